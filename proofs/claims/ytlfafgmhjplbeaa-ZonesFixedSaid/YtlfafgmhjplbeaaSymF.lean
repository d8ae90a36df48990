/- The operators, and the other operations that leave memory as it is: all of them. -/
import Derived.Test.YtlfafgmhjplbeaaSymE
namespace Go.Sym
open Go.RowKit
section
variable {P : Program} {w₀ : World} {G₀ : Gh} {hp₀ : List (Nat × Box)} {G : Gh} {s : St} {a : Act} {w : World}

theorem eqGuard_core {op : BinOp} {t : TypeId} {x y : Operand} {c e : Value} (k1 : ∀ xs ys, c = .agg xs → e = .agg ys → P.eqGuardType P.depth t = false) (k2 : c ≠ .nilIface) : (eqGuard op t x y c e).run P w = .ok () w := by
  cases c with
  | agg xs =>
    cases e with
    | agg ys => have h := k1 xs ys rfl rfl; simp [eqGuard, h]
    | _ => simp [eqGuard]
  | nilIface => exact absurd rfl k2
  | _ => simp [eqGuard]
theorem eqGuard_ok {op : BinOp} {t : TypeId} {x y : Operand} {u v : AV} {c e : Value} (hx : Rep u G c) (hy : Rep v G e) {ps : List Prop} {r : AV} (h : abin P op t u v = some (ps, r)) : (eqGuard op t x y c e).run P w = .ok () w := by
  have key : (∀ xs ys, c = .agg xs → e = .agg ys → P.eqGuardType P.depth t = false) ∧ c ≠ .nilIface := by
      unfold abin at h
      split at h
      · simp only [Rep] at hx; subst hx; exact ⟨by simp, by simp⟩
      · simp only [Rep] at hx; subst hx; exact ⟨by simp, by simp⟩
      · simp only [Rep] at hx; subst hx; exact ⟨by simp, by simp⟩
      · simp only [Rep] at hx; subst hx; exact ⟨by simp, by simp⟩
      · simp only [Rep] at hx; subst hx; exact ⟨by simp, by simp⟩
      · have ha : ∃ b, aeq P t u v = some b := by
          cases hq : aeq P t u v with
          | some b => exact ⟨b, rfl⟩
          | none => rw [hq] at h; revert h; cases op <;> simp
        obtain ⟨b, hb⟩ := ha
        unfold aeq at hb
        split at hb
        · obtain ⟨us, rfl, _⟩ := hx
          refine ⟨fun xs ys _ _ => ?_, by simp⟩
          split at hb
          · cases hs : P.stoodInHeld t || P.eqGuardType P.depth t <;> rw [hs] at hb <;> simp only [cond_true, cond_false, reduceCtorEq] at hb
            simp only [Bool.or_eq_false_iff] at hs
            exact hs.2
          · cases hb
        · unfold aeq1 at hb
          split at hb <;> first | (simp only [Rep] at hx; subst hx; exact ⟨by simp, by simp⟩) | cases hb
  exact eqGuard_core key.1 key.2

theorem abin_ok {op : BinOp} {t : TypeId} {x y : AV} {u v : Value} (hx : Rep x G u) (hy : Rep y G v) {ps : List Prop} {r : AV} (h : abin P op t x y = some (ps, r)) (hp : Alls ps) : ∃ z, (binOp op t u v).run P w = .ok z w ∧ Rep r G z := by
  unfold abin at h
  split at h
  · rename_i k a k' b
    simp only [Rep] at hx hy; subst hx hy
    cases hk : decide (op = .shl) || decide (op = .shr) || decide (k = k') <;> rw [hk] at h <;> simp only [cond_true, cond_false, reduceCtorEq] at h
    cases hk8 : decide (k = .u8) || decide (k' = .u8) <;> rw [hk8] at h <;> simp only [cond_true, cond_false, reduceCtorEq] at h
    by_cases he : k = k'
    · subst he; exact abinI_ok h hp
    · simp only [he, decide_false, Bool.or_false, Bool.or_eq_true, decide_eq_true_eq] at hk
      rcases hk with rfl | rfl
      · simp only [abinI, Option.some.injEq, Prod.mk.injEq] at h
        obtain ⟨rfl, rfl⟩ := h
        simp only [Alls, and_true] at hp
        exact ⟨_, by simp [binOp, Op.shift, show ¬ b < 0 by omega], rfl⟩
      · simp only [abinI, Option.some.injEq, Prod.mk.injEq] at h
        obtain ⟨rfl, rfl⟩ := h
        simp only [Alls, and_true] at hp
        exact ⟨_, by simp [binOp, Op.shift, show ¬ b < 0 by omega], rfl⟩
  · simp only [Rep] at hx hy; subst hx hy; exact abin8_ok h hp
  · rename_i a k b
    simp only [Rep] at hx hy; subst hx hy
    split at h
    · simp only [Option.some.injEq, Prod.mk.injEq] at h
      obtain ⟨rfl, rfl⟩ := h
      simp only [Alls, and_true] at hp
      refine ⟨.int .u8 (IntKind.u8.wrap (a.toNat * 2 ^ min b.toNat 8)), by simp [binOp, Op.shift, IntKind.bits, show ¬ b < 0 by omega], ?_⟩
      simp only [Rep]; rw [u8_wrap_eq _ (u8shl a (min b.toNat 8))]
      simp [u8shl, UInt8.toNat_ofNat']
    · simp only [Option.some.injEq, Prod.mk.injEq] at h
      obtain ⟨rfl, rfl⟩ := h
      simp only [Alls, and_true] at hp
      refine ⟨.int .u8 ((a.toNat : Int).fdiv (2 ^ min b.toNat 8)), by simp [binOp, Op.shift, IntKind.bits, show ¬ b < 0 by omega], ?_⟩
      simp only [Rep]; congr 1
      have h1 : a.toNat / 2 ^ min b.toNat 8 ≤ a.toNat := Nat.div_le_self _ _
      have := a.toNat_lt
      unfold u8shr
      rw [toNat_ofNat8 _ (by omega), Int.fdiv_eq_ediv_of_nonneg _ (by exact Int.le_of_lt (Int.pow_pos (by omega)))]
      simp
    · cases h
  · rename_i k a b
    simp only [Rep] at hx hy; subst hx hy
    cases hk8 : decide (k = .u8) <;> rw [hk8] at h <;> simp only [cond_true, cond_false, reduceCtorEq] at h
    split at h
    · simp only [Option.some.injEq, Prod.mk.injEq] at h
      obtain ⟨rfl, rfl⟩ := h
      exact ⟨_, by simp [binOp, Op.shift, show ¬ (b.toNat : Int) < 0 by omega], rfl⟩
    · simp only [Option.some.injEq, Prod.mk.injEq] at h
      obtain ⟨rfl, rfl⟩ := h
      exact ⟨_, by simp [binOp, Op.shift, show ¬ (b.toNat : Int) < 0 by omega], rfl⟩
    · cases h
  · simp only [Rep] at hx hy; subst hx hy; exact abinS_ok h hp
  · rename_i n1 n2 n3 n4 n5
    -- == and != of other values
    have fin : ∀ b, aeq P t x y = some b → (binOp .eql t u v).run P w = .ok (.bool b) w ∧ (binOp .neq t u v).run P w = .ok (.bool (!b)) w := by
      intro b hb
      have he := aeq_ok (w := w) hb hx hy
      unfold aeq at hb
      split at hb
      · obtain ⟨us, rfl, _⟩ := hx; obtain ⟨vs, rfl, _⟩ := hy
        exact ⟨by simp [binOp, he], by simp [binOp, he]⟩
      · unfold aeq1 at hb
        split at hb
        · exact absurd rfl (n1 _ _ _ _ rfl)
        · exact absurd rfl (n2 _ _ rfl)
        · simp only [Rep] at hx hy; subst hx hy; exact ⟨by simp [binOp, he], by simp [binOp, he]⟩
        · exact absurd rfl (n5 _ _ rfl)
        · cases hb
    split at h
    · split at h
      · rename_i b hb
        simp only [Option.some.injEq, Prod.mk.injEq] at h
        obtain ⟨rfl, rfl⟩ := h
        exact ⟨_, (fin b hb).1, rfl⟩
      · cases h
    · split at h
      · rename_i b hb
        simp only [Option.some.injEq, Prod.mk.injEq] at h
        obtain ⟨rfl, rfl⟩ := h
        exact ⟨_, (fin b hb).2, rfl⟩
      · cases h
    · cases h
theorem aun_ok {op : UnOp} {x : AV} {u : Value} (hx : Rep x G u) {r : AV} (h : aun op x = some r) : ∃ z, (Op.unary op u).run P w = .ok z w ∧ Rep r G z := by
  unfold aun at h
  split at h
  · simp only [Rep] at hx; subst hx
    simp only [Option.some.injEq] at h; subst h
    exact ⟨_, by simp [Op.unary], rfl⟩
  · rename_i k n
    simp only [Rep] at hx; subst hx
    cases hk8 : decide (k = .u8) <;> rw [hk8] at h <;> simp only [cond_true, cond_false, reduceCtorEq, Option.some.injEq] at h
    subst h
    exact ⟨.int k (k.wrap (0 - n)), by simp [Op.unary, Op.intArith], rfl⟩
  · cases h
theorem aIndex_ok {t : TypeId} {x i : AV} {u j : Value} {d : D} (hx : Rep x G u) (hi : Rep i G j) {ps : List Prop} {r : AV} (h : aIndex P t x i d = some (ps, r)) (hp : Alls ps) : ∃ z, (Instr.index t u j).run P w = .ok z w ∧ Rep r G z := by
  unfold aIndex at h
  split at h
  · rename_i b k n c hu
    simp only [Rep] at hx hi; subst hx hi
    simp only [Option.some.injEq, Prod.mk.injEq] at h
    obtain ⟨rfl, rfl⟩ := h
    simp only [Alls, and_true] at hp
    obtain ⟨h0, h1⟩ := hp
    refine ⟨.int .u8 c.toNat, ?_, rfl⟩
    have : (⟨b.toArray⟩ : ByteArray)[n.toNat]? = some c := by
      rw [show (⟨b.toArray⟩ : ByteArray)[n.toNat]? = b.toArray[n.toNat]? from rfl]; simpa using h1
    simp [Instr.index, asIntOf, run_underlying' hu, h0, this]
  · rename_i b n c hu
    simp only [Rep] at hx hi; subst hx hi
    simp only [Option.some.injEq, Prod.mk.injEq] at h
    obtain ⟨rfl, rfl⟩ := h
    simp only [Alls, and_true] at hp
    refine ⟨.int .u8 c.toNat, ?_, rfl⟩
    have : (⟨b.toArray⟩ : ByteArray)[n.toNat]? = some c := by
      rw [show (⟨b.toArray⟩ : ByteArray)[n.toNat]? = b.toArray[n.toNat]? from rfl]; simpa using hp
    simp [Instr.index, asIntOf, run_underlying' hu, this]
  · rename_i len E cs k n x hu
    obtain ⟨vs, rfl, hv⟩ := hx
    simp only [Rep] at hi; subst hi
    split at h
    · rename_i ha hsz
      cases hq : Nat.beq cs.length len <;> rw [hq] at h <;> simp only [cond_true, cond_false, reduceCtorEq, Option.some.injEq, Prod.mk.injEq] at h
      obtain ⟨rfl, rfl⟩ := h
      simp only [Alls, and_true] at hp
      obtain ⟨h0, h1⟩ := hp
      have hlt := (List.getElem?_eq_some_iff.1 h1).1
      have hlen := Nat.eq_of_beq_eq_true hq
      obtain ⟨u, hu', hru⟩ := reps_get hv h1
      refine ⟨u, ?_, hru⟩
      have h2 : vs[n.toNat]? = some u := by simpa using hu'
      simp [Instr.index, asIntOf, run_underlying' hu, h0, show n < (len : Int) by omega, part, run_isAgg' ha, run_sizeOf' hsz, h2]
    · cases h
  · cases h
end
end Go.Sym
