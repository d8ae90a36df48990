/- The operators. -/
import Derived.Test.YtlfafgmhjplbeaaSymD
namespace Go.Sym
open Go.RowKit
section
variable {P : Program} {w₀ : World} {G₀ : Gh} {hp₀ : List (Nat × Box)} {G : Gh} {s : St} {a : Act} {w : World}

theorem abinI_ok {op : BinOp} {k : IntKind} {x y : Int} {t : TypeId} {ps : List Prop} {v : AV} (h : abinI op k x y = some (ps, v)) (hp : Alls ps) : ∃ u, (binOp op t (.int k x) (.int k y)).run P w = .ok u w ∧ Rep v G u := by
  cases op <;> simp only [abinI, Option.some.injEq, Prod.mk.injEq, reduceCtorEq] at h <;> obtain ⟨rfl, rfl⟩ := h <;> simp only [Alls, and_true] at hp
  case quo => exact ⟨_, by simp [binOp, Op.intDiv, hp], rfl⟩
  case rem => exact ⟨_, by simp [binOp, Op.intDiv, hp], rfl⟩
  case shl => exact ⟨_, by simp [binOp, Op.shift, show ¬ y < 0 by omega], rfl⟩
  case shr => exact ⟨_, by simp [binOp, Op.shift, show ¬ y < 0 by omega], rfl⟩
  all_goals first
    | exact ⟨_, by simp [binOp, Op.intArith, Op.intBits, Op.intCmp], rfl⟩
    | exact ⟨_, by simp [binOp, Op.intArith, Op.intBits, Op.intCmp]; rfl, rfl⟩

theorem u8_wrap_eq (n : Int) (c : UInt8) (h : n % 256 = c.toNat) : IntKind.u8.wrap n = c.toNat := by
  simp [IntKind.wrap, IntKind.bits, IntKind.signed]; omega
theorem abin8_ok {op : BinOp} {x y : UInt8} {t : TypeId} {ps : List Prop} {v : AV} (h : abin8 op x y = some (ps, v)) (hp : Alls ps) : ∃ u, (binOp op t (.int .u8 x.toNat) (.int .u8 y.toNat)).run P w = .ok u w ∧ Rep v G u := by
  have hx := x.toNat_lt; have hy := y.toNat_lt
  cases op <;> simp only [abin8, Option.some.injEq, Prod.mk.injEq, reduceCtorEq] at h <;> obtain ⟨rfl, rfl⟩ := h <;> simp only [Alls, and_true] at hp
  case add => exact ⟨.int .u8 (IntKind.u8.wrap (x.toNat + y.toNat)), by simp [binOp, Op.intArith], by simp only [Rep]; rw [u8_wrap_eq _ (x + y) (by rw [UInt8.toNat_add]; omega)]⟩
  case sub => exact ⟨.int .u8 (IntKind.u8.wrap (x.toNat - y.toNat)), by simp [binOp, Op.intArith], by simp only [Rep]; rw [u8_wrap_eq _ (x - y) (by rw [UInt8.toNat_sub]; omega)]⟩
  case mul => exact ⟨.int .u8 (IntKind.u8.wrap (x.toNat * y.toNat)), by simp [binOp, Op.intArith], by simp only [Rep]; rw [u8_wrap_eq _ (x * y) (by rw [UInt8.toNat_mul]; simp)]⟩
  case quo =>
    have hy0 : (y.toNat : Int) ≠ 0 := by intro e; apply hp; apply UInt8.toNat_inj.1; simp; omega
    refine ⟨.int .u8 (IntKind.u8.wrap ((x.toNat : Int).tdiv y.toNat)), by simp [binOp, Op.intDiv]; omega, ?_⟩
    simp only [Rep]; rw [u8_wrap_eq _ (x / y)]
    rw [UInt8.toNat_div, Int.tdiv_eq_ediv_of_nonneg (by omega)]
    have : x.toNat / y.toNat ≤ x.toNat := Nat.div_le_self _ _
    rw [← Int.natCast_ediv]
    generalize x.toNat / y.toNat = q at *
    omega
  case rem =>
    have hy0 : (y.toNat : Int) ≠ 0 := by intro e; apply hp; apply UInt8.toNat_inj.1; simp; omega
    refine ⟨.int .u8 ((x.toNat : Int).tmod y.toNat), by simp [binOp, Op.intDiv]; omega, ?_⟩
    simp only [Rep]; rw [UInt8.toNat_mod, Int.tmod_eq_emod_of_nonneg (by omega)]; simp
  case eql => exact ⟨.bool ((x.toNat : Int) == y.toNat), by simp [binOp, Op.intCmp], by simp only [Rep]; congr 1; rw [Bool.eq_iff_iff]; simp [← UInt8.toNat_inj]; omega⟩
  case neq => exact ⟨.bool ((x.toNat : Int) != y.toNat), by simp [binOp, Op.intCmp], by simp only [Rep]; congr 1; rw [Bool.eq_iff_iff]; simp [← UInt8.toNat_inj]; omega⟩
  case lss => exact ⟨.bool (decide ((x.toNat : Int) < y.toNat)), by simp [binOp, Op.intCmp], by simp only [Rep]; congr 1; rw [Bool.eq_iff_iff]; simp [UInt8.lt_iff_toNat_lt]⟩
  case leq => exact ⟨.bool (decide ((x.toNat : Int) ≤ y.toNat)), by simp [binOp, Op.intCmp], by simp only [Rep]; congr 1; rw [Bool.eq_iff_iff]; simp [UInt8.le_iff_toNat_le]⟩
  case gtr => exact ⟨.bool (decide ((x.toNat : Int) > y.toNat)), by simp [binOp, Op.intCmp], by simp only [Rep]; congr 1; rw [Bool.eq_iff_iff]; simp [UInt8.lt_iff_toNat_lt]⟩
  case geq => exact ⟨.bool (decide ((x.toNat : Int) ≥ y.toNat)), by simp [binOp, Op.intCmp], by simp only [Rep]; congr 1; rw [Bool.eq_iff_iff]; simp [UInt8.le_iff_toNat_le]⟩
  case and =>
    refine ⟨_, by simp [binOp, Op.intBits]; rfl, ?_⟩
    simp only [Rep]; rw [u8_wrap_eq _ (x &&& y)]
    have hb := (x &&& y).toNat_lt
    rw [UInt8.toNat_and] at hb
    simp [IntKind.bits]; omega
  case or =>
    refine ⟨_, by simp [binOp, Op.intBits]; rfl, ?_⟩
    simp only [Rep]; rw [u8_wrap_eq _ (x ||| y)]
    have hb := (x ||| y).toNat_lt
    rw [UInt8.toNat_or] at hb
    simp [IntKind.bits]; omega
  case xor =>
    refine ⟨_, by simp [binOp, Op.intBits]; rfl, ?_⟩
    simp only [Rep]; rw [u8_wrap_eq _ (x ^^^ y)]
    have hb := (x ^^^ y).toNat_lt
    rw [UInt8.toNat_xor] at hb
    simp [IntKind.bits]; omega
  case shl =>
    refine ⟨.int .u8 (IntKind.u8.wrap (x.toNat * 2 ^ min y.toNat 8)), by simp [binOp, Op.shift, IntKind.bits, show ¬ (y.toNat : Int) < 0 by omega], ?_⟩
    simp only [Rep]; rw [u8_wrap_eq _ (u8shl x (min y.toNat 8))]
    simp [u8shl, UInt8.toNat_ofNat']
  case shr =>
    refine ⟨.int .u8 ((x.toNat : Int).fdiv (2 ^ min y.toNat 8)), by simp [binOp, Op.shift, IntKind.bits, show ¬ (y.toNat : Int) < 0 by omega], ?_⟩
    simp only [Rep]; congr 1
    have h1 : x.toNat / 2 ^ min y.toNat 8 ≤ x.toNat := Nat.div_le_self _ _
    unfold u8shr
    rw [toNat_ofNat8 _ (by omega), Int.fdiv_eq_ediv_of_nonneg _ (by exact Int.le_of_lt (Int.pow_pos (by omega)))]
    simp

theorem data_toArray (l : List UInt8) : (⟨l.toArray⟩ : ByteArray).toList = l := by
  rw [ByteArray.toList_eq]
theorem abinS_ok {op : BinOp} {x y : List UInt8} {t : TypeId} {ps : List Prop} {v : AV} (h : abinS op x y = some (ps, v)) (hp : Alls ps) : ∃ u, (binOp op t (.string ⟨x.toArray⟩) (.string ⟨y.toArray⟩)).run P w = .ok u w ∧ Rep v G u := by
  cases op <;> simp only [abinS, Option.some.injEq, Prod.mk.injEq, reduceCtorEq] at h <;> obtain ⟨rfl, rfl⟩ := h <;> simp only [Alls, and_true] at hp
  case add =>
    unfold strMax at hp
    refine ⟨.string (⟨x.toArray⟩ ++ ⟨y.toArray⟩), ?_, ?_⟩
    · have h1 : (⟨x.toArray⟩ : ByteArray).size = x.length := by simp [ByteArray.size]
      have h2 : (⟨y.toArray⟩ : ByteArray).size = y.length := by simp [ByteArray.size]
      have : ¬ ((x.length + y.length : Nat) : Int) > IntKind.i64.max := by simp [IntKind.max, IntKind.signed, IntKind.bits]; omega
      simp [binOp, Op.stringOp, h1, h2]; simpa using this
    · simp only [Rep]; congr 1
  all_goals exact ⟨_, by simp [binOp, Op.stringOp, data_toArray], rfl⟩

theorem aeq1_ok {t : TypeId} {x y : AV} {u v : Value} {b : Bool} {d : Nat} (h : aeq1 P t x y = some b) (hx : Rep x G u) (hy : Rep y G v) : (Op.equalIn (d + 1) t u v).run P w = .ok b w := by
  unfold aeq1 at h
  split at h
  · rename_i k0 k a k' b' hu
    simp only [Rep] at hx hy; subst hx hy
    cases hk : decide (k = k') <;> rw [hk] at h <;> simp only [cond_true, cond_false, Option.some.injEq, reduceCtorEq] at h
    subst h
    have : k = k' := by simpa using hk
    subst this
    simp [Op.equalIn, run_underlying' hu]
  · rename_i k0 a b' hu
    simp only [Rep] at hx hy; subst hx hy
    simp only [Option.some.injEq] at h; subst h
    simp [Op.equalIn, run_underlying' hu]
    rw [Bool.eq_iff_iff]; simp [← UInt8.toNat_inj]; omega
  · rename_i a b' hu
    simp only [Rep] at hx hy; subst hx hy
    simp only [Option.some.injEq] at h; subst h
    simp [Op.equalIn, run_underlying' hu]
  · rename_i a b' hu
    simp only [Rep] at hx hy; subst hx hy
    simp only [Option.some.injEq] at h; subst h
    simp [Op.equalIn, run_underlying' hu, beq_toListBytes]
  · cases h

theorem tAgg_of_basic {t : TypeId} {x y : AV} {b : Bool} (h : aeq1 P t x y = some b) : tAgg P t = some false := by
  unfold aeq1 at h
  unfold tAgg
  split at h <;> first | (rename_i hu; rw [hu]) | cases h

theorem aeqFields_ok {xs ys : List AV} {us vs : Array Value} (hx : Reps xs G us.toList) (hy : Reps ys G vs.toList) {d : Nat} : ∀ {fs : List Field} {b : Bool}, aeqFields P xs ys fs = some b → (Op.eqFields (d + 1) us vs fs).run P w = .ok b w
  | [], b, h => by simp [aeqFields] at h; subst h; simp [Op.eqFields]
  | f :: fs, b, h => by
    simp only [aeqFields] at h
    cases hn : f.name == "_" <;> rw [hn] at h <;> simp only [cond_true, cond_false, reduceCtorEq] at h
    split at h
    · rename_i x y hxx hyy
      split at h
      · cases h
      · rename_i b1 hb1
        split at h
        · cases h
        · rename_i r hrr
          simp only [Option.some.injEq] at h; subst h
          obtain ⟨u, hu, hru⟩ := reps_get hx hxx
          obtain ⟨v, hv, hrv⟩ := reps_get hy hyy
          have hagg := tAgg_of_basic hb1
          have p1 : (part f.type us f.offset).run P w = .ok u w := by
            have : us[f.offset]? = some u := by simpa using hu
            simp [part, run_isAgg' hagg, this]
          have p2 : (part f.type vs f.offset).run P w = .ok v w := by
            have : vs[f.offset]? = some v := by simpa using hv
            simp [part, run_isAgg' hagg, this]
          have ih := aeqFields_ok hx hy (d := d) hrr
          have hn' : ¬ f.name = "_" := by simpa using hn
          have he := aeq1_ok (P := P) (w := w) (d := d) hb1 hru hrv
          simp only [Op.eqFields, hn', ne_eq, not_false_eq_true, if_true, Sem.run_bind, p1, p2, Result.andThen_ok, he]
          cases b1 <;> simp [ih]
    · cases h
theorem aeq_ok {t : TypeId} {x y : AV} {u v : Value} {b : Bool} (h : aeq P t x y = some b) (hx : Rep x G u) (hy : Rep y G v) : (Op.equal t u v).run P w = .ok b w := by
  unfold aeq at h
  split at h
  · rename_i xs ys
    split at h
    · rename_i fields hu
      obtain ⟨us, rfl, hus⟩ := hx
      obtain ⟨vs, rfl, hvs⟩ := hy
      cases hs : P.stoodInHeld t || P.eqGuardType P.depth t <;> rw [hs] at h <;> simp only [cond_true, cond_false, reduceCtorEq] at h
      simp only [Bool.or_eq_false_iff] at hs
      have hf : P.fieldsOf t = fields := by simp [Program.fieldsOf, hu]
      unfold Op.equal Op.maxDepth
      rw [show 10000 = 9998 + 1 + 1 by rfl, run_equalIn_struct w _ t us vs (by rw [hf, hu]) hs.1, hf]
      exact aeqFields_ok hus hvs h
    · cases h
  · unfold Op.equal Op.maxDepth
    exact aeq1_ok (d := 9999) h hx hy
end
end Go.Sym
