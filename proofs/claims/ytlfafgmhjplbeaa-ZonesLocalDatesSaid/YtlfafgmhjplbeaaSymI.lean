/- New boxes; calls. -/
import Derived.Test.YtlfafgmhjplbeaaSymH3
namespace Go.Sym
open Go.RowKit
section
variable {P : Program} {w₀ : World} {G₀ : Gh} {hp₀ : List (Nat × Box)} {G : Gh} {s : St} {a : Act} {w : World}

/-- a new box of known cells -/
theorem box_rel (hr : Rel w₀ G₀ hp₀ G s a w) {t : Tmp} {cs : List AV} {T : TypeId} {vs : Array Value} {s' : St} (hn : noRange (s.nx + 16 * t) s.hp = true) (hcs : Reps cs G vs.toList) (hone : ∀ v ∈ vs.toList, v.oneCell' = true)
    (hs : s.add (some t) (.ptr (s.nx + 16 * t) 0) [(s.nx + 16 * t, .cells cs T)] = some s') :
    ∃ G', Rel w₀ G₀ hp₀ G' s' (a.put (some t) (.pointer (some ⟨w.heap.size, 0, none⟩))) (w.alloc (.cells vs T)) := by
  let k := s.nx + 16 * t
  let G' : Gh := { imm := G.imm, box := fun m => bif Nat.beq m k then some w.heap.size else G.box m, own := G.own }
  have hk : look s.hp k = none := noRange_look hn k (Nat.le_refl _) (by omega)
  obtain ⟨hkb, hko⟩ := hr.fresh k (by omega) hk
  have hle : G.le G' := ⟨fun _ _ _ h => h, fun n B h => by
    show (bif Nat.beq n k then some w.heap.size else G.box n) = _
    cases hb : Nat.beq n k
    · exact h
    · (have := Nat.eq_of_beq_eq_true hb; subst this; rw [hkb] at h; cases h), fun _ _ h => h⟩
  have hbox : G'.box k = some w.heap.size := by show (bif Nat.beq k k then some w.heap.size else G.box k) = _; simp
  have hl1 : ∀ n bx, look [(k, Box.cells cs T)] n = some bx → n = k ∧ bx = .cells cs T := fun n bx h => by
    simp only [look] at h
    cases hb : Nat.beq k n
    · rw [hb] at h; cases h
    · rw [hb] at h; simp only [cond_true, Option.some.injEq] at h
      exact ⟨(Nat.eq_of_beq_eq_true hb).symm, h.symm⟩
  have hlt : ∀ b o v, G.imm b o = some v → b < w.heap.size := fun b o v h => by
    have := hr.fin.mem.agree _ _ _ h
    exact World.block_lt_of_cell? _ _ this
  refine ⟨G', hr.put hs hle ?_ ⟨w.heap.size, hbox, rfl⟩ ?_⟩
  · intro m hm hl
    rw [look_append] at hl
    have hne : k ≠ m := fun e => by
      subst e
      have : Nat.beq (s.nx + 16 * t) k = true := by simp [k]
      simp only [look, this, cond_true, reduceCtorEq] at hl
    have hl2 : look s.hp m = none := by
      have : look [(k, Box.cells cs T)] m = none := by simp only [look]; cases hb : Nat.beq k m; · rfl
                                                       · exact absurd (Nat.eq_of_beq_eq_true hb) hne
      rw [this] at hl; exact hl
    obtain ⟨h1, h2⟩ := hr.fresh m hm hl2
    refine ⟨?_, h2⟩
    show (bif Nat.beq m k then some w.heap.size else G.box m) = _
    cases hb : Nat.beq m k
    · exact h1
    · exact absurd (Nat.eq_of_beq_eq_true hb).symm hne
  · refine hr.fin.extend hle (still_alloc _ _) (fun _ _ _ h => .inl h) (fun b o v h => ?_) hr.fin.mem.one ?_ ?_ ?_
    · rw [World.cell?_alloc_lt _ _ _ (hlt b o v h)]; exact hr.fin.mem.agree _ _ _ h
    · intro n bx h
      obtain ⟨rfl, _⟩ := hl1 n bx h; exact hk
    · intro n bx h
      obtain ⟨rfl, rfl⟩ := hl1 n bx h
      refine ⟨⟨w.heap.size, vs, hbox, heap_alloc_top _ _, hcs.le hle, hone, fun o => ?_⟩, fun b hb => ?_⟩
      · cases hq : G'.imm w.heap.size o with
        | none => rfl
        | some v => have := hlt _ _ _ hq; omega
      · simp only [Gh.at, hbox, Option.some.injEq] at hb; omega
    · intro n m bx bx' b h1 h2 _ _
      obtain ⟨rfl, _⟩ := hl1 n bx h1
      obtain ⟨rfl, _⟩ := hl1 m bx' h2
      rfl

theorem look_shift (ρ : Nat → Option Nat) (k : Nat) : ∀ (l : List (Nat × Box)) (m : Nat), look (shiftHp ρ k l) m = if k ≤ m then (look l (m - k)).map (renB ρ) else none
  | [], m => by simp [shiftHp, look]
  | (n, b) :: r, m => by
    simp only [shiftHp, look, look_shift ρ k r m]
    by_cases hm : k ≤ m
    · simp only [hm, if_true]
      by_cases he : k + n = m
      · have h1 : Nat.beq (k + n) m = true := by simpa using he
        have h2 : Nat.beq n (m - k) = true := by simp; omega
        rw [h1, h2]; rfl
      · have h1 : Nat.beq (k + n) m = false := by cases hb : Nat.beq (k + n) m; · rfl
                                                  · exact absurd (Nat.eq_of_beq_eq_true hb) he
        have h2 : Nat.beq n (m - k) = false := by cases hb : Nat.beq n (m - k); · rfl
                                                  · have := Nat.eq_of_beq_eq_true hb; omega
        rw [h1, h2]; rfl
    · simp only [hm, if_false]
      have h1 : Nat.beq (k + n) m = false := by cases hb : Nat.beq (k + n) m; · rfl
                                                · have := Nat.eq_of_beq_eq_true hb; omega
      rw [h1]; rfl
theorem namesLt_look {m : Nat} : ∀ {hp : List (Nat × Box)}, namesLt m hp = true → ∀ n bx, look hp n = some bx → n < m
  | [], _, n, bx, h => by cases h
  | (k, b) :: r, h, n, bx, hl => by
    simp only [namesLt, Bool.and_eq_true, Nat.blt_eq] at h
    simp only [look] at hl
    cases hb : Nat.beq k n
    · rw [hb] at hl; exact namesLt_look h.2 n bx hl
    · have := Nat.eq_of_beq_eq_true hb; omega

/-- behind a call -/
theorem call_rel (hr : Rel w₀ G₀ hp₀ G s a w) {t : Tmp} {r : AV} {hp' : List (Nat × Box)} {s' : St} (hn : noRange (s.nx + 16 * t) s.hp = true) (hl : namesLt 16 hp' = true)
    {e : Ending} {w' : World} (hpost : Post w G [] r hp' e w')
    (hs : s.add (some t) (AV.ren (shift hp' (s.nx + 16 * t)) r) (shiftHp (shift hp' (s.nx + 16 * t)) (s.nx + 16 * t) hp') = some s') :
    ∃ G' v, e = .returned v ∧ Rel w₀ G₀ hp₀ G' s' (a.put (some t) v) w' := by
  obtain ⟨v, G1, rfl, hf, hv⟩ := hpost
  let k := s.nx + 16 * t
  let G' : Gh := { imm := G1.imm, box := fun m => match G.box m with | some B => some B | none => if k ≤ m ∧ (look hp' (m - k)).isSome then G1.box (m - k) else none,
                   own := fun m => match G.own m with | some B => some B | none => if k ≤ m ∧ (look hp' (m - k)).isSome then G1.own (m - k) else none }
  have hle : G.le G' := ⟨hf.imm_le, fun n B h => by show (match G.box n with | some B => some B | none => _) = _; rw [h], fun n B h => by show (match G.own n with | some B => some B | none => _) = _; rw [h]⟩
  have hfree : ∀ n bx, look hp' n = some bx → look s.hp (k + n) = none ∧ G.box (k + n) = none ∧ G.own (k + n) = none := fun n bx h => by
    have hlt := namesLt_look hl n bx h
    have h1 := noRange_look hn (k + n) (by omega) (by omega)
    exact ⟨h1, hr.fresh _ (by omega) h1⟩
  have hbox : ∀ n bx, look hp' n = some bx → G'.box (k + n) = G1.box n := fun n bx h => by
    obtain ⟨_, h2, _⟩ := hfree n bx h
    show (match G.box (k + n) with | some B => some B | none => _) = _
    rw [h2]; simp [h]
  have hown : ∀ n bx, look hp' n = some bx → G'.own (k + n) = G1.own n := fun n bx h => by
    obtain ⟨_, _, h2⟩ := hfree n bx h
    show (match G.own (k + n) with | some B => some B | none => _) = _
    rw [h2]; simp [h]
  have hsome : ∀ n n', shift hp' k n = some n' → n' = k + n ∧ ∃ bx, look hp' n = some bx := fun n n' h => by
    unfold shift at h
    cases hq : look hp' n with
    | none => rw [hq] at h; cases h
    | some bx => rw [hq] at h; simp only [Option.some.injEq] at h; exact ⟨h.symm, bx, rfl⟩
  have rb : ∀ n n' B, shift hp' k n = some n' → G1.box n = some B → G'.box n' = some B := fun n n' B h h1 => by
    obtain ⟨rfl, bx, hb⟩ := hsome n n' h; rw [hbox n bx hb]; exact h1
  have ro : ∀ n n' B, shift hp' k n = some n' → G1.own n = some B → G'.own n' = some B := fun n n' B h h1 => by
    obtain ⟨rfl, bx, hb⟩ := hsome n n' h; rw [hown n bx hb]; exact h1
  have hat : ∀ n bx, look hp' n = some bx → G'.at (k + n) (renB (shift hp' k) bx) = G1.at n bx := fun n bx h => by
    cases bx with
    | cells cs T => simp only [renB, Gh.at]; exact hbox n _ h
    | row sz enc l E => simp only [renB, Gh.at]; rw [hown n _ h]
    | dead => rfl
  have hnb : ∀ b, ¬ blocks G [] b := fun b ⟨n, bx, h, _⟩ => by cases h
  have hst : Still w w' := ⟨hf.bel.os, hf.bel.tape, hf.bel.output, hf.bel.size, fun j hj _ => hf.bel.block j hj (hnb j)⟩
  have hlk : ∀ m bx, look (shiftHp (shift hp' k) k hp') m = some bx → ∃ n b0, m = k + n ∧ look hp' n = some b0 ∧ bx = renB (shift hp' k) b0 := fun m bx h => by
    rw [look_shift] at h
    split at h
    · rename_i hm
      cases hq : look hp' (m - k) with
      | none => rw [hq] at h; cases h
      | some b0 => rw [hq] at h; simp only [Option.map_some, Option.some.injEq] at h; exact ⟨m - k, b0, by omega, hq, h.symm⟩
    · cases h
  refine ⟨G', v, rfl, hr.put hs hle ?_ (Rep.ren (G := G1) (G' := G') (fun _ _ _ h => h) rb ro hv) ?_⟩
  · intro m hm hlm
    rw [look_append] at hlm
    have h1 : look (shiftHp (shift hp' k) k hp') m = none := by
      cases hq : look (shiftHp (shift hp' k) k hp') m with
      | none => rfl
      | some b => rw [show shiftHp (shift hp' (s.nx + 16 * t)) (s.nx + 16 * t) hp' = shiftHp (shift hp' k) k hp' from rfl, hq] at hlm; cases hlm
    have h2 : look s.hp m = none := by
      rw [show shiftHp (shift hp' (s.nx + 16 * t)) (s.nx + 16 * t) hp' = shiftHp (shift hp' k) k hp' from rfl, h1] at hlm; exact hlm
    obtain ⟨h3, h4⟩ := hr.fresh m hm h2
    rw [look_shift] at h1
    have h5 : ¬ (k ≤ m ∧ (look hp' (m - k)).isSome) := fun ⟨h6, h7⟩ => by
      rw [if_pos h6] at h1
      cases hq : look hp' (m - k) with
      | none => rw [hq] at h7; cases h7
      | some b => rw [hq] at h1; cases h1
    constructor
    · show (match G.box m with | some B => some B | none => _) = _; rw [h3]; simp only [h5, if_false]
    · show (match G.own m with | some B => some B | none => _) = _; rw [h4]; simp only [h5, if_false]
  · refine hr.fin.extend hle hst (fun b o v h => ?_) hf.mem.agree hf.mem.one ?_ ?_ ?_
    · rcases hf.imm_new b o v h with h | h | h
      · exact .inl h
      · exact .inr h
      · exact absurd h (hnb b)
    · intro m bx h
      obtain ⟨n, b0, rfl, hq, _⟩ := hlk m bx h
      exact (hfree n b0 hq).1
    · intro m bx h
      obtain ⟨n, b0, rfl, hq, rfl⟩ := hlk m bx h
      refine ⟨?_, fun b hb => ?_⟩
      · have hb := hf.mem.holds n b0 hq
        cases b0 with
        | cells cs T =>
          obtain ⟨B, vs, h1, h2, h3, h4, h5⟩ := hb
          exact ⟨B, vs, by rw [hbox n _ hq]; exact h1, h2, Reps.ren (G := G1) (G' := G') (fun _ _ _ h => h) rb ro h3, h4, h5⟩
        | row sz enc l E =>
          obtain ⟨ad, c, h1, h2, h3⟩ := hb
          refine ⟨ad, c, by rw [hown n _ hq]; exact h1, h2, ?_⟩
          rcases h3 with h3 | ⟨g, vs, fz, k1, k2, k3, k4, k5, k6, k7, k8, k9⟩
          · exact .inl h3
          · exact .inr ⟨g, vs, fz, k1, k2, k3, k4, k5, k6, k7, k8, k9⟩
        | dead => trivial
      · rw [hat n b0 hq] at hb
        rcases hf.base n b0 b hq hb with h | h
        · exact h
        · exact absurd h (hnb b)
    · intro m m' bx bx' b h1 h2 h3 h4
      obtain ⟨n, b0, rfl, hq, rfl⟩ := hlk m bx h1
      obtain ⟨n', b0', rfl, hq', rfl⟩ := hlk m' bx' h2
      rw [hat n b0 hq] at h3
      rw [hat n' b0' hq'] at h4
      rw [hf.mem.apart n n' b0 b0' b hq hq' h3 h4]

/-- all operations that make new memory or leave all as it is -/
theorem aadd_ok (hr : Rel w₀ G₀ hp₀ G s a w) {o : Oper} {d : D} {ps : List Prop} {v : AV} {new : List (Nat × Box)} {s' : St} (h : aadd P s d o = some (ps, v, new)) (hp : Alls ps) (hs : s.add o.dst v new = some s')
    {N : Act → World → Prop} {Q : Exit → Act → World → Prop} (hN : ∀ G' a' w', Rel w₀ G₀ hp₀ G' s' a' w' → N a' w') : o.wp P a w N Q := by
  unfold aadd at h
  split at h
  · rename_i ps' v' hv
    simp only [Option.some.injEq, Prod.mk.injEq] at h
    obtain ⟨rfl, rfl, rfl⟩ := h
    obtain ⟨u, hu, hru⟩ := aval_ok hr hv hp
    unfold Oper.wp
    rw [hu]
    exact hN _ _ _ (aval_rel hr hs hru)
  · obtain ⟨dst, op, ty, pos, after, guard⟩ := o
    simp only at hs
    unfold anew at h
    split at h
    · rename_i T t ho hd
      simp only at ho hd; subst ho hd
      split at h
      · rename_i cs hz
        cases hb : AV.ones cs && noRange (s.nx + 16 * t) s.hp <;> rw [hb] at h <;> simp only [cond_true, cond_false, reduceCtorEq, Option.some.injEq, Prod.mk.injEq] at h
        obtain ⟨rfl, rfl, rfl⟩ := h
        simp only [Bool.and_eq_true] at hb
        obtain ⟨z, hz1, hz2⟩ := run_zero' hz w G
        obtain ⟨G', hG⟩ := box_rel hr hb.2 hz2 (reps_ones hz2 hb.1) hs
        have hrun : (execOp a.eval ⟨some t, .alloc T, ty, pos, after, guard⟩).run P w = .ok (.value (.pointer (some ⟨w.heap.size, 0, none⟩))) (w.alloc (.cells z.cells T)) := by
          simp [execOp, Instr.alloc, hz1, newVar, newRow]
        unfold Oper.wp
        rw [hrun]
        exact hN _ _ _ hG
      · cases h
    · rename_i T x t ho hd
      simp only at ho hd; subst ho hd
      split at h
      · rename_i v' hx
        cases hb : AV.ones v'.cells && noRange (s.nx + 16 * t) s.hp <;> rw [hb] at h <;> simp only [cond_true, cond_false, reduceCtorEq, Option.some.injEq, Prod.mk.injEq] at h
        obtain ⟨rfl, rfl, rfl⟩ := h
        simp only [Bool.and_eq_true] at hb
        have hz2 := (ev_ok hr hx).cells hb.1
        obtain ⟨G', hG⟩ := box_rel hr hb.2 hz2 (reps_ones hz2 hb.1) hs
        have hrun : (execOp a.eval ⟨some t, .box T x, ty, pos, after, guard⟩).run P w = .ok (.value (.pointer (some ⟨w.heap.size, 0, none⟩))) (w.alloc (.cells (a.eval x).cells T)) := by
          simp [execOp, Instr.box, newVar, newRow]
        unfold Oper.wp
        rw [hrun]
        exact hN _ _ _ hG
      · cases h
    · rename_i g args tys t ho hd
      simp only at ho hd; subst ho hd
      split at h
      · rename_i f cap xs bb xs' r hp' hg hargs _
        split at h
        · rename_i pv hvw
          cases hb : namesLt 16 hp' && noRange (s.nx + 16 * t) s.hp && (!bb || noRef r) <;> rw [hb] at h <;> simp only [cond_true, cond_false, reduceCtorEq, Option.some.injEq, Prod.mk.injEq] at h
          obtain ⟨rfl, rfl, rfl⟩ := h
          simp only [Bool.and_eq_true] at hb
          obtain ⟨hpl, hc, hp2⟩ := hp
          obtain ⟨hpv, hpn⟩ := Alls_append.1 hp2
          obtain ⟨fs, cs, hge, hfs, hcs⟩ := ev_ok hr hg
          have hfs0 : fs = #[] := by
            have h0 := hfs.length
            exact Array.eq_empty_of_size_eq_zero (by simpa using h0.symm)
          subst hfs0
          have hrun : (execOp a.eval ⟨some t, .call { callee := .value g, args := args, argTypes := tys }, ty, pos, after, guard⟩).run P w = .ok (.enter f (args.map a.eval ++ cs)) w := by
            simp [execOp, resolve, hge, Deferred.ofValue, invoke, hpl _ w]
          unfold Oper.wp
          rw [hrun]
          have hreps : Reps (xs ++ cap) G ((args.toList.map a.eval) ++ cs.toList) := reps_append (evs_ok hr hargs) hcs
          have e1 : ((args.toList.map a.eval) ++ cs.toList).toArray = args.map a.eval ++ cs := by simp
          have hpost : Calls P f (args.map a.eval ++ cs) w (Post w G [] r hp') := by
            cases bb
            · have := hc w G _ ⟨hr.fin.mem.agree, hr.fin.mem.one, fun n bx h => (by cases h), fun n m bx bx' b h => (by cases h)⟩ (vws_ok (Gh.le.refl G) (fun e => by cases e) hvw hpv hreps)
              rwa [e1] at this
            · obtain ⟨z1, z2, z3, z4⟩ := allData_spec hr.fin
              have := hc w (G.allData s.hp w) _ z2 (vws_ok z1 (fun _ => z4) hvw hpv hreps)
              rw [e1] at this
              refine this.mono (fun e w' hp => ?_)
              exact Post.unfreeze z3 hp (by simpa using hb.2) hpn
          refine hpost.mono ?_
          intro e w' hpost
          obtain ⟨G', v, rfl, hG⟩ := call_rel hr hb.1.2 hb.1.1 hpost hs
          exact hN _ _ _ hG
        · cases h
      · cases h
    · rename_i args argTypes tt ho hd
      simp only at ho hd; subst ho hd
      split at h
      · rename_i x y t t2 ha hty
        split at h
        · rename_i v hx hy
          split at h
          · rename_i ps b happ
            cases hb : noRange (s.nx + 16 * tt) s.hp <;> rw [hb] at h <;> simp only [cond_true, cond_false, reduceCtorEq, Option.some.injEq, Prod.mk.injEq] at h
            obtain ⟨rfl, rfl, rfl⟩ := h
            have e1 : args = #[x, y] := by rw [← Array.toArray_toList (xs := args), ha]
            have e2 : argTypes = #[t, t2] := by rw [← Array.toArray_toList (xs := argTypes), hty]
            subst e1 e2
            obtain ⟨sz, α, enc, l, E, rfl, he, _, hgo⟩ := aAppend_run hr (ty := ty) (sz0 := 0) (E0 := 0) (ad := none) (c := 0) (us := []) happ hp (ev_ok hr hy) trivial
            obtain ⟨ad', c', us', w', h1, h2, h3, h4, h5⟩ := hgo ⟨by simp, .inl ⟨rfl, rfl, rfl⟩⟩
            have hx' := ev_ok hr hx
            simp only [Rep] at hx'
            obtain ⟨G', hG⟩ := row_rel hr hb ⟨h5.os, h5.tape, h5.output, h5.size, fun k hk _ => h5.block k hk (by simp [blkOf])⟩ he h2 h3 (fun b hb => by
              rcases h4 with h4 | ⟨g, h4, h6⟩
              · rw [h4] at hb; cases hb
              · rw [h4] at hb; injection hb with hb; omega) hs
            have hrun : (execOp a.eval ⟨some tt, .call { callee := .builtin .append, args := #[x, y], argTypes := #[t, t2] }, ty, pos, after, guard⟩).run P w = .ok (.value (.slice ad' l.length c')) w' := by
              simp [execOp, resolve, invoke, builtin, hx', h1]
            unfold Oper.wp
            rw [hrun]
            exact hN _ _ _ hG
          · cases h
        · cases h
      · cases h
    · rename_i t len parts tt ho hd
      simp only at ho hd; subst ho hd
      split at h
      · rename_i ps b hbs
        cases hb : noRange (s.nx + 16 * tt) s.hp <;> rw [hb] at h <;> simp only [cond_true, cond_false, reduceCtorEq, Option.some.injEq, Prod.mk.injEq] at h
        obtain ⟨rfl, rfl, rfl⟩ := h
        obtain ⟨sz, α, enc, l, E, rfl, he, us, w', h1, h2, h3, h4⟩ := aBuildSlice_run hr hbs hp
        obtain ⟨G', hG⟩ := row_rel hr hb h4 he h2 h3 (fun b hb => by injection hb with hb; simp at hb; omega) hs
        unfold Oper.wp
        rw [show (execOp a.eval ⟨some tt, .buildSlice t len parts, ty, pos, after, guard⟩).run P w = .ok (.value (.slice (some ⟨w.heap.size, 0, none⟩) l.length l.length)) w' by simp [execOp, h1]]
        exact hN _ _ _ hG
      · cases h
    · rename_i src dst x tt ho hd
      simp only at ho hd; subst ho hd
      split at h
      · rename_i sd E b hsd hdd hx
        split at h
        · rename_i he
          cases hb : noRange (s.nx + 16 * tt) s.hp <;> rw [hb] at h <;> simp only [cond_true, cond_false, reduceCtorEq, Option.some.injEq, Prod.mk.injEq] at h
          obtain ⟨rfl, rfl, rfl⟩ := h
          simp only [Alls, and_true] at hp
          obtain ⟨c, us, w', h1, h2, h3, h4⟩ := run_str_bytes (P := P) (w := w) (G := G.data) hsd hdd he b hp
          have hx' := ev_ok hr hx
          simp only [Rep] at hx'
          obtain ⟨G', hG⟩ := row_rel (sz := 1) (enc := encB) (l := b) (E := E) hr hb h4 (fun x _ => rfl) h2 h3 (fun b hb => by injection hb with hb; simp at hb; omega) hs
          unfold Oper.wp
          rw [show (execOp a.eval ⟨some tt, .convert src dst x, ty, pos, after, guard⟩).run P w = .ok (.value (.slice (some ⟨w.heap.size, 0, none⟩) b.length c)) w' by simp [execOp, hx', h1]]
          exact hN _ _ _ hG
        · cases h
      · cases h
    · cases h
end
end Go.Sym
