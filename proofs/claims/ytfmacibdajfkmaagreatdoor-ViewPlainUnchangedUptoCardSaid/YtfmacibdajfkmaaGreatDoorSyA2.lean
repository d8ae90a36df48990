/- What the claim rests on, part 2: gathered texts. -/
import Derived.AtR
import Derived.Test.YtfmacibdajfkmaaGreatDoorSyA1
/- Memory seen by other names; calls that see own memory. -/
namespace Go.Sym
open Go.RowKit
variable [LC]

omit [LC] in
theorem rho_spec {names : List (Nat × Nat)} {n m : Nat} (h : rho names n = some m) : lookN names m = some n := by
  unfold rho at h
  split at h
  · rename_i m' hm
    split at h
    · rename_i n' hn
      cases hb : Nat.beq n' n <;> rw [hb] at h <;> simp only [cond_true, cond_false, reduceCtorEq, Option.some.injEq] at h
      subst h; have := Nat.eq_of_beq_eq_true hb; subst this; exact hn
    · cases h
  · cases h
omit [LC] in
theorem viewHp_look {ρ : Nat → Option Nat} {hp : List (Nat × Box)} : ∀ {names : List (Nat × Nat)} {l : List (Nat × Box)}, viewHp ρ hp names = some l → ∀ m, (∀ b', look l m = some b' → ∃ n b, lookN names m = some n ∧ look hp n = some b ∧ b' = renB ρ b) ∧ (look l m = none → lookN names m = none)
  | [], l, h, m => by simp only [viewHp, Option.some.injEq] at h; subst h; exact ⟨fun b' hb => (by cases hb), fun _ => rfl⟩
  | (k, n) :: r, l, h, m => by
    simp only [viewHp] at h
    split at h
    · rename_i b l1 hb hl1
      simp only [Option.some.injEq] at h; subst h
      simp only [look, lookN]
      cases hq : Nat.beq k m
      · simpa using viewHp_look hl1 m
      · simp only [cond_true]
        exact ⟨fun b' hb' => by injection hb' with hb'; exact ⟨n, b, rfl, hb, hb'.symm⟩, fun h => (by cases h)⟩
    · cases h
omit [LC] in
theorem lookR_none : ∀ {names : List (Nat × Nat)} {n : Nat}, lookR names n = none → ∀ m, lookN names m ≠ some n
  | [], n, _, m => by simp [lookN]
  | (k, v) :: r, n, h, m => by
    simp only [lookR] at h
    cases hb : Nat.beq v n
    · rw [hb] at h; simp only [cond_false] at h
      simp only [lookN]
      cases hq : Nat.beq k m
      · exact lookR_none h m
      · simp only [cond_true, ne_eq, Option.some.injEq]; intro e; subst e; simp at hb
    · rw [hb] at h; cases h
omit [LC] in
theorem distinctOld_spec : ∀ {names : List (Nat × Nat)}, distinctOld names = true → ∀ m m' n, lookN names m = some n → lookN names m' = some n → m = m'
  | [], _, m, m', n, h, _ => by cases h
  | (k, v) :: r, hd, m, m', n, h, h' => by
    simp only [distinctOld, Bool.and_eq_true] at hd
    have hn : lookR r v = none := by
      obtain ⟨h1, _⟩ := hd
      split at h1
      · cases h1
      · assumption
    simp only [lookN] at h h'
    cases hq : Nat.beq k m <;> cases hq' : Nat.beq k m' <;> rw [hq] at h <;> rw [hq'] at h' <;> simp only [cond_true, cond_false, Option.some.injEq] at h h'
    · exact distinctOld_spec hd.2 m m' n h h'
    · subst h'; exact absurd h (lookR_none hn m)
    · subst h; exact absurd h' (lookR_none hn m')
    · rw [← Nat.eq_of_beq_eq_true hq, ← Nat.eq_of_beq_eq_true hq']

omit [LC] in
theorem rho_of {names : List (Nat × Nat)} (hd : distinctOld names = true) {n m : Nat} (h : lookN names n = some m) : rho names m = some n := by
  unfold rho
  cases hq : lookR names m with
  | none => exact absurd h (lookR_none hq n)
  | some n' =>
    have h' : ∀ {names : List (Nat × Nat)}, distinctOld names = true → ∀ {n n'}, lookR names m = some n' → lookN names n = some m → n' = n := by
      intro names
      induction names with
      | nil => intro _ n n' h; cases h
      | cons x r ih =>
        obtain ⟨k, v⟩ := x
        intro hd n n' h1 h2
        simp only [distinctOld, Bool.and_eq_true] at hd
        simp only [lookR] at h1
        simp only [lookN] at h2
        cases hb : Nat.beq v m
        · rw [hb] at h1
          cases hb2 : Nat.beq k n
          · rw [hb2] at h2; exact ih hd.2 h1 h2
          · rw [hb2] at h2; simp only [cond_true, Option.some.injEq] at h2; subst h2; simp at hb
        · rw [hb] at h1; simp only [cond_true, Option.some.injEq] at h1; subst h1
          have hv := Nat.eq_of_beq_eq_true hb; subst hv
          cases hb2 : Nat.beq k n
          · rw [hb2] at h2; simp only [cond_false] at h2
            obtain ⟨h3, _⟩ := hd
            split at h3
            · cases h3
            · rename_i h4; exact absurd h2 (lookR_none h4 n)
          · exact Nat.eq_of_beq_eq_true hb2
    have := h' hd hq h
    subst this
    simp [h]

def Gh.view (G : Gh) (names : List (Nat × Nat)) : Gh := { imm := G.imm, box := fun m => (lookN names m).bind G.box, own := fun m => (lookN names m).bind G.own }
omit [LC] in
theorem renFr_look {ρ : Nat → Option Nat} : ∀ {fr : List (Nat × AV)} {i : Nat} {x : AV}, look (renFr ρ fr) i = some x → ∃ y, look fr i = some y ∧ x = y.ren ρ
  | [], _, _, h => by cases h
  | (j, y) :: r, i, x, h => by
    simp only [renFr, look] at h ⊢
    cases hb : Nat.beq j i
    · rw [hb] at h; simpa using renFr_look h
    · rw [hb] at h; simp only [cond_true, Option.some.injEq] at h; exact ⟨y, by simp, h.symm⟩

section
variable {P : Program} {w₀ : World} {G₀ : Gh} {hp₀ : List (Nat × Box)} {G : Gh} {s : St} {a : Act} {w : World}

omit [LC] in
theorem view_box (names : List (Nat × Nat)) : ∀ n n' B, rho names n = some n' → G.box n = some B → (G.view names).box n' = some B := fun n n' B h h1 => by
  show (lookN names n').bind G.box = _
  rw [rho_spec h]; exact h1
omit [LC] in
theorem view_own (names : List (Nat × Nat)) : ∀ n n' B, rho names n = some n' → G.own n = some B → (G.view names).own n' = some B := fun n n' B h h1 => by
  show (lookN names n').bind G.own = _
  rw [rho_spec h]; exact h1
/-- a piece of memory under another name -/
theorem BoxOk.ren {G' : Gh} {ρ : Nat → Option Nat} {n m : Nat} (hi : ∀ b o v, G.imm b o = some v → G'.imm b o = some v) (hi' : ∀ b o v, G'.imm b o = some v → G.imm b o = some v)
    (hb : ∀ n n' B, ρ n = some n' → G.box n = some B → G'.box n' = some B) (ho : ∀ n n' B, ρ n = some n' → G.own n = some B → G'.own n' = some B)
    (hnb : ∀ B, G.box n = some B → G'.box m = some B) (hno : ∀ v, G.own n = some v → G'.own m = some v) {b : Box} (h : BoxOk G w n b) : BoxOk G' w m (renB ρ b) := by
  have hnone : ∀ B, (∀ o, G.imm B o = none) → ∀ o, G'.imm B o = none := fun B h o => by
    cases hq : G'.imm B o with
    | none => rfl
    | some v => have := hi' B o v hq; rw [h] at this; cases this
  cases b with
  | cells cs T =>
    obtain ⟨B, vs, k1, k2, k3, k4, k5⟩ := h
    exact ⟨B, vs, hnb _ k1, k2, Reps.ren hi hb ho k3, k4, hnone B k5⟩
  | row τ l E =>
    obtain ⟨ad, c, k1, k3⟩ := h
    refine ⟨ad, c, hno _ k1, ?_⟩
    rcases k3 with k3 | ⟨g, vs, fz, m1, m2, m3, m4, m5, m6, m7, m8, m9⟩
    · exact .inl k3
    · exact .inr ⟨g, vs, fz, m1, m2, m3, m4, m5, m6, Reps.data_le hi m7, m8, hnone g m9⟩
  | loop st pe f j fr ps tag D =>
    obtain ⟨B, tmps, DB, k1, k2, k3, k4, k5, k6⟩ := h
    simp only [renB]
    split
    · rename_i D' hD
      refine ⟨B, tmps, DB, hnb _ k1, hb _ _ _ hD k2, k3, k4, fun i x hx => ?_, hnone B k6⟩
      obtain ⟨y, hy, rfl⟩ := renFr_look hx
      obtain ⟨v, q1, q2⟩ := k5 i y hy
      exact ⟨v, q1, Rep.ren hi hb ho q2⟩
    · trivial
  | dfr =>
    obtain ⟨B, k1, k2, k3⟩ := h
    exact ⟨B, hnb _ k1, k2, hnone B k3⟩
  | it s0 p0 =>
    obtain ⟨B, k1, k2, k3⟩ := h
    exact ⟨B, hnb _ k1, k2, hnone B k3⟩
  | dead => trivial
omit [LC] in
theorem at_ren {G' : Gh} {ρ : Nat → Option Nat} {n m : Nat} (hb : G'.box m = G.box n) (ho : G'.own m = G.own n) {b : Box} {c : Nat} (h : G'.at m (renB ρ b) = some c) : G.at n b = some c := by
  cases b with
  | cells cs T => simp only [renB, Gh.at] at h ⊢; rw [← hb]; exact h
  | row τ l E => simp only [renB, Gh.at] at h ⊢; rw [← ho]; exact h
  | loop st pe f j fr ps tag D =>
    simp only [renB] at h
    split at h
    · simp only [Gh.at] at h ⊢; rw [← hb]; exact h
    · cases h
  | dfr => simp only [renB, Gh.at] at h ⊢; rw [← hb]; exact h
  | it s0 p0 => simp only [renB, Gh.at] at h ⊢; rw [← hb]; exact h
  | dead => cases h
theorem Mem.view {hp l : List (Nat × Box)} (hm : Mem G hp w) {names : List (Nat × Nat)} (h : viewHp (rho names) hp names = some l) (hinj : ∀ m m' n, lookN names m = some n → lookN names m' = some n → m = m') : Mem (G.view names) l w := by
  have eb : ∀ m n, lookN names m = some n → (G.view names).box m = G.box n := fun m n hm => by simp [Gh.view, hm]
  have eo : ∀ m n, lookN names m = some n → (G.view names).own m = G.own n := fun m n hm => by simp [Gh.view, hm]
  refine ⟨hm.agree, hm.one, ?_, ?_, hm.tab⟩
  · intro m b' hb'
    obtain ⟨n, b, h1, h2, rfl⟩ := (viewHp_look h m).1 b' hb'
    exact BoxOk.ren (G := G) (G' := G.view names) (ρ := rho names) (n := n) (fun _ _ _ h => h) (fun _ _ _ h => h) (view_box names) (view_own names) (fun B hB => by rw [eb m n h1]; exact hB) (fun B hB => by rw [eo m n h1]; exact hB) (hm.holds n b h2)
  · intro m m' b b' c h1 h2 h3 h4
    obtain ⟨n, b0, i1, i2, rfl⟩ := (viewHp_look h m).1 b h1
    obtain ⟨n', b0', j1, j2, rfl⟩ := (viewHp_look h m').1 b' h2
    have := hm.apart n n' b0 b0' c i2 j2 (at_ren (eb m n i1) (eo m n i1) h3) (at_ren (eb m' n' j1) (eo m' n' j1) h4)
    subst this
    exact hinj m m' n i1 j1

omit [LC] in
theorem vwFr_look : ∀ {fr fr' : List (Nat × AV)} {ps : List Prop}, vwFr fr fr' = some ps → Alls ps → ∀ i y, look fr' i = some y → ∃ x qs, look fr i = some x ∧ vw false [] x y = some qs ∧ Alls qs
  | _, [], _, _, _, i, y, h => by cases h
  | fr, (j, z) :: r, ps, h, hp, i, y, hy => by
    simp only [vwFr] at h
    split at h
    · rename_i x hx
      split at h
      · rename_i ps1 ps2 h1 h2
        simp only [Option.some.injEq] at h; subst h
        obtain ⟨p1, p2⟩ := Alls_append.1 hp
        simp only [look] at hy
        cases hb : Nat.beq j i
        · rw [hb] at hy; exact vwFr_look h2 p2 i y hy
        · rw [hb] at hy; simp only [cond_true, Option.some.injEq] at hy; subst hy
          have := Nat.eq_of_beq_eq_true hb; subst this
          exact ⟨x, ps1, hx, h1, p1⟩
      · cases h
    · cases h
theorem vwB_ok {b b' : Box} {ps : List Prop} (h : vwB b b' = some ps) (hp : Alls ps) {n : Nat} (hb : BoxOk G w n b) : BoxOk G w n b' ∧ ∀ c, G.at n b' = some c → G.at n b = some c := by
  unfold vwB at h
  split at h
  · exact ⟨trivial, fun c hc => by cases hc⟩
  · rename_i xs T ys T'
    cases hq : Nat.beq T T' <;> rw [hq] at h <;> simp only [cond_true, cond_false, reduceCtorEq] at h
    have := Nat.eq_of_beq_eq_true hq; subst this
    obtain ⟨B, vs, k1, k2, k3, k4, k5⟩ := hb
    exact ⟨⟨B, vs, k1, k2, vws_ok (Gh.le.refl G) (fun e => by cases e) h hp k3, k4, k5⟩, fun c hc => hc⟩
  · simp only [Option.some.injEq] at h; subst h
    simp only [Alls, and_true] at hp; subst hp
    exact ⟨hb, fun c hc => hc⟩
  · split at h
    · rename_i qs hqs
      simp only [Option.some.injEq] at h; subst h
      obtain ⟨e1, e2⟩ := Alls_append.1 hp
      obtain ⟨rfl, rfl, rfl, rfl, rfl, rfl, rfl, _⟩ := e1
      obtain ⟨B, tmps, DB, k1, k2, k3, k4, k5, k6⟩ := hb
      refine ⟨⟨B, tmps, DB, k1, k2, k3, k4, fun i y hy => ?_, k6⟩, fun c hc => hc⟩
      obtain ⟨x, q, h1, h2, h3⟩ := vwFr_look hqs e2 i y hy
      obtain ⟨v, h4, h5⟩ := k5 i x h1
      exact ⟨v, h4, vw_ok (Gh.le.refl G) (fun e => by cases e) h2 h3 h5⟩
    · cases h
  · exact ⟨hb, fun c hc => hc⟩
  · simp only [Option.some.injEq] at h; subst h
    obtain ⟨rfl, rfl, _⟩ := hp
    exact ⟨hb, fun c hc => hc⟩
  · cases h
omit [LC] in
theorem vwHp_look : ∀ {l l' : List (Nat × Box)} {ps : List Prop}, vwHp l l' = some ps → Alls ps → ∀ n, (∀ b', look l' n = some b' → ∃ b qs, look l n = some b ∧ vwB b b' = some qs ∧ Alls qs) ∧ ((look l n).isSome → (look l' n).isSome)
  | [], [], _, _, _, n => ⟨fun b' h => (by cases h), fun h => h⟩
  | (m, b) :: r, (m', b') :: r', ps, h, hp, n => by
    simp only [vwHp] at h
    cases hq : Nat.beq m m' <;> rw [hq] at h <;> simp only [cond_true, cond_false, reduceCtorEq] at h
    have := Nat.eq_of_beq_eq_true hq; subst this
    split at h
    · rename_i ps1 ps2 h1 h2
      simp only [Option.some.injEq] at h; subst h
      obtain ⟨p1, p2⟩ := Alls_append.1 hp
      simp only [look]
      cases hb : Nat.beq m n
      · simpa using vwHp_look h2 p2 n
      · simp only [cond_true, Option.some.injEq, Option.isSome_some, imp_self, and_true]
        intro b2 e; subst e; exact ⟨b, ps1, rfl, h1, p1⟩
    · cases h
  | [], _ :: _, _, h, _, _ => by simp [vwHp] at h
  | _ :: _, [], _, h, _, _ => by simp [vwHp] at h
theorem Mem.vw {hp l : List (Nat × Box)} (hm : Mem G hp w) {ps : List Prop} (h : vwHp hp l = some ps) (hps : Alls ps) : Mem G l w := by
  refine ⟨hm.agree, hm.one, fun n b hb => ?_, fun n m b b' c h1 h2 h3 h4 => ?_, hm.tab⟩
  · obtain ⟨b0, qs, k1, k2, k3⟩ := (vwHp_look h hps n).1 b hb
    exact (vwB_ok k2 k3 (hm.holds n b0 k1)).1
  · obtain ⟨b0, qs, k1, k2, k3⟩ := (vwHp_look h hps n).1 b h1
    obtain ⟨b0', qs', k1', k2', k3'⟩ := (vwHp_look h hps m).1 b' h2
    exact hm.apart n m b0 b0' c k1 k1' ((vwB_ok k2 k3 (hm.holds n b0 k1)).2 c h3) ((vwB_ok k2' k3' (hm.holds m b0' k1')).2 c h4)
omit [LC] in
theorem back_spec {names : List (Nat × Nat)} {hp : List (Nat × Box)} {k n m : Nat} (h : back names hp k n = some m) : lookN names n = some m ∨ (lookN names n = none ∧ (look hp n).isSome ∧ n < 32 ∧ m = k + n) := by
  unfold back at h
  split at h
  · rename_i old ho; simp only [Option.some.injEq] at h; subst h; exact .inl ho
  · rename_i hn
    split at h
    · rename_i b hb
      cases hq : Nat.blt n 32 <;> rw [hq] at h <;> simp only [cond_true, cond_false, reduceCtorEq, Option.some.injEq] at h
      exact .inr ⟨hn, by rw [hb]; rfl, by simpa using hq, h.symm⟩
    · cases h
omit [LC] in
theorem backHp_look {ρ : Nat → Option Nat} (hinj : ∀ n n' m, ρ n = some m → ρ n' = some m → n = n') : ∀ {hp : List (Nat × Box)} {m : Nat}, (∀ b', look (backHp ρ hp) m = some b' → ∃ n b, ρ n = some m ∧ look hp n = some b ∧ b' = renB ρ b) ∧ (look (backHp ρ hp) m = none → ∀ n, ρ n = some m → look hp n = none)
  | [], m => ⟨fun b' h => (by cases h), fun _ _ _ => rfl⟩
  | (n, b) :: r, m => by
    have ih := backHp_look hinj (hp := r) (m := m)
    simp only [backHp]
    cases hq : ρ n with
    | none =>
      simp only
      refine ⟨fun b' hb' => ?_, fun h n' hn' => ?_⟩
      · obtain ⟨n', b0, h1, h2, h3⟩ := ih.1 b' hb'
        refine ⟨n', b0, h1, ?_, h3⟩
        simp only [look]
        cases hb : Nat.beq n n'
        · exact h2
        · have := Nat.eq_of_beq_eq_true hb; subst this; rw [hq] at h1; cases h1
      · simp only [look]
        cases hb : Nat.beq n n'
        · exact ih.2 h n' hn'
        · have := Nat.eq_of_beq_eq_true hb; subst this; rw [hq] at hn'; cases hn'
    | some m' =>
      simp only [look]
      cases hb : Nat.beq m' m
      · simp only [cond_false]
        have hne : m' ≠ m := fun e => by subst e; simp at hb
        refine ⟨fun b' hb' => ?_, fun h n' hn' => ?_⟩
        · obtain ⟨n', b0, h1, h2, h3⟩ := ih.1 b' hb'
          refine ⟨n', b0, h1, ?_, h3⟩
          cases hb2 : Nat.beq n n'
          · exact h2
          · have := Nat.eq_of_beq_eq_true hb2; subst this; rw [hq] at h1; injection h1 with h1; exact absurd h1 hne
        · cases hb2 : Nat.beq n n'
          · exact ih.2 h n' hn'
          · have := Nat.eq_of_beq_eq_true hb2; subst this; rw [hq] at hn'; injection hn' with h1; exact absurd h1 hne
      · simp only [cond_true]
        have := Nat.eq_of_beq_eq_true hb; subst this
        refine ⟨fun b' hb' => ?_, fun h => (by cases h)⟩
        injection hb' with hb'
        exact ⟨n, b, hq, by simp, hb'.symm⟩
omit [LC] in
theorem deads_look : ∀ {names : List (Nat × Nat)} {m : Nat}, (∀ b, look (deads names) m = some b → b = .dead) ∧ (look (deads names) m = none → lookR names m = none)
  | [], m => ⟨fun b h => (by cases h), fun _ => rfl⟩
  | (n, v) :: r, m => by
    simp only [deads, look, lookR]
    cases hb : Nat.beq v m
    · exact deads_look (names := r)
    · exact ⟨fun b h => by simp only [cond_true, Option.some.injEq] at h; exact h.symm, fun h => (by cases h)⟩

/-- behind a call that has seen own memory: memory -/
theorem mem_fin (hr : Rel w₀ G₀ hp₀ G s a w) {k : Nat} {r : AV} {names : List (Nat × Nat)} {hpv hp hp' : List (Nat × Box)} {ps : List Prop} (hd : distinctOld names = true) (hn : noRange k s.hp = true) (hkx : s.nx ≤ k)
    (hv : viewHp (rho names) s.hp names = some hpv) (hvw : vwHp hpv hp = some ps) (hps : Alls ps) {e : Ending} {w' : World} (hpost : Post w (G.view names) hp r hp' e w') :
    ∃ G' v, e = .returned v ∧ Rep (r.ren (back names hp' k)) G' v ∧ G.le G' ∧ Rel w₀ G₀ hp₀ G' { s with hp := backHp (back names hp' k) hp' ++ (deads names ++ s.hp) } a w' := by
  obtain ⟨v, G1, rfl, hf, hrv⟩ := hpost
  obtain ⟨ρ, hρ⟩ : ∃ ρ, ρ = back names hp' k := ⟨_, rfl⟩
  rw [← hρ]
  have hinjN := distinctOld_spec hd
  -- what was handed in
  have hpass : ∀ n m, lookN names n = some m → (∃ b, look s.hp m = some b) ∧ (look hp n).isSome := fun n m h => by
    have h1 := viewHp_look hv n
    have : (look hpv n).isSome := by
      cases hq : look hpv n with
      | none => have := h1.2 hq; rw [h] at this; cases this
      | some b => rfl
    refine ⟨?_, (vwHp_look hvw hps n).2 this⟩
    cases hq : look hpv n with
    | none => rw [hq] at this; cases this
    | some b => obtain ⟨n', b0, i1, i2, _⟩ := h1.1 b hq; rw [h] at i1; injection i1 with i1; subst i1; exact ⟨b0, i2⟩
  have hat : ∀ n b' c, look hp n = some b' → (G.view names).at n b' = some c → ∃ m b, lookN names n = some m ∧ look s.hp m = some b ∧ G.at m b = some c := fun n b' c h1 h2 => by
    obtain ⟨b1, qs, i1, i2, i3⟩ := (vwHp_look hvw hps n).1 b' h1
    have hm : Mem (G.view names) hpv w := hr.fin.mem.view hv hinjN
    have h3 := (vwB_ok i2 i3 (hm.holds n b1 i1)).2 c h2
    obtain ⟨m, b, j1, j2, rfl⟩ := (viewHp_look hv n).1 b1 i1
    exact ⟨m, b, j1, j2, at_ren (G := G) (by simp [Gh.view, j1]) (by simp [Gh.view, j1]) h3⟩
  have hblk : ∀ c, blocks (G.view names) hp c → ∃ n m b, lookN names n = some m ∧ look s.hp m = some b ∧ G.at m b = some c := fun c ⟨n, b', h1, h2⟩ => by
    obtain ⟨m, b, q⟩ := hat n b' c h1 h2; exact ⟨n, m, b, q⟩
  have hfr : ∀ j, j < 32 → look s.hp (k + j) = none ∧ G.box (k + j) = none ∧ G.own (k + j) = none := fun j hj => by
    have h1 := noRange_look hn (k + j) (by omega) (by omega)
    exact ⟨h1, hr.fresh _ (by omega) h1⟩
  have hnp : ∀ j n, j < 32 → lookN names n ≠ some (k + j) := fun j n hj h => by
    obtain ⟨⟨b, hb⟩, _⟩ := hpass n _ h
    rw [(hfr j hj).1] at hb; cases hb
  have hrn : ∀ j, j < 32 → rho names (k + j) = none := fun j hj => by
    cases hq : rho names (k + j) with
    | none => rfl
    | some n => exact absurd (rho_spec hq) (hnp j n hj)
  have hρinj : ∀ n n' m, ρ n = some m → ρ n' = some m → n = n' := fun n n' m h h' => by
    subst hρ
    rcases back_spec h with h | ⟨h1, h2, h3, h4⟩ <;> rcases back_spec h' with h' | ⟨h1', h2', h3', h4'⟩
    · exact hinjN n n' m h h'
    · subst h4'; exact absurd h (hnp n' n h3')
    · subst h4; exact absurd h' (hnp n n' h3)
    · omega
  let G2 : Gh := { imm := G1.imm, box := fun m => match rho names m with | some n => G1.box n | none => match G.box m with | some B => some B | none => if k ≤ m ∧ m < k + 32 ∧ lookN names (m - k) = none ∧ (look hp' (m - k)).isSome then G1.box (m - k) else none, own := fun m => match rho names m with | some n => G1.own n | none => match G.own m with | some B => some B | none => if k ≤ m ∧ m < k + 32 ∧ lookN names (m - k) = none ∧ (look hp' (m - k)).isSome then G1.own (m - k) else none }
  have bpass : ∀ n m, lookN names n = some m → G2.box m = G1.box n ∧ G2.own m = G1.own n := fun n m h => by
    have := rho_of hd h
    exact ⟨by show (match rho names m with | some n => G1.box n | none => _) = _; rw [this], by show (match rho names m with | some n => G1.own n | none => _) = _; rw [this]⟩
  have bnew : ∀ n, lookN names n = none → (look hp' n).isSome → n < 32 → G2.box (k + n) = G1.box n ∧ G2.own (k + n) = G1.own n := fun n h1 h2 h3 => by
    obtain ⟨_, f1, f2⟩ := hfr n h3
    have hr0 := hrn n h3
    have hc : k ≤ k + n ∧ k + n < k + 32 ∧ lookN names (k + n - k) = none ∧ (look hp' (k + n - k)).isSome := by
      rw [Nat.add_sub_cancel_left]; exact ⟨by omega, by omega, h1, h2⟩
    constructor
    · show (match rho names (k + n) with | some n => G1.box n | none => match G.box (k + n) with | some B => some B | none => _) = _
      rw [hr0, f1]; exact (if_pos hc).trans (by rw [Nat.add_sub_cancel_left])
    · show (match rho names (k + n) with | some n => G1.own n | none => match G.own (k + n) with | some B => some B | none => _) = _
      rw [hr0, f2]; exact (if_pos hc).trans (by rw [Nat.add_sub_cancel_left])
  have bρ : ∀ n m, ρ n = some m → G2.box m = G1.box n ∧ G2.own m = G1.own n := fun n m h => by
    subst hρ
    rcases back_spec h with h | ⟨h1, h2, h3, rfl⟩
    · exact bpass n m h
    · exact bnew n h1 h2 h3
  have bold : ∀ m, rho names m = none → (∀ B, G.box m = some B → G2.box m = some B) ∧ (∀ B, G.own m = some B → G2.own m = some B) := fun m h => by
    refine ⟨fun B hB => ?_, fun B hB => ?_⟩
    · show (match rho names m with | some n => G1.box n | none => match G.box m with | some B => some B | none => _) = _
      rw [h, hB]
    · show (match rho names m with | some n => G1.own n | none => match G.own m with | some B => some B | none => _) = _
      rw [h, hB]
  have hle : G.le G2 := by
    refine ⟨hf.imm_le, fun m B hB => ?_, fun m B hB => ?_⟩
    · cases hq : rho names m with
      | none => exact (bold m hq).1 B hB
      | some n =>
        have h1 := rho_spec hq
        rw [(bpass n m h1).1]
        obtain ⟨_, h2⟩ := hpass n m h1
        obtain ⟨b, hb⟩ := Option.isSome_iff_exists.1 h2
        exact hf.keep n b B hb (by simp [Gh.view, h1, hB])
    · cases hq : rho names m with
      | none => exact (bold m hq).2 B hB
      | some n =>
        have h1 := rho_spec hq
        rw [(bpass n m h1).2]
        obtain ⟨_, h2⟩ := hpass n m h1
        obtain ⟨b, hb⟩ := Option.isSome_iff_exists.1 h2
        exact hf.keepOwn n b B hb (by simp [Gh.view, h1, hB])
  have rb : ∀ n n' B, ρ n = some n' → G1.box n = some B → G2.box n' = some B := fun n n' B h h1 => by rw [(bρ n n' h).1]; exact h1
  have ro : ∀ n n' B, ρ n = some n' → G1.own n = some B → G2.own n' = some B := fun n n' B h h1 => by rw [(bρ n n' h).2]; exact h1
  have hlt : ∀ {B : Nat} {o : Obj}, w.heap[B]? = some o → B < w.heap.size := fun h => (Array.getElem?_eq_some_iff.1 h).1
  -- what lies under a name: one of three
  have hlk : ∀ m b, look (backHp ρ hp' ++ (deads names ++ s.hp)) m = some b → (∃ n b0, ρ n = some m ∧ look hp' n = some b0 ∧ b = renB ρ b0) ∨ b = .dead ∨ ((∀ n, lookN names n ≠ some m) ∧ look s.hp m = some b) := fun m b h => by
    rw [look_append] at h
    cases hq : look (backHp ρ hp') m with
    | some b1 =>
      rw [hq] at h; simp only [Option.some.injEq] at h; subst h
      obtain ⟨n, b0, h1, h2, h3⟩ := (backHp_look hρinj).1 b1 hq
      exact .inl ⟨n, b0, h1, h2, h3⟩
    | none =>
      rw [hq] at h
      simp only at h
      rw [look_append] at h
      cases hq2 : look (deads names) m with
      | some b1 => rw [hq2] at h; simp only [Option.some.injEq] at h; subst h; exact .inr (.inl (deads_look.1 b1 hq2))
      | none => rw [hq2] at h; exact .inr (.inr ⟨fun n => lookR_none (deads_look.2 hq2) n, h⟩)
  have hun : ∀ m b c, (∀ n, lookN names n ≠ some m) → look s.hp m = some b → G.at m b = some c → ¬ blocks (G.view names) hp c := fun m b c h1 h2 h3 h4 => by
    obtain ⟨n, m', b', i1, i2, i3⟩ := hblk c h4
    have := hr.fin.mem.apart m m' b b' c h2 i2 h3 i3
    subst this; exact h1 n i1
  have hun2 : ∀ m b, (∀ n, lookN names n ≠ some m) → look s.hp m = some b → BoxOk G2 w' m b := fun m b h1 h2 => by
    have hb := hr.fin.mem.holds m b h2
    have hrm : rho names m = none := by
      cases hq : rho names m with
      | none => rfl
      | some n => exact absurd (rho_spec hq) (h1 n)
    have hsame : ∀ B, B < w.heap.size → G.at m b = some B → w'.heap[B]? = w.heap[B]? := fun B hB h => hf.bel.block B hB (hun m b B h1 h2 h)
    have himm : ∀ B, B < w.heap.size → G.at m b = some B → (∀ o, G.imm B o = none) → ∀ o, G2.imm B o = none := fun B hB h h0 o => by
      cases hq : G2.imm B o with
      | none => rfl
      | some u =>
        rcases hf.imm_new B o u hq with h3 | h3 | h3
        · rw [show (G.view names).imm B o = G.imm B o from rfl, h0] at h3; cases h3
        · omega
        · exact absurd h3 (hun m b B h1 h2 h)
    cases b with
    | cells cs T =>
      obtain ⟨B, vs, k1, k2, k3, k4, k5⟩ := hb
      have ha : G.at m (.cells cs T) = some B := k1
      exact ⟨B, vs, hle.box _ _ k1, by rw [hsame B (hlt k2) ha]; exact k2, k3.le hle, k4, himm B (hlt k2) ha k5⟩
    | row τ l E =>
      obtain ⟨ad, c, k1, k3⟩ := hb
      refine ⟨ad, c, hle.own _ _ k1, ?_⟩
      rcases k3 with k3 | ⟨g, vs, fz, rfl, m2, m3, m4, m5, m6, m7, m8, m9⟩
      · exact .inl k3
      · have ha : G.at m (.row τ l E) = some g := by simp [Gh.at, k1]
        exact .inr ⟨g, vs, fz, rfl, by rw [hsame g (hlt m2) ha]; exact m2, m3, m4, m5, m6, Reps.data_le hle.imm m7, m8, himm g (hlt m2) ha m9⟩
    | loop st pe f j fr ps tag D =>
      obtain ⟨B, tmps, DB, k1, k2, k3, k4, k5, k6⟩ := hb
      have ha : G.at m (.loop st pe f j fr ps tag D) = some B := k1
      exact ⟨B, tmps, DB, hle.box _ _ k1, hle.box _ _ k2, by rw [hsame B k3.lt ha]; exact k3, k4, fun i x hx => by obtain ⟨u, q1, q2⟩ := k5 i x hx; exact ⟨u, q1, q2.le hle⟩, himm B k3.lt ha k6⟩
    | dfr =>
      obtain ⟨B, k1, k2, k3⟩ := hb
      have ha : G.at m .dfr = some B := k1
      exact ⟨B, hle.box _ _ k1, by rw [hsame B (hlt k2) ha]; exact k2, himm B (hlt k2) ha k3⟩
    | it s0 p0 =>
      obtain ⟨B, k1, k2, k3⟩ := hb
      have ha : G.at m (.it s0 p0) = some B := k1
      exact ⟨B, hle.box _ _ k1, by rw [hsame B (hlt k2) ha]; exact k2, himm B (hlt k2) ha k3⟩
    | dead => trivial
  refine ⟨G2, v, rfl, Rep.ren (G := G1) (G' := G2) (fun _ _ _ h => h) rb ro hrv, hle, ⟨?_, hr.size, fun i x hx => ?_, fun m hm hl => ?_, ⟨⟨hf.mem.agree, hf.mem.one, ?_, ?_, hf.mem.tab⟩, ?_, fun b o u h => hle.imm _ _ _ (hr.fin.imm_le _ _ _ h), ?_, ?_, fun n bx B h1 h2 => hle.box _ _ (hr.fin.keep n bx B h1 h2), fun n bx B h1 h2 => hle.own _ _ (hr.fin.keepOwn n bx B h1 h2)⟩⟩⟩
  · obtain ⟨bs, h1, h2⟩ := hr.defers; exact ⟨bs, h1, defers_le hle.box h2⟩
  · obtain ⟨u, h1, h2⟩ := hr.frame i x hx
    exact ⟨u, h1, h2.le hle⟩
  · rw [look_append] at hl
    have h1 : look (backHp ρ hp') m = none := by
      cases hq : look (backHp ρ hp') m with
      | none => rfl
      | some b => rw [hq] at hl; cases hl
    rw [h1] at hl
    simp only at hl
    rw [look_append] at hl
    have h2 : look (deads names) m = none := by
      cases hq : look (deads names) m with
      | none => rfl
      | some b => rw [hq] at hl; cases hl
    rw [h2] at hl
    simp only at hl
    obtain ⟨f1, f2⟩ := hr.fresh m hm hl
    have h3 : rho names m = none := by
      cases hq : rho names m with
      | none => rfl
      | some n => exact absurd (rho_spec hq) (lookR_none (deads_look.2 h2) n)
    have h4 : ¬ (k ≤ m ∧ m < k + 32 ∧ lookN names (m - k) = none ∧ (look hp' (m - k)).isSome) := fun ⟨q1, q2, q3, q4⟩ => by
      have : ρ (m - k) = some m := by
        subst hρ; unfold back; rw [q3]
        obtain ⟨b, hb⟩ := Option.isSome_iff_exists.1 q4
        simp only [hb]
        have : Nat.blt (m - k) 32 = true := by simp; omega
        rw [this]; simp only [cond_true, Option.some.injEq]; omega
      have := (backHp_look hρinj).2 h1 _ this
      rw [this] at q4; cases q4
    constructor
    · show (match rho names m with | some n => G1.box n | none => match G.box m with | some B => some B | none => _) = _
      rw [h3, f1]; exact if_neg h4
    · show (match rho names m with | some n => G1.own n | none => match G.own m with | some B => some B | none => _) = _
      rw [h3, f2]; exact if_neg h4
  · intro m b h
    rcases hlk m b h with ⟨n, b0, h1, h2, rfl⟩ | rfl | ⟨h1, h2⟩
    · exact BoxOk.ren (G := G1) (G' := G2) (ρ := ρ) (n := n) (fun _ _ _ h => h) (fun _ _ _ h => h) rb ro (fun B hB => rb n m B h1 hB) (fun B hB => ro n m B h1 hB) (hf.mem.holds n b0 h2)
    · trivial
    · exact hun2 m b h1 h2
  · intro m m' b b' c h1 h2 h3 h4
    have hmix : ∀ n b0 m b, look hp' n = some b0 → G1.at n b0 = some c → (∀ n, lookN names n ≠ some m) → look s.hp m = some b → G.at m b = some c → False := fun n b0 m b q1 q2 q3 q4 q5 => by
      rcases hf.base n b0 c q1 q2 with h | h
      · have := (hr.fin.mem.holds m b q4).at_some q5; omega
      · exact hun m b c q3 q4 q5 h
    rcases hlk m b h1 with ⟨n, b0, i1, i2, rfl⟩ | rfl | ⟨i1, i2⟩
    · have j3 := at_ren (G := G1) (bρ n m i1).1 (bρ n m i1).2 h3
      rcases hlk m' b' h2 with ⟨n', b0', i1', i2', rfl⟩ | rfl | ⟨i1', i2'⟩
      · have j4 := at_ren (G := G1) (bρ n' m' i1').1 (bρ n' m' i1').2 h4
        have := hf.mem.apart n n' b0 b0' c i2 i2' j3 j4
        subst this; rw [i1] at i1'; injection i1'
      · cases h4
      · rw [(hr.fin.mem.holds m' b' i2').at_le hle] at h4
        exact (hmix n b0 m' b' i2 j3 i1' i2' h4).elim
    · cases h3
    · rw [(hr.fin.mem.holds m b i2).at_le hle] at h3
      rcases hlk m' b' h2 with ⟨n', b0', i1', i2', rfl⟩ | rfl | ⟨i1', i2'⟩
      · have j4 := at_ren (G := G1) (bρ n' m' i1').1 (bρ n' m' i1').2 h4
        exact (hmix n' b0' m b i2' j4 i1 i2 h3).elim
      · cases h4
      · rw [(hr.fin.mem.holds m' b' i2').at_le hle] at h4
        exact hr.fin.mem.apart m m' b b' c i2 i2' h3 h4
  · refine ⟨hf.bel.os.trans hr.fin.bel.os, hf.bel.tape.trans hr.fin.bel.tape, hf.bel.output.trans hr.fin.bel.output, Nat.le_trans hr.fin.bel.size hf.bel.size, fun j hj hS => ?_⟩
    rw [hf.bel.block j (Nat.lt_of_lt_of_le hj hr.fin.bel.size) (fun hb => by
      obtain ⟨n, m, b, i1, i2, i3⟩ := hblk j hb
      rcases hr.fin.base m b j i2 i3 with h | h
      · omega
      · exact hS h)]
    exact hr.fin.bel.block j hj hS
  · intro b o u h
    rcases hf.imm_new b o u h with h | h | h
    · exact hr.fin.imm_new b o u h
    · exact .inr (.inl (Nat.le_trans hr.fin.bel.size h))
    · obtain ⟨n, m, b0, i1, i2, i3⟩ := hblk b h
      exact .inr (hr.fin.base m b0 b i2 i3)
  · intro m b c h1 h2
    rcases hlk m b h1 with ⟨n, b0, i1, i2, rfl⟩ | rfl | ⟨i1, i2⟩
    · have j3 := at_ren (G := G1) (bρ n m i1).1 (bρ n m i1).2 h2
      rcases hf.base n b0 c i2 j3 with h | h
      · exact .inl (Nat.le_trans hr.fin.bel.size h)
      · obtain ⟨n, m, b0, q1, q2, q3⟩ := hblk c h
        exact hr.fin.base m b0 c q2 q3
    · cases h2
    · rw [(hr.fin.mem.holds m b i2).at_le hle] at h2
      exact hr.fin.base m b c i2 h2
/-- behind a call that has seen own memory -/
theorem mem_rel (hr : Rel w₀ G₀ hp₀ G s a w) {t : Tmp} {r : AV} {names : List (Nat × Nat)} {hpv hp hp' : List (Nat × Box)} {ps : List Prop} (hd : distinctOld names = true) (hn : noRange (s.nx + 32 * t) s.hp = true) (ht : t < s.n)
    (hv : viewHp (rho names) s.hp names = some hpv) (hvw : vwHp hpv hp = some ps) (hps : Alls ps) {e : Ending} {w' : World} (hpost : Post w (G.view names) hp r hp' e w') :
    ∃ G' v, e = .returned v ∧ Rel w₀ G₀ hp₀ G' { s with fr := (t, r.ren (back names hp' (s.nx + 32 * t))) :: s.fr, hp := backHp (back names hp' (s.nx + 32 * t)) hp' ++ (deads names ++ s.hp) } (a.put (some t) v) w' := by
  obtain ⟨G', v, h1, h2, _, h3⟩ := mem_fin hr hd hn (by omega) hv hvw hps hpost
  refine ⟨G', v, h1, aval_rel h3 ?_ h2⟩
  have : Nat.blt t s.n = true := by simpa using ht
  simp only [St.add, this, cond_true, List.nil_append]
end
end Go.Sym
/- Operations of a region, in frames of functions and of rounds. -/
namespace Go.Sym
open Go.RowKit
variable [LC]

/-- the operation runs, wherever it stands, and N holds behind it -/
def oDoes (P : Program) (o : Oper) (a : Act) (w : World) (N : Act → World → Prop) : Prop :=
  ∀ (ops : Array Oper) (i : Nat) (b : Frame) (rest : List Nat) (k : List Item) (cs : List Frame), ops[i]? = some o → Region.wanted o (yielded ops a.tmps) = true → b.kind = .normal →
    ∃ a' w', N a' w' ∧ Steps P (lone (b.atR a (.inRegion ops (i :: rest) :: k)) cs w) (lone (b.atR a' (.inRegion ops rest :: k)) cs w')
def dOp (P : Program) (ops : Array Oper) (i : Nat) (N : Act → World → Prop) (a : Act) (w : World) : Prop :=
  ∀ (b : Frame) (rest : List Nat) (k : List Item) (cs : List Frame), b.kind = .normal →
    ∃ a' w', N a' w' ∧ Steps P (lone (b.atR a (.inRegion ops (i :: rest) :: k)) cs w) (lone (b.atR a' (.inRegion ops rest :: k)) cs w')
def dOps (P : Program) (ops : Array Oper) (N : Act → World → Prop) : List Nat → Act → World → Prop
  | [], a, w => N a w
  | i :: rest, a, w => dOp P ops i (dOps P ops N rest) a w

section
variable {P : Program} {a : Act} {w : World}
omit [LC] in
theorem oDoes_of_wp {o : Oper} {N : Act → World → Prop} (hd : ∀ c, o.op ≠ .defer c) (h : o.wp P a w N (fun _ _ _ => False)) : oDoes P o a w N := by
  intro ops i b rest k cs ho hw hk
  have hg := stepGR_op (P := P) (b := b) (k := k) (cs := cs) (w := w) (rest := rest) ho hw
  rw [Oper.semAt_eq _ _ _ hd] at hg
  have hfin : ∀ v, (b.atR a (.inRegion ops (i :: rest) :: k)).finish v = b.atR (a.put o.dst v) (.inRegion ops rest :: k) := by
    intro v; rw [Frame.finish_atR, ho]; rfl
  unfold Oper.wp Oper.upon at h
  split at h
  · rename_i v w' hr'
    refine ⟨_, _, h, .one (step_lone_go ?_)⟩
    rw [hg, ← hfin]; simp [stepG.apply, hr']
  · rename_i w' hr'
    refine ⟨_, _, h, .one (step_lone_go ?_)⟩
    rw [hg, ← hfin]; simp [stepG.apply, hr']
  · rename_i d w' hr'
    refine ⟨_, _, h, .one (step_lone_go ?_)⟩
    have : ({ b.atR a (.inRegion ops (i :: rest) :: k) with defers := d :: a.defers } : Frame).finish undef =
        b.atR ({ a with defers := d :: a.defers }.put o.dst undef) (.inRegion ops rest :: k) := by
      have := Frame.finish_atR b { a with defers := d :: a.defers } ops i rest k undef
      rw [ho] at this; exact this
    rw [hg]; simp only [stepG.apply, Sem.runT_eq, hr', GStep.bare_after]
    exact congrArg (fun fr => GStep.go { frame := fr, callers := cs, status := .running, dying := none } w') this
  · rename_i f args w' hr'
    obtain ⟨e, w'', fr, hR, hsteps, hfn, hleave⟩ := h (b.atR a (.inRegion ops (i :: rest) :: k) :: cs)
    have henter : step P (lone (b.atR a (.inRegion ops (i :: rest) :: k)) cs w) =
        .next (lone (Frame.enter P f args .normal) (b.atR a (.inRegion ops (i :: rest) :: k) :: cs) w') :=
      step_lone_go (by rw [hg]; simp [stepG.apply, hr', Frame.atR])
    cases e with
    | returned v =>
      refine ⟨_, _, hR, (Steps.one henter).trans (Steps.trans hsteps (.one ?_))⟩
      rw [← hfin]; exact step_leave_returned hleave
    | panicked chain => exact hR.elim
    | outgrown => obtain ⟨_, _, hR⟩ := hR; exact hR.elim
  · rename_i row args w' hr'
    obtain ⟨v, w'', hR, hsteps⟩ := h (b.atR a (.inRegion ops (i :: rest) :: k)) cs
    have henter : step P (lone (b.atR a (.inRegion ops (i :: rest) :: k)) cs w) =
        .next (lone (Frame.ofRow P row args .normal) (b.atR a (.inRegion ops (i :: rest) :: k) :: cs) w') :=
      step_lone_go (by rw [hg]; simp [stepG.apply, hr', Frame.atR])
    refine ⟨_, _, hR, (Steps.one henter).trans ?_⟩
    rw [← hfin]; exact hsteps
  · exact h.elim
  · exact h.elim
omit [LC] in
/-- a call of yield -/
theorem oDoes_round {o : Oper} {N : Act → World → Prop} (hd : ∀ c, o.op ≠ .defer c) {l : Nat} {f : FuncId} {tmps : Array Value} {assign body : Code} {w' : World} (hr : (execOp a.eval o).run P w = .ok (.round l f tmps assign body) w')
    (h : ∀ (c : Frame) (cs : List Frame), ∃ v w'', N (a.put o.dst v) w'' ∧ Steps P (lone (Frame.round l f tmps assign body .normal) (c :: cs) w') (lone (c.finish v) cs w'')) : oDoes P o a w N := by
  intro ops i b rest k cs ho hw hk
  have hg := stepGR_op (P := P) (b := b) (k := k) (cs := cs) (w := w) (rest := rest) ho hw
  rw [Oper.semAt_eq _ _ _ hd] at hg
  have hfin : ∀ v, (b.atR a (.inRegion ops (i :: rest) :: k)).finish v = b.atR (a.put o.dst v) (.inRegion ops rest :: k) := by
    intro v; rw [Frame.finish_atR, ho]; rfl
  obtain ⟨v, w'', hN, hs⟩ := h (b.atR a (.inRegion ops (i :: rest) :: k)) cs
  have henter : step P (lone (b.atR a (.inRegion ops (i :: rest) :: k)) cs w) =
      .next (lone (Frame.round l f tmps assign body .normal) (b.atR a (.inRegion ops (i :: rest) :: k) :: cs) w') :=
    step_lone_go (by rw [hg]; simp [stepG.apply, hr, Frame.atR])
  refine ⟨_, _, hN, (Steps.one henter).trans ?_⟩
  rw [← hfin]; exact hs
omit [LC] in
theorem dOp_of {ops : Array Oper} {i : Nat} {o : Oper} {N : Act → World → Prop} (ho : ops[i]? = some o) (hw : Region.wanted o (yielded ops a.tmps) = true) (h : oDoes P o a w N) : dOp P ops i N a w :=
  fun b rest k cs hk => h ops i b rest k cs ho hw hk
omit [LC] in
theorem dOp_skip {ops : Array Oper} {i : Nat} {o : Oper} {N : Act → World → Prop} (ho : ops[i]? = some o) (hw : ¬ Region.wanted o (yielded ops a.tmps) = true) (h : N (a.put o.dst undef) w) : dOp P ops i N a w := by
  intro b rest k cs hk
  have hs := stepR_op_skip (P := P) (b := b) (a := a) (k := k) (cs := cs) (w := w) (ops := ops) (i := i) (rest := rest) (by simp [ho]; simpa using hw)
  simp only [ho, Option.bind_some] at hs
  exact ⟨_, _, h, .one hs⟩
omit [LC] in
theorem dOp_mono {ops : Array Oper} {i : Nat} {N N' : Act → World → Prop} (hn : ∀ a w, N a w → N' a w) (h : dOp P ops i N a w) : dOp P ops i N' a w := fun b rest k cs hk => by
  obtain ⟨a', w', h1, h2⟩ := h b rest k cs hk; exact ⟨a', w', hn _ _ h1, h2⟩
omit [LC] in
theorem dOps_run {ops : Array Oper} {N : Act → World → Prop} : ∀ (l : List Nat) {a : Act} {w : World}, dOps P ops N l a w → ∀ (b : Frame) (k : List Item) (cs : List Frame), b.kind = .normal →
    ∃ a' w', N a' w' ∧ Steps P (lone (b.atR a (.inRegion ops l :: k)) cs w) (lone (b.atR a' k) cs w')
  | [], a, w, h, b, k, cs, _ => ⟨a, w, h, .one stepR_region_end⟩
  | i :: rest, a, w, h, b, k, cs, hk => by
    obtain ⟨a1, w1, h1, h2⟩ := h b rest k cs hk
    obtain ⟨a2, w2, h3, h4⟩ := dOps_run rest h1 b k cs hk
    exact ⟨a2, w2, h3, h2.trans h4⟩
omit [LC] in
/-- a region in the order of the text -/
theorem dRegion {ops : Array Oper} {id : Nat} {N : Act → World → Prop} (h : dOps P ops N (List.range ops.size) a w) (b : Frame) (k : List Item) (cs : List Frame) (hk : b.kind = .normal) :
    ∃ a' w', N a' w' ∧ Steps P (lone (b.atR a (.code (.region id ops false) :: k)) cs w) (lone (b.atR a' k) cs w') := by
  obtain ⟨a', w', h1, h2⟩ := dOps_run _ h b k cs hk
  exact ⟨a', w', h1, (Steps.one stepR_region).trans h2⟩
/-- a region that draws its order -/
def dAny (P : Program) (ops : Array Oper) (N : Act → World → Prop) : Nat → Array Bool → Act → World → Prop
  | 0, listed, a, w => Region.ready .any ops listed = [] ∧ N a w
  | fuel + 1, listed, a, w =>
    (Region.ready .any ops listed = [] → N a w) ∧
    ∀ i ∈ Region.ready .any ops listed, dOp P ops i (dAny P ops N fuel (listed.setIfInBounds i true)) a w
omit [LC] in
theorem dAny_sound {ops : Array Oper} {N : Act → World → Prop} : ∀ (fuel t : Nat) (listed : Array Bool) (a : Act) (w : World), dAny P ops N fuel listed a w →
    dOps P ops N (Region.linearise.go .any ops fuel t listed []) a w := by
  intro fuel
  induction fuel with
  | zero => intro t listed a w h; simpa [Region.linearise.go, dOps] using h.2
  | succ fuel ih =>
    intro t listed a w h
    obtain ⟨h₀, h₁⟩ := h
    simp only [Region.linearise.go]
    change dOps P ops N (match (Region.ready .any ops listed)[t % (Region.ready .any ops listed).length]? with
      | some i => Region.linearise.go .any ops fuel (t / (Region.ready .any ops listed).length) (listed.setIfInBounds i true) [i]
      | none => [].reverse) a w
    cases hi : (Region.ready .any ops listed)[t % (Region.ready .any ops listed).length]? with
    | none =>
      have hnil : Region.ready .any ops listed = [] := by
        cases hr : Region.ready .any ops listed with
        | nil => rfl
        | cons x xs =>
          rw [hr] at hi
          have hlt : t % (x :: xs).length < (x :: xs).length := Nat.mod_lt _ (by simp)
          simp at hi
          simp at hlt
          omega
      simpa [dOps] using h₀ hnil
    | some i =>
      simp only []
      rw [linearise_go_acc, List.reverse_singleton, List.singleton_append]
      exact dOp_mono (fun a w => ih _ _ a w) (h₁ i (List.mem_of_getElem? hi))
omit [LC] in
theorem dRegionDraw {ops : Array Oper} {id : Nat} {N : Act → World → Prop} (hm : P.follows .mixedOrders = true) (h : dAny P ops N ops.size (Array.replicate ops.size false) a { w with drawn := w.drawn + 1 }) (b : Frame) (k : List Item) (cs : List Frame) (hk : b.kind = .normal) :
    ∃ a' w', N a' w' ∧ Steps P (lone (b.atR a (.code (.region id ops true) :: k)) cs w) (lone (b.atR a' k) cs w') := by
  have h1 : dOps P ops N (Region.schedule (P.follows .mixedOrders) ops (w.tape w.drawn (.order b.fn id))) a { w with drawn := w.drawn + 1 } := by
    simp only [Region.schedule, hm, Bool.true_or, if_true]
    exact dAny_sound ops.size _ _ a _ h
  obtain ⟨a', w', h2, h3⟩ := dOps_run _ h1 b k cs hk
  exact ⟨a', w', h2, (Steps.one stepR_region_draw).trans h3⟩
end
end Go.Sym
/- Stores; one operation; a region in the order of the text; the machine. -/
namespace Go.Sym
open Go.RowKit
variable [LC]

section
variable {P : Program} {w₀ : World} {G₀ : Gh} {hp₀ : List (Nat × Box)} {G : Gh} {s : St} {a : Act} {w : World}

/-- one piece of own memory has got other contents -/
theorem Fin.update' {hp : List (Nat × Box)} (hf : Fin w₀ G₀ hp₀ G hp w) {n : Nat} {bx bx' : Box} {B : Nat} (hn : look hp n = some bx) (hB : G.at n bx = some B) (hB' : ∀ c, G.at n bx' = some c → c = B) {w' : World} (hw : Bel (fun b => b = B) w w')
    (hok : BoxOk G w' n bx') (hi : ∀ o, G.imm B o = none) : Fin w₀ G₀ hp₀ G (setHp hp n bx') w' := by
  have hblk : ∀ b, b < w.heap.size → b ≠ B → w'.heap[b]? = w.heap[b]? := fun b h1 h2 => hw.block b h1 h2
  have hlt : ∀ {b : Nat} {o : Obj}, w.heap[b]? = some o → b < w.heap.size := fun h => (Array.getElem?_eq_some_iff.1 h).1
  have hlk : ∀ m b, look (setHp hp n bx') m = some b → (m = n ∧ b = bx') ∨ (m ≠ n ∧ look hp m = some b) := fun m b h => by
    simp only [setHp, look] at h
    cases hb : Nat.beq n m
    · rw [hb] at h; exact .inr ⟨fun e => by subst e; simp at hb, h⟩
    · rw [hb] at h; simp only [cond_true, Option.some.injEq] at h; exact .inl ⟨(Nat.eq_of_beq_eq_true hb).symm, h.symm⟩
  have other : ∀ m b c, m ≠ n → look hp m = some b → G.at m b = some c → c ≠ B := fun m b c hm h1 h2 e => by
    subst e; exact hm (hf.mem.apart m n b bx c h1 hn h2 hB)
  refine ⟨⟨?_, hf.mem.one, ?_, ?_, LC.mono (fun _ _ _ h => h) (fun b o v h => hblk b (World.block_lt_of_cell? _ _ (hf.mem.agree b o v h)) fun e => by subst e; rw [hi] at h; cases h) hf.mem.tab⟩, ?_, hf.imm_le, hf.imm_new, ?_, hf.keep, hf.keepOwn⟩
  · intro b o v h
    have hne : b ≠ B := fun e => by subst e; rw [hi] at h; cases h
    have hc := hf.mem.agree b o v h
    have := World.block_lt_of_cell? _ _ hc
    rw [World.cell?_of_block (w := w) (hblk b this hne)]; exact hc
  · intro m b h
    rcases hlk m b h with ⟨rfl, rfl⟩ | ⟨hm, h⟩
    · exact hok
    · have hb := hf.mem.holds m b h
      have ho := other m b
      cases b with
      | cells cs T =>
        obtain ⟨B1, vs, h1, h2, h3, h4, h5⟩ := hb
        exact ⟨B1, vs, h1, by rw [hblk _ (hlt h2) (ho B1 hm h (by simp [Gh.at, h1]))]; exact h2, h3, h4, h5⟩
      | loop st pe f j fr ps tag D =>
        obtain ⟨B1, tmps, DB, h1, h2, h3, h4⟩ := hb
        exact ⟨B1, tmps, DB, h1, h2, by rw [hblk _ h3.lt (ho B1 hm h (by simp [Gh.at, h1]))]; exact h3, h4⟩
      | dfr =>
        obtain ⟨B1, h1, h2, h3⟩ := hb
        exact ⟨B1, h1, by rw [hblk _ (hlt h2) (ho B1 hm h (by simp [Gh.at, h1]))]; exact h2, h3⟩
      | it s0 p0 =>
        obtain ⟨B1, h1, h2, h3⟩ := hb
        exact ⟨B1, h1, by rw [hblk _ (hlt h2) (ho B1 hm h (by simp [Gh.at, h1]))]; exact h2, h3⟩
      | row τ l E =>
        obtain ⟨ad, c, h1, h3⟩ := hb
        refine ⟨ad, c, h1, ?_⟩
        rcases h3 with h3 | ⟨g, vs, fz, k1, k2, k3⟩
        · exact .inl h3
        · exact .inr ⟨g, vs, fz, k1, by rw [hblk _ (hlt k2) (ho g hm h (by subst k1; simp [Gh.at, h1]))]; exact k2, k3⟩
      | dead => trivial
  · intro m m' b b' c h1 h2 h3 h4
    rcases hlk m b h1 with ⟨rfl, rfl⟩ | ⟨hm, i1⟩ <;> rcases hlk m' b' h2 with ⟨rfl, rfl⟩ | ⟨hm', i2⟩
    · rfl
    · exact absurd (hB' _ h3) (other m' b' _ hm' i2 h4)
    · exact absurd (hB' _ h4) (other m b _ hm i1 h3)
    · exact hf.mem.apart m m' b b' c i1 i2 h3 h4
  · refine ⟨hw.os.trans hf.bel.os, hw.tape.trans hf.bel.tape, hw.output.trans hf.bel.output, Nat.le_trans hf.bel.size hw.size, fun k hk hS => ?_⟩
    have hne : k ≠ B := fun e => by
      subst e
      rcases hf.base n bx k hn hB with h | h
      · omega
      · exact hS h
    rw [hblk k (Nat.lt_of_lt_of_le hk hf.bel.size) hne]; exact hf.bel.block k hk hS
  · intro m b c h1 h2
    rcases hlk m b h1 with ⟨rfl, rfl⟩ | ⟨hm, h1⟩
    · rw [hB' _ h2]
      exact hf.base _ _ _ hn hB
    · exact hf.base m b c h1 h2
theorem Fin.update {hp : List (Nat × Box)} (hf : Fin w₀ G₀ hp₀ G hp w) {n : Nat} {bx bx' : Box} {B : Nat} (hn : look hp n = some bx) (hB : G.at n bx = some B) (hB' : G.at n bx' = some B) {w' : World} (hw : Bel (fun b => b = B) w w')
    (hok : BoxOk G w' n bx') (hi : ∀ o, G.imm B o = none) : Fin w₀ G₀ hp₀ G (setHp hp n bx') w' :=
  hf.update' hn hB (fun c hc => by rw [hB'] at hc; injection hc with hc; exact hc.symm) hw hok hi

theorem amod_ok (hr : Rel w₀ G₀ hp₀ G s a w) {o : Oper} {d : D} {ps : List Prop} {s' : St} (h : amod P s d o = some (ps, s')) (hp : Alls ps) {N : Act → World → Prop} (hN : ∀ G' a' w', Rel w₀ G₀ hp₀ G' s' a' w' → N a' w') : oDoes P o a w N := by
  obtain ⟨dst, op, ty, pos, after, guard⟩ := o
  unfold amod at h
  split at h
  · rename_i t x y ho
    simp only at ho; subst ho
    split at h
    · rename_i b off v n hx hy hn hd
      simp only at hd; subst hd
      split at h
      · rename_i cs T hb
        cases hq : Nat.beq v.cells.length n && AV.ones v.cells && Nat.ble (off + n) cs.length <;> rw [hq] at h <;> simp only [cond_true, cond_false, reduceCtorEq, Option.some.injEq, Prod.mk.injEq] at h
        obtain ⟨rfl, rfl⟩ := h
        simp only [Bool.and_eq_true, Nat.ble_eq] at hq
        obtain ⟨⟨hq1, hq2⟩, hq3⟩ := hq
        have hq1 := Nat.eq_of_beq_eq_true hq1
        obtain ⟨B, hB, hxe⟩ := ev_ok hr hx
        have hcy := (ev_ok hr hy).cells hq2
        obtain ⟨B', vs, h1, h2, h3, h4, h5⟩ := hr.fin.mem.holds _ _ hb
        rw [h1] at hB; injection hB with hB; subst hB
        have hlv : (a.eval y).cells.size = n := by rw [← hq1, hcy.length, Array.length_toList]
        have hlc : cs.length = vs.size := by rw [h3.length, Array.length_toList]
        obtain ⟨w', cur', k1, k2, k3, k4⟩ := run_storeCells' (P := P) B' off T (0, 0) (a.eval y).cells.toList 0 vs w h2 (by rw [Array.length_toList]; omega) (.inl rfl) (reps_ones hcy hq2)
        have hrun : (execOp a.eval ⟨none, .store t x y, ty, pos, after, guard⟩).run P w = .ok .skip w' := by
          simp [execOp, Instr.storeAt, hxe, Instr.sureAddr, storeVar, run_sizeOf' hn, hlv, k1]
        refine oDoes_of_wp (by simp) ?_
        unfold Oper.wp
        rw [hrun]
        refine hN G _ _ ⟨hr.defers, hr.size, hr.frame, fun m hm hl => hr.fresh m hm ?_, ?_⟩
        · simp only [setHp, look] at hl
          cases hbq : Nat.beq b m
          · rw [hbq] at hl; exact hl
          · rw [hbq] at hl; cases hl
        · refine hr.fin.update hb (by simp [Gh.at, h1]) (by simp [Gh.at, h1]) k4 ⟨B', cur', h1, k2, ?_, ?_, h5⟩ h5
          · rw [k3]; exact reps_vsplice _ h3 hcy
          · intro u hu
            rw [k3] at hu
            rcases vsplice_mem _ _ _ _ hu with hu | hu
            · exact h4 u hu
            · exact reps_ones hcy hq2 u hu
      · cases h
    · rename_i k sz i off v n hx hy hn hd
      simp only at hd; subst hd
      split at h
      · rename_i τ0 l0 E0 ys τ l E hb
        cases hq : Nat.beq v.cells.length n && AV.ones v.cells && Nat.beq sz τ0.sz && Nat.beq τ.sz τ0.sz && Nat.beq E E0 <;> rw [hq] at h <;> simp only [cond_true, cond_false, reduceCtorEq] at h
        split at h
        rotate_left
        · cases h
        rename_i psv hvw
        simp only [Option.some.injEq, Prod.mk.injEq] at h
        obtain ⟨rfl, rfl⟩ := h
        simp only [Bool.and_eq_true] at hq
        obtain ⟨⟨⟨⟨hq1, hq2⟩, hq3⟩, hq4⟩, hq5⟩ := hq
        have hq1 := Nat.eq_of_beq_eq_true hq1
        have hq3 := Nat.eq_of_beq_eq_true hq3
        have hq4 := Nat.eq_of_beq_eq_true hq4
        have hq5 := Nat.eq_of_beq_eq_true hq5
        subst hq5
        rw [hq3] at hx
        obtain ⟨pv, p1, p2, p3, p5, _⟩ := Alls_append.1 hp
        rw [hq3] at p1 p2
        obtain ⟨B, n0, c0, ho0, hxe⟩ := ev_ok hr hx
        have hcy := (ev_ok hr hy).cells hq2
        have hlv : (a.eval y).cells.size = n := by rw [← hq1, hcy.length, Array.length_toList]
        obtain ⟨ad, c, h1, h3⟩ := hr.fin.mem.holds _ _ hb
        rw [ho0] at h1; simp only [Option.some.injEq, Prod.mk.injEq] at h1
        obtain ⟨rfl, rfl, rfl⟩ := h1
        rcases h3 with ⟨h3, _⟩ | ⟨g, vs, fz, k1, k2, k3, k4, k5, k6, k7, k8, k9⟩
        · cases h3
        · simp only [Option.some.injEq, Addr.mk.injEq, and_true] at k1
          subst k1
          have hle : l0.length * τ0.sz ≤ vs.size := by rw [k6]; exact Nat.mul_le_mul_right _ k4
          obtain ⟨w', cur', m1, m2, m3, m4⟩ := run_storeCells' (P := P) B (i * τ0.sz + off) E fz (a.eval y).cells.toList 0 vs w k2 (by rw [Array.length_toList]; omega) k3 (reps_ones hcy hq2)
          have hrun : (execOp a.eval ⟨none, .store t x y, ty, pos, after, guard⟩).run P w = .ok .skip w' := by
            simp [execOp, Instr.storeAt, hxe, Instr.sureAddr, storeVar, run_sizeOf' hn, hlv, m1]
          refine oDoes_of_wp (by simp) ?_
          unfold Oper.wp
          rw [hrun]
          have hcs : cur'.size = vs.size := by rw [← Array.length_toList, m3, vsplice_length, Array.length_toList]
          refine hN G _ _ ⟨hr.defers, hr.size, hr.frame, fun m hm hl => hr.fresh m hm ?_, ?_⟩
          · simp only [setHp, look] at hl
            cases hbq : Nat.beq k m
            · rw [hbq] at hl; exact hl
            · rw [hbq] at hl; cases hl
          · refine hr.fin.update hb (B := B) (by simp [Gh.at, ho0]) (by simp [Gh.at, ho0]) m4 ⟨some ⟨B, 0, none⟩, c0, by rw [p3]; exact ho0, .inr ⟨B, cur', fz, rfl, m2, by rw [hcs]; exact k3, by rw [p3]; exact k4, k5, by rw [hcs, hq4]; exact k6, ?_, ?_, k9⟩⟩ k9
            · rw [p3, p2, m3, hq4, Nat.add_zero, vsplice_take_comm _ _ _ _ (by rw [Array.length_toList]; omega)]
              exact reps_vsplice _ k7 (vws_ok (G := G.data) (Gh.le.refl _) (fun e => by cases e) hvw pv (reps_nameless p5 hcy))
            · intro u hu
              rw [m3] at hu
              rcases vsplice_mem _ _ _ _ hu with hu | hu
              · exact k8 u hu
              · exact reps_ones hcy hq2 u hu
      · cases h
    · cases h
  · rename_i args argTypes ho
    simp only at ho; subst ho
    split at h
    · rename_i x y t t2 tt ha hty hd
      simp only at hd; subst hd
      split at h
      · rename_i k v hx hy
        split at h
        · rename_i τ0 l0 E0 hb
          split at h
          · rename_i ps' τ l E happ
            cases hq : noRange (s.nx + 32 * tt) s.hp && Nat.beq τ.sz τ0.sz && Nat.beq E E0 && Nat.blt tt s.n <;> rw [hq] at h <;> simp only [cond_true, cond_false, reduceCtorEq, Option.some.injEq, Prod.mk.injEq] at h
            obtain ⟨rfl, rfl⟩ := h
            simp only [Bool.and_eq_true, Nat.blt_eq] at hq
            obtain ⟨⟨⟨hq1, hq2⟩, hq3⟩, hq4⟩ := hq
            have hq2 := Nat.eq_of_beq_eq_true hq2
            have hq3 := Nat.eq_of_beq_eq_true hq3
            have e1 : args = #[x, y] := by rw [← Array.toArray_toList (xs := args), ha]
            have e2 : argTypes = #[t, t2] := by rw [← Array.toArray_toList (xs := argTypes), hty]
            subst e1 e2
            obtain ⟨ad, c, us, h1, h3, h4, h5⟩ := (hr.fin.mem.holds _ _ hb).rowAt
            obtain ⟨ad0, n0, c0, ho0, hxe⟩ := ev_ok hr hx
            rw [h1] at ho0; simp only [Option.some.injEq, Prod.mk.injEq] at ho0
            obtain ⟨rfl, rfl, rfl⟩ := ho0
            obtain ⟨τ', l', E', hbx, _, hgo⟩ := aAppend_run hr (ty := ty) (_sz0 := 0) (_E0 := 0) (ad := ad) (c := c) happ hp (ev_ok hr hy) h4
            cases hbx
            subst hq3
            rw [← hq2] at h3
            obtain ⟨ad', c', us', w', r1, r2, r3, r4, r5⟩ := hgo h3
            have hrun : (execOp a.eval ⟨some tt, .call { callee := .builtin .append, args := #[x, y], argTypes := #[t, t2] }, ty, pos, after, guard⟩).run P w = .ok (.value (.slice ad' l.length c')) w' := by
              simp [execOp, resolve, invoke, builtin, hxe, r1]
            refine oDoes_of_wp (by simp) ?_
            unfold Oper.wp
            rw [hrun]
            have hk' := noRange_look hq1 (s.nx + 32 * tt) (Nat.le_refl _) (by omega)
            obtain ⟨f1, f2⟩ := hr.fresh _ (by omega) hk'
            have hfin := hr.fin.take hb h1 hk' f2 h5 r5 r4 r2 r3
            have hle : G.le (G.addOwn (s.nx + 32 * tt) (ad', l.length, c')) := Gh.addOwn_le f2
            refine hN _ _ _ ⟨by obtain ⟨bs, q1, q2⟩ := hr.defers; exact ⟨bs, q1, defers_le hle.box q2⟩, by simp [Act.put, hr.size], fun i z hz => ?_, fun m hm hl => ?_, hfin⟩
            · simp only [look] at hz
              cases hbq : Nat.beq tt i
              · rw [hbq] at hz; simp only [cond_false] at hz
                have hne : tt ≠ i := fun e => by subst e; simp at hbq
                obtain ⟨u, u1, u2⟩ := hr.frame i z hz
                exact ⟨u, by simp [Act.put, hne, u1], u2.le hle⟩
              · rw [hbq] at hz; simp only [cond_true, Option.some.injEq] at hz; subst hz
                have := Nat.eq_of_beq_eq_true hbq; subst this
                exact ⟨_, by simp [Act.put, hr.size, hq4], ad', l.length, c', Gh.addOwn_self, rfl⟩
            · simp only [look] at hl
              cases hbq : Nat.beq (s.nx + 32 * tt) m
              · rw [hbq] at hl; simp only [cond_false] at hl
                cases hbk : Nat.beq k m
                · rw [hbk] at hl
                  obtain ⟨g1, g2⟩ := hr.fresh m hm hl
                  refine ⟨g1, ?_⟩
                  show (bif Nat.beq m (s.nx + 32 * tt) then some _ else G.own m) = none
                  cases hbm : Nat.beq m (s.nx + 32 * tt)
                  · exact g2
                  · have := Nat.eq_of_beq_eq_true hbm; subst this; simp at hbq
                · rw [hbk] at hl; cases hl
              · rw [hbq] at hl; cases hl
          · cases h
        · cases h
      · cases h
    · cases h
  · rename_i g args tys ho
    simp only at ho; subst ho
    split at h
    · rename_i f cap ys names xs hp1 r hp2 t hg hargs hd
      simp only at hd; subst hd
      unfold memCall at h
      cases hq : distinctOld names && distinctNew names && noRange (s.nx + 32 * t) s.hp && Nat.blt t s.n <;> rw [hq] at h <;> simp only [cond_true, cond_false, reduceCtorEq] at h
      simp only [Bool.and_eq_true, Nat.blt_eq] at hq
      obtain ⟨⟨⟨hq1, _⟩, hq2⟩, hq3⟩ := hq
      split at h
      · rename_i hpv ps1 hv hvs
        split at h
        · rename_i ps2 hvw
          simp only [Option.some.injEq, Prod.mk.injEq] at h
          obtain ⟨rfl, rfl⟩ := h
          obtain ⟨⟨hpl, hc⟩, hp3⟩ := hp
          obtain ⟨p1, p2⟩ := Alls_append.1 hp3
          obtain ⟨fs, cs, hge, hfs, hcs⟩ := ev_ok hr hg
          have hfs0 : fs = #[] := Array.eq_empty_of_size_eq_zero (by simpa using hfs.length.symm)
          subst hfs0
          have hrun : (execOp a.eval ⟨some t, .call { callee := .value g, args := args, argTypes := tys }, ty, pos, after, guard⟩).run P w = .ok (.enter f (args.map a.eval ++ cs)) w := by
            simp [execOp, resolve, hge, Deferred.ofValue, invoke, hpl _ w]
          refine oDoes_of_wp (by simp) ?_
          unfold Oper.wp
          rw [hrun]
          have hreps : Reps (ys ++ cap) G ((args.toList.map a.eval) ++ cs.toList) := reps_append (evs_ok hr hargs) hcs
          have e1 : ((args.toList.map a.eval) ++ cs.toList).toArray = args.map a.eval ++ cs := by simp
          have hm : Mem (G.view names) hp1 w := (hr.fin.mem.view hv (distinctOld_spec hq1)).vw hvw p2
          have hreps2 := vws_ok (Gh.le.refl _) (fun e => by cases e) hvs p1 (Reps.ren (G := G) (G' := G.view names) (fun _ _ _ h => h) (view_box names) (view_own names) hreps)
          have := hc w (G.view names) _ hm hreps2
          rw [e1] at this
          refine this.mono ?_
          intro e w' hpost
          obtain ⟨G', v, rfl, hG⟩ := mem_rel hr hq1 hq2 hq3 hv hvw p2 hpost
          exact hN _ _ _ hG
        · cases h
      · cases h
    · rename_i m ys names xs hp1 r hp2 t hg hargs hd
      simp only at hd; subst hd
      split at h
      · rename_i m' hm'
        unfold memCall at h
        cases hq : distinctOld names && distinctNew names && noRange (s.nx + 32 * t) s.hp && Nat.blt t s.n <;> rw [hq] at h <;> simp only [cond_true, cond_false, reduceCtorEq] at h
        simp only [Bool.and_eq_true, Nat.blt_eq] at hq
        obtain ⟨⟨⟨hq1, _⟩, hq2⟩, hq3⟩ := hq
        split at h
        · rename_i hpv ps1 hv hvs
          split at h
          · rename_i ps2 hvw
            simp only [Option.some.injEq, Prod.mk.injEq] at h
            obtain ⟨rfl, rfl⟩ := h
            obtain ⟨hc, hp3⟩ := hp
            obtain ⟨p1, p2⟩ := Alls_append.1 hp3
            obtain ⟨B, hB, hge⟩ := ev_ok hr hg
            have hm : Mem (G.view names) hp1 w := (hr.fin.mem.view hv (distinctOld_spec hq1)).vw hvw p2
            have hreps2 := vws_ok (Gh.le.refl _) (fun e => by cases e) hvs p1 (Reps.ren (G := G) (G' := G.view names) (fun _ _ _ h => h) (view_box names) (view_own names) (evs_ok hr hargs))
            have hB' := view_box (G := G) names m m' B hm' hB
            obtain ⟨lp, hlp, hc'⟩ := hc w (G.view names) _ B hm hreps2 hB'
            have hlen : (args.map a.eval).size = lp.params.size := by
              have := (hc' default []).1; simpa using this
            have hrun : (execOp a.eval ⟨some t, .call { callee := .value g, args := args, argTypes := tys }, ty, pos, after, guard⟩).run P w = .ok (.round B lp.fn ((lp.params.zip (args.map a.eval)).foldl (fun tmps (t, a) => tmps.setIfInBounds t a) lp.tmps) lp.assign lp.body) w := by
              simp at hlen
              simp [execOp, resolve, hge, Deferred.ofValue, invoke, Instr.yield, Instr.getLoop, getObj, hlp, hlen, Sem.run]
            refine oDoes_round (by simp) hrun (fun c cs => ?_)
            obtain ⟨_, v, w', h1, h2⟩ := hc' c cs
            obtain ⟨G', v', e, hG⟩ := mem_rel hr hq1 hq2 hq3 hv hvw p2 h1
            cases e
            have e2 : (args.toList.map a.eval).toArray = args.map a.eval := by rw [← Array.toList_map]
            rw [e2] at h2
            exact ⟨v, w', hN _ _ _ hG, h2⟩
          · cases h
        · cases h
      · cases h
    · cases h
  · cases h
end
end Go.Sym
/- One operation; a region in the order of the text. -/
namespace Go.Sym
open Go.RowKit
variable [LC]

abbrev Dec := Bool × D
def decOf (ds : List (Nat × Dec)) (i : Nat) : Dec := match look ds i with
  | some x => x
  | none => (false, .none)
def aex (P : Program) (s : St) (d : D) (o : Oper) : Option (List Prop × St) :=
  match aadd P s d o with
  | some (ps, v, new) => match s.add o.dst v new with
    | some s' => some (ps, s')
    | none => none
  | none => amod P s d o
/-- the Bool that decides whether a guarded operation runs -/
def guardOf (ops : Array Oper) (s : St) (j : Nat) : Option (Option Bool) :=
  match ops[j]? with
  | some oj => match oj.dst with
    | some t => match look s.fr t with
      | some (.bool b) => some (some b)
      | some (.val (.bool b)) => some (some b)
      | some (.val (.tuple _)) => some none
      | _ => none
    | none => none
  | none => none
def St.bump (s : St) : St := { s with nx := s.nx + 32 * s.n }

section
variable {P : Program} {w₀ : World} {G₀ : Gh} {hp₀ : List (Nat × Box)} {G : Gh} {s : St} {a : Act} {w : World}

theorem aadd_not_defer {o : Oper} {d : D} {r : List Prop × AV × List (Nat × Box)} (h : aadd P s d o = some r) : ∀ c, o.op ≠ .defer c := fun c e => by
  obtain ⟨dst, op, ty, pos, after, guard⟩ := o
  simp only at e; subst e
  simp only [aadd, aval, anew] at h
  cases h
theorem aex_ok (hr : Rel w₀ G₀ hp₀ G s a w) {o : Oper} {d : D} {ps : List Prop} {s' : St} (h : aex P s d o = some (ps, s')) (hp : Alls ps) {N : Act → World → Prop} (hN : ∀ G' a' w', Rel w₀ G₀ hp₀ G' s' a' w' → N a' w') : oDoes P o a w N := by
  unfold aex at h
  split at h
  · rename_i ps' v new ha
    split at h
    · rename_i s1 hs
      simp only [Option.some.injEq, Prod.mk.injEq] at h; obtain ⟨rfl, rfl⟩ := h
      exact oDoes_of_wp (aadd_not_defer ha) (aadd_ok hr ha hp hs hN)
    · cases h
  · exact amod_ok hr h hp hN
theorem guardOf_ok (hr : Rel w₀ G₀ hp₀ G s a w) {ops : Array Oper} {j : Nat} {b : Option Bool} (h : guardOf ops s j = some b) : yielded ops a.tmps j = b := by
  unfold guardOf at h
  split at h
  · rename_i oj hj
    split at h
    · rename_i t ht
      split at h
      · rename_i b' hl
        simp only [Option.some.injEq] at h; subst h
        obtain ⟨v, h1, h2⟩ := hr.frame _ _ hl
        simp only [Rep] at h2; subst h2
        simp [yielded, hj, ht, h1]
      · rename_i b' hl
        simp only [Option.some.injEq] at h; subst h
        obtain ⟨v, h1, h2⟩ := hr.frame _ _ hl
        simp only [Rep] at h2; subst h2
        simp [yielded, hj, ht, h1]
      · rename_i vs hl
        simp only [Option.some.injEq] at h; subst h
        obtain ⟨v, h1, h2⟩ := hr.frame _ _ hl
        simp only [Rep] at h2; subst h2
        simp [yielded, hj, ht, h1]
      · cases h
    · cases h
  · cases h
end
end Go.Sym
/- A region that draws its order: a head in whatever order, a tail in one. -/
namespace Go.Sym
open Go.RowKit
variable [LC]

def memN : List Nat → Nat → Bool
  | [], _ => false
  | x :: xs, i => Nat.beq x i || memN xs i
def unionN : List Nat → List Nat → List Nat
  | [], l => l
  | x :: xs, l => bif memN l x then unionN xs l else unionN xs (x :: l)
/-- what an operation of the head has yielded, and which operations come before it -/
structure HR : Type where
  dst : Nat
  v : AV
  new : List (Nat × Box)
  pred : List Nat
def St.addR (s : St) (r : HR) : St := { s with fr := (r.dst, r.v) :: s.fr, hp := r.new ++ s.hp }
def addSel (sel : List Nat) : List HR → Nat → St → St
  | [], _, t => t
  | r :: rs, j, t => addSel sel rs (j + 1) (bif memN sel j then t.addR r else t)
def addAll : List HR → St → St
  | [], t => t
  | r :: rs, t => addAll rs (t.addR r)
/-- an operation that changes nothing of what is known -/
def astepH (P : Program) (ops : Array Oper) (t : St) (c : Dec) (o : Oper) : Option (List Prop × AV × List (Nat × Box)) :=
  match o.guard with
  | none => aadd P t c.2 o
  | some (j, want) => match guardOf ops t j with
    | none => none
    | some none => some ([], .val undef, [])
    | some (some b) => bif c.1 == want then (match aadd P t c.2 o with
        | some (ps, v, new) => some ((b = c.1) :: ps, v, new)
        | none => none)
      else some ([b = c.1], .val undef, [])
def predsOf (Rs : List HR) : List Edge → Option (List Nat)
  | [] => some []
  | e :: es => bif Region.binds .any e then
      match Rs[e.on]?, predsOf Rs es with
      | some r, some l => some (unionN (e.on :: r.pred) l)
      | _, _ => none
    else predsOf Rs es
def freshDst (d : Nat) : List HR → Bool
  | [] => true
  | r :: rs => !Nat.beq r.dst d && freshDst d rs
/-- the slots that an operation looks at -/
def readsOf (ops : Array Oper) (o : Oper) : List Nat :=
  o.op.operands.toList.filterMap (fun x => match x with | .tmp t => some t | _ => none) ++
  (match o.guard with
   | some (j, _) => match ops[j]? with
     | some oj => oj.dst.toList
     | none => []
   | none => [])
/-- operation i looks at no slot that an elder operation writes, unless that one comes before it -/
def readsFine (pred reads : List Nat) : List HR → Nat → Bool
  | [], _ => true
  | r :: rs, j => (memN pred j || !memN reads r.dst) && readsFine pred reads rs (j + 1)
/-- operation i writes no slot that an elder operation looks at, unless that one comes before it -/
def writesFine (ops : Array Oper) (d : Nat) (pred : List Nat) : Nat → Bool
  | 0 => true
  | j + 1 => (memN pred j || (match ops[j]? with | some o => !memN (readsOf ops o) d | none => true)) && writesFine ops d pred j
/-- it waits for that one -/
def waitsOn (o : Oper) (j : Nat) : Bool := o.after.toList.any (fun e => Nat.beq e.on j && Region.binds .any e)
def chainFine : List Oper → Nat → Bool
  | [], _ => true
  | o :: l, i => waitsOn o (i - 1) && chainFine l (i + 1)
def directs : List Edge → List Nat
  | [] => []
  | e :: es => bif Region.binds .any e then e.on :: directs es else directs es
/-- what comes before -/
def reachGo (ops : Array Oper) : Nat → List Nat → List Nat
  | 0, S => S
  | j + 1, S => reachGo ops j (bif memN S j then (match ops[j]? with
    | some o => directs o.after.toList ++ S
    | none => S) else S)
def allN (S : List Nat) : Nat → Bool
  | 0 => true
  | j + 1 => memN S j && allN S j
def reachAll (ops : Array Oper) (o : Oper) (n : Nat) : Bool := allN (reachGo ops n (directs o.after.toList)) n
/-- the n-th operation waits for all before it, each one behind it for the one before it -/
def tailFine (ops : Array Oper) (n : Nat) : Bool := match ops.toList.drop n with
  | [] => true
  | o :: l => reachAll ops o n && chainFine l (n + 1)
def edgesFine : List Oper → Nat → Bool
  | [], _ => true
  | o :: l, i => o.after.toList.all (fun e => !Region.binds .any e || Nat.blt e.on i) && edgesFine l (i + 1)
omit [LC] in
theorem memN_iff : ∀ {l : List Nat} {i : Nat}, memN l i = true ↔ i ∈ l
  | [], i => by simp [memN]
  | x :: xs, i => by
    simp only [memN, Bool.or_eq_true, List.mem_cons, memN_iff (l := xs)]
    constructor
    · rintro (h | h)
      · exact .inl (Nat.eq_of_beq_eq_true h).symm
      · exact .inr h
    · rintro (rfl | h)
      · exact .inl (by simp)
      · exact .inr h
omit [LC] in
theorem mem_unionN : ∀ {l m : List Nat} {i : Nat}, i ∈ unionN l m ↔ i ∈ l ∨ i ∈ m
  | [], m, i => by simp [unionN]
  | x :: xs, m, i => by
    simp only [unionN]
    cases h : memN m x
    · simp only [cond_false, mem_unionN (l := xs), List.mem_cons]
      constructor
      · rintro (h | h | h)
        · exact .inl (.inr h)
        · exact .inl (.inl h)
        · exact .inr h
      · rintro ((h | h) | h)
        · exact .inr (.inl h)
        · exact .inl h
        · exact .inr (.inr h)
    · have hx := memN_iff.1 h
      simp only [cond_true, mem_unionN (l := xs), List.mem_cons]
      constructor
      · rintro (h | h)
        · exact .inl (.inr h)
        · exact .inr h
      · rintro ((rfl | h) | h)
        · exact .inr hx
        · exact .inl h
        · exact .inr h

/-- what an operation needs of the state, and of nothing else -/
structure Sees (o : Oper) (t st : St) : Prop where
  nx : t.nx = st.nx
  ev : ∀ x ∈ o.op.operands.toList, t.ev x = st.ev x
  hp : ∀ n b, look t.hp n = some b → look st.hp n = some b
  room : ∀ d, o.dst = some d → noRange (st.nx + 32 * d) st.hp = true

omit [LC] in
theorem evs_sees {t st : St} : ∀ {xs : List Operand}, (∀ x ∈ xs, t.ev x = st.ev x) → t.evs xs = st.evs xs
  | [], _ => rfl
  | x :: xs, h => by simp only [St.evs, h x (by simp), evs_sees (xs := xs) (fun y hy => h y (by simp [hy]))]
omit [LC] in
theorem evy_sees {t st : St} {x : Operand} (h : t.ev x = st.ev x) : t.evy x = st.evy x := by unfold St.evy; rw [h]
omit [LC] in
theorem aparts_sees {t st : St} : ∀ {ps : List (Nat × Operand)}, (∀ x ∈ ps.map (·.2), t.ev x = st.ev x) → aparts t ps = aparts st ps
  | [], _ => rfl
  | (i, x) :: ps, h => by simp only [aparts, h x (by simp), aparts_sees (ps := ps) (fun y hy => h y (by simp at hy ⊢; exact .inr hy))]

omit [LC] in
theorem aval_sees {P : Program} {o : Oper} {t st : St} {d : D} {R : List Prop × AV} (hs : Sees o t st) (h : aval P t d o.op = some R) : aval P st d o.op = some R := by
  obtain ⟨dst, op, ty, pos, after, guard⟩ := o
  have hev := hs.ev
  have hhp := hs.hp
  simp only at h hev ⊢
  cases op
  case move x => simpa [aval, ← hev x (by simp [Op.operands])] using h
  case assign x => simpa [aval, ← hev x (by simp [Op.operands])] using h
  case nilCheck x => simpa [aval, ← hev x (by simp [Op.operands])] using h
  case pick c x y =>
    simp only [aval] at h ⊢
    rw [← hev c (by simp [Op.operands])]
    split at h
    · rename_i b tt hc
      have : st.ev (bif tt then x else y) = t.ev (bif tt then x else y) := by cases tt <;> exact (hev _ (by simp [Op.operands])).symm
      rw [this]; exact h
    · rename_i b hc
      have : st.ev (bif b then x else y) = t.ev (bif b then x else y) := by cases b <;> exact (hev _ (by simp [Op.operands])).symm
      rw [this]; exact h
    · cases h
  case build T parts =>
    simp only [aval, aBuild] at h ⊢
    rw [← aparts_sees (t := t) (st := st) (fun x hx => hev x (by simpa [Op.operands] using hx))]
    exact h
  case load ty x =>
    simp only [aval, aLoad] at h ⊢
    rw [← hev x (by simp [Op.operands])]
    split at h
    · rename_i b off hx
      split at h
      · rename_i cs T hb
        simp only [hhp _ _ hb]; exact h
      · cases h
    · exact h
    · rename_i k sz i off hx
      split at h
      · rename_i hb
        simp only [hhp _ _ hb]; exact h
      · cases h
    · cases h
  case slice ty x lo hi mx =>
    simp only [aval, aSlice] at h ⊢
    have e1 : evInt st lo = evInt t lo := by cases lo with | none => rfl | some y => simp only [evInt]; rw [← evy_sees (hev y (by simp [Op.operands]))]
    have e2 : evInt st hi = evInt t hi := by cases hi with | none => rfl | some y => simp only [evInt]; rw [← evy_sees (hev y (by simp [Op.operands]))]
    rw [e1, e2, ← hev x (by simp [Op.operands])]; exact h
  case binOp op ty x y _ =>
    simp only [aval] at h ⊢
    rw [← hev x (by simp [Op.operands]), ← hev y (by simp [Op.operands])]; exact h
  case unOp op ty x =>
    simp only [aval] at h ⊢
    rw [← hev x (by simp [Op.operands])]; exact h
  case convert a b x =>
    simp only [aval] at h ⊢
    rw [← hev x (by simp [Op.operands])]
    split at h
    · rename_i v hs hx
      split at h
      · rename_i r hc; exact h
      · rename_i hc
        split at h
        · rename_i hd
          unfold aStr at h ⊢
          split at h
          · rename_i E flat n bb hu hsrc
            have : srcOf st v = srcOf t v := by
              unfold srcOf at hsrc ⊢
              split at hsrc
              · rfl
              · rfl
              · rfl
              · split at hsrc
                · rename_i hb; simp only [hhp _ _ hb]
                · cases hsrc
              · split at hsrc
                · rename_i hb; simp only [hhp _ _ hb]
                · cases hsrc
              · cases hsrc
            rw [this, hsrc]; simp only [hu]; exact h
          · rename_i E flat n bb hu hsrc
            have : srcOf st v = srcOf t v := by
              unfold srcOf at hsrc ⊢
              split at hsrc
              · rfl
              · rfl
              · rfl
              · split at hsrc
                · rename_i hb; simp only [hhp _ _ hb]
                · cases hsrc
              · split at hsrc
                · rename_i hb; simp only [hhp _ _ hb]
                · cases hsrc
              · cases hsrc
            rw [this, hsrc]; simp only [hu]; exact h
          · cases h
        · cases h
    · cases h
  case field ty x f =>
    simp only [aval] at h ⊢
    rw [← hev x (by simp [Op.operands])]; exact h
  case fieldAddr ty x f =>
    simp only [aval] at h ⊢
    rw [← hev x (by simp [Op.operands])]; exact h
  case extract x i =>
    simp only [aval] at h ⊢
    rw [← hev x (by simp [Op.operands])]; exact h
  case index ty x i =>
    simp only [aval] at h ⊢
    rw [← hev x (by simp [Op.operands]), ← evy_sees (hev i (by simp [Op.operands]))]; exact h
  case indexAddr ty x i =>
    simp only [aval] at h ⊢
    rw [← hev x (by simp [Op.operands]), ← evy_sees (hev i (by simp [Op.operands]))]
    split at h
    · rename_i v j hx hj
      simp only [aIndexAddr] at h ⊢
      split at h
      · rename_i E hu
        split at h
        · rename_i sz kk n hsz
          split at h
          · exact h
          · split at h
            · rename_i hb; simp only [hhp _ _ hb]; exact h
            · cases h
          · exact h
          · cases h
        · cases h
      · exact h
      · cases h
    · cases h
  case makeFunc f first cap =>
    simp only [aval] at h ⊢
    rw [← evs_sees (t := t) (st := st) (xs := first.toList) (fun x hx => hev x (by simp [Op.operands]; exact .inl (by simpa using hx))), ← evs_sees (t := t) (st := st) (xs := cap.toList) (fun x hx => hev x (by simp [Op.operands]; exact .inr (by simpa using hx)))]
    exact h
  case call c =>
    obtain ⟨callee, args, argTypes⟩ := c
    cases callee
    case builtin b =>
      have hm : ∀ z ∈ args.toList, t.ev z = st.ev z := fun z hz => hev z (by simp [Op.operands, Call.operands]; simpa using hz)
      cases b <;> try (simp [aval] at h; done)
      case len =>
        simp only [aval] at h ⊢
        split at h
        · rename_i x ty ha ht
          rw [← hm x (by rw [ha]; simp)]
          split at h
          · rename_i v hv
            simp only [aLen] at h ⊢
            split at h
            · exact h
            · exact h
            · split at h
              · rename_i hb; simp only [hhp _ _ hb]; exact h
              · cases h
            · exact h
            · exact h
            · cases h
          · cases h
        · cases h
      case max =>
        simp only [aval] at h ⊢
        split at h
        · rename_i x y ha
          rw [← evy_sees (hm x (by rw [ha]; simp)), ← evy_sees (hm y (by rw [ha]; simp))]; exact h
        · cases h
      case min =>
        simp only [aval] at h ⊢
        split at h
        · rename_i x y ha
          rw [← evy_sees (hm x (by rw [ha]; simp)), ← evy_sees (hm y (by rw [ha]; simp))]; exact h
        · cases h
    all_goals (simp [aval] at h)
  all_goals (simp [aval] at h)
end Go.Sym
/- A region that draws its order: the proof. -/
namespace Go.Sym
open Go.RowKit
variable [LC]

theorem aval_none_new {P : Program} {o : Oper} {t st : St} {d : D} {R : List Prop × AV × List (Nat × Box)} (h : anew P t d o = some R) : aval P st d o.op = none := by
  obtain ⟨dst, op, ty, pos, after, guard⟩ := o
  unfold anew at h
  split at h
  · rename_i ho _; simp only at ho; subst ho; rfl
  · rename_i ho _; simp only at ho; subst ho; rfl
  · rename_i ho _; simp only at ho; subst ho; rfl
  · rename_i ho _; simp only at ho; subst ho; rfl
  · rename_i ho _; simp only at ho; subst ho; rfl
  · rename_i src dst x tt ho _
    simp only at ho; subst ho
    split at h
    · rename_i sd E b hs hd hx
      simp only [aval, hs]
      split
      · rename_i v _ hv
        have h0 : ∀ v, aConv P dst v = none := fun v => by unfold aConv; rw [hd]
        have : aConvC P dst v = none := by unfold aConvC; split <;> simp [h0]
        rw [this]; simp only [hd]
      · rfl
    · cases h
  · cases h
omit [LC] in
theorem srcOf_sees {t st : St} {y : AV} {r : List AV × Nat} (hhp : ∀ n b, look t.hp n = some b → look st.hp n = some b) (h : srcOf t y = some r) : srcOf st y = some r := by
  unfold srcOf at h ⊢
  split at h
  · exact h
  · exact h
  · exact h
  · split at h
    · rename_i hb; simp only [hhp _ _ hb]; exact h
    · cases h
  · split at h
    · rename_i hb; simp only [hhp _ _ hb]; exact h
    · cases h
  · cases h
omit [LC] in
theorem aAppend_sees {P : Program} {t st : St} {d : D} {ty ty2 : TypeId} {old : List AV} {n : Nat} {y : AV} {r : List Prop × Box} (hhp : ∀ n b, look t.hp n = some b → look st.hp n = some b) (h : aAppend P t d ty ty2 old n y = some r) : aAppend P st d ty ty2 old n y = some r := by
  unfold aAppend at h ⊢
  split at h
  · split at h
    · rename_i hsz hsrc; rw [srcOf_sees hhp hsrc, hsz]; exact h
    · cases h
  · cases h
omit [LC] in
mutual
theorem vw_sees {b : Bool} {hp hp' : List (Nat × Box)} (hhp : ∀ n b, look hp n = some b → look hp' n = some b) {x y : AV} {ps : List Prop} (h : vw b hp x y = some ps) : vw b hp' x y = some ps := by
  unfold vw at h ⊢
  split at h
  · exact vws_sees hhp h
  · exact vws_sees hhp h
  · split at h
    · rename_i h1 h2; rw [vws_sees hhp h1, vws_sees hhp h2]; exact h
    · cases h
  · cases b
    · cases h
    · simp only [cond_true] at h ⊢
      split at h
      · rename_i hl; rw [hhp _ _ hl]; exact h
      · cases h
  · exact h
  · exact h
  · exact h
  · exact h
  · exact h
theorem vws_sees {b : Bool} {hp hp' : List (Nat × Box)} (hhp : ∀ n b, look hp n = some b → look hp' n = some b) {xs ys : List AV} {ps : List Prop} (h : vws b hp xs ys = some ps) : vws b hp' xs ys = some ps := by
  unfold vws at h ⊢
  split at h
  · exact h
  · split at h
    · rename_i h1
      split at h
      · rename_i h2
        rw [vw_sees hhp h1, vws_sees hhp h2]; exact h
      · cases h
    · cases h
  · cases h
end
theorem anew_sees {P : Program} {o : Oper} {t st : St} {d : D} {R : List Prop × AV × List (Nat × Box)} (hs : Sees o t st) (h : anew P t d o = some R) : anew P st d o = some R := by
  have hev := hs.ev
  have hroom := hs.room
  have hnx := hs.nx
  obtain ⟨dst, op, ty, pos, after, guard⟩ := o
  unfold anew at h ⊢
  simp only at hev hroom h ⊢
  split at h
  · rename_i T tt
    split at h
    · rename_i cs hz
      cases hb : AV.ones cs && noRange (t.nx + 32 * tt) t.hp <;> rw [hb] at h <;> simp only [cond_true, cond_false, reduceCtorEq] at h
      simp only [Bool.and_eq_true] at hb
      rw [hb.1, hroom tt rfl, ← hnx]; exact h
    · cases h
  · rename_i T x tt
    rw [← hev x (by simp [Op.operands])]
    split at h
    · rename_i v hx
      cases hb : AV.ones v.cells && noRange (t.nx + 32 * tt) t.hp <;> rw [hb] at h <;> simp only [cond_true, cond_false, reduceCtorEq] at h
      simp only [Bool.and_eq_true] at hb
      have hr := hroom tt rfl
      rw [← hnx] at hr
      simp only [hb.1, hr, ← hnx, Bool.and_self, cond_true]; exact h
    · cases h
  · rename_i g args tys tt
    have h1 : t.ev g = st.ev g := hev g (by simp [Op.operands, Call.operands])
    have h2 : t.evs args.toList = st.evs args.toList := evs_sees (fun x hx => hev x (by simp [Op.operands, Call.operands]; exact .inr (by simpa using hx)))
    rw [← h1, ← h2]
    split at h
    · rename_i f cap xs bb xs' r hp' hg hargs
      split at h
      · rename_i pv hvw
        cases hb : namesLt 32 hp' && noRange (t.nx + 32 * tt) t.hp && (!bb || noRef r) <;> rw [hb] at h <;> simp only [cond_true, cond_false, reduceCtorEq] at h
        simp only [Bool.and_eq_true] at hb
        have hr := hroom tt rfl
        rw [← hnx] at hr
        rw [vws_sees hs.hp hvw]
        simp only [hb.1.1, hb.2, hr, ← hnx, Bool.and_self, cond_true]; exact h
      · cases h
    · cases h
  · rename_i args argTypes tt
    split at h
    · rename_i x y ty1 ty2 ha ht
      have hm : ∀ z ∈ args.toList, t.ev z = st.ev z := fun z hz => hev z (by simp [Op.operands, Call.operands]; simpa using hz)
      rw [← hm x (by rw [ha]; simp), ← hm y (by rw [ha]; simp)]
      split at h
      · rename_i v hx hy
        split at h
        · rename_i ps b happ
          cases hb : noRange (t.nx + 32 * tt) t.hp <;> rw [hb] at h <;> simp only [cond_true, cond_false, reduceCtorEq] at h
          have hr := hroom tt rfl
          rw [← hnx] at hr
          simp only [aAppend_sees hs.hp happ, hr, ← hnx, cond_true]; exact h
        · cases h
      · cases h
    · cases h
  · rename_i ty1 len parts tt
    split at h
    · rename_i ps b hbs
      have : aBuildSlice P st d ty1 len parts.toList = some (ps, b) := by
        unfold aBuildSlice at hbs ⊢
        rw [← aparts_sees (t := t) (st := st) (fun x hx => hev x (by simpa [Op.operands] using hx))]; exact hbs
      cases hb : noRange (t.nx + 32 * tt) t.hp <;> rw [hb] at h <;> simp only [cond_true, cond_false, reduceCtorEq] at h
      have hr := hroom tt rfl
      rw [← hnx] at hr
      simp only [this, hr, ← hnx, cond_true]; exact h
    · split at h
      · rename_i cs E hbc
        have this : aBuildCells P st d ty1 len parts.toList = some (cs, E) := by
          unfold aBuildCells at hbc ⊢
          rw [← aparts_sees (t := t) (st := st) (fun x hx => hev x (by simpa [Op.operands] using hx))]; exact hbc
        have that : aBuildSlice P st d ty1 len parts.toList = none := by
          unfold aBuildCells at hbc
          split at hbc
          · simp [aBuildSlice]
          · cases hbc
        cases hb : noRange (t.nx + 32 * tt) t.hp <;> rw [hb] at h <;> simp only [cond_true, cond_false, reduceCtorEq] at h
        have hr := hroom tt rfl
        rw [← hnx] at hr
        simp only [this, that, hr, ← hnx, cond_true]; exact h
      · cases h
  · rename_i src dst x tt
    rw [← hev x (by simp [Op.operands])]
    split at h
    · rename_i sd E b hs1 hd hx
      split at h
      · rename_i he
        cases hb : noRange (t.nx + 32 * tt) t.hp <;> rw [hb] at h <;> simp only [cond_true, cond_false, reduceCtorEq] at h
        have hr := hroom tt rfl
        rw [← hnx] at hr
        simp only [hr, ← hnx, cond_true]; exact h
      · cases h
    · cases h
  · cases h
theorem aadd_sees {P : Program} {o : Oper} {t st : St} {d : D} {R : List Prop × AV × List (Nat × Box)} (hs : Sees o t st) (h : aadd P t d o = some R) : aadd P st d o = some R := by
  unfold aadd at h ⊢
  split at h
  · rename_i ps v hv; rw [aval_sees hs hv]; exact h
  · rw [aval_none_new h]; exact anew_sees hs h
omit [LC] in
theorem guardOf_sees {ops : Array Oper} {o : Oper} {t st : St} {j : Nat} {want : Bool} (hg : o.guard = some (j, want)) (hr : ∀ d ∈ readsOf ops o, look t.fr d = look st.fr d) : guardOf ops t j = guardOf ops st j := by
  unfold guardOf
  cases hj : ops[j]? with
  | none => rfl
  | some oj =>
    simp only
    cases hd : oj.dst with
    | none => rfl
    | some d => simp only; rw [hr d (by simp [readsOf, hg, hj, hd])]
theorem astepH_sees {P : Program} {ops : Array Oper} {o : Oper} {t st : St} {c : Dec} {R : List Prop × AV × List (Nat × Box)} (hs : Sees o t st) (hr : ∀ d ∈ readsOf ops o, look t.fr d = look st.fr d) (h : astepH P ops t c o = some R) : astepH P ops st c o = some R := by
  unfold astepH at h ⊢
  split at h
  · exact aadd_sees hs h
  · rename_i j want hg
    rw [← guardOf_sees hg hr]
    split at h
    · cases h
    · exact h
    · rename_i b hb
      cases hq : c.1 == want <;> rw [hq] at h <;> simp only [cond_true, cond_false] at h ⊢
      · exact h
      · split at h
        · rename_i ps v new ha; rw [aadd_sees hs ha]; exact h
        · cases h

section
variable {P : Program} {w₀ : World} {G₀ : Gh} {hp₀ : List (Nat × Box)} {G : Gh} {s : St} {a : Act} {w : World}

theorem astepH_ok (hr : Rel w₀ G₀ hp₀ G s a w) {ops : Array Oper} {i : Nat} {o : Oper} {c : Dec} {ps : List Prop} {v : AV} {new : List (Nat × Box)} {s' : St} (ho : ops[i]? = some o) (h : astepH P ops s c o = some (ps, v, new)) (hp : Alls ps) (hs : s.add o.dst v new = some s')
    {N : Act → World → Prop} (hN : ∀ G' a' w', Rel w₀ G₀ hp₀ G' s' a' w' → N a' w') : dOp P ops i N a w := by
  unfold astepH at h
  split at h
  · rename_i hg
    exact dOp_of ho (by simp [Region.wanted, hg]) (oDoes_of_wp (aadd_not_defer h) (aadd_ok hr h hp hs hN))
  · rename_i j want hg
    split at h
    · cases h
    · rename_i hb
      have hy := guardOf_ok hr hb
      simp only [Option.some.injEq, Prod.mk.injEq] at h; obtain ⟨rfl, rfl, rfl⟩ := h
      exact dOp_skip ho (by simp [Region.wanted, hg, hy]) (hN _ _ _ (aval_rel hr hs rfl))
    · rename_i b hb
      have hy := guardOf_ok hr hb
      cases hq : c.1 == want <;> rw [hq] at h <;> simp only [cond_true, cond_false] at h
      · simp only [Option.some.injEq, Prod.mk.injEq] at h; obtain ⟨rfl, rfl, rfl⟩ := h
        simp only [Alls, and_true] at hp
        exact dOp_skip ho (by
          simp only [Region.wanted, hg, hy, hp]
          simp only [beq_eq_false_iff_ne, ne_eq] at hq
          simpa using hq) (hN _ _ _ (aval_rel hr hs rfl))
      · split at h
        · rename_i ps' v' new' ha
          simp only [Option.some.injEq, Prod.mk.injEq] at h; obtain ⟨rfl, rfl, rfl⟩ := h
          obtain ⟨hp1, hp2⟩ := hp
          exact dOp_of ho (by simp only [Region.wanted, hg, hy, hp1]; simpa using hq) (oDoes_of_wp (aadd_not_defer ha) (aadd_ok hr ha hp2 hs hN))
        · cases h

/-- two states that say the same -/
structure St.eqv (s t : St) : Prop where
  n : s.n = t.n
  nx : s.nx = t.nx
  fr : ∀ i, look s.fr i = look t.fr i
  hp : ∀ i, look s.hp i = look t.hp i
  df : s.df = t.df
theorem Rel.eqv (hr : Rel w₀ G₀ hp₀ G s a w) {t : St} (h : s.eqv t) : Rel w₀ G₀ hp₀ G t a w := by
  refine ⟨by rw [← h.df]; exact hr.defers, by rw [hr.size, h.n], fun i x hx => hr.frame i x (by rw [h.fr]; exact hx), fun m hm hl => hr.fresh m (by rw [h.nx]; exact hm) (by rw [h.hp]; exact hl), ⟨⟨hr.fin.mem.agree, hr.fin.mem.one, fun n bx hb => hr.fin.mem.holds n bx (by rw [h.hp]; exact hb), fun n m bx bx' b h1 h2 => hr.fin.mem.apart n m bx bx' b (by rw [h.hp]; exact h1) (by rw [h.hp]; exact h2), hr.fin.mem.tab⟩, hr.fin.bel, hr.fin.imm_le, hr.fin.imm_new, fun n bx b h1 => hr.fin.base n bx b (by rw [h.hp]; exact h1), hr.fin.keep, hr.fin.keepOwn⟩⟩


/-- the names of what an operation makes -/
def inR (lo : Nat) (l : List (Nat × Box)) : Prop := ∀ e ∈ l, lo ≤ e.1 ∧ e.1 < lo + 32
omit [LC] in
theorem shiftHp_names {ρ : Nat → Option Nat} {k : Nat} : ∀ {l : List (Nat × Box)}, namesLt 32 l = true → inR k (shiftHp ρ k l)
  | [], _ => by intro e he; cases he
  | (n, b) :: r, h => by
    simp only [namesLt, Bool.and_eq_true, Nat.blt_eq] at h
    intro e he
    rcases List.mem_cons.1 he with rfl | he
    · exact ⟨by simp, by simp; omega⟩
    · exact shiftHp_names h.2 e he
theorem anew_names {o : Oper} {t : St} {d : D} {ps : List Prop} {v : AV} {new : List (Nat × Box)} {k : Nat} (hd : o.dst = some k) (h : anew P t d o = some (ps, v, new)) : inR (t.nx + 32 * k) new := by
  obtain ⟨dst, op, ty, pos, after, guard⟩ := o
  simp only at hd; subst hd
  unfold anew at h
  simp only at h
  split at h
  · rename_i T tt hh; injection hh with hh; subst hh
    split at h
    · rename_i cs hz
      cases hb : AV.ones cs && noRange (t.nx + 32 * k) t.hp <;> rw [hb] at h <;> simp only [cond_true, cond_false, reduceCtorEq, Option.some.injEq, Prod.mk.injEq] at h
      obtain ⟨_, _, rfl⟩ := h
      intro e he; simp at he; subst he; exact ⟨by simp, by simp⟩
    · cases h
  · rename_i T x tt hh; injection hh with hh; subst hh
    split at h
    · rename_i v hx
      cases hb : AV.ones v.cells && noRange (t.nx + 32 * k) t.hp <;> rw [hb] at h <;> simp only [cond_true, cond_false, reduceCtorEq, Option.some.injEq, Prod.mk.injEq] at h
      obtain ⟨_, _, rfl⟩ := h
      intro e he; simp at he; subst he; exact ⟨by simp, by simp⟩
    · cases h
  · rename_i g args tys tt hh; injection hh with hh; subst hh
    split at h
    · rename_i bb _ r hp' hg hargs
      split at h
      · cases hb : namesLt 32 hp' && noRange (t.nx + 32 * k) t.hp && (!bb || noRef r) <;> rw [hb] at h <;> simp only [cond_true, cond_false, reduceCtorEq, Option.some.injEq, Prod.mk.injEq] at h
        obtain ⟨_, _, rfl⟩ := h
        simp only [Bool.and_eq_true] at hb
        exact shiftHp_names hb.1.1
      · cases h
    · cases h
  · rename_i args argTypes tt hh; injection hh with hh; subst hh
    split at h
    · split at h
      · split at h
        · cases hb : noRange (t.nx + 32 * k) t.hp <;> rw [hb] at h <;> simp only [cond_true, cond_false, reduceCtorEq, Option.some.injEq, Prod.mk.injEq] at h
          obtain ⟨_, _, rfl⟩ := h
          intro e he; simp at he; subst he; exact ⟨by simp, by simp⟩
        · cases h
      · cases h
    · cases h
  · rename_i ty1 len parts tt hh; injection hh with hh; subst hh
    split at h
    · cases hb : noRange (t.nx + 32 * k) t.hp <;> rw [hb] at h <;> simp only [cond_true, cond_false, reduceCtorEq, Option.some.injEq, Prod.mk.injEq] at h
      obtain ⟨_, _, rfl⟩ := h
      intro e he; simp at he; subst he; exact ⟨by simp, by simp⟩
    · split at h
      · cases hb : noRange (t.nx + 32 * k) t.hp <;> rw [hb] at h <;> simp only [cond_true, cond_false, reduceCtorEq, Option.some.injEq, Prod.mk.injEq] at h
        obtain ⟨_, _, rfl⟩ := h
        intro e he; simp at he; subst he; exact ⟨by simp, by simp⟩
      · cases h
  · rename_i src dst x tt hh; injection hh with hh; subst hh
    split at h
    · split at h
      · cases hb : noRange (t.nx + 32 * k) t.hp <;> rw [hb] at h <;> simp only [cond_true, cond_false, reduceCtorEq, Option.some.injEq, Prod.mk.injEq] at h
        obtain ⟨_, _, rfl⟩ := h
        intro e he; simp at he; subst he; exact ⟨by simp, by simp⟩
      · cases h
    · cases h
  · cases h
theorem aadd_names {o : Oper} {t : St} {d : D} {ps : List Prop} {v : AV} {new : List (Nat × Box)} {k : Nat} (hd : o.dst = some k) (h : aadd P t d o = some (ps, v, new)) : inR (t.nx + 32 * k) new := by
  unfold aadd at h
  split at h
  · simp only [Option.some.injEq, Prod.mk.injEq] at h
    obtain ⟨_, _, rfl⟩ := h
    intro e he; cases he
  · exact anew_names hd h
theorem astepH_names {ops : Array Oper} {o : Oper} {t : St} {c : Dec} {ps : List Prop} {v : AV} {new : List (Nat × Box)} {k : Nat} (hd : o.dst = some k) (h : astepH P ops t c o = some (ps, v, new)) : inR (t.nx + 32 * k) new := by
  unfold astepH at h
  split at h
  · exact aadd_names hd h
  · split at h
    · cases h
    · simp only [Option.some.injEq, Prod.mk.injEq] at h
      obtain ⟨_, _, rfl⟩ := h
      intro e he; cases he
    · rename_i j want _ _ b _
      cases hq : c.1 == want <;> rw [hq] at h <;> simp only [cond_true, cond_false] at h
      · simp only [Option.some.injEq, Prod.mk.injEq] at h
        obtain ⟨_, _, rfl⟩ := h
        intro e he; cases he
      · split at h
        · rename_i ha
          simp only [Option.some.injEq, Prod.mk.injEq] at h
          obtain ⟨_, _, rfl⟩ := h
          exact aadd_names hd ha
        · cases h
omit [LC] in
theorem look_mem : ∀ {l : List (Nat × Box)} {m : Nat} {b : Box}, look l m = some b → (m, b) ∈ l
  | [], m, b, h => by cases h
  | (k, v) :: r, m, b, h => by
    simp only [look] at h
    cases hb : Nat.beq k m
    · rw [hb] at h; exact List.mem_cons_of_mem _ (look_mem h)
    · rw [hb] at h; simp only [cond_true, Option.some.injEq] at h; subst h
      rw [← Nat.eq_of_beq_eq_true hb]; exact List.mem_cons_self
omit [LC] in
theorem noRange_iff {lo : Nat} : ∀ {l : List (Nat × Box)}, noRange lo l = true ↔ ∀ e ∈ l, e.1 < lo ∨ lo + 32 ≤ e.1
  | [] => by simp [noRange]
  | (n, b) :: r => by
    simp only [noRange, Bool.and_eq_true, Bool.or_eq_true, Nat.blt_eq, Nat.ble_eq, noRange_iff (l := r), List.mem_cons, forall_eq_or_imp]

/- what is known when some operations of the head have run -/
def addL (Rs : List HR) : List Nat → St → St
  | [], s => s
  | i :: L, s => match Rs[i]? with
    | some r => (addL Rs L s).addR r
    | none => addL Rs L s
omit [LC] in
theorem addL_append (Rs : List HR) : ∀ (A B : List Nat) (s : St), addL Rs (A ++ B) s = addL Rs A (addL Rs B s)
  | [], B, s => rfl
  | i :: A, B, s => by simp only [List.cons_append, addL, addL_append Rs A B s]
omit [LC] in
theorem addSel_eq {Rs : List HR} {sel : List Nat} : ∀ (rs : List HR) (j : Nat) (t : St), (∀ k, k < rs.length → Rs[j + k]? = rs[k]?) → addSel sel rs j t = addL Rs (((List.range' j rs.length).filter (memN sel)).reverse) t
  | [], j, t, _ => rfl
  | r :: rs, j, t, h => by
    have h0 : Rs[j]? = some r := by simpa using h 0 (by simp)
    rw [addSel, addSel_eq rs (j + 1) _ (fun k hk => by have := h (k + 1) (by simp; omega); rw [show j + 1 + k = j + (k + 1) by omega, this]; simp), List.length_cons, List.range'_succ]
    cases hm : memN sel j
    · rw [List.filter_cons_of_neg (by simp [hm])]; rfl
    · rw [List.filter_cons_of_pos hm, List.reverse_cons, addL_append]
      simp only [addL, h0, cond_true]
omit [LC] in
theorem addAll_eq {Rs : List HR} : ∀ (rs : List HR) (j : Nat) (t : St), (∀ k, k < rs.length → Rs[j + k]? = rs[k]?) → addAll rs t = addL Rs ((List.range' j rs.length).reverse) t
  | [], j, t, _ => rfl
  | r :: rs, j, t, h => by
    have h0 : Rs[j]? = some r := by simpa using h 0 (by simp)
    rw [addAll, addAll_eq rs (j + 1) _ (fun k hk => by have := h (k + 1) (by simp; omega); rw [show j + 1 + k = j + (k + 1) by omega, this]; simp), List.length_cons, List.range'_succ, List.reverse_cons, addL_append]
    simp only [addL, h0]
omit [LC] in
theorem addL_n (Rs : List HR) : ∀ (L : List Nat) (s : St), (addL Rs L s).n = s.n ∧ (addL Rs L s).nx = s.nx
  | [], s => ⟨rfl, rfl⟩
  | i :: L, s => by
    simp only [addL]
    split
    · exact addL_n Rs L s
    · exact addL_n Rs L s

omit [LC] in
theorem addL_df (Rs : List HR) : ∀ (L : List Nat) (s : St), (addL Rs L s).df = s.df
  | [], s => rfl
  | i :: L, s => by
    simp only [addL]
    split
    · exact addL_df Rs L s
    · exact addL_df Rs L s

/-- the results of the head's operations -/
structure Head (s : St) (Rs : List HR) : Prop where
  dst : ∀ (i j : Nat) (r r' : HR), Rs[i]? = some r → Rs[j]? = some r' → r.dst = r'.dst → i = j
  names : ∀ (i : Nat) (r : HR), Rs[i]? = some r → inR (s.nx + 32 * r.dst) r.new
  room : ∀ (i : Nat) (r : HR), Rs[i]? = some r → noRange (s.nx + 32 * r.dst) s.hp = true

omit [LC] in
theorem addL_fr_in {Rs : List HR} (hh : Head s Rs) : ∀ {L : List Nat} {i : Nat} {r : HR}, i ∈ L → Rs[i]? = some r → look (addL Rs L s).fr r.dst = some r.v
  | j :: L, i, r, hi, hr => by
    simp only [addL]
    by_cases hij : j = i
    · subst hij; rw [hr]; simp only [St.addR, look]; rw [show Nat.beq r.dst r.dst = true by simp]; rfl
    · have hi' : i ∈ L := by rcases List.mem_cons.1 hi with h | h; · exact absurd h.symm hij
                             · exact h
      split
      · rename_i r' hr'
        have hne : Nat.beq r'.dst r.dst = false := by
          cases hb : Nat.beq r'.dst r.dst
          · rfl
          · exact absurd (hh.dst _ _ _ _ hr' hr (Nat.eq_of_beq_eq_true hb)) hij
        simp only [St.addR, look, hne, cond_false]
        exact addL_fr_in hh hi' hr
      · exact addL_fr_in hh hi' hr
omit [LC] in
theorem addL_fr_out {Rs : List HR} {d : Nat} : ∀ {L : List Nat}, (∀ i ∈ L, ∀ r : HR, Rs[i]? = some r → r.dst ≠ d) → look (addL Rs L s).fr d = look s.fr d
  | [], _ => rfl
  | j :: L, h => by
    simp only [addL]
    have ih := addL_fr_out (L := L) (fun i hi => h i (List.mem_cons_of_mem _ hi))
    split
    · rename_i r hr
      have hne : Nat.beq r.dst d = false := by
        cases hb : Nat.beq r.dst d
        · rfl
        · exact absurd (Nat.eq_of_beq_eq_true hb) (h j List.mem_cons_self r hr)
      simp only [St.addR, look, hne, cond_false]; exact ih
    · exact ih
omit [LC] in
theorem addL_hp_in {Rs : List HR} (hh : Head s Rs) : ∀ {L : List Nat} {i : Nat} {r : HR} {m : Nat} {b : Box}, i ∈ L → Rs[i]? = some r → look r.new m = some b → look (addL Rs L s).hp m = some b
  | j :: L, i, r, m, b, hi, hr, hb => by
    simp only [addL]
    by_cases hij : j = i
    · subst hij; rw [hr]; simp only [St.addR]; rw [look_append, hb]
    · have hi' : i ∈ L := by rcases List.mem_cons.1 hi with h | h; · exact absurd h.symm hij
                             · exact h
      have ih := addL_hp_in hh hi' hr hb
      split
      · rename_i r' hr'
        have hne : r'.dst ≠ r.dst := fun e => hij (hh.dst _ _ _ _ hr' hr e)
        simp only [St.addR]
        rw [look_append]
        cases hq : look r'.new m with
        | none => exact ih
        | some b' =>
          have h1 := hh.names _ _ hr' _ (look_mem hq)
          have h2 := hh.names _ _ hr _ (look_mem hb)
          simp only at h1 h2
          omega
      · exact ih
omit [LC] in
theorem addL_hp_out {Rs : List HR} {m : Nat} : ∀ {L : List Nat}, (∀ i ∈ L, ∀ r : HR, Rs[i]? = some r → look r.new m = none) → look (addL Rs L s).hp m = look s.hp m
  | [], _ => rfl
  | j :: L, h => by
    simp only [addL]
    have ih := addL_hp_out (L := L) (fun i hi => h i (List.mem_cons_of_mem _ hi))
    split
    · rename_i r hr
      simp only [St.addR]
      rw [look_append, h j List.mem_cons_self r hr]; exact ih
    · exact ih
omit [LC] in
theorem addL_hp_mono {Rs : List HR} (hh : Head s Rs) {L L' : List Nat} (hs : ∀ i ∈ L, i ∈ L') {m : Nat} {b : Box} (h : look (addL Rs L s).hp m = some b) : look (addL Rs L' s).hp m = some b := by
  by_cases hex : ∃ i ∈ L, ∃ r : HR, Rs[i]? = some r ∧ ∃ b', look r.new m = some b'
  · obtain ⟨i, hi, r, hr, b', hb'⟩ := hex
    rw [addL_hp_in hh hi hr hb'] at h
    injection h with h; subst h
    exact addL_hp_in hh (hs i hi) hr hb'
  · rw [addL_hp_out (fun i hi r hr => by cases hq : look r.new m with | none => rfl | some b' => exact absurd ⟨i, hi, r, hr, b', hq⟩ hex)] at h
    rw [addL_hp_out]
    · exact h
    · intro i hi r hr
      cases hq : look r.new m with
      | none => rfl
      | some b' =>
        have h1 := hh.names _ _ hr _ (look_mem hq)
        have h2 := noRange_iff.1 (hh.room _ _ hr) _ (look_mem h)
        simp only at h1 h2
        omega
omit [LC] in
theorem addL_room {Rs : List HR} (hh : Head s Rs) {i : Nat} {r : HR} (hr : Rs[i]? = some r) : ∀ {L : List Nat}, i ∉ L → noRange (s.nx + 32 * r.dst) (addL Rs L s).hp = true
  | [], _ => hh.room i r hr
  | j :: L, hi => by
    simp only [addL]
    have ih := addL_room hh hr (L := L) (fun h => hi (List.mem_cons_of_mem _ h))
    split
    · rename_i r' hr'
      have hne : r'.dst ≠ r.dst := fun e => hi (by rw [← hh.dst _ _ _ _ hr' hr e]; exact List.mem_cons_self)
      simp only [St.addR]
      rw [noRange_iff]
      intro e he
      rcases List.mem_append.1 he with he | he
      · have := hh.names _ _ hr' _ he
        omega
      · exact noRange_iff.1 ih e he
    · exact ih
end
end Go.Sym
/- A region that draws its order: every order comes to the same. -/
namespace Go.Sym
open Go.RowKit
variable [LC]
section
variable {P : Program} {w₀ : World} {G₀ : Gh} {hp₀ : List (Nat × Box)} {s : St}

/-- what the head's reckoning shows of operation i -/
def HOk (P : Program) (ops : Array Oper) (s : St) (Rs : List HR) (i : Nat) (o : Oper) : Prop :=
  ∃ r ps, ∃ c : Dec, Rs[i]? = some r ∧ o.dst = some r.dst ∧ r.dst < s.n ∧ noRange (s.nx + 32 * r.dst) s.hp = true ∧ predsOf (Rs.take i) o.after.toList = some r.pred ∧ freshDst r.dst (Rs.take i) = true ∧
    readsFine r.pred (readsOf ops o) (Rs.take i) 0 = true ∧ writesFine ops r.dst r.pred i = true ∧ astepH P ops (addSel r.pred (Rs.take i) 0 s) c o = some (ps, r.v, r.new) ∧ Alls ps

omit [LC] in
theorem freshDst_iff {d : Nat} : ∀ {rs : List HR}, freshDst d rs = true ↔ ∀ r ∈ rs, r.dst ≠ d
  | [] => by simp [freshDst]
  | r :: rs => by
    simp only [freshDst, Bool.and_eq_true, Bool.not_eq_true', freshDst_iff (rs := rs), List.mem_cons, forall_eq_or_imp]
    constructor
    · rintro ⟨h1, h2⟩; exact ⟨fun e => by subst e; simp at h1, h2⟩
    · rintro ⟨h1, h2⟩
      refine ⟨?_, h2⟩
      cases hb : Nat.beq r.dst d
      · rfl
      · exact absurd (Nat.eq_of_beq_eq_true hb) h1
omit [LC] in
theorem predsOf_mem {Rs : List HR} : ∀ {es : List Edge} {l : List Nat}, predsOf Rs es = some l →
    (∀ e ∈ es, Region.binds .any e = true → e.on ∈ l) ∧ (∀ j ∈ l, ∃ e ∈ es, Region.binds .any e = true ∧ (j = e.on ∨ ∃ r, Rs[e.on]? = some r ∧ j ∈ r.pred))
  | [], l, h => by simp only [predsOf, Option.some.injEq] at h; subst h; exact ⟨fun e he => (by cases he), fun j hj => (by cases hj)⟩
  | e :: es, l, h => by
    simp only [predsOf] at h
    cases hb : Region.binds .any e <;> rw [hb] at h <;> simp only [cond_true, cond_false] at h
    · obtain ⟨h1, h2⟩ := predsOf_mem h
      refine ⟨fun e' he' hbe => ?_, fun j hj => ?_⟩
      · rcases List.mem_cons.1 he' with rfl | he'
        · rw [hb] at hbe; cases hbe
        · exact h1 e' he' hbe
      · obtain ⟨e', he', r⟩ := h2 j hj; exact ⟨e', List.mem_cons_of_mem _ he', r⟩
    · split at h
      · rename_i r l' hr hl'
        simp only [Option.some.injEq] at h; subst h
        obtain ⟨h1, h2⟩ := predsOf_mem hl'
        refine ⟨fun e' he' hbe => ?_, fun j hj => ?_⟩
        · rw [mem_unionN]
          rcases List.mem_cons.1 he' with rfl | he'
          · exact .inl List.mem_cons_self
          · exact .inr (h1 e' he' hbe)
        · rw [mem_unionN] at hj
          rcases hj with hj | hj
          · rcases List.mem_cons.1 hj with rfl | hj
            · exact ⟨e, List.mem_cons_self, hb, .inl rfl⟩
            · exact ⟨e, List.mem_cons_self, hb, .inr ⟨r, hr, hj⟩⟩
          · obtain ⟨e', he', r⟩ := h2 j hj; exact ⟨e', List.mem_cons_of_mem _ he', r⟩
      · cases h
omit [LC] in
theorem readsFine_iff {pred reads : List Nat} : ∀ {rs : List HR} {j : Nat}, readsFine pred reads rs j = true → ∀ k r, rs[k]? = some r → j + k ∈ pred ∨ r.dst ∉ reads
  | [], j, _, k, r, hr => by simp at hr
  | r0 :: rs, j, h, k, r, hr => by
    simp only [readsFine, Bool.and_eq_true, Bool.or_eq_true, Bool.not_eq_true'] at h
    cases k with
    | zero =>
      simp at hr; subst hr
      rcases h.1 with h | h
      · exact .inl (memN_iff.1 h)
      · exact .inr (fun hm => by rw [memN_iff.2 hm] at h; cases h)
    | succ k =>
      have := readsFine_iff h.2 k r (by simpa using hr)
      rwa [show j + (k + 1) = j + 1 + k by omega]
omit [LC] in
theorem writesFine_iff {ops : Array Oper} {d : Nat} {pred : List Nat} : ∀ {i : Nat}, writesFine ops d pred i = true → ∀ j o, j < i → ops[j]? = some o → j ∈ pred ∨ d ∉ readsOf ops o
  | 0, _, j, o, hj, _ => by omega
  | i + 1, h, j, o, hj, ho => by
    simp only [writesFine, Bool.and_eq_true, Bool.or_eq_true] at h
    by_cases hij : j = i
    · subst hij
      rcases h.1 with h | h
      · exact .inl (memN_iff.1 h)
      · rw [ho] at h; simp only [Bool.not_eq_true'] at h
        exact .inr (fun hm => by rw [memN_iff.2 hm] at h; cases h)
    · exact writesFine_iff h.2 j o (by omega) ho
omit [LC] in
theorem waitsOn_iff {o : Oper} {j : Nat} (h : waitsOn o j = true) : ∃ e ∈ o.after, e.on = j ∧ Region.binds .any e = true := by
  obtain ⟨e, he, hb⟩ := List.any_eq_true.1 h
  simp only [Bool.and_eq_true] at hb
  exact ⟨e, by simpa using he, Nat.eq_of_beq_eq_true hb.1, hb.2⟩
omit [LC] in
theorem chainFine_iff : ∀ {l : List Oper} {i : Nat}, chainFine l i = true → ∀ j o, l[j]? = some o → waitsOn o (i + j - 1) = true
  | [], i, _, j, o, ho => by simp at ho
  | o0 :: l, i, h, j, o, ho => by
    simp only [chainFine, Bool.and_eq_true] at h
    cases j with
    | zero => simp at ho; subst ho; exact h.1
    | succ j => have := chainFine_iff h.2 j o (by simpa using ho); rwa [show i + (j + 1) - 1 = i + 1 + j - 1 by omega]
omit [LC] in
theorem directs_mem {L : List Nat} : ∀ {es : List Edge}, (∀ e ∈ es, Region.binds .any e = true → e.on ∈ L) → ∀ j ∈ directs es, j ∈ L
  | [], _, j, h => by cases h
  | e :: es, hL, j, h => by
    simp only [directs] at h
    cases hb : Region.binds .any e <;> rw [hb] at h <;> simp only [cond_true, cond_false] at h
    · exact directs_mem (fun e he => hL e (List.mem_cons_of_mem _ he)) j h
    · rcases List.mem_cons.1 h with rfl | h
      · exact hL e List.mem_cons_self hb
      · exact directs_mem (fun e he => hL e (List.mem_cons_of_mem _ he)) j h
omit [LC] in
theorem reachGo_mem {ops : Array Oper} {L : List Nat} (hcl : ∀ i ∈ L, ∀ o, ops[i]? = some o → ∀ e ∈ o.after, Region.binds .any e = true → e.on ∈ L) : ∀ {n : Nat} {S : List Nat}, (∀ j ∈ S, j ∈ L) → ∀ j ∈ reachGo ops n S, j ∈ L
  | 0, S, hS, j, h => hS j h
  | n + 1, S, hS, j, h => by
    simp only [reachGo] at h
    refine reachGo_mem hcl (fun i hi => ?_) j h
    cases hb : memN S n <;> rw [hb] at hi <;> simp only [cond_true, cond_false] at hi
    · exact hS i hi
    · split at hi
      · rename_i o ho
        rcases List.mem_append.1 hi with hi | hi
        · exact directs_mem (fun e he hb' => hcl n (hS n (memN_iff.1 hb)) o ho e (by simpa using he) hb') i hi
        · exact hS i hi
      · exact hS i hi
omit [LC] in
theorem allN_iff {S : List Nat} : ∀ {n : Nat}, allN S n = true → ∀ j, j < n → j ∈ S
  | 0, _, j, h => by omega
  | n + 1, h, j, hj => by
    simp only [allN, Bool.and_eq_true] at h
    by_cases e : j = n
    · subst e; exact memN_iff.1 h.1
    · exact allN_iff h.2 j (by omega)
omit [LC] in
theorem tailFine_first {ops : Array Oper} {n : Nat} (h : tailFine ops n = true) {o : Oper} (ho : ops[n]? = some o) {L : List Nat} (hcl : ∀ i ∈ L, ∀ o, ops[i]? = some o → ∀ e ∈ o.after, Region.binds .any e = true → e.on ∈ L)
    (hL : ∀ e ∈ o.after, Region.binds .any e = true → e.on ∈ L) : ∀ j, j < n → j ∈ L := fun j hj => by
  unfold tailFine at h
  split at h
  · rename_i hd
    have : n < ops.size := (Array.getElem?_eq_some_iff.1 ho).1
    have := congrArg List.length hd
    simp at this; omega
  · rename_i o' l hd
    have : o' = o := by
      have := congrArg (fun l => l[0]?) hd
      simp only [List.getElem?_drop, Nat.add_zero, List.getElem?_cons_zero, Array.getElem?_toList] at this
      rw [ho] at this; injection this with this; exact this.symm
    subst this
    simp only [Bool.and_eq_true] at h
    exact reachGo_mem hcl (directs_mem fun e he => hL e (by simpa using he)) j (allN_iff h.1 j hj)
omit [LC] in
theorem tailFine_next {ops : Array Oper} {n : Nat} (h : tailFine ops n = true) {i : Nat} {o : Oper} (hi : n < i) (ho : ops[i]? = some o) : waitsOn o (i - 1) = true := by
  unfold tailFine at h
  split at h
  · rename_i hd
    have : i < ops.size := (Array.getElem?_eq_some_iff.1 ho).1
    have := congrArg List.length hd
    simp at this; omega
  · rename_i o' l hd
    simp only [Bool.and_eq_true] at h
    have hl : l[i - (n + 1)]? = some o := by
      have := congrArg (fun l => l[i - n]?) hd
      simp only [List.getElem?_drop, Array.getElem?_toList] at this
      rw [show n + (i - n) = i by omega, ho, show i - n = (i - (n + 1)) + 1 by omega, List.getElem?_cons_succ] at this
      exact this.symm
    have := chainFine_iff h.2 (i - (n + 1)) o hl
    rwa [show n + 1 + (i - (n + 1)) - 1 = i - 1 by omega] at this
omit [LC] in
theorem edgesFine_iff : ∀ {l : List Oper} {i : Nat}, edgesFine l i = true → ∀ j o, l[j]? = some o → ∀ e ∈ o.after, Region.binds .any e = true → e.on < i + j
  | [], i, _, j, o, ho => by simp at ho
  | o0 :: l, i, h, j, o, ho => by
    simp only [edgesFine, Bool.and_eq_true] at h
    cases j with
    | zero =>
      simp at ho; subst ho
      intro e he hb
      have := List.all_eq_true.1 h.1 e (by simpa using he)
      simp only [hb, Bool.not_true, Bool.false_or, Nat.blt_eq] at this
      exact this
    | succ j => have := edgesFine_iff h.2 j o (by simpa using ho); rwa [show i + (j + 1) = i + 1 + j by omega]

omit [LC] in
theorem mem_ready' {ops : Array Oper} {listed : Array Bool} {i : Nat} : i ∈ Region.ready .any ops listed ↔ i < ops.size ∧ listed.getD i true = false ∧ ∃ o, ops[i]? = some o ∧ ∀ e ∈ o.after, Region.binds .any e = true → listed.getD e.on false = true := by
  unfold Region.ready
  simp only [List.mem_filter, List.mem_range, Bool.and_eq_true, Bool.not_eq_true']
  constructor
  · rintro ⟨h1, h2, h3⟩
    obtain ⟨o, ho⟩ : ∃ o, ops[i]? = some o := ⟨ops[i], by simp [h1]⟩
    refine ⟨h1, h2, o, ho, fun e he hb => ?_⟩
    rw [ho] at h3
    simp only [Option.map_some, Option.getD_some] at h3
    have := Array.all_eq_true'.1 h3 e he
    simpa [hb] using this
  · rintro ⟨h1, h2, o, ho, h3⟩
    refine ⟨h1, h2, ?_⟩
    rw [ho]
    simp only [Option.map_some, Option.getD_some]
    refine Array.all_eq_true'.2 (fun e he => ?_)
    cases hb : Region.binds .any e
    · simp
    · simp [h3 e he hb]

omit [LC] in
theorem nodup_le : ∀ (n : Nat) (L : List Nat), L.Nodup → (∀ i ∈ L, i < n) → L.length ≤ n
  | 0, L, _, h => by
    cases L with
    | nil => simp
    | cons x L => have := h x List.mem_cons_self; omega
  | n + 1, L, hd, h => by
    by_cases hm : n ∈ L
    · have := nodup_le n (L.erase n) (hd.erase n) (fun i hi => by
        have h1 := h i (List.mem_of_mem_erase hi)
        have h2 : i ≠ n := fun e => by subst e; exact (hd.not_mem_erase) hi
        omega)
      rw [List.length_erase_of_mem hm] at this
      omega
    · have := nodup_le n L hd (fun i hi => by
        have h1 := h i hi
        have h2 : i ≠ n := fun e => hm (e ▸ hi)
        omega)
      omega
omit [LC] in
theorem le_nodup : ∀ (n : Nat) (L : List Nat), (∀ i, i < n → i ∈ L) → n ≤ L.length
  | 0, L, _ => Nat.zero_le _
  | n + 1, L, h => by
    have hm : n ∈ L := h n (by omega)
    have := le_nodup n (L.erase n) (fun i hi => (List.mem_erase_of_ne (by omega)).2 (h i (by omega)))
    rw [List.length_erase_of_mem hm] at this
    have : 0 < L.length := List.length_pos_of_mem hm
    omega

/-- the first m operations have run -/
structure Upto (ops : Array Oper) (m : Nat) (listed : Array Bool) : Prop where
  size : listed.size = ops.size
  iff : ∀ j, j < ops.size → (listed.getD j true = true ↔ j < m)
omit [LC] in
theorem tail_end {ops : Array Oper} {N : Act → World → Prop} {listed : Array Bool} {a : Act} {w : World} (hu : Upto ops ops.size listed) (h : N a w) : dAny P ops N (ops.size - ops.size) listed a w := by
  rw [Nat.sub_self]
  refine ⟨?_, h⟩
  cases hq : Region.ready .any ops listed with
  | nil => rfl
  | cons i r =>
    have hi : i ∈ Region.ready .any ops listed := by rw [hq]; exact List.mem_cons_self
    obtain ⟨h1, h2, _⟩ := mem_ready'.1 hi
    rw [(hu.iff i h1).2 h1] at h2; cases h2
omit [LC] in
theorem tail_one {ops : Array Oper} {N : Act → World → Prop} {n m : Nat} (he : edgesFine ops.toList 0 = true) (ht : tailFine ops n = true) (hn : n ≤ m) (hms : m < ops.size) {listed : Array Bool} {a : Act} {w : World} (hu : Upto ops m listed)
    (h : dOp P ops m (fun a w => ∀ listed, Upto ops (m + 1) listed → dAny P ops N (ops.size - (m + 1)) listed a w) a w) : dAny P ops N (ops.size - m) listed a w := by
  obtain ⟨k, hk⟩ : ∃ k, ops.size - m = k + 1 := ⟨ops.size - m - 1, by omega⟩
  obtain ⟨o, ho⟩ : ∃ o, ops[m]? = some o := ⟨ops[m], by simp [hms]⟩
  have hli := hu.iff
  have hsz := hu.size
  rw [hk]
  have hmr : m ∈ Region.ready .any ops listed := by
    refine mem_ready'.2 ⟨hms, ?_, o, ho, fun e hee hb => ?_⟩
    · cases hq : listed.getD m true
      · rfl
      · have := (hli m hms).1 hq; omega
    · have := edgesFine_iff he m o (by simpa using ho) e hee hb
      have hlt : e.on < m := by omega
      have h5 := (hli e.on (by omega)).2 hlt
      rw [Array.getD_eq_getD_getElem?] at h5 ⊢
      have : listed[e.on]? = some listed[e.on] := by simp [show e.on < listed.size by omega]
      rw [this] at h5 ⊢; exact h5
  refine ⟨fun hnil => (by rw [hnil] at hmr; cases hmr), fun i hi => ?_⟩
  have him : i = m := by
    obtain ⟨i1, i2, oi, i3, i4⟩ := mem_ready'.1 hi
    rcases Nat.lt_trichotomy i m with hlt | heq | hgt
    · rw [(hli i i1).2 hlt] at i2; cases i2
    · exact heq
    · have hw := tailFine_next ht (show n < i by omega) i3
      obtain ⟨e, he1, he2, he3⟩ := waitsOn_iff hw
      have := i4 e he1 he3
      rw [he2] at this
      have hf : listed.getD (i - 1) true = false := by
        cases hq : listed.getD (i - 1) true
        · rfl
        · have := (hli (i - 1) (by omega)).1 hq; omega
      rw [Array.getD_eq_getD_getElem?] at this hf
      have h6 : listed[i - 1]? = some listed[i - 1] := by simp [show i - 1 < listed.size by omega]
      rw [h6] at this hf
      simp only [Option.getD_some] at this hf
      rw [this] at hf; cases hf
  subst him
  refine dOp_mono (fun a w h => ?_) h
  have := h (listed.setIfInBounds i true) ⟨by simp [hsz], fun j hj => ?_⟩
  · rwa [show ops.size - (i + 1) = k by omega] at this
  · rw [Array.getD_eq_getD_getElem?, Array.getElem?_setIfInBounds]
    by_cases hij : i = j
    · subst hij; simp [show i < listed.size by omega]
    · rw [if_neg hij]
      have := hli j hj
      rw [Array.getD_eq_getD_getElem?] at this
      rw [this]; omega

structure Inv (ops : Array Oper) (n : Nat) (L : List Nat) (listed : Array Bool) : Prop where
  nodup : L.Nodup
  lt : ∀ i ∈ L, i < n
  size : listed.size = ops.size
  iff : ∀ j, j < ops.size → (listed.getD j true = true ↔ j ∈ L)
  closed : ∀ i ∈ L, ∀ o, ops[i]? = some o → ∀ e ∈ o.after, Region.binds .any e = true → e.on ∈ L
omit [LC] in
theorem Inv.getD_false {ops : Array Oper} {n : Nat} {L : List Nat} {listed : Array Bool} (h : Inv ops n L listed) {j : Nat} (hj : j < ops.size) : listed.getD j false = true ↔ j ∈ L := by
  rw [← h.iff j hj, Array.getD_eq_getD_getElem?, Array.getD_eq_getD_getElem?]
  have hj' : j < listed.size := by rw [h.size]; exact hj
  have : listed[j]? = some listed[j] := by simp [hj']
  rw [this]; simp

omit [LC] in
theorem addL_all {Rs : List HR} (hh : Head s Rs) {n : Nat} (hlen : Rs.length = n) {L : List Nat} (hlt : ∀ i ∈ L, i < n) (hall : ∀ i, i < n → i ∈ L) : (addL Rs L s).eqv (addAll Rs s) := by
  have he := addAll_eq (Rs := Rs) Rs 0 s (fun k _ => by rw [Nat.zero_add])
  rw [he]
  have hmem : ∀ j, j ∈ (List.range' 0 Rs.length).reverse ↔ j ∈ L := fun j => by
    rw [List.mem_reverse, List.mem_range'_1, hlen]
    exact ⟨fun h => hall j (by omega), fun h => ⟨by omega, by have := hlt j h; omega⟩⟩
  refine ⟨by rw [(addL_n Rs _ s).1, (addL_n Rs _ s).1], by rw [(addL_n Rs _ s).2, (addL_n Rs _ s).2], fun d => ?_, fun m => ?_, by rw [addL_df, addL_df]⟩
  · by_cases hw : ∃ j, j ∈ L ∧ ∃ rj : HR, Rs[j]? = some rj ∧ rj.dst = d
    · obtain ⟨j, hj, rj, hrj, rfl⟩ := hw
      rw [addL_fr_in hh hj hrj, addL_fr_in hh ((hmem j).2 hj) hrj]
    · rw [addL_fr_out (fun j hj rj hrj e => hw ⟨j, hj, rj, hrj, e⟩), addL_fr_out (fun j hj rj hrj e => hw ⟨j, (hmem j).1 hj, rj, hrj, e⟩)]
  · cases hq : look (addL Rs L s).hp m with
    | some b => exact (addL_hp_mono hh (fun j hj => (hmem j).2 hj) hq).symm
    | none =>
      cases hq' : look (addL Rs (List.range' 0 Rs.length).reverse s).hp m with
      | none => rfl
      | some b => rw [addL_hp_mono hh (fun j hj => (hmem j).1 hj) hq'] at hq; cases hq
/-- all predecessors of a ready operation have run -/
theorem preds_in {ops : Array Oper} {n : Nat} {Rs : List HR} (hn : n ≤ ops.size) (hed : edgesFine ops.toList 0 = true) (hH : ∀ i o, i < n → ops[i]? = some o → HOk P ops s Rs i o) {L : List Nat}
    (hcl : ∀ i ∈ L, ∀ o, ops[i]? = some o → ∀ e ∈ o.after, Region.binds .any e = true → e.on ∈ L) : ∀ (i : Nat) (o : Oper) (r : HR), i < n → ops[i]? = some o → Rs[i]? = some r → (∀ e ∈ o.after, Region.binds .any e = true → e.on ∈ L) → (∀ j ∈ r.pred, j ∈ L ∧ j < i) := by
  intro i
  induction i using Nat.strongRecOn with
  | ind i ih =>
    intro o r hi ho hr hall j hj
    obtain ⟨r', ps, _, h1, _, _, _, h5, _⟩ := hH i o hi ho
    rw [hr] at h1; injection h1 with h1; subst h1
    obtain ⟨e, he, hb, hje⟩ := (predsOf_mem h5).2 j hj
    have hlt := edgesFine_iff hed i o (by simpa using ho) e (by simpa using he) hb
    have hlt' : e.on < i := by omega
    have heL := hall e (by simpa using he) hb
    rcases hje with rfl | ⟨re, hre, hje⟩
    · exact ⟨heL, hlt'⟩
    · have hre' : Rs[e.on]? = some re := by rw [List.getElem?_take] at hre; rw [if_pos hlt'] at hre; exact hre
      have hoe : ops[e.on]? = some ops[e.on] := by simp
      have := ih e.on hlt' ops[e.on] re (by omega) hoe hre' (hcl e.on heL _ hoe) j hje
      exact ⟨this.1, by omega⟩

theorem head_ok {ops : Array Oper} {n : Nat} {Rs : List HR} {N : Act → World → Prop} (hn : n ≤ ops.size) (hed : edgesFine ops.toList 0 = true) (ht : tailFine ops n = true) (hlen : Rs.length = n)
    (hH : ∀ i o, i < n → ops[i]? = some o → HOk P ops s Rs i o) (hh : Head s Rs)
    (htail : ∀ (G : Gh) (a : Act) (w : World) (listed : Array Bool), Rel w₀ G₀ hp₀ G (addAll Rs s) a w → Upto ops n listed → dAny P ops N (ops.size - n) listed a w) :
    ∀ (g : Nat) (L : List Nat) (listed : Array Bool) (G : Gh) (a : Act) (w : World), ops.size = g + L.length → Inv ops n L listed → Rel w₀ G₀ hp₀ G (addL Rs L s) a w → dAny P ops N g listed a w := by
  intro g
  induction g with
  | zero =>
    intro L listed G a w hg hinv hr
    have h1 := nodup_le n L hinv.nodup hinv.lt
    have hnn : n = ops.size := by omega
    have hall : ∀ i, i < n → i ∈ L := fun i hi => by
      by_cases hm : i ∈ L
      · exact hm
      · have := nodup_le n (i :: L) (List.nodup_cons.2 ⟨hm, hinv.nodup⟩) (fun j hj => by rcases List.mem_cons.1 hj with rfl | hj; · exact hi
                                                                                         · exact hinv.lt j hj)
        simp at this; omega
    have := htail G a w listed (hr.eqv (addL_all hh hlen hinv.lt hall)) ⟨hinv.size, fun j hj => by rw [hinv.iff j hj]; exact ⟨fun h => hinv.lt j h, fun h => hall j h⟩⟩
    rwa [hnn, Nat.sub_self] at this
  | succ g ih =>
    intro L listed G a w hg hinv hr
    by_cases hall : ∀ i, i < n → i ∈ L
    · have h1 := nodup_le n L hinv.nodup hinv.lt
      have h2 := le_nodup n L hall
      have := htail G a w listed (hr.eqv (addL_all hh hlen hinv.lt hall)) ⟨hinv.size, fun j hj => by rw [hinv.iff j hj]; exact ⟨fun h => hinv.lt j h, fun h => hall j h⟩⟩
      rwa [show ops.size - n = g + 1 by omega] at this
    · -- some operation of the head has not run
      have hex : ∃ i, i < n ∧ i ∉ L ∧ ∀ j, j < i → j ∈ L := by
        have : ∃ i, i < n ∧ i ∉ L := by
          simpa using hall
        obtain ⟨i, hi, hm⟩ := this
        clear hall
        induction i using Nat.strongRecOn with
        | ind i ih =>
          by_cases hsm : ∀ j, j < i → j ∈ L
          · exact ⟨i, hi, hm, hsm⟩
          · have : ∃ j, j < i ∧ j ∉ L := by simpa using hsm
            obtain ⟨j, hj, hjm⟩ := this
            exact ih j hj (by omega) hjm
      obtain ⟨i0, hi0, hm0, hsm0⟩ := hex
      have hi0s : i0 < ops.size := by omega
      have h0r : i0 ∈ Region.ready .any ops listed := by
        refine mem_ready'.2 ⟨hi0s, ?_, ops[i0], by simp, fun e he hb => ?_⟩
        · cases hq : listed.getD i0 true
          · rfl
          · exact absurd ((hinv.iff i0 hi0s).1 hq) hm0
        · have := edgesFine_iff hed i0 ops[i0] (by simp) e he hb
          have hlt : e.on < i0 := by omega
          exact (hinv.getD_false (by omega)).2 (hsm0 _ hlt)
      refine ⟨fun hnil => (by rw [hnil] at h0r; cases h0r), fun i hi => ?_⟩
      obtain ⟨i1, i2, o, i3, i4⟩ := mem_ready'.1 hi
      have hiL : i ∉ L := fun h => by rw [(hinv.iff i i1).2 h] at i2; cases i2
      have hin : i < n := by
        rcases Nat.lt_or_ge i n with h | h
        · exact h
        · rcases Nat.lt_or_ge n i with h | h
          · obtain ⟨e, he1, he2, he3⟩ := waitsOn_iff (tailFine_next ht h i3)
            have := i4 e he1 he3
            rw [he2, hinv.getD_false (by omega)] at this
            have := hinv.lt _ this
            omega
          · have : i = n := by omega
            subst this
            exact absurd (tailFine_first ht i3 hinv.closed (fun e he hb => by
              have hlt := edgesFine_iff hed i o (by simpa using i3) e he hb
              exact (hinv.getD_false (by omega)).1 (i4 e he hb)) i0 hi0) hm0
      have hedge : ∀ e ∈ o.after, Region.binds .any e = true → e.on ∈ L := fun e he hb => by
        have hlt := edgesFine_iff hed i o (by simpa using i3) e he hb
        exact (hinv.getD_false (by omega)).1 (i4 e he hb)
      obtain ⟨r, ps, c, h1, h2, h3, h4, h5, h6, h7, h8, h9, h10⟩ := hH i o hin i3
      have hpred := preds_in hn hed hH hinv.closed i o r hin i3 h1 hedge
      have hlen' : ∀ k, k < (Rs.take i).length → Rs[0 + k]? = (Rs.take i)[k]? := fun k hk => by
        rw [List.getElem?_take, if_pos (by simp at hk; omega), Nat.zero_add]
      have htk : (Rs.take i).length = i := by simp; omega
      rw [addSel_eq (Rs := Rs) (Rs.take i) 0 s hlen', htk] at h9
      -- which slots and boxes the operation sees
      have hsel : ∀ j, j ∈ ((List.range' 0 i).filter (memN r.pred)).reverse ↔ j ∈ r.pred := fun j => by
        rw [List.mem_reverse, List.mem_filter, memN_iff]
        constructor
        · exact fun h => h.2
        · intro h
          refine ⟨?_, h⟩
          rw [List.mem_range'_1]; exact ⟨by omega, by have := (hpred j h).2; omega⟩
      have hreads : ∀ d ∈ readsOf ops o, look (addL Rs ((List.range' 0 i).filter (memN r.pred)).reverse s).fr d = look (addL Rs L s).fr d := fun d hd => by
        by_cases hw : ∃ j rj, Rs[j]? = some rj ∧ rj.dst = d ∧ (j ∈ r.pred ∨ j ∈ L)
        · obtain ⟨j, rj, hj, rfl, hjj⟩ := hw
          have hjp : j ∈ r.pred := by
            rcases hjj with h | h
            · exact h
            · -- it has run and is not among the predecessors: then it would have waited
              have hjn := hinv.lt j h
              have hji : j ≠ i := fun e => hiL (e ▸ h)
              rcases Nat.lt_or_gt_of_ne hji with hlt | hgt
              · rcases readsFine_iff h7 j rj (by rw [List.getElem?_take, if_pos hlt]; exact hj) with h' | h'
                · simpa using h'
                · exact absurd hd h'
              · have hoj : ops[j]? = some ops[j] := by simp
                obtain ⟨rj', psj, cj, k1, k2, _, _, _, _, _, k8, _⟩ := hH j ops[j] hjn hoj
                rw [hj] at k1; injection k1 with k1; subst k1
                rcases writesFine_iff k8 i o hgt i3 with h' | h'
                · have := preds_in hn hed hH hinv.closed j ops[j] rj hjn hoj hj (hinv.closed j h _ hoj) i h'
                  exact absurd this.1 hiL
                · exact absurd hd h'
          rw [addL_fr_in hh ((hsel j).2 hjp) hj, addL_fr_in hh (hpred j hjp).1 hj]
        · rw [addL_fr_out (fun j hj rj hrj e => hw ⟨j, rj, hrj, e, .inl ((hsel j).1 hj)⟩), addL_fr_out (fun j hj rj hrj e => hw ⟨j, rj, hrj, e, .inr hj⟩)]
      have hsees : Sees o (addL Rs ((List.range' 0 i).filter (memN r.pred)).reverse s) (addL Rs L s) := by
        refine ⟨by rw [(addL_n Rs _ s).2, (addL_n Rs _ s).2], fun x hx => ?_, fun m b hb => addL_hp_mono hh (fun j hj => (hpred j ((hsel j).1 hj)).1) hb, fun d hd => ?_⟩
        · cases x with
          | tmp t =>
            exact hreads t (by simp only [readsOf]; refine List.mem_append.2 (.inl ?_); rw [List.mem_filterMap]; exact ⟨.tmp t, hx, rfl⟩)
          | _ => rfl
        · rw [h2] at hd; injection hd with hd; subst hd
          rw [(addL_n Rs _ s).2]; exact addL_room hh h1 hiL
      have h9' := astepH_sees hsees hreads h9
      have hadd : (addL Rs L s).add o.dst r.v r.new = some (addL Rs (i :: L) s) := by
        rw [h2]
        have hbl : Nat.blt r.dst s.n = true := by simpa using h3
        simp only [St.add, (addL_n Rs L s).1, hbl, cond_true, addL, h1, St.addR]
      refine astepH_ok hr i3 h9' h10 hadd (fun G' a' w' hr' => ih (i :: L) _ G' a' w' (by simp; omega) ?_ hr')
      refine ⟨List.nodup_cons.2 ⟨hiL, hinv.nodup⟩, fun j hj => ?_, by simp [hinv.size], fun j hj => ?_, fun j hj oj hoj e he hb => ?_⟩
      · rcases List.mem_cons.1 hj with rfl | hj
        · exact hin
        · exact hinv.lt j hj
      · rw [Array.getD_eq_getD_getElem?, Array.getElem?_setIfInBounds]
        by_cases hij : i = j
        · subst hij; simp [hinv.size, i1]
        · rw [if_neg hij]
          have := hinv.iff j hj
          rw [Array.getD_eq_getD_getElem?] at this
          rw [this, List.mem_cons]
          exact ⟨fun h => .inr h, fun h => h.resolve_left (fun e => hij e.symm)⟩
      · rcases List.mem_cons.1 hj with rfl | hj
        · rw [i3] at hoj; injection hoj with hoj; subst hoj
          exact List.mem_cons_of_mem _ (hedge e he hb)
        · exact List.mem_cons_of_mem _ (hinv.closed j hj oj hoj e he hb)

/-- the head of a region, and what comes behind it -/
theorem draw_ok {ops : Array Oper} {n : Nat} {Rs : List HR} {N : Act → World → Prop} (hn : n ≤ ops.size) (hed : edgesFine ops.toList 0 = true) (ht : tailFine ops n = true) (hm : P.follows .mixedOrders = true) (hlen : Rs.length = n)
    (hH : ∀ i o, i < n → ops[i]? = some o → HOk P ops s Rs i o)
    (htail : ∀ (G : Gh) (a : Act) (w : World) (listed : Array Bool), Rel w₀ G₀ hp₀ G (addAll Rs s) a w → Upto ops n listed → dAny P ops N (ops.size - n) listed a w) {G : Gh} {a : Act} {w : World} (hr : Rel w₀ G₀ hp₀ G s a w) (id : Nat)
    (b : Frame) (k : List Item) (cs : List Frame) (hk : b.kind = .normal) :
    ∃ a' w', N a' w' ∧ Steps P (lone (b.atR a (.code (.region id ops true) :: k)) cs w) (lone (b.atR a' k) cs w') := by
  have hop : ∀ i, i < n → ops[i]? = some (ops[i]?.getD default) := fun i hi => by
    have : i < ops.size := by omega
    simp [this]
  have hh : Head s Rs := by
    refine ⟨fun i j r r' hi hj hd => ?_, fun i r hi => ?_, fun i r hi => ?_⟩
    · have hi' : i < n := by have := (List.getElem?_eq_some_iff.1 hi).1; omega
      have hj' : j < n := by have := (List.getElem?_eq_some_iff.1 hj).1; omega
      obtain ⟨ri, _, _, k1, _, _, _, _, k6, _⟩ := hH i _ hi' (hop i hi')
      obtain ⟨rj, _, _, l1, _, _, _, _, l6, _⟩ := hH j _ hj' (hop j hj')
      rw [hi] at k1; injection k1 with k1; subst k1
      rw [hj] at l1; injection l1 with l1; subst l1
      rcases Nat.lt_trichotomy i j with hlt | heq | hgt
      · exact absurd hd (freshDst_iff.1 l6 r (List.mem_of_getElem? (i := i) (by rw [List.getElem?_take, if_pos hlt]; exact hi)))
      · exact heq
      · exact absurd hd.symm (freshDst_iff.1 k6 r' (List.mem_of_getElem? (i := j) (by rw [List.getElem?_take, if_pos hgt]; exact hj)))
    · have hi' : i < n := by have := (List.getElem?_eq_some_iff.1 hi).1; omega
      obtain ⟨ri, ps, _, k1, k2, _, _, _, _, _, _, k9, _⟩ := hH i _ hi' (hop i hi')
      rw [hi] at k1; injection k1 with k1; subst k1
      have := astepH_names k2 k9
      have hlen' : ∀ k, k < (Rs.take i).length → Rs[0 + k]? = (Rs.take i)[k]? := fun k hk => by
        rw [List.getElem?_take, if_pos (by simp at hk; omega), Nat.zero_add]
      rw [addSel_eq (Rs := Rs) (Rs.take i) 0 s hlen', (addL_n Rs _ s).2] at this
      exact this
    · have hi' : i < n := by have := (List.getElem?_eq_some_iff.1 hi).1; omega
      obtain ⟨ri, _, _, k1, _, _, k4, _⟩ := hH i _ hi' (hop i hi')
      rw [hi] at k1; injection k1 with k1; subst k1
      exact k4
  refine dRegionDraw hm ?_ b k cs hk
  refine head_ok (w₀ := w₀) (G₀ := G₀) (hp₀ := hp₀) (N := N) hn hed ht hlen hH hh htail ops.size [] _ G a _ (by simp) ?_ ?_
  · refine ⟨List.nodup_nil, fun i hi => (by cases hi), by simp, fun j hj => ?_, fun i hi => (by cases hi)⟩
    rw [Array.getD_eq_getD_getElem?]
    simp [hj]
  · exact ⟨hr.defers, hr.size, hr.frame, hr.fresh, ⟨⟨hr.fin.mem.agree, hr.fin.mem.one, hr.fin.mem.holds, hr.fin.mem.apart, hr.fin.mem.tab⟩, ⟨hr.fin.bel.os, hr.fin.bel.tape, hr.fin.bel.output, hr.fin.bel.size, hr.fin.bel.block⟩, hr.fin.imm_le, hr.fin.imm_new, hr.fin.base, hr.fin.keep, hr.fin.keepOwn⟩⟩
end
end Go.Sym
/- Ghosts: own slices turned into data, nil turned into an own slice; states seen through other names. -/
namespace Go.Sym
open Go.RowKit
variable [LC]

/-- a new own slice: nil -/
def St.ownNew (s : St) (k : Nat) (τ : Ty) (E : TypeId) : St := { s with hp := (k, .row τ [] E) :: s.hp }
def isNil : AV → Bool
  | .val (.slice none 0 0) => true
  | _ => false
/-- the nil slice in slot i is an own slice from now on -/
def St.ownNil (s : St) (i : Nat) (τ : Ty) (E : TypeId) : Option St :=
  match look s.fr i with
  | some x => bif isNil x && noRange (s.nx + 32 * i) s.hp then
      some { n := s.n, fr := (i, .own (s.nx + 32 * i)) :: s.fr, hp := (s.nx + 32 * i, .row τ [] E) :: s.hp, nx := s.nx + 32 * s.n, df := s.df } else none
  | none => none
/-- the nil slice in a cell of a box is an own slice from now on -/
def St.ownCell (s : St) (b off : Nat) (τ : Ty) (E : TypeId) : Option St :=
  match look s.hp b with
  | some (.cells cs T) => match cs[off]? with
    | some x => bif isNil x && noRange s.nx s.hp then
        some { n := s.n, fr := s.fr, hp := (b, .cells (cs.set off (.own s.nx)) T) :: (s.nx, .row τ [] E) :: s.hp, nx := s.nx + 32 * s.n, df := s.df } else none
    | none => none
  | _ => none

section
variable {P : Program} {w₀ : World} {G₀ : Gh} {hp₀ : List (Nat × Box)} {G : Gh} {s : St} {a : Act} {w : World}

theorem Rel.bump (hr : Rel w₀ G₀ hp₀ G s a w) : Rel w₀ G₀ hp₀ G s.bump a w := ⟨hr.defers, hr.size, hr.frame, fun m hm hl => hr.fresh m (by simp only [St.bump] at hm; omega) hl, hr.fin⟩

omit [LC] in
mutual
theorem Rep.frz {k : Nat} {y : AV} {G' : Gh} (hle : G.le G') (hy : ∀ v, Rep (.own k) G v → Rep y G' v) : ∀ {x : AV} {v : Value}, Rep x G v → Rep (AV.frz k y x) G' v
  | .undef, _, _ => trivial
  | .int _ _, _, h => h
  | .byte _, _, h => h
  | .bool _, _, h => h
  | .str _, _, h => h
  | .val _, _, h => h
  | .sl τ l, v, h => (show Rep (.sl τ l) G v from h).le hle
  | .yld n, v, h => (show Rep (.yld n) G v from h).le hle
  | .pn n, v, h => (show Rep (.pn n) G v from h).le hle
  | .arr τ l, v, h => (show Rep (.arr τ l) G v from h).le hle
  | .rop cs, v, h => (show Rep (.rop cs) G v from h).le hle
  | .ptr b off, v, h => (show Rep (.ptr b off) G v from h).le hle
  | .oel n sz i off, v, h => (show Rep (.oel n sz i off) G v from h).le hle
  | .osl n sz lo, v, h => (show Rep (.osl n sz lo) G v from h).le hle
  | .asl b n c, v, h => (show Rep (.asl b n c) G v from h).le hle
  | .agg cs, _, ⟨vs, h1, h2⟩ => ⟨vs, h1, Reps.frz hle hy h2⟩
  | .tup cs, _, ⟨vs, h1, h2⟩ => ⟨vs, h1, Reps.frz hle hy h2⟩
  | .own n, v, h => by
    simp only [AV.frz]
    cases hb : Nat.beq n k
    · exact (show Rep (.own n) G v from h).le hle
    · have := Nat.eq_of_beq_eq_true hb; subst this; exact hy v h
  | .fn f first cap, _, ⟨fs, cs, h1, h2, h3⟩ => ⟨fs, cs, h1, Reps.frz hle hy h2, Reps.frz hle hy h3⟩
  | .iface t x, _, ⟨u, h1, h2⟩ => ⟨u, h1, Rep.frz hle hy h2⟩
theorem Reps.frz {k : Nat} {y : AV} {G' : Gh} (hle : G.le G') (hy : ∀ v, Rep (.own k) G v → Rep y G' v) : ∀ {xs : List AV} {vs : List Value}, Reps xs G vs → Reps (AV.frzs k y xs) G' vs
  | [], [], _ => trivial
  | _x :: _xs, _v :: _vs, h => ⟨Rep.frz hle hy h.1, Reps.frz hle hy h.2⟩
  | [], _ :: _, h => h.elim
  | _ :: _, [], h => h.elim
end
omit [LC] in
theorem frzFr_look {k : Nat} {y : AV} : ∀ {fr : List (Nat × AV)} {i : Nat} {x : AV}, look (frzFr k y fr) i = some x → ∃ x0, look fr i = some x0 ∧ x = AV.frz k y x0
  | [], i, x, h => by cases h
  | (n, z) :: r, i, x, h => by
    simp only [frzFr, look] at h ⊢
    cases hb : Nat.beq n i
    · rw [hb] at h; exact frzFr_look h
    · rw [hb] at h; simp only [cond_true, Option.some.injEq] at h ⊢; exact ⟨z, rfl, h.symm⟩
omit [LC] in
theorem frzHp_look {k : Nat} {y : AV} : ∀ {hp : List (Nat × Box)} {i : Nat}, look (frzHp k y hp) i = (look hp i).map (frzB k y)
  | [], i => rfl
  | (n, b) :: r, i => by
    simp only [frzHp, look]; cases hb : Nat.beq n i <;> simp [frzHp_look (hp := r)]
theorem Rel.freeze (hr : Rel w₀ G₀ hp₀ G s a w) {k : Nat} {s' : St} (h : s.freeze k = some s') : ∃ G', Rel w₀ G₀ hp₀ G' s' a w := by
  unfold St.freeze at h
  split at h
  · rename_i τ l E hk
    simp only [Option.some.injEq] at h; subst h
    have hl1 : ∀ n bx, look [(k, Box.row τ l E)] n = some bx → n = k ∧ bx = .row τ l E := fun n bx h => by
      simp only [look] at h
      cases hb : Nat.beq k n
      · rw [hb] at h; cases h
      · rw [hb] at h; simp only [cond_true, Option.some.injEq] at h
        exact ⟨(Nat.eq_of_beq_eq_true hb).symm, h.symm⟩
    have hlk : look [(k, Box.row τ l E)] k = some (.row τ l E) := by simp only [look]; rw [show Nat.beq k k = true by simp]; rfl
    have hf1 : Fin w₀ G₀ hp₀ G ({ s with hp := [(k, .row τ l E)] } : St).hp w := by
      refine ⟨⟨hr.fin.mem.agree, hr.fin.mem.one, fun n bx hb => ?_, fun n m bx bx' b h1 h2 _ _ => ?_, hr.fin.mem.tab⟩, hr.fin.bel, hr.fin.imm_le, hr.fin.imm_new, fun n bx b h1 h2 => ?_, hr.fin.keep, hr.fin.keepOwn⟩
      · obtain ⟨rfl, rfl⟩ := hl1 n bx hb; exact hr.fin.mem.holds _ _ hk
      · obtain ⟨rfl, _⟩ := hl1 n bx h1; obtain ⟨rfl, _⟩ := hl1 m bx' h2; rfl
      · obtain ⟨rfl, rfl⟩ := hl1 n bx h1; exact hr.fin.base _ _ b hk h2
    obtain ⟨z1, z2, z3, z4⟩ := allData_spec hf1
    let G' := G.allData [(k, .row τ l E)] w
    have hown : ∀ v, Rep (.own k) G v → Rep (.sl τ l) G' v := fun v hv => z4 k τ l E v hlk hv
    have hnew : ∀ b o v, G'.imm b o = some v → G.imm b o = some v ∨ G.at k (.row τ l E) = some b := fun b o v h => by
      simp only [G', Gh.allData] at h
      cases hq : G.imm b o with
      | some u => rw [hq] at h; exact .inl h
      | none =>
        rw [hq] at h
        simp only at h
        split at h
        · rename_i hin
          obtain ⟨n, τ1, l1, E1, i1, i2, _⟩ := hin
          obtain ⟨rfl, e⟩ := hl1 n _ i1
          rw [e] at i2; exact .inr i2
        · cases h
    have hother : ∀ n bx B, n ≠ k → look s.hp n = some bx → G.at n bx = some B → (∀ o, G.imm B o = none) → ∀ o, G'.imm B o = none := fun n bx B hn h1 h2 h3 o => by
      cases hq : G'.imm B o with
      | none => rfl
      | some v =>
        rcases hnew B o v hq with h | h
        · rw [h3] at h; cases h
        · exact absurd (hr.fin.mem.apart n k bx _ B h1 hk h2 h) hn
    have hlook : ∀ n bx, look ((k, Box.dead) :: frzHp k (.sl τ l) s.hp) n = some bx → bx = .dead ∨ (n ≠ k ∧ ∃ b0, look s.hp n = some b0 ∧ bx = frzB k (.sl τ l) b0) := fun n bx h => by
      simp only [look] at h
      cases hb : Nat.beq k n
      · rw [hb] at h; simp only [cond_false] at h
        rw [frzHp_look] at h
        cases hq : look s.hp n with
        | none => rw [hq] at h; cases h
        | some b0 => rw [hq] at h; simp only [Option.map_some, Option.some.injEq] at h; exact .inr ⟨fun e => by subst e; simp at hb, b0, rfl, h.symm⟩
      · rw [hb] at h; simp only [cond_true, Option.some.injEq] at h; exact .inl h.symm
    have hat : ∀ n b0, G'.at n (frzB k (.sl τ l) b0) = G.at n b0 := fun n b0 => by cases b0 <;> rfl
    refine ⟨G', ⟨hr.defers, hr.size, fun i x hx => ?_, fun m hm hl => ?_, ⟨⟨z2.agree, z2.one, fun n bx hb => ?_, fun n m bx bx' b h1 h2 h3 h4 => ?_, z2.tab⟩, hr.fin.bel, fun b o v h => z1.imm _ _ _ (hr.fin.imm_le b o v h), fun b o v h => ?_, fun n bx b h1 h2 => ?_, hr.fin.keep, hr.fin.keepOwn⟩⟩⟩
    · obtain ⟨x0, h1, rfl⟩ := frzFr_look hx
      obtain ⟨v, h2, h3⟩ := hr.frame i x0 h1
      exact ⟨v, h2, Rep.frz z1 hown h3⟩
    · refine hr.fresh m hm ?_
      simp only [look] at hl
      cases hb : Nat.beq k m
      · rw [hb] at hl; simp only [cond_false] at hl
        rw [frzHp_look] at hl
        cases hq : look s.hp m with
        | none => rfl
        | some b0 => rw [hq] at hl; cases hl
      · rw [hb] at hl; cases hl
    · rcases hlook n bx hb with rfl | ⟨hn, b0, h0, rfl⟩
      · trivial
      · have hb0 := hr.fin.mem.holds n b0 h0
        have ho := hother n b0
        cases b0 with
        | cells cs T =>
          obtain ⟨B, vs, h1, h2, h3, h4, h5⟩ := hb0
          exact ⟨B, vs, h1, h2, Reps.frz z1 hown h3, h4, ho B hn h0 (by simp [Gh.at, h1]) h5⟩
        | loop st pe f j fr ps tag D =>
          obtain ⟨B, tmps, DB, h1, h2, h3, h4, h5, h6⟩ := hb0
          refine ⟨B, tmps, DB, h1, h2, h3, h4, fun i x hx => ?_, ho B hn h0 (by simp [Gh.at, h1]) h6⟩
          obtain ⟨x0, q1, rfl⟩ := frzFr_look hx
          obtain ⟨v, q2, q3⟩ := h5 i x0 q1
          exact ⟨v, q2, Rep.frz z1 hown q3⟩
        | dfr =>
          obtain ⟨B, h1, h2, h3⟩ := hb0
          exact ⟨B, h1, h2, ho B hn h0 (by simp [Gh.at, h1]) h3⟩
        | it s0 p0 =>
          obtain ⟨B, h1, h2, h3⟩ := hb0
          exact ⟨B, h1, h2, ho B hn h0 (by simp [Gh.at, h1]) h3⟩
        | row τ1 l1 E1 =>
          obtain ⟨ad, c, h1, h3⟩ := hb0
          refine ⟨ad, c, h1, ?_⟩
          rcases h3 with h3 | ⟨g, vs, fz, k1, k2, k3, k4, k5, k6, k7, k8, k9⟩
          · exact .inl h3
          · exact .inr ⟨g, vs, fz, k1, k2, k3, k4, k5, k6, Reps.data_le z1.imm k7, k8, ho g hn h0 (by subst k1; simp [Gh.at, h1]) k9⟩
        | dead => trivial
    · rcases hlook n bx h1 with rfl | ⟨hn, b0, h0, rfl⟩
      · cases h3
      · rcases hlook m bx' h2 with rfl | ⟨hm, b1, h5, rfl⟩
        · cases h4
        · rw [hat] at h3 h4; exact hr.fin.mem.apart n m b0 b1 b h0 h5 h3 h4
    · rcases hnew b o v h with h | h
      · exact hr.fin.imm_new b o v h
      · exact .inr (hr.fin.base k _ b hk h)
    · rcases hlook n bx h1 with rfl | ⟨hn, b0, h0, rfl⟩
      · cases h2
      · rw [hat] at h2; exact hr.fin.base n b0 b h0 h2
  · cases h
omit [LC] in
theorem isNil_eq {x : AV} (h : isNil x = true) : x = .val (.slice none 0 0) := by
  unfold isNil at h; split at h
  · rfl
  · cases h
theorem Rel.ownNew (hr : Rel w₀ G₀ hp₀ G s a w) {k : Nat} (τ : Ty) (E : TypeId) (hk : look s.hp k = none) (hkx : s.nx ≤ k) : ∃ G', G.le G' ∧ G'.own k = some (none, 0, 0) ∧ Rel w₀ G₀ hp₀ G' (s.ownNew k τ E) a w := by
  obtain ⟨hkb, hko⟩ := hr.fresh k hkx hk
  have hle : G.le (G.addOwn k (none, 0, 0)) := Gh.addOwn_le hko
  have hl1 : ∀ n bx, look [(k, Box.row τ [] E)] n = some bx → n = k ∧ bx = .row τ [] E := fun n bx h => by
    simp only [look] at h
    cases hb : Nat.beq k n
    · rw [hb] at h; cases h
    · rw [hb] at h; simp only [cond_true, Option.some.injEq] at h
      exact ⟨(Nat.eq_of_beq_eq_true hb).symm, h.symm⟩
  refine ⟨G.addOwn k (none, 0, 0), hle, Gh.addOwn_self, ⟨by obtain ⟨bs, q1, q2⟩ := hr.defers; exact ⟨bs, q1, defers_le hle.box q2⟩, hr.size, fun j x hx => ?_, fun m hm hlm => ?_, ?_⟩⟩
  · obtain ⟨v, h1, h2⟩ := hr.frame j x hx
    exact ⟨v, h1, h2.le hle⟩
  · simp only [St.ownNew, look] at hlm
    cases hq : Nat.beq k m
    · rw [hq] at hlm
      obtain ⟨h1, h2⟩ := hr.fresh m hm hlm
      refine ⟨h1, ?_⟩
      show (bif Nat.beq m k then some _ else G.own m) = none
      cases hbm : Nat.beq m k
      · exact h2
      · have := Nat.eq_of_beq_eq_true hbm; subst this; simp at hq
    · rw [hq] at hlm; cases hlm
  · refine hr.fin.extend (new := [(k, .row τ [] E)]) hle ⟨rfl, rfl, rfl, Nat.le_refl _, fun _ _ _ => rfl⟩ (fun _ _ _ h => .inl h) hr.fin.mem.agree hr.fin.mem.one ?_ ?_ ?_
    · intro n bx h; obtain ⟨rfl, _⟩ := hl1 n bx h; exact hk
    · intro n bx h
      obtain ⟨rfl, rfl⟩ := hl1 n bx h
      exact ⟨⟨none, 0, Gh.addOwn_self, .inl ⟨rfl, rfl, rfl⟩⟩, fun b hb => by simp only [Gh.at, Gh.addOwn_self] at hb; cases hb⟩
    · intro n m bx bx' b h1 h2 _ _
      obtain ⟨rfl, _⟩ := hl1 n bx h1
      obtain ⟨rfl, _⟩ := hl1 m bx' h2
      rfl
theorem Rel.ownNil (hr : Rel w₀ G₀ hp₀ G s a w) {i : Nat} {τ : Ty} {E : TypeId} {s' : St} (h : s.ownNil i τ E = some s') : ∃ G', Rel w₀ G₀ hp₀ G' s' a w := by
  unfold St.ownNil at h
  split at h
  · rename_i x hi
    cases hb : isNil x && noRange (s.nx + 32 * i) s.hp <;> rw [hb] at h <;> simp only [cond_true, cond_false, reduceCtorEq, Option.some.injEq] at h
    subst h
    simp only [Bool.and_eq_true] at hb
    have hx := isNil_eq hb.1
    subst hx
    obtain ⟨G', hle, ho, hr'⟩ := hr.ownNew τ E (noRange_look hb.2 _ (Nat.le_refl _) (by omega)) (by omega)
    refine ⟨G', ⟨hr'.defers, hr'.size, fun j x hx => ?_, fun m hm hl => hr'.fresh m (by simp only at hm; show s.nx ≤ m; omega) hl, hr'.fin⟩⟩
    simp only [look] at hx
    cases hq : Nat.beq i j
    · rw [hq] at hx; exact hr'.frame j x hx
    · rw [hq] at hx; simp only [cond_true, Option.some.injEq] at hx; subst hx
      have := Nat.eq_of_beq_eq_true hq; subst this
      obtain ⟨v, h1, h2⟩ := hr'.frame i _ hi
      exact ⟨v, h1, none, 0, 0, ho, h2⟩
  · cases h
theorem Rel.ownCell (hr : Rel w₀ G₀ hp₀ G s a w) {b off : Nat} {τ : Ty} {E : TypeId} {s' : St} (h : s.ownCell b off τ E = some s') : ∃ G', Rel w₀ G₀ hp₀ G' s' a w := by
  unfold St.ownCell at h
  split at h
  · rename_i cs T hb0
    split at h
    · rename_i x hx0
      cases hb : isNil x && noRange s.nx s.hp <;> rw [hb] at h <;> simp only [cond_true, cond_false, reduceCtorEq, Option.some.injEq] at h
      subst h
      simp only [Bool.and_eq_true] at hb
      have hx := isNil_eq hb.1
      subst hx
      have hk := noRange_look hb.2 s.nx (Nat.le_refl _) (by omega)
      obtain ⟨G', hle, ho, hr'⟩ := hr.ownNew τ E hk (Nat.le_refl _)
      have hne : s.nx ≠ b := fun e => by rw [e, hb0] at hk; cases hk
      have hb1 : look (s.ownNew s.nx τ E).hp b = some (.cells cs T) := by
        simp only [St.ownNew, look]
        cases hq : Nat.beq s.nx b
        · exact hb0
        · exact absurd (Nat.eq_of_beq_eq_true hq) hne
      obtain ⟨B, vs, k1, k2, k3, k4, k5⟩ := hr'.fin.mem.holds _ _ hb1
      refine ⟨G', ⟨hr'.defers, hr'.size, hr'.frame, fun m hm hl => hr'.fresh m (by simp only at hm; show s.nx ≤ m; omega) ?_, ?_⟩⟩
      · simp only [look] at hl
        cases hq : Nat.beq b m
        · rw [hq] at hl; exact hl
        · rw [hq] at hl; cases hl
      · have hv : vs.toList[off]? = some (.slice none 0 0) := by
          obtain ⟨v, h1, h2⟩ := reps_get k3 hx0
          simp only [Rep] at h2; subst h2; exact h1
        have hset : vs.toList.set off (.slice none 0 0) = vs.toList := by
          obtain ⟨hlt, he⟩ := List.getElem?_eq_some_iff.1 hv
          rw [← he, List.set_getElem_self]
        refine hr'.fin.update (bx := .cells cs T) (bx' := .cells (cs.set off (.own s.nx)) T) hb1 (B := B) k1 k1 ⟨rfl, rfl, rfl, Nat.le_refl _, fun _ _ _ => rfl⟩ ⟨B, vs, k1, k2, ?_, k4, k5⟩ k5
        have := reps_set off k3 (x := .own s.nx) (v := .slice none 0 0) ⟨none, 0, 0, ho, rfl⟩
        rwa [hset] at this
    · cases h
  · cases h
end
end Go.Sym
/- Patterns of values and of memory, with typed holes. -/
namespace Go.Sym
open Go.RowKit
variable [LC]

/-- cells read as data; what is left -/
def Ty.dec : (τ : Ty) → List AV → Option (τ.den × List AV)
  | .int k, x :: r => match x with
    | .int k' n => bif decide (k' = k) then some (n, r) else none
    | .val (.int k' n) => bif decide (k' = k) && !decide (k' = .u8) then some (n, r) else none
    | _ => none
  | .byte, x :: r => match x with
    | .byte c => some (c, r)
    | .val (.int .u8 n) => bif decide (0 ≤ n) && decide (n < 256) then some (UInt8.ofNat n.toNat, r) else none
    | _ => none
  | .bool, x :: r => match x with
    | .bool b => some (b, r)
    | .val (.bool b) => some (b, r)
    | _ => none
  | .str, x :: r => match x with
    | .str s => some (s, r)
    | _ => none
  | .unit, r => some ((), r)
  | .prod a b, cs => match a.dec cs with
    | some (x, r) => match b.dec r with
      | some (y, r') => some ((x, y), r')
      | none => none
    | none => none
  | .list a, x :: r => match x with
    | .sl a' l => match Ty.eq? a' a with
      | some ⟨h⟩ => some (h ▸ l, r)
      | none => none
    | .val (.slice none 0 0) => some (([] : List a.den), r)
    | _ => none
  | .tree a, cs => match a.dec cs with
    | some (v, x :: r) => match x with
      | .sl a' l => match Ty.eq? a' (.tree a) with
        | some ⟨h⟩ => some (Tree.node v (h ▸ l : List (Ty.tree a).den), r)
        | none => none
      | .val (.slice none 0 0) => some (Tree.node v [], r)
      | _ => none
    | _ => none
  | _, [] => none

omit [LC] in
theorem vws_append {b : Bool} {hp : List (Nat × Box)} : ∀ {xs ys xs' ys' : List AV} {ps ps' : List Prop}, vws b hp xs ys = some ps → vws b hp xs' ys' = some ps' → vws b hp (xs ++ xs') (ys ++ ys') = some (ps ++ ps')
  | [], [], _, _, ps, ps', h, h' => by simp only [vws, Option.some.injEq] at h; subst h; exact h'
  | x :: xs, y :: ys, xs', ys', ps, ps', h, h' => by
    simp only [vws, List.cons_append] at h ⊢
    split at h
    · rename_i p1 h1
      split at h
      · rename_i p2 h2
        simp only [Option.some.injEq] at h; subst h
        rw [vws_append h2 h', List.append_assoc]
      · cases h
    · cases h
  | [], _ :: _, _, _, _, _, h, _ => by simp [vws] at h
  | _ :: _, [], _, _, _, _, h, _ => by simp [vws] at h
/-- xs seen as ys, whatever the names -/
def SeenD (xs ys : List AV) : Prop := (∀ ρ, AV.rens ρ xs = xs) ∧ ∃ ps, vws false [] xs ys = some ps ∧ Alls ps
omit [LC] in
theorem SeenD.append {xs ys xs' ys' : List AV} (h : SeenD xs ys) (h' : SeenD xs' ys') : SeenD (xs ++ xs') (ys ++ ys') := by
  obtain ⟨h1, ps, h2, h3⟩ := h
  obtain ⟨h1', ps', h2', h3'⟩ := h'
  exact ⟨fun ρ => by rw [AV.rens_append, h1, h1'], _, vws_append h2 h2', Alls_append.2 ⟨h3, h3'⟩⟩
omit [LC] in
theorem SeenD.one {x y : AV} (h : ∀ ρ, x.ren ρ = x) {ps : List Prop} (hv : vw false [] x y = some ps) (hp : Alls ps) : SeenD [x] [y] :=
  ⟨fun ρ => by simp [AV.rens, h], ps ++ [], by simp [vws, hv], Alls_append.2 ⟨hp, trivial⟩⟩
omit [LC] in
theorem SeenD.same {x : AV} (h : ∀ ρ, x.ren ρ = x) (hv : vw false [] x x = some [x = x]) : SeenD [x] [x] := SeenD.one h hv ⟨rfl, trivial⟩
omit [LC] in
theorem cast_sl {a' a : Ty} (h : a' = a) (l : List a'.den) : AV.sl a (h ▸ l) = AV.sl a' l := by subst h; rfl
omit [LC] in
theorem dec_seen : ∀ {τ : Ty} {cs : List AV} {d : τ.den} {r : List AV}, τ.dec cs = some (d, r) → ∃ pre, cs = pre ++ r ∧ SeenD pre (τ.enc d)
  | .int k, x :: cs, d, r, h => by
    simp only [Ty.dec] at h
    split at h
    · rename_i k' n
      cases hk : decide (k' = k) <;> rw [hk] at h <;> simp only [cond_true, cond_false, reduceCtorEq, Option.some.injEq] at h
      obtain ⟨rfl, rfl⟩ := h
      have : k' = k := by simpa using hk
      subst this
      exact ⟨[.int k' d], rfl, SeenD.same (fun ρ => rfl) rfl⟩
    · rename_i k' n
      cases hk : decide (k' = k) && !decide (k' = .u8) <;> rw [hk] at h <;> simp only [cond_true, cond_false, reduceCtorEq, Option.some.injEq] at h
      obtain ⟨rfl, rfl⟩ := h
      simp only [Bool.and_eq_true, decide_eq_true_eq, Bool.not_eq_true', decide_eq_false_iff_not] at hk
      obtain ⟨rfl, hk⟩ := hk
      refine ⟨[.val (.int k' d)], rfl, SeenD.one (y := .int k' d) (ps := [AV.int k' d = ofVal (.int k' d)]) (fun ρ => rfl) rfl ⟨?_, trivial⟩⟩
      cases k' <;> first | rfl | exact absurd rfl hk
    · cases h
  | .byte, x :: cs, d, r, h => by
    simp only [Ty.dec] at h
    split at h
    · rename_i c
      simp only [Option.some.injEq] at h; obtain ⟨rfl, rfl⟩ := h
      exact ⟨[.byte d], rfl, SeenD.same (fun ρ => rfl) rfl⟩
    · rename_i n
      cases hk : decide (0 ≤ n) && decide (n < 256) <;> rw [hk] at h <;> simp only [cond_true, cond_false, reduceCtorEq, Option.some.injEq] at h
      obtain ⟨rfl, rfl⟩ := h
      refine ⟨[.val (.int .u8 n)], rfl, SeenD.one (y := .byte (UInt8.ofNat n.toNat)) (ps := [AV.byte (UInt8.ofNat n.toNat) = ofVal (.int .u8 n)]) (fun ρ => rfl) rfl ⟨?_, trivial⟩⟩
      simp only [ofVal, hk, cond_true]
    · cases h
  | .bool, x :: cs, d, r, h => by
    simp only [Ty.dec] at h
    split at h
    · rename_i b
      simp only [Option.some.injEq] at h; obtain ⟨rfl, rfl⟩ := h
      exact ⟨[.bool d], rfl, SeenD.same (fun ρ => rfl) rfl⟩
    · rename_i b
      simp only [Option.some.injEq] at h; obtain ⟨rfl, rfl⟩ := h
      exact ⟨[.val (.bool d)], rfl, SeenD.one (y := .bool d) (ps := [AV.bool d = ofVal (.bool d)]) (fun ρ => rfl) rfl ⟨rfl, trivial⟩⟩
    · cases h
  | .str, x :: cs, d, r, h => by
    simp only [Ty.dec] at h
    split at h
    · rename_i b
      simp only [Option.some.injEq] at h; obtain ⟨rfl, rfl⟩ := h
      exact ⟨[.str d], rfl, SeenD.same (fun ρ => rfl) rfl⟩
    · cases h
  | .unit, cs, d, r, h => by
    simp only [Ty.dec, Option.some.injEq] at h; obtain ⟨_, rfl⟩ := h
    exact ⟨[], rfl, fun ρ => rfl, [], rfl, trivial⟩
  | .prod a b, cs, d, r, h => by
    simp only [Ty.dec] at h
    split at h
    · rename_i x r1 h1
      split at h
      · rename_i y r2 h2
        simp only [Option.some.injEq] at h; obtain ⟨rfl, rfl⟩ := h
        obtain ⟨p1, rfl, s1⟩ := dec_seen h1
        obtain ⟨p2, rfl, s2⟩ := dec_seen h2
        exact ⟨p1 ++ p2, by simp, s1.append s2⟩
      · cases h
    · cases h
  | .list a, x :: cs, d, r, h => by
    simp only [Ty.dec] at h
    split at h
    · rename_i a' l
      split at h
      · rename_i hh _
        simp only [Option.some.injEq, Prod.mk.injEq] at h; obtain ⟨rfl, rfl⟩ := h
        exact ⟨[.sl a' l], rfl, SeenD.one (y := .sl a (hh ▸ l)) (ps := [AV.sl a (hh ▸ l) = AV.sl a' l]) (fun ρ => rfl) rfl ⟨cast_sl hh l, trivial⟩⟩
      · cases h
    · simp only [Option.some.injEq] at h; obtain ⟨rfl, rfl⟩ := h
      exact ⟨[.val (.slice none 0 0)], rfl, SeenD.one (y := .sl a []) (ps := [([] : List a.den).length = 0]) (fun ρ => rfl) rfl ⟨rfl, trivial⟩⟩
    · cases h
  | .tree a, cs, d, r, h => by
    simp only [Ty.dec] at h
    split at h
    · rename_i v x r1 h1
      obtain ⟨p1, rfl, s1⟩ := dec_seen h1
      split at h
      · rename_i a' l
        split at h
        · rename_i hh _
          simp only [Option.some.injEq] at h; obtain ⟨rfl, rfl⟩ := h
          exact ⟨p1 ++ [.sl a' l], by simp, s1.append (SeenD.one (y := .sl (.tree a) (hh ▸ l)) (ps := [AV.sl (.tree a) (hh ▸ l) = AV.sl a' l]) (fun ρ => rfl) rfl ⟨cast_sl hh l, trivial⟩)⟩
        · cases h
      · simp only [Option.some.injEq] at h; obtain ⟨rfl, rfl⟩ := h
        exact ⟨p1 ++ [.val (.slice none 0 0)], by simp, s1.append (SeenD.one (y := .sl (.tree a) []) (ps := [([] : List (Ty.tree a).den).length = 0]) (fun ρ => rfl) rfl ⟨rfl, trivial⟩)⟩
      · cases h
    · cases h
  | .int _, [], _, _, h => by simp [Ty.dec] at h
  | .byte, [], _, _, h => by simp [Ty.dec] at h
  | .bool, [], _, _, h => by simp [Ty.dec] at h
  | .str, [], _, _, h => by simp [Ty.dec] at h
  | .list _, [], _, _, h => by simp [Ty.dec] at h
end Go.Sym
/- Patterns of values: holes, names, what is found. -/
namespace Go.Sym
open Go.RowKit
variable [LC]

inductive CV : Type
  | nilS
  | int (k : IntKind) (n : Int)
  | bool (b : Bool)
  | unit
  | nilFunc
  | nilIface
def CV.val : CV → Value
  | .nilS => .slice none 0 0
  | .int k n => .int k n
  | .bool b => .bool b
  | .unit => .tuple #[]
  | .nilFunc => .nilFunc
  | .nilIface => .nilIface
def CV.is : CV → AV → Bool
  | .nilS, .val (.slice none 0 0) => true
  | .int k n, .val (.int k' n') => decide (k' = k) && decide (n' = n)
  | .bool b, .val (.bool b') => b' == b
  | .unit, .val (.tuple vs) => Nat.beq vs.size 0
  | .nilFunc, .val .nilFunc => true
  | .nilIface, .val .nilIface => true
  | _, _ => false
inductive Pt : Type
  | h (τ : Ty)
  | c (v : CV)
  | agg (ps : List Pt)
  | tup (ps : List Pt)
  | ptr (b off : Nat)
  | own (k : Nat)
  /-- an array of elements of one cell -/
  | arr (τ : Ty)
  /-- a pointer to the beginning of the row of that name -/
  | el (k sz : Nat)
  /-- an interface that holds a pointer to the beginning of the row of that name -/
  | iel (t : TypeId) (k sz : Nat)
  | yld (n : Nat)
  | pn (n : Nat)
  | fn (f : FuncId) (cap : List Pt)
  | u
mutual
def Pt.den : Pt → Type
  | .h τ => τ.den
  | .agg ps => Pts.den ps
  | .tup ps => Pts.den ps
  | .fn _ cap => Pts.den cap
  | .arr τ => List τ.den
  | _ => Unit
def Pts.den : List Pt → Type
  | [] => Unit
  | p :: ps => p.den × Pts.den ps
end
/-- a value of a plain type -/
def Ty.av : (τ : Ty) → τ.den → AV
  | .int k, n => .int k n
  | .byte, c => .byte c
  | .bool, b => .bool b
  | .str, s => .str s
  | .list a, l => .sl a l
  | .unit, _ => .agg []
  | .prod a b, x => .agg ((Ty.prod a b).enc x)
  | .tree a, x => .agg ((Ty.tree a).enc x)
def dec1 (τ : Ty) (x : AV) : Option τ.den := match τ.dec [x] with
  | some (d, []) => some d
  | _ => none
def decA (τ : Ty) (x : AV) : Option τ.den := match x with
  | .agg cs => match τ.dec cs with
    | some (d, []) => some d
    | _ => none
  | _ => none
def Ty.getAV : (τ : Ty) → AV → Option τ.den
  | .int k, x => dec1 (.int k) x
  | .byte, x => dec1 .byte x
  | .bool, x => dec1 .bool x
  | .str, x => dec1 .str x
  | .list a, x => dec1 (.list a) x
  | .unit, x => decA .unit x
  | .prod a b, x => decA (.prod a b) x
  | .tree a, x => decA (.tree a) x
mutual
def Pt.put : (p : Pt) → p.den → AV
  | .h τ, x => τ.av x
  | .c v, _ => .val v.val
  | .agg ps, x => .agg (Pts.put ps x)
  | .tup ps, x => .tup (Pts.put ps x)
  | .ptr b off, _ => .ptr b off
  | .own k, _ => .own k
  | .arr τ, l => .arr τ l
  | .el k sz, _ => .oel k sz 0 0
  | .iel t k sz, _ => .iface t (.oel k sz 0 0)
  | .yld n, _ => .yld n
  | .pn n, _ => .pn n
  | .fn f cap, x => .fn (.func f) [] (Pts.put cap x)
  | .u, _ => .undef
def Pts.put : (ps : List Pt) → Pts.den ps → List AV
  | [], _ => []
  | p :: ps, x => p.put x.1 :: Pts.put ps x.2
end
/-- names: new, old -/
abbrev NM := List (Nat × Nat)
def bindN (nm : NM) (b b' : Nat) : Option NM := match lookN nm b with
  | some x => bif Nat.beq x b' then some nm else none
  | none => some ((b, b') :: nm)
def asAgg : AV → Option (List AV)
  | .agg xs => some xs
  | _ => none
def asTup : AV → Option (List AV)
  | .tup xs => some xs
  | _ => none
def asPtr : AV → Option (Nat × Nat)
  | .ptr b off => some (b, off)
  | _ => none
def asOwn : AV → Option Nat
  | .own k => some k
  | _ => none
def asArr (τ : Ty) : AV → Option (List τ.den)
  | .arr τ' l => match Ty.eq? τ' τ with
    | some ⟨h⟩ => some (h ▸ l)
    | none => none
  | _ => none
def asEl : AV → Option (Nat × Nat)
  | .oel k sz 0 0 => some (k, sz)
  | _ => none
omit [LC] in
theorem asArr_eq {τ : Ty} {x : AV} {l : List τ.den} (h : asArr τ x = some l) : x = .arr τ l := by
  cases x <;> simp only [asArr, reduceCtorEq] at h
  split at h
  · rename_i τ' l' e he
    simp only [Option.some.injEq] at h; subst h
    cases e; rfl
  · cases h
omit [LC] in
theorem asEl_eq {x : AV} {k sz : Nat} (h : asEl x = some (k, sz)) : x = .oel k sz 0 0 := by
  unfold asEl at h
  split at h
  · simp only [Option.some.injEq, Prod.mk.injEq] at h; obtain ⟨rfl, rfl⟩ := h; rfl
  · cases h
def asIEl : AV → Option (TypeId × Nat × Nat)
  | .iface t x => match asEl x with
    | some (k, sz) => some (t, k, sz)
    | none => none
  | _ => none
omit [LC] in
theorem asIEl_eq {x : AV} {t : TypeId} {k sz : Nat} (h : asIEl x = some (t, k, sz)) : x = .iface t (.oel k sz 0 0) := by
  cases x <;> simp only [asIEl, reduceCtorEq] at h
  split at h
  · rename_i k' sz' e
    simp only [Option.some.injEq, Prod.mk.injEq] at h; obtain ⟨rfl, rfl, rfl⟩ := h
    rw [asEl_eq e]
  · cases h
def asYld : AV → Option Nat
  | .yld k => some k
  | _ => none
def asPn : AV → Option Nat
  | .pn k => some k
  | _ => none
def asFn : AV → Option (FuncId × List AV)
  | .fn f first xs => match f with
    | .func f' => match first with
      | [] => some (f', xs)
      | _ => none
    | _ => none
  | _ => none
omit [LC] in
theorem asAgg_eq {x : AV} {xs : List AV} (h : asAgg x = some xs) : x = .agg xs := by
  cases x <;> simp only [asAgg, reduceCtorEq, Option.some.injEq] at h; subst h; rfl
omit [LC] in
theorem asTup_eq {x : AV} {xs : List AV} (h : asTup x = some xs) : x = .tup xs := by
  cases x <;> simp only [asTup, reduceCtorEq, Option.some.injEq] at h; subst h; rfl
omit [LC] in
theorem asPtr_eq {x : AV} {b off : Nat} (h : asPtr x = some (b, off)) : x = .ptr b off := by
  cases x <;> simp only [asPtr, reduceCtorEq, Option.some.injEq, Prod.mk.injEq] at h; obtain ⟨rfl, rfl⟩ := h; rfl
omit [LC] in
theorem asOwn_eq {x : AV} {k : Nat} (h : asOwn x = some k) : x = .own k := by
  cases x <;> simp only [asOwn, reduceCtorEq, Option.some.injEq] at h; subst h; rfl
omit [LC] in
theorem asYld_eq {x : AV} {k : Nat} (h : asYld x = some k) : x = .yld k := by
  cases x <;> simp only [asYld, reduceCtorEq, Option.some.injEq] at h; subst h; rfl
omit [LC] in
theorem asPn_eq {x : AV} {k : Nat} (h : asPn x = some k) : x = .pn k := by
  cases x <;> simp only [asPn, reduceCtorEq, Option.some.injEq] at h; subst h; rfl
omit [LC] in
theorem asFn_eq {x : AV} {f : FuncId} {xs : List AV} (h : asFn x = some (f, xs)) : x = .fn (.func f) [] xs := by
  cases x <;> simp only [asFn, reduceCtorEq] at h
  split at h
  · split at h
    · simp only [Option.some.injEq, Prod.mk.injEq] at h; obtain ⟨rfl, rfl⟩ := h; rfl
    · cases h
  · cases h
mutual
def Pt.get : (p : Pt) → AV → NM → Option (p.den × NM)
  | .h τ, x, nm => match τ.getAV x with
    | some d => some (d, nm)
    | none => none
  | .c v, x, nm => bif v.is x then some ((), nm) else none
  | .agg ps, x, nm => match asAgg x with
    | some xs => Pts.get ps xs nm
    | none => none
  | .tup ps, x, nm => match asTup x with
    | some xs => Pts.get ps xs nm
    | none => none
  | .ptr b off, x, nm => match asPtr x with
    | some (b', off') => bif Nat.beq off' off then (match bindN nm b b' with | some nm' => some ((), nm') | none => none) else none
    | none => none
  | .own k, x, nm => match asOwn x with
    | some k' => match bindN nm k k' with | some nm' => some ((), nm') | none => none
    | none => none
  | .arr τ, x, nm => match asArr τ x with
    | some d => some (d, nm)
    | none => none
  | .el k sz, x, nm => match asEl x with
    | some (k', sz') => bif Nat.beq sz' sz then (match bindN nm k k' with | some nm' => some ((), nm') | none => none) else none
    | none => none
  | .iel t k sz, x, nm => match asIEl x with
    | some (t', k', sz') => bif Nat.beq t' t && Nat.beq sz' sz then (match bindN nm k k' with | some nm' => some ((), nm') | none => none) else none
    | none => none
  | .yld k, x, nm => match asYld x with
    | some k' => match bindN nm k k' with | some nm' => some ((), nm') | none => none
    | none => none
  | .pn k, x, nm => match asPn x with
    | some k' => match bindN nm k k' with | some nm' => some ((), nm') | none => none
    | none => none
  | .fn f cap, x, nm => match asFn x with
    | some (f', xs) => bif Nat.beq f' f then Pts.get cap xs nm else none
    | none => none
  | .u, _, nm => some ((), nm)
def Pts.get : (ps : List Pt) → List AV → NM → Option (Pts.den ps × NM)
  | [], xs, nm => match xs with
    | [] => some ((), nm)
    | _ => none
  | p :: ps, xs, nm => match xs with
    | x :: xs => match p.get x nm with
      | some (d, nm') => match Pts.get ps xs nm' with
        | some (ds, nm'') => some ((d, ds), nm'')
        | none => none
      | none => none
    | [] => none
end
def SubN (nm nm' : NM) : Prop := ∀ n m, lookN nm n = some m → lookN nm' n = some m
omit [LC] in
theorem SubN.refl (nm : NM) : SubN nm nm := fun _ _ h => h
omit [LC] in
theorem SubN.trans {a b c : NM} (h : SubN a b) (k : SubN b c) : SubN a c := fun n m x => k n m (h n m x)
omit [LC] in
theorem bindN_spec {nm nm' : NM} {b b' : Nat} (h : bindN nm b b' = some nm') : SubN nm nm' ∧ lookN nm' b = some b' := by
  unfold bindN at h
  split at h
  · rename_i x hx
    cases hq : Nat.beq x b' <;> rw [hq] at h <;> simp only [cond_true, cond_false, reduceCtorEq, Option.some.injEq] at h
    subst h
    have := Nat.eq_of_beq_eq_true hq; subst this
    exact ⟨SubN.refl _, hx⟩
  · rename_i hx
    simp only [Option.some.injEq] at h; subst h
    refine ⟨fun n m hn => ?_, by simp [lookN]⟩
    simp only [lookN]
    cases hq : Nat.beq b n
    · exact hn
    · have := Nat.eq_of_beq_eq_true hq; subst this; rw [hx] at hn; cases hn
/-- x, by the new names, is seen as y -/
def Seen (N : NM) (x y : AV) : Prop := ∃ ps, vw false [] (x.ren (rho N)) y = some ps ∧ Alls ps
def Seens (N : NM) (xs ys : List AV) : Prop := ∃ ps, vws false [] (AV.rens (rho N) xs) ys = some ps ∧ Alls ps
omit [LC] in
theorem Seens.cons {N : NM} {x y : AV} {xs ys : List AV} (h : Seen N x y) (k : Seens N xs ys) : Seens N (x :: xs) (y :: ys) := by
  obtain ⟨ps, h1, h2⟩ := h
  obtain ⟨qs, k1, k2⟩ := k
  exact ⟨ps ++ qs, by simp [AV.rens, vws, h1, k1], Alls_append.2 ⟨h2, k2⟩⟩
omit [LC] in
theorem SeenD.seens {xs ys : List AV} (h : SeenD xs ys) (N : NM) : Seens N xs ys := by
  obtain ⟨h1, ps, h2, h3⟩ := h
  exact ⟨ps, by rw [h1]; exact h2, h3⟩
omit [LC] in
theorem dec1_seen {τ : Ty} {x : AV} {d : τ.den} (h : dec1 τ x = some d) {y : AV} (hy : τ.enc d = [y]) (N : NM) : Seen N x y := by
  unfold dec1 at h
  split at h
  · rename_i d' hd
    simp only [Option.some.injEq] at h; subst h
    obtain ⟨pre, e, hs⟩ := dec_seen hd
    simp only [List.append_nil] at e; subst e
    rw [hy] at hs
    obtain ⟨ps, h1, h2⟩ := hs.seens N
    simp only [AV.rens, vws] at h1
    split at h1
    · rename_i qs hq
      simp only [Option.some.injEq] at h1; subst h1
      exact ⟨qs, hq, (Alls_append.1 h2).1⟩
    · cases h1
  · cases h
omit [LC] in
theorem decA_seen {τ : Ty} {x : AV} {d : τ.den} (h : decA τ x = some d) (N : NM) : Seen N x (.agg (τ.enc d)) := by
  unfold decA at h
  split at h
  · split at h
    · rename_i d' hd
      simp only [Option.some.injEq] at h; subst h
      obtain ⟨pre, e, hs⟩ := dec_seen hd
      simp only [List.append_nil] at e; subst e
      obtain ⟨ps, h1, h2⟩ := hs.seens N
      exact ⟨ps, by simp only [AV.ren, vw]; exact h1, h2⟩
    · cases h
  · cases h
omit [LC] in
theorem getAV_seen {N : NM} : ∀ {τ : Ty} {x : AV} {d : τ.den}, τ.getAV x = some d → Seen N x (τ.av d)
  | .int _, _, _, h => dec1_seen h rfl N
  | .byte, _, _, h => dec1_seen h rfl N
  | .bool, _, _, h => dec1_seen h rfl N
  | .str, _, _, h => dec1_seen h rfl N
  | .list _, _, _, h => dec1_seen h rfl N
  | .unit, _, _, h => decA_seen h N
  | .prod _ _, _, _, h => decA_seen h N
  | .tree _, _, _, h => decA_seen h N
omit [LC] in
theorem CV.is_seen {v : CV} {x : AV} (h : v.is x = true) (N : NM) : Seen N x (.val v.val) := by
  have : x = .val v.val := by
    unfold CV.is at h
    split at h
    · rfl
    · simp only [Bool.and_eq_true, decide_eq_true_eq] at h; obtain ⟨rfl, rfl⟩ := h; rfl
    · simp only [beq_iff_eq] at h; subst h; rfl
    · rename_i vs; have := Array.eq_empty_of_size_eq_zero (Nat.eq_of_beq_eq_true h); subst this; rfl
    · rfl
    · rfl
    · cases h
  subst this
  exact ⟨[AV.val v.val = AV.val v.val], rfl, rfl, trivial⟩
omit [LC] in
mutual
theorem Pt.get_seen : ∀ {p : Pt} {x : AV} {nm nm' : NM} {d : p.den}, p.get x nm = some (d, nm') → SubN nm nm' ∧ ∀ N, distinctOld N = true → SubN nm' N → Seen N x (p.put d)
  | .h τ, x, nm, nm', d, h => by
    simp only [Pt.get] at h
    split at h
    · rename_i d' hd
      simp only [Option.some.injEq] at h; obtain ⟨rfl, rfl⟩ := h
      exact ⟨SubN.refl _, fun N _ _ => getAV_seen hd⟩
    · cases h
  | .c v, x, nm, nm', d, h => by
    simp only [Pt.get] at h
    cases hv : v.is x <;> rw [hv] at h <;> simp only [cond_true, cond_false, reduceCtorEq, Option.some.injEq] at h
    obtain ⟨_, rfl⟩ := h
    exact ⟨SubN.refl _, fun N _ _ => CV.is_seen hv N⟩
  | .u, x, nm, nm', d, h => by
    simp only [Pt.get, Option.some.injEq] at h; obtain ⟨_, rfl⟩ := h
    refine ⟨SubN.refl _, fun N _ _ => ⟨[], ?_, trivial⟩⟩
    show vw false [] _ .undef = _
    cases AV.ren (rho N) x <;> rfl
  | .agg ps, x, nm, nm', d, h => by
    simp only [Pt.get] at h
    split at h
    rotate_left
    · cases h
    rename_i xs hx
    have hx := asAgg_eq hx
    subst hx
    obtain ⟨h1, h2⟩ := Pts.get_seen h
    exact ⟨h1, fun N hN hs => by obtain ⟨qs, q1, q2⟩ := h2 N hN hs; exact ⟨qs, q1, q2⟩⟩
  | .tup ps, x, nm, nm', d, h => by
    simp only [Pt.get] at h
    split at h
    rotate_left
    · cases h
    rename_i xs hx
    have hx := asTup_eq hx
    subst hx
    obtain ⟨h1, h2⟩ := Pts.get_seen h
    exact ⟨h1, fun N hN hs => by obtain ⟨qs, q1, q2⟩ := h2 N hN hs; exact ⟨qs, q1, q2⟩⟩
  | .ptr b off, x, nm, nm', d, h => by
    simp only [Pt.get] at h
    split at h
    rotate_left
    · cases h
    rename_i b' off' hx
    have hx := asPtr_eq hx
    subst hx
    cases hq : Nat.beq off' off <;> rw [hq] at h <;> simp only [cond_true, cond_false, reduceCtorEq] at h
    split at h
    · rename_i nm1 hb
      simp only [Option.some.injEq] at h; obtain ⟨_, rfl⟩ := h
      obtain ⟨h1, h2⟩ := bindN_spec hb
      have := Nat.eq_of_beq_eq_true hq; subst this
      refine ⟨h1, fun N hN hs => ?_⟩
      have := rho_of hN (hs _ _ h2)
      refine ⟨[AV.ptr b off' = AV.ptr b off'], ?_, rfl, trivial⟩
      show vw false [] (match rho N b' with | some b'' => AV.ptr b'' off' | none => .undef) (AV.ptr b off') = _
      rw [this]; rfl
    · cases h
  | .own k, x, nm, nm', d, h => by
    simp only [Pt.get] at h
    split at h
    rotate_left
    · cases h
    rename_i k' hx
    have hx := asOwn_eq hx
    subst hx
    split at h
    · rename_i nm1 hb
      simp only [Option.some.injEq] at h; obtain ⟨_, rfl⟩ := h
      obtain ⟨h1, h2⟩ := bindN_spec hb
      refine ⟨h1, fun N hN hs => ?_⟩
      have := rho_of hN (hs _ _ h2)
      refine ⟨[AV.own k = AV.own k], ?_, rfl, trivial⟩
      show vw false [] (match rho N k' with | some b'' => AV.own b'' | none => .undef) (AV.own k) = _
      rw [this]; rfl
    · cases h
  | .arr τ, x, nm, nm', d, h => by
    simp only [Pt.get] at h
    split at h
    · rename_i d' hd
      simp only [Option.some.injEq] at h; obtain ⟨rfl, rfl⟩ := h
      have hd := asArr_eq hd
      subst hd
      exact ⟨SubN.refl _, fun N _ _ => ⟨[AV.arr τ d = AV.arr τ d], rfl, rfl, trivial⟩⟩
    · cases h
  | .el k sz, x, nm, nm', d, h => by
    simp only [Pt.get] at h
    split at h
    rotate_left
    · cases h
    rename_i k' sz' hx
    have hx := asEl_eq hx
    subst hx
    cases hq : Nat.beq sz' sz <;> rw [hq] at h <;> simp only [cond_true, cond_false, reduceCtorEq] at h
    split at h
    · rename_i nm1 hb
      simp only [Option.some.injEq] at h; obtain ⟨_, rfl⟩ := h
      obtain ⟨h1, h2⟩ := bindN_spec hb
      have := Nat.eq_of_beq_eq_true hq; subst this
      refine ⟨h1, fun N hN hs => ?_⟩
      have := rho_of hN (hs _ _ h2)
      refine ⟨[AV.oel k sz' 0 0 = AV.oel k sz' 0 0], ?_, rfl, trivial⟩
      show vw false [] (match rho N k' with | some b'' => AV.oel b'' sz' 0 0 | none => .undef) (AV.oel k sz' 0 0) = _
      rw [this]; rfl
    · cases h
  | .iel t k sz, x, nm, nm', d, h => by
    simp only [Pt.get] at h
    split at h
    rotate_left
    · cases h
    rename_i t' k' sz' hx
    have hx := asIEl_eq hx
    subst hx
    cases hq : Nat.beq t' t && Nat.beq sz' sz <;> rw [hq] at h <;> simp only [cond_true, cond_false, reduceCtorEq] at h
    simp only [Bool.and_eq_true] at hq
    split at h
    · rename_i nm1 hb
      simp only [Option.some.injEq] at h; obtain ⟨_, rfl⟩ := h
      obtain ⟨h1, h2⟩ := bindN_spec hb
      have := Nat.eq_of_beq_eq_true hq.1; subst this
      have := Nat.eq_of_beq_eq_true hq.2; subst this
      refine ⟨h1, fun N hN hs => ?_⟩
      have := rho_of hN (hs _ _ h2)
      refine ⟨[AV.iface t' (AV.oel k sz' 0 0) = AV.iface t' (AV.oel k sz' 0 0)], ?_, rfl, trivial⟩
      show vw false [] (.iface t' (match rho N k' with | some b'' => AV.oel b'' sz' 0 0 | none => .undef)) (AV.iface t' (AV.oel k sz' 0 0)) = _
      rw [this]; rfl
    · cases h
  | .yld k, x, nm, nm', d, h => by
    simp only [Pt.get] at h
    split at h
    rotate_left
    · cases h
    rename_i k' hx
    have hx := asYld_eq hx
    subst hx
    split at h
    · rename_i nm1 hb
      simp only [Option.some.injEq] at h; obtain ⟨_, rfl⟩ := h
      obtain ⟨h1, h2⟩ := bindN_spec hb
      refine ⟨h1, fun N hN hs => ?_⟩
      have := rho_of hN (hs _ _ h2)
      refine ⟨[AV.yld k = AV.yld k], ?_, rfl, trivial⟩
      show vw false [] (match rho N k' with | some b'' => AV.yld b'' | none => .undef) (AV.yld k) = _
      rw [this]; rfl
    · cases h
  | .pn k, x, nm, nm', d, h => by
    simp only [Pt.get] at h
    split at h
    rotate_left
    · cases h
    rename_i k' hx
    have hx := asPn_eq hx
    subst hx
    split at h
    · rename_i nm1 hb
      simp only [Option.some.injEq] at h; obtain ⟨_, rfl⟩ := h
      obtain ⟨h1, h2⟩ := bindN_spec hb
      refine ⟨h1, fun N hN hs => ?_⟩
      have := rho_of hN (hs _ _ h2)
      refine ⟨[AV.pn k = AV.pn k], ?_, rfl, trivial⟩
      show vw false [] (match rho N k' with | some b'' => AV.pn b'' | none => .undef) (AV.pn k) = _
      rw [this]; rfl
    · cases h
  | .fn f cap, x, nm, nm', d, h => by
    simp only [Pt.get] at h
    split at h
    rotate_left
    · cases h
    rename_i f' xs hx
    have hx := asFn_eq hx
    subst hx
    cases hq : Nat.beq f' f
    · rw [hq] at h
      exact absurd (show (none : Option ((Pt.fn f cap).den × NM)) = some (d, nm') from h) (by simp)
    have h : Pts.get cap xs nm = some (d, nm') := by rw [hq] at h; exact h
    obtain ⟨h1, h2⟩ := Pts.get_seen h
    have := Nat.eq_of_beq_eq_true hq; subst this
    refine ⟨h1, fun N hN hs => ?_⟩
    obtain ⟨qs, q1, q2⟩ := h2 N hN hs
    refine ⟨(Fn.func f' = Fn.func f') :: ([] ++ qs), ?_, rfl, q2⟩
    show (match vws false [] (AV.rens (rho N) []) [], vws false [] (AV.rens (rho N) xs) (Pts.put cap d) with
      | some ps, some qs => some ((Fn.func f' = Fn.func f') :: (ps ++ qs))
      | _, _ => none) = _
    rw [q1]; rfl
theorem Pts.get_seen : ∀ {ps : List Pt} {xs : List AV} {nm nm' : NM} {d : Pts.den ps}, Pts.get ps xs nm = some (d, nm') → SubN nm nm' ∧ ∀ N, distinctOld N = true → SubN nm' N → Seens N xs (Pts.put ps d)
  | [], xs, nm, nm', d, h => by
    cases xs with
    | nil =>
      have h : some (((), nm) : Unit × NM) = some (d, nm') := h
      have e : nm = nm' := congrArg Prod.snd (Option.some.inj h)
      subst e
      exact ⟨SubN.refl _, fun N _ _ => ⟨[], rfl, trivial⟩⟩
    | cons x xs => exact absurd (show (none : Option (Unit × NM)) = some (d, nm') from h) (by simp)
  | p :: ps, xs, nm, nm', d, h => by
    cases xs with
    | nil => exact absurd (show (none : Option ((p.den × Pts.den ps) × NM)) = some (d, nm') from h) (by simp)
    | cons x xs =>
      have h : (match p.get x nm with
        | some (d, nm') => match Pts.get ps xs nm' with
          | some (ds, nm'') => some ((d, ds), nm'')
          | none => none
        | none => none) = some (d, nm') := h
      split at h
      · rename_i d1 nm1 h1
        split at h
        · rename_i d2 nm2 h2
          simp only [Option.some.injEq] at h; obtain ⟨rfl, rfl⟩ := h
          obtain ⟨a1, a2⟩ := Pt.get_seen h1
          obtain ⟨b1, b2⟩ := Pts.get_seen h2
          exact ⟨a1.trans b1, fun N hN hs => Seens.cons (a2 N hN (b1.trans hs)) (b2 N hN hs)⟩
        · cases h
      · cases h
end
end Go.Sym
/- Patterns of memory and of states. -/
namespace Go.Sym
open Go.RowKit
variable [LC]

/- slots -/
def fden : List (Nat × Pt) → Type
  | [] => Unit
  | (_, p) :: r => p.den × fden r
def fput : (l : List (Nat × Pt)) → fden l → List (Nat × AV)
  | [], _ => []
  | (i, p) :: r, x => (i, p.put x.1) :: fput r x.2
def fget (fr : List (Nat × AV)) : (l : List (Nat × Pt)) → NM → Option (fden l × NM)
  | [], nm => some ((), nm)
  | (i, p) :: r, nm => match look fr i with
    | some x => match p.get x nm with
      | some (d, nm') => match fget fr r nm' with
        | some (ds, nm'') => some ((d, ds), nm'')
        | none => none
      | none => none
    | none => none
omit [LC] in
theorem fget_seen {fr : List (Nat × AV)} : ∀ {l : List (Nat × Pt)} {nm nm' : NM} {d : fden l}, fget fr l nm = some (d, nm') → SubN nm nm' ∧ ∀ N, distinctOld N = true → SubN nm' N → ∀ i y, look (fput l d) i = some y → ∃ x, look fr i = some x ∧ Seen N x y
  | [], nm, nm', d, h => by
    have e : nm = nm' := congrArg Prod.snd (Option.some.inj (show some (((), nm) : Unit × NM) = some (d, nm') from h))
    subst e
    exact ⟨SubN.refl _, fun N _ _ i y hy => by cases hy⟩
  | (j, p) :: r, nm, nm', d, h => by
    have h : (match look fr j with
      | some x => match p.get x nm with
        | some (d, nm') => match fget fr r nm' with
          | some (ds, nm'') => some ((d, ds), nm'')
          | none => none
        | none => none
      | none => none) = some (d, nm') := h
    split at h
    · rename_i x hx
      split at h
      · rename_i d1 nm1 h1
        split at h
        · rename_i d2 nm2 h2
          simp only [Option.some.injEq] at h; obtain ⟨rfl, rfl⟩ := h
          obtain ⟨a1, a2⟩ := Pt.get_seen h1
          obtain ⟨b1, b2⟩ := fget_seen h2
          refine ⟨a1.trans b1, fun N hN hs i y hy => ?_⟩
          have hy : (bif Nat.beq j i then some (p.put d1) else look (fput r d2) i) = some y := hy
          cases hb : Nat.beq j i
          · rw [hb] at hy; exact b2 N hN hs i y hy
          · rw [hb] at hy; simp only [cond_true, Option.some.injEq] at hy; subst hy
            have := Nat.eq_of_beq_eq_true hb; subst this
            exact ⟨x, hx, a2 N hN (b1.trans hs)⟩
        · cases h
      · cases h
    · cases h

/- pieces of memory -/
inductive BPt : Type
  | cells (ps : List Pt) (T : TypeId)
  | row (τ : Ty) (E : TypeId)
  | loop (st : LoopState) (pe : Option Jmp) (f : FuncId) (n : Nat) (fr : List (Nat × Pt)) (ps : List Tmp) (tag : Nat) (D : Nat)
  | dfr
  | it
  | dead
  /-- cells that are data -/
  | dat (τ : Ty) (T : TypeId)
def BPt.den : BPt → Type
  | .cells ps _ => Pts.den ps
  | .row τ _ => List τ.den
  | .loop _ _ _ _ fr _ _ _ => fden fr
  | .dfr => Unit
  | .it => List UInt8 × Nat
  | .dead => Unit
  | .dat τ _ => τ.den
def BPt.put : (p : BPt) → p.den → Box
  | .cells ps T, x => .cells (Pts.put ps x) T
  | .row τ E, l => .row τ l E
  | .loop st pe f n fr ps tag D, x => .loop st pe f n (fput fr x) ps tag D
  | .dfr, _ => .dfr
  | .it, x => .it x.1 x.2
  | .dead, _ => .dead
  | .dat τ T, x => .cells (τ.enc x) T
def Jmp.beq : Option Jmp → Option Jmp → Bool
  | none, none => true
  | some .ret, some .ret => true
  | some (.exit i), some (.exit j) => Nat.beq i j
  | _, _ => false
omit [LC] in
theorem Jmp.beq_eq : ∀ {a b : Option Jmp}, Jmp.beq a b = true → a = b
  | none, none, _ => rfl
  | some .ret, some .ret, _ => rfl
  | some (.exit i), some (.exit j), h => by rw [Nat.eq_of_beq_eq_true (show Nat.beq i j = true from h)]
  | none, some _, h => by simp [Jmp.beq] at h
  | some _, none, h => by simp [Jmp.beq] at h
  | some .ret, some (.exit _), h => by simp [Jmp.beq] at h
  | some (.exit _), some .ret, h => by simp [Jmp.beq] at h
def eqNs : List Nat → List Nat → Bool
  | [], [] => true
  | x :: xs, y :: ys => Nat.beq x y && eqNs xs ys
  | _, _ => false
omit [LC] in
theorem eqNs_eq : ∀ {a b : List Nat}, eqNs a b = true → a = b
  | [], [], _ => rfl
  | x :: xs, y :: ys, h => by
    simp only [eqNs, Bool.and_eq_true] at h
    rw [Nat.eq_of_beq_eq_true h.1, eqNs_eq h.2]
  | [], _ :: _, h => by simp [eqNs] at h
  | _ :: _, [], h => by simp [eqNs] at h
def BPt.get : (p : BPt) → Box → NM → Option (p.den × NM)
  | .cells ps T, b, nm => match b with
    | .cells cs T' => bif Nat.beq T' T then Pts.get ps cs nm else none
    | _ => none
  | .row τ E, b, nm => match b with
    | .row τ' l E' => match Ty.eq? τ' τ with
      | some ⟨h⟩ => bif Nat.beq E' E then some ((h ▸ l : List τ.den), nm) else none
      | none => none
    | _ => none
  | .loop st pe f n fr ps tag D, b, nm => match b with
    | .loop st' pe' f' n' fr' ps' tag' D' => bif decide (st' = st) && Jmp.beq pe' pe && Nat.beq f' f && Nat.beq n' n && eqNs ps' ps && Nat.beq tag' tag then
        (match bindN nm D D' with
        | some nm1 => fget fr' fr nm1
        | none => none) else none
    | _ => none
  | .dfr, b, nm => match b with
    | .dfr => some ((), nm)
    | _ => none
  | .it, b, nm => match b with
    | .it s p => some ((s, p), nm)
    | _ => none
  | .dead, _, nm => some ((), nm)
  | .dat τ T, b, nm => match b with
    | .cells cs T' => bif Nat.beq T' T then (match τ.dec cs with
        | some (d, []) => some (d, nm)
        | _ => none) else none
    | _ => none
/-- a piece of memory, by the new names, is seen as another one -/
def SeenB (N : NM) (b b' : Box) : Prop := ∃ ps, vwB (renB (rho N) b) b' = some ps ∧ Alls ps
omit [LC] in
theorem seenFr {N : NM} {fr : List (Nat × AV)} : ∀ {fr' : List (Nat × AV)}, (∀ e ∈ fr', ∃ x, look fr e.1 = some x ∧ Seen N x e.2) → ∃ ps, vwFr (renFr (rho N) fr) fr' = some ps ∧ Alls ps
  | [], _ => ⟨[], rfl, trivial⟩
  | (i, y) :: r, h => by
    obtain ⟨x, hx, ps, h1, h2⟩ := h (i, y) List.mem_cons_self
    obtain ⟨qs, k1, k2⟩ := seenFr (fr' := r) (fun e he => h e (List.mem_cons_of_mem _ he))
    have hl : ∀ (fr : List (Nat × AV)), look fr i = some x → look (renFr (rho N) fr) i = some (x.ren (rho N)) := by
      intro fr
      induction fr with
      | nil => intro h; cases h
      | cons e r ih =>
        obtain ⟨j, z⟩ := e
        intro h
        simp only [renFr, look] at h ⊢
        cases hb : Nat.beq j i
        · rw [hb] at h; exact ih h
        · rw [hb] at h; simp only [cond_true, Option.some.injEq] at h; subst h; rfl
    exact ⟨ps ++ qs, by simp only [vwFr, hl fr hx, h1, k1], Alls_append.2 ⟨h2, k2⟩⟩
omit [LC] in
theorem fget_mem {fr : List (Nat × AV)} : ∀ {l : List (Nat × Pt)} {nm nm' : NM} {d : fden l}, fget fr l nm = some (d, nm') → ∀ N, distinctOld N = true → SubN nm' N → ∀ e ∈ fput l d, ∃ x, look fr e.1 = some x ∧ Seen N x e.2
  | [], nm, nm', d, h, N, _, _, e, he => by cases he
  | (j, p) :: r, nm, nm', d, h, N, hN, hs, e, he => by
    have h : (match look fr j with
      | some x => match p.get x nm with
        | some (d, nm') => match fget fr r nm' with
          | some (ds, nm'') => some ((d, ds), nm'')
          | none => none
        | none => none
      | none => none) = some (d, nm') := h
    split at h
    · rename_i x hx
      split at h
      · rename_i d1 nm1 h1
        split at h
        · rename_i d2 nm2 h2
          simp only [Option.some.injEq] at h; obtain ⟨rfl, rfl⟩ := h
          rcases List.mem_cons.1 (show e ∈ (j, p.put d1) :: fput r d2 from he) with rfl | he
          · exact ⟨x, hx, (Pt.get_seen h1).2 N hN ((fget_seen h2).1.trans hs)⟩
          · exact fget_mem h2 N hN hs e he
        · cases h
      · cases h
    · cases h
omit [LC] in
theorem BPt.get_seen : ∀ {p : BPt} {b : Box} {nm nm' : NM} {d : p.den}, p.get b nm = some (d, nm') → SubN nm nm' ∧ ∀ N, distinctOld N = true → SubN nm' N → SeenB N b (p.put d)
  | .cells ps T, b, nm, nm', d, h => by
    cases b with
    | cells cs T' =>
      have h : (bif Nat.beq T' T then Pts.get ps cs nm else none) = some (d, nm') := h
      cases hq : Nat.beq T' T
      · rw [hq] at h; cases h
      · rw [hq] at h
        have h : Pts.get ps cs nm = some (d, nm') := h
        obtain ⟨h1, h2⟩ := Pts.get_seen h
        have := Nat.eq_of_beq_eq_true hq; subst this
        refine ⟨h1, fun N hN hs => ?_⟩
        obtain ⟨qs, q1, q2⟩ := h2 N hN hs
        refine ⟨qs, ?_, q2⟩
        show (bif Nat.beq T' T' then vws false [] (AV.rens (rho N) cs) (Pts.put ps d) else none) = some qs
        rw [show Nat.beq T' T' = true by simp, q1]; rfl
    | _ => exact absurd (show (none : Option ((BPt.cells ps T).den × NM)) = some (d, nm') from h) (by simp)
  | .row τ E, b, nm, nm', d, h => by
    cases b with
    | row τ' l E' =>
      have h : (match Ty.eq? τ' τ with
        | some ⟨h⟩ => bif Nat.beq E' E then some ((h ▸ l : List τ.den), nm) else none
        | none => none) = some (d, nm') := h
      split at h
      · rename_i hh _
        cases hq : Nat.beq E' E
        · rw [hq] at h; cases h
        · rw [hq] at h
          simp only [cond_true, Option.some.injEq] at h; obtain ⟨rfl, rfl⟩ := h
          have := Nat.eq_of_beq_eq_true hq; subst this
          subst hh
          exact ⟨SubN.refl _, fun N _ _ => ⟨[Box.row τ' l E' = Box.row τ' l E'], rfl, rfl, trivial⟩⟩
      · cases h
    | _ => exact absurd (show (none : Option ((BPt.row τ E).den × NM)) = some (d, nm') from h) (by simp)
  | .loop st pe f n fr ps tag D, b, nm, nm', d, h => by
    cases b with
    | loop st' pe' f' n' fr' ps' tag' D' =>
      have h : (bif decide (st' = st) && Jmp.beq pe' pe && Nat.beq f' f && Nat.beq n' n && eqNs ps' ps && Nat.beq tag' tag then
        (match bindN nm D D' with
        | some nm1 => fget fr' fr nm1
        | none => none) else none) = some (d, nm') := h
      cases hq : decide (st' = st) && Jmp.beq pe' pe && Nat.beq f' f && Nat.beq n' n && eqNs ps' ps && Nat.beq tag' tag
      · rw [hq] at h; cases h
      · rw [hq] at h
        simp only [cond_true] at h
        simp only [Bool.and_eq_true, decide_eq_true_eq] at hq
        obtain ⟨⟨⟨⟨⟨q1, q2⟩, q3⟩, q4⟩, q5⟩, q6⟩ := hq
        have q2 := Jmp.beq_eq q2
        have q3 := Nat.eq_of_beq_eq_true q3
        have q4 := Nat.eq_of_beq_eq_true q4
        have q5 := eqNs_eq q5
        have q6 := Nat.eq_of_beq_eq_true q6
        subst q1 q2 q3 q4 q5 q6
        split at h
        · rename_i nm1 hb
          obtain ⟨b1, b2⟩ := bindN_spec hb
          obtain ⟨c1, _⟩ := fget_seen h
          refine ⟨b1.trans c1, fun N hN hs => ?_⟩
          have hD := rho_of hN (hs _ _ (c1 _ _ b2))
          obtain ⟨qs, k1, k2⟩ := seenFr (fget_mem h N hN hs)
          refine ⟨([st' = st', pe' = pe', f' = f', n' = n', ps' = ps', tag' = tag', D = D] : List Prop) ++ qs, ?_, Alls_append.2 ⟨⟨rfl, rfl, rfl, rfl, rfl, rfl, rfl, trivial⟩, k2⟩⟩
          show vwB (match rho N D' with | some D' => .loop st' pe' f' n' (renFr (rho N) fr') ps' tag' D' | none => .dead) (.loop st' pe' f' n' (fput fr d) ps' tag' D) = _
          rw [hD]
          show (match vwFr (renFr (rho N) fr') (fput fr d) with
            | some qs => some (([st' = st', pe' = pe', f' = f', n' = n', ps' = ps', tag' = tag', D = D] : List Prop) ++ qs)
            | none => none) = _
          rw [k1]
        · cases h
    | _ => exact absurd (show (none : Option ((BPt.loop st pe f n fr ps tag D).den × NM)) = some (d, nm') from h) (by simp)
  | .dat τ T, b, nm, nm', d, h => by
    cases b with
    | cells cs T' =>
      have h : (bif Nat.beq T' T then (match τ.dec cs with
        | some (d, []) => some (d, nm)
        | _ => none) else none) = some (d, nm') := h
      cases hq : Nat.beq T' T
      · rw [hq] at h; cases h
      · rw [hq] at h
        simp only [cond_true] at h
        have := Nat.eq_of_beq_eq_true hq; subst this
        split at h
        · rename_i d0 hd
          have h : (some (d0, nm) : Option (τ.den × NM)) = some (d, nm') := h
          cases h
          obtain ⟨pre, e, hs⟩ := dec_seen hd
          rw [List.append_nil] at e; subst e
          refine ⟨SubN.refl _, fun N hN _ => ?_⟩
          obtain ⟨qs, q1, q2⟩ := hs.seens N
          refine ⟨qs, ?_, q2⟩
          show (bif Nat.beq T' T' then vws false [] (AV.rens (rho N) _) (τ.enc d) else none) = some qs
          rw [show Nat.beq T' T' = true by simp, q1]; rfl
        · cases h
    | _ => exact absurd (show (none : Option ((BPt.dat τ T).den × NM)) = some (d, nm') from h) (by simp)
  | .dfr, b, nm, nm', d, h => by
    cases b with
    | dfr =>
      have e : nm = nm' := congrArg Prod.snd (Option.some.inj (show some (((), nm) : Unit × NM) = some (d, nm') from h))
      subst e
      exact ⟨SubN.refl _, fun N _ _ => ⟨[], rfl, trivial⟩⟩
    | _ => exact absurd (show (none : Option (BPt.dfr.den × NM)) = some (d, nm') from h) (by simp)
  | .it, b, nm, nm', d, h => by
    cases b with
    | it s p =>
      have e := Option.some.inj (show some ((s, p), nm) = some (d, nm') from h)
      have e1 : nm = nm' := congrArg Prod.snd e
      have e2 : (s, p) = d := congrArg Prod.fst e
      subst e1; subst e2
      exact ⟨SubN.refl _, fun N _ _ => ⟨[s = s, p = p], rfl, rfl, rfl, trivial⟩⟩
    | _ => exact absurd (show (none : Option (BPt.it.den × NM)) = some (d, nm') from h) (by simp)
  | .dead, b, nm, nm', d, h => by
    have e : nm = nm' := congrArg Prod.snd (Option.some.inj (show some (((), nm) : Unit × NM) = some (d, nm') from h))
    subst e
    refine ⟨SubN.refl _, fun N _ _ => ?_⟩
    show ∃ ps, vwB (renB (rho N) b) .dead = some ps ∧ Alls ps
    cases renB (rho N) b <;> exact ⟨[], rfl, trivial⟩
end Go.Sym
/- States seen through patterns. -/
namespace Go.Sym
open Go.RowKit
variable [LC]

def bden : List (Nat × BPt) → Type
  | [] => Unit
  | (_, p) :: r => p.den × bden r
def bput : (l : List (Nat × BPt)) → bden l → List (Nat × Box)
  | [], _ => []
  | (n, p) :: r, x => (n, p.put x.1) :: bput r x.2
def bget (hp : List (Nat × Box)) : (l : List (Nat × BPt)) → NM → Option (bden l × NM)
  | [], nm => some ((), nm)
  | (n, p) :: r, nm => match lookN nm n with
    | some old => match look hp old with
      | some b => match p.get b nm with
        | some (d, nm') => match bget hp r nm' with
          | some (ds, nm'') => some ((d, ds), nm'')
          | none => none
        | none => none
      | none => none
    | none => none
omit [LC] in
theorem bget_seen {hp : List (Nat × Box)} : ∀ {l : List (Nat × BPt)} {nm nm' : NM} {d : bden l}, bget hp l nm = some (d, nm') → SubN nm nm' ∧ ∀ N, distinctOld N = true → SubN nm' N →
    (∀ m b', look (bput l d) m = some b' → ∃ old b, lookN N m = some old ∧ look hp old = some b ∧ SeenB N b b') ∧ ∀ m, look (bput l d) m = none → ∀ e ∈ l, e.1 ≠ m
  | [], nm, nm', d, h => by
    have e : nm = nm' := congrArg Prod.snd (Option.some.inj (show some (((), nm) : Unit × NM) = some (d, nm') from h))
    subst e
    exact ⟨SubN.refl _, fun N _ _ => ⟨fun m b' hb => (by cases hb), fun m _ e he => (by cases he)⟩⟩
  | (j, p) :: r, nm, nm', d, h => by
    have h : (match lookN nm j with
      | some old => match look hp old with
        | some b => match p.get b nm with
          | some (d, nm') => match bget hp r nm' with
            | some (ds, nm'') => some ((d, ds), nm'')
            | none => none
          | none => none
        | none => none
      | none => none) = some (d, nm') := h
    split at h
    · rename_i old ho
      split at h
      · rename_i b hb
        split at h
        · rename_i d1 nm1 h1
          split at h
          · rename_i d2 nm2 h2
            simp only [Option.some.injEq] at h; obtain ⟨rfl, rfl⟩ := h
            obtain ⟨a1, a2⟩ := BPt.get_seen h1
            obtain ⟨b1, b2⟩ := bget_seen h2
            refine ⟨a1.trans b1, fun N hN hs => ⟨fun m b' hm => ?_, fun m hm e he => ?_⟩⟩
            · have hm : (bif Nat.beq j m then some (p.put d1) else look (bput r d2) m) = some b' := hm
              cases hq : Nat.beq j m
              · rw [hq] at hm; exact (b2 N hN hs).1 m b' hm
              · rw [hq] at hm; simp only [cond_true, Option.some.injEq] at hm; subst hm
                have := Nat.eq_of_beq_eq_true hq; subst this
                exact ⟨old, b, hs _ _ (b1 _ _ (a1 _ _ ho)), hb, a2 N hN (b1.trans hs)⟩
            · have hm : (bif Nat.beq j m then some (p.put d1) else look (bput r d2) m) = none := hm
              cases hq : Nat.beq j m
              · rw [hq] at hm
                rcases List.mem_cons.1 he with rfl | he
                · intro e; subst e; simp at hq
                · exact (b2 N hN hs).2 m hm e he
              · rw [hq] at hm; cases hm
          · cases h
        · cases h
      · cases h
    · cases h
def bindL : NM → List Nat → List Nat → Option NM
  | nm, [], [] => some nm
  | nm, n :: ns, m :: ms => match bindN nm n m with
    | some nm' => bindL nm' ns ms
    | none => none
  | _, _, _ => none
omit [LC] in
theorem bindL_spec : ∀ {nm nm' : NM} {ns ms : List Nat}, bindL nm ns ms = some nm' → SubN nm nm' ∧ ns.map (lookN nm') = ms.map some
  | nm, nm', [], [], h => by simp only [bindL, Option.some.injEq] at h; subst h; exact ⟨SubN.refl _, rfl⟩
  | nm, nm', n :: ns, m :: ms, h => by
    simp only [bindL] at h
    split at h
    · rename_i nm1 hb
      obtain ⟨h1, h2⟩ := bindN_spec hb
      obtain ⟨h3, h4⟩ := bindL_spec h
      exact ⟨h1.trans h3, by simp only [List.map_cons, h4, h3 _ _ h2]⟩
    · cases h
  | _, _, [], _ :: _, h => by simp [bindL] at h
  | _, _, _ :: _, [], h => by simp [bindL] at h
def hasN (n : Nat) : List (Nat × BPt) → Bool
  | [] => false
  | (m, _) :: r => Nat.beq m n || hasN n r
omit [LC] in
theorem hasN_mem {n : Nat} : ∀ {l : List (Nat × BPt)}, hasN n l = true → ∃ e ∈ l, e.1 = n
  | [], h => by cases h
  | (m, p) :: r, h => by
    simp only [hasN, Bool.or_eq_true] at h
    rcases h with h | h
    · exact ⟨(m, p), List.mem_cons_self, Nat.eq_of_beq_eq_true h⟩
    · obtain ⟨e, he, h⟩ := hasN_mem h; exact ⟨e, List.mem_cons_of_mem _ he, h⟩
def allIn : NM → List (Nat × BPt) → Bool
  | [], _ => true
  | (n, _) :: r, l => hasN n l && allIn r l
omit [LC] in
theorem allIn_spec {l : List (Nat × BPt)} : ∀ {nm : NM}, allIn nm l = true → ∀ n m, lookN nm n = some m → ∃ e ∈ l, e.1 = n
  | [], _, n, m, h => by cases h
  | (k, v) :: r, ha, n, m, h => by
    simp only [allIn, Bool.and_eq_true] at ha
    simp only [lookN] at h
    cases hb : Nat.beq k n
    · rw [hb] at h; exact allIn_spec ha.2 n m h
    · have := Nat.eq_of_beq_eq_true hb; subst this; exact hasN_mem ha.1

/-- a state with holes -/
structure LS where
  n : Nat
  fr : List (Nat × Pt)
  hp : List (Nat × BPt)
  nx : Nat
  df : List Nat
def LS.den (ls : LS) : Type := fden ls.fr × bden ls.hp
def LS.st (ls : LS) (d : ls.den) : St := { n := ls.n, fr := fput ls.fr d.1, hp := bput ls.hp d.2, nx := ls.nx, df := ls.df }
def LS.get (ls : LS) (ids : NM) (s : St) : Option ls.den :=
  bif Nat.beq s.n ls.n then
    match fget s.fr ls.fr ids with
    | some (d1, nm1) => match bindL nm1 ls.df s.df with
      | some nm2 => match bget s.hp ls.hp nm2 with
        | some (d2, nm3) => bif distinctOld nm3 && allIn nm3 ls.hp then some (d1, d2) else none
        | none => none
      | none => none
    | none => none
  else none

section
variable {P : Program} {w₀ : World} {G₀ : Gh} {hp₀ : List (Nat × Box)} {G : Gh} {s : St} {a : Act} {w : World}
omit [LC] in
theorem Seen.rep {N : NM} {x y : AV} (h : Seen N x y) {v : Value} (hv : Rep x G v) : Rep y (G.view N) v := by
  obtain ⟨ps, h1, h2⟩ := h
  exact vw_ok (Gh.le.refl _) (fun e => by cases e) h1 h2 (Rep.ren (G := G) (G' := G.view N) (fun _ _ _ h => h) (view_box N) (view_own N) hv)
/-- memory by other names, seen through patterns -/
theorem Fin.fit {hp l : List (Nat × Box)} (hf : Fin w₀ G₀ hp₀ G hp w) {N : NM} (hN : distinctOld N = true) (hid : ∀ n bx, look hp₀ n = some bx → lookN N n = some n)
    (hl : ∀ m b', look l m = some b' → ∃ old b, lookN N m = some old ∧ look hp old = some b ∧ SeenB N b b') : Fin w₀ G₀ hp₀ (G.view N) l w := by
  have eb : ∀ m n, lookN N m = some n → (G.view N).box m = G.box n := fun m n hm => by simp [Gh.view, hm]
  have eo : ∀ m n, lookN N m = some n → (G.view N).own m = G.own n := fun m n hm => by simp [Gh.view, hm]
  have hbox : ∀ m n b, lookN N m = some n → look hp n = some b → BoxOk (G.view N) w m (renB (rho N) b) := fun m n b h1 h2 =>
    BoxOk.ren (G := G) (G' := G.view N) (ρ := rho N) (n := n) (fun _ _ _ h => h) (fun _ _ _ h => h) (view_box N) (view_own N) (fun B hB => by rw [eb m n h1]; exact hB) (fun B hB => by rw [eo m n h1]; exact hB) (hf.mem.holds n b h2)
  have hat : ∀ m b' c, look l m = some b' → (G.view N).at m b' = some c → ∃ n b, lookN N m = some n ∧ look hp n = some b ∧ G.at n b = some c := fun m b' c h1 h2 => by
    obtain ⟨n, b, i1, i2, ps, i3, i4⟩ := hl m b' h1
    exact ⟨n, b, i1, i2, at_ren (eb m n i1) (eo m n i1) ((vwB_ok i3 i4 (hbox m n b i1 i2)).2 c h2)⟩
  refine ⟨⟨hf.mem.agree, hf.mem.one, fun m b' h => ?_, fun m m' b b' c h1 h2 h3 h4 => ?_, hf.mem.tab⟩, hf.bel, hf.imm_le, hf.imm_new, fun m b c h1 h2 => ?_, fun n bx B h1 h2 => ?_, fun n bx B h1 h2 => ?_⟩
  · obtain ⟨n, b, i1, i2, ps, i3, i4⟩ := hl m b' h
    exact (vwB_ok i3 i4 (hbox m n b i1 i2)).1
  · obtain ⟨n, b0, i1, i2, i3⟩ := hat m b c h1 h3
    obtain ⟨n', b0', j1, j2, j3⟩ := hat m' b' c h2 h4
    have := hf.mem.apart n n' b0 b0' c i2 j2 i3 j3
    subst this
    exact distinctOld_spec hN m m' n i1 j1
  · obtain ⟨n, b0, i1, i2, i3⟩ := hat m b c h1 h2
    exact hf.base n b0 c i2 i3
  · rw [eb n n (hid n bx h1)]; exact hf.keep n bx B h1 h2
  · rw [eo n n (hid n bx h1)]; exact hf.keepOwn n bx B h1 h2
theorem Rel.fit (hr : Rel w₀ G₀ hp₀ G s a w) {ls : LS} {ids : NM} {d : ls.den} (hid : ∀ n bx, look hp₀ n = some bx → lookN ids n = some n) (h : ls.get ids s = some d) : ∃ G', Rel w₀ G₀ hp₀ G' (ls.st d) a w := by
  unfold LS.get at h
  cases hn : Nat.beq s.n ls.n <;> rw [hn] at h <;> simp only [cond_true, cond_false, reduceCtorEq] at h
  have hn := Nat.eq_of_beq_eq_true hn
  split at h
  · rename_i d1 nm1 h1
    split at h
    · rename_i nm2 h2
      split at h
      · rename_i d2 nm3 h3
        cases hq : distinctOld nm3 && allIn nm3 ls.hp <;> rw [hq] at h <;> simp only [cond_true, cond_false, reduceCtorEq] at h
        have h : ((d1, d2) : ls.den) = d := Option.some.inj h
        subst h
        simp only [Bool.and_eq_true] at hq
        obtain ⟨q1, q2⟩ := hq
        obtain ⟨f1, f2⟩ := fget_seen h1
        obtain ⟨l1, l2⟩ := bindL_spec h2
        obtain ⟨b1, b2⟩ := bget_seen h3
        obtain ⟨b3, b4⟩ := b2 nm3 q1 (SubN.refl _)
        refine ⟨G.view nm3, ⟨?_, by rw [hr.size]; exact hn, fun i x hx => ?_, fun m _ hl => ?_, hr.fin.fit q1 (fun n bx hb => b1 _ _ (l1 _ _ (f1 _ _ (hid n bx hb)))) b3⟩⟩
        · obtain ⟨bs, e1, e2⟩ := hr.defers
          refine ⟨bs, e1, e2.trans ?_⟩
          have : ∀ (ns ms : List Nat), ns.map (lookN nm2) = ms.map some → ms.map G.box = ns.map (G.view nm3).box := by
            intro ns
            induction ns with
            | nil => intro ms h; cases ms with
              | nil => rfl
              | cons => simp at h
            | cons n ns ih =>
              intro ms h
              cases ms with
              | nil => simp at h
              | cons m ms =>
                simp only [List.map_cons, List.cons.injEq] at h ⊢
                refine ⟨?_, ih ms h.2⟩
                show _ = (lookN nm3 n).bind G.box
                rw [b1 _ _ h.1]; rfl
          exact this _ _ l2
        · obtain ⟨y, hy, hs⟩ := f2 nm3 q1 (l1.trans b1) i x hx
          obtain ⟨v, v1, v2⟩ := hr.frame i y hy
          exact ⟨v, v1, hs.rep v2⟩
        · have hno : lookN nm3 m = none := by
            cases hc : lookN nm3 m with
            | none => rfl
            | some o =>
              obtain ⟨e, he, hem⟩ := allIn_spec q2 m o hc
              exact absurd hem (b4 m hl e he)
          simp [Gh.view, hno]
      · cases h
    · cases h
  · cases h
end
end Go.Sym
/- What an operation asks for, and what is emitted; entries of calls. -/
namespace Go.Sym
open Go.RowKit
variable [LC]

def sumK {α β γ : Type} (o : α ⊕ β) (f : α → γ) (g : β → γ) : γ := match o with
  | .inl a => f a
  | .inr b => g b
/-- how a decision hangs on a result: a tree of alternatives -/
inductive Sp : Type → Type 1
  | one {α : Type} (d : α → D) : Sp α
  | two {α β : Type} (l : Sp α) (r : Sp β) : Sp (α ⊕ β)
def Sp.K {R : Type} : {α : Type} → Sp α → α → (D → Option R) → Option R
  | _, .one d, x, k => k (d x)
  | _, .two l r, x, k => sumK x (fun a => l.K a k) (fun b => r.K b k)
def Sp.Out : {α : Type} → Sp α → α → D → Prop
  | _, .one d, x, e => e = d x
  | _, .two l _, .inl a, e => l.Out a e
  | _, .two _ r, .inr b, e => r.Out b e
omit [LC] in
theorem Sp.K_some {R : Type} {k : D → Option R} {y : R} : ∀ {α : Type} {sp : Sp α} {x : α}, sp.K x k = some y → ∃ d, sp.Out x d ∧ k d = some y
  | _, .one d, x, h => ⟨d x, rfl, h⟩
  | _, .two l r, .inl a, h => by obtain ⟨d, h1, h2⟩ := Sp.K_some (sp := l) (x := a) h; exact ⟨d, h1, h2⟩
  | _, .two l r, .inr b, h => by obtain ⟨d, h1, h2⟩ := Sp.K_some (sp := r) (x := b) h; exact ⟨d, h1, h2⟩
inductive Rq : Type 1
  | tot (d : D)
  | ifb (b : Bool) (d : D)
  | bnd {α : Type} (o : Option α) (sp : Sp α)
  | br (b : Bool) (d1 d2 : D)
def Rq.K {R : Type} (q : Rq) (k : D → Option R) : Option R := match q with
  | .tot d => k d
  | .ifb b d => bif b then k d else none
  | .bnd o sp => o.bind fun x => sp.K x k
  | .br b d1 d2 => bif b then k d1 else k d2
def Rq.Out (q : Rq) (e : D) : Prop := match q with
  | .tot d => e = d
  | .ifb b d => b = true ∧ e = d
  | .bnd o sp => ∃ x, o = some x ∧ sp.Out x e
  | .br b d1 d2 => (b = true ∧ e = d1) ∨ (b = false ∧ e = d2)
omit [LC] in
theorem Rq.K_some {R : Type} {k : D → Option R} {y : R} {q : Rq} (h : q.K k = some y) : ∃ d, q.Out d ∧ k d = some y := by
  cases q with
  | tot d => exact ⟨d, rfl, h⟩
  | ifb b d =>
    cases b with
    | true => exact ⟨d, ⟨rfl, rfl⟩, h⟩
    | false => cases h
  | bnd o sp =>
    cases o with
    | none => cases h
    | some x => obtain ⟨d, h1, h2⟩ := Sp.K_some (sp := sp) (x := x) h; exact ⟨d, ⟨x, rfl, h1⟩, h2⟩
  | br b d1 d2 =>
    cases b with
    | true => exact ⟨d1, .inl ⟨rfl, rfl⟩, h⟩
    | false => exact ⟨d2, .inr ⟨rfl, rfl⟩, h⟩

/-- how plain results are results and memory: alternatives -/
inductive RS : Type → Type 1
  | one {α : Type} (p : Pt) (hp : List (Nat × BPt)) (to : α → p.den × bden hp) (fro : p.den × bden hp → α) (ok : ∀ y, to (fro y) = y) : RS α
  | two {α β : Type} (l : RS α) (r : RS β) : RS (α ⊕ β)
def RS.res : {α : Type} → RS α → α → AV × List (Nat × Box)
  | _, .one p hp to _ _, x => (p.put (to x).1, bput hp (to x).2)
  | _, .two l r, x => sumK x (fun a => l.res a) (fun b => r.res b)
def RS.sp (mk : AV → List (Nat × Box) → D) : {α : Type} → RS α → Sp α
  | _, .one p hp to _ _ => .one fun x => mk (p.put (to x).1) (bput hp (to x).2)
  | _, .two l r => .two (l.sp mk) (r.sp mk)
omit [LC] in
theorem RS.sp_out {mk : AV → List (Nat × Box) → D} : ∀ {α : Type} {r : RS α} {x : α} {d : D}, (r.sp mk).Out x d → d = mk (r.res x).1 (r.res x).2
  | _, .one _ _ _ _ _, _, _, h => h
  | _, .two l _, .inl a, _, h => RS.sp_out (r := l) (x := a) h
  | _, .two _ r, .inr b, _, h => RS.sp_out (r := r) (x := b) h
/-- which function a call meets -/
inductive Key : Type
  | fn (f : FuncId)
  | yld (tag : Nat)
  /-- a function without a body, that answers at once -/
  | ext (f : FuncId)
/-- a function without a body, that answers at once -/
def ExtTo (P : Program) (f : FuncId) (xs : List AV) (r : AV) : Prop :=
  ∀ (w : World) (G : Gh) (vs : List Value), Mem G [] w → Reps xs G vs → ∃ v, (callFunc f vs.toArray).run P w = .ok (.value v) w ∧ Rep r G v
/-- a call that is known: arguments and memory as patterns, what it computes, its results -/
structure Ent : Type 1 where
  key : Key
  args : List Pt
  hp : List (Nat × BPt)
  R : Type
  F : Pts.den args → bden hp → Option R
  out : RS R
/-- for a round: the name by which the entry knows the loop -/
def Ent.Sound (P : Program) (e : Ent) : Prop := ∀ d d' r, e.F d d' = some r → match e.key with
  | .fn f => Plain P f ∧ CallsTo P f (Pts.put e.args d) (bput e.hp d') (e.out.res r).1 (e.out.res r).2
  | .yld m => RoundTo P m (Pts.put e.args d) (bput e.hp d') (e.out.res r).1 (e.out.res r).2
  | .ext f => ExtTo P f (Pts.put e.args d) (e.out.res r).1
end Go.Sym
/- What each operation that leaves memory as it is asks for. -/
namespace Go.Sym
open Go.RowKit
variable [LC]

def idx {α : Type} (l : List α) (n : Int) : Option α := if 0 ≤ n then l[n.toNat]? else none
omit [LC] in
theorem idx_some {α : Type} {l : List α} {n : Int} {x : α} (h : idx l n = some x) : 0 ≤ n ∧ l[n.toNat]? = some x := by
  unfold idx at h
  split at h
  · rename_i h0; exact ⟨h0, h⟩
  · cases h
def cutQ {α : Type} (l : List α) (lo hi : Option Int) : Rq :=
  match lo, hi with
  | none, none => .tot .none
  | some a, none => .ifb (decide (0 ≤ a ∧ a ≤ l.length)) .none
  | none, some b => .ifb (decide (0 ≤ b ∧ b ≤ l.length)) .none
  | some a, some b => .ifb (decide (0 ≤ a ∧ a ≤ b ∧ b ≤ l.length)) .none
omit [LC] in
theorem cutQ_ok {α : Type} {l : List α} {lo hi : Option Int} {d : D} (h : (cutQ l lo hi).Out d) : Alls (cut l lo hi).1 := by
  unfold cutQ at h
  unfold cut
  split at h
  · trivial
  · exact ⟨of_decide_eq_true h.1, trivial⟩
  · exact ⟨of_decide_eq_true h.1, trivial⟩
  · exact ⟨of_decide_eq_true h.1, trivial⟩
def isC : AV → Bool
  | .val _ => true
  | _ => false
/-- a test that is reckoned at once if it is one of constants -/
def testQ (c : Bool) (b : Bool) : Option Rq := bif c then (bif b then some (.tot .none) else none) else some (.ifb b .none)
omit [LC] in
theorem testQ_ok {c b : Bool} {q : Rq} {d : D} (h : testQ c b = some q) (ho : q.Out d) : b = true := by
  unfold testQ at h
  cases c
  · simp only [cond_false, Option.some.injEq] at h; subst h; exact ho.1
  · cases b
    · cases h
    · rfl
def binQ (op : BinOp) (x y : AV) : Option Rq :=
  match op with
  | .quo => match y.sym with
    | .int _ b => testQ (isC y) (decide (b ≠ 0))
    | .byte b => testQ (isC y) (decide (b ≠ 0))
    | _ => some (.tot .none)
  | .rem => match y.sym with
    | .int _ b => testQ (isC y) (decide (b ≠ 0))
    | .byte b => testQ (isC y) (decide (b ≠ 0))
    | _ => some (.tot .none)
  | .shl => match y.sym with
    | .int _ b => testQ (isC y) (decide (0 ≤ b))
    | _ => some (.tot .none)
  | .shr => match y.sym with
    | .int _ b => testQ (isC y) (decide (0 ≤ b))
    | _ => some (.tot .none)
  | .add => match x.sym, y.sym with
    | .str a, .str b => some (.ifb (decide (a.length + b.length ≤ strMax)) .none)
    | _, _ => some (.tot .none)
  | _ => some (.tot .none)
omit [LC] in
theorem binQ_ok {P : Program} {op : BinOp} {t : TypeId} {x y : AV} {q : Rq} {d : D} (h : binQ op x y = some q) (ho : q.Out d) {ps : List Prop} {r : AV} (ha : abin P op t x.sym y.sym = some (ps, r)) : Alls ps := by
  have key : ∀ (xs ys : AV), (op = .quo ∨ op = .rem → (∀ k b, ys = .int k b → b ≠ 0) ∧ ∀ b, ys = .byte b → b ≠ 0) → (op = .shl ∨ op = .shr → ∀ k b, ys = .int k b → 0 ≤ b) → (op = .add → ∀ a b, xs = .str a → ys = .str b → a.length + b.length ≤ strMax) →
      ∀ {ps r}, abin P op t xs ys = some (ps, r) → Alls ps := by
    intro xs ys k1 k2 k3 ps r ha
    unfold abin at ha
    split at ha
    · rename_i k a k' b
      cases hc : decide (op = .shl) || decide (op = .shr) || decide (k = k') <;> rw [hc] at ha <;> simp only [cond_true, cond_false, reduceCtorEq] at ha
      cases hc8 : decide (k = .u8) || decide (k' = .u8) <;> rw [hc8] at ha <;> simp only [cond_true, cond_false, reduceCtorEq] at ha
      cases op <;> simp only [abinI, Option.some.injEq, Prod.mk.injEq] at ha <;> obtain ⟨rfl, _⟩ := ha <;> first
        | trivial
        | exact ⟨(k1 (.inl rfl)).1 _ _ rfl, trivial⟩
        | exact ⟨(k1 (.inr rfl)).1 _ _ rfl, trivial⟩
        | exact ⟨k2 (.inl rfl) _ _ rfl, trivial⟩
        | exact ⟨k2 (.inr rfl) _ _ rfl, trivial⟩
    · rename_i a b
      cases op <;> simp only [abin8, Option.some.injEq, Prod.mk.injEq, reduceCtorEq] at ha <;> obtain ⟨rfl, _⟩ := ha <;> first
        | trivial
        | exact ⟨(k1 (.inl rfl)).2 _ rfl, trivial⟩
        | exact ⟨(k1 (.inr rfl)).2 _ rfl, trivial⟩
    · split at ha
      · simp only [Option.some.injEq, Prod.mk.injEq] at ha; obtain ⟨rfl, _⟩ := ha; exact ⟨k2 (.inl rfl) _ _ rfl, trivial⟩
      · simp only [Option.some.injEq, Prod.mk.injEq] at ha; obtain ⟨rfl, _⟩ := ha; exact ⟨k2 (.inr rfl) _ _ rfl, trivial⟩
      · cases ha
    · rename_i k a b
      cases hk : decide (k = .u8) <;> rw [hk] at ha <;> simp only [cond_true, cond_false, reduceCtorEq] at ha
      split at ha
      · simp only [Option.some.injEq, Prod.mk.injEq] at ha; obtain ⟨rfl, _⟩ := ha; trivial
      · simp only [Option.some.injEq, Prod.mk.injEq] at ha; obtain ⟨rfl, _⟩ := ha; trivial
      · cases ha
    · rename_i a b
      cases op <;> simp only [abinS, Option.some.injEq, Prod.mk.injEq, reduceCtorEq] at ha <;> obtain ⟨rfl, _⟩ := ha <;> first
        | trivial
        | exact ⟨k3 rfl _ _ rfl rfl, trivial⟩
    · split at ha
      · split at ha
        · simp only [Option.some.injEq, Prod.mk.injEq] at ha; obtain ⟨rfl, _⟩ := ha; trivial
        · cases ha
      · split at ha
        · simp only [Option.some.injEq, Prod.mk.injEq] at ha; obtain ⟨rfl, _⟩ := ha; trivial
        · cases ha
      · cases ha
  refine key x.sym y.sym (fun hop => ?_) (fun hop => ?_) (fun hop a b e1 e2 => ?_) ha
  · rcases hop with rfl | rfl
    · simp only [binQ] at h
      exact ⟨fun k b e => by rw [e] at h; exact of_decide_eq_true (testQ_ok h ho), fun b e => by rw [e] at h; exact of_decide_eq_true (testQ_ok h ho)⟩
    · simp only [binQ] at h
      exact ⟨fun k b e => by rw [e] at h; exact of_decide_eq_true (testQ_ok h ho), fun b e => by rw [e] at h; exact of_decide_eq_true (testQ_ok h ho)⟩
  · rcases hop with rfl | rfl
    · simp only [binQ] at h
      exact fun k b e => by rw [e] at h; exact of_decide_eq_true (testQ_ok h ho)
    · simp only [binQ] at h
      exact fun k b e => by rw [e] at h; exact of_decide_eq_true (testQ_ok h ho)
  · subst hop
    simp only [binQ] at h
    rw [e1, e2] at h
    simp only [Option.some.injEq] at h; subst h
    exact of_decide_eq_true ho.1
end Go.Sym
/- What each operation that leaves memory as it is asks for: all of them. -/
namespace Go.Sym
open Go.RowKit
variable [LC]

/-- bytes as a string -/
def strOf (s : St) : AV → Option (List UInt8)
  | .sl τ l => match Ty.eq? τ .byte with
    | some ⟨h⟩ => some (h ▸ l : List Ty.byte.den)
    | none => none
  | .own k => match look s.hp k with
    | some (.row τ l _) => match Ty.eq? τ .byte with
      | some ⟨h⟩ => some (h ▸ l : List Ty.byte.den)
      | none => none
    | _ => none
  | .val (.slice none 0 0) => some []
  | _ => none
omit [LC] in
theorem strOf_src {s : St} {v : AV} {b : List UInt8} (h : strOf s v = some b) {flat : List AV} {n : Nat} (hs : srcOf s v = some (flat, n)) : flat = b.map AV.byte ∧ n = b.length := by
  unfold strOf at h
  split at h
  · rename_i τ l
    split at h
    · rename_i hh _
      subst hh
      have h : l = b := Option.some.inj h
      subst h
      simp only [srcOf, Option.some.injEq, Prod.mk.injEq] at hs; obtain ⟨rfl, rfl⟩ := hs
      exact ⟨flat_encB l, rfl⟩
    · cases h
  · rename_i k
    split at h
    · rename_i τ l E hl
      split at h
      · rename_i hh _
        subst hh
        have h : l = b := Option.some.inj h
        subst h
        simp only [srcOf, hl, Option.some.injEq, Prod.mk.injEq] at hs; obtain ⟨rfl, rfl⟩ := hs
        exact ⟨flat_encB l, rfl⟩
      · cases h
    · cases h
  · simp only [Option.some.injEq] at h; subst h
    simp only [srcOf, Option.some.injEq, Prod.mk.injEq] at hs; obtain ⟨rfl, rfl⟩ := hs
    exact ⟨rfl, rfl⟩
  · cases h
/-- the type of one cell -/
def tyE (P : Program) (E : TypeId) : Option Ty := match P.underlying E with
  | some (.int k) => some (bif decide (k = .u8) then .byte else .int k)
  | some .bool => some .bool
  | some .string => some .str
  | _ => none
def plain1 : Ty → AV → Bool
  | .int _, .int _ _ => true
  | .byte, .byte _ => true
  | .bool, .bool _ => true
  | .str, .str _ => true
  | _, _ => false
omit [LC] in
theorem plain1_eq : ∀ {τ : Ty} {y : AV} {d : τ.den}, dec1 τ y = some d → plain1 τ y = true → y = τ.av d
  | .int k, .int k' n, d, h, _ => by
    simp only [dec1, Ty.dec] at h
    cases hk : decide (k' = k) <;> rw [hk] at h
    · cases h
    · have := of_decide_eq_true hk; subst this
      have h : n = d := Option.some.inj h
      subst h; rfl
  | .byte, .byte c, d, h, _ => by have h : c = d := Option.some.inj h; subst h; rfl
  | .bool, .bool c, d, h, _ => by have h : c = d := Option.some.inj h; subst h; rfl
  | .str, .str c, d, h, _ => by have h : c = d := Option.some.inj h; subst h; rfl
def decL (τ : Ty) : List AV → Option (List τ.den)
  | [] => some []
  | x :: xs => match dec1 τ x.sym, decL τ xs with
    | some d, some ds => bif plain1 τ x.sym then some (d :: ds) else none
    | _, _ => none
omit [LC] in
theorem decL_eq {τ : Ty} : ∀ {xs : List AV} {ds : List τ.den}, decL τ xs = some ds → xs.map AV.sym = ds.map τ.av
  | [], ds, h => by simp only [decL, Option.some.injEq] at h; subst h; rfl
  | x :: xs, ds, h => by
    simp only [decL] at h
    split at h
    · rename_i d ds' h1 h2
      cases hb : plain1 τ x.sym <;> rw [hb] at h <;> simp only [cond_true, cond_false, reduceCtorEq, Option.some.injEq] at h
      subst h
      rw [List.map_cons, List.map_cons, decL_eq h2, ← plain1_eq h1 hb]
    · cases h
/-- numbers seen as characters -/
def runesOf (s : St) : AV → Option (List Int)
  | .sl (.int .i32) l => some l
  | .own k => match look s.hp k with
    | some (.row (.int .i32) l _) => some l
    | _ => none
  | .val (.slice none 0 0) => some []
  | _ => none
omit [LC] in
theorem runesOf_src {s : St} {v : AV} {l : List Int} (hl : runesOf s v = some l) : srcOf s v = some (List.flatMap (β := AV) (Ty.int .i32).enc l, l.length) := by
  unfold runesOf at hl
  split at hl
  · have hl := Option.some.inj hl; subst hl; rfl
  · rename_i k
    split at hl
    · rename_i hk; have hl := Option.some.inj hl; subst hl; show (match look s.hp k with | some (.row τ l _) => some (l.flatMap τ.enc, l.length) | _ => none) = _; rw [hk]; rfl
    · cases hl
  · have hl := Option.some.inj hl; subst hl; rfl
  · cases hl
end Go.Sym
/- What each operation that leaves memory as it is asks for: soundness. -/
namespace Go.Sym
open Go.RowKit
variable [LC]

def idxQ (P : Program) (s : St) (t : TypeId) (x : AV) (i : Operand) : Option Rq :=
  match x, s.evy i with
  | .str b, some (.int _ n) => some (.bnd (idx b n) (.one fun c => .cs [.byte c]))
  | .str b, some (.byte n) => some (.bnd b[n.toNat]? (.one fun c => .cs [.byte c]))
  | .agg cs, some (.int _ n) => match s.ev i with
    | some (.val _) => match (cs.map AV.sym)[n.toNat]? with
      | some y => bif decide (0 ≤ n) then some (.tot (.cs [y])) else none
      | none => none
    | _ => match P.underlying t with
      | some (.array _ E) => match tyE P E with
        | some τ => match decL τ cs with
          | some l => some (.bnd (idx l n) (.one fun y => .cs [τ.av y]))
          | none => none
        | none => none
      | _ => none
  | _, _ => none
def addrQ (P : Program) (s : St) (t : TypeId) (x : AV) (i : Operand) : Option Rq :=
  match x, s.evy i with
  | .sl τ l, some (.int _ n) => some (.bnd (idx l n) (.one fun y => .cs (τ.enc y)))
  | .own k, some (.int _ n) => match look s.hp k with
    | some (.row _ l _) => some (.ifb (decide (0 ≤ n ∧ n.toNat < l.length)) .none)
    | _ => none
  | .asl _ m _, some (.int _ n) => match s.ev i with
    | some j => testQ (isC j) (decide (0 ≤ n ∧ n.toNat < m))
    | _ => none
  | .ptr _ _, some (.int _ n) => match P.underlying t, s.ev i with
    | some (.array len _), some j => testQ (isC j) (decide (0 ≤ n ∧ n < len))
    | _, _ => none
  | _, _ => none
def areqV (P : Program) (s : St) (op : Op) : Option Rq :=
  match op with
  | .pick c _ _ => match s.ev c with
    | some (.bool b) => some (.br b (.b true) (.b false))
    | _ => some (.tot .none)
  | .load _ x => match s.ev x with
    | some (.oel k _ i _) => match look s.hp k with
      | some (.row τ l _) => some (.bnd l[i]? (.one fun y => .cs (τ.enc y)))
      | _ => none
    | _ => some (.tot .none)
  | .slice _ x lo hi _ => match evInt s lo, evInt s hi, s.ev x with
    | some a, some b, some (.str l) => some (cutQ l a b)
    | some a, some b, some (.sl _ l) => some (cutQ l a b)
    | some none, some none, some (.ptr _ _) => some (.tot .none)
    | _, _, _ => none
  | .binOp op _ x y _ => match s.ev x, s.ev y with
    | some a, some b => binQ op a b
    | _, _ => none
  | .convert _ _ x => match s.ev x with
    | some v => match strOf s v with
      | some b => some (.tot (.cs [.str b]))
      | none => match runesOf s v with
        | some l => some (.tot (.cs [.sl (.int .i32) l]))
        | none => some (.tot .none)
    | none => none
  | .index t x i => match s.ev x with
    | some v => idxQ P s t v i
    | none => none
  | .indexAddr t x i => match s.ev x with
    | some v => addrQ P s t v i
    | none => none
  | _ => some (.tot .none)
omit [LC] in
theorem idxQ_ok {P : Program} {s : St} {t : TypeId} {x j : AV} {i : Operand} {q : Rq} {d : D} (hj : s.evy i = some j) (h : idxQ P s t x i = some q) (ho : q.Out d) {ps : List Prop} {r : AV} (ha : aIndex P t x j d = some (ps, r)) : Alls ps := by
  unfold aIndex at ha
  split at ha
  · simp only [idxQ, hj, Option.some.injEq] at h; subst h
    obtain ⟨y, h1, h2⟩ := ho
    simp only [Sp.Out, D.cs.injEq, List.cons.injEq, AV.byte.injEq, and_true] at h2; subst h2
    simp only [Option.some.injEq, Prod.mk.injEq] at ha; obtain ⟨rfl, _⟩ := ha
    exact ⟨idx_some h1, trivial⟩
  · simp only [idxQ, hj, Option.some.injEq] at h; subst h
    obtain ⟨y, h1, h2⟩ := ho
    simp only [Sp.Out, D.cs.injEq, List.cons.injEq, AV.byte.injEq, and_true] at h2; subst h2
    simp only [Option.some.injEq, Prod.mk.injEq] at ha; obtain ⟨rfl, _⟩ := ha
    exact ⟨h1, trivial⟩
  · rename_i len E cs k n y hu
    simp only [idxQ, hj] at h
    split at ha
    · cases hq : Nat.beq cs.length len <;> rw [hq] at ha <;> simp only [cond_true, cond_false, reduceCtorEq, Option.some.injEq, Prod.mk.injEq] at ha
      obtain ⟨rfl, _⟩ := ha
      refine ⟨?_, trivial⟩
      split at h
      · split at h
        · rename_i z hz
          cases hd : decide (0 ≤ n) <;> rw [hd] at h <;> simp only [cond_true, cond_false, reduceCtorEq, Option.some.injEq] at h
          subst h
          have ho : D.cs [y] = D.cs [z] := ho
          simp only [D.cs.injEq, List.cons.injEq, and_true] at ho; subst ho
          exact ⟨of_decide_eq_true hd, hz⟩
        · cases h
      · simp only [hu] at h
        split at h
        · rename_i τ hτ
          split at h
          · rename_i l hl
            simp only [Option.some.injEq] at h; subst h
            obtain ⟨z, h1, h2⟩ := ho
            simp only [Sp.Out, D.cs.injEq, List.cons.injEq, and_true] at h2; subst h2
            obtain ⟨h3, h4⟩ := idx_some h1
            refine ⟨h3, ?_⟩
            rw [decL_eq hl, List.getElem?_map, h4]; rfl
          · cases h
        · cases h
    · cases ha
  · cases ha
omit [LC] in
theorem addrQ_ok {P : Program} {s : St} {t : TypeId} {x j : AV} {i : Operand} {q : Rq} {d : D} (hj : s.evy i = some j) (h : addrQ P s t x i = some q) (ho : q.Out d) {ps : List Prop} {r : AV} (ha : aIndexAddr P s t x j d = some (ps, r)) : Alls ps := by
  unfold aIndexAddr at ha
  split at ha
  · split at ha
    · rename_i sz k n hsz
      split at ha
      · rename_i τ l cs
        cases hq : Nat.beq τ.sz sz <;> rw [hq] at ha <;> simp only [cond_true, cond_false, reduceCtorEq, Option.some.injEq, Prod.mk.injEq] at ha
        obtain ⟨rfl, _⟩ := ha
        simp only [addrQ, hj, Option.some.injEq] at h; subst h
        obtain ⟨y, h1, h2⟩ := ho
        have h2 : D.cs cs = D.cs (τ.enc y) := h2
        simp only [D.cs.injEq] at h2
        exact ⟨⟨(idx_some h1).1, y, (idx_some h1).2, h2.symm⟩, trivial⟩
      · split at ha
        · rename_i τ l E hl
          cases hq : Nat.beq τ.sz sz <;> rw [hq] at ha <;> simp only [cond_true, cond_false, reduceCtorEq, Option.some.injEq, Prod.mk.injEq] at ha
          obtain ⟨rfl, _⟩ := ha
          simp only [addrQ, hj, hl, Option.some.injEq] at h; subst h
          exact ⟨of_decide_eq_true ho.1, trivial⟩
        · cases ha
      · simp only [Option.some.injEq, Prod.mk.injEq] at ha; obtain ⟨rfl, _⟩ := ha
        simp only [addrQ, hj] at h
        split at h
        · exact ⟨of_decide_eq_true (testQ_ok h ho), trivial⟩
        · cases h
      · cases ha
    · cases ha
  · rename_i len E hu
    split at ha
    · rename_i sz k n b off hsz
      simp only [Option.some.injEq, Prod.mk.injEq] at ha; obtain ⟨rfl, _⟩ := ha
      simp only [addrQ, hj, hu] at h
      split at h
      · rename_i len' _ j' he _
        simp only [Option.some.injEq, TypeDesc.array.injEq] at he
        obtain ⟨rfl, rfl⟩ := he
        exact ⟨of_decide_eq_true (testQ_ok h ho), trivial⟩
      · cases h
    · cases ha
  · cases ha
end Go.Sym
/- Operations that leave memory as it is: what is asked for is enough. -/
namespace Go.Sym
open Go.RowKit
variable [LC]

omit [LC] in
theorem areqV_ok {P : Program} {s : St} {op : Op} {q : Rq} {d : D} (h : areqV P s op = some q) (ho : q.Out d) {ps : List Prop} {v : AV} (ha : aval P s d op = some (ps, v)) : Alls ps := by
  have triv : ∀ {x : AV} {ps : List Prop} {v : AV}, (some (([] : List Prop), x) : Option (List Prop × AV)) = some (ps, v) → Alls ps := fun e => by
    simp only [Option.some.injEq, Prod.mk.injEq] at e; obtain ⟨rfl, _⟩ := e; trivial
  have cnd : ∀ {b : Bool} {x : AV} {ps : List Prop} {v : AV}, (bif b then some (([] : List Prop), x) else none) = some (ps, v) → Alls ps := fun {b} _ _ _ e => by
    cases b
    · cases e
    · exact triv e
  unfold aval at ha
  split at ha
  · split at ha
    · exact triv ha
    · cases ha
  · split at ha
    · exact triv ha
    · cases ha
  · split at ha
    · rename_i c x y b t hc
      split at ha
      · simp only [Option.some.injEq, Prod.mk.injEq] at ha; obtain ⟨rfl, _⟩ := ha
        simp only [areqV, hc, Option.some.injEq] at h; subst h
        rcases ho with ⟨h1, h2⟩ | ⟨h1, h2⟩
        · simp only [D.b.injEq] at h2; subst h2; exact ⟨h1, trivial⟩
        · simp only [D.b.injEq] at h2; subst h2; exact ⟨h1, trivial⟩
      · cases ha
    · split at ha
      · exact triv ha
      · cases ha
    · cases ha
  · unfold aBuild at ha
    split at ha
    · split at ha
      · split at ha
        · split at ha
          · exact triv ha
          · cases ha
        · cases ha
      · split at ha
        · split at ha
          · exact triv ha
          · cases ha
        · cases ha
      · cases ha
    · cases ha
  · unfold aLoad at ha
    split at ha
    · split at ha
      · split at ha
        · exact triv ha
        · cases ha
      · cases ha
    · split at ha
      · exact triv ha
      · cases ha
    · rename_i k sz i off hx
      split at ha
      · rename_i τ l E cs hl
        cases hq : Nat.beq sz τ.sz <;> rw [hq] at ha <;> simp only [cond_true, cond_false, reduceCtorEq] at ha
        split at ha
        · simp only [Option.some.injEq, Prod.mk.injEq] at ha; obtain ⟨rfl, _⟩ := ha
          simp only [areqV, hx, hl, Option.some.injEq] at h; subst h
          obtain ⟨y, h1, h2⟩ := ho
          have h2 : D.cs cs = D.cs (τ.enc y) := h2
          simp only [D.cs.injEq] at h2
          exact ⟨⟨y, h1, h2.symm⟩, trivial⟩
        · cases ha
      · cases ha
    · cases ha
  · unfold aSlice at ha
    split at ha
    · rename_i h1 h2 h3
      split at ha
      · simp only [Option.some.injEq, Prod.mk.injEq] at ha; obtain ⟨rfl, _⟩ := ha
        simp only [areqV, h1, h2, h3, Option.some.injEq] at h; subst h
        exact cutQ_ok ho
      · cases ha
    · rename_i τ l h1 h2 h3
      split at ha
      · split at ha
        · rename_i sz hsz
          cases hq : Nat.beq τ.sz sz <;> rw [hq] at ha <;> simp only [cond_true, cond_false, reduceCtorEq, Option.some.injEq, Prod.mk.injEq] at ha
          obtain ⟨rfl, _⟩ := ha
          simp only [areqV, h1, h2, h3, Option.some.injEq] at h; subst h
          exact cutQ_ok ho
        · cases ha
      · cases ha
    · split at ha
      · split at ha
        · exact triv ha
        · cases ha
      · cases ha
    · cases ha
  · split at ha
    · rename_i a b hx hy
      simp only [areqV, hx, hy] at h
      unfold abinC at ha
      split at ha
      · split at ha
        · exact triv ha
        · exact binQ_ok h ho ha
      · exact binQ_ok h ho ha
    · cases ha
  · split at ha
    · split at ha
      · exact triv ha
      · cases ha
    · cases ha
  · rename_i src dst x
    split at ha
    · rename_i v' hs hx
      split at ha
      · rename_i r' hc
        simp only [Option.some.injEq] at ha; subst ha
        have key : ∀ {y : AV} {ps : List Prop} {v : AV}, aConv P dst y = some (ps, v) → Alls ps := fun e => by
          unfold aConv at e
          split at e
          · rename_i k _ _ _
            cases hk : decide (k = .u8) <;> rw [hk] at e <;> exact triv e
          · rename_i k _ _
            cases hk : decide (k = .u8) <;> rw [hk] at e <;> simp only [cond_true, cond_false] at e
            · cases hk8 : decide (k = .i8) <;> rw [hk8] at e <;> simp only [cond_true, cond_false, reduceCtorEq] at e
              exact triv e
            · exact triv e
          · exact triv e
          · cases e
        unfold aConvC at hc
        split at hc
        · split at hc
          · exact triv hc
          · exact key hc
        · exact key hc
      · split at ha
        · unfold aStr at ha
          split at ha
          · rename_i E flat n b hu hsrc
            split at ha
            · cases ha
            · simp only [Option.some.injEq, Prod.mk.injEq] at ha; obtain ⟨rfl, _⟩ := ha
              simp only [areqV, hx] at h
              split at h
              · rename_i b' hb
                simp only [Option.some.injEq] at h; subst h
                have ho : D.cs [.str b] = D.cs [.str b'] := ho
                simp only [D.cs.injEq, List.cons.injEq, AV.str.injEq, and_true] at ho; subst ho
                obtain ⟨h1, h2⟩ := strOf_src hb hsrc
                exact ⟨h1, h2, trivial⟩
              · split at h
                · rename_i l' _
                  simp only [Option.some.injEq] at h; subst h
                  exact absurd (show D.cs [.str b] = D.cs [.sl (.int .i32) l'] from ho) (by simp)
                · simp only [Option.some.injEq] at h; subst h
                  exact absurd (show D.cs [.str b] = D.none from ho) (by simp)
            · cases ha
          · rename_i E flat n l hu hsrc
            split at ha
            · cases ha
            · simp only [Option.some.injEq, Prod.mk.injEq] at ha; obtain ⟨rfl, _⟩ := ha
              simp only [areqV, hx] at h
              split at h
              · rename_i b' _
                simp only [Option.some.injEq] at h; subst h
                exact absurd (show D.cs [.sl (.int .i32) l] = D.cs [.str b'] from ho) (by simp)
              · split at h
                · rename_i l' hl
                  simp only [Option.some.injEq] at h; subst h
                  have ho : D.cs [.sl (.int .i32) l] = D.cs [.sl (.int .i32) l'] := ho
                  have ho : l = l' := by injection ho with ho; injection ho with ho; injection ho with _ ho
                  subst ho
                  have h1 := runesOf_src hl
                  rw [hsrc] at h1
                  simp only [Option.some.injEq, Prod.mk.injEq] at h1
                  exact ⟨h1.1, h1.2, trivial⟩
                · simp only [Option.some.injEq] at h; subst h
                  exact absurd (show D.cs [.sl (.int .i32) l] = D.none from ho) (by simp)
            · cases ha
          · cases ha
        · cases ha
    · cases ha
  · split at ha
    · unfold aField at ha
      split at ha
      · split at ha
        · split at ha
          · exact triv ha
          · cases ha
        · cases ha
      · cases ha
    · cases ha
  · split at ha
    · unfold aFieldAddr at ha
      split at ha
      · split at ha
        · split at ha
          · rename_i sz _
            cases hz : Nat.beq sz 0 <;> rw [hz] at ha <;> simp only [cond_true, cond_false, reduceCtorEq] at ha
            split at ha
            · exact triv ha
            · exact cnd ha
            · exact triv ha
            · cases ha
          · cases ha
        · cases ha
      · cases ha
    · cases ha
  · split at ha
    · split at ha
      · exact triv ha
      · cases ha
    · cases ha
  · split at ha
    · rename_i v' j hx hj
      simp only [areqV, hx] at h
      exact idxQ_ok hj h ho ha
    · cases ha
  · split at ha
    · rename_i v' j hx hj
      simp only [areqV, hx] at h
      exact addrQ_ok hj h ho ha
    · cases ha
  · split at ha
    · exact triv ha
    · cases ha
  · split at ha
    · split at ha
      · unfold aLen at ha
        split at ha
        · exact triv ha
        · exact triv ha
        · split at ha
          · exact triv ha
          · cases ha
        · exact triv ha
        · exact triv ha
        · cases ha
      · cases ha
    · cases ha
  · split at ha
    · split at ha
      · unfold aMax at ha
        split at ha
        · exact cnd ha
        · cases ha
      · cases ha
    · cases ha
  · split at ha
    · split at ha
      · unfold aMin at ha
        split at ha
        · exact cnd ha
        · cases ha
      · cases ha
    · cases ha
  · split at ha
    · exact cnd ha
    · cases ha
  · cases ha
end Go.Sym
