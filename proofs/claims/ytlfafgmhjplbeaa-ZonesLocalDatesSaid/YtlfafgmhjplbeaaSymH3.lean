/- Own slices seen as data, for the time of a call or for good. -/
import Derived.Test.YtlfafgmhjplbeaaSymH2
namespace Go.Sym
open Go.RowKit

theorem Alls_append : ∀ {ps qs : List Prop}, Alls (ps ++ qs) ↔ Alls ps ∧ Alls qs
  | [], qs => by simp [Alls]
  | p :: ps, qs => by simp [Alls, Alls_append (ps := ps), and_assoc]

mutual
theorem vw_ok {b : Bool} {hp : List (Nat × Box)} {G G' : Gh} (hle : G.le G') (hown : b = true → ∀ k sz (α : Type) (enc : α → List AV) (l : List α) E v, look hp k = some (.row sz enc l E) → Rep (.own k) G v → Rep (.sl sz enc l) G' v) :
    ∀ {x y : AV} {ps : List Prop} {v : Value}, vw b hp x y = some ps → Alls ps → Rep x G v → Rep y G' v := by
  intro x y ps v h hp hx
  unfold vw at h
  split at h
  · obtain ⟨vs, h1, h2⟩ := hx; exact ⟨vs, h1, vws_ok hle hown h hp h2⟩
  · obtain ⟨vs, h1, h2⟩ := hx; exact ⟨vs, h1, vws_ok hle hown h hp h2⟩
  · rename_i k sz α enc l
    cases b
    · cases h
    · simp only [cond_true] at h
      split at h
      · rename_i sz' β enc' l' E hl
        simp only [Option.some.injEq] at h; subst h
        simp only [Alls, and_true] at hp
        rw [hp]; exact hown rfl _ _ _ _ _ _ _ hl hx
      · cases h
  · split at h
    · simp only [Option.some.injEq] at h; subst h
      simp only [Alls, and_true] at hp
      rename_i α enc l _
      have : l = [] := List.eq_nil_of_length_eq_zero hp
      subst this
      simp only [Rep] at hx; subst hx
      exact ⟨none, 0, rfl, by simp, by simp, .inl rfl⟩
    · cases h
  · exact trivial
  · simp only [Option.some.injEq] at h; subst h
    simp only [Alls, and_true] at hp
    rw [hp]; exact hx.le hle
theorem vws_ok {b : Bool} {hp : List (Nat × Box)} {G G' : Gh} (hle : G.le G') (hown : b = true → ∀ k sz (α : Type) (enc : α → List AV) (l : List α) E v, look hp k = some (.row sz enc l E) → Rep (.own k) G v → Rep (.sl sz enc l) G' v) :
    ∀ {xs ys : List AV} {ps : List Prop} {vs : List Value}, vws b hp xs ys = some ps → Alls ps → Reps xs G vs → Reps ys G' vs := by
  intro xs ys ps vs h hp hx
  unfold vws at h
  split at h
  · match vs, hx with
    | [], _ => trivial
  · split at h
    · rename_i ps1 h1
      split at h
      · rename_i ps2 h2
        simp only [Option.some.injEq] at h; subst h
        obtain ⟨p1, p2⟩ := Alls_append.1 hp
        match vs, hx with
        | v :: vs, hx => exact ⟨vw_ok hle hown h1 p1 hx.1, vws_ok hle hown h2 p2 hx.2⟩
      · cases h
    · cases h
  · cases h
end

mutual
theorem noRef_ok {G G' : Gh} (hb : ∀ n B, G.box n = some B → G'.box n = some B) (ho : ∀ n B, G.own n = some B → G'.own n = some B) : ∀ {x : AV} {v : Value}, noRef x = true → Rep x G v → Rep x G' v
  | .undef, _, _, _ => trivial
  | .int _ _, _, _, h => h
  | .byte _, _, _, h => h
  | .bool _, _, _, h => h
  | .str _, _, _, h => h
  | .val _, _, _, h => h
  | .sl _ _ _, _, hn, _ => by simp [noRef] at hn
  | .rop _, _, hn, _ => by simp [noRef] at hn
  | .agg cs, _, hn, ⟨vs, h1, h2⟩ => ⟨vs, h1, noRefs_ok hb ho (by simpa [noRef] using hn) h2⟩
  | .tup cs, _, hn, ⟨vs, h1, h2⟩ => ⟨vs, h1, noRefs_ok hb ho (by simpa [noRef] using hn) h2⟩
  | .ptr _ _, _, _, ⟨B, h1, h2⟩ => ⟨B, hb _ _ h1, h2⟩
  | .own _, _, _, ⟨a, n, c, h1, h2⟩ => ⟨a, n, c, ho _ _ h1, h2⟩
  | .oel _ _ _ _, _, _, ⟨b, n, c, h1, h2⟩ => ⟨b, n, c, ho _ _ h1, h2⟩
  | .fn f first cap, _, hn, ⟨fs, cs, h1, h2, h3⟩ => by
    simp only [noRef, Bool.and_eq_true] at hn
    exact ⟨fs, cs, h1, noRefs_ok hb ho hn.1 h2, noRefs_ok hb ho hn.2 h3⟩
  | .iface t x, _, hn, ⟨u, h1, h2⟩ => ⟨u, h1, noRef_ok hb ho (by simpa [noRef] using hn) h2⟩
theorem noRefs_ok {G G' : Gh} (hb : ∀ n B, G.box n = some B → G'.box n = some B) (ho : ∀ n B, G.own n = some B → G'.own n = some B) : ∀ {xs : List AV} {vs : List Value}, noRefs xs = true → Reps xs G vs → Reps xs G' vs
  | [], [], _, _ => trivial
  | x :: xs, v :: vs, hn, h => by
    simp only [noRefs, Bool.and_eq_true] at hn
    exact ⟨noRef_ok hb ho hn.1 h.1, noRefs_ok hb ho hn.2 h.2⟩
  | [], _ :: _, _, h => h.elim
  | _ :: _, [], _, h => h.elim
end
theorem noRefs_flat {α : Type} {enc : α → List AV} : ∀ {l : List α}, (∀ x ∈ l, noRefs (enc x) = true) → noRefs (l.flatMap enc) = true
  | [], _ => rfl
  | x :: l, h => by
    have h1 := h x List.mem_cons_self
    have h2 := noRefs_flat (l := l) (fun y hy => h y (List.mem_cons_of_mem _ hy))
    rw [List.flatMap_cons]
    revert h1
    generalize enc x = xs
    induction xs with
    | nil => intro _; exact h2
    | cons y ys ih =>
      intro h1
      simp only [noRefs, Bool.and_eq_true] at h1
      simp only [List.cons_append, noRefs, Bool.and_eq_true]
      exact ⟨h1.1, ih h1.2⟩
theorem noRefHp_look : ∀ {hp : List (Nat × Box)}, Alls (noRefHp hp) → ∀ n bx, look hp n = some bx → (match bx with | .cells cs _ => noRefs cs = true | .row _ enc l _ => ∀ x ∈ l, noRefs (enc x) = true | .dead => True)
  | [], _, n, bx, h => by cases h
  | (k, b) :: r, ha, n, bx, h => by
    simp only [look] at h
    cases hb : Nat.beq k n
    · rw [hb] at h
      have : Alls (noRefHp r) := by cases b <;> simp only [noRefHp, Alls] at ha <;> first | exact ha.2 | exact ha
      exact noRefHp_look this n bx h
    · rw [hb] at h; simp only [cond_true, Option.some.injEq] at h; subst h
      cases b <;> simp only [noRefHp, Alls] at ha
      · exact ha.1
      · exact ha.1
      · trivial

section
variable {P : Program} {w₀ : World} {G₀ : Gh} {hp₀ : List (Nat × Box)} {G : Gh} {s : St} {a : Act} {w : World}

/-- a result that refers to no memory of others does not hang on what was seen as data -/
theorem Post.unfreeze {Gz : Gh} {r : AV} {hp' : List (Nat × Box)} {e : Ending} {w' : World} (hz : ∀ b o, Gz.imm b o ≠ G.imm b o → ∀ o', G.imm b o' = none) (h : Post w Gz [] r hp' e w') (hn : noRef r = true) (hnp : Alls (noRefHp hp')) : Post w G [] r hp' e w' := by
  obtain ⟨v, G1, he, hf, hv⟩ := h
  have hnb : ∀ (G : Gh) b, ¬ blocks G [] b := fun G b ⟨n, bx, h, _⟩ => by cases h
  let G2 : Gh := { imm := fun b o => open Classical in if ∃ o', Gz.imm b o' ≠ G.imm b o' then none else G1.imm b o, box := G1.box, own := G1.own }
  have himm : ∀ b o v, G2.imm b o = some v → G1.imm b o = some v ∧ ¬ ∃ o', Gz.imm b o' ≠ G.imm b o' := fun b o v h => by
    simp only [G2] at h
    split at h
    · cases h
    · rename_i hne; exact ⟨h, hne⟩
  refine ⟨v, G2, he, ⟨⟨fun b o v h => hf.mem.agree b o v (himm b o v h).1, fun b o v h => hf.mem.one b o v (himm b o v h).1, fun n bx hb => ?_, fun n m bx bx' b h1 h2 h3 h4 => ?_⟩, ⟨hf.bel.os, hf.bel.tape, hf.bel.output, hf.bel.size, fun k hk _ => hf.bel.block k hk (hnb _ k)⟩, fun b o v h => ?_, fun b o v h => ?_, fun n bx b h1 h2 => ?_, fun n bx B h => by cases h⟩, noRef_ok (G := G1) (G' := G2) (fun _ _ h => h) (fun _ _ h => h) hn hv⟩
  · have hb' := hf.mem.holds n bx hb
    have hnr := noRefHp_look hnp n bx hb
    have hnone : ∀ B, (∀ o, G1.imm B o = none) → ∀ o, G2.imm B o = none := fun B h o => by
      cases hq : G2.imm B o with
      | none => rfl
      | some v => have := (himm B o v hq).1; rw [h] at this; cases this
    cases bx with
    | cells cs T =>
      obtain ⟨B, vs, h1, h2, h3, h4, h5⟩ := hb'
      exact ⟨B, vs, h1, h2, noRefs_ok (G := G1) (G' := G2) (fun _ _ h => h) (fun _ _ h => h) hnr h3, h4, hnone B h5⟩
    | row sz enc l E =>
      obtain ⟨ad, c, h1, h2, h3⟩ := hb'
      refine ⟨ad, c, h1, h2, ?_⟩
      rcases h3 with h3 | ⟨g, vs, fz, k1, k2, k3, k4, k5, k6, k7, k8, k9⟩
      · exact .inl h3
      · exact .inr ⟨g, vs, fz, k1, k2, k3, k4, k5, k6, noRefs_ok (G := G1.data) (G' := G2.data) (fun _ _ h => h) (fun _ _ h => h) (noRefs_flat hnr) k7, k8, hnone g k9⟩
    | dead => trivial
  · have e1 : ∀ n bx, G2.at n bx = G1.at n bx := fun n bx => by cases bx <;> rfl
    rw [e1] at h3 h4
    exact hf.mem.apart n m bx bx' b h1 h2 h3 h4
  · have hne : ¬ ∃ o', Gz.imm b o' ≠ G.imm b o' := fun ⟨o', ho'⟩ => by rw [hz b o' ho' o] at h; cases h
    have : Gz.imm b o = some v := by
      have : ¬ Gz.imm b o ≠ G.imm b o := fun e => hne ⟨o, e⟩
      rw [Classical.not_not.1 this]; exact h
    have h2 : G2.imm b o = G1.imm b o := by simp only [G2]; rw [if_neg hne]
    rw [h2]; exact hf.imm_le b o v this
  · obtain ⟨h1, h2⟩ := himm b o v h
    rcases hf.imm_new b o v h1 with h | h | h
    · have : ¬ Gz.imm b o ≠ G.imm b o := fun e => h2 ⟨o, e⟩
      rw [Classical.not_not.1 this] at h; exact .inl h
    · exact .inr (.inl h)
    · exact absurd h (hnb _ b)
  · have e1 : G2.at n bx = G1.at n bx := by cases bx <;> rfl
    rw [e1] at h2
    rcases hf.base n bx b h1 h2 with h | h
    · exact .inl h
    · exact absurd h (hnb _ b)

/-- all own slices seen as data -/
def inRow (G : Gh) (hp : List (Nat × Box)) (b o : Nat) : Prop := ∃ n, ∃ (sz : Nat) (α : Type) (enc : α → List AV) (l : List α) (E : TypeId), look hp n = some (.row sz enc l E) ∧ G.at n (.row sz enc l E) = some b ∧ o < l.length * sz
noncomputable def Gh.allData (G : Gh) (hp : List (Nat × Box)) (w : World) : Gh :=
  { imm := fun b o => open Classical in match G.imm b o with | some v => some v | none => if inRow G hp b o then w.cell? ⟨b, o, none⟩ else none, box := G.box, own := G.own }
theorem repCells_of {Gz : Gh} (hle : ∀ b o v, G.imm b o = some v → Gz.imm b o = some v) : ∀ {xs : List AV} {us : List Value} {b o : Nat}, Reps xs G.data us → (∀ i u, us[i]? = some u → Gz.imm b (o + i) = some u) → RepCells xs Gz b o
  | [], _, _, _, _, _ => trivial
  | x :: xs, u :: us, b, o, h, hc => ⟨⟨u, by simpa using hc 0 u rfl, Rep.data_le hle h.1⟩, repCells_of hle h.2 (fun i v hv => by rw [show o + 1 + i = o + (i + 1) by omega]; exact hc (i + 1) v (by simpa using hv))⟩
  | _ :: _, [], _, _, h, _ => h.elim
theorem allData_spec (hf : Fin w₀ G₀ hp₀ G s.hp w) : G.le (G.allData s.hp w) ∧ Mem (G.allData s.hp w) [] w ∧ (∀ b o, (G.allData s.hp w).imm b o ≠ G.imm b o → ∀ o', G.imm b o' = none) ∧
    (∀ k sz (α : Type) (enc : α → List AV) (l : List α) E v, look s.hp k = some (.row sz enc l E) → Rep (.own k) G v → Rep (.sl sz enc l) (G.allData s.hp w) v) := by
  have himm : ∀ b o v, G.imm b o = some v → (G.allData s.hp w).imm b o = some v := fun b o v h => by
    show (match G.imm b o with | some v => some v | none => _) = _; rw [h]
  have hrow : ∀ b o, inRow G s.hp b o → (∀ o', G.imm b o' = none) ∧ ∃ v, w.cell? ⟨b, o, none⟩ = some v ∧ v.oneCell' = true := fun b o ⟨n, sz, α, enc, l, E, h1, h2, h3⟩ => by
    obtain ⟨ad, c, k1, k2, k3⟩ := hf.mem.holds _ _ h1
    rcases k3 with ⟨rfl, _⟩ | ⟨g, vs, fz, rfl, m2, m3, m4, m5, m6, m7, m8, m9⟩
    · simp only [Gh.at, k1] at h2; cases h2
    · simp only [Gh.at, k1, Option.some.injEq] at h2; subst h2
      have hlt : o < vs.size := by rw [m6]; exact Nat.lt_of_lt_of_le h3 (Nat.mul_le_mul_right _ m4)
      exact ⟨m9, vs[o], cell_of_heap m2 (by simp [hlt]), m8 _ (by simp)⟩
  have hget : ∀ b o v, (G.allData s.hp w).imm b o = some v → G.imm b o = some v ∨ (G.imm b o = none ∧ inRow G s.hp b o ∧ w.cell? ⟨b, o, none⟩ = some v) := fun b o v h => by
    simp only [Gh.allData] at h
    cases hq : G.imm b o with
    | some u => rw [hq] at h; exact .inl h
    | none =>
      rw [hq] at h
      simp only at h
      split at h
      · rename_i hin; exact .inr ⟨rfl, hin, h⟩
      · cases h
  refine ⟨⟨himm, fun _ _ h => h, fun _ _ h => h⟩, ⟨fun b o v h => ?_, fun b o v h => ?_, fun n bx h => (by cases h), fun n m bx bx' b h => (by cases h)⟩, fun b o hne => ?_, ?_⟩
  · rcases hget b o v h with h | ⟨_, _, h⟩
    · exact hf.mem.agree b o v h
    · exact h
  · rcases hget b o v h with h | ⟨_, hin, h⟩
    · exact hf.mem.one b o v h
    · obtain ⟨u, hu, hu1⟩ := (hrow b o hin).2
      rw [h] at hu; injection hu with hu; subst hu; exact hu1
  · cases hq : (G.allData s.hp w).imm b o with
    | none =>
      cases hg : G.imm b o with
      | none => rw [hq, hg] at hne; exact absurd rfl hne
      | some v => rw [himm b o v hg] at hq; cases hq
    | some v =>
      rcases hget b o v hq with h | ⟨_, hin, _⟩
      · rw [hq, h] at hne; exact absurd rfl hne
      · exact (hrow b o hin).1
  · intro k sz α enc l E v hl hv
    obtain ⟨ad, n, c, ho, rfl⟩ := hv
    obtain ⟨ad', c', k1, k2, k3⟩ := hf.mem.holds _ _ hl
    rw [ho] at k1; simp only [Option.some.injEq, Prod.mk.injEq] at k1
    obtain ⟨rfl, rfl, rfl⟩ := k1
    rcases k3 with ⟨rfl, rfl, rfl⟩ | ⟨g, vs, fz, rfl, m2, m3, m4, m5, m6, m7, m8, m9⟩
    · exact ⟨none, 0, rfl, by simp, by simp, .inl rfl⟩
    · refine ⟨_, c, rfl, m4, k2, .inr ⟨g, 0, rfl, fun j x hx => ?_⟩⟩
      have hr1 := reps_take sz (reps_drop (j * sz) m7)
      rw [flatMap_drop k2 hx] at hr1
      refine repCells_of himm hr1 (fun i u hu => ?_)
      rw [List.getElem?_take] at hu
      split at hu
      · rename_i hi
        rw [List.getElem?_drop, List.getElem?_take] at hu
        split at hu
        · rename_i hlt
          have hc := cell_of_heap m2 hu
          have hin : inRow G s.hp g (0 + j * sz + i) := ⟨k, sz, α, enc, l, E, hl, by simp [Gh.at, ho], by omega⟩
          show (match G.imm g (0 + j * sz + i) with | some v => some v | none => _) = _
          rw [m9]
          simp only
          rw [if_pos hin, Nat.zero_add]; exact hc
        · cases hu
      · cases hu
end
end Go.Sym
