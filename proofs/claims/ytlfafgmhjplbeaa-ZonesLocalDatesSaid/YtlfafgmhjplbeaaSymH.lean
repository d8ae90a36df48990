/- Operations that make new memory. -/
import Derived.Test.YtlfafgmhjplbeaaSymG
namespace Go.Sym
open Go.RowKit

theorem look_append (l r : List (Nat × Box)) (n : Nat) : look (l ++ r) n = match look l n with | some b => some b | none => look r n := by
  induction l with
  | nil => rfl
  | cons x l ih =>
    obtain ⟨k, v⟩ := x
    simp only [List.cons_append, look]
    cases Nat.beq k n <;> simp [ih]
theorem noRange_look {lo : Nat} : ∀ {hp : List (Nat × Box)}, noRange lo hp = true → ∀ m, lo ≤ m → m < lo + 16 → look hp m = none
  | [], _, m, _, _ => rfl
  | (n, b) :: r, h, m, h1, h2 => by
    simp only [noRange, Bool.and_eq_true, Bool.or_eq_true, Nat.blt_eq, Nat.ble_eq] at h
    simp only [look]
    cases hb : Nat.beq n m
    · simpa using noRange_look h.2 m h1 h2
    · have := Nat.eq_of_beq_eq_true hb; omega

section
variable {P : Program} {w₀ : World} {G₀ : Gh} {hp₀ : List (Nat × Box)} {G : Gh} {s : St} {a : Act} {w : World}

theorem BoxOk.mono {G' : Gh} {w' : World} (hle : G.le G') (hblk : ∀ b, b < w.heap.size → w'.heap[b]? = w.heap[b]?) (hi : ∀ b o v, G'.imm b o = some v → G.imm b o = some v ∨ w.heap.size ≤ b) {n : Nat} {bx : Box} (h : BoxOk G w n bx) : BoxOk G' w' n bx := by
  have hlt : ∀ {B : Nat} {o : Obj}, w.heap[B]? = some o → B < w.heap.size := fun h => (Array.getElem?_eq_some_iff.1 h).1
  have him : ∀ B, B < w.heap.size → (∀ o, G.imm B o = none) → ∀ o, G'.imm B o = none := fun B hB h0 o => by
    cases hq : G'.imm B o with
    | none => rfl
    | some v => rcases hi _ _ _ hq with h | h
                · rw [h0] at h; cases h
                · omega
  cases bx with
  | cells cs T =>
    obtain ⟨B, vs, h1, h2, h3, h4, h5⟩ := h
    exact ⟨B, vs, hle.box _ _ h1, by rw [hblk _ (hlt h2)]; exact h2, h3.le hle, h4, him _ (hlt h2) h5⟩
  | row sz enc l E =>
    obtain ⟨ad, c, h1, h2, h3⟩ := h
    refine ⟨ad, c, hle.own _ _ h1, h2, ?_⟩
    rcases h3 with h3 | ⟨g, vs, fz, k1, k2, k3, k4, k5, k6, k7, k8, k9⟩
    · exact .inl h3
    · exact .inr ⟨g, vs, fz, k1, by rw [hblk _ (hlt k2)]; exact k2, k3, k4, k5, k6, Reps.data_le hle.imm k7, k8, him _ (hlt k2) k9⟩
  | dead => trivial
theorem BoxOk.at_some {n : Nat} {bx : Box} (h : BoxOk G w n bx) {b : Nat} (hb : G.at n bx = some b) : b < w.heap.size := by
  have hlt : ∀ {B : Nat} {o : Obj}, w.heap[B]? = some o → B < w.heap.size := fun h => (Array.getElem?_eq_some_iff.1 h).1
  cases bx with
  | cells cs T =>
    obtain ⟨B, vs, h1, h2, _⟩ := h
    simp only [Gh.at, h1, Option.some.injEq] at hb; subst hb; exact hlt h2
  | row sz enc l E =>
    obtain ⟨ad, c, h1, h2, h3⟩ := h
    rcases h3 with ⟨h3, _⟩ | ⟨g, vs, fz, k1, k2, _⟩
    · subst h3; simp only [Gh.at, h1] at hb; cases hb
    · subst k1; simp only [Gh.at, h1, Option.some.injEq] at hb; subst hb; exact hlt k2
  | dead => cases hb
theorem BoxOk.at_le {G' : Gh} {n : Nat} {bx : Box} (h : BoxOk G w n bx) (hle : G.le G') : G'.at n bx = G.at n bx := by
  cases bx with
  | cells cs T =>
    obtain ⟨B, vs, h1, _⟩ := h
    simp only [Gh.at, h1, hle.box _ _ h1]
  | row sz enc l E =>
    obtain ⟨ad, c, h1, _⟩ := h
    simp only [Gh.at, h1, hle.own _ _ h1]
  | dead => rfl

/-- nothing that was there has turned -/
def Still (w w' : World) : Prop := Bel (fun _ => False) w w'

/-- new memory beside the old -/
theorem Fin.extend {hp new : List (Nat × Box)} (hf : Fin w₀ G₀ hp₀ G hp w) {G' : Gh} {w' : World} (hle : G.le G') (hst : Still w w') (hi : ∀ b o v, G'.imm b o = some v → G.imm b o = some v ∨ w.heap.size ≤ b)
    (hag : ∀ b o v, G'.imm b o = some v → w'.cell? ⟨b, o, none⟩ = some v) (hone : ∀ b o v, G'.imm b o = some v → v.oneCell' = true)
    (hdis : ∀ n bx, look new n = some bx → look hp n = none)
    (hnew : ∀ n bx, look new n = some bx → BoxOk G' w' n bx ∧ ∀ b, G'.at n bx = some b → w.heap.size ≤ b)
    (hap : ∀ n m bx bx' b, look new n = some bx → look new m = some bx' → G'.at n bx = some b → G'.at m bx' = some b → n = m) : Fin w₀ G₀ hp₀ G' (new ++ hp) w' := by
  have hblk : ∀ b, b < w.heap.size → w'.heap[b]? = w.heap[b]? := fun b hb => hst.block b hb (fun h => h)
  have hlk : ∀ n bx, look (new ++ hp) n = some bx → look new n = some bx ∨ (look new n = none ∧ look hp n = some bx) := fun n bx h => by
    rw [look_append] at h
    cases hq : look new n with
    | some b' => rw [hq] at h; exact .inl h
    | none => rw [hq] at h; exact .inr ⟨rfl, h⟩
  have hsz := hf.bel.size
  refine ⟨⟨hag, hone, ?_, ?_⟩, ?_, fun b o v h => hle.imm _ _ _ (hf.imm_le _ _ _ h), ?_, ?_, fun n bx B h1 h2 => hle.box _ _ (hf.keep n bx B h1 h2)⟩
  · intro n bx h
    rcases hlk n bx h with h | ⟨_, h⟩
    · exact (hnew n bx h).1
    · exact (hf.mem.holds n bx h).mono hle hblk hi
  · intro n m bx bx' b h1 h2 h3 h4
    rcases hlk n bx h1 with h1 | ⟨_, h1⟩ <;> rcases hlk m bx' h2 with h2 | ⟨_, h2⟩
    · exact hap n m bx bx' b h1 h2 h3 h4
    · have k1 := (hnew n bx h1).2 b h3
      rw [(hf.mem.holds m bx' h2).at_le hle] at h4
      have k2 := (hf.mem.holds m bx' h2).at_some h4
      omega
    · have k1 := (hnew m bx' h2).2 b h4
      rw [(hf.mem.holds n bx h1).at_le hle] at h3
      have k2 := (hf.mem.holds n bx h1).at_some h3
      omega
    · rw [(hf.mem.holds n bx h1).at_le hle] at h3
      rw [(hf.mem.holds m bx' h2).at_le hle] at h4
      exact hf.mem.apart n m bx bx' b h1 h2 h3 h4
  · exact ⟨hst.os.trans hf.bel.os, hst.tape.trans hf.bel.tape, hst.output.trans hf.bel.output, Nat.le_trans hsz hst.size, fun k hk hS => by
      rw [hblk k (Nat.lt_of_lt_of_le hk hsz)]; exact hf.bel.block k hk hS⟩
  · intro b o v h
    rcases hi b o v h with h | h
    · exact hf.imm_new b o v h
    · exact .inr (.inl (Nat.le_trans hsz h))
  · intro n bx b h1 h2
    rcases hlk n bx h1 with h1 | ⟨_, h1⟩
    · exact .inl (Nat.le_trans hsz ((hnew n bx h1).2 b h2))
    · rw [(hf.mem.holds n bx h1).at_le hle] at h2
      exact hf.base n bx b h1 h2

/-- the frame behind an operation -/
theorem Rel.put (hr : Rel w₀ G₀ hp₀ G s a w) {G' : Gh} {w' : World} {dst : Option Tmp} {v : AV} {u : Value} {new : List (Nat × Box)} {s' : St} (hs : s.add dst v new = some s') (hle : G.le G')
    (hfr : ∀ m, s.nx ≤ m → look (new ++ s.hp) m = none → G'.box m = none ∧ G'.own m = none) (hv : Rep v G' u) (hf : Fin w₀ G₀ hp₀ G' (new ++ s.hp) w') : Rel w₀ G₀ hp₀ G' s' (a.put dst u) w' := by
  cases dst with
  | none =>
    simp only [St.add, Option.some.injEq] at hs; subst hs
    exact ⟨hr.defers, hr.size, fun i x hx => by obtain ⟨v, h1, h2⟩ := hr.frame i x hx; exact ⟨v, h1, h2.le hle⟩, hfr, hf⟩
  | some d =>
    simp only [St.add] at hs
    cases hb : Nat.blt d s.n <;> rw [hb] at hs <;> simp only [cond_true, cond_false, reduceCtorEq, Option.some.injEq] at hs
    subst hs
    have hd : d < s.n := by simpa using hb
    refine ⟨hr.defers, by simp [Act.put, hr.size], fun i x hx => ?_, hfr, hf⟩
    simp only [look] at hx
    cases he : Nat.beq d i
    · rw [he] at hx; simp only [cond_false] at hx
      have hne : d ≠ i := fun e => by subst e; simp at he
      obtain ⟨v, h1, h2⟩ := hr.frame i x hx
      exact ⟨v, by simp [Act.put, Array.getElem?_setIfInBounds, hne, h1], h2.le hle⟩
    · rw [he] at hx; simp only [cond_true, Option.some.injEq] at hx; subst hx
      have := Nat.eq_of_beq_eq_true he; subst this
      exact ⟨u, by simp [Act.put, hr.size, hd], hv⟩
theorem St.add_nil (s : St) : ({ s with hp := [] ++ s.hp } : St) = s := rfl
theorem aval_rel (hr : Rel w₀ G₀ hp₀ G s a w) {dst : Option Tmp} {v : AV} {u : Value} {s' : St} (hs : s.add dst v [] = some s') (hv : Rep v G u) : Rel w₀ G₀ hp₀ G s' (a.put dst u) w :=
  hr.put hs (Gh.le.refl G) hr.fresh hv hr.fin
end
end Go.Sym
