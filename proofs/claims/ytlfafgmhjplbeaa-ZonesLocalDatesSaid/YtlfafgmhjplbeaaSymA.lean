/- An abstract reading of Go values: plain data in place of memory. -/
import Derived.Below
import Derived.Calls
import Derived.KernelRfl
namespace Go.Sym
open Go.RowKit

/-- what is known of a value, as plain data -/
inductive AV : Type 1
  | undef
  | int (k : IntKind) (n : Int)
  | byte (c : UInt8)
  | bool (b : Bool)
  | str (s : List UInt8)
  /-- a slice whose cells do not change: reads as l, each element in sz cells -/
  | sl (sz : Nat) {α : Type} (enc : α → List AV) (l : List α)
  | agg (cs : List AV)
  | tup (vs : List AV)
  /-- a pointer into the box of that name -/
  | ptr (b off : Nat)
  /-- a pointer to cells that do not change -/
  | rop (cs : List AV)
  /-- the slice of the call's own of that name -/
  | own (k : Nat)
  /-- a pointer to the cell off of the element i (of sz cells) of the slice of that name -/
  | oel (k sz i off : Nat)
  | val (v : Value)
  | fn (f : Fn) (first cap : List AV)
  | iface (t : TypeId) (x : AV)

/-- ghosts: the cells that do not change; where the boxes lie; which values the own slices have -/
structure Gh where
  imm : Nat → Nat → Option Value
  box : Nat → Option Nat
  own : Nat → Option (Option Addr × Nat × Nat)

def Gh.data (G : Gh) : Gh := { imm := G.imm, box := fun _ => none, own := fun _ => none }
@[simp] theorem Gh.data_data (G : Gh) : G.data.data = G.data := rfl
@[simp] theorem Gh.data_imm (G : Gh) : G.data.imm = G.imm := rfl

mutual
def Rep : AV → Gh → Value → Prop
  | .undef, _, _ => True
  | .int k n, _, v => v = .int k n
  | .byte c, _, v => v = .int .u8 c.toNat
  | .bool b, _, v => v = .bool b
  | .str s, _, v => v = .string ⟨s.toArray⟩
  | .sl sz enc l, G, v => ∃ a c, v = .slice a l.length c ∧ l.length ≤ c ∧ (∀ x ∈ l, (enc x).length = sz) ∧
      (l = [] ∨ ∃ b o, a = some ⟨b, o, none⟩ ∧ ∀ j x, l[j]? = some x → RepCells (enc x) G b (o + j * sz))
  | .agg cs, G, v => ∃ vs, v = .agg vs ∧ Reps cs G vs.toList
  | .tup cs, G, v => ∃ vs, v = .tuple vs ∧ Reps cs G vs.toList
  | .ptr b off, G, v => ∃ B, G.box b = some B ∧ v = .pointer (some ⟨B, off, none⟩)
  | .rop cs, G, v => ∃ b o, v = .pointer (some ⟨b, o, none⟩) ∧ RepCells cs G b o
  | .own k, G, v => ∃ a n c, G.own k = some (a, n, c) ∧ v = .slice a n c
  | .oel k sz i off, G, v => ∃ b n c, G.own k = some (some ⟨b, 0, none⟩, n, c) ∧ v = .pointer (some ⟨b, i * sz + off, none⟩)
  | .val u, _, v => v = u
  | .fn f first cap, G, v => ∃ fs cs, v = .func f fs cs ∧ Reps first G fs.toList ∧ Reps cap G cs.toList
  | .iface t x, G, v => ∃ u, v = .iface t u ∧ Rep x G u
def Reps : List AV → Gh → List Value → Prop
  | [], _, [] => True
  | x :: xs, G, v :: vs => Rep x G v ∧ Reps xs G vs
  | _, _, _ => False
def RepCells : List AV → Gh → Nat → Nat → Prop
  | [], _, _, _ => True
  | x :: xs, G, b, o => (∃ u, G.imm b o = some u ∧ Rep x G.data u) ∧ RepCells xs G b (o + 1)
end

/-- G' knows all that G knows -/
structure Gh.le (G G' : Gh) : Prop where
  imm : ∀ b o v, G.imm b o = some v → G'.imm b o = some v
  box : ∀ n B, G.box n = some B → G'.box n = some B
  own : ∀ n s, G.own n = some s → G'.own n = some s
theorem Gh.le.refl (G : Gh) : G.le G := ⟨fun _ _ _ h => h, fun _ _ h => h, fun _ _ h => h⟩
theorem Gh.le.trans {G G' G'' : Gh} (h : G.le G') (k : G'.le G'') : G.le G'' :=
  ⟨fun _ _ _ x => k.imm _ _ _ (h.imm _ _ _ x), fun _ _ x => k.box _ _ (h.box _ _ x), fun _ _ x => k.own _ _ (h.own _ _ x)⟩
theorem Gh.le.data {G G' : Gh} (h : G.le G') : G.data.le G'.data := ⟨h.imm, fun _ _ x => (by cases x), fun _ _ x => (by cases x)⟩

/- renaming of boxes and own slices; what has no new name is forgotten -/
mutual
def AV.ren (ρ : Nat → Option Nat) : AV → AV
  | .agg cs => .agg (AV.rens ρ cs)
  | .tup cs => .tup (AV.rens ρ cs)
  | .ptr b off => match ρ b with | some b' => .ptr b' off | none => .undef
  | .own k => match ρ k with | some k' => .own k' | none => .undef
  | .oel k sz i off => match ρ k with | some k' => .oel k' sz i off | none => .undef
  | .fn f first cap => .fn f (AV.rens ρ first) (AV.rens ρ cap)
  | .iface t x => .iface t (AV.ren ρ x)
  | .undef => .undef | .int k n => .int k n | .byte c => .byte c | .bool b => .bool b | .str s => .str s | .sl sz enc l => .sl sz enc l | .rop cs => .rop cs | .val v => .val v
def AV.rens (ρ : Nat → Option Nat) : List AV → List AV
  | [] => []
  | x :: xs => AV.ren ρ x :: AV.rens ρ xs
end

theorem Reps.length : ∀ {xs : List AV} {G : Gh} {vs : List Value}, Reps xs G vs → xs.length = vs.length
  | [], _, [], _ => rfl
  | _ :: xs, _, _ :: vs, h => by simp [Reps.length (xs := xs) (vs := vs) h.2]
  | [], _, _ :: _, h => h.elim
  | _ :: _, _, [], h => h.elim

theorem RepCells.mono {G G' : Gh} (hd : ∀ x v, Rep x G.data v → Rep x G'.data v) (hi : ∀ b o v, G.imm b o = some v → G'.imm b o = some v) : ∀ {xs : List AV} {b o : Nat}, RepCells xs G b o → RepCells xs G' b o
  | [], _, _, _ => trivial
  | x :: xs, b, o, ⟨⟨u, h1, h2⟩, h3⟩ => ⟨⟨u, hi _ _ _ h1, hd _ _ h2⟩, RepCells.mono hd hi h3⟩

mutual
theorem Rep.ren {ρ : Nat → Option Nat} : ∀ {x : AV} {G G' : Gh} {v : Value}, (∀ b o v, G.imm b o = some v → G'.imm b o = some v) →
    (∀ n n' B, ρ n = some n' → G.box n = some B → G'.box n' = some B) → (∀ n n' s, ρ n = some n' → G.own n = some s → G'.own n' = some s) → Rep x G v → Rep (x.ren ρ) G' v
  | .undef, _, _, _, _, _, _, _ => trivial
  | .int _ _, _, _, _, _, _, _, h => h
  | .byte _, _, _, _, _, _, _, h => h
  | .bool _, _, _, _, _, _, _, h => h
  | .str _, _, _, _, _, _, _, h => h
  | .val _, _, _, _, _, _, _, h => h
  | .sl sz enc l, G, G', v, hi, _, _, h => by
      obtain ⟨a, c, h1, h2, h3, h4⟩ := h
      refine ⟨a, c, h1, h2, h3, ?_⟩
      rcases h4 with h4 | ⟨b, o, h4, h5⟩
      · exact .inl h4
      · exact .inr ⟨b, o, h4, fun j x hx => RepCells.le hi (h5 j x hx)⟩
  | .agg cs, G, G', v, hi, hb, ho, h => by
      obtain ⟨vs, h1, h2⟩ := h
      exact ⟨vs, h1, Reps.ren hi hb ho h2⟩
  | .tup cs, G, G', v, hi, hb, ho, h => by
      obtain ⟨vs, h1, h2⟩ := h
      exact ⟨vs, h1, Reps.ren hi hb ho h2⟩
  | .ptr b off, G, G', v, hi, hb, ho, h => by
      obtain ⟨B, h1, h2⟩ := h
      simp only [AV.ren]
      cases hr : ρ b with
      | none => trivial
      | some b' => exact ⟨B, hb _ _ _ hr h1, h2⟩
  | .rop cs, G, G', v, hi, _, _, h => by
      obtain ⟨b, o, h1, h2⟩ := h
      exact ⟨b, o, h1, RepCells.le hi h2⟩
  | .own k, G, G', v, hi, hb, ho, h => by
      obtain ⟨a, n, c, h1, h2⟩ := h
      simp only [AV.ren]
      cases hr : ρ k with
      | none => trivial
      | some b' => exact ⟨a, n, c, ho _ _ _ hr h1, h2⟩
  | .oel k sz i off, G, G', v, hi, hb, ho, h => by
      obtain ⟨b, n, c, h1, h2⟩ := h
      simp only [AV.ren]
      cases hr : ρ k with
      | none => trivial
      | some b' => exact ⟨b, n, c, ho _ _ _ hr h1, h2⟩
  | .fn f first cap, G, G', v, hi, hb, ho, h => by
      obtain ⟨fs, cs, h1, h2, h3⟩ := h
      exact ⟨fs, cs, h1, Reps.ren hi hb ho h2, Reps.ren hi hb ho h3⟩
  | .iface t x, G, G', v, hi, hb, ho, h => by
      obtain ⟨u, h1, h2⟩ := h
      exact ⟨u, h1, Rep.ren hi hb ho h2⟩
theorem Reps.ren {ρ : Nat → Option Nat} : ∀ {xs : List AV} {G G' : Gh} {vs : List Value}, (∀ b o v, G.imm b o = some v → G'.imm b o = some v) →
    (∀ n n' B, ρ n = some n' → G.box n = some B → G'.box n' = some B) → (∀ n n' s, ρ n = some n' → G.own n = some s → G'.own n' = some s) → Reps xs G vs → Reps (AV.rens ρ xs) G' vs
  | [], _, _, [], _, _, _, _ => trivial
  | x :: xs, G, G', v :: vs, hi, hb, ho, h => ⟨Rep.ren hi hb ho h.1, Reps.ren hi hb ho h.2⟩
  | [], _, _, _ :: _, _, _, _, h => h.elim
  | _ :: _, _, _, [], _, _, _, h => h.elim
theorem RepCells.le : ∀ {xs : List AV} {G G' : Gh} {b o : Nat}, (∀ b o v, G.imm b o = some v → G'.imm b o = some v) → RepCells xs G b o → RepCells xs G' b o
  | [], _, _, _, _, _, _ => trivial
  | x :: xs, G, G', b, o, hi, ⟨⟨u, h1, h2⟩, h3⟩ => ⟨⟨u, hi _ _ _ h1, Rep.data_le hi h2⟩, RepCells.le hi h3⟩
theorem Rep.data_le : ∀ {x : AV} {G G' : Gh} {v : Value}, (∀ b o v, G.imm b o = some v → G'.imm b o = some v) → Rep x G.data v → Rep x G'.data v
  | .undef, _, _, _, _, _ => trivial
  | .int _ _, _, _, _, _, h => h
  | .byte _, _, _, _, _, h => h
  | .bool _, _, _, _, _, h => h
  | .str _, _, _, _, _, h => h
  | .val _, _, _, _, _, h => h
  | .sl sz enc l, G, G', v, hi, h => by
      obtain ⟨a, c, h1, h2, h3, h4⟩ := h
      refine ⟨a, c, h1, h2, h3, ?_⟩
      rcases h4 with h4 | ⟨b, o, h4, h5⟩
      · exact .inl h4
      · exact .inr ⟨b, o, h4, fun j x hx => RepCells.le (G := G.data) (G' := G'.data) hi (h5 j x hx)⟩
  | .agg cs, G, G', v, hi, h => by
      obtain ⟨vs, h1, h2⟩ := h
      exact ⟨vs, h1, Reps.data_le hi h2⟩
  | .tup cs, G, G', v, hi, h => by
      obtain ⟨vs, h1, h2⟩ := h
      exact ⟨vs, h1, Reps.data_le hi h2⟩
  | .ptr b off, G, G', v, hi, h => by
      obtain ⟨B, h1, h2⟩ := h
      cases h1
  | .rop cs, G, G', v, hi, h => by
      obtain ⟨b, o, h1, h2⟩ := h
      exact ⟨b, o, h1, RepCells.le (G := G.data) (G' := G'.data) hi h2⟩
  | .own k, G, G', v, hi, h => by
      obtain ⟨a, n, c, h1, h2⟩ := h
      cases h1
  | .oel k sz i off, G, G', v, hi, h => by
      obtain ⟨b, n, c, h1, h2⟩ := h
      cases h1
  | .fn f first cap, G, G', v, hi, h => by
      obtain ⟨fs, cs, h1, h2, h3⟩ := h
      exact ⟨fs, cs, h1, Reps.data_le hi h2, Reps.data_le hi h3⟩
  | .iface t x, G, G', v, hi, h => by
      obtain ⟨u, h1, h2⟩ := h
      exact ⟨u, h1, Rep.data_le hi h2⟩
theorem Reps.data_le : ∀ {xs : List AV} {G G' : Gh} {vs : List Value}, (∀ b o v, G.imm b o = some v → G'.imm b o = some v) → Reps xs G.data vs → Reps xs G'.data vs
  | [], _, _, [], _, _ => trivial
  | x :: xs, G, G', v :: vs, hi, h => ⟨Rep.data_le hi h.1, Reps.data_le hi h.2⟩
  | [], _, _, _ :: _, _, h => h.elim
  | _ :: _, _, _, [], _, h => h.elim
end

mutual
theorem AV.ren_some : ∀ (x : AV), AV.ren some x = x
  | .agg cs => by rw [AV.ren, AV.rens_some]
  | .tup cs => by rw [AV.ren, AV.rens_some]
  | .ptr _ _ => rfl
  | .own _ => rfl
  | .oel _ _ _ _ => rfl
  | .fn _ _ _ => by rw [AV.ren, AV.rens_some, AV.rens_some]
  | .iface _ x => by rw [AV.ren, AV.ren_some]
  | .undef => rfl | .int _ _ => rfl | .byte _ => rfl | .bool _ => rfl | .str _ => rfl | .sl _ _ _ => rfl | .rop _ => rfl | .val _ => rfl
theorem AV.rens_some : ∀ (xs : List AV), AV.rens some xs = xs
  | [] => rfl
  | x :: xs => by rw [AV.rens, AV.ren_some, AV.rens_some]
end
end Go.Sym
