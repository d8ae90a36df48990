/- How derivations are put together: plain functions that may fail, beside states. -/
import Derived.Test.YtlfafgmhjplbeaaSymL
namespace Go.Sym
open Go.RowKit

def bodyOf (f : Func) : Code := match f.body with
  | some c => c
  | none => .skip
/-- a part of a body -/
def sub : Code → List Nat → Code
  | c, [] => c
  | .seq a _, 0 :: p => sub a p
  | .seq _ b, _ :: p => sub b p
  | .cond _ a _, 0 :: p => sub a p
  | .cond _ _ b, _ :: p => sub b p
  | .block _ a, _ :: p => sub a p
  | .loop a, _ :: p => sub a p
  | .scope a, _ :: p => sub a p
  | c, _ => c

def OkM (P : Program) (f : FuncId) (k : List Item) (s : St) {R : Type} (enc : R → AV × List (Nat × Box)) (m : Option R) : Prop := ∀ r, m = some r → Ok P f [] k s (enc r).1 (enc r).2

section
variable {P : Program} {f : FuncId} {k k' : List Item} {s s' : St} {R : Type} {enc : R → AV × List (Nat × Box)}
theorem OkM.bif {b : Bool} {m₁ m₂ : Option R} (h1 : b = true → OkM P f k s enc m₁) (h2 : b = false → OkM P f k s enc m₂) : OkM P f k s enc (bif b then m₁ else m₂) := by
  cases b
  · exact h2 rfl
  · exact h1 rfl
theorem OkM.bind {α : Type} {o : Option α} {m : α → Option R} (h : ∀ x, o = some x → OkM P f k s enc (m x)) : OkM P f k s enc (o.bind m) := by
  intro r hr
  cases o with
  | none => cases hr
  | some x => exact h x rfl r hr
theorem OkM.fail : OkM P f k s enc none := fun r h => by cases h
theorem OkM.guard {p : Prop} [Decidable p] {m : Option R} (h : p → OkM P f k s enc m) : OkM P f k s enc (if p then m else none) := by
  intro r hr
  split at hr
  · rename_i hp; exact h hp r hr
  · cases hr
theorem OkM.path {n : Nat} {rs : List RD} {names : List (Nat × Nat)} {live : List Nat} {ps : List Prop} {m : Option R} (h : apath P [] n rs k s names live = some (ps, k', s')) (hp : Alls ps) (ho : OkM P f k' s' enc m) : OkM P f k s enc m :=
  fun r hr => Ok.path h hp (ho r hr)
/-- to the end of the body -/
def afin (P : Program) (fn : Func) (n : Nat) (rs : List RD) (k : List Item) (s : St) (names : List (Nat × Nat)) (r : AV) : Option (List Prop × List Prop × List (Nat × Box)) :=
  match arun P n rs k s [] with
  | some (ps, k', s') => match aend P [] fn k' s' names r with
    | some (qs, hp) => some (ps, qs, hp)
    | none => none
  | none => none
theorem OkM.ret {fn : Func} (hfn : P.funcs[f]? = some fn) {n : Nat} {rs : List RD} {names : List (Nat × Nat)} {ps qs : List Prop} {x : R} (h : afin P fn n rs k s names (enc x).1 = some (ps, qs, (enc x).2)) (hp : Alls ps) (hq : Alls qs) : OkM P f k s enc (some x) := by
  intro r hr
  injection hr with hr
  subst hr
  unfold afin at h
  split at h
  · rename_i ps1 k1 s1 h1
    split at h
    · rename_i qs1 hp1 h2
      simp only [Option.some.injEq, Prod.mk.injEq] at h; obtain ⟨rfl, rfl, rfl⟩ := h
      exact (arun_ok n rs k s [] _ _ _ h1 hp).2 (Ok.ret hfn h2 hq)
    · cases h
  · cases h
theorem CallsTo.ofM {fn : Func} (hfn : P.funcs[f]? = some fn) (hb : fn.body = some (bodyOf fn)) {xs : List AV} (hlen : Nat.ble xs.length fn.ntmps = true) {m : Option R} (h : OkM P f [.code (bodyOf fn)] (init fn.ntmps xs []) enc m) (hx : ∀ ρ : Nat → Option Nat, AV.rens ρ xs = xs) {r : R} (hr : m = some r) : CallsTo P f xs [] (enc r).1 (enc r).2 :=
  CallsTo.of hfn hb hlen (h r hr) hx
end

def idx {α : Type} (l : List α) (n : Int) : Option α := if 0 ≤ n then l[n.toNat]? else none
theorem idx_some {α : Type} {l : List α} {n : Int} {x : α} (h : idx l n = some x) : 0 ≤ n ∧ l[n.toNat]? = some x := by
  unfold idx at h
  split at h
  · rename_i h0; exact ⟨h0, h⟩
  · cases h
theorem idx_ex {α : Type} {l : List α} {n : Int} {x : α} {enc : α → List AV} (h : idx l n = some x) : 0 ≤ n ∧ ∃ y, l[n.toNat]? = some y ∧ enc y = enc x := ⟨(idx_some h).1, x, (idx_some h).2, rfl⟩
theorem idx_lt {α : Type} {l : List α} {n : Int} {x : α} (h : idx l n = some x) : 0 ≤ n ∧ n.toNat < l.length := ⟨(idx_some h).1, (List.getElem?_eq_some_iff.1 (idx_some h).2).1⟩
theorem idx_el {α : Type} {l : List α} {n : Int} {x : α} {enc : α → List AV} (h : idx l n = some x) : ∃ y, l[n.toNat]? = some y ∧ enc y = enc x := ⟨x, (idx_some h).2, rfl⟩

theorem idx_byte {α : Type} {l : List α} {c : UInt8} {x : α} (h : idx l (c.toNat : Int) = some x) : l[c.toNat]? = some x := by
  have := (idx_some h).2
  rwa [Int.toNat_natCast] at this
theorem idx_flat {α : Type} {l : List α} {n : Int} {x : α} {enc : α → List AV} {f : α → AV} (he : ∀ y, enc y = [f y]) (h : idx l n = some x) : 0 ≤ n ∧ (l.flatMap enc)[n.toNat]? = some (f x) := by
  refine ⟨(idx_some h).1, ?_⟩
  have : l.flatMap enc = l.map f := by
    rw [show enc = fun y => [f y] from funext he]
    clear h
    induction l with
    | nil => rfl
    | cons y l ih => rw [List.flatMap_cons, ih]; rfl
  rw [this, List.getElem?_map, (idx_some h).2]; rfl
def w64 (n : Int) : Int := IntKind.i64.wrap n
def encI (n : Int) : List AV := [.int .i64 n]
def encS (s : List UInt8) : List AV := [.str s]
theorem flat_app {α : Type} {enc : α → List AV} {l m : List α} : (l ++ m).flatMap enc = l.flatMap enc ++ m.flatMap enc := List.flatMap_append
theorem flat_appB {l m : List UInt8} : (l ++ m).flatMap encB = l.flatMap encB ++ m.map AV.byte := by rw [flat_app, flat_encB m]
theorem flat_nil {α : Type} {enc : α → List AV} {m : List α} : m.flatMap enc = [] ++ m.flatMap enc := rfl
theorem flat_nilB {m : List UInt8} : m.flatMap encB = [] ++ m.map AV.byte := flat_encB m
/-- what the sort comes to -/
def sorted (zs : List Int) : List Int := zs.mergeSort fun x y => decide (x ≤ y)
theorem sorted_length (zs : List Int) : (sorted zs).length = zs.length := List.length_mergeSort _
end Go.Sym
