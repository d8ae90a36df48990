/- Opening the arguments of the laws: a turn, a zone, a date by value. -/
import Derived.Test.YtlfafgmhjplbeaaRows
import Derived.WalkKit
import Derived.ProofKit
import Derived.OpenShut
import Derived.ShutString
import Derived.ChangeOld
import Derived.Below
namespace Go.Proofs.Ytlfafgmhjplbeaa
open Go.ChangeShapes Go.WideShapes Go.ChangeAt Go.RowKit

section
variable {H : Type} {enc : TypeId × Value → H} {w : World} {base : Nat} {spare : Nat → Bool} {held : Bool}
/-- an int: its bounds -/
theorem i64_bd {n : Int} (h : (Lit.int .i64 n).wf = true) : -9223372036854775808 ≤ n ∧ n ≤ 9223372036854775807 := by
  simp only [Lit.wf, Bool.and_eq_true, decide_eq_true_eq] at h
  exact ⟨h.1, h.2⟩
theorem list4 {α : Type} {l : List α} (h : l.length = 4) : ∃ a b c d, l = [a, b, c, d] := by
  match l, h with
  | [a, b, c, d], _ => exact ⟨a, b, c, d, rfl⟩
theorem list7 {α : Type} {l : List α} (h : l.length = 7) : ∃ a b c d e f g, l = [a, b, c, d, e, f, g] := by
  match l, h with
  | [a, b, c, d, e, f, g], _ => exact ⟨a, b, c, d, e, f, g, rfl⟩
set_option maxRecDepth 10000 in
theorem list11 {α : Type} {l : List α} (h : l.length = 11) : ∃ a b c d e f g i j k m, l = [a, b, c, d, e, f, g, i, j, k, m] := by
  match l, h with
  | [a, b, c, d, e, f, g, i, j, k, m], _ => exact ⟨a, b, c, d, e, f, g, i, j, k, m, rfl⟩

/-- four cells that read as a turn -/
theorem cells_turn {fuel : Nat} {c0 c1 c2 c3 : Value} {x : DataW H × List MemPlace} (h : DataW.trod enc Try.prog w base spare held fuel 23 [c0, c1, c2, c3] = some x) :
    ∃ a b c d : Int, c0 = .int .i64 a ∧ c1 = .int .i64 b ∧ c2 = .int .i64 c ∧ c3 = .int .i64 d := by
  obtain ⟨xs, n, _, _, _, hlen, hg⟩ := DataW.trod_struct Try.underlying23 h
  have k3 : Try.prog.cellsOf 3 = 1 := by kernel_rfl
  obtain ⟨y0, y1, y2, y3, rfl⟩ := list4 hlen
  have e0 := hg 0 _ rfl; have e1 := hg 1 _ rfl; have e2 := hg 2 _ rfl; have e3 := hg 3 _ rfl
  simp [k3] at e0 e1 e2 e3
  obtain ⟨a, ha, _⟩ := DataW.trod_int Try.underlying3 e0
  obtain ⟨b, hb, _⟩ := DataW.trod_int Try.underlying3 e1
  obtain ⟨c, hc, _⟩ := DataW.trod_int Try.underlying3 e2
  obtain ⟨d, hd, _⟩ := DataW.trod_int Try.underlying3 e3
  simp at ha hb hc hd
  exact ⟨a, b, c, d, ha, hb, hc, hd⟩
theorem list5 {α : Type} {l : List α} (h : l.length = 5) : ∃ a b c d e, l = [a, b, c, d, e] := by
  match l, h with
  | [a, b, c, d, e], _ => exact ⟨a, b, c, d, e, rfl⟩
set_option maxRecDepth 100000 in
theorem open_zone {r : Reach} {bb : Nat} {v : Value} {d : DataW H} {p : List MemPlace} (hv : Value.okWide Try.prog w r bb 25 v) (h : DataW.Trod enc Try.prog w base spare held 25 v d p) :
    ∃ (nm : ByteArray) (std sm b0 b1 b2 b3 e0 e1 e2 e3 : Int), v = .agg #[.string nm, .int .i64 std, .int .i64 sm, .int .i64 b0, .int .i64 b1, .int .i64 b2, .int .i64 b3, .int .i64 e0, .int .i64 e1, .int .i64 e2, .int .i64 e3] ∧ nm.size ≤ maxLen := by
  obtain ⟨cs, rfl, hsz⟩ := okWide_struct Try.underlying25 hv
  have k25 : Try.prog.cellsOf 25 = 11 := by kernel_rfl
  rw [k25] at hsz
  obtain ⟨l⟩ := cs
  have hl : l.length = 11 := by simpa using hsz
  obtain ⟨c0, c1, c2, c3, c4, c5, c6, c7, c8, c9, c10, rfl⟩ := list11 hl
  obtain ⟨fuel, hf⟩ := h
  obtain ⟨xs, n, _, _, _, hlen, hg⟩ := DataW.trod_struct Try.underlying25 hf
  obtain ⟨y0, y1, y2, y3, y4, rfl⟩ := list5 hlen
  have f0 := hg 0 _ rfl; have f1 := hg 1 _ rfl; have f2 := hg 2 _ rfl; have f3 := hg 3 _ rfl; have f4 := hg 4 _ rfl
  have k3 : Try.prog.cellsOf 3 = 1 := by kernel_rfl
  have k9 : Try.prog.cellsOf 9 = 1 := by kernel_rfl
  have k4 : Try.prog.cellsOf 23 = 4 := by kernel_rfl
  simp [k3, k9, k4, Value.cells] at f0 f1 f2 f3 f4
  obtain ⟨nm, h0, _, hn⟩ := DataW.trod_string Try.underlying9 f0
  obtain ⟨std, h1, _⟩ := DataW.trod_int Try.underlying3 f1
  obtain ⟨sm, h2, _⟩ := DataW.trod_int Try.underlying3 f2
  obtain ⟨a, b, c, d', rfl, rfl, rfl, rfl⟩ := cells_turn f3
  obtain ⟨a', b', c', d'', rfl, rfl, rfl, rfl⟩ := cells_turn f4
  simp at h0 h1 h2
  subst h0 h1 h2
  exact ⟨nm, std, sm, a, b, c, d', a', b', c', d'', rfl, hn⟩
set_option maxRecDepth 100000 in
theorem open_date {r : Reach} {bb : Nat} {v : Value} {d : DataW H} {p : List MemPlace} (hv : Value.okWide Try.prog w r bb 34 v) (h : DataW.Trod enc Try.prog w base spare held 34 v d p) :
    ∃ (y m d h mi s z : Int), v = .agg #[.int .i64 y, .int .i64 m, .int .i64 d, .int .i64 h, .int .i64 mi, .int .i64 s, .int .i64 z] := by
  obtain ⟨cs, rfl, hsz⟩ := okWide_struct Try.underlying34 hv
  have k34 : Try.prog.cellsOf 34 = 7 := by kernel_rfl
  rw [k34] at hsz
  obtain ⟨l⟩ := cs
  have hl : l.length = 7 := by simpa using hsz
  obtain ⟨c0, c1, c2, c3, c4, c5, c6, rfl⟩ := list7 hl
  obtain ⟨fuel, hf⟩ := h
  obtain ⟨xs, n, _, _, _, hlen, hg⟩ := DataW.trod_struct Try.underlying34 hf
  obtain ⟨y0, y1, y2, y3, y4, y5, y6, rfl⟩ := list7 hlen
  have f0 := hg 0 _ rfl; have f1 := hg 1 _ rfl; have f2 := hg 2 _ rfl; have f3 := hg 3 _ rfl; have f4 := hg 4 _ rfl; have f5 := hg 5 _ rfl; have f6 := hg 6 _ rfl
  have k3 : Try.prog.cellsOf 3 = 1 := by kernel_rfl
  simp [k3, Value.cells] at f0 f1 f2 f3 f4 f5 f6
  obtain ⟨a0, h0, _⟩ := DataW.trod_int Try.underlying3 f0
  obtain ⟨a1, h1, _⟩ := DataW.trod_int Try.underlying3 f1
  obtain ⟨a2, h2, _⟩ := DataW.trod_int Try.underlying3 f2
  obtain ⟨a3, h3, _⟩ := DataW.trod_int Try.underlying3 f3
  obtain ⟨a4, h4, _⟩ := DataW.trod_int Try.underlying3 f4
  obtain ⟨a5, h5, _⟩ := DataW.trod_int Try.underlying3 f5
  obtain ⟨a6, h6, _⟩ := DataW.trod_int Try.underlying3 f6
  simp at h0 h1 h2 h3 h4 h5 h6
  subst h0 h1 h2 h3 h4 h5 h6
  exact ⟨a0, a1, a2, a3, a4, a5, a6, rfl⟩
end
end Go.Proofs.Ytlfafgmhjplbeaa
