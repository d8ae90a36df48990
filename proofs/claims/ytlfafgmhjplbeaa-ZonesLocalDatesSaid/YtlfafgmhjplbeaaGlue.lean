/- From the plain functions to the rows: what a call is known to hand back is what the row says. -/
import Derived.Test.YtlfafgmhjplbeaaSymZDer10
import Derived.Test.YtlfafgmhjplbeaaSymZPi
import Derived.Test.YtlfafgmhjplbeaaOpen
namespace Go.Proofs.Ytlfafgmhjplbeaa
open Go.ChangeShapes Go.WideShapes Go.ChangeAt Go.RowKit Go.Sym

theorem ownK : ownKnob Try.prog.godebug = none := by kernel_rfl
theorem laidOutK : laidOutB Try.prog = true := by kernel_rfl
def G0 : Gh := ⟨fun _ _ => none, fun _ => none, fun _ => none⟩
theorem walk_of {P : Program} {f : FuncId} {xs : List AV} (h : CallsTo P f xs [] (.bool true) []) (vs : List Value) (hr : Reps xs G0 vs) (w : World) :
    Calls P f vs.toArray w fun e w' => e = .returned (.bool true) ∧ Below w.heap.size w w' := by
  refine (h w G0 vs ⟨fun _ _ _ q => (by cases q), fun _ _ _ q => (by cases q), fun _ _ q => (by cases q), fun _ _ _ _ _ q => (by cases q)⟩ hr).mono ?_
  rintro e w' ⟨v, G, rfl, hfin, hrep⟩
  have hv : v = .bool true := hrep
  subst hv
  refine ⟨rfl, hfin.bel.os, hfin.bel.tape, hfin.bel.output, hfin.bel.size, fun k hk => hfin.bel.block k hk ?_⟩
  rintro ⟨n, bx, hl, _⟩
  cases hl
def mkZ (nm : ByteArray) (std sm b0 b1 b2 b3 e0 e1 e2 e3 : Int) : T_api_Zone := ⟨nm.data.toList, std, sm, ⟨b0, b1, b2, b3⟩, ⟨e0, e1, e2, e3⟩⟩
theorem rep_str (nm : ByteArray) (G : Gh) : Rep (.str nm.data.toList) G (.string nm) := by
  show Value.string nm = .string ⟨nm.data.toList.toArray⟩
  simp
theorem offset_walk (nm : ByteArray) (std sm b0 b1 b2 b3 e0 e1 e2 e3 t : Int) (hn : nm.size ≤ maxLen) (w : World) :
    Calls Try.prog 3 #[.agg #[.string nm, .int .i64 std, .int .i64 sm, .int .i64 b0, .int .i64 b1, .int .i64 b2, .int .i64 b3, .int .i64 e0, .int .i64 e1, .int .i64 e2, .int .i64 e3], .int .i64 t] w
      fun e w' => e = .returned (.bool true) ∧ Below w.heap.size w w' := by
  have hsz : nm.data.toList.length = nm.size := by rw [Array.length_toList]; rfl
  have hlen : (nm.data.toList.length : Int) < 9223372036854775808 := by rw [hsz]; unfold maxLen at hn; omega
  have hlaw := law_offset (nm.size + 6000) (by omega) (mkZ nm std sm b0 b1 b2 b3 e0 e1 e2 e3) hlen (by show nm.data.toList.length < _; omega) t (ex_ok _ (by omega))
  have hc := F_W2_ZonesOffsetMatchesSpec_ok _ _ _ _ hlaw
  exact walk_of hc [.agg #[.string nm, .int .i64 std, .int .i64 sm, .int .i64 b0, .int .i64 b1, .int .i64 b2, .int .i64 b3, .int .i64 e0, .int .i64 e1, .int .i64 e2, .int .i64 e3], .int .i64 t]
    ⟨⟨_, rfl, rep_str nm _, rfl, rfl, rfl, rfl, rfl, rfl, rfl, rfl, rfl, rfl, trivial⟩, rfl, trivial⟩ w
end Go.Proofs.Ytlfafgmhjplbeaa
