/-
  No cell of these rows narrows 'for every input' (looked for: loops, veiled, ifaces, maps, wideKeys, modest, calm, conditions, laid).
  DERIVED. THE GIVEN ROWS OF THIS SEAT. 11 by the template 'for every input the law returns true; each argument reads behind the call as it read before'; 0 by the template 'total and deterministic' (their statements: YtlfafgmhjplbeaaTotals.lean).
  GIVEN WITH THE SEED: the statements are not yours to turn. If you find one false, say at which input.
  Laid BY PROGRAM, IN A SANDBOX (cutbox-rows.mjs): the forced cells as the released guide's own fill.sh prints them over the translation 2c1ec668f8485d4b… (all of the seat's roots in one cut). By AI agents, Wed Nov 11 2026. No macro, syntax, notation, axiom, sorry.
-/
import Derived.Test.YtlfafgmhjplbeaaChecked
import GoSem.Claim
import GoSem.ClaimJoined
import GoSem.ClaimMapViews
import Derived.JoinedTies
import Derived.KernelRfl
namespace Go.Proofs.Ytlfafgmhjplbeaa
/- THE CELL 'sum', in the pinned program and in every row, IS THE sha256 OF THE DUMP (.gsa) THAT YtlfafgmhjplbeaaProg.lean LOADS. Nothing in Lean hashes anything: it is a label: what it is worth is what the hold of that sum in a sandbox is worth. -/
noncomputable def Try.pinned : Pinned := { name := "ytlfafgmhjplbeaa", sum := "2c1ec668f8485d4b7c0f9bc61e55a2b1bf713c13b42d49d71cb10227009916ee", checked := Try.checked }
namespace Rows
def none {H : Type} : Left H := { results := [], args := [] }

/-- 'posthouselaw2.ZonesOffsetMatchesSpec': WHATEVER THE INPUT: true; the input reads as it did. -/
def zonesOffsetMatchesSpecSpec : ChangeSpec := { name := "zonesOffsetMatchesSpec", fn := fun _ => fun
  | [d1, d2] => { results := [.lit (.bool true)], args := [d1, d2] }
  | _ => none }
def zonesOffsetMatchesSpecRow : OpenClaim := { program := "ytlfafgmhjplbeaa", sum := "2c1ec668f8485d4b7c0f9bc61e55a2b1bf713c13b42d49d71cb10227009916ee", func := "posthouse/posthouselaw2.ZonesOffsetMatchesSpec", spec := "zonesOffsetMatchesSpec", unfollowed := true, recurses := true, apart := false }
def ZonesOffsetMatchesSpecSaid : Prop := zonesOffsetMatchesSpecRow.holds Try.pinned (OpenSpec.ofChange zonesOffsetMatchesSpecSpec)

/-- ITS FALSE NEIGHBOUR: 'it returns false'. Refute it at one input. -/
def zonesOffsetMatchesSpecWrong : ChangeSpec := { name := "zonesOffsetMatchesSpec", fn := fun _ => fun
  | [d1, d2] => { results := [.lit (.bool false)], args := [d1, d2] }
  | _ => none }
def ZonesOffsetMatchesSpecWrongFalsely : Prop := zonesOffsetMatchesSpecRow.holds Try.pinned (OpenSpec.ofChange zonesOffsetMatchesSpecWrong)

/-- 'posthouselaw2.ZonesInstantsMatchesSpec': WHATEVER THE INPUT: true; the input reads as it did. -/
def zonesInstantsMatchesSpecSpec : ChangeSpec := { name := "zonesInstantsMatchesSpec", fn := fun _ => fun
  | [d1, d2] => { results := [.lit (.bool true)], args := [d1, d2] }
  | _ => none }
def zonesInstantsMatchesSpecRow : OpenClaim := { program := "ytlfafgmhjplbeaa", sum := "2c1ec668f8485d4b7c0f9bc61e55a2b1bf713c13b42d49d71cb10227009916ee", func := "posthouse/posthouselaw2.ZonesInstantsMatchesSpec", spec := "zonesInstantsMatchesSpec", unfollowed := true, recurses := true, apart := false }
def ZonesInstantsMatchesSpecSaid : Prop := zonesInstantsMatchesSpecRow.holds Try.pinned (OpenSpec.ofChange zonesInstantsMatchesSpecSpec)

/-- ITS FALSE NEIGHBOUR: 'it returns false'. Refute it at one input. -/
def zonesInstantsMatchesSpecWrong : ChangeSpec := { name := "zonesInstantsMatchesSpec", fn := fun _ => fun
  | [d1, d2] => { results := [.lit (.bool false)], args := [d1, d2] }
  | _ => none }
def ZonesInstantsMatchesSpecWrongFalsely : Prop := zonesInstantsMatchesSpecRow.holds Try.pinned (OpenSpec.ofChange zonesInstantsMatchesSpecWrong)

/-- 'posthouselaw2.ZonesLocalDates': WHATEVER THE INPUT: true; the input reads as it did. -/
def zonesLocalDatesSpec : ChangeSpec := { name := "zonesLocalDates", fn := fun _ => fun
  | [d1, d2] => { results := [.lit (.bool true)], args := [d1, d2] }
  | _ => none }
def zonesLocalDatesRow : OpenClaim := { program := "ytlfafgmhjplbeaa", sum := "2c1ec668f8485d4b7c0f9bc61e55a2b1bf713c13b42d49d71cb10227009916ee", func := "posthouse/posthouselaw2.ZonesLocalDates", spec := "zonesLocalDates", unfollowed := true, recurses := true, apart := false }
def ZonesLocalDatesSaid : Prop := zonesLocalDatesRow.holds Try.pinned (OpenSpec.ofChange zonesLocalDatesSpec)

/-- ITS FALSE NEIGHBOUR: 'it returns false'. Refute it at one input. -/
def zonesLocalDatesWrong : ChangeSpec := { name := "zonesLocalDates", fn := fun _ => fun
  | [d1, d2] => { results := [.lit (.bool false)], args := [d1, d2] }
  | _ => none }
def ZonesLocalDatesWrongFalsely : Prop := zonesLocalDatesRow.holds Try.pinned (OpenSpec.ofChange zonesLocalDatesWrong)

/-- 'posthouselaw2.ZonesFixed': WHATEVER THE INPUT: true; the input reads as it did. -/
def zonesFixedSpec : ChangeSpec := { name := "zonesFixed", fn := fun _ => fun
  | [d1, d2, d3, d4] => { results := [.lit (.bool true)], args := [d1, d2, d3, d4] }
  | _ => none }
def zonesFixedRow : OpenClaim := { program := "ytlfafgmhjplbeaa", sum := "2c1ec668f8485d4b7c0f9bc61e55a2b1bf713c13b42d49d71cb10227009916ee", func := "posthouse/posthouselaw2.ZonesFixed", spec := "zonesFixed", unfollowed := true, recurses := true, apart := false }
def ZonesFixedSaid : Prop := zonesFixedRow.holds Try.pinned (OpenSpec.ofChange zonesFixedSpec)

/-- ITS FALSE NEIGHBOUR: 'it returns false'. Refute it at one input. -/
def zonesFixedWrong : ChangeSpec := { name := "zonesFixed", fn := fun _ => fun
  | [d1, d2, d3, d4] => { results := [.lit (.bool false)], args := [d1, d2, d3, d4] }
  | _ => none }
def ZonesFixedWrongFalsely : Prop := zonesFixedRow.holds Try.pinned (OpenSpec.ofChange zonesFixedWrong)

/-- 'posthouselaw2.ZonesTurns': WHATEVER THE INPUT: true; the input reads as it did. -/
def zonesTurnsSpec : ChangeSpec := { name := "zonesTurns", fn := fun _ => fun
  | [d1, d2] => { results := [.lit (.bool true)], args := [d1, d2] }
  | _ => none }
def zonesTurnsRow : OpenClaim := { program := "ytlfafgmhjplbeaa", sum := "2c1ec668f8485d4b7c0f9bc61e55a2b1bf713c13b42d49d71cb10227009916ee", func := "posthouse/posthouselaw2.ZonesTurns", spec := "zonesTurns", unfollowed := true, recurses := true, apart := false }
def ZonesTurnsSaid : Prop := zonesTurnsRow.holds Try.pinned (OpenSpec.ofChange zonesTurnsSpec)

/-- ITS FALSE NEIGHBOUR: 'it returns false'. Refute it at one input. -/
def zonesTurnsWrong : ChangeSpec := { name := "zonesTurns", fn := fun _ => fun
  | [d1, d2] => { results := [.lit (.bool false)], args := [d1, d2] }
  | _ => none }
def ZonesTurnsWrongFalsely : Prop := zonesTurnsRow.holds Try.pinned (OpenSpec.ofChange zonesTurnsWrong)

/-- 'posthouselaw2.RecurBetweenMatchesSpec': WHATEVER THE INPUT: true; the input reads as it did. -/
def recurBetweenMatchesSpecSpec : ChangeSpec := { name := "recurBetweenMatchesSpec", fn := fun _ => fun
  | [d1, d2, d3, d4, d5] => { results := [.lit (.bool true)], args := [d1, d2, d3, d4, d5] }
  | _ => none }
def recurBetweenMatchesSpecRow : OpenClaim := { program := "ytlfafgmhjplbeaa", sum := "2c1ec668f8485d4b7c0f9bc61e55a2b1bf713c13b42d49d71cb10227009916ee", func := "posthouse/posthouselaw2.RecurBetweenMatchesSpec", spec := "recurBetweenMatchesSpec", unfollowed := true, recurses := true, apart := false }
def RecurBetweenMatchesSpecSaid : Prop := recurBetweenMatchesSpecRow.holds Try.pinned (OpenSpec.ofChange recurBetweenMatchesSpecSpec)

/-- ITS FALSE NEIGHBOUR: 'it returns false'. Refute it at one input. -/
def recurBetweenMatchesSpecWrong : ChangeSpec := { name := "recurBetweenMatchesSpec", fn := fun _ => fun
  | [d1, d2, d3, d4, d5] => { results := [.lit (.bool false)], args := [d1, d2, d3, d4, d5] }
  | _ => none }
def RecurBetweenMatchesSpecWrongFalsely : Prop := recurBetweenMatchesSpecRow.holds Try.pinned (OpenSpec.ofChange recurBetweenMatchesSpecWrong)

/-- 'posthouselaw2.RecurRangesJoin': WHATEVER THE INPUT: true; the input reads as it did. -/
def recurRangesJoinSpec : ChangeSpec := { name := "recurRangesJoin", fn := fun _ => fun
  | [d1, d2, d3, d4, d5, d6] => { results := [.lit (.bool true)], args := [d1, d2, d3, d4, d5, d6] }
  | _ => none }
def recurRangesJoinRow : OpenClaim := { program := "ytlfafgmhjplbeaa", sum := "2c1ec668f8485d4b7c0f9bc61e55a2b1bf713c13b42d49d71cb10227009916ee", func := "posthouse/posthouselaw2.RecurRangesJoin", spec := "recurRangesJoin", unfollowed := true, recurses := true, apart := false }
def RecurRangesJoinSaid : Prop := recurRangesJoinRow.holds Try.pinned (OpenSpec.ofChange recurRangesJoinSpec)

/-- ITS FALSE NEIGHBOUR: 'it returns false'. Refute it at one input. -/
def recurRangesJoinWrong : ChangeSpec := { name := "recurRangesJoin", fn := fun _ => fun
  | [d1, d2, d3, d4, d5, d6] => { results := [.lit (.bool false)], args := [d1, d2, d3, d4, d5, d6] }
  | _ => none }
def RecurRangesJoinWrongFalsely : Prop := recurRangesJoinRow.holds Try.pinned (OpenSpec.ofChange recurRangesJoinWrong)

/-- 'posthouselaw2.RecurLocalTime': WHATEVER THE INPUT: true; the input reads as it did. -/
def recurLocalTimeSpec : ChangeSpec := { name := "recurLocalTime", fn := fun _ => fun
  | [d1, d2, d3, d4, d5] => { results := [.lit (.bool true)], args := [d1, d2, d3, d4, d5] }
  | _ => none }
def recurLocalTimeRow : OpenClaim := { program := "ytlfafgmhjplbeaa", sum := "2c1ec668f8485d4b7c0f9bc61e55a2b1bf713c13b42d49d71cb10227009916ee", func := "posthouse/posthouselaw2.RecurLocalTime", spec := "recurLocalTime", unfollowed := true, recurses := true, apart := false }
def RecurLocalTimeSaid : Prop := recurLocalTimeRow.holds Try.pinned (OpenSpec.ofChange recurLocalTimeSpec)

/-- ITS FALSE NEIGHBOUR: 'it returns false'. Refute it at one input. -/
def recurLocalTimeWrong : ChangeSpec := { name := "recurLocalTime", fn := fun _ => fun
  | [d1, d2, d3, d4, d5] => { results := [.lit (.bool false)], args := [d1, d2, d3, d4, d5] }
  | _ => none }
def RecurLocalTimeWrongFalsely : Prop := recurLocalTimeRow.holds Try.pinned (OpenSpec.ofChange recurLocalTimeWrong)

/-- 'posthouselaw2.RecurExceptions': WHATEVER THE INPUT: true; the input reads as it did. -/
def recurExceptionsSpec : ChangeSpec := { name := "recurExceptions", fn := fun _ => fun
  | [d1, d2, d3, d4, d5, d6] => { results := [.lit (.bool true)], args := [d1, d2, d3, d4, d5, d6] }
  | _ => none }
def recurExceptionsRow : OpenClaim := { program := "ytlfafgmhjplbeaa", sum := "2c1ec668f8485d4b7c0f9bc61e55a2b1bf713c13b42d49d71cb10227009916ee", func := "posthouse/posthouselaw2.RecurExceptions", spec := "recurExceptions", unfollowed := true, recurses := true, apart := false }
def RecurExceptionsSaid : Prop := recurExceptionsRow.holds Try.pinned (OpenSpec.ofChange recurExceptionsSpec)

/-- ITS FALSE NEIGHBOUR: 'it returns false'. Refute it at one input. -/
def recurExceptionsWrong : ChangeSpec := { name := "recurExceptions", fn := fun _ => fun
  | [d1, d2, d3, d4, d5, d6] => { results := [.lit (.bool false)], args := [d1, d2, d3, d4, d5, d6] }
  | _ => none }
def RecurExceptionsWrongFalsely : Prop := recurExceptionsRow.holds Try.pinned (OpenSpec.ofChange recurExceptionsWrong)

/-- 'posthouselaw2.RecurCounts': WHATEVER THE INPUT: true; the input reads as it did. -/
def recurCountsSpec : ChangeSpec := { name := "recurCounts", fn := fun _ => fun
  | [d1, d2, d3, d4] => { results := [.lit (.bool true)], args := [d1, d2, d3, d4] }
  | _ => none }
def recurCountsRow : OpenClaim := { program := "ytlfafgmhjplbeaa", sum := "2c1ec668f8485d4b7c0f9bc61e55a2b1bf713c13b42d49d71cb10227009916ee", func := "posthouse/posthouselaw2.RecurCounts", spec := "recurCounts", unfollowed := true, recurses := true, apart := false }
def RecurCountsSaid : Prop := recurCountsRow.holds Try.pinned (OpenSpec.ofChange recurCountsSpec)

/-- ITS FALSE NEIGHBOUR: 'it returns false'. Refute it at one input. -/
def recurCountsWrong : ChangeSpec := { name := "recurCounts", fn := fun _ => fun
  | [d1, d2, d3, d4] => { results := [.lit (.bool false)], args := [d1, d2, d3, d4] }
  | _ => none }
def RecurCountsWrongFalsely : Prop := recurCountsRow.holds Try.pinned (OpenSpec.ofChange recurCountsWrong)

/-- 'posthouselaw2.RecurWeekly': WHATEVER THE INPUT: true; the input reads as it did. -/
def recurWeeklySpec : ChangeSpec := { name := "recurWeekly", fn := fun _ => fun
  | [d1, d2, d3, d4, d5] => { results := [.lit (.bool true)], args := [d1, d2, d3, d4, d5] }
  | _ => none }
def recurWeeklyRow : OpenClaim := { program := "ytlfafgmhjplbeaa", sum := "2c1ec668f8485d4b7c0f9bc61e55a2b1bf713c13b42d49d71cb10227009916ee", func := "posthouse/posthouselaw2.RecurWeekly", spec := "recurWeekly", unfollowed := true, recurses := true, apart := false }
def RecurWeeklySaid : Prop := recurWeeklyRow.holds Try.pinned (OpenSpec.ofChange recurWeeklySpec)

/-- ITS FALSE NEIGHBOUR: 'it returns false'. Refute it at one input. -/
def recurWeeklyWrong : ChangeSpec := { name := "recurWeekly", fn := fun _ => fun
  | [d1, d2, d3, d4, d5] => { results := [.lit (.bool false)], args := [d1, d2, d3, d4, d5] }
  | _ => none }
def RecurWeeklyWrongFalsely : Prop := recurWeeklyRow.holds Try.pinned (OpenSpec.ofChange recurWeeklyWrong)

/- THE SECOND FORM. 'bulk': how many values and letters a reading holds, each counted each time it is reached (what is shared counts as often as it is met; a slice's spare places count too). A statement '..UptoSaid' is the law's where the arguments, and the package variables that the reading takes, are together of bulk at most 1048576: NARROWER than '..Said'. Prove '..Said' where nothing that the law and all that it calls make is longer than what came in: it says more and counts as full. Else prove '..UptoSaid'. A law counts once. -/
mutual
def uptoBulk {H : Type} : DataW H → Nat
  | .lit (.string bytes) => bytes.length + 1
  | .lit _ => 1
  | .nil => 1
  | .ptr d => uptoBulk d + 1
  | .slice elems spare => uptoBulkAll elems + uptoBulkAll spare + 1
  | .agg parts => uptoBulkAll parts + 1
  | .iface _ d => uptoBulk d + 1
  | .map entries => uptoBulkEntries entries + 1
  | .held _ => 1
def uptoBulkAll {H : Type} : List (DataW H) → Nat
  | [] => 0
  | d :: r => uptoBulk d + uptoBulkAll r
def uptoBulkEntries {H : Type} : List (Lit × DataW H) → Nat
  | [] => 0
  | x :: r => uptoBulkEntry x + uptoBulkEntries r
def uptoBulkEntry {H : Type} : Lit × DataW H → Nat
  | (.string bytes, d) => bytes.length + uptoBulk d + 1
  | (_, d) => uptoBulk d + 1
 end
def uptoSmall : (H : Type) → List (DataW H) → Bool := fun _ ds => decide (uptoBulkAll ds ≤ 1048576)
def OpenSpec.upto (s : _root_.Go.ChangeSpec) : _root_.Go.OpenSpec := { _root_.Go.OpenSpec.ofChange s with cond := some uptoSmall }

/-- 'posthouselaw2.ZonesOffsetMatchesSpec', WHERE WHAT IT READS IS OF BULK AT MOST 1048576: true; the input reads as it did. -/
def zonesOffsetMatchesSpecUptoRow : OpenClaim := { program := "ytlfafgmhjplbeaa", sum := "2c1ec668f8485d4b7c0f9bc61e55a2b1bf713c13b42d49d71cb10227009916ee", func := "posthouse/posthouselaw2.ZonesOffsetMatchesSpec", spec := "zonesOffsetMatchesSpec", unfollowed := true, recurses := true, apart := false, narrowed := true }
def ZonesOffsetMatchesSpecUptoSaid : Prop := zonesOffsetMatchesSpecUptoRow.holds Try.pinned (OpenSpec.upto zonesOffsetMatchesSpecSpec)

/-- 'posthouselaw2.ZonesInstantsMatchesSpec', WHERE WHAT IT READS IS OF BULK AT MOST 1048576: true; the input reads as it did. -/
def zonesInstantsMatchesSpecUptoRow : OpenClaim := { program := "ytlfafgmhjplbeaa", sum := "2c1ec668f8485d4b7c0f9bc61e55a2b1bf713c13b42d49d71cb10227009916ee", func := "posthouse/posthouselaw2.ZonesInstantsMatchesSpec", spec := "zonesInstantsMatchesSpec", unfollowed := true, recurses := true, apart := false, narrowed := true }
def ZonesInstantsMatchesSpecUptoSaid : Prop := zonesInstantsMatchesSpecUptoRow.holds Try.pinned (OpenSpec.upto zonesInstantsMatchesSpecSpec)

/-- 'posthouselaw2.ZonesLocalDates', WHERE WHAT IT READS IS OF BULK AT MOST 1048576: true; the input reads as it did. -/
def zonesLocalDatesUptoRow : OpenClaim := { program := "ytlfafgmhjplbeaa", sum := "2c1ec668f8485d4b7c0f9bc61e55a2b1bf713c13b42d49d71cb10227009916ee", func := "posthouse/posthouselaw2.ZonesLocalDates", spec := "zonesLocalDates", unfollowed := true, recurses := true, apart := false, narrowed := true }
def ZonesLocalDatesUptoSaid : Prop := zonesLocalDatesUptoRow.holds Try.pinned (OpenSpec.upto zonesLocalDatesSpec)

/-- 'posthouselaw2.ZonesFixed', WHERE WHAT IT READS IS OF BULK AT MOST 1048576: true; the input reads as it did. -/
def zonesFixedUptoRow : OpenClaim := { program := "ytlfafgmhjplbeaa", sum := "2c1ec668f8485d4b7c0f9bc61e55a2b1bf713c13b42d49d71cb10227009916ee", func := "posthouse/posthouselaw2.ZonesFixed", spec := "zonesFixed", unfollowed := true, recurses := true, apart := false, narrowed := true }
def ZonesFixedUptoSaid : Prop := zonesFixedUptoRow.holds Try.pinned (OpenSpec.upto zonesFixedSpec)

/-- 'posthouselaw2.ZonesTurns', WHERE WHAT IT READS IS OF BULK AT MOST 1048576: true; the input reads as it did. -/
def zonesTurnsUptoRow : OpenClaim := { program := "ytlfafgmhjplbeaa", sum := "2c1ec668f8485d4b7c0f9bc61e55a2b1bf713c13b42d49d71cb10227009916ee", func := "posthouse/posthouselaw2.ZonesTurns", spec := "zonesTurns", unfollowed := true, recurses := true, apart := false, narrowed := true }
def ZonesTurnsUptoSaid : Prop := zonesTurnsUptoRow.holds Try.pinned (OpenSpec.upto zonesTurnsSpec)

/-- 'posthouselaw2.RecurBetweenMatchesSpec', WHERE WHAT IT READS IS OF BULK AT MOST 1048576: true; the input reads as it did. -/
def recurBetweenMatchesSpecUptoRow : OpenClaim := { program := "ytlfafgmhjplbeaa", sum := "2c1ec668f8485d4b7c0f9bc61e55a2b1bf713c13b42d49d71cb10227009916ee", func := "posthouse/posthouselaw2.RecurBetweenMatchesSpec", spec := "recurBetweenMatchesSpec", unfollowed := true, recurses := true, apart := false, narrowed := true }
def RecurBetweenMatchesSpecUptoSaid : Prop := recurBetweenMatchesSpecUptoRow.holds Try.pinned (OpenSpec.upto recurBetweenMatchesSpecSpec)

/-- 'posthouselaw2.RecurRangesJoin', WHERE WHAT IT READS IS OF BULK AT MOST 1048576: true; the input reads as it did. -/
def recurRangesJoinUptoRow : OpenClaim := { program := "ytlfafgmhjplbeaa", sum := "2c1ec668f8485d4b7c0f9bc61e55a2b1bf713c13b42d49d71cb10227009916ee", func := "posthouse/posthouselaw2.RecurRangesJoin", spec := "recurRangesJoin", unfollowed := true, recurses := true, apart := false, narrowed := true }
def RecurRangesJoinUptoSaid : Prop := recurRangesJoinUptoRow.holds Try.pinned (OpenSpec.upto recurRangesJoinSpec)

/-- 'posthouselaw2.RecurLocalTime', WHERE WHAT IT READS IS OF BULK AT MOST 1048576: true; the input reads as it did. -/
def recurLocalTimeUptoRow : OpenClaim := { program := "ytlfafgmhjplbeaa", sum := "2c1ec668f8485d4b7c0f9bc61e55a2b1bf713c13b42d49d71cb10227009916ee", func := "posthouse/posthouselaw2.RecurLocalTime", spec := "recurLocalTime", unfollowed := true, recurses := true, apart := false, narrowed := true }
def RecurLocalTimeUptoSaid : Prop := recurLocalTimeUptoRow.holds Try.pinned (OpenSpec.upto recurLocalTimeSpec)

/-- 'posthouselaw2.RecurExceptions', WHERE WHAT IT READS IS OF BULK AT MOST 1048576: true; the input reads as it did. -/
def recurExceptionsUptoRow : OpenClaim := { program := "ytlfafgmhjplbeaa", sum := "2c1ec668f8485d4b7c0f9bc61e55a2b1bf713c13b42d49d71cb10227009916ee", func := "posthouse/posthouselaw2.RecurExceptions", spec := "recurExceptions", unfollowed := true, recurses := true, apart := false, narrowed := true }
def RecurExceptionsUptoSaid : Prop := recurExceptionsUptoRow.holds Try.pinned (OpenSpec.upto recurExceptionsSpec)

/-- 'posthouselaw2.RecurCounts', WHERE WHAT IT READS IS OF BULK AT MOST 1048576: true; the input reads as it did. -/
def recurCountsUptoRow : OpenClaim := { program := "ytlfafgmhjplbeaa", sum := "2c1ec668f8485d4b7c0f9bc61e55a2b1bf713c13b42d49d71cb10227009916ee", func := "posthouse/posthouselaw2.RecurCounts", spec := "recurCounts", unfollowed := true, recurses := true, apart := false, narrowed := true }
def RecurCountsUptoSaid : Prop := recurCountsUptoRow.holds Try.pinned (OpenSpec.upto recurCountsSpec)

/-- 'posthouselaw2.RecurWeekly', WHERE WHAT IT READS IS OF BULK AT MOST 1048576: true; the input reads as it did. -/
def recurWeeklyUptoRow : OpenClaim := { program := "ytlfafgmhjplbeaa", sum := "2c1ec668f8485d4b7c0f9bc61e55a2b1bf713c13b42d49d71cb10227009916ee", func := "posthouse/posthouselaw2.RecurWeekly", spec := "recurWeekly", unfollowed := true, recurses := true, apart := false, narrowed := true }
def RecurWeeklyUptoSaid : Prop := recurWeeklyUptoRow.holds Try.pinned (OpenSpec.upto recurWeeklySpec)

end Rows
end Go.Proofs.Ytlfafgmhjplbeaa
