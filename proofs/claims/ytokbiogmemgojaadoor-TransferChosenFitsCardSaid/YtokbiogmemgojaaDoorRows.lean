/-
  NARROWER THAN 'FOR EVERY INPUT', by the rows' own cells (each row's printed sentence says how): TransferEncodeMatchesSpec: laid · TransferDecodeMatchesSpec: laid · TransferChooseMatchesSpec: laid · TransferRoundTrip: laid · TransferChosenFits: laid.
  DERIVED. THE GIVEN ROWS OF THIS SEAT. 5 by the template 'for every input the law returns true; each argument reads behind the call as it read before'; 0 by the template 'total and deterministic' (their statements: YtokbiogmemgojaaDoorTotals.lean).
  GIVEN WITH THE SEED: the statements are not yours to turn. If you find one false, say at which input.
  Laid BY PROGRAM, IN A SANDBOX (cutbox-rows.mjs): the forced cells as the released guide's own fill.sh prints them over the translation 86d221a7e0fa860b… (all of the seat's roots in one cut). By AI agents, Wed Nov 11 2026. No macro, syntax, notation, axiom, sorry.
-/
import Derived.Test.YtokbiogmemgojaaDoorChecked
import GoSem.PinnedTables
import GoSem.Claim
import GoSem.ClaimJoined
import GoSem.ClaimMapViews
import Derived.JoinedTies
import Derived.KernelRfl
namespace Go.Proofs.YtokbiogmemgojaaDoor
/- THE CELL 'sum', in the pinned program and in every row, IS THE sha256 OF THE DUMP (.gsa) THAT YtokbiogmemgojaaDoorProg.lean LOADS. Nothing in Lean hashes anything: it is a label: what it is worth is what the hold of that sum in a sandbox is worth. -/
noncomputable def Tryd.pinned : Pinned := { name := "ytokbiogmemgojaadoor", sum := "86d221a7e0fa860b8352123165d55cf66a369bc70ee99a5ded570b30cc13d8dd", checked := Tryd.checked }
namespace Rows
def none {H : Type} : Left H := { results := [], args := [] }

/- WHAT THE LISTED PACKAGE-LEVEL VARIABLES READ AS WHEN THE CALL BEGINS. Each datum BY PROGRAM (the guide's laid-datum.mjs) off the statement by which the dump's own 'gosem.cut.vars' lays the variable. In a bare row this is a premise. The card (YtokbiogmemgojaaDoorCards.lean) ties it to the program's text. -/
def laid_unicode_utf8_acceptRanges {H : Type} : DataW H := .agg [.agg [.lit (.int .u8 128), .lit (.int .u8 191)], .agg [.lit (.int .u8 160), .lit (.int .u8 191)], .agg [.lit (.int .u8 128), .lit (.int .u8 159)], .agg [.lit (.int .u8 144), .lit (.int .u8 191)], .agg [.lit (.int .u8 128), .lit (.int .u8 143)], .agg [.lit (.int .u8 0), .lit (.int .u8 0)], .agg [.lit (.int .u8 0), .lit (.int .u8 0)], .agg [.lit (.int .u8 0), .lit (.int .u8 0)], .agg [.lit (.int .u8 0), .lit (.int .u8 0)], .agg [.lit (.int .u8 0), .lit (.int .u8 0)], .agg [.lit (.int .u8 0), .lit (.int .u8 0)], .agg [.lit (.int .u8 0), .lit (.int .u8 0)], .agg [.lit (.int .u8 0), .lit (.int .u8 0)], .agg [.lit (.int .u8 0), .lit (.int .u8 0)], .agg [.lit (.int .u8 0), .lit (.int .u8 0)], .agg [.lit (.int .u8 0), .lit (.int .u8 0)]]
/-- One of Go's own tables, pinned by name: the form's constant. -/
def laid_unicode_utf8_first : DataW Unit := Go.Pinned.utf8First

/-- 'posthouselaw2.TransferEncodeMatchesSpec': WHATEVER THE INPUT: true; the input reads as it did. -/
def transferEncodeMatchesSpecSpec : ChangeSpec := { name := "transferEncodeMatchesSpec", fn := fun _ => fun
  | [d1, d2] => { results := [.lit (.bool true)], args := [d1, d2] }
  | _ => none }
def transferEncodeMatchesSpecRow : OpenClaim := { program := "ytokbiogmemgojaadoor", sum := "86d221a7e0fa860b8352123165d55cf66a369bc70ee99a5ded570b30cc13d8dd", func := "posthouse/posthouselaw2.TransferEncodeMatchesSpec", spec := "transferEncodeMatchesSpec", inPlace := ["internal/bytealg.IndexByte"], unfollowed := true, recurses := true, named := ["unicode/utf8.first", "unicode/utf8.acceptRanges"], apart := false, laid := [("unicode/utf8.acceptRanges", laid_unicode_utf8_acceptRanges), ("unicode/utf8.first", laid_unicode_utf8_first)] }
def TransferEncodeMatchesSpecSaid : Prop := transferEncodeMatchesSpecRow.holds Tryd.pinned (OpenSpec.ofChange transferEncodeMatchesSpecSpec)

/-- ITS FALSE NEIGHBOUR: 'it returns false'. Refute it at one input. -/
def transferEncodeMatchesSpecWrong : ChangeSpec := { name := "transferEncodeMatchesSpec", fn := fun _ => fun
  | [d1, d2] => { results := [.lit (.bool false)], args := [d1, d2] }
  | _ => none }
def TransferEncodeMatchesSpecWrongFalsely : Prop := transferEncodeMatchesSpecRow.holds Tryd.pinned (OpenSpec.ofChange transferEncodeMatchesSpecWrong)

/-- 'posthouselaw2.TransferDecodeMatchesSpec': WHATEVER THE INPUT: true; the input reads as it did. -/
def transferDecodeMatchesSpecSpec : ChangeSpec := { name := "transferDecodeMatchesSpec", fn := fun _ => fun
  | [d1, d2] => { results := [.lit (.bool true)], args := [d1, d2] }
  | _ => none }
def transferDecodeMatchesSpecRow : OpenClaim := { program := "ytokbiogmemgojaadoor", sum := "86d221a7e0fa860b8352123165d55cf66a369bc70ee99a5ded570b30cc13d8dd", func := "posthouse/posthouselaw2.TransferDecodeMatchesSpec", spec := "transferDecodeMatchesSpec", inPlace := ["internal/bytealg.IndexByte"], unfollowed := true, recurses := true, named := ["unicode/utf8.first", "unicode/utf8.acceptRanges"], apart := false, laid := [("unicode/utf8.acceptRanges", laid_unicode_utf8_acceptRanges), ("unicode/utf8.first", laid_unicode_utf8_first)] }
def TransferDecodeMatchesSpecSaid : Prop := transferDecodeMatchesSpecRow.holds Tryd.pinned (OpenSpec.ofChange transferDecodeMatchesSpecSpec)

/-- ITS FALSE NEIGHBOUR: 'it returns false'. Refute it at one input. -/
def transferDecodeMatchesSpecWrong : ChangeSpec := { name := "transferDecodeMatchesSpec", fn := fun _ => fun
  | [d1, d2] => { results := [.lit (.bool false)], args := [d1, d2] }
  | _ => none }
def TransferDecodeMatchesSpecWrongFalsely : Prop := transferDecodeMatchesSpecRow.holds Tryd.pinned (OpenSpec.ofChange transferDecodeMatchesSpecWrong)

/-- 'posthouselaw2.TransferChooseMatchesSpec': WHATEVER THE INPUT: true; the input reads as it did. -/
def transferChooseMatchesSpecSpec : ChangeSpec := { name := "transferChooseMatchesSpec", fn := fun _ => fun
  | [d] => { results := [.lit (.bool true)], args := [d] }
  | _ => none }
def transferChooseMatchesSpecRow : OpenClaim := { program := "ytokbiogmemgojaadoor", sum := "86d221a7e0fa860b8352123165d55cf66a369bc70ee99a5ded570b30cc13d8dd", func := "posthouse/posthouselaw2.TransferChooseMatchesSpec", spec := "transferChooseMatchesSpec", inPlace := ["internal/bytealg.IndexByte"], unfollowed := true, recurses := true, named := ["unicode/utf8.first", "unicode/utf8.acceptRanges"], apart := false, laid := [("unicode/utf8.acceptRanges", laid_unicode_utf8_acceptRanges), ("unicode/utf8.first", laid_unicode_utf8_first)] }
def TransferChooseMatchesSpecSaid : Prop := transferChooseMatchesSpecRow.holds Tryd.pinned (OpenSpec.ofChange transferChooseMatchesSpecSpec)

/-- ITS FALSE NEIGHBOUR: 'it returns false'. Refute it at one input. -/
def transferChooseMatchesSpecWrong : ChangeSpec := { name := "transferChooseMatchesSpec", fn := fun _ => fun
  | [d] => { results := [.lit (.bool false)], args := [d] }
  | _ => none }
def TransferChooseMatchesSpecWrongFalsely : Prop := transferChooseMatchesSpecRow.holds Tryd.pinned (OpenSpec.ofChange transferChooseMatchesSpecWrong)

/-- 'posthouselaw2.TransferRoundTrip': WHATEVER THE INPUT: true; the input reads as it did. -/
def transferRoundTripSpec : ChangeSpec := { name := "transferRoundTrip", fn := fun _ => fun
  | [d1, d2] => { results := [.lit (.bool true)], args := [d1, d2] }
  | _ => none }
def transferRoundTripRow : OpenClaim := { program := "ytokbiogmemgojaadoor", sum := "86d221a7e0fa860b8352123165d55cf66a369bc70ee99a5ded570b30cc13d8dd", func := "posthouse/posthouselaw2.TransferRoundTrip", spec := "transferRoundTrip", inPlace := ["internal/bytealg.IndexByte"], unfollowed := true, recurses := true, named := ["unicode/utf8.first", "unicode/utf8.acceptRanges"], apart := false, laid := [("unicode/utf8.acceptRanges", laid_unicode_utf8_acceptRanges), ("unicode/utf8.first", laid_unicode_utf8_first)] }
def TransferRoundTripSaid : Prop := transferRoundTripRow.holds Tryd.pinned (OpenSpec.ofChange transferRoundTripSpec)

/-- ITS FALSE NEIGHBOUR: 'it returns false'. Refute it at one input. -/
def transferRoundTripWrong : ChangeSpec := { name := "transferRoundTrip", fn := fun _ => fun
  | [d1, d2] => { results := [.lit (.bool false)], args := [d1, d2] }
  | _ => none }
def TransferRoundTripWrongFalsely : Prop := transferRoundTripRow.holds Tryd.pinned (OpenSpec.ofChange transferRoundTripWrong)

/-- 'posthouselaw2.TransferChosenFits': WHATEVER THE INPUT: true; the input reads as it did. -/
def transferChosenFitsSpec : ChangeSpec := { name := "transferChosenFits", fn := fun _ => fun
  | [d] => { results := [.lit (.bool true)], args := [d] }
  | _ => none }
def transferChosenFitsRow : OpenClaim := { program := "ytokbiogmemgojaadoor", sum := "86d221a7e0fa860b8352123165d55cf66a369bc70ee99a5ded570b30cc13d8dd", func := "posthouse/posthouselaw2.TransferChosenFits", spec := "transferChosenFits", inPlace := ["internal/bytealg.IndexByte"], unfollowed := true, recurses := true, named := ["unicode/utf8.first", "unicode/utf8.acceptRanges"], apart := false, laid := [("unicode/utf8.acceptRanges", laid_unicode_utf8_acceptRanges), ("unicode/utf8.first", laid_unicode_utf8_first)] }
def TransferChosenFitsSaid : Prop := transferChosenFitsRow.holds Tryd.pinned (OpenSpec.ofChange transferChosenFitsSpec)

/-- ITS FALSE NEIGHBOUR: 'it returns false'. Refute it at one input. -/
def transferChosenFitsWrong : ChangeSpec := { name := "transferChosenFits", fn := fun _ => fun
  | [d] => { results := [.lit (.bool false)], args := [d] }
  | _ => none }
def TransferChosenFitsWrongFalsely : Prop := transferChosenFitsRow.holds Tryd.pinned (OpenSpec.ofChange transferChosenFitsWrong)

/- THE SECOND FORM. 'bulk': how many values and letters a reading holds, each counted each time it is reached (what is shared counts as often as it is met; a slice's spare places count too). A statement '..UptoSaid' is the law's where the arguments, and the package variables that the reading takes, are together of bulk at most 1048576: NARROWER than '..Said'. Prove '..Said' where nothing that the law and all that it calls make is longer than what came in: it says more and counts as full. Else prove '..UptoSaid'. A law counts once. -/
mutual
def uptoBulk {H : Type} : DataW H → Nat
  | .lit (.string bytes) => bytes.length + 1
  | .lit _ => 1
  | .nil => 1
  | .ptr d => uptoBulk d + 1
  | .slice elems spare => uptoBulkAll elems + uptoBulkAll spare + 1
  | .agg parts => uptoBulkAll parts + 1
  | .iface _ d => uptoBulk d + 1
  | .map entries => uptoBulkEntries entries + 1
  | .held _ => 1
def uptoBulkAll {H : Type} : List (DataW H) → Nat
  | [] => 0
  | d :: r => uptoBulk d + uptoBulkAll r
def uptoBulkEntries {H : Type} : List (Lit × DataW H) → Nat
  | [] => 0
  | x :: r => uptoBulkEntry x + uptoBulkEntries r
def uptoBulkEntry {H : Type} : Lit × DataW H → Nat
  | (.string bytes, d) => bytes.length + uptoBulk d + 1
  | (_, d) => uptoBulk d + 1
 end
def uptoSmall : (H : Type) → List (DataW H) → Bool := fun _ ds => decide (uptoBulkAll ds ≤ 1048576)
def OpenSpec.upto (s : _root_.Go.ChangeSpec) : _root_.Go.OpenSpec := { _root_.Go.OpenSpec.ofChange s with cond := some uptoSmall }

/-- 'posthouselaw2.TransferEncodeMatchesSpec', WHERE WHAT IT READS IS OF BULK AT MOST 1048576: true; the input reads as it did. -/
def transferEncodeMatchesSpecUptoRow : OpenClaim := { program := "ytokbiogmemgojaadoor", sum := "86d221a7e0fa860b8352123165d55cf66a369bc70ee99a5ded570b30cc13d8dd", func := "posthouse/posthouselaw2.TransferEncodeMatchesSpec", spec := "transferEncodeMatchesSpec", inPlace := ["internal/bytealg.IndexByte"], unfollowed := true, recurses := true, named := ["unicode/utf8.first", "unicode/utf8.acceptRanges"], apart := false, laid := [("unicode/utf8.acceptRanges", laid_unicode_utf8_acceptRanges), ("unicode/utf8.first", laid_unicode_utf8_first)], narrowed := true }
def TransferEncodeMatchesSpecUptoSaid : Prop := transferEncodeMatchesSpecUptoRow.holds Tryd.pinned (OpenSpec.upto transferEncodeMatchesSpecSpec)

/-- 'posthouselaw2.TransferDecodeMatchesSpec', WHERE WHAT IT READS IS OF BULK AT MOST 1048576: true; the input reads as it did. -/
def transferDecodeMatchesSpecUptoRow : OpenClaim := { program := "ytokbiogmemgojaadoor", sum := "86d221a7e0fa860b8352123165d55cf66a369bc70ee99a5ded570b30cc13d8dd", func := "posthouse/posthouselaw2.TransferDecodeMatchesSpec", spec := "transferDecodeMatchesSpec", inPlace := ["internal/bytealg.IndexByte"], unfollowed := true, recurses := true, named := ["unicode/utf8.first", "unicode/utf8.acceptRanges"], apart := false, laid := [("unicode/utf8.acceptRanges", laid_unicode_utf8_acceptRanges), ("unicode/utf8.first", laid_unicode_utf8_first)], narrowed := true }
def TransferDecodeMatchesSpecUptoSaid : Prop := transferDecodeMatchesSpecUptoRow.holds Tryd.pinned (OpenSpec.upto transferDecodeMatchesSpecSpec)

/-- 'posthouselaw2.TransferChooseMatchesSpec', WHERE WHAT IT READS IS OF BULK AT MOST 1048576: true; the input reads as it did. -/
def transferChooseMatchesSpecUptoRow : OpenClaim := { program := "ytokbiogmemgojaadoor", sum := "86d221a7e0fa860b8352123165d55cf66a369bc70ee99a5ded570b30cc13d8dd", func := "posthouse/posthouselaw2.TransferChooseMatchesSpec", spec := "transferChooseMatchesSpec", inPlace := ["internal/bytealg.IndexByte"], unfollowed := true, recurses := true, named := ["unicode/utf8.first", "unicode/utf8.acceptRanges"], apart := false, laid := [("unicode/utf8.acceptRanges", laid_unicode_utf8_acceptRanges), ("unicode/utf8.first", laid_unicode_utf8_first)], narrowed := true }
def TransferChooseMatchesSpecUptoSaid : Prop := transferChooseMatchesSpecUptoRow.holds Tryd.pinned (OpenSpec.upto transferChooseMatchesSpecSpec)

/-- 'posthouselaw2.TransferRoundTrip', WHERE WHAT IT READS IS OF BULK AT MOST 1048576: true; the input reads as it did. -/
def transferRoundTripUptoRow : OpenClaim := { program := "ytokbiogmemgojaadoor", sum := "86d221a7e0fa860b8352123165d55cf66a369bc70ee99a5ded570b30cc13d8dd", func := "posthouse/posthouselaw2.TransferRoundTrip", spec := "transferRoundTrip", inPlace := ["internal/bytealg.IndexByte"], unfollowed := true, recurses := true, named := ["unicode/utf8.first", "unicode/utf8.acceptRanges"], apart := false, laid := [("unicode/utf8.acceptRanges", laid_unicode_utf8_acceptRanges), ("unicode/utf8.first", laid_unicode_utf8_first)], narrowed := true }
def TransferRoundTripUptoSaid : Prop := transferRoundTripUptoRow.holds Tryd.pinned (OpenSpec.upto transferRoundTripSpec)

/-- 'posthouselaw2.TransferChosenFits', WHERE WHAT IT READS IS OF BULK AT MOST 1048576: true; the input reads as it did. -/
def transferChosenFitsUptoRow : OpenClaim := { program := "ytokbiogmemgojaadoor", sum := "86d221a7e0fa860b8352123165d55cf66a369bc70ee99a5ded570b30cc13d8dd", func := "posthouse/posthouselaw2.TransferChosenFits", spec := "transferChosenFits", inPlace := ["internal/bytealg.IndexByte"], unfollowed := true, recurses := true, named := ["unicode/utf8.first", "unicode/utf8.acceptRanges"], apart := false, laid := [("unicode/utf8.acceptRanges", laid_unicode_utf8_acceptRanges), ("unicode/utf8.first", laid_unicode_utf8_first)], narrowed := true }
def TransferChosenFitsUptoSaid : Prop := transferChosenFitsUptoRow.holds Tryd.pinned (OpenSpec.upto transferChosenFitsSpec)

end Rows
end Go.Proofs.YtokbiogmemgojaaDoor
