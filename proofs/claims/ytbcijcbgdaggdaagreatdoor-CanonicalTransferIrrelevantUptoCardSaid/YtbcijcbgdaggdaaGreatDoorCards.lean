/-
  DERIVED. GIVEN WITH THE SEED: THE CARDS: each row of YtbcijcbgdaggdaaGreatDoorRows.lean that lists a variable, with what it lists TIED to the program's text (the seventh form; the later family's looks); each row that meets fmt, with fmt's text TOLD by the authors' own Lean function (tested against real Go, not proved from fmt's source: count such statements apart). THE CARD IS WHAT COUNTS. Prove the row's statement (the work); the ties are given (YtbcijcbgdaggdaaGreatDoorTie.lean); close each card by the builder's one call (the guide's Derived/Test/ToyasCard.lean, 'card_holds'). Laid BY PROGRAM, IN A SANDBOX (cutbox-door.mjs). By AI agents, Wed Nov 11 2026. No macro, syntax, notation, axiom, sorry.
-/
import Derived.Test.YtbcijcbgdaggdaaGreatDoorRows
import GoSem.ClaimSeven
namespace Go.Proofs.YtbcijcbgdaggdaaGreatDoor
namespace Rows

/-- THE TIED CARD OF 'posthouselaw2.CanonicalSameMatchesSpec'. -/
def canonicalSameMatchesSpecCard : Claim7 := { stood := { row := canonicalSameMatchesSpecRow, standIns := [], harness := (true, "4ed38b7ce19b8ff6f7af47ed3482d019bd7fb134f2e2cc5651a71f9b8995a986"), looks := true }, kinds := [], alts := [], laidByText := true, laidKinds := [.data, .data, .data, .data, .sentinel, .sentinel, .pinned], laidTests := true, laidLooks := .later }
def CanonicalSameMatchesSpecCardSaid : Prop := Claim7.holds Tryz.pinned (.plain (OpenSpec.ofChange canonicalSameMatchesSpecSpec)) canonicalSameMatchesSpecCard

/-- THE TIED CARD OF 'posthouselaw2.CanonicalTraceIrrelevant'. -/
def canonicalTraceIrrelevantCard : Claim7 := { stood := { row := canonicalTraceIrrelevantRow, standIns := [], harness := (true, "4ed38b7ce19b8ff6f7af47ed3482d019bd7fb134f2e2cc5651a71f9b8995a986"), looks := true }, kinds := [], alts := [], laidByText := true, laidKinds := [.data, .data, .data, .data, .sentinel, .sentinel, .pinned], laidTests := true, laidLooks := .later }
def CanonicalTraceIrrelevantCardSaid : Prop := Claim7.holds Tryz.pinned (.plain (OpenSpec.ofChange canonicalTraceIrrelevantSpec)) canonicalTraceIrrelevantCard

/-- THE TIED CARD OF 'posthouselaw2.CanonicalFormMatchesSpec'. -/
def canonicalFormMatchesSpecCard : Claim7 := { stood := { row := canonicalFormMatchesSpecRow, standIns := [], harness := (true, "4ed38b7ce19b8ff6f7af47ed3482d019bd7fb134f2e2cc5651a71f9b8995a986"), looks := true }, kinds := [], alts := [], laidByText := true, laidKinds := [.data, .data, .data, .data, .sentinel, .sentinel, .pinned], laidTests := true, laidLooks := .later }
def CanonicalFormMatchesSpecCardSaid : Prop := Claim7.holds Tryz.pinned (.plain (OpenSpec.ofChange canonicalFormMatchesSpecSpec)) canonicalFormMatchesSpecCard

/-- THE TIED CARD OF 'posthouselaw2.CanonicalTransferIrrelevant'. -/
def canonicalTransferIrrelevantCard : Claim7 := { stood := { row := canonicalTransferIrrelevantRow, standIns := [], harness := (true, "4ed38b7ce19b8ff6f7af47ed3482d019bd7fb134f2e2cc5651a71f9b8995a986"), looks := true }, kinds := [], alts := [], laidByText := true, laidKinds := [.data, .data, .data, .data, .sentinel, .sentinel, .pinned], laidTests := true, laidLooks := .later }
def CanonicalTransferIrrelevantCardSaid : Prop := Claim7.holds Tryz.pinned (.plain (OpenSpec.ofChange canonicalTransferIrrelevantSpec)) canonicalTransferIrrelevantCard

/-- THE SECOND FORM's CARD OF 'posthouselaw2.CanonicalSameMatchesSpec'. -/
def canonicalSameMatchesSpecUptoCard : Claim7 := { stood := { row := canonicalSameMatchesSpecUptoRow, standIns := [], harness := (true, "4ed38b7ce19b8ff6f7af47ed3482d019bd7fb134f2e2cc5651a71f9b8995a986"), looks := true }, kinds := [], alts := [], laidByText := true, laidKinds := [.data, .data, .data, .data, .sentinel, .sentinel, .pinned], laidTests := true, laidLooks := .later }
def CanonicalSameMatchesSpecUptoCardSaid : Prop := Claim7.holds Tryz.pinned (.plain (OpenSpec.upto canonicalSameMatchesSpecSpec)) canonicalSameMatchesSpecUptoCard

/-- THE SECOND FORM's CARD OF 'posthouselaw2.CanonicalTraceIrrelevant'. -/
def canonicalTraceIrrelevantUptoCard : Claim7 := { stood := { row := canonicalTraceIrrelevantUptoRow, standIns := [], harness := (true, "4ed38b7ce19b8ff6f7af47ed3482d019bd7fb134f2e2cc5651a71f9b8995a986"), looks := true }, kinds := [], alts := [], laidByText := true, laidKinds := [.data, .data, .data, .data, .sentinel, .sentinel, .pinned], laidTests := true, laidLooks := .later }
def CanonicalTraceIrrelevantUptoCardSaid : Prop := Claim7.holds Tryz.pinned (.plain (OpenSpec.upto canonicalTraceIrrelevantSpec)) canonicalTraceIrrelevantUptoCard

/-- THE SECOND FORM's CARD OF 'posthouselaw2.CanonicalFormMatchesSpec'. -/
def canonicalFormMatchesSpecUptoCard : Claim7 := { stood := { row := canonicalFormMatchesSpecUptoRow, standIns := [], harness := (true, "4ed38b7ce19b8ff6f7af47ed3482d019bd7fb134f2e2cc5651a71f9b8995a986"), looks := true }, kinds := [], alts := [], laidByText := true, laidKinds := [.data, .data, .data, .data, .sentinel, .sentinel, .pinned], laidTests := true, laidLooks := .later }
def CanonicalFormMatchesSpecUptoCardSaid : Prop := Claim7.holds Tryz.pinned (.plain (OpenSpec.upto canonicalFormMatchesSpecSpec)) canonicalFormMatchesSpecUptoCard

/-- THE SECOND FORM's CARD OF 'posthouselaw2.CanonicalTransferIrrelevant'. -/
def canonicalTransferIrrelevantUptoCard : Claim7 := { stood := { row := canonicalTransferIrrelevantUptoRow, standIns := [], harness := (true, "4ed38b7ce19b8ff6f7af47ed3482d019bd7fb134f2e2cc5651a71f9b8995a986"), looks := true }, kinds := [], alts := [], laidByText := true, laidKinds := [.data, .data, .data, .data, .sentinel, .sentinel, .pinned], laidTests := true, laidLooks := .later }
def CanonicalTransferIrrelevantUptoCardSaid : Prop := Claim7.holds Tryz.pinned (.plain (OpenSpec.upto canonicalTransferIrrelevantSpec)) canonicalTransferIrrelevantUptoCard
end Rows
end Go.Proofs.YtbcijcbgdaggdaaGreatDoor
