/-
  DERIVED. GIVEN WITH THE SEED: THE CARDS: each row of YtfmacibdajfkmaaGreatDoorRows.lean that lists a variable, with what it lists TIED to the program's text (the seventh form; the later family's looks); each row that meets fmt, with fmt's text TOLD by the authors' own Lean function (tested against real Go, not proved from fmt's source: count such statements apart). THE CARD IS WHAT COUNTS. Prove the row's statement (the work); the ties are given (YtfmacibdajfkmaaGreatDoorTie.lean); close each card by the builder's one call (the guide's Derived/Test/ToyasCard.lean, 'card_holds'). Laid BY PROGRAM, IN A SANDBOX (cutbox-door.mjs). By AI agents, Wed Nov 11 2026. No macro, syntax, notation, axiom, sorry.
-/
import Derived.Test.YtfmacibdajfkmaaGreatDoorRows
import GoSem.ClaimSeven
namespace Go.Proofs.YtfmacibdajfkmaaGreatDoor
namespace Rows

/-- THE TIED CARD OF 'posthouselaw2.ViewPlainUnchanged'. -/
def viewPlainUnchangedCard : Claim7 := { stood := { row := viewPlainUnchangedRow, standIns := [], harness := (true, "b3e60397759ec8a128f826867aa1398b025ac1a87a6e758f5ae493acd460e6c6"), looks := true }, kinds := [], alts := [], laidByText := true, laidKinds := [.data, .data, .data, .data, .sentinel, .sentinel, .pinned], laidTests := true, laidLooks := .later }
def ViewPlainUnchangedCardSaid : Prop := Claim7.holds Tryz.pinned (.plain (OpenSpec.ofChange viewPlainUnchangedSpec)) viewPlainUnchangedCard

/-- THE TIED CARD OF 'posthouselaw2.ViewEncodingIrrelevant'. -/
def viewEncodingIrrelevantCard : Claim7 := { stood := { row := viewEncodingIrrelevantRow, standIns := [], harness := (true, "b3e60397759ec8a128f826867aa1398b025ac1a87a6e758f5ae493acd460e6c6"), looks := true }, kinds := [], alts := [], laidByText := true, laidKinds := [.data, .data, .data, .data, .sentinel, .sentinel, .pinned], laidTests := true, laidLooks := .later }
def ViewEncodingIrrelevantCardSaid : Prop := Claim7.holds Tryz.pinned (.plain (OpenSpec.ofChange viewEncodingIrrelevantSpec)) viewEncodingIrrelevantCard

/-- THE SECOND FORM's CARD OF 'posthouselaw2.ViewPlainUnchanged'. -/
def viewPlainUnchangedUptoCard : Claim7 := { stood := { row := viewPlainUnchangedUptoRow, standIns := [], harness := (true, "b3e60397759ec8a128f826867aa1398b025ac1a87a6e758f5ae493acd460e6c6"), looks := true }, kinds := [], alts := [], laidByText := true, laidKinds := [.data, .data, .data, .data, .sentinel, .sentinel, .pinned], laidTests := true, laidLooks := .later }
def ViewPlainUnchangedUptoCardSaid : Prop := Claim7.holds Tryz.pinned (.plain (OpenSpec.upto viewPlainUnchangedSpec)) viewPlainUnchangedUptoCard

/-- THE SECOND FORM's CARD OF 'posthouselaw2.ViewEncodingIrrelevant'. -/
def viewEncodingIrrelevantUptoCard : Claim7 := { stood := { row := viewEncodingIrrelevantUptoRow, standIns := [], harness := (true, "b3e60397759ec8a128f826867aa1398b025ac1a87a6e758f5ae493acd460e6c6"), looks := true }, kinds := [], alts := [], laidByText := true, laidKinds := [.data, .data, .data, .data, .sentinel, .sentinel, .pinned], laidTests := true, laidLooks := .later }
def ViewEncodingIrrelevantUptoCardSaid : Prop := Claim7.holds Tryz.pinned (.plain (OpenSpec.upto viewEncodingIrrelevantSpec)) viewEncodingIrrelevantUptoCard
end Rows
end Go.Proofs.YtfmacibdajfkmaaGreatDoor
