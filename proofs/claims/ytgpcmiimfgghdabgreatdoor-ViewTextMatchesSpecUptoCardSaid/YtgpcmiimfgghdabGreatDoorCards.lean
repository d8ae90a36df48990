/-
  DERIVED. GIVEN WITH THE SEED: THE CARDS: each row of YtgpcmiimfgghdabGreatDoorRows.lean that lists a variable, with what it lists TIED to the program's text (the seventh form; the later family's looks); each row that meets fmt, with fmt's text TOLD by the authors' own Lean function (tested against real Go, not proved from fmt's source: count such statements apart). THE CARD IS WHAT COUNTS. Prove the row's statement (the work); the ties are given (YtgpcmiimfgghdabGreatDoorTie.lean); close each card by the builder's one call (the guide's Derived/Test/ToyasCard.lean, 'card_holds'). Laid BY PROGRAM, IN A SANDBOX (cutbox-door.mjs). By AI agents, Wed Nov 11 2026. No macro, syntax, notation, axiom, sorry.
-/
import Derived.Test.YtgpcmiimfgghdabGreatDoorRows
import GoSem.ClaimSeven
namespace Go.Proofs.YtgpcmiimfgghdabGreatDoor
namespace Rows

/-- THE TIED CARD OF 'posthouselaw2.ViewTextMatchesSpec'. -/
def viewTextMatchesSpecCard : Claim7 := { stood := { row := viewTextMatchesSpecRow, standIns := [], harness := (true, "b648f6c43a321c7345c33d6435262ba7a1894f545c705adbaf7e876ed2a7b8da"), looks := true }, kinds := [], alts := [], laidByText := true, laidKinds := [.data, .data, .data, .data, .sentinel, .sentinel, .pinned], laidTests := true, laidLooks := .later }
def ViewTextMatchesSpecCardSaid : Prop := Claim7.holds Tryz.pinned (.plain (OpenSpec.ofChange viewTextMatchesSpecSpec)) viewTextMatchesSpecCard

/-- THE SECOND FORM's CARD OF 'posthouselaw2.ViewTextMatchesSpec'. -/
def viewTextMatchesSpecUptoCard : Claim7 := { stood := { row := viewTextMatchesSpecUptoRow, standIns := [], harness := (true, "b648f6c43a321c7345c33d6435262ba7a1894f545c705adbaf7e876ed2a7b8da"), looks := true }, kinds := [], alts := [], laidByText := true, laidKinds := [.data, .data, .data, .data, .sentinel, .sentinel, .pinned], laidTests := true, laidLooks := .later }
def ViewTextMatchesSpecUptoCardSaid : Prop := Claim7.holds Tryz.pinned (.plain (OpenSpec.upto viewTextMatchesSpecSpec)) viewTextMatchesSpecUptoCard
end Rows
end Go.Proofs.YtgpcmiimfgghdabGreatDoor
