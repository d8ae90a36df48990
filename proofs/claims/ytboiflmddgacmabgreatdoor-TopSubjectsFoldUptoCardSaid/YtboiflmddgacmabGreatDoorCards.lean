/-
  DERIVED. GIVEN WITH THE SEED: THE CARDS: each row of YtboiflmddgacmabGreatDoorRows.lean that lists a variable, with what it lists TIED to the program's text (the seventh form; the later family's looks); each row that meets fmt, with fmt's text TOLD by the authors' own Lean function (tested against real Go, not proved from fmt's source: count such statements apart). THE CARD IS WHAT COUNTS. Prove the row's statement (the work); the ties are given (YtboiflmddgacmabGreatDoorTie.lean); close each card by the builder's one call (the guide's Derived/Test/ToyasCard.lean, 'card_holds'). Laid BY PROGRAM, IN A SANDBOX (cutbox-door.mjs). By AI agents, Wed Nov 11 2026. No macro, syntax, notation, axiom, sorry.
-/
import Derived.Test.YtboiflmddgacmabGreatDoorRows
import GoSem.ClaimSeven
namespace Go.Proofs.YtboiflmddgacmabGreatDoor
namespace Rows

/-- THE TIED CARD OF 'posthousetop.TopSubjectsFold'. -/
def topSubjectsFoldCard : Claim7 := { stood := { row := topSubjectsFoldRow, standIns := [], harness := (true, "2b43255203e853d4ebd3aa682aae59d7e67be0d04aac2e3d0ad94584a7ebb9fc"), looks := true }, kinds := [], alts := [], laidByText := true, laidKinds := [.data, .data, .data, .data, .sentinel, .sentinel, .pinned], laidTests := true, laidLooks := .later }
def TopSubjectsFoldCardSaid : Prop := Claim7.holds Tryz.pinned (.plain (OpenSpec.ofChange topSubjectsFoldSpec)) topSubjectsFoldCard

/-- THE SECOND FORM's CARD OF 'posthousetop.TopSubjectsFold'. -/
def topSubjectsFoldUptoCard : Claim7 := { stood := { row := topSubjectsFoldUptoRow, standIns := [], harness := (true, "2b43255203e853d4ebd3aa682aae59d7e67be0d04aac2e3d0ad94584a7ebb9fc"), looks := true }, kinds := [], alts := [], laidByText := true, laidKinds := [.data, .data, .data, .data, .sentinel, .sentinel, .pinned], laidTests := true, laidLooks := .later }
def TopSubjectsFoldUptoCardSaid : Prop := Claim7.holds Tryz.pinned (.plain (OpenSpec.upto topSubjectsFoldSpec)) topSubjectsFoldUptoCard
end Rows
end Go.Proofs.YtboiflmddgacmabGreatDoor
