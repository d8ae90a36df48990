/-
  DERIVED. GIVEN WITH THE SEED: THE CARDS: each row of YtdnaaelkpgijeaaGreatDoorRows.lean that lists a variable, with what it lists TIED to the program's text (the seventh form; the later family's looks); each row that meets fmt, with fmt's text TOLD by the authors' own Lean function (tested against real Go, not proved from fmt's source: count such statements apart). THE CARD IS WHAT COUNTS. Prove the row's statement (the work); the ties are given (YtdnaaelkpgijeaaGreatDoorTie.lean); close each card by the builder's one call (the guide's Derived/Test/ToyasCard.lean, 'card_holds'). Laid BY PROGRAM, IN A SANDBOX (cutbox-door.mjs). By AI agents, Wed Nov 11 2026. No macro, syntax, notation, axiom, sorry.
-/
import Derived.Test.YtdnaaelkpgijeaaGreatDoorRows
import GoSem.ClaimSeven
namespace Go.Proofs.YtdnaaelkpgijeaaGreatDoor
namespace Rows

/-- THE TIED CARD OF 'posthousetop.TopAddressesSurvive'. -/
def topAddressesSurviveCard : Claim7 := { stood := { row := topAddressesSurviveRow, standIns := [], harness := (true, "b922558aa11189de59de3752819fe6f96a43e7aa1b4c7888a966b193ed764755"), looks := true }, kinds := [], alts := [], laidByText := true, laidKinds := [.data, .data, .data, .data, .sentinel, .sentinel, .pinned], laidTests := true, laidLooks := .later }
def TopAddressesSurviveCardSaid : Prop := Claim7.holds Tryz.pinned (.plain (OpenSpec.ofChange topAddressesSurviveSpec)) topAddressesSurviveCard

/-- THE SECOND FORM's CARD OF 'posthousetop.TopAddressesSurvive'. -/
def topAddressesSurviveUptoCard : Claim7 := { stood := { row := topAddressesSurviveUptoRow, standIns := [], harness := (true, "b922558aa11189de59de3752819fe6f96a43e7aa1b4c7888a966b193ed764755"), looks := true }, kinds := [], alts := [], laidByText := true, laidKinds := [.data, .data, .data, .data, .sentinel, .sentinel, .pinned], laidTests := true, laidLooks := .later }
def TopAddressesSurviveUptoCardSaid : Prop := Claim7.holds Tryz.pinned (.plain (OpenSpec.upto topAddressesSurviveSpec)) topAddressesSurviveUptoCard
end Rows
end Go.Proofs.YtdnaaelkpgijeaaGreatDoor
