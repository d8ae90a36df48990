/-
  DERIVED. GIVEN WITH THE SEED: THE CARDS: each row of YtboiflmddgacmaaGreatDoorRows.lean that lists a variable, with what it lists TIED to the program's text (the seventh form; the later family's looks); each row that meets fmt, with fmt's text TOLD by the authors' own Lean function (tested against real Go, not proved from fmt's source: count such statements apart). THE CARD IS WHAT COUNTS. Prove the row's statement (the work); the ties are given (YtboiflmddgacmaaGreatDoorTie.lean); close each card by the builder's one call (the guide's Derived/Test/ToyasCard.lean, 'card_holds'). Laid BY PROGRAM, IN A SANDBOX (cutbox-door.mjs). By AI agents, Wed Nov 11 2026. No macro, syntax, notation, axiom, sorry.
-/
import Derived.Test.YtboiflmddgacmaaGreatDoorRows
import GoSem.ClaimSeven
namespace Go.Proofs.YtboiflmddgacmaaGreatDoor
namespace Rows

/-- THE TIED CARD OF 'posthousetop.TopDatesOrder'. -/
def topDatesOrderCard : Claim7 := { stood := { row := topDatesOrderRow, standIns := [], harness := (true, "8cb459075f893a250ff6624a8a1e16c8449482bea3f5735f9b2c9a1d7906b0f1"), looks := true }, kinds := [], alts := [], laidByText := true, laidKinds := [.data, .data, .data, .data, .sentinel, .sentinel, .pinned], laidTests := true, laidLooks := .later }
def TopDatesOrderCardSaid : Prop := Claim7.holds Tryz.pinned (.plain (OpenSpec.ofChange topDatesOrderSpec)) topDatesOrderCard

/-- THE SECOND FORM's CARD OF 'posthousetop.TopDatesOrder'. -/
def topDatesOrderUptoCard : Claim7 := { stood := { row := topDatesOrderUptoRow, standIns := [], harness := (true, "8cb459075f893a250ff6624a8a1e16c8449482bea3f5735f9b2c9a1d7906b0f1"), looks := true }, kinds := [], alts := [], laidByText := true, laidKinds := [.data, .data, .data, .data, .sentinel, .sentinel, .pinned], laidTests := true, laidLooks := .later }
def TopDatesOrderUptoCardSaid : Prop := Claim7.holds Tryz.pinned (.plain (OpenSpec.upto topDatesOrderSpec)) topDatesOrderUptoCard
end Rows
end Go.Proofs.YtboiflmddgacmaaGreatDoor
