/-
  DERIVED. GIVEN WITH THE SEED: THE CARDS: each row of YtdnaaelkpgijeabGreatDoorRows.lean that lists a variable, with what it lists TIED to the program's text (the seventh form; the later family's looks); each row that meets fmt, with fmt's text TOLD by the authors' own Lean function (tested against real Go, not proved from fmt's source: count such statements apart). THE CARD IS WHAT COUNTS. Prove the row's statement (the work); the ties are given (YtdnaaelkpgijeabGreatDoorTie.lean); close each card by the builder's one call (the guide's Derived/Test/ToyasCard.lean, 'card_holds'). Laid BY PROGRAM, IN A SANDBOX (cutbox-door.mjs). By AI agents, Wed Nov 11 2026. No macro, syntax, notation, axiom, sorry.
-/
import Derived.Test.YtdnaaelkpgijeabGreatDoorRows
import GoSem.ClaimSeven
namespace Go.Proofs.YtdnaaelkpgijeabGreatDoor
namespace Rows

/-- THE TIED CARD OF 'posthousetop.TopEventsShift'. -/
def topEventsShiftCard : Claim7 := { stood := { row := topEventsShiftRow, standIns := [], harness := (true, "2e6ae61aa0340b994f9ba9e2524207acd2c550af991e344666b3f47064a8d8d4"), looks := true }, kinds := [], alts := [], laidByText := true, laidKinds := [.data, .data, .data, .data, .sentinel, .sentinel, .pinned], laidTests := true, laidLooks := .later }
def TopEventsShiftCardSaid : Prop := Claim7.holds Tryz.pinned (.plain (OpenSpec.ofChange topEventsShiftSpec)) topEventsShiftCard

/-- THE SECOND FORM's CARD OF 'posthousetop.TopEventsShift'. -/
def topEventsShiftUptoCard : Claim7 := { stood := { row := topEventsShiftUptoRow, standIns := [], harness := (true, "2e6ae61aa0340b994f9ba9e2524207acd2c550af991e344666b3f47064a8d8d4"), looks := true }, kinds := [], alts := [], laidByText := true, laidKinds := [.data, .data, .data, .data, .sentinel, .sentinel, .pinned], laidTests := true, laidLooks := .later }
def TopEventsShiftUptoCardSaid : Prop := Claim7.holds Tryz.pinned (.plain (OpenSpec.upto topEventsShiftSpec)) topEventsShiftUptoCard
end Rows
end Go.Proofs.YtdnaaelkpgijeabGreatDoor
