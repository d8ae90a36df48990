/-
  DERIVED. GIVEN WITH THE SEED: THE CARDS: each row of YtokbiogmemgojaaDoorRows.lean that lists a variable, with what it lists TIED to the program's text (the seventh form; the later family's looks); each row that meets fmt, with fmt's text TOLD by the authors' own Lean function (tested against real Go, not proved from fmt's source: count such statements apart). THE CARD IS WHAT COUNTS. Prove the row's statement (the work); the ties are given (YtokbiogmemgojaaDoorTie.lean); close each card by the builder's one call (the guide's Derived/Test/ToyasCard.lean, 'card_holds'). Laid BY PROGRAM, IN A SANDBOX (cutbox-door.mjs). By AI agents, Wed Nov 11 2026. No macro, syntax, notation, axiom, sorry.
-/
import Derived.Test.YtokbiogmemgojaaDoorRows
import GoSem.ClaimSeven
namespace Go.Proofs.YtokbiogmemgojaaDoor
namespace Rows

/-- THE TIED CARD OF 'posthouselaw2.TransferEncodeMatchesSpec'. -/
def transferEncodeMatchesSpecCard : Claim7 := { stood := { row := transferEncodeMatchesSpecRow, standIns := [], harness := (true, "b1b746a647d1b1a0a052412386eaee87910d0f0680b2df04c314177bf2228076"), looks := false }, kinds := [], alts := [], laidByText := true, laidKinds := [.data, .pinned], laidTests := true, laidLooks := .later }
def TransferEncodeMatchesSpecCardSaid : Prop := Claim7.holds Tryd.pinned (.plain (OpenSpec.ofChange transferEncodeMatchesSpecSpec)) transferEncodeMatchesSpecCard

/-- THE TIED CARD OF 'posthouselaw2.TransferDecodeMatchesSpec'. -/
def transferDecodeMatchesSpecCard : Claim7 := { stood := { row := transferDecodeMatchesSpecRow, standIns := [], harness := (true, "b1b746a647d1b1a0a052412386eaee87910d0f0680b2df04c314177bf2228076"), looks := false }, kinds := [], alts := [], laidByText := true, laidKinds := [.data, .pinned], laidTests := true, laidLooks := .later }
def TransferDecodeMatchesSpecCardSaid : Prop := Claim7.holds Tryd.pinned (.plain (OpenSpec.ofChange transferDecodeMatchesSpecSpec)) transferDecodeMatchesSpecCard

/-- THE TIED CARD OF 'posthouselaw2.TransferChooseMatchesSpec'. -/
def transferChooseMatchesSpecCard : Claim7 := { stood := { row := transferChooseMatchesSpecRow, standIns := [], harness := (true, "b1b746a647d1b1a0a052412386eaee87910d0f0680b2df04c314177bf2228076"), looks := false }, kinds := [], alts := [], laidByText := true, laidKinds := [.data, .pinned], laidTests := true, laidLooks := .later }
def TransferChooseMatchesSpecCardSaid : Prop := Claim7.holds Tryd.pinned (.plain (OpenSpec.ofChange transferChooseMatchesSpecSpec)) transferChooseMatchesSpecCard

/-- THE TIED CARD OF 'posthouselaw2.TransferRoundTrip'. -/
def transferRoundTripCard : Claim7 := { stood := { row := transferRoundTripRow, standIns := [], harness := (true, "b1b746a647d1b1a0a052412386eaee87910d0f0680b2df04c314177bf2228076"), looks := false }, kinds := [], alts := [], laidByText := true, laidKinds := [.data, .pinned], laidTests := true, laidLooks := .later }
def TransferRoundTripCardSaid : Prop := Claim7.holds Tryd.pinned (.plain (OpenSpec.ofChange transferRoundTripSpec)) transferRoundTripCard

/-- THE TIED CARD OF 'posthouselaw2.TransferChosenFits'. -/
def transferChosenFitsCard : Claim7 := { stood := { row := transferChosenFitsRow, standIns := [], harness := (true, "b1b746a647d1b1a0a052412386eaee87910d0f0680b2df04c314177bf2228076"), looks := false }, kinds := [], alts := [], laidByText := true, laidKinds := [.data, .pinned], laidTests := true, laidLooks := .later }
def TransferChosenFitsCardSaid : Prop := Claim7.holds Tryd.pinned (.plain (OpenSpec.ofChange transferChosenFitsSpec)) transferChosenFitsCard

/-- THE SECOND FORM's CARD OF 'posthouselaw2.TransferEncodeMatchesSpec'. -/
def transferEncodeMatchesSpecUptoCard : Claim7 := { stood := { row := transferEncodeMatchesSpecUptoRow, standIns := [], harness := (true, "b1b746a647d1b1a0a052412386eaee87910d0f0680b2df04c314177bf2228076"), looks := false }, kinds := [], alts := [], laidByText := true, laidKinds := [.data, .pinned], laidTests := true, laidLooks := .later }
def TransferEncodeMatchesSpecUptoCardSaid : Prop := Claim7.holds Tryd.pinned (.plain (OpenSpec.upto transferEncodeMatchesSpecSpec)) transferEncodeMatchesSpecUptoCard

/-- THE SECOND FORM's CARD OF 'posthouselaw2.TransferDecodeMatchesSpec'. -/
def transferDecodeMatchesSpecUptoCard : Claim7 := { stood := { row := transferDecodeMatchesSpecUptoRow, standIns := [], harness := (true, "b1b746a647d1b1a0a052412386eaee87910d0f0680b2df04c314177bf2228076"), looks := false }, kinds := [], alts := [], laidByText := true, laidKinds := [.data, .pinned], laidTests := true, laidLooks := .later }
def TransferDecodeMatchesSpecUptoCardSaid : Prop := Claim7.holds Tryd.pinned (.plain (OpenSpec.upto transferDecodeMatchesSpecSpec)) transferDecodeMatchesSpecUptoCard

/-- THE SECOND FORM's CARD OF 'posthouselaw2.TransferChooseMatchesSpec'. -/
def transferChooseMatchesSpecUptoCard : Claim7 := { stood := { row := transferChooseMatchesSpecUptoRow, standIns := [], harness := (true, "b1b746a647d1b1a0a052412386eaee87910d0f0680b2df04c314177bf2228076"), looks := false }, kinds := [], alts := [], laidByText := true, laidKinds := [.data, .pinned], laidTests := true, laidLooks := .later }
def TransferChooseMatchesSpecUptoCardSaid : Prop := Claim7.holds Tryd.pinned (.plain (OpenSpec.upto transferChooseMatchesSpecSpec)) transferChooseMatchesSpecUptoCard

/-- THE SECOND FORM's CARD OF 'posthouselaw2.TransferRoundTrip'. -/
def transferRoundTripUptoCard : Claim7 := { stood := { row := transferRoundTripUptoRow, standIns := [], harness := (true, "b1b746a647d1b1a0a052412386eaee87910d0f0680b2df04c314177bf2228076"), looks := false }, kinds := [], alts := [], laidByText := true, laidKinds := [.data, .pinned], laidTests := true, laidLooks := .later }
def TransferRoundTripUptoCardSaid : Prop := Claim7.holds Tryd.pinned (.plain (OpenSpec.upto transferRoundTripSpec)) transferRoundTripUptoCard

/-- THE SECOND FORM's CARD OF 'posthouselaw2.TransferChosenFits'. -/
def transferChosenFitsUptoCard : Claim7 := { stood := { row := transferChosenFitsUptoRow, standIns := [], harness := (true, "b1b746a647d1b1a0a052412386eaee87910d0f0680b2df04c314177bf2228076"), looks := false }, kinds := [], alts := [], laidByText := true, laidKinds := [.data, .pinned], laidTests := true, laidLooks := .later }
def TransferChosenFitsUptoCardSaid : Prop := Claim7.holds Tryd.pinned (.plain (OpenSpec.upto transferChosenFitsSpec)) transferChosenFitsUptoCard
end Rows
end Go.Proofs.YtokbiogmemgojaaDoor
