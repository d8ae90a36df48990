/-
  DERIVED. GIVEN WITH THE SEED: THE CARDS: each row of YtojpbgaccmkggaaGreatDoorRows.lean that lists a variable, with what it lists TIED to the program's text (the seventh form; the later family's looks); each row that meets fmt, with fmt's text TOLD by the authors' own Lean function (tested against real Go, not proved from fmt's source: count such statements apart). THE CARD IS WHAT COUNTS. Prove the row's statement (the work); the ties are given (YtojpbgaccmkggaaGreatDoorTie.lean); close each card by the builder's one call (the guide's Derived/Test/ToyasCard.lean, 'card_holds'). Laid BY PROGRAM, IN A SANDBOX (cutbox-door.mjs). By AI agents, Wed Nov 11 2026. No macro, syntax, notation, axiom, sorry.
-/
import Derived.Test.YtojpbgaccmkggaaGreatDoorRows
import GoSem.ClaimSeven
namespace Go.Proofs.YtojpbgaccmkggaaGreatDoor
namespace Rows

/-- THE TIED CARD OF 'posthouselaw2.MessageReadMatchesSpec'. -/
def messageReadMatchesSpecCard : Claim7 := { stood := { row := messageReadMatchesSpecRow, standIns := [], harness := (true, "2d3290b79d16a783f7acf5041b0ece1f69d794ad7c1c6328a169de494fa91532"), looks := true }, kinds := [], alts := [], laidByText := true, laidKinds := [.data, .pinned], laidTests := true, laidLooks := .later }
def MessageReadMatchesSpecCardSaid : Prop := Claim7.holds Tryz.pinned (.plain (OpenSpec.ofChange messageReadMatchesSpecSpec)) messageReadMatchesSpecCard

/-- THE TIED CARD OF 'posthouselaw2.MessageWriteMatchesSpec'. -/
def messageWriteMatchesSpecCard : Claim7 := { stood := { row := messageWriteMatchesSpecRow, standIns := [], harness := (true, "2d3290b79d16a783f7acf5041b0ece1f69d794ad7c1c6328a169de494fa91532"), looks := true }, kinds := [], alts := [], laidByText := true, laidKinds := [.data, .pinned], laidTests := true, laidLooks := .later }
def MessageWriteMatchesSpecCardSaid : Prop := Claim7.holds Tryz.pinned (.plain (OpenSpec.ofChange messageWriteMatchesSpecSpec)) messageWriteMatchesSpecCard

/-- THE TIED CARD OF 'posthouselaw2.MessageRoundTrip'. -/
def messageRoundTripCard : Claim7 := { stood := { row := messageRoundTripRow, standIns := [], harness := (true, "2d3290b79d16a783f7acf5041b0ece1f69d794ad7c1c6328a169de494fa91532"), looks := true }, kinds := [], alts := [], laidByText := true, laidKinds := [.data, .pinned], laidTests := true, laidLooks := .later }
def MessageRoundTripCardSaid : Prop := Claim7.holds Tryz.pinned (.plain (OpenSpec.ofChange messageRoundTripSpec)) messageRoundTripCard

/-- THE TIED CARD OF 'posthouselaw2.MessageIdMatchesSpec'. -/
def messageIdMatchesSpecCard : Claim7 := { stood := { row := messageIdMatchesSpecRow, standIns := [], harness := (true, "2d3290b79d16a783f7acf5041b0ece1f69d794ad7c1c6328a169de494fa91532"), looks := true }, kinds := [], alts := [], laidByText := true, laidKinds := [.data, .pinned], laidTests := true, laidLooks := .later }
def MessageIdMatchesSpecCardSaid : Prop := Claim7.holds Tryz.pinned (.plain (OpenSpec.ofChange messageIdMatchesSpecSpec)) messageIdMatchesSpecCard

/-- THE TIED CARD OF 'posthouselaw2.MessageReadsOnce'. -/
def messageReadsOnceCard : Claim7 := { stood := { row := messageReadsOnceRow, standIns := [], harness := (true, "2d3290b79d16a783f7acf5041b0ece1f69d794ad7c1c6328a169de494fa91532"), looks := true }, kinds := [], alts := [], laidByText := true, laidKinds := [.data, .pinned], laidTests := true, laidLooks := .later }
def MessageReadsOnceCardSaid : Prop := Claim7.holds Tryz.pinned (.plain (OpenSpec.ofChange messageReadsOnceSpec)) messageReadsOnceCard

/-- THE SECOND FORM's CARD OF 'posthouselaw2.MessageReadMatchesSpec'. -/
def messageReadMatchesSpecUptoCard : Claim7 := { stood := { row := messageReadMatchesSpecUptoRow, standIns := [], harness := (true, "2d3290b79d16a783f7acf5041b0ece1f69d794ad7c1c6328a169de494fa91532"), looks := true }, kinds := [], alts := [], laidByText := true, laidKinds := [.data, .pinned], laidTests := true, laidLooks := .later }
def MessageReadMatchesSpecUptoCardSaid : Prop := Claim7.holds Tryz.pinned (.plain (OpenSpec.upto messageReadMatchesSpecSpec)) messageReadMatchesSpecUptoCard

/-- THE SECOND FORM's CARD OF 'posthouselaw2.MessageWriteMatchesSpec'. -/
def messageWriteMatchesSpecUptoCard : Claim7 := { stood := { row := messageWriteMatchesSpecUptoRow, standIns := [], harness := (true, "2d3290b79d16a783f7acf5041b0ece1f69d794ad7c1c6328a169de494fa91532"), looks := true }, kinds := [], alts := [], laidByText := true, laidKinds := [.data, .pinned], laidTests := true, laidLooks := .later }
def MessageWriteMatchesSpecUptoCardSaid : Prop := Claim7.holds Tryz.pinned (.plain (OpenSpec.upto messageWriteMatchesSpecSpec)) messageWriteMatchesSpecUptoCard

/-- THE SECOND FORM's CARD OF 'posthouselaw2.MessageRoundTrip'. -/
def messageRoundTripUptoCard : Claim7 := { stood := { row := messageRoundTripUptoRow, standIns := [], harness := (true, "2d3290b79d16a783f7acf5041b0ece1f69d794ad7c1c6328a169de494fa91532"), looks := true }, kinds := [], alts := [], laidByText := true, laidKinds := [.data, .pinned], laidTests := true, laidLooks := .later }
def MessageRoundTripUptoCardSaid : Prop := Claim7.holds Tryz.pinned (.plain (OpenSpec.upto messageRoundTripSpec)) messageRoundTripUptoCard

/-- THE SECOND FORM's CARD OF 'posthouselaw2.MessageIdMatchesSpec'. -/
def messageIdMatchesSpecUptoCard : Claim7 := { stood := { row := messageIdMatchesSpecUptoRow, standIns := [], harness := (true, "2d3290b79d16a783f7acf5041b0ece1f69d794ad7c1c6328a169de494fa91532"), looks := true }, kinds := [], alts := [], laidByText := true, laidKinds := [.data, .pinned], laidTests := true, laidLooks := .later }
def MessageIdMatchesSpecUptoCardSaid : Prop := Claim7.holds Tryz.pinned (.plain (OpenSpec.upto messageIdMatchesSpecSpec)) messageIdMatchesSpecUptoCard

/-- THE SECOND FORM's CARD OF 'posthouselaw2.MessageReadsOnce'. -/
def messageReadsOnceUptoCard : Claim7 := { stood := { row := messageReadsOnceUptoRow, standIns := [], harness := (true, "2d3290b79d16a783f7acf5041b0ece1f69d794ad7c1c6328a169de494fa91532"), looks := true }, kinds := [], alts := [], laidByText := true, laidKinds := [.data, .pinned], laidTests := true, laidLooks := .later }
def MessageReadsOnceUptoCardSaid : Prop := Claim7.holds Tryz.pinned (.plain (OpenSpec.upto messageReadsOnceSpec)) messageReadsOnceUptoCard
end Rows
end Go.Proofs.YtojpbgaccmkggaaGreatDoor
