/-
  DERIVED. GIVEN WITH THE SEED: THE CARDS: each row of YtiidadfafmcdmaaGreatDoorRows.lean that lists a variable, with what it lists TIED to the program's text (the seventh form; the later family's looks); each row that meets fmt, with fmt's text TOLD by the authors' own Lean function (tested against real Go, not proved from fmt's source: count such statements apart). THE CARD IS WHAT COUNTS. Prove the row's statement (the work); the ties are given (YtiidadfafmcdmaaGreatDoorTie.lean); close each card by the builder's one call (the guide's Derived/Test/ToyasCard.lean, 'card_holds'). Laid BY PROGRAM, IN A SANDBOX (cutbox-door.mjs). By AI agents, Wed Nov 11 2026. No macro, syntax, notation, axiom, sorry.
-/
import Derived.Test.YtiidadfafmcdmaaGreatDoorRows
import GoSem.ClaimSeven
namespace Go.Proofs.YtiidadfafmcdmaaGreatDoor
namespace Rows

/-- THE TIED CARD OF 'posthouselaw2.PartsValidateMatchesSpec'. -/
def partsValidateMatchesSpecCard : Claim7 := { stood := { row := partsValidateMatchesSpecRow, standIns := [], harness := (true, "a741e50c7a2d5873ca5ad0480ffeb3748db5b9c95a8f6dea5e8a57773ff427e3"), looks := true }, kinds := [], alts := [], laidByText := true, laidKinds := [.data, .data, .data, .data, .sentinel, .sentinel, .pinned], laidTests := true, laidLooks := .later }
def PartsValidateMatchesSpecCardSaid : Prop := Claim7.holds Tryz.pinned (.plain (OpenSpec.ofChange partsValidateMatchesSpecSpec)) partsValidateMatchesSpecCard

/-- THE TIED CARD OF 'posthouselaw2.PartsSplitMatchesSpec'. -/
def partsSplitMatchesSpecCard : Claim7 := { stood := { row := partsSplitMatchesSpecRow, standIns := [], harness := (true, "a741e50c7a2d5873ca5ad0480ffeb3748db5b9c95a8f6dea5e8a57773ff427e3"), looks := true }, kinds := [], alts := [], laidByText := true, laidKinds := [.data, .data, .data, .data, .sentinel, .sentinel, .pinned], laidTests := true, laidLooks := .later }
def PartsSplitMatchesSpecCardSaid : Prop := Claim7.holds Tryz.pinned (.plain (OpenSpec.ofChange partsSplitMatchesSpecSpec)) partsSplitMatchesSpecCard

/-- THE TIED CARD OF 'posthouselaw2.PartsJoinMatchesSpec'. -/
def partsJoinMatchesSpecCard : Claim7 := { stood := { row := partsJoinMatchesSpecRow, standIns := [], harness := (true, "a741e50c7a2d5873ca5ad0480ffeb3748db5b9c95a8f6dea5e8a57773ff427e3"), looks := true }, kinds := [], alts := [], laidByText := true, laidKinds := [.data, .data, .data, .data, .sentinel, .sentinel, .pinned], laidTests := true, laidLooks := .later }
def PartsJoinMatchesSpecCardSaid : Prop := Claim7.holds Tryz.pinned (.plain (OpenSpec.ofChange partsJoinMatchesSpecSpec)) partsJoinMatchesSpecCard

/-- THE TIED CARD OF 'posthouselaw2.PartsRoundTrip'. -/
def partsRoundTripCard : Claim7 := { stood := { row := partsRoundTripRow, standIns := [], harness := (true, "a741e50c7a2d5873ca5ad0480ffeb3748db5b9c95a8f6dea5e8a57773ff427e3"), looks := true }, kinds := [], alts := [], laidByText := true, laidKinds := [.data, .data, .data, .data, .sentinel, .sentinel, .pinned], laidTests := true, laidLooks := .later }
def PartsRoundTripCardSaid : Prop := Claim7.holds Tryz.pinned (.plain (OpenSpec.ofChange partsRoundTripSpec)) partsRoundTripCard

/-- THE TIED CARD OF 'posthouselaw2.PartsSplitAgain'. -/
def partsSplitAgainCard : Claim7 := { stood := { row := partsSplitAgainRow, standIns := [], harness := (true, "a741e50c7a2d5873ca5ad0480ffeb3748db5b9c95a8f6dea5e8a57773ff427e3"), looks := true }, kinds := [], alts := [], laidByText := true, laidKinds := [.data, .data, .data, .data, .sentinel, .sentinel, .pinned], laidTests := true, laidLooks := .later }
def PartsSplitAgainCardSaid : Prop := Claim7.holds Tryz.pinned (.plain (OpenSpec.ofChange partsSplitAgainSpec)) partsSplitAgainCard

/-- THE TIED CARD OF 'posthouselaw2.PartsSectionSteps'. -/
def partsSectionStepsCard : Claim7 := { stood := { row := partsSectionStepsRow, standIns := [], harness := (true, "a741e50c7a2d5873ca5ad0480ffeb3748db5b9c95a8f6dea5e8a57773ff427e3"), looks := true }, kinds := [], alts := [], laidByText := true, laidKinds := [.data, .data, .data, .data, .sentinel, .sentinel, .pinned], laidTests := true, laidLooks := .later }
def PartsSectionStepsCardSaid : Prop := Claim7.holds Tryz.pinned (.plain (OpenSpec.ofChange partsSectionStepsSpec)) partsSectionStepsCard

/-- THE SECOND FORM's CARD OF 'posthouselaw2.PartsValidateMatchesSpec'. -/
def partsValidateMatchesSpecUptoCard : Claim7 := { stood := { row := partsValidateMatchesSpecUptoRow, standIns := [], harness := (true, "a741e50c7a2d5873ca5ad0480ffeb3748db5b9c95a8f6dea5e8a57773ff427e3"), looks := true }, kinds := [], alts := [], laidByText := true, laidKinds := [.data, .data, .data, .data, .sentinel, .sentinel, .pinned], laidTests := true, laidLooks := .later }
def PartsValidateMatchesSpecUptoCardSaid : Prop := Claim7.holds Tryz.pinned (.plain (OpenSpec.upto partsValidateMatchesSpecSpec)) partsValidateMatchesSpecUptoCard

/-- THE SECOND FORM's CARD OF 'posthouselaw2.PartsSplitMatchesSpec'. -/
def partsSplitMatchesSpecUptoCard : Claim7 := { stood := { row := partsSplitMatchesSpecUptoRow, standIns := [], harness := (true, "a741e50c7a2d5873ca5ad0480ffeb3748db5b9c95a8f6dea5e8a57773ff427e3"), looks := true }, kinds := [], alts := [], laidByText := true, laidKinds := [.data, .data, .data, .data, .sentinel, .sentinel, .pinned], laidTests := true, laidLooks := .later }
def PartsSplitMatchesSpecUptoCardSaid : Prop := Claim7.holds Tryz.pinned (.plain (OpenSpec.upto partsSplitMatchesSpecSpec)) partsSplitMatchesSpecUptoCard

/-- THE SECOND FORM's CARD OF 'posthouselaw2.PartsJoinMatchesSpec'. -/
def partsJoinMatchesSpecUptoCard : Claim7 := { stood := { row := partsJoinMatchesSpecUptoRow, standIns := [], harness := (true, "a741e50c7a2d5873ca5ad0480ffeb3748db5b9c95a8f6dea5e8a57773ff427e3"), looks := true }, kinds := [], alts := [], laidByText := true, laidKinds := [.data, .data, .data, .data, .sentinel, .sentinel, .pinned], laidTests := true, laidLooks := .later }
def PartsJoinMatchesSpecUptoCardSaid : Prop := Claim7.holds Tryz.pinned (.plain (OpenSpec.upto partsJoinMatchesSpecSpec)) partsJoinMatchesSpecUptoCard

/-- THE SECOND FORM's CARD OF 'posthouselaw2.PartsRoundTrip'. -/
def partsRoundTripUptoCard : Claim7 := { stood := { row := partsRoundTripUptoRow, standIns := [], harness := (true, "a741e50c7a2d5873ca5ad0480ffeb3748db5b9c95a8f6dea5e8a57773ff427e3"), looks := true }, kinds := [], alts := [], laidByText := true, laidKinds := [.data, .data, .data, .data, .sentinel, .sentinel, .pinned], laidTests := true, laidLooks := .later }
def PartsRoundTripUptoCardSaid : Prop := Claim7.holds Tryz.pinned (.plain (OpenSpec.upto partsRoundTripSpec)) partsRoundTripUptoCard

/-- THE SECOND FORM's CARD OF 'posthouselaw2.PartsSplitAgain'. -/
def partsSplitAgainUptoCard : Claim7 := { stood := { row := partsSplitAgainUptoRow, standIns := [], harness := (true, "a741e50c7a2d5873ca5ad0480ffeb3748db5b9c95a8f6dea5e8a57773ff427e3"), looks := true }, kinds := [], alts := [], laidByText := true, laidKinds := [.data, .data, .data, .data, .sentinel, .sentinel, .pinned], laidTests := true, laidLooks := .later }
def PartsSplitAgainUptoCardSaid : Prop := Claim7.holds Tryz.pinned (.plain (OpenSpec.upto partsSplitAgainSpec)) partsSplitAgainUptoCard

/-- THE SECOND FORM's CARD OF 'posthouselaw2.PartsSectionSteps'. -/
def partsSectionStepsUptoCard : Claim7 := { stood := { row := partsSectionStepsUptoRow, standIns := [], harness := (true, "a741e50c7a2d5873ca5ad0480ffeb3748db5b9c95a8f6dea5e8a57773ff427e3"), looks := true }, kinds := [], alts := [], laidByText := true, laidKinds := [.data, .data, .data, .data, .sentinel, .sentinel, .pinned], laidTests := true, laidLooks := .later }
def PartsSectionStepsUptoCardSaid : Prop := Claim7.holds Tryz.pinned (.plain (OpenSpec.upto partsSectionStepsSpec)) partsSectionStepsUptoCard
end Rows
end Go.Proofs.YtiidadfafmcdmaaGreatDoor
