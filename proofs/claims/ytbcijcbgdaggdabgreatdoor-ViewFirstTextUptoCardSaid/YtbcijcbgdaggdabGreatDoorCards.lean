/-
  DERIVED. GIVEN WITH THE SEED: THE CARDS: each row of YtbcijcbgdaggdabGreatDoorRows.lean that lists a variable, with what it lists TIED to the program's text (the seventh form; the later family's looks); each row that meets fmt, with fmt's text TOLD by the authors' own Lean function (tested against real Go, not proved from fmt's source: count such statements apart). THE CARD IS WHAT COUNTS. Prove the row's statement (the work); the ties are given (YtbcijcbgdaggdabGreatDoorTie.lean); close each card by the builder's one call (the guide's Derived/Test/ToyasCard.lean, 'card_holds'). Laid BY PROGRAM, IN A SANDBOX (cutbox-door.mjs). By AI agents, Wed Nov 11 2026. No macro, syntax, notation, axiom, sorry.
-/
import Derived.Test.YtbcijcbgdaggdabGreatDoorRows
import GoSem.ClaimSeven
namespace Go.Proofs.YtbcijcbgdaggdabGreatDoor
namespace Rows

/-- THE TIED CARD OF 'posthouselaw2.ViewTextMatchesSpec'. -/
def viewTextMatchesSpecCard : Claim7 := { stood := { row := viewTextMatchesSpecRow, standIns := [], harness := (true, "2a7797e7554a54eefbaf943d4e312e4e3089e811eb0e8c5bd8ded329552036ad"), looks := true }, kinds := [], alts := [], laidByText := true, laidKinds := [.data, .data, .data, .data, .sentinel, .sentinel, .pinned], laidTests := true, laidLooks := .later }
def ViewTextMatchesSpecCardSaid : Prop := Claim7.holds Tryz.pinned (.plain (OpenSpec.ofChange viewTextMatchesSpecSpec)) viewTextMatchesSpecCard

/-- THE TIED CARD OF 'posthouselaw2.ViewFilesMatchesSpec'. -/
def viewFilesMatchesSpecCard : Claim7 := { stood := { row := viewFilesMatchesSpecRow, standIns := [], harness := (true, "2a7797e7554a54eefbaf943d4e312e4e3089e811eb0e8c5bd8ded329552036ad"), looks := true }, kinds := [], alts := [], laidByText := true, laidKinds := [.data, .data, .data, .data, .sentinel, .sentinel, .pinned], laidTests := true, laidLooks := .later }
def ViewFilesMatchesSpecCardSaid : Prop := Claim7.holds Tryz.pinned (.plain (OpenSpec.ofChange viewFilesMatchesSpecSpec)) viewFilesMatchesSpecCard

/-- THE TIED CARD OF 'posthouselaw2.ViewFirstText'. -/
def viewFirstTextCard : Claim7 := { stood := { row := viewFirstTextRow, standIns := [], harness := (true, "2a7797e7554a54eefbaf943d4e312e4e3089e811eb0e8c5bd8ded329552036ad"), looks := true }, kinds := [], alts := [], laidByText := true, laidKinds := [.data, .data, .data, .data, .sentinel, .sentinel, .pinned], laidTests := true, laidLooks := .later }
def ViewFirstTextCardSaid : Prop := Claim7.holds Tryz.pinned (.plain (OpenSpec.ofChange viewFirstTextSpec)) viewFirstTextCard

/-- THE SECOND FORM's CARD OF 'posthouselaw2.ViewTextMatchesSpec'. -/
def viewTextMatchesSpecUptoCard : Claim7 := { stood := { row := viewTextMatchesSpecUptoRow, standIns := [], harness := (true, "2a7797e7554a54eefbaf943d4e312e4e3089e811eb0e8c5bd8ded329552036ad"), looks := true }, kinds := [], alts := [], laidByText := true, laidKinds := [.data, .data, .data, .data, .sentinel, .sentinel, .pinned], laidTests := true, laidLooks := .later }
def ViewTextMatchesSpecUptoCardSaid : Prop := Claim7.holds Tryz.pinned (.plain (OpenSpec.upto viewTextMatchesSpecSpec)) viewTextMatchesSpecUptoCard

/-- THE SECOND FORM's CARD OF 'posthouselaw2.ViewFilesMatchesSpec'. -/
def viewFilesMatchesSpecUptoCard : Claim7 := { stood := { row := viewFilesMatchesSpecUptoRow, standIns := [], harness := (true, "2a7797e7554a54eefbaf943d4e312e4e3089e811eb0e8c5bd8ded329552036ad"), looks := true }, kinds := [], alts := [], laidByText := true, laidKinds := [.data, .data, .data, .data, .sentinel, .sentinel, .pinned], laidTests := true, laidLooks := .later }
def ViewFilesMatchesSpecUptoCardSaid : Prop := Claim7.holds Tryz.pinned (.plain (OpenSpec.upto viewFilesMatchesSpecSpec)) viewFilesMatchesSpecUptoCard

/-- THE SECOND FORM's CARD OF 'posthouselaw2.ViewFirstText'. -/
def viewFirstTextUptoCard : Claim7 := { stood := { row := viewFirstTextUptoRow, standIns := [], harness := (true, "2a7797e7554a54eefbaf943d4e312e4e3089e811eb0e8c5bd8ded329552036ad"), looks := true }, kinds := [], alts := [], laidByText := true, laidKinds := [.data, .data, .data, .data, .sentinel, .sentinel, .pinned], laidTests := true, laidLooks := .later }
def ViewFirstTextUptoCardSaid : Prop := Claim7.holds Tryz.pinned (.plain (OpenSpec.upto viewFirstTextSpec)) viewFirstTextUptoCard
end Rows
end Go.Proofs.YtbcijcbgdaggdabGreatDoor
