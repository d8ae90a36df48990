/-
  DERIVED. GIVEN WITH THE SEED: THE CARDS: each row of YtgpcmiimfgghdaaGreatDoorRows.lean that lists a variable, with what it lists TIED to the program's text (the seventh form; the later family's looks); each row that meets fmt, with fmt's text TOLD by the authors' own Lean function (tested against real Go, not proved from fmt's source: count such statements apart). THE CARD IS WHAT COUNTS. Prove the row's statement (the work); the ties are given (YtgpcmiimfgghdaaGreatDoorTie.lean); close each card by the builder's one call (the guide's Derived/Test/ToyasCard.lean, 'card_holds'). Laid BY PROGRAM, IN A SANDBOX (cutbox-door.mjs). By AI agents, Wed Nov 11 2026. No macro, syntax, notation, axiom, sorry.
-/
import Derived.Test.YtgpcmiimfgghdaaGreatDoorRows
import GoSem.ClaimSeven
namespace Go.Proofs.YtgpcmiimfgghdaaGreatDoor
namespace Rows

/-- THE TIED CARD OF 'posthouselaw2.CanonicalSameMatchesSpec'. -/
def canonicalSameMatchesSpecCard : Claim7 := { stood := { row := canonicalSameMatchesSpecRow, standIns := [], harness := (true, "88f81267d592ac8b415d28846cdfcffa115b16e504281b9015cd7c6f934a69e5"), looks := true }, kinds := [], alts := [], laidByText := true, laidKinds := [.data, .data, .data, .data, .sentinel, .sentinel, .pinned], laidTests := true, laidLooks := .later }
def CanonicalSameMatchesSpecCardSaid : Prop := Claim7.holds Tryz.pinned (.plain (OpenSpec.ofChange canonicalSameMatchesSpecSpec)) canonicalSameMatchesSpecCard

/-- THE TIED CARD OF 'posthouselaw2.CanonicalFormMatchesSpec'. -/
def canonicalFormMatchesSpecCard : Claim7 := { stood := { row := canonicalFormMatchesSpecRow, standIns := [], harness := (true, "88f81267d592ac8b415d28846cdfcffa115b16e504281b9015cd7c6f934a69e5"), looks := true }, kinds := [], alts := [], laidByText := true, laidKinds := [.data, .data, .data, .data, .sentinel, .sentinel, .pinned], laidTests := true, laidLooks := .later }
def CanonicalFormMatchesSpecCardSaid : Prop := Claim7.holds Tryz.pinned (.plain (OpenSpec.ofChange canonicalFormMatchesSpecSpec)) canonicalFormMatchesSpecCard

/-- THE SECOND FORM's CARD OF 'posthouselaw2.CanonicalSameMatchesSpec'. -/
def canonicalSameMatchesSpecUptoCard : Claim7 := { stood := { row := canonicalSameMatchesSpecUptoRow, standIns := [], harness := (true, "88f81267d592ac8b415d28846cdfcffa115b16e504281b9015cd7c6f934a69e5"), looks := true }, kinds := [], alts := [], laidByText := true, laidKinds := [.data, .data, .data, .data, .sentinel, .sentinel, .pinned], laidTests := true, laidLooks := .later }
def CanonicalSameMatchesSpecUptoCardSaid : Prop := Claim7.holds Tryz.pinned (.plain (OpenSpec.upto canonicalSameMatchesSpecSpec)) canonicalSameMatchesSpecUptoCard

/-- THE SECOND FORM's CARD OF 'posthouselaw2.CanonicalFormMatchesSpec'. -/
def canonicalFormMatchesSpecUptoCard : Claim7 := { stood := { row := canonicalFormMatchesSpecUptoRow, standIns := [], harness := (true, "88f81267d592ac8b415d28846cdfcffa115b16e504281b9015cd7c6f934a69e5"), looks := true }, kinds := [], alts := [], laidByText := true, laidKinds := [.data, .data, .data, .data, .sentinel, .sentinel, .pinned], laidTests := true, laidLooks := .later }
def CanonicalFormMatchesSpecUptoCardSaid : Prop := Claim7.holds Tryz.pinned (.plain (OpenSpec.upto canonicalFormMatchesSpecSpec)) canonicalFormMatchesSpecUptoCard
end Rows
end Go.Proofs.YtgpcmiimfgghdaaGreatDoor
