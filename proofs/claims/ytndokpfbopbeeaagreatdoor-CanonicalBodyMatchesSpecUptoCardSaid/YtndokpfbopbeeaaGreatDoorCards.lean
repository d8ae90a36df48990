/-
  DERIVED. GIVEN WITH THE SEED: THE CARDS: each row of YtndokpfbopbeeaaGreatDoorRows.lean that lists a variable, with what it lists TIED to the program's text (the seventh form; the later family's looks); each row that meets fmt, with fmt's text TOLD by the authors' own Lean function (tested against real Go, not proved from fmt's source: count such statements apart). THE CARD IS WHAT COUNTS. Prove the row's statement (the work); the ties are given (YtndokpfbopbeeaaGreatDoorTie.lean); close each card by the builder's one call (the guide's Derived/Test/ToyasCard.lean, 'card_holds'). Laid BY PROGRAM, IN A SANDBOX (cutbox-door.mjs). By AI agents, Wed Nov 11 2026. No macro, syntax, notation, axiom, sorry.
-/
import Derived.Test.YtndokpfbopbeeaaGreatDoorRows
import GoSem.ClaimSeven
namespace Go.Proofs.YtndokpfbopbeeaaGreatDoor
namespace Rows

/-- THE TIED CARD OF 'posthouselaw2.CanonicalFieldsMatchesSpec'. -/
def canonicalFieldsMatchesSpecCard : Claim7 := { stood := { row := canonicalFieldsMatchesSpecRow, standIns := [], harness := (true, "fdb477a6169469da7655e197d89d75900e34872692bb868f4f9965f056131160"), looks := true }, kinds := [], alts := [], laidByText := true, laidKinds := [.data, .data, .data, .data, .sentinel, .sentinel, .pinned], laidTests := true, laidLooks := .later }
def CanonicalFieldsMatchesSpecCardSaid : Prop := Claim7.holds Tryz.pinned (.plain (OpenSpec.ofChange canonicalFieldsMatchesSpecSpec)) canonicalFieldsMatchesSpecCard

/-- THE TIED CARD OF 'posthouselaw2.CanonicalBodyMatchesSpec'. -/
def canonicalBodyMatchesSpecCard : Claim7 := { stood := { row := canonicalBodyMatchesSpecRow, standIns := [], harness := (true, "fdb477a6169469da7655e197d89d75900e34872692bb868f4f9965f056131160"), looks := true }, kinds := [], alts := [], laidByText := true, laidKinds := [.data, .data, .data, .data, .sentinel, .sentinel, .pinned], laidTests := true, laidLooks := .later }
def CanonicalBodyMatchesSpecCardSaid : Prop := Claim7.holds Tryz.pinned (.plain (OpenSpec.ofChange canonicalBodyMatchesSpecSpec)) canonicalBodyMatchesSpecCard

/-- THE SECOND FORM's CARD OF 'posthouselaw2.CanonicalFieldsMatchesSpec'. -/
def canonicalFieldsMatchesSpecUptoCard : Claim7 := { stood := { row := canonicalFieldsMatchesSpecUptoRow, standIns := [], harness := (true, "fdb477a6169469da7655e197d89d75900e34872692bb868f4f9965f056131160"), looks := true }, kinds := [], alts := [], laidByText := true, laidKinds := [.data, .data, .data, .data, .sentinel, .sentinel, .pinned], laidTests := true, laidLooks := .later }
def CanonicalFieldsMatchesSpecUptoCardSaid : Prop := Claim7.holds Tryz.pinned (.plain (OpenSpec.upto canonicalFieldsMatchesSpecSpec)) canonicalFieldsMatchesSpecUptoCard

/-- THE SECOND FORM's CARD OF 'posthouselaw2.CanonicalBodyMatchesSpec'. -/
def canonicalBodyMatchesSpecUptoCard : Claim7 := { stood := { row := canonicalBodyMatchesSpecUptoRow, standIns := [], harness := (true, "fdb477a6169469da7655e197d89d75900e34872692bb868f4f9965f056131160"), looks := true }, kinds := [], alts := [], laidByText := true, laidKinds := [.data, .data, .data, .data, .sentinel, .sentinel, .pinned], laidTests := true, laidLooks := .later }
def CanonicalBodyMatchesSpecUptoCardSaid : Prop := Claim7.holds Tryz.pinned (.plain (OpenSpec.upto canonicalBodyMatchesSpecSpec)) canonicalBodyMatchesSpecUptoCard
end Rows
end Go.Proofs.YtndokpfbopbeeaaGreatDoor
