/-
  DERIVED. GIVEN WITH THE SEED: THE CARDS: each row of YtekaipjfmlnggaaGreatDoorRows.lean that lists a variable, with what it lists TIED to the program's text (the seventh form; the later family's looks); each row that meets fmt, with fmt's text TOLD by the authors' own Lean function (tested against real Go, not proved from fmt's source: count such statements apart). THE CARD IS WHAT COUNTS. Prove the row's statement (the work); the ties are given (YtekaipjfmlnggaaGreatDoorTie.lean); close each card by the builder's one call (the guide's Derived/Test/ToyasCard.lean, 'card_holds'). Laid BY PROGRAM, IN A SANDBOX (cutbox-door.mjs). By AI agents, Wed Nov 11 2026. No macro, syntax, notation, axiom, sorry.
-/
import Derived.Test.YtekaipjfmlnggaaGreatDoorRows
import GoSem.ClaimSeven
namespace Go.Proofs.YtekaipjfmlnggaaGreatDoor
namespace Rows

/-- THE TIED CARD OF 'posthouselaw2.InviteWriteMatchesSpec'. -/
def inviteWriteMatchesSpecCard : Claim7 := { stood := { row := inviteWriteMatchesSpecRow, standIns := [], harness := (true, "736bccbea963db9df3a2d1041bb64b6d08a63b6b72fabe58b8caffc2ae794207"), looks := true }, kinds := [], alts := [], laidByText := true, laidKinds := [.data, .data, .data, .data, .sentinel, .sentinel, .pinned], laidTests := true, laidLooks := .later }
def InviteWriteMatchesSpecCardSaid : Prop := Claim7.holds Tryz.pinned (.plain (OpenSpec.ofChange inviteWriteMatchesSpecSpec)) inviteWriteMatchesSpecCard

/-- THE TIED CARD OF 'posthouselaw2.InviteReadsValid'. -/
def inviteReadsValidCard : Claim7 := { stood := { row := inviteReadsValidRow, standIns := [], harness := (true, "736bccbea963db9df3a2d1041bb64b6d08a63b6b72fabe58b8caffc2ae794207"), looks := true }, kinds := [], alts := [], laidByText := true, laidKinds := [.data, .data, .data, .data, .sentinel, .sentinel, .pinned], laidTests := true, laidLooks := .later }
def InviteReadsValidCardSaid : Prop := Claim7.holds Tryz.pinned (.plain (OpenSpec.ofChange inviteReadsValidSpec)) inviteReadsValidCard

/-- THE TIED CARD OF 'posthouselaw2.InviteOfMatchesSpec'. -/
def inviteOfMatchesSpecCard : Claim7 := { stood := { row := inviteOfMatchesSpecRow, standIns := [], harness := (true, "736bccbea963db9df3a2d1041bb64b6d08a63b6b72fabe58b8caffc2ae794207"), looks := true }, kinds := [], alts := [], laidByText := true, laidKinds := [.data, .data, .data, .data, .sentinel, .sentinel, .pinned], laidTests := true, laidLooks := .later }
def InviteOfMatchesSpecCardSaid : Prop := Claim7.holds Tryz.pinned (.plain (OpenSpec.ofChange inviteOfMatchesSpecSpec)) inviteOfMatchesSpecCard

/-- THE SECOND FORM's CARD OF 'posthouselaw2.InviteWriteMatchesSpec'. -/
def inviteWriteMatchesSpecUptoCard : Claim7 := { stood := { row := inviteWriteMatchesSpecUptoRow, standIns := [], harness := (true, "736bccbea963db9df3a2d1041bb64b6d08a63b6b72fabe58b8caffc2ae794207"), looks := true }, kinds := [], alts := [], laidByText := true, laidKinds := [.data, .data, .data, .data, .sentinel, .sentinel, .pinned], laidTests := true, laidLooks := .later }
def InviteWriteMatchesSpecUptoCardSaid : Prop := Claim7.holds Tryz.pinned (.plain (OpenSpec.upto inviteWriteMatchesSpecSpec)) inviteWriteMatchesSpecUptoCard

/-- THE SECOND FORM's CARD OF 'posthouselaw2.InviteReadsValid'. -/
def inviteReadsValidUptoCard : Claim7 := { stood := { row := inviteReadsValidUptoRow, standIns := [], harness := (true, "736bccbea963db9df3a2d1041bb64b6d08a63b6b72fabe58b8caffc2ae794207"), looks := true }, kinds := [], alts := [], laidByText := true, laidKinds := [.data, .data, .data, .data, .sentinel, .sentinel, .pinned], laidTests := true, laidLooks := .later }
def InviteReadsValidUptoCardSaid : Prop := Claim7.holds Tryz.pinned (.plain (OpenSpec.upto inviteReadsValidSpec)) inviteReadsValidUptoCard

/-- THE SECOND FORM's CARD OF 'posthouselaw2.InviteOfMatchesSpec'. -/
def inviteOfMatchesSpecUptoCard : Claim7 := { stood := { row := inviteOfMatchesSpecUptoRow, standIns := [], harness := (true, "736bccbea963db9df3a2d1041bb64b6d08a63b6b72fabe58b8caffc2ae794207"), looks := true }, kinds := [], alts := [], laidByText := true, laidKinds := [.data, .data, .data, .data, .sentinel, .sentinel, .pinned], laidTests := true, laidLooks := .later }
def InviteOfMatchesSpecUptoCardSaid : Prop := Claim7.holds Tryz.pinned (.plain (OpenSpec.upto inviteOfMatchesSpecSpec)) inviteOfMatchesSpecUptoCard
end Rows
end Go.Proofs.YtekaipjfmlnggaaGreatDoor
