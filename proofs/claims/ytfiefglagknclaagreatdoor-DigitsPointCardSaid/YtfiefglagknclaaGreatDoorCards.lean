/-
  DERIVED. GIVEN WITH THE SEED: THE CARDS: each row of YtfiefglagknclaaGreatDoorRows.lean that lists a variable, with what it lists TIED to the program's text (the seventh form; the later family's looks); each row that meets fmt, with fmt's text TOLD by the authors' own Lean function (tested against real Go, not proved from fmt's source: count such statements apart). THE CARD IS WHAT COUNTS. Prove the row's statement (the work); the ties are given (YtfiefglagknclaaGreatDoorTie.lean); close each card by the builder's one call (the guide's Derived/Test/ToyasCard.lean, 'card_holds'). Laid BY PROGRAM, IN A SANDBOX (cutbox-door.mjs). By AI agents, Wed Nov 11 2026. No macro, syntax, notation, axiom, sorry.
-/
import Derived.Test.YtfiefglagknclaaGreatDoorRows
import GoSem.ClaimSeven
namespace Go.Proofs.YtfiefglagknclaaGreatDoor
namespace Rows

/-- THE TIED CARD OF 'scrimlaw05.DigitsPoint'. -/
def digitsPointCard : Claim7 := { stood := { row := digitsPointRow, standIns := [], harness := (true, "1a8c9002287fa0d69986cd2befaabbb52f680ef599afb809d7e5b2a86a19ef22"), looks := false }, kinds := [], alts := [], laidByText := true, laidKinds := [.data, .data, .data, .data, .pinned], laidTests := true, laidLooks := .later }
def DigitsPointCardSaid : Prop := Claim7.holds Tryz.pinned (.plain (OpenSpec.ofChange digitsPointSpec)) digitsPointCard

/-- THE TIED CARD OF 'scrimlaw20.TokenCuts'. -/
def tokenCutsCard : Claim7 := { stood := { row := tokenCutsRow, standIns := [], harness := (true, "1a8c9002287fa0d69986cd2befaabbb52f680ef599afb809d7e5b2a86a19ef22"), looks := false }, kinds := [], alts := [], laidByText := true, laidKinds := [.data, .pinned], laidTests := true, laidLooks := .later }
def TokenCutsCardSaid : Prop := Claim7.holds Tryz.pinned (.plain (OpenSpec.ofChange tokenCutsSpec)) tokenCutsCard

/-- THE SECOND FORM's CARD OF 'scrimlaw05.DigitsPoint'. -/
def digitsPointUptoCard : Claim7 := { stood := { row := digitsPointUptoRow, standIns := [], harness := (true, "1a8c9002287fa0d69986cd2befaabbb52f680ef599afb809d7e5b2a86a19ef22"), looks := false }, kinds := [], alts := [], laidByText := true, laidKinds := [.data, .data, .data, .data, .pinned], laidTests := true, laidLooks := .later }
def DigitsPointUptoCardSaid : Prop := Claim7.holds Tryz.pinned (.plain (OpenSpec.upto digitsPointSpec)) digitsPointUptoCard

/-- THE SECOND FORM's CARD OF 'scrimlaw20.TokenCuts'. -/
def tokenCutsUptoCard : Claim7 := { stood := { row := tokenCutsUptoRow, standIns := [], harness := (true, "1a8c9002287fa0d69986cd2befaabbb52f680ef599afb809d7e5b2a86a19ef22"), looks := false }, kinds := [], alts := [], laidByText := true, laidKinds := [.data, .pinned], laidTests := true, laidLooks := .later }
def TokenCutsUptoCardSaid : Prop := Claim7.holds Tryz.pinned (.plain (OpenSpec.upto tokenCutsSpec)) tokenCutsUptoCard
end Rows
end Go.Proofs.YtfiefglagknclaaGreatDoor
