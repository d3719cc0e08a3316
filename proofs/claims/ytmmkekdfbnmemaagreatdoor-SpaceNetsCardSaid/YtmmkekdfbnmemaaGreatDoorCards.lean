/-
  DERIVED. GIVEN WITH THE SEED: THE CARDS: each row of YtmmkekdfbnmemaaGreatDoorRows.lean that lists a variable, with what it lists TIED to the program's text (the seventh form; the later family's looks); each row that meets fmt, with fmt's text TOLD by the authors' own Lean function (tested against real Go, not proved from fmt's source: count such statements apart). THE CARD IS WHAT COUNTS. Prove the row's statement (the work); the ties are given (YtmmkekdfbnmemaaGreatDoorTie.lean); close each card by the builder's one call (the guide's Derived/Test/ToyasCard.lean, 'card_holds'). Laid BY PROGRAM, IN A SANDBOX (cutbox-door.mjs). By AI agents, Wed Nov 11 2026. No macro, syntax, notation, axiom, sorry.
-/
import Derived.Test.YtmmkekdfbnmemaaGreatDoorRows
import GoSem.ClaimSeven
namespace Go.Proofs.YtmmkekdfbnmemaaGreatDoor
namespace Rows

/-- THE TIED CARD OF 'scrimlaw29.SpaceNets'. -/
def spaceNetsCard : Claim7 := { stood := { row := spaceNetsRow, standIns := [], harness := (true, "a330b613f7f087fc55329cb212b68036506e6178916897201d6b89d792460492"), looks := true }, kinds := [], alts := [], laidByText := true, laidKinds := [.data, .data, .data, .data, .sentinel, .sentinel, .pinned], laidTests := true, laidLooks := .later }
def SpaceNetsCardSaid : Prop := Claim7.holds Tryz.pinned (.plain (OpenSpec.ofChange spaceNetsSpec)) spaceNetsCard

/-- THE SECOND FORM's CARD OF 'scrimlaw29.SpaceNets'. -/
def spaceNetsUptoCard : Claim7 := { stood := { row := spaceNetsUptoRow, standIns := [], harness := (true, "a330b613f7f087fc55329cb212b68036506e6178916897201d6b89d792460492"), looks := true }, kinds := [], alts := [], laidByText := true, laidKinds := [.data, .data, .data, .data, .sentinel, .sentinel, .pinned], laidTests := true, laidLooks := .later }
def SpaceNetsUptoCardSaid : Prop := Claim7.holds Tryz.pinned (.plain (OpenSpec.upto spaceNetsSpec)) spaceNetsUptoCard
end Rows
end Go.Proofs.YtmmkekdfbnmemaaGreatDoor
