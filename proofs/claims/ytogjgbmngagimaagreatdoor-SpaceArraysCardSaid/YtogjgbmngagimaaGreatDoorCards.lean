/-
  DERIVED. GIVEN WITH THE SEED: THE CARDS: each row of YtogjgbmngagimaaGreatDoorRows.lean that lists a variable, with what it lists TIED to the program's text (the seventh form; the later family's looks); each row that meets fmt, with fmt's text TOLD by the authors' own Lean function (tested against real Go, not proved from fmt's source: count such statements apart). THE CARD IS WHAT COUNTS. Prove the row's statement (the work); the ties are given (YtogjgbmngagimaaGreatDoorTie.lean); close each card by the builder's one call (the guide's Derived/Test/ToyasCard.lean, 'card_holds'). Laid BY PROGRAM, IN A SANDBOX (cutbox-door.mjs). By AI agents, Wed Nov 11 2026. No macro, syntax, notation, axiom, sorry.
-/
import Derived.Test.YtogjgbmngagimaaGreatDoorRows
import GoSem.ClaimSeven
namespace Go.Proofs.YtogjgbmngagimaaGreatDoor
namespace Rows

/-- THE TIED CARD OF 'scrimlaw30.ConfigTexts'. -/
def configTextsCard : Claim7 := { stood := { row := configTextsRow, standIns := [], harness := (true, "d5773b539a52018625886863ac7e0cf65b0b73922618073c32c60466ee8a2160"), looks := true }, kinds := [], alts := [], laidByText := true, laidKinds := [.data, .data, .data, .data, .sentinel, .sentinel, .pinned], laidTests := true, laidLooks := .later }
def ConfigTextsCardSaid : Prop := Claim7.holds Tryz.pinned (.plain (OpenSpec.ofChange configTextsSpec)) configTextsCard

/-- THE TIED CARD OF 'scrimlaw30.ConfigParses'. -/
def configParsesCard : Claim7 := { stood := { row := configParsesRow, standIns := [], harness := (true, "d5773b539a52018625886863ac7e0cf65b0b73922618073c32c60466ee8a2160"), looks := true }, kinds := [], alts := [], laidByText := true, laidKinds := [.data, .data, .data, .data, .sentinel, .sentinel, .pinned], laidTests := true, laidLooks := .later }
def ConfigParsesCardSaid : Prop := Claim7.holds Tryz.pinned (.plain (OpenSpec.ofChange configParsesSpec)) configParsesCard

/-- THE TIED CARD OF 'scrimlaw29.SpaceArrays'. -/
def spaceArraysCard : Claim7 := { stood := { row := spaceArraysRow, standIns := [], harness := (true, "d5773b539a52018625886863ac7e0cf65b0b73922618073c32c60466ee8a2160"), looks := true }, kinds := [], alts := [], laidByText := true, laidKinds := [.data, .data, .data, .data, .sentinel, .sentinel, .pinned], laidTests := true, laidLooks := .later }
def SpaceArraysCardSaid : Prop := Claim7.holds Tryz.pinned (.plain (OpenSpec.ofChange spaceArraysSpec)) spaceArraysCard

/-- THE SECOND FORM's CARD OF 'scrimlaw30.ConfigTexts'. -/
def configTextsUptoCard : Claim7 := { stood := { row := configTextsUptoRow, standIns := [], harness := (true, "d5773b539a52018625886863ac7e0cf65b0b73922618073c32c60466ee8a2160"), looks := true }, kinds := [], alts := [], laidByText := true, laidKinds := [.data, .data, .data, .data, .sentinel, .sentinel, .pinned], laidTests := true, laidLooks := .later }
def ConfigTextsUptoCardSaid : Prop := Claim7.holds Tryz.pinned (.plain (OpenSpec.upto configTextsSpec)) configTextsUptoCard

/-- THE SECOND FORM's CARD OF 'scrimlaw30.ConfigParses'. -/
def configParsesUptoCard : Claim7 := { stood := { row := configParsesUptoRow, standIns := [], harness := (true, "d5773b539a52018625886863ac7e0cf65b0b73922618073c32c60466ee8a2160"), looks := true }, kinds := [], alts := [], laidByText := true, laidKinds := [.data, .data, .data, .data, .sentinel, .sentinel, .pinned], laidTests := true, laidLooks := .later }
def ConfigParsesUptoCardSaid : Prop := Claim7.holds Tryz.pinned (.plain (OpenSpec.upto configParsesSpec)) configParsesUptoCard

/-- THE SECOND FORM's CARD OF 'scrimlaw29.SpaceArrays'. -/
def spaceArraysUptoCard : Claim7 := { stood := { row := spaceArraysUptoRow, standIns := [], harness := (true, "d5773b539a52018625886863ac7e0cf65b0b73922618073c32c60466ee8a2160"), looks := true }, kinds := [], alts := [], laidByText := true, laidKinds := [.data, .data, .data, .data, .sentinel, .sentinel, .pinned], laidTests := true, laidLooks := .later }
def SpaceArraysUptoCardSaid : Prop := Claim7.holds Tryz.pinned (.plain (OpenSpec.upto spaceArraysSpec)) spaceArraysUptoCard
end Rows
end Go.Proofs.YtogjgbmngagimaaGreatDoor
