/-
  DERIVED. GIVEN WITH THE SEED: THE CARDS: each row of YtmiccalfamepdaaGreatDoorRows.lean that lists a variable, with what it lists TIED to the program's text (the seventh form; the later family's looks); each row that meets fmt, with fmt's text TOLD by the authors' own Lean function (tested against real Go, not proved from fmt's source: count such statements apart). THE CARD IS WHAT COUNTS. Prove the row's statement (the work); the ties are given (YtmiccalfamepdaaGreatDoorTie.lean); close each card by the builder's one call (the guide's Derived/Test/ToyasCard.lean, 'card_holds'). Laid BY PROGRAM, IN A SANDBOX (cutbox-door.mjs). By AI agents, Wed Nov 11 2026. No macro, syntax, notation, axiom, sorry.
-/
import Derived.Test.YtmiccalfamepdaaGreatDoorRows
import GoSem.ClaimSeven
namespace Go.Proofs.YtmiccalfamepdaaGreatDoor
namespace Rows

/-- THE TIED CARD OF 'scrimlaw30.ConfigRight'. -/
def configRightCard : Claim7 := { stood := { row := configRightRow, standIns := [], harness := (true, "38eb138cd35b041340a699b8d58d3602ade29984a09797517ea7e81f24cd4226"), looks := true }, kinds := [], alts := [], laidByText := true, laidKinds := [.data, .data, .data, .data, .sentinel, .sentinel, .pinned], laidTests := true, laidLooks := .later }
def ConfigRightCardSaid : Prop := Claim7.holds Tryz.pinned (.plain (OpenSpec.ofChange configRightSpec)) configRightCard

/-- THE TIED CARD OF 'scrimlaw30.ConfigTexts'. -/
def configTextsCard : Claim7 := { stood := { row := configTextsRow, standIns := [], harness := (true, "38eb138cd35b041340a699b8d58d3602ade29984a09797517ea7e81f24cd4226"), looks := true }, kinds := [], alts := [], laidByText := true, laidKinds := [.data, .data, .data, .data, .sentinel, .sentinel, .pinned], laidTests := true, laidLooks := .later }
def ConfigTextsCardSaid : Prop := Claim7.holds Tryz.pinned (.plain (OpenSpec.ofChange configTextsSpec)) configTextsCard

/-- THE TIED CARD OF 'scrimlaw30.ConfigParses'. -/
def configParsesCard : Claim7 := { stood := { row := configParsesRow, standIns := [], harness := (true, "38eb138cd35b041340a699b8d58d3602ade29984a09797517ea7e81f24cd4226"), looks := true }, kinds := [], alts := [], laidByText := true, laidKinds := [.data, .data, .data, .data, .sentinel, .sentinel, .pinned], laidTests := true, laidLooks := .later }
def ConfigParsesCardSaid : Prop := Claim7.holds Tryz.pinned (.plain (OpenSpec.ofChange configParsesSpec)) configParsesCard

/-- THE SECOND FORM's CARD OF 'scrimlaw30.ConfigRight'. -/
def configRightUptoCard : Claim7 := { stood := { row := configRightUptoRow, standIns := [], harness := (true, "38eb138cd35b041340a699b8d58d3602ade29984a09797517ea7e81f24cd4226"), looks := true }, kinds := [], alts := [], laidByText := true, laidKinds := [.data, .data, .data, .data, .sentinel, .sentinel, .pinned], laidTests := true, laidLooks := .later }
def ConfigRightUptoCardSaid : Prop := Claim7.holds Tryz.pinned (.plain (OpenSpec.upto configRightSpec)) configRightUptoCard

/-- THE SECOND FORM's CARD OF 'scrimlaw30.ConfigTexts'. -/
def configTextsUptoCard : Claim7 := { stood := { row := configTextsUptoRow, standIns := [], harness := (true, "38eb138cd35b041340a699b8d58d3602ade29984a09797517ea7e81f24cd4226"), looks := true }, kinds := [], alts := [], laidByText := true, laidKinds := [.data, .data, .data, .data, .sentinel, .sentinel, .pinned], laidTests := true, laidLooks := .later }
def ConfigTextsUptoCardSaid : Prop := Claim7.holds Tryz.pinned (.plain (OpenSpec.upto configTextsSpec)) configTextsUptoCard

/-- THE SECOND FORM's CARD OF 'scrimlaw30.ConfigParses'. -/
def configParsesUptoCard : Claim7 := { stood := { row := configParsesUptoRow, standIns := [], harness := (true, "38eb138cd35b041340a699b8d58d3602ade29984a09797517ea7e81f24cd4226"), looks := true }, kinds := [], alts := [], laidByText := true, laidKinds := [.data, .data, .data, .data, .sentinel, .sentinel, .pinned], laidTests := true, laidLooks := .later }
def ConfigParsesUptoCardSaid : Prop := Claim7.holds Tryz.pinned (.plain (OpenSpec.upto configParsesSpec)) configParsesUptoCard
end Rows
end Go.Proofs.YtmiccalfamepdaaGreatDoor
