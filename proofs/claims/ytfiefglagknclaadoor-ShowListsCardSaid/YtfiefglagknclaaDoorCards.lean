/-
  DERIVED. GIVEN WITH THE SEED: THE CARDS: each row of YtfiefglagknclaaDoorRows.lean that lists a variable, with what it lists TIED to the program's text (the seventh form; the later family's looks); each row that meets fmt, with fmt's text TOLD by the authors' own Lean function (tested against real Go, not proved from fmt's source: count such statements apart). THE CARD IS WHAT COUNTS. Prove the row's statement (the work); the ties are given (YtfiefglagknclaaDoorTie.lean); close each card by the builder's one call (the guide's Derived/Test/ToyasCard.lean, 'card_holds'). Laid BY PROGRAM, IN A SANDBOX (cutbox-door.mjs). By AI agents, Wed Nov 11 2026. No macro, syntax, notation, axiom, sorry.
-/
import Derived.Test.YtfiefglagknclaaDoorRows
import GoSem.ClaimSeven
namespace Go.Proofs.YtfiefglagknclaaDoor
namespace Rows

/-- THE TIED CARD OF 'scrimlaw05.DigitsPrints'. -/
def digitsPrintsCard : Claim7 := { stood := { row := digitsPrintsRow, standIns := [], harness := (true, "7ba58ac27e0e53c6f0243420821a6913928b09ac520e4983785d6884e8fa1772"), looks := false }, kinds := [], alts := [], laidByText := true, laidKinds := [.data, .data, .data, .data, .pinned], laidTests := true, laidLooks := .later }
def DigitsPrintsCardSaid : Prop := Claim7.holds Tryd.pinned (.plain (OpenSpec.ofChange digitsPrintsSpec)) digitsPrintsCard

/-- THE TIED CARD OF 'scrimlaw05.DigitsParses'. -/
def digitsParsesCard : Claim7 := { stood := { row := digitsParsesRow, standIns := [], harness := (true, "7ba58ac27e0e53c6f0243420821a6913928b09ac520e4983785d6884e8fa1772"), looks := false }, kinds := [], alts := [], laidByText := true, laidKinds := [.data, .data, .data, .data, .pinned], laidTests := true, laidLooks := .later }
def DigitsParsesCardSaid : Prop := Claim7.holds Tryd.pinned (.plain (OpenSpec.ofChange digitsParsesSpec)) digitsParsesCard

/-- THE TIED CARD OF 'scrimlaw28.ShowLists'. -/
def showListsCard : Claim7 := { stood := { row := showListsRow, standIns := [], harness := (true, "7ba58ac27e0e53c6f0243420821a6913928b09ac520e4983785d6884e8fa1772"), looks := false }, kinds := [], alts := [], laidByText := true, laidKinds := [.data, .data, .data], laidTests := true, laidLooks := .later }
def ShowListsCardSaid : Prop := Claim7.holds Tryd.pinned (.plain (OpenSpec.ofChange showListsSpec)) showListsCard

/-- THE TIED CARD OF 'scrimlaw20.TokenRises'. -/
def tokenRisesCard : Claim7 := { stood := { row := tokenRisesRow, standIns := [], harness := (true, "7ba58ac27e0e53c6f0243420821a6913928b09ac520e4983785d6884e8fa1772"), looks := false }, kinds := [], alts := [], laidByText := true, laidKinds := [.data, .pinned], laidTests := true, laidLooks := .later }
def TokenRisesCardSaid : Prop := Claim7.holds Tryd.pinned (.plain (OpenSpec.ofChange tokenRisesSpec)) tokenRisesCard

/-- THE TIED CARD OF 'scrimlaw20.TokenBlanks'. -/
def tokenBlanksCard : Claim7 := { stood := { row := tokenBlanksRow, standIns := [], harness := (true, "7ba58ac27e0e53c6f0243420821a6913928b09ac520e4983785d6884e8fa1772"), looks := false }, kinds := [], alts := [], laidByText := true, laidKinds := [.data, .pinned], laidTests := true, laidLooks := .later }
def TokenBlanksCardSaid : Prop := Claim7.holds Tryd.pinned (.plain (OpenSpec.ofChange tokenBlanksSpec)) tokenBlanksCard

/-- THE SECOND FORM's CARD OF 'scrimlaw05.DigitsPrints'. -/
def digitsPrintsUptoCard : Claim7 := { stood := { row := digitsPrintsUptoRow, standIns := [], harness := (true, "7ba58ac27e0e53c6f0243420821a6913928b09ac520e4983785d6884e8fa1772"), looks := false }, kinds := [], alts := [], laidByText := true, laidKinds := [.data, .data, .data, .data, .pinned], laidTests := true, laidLooks := .later }
def DigitsPrintsUptoCardSaid : Prop := Claim7.holds Tryd.pinned (.plain (OpenSpec.upto digitsPrintsSpec)) digitsPrintsUptoCard

/-- THE SECOND FORM's CARD OF 'scrimlaw05.DigitsParses'. -/
def digitsParsesUptoCard : Claim7 := { stood := { row := digitsParsesUptoRow, standIns := [], harness := (true, "7ba58ac27e0e53c6f0243420821a6913928b09ac520e4983785d6884e8fa1772"), looks := false }, kinds := [], alts := [], laidByText := true, laidKinds := [.data, .data, .data, .data, .pinned], laidTests := true, laidLooks := .later }
def DigitsParsesUptoCardSaid : Prop := Claim7.holds Tryd.pinned (.plain (OpenSpec.upto digitsParsesSpec)) digitsParsesUptoCard

/-- THE SECOND FORM's CARD OF 'scrimlaw28.ShowLists'. -/
def showListsUptoCard : Claim7 := { stood := { row := showListsUptoRow, standIns := [], harness := (true, "7ba58ac27e0e53c6f0243420821a6913928b09ac520e4983785d6884e8fa1772"), looks := false }, kinds := [], alts := [], laidByText := true, laidKinds := [.data, .data, .data], laidTests := true, laidLooks := .later }
def ShowListsUptoCardSaid : Prop := Claim7.holds Tryd.pinned (.plain (OpenSpec.upto showListsSpec)) showListsUptoCard

/-- THE SECOND FORM's CARD OF 'scrimlaw20.TokenRises'. -/
def tokenRisesUptoCard : Claim7 := { stood := { row := tokenRisesUptoRow, standIns := [], harness := (true, "7ba58ac27e0e53c6f0243420821a6913928b09ac520e4983785d6884e8fa1772"), looks := false }, kinds := [], alts := [], laidByText := true, laidKinds := [.data, .pinned], laidTests := true, laidLooks := .later }
def TokenRisesUptoCardSaid : Prop := Claim7.holds Tryd.pinned (.plain (OpenSpec.upto tokenRisesSpec)) tokenRisesUptoCard

/-- THE SECOND FORM's CARD OF 'scrimlaw20.TokenBlanks'. -/
def tokenBlanksUptoCard : Claim7 := { stood := { row := tokenBlanksUptoRow, standIns := [], harness := (true, "7ba58ac27e0e53c6f0243420821a6913928b09ac520e4983785d6884e8fa1772"), looks := false }, kinds := [], alts := [], laidByText := true, laidKinds := [.data, .pinned], laidTests := true, laidLooks := .later }
def TokenBlanksUptoCardSaid : Prop := Claim7.holds Tryd.pinned (.plain (OpenSpec.upto tokenBlanksSpec)) tokenBlanksUptoCard
end Rows
end Go.Proofs.YtfiefglagknclaaDoor
