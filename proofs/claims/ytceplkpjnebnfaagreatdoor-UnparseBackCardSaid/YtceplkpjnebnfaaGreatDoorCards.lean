/-
  DERIVED. GIVEN WITH THE SEED: THE CARDS: each row of YtceplkpjnebnfaaGreatDoorRows.lean that lists a variable, with what it lists TIED to the program's text (the seventh form; the later family's looks); each row that meets fmt, with fmt's text TOLD by the authors' own Lean function (tested against real Go, not proved from fmt's source: count such statements apart). THE CARD IS WHAT COUNTS. Prove the row's statement (the work); the ties are given (YtceplkpjnebnfaaGreatDoorTie.lean); close each card by the builder's one call (the guide's Derived/Test/ToyasCard.lean, 'card_holds'). Laid BY PROGRAM, IN A SANDBOX (cutbox-door.mjs). By AI agents, Wed Nov 11 2026. No macro, syntax, notation, axiom, sorry.
-/
import Derived.Test.YtceplkpjnebnfaaGreatDoorRows
import GoSem.ClaimSeven
namespace Go.Proofs.YtceplkpjnebnfaaGreatDoor
namespace Rows

/-- THE TIED CARD OF 'scrimlaw23.UnparseLines'. -/
def unparseLinesCard : Claim7 := { stood := { row := unparseLinesRow, standIns := [], harness := (true, "d4fdc9065fa1ed3c5bcd85bd527e9140d9dfdc52e83d082f7eab1c233cee2cd9"), looks := false }, kinds := [], alts := [], laidByText := true, laidKinds := [.data, .data, .data], laidTests := true, laidLooks := .later }
def UnparseLinesCardSaid : Prop := Claim7.holds Tryz.pinned (.plain (OpenSpec.ofChange unparseLinesSpec)) unparseLinesCard

/-- THE TIED CARD OF 'scrimlaw22.ParseRight'. -/
def parseRightCard : Claim7 := { stood := { row := parseRightRow, standIns := [], harness := (true, "d4fdc9065fa1ed3c5bcd85bd527e9140d9dfdc52e83d082f7eab1c233cee2cd9"), looks := false }, kinds := [], alts := [], laidByText := true, laidKinds := [.data, .pinned], laidTests := true, laidLooks := .later }
def ParseRightCardSaid : Prop := Claim7.holds Tryz.pinned (.plain (OpenSpec.ofChange parseRightSpec)) parseRightCard

/-- THE TIED CARD OF 'scrimlaw22.ParseBrackets'. -/
def parseBracketsCard : Claim7 := { stood := { row := parseBracketsRow, standIns := [], harness := (true, "d4fdc9065fa1ed3c5bcd85bd527e9140d9dfdc52e83d082f7eab1c233cee2cd9"), looks := false }, kinds := [], alts := [], laidByText := true, laidKinds := [.data, .pinned], laidTests := true, laidLooks := .later }
def ParseBracketsCardSaid : Prop := Claim7.holds Tryz.pinned (.plain (OpenSpec.ofChange parseBracketsSpec)) parseBracketsCard

/-- THE TIED CARD OF 'scrimlaw23.UnparseBack'. -/
def unparseBackCard : Claim7 := { stood := { row := unparseBackRow, standIns := [], harness := (true, "d4fdc9065fa1ed3c5bcd85bd527e9140d9dfdc52e83d082f7eab1c233cee2cd9"), looks := false }, kinds := [], alts := [], laidByText := true, laidKinds := [.data, .data, .data, .data, .pinned], laidTests := true, laidLooks := .later }
def UnparseBackCardSaid : Prop := Claim7.holds Tryz.pinned (.plain (OpenSpec.ofChange unparseBackSpec)) unparseBackCard

/-- THE SECOND FORM's CARD OF 'scrimlaw23.UnparseLines'. -/
def unparseLinesUptoCard : Claim7 := { stood := { row := unparseLinesUptoRow, standIns := [], harness := (true, "d4fdc9065fa1ed3c5bcd85bd527e9140d9dfdc52e83d082f7eab1c233cee2cd9"), looks := false }, kinds := [], alts := [], laidByText := true, laidKinds := [.data, .data, .data], laidTests := true, laidLooks := .later }
def UnparseLinesUptoCardSaid : Prop := Claim7.holds Tryz.pinned (.plain (OpenSpec.upto unparseLinesSpec)) unparseLinesUptoCard

/-- THE SECOND FORM's CARD OF 'scrimlaw22.ParseRight'. -/
def parseRightUptoCard : Claim7 := { stood := { row := parseRightUptoRow, standIns := [], harness := (true, "d4fdc9065fa1ed3c5bcd85bd527e9140d9dfdc52e83d082f7eab1c233cee2cd9"), looks := false }, kinds := [], alts := [], laidByText := true, laidKinds := [.data, .pinned], laidTests := true, laidLooks := .later }
def ParseRightUptoCardSaid : Prop := Claim7.holds Tryz.pinned (.plain (OpenSpec.upto parseRightSpec)) parseRightUptoCard

/-- THE SECOND FORM's CARD OF 'scrimlaw22.ParseBrackets'. -/
def parseBracketsUptoCard : Claim7 := { stood := { row := parseBracketsUptoRow, standIns := [], harness := (true, "d4fdc9065fa1ed3c5bcd85bd527e9140d9dfdc52e83d082f7eab1c233cee2cd9"), looks := false }, kinds := [], alts := [], laidByText := true, laidKinds := [.data, .pinned], laidTests := true, laidLooks := .later }
def ParseBracketsUptoCardSaid : Prop := Claim7.holds Tryz.pinned (.plain (OpenSpec.upto parseBracketsSpec)) parseBracketsUptoCard

/-- THE SECOND FORM's CARD OF 'scrimlaw23.UnparseBack'. -/
def unparseBackUptoCard : Claim7 := { stood := { row := unparseBackUptoRow, standIns := [], harness := (true, "d4fdc9065fa1ed3c5bcd85bd527e9140d9dfdc52e83d082f7eab1c233cee2cd9"), looks := false }, kinds := [], alts := [], laidByText := true, laidKinds := [.data, .data, .data, .data, .pinned], laidTests := true, laidLooks := .later }
def UnparseBackUptoCardSaid : Prop := Claim7.holds Tryz.pinned (.plain (OpenSpec.upto unparseBackSpec)) unparseBackUptoCard
end Rows
end Go.Proofs.YtceplkpjnebnfaaGreatDoor
