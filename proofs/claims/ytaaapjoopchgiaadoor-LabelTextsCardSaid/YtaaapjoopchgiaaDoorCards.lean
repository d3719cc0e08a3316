/-
  DERIVED. GIVEN WITH THE SEED: THE CARDS: each row of YtaaapjoopchgiaaDoorRows.lean that lists a variable, with what it lists TIED to the program's text (the seventh form; the later family's looks); each row that meets fmt, with fmt's text TOLD by the authors' own Lean function (tested against real Go, not proved from fmt's source: count such statements apart). THE CARD IS WHAT COUNTS. Prove the row's statement (the work); the ties are given (YtaaapjoopchgiaaDoorTie.lean); close each card by the builder's one call (the guide's Derived/Test/ToyasCard.lean, 'card_holds'). Laid BY PROGRAM, IN A SANDBOX (cutbox-door.mjs). By AI agents, Wed Nov 11 2026. No macro, syntax, notation, axiom, sorry.
-/
import Derived.Test.YtaaapjoopchgiaaDoorRows
import GoSem.ClaimSeven
namespace Go.Proofs.YtaaapjoopchgiaaDoor
namespace Rows

/-- THE TIED CARD OF 'scrimlaw18.FaultTells'. -/
def faultTellsCard : Claim7 := { stood := { row := faultTellsRow, standIns := [], harness := (true, "3ff8314708bd8b28199524b28696e37d483bed8baaee3fbbca1911b6e0cb0782"), looks := true }, kinds := [], alts := [], laidByText := true, laidKinds := [.handle], laidTests := true, laidLooks := .later }
def FaultTellsCardSaid : Prop := Claim7.holds Tryd.pinned (.plain (OpenSpec.ofChange faultTellsSpec)) faultTellsCard

/-- THE TIED CARD OF 'scrimlaw18.FaultRises'. -/
def faultRisesCard : Claim7 := { stood := { row := faultRisesRow, standIns := [], harness := (true, "3ff8314708bd8b28199524b28696e37d483bed8baaee3fbbca1911b6e0cb0782"), looks := true }, kinds := [], alts := [], laidByText := true, laidKinds := [.handle], laidTests := true, laidLooks := .later }
def FaultRisesCardSaid : Prop := Claim7.holds Tryd.pinned (.plain (OpenSpec.ofChange faultRisesSpec)) faultRisesCard

/-- THE TIED CARD OF 'scrimlaw18.FaultIs'. -/
def faultIsCard : Claim7 := { stood := { row := faultIsRow, standIns := [], harness := (true, "3ff8314708bd8b28199524b28696e37d483bed8baaee3fbbca1911b6e0cb0782"), looks := true }, kinds := [], alts := [], laidByText := true, laidKinds := [.handle], laidTests := true, laidLooks := .later }
def FaultIsCardSaid : Prop := Claim7.holds Tryd.pinned (.plain (OpenSpec.ofChange faultIsSpec)) faultIsCard

/-- THE TIED CARD OF 'scrimlaw01.LabelJoins'. -/
def labelJoinsCard : Claim7 := { stood := { row := labelJoinsRow, standIns := [], harness := (true, "3ff8314708bd8b28199524b28696e37d483bed8baaee3fbbca1911b6e0cb0782"), looks := true }, kinds := [], alts := [], laidByText := true, laidKinds := [.data, .data, .data], laidTests := true, laidLooks := .later }
def LabelJoinsCardSaid : Prop := Claim7.holds Tryd.pinned (.plain (OpenSpec.ofChange labelJoinsSpec)) labelJoinsCard

/-- THE TIED CARD OF 'scrimlaw01.LabelLattice'. -/
def labelLatticeCard : Claim7 := { stood := { row := labelLatticeRow, standIns := [], harness := (true, "3ff8314708bd8b28199524b28696e37d483bed8baaee3fbbca1911b6e0cb0782"), looks := true }, kinds := [], alts := [], laidByText := true, laidKinds := [.data, .data, .data], laidTests := true, laidLooks := .later }
def LabelLatticeCardSaid : Prop := Claim7.holds Tryd.pinned (.plain (OpenSpec.ofChange labelLatticeSpec)) labelLatticeCard

/-- THE TIED CARD OF 'scrimlaw01.LabelMay'. -/
def labelMayCard : Claim7 := { stood := { row := labelMayRow, standIns := [], harness := (true, "3ff8314708bd8b28199524b28696e37d483bed8baaee3fbbca1911b6e0cb0782"), looks := true }, kinds := [], alts := [], laidByText := true, laidKinds := [.data, .data, .data], laidTests := true, laidLooks := .later }
def LabelMayCardSaid : Prop := Claim7.holds Tryd.pinned (.plain (OpenSpec.ofChange labelMaySpec)) labelMayCard

/-- THE TIED CARD OF 'scrimlaw01.LabelTags'. -/
def labelTagsCard : Claim7 := { stood := { row := labelTagsRow, standIns := [], harness := (true, "3ff8314708bd8b28199524b28696e37d483bed8baaee3fbbca1911b6e0cb0782"), looks := true }, kinds := [], alts := [], laidByText := true, laidKinds := [.data, .data, .data], laidTests := true, laidLooks := .later }
def LabelTagsCardSaid : Prop := Claim7.holds Tryd.pinned (.plain (OpenSpec.ofChange labelTagsSpec)) labelTagsCard

/-- THE TIED CARD OF 'scrimlaw01.LabelTexts'. -/
def labelTextsCard : Claim7 := { stood := { row := labelTextsRow, standIns := [], harness := (true, "3ff8314708bd8b28199524b28696e37d483bed8baaee3fbbca1911b6e0cb0782"), looks := true }, kinds := [], alts := [], laidByText := true, laidKinds := [.data, .data, .data], laidTests := true, laidLooks := .later }
def LabelTextsCardSaid : Prop := Claim7.holds Tryd.pinned (.plain (OpenSpec.ofChange labelTextsSpec)) labelTextsCard

/-- THE SECOND FORM's CARD OF 'scrimlaw18.FaultTells'. -/
def faultTellsUptoCard : Claim7 := { stood := { row := faultTellsUptoRow, standIns := [], harness := (true, "3ff8314708bd8b28199524b28696e37d483bed8baaee3fbbca1911b6e0cb0782"), looks := true }, kinds := [], alts := [], laidByText := true, laidKinds := [.handle], laidTests := true, laidLooks := .later }
def FaultTellsUptoCardSaid : Prop := Claim7.holds Tryd.pinned (.plain (OpenSpec.upto faultTellsSpec)) faultTellsUptoCard

/-- THE SECOND FORM's CARD OF 'scrimlaw18.FaultRises'. -/
def faultRisesUptoCard : Claim7 := { stood := { row := faultRisesUptoRow, standIns := [], harness := (true, "3ff8314708bd8b28199524b28696e37d483bed8baaee3fbbca1911b6e0cb0782"), looks := true }, kinds := [], alts := [], laidByText := true, laidKinds := [.handle], laidTests := true, laidLooks := .later }
def FaultRisesUptoCardSaid : Prop := Claim7.holds Tryd.pinned (.plain (OpenSpec.upto faultRisesSpec)) faultRisesUptoCard

/-- THE SECOND FORM's CARD OF 'scrimlaw18.FaultIs'. -/
def faultIsUptoCard : Claim7 := { stood := { row := faultIsUptoRow, standIns := [], harness := (true, "3ff8314708bd8b28199524b28696e37d483bed8baaee3fbbca1911b6e0cb0782"), looks := true }, kinds := [], alts := [], laidByText := true, laidKinds := [.handle], laidTests := true, laidLooks := .later }
def FaultIsUptoCardSaid : Prop := Claim7.holds Tryd.pinned (.plain (OpenSpec.upto faultIsSpec)) faultIsUptoCard

/-- THE SECOND FORM's CARD OF 'scrimlaw01.LabelJoins'. -/
def labelJoinsUptoCard : Claim7 := { stood := { row := labelJoinsUptoRow, standIns := [], harness := (true, "3ff8314708bd8b28199524b28696e37d483bed8baaee3fbbca1911b6e0cb0782"), looks := true }, kinds := [], alts := [], laidByText := true, laidKinds := [.data, .data, .data], laidTests := true, laidLooks := .later }
def LabelJoinsUptoCardSaid : Prop := Claim7.holds Tryd.pinned (.plain (OpenSpec.upto labelJoinsSpec)) labelJoinsUptoCard

/-- THE SECOND FORM's CARD OF 'scrimlaw01.LabelLattice'. -/
def labelLatticeUptoCard : Claim7 := { stood := { row := labelLatticeUptoRow, standIns := [], harness := (true, "3ff8314708bd8b28199524b28696e37d483bed8baaee3fbbca1911b6e0cb0782"), looks := true }, kinds := [], alts := [], laidByText := true, laidKinds := [.data, .data, .data], laidTests := true, laidLooks := .later }
def LabelLatticeUptoCardSaid : Prop := Claim7.holds Tryd.pinned (.plain (OpenSpec.upto labelLatticeSpec)) labelLatticeUptoCard

/-- THE SECOND FORM's CARD OF 'scrimlaw01.LabelMay'. -/
def labelMayUptoCard : Claim7 := { stood := { row := labelMayUptoRow, standIns := [], harness := (true, "3ff8314708bd8b28199524b28696e37d483bed8baaee3fbbca1911b6e0cb0782"), looks := true }, kinds := [], alts := [], laidByText := true, laidKinds := [.data, .data, .data], laidTests := true, laidLooks := .later }
def LabelMayUptoCardSaid : Prop := Claim7.holds Tryd.pinned (.plain (OpenSpec.upto labelMaySpec)) labelMayUptoCard

/-- THE SECOND FORM's CARD OF 'scrimlaw01.LabelTags'. -/
def labelTagsUptoCard : Claim7 := { stood := { row := labelTagsUptoRow, standIns := [], harness := (true, "3ff8314708bd8b28199524b28696e37d483bed8baaee3fbbca1911b6e0cb0782"), looks := true }, kinds := [], alts := [], laidByText := true, laidKinds := [.data, .data, .data], laidTests := true, laidLooks := .later }
def LabelTagsUptoCardSaid : Prop := Claim7.holds Tryd.pinned (.plain (OpenSpec.upto labelTagsSpec)) labelTagsUptoCard

/-- THE SECOND FORM's CARD OF 'scrimlaw01.LabelTexts'. -/
def labelTextsUptoCard : Claim7 := { stood := { row := labelTextsUptoRow, standIns := [], harness := (true, "3ff8314708bd8b28199524b28696e37d483bed8baaee3fbbca1911b6e0cb0782"), looks := true }, kinds := [], alts := [], laidByText := true, laidKinds := [.data, .data, .data], laidTests := true, laidLooks := .later }
def LabelTextsUptoCardSaid : Prop := Claim7.holds Tryd.pinned (.plain (OpenSpec.upto labelTextsSpec)) labelTextsUptoCard
end Rows
end Go.Proofs.YtaaapjoopchgiaaDoor
