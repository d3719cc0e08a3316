/-
  From the row's condition on listed variables to the facts that the walk of NatTexts asks; a world that meets it.
-/
import Derived.Test.YtgicgmaiolfpkaaDoorRows
import Derived.Test.YtgicgmaiolfpkaaDoorNatTxt2
import Derived.Lib.LaidTab
import Derived.LaidMore
import Derived.Stop.LaidErr
import Derived.MakeChecks
import Derived.OpenShut
import Derived.ProofKit
import Derived.ChangeOld
namespace Go.Proofs.YtgicgmaiolfpkaaDoor
open Go.ChangeShapes Go.WideShapes Go.ChangeAt Go.RowKit

theorem gPow : Tryd.prog.globalNamed "internal/strconv.uint64pow10" = some 0 := by kernel_rfl
theorem tPow : (Tryd.prog.globals[0]?).map (·.type) = some 79 := by kernel_rfl
theorem cPow : Tryd.prog.cellsOf 79 = 20 := by kernel_rfl
theorem cWord : Tryd.prog.cellsOf 37 = 1 := by kernel_rfl

def laid3 : List (String × DataW Unit) := [("math/bits.deBruijn32tab", Rows.laid_math_bits_deBruijn32tab), ("math/bits.deBruijn64tab", Rows.laid_math_bits_deBruijn64tab), ("internal/strconv.uint64pow10", Rows.laid_internal_strconv_uint64pow10)]
theorem door_met (os : Os) (args : Array Value) : laidMetH Tryd.prog laid3 ((World.doorLaid Tryd.prog 400 os).forCall (fun _ _ => 0) ⟨#[], args, []⟩).memory :=
  laidMetH_of_parts3 (fuel := 8) (laidMet_of_run' 8 (by kernel_rfl) (by kernel_rfl)) (by kernel_rfl) (by kernel_rfl)
theorem of_laid {W : World} (h : laidMetH Tryd.prog laid3 W) : Lib.TabIs Tryd.prog W "internal/strconv.uint64pow10" .u64 Lib.pow10Tab ∧ (∀ g, Tryd.prog.globalNamed "internal/strconv.uint64pow10" = some g → g < W.heap.size) := by
  rw [MakeChecks.laidMetH_plain _ _ _ (by kernel_rfl)] at h
  have h2 := h.tail.tail
  have hT := Lib.tabIs_of_head (k := .u64) (zs := Lib.pow10Tab) gPow tPow Tryd.underlying79 Tryd.underlying37 cWord cPow h2
  refine ⟨hT, fun g e => ?_⟩
  obtain rfl := Option.some.inj (gPow.symm.trans e)
  exact World.block_lt_of_cell? W _ (hT.cell gPow 0 (by decide))
end Go.Proofs.YtgicgmaiolfpkaaDoor
