/- Texts of this proof, joined. -/
import Derived.Test.YtceplkpjnebnfaaGreatDoorM18
import Derived.Test.YtceplkpjnebnfaaGreatDoorRows
import Derived.Lib.LaidTab
import Derived.LaidMore
import Derived.Stop.LaidErr
import Derived.MakeChecks
import Derived.Lay
set_option linter.all false
set_option maxHeartbeats 8000000
set_option maxRecDepth 100000
namespace Go.Proofs.YtceplkpjnebnfaaGreatDoor
section
open Go.ChangeShapes Go.WideShapes Go.ChangeAt Go.RowKit
theorem Vka:Tryz.prog.globalNamed "internal/strconv.uint64pow10" =some 0:=by kernel_rfl
theorem Wqa:(Tryz.prog.globals[0]?).map (·.type)=some 167:=by kernel_rfl
theorem Xqa:Tryz.prog.cellsOf 167=20:=by kernel_rfl
theorem Gqa:Tryz.prog.cellsOf 107=1:=by kernel_rfl
def Xy:List (String×DataW Unit):=[("math/bits.deBruijn32tab",Rows.laid_math_bits_deBruijn32tab),("math/bits.deBruijn64tab",Rows.laid_math_bits_deBruijn64tab),("internal/strconv.uint64pow10",Rows.laid_internal_strconv_uint64pow10),("unicode/utf8.acceptRanges",Rows.laid_unicode_utf8_acceptRanges),("unicode/utf8.first",Rows.laid_unicode_utf8_first)]
theorem Wka (os:Os)(args:Array Value):laidMetH Tryz.prog Xy ((World.laidAll Tryz.prog os Xy).forCall (λ_ _=>0) ⟨#[],args,[]⟩).memory:=by
 rw[MakeChecks.laidMetH_plain _ _ _ (by kernel_rfl)];exact laidMet_laidAll _ (by kernel_rfl) (by kernel_rfl)
theorem Gna {W:World}(h:laidMetH Tryz.prog Xy W):Pow10 W:=by
 rw[MakeChecks.laidMetH_plain _ _ _ (by kernel_rfl)] at h;have h2:=h.tail.tail;have hT:=Lib.tabIs_of_head (k:= .u64) (zs:=Lib.pow10Tab) Vka Wqa Tryz.underlying167 Tryz.underlying107 Gqa Xqa h2;refine⟨hT,λg e=>?_⟩;obtain rfl:=Option.some.inj (Vka.symm.trans e);exact World.block_lt_of_cell? W _ (hT.cell Vka 0 (by decide))
end
end Go.Proofs.YtceplkpjnebnfaaGreatDoor
