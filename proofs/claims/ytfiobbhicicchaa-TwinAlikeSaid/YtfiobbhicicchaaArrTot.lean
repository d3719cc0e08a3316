/-
  array.Total: the join of all labels of an array.
-/
import Derived.Test.YtfiobbhicicchaaArr
import Derived.Test.YtfiobbhicicchaaLabRef
import Derived.LoopTactic
import Derived.Outline
namespace Go.Proofs.Ytfiobbhicicchaa
open Go.RowKit Ar
set_option maxHeartbeats 1000000
set_option linter.unusedVariables false

end Go.Proofs.Ytfiobbhicicchaa
