/-
  What scrimref02.Add, Sub, Bit and twice compute.
-/
import Derived.Test.YtfiobbhicicchaaNat5
namespace Go.Proofs.Ytfiobbhicicchaa
open Go.RowKit
set_option maxHeartbeats 1000000
set_option linter.unusedVariables false

/-- The head of each: two numbers that came in. -/
theorem own_norm {w0 w : World} {v : Value} {ds : List Nat} (h : w.ownsRow w0.heap.size 74 1 v ds.length (U ds)) (ho : Nt.Ok ds) (hs : ds.length ≤ 17592186044416) (hb : Below w0.heap.size w0 w) :
    Calls Try.prog 62 #[v] w fun e w' => ∃ v', e = .returned v' ∧ IsRes w' v' (Nt.digs (Nt.val ds)) ∧ Below w0.heap.size w0 w' := by
  obtain ⟨A, c, rfl, h1, h2, h3, h4⟩ := IsRes.of_own h
  refine (refNorm_any A c w.heap.size ds w h4 (Nat.le_refl _) ho h1 h2 h3 hs).mono ?_
  rintro e w' ⟨v', rfl, hr, hb'⟩
  exact ⟨v', rfl, hr, hb.trans (hb'.mono hb.size)⟩

end Go.Proofs.Ytfiobbhicicchaa
