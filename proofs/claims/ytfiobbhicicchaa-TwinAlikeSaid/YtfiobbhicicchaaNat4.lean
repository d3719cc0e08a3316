/-
  What nat.Sub computes: the digits of the difference, and whether there is one.
-/
import Derived.Test.YtfiobbhicicchaaNat3
namespace Go.Proofs.Ytfiobbhicicchaa
open Go.RowKit
set_option maxHeartbeats 1000000
set_option linter.unusedVariables false

/-! ### Sub -/
/-- Limbs that a call handed back: a slice that holds them. -/
def IsRes (w : World) (v : Value) (ds : List Nat) : Prop := ∃ A c, v = .slice A ds.length c ∧ ds.length ≤ c ∧ c ≤ 9223372036854775807 ∧ (A = none → c = 0) ∧ Lies w w.heap.size A (U ds)
theorem IsRes.of_own {w : World} {base : Nat} {v : Value} {ds : List Nat} (h : w.ownsRow base 74 1 v ds.length (U ds)) : IsRes w v ds := by
  obtain ⟨A, c, rfl, h1, h2⟩ := own_slice h
  refine ⟨A, c, rfl, h1, h2, ?_, Lies.of_own h⟩
  rintro rfl
  rcases h.2 with ⟨hv, _⟩ | ⟨g, cap, cur, hv, _⟩
  · injection hv
  · injection hv with e; cases e
theorem IsRes.none_ (w : World) : IsRes w (.slice none 0 0) [] := ⟨none, 0, rfl, Nat.le_refl _, by omega, fun _ => rfl, .inl rfl⟩
theorem IsRes.below {w w' : World} {v : Value} {ds : List Nat} (h : IsRes w v ds) (hb : Below w.heap.size w w') : IsRes w' v ds := by
  obtain ⟨A, c, h1, h2, h3, h4, h5⟩ := h
  exact ⟨A, c, h1, h2, h3, h4, (h5.below hb).more hb.size⟩
end Go.Proofs.Ytfiobbhicicchaa
