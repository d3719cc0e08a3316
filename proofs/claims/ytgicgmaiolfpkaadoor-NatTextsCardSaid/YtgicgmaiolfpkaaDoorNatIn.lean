/-
  A slice of limbs that came in, opened.
-/
import Derived.Test.YtgicgmaiolfpkaaDoorNat1
import Derived.Test.YtgicgmaiolfpkaaDoorInts
namespace Go.Proofs.YtgicgmaiolfpkaaDoor
open Go.ChangeShapes Go.WideShapes Go.ChangeAt Go.RowKit

/-- The limbs (not the spare room) of a slice that came in. -/
def IsLimbs (w : World) (A : Option Addr) (len cap : Nat) (ns : List Nat) : Prop :=
  ns.length = len ∧ len ≤ cap ∧ cap ≤ 9223372036854775807 ∧ (A = none → cap = 0) ∧ Lies w w.heap.size A (U ns) ∧ Nt.Ok ns

theorem limbs_of {H : Type} {enc : TypeId × Value → H} {P : Program} {W : World} {base : Nat} {sp : Nat → Bool} {held : Bool} {t e : TypeId} {a : Option Addr} {len cap : Nat} {d : DataW H} {p : List MemPlace}
    (ht : P.underlying t = some (.slice e)) (he : P.underlying e = some (.int .u32)) (hc : P.cellsOf e = 1) (h : DataW.Trod enc P W base sp held t (.slice a len cap) d p) : ∃ ns, IsLimbs W a len cap ns := by
  have hnil : a = none → cap = 0 := by
    rintro rfl
    obtain ⟨fuel, hf⟩ := h
    rcases open_ints ht he hc hf with ⟨hcs, _⟩ | ⟨x, l, c, zs, hcs, _⟩
    · simp [Value.cells] at hcs
      exact hcs.2
    · simp [Value.cells] at hcs
  obtain ⟨zs, h1, h2, h3, h4, h5⟩ := ints_of ht he hc h
  have hz : ∃ ns : List Nat, zs = ns.map (fun n : Nat => (n : Int)) ∧ Nt.Ok ns := by
    refine ⟨zs.map Int.toNat, ?_, ?_⟩
    · rw [List.map_map]
      have e : zs.map ((fun n : Nat => (n : Int)) ∘ Int.toNat) = zs.map id := List.map_congr_left fun x hx => by
        have := bounds_u32 (h5 x hx)
        simp; omega
      rw [e, List.map_id]
    · intro n hn
      obtain ⟨x, hx, rfl⟩ := List.mem_map.1 hn
      have := bounds_u32 (h5 x hx)
      omega
  obtain ⟨ns, rfl, hok⟩ := hz
  refine ⟨ns, by simpa using h1, h2, by unfold maxLen at h3; omega, hnil, ?_, hok⟩
  rw [List.map_map] at h4
  exact h4
end Go.Proofs.YtgicgmaiolfpkaaDoor
