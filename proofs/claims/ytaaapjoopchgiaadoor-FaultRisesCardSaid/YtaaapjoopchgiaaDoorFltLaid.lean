/-
  From the fault rows' condition on errors.errorType to the fact that the walks ask; slices of labels that came in; the walks at them.
-/
import Derived.Test.YtaaapjoopchgiaaDoorRows
import Derived.Test.YtaaapjoopchgiaaDoorFltIs
import Derived.Test.YtaaapjoopchgiaaDoorFltRises
import Derived.Test.YtaaapjoopchgiaaDoorInts
import Derived.LaidLaws
import Derived.LaidHandle
import Derived.LaidMore
import Derived.Stop.Joined
import Derived.MakeChecks
import Derived.OpenShut
import Derived.ProofKit
import Derived.ChangeOld
namespace Go.Proofs.YtaaapjoopchgiaaDoor
open Go.ChangeShapes Go.WideShapes Go.ChangeAt Go.RowKit

theorem u64_nat {a : Int} (h : (Lit.int .u64 a).wf = true) : ∃ n : Nat, a = (n : Int) ∧ n < 18446744073709551616 := by
  have := bounds_u64 h
  exact ⟨a.toNat, by omega, by omega⟩
def laidF : List (String × DataW Unit) := [("errors.errorType", Rows.laid_errors_errorType)]
theorem fl_et : Tryd.prog.globalNamed "errors.errorType" = some 0 := by kernel_rfl
theorem fl_rt : (Tryd.prog.cutTypes.find? (·.1 == "internal/reflectlite.rtype")).map (·.2) = some 113 := by kernel_rfl
theorem fl_oneRow : ((List.range 177).filter fun t => Tryd.prog.rowNamed t [101, 114, 114, 111, 114]) = [25] := by kernel_rfl
theorem fl_size : Tryd.prog.types.size = 177 := by kernel_rfl
theorem of_laidF {W : World} (h : laidMetH Tryd.prog laidF W) : ErrType W ∧ True := by
  have h' : laidMet Tryd.prog [] W ∧ handlesMet Tryd.prog laidF W := h
  obtain ⟨name, u, ty, e1, e2, e3, e4, e5⟩ := h'.2 _ (List.mem_singleton.2 rfl)
  have en : name = [101, 114, 114, 111, 114] := (Option.some.inj e1).symm
  subst en
  obtain rfl := Option.some.inj (fl_rt.symm.trans e2)
  have hm : ty ∈ (List.range 177).filter fun t => Tryd.prog.rowNamed t [101, 114, 114, 111, 114] := List.mem_filter.2 ⟨List.mem_range.2 (by rw [← fl_size]; exact e3), e4⟩
  rw [fl_oneRow] at hm
  obtain rfl := List.mem_singleton.1 hm
  have hh : typeHandle Tryd.prog 25 = .pointer (some ⟨5, 25, none⟩) := by kernel_rfl
  rw [hh] at e5
  exact ⟨by unfold ErrType; simpa using World.var?_cell fl_et e5 0, trivial⟩
theorem door_metF (os : Os) (args : Array Value) : laidMetH Tryd.prog laidF ((World.doorLaid Tryd.prog 400 os).forCall (fun _ _ => 0) ⟨#[], args, []⟩).memory :=
  laidMetH_of_parts (laidMet_nil _ _) (by kernel_rfl)

/-- The labels of a slice that came in. -/
theorem labels_of {w : World} {a : Option Addr} {len cap : Nat} {z : List Int} (h : IsInts .u64 w a len cap z) : ∃ ns : List Nat, ns.length = len ∧ Lies w w.heap.size a (L64 ns) ∧ (∀ n ∈ ns, n < 18446744073709551616) ∧ len ≤ 9223372036854775807 := by
  obtain ⟨h1, h2, h3, h4, h5⟩ := h
  have hz : ∃ ns : List Nat, z = ns.map (fun n : Nat => (n : Int)) ∧ ∀ n ∈ ns, n < 18446744073709551616 := by
    refine ⟨z.map Int.toNat, ?_, ?_⟩
    · rw [List.map_map]
      have e : z.map ((fun n : Nat => (n : Int)) ∘ Int.toNat) = z.map id := List.map_congr_left fun x hx => by
        have := bounds_u64 (h5 x hx)
        simp; omega
      rw [e, List.map_id]
    · intro n hn
      obtain ⟨x, hx, rfl⟩ := List.mem_map.1 hn
      have := bounds_u64 (h5 x hx)
      omega
  obtain ⟨ns, rfl, hok⟩ := hz
  refine ⟨ns, by simpa using h1, ?_, hok, by unfold maxLen at h3; omega⟩
  rw [List.map_map] at h4
  exact h4
theorem faultTells_in (c : Int) (l : Nat) (a : Option Addr) (len cap : Nat) (z : List Int) (code : Int) (w : World) (hl : l < 18446744073709551616) (h : IsInts .u64 w a len cap z) (hE : ErrType w) :
    Calls Tryd.prog 3 #[.int .i64 c, .int .u64 (l : Int), .slice a len cap, .int .i64 code] w fun e w' => e = .returned (.bool true) ∧ Below w.heap.size w w' := by
  obtain ⟨ns, rfl, h1, h2, h3⟩ := labels_of h
  exact faultTells_walk c l a cap ns code w hl h1 h2 h3 hE
theorem faultIs_in (c other : Int) (l : Nat) (a : Option Addr) (len cap : Nat) (z : List Int) (w : World) (hl : l < 18446744073709551616) (h : IsInts .u64 w a len cap z) (hE : ErrType w) :
    Calls Tryd.prog 5 #[.int .i64 c, .int .i64 other, .int .u64 (l : Int), .slice a len cap] w fun e w' => e = .returned (.bool true) ∧ Below w.heap.size w w' := by
  obtain ⟨ns, rfl, h1, h2, h3⟩ := labels_of h
  exact faultIs_walk c other l a cap ns w hl h1 h2 h3 hE
theorem faultRises_in (c : Int) (l : Nat) (a : Option Addr) (len cap : Nat) (z : List Int) (top : Nat) (w : World) (hl : l < 18446744073709551616) (h : IsInts .u64 w a len cap z) (ht : top < 18446744073709551616) (hE : ErrType w) :
    Calls Tryd.prog 4 #[.int .i64 c, .int .u64 (l : Int), .slice a len cap, .int .u64 (top : Int)] w fun e w' => e = .returned (.bool true) ∧ Below w.heap.size w w' := by
  obtain ⟨ns, rfl, h1, h2, h3⟩ := labels_of h
  exact faultRises_walk c l a cap ns top w hl h1 h2 h3 ht hE
end Go.Proofs.YtaaapjoopchgiaaDoor
