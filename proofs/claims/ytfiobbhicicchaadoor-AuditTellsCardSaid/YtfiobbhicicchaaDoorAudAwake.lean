/-
  Chapter 33's example: audit's functions over no records, and awake.
-/
import Derived.Test.YtfiobbhicicchaaDoorAudReach
import Derived.Test.YtfiobbhicicchaaDoorLabText
namespace Go.Proofs.YtfiobbhicicchaaDoor
open Go.RowKit Ar
set_option maxHeartbeats 2000000
set_option maxRecDepth 100000
set_option linter.unusedVariables false

def zeroC : Array Value := #[.int .u64 0, .int .u64 0, .int .u64 0, .int .u64 0, .int .u64 0, .int .u64 0, .int .u64 0, .int .u64 0, .slice none 0 0, .slice none 0 0, .slice none 0 0, .slice none 0 0, .slice none 0 0, .slice none 0 0, .slice none 0 0, .slice none 0 0, .int .u64 0, .int .u64 0, .int .u64 0, .int .u64 0, .int .u64 0, .int .u64 0, .int .u64 0, .int .u64 0, .slice none 0 0, .slice none 0 0, .slice none 0 0, .slice none 0 0, .slice none 0 0, .slice none 0 0, .slice none 0 0, .slice none 0 0, .int .u64 0, .int .i64 0, .int .i64 0, .int .i64 0]
def zeroCfg : Cfg := { clear := fun _ => 0, label := fun _ => 0, ins := fun _ => [], draws := fun _ => [], auth := 0, fuel := 0, quota := 0, depth := 0 }
theorem zero_is (w : World) (B : Nat) : IsCfg w B zeroCfg zeroC where
  size := rfl
  clear := fun k hk => by
    rcases (show k = 0 ∨ k = 1 ∨ k = 2 ∨ k = 3 ∨ k = 4 ∨ k = 5 ∨ k = 6 ∨ k = 7 by omega) with rfl | rfl | rfl | rfl | rfl | rfl | rfl | rfl <;> exact ⟨rfl, by decide⟩
  ins := fun k hk => ⟨none, 0, [], by
    rcases (show k = 0 ∨ k = 1 ∨ k = 2 ∨ k = 3 ∨ k = 4 ∨ k = 5 ∨ k = 6 ∨ k = 7 by omega) with rfl | rfl | rfl | rfl | rfl | rfl | rfl | rfl <;> rfl, ⟨Nat.le_refl _, by omega⟩, .inl rfl, by show IsArrs w B [] []; rw [IsArrs]⟩
  label := fun k hk => by
    rcases (show k = 0 ∨ k = 1 ∨ k = 2 ∨ k = 3 ∨ k = 4 ∨ k = 5 ∨ k = 6 ∨ k = 7 by omega) with rfl | rfl | rfl | rfl | rfl | rfl | rfl | rfl <;> exact ⟨rfl, by decide⟩
  draws := fun k hk => ⟨none, 0, by
    rcases (show k = 0 ∨ k = 1 ∨ k = 2 ∨ k = 3 ∨ k = 4 ∨ k = 5 ∨ k = 6 ∨ k = 7 by omega) with rfl | rfl | rfl | rfl | rfl | rfl | rfl | rfl <;> rfl, ⟨Nat.le_refl _, by omega⟩, (fun n h => by cases h), .inl rfl⟩
  auth := rfl
  authLt := by decide
  fuel := rfl
  quota := rfl
  depth := rfl
  wf := fun n h => by
    have : n = 0 := by simpa [zeroCfg] using h
    subst this; omega

theorem seen_nil (C : Array Value) (o : Nat) (w : World) :
    Calls Tryd.prog 27 #[.agg C, .slice none 0 0, .int .u64 (o : Int)] w fun e w' => e = .returned (.slice none 0 0) ∧ Below w.heap.size w w' := by
  go_enter Tryd.func27, Tryd.ntmps27
  go_wp2_with fail
  refine wp_loop_rounds 1 ?_
  rw [rounds_succ]
  go_wp2_with fail
  go_ret
  exact ⟨rfl, (Below.refl _ _).alloc (Nat.le_refl _) _⟩

theorem counts_nil (C : Array Value) (hC : C.size = 36) (o : Nat) (w : World) :
    Calls Tryd.prog 15 #[.agg C, .slice none 0 0, .int .u64 (o : Int)] w fun e w' => e = .returned (.tuple #[.int .i64 0, .int .i64 0, .int .i64 0]) ∧ Below w.heap.size w w' := by
  have HI : Hid ((Tryd.prog.info? 29).map (·.size) = some C.size) := Lib.hid (by rw [hC]; exact cfg_info)
  clear hC
  go_enter Tryd.func15, Tryd.ntmps15
  go_wp2_with (with_reducible refine wpList_load_row rfl 29 (.tmp 3) rfl w.heap.size rfl 29 C (0, 0) _ (heap_alloc_new _ _) Tryd.underlying29 rfl HI.out ?_)
  refine (seen_nil C o _).mono ?_
  rintro e w2 ⟨rfl, hb2⟩
  go_wp2_with fail
  refine wp_loop_rounds 1 ?_
  rw [rounds_succ]
  go_wp2_with fail
  go_ret3
  exact ⟨rfl, ((Below.refl _ _).alloc (Nat.le_refl _) _).trans (hb2.mono (by simp))⟩

theorem given_nil (o : Nat) (w : World) :
    Calls Tryd.prog 17 #[.slice none 0 0, .int .u64 (o : Int)] w fun e w' => e = .returned (.int .u64 0) ∧ w = w' := by
  go_enter Tryd.func17, Tryd.ntmps17
  go_wp2_with fail
  refine wp_loop_rounds 1 ?_
  rw [rounds_succ]
  go_wp2_with fail
  go_ret
  exact ⟨rfl, rfl⟩
end Go.Proofs.YtfiobbhicicchaaDoor
