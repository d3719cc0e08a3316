/-
  The walks of three laws of chapter 1: LabelJoins, LabelLattice, LabelMay return true, for all labels, and write nothing that was there.
-/
import Derived.Test.YtaaapjoopchgiaaDoorLabAwake
namespace Go.Proofs.YtaaapjoopchgiaaDoor
open Go.RowKit
set_option maxHeartbeats 1000000
set_option maxRecDepth 100000

theorem labelJoins_walk (a b : Nat) (w : World) (ha : a < 18446744073709551616) (hb : b < 18446744073709551616) (hT : Tab64 w) (hB : 1 < w.heap.size) :
    Calls Tryd.prog 6 #[.int .u64 (a : Int), .int .u64 (b : Int)] w fun e w' => e = .returned (.bool true) ∧ Below w.heap.size w w' := by
  have HT := Lib.hid hT
  clear hT
  go_enter Tryd.func6, Tryd.ntmps6
  go_wp2_with (first
    | (go_at_call 22; refine (join_any _ _ _ ha hb).mono ?_; rintro e w' ⟨rfl, rfl⟩)
    | (go_at_call 23; refine (refJoin_any _ _ _ ha hb).mono ?_; rintro e w' ⟨rfl, rfl⟩)
    | (go_at_call 24; refine (meet_any _ _ _ ha hb).mono ?_; rintro e w' ⟨rfl, rfl⟩)
    | (go_at_call 25; refine (refMeet_any _ _ _ ha hb).mono ?_; rintro e w' ⟨rfl, rfl⟩)
    | (go_at_call 26; refine (flows_any _ _ _ ha hb).mono ?_; rintro e w' ⟨rfl, rfl⟩)
    | (go_at_call 20; refine (refFlows_any _ _ _ ha hb).mono ?_; rintro e w' ⟨rfl, rfl⟩)
    | (go_at_call 27; refine (awake_any _ HT.out hB).mono ?_; rintro e w2 ⟨rfl, hbel⟩))
  go_ret
  exact ⟨rfl, hbel⟩

theorem labelMay_walk (x y a b : Nat) (w : World) (hx : x < 18446744073709551616) (hy : y < 18446744073709551616) (ha : a < 18446744073709551616) (hb : b < 18446744073709551616) (hT : Tab64 w) (hB : 1 < w.heap.size) :
    Calls Tryd.prog 8 #[.int .u64 (x : Int), .int .u64 (y : Int), .int .u64 (a : Int), .int .u64 (b : Int)] w fun e w' => e = .returned (.bool true) ∧ Below w.heap.size w w' := by
  have HT := Lib.hid hT
  clear hT
  have hz : (0 : Nat) < 18446744073709551616 := by omega
  have hj := Lab.join_lt hy ha
  have hab := Lab.join_lt ha hb
  have hz0 := Lab.join_zero y
  cases hm : Lab.flows x (Lab.join y a)
  · go_enter Tryd.func8, Tryd.ntmps8
    go_wp2_with fail
    refine (may_any x y a _ hx hy ha).mono ?_
    rintro e w' ⟨rfl, rfl⟩
    go_wp2_with fail
    refine (refJoin_any y a _ hy ha).mono ?_
    rintro e w' ⟨rfl, rfl⟩
    go_wp2_with fail
    refine (refFlows_any x (Lab.join y a) _ hx hj).mono ?_
    rintro e w' ⟨rfl, rfl⟩
    go_wp2_with fail
    refine (may_any x y 0 _ hx hy hz).mono ?_
    rintro e w' ⟨rfl, rfl⟩
    rw [hz0]
    go_wp2_with fail
    refine (flows_any x y _ hx hy).mono ?_
    rintro e w' ⟨rfl, rfl⟩
    go_wp2_with fail
    refine (awake_any _ HT.out hB).mono ?_
    rintro e w2 ⟨rfl, hbel⟩
    go_wp2_with fail
    go_ret
    exact ⟨rfl, hbel⟩
  · have hmore := Lab.flows_more (b := b) hm
    go_enter Tryd.func8, Tryd.ntmps8
    go_wp2_with fail
    refine (may_any x y a _ hx hy ha).mono ?_
    rintro e w' ⟨rfl, rfl⟩
    go_wp2_with fail
    refine (refJoin_any y a _ hy ha).mono ?_
    rintro e w' ⟨rfl, rfl⟩
    go_wp2_with fail
    refine (refFlows_any x (Lab.join y a) _ hx hj).mono ?_
    rintro e w' ⟨rfl, rfl⟩
    go_wp2_with fail
    refine (may_any x y 0 _ hx hy hz).mono ?_
    rintro e w' ⟨rfl, rfl⟩
    rw [hz0]
    go_wp2_with fail
    refine (flows_any x y _ hx hy).mono ?_
    rintro e w' ⟨rfl, rfl⟩
    go_wp2_with fail
    refine (join_any a b _ ha hb).mono ?_
    rintro e w' ⟨rfl, rfl⟩
    go_wp2_with fail
    refine (may_any x y (Lab.join a b) _ hx hy hab).mono ?_
    rintro e w' ⟨rfl, rfl⟩
    go_wp2_with fail
    refine (awake_any _ HT.out hB).mono ?_
    rintro e w2 ⟨rfl, hbel⟩
    go_wp2_with fail
    go_ret
    exact ⟨rfl, hbel⟩

theorem labelLattice_walk (a b c : Nat) (w : World) (ha : a < 18446744073709551616) (hb : b < 18446744073709551616) (hc : c < 18446744073709551616) (hT : Tab64 w) (hB : 1 < w.heap.size) :
    Calls Tryd.prog 7 #[.int .u64 (a : Int), .int .u64 (b : Int), .int .u64 (c : Int)] w fun e w' => e = .returned (.bool true) ∧ Below w.heap.size w w' := by
  have HT := Lib.hid hT
  clear hT
  have j1 := Lab.join_lt ha hb
  have j2 := Lab.join_lt hb hc
  have m1 := Lab.meet_lt (b := b) ha
  have m2 := Lab.meet_lt (b := c) hb
  have e1 : Lab.join b a = Lab.join a b := Lab.join_comm b a
  have e2 : Lab.meet b a = Lab.meet a b := Lab.meet_comm b a
  have e3 := Lab.join_self a
  have e4 := Lab.meet_self a
  have e5 := Lab.join_assoc a b c
  have e6 := Lab.meet_assoc a b c
  have e7 := Lab.join_meet a b
  have e8 := Lab.meet_join a b
  have e9 : (((Lab.join a b : Nat) : Int) == (b : Int)) = Lab.flows a b := by
    rw [← Lab.flows_join_eq, Bool.eq_iff_iff]; simp only [beq_iff_eq]; omega
  have f1 := Lab.meet_flows a b
  have f2 := Lab.flows_join a b
  cases k1 : Lab.flows a b <;> cases k2 : Lab.flows b c
  all_goals
    try (have k3 := Lab.flows_trans k1 k2)
    rw [k1] at e9
    go_enter Tryd.func7, Tryd.ntmps7
    go_wp2_with (first
      | (go_at_call 22; refine (join_any _ _ _ (by assumption) (by assumption)).mono ?_; rintro e w' ⟨rfl, rfl⟩)
      | (go_at_call 24; refine (meet_any _ _ _ (by assumption) (by assumption)).mono ?_; rintro e w' ⟨rfl, rfl⟩)
      | (go_at_call 26; refine (flows_any _ _ _ (by assumption) (by assumption)).mono ?_; rintro e w' ⟨rfl, rfl⟩)
      | (go_at_call 27; refine (awake_any _ HT.out hB).mono ?_; rintro e w2 ⟨rfl, hbel⟩))
    go_ret
    exact ⟨rfl, hbel⟩
end Go.Proofs.YtaaapjoopchgiaaDoor
