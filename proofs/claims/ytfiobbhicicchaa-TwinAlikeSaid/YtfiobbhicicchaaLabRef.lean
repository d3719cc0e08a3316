/-
  What the small functions of scrimref01 and label compute, for every label: Has, Bit, Join, Meet, Flows.
-/
import Derived.Test.YtfiobbhicicchaaWords
import Derived.Test.YtfiobbhicicchaaLabMath
import Derived.WalkKit
import Derived.WalkSpells
import Derived.WalkLawsBesides
import Derived.Lib.Hide
import Derived.Laws.BitsAllLaws
import Derived.IntWalk
namespace Go.Proofs.Ytfiobbhicicchaa
open Go.RowKit
set_option maxHeartbeats 400000
theorem has_any (l t : Nat) (w : World) (hl : l < 18446744073709551616) (ht : t ≤ 64) :
    Calls Try.prog 35 #[.int .u64 (l : Int), .int .i64 (t : Int)] w fun e w' => e = .returned (.bool (l.testBit t)) ∧ w = w' := by
  go_enter Try.func35, Try.ntmps35
  go_wp2
  go_loop [0, 5] (fun x i => ∃ k n : Nat, k ≤ t ∧ n < 18446744073709551616 ∧ i = .int .i64 k ∧ x = .int .u64 (n : Int) ∧ Hid (n = l / 2 ^ k)) (fun _ i => t - (intOf i).toNat)
  case atStart => exact ⟨0, l, Nat.zero_le _, hl, rfl, rfl, Lib.hid (by simp)⟩
  case round =>
    obtain ⟨k, n, hk, hn, rfl, rfl, H⟩ := hrel
    by_cases hlt : k < t
    · go_wp2
      go_round
      case rel => exact ⟨k + 1, n / 2, by omega, by omega, by go_num, by go_num, Lib.hid (by rw [H.out, Nat.pow_succ, ← Nat.div_div_eq_div_mul])⟩
      case measure => simp [intOf]; omega
    · go_wp2
      go_ret
      have : k = t := by omega
      subst this
      refine ⟨ret_bool ?_, rfl⟩
      rw [Nat.testBit_eq_decide_div_mod_eq, ← H.out, Bool.eq_iff_iff]
      simp; omega

theorem bit_any (t : Nat) (w : World) (ht : t < 64) :
    Calls Try.prog 58 #[.int .i64 (t : Int)] w fun e w' => e = .returned (.int .u64 (Lab.bit t : Int)) ∧ w = w' := by
  go_enter Try.func58, Try.ntmps58
  go_wp2
  go_loop [3, 4] (fun x i => ∃ k n : Nat, k ≤ t ∧ n < 18446744073709551616 ∧ i = .int .i64 k ∧ x = .int .u64 (n : Int) ∧ Hid (n = 2 ^ k)) (fun _ i => t - (intOf i).toNat)
  case atStart => exact ⟨0, 1, Nat.zero_le _, by omega, rfl, rfl, Lib.hid (by simp)⟩
  case round =>
    obtain ⟨k, n, hk, hn, rfl, rfl, H⟩ := hrel
    by_cases hlt : k < t
    · have hn2 : n < 9223372036854775808 := by
        rw [H.out]
        exact Nat.lt_of_le_of_lt (Nat.pow_le_pow_right (by decide) (by omega : k ≤ 62)) (by decide)
      go_wp2
      go_round
      case rel => exact ⟨k + 1, n * 2, by omega, by omega, by go_num, by go_num, Lib.hid (by rw [H.out, Nat.pow_succ])⟩
      case measure => simp [intOf]; omega
    · go_wp2
      go_ret
      have : k = t := by omega
      subst this
      exact ⟨ret_int (by rw [H.out]; rfl), rfl⟩

theorem flows_any (a b : Nat) (w : World) (ha : a < 18446744073709551616) (hb : b < 18446744073709551616) :
    Calls Try.prog 20 #[.int .u64 (a : Int), .int .u64 (b : Int)] w fun e w' => e = .returned (.bool (Lab.flows a b)) ∧ w = w' := by
  go_enter Try.func20, Try.ntmps20
  go_wp2
  go_ret
  refine ⟨ret_bool ?_, rfl⟩
  rw [u64_andNot_nat a b ha hb, ← Lab.flows_andNot ha hb, Bool.eq_iff_iff]
  simp only [beq_iff_eq]
  omega
theorem refJoin_any (a b : Nat) (w : World) (ha : a < 18446744073709551616) (hb : b < 18446744073709551616) :
    Calls Try.prog 54 #[.int .u64 (a : Int), .int .u64 (b : Int)] w fun e w' => e = .returned (.int .u64 (Lab.join a b : Int)) ∧ w = w' := by
  go_enter Try.func54, Try.ntmps54
  go_wp2_with fail
  go_loop [5, 6] (fun x i => ∃ k n : Nat, k ≤ 64 ∧ i = .int .i64 k ∧ x = .int .u64 (n : Int) ∧ Hid (n = Lab.sumBits (fun t => a.testBit t || b.testBit t) k)) (fun _ i => 64 - (intOf i).toNat)
  case atStart => exact ⟨0, 0, Nat.zero_le _, rfl, rfl, Lib.hid rfl⟩
  case round =>
    obtain ⟨k, n, hk, rfl, rfl, H⟩ := hrel
    by_cases hlt : k < 64
    · have hn : n < Lab.bit k := by rw [H.out]; exact Lab.sumBits_lt _ _
      have hb2 : Lab.bit k ≤ 9223372036854775808 := Nat.pow_le_pow_right (n := 2) (by decide) (show k ≤ 63 by omega)
      cases ea : a.testBit k <;> cases eb : b.testBit k
      all_goals
        go_wp2_with (first | (go_at_call 35; refine (has_any _ _ _ (by assumption) (by omega)).mono ?_; rintro e w' ⟨rfl, rfl⟩) | (go_at_call 58; refine (bit_any _ _ (by omega)).mono ?_; rintro e w' ⟨rfl, rfl⟩))
        go_round
        case rel => first | exact ⟨k + 1, n, by omega, by go_num, rfl, Lib.hid (by rw [H.out, Lab.sumBits]; simp [ea, eb])⟩ | exact ⟨k + 1, n + Lab.bit k, by omega, by go_num, by go_num, Lib.hid (by rw [H.out, Lab.sumBits]; simp [ea, eb, Lab.bit])⟩
        case measure => simp [intOf]; omega
    · go_wp2_with fail
      go_ret
      obtain rfl : k = 64 := by omega
      exact ⟨ret_int (by rw [H.out, Lab.sum_join ha hb]), rfl⟩
theorem refFlows_any (a b : Nat) (w : World) (ha : a < 18446744073709551616) (hb : b < 18446744073709551616) :
    Calls Try.prog 23 #[.int .u64 (a : Int), .int .u64 (b : Int)] w fun e w' => e = .returned (.bool (Lab.flows a b)) ∧ w = w' := by
  go_enter Try.func23, Try.ntmps23
  go_wp2_with fail
  go_loop [5] (fun i => ∃ k : Nat, k ≤ 64 ∧ i = .int .i64 k ∧ Hid (∀ t, t < k → a.testBit t = true → b.testBit t = true)) (fun i => 64 - (intOf i).toNat)
  case atStart => exact ⟨0, Nat.zero_le _, rfl, Lib.hid (fun t h => absurd h (by omega))⟩
  case round =>
    obtain ⟨k, hk, rfl, H⟩ := hrel
    by_cases hlt : k < 64
    · cases ea : a.testBit k <;> cases eb : b.testBit k
      all_goals
        go_wp2_with (go_at_call 35; refine (has_any _ _ _ (by assumption) (by omega)).mono ?_; rintro e w' ⟨rfl, rfl⟩)
      rotate_left 2
      · go_ret
        refine ⟨ret_bool ?_, rfl⟩
        cases ef : Lab.flows a b
        · rfl
        · have := (Lab.flows_iff a b).1 ef k ea
          rw [eb] at this; cases this
      all_goals
        go_round
        case rel => exact ⟨k + 1, by omega, by go_num, Lib.hid (fun t h => by
          rcases Nat.lt_succ_iff_lt_or_eq.1 h with h | h
          · exact H.out t h
          · subst h; simp [ea, eb])⟩
        case measure => simp [intOf]; omega
    · go_wp2_with fail
      go_ret
      obtain rfl : k = 64 := by omega
      exact ⟨ret_bool (Lab.flows_of_below ha H.out).symm, rfl⟩
end Go.Proofs.Ytfiobbhicicchaa
