/-
  What scrimref01.Decimal and Text compute.
-/
import Derived.Test.YtfiobbhicicchaaDoorLabText
namespace Go.Proofs.YtfiobbhicicchaaDoor
open Go.RowKit
set_option maxHeartbeats 1000000
set_option maxRecDepth 100000
set_option linter.unusedVariables false

theorem decimal_one (n : Nat) (w : World) (h : n < 10) :
    Calls Tryd.prog 34 #[.int .i64 (n : Int)] w fun e w' => e = .returned (strV (Lib.decDigits n)) ∧ w = w' := by
  have HD := Lib.hid (Lib.decDigits_one h)
  have h10 : n = 0 ∨ n = 1 ∨ n = 2 ∨ n = 3 ∨ n = 4 ∨ n = 5 ∨ n = 6 ∨ n = 7 ∨ n = 8 ∨ n = 9 := by omega
  rcases h10 with rfl | rfl | rfl | rfl | rfl | rfl | rfl | rfl | rfl | rfl
  all_goals
    go_enter Tryd.func34, Tryd.ntmps34
    go_wp2_with fail
    go_ret
    exact ⟨by rw [HD.out]; rfl, rfl⟩
theorem decimal_any (n : Nat) (w : World) (h : n < 100) :
    Calls Tryd.prog 34 #[.int .i64 (n : Int)] w fun e w' => e = .returned (strV (Lib.decDigits n)) ∧ w = w' := by
  by_cases h10 : n < 10
  · exact decimal_one n w h10
  · have HD : Lib.decDigits n = Lib.decDigits (n / 10) ++ Lib.decDigits (n % 10) := by
      rw [Lib.decDigits_two h10 h, Lib.decDigits_one (by omega : n / 10 < 10), Lib.decDigits_one (by omega : n % 10 < 10)]; rfl
    replace HD := Lib.hid HD
    have H1 := Lib.hid (decimal_one (n / 10) w (by omega))
    have H2 := Lib.hid (decimal_one (n % 10) w (by omega))
    have hp : (Lib.decDigits (n / 10)).length = 1 := by rw [Lib.decDigits_one (by omega : n / 10 < 10)]; rfl
    have hq : (Lib.decDigits (n % 10)).length = 1 := by rw [Lib.decDigits_one (by omega : n % 10 < 10)]; rfl
    generalize Lib.decDigits (n / 10) = p at HD H1 hp
    generalize Lib.decDigits (n % 10) = q at HD H2 hq
    have e1 : ((n / 10 : Nat) : Int) = (n : Int) / 10 := by omega
    have e2 : ((n % 10 : Nat) : Int) = (n : Int) % 10 := by omega
    rw [e1] at H1
    rw [e2] at H2
    clear e1 e2
    go_enter Tryd.func34, Tryd.ntmps34
    go_wp2_with fail
    refine H1.out.mono ?_
    rintro e w' ⟨rfl, rfl⟩
    rw [strV]
    go_wp2_with fail
    refine H2.out.mono ?_
    rintro e w' ⟨rfl, rfl⟩
    rw [strV]
    go_wp2_with fail
    go_ret
    exact ⟨by rw [HD.out]; simp only [strV, str_app]; rfl, rfl⟩
end Go.Proofs.YtfiobbhicicchaaDoor
