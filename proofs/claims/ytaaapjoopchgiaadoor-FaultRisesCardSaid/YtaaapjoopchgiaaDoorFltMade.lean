/-
  Class, Raise, Caught, Is of a chain; scrimref18.Caught; scrimlaw18.made.
-/
import Derived.Test.YtaaapjoopchgiaaDoorFltTells
namespace Go.Proofs.YtaaapjoopchgiaaDoor
open Go.RowKit
set_option maxHeartbeats 1000000
set_option linter.unusedVariables false

theorem class_any (c : Int) (e : Value) (fs : List (Nat × Nat)) (w : World) (h : Chain w c e fs) (hc : c = 0 ↔ fs = []) (hE : ErrType w) :
    Calls Tryd.prog 12 #[e] w fun ev w' => ev = .returned (.int .i64 c) ∧ Below w.heap.size w w' := by
  cases fs with
  | nil =>
    have h0 : c = 0 := hc.2 rfl
    have he : e = .nilIface := h
    subst h0 he
    exact class_nil w
  | cons x r =>
    obtain ⟨b, l⟩ := x
    obtain ⟨rfl, o, hb, _, _⟩ := h
    exact class_hit b c l o w hb hE
theorem raise_any (c : Int) (e : Value) (fs : List (Nat × Nat)) (m : Nat) (w : World) (h : Chain w c e fs) (hc : c = 0 ↔ fs = []) (hE : ErrType w) :
    Calls Tryd.prog 19 #[e, .int .u64 (m : Int)] w fun ev w' => ∃ e' fs', ev = .returned e' ∧ Chain w' c e' fs' ∧ Hid ((fs = [] → fs' = []) ∧ (fs ≠ [] → ∃ g, fs' = (g, m) :: fs)) ∧ Below w.heap.size w w' := by
  cases fs with
  | nil =>
    have he : e = .nilIface := h
    subst he
    refine (raise_nil m w).mono ?_
    rintro ev w' ⟨rfl, hb⟩
    exact ⟨.nilIface, [], rfl, rfl, Lib.hid ⟨fun _ => rfl, fun h => absurd rfl h⟩, hb⟩
  | cons x r =>
    have h0 := h
    obtain ⟨b, l⟩ := x
    obtain ⟨rfl, o, hb, _, _⟩ := h
    have hc0 : (c == 0) = false := by
      rw [beq_eq_false_iff_ne]; intro h; have := hc.1 h; cases this
    refine (raise_some b c l m o w hb hE hc0).mono ?_
    rintro ev w' ⟨g, rfl, hg, hblk, hbel⟩
    refine ⟨_, (g, m) :: (b, l) :: r, rfl, ⟨rfl, _, hblk, h0.below hbel, fun x hx => Nat.lt_of_lt_of_le (h0.lt x hx) hg⟩, Lib.hid ⟨(fun h => by cases h), fun _ => ⟨g, rfl⟩⟩, hbel⟩
def caughtB (c code : Int) : Bool := decide (1 ≤ c) && decide (c ≤ 8) && (code == 0 || code == c)
theorem caught_any (c code : Int) (e : Value) (fs : List (Nat × Nat)) (w : World) (h : Chain w c e fs) (hc : c = 0 ↔ fs = []) (hE : ErrType w) :
    Calls Tryd.prog 16 #[e, .int .i64 code] w fun ev w' => ev = .returned (.bool (caughtB c code)) ∧ Below w.heap.size w w' := by
  have HC := Lib.hid (class_any c e fs w h hc hE)
  clear h hc hE
  rcases Int.lt_or_le c 1 with h1 | h1
  · have HB : Hid (caughtB c code = false) := Lib.hid (by unfold caughtB; rw [decide_eq_false (by omega)]; rfl)
    rw [HB.out]
    go_enter Tryd.func16, Tryd.ntmps16
    go_wp2_with fail
    refine HC.out.mono ?_
    rintro ev w' ⟨rfl, hb⟩
    go_wp2_with fail
    go_ret
    exact ⟨rfl, hb⟩
  · rcases Int.lt_or_le 8 c with h8 | h8
    · have HB : Hid (caughtB c code = false) := Lib.hid (by unfold caughtB; rw [decide_eq_false (show ¬ c ≤ 8 by omega)]; simp)
      rw [HB.out]
      go_enter Tryd.func16, Tryd.ntmps16
      go_wp2_with fail
      refine HC.out.mono ?_
      rintro ev w' ⟨rfl, hb⟩
      go_wp2_with fail
      go_ret
      exact ⟨rfl, hb⟩
    · have HB : Hid (caughtB c code = (code == 0 || code == c)) := Lib.hid (by unfold caughtB; rw [decide_eq_true h1, decide_eq_true h8]; rfl)
      rw [HB.out]
      cases hz : code == 0
      · cases hq : code == c
        all_goals
          go_enter Tryd.func16, Tryd.ntmps16
          go_wp2_with fail
          refine HC.out.mono ?_
          rintro ev w' ⟨rfl, hb⟩
          go_wp2_with fail
          go_ret
          exact ⟨rfl, hb⟩
      · go_enter Tryd.func16, Tryd.ntmps16
        go_wp2_with fail
        refine HC.out.mono ?_
        rintro ev w' ⟨rfl, hb⟩
        go_wp2_with fail
        go_ret
        exact ⟨rfl, hb⟩
theorem refCaught_any (c code : Int) (A : Option Addr) (n cp : Nat) (w : World) :
    Calls Tryd.prog 17 #[.agg #[.int .i64 c, .slice A n cp], .int .i64 code] w fun ev w' => ev = .returned (.bool (caughtB c code)) ∧ Below w.heap.size w w' := by
  rcases Int.lt_or_le c 1 with h1 | h1
  · have HB : Hid (caughtB c code = false) := Lib.hid (by unfold caughtB; rw [decide_eq_false (by omega)]; rfl)
    rw [HB.out]
    have hd : decide (1 ≤ c) = false := decide_eq_false (by omega)
    go_enter Tryd.func17, Tryd.ntmps17
    go_wp2_with fail
    go_ret
    exact ⟨rfl, (Below.refl _ _).alloc (Nat.le_refl _) _⟩
  · rcases Int.lt_or_le 8 c with h8 | h8
    · have HB : Hid (caughtB c code = false) := Lib.hid (by unfold caughtB; rw [decide_eq_false (show ¬ c ≤ 8 by omega)]; simp)
      rw [HB.out]
      have hd : decide (c ≤ 8) = false := decide_eq_false (by omega)
      go_enter Tryd.func17, Tryd.ntmps17
      go_wp2_with fail
      go_ret
      exact ⟨rfl, (Below.refl _ _).alloc (Nat.le_refl _) _⟩
    · have HB : Hid (caughtB c code = (code == 0 || code == c)) := Lib.hid (by unfold caughtB; rw [decide_eq_true h1, decide_eq_true h8]; rfl)
      rw [HB.out]
      cases hz : code == 0
      · cases hq : code == c
        all_goals
          go_enter Tryd.func17, Tryd.ntmps17
          go_wp2_with fail
          go_ret
          exact ⟨rfl, (Below.refl _ _).alloc (Nat.le_refl _) _⟩
      · go_enter Tryd.func17, Tryd.ntmps17
        go_wp2_with fail
        go_ret
        exact ⟨rfl, (Below.refl _ _).alloc (Nat.le_refl _) _⟩
theorem eql_nil_errno (n : Int) (w : World) : (binOp .eql 25 .nilIface (.iface 30 (.int .i64 n))).run Tryd.prog w = .ok (.bool false) w := by kernel_rfl
theorem errIs_nil (n : Int) (w : World) : Calls Tryd.prog 46 #[.nilIface, .iface 30 (.int .i64 n)] w fun ev w' => ev = .returned (.bool false) ∧ w = w' := by
  have hq := eql_nil_errno
  go_enter Tryd.func46, Tryd.ntmps46
  go_wp2_with fail
  go_ret
  exact ⟨rfl, rfl⟩
end Go.Proofs.YtaaapjoopchgiaaDoor
