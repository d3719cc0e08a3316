/-
  What scrimref01.number computes.
-/
import Derived.Test.YtaaapjoopchgiaaDoorLabParse3
namespace Go.Proofs.YtaaapjoopchgiaaDoor
open Go.RowKit
set_option maxHeartbeats 1000000
set_option maxRecDepth 100000
set_option linter.unusedVariables false

def numV : Option Nat → Int
  | none => -1
  | some n => (n : Int)
/-- What scrimref01.number tells of what stands at a place. -/
def NumTold (s : List UInt8) (at_ : Nat) (w : World) (e : Ending) (w' : World) : Prop := w = w' ∧ ∃ to_ : Nat, at_ ≤ to_ ∧ to_ ≤ s.length ∧ s.drop to_ = (Lab.numR (s.drop at_)).2 ∧ e = .returned (.tuple #[.int .i64 (numV (Lab.numR (s.drop at_)).1), .int .i64 (to_ : Int)])
def NumAt (s : List UInt8) (at_ to_ n : Nat) : Prop := Lab.takeDig (3 - (to_ - at_)) (s.drop to_) n = Lab.takeDig 3 (s.drop at_) 0
theorem NumAt.step {s : List UInt8} {at_ to_ n : Nat} (h : NumAt s at_ to_ n) (h1 : at_ ≤ to_) (hlt : to_ < s.length) (h3 : to_ - at_ < 3) (hd1 : 48 ≤ s[to_].toNat) (hd2 : s[to_].toNat ≤ 57) : NumAt s at_ (to_ + 1) (10 * n + (s[to_].toNat - 48)) := by
  unfold NumAt at *
  rw [← h, List.drop_eq_getElem_cons hlt, show 3 - (to_ - at_) = (3 - (to_ + 1 - at_)) + 1 by omega, Lab.takeDig, if_pos (by simp [Lab.digit, hd1, hd2])]
theorem NumAt.stop {s : List UInt8} {at_ to_ n : Nat} (h : NumAt s at_ to_ n) (h1 : at_ ≤ to_) (h2 : to_ ≤ s.length) (hs : to_ = s.length ∨ 3 ≤ to_ - at_ ∨ ∃ hlt : to_ < s.length, s[to_].toNat < 48 ∨ 57 < s[to_].toNat) : Lab.takeDig 3 (s.drop at_) 0 = (n, s.drop to_) := by
  unfold NumAt at h
  rw [← h]
  rcases hs with e | e | ⟨hlt, e⟩
  · rw [e, List.drop_length, Lab.takeDig_nil]
  · rw [show 3 - (to_ - at_) = 0 by omega]; rfl
  · rw [List.drop_eq_getElem_cons hlt]
    exact Lab.takeDig_stop (by unfold Lab.digit; rcases e with e | e <;> simp <;> omega) _ _ _
theorem numR_none {s : List UInt8} {at_ to_ n : Nat} (h : Lab.takeDig 3 (s.drop at_) 0 = (n, s.drop to_)) (hc : to_ = at_ ∨ 63 < n) : Lab.numR (s.drop at_) = (none, s.drop to_) := by
  unfold Lab.numR
  rw [h, if_pos]
  rcases hc with e | e
  · exact .inl (by rw [e])
  · exact .inr e
theorem numR_some {s : List UInt8} {at_ to_ n : Nat} (h : Lab.takeDig 3 (s.drop at_) 0 = (n, s.drop to_)) (h1 : at_ < to_) (h2 : to_ ≤ s.length) (hc : n ≤ 63) : Lab.numR (s.drop at_) = (some n, s.drop to_) := by
  unfold Lab.numR
  rw [h, if_neg]
  rintro (e | e)
  · simp only [List.length_drop] at e; omega
  · simp only at e; omega
theorem number_any (s : List UInt8) (at_ : Nat) (w : World) (hs : s.length ≤ 1000) (hat : at_ ≤ s.length) :
    Calls Tryd.prog 57 #[.string ⟨s.toArray⟩, .int .i64 (at_ : Int)] w (NumTold s at_ w) := by
  go_enter Tryd.func57, Tryd.ntmps57
  go_wp2_with fail
  go_loop [6, 7] (fun nv tv => ∃ to_ n : Nat, at_ ≤ to_ ∧ to_ ≤ s.length ∧ to_ ≤ at_ + 3 ∧ n < 10 ^ (to_ - at_) ∧ nv = .int .i64 (n : Int) ∧ tv = .int .i64 (to_ : Int) ∧ Hid (NumAt s at_ to_ n)) (fun _ tv => s.length - (intOf tv).toNat)
  case atStart => exact ⟨at_, 0, Nat.le_refl _, hat, by omega, by rw [Nat.sub_self]; decide, rfl, rfl, Lib.hid (by unfold NumAt; rw [Nat.sub_self])⟩
  case round =>
    obtain ⟨to_, n, h1, h2, h3, hn, rfl, rfl, H⟩ := hrel
    have hn1 : n < 1000 := Nat.lt_of_lt_of_le hn (Nat.le_trans (Nat.pow_le_pow_right (by omega) (show to_ - at_ ≤ 3 by omega)) (by decide))
    have FIN : Hid (∀ hs : (to_ = s.length ∨ 3 ≤ to_ - at_ ∨ ∃ hlt : to_ < s.length, s[to_].toNat < 48 ∨ 57 < s[to_].toNat), ((to_ = at_ ∨ 63 < n) → NumTold s at_ w (.returned (.tuple #[.int .i64 (-1), .int .i64 (to_ : Int)])) w) ∧ (at_ < to_ → n ≤ 63 → NumTold s at_ w (.returned (.tuple #[.int .i64 (n : Int), .int .i64 (to_ : Int)])) w)) := Lib.hid (fun hst => by
      have h := H.out.stop h1 h2 hst
      refine ⟨fun hc => ?_, fun ha hb => ?_⟩
      · have e := numR_none h hc
        exact ⟨rfl, to_, h1, h2, by rw [e], by rw [e]; rfl⟩
      · have e := numR_some h ha h2 hb
        exact ⟨rfl, to_, h1, h2, by rw [e], by rw [e]; rfl⟩)
    -- how the loop is left
    by_cases hlt : to_ < s.length
    · obtain ⟨x, hx⟩ : ∃ x, x = s[to_].toNat := ⟨_, rfl⟩
      have hg : ((⟨s.toArray⟩ : ByteArray)[to_]'(show to_ < (⟨s.toArray⟩ : ByteArray).size from hlt)).toNat = x := hx.symm
      have HX := Lib.hid hx
      clear hx
      by_cases hd : (48 ≤ x ∧ x ≤ 57) ∧ to_ - at_ < 3
      · obtain ⟨⟨hd1, hd2⟩, hd3⟩ := hd
        have hd4 : to_ < at_ + 3 := by omega
        have ST := Lib.hid (H.out.step h1 hlt hd3 (by rw [← HX.out]; exact hd1) (by rw [← HX.out]; exact hd2))
        have HNB : Hid (10 * n + (x - 48) < 10 ^ (to_ + 1 - at_)) := Lib.hid (by
          rw [show to_ + 1 - at_ = (to_ - at_) + 1 by omega, Nat.pow_succ]; omega)
        clear hn hd3
        go_wp2_with fail
        refine ⟨⟨to_ + 1, 10 * n + (x - 48), by omega, by omega, by omega, HNB.out, congrArg (Value.int .i64) (by omega), by go_num, ?_⟩, by simp [intOf]; omega⟩
        rw [HX.out]; exact ST
      · have HF := Lib.hid (FIN.out (by
          rcases (show x < 48 ∨ 57 < x ∨ 3 ≤ to_ - at_ by omega) with h | h | h
          · exact .inr (.inr ⟨hlt, .inl (by rw [← HX.out]; exact h)⟩)
          · exact .inr (.inr ⟨hlt, .inr (by rw [← HX.out]; exact h)⟩)
          · exact .inr (.inl h)))
        have hc : x < 48 ∨ (48 ≤ x ∧ 57 < x) ∨ ((48 ≤ x ∧ x ≤ 57) ∧ at_ + 3 ≤ to_) := by omega
        clear hd hn FIN
        have hb : to_ = at_ ∨ (at_ < to_ ∧ 63 < n) ∨ (at_ < to_ ∧ n ≤ 63) := by omega
        rcases hb with hb | ⟨hb1, hb2⟩ | ⟨hb1, hb2⟩
        · have HY := Lib.hid (HF.out.1 (.inl hb))
          subst hb
          clear HF
          rcases hc with hc | ⟨hc, hc2⟩ | ⟨⟨hc, hc2⟩, hc3⟩
          · go_wp2_with fail
            go_ret2
            exact HY.out
          · go_wp2_with fail
            go_ret2
            exact HY.out
          · exfalso; omega
        · have HY := Lib.hid (HF.out.1 (.inr hb2))
          have hnz : ((to_ : Int) == (at_ : Int)) = false := by rw [beq_eq_false_iff_ne]; omega
          clear HF
          rcases hc with hc | ⟨hc, hc2⟩ | ⟨⟨hc, hc2⟩, hc3⟩
          all_goals
            go_wp2_with fail
            go_ret2
            exact HY.out
        · have HY := Lib.hid (HF.out.2 hb1 hb2)
          have hnz : ((to_ : Int) == (at_ : Int)) = false := by rw [beq_eq_false_iff_ne]; omega
          clear HF
          rcases hc with hc | ⟨hc, hc2⟩ | ⟨⟨hc, hc2⟩, hc3⟩
          all_goals
            go_wp2_with fail
            go_ret2
            exact HY.out
    · have HF := Lib.hid (FIN.out (.inl (by omega)))
      clear hn FIN
      have hb : to_ = at_ ∨ (at_ < to_ ∧ 63 < n) ∨ (at_ < to_ ∧ n ≤ 63) := by omega
      rcases hb with hb | ⟨hb1, hb2⟩ | ⟨hb1, hb2⟩
      · have HY := Lib.hid (HF.out.1 (.inl hb))
        subst hb
        clear HF
        go_wp2_with fail
        go_ret2
        exact HY.out
      · have HY := Lib.hid (HF.out.1 (.inr hb2))
        have hnz : ((to_ : Int) == (at_ : Int)) = false := by rw [beq_eq_false_iff_ne]; omega
        clear HF
        go_wp2_with fail
        go_ret2
        exact HY.out
      · have HY := Lib.hid (HF.out.2 hb1 hb2)
        have hnz : ((to_ : Int) == (at_ : Int)) = false := by rw [beq_eq_false_iff_ne]; omega
        clear HF
        go_wp2_with fail
        go_ret2
        exact HY.out
end Go.Proofs.YtaaapjoopchgiaaDoor
