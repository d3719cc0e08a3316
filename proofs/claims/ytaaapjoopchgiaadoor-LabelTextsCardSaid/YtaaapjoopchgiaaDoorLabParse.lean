/-
  What strings.Cut at one byte, label.tag and label.run compute.
-/
import Derived.Test.YtaaapjoopchgiaaDoorLabText3
import Derived.Test.YtaaapjoopchgiaaDoorLabOf
import Derived.IntWalk
namespace Go.Proofs.YtaaapjoopchgiaaDoor
open Go.RowKit
set_option maxHeartbeats 1000000
set_option maxRecDepth 100000
set_option linter.unusedVariables false

theorem str_take (s : List UInt8) (n : Nat) (h : n ≤ s.length) : (⟨s.toArray⟩ : ByteArray).extract 0 n = ⟨(s.take n).toArray⟩ := by
  apply ByteArray.ext
  simp
theorem str_drop (s : List UInt8) (n : Nat) : (⟨s.toArray⟩ : ByteArray).extract n s.length = ⟨(s.drop n).toArray⟩ := by
  apply ByteArray.ext
  simp [List.take_of_length_le]
theorem liteCut_any (s : List UInt8) (c : UInt8) (w : World) (hs : s.length ≤ 100000) :
    Calls Tryd.prog 70 #[.string ⟨s.toArray⟩, .string ⟨#[c]⟩] w fun e w' => e = .returned (.tuple #[strV (Lab.cutAt c s).1, strV (Lab.cutAt c s).2.1, .bool (Lab.cutAt c s).2.2]) ∧ ∃ n, w' = w.drewN n := by
  have IX := Lib.hid (Tryd.stringslite_Index_one ⟨s.toArray⟩ c w)
  rw [show (⟨s.toArray⟩ : ByteArray).data.toList = s from rfl] at IX
  rcases Lab.index_cut c s with ⟨h1, h2⟩ | ⟨n, h1, h2, h3⟩
  · have H2 := Lib.hid h2
    rw [h1] at IX
    clear h1 h2
    go_enter Tryd.func70, Tryd.ntmps70
    go_wp2_with fail
    refine IX.out.mono ?_
    rintro e w' ⟨rfl, hw⟩
    obtain rfl : w = w' := hw.symm
    go_wp2_with fail
    go_ret3
    exact ⟨by rw [H2.out]; rfl, 0, rfl⟩
  · have H3 := Lib.hid h3
    rw [h1] at IX
    clear h1 h3
    have ht := Lib.hid (str_take s n (by omega))
    have hd := Lib.hid (str_drop s (n + 1))
    have hw1 : IntKind.i64.wrap ((n : Int) + 1) = (n : Int) + 1 := IntWalk.i64_in _ (by omega)
    have hp1 : (0 : Int) ≤ (n : Int) + 1 := by omega
    have ht1 : ((n : Int) + 1).toNat = n + 1 := by omega
    go_enter Tryd.func70, Tryd.ntmps70
    go_wp2_with fail
    refine IX.out.mono ?_
    rintro e w' ⟨rfl, hw⟩
    obtain rfl : w = w' := hw.symm
    go_wp2_with fail
    go_quiet (fail)
    go_wp2_with fail
    go_ret3
    refine ⟨?_, _, rfl⟩
    rw [H3.out]
    show Ending.returned (.tuple #[.string ((⟨s.toArray⟩ : ByteArray).extract 0 n), .string ((⟨s.toArray⟩ : ByteArray).extract (n + 1) s.length), .bool true]) = _
    rw [ht.out, hd.out]
    rfl
theorem cut_any (s : List UInt8) (c : UInt8) (w : World) (hs : s.length ≤ 100000) :
    Calls Tryd.prog 54 #[.string ⟨s.toArray⟩, .string ⟨#[c]⟩] w fun e w' => e = .returned (.tuple #[strV (Lab.cutAt c s).1, strV (Lab.cutAt c s).2.1, .bool (Lab.cutAt c s).2.2]) ∧ ∃ n, w' = w.drewN n := by
  have LC := Lib.hid (liteCut_any s c w hs)
  go_enter Tryd.func54, Tryd.ntmps54
  go_wp2_with fail
  refine LC.out.mono ?_
  rintro e w' ⟨rfl, n, rfl⟩
  go_wp2_with fail
  go_ret3
  exact ⟨rfl, n, rfl⟩

theorem numOf_snoc (s : List UInt8) (b : UInt8) : Lab.numOf (s ++ [b]) = 10 * Lab.numOf s + (b.toNat - 48) := by simp [Lab.numOf]
theorem fold_bound : ∀ (s : List UInt8) (n : Nat), s.all Lab.digit = true → s.foldl (fun n b => 10 * n + (b.toNat - 48)) n + 1 ≤ (n + 1) * 10 ^ s.length
  | [], n, _ => by simp
  | b :: r, n, h => by
    rw [List.all_cons, Bool.and_eq_true] at h
    have h2 := h.1
    unfold Lab.digit at h2
    rw [Bool.and_eq_true, decide_eq_true_iff, decide_eq_true_iff] at h2
    have ih := fold_bound r (10 * n + (b.toNat - 48)) h.2
    rw [List.foldl_cons, List.length_cons, Nat.pow_succ]
    have h3 : (10 * n + (b.toNat - 48) + 1) * 10 ^ r.length ≤ (n + 1) * 10 * 10 ^ r.length := Nat.mul_le_mul_right _ (by omega)
    rw [Nat.mul_comm (10 ^ r.length) 10, ← Nat.mul_assoc]
    omega
theorem numOf_bound (s : List UInt8) (h : s.all Lab.digit = true) : Lab.numOf s < 10 ^ s.length := by
  have := fold_bound s 0 h
  rw [Nat.zero_add, Nat.one_mul] at this
  exact this
/-- What label.tag tells. -/
def TagTold (s : List UInt8) (w : World) (e : Ending) (w' : World) : Prop := w = w' ∧ ∃ v : Int, e = .returned (.tuple #[.int .i64 v, .bool (Lab.tagP s).isSome]) ∧ ∀ n, Lab.tagP s = some n → v = (n : Int)
theorem TagTold.none_ {s : List UInt8} (w : World) (v : Int) (h : Lab.tagP s = none) : TagTold s w (.returned (.tuple #[.int .i64 v, .bool false])) w := ⟨rfl, v, by rw [h]; rfl, fun n hn => by rw [h] at hn; cases hn⟩
theorem tagP_digits {s : List UInt8} (h1 : s ≠ []) (h2 : s.length ≤ 2) (h3 : s.all Lab.digit = true) : Lab.tagP s = if Lab.numOf s < 64 then some (Lab.numOf s) else none := by
  unfold Lab.tagP
  rw [if_neg]
  rintro (e | e | e)
  · exact h1 e
  · omega
  · rw [h3] at e; cases e

theorem digit_step {S : List UInt8} {k : Nat} (hk : k < S.length) (h1 : 48 ≤ S[k].toNat) (h2 : S[k].toNat ≤ 57) (ha : (S.take k).all Lab.digit = true) : Lab.numOf (S.take (k + 1)) = 10 * Lab.numOf (S.take k) + (S[k].toNat - 48) ∧ (S.take (k + 1)).all Lab.digit = true := by
  rw [List.take_succ_eq_append_getElem hk, numOf_snoc, List.all_append, ha]
  exact ⟨rfl, by simp [Lab.digit, h1, h2]⟩
theorem digit_fail {S : List UInt8} {k : Nat} (hk : k < S.length) (h : S[k].toNat < 48 ∨ 57 < S[k].toNat) : S.all Lab.digit = false := by
  cases e : S.all Lab.digit
  · rfl
  · have := List.all_eq_true.1 e S[k] (List.getElem_mem hk)
    unfold Lab.digit at this
    rw [Bool.and_eq_true, decide_eq_true_iff, decide_eq_true_iff] at this
    omega
theorem tagP_fail {S : List UInt8} (h : S.all Lab.digit = false) : Lab.tagP S = none := by unfold Lab.tagP; rw [if_pos (.inr (.inr h))]

theorem tag_any (s : List UInt8) (w : World) (hs : s.length ≤ 100000) :
    Calls Tryd.prog 71 #[.string ⟨s.toArray⟩] w (TagTold s w) := by
  by_cases h2 : 2 < s.length
  · have HN : Hid (Lab.tagP s = none) := Lib.hid (by unfold Lab.tagP; rw [if_pos (.inr (.inl h2))])
    have hne : s.isEmpty = false := by cases s <;> simp at h2 ⊢
    go_enter Tryd.func71, Tryd.ntmps71
    go_wp2_with fail
    go_ret2
    exact TagTold.none_ w 0 HN.out
  · cases s with
    | nil =>
      go_enter Tryd.func71, Tryd.ntmps71
      go_wp2_with fail
      go_ret2
      exact TagTold.none_ w 0 (by simp [Lab.tagP])
    | cons b0 r0 =>
      generalize hS : b0 :: r0 = S at *
      have hne : S ≠ [] := by rw [← hS]; simp
      have hemp : S.isEmpty = false := by rw [← hS]; rfl
      have hl2 : S.length ≤ 2 := by omega
      clear hS h2
      have HNE := Lib.hid hne
      clear hne
      go_enter Tryd.func71, Tryd.ntmps71
      go_wp2_with fail
      go_loop [4, 15] (fun ov iv => ∃ k n : Nat, k ≤ S.length ∧ n < 100 ∧ iv = .int .i64 (k : Int) ∧ ov = .int .i64 (n : Int) ∧ Hid (n = Lab.numOf (S.take k) ∧ (S.take k).all Lab.digit = true)) (fun _ iv => S.length - (intOf iv).toNat)
      case atStart => exact ⟨0, 0, Nat.zero_le _, by omega, rfl, rfl, Lib.hid ⟨rfl, rfl⟩⟩
      case round =>
        obtain ⟨k, n, hk, hn, rfl, rfl, H⟩ := hrel
        by_cases hlt : k < S.length
        · obtain ⟨x, hx⟩ : ∃ x, x = S[k].toNat := ⟨_, rfl⟩
          have hg : ((⟨S.toArray⟩ : ByteArray)[k]'(show k < (⟨S.toArray⟩ : ByteArray).size from hlt)).toNat = x := hx.symm
          have HX := Lib.hid hx
          clear hx
          by_cases hd : 48 ≤ x ∧ x ≤ 57
          · obtain ⟨hd1, hd2⟩ := hd
            have ST := Lib.hid (digit_step hlt (by rw [← HX.out]; exact hd1) (by rw [← HX.out]; exact hd2) H.out.2)
            have hnb : 10 * n + (x - 48) < 100 := by
              have h1 := numOf_bound _ ST.out.2
              rw [ST.out.1, ← H.out.1, ← HX.out] at h1
              have h2 : (S.take (k + 1)).length ≤ 2 := by rw [List.length_take]; omega
              exact Nat.lt_of_lt_of_le h1 (Nat.le_trans (Nat.pow_le_pow_right (by omega) h2) (by decide))
            go_wp2_with fail
            refine ⟨⟨k + 1, 10 * n + (x - 48), by omega, hnb, by go_num, congrArg (Value.int .i64) (by omega), Lib.hid ⟨?_, ST.out.2⟩⟩, by simp [intOf]; omega⟩
            rw [ST.out.1, ← H.out.1, ← HX.out]
          · have HF := Lib.hid (tagP_fail (digit_fail hlt (by rw [← HX.out]; omega)))
            have hd3 : x < 48 ∨ 57 < x := by omega
            clear hd
            rcases hd3 with hd3 | hd3
            · go_wp2_with fail
              go_ret2
              exact TagTold.none_ w 0 HF.out
            · have h48 : 48 ≤ x := by omega
              go_wp2_with fail
              go_ret2
              exact TagTold.none_ w 0 HF.out
        · have hkl : k = S.length := by omega
          have HT : Hid (n = Lab.numOf S ∧ S.all Lab.digit = true) := Lib.hid (by
            have h := H.out
            rw [hkl, List.take_length] at h
            exact h)
          have HP := Lib.hid (tagP_digits HNE.out hl2 HT.out.2)
          rw [← HT.out.1] at HP
          clear hkl
          by_cases h64 : n < 64
          · have hdec : decide ((n : Int) < 64) = true := by simp; omega
            go_wp2_with fail
            go_ret2
            refine ⟨rfl, n, ?_, fun m hm => ?_⟩
            · rw [HP.out, if_pos h64]; rfl
            · rw [HP.out, if_pos h64] at hm; injection hm with hm; rw [hm]
          · have hdec : decide ((n : Int) < 64) = false := by simp; omega
            go_wp2_with fail
            go_ret2
            refine ⟨rfl, n, ?_, fun m hm => ?_⟩
            · rw [HP.out, if_neg h64]; rfl
            · rw [HP.out, if_neg h64] at hm; cases hm
end Go.Proofs.YtaaapjoopchgiaaDoor
