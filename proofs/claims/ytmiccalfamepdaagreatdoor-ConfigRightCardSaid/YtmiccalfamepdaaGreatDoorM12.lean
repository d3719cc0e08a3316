/-
  Texts of this proof, joined (by wip/bin/bundle.py): LabText3, LabParse, LabParse2, LabParse3, Cfg8, Cfg9, Cfg10, Cfg11, Cfg12, Cfg13, ConfigRight, CfgLaid.
-/
import Derived.Test.YtmiccalfamepdaaGreatDoorM11
import Derived.IntWalk
import Derived.Deep.LoopGhost
import Derived.Lib.ConvBytes
import Derived.RangeFuncBox
import Derived.Shelf.Abstract
import Derived.Shelf.RegionOpen
import Derived.WalkKit
import Derived.OwnWalkIn
import Derived.TacticsInMore
import Derived.LoopNIn
import Derived.LoopIn
import Derived.Test.YtmiccalfamepdaaGreatDoorRows
import Derived.Lib.LaidTab
import Derived.LaidMore
import Derived.Stop.LaidErr
import Derived.MakeChecks
import Derived.OpenShut
import Derived.ProofKit
import Derived.ChangeOld
import Derived.Lay
/-
  What scrimref01.Text computes, for every label.
-/
namespace Go.Proofs.YtmiccalfamepdaaGreatDoor
open Go.RowKit
set_option maxHeartbeats 1000000
set_option maxRecDepth 100000
set_option linter.unusedVariables false

theorem pieces_skip {l t : Nat} (h : t < 64) (hb : l.testBit t = false) : Lab.pieces l t = Lab.pieces l (t + 1) := by
  rw [Lab.pieces, Lab.runs, dif_pos h, if_neg (by simp [hb])]; rfl
theorem pieces_take {l t : Nat} (h : t < 64) (hb : l.testBit t = true) : Lab.pieces l t = Lab.piece (t, Lab.last l t) ++ Lab.pieces l (Lab.last l t + 1) := by
  rw [Lab.pieces, Lab.runs, dif_pos h, if_pos hb, List.flatMap_cons]; rfl
theorem pieces_end {l t : Nat} (h : 64 ≤ t) : Lab.pieces l t = [] := by
  rw [Lab.pieces, Lab.runs, dif_neg (by omega)]; rfl
/-- What has been written so far. -/
def TextAt (l t : Nat) (J : List UInt8) : Prop := ∃ ps : List (List UInt8), J = Lib.join ps [44] ∧ ps ++ Lab.pieces l t = Lab.pieces l 0
theorem TextAt.len {l t : Nat} {J : List UInt8} (hl : l < 18446744073709551616) (h : TextAt l t J) : J.length ≤ 384 := by
  obtain ⟨ps, rfl, h⟩ := h
  have hp := Lab.pieces_len hl 0
  have hc := Lab.pieces_count hl 64 0 (by omega)
  have := Lab.join_len_le ps (fun x hx => (hp x (by rw [← h]; exact List.mem_append_left _ hx)).2)
  have h2 : ps.length ≤ (Lab.pieces l 0).length := by rw [← h]; simp
  omega
/-- A list of bytes with a comma ahead of what comes. -/
def withComma (J x : List UInt8) : List UInt8 := if J = [] then x else J ++ 44 :: x
theorem join_more {ps : List (List UInt8)} (h : ∀ x ∈ ps, 1 ≤ x.length) (x : List UInt8) : Lib.join (ps ++ [x]) [44] = withComma (Lib.join ps [44]) x := by
  rw [Lab.join_snoc, withComma]
  have := Lab.join_eq_nil h
  by_cases e : ps = []
  · subst e; simp [Lib.join_nil]
  · rw [if_neg e, if_neg (fun h => e (this.1 h))]; rfl
theorem TextAt.skip {l t : Nat} {J : List UInt8} (h : TextAt l t J) (ht : t < 64) (hb : l.testBit t = false) : TextAt l (t + 1) J := by
  obtain ⟨ps, e, h⟩ := h
  exact ⟨ps, e, by rw [← pieces_skip ht hb]; exact h⟩
theorem TextAt.one {l t : Nat} {J : List UInt8} (hl : l < 18446744073709551616) (h : TextAt l t J) (ht : t < 64) (hb : l.testBit t = true) (hk : Lab.last l t = t) : TextAt l (t + 1) (withComma J (Lib.decDigits t)) := by
  obtain ⟨ps, rfl, h⟩ := h
  have hp := Lab.pieces_len hl 0
  refine ⟨ps ++ [Lib.decDigits t], (join_more (fun x hx => (hp x (by rw [← h]; exact List.mem_append_left _ hx)).1) _).symm, ?_⟩
  rw [pieces_take ht hb, hk] at h
  rw [← h]
  simp [Lab.piece]
theorem TextAt.two {l t : Nat} {J : List UInt8} (hl : l < 18446744073709551616) (h : TextAt l t J) (ht : t < 64) (hb : l.testBit t = true) (hk : Lab.last l t = t + 1) : TextAt l (t + 1 + 1) (withComma J (Lib.decDigits t) ++ 44 :: Lib.decDigits (t + 1)) := by
  obtain ⟨ps, rfl, h⟩ := h
  have hp := Lab.pieces_len hl 0
  have h1 : ∀ x ∈ ps, 1 ≤ x.length := fun x hx => (hp x (by rw [← h]; exact List.mem_append_left _ hx)).1
  have h2 : ∀ x ∈ ps ++ [Lib.decDigits t], 1 ≤ x.length := fun x hx => by
    rcases List.mem_append.1 hx with hx | hx
    · exact h1 x hx
    · simp at hx; subst hx; exact (Lab.dec_len ht).1
  refine ⟨ps ++ [Lib.decDigits t] ++ [Lib.decDigits (t + 1)], ?_, ?_⟩
  · rw [join_more h2, join_more h1]
    have hne : withComma (Lib.join ps [44]) (Lib.decDigits t) ≠ [] := by
      unfold withComma
      split
      · intro e; have := (Lab.dec_len ht).1; rw [e] at this; simp at this
      · simp
    generalize withComma (Lib.join ps [44]) (Lib.decDigits t) = K at hne ⊢
    rw [withComma, if_neg hne]
  · rw [pieces_take ht hb, hk] at h
    rw [← h]
    simp [Lab.piece]
theorem TextAt.more {l t : Nat} {J : List UInt8} (hl : l < 18446744073709551616) (h : TextAt l t J) (ht : t < 64) (hb : l.testBit t = true) (hk : t + 1 < Lab.last l t) : TextAt l (Lab.last l t + 1) (withComma J (Lib.decDigits t) ++ 45 :: Lib.decDigits (Lab.last l t)) := by
  obtain ⟨ps, rfl, h⟩ := h
  have hp := Lab.pieces_len hl 0
  refine ⟨ps ++ [Lib.decDigits t ++ 45 :: Lib.decDigits (Lab.last l t)], ?_, ?_⟩
  · rw [join_more (fun x hx => (hp x (by rw [← h]; exact List.mem_append_left _ hx)).1), withComma, withComma]
    split <;> simp
  · rw [pieces_take ht hb] at h
    rw [← h]
    have e : Lab.piece (t, Lab.last l t) = [Lib.decDigits t ++ 45 :: Lib.decDigits (Lab.last l t)] := by
      unfold Lab.piece; rw [if_neg (by simp; omega), if_neg (by simp; omega)]
    rw [e]; simp
theorem TextAt.done {l : Nat} {J : List UInt8} (h : TextAt l 64 J) : 123 :: (J ++ [125]) = Lab.text l := by
  obtain ⟨ps, rfl, h⟩ := h
  rw [pieces_end (by omega), List.append_nil] at h
  rw [h]; rfl
theorem last_next {l t k : Nat} (hl : l < 18446744073709551616) (hb : l.testBit t = true) (h1 : t ≤ k) (h2 : k ≤ Lab.last l t) : (l.testBit (k + 1) = true ↔ k < Lab.last l t) := by
  constructor
  · intro h
    rcases Nat.lt_or_ge k (Lab.last l t) with h3 | h3
    · exact h3
    · have : k = Lab.last l t := by omega
      subst this
      rw [Lab.last_stop hl] at h; cases h
  · intro h
    exact Lab.last_bits hb (k + 1) (by omega) (by omega)

theorem refText_any (l : Nat) (w : World) (hl : l < 18446744073709551616) :
    Calls Tryz.prog 39 #[.int .u64 (l : Int)] w fun e w' => e = .returned (strV (Lab.text l)) ∧ w = w' := by
  go_enter Tryz.func39, Tryz.ntmps39
  go_wp2_with fail
  go_loop [3, 4, 5] (fun sv tv kv => ∃ (t : Nat) (J : List UInt8), t ≤ 64 ∧ tv = .int .i64 (t : Int) ∧ sv = .string ⟨J.toArray⟩ ∧ J.length ≤ 384 ∧ Hid (TextAt l t J)) (fun _ tv _ => 64 - (intOf tv).toNat)
  case atStart => exact ⟨0, [], by omega, rfl, rfl, by simp, Lib.hid ⟨[], rfl, rfl⟩⟩
  case round =>
    obtain ⟨t, J, ht, rfl, rfl, hJ, H⟩ := hrel
    by_cases h64 : t < 64
    · cases hb : l.testBit t
      · have HA := Lib.hid (has_any l t w hl (by omega))
        have HB := Lib.hid hb
        rw [hb] at HA
        clear hb
        go_wp2_with (go_at_call 66; refine HA.out.mono ?_; rintro e w' ⟨rfl, rfl⟩)
        exact ⟨⟨t + 1, J, by omega, by go_num, rfl, hJ, Lib.hid (H.out.skip h64 HB.out)⟩, by simp [intOf]; omega⟩
      · have HA := Lib.hid (has_any l t w hl (by omega))
        have HB := Lib.hid hb
        rw [hb] at HA
        have hge := Lab.last_ge l t
        have hlt := Lab.last_lt hl hb
        clear hb
        go_wp2_with (go_at_call 66; refine HA.out.mono ?_; rintro e w' ⟨rfl, rfl⟩)
        go_loop [5] (fun kv => ∃ k : Nat, t ≤ k ∧ k ≤ Lab.last l t ∧ kv = .int .i64 (k : Int)) (fun kv => 64 - (intOf kv).toNat)
        case atStart => exact ⟨t, Nat.le_refl _, hge, rfl⟩
        case round =>
          obtain ⟨k, hk1, hk2, rfl⟩ := hrel
          have HN := Lib.hid (last_next hl HB.out hk1 hk2)
          have HK := Lib.hid (has_any l (k + 1) w hl (by omega))
          rw [show ((k + 1 : Nat) : Int) = (k : Int) + 1 by omega] at HK
          by_cases hk : k < Lab.last l t
          · rw [HN.out.2 hk] at HK
            have h63 : k < 63 := by omega
            go_wp2_with (go_at_call 66; refine HK.out.mono ?_; rintro e w' ⟨rfl, rfl⟩)
            go_round
            case rel => exact ⟨k + 1, by omega, by omega, by go_num⟩
            case measure => simp [intOf]; omega
          · have hke : k = Lab.last l t := by omega
            have hf : l.testBit (k + 1) = false := by
              cases e : l.testBit (k + 1)
              · rfl
              · exact absurd (HN.out.1 e) hk
            rw [hf] at HK
            have HKE := Lib.hid hke
            clear hf hke hk HN
            have HT1 : Hid (k = t → TextAt l (t + 1) (withComma J (Lib.decDigits t))) := Lib.hid (fun h => H.out.one hl h64 HB.out (by rw [← HKE.out, h]))
            have HT2 : Hid (k = t + 1 → TextAt l (t + 1 + 1) (withComma J (Lib.decDigits t) ++ 44 :: Lib.decDigits (t + 1))) := Lib.hid (fun h => H.out.two hl h64 HB.out (by rw [← HKE.out, h]))
            have HT3 : Hid (t + 1 < k → TextAt l (k + 1) (withComma J (Lib.decDigits t) ++ 45 :: Lib.decDigits k)) := Lib.hid (fun h => by have := H.out.more hl h64 HB.out (by rw [← HKE.out]; exact h); rw [← HKE.out] at this; exact this)
            have DT := Lib.hid (decimal_any t w (by omega))
            have DK := Lib.hid (decimal_any k w (by omega))
            rw [strV] at DT DK
            have hdt := (Lab.dec_len h64).2
            have hdk := (Lab.dec_len (show k < 64 by omega)).2
            generalize Lib.decDigits t = dt at *
            have h3 : k = t ∨ k = t + 1 ∨ t + 1 < k := by omega
            have hj2 : ∀ b J', J = b :: J' → J'.length ≤ 383 := fun b J' e => by subst e; rw [List.length_cons] at hJ; omega
            rcases h3 with h3 | h3 | h3
            · have HX : Hid (TextAt l (k + 1) (withComma J dt)) := Lib.hid (by rw [h3]; exact HT1.out h3)
              have hkt : k ≤ t := by omega
              have HL := Lib.hid (HX.out.len hl)
              clear h3 HT1 HT2 HT3 DK
              rcases J with _ | ⟨b, J'⟩
              all_goals
                try (have hj3 := hj2 _ _ rfl)
                clear hj2
                by_cases h63 : k < 63
                all_goals
                  go_wp2_with (first | (go_at_call 66; refine HK.out.mono ?_; rintro e w' ⟨rfl, rfl⟩) | (go_at_call_of 64 (Value.int .i64 (t : Int)); refine DT.out.mono ?_; rintro e w' ⟨rfl, rfl⟩) | (go_at_call_of 64 (Value.int .i64 (k : Int)); refine DK.out.mono ?_; rintro e w' ⟨rfl, rfl⟩))
                  exact ⟨⟨k + 1, _, by omega, by go_num, congrArg Value.string (by apply ByteArray.ext; simp [withComma]), HL.out, HX⟩, by simp [intOf]; omega⟩
            · have HX : Hid (TextAt l (k + 1) (withComma J dt ++ 44 :: Lib.decDigits k)) := Lib.hid (by rw [h3]; exact HT2.out h3)
              have hkt : k ≤ t + 1 := by omega
              have hkt2 : t + 1 ≤ k := by omega
              have HL := Lib.hid (HX.out.len hl)
              generalize Lib.decDigits k = dk at *
              clear h3 HT1 HT2 HT3
              rcases J with _ | ⟨b, J'⟩
              all_goals
                try (have hj3 := hj2 _ _ rfl)
                clear hj2
                by_cases h63 : k < 63
                all_goals
                  go_wp2_with (first | (go_at_call 66; refine HK.out.mono ?_; rintro e w' ⟨rfl, rfl⟩) | (go_at_call_of 64 (Value.int .i64 (t : Int)); refine DT.out.mono ?_; rintro e w' ⟨rfl, rfl⟩) | (go_at_call_of 64 (Value.int .i64 (k : Int)); refine DK.out.mono ?_; rintro e w' ⟨rfl, rfl⟩))
                  exact ⟨⟨k + 1, _, by omega, by go_num, congrArg Value.string (by apply ByteArray.ext; simp [withComma]), HL.out, HX⟩, by simp [intOf]; omega⟩
            · have HX : Hid (TextAt l (k + 1) (withComma J dt ++ 45 :: Lib.decDigits k)) := Lib.hid (HT3.out h3)
              have hkt2 : t + 1 < k := h3
              have HL := Lib.hid (HX.out.len hl)
              generalize Lib.decDigits k = dk at *
              clear h3 HT1 HT2 HT3
              rcases J with _ | ⟨b, J'⟩
              all_goals
                try (have hj3 := hj2 _ _ rfl)
                clear hj2
                by_cases h63 : k < 63
                all_goals
                  go_wp2_with (first | (go_at_call 66; refine HK.out.mono ?_; rintro e w' ⟨rfl, rfl⟩) | (go_at_call_of 64 (Value.int .i64 (t : Int)); refine DT.out.mono ?_; rintro e w' ⟨rfl, rfl⟩) | (go_at_call_of 64 (Value.int .i64 (k : Int)); refine DK.out.mono ?_; rintro e w' ⟨rfl, rfl⟩))
                  exact ⟨⟨k + 1, _, by omega, by go_num, congrArg Value.string (by apply ByteArray.ext; simp [withComma]), HL.out, HX⟩, by simp [intOf]; omega⟩
    · have ht64 : t = 64 := by omega
      subst ht64
      have HD := Lib.hid H.out.done
      have hno1 : (9223372036854775807 < 1 + J.length) = False := by simp; omega
      have hno2 : (9223372036854775807 < 1 + J.length + 1) = False := by simp; omega
      go_wp2_with fail
      go_ret
      refine ⟨?_, rfl⟩
      rw [← HD.out]
      exact congrArg (fun s => Ending.returned (.string s)) (str_braces J)
end Go.Proofs.YtmiccalfamepdaaGreatDoor

/-
  What strings.Cut at one byte, label.tag and label.run compute.
-/
namespace Go.Proofs.YtmiccalfamepdaaGreatDoor
open Go.RowKit
set_option maxHeartbeats 1000000
set_option maxRecDepth 100000
set_option linter.unusedVariables false

theorem str_take (s : List UInt8) (n : Nat) (h : n ≤ s.length) : (⟨s.toArray⟩ : ByteArray).extract 0 n = ⟨(s.take n).toArray⟩ := by
  apply ByteArray.ext
  simp
theorem str_drop (s : List UInt8) (n : Nat) : (⟨s.toArray⟩ : ByteArray).extract n s.length = ⟨(s.drop n).toArray⟩ := by
  apply ByteArray.ext
  simp [List.take_of_length_le]
theorem liteCut_any (s : List UInt8) (c : UInt8) (w : World) (hs : s.length ≤ 100000) :
    Calls Tryz.prog 119 #[.string ⟨s.toArray⟩, .string ⟨#[c]⟩] w fun e w' => e = .returned (.tuple #[strV (Lab.cutAt c s).1, strV (Lab.cutAt c s).2.1, .bool (Lab.cutAt c s).2.2]) ∧ ∃ n, w' = w.drewN n := by
  have IX := Lib.hid (Tryz.stringslite_Index_one ⟨s.toArray⟩ c w)
  rw [show (⟨s.toArray⟩ : ByteArray).data.toList = s from rfl] at IX
  rcases Lab.index_cut c s with ⟨h1, h2⟩ | ⟨n, h1, h2, h3⟩
  · have H2 := Lib.hid h2
    rw [h1] at IX
    clear h1 h2
    go_enter Tryz.func119, Tryz.ntmps119
    go_wp2_with fail
    refine IX.out.mono ?_
    rintro e w' ⟨rfl, hw⟩
    obtain rfl : w = w' := hw.symm
    go_wp2_with fail
    go_ret3
    exact ⟨by rw [H2.out]; rfl, 0, rfl⟩
  · have H3 := Lib.hid h3
    rw [h1] at IX
    clear h1 h3
    have ht := Lib.hid (str_take s n (by omega))
    have hd := Lib.hid (str_drop s (n + 1))
    have hw1 : IntKind.i64.wrap ((n : Int) + 1) = (n : Int) + 1 := IntWalk.i64_in _ (by omega)
    have hp1 : (0 : Int) ≤ (n : Int) + 1 := by omega
    have ht1 : ((n : Int) + 1).toNat = n + 1 := by omega
    go_enter Tryz.func119, Tryz.ntmps119
    go_wp2_with fail
    refine IX.out.mono ?_
    rintro e w' ⟨rfl, hw⟩
    obtain rfl : w = w' := hw.symm
    go_wp2_with fail
    go_quiet (fail)
    go_wp2_with fail
    go_ret3
    refine ⟨?_, _, rfl⟩
    rw [H3.out]
    show Ending.returned (.tuple #[.string ((⟨s.toArray⟩ : ByteArray).extract 0 n), .string ((⟨s.toArray⟩ : ByteArray).extract (n + 1) s.length), .bool true]) = _
    rw [ht.out, hd.out]
    rfl
theorem cut_any (s : List UInt8) (c : UInt8) (w : World) (hs : s.length ≤ 100000) :
    Calls Tryz.prog 91 #[.string ⟨s.toArray⟩, .string ⟨#[c]⟩] w fun e w' => e = .returned (.tuple #[strV (Lab.cutAt c s).1, strV (Lab.cutAt c s).2.1, .bool (Lab.cutAt c s).2.2]) ∧ ∃ n, w' = w.drewN n := by
  have LC := Lib.hid (liteCut_any s c w hs)
  go_enter Tryz.func91, Tryz.ntmps91
  go_wp2_with fail
  refine LC.out.mono ?_
  rintro e w' ⟨rfl, n, rfl⟩
  go_wp2_with fail
  go_ret3
  exact ⟨rfl, n, rfl⟩

theorem numOf_snoc (s : List UInt8) (b : UInt8) : Lab.numOf (s ++ [b]) = 10 * Lab.numOf s + (b.toNat - 48) := by simp [Lab.numOf]
theorem fold_bound : ∀ (s : List UInt8) (n : Nat), s.all Lab.digit = true → s.foldl (fun n b => 10 * n + (b.toNat - 48)) n + 1 ≤ (n + 1) * 10 ^ s.length
  | [], n, _ => by simp
  | b :: r, n, h => by
    rw [List.all_cons, Bool.and_eq_true] at h
    have h2 := h.1
    unfold Lab.digit at h2
    rw [Bool.and_eq_true, decide_eq_true_iff, decide_eq_true_iff] at h2
    have ih := fold_bound r (10 * n + (b.toNat - 48)) h.2
    rw [List.foldl_cons, List.length_cons, Nat.pow_succ]
    have h3 : (10 * n + (b.toNat - 48) + 1) * 10 ^ r.length ≤ (n + 1) * 10 * 10 ^ r.length := Nat.mul_le_mul_right _ (by omega)
    rw [Nat.mul_comm (10 ^ r.length) 10, ← Nat.mul_assoc]
    omega
theorem numOf_bound (s : List UInt8) (h : s.all Lab.digit = true) : Lab.numOf s < 10 ^ s.length := by
  have := fold_bound s 0 h
  rw [Nat.zero_add, Nat.one_mul] at this
  exact this
/-- What label.tag tells. -/
def TagTold (s : List UInt8) (w : World) (e : Ending) (w' : World) : Prop := w = w' ∧ ∃ v : Int, e = .returned (.tuple #[.int .i64 v, .bool (Lab.tagP s).isSome]) ∧ ∀ n, Lab.tagP s = some n → v = (n : Int)
theorem TagTold.none_ {s : List UInt8} (w : World) (v : Int) (h : Lab.tagP s = none) : TagTold s w (.returned (.tuple #[.int .i64 v, .bool false])) w := ⟨rfl, v, by rw [h]; rfl, fun n hn => by rw [h] at hn; cases hn⟩
theorem tagP_digits {s : List UInt8} (h1 : s ≠ []) (h2 : s.length ≤ 2) (h3 : s.all Lab.digit = true) : Lab.tagP s = if Lab.numOf s < 64 then some (Lab.numOf s) else none := by
  unfold Lab.tagP
  rw [if_neg]
  rintro (e | e | e)
  · exact h1 e
  · omega
  · rw [h3] at e; cases e

theorem digit_step {S : List UInt8} {k : Nat} (hk : k < S.length) (h1 : 48 ≤ S[k].toNat) (h2 : S[k].toNat ≤ 57) (ha : (S.take k).all Lab.digit = true) : Lab.numOf (S.take (k + 1)) = 10 * Lab.numOf (S.take k) + (S[k].toNat - 48) ∧ (S.take (k + 1)).all Lab.digit = true := by
  rw [List.take_succ_eq_append_getElem hk, numOf_snoc, List.all_append, ha]
  exact ⟨rfl, by simp [Lab.digit, h1, h2]⟩
theorem digit_fail {S : List UInt8} {k : Nat} (hk : k < S.length) (h : S[k].toNat < 48 ∨ 57 < S[k].toNat) : S.all Lab.digit = false := by
  cases e : S.all Lab.digit
  · rfl
  · have := List.all_eq_true.1 e S[k] (List.getElem_mem hk)
    unfold Lab.digit at this
    rw [Bool.and_eq_true, decide_eq_true_iff, decide_eq_true_iff] at this
    omega
theorem tagP_fail {S : List UInt8} (h : S.all Lab.digit = false) : Lab.tagP S = none := by unfold Lab.tagP; rw [if_pos (.inr (.inr h))]

theorem tag_any (s : List UInt8) (w : World) (hs : s.length ≤ 100000) :
    Calls Tryz.prog 124 #[.string ⟨s.toArray⟩] w (TagTold s w) := by
  by_cases h2 : 2 < s.length
  · have HN : Hid (Lab.tagP s = none) := Lib.hid (by unfold Lab.tagP; rw [if_pos (.inr (.inl h2))])
    have hne : s.isEmpty = false := by cases s <;> simp at h2 ⊢
    go_enter Tryz.func124, Tryz.ntmps124
    go_wp2_with fail
    go_ret2
    exact TagTold.none_ w 0 HN.out
  · cases s with
    | nil =>
      go_enter Tryz.func124, Tryz.ntmps124
      go_wp2_with fail
      go_ret2
      exact TagTold.none_ w 0 (by simp [Lab.tagP])
    | cons b0 r0 =>
      generalize hS : b0 :: r0 = S at *
      have hne : S ≠ [] := by rw [← hS]; simp
      have hemp : S.isEmpty = false := by rw [← hS]; rfl
      have hl2 : S.length ≤ 2 := by omega
      clear hS h2
      have HNE := Lib.hid hne
      clear hne
      go_enter Tryz.func124, Tryz.ntmps124
      go_wp2_with fail
      go_loop [4, 15] (fun ov iv => ∃ k n : Nat, k ≤ S.length ∧ n < 100 ∧ iv = .int .i64 (k : Int) ∧ ov = .int .i64 (n : Int) ∧ Hid (n = Lab.numOf (S.take k) ∧ (S.take k).all Lab.digit = true)) (fun _ iv => S.length - (intOf iv).toNat)
      case atStart => exact ⟨0, 0, Nat.zero_le _, by omega, rfl, rfl, Lib.hid ⟨rfl, rfl⟩⟩
      case round =>
        obtain ⟨k, n, hk, hn, rfl, rfl, H⟩ := hrel
        by_cases hlt : k < S.length
        · obtain ⟨x, hx⟩ : ∃ x, x = S[k].toNat := ⟨_, rfl⟩
          have hg : ((⟨S.toArray⟩ : ByteArray)[k]'(show k < (⟨S.toArray⟩ : ByteArray).size from hlt)).toNat = x := hx.symm
          have HX := Lib.hid hx
          clear hx
          by_cases hd : 48 ≤ x ∧ x ≤ 57
          · obtain ⟨hd1, hd2⟩ := hd
            have ST := Lib.hid (digit_step hlt (by rw [← HX.out]; exact hd1) (by rw [← HX.out]; exact hd2) H.out.2)
            have hnb : 10 * n + (x - 48) < 100 := by
              have h1 := numOf_bound _ ST.out.2
              rw [ST.out.1, ← H.out.1, ← HX.out] at h1
              have h2 : (S.take (k + 1)).length ≤ 2 := by rw [List.length_take]; omega
              exact Nat.lt_of_lt_of_le h1 (Nat.le_trans (Nat.pow_le_pow_right (by omega) h2) (by decide))
            go_wp2_with fail
            refine ⟨⟨k + 1, 10 * n + (x - 48), by omega, hnb, by go_num, congrArg (Value.int .i64) (by omega), Lib.hid ⟨?_, ST.out.2⟩⟩, by simp [intOf]; omega⟩
            rw [ST.out.1, ← H.out.1, ← HX.out]
          · have HF := Lib.hid (tagP_fail (digit_fail hlt (by rw [← HX.out]; omega)))
            have hd3 : x < 48 ∨ 57 < x := by omega
            clear hd
            rcases hd3 with hd3 | hd3
            · go_wp2_with fail
              go_ret2
              exact TagTold.none_ w 0 HF.out
            · have h48 : 48 ≤ x := by omega
              go_wp2_with fail
              go_ret2
              exact TagTold.none_ w 0 HF.out
        · have hkl : k = S.length := by omega
          have HT : Hid (n = Lab.numOf S ∧ S.all Lab.digit = true) := Lib.hid (by
            have h := H.out
            rw [hkl, List.take_length] at h
            exact h)
          have HP := Lib.hid (tagP_digits HNE.out hl2 HT.out.2)
          rw [← HT.out.1] at HP
          clear hkl
          by_cases h64 : n < 64
          · have hdec : decide ((n : Int) < 64) = true := by simp; omega
            go_wp2_with fail
            go_ret2
            refine ⟨rfl, n, ?_, fun m hm => ?_⟩
            · rw [HP.out, if_pos h64]; rfl
            · rw [HP.out, if_pos h64] at hm; injection hm with hm; rw [hm]
          · have hdec : decide ((n : Int) < 64) = false := by simp; omega
            go_wp2_with fail
            go_ret2
            refine ⟨rfl, n, ?_, fun m hm => ?_⟩
            · rw [HP.out, if_neg h64]; rfl
            · rw [HP.out, if_neg h64] at hm; cases hm
end Go.Proofs.YtmiccalfamepdaaGreatDoor

/-
  What label.run and label.Parse compute.
-/
namespace Go.Proofs.YtmiccalfamepdaaGreatDoor
open Go.RowKit
set_option maxHeartbeats 1000000
set_option maxRecDepth 100000
set_option linter.unusedVariables false

theorem run_none {s : List UInt8} (h : Lab.tagP (Lab.cutAt 45 s).1 = none) : Lab.runP s = none := by unfold Lab.runP; rw [h]
theorem run_one {s : List UInt8} {a : Nat} (h : Lab.tagP (Lab.cutAt 45 s).1 = some a) (h2 : (Lab.cutAt 45 s).2.2 = false) : Lab.runP s = some (Lab.bitsFrom a a) := by unfold Lab.runP; rw [h, h2]; rfl
theorem run_two {s : List UInt8} {a b : Nat} (h : Lab.tagP (Lab.cutAt 45 s).1 = some a) (h2 : (Lab.cutAt 45 s).2.2 = true) (h3 : Lab.tagP (Lab.cutAt 45 s).2.1 = some b) : Lab.runP s = some (Lab.bitsFrom a b) := by unfold Lab.runP; rw [h, h2, h3]; rfl
theorem run_bad {s : List UInt8} {a : Nat} (h : Lab.tagP (Lab.cutAt 45 s).1 = some a) (h2 : (Lab.cutAt 45 s).2.2 = true) (h3 : Lab.tagP (Lab.cutAt 45 s).2.1 = none) : Lab.runP s = none := by unfold Lab.runP; rw [h, h2, h3]; rfl
def RunTold (s : List UInt8) (w : World) (e : Ending) (w' : World) : Prop := (∃ n, w' = w.drewN n) ∧ e = .returned (.tuple #[.int .u64 (((Lab.runP s).getD 0 : Nat) : Int), .bool (Lab.runP s).isSome])
theorem RunTold.no {s : List UInt8} (w : World) (n : Nat) (h : Lab.runP s = none) : RunTold s w (.returned (.tuple #[.int .u64 0, .bool false])) (w.drewN n) := ⟨⟨n, rfl⟩, by rw [h]; rfl⟩
theorem RunTold.yes {s : List UInt8} (w : World) (n l : Nat) (h : Lab.runP s = some l) : RunTold s w (.returned (.tuple #[.int .u64 (l : Int), .bool true])) (w.drewN n) := ⟨⟨n, rfl⟩, by rw [h]; rfl⟩
theorem bitsTo_next (a d : Nat) : Lab.bitsTo a (d + 1) = Lab.bitsTo a d ||| 2 ^ (a + d) := rfl

theorem run_any (s : List UInt8) (w : World) (hs : s.length ≤ 1000) : Calls Tryz.prog 95 #[.string ⟨s.toArray⟩] w (RunTold s w) := by
  have hcl := Lab.cutAt_len 45 s
  have CU := Lib.hid (cut_any s 45 w (by omega))
  rw [strV, strV] at CU
  have TH := Lib.hid (fun n => tag_any (Lab.cutAt 45 s).1 (w.drewN n) (by omega))
  have TT := Lib.hid (fun n => tag_any (Lab.cutAt 45 s).2.1 (w.drewN n) (by omega))
  clear hcl
  cases h1 : Lab.tagP (Lab.cutAt 45 s).1 with
  | none =>
    have HN := Lib.hid (run_none h1)
    have H1 := Lib.hid h1
    clear h1
    go_enter Tryz.func95, Tryz.ntmps95
    go_wp2_with fail
    refine CU.out.mono ?_
    rintro e w' ⟨rfl, n, rfl⟩
    go_wp2_with fail
    refine (TH.out n).mono ?_
    rintro e w' ⟨rfl, v, rfl, hv⟩
    rw [H1.out, show (none : Option Nat).isSome = false from rfl]
    clear hv
    go_wp2_with fail
    go_ret2
    exact RunTold.no w n HN.out
  | some a =>
    have ha := Lab.tagP_lt h1
    have H1 := Lib.hid h1
    cases h2 : (Lab.cutAt 45 s).2.2 with
    | false =>
      have HN := Lib.hid (run_one h1 h2)
      rw [h2] at CU
      clear h1 h2
      go_enter Tryz.func95, Tryz.ntmps95
      go_wp2_with fail
      refine CU.out.mono ?_
      rintro e w' ⟨rfl, n, rfl⟩
      go_wp2_with fail
      refine (TH.out n).mono ?_
      rintro e w' ⟨rfl, v, rfl, hv⟩
      obtain rfl := hv a H1.out
      rw [H1.out, show (some a).isSome = true from rfl]
      clear hv
      go_wp2_with fail
      go_loop [10, 11] (fun ov tv => ∃ t n : Nat, a ≤ t ∧ t ≤ 64 ∧ n < 18446744073709551616 ∧ tv = .int .i64 (t : Int) ∧ ov = .int .u64 (n : Int) ∧ Hid (n = Lab.bitsTo a (t - a) ∧ (t ≤ a + 1 ∨ t = a))) (fun _ tv => 128 - (intOf tv).toNat)
      case atStart => exact ⟨a, 0, Nat.le_refl _, by omega, by omega, rfl, rfl, Lib.hid ⟨by rw [Nat.sub_self]; rfl, .inr rfl⟩⟩
      case round =>
        obtain ⟨t, m, ht1, ht2, hm, rfl, rfl, H⟩ := hrel
        by_cases hle : t ≤ a
        · have ht3 : t < 64 := by omega
          have HS : Hid (m ||| 2 ^ t = Lab.bitsTo a (t + 1 - a)) := Lib.hid (by
            rw [H.out.1, show t + 1 - a = (t - a) + 1 by omega, bitsTo_next, show a + (t - a) = t by omega])
          have hml : m ||| 2 ^ t < 18446744073709551616 := Nat.or_lt_two_pow (n := 64) hm (Lab.bit_lt ht3)
          have HO := Lib.hid (or_shl m (t : Int) hm (by omega))
          rw [Int.toNat_natCast] at HO
          go_wp2_with fail
          refine ⟨⟨t + 1, m ||| 2 ^ t, by omega, by omega, hml, by go_num, congrArg (Value.int .u64) HO.out, Lib.hid ⟨HS.out, .inl (by omega)⟩⟩, by simp [intOf]; omega⟩
        · have HE : Hid (m = Lab.bitsFrom a a) := Lib.hid (by
            rw [H.out.1, Lab.bitsFrom]
            rcases H.out.2 with h | h
            · rw [show t - a = a + 1 - a by omega]
            · rw [show t - a = 0 by omega, show a + 1 - a = 0 by omega])
          go_wp2_with fail
          go_ret2
          have := RunTold.yes w n (Lab.bitsFrom a a) HN.out
          rw [← HE.out] at this
          exact this
    | true =>
      rw [h2] at CU
      cases h3 : Lab.tagP (Lab.cutAt 45 s).2.1 with
      | none =>
        have HN := Lib.hid (run_bad h1 h2 h3)
        have H3 := Lib.hid h3
        clear h1 h2 h3
        go_enter Tryz.func95, Tryz.ntmps95
        go_wp2_with fail
        refine CU.out.mono ?_
        rintro e w' ⟨rfl, n, rfl⟩
        go_wp2_with fail
        refine (TH.out n).mono ?_
        rintro e w' ⟨rfl, v, rfl, hv⟩
        obtain rfl := hv a H1.out
        rw [H1.out, show (some a).isSome = true from rfl]
        clear hv
        go_wp2_with fail
        refine (TT.out n).mono ?_
        rintro e w' ⟨rfl, v, rfl, hv⟩
        rw [H3.out, show (none : Option Nat).isSome = false from rfl]
        clear hv
        go_wp2_with fail
        go_ret2
        exact RunTold.no w n HN.out
      | some b =>
        have hb := Lab.tagP_lt h3
        have HN := Lib.hid (run_two h1 h2 h3)
        have H3 := Lib.hid h3
        clear h1 h2 h3
        go_enter Tryz.func95, Tryz.ntmps95
        go_wp2_with fail
        refine CU.out.mono ?_
        rintro e w' ⟨rfl, n, rfl⟩
        go_wp2_with fail
        refine (TH.out n).mono ?_
        rintro e w' ⟨rfl, v, rfl, hv⟩
        obtain rfl := hv a H1.out
        rw [H1.out, show (some a).isSome = true from rfl]
        clear hv
        go_wp2_with fail
        refine (TT.out n).mono ?_
        rintro e w' ⟨rfl, v, rfl, hv⟩
        obtain rfl := hv b H3.out
        rw [H3.out, show (some b).isSome = true from rfl]
        clear hv
        go_wp2_with fail
        go_loop [10, 11] (fun ov tv => ∃ t n : Nat, a ≤ t ∧ t ≤ 64 ∧ n < 18446744073709551616 ∧ tv = .int .i64 (t : Int) ∧ ov = .int .u64 (n : Int) ∧ Hid (n = Lab.bitsTo a (t - a) ∧ (t ≤ b + 1 ∨ t = a))) (fun _ tv => 128 - (intOf tv).toNat)
        case atStart => exact ⟨a, 0, Nat.le_refl _, by omega, by omega, rfl, rfl, Lib.hid ⟨by rw [Nat.sub_self]; rfl, .inr rfl⟩⟩
        case round =>
          obtain ⟨t, m, ht1, ht2, hm, rfl, rfl, H⟩ := hrel
          by_cases hle : t ≤ b
          · have ht3 : t < 64 := by omega
            have HS : Hid (m ||| 2 ^ t = Lab.bitsTo a (t + 1 - a)) := Lib.hid (by
              rw [H.out.1, show t + 1 - a = (t - a) + 1 by omega, bitsTo_next, show a + (t - a) = t by omega])
            have hml : m ||| 2 ^ t < 18446744073709551616 := Nat.or_lt_two_pow (n := 64) hm (Lab.bit_lt ht3)
            have HO := Lib.hid (or_shl m (t : Int) hm (by omega))
            rw [Int.toNat_natCast] at HO
            go_wp2_with fail
            refine ⟨⟨t + 1, m ||| 2 ^ t, by omega, by omega, hml, by go_num, congrArg (Value.int .u64) HO.out, Lib.hid ⟨HS.out, .inl (by omega)⟩⟩, by simp [intOf]; omega⟩
          · have HE : Hid (m = Lab.bitsFrom a b) := Lib.hid (by
              rw [H.out.1, Lab.bitsFrom]
              rcases H.out.2 with h | h
              · rw [show t - a = b + 1 - a by omega]
              · rw [show t - a = 0 by omega, show b + 1 - a = 0 by omega])
            go_wp2_with fail
            go_ret2
            have := RunTold.yes w n (Lab.bitsFrom a b) HN.out
            rw [← HE.out] at this
            exact this
end Go.Proofs.YtmiccalfamepdaaGreatDoor

/-
  What label.Parse computes.
-/
namespace Go.Proofs.YtmiccalfamepdaaGreatDoor
open Go.RowKit
set_option maxHeartbeats 1000000
set_option maxRecDepth 100000
set_option linter.unusedVariables false

def ParseTold (s : List UInt8) (w : World) (e : Ending) (w' : World) : Prop := Below w.heap.size w w' ∧ ∃ (x : Nat) (ok : Bool), e = .returned (.tuple #[.int .u64 (x : Int), .int .i64 (if ok then 0 else 15)]) ∧ Lab.Spec s x ok
theorem Below.drewN_self (w : World) (n : Nat) : Below w.heap.size w (w.drewN n) := ⟨rfl, rfl, rfl, Nat.le_refl _, fun _ _ => rfl⟩
theorem ParseTold.no {s : List UInt8} {w w' : World} (hb : Below w.heap.size w w') (h : Lab.Spec s 0 false) : ParseTold s w (.returned (.tuple #[.int .u64 0, .int .i64 15])) w' := ⟨hb, 0, false, rfl, h⟩
theorem ParseTold.yes {s : List UInt8} {w w' : World} {x : Nat} (hb : Below w.heap.size w w') (h : Lab.Spec s x true) : ParseTold s w (.returned (.tuple #[.int .u64 (x : Int), .int .i64 0])) w' := ⟨hb, x, true, rfl, h⟩

theorem parse_any (s : List UInt8) (w : World) (hs : s.length ≤ 1000) (hT : Tab64 w) (hB : 0 < w.heap.size) :
    Calls Tryz.prog 62 #[.string ⟨s.toArray⟩] w (ParseTold s w) := by
  by_cases hlong : 258 < s.length
  · have HS := Lib.hid (Lab.Spec.long hlong)
    go_enter Tryz.func62, Tryz.ntmps62
    go_wp2_with fail
    go_ret2
    exact ParseTold.no (Below.refl _ _) HS.out
  · have hl : s.length ≤ 258 := by omega
    have CP := Lib.hid (Tryz.strings_CutPrefix ⟨s.toArray⟩ ⟨#[123]⟩ w)
    have CS := Lib.hid (fun (t : List UInt8) (ht : t.length ≤ 1000) => Tryz.strings_CutSuffix ⟨t.toArray⟩ ⟨#[125]⟩ w (show t.toArray.size ≤ _ by simp; omega))
    rw [show (⟨s.toArray⟩ : ByteArray).data.toList = s from rfl, show (⟨#[123]⟩ : ByteArray).data.toList = [123] from rfl] at CP
    have TX := Lib.hid (fun (x : Nat) (hx : x < 18446744073709551616) (n : Nat) => text_any x (w.drewN n) hx hT hB)
    clear hT
    rcases Lab.open_iff s with ⟨h1, h2, h3⟩ | ⟨r, h1, h2, h3⟩
    · have HS := Lib.hid (Lab.Spec.noOpen h3)
      rw [h1, h2] at CP
      have CS1 := Lib.hid (CS.out s (by omega))
      clear h1 h2 h3 CS
      go_enter Tryz.func62, Tryz.ntmps62
      go_wp2_with fail
      refine CP.out.mono ?_
      rintro e w' ⟨rfl, hw⟩
      obtain rfl : w = w' := hw.symm
      go_wp2_with fail
      refine CS1.out.mono ?_
      rintro e w' ⟨rfl, hw⟩
      obtain rfl : w = w' := hw.symm
      go_wp2_with fail
      go_ret2
      exact ParseTold.no (Below.refl _ _) HS.out
    · subst h3
      rw [h1, h2] at CP
      have hrl : r.length ≤ 257 := by simpa using hl
      have CS1 := Lib.hid (CS.out r (by omega))
      rw [show (⟨r.toArray⟩ : ByteArray).data.toList = r from rfl, show (⟨#[125]⟩ : ByteArray).data.toList = [125] from rfl] at CS1
      clear h1 h2 CS
      rcases Lab.shut_iff r with ⟨k1, k2⟩ | ⟨t, k1, k2, k3⟩
      · have HS := Lib.hid (Lab.Spec.noShut k2)
        rw [k1] at CS1
        clear k1 k2
        go_enter Tryz.func62, Tryz.ntmps62
        go_wp2_with fail
        refine CP.out.mono ?_
        rintro e w' ⟨rfl, hw⟩
        obtain rfl : w = w' := hw.symm
        go_wp2_with fail
        refine CS1.out.mono ?_
        rintro e w' ⟨rfl, hw⟩
        obtain rfl : w = w' := hw.symm
        go_wp2_with fail
        go_ret2
        exact ParseTold.no (Below.refl _ _) HS.out
      · rw [k1, k2] at CS1
        have htl : t.length ≤ 256 := by rw [k3] at hrl; simp at hrl; omega
        have HS1 : Hid (∀ o, Lab.innerP 300 t 0 = some o → Lab.text o ≠ 123 :: r → Lab.Spec (123 :: r) 0 false) := Lib.hid (fun o h hne => by rw [k3] at hne ⊢; exact Lab.Spec.other (by omega) h hne)
        have HS2 : Hid (Lab.innerP 300 t 0 = none → Lab.Spec (123 :: r) 0 false) := Lib.hid (fun h => by rw [k3]; exact Lab.Spec.badInner (by omega) h)
        clear k1 k2 k3
        go_enter Tryz.func62, Tryz.ntmps62
        go_wp2_with fail
        refine CP.out.mono ?_
        rintro e w' ⟨rfl, hw⟩
        obtain rfl : w = w' := hw.symm
        go_wp2_with fail
        refine CS1.out.mono ?_
        rintro e w' ⟨rfl, hw⟩
        obtain rfl : w = w' := hw.symm
        go_wp2_with fail
        go_loopg [4, 7] t.length (fun gk iv ov wr => ∃ (cur : List UInt8) (acc m : Nat), wr = w.drewN m ∧ cur.length ≤ gk ∧ cur.length ≤ 256 ∧ acc < 18446744073709551616 ∧ iv = .string ⟨cur.toArray⟩ ∧ ov = .int .u64 (acc : Int) ∧ Hid (Lab.innerP 300 cur acc = Lab.innerP 300 t 0))
        case atStart => exact ⟨t, 0, 0, rfl, Nat.le_refl _, htl, by omega, rfl, rfl, Lib.hid rfl⟩
        case round =>
          obtain ⟨cur, acc, m, rfl, hgk, hcl, hacc, rfl, rfl, H⟩ := hrel
          cases cur with
          | nil =>
            have HI : Hid (Lab.innerP 300 t 0 = some acc) := Lib.hid (by rw [← H.out]; rfl)
            have TXa := Lib.hid (TX.out acc hacc m)
            rw [strV] at TXa
            by_cases heq : Lab.text acc = 123 :: r
            · have HY : Hid (Lab.Spec (123 :: r) acc true) := Lib.hid (.inl ⟨rfl, hacc, heq.symm⟩)
              rw [heq] at TXa
              clear heq
              go_wp2_with fail
              refine TXa.out.mono ?_
              rintro e w1 ⟨rfl, hb1⟩
              have hb : Below w.heap.size w w1 := ⟨hb1.os, hb1.tape, hb1.output, hb1.size, hb1.block⟩
              go_wp2_with fail
              go_ret2
              exact ParseTold.yes hb HY.out
            · have HY := Lib.hid (HS1.out acc HI.out heq)
              have hne : (Lab.text acc == 123 :: r) = false := by simpa using heq
              generalize Lab.text acc = T at *
              clear heq
              go_wp2_with fail
              refine TXa.out.mono ?_
              rintro e w1 ⟨rfl, hb1⟩
              have hb : Below w.heap.size w w1 := ⟨hb1.os, hb1.tape, hb1.output, hb1.size, hb1.block⟩
              go_wp2_with fail
              go_ret2
              exact ParseTold.no hb HY.out
          | cons b0 r0 =>
            have hne : b0 :: r0 ≠ [] := by simp
            have hcu := Lab.cutAt_len 44 (b0 :: r0)
            have CU := Lib.hid (cut_any (b0 :: r0) 44 (w.drewN m) (by omega))
            rw [strV, strV] at CU
            have RU := Lib.hid (fun n => run_any (Lab.cutAt 44 (b0 :: r0)).1 (w.drewN n) (by omega))
            have hdec := hcu.2.2 hne
            have hd2 : (Lab.cutAt 44 (b0 :: r0)).2.1.length ≤ 256 := by omega
            cases hrun : Lab.runP (Lab.cutAt 44 (b0 :: r0)).1 with
            | none =>
              have HY := Lib.hid (HS2.out (by rw [← H.out]; exact Lab.innerP_fail hne (by omega) hrun))
              have HR := Lib.hid hrun
              clear hrun hcu hne
              go_wp2_with fail
              refine CU.out.mono ?_
              rintro e w' ⟨rfl, n, rfl⟩
              rw [World.drewN_drewN]
              go_wp2_with fail
              refine (RU.out _).mono ?_
              rintro e w' ⟨⟨n2, rfl⟩, rfl⟩
              rw [HR.out, show (none : Option Nat).isSome = false from rfl, show ((none : Option Nat).getD 0) = 0 from rfl]
              go_wp2_with fail
              go_ret2
              exact ParseTold.no (Below.drewN_self _ _) HY.out
            | some l =>
              have hll := Lab.runP_lt hrun
              have HST := Lib.hid (Lab.innerP_step (f := 300) (acc := acc) hne (by omega) hrun)
              have HR := Lib.hid hrun
              have hjl : Lab.join acc l < 18446744073709551616 := Lab.join_lt hacc hll
              clear hrun hcu hne
              generalize (Lab.cutAt 44 (b0 :: r0)).2.1 = rest at *
              go_wp2_with fail
              refine CU.out.mono ?_
              rintro e w' ⟨rfl, n, rfl⟩
              rw [World.drewN_drewN]
              go_wp2_with fail
              refine (RU.out _).mono ?_
              rintro e w' ⟨⟨n2, rfl⟩, rfl⟩
              rw [HR.out, show (some l).isSome = true from rfl, show ((some l).getD 0) = l from rfl]
              go_wp2_with (go_at_call 48; refine (join_any acc l _ hacc hll).mono ?_; rintro e w' ⟨rfl, rfl⟩)
              go_roundg rest.length
              case measure => omega
              case rel => exact ⟨rest, Lab.join acc l, _, rfl, Nat.le_refl _, hd2, hjl, rfl, rfl, Lib.hid (by rw [← HST.out]; exact H.out)⟩
end Go.Proofs.YtmiccalfamepdaaGreatDoor

/-
  The reader of a configuration's text: the next text, the next label, no arrays.
-/
namespace Go.Proofs.YtmiccalfamepdaaGreatDoor
open Go.RowKit Ar
set_option maxHeartbeats 4000000
set_option maxRecDepth 100000
set_option linter.unusedVariables false

/-- A reader at a block: what is left, and whether there was none, or not such a one. -/
def IsRd (w : World) (r : Nat) (s : List UInt8) (bad : Bool) : Prop := w.heap[r]? = some (.cells #[sv s, .bool bad] 64 (0, 0))
theorem IsRd.lt {w : World} {r : Nat} {s : List UInt8} {b : Bool} (h : IsRd w r s b) : r < w.heap.size := (Array.getElem?_eq_some_iff.1 h).1
theorem IsRd.below {w w' : World} {r : Nat} {s : List UInt8} {b : Bool} (h : IsRd w r s b) (hb : Below w.heap.size w w') : IsRd w' r s b := (hb.block r h.lt).trans h
theorem IsRd.cell0 {w : World} {r : Nat} {s : List UInt8} {b : Bool} (h : IsRd w r s b) : w.cell? ⟨r, 0, none⟩ = some (.string ⟨s.toArray⟩) := by unfold IsRd at h; simp [World.cell?, h, sv]
theorem IsRd.cell1 {w : World} {r : Nat} {s : List UInt8} {b : Bool} (h : IsRd w r s b) : w.cell? ⟨r, 1, none⟩ = some (.bool b) := by unfold IsRd at h; simp [World.cell?, h]
theorem IsRd.frozen {w : World} {r : Nat} {s : List UInt8} {b : Bool} (h : IsRd w r s b) (i : Nat) : w.frozen? ⟨r, i, none⟩ = false := by unfold IsRd at h; simp [World.frozen?, h]
theorem IsRd.set0 {w : World} {r : Nat} {s : List UInt8} {b : Bool} (h : IsRd w r s b) (t : List UInt8) : IsRd (w.setCell ⟨r, 0, none⟩ (.string ⟨t.toArray⟩)) r t b := by
  unfold IsRd at *
  show (w.heap.modify r _)[r]? = _
  rw [Array.getElem?_modify, if_pos rfl, h]
  rfl
theorem IsRd.set1 {w : World} {r : Nat} {s : List UInt8} {b : Bool} (h : IsRd w r s b) (c : Bool) : IsRd (w.setCell ⟨r, 1, none⟩ (.bool c)) r s c := by
  unfold IsRd at *
  show (w.heap.modify r _)[r]? = _
  rw [Array.getElem?_modify, if_pos rfl, h]
  rfl
theorem gb_trans {a b c : World} {r : Nat} (h : a.grownBy b (some r)) (k : b.grownBy c (some r)) : a.grownBy c (some r) :=
  ⟨k.os.trans h.os, k.tape.trans h.tape, k.output.trans h.output, Nat.le_trans h.size k.size, fun i hi hr => (k.block i (Nat.lt_of_lt_of_le hi h.size) hr).trans (h.block i hi hr)⟩
theorem gb_below {a b : World} (r : Nat) (h : Below a.heap.size a b) : a.grownBy b (some r) := ⟨h.os, h.tape, h.output, h.size, fun k hk _ => h.block k hk⟩
theorem gb_set {a b : World} {r : Nat} (h : a.grownBy b (some r)) (i : Nat) (v : Value) : a.grownBy (b.setCell ⟨r, i, none⟩ v) (some r) :=
  ⟨h.os, h.tape, h.output, by simpa using h.size, fun k hk hr => by
    rw [← h.block k hk hr]
    show (b.heap.modify r _)[k]? = _
    rw [Array.getElem?_modify, if_neg (fun e => hr (by rw [e]))]⟩
/-- The tables lie in blocks that the reader is none of. -/
structure RdOk (w : World) (r : Nat) : Prop where
  tabs : TabsC w
  n1 : ∀ g, Tryz.prog.globalNamed "internal/strconv.uint64pow10" = some g → g ≠ r
  n2 : 0 ≠ r
theorem TabsC.gb {w w' : World} {r : Nat} (h : RdOk w r) (hg : w.grownBy w' (some r)) : TabsC w' := by
  obtain ⟨⟨ht, hl⟩, h2, h3⟩ := h.tabs
  refine ⟨⟨?_, fun g e => Nat.lt_of_lt_of_le (hl g e) hg.size⟩, fun j hj => ?_, Nat.lt_of_lt_of_le h3 hg.size⟩
  · unfold Lib.TabIs World.var? at *
    cases he : Tryz.prog.globalNamed "internal/strconv.uint64pow10" with
    | none => simp [he] at ht
    | some g =>
      simp only [he, Option.bind_some] at ht ⊢
      rw [hg.block g (hl g he) (fun e => h.n1 g he (by injection e))]
      exact ht
  · have hb := hg.block _ h3 (fun e => h.n2 (by injection e))
    have := h2 j hj
    unfold World.cell? at *
    rw [hb]; exact this
theorem RdOk.gb {w w' : World} {r : Nat} (h : RdOk w r) (hg : w.grownBy w' (some r)) : RdOk w' r := ⟨TabsC.gb h hg, h.n1, h.n2⟩

theorem rText_any (s a b : List UInt8) (bad : Bool) (r : Nat) (w : World) (hs : s.length ≤ 1000000) (h : IsRd w r s bad) (hc : Nw.cut s = some (a, b)) :
    Calls Tryz.prog 33 #[.pointer (some ⟨r, 0, none⟩)] w fun e w' => e = .returned (sv a) ∧ w.grownBy w' (some r) ∧ IsRd w' r b bad := by
  have hr := h.cell0
  have C := cut29_any s w hs
  rw [hc] at C
  replace C := Lib.hid C
  have HR := Lib.hid h
  clear hc h
  go_enter Tryz.func33, Tryz.ntmps33
  go_wp2_with fail
  refine C.out.mono ?_
  rintro e W1 ⟨rfl, hb1⟩
  unfold Nw.cutV
  have hr1 := (HR.out.below hb1).cell0
  have hf1 := (HR.out.below hb1).frozen 0
  have HB1 := Lib.hid hb1
  clear hb1
  go_wp2_with fail
  go_ret
  exact ⟨rfl, gb_set (gb_below r HB1.out) _ _, (HR.out.below HB1.out).set0 b⟩
theorem rTags_any (s b : List UInt8) (l : Nat) (r : Nat) (w : World) (hs : s.length ≤ 1000000) (hl : l < 18446744073709551616) (h : IsRd w r s false) (hc : Nw.cut s = some (Lab.text l, b)) (hT : RdOk w r) :
    Calls Tryz.prog 35 #[.pointer (some ⟨r, 0, none⟩)] w fun e w' => e = .returned (.int .u64 (l : Int)) ∧ w.grownBy w' (some r) ∧ IsRd w' r b false := by
  have T := Lib.hid (rText_any s (Lab.text l) b false r w hs h hc)
  have PS := Lib.hid (fun (wx : World) (hx : w.grownBy wx (some r)) => parse_any (Lab.text l) wx (Nat.le_trans (Lab.text_len hl) (by omega)) (TabsC.gb hT hx).tab (TabsC.gb hT hx).lt)
  have HX : Hid (∀ x ok, Lab.Spec (Lab.text l) x ok → x = l ∧ ok = true) := Lib.hid (fun x ok h => Lab.Spec.of_text hl h)
  clear h hc hT
  go_enter Tryz.func35, Tryz.ntmps35
  go_wp2_with fail
  refine T.out.mono ?_
  rintro e W1 ⟨rfl, hg1, hr1⟩
  unfold sv
  have P1 := Lib.hid (PS.out _ hg1)
  have HG1 := Lib.hid hg1
  have HR1 := Lib.hid hr1
  clear hg1 hr1 PS T
  go_wp2_with fail
  refine P1.out.mono ?_
  rintro e W2 ⟨hb2, x, ok, rfl, hsp⟩
  obtain ⟨rfl, rfl⟩ := HX.out _ _ hsp
  have c1 := (HR1.out.below hb2).cell1
  have f1 := (HR1.out.below hb2).frozen 1
  have HB2 := Lib.hid hb2
  clear hb2 hsp
  go_wp2_with fail
  go_ret
  exact ⟨rfl, gb_set (gb_trans HG1.out (gb_below r HB2.out)) _ _, (HR1.out.below HB2.out).set1 false⟩
theorem rArrays0_any (s b : List UInt8) (r : Nat) (w : World) (hs : s.length ≤ 1000000) (h : IsRd w r s false) (hc : Nw.cut s = some ([], b)) :
    Calls Tryz.prog 36 #[.pointer (some ⟨r, 0, none⟩)] w fun e w' => e = .returned (.slice none 0 0) ∧ w.grownBy w' (some r) ∧ IsRd w' r b false := by
  have T := Lib.hid (rText_any s [] b false r w hs h hc)
  clear h hc
  go_enter Tryz.func36, Tryz.ntmps36
  go_wp2_with fail
  refine T.out.mono ?_
  rintro e W1 ⟨rfl, hg1, hr1⟩
  unfold sv
  obtain ⟨W2, hW2⟩ : ∃ W2, W2 = W1.alloc (.cells #[.string ⟨[].toArray⟩, .bool false] 64) := ⟨_, rfl⟩
  have hb2 : Below W1.heap.size W1 W2 := by rw [hW2]; exact (Below.refl _ _).alloc (Nat.le_refl _) _
  have hi : IsRd W2 W1.heap.size [] false := by rw [hW2]; exact heap_alloc_new _ _
  have i0 := hi.cell0
  have i1 := hi.cell1
  have c1 := (hr1.below hb2).cell1
  have f1 := (hr1.below hb2).frozen 1
  have HW2 := Lib.hid hW2
  have HG1 := Lib.hid hg1
  have HR1 := Lib.hid hr1
  have HB2 := Lib.hid hb2
  clear hW2 hg1 hr1 hb2 T hi
  go_upto_region 3 with fail
  rw [← HW2.out]
  go_loopw [3, 5, 6] (fun v _ _ wr => v = .slice none 0 0 ∧ wr = W2) (fun _ _ _ _ => 0)
  case atStart => exact ⟨rfl, rfl⟩
  case round =>
    obtain ⟨rfl, rfl⟩ := hrel
    go_wp2_with fail
    go_ret
    exact ⟨rfl, gb_set (gb_trans HG1.out (gb_below r HB2.out)) _ _, (HR1.out.below HB2.out).set1 false⟩
end Go.Proofs.YtmiccalfamepdaaGreatDoor

/-
  strconv.Atoi of nought.
-/
namespace Go.Proofs.YtmiccalfamepdaaGreatDoor
open Go.RowKit Ar
set_option maxHeartbeats 4000000
set_option maxRecDepth 100000
set_option linter.unusedVariables false

theorem atoiI0_any (w : World) :
    Calls Tryz.prog 120 #[.string ⟨#[48]⟩] w fun e w' => e = .returned (.tuple #[.int .i64 0, .nilIface]) ∧ Below w.heap.size w w' := by
  obtain ⟨W, hW⟩ : ∃ W, W = Lib.bytesWorld w 5 ⟨#[48]⟩ := ⟨_, rfl⟩
  obtain ⟨cp, hcp⟩ : ∃ cp, cp = grownCap w 1 0 5 := ⟨_, rfl⟩
  have hcv : (convert 9 50 (.string ⟨#[48]⟩)).run Tryz.prog w = .ok (.slice (some ⟨w.heap.size, 0, none⟩) 1 cp) W := by
    rw [hW, hcp]
    exact Lib.run_convert_string_bytes w 9 50 5 ⟨#[48]⟩ Tryz.underlying9 Tryz.underlying50 Tryz.underlying5
  have hc0 : W.cell? ⟨w.heap.size, 0, none⟩ = some (.int .u8 48) := by
    rw [hW]; exact Lib.bytesWorld_cell w 5 ⟨#[48]⟩ 0 (by decide)
  have hbel : Below w.heap.size w W := by
    rw [hW]
    exact ⟨rfl, rfl, rfl, by rw [Lib.bytesWorld_size]; omega, fun k hk => Lib.bytesWorld_at_old w _ _ k hk⟩
  have HB := Lib.hid hbel
  have e0 : ((⟨#[48]⟩ : ByteArray)[0]'(by decide)).toNat = 48 := rfl
  clear hbel hW hcp
  go_enter Tryz.func120, Tryz.ntmps120
  go_wp2_with fail
  go_loopw [6, 8, 49] (fun a _ i wr => wr = W ∧ a = .int .i64 0 ∧ (i = .int .i64 0 ∨ i = .int .i64 1)) (fun _ _ i _ => 1 - (intOf i).toNat)
  case atStart => exact ⟨rfl, rfl, .inl rfl⟩
  case round =>
    obtain ⟨rfl, rfl, rfl | rfl⟩ := hrel
    · go_wp2_with fail
      go_roundw
      case rel => exact ⟨by trivial, by go_num, .inr (by go_num)⟩
      case measure => simp [intOf]
    · go_wp2_with fail
      go_ret2
      exact ⟨by trivial, HB.out⟩
theorem atoi0_any (w : World) :
    Calls Tryz.prog 92 #[.string ⟨#[48]⟩] w fun e w' => e = .returned (.tuple #[.int .i64 0, .nilIface]) ∧ Below w.heap.size w w' := by
  have A := Lib.hid (atoiI0_any w)
  go_enter Tryz.func92, Tryz.ntmps92
  go_wp2_with fail
  refine A.out.mono ?_
  rintro e W1 ⟨rfl, hb⟩
  go_wp2_with fail
  go_ret2
  exact ⟨by trivial, hb⟩
end Go.Proofs.YtmiccalfamepdaaGreatDoor

/-
  config.numbers: what it hands out of a text of numbers.
-/
namespace Go.Proofs.YtmiccalfamepdaaGreatDoor
open Go.RowKit Ar
set_option maxHeartbeats 4000000
set_option maxRecDepth 100000
set_option linter.unusedVariables false
attribute [local go_sem] Oper.semAt_some

theorem dec_no32 (n : Nat) : (32 : UInt8) ∉ Lib.decDigits n := fun h => by
  have := (Ten.dec_valid n).1.2.2 32 h
  unfold Ten.isDig at this
  exact absurd this.1 (by decide)
theorem itoa_no32 (n : Int) : (32 : UInt8) ∉ Lib.itoa n := by
  unfold Lib.itoa
  split
  · intro h
    rcases List.mem_cons.1 h with h | h
    · exact absurd h (by decide)
    · exact dec_no32 _ h
  · exact dec_no32 _
theorem itoa_ne (n : Int) : Lib.itoa n ≠ [] := by
  unfold Lib.itoa
  split
  · simp
  · exact Ten.dec_ne _
theorem wordsT_one (x : Int) : wordsT [x] = Lib.itoa x := by unfold wordsT; rw [List.map_cons, List.map_nil, Lib.join_one]
theorem wordsT_two (x y : Int) (r : List Int) : wordsT (x :: y :: r) = Lib.itoa x ++ 32 :: wordsT (y :: r) := by
  unfold wordsT; rw [List.map_cons, List.map_cons, wjoin_two]; rfl
theorem wordsT_nil : wordsT [] = [] := rfl
theorem wordsT_ne {l : List Int} (h : l ≠ []) : wordsT l ≠ [] := by
  match l, h with
  | [x], _ => rw [wordsT_one]; exact itoa_ne x
  | x :: y :: r, _ => rw [wordsT_two]; exact fun e => itoa_ne x (List.append_eq_nil_iff.1 e).1
theorem cut_words (x : Int) (r : List Int) : Lab.cutAt 32 (wordsT (x :: r)) = (Lib.itoa x, wordsT r, !r.isEmpty) := by
  match r with
  | [] => rw [wordsT_one, Lab.cutAt_none (itoa_no32 x)]; rfl
  | y :: r => rw [wordsT_two, Lab.cutAt_some (itoa_no32 x)]; rfl
theorem words_less (x : Int) (r : List Int) : (wordsT r).length < (wordsT (x :: r)).length := by
  have := List.length_pos_iff.2 (itoa_ne x)
  match r with
  | [] => rw [wordsT_one]; exact this
  | y :: r => rw [wordsT_two]; simp only [List.length_append, List.length_cons]; omega
theorem words_empty (l : List Int) : (wordsT l).isEmpty = l.isEmpty := by
  cases l with
  | nil => rfl
  | cons x r =>
    have := wordsT_ne (l := x :: r) (by simp)
    cases h : wordsT (x :: r) with
    | nil => exact absurd h this
    | cons _ _ => rfl
/-- What a round keeps: the text's box. -/
def KpB (bx : Nat) (W W' : World) : Prop := W'.heap[bx]? = W.heap[bx]? ∧ W.heap.size ≤ W'.heap.size
def boxLen (W : World) (bx : Nat) : Nat := match W.cell? ⟨bx, 0, none⟩ with | some (.string s) => s.size | _ => 0
def IsBox (W : World) (bx : Nat) (s : List UInt8) : Prop := W.heap[bx]? = some (.cells #[sv s] 9 (0, 0))
theorem IsBox.cell {W : World} {bx : Nat} {s : List UInt8} (h : IsBox W bx s) : W.cell? ⟨bx, 0, none⟩ = some (.string ⟨s.toArray⟩) := by unfold IsBox at h; simp [World.cell?, h, sv]
theorem IsBox.frozen {W : World} {bx : Nat} {s : List UInt8} (h : IsBox W bx s) : W.frozen? ⟨bx, 0, none⟩ = false := by unfold IsBox at h; simp [World.frozen?, h]
theorem IsBox.len {W : World} {bx : Nat} {s : List UInt8} (h : IsBox W bx s) : boxLen W bx = s.length := by unfold boxLen; rw [h.cell]; rfl
theorem IsBox.set {W : World} {bx : Nat} {s : List UInt8} (h : IsBox W bx s) (t : List UInt8) : IsBox (W.setCell ⟨bx, 0, none⟩ (.string ⟨t.toArray⟩)) bx t := by
  unfold IsBox at *
  show (W.heap.modify bx _)[bx]? = _
  rw [Array.getElem?_modify, if_pos rfl, h]
  rfl
theorem IsBox.below {W W' : World} {bx : Nat} {s : List UInt8} (h : IsBox W bx s) (hb : Below W.heap.size W W') : IsBox W' bx s := (hb.block bx (Array.getElem?_eq_some_iff.1 h).1).trans h

theorem numbers_any (s : List UInt8) (w : World) :
    Calls Tryz.prog 61 #[.string ⟨s.toArray⟩] w fun e w' => e = .returned (.func (.func 90) #[] #[.pointer (some ⟨w.heap.size, 0, none⟩)]) ∧ w' = w.alloc (.cells #[.string ⟨s.toArray⟩] 9) := by
  go_enter Tryz.func61, Tryz.ntmps61
  go_wp2_with fail
  go_ret
  exact ⟨rfl, rfl⟩
theorem nums_hands (n : Nat) (hn : 1 ≤ n) (l : List Int) (bx : Nat) (w : World) (hc : IsBox w bx (wordsT l)) (hl : (wordsT l).length ≤ 100000)
    (hA : ∀ x ∈ l, ∀ wx : World, Calls Tryz.prog 92 #[.string ⟨(Lib.itoa x).toArray⟩] wx fun e w' => e = .returned (.tuple #[.int .i64 x, .nilIface]) ∧ Below wx.heap.size wx w') :
    Hands n Tryz.prog 90 #[.pointer (some ⟨bx, 0, none⟩)] (fun x : Int => #[.int .i64 x, .bool true]) (KpB bx) l bx w := by
  intro lp J W hW hJ hY h0
  have hbox := hc.below hW
  have HA := Lib.hid hA
  have HJ := Lib.hid hJ
  have HY := Lib.hid hY
  have h0' : Hid (J [] W) := Lib.hid h0
  have c0 := hbox.cell
  have HBX := Lib.hid hbox
  have HL := Lib.hid hl
  clear hA hJ hY hc hbox h0 hl
  refine callsIn_of_wp Tryz.func90 rfl trivial ?_ rfl
  simp only [Tryz.ntmps90, List.size_toArray, List.length_cons, List.length_nil, Nat.reduceAdd, Nat.reduceSub, Array.replicate_succ, Array.replicate_zero, List.push_toArray, List.append_toArray, List.nil_append, List.cons_append]
  gi_wp2
  gi_loopw [3, 4, 5, 6] (fun m _ _ _ wr => ∃ (k : Nat) (mb : Bool), k ≤ l.length ∧ m = .bool mb ∧ Hid (mb = !(l.drop k).isEmpty) ∧ Hid (IsBox wr bx (wordsT (l.drop k))) ∧ Hid (J (l.take k) wr)) (fun _ _ _ _ wr => boxLen wr bx)
  case atStart => exact ⟨0, _, Nat.zero_le _, rfl, Lib.hid (by rw [words_empty]; rfl), HBX, h0'⟩
  case round =>
    clear HBX h0' c0 hW
    obtain ⟨wq, rfl⟩ : ∃ x, x = wr := ⟨_, rfl⟩
    obtain ⟨k, mb, hk, rfl, HMB, HBX, h0'⟩ := hrel
    by_cases hlt : k < l.length
    · have hd : l.drop k = l[k] :: l.drop (k + 1) := List.drop_eq_getElem_cons hlt
      have hbx := HBX.out
      have HLN := Lib.hid hbx.len
      rw [hd] at hbx HLN
      have HAX := Lib.hid (HA.out l[k] (List.getElem_mem hlt))
      have HLS := Lib.hid (words_less l[k] (l.drop (k + 1)))
      have HTK := Lib.hid (List.take_succ_eq_append_getElem hlt)
      have HYK := Lib.hid (fun (W1 : World) (h : J (l.take k) W1) => HY.out (l.take k) l[k] W1 h (by rw [List.length_take]; omega))
      have CT := fun (wx : World) => cut_any (wordsT (l[k] :: l.drop (k + 1))) 32 wx (by
        have h1 : ∀ j, (wordsT (l.drop j)).length ≤ (wordsT l).length := fun j => by
          induction j with
          | zero => exact Nat.le_refl _
          | succ j ih =>
            by_cases hj : j < l.length
            · have := words_less l[j] (l.drop (j + 1))
              rw [← List.drop_eq_getElem_cons hj] at this
              omega
            · rw [List.drop_eq_nil_of_le (by omega)]; exact Nat.zero_le _
        have := h1 k
        rw [hd] at this
        exact Nat.le_trans this HL.out)
      rw [cut_words] at CT
      unfold strV at CT
      dsimp only at CT
      replace CT := Lib.hid CT
      have em : mb = true := by rw [HMB.out, hd]; rfl
      subst em
      clear HMB
      have c0 := hbx.cell
      have HBX2 := Lib.hid hbx
      have HEM := Lib.hid (words_empty (l.drop (k + 1)))
      clear hd HBX hbx
      generalize l[k] = x at *
      generalize hRR : l.drop (k + 1) = R at *
      have HRD := Lib.hid hRR
      clear hRR
      gi_wp2
      refine ⟨trivial, (callsIn_wide.2 (CT.out _)).mono ?_⟩
      rintro e w2 ⟨rfl, nn, rfl⟩
      have hb2 : IsBox (wq.drewN nn) bx (wordsT (x :: R)) := HBX2.out
      have c2 := hb2.cell
      have f2 := hb2.frozen
      have hj2 := HJ.out _ _ ((wq.drewN nn).setCell ⟨bx, 0, none⟩ (.string ⟨(wordsT R).toArray⟩)) (some bx) h0'.out (gb_set (gb_below bx (Below.drewN_self wq nn)) 0 _) (fun r e => by injection e with e; exact e.symm)
      have HJ2 := Lib.hid hj2
      have HB3 := Lib.hid (hb2.set (wordsT R))
      clear c0 hb2 hj2 CT
      gi_wp2
      clear c2 f2
      generalize (wq.drewN nn).setCell ⟨bx, 0, none⟩ (.string ⟨(wordsT R).toArray⟩) = w3 at *
      refine ⟨trivial, (callsIn_wide.2 (HAX.out _)).mono ?_⟩
      rintro e w4 ⟨rfl, hb4⟩
      have hj4 := HJ.out _ _ _ (some bx) HJ2.out (gb_below bx hb4) (fun r e => by injection e with e; exact e.symm)
      have HB4 := Lib.hid (HB3.out.below hb4)
      obtain ⟨fn, tmps, assign, body, hy, hR⟩ := HYK.out w4 hj4
      clear hj4 hb4 HYK HAX
      gi_wp2
      refine hR.mono ?_
      rintro e w5 ⟨rfl, hj5, hk5⟩
      have HB5 : Hid (IsBox w5 bx (wordsT R)) := Lib.hid (hk5.1.trans HB4.out)
      have HJ5 : Hid (J (l.take (k + 1)) w5) := Lib.hid (by rw [HTK.out]; exact hj5)
      clear hj5 hk5 hR hy
      gi_wp2
      refine ⟨⟨k + 1, _, by omega, rfl, Lib.hid (by rw [HRD.out]), by rw [HRD.out]; exact HB5, HJ5⟩, ?_⟩
      rw [HLN.out, HB5.out.len]
      exact HLS.out
    · have hke : k = l.length := by omega
      have em : mb = false := by rw [HMB.out, hke, List.drop_length]; rfl
      subst em
      clear HMB
      have HJE : Hid (J l wq) := Lib.hid (by have := h0'.out; rwa [hke, List.take_length] at this)
      clear h0' HBX hke
      gi_wp2
      go_end0
      exact ⟨⟨_, by trivial⟩, HJE.out⟩
end Go.Proofs.YtmiccalfamepdaaGreatDoor

/-
  The reader's numbers.
-/
namespace Go.Proofs.YtmiccalfamepdaaGreatDoor
open Go.RowKit Ar
set_option maxHeartbeats 4000000
set_option maxRecDepth 100000
set_option linter.unusedVariables false
attribute [local go_sem] Oper.semAt_some

structure IntsAt (w : World) (r BS : Nat) (b : List UInt8) (pre : List Int) (W : World) : Prop where
  sz : BS ≤ W.heap.size
  gb : w.grownBy W (some r)
  rd : IsRd W r b false
  bp : W.heap[w.heap.size]? = some (.cells #[.pointer (some ⟨r, 0, none⟩)] 62 (0, 0))
  bl : ∃ v, W.heap[w.heap.size + 1]? = some (.cells #[v] 26 (0, 0)) ∧ W.ownsRow BS 3 1 v pre.length (I64 pre) ∧ (pre = [] → v = .slice none 0 0)
theorem own_far {w w' : World} {base : Nat} {e : TypeId} {size n : Nat} {v : Value} {xs : List Value} {row : Option Nat} (h : w.ownsRow base e size v n xs) (hg : w.grownBy w' row) (hr : ∀ r, row = some r → r < base ∨ ∃ o : Obj, w.heap[r]? = some o ∧ o.isCells = false) : w'.ownsRow base e size v n xs := by
  refine ⟨h.1, h.2.imp id ?_⟩
  rintro ⟨g, cap, cur, a, hb, hh, rest⟩
  refine ⟨g, cap, cur, a, hb, (hg.block g (Array.getElem?_eq_some_iff.1 hh).1 (fun e => ?_)).trans hh, rest⟩
  rcases hr g e.symm with h1 | ⟨o, h1, h2⟩
  · omega
  · rw [hh] at h1; injection h1 with h1; subst h1; cases h2
theorem IntsAt.bears {w : World} {r BS : Nat} {b : List UInt8} (hr : r < w.heap.size) (bx : Nat) (h1 : w.heap.size + 1 < bx) (h2 : bx < BS) : Bears bx BS (IntsAt w r BS b) := by
  rintro pre W W' row ⟨hsz, hgb, hrd, hbp, v, hv, ho, hn⟩ hg hrow
  have far : ∀ k, k < bx → k < W.heap.size → W'.heap[k]? = W.heap[k]? := fun k hk hl => hg.block k hl (fun e => by
    rcases hrow k e.symm with h | ⟨h, _⟩ <;> omega)
  refine ⟨Nat.le_trans hsz hg.size, ⟨hg.os.trans hgb.os, hg.tape.trans hgb.tape, hg.output.trans hgb.output, Nat.le_trans hgb.size hg.size, fun k hk hne => (far k (by omega) (Nat.lt_of_lt_of_le hk hgb.size)).trans (hgb.block k hk hne)⟩, (far r (by omega) hrd.lt).trans hrd, (far _ (by omega) (Array.getElem?_eq_some_iff.1 hbp).1).trans hbp, v, (far _ (by omega) (Array.getElem?_eq_some_iff.1 hv).1).trans hv, own_far ho hg (fun k e => ?_), hn⟩
  rcases hrow k e with h | ⟨_, h⟩
  · left; omega
  · exact .inr h
/-- The world behind 'r.bad = r.bad || !ok'. -/
def badW (W : World) (r : Nat) : World := (W.setCell ⟨r, 1, none⟩ (.bool false)).drew
theorem badW_far {W : World} {r k : Nat} (h : k ≠ r) : (badW W r).heap[k]? = W.heap[k]? := by
  show (W.heap.modify r _)[k]? = _
  rw [Array.getElem?_modify, if_neg (fun e => h e.symm)]
theorem badW_size (W : World) (r : Nat) : (badW W r).heap.size = W.heap.size := by show (W.heap.modify r _).size = _; simp
theorem badW_gb (W : World) (r : Nat) : W.grownBy (badW W r) (some r) :=
  have h := gb_set (World.grownBy.refl W (some r)) 1 (.bool false)
  ⟨h.os, h.tape, h.output, h.size, h.block⟩
theorem ints_step {w : World} {r BS bx : Nat} {b : List UInt8} {pre : List Int} {W w1 : World} {x : Int} {v v' : Value} {tmp : Obj} (hr : r < w.heap.size) (h1 : w.heap.size + 1 < bx) (h2 : bx < BS) (h : IntsAt w r BS b pre W)
    (hv : W.heap[w.heap.size + 1]? = some (.cells #[v] 26 (0, 0))) (ho : W.ownsRow BS 3 1 v pre.length (I64 pre)) (hown : w1.ownsRow BS 3 1 v' (pre.length + 1) (I64 pre ++ [.int .i64 x])) (hgrow : ((badW W r).alloc tmp).grownBy w1 v.ownBlock) :
    w1.heap[w.heap.size + 1]? = some (.cells #[v] 26 (0, 0)) ∧ KeepsOthers W (w1.setCell ⟨w.heap.size + 1, 0, none⟩ v') ∧ KpB bx W (w1.setCell ⟨w.heap.size + 1, 0, none⟩ v') ∧ IntsAt w r BS b (pre ++ [x]) (w1.setCell ⟨w.heap.size + 1, 0, none⟩ v') := by
  have hsz := h.sz
  have hob : ∀ k, v.ownBlock = some k → BS ≤ k := fun k hk => by
    rcases ho.2 with ⟨rfl, _⟩ | ⟨g, cap, cur, rfl, hb, _⟩
    · simp [Value.ownBlock] at hk
    · obtain rfl : g = k := by simpa [Value.ownBlock] using hk
      exact hb
  have far1 : ∀ k, k < BS → w1.heap[k]? = (badW W r).heap[k]? := fun k hk => by
    rw [hgrow.block k (by simp; rw [badW_size]; omega) (fun e => by have := hob k e.symm; omega), Below.heap_alloc _ _ k (by rw [badW_size]; omega)]
  have far2 : ∀ k, k < BS → k ≠ w.heap.size + 1 → (w1.setCell ⟨w.heap.size + 1, 0, none⟩ v').heap[k]? = (badW W r).heap[k]? := fun k hk hne => by
    rw [← far1 k hk]
    show (w1.heap.modify _ _)[k]? = _
    rw [Array.getElem?_modify, if_neg (fun e => hne e.symm)]
  have hs1 : W.heap.size ≤ w1.heap.size := by have := hgrow.size; simp [badW_size] at this; omega
  have hv1 : w1.heap[w.heap.size + 1]? = some (.cells #[v] 26 (0, 0)) := (far1 _ (by omega)).trans ((badW_far (by omega)).trans hv)
  refine ⟨hv1, ?_, ⟨(far2 bx h2 (by omega)).trans (badW_far (by omega)), by simpa using hs1⟩, ?_⟩
  · refine (((KeepsOthers.setCell W ⟨r, 1, none⟩ (.bool false)).trans (KeepsOthers.drew _)).trans ((KeepsOthers.alloc (badW W r) tmp).trans (KeepsOthers.of_grownBy hgrow fun j o ej hj => ?_))).trans (KeepsOthers.setCell _ _ _)
    rcases ho.2 with ⟨rfl, _⟩ | ⟨g, cap, cur, rfl, hb, hh, _⟩
    · simp [Value.ownBlock] at ej
    · obtain rfl : g = j := by simpa [Value.ownBlock] using ej
      have hgl := (Array.getElem?_eq_some_iff.1 hh).1
      rw [Below.heap_alloc _ _ g (by rw [badW_size]; exact hgl), badW_far (by omega), hh] at hj
      cases hj; rfl
  · have hb := badW_gb W r
    refine ⟨by simp; omega, ⟨?_, ?_, ?_, by have := h.gb.size; simp; omega, fun k hk hne => ?_⟩, ?_, ?_, v', ?_, ?_, fun e => by simp at e⟩
    · exact hgrow.os.trans (hb.os.trans h.gb.os)
    · exact hgrow.tape.trans (hb.tape.trans h.gb.tape)
    · exact hgrow.output.trans (hb.output.trans h.gb.output)
    · have hne' : k ≠ r := fun e => hne (by rw [e])
      exact (far2 k (by omega) (by omega)).trans ((badW_far hne').trans (h.gb.block k hk hne))
    · exact (far2 r (by omega) (by omega)).trans (h.rd.set1 false)
    · exact (far2 _ (by omega) (by omega)).trans ((badW_far (by omega)).trans h.bp)
    · show (w1.heap.modify (w.heap.size + 1) _)[w.heap.size + 1]? = _
      rw [Array.getElem?_modify, if_pos rfl, hv1]; rfl
    · have := own_far hown (grownBy_setCell' w1 (w.heap.size + 1) v') (fun k e => by left; injection e with e; omega)
      simpa [I64] using this
theorem own_base {w : World} {base base' : Nat} {e : TypeId} {size n : Nat} {v : Value} {xs : List Value} (h : w.ownsRow base e size v n xs) (hb : base' ≤ base) : w.ownsRow base' e size v n xs :=
  ⟨h.1, h.2.imp id (fun ⟨g, cap, cur, a, hg, rest⟩ => ⟨g, cap, cur, a, Nat.le_trans hb hg, rest⟩)⟩
theorem int_info' : (Tryz.prog.info? 3).map (fun i => (i.zero, i.size, i.bytes)) = some (some (.int .i64 0), 1, 8) := by kernel_rfl
theorem rInts_any (s b : List UInt8) (l : List Int) (r : Nat) (w : World) (hs : s.length ≤ 1000000) (h : IsRd w r s false) (hc : Nw.cut s = some (wordsT l, b)) (hl : (wordsT l).length ≤ 100000) (hn : l.length ≤ 1000)
    (hA : ∀ x ∈ l, ∀ wx : World, Calls Tryz.prog 92 #[.string ⟨(Lib.itoa x).toArray⟩] wx fun e w' => e = .returned (.tuple #[.int .i64 x, .nilIface]) ∧ Below wx.heap.size wx w') :
    Calls Tryz.prog 34 #[.pointer (some ⟨r, 0, none⟩)] w fun e w' => ∃ v, e = .returned v ∧ w.grownBy w' (some r) ∧ IsRd w' r b false ∧ w'.ownsRow w.heap.size 3 1 v l.length (I64 l) ∧ (l = [] → v = .slice none 0 0) := by
  have hrl := h.lt
  obtain ⟨W0, hW0⟩ : ∃ W0, W0 = (w.alloc (.cells #[.pointer (some ⟨r, 0, none⟩)] 62)).alloc (.cells #[.slice none 0 0] 26) := ⟨_, rfl⟩
  have hb0 : Below w.heap.size w W0 := by rw [hW0]; exact ((Below.refl _ _).alloc (Nat.le_refl _) _).alloc (by simp) _
  have hs0 : W0.heap.size = w.heap.size + 1 + 1 := by rw [hW0]; simp
  have hg0 : W0.heap[w.heap.size]? = some (.cells #[.pointer (some ⟨r, 0, none⟩)] 62 (0, 0)) := by rw [hW0]; exact heap_alloc2_old _ _ _
  have hg1 : W0.heap[w.heap.size + 1]? = some (.cells #[.slice none 0 0] 26 (0, 0)) := by rw [hW0]; exact heap_alloc2_new _ _ _
  have T := Lib.hid (rText_any s (wordsT l) b false r W0 hs (h.below hb0) hc)
  have c0 : W0.cell? ⟨w.heap.size, 0, none⟩ = some (.pointer (some ⟨r, 0, none⟩)) := by simp [World.cell?, hg0]
  have HW0 := Lib.hid hW0
  have HB0 := Lib.hid hb0
  have HG0 := Lib.hid hg0
  have HG1 := Lib.hid hg1
  have HS0 := Lib.hid hs0
  have HA := Lib.hid hA
  have HL := Lib.hid hl
  clear hW0 hb0 hg0 hg1 hs0 hA hl hc h
  refine (callsIn_wide (n := 9)).1 ?_
  refine callsIn_of_wp_marks Tryz.func34 rfl trivial ?_ rfl
  refine wpIn_wide.2 ?_
  simp only [Tryz.ntmps34, List.size_toArray, List.length_cons, List.length_nil, Nat.reduceAdd, Nat.reduceSub, Array.replicate_succ, Array.replicate_zero, List.push_toArray, List.append_toArray, List.nil_append, List.cons_append]
  go_upto_region 2 with fail
  rw [← HW0.out]
  go_wp2_with fail
  refine T.out.mono ?_
  rintro e W1 ⟨rfl, hgb1, hrd1⟩
  unfold sv
  have far1 : ∀ k, k < W0.heap.size → k ≠ r → W1.heap[k]? = W0.heap[k]? := fun k hk hne => hgb1.block k hk (fun e => hne (by injection e))
  have k0 := (far1 w.heap.size (by rw [HS0.out]; omega) (by omega)).trans HG0.out
  have k1 := (far1 (w.heap.size + 1) (by rw [HS0.out]; omega) (by omega)).trans HG1.out
  have hgw : w.grownBy W1 (some r) := gb_trans (gb_below r HB0.out) hgb1
  have NB := Lib.hid (numbers_any (wordsT l) W1)
  have hsz1 := hgb1.size
  rw [HS0.out] at hsz1
  have HK0 := Lib.hid k0
  have HK1 := Lib.hid k1
  have HGW := Lib.hid hgw
  have HRD1 := Lib.hid hrd1
  clear far1 k0 k1 hgw hrd1 hgb1 T c0
  go_wp2_with fail
  refine NB.out.mono ?_
  rintro e W2 ⟨rfl, hW2⟩
  have hb2 : Below W1.heap.size W1 W2 := by rw [hW2]; exact (Below.refl _ _).alloc (Nat.le_refl _) _
  have hs2 : W2.heap.size = W1.heap.size + 1 := by rw [hW2]; simp
  have hbox : IsBox W2 W1.heap.size (wordsT l) := by rw [hW2]; exact heap_alloc_new _ _
  have hi2 : IntsAt w r W2.heap.size b [] W2 := ⟨Nat.le_refl _, gb_trans HGW.out ⟨hb2.os, hb2.tape, hb2.output, hb2.size, fun k hk _ => hb2.block k hk⟩, HRD1.out.below hb2, (hb2.block _ (by omega)).trans HK0.out, _, (hb2.block _ (by omega)).trans HK1.out, World.ownsRow_nil _ _ _ _, fun _ => rfl⟩
  clear hW2 hb2 NB
  go_wp2_with fail
  generalize hbx : W1.heap.size = bx at *
  refine (wpIn_wide (n := 9)).1 ?_
  refine range_box (α := Int) (by decide) (gf := 90) (lb := #[.pointer (some ⟨bx, 0, none⟩)]) rfl (enters_of Tryz.func90 (by kernel_rfl) rfl)
    (encs := fun x : Int => #[.int .i64 x, .bool true]) (nums_hands 8 (by decide) l bx W2 hbox HL.out HA.out) (fun h k => ⟨k.1.trans h.1, Nat.le_trans h.2 k.2⟩) (fun W l' o' hl' => ⟨World.putObj_heap_other (by omega), by simp⟩) (Below.refl _ _) (fun _ => rfl) (by omega)
    (IntsAt w r W2.heap.size b) (IntsAt.bears hrl bx (by omega) (by omega)) hi2
    (fun x => { tmps := #[.pointer (some ⟨r, 0, none⟩), .pointer (some ⟨w.heap.size, 0, none⟩), .slice none 0 0, .pointer (some ⟨w.heap.size + 1, 0, none⟩), .int .i64 x, .bool true, .pointer (some ⟨r, 0, none⟩), .string ⟨(wordsT l).toArray⟩, .func (.func 90) #[] #[.pointer (some ⟨bx, 0, none⟩)], .int .i64 x, .bool true, undef, undef, undef, undef, undef, undef, undef, undef, undef, undef, undef, undef, undef, undef, undef, undef], defers := [] }) ?assign ?body ?done
  case assign =>
    intro lp x W K hK
    gi_wp2
    exact hK
  case body =>
    rintro lp pre x W ⟨hsz, hgb, hrd, hbp, v, hv, ho, hnn⟩ hlen
    have HS2 := Lib.hid hs2
    have hbw : w.heap.size + 1 < bx := by omega
    have hbB : bx < W2.heap.size := by omega
    clear hs2
    have c0 : W.cell? ⟨w.heap.size, 0, none⟩ = some (.pointer (some ⟨r, 0, none⟩)) := by simp [World.cell?, hbp]
    have c1 : W.cell? ⟨w.heap.size + 1, 0, none⟩ = some v := by simp [World.cell?, hv]
    have f1 : W.frozen? ⟨w.heap.size + 1, 0, none⟩ = false := by simp [World.frozen?, hv]
    have r1 := hrd.cell1
    have g1 := hrd.frozen 1
    have hmix : Tryz.prog.follows .mixedOrders = true := by kernel_rfl
    gi_wp2
    have hkB : (badW W r).cell? ⟨w.heap.size + 1, 0, none⟩ = some v := by have e : (badW W r).heap[w.heap.size + 1]? = _ := (badW_far (by omega)).trans hv; simp [World.cell?, e]
    have hoB : (badW W r).ownsRow W2.heap.size 3 1 v pre.length (I64 pre) := own_far ho (badW_gb W r) (fun k e => by left; injection e with e; omega)
    have HAT := Lib.hid (IntsAt.mk hsz hgb hrd hbp ⟨v, hv, ho, hnn⟩)
    have hbsz : W2.heap.size ≤ (badW W r).heap.size := by rw [badW_size]; exact hsz
    obtain ⟨i0, hi, hz0, hz1, hz2⟩ := info_parts int_info'
    gi_region_with_o (fail)
    all_goals
      change Exit.then _ _ _ _ (badW W r)
      gi_wp2_with (gi_at_builtin; refine wpListIn_append_own _ rfl _ _ 26 rfl W2.heap.size 3 i0 (.int .i64 0) 1 8 Tryz.underlying26 hi hz0 hz1 hz2 rfl (by decide) _ _ _ rfl (hoB.alloc _) ⟨(badW W r).heap.size, 0, none⟩ 1 1 [.int .i64 x] rfl rfl (cell_one_new _ _ _) (by simp [Value.oneCell']) (by unfold maxLen; omega) (by omega) (by rw [World.size_alloc]; omega) ?_; intro v' w3 hown' hg3 hnil3; obtain ⟨hv3, hko, hkb, hat⟩ := ints_step hrl hbw hbB HAT.out hv ho hown' hg3; obtain ⟨A', c', rfl, _, _⟩ := own_slice hown'; have c3 : w3.cell? ⟨w.heap.size + 1, 0, none⟩ = some v := (by simp [World.cell?, hv3]); have f3 : w3.frozen? ⟨w.heap.size + 1, 0, none⟩ = false := (by simp [World.frozen?, hv3]); clear hown' hg3 hnil3 hv3 hkB hoB)
      exact ⟨hko, hkb, hat⟩
  case done =>
    rintro D W hD ⟨hsz, hgb, hrd, hbp, v, hv, ho, hnn⟩ hK
    obtain ⟨A', c', rfl, _, _⟩ := own_slice ho
    have c1 : W.cell? ⟨w.heap.size + 1, 0, none⟩ = some (.slice A' l.length c') := by simp [World.cell?, hv]
    have HS2 := Lib.hid hs2
    clear hs2
    gi_wp2
    go_wp2_with fail
    refine ⟨by simp, .inl ⟨_, _, rfl, run_takeDeferred hK, ?_⟩⟩
    have hgD := grownBy_putObj' W D (.deferred none)
    have hDn : ∀ k, k < W2.heap.size → some k ≠ some D := fun k hk e => by injection e with e; omega
    have hs2' := HS2.out
    refine ⟨_, results_tmp rfl _ _ _, _, rfl, ⟨hgb.os, hgb.tape, hgb.output, Nat.le_trans hgb.size hgD.size, fun k hk hne => (hgD.block k (Nat.lt_of_lt_of_le hk hgb.size) (hDn k (by omega))).trans (hgb.block k hk hne)⟩, (hgD.block r hrd.lt (hDn r (by omega))).trans hrd, own_base (own_far ho hgD (fun k e => .inr (by injection e with e; subst e; exact ⟨_, hK, rfl⟩))) (by omega), fun h => by have := hnn h; simpa using this⟩
end Go.Proofs.YtmiccalfamepdaaGreatDoor

/-
  config.Parse of the text of the configuration of nothing.
-/
namespace Go.Proofs.YtmiccalfamepdaaGreatDoor
open Go.RowKit Ar
set_option maxHeartbeats 4000000
set_option maxRecDepth 100000
set_option linter.unusedVariables false

theorem setCell_same {W : World} {c i : Nat} {cs : Array Value} {T : TypeId} {fz : Nat × Nat} {v : Value} (h : W.heap[c]? = some (.cells cs T fz)) (hv : cs[i]? = some v) : W.setCell ⟨c, i, none⟩ v = W := by
  have key : (W.setCell ⟨c, i, none⟩ v).heap = W.heap := by
    apply Array.ext_getElem?
    intro k
    show (W.heap.modify c _)[k]? = _
    rw [Array.getElem?_modify]
    by_cases hk : c = k
    · subst hk
      rw [if_pos rfl, h]
      obtain ⟨hi, hvi⟩ := Array.getElem?_eq_some_iff.1 hv
      have : cs.setIfInBounds i v = cs := by
        apply Array.ext_getElem?
        intro j
        rw [Array.getElem?_setIfInBounds]
        by_cases hj : i = j
        · subst hj; rw [if_pos rfl, if_pos hi, hv]
        · rw [if_neg hj]
      simp [this]
    · rw [if_neg hk]
  show { W with heap := (W.setCell ⟨c, i, none⟩ v).heap } = W
  rw [key]
/-- What config.Parse holds while it reads: its result's cell, the configuration, the reader. -/
structure PsAt (w : World) (s : List UInt8) (W : World) : Prop where
  bel : Below w.heap.size w W
  res : W.heap[w.heap.size]? = some (.cells zC 29 (0, 0))
  cfg : W.heap[w.heap.size + 1]? = some (.cells zC 29 (0, 0))
  rd : IsRd W (w.heap.size + 1 + 1) s false
theorem PsAt.next {w W W' : World} {s t : List UInt8} (h : PsAt w s W) (hg : W.grownBy W' (some (w.heap.size + 1 + 1))) (hr : IsRd W' (w.heap.size + 1 + 1) t false) : PsAt w t W' := by
  have hl := h.rd.lt
  have far : ∀ k, k < w.heap.size + 1 + 1 → W'.heap[k]? = W.heap[k]? := fun k hk => hg.block k (by omega) (fun e => by injection e with e; omega)
  exact ⟨⟨hg.os.trans h.bel.os, hg.tape.trans h.bel.tape, hg.output.trans h.bel.output, Nat.le_trans h.bel.size hg.size, fun k hk => (far k (by omega)).trans (h.bel.block k hk)⟩, (far _ (by omega)).trans h.res, (far _ (by omega)).trans h.cfg, hr⟩
theorem PsAt.below {w W W' : World} {s : List UInt8} (h : PsAt w s W) (hb : Below W.heap.size W W') : PsAt w s W' := h.next (gb_below _ hb) (h.rd.below hb)
theorem PsAt.ok {w W : World} {s : List UInt8} (h : PsAt w s W) (hT : TabsC w) : RdOk W (w.heap.size + 1 + 1) :=
  ⟨hT.below h.bel, fun g e => by have := hT.ten.lt g e; omega, by have := hT.lt; omega⟩
theorem PsAt.same {w W : World} {s : List UInt8} (h : PsAt w s W) {i : Nat} {v : Value} (hv : zC[i]? = some v) : W.setCell ⟨w.heap.size + 1, i, none⟩ v = W := setCell_same h.cfg hv
theorem PsAt.cell {w W : World} {s : List UInt8} (h : PsAt w s W) {i : Nat} {v : Value} (hv : zC[i]? = some v) : W.cell? ⟨w.heap.size + 1, i, none⟩ = some v := (cell_of_row W _ i _ _ _ h.cfg).trans hv
theorem PsAt.frozen {w W : World} {s : List UInt8} (h : PsAt w s W) (i : Nat) : W.frozen? ⟨w.heap.size + 1, i, none⟩ = false := by have := h.cfg; simp [World.frozen?, this]
theorem ps_new (w : World) (s : List UInt8) : PsAt w s (((w.alloc (.cells zC 29)).alloc (.cells zC 29)).alloc (.cells #[.string ⟨s.toArray⟩, .bool false] 64)) := by
  refine ⟨(((Below.refl _ _).alloc (Nat.le_refl _) _).alloc (by simp) _).alloc (by simp <;> omega) _, ?_, ?_, ?_⟩
  · rw [heap_alloc_old _ _ (by simp <;> omega)]; exact heap_alloc2_old _ _ _
  · rw [heap_alloc_old _ _ (by simp)]; exact heap_alloc2_new _ _ _
  · have := heap_alloc_new ((w.alloc (.cells zC 29)).alloc (.cells zC 29)) (.cells #[.string ⟨s.toArray⟩, .bool false] 64)
    unfold IsRd sv
    simpa using this
theorem itoa_zero : Lib.itoa 0 = [48] := by unfold Lib.itoa; rw [if_neg (by decide), show (0 : Int).toNat = 0 from rfl, Lib.decDigits_one (by decide)]; rfl
theorem txt0_r0 (k : Nat) : txt0 k = Nw.net headL ++ (Nw.net (wordsT [0, 0, 0]) ++ (Nw.net (Lab.text 0) ++ chans k)) := by unfold txt0 pre0; simp only [List.append_assoc]
theorem chans_r (k : Nat) : chans (k + 1) = Nw.net (Lab.text 0) ++ (Nw.net [] ++ (Nw.net (Lab.text 0) ++ (Nw.net [] ++ chans k))) := by rw [chans_front]; unfold chan0; simp only [List.append_assoc]

theorem setRow_same {W : World} {c : Nat} {cs : Array Value} {T : TypeId} (h : W.heap[c]? = some (.cells cs T (0, 0))) : W.setRow c cs = W := by
  have key : (W.setRow c cs).heap = W.heap := by
    apply Array.ext_getElem?
    intro k
    by_cases hk : c = k
    · subst hk
      rw [h]
      simp [World.setRow, Array.getElem?_modify, h]
    · simp [World.setRow, Array.getElem?_modify, hk]
  show { W with heap := (W.setRow c cs).heap } = W
  rw [key]
theorem rTags0_any (s b : List UInt8) (r : Nat) (w : World) (hs : s.length ≤ 1000000) (h : IsRd w r s false) (hc : Nw.cut s = some (Lab.text 0, b)) (hT : RdOk w r) :
    Calls Tryz.prog 35 #[.pointer (some ⟨r, 0, none⟩)] w fun e w' => e = .returned (.int .u64 0) ∧ w.grownBy w' (some r) ∧ IsRd w' r b false := by
  have := rTags_any s b 0 r w hs (by omega) h hc hT
  rw [Int.natCast_zero] at this
  exact this
theorem rInts0_any (s b : List UInt8) (r : Nat) (w : World) (hs : s.length ≤ 1000000) (h : IsRd w r s false) (hc : Nw.cut s = some ([], b)) :
    Calls Tryz.prog 34 #[.pointer (some ⟨r, 0, none⟩)] w fun e w' => e = .returned (.slice none 0 0) ∧ w.grownBy w' (some r) ∧ IsRd w' r b false := by
  refine (rInts_any s b [] r w hs h hc (by decide) (by decide) (fun x hx => by cases hx)).mono ?_
  rintro e w' ⟨v, rfl, h1, h2, -, h3⟩
  exact ⟨by rw [h3 rfl], h1, h2⟩
theorem zCfg_right : rightC zCfg = true := by decide
theorem cfg36 : (Tryz.prog.info? 29).map (·.size) = some zC.size := by kernel_rfl
theorem load_rowG {P : Program} {ops : Array Oper} {rest : List Oper} {o : Oper} {a : Act} {w : World} {Q : Exit → Act → World → Prop} (hw : Region.wanted o (yielded ops a.tmps) = true) (ty : TypeId) (x : Operand) (ho : o.op = .load ty x)
    (g : Nat) (hx : a.eval x = .pointer (some ⟨g, 0, none⟩)) (t : TypeId) (cs : Array Value) (fr : Nat × Nat) (d : TypeDesc) (hg : w.heap[g]? = some (.cells cs t fr))
    (hu : P.underlying ty = some d) (hd : (match d with | .struct _ | .array _ _ => true | _ => false) = true) (hi : (P.info? ty).map (·.size) = some cs.size)
    (h : wpList P ops Q rest (a.put o.dst (.agg cs)) w) : wpList P ops Q (o :: rest) a w :=
  BigFrame.wpList_want hw fun _ hK => wp_load_row ty x ho g hx t cs fr d hg hu hd hi (hK _ _ h)
theorem zC_one : zC.all (·.oneCell') = true := by simp [zC, Value.oneCell']

theorem parse0_any (w : World) (hT : TabsC w) :
    Calls Tryz.prog 13 #[.string ⟨(txt0 8).toArray⟩] w fun e w' => e = .returned (.tuple #[.agg zC, .int .i64 0]) ∧ Below w.heap.size w w' := by
  have hlen := txt0_len (k := 8) (by omega)
  rw [txt0_r0] at hlen
  simp only [List.length_append] at hlen
  obtain ⟨W0, hW0⟩ : ∃ W0, W0 = ((w.alloc (.cells zC 29)).alloc (.cells zC 29)).alloc (.cells #[.string ⟨(txt0 8).toArray⟩, .bool false] 64) := ⟨_, rfl⟩
  have hp0 : PsAt w (txt0 8) W0 := by rw [hW0]; exact ps_new w _
  have T1 := Lib.hid (rText_any (txt0 8) headL (Nw.net (wordsT [0, 0, 0]) ++ (Nw.net (Lab.text 0) ++ chans 8)) false (w.heap.size + 1 + 1) W0 (Nat.le_trans (txt0_len (k := 8) (by omega)) (by omega)) hp0.rd (by rw [txt0_r0, Nw.cut_net]))
  have HP0 := Lib.hid hp0
  unfold zC at hW0
  have HW0 := Lib.hid hW0
  have HLEN := Lib.hid hlen
  have HT := Lib.hid hT
  clear hp0 hW0 hlen hT
  go_enter Tryz.func13, Tryz.ntmps13
  go_upto_region 3 with fail
  rw [← HW0.out]
  go_wp2_with fail
  refine T1.out.mono ?_
  rintro e W1 ⟨rfl, hg1, hr1⟩
  unfold sv headL
  have hp1 := HP0.out.next hg1 hr1
  have I1 := Lib.hid (rInts_any _ (Nw.net (Lab.text 0) ++ chans 8) [0, 0, 0] (w.heap.size + 1 + 1) W1 (by have := HLEN.out; simp only [List.length_append]; omega) hp1.rd (Nw.cut_net _ _) (Nat.le_trans words3_len (by omega)) (by decide) (fun x hx wx => by
    have hx0 : x = 0 := by simpa using hx
    subst hx0
    rw [itoa_zero]
    exact atoi0_any wx))
  have HP1 := Lib.hid hp1
  clear hg1 hr1 hp1 T1 HP0
  go_wp2_with fail
  refine I1.out.mono ?_
  rintro e W2 ⟨v, rfl, hg2, hr2, hown, -⟩
  have hp2 := HP1.out.next hg2 hr2
  obtain ⟨gg, cp, rfl, hgg, hgl⟩ := hown.form (by decide)
  have b0 := own_cell hown 0 (.int .i64 0) rfl
  have b1 := own_cell hown 1 (.int .i64 0) rfl
  have b2 := own_cell hown 2 (.int .i64 0) rfl
  have c1 := hp2.rd.cell1
  have hcap : 3 ≤ cp := by obtain ⟨_, _, e, h, _⟩ := own_slice hown; injection e with _ _ e; rw [e]; exact h
  simp only [Nat.zero_add] at b0 b1 b2
  have s33 := hp2.same (i := 33) (v := .int .i64 0) rfl
  have s34 := hp2.same (i := 34) (v := .int .i64 0) rfl
  have s35 := hp2.same (i := 35) (v := .int .i64 0) rfl
  have k33 := hp2.cell (i := 33) rfl
  have k34 := hp2.cell (i := 34) rfl
  have k35 := hp2.cell (i := 35) rfl
  have f33 := hp2.frozen 33
  have f34 := hp2.frozen 34
  have f35 := hp2.frozen 35
  have HP2 := Lib.hid hp2
  clear hg2 hr2 hown hp2 I1 HP1
  go_wp2_with fail
  go_region
  obtain ⟨W3, hW3⟩ : ∃ W3, W3 = W2.drew := ⟨_, rfl⟩
  have hp3 : PsAt w (Nw.net (Lab.text 0) ++ chans 8) W3 := by rw [hW3]; exact HP2.out.below (Below.drewN_self W2 1)
  rw [← hW3]
  clear hW3 k33 k34 k35 f33 f34 f35 b0 b1 b2 c1 s33 s34 s35 HP2
  have L1 := Lib.hid (rTags0_any _ _ (w.heap.size + 1 + 1) W3 (by have := HLEN.out; simp only [List.length_append]; omega) hp3.rd (Nw.cut_net _ _) (hp3.ok HT.out))
  have HP3 := Lib.hid hp3
  clear hp3
  go_wp2_with fail
  refine L1.out.mono ?_
  rintro e W4 ⟨rfl, hg4, hr4⟩
  have hp4 := HP3.out.next hg4 hr4
  have k32 := hp4.cell (i := 32) rfl
  have f32 := hp4.frozen 32
  have s32 := hp4.same (i := 32) (v := .int .u64 0) rfl
  have HP4 := Lib.hid hp4
  clear hg4 hr4 hp4 L1 HP3
  go_wp2_with fail
  clear k32 f32 s32
  go_loopw [8, 45] (fun _ i wr => ∃ k : Nat, k ≤ 8 ∧ i = .int .i64 k ∧ Hid (PsAt w (chans (8 - k)) wr)) (fun _ i _ => 8 - (intOf i).toNat)
  case atStart => exact ⟨0, Nat.zero_le _, rfl, HP4⟩
  case round =>
    clear HP4
    obtain ⟨wq, rfl⟩ : ∃ x, x = wr := ⟨_, rfl⟩
    obtain ⟨k, hk, rfl, HX⟩ := hrel
    by_cases hlt : k < 8
    · obtain ⟨z0, z1, z2, z3⟩ := zC_u k hlt
      have hk0 : (0 : Int) ≤ (k : Int) := by omega
      have hk8 : (k : Int) < 8 := by omega
      obtain ⟨C, hC⟩ : ∃ C, C = chans (8 - (k + 1)) := ⟨_, rfl⟩
      have hp := HX.out
      rw [show 8 - k = (8 - (k + 1)) + 1 by omega, chans_r, ← hC] at hp
      have hcl : C.length ≤ 100000 := by rw [hC]; have := chans_len (8 - (k + 1)); omega
      have n0 := net_len (s := Lab.text 0) (by have := lab0_len; omega)
      have n1 := net_len (s := []) (by decide)
      have HLL : Hid (C.length ≤ 100000 ∧ (Nw.net (Lab.text 0)).length ≤ 2000 ∧ (Nw.net []).length ≤ 2000) := Lib.hid ⟨hcl, n0, n1⟩
      have HC := Lib.hid hC
      have L1 := Lib.hid (rTags0_any _ _ (w.heap.size + 1 + 1) wq (by simp only [List.length_append]; omega) hp.rd (Nw.cut_net _ _) (hp.ok HT.out))
      have HP := Lib.hid hp
      clear hp HX hC hcl n0 n1
      go_wp2_with fail
      refine L1.out.mono ?_
      rintro e W4 ⟨rfl, hg4, hr4⟩
      have hp4 := HP.out.next hg4 hr4
      have k4 := hp4.cell z0
      have f4 := hp4.frozen k
      have s4 := hp4.same z0
      have HP4 := Lib.hid hp4
      clear hg4 hr4 hp4 L1 HP
      have L2 := Lib.hid (rArrays0_any _ _ (w.heap.size + 1 + 1) W4 (by have := HLL.out; simp only [List.length_append]; omega) HP4.out.rd (Nw.cut_net _ _))
      go_wp2_with fail
      refine L2.out.mono ?_
      rintro e W5 ⟨rfl, hg5, hr5⟩
      have hp5 := HP4.out.next hg5 hr5
      clear k4 f4 s4
      have k5 := hp5.cell z1
      have f5 := hp5.frozen (8 + k)
      have s5 := hp5.same z1
      have HP5 := Lib.hid hp5
      clear hg5 hr5 hp5 L2 HP4
      have L3 := Lib.hid (rTags0_any _ _ (w.heap.size + 1 + 1) W5 (by have := HLL.out; simp only [List.length_append]; omega) HP5.out.rd (Nw.cut_net _ _) (HP5.out.ok HT.out))
      go_wp2_with fail
      refine L3.out.mono ?_
      rintro e W6 ⟨rfl, hg6, hr6⟩
      have hp6 := HP5.out.next hg6 hr6
      clear k5 f5 s5
      have k6 := hp6.cell z2
      have f6 := hp6.frozen (16 + k)
      have s6 := hp6.same z2
      have HP6 := Lib.hid hp6
      clear hg6 hr6 hp6 L3 HP5
      have L4 := Lib.hid (rInts0_any _ _ (w.heap.size + 1 + 1) W6 (by have := HLL.out; simp only [List.length_append]; omega) HP6.out.rd (Nw.cut_net _ _))
      go_wp2_with fail
      refine L4.out.mono ?_
      rintro e W7 ⟨rfl, hg7, hr7⟩
      have hp7 := HP6.out.next hg7 hr7
      clear k6 f6 s6
      have k7 := hp7.cell z3
      have f7 := hp7.frozen (24 + k)
      have s7 := hp7.same z3
      have c7 := hp7.rd.cell1
      have HP7 : Hid (PsAt w (chans (8 - (k + 1))) W7) := Lib.hid (by rw [← HC.out]; exact hp7)
      clear hg7 hr7 hp7 L4 HP6
      go_wp2_with fail
      go_roundw
      case rel => exact ⟨k + 1, by omega, by go_num, HP7⟩
      case measure => simp [intOf]; omega
    · obtain rfl : k = 8 := by omega
      have hp := HX.out
      have HB1 := Lib.hid hp.cfg
      have RG := rightC_any zCfg zC wq 0 (z_is _ _) (Nat.zero_le _)
      rw [zCfg_right] at RG
      replace RG := Lib.hid RG
      have TT := Lib.hid (fun (wx : World) (hx : Below wq.heap.size wq wx) => text0_any wx (HT.out.below (hp.bel.trans (hx.mono hp.bel.size))))
      have HP := Lib.hid hp
      clear hp HX
      go_wp2_with (with_reducible refine wpList_load_row rfl 29 (.tmp 4) rfl (w.heap.size + 1) rfl 29 zC (0, 0) _ HB1.out Tryz.underlying29 rfl cfg36 ?_)
      refine RG.out.mono ?_
      rintro e W5 ⟨rfl, hb5⟩
      have hp5 := HP.out.below hb5
      have HB5 := Lib.hid hp5.cfg
      have TT5 := Lib.hid (TT.out W5 hb5)
      have HP5 := Lib.hid hp5
      clear hb5 hp5 RG TT
      go_wp2_with (refine load_rowG rfl 29 (.tmp 4) rfl (w.heap.size + 1) rfl 29 zC (0, 0) _ HB5.out Tryz.underlying29 rfl cfg36 ?_)
      refine TT5.out.mono ?_
      rintro e W6 ⟨rfl, hb6⟩
      unfold sv
      have hp6 := HP5.out.below hb6
      have HB6 := Lib.hid hp6.cfg
      have HR6 := Lib.hid hp6.res
      have HP6 := Lib.hid hp6
      clear hb6 hp6 TT5
      go_wp2_with (first
        | (with_reducible refine wpList_load_row rfl 29 (.tmp 4) rfl (w.heap.size + 1) rfl 29 zC (0, 0) _ HB6.out Tryz.underlying29 rfl cfg36 ?_)
        | (with_reducible refine wpList_store_row rfl 29 (.tmp 2) (.tmp 84) rfl w.heap.size zC rfl rfl 29 zC HR6.out cfg36 rfl zC_one ?_))
      rw [setRow_same HR6.out]
      exact bodyPost_ret (results_cell_row_tmp (by rfl) _ _ w.heap.size 29 zC (0, 0) _ (.int .i64 0) (by rfl) (by rfl) HR6.out Tryz.underlying29 rfl cfg36) rfl ⟨rfl, HP6.out.bel⟩
end Go.Proofs.YtmiccalfamepdaaGreatDoor

/-
  scrimlaw30.awake.
-/
namespace Go.Proofs.YtmiccalfamepdaaGreatDoor
open Go.RowKit Ar
set_option maxHeartbeats 4000000
set_option maxRecDepth 100000
set_option linter.unusedVariables false

theorem lab0_text : Lab.text 0 = [123, 125] := by
  unfold Lab.text
  rw [Lab.pieces_nil (by unfold Lab.tagsFrom; simp)]
  rfl
theorem words3_text : wordsT [0, 0, 0] = [48, 32, 48, 32, 48] := by
  rw [wordsT_two, wordsT_two, wordsT_one, itoa_zero]; rfl
theorem txt0_head : ∃ T, txt0 8 = [49, 52, 58, 115, 99, 114, 105, 109, 32, 99, 111, 110, 102, 105, 103, 32, 49, 44, 53, 58, 48, 32, 48, 32, 48, 44, 50, 58, 123, 125] ++ (44 :: T) := by
  refine ⟨chans 8, ?_⟩
  unfold txt0 pre0 Nw.net
  rw [lab0_text, words3_text, show headL.length = 14 from rfl, show ([48, 32, 48, 32, 48] : List UInt8).length = 5 from rfl, show ([123, 125] : List UInt8).length = 2 from rfl, Lib.decDigits_two (by decide) (by decide), Lib.decDigits_one (by decide), Lib.decDigits_one (by decide)]
  rfl
theorem awake30_any (w : World) (hT : TabsC w) :
    Calls Tryz.prog 7 #[] w fun e w' => e = .returned (.bool true) ∧ Below w.heap.size w w' := by
  obtain ⟨T, hT0⟩ := txt0_head
  have hlen := txt0_len (k := 8) (by omega)
  have TX := Lib.hid (text0_any w hT)
  have PA := Lib.hid (fun (wx : World) (hx : Below w.heap.size w wx) => parse0_any wx (hT.below hx))
  have hsm : sameC zCfg zCfg = true := sameC_refl zCfg
  have SM := fun (wx : World) => sameP_any zCfg zCfg zC zC wx 0 (z_is _ _) (z_is _ _) (Nat.zero_le _)
  rw [hsm] at SM
  replace SM := Lib.hid SM
  have RG := fun (wx : World) => rightC_any zCfg zC wx 0 (z_is _ _) (Nat.zero_le _)
  rw [zCfg_right] at RG
  replace RG := Lib.hid RG
  have hsz : (⟨(txt0 8).toArray⟩ : ByteArray).size = (txt0 8).length := rfl
  have hl31 : 31 ≤ (txt0 8).length := by rw [hT0]; simp
  have hq : decide ((30 : Int) < ((txt0 8).length : Int)) = true := decide_eq_true (by omega)
  have hex : (⟨(txt0 8).toArray⟩ : ByteArray).extract 0 30 = ⟨#[49, 52, 58, 115, 99, 114, 105, 109, 32, 99, 111, 110, 102, 105, 103, 32, 49, 44, 53, 58, 48, 32, 48, 32, 48, 44, 50, 58, 123, 125]⟩ := by
    rw [nw_upto _ _ (by omega), hT0]; rfl
  have hb0 : Below w.heap.size w w := Below.refl _ _
  clear hT hT0 hsm
  go_enter Tryz.func7, Tryz.ntmps7
  go_wp2_with fail
  refine TX.out.mono ?_
  rintro e W1 ⟨rfl, hb1⟩
  unfold sv
  have P1 := Lib.hid (PA.out W1 hb1)
  clear TX PA hb0
  go_wp2_with fail
  refine P1.out.mono ?_
  rintro e W2 ⟨rfl, hb2⟩
  have hb2' := hb1.trans (hb2.mono hb1.size)
  obtain ⟨W3, hW3⟩ : ∃ W3, W3 = W2.alloc (.cells zC 29) := ⟨_, rfl⟩
  have hb3 : Below W2.heap.size W2 W3 := by rw [hW3]; exact (Below.refl _ _).alloc (Nat.le_refl _) _
  have hq3 : W3.heap[W2.heap.size]? = some (.cells zC 29 (0, 0)) := by rw [hW3]; exact heap_alloc_new _ _
  have HW3 := Lib.hid hW3
  have HQ3 := Lib.hid hq3
  have HSR : Hid ((W2.alloc (.cells zC 29)).setRow W2.heap.size zC = W3) := Lib.hid (by rw [← hW3]; exact setRow_same hq3)
  have hbw := hb2'.trans (hb3.mono hb2'.size)
  have HBW := Lib.hid hbw
  have hql : W2.heap.size < W3.heap.size := by rw [hW3]; simp
  clear hW3 hq3 hb1 hb2 hb2' hb3 P1 hbw
  go_upto_region 3 with (with_reducible refine wpList_store_row rfl 29 (.tmp 2) (.tmp 9) rfl W2.heap.size zC rfl rfl 29 zC (heap_alloc_new W2 _) cfg36 rfl zC_one ?_)
  show Code.wp _ _ _ _ ((W2.alloc (.cells zC 29)).setRow W2.heap.size zC)
  rw [HSR.out]
  have SM3 := Lib.hid (SM.out W3)
  go_wp2_with (refine load_rowG rfl 29 (.tmp 2) rfl W2.heap.size rfl 29 zC (0, 0) _ HQ3.out Tryz.underlying29 rfl cfg36 ?_)
  refine SM3.out.mono ?_
  rintro e W4 ⟨rfl, hb4⟩
  have hq4 := (hb4.block _ hql).trans HQ3.out
  have HQ4 := Lib.hid hq4
  have RG4 := Lib.hid (RG.out W4)
  have HBW4 := Lib.hid (HBW.out.trans (hb4.mono HBW.out.size))
  clear hq4 hb4 SM3
  go_wp2_with (refine load_rowG rfl 29 (.tmp 2) rfl W2.heap.size rfl 29 zC (0, 0) _ HQ4.out Tryz.underlying29 rfl cfg36 ?_)
  refine RG4.out.mono ?_
  rintro e W5 ⟨rfl, hb5⟩
  go_wp2_with fail
  go_ret
  exact ⟨by rfl, HBW4.out.trans (hb5.mono HBW4.out.size)⟩
end Go.Proofs.YtmiccalfamepdaaGreatDoor

/-
  The walk of scrimlaw30.ConfigRight. (Printed by wip/bin/gen_cfgright.py.)
-/
namespace Go.Proofs.YtmiccalfamepdaaGreatDoor
open Go.RowKit Ar
set_option maxHeartbeats 8000000
set_option maxRecDepth 100000
set_option linter.unusedVariables false

theorem configRight_walk (cf : Cfg) (C : Array Value) (df : Cfg) (D : Array Value) (w : World) (hC : IsCfg w w.heap.size cf C) (hD : IsCfg w w.heap.size df D) (hT : TabsC w) :
    Calls Tryz.prog 3 #[.agg C, .agg D] w fun e w' => e = .returned (.bool true) ∧ Below w.heap.size w w' := by
  obtain ⟨W, hW⟩ : ∃ W, W = (w.alloc (.cells C 29)).alloc (.cells D 29) := ⟨_, rfl⟩
  have hWs : W.heap.size = w.heap.size + 1 + 1 := by rw [hW]; simp
  have hWb : Below w.heap.size w W := by rw [hW]; exact ((Below.refl _ _).alloc (Nat.le_refl _) _).alloc (by simp) _
  have HG0 : Hid (∀ wx, Below W.heap.size W wx → wx.heap[w.heap.size]? = some (.cells C 29 (0, 0))) := Lib.hid (fun wx hx => (hx.block _ (by omega)).trans (by rw [hW]; exact heap_alloc2_old _ _ _))
  have HG1 : Hid (∀ wx, Below W.heap.size W wx → wx.heap[w.heap.size + 1]? = some (.cells D 29 (0, 0))) := Lib.hid (fun wx hx => (hx.block _ (by omega)).trans (by rw [hW]; exact heap_alloc2_new _ _ _))
  have HI0 : Hid ((Tryz.prog.info? 29).map (·.size) = some C.size) := Lib.hid (by rw [hC.size]; exact (by kernel_rfl))
  have HI1 : Hid ((Tryz.prog.info? 29).map (·.size) = some D.size) := Lib.hid (by rw [hD.size]; exact (by kernel_rfl))
  have hsW : ∀ wx, Below W.heap.size W wx → w.heap.size ≤ wx.heap.size := fun wx hx => Nat.le_trans hWb.size hx.size
  have F0 := Lib.hid (fun (wx : World) (hx : Below W.heap.size W wx) => fewC_any cf C wx w.heap.size (hC.below (hWb.trans (hx.mono hWb.size))) (hsW wx hx))
  have F1 := Lib.hid (fun (wx : World) (hx : Below W.heap.size W wx) => fewC_any df D wx w.heap.size (hD.below (hWb.trans (hx.mono hWb.size))) (hsW wx hx))
  have RP := Lib.hid (fun (wx : World) (hx : Below W.heap.size W wx) => rightC_any cf C wx w.heap.size (hC.below (hWb.trans (hx.mono hWb.size))) (hsW wx hx))
  have RR := Lib.hid (fun (wx : World) (hx : Below W.heap.size W wx) => refRightC_any cf C wx w.heap.size (hC.below (hWb.trans (hx.mono hWb.size))) (hsW wx hx))
  have SP := Lib.hid (fun (wx : World) (hx : Below W.heap.size W wx) => sameP_any cf df C D wx w.heap.size (hC.below (hWb.trans (hx.mono hWb.size))) (hD.below (hWb.trans (hx.mono hWb.size))) (hsW wx hx))
  have SR := Lib.hid (fun (wx : World) (hx : Below W.heap.size W wx) => sameRefC_any cf df C D wx w.heap.size (hC.below (hWb.trans (hx.mono hWb.size))) (hD.below (hWb.trans (hx.mono hWb.size))) (hsW wx hx))
  have SS := fun (wx : World) (hx : Below W.heap.size W wx) => sameP_any cf cf C C wx w.heap.size (hC.below (hWb.trans (hx.mono hWb.size))) (hC.below (hWb.trans (hx.mono hWb.size))) (hsW wx hx)
  rw [sameC_refl] at SS
  replace SS := Lib.hid SS
  have AW := Lib.hid (fun (wx : World) (hx : Below W.heap.size W wx) => awake30_any wx (hT.below (hWb.trans (hx.mono hWb.size))))
  have HW := Lib.hid hW
  have HWS := Lib.hid hWs
  have hgl : w.heap.size + 1 < W.heap.size := by omega
  clear hC hD hW hWs hsW hT
  generalize rightC cf = x at *
  generalize sameC cf df = y at *
  go_enter Tryz.func3, Tryz.ntmps3
  go_upto_region 1 with fail
  rw [← HW.out]
  have hbl : Below W.heap.size W W := Below.refl _ _
  go_wp2_with (with_reducible refine wpList_load_row rfl 29 (.tmp 2) rfl w.heap.size rfl 29 C (0, 0) _ (HG0.out _ hbl) Tryz.underlying29 rfl HI0.out ?_)
  refine (F0.out _ hbl).mono ?_
  rintro e w1 ⟨r, rfl, hb1⟩
  cases r
  · go_wp2_with fail
    refine (AW.out _ hb1).mono ?_
    rintro e w9 ⟨rfl, hb9⟩
    go_wp2_with fail
    go_ret
    exact ⟨rfl, (hWb.trans (hb1.mono hWb.size)).trans (hb9.mono (Nat.le_trans hWb.size hb1.size))⟩
  · go_wp2_with (refine load_rowG rfl 29 (.tmp 3) rfl (w.heap.size + 1) rfl 29 D (0, 0) _ (HG1.out _ hb1) Tryz.underlying29 rfl HI1.out ?_)
    refine (F1.out _ hb1).mono ?_
    rintro e w2 ⟨r, rfl, hb2'⟩
    have hb2 := hb1.trans (hb2'.mono hb1.size)
    clear hb2' hb1
    cases r
    · go_wp2_with fail
      refine (AW.out _ hb2).mono ?_
      rintro e w9 ⟨rfl, hb9⟩
      go_wp2_with fail
      go_ret
      exact ⟨rfl, (hWb.trans (hb2.mono hWb.size)).trans (hb9.mono (Nat.le_trans hWb.size hb2.size))⟩
    · go_upto_region 3 with fail
      have hq : ∀ wx, (∃ v : Later w2, wx = v.w) → Below W.heap.size W wx := by
        rintro _ ⟨v, rfl⟩; exact hb2.trans (v.b.mono hb2.size)
      have HQ0 : Hid (∀ wx, (∃ v : Later w2, wx = v.w) → wx.heap[w.heap.size]? = some (.cells C 29 (0, 0))) := Lib.hid (fun wx h => HG0.out _ (hq wx h))
      have HQ1 : Hid (∀ wx, (∃ v : Later w2, wx = v.w) → wx.heap[w.heap.size + 1]? = some (.cells D 29 (0, 0))) := Lib.hid (fun wx h => HG1.out _ (hq wx h))
      have B1 := Lib.hid (fun (v : Later w2) => RP.out v.w (hq _ ⟨v, rfl⟩))
      have B2 := Lib.hid (fun (v : Later w2) => RR.out v.w (hq _ ⟨v, rfl⟩))
      have B3 := Lib.hid (fun (v : Later w2) => SP.out v.w (hq _ ⟨v, rfl⟩))
      have B4 := Lib.hid (fun (v : Later w2) => SR.out v.w (hq _ ⟨v, rfl⟩))
      have B5 := Lib.hid (fun (v : Later w2) => SS.out v.w (hq _ ⟨v, rfl⟩))
      have B6 := Lib.hid (fun (v : Later w2) => AW.out v.w (hq _ ⟨v, rfl⟩))
      clear hq RP RR SP SR SS AW HG0 HG1
      refine wp_region_later w2 (by kernel_rfl) (by kernel_rfl) (Below.drew_self w2) ?_
      cases x <;> cases y
      all_goals
        refine wpQuiet_load_row rfl 29 (.tmp 2) rfl w.heap.size rfl 29 C (0, 0) _ HQ0.out Tryz.underlying29 rfl HI0.out ?_
        intro a' ha'
        simp [Act.put] at ha'
        subst ha'
        iterate 1 (go_big_quiet_step ((go_at_call 8; exact Later.call (B1.out _))))
        refine wpQuiet_load_row rfl 29 (.tmp 2) rfl w.heap.size rfl 29 C (0, 0) _ HQ0.out Tryz.underlying29 rfl HI0.out ?_
        intro a' ha'
        simp [Act.put] at ha'
        subst ha'
        iterate 3 (go_big_quiet_step ((go_at_call 9; exact Later.call (B2.out _))))
        refine wpQuiet_load_row rfl 29 (.tmp 2) rfl w.heap.size rfl 29 C (0, 0) _ HQ0.out Tryz.underlying29 rfl HI0.out ?_
        intro a' ha'
        simp [Act.put] at ha'
        subst ha'
        refine wpQuiet_load_row rfl 29 (.tmp 3) rfl (w.heap.size + 1) rfl 29 D (0, 0) _ HQ1.out Tryz.underlying29 rfl HI1.out ?_
        intro a' ha'
        simp [Act.put] at ha'
        subst ha'
        iterate 1 (go_big_quiet_step ((go_at_call 10; exact Later.call (B3.out _))))
        refine wpQuiet_load_row rfl 29 (.tmp 2) rfl w.heap.size rfl 29 C (0, 0) _ HQ0.out Tryz.underlying29 rfl HI0.out ?_
        intro a' ha'
        simp [Act.put] at ha'
        subst ha'
        refine wpQuiet_load_row rfl 29 (.tmp 3) rfl (w.heap.size + 1) rfl 29 D (0, 0) _ HQ1.out Tryz.underlying29 rfl HI1.out ?_
        intro a' ha'
        simp [Act.put] at ha'
        subst ha'
        iterate 4 (go_big_quiet_step ((go_at_call 11; exact Later.call (B4.out _))))
        refine wpQuiet_load_row rfl 29 (.tmp 2) rfl w.heap.size rfl 29 C (0, 0) _ HQ0.out Tryz.underlying29 rfl HI0.out ?_
        intro a' ha'
        simp [Act.put] at ha'
        subst ha'
        refine wpQuiet_load_row rfl 29 (.tmp 2) rfl w.heap.size rfl 29 C (0, 0) _ HQ0.out Tryz.underlying29 rfl HI0.out ?_
        intro a' ha'
        simp [Act.put] at ha'
        subst ha'
        iterate 3 (go_big_quiet_step ((go_at_call 10; exact Later.call (B5.out _))))
        repeat (go_big_quiet_step ((go_at_call 7; exact Later.call (B6.out _))))
        refine wpQuiet_nil ?_
        rintro w4 ⟨⟨w4', hb4'⟩, hw4⟩
        obtain rfl : w4 = w4' := hw4
        have hb4 := hb2.trans (hb4'.mono hb2.size)
        go_wp2_with fail
        go_ret
        exact ⟨rfl, hWb.trans (hb4.mono hWb.size)⟩
end Go.Proofs.YtmiccalfamepdaaGreatDoor

/-
  From the rows' condition on listed variables (seven variables) to the tables that the walks of chapter 30 ask; a world that meets it.
-/
namespace Go.Proofs.YtmiccalfamepdaaGreatDoor
open Go.ChangeShapes Go.WideShapes Go.ChangeAt Go.RowKit

theorem gPow : Tryz.prog.globalNamed "internal/strconv.uint64pow10" = some 1 := by kernel_rfl
theorem tPow : (Tryz.prog.globals[1]?).map (·.type) = some 201 := by kernel_rfl
theorem cPow : Tryz.prog.cellsOf 201 = 20 := by kernel_rfl
theorem cWord : Tryz.prog.cellsOf 22 = 1 := by kernel_rfl
theorem gTab64 : Tryz.prog.globalNamed "math/bits.deBruijn64tab" = some 0 := by kernel_rfl
theorem tTab64 : (Tryz.prog.globals[0]?).map (·.type) = some 141 := by kernel_rfl
theorem cTab64 : Tryz.prog.cellsOf 141 = 64 := by kernel_rfl
theorem cByte : Tryz.prog.cellsOf 5 = 1 := by kernel_rfl

def laidN : List (String × DataW Unit) := [("math/bits.deBruijn32tab", Rows.laid_math_bits_deBruijn32tab), ("math/bits.deBruijn64tab", Rows.laid_math_bits_deBruijn64tab), ("internal/strconv.uint64pow10", Rows.laid_internal_strconv_uint64pow10), ("unicode/utf8.acceptRanges", Rows.laid_unicode_utf8_acceptRanges), ("strconv.ErrRange", Rows.laid_strconv_ErrRange), ("strconv.ErrSyntax", Rows.laid_strconv_ErrSyntax), ("unicode/utf8.first", Rows.laid_unicode_utf8_first)]
theorem door_met (os : Os) (args : Array Value) : laidMetH Tryz.prog laidN ((World.laidAll Tryz.prog os laidN).forCall (fun _ _ => 0) ⟨#[], args, []⟩).memory := by
  rw [MakeChecks.laidMetH_plain _ _ _ (by kernel_rfl)]
  exact laidMet_laidAll _ (by kernel_rfl) (by kernel_rfl)
theorem of_laid {W : World} (h : laidMetH Tryz.prog laidN W) : TabsC W := by
  rw [MakeChecks.laidMetH_plain _ _ _ (by kernel_rfl)] at h
  have h1 := h.tail
  have h2 := h.tail.tail
  have hP := Lib.tabIs_of_head (k := .u64) (zs := Lib.pow10Tab) gPow tPow Tryz.underlying201 Tryz.underlying22 cWord cPow h2
  have hT := Lib.tabIs_of_head (k := .u8) (zs := Lib.deBruijn64tab.map fun n : Nat => (n : Int)) gTab64 tTab64 Tryz.underlying141 Tryz.underlying5 cByte cTab64 h1
  have hc : Tab64 W := fun j hj => by
    have := hT.cell gTab64 j (by simpa using hj)
    rw [this]
    congr 2
    simp [List.getD_eq_getElem?_getD, List.getElem?_map]
    cases Lib.deBruijn64tab[j]? <;> simp
  refine ⟨⟨hP, fun g e => ?_⟩, hc, World.block_lt_of_cell? W _ (hc 0 (by decide))⟩
  obtain rfl := Option.some.inj (gPow.symm.trans e)
  exact World.block_lt_of_cell? W _ (hP.cell gPow 0 (by decide))
end Go.Proofs.YtmiccalfamepdaaGreatDoor
