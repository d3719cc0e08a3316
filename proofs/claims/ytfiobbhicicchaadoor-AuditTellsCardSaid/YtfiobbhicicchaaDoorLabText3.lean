/-
  What scrimref01.Text computes, for every label.
-/
import Derived.Test.YtfiobbhicicchaaDoorLabText2
import Derived.Test.YtfiobbhicicchaaDoorParseMath2
import Derived.Test.YtfiobbhicicchaaDoorLabRef
namespace Go.Proofs.YtfiobbhicicchaaDoor
open Go.RowKit
set_option maxHeartbeats 1000000
set_option maxRecDepth 100000
set_option linter.unusedVariables false

theorem pieces_skip {l t : Nat} (h : t < 64) (hb : l.testBit t = false) : Lab.pieces l t = Lab.pieces l (t + 1) := by
  rw [Lab.pieces, Lab.runs, dif_pos h, if_neg (by simp [hb])]; rfl
theorem pieces_take {l t : Nat} (h : t < 64) (hb : l.testBit t = true) : Lab.pieces l t = Lab.piece (t, Lab.last l t) ++ Lab.pieces l (Lab.last l t + 1) := by
  rw [Lab.pieces, Lab.runs, dif_pos h, if_pos hb, List.flatMap_cons]; rfl
theorem pieces_end {l t : Nat} (h : 64 ≤ t) : Lab.pieces l t = [] := by
  rw [Lab.pieces, Lab.runs, dif_neg (by omega)]; rfl
/-- What has been written so far. -/
def TextAt (l t : Nat) (J : List UInt8) : Prop := ∃ ps : List (List UInt8), J = Lib.join ps [44] ∧ ps ++ Lab.pieces l t = Lab.pieces l 0
theorem TextAt.len {l t : Nat} {J : List UInt8} (hl : l < 18446744073709551616) (h : TextAt l t J) : J.length ≤ 384 := by
  obtain ⟨ps, rfl, h⟩ := h
  have hp := Lab.pieces_len hl 0
  have hc := Lab.pieces_count hl 64 0 (by omega)
  have := Lab.join_len_le ps (fun x hx => (hp x (by rw [← h]; exact List.mem_append_left _ hx)).2)
  have h2 : ps.length ≤ (Lab.pieces l 0).length := by rw [← h]; simp
  omega
/-- A list of bytes with a comma ahead of what comes. -/
def withComma (J x : List UInt8) : List UInt8 := if J = [] then x else J ++ 44 :: x
theorem join_more {ps : List (List UInt8)} (h : ∀ x ∈ ps, 1 ≤ x.length) (x : List UInt8) : Lib.join (ps ++ [x]) [44] = withComma (Lib.join ps [44]) x := by
  rw [Lab.join_snoc, withComma]
  have := Lab.join_eq_nil h
  by_cases e : ps = []
  · subst e; simp [Lib.join_nil]
  · rw [if_neg e, if_neg (fun h => e (this.1 h))]; rfl
theorem TextAt.skip {l t : Nat} {J : List UInt8} (h : TextAt l t J) (ht : t < 64) (hb : l.testBit t = false) : TextAt l (t + 1) J := by
  obtain ⟨ps, e, h⟩ := h
  exact ⟨ps, e, by rw [← pieces_skip ht hb]; exact h⟩
theorem TextAt.one {l t : Nat} {J : List UInt8} (hl : l < 18446744073709551616) (h : TextAt l t J) (ht : t < 64) (hb : l.testBit t = true) (hk : Lab.last l t = t) : TextAt l (t + 1) (withComma J (Lib.decDigits t)) := by
  obtain ⟨ps, rfl, h⟩ := h
  have hp := Lab.pieces_len hl 0
  refine ⟨ps ++ [Lib.decDigits t], (join_more (fun x hx => (hp x (by rw [← h]; exact List.mem_append_left _ hx)).1) _).symm, ?_⟩
  rw [pieces_take ht hb, hk] at h
  rw [← h]
  simp [Lab.piece]
theorem TextAt.two {l t : Nat} {J : List UInt8} (hl : l < 18446744073709551616) (h : TextAt l t J) (ht : t < 64) (hb : l.testBit t = true) (hk : Lab.last l t = t + 1) : TextAt l (t + 1 + 1) (withComma J (Lib.decDigits t) ++ 44 :: Lib.decDigits (t + 1)) := by
  obtain ⟨ps, rfl, h⟩ := h
  have hp := Lab.pieces_len hl 0
  have h1 : ∀ x ∈ ps, 1 ≤ x.length := fun x hx => (hp x (by rw [← h]; exact List.mem_append_left _ hx)).1
  have h2 : ∀ x ∈ ps ++ [Lib.decDigits t], 1 ≤ x.length := fun x hx => by
    rcases List.mem_append.1 hx with hx | hx
    · exact h1 x hx
    · simp at hx; subst hx; exact (Lab.dec_len ht).1
  refine ⟨ps ++ [Lib.decDigits t] ++ [Lib.decDigits (t + 1)], ?_, ?_⟩
  · rw [join_more h2, join_more h1]
    have hne : withComma (Lib.join ps [44]) (Lib.decDigits t) ≠ [] := by
      unfold withComma
      split
      · intro e; have := (Lab.dec_len ht).1; rw [e] at this; simp at this
      · simp
    generalize withComma (Lib.join ps [44]) (Lib.decDigits t) = K at hne ⊢
    rw [withComma, if_neg hne]
  · rw [pieces_take ht hb, hk] at h
    rw [← h]
    simp [Lab.piece]
theorem TextAt.more {l t : Nat} {J : List UInt8} (hl : l < 18446744073709551616) (h : TextAt l t J) (ht : t < 64) (hb : l.testBit t = true) (hk : t + 1 < Lab.last l t) : TextAt l (Lab.last l t + 1) (withComma J (Lib.decDigits t) ++ 45 :: Lib.decDigits (Lab.last l t)) := by
  obtain ⟨ps, rfl, h⟩ := h
  have hp := Lab.pieces_len hl 0
  refine ⟨ps ++ [Lib.decDigits t ++ 45 :: Lib.decDigits (Lab.last l t)], ?_, ?_⟩
  · rw [join_more (fun x hx => (hp x (by rw [← h]; exact List.mem_append_left _ hx)).1), withComma, withComma]
    split <;> simp
  · rw [pieces_take ht hb] at h
    rw [← h]
    have e : Lab.piece (t, Lab.last l t) = [Lib.decDigits t ++ 45 :: Lib.decDigits (Lab.last l t)] := by
      unfold Lab.piece; rw [if_neg (by simp; omega), if_neg (by simp; omega)]
    rw [e]; simp
theorem TextAt.done {l : Nat} {J : List UInt8} (h : TextAt l 64 J) : 123 :: (J ++ [125]) = Lab.text l := by
  obtain ⟨ps, rfl, h⟩ := h
  rw [pieces_end (by omega), List.append_nil] at h
  rw [h]; rfl
theorem last_next {l t k : Nat} (hl : l < 18446744073709551616) (hb : l.testBit t = true) (h1 : t ≤ k) (h2 : k ≤ Lab.last l t) : (l.testBit (k + 1) = true ↔ k < Lab.last l t) := by
  constructor
  · intro h
    rcases Nat.lt_or_ge k (Lab.last l t) with h3 | h3
    · exact h3
    · have : k = Lab.last l t := by omega
      subst this
      rw [Lab.last_stop hl] at h; cases h
  · intro h
    exact Lab.last_bits hb (k + 1) (by omega) (by omega)

theorem refText_any (l : Nat) (w : World) (hl : l < 18446744073709551616) :
    Calls Tryd.prog 33 #[.int .u64 (l : Int)] w fun e w' => e = .returned (strV (Lab.text l)) ∧ w = w' := by
  go_enter Tryd.func33, Tryd.ntmps33
  go_wp2_with fail
  go_loop [3, 4, 5] (fun sv tv kv => ∃ (t : Nat) (J : List UInt8), t ≤ 64 ∧ tv = .int .i64 (t : Int) ∧ sv = .string ⟨J.toArray⟩ ∧ J.length ≤ 384 ∧ Hid (TextAt l t J)) (fun _ tv _ => 64 - (intOf tv).toNat)
  case atStart => exact ⟨0, [], by omega, rfl, rfl, by simp, Lib.hid ⟨[], rfl, rfl⟩⟩
  case round =>
    obtain ⟨t, J, ht, rfl, rfl, hJ, H⟩ := hrel
    by_cases h64 : t < 64
    · cases hb : l.testBit t
      · have HA := Lib.hid (has_any l t w hl (by omega))
        have HB := Lib.hid hb
        rw [hb] at HA
        clear hb
        go_wp2_with (go_at_call 25; refine HA.out.mono ?_; rintro e w' ⟨rfl, rfl⟩)
        exact ⟨⟨t + 1, J, by omega, by go_num, rfl, hJ, Lib.hid (H.out.skip h64 HB.out)⟩, by simp [intOf]; omega⟩
      · have HA := Lib.hid (has_any l t w hl (by omega))
        have HB := Lib.hid hb
        rw [hb] at HA
        have hge := Lab.last_ge l t
        have hlt := Lab.last_lt hl hb
        clear hb
        go_wp2_with (go_at_call 25; refine HA.out.mono ?_; rintro e w' ⟨rfl, rfl⟩)
        go_loop [5] (fun kv => ∃ k : Nat, t ≤ k ∧ k ≤ Lab.last l t ∧ kv = .int .i64 (k : Int)) (fun kv => 64 - (intOf kv).toNat)
        case atStart => exact ⟨t, Nat.le_refl _, hge, rfl⟩
        case round =>
          obtain ⟨k, hk1, hk2, rfl⟩ := hrel
          have HN := Lib.hid (last_next hl HB.out hk1 hk2)
          have HK := Lib.hid (has_any l (k + 1) w hl (by omega))
          rw [show ((k + 1 : Nat) : Int) = (k : Int) + 1 by omega] at HK
          by_cases hk : k < Lab.last l t
          · rw [HN.out.2 hk] at HK
            have h63 : k < 63 := by omega
            go_wp2_with (go_at_call 25; refine HK.out.mono ?_; rintro e w' ⟨rfl, rfl⟩)
            go_round
            case rel => exact ⟨k + 1, by omega, by omega, by go_num⟩
            case measure => simp [intOf]; omega
          · have hke : k = Lab.last l t := by omega
            have hf : l.testBit (k + 1) = false := by
              cases e : l.testBit (k + 1)
              · rfl
              · exact absurd (HN.out.1 e) hk
            rw [hf] at HK
            have HKE := Lib.hid hke
            clear hf hke hk HN
            have HT1 : Hid (k = t → TextAt l (t + 1) (withComma J (Lib.decDigits t))) := Lib.hid (fun h => H.out.one hl h64 HB.out (by rw [← HKE.out, h]))
            have HT2 : Hid (k = t + 1 → TextAt l (t + 1 + 1) (withComma J (Lib.decDigits t) ++ 44 :: Lib.decDigits (t + 1))) := Lib.hid (fun h => H.out.two hl h64 HB.out (by rw [← HKE.out, h]))
            have HT3 : Hid (t + 1 < k → TextAt l (k + 1) (withComma J (Lib.decDigits t) ++ 45 :: Lib.decDigits k)) := Lib.hid (fun h => by have := H.out.more hl h64 HB.out (by rw [← HKE.out]; exact h); rw [← HKE.out] at this; exact this)
            have DT := Lib.hid (decimal_any t w (by omega))
            have DK := Lib.hid (decimal_any k w (by omega))
            rw [strV] at DT DK
            have hdt := (Lab.dec_len h64).2
            have hdk := (Lab.dec_len (show k < 64 by omega)).2
            generalize Lib.decDigits t = dt at *
            have h3 : k = t ∨ k = t + 1 ∨ t + 1 < k := by omega
            have hj2 : ∀ b J', J = b :: J' → J'.length ≤ 383 := fun b J' e => by subst e; rw [List.length_cons] at hJ; omega
            rcases h3 with h3 | h3 | h3
            · have HX : Hid (TextAt l (k + 1) (withComma J dt)) := Lib.hid (by rw [h3]; exact HT1.out h3)
              have hkt : k ≤ t := by omega
              have HL := Lib.hid (HX.out.len hl)
              clear h3 HT1 HT2 HT3 DK
              rcases J with _ | ⟨b, J'⟩
              all_goals
                try (have hj3 := hj2 _ _ rfl)
                clear hj2
                by_cases h63 : k < 63
                all_goals
                  go_wp2_with (first | (go_at_call 25; refine HK.out.mono ?_; rintro e w' ⟨rfl, rfl⟩) | (go_at_call_of 34 (Value.int .i64 (t : Int)); refine DT.out.mono ?_; rintro e w' ⟨rfl, rfl⟩) | (go_at_call_of 34 (Value.int .i64 (k : Int)); refine DK.out.mono ?_; rintro e w' ⟨rfl, rfl⟩))
                  exact ⟨⟨k + 1, _, by omega, by go_num, congrArg Value.string (by apply ByteArray.ext; simp [withComma]), HL.out, HX⟩, by simp [intOf]; omega⟩
            · have HX : Hid (TextAt l (k + 1) (withComma J dt ++ 44 :: Lib.decDigits k)) := Lib.hid (by rw [h3]; exact HT2.out h3)
              have hkt : k ≤ t + 1 := by omega
              have hkt2 : t + 1 ≤ k := by omega
              have HL := Lib.hid (HX.out.len hl)
              generalize Lib.decDigits k = dk at *
              clear h3 HT1 HT2 HT3
              rcases J with _ | ⟨b, J'⟩
              all_goals
                try (have hj3 := hj2 _ _ rfl)
                clear hj2
                by_cases h63 : k < 63
                all_goals
                  go_wp2_with (first | (go_at_call 25; refine HK.out.mono ?_; rintro e w' ⟨rfl, rfl⟩) | (go_at_call_of 34 (Value.int .i64 (t : Int)); refine DT.out.mono ?_; rintro e w' ⟨rfl, rfl⟩) | (go_at_call_of 34 (Value.int .i64 (k : Int)); refine DK.out.mono ?_; rintro e w' ⟨rfl, rfl⟩))
                  exact ⟨⟨k + 1, _, by omega, by go_num, congrArg Value.string (by apply ByteArray.ext; simp [withComma]), HL.out, HX⟩, by simp [intOf]; omega⟩
            · have HX : Hid (TextAt l (k + 1) (withComma J dt ++ 45 :: Lib.decDigits k)) := Lib.hid (HT3.out h3)
              have hkt2 : t + 1 < k := h3
              have HL := Lib.hid (HX.out.len hl)
              generalize Lib.decDigits k = dk at *
              clear h3 HT1 HT2 HT3
              rcases J with _ | ⟨b, J'⟩
              all_goals
                try (have hj3 := hj2 _ _ rfl)
                clear hj2
                by_cases h63 : k < 63
                all_goals
                  go_wp2_with (first | (go_at_call 25; refine HK.out.mono ?_; rintro e w' ⟨rfl, rfl⟩) | (go_at_call_of 34 (Value.int .i64 (t : Int)); refine DT.out.mono ?_; rintro e w' ⟨rfl, rfl⟩) | (go_at_call_of 34 (Value.int .i64 (k : Int)); refine DK.out.mono ?_; rintro e w' ⟨rfl, rfl⟩))
                  exact ⟨⟨k + 1, _, by omega, by go_num, congrArg Value.string (by apply ByteArray.ext; simp [withComma]), HL.out, HX⟩, by simp [intOf]; omega⟩
    · have ht64 : t = 64 := by omega
      subst ht64
      have HD := Lib.hid H.out.done
      have hno1 : (9223372036854775807 < 1 + J.length) = False := by simp; omega
      have hno2 : (9223372036854775807 < 1 + J.length + 1) = False := by simp; omega
      go_wp2_with fail
      go_ret
      refine ⟨?_, rfl⟩
      rw [← HD.out]
      exact congrArg (fun s => Ending.returned (.string s)) (str_braces J)
end Go.Proofs.YtfiobbhicicchaaDoor
