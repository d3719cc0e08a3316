/-
  The walk of the law LabelTexts.
-/
import Derived.Test.YtaaapjoopchgiaaDoorLabAwake
import Derived.Test.YtaaapjoopchgiaaDoorLabParse5
namespace Go.Proofs.YtaaapjoopchgiaaDoor
open Go.RowKit
set_option maxHeartbeats 1000000
set_option maxRecDepth 100000
set_option linter.unusedVariables false

theorem labelTexts_list (l : Nat) (s : List UInt8) (w : World) (hl : l < 18446744073709551616) (hT : Tab64 w) (hB : 1 < w.heap.size) :
    Calls Tryd.prog 10 #[.int .u64 (l : Int), .string ⟨s.toArray⟩] w fun e w' => e = .returned (.bool true) ∧ Below w.heap.size w w' := by
  have HT := Lib.hid hT
  clear hT
  go_enter Tryd.func10, Tryd.ntmps10
  by_cases hlong : 400 < s.length
  · go_wp2_with fail
    rw [show (⟨s.toArray⟩ : ByteArray).extract 0 400 = ⟨(s.take 400).toArray⟩ from by
      apply ByteArray.ext; simp]
    obtain ⟨S, hS⟩ : ∃ S, S = s.take 400 := ⟨_, rfl⟩
    have hSl : S.length ≤ 400 := by rw [hS, List.length_take]; omega
    rw [← hS]
    clear hS
    refine (text_any l w hl HT.out hB).mono ?_
    rintro e w1 ⟨rfl, hb1⟩
    have hT1 := Lib.hid (HT.out.below hB hb1)
    have hz1 := hb1.size
    have HTX := Lib.hid (Lab.text_len hl)
    have RT := Lib.hid (refText_any l)
    have PA := Lib.hid (parse_any (Lab.text l) w1 (by have := HTX.out; omega) hT1.out (by omega))
    have PT : Hid (∀ x ok, Lab.Spec (Lab.text l) x ok → x = l ∧ ok = true) := Lib.hid (fun x ok h => Lab.Spec.of_text hl h)
    rw [strV]
    rw [strV] at RT
    obtain ⟨T, hTe⟩ : ∃ T, T = Lab.text l := ⟨_, rfl⟩
    rw [← hTe] at RT PA PT ⊢
    clear hTe HTX
    go_wp2_with fail
    refine PA.out.mono ?_
    rintro e w2 ⟨hb2, x0, ok0, rfl, hsp⟩
    obtain ⟨hx0, hok0⟩ := PT.out x0 ok0 hsp
    subst hx0 hok0
    rw [if_pos rfl]
    clear hsp PT PA
    have hT2 := Lib.hid (hT1.out.below (by omega) hb2)
    have hz2 := hb2.size
    go_wp2_with (go_at_call 38; refine (RT.out w2 hl).mono ?_; rintro e w' ⟨rfl, rfl⟩)
    refine (parse_any S w2 (by omega) hT2.out (by omega)).mono ?_
    rintro e w3 ⟨hb3, x, ok, rfl, hsp⟩
    have hT3 := Lib.hid (hT2.out.below (by omega) hb3)
    have hz3 := hb3.size
    have HSP := Lib.hid hsp
    clear hsp
    have hb13 : Below w.heap.size w w3 := (hb1.trans (hb2.mono (by omega))).trans (hb3.mono (by omega))
    cases ok with
    | false =>
      rw [show (if (false = true) then (0 : Int) else 15) = 15 from rfl]
      go_wp2_with fail
      refine (refParse_any S w3 (by omega)).mono ?_
      rintro e w' ⟨rfl, y, ok2, rfl, hsp2⟩
      obtain ⟨hxy, hok⟩ := HSP.out.unique hsp2
      subst hxy
      obtain rfl := hok
      clear hsp2
      clear HSP
      go_wp2_with fail
      refine (awake_any w3 hT3.out (by omega)).mono ?_
      rintro e w5 ⟨rfl, hb5⟩
      go_wp2_with fail
      go_ret
      exact ⟨rfl, hb13.trans (hb5.mono (by omega))⟩
    | true =>
      rw [show (if (true = true) then (0 : Int) else 15) = 0 from rfl]
      go_wp2_with fail
      refine (refParse_any S w3 (by omega)).mono ?_
      rintro e w' ⟨rfl, y, ok2, rfl, hsp2⟩
      obtain ⟨hxy, hok⟩ := HSP.out.unique hsp2
      subst hxy
      obtain rfl := hok
      clear hsp2
      have hx : x < 18446744073709551616 ∧ S = Lab.text x := by
        rcases HSP.out with ⟨_, h1, h2⟩ | ⟨h, _⟩
        · exact ⟨h1, h2⟩
        · cases h
      obtain ⟨hxl, hse⟩ := hx
      have TX := Lib.hid (text_any x w3 hxl hT3.out (by omega))
      rw [← hse, strV] at TX
      clear hse HSP
      go_wp2_with fail
      refine TX.out.mono ?_
      rintro e w4 ⟨rfl, hb4⟩
      have hT4 := Lib.hid (hT3.out.below (by omega) hb4)
      have hz4 := hb4.size
      have hb14 : Below w.heap.size w w4 := hb13.trans (hb4.mono (by omega))
      go_wp2_with fail
      refine (awake_any w4 hT4.out (by omega)).mono ?_
      rintro e w5 ⟨rfl, hb5⟩
      go_wp2_with fail
      go_ret
      exact ⟨rfl, hb14.trans (hb5.mono (by omega))⟩
  · go_wp2_with fail
    refine (text_any l w hl HT.out hB).mono ?_
    rintro e w1 ⟨rfl, hb1⟩
    have hT1 := Lib.hid (HT.out.below hB hb1)
    have hz1 := hb1.size
    have HTX := Lib.hid (Lab.text_len hl)
    have RT := Lib.hid (refText_any l)
    have PA := Lib.hid (parse_any (Lab.text l) w1 (by have := HTX.out; omega) hT1.out (by omega))
    have PT : Hid (∀ x ok, Lab.Spec (Lab.text l) x ok → x = l ∧ ok = true) := Lib.hid (fun x ok h => Lab.Spec.of_text hl h)
    rw [strV]
    rw [strV] at RT
    obtain ⟨T, hTe⟩ : ∃ T, T = Lab.text l := ⟨_, rfl⟩
    rw [← hTe] at RT PA PT ⊢
    clear hTe HTX
    go_wp2_with fail
    refine PA.out.mono ?_
    rintro e w2 ⟨hb2, x0, ok0, rfl, hsp⟩
    obtain ⟨hx0, hok0⟩ := PT.out x0 ok0 hsp
    subst hx0 hok0
    rw [if_pos rfl]
    clear hsp PT PA
    have hT2 := Lib.hid (hT1.out.below (by omega) hb2)
    have hz2 := hb2.size
    go_wp2_with (go_at_call 38; refine (RT.out w2 hl).mono ?_; rintro e w' ⟨rfl, rfl⟩)
    refine (parse_any s w2 (by omega) hT2.out (by omega)).mono ?_
    rintro e w3 ⟨hb3, x, ok, rfl, hsp⟩
    have hT3 := Lib.hid (hT2.out.below (by omega) hb3)
    have hz3 := hb3.size
    have HSP := Lib.hid hsp
    clear hsp
    have hb13 : Below w.heap.size w w3 := (hb1.trans (hb2.mono (by omega))).trans (hb3.mono (by omega))
    cases ok with
    | false =>
      rw [show (if (false = true) then (0 : Int) else 15) = 15 from rfl]
      go_wp2_with fail
      refine (refParse_any s w3 (by omega)).mono ?_
      rintro e w' ⟨rfl, y, ok2, rfl, hsp2⟩
      obtain ⟨hxy, hok⟩ := HSP.out.unique hsp2
      subst hxy
      obtain rfl := hok
      clear hsp2
      clear HSP
      go_wp2_with fail
      refine (awake_any w3 hT3.out (by omega)).mono ?_
      rintro e w5 ⟨rfl, hb5⟩
      go_wp2_with fail
      go_ret
      exact ⟨rfl, hb13.trans (hb5.mono (by omega))⟩
    | true =>
      rw [show (if (true = true) then (0 : Int) else 15) = 0 from rfl]
      go_wp2_with fail
      refine (refParse_any s w3 (by omega)).mono ?_
      rintro e w' ⟨rfl, y, ok2, rfl, hsp2⟩
      obtain ⟨hxy, hok⟩ := HSP.out.unique hsp2
      subst hxy
      obtain rfl := hok
      clear hsp2
      have hx : x < 18446744073709551616 ∧ s = Lab.text x := by
        rcases HSP.out with ⟨_, h1, h2⟩ | ⟨h, _⟩
        · exact ⟨h1, h2⟩
        · cases h
      obtain ⟨hxl, hse⟩ := hx
      have TX := Lib.hid (text_any x w3 hxl hT3.out (by omega))
      rw [← hse, strV] at TX
      clear hse HSP
      go_wp2_with fail
      refine TX.out.mono ?_
      rintro e w4 ⟨rfl, hb4⟩
      have hT4 := Lib.hid (hT3.out.below (by omega) hb4)
      have hz4 := hb4.size
      have hb14 : Below w.heap.size w w4 := hb13.trans (hb4.mono (by omega))
      go_wp2_with fail
      refine (awake_any w4 hT4.out (by omega)).mono ?_
      rintro e w5 ⟨rfl, hb5⟩
      go_wp2_with fail
      go_ret
      exact ⟨rfl, hb14.trans (hb5.mono (by omega))⟩
theorem labelTexts_walk (l : Nat) (a : ByteArray) (w : World) (hl : l < 18446744073709551616) (_ : a.size ≤ maxLen) (hT : Tab64 w) (hB : 1 < w.heap.size) :
    Calls Tryd.prog 10 #[.int .u64 (l : Int), .string a] w fun e w' => e = .returned (.bool true) ∧ Below w.heap.size w w' := by
  have := labelTexts_list l a.data.toList w hl hT hB
  rwa [show (⟨a.data.toList.toArray⟩ : ByteArray) = a from rfl] at this
end Go.Proofs.YtaaapjoopchgiaaDoor
