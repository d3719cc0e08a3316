/-
  The walk of the law NatTexts.
-/
import Derived.Test.YtgicgmaiolfpkaaDoorNatTxt2
import Derived.Test.YtgicgmaiolfpkaaDoorNatAwake
import Derived.Test.YtgicgmaiolfpkaaDoorNatIn
namespace Go.Proofs.YtgicgmaiolfpkaaDoor
open Go.RowKit
set_option maxHeartbeats 1000000
set_option maxRecDepth 100000
set_option linter.unusedVariables false

theorem few_any (A : Option Addr) (c : Nat) (l : List Nat) (w : World) (hc : l.length ≤ c) (hm : c ≤ 9223372036854775807) :
    Calls Tryd.prog 4 #[.slice A l.length c] w fun e w' => e = .returned (.slice A (l.take 40).length c) ∧ w = w' := by
  by_cases h : 40 < l.length
  · have HE : Hid ((l.take 40).length = 40) := Lib.hid (by rw [List.length_take]; omega)
    go_enter Tryd.func4, Tryd.ntmps4
    go_wp2_with fail
    go_ret
    exact ⟨by rw [HE.out]; rfl, rfl⟩
  · have HE : Hid ((l.take 40).length = l.length) := Lib.hid (by rw [List.length_take]; omega)
    go_enter Tryd.func4, Tryd.ntmps4
    go_wp2_with fail
    go_ret
    exact ⟨by rw [HE.out]; rfl, rfl⟩

/-- Two numbers that calls handed back, the same ones. -/
theorem same_res {w0 w : World} {v1 v2 : Value} {n : Nat} (h1 : IsRes w v1 (Nt.digs n)) (h2 : IsRes w v2 (Nt.digs n)) (hb : Below w0.heap.size w0 w) :
    Calls Tryd.prog 8 #[v1, v2] w fun e w' => e = .returned (.bool true) ∧ Below w0.heap.size w0 w' ∧ Below w.heap.size w w' := by
  obtain ⟨A, c, rfl, a1, a2, a3, a4⟩ := h1
  obtain ⟨A', c', rfl, b1, b2, b3, b4⟩ := h2
  refine (same_any A A' c c' w.heap.size w.heap.size (Nt.digs n) (Nt.digs n) w a4 b4 (by omega) (by omega)).mono ?_
  rintro e w' ⟨rfl, k, rfl⟩
  have hb1 : Below w.heap.size w (w.drewN k) := ⟨rfl, rfl, rfl, Nat.le_refl _, fun _ _ => rfl⟩
  exact ⟨by simp, hb.trans (hb1.mono hb.size), hb1⟩


theorem natTexts_list (a0 : Option Addr) (len0 cap0 : Nat) (z0 : List Nat) (s : List UInt8) (w : World) (w0 : IsLimbs w a0 len0 cap0 z0)
    (htab : Lib.TabIs Tryd.prog w "internal/strconv.uint64pow10" .u64 Lib.pow10Tab) (hg : ∀ g, Tryd.prog.globalNamed "internal/strconv.uint64pow10" = some g → g < w.heap.size) :
    Calls Tryd.prog 3 #[.slice a0 len0 cap0, .string ⟨s.toArray⟩] w fun e w' => e = .returned (.bool true) ∧ Below w.heap.size w w' := by
  obtain ⟨hn0, hc0, hm0, hA0, hl0, ho0⟩ := w0
  subst hn0
  have F0 := Lib.hid (few_any a0 cap0 z0 w hc0 hm0)
  have L0 : Lies w w.heap.size a0 (U (z0.take 40)) := by rw [← U_take]; exact hl0.take 40
  have O0 := Nt.ok_take ho0 40
  have h40 : (z0.take 40).length ≤ 40 := by rw [List.length_take]; omega
  have hk0 : (z0.take 40).length ≤ cap0 := by rw [List.length_take]; omega
  clear hl0 ho0
  generalize z0.take 40 = x at *
  have HT := Lib.hid (fun (wr : World) (h : Below w.heap.size w wr) => tabIs_below htab h hg)
  have HG := Lib.hid (fun (wr : World) (h : Below w.heap.size w wr) (g : Nat) (e : Tryd.prog.globalNamed "internal/strconv.uint64pow10" = some g) => Nat.lt_of_lt_of_le (hg g e) h.size)
  have TX := Lib.hid (fun (wr : World) (h : Below w.heap.size w wr) => text_any a0 cap0 w.heap.size x wr (L0.below h) h.size O0 hk0 hm0 (by omega) (HT.out wr h) (HG.out wr h))
  have RT := Lib.hid (fun (wr : World) (h : Below w.heap.size w wr) => refText_any a0 cap0 w.heap.size x wr (L0.below h) h.size O0 hk0 hm0 hA0 (by omega))
  have RN := Lib.hid (fun (wr : World) (h : Below w.heap.size w wr) => refNorm_any a0 cap0 w.heap.size x wr (L0.below h) h.size O0 hk0 hm0 hA0 (by omega))
  have TXV := Lib.hid (fun (wr : World) (h : Below w.heap.size w wr) (A : Option Addr) (c : Nat) (ns : List Nat) (hl : Lies wr wr.heap.size A (U ns)) (ho : Nt.Ok ns) (hc : ns.length ≤ c) (hm : c ≤ 9223372036854775807) (hs : ns.length ≤ 1000) => text_any A c wr.heap.size ns wr hl (Nat.le_refl _) ho hc hm hs (HT.out wr h) (HG.out wr h))
  have hdb := dec_bound O0 (show x.length ≤ 1000 by omega)
  have hdn := Nt.digs_len_le O0
  have htx : ∃ d : Nat, (Nt.digs (Nt.val x)).length = d ∧ d ≤ 40 := ⟨_, rfl, by omega⟩
  have hd400 : (Lib.decDigits (Nt.val x)).length ≤ 1000 := by
    have := dec_top 39 (val_top 39 O0 h40)
    omega
  have PV := Lib.hid (Ten.dec_valid (Nt.val x))
  clear L0 O0 htab hg hA0 htx
  generalize Nt.val x = n at *
  go_enter Tryd.func3, Tryd.ntmps3
  go_wp2_with fail
  refine F0.out.mono ?_
  rintro e w' ⟨rfl, rfl⟩
  clear F0
  by_cases hlong : 300 < s.length
  · go_wp2_with fail
    rw [show (⟨s.toArray⟩ : ByteArray).extract 0 300 = ⟨(s.take 300).toArray⟩ from by
      apply ByteArray.ext; simp]
    obtain ⟨S, hS⟩ : ∃ S, S = s.take 300 := ⟨_, rfl⟩
    have hSl : S.length ≤ 300 := by rw [hS, List.length_take]; omega
    rw [← hS]
    clear hS
    refine (TX.out w (Below.refl _ _)).mono ?_
    rintro e w1 ⟨rfl, hb1⟩
    have hz1 := hb1.size
    have PA := Lib.hid (parse_any (Lib.decDigits n) w1 (by omega))
    obtain ⟨T, hTe⟩ : ∃ T, T = Lib.decDigits n := ⟨_, rfl⟩
    have RT1 := Lib.hid (fun wr h => RT.out wr h)
    rw [← hTe] at PA PV RT1 ⊢
    clear hTe
    go_wp2_with fail
    refine PA.out.mono ?_
    rintro e w2 ⟨hb2, v0, ok0, m0, rfl, hr0, hsp⟩
    have hm0' : ok0 = true ∧ m0 = n := by
      rcases hsp with ⟨h1, _, h3⟩ | ⟨_, h2, _⟩
      · exact ⟨h1, by rw [h3]; exact PV.out.2⟩
      · exact absurd PV.out.1 h2
    obtain ⟨hok0, hmn⟩ := hm0'
    subst hok0 hmn
    clear hsp PA
    have hb12 : Below w.heap.size w w2 := hb1.trans (hb2.mono hz1)
    have hz2 := hb12.size
    go_wp2_with fail
    refine (RT1.out w2 hb12).mono ?_
    rintro e w3 ⟨rfl, hb3⟩
    have hb13 : Below w.heap.size w w3 := hb12.trans (hb3.mono hz2)
    have hz3 := hb13.size
    have hr3 := hr0.below hb3
    clear hr0
    go_wp2_with fail
    refine (RN.out w3 hb13).mono ?_
    rintro e w4 ⟨v4, rfl, hr4, hb4⟩
    have hb14 : Below w.heap.size w w4 := hb13.trans (hb4.mono hz3)
    have hz4 := hb14.size
    have SM := Lib.hid (same_res (w0 := w) (hr3.below hb4) hr4 hb14)
    clear hr3 hr4
    go_wp2_with fail
    refine SM.out.mono ?_
    rintro e w5 ⟨rfl, hb15, _⟩
    have hz5 := hb15.size
    clear SM
    go_wp2_with fail
    refine (parse_any S w5 (by omega)).mono ?_
    rintro e w6 ⟨hb6, v6, ok6, m6, rfl, hr6, hsp6⟩
    have hb16 : Below w.heap.size w w6 := hb15.trans (hb6.mono hz5)
    have hz6 := hb16.size
    have HS6 := Lib.hid hsp6
    clear hsp6
    go_wp2_with fail
    refine (refParse_any S w6 (by omega)).mono ?_
    rintro e w7 ⟨hb7, v7, ok7, m7, rfl, hr7, hsp7⟩
    have hb17 : Below w.heap.size w w7 := hb16.trans (hb7.mono hz6)
    have hz7 := hb17.size
    by_cases hv : Ten.Valid S
    · have h6 : ok6 = true ∧ m6 = Ten.numOf S := by
        rcases HS6.out with ⟨h1, _, h3⟩ | ⟨_, h2, _⟩
        · exact ⟨h1, h3⟩
        · exact absurd hv h2
      have h7 : ok7 = true ∧ m7 = Ten.numOf S := by
        rcases hsp7 with ⟨h1, _, h3⟩ | ⟨_, h2, _⟩
        · exact ⟨h1, h3⟩
        · exact absurd hv h2
      obtain ⟨e6, em6⟩ := h6
      obtain ⟨e7, em7⟩ := h7
      subst e6 e7 em6
      rw [em7] at hr7
      have hr67 := hr6.below hb7
      have SM := Lib.hid (same_res (w0 := w) hr67 hr7 hb17)
      have PTX := Lib.hid (Ten.parse_text hv)
      have hnl : (Nt.digs (Ten.numOf S)).length ≤ 1000 := by
        have := num_len hv (Nat.le_refl S.length)
        rw [List.take_length] at this
        omega
      clear hsp7 HS6 hv em7 hr6 hr7
      go_wp2_with fail
      refine SM.out.mono ?_
      rintro e w8 ⟨rfl, hb18, hb8⟩
      obtain ⟨A8, c8, rfl, hd1, hd2, hd3, hl8⟩ := hr67.below hb8
      have TT := Lib.hid (TXV.out w8 hb18 A8 c8 _ hl8 (Nt.ok_digs _) hd1 hd2 hnl)
      rw [Nt.val_digs, PTX.out] at TT
      have hz8 := hb18.size
      clear hl8 hr67 SM
      go_wp2_with fail
      refine TT.out.mono ?_
      rintro e w9 ⟨rfl, hb9⟩
      have hb19 : Below w.heap.size w w9 := hb18.trans (hb9.mono hz8)
      have hz9 := hb19.size
      go_wp2_with fail
      refine (awake_any w9).mono ?_
      rintro e w10 ⟨rfl, hb10⟩
      go_wp2_with fail
      go_ret
      exact ⟨rfl, hb19.trans (hb10.mono hz9)⟩
    · have h6 : ok6 = false ∧ m6 = 0 := by
        rcases HS6.out with ⟨_, h2, _⟩ | ⟨h1, _, h3⟩
        · exact absurd h2 hv
        · exact ⟨h1, h3⟩
      have h7 : ok7 = false ∧ m7 = 0 := by
        rcases hsp7 with ⟨_, h2, _⟩ | ⟨h1, _, h3⟩
        · exact absurd h2 hv
        · exact ⟨h1, h3⟩
      obtain ⟨e6, em6⟩ := h6
      obtain ⟨e7, em7⟩ := h7
      subst e6 e7 em6 em7
      have SM := Lib.hid (same_res (w0 := w) (hr6.below hb7) hr7 hb17)
      clear hsp7 HS6 hv hr6 hr7
      go_wp2_with fail
      refine SM.out.mono ?_
      rintro e w8 ⟨rfl, hb18, hb8⟩
      have hz8 := hb18.size
      go_wp2_with fail
      refine (awake_any w8).mono ?_
      rintro e w10 ⟨rfl, hb10⟩
      go_wp2_with fail
      go_ret
      exact ⟨rfl, hb18.trans (hb10.mono hz8)⟩
  · go_wp2_with fail
    refine (TX.out w (Below.refl _ _)).mono ?_
    rintro e w1 ⟨rfl, hb1⟩
    have hz1 := hb1.size
    have PA := Lib.hid (parse_any (Lib.decDigits n) w1 (by omega))
    obtain ⟨T, hTe⟩ : ∃ T, T = Lib.decDigits n := ⟨_, rfl⟩
    have RT1 := Lib.hid (fun wr h => RT.out wr h)
    rw [← hTe] at PA PV RT1 ⊢
    clear hTe
    go_wp2_with fail
    refine PA.out.mono ?_
    rintro e w2 ⟨hb2, v0, ok0, m0, rfl, hr0, hsp⟩
    have hm0' : ok0 = true ∧ m0 = n := by
      rcases hsp with ⟨h1, _, h3⟩ | ⟨_, h2, _⟩
      · exact ⟨h1, by rw [h3]; exact PV.out.2⟩
      · exact absurd PV.out.1 h2
    obtain ⟨hok0, hmn⟩ := hm0'
    subst hok0 hmn
    clear hsp PA
    have hb12 : Below w.heap.size w w2 := hb1.trans (hb2.mono hz1)
    have hz2 := hb12.size
    go_wp2_with fail
    refine (RT1.out w2 hb12).mono ?_
    rintro e w3 ⟨rfl, hb3⟩
    have hb13 : Below w.heap.size w w3 := hb12.trans (hb3.mono hz2)
    have hz3 := hb13.size
    have hr3 := hr0.below hb3
    clear hr0
    go_wp2_with fail
    refine (RN.out w3 hb13).mono ?_
    rintro e w4 ⟨v4, rfl, hr4, hb4⟩
    have hb14 : Below w.heap.size w w4 := hb13.trans (hb4.mono hz3)
    have hz4 := hb14.size
    have SM := Lib.hid (same_res (w0 := w) (hr3.below hb4) hr4 hb14)
    clear hr3 hr4
    go_wp2_with fail
    refine SM.out.mono ?_
    rintro e w5 ⟨rfl, hb15, _⟩
    have hz5 := hb15.size
    clear SM
    go_wp2_with fail
    refine (parse_any s w5 (by omega)).mono ?_
    rintro e w6 ⟨hb6, v6, ok6, m6, rfl, hr6, hsp6⟩
    have hb16 : Below w.heap.size w w6 := hb15.trans (hb6.mono hz5)
    have hz6 := hb16.size
    have HS6 := Lib.hid hsp6
    clear hsp6
    go_wp2_with fail
    refine (refParse_any s w6 (by omega)).mono ?_
    rintro e w7 ⟨hb7, v7, ok7, m7, rfl, hr7, hsp7⟩
    have hb17 : Below w.heap.size w w7 := hb16.trans (hb7.mono hz6)
    have hz7 := hb17.size
    by_cases hv : Ten.Valid s
    · have h6 : ok6 = true ∧ m6 = Ten.numOf s := by
        rcases HS6.out with ⟨h1, _, h3⟩ | ⟨_, h2, _⟩
        · exact ⟨h1, h3⟩
        · exact absurd hv h2
      have h7 : ok7 = true ∧ m7 = Ten.numOf s := by
        rcases hsp7 with ⟨h1, _, h3⟩ | ⟨_, h2, _⟩
        · exact ⟨h1, h3⟩
        · exact absurd hv h2
      obtain ⟨e6, em6⟩ := h6
      obtain ⟨e7, em7⟩ := h7
      subst e6 e7 em6
      rw [em7] at hr7
      have hr67 := hr6.below hb7
      have SM := Lib.hid (same_res (w0 := w) hr67 hr7 hb17)
      have PTX := Lib.hid (Ten.parse_text hv)
      have hnl : (Nt.digs (Ten.numOf s)).length ≤ 1000 := by
        have := num_len hv (Nat.le_refl s.length)
        rw [List.take_length] at this
        omega
      clear hsp7 HS6 hv em7 hr6 hr7
      go_wp2_with fail
      refine SM.out.mono ?_
      rintro e w8 ⟨rfl, hb18, hb8⟩
      obtain ⟨A8, c8, rfl, hd1, hd2, hd3, hl8⟩ := hr67.below hb8
      have TT := Lib.hid (TXV.out w8 hb18 A8 c8 _ hl8 (Nt.ok_digs _) hd1 hd2 hnl)
      rw [Nt.val_digs, PTX.out] at TT
      have hz8 := hb18.size
      clear hl8 hr67 SM
      go_wp2_with fail
      refine TT.out.mono ?_
      rintro e w9 ⟨rfl, hb9⟩
      have hb19 : Below w.heap.size w w9 := hb18.trans (hb9.mono hz8)
      have hz9 := hb19.size
      go_wp2_with fail
      refine (awake_any w9).mono ?_
      rintro e w10 ⟨rfl, hb10⟩
      go_wp2_with fail
      go_ret
      exact ⟨rfl, hb19.trans (hb10.mono hz9)⟩
    · have h6 : ok6 = false ∧ m6 = 0 := by
        rcases HS6.out with ⟨_, h2, _⟩ | ⟨h1, _, h3⟩
        · exact absurd h2 hv
        · exact ⟨h1, h3⟩
      have h7 : ok7 = false ∧ m7 = 0 := by
        rcases hsp7 with ⟨_, h2, _⟩ | ⟨h1, _, h3⟩
        · exact absurd h2 hv
        · exact ⟨h1, h3⟩
      obtain ⟨e6, em6⟩ := h6
      obtain ⟨e7, em7⟩ := h7
      subst e6 e7 em6 em7
      have SM := Lib.hid (same_res (w0 := w) (hr6.below hb7) hr7 hb17)
      clear hsp7 HS6 hv hr6 hr7
      go_wp2_with fail
      refine SM.out.mono ?_
      rintro e w8 ⟨rfl, hb18, hb8⟩
      have hz8 := hb18.size
      go_wp2_with fail
      refine (awake_any w8).mono ?_
      rintro e w10 ⟨rfl, hb10⟩
      go_wp2_with fail
      go_ret
      exact ⟨rfl, hb18.trans (hb10.mono hz8)⟩
theorem natTexts_walk (a0 : Option Addr) (len0 cap0 : Nat) (z0 : List Nat) (a : ByteArray) (w : World) (w0 : IsLimbs w a0 len0 cap0 z0) (_ : a.size ≤ maxLen)
    (htab : Lib.TabIs Tryd.prog w "internal/strconv.uint64pow10" .u64 Lib.pow10Tab) (hg : ∀ g, Tryd.prog.globalNamed "internal/strconv.uint64pow10" = some g → g < w.heap.size) :
    Calls Tryd.prog 3 #[.slice a0 len0 cap0, .string a] w fun e w' => e = .returned (.bool true) ∧ Below w.heap.size w w' := by
  have := natTexts_list a0 len0 cap0 z0 a.data.toList w w0 htab hg
  rwa [show (⟨a.data.toList.toArray⟩ : ByteArray) = a from rfl] at this
end Go.Proofs.YtgicgmaiolfpkaaDoor
