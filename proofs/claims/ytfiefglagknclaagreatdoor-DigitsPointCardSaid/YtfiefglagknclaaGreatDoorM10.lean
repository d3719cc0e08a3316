/-
  Texts of this proof, joined (by wip/bin/bundle.py): Dig8, Dig10, Dig11, Tok3, Tok4, Tok5, Tok6.
-/
import Derived.Test.YtfiefglagknclaaGreatDoorM9
import Derived.Deep.QuietTactic
import Derived.BigQuiet
import Derived.IntWalk
import Derived.Deep.Cut
import Derived.Deep.RegionHeld3
import Derived.Lib.OthersKept
import Derived.Lib.RuneBytes
import Derived.Laws.BytesString
import Derived.Laws.IdiomStrings
/-
  digits.Parse: the number of a text. (Printed by wip/bin/gen_dig8.py.)
-/
namespace Go.Proofs.YtfiefglagknclaaGreatDoor
open Go.RowKit
set_option maxHeartbeats 4000000
set_option maxRecDepth 100000
set_option linter.unusedVariables false

theorem bDrewN {B : Nat} {w w' : World} (h : Below B w w') (n : Nat) : Below B w (w'.drewN n) := ⟨h.os, h.tape, h.output, h.size, h.block⟩
theorem parse_cut (s : List UInt8) : Dg.parse s = Dg.body (Lib.hasPrefix s [194, 175]) (Lib.trimPrefix s [194, 175]) := by
  unfold Lib.trimPrefix Lib.hasPrefix
  match s with
  | [] => rfl
  | [a] =>
    have h : List.isPrefixOf [194, 175] [a] = false := by simp [List.isPrefixOf]
    rw [h]
    unfold Dg.parse
    split
    · next h2 => cases h2
    · rfl
  | a :: b :: t =>
    by_cases h : a = 194 ∧ b = 175
    · obtain ⟨rfl, rfl⟩ := h
      rfl
    · have h2 : List.isPrefixOf [194, 175] (a :: b :: t) = false := by
        simp [List.isPrefixOf]
        intro e1 e2
        exact h ⟨e1.symm, e2.symm⟩
      rw [h2]
      unfold Dg.parse
      split
      · next h3 => injection h3 with e1 h3; injection h3 with e2 h3; exact absurd ⟨e1, e2⟩ h
      · rfl
theorem numOf_one : Ten.numOf [49] = 1 := rfl
theorem cut_len (s p : List UInt8) : (Lib.trimPrefix s p).length ≤ s.length := by
  unfold Lib.trimPrefix
  split
  · rw [List.length_drop]; omega
  · exact Nat.le_refl _
theorem lim_digs {t : List UInt8} (hd : ∀ b ∈ t, Ten.isDig b) (h : t.length ≤ 1000) : (Nt.digs (Ten.numOf t)).length ≤ 1000000 := by
  have := Dg.limbs_le hd 112 (by omega)
  omega
/-- The last statement's calls. -/
theorem makeOf_any (neg : Bool) (v1 v2 : Value) (a b : List UInt8) (w : World) (h1 : IsRes w v1 (Nt.digs (Ten.numOf a))) (h2 : IsRes w v2 (Nt.digs (Ten.numOf b))) (d1 : ∀ x ∈ a, Ten.isDig x) (d2 : ∀ x ∈ b, Ten.isDig x) (s1 : a.length ≤ 1000) (s2 : b.length ≤ 1000) :
    Calls Tryz.prog 24 #[.agg #[.bool neg, v1], .agg #[.bool false, v2]] w (MakeOut w (Rt.mk neg false (Ten.numOf a) (Ten.numOf b))) := by
  have := ratioMake_any neg false v1 v2 _ _ w h1 h2 (Nt.ok_digs _) (Nt.ok_digs _) (lim_digs d1 s1) (lim_digs d2 s2)
  rwa [Nt.val_digs, Nt.val_digs] at this

theorem digParse_any (s : List UInt8) (w : World) (hs : s.length ≤ 100000) :
    Calls Tryz.prog 7 #[.string ⟨s.toArray⟩] w (MakeOut w (Dg.parse s)) := by
  have CP := fun wx => Tryz.strings_CutPrefix ⟨s.toArray⟩ ⟨#[194, 175]⟩ wx
  rw [show (⟨s.toArray⟩ : ByteArray).data.toList = s from rfl, show (⟨#[194, 175]⟩ : ByteArray).data.toList = [194, 175] from rfl] at CP
  have hcl := cut_len s [194, 175]
  rw [parse_cut]
  have HI3 : Hid (∀ (b : Bool) (A : Option Addr) (k c : Nat) (A' : Option Addr) (k' c' : Nat), (Tryz.prog.info? 26).map (·.size) = some (#[.bool b, .slice A k c, .slice A' k' c'] : Array Value).size) := Lib.hid (fun _ _ _ _ _ _ _ => num_info)
  have HGA : Hid ((w.alloc (.cells #[.bool false, .slice none 0 0, .slice none 0 0] 26)).heap[w.heap.size]? = some (.cells #[.bool false, .slice none 0 0, .slice none 0 0] 26 (0, 0))) := Lib.hid (heap_alloc_new w _)
  have hb0 : Below w.heap.size w (w.alloc (.cells #[.bool false, .slice none 0 0, .slice none 0 0] 26)) := (Below.refl _ _).alloc (Nat.le_refl _) _
  generalize Lib.trimPrefix s [194, 175] = t at *
  generalize Lib.hasPrefix s [194, 175] = neg at *
  have HCP := Lib.hid CP
  have htl : t.length ≤ 100000 := by omega
  clear CP hcl
  obtain ⟨W, hW⟩ : ∃ W, W = w.alloc (.cells #[.bool false, .slice none 0 0, .slice none 0 0] 26) := ⟨_, rfl⟩
  rw [← hW] at HGA hb0
  have HW := Lib.hid hW
  clear hW
  have hsz : (⟨t.toArray⟩ : ByteArray).size = t.length := rfl
  have HSZ := Lib.hid hsz
  clear hsz
  go_enter Tryz.func7, Tryz.ntmps7
  go_wp2_with fail
  rw [← HW.out]
  refine (HCP.out _).mono ?_
  rintro e w' ⟨rfl, rfl⟩
  clear HCP
  by_cases h400 : 400 < t.length
  · have HE : Hid (400 < t.length) := Lib.hid h400
    go_wp2_with (with_reducible refine wpList_store_row rfl 26 (.tmp 2) (.tmp 18) rfl w.heap.size #[.bool false, .slice none 0 0, .slice none 0 0] rfl rfl 26 #[.bool false, .slice none 0 0, .slice none 0 0] HGA.out (HI3.out _ _ _ _ _ _ _) rfl (three_one _ _ _ _ _ _ _) ?_)
    refine bodyPost_ret (results_cell_row_tmp (by rfl) _ _ w.heap.size 26 #[.bool false, .slice none 0 0, .slice none 0 0] (0, 0) _ _ (by rfl) (by rfl) (rheap_same HGA.out) Tryz.underlying26 rfl (HI3.out _ _ _ _ _ _ _)) rfl (MakeOut.of (by unfold Dg.body; rw [if_pos HE.out]; rfl) rfl (isRes_nil _) (isRes_nil _) (rBelow.setRow hb0 (by omega) _))
  · have H400 : Hid (¬ 400 < t.length) := Lib.hid h400
    obtain ⟨n, hn⟩ : ∃ n, n = Dg.lead t := ⟨_, rfl⟩
    have LD := fun (wx : World) => leading_any t wx (by omega)
    have hll := Dg.lead_le t
    rw [← hn] at LD hll
    have LD := Lib.hid LD
    have HN := Lib.hid hn
    clear hn
    go_wp2_with fail
    refine (LD.out _).mono ?_
    rintro e w' ⟨rfl, rfl⟩
    clear LD
    by_cases hl0 : n = 0
    · have hz : ((n : Int) == 0) = true := by rw [hl0]; rfl
      have HE : Hid (Dg.lead t = 0) := Lib.hid (by rw [← HN.out]; exact hl0)
      clear hl0
      go_wp2_with (with_reducible refine wpList_store_row rfl 26 (.tmp 2) (.tmp 23) rfl w.heap.size #[.bool false, .slice none 0 0, .slice none 0 0] rfl rfl 26 #[.bool false, .slice none 0 0, .slice none 0 0] HGA.out (HI3.out _ _ _ _ _ _ _) rfl (three_one _ _ _ _ _ _ _) ?_)
      refine bodyPost_ret (results_cell_row_tmp (by rfl) _ _ w.heap.size 26 #[.bool false, .slice none 0 0, .slice none 0 0] (0, 0) _ _ (by rfl) (by rfl) (rheap_same HGA.out) Tryz.underlying26 rfl (HI3.out _ _ _ _ _ _ _)) rfl (MakeOut.of (by unfold Dg.body; rw [if_neg H400.out, if_pos HE.out]; rfl) rfl (isRes_nil _) (isRes_nil _) (rBelow.setRow hb0 (by omega) _))
    · have hz : ((n : Int) == 0) = false := beq_eq_false_iff_ne.2 (by omega)
      have HL0 : Hid (¬ Dg.lead t = 0) := Lib.hid (by rw [← HN.out]; exact hl0)
      by_cases hlt : n < t.length
      · obtain ⟨y, hy⟩ : ∃ y, y = t[n].toNat := ⟨_, rfl⟩
        have hgy : ((⟨t.toArray⟩ : ByteArray)[n]'(show n < (⟨t.toArray⟩ : ByteArray).size from hlt)).toNat = y := hy.symm
        have HY : Hid (y = (t.getD n 0).toNat) := Lib.hid (by rw [hy, List.getD_eq_getElem?_getD, List.getElem?_eq_getElem hlt]; rfl)
        clear hy
        obtain ⟨ov, hov⟩ : ∃ ov, ov = t.take n := ⟨_, rfl⟩
        obtain ⟨bh, hbh⟩ : ∃ bh, bh = t.drop (n + 1) := ⟨_, rfl⟩
        have hovl : ov.length = n := by rw [hov, List.length_take]; omega
        have hbhl : bh.length = t.length - (n + 1) := by rw [hbh, List.length_drop]
        have hovl2 : ov.length ≤ 400 := by omega
        have hbhl2 : bh.length ≤ 400 := by omega
        have SU : Hid ((⟨t.toArray⟩ : ByteArray).extract 0 n = ⟨ov.toArray⟩) := Lib.hid (by rw [str_upto t n (by omega), hov])
        have SF : Hid ((⟨t.toArray⟩ : ByteArray).extract (n + 1) t.length = ⟨bh.toArray⟩) := Lib.hid (by rw [str_from, hbh])
        have HOV : Hid (ov = t.take (Dg.lead t)) := Lib.hid (by rw [← HN.out]; exact hov)
        have HBH : Hid (bh = t.drop (Dg.lead t + 1)) := Lib.hid (by rw [← HN.out]; exact hbh)
        have HBL : Hid (bh.length = t.length - (Dg.lead t + 1)) := Lib.hid (by rw [← HN.out]; exact hbhl)
        have HNE : Hid (¬ Dg.lead t = t.length) := Lib.hid (by rw [← HN.out]; omega)
        have HO : Hid (ov.length ≤ 1000 ∧ ∀ b ∈ ov, Ten.isDig b) := Lib.hid ⟨by omega, by rw [HOV.out]; exact Dg.lead_take⟩
        have HEQ0 : Hid (Dg.body neg t = if bh.length = 0 ∨ Dg.lead bh < bh.length then (Rt.none_, 1) else if t.getD n 0 = 114 then Rt.mk neg false (Ten.numOf ov) (Ten.numOf bh) else if t.getD n 0 = 46 then Rt.mk neg false (Ten.numOf (ov ++ bh)) (10 ^ bh.length) else (Rt.none_, 1)) := Lib.hid (by
          unfold Dg.body
          rw [if_neg H400.out, if_neg HL0.out, if_neg HNE.out, ← HBL.out, ← HBH.out, ← HOV.out, ← HN.out]
          have e : (t.length = n + 1) = (bh.length = 0) := by rw [eq_iff_iff]; omega
          simp only [e])
        have hw1 : IntKind.i64.wrap ((n : Int) + 1) = (n : Int) + 1 := IntWalk.i64_in _ (by omega)
        have hw2 : (0 : Int) ≤ (n : Int) + 1 := by omega
        have hw3 : (n : Int) + 1 ≤ (t.length : Int) := by omega
        have hw4 : ((n : Int) + 1).toNat = n + 1 := by omega
        have hw5 : (0 : Int) ≤ (n : Int) := by omega
        have hw6 : (n : Int) < (t.length : Int) := by omega
        clear hov hbh hovl hbhl
        go_wp2_with fail
        go_quiet (fail)
        clear hw1 hw2 hw3 hw4 hw5 hw6
        simp only [SU.out, SF.out]
        have hbq : Below w.heap.size w (w'.drewN nq) := bDrewN hb0 nq
        have HGQ : Hid ((w'.drewN nq).heap[w.heap.size]? = some (.cells #[.bool false, .slice none 0 0, .slice none 0 0] 26 (0, 0))) := Lib.hid HGA.out
        generalize w'.drewN nq = wq at *
        by_cases hbe : bh = []
        · have hemp : bh.isEmpty = true := by rw [hbe]; rfl
          have HE : Hid (bh.length = 0) := Lib.hid (by rw [hbe]; rfl)
          subst hbe
          clear SU SF HGA hb0
          go_wp2_with (with_reducible refine wpList_store_row rfl 26 (.tmp 2) (.tmp 47) rfl w.heap.size #[.bool false, .slice none 0 0, .slice none 0 0] rfl rfl 26 #[.bool false, .slice none 0 0, .slice none 0 0] HGQ.out (HI3.out _ _ _ _ _ _ _) rfl (three_one _ _ _ _ _ _ _) ?_)
          refine bodyPost_ret (results_cell_row_tmp (by rfl) _ _ w.heap.size 26 #[.bool false, .slice none 0 0, .slice none 0 0] (0, 0) _ _ (by rfl) (by rfl) (rheap_same HGQ.out) Tryz.underlying26 rfl (HI3.out _ _ _ _ _ _ _)) rfl (MakeOut.of (by rw [HEQ0.out, if_pos (.inl HE.out)]; rfl) rfl (isRes_nil _) (isRes_nil _) (rBelow.setRow hbq (by omega) _))
        · have hemp : bh.isEmpty = false := by cases bh with | nil => exact absurd rfl hbe | cons a r => rfl
          have HBE : Hid (¬ bh.length = 0) := Lib.hid (by cases bh with | nil => exact absurd rfl hbe | cons a r => simp)
          have LB := Lib.hid (fun (wx : World) => leading_any bh wx (by omega))
          clear SU SF HGA hb0
          go_wp2_with fail
          refine (LB.out _).mono ?_
          rintro e w'' ⟨rfl, rfl⟩
          have hlb := Dg.lead_le bh
          by_cases hm : Dg.lead bh < bh.length
          · have HM := Lib.hid hm
            have g1 : decide (Dg.lead bh < bh.length) = true := decide_eq_true hm
            go_wp2_with (with_reducible refine wpList_store_row rfl 26 (.tmp 2) (.tmp 47) rfl w.heap.size #[.bool false, .slice none 0 0, .slice none 0 0] rfl rfl 26 #[.bool false, .slice none 0 0, .slice none 0 0] HGQ.out (HI3.out _ _ _ _ _ _ _) rfl (three_one _ _ _ _ _ _ _) ?_)
            refine bodyPost_ret (results_cell_row_tmp (by rfl) _ _ w.heap.size 26 #[.bool false, .slice none 0 0, .slice none 0 0] (0, 0) _ _ (by rfl) (by rfl) (rheap_same HGQ.out) Tryz.underlying26 rfl (HI3.out _ _ _ _ _ _ _)) rfl (MakeOut.of (by rw [HEQ0.out, if_pos (.inr HM.out)]; rfl) rfl (isRes_nil _) (isRes_nil _) (rBelow.setRow hbq (by omega) _))
          · have g1 : decide (Dg.lead bh < bh.length) = false := decide_eq_false hm
            have HM : Hid (¬ (bh.length = 0 ∨ Dg.lead bh < bh.length)) := Lib.hid (fun h => h.elim HBE.out hm)
            have HBD : Hid (∀ b ∈ bh, Ten.isDig b) := Lib.hid (Dg.lead_full (by omega))
            clear LB hlb
            have HY114 : Hid (y = 114 → t.getD n 0 = 114) := Lib.hid (fun h => UInt8.toNat_inj.1 (by rw [← HY.out, h]; rfl))
            have HY46 : Hid (y = 46 → t.getD n 0 = 46) := Lib.hid (fun h => UInt8.toNat_inj.1 (by rw [← HY.out, h]; rfl))
            have HYN : Hid (∀ b : UInt8, t.getD n 0 = b → y = b.toNat) := Lib.hid (fun b h => by rw [HY.out, h])
            by_cases h114 : y = 114
            · have HD := Lib.hid (HY114.out h114)
              have q114 : ((y : Int) == 114) = true := by rw [h114]; rfl
              have HU : Hid (bh.length ≤ 1000 ∧ ∀ b ∈ bh, Ten.isDig b) := Lib.hid ⟨by omega, HBD.out⟩
              clear h114
              have NO := Lib.hid (fun (wx : World) => number_any ov wx HO.out.1 HO.out.2)
              have NU := Lib.hid (fun (wx : World) => number_any bh wx HU.out.1 HU.out.2)
              go_wp2_with fail
              refine (NO.out _).mono ?_
              rintro e w2 ⟨v1, rfl, hr1, hb2⟩
              have HR1 := Lib.hid hr1
              have HG2 := Lib.hid ((hb2.block w.heap.size (blk_lt HGQ.out)).trans HGQ.out)
              have hbw2 := hbq.trans (hb2.mono hbq.size)
              obtain ⟨A1, c1, rfl, -⟩ := hr1
              go_wp2_with fail
              refine (NU.out _).mono ?_
              rintro e w3 ⟨v2, rfl, hr2, hb3⟩
              have MK := Lib.hid (makeOf_any neg _ _ ov bh w3 (HR1.out.below hb3) hr2 HO.out.2 HU.out.2 HO.out.1 HU.out.1)
              have HG3 := Lib.hid ((hb3.block w.heap.size (blk_lt HG2.out)).trans HG2.out)
              have hbw3 := hbw2.trans (hb3.mono hbw2.size)
              obtain ⟨A2, c2, rfl, -⟩ := hr2
              clear hb2 hb3 HG2 hbw2 HR1
              go_wp2_with fail
              refine MK.out.mono ?_
              rintro e w4 ⟨r1, r2, rfl, hr3, hr4, hb4⟩
              have HG4 := Lib.hid ((hb4.block w.heap.size (blk_lt HG3.out)).trans HG3.out)
              have hbw4 := hbw3.trans (hb4.mono hbw3.size)
              have HR3 := Lib.hid (hr3.setRow HG4.out (three_no_int _ _ _ _ _ _ _) #[.bool (Rt.mk neg false (Ten.numOf ov) (Ten.numOf bh)).1.neg, r1, r2])
              have HR4 := Lib.hid (hr4.setRow HG4.out (three_no_int _ _ _ _ _ _ _) #[.bool (Rt.mk neg false (Ten.numOf ov) (Ten.numOf bh)).1.neg, r1, r2])
              have HEQ := Lib.hid (show Dg.body neg t = Rt.mk neg false (Ten.numOf ov) (Ten.numOf bh) by rw [HEQ0.out, if_neg HM.out, if_pos HD.out])
              obtain ⟨A3, c3, rfl, -⟩ := hr3
              obtain ⟨A4, c4, rfl, -⟩ := hr4
              clear MK hb4 HG3 hbw3
              generalize Rt.mk neg false (Ten.numOf ov) (Ten.numOf bh) = R at *
              obtain ⟨⟨rn, rt, rb⟩, re⟩ := R
              dsimp only at HR3 HR4 HEQ ⊢
              go_wp2_with (with_reducible refine wpList_store_row rfl 26 (.tmp 2) (.tmp 71) rfl w.heap.size #[.bool rn, .slice A3 rt.length c3, .slice A4 rb.length c4] rfl rfl 26 #[.bool false, .slice none 0 0, .slice none 0 0] HG4.out (HI3.out _ _ _ _ _ _ _) rfl (three_one _ _ _ _ _ _ _) ?_)
              refine bodyPost_ret (results_cell_row_tmp (by rfl) _ _ w.heap.size 26 #[.bool rn, .slice A3 rt.length c3, .slice A4 rb.length c4] (0, 0) _ _ (by rfl) (by rfl) (rheap_same HG4.out) Tryz.underlying26 rfl (HI3.out _ _ _ _ _ _ _)) rfl (MakeOut.of HEQ.out rfl HR3.out HR4.out (rBelow.setRow hbw4 (by omega) _))
            · have q114 : ((y : Int) == 114) = false := beq_eq_false_iff_ne.2 (by omega)
              have HD1 : Hid (¬ t.getD n 0 = 114) := Lib.hid (fun h => h114 (HYN.out _ h))
              clear h114
              by_cases h46 : y = 46
              · have HD := Lib.hid (HY46.out h46)
                have q46 : ((y : Int) == 46) = true := by rw [h46]; rfl
                have RP := Tryz.strings_Repeat ⟨#[48]⟩ bh.length wq (by omega) (by show 1 * bh.length ≤ _; omega)
                rw [show (⟨#[48]⟩ : ByteArray).data.toList = [48] from rfl, rep_eq] at RP
                obtain ⟨ZR, hZR⟩ : ∃ ZR, ZR = List.replicate bh.length (48 : UInt8) := ⟨_, rfl⟩
                obtain ⟨o2, ho2⟩ : ∃ o2, o2 = ov ++ bh := ⟨_, rfl⟩
                obtain ⟨u2, hu2⟩ : ∃ u2, u2 = (49 : UInt8) :: ZR := ⟨_, rfl⟩
                rw [← hZR] at RP
                have hZl : ZR.length = bh.length := by rw [hZR, List.length_replicate]
                have hZl2 : ZR.length ≤ 400 := by omega
                have HN2 : Hid (Ten.numOf u2 = 10 ^ bh.length) := Lib.hid (by rw [hu2, hZR]; exact Dg.numOf_zeros _)
                have SO2 : Hid ((⟨ov.toArray⟩ : ByteArray) ++ ⟨bh.toArray⟩ = ⟨o2.toArray⟩) := Lib.hid (by apply ByteArray.ext; rw [ho2]; simp)
                have SU2 : Hid ((⟨#[49]⟩ : ByteArray) ++ ⟨ZR.toArray⟩ = ⟨u2.toArray⟩) := Lib.hid (by apply ByteArray.ext; rw [hu2]; simp)
                have HO2 : Hid (o2.length ≤ 1000 ∧ ∀ b ∈ o2, Ten.isDig b) := Lib.hid ⟨by rw [ho2, List.length_append]; omega, by
                  intro b hb; rw [ho2] at hb; rcases List.mem_append.1 hb with hb | hb
                  · exact HO.out.2 b hb
                  · exact HBD.out b hb⟩
                have HU : Hid (u2.length ≤ 1000 ∧ ∀ b ∈ u2, Ten.isDig b) := Lib.hid ⟨by rw [hu2, List.length_cons]; omega, by
                  intro b hb; rw [hu2, hZR] at hb; rcases List.mem_cons.1 hb with rfl | hb
                  · exact ⟨by decide, by decide⟩
                  · rw [List.eq_of_mem_replicate hb]; exact ⟨by decide, by decide⟩⟩
                have HEV : Hid (Dg.body neg t = Rt.mk neg false (Ten.numOf o2) (Ten.numOf u2)) := Lib.hid (by rw [HEQ0.out, if_neg HM.out, if_neg HD1.out, if_pos HD.out, HN2.out, ho2])
                have HRP := Lib.hid RP
                clear h46 hZR ho2 hu2 RP hZl HO
                have HO := HO2
                clear HO2
                go_wp2_with fail
                refine HRP.out.mono ?_
                rintro e w7 ⟨rfl, hb7⟩
                have HG7 := Lib.hid ((hb7.block w.heap.size (blk_lt HGQ.out)).trans HGQ.out)
                have hbw7 := hbq.trans (hb7.mono hbq.size)
                clear hb7 HRP hbq HGQ
                simp only [SO2.out]
                have NO := Lib.hid (fun (wx : World) => number_any o2 wx HO.out.1 HO.out.2)
                have NU := Lib.hid (fun (wx : World) => number_any u2 wx HU.out.1 HU.out.2)
                go_wp2_with fail
                simp only [SU2.out, SO2.out]
                refine (NO.out _).mono ?_
                rintro e w2 ⟨v1, rfl, hr1, hb2⟩
                have HR1 := Lib.hid hr1
                have HG2 := Lib.hid ((hb2.block w.heap.size (blk_lt HG7.out)).trans HG7.out)
                have hbw2 := hbw7.trans (hb2.mono hbw7.size)
                obtain ⟨A1, c1, rfl, -⟩ := hr1
                go_wp2_with fail
                refine (NU.out _).mono ?_
                rintro e w3 ⟨v2, rfl, hr2, hb3⟩
                have MK := Lib.hid (makeOf_any neg _ _ o2 u2 w3 (HR1.out.below hb3) hr2 HO.out.2 HU.out.2 HO.out.1 HU.out.1)
                have HG3 := Lib.hid ((hb3.block w.heap.size (blk_lt HG2.out)).trans HG2.out)
                have hbw3 := hbw2.trans (hb3.mono hbw2.size)
                obtain ⟨A2, c2, rfl, -⟩ := hr2
                clear hb2 hb3 HG2 hbw2 HR1
                go_wp2_with fail
                refine MK.out.mono ?_
                rintro e w4 ⟨r1, r2, rfl, hr3, hr4, hb4⟩
                have HG4 := Lib.hid ((hb4.block w.heap.size (blk_lt HG3.out)).trans HG3.out)
                have hbw4 := hbw3.trans (hb4.mono hbw3.size)
                have HR3 := Lib.hid (hr3.setRow HG4.out (three_no_int _ _ _ _ _ _ _) #[.bool (Rt.mk neg false (Ten.numOf o2) (Ten.numOf u2)).1.neg, r1, r2])
                have HR4 := Lib.hid (hr4.setRow HG4.out (three_no_int _ _ _ _ _ _ _) #[.bool (Rt.mk neg false (Ten.numOf o2) (Ten.numOf u2)).1.neg, r1, r2])
                have HEQ := Lib.hid (show Dg.body neg t = Rt.mk neg false (Ten.numOf o2) (Ten.numOf u2) by exact HEV.out)
                obtain ⟨A3, c3, rfl, -⟩ := hr3
                obtain ⟨A4, c4, rfl, -⟩ := hr4
                clear MK hb4 HG3 hbw3
                generalize Rt.mk neg false (Ten.numOf o2) (Ten.numOf u2) = R at *
                obtain ⟨⟨rn, rt, rb⟩, re⟩ := R
                dsimp only at HR3 HR4 HEQ ⊢
                go_wp2_with (with_reducible refine wpList_store_row rfl 26 (.tmp 2) (.tmp 71) rfl w.heap.size #[.bool rn, .slice A3 rt.length c3, .slice A4 rb.length c4] rfl rfl 26 #[.bool false, .slice none 0 0, .slice none 0 0] HG4.out (HI3.out _ _ _ _ _ _ _) rfl (three_one _ _ _ _ _ _ _) ?_)
                refine bodyPost_ret (results_cell_row_tmp (by rfl) _ _ w.heap.size 26 #[.bool rn, .slice A3 rt.length c3, .slice A4 rb.length c4] (0, 0) _ _ (by rfl) (by rfl) (rheap_same HG4.out) Tryz.underlying26 rfl (HI3.out _ _ _ _ _ _ _)) rfl (MakeOut.of HEQ.out rfl HR3.out HR4.out (rBelow.setRow hbw4 (by omega) _))
              · have q46 : ((y : Int) == 46) = false := beq_eq_false_iff_ne.2 (by omega)
                have HD2 : Hid (¬ t.getD n 0 = 46) := Lib.hid (fun h => h46 (HYN.out _ h))
                clear h46
                go_wp2_with (with_reducible refine wpList_store_row rfl 26 (.tmp 2) (.tmp 49) rfl w.heap.size #[.bool false, .slice none 0 0, .slice none 0 0] rfl rfl 26 #[.bool false, .slice none 0 0, .slice none 0 0] HGQ.out (HI3.out _ _ _ _ _ _ _) rfl (three_one _ _ _ _ _ _ _) ?_)
                refine bodyPost_ret (results_cell_row_tmp (by rfl) _ _ w.heap.size 26 #[.bool false, .slice none 0 0, .slice none 0 0] (0, 0) _ _ (by rfl) (by rfl) (rheap_same HGQ.out) Tryz.underlying26 rfl (HI3.out _ _ _ _ _ _ _)) rfl (MakeOut.of (by rw [HEQ0.out, if_neg HM.out, if_neg HD1.out, if_neg HD2.out]; rfl) rfl (isRes_nil _) (isRes_nil _) (rBelow.setRow hbq (by omega) _))
      · have HO : Hid (t.length ≤ 1000 ∧ ∀ b ∈ t, Ten.isDig b) := Lib.hid ⟨by omega, Dg.lead_full (by rw [← HN.out]; omega)⟩
        have HU : Hid (([49] : List UInt8).length ≤ 1000 ∧ ∀ b ∈ ([49] : List UInt8), Ten.isDig b) := Lib.hid ⟨by decide, by intro b hb; rw [List.mem_singleton] at hb; subst hb; exact ⟨by decide, by decide⟩⟩
        have HLE : Hid (n = t.length) := Lib.hid (by omega)
        have hst : (⟨t.toArray⟩ : ByteArray).extract 0 n = ⟨t.toArray⟩ := by rw [str_upto t n (by omega), HLE.out, List.take_length]
        have HST := Lib.hid hst
        clear hst
        go_wp2_with fail
        rw [HST.out]
        have NO := Lib.hid (fun (wx : World) => number_any t wx HO.out.1 HO.out.2)
        have NU := Lib.hid (fun (wx : World) => number_any [49] wx HU.out.1 HU.out.2)
        go_wp2_with fail
        refine (NO.out _).mono ?_
        rintro e w2 ⟨v1, rfl, hr1, hb2⟩
        have HR1 := Lib.hid hr1
        have HG2 := Lib.hid ((hb2.block w.heap.size (blk_lt HGA.out)).trans HGA.out)
        have hbw2 := hb0.trans (hb2.mono hb0.size)
        obtain ⟨A1, c1, rfl, -⟩ := hr1
        go_wp2_with fail
        refine (NU.out _).mono ?_
        rintro e w3 ⟨v2, rfl, hr2, hb3⟩
        have MK := Lib.hid (makeOf_any neg _ _ t [49] w3 (HR1.out.below hb3) hr2 HO.out.2 HU.out.2 HO.out.1 HU.out.1)
        have HG3 := Lib.hid ((hb3.block w.heap.size (blk_lt HG2.out)).trans HG2.out)
        have hbw3 := hbw2.trans (hb3.mono hbw2.size)
        obtain ⟨A2, c2, rfl, -⟩ := hr2
        clear hb2 hb3 HG2 hbw2 HR1
        go_wp2_with fail
        refine MK.out.mono ?_
        rintro e w4 ⟨r1, r2, rfl, hr3, hr4, hb4⟩
        have HG4 := Lib.hid ((hb4.block w.heap.size (blk_lt HG3.out)).trans HG3.out)
        have hbw4 := hbw3.trans (hb4.mono hbw3.size)
        have HR3 := Lib.hid (hr3.setRow HG4.out (three_no_int _ _ _ _ _ _ _) #[.bool (Rt.mk neg false (Ten.numOf t) (Ten.numOf [49])).1.neg, r1, r2])
        have HR4 := Lib.hid (hr4.setRow HG4.out (three_no_int _ _ _ _ _ _ _) #[.bool (Rt.mk neg false (Ten.numOf t) (Ten.numOf [49])).1.neg, r1, r2])
        have HEQ := Lib.hid (show Dg.body neg t = Rt.mk neg false (Ten.numOf t) (Ten.numOf [49]) by unfold Dg.body; rw [if_neg H400.out, if_neg HL0.out, if_pos (by rw [← HN.out]; exact HLE.out), numOf_one])
        obtain ⟨A3, c3, rfl, -⟩ := hr3
        obtain ⟨A4, c4, rfl, -⟩ := hr4
        clear MK hb4 HG3 hbw3
        generalize Rt.mk neg false (Ten.numOf t) (Ten.numOf [49]) = R at *
        obtain ⟨⟨rn, rt, rb⟩, re⟩ := R
        dsimp only at HR3 HR4 HEQ ⊢
        go_wp2_with (with_reducible refine wpList_store_row rfl 26 (.tmp 2) (.tmp 71) rfl w.heap.size #[.bool rn, .slice A3 rt.length c3, .slice A4 rb.length c4] rfl rfl 26 #[.bool false, .slice none 0 0, .slice none 0 0] HG4.out (HI3.out _ _ _ _ _ _ _) rfl (three_one _ _ _ _ _ _ _) ?_)
        refine bodyPost_ret (results_cell_row_tmp (by rfl) _ _ w.heap.size 26 #[.bool rn, .slice A3 rt.length c3, .slice A4 rb.length c4] (0, 0) _ _ (by rfl) (by rfl) (rheap_same HG4.out) Tryz.underlying26 rfl (HI3.out _ _ _ _ _ _ _)) rfl (MakeOut.of HEQ.out rfl HR3.out HR4.out (rBelow.setRow hbw4 (by omega) _))
end Go.Proofs.YtfiefglagknclaaGreatDoor

/-
  scrimref05.Parse: the document's number of a text. (Printed by wip/bin/gen_dig10.py.)
-/
namespace Go.Proofs.YtfiefglagknclaaGreatDoor
open Go.RowKit
set_option maxHeartbeats 4000000
set_option maxRecDepth 100000
set_option linter.unusedVariables false

theorem cut_yes {s : List UInt8} (h : 2 ≤ s.length) (h0 : s[0].toNat = 194) (h1 : s[1].toNat = 175) : Lib.hasPrefix s [194, 175] = true ∧ Lib.trimPrefix s [194, 175] = s.drop 2 := by
  match s, h with
  | a :: b :: t, _ =>
    simp at h0 h1
    have e0 : a = 194 := UInt8.toNat_inj.1 h0
    have e1 : b = 175 := UInt8.toNat_inj.1 h1
    subst e0 e1
    exact ⟨rfl, rfl⟩
theorem cut_no {s : List UInt8} (h : ∀ h : 2 ≤ s.length, ¬ (s[0].toNat = 194 ∧ s[1].toNat = 175)) : Lib.hasPrefix s [194, 175] = false ∧ Lib.trimPrefix s [194, 175] = s := by
  have hp : Lib.hasPrefix s [194, 175] = false := by
    unfold Lib.hasPrefix
    match s, h with
    | [], _ => rfl
    | [a], _ => simp [List.isPrefixOf]
    | a :: b :: t, h =>
      simp [List.isPrefixOf]
      intro e0 e1
      exact h (by simp) ⟨by simp [← e0], by simp [← e1]⟩
  refine ⟨hp, ?_⟩
  unfold Lib.trimPrefix
  rw [hp]; rfl
theorem resL_num {w : World} {v : Value} {t : List UInt8} (h : IsRes w v (Nt.digs (Ten.numOf t))) (hd : ∀ b ∈ t, Ten.isDig b) (hs : t.length ≤ 500) : ResL w v (Nt.digs (Ten.numOf t)) := ⟨h, Nt.ok_digs _, by have := Dg.limbs_le hd 56 (by omega); omega⟩
theorem rmake_any (neg : Bool) (v1 v2 : Value) (x y : Nat) (w : World) (h1 : ResL w v1 (Nt.digs x)) (h2 : ResL w v2 (Nt.digs y)) :
    Calls Tryz.prog 26 #[.agg #[.bool neg, v1], .agg #[.bool false, v2]] w (MakeOut w (Rt.mk neg false x y)) := by
  have := make_any neg false v1 v2 _ _ w h1 h2
  rwa [Nt.val_digs, Nt.val_digs] at this

theorem setRow3 {w : World} {g : Nat} {t : TypeId} {x y z : Value} (h : w.heap[g]? = some (.cells #[x, y, z] t (0, 0))) (a b c : Value) : ((w.setCell ⟨g, 0, none⟩ a).setCell ⟨g, 1, none⟩ b).setCell ⟨g, 2, none⟩ c = w.setRow g #[a, b, c] := by
  obtain ⟨heap, os, tape, output, drawn⟩ := w
  simp only [World.setCell, World.setRow] at h ⊢
  congr 1
  apply Array.ext_getElem?
  intro i
  simp only [Array.getElem?_modify]
  by_cases e : g = i
  · subst e
    simp [h]
  · simp [e]
theorem refParse5_any (s : List UInt8) (w : World) (hs : s.length ≤ 100000) :
    Calls Tryz.prog 106 #[.string ⟨s.toArray⟩] w (MakeOut w (Dg.parse s)) := by
  rw [parse_cut]
  have hcl := cut_len s [194, 175]
  have HI3 : Hid (∀ (b : Bool) (A : Option Addr) (k c : Nat) (A' : Option Addr) (k' c' : Nat), (Tryz.prog.info? 26).map (·.size) = some (#[.bool b, .slice A k c, .slice A' k' c'] : Array Value).size) := Lib.hid (fun _ _ _ _ _ _ _ => num_info)
  have HGA : Hid ((w.alloc (.cells #[.bool false, .slice none 0 0, .slice none 0 0] 26)).heap[w.heap.size]? = some (.cells #[.bool false, .slice none 0 0, .slice none 0 0] 26 (0, 0))) := Lib.hid (heap_alloc_new w _)
  have hb0 : Below w.heap.size w (w.alloc (.cells #[.bool false, .slice none 0 0, .slice none 0 0] 26)) := (Below.refl _ _).alloc (Nat.le_refl _) _
  have HYES := Lib.hid (fun h h0 h1 => cut_yes (s := s) h h0 h1)
  have HNO := Lib.hid (fun h => cut_no (s := s) h)
  have HSF := Lib.hid (str_from s 2)
  generalize Lib.trimPrefix s [194, 175] = t at *
  generalize Lib.hasPrefix s [194, 175] = neg at *
  have htl : t.length ≤ 100000 := by omega
  clear hcl
  obtain ⟨W, hW⟩ : ∃ W, W = w.alloc (.cells #[.bool false, .slice none 0 0, .slice none 0 0] 26) := ⟨_, rfl⟩
  rw [← hW] at HGA hb0
  have HW := Lib.hid hW
  clear hW
  have hsz : (⟨t.toArray⟩ : ByteArray).size = t.length := rfl
  have HSZ := Lib.hid hsz
  clear hsz
  go_enter Tryz.func106, Tryz.ntmps106
  go_upto_region 1 with fail
  rw [← HW.out]
  go_cut [4] from 9 (fun n wx => n = .bool neg ∧ wx = W ∧ Hid ((neg = true → t = s.drop 2 ∧ 2 ≤ s.length) ∧ (neg = false → t = s)))
  case first =>
    by_cases h2 : 2 ≤ s.length
    · obtain ⟨x0, hx0⟩ : ∃ x, x = s[0].toNat := ⟨_, rfl⟩
      obtain ⟨x1, hx1⟩ : ∃ x, x = s[1].toNat := ⟨_, rfl⟩
      have g0 : ((⟨s.toArray⟩ : ByteArray)[0]'(show 0 < (⟨s.toArray⟩ : ByteArray).size from by show 0 < s.length; omega)).toNat = x0 := hx0.symm
      have g1 : ((⟨s.toArray⟩ : ByteArray)[1]'(show 1 < (⟨s.toArray⟩ : ByteArray).size from by show 1 < s.length; omega)).toNat = x1 := hx1.symm
      have i0 : 0 < s.length := by omega
      have i1 : 1 < s.length := by omega
      have HX0 := Lib.hid hx0
      have HX1 := Lib.hid hx1
      clear hx0 hx1
      by_cases e0 : x0 = 194
      · have q0 : ((x0 : Int) == 194) = true := by rw [e0]; rfl
        by_cases e1 : x1 = 175
        · have q1 : ((x1 : Int) == 175) = true := by rw [e1]; rfl
          have HP := Lib.hid (HYES.out h2 (by rw [← HX0.out]; exact e0) (by rw [← HX1.out]; exact e1))
          have HH2 := Lib.hid h2
          clear e0 e1
          go_wp2_with fail
          go_meet
          exact ⟨by rw [HP.out.1], rfl, Lib.hid ⟨fun _ => ⟨HP.out.2, HH2.out⟩, (fun h => by rw [HP.out.1] at h; cases h)⟩⟩
        · have q1 : ((x1 : Int) == 175) = false := beq_eq_false_iff_ne.2 (by omega)
          have HP := Lib.hid (HNO.out (fun _ h => e1 (by rw [HX1.out]; exact h.2)))
          clear e0 e1
          go_wp2_with fail
          go_meet
          exact ⟨by rw [HP.out.1], rfl, Lib.hid ⟨(fun h => by rw [HP.out.1] at h; cases h), fun _ => HP.out.2⟩⟩
      · have q0 : ((x0 : Int) == 194) = false := beq_eq_false_iff_ne.2 (by omega)
        have HP := Lib.hid (HNO.out (fun _ h => e0 (by rw [HX0.out]; exact h.1)))
        clear e0
        go_wp2_with fail
        go_meet
        exact ⟨by rw [HP.out.1], rfl, Lib.hid ⟨(fun h => by rw [HP.out.1] at h; cases h), fun _ => HP.out.2⟩⟩
    · have HP := Lib.hid (HNO.out (fun h _ => h2 h))
      go_wp2_with fail
      go_meet
      exact ⟨by rw [HP.out.1], rfl, Lib.hid ⟨(fun h => by rw [HP.out.1] at h; cases h), fun _ => HP.out.2⟩⟩
  case rest =>
    obtain ⟨rfl, rfl, HC⟩ := hcut
    rename World => W
    go_upto_if 22 with fail
    go_cut [0] from 9 (fun x wx => x = .string ⟨t.toArray⟩ ∧ wx = W)
    case first =>
      cases neg
      · have HT := Lib.hid (HC.out.2 rfl)
        go_wp2_with fail
        go_meet
        exact ⟨by rw [HT.out], rfl⟩
      · have HT := Lib.hid (HC.out.1 rfl)
        have h2 : 2 ≤ s.length := HT.out.2
        go_wp2_with fail
        go_meet
        exact ⟨by rw [HSF.out, HT.out.1], rfl⟩
    case rest =>
      obtain ⟨rfl, rfl⟩ := hcut
      rename World => W
      clear HC HSF HYES HNO
      by_cases h400 : 400 < t.length
      · have HE : Hid (400 < t.length) := Lib.hid h400
        go_wp2_with (with_reducible refine wpList_store_row rfl 26 (.tmp 2) (.tmp 28) rfl w.heap.size #[.bool false, .slice none 0 0, .slice none 0 0] rfl rfl 26 #[.bool false, .slice none 0 0, .slice none 0 0] HGA.out (HI3.out _ _ _ _ _ _ _) rfl (three_one _ _ _ _ _ _ _) ?_)
        refine bodyPost_ret (results_cell_row_tmp (by rfl) _ _ w.heap.size 26 #[.bool false, .slice none 0 0, .slice none 0 0] (0, 0) _ _ (by rfl) (by rfl) (rheap_same HGA.out) Tryz.underlying26 rfl (HI3.out _ _ _ _ _ _ _)) rfl (MakeOut.of (by unfold Dg.body; rw [if_pos HE.out]; rfl) rfl (isRes_nil _) (isRes_nil _) (rBelow.setRow hb0 (by omega) _))
      · have H400 : Hid (¬ 400 < t.length) := Lib.hid h400
        obtain ⟨n, hn⟩ : ∃ n, n = Dg.lead t := ⟨_, rfl⟩
        have LD := fun (wx : World) => refDigits_any t 0 wx (by omega) (by omega)
        rw [List.drop_zero] at LD
        have hll := Dg.lead_le t
        rw [← hn] at LD hll
        have LD : Hid (∀ wx : World, Calls Tryz.prog 124 #[.string ⟨t.toArray⟩, .int .i64 0] wx fun e w' => e = .returned (.int .i64 (n : Int)) ∧ wx = w') := Lib.hid LD
        have HN := Lib.hid hn
        clear hn
        go_wp2_with fail
        refine (LD.out _).mono ?_
        rintro e w' ⟨rfl, rfl⟩
        clear LD
        by_cases hl0 : n = 0
        · have hz : ((n : Int) == 0) = true := by rw [hl0]; rfl
          have HE : Hid (Dg.lead t = 0) := Lib.hid (by rw [← HN.out]; exact hl0)
          clear hl0
          go_wp2_with (with_reducible refine wpList_store_row rfl 26 (.tmp 2) (.tmp 33) rfl w.heap.size #[.bool false, .slice none 0 0, .slice none 0 0] rfl rfl 26 #[.bool false, .slice none 0 0, .slice none 0 0] HGA.out (HI3.out _ _ _ _ _ _ _) rfl (three_one _ _ _ _ _ _ _) ?_)
          refine bodyPost_ret (results_cell_row_tmp (by rfl) _ _ w.heap.size 26 #[.bool false, .slice none 0 0, .slice none 0 0] (0, 0) _ _ (by rfl) (by rfl) (rheap_same HGA.out) Tryz.underlying26 rfl (HI3.out _ _ _ _ _ _ _)) rfl (MakeOut.of (by unfold Dg.body; rw [if_neg H400.out, if_pos HE.out]; rfl) rfl (isRes_nil _) (isRes_nil _) (rBelow.setRow hb0 (by omega) _))
        · have hz : ((n : Int) == 0) = false := beq_eq_false_iff_ne.2 (by omega)
          have HL0 : Hid (¬ Dg.lead t = 0) := Lib.hid (by rw [← HN.out]; exact hl0)
          by_cases hlt : n < t.length
          · obtain ⟨y, hy⟩ : ∃ y, y = t[n].toNat := ⟨_, rfl⟩
            have hgy : ((⟨t.toArray⟩ : ByteArray)[n]'(show n < (⟨t.toArray⟩ : ByteArray).size from hlt)).toNat = y := hy.symm
            have HY : Hid (y = (t.getD n 0).toNat) := Lib.hid (by rw [hy, List.getD_eq_getElem?_getD, List.getElem?_eq_getElem hlt]; rfl)
            clear hy
            obtain ⟨ov, hov⟩ : ∃ ov, ov = t.take n := ⟨_, rfl⟩
            obtain ⟨bh, hbh⟩ : ∃ bh, bh = t.drop (n + 1) := ⟨_, rfl⟩
            have hovl : ov.length = n := by rw [hov, List.length_take]; omega
            have hbhl : bh.length = t.length - (n + 1) := by rw [hbh, List.length_drop]
            have HOL := Lib.hid hovl
            have hovl2 : ov.length ≤ 400 := by omega
            have hov0 : 0 < ov.length := by omega
            have hbhl2 : bh.length ≤ 400 := by omega
            have SU : Hid ((⟨t.toArray⟩ : ByteArray).extract 0 n = ⟨ov.toArray⟩) := Lib.hid (by rw [str_upto t n (by omega), hov])
            have SF : Hid ((⟨t.toArray⟩ : ByteArray).extract (n + 1) t.length = ⟨bh.toArray⟩) := Lib.hid (by rw [str_from, hbh])
            have HOV : Hid (ov = t.take (Dg.lead t)) := Lib.hid (by rw [← HN.out]; exact hov)
            have HBH : Hid (bh = t.drop (Dg.lead t + 1)) := Lib.hid (by rw [← HN.out]; exact hbh)
            have HBL : Hid (bh.length = t.length - (Dg.lead t + 1)) := Lib.hid (by rw [← HN.out]; exact hbhl)
            have HNE : Hid (¬ Dg.lead t = t.length) := Lib.hid (by rw [← HN.out]; omega)
            have HO : Hid (ov.length ≤ 500 ∧ ∀ b ∈ ov, Ten.isDig b) := Lib.hid ⟨by omega, by rw [HOV.out]; exact Dg.lead_take⟩
            have LB := fun (wx : World) => refDigits_any t (n + 1) wx (by omega) (by omega)
            rw [← hbh] at LB
            obtain ⟨m, hm⟩ : ∃ m, m = Dg.lead bh := ⟨_, rfl⟩
            have hml := Dg.lead_le bh
            rw [← hm] at LB hml
            have LB := Lib.hid LB
            have HM0 := Lib.hid hm
            have HEQ0 : Hid (Dg.body neg t = if m = 0 ∨ m < bh.length then (Rt.none_, 1) else if t.getD n 0 = 114 then Rt.mk neg false (Ten.numOf ov) (Ten.numOf bh) else if t.getD n 0 = 46 then Rt.mk neg false (Ten.numOf (ov ++ bh)) (10 ^ bh.length) else (Rt.none_, 1)) := Lib.hid (by
              unfold Dg.body
              rw [if_neg H400.out, if_neg HL0.out, if_neg HNE.out, ← HBL.out, ← HBH.out, ← HOV.out, ← HN.out, ← hm]
              have e : (t.length = n + 1 ∨ m < bh.length) = (m = 0 ∨ m < bh.length) := by rw [eq_iff_iff]; omega
              simp only [e])
            have HTL : Hid (n + 1 + bh.length = t.length) := Lib.hid (by omega)
            have hw5 : (n : Int) + 1 ≤ (t.length : Int) := by omega
            have q : ((n : Int) == (t.length : Int)) = false := beq_eq_false_iff_ne.2 (by omega)
            have hn0 : n ≤ 400 := by omega
            have hm0 : m ≤ 400 := by omega
            clear hov hbh hovl hbhl hm
            go_wp2_with fail
            refine (LB.out _).mono ?_
            rintro e w'' ⟨rfl, rfl⟩
            clear LB
            by_cases hmz : m = 0
            · have HM : Hid (m = 0 ∨ m < bh.length) := Lib.hid (.inl hmz)
              have q1 : ((m : Int) == 0) = true := by rw [hmz]; rfl
              clear hmz
              go_wp2_with (with_reducible refine wpList_store_row rfl 26 (.tmp 2) (.tmp 73) rfl w.heap.size #[.bool false, .slice none 0 0, .slice none 0 0] rfl rfl 26 #[.bool false, .slice none 0 0, .slice none 0 0] HGA.out (HI3.out _ _ _ _ _ _ _) rfl (three_one _ _ _ _ _ _ _) ?_)
              refine bodyPost_ret (results_cell_row_tmp (by rfl) _ _ w.heap.size 26 #[.bool false, .slice none 0 0, .slice none 0 0] (0, 0) _ _ (by rfl) (by rfl) (rheap_same HGA.out) Tryz.underlying26 rfl (HI3.out _ _ _ _ _ _ _)) rfl (MakeOut.of (by rw [HEQ0.out, if_pos HM.out]; rfl) rfl (isRes_nil _) (isRes_nil _) (rBelow.setRow hb0 (by omega) _))
            · have q1 : ((m : Int) == 0) = false := beq_eq_false_iff_ne.2 (by omega)
              by_cases hmb : m < bh.length
              · have HM : Hid (m = 0 ∨ m < bh.length) := Lib.hid (.inr hmb)
                have q2 : ((n : Int) + 1 + (m : Int) != (t.length : Int)) = true := by have := HTL.out; simp; omega
                clear hmz hmb
                go_wp2_with (with_reducible refine wpList_store_row rfl 26 (.tmp 2) (.tmp 73) rfl w.heap.size #[.bool false, .slice none 0 0, .slice none 0 0] rfl rfl 26 #[.bool false, .slice none 0 0, .slice none 0 0] HGA.out (HI3.out _ _ _ _ _ _ _) rfl (three_one _ _ _ _ _ _ _) ?_)
                refine bodyPost_ret (results_cell_row_tmp (by rfl) _ _ w.heap.size 26 #[.bool false, .slice none 0 0, .slice none 0 0] (0, 0) _ _ (by rfl) (by rfl) (rheap_same HGA.out) Tryz.underlying26 rfl (HI3.out _ _ _ _ _ _ _)) rfl (MakeOut.of (by rw [HEQ0.out, if_pos HM.out]; rfl) rfl (isRes_nil _) (isRes_nil _) (rBelow.setRow hb0 (by omega) _))
              · have HM : Hid (¬ (m = 0 ∨ m < bh.length)) := Lib.hid (fun h => h.elim hmz hmb)
                have HMB : Hid (m = bh.length) := Lib.hid (by omega)
                have q2 : ((n : Int) + 1 + (m : Int) != (t.length : Int)) = false := by have := HTL.out; simp; omega
                have hbh0 : 0 < bh.length := by omega
                have HBD : Hid (∀ b ∈ bh, Ten.isDig b) := Lib.hid (Dg.lead_full (by rw [← HM0.out]; omega))
                have HY114 : Hid (y = 114 → t.getD n 0 = 114) := Lib.hid (fun h => UInt8.toNat_inj.1 (by rw [← HY.out, h]; rfl))
                have HY46 : Hid (y = 46 → t.getD n 0 = 46) := Lib.hid (fun h => UInt8.toNat_inj.1 (by rw [← HY.out, h]; rfl))
                have HYN : Hid (∀ b : UInt8, t.getD n 0 = b → y = b.toNat) := Lib.hid (fun b h => by rw [HY.out, h])
                clear hmz hmb
                by_cases h114 : y = 114
                · have HD := Lib.hid (HY114.out h114)
                  have q114 : ((y : Int) == 114) = true := by rw [h114]; rfl
                  have q114' : ((y : Int) != 114) = false := by rw [h114]; rfl
                  clear h114
                  have HU : Hid (bh.length ≤ 500 ∧ ∀ b ∈ bh, Ten.isDig b) := Lib.hid ⟨by omega, HBD.out⟩
                  have HEQ : Hid (Dg.body neg t = Rt.mk neg false (Ten.numOf ov) (Ten.numOf bh)) := Lib.hid (by rw [HEQ0.out, if_neg HM.out, if_pos HD.out])
                  have NO := Lib.hid (fun (wx : World) => value_any ov wx (by omega) hov0 HO.out.2)
                  have NU := Lib.hid (fun (wx : World) => value_any bh wx (by omega) hbh0 HU.out.2)
                  have RO := Lib.hid (fun (wx : World) (v : Value) (h : IsRes wx v (Nt.digs (Ten.numOf ov))) => resL_num h HO.out.2 HO.out.1)
                  have RU := Lib.hid (fun (wx : World) (v : Value) (h : IsRes wx v (Nt.digs (Ten.numOf bh))) => resL_num h HU.out.2 HU.out.1)
                  obtain ⟨X, hX⟩ : ∃ X, X = Ten.numOf ov := ⟨_, rfl⟩
                  obtain ⟨Y, hY⟩ : ∃ Y, Y = Ten.numOf bh := ⟨_, rfl⟩
                  rw [← hX] at NO HEQ RO
                  rw [← hY] at NU HEQ RU
                  have MK := Lib.hid (fun (wx : World) v1 v2 h1 h2 => rmake_any neg v1 v2 X Y wx h1 h2)
                  rw [← SU.out] at NO
                  rw [← SF.out] at NU
                  have hw1 : IntKind.i64.wrap ((n : Int) + 1) = (n : Int) + 1 := IntWalk.i64_in _ (by omega)
                  have hw2 : (0 : Int) ≤ (n : Int) + 1 := by omega
                  have hw4 : ((n : Int) + 1).toNat = n + 1 := by omega
                  have hw6 : (0 : Int) ≤ (n : Int) := by omega
                  have hw7 : (n : Int) ≤ (t.length : Int) := by omega
                  have hbd : Below w.heap.size w W.drew := ⟨hb0.os, hb0.tape, hb0.output, hb0.size, hb0.block⟩
                  have HGD : Hid (W.drew.heap[w.heap.size]? = some (.cells #[.bool false, .slice none 0 0, .slice none 0 0] 26 (0, 0))) := Lib.hid HGA.out
                  clear hX hY
                  go_wp2_with fail
                  go_region_held3 (fun w' => True) (trivial)
                    (first
                      | ((with_reducible refine (NO.out _).mono ?_)
                         rintro e wo ⟨v1, rfl, hr1, hbO⟩
                         have HRO := Lib.hid (RO.out _ _ hr1)
                         have HG2 := Lib.hid ((hbO.block w.heap.size (blk_lt HGD.out)).trans HGD.out)
                         have hbw2 := hbd.trans (hbO.mono hbd.size)
                         obtain ⟨A1, c1, rfl, -⟩ := hr1
                         clear hbO)
                      | ((with_reducible refine (NU.out _).mono ?_)
                         rintro e wu ⟨v2, rfl, hr2, hbU⟩
                         have HRU := Lib.hid (RU.out _ _ hr2)
                         have HRO2 := Lib.hid (HRO.out.below hbU)
                         have HG3 := Lib.hid ((hbU.block w.heap.size (blk_lt HG2.out)).trans HG2.out)
                         have hbw3 := hbw2.trans (hbU.mono hbw2.size)
                         obtain ⟨A2, c2, rfl, -⟩ := hr2
                         clear hbU)
                      | ((with_reducible refine (MK.out _ _ _ HRO2.out HRU.out).mono ?_)
                         rintro e w4 ⟨r1, r2, rfl, hr3, hr4, hb4⟩
                         have HG4 := Lib.hid ((hb4.block w.heap.size (blk_lt HG3.out)).trans HG3.out)
                         have hbw4 := hbw3.trans (hb4.mono hbw3.size)
                         have HR3 := Lib.hid (hr3.setRow HG4.out (three_no_int _ _ _ _ _ _ _) #[.bool (Rt.mk neg false X Y).1.neg, r1, r2])
                         have HR4 := Lib.hid (hr4.setRow HG4.out (three_no_int _ _ _ _ _ _ _) #[.bool (Rt.mk neg false X Y).1.neg, r1, r2])
                         obtain ⟨A3, c3, rfl, -⟩ := hr3
                         obtain ⟨A4, c4, rfl, -⟩ := hr4
                         clear hb4 HG3 hbw3
                         generalize Rt.mk neg false X Y = R at *
                         obtain ⟨⟨rn, rt, rb⟩, re⟩ := R
                         dsimp only at HR3 HR4 HEQ ⊢
                         have c0 : w4.cell? ⟨w.heap.size, 0, none⟩ = some (.bool false) := (cell_of_row w4 w.heap.size 0 _ _ _ HG4.out).trans rfl
                         have c1 : w4.cell? ⟨w.heap.size, 1, none⟩ = some (.slice none 0 0) := (cell_of_row w4 w.heap.size 1 _ _ _ HG4.out).trans rfl
                         have c2 : w4.cell? ⟨w.heap.size, 2, none⟩ = some (.slice none 0 0) := (cell_of_row w4 w.heap.size 2 _ _ _ HG4.out).trans rfl
                         have z0 := Blk.frozen (vs := [.bool false, .slice none 0 0, .slice none 0 0]) HG4.out 0
                         have z1 := Blk.frozen (vs := [.bool false, .slice none 0 0, .slice none 0 0]) HG4.out 1
                         have z2 := Blk.frozen (vs := [.bool false, .slice none 0 0, .slice none 0 0]) HG4.out 2)
                      | fail)
                  go_wp2_with fail
                  rw [setRow3 HG4.out]
                  refine bodyPost_ret (results_cell_row_tmp (by rfl) _ _ w.heap.size 26 #[.bool rn, .slice A3 rt.length c3, .slice A4 rb.length c4] (0, 0) _ _ (by rfl) (by rfl) (rheap_same HG4.out) Tryz.underlying26 rfl (HI3.out _ _ _ _ _ _ _)) rfl (MakeOut.of HEQ.out rfl HR3.out HR4.out (rBelow.setRow hbw4 (by omega) _))
                · have q114 : ((y : Int) == 114) = false := beq_eq_false_iff_ne.2 (by omega)
                  have q114' : ((y : Int) != 114) = true := by simp; omega
                  have HD1 : Hid (¬ t.getD n 0 = 114) := Lib.hid (fun h => h114 (HYN.out _ h))
                  clear h114
                  by_cases h46 : y = 46
                  · have HD := Lib.hid (HY46.out h46)
                    have q46 : ((y : Int) != 46) = false := by rw [h46]; rfl
                    clear h46
                    obtain ⟨o2, ho2⟩ : ∃ o2, o2 = ov ++ bh := ⟨_, rfl⟩
                    have SO2 : Hid ((⟨t.toArray⟩ : ByteArray).extract 0 n ++ (⟨t.toArray⟩ : ByteArray).extract (n + 1) t.length = ⟨o2.toArray⟩) := Lib.hid (by rw [SU.out, SF.out]; apply ByteArray.ext; rw [ho2]; simp)
                    have HO2 : Hid (o2.length ≤ 500 ∧ ∀ b ∈ o2, Ten.isDig b) := Lib.hid ⟨by rw [ho2, List.length_append]; have := HTL.out; have := HOL.out; omega, by
                      intro b hb; rw [ho2] at hb; rcases List.mem_append.1 hb with hb | hb
                      · exact HO.out.2 b hb
                      · exact HBD.out b hb⟩
                    have hpos2 : 0 < o2.length := by rw [ho2, List.length_append]; omega
                    have HEQ : Hid (Dg.body neg t = Rt.mk neg false (Ten.numOf o2) (10 ^ m)) := Lib.hid (by rw [HEQ0.out, if_neg HM.out, if_neg HD1.out, if_pos HD.out, HMB.out, ho2])
                    have NO := Lib.hid (fun (wx : World) => value_any o2 wx (by have := HO2.out.1; omega) hpos2 HO2.out.2)
                    have RO := Lib.hid (fun (wx : World) (v : Value) (h : IsRes wx v (Nt.digs (Ten.numOf o2))) => resL_num h HO2.out.2 HO2.out.1)
                    obtain ⟨X, hX⟩ : ∃ X, X = Ten.numOf o2 := ⟨_, rfl⟩
                    rw [← hX] at NO HEQ RO
                    rw [← SO2.out] at NO
                    have HLT : Hid (∀ i, i ≤ m → (Nt.digs (10 ^ i)).length ≤ 64) := Lib.hid (fun i hi => by have := Dg.limbs_ten (k := i) 45 (by omega); omega)
                    have HST : Hid (∀ wx : World, IsRes (wx.alloc (.cells #[.int .u32 1] 22)) (.slice (some ⟨wx.heap.size, 0, none⟩) 1 1) (Nt.digs (10 ^ 0))) := Lib.hid (fun wx => by rw [Nat.pow_zero, digs_one]; exact isRes_new wx [1] (by decide))
                    have HMU : Hid (∀ (wx : World) (v : Value) (i : Nat), i ≤ m → IsRes wx v (Nt.digs (10 ^ i)) → Calls Tryz.prog 56 #[v, .slice (some ⟨wx.heap.size, 0, none⟩) 1 1] (wx.alloc (.cells #[.int .u32 10] 22)) fun e w' => ∃ v', e = .returned v' ∧ IsRes w' v' (Nt.digs (10 ^ (i + 1))) ∧ Below wx.heap.size wx w') := Lib.hid (fun wx v i hi hv => by
                      have hba : Below wx.heap.size wx (wx.alloc (.cells #[.int .u32 10] 22)) := (Below.refl _ _).alloc (Nat.le_refl _) _
                      have := rMul_res (hv.below hba) (isRes_new wx [10] (by decide)) (Nt.ok_digs _) (by intro d hd; rw [List.mem_singleton] at hd; subst hd; decide) (by have := HLT.out i hi; omega) (by decide)
                      rw [Nt.val_digs, show Nt.val [10] = 10 from rfl, ← Nat.pow_succ] at this
                      refine this.mono ?_
                      rintro e w' ⟨v', rfl, hr, hb⟩
                      exact ⟨v', rfl, hr, hba.trans (hb.mono hba.size)⟩)
                    have hw1 : IntKind.i64.wrap ((n : Int) + 1) = (n : Int) + 1 := IntWalk.i64_in _ (by omega)
                    have HW1 := Lib.hid hw1
                    have hbW : Below W.heap.size W (W.alloc (.cells #[.int .u32 1] 22)) := (Below.refl _ _).alloc (Nat.le_refl _) _
                    have HBW := Lib.hid hbW
                    clear hX hw1 ho2 hbW
                    go_wp2_with fail
                    go_loopw [7, 8] (fun bv iv wr => ∃ (i : Nat), i ≤ m ∧ iv = .int .i64 (i : Int) ∧ Hid (IsRes wr bv (Nt.digs (10 ^ i))) ∧ Below W.heap.size W wr) (fun _ iv _ => m - (intOf iv).toNat)
                    case atStart => exact ⟨0, Nat.zero_le _, rfl, Lib.hid (HST.out W), HBW.out⟩
                    case round =>
                      obtain ⟨i, him, rfl, HR, hbr⟩ := hrel
                      have hsr := hbr.size
                      by_cases hi : i < m
                      · have HMU2 := Lib.hid (HMU.out wr u7 i him HR.out)
                        go_wp2_with fail
                        refine HMU2.out.mono ?_
                        rintro e w5 ⟨v', rfl, hr5, hb5⟩
                        have HR5 := Lib.hid hr5
                        have hb6 := hbr.trans (hb5.mono hsr)
                        clear hr5 hb5 HMU2
                        go_wp2_with fail
                        go_roundw
                        case rel => exact ⟨i + 1, by omega, by go_num, HR5, hb6⟩
                        case measure => simp [intOf]; omega
                      · obtain rfl : i = m := by omega
                        have HRL : Hid (ResL wr u7 (Nt.digs (10 ^ i))) := Lib.hid ⟨HR.out, Nt.ok_digs _, HLT.out i (Nat.le_refl _)⟩
                        obtain ⟨A2, c2, rfl, -⟩ := HR.out
                        obtain ⟨Y, hY⟩ : ∃ Y, Y = 10 ^ i := ⟨_, rfl⟩
                        rw [← hY] at HRL HEQ HR ⊢
                        have MK := Lib.hid (fun (wx : World) v1 v2 h1 h2 => rmake_any neg v1 v2 X Y wx h1 h2)
                        have hbd : Below w.heap.size w wr.drew := by
                          have := hb0.trans (hbr.mono hb0.size)
                          exact ⟨this.os, this.tape, this.output, this.size, this.block⟩
                        have HGD : Hid (wr.drew.heap[w.heap.size]? = some (.cells #[.bool false, .slice none 0 0, .slice none 0 0] 26 (0, 0))) := Lib.hid ((hbr.block w.heap.size (blk_lt HGA.out)).trans HGA.out)
                        have HRD : Hid (ResL wr.drew (.slice A2 (Nt.digs Y).length c2) (Nt.digs Y)) := Lib.hid (HRL.out.below ⟨rfl, rfl, rfl, Nat.le_refl _, fun _ _ => rfl⟩)
                        have hw1 := HW1.out
                        have hw2 : (0 : Int) ≤ (n : Int) + 1 := by omega
                        have hw4 : ((n : Int) + 1).toNat = n + 1 := by omega
                        have hw6 : (0 : Int) ≤ (n : Int) := by omega
                        have hw7 : (n : Int) ≤ (t.length : Int) := by omega
                        have hcc : ¬ 9223372036854775807 < n + (t.length - (n + 1)) := by omega
                        clear hY HMU HST HLT HR HRL hi him HEQ0
                        go_wp2_with fail
                        go_region_held3 (fun w' => True) (trivial)
                          (first
                            | ((with_reducible refine (NO.out _).mono ?_)
                               rintro e wo ⟨v1, rfl, hr1, hbO⟩
                               have HRO := Lib.hid (RO.out _ _ hr1)
                               have HRU := Lib.hid (HRD.out.below hbO)
                               have HG3 := Lib.hid ((hbO.block w.heap.size (blk_lt HGD.out)).trans HGD.out)
                               have hbw3 := hbd.trans (hbO.mono hbd.size)
                               obtain ⟨A1, c1, rfl, -⟩ := hr1
                               clear hbO)
                            | ((with_reducible refine (MK.out _ _ _ HRO.out HRU.out).mono ?_)
                               rintro e w4 ⟨r1, r2, rfl, hr3, hr4, hb4⟩
                               have HG4 := Lib.hid ((hb4.block w.heap.size (blk_lt HG3.out)).trans HG3.out)
                               have hbw4 := hbw3.trans (hb4.mono hbw3.size)
                               have HR3 := Lib.hid (hr3.setRow HG4.out (three_no_int _ _ _ _ _ _ _) #[.bool (Rt.mk neg false X Y).1.neg, r1, r2])
                               have HR4 := Lib.hid (hr4.setRow HG4.out (three_no_int _ _ _ _ _ _ _) #[.bool (Rt.mk neg false X Y).1.neg, r1, r2])
                               obtain ⟨A3, c3, rfl, -⟩ := hr3
                               obtain ⟨A4, c4, rfl, -⟩ := hr4
                               clear hb4 HG3 hbw3
                               generalize Rt.mk neg false X Y = R at *
                               obtain ⟨⟨rn, rt, rb⟩, re⟩ := R
                               dsimp only at HR3 HR4 HEQ ⊢
                               have c0 : w4.cell? ⟨w.heap.size, 0, none⟩ = some (.bool false) := (cell_of_row w4 w.heap.size 0 _ _ _ HG4.out).trans rfl
                               have c1 : w4.cell? ⟨w.heap.size, 1, none⟩ = some (.slice none 0 0) := (cell_of_row w4 w.heap.size 1 _ _ _ HG4.out).trans rfl
                               have c2 : w4.cell? ⟨w.heap.size, 2, none⟩ = some (.slice none 0 0) := (cell_of_row w4 w.heap.size 2 _ _ _ HG4.out).trans rfl
                               have z0 := Blk.frozen (vs := [.bool false, .slice none 0 0, .slice none 0 0]) HG4.out 0
                               have z1 := Blk.frozen (vs := [.bool false, .slice none 0 0, .slice none 0 0]) HG4.out 1
                               have z2 := Blk.frozen (vs := [.bool false, .slice none 0 0, .slice none 0 0]) HG4.out 2)
                            | fail)
                        go_wp2_with fail
                        rw [setRow3 HG4.out]
                        refine bodyPost_ret (results_cell_row_tmp (by rfl) _ _ w.heap.size 26 #[.bool rn, .slice A3 rt.length c3, .slice A4 rb.length c4] (0, 0) _ _ (by rfl) (by rfl) (rheap_same HG4.out) Tryz.underlying26 rfl (HI3.out _ _ _ _ _ _ _)) rfl (MakeOut.of HEQ.out rfl HR3.out HR4.out (rBelow.setRow hbw4 (by omega) _))
                  · have q46 : ((y : Int) != 46) = true := by simp; omega
                    have HD2 : Hid (¬ t.getD n 0 = 46) := Lib.hid (fun h => h46 (HYN.out _ h))
                    clear h46
                    go_wp2_with (with_reducible refine wpList_store_row rfl 26 (.tmp 2) (.tmp 73) rfl w.heap.size #[.bool false, .slice none 0 0, .slice none 0 0] rfl rfl 26 #[.bool false, .slice none 0 0, .slice none 0 0] HGA.out (HI3.out _ _ _ _ _ _ _) rfl (three_one _ _ _ _ _ _ _) ?_)
                    refine bodyPost_ret (results_cell_row_tmp (by rfl) _ _ w.heap.size 26 #[.bool false, .slice none 0 0, .slice none 0 0] (0, 0) _ _ (by rfl) (by rfl) (rheap_same HGA.out) Tryz.underlying26 rfl (HI3.out _ _ _ _ _ _ _)) rfl (MakeOut.of (by rw [HEQ0.out, if_neg HM.out, if_neg HD1.out, if_neg HD2.out]; rfl) rfl (isRes_nil _) (isRes_nil _) (rBelow.setRow hb0 (by omega) _))
          · have HO : Hid (t.length ≤ 500 ∧ ∀ b ∈ t, Ten.isDig b) := Lib.hid ⟨by omega, Dg.lead_full (by rw [← HN.out]; omega)⟩
            have hpos : 0 < t.length := by omega
            have NO := Lib.hid (fun (wx : World) => value_any t wx (by omega) hpos HO.out.2)
            have HLE : Hid (n = t.length) := Lib.hid (by omega)
            have q : ((n : Int) == (t.length : Int)) = true := by rw [HLE.out]; simp
            have HEQ : Hid (Dg.body neg t = Rt.mk neg false (Ten.numOf t) 1) := Lib.hid (by unfold Dg.body; rw [if_neg H400.out, if_neg HL0.out, if_pos (by rw [← HN.out]; exact HLE.out)])
            obtain ⟨X, hX⟩ : ∃ X, X = Ten.numOf t := ⟨_, rfl⟩
            have RL := Lib.hid (fun (wx : World) (v : Value) (h : IsRes wx v (Nt.digs (Ten.numOf t))) => resL_num h HO.out.2 HO.out.1)
            rw [← hX] at NO HEQ RL
            clear hX
            go_wp2_with fail
            refine (NO.out _).mono ?_
            rintro e w2 ⟨v1, rfl, hr1, hb2⟩
            have HR1 := Lib.hid (RL.out _ _ hr1)
            have HG2 := Lib.hid ((hb2.block w.heap.size (blk_lt HGA.out)).trans HGA.out)
            have hbw2 := hb0.trans (hb2.mono hb0.size)
            obtain ⟨A1, c1, rfl, -⟩ := hr1
            have OF := Lib.hid (refOfInt_any 1 w2 (by decide) (by decide))
            clear hb2 NO RL
            go_wp2_with fail
            refine OF.out.mono ?_
            rintro e w3 ⟨v2, rfl, hr2, hb3⟩
            have MK := Lib.hid (rmake_any neg _ _ X 1 w3 (HR1.out.below hb3) hr2)
            have HG3 := Lib.hid ((hb3.block w.heap.size (blk_lt HG2.out)).trans HG2.out)
            have hbw3 := hbw2.trans (hb3.mono hbw2.size)
            obtain ⟨⟨A2, c2, rfl, -⟩, -⟩ := hr2
            clear hb3 HG2 hbw2 HR1 OF
            rw [show decide ((1 : Int) < 0) = false from rfl]
            obtain ⟨Y, hY⟩ : ∃ Y, Y = (1 : Nat) := ⟨_, rfl⟩
            have HY : Hid ((1 : Nat) = Y) := Lib.hid hY.symm
            rw [HY.out] at MK HEQ
            clear hY
            go_wp2_with fail
            refine MK.out.mono ?_
            rintro e w4 ⟨r1, r2, rfl, hr3, hr4, hb4⟩
            clear MK
            have HG4 := Lib.hid ((hb4.block w.heap.size (blk_lt HG3.out)).trans HG3.out)
            have hbw4 := hbw3.trans (hb4.mono hbw3.size)
            have HR3 := Lib.hid (hr3.setRow HG4.out (three_no_int _ _ _ _ _ _ _) #[.bool (Rt.mk neg false X Y).1.neg, r1, r2])
            have HR4 := Lib.hid (hr4.setRow HG4.out (three_no_int _ _ _ _ _ _ _) #[.bool (Rt.mk neg false X Y).1.neg, r1, r2])
            obtain ⟨A3, c3, rfl, -⟩ := hr3
            obtain ⟨A4, c4, rfl, -⟩ := hr4
            clear hb4 HG3 hbw3
            generalize Rt.mk neg false X Y = R at *
            obtain ⟨⟨rn, rt, rb⟩, re⟩ := R
            dsimp only at HR3 HR4 HEQ ⊢
            go_wp2_with (with_reducible refine wpList_store_row rfl 26 (.tmp 2) (.tmp 44) rfl w.heap.size #[.bool rn, .slice A3 rt.length c3, .slice A4 rb.length c4] rfl rfl 26 #[.bool false, .slice none 0 0, .slice none 0 0] HG4.out (HI3.out _ _ _ _ _ _ _) rfl (three_one _ _ _ _ _ _ _) ?_)
            refine bodyPost_ret (results_cell_row_tmp (by rfl) _ _ w.heap.size 26 #[.bool rn, .slice A3 rt.length c3, .slice A4 rb.length c4] (0, 0) _ _ (by rfl) (by rfl) (rheap_same HG4.out) Tryz.underlying26 rfl (HI3.out _ _ _ _ _ _ _)) rfl (MakeOut.of HEQ.out rfl HR3.out HR4.out (rBelow.setRow hbw4 (by omega) _))
end Go.Proofs.YtfiefglagknclaaGreatDoor

/-
  Chapter 5's example: scrimlaw05.awake returns true; numbers compared.
-/
namespace Go.Proofs.YtfiefglagknclaaGreatDoor
open Go.RowKit
set_option maxHeartbeats 2000000
set_option maxRecDepth 100000
set_option linter.unusedVariables false

theorem sameR_any (n n' : Rt.Nm) (v1 v2 v1' v2' : Value) (w : World) (h1 : IsRes w v1 n.top) (h2 : IsRes w v2 n.bot) (h1' : IsRes w v1' n'.top) (h2' : IsRes w v2' n'.bot) :
    Calls Tryz.prog 10 #[.agg #[.bool n.neg, v1, v2], .agg #[.bool n'.neg, v1', v2']] w fun e w' => e = .returned (.bool (decide (n = n'))) ∧ Below w.heap.size w w' := by
  obtain ⟨A1, c1, rfl, a1, a2, a3, a4⟩ := h1
  obtain ⟨A2, c2, rfl, b1, b2, b3, b4⟩ := h2
  obtain ⟨A3, c3, rfl, d1, d2, d3, d4⟩ := h1'
  obtain ⟨A4, c4, rfl, e1, e2, e3, e4⟩ := h2'
  have := refRatioSame_any n.neg n'.neg n.top n'.top n.bot n'.bot A1 A2 A3 A4 c1 c2 c3 c4 w w.heap.size a4 d4 b4 e4 (Nat.le_refl _) (by omega) (by omega) (by omega) (by omega)
  have e : sameNum n.neg n'.neg n.top n'.top n.bot n'.bot = decide (n = n') := by
    unfold sameNum
    obtain ⟨x, y, z⟩ := n
    obtain ⟨x', y', z'⟩ := n'
    rw [Bool.eq_iff_iff]
    simp [and_assoc]
  rwa [e] at this

theorem body_a : Dg.parse [194, 175, 51, 114, 50] = (⟨true, [3], [2]⟩, 0) := by
  show Dg.body true [51, 114, 50] = _
  have h : Dg.body true [51, 114, 50] = Rt.mk true false 3 2 := by decide +kernel
  rw [h]
  unfold Rt.mk
  rw [if_neg (by decide), show Nat.gcd 3 2 = 1 from by decide, Nat.div_one, Nat.div_one, digs_small (n := 3) (by decide) (by decide), digs_small (n := 2) (by decide) (by decide), if_neg (by decide)]
  rfl
theorem body_b : Dg.parse [194, 175, 49, 46, 53] = (⟨true, [3], [2]⟩, 0) := by
  show Dg.body true [49, 46, 53] = _
  have h : Dg.body true [49, 46, 53] = Rt.mk true false 15 10 := by decide +kernel
  rw [h]
  unfold Rt.mk
  rw [if_neg (by decide), show Nat.gcd 15 10 = 5 from by decide, show 15 / 5 = 3 from rfl, show 10 / 5 = 2 from rfl, digs_small (n := 3) (by decide) (by decide), digs_small (n := 2) (by decide) (by decide), if_neg (by decide)]
  rfl
theorem body_c : Dg.parse [49, 114, 48] = (Rt.none_, 3) := by
  show Dg.body false [49, 114, 48] = _
  have h : Dg.body false [49, 114, 48] = Rt.mk false false 1 0 := by decide +kernel
  rw [h]
  unfold Rt.mk
  rw [if_pos rfl]
theorem print_a : Dg.print ⟨true, [3], [2]⟩ = [194, 175, 51, 114, 50] := by
  unfold Dg.print
  rw [show Nt.val [3] = 3 from rfl, show Nt.val [2] = 2 from rfl, Ten.dec_small (show 3 < 10 by decide), Ten.dec_small (show 2 < 10 by decide)]
  rfl

theorem awake5_any (w : World) (hp : Pow10 w) :
    Calls Tryz.prog 11 #[] w fun e w' => e = .returned (.bool true) ∧ Below w.heap.size w w' := by
  have PA := fun (wx : World) => digParse_any [194, 175, 51, 114, 50] wx (by decide)
  have PB := fun (wx : World) => digParse_any [194, 175, 49, 46, 53] wx (by decide)
  have PC := fun (wx : World) => digParse_any [49, 114, 48] wx (by decide)
  rw [body_a] at PA
  rw [body_b] at PB
  rw [body_c] at PC
  have HPA := Lib.hid PA
  have HPB := Lib.hid PB
  have HPC := Lib.hid PC
  have HP := Lib.hid (fun (wx : World) (h : Below w.heap.size w wx) => hp.below h)
  have HI3 : Hid (∀ (b : Bool) (A : Option Addr) (k c : Nat) (A' : Option Addr) (k' c' : Nat), (Tryz.prog.info? 26).map (·.size) = some (#[.bool b, .slice A k c, .slice A' k' c'] : Array Value).size) := Lib.hid (fun _ _ _ _ _ _ _ => num_info)
  clear PA PB PC hp
  go_enter Tryz.func11, Tryz.ntmps11
  go_wp2_with fail
  refine (HPA.out _).mono ?_
  rintro e w1 ⟨t1, u1, rfl, ht1, hu1, hb1⟩
  dsimp only at ht1 hu1
  have HT1 := Lib.hid ht1
  have HU1 := Lib.hid hu1
  obtain ⟨A1, c1, rfl, -⟩ := ht1
  obtain ⟨A1', c1', rfl, -⟩ := hu1
  have HT1 : Hid (IsRes w1 (.slice A1 1 c1) [3]) := HT1
  have HU1 : Hid (IsRes w1 (.slice A1' 1 c1') [2]) := HU1
  obtain ⟨W1, hW1⟩ : ∃ W1, W1 = w1.alloc (.cells #[.bool true, .slice A1 1 c1, .slice A1' 1 c1'] 26) := ⟨_, rfl⟩
  have hbw1 : Below w.heap.size w W1 := by rw [hW1]; exact hb1.alloc hb1.size _
  have hb1' : Below w1.heap.size w1 W1 := by rw [hW1]; exact (Below.refl _ _).alloc (Nat.le_refl _) _
  have hs1 : W1.heap.size = w1.heap.size + 1 := by rw [hW1]; simp
  have HG1 : Hid (W1.heap[w1.heap.size]? = some (.cells #[.bool true, .slice A1 1 c1, .slice A1' 1 c1'] 26 (0, 0))) := Lib.hid (by rw [hW1]; exact heap_alloc_new _ _)
  have HW1 := Lib.hid hW1
  have HT1 := Lib.hid (HT1.out.below hb1')
  have HU1 := Lib.hid (HU1.out.below hb1')
  clear hW1 hb1 hb1' HPA
  go_wp2_with fail
  rw [← HW1.out]
  refine (HPB.out _).mono ?_
  rintro e w2 ⟨t2, u2, rfl, ht2, hu2, hb2⟩
  dsimp only at ht2 hu2
  have HT2 := Lib.hid ht2
  have HU2 := Lib.hid hu2
  obtain ⟨A2, c2, rfl, -⟩ := ht2
  obtain ⟨A2', c2', rfl, -⟩ := hu2
  have HT2 : Hid (IsRes w2 (.slice A2 1 c2) [3]) := HT2
  have HU2 : Hid (IsRes w2 (.slice A2' 1 c2') [2]) := HU2
  obtain ⟨W2, hW2⟩ : ∃ W2, W2 = w2.alloc (.cells #[.bool true, .slice A2 1 c2, .slice A2' 1 c2'] 26) := ⟨_, rfl⟩
  have hb2' : Below w2.heap.size w2 W2 := by rw [hW2]; exact (Below.refl _ _).alloc (Nat.le_refl _) _
  have hb12 : Below W1.heap.size W1 W2 := hb2.trans (hb2'.mono hb2.size)
  have hs2 : W2.heap.size = w2.heap.size + 1 := by rw [hW2]; simp
  have hbw2 : Below w.heap.size w W2 := hbw1.trans (hb12.mono hbw1.size)
  have HG12 := Lib.hid ((hb12.block w1.heap.size (by omega)).trans HG1.out)
  have HG2 : Hid (W2.heap[w2.heap.size]? = some (.cells #[.bool true, .slice A2 1 c2, .slice A2' 1 c2'] 26 (0, 0))) := Lib.hid (by rw [hW2]; exact heap_alloc_new _ _)
  have HW2 := Lib.hid hW2
  have HT12 := Lib.hid (HT1.out.below hb12)
  have HU12 := Lib.hid (HU1.out.below hb12)
  have HT2 := Lib.hid (HT2.out.below hb2')
  have HU2 := Lib.hid (HU2.out.below hb2')
  have hs12 := hb12.size
  clear hW2 hb2 hb2' hb12 HPB HG1 HT1 HU1 hbw1
  go_wp2_with fail
  rw [← HW2.out]
  refine (HPC.out _).mono ?_
  rintro e w3 ⟨t3, u3, rfl, ht3, hu3, hb3⟩
  dsimp only [Rt.none_] at ht3 hu3 ⊢
  obtain ⟨A3, c3, rfl, -⟩ := ht3
  obtain ⟨A3', c3', rfl, -⟩ := hu3
  obtain ⟨W3, hW3⟩ : ∃ W3, W3 = w3.alloc (.cells #[.bool false, .slice A3 0 c3, .slice A3' 0 c3'] 26) := ⟨_, rfl⟩
  have hb23 : Below W2.heap.size W2 W3 := by rw [hW3]; exact hb3.alloc hb3.size _
  have hbw3 : Below w.heap.size w W3 := hbw2.trans (hb23.mono hbw2.size)
  have HG1 := Lib.hid ((hb23.block w1.heap.size (by omega)).trans HG12.out)
  have HG2' := Lib.hid ((hb23.block w2.heap.size (by omega)).trans HG2.out)
  have HT1 := Lib.hid (HT12.out.below hb23)
  have HU1 := Lib.hid (HU12.out.below hb23)
  have HT2' := Lib.hid (HT2.out.below hb23)
  have HU2' := Lib.hid (HU2.out.below hb23)
  have HW3 := Lib.hid hW3
  have p0 : W3.cell? ⟨w1.heap.size, 0, none⟩ = some (.bool true) := (cell_of_row W3 w1.heap.size 0 _ _ _ HG1.out).trans rfl
  have p1 : W3.cell? ⟨w1.heap.size, 1, none⟩ = some (.slice A1 1 c1) := (cell_of_row W3 w1.heap.size 1 _ _ _ HG1.out).trans rfl
  have p2 : W3.cell? ⟨w1.heap.size, 2, none⟩ = some (.slice A1' 1 c1') := (cell_of_row W3 w1.heap.size 2 _ _ _ HG1.out).trans rfl
  have q0 : W3.cell? ⟨w2.heap.size, 0, none⟩ = some (.bool true) := (cell_of_row W3 w2.heap.size 0 _ _ _ HG2'.out).trans rfl
  have q1 : W3.cell? ⟨w2.heap.size, 1, none⟩ = some (.slice A2 1 c2) := (cell_of_row W3 w2.heap.size 1 _ _ _ HG2'.out).trans rfl
  have q2 : W3.cell? ⟨w2.heap.size, 2, none⟩ = some (.slice A2' 1 c2') := (cell_of_row W3 w2.heap.size 2 _ _ _ HG2'.out).trans rfl
  have SM := sameR_any ⟨true, [3], [2]⟩ ⟨true, [3], [2]⟩ _ _ _ _ W3 HT1.out HU1.out HT2'.out HU2'.out
  rw [decide_eq_true rfl] at SM
  have HSM := Lib.hid SM
  have hlt1 : w1.heap.size < W3.heap.size := by have := hb23.size; omega
  clear SM hW3 hb3 HPC HG12 HG2 HT12 HU12 HT2 HU2 hb23 hbw2
  have hT1 := HT1.out
  have hU1 := HU1.out
  have L1 : ∀ wx, Below W3.heap.size W3 wx → NumR wx ⟨true, [3], [2]⟩ (.slice A1 1 c1) (.slice A1' 1 c1') := fun wx hx => ⟨hT1.below hx, hU1.below hx, (by intro d hd; rw [List.mem_singleton] at hd; subst hd; decide), (by intro d hd; rw [List.mem_singleton] at hd; subst hd; decide), by decide, by decide⟩
  have PR := Lib.hid (fun (wx : World) (hx : Below W3.heap.size W3 wx) => digPrint_any ⟨true, [3], [2]⟩ _ _ wx (L1 wx hx) (HP.out wx (hbw3.trans (hx.mono hbw3.size))))
  rw [print_a] at PR
  clear hT1 hU1 L1 HT1 HU1 HT2' HU2' HP
  go_upto_region 4 with fail
  rw [← HW3.out]
  go_wp2_with fail
  refine HSM.out.mono ?_
  rintro e w4 ⟨rfl, hb4⟩
  have HG14 := Lib.hid ((hb4.block w1.heap.size hlt1).trans HG1.out)
  have PR4 := Lib.hid (PR.out w4 hb4)
  have hbw4 := hbw3.trans (hb4.mono hbw3.size)
  have r0 : w4.cell? ⟨w1.heap.size, 0, none⟩ = some (.bool true) := (cell_of_row w4 w1.heap.size 0 _ _ _ HG14.out).trans rfl
  have r1 : w4.cell? ⟨w1.heap.size, 1, none⟩ = some (.slice A1 1 c1) := (cell_of_row w4 w1.heap.size 1 _ _ _ HG14.out).trans rfl
  have r2 : w4.cell? ⟨w1.heap.size, 2, none⟩ = some (.slice A1' 1 c1') := (cell_of_row w4 w1.heap.size 2 _ _ _ HG14.out).trans rfl
  clear hb4 HSM PR HG1 HG2' p0 p1 p2 q0 q1 q2 HW3
  go_wp2_with fail
  refine PR4.out.mono ?_
  rintro e w5 ⟨rfl, hb5⟩
  have hbw5 := hbw4.trans (hb5.mono hbw4.size)
  clear hb5 PR4
  go_wp2_with fail
  go_ret
  exact ⟨rfl, hbw5⟩
end Go.Proofs.YtfiefglagknclaaGreatDoor

/-
  glyph.Decode: the characters of bytes.
-/
namespace Go.Proofs.YtfiefglagknclaaGreatDoor
open Go.RowKit
set_option maxHeartbeats 2000000
set_option maxRecDepth 100000
set_option linter.unusedVariables false

theorem i64_info : (Tryz.prog.info? 3).map (fun i => (i.zero, i.size, i.bytes)) = some (some (.int .i64 0), 1, 8) := by kernel_rfl
/-- Characters in memory. -/
def IsCh (w : World) (v : Value) (l : List Int) : Prop := ∃ A c, v = .slice A l.length c ∧ l.length ≤ c ∧ c ≤ 9223372036854775807 ∧ Lies w w.heap.size A (I64 l)
theorem IsCh.below {w w' : World} {v : Value} {l : List Int} (h : IsCh w v l) (hb : Below w.heap.size w w') : IsCh w' v l := by
  obtain ⟨A, c, h1, h2, h3, h5⟩ := h
  exact ⟨A, c, h1, h2, h3, (h5.below hb).more hb.size⟩
theorem IsCh.of_own {w : World} {base : Nat} {v : Value} {l : List Int} (h : w.ownsRow base 3 1 v l.length (I64 l)) : IsCh w v l := by
  obtain ⟨A, c, rfl, h1, h2⟩ := own_slice h
  exact ⟨A, c, rfl, h1, h2, Lies.of_own h⟩
/-- The characters, and where there is none (-1: nowhere). -/
def ChOut (w : World) (l : List Int) (bad : Int) (e : Ending) (w' : World) : Prop := ∃ v, e = .returned (.tuple #[v, .int .i64 bad]) ∧ IsCh w' v l ∧ Below w.heap.size w w'
theorem I64_append (a : List Int) (x : Int) : I64 (a ++ [x]) = I64 a ++ [.int .i64 x] := by unfold I64; simp
theorem ext_list (s : ByteArray) (i : Nat) : (s.extract i s.size).data.toList = s.data.toList.drop i := by
  simp
  exact List.take_of_length_le (by simp)

theorem decode_any (s : ByteArray) (w : World) (hs : s.size ≤ 1000000) :
    Calls Tryz.prog 32 #[.string s] w (ChOut w (Gl.ints (Gl.dec s 0).1) (Gl.badI (Gl.dec s 0).2)) := by
  obtain ⟨i0, hi, hz0, hz1, hz2⟩ := info_parts i64_info
  have HPX := Lib.hid (fun (t : ByteArray) (wx : World) => Tryz.strings_HasPrefix t ⟨#[239, 191, 189]⟩ wx)
  have hit0 : (w.iter s 0).heap[w.heap.size]? = some (.stringIter s 0) := by simp [World.iter_heap]
  have hbi0 : Below w.heap.size w (w.iter s 0) := (Below.refl _ _).alloc (Nat.le_refl _) _
  have hszi : (w.iter s 0).heap.size = w.heap.size + 1 := by simp [World.iter]
  have HI0 := Lib.hid hit0
  have HSI := Lib.hid hszi
  clear hit0 hszi
  go_enter Tryz.func32, Tryz.ntmps32
  go_wp2_with fail
  go_loopw [4] (fun ov wr => ∃ (pos : Nat) (done : List Nat), Hid (wr.heap[w.heap.size]? = some (.stringIter s pos)) ∧ wr.ownsRow (w.heap.size + 1) 3 1 ov done.length (I64 (Gl.ints done)) ∧ Below w.heap.size w wr ∧ w.heap.size + 1 ≤ wr.heap.size ∧ Hid (Gl.DecAt s pos done)) (fun _ wr => s.size - wr.iterPos w.heap.size)
  case atStart => exact ⟨0, [], HI0, World.ownsRow_nil _ _ _ _, hbi0, by rw [HSI.out]; exact Nat.le_refl _, Lib.hid (Gl.DecAt.start s)⟩
  case round =>
    clear hbi0
    obtain ⟨pos, done, HIT, hown, hbel, hsz, H⟩ := hrel
    have hdl := H.out.len
    have hIP : wr.iterPos w.heap.size = pos := by unfold World.iterPos; rw [HIT.out]
    have HIP := Lib.hid hIP
    clear hIP
    by_cases hp : pos < s.size
    · have hnx : ∀ ty, (Instr.next (.pointer (some ⟨w.heap.size, 0, none⟩)) true ty).run Tryz.prog wr = _ := fun ty => Lib.run_next_any_at wr w.heap.size s pos ty HIT.out hp
      have HPX2 := Lib.hid (by have := HPX.out (s.extract pos s.size); rw [ext_list] at this; exact this)
      cases hr : Gl.read s pos with
      | none =>
        obtain ⟨hd, hpre⟩ := Gl.sub_no hp hr
        have HB := Lib.hid (H.out.bad hp hr)
        have HPX3 := Lib.hid (fun wx => by have := HPX2.out wx; rw [hpre] at this; exact this)
        rw [hd] at hnx
        obtain ⟨W2, hW2⟩ : ∃ W2, W2 = wr.iterAt w.heap.size s (pos + 1) := ⟨_, rfl⟩
        have hown2 : W2.ownsRow (w.heap.size + 1) 3 1 u4 done.length (I64 (Gl.ints done)) := by
          rw [hW2]; exact own_keep hown (fun g hg _ => Lib.iterAt_other _ _ _ _ _ (by omega))
        have hbel2 : Below w.heap.size w W2 := by rw [hW2]; exact Lib.below_iterAt hbel (Nat.le_refl _) _ _
        have HL := Lib.hid (IsCh.of_own (by rw [show (Gl.ints done).length = done.length by simp [Gl.ints]]; exact hown2))
        simp only [← hW2] at hnx
        have HNE : Hid (Gl.ints (Gl.dec s 0).1 = Gl.ints done ∧ Gl.badI (Gl.dec s 0).2 = (pos : Int)) := Lib.hid (by rw [HB.out]; exact ⟨rfl, rfl⟩)
        have hps : pos ≤ s.size := by omega
        clear hd hpre hr HPX2 hown hbel hW2 H hown2
        go_wp2_with fail
        refine (HPX3.out _).mono ?_
        rintro e w' ⟨rfl, rfl⟩
        go_wp2_with fail
        go_ret2
        exact ⟨_, by rw [HNE.out.2]; rfl, by rw [HNE.out.1]; exact HL.out, hbel2⟩
      | some p =>
        obtain ⟨c, n⟩ := p
        obtain ⟨hd, hpre⟩ := Gl.sub_yes hp hr
        have hpos := Gl.read_pos hr
        have HST := Lib.hid (H.out.step hp hr)
        have hmay := Gl.read_may hp hr
        have hc : c ≤ 1114111 := by unfold Gl.may at hmay; simp at hmay; omega
        have HPX3 := Lib.hid (fun wx => by have := HPX2.out wx; exact this)
        rw [hd] at hnx
        obtain ⟨W2, hW2⟩ : ∃ W2, W2 = wr.iterAt w.heap.size s (pos + n) := ⟨_, rfl⟩
        have hown2 : W2.ownsRow (w.heap.size + 1) 3 1 u4 done.length (I64 (Gl.ints done)) := by
          rw [hW2]; exact own_keep hown (fun g hg _ => Lib.iterAt_other _ _ _ _ _ (by omega))
        have hbel2 : Below w.heap.size w W2 := by rw [hW2]; exact Lib.below_iterAt hbel (Nat.le_refl _) _ _
        have HIT2 : Hid (W2.heap[w.heap.size]? = some (.stringIter s (pos + n))) := Lib.hid (by rw [hW2]; exact Lib.iterAt_heap _ _ _ _ _ HIT.out)
        have hsz2 : w.heap.size + 1 ≤ W2.heap.size := by rw [hW2, Lib.iterAt_size]; exact hsz
        simp only [← hW2] at hnx
        have hps : pos ≤ s.size := by omega
        obtain ⟨A2, C2, rfl, hC1, hC2⟩ := own_slice hown2
        have hlen : (I64 (Gl.ints done)).length = done.length := by simp [I64, Gl.ints]
        have HAP : Hid (I64 (Gl.ints (done ++ [c])) = I64 (Gl.ints done) ++ [.int .i64 (c : Int)]) := Lib.hid (by unfold Gl.ints; rw [List.map_append, List.map_singleton, I64_append])
        clear hd hr HPX2 hown hbel hW2 H hmay HIT
        by_cases hce : c = 65533
        · have hp2 := hpre hce
          have q : ((c : Int) == 65533) = true := by rw [hce]; rfl
          have HPX4 := Lib.hid (fun wx => by have := HPX3.out wx; rw [hp2] at this; exact this)
          clear hce hpre hp2 HPX3
          go_wp2_with fail
          refine (HPX4.out _).mono ?_
          rintro e w' ⟨rfl, rfl⟩
          go_wp2_with (at_builtin; refine wpList_append_own _ rfl _ _ 62 rfl (w.heap.size + 1) 3 i0 (.int .i64 0) 1 8 Tryz.underlying62 hi hz0 hz1 hz2 rfl (by decide) _ _ _ rfl (hown2.alloc _) ⟨_, 0, none⟩ 1 1 [.int .i64 (c : Int)] rfl rfl (cell_one_new _ _ _) (by intro u hu; simp only [List.mem_singleton] at hu; subst hu; rfl) (by unfold maxLen; omega) (by omega) (by simp; omega) ?_; intro v3 w3 hown3 hgrow3 hnn3)
          have hbel3 : Below w.heap.size w w3 := (hbel2.alloc hbel2.size _).grown hgrow3 (by simp; omega) (fun k hk => by have := (hown2.lt k hk).1; omega)
          have HIT3 : Hid (w3.heap[w.heap.size]? = some (.stringIter s (pos + n))) := Lib.hid (by
            have hlt := blk_lt HIT2.out
            rw [hgrow3.block w.heap.size (by simp; omega) (fun e => by have := (hown2.lt _ e.symm).1; omega)]
            exact (Below.heap_alloc _ _ _ hlt).trans HIT2.out)
          have hsz3 : w.heap.size + 1 ≤ w3.heap.size := by have := hgrow3.size; simp at this; omega
          go_roundw
          case rel => exact ⟨pos + n, done ++ [c], HIT3, by rw [HAP.out]; simpa using hown3, hbel3, hsz3, HST⟩
          case measure =>
            have h1 : w3.iterPos w.heap.size = pos + n := by unfold World.iterPos; rw [HIT3.out]
            have h2 := HIP.out
            simp only [h1, h2]
            omega
        · have q : ((c : Int) == 65533) = false := beq_eq_false_iff_ne.2 (by omega)
          clear hce hpre HPX3
          go_wp2_with (at_builtin; refine wpList_append_own _ rfl _ _ 62 rfl (w.heap.size + 1) 3 i0 (.int .i64 0) 1 8 Tryz.underlying62 hi hz0 hz1 hz2 rfl (by decide) _ _ _ rfl (hown2.alloc _) ⟨_, 0, none⟩ 1 1 [.int .i64 (c : Int)] rfl rfl (cell_one_new _ _ _) (by intro u hu; simp only [List.mem_singleton] at hu; subst hu; rfl) (by unfold maxLen; omega) (by omega) (by simp; omega) ?_; intro v3 w3 hown3 hgrow3 hnn3)
          have hbel3 : Below w.heap.size w w3 := (hbel2.alloc hbel2.size _).grown hgrow3 (by simp; omega) (fun k hk => by have := (hown2.lt k hk).1; omega)
          have HIT3 : Hid (w3.heap[w.heap.size]? = some (.stringIter s (pos + n))) := Lib.hid (by
            have hlt := blk_lt HIT2.out
            rw [hgrow3.block w.heap.size (by simp; omega) (fun e => by have := (hown2.lt _ e.symm).1; omega)]
            exact (Below.heap_alloc _ _ _ hlt).trans HIT2.out)
          have hsz3 : w.heap.size + 1 ≤ w3.heap.size := by have := hgrow3.size; simp at this; omega
          go_roundw
          case rel => exact ⟨pos + n, done ++ [c], HIT3, by rw [HAP.out]; simpa using hown3, hbel3, hsz3, HST⟩
          case measure =>
            have h1 : w3.iterPos w.heap.size = pos + n := by unfold World.iterPos; rw [HIT3.out]
            have h2 := HIP.out
            simp only [h1, h2]
            omega
    · have hnx : ∀ ty, (Instr.next (.pointer (some ⟨w.heap.size, 0, none⟩)) true ty).run Tryz.prog wr = _ := fun ty => Lib.run_next_end_at wr w.heap.size s pos ty HIT.out hp
      have HB := Lib.hid (H.out.done hp)
      have HNE : Hid (Gl.ints (Gl.dec s 0).1 = Gl.ints done ∧ Gl.badI (Gl.dec s 0).2 = -1) := Lib.hid (by rw [HB.out]; exact ⟨rfl, rfl⟩)
      have HL := Lib.hid (IsCh.of_own (by rw [show (Gl.ints done).length = done.length by simp [Gl.ints]]; exact hown))
      clear hown H
      go_wp2_with fail
      go_ret2
      exact ⟨_, by rw [HNE.out.2]; rfl, by rw [HNE.out.1]; exact HL.out, hbel⟩
end Go.Proofs.YtfiefglagknclaaGreatDoor

/-
  glyph.Encode: the bytes of characters that may be.
-/
namespace Go.Proofs.YtfiefglagknclaaGreatDoor
open Go.RowKit
set_option maxHeartbeats 2000000
set_option maxRecDepth 100000
set_option linter.unusedVariables false

/-- A character's bytes, as cells. -/
theorem runeCells_one {x : Int} (h : Gl.may x = true) : Lib.runeCells x = Lib.byteCells (Tk.enc1 x) := by
  unfold Gl.may at h
  simp only [Bool.and_eq_true, Bool.or_eq_true, decide_eq_true_eq] at h
  obtain ⟨⟨h0, h1⟩, h2⟩ := h
  obtain ⟨n, rfl⟩ : ∃ n : Nat, x = (n : Int) := ⟨x.toNat, by omega⟩
  unfold Lib.runeCells Lib.byteCells Tk.enc1 Gl.one
  rw [Int.toNat_natCast]
  by_cases a : n < 128
  · rw [if_pos a, Lib.encodeRuneZ_one (by omega) (by omega)]
    simp
    omega
  · rw [if_neg a]
    by_cases b : n < 2048
    · rw [if_pos b, Lib.encodeRuneZ_two (by omega) (by omega)]
      simp
      omega
    · rw [if_neg b]
      by_cases c : n < 65536
      · rw [if_pos c, Lib.encodeRuneZ_three (by omega)]
        simp
        omega
      · rw [if_neg c, Lib.encodeRuneZ_four (by omega) (by omega)]
        simp
        omega
theorem enc_snoc (l : List Int) (x : Int) : Tk.enc (l ++ [x]) = Tk.enc l ++ Tk.enc1 x := by unfold Tk.enc; simp
theorem enc1_len (x : Int) : (Tk.enc1 x).length ≤ 4 := by unfold Tk.enc1; rw [List.length_map, Gl.one_len]; unfold Gl.wide; split <;> (try omega); split <;> (try omega); split <;> omega
theorem enc_len : ∀ l : List Int, (Tk.enc l).length ≤ 4 * l.length
  | [] => by simp [Tk.enc]
  | a :: r => by
    have h1 := enc1_len a
    have h2 := enc_len r
    unfold Tk.enc at h2 ⊢
    rw [List.flatMap_cons, List.length_append, List.length_cons]
    omega
theorem u8_info : (Tryz.prog.info? 5).map (fun i => (i.zero, i.size, i.bytes)) = some (some (.int .u8 0), 1, 1) := by kernel_rfl

/-- 'string(b)' of bytes that a call owns. -/
theorem conv_own {w : World} {base : Nat} {v : Value} {t : List UInt8} (h : w.ownsRow base 5 1 v t.length (Lib.byteCells t)) : (convert 82 9 v).run Tryz.prog w = .ok (.string ⟨t.toArray⟩) w := by
  obtain ⟨A, C, rfl, hC1, hC2⟩ := own_slice h
  have hl := Lies.of_own h
  by_cases h0 : t = []
  · subst h0
    cases A with
    | none => rw [run_convert_bytes_string w 82 9 5 none _ _ Tryz.underlying82 Tryz.underlying5 Tryz.underlying9]; rfl
    | some a => exact run_convert_bytes_back w 82 9 5 a C [] Tryz.underlying82 Tryz.underlying5 Tryz.underlying9 (fun j hj => by cases hj)
  · have hp : 0 < t.length := List.length_pos_iff.2 h0
    obtain ⟨b, off, hA, hb, g0⟩ := hl.at_ (k := 0) (by rw [Lib.byteCells_length]; exact hp)
    subst hA
    refine run_convert_bytes_back w 82 9 5 _ C t Tryz.underlying82 Tryz.underlying5 Tryz.underlying9 (fun j hj => ?_)
    obtain ⟨b', off', hA', hb', g'⟩ := hl.at_ (k := j) (by rw [Lib.byteCells_length]; exact hj)
    injection hA' with hA'
    injection hA' with e1 e2
    subst e1 e2
    rw [Addr.add_lit, g']
    simp [Lib.byteCells]

theorem encode_any (A : Option Addr) (c : Nat) (l : List Int) (w : World) (hl : Lies w w.heap.size A (I64 l)) (hn : l.length ≤ 1000000) (hm : ∀ x ∈ l, Gl.may x = true) :
    Calls Tryz.prog 102 #[.slice A l.length c] w fun e w' => e = .returned (.tuple #[.string ⟨(Tk.enc l).toArray⟩, .bool true]) ∧ Below w.heap.size w w' := by
  obtain ⟨i0, hi, hz0, hz1, hz2⟩ := info_parts u8_info
  have HL := Lib.hid hl
  have HM := Lib.hid hm
  clear hl hm
  go_enter Tryz.func102, Tryz.ntmps102
  go_wp2_with (at_make; refine wpList_make_blk _ rfl _ _ 82 rfl 5 i0 (.int .u8 0) Tryz.underlying82 hi hz0 hz1 rfl .i64 .i64 _ _ 0 l.length rfl rfl rfl rfl (by omega) (by rw [hz2]; omega) (by omega) w.heap.size w (Below.refl _ _) (Nat.le_refl _) ?_; intro w2 hblk2 hb2 hb2' hlt2)
  have hown2 : w2.ownsRow w.heap.size 5 1 (.slice (some ⟨w.heap.size, 0, none⟩) 0 l.length) 0 [] := by
    have := hblk2.own (base := w.heap.size) (n := 0) (Nat.le_refl _) (by omega) (by simp [maxLen]; omega)
    simpa using this
  clear hblk2 hb2' hlt2
  go_loopw [4, 12] (fun ov iv wr => ∃ i : Nat, i ≤ l.length ∧ iv = .int .i64 (i : Int) ∧ wr.ownsRow w.heap.size 5 1 ov (Tk.enc (l.take i)).length (Lib.byteCells (Tk.enc (l.take i))) ∧ Below w.heap.size w wr) (fun _ iv _ => l.length - (intOf iv).toNat)
  case atStart => exact ⟨0, Nat.zero_le _, rfl, hown2, hb2⟩
  case round =>
    clear hown2 hb2
    obtain ⟨i, hil, rfl, hown, hbel⟩ := hrel
    have hsz := hbel.size
    by_cases hlt : i < l.length
    · obtain ⟨b, off, rfl, hb, g0⟩ := lies_i64 (HL.out.below hbel) hlt
      have hmx := HM.out l[i] (List.getElem_mem hlt)
      have HT : Hid (Tk.enc (l.take (i + 1)) = Tk.enc (l.take i) ++ Tk.enc1 l[i]) := Lib.hid (by rw [List.take_succ_eq_append_getElem hlt, enc_snoc])
      have HRC := Lib.hid (runeCells_one hmx)
      have hel := enc_len (l.take i)
      have htl : (l.take i).length ≤ i := List.length_take_le _ _
      obtain ⟨x, hx⟩ : ∃ x, x = l[i] := ⟨_, rfl⟩
      rw [← hx] at g0 hmx HT HRC
      have MY := may_any x
      rw [hmx] at MY
      have HMY := Lib.hid MY
      have hx0 : 0 ≤ x := by unfold Gl.may at hmx; simp at hmx; omega
      have hx1 : x ≤ 1114111 := by unfold Gl.may at hmx; simp at hmx; omega
      obtain ⟨T, hT⟩ : ∃ T, T = Tk.enc (l.take i) := ⟨_, rfl⟩
      rw [← hT] at hown HT hel
      have AR := Lib.hid (fun (h : wr.ownsRow w.heap.size 5 1 u4 T.length (Lib.byteCells T)) => Tryz.utf8_AppendRune_plain w.heap.size u4 T.length (Lib.byteCells T) x (by omega) (by omega) wr h (by omega) hsz)
      have AR2 := Lib.hid (AR.out hown)
      have HOW := Lib.hid hown
      obtain ⟨A2, C2, rfl, hC1, hC2⟩ := own_slice hown
      clear hx MY hmx hT AR hown
      go_wp2_with fail
      refine (HMY.out _).mono ?_
      rintro e w' ⟨rfl, rfl⟩
      go_wp2_with fail
      refine AR2.out.mono ?_
      rintro e w3 ⟨v3, rfl, hown3, o, hgr⟩
      have hbel3 : Below w.heap.size w w3 := (hbel.alloc hsz o).grown hgr (by simp; omega) (fun k hk => (HOW.out.lt k hk).1)
      have hown4 : w3.ownsRow w.heap.size 5 1 v3 (Tk.enc (l.take (i + 1))).length (Lib.byteCells (Tk.enc (l.take (i + 1)))) := by
        rw [HT.out, List.length_append, Lib.byteCells_append, ← HRC.out, ← Lib.byteCells_length (Tk.enc1 x), ← HRC.out]
        exact hown3
      clear hown3 hgr AR2
      go_wp2_with fail
      go_roundw
      case rel => exact ⟨i + 1, by omega, by go_num, hown4, hbel3⟩
      case measure => simp [intOf]; omega
    · have e : l.take i = l := List.take_of_length_le (by omega)
      rw [e] at hown
      have hcv := conv_own hown
      obtain ⟨A2, C2, rfl, hC1, hC2⟩ := own_slice hown
      clear hown e
      go_wp2_with fail
      go_ret2
      exact ⟨rfl, hbel⟩
end Go.Proofs.YtfiefglagknclaaGreatDoor

/-
  token.name: the token of a name.
-/
namespace Go.Proofs.YtfiefglagknclaaGreatDoor
open Go.RowKit
set_option maxHeartbeats 4000000
set_option maxRecDepth 100000
set_option linter.unusedVariables false

theorem tok_info : (Tryz.prog.info? 67).map (·.size) = some 8 := by kernel_rfl
/-- A token's row. -/
def tokCells (k : Int) (neg : Bool) (n1 n2 lv : Value) (s : List UInt8) (c a : Int) : List Value := [.int .i64 k, .bool neg, n1, n2, lv, .string ⟨s.toArray⟩, .int .i64 c, .int .i64 a]
/-- A token (where it begins is not yet told), where it ends, and the error. -/
def TokOut (w : World) (t : Tk.Tok) (en : Nat) (er : Int) (e : Ending) (w' : World) : Prop :=
  ∃ n1 n2 lv, e = .returned (.tuple #[.agg (tokCells t.kind t.n.neg n1 n2 lv t.s t.c 0).toArray, .int .i64 (en : Int), .int .i64 er]) ∧ IsRes w' n1 t.n.top ∧ IsRes w' n2 t.n.bot ∧ w'.ownsRow 0 3 1 lv t.l.length (I64 t.l) ∧ Below w.heap.size w w'
theorem isCh_nil (w : World) : IsCh w (.slice none 0 0) [] := ⟨none, 0, rfl, Nat.le_refl _, by omega, .inl rfl⟩
theorem takeWhile_at (p : Int → Bool) : ∀ (l : List Int) (j : Nat), p (-1) = false → j ≤ (l.takeWhile p).length → (p (l.getD j (-1)) = true ↔ j < (l.takeWhile p).length)
  | [], j, hp, h => by
    have : j = 0 := by simpa using h
    subst this
    simp [hp]
  | a :: r, 0, hp, h => by
    rw [List.takeWhile_cons]
    cases ha : p a <;> simp [ha]
  | a :: r, j + 1, hp, h => by
    rw [List.takeWhile_cons] at h ⊢
    cases ha : p a
    · rw [ha] at h; simp at h
    · rw [ha] at h
      simp only [if_true, List.length_cons] at h ⊢
      have := takeWhile_at p r j hp (by omega)
      rw [show (a :: r).getD (j + 1) (-1) = r.getD j (-1) from rfl, this]
      omega
theorem drop_getD (l : List Int) (i j : Nat) : (l.drop i).getD j (-1) = l.getD (i + j) (-1) := by
  rw [List.getD_eq_getElem?_getD, List.getD_eq_getElem?_getD, List.getElem?_drop]
theorem words_at {l : List Int} {i j : Nat} (h : j ≤ Tk.words l i) : Tk.word (l.getD (i + j) (-1)) = true ↔ j < Tk.words l i := by
  unfold Tk.words at h ⊢
  rw [← drop_getD]
  exact takeWhile_at _ _ _ (by decide) h
theorem figures_at {l : List Int} {i j : Nat} (h : j ≤ Tk.figures l i) : Tk.digit (l.getD (i + j) (-1)) = true ↔ j < Tk.figures l i := by
  unfold Tk.figures at h ⊢
  rw [← drop_getD]
  exact takeWhile_at _ _ _ (by decide) h
theorem lies_cut {w : World} {B : Nat} {A : Option Addr} {l : List Int} (h : Lies w B A (I64 l)) (i n : Nat) (hin : i + n ≤ l.length) : ∀ A', (∀ b off, A = some ⟨b, off, none⟩ → A' = some ⟨b, off + i, none⟩) → Lies w B A' (I64 ((l.drop i).take n)) := by
  intro A' hA'
  by_cases h0 : n = 0
  · subst h0
    simp only [List.take_zero]
    exact .inl rfl
  · obtain ⟨b, off, e, hb, g0⟩ := lies_i64 h (k := i) (by omega)
    refine .inr ⟨b, off + i, hA' b off e, hb, fun k v hv => ?_⟩
    have hk : k < n := by
      rcases Nat.lt_or_ge k n with h' | h'
      · exact h'
      · rw [List.getElem?_eq_none (by simp [I64]; omega)] at hv; cases hv
    obtain ⟨b', off', e', hb', g'⟩ := lies_i64 h (k := i + k) (by omega)
    rw [e] at e'
    injection e' with e'
    injection e' with e1 e2
    subst e1 e2
    rw [show off + i + k = off + (i + k) by omega, g']
    rw [← hv]
    unfold I64
    rw [List.getElem?_map, List.getElem?_take, if_pos hk, List.getElem?_drop, List.getElem?_eq_getElem (by omega)]
    rfl
end Go.Proofs.YtfiefglagknclaaGreatDoor

/-
  token.name: the token of a name.
-/
namespace Go.Proofs.YtfiefglagknclaaGreatDoor
open Go.RowKit
set_option maxHeartbeats 4000000
set_option maxRecDepth 100000
set_option linter.unusedVariables false

/-- What is read at a place, as the program tells it. -/
def ReadOut (w : World) (l : List Int) (i : Nat) : Ending → World → Prop := TokOut w (Tk.read l i).1 (if (Tk.read l i).2.2 = 0 then i + (Tk.read l i).2.1 else 0) (Tk.read l i).2.2
theorem tok_one (k c a : Int) (neg : Bool) (a1 a2 a3 : Option Addr) (m1 c1 m2 c2 m3 c3 : Nat) (s : ByteArray) : (#[.int .i64 k, .bool neg, .slice a1 m1 c1, .slice a2 m2 c2, .slice a3 m3 c3, .string s, .int .i64 c, .int .i64 a] : Array Value).all (·.oneCell') = true := by
  simp [Value.oneCell']
theorem tok_infoR (x0 x1 x2 x3 x4 x5 x6 x7 : Value) : (Tryz.prog.info? 67).map (·.size) = some (#[x0, x1, x2, x3, x4, x5, x6, x7] : Array Value).size := tok_info
theorem results_cell_row_tmp2 {P : Program} {fn : Func} {p q r : Tmp} {ty : TypeId} (h : fn.results = #[.cell p ty, .tmp q, .tmp r]) (tmps : Array Value) (w : World) (g : Nat) (t : TypeId) (cs : Array Value) (fr : Nat × Nat) (d : TypeDesc) (u v : Value)
    (hp : tmps.getD p undef = .pointer (some ⟨g, 0, none⟩)) (hq : tmps.getD q undef = u) (hr : tmps.getD r undef = v) (hg : w.heap[g]? = some (.cells cs t fr))
    (hu : P.underlying ty = some d) (hd : (match d with | .struct _ | .array _ _ => true | _ => false) = true) (hi : (P.info? ty).map (·.size) = some cs.size) :
    (results fn tmps).run P w = .ok (.tuple #[.agg cs, u, v]) w := by
  have hp' : tmps[p]?.getD undef = .pointer (some ⟨g, 0, none⟩) := by simpa using hp
  have hq' : tmps[q]?.getD undef = u := by simpa using hq
  have hr' : tmps[r]?.getD undef = v := by simpa using hr
  simp [results, h, hp', hq', hr', asAddr, run_loadVar_row w g t ty cs fr d hg hu hd hi]
theorem read_name {l : List Int} {i : Nat} (hc : Tk.cls (l.getD i (-1)) = 2) : Tk.read l i = if 16 < Tk.words l i then (Tk.none_, 0, 1) else (⟨if l.getD i (-1) ≤ 90 then 3 else 2, Rt.none_, [], Tk.enc ((l.drop i).take (Tk.words l i)), 0, i⟩, Tk.words l i, 0) := by
  unfold Tk.read
  simp only
  rw [if_neg (by rw [hc]; decide), if_pos hc]
theorem cls2_range {x : Int} (h : Tk.cls x = 2) : 65 ≤ x ∧ (x ≤ 90 ∨ 90 < x) := by
  unfold Tk.cls at h
  split at h
  · cases h
  · split at h
    · omega
    · exfalso
      repeat' split at h
      all_goals (first | cases h | omega)

theorem name_any (A : Option Addr) (c : Nat) (l : List Int) (i : Nat) (w : World) (hl : Lies w w.heap.size A (I64 l)) (hn : l.length ≤ 100000) (hcap : l.length ≤ c) (hm : ∀ x ∈ l, Gl.may x = true) (hi : i < l.length) (hc : Tk.cls (l.getD i (-1)) = 2) :
    Calls Tryz.prog 61 #[.slice A l.length c, .int .i64 (i : Int)] w (ReadOut w l i) := by
  have HRD := Lib.hid (read_name hc)
  have HR : Hid (∀ e w', TokOut w (Tk.read l i).1 (if (Tk.read l i).2.2 = 0 then i + (Tk.read l i).2.1 else 0) (Tk.read l i).2.2 e w' → ReadOut w l i e w') := Lib.hid (fun e w' h => h)
  obtain ⟨W, hW⟩ : ∃ W, W = w.alloc (.cells #[.int .i64 0, .bool false, .slice none 0 0, .slice none 0 0, .slice none 0 0, .string ⟨#[]⟩, .int .i64 0, .int .i64 0] 67) := ⟨_, rfl⟩
  have hb0 : Below w.heap.size w W := by rw [hW]; exact (Below.refl _ _).alloc (Nat.le_refl _) _
  have HGA : Hid (W.heap[w.heap.size]? = some (.cells #[.int .i64 0, .bool false, .slice none 0 0, .slice none 0 0, .slice none 0 0, .string ⟨#[]⟩, .int .i64 0, .int .i64 0] 67 (0, 0))) := Lib.hid (by rw [hW]; exact heap_alloc_new w _)
  have HWS : Hid (W.heap.size = w.heap.size + 1) := Lib.hid (by rw [hW]; simp)
  have hlW : Lies W W.heap.size A (I64 l) := (hl.below hb0).more hb0.size
  have LT := Lib.hid (fun (m : Nat) (h : m ≤ 1000000) => letter_any A c l m W hlW (by omega) h)
  have DG := Lib.hid (fun (m : Nat) (h : m ≤ 1000000) => digit_any A c l m W hlW (by omega) h)
  have hwl := Tk.words_le l i
  have HWA := Lib.hid (fun (j : Nat) (h : j ≤ Tk.words l i) => words_at (l := l) (i := i) h)
  have HWP : Hid (0 < Tk.words l i) := Lib.hid (Tk.words_pos hi (by unfold Tk.word; rw [hc]; simp))
  have HL := Lib.hid hlW
  have HM := Lib.hid hm
  have HC := Lib.hid hc
  have HW : Hid (W = w.alloc (.cells #[.int .i64 0, .bool false, .slice none 0 0, .slice none 0 0, .slice none 0 0, .string ⟨#[]⟩, .int .i64 0, .int .i64 0] 67)) := Lib.hid hW
  obtain ⟨n, hnw⟩ : ∃ n, n = Tk.words l i := ⟨_, rfl⟩
  rw [← hnw] at HRD hwl HWA HWP
  have HNW := Lib.hid hnw
  clear hl hlW hm hc hW hnw
  go_enter Tryz.func61, Tryz.ntmps61
  go_upto_region 1 with fail
  rw [← HW.out]
  go_wp2_with fail
  go_loop [7] (fun ev => ∃ m : Nat, i ≤ m ∧ m ≤ i + n ∧ ev = .int .i64 (m : Int)) (fun ev => i + n - (intOf ev).toNat)
  case atStart => exact ⟨i, Nat.le_refl _, by omega, rfl⟩
  case round =>
    obtain ⟨m, hm1, hm2, rfl⟩ := hrel
    have hwat := HWA.out (m - i) (by omega)
    rw [show i + (m - i) = m by omega] at hwat
    have LT2 := LT.out m (by omega)
    have DG2 := DG.out m (by omega)
    unfold Tk.word at hwat
    generalize (Tk.cls (l.getD m (-1)) == 2) = b1 at *
    generalize Tk.digit (l.getD m (-1)) = b2 at *
    have HLT2 := Lib.hid LT2
    have HDG2 := Lib.hid DG2
    clear LT2 DG2
    by_cases hlt : m < i + n
    · have hb : (b2 || b1) = true := hwat.2 (by omega)
      clear hwat
      cases b1
      · have hb2 : b2 = true := by simpa using hb
        subst hb2
        clear hb
        go_wp2_with fail
        refine HLT2.out.mono ?_
        rintro e w' ⟨rfl, rfl⟩
        go_wp2_with fail
        refine HDG2.out.mono ?_
        rintro e w' ⟨rfl, rfl⟩
        go_wp2_with fail
        go_round
        case rel => exact ⟨m + 1, by omega, by omega, by go_num⟩
        case measure => simp [intOf]; omega
      · clear hb
        go_wp2_with fail
        refine HLT2.out.mono ?_
        rintro e w' ⟨rfl, rfl⟩
        go_wp2_with fail
        go_round
        case rel => exact ⟨m + 1, by omega, by omega, by go_num⟩
        case measure => simp [intOf]; omega
    · have hb : (b2 || b1) = false := by
        rw [Bool.eq_false_iff]; intro h; exact hlt (by have := hwat.1 h; omega)
      obtain ⟨hb2, hb1⟩ : b2 = false ∧ b1 = false := by cases b2 <;> cases b1 <;> simp at hb ⊢
      subst hb1 hb2
      obtain rfl : m = i + n := by omega
      clear hb hwat hlt hm1 hm2
      have hmi : ((i + n : Nat) : Int) - (i : Int) = (n : Int) := by omega
      go_wp2_with fail
      refine HLT2.out.mono ?_
      rintro e w' ⟨rfl, rfl⟩
      go_wp2_with fail
      refine HDG2.out.mono ?_
      rintro e w' ⟨rfl, rfl⟩
      clear HLT2 HDG2 LT DG
      by_cases h16 : 16 < n
      · have q16 : decide (16 < (n : Int)) = true := decide_eq_true (by omega)
        have HRE : Hid (Tk.read l i = (Tk.none_, 0, 1)) := Lib.hid (by rw [HRD.out, if_pos h16])
        go_wp2_with (with_reducible refine wpList_store_row rfl 67 (.tmp 4) (.tmp 24) rfl w.heap.size #[.int .i64 0, .bool false, .slice none 0 0, .slice none 0 0, .slice none 0 0, .string ⟨#[]⟩, .int .i64 0, .int .i64 0] rfl rfl 67 #[.int .i64 0, .bool false, .slice none 0 0, .slice none 0 0, .slice none 0 0, .string ⟨#[]⟩, .int .i64 0, .int .i64 0] HGA.out (tok_infoR _ _ _ _ _ _ _ _) rfl (tok_one _ _ _ _ _ _ _ _ _ _ _ _ _ _) ?_)
        refine bodyPost_ret (results_cell_row_tmp2 (by rfl) _ _ w.heap.size 67 #[.int .i64 0, .bool false, .slice none 0 0, .slice none 0 0, .slice none 0 0, .string ⟨#[]⟩, .int .i64 0, .int .i64 0] (0, 0) _ _ _ (by rfl) (by rfl) (by rfl) (rheap_same HGA.out) Tryz.underlying67 rfl (tok_infoR _ _ _ _ _ _ _ _)) rfl (HR.out _ _ ?_)
        rw [HRE.out]
        exact ⟨_, _, _, rfl, isRes_nil _, isRes_nil _, World.ownsRow_nil _ _ _ _, rBelow.setRow hb0 (Nat.le_refl _) _⟩
      · have q16 : decide (16 < (n : Int)) = false := decide_eq_false (by omega)
        obtain ⟨x, hx⟩ : ∃ x, x = l.getD i (-1) := ⟨_, rfl⟩
        have HRE : Hid (Tk.read l i = (⟨if x ≤ 90 then 3 else 2, Rt.none_, [], Tk.enc ((l.drop i).take n), 0, i⟩, n, 0)) := Lib.hid (by rw [HRD.out, if_neg h16, hx])
        obtain ⟨W2, hW2⟩ : ∃ W2, W2 = W.alloc (.cells #[.int .i64 2, .bool false, .slice none 0 0, .slice none 0 0, .slice none 0 0, .string ⟨#[]⟩, .int .i64 0, .int .i64 0] 67) := ⟨_, rfl⟩
        have hbW : Below W.heap.size W W2 := by rw [hW2]; exact (Below.refl _ _).alloc (Nat.le_refl _) _
        have HB2 : Hid (Blk W2 W.heap.size 67 [.int .i64 2, .bool false, .slice none 0 0, .slice none 0 0, .slice none 0 0, .string ⟨#[]⟩, .int .i64 0, .int .i64 0]) := Lib.hid (by rw [hW2]; exact Blk.new W _ _)
        have HW2 := Lib.hid hW2
        have hcr := cls2_range (show Tk.cls x = 2 by rw [hx]; exact HC.out)
        obtain ⟨b, off, rfl, hb, g0⟩ := lies_i64 (HL.out.below hbW) hi
        rw [← Tk.getD_in hi, ← hx] at g0
        have HXV := Lib.hid hx
        clear hx hW2
        go_upto_region 7 with fail
        rw [← HW2.out]
        have hx65 : 65 ≤ x := hcr.1
        have HL2 : Hid (Lies W W.heap.size (some ⟨b, off + i, none⟩) (I64 ((l.drop i).take n))) := Lib.hid (lies_cut HL.out i n (by omega) _ (fun b' off' e => by injection e with e; injection e with e1 e2; subst e1 e2; rfl))
        have EN := Lib.hid (fun (wx : World) (h : Below W.heap.size W wx) (c' : Nat) => encode_any (some ⟨b, off + i, none⟩) c' ((l.drop i).take n) wx ((HL2.out.below h).more h.size) (by simp; omega) (fun y hy => HM.out y (List.mem_of_mem_drop (List.mem_of_mem_take hy))))
        have hlen : ((l.drop i).take n).length = n := by simp; omega
        rw [hlen] at EN
        have HBW := Lib.hid hbW
        by_cases h90 : x ≤ 90
        · rw [if_pos h90] at HRE
          have hcell : W2.cell? ⟨W.heap.size, 0, none⟩ = some (.int .i64 2) := HB2.out.cell rfl
          have hfroz : W2.frozen? ⟨W.heap.size, 0, none⟩ = false := HB2.out.frozen 0
          have HB3 : Hid (Blk (W2.setCell ⟨W.heap.size, 0, none⟩ (.int .i64 3)) W.heap.size 67 [.int .i64 3, .bool false, .slice none 0 0, .slice none 0 0, .slice none 0 0, .string ⟨#[]⟩, .int .i64 0, .int .i64 0]) := Lib.hid (HB2.out.set_ 0 _)
          have HBW3 : Hid (Below W.heap.size W (W2.setCell ⟨W.heap.size, 0, none⟩ (.int .i64 3))) := Lib.hid (HBW.out.setCell (Nat.le_refl _) _)
          go_wp2_with fail
          refine (EN.out _ HBW3.out _).mono ?_
          rintro e w3 ⟨rfl, hb3⟩
          have HBW4 : Hid (Below W.heap.size W w3) := Lib.hid (HBW3.out.trans (hb3.mono (Nat.le_of_lt HB3.out.lt)))
          have HB4 : Hid (Blk w3 W.heap.size 67 [.int .i64 3, .bool false, .slice none 0 0, .slice none 0 0, .slice none 0 0, .string ⟨#[]⟩, .int .i64 0, .int .i64 0]) := Lib.hid (HB3.out.keep hb3 HB3.out.lt)
          have hcell5 : w3.cell? ⟨W.heap.size, 5, none⟩ = some (.string ⟨#[]⟩) := HB4.out.cell rfl
          have hfroz5 : w3.frozen? ⟨W.heap.size, 5, none⟩ = false := HB4.out.frozen 5
          have HB5 : Hid (Blk (w3.setCell ⟨W.heap.size, 5, none⟩ (.string ⟨(Tk.enc ((l.drop i).take n)).toArray⟩)) W.heap.size 67 [.int .i64 3, .bool false, .slice none 0 0, .slice none 0 0, .slice none 0 0, .string ⟨(Tk.enc ((l.drop i).take n)).toArray⟩, .int .i64 0, .int .i64 0]) := Lib.hid (HB4.out.set_ 5 _)
          have HBW5 : Hid (Below W.heap.size W (w3.setCell ⟨W.heap.size, 5, none⟩ (.string ⟨(Tk.enc ((l.drop i).take n)).toArray⟩))) := Lib.hid (HBW4.out.setCell (Nat.le_refl _) _)
          have HG5 : Hid ((w3.setCell ⟨W.heap.size, 5, none⟩ (.string ⟨(Tk.enc ((l.drop i).take n)).toArray⟩)).heap[w.heap.size]? = some (.cells #[.int .i64 0, .bool false, .slice none 0 0, .slice none 0 0, .slice none 0 0, .string ⟨#[]⟩, .int .i64 0, .int .i64 0] 67 (0, 0))) := Lib.hid ((HBW5.out.block w.heap.size (by rw [HWS.out]; omega)).trans HGA.out)
          have HG6 : Hid ((w3.setCell ⟨W.heap.size, 5, none⟩ (.string ⟨(Tk.enc ((l.drop i).take n)).toArray⟩)).heap[W.heap.size]? = some (.cells #[.int .i64 3, .bool false, .slice none 0 0, .slice none 0 0, .slice none 0 0, .string ⟨(Tk.enc ((l.drop i).take n)).toArray⟩, .int .i64 0, .int .i64 0] 67 (0, 0))) := HB5
          clear hb3 EN
          go_wp2_with (first | (with_reducible refine wpList_load_row rfl 67 (.tmp 8) rfl W.heap.size rfl 67 #[.int .i64 3, .bool false, .slice none 0 0, .slice none 0 0, .slice none 0 0, .string ⟨(Tk.enc ((l.drop i).take n)).toArray⟩, .int .i64 0, .int .i64 0] (0, 0) _ HG6.out Tryz.underlying67 rfl (tok_infoR _ _ _ _ _ _ _ _) ?_) | (with_reducible refine wpList_store_row rfl 67 (.tmp 4) (.tmp 48) rfl w.heap.size #[.int .i64 3, .bool false, .slice none 0 0, .slice none 0 0, .slice none 0 0, .string ⟨(Tk.enc ((l.drop i).take n)).toArray⟩, .int .i64 0, .int .i64 0] rfl rfl 67 #[.int .i64 0, .bool false, .slice none 0 0, .slice none 0 0, .slice none 0 0, .string ⟨#[]⟩, .int .i64 0, .int .i64 0] HG5.out (tok_infoR _ _ _ _ _ _ _ _) rfl (tok_one _ _ _ _ _ _ _ _ _ _ _ _ _ _) ?_))
          refine bodyPost_ret (results_cell_row_tmp2 (by rfl) _ _ w.heap.size 67 #[.int .i64 3, .bool false, .slice none 0 0, .slice none 0 0, .slice none 0 0, .string ⟨(Tk.enc ((l.drop i).take n)).toArray⟩, .int .i64 0, .int .i64 0] (0, 0) _ _ _ (by rfl) (by rfl) (by rfl) (rheap_same HG5.out) Tryz.underlying67 rfl (tok_infoR _ _ _ _ _ _ _ _)) rfl (HR.out _ _ ?_)
          rw [HRE.out]
          exact ⟨_, _, _, rfl, isRes_nil _, isRes_nil _, World.ownsRow_nil _ _ _ _, rBelow.setRow (hb0.trans (HBW5.out.mono (by rw [HWS.out]; omega))) (Nat.le_refl _) _⟩
        · have q90 : decide (x ≤ 90) = false := decide_eq_false h90
          rw [if_neg h90] at HRE
          have HB3 := HB2
          have HBW3 := HBW
          go_wp2_with fail
          refine (EN.out _ HBW3.out _).mono ?_
          rintro e w3 ⟨rfl, hb3⟩
          have HBW4 : Hid (Below W.heap.size W w3) := Lib.hid (HBW3.out.trans (hb3.mono (Nat.le_of_lt HB3.out.lt)))
          have HB4 : Hid (Blk w3 W.heap.size 67 [.int .i64 2, .bool false, .slice none 0 0, .slice none 0 0, .slice none 0 0, .string ⟨#[]⟩, .int .i64 0, .int .i64 0]) := Lib.hid (HB3.out.keep hb3 HB3.out.lt)
          have hcell5 : w3.cell? ⟨W.heap.size, 5, none⟩ = some (.string ⟨#[]⟩) := HB4.out.cell rfl
          have hfroz5 : w3.frozen? ⟨W.heap.size, 5, none⟩ = false := HB4.out.frozen 5
          have HB5 : Hid (Blk (w3.setCell ⟨W.heap.size, 5, none⟩ (.string ⟨(Tk.enc ((l.drop i).take n)).toArray⟩)) W.heap.size 67 [.int .i64 2, .bool false, .slice none 0 0, .slice none 0 0, .slice none 0 0, .string ⟨(Tk.enc ((l.drop i).take n)).toArray⟩, .int .i64 0, .int .i64 0]) := Lib.hid (HB4.out.set_ 5 _)
          have HBW5 : Hid (Below W.heap.size W (w3.setCell ⟨W.heap.size, 5, none⟩ (.string ⟨(Tk.enc ((l.drop i).take n)).toArray⟩))) := Lib.hid (HBW4.out.setCell (Nat.le_refl _) _)
          have HG5 : Hid ((w3.setCell ⟨W.heap.size, 5, none⟩ (.string ⟨(Tk.enc ((l.drop i).take n)).toArray⟩)).heap[w.heap.size]? = some (.cells #[.int .i64 0, .bool false, .slice none 0 0, .slice none 0 0, .slice none 0 0, .string ⟨#[]⟩, .int .i64 0, .int .i64 0] 67 (0, 0))) := Lib.hid ((HBW5.out.block w.heap.size (by rw [HWS.out]; omega)).trans HGA.out)
          have HG6 : Hid ((w3.setCell ⟨W.heap.size, 5, none⟩ (.string ⟨(Tk.enc ((l.drop i).take n)).toArray⟩)).heap[W.heap.size]? = some (.cells #[.int .i64 2, .bool false, .slice none 0 0, .slice none 0 0, .slice none 0 0, .string ⟨(Tk.enc ((l.drop i).take n)).toArray⟩, .int .i64 0, .int .i64 0] 67 (0, 0))) := HB5
          clear hb3 EN
          go_wp2_with (first | (with_reducible refine wpList_load_row rfl 67 (.tmp 8) rfl W.heap.size rfl 67 #[.int .i64 2, .bool false, .slice none 0 0, .slice none 0 0, .slice none 0 0, .string ⟨(Tk.enc ((l.drop i).take n)).toArray⟩, .int .i64 0, .int .i64 0] (0, 0) _ HG6.out Tryz.underlying67 rfl (tok_infoR _ _ _ _ _ _ _ _) ?_) | (with_reducible refine wpList_store_row rfl 67 (.tmp 4) (.tmp 48) rfl w.heap.size #[.int .i64 2, .bool false, .slice none 0 0, .slice none 0 0, .slice none 0 0, .string ⟨(Tk.enc ((l.drop i).take n)).toArray⟩, .int .i64 0, .int .i64 0] rfl rfl 67 #[.int .i64 0, .bool false, .slice none 0 0, .slice none 0 0, .slice none 0 0, .string ⟨#[]⟩, .int .i64 0, .int .i64 0] HG5.out (tok_infoR _ _ _ _ _ _ _ _) rfl (tok_one _ _ _ _ _ _ _ _ _ _ _ _ _ _) ?_))
          refine bodyPost_ret (results_cell_row_tmp2 (by rfl) _ _ w.heap.size 67 #[.int .i64 2, .bool false, .slice none 0 0, .slice none 0 0, .slice none 0 0, .string ⟨(Tk.enc ((l.drop i).take n)).toArray⟩, .int .i64 0, .int .i64 0] (0, 0) _ _ _ (by rfl) (by rfl) (by rfl) (rheap_same HG5.out) Tryz.underlying67 rfl (tok_infoR _ _ _ _ _ _ _ _)) rfl (HR.out _ _ ?_)
          rw [HRE.out]
          exact ⟨_, _, _, rfl, isRes_nil _, isRes_nil _, World.ownsRow_nil _ _ _ _, rBelow.setRow (hb0.trans (HBW5.out.mono (by rw [HWS.out]; omega))) (Nat.le_refl _) _⟩
end Go.Proofs.YtfiefglagknclaaGreatDoor
