/-
  Texts of this proof, joined (by wip/bin/bundle.py): Dig10, Tok10, Toks, Tok11, Tok12, TokTheirs.
-/
import Derived.Test.YtfiefglagknclaaGreatDoorM10
import Derived.Deep.Cut
import Derived.Deep.RegionHeld3
import Derived.Deep.RegionWith
import Derived.Scope
import Derived.WalkMore
import Derived.Deep.MidRow
import Derived.BigQuiet
import Derived.Deep.CutRange
/-
  scrimref05.Parse: the document's number of a text. (Printed by wip/bin/gen_dig10.py.)
-/
namespace Go.Proofs.YtfiefglagknclaaGreatDoor
open Go.RowKit
set_option maxHeartbeats 4000000
set_option maxRecDepth 100000
set_option linter.unusedVariables false

theorem cut_yes {s : List UInt8} (h : 2 ≤ s.length) (h0 : s[0].toNat = 194) (h1 : s[1].toNat = 175) : Lib.hasPrefix s [194, 175] = true ∧ Lib.trimPrefix s [194, 175] = s.drop 2 := by
  match s, h with
  | a :: b :: t, _ =>
    simp at h0 h1
    have e0 : a = 194 := UInt8.toNat_inj.1 h0
    have e1 : b = 175 := UInt8.toNat_inj.1 h1
    subst e0 e1
    exact ⟨rfl, rfl⟩
theorem cut_no {s : List UInt8} (h : ∀ h : 2 ≤ s.length, ¬ (s[0].toNat = 194 ∧ s[1].toNat = 175)) : Lib.hasPrefix s [194, 175] = false ∧ Lib.trimPrefix s [194, 175] = s := by
  have hp : Lib.hasPrefix s [194, 175] = false := by
    unfold Lib.hasPrefix
    match s, h with
    | [], _ => rfl
    | [a], _ => simp [List.isPrefixOf]
    | a :: b :: t, h =>
      simp [List.isPrefixOf]
      intro e0 e1
      exact h (by simp) ⟨by simp [← e0], by simp [← e1]⟩
  refine ⟨hp, ?_⟩
  unfold Lib.trimPrefix
  rw [hp]; rfl
theorem resL_num {w : World} {v : Value} {t : List UInt8} (h : IsRes w v (Nt.digs (Ten.numOf t))) (hd : ∀ b ∈ t, Ten.isDig b) (hs : t.length ≤ 500) : ResL w v (Nt.digs (Ten.numOf t)) := ⟨h, Nt.ok_digs _, by have := Dg.limbs_le hd 56 (by omega); omega⟩
theorem rmake_any (neg : Bool) (v1 v2 : Value) (x y : Nat) (w : World) (h1 : ResL w v1 (Nt.digs x)) (h2 : ResL w v2 (Nt.digs y)) :
    Calls Tryz.prog 26 #[.agg #[.bool neg, v1], .agg #[.bool false, v2]] w (MakeOut w (Rt.mk neg false x y)) := by
  have := make_any neg false v1 v2 _ _ w h1 h2
  rwa [Nt.val_digs, Nt.val_digs] at this

theorem setRow3 {w : World} {g : Nat} {t : TypeId} {x y z : Value} (h : w.heap[g]? = some (.cells #[x, y, z] t (0, 0))) (a b c : Value) : ((w.setCell ⟨g, 0, none⟩ a).setCell ⟨g, 1, none⟩ b).setCell ⟨g, 2, none⟩ c = w.setRow g #[a, b, c] := by
  obtain ⟨heap, os, tape, output, drawn⟩ := w
  simp only [World.setCell, World.setRow] at h ⊢
  congr 1
  apply Array.ext_getElem?
  intro i
  simp only [Array.getElem?_modify]
  by_cases e : g = i
  · subst e
    simp [h]
  · simp [e]
theorem refParse5_any (s : List UInt8) (w : World) (hs : s.length ≤ 100000) :
    Calls Tryz.prog 106 #[.string ⟨s.toArray⟩] w (MakeOut w (Dg.parse s)) := by
  rw [parse_cut]
  have hcl := cut_len s [194, 175]
  have HI3 : Hid (∀ (b : Bool) (A : Option Addr) (k c : Nat) (A' : Option Addr) (k' c' : Nat), (Tryz.prog.info? 26).map (·.size) = some (#[.bool b, .slice A k c, .slice A' k' c'] : Array Value).size) := Lib.hid (fun _ _ _ _ _ _ _ => num_info)
  have HGA : Hid ((w.alloc (.cells #[.bool false, .slice none 0 0, .slice none 0 0] 26)).heap[w.heap.size]? = some (.cells #[.bool false, .slice none 0 0, .slice none 0 0] 26 (0, 0))) := Lib.hid (heap_alloc_new w _)
  have hb0 : Below w.heap.size w (w.alloc (.cells #[.bool false, .slice none 0 0, .slice none 0 0] 26)) := (Below.refl _ _).alloc (Nat.le_refl _) _
  have HYES := Lib.hid (fun h h0 h1 => cut_yes (s := s) h h0 h1)
  have HNO := Lib.hid (fun h => cut_no (s := s) h)
  have HSF := Lib.hid (str_from s 2)
  generalize Lib.trimPrefix s [194, 175] = t at *
  generalize Lib.hasPrefix s [194, 175] = neg at *
  have htl : t.length ≤ 100000 := by omega
  clear hcl
  obtain ⟨W, hW⟩ : ∃ W, W = w.alloc (.cells #[.bool false, .slice none 0 0, .slice none 0 0] 26) := ⟨_, rfl⟩
  rw [← hW] at HGA hb0
  have HW := Lib.hid hW
  clear hW
  have hsz : (⟨t.toArray⟩ : ByteArray).size = t.length := rfl
  have HSZ := Lib.hid hsz
  clear hsz
  go_enter Tryz.func106, Tryz.ntmps106
  go_upto_region 1 with fail
  rw [← HW.out]
  go_cut [4] from 9 (fun n wx => n = .bool neg ∧ wx = W ∧ Hid ((neg = true → t = s.drop 2 ∧ 2 ≤ s.length) ∧ (neg = false → t = s)))
  case first =>
    by_cases h2 : 2 ≤ s.length
    · obtain ⟨x0, hx0⟩ : ∃ x, x = s[0].toNat := ⟨_, rfl⟩
      obtain ⟨x1, hx1⟩ : ∃ x, x = s[1].toNat := ⟨_, rfl⟩
      have g0 : ((⟨s.toArray⟩ : ByteArray)[0]'(show 0 < (⟨s.toArray⟩ : ByteArray).size from by show 0 < s.length; omega)).toNat = x0 := hx0.symm
      have g1 : ((⟨s.toArray⟩ : ByteArray)[1]'(show 1 < (⟨s.toArray⟩ : ByteArray).size from by show 1 < s.length; omega)).toNat = x1 := hx1.symm
      have i0 : 0 < s.length := by omega
      have i1 : 1 < s.length := by omega
      have HX0 := Lib.hid hx0
      have HX1 := Lib.hid hx1
      clear hx0 hx1
      by_cases e0 : x0 = 194
      · have q0 : ((x0 : Int) == 194) = true := by rw [e0]; rfl
        by_cases e1 : x1 = 175
        · have q1 : ((x1 : Int) == 175) = true := by rw [e1]; rfl
          have HP := Lib.hid (HYES.out h2 (by rw [← HX0.out]; exact e0) (by rw [← HX1.out]; exact e1))
          have HH2 := Lib.hid h2
          clear e0 e1
          go_wp2_with fail
          go_meet
          exact ⟨by rw [HP.out.1], rfl, Lib.hid ⟨fun _ => ⟨HP.out.2, HH2.out⟩, (fun h => by rw [HP.out.1] at h; cases h)⟩⟩
        · have q1 : ((x1 : Int) == 175) = false := beq_eq_false_iff_ne.2 (by omega)
          have HP := Lib.hid (HNO.out (fun _ h => e1 (by rw [HX1.out]; exact h.2)))
          clear e0 e1
          go_wp2_with fail
          go_meet
          exact ⟨by rw [HP.out.1], rfl, Lib.hid ⟨(fun h => by rw [HP.out.1] at h; cases h), fun _ => HP.out.2⟩⟩
      · have q0 : ((x0 : Int) == 194) = false := beq_eq_false_iff_ne.2 (by omega)
        have HP := Lib.hid (HNO.out (fun _ h => e0 (by rw [HX0.out]; exact h.1)))
        clear e0
        go_wp2_with fail
        go_meet
        exact ⟨by rw [HP.out.1], rfl, Lib.hid ⟨(fun h => by rw [HP.out.1] at h; cases h), fun _ => HP.out.2⟩⟩
    · have HP := Lib.hid (HNO.out (fun h _ => h2 h))
      go_wp2_with fail
      go_meet
      exact ⟨by rw [HP.out.1], rfl, Lib.hid ⟨(fun h => by rw [HP.out.1] at h; cases h), fun _ => HP.out.2⟩⟩
  case rest =>
    obtain ⟨rfl, rfl, HC⟩ := hcut
    rename World => W
    go_upto_if 22 with fail
    go_cut [0] from 9 (fun x wx => x = .string ⟨t.toArray⟩ ∧ wx = W)
    case first =>
      cases neg
      · have HT := Lib.hid (HC.out.2 rfl)
        go_wp2_with fail
        go_meet
        exact ⟨by rw [HT.out], rfl⟩
      · have HT := Lib.hid (HC.out.1 rfl)
        have h2 : 2 ≤ s.length := HT.out.2
        go_wp2_with fail
        go_meet
        exact ⟨by rw [HSF.out, HT.out.1], rfl⟩
    case rest =>
      obtain ⟨rfl, rfl⟩ := hcut
      rename World => W
      clear HC HSF HYES HNO
      by_cases h400 : 400 < t.length
      · have HE : Hid (400 < t.length) := Lib.hid h400
        go_wp2_with (with_reducible refine wpList_store_row rfl 26 (.tmp 2) (.tmp 28) rfl w.heap.size #[.bool false, .slice none 0 0, .slice none 0 0] rfl rfl 26 #[.bool false, .slice none 0 0, .slice none 0 0] HGA.out (HI3.out _ _ _ _ _ _ _) rfl (three_one _ _ _ _ _ _ _) ?_)
        refine bodyPost_ret (results_cell_row_tmp (by rfl) _ _ w.heap.size 26 #[.bool false, .slice none 0 0, .slice none 0 0] (0, 0) _ _ (by rfl) (by rfl) (rheap_same HGA.out) Tryz.underlying26 rfl (HI3.out _ _ _ _ _ _ _)) rfl (MakeOut.of (by unfold Dg.body; rw [if_pos HE.out]; rfl) rfl (isRes_nil _) (isRes_nil _) (rBelow.setRow hb0 (by omega) _))
      · have H400 : Hid (¬ 400 < t.length) := Lib.hid h400
        obtain ⟨n, hn⟩ : ∃ n, n = Dg.lead t := ⟨_, rfl⟩
        have LD := fun (wx : World) => refDigits_any t 0 wx (by omega) (by omega)
        rw [List.drop_zero] at LD
        have hll := Dg.lead_le t
        rw [← hn] at LD hll
        have LD : Hid (∀ wx : World, Calls Tryz.prog 124 #[.string ⟨t.toArray⟩, .int .i64 0] wx fun e w' => e = .returned (.int .i64 (n : Int)) ∧ wx = w') := Lib.hid LD
        have HN := Lib.hid hn
        clear hn
        go_wp2_with fail
        refine (LD.out _).mono ?_
        rintro e w' ⟨rfl, rfl⟩
        clear LD
        by_cases hl0 : n = 0
        · have hz : ((n : Int) == 0) = true := by rw [hl0]; rfl
          have HE : Hid (Dg.lead t = 0) := Lib.hid (by rw [← HN.out]; exact hl0)
          clear hl0
          go_wp2_with (with_reducible refine wpList_store_row rfl 26 (.tmp 2) (.tmp 33) rfl w.heap.size #[.bool false, .slice none 0 0, .slice none 0 0] rfl rfl 26 #[.bool false, .slice none 0 0, .slice none 0 0] HGA.out (HI3.out _ _ _ _ _ _ _) rfl (three_one _ _ _ _ _ _ _) ?_)
          refine bodyPost_ret (results_cell_row_tmp (by rfl) _ _ w.heap.size 26 #[.bool false, .slice none 0 0, .slice none 0 0] (0, 0) _ _ (by rfl) (by rfl) (rheap_same HGA.out) Tryz.underlying26 rfl (HI3.out _ _ _ _ _ _ _)) rfl (MakeOut.of (by unfold Dg.body; rw [if_neg H400.out, if_pos HE.out]; rfl) rfl (isRes_nil _) (isRes_nil _) (rBelow.setRow hb0 (by omega) _))
        · have hz : ((n : Int) == 0) = false := beq_eq_false_iff_ne.2 (by omega)
          have HL0 : Hid (¬ Dg.lead t = 0) := Lib.hid (by rw [← HN.out]; exact hl0)
          by_cases hlt : n < t.length
          · obtain ⟨y, hy⟩ : ∃ y, y = t[n].toNat := ⟨_, rfl⟩
            have hgy : ((⟨t.toArray⟩ : ByteArray)[n]'(show n < (⟨t.toArray⟩ : ByteArray).size from hlt)).toNat = y := hy.symm
            have HY : Hid (y = (t.getD n 0).toNat) := Lib.hid (by rw [hy, List.getD_eq_getElem?_getD, List.getElem?_eq_getElem hlt]; rfl)
            clear hy
            obtain ⟨ov, hov⟩ : ∃ ov, ov = t.take n := ⟨_, rfl⟩
            obtain ⟨bh, hbh⟩ : ∃ bh, bh = t.drop (n + 1) := ⟨_, rfl⟩
            have hovl : ov.length = n := by rw [hov, List.length_take]; omega
            have hbhl : bh.length = t.length - (n + 1) := by rw [hbh, List.length_drop]
            have HOL := Lib.hid hovl
            have hovl2 : ov.length ≤ 400 := by omega
            have hov0 : 0 < ov.length := by omega
            have hbhl2 : bh.length ≤ 400 := by omega
            have SU : Hid ((⟨t.toArray⟩ : ByteArray).extract 0 n = ⟨ov.toArray⟩) := Lib.hid (by rw [str_upto t n (by omega), hov])
            have SF : Hid ((⟨t.toArray⟩ : ByteArray).extract (n + 1) t.length = ⟨bh.toArray⟩) := Lib.hid (by rw [str_from, hbh])
            have HOV : Hid (ov = t.take (Dg.lead t)) := Lib.hid (by rw [← HN.out]; exact hov)
            have HBH : Hid (bh = t.drop (Dg.lead t + 1)) := Lib.hid (by rw [← HN.out]; exact hbh)
            have HBL : Hid (bh.length = t.length - (Dg.lead t + 1)) := Lib.hid (by rw [← HN.out]; exact hbhl)
            have HNE : Hid (¬ Dg.lead t = t.length) := Lib.hid (by rw [← HN.out]; omega)
            have HO : Hid (ov.length ≤ 500 ∧ ∀ b ∈ ov, Ten.isDig b) := Lib.hid ⟨by omega, by rw [HOV.out]; exact Dg.lead_take⟩
            have LB := fun (wx : World) => refDigits_any t (n + 1) wx (by omega) (by omega)
            rw [← hbh] at LB
            obtain ⟨m, hm⟩ : ∃ m, m = Dg.lead bh := ⟨_, rfl⟩
            have hml := Dg.lead_le bh
            rw [← hm] at LB hml
            have LB := Lib.hid LB
            have HM0 := Lib.hid hm
            have HEQ0 : Hid (Dg.body neg t = if m = 0 ∨ m < bh.length then (Rt.none_, 1) else if t.getD n 0 = 114 then Rt.mk neg false (Ten.numOf ov) (Ten.numOf bh) else if t.getD n 0 = 46 then Rt.mk neg false (Ten.numOf (ov ++ bh)) (10 ^ bh.length) else (Rt.none_, 1)) := Lib.hid (by
              unfold Dg.body
              rw [if_neg H400.out, if_neg HL0.out, if_neg HNE.out, ← HBL.out, ← HBH.out, ← HOV.out, ← HN.out, ← hm]
              have e : (t.length = n + 1 ∨ m < bh.length) = (m = 0 ∨ m < bh.length) := by rw [eq_iff_iff]; omega
              simp only [e])
            have HTL : Hid (n + 1 + bh.length = t.length) := Lib.hid (by omega)
            have hw5 : (n : Int) + 1 ≤ (t.length : Int) := by omega
            have q : ((n : Int) == (t.length : Int)) = false := beq_eq_false_iff_ne.2 (by omega)
            have hn0 : n ≤ 400 := by omega
            have hm0 : m ≤ 400 := by omega
            clear hov hbh hovl hbhl hm
            go_wp2_with fail
            refine (LB.out _).mono ?_
            rintro e w'' ⟨rfl, rfl⟩
            clear LB
            by_cases hmz : m = 0
            · have HM : Hid (m = 0 ∨ m < bh.length) := Lib.hid (.inl hmz)
              have q1 : ((m : Int) == 0) = true := by rw [hmz]; rfl
              clear hmz
              go_wp2_with (with_reducible refine wpList_store_row rfl 26 (.tmp 2) (.tmp 73) rfl w.heap.size #[.bool false, .slice none 0 0, .slice none 0 0] rfl rfl 26 #[.bool false, .slice none 0 0, .slice none 0 0] HGA.out (HI3.out _ _ _ _ _ _ _) rfl (three_one _ _ _ _ _ _ _) ?_)
              refine bodyPost_ret (results_cell_row_tmp (by rfl) _ _ w.heap.size 26 #[.bool false, .slice none 0 0, .slice none 0 0] (0, 0) _ _ (by rfl) (by rfl) (rheap_same HGA.out) Tryz.underlying26 rfl (HI3.out _ _ _ _ _ _ _)) rfl (MakeOut.of (by rw [HEQ0.out, if_pos HM.out]; rfl) rfl (isRes_nil _) (isRes_nil _) (rBelow.setRow hb0 (by omega) _))
            · have q1 : ((m : Int) == 0) = false := beq_eq_false_iff_ne.2 (by omega)
              by_cases hmb : m < bh.length
              · have HM : Hid (m = 0 ∨ m < bh.length) := Lib.hid (.inr hmb)
                have q2 : ((n : Int) + 1 + (m : Int) != (t.length : Int)) = true := by have := HTL.out; simp; omega
                clear hmz hmb
                go_wp2_with (with_reducible refine wpList_store_row rfl 26 (.tmp 2) (.tmp 73) rfl w.heap.size #[.bool false, .slice none 0 0, .slice none 0 0] rfl rfl 26 #[.bool false, .slice none 0 0, .slice none 0 0] HGA.out (HI3.out _ _ _ _ _ _ _) rfl (three_one _ _ _ _ _ _ _) ?_)
                refine bodyPost_ret (results_cell_row_tmp (by rfl) _ _ w.heap.size 26 #[.bool false, .slice none 0 0, .slice none 0 0] (0, 0) _ _ (by rfl) (by rfl) (rheap_same HGA.out) Tryz.underlying26 rfl (HI3.out _ _ _ _ _ _ _)) rfl (MakeOut.of (by rw [HEQ0.out, if_pos HM.out]; rfl) rfl (isRes_nil _) (isRes_nil _) (rBelow.setRow hb0 (by omega) _))
              · have HM : Hid (¬ (m = 0 ∨ m < bh.length)) := Lib.hid (fun h => h.elim hmz hmb)
                have HMB : Hid (m = bh.length) := Lib.hid (by omega)
                have q2 : ((n : Int) + 1 + (m : Int) != (t.length : Int)) = false := by have := HTL.out; simp; omega
                have hbh0 : 0 < bh.length := by omega
                have HBD : Hid (∀ b ∈ bh, Ten.isDig b) := Lib.hid (Dg.lead_full (by rw [← HM0.out]; omega))
                have HY114 : Hid (y = 114 → t.getD n 0 = 114) := Lib.hid (fun h => UInt8.toNat_inj.1 (by rw [← HY.out, h]; rfl))
                have HY46 : Hid (y = 46 → t.getD n 0 = 46) := Lib.hid (fun h => UInt8.toNat_inj.1 (by rw [← HY.out, h]; rfl))
                have HYN : Hid (∀ b : UInt8, t.getD n 0 = b → y = b.toNat) := Lib.hid (fun b h => by rw [HY.out, h])
                clear hmz hmb
                by_cases h114 : y = 114
                · have HD := Lib.hid (HY114.out h114)
                  have q114 : ((y : Int) == 114) = true := by rw [h114]; rfl
                  have q114' : ((y : Int) != 114) = false := by rw [h114]; rfl
                  clear h114
                  have HU : Hid (bh.length ≤ 500 ∧ ∀ b ∈ bh, Ten.isDig b) := Lib.hid ⟨by omega, HBD.out⟩
                  have HEQ : Hid (Dg.body neg t = Rt.mk neg false (Ten.numOf ov) (Ten.numOf bh)) := Lib.hid (by rw [HEQ0.out, if_neg HM.out, if_pos HD.out])
                  have NO := Lib.hid (fun (wx : World) => value_any ov wx (by omega) hov0 HO.out.2)
                  have NU := Lib.hid (fun (wx : World) => value_any bh wx (by omega) hbh0 HU.out.2)
                  have RO := Lib.hid (fun (wx : World) (v : Value) (h : IsRes wx v (Nt.digs (Ten.numOf ov))) => resL_num h HO.out.2 HO.out.1)
                  have RU := Lib.hid (fun (wx : World) (v : Value) (h : IsRes wx v (Nt.digs (Ten.numOf bh))) => resL_num h HU.out.2 HU.out.1)
                  obtain ⟨X, hX⟩ : ∃ X, X = Ten.numOf ov := ⟨_, rfl⟩
                  obtain ⟨Y, hY⟩ : ∃ Y, Y = Ten.numOf bh := ⟨_, rfl⟩
                  rw [← hX] at NO HEQ RO
                  rw [← hY] at NU HEQ RU
                  have MK := Lib.hid (fun (wx : World) v1 v2 h1 h2 => rmake_any neg v1 v2 X Y wx h1 h2)
                  rw [← SU.out] at NO
                  rw [← SF.out] at NU
                  have hw1 : IntKind.i64.wrap ((n : Int) + 1) = (n : Int) + 1 := IntWalk.i64_in _ (by omega)
                  have hw2 : (0 : Int) ≤ (n : Int) + 1 := by omega
                  have hw4 : ((n : Int) + 1).toNat = n + 1 := by omega
                  have hw6 : (0 : Int) ≤ (n : Int) := by omega
                  have hw7 : (n : Int) ≤ (t.length : Int) := by omega
                  have hbd : Below w.heap.size w W.drew := ⟨hb0.os, hb0.tape, hb0.output, hb0.size, hb0.block⟩
                  have HGD : Hid (W.drew.heap[w.heap.size]? = some (.cells #[.bool false, .slice none 0 0, .slice none 0 0] 26 (0, 0))) := Lib.hid HGA.out
                  clear hX hY
                  go_wp2_with fail
                  go_region_held3 (fun w' => True) (trivial)
                    (first
                      | ((with_reducible refine (NO.out _).mono ?_)
                         rintro e wo ⟨v1, rfl, hr1, hbO⟩
                         have HRO := Lib.hid (RO.out _ _ hr1)
                         have HG2 := Lib.hid ((hbO.block w.heap.size (blk_lt HGD.out)).trans HGD.out)
                         have hbw2 := hbd.trans (hbO.mono hbd.size)
                         obtain ⟨A1, c1, rfl, -⟩ := hr1
                         clear hbO)
                      | ((with_reducible refine (NU.out _).mono ?_)
                         rintro e wu ⟨v2, rfl, hr2, hbU⟩
                         have HRU := Lib.hid (RU.out _ _ hr2)
                         have HRO2 := Lib.hid (HRO.out.below hbU)
                         have HG3 := Lib.hid ((hbU.block w.heap.size (blk_lt HG2.out)).trans HG2.out)
                         have hbw3 := hbw2.trans (hbU.mono hbw2.size)
                         obtain ⟨A2, c2, rfl, -⟩ := hr2
                         clear hbU)
                      | ((with_reducible refine (MK.out _ _ _ HRO2.out HRU.out).mono ?_)
                         rintro e w4 ⟨r1, r2, rfl, hr3, hr4, hb4⟩
                         have HG4 := Lib.hid ((hb4.block w.heap.size (blk_lt HG3.out)).trans HG3.out)
                         have hbw4 := hbw3.trans (hb4.mono hbw3.size)
                         have HR3 := Lib.hid (hr3.setRow HG4.out (three_no_int _ _ _ _ _ _ _) #[.bool (Rt.mk neg false X Y).1.neg, r1, r2])
                         have HR4 := Lib.hid (hr4.setRow HG4.out (three_no_int _ _ _ _ _ _ _) #[.bool (Rt.mk neg false X Y).1.neg, r1, r2])
                         obtain ⟨A3, c3, rfl, -⟩ := hr3
                         obtain ⟨A4, c4, rfl, -⟩ := hr4
                         clear hb4 HG3 hbw3
                         generalize Rt.mk neg false X Y = R at *
                         obtain ⟨⟨rn, rt, rb⟩, re⟩ := R
                         dsimp only at HR3 HR4 HEQ ⊢
                         have c0 : w4.cell? ⟨w.heap.size, 0, none⟩ = some (.bool false) := (cell_of_row w4 w.heap.size 0 _ _ _ HG4.out).trans rfl
                         have c1 : w4.cell? ⟨w.heap.size, 1, none⟩ = some (.slice none 0 0) := (cell_of_row w4 w.heap.size 1 _ _ _ HG4.out).trans rfl
                         have c2 : w4.cell? ⟨w.heap.size, 2, none⟩ = some (.slice none 0 0) := (cell_of_row w4 w.heap.size 2 _ _ _ HG4.out).trans rfl
                         have z0 := Blk.frozen (vs := [.bool false, .slice none 0 0, .slice none 0 0]) HG4.out 0
                         have z1 := Blk.frozen (vs := [.bool false, .slice none 0 0, .slice none 0 0]) HG4.out 1
                         have z2 := Blk.frozen (vs := [.bool false, .slice none 0 0, .slice none 0 0]) HG4.out 2)
                      | fail)
                  go_wp2_with fail
                  rw [setRow3 HG4.out]
                  refine bodyPost_ret (results_cell_row_tmp (by rfl) _ _ w.heap.size 26 #[.bool rn, .slice A3 rt.length c3, .slice A4 rb.length c4] (0, 0) _ _ (by rfl) (by rfl) (rheap_same HG4.out) Tryz.underlying26 rfl (HI3.out _ _ _ _ _ _ _)) rfl (MakeOut.of HEQ.out rfl HR3.out HR4.out (rBelow.setRow hbw4 (by omega) _))
                · have q114 : ((y : Int) == 114) = false := beq_eq_false_iff_ne.2 (by omega)
                  have q114' : ((y : Int) != 114) = true := by simp; omega
                  have HD1 : Hid (¬ t.getD n 0 = 114) := Lib.hid (fun h => h114 (HYN.out _ h))
                  clear h114
                  by_cases h46 : y = 46
                  · have HD := Lib.hid (HY46.out h46)
                    have q46 : ((y : Int) != 46) = false := by rw [h46]; rfl
                    clear h46
                    obtain ⟨o2, ho2⟩ : ∃ o2, o2 = ov ++ bh := ⟨_, rfl⟩
                    have SO2 : Hid ((⟨t.toArray⟩ : ByteArray).extract 0 n ++ (⟨t.toArray⟩ : ByteArray).extract (n + 1) t.length = ⟨o2.toArray⟩) := Lib.hid (by rw [SU.out, SF.out]; apply ByteArray.ext; rw [ho2]; simp)
                    have HO2 : Hid (o2.length ≤ 500 ∧ ∀ b ∈ o2, Ten.isDig b) := Lib.hid ⟨by rw [ho2, List.length_append]; have := HTL.out; have := HOL.out; omega, by
                      intro b hb; rw [ho2] at hb; rcases List.mem_append.1 hb with hb | hb
                      · exact HO.out.2 b hb
                      · exact HBD.out b hb⟩
                    have hpos2 : 0 < o2.length := by rw [ho2, List.length_append]; omega
                    have HEQ : Hid (Dg.body neg t = Rt.mk neg false (Ten.numOf o2) (10 ^ m)) := Lib.hid (by rw [HEQ0.out, if_neg HM.out, if_neg HD1.out, if_pos HD.out, HMB.out, ho2])
                    have NO := Lib.hid (fun (wx : World) => value_any o2 wx (by have := HO2.out.1; omega) hpos2 HO2.out.2)
                    have RO := Lib.hid (fun (wx : World) (v : Value) (h : IsRes wx v (Nt.digs (Ten.numOf o2))) => resL_num h HO2.out.2 HO2.out.1)
                    obtain ⟨X, hX⟩ : ∃ X, X = Ten.numOf o2 := ⟨_, rfl⟩
                    rw [← hX] at NO HEQ RO
                    rw [← SO2.out] at NO
                    have HLT : Hid (∀ i, i ≤ m → (Nt.digs (10 ^ i)).length ≤ 64) := Lib.hid (fun i hi => by have := Dg.limbs_ten (k := i) 45 (by omega); omega)
                    have HST : Hid (∀ wx : World, IsRes (wx.alloc (.cells #[.int .u32 1] 22)) (.slice (some ⟨wx.heap.size, 0, none⟩) 1 1) (Nt.digs (10 ^ 0))) := Lib.hid (fun wx => by rw [Nat.pow_zero, digs_one]; exact isRes_new wx [1] (by decide))
                    have HMU : Hid (∀ (wx : World) (v : Value) (i : Nat), i ≤ m → IsRes wx v (Nt.digs (10 ^ i)) → Calls Tryz.prog 56 #[v, .slice (some ⟨wx.heap.size, 0, none⟩) 1 1] (wx.alloc (.cells #[.int .u32 10] 22)) fun e w' => ∃ v', e = .returned v' ∧ IsRes w' v' (Nt.digs (10 ^ (i + 1))) ∧ Below wx.heap.size wx w') := Lib.hid (fun wx v i hi hv => by
                      have hba : Below wx.heap.size wx (wx.alloc (.cells #[.int .u32 10] 22)) := (Below.refl _ _).alloc (Nat.le_refl _) _
                      have := rMul_res (hv.below hba) (isRes_new wx [10] (by decide)) (Nt.ok_digs _) (by intro d hd; rw [List.mem_singleton] at hd; subst hd; decide) (by have := HLT.out i hi; omega) (by decide)
                      rw [Nt.val_digs, show Nt.val [10] = 10 from rfl, ← Nat.pow_succ] at this
                      refine this.mono ?_
                      rintro e w' ⟨v', rfl, hr, hb⟩
                      exact ⟨v', rfl, hr, hba.trans (hb.mono hba.size)⟩)
                    have hw1 : IntKind.i64.wrap ((n : Int) + 1) = (n : Int) + 1 := IntWalk.i64_in _ (by omega)
                    have HW1 := Lib.hid hw1
                    have hbW : Below W.heap.size W (W.alloc (.cells #[.int .u32 1] 22)) := (Below.refl _ _).alloc (Nat.le_refl _) _
                    have HBW := Lib.hid hbW
                    clear hX hw1 ho2 hbW
                    go_wp2_with fail
                    go_loopw [7, 8] (fun bv iv wr => ∃ (i : Nat), i ≤ m ∧ iv = .int .i64 (i : Int) ∧ Hid (IsRes wr bv (Nt.digs (10 ^ i))) ∧ Below W.heap.size W wr) (fun _ iv _ => m - (intOf iv).toNat)
                    case atStart => exact ⟨0, Nat.zero_le _, rfl, Lib.hid (HST.out W), HBW.out⟩
                    case round =>
                      obtain ⟨i, him, rfl, HR, hbr⟩ := hrel
                      have hsr := hbr.size
                      by_cases hi : i < m
                      · have HMU2 := Lib.hid (HMU.out wr u7 i him HR.out)
                        go_wp2_with fail
                        refine HMU2.out.mono ?_
                        rintro e w5 ⟨v', rfl, hr5, hb5⟩
                        have HR5 := Lib.hid hr5
                        have hb6 := hbr.trans (hb5.mono hsr)
                        clear hr5 hb5 HMU2
                        go_wp2_with fail
                        go_roundw
                        case rel => exact ⟨i + 1, by omega, by go_num, HR5, hb6⟩
                        case measure => simp [intOf]; omega
                      · obtain rfl : i = m := by omega
                        have HRL : Hid (ResL wr u7 (Nt.digs (10 ^ i))) := Lib.hid ⟨HR.out, Nt.ok_digs _, HLT.out i (Nat.le_refl _)⟩
                        obtain ⟨A2, c2, rfl, -⟩ := HR.out
                        obtain ⟨Y, hY⟩ : ∃ Y, Y = 10 ^ i := ⟨_, rfl⟩
                        rw [← hY] at HRL HEQ HR ⊢
                        have MK := Lib.hid (fun (wx : World) v1 v2 h1 h2 => rmake_any neg v1 v2 X Y wx h1 h2)
                        have hbd : Below w.heap.size w wr.drew := by
                          have := hb0.trans (hbr.mono hb0.size)
                          exact ⟨this.os, this.tape, this.output, this.size, this.block⟩
                        have HGD : Hid (wr.drew.heap[w.heap.size]? = some (.cells #[.bool false, .slice none 0 0, .slice none 0 0] 26 (0, 0))) := Lib.hid ((hbr.block w.heap.size (blk_lt HGA.out)).trans HGA.out)
                        have HRD : Hid (ResL wr.drew (.slice A2 (Nt.digs Y).length c2) (Nt.digs Y)) := Lib.hid (HRL.out.below ⟨rfl, rfl, rfl, Nat.le_refl _, fun _ _ => rfl⟩)
                        have hw1 := HW1.out
                        have hw2 : (0 : Int) ≤ (n : Int) + 1 := by omega
                        have hw4 : ((n : Int) + 1).toNat = n + 1 := by omega
                        have hw6 : (0 : Int) ≤ (n : Int) := by omega
                        have hw7 : (n : Int) ≤ (t.length : Int) := by omega
                        have hcc : ¬ 9223372036854775807 < n + (t.length - (n + 1)) := by omega
                        clear hY HMU HST HLT HR HRL hi him HEQ0
                        go_wp2_with fail
                        go_region_held3 (fun w' => True) (trivial)
                          (first
                            | ((with_reducible refine (NO.out _).mono ?_)
                               rintro e wo ⟨v1, rfl, hr1, hbO⟩
                               have HRO := Lib.hid (RO.out _ _ hr1)
                               have HRU := Lib.hid (HRD.out.below hbO)
                               have HG3 := Lib.hid ((hbO.block w.heap.size (blk_lt HGD.out)).trans HGD.out)
                               have hbw3 := hbd.trans (hbO.mono hbd.size)
                               obtain ⟨A1, c1, rfl, -⟩ := hr1
                               clear hbO)
                            | ((with_reducible refine (MK.out _ _ _ HRO.out HRU.out).mono ?_)
                               rintro e w4 ⟨r1, r2, rfl, hr3, hr4, hb4⟩
                               have HG4 := Lib.hid ((hb4.block w.heap.size (blk_lt HG3.out)).trans HG3.out)
                               have hbw4 := hbw3.trans (hb4.mono hbw3.size)
                               have HR3 := Lib.hid (hr3.setRow HG4.out (three_no_int _ _ _ _ _ _ _) #[.bool (Rt.mk neg false X Y).1.neg, r1, r2])
                               have HR4 := Lib.hid (hr4.setRow HG4.out (three_no_int _ _ _ _ _ _ _) #[.bool (Rt.mk neg false X Y).1.neg, r1, r2])
                               obtain ⟨A3, c3, rfl, -⟩ := hr3
                               obtain ⟨A4, c4, rfl, -⟩ := hr4
                               clear hb4 HG3 hbw3
                               generalize Rt.mk neg false X Y = R at *
                               obtain ⟨⟨rn, rt, rb⟩, re⟩ := R
                               dsimp only at HR3 HR4 HEQ ⊢
                               have c0 : w4.cell? ⟨w.heap.size, 0, none⟩ = some (.bool false) := (cell_of_row w4 w.heap.size 0 _ _ _ HG4.out).trans rfl
                               have c1 : w4.cell? ⟨w.heap.size, 1, none⟩ = some (.slice none 0 0) := (cell_of_row w4 w.heap.size 1 _ _ _ HG4.out).trans rfl
                               have c2 : w4.cell? ⟨w.heap.size, 2, none⟩ = some (.slice none 0 0) := (cell_of_row w4 w.heap.size 2 _ _ _ HG4.out).trans rfl
                               have z0 := Blk.frozen (vs := [.bool false, .slice none 0 0, .slice none 0 0]) HG4.out 0
                               have z1 := Blk.frozen (vs := [.bool false, .slice none 0 0, .slice none 0 0]) HG4.out 1
                               have z2 := Blk.frozen (vs := [.bool false, .slice none 0 0, .slice none 0 0]) HG4.out 2)
                            | fail)
                        go_wp2_with fail
                        rw [setRow3 HG4.out]
                        refine bodyPost_ret (results_cell_row_tmp (by rfl) _ _ w.heap.size 26 #[.bool rn, .slice A3 rt.length c3, .slice A4 rb.length c4] (0, 0) _ _ (by rfl) (by rfl) (rheap_same HG4.out) Tryz.underlying26 rfl (HI3.out _ _ _ _ _ _ _)) rfl (MakeOut.of HEQ.out rfl HR3.out HR4.out (rBelow.setRow hbw4 (by omega) _))
                  · have q46 : ((y : Int) != 46) = true := by simp; omega
                    have HD2 : Hid (¬ t.getD n 0 = 46) := Lib.hid (fun h => h46 (HYN.out _ h))
                    clear h46
                    go_wp2_with (with_reducible refine wpList_store_row rfl 26 (.tmp 2) (.tmp 73) rfl w.heap.size #[.bool false, .slice none 0 0, .slice none 0 0] rfl rfl 26 #[.bool false, .slice none 0 0, .slice none 0 0] HGA.out (HI3.out _ _ _ _ _ _ _) rfl (three_one _ _ _ _ _ _ _) ?_)
                    refine bodyPost_ret (results_cell_row_tmp (by rfl) _ _ w.heap.size 26 #[.bool false, .slice none 0 0, .slice none 0 0] (0, 0) _ _ (by rfl) (by rfl) (rheap_same HGA.out) Tryz.underlying26 rfl (HI3.out _ _ _ _ _ _ _)) rfl (MakeOut.of (by rw [HEQ0.out, if_neg HM.out, if_neg HD1.out, if_neg HD2.out]; rfl) rfl (isRes_nil _) (isRes_nil _) (rBelow.setRow hb0 (by omega) _))
          · have HO : Hid (t.length ≤ 500 ∧ ∀ b ∈ t, Ten.isDig b) := Lib.hid ⟨by omega, Dg.lead_full (by rw [← HN.out]; omega)⟩
            have hpos : 0 < t.length := by omega
            have NO := Lib.hid (fun (wx : World) => value_any t wx (by omega) hpos HO.out.2)
            have HLE : Hid (n = t.length) := Lib.hid (by omega)
            have q : ((n : Int) == (t.length : Int)) = true := by rw [HLE.out]; simp
            have HEQ : Hid (Dg.body neg t = Rt.mk neg false (Ten.numOf t) 1) := Lib.hid (by unfold Dg.body; rw [if_neg H400.out, if_neg HL0.out, if_pos (by rw [← HN.out]; exact HLE.out)])
            obtain ⟨X, hX⟩ : ∃ X, X = Ten.numOf t := ⟨_, rfl⟩
            have RL := Lib.hid (fun (wx : World) (v : Value) (h : IsRes wx v (Nt.digs (Ten.numOf t))) => resL_num h HO.out.2 HO.out.1)
            rw [← hX] at NO HEQ RL
            clear hX
            go_wp2_with fail
            refine (NO.out _).mono ?_
            rintro e w2 ⟨v1, rfl, hr1, hb2⟩
            have HR1 := Lib.hid (RL.out _ _ hr1)
            have HG2 := Lib.hid ((hb2.block w.heap.size (blk_lt HGA.out)).trans HGA.out)
            have hbw2 := hb0.trans (hb2.mono hb0.size)
            obtain ⟨A1, c1, rfl, -⟩ := hr1
            have OF := Lib.hid (refOfInt_any 1 w2 (by decide) (by decide))
            clear hb2 NO RL
            go_wp2_with fail
            refine OF.out.mono ?_
            rintro e w3 ⟨v2, rfl, hr2, hb3⟩
            have MK := Lib.hid (rmake_any neg _ _ X 1 w3 (HR1.out.below hb3) hr2)
            have HG3 := Lib.hid ((hb3.block w.heap.size (blk_lt HG2.out)).trans HG2.out)
            have hbw3 := hbw2.trans (hb3.mono hbw2.size)
            obtain ⟨⟨A2, c2, rfl, -⟩, -⟩ := hr2
            clear hb3 HG2 hbw2 HR1 OF
            rw [show decide ((1 : Int) < 0) = false from rfl]
            obtain ⟨Y, hY⟩ : ∃ Y, Y = (1 : Nat) := ⟨_, rfl⟩
            have HY : Hid ((1 : Nat) = Y) := Lib.hid hY.symm
            rw [HY.out] at MK HEQ
            clear hY
            go_wp2_with fail
            refine MK.out.mono ?_
            rintro e w4 ⟨r1, r2, rfl, hr3, hr4, hb4⟩
            clear MK
            have HG4 := Lib.hid ((hb4.block w.heap.size (blk_lt HG3.out)).trans HG3.out)
            have hbw4 := hbw3.trans (hb4.mono hbw3.size)
            have HR3 := Lib.hid (hr3.setRow HG4.out (three_no_int _ _ _ _ _ _ _) #[.bool (Rt.mk neg false X Y).1.neg, r1, r2])
            have HR4 := Lib.hid (hr4.setRow HG4.out (three_no_int _ _ _ _ _ _ _) #[.bool (Rt.mk neg false X Y).1.neg, r1, r2])
            obtain ⟨A3, c3, rfl, -⟩ := hr3
            obtain ⟨A4, c4, rfl, -⟩ := hr4
            clear hb4 HG3 hbw3
            generalize Rt.mk neg false X Y = R at *
            obtain ⟨⟨rn, rt, rb⟩, re⟩ := R
            dsimp only at HR3 HR4 HEQ ⊢
            go_wp2_with (with_reducible refine wpList_store_row rfl 26 (.tmp 2) (.tmp 44) rfl w.heap.size #[.bool rn, .slice A3 rt.length c3, .slice A4 rb.length c4] rfl rfl 26 #[.bool false, .slice none 0 0, .slice none 0 0] HG4.out (HI3.out _ _ _ _ _ _ _) rfl (three_one _ _ _ _ _ _ _) ?_)
            refine bodyPost_ret (results_cell_row_tmp (by rfl) _ _ w.heap.size 26 #[.bool rn, .slice A3 rt.length c3, .slice A4 rb.length c4] (0, 0) _ _ (by rfl) (by rfl) (rheap_same HG4.out) Tryz.underlying26 rfl (HI3.out _ _ _ _ _ _ _)) rfl (MakeOut.of HEQ.out rfl HR3.out HR4.out (rBelow.setRow hbw4 (by omega) _))
end Go.Proofs.YtfiefglagknclaaGreatDoor

/-
  token.next: the token that begins at a place.
-/
namespace Go.Proofs.YtfiefglagknclaaGreatDoor
open Go.RowKit
set_option maxHeartbeats 4000000
set_option maxRecDepth 100000
set_option linter.unusedVariables false

/-- A row of another type stands when a row is stored. -/
theorem own_setRow_t {w : World} {base : Nat} {e t : TypeId} {size n : Nat} {v : Value} {xs : List Value} (h : w.ownsRow base e size v n xs) {g : Nat} {old : Array Value} (hg : w.heap[g]? = some (.cells old t (0, 0))) (hne : t ≠ e) (cs : Array Value) : (w.setRow g cs).ownsRow base e size v n xs := by
  obtain ⟨h1, h2⟩ := h
  refine ⟨h1, ?_⟩
  rcases h2 with h2 | ⟨g', cap, cur, hv, hb, hh, r⟩
  · exact .inl h2
  · have hgg : g ≠ g' := by
      rintro rfl
      rw [hg] at hh
      injection hh with hh
      injection hh with _ e2
      exact hne e2
    exact .inr ⟨g', cap, cur, hv, hb, by rw [← hh]; simp only [World.setRow, Array.getElem?_modify]; rw [if_neg hgg], r⟩
theorem tok_moved {w w' : World} (t : Tk.Tok) {en : Nat} {er : Int} {n1 n2 lv : Value} {cs : Array Value} (hg : w'.heap[w.heap.size]? = some (.cells #[.int .i64 0, .bool false, .slice none 0 0, .slice none 0 0, .slice none 0 0, .string ⟨#[]⟩, .int .i64 0, .int .i64 0] 67 (0, 0)))
    (h1 : IsRes w' n1 t.n.top) (h2 : IsRes w' n2 t.n.bot) (h3 : w'.ownsRow 0 3 1 lv t.l.length (I64 t.l)) (hb : Below w.heap.size w w') :
    TokOut w t en er (.returned (.tuple #[.agg #[.int .i64 t.kind, .bool t.n.neg, n1, n2, lv, .string ⟨t.s.toArray⟩, .int .i64 t.c, .int .i64 0], .int .i64 (en : Int), .int .i64 er])) (w'.setRow w.heap.size cs) :=
  ⟨n1, n2, lv, rfl, h1.setRowU hg tok_noU _, h2.setRowU hg tok_noU _, own_setRow_t h3 hg (by decide) _, rBelow.setRow hb (Nat.le_refl _) _⟩

theorem next_any (A : Option Addr) (c : Nat) (l : List Int) (i : Nat) (w : World) (hl : Lies w w.heap.size A (I64 l)) (hn : l.length ≤ 25000) (hcap : l.length ≤ c) (hm : ∀ x ∈ l, Gl.may x = true) (hi : i < l.length) (hb1 : Tk.cls (l.getD i (-1)) ≠ 1) :
    Calls Tryz.prog 34 #[.slice A l.length c, .int .i64 (i : Int)] w (ReadOut w l i) := by
  obtain ⟨r, hr⟩ : ∃ r, r = Tk.read l i := ⟨_, rfl⟩
  obtain ⟨t, n, er⟩ := r
  obtain ⟨en, hen⟩ : ∃ en, en = (if er = 0 then i + n else 0) := ⟨_, rfl⟩
  have HR : Hid (∀ e w', TokOut w t en er e w' → ReadOut w l i e w') := Lib.hid (fun e w' h => by unfold ReadOut; rw [← hr]; dsimp only; rw [← hen]; exact h)
  have HRD := Lib.hid hr
  have HEN := Lib.hid hen
  obtain ⟨W, hW⟩ : ∃ W, W = w.alloc (.cells #[.int .i64 0, .bool false, .slice none 0 0, .slice none 0 0, .slice none 0 0, .string ⟨#[]⟩, .int .i64 0, .int .i64 0] 67) := ⟨_, rfl⟩
  have hb0 : Below w.heap.size w W := by rw [hW]; exact (Below.refl _ _).alloc (Nat.le_refl _) _
  have HGA : Hid (W.heap[w.heap.size]? = some (.cells #[.int .i64 0, .bool false, .slice none 0 0, .slice none 0 0, .slice none 0 0, .string ⟨#[]⟩, .int .i64 0, .int .i64 0] 67 (0, 0))) := Lib.hid (by rw [hW]; exact heap_alloc_new w _)
  have HWS : Hid (W.heap.size = w.heap.size + 1) := Lib.hid (by rw [hW]; simp)
  have hlW : Lies W W.heap.size A (I64 l) := (hl.below hb0).more hb0.size
  obtain ⟨x, hx⟩ : ∃ x, x = l.getD i (-1) := ⟨_, rfl⟩
  rw [← hx] at hb1
  have HX := Lib.hid hx
  have CA := Lib.hid (fun wx => class_any x wx)
  have NUM := Lib.hid (fun h => tokNumber_any A c l i W hlW hn hcap hm hi h)
  have NAM := Lib.hid (fun h => name_any A c l i W hlW (by omega) hcap hm hi h)
  have TXT := Lib.hid (fun h => tokText_any A c l i W hlW hn hcap hi h)
  have PRT := Lib.hid (fun h => port_any A c l i W hlW hn hcap hi h)
  rw [← hx] at NUM NAM TXT PRT
  have HW : Hid (W = w.alloc (.cells #[.int .i64 0, .bool false, .slice none 0 0, .slice none 0 0, .slice none 0 0, .string ⟨#[]⟩, .int .i64 0, .int .i64 0] 67)) := Lib.hid hW
  obtain ⟨b, off, rfl, hb, g0⟩ := lies_i64 hlW hi
  rw [← Tk.getD_in hi, ← hx] at g0
  obtain ⟨k, hk⟩ : ∃ k, k = Tk.cls x := ⟨_, rfl⟩
  rw [← hk] at CA hb1 NUM NAM
  have HK := Lib.hid hk
  clear hl hlW hm hW hr hen hx hk
  go_enter Tryz.func34, Tryz.ntmps34
  go_upto_region 1 with fail
  rw [← HW.out]
  go_upto_region 2 with fail
  go_wp2_with fail
  refine (CA.out _).mono ?_
  rintro e w' ⟨rfl, rfl⟩
  by_cases k3 : k = 3
  · have q3 : (k == 3) = true := by rw [k3]; rfl
    have HCA := Lib.hid (NUM.out k3)
    unfold ReadOut at HCA
    rw [← HRD.out] at HCA
    dsimp only at HCA
    rw [← HEN.out] at HCA
    clear NAM TXT PRT NUM hb1 k3
    go_wp2_with fail
    refine HCA.out.mono ?_
    intro e w' h
    obtain ⟨n1, n2, lv, he, h1, h2, h3, h4⟩ := h
    have he : e = .returned (.tuple #[.agg #[.int .i64 t.kind, .bool t.n.neg, n1, n2, lv, .string ⟨t.s.toArray⟩, .int .i64 t.c, .int .i64 0], .int .i64 (en : Int), .int .i64 er]) := he
    subst he
    have h1' := h1
    have h2' := h2
    obtain ⟨A1, c1, rfl, _⟩ := h1'
    obtain ⟨A2, c2, rfl, _⟩ := h2'
    obtain ⟨A3, c3, rfl, _, _⟩ := own_slice h3
    have HGX : Hid (w'.heap[w.heap.size]? = some (.cells #[.int .i64 0, .bool false, .slice none 0 0, .slice none 0 0, .slice none 0 0, .string ⟨#[]⟩, .int .i64 0, .int .i64 0] 67 (0, 0))) := Lib.hid ((h4.block w.heap.size (by rw [HWS.out]; omega)).trans HGA.out)
    have H1 := Lib.hid h1
    have H2 := Lib.hid h2
    have H3 := Lib.hid h3
    have H4 := Lib.hid h4
    clear h1 h2 h3 h4
    go_wp2_with (with_reducible refine wpList_store_row rfl 67 (.tmp 4) (.tmp 19) rfl w.heap.size #[.int .i64 t.kind, .bool t.n.neg, .slice A1 t.n.top.length c1, .slice A2 t.n.bot.length c2, .slice A3 t.l.length c3, .string ⟨t.s.toArray⟩, .int .i64 t.c, .int .i64 0] rfl rfl 67 #[.int .i64 0, .bool false, .slice none 0 0, .slice none 0 0, .slice none 0 0, .string ⟨#[]⟩, .int .i64 0, .int .i64 0] HGX.out (tok_infoR _ _ _ _ _ _ _ _) rfl (tok_one _ _ _ _ _ _ _ _ _ _ _ _ _ _) ?_)
    refine bodyPost_ret (results_cell_row_tmp2 (by rfl) _ _ w.heap.size 67 #[.int .i64 t.kind, .bool t.n.neg, .slice A1 t.n.top.length c1, .slice A2 t.n.bot.length c2, .slice A3 t.l.length c3, .string ⟨t.s.toArray⟩, .int .i64 t.c, .int .i64 0] (0, 0) _ _ _ (by rfl) (by rfl) (by rfl) (rheap_same HGX.out) Tryz.underlying67 rfl (tok_infoR _ _ _ _ _ _ _ _)) rfl (HR.out _ _ ?_)
    exact tok_moved t (HGX.out) H1.out H2.out H3.out (hb0.trans (H4.out.mono (by rw [HWS.out]; omega)))
  · have q3 : (k == 3) = false := beq_eq_false_iff_ne.2 k3
    by_cases k2 : k = 2
    · have q2 : (k == 2) = true := by rw [k2]; rfl
      have HCA := Lib.hid (NAM.out k2)
      unfold ReadOut at HCA
      rw [← HRD.out] at HCA
      dsimp only at HCA
      rw [← HEN.out] at HCA
      clear NAM TXT PRT NUM hb1 k3 k2
      go_wp2_with fail
      refine HCA.out.mono ?_
      intro e w' h
      obtain ⟨n1, n2, lv, he, h1, h2, h3, h4⟩ := h
      have he : e = .returned (.tuple #[.agg #[.int .i64 t.kind, .bool t.n.neg, n1, n2, lv, .string ⟨t.s.toArray⟩, .int .i64 t.c, .int .i64 0], .int .i64 (en : Int), .int .i64 er]) := he
      subst he
      have h1' := h1
      have h2' := h2
      obtain ⟨A1, c1, rfl, _⟩ := h1'
      obtain ⟨A2, c2, rfl, _⟩ := h2'
      obtain ⟨A3, c3, rfl, _, _⟩ := own_slice h3
      have HGX : Hid (w'.heap[w.heap.size]? = some (.cells #[.int .i64 0, .bool false, .slice none 0 0, .slice none 0 0, .slice none 0 0, .string ⟨#[]⟩, .int .i64 0, .int .i64 0] 67 (0, 0))) := Lib.hid ((h4.block w.heap.size (by rw [HWS.out]; omega)).trans HGA.out)
      have H1 := Lib.hid h1
      have H2 := Lib.hid h2
      have H3 := Lib.hid h3
      have H4 := Lib.hid h4
      clear h1 h2 h3 h4
      go_wp2_with (with_reducible refine wpList_store_row rfl 67 (.tmp 4) (.tmp 27) rfl w.heap.size #[.int .i64 t.kind, .bool t.n.neg, .slice A1 t.n.top.length c1, .slice A2 t.n.bot.length c2, .slice A3 t.l.length c3, .string ⟨t.s.toArray⟩, .int .i64 t.c, .int .i64 0] rfl rfl 67 #[.int .i64 0, .bool false, .slice none 0 0, .slice none 0 0, .slice none 0 0, .string ⟨#[]⟩, .int .i64 0, .int .i64 0] HGX.out (tok_infoR _ _ _ _ _ _ _ _) rfl (tok_one _ _ _ _ _ _ _ _ _ _ _ _ _ _) ?_)
      refine bodyPost_ret (results_cell_row_tmp2 (by rfl) _ _ w.heap.size 67 #[.int .i64 t.kind, .bool t.n.neg, .slice A1 t.n.top.length c1, .slice A2 t.n.bot.length c2, .slice A3 t.l.length c3, .string ⟨t.s.toArray⟩, .int .i64 t.c, .int .i64 0] (0, 0) _ _ _ (by rfl) (by rfl) (by rfl) (rheap_same HGX.out) Tryz.underlying67 rfl (tok_infoR _ _ _ _ _ _ _ _)) rfl (HR.out _ _ ?_)
      exact tok_moved t (HGX.out) H1.out H2.out H3.out (hb0.trans (H4.out.mono (by rw [HWS.out]; omega)))
    · have q2 : (k == 2) = false := beq_eq_false_iff_ne.2 k2
      by_cases k0 : k = 0
      · have q0 : (k == 0) = true := by rw [k0]; rfl
        have HRE : Hid (t = Tk.none_ ∧ en = 0 ∧ er = 1) := Lib.hid (by
          have h := HRD.out
          unfold Tk.read at h
          rw [← HX.out] at h
          dsimp only at h
          rw [← HK.out, if_neg k3, if_neg k2, if_neg (fun e => by have h' := HK.out; rw [e, k0] at h'; exact absurd h' (by decide)), if_neg (fun e => by have h' := HK.out; rcases e with e | e <;> (rw [e, k0] at h'; exact absurd h' (by decide))), if_pos k0] at h
          have e1 := congrArg (fun p => p.1) h
          have e2 := congrArg (fun p => p.2.2) h
          dsimp only at e1 e2
          exact ⟨e1, by rw [HEN.out, e2]; rfl, e2⟩)
        clear hb1 k0 k2 k3
        go_wp2_with (with_reducible refine wpList_store_row rfl 67 (.tmp 4) (.tmp 32) rfl w.heap.size #[.int .i64 0, .bool false, .slice none 0 0, .slice none 0 0, .slice none 0 0, .string ⟨#[]⟩, .int .i64 0, .int .i64 0] rfl rfl 67 #[.int .i64 0, .bool false, .slice none 0 0, .slice none 0 0, .slice none 0 0, .string ⟨#[]⟩, .int .i64 0, .int .i64 0] HGA.out (tok_infoR _ _ _ _ _ _ _ _) rfl (tok_one _ _ _ _ _ _ _ _ _ _ _ _ _ _) ?_)
        refine bodyPost_ret (results_cell_row_tmp2 (by rfl) _ _ w.heap.size 67 #[.int .i64 0, .bool false, .slice none 0 0, .slice none 0 0, .slice none 0 0, .string ⟨#[]⟩, .int .i64 0, .int .i64 0] (0, 0) _ _ _ (by rfl) (by rfl) (by rfl) (rheap_same HGA.out) Tryz.underlying67 rfl (tok_infoR _ _ _ _ _ _ _ _)) rfl (HR.out _ _ ?_)
        obtain ⟨r1, r2, r3⟩ := HRE.out
        rw [r1, r2, r3]
        exact ⟨_, _, _, rfl, isRes_nil _, isRes_nil _, World.ownsRow_nil _ _ _ _, rBelow.setRow hb0 (Nat.le_refl _) _⟩
      · have q0 : (k == 0) = false := beq_eq_false_iff_ne.2 k0
        by_cases x39 : x = 39
        · have y39 : (x == 39) = true := by rw [x39]; rfl
          have HCA := Lib.hid (TXT.out x39)
          unfold ReadOut at HCA
          rw [← HRD.out] at HCA
          dsimp only at HCA
          rw [← HEN.out] at HCA
          clear NAM TXT PRT NUM hb1 k3 k2 k0 x39
          go_wp2_with fail
          refine HCA.out.mono ?_
          intro e w' h
          obtain ⟨n1, n2, lv, he, h1, h2, h3, h4⟩ := h
          have he : e = .returned (.tuple #[.agg #[.int .i64 t.kind, .bool t.n.neg, n1, n2, lv, .string ⟨t.s.toArray⟩, .int .i64 t.c, .int .i64 0], .int .i64 (en : Int), .int .i64 er]) := he
          subst he
          have h1' := h1
          have h2' := h2
          obtain ⟨A1, c1, rfl, _⟩ := h1'
          obtain ⟨A2, c2, rfl, _⟩ := h2'
          obtain ⟨A3, c3, rfl, _, _⟩ := own_slice h3
          have HGX : Hid (w'.heap[w.heap.size]? = some (.cells #[.int .i64 0, .bool false, .slice none 0 0, .slice none 0 0, .slice none 0 0, .string ⟨#[]⟩, .int .i64 0, .int .i64 0] 67 (0, 0))) := Lib.hid ((h4.block w.heap.size (by rw [HWS.out]; omega)).trans HGA.out)
          have H1 := Lib.hid h1
          have H2 := Lib.hid h2
          have H3 := Lib.hid h3
          have H4 := Lib.hid h4
          clear h1 h2 h3 h4
          go_wp2_with (with_reducible refine wpList_store_row rfl 67 (.tmp 4) (.tmp 39) rfl w.heap.size #[.int .i64 t.kind, .bool t.n.neg, .slice A1 t.n.top.length c1, .slice A2 t.n.bot.length c2, .slice A3 t.l.length c3, .string ⟨t.s.toArray⟩, .int .i64 t.c, .int .i64 0] rfl rfl 67 #[.int .i64 0, .bool false, .slice none 0 0, .slice none 0 0, .slice none 0 0, .string ⟨#[]⟩, .int .i64 0, .int .i64 0] HGX.out (tok_infoR _ _ _ _ _ _ _ _) rfl (tok_one _ _ _ _ _ _ _ _ _ _ _ _ _ _) ?_)
          refine bodyPost_ret (results_cell_row_tmp2 (by rfl) _ _ w.heap.size 67 #[.int .i64 t.kind, .bool t.n.neg, .slice A1 t.n.top.length c1, .slice A2 t.n.bot.length c2, .slice A3 t.l.length c3, .string ⟨t.s.toArray⟩, .int .i64 t.c, .int .i64 0] (0, 0) _ _ _ (by rfl) (by rfl) (by rfl) (rheap_same HGX.out) Tryz.underlying67 rfl (tok_infoR _ _ _ _ _ _ _ _)) rfl (HR.out _ _ ?_)
          exact tok_moved t (HGX.out) H1.out H2.out H3.out (hb0.trans (H4.out.mono (by rw [HWS.out]; omega)))
        · have y39 : (x == 39) = false := beq_eq_false_iff_ne.2 x39
          by_cases xp : x = 9109 ∨ x = 9054
          · rcases xp with xq | xq
            · have y1 : (x == 9109) = true := by rw [xq]; rfl
              have HCA := Lib.hid (PRT.out (.inl xq))
              unfold ReadOut at HCA
              rw [← HRD.out] at HCA
              dsimp only at HCA
              rw [← HEN.out] at HCA
              clear NAM TXT PRT NUM hb1 k3 k2 k0 x39 xq
              go_wp2_with fail
              refine HCA.out.mono ?_
              intro e w' h
              obtain ⟨n1, n2, lv, he, h1, h2, h3, h4⟩ := h
              have he : e = .returned (.tuple #[.agg #[.int .i64 t.kind, .bool t.n.neg, n1, n2, lv, .string ⟨t.s.toArray⟩, .int .i64 t.c, .int .i64 0], .int .i64 (en : Int), .int .i64 er]) := he
              subst he
              have h1' := h1
              have h2' := h2
              obtain ⟨A1, c1, rfl, _⟩ := h1'
              obtain ⟨A2, c2, rfl, _⟩ := h2'
              obtain ⟨A3, c3, rfl, _, _⟩ := own_slice h3
              have HGX : Hid (w'.heap[w.heap.size]? = some (.cells #[.int .i64 0, .bool false, .slice none 0 0, .slice none 0 0, .slice none 0 0, .string ⟨#[]⟩, .int .i64 0, .int .i64 0] 67 (0, 0))) := Lib.hid ((h4.block w.heap.size (by rw [HWS.out]; omega)).trans HGA.out)
              have H1 := Lib.hid h1
              have H2 := Lib.hid h2
              have H3 := Lib.hid h3
              have H4 := Lib.hid h4
              clear h1 h2 h3 h4
              go_wp2_with (with_reducible refine wpList_store_row rfl 67 (.tmp 4) (.tmp 48) rfl w.heap.size #[.int .i64 t.kind, .bool t.n.neg, .slice A1 t.n.top.length c1, .slice A2 t.n.bot.length c2, .slice A3 t.l.length c3, .string ⟨t.s.toArray⟩, .int .i64 t.c, .int .i64 0] rfl rfl 67 #[.int .i64 0, .bool false, .slice none 0 0, .slice none 0 0, .slice none 0 0, .string ⟨#[]⟩, .int .i64 0, .int .i64 0] HGX.out (tok_infoR _ _ _ _ _ _ _ _) rfl (tok_one _ _ _ _ _ _ _ _ _ _ _ _ _ _) ?_)
              refine bodyPost_ret (results_cell_row_tmp2 (by rfl) _ _ w.heap.size 67 #[.int .i64 t.kind, .bool t.n.neg, .slice A1 t.n.top.length c1, .slice A2 t.n.bot.length c2, .slice A3 t.l.length c3, .string ⟨t.s.toArray⟩, .int .i64 t.c, .int .i64 0] (0, 0) _ _ _ (by rfl) (by rfl) (by rfl) (rheap_same HGX.out) Tryz.underlying67 rfl (tok_infoR _ _ _ _ _ _ _ _)) rfl (HR.out _ _ ?_)
              exact tok_moved t (HGX.out) H1.out H2.out H3.out (hb0.trans (H4.out.mono (by rw [HWS.out]; omega)))
            · have y1 : (x == 9109) = false := by rw [xq]; rfl
              have y2 : (x == 9054) = true := by rw [xq]; rfl
              have HCA := Lib.hid (PRT.out (.inr xq))
              unfold ReadOut at HCA
              rw [← HRD.out] at HCA
              dsimp only at HCA
              rw [← HEN.out] at HCA
              clear NAM TXT PRT NUM hb1 k3 k2 k0 x39 xq
              go_wp2_with fail
              refine HCA.out.mono ?_
              intro e w' h
              obtain ⟨n1, n2, lv, he, h1, h2, h3, h4⟩ := h
              have he : e = .returned (.tuple #[.agg #[.int .i64 t.kind, .bool t.n.neg, n1, n2, lv, .string ⟨t.s.toArray⟩, .int .i64 t.c, .int .i64 0], .int .i64 (en : Int), .int .i64 er]) := he
              subst he
              have h1' := h1
              have h2' := h2
              obtain ⟨A1, c1, rfl, _⟩ := h1'
              obtain ⟨A2, c2, rfl, _⟩ := h2'
              obtain ⟨A3, c3, rfl, _, _⟩ := own_slice h3
              have HGX : Hid (w'.heap[w.heap.size]? = some (.cells #[.int .i64 0, .bool false, .slice none 0 0, .slice none 0 0, .slice none 0 0, .string ⟨#[]⟩, .int .i64 0, .int .i64 0] 67 (0, 0))) := Lib.hid ((h4.block w.heap.size (by rw [HWS.out]; omega)).trans HGA.out)
              have H1 := Lib.hid h1
              have H2 := Lib.hid h2
              have H3 := Lib.hid h3
              have H4 := Lib.hid h4
              clear h1 h2 h3 h4
              go_wp2_with (with_reducible refine wpList_store_row rfl 67 (.tmp 4) (.tmp 48) rfl w.heap.size #[.int .i64 t.kind, .bool t.n.neg, .slice A1 t.n.top.length c1, .slice A2 t.n.bot.length c2, .slice A3 t.l.length c3, .string ⟨t.s.toArray⟩, .int .i64 t.c, .int .i64 0] rfl rfl 67 #[.int .i64 0, .bool false, .slice none 0 0, .slice none 0 0, .slice none 0 0, .string ⟨#[]⟩, .int .i64 0, .int .i64 0] HGX.out (tok_infoR _ _ _ _ _ _ _ _) rfl (tok_one _ _ _ _ _ _ _ _ _ _ _ _ _ _) ?_)
              refine bodyPost_ret (results_cell_row_tmp2 (by rfl) _ _ w.heap.size 67 #[.int .i64 t.kind, .bool t.n.neg, .slice A1 t.n.top.length c1, .slice A2 t.n.bot.length c2, .slice A3 t.l.length c3, .string ⟨t.s.toArray⟩, .int .i64 t.c, .int .i64 0] (0, 0) _ _ _ (by rfl) (by rfl) (by rfl) (rheap_same HGX.out) Tryz.underlying67 rfl (tok_infoR _ _ _ _ _ _ _ _)) rfl (HR.out _ _ ?_)
              exact tok_moved t (HGX.out) H1.out H2.out H3.out (hb0.trans (H4.out.mono (by rw [HWS.out]; omega)))
          · have y1 : (x == 9109) = false := beq_eq_false_iff_ne.2 (fun h => xp (.inl h))
            have y2 : (x == 9054) = false := beq_eq_false_iff_ne.2 (fun h => xp (.inr h))
            have HRE : Hid (t = ⟨7, Rt.none_, [], [], x, i⟩ ∧ en = i + 1 ∧ er = 0) := Lib.hid (by
              have h := HRD.out
              unfold Tk.read at h
              rw [← HX.out] at h
              dsimp only at h
              rw [← HK.out, if_neg k3, if_neg k2, if_neg x39, if_neg xp, if_neg k0] at h
              have e1 := congrArg (fun p => p.1) h
              have e2 := congrArg (fun p => p.2.2) h
              have e3 := congrArg (fun p => p.2.1) h
              dsimp only at e1 e2 e3
              exact ⟨e1, by rw [HEN.out, e2, e3]; rfl, e2⟩)
            clear hb1 k0 k2 k3 x39 xp
            go_wp2_with (with_reducible refine wpList_store_row rfl 67 (.tmp 4) (.tmp 52) rfl w.heap.size #[.int .i64 7, .bool false, .slice none 0 0, .slice none 0 0, .slice none 0 0, .string ⟨#[]⟩, .int .i64 x, .int .i64 0] rfl rfl 67 #[.int .i64 0, .bool false, .slice none 0 0, .slice none 0 0, .slice none 0 0, .string ⟨#[]⟩, .int .i64 0, .int .i64 0] HGA.out (tok_infoR _ _ _ _ _ _ _ _) rfl (tok_one _ _ _ _ _ _ _ _ _ _ _ _ _ _) ?_)
            refine bodyPost_ret (results_cell_row_tmp2 (by rfl) _ _ w.heap.size 67 #[.int .i64 7, .bool false, .slice none 0 0, .slice none 0 0, .slice none 0 0, .string ⟨#[]⟩, .int .i64 x, .int .i64 0] (0, 0) _ _ _ (by rfl) (by rfl) (by rfl) (rheap_same HGA.out) Tryz.underlying67 rfl (tok_infoR _ _ _ _ _ _ _ _)) rfl (HR.out _ _ ?_)
            obtain ⟨r1, r2, r3⟩ := HRE.out
            rw [r1, r2, r3]
            exact ⟨_, _, _, rfl, isRes_nil _, isRes_nil _, World.ownsRow_nil _ _ _ _, rBelow.setRow hb0 (Nat.le_refl _) _⟩
end Go.Proofs.YtfiefglagknclaaGreatDoor

/-
  Rows of tokens: what a slice of tokens holds, and that it stands when the row grows.
-/
namespace Go.Proofs.YtfiefglagknclaaGreatDoor
open Go.RowKit
set_option maxHeartbeats 4000000
set_option maxRecDepth 100000
set_option linter.unusedVariables false

/-- No limb of a number. -/
def NoU (u : Value) : Prop := ∀ n : Int, u ≠ .int .u32 n
theorem IsRes.grownQ {w w' : World} {v : Value} {ds : List Nat} (h : IsRes w v ds) {base : Nat} {e : TypeId} {size n : Nat} {r : Value} {xs : List Value} (ho : w.ownsQ NoU base e size r n xs) (hg : w.grownBy w' r.ownBlock) : IsRes w' v ds := by
  obtain ⟨A, c, h1, h2, h3, h4, h5⟩ := h
  refine ⟨A, c, h1, h2, h3, h4, ?_⟩
  rcases h5 with h5 | ⟨b, off, e, hb, hc⟩
  · exact .inl h5
  · cases ds with
    | nil => exact .inl rfl
    | cons x l =>
      have hne : r.ownBlock ≠ some b := ho.apart (hc 0 _ rfl) (fun hq => hq _ rfl)
      refine .inr ⟨b, off, e, Nat.lt_of_lt_of_le hb hg.size, fun i u hu => ?_⟩
      rw [World.cell?_of_block (w := w) (hg.block b hb (fun e => hne e.symm))]
      exact hc i u hu
theorem IsRes.below_ {w w' : World} {v : Value} {ds : List Nat} (h : IsRes w v ds) (hb : Below w.heap.size w w') : IsRes w' v ds := by
  obtain ⟨A, c, h1, h2, h3, h4, h5⟩ := h
  exact ⟨A, c, h1, h2, h3, h4, (h5.below hb).more hb.size⟩
theorem own_grown_t {w w' : World} {base base' : Nat} {e t : TypeId} {q : Value → Prop} {size size' n n' : Nat} {v r : Value} {xs xs' : List Value} (h : w.ownsRow base e size v n xs) (ho : w.ownsQ q base' t size' r n' xs') (hne : t ≠ e) (hg : w.grownBy w' r.ownBlock) : w'.ownsRow base e size v n xs := by
  refine h.kept hg ?_
  rcases h.2 with ⟨rfl, _⟩ | ⟨g, cap, cur, rfl, hb, hh, _⟩
  · exact .inl rfl
  · right
    rcases ho.2 with ⟨rfl, _⟩ | ⟨g', cap', cur', rfl, hb', hh', _⟩
    · simp [Value.ownBlock]
    · intro e1
      simp only [Value.ownBlock] at e1
      injection e1 with e1
      have e1 : g = g' := e1
      subst e1
      rw [hh] at hh'
      injection hh' with hh'
      injection hh' with _ e2
      exact hne e2.symm
/-- The cells of a row of tokens. -/
def TokRows (w : World) : List Tk.Tok → List Value → Prop
  | [], xs => xs = []
  | t :: ts, xs => ∃ n1 n2 lv r, xs = tokCells t.kind t.n.neg n1 n2 lv t.s t.c t.at_ ++ r ∧ IsRes w n1 t.n.top ∧ IsRes w n2 t.n.bot ∧ w.ownsRow 0 3 1 lv t.l.length (I64 t.l) ∧ TokRows w ts r
theorem TokRows.len {w : World} : ∀ {ts : List Tk.Tok} {xs : List Value}, TokRows w ts xs → xs.length = ts.length * 8
  | [], xs, h => by have h : xs = [] := h; subst h; rfl
  | t :: ts, xs, h => by
    obtain ⟨n1, n2, lv, r, rfl, _, _, _, hr⟩ := h
    rw [List.length_append, hr.len, List.length_cons, Nat.succ_mul]
    show 8 + _ = _
    omega
theorem TokRows.snoc {w : World} {t : Tk.Tok} {n1 n2 lv : Value} (h1 : IsRes w n1 t.n.top) (h2 : IsRes w n2 t.n.bot) (h3 : w.ownsRow 0 3 1 lv t.l.length (I64 t.l)) : ∀ {ts : List Tk.Tok} {xs : List Value}, TokRows w ts xs → TokRows w (ts ++ [t]) (xs ++ tokCells t.kind t.n.neg n1 n2 lv t.s t.c t.at_)
  | [], xs, h => by
    have h : xs = [] := h
    subst h
    exact ⟨n1, n2, lv, [], by simp, h1, h2, h3, rfl⟩
  | u :: ts, xs, h => by
    obtain ⟨m1, m2, mv, r, rfl, k1, k2, k3, hr⟩ := h
    exact ⟨m1, m2, mv, _, by rw [List.append_assoc], k1, k2, k3, TokRows.snoc h1 h2 h3 hr⟩
theorem TokRows.map {w w' : World} (h1 : ∀ v ds, IsRes w v ds → IsRes w' v ds) (h2 : ∀ v l, w.ownsRow 0 3 1 v l (I64 []) → True) (h3 : ∀ v (l : List Int), w.ownsRow 0 3 1 v l.length (I64 l) → w'.ownsRow 0 3 1 v l.length (I64 l)) : ∀ {ts : List Tk.Tok} {xs : List Value}, TokRows w ts xs → TokRows w' ts xs
  | [], xs, h => h
  | u :: ts, xs, h => by
    obtain ⟨m1, m2, mv, r, e, k1, k2, k3, hr⟩ := h
    exact ⟨m1, m2, mv, r, e, h1 _ _ k1, h1 _ _ k2, h3 _ _ k3, TokRows.map h1 h2 h3 hr⟩
theorem TokRows.below {w w' : World} {ts : List Tk.Tok} {xs : List Value} (h : TokRows w ts xs) (hb : Below w.heap.size w w') : TokRows w' ts xs :=
  TokRows.map (fun _ _ k => k.below_ hb) (fun _ _ _ => trivial) (fun _ _ k => own_below_ k hb) h
theorem TokRows.grown {w w' : World} {ts : List Tk.Tok} {xs : List Value} (h : TokRows w ts xs) {base : Nat} {t : TypeId} {size n : Nat} {r : Value} {ys : List Value} (ho : w.ownsQ NoU base t size r n ys) (hne : t ≠ 3) (hg : w.grownBy w' r.ownBlock) : TokRows w' ts xs :=
  TokRows.map (fun _ _ k => k.grownQ ho hg) (fun _ _ _ => trivial) (fun _ _ k => own_grown_t k ho hne hg) h
/-- A slice of tokens. -/
def IsToks (w : World) (base : Nat) (v : Value) (ts : List Tk.Tok) : Prop := ∃ xs, w.ownsQ NoU base 67 8 v ts.length xs ∧ TokRows w ts xs
theorem IsToks.nil (w : World) (base : Nat) : IsToks w base (.slice none 0 0) [] := ⟨[], World.ownsQ_nil _ _ _ _ _, rfl⟩
theorem ownsQ_below {w w' : World} {q : Value → Prop} {base : Nat} {e : TypeId} {size n : Nat} {v : Value} {xs : List Value} (h : w.ownsQ q base e size v n xs) (hb : Below w.heap.size w w') : w'.ownsQ q base e size v n xs := by
  obtain ⟨h1, h2⟩ := h
  refine ⟨h1, ?_⟩
  rcases h2 with h2 | ⟨g, cap, cur, hv, hbs, hh, r⟩
  · exact .inl h2
  · have hg : g < w.heap.size := by
      rcases Nat.lt_or_ge g w.heap.size with h | h
      · exact h
      · rw [Array.getElem?_eq_none h] at hh; cases hh
    exact .inr ⟨g, cap, cur, hv, hbs, (hb.block g hg).trans hh, r⟩
theorem IsToks.below {w w' : World} {base : Nat} {v : Value} {ts : List Tk.Tok} (h : IsToks w base v ts) (hb : Below w.heap.size w w') : IsToks w' base v ts := by
  obtain ⟨xs, h1, h2⟩ := h
  exact ⟨xs, ownsQ_below h1 hb, h2.below hb⟩
theorem tokCells_noU (k : Int) (neg : Bool) {n1 n2 lv : Value} (h1 : NoU n1) (h2 : NoU n2) (h3 : NoU lv) (s : List UInt8) (c a : Int) : ∀ u ∈ tokCells k neg n1 n2 lv s c a, NoU u := by
  intro u hu n e
  subst e
  unfold tokCells at hu
  simp only [List.mem_cons, List.not_mem_nil, or_false] at hu
  rcases hu with hu | hu | hu | hu | hu | hu | hu | hu
  · injection hu with e1; cases e1
  · cases hu
  · exact h1 n hu.symm
  · exact h2 n hu.symm
  · exact h3 n hu.symm
  · cases hu
  · injection hu with e1; cases e1
  · injection hu with e1; cases e1
theorem IsRes.noU {w : World} {v : Value} {ds : List Nat} (h : IsRes w v ds) : NoU v := by
  obtain ⟨A, c, rfl, _⟩ := h
  intro n e; cases e
theorem own_noU {w : World} {base : Nat} {e : TypeId} {size n : Nat} {v : Value} {xs : List Value} (h : w.ownsRow base e size v n xs) : NoU v := by
  obtain ⟨A, c, rfl, _, _⟩ := own_slice h
  intro n e; cases e
theorem token_info : (Tryz.prog.info? 67).map (fun i => (i.zero, i.size, i.bytes)) = some (some (.agg #[.int .i64 0, .bool false, .slice none 0 0, .slice none 0 0, .slice none 0 0, .string ⟨#[]⟩, .int .i64 0, .int .i64 0]), 8, 120) := by kernel_rfl
end Go.Proofs.YtfiefglagknclaaGreatDoor

/-
  token.Cut: all tokens of a line.
-/
namespace Go.Proofs.YtfiefglagknclaaGreatDoor
open Go.RowKit
set_option maxHeartbeats 4000000
set_option maxRecDepth 100000
set_option linter.unusedVariables false

theorem goF_end {l : List Int} {f i : Nat} {out : List Tk.Tok} (h : l.length ≤ i ∨ l.getD i (-1) = 9053) (hf : 1 ≤ f) : Tk.goF l f i out = (out, 0, 0) := by
  obtain ⟨f, rfl⟩ : ∃ g, f = g + 1 := ⟨f - 1, by omega⟩
  unfold Tk.goF; rw [if_pos h]
theorem goF_blank {l : List Int} {f i : Nat} {out : List Tk.Tok} (h : i < l.length) (hx : l.getD i (-1) ≠ 9053) (hb : Tk.cls (l.getD i (-1)) = 1) : Tk.goF l (f + 1) i out = Tk.goF l f (i + 1) out := by
  rw [Tk.goF, if_neg (by rintro (h1 | h1); omega; exact hx h1), if_pos hb]
theorem goF_bad {l : List Int} {f i : Nat} {out : List Tk.Tok} (h : i < l.length) (hx : l.getD i (-1) ≠ 9053) (hb : Tk.cls (l.getD i (-1)) ≠ 1) (he : (Tk.read l i).2.2 ≠ 0) (hf : 1 ≤ f) : Tk.goF l f i out = ([], i, (Tk.read l i).2.2) := by
  obtain ⟨f, rfl⟩ : ∃ g, f = g + 1 := ⟨f - 1, by omega⟩
  rw [Tk.goF, if_neg (by rintro (h1 | h1); omega; exact hx h1), if_neg hb, if_pos he]
theorem goF_next {l : List Int} {f i : Nat} {out : List Tk.Tok} (h : i < l.length) (hx : l.getD i (-1) ≠ 9053) (hb : Tk.cls (l.getD i (-1)) ≠ 1) (he : (Tk.read l i).2.2 = 0) : Tk.goF l (f + 1) i out = Tk.goF l f (i + (Tk.read l i).2.1) (out ++ [(Tk.read l i).1]) := by
  rw [Tk.goF, if_neg (by rintro (h1 | h1); omega; exact hx h1), if_neg hb, if_neg (by rw [he]; simp)]
theorem tokens_info : (Tryz.prog.info? 67).map (fun i => (i.zero, i.size, i.bytes)) = some (some (.agg #[.int .i64 0, .bool false, .slice none 0 0, .slice none 0 0, .slice none 0 0, .string ⟨#[]⟩, .int .i64 0, .int .i64 0]), 8, 120) := token_info
theorem cells_new (w : World) (xs : List Value) (t : TypeId) : ∀ j u, xs[j]? = some u → (w.alloc (.cells xs.toArray t)).cell? ((⟨w.heap.size, 0, none⟩ : Addr).add j) = some u := by
  intro j u hj
  have hadd : (⟨w.heap.size, 0, none⟩ : Addr).add j = ⟨w.heap.size, j, none⟩ := by unfold Addr.add; split <;> simp_all
  rw [hadd, cell_of_row _ w.heap.size j _ _ _ (heap_alloc_new w _)]
  simpa using hj
theorem tokZ_noU : ∀ u ∈ (Value.agg #[.int .i64 0, .bool false, .slice none 0 0, .slice none 0 0, .slice none 0 0, .string ⟨#[]⟩, .int .i64 0, .int .i64 0]).cells.toList, NoU u := by
  intro u hu
  refine tokCells_noU 0 false (n1 := .slice none 0 0) (n2 := .slice none 0 0) (lv := .slice none 0 0) (fun n e => by cases e) (fun n e => by cases e) (fun n e => by cases e) [] 0 0 u hu
theorem results_tmp3 {P : Program} {fn : Func} {p q r : Tmp} (h : fn.results = #[.tmp p, .tmp q, .tmp r]) (tmps : Array Value) (w : World) (x u v : Value)
    (hp : tmps.getD p undef = x) (hq : tmps.getD q undef = u) (hr : tmps.getD r undef = v) :
    (results fn tmps).run P w = .ok (.tuple #[x, u, v]) w := by
  have hp' : tmps[p]?.getD undef = x := by simpa using hp
  have hq' : tmps[q]?.getD undef = u := by simpa using hq
  have hr' : tmps[r]?.getD undef = v := by simpa using hr
  simp [results, h, hp', hq', hr']
/-- The tokens, the place, the error. -/
def CutOut (w : World) (r : List Tk.Tok × Nat × Int) (e : Ending) (w' : World) : Prop := ∃ v, e = .returned (.tuple #[v, .int .i64 (r.2.1 : Int), .int .i64 r.2.2]) ∧ IsToks w' w.heap.size v r.1 ∧ Below w.heap.size w w'
/-- Where the loop stands. -/
structure CutAt (l : List Int) (w0 wr : World) (i : Nat) (out : List Tk.Tok) (v : Value) : Prop where
  hi : i ≤ l.length
  len : out.length ≤ i
  toks : IsToks wr w0.heap.size v out
  below : Below w0.heap.size w0 wr
  told : ∃ f, l.length + 1 ≤ f + i ∧ Tk.goF l (l.length + 1) 0 [] = Tk.goF l f i out
/-- Where it has come to its end. -/
structure CutEnd (l : List Int) (w0 wr : World) (out : List Tk.Tok) (v : Value) : Prop where
  toks : IsToks wr w0.heap.size v out
  below : Below w0.heap.size w0 wr
  told : Tk.goF l (l.length + 1) 0 [] = (out, 0, 0)

theorem tokCut_any (s : ByteArray) (w : World) (hs : s.size ≤ 10000) :
    Calls Tryz.prog 12 #[.string s] w (CutOut w (Tk.cut s)) := by
  have DEC := Lib.hid (decode_any s w (by omega))
  have hmay : ∀ x ∈ Gl.ints (Gl.dec s 0).1, Gl.may x = true := by
    intro x hx
    unfold Gl.ints at hx
    rw [List.mem_map] at hx
    obtain ⟨n, hn, rfl⟩ := hx
    exact Gl.dec_may (s.size + 1) 0 (by omega) n hn
  have hlen : (Gl.ints (Gl.dec s 0).1).length ≤ 10000 := by
    unfold Gl.ints
    rw [List.length_map]
    have := Gl.dec_len (s := s) (s.size + 1) 0 (by omega)
    omega
  have HR : Hid (∀ e w', CutOut w (Tk.cutL (Gl.ints (Gl.dec s 0).1) (Gl.dec s 0).2) e w' → CutOut w (Tk.cut s) e w') := Lib.hid (fun e w' h => h)
  have hbad : Hid (Gl.badI (Gl.dec s 0).2 = match (Gl.dec s 0).2 with | none => -1 | some i => (i : Int)) := Lib.hid (by cases (Gl.dec s 0).2 <;> rfl)
  generalize Gl.ints (Gl.dec s 0).1 = l at *
  obtain ⟨ob, hob⟩ : ∃ ob, ob = (Gl.dec s 0).2 := ⟨_, rfl⟩
  rw [← hob] at DEC HR hbad
  obtain ⟨bad, hbd⟩ : ∃ bad, bad = Gl.badI ob := ⟨_, rfl⟩
  rw [← hbd] at DEC hbad
  clear hob hbd
  have HM := Lib.hid hmay
  clear hmay
  obtain ⟨i0, hi0, hz0, hz1, hz2⟩ := info_parts tokens_info
  have CA := Lib.hid (fun x wx => class_any x wx)
  go_enter Tryz.func12, Tryz.ntmps12
  go_upto_region 1 with fail
  go_step3
  go_wp2_with fail
  refine DEC.out.mono ?_
  rintro e w1 ⟨lv, rfl, ⟨A, c, rfl, hc1, hc2, hl⟩, hbw⟩
  have HL := Lib.hid hl
  have HBW := Lib.hid hbw
  clear hl hbw
  by_cases hbig : 2000 < l.length
  · have HRE : Hid (Tk.cutL l ob = ([], 0, 7)) := Lib.hid (by unfold Tk.cutL; rw [if_pos hbig])
    have hbig' : (2000 : Int) < (l.length : Int) := by omega
    go_wp2_with fail
    rw [Exit.noGoto_ret]
    refine bodyPost_ret (results_tmp3 (by rfl) _ _ _ _ _ (by rfl) (by rfl) (by rfl)) rfl (HR.out _ _ ?_)
    rw [HRE.out]
    exact ⟨_, rfl, IsToks.nil _ _, HBW.out⟩
  · have hbig' : ¬ (2000 : Int) < (l.length : Int) := by omega
    have H0 : Hid (CutAt l w1 w1 0 [] (.slice none 0 0)) := Lib.hid ⟨Nat.zero_le _, Nat.le_refl _, IsToks.nil _ _, Below.refl _ _, l.length + 1, by omega, rfl⟩
    go_wp2_with fail
    go_step3
    go_upto_block 0 with fail
    go_cut [7, 8] from 9 (fun x7 x8 wx => ∃ out, Hid (CutEnd l w1 wx out x7))
    case first =>
      go_wp2_with fail
      go_loopw [7, 8] (fun v iv wr => ∃ (i : Nat) (out : List Tk.Tok), iv = .int .i64 (i : Int) ∧ Hid (CutAt l w1 wr i out v)) (fun _ iv _ => l.length - (intOf iv).toNat)
      case atStart => exact ⟨0, [], by go_num, H0⟩
      case round =>
        clear H0
        obtain ⟨i, out, rfl, HT⟩ := hrel
        have hil := HT.out.hi
        by_cases hlt : i < l.length
        · have hbl := HT.out.below
          obtain ⟨b, off, rfl, hb, g1⟩ := lies_i64 (HL.out.below hbl) hlt
          obtain ⟨x, hx⟩ : ∃ x, x = l.getD i (-1) := ⟨_, rfl⟩
          rw [← Tk.getD_in hlt, ← hx] at g1
          have HX := Lib.hid hx
          obtain ⟨k, hk⟩ : ∃ k, k = Tk.cls x := ⟨_, rfl⟩
          have C1 := Lib.hid (CA.out x wr)
          rw [← hk] at C1
          have HK := Lib.hid hk
          clear hx hk hb
          by_cases k1 : k = 1
          · have q1 : (k == 1) = true := by rw [k1]; rfl
            have HN : Hid (CutAt l w1 wr (i + 1) out u7) := Lib.hid ⟨hlt, by have := HT.out.len; omega, HT.out.toks, hbl, by
              obtain ⟨f, hf, ht⟩ := HT.out.told
              obtain ⟨f, rfl⟩ : ∃ g, f = g + 1 := ⟨f - 1, by omega⟩
              have hcl : Tk.cls (l.getD i (-1)) = 1 := by rw [← HX.out, ← HK.out]; exact k1
              exact ⟨f, by omega, by rw [ht, goF_blank hlt (by intro h; rw [h] at hcl; exact absurd hcl (by decide)) hcl]⟩⟩
            clear k1 hbl
            go_wp2_with fail
            refine C1.out.mono ?_
            rintro e w' ⟨rfl, rfl⟩
            go_wp2_with fail
            go_round
            case rel => exact ⟨i + 1, out, by go_num, HN⟩
            case measure => simp [intOf]; omega
          · have q1 : (k == 1) = false := beq_eq_false_iff_ne.2 k1
            by_cases x9 : x = 9053
            · have q2 : (x == 9053) = true := by rw [x9]; rfl
              have HE : Hid (CutEnd l w1 wr out u7) := Lib.hid ⟨HT.out.toks, hbl, by
                obtain ⟨f, hf, ht⟩ := HT.out.told
                rw [ht, goF_end (.inr (by rw [← HX.out]; exact x9)) (by omega)]⟩
              clear k1 hbl x9
              go_wp2_with fail
              refine C1.out.mono ?_
              rintro e w' ⟨rfl, rfl⟩
              go_wp2_with fail
              go_meet
              exact ⟨out, HE⟩
            · have q2 : (x == 9053) = false := beq_eq_false_iff_ne.2 x9
              have hcl : Tk.cls (l.getD i (-1)) ≠ 1 := by rw [← HX.out, ← HK.out]; exact k1
              have hx9 : l.getD i (-1) ≠ 9053 := by rw [← HX.out]; exact x9
              have NX := Lib.hid (next_any (some ⟨b, off, none⟩) c l i wr ((HL.out.below hbl).more hbl.size) (by omega) hc1 HM.out hlt hcl)
              have HBL := Lib.hid hbl
              have HCL := Lib.hid hcl
              have HX9 := Lib.hid hx9
              clear k1 x9 hbl hcl hx9
              go_wp2_with fail
              refine C1.out.mono ?_
              rintro e w' ⟨rfl, rfl⟩
              go_wp2_with fail
              refine NX.out.mono ?_
              intro e w5 h
              obtain ⟨r, hr⟩ : ∃ r, r = Tk.read l i := ⟨_, rfl⟩
              unfold ReadOut at h
              rw [← hr] at h
              obtain ⟨t, n, er⟩ := r
              dsimp only at h
              obtain ⟨en, hen⟩ : ∃ en, en = (if er = 0 then i + n else 0) := ⟨_, rfl⟩
              rw [← hen] at h
              obtain ⟨n1, n2, lv, he, h1, h2, h3, h4⟩ := h
              have he : e = .returned (.tuple #[.agg #[.int .i64 t.kind, .bool t.n.neg, n1, n2, lv, .string ⟨t.s.toArray⟩, .int .i64 t.c, .int .i64 0], .int .i64 (en : Int), .int .i64 er]) := he
              subst he
              have h1' := h1
              have h2' := h2
              obtain ⟨A1, c1, rfl, _⟩ := h1'
              obtain ⟨A2, c2, rfl, _⟩ := h2'
              obtain ⟨A3, c3, rfl, _, _⟩ := own_slice h3
              have HG6 : Hid ((w5.alloc (.cells #[.int .i64 0, .bool false, .slice none 0 0, .slice none 0 0, .slice none 0 0, .string ⟨#[]⟩, .int .i64 0, .int .i64 0] 67)).heap[w5.heap.size]? = some (.cells #[.int .i64 0, .bool false, .slice none 0 0, .slice none 0 0, .slice none 0 0, .string ⟨#[]⟩, .int .i64 0, .int .i64 0] 67 (0, 0))) := Lib.hid (heap_alloc_new w5 _)
              obtain ⟨W7, hW7⟩ : ∃ W7, W7 = (w5.alloc (.cells #[.int .i64 0, .bool false, .slice none 0 0, .slice none 0 0, .slice none 0 0, .string ⟨#[]⟩, .int .i64 0, .int .i64 0] 67)).setRow w5.heap.size #[.int .i64 t.kind, .bool t.n.neg, .slice A1 t.n.top.length c1, .slice A2 t.n.bot.length c2, .slice A3 t.l.length c3, .string ⟨t.s.toArray⟩, .int .i64 t.c, .int .i64 0] := ⟨_, rfl⟩
              have hb7 : Below w5.heap.size w5 W7 := by rw [hW7]; exact rBelow.setRow ((Below.refl _ _).alloc (Nat.le_refl _) _) (Nat.le_refl _) _
              have hG7 : W7.heap[w5.heap.size]? = some (.cells #[.int .i64 t.kind, .bool t.n.neg, .slice A1 t.n.top.length c1, .slice A2 t.n.bot.length c2, .slice A3 t.l.length c3, .string ⟨t.s.toArray⟩, .int .i64 t.c, .int .i64 0] 67 (0, 0)) := by rw [hW7]; exact rheap_same HG6.out
              have hS7 : w5.heap.size + 1 ≤ W7.heap.size := by rw [hW7, size_setRow]; simp
              have HB7 := Lib.hid hb7
              have HG7 := Lib.hid hG7
              have HS7 := Lib.hid hS7
              have HW7 := Lib.hid hW7
              clear hb7 hG7 hS7 hW7
              have HRD := Lib.hid hr
              have HEN := Lib.hid hen
              have H1 := Lib.hid h1
              have H2 := Lib.hid h2
              have H3 := Lib.hid h3
              have H4 := Lib.hid h4
              clear hr hen h1 h2 h3 h4
              go_upto_region 11 with (with_reducible refine wpList_store_row rfl 67 (.tmp 9) (.tmp 43) rfl w5.heap.size #[.int .i64 t.kind, .bool t.n.neg, .slice A1 t.n.top.length c1, .slice A2 t.n.bot.length c2, .slice A3 t.l.length c3, .string ⟨t.s.toArray⟩, .int .i64 t.c, .int .i64 0] rfl rfl 67 #[.int .i64 0, .bool false, .slice none 0 0, .slice none 0 0, .slice none 0 0, .string ⟨#[]⟩, .int .i64 0, .int .i64 0] HG6.out (tok_infoR _ _ _ _ _ _ _ _) rfl (tok_one _ _ _ _ _ _ _ _ _ _ _ _ _ _) ?_)
              rw [← HW7.out]
              by_cases e0 : er = 0
              · subst e0
                have hc7 : W7.cell? ⟨w5.heap.size, 7, none⟩ = some (.int .i64 0) := (cell_of_row W7 w5.heap.size 7 _ _ _ HG7.out).trans rfl
                have hf7 : W7.frozen? ⟨w5.heap.size, 7, none⟩ = false := by simp [World.frozen?, HG7.out]
                obtain ⟨W8, hW8⟩ : ∃ W8, W8 = W7.setCell ⟨w5.heap.size, 7, none⟩ (.int .i64 (i : Int)) := ⟨_, rfl⟩
                have HG8 : Hid (W8.heap[w5.heap.size]? = some (.cells #[.int .i64 t.kind, .bool t.n.neg, .slice A1 t.n.top.length c1, .slice A2 t.n.bot.length c2, .slice A3 t.l.length c3, .string ⟨t.s.toArray⟩, .int .i64 t.c, .int .i64 (i : Int)] 67 (0, 0))) := Lib.hid (by rw [hW8]; exact Blk.set_ (w := W7) (g := w5.heap.size) (vs := [.int .i64 t.kind, .bool t.n.neg, .slice A1 t.n.top.length c1, .slice A2 t.n.bot.length c2, .slice A3 t.l.length c3, .string ⟨t.s.toArray⟩, .int .i64 t.c, .int .i64 0]) HG7.out 7 _)
                have HB8 : Hid (Below w5.heap.size w5 W8) := Lib.hid (by rw [hW8]; exact HB7.out.setCell (Nat.le_refl _) _)
                have HW8 := Lib.hid hW8
                clear hW8
                go_upto_region 14 with fail
                rw [← HW8.out]
                have HAT : Hid (t.at_ = i) := Lib.hid (by
                  have h := (Tk.read_ok (l := l) (i := i) (by rw [← HRD.out])).2
                  rw [← HRD.out] at h
                  exact h)
                have HEN2 : Hid (en = i + n ∧ 1 ≤ n ∧ i + n ≤ l.length) := Lib.hid (by
                  have h := Tk.read_len (l := l) (i := i) hlt (by rw [← HRD.out])
                  rw [← HRD.out] at h
                  exact ⟨by rw [HEN.out, if_pos rfl], h⟩)
                obtain ⟨xs, t1, t2⟩ := HT.out.toks
                have hown9 : (W8.alloc (.cells #[.int .i64 t.kind, .bool t.n.neg, .slice A1 t.n.top.length c1, .slice A2 t.n.bot.length c2, .slice A3 t.l.length c3, .string ⟨t.s.toArray⟩, .int .i64 t.c, .int .i64 (i : Int)] 67)).ownsQ NoU w1.heap.size 67 8 u7 out.length xs := ownsQ_below (ownsQ_below (ownsQ_below t1 H4.out) HB8.out) ((Below.refl _ _).alloc (Nat.le_refl _) _)
                have r9 : TokRows (W8.alloc (.cells #[.int .i64 t.kind, .bool t.n.neg, .slice A1 t.n.top.length c1, .slice A2 t.n.bot.length c2, .slice A3 t.l.length c3, .string ⟨t.s.toArray⟩, .int .i64 t.c, .int .i64 (i : Int)] 67)) out xs := ((t2.below H4.out).below HB8.out).below ((Below.refl _ _).alloc (Nat.le_refl _) _)
                have b9 : Below w1.heap.size w1 (W8.alloc (.cells #[.int .i64 t.kind, .bool t.n.neg, .slice A1 t.n.top.length c1, .slice A2 t.n.bot.length c2, .slice A3 t.l.length c3, .string ⟨t.s.toArray⟩, .int .i64 t.c, .int .i64 (i : Int)] 67)) := ((HBL.out.trans (H4.out.mono HBL.out.size)).trans (HB8.out.mono (Nat.le_trans HBL.out.size H4.out.size))).alloc (Nat.le_trans HBL.out.size (Nat.le_trans H4.out.size HB8.out.size)) _
                have k1 := (H1.out.below_ HB8.out).below_ (w' := W8.alloc (.cells #[.int .i64 t.kind, .bool t.n.neg, .slice A1 t.n.top.length c1, .slice A2 t.n.bot.length c2, .slice A3 t.l.length c3, .string ⟨t.s.toArray⟩, .int .i64 t.c, .int .i64 (i : Int)] 67)) ((Below.refl _ _).alloc (Nat.le_refl _) _)
                have k2 := (H2.out.below_ HB8.out).below_ (w' := W8.alloc (.cells #[.int .i64 t.kind, .bool t.n.neg, .slice A1 t.n.top.length c1, .slice A2 t.n.bot.length c2, .slice A3 t.l.length c3, .string ⟨t.s.toArray⟩, .int .i64 t.c, .int .i64 (i : Int)] 67)) ((Below.refl _ _).alloc (Nat.le_refl _) _)
                have k3 := own_below_ (own_below_ H3.out HB8.out) (w' := W8.alloc (.cells #[.int .i64 t.kind, .bool t.n.neg, .slice A1 t.n.top.length c1, .slice A2 t.n.bot.length c2, .slice A3 t.l.length c3, .string ⟨t.s.toArray⟩, .int .i64 t.c, .int .i64 (i : Int)] 67)) ((Below.refl _ _).alloc (Nat.le_refl _) _)
                have OWN9 := Lib.hid hown9
                have R9 := Lib.hid r9
                have B9 := Lib.hid b9
                have K1 := Lib.hid k1
                have K2 := Lib.hid k2
                have K3 := Lib.hid k3
                have hol := HT.out.len
                clear t1 t2 hown9 r9 b9 k1 k2 k3
                go_wp2_with (first | (with_reducible refine wpList_load_row rfl 67 (.tmp 9) rfl w5.heap.size rfl 67 #[.int .i64 t.kind, .bool t.n.neg, .slice A1 t.n.top.length c1, .slice A2 t.n.bot.length c2, .slice A3 t.l.length c3, .string ⟨t.s.toArray⟩, .int .i64 t.c, .int .i64 (i : Int)] (0, 0) _ HG8.out Tryz.underlying67 rfl (tok_infoR _ _ _ _ _ _ _ _) ?_) | (at_builtin; refine wpList_append_ownQ _ rfl _ _ 36 rfl NoU w1.heap.size 67 i0 _ 8 120 Tryz.underlying36 hi0 hz0 hz1 hz2 rfl (by decide) tokZ_noU _ _ xs rfl OWN9.out ⟨_, 0, none⟩ 1 1 (tokCells t.kind t.n.neg (.slice A1 t.n.top.length c1) (.slice A2 t.n.bot.length c2) (.slice A3 t.l.length c3) t.s t.c (i : Int)) rfl rfl (cells_new _ _ _) (by intro u hu; unfold tokCells at hu; simp only [List.mem_cons, List.not_mem_nil, or_false] at hu; rcases hu with rfl | rfl | rfl | rfl | rfl | rfl | rfl | rfl <;> rfl) (tokCells_noU _ _ K1.out.noU K2.out.noU (own_noU K3.out) _ _ _) (by unfold maxLen; omega) (by omega) B9.out.size ?_; intro v' w10 hown' hgr hnil hat))
                have hk1 := K1.out.grownQ OWN9.out hgr
                have hk2 := K2.out.grownQ OWN9.out hgr
                have hk3 := own_grown_t K3.out OWN9.out (by decide) hgr
                have hr1 := R9.out.grown OWN9.out (by decide) hgr
                have hb1 := B9.out.grown hgr B9.out.size (fun k hk => (OWN9.out.own.lt k hk).1)
                have hsn := TokRows.snoc hk1 hk2 hk3 hr1
                have HN : Hid (CutAt l w1 w10 en (out ++ [t]) v') := Lib.hid
                  { hi := by rw [HEN2.out.1]; exact HEN2.out.2.2
                    len := by rw [List.length_append, HEN2.out.1]; have := HEN2.out.2.1; simp only [List.length_cons, List.length_nil]; omega
                    toks := ⟨_, by
                      have h := hown'
                      rw [List.length_append]
                      exact h, by
                      have h := hsn
                      rw [HAT.out] at h
                      exact h⟩
                    below := hb1
                    told := by
                      obtain ⟨f, hf, ht⟩ := HT.out.told
                      obtain ⟨f, rfl⟩ : ∃ g, f = g + 1 := ⟨f - 1, by omega⟩
                      refine ⟨f, by rw [HEN2.out.1]; have := HEN2.out.2.1; omega, ?_⟩
                      rw [ht, goF_next hlt HX9.out HCL.out (by rw [← HRD.out]), ← HRD.out, HEN2.out.1] }
                have hme : i < en ∧ en ≤ l.length := by rw [HEN2.out.1]; have := HEN2.out.2; omega
                clear hk1 hk2 hk3 hr1 hb1 hsn hown' hgr hnil hat
                go_wp2_with fail
                go_round
                case rel => exact ⟨en, out ++ [t], rfl, HN⟩
                case measure => simp [intOf]; omega
              · have q3 : (er != 0) = true := by rw [bne_iff_ne]; exact e0
                have HRE : Hid (Tk.cutL l ob = ([], i, er)) := Lib.hid (by
                  obtain ⟨f, hf, ht⟩ := HT.out.told
                  rw [goF_bad hlt HX9.out HCL.out (by rw [← HRD.out]; exact e0) (by omega), ← HRD.out] at ht
                  unfold Tk.cutL
                  rw [if_neg hbig, ht, if_pos e0])
                clear e0
                go_wp2_with fail
                rw [Exit.noGoto_ret]
                refine bodyPost_ret (results_tmp3 (by rfl) _ _ _ _ _ (by rfl) (by rfl) (by rfl)) rfl (HR.out _ _ ?_)
                rw [HRE.out]
                exact ⟨_, rfl, IsToks.nil _ _, ((HBW.out.trans (HBL.out.mono HBW.out.size)).trans (H4.out.mono (Nat.le_trans HBW.out.size HBL.out.size))).trans (HB7.out.mono (Nat.le_trans HBW.out.size (Nat.le_trans HBL.out.size H4.out.size)))⟩
        · have HE : Hid (CutEnd l w1 wr out u7) := Lib.hid ⟨HT.out.toks, HT.out.below, by
            obtain ⟨f, hf, ht⟩ := HT.out.told
            rw [ht, goF_end (.inl (by omega)) (by omega)]⟩
          have hme : ¬ ((i : Int) < (l.length : Int)) := by omega
          go_wp2_with fail
          go_meet
          exact ⟨out, HE⟩
    case rest =>
      obtain ⟨out, HE⟩ := hcut
      cases ob with
      | none =>
        have hbad' : bad = -1 := hbad.out
        subst hbad'
        have HRE : Hid (Tk.cutL l none = (out, 0, 0)) := Lib.hid (by
          unfold Tk.cutL
          rw [if_neg hbig, HE.out.told]
          rfl)
        go_wp2_with fail
        refine bodyPost_ret (results_tmp3 (by rfl) _ _ _ _ _ (by rfl) (by rfl) (by rfl)) rfl (HR.out _ _ ?_)
        rw [HRE.out]
        obtain ⟨xs, t1, t2⟩ := HE.out.toks
        exact ⟨_, rfl, ⟨xs, t1.mono HBW.out.size, t2⟩, HBW.out.trans (HE.out.below.mono HBW.out.size)⟩
      | some p =>
        have hbad' : bad = (p : Int) := hbad.out
        subst hbad'
        have HRE : Hid (Tk.cutL l (some p) = ([], l.length, 1)) := Lib.hid (by
          unfold Tk.cutL
          rw [if_neg hbig, HE.out.told]
          rfl)
        have hp : (0 : Int) ≤ (p : Int) := by omega
        go_wp2_with fail
        refine bodyPost_ret (results_tmp3 (by rfl) _ _ _ _ _ (by rfl) (by rfl) (by rfl)) rfl (HR.out _ _ ?_)
        rw [HRE.out]
        exact ⟨_, rfl, IsToks.nil _ _, HBW.out.trans (HE.out.below.mono HBW.out.size)⟩
end Go.Proofs.YtfiefglagknclaaGreatDoor

/-
  Tokens at their places; scrimlaw20.awake.
-/
namespace Go.Proofs.YtfiefglagknclaaGreatDoor
open Go.RowKit
set_option maxHeartbeats 4000000
set_option maxRecDepth 100000
set_option linter.unusedVariables false

theorem TokRows.get {w : World} : ∀ {ts : List Tk.Tok} {xs : List Value}, TokRows w ts xs → ∀ (j : Nat) (hj : j < ts.length), ∃ n1 n2 lv pre post, xs = pre ++ (tokCells ts[j].kind ts[j].n.neg n1 n2 lv ts[j].s ts[j].c ts[j].at_ ++ post) ∧ pre.length = j * 8 ∧ IsRes w n1 ts[j].n.top ∧ IsRes w n2 ts[j].n.bot ∧ w.ownsRow 0 3 1 lv ts[j].l.length (I64 ts[j].l)
  | [], xs, h, j, hj => absurd hj (Nat.not_lt_zero _)
  | t :: ts, xs, h, 0, hj => by
    obtain ⟨n1, n2, lv, r, rfl, h1, h2, h3, hr⟩ := h
    exact ⟨n1, n2, lv, [], r, rfl, rfl, h1, h2, h3⟩
  | t :: ts, xs, h, j + 1, hj => by
    obtain ⟨n1, n2, lv, r, rfl, h1, h2, h3, hr⟩ := h
    obtain ⟨m1, m2, mv, pre, post, rfl, hp, k1, k2, k3⟩ := hr.get j (by simpa using hj)
    refine ⟨m1, m2, mv, tokCells t.kind t.n.neg n1 n2 lv t.s t.c t.at_ ++ pre, post, by simp only [List.append_assoc, List.getElem_cons_succ], ?_, k1, k2, k3⟩
    rw [List.length_append, hp]
    show 8 + _ = _
    omega
theorem IsToks.open_ {w : World} {base : Nat} {v : Value} {ts : List Tk.Tok} (h : IsToks w base v ts) : ∃ A c, v = .slice A ts.length c ∧ ts.length ≤ c ∧ c ≤ maxLen ∧
    ∀ (j : Nat) (hj : j < ts.length), ∃ g n1 n2 lv, A = some ⟨g, 0, none⟩ ∧ g < w.heap.size ∧ base ≤ g ∧ w.rangeAt g (j * 8) (tokCells ts[j].kind ts[j].n.neg n1 n2 lv ts[j].s ts[j].c ts[j].at_) ∧ IsRes w n1 ts[j].n.top ∧ IsRes w n2 ts[j].n.bot ∧ w.ownsRow 0 3 1 lv ts[j].l.length (I64 ts[j].l) := by
  obtain ⟨xs, ho, hr⟩ := h
  obtain ⟨A, c, hv, hc1, hc2⟩ := own_slice ho.own
  refine ⟨A, c, hv, hc1, hc2, fun j hj => ?_⟩
  obtain ⟨n1, n2, lv, pre, post, hx, hp, k1, k2, k3⟩ := hr.get j hj
  rcases ho.own.2 with ⟨hv', h0⟩ | ⟨g, cap, cur, hv', hb, hg, _⟩
  · omega
  · rw [hv] at hv'
    injection hv' with e1 _ _
    refine ⟨g, n1, n2, lv, e1, (Array.getElem?_eq_some_iff.1 hg).1, hb, fun k u hu => ?_, k1, k2, k3⟩
    have hc := ho.own.cells (g := g) (by rw [hv, e1]; rfl) (j * 8 + k) u (by
      rw [hx, List.getElem?_append_right (by omega), hp, show j * 8 + k - j * 8 = k by omega]
      rw [List.getElem?_append_left (List.getElem?_eq_some_iff.1 hu).1]
      exact hu)
    rw [Addr.add_mid] at hc
    rw [Nat.zero_add] at hc
    exact hc
theorem awake_cut : (Tk.cut ⟨#[120, 226, 134, 144, 51, 114, 52, 43, 226, 142, 149, 49, 32, 226, 141, 157, 32, 110, 111]⟩).1.map (fun t => (t.kind, t.c)) = [(2, 0), (7, 8592), (0, 0), (7, 43), (4, 1)] ∧ (Tk.cut ⟨#[120, 226, 134, 144, 51, 114, 52, 43, 226, 142, 149, 49, 32, 226, 141, 157, 32, 110, 111]⟩).2 = (0, 0) := by
  constructor <;> kernel_rfl
theorem awake20_any (w : World) : Calls Tryz.prog 16 #[] w fun e w' => e = .returned (.bool true) ∧ Below w.heap.size w w' := by
  have CUT := Lib.hid (tokCut_any ⟨#[120, 226, 134, 144, 51, 114, 52, 43, 226, 142, 149, 49, 32, 226, 141, 157, 32, 110, 111]⟩ w (by decide))
  obtain ⟨r, hr⟩ : ∃ r, r = Tk.cut ⟨#[120, 226, 134, 144, 51, 114, 52, 43, 226, 142, 149, 49, 32, 226, 141, 157, 32, 110, 111]⟩ := ⟨_, rfl⟩
  obtain ⟨h1, h2⟩ := awake_cut
  rw [← hr] at CUT h1 h2
  obtain ⟨ts, p⟩ := r
  dsimp only at h1 h2
  subst h2
  have h5 : ts.length = 5 := by have := congrArg List.length h1; simpa using this
  have hk : ∀ (j : Nat) (hj : j < ts.length) (hj' : j < 5), (ts[j].kind, ts[j].c) = [(2, 0), (7, 8592), (0, 0), (7, 43), ((4 : Int), (1 : Int))][j] := by
    intro j hj hj'
    have h := congrArg (fun l => l[j]?) h1
    simp only [List.getElem?_map, List.getElem?_eq_getElem hj, Option.map_some] at h
    rw [List.getElem?_eq_getElem (by simpa using hj')] at h
    exact Option.some.inj h
  have HK := Lib.hid hk
  have H5 := Lib.hid h5
  clear hr h1 h5 hk
  go_enter Tryz.func16, Tryz.ntmps16
  go_wp2_with fail
  refine CUT.out.mono ?_
  rintro e w' ⟨v, rfl, ht, hb⟩
  obtain ⟨A, c, rfl, hc1, hc2, hat⟩ := ht.open_
  obtain ⟨g, n1, n2, lv, rfl, hg, _, r0, _⟩ := hat 0 (by rw [H5.out]; omega)
  obtain ⟨g', m1, m2, mv, e2, _, _, r2, _⟩ := hat 2 (by rw [H5.out]; omega)
  obtain ⟨g'', o1, o2, ov, e4, _, _, r4, _⟩ := hat 4 (by rw [H5.out]; omega)
  injection e2 with e2
  injection e2 with e2
  injection e4 with e4
  injection e4 with e4
  subst e2 e4
  have k0 := HK.out 0 (by rw [H5.out]; omega) (by omega)
  have k2 := HK.out 2 (by rw [H5.out]; omega) (by omega)
  have k4 := HK.out 4 (by rw [H5.out]; omega) (by omega)
  injection k0 with k0 k0'
  injection k2 with k2 k2'
  injection k4 with k4 k4'
  have c0 : w'.cell? ⟨g, 0, none⟩ = some (.int .i64 2) := by have h := r0 0 _ rfl; rw [k0] at h; exact h
  have c2 : w'.cell? ⟨g, 16, none⟩ = some (.int .i64 0) := by have h := r2 0 _ rfl; rw [k2] at h; exact h
  have c4 : w'.cell? ⟨g, 32, none⟩ = some (.int .i64 4) := by have h := r4 0 _ rfl; rw [k4] at h; exact h
  have c6 : w'.cell? ⟨g, 38, none⟩ = some (.int .i64 1) := by have h := r4 6 _ rfl; rw [k4'] at h; exact h
  have hlen : (ts.length : Int) = 5 := by rw [H5.out]; rfl
  have HB := Lib.hid hb
  clear r0 r2 r4 hat ht k0 k0' k2 k2' k4 k4' hc1 hb
  rw [H5.out]
  go_wp2_with fail
  go_ret
  exact ⟨rfl, HB.out⟩
end Go.Proofs.YtfiefglagknclaaGreatDoor

/-
  scrimlaw20.theirs: the tokens, as the document's.
-/
namespace Go.Proofs.YtfiefglagknclaaGreatDoor
open Go.RowKit
set_option maxHeartbeats 4000000
set_option maxRecDepth 100000
set_option linter.unusedVariables false

/-- A slice of tokens, of whatever type's name. -/
def IsToksT (T : TypeId) (w : World) (base : Nat) (v : Value) (ts : List Tk.Tok) : Prop := ∃ xs, w.ownsQ NoU base T 8 v ts.length xs ∧ TokRows w ts xs
theorem IsToks.t {w : World} {base : Nat} {v : Value} {ts : List Tk.Tok} (h : IsToks w base v ts) : IsToksT 67 w base v ts := h
theorem IsToksT.nil (T : TypeId) (w : World) (base : Nat) : IsToksT T w base (.slice none 0 0) [] := ⟨[], World.ownsQ_nil _ _ _ _ _, rfl⟩
theorem IsToksT.below {T : TypeId} {w w' : World} {base : Nat} {v : Value} {ts : List Tk.Tok} (h : IsToksT T w base v ts) (hb : Below w.heap.size w w') : IsToksT T w' base v ts := by
  obtain ⟨xs, h1, h2⟩ := h
  exact ⟨xs, ownsQ_below h1 hb, h2.below hb⟩
theorem IsToksT.open_ {T : TypeId} {w : World} {base : Nat} {v : Value} {ts : List Tk.Tok} (h : IsToksT T w base v ts) : ∃ A c, v = .slice A ts.length c ∧ ts.length ≤ c ∧ c ≤ maxLen ∧
    ∀ (j : Nat) (hj : j < ts.length), ∃ g n1 n2 lv, A = some ⟨g, 0, none⟩ ∧ g < w.heap.size ∧ base ≤ g ∧ w.rangeAt g (j * 8) (tokCells ts[j].kind ts[j].n.neg n1 n2 lv ts[j].s ts[j].c ts[j].at_) ∧ IsRes w n1 ts[j].n.top ∧ IsRes w n2 ts[j].n.bot ∧ w.ownsRow 0 3 1 lv ts[j].l.length (I64 ts[j].l) := by
  obtain ⟨xs, ho, hr⟩ := h
  obtain ⟨A, c, hv, hc1, hc2⟩ := own_slice ho.own
  refine ⟨A, c, hv, hc1, hc2, fun j hj => ?_⟩
  obtain ⟨n1, n2, lv, pre, post, hx, hp, k1, k2, k3⟩ := hr.get j hj
  rcases ho.own.2 with ⟨hv', h0⟩ | ⟨g, cap, cur, hv', hb, hg, _⟩
  · omega
  · rw [hv] at hv'
    injection hv' with e1 _ _
    refine ⟨g, n1, n2, lv, e1, (Array.getElem?_eq_some_iff.1 hg).1, hb, fun k u hu => ?_, k1, k2, k3⟩
    have hc := ho.own.cells (g := g) (by rw [hv, e1]; rfl) (j * 8 + k) u (by
      rw [hx, List.getElem?_append_right (by omega), hp, show j * 8 + k - j * 8 = k by omega]
      rw [List.getElem?_append_left (List.getElem?_eq_some_iff.1 hu).1]
      exact hu)
    rw [Addr.add_mid] at hc
    rw [Nat.zero_add] at hc
    exact hc
theorem tok_infoL (x0 x1 x2 x3 x4 x5 x6 x7 : Value) : (Tryz.prog.info? 67).map (·.size) = some [x0, x1, x2, x3, x4, x5, x6, x7].length := tok_info
theorem rtok_info : (Tryz.prog.info? 70).map (·.size) = some 8 := by kernel_rfl
theorem rtok_infoL (x0 x1 x2 x3 x4 x5 x6 x7 : Value) : (Tryz.prog.info? 70).map (·.size) = some [x0, x1, x2, x3, x4, x5, x6, x7].length := rtok_info
theorem rtoken_info : (Tryz.prog.info? 70).map (fun i => (i.zero, i.size, i.bytes)) = some (some (.agg #[.int .i64 0, .bool false, .slice none 0 0, .slice none 0 0, .slice none 0 0, .string ⟨#[]⟩, .int .i64 0, .int .i64 0]), 8, 120) := by kernel_rfl
theorem rangeAt_below {B : Nat} {w w' : World} (h : Below B w w') {g o : Nat} {cs : List Value} (hg : g < B) (hr : w.rangeAt g o cs) : w'.rangeAt g o cs := fun j v hv => (h.cell hg).trans (hr j v hv)

theorem theirs_any (v : Value) (ts : List Tk.Tok) (w : World) (base : Nat) (h : IsToks w base v ts) (hn : ts.length ≤ 100000) :
    Calls Tryz.prog 15 #[v] w fun e w' => ∃ v', e = .returned v' ∧ IsToksT 70 w' w.heap.size v' ts ∧ Below w.heap.size w w' := by
  obtain ⟨i0, hi0, hz0, hz1, hz2⟩ := info_parts rtoken_info
  obtain ⟨A, c, rfl, hc1, hc2, hat⟩ := h.open_
  have HAT := Lib.hid hat
  clear h hat
  go_enter Tryz.func15, Tryz.ntmps15
  go_wp2_with fail
  go_loopw [3, 4] (fun lv iv wr => ∃ j : Nat, iv = .int .i64 (j : Int) ∧ j ≤ ts.length ∧ Hid (Below w.heap.size w wr) ∧ Hid (IsToksT 70 wr w.heap.size lv (ts.take j))) (fun _ iv _ => ts.length - (intOf iv).toNat)
  case atStart => exact ⟨0, by go_num, Nat.zero_le _, Lib.hid (Below.refl _ _), Lib.hid (IsToksT.nil _ _ _)⟩
  case round =>
    obtain ⟨j, rfl, hj, HB, HT⟩ := hrel
    by_cases hlt : j < ts.length
    · obtain ⟨g, n1, n2, lv, rfl, hg, _, hr, i1, i2, i3⟩ := HAT.out j hlt
      have HR := Lib.hid (rangeAt_below HB.out hg hr)
      have htk : Hid (ts.take (j + 1) = ts.take j ++ [ts[j]]) := Lib.hid (by rw [List.take_add_one, List.getElem?_eq_getElem hlt]; rfl)
      have htl : Hid ((ts.take j).length = j) := Lib.hid (by rw [List.length_take]; omega)
      obtain ⟨t, ht⟩ : ∃ t, t = ts[j] := ⟨_, rfl⟩
      rw [← ht] at HR i1 i2 i3 htk
      clear hr ht
      have i1' := i1
      have i2' := i2
      obtain ⟨A1, c1, rfl, _⟩ := i1'
      obtain ⟨A2, c2, rfl, _⟩ := i2'
      obtain ⟨A3, c3, rfl, _, _⟩ := own_slice i3
      unfold tokCells at HR
      obtain ⟨W7, hW7⟩ : ∃ W7, W7 = (wr.alloc (.cells #[.int .i64 0, .bool false, .slice none 0 0, .slice none 0 0, .slice none 0 0, .string ⟨#[]⟩, .int .i64 0, .int .i64 0] 67)).setRow wr.heap.size #[.int .i64 t.kind, .bool t.n.neg, .slice A1 t.n.top.length c1, .slice A2 t.n.bot.length c2, .slice A3 t.l.length c3, .string ⟨t.s.toArray⟩, .int .i64 t.c, .int .i64 (t.at_ : Int)] := ⟨_, rfl⟩
      have HG6 : Hid ((wr.alloc (.cells #[.int .i64 0, .bool false, .slice none 0 0, .slice none 0 0, .slice none 0 0, .string ⟨#[]⟩, .int .i64 0, .int .i64 0] 67)).heap[wr.heap.size]? = some (.cells #[.int .i64 0, .bool false, .slice none 0 0, .slice none 0 0, .slice none 0 0, .string ⟨#[]⟩, .int .i64 0, .int .i64 0] 67 (0, 0))) := Lib.hid (heap_alloc_new wr _)
      have HB7 : Hid (Below wr.heap.size wr W7) := Lib.hid (by rw [hW7]; exact rBelow.setRow ((Below.refl _ _).alloc (Nat.le_refl _) _) (Nat.le_refl _) _)
      have hG7 : W7.heap[wr.heap.size]? = some (.cells #[.int .i64 t.kind, .bool t.n.neg, .slice A1 t.n.top.length c1, .slice A2 t.n.bot.length c2, .slice A3 t.l.length c3, .string ⟨t.s.toArray⟩, .int .i64 t.c, .int .i64 (t.at_ : Int)] 67 (0, 0)) := by rw [hW7]; exact rheap_same HG6.out
      have HW7 := Lib.hid hW7
      have z0 : W7.cell? ⟨wr.heap.size, 0, none⟩ = some (.int .i64 t.kind) := (cell_of_row W7 wr.heap.size 0 _ _ _ hG7).trans rfl
      have z1 : W7.cell? ⟨wr.heap.size, 1, none⟩ = some (.bool t.n.neg) := (cell_of_row W7 wr.heap.size 1 _ _ _ hG7).trans rfl
      have z2 : W7.cell? ⟨wr.heap.size, 2, none⟩ = some (.slice A1 t.n.top.length c1) := (cell_of_row W7 wr.heap.size 2 _ _ _ hG7).trans rfl
      have z3 : W7.cell? ⟨wr.heap.size, 3, none⟩ = some (.slice A2 t.n.bot.length c2) := (cell_of_row W7 wr.heap.size 3 _ _ _ hG7).trans rfl
      have z4 : W7.cell? ⟨wr.heap.size, 4, none⟩ = some (.slice A3 t.l.length c3) := (cell_of_row W7 wr.heap.size 4 _ _ _ hG7).trans rfl
      have z5 : W7.cell? ⟨wr.heap.size, 5, none⟩ = some (.string ⟨t.s.toArray⟩) := (cell_of_row W7 wr.heap.size 5 _ _ _ hG7).trans rfl
      have z6 : W7.cell? ⟨wr.heap.size, 6, none⟩ = some (.int .i64 t.c) := (cell_of_row W7 wr.heap.size 6 _ _ _ hG7).trans rfl
      have z7 : W7.cell? ⟨wr.heap.size, 7, none⟩ = some (.int .i64 (t.at_ : Int)) := (cell_of_row W7 wr.heap.size 7 _ _ _ hG7).trans rfl
      have HS7 : Hid (wr.heap.size ≤ W7.heap.size) := Lib.hid HB7.out.size
      obtain ⟨xs, t1, t2⟩ := HT.out
      have OWN9 : Hid ((W7.alloc (.cells #[.int .i64 t.kind, .bool t.n.neg, .slice A1 t.n.top.length c1, .slice A2 t.n.bot.length c2, .slice A3 t.l.length c3, .string ⟨t.s.toArray⟩, .int .i64 t.c, .int .i64 (t.at_ : Int)] 70)).ownsQ NoU w.heap.size 70 8 u3 j xs) := Lib.hid (by
        have h := ownsQ_below (ownsQ_below t1 HB7.out) (w' := W7.alloc (.cells #[.int .i64 t.kind, .bool t.n.neg, .slice A1 t.n.top.length c1, .slice A2 t.n.bot.length c2, .slice A3 t.l.length c3, .string ⟨t.s.toArray⟩, .int .i64 t.c, .int .i64 (t.at_ : Int)] 70)) ((Below.refl _ _).alloc (Nat.le_refl _) _)
        rw [htl.out] at h
        exact h)
      have R9 := Lib.hid ((t2.below HB7.out).below (w' := W7.alloc (.cells #[.int .i64 t.kind, .bool t.n.neg, .slice A1 t.n.top.length c1, .slice A2 t.n.bot.length c2, .slice A3 t.l.length c3, .string ⟨t.s.toArray⟩, .int .i64 t.c, .int .i64 (t.at_ : Int)] 70)) ((Below.refl _ _).alloc (Nat.le_refl _) _))
      have B9 : Hid (Below w.heap.size w (W7.alloc (.cells #[.int .i64 t.kind, .bool t.n.neg, .slice A1 t.n.top.length c1, .slice A2 t.n.bot.length c2, .slice A3 t.l.length c3, .string ⟨t.s.toArray⟩, .int .i64 t.c, .int .i64 (t.at_ : Int)] 70))) := Lib.hid ((HB.out.trans (HB7.out.mono HB.out.size)).alloc (Nat.le_trans HB.out.size HB7.out.size) _)
      have K1 := Lib.hid (i1.below_ B9.out)
      have K2 := Lib.hid (i2.below_ B9.out)
      have K3 := Lib.hid (own_below_ i3 B9.out)
      clear hW7 hG7 i1 i2 i3 t1 t2
      go_upto_region 6 with (first | (with_reducible refine wpList_load_mid rfl 67 (.tmp 14) rfl g (j * 8) rfl [.int .i64 t.kind, .bool t.n.neg, .slice A1 t.n.top.length c1, .slice A2 t.n.bot.length c2, .slice A3 t.l.length c3, .string ⟨t.s.toArray⟩, .int .i64 t.c, .int .i64 (t.at_ : Int)] _ HR.out Tryz.underlying67 rfl (tok_infoL _ _ _ _ _ _ _ _) ?_) | (with_reducible refine wpList_store_row rfl 67 (.tmp 5) (.tmp 15) rfl wr.heap.size #[.int .i64 t.kind, .bool t.n.neg, .slice A1 t.n.top.length c1, .slice A2 t.n.bot.length c2, .slice A3 t.l.length c3, .string ⟨t.s.toArray⟩, .int .i64 t.c, .int .i64 (t.at_ : Int)] rfl rfl 67 #[.int .i64 0, .bool false, .slice none 0 0, .slice none 0 0, .slice none 0 0, .string ⟨#[]⟩, .int .i64 0, .int .i64 0] HG6.out (tok_infoR _ _ _ _ _ _ _ _) rfl (tok_one _ _ _ _ _ _ _ _ _ _ _ _ _ _) ?_))
      rw [← HW7.out]
      dsimp only [Act.put]
      go_wp2_with (at_builtin; refine wpList_append_ownQ _ rfl _ _ 39 rfl NoU w.heap.size 70 i0 _ 8 120 Tryz.underlying39 hi0 hz0 hz1 hz2 rfl (by decide) tokZ_noU _ _ xs rfl OWN9.out ⟨_, 0, none⟩ 1 1 (tokCells t.kind t.n.neg (.slice A1 t.n.top.length c1) (.slice A2 t.n.bot.length c2) (.slice A3 t.l.length c3) t.s t.c (t.at_ : Int)) rfl rfl (cells_new _ _ _) (by intro u hu; unfold tokCells at hu; simp only [List.mem_cons, List.not_mem_nil, or_false] at hu; rcases hu with rfl | rfl | rfl | rfl | rfl | rfl | rfl | rfl <;> rfl) (tokCells_noU _ _ K1.out.noU K2.out.noU (own_noU K3.out) _ _ _) (by unfold maxLen; omega) (by omega) B9.out.size ?_; intro v' w10 hown' hgr hnil hat)
      refine ⟨⟨j + 1, by go_num, hlt, Lib.hid (B9.out.grown hgr B9.out.size (fun k hk => (OWN9.out.own.lt k hk).1)), Lib.hid ?_⟩, by simp [intOf]; omega⟩
      rw [htk.out]
      exact ⟨_, by rw [List.length_append, htl.out]; exact hown', TokRows.snoc (K1.out.grownQ OWN9.out hgr) (K2.out.grownQ OWN9.out hgr) (own_grown_t K3.out OWN9.out (by decide) hgr) (R9.out.grown OWN9.out (by decide) hgr)⟩
    · have hme : j = ts.length := by omega
      have HTE := Lib.hid HT.out
      rw [hme, List.take_length] at HTE
      go_wp2_with fail
      go_ret
      exact ⟨_, rfl, HTE.out, HB.out⟩
end Go.Proofs.YtfiefglagknclaaGreatDoor
