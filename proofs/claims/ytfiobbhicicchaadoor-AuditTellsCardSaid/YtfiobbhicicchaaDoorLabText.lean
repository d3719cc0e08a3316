/-
  What label.Text computes, for every label.
-/
import Derived.Test.YtfiobbhicicchaaDoorWords
import Derived.Test.YtfiobbhicicchaaDoorTextMath
import Derived.Test.YtfiobbhicicchaaDoorLabTags
import Derived.Test.YtfiobbhicicchaaDoorShelf
import Derived.Deep.QuietTactic
import Derived.BigQuiet
import Derived.Deep.LoopGhost
import Derived.Deep.RegionLaw
import Derived.Deep.AppendLies
namespace Go.Proofs.YtfiobbhicicchaaDoor
open Go.RowKit
set_option maxHeartbeats 1000000
set_option maxRecDepth 100000

theorem str_info : (Tryd.prog.info? 9).map (fun i => (i.zero, i.size, i.bytes)) = some (some (.string ⟨#[]⟩), 1, 16) := by kernel_rfl
/-- A list of bytes as a string value. -/
def strV (s : List UInt8) : Value := .string ⟨s.toArray⟩

theorem str_app (a b : List UInt8) : (⟨a.toArray⟩ : ByteArray) ++ (⟨b.toArray⟩ : ByteArray) = ⟨(a ++ b).toArray⟩ := by
  apply ByteArray.ext
  simp
theorem str_app3 (a b : List UInt8) : ((⟨a.toArray⟩ : ByteArray) ++ (⟨#[45]⟩ : ByteArray)) ++ (⟨b.toArray⟩ : ByteArray) = ⟨(a ++ 45 :: b).toArray⟩ := by
  apply ByteArray.ext
  simp
theorem str_braces (a : List UInt8) : ((⟨#[123]⟩ : ByteArray) ++ (⟨a.toArray⟩ : ByteArray)) ++ (⟨#[125]⟩ : ByteArray) = ⟨(123 :: (a ++ [125])).toArray⟩ := by
  apply ByteArray.ext
  simp

theorem text_any (l : Nat) (w : World) (hl : l < 18446744073709551616) (hT : Tab64 w) (hB : 0 < w.heap.size) :
    Calls Tryd.prog 31 #[.int .u64 (l : Int)] w fun e w' => e = .returned (strV (Lab.text l)) ∧ Below w.heap.size w w' := by
  obtain ⟨i0, hi, hz0, hz1, hz2⟩ := info_parts str_info
  have hlen := Lab.tags_len l
  have HT := Lib.hid hT
  clear hT
  go_enter Tryd.func31, Tryd.ntmps31
  go_wp2_with (first
    | (go_at_call 36; refine (tags_any _ _ hl HT.out hB).mono ?_; rintro e w1 ⟨v, rfl, hown1, hb1⟩; obtain ⟨A, c, rfl, _, _⟩ := own_slice hown1; have HL := Lib.hid (Lies.of_own hown1); clear hown1)
    | (at_make; refine wpList_make_own _ rfl _ _ 69 rfl w1.heap.size 9 i0 (.string ⟨#[]⟩) 1 Tryd.underlying69 hi hz0 hz1 .i64 .i64 _ (Lab.tags l).length rfl rfl rfl (by rw [hz2]; omega) (by unfold maxLen; omega) (Nat.le_refl _) ?_; intro w0 hown0 hgrow0))
  have hbel0 : Below w1.heap.size w1 w0 := (Below.refl _ _).grown hgrow0 (Nat.le_refl _) (by simp)
  clear hgrow0
  have hbB : w.heap.size ≤ w1.heap.size := hb1.size
  go_loopw [4, 5] (fun v i wr => ∃ (k p : Nat) (ps : List (List UInt8)), k ≤ (Lab.tags l).length ∧ ps.length ≤ k ∧ i = .int .i64 (k : Int) ∧ Hid ((Lab.tags l).drop k = Lab.tagsFrom l p ∧ ps ++ Lab.pieces l p = Lab.pieces l 0) ∧
      wr.ownsRow w1.heap.size 9 1 v ps.length (ps.map strV) ∧ Below w1.heap.size w1 wr) (fun _ i _ => (Lab.tags l).length - (intOf i).toNat)
  case atStart => exact ⟨0, 0, [], Nat.zero_le _, Nat.le_refl _, rfl, Lib.hid ⟨Lab.tags_from l, rfl⟩, hown0, hbel0⟩
  case round =>
    clear hown0 hbel0
    obtain ⟨i, p, ps, hk, hps, rfl, H, hown, hbel⟩ := hrel
    by_cases hlt : i < (Lab.tags l).length
    · obtain ⟨t, r, hcons⟩ : ∃ t r, Lab.tagsFrom l p = t :: r := by
        cases e : Lab.tagsFrom l p with
        | nil => have := H.out.1; rw [e] at this; have := List.drop_eq_nil_iff.1 this; omega
        | cons t r => exact ⟨t, r, rfl⟩
      obtain ⟨ht64, htb, htf⟩ := Lab.tagsFrom_head hcons
      have HD : Hid ((Lab.tags l).drop i = Lab.tagsFrom l t) := by rw [htf, ← hcons]; exact H.out.1
      have HP : Hid (ps ++ (Lab.piece (t, Lab.last l t) ++ Lab.pieces l (Lab.last l t + 1)) = Lab.pieces l 0) := by rw [← Lab.pieces_cons hcons]; exact H.out.2
      have HB := Lib.hid htb
      clear H hcons htf htb
      obtain ⟨b, off, rfl, hbb, HC⟩ : ∃ b off, A = some ⟨b, off, none⟩ ∧ b < w1.heap.size ∧ Hid (∀ q x : Nat, (Lab.tags l)[q]? = some x → w1.cell? ⟨b, off + q, none⟩ = some (.int .i64 (x : Int))) := by
        rcases HL.out with h | ⟨b, off, hA, hb, hc⟩
        · rw [List.map_eq_nil_iff] at h; rw [h] at hlt; simp at hlt
        · exact ⟨b, off, hA, hb, fun q x hx => hc q _ (by rw [List.getElem?_map, hx]; rfl)⟩
      go_wp2_with fail
      obtain ⟨wo, rfl⟩ : ∃ wo : World, wo = wr := ⟨_, rfl⟩
      go_loopw [6] (fun j wq => ∃ jn m : Nat, wq = wo.drewN m ∧ i ≤ jn ∧ jn < (Lab.tags l).length ∧ j = .int .i64 (jn : Int) ∧ Hid (∃ d, jn = i + d ∧ t + d ≤ Lab.last l t)) (fun j _ => (Lab.tags l).length - (intOf j).toNat)
      case atStart => exact ⟨i, 0, rfl, Nat.le_refl _, hlt, rfl, Lib.hid ⟨0, rfl, Lab.last_ge l t⟩⟩
      case round =>
        obtain ⟨jn, m, rfl, hij, hjn, rfl, HJ⟩ := hrel
        obtain ⟨d, hd1, hd2⟩ := HJ.out
        obtain ⟨_, hget, hdrop, _⟩ := Lab.run_at hl HB.out HD.out d hd2
        have HW : Hid (∀ q x : Nat, (Lab.tags l)[q]? = some x → wo.cell? ⟨b, off + q, none⟩ = some (.int .i64 (x : Int))) := fun q x hx => (hbel.cell (p := ⟨b, off + q, none⟩) hbb).trans (HC.out q x hx)
        have hcj := HW.out _ _ hget
        have hbt := Lab.last_lt hl HB.out
        rw [← hd1] at hcj
        obtain ⟨x, hx⟩ : ∃ x, x = t + d := ⟨_, rfl⟩
        rw [← hx] at hcj
        have hx64 : x < 64 := by omega
        by_cases hin : t + d < Lab.last l t
        · obtain ⟨_, hget2, _, hlt2⟩ := Lab.run_at hl HB.out HD.out (d + 1) (by omega)
          have hcn := HW.out _ _ hget2
          rw [show i + (d + 1) = jn + 1 from by omega, show t + (d + 1) = x + 1 from by omega] at hcn
          rw [show ((x + 1 : Nat) : Int) = (x : Int) + 1 from by omega] at hcn
          have hj1 : jn + 1 < (Lab.tags l).length := by omega
          have hdec : decide ((jn : Int) + 1 < ((Lab.tags l).length : Int)) = true := by simp; omega
          have HE := Lib.hid (And.intro hd1 hin)
          clear hd1 hx hin hget hget2 hdrop hlt2 hd2
          go_wp2_with fail
          go_quiet (fail)
          go_wp2_with fail
          go_roundw
          case rel => exact ⟨jn + 1, _, rfl, by omega, by omega, by go_num, Lib.hid ⟨d + 1, by have := HE.out.1; omega, HE.out.2⟩⟩
          case measure => simp [intOf]; omega
        · have hlast : t + d = Lab.last l t := by omega
          have hstop := Lab.run_stop hl HB.out HD.out hlast
          rw [← hd1] at hstop
          have HE := Lib.hid (And.intro hd1 hlast)
          have HX := Lib.hid hx
          have HDR := Lib.hid hdrop
          clear hd1 hin hget hdrop hd2 hlast
          have hci := HW.out i t (by have := (Lab.run_at hl HB.out HD.out 0 (Lab.last_ge l t)).2.1; simpa using this)
          have hsz := hbel.size
          have HF : Hid ((Lab.tags l).drop (jn + 1) = Lab.tagsFrom l (Lab.last l t + 1)) := by
            have h := HDR.out; have h1 := HE.out
            rw [← h1.2, h1.1]; exact h
          have HW2 : Hid (∀ wx : World, Below w1.heap.size w1 wx → wx.cell? ⟨b, off + jn, none⟩ = some (.int .i64 (x : Int))) := fun wx hx => (hx.cell (p := ⟨b, off + jn, none⟩) hbb).trans ((hbel.cell (p := ⟨b, off + jn, none⟩) hbb).symm.trans hcj)
          have h3 : jn = i ∨ jn = i + 1 ∨ i + 2 ≤ jn := by omega
          rcases hstop with hstop | ⟨y, hy, hyne, hylt, hy64⟩
          · have hdec : decide ((jn : Int) + 1 < ((Lab.tags l).length : Int)) = false := by simp; omega
            clear hx
            rcases h3 with h3 | h3 | h3
            · have HX2 : Hid (Lab.piece (t, Lab.last l t) = [Lib.decDigits x]) := Lib.hid (by
                have h1 := HE.out; have h2 := HX.out
                have e1 : Lab.last l t = t := by omega
                have e2 : x = t := by omega
                rw [e1, e2]; simp [Lab.piece])
              have hs1 : ((jn : Int) - (i : Int) == 1) = false := by simp; omega
              have hs0 : ((jn : Int) - (i : Int) == 0) = true := by simp; omega
              have hlj : jn ≤ i := by omega
              clear h3
              go_wp2_with fail
              go_quiet (fail)
              have hownq : (wo.drewN (m + nq)).ownsRow w1.heap.size 9 1 u4 ps.length (ps.map strV) := hown
              have hbq : Below w1.heap.size w1 (wo.drewN (m + nq)) := ⟨hbel.os, hbel.tape, hbel.output, hbel.size, hbel.block⟩
              go_wp2_with (first
                | (go_at_call 32; refine (Tryd.strconv_Itoa_small _ (by omega) _).mono ?_; rintro e w' ⟨rfl, rfl⟩)
                | (at_builtin; refine wpList_append_own _ rfl (.tmp 52) (.tmp 58) 69 rfl w1.heap.size 9 i0 (.string ⟨#[]⟩) 1 16 Tryd.underlying69 hi hz0 hz1 hz2 rfl (by decide) _ _ _ rfl (hownq.alloc _) ⟨_, 0, none⟩ 1 1 [strV (Lib.decDigits x)] rfl rfl (cell_one_new _ _ _) (by intro u hu; simp only [List.mem_singleton] at hu; subst hu; rfl) (by unfold maxLen; omega) (by omega) (by simp; omega) ?_; intro v2 w2 hown2 hgrow2 hnn2))
              have hb2 : Below w1.heap.size w1 w2 := (hbq.alloc (by simp; omega) _).grown hgrow2 (by simp; omega) (fun k hk => (hown.lt k hk).1)
              refine ⟨⟨jn + 1, Lab.last l t + 1, ps ++ [Lib.decDigits x], by omega, by simp; omega, by go_num, Lib.hid ⟨HF.out, ?_⟩, by simpa using hown2, hb2⟩, by simp [intOf]; omega⟩
              rw [List.append_assoc, ← HX2.out]; exact HP.out
            · have HX2 : Hid (Lab.piece (t, Lab.last l t) = [Lib.decDigits t, Lib.decDigits x]) := Lib.hid (by
                have h1 := HE.out; have h2 := HX.out
                have e1 : Lab.last l t = t + 1 := by omega
                have e2 : x = t + 1 := by omega
                rw [e1, e2]; simp [Lab.piece])
              have hs1 : ((jn : Int) - (i : Int) == 1) = true := by simp; omega
              have hlj : i + 1 ≤ jn := by omega
              clear h3
              go_wp2_with fail
              go_quiet (fail)
              have hownq : (wo.drewN (m + nq)).ownsRow w1.heap.size 9 1 u4 ps.length (ps.map strV) := hown
              have hbq : Below w1.heap.size w1 (wo.drewN (m + nq)) := ⟨hbel.os, hbel.tape, hbel.output, hbel.size, hbel.block⟩
              go_wp2_with (first
                | (go_at_call 32; refine (Tryd.strconv_Itoa_small _ (by omega) _).mono ?_; rintro e w' ⟨rfl, rfl⟩)
                | (at_builtin; refine wpList_append_own _ rfl (.tmp 44) (.tmp 50) 69 rfl w1.heap.size 9 i0 (.string ⟨#[]⟩) 1 16 Tryd.underlying69 hi hz0 hz1 hz2 rfl (by decide) _ _ _ rfl (hownq.alloc _) ⟨_, 0, none⟩ 1 1 [strV (Lib.decDigits t)] rfl rfl (cell_one_new _ _ _) (by intro u hu; simp only [List.mem_singleton] at hu; subst hu; rfl) (by unfold maxLen; omega) (by omega) (by simp; omega) ?_; intro v2 w2 hown2 hgrow2 hnn2; have hb2 : Below w1.heap.size w1 w2 := (hbq.alloc (by simp; omega) _).grown hgrow2 (by simp; omega) (fun k hk => (hown.lt k hk).1); have hsz2 := hb2.size; have hcj2 := HW2.out w2 hb2; clear hgrow2 hnn2)
                | (at_builtin; refine wpList_append_own _ rfl (.tmp 52) (.tmp 58) 69 rfl w1.heap.size 9 i0 (.string ⟨#[]⟩) 1 16 Tryd.underlying69 hi hz0 hz1 hz2 rfl (by decide) _ _ _ rfl (hown2.alloc _) ⟨_, 0, none⟩ 1 1 [strV (Lib.decDigits x)] rfl rfl (cell_one_new _ _ _) (by intro u hu; simp only [List.mem_singleton] at hu; subst hu; rfl) (by unfold maxLen; omega) (by omega) (by simp; omega) ?_; intro v3 w3 hown3 hgrow3 hnn3))
              have hb3 := (hb2.alloc (by omega) _).grown hgrow3 (by simp; omega) (fun k hk => (hown2.lt k hk).1)
              refine ⟨⟨jn + 1, Lab.last l t + 1, ps ++ [Lib.decDigits t, Lib.decDigits x], by omega, by simp; omega, by go_num, Lib.hid ⟨HF.out, ?_⟩, by simpa using hown3, hb3⟩, by simp [intOf]; omega⟩
              rw [List.append_assoc, ← HX2.out]; exact HP.out
            · have HX2 : Hid (Lab.piece (t, Lab.last l t) = [Lib.decDigits t ++ 45 :: Lib.decDigits x]) := Lib.hid (by
                have h1 := HE.out; have h2 := HX.out
                have e2 : x = Lab.last l t := by omega
                rw [e2]; unfold Lab.piece; rw [if_neg (by simp; omega), if_neg (by simp; omega)])
              have hs1 : ((jn : Int) - (i : Int) == 1) = false := by simp; omega
              have hs0 : ((jn : Int) - (i : Int) == 0) = false := by simp; omega
              have hdt := (Lab.dec_len ht64).2
              have hdx := (Lab.dec_len hx64).2
              have hno1 : (9223372036854775807 < (Lib.decDigits t).length + 1) = False := by simp; omega
              have hno2 : (9223372036854775807 < (Lib.decDigits t).length + 1 + (Lib.decDigits x).length) = False := by simp; omega
              go_wp2_with fail
              go_quiet (fail)
              have hownq : (wo.drewN (m + nq)).ownsRow w1.heap.size 9 1 u4 ps.length (ps.map strV) := hown
              have hbq : Below w1.heap.size w1 (wo.drewN (m + nq)) := ⟨hbel.os, hbel.tape, hbel.output, hbel.size, hbel.block⟩
              have hbr : Below w1.heap.size w1 (wo.drewN (m + nq + 1)) := ⟨hbel.os, hbel.tape, hbel.output, hbel.size, hbel.block⟩
              have hownr : (wo.drewN (m + nq + 1)).ownsRow w1.heap.size 9 1 u4 ps.length (ps.map strV) := hown
              go_wp2_with fail
              go_region_law (first
                | (refine step_append_lies _ (by rfl) (.tmp 60) (.tmp 73) 69 (by rfl) w1.heap.size 9 i0 (.string ⟨#[]⟩) 1 16 Tryd.underlying69 hi hz0 hz1 hz2 rfl (by omega) u4 ps.length (ps.map strV) (by rfl) (by exact (hownr.alloc _)) ⟨wo.heap.size, 0, none⟩ 1 1 [.string (⟨(Lib.decDigits t).toArray⟩ ++ ⟨#[45]⟩ ++ ⟨(Lib.decDigits x).toArray⟩)] (by rfl) (by rfl) (by exact cell_one_new _ _ _) (by intro u hu; simp only [List.mem_singleton] at hu; subst hu; rfl) (by omega) (by unfold maxLen; omega) (by omega) (by simp; omega) (wo.heap.size + 1) (by simp) ?_; intro g2 c2 w2 hown2 hgrow2 hg2 hg3)
                | (go_simp; (go_at_call 32; refine (Tryd.strconv_Itoa_small _ (by omega) _).mono ?_; rintro e w' ⟨rfl, rfl⟩)))
              all_goals
                have hb2 : Below w1.heap.size w1 w2 := (hbr.alloc (by simp; omega) _).grown hgrow2 (by simp; omega) (fun k hk => (hown.lt k hk).1)
                clear hgrow2
                go_wp2_with fail
                refine ⟨⟨jn + 1, Lab.last l t + 1, ps ++ [Lib.decDigits t ++ 45 :: Lib.decDigits x], by omega, by simp; omega, by go_num, Lib.hid ⟨HF.out, ?_⟩, ?_, hb2⟩, by simp [intOf]; omega⟩
                · rw [List.append_assoc, ← HX2.out]; exact HP.out
                · rw [List.length_append, List.map_append]; simpa [strV, str_app3] using hown2
          · have hdec : decide ((jn : Int) + 1 < ((Lab.tags l).length : Int)) = true := by simp; omega
            have hcn := HW.out _ _ hy
            have hne : ((y : Int) == (x : Int) + 1) = false := by simp; omega
            clear hx hy hyne
            rcases h3 with h3 | h3 | h3
            · have HX2 : Hid (Lab.piece (t, Lab.last l t) = [Lib.decDigits x]) := Lib.hid (by
                have h1 := HE.out; have h2 := HX.out
                have e1 : Lab.last l t = t := by omega
                have e2 : x = t := by omega
                rw [e1, e2]; simp [Lab.piece])
              have hs1 : ((jn : Int) - (i : Int) == 1) = false := by simp; omega
              have hs0 : ((jn : Int) - (i : Int) == 0) = true := by simp; omega
              have hlj : jn ≤ i := by omega
              clear h3
              go_wp2_with fail
              go_quiet (fail)
              have hownq : (wo.drewN (m + nq)).ownsRow w1.heap.size 9 1 u4 ps.length (ps.map strV) := hown
              have hbq : Below w1.heap.size w1 (wo.drewN (m + nq)) := ⟨hbel.os, hbel.tape, hbel.output, hbel.size, hbel.block⟩
              go_wp2_with (first
                | (go_at_call 32; refine (Tryd.strconv_Itoa_small _ (by omega) _).mono ?_; rintro e w' ⟨rfl, rfl⟩)
                | (at_builtin; refine wpList_append_own _ rfl (.tmp 52) (.tmp 58) 69 rfl w1.heap.size 9 i0 (.string ⟨#[]⟩) 1 16 Tryd.underlying69 hi hz0 hz1 hz2 rfl (by decide) _ _ _ rfl (hownq.alloc _) ⟨_, 0, none⟩ 1 1 [strV (Lib.decDigits x)] rfl rfl (cell_one_new _ _ _) (by intro u hu; simp only [List.mem_singleton] at hu; subst hu; rfl) (by unfold maxLen; omega) (by omega) (by simp; omega) ?_; intro v2 w2 hown2 hgrow2 hnn2))
              have hb2 : Below w1.heap.size w1 w2 := (hbq.alloc (by simp; omega) _).grown hgrow2 (by simp; omega) (fun k hk => (hown.lt k hk).1)
              refine ⟨⟨jn + 1, Lab.last l t + 1, ps ++ [Lib.decDigits x], by omega, by simp; omega, by go_num, Lib.hid ⟨HF.out, ?_⟩, by simpa using hown2, hb2⟩, by simp [intOf]; omega⟩
              rw [List.append_assoc, ← HX2.out]; exact HP.out
            · have HX2 : Hid (Lab.piece (t, Lab.last l t) = [Lib.decDigits t, Lib.decDigits x]) := Lib.hid (by
                have h1 := HE.out; have h2 := HX.out
                have e1 : Lab.last l t = t + 1 := by omega
                have e2 : x = t + 1 := by omega
                rw [e1, e2]; simp [Lab.piece])
              have hs1 : ((jn : Int) - (i : Int) == 1) = true := by simp; omega
              have hlj : i + 1 ≤ jn := by omega
              clear h3
              go_wp2_with fail
              go_quiet (fail)
              have hownq : (wo.drewN (m + nq)).ownsRow w1.heap.size 9 1 u4 ps.length (ps.map strV) := hown
              have hbq : Below w1.heap.size w1 (wo.drewN (m + nq)) := ⟨hbel.os, hbel.tape, hbel.output, hbel.size, hbel.block⟩
              go_wp2_with (first
                | (go_at_call 32; refine (Tryd.strconv_Itoa_small _ (by omega) _).mono ?_; rintro e w' ⟨rfl, rfl⟩)
                | (at_builtin; refine wpList_append_own _ rfl (.tmp 44) (.tmp 50) 69 rfl w1.heap.size 9 i0 (.string ⟨#[]⟩) 1 16 Tryd.underlying69 hi hz0 hz1 hz2 rfl (by decide) _ _ _ rfl (hownq.alloc _) ⟨_, 0, none⟩ 1 1 [strV (Lib.decDigits t)] rfl rfl (cell_one_new _ _ _) (by intro u hu; simp only [List.mem_singleton] at hu; subst hu; rfl) (by unfold maxLen; omega) (by omega) (by simp; omega) ?_; intro v2 w2 hown2 hgrow2 hnn2; have hb2 : Below w1.heap.size w1 w2 := (hbq.alloc (by simp; omega) _).grown hgrow2 (by simp; omega) (fun k hk => (hown.lt k hk).1); have hsz2 := hb2.size; have hcj2 := HW2.out w2 hb2; clear hgrow2 hnn2)
                | (at_builtin; refine wpList_append_own _ rfl (.tmp 52) (.tmp 58) 69 rfl w1.heap.size 9 i0 (.string ⟨#[]⟩) 1 16 Tryd.underlying69 hi hz0 hz1 hz2 rfl (by decide) _ _ _ rfl (hown2.alloc _) ⟨_, 0, none⟩ 1 1 [strV (Lib.decDigits x)] rfl rfl (cell_one_new _ _ _) (by intro u hu; simp only [List.mem_singleton] at hu; subst hu; rfl) (by unfold maxLen; omega) (by omega) (by simp; omega) ?_; intro v3 w3 hown3 hgrow3 hnn3))
              have hb3 := (hb2.alloc (by omega) _).grown hgrow3 (by simp; omega) (fun k hk => (hown2.lt k hk).1)
              refine ⟨⟨jn + 1, Lab.last l t + 1, ps ++ [Lib.decDigits t, Lib.decDigits x], by omega, by simp; omega, by go_num, Lib.hid ⟨HF.out, ?_⟩, by simpa using hown3, hb3⟩, by simp [intOf]; omega⟩
              rw [List.append_assoc, ← HX2.out]; exact HP.out
            · have HX2 : Hid (Lab.piece (t, Lab.last l t) = [Lib.decDigits t ++ 45 :: Lib.decDigits x]) := Lib.hid (by
                have h1 := HE.out; have h2 := HX.out
                have e2 : x = Lab.last l t := by omega
                rw [e2]; unfold Lab.piece; rw [if_neg (by simp; omega), if_neg (by simp; omega)])
              have hs1 : ((jn : Int) - (i : Int) == 1) = false := by simp; omega
              have hs0 : ((jn : Int) - (i : Int) == 0) = false := by simp; omega
              have hdt := (Lab.dec_len ht64).2
              have hdx := (Lab.dec_len hx64).2
              have hno1 : (9223372036854775807 < (Lib.decDigits t).length + 1) = False := by simp; omega
              have hno2 : (9223372036854775807 < (Lib.decDigits t).length + 1 + (Lib.decDigits x).length) = False := by simp; omega
              go_wp2_with fail
              go_quiet (fail)
              have hownq : (wo.drewN (m + nq)).ownsRow w1.heap.size 9 1 u4 ps.length (ps.map strV) := hown
              have hbq : Below w1.heap.size w1 (wo.drewN (m + nq)) := ⟨hbel.os, hbel.tape, hbel.output, hbel.size, hbel.block⟩
              have hbr : Below w1.heap.size w1 (wo.drewN (m + nq + 1)) := ⟨hbel.os, hbel.tape, hbel.output, hbel.size, hbel.block⟩
              have hownr : (wo.drewN (m + nq + 1)).ownsRow w1.heap.size 9 1 u4 ps.length (ps.map strV) := hown
              go_wp2_with fail
              go_region_law (first
                | (refine step_append_lies _ (by rfl) (.tmp 60) (.tmp 73) 69 (by rfl) w1.heap.size 9 i0 (.string ⟨#[]⟩) 1 16 Tryd.underlying69 hi hz0 hz1 hz2 rfl (by omega) u4 ps.length (ps.map strV) (by rfl) (by exact (hownr.alloc _)) ⟨wo.heap.size, 0, none⟩ 1 1 [.string (⟨(Lib.decDigits t).toArray⟩ ++ ⟨#[45]⟩ ++ ⟨(Lib.decDigits x).toArray⟩)] (by rfl) (by rfl) (by exact cell_one_new _ _ _) (by intro u hu; simp only [List.mem_singleton] at hu; subst hu; rfl) (by omega) (by unfold maxLen; omega) (by omega) (by simp; omega) (wo.heap.size + 1) (by simp) ?_; intro g2 c2 w2 hown2 hgrow2 hg2 hg3)
                | (go_simp; (go_at_call 32; refine (Tryd.strconv_Itoa_small _ (by omega) _).mono ?_; rintro e w' ⟨rfl, rfl⟩)))
              all_goals
                have hb2 : Below w1.heap.size w1 w2 := (hbr.alloc (by simp; omega) _).grown hgrow2 (by simp; omega) (fun k hk => (hown.lt k hk).1)
                clear hgrow2
                go_wp2_with fail
                refine ⟨⟨jn + 1, Lab.last l t + 1, ps ++ [Lib.decDigits t ++ 45 :: Lib.decDigits x], by omega, by simp; omega, by go_num, Lib.hid ⟨HF.out, ?_⟩, ?_, hb2⟩, by simp [intOf]; omega⟩
                · rw [List.append_assoc, ← HX2.out]; exact HP.out
                · rw [List.length_append, List.map_append]; simpa [strV, str_app3] using hown2
    · have HPS : Hid (ps = Lab.pieces l 0) := by
        have h := H.out
        rw [List.drop_eq_nil_of_le (by omega)] at h
        rw [← h.2, Lab.pieces_nil h.1.symm, List.append_nil]
        exact rfl
      have HJ : Hid ((Lib.join ps [44]).length ≤ 384 ∧ ∀ x ∈ ps, 1 ≤ x.length) := by
        have h1 := Lab.pieces_len hl 0
        rw [← HPS.out] at h1
        have h2 := Lab.join_len_le ps (fun x hx => (h1 x hx).2)
        exact ⟨by omega, fun x hx => (h1 x hx).1⟩
      have hbw : Below w.heap.size w wr := hb1.trans (hbel.mono hbB)
      have HTX : Hid (Lab.text l = 123 :: (Lib.join ps [44] ++ [125])) := by rw [HPS.out]; exact rfl
      clear H HPS
      rcases Nat.eq_zero_or_pos ps.length with h0 | h0
      · obtain rfl := List.eq_nil_of_length_eq_zero h0
        obtain ⟨A', c', rfl, _, _⟩ := own_slice hown
        go_wp2_with (go_at_call 37; refine (Tryd.strings_Join_none _ _ _ _).mono ?_; rintro e w' ⟨rfl, rfl⟩)
        go_ret
        exact ⟨by rw [HTX.out]; rfl, hbw⟩
      · obtain ⟨g, cap, rfl, _, hg⟩ := hown.form h0
        obtain ⟨_, c', hv, hcap, _⟩ := own_slice hown
        injection hv with hA1 hA2 hcc
        subst hcc
        clear hA1 hA2
        have hj := Tryd.strings_Join g 0 cap (ps.map fun s => (⟨s.toArray⟩ : ByteArray)) ⟨#[44]⟩ wr (fun j x hx => by
          refine own_cell hown j _ ?_
          rw [List.getElem?_map] at hx ⊢
          obtain ⟨y, hy, rfl⟩ := Option.map_eq_some_iff.1 hx
          rw [hy]; rfl) hg (by rw [List.length_map]; omega) (by rw [List.length_map]; exact hcap) (by
          have := HJ.out.1
          rw [List.map_map, show ((fun x : ByteArray => x.data.toList) ∘ fun s : List UInt8 => (⟨s.toArray⟩ : ByteArray)) = id from rfl, List.map_id]
          exact Nat.le_trans this (by omega))
        rw [List.length_map, List.map_map, show ((fun x : ByteArray => x.data.toList) ∘ fun s : List UInt8 => (⟨s.toArray⟩ : ByteArray)) = id from rfl, List.map_id] at hj
        have HJ2 := Lib.hid hj
        clear hj
        obtain ⟨J, hJ⟩ : ∃ J, J = Lib.join ps [44] := ⟨_, rfl⟩
        have hJl : J.length ≤ 384 := by rw [hJ]; exact HJ.out.1
        have hno1 : (9223372036854775807 < 1 + J.length) = False := by simp; omega
        have hno2 : (9223372036854775807 < 1 + J.length + 1) = False := by simp; omega
        have HJ3 := Lib.hid hJ
        clear hJ
        go_wp2_with (go_at_call 37; refine HJ2.out.mono ?_; rintro e w' ⟨rfl, hbj⟩; rw [← HJ3.out])
        go_ret
        refine ⟨?_, hbw.trans (hbj.mono (Nat.le_trans hbB hbel.size))⟩
        rw [HTX.out, ← HJ3.out]
        exact congrArg (fun s => Ending.returned (.string s)) (str_braces J)
end Go.Proofs.YtfiobbhicicchaaDoor
