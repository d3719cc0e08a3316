/-
  nat.long, walked.
-/
import Derived.Test.YtgicgmaiolfpkaaLong4
namespace Go.Proofs.Ytgicgmaiolfpkaa
open Go.RowKit
set_option maxHeartbeats 1000000
set_option linter.unusedVariables false

/-- What the round of nat.long's loop computes, in plain words. -/
theorem long_round {X D n k g b : Nat} {cur quo win : List Nat} (h : Nt.LongAt X D n cur quo (k + 1)) (hk : k < quo.length) (hD : 0 < D)
    (hg : Nt.val ((cur.drop k).take (n + 1)) / D ≤ g) (hg2 : g ≤ Nt.val ((cur.drop k).take (n + 1)) / D + 1) (hg3 : g < 4294967296)
    (hwl : win.length = n + 1) (hwo : Nt.Ok win) (e : Nt.val win + g * D = Nt.val ((cur.drop k).take (n + 1)) + b * 4294967296 ^ (n + 1)) (hb : b ≤ 1) :
    (b = 0 → Nt.LongAt X D n (cur.take k ++ (win ++ cur.drop (k + (n + 1)))) (quo.set k g) k) ∧
    (b = 1 → 1 ≤ g ∧ ∀ (win2 : List Nat) (e' : Nat), win2.length = n + 1 → Nt.Ok win2 → Nt.val win2 + e' * 4294967296 ^ (n + 1) = Nt.val win + D → Nt.LongAt X D n (cur.take k ++ (win2 ++ cur.drop (k + (n + 1)))) (quo.set k (g - 1)) k) := by
  obtain ⟨w1, w2, w3, w4, w5, w6⟩ := h.window hk
  have hR := Nt.val_lt w2
  rw [w1] at hR
  have hV := Nt.val_lt hwo
  rw [hwl] at hV
  have hDp : D < 4294967296 ^ (n + 1) := by
    have := h.hi
    rw [Nat.pow_succ]
    omega
  obtain ⟨r0, r1⟩ := Nt.round_ok hg hg2 hD hR hV e hb hDp
  refine ⟨fun h0 => ?_, fun h1 => ?_⟩
  · obtain ⟨_, a2, a3⟩ := r0 h0
    exact h.step hk hwl hwo hg3 a2 a3
  · obtain ⟨a1, a2⟩ := r1 h1
    refine ⟨by rw [a1]; exact Nat.le_add_left _ _, fun win2 e' l2 o2 e2 => ?_⟩
    have hW := Nt.val_lt o2
    rw [l2] at hW
    obtain ⟨c1, c2⟩ := a2 _ e' hW e2
    exact h.step hk l2 o2 (by omega) c1 c2

theorem long_any : LongSaid := by
  intro A A' c c' B x y w hx hy hB hc hc' hm hm' hlx hly hyx
  have hy0 : y ≠ 0 := by
    intro h
    rw [h, Nt.digs_zero] at hly
    simp at hly
  obtain ⟨n, hnn⟩ : ∃ n, n = (Nt.digs y).length := ⟨_, rfl⟩
  obtain ⟨m, hmm⟩ : ∃ m, m = (Nt.digs x).length := ⟨_, rfl⟩
  have hnm : n ≤ m := by rw [hnn, hmm]; exact Nt.digs_len_le_of hyx
  rw [← hnn] at hc' hly ⊢
  rw [← hmm] at hc hlx ⊢
  obtain ⟨b2, o2, rfl, hb2, htop⟩ := hy.limb (k := n - 1) (by omega)
  have htne : (Nt.digs y)[n - 1]'(by omega) ≠ 0 := by
    have h := Nt.top_digs y (by intro h; rw [h] at hnn; simp at hnn; omega)
    rw [List.getLast_eq_getElem] at h
    simpa [← hnn] using h
  have htb := Nt.ok_get (Nt.ok_digs y) (i := n - 1) (by omega)
  obtain ⟨t, htt⟩ : ∃ t, t = (Nt.digs y)[n - 1]'(by omega) := ⟨_, rfl⟩
  rw [← htt] at htop htne htb
  obtain ⟨hL, hL1, hlo, hhi⟩ := Nt.shift_of htne htb
  obtain ⟨s, hss⟩ : ∃ s, s = 32 - Lib.bitLen t := ⟨_, rfl⟩
  rw [← hss] at hlo hhi
  have hs32 : s < 32 := by omega
  have LZ : Hid (∀ w, Calls Try.prog 35 #[.int .u32 (t : Int)] w fun e w' => e = .returned (.int .i64 (s : Int)) ∧ w = w') := Lib.hid (fun w => (Try.bits_LeadingZeros32 (t : Int) w (by omega) (by omega)).mono (by
    rintro e w' ⟨rfl, rfl⟩
    refine ⟨ret_int ?_, rfl⟩
    rw [Int.toNat_natCast, hss]; omega))
  have UB := Lib.hid (fun w' (hw : Below B w w') (hB' : B ≤ w'.heap.size) => up_any (some ⟨b2, o2, none⟩) c' B s (Nt.digs y) w' (hy.below hw) hB' (Nt.ok_digs y) (by omega) hm' (by omega) hs32)
  have UA := Lib.hid (fun w' (hw : Below B w w') (hB' : B ≤ w'.heap.size) => up_any A c B s (Nt.digs x) w' (hx.below hw) hB' (Nt.ok_digs x) (by omega) hm (by omega) hs32)
  rw [Nt.val_digs, ← hnn] at UB
  rw [Nt.val_digs, ← hmm] at UA
  have SC : Hid (∀ cur : List Nat, Nt.Ok cur → cur.length = n + 1 → Nt.val cur = y * 2 ^ s → y * 2 ^ s < 4294967296 ^ n ∧ Nt.val (cur.take n) = y * 2 ^ s ∧ Nt.Ok (cur.take n) ∧ (cur.take n).length = n ∧ ∀ h : n - 1 < (cur.take n).length, 2147483648 ≤ (cur.take n)[n - 1]) := Lib.hid (by
    obtain ⟨q, rfl⟩ : ∃ q, n = q + 1 := ⟨n - 1, by omega⟩
    intro cur ok hl hv
    exact Nt.div_scaled (y := y) (s := s) (m := q) (t := t) hnn.symm (by simpa using htt) (by omega) hlo hhi ok hl hv)
  have hxm : x < 4294967296 ^ m := by have := Nt.val_lt (Nt.ok_digs x); rwa [Nt.val_digs, ← hmm] at this
  have hyn : 4294967296 ^ (n - 1) ≤ y := by have := Nt.digs_ge hy0; rwa [← hnn] at this
  have ST : Hid (∀ cur : List Nat, Nt.Ok cur → Nt.val cur = x * 2 ^ s → cur.length = m + 1 → y * 2 ^ s < 4294967296 ^ n → Nt.LongAt (x * 2 ^ s) (y * 2 ^ s) n cur (List.replicate (m - n + 1) 0) (m - n + 1)) :=
    Lib.hid (fun cur ok hv hl hD => Nt.LongAt.start ok hv hl hnm (by omega) hxm hyn hD)
  have hD0 : Hid (0 < y * 2 ^ s) := Lib.hid (Nat.mul_pos (by omega) (Nat.two_pow_pos s))
  have HY0 : 0 < y := by omega
  obtain ⟨i0, hi, hz0, hz1, hz2⟩ := info_parts u32_info
  clear hx hy hnn hmm htt hss hlo hhi hL hL1 hxm hyn hy0
  go_enter Try.func26, Try.ntmps26
  go_wp2_with fail
  refine (LZ.out _).mono ?_
  rintro e w' ⟨rfl, rfl⟩
  go_wp2_with fail
  refine (UB.out w (Below.refl _ _) hB).mono ?_
  rintro e w1 ⟨cd, rfl, hblkd, HD, hb1⟩
  have hb1B : Below B w w1 := hb1.mono hB
  have hsz1 := hb1.size
  have hlt1 := hblkd.lt
  go_wp2_with fail
  refine (UA.out w1 hb1B (by omega)).mono ?_
  rintro e w2 ⟨cr, rfl, hblkr, HR, hb2'⟩
  have hsz2 := hb2'.size
  have hlt2 := hblkr.lt
  have hb02 : Below w.heap.size w w2 := hb1.trans (hb2'.mono hsz1)
  have hblkd2 := hblkd.keep hb2' hlt1
  clear hblkd hb2'
  go_wp2_with (at_make; refine wpList_make_blk _ rfl _ _ 22 rfl 32 i0 (.int .u32 0) Try.underlying22 hi hz0 hz1 rfl .i64 .i64 _ _ (m - n + 1) (m - n + 1) rfl rfl (by omega) (by omega) (Nat.le_refl _) (by rw [hz2]; omega) (by omega) w.heap.size w hb02 (by omega) ?_; intro w3 hblkq hb03 hb23 hlt3)
  have hblkr3 := hblkr.keep hb23 hlt2
  have hblkd3 := hblkd2.keep hb23 (by omega)
  have hblkq3 : Blk w3 w2.heap.size 32 (U (List.replicate (m - n + 1) 0)) := by simpa [U] using hblkq
  clear hblkr hblkd2 hblkq hb23
  obtain ⟨hDn, hvd, hod, hld, h31⟩ := SC.out cd HD.out.1 HD.out.2.1 HD.out.2.2
  have hS0 := Lib.hid (ST.out cr HR.out.1 HR.out.2.2 HR.out.2.1 hDn)
  have HHD := Lib.hid (And.intro hvd (And.intro hod (And.intro hld h31)))
  have HCD := Lib.hid HD.out.2.1
  clear HD HR SC ST UA UB LZ hDn hvd hod hld h31
  go_loopw [11, 12] (fun i gv wr => ∃ (k : Nat) (cur quo : List Nat), k ≤ m - n + 1 ∧ i = .int .i64 ((k : Int) - 1) ∧ Blk wr w1.heap.size 32 (U cur) ∧ Blk wr w2.heap.size 32 (U quo) ∧ Blk wr w.heap.size 32 (U cd) ∧ Below w.heap.size w wr ∧ Hid (quo.length = m - n + 1 ∧ Nt.LongAt (x * 2 ^ s) (y * 2 ^ s) n cur quo k)) (fun i _ _ => (intOf i + 1).toNat)
  case atStart => exact ⟨m - n + 1, cr, _, Nat.le_refl _, congrArg (Value.int .i64) (by omega), hblkr3, hblkq3, hblkd3, hb03, Lib.hid ⟨by simp, hS0.out⟩⟩
  case round =>
    clear hblkr3 hblkq3 hblkd3 hb03 hS0
    obtain ⟨k, cur, quo, hk, rfl, hbr, hbq, hbd, hbel, H⟩ := hrel
    rcases k with _ | k
    · obtain ⟨hql, HL⟩ := H.out
      obtain ⟨hdq, hdr⟩ := HL.done HY0
      have hcl : cur.length = m + 1 := by have := HL.len; rw [hql] at this; omega
      have hltq := hbq.lt
      have TR : Hid (∀ wx : World, Blk wx w2.heap.size 32 (U quo) → Calls Try.prog 24 #[.slice (some ⟨w2.heap.size, 0, none⟩) (m - n + 1) (m - n + 1)] wx fun e w' => e = .returned (.slice (some ⟨w2.heap.size, 0, none⟩) (Nt.digs (x / y)).length (Nt.digs (x / y)).length) ∧ wx = w') := Lib.hid (fun wx hbx => by
        have h := trim_any (some ⟨w2.heap.size, 0, none⟩) (m - n + 1) wx.heap.size quo wx hbx.lies HL.okq (by omega) (by omega)
        rw [hql, hdq] at h
        exact h)
      have hlr : Lies wr wr.heap.size (some ⟨w1.heap.size, 0, none⟩) (U (cur.take n)) := by rw [← U_take]; exact hbr.lies.take n
      have DN := down_any (some ⟨w1.heap.size, 0, none⟩) (m + 1) wr.heap.size s (cur.take n) wr.drew hlr (Nat.le_refl _) (Nt.ok_take HL.ok n) (by rw [List.length_take]; omega) (by omega) (by rw [List.length_take]; omega) hs32
      rw [hdr, List.length_take, hcl, Nat.min_eq_left (show n ≤ m + 1 by omega)] at DN
      have DNH := Lib.hid DN
      have HQI : Hid (∀ wx : World, Blk wx w2.heap.size 32 (U quo) → IsRes wx (.slice (some ⟨w2.heap.size, 0, none⟩) (Nt.digs (x / y)).length (Nt.digs (x / y)).length) (Nt.digs (x / y))) := Lib.hid (fun wx hbx => by
        have h := hbx.lies.digs HL.okq
        have h2 := Nt.digs_len_le HL.okq
        rw [hdq] at h h2
        rw [hql] at h2
        exact ⟨_, _, rfl, Nat.le_refl _, by omega, (fun h => by cases h), h⟩)
      have HBQ := Lib.hid hbq
      clear hql HL hdq hdr hcl hlr DN H hbr hbd hbq
      have hn1 : n ≤ m + 1 := by omega
      go_wp2_with fail
      go_region_with (first
        | (go_at_call 24; refine (TR.out _ (by first | exact HBQ.out | exact HBQ5.out)).mono ?_; rintro e w' ⟨rfl, rfl⟩)
        | (go_at_call 40; refine DNH.out.mono ?_; rintro e w5 ⟨vd, rfl, hres5, hb5⟩; have hbel5 : Below wr.heap.size wr w5 := ⟨hb5.os, hb5.tape, hb5.output, hb5.size, hb5.block⟩; clear hb5; have HBQ5 := Lib.hid (HBQ.out.keep hbel5 hltq)))
      all_goals
        go_wp2_with fail
        go_ret2
        exact ⟨_, _, rfl, HQI.out _ HBQ5.out, hres5, hbel.trans (hbel5.mono hbel.size)⟩
    · have hk1 : ((k + 1 : Nat) : Int) - 1 = (k : Int) := by omega
      rw [hk1]
      clear hk1
      have hkq : k < quo.length := by rw [H.out.1]; omega
      obtain ⟨v1, v2, v3, v4, v5, v6⟩ := H.out.2.window hkq
      have hcl : cur.length = m + 1 := by have := H.out.2.len; rw [H.out.1] at this; omega
      have hbr' : Blk wr w1.heap.size 32 (U (cur.take k ++ ((cur.drop k).take (n + 1) ++ cur.drop (k + (n + 1))))) := by rw [← v5]; exact hbr
      have hld : Lies wr w1.heap.size (some ⟨w.heap.size, 0, none⟩) (U (cd.take n)) := by
        rw [← U_take]
        refine Lies.take ?_ n
        refine .inr ⟨w.heap.size, 0, rfl, by omega, fun i v hv => ?_⟩
        rw [Nat.zero_add]; exact hbd.cell hv
      have ES := Lib.hid (estimate_at w1.heap.size (m + 1 - k) (n + 1) k n (some ⟨w.heap.size, 0, none⟩) (cur.take k) ((cur.drop k).take (n + 1)) (cur.drop (k + (n + 1))) (cd.take n) wr hbr' v6 hld v2 HHD.out.2.1 v1 HHD.out.2.2.1 hly (by omega) HHD.out.2.2.2 (by rw [HHD.out.1]; exact v3) (by omega) (by omega))
      have TK := Lib.hid (fun (g j : Nat) (hg : g < 4294967296) => takeOff_at w1.heap.size (m + 1 - k) (n + 1) g k n (some ⟨w.heap.size, 0, none⟩) (cur.take k) ((cur.drop k).take (n + 1)) (cur.drop (k + (n + 1))) (cd.take n) (wr.drewN j) hbr' v6 hld v2 HHD.out.2.1 v1 HHD.out.2.2.1 (by omega) (by omega) (by omega) (by omega) hg (by omega))
      have LR := Lib.hid (fun g b win => long_round (g := g) (b := b) (win := win) H.out.2 hkq hD0.out)
      rw [HHD.out.1] at ES TK
      have V6 := Lib.hid v6
      have HQL := Lib.hid H.out.1
      have hkm : k + n < m + 1 := by omega
      have hkc : k < m + 1 := by omega
      clear v1 v2 v3 v4 v5 v6 hcl hbr' hbr H
      generalize Nt.val ((cur.drop k).take (n + 1)) = R at *
      have hwl : k + n + 1 - k = n + 1 := by omega
      go_wp2_with fail
      refine ES.out.mono ?_
      rintro e w' ⟨g, rfl, HG, hg3, j, rfl⟩
      have TKg := Lib.hid (TK.out g j hg3)
      clear TK ES
      go_wp2_with fail
      refine TKg.out.mono ?_
      rintro e w4 ⟨win, b, rfl, hb1, hbr4, HW, hgr4⟩
      have hgr : wr.grownBy w4 (some w1.heap.size) := ⟨hgr4.os, hgr4.tape, hgr4.output, hgr4.size, hgr4.block⟩
      have hbq4 := hbq.grown hgr (by intro h; injection h with h; omega)
      have hbd4 := hbd.grown hgr (by intro h; injection h with h; omega)
      have hbel4 : Below w.heap.size w w4 := hbel.grown hgr hbel.size (fun k hk => by injection hk with hk; omega)
      have hR := LR.out g b win HG.out.1 HG.out.2 hg3 HW.out.1 HW.out.2.1 HW.out.2.2 hb1
      have hsz4 := hbel4.size
      have hltq := hbq4.lt
      clear hgr hgr4 hbq hbd hbel TKg LR
      rcases (show b = 0 ∨ b = 1 by omega) with rfl | rfl
      · have HN := Lib.hid (hR.1 rfl)
        clear hR
        have hcell : w4.cell? ⟨w2.heap.size, k, none⟩ = some (.int .u32 ((quo[k] : Nat) : Int)) := hbq4.cell (by rw [U, List.getElem?_map, List.getElem?_eq_getElem (by omega)]; rfl)
        have hfz := hbq4.frozen k
        generalize quo[k] = o at hcell
        have BS : Hid (Blk (w4.setCell ⟨w2.heap.size, k, none⟩ (.int .u32 (g : Int))) w2.heap.size 32 (U (quo.set k g))) := Lib.hid (by
          have := hbq4.set_ k (.int .u32 (g : Int))
          rw [show (U quo).set k (.int .u32 (g : Int)) = U (quo.set k g) from List.map_set.symm] at this
          exact this)
        have BR := Lib.hid (hbr4.far (p := ⟨w2.heap.size, k, none⟩) (by show w1.heap.size ≠ w2.heap.size; omega) (.int .u32 (g : Int)))
        have BD := Lib.hid (hbd4.far (p := ⟨w2.heap.size, k, none⟩) (by show w.heap.size ≠ w2.heap.size; omega) (.int .u32 (g : Int)))
        clear hbr4 hbd4 hbq4
        rw [show decide ((0 : Nat) = 1) = false from rfl]
        go_wp2_with fail
        refine ⟨⟨k, _, _, by omega, by go_num, BR.out, BS.out, BD.out, hbel4.setCell (by show w.heap.size ≤ w2.heap.size; omega) _, Lib.hid ⟨by rw [List.length_set]; exact HQL.out, HN.out⟩⟩, by simp [intOf]; try omega⟩
      · obtain ⟨hg1, hN⟩ := hR.2 rfl
        have HN := Lib.hid hN
        clear hR hN
        have hld4 : Lies w4 w1.heap.size (some ⟨w.heap.size, 0, none⟩) (U (cd.take n)) := by
          rw [← U_take]
          refine Lies.take ?_ n
          refine .inr ⟨w.heap.size, 0, rfl, by omega, fun i v hv => ?_⟩
          rw [Nat.zero_add]; exact hbd4.cell hv
        have PB := Lib.hid (putBack_at w1.heap.size (m + 1 - k) (n + 1) k n (some ⟨w.heap.size, 0, none⟩) (cur.take k) win (cur.drop (k + (n + 1))) (cd.take n) w4 hbr4 V6.out hld4 HW.out.2.1 HHD.out.2.1 HW.out.1 HHD.out.2.2.1 (by omega) (by omega) (by omega) (by omega) (by omega))
        rw [HHD.out.1] at PB
        clear hbr4 hld4
        rw [show decide ((1 : Nat) = 1) = true from rfl]
        go_wp2_with fail
        refine PB.out.mono ?_
        rintro e w5 ⟨win2, b', rfl, hbr5, HW2, hgr⟩
        have hbq5 := hbq4.grown hgr (by intro h; injection h with h; omega)
        have hbd5 := hbd4.grown hgr (by intro h; injection h with h; omega)
        have hbel5 : Below w.heap.size w w5 := hbel4.grown hgr hbel4.size (fun k hk => by injection hk with hk; omega)
        have hsz5 := hbel5.size
        have hltq5 := hbq5.lt
        clear hgr hbq4 hbd4 hbel4 PB
        have HN2 := Lib.hid (HN.out win2 b' HW2.out.1 HW2.out.2.1 HW2.out.2.2)
        have hcell : w5.cell? ⟨w2.heap.size, k, none⟩ = some (.int .u32 ((quo[k] : Nat) : Int)) := hbq5.cell (by rw [U, List.getElem?_map, List.getElem?_eq_getElem (by omega)]; rfl)
        have hfz := hbq5.frozen k
        generalize quo[k] = o at hcell
        have BS : Hid (Blk (w5.setCell ⟨w2.heap.size, k, none⟩ (.int .u32 ((g - 1 : Nat) : Int))) w2.heap.size 32 (U (quo.set k (g - 1)))) := Lib.hid (by
          have := hbq5.set_ k (.int .u32 ((g - 1 : Nat) : Int))
          rw [show (U quo).set k (.int .u32 ((g - 1 : Nat) : Int)) = U (quo.set k (g - 1)) from List.map_set.symm] at this
          exact this)
        have BR := Lib.hid (hbr5.far (p := ⟨w2.heap.size, k, none⟩) (by show w1.heap.size ≠ w2.heap.size; omega) (.int .u32 ((g - 1 : Nat) : Int)))
        have BD := Lib.hid (hbd5.far (p := ⟨w2.heap.size, k, none⟩) (by show w.heap.size ≠ w2.heap.size; omega) (.int .u32 ((g - 1 : Nat) : Int)))
        have e1 : ((g - 1 : Nat) : Int) = (g : Int) - 1 := by omega
        rw [e1] at BS BR BD
        clear hbr5 hbd5 hbq5 e1
        go_wp2_with fail
        refine ⟨⟨k, _, _, by omega, by go_num, BR.out, BS.out, BD.out, hbel5.setCell (by show w.heap.size ≤ w2.heap.size; omega) _, Lib.hid ⟨by rw [List.length_set]; exact HQL.out, HN2.out⟩⟩, by simp [intOf]; try omega⟩
end Go.Proofs.Ytgicgmaiolfpkaa
