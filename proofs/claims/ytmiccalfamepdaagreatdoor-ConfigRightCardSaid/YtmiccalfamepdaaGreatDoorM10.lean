/-
  Texts of this proof, joined (by wip/bin/bundle.py): Long4, Long5, NatRes, Gcd1, RatR, Cfg2, Cfg3.
-/
import Derived.Test.YtmiccalfamepdaaGreatDoorM9
import Derived.Deep.RegionWith
import Derived.Deep.LoopGhost
/-
  What nat.long computes: a number divided by one of two limbs or more.
-/
namespace Go.Proofs.YtmiccalfamepdaaGreatDoor
open Go.RowKit
set_option maxHeartbeats 1000000
set_option maxRecDepth 100000
set_option linter.unusedVariables false

theorem U_append (a b : List Nat) : U (a ++ b) = U a ++ U b := by simp [U]

/-- takeOff at a window of limbs. -/
theorem takeOff_at (G c c' T j n : Nat) (A' : Option Addr) (P a Q d : List Nat) (w : World) (hblk : Blk w G 139 (U (P ++ (a ++ Q)))) (hP : P.length = j) (hy : Lies w G A' (U d)) (ha : Nt.Ok a) (hd : Nt.Ok d) (hla : a.length = n + 1) (hld : d.length = n) (hc : n + 1 ≤ c) (hc' : n ≤ c') (hm : c ≤ 9223372036854775807) (hm' : c' ≤ 9223372036854775807) (hT : T < 4294967296) (hs : n ≤ 1000000) :
    Calls Tryz.prog 221 #[.slice (some ⟨G, j, none⟩) (n + 1) c, .slice A' n c', .int .u64 (T : Int)] w fun e w' => ∃ (win : List Nat) (b : Nat), e = .returned (.bool (decide (b = 1))) ∧ b ≤ 1 ∧ Blk w' G 139 (U (P ++ (win ++ Q))) ∧ Hid (win.length = n + 1 ∧ Nt.Ok win ∧ Nt.val win + T * Nt.val d = Nt.val a + b * 4294967296 ^ (n + 1)) ∧ w.grownBy w' (some G) := by
  subst hld
  subst hP
  rw [U_append, U_append] at hblk
  have h := takeOff_any G c c' T A' (U P) (U Q) a d w hblk hy ha hd hla hc hc' hm hm' hT hs
  rw [U_len] at h
  refine h.mono ?_
  rintro e w' ⟨win, b, he, hb, hblk', H, hg⟩
  refine ⟨win, b, he, hb, by rw [U_append, U_append]; exact hblk', Lib.hid ⟨by rw [H.out.1, hla], H.out.2.1, H.out.2.2⟩, hg⟩
theorem putBack_at (G c c' j n : Nat) (A' : Option Addr) (P a Q d : List Nat) (w : World) (hblk : Blk w G 139 (U (P ++ (a ++ Q)))) (hP : P.length = j) (hy : Lies w G A' (U d)) (ha : Nt.Ok a) (hd : Nt.Ok d) (hla : a.length = n + 1) (hld : d.length = n) (hc : n + 1 ≤ c) (hc' : n ≤ c') (hm : c ≤ 9223372036854775807) (hm' : c' ≤ 9223372036854775807) (hs : n ≤ 1000000) :
    Calls Tryz.prog 222 #[.slice (some ⟨G, j, none⟩) (n + 1) c, .slice A' n c'] w fun e w' => ∃ (win : List Nat) (b : Nat), e = .returned (.tuple #[]) ∧ Blk w' G 139 (U (P ++ (win ++ Q))) ∧ Hid (win.length = n + 1 ∧ Nt.Ok win ∧ Nt.val win + b * 4294967296 ^ (n + 1) = Nt.val a + Nt.val d) ∧ w.grownBy w' (some G) := by
  subst hld
  subst hP
  rw [U_append, U_append] at hblk
  have h := putBack_any G c c' A' (U P) (U Q) a d w hblk hy ha hd hla hc hc' hm hm' hs
  rw [U_len] at h
  refine h.mono ?_
  rintro e w' ⟨win, b, he, hblk', H, hg⟩
  refine ⟨win, b, he, by rw [U_append, U_append]; exact hblk', Lib.hid ⟨by rw [H.out.1, hla], H.out.2.1, H.out.2.2⟩, hg⟩
/-- estimate at a window of limbs. -/
theorem estimate_at (G c c' j n : Nat) (A' : Option Addr) (P a Q d : List Nat) (w : World) (hblk : Blk w G 139 (U (P ++ (a ++ Q)))) (hP : P.length = j) (hy : Lies w G A' (U d)) (ha : Nt.Ok a) (hd : Nt.Ok d) (hla : a.length = n + 1) (hld : d.length = n) (hn : 2 ≤ n) (hs : n ≤ 1000000)
    (h31 : ∀ h : n - 1 < d.length, 2147483648 ≤ d[n - 1]) (hlt : Nt.val a < 4294967296 * Nt.val d) (hc : n + 1 ≤ c) (hc' : n ≤ c') :
    Calls Tryz.prog 220 #[.slice (some ⟨G, j, none⟩) (n + 1) c, .slice A' n c'] w fun e w' => ∃ g : Nat, e = .returned (.int .u64 (g : Int)) ∧ Hid (Nt.val a / Nt.val d ≤ g ∧ g ≤ Nt.val a / Nt.val d + 1) ∧ g < 4294967296 ∧ ∃ k, w' = w.drewN k := by
  have hg := hblk.lt
  refine estimate_any (some ⟨G, j, none⟩) A' c c' w.heap.size n a d w ?_ (hy.more (by omega)) ha hd hla hld hn hs h31 hlt hc hc'
  refine .inr ⟨G, j, rfl, hg, fun i v hv => ?_⟩
  rw [U_append, U_append] at hblk
  refine hblk.cell ?_
  rw [List.getElem?_append_right (by rw [U_len]; omega), U_len, hP, Nat.add_sub_cancel_left, List.getElem?_append_left]
  · exact hv
  · rcases Nat.lt_or_ge i (U a).length with h | h
    · exact h
    · rw [List.getElem?_eq_none h] at hv; cases hv
end Go.Proofs.YtmiccalfamepdaaGreatDoor

/-
  nat.long, walked.
-/
namespace Go.Proofs.YtmiccalfamepdaaGreatDoor
open Go.RowKit
set_option maxHeartbeats 1000000
set_option maxRecDepth 100000
set_option linter.unusedVariables false

/-- What the round of nat.long's loop computes, in plain words. -/
theorem long_round {X D n k g b : Nat} {cur quo win : List Nat} (h : Nt.LongAt X D n cur quo (k + 1)) (hk : k < quo.length) (hD : 0 < D)
    (hg : Nt.val ((cur.drop k).take (n + 1)) / D ≤ g) (hg2 : g ≤ Nt.val ((cur.drop k).take (n + 1)) / D + 1) (hg3 : g < 4294967296)
    (hwl : win.length = n + 1) (hwo : Nt.Ok win) (e : Nt.val win + g * D = Nt.val ((cur.drop k).take (n + 1)) + b * 4294967296 ^ (n + 1)) (hb : b ≤ 1) :
    (b = 0 → Nt.LongAt X D n (cur.take k ++ (win ++ cur.drop (k + (n + 1)))) (quo.set k g) k) ∧
    (b = 1 → 1 ≤ g ∧ ∀ (win2 : List Nat) (e' : Nat), win2.length = n + 1 → Nt.Ok win2 → Nt.val win2 + e' * 4294967296 ^ (n + 1) = Nt.val win + D → Nt.LongAt X D n (cur.take k ++ (win2 ++ cur.drop (k + (n + 1)))) (quo.set k (g - 1)) k) := by
  obtain ⟨w1, w2, w3, w4, w5, w6⟩ := h.window hk
  have hR := Nt.val_lt w2
  rw [w1] at hR
  have hV := Nt.val_lt hwo
  rw [hwl] at hV
  have hDp : D < 4294967296 ^ (n + 1) := by
    have := h.hi
    rw [Nat.pow_succ]
    omega
  obtain ⟨r0, r1⟩ := Nt.round_ok hg hg2 hD hR hV e hb hDp
  refine ⟨fun h0 => ?_, fun h1 => ?_⟩
  · obtain ⟨_, a2, a3⟩ := r0 h0
    exact h.step hk hwl hwo hg3 a2 a3
  · obtain ⟨a1, a2⟩ := r1 h1
    refine ⟨by rw [a1]; exact Nat.le_add_left _ _, fun win2 e' l2 o2 e2 => ?_⟩
    have hW := Nt.val_lt o2
    rw [l2] at hW
    obtain ⟨c1, c2⟩ := a2 _ e' hW e2
    exact h.step hk l2 o2 (by omega) c1 c2

theorem long_any : LongSaid := by
  intro A A' c c' B x y w hx hy hB hc hc' hm hm' hlx hly hyx
  have hy0 : y ≠ 0 := by
    intro h
    rw [h, Nt.digs_zero] at hly
    simp at hly
  obtain ⟨n, hnn⟩ : ∃ n, n = (Nt.digs y).length := ⟨_, rfl⟩
  obtain ⟨m, hmm⟩ : ∃ m, m = (Nt.digs x).length := ⟨_, rfl⟩
  have hnm : n ≤ m := by rw [hnn, hmm]; exact Nt.digs_len_le_of hyx
  rw [← hnn] at hc' hly ⊢
  rw [← hmm] at hc hlx ⊢
  obtain ⟨b2, o2, rfl, hb2, htop⟩ := hy.limb (k := n - 1) (by omega)
  have htne : (Nt.digs y)[n - 1]'(by omega) ≠ 0 := by
    have h := Nt.top_digs y (by intro h; rw [h] at hnn; simp at hnn; omega)
    rw [List.getLast_eq_getElem] at h
    simpa [← hnn] using h
  have htb := Nt.ok_get (Nt.ok_digs y) (i := n - 1) (by omega)
  obtain ⟨t, htt⟩ : ∃ t, t = (Nt.digs y)[n - 1]'(by omega) := ⟨_, rfl⟩
  rw [← htt] at htop htne htb
  obtain ⟨hL, hL1, hlo, hhi⟩ := Nt.shift_of htne htb
  obtain ⟨s, hss⟩ : ∃ s, s = 32 - Lib.bitLen t := ⟨_, rfl⟩
  rw [← hss] at hlo hhi
  have hs32 : s < 32 := by omega
  have LZ : Hid (∀ w, Calls Tryz.prog 218 #[.int .u32 (t : Int)] w fun e w' => e = .returned (.int .i64 (s : Int)) ∧ w = w') := Lib.hid (fun w => (Tryz.bits_LeadingZeros32 (t : Int) w (by omega) (by omega)).mono (by
    rintro e w' ⟨rfl, rfl⟩
    refine ⟨ret_int ?_, rfl⟩
    rw [Int.toNat_natCast, hss]; omega))
  have UB := Lib.hid (fun w' (hw : Below B w w') (hB' : B ≤ w'.heap.size) => up_any (some ⟨b2, o2, none⟩) c' B s (Nt.digs y) w' (hy.below hw) hB' (Nt.ok_digs y) (by omega) hm' (by omega) hs32)
  have UA := Lib.hid (fun w' (hw : Below B w w') (hB' : B ≤ w'.heap.size) => up_any A c B s (Nt.digs x) w' (hx.below hw) hB' (Nt.ok_digs x) (by omega) hm (by omega) hs32)
  rw [Nt.val_digs, ← hnn] at UB
  rw [Nt.val_digs, ← hmm] at UA
  have SC : Hid (∀ cur : List Nat, Nt.Ok cur → cur.length = n + 1 → Nt.val cur = y * 2 ^ s → y * 2 ^ s < 4294967296 ^ n ∧ Nt.val (cur.take n) = y * 2 ^ s ∧ Nt.Ok (cur.take n) ∧ (cur.take n).length = n ∧ ∀ h : n - 1 < (cur.take n).length, 2147483648 ≤ (cur.take n)[n - 1]) := Lib.hid (by
    obtain ⟨q, rfl⟩ : ∃ q, n = q + 1 := ⟨n - 1, by omega⟩
    intro cur ok hl hv
    exact Nt.div_scaled (y := y) (s := s) (m := q) (t := t) hnn.symm (by simpa using htt) (by omega) hlo hhi ok hl hv)
  have hxm : x < 4294967296 ^ m := by have := Nt.val_lt (Nt.ok_digs x); rwa [Nt.val_digs, ← hmm] at this
  have hyn : 4294967296 ^ (n - 1) ≤ y := by have := Nt.digs_ge hy0; rwa [← hnn] at this
  have ST : Hid (∀ cur : List Nat, Nt.Ok cur → Nt.val cur = x * 2 ^ s → cur.length = m + 1 → y * 2 ^ s < 4294967296 ^ n → Nt.LongAt (x * 2 ^ s) (y * 2 ^ s) n cur (List.replicate (m - n + 1) 0) (m - n + 1)) :=
    Lib.hid (fun cur ok hv hl hD => Nt.LongAt.start ok hv hl hnm (by omega) hxm hyn hD)
  have hD0 : Hid (0 < y * 2 ^ s) := Lib.hid (Nat.mul_pos (by omega) (Nat.two_pow_pos s))
  have HY0 : 0 < y := by omega
  obtain ⟨i0, hi, hz0, hz1, hz2⟩ := info_parts u32_info
  clear hx hy hnn hmm htt hss hlo hhi hL hL1 hxm hyn hy0
  go_enter Tryz.func202, Tryz.ntmps202
  go_wp2_with fail
  refine (LZ.out _).mono ?_
  rintro e w' ⟨rfl, rfl⟩
  go_wp2_with fail
  refine (UB.out w (Below.refl _ _) hB).mono ?_
  rintro e w1 ⟨cd, rfl, hblkd, HD, hb1⟩
  have hb1B : Below B w w1 := hb1.mono hB
  have hsz1 := hb1.size
  have hlt1 := hblkd.lt
  go_wp2_with fail
  refine (UA.out w1 hb1B (by omega)).mono ?_
  rintro e w2 ⟨cr, rfl, hblkr, HR, hb2'⟩
  have hsz2 := hb2'.size
  have hlt2 := hblkr.lt
  have hb02 : Below w.heap.size w w2 := hb1.trans (hb2'.mono hsz1)
  have hblkd2 := hblkd.keep hb2' hlt1
  clear hblkd hb2'
  go_wp2_with (at_make; refine wpList_make_blk _ rfl _ _ 81 rfl 139 i0 (.int .u32 0) Tryz.underlying81 hi hz0 hz1 rfl .i64 .i64 _ _ (m - n + 1) (m - n + 1) rfl rfl (by omega) (by omega) (Nat.le_refl _) (by rw [hz2]; omega) (by omega) w.heap.size w hb02 (by omega) ?_; intro w3 hblkq hb03 hb23 hlt3)
  have hblkr3 := hblkr.keep hb23 hlt2
  have hblkd3 := hblkd2.keep hb23 (by omega)
  have hblkq3 : Blk w3 w2.heap.size 139 (U (List.replicate (m - n + 1) 0)) := by simpa [U] using hblkq
  clear hblkr hblkd2 hblkq hb23
  obtain ⟨hDn, hvd, hod, hld, h31⟩ := SC.out cd HD.out.1 HD.out.2.1 HD.out.2.2
  have hS0 := Lib.hid (ST.out cr HR.out.1 HR.out.2.2 HR.out.2.1 hDn)
  have HHD := Lib.hid (And.intro hvd (And.intro hod (And.intro hld h31)))
  have HCD := Lib.hid HD.out.2.1
  clear HD HR SC ST UA UB LZ hDn hvd hod hld h31
  go_loopw [11, 12] (fun i gv wr => ∃ (k : Nat) (cur quo : List Nat), k ≤ m - n + 1 ∧ i = .int .i64 ((k : Int) - 1) ∧ Blk wr w1.heap.size 139 (U cur) ∧ Blk wr w2.heap.size 139 (U quo) ∧ Blk wr w.heap.size 139 (U cd) ∧ Below w.heap.size w wr ∧ Hid (quo.length = m - n + 1 ∧ Nt.LongAt (x * 2 ^ s) (y * 2 ^ s) n cur quo k)) (fun i _ _ => (intOf i + 1).toNat)
  case atStart => exact ⟨m - n + 1, cr, _, Nat.le_refl _, congrArg (Value.int .i64) (by omega), hblkr3, hblkq3, hblkd3, hb03, Lib.hid ⟨by simp, hS0.out⟩⟩
  case round =>
    clear hblkr3 hblkq3 hblkd3 hb03 hS0
    obtain ⟨k, cur, quo, hk, rfl, hbr, hbq, hbd, hbel, H⟩ := hrel
    rcases k with _ | k
    · obtain ⟨hql, HL⟩ := H.out
      obtain ⟨hdq, hdr⟩ := HL.done HY0
      have hcl : cur.length = m + 1 := by have := HL.len; rw [hql] at this; omega
      have hltq := hbq.lt
      have TR : Hid (∀ wx : World, Blk wx w2.heap.size 139 (U quo) → Calls Tryz.prog 147 #[.slice (some ⟨w2.heap.size, 0, none⟩) (m - n + 1) (m - n + 1)] wx fun e w' => e = .returned (.slice (some ⟨w2.heap.size, 0, none⟩) (Nt.digs (x / y)).length (Nt.digs (x / y)).length) ∧ wx = w') := Lib.hid (fun wx hbx => by
        have h := trim_any (some ⟨w2.heap.size, 0, none⟩) (m - n + 1) wx.heap.size quo wx hbx.lies HL.okq (by omega) (by omega)
        rw [hql, hdq] at h
        exact h)
      have hlr : Lies wr wr.heap.size (some ⟨w1.heap.size, 0, none⟩) (U (cur.take n)) := by rw [← U_take]; exact hbr.lies.take n
      have DN := down_any (some ⟨w1.heap.size, 0, none⟩) (m + 1) wr.heap.size s (cur.take n) wr.drew hlr (Nat.le_refl _) (Nt.ok_take HL.ok n) (by rw [List.length_take]; omega) (by omega) (by rw [List.length_take]; omega) hs32
      rw [hdr, List.length_take, hcl, Nat.min_eq_left (show n ≤ m + 1 by omega)] at DN
      have DNH := Lib.hid DN
      have HQI : Hid (∀ wx : World, Blk wx w2.heap.size 139 (U quo) → IsRes wx (.slice (some ⟨w2.heap.size, 0, none⟩) (Nt.digs (x / y)).length (Nt.digs (x / y)).length) (Nt.digs (x / y))) := Lib.hid (fun wx hbx => by
        have h := hbx.lies.digs HL.okq
        have h2 := Nt.digs_len_le HL.okq
        rw [hdq] at h h2
        rw [hql] at h2
        exact ⟨_, _, rfl, Nat.le_refl _, by omega, (fun h => by cases h), h⟩)
      have HBQ := Lib.hid hbq
      clear hql HL hdq hdr hcl hlr DN H hbr hbd hbq
      have hn1 : n ≤ m + 1 := by omega
      go_wp2_with fail
      go_region_with (first
        | (go_at_call 147; refine (TR.out _ (by first | exact HBQ.out | exact HBQ5.out)).mono ?_; rintro e w' ⟨rfl, rfl⟩)
        | (go_at_call 223; refine DNH.out.mono ?_; rintro e w5 ⟨vd, rfl, hres5, hb5⟩; have hbel5 : Below wr.heap.size wr w5 := ⟨hb5.os, hb5.tape, hb5.output, hb5.size, hb5.block⟩; clear hb5; have HBQ5 := Lib.hid (HBQ.out.keep hbel5 hltq)))
      all_goals
        go_wp2_with fail
        go_ret2
        exact ⟨_, _, rfl, HQI.out _ HBQ5.out, hres5, hbel.trans (hbel5.mono hbel.size)⟩
    · have hk1 : ((k + 1 : Nat) : Int) - 1 = (k : Int) := by omega
      rw [hk1]
      clear hk1
      have hkq : k < quo.length := by rw [H.out.1]; omega
      obtain ⟨v1, v2, v3, v4, v5, v6⟩ := H.out.2.window hkq
      have hcl : cur.length = m + 1 := by have := H.out.2.len; rw [H.out.1] at this; omega
      have hbr' : Blk wr w1.heap.size 139 (U (cur.take k ++ ((cur.drop k).take (n + 1) ++ cur.drop (k + (n + 1))))) := by rw [← v5]; exact hbr
      have hld : Lies wr w1.heap.size (some ⟨w.heap.size, 0, none⟩) (U (cd.take n)) := by
        rw [← U_take]
        refine Lies.take ?_ n
        refine .inr ⟨w.heap.size, 0, rfl, by omega, fun i v hv => ?_⟩
        rw [Nat.zero_add]; exact hbd.cell hv
      have ES := Lib.hid (estimate_at w1.heap.size (m + 1 - k) (n + 1) k n (some ⟨w.heap.size, 0, none⟩) (cur.take k) ((cur.drop k).take (n + 1)) (cur.drop (k + (n + 1))) (cd.take n) wr hbr' v6 hld v2 HHD.out.2.1 v1 HHD.out.2.2.1 hly (by omega) HHD.out.2.2.2 (by rw [HHD.out.1]; exact v3) (by omega) (by omega))
      have TK := Lib.hid (fun (g j : Nat) (hg : g < 4294967296) => takeOff_at w1.heap.size (m + 1 - k) (n + 1) g k n (some ⟨w.heap.size, 0, none⟩) (cur.take k) ((cur.drop k).take (n + 1)) (cur.drop (k + (n + 1))) (cd.take n) (wr.drewN j) hbr' v6 hld v2 HHD.out.2.1 v1 HHD.out.2.2.1 (by omega) (by omega) (by omega) (by omega) hg (by omega))
      have LR := Lib.hid (fun g b win => long_round (g := g) (b := b) (win := win) H.out.2 hkq hD0.out)
      rw [HHD.out.1] at ES TK
      have V6 := Lib.hid v6
      have HQL := Lib.hid H.out.1
      have hkm : k + n < m + 1 := by omega
      have hkc : k < m + 1 := by omega
      clear v1 v2 v3 v4 v5 v6 hcl hbr' hbr H
      generalize Nt.val ((cur.drop k).take (n + 1)) = R at *
      have hwl : k + n + 1 - k = n + 1 := by omega
      go_wp2_with fail
      refine ES.out.mono ?_
      rintro e w' ⟨g, rfl, HG, hg3, j, rfl⟩
      have TKg := Lib.hid (TK.out g j hg3)
      clear TK ES
      go_wp2_with fail
      refine TKg.out.mono ?_
      rintro e w4 ⟨win, b, rfl, hb1, hbr4, HW, hgr4⟩
      have hgr : wr.grownBy w4 (some w1.heap.size) := ⟨hgr4.os, hgr4.tape, hgr4.output, hgr4.size, hgr4.block⟩
      have hbq4 := hbq.grown hgr (by intro h; injection h with h; omega)
      have hbd4 := hbd.grown hgr (by intro h; injection h with h; omega)
      have hbel4 : Below w.heap.size w w4 := hbel.grown hgr hbel.size (fun k hk => by injection hk with hk; omega)
      have hR := LR.out g b win HG.out.1 HG.out.2 hg3 HW.out.1 HW.out.2.1 HW.out.2.2 hb1
      have hsz4 := hbel4.size
      have hltq := hbq4.lt
      clear hgr hgr4 hbq hbd hbel TKg LR
      rcases (show b = 0 ∨ b = 1 by omega) with rfl | rfl
      · have HN := Lib.hid (hR.1 rfl)
        clear hR
        have hcell : w4.cell? ⟨w2.heap.size, k, none⟩ = some (.int .u32 ((quo[k] : Nat) : Int)) := hbq4.cell (by rw [U, List.getElem?_map, List.getElem?_eq_getElem (by omega)]; rfl)
        have hfz := hbq4.frozen k
        generalize quo[k] = o at hcell
        have BS : Hid (Blk (w4.setCell ⟨w2.heap.size, k, none⟩ (.int .u32 (g : Int))) w2.heap.size 139 (U (quo.set k g))) := Lib.hid (by
          have := hbq4.set_ k (.int .u32 (g : Int))
          rw [show (U quo).set k (.int .u32 (g : Int)) = U (quo.set k g) from List.map_set.symm] at this
          exact this)
        have BR := Lib.hid (hbr4.far (p := ⟨w2.heap.size, k, none⟩) (by show w1.heap.size ≠ w2.heap.size; omega) (.int .u32 (g : Int)))
        have BD := Lib.hid (hbd4.far (p := ⟨w2.heap.size, k, none⟩) (by show w.heap.size ≠ w2.heap.size; omega) (.int .u32 (g : Int)))
        clear hbr4 hbd4 hbq4
        rw [show decide ((0 : Nat) = 1) = false from rfl]
        go_wp2_with fail
        refine ⟨⟨k, _, _, by omega, by go_num, BR.out, BS.out, BD.out, hbel4.setCell (by show w.heap.size ≤ w2.heap.size; omega) _, Lib.hid ⟨by rw [List.length_set]; exact HQL.out, HN.out⟩⟩, by simp [intOf]; try omega⟩
      · obtain ⟨hg1, hN⟩ := hR.2 rfl
        have HN := Lib.hid hN
        clear hR hN
        have hld4 : Lies w4 w1.heap.size (some ⟨w.heap.size, 0, none⟩) (U (cd.take n)) := by
          rw [← U_take]
          refine Lies.take ?_ n
          refine .inr ⟨w.heap.size, 0, rfl, by omega, fun i v hv => ?_⟩
          rw [Nat.zero_add]; exact hbd4.cell hv
        have PB := Lib.hid (putBack_at w1.heap.size (m + 1 - k) (n + 1) k n (some ⟨w.heap.size, 0, none⟩) (cur.take k) win (cur.drop (k + (n + 1))) (cd.take n) w4 hbr4 V6.out hld4 HW.out.2.1 HHD.out.2.1 HW.out.1 HHD.out.2.2.1 (by omega) (by omega) (by omega) (by omega) (by omega))
        rw [HHD.out.1] at PB
        clear hbr4 hld4
        rw [show decide ((1 : Nat) = 1) = true from rfl]
        go_wp2_with fail
        refine PB.out.mono ?_
        rintro e w5 ⟨win2, b', rfl, hbr5, HW2, hgr⟩
        have hbq5 := hbq4.grown hgr (by intro h; injection h with h; omega)
        have hbd5 := hbd4.grown hgr (by intro h; injection h with h; omega)
        have hbel5 : Below w.heap.size w w5 := hbel4.grown hgr hbel4.size (fun k hk => by injection hk with hk; omega)
        have hsz5 := hbel5.size
        have hltq5 := hbq5.lt
        clear hgr hbq4 hbd4 hbel4 PB
        have HN2 := Lib.hid (HN.out win2 b' HW2.out.1 HW2.out.2.1 HW2.out.2.2)
        have hcell : w5.cell? ⟨w2.heap.size, k, none⟩ = some (.int .u32 ((quo[k] : Nat) : Int)) := hbq5.cell (by rw [U, List.getElem?_map, List.getElem?_eq_getElem (by omega)]; rfl)
        have hfz := hbq5.frozen k
        generalize quo[k] = o at hcell
        have BS : Hid (Blk (w5.setCell ⟨w2.heap.size, k, none⟩ (.int .u32 ((g - 1 : Nat) : Int))) w2.heap.size 139 (U (quo.set k (g - 1)))) := Lib.hid (by
          have := hbq5.set_ k (.int .u32 ((g - 1 : Nat) : Int))
          rw [show (U quo).set k (.int .u32 ((g - 1 : Nat) : Int)) = U (quo.set k (g - 1)) from List.map_set.symm] at this
          exact this)
        have BR := Lib.hid (hbr5.far (p := ⟨w2.heap.size, k, none⟩) (by show w1.heap.size ≠ w2.heap.size; omega) (.int .u32 ((g - 1 : Nat) : Int)))
        have BD := Lib.hid (hbd5.far (p := ⟨w2.heap.size, k, none⟩) (by show w.heap.size ≠ w2.heap.size; omega) (.int .u32 ((g - 1 : Nat) : Int)))
        have e1 : ((g - 1 : Nat) : Int) = (g : Int) - 1 := by omega
        rw [e1] at BS BR BD
        clear hbr5 hbd5 hbq5 e1
        go_wp2_with fail
        refine ⟨⟨k, _, _, by omega, by go_num, BR.out, BS.out, BD.out, hbel5.setCell (by show w.heap.size ≤ w2.heap.size; omega) _, Lib.hid ⟨by rw [List.length_set]; exact HQL.out, HN2.out⟩⟩, by simp [intOf]; try omega⟩
end Go.Proofs.YtmiccalfamepdaaGreatDoor

/-
  The contracts of chapter 2's functions at numbers that calls handed back ('IsRes').
-/
namespace Go.Proofs.YtmiccalfamepdaaGreatDoor
open Go.RowKit
set_option maxHeartbeats 1000000
set_option maxRecDepth 100000
set_option linter.unusedVariables false

theorem IsRes.of_lies {w : World} {A : Option Addr} {c : Nat} {l : List Nat} (hl : Lies w w.heap.size A (U l)) (hc : l.length ≤ c) (hm : c ≤ 9223372036854775807) (hA : A = none → c = 0) : IsRes w (.slice A l.length c) l := ⟨A, c, rfl, hc, hm, hA, hl⟩

section
variable {w0 w : World} {v1 v2 : Value} {l1 l2 : List Nat}

theorem divMod_res (h1 : IsRes w v1 l1) (h2 : IsRes w v2 l2) (o1 : Nt.Ok l1) (o2 : Nt.Ok l2) (s1 : l1.length ≤ 1000000) (s2 : l2.length ≤ 1000000) (hb : Below w0.heap.size w0 w) :
    Calls Tryz.prog 171 #[v1, v2] w fun e w' => ∃ u1 u2, e = .returned (.tuple #[u1, u2, .bool (decide (Nt.val l2 ≠ 0))]) ∧ IsRes w' u1 (Nt.digs (Nt.quo (Nt.val l1) (Nt.val l2))) ∧ IsRes w' u2 (Nt.digs (Nt.rest (Nt.val l1) (Nt.val l2))) ∧ Below w0.heap.size w0 w' ∧ Below w.heap.size w w' := by
  obtain ⟨A, c, rfl, a1, a2, a3, a4⟩ := h1
  obtain ⟨A', c', rfl, b1, b2, b3, b4⟩ := h2
  refine (divMod_any A A' c c' w.heap.size l1 l2 w a4 b4 (Nat.le_refl _) o1 o2 a1 b1 a2 b2 s1 s2 (.inr long_any)).mono ?_
  rintro e w' ⟨u1, u2, rfl, r1, r2, hb'⟩
  exact ⟨u1, u2, rfl, r1, r2, hb.trans (hb'.mono hb.size), hb'⟩
theorem refDivMod_res (h1 : IsRes w v1 l1) (h2 : IsRes w v2 l2) (o1 : Nt.Ok l1) (o2 : Nt.Ok l2) (s1 : l1.length ≤ 1000000) (s2 : l2.length ≤ 1000000) (hb : Below w0.heap.size w0 w) :
    Calls Tryz.prog 139 #[v1, v2] w fun e w' => ∃ u1 u2, e = .returned (.tuple #[u1, u2, .bool (decide (Nt.val l2 ≠ 0))]) ∧ IsRes w' u1 (Nt.digs (Nt.quo (Nt.val l1) (Nt.val l2))) ∧ IsRes w' u2 (Nt.digs (Nt.rest (Nt.val l1) (Nt.val l2))) ∧ Below w0.heap.size w0 w' ∧ Below w.heap.size w w' := by
  obtain ⟨A, c, rfl, a1, a2, a3, a4⟩ := h1
  obtain ⟨A', c', rfl, b1, b2, b3, b4⟩ := h2
  refine (refDivMod_any A A' c c' w.heap.size l1 l2 w a4 b4 (Nat.le_refl _) o1 o2 a1 b1 a2 b2 b3 s1 s2).mono ?_
  rintro e w' ⟨u1, u2, rfl, r1, r2, hb'⟩
  exact ⟨u1, u2, rfl, r1, r2, hb.trans (hb'.mono hb.size), hb'⟩
theorem cmp_res (h1 : IsRes w v1 l1) (h2 : IsRes w v2 l2) (o1 : Nt.Ok l1) (o2 : Nt.Ok l2) (hb : Below w0.heap.size w0 w) :
    Calls Tryz.prog 201 #[v1, v2] w fun e w' => e = .returned (.int .i64 (Nt.cmp (Nt.val l1) (Nt.val l2))) ∧ Below w0.heap.size w0 w' ∧ Below w.heap.size w w' := by
  obtain ⟨A, c, rfl, a1, a2, a3, a4⟩ := h1
  obtain ⟨A', c', rfl, b1, b2, b3, b4⟩ := h2
  refine (cmp_any A A' c c' w.heap.size l1 l2 w a4 b4 o1 o2 a1 b1 a2 b2).mono ?_
  rintro e w' ⟨rfl, k, rfl⟩
  have hb1 : Below w.heap.size w (w.drewN k) := ⟨rfl, rfl, rfl, Nat.le_refl _, fun _ _ => rfl⟩
  exact ⟨rfl, hb.trans (hb1.mono hb.size), hb1⟩
theorem refNorm_res (h1 : IsRes w v1 l1) (o1 : Nt.Ok l1) (s1 : l1.length ≤ 1000000) (hb : Below w0.heap.size w0 w) :
    Calls Tryz.prog 129 #[v1] w fun e w' => ∃ v, e = .returned v ∧ IsRes w' v (Nt.digs (Nt.val l1)) ∧ Below w0.heap.size w0 w' ∧ Below w.heap.size w w' := by
  obtain ⟨A, c, rfl, a1, a2, a3, a4⟩ := h1
  refine (refNorm_any A c w.heap.size l1 w a4 (Nat.le_refl _) o1 a1 a2 a3 (by omega)).mono ?_
  rintro e w' ⟨v, rfl, r, hb'⟩
  exact ⟨v, rfl, r, hb.trans (hb'.mono hb.size), hb'⟩
theorem norm_res (h1 : IsRes w v1 l1) (o1 : Nt.Ok l1) (s1 : l1.length ≤ 1000000) (hb : Below w0.heap.size w0 w) :
    Calls Tryz.prog 145 #[v1] w fun e w' => ∃ v, e = .returned v ∧ IsRes w' v (Nt.digs (Nt.val l1)) ∧ Below w0.heap.size w0 w' ∧ Below w.heap.size w w' := by
  have hd := Nt.digs_len_le o1
  obtain ⟨A, c, rfl, a1, a2, a3, a4⟩ := h1
  refine (norm_any A c w.heap.size l1 w a4 (Nat.le_refl _) o1 a1 a2 (by omega)).mono ?_
  rintro e w' ⟨rfl, r, hb'⟩
  exact ⟨_, rfl, ⟨_, _, rfl, Nat.le_refl _, by omega, (fun h => by cases h), r.lies⟩, hb.trans (hb'.mono hb.size), hb'⟩
end

end Go.Proofs.YtmiccalfamepdaaGreatDoor

/-
  What nat.Gcd and scrimref02.Gcd compute: the greatest number that divides both.
-/
namespace Go.Proofs.YtmiccalfamepdaaGreatDoor
open Go.RowKit
set_option maxHeartbeats 1000000
set_option maxRecDepth 100000
set_option linter.unusedVariables false

/-- Greatest common divisors of limbs: what a round needs. -/
theorem gcd_any (A A' : Option Addr) (c c' : Nat) (a b : List Nat) (w : World) (hx : IsRes w (.slice A a.length c) a) (hy : IsRes w (.slice A' b.length c') b) (ha : Nt.Ok a) (hb : Nt.Ok b) (hs : a.length ≤ 1000000) (hs' : b.length ≤ 1000000) :
    Calls Tryz.prog 135 #[.slice A a.length c, .slice A' b.length c'] w fun e w' => ∃ v, e = .returned v ∧ IsRes w' v (Nt.digs (Nat.gcd (Nt.val a) (Nt.val b))) ∧ Below w.heap.size w w' := by
  have ha' := Nt.digs_len_le ha
  have hb' := Nt.digs_len_le hb
  obtain ⟨_, _, e1, a1, a2, a3, a4⟩ := hx
  obtain ⟨_, _, e2, b1, b2, b3, b4⟩ := hy
  injection e1 with e1 _ e1'; subst e1 e1'
  injection e2 with e2 _ e2'; subst e2 e2'
  have TA := Lib.hid (trim_any A c w.heap.size a w a4 ha a1 a2)
  have TB := Lib.hid (trim_any A' c' w.heap.size b w b4 hb b1 b2)
  have RA : Hid (∀ A', A' = A → IsRes w (.slice A (Nt.digs (Nt.val a)).length (Nt.digs (Nt.val a)).length) (Nt.digs (Nt.val a))) := Lib.hid (fun _ _ => ⟨A, _, rfl, Nat.le_refl _, by omega, (fun h => by have := a3 h; omega), a4.digs ha⟩)
  have RB : Hid (IsRes w (.slice A' (Nt.digs (Nt.val b)).length (Nt.digs (Nt.val b)).length) (Nt.digs (Nt.val b))) := Lib.hid ⟨A', _, rfl, Nat.le_refl _, by omega, (fun h => by have := b3 h; omega), b4.digs hb⟩
  clear a1 a2 a3 a4 b1 b2 b3 b4 ha hb
  have hla : (Nt.digs (Nt.val a)).length ≤ 1000000 := by omega
  have hlb : (Nt.digs (Nt.val b)).length ≤ 1000000 := by omega
  clear ha' hb' hs hs'
  obtain ⟨x0, hx0⟩ : ∃ x, x = Nt.val a := ⟨_, rfl⟩
  obtain ⟨y0, hy0⟩ : ∃ y, y = Nt.val b := ⟨_, rfl⟩
  rw [← hx0] at TA RA hla ⊢
  rw [← hy0] at TB RB hlb ⊢
  clear hx0 hy0
  go_enter Tryz.func135, Tryz.ntmps135
  go_wp2_with fail
  refine TA.out.mono ?_
  rintro e w' ⟨rfl, rfl⟩
  go_wp2_with fail
  refine TB.out.mono ?_
  rintro e w' ⟨rfl, rfl⟩
  go_wp2_with fail
  go_loopg [0, 1] y0 (fun gk av bv wr => ∃ (A A' : Option Addr) (c c' x y : Nat), av = .slice A (Nt.digs x).length c ∧ bv = .slice A' (Nt.digs y).length c' ∧ y ≤ gk ∧ Hid (IsRes wr (.slice A (Nt.digs x).length c) (Nt.digs x) ∧ IsRes wr (.slice A' (Nt.digs y).length c') (Nt.digs y)) ∧ (Nt.digs x).length ≤ 1000000 ∧ (Nt.digs y).length ≤ 1000000 ∧ Hid (Nat.gcd x y = Nat.gcd x0 y0) ∧ Below w.heap.size w wr)
  case atStart => exact ⟨_, _, _, _, x0, y0, rfl, rfl, Nat.le_refl _, Lib.hid ⟨RA.out _ rfl, RB.out⟩, hla, hlb, Lib.hid rfl, Below.refl _ _⟩
  case round =>
    clear TA TB RA RB hla hlb
    obtain ⟨P, P', k, k', x, y, rfl, rfl, hyk, HR, hlx, hly, HG, hbel⟩ := hrel
    by_cases h0 : y = 0
    · subst h0
      have HZ : Hid ((Nt.digs 0).length = 0) := Lib.hid (by rw [Nt.digs_zero]; rfl)
      have NA := Lib.hid (norm_res (w0 := w) HR.out.1 (Nt.ok_digs x) hlx hbel)
      have HE : Hid (Nat.gcd x0 y0 = x) := Lib.hid (by rw [← HG.out, Nat.gcd_zero_right])
      rw [Nt.val_digs] at NA
      rw [HZ.out]
      clear HR HG
      go_wp2_with fail
      refine NA.out.mono ?_
      rintro e w1 ⟨v, rfl, hr, hb1, _⟩
      go_wp2_with fail
      go_ret
      exact ⟨_, rfl, by rw [HE.out]; exact hr, hb1⟩
    · have hlp : 0 < (Nt.digs y).length := by
        rcases Nat.eq_zero_or_pos (Nt.digs y).length with h | h
        · exact absurd (Nt.digs_nil_iff.1 (List.eq_nil_of_length_eq_zero h)) h0
        · exact h
      by_cases h2 : (Nt.digs x).length ≤ 2 ∧ (Nt.digs y).length ≤ 2
      · obtain ⟨h2x, h2y⟩ := h2
        obtain ⟨⟨_, _, e1, a1, a2, a3, a4⟩, ⟨_, _, e2, b1, b2, b3, b4⟩⟩ := HR.out
        injection e1 with e1 _ e1'; subst e1 e1'
        injection e2 with e2 _ e2'; subst e2 e2'
        have WA := Lib.hid (word_any P k wr.heap.size (Nt.digs x) wr a4 (Nt.ok_digs x) h2x)
        have WB := Lib.hid (word_any P' k' wr.heap.size (Nt.digs y) wr b4 (Nt.ok_digs y) h2y)
        rw [Nt.val_digs] at WA WB
        have hxa : x < 18446744073709551616 := by
          have h := Nt.val_lt (Nt.ok_digs x)
          rw [Nt.val_digs] at h
          exact Nat.lt_of_lt_of_le h (Nat.le_trans (Nat.pow_le_pow_right (by omega) h2x) (by decide))
        have hxb : y < 18446744073709551616 := by
          have h := Nt.val_lt (Nt.ok_digs y)
          rw [Nt.val_digs] at h
          exact Nat.lt_of_lt_of_le h (Nat.le_trans (Nat.pow_le_pow_right (by omega) h2y) (by decide))
        clear HR a1 a2 a3 a4 b1 b2 b3 b4
        go_wp2_with fail
        refine WA.out.mono ?_
        rintro e w' ⟨rfl, rfl⟩
        go_wp2_with fail
        refine WB.out.mono ?_
        rintro e w' ⟨rfl, rfl⟩
        go_wp2_with fail
        refine (small_any x y _ hxa hxb).mono ?_
        rintro e w1 ⟨v, rfl, hr, hb1⟩
        go_wp2_with fail
        go_ret
        exact ⟨_, rfl, by rw [← HG.out]; exact hr, hbel.trans (hb1.mono hbel.size)⟩
      · have DM := Lib.hid (divMod_res (w0 := w) HR.out.1 HR.out.2 (Nt.ok_digs x) (Nt.ok_digs y) hlx hly hbel)
        rw [Nt.val_digs, Nt.val_digs, Nt.rest_pos h0] at DM
        have hyp : x % y < y := Nat.mod_lt _ (by omega)
        have hlr : (Nt.digs (x % y)).length ≤ 1000000 := by
          have h := Nt.digs_len_le_of (Nat.le_of_lt hyp)
          omega
        have HG2 : Hid (Nat.gcd y (x % y) = Nat.gcd x0 y0) := Lib.hid (by rw [Nt.gcd_step]; exact HG.out)
        have HRY := Lib.hid HR.out.2
        clear HR HG h0
        obtain ⟨r, hr⟩ : ∃ r, r = x % y := ⟨_, rfl⟩
        rw [← hr] at DM hyp hlr HG2
        clear hr
        by_cases h2x : (Nt.digs x).length ≤ 2
        · have h2y : ¬ (Nt.digs y).length ≤ 2 := fun h => h2 ⟨h2x, h⟩
          clear h2
          go_wp2_with fail
          refine DM.out.mono ?_
          rintro e w1 ⟨u1, u2, rfl, hr1, hr2, hb1, hb01⟩
          have hry := HRY.out.below hb01
          obtain ⟨A2, c2, rfl, q1, q2, q3, q4⟩ := hr2
          have hr2' : IsRes w1 (.slice A2 (Nt.digs r).length c2) (Nt.digs r) := ⟨A2, c2, rfl, q1, q2, q3, q4⟩
          clear q1 q2 q3 q4 hr1 hb01 HRY DM
          have HRN := Lib.hid (And.intro hry hr2')
          clear hry hr2'
          go_wp2_with fail
          go_roundg r
          case measure => omega
          case rel => exact ⟨_, _, _, _, y, r, rfl, rfl, Nat.le_refl _, HRN, hly, hlr, HG2, hb1⟩
        · clear h2
          go_wp2_with fail
          refine DM.out.mono ?_
          rintro e w1 ⟨u1, u2, rfl, hr1, hr2, hb1, hb01⟩
          have hry := HRY.out.below hb01
          obtain ⟨A2, c2, rfl, q1, q2, q3, q4⟩ := hr2
          have hr2' : IsRes w1 (.slice A2 (Nt.digs r).length c2) (Nt.digs r) := ⟨A2, c2, rfl, q1, q2, q3, q4⟩
          clear q1 q2 q3 q4 hr1 hb01 HRY DM
          have HRN := Lib.hid (And.intro hry hr2')
          clear hry hr2'
          go_wp2_with fail
          go_roundg r
          case measure => omega
          case rel => exact ⟨_, _, _, _, y, r, rfl, rfl, Nat.le_refl _, HRN, hly, hlr, HG2, hb1⟩
end Go.Proofs.YtmiccalfamepdaaGreatDoor

/-
  ratio.trimmed, ratio.Right.
-/
namespace Go.Proofs.YtmiccalfamepdaaGreatDoor
open Go.RowKit
set_option maxHeartbeats 4000000
set_option maxRecDepth 100000
set_option linter.unusedVariables false

theorem trimmed_big {l : List Nat} (h : ¬ l.length ≤ 32) : Tr.trimmed l = false := by unfold Tr.trimmed; rw [decide_eq_false h]; rfl
theorem trimmed_nil : Tr.trimmed [] = true := rfl
theorem trimmed_last {l : List Nat} (h : l.length ≤ 32) (h0 : l.length ≠ 0) : Tr.trimmed l = !(l[l.length - 1]'(by omega) == 0) := by
  unfold Tr.trimmed
  rw [decide_eq_true h]
  have h1 : l ≠ [] := by rintro rfl; exact h0 rfl
  rw [List.getLastD_eq_getLast?, List.getLast?_eq_some_getLast h1, List.getLast_eq_getElem]
  cases l with
  | nil => exact absurd rfl h1
  | cons a r => rfl
theorem trimmed_any (v : Value) (l : List Nat) (w : World) (h : IsRes w v l) :
    Calls Tryz.prog 133 #[v] w fun e w' => e = .returned (.bool (Tr.trimmed l)) ∧ w = w' := by
  obtain ⟨A, c, rfl, h1, h2, h3, h4⟩ := h
  by_cases hl : l.length ≤ 32
  · have q1 : decide ((l.length : Int) ≤ 32) = true := decide_eq_true (by omega)
    by_cases h0 : l.length = 0
    · have q2 : ((l.length : Int) == 0) = true := beq_iff_eq.2 (by omega)
      obtain rfl := List.eq_nil_of_length_eq_zero h0
      have HR := Lib.hid trimmed_nil
      clear h4 hl h0 h1 h2 h3
      go_enter Tryz.func133, Tryz.ntmps133
      go_wp2_with fail
      go_ret
      exact ⟨ret_bool (by rw [HR.out]), rfl⟩
    · have q2 : ((l.length : Int) == 0) = false := beq_eq_false_iff_ne.2 (by omega)
      have HR := Lib.hid (trimmed_last hl h0)
      obtain ⟨b, off, rfl, hb, g0⟩ := h4.at_ (k := l.length - 1) (by simp [U]; omega)
      have g1 : w.cell? ⟨b, off + (l.length - 1), none⟩ = some (.int .u32 ((l[l.length - 1]'(by omega) : Nat) : Int)) := by simpa [U] using g0
      have i0 : (0 : Int) ≤ (l.length : Int) - 1 := by omega
      have i1 : (l.length : Int) - 1 < (l.length : Int) := by omega
      have i2 : ((l.length : Int) - 1).toNat = l.length - 1 := by omega
      clear g0 h4 h3
      generalize l[l.length - 1]'(by omega) = x at *
      generalize Tr.trimmed l = R at *
      have q3 : ((x : Int) != 0) = !(x == 0) := by
        by_cases e : x = 0
        · subst e; rfl
        · have e1 : ((x : Int) != 0) = true := bne_iff_ne.2 (by omega)
          have e2 : (x == 0) = false := beq_eq_false_iff_ne.2 e
          rw [e1, e2]; rfl
      rw [← q3] at HR
      clear q3
      generalize l.length = n at *
      cases q4 : ((x : Int) != 0)
      all_goals
        rw [q4] at HR
        go_enter Tryz.func133, Tryz.ntmps133
        go_wp2_with fail
        go_ret
        exact ⟨ret_bool (by rw [HR.out]), rfl⟩
  · have q1 : decide ((l.length : Int) ≤ 32) = false := decide_eq_false (by omega)
    have HR := Lib.hid (trimmed_big hl)
    clear hl h4 h3
    generalize l.length = n at *
    go_enter Tryz.func133, Tryz.ntmps133
    go_wp2_with fail
    go_ret
    exact ⟨ret_bool (by rw [HR.out]), rfl⟩

theorem ratio_parts (n : Bool) (t b : List Nat) (d : List Nat) (hd : d = Nt.digs (Nat.gcd (Nt.val t) (Nt.val b))) : Tr.ratio ⟨n, t, b⟩ = (Tr.trimmed t && (Tr.trimmed b && (!b.isEmpty && (!(t.isEmpty && n) && ((b == [1]) || (d == [1])))))) := by
  subst hd
  unfold Tr.ratio Tr.isOne
  cases Tr.trimmed t <;> cases Tr.trimmed b <;> cases b.isEmpty <;> cases t.isEmpty <;> cases n <;> simp
theorem ratioRight_any (n : Bool) (A1 : Option Addr) (t : List Nat) (c1 : Nat) (A2 : Option Addr) (b : List Nat) (c2 : Nat) (w : World) (h1 : IsRes w (.slice A1 t.length c1) t) (h2 : IsRes w (.slice A2 b.length c2) b) (o1 : Nt.Ok t) (o2 : Nt.Ok b) :
    Calls Tryz.prog 106 #[.agg #[.bool n, .slice A1 t.length c1, .slice A2 b.length c2]] w fun e w' => e = .returned (.bool (Rt.right ⟨n, t, b⟩)) ∧ Below w.heap.size w w' := by
  have hrr := Tr.ratio_right (n := ⟨n, t, b⟩) o1 o2
  obtain ⟨d, hd⟩ : ∃ d, d = Nt.digs (Nat.gcd (Nt.val t) (Nt.val b)) := ⟨_, rfl⟩
  rw [ratio_parts n t b d hd] at hrr
  have HR := Lib.hid hrr
  obtain ⟨W, hW⟩ : ∃ W, W = w.alloc (.cells #[.bool n, .slice A1 t.length c1, .slice A2 b.length c2] 83) := ⟨_, rfl⟩
  have hWs : W.heap.size = w.heap.size + 1 := by rw [hW]; simp
  have hWb : Below w.heap.size w W := by rw [hW]; exact (Below.refl _ _).alloc (Nat.le_refl _) _
  have HQ : Hid (W.cell? ⟨w.heap.size, 0, none⟩ = some (.bool n) ∧ W.cell? ⟨w.heap.size, 1, none⟩ = some (.slice A1 t.length c1) ∧ W.cell? ⟨w.heap.size, 2, none⟩ = some (.slice A2 b.length c2)) := Lib.hid (by rw [hW]; exact ⟨by go_simp, by go_simp, by go_simp⟩)
  have HW := Lib.hid hW
  have hWl : w.heap.size < W.heap.size := by omega
  have r1 := h1.below hWb
  have r2 := h2.below hWb
  have T1 := Lib.hid (trimmed_any _ _ W r1)
  have T2 := Lib.hid (trimmed_any _ _ W r2)
  have I2 := Lib.hid (isOne_any _ _ W r2)
  have GC := fun (s1 : t.length ≤ 1000000) (s2 : b.length ≤ 1000000) => gcd_any A1 A2 c1 c2 t b W r1 r2 o1 o2 s1 s2
  rw [← hd] at GC
  replace GC := Lib.hid GC
  have ON := Lib.hid (fun v (wx : World) (h : IsRes wx v d) => isOne_any v d wx h)
  have TB : Hid (Tr.trimmed t = true → t.length ≤ 1000000) := Lib.hid (fun h => by have := ((Tr.trimmed_iff t).1 h).1; omega)
  have TB2 : Hid (Tr.trimmed b = true → b.length ≤ 1000000) := Lib.hid (fun h => by have := ((Tr.trimmed_iff b).1 h).1; omega)
  have HE : Hid (b.isEmpty = decide (b.length = 0)) := Lib.hid (by cases b <;> simp)
  have HE' : Hid (t.isEmpty = decide (t.length = 0)) := Lib.hid (by cases t <;> simp)
  clear hrr hd h1 h2 o1 o2 r1 r2
  generalize Rt.right ⟨n, t, b⟩ = R at *
  generalize Tr.trimmed t = X at *
  generalize Tr.trimmed b = Y at *
  generalize b.isEmpty = BE at *
  generalize t.isEmpty = TE at *
  generalize (b == [1]) = BO at *
  generalize (d == [1]) = DO at *
  obtain ⟨p0, p1, p2⟩ := HQ.out
  clear hW
  cases X
  · go_enter Tryz.func106, Tryz.ntmps106
    go_wp2_with fail
    rw [← HW.out]
    refine T1.out.mono ?_
    rintro e w' ⟨rfl, rfl⟩
    go_wp2_with fail
    go_ret
    exact ⟨ret_bool (by rw [← HR.out]; rfl), hWb⟩
  · cases Y
    · go_enter Tryz.func106, Tryz.ntmps106
      go_wp2_with fail
      rw [← HW.out]
      refine T1.out.mono ?_
      rintro e w' ⟨rfl, rfl⟩
      go_wp2_with fail
      refine T2.out.mono ?_
      rintro e w' ⟨rfl, rfl⟩
      go_wp2_with fail
      go_ret
      exact ⟨ret_bool (by rw [← HR.out]; rfl), hWb⟩
    · have s1 := TB.out rfl
      have s2 := TB2.out rfl
      have GC2 := Lib.hid (GC.out s1 s2)
      clear GC TB TB2
      generalize t.length = l1 at *
      generalize b.length = l2 at *
      by_cases z : l2 = 0
      · subst z
        have HE2 : Hid (BE = true) := Lib.hid (by rw [HE.out]; rfl)
        clear HE
        go_enter Tryz.func106, Tryz.ntmps106
        go_wp2_with fail
        rw [← HW.out]
        refine T1.out.mono ?_
        rintro e w' ⟨rfl, rfl⟩
        go_wp2_with fail
        refine T2.out.mono ?_
        rintro e w' ⟨rfl, rfl⟩
        go_wp2_with fail
        go_ret
        exact ⟨ret_bool (by rw [← HR.out, HE2.out]; simp), hWb⟩
      · have qb : ((l2 : Int) == 0) = false := beq_eq_false_iff_ne.2 (by omega)
        have HE2 : Hid (BE = false) := Lib.hid (by rw [HE.out]; exact decide_eq_false z)
        clear HE z
        have key : (TE && n) = true ∨ (TE && n) = false := by cases (TE && n) <;> simp
        by_cases z1 : l1 = 0
        · subst z1
          have HT2 : Hid (TE = true) := Lib.hid (by rw [HE'.out]; rfl)
          clear HE'
          cases n
          · cases BO
            · go_enter Tryz.func106, Tryz.ntmps106
              go_wp2_with fail
              rw [← HW.out]
              refine T1.out.mono ?_
              rintro e w' ⟨rfl, rfl⟩
              go_wp2_with fail
              refine T2.out.mono ?_
              rintro e w' ⟨rfl, rfl⟩
              go_wp2_with fail
              refine I2.out.mono ?_
              rintro e w' ⟨rfl, rfl⟩
              go_wp2_with fail
              refine GC2.out.mono ?_
              rintro e w2 ⟨v, rfl, hv, hb2⟩
              have O2 := Lib.hid (ON.out _ _ hv)
              clear hv p0 p1 p2
              go_wp2_with fail
              refine O2.out.mono ?_
              rintro e w3 ⟨rfl, rfl⟩
              go_wp2_with fail
              go_ret
              exact ⟨ret_bool (by rw [← HR.out, HE2.out, HT2.out]; simp), hWb.trans (hb2.mono (by omega))⟩
            · go_enter Tryz.func106, Tryz.ntmps106
              go_wp2_with fail
              rw [← HW.out]
              refine T1.out.mono ?_
              rintro e w' ⟨rfl, rfl⟩
              go_wp2_with fail
              refine T2.out.mono ?_
              rintro e w' ⟨rfl, rfl⟩
              go_wp2_with fail
              refine I2.out.mono ?_
              rintro e w' ⟨rfl, rfl⟩
              go_wp2_with fail
              go_ret
              exact ⟨ret_bool (by rw [← HR.out, HE2.out, HT2.out]; simp), hWb⟩
          · go_enter Tryz.func106, Tryz.ntmps106
            go_wp2_with fail
            rw [← HW.out]
            refine T1.out.mono ?_
            rintro e w' ⟨rfl, rfl⟩
            go_wp2_with fail
            refine T2.out.mono ?_
            rintro e w' ⟨rfl, rfl⟩
            go_wp2_with fail
            go_ret
            exact ⟨ret_bool (by rw [← HR.out, HT2.out]; simp), hWb⟩
        · have qt : ((l1 : Int) == 0) = false := beq_eq_false_iff_ne.2 (by omega)
          have HT2 : Hid (TE = false) := Lib.hid (by rw [HE'.out]; exact decide_eq_false z1)
          clear HE' z1
          cases BO
          · go_enter Tryz.func106, Tryz.ntmps106
            go_wp2_with fail
            rw [← HW.out]
            refine T1.out.mono ?_
            rintro e w' ⟨rfl, rfl⟩
            go_wp2_with fail
            refine T2.out.mono ?_
            rintro e w' ⟨rfl, rfl⟩
            go_wp2_with fail
            refine I2.out.mono ?_
            rintro e w' ⟨rfl, rfl⟩
            go_wp2_with fail
            refine GC2.out.mono ?_
            rintro e w2 ⟨v, rfl, hv, hb2⟩
            have O2 := Lib.hid (ON.out _ _ hv)
            clear hv p0 p1 p2
            go_wp2_with fail
            refine O2.out.mono ?_
            rintro e w3 ⟨rfl, rfl⟩
            go_wp2_with fail
            go_ret
            exact ⟨ret_bool (by rw [← HR.out, HE2.out, HT2.out]; simp), hWb.trans (hb2.mono (by omega))⟩
          · go_enter Tryz.func106, Tryz.ntmps106
            go_wp2_with fail
            rw [← HW.out]
            refine T1.out.mono ?_
            rintro e w' ⟨rfl, rfl⟩
            go_wp2_with fail
            refine T2.out.mono ?_
            rintro e w' ⟨rfl, rfl⟩
            go_wp2_with fail
            refine I2.out.mono ?_
            rintro e w' ⟨rfl, rfl⟩
            go_wp2_with fail
            go_ret
            exact ⟨ret_bool (by rw [← HR.out, HE2.out, HT2.out]; simp), hWb⟩
end Go.Proofs.YtmiccalfamepdaaGreatDoor

/-
  Which arrays may be, by the program: array.alone, array.Simple, array.rightCell, array.right, array.Right.
-/
namespace Go.Proofs.YtmiccalfamepdaaGreatDoor
open Go.RowKit Ar
set_option maxHeartbeats 4000000
set_option maxRecDepth 100000
set_option linter.unusedVariables false

theorem mayP_any (x : Int) (w : World) :
    Calls Tryz.prog 107 #[.int .i64 x] w fun e w' => e = .returned (.bool (mayB x)) ∧ w = w' := by
  have HE : Hid (mayB x = (decide (0 ≤ x) && decide (x ≤ 1114111) && (decide (x < 55296) || decide (57343 < x)))) := Lib.hid rfl
  by_cases h0 : 0 ≤ x
  · by_cases h1 : x ≤ 1114111
    · by_cases h2 : x < 55296
      · have E : Hid (mayB x = true) := Lib.hid (by rw [HE.out]; simp; omega)
        go_enter Tryz.func107, Tryz.ntmps107
        go_wp2_with fail
        go_ret
        exact ⟨ret_bool E.out.symm, rfl⟩
      · have q2 : decide (x < 55296) = false := decide_eq_false h2
        by_cases h3 : 57343 < x
        · have E : Hid (mayB x = true) := Lib.hid (by rw [HE.out]; simp; omega)
          go_enter Tryz.func107, Tryz.ntmps107
          go_wp2_with fail
          go_ret
          exact ⟨ret_bool E.out.symm, rfl⟩
        · have q3 : decide (57343 < x) = false := decide_eq_false h3
          have E : Hid (mayB x = false) := Lib.hid (by rw [HE.out]; simp; omega)
          go_enter Tryz.func107, Tryz.ntmps107
          go_wp2_with fail
          go_ret
          exact ⟨ret_bool E.out.symm, rfl⟩
    · have q1 : decide (x ≤ 1114111) = false := decide_eq_false h1
      have E : Hid (mayB x = false) := Lib.hid (by rw [HE.out, q1]; simp)
      go_enter Tryz.func107, Tryz.ntmps107
      go_wp2_with fail
      go_ret
      exact ⟨ret_bool E.out.symm, rfl⟩
  · have q0 : decide (0 ≤ x) = false := decide_eq_false h0
    have E : Hid (mayB x = false) := Lib.hid (by rw [HE.out, q0]; simp)
    have q0' : x < 0 := by omega
    go_enter Tryz.func107, Tryz.ntmps107
    go_wp2_with fail
    go_ret
    exact ⟨ret_bool E.out.symm, rfl⟩

theorem alone_any (S : Nat) (A A' : Option Addr) (n n' c c' : Nat) (w : World) :
    Calls Tryz.prog 136 #[.agg #[.int .u64 (S : Int), .slice A n c, .slice A' n' c']] w fun e w' => e = .returned (.bool (decide (n = 0) && decide (n' = 1))) ∧ Below w.heap.size w w' := by
  by_cases h0 : n = 0
  · by_cases h1 : n' = 1
    · subst h0 h1
      go_enter Tryz.func136, Tryz.ntmps136
      go_wp2_with fail
      go_ret
      exact ⟨ret_bool rfl, (Below.refl _ _).alloc (Nat.le_refl _) _⟩
    · subst h0
      have q : ((n' : Int) == 1) = false := beq_eq_false_iff_ne.2 (by omega)
      have HZ : Hid ((decide ((0 : Nat) = 0) && decide (n' = 1)) = false) := Lib.hid (by simp [h1])
      clear h1
      generalize decide (n' = 1) = z at *
      go_enter Tryz.func136, Tryz.ntmps136
      go_wp2_with fail
      go_ret
      exact ⟨ret_bool HZ.out.symm, (Below.refl _ _).alloc (Nat.le_refl _) _⟩
  · have q : ((n : Int) == 0) = false := beq_eq_false_iff_ne.2 (by omega)
    have HZ : Hid ((decide (n = 0) && decide (n' = 1)) = false) := Lib.hid (by simp [h0])
    clear h0
    generalize (decide (n = 0) && decide (n' = 1)) = z at *
    go_enter Tryz.func136, Tryz.ntmps136
    go_wp2_with fail
    go_ret
    exact ⟨ret_bool HZ.out.symm, (Below.refl _ _).alloc (Nat.le_refl _) _⟩

theorem simpleP_any (a : Arr) (vs : List Value) (w : World) (B : Nat) (h : IsArr w B a vs) (hB : B ≤ w.heap.size) :
    Calls Tryz.prog 108 #[.agg vs.toArray] w fun e w' => e = .returned (.bool (simpleB a)) ∧ Below w.heap.size w w' := by
  obtain ⟨S, shape, cells⟩ := a
  rw [IsArr] at h
  obtain ⟨A, c, A', c', us, rfl, hS, hf, hf', hw, hl, hl', hcs⟩ := h
  have hfl := (hf'.le (by omega))
  have hfs : shape.length ≤ 17592186044416 := by have h1 := hf.1; have h2 := hf.2; omega
  have H0 := Lib.hid (fun h => simple_sh (S := S) (sh := shape) (cells := cells) h)
  have H1 := Lib.hid (fun h => simple_len (S := S) (sh := shape) (cells := cells) h)
  obtain ⟨W, hW⟩ : ∃ W, W = w.alloc (.cells #[.int .u64 (S : Int), .slice A shape.length c, .slice A' cells.length c'] 43) := ⟨_, rfl⟩
  have hWs : W.heap.size = w.heap.size + 1 := by rw [hW]; simp
  have hWb : Below w.heap.size w W := by rw [hW]; exact (Below.refl _ _).alloc (Nat.le_refl _) _
  have HQ2 : Hid (W.cell? ⟨w.heap.size, 2, none⟩ = some (.slice A' cells.length c')) := Lib.hid (by rw [hW]; go_simp)
  have HW := Lib.hid hW
  have hWl : w.heap.size < W.heap.size := by omega
  have AL := Lib.hid (alone_any S A A' shape.length cells.length c c' W)
  clear hW
  by_cases h0 : shape.length = 0
  · by_cases h1 : cells.length = 1
    · have ha : (decide (shape.length = 0) && decide (cells.length = 1)) = true := by simp [h0, h1]
      rw [ha] at AL
      obtain ⟨b, off, L, kind, neg, top, bot, ch, ins, A1, c1, A2, c2, A3, c3, us3, rfl, hb, hL, HX, t1, t2, t3, t4, t5, t6, g0, g1, g2, g3, g4, g5, g6⟩ := cel_at (k := 0) hcs hl' (wr := W) (fun p hp => hWb.cell (by omega)) (by omega)
      have HS := Lib.hid (simple_one (S := S) h0 h1 HX.out.eq)
      have hcl : (1 : Int) ≤ (cells.length : Int) := by omega
      simp only [Nat.zero_mul, Nat.add_zero] at g1
      have hbl : b < W.heap.size := by omega
      clear HX H0 H1 h0 h1 ha hcs hl' hl hf hf' hw g0 g2 g3 g4 g5 g6
      generalize simpleB (.mk S shape cells) = R at *
      generalize shape.length = z1 at *
      generalize cells.length = z2 at *
      go_enter Tryz.func108, Tryz.ntmps108
      go_wp2_with fail
      rw [← HW.out]
      refine AL.out.mono ?_
      rintro e w2 ⟨rfl, hb2⟩
      have r2 : w2.cell? ⟨w.heap.size, 2, none⟩ = some (.slice (some ⟨b, off, none⟩) z2 c') := (hb2.cell (p := ⟨w.heap.size, 2, none⟩) hWl).trans HQ2.out
      have r1 : w2.cell? ⟨b, off + 1, none⟩ = some (.int .i64 kind) := (hb2.cell (p := ⟨b, off + 1, none⟩) hbl).trans g1
      clear g1
      go_wp2_with fail
      go_ret
      exact ⟨ret_bool (by rw [HS.out]), hWb.trans (hb2.mono (by omega))⟩
    · have HS := Lib.hid (H1.out h1)
      have ha : (decide (shape.length = 0) && decide (cells.length = 1)) = false := by simp [h1]
      rw [ha] at AL
      clear H0 H1 h0 h1 ha hcs hl' hl hf hf' hw
      generalize simpleB (.mk S shape cells) = R at *
      generalize shape.length = z1 at *
      generalize cells.length = z2 at *
      go_enter Tryz.func108, Tryz.ntmps108
      go_wp2_with fail
      rw [← HW.out]
      refine AL.out.mono ?_
      rintro e w2 ⟨rfl, hb2⟩
      go_wp2_with fail
      go_ret
      exact ⟨ret_bool (by rw [HS.out]), hWb.trans (hb2.mono (by omega))⟩
  · have HS := Lib.hid (H0.out h0)
    have ha : (decide (shape.length = 0) && decide (cells.length = 1)) = false := by simp [h0]
    rw [ha] at AL
    clear H0 H1 h0 ha hcs hl' hl hf hf' hw
    generalize simpleB (.mk S shape cells) = R at *
    generalize shape.length = z1 at *
    generalize cells.length = z2 at *
    go_enter Tryz.func108, Tryz.ntmps108
    go_wp2_with fail
    rw [← HW.out]
    refine AL.out.mono ?_
    rintro e w2 ⟨rfl, hb2⟩
    go_wp2_with fail
    go_ret
    exact ⟨ret_bool (by rw [HS.out]), hWb.trans (hb2.mono (by omega))⟩

/-- What array.right answers, for arrays of less than a size. -/
def RightP (n : Nat) : Prop := ∀ (a : Arr) (vs : List Value) (k : Nat) (w : World) (B : Nat), SizeOf.sizeOf a < n → IsArr w B a vs → B ≤ w.heap.size → k ≤ 8 →
    Calls Tryz.prog 47 #[.agg vs.toArray, .int .i64 (k : Int)] w fun e w' => e = .returned (.bool (rightA (8 - k) a)) ∧ Below w.heap.size w w'
theorem same_zero (n : Bool) (t b : List Nat) : sameNum n false t [] b [] = zeroB n t b := by
  unfold sameNum zeroB
  cases n <;> cases t <;> cases b <;> rfl
theorem rightCellP_any {n : Nat} (ih : RightP n) (x : Cel) (vs : List Value) (d : Nat) (w : World) (B : Nat) (hx : SizeOf.sizeOf x < n) (h : IsCel w B x vs) (hB : B ≤ w.heap.size) (hd : d ≤ 8) :
    Calls Tryz.prog 74 #[.agg vs.toArray, .int .i64 (d : Int)] w fun e w' => e = .returned (.bool (rightCel (8 - d) x)) ∧ Below w.heap.size w w' := by
  obtain ⟨L, kind, neg, top, bot, ch, ins⟩ := x
  rw [IsCel] at h
  obtain ⟨A1, c1, A2, c2, A3, c3, us, rfl, hL, hf1, hf2, hf3, hw1, hw2, hw3, hl1, hl2, hl3, hins, hnt, hnb⟩ := h
  obtain ⟨W, hW⟩ : ∃ W, W = w.alloc (.cells #[.int .u64 (L : Int), .int .i64 kind, .bool neg, .slice A1 top.length c1, .slice A2 bot.length c2, .int .i64 ch, .slice A3 ins.length c3] 85) := ⟨_, rfl⟩
  have hWs : W.heap.size = w.heap.size + 1 := by rw [hW]; simp
  have hWb : Below w.heap.size w W := by rw [hW]; exact (Below.refl _ _).alloc (Nat.le_refl _) _
  have HB0 : W.heap[w.heap.size]? = some (.cells #[.int .u64 (L : Int), .int .i64 kind, .bool neg, .slice A1 top.length c1, .slice A2 bot.length c2, .int .i64 ch, .slice A3 ins.length c3] 85 (0, 0)) := by rw [hW]; exact heap_alloc_new _ _
  have hWl : w.heap.size < W.heap.size := by omega
  have HQ : Hid (∀ wx, Below W.heap.size W wx → wx.cell? ⟨w.heap.size, 2, none⟩ = some (.bool neg) ∧ wx.cell? ⟨w.heap.size, 3, none⟩ = some (.slice A1 top.length c1) ∧ wx.cell? ⟨w.heap.size, 4, none⟩ = some (.slice A2 bot.length c2) ∧ wx.cell? ⟨w.heap.size, 5, none⟩ = some (.int .i64 ch) ∧ wx.cell? ⟨w.heap.size, 6, none⟩ = some (.slice A3 ins.length c3)) := Lib.hid (fun wx hx => by
    have hb := (hx.block w.heap.size hWl).trans HB0
    exact ⟨(cell_of_row wx w.heap.size 2 _ _ _ hb).trans rfl, (cell_of_row wx w.heap.size 3 _ _ _ hb).trans rfl, (cell_of_row wx w.heap.size 4 _ _ _ hb).trans rfl, (cell_of_row wx w.heap.size 5 _ _ _ hb).trans rfl, (cell_of_row wx w.heap.size 6 _ _ _ hb).trans rfl⟩)
  have HW := Lib.hid hW
  have m1 : top.length ≤ 35184372088832 := by have h1 := hf1.1; have h2 := hf1.2; omega
  have m2 : bot.length ≤ 35184372088832 := by have h1 := hf2.1; have h2 := hf2.2; omega
  have m3 : ins.length ≤ 35184372088832 := by have h1 := hf3.1; have h2 := hf3.2; omega
  have ZR := fun (wx : World) (hx : Below W.heap.size W wx) => ratioSame_any neg false top [] bot [] A1 A2 none none c1 c2 0 0 wx B (hl1.below (((hWb.mono hB)).trans (hx.mono (by omega)))) (.inl rfl) (hl2.below (((hWb.mono hB)).trans (hx.mono (by omega)))) (.inl rfl) (by have := hx.size; omega) (by omega) (by simp) (by omega) (by simp)
  rw [same_zero] at ZR
  simp only [List.length_nil] at ZR
  replace ZR := Lib.hid ZR
  have MY := Lib.hid (fun (wx : World) => mayP_any ch wx)
  have RR := Lib.hid (ratioRight_any neg A1 top c1 A2 bot c2 W ⟨A1, c1, rfl, hf1.1, hf1.2.2, hnt, (hl1.below (hWb.mono hB)).more (by omega)⟩ ⟨A2, c2, rfl, hf2.1, hf2.2.2, hnb, (hl2.below (hWb.mono hB)).more (by omega)⟩ hw2 hw3)
  have hsz0 : ∀ a ∈ ins, SizeOf.sizeOf a < n := fun a ha => by
    have h1 := List.sizeOf_lt_of_mem ha
    simp only [Cel.mk.sizeOf_spec] at hx
    omega
  have HS := Lib.hid hins
  have HL := Lib.hid hl3
  have HE0 := Lib.hid (fun h => empty_len (l := ins) h)
  have HE1 := Lib.hid (fun h => not_empty_len (l := ins) h)
  have R0 := Lib.hid (rightCel_0 (d := 8 - d) (L := L) (n := neg) (t := top) (b := bot) (c := ch) (ins := ins))
  have R1 := Lib.hid (rightCel_1 (d := 8 - d) (L := L) (n := neg) (t := top) (b := bot) (c := ch) (ins := ins))
  have R2 := Lib.hid (rightCel_2 (d := 8 - d) (L := L) (n := neg) (t := top) (b := bot) (c := ch) (ins := ins))
  have RX := Lib.hid (fun h0 h1 h2 => rightCel_x (d := 8 - d) (L := L) (k := kind) (n := neg) (t := top) (b := bot) (c := ch) (ins := ins) h0 h1 h2)
  have RI1 := Lib.hid (fun h => rightIns_len (d := 8 - d) (ins := ins) h)
  have RI2 := Lib.hid (fun h => rightIns_one (d := 8 - d) (ins := ins) h)
  clear hins hl1 hl2 hl3 hf1 hf2 hf3 hw1 hw2 hw3 hnt hnb hx hW HB0
  generalize top.length = l1 at *
  generalize bot.length = l2 at *
  generalize Rt.right ⟨neg, top, bot⟩ = RT at *
  generalize zeroB neg top bot = Z at *
  generalize mayB ch = MB at *
  generalize ins.isEmpty = IE at *
  by_cases k0 : kind = 0
  · subst k0
    have HR := Lib.hid R0.out
    clear R0 R1 R2 RX RI1 RI2 ZR MY
    generalize rightCel (8 - d) (.mk L 0 neg top bot ch ins) = R at *
    go_enter Tryz.func74, Tryz.ntmps74
    go_wp2_with fail
    rw [← HW.out]
    refine RR.out.mono ?_
    rintro e w2 ⟨rfl, hb2⟩
    obtain ⟨p2, p3, p4, p5, p6⟩ := HQ.out w2 hb2
    clear p2 p3 p4
    cases RT
    · go_wp2_with fail
      go_ret
      exact ⟨ret_bool (by rw [HR.out]; simp), hWb.trans (hb2.mono (by omega))⟩
    · cases q1 : (ch == 0)
      · rw [q1] at HR
        go_wp2_with fail
        go_ret
        exact ⟨ret_bool (by rw [HR.out]; rfl), hWb.trans (hb2.mono (by omega))⟩
      · rw [q1] at HR
        by_cases h0 : ins.length = 0
        · have q2 : ((ins.length : Int) == 0) = true := beq_iff_eq.2 (by omega)
          have HE := Lib.hid (HE0.out h0)
          clear h0 HE0 HE1
          generalize ins.length = l3 at *
          go_wp2_with fail
          go_ret
          exact ⟨ret_bool (by rw [HR.out, HE.out]; rfl), hWb.trans (hb2.mono (by omega))⟩
        · have q2 : ((ins.length : Int) == 0) = false := beq_eq_false_iff_ne.2 (by omega)
          have HE := Lib.hid (HE1.out h0)
          clear h0 HE0 HE1
          generalize ins.length = l3 at *
          go_wp2_with fail
          go_ret
          exact ⟨ret_bool (by rw [HR.out, HE.out]; rfl), hWb.trans (hb2.mono (by omega))⟩
  · by_cases k1 : kind = 1
    · subst k1
      have HR := Lib.hid R1.out
      clear R0 R1 R2 RX RI1 RI2 RR k0
      generalize rightCel (8 - d) (.mk L 1 neg top bot ch ins) = R at *
      go_enter Tryz.func74, Tryz.ntmps74
      go_wp2_with fail
      rw [← HW.out]
      refine (MY.out _).mono ?_
      rintro e w3 ⟨rfl, rfl⟩
      obtain ⟨p2, p3, p4, p5, p6⟩ := HQ.out W (Below.refl _ _)
      clear p5 p6
      cases MB
      · go_wp2_with fail
        go_ret
        exact ⟨ret_bool (by rw [HR.out]; simp), hWb⟩
      · go_wp2_with fail
        refine (ZR.out _ (Below.refl _ _)).mono ?_
        rintro e w2 ⟨rfl, hb2⟩
        obtain ⟨p2', p3', p4', p5, p6⟩ := HQ.out w2 hb2
        clear p2 p3 p4 p2' p3' p4' p5
        cases Z
        · go_wp2_with fail
          go_ret
          exact ⟨ret_bool (by rw [HR.out]; rfl), hWb.trans (hb2.mono (by omega))⟩
        · by_cases h0 : ins.length = 0
          · have q2 : ((ins.length : Int) == 0) = true := beq_iff_eq.2 (by omega)
            have HE := Lib.hid (HE0.out h0)
            clear h0 HE0 HE1
            generalize ins.length = l3 at *
            go_wp2_with fail
            go_ret
            exact ⟨ret_bool (by rw [HR.out, HE.out]; rfl), hWb.trans (hb2.mono (by omega))⟩
          · have q2 : ((ins.length : Int) == 0) = false := beq_eq_false_iff_ne.2 (by omega)
            have HE := Lib.hid (HE1.out h0)
            clear h0 HE0 HE1
            generalize ins.length = l3 at *
            go_wp2_with fail
            go_ret
            exact ⟨ret_bool (by rw [HR.out, HE.out]; rfl), hWb.trans (hb2.mono (by omega))⟩
    · have p0 : (kind == 0) = false := by simpa using k0
      have p1 : (kind == 1) = false := by simpa using k1
      cases p2 : (kind == 2)
      · have HR := Lib.hid (RX.out k0 k1 p2)
        clear R0 R1 R2 RX RI1 RI2 RR k0 k1
        generalize rightCel (8 - d) (.mk L kind neg top bot ch ins) = R at *
        go_enter Tryz.func74, Tryz.ntmps74
        go_wp2_with fail
        go_ret
        exact ⟨ret_bool (by rw [HR.out]), by rw [HW.out] at hWb; exact hWb⟩
      · obtain rfl : kind = 2 := by simpa using p2
        have HR := Lib.hid R2.out
        clear R0 R1 R2 RX RR k0 k1 p0 p1 p2
        generalize rightCel (8 - d) (.mk L 2 neg top bot ch ins) = R at *
        obtain ⟨p2, p3, p4, p5, p6⟩ := HQ.out W (Below.refl _ _)
        rw [HW.out] at p2 p3 p4 p5 p6
        by_cases h2 : d < 8
        · have q3 : decide ((d : Int) < (8 : Int)) = true := decide_eq_true (by omega)
          have HD : Hid (decide (0 < 8 - d) = true) := Lib.hid (decide_eq_true (by omega))
          by_cases h1 : ins.length = 1
          · have q2 : ((ins.length : Int) == 1) = true := beq_iff_eq.2 (by omega)
            obtain ⟨a0, ha0⟩ : ∃ a, a = ins[0]'(by omega) := ⟨_, rfl⟩
            have hi := RI2.out h1
            rw [← ha0] at hi
            have HI := Lib.hid hi
            clear hi
            cases q1 : (ch == 0)
            · rw [q1] at HR
              clear RI1 RI2 HE0 HE1 ha0 HI h1 h2
              generalize ins.length = l3 at *
              go_enter Tryz.func74, Tryz.ntmps74
              go_wp2_with fail
              go_ret
              exact ⟨ret_bool (by rw [HR.out]; simp), by rw [HW.out] at hWb; exact hWb⟩
            · rw [q1] at HR
              obtain ⟨b, off, S, X, xn, xc, Y, yn, yc, rfl, hb, HA, g0, g1, g2⟩ := arr_at (k := 0) HS.out HL.out (wr := w) (fun p hp => rfl) (by omega)
              simp only [Nat.zero_mul, Nat.add_zero] at g0 g1 g2
              rw [← ha0] at HA
              have hsa : SizeOf.sizeOf a0 < n := by rw [ha0]; exact hsz0 _ (List.getElem_mem _)
              have SP := Lib.hid (fun (wx : World) (hx : Below w.heap.size w wx) => simpleP_any a0 _ wx B (HA.out.below (hx.mono hB)) (by have := hx.size; omega))
              have IH := fun (wx : World) (hx : Below w.heap.size w wx) => ih a0 _ (d + 1) wx B hsa (HA.out.below (hx.mono hB)) (by have := hx.size; omega) (by omega)
              have hdd : ((d + 1 : Nat) : Int) = (d : Int) + 1 := by omega
              have hde : 8 - (d + 1) = 8 - d - 1 := by omega
              rw [hdd, hde] at IH
              replace IH := Lib.hid IH
              have HG : Hid (∀ wx, Below w.heap.size w wx → wx.cell? ⟨b, off, none⟩ = some (.int .u64 (S : Int)) ∧ wx.cell? ⟨b, off + 1, none⟩ = some (.slice X xn xc) ∧ wx.cell? ⟨b, off + 2, none⟩ = some (.slice Y yn yc)) := Lib.hid (fun wx hx => ⟨(hx.cell (p := ⟨b, off, none⟩) (show b < _ by omega)).trans g0, (hx.cell (p := ⟨b, off + 1, none⟩) (show b < _ by omega)).trans g1, (hx.cell (p := ⟨b, off + 2, none⟩) (show b < _ by omega)).trans g2⟩)
              have hcl : (1 : Int) ≤ (ins.length : Int) := by omega
              clear ha0 hdd hde h1 h2 RI1 RI2 HE0 HE1 g0 g1 g2
              generalize simpleB a0 = SB at *
              generalize rightA (8 - d - 1) a0 = RA at *
              generalize rightIns (8 - d) ins = RI at *
              generalize ins.length = l3 at *
              go_enter Tryz.func74, Tryz.ntmps74
              go_wp2_with fail
              clear p2 p3 p4 p5 p6
              rw [← HW.out]
              refine (ZR.out _ (Below.refl _ _)).mono ?_
              rintro e w2 ⟨rfl, hb2⟩
              obtain ⟨p2, p3, p4, p5, p6⟩ := HQ.out w2 hb2
              clear p2 p3 p4 p5
              have hb3 := hWb.trans (hb2.mono (by omega))
              cases Z
              · go_wp2_with fail
                go_ret
                exact ⟨ret_bool (by rw [HR.out]; rfl), hb3⟩
              · obtain ⟨g0, g1, g2⟩ := HG.out w2 hb3
                go_wp2_with fail
                refine (SP.out _ hb3).mono ?_
                rintro e w3 ⟨rfl, hb4⟩
                have hb5 := hb3.trans (hb4.mono hb3.size)
                clear p6 g0 g1 g2
                obtain ⟨p2, p3, p4, p5, p6⟩ := HQ.out w3 (hb2.trans (hb4.mono hb2.size))
                clear p2 p3 p4 p5
                obtain ⟨g0, g1, g2⟩ := HG.out w3 hb5
                cases SB
                · go_wp2_with fail
                  refine (IH.out _ hb5).mono ?_
                  rintro e w4 ⟨rfl, hb6⟩
                  clear p6 g0 g1 g2
                  go_wp2_with fail
                  go_ret
                  exact ⟨ret_bool (by rw [HR.out, HD.out, HI.out]; simp), hb5.trans (hb6.mono hb5.size)⟩
                · go_wp2_with fail
                  go_ret
                  exact ⟨ret_bool (by rw [HR.out, HD.out, HI.out]; simp), hb5⟩
          · have q2 : ((ins.length : Int) == 1) = false := beq_eq_false_iff_ne.2 (by omega)
            have HI := Lib.hid (RI1.out h1)
            clear h1 RI1 RI2 HE0 HE1 h2
            generalize ins.length = l3 at *
            go_enter Tryz.func74, Tryz.ntmps74
            go_wp2_with fail
            go_ret
            exact ⟨ret_bool (by rw [HR.out, HI.out]; simp), by rw [HW.out] at hWb; exact hWb⟩
        · have q3 : decide ((d : Int) < (8 : Int)) = false := decide_eq_false (by omega)
          have HD : Hid (decide (0 < 8 - d) = false) := Lib.hid (decide_eq_false (by omega))
          clear h2 RI1 RI2 HE0 HE1
          generalize ins.length = l3 at *
          go_enter Tryz.func74, Tryz.ntmps74
          go_wp2_with fail
          go_ret
          exact ⟨ret_bool (by rw [HR.out, HD.out]; simp), by rw [HW.out] at hWb; exact hWb⟩

theorem rightP_step {n : Nat} (ih : RightP n) : RightP (n + 1) := by
  intro a vs d w B hx h hB hd
  obtain ⟨S, shape, cells⟩ := a
  rw [IsArr] at h
  obtain ⟨A, c, A', c', us, rfl, hS, hf, hf', hw, hl, hl', hcs⟩ := h
  obtain ⟨W, hW⟩ : ∃ W, W = w.alloc (.cells #[.int .u64 (S : Int), .slice A shape.length c, .slice A' cells.length c'] 43) := ⟨_, rfl⟩
  have hWs : W.heap.size = w.heap.size + 1 := by rw [hW]; simp
  have hWb : Below w.heap.size w W := by rw [hW]; exact (Below.refl _ _).alloc (Nat.le_refl _) _
  have q2c : W.cell? ⟨w.heap.size, 2, none⟩ = some (.slice A' cells.length c') := by rw [hW]; go_simp
  have HQ2 := Lib.hid q2c
  have HW := Lib.hid hW
  have hWl : w.heap.size < W.heap.size := by omega
  have CT := Lib.hid (shapeCount_any A c shape W B (hl.below (hWb.mono hB)) (by have h1 := hf.1; have h2 := hf.2; omega))
  have HR := Lib.hid (rightA_mk (d := 8 - d) (S := S) (sh := shape) (cells := cells))
  have hfl := (hf'.le (by omega))
  have hsz0 : ∀ a ∈ cells, SizeOf.sizeOf a < n := fun a ha => by
    have h1 := List.sizeOf_lt_of_mem ha
    simp only [Arr.mk.sizeOf_spec] at hx
    omega
  have HC := Lib.hid hcs
  have HL := Lib.hid hl'
  have CE := Lib.hid (fun (k : Nat) (hk : k < cells.length) (u : List Value) (wx : World) (hu : IsCel wx B cells[k] u) (hbx : B ≤ wx.heap.size) => rightCellP_any ih cells[k] u d wx B (hsz0 _ (List.getElem_mem hk)) hu hbx hd)
  have HCV : Hid (cntV shape = .returned (.tuple #[.int .i64 (cnt shape).1, .int .i64 (cnt shape).2])) := Lib.hid rfl
  clear hcs hl' hl hf hf' hw hsz0 hx hW
  generalize rightA (8 - d) (.mk S shape cells) = R at *
  generalize cntV shape = CV at *
  generalize (cnt shape).1 = N at *
  generalize (cnt shape).2 = E at *
  generalize shape.length = l1 at *
  have hcv := HCV.out
  subst hcv
  clear HCV
  cases q1 : (E == 0)
  · rw [q1] at HR
    have q2 : (E != 0) = true := by simpa using q1
    go_enter Tryz.func47, Tryz.ntmps47
    go_wp2_with fail
    rw [← HW.out]
    refine CT.out.mono ?_
    rintro e w2 ⟨rfl, rfl⟩
    go_wp2_with fail
    go_ret
    exact ⟨ret_bool (by rw [HR.out]; rfl), hWb⟩
  · rw [q1] at HR
    have q2 : (E != 0) = false := by simpa using q1
    by_cases hN : N = (cells.length : Int)
    · subst hN
      have q3 : ((cells.length : Int) != (cells.length : Int)) = false := by simp
      have HR2 : Hid (R = rightCels (8 - d) cells) := Lib.hid (by rw [HR.out]; simp)
      clear HR
      go_enter Tryz.func47, Tryz.ntmps47
      go_wp2_with fail
      rw [← HW.out]
      refine CT.out.mono ?_
      rintro e w2 ⟨rfl, rfl⟩
      go_wp2_with fail
      clear q2c
      go_loopw [8, 27] (fun _ i wr => ∃ k : Nat, k ≤ cells.length ∧ i = .int .i64 k ∧ Hid (rightCels (8 - d) (cells.drop k) = rightCels (8 - d) cells) ∧ Below W.heap.size W wr) (fun _ i _ => cells.length - (intOf i).toNat)
      case atStart => exact ⟨0, Nat.zero_le _, rfl, Lib.hid rfl, Below.refl _ _⟩
      case round =>
        obtain ⟨k, hk, rfl, HT, hbel⟩ := hrel
        have hsz := hbel.size
        have hb0 := hWb.trans (hbel.mono (by omega))
        by_cases hlt : k < cells.length
        · obtain ⟨b, off, L, kind, neg, top, bot, ch, ins, A1, c1, A2, c2, A3, c3, us3, rfl, hb, hL, HX, t1, t2, t3, t4, t5, t6, g0, g1, g2, g3, g4, g5, g6⟩ := cel_at HC.out HL.out (wr := wr) (fun p hp => hb0.cell (by omega)) hlt
          have hbx := fun o => hbel.alloc hsz (o := o)
          have CK := Lib.hid (fun o => CE.out k hlt _ (wr.alloc o) ((HX.out.is hL).below ((hb0.mono hB).alloc (by omega) o)) (by simp; omega))
          have HBX : Hid (∀ o, Below W.heap.size W (wr.alloc o)) := Lib.hid (fun o => hbel.alloc hsz o)
          clear hbx
          have HST := Lib.hid (rightCels_drop (d := 8 - d) hlt)
          generalize rightCel (8 - d) cells[k] = RC at *
          have hk0 : (0 : Int) ≤ (k : Int) := by omega
          have hk1 : (k : Int) < (cells.length : Int) := by omega
          go_wp2_with fail
          refine (CK.out _).mono ?_
          rintro e w3 ⟨rfl, hb3⟩
          have hb4 := (HBX.out _).trans (hb3.mono (HBX.out _).size)
          clear g0 g1 g2 g3 g4 g5 g6 hb3
          cases RC
          · have HZ : Hid (R = false) := Lib.hid (by rw [HR2.out, ← HT.out, HST.out]; rfl)
            go_wp2_with fail
            go_ret
            exact ⟨ret_bool (by rw [HZ.out]), hWb.trans (hb4.mono (by omega))⟩
          · have HZ : Hid (rightCels (8 - d) (cells.drop (k + 1)) = rightCels (8 - d) cells) := Lib.hid (by rw [← HT.out, HST.out]; rfl)
            go_wp2_with fail
            go_roundw
            case rel => exact ⟨k + 1, by omega, by go_num, HZ, hb4⟩
            case measure => simp [intOf]; omega
        · have HZ : Hid (R = true) := Lib.hid (by rw [HR2.out, ← HT.out]; exact rightCels_end (by omega))
          go_wp2_with fail
          go_ret
          exact ⟨ret_bool (by rw [HZ.out]), hb0⟩
    · have q3 : (N != (cells.length : Int)) = true := by simpa using hN
      have HR2 : Hid (R = false) := Lib.hid (by rw [HR.out, show (N == (cells.length : Int)) = false by simpa using hN]; rfl)
      clear hN HR
      go_enter Tryz.func47, Tryz.ntmps47
      go_wp2_with fail
      rw [← HW.out]
      refine CT.out.mono ?_
      rintro e w2 ⟨rfl, rfl⟩
      go_wp2_with fail
      go_ret
      exact ⟨ret_bool (by rw [HR2.out]), hWb⟩
theorem rightP_any : ∀ n, RightP n
  | 0 => fun a vs d w B h => by omega
  | n + 1 => rightP_step (rightP_any n)
theorem arrRight_any (a : Arr) (vs : List Value) (w : World) (B : Nat) (h : IsArr w B a vs) (hB : B ≤ w.heap.size) :
    Calls Tryz.prog 18 #[.agg vs.toArray] w fun e w' => e = .returned (.bool (rightA 8 a)) ∧ Below w.heap.size w w' := by
  have RP := Lib.hid (fun (wx : World) (hx : Below w.heap.size w wx) => rightP_any _ a vs 0 wx B (Nat.lt_succ_self _) (h.below (hx.mono hB)) (Nat.le_trans hB hx.size) (by omega))
  obtain ⟨S, A, n, c, A', n', c', rfl⟩ := h.form
  clear h
  have hb : ∀ o, Below w.heap.size w (w.alloc o) := fun o => (Below.refl _ _).alloc (Nat.le_refl _) _
  have HB := Lib.hid hb
  clear hb
  go_enter Tryz.func18, Tryz.ntmps18
  go_wp2_with fail
  refine (RP.out _ (HB.out _)).mono ?_
  rintro e w2 ⟨rfl, hb2⟩
  go_wp2_with fail
  go_ret
  exact ⟨rfl, (HB.out _).trans (hb2.mono (HB.out _).size)⟩
end Go.Proofs.YtmiccalfamepdaaGreatDoor

/-
  Which configurations may be: config.Right, scrimref30.Right; scrimlaw30.few.
-/
namespace Go.Proofs.YtmiccalfamepdaaGreatDoor
open Go.RowKit Ar
set_option maxHeartbeats 4000000
set_option maxRecDepth 100000
set_option linter.unusedVariables false

/-- The cells of one channel of a configuration in a box, in whatever later world. -/
structure ChanIn (w W : World) (B g : Nat) (cf : Cfg) (k : Nat) (A1 A3 : Option Addr) (c1 c3 : Nat) (us1 : List Value) : Prop where
  i : ∀ wx, Below W.heap.size W wx → wx.cell? ⟨g, 8 + k, none⟩ = some (.slice A1 (cf.ins k).length c1)
  d : ∀ wx, Below W.heap.size W wx → wx.cell? ⟨g, 24 + k, none⟩ = some (.slice A3 (cf.draws k).length c3)
  li : Lies w B A1 us1 ∧ IsArrs w B (cf.ins k) us1
  f1 : (cf.ins k).length ≤ 35184372088832
  f2 : (cf.draws k).length ≤ 35184372088832
theorem chan_in {w W : World} {B g : Nat} {cf : Cfg} {C : Array Value} (hC : IsCfg w B cf C) (h0 : W.heap[g]? = some (.cells C 29 (0, 0))) (hg : g < W.heap.size) {k : Nat} (hk : k < 8) :
    ∃ A1 A3 c1 c3 us1, ChanIn w W B g cf k A1 A3 c1 c3 us1 := by
  obtain ⟨A1, c1, us1, i1, i2, i3, i4⟩ := hC.ins k hk
  obtain ⟨A3, c3, d1, d2, d3, d4⟩ := hC.draws k hk
  have q0 : ∀ wx, Below W.heap.size W wx → ∀ i v, C[i]? = some v → wx.cell? ⟨g, i, none⟩ = some v := fun wx hx i v hv => (cell_of_row wx g i _ _ _ ((hx.block g hg).trans h0)).trans hv
  have b1 := i2.1
  have b2 := i2.2.1
  have b5 := d2.1
  have b6 := d2.2.1
  exact ⟨A1, A3, c1, c3, us1, { i := fun wx hx => q0 wx hx _ _ i1, d := fun wx hx => q0 wx hx _ _ d1, li := ⟨i3, i4⟩, f1 := by omega, f2 := by omega }⟩

theorem fewC_any (cf : Cfg) (C : Array Value) (w : World) (B : Nat) (hC : IsCfg w B cf C) (hB : B ≤ w.heap.size) :
    Calls Tryz.prog 6 #[.agg C] w (SomeBool w) := by
  obtain ⟨W, hW⟩ : ∃ W, W = w.alloc (.cells C 29) := ⟨_, rfl⟩
  have hWs : W.heap.size = w.heap.size + 1 := by rw [hW]; simp
  have hWb : Below w.heap.size w W := by rw [hW]; exact (Below.refl _ _).alloc (Nat.le_refl _) _
  have hW0 : W.heap[w.heap.size]? = some (.cells C 29 (0, 0)) := by rw [hW]; exact heap_alloc_new _ _
  have CH := Lib.hid (fun (k : Nat) (hk : k < 8) => chan_in hC hW0 (by omega) hk)
  have HW := Lib.hid hW
  have HKB := Lib.hid (fun (wx : World) (hx : Below W.heap.size W wx) (p : Addr) (hp : p.block < B) => show wx.cell? p = w.cell? p by rw [hx.cell (by omega), hWb.cell (by omega)])
  clear hW hC hW0
  go_enter Tryz.func6, Tryz.ntmps6
  go_wp2_with fail
  rw [← HW.out]
  go_loopw [3] (fun i wr => ∃ k : Nat, k ≤ 8 ∧ i = .int .i64 k ∧ Below W.heap.size W wr) (fun i _ => 8 - (intOf i).toNat)
  case atStart => exact ⟨0, Nat.zero_le _, rfl, Below.refl _ _⟩
  case round =>
    obtain ⟨k, hk, rfl, hbel⟩ := hrel
    by_cases hlt : k < 8
    · obtain ⟨A1, A3, c1, c3, us1, hch⟩ := CH.out k hlt
      have HCH := Lib.hid hch
      have q1 := hch.i wr hbel
      have q2 := hch.d wr hbel
      have f1 := hch.f1
      have f2 := hch.f2
      clear hch
      have hk0 : (0 : Int) ≤ (k : Int) := by omega
      have hk8 : (k : Int) < 8 := by omega
      by_cases h20 : 210 < (cf.ins k).length
      · have e1 : decide ((210 : Int) < ((cf.ins k).length : Int)) = true := decide_eq_true (by omega)
        go_wp2_with fail
        go_ret
        exact ⟨false, rfl, hWb.trans (hbel.mono (by omega))⟩
      · have e1 : decide ((210 : Int) < ((cf.ins k).length : Int)) = false := decide_eq_false (by omega)
        by_cases h60 : 210 < (cf.draws k).length
        · have e2 : decide ((210 : Int) < ((cf.draws k).length : Int)) = true := decide_eq_true (by omega)
          go_wp2_with fail
          go_ret
          exact ⟨false, rfl, hWb.trans (hbel.mono (by omega))⟩
        · have e2 : decide ((210 : Int) < ((cf.draws k).length : Int)) = false := decide_eq_false (by omega)
          go_wp2_with fail
          clear q1 q2 e1 e2
          go_loopw [4] (fun j wr => ∃ i : Nat, i ≤ (cf.ins k).length ∧ j = .int .i64 i ∧ Below W.heap.size W wr) (fun j _ => (cf.ins k).length - (intOf j).toNat)
          case atStart => exact ⟨0, Nat.zero_le _, rfl, hbel⟩
          case round =>
            clear hbel
            obtain ⟨i, hi, rfl, hbel⟩ := hrel
            have hsz := hbel.size
            have q1 := HCH.out.i wr hbel
            by_cases hlt' : i < (cf.ins k).length
            · obtain ⟨b', off', S', X, xn, xc, X', xn', xc', rfl, hb', HA, e0, e1, e2⟩ := arr_at HCH.out.li.2 HCH.out.li.1 (wr := wr) (HKB.out wr hbel) hlt'
              have GD := Lib.hid (fewArr_any (cf.ins k)[i] _ wr B (HA.out.below ((hWb.mono (by omega)).trans (hbel.mono (by omega)))) (by omega))
              have hi0 : (0 : Int) ≤ (i : Int) := by omega
              have hi1 : (i : Int) < ((cf.ins k).length : Int) := by omega
              go_wp2_with fail
              refine GD.out.mono ?_
              rintro e w2 ⟨r, rfl, hb2⟩
              have hb3 := hbel.trans (hb2.mono (by omega))
              cases r
              · go_wp2_with fail
                go_ret
                exact ⟨false, rfl, hWb.trans (hb3.mono (by omega))⟩
              · go_wp2_with fail
                go_roundw
                case rel => exact ⟨i + 1, by omega, by go_num, hb3⟩
                case measure => simp [intOf]; omega
            · go_wp2_with fail
              go_roundw
              case rel => exact ⟨k + 1, by omega, by go_num, hbel⟩
              case measure => simp [intOf]; omega
    · go_wp2_with fail
      go_ret
      exact ⟨true, rfl, hWb.trans (hbel.mono (by omega))⟩

theorem bound_cases (c : Cfg) : (boundB c = true ∧ 0 ≤ c.fuel ∧ c.fuel ≤ 100000 ∧ 0 ≤ c.quota ∧ c.quota ≤ 65536 ∧ 0 ≤ c.depth ∧ c.depth ≤ 64) ∨ (boundB c = false ∧ (c.fuel < 0 ∨ (0 ≤ c.fuel ∧ 100000 < c.fuel) ∨ (0 ≤ c.fuel ∧ c.fuel ≤ 100000 ∧ c.quota < 0) ∨ (0 ≤ c.fuel ∧ c.fuel ≤ 100000 ∧ 0 ≤ c.quota ∧ 65536 < c.quota) ∨ (0 ≤ c.fuel ∧ c.fuel ≤ 100000 ∧ 0 ≤ c.quota ∧ c.quota ≤ 65536 ∧ c.depth < 0) ∨ (0 ≤ c.fuel ∧ c.fuel ≤ 100000 ∧ 0 ≤ c.quota ∧ c.quota ≤ 65536 ∧ 0 ≤ c.depth ∧ 64 < c.depth))) := by
  have e : boundB c = decide (0 ≤ c.fuel ∧ c.fuel ≤ 100000 ∧ 0 ≤ c.quota ∧ c.quota ≤ 65536 ∧ 0 ≤ c.depth ∧ c.depth ≤ 64) := by
    unfold boundB; rw [Bool.eq_iff_iff]; simp only [Bool.and_eq_true, decide_eq_true_eq]; omega
  rw [e]
  by_cases h : 0 ≤ c.fuel ∧ c.fuel ≤ 100000 ∧ 0 ≤ c.quota ∧ c.quota ≤ 65536 ∧ 0 ≤ c.depth ∧ c.depth ≤ 64
  · exact .inl ⟨decide_eq_true h, h⟩
  · exact .inr ⟨decide_eq_false h, by omega⟩
theorem tot_ne (a : Arr) : ((tot a : Int) != 0) = !(tot a == 0) := by
  by_cases e : tot a = 0
  · rw [e]; rfl
  · have e1 : ((tot a : Int) != 0) = true := bne_iff_ne.2 (by omega)
    have e2 : (tot a == 0) = false := beq_eq_false_iff_ne.2 e
    rw [e1, e2]; rfl

theorem refRightC_any (cf : Cfg) (C : Array Value) (w : World) (B : Nat) (hC : IsCfg w B cf C) (hB : B ≤ w.heap.size) :
    Calls Tryz.prog 9 #[.agg C] w fun e w' => e = .returned (.bool (rightC cf)) ∧ Below w.heap.size w w' := by
  obtain ⟨W, hW⟩ : ∃ W, W = w.alloc (.cells C 29) := ⟨_, rfl⟩
  have hWs : W.heap.size = w.heap.size + 1 := by rw [hW]; simp
  have hWb : Below w.heap.size w W := by rw [hW]; exact (Below.refl _ _).alloc (Nat.le_refl _) _
  have hW0 : W.heap[w.heap.size]? = some (.cells C 29 (0, 0)) := by rw [hW]; exact heap_alloc_new _ _
  have CH := Lib.hid (fun (k : Nat) (hk : k < 8) => chan_in hC hW0 (by omega) hk)
  have p33 : W.cell? ⟨w.heap.size, 33, none⟩ = some (.int .i64 cf.fuel) := (cell_of_row W _ 33 _ _ _ hW0).trans hC.fuel
  have p34 : W.cell? ⟨w.heap.size, 34, none⟩ = some (.int .i64 cf.quota) := (cell_of_row W _ 34 _ _ _ hW0).trans hC.quota
  have p35 : W.cell? ⟨w.heap.size, 35, none⟩ = some (.int .i64 cf.depth) := (cell_of_row W _ 35 _ _ _ hW0).trans hC.depth
  rw [hW] at p33 p34 p35
  have HW := Lib.hid hW
  have HKB := Lib.hid (fun (wx : World) (hx : Below W.heap.size W wx) (p : Addr) (hp : p.block < B) => show wx.cell? p = w.cell? p by rw [hx.cell (by omega), hWb.cell (by omega)])
  have HR : Hid (rightC cf = (boundB cf && rowsR cf 0)) := Lib.hid rfl
  have HBC := Lib.hid (bound_cases cf)
  clear hW hC hW0
  generalize rightC cf = R at *
  rcases HBC.out with ⟨hbb, b1, b2, b3, b4, b5, b6⟩ | ⟨hbb, hbad⟩
  · have HR2 : Hid (R = rowsR cf 0) := Lib.hid (by rw [HR.out, hbb]; rfl)
    clear hbb HBC HR
    go_enter Tryz.func9, Tryz.ntmps9
    go_wp2_with fail
    rw [← HW.out]
    clear p33 p34 p35 b1 b2 b3 b4 b5 b6
    go_loopw [3] (fun i wr => ∃ k : Nat, k ≤ 8 ∧ i = .int .i64 k ∧ Hid (rowsR cf k = rowsR cf 0) ∧ Below W.heap.size W wr) (fun i _ => 8 - (intOf i).toNat)
    case atStart => exact ⟨0, Nat.zero_le _, rfl, Lib.hid rfl, Below.refl _ _⟩
    case round =>
      obtain ⟨k, hk, rfl, HT, hbel⟩ := hrel
      by_cases hlt : k < 8
      · obtain ⟨A1, A3, c1, c3, us1, hch⟩ := CH.out k hlt
        have HCH := Lib.hid hch
        have q1 := hch.i wr hbel
        have q2 := hch.d wr hbel
        have f1 := hch.f1
        have f2 := hch.f2
        have HST : Hid (rowsR cf 0 = (rowR cf k && rowsR cf (k + 1))) := Lib.hid (by rw [← HT.out, rowsR_step hlt])
        have HRR : Hid (rowR cf k = (decide ((cf.ins k).length ≤ 200) && decide ((cf.draws k).length ≤ 200) && (cf.ins k).all arrOk)) := Lib.hid rfl
        clear hch
        have hk0 : (0 : Int) ≤ (k : Int) := by omega
        have hk8 : (k : Int) < 8 := by omega
        by_cases h20 : 200 < (cf.ins k).length
        · have e1 : decide ((200 : Int) < ((cf.ins k).length : Int)) = true := decide_eq_true (by omega)
          have HZ : Hid (R = false) := Lib.hid (by rw [HR2.out, HST.out, HRR.out, decide_eq_false (by omega : ¬ (cf.ins k).length ≤ 200)]; rfl)
          go_wp2_with fail
          go_ret
          exact ⟨ret_bool (by rw [HZ.out]), hWb.trans (hbel.mono (by omega))⟩
        · have e1 : decide ((200 : Int) < ((cf.ins k).length : Int)) = false := decide_eq_false (by omega)
          by_cases h60 : 200 < (cf.draws k).length
          · have e2 : decide ((200 : Int) < ((cf.draws k).length : Int)) = true := decide_eq_true (by omega)
            have HZ : Hid (R = false) := Lib.hid (by rw [HR2.out, HST.out, HRR.out, decide_eq_false (by omega : ¬ (cf.draws k).length ≤ 200)]; simp)
            go_wp2_with fail
            go_ret
            exact ⟨ret_bool (by rw [HZ.out]), hWb.trans (hbel.mono (by omega))⟩
          · have e2 : decide ((200 : Int) < ((cf.draws k).length : Int)) = false := decide_eq_false (by omega)
            have HRR2 : Hid (rowR cf k = (cf.ins k).all arrOk) := Lib.hid (by rw [HRR.out, decide_eq_true (by omega : (cf.ins k).length ≤ 200), decide_eq_true (by omega : (cf.draws k).length ≤ 200)]; rfl)
            clear HRR
            go_wp2_with fail
            clear q1 q2 e1 e2
            go_loopw [4] (fun j wr => ∃ i : Nat, i ≤ (cf.ins k).length ∧ j = .int .i64 i ∧ Hid (((cf.ins k).drop i).all arrOk = (cf.ins k).all arrOk) ∧ Below W.heap.size W wr) (fun j _ => (cf.ins k).length - (intOf j).toNat)
            case atStart => exact ⟨0, Nat.zero_le _, rfl, Lib.hid rfl, hbel⟩
            case round =>
              clear hbel
              obtain ⟨i, hi, rfl, HTI, hbel⟩ := hrel
              have hsz := hbel.size
              have q1 := HCH.out.i wr hbel
              by_cases hlt' : i < (cf.ins k).length
              · obtain ⟨b', off', S', X, xn, xc, X', xn', xc', rfl, hb', HA, e0, e1, e2⟩ := arr_at HCH.out.li.2 HCH.out.li.1 (wr := wr) (HKB.out wr hbel) hlt'
                have HSI := Lib.hid (oks_drop hlt')
                have HI2 := Lib.hid HCH.out.i
                have RG := Lib.hid (refRight_any _ (cf.ins k)[i] _ 8 wr B (Nat.lt_succ_self _) (HA.out.below ((hWb.mono (by omega)).trans (hbel.mono (by omega)))) (by omega) (by omega))
                have TG := Lib.hid (fun (wx : World) (hx : Below W.heap.size W wx) => refTotal_any _ (cf.ins k)[i] _ wx B (Nat.lt_succ_self _) (HA.out.below ((hWb.mono (by omega)).trans (hx.mono (by omega)))) (by have := hx.size; omega))
                have HTN := Lib.hid (tot_ne (cf.ins k)[i])
                have hbl : b' < wr.heap.size := by omega
                generalize rightA 8 (cf.ins k)[i] = RA at *
                generalize (tot (cf.ins k)[i] == 0) = TB at *
                generalize tot (cf.ins k)[i] = T at *
                have hi0 : (0 : Int) ≤ (i : Int) := by omega
                have hi1 : (i : Int) < ((cf.ins k).length : Int) := by omega
                go_wp2_with fail
                refine RG.out.mono ?_
                rintro e w2 ⟨rfl, hb2⟩
                have hb3 := hbel.trans (hb2.mono (by omega))
                cases RA
                · have HZ : Hid (R = false) := Lib.hid (by rw [HR2.out, HST.out, HRR2.out, ← HTI.out, HSI.out]; rfl)
                  go_wp2_with fail
                  go_ret
                  exact ⟨ret_bool (by rw [HZ.out]), hWb.trans (hb3.mono (by omega))⟩
                · have g0 : w2.cell? ⟨b', off' + i * 3, none⟩ = _ := (hb2.cell (p := ⟨b', off' + i * 3, none⟩) hbl).trans e0
                  have g1 : w2.cell? ⟨b', off' + i * 3 + 1, none⟩ = _ := (hb2.cell (p := ⟨b', off' + i * 3 + 1, none⟩) hbl).trans e1
                  have g2 : w2.cell? ⟨b', off' + i * 3 + 2, none⟩ = _ := (hb2.cell (p := ⟨b', off' + i * 3 + 2, none⟩) hbl).trans e2
                  clear e0 e1 e2 q1
                  have q1 := HI2.out w2 hb3
                  have TG2 := Lib.hid (TG.out w2 hb3)
                  go_wp2_with fail
                  refine TG2.out.mono ?_
                  rintro e w4 ⟨rfl, hb4⟩
                  have hb5 := hb3.trans (hb4.mono hb3.size)
                  clear q1 g0 g1 g2
                  cases TB
                  · have qt : ((T : Int) != 0) = true := HTN.out
                    have HZ : Hid (R = false) := Lib.hid (by rw [HR2.out, HST.out, HRR2.out, ← HTI.out, HSI.out]; rfl)
                    go_wp2_with fail
                    go_ret
                    exact ⟨ret_bool (by rw [HZ.out]), hWb.trans (hb5.mono (by omega))⟩
                  · have qt : ((T : Int) != 0) = false := HTN.out
                    have HZ : Hid (((cf.ins k).drop (i + 1)).all arrOk = (cf.ins k).all arrOk) := Lib.hid (by rw [← HTI.out, HSI.out]; rfl)
                    go_wp2_with fail
                    go_roundw
                    case rel => exact ⟨i + 1, by omega, by go_num, HZ, hb5⟩
                    case measure => simp [intOf]; omega
              · have HZ : Hid (rowsR cf (k + 1) = rowsR cf 0) := Lib.hid (by rw [HST.out, HRR2.out, ← HTI.out, oks_end (by omega)]; rfl)
                go_wp2_with fail
                go_roundw
                case rel => exact ⟨k + 1, by omega, by go_num, HZ, hbel⟩
                case measure => simp [intOf]; omega
      · obtain rfl : k = 8 := by omega
        have HZ : Hid (R = true) := Lib.hid (by rw [HR2.out, ← HT.out, rowsR_end])
        go_wp2_with fail
        go_ret
        exact ⟨ret_bool (by rw [HZ.out]), hWb.trans (hbel.mono (by omega))⟩
  · have HZ : Hid (R = false) := Lib.hid (by rw [HR.out, hbb]; rfl)
    clear hbb HBC HR
    rcases hbad with h | h | h | h | h | h
    all_goals
      go_enter Tryz.func9, Tryz.ntmps9
      go_wp2_with fail
      go_ret
      exact ⟨ret_bool (by rw [HZ.out]), by rw [HW.out] at hWb; exact hWb⟩
theorem rightC_any (cf : Cfg) (C : Array Value) (w : World) (B : Nat) (hC : IsCfg w B cf C) (hB : B ≤ w.heap.size) :
    Calls Tryz.prog 8 #[.agg C] w fun e w' => e = .returned (.bool (rightC cf)) ∧ Below w.heap.size w w' := by
  obtain ⟨W, hW⟩ : ∃ W, W = w.alloc (.cells C 29) := ⟨_, rfl⟩
  have hWs : W.heap.size = w.heap.size + 1 := by rw [hW]; simp
  have hWb : Below w.heap.size w W := by rw [hW]; exact (Below.refl _ _).alloc (Nat.le_refl _) _
  have hW0 : W.heap[w.heap.size]? = some (.cells C 29 (0, 0)) := by rw [hW]; exact heap_alloc_new _ _
  have CH := Lib.hid (fun (k : Nat) (hk : k < 8) => chan_in hC hW0 (by omega) hk)
  have p33 : W.cell? ⟨w.heap.size, 33, none⟩ = some (.int .i64 cf.fuel) := (cell_of_row W _ 33 _ _ _ hW0).trans hC.fuel
  have p34 : W.cell? ⟨w.heap.size, 34, none⟩ = some (.int .i64 cf.quota) := (cell_of_row W _ 34 _ _ _ hW0).trans hC.quota
  have p35 : W.cell? ⟨w.heap.size, 35, none⟩ = some (.int .i64 cf.depth) := (cell_of_row W _ 35 _ _ _ hW0).trans hC.depth
  rw [hW] at p33 p34 p35
  have HW := Lib.hid hW
  have HKB := Lib.hid (fun (wx : World) (hx : Below W.heap.size W wx) (p : Addr) (hp : p.block < B) => show wx.cell? p = w.cell? p by rw [hx.cell (by omega), hWb.cell (by omega)])
  have HR : Hid (rightC cf = (boundB cf && rowsR cf 0)) := Lib.hid rfl
  have HBC := Lib.hid (bound_cases cf)
  clear hW hC hW0
  generalize rightC cf = R at *
  rcases HBC.out with ⟨hbb, b1, b2, b3, b4, b5, b6⟩ | ⟨hbb, hbad⟩
  · have HR2 : Hid (R = rowsR cf 0) := Lib.hid (by rw [HR.out, hbb]; rfl)
    clear hbb HBC HR
    go_enter Tryz.func8, Tryz.ntmps8
    go_wp2_with fail
    rw [← HW.out]
    clear p33 p34 p35 b1 b2 b3 b4 b5 b6
    go_loopw [3, 5, 34] (fun _ _ i wr => ∃ k : Nat, k ≤ 8 ∧ i = .int .i64 k ∧ Hid (rowsR cf k = rowsR cf 0) ∧ Below W.heap.size W wr) (fun _ _ i _ => 8 - (intOf i).toNat)
    case atStart => exact ⟨0, Nat.zero_le _, rfl, Lib.hid rfl, Below.refl _ _⟩
    case round =>
      obtain ⟨k, hk, rfl, HT, hbel⟩ := hrel
      by_cases hlt : k < 8
      · obtain ⟨A1, A3, c1, c3, us1, hch⟩ := CH.out k hlt
        have HCH := Lib.hid hch
        have q1 := hch.i wr hbel
        have q2 := hch.d wr hbel
        have f1 := hch.f1
        have f2 := hch.f2
        have HST : Hid (rowsR cf 0 = (rowR cf k && rowsR cf (k + 1))) := Lib.hid (by rw [← HT.out, rowsR_step hlt])
        have HRR : Hid (rowR cf k = (decide ((cf.ins k).length ≤ 200) && decide ((cf.draws k).length ≤ 200) && (cf.ins k).all arrOk)) := Lib.hid rfl
        clear hch
        have hk0 : (0 : Int) ≤ (k : Int) := by omega
        have hk8 : (k : Int) < 8 := by omega
        by_cases h20 : 200 < (cf.ins k).length
        · have e1 : decide ((200 : Int) < ((cf.ins k).length : Int)) = true := decide_eq_true (by omega)
          have HZ : Hid (R = false) := Lib.hid (by rw [HR2.out, HST.out, HRR.out, decide_eq_false (by omega : ¬ (cf.ins k).length ≤ 200)]; rfl)
          go_wp2_with fail
          go_ret
          exact ⟨ret_bool (by rw [HZ.out]), hWb.trans (hbel.mono (by omega))⟩
        · have e1 : decide ((200 : Int) < ((cf.ins k).length : Int)) = false := decide_eq_false (by omega)
          by_cases h60 : 200 < (cf.draws k).length
          · have e2 : decide ((200 : Int) < ((cf.draws k).length : Int)) = true := decide_eq_true (by omega)
            have HZ : Hid (R = false) := Lib.hid (by rw [HR2.out, HST.out, HRR.out, decide_eq_false (by omega : ¬ (cf.draws k).length ≤ 200)]; simp)
            go_wp2_with fail
            go_ret
            exact ⟨ret_bool (by rw [HZ.out]), hWb.trans (hbel.mono (by omega))⟩
          · have e2 : decide ((200 : Int) < ((cf.draws k).length : Int)) = false := decide_eq_false (by omega)
            have HRR2 : Hid (rowR cf k = (cf.ins k).all arrOk) := Lib.hid (by rw [HRR.out, decide_eq_true (by omega : (cf.ins k).length ≤ 200), decide_eq_true (by omega : (cf.draws k).length ≤ 200)]; rfl)
            clear HRR
            go_wp2_with fail
            clear q1 q2 e1 e2
            go_loopw [5, 56] (fun _ j wr => ∃ i : Nat, i ≤ (cf.ins k).length ∧ j = .int .i64 i ∧ Hid (((cf.ins k).drop i).all arrOk = (cf.ins k).all arrOk) ∧ Below W.heap.size W wr) (fun _ j _ => (cf.ins k).length - (intOf j).toNat)
            case atStart => exact ⟨0, Nat.zero_le _, rfl, Lib.hid rfl, hbel⟩
            case round =>
              clear hbel
              obtain ⟨i, hi, rfl, HTI, hbel⟩ := hrel
              have hsz := hbel.size
              have q1 := HCH.out.i wr hbel
              by_cases hlt' : i < (cf.ins k).length
              · obtain ⟨b', off', S', X, xn, xc, X', xn', xc', rfl, hb', HA, e0, e1, e2⟩ := arr_at HCH.out.li.2 HCH.out.li.1 (wr := wr) (HKB.out wr hbel) hlt'
                have HSI := Lib.hid (oks_drop hlt')
                have HI2 := Lib.hid HCH.out.i
                have hbx : ∀ o, Below W.heap.size W (wr.alloc o) := fun o => hbel.alloc hsz o
                have RG := Lib.hid (fun o => arrRight_any (cf.ins k)[i] _ (wr.alloc o) B (HA.out.below ((hWb.mono (by omega)).trans ((hbx o).mono (by omega)))) (by have := (hbx o).size; omega))
                have TG := Lib.hid (fun (wx : World) (hx : Below W.heap.size W wx) => total_any _ (cf.ins k)[i] _ wx B (Nat.lt_succ_self _) (HA.out.below ((hWb.mono (by omega)).trans (hx.mono (by omega)))) (by have := hx.size; omega))
                have HBX := Lib.hid hbx
                clear hbx
                have HTN := Lib.hid (tot_ne (cf.ins k)[i])
                have hbl : b' < wr.heap.size := by omega
                generalize rightA 8 (cf.ins k)[i] = RA at *
                generalize (tot (cf.ins k)[i] == 0) = TB at *
                generalize tot (cf.ins k)[i] = T at *
                have hi0 : (0 : Int) ≤ (i : Int) := by omega
                have hi1 : (i : Int) < ((cf.ins k).length : Int) := by omega
                go_wp2_with fail
                clear q1 e0 e1 e2
                refine (RG.out _).mono ?_
                rintro e w2 ⟨rfl, hb2⟩
                have hb3 := (HBX.out _).trans (hb2.mono (HBX.out _).size)
                cases RA
                · have HZ : Hid (R = false) := Lib.hid (by rw [HR2.out, HST.out, HRR2.out, ← HTI.out, HSI.out]; rfl)
                  go_wp2_with fail
                  go_ret
                  exact ⟨ret_bool (by rw [HZ.out]), hWb.trans (hb3.mono (by omega))⟩
                · have hc : ∀ o, w2.cell? ⟨wr.heap.size, o, none⟩ = (wr.alloc (.cells #[.int .u64 (S' : Int), .slice X xn xc, .slice X' xn' xc'] 43)).cell? ⟨wr.heap.size, o, none⟩ := fun o => hb2.cell (p := ⟨wr.heap.size, o, none⟩) (by show wr.heap.size < _; simp)
                  have TG2 := Lib.hid (TG.out w2 hb3)
                  go_wp2_with fail
                  refine TG2.out.mono ?_
                  rintro e w4 ⟨rfl, hb4⟩
                  have hb5 := hb3.trans (hb4.mono hb3.size)
                  clear hc
                  cases TB
                  · have qt : ((T : Int) != 0) = true := HTN.out
                    have HZ : Hid (R = false) := Lib.hid (by rw [HR2.out, HST.out, HRR2.out, ← HTI.out, HSI.out]; rfl)
                    go_wp2_with fail
                    go_ret
                    exact ⟨ret_bool (by rw [HZ.out]), hWb.trans (hb5.mono (by omega))⟩
                  · have qt : ((T : Int) != 0) = false := HTN.out
                    have HZ : Hid (((cf.ins k).drop (i + 1)).all arrOk = (cf.ins k).all arrOk) := Lib.hid (by rw [← HTI.out, HSI.out]; rfl)
                    go_wp2_with fail
                    go_roundw
                    case rel => exact ⟨i + 1, by omega, by go_num, HZ, hb5⟩
                    case measure => simp [intOf]; omega
              · have HZ : Hid (rowsR cf (k + 1) = rowsR cf 0) := Lib.hid (by rw [HST.out, HRR2.out, ← HTI.out, oks_end (by omega)]; rfl)
                go_wp2_with fail
                go_roundw
                case rel => exact ⟨k + 1, by omega, by go_num, HZ, hbel⟩
                case measure => simp [intOf]; omega
      · obtain rfl : k = 8 := by omega
        have HZ : Hid (R = true) := Lib.hid (by rw [HR2.out, ← HT.out, rowsR_end])
        go_wp2_with fail
        go_ret
        exact ⟨ret_bool (by rw [HZ.out]), hWb.trans (hbel.mono (by omega))⟩
  · have HZ : Hid (R = false) := Lib.hid (by rw [HR.out, hbb]; rfl)
    clear hbb HBC HR
    rcases hbad with h | h | h | h | h | h
    all_goals
      go_enter Tryz.func8, Tryz.ntmps8
      go_wp2_with fail
      go_ret
      exact ⟨ret_bool (by rw [HZ.out]), by rw [HW.out] at hWb; exact hWb⟩
end Go.Proofs.YtmiccalfamepdaaGreatDoor
