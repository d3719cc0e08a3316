/-
  What nat.Sub computes: the digits of the difference, and whether there is one.
-/
import Derived.Test.YtgicgmaiolfpkaaNat3
namespace Go.Proofs.Ytgicgmaiolfpkaa
open Go.RowKit
set_option maxHeartbeats 1000000
set_option linter.unusedVariables false

/-! ### Sub -/
/-- Limbs that a call handed back: a slice that holds them. -/
def IsRes (w : World) (v : Value) (ds : List Nat) : Prop := ∃ A c, v = .slice A ds.length c ∧ ds.length ≤ c ∧ c ≤ 9223372036854775807 ∧ (A = none → c = 0) ∧ Lies w w.heap.size A (U ds)
theorem IsRes.of_own {w : World} {base : Nat} {v : Value} {ds : List Nat} (h : w.ownsRow base 32 1 v ds.length (U ds)) : IsRes w v ds := by
  obtain ⟨A, c, rfl, h1, h2⟩ := own_slice h
  refine ⟨A, c, rfl, h1, h2, ?_, Lies.of_own h⟩
  rintro rfl
  rcases h.2 with ⟨hv, _⟩ | ⟨g, cap, cur, hv, _⟩
  · injection hv
  · injection hv with e; cases e
theorem IsRes.none_ (w : World) : IsRes w (.slice none 0 0) [] := ⟨none, 0, rfl, Nat.le_refl _, by omega, fun _ => rfl, .inl rfl⟩
theorem IsRes.below {w w' : World} {v : Value} {ds : List Nat} (h : IsRes w v ds) (hb : Below w.heap.size w w') : IsRes w' v ds := by
  obtain ⟨A, c, h1, h2, h3, h4, h5⟩ := h
  exact ⟨A, c, h1, h2, h3, h4, (h5.below hb).more hb.size⟩
theorem sub_any (A A' : Option Addr) (c c' B : Nat) (a b : List Nat) (w : World) (hx : Lies w B A (U a)) (hy : Lies w B A' (U b)) (hB : B ≤ w.heap.size) (ha : Nt.Ok a) (hb : Nt.Ok b)
    (hc : a.length ≤ c) (hc' : b.length ≤ c') (hm : c ≤ 9223372036854775807) (hm' : c' ≤ 9223372036854775807) (hs : a.length ≤ 17592186044416) (hs' : b.length ≤ 17592186044416) :
    Calls Try.prog 15 #[.slice A a.length c, .slice A' b.length c'] w fun e w' => ∃ v, e = .returned (.tuple #[v, .bool (decide (Nt.val b ≤ Nt.val a))]) ∧ IsRes w' v (Nt.digs (Nt.val a - Nt.val b)) ∧ Below w.heap.size w w' := by
  have ha' := Nt.digs_len_le ha
  have CM := Lib.hid (cmp_any A A' c c' B a b w hx hy ha hb hc hc' hm hm')
  have NA := Lib.hid (fun n => norm_any A c B a (w.drewN n) hx hB ha hc hm (by omega))
  have TB := Lib.hid (fun w' h => trim_any A' c' w.heap.size b w' h hb hc' hm')
  have LY := Lib.hid (hy.more hB)
  have LB := Lib.hid ((hy.digs hb).more hB)
  have OA := Lib.hid (Nt.ok_digs (Nt.val a))
  have OB := Lib.hid (Nt.ok_digs (Nt.val b))
  clear hx hy
  by_cases hlt : Nt.val a < Nt.val b
  · have HE : Hid (Nt.cmp (Nt.val a) (Nt.val b) = -1) := Lib.hid (Nt.cmp_lt hlt)
    have HD : Hid (decide (Nt.val b ≤ Nt.val a) = false) := Lib.hid (by simp; omega)
    have HZ : Hid (Nt.digs (Nt.val a - Nt.val b) = []) := Lib.hid (by rw [show Nt.val a - Nt.val b = 0 by omega, Nt.digs_zero])
    go_enter Try.func15, Try.ntmps15
    go_wp2_with fail
    refine CM.out.mono ?_
    rintro e w' ⟨rfl, n1, rfl⟩
    rw [HE.out]
    go_wp2_with fail
    go_ret2
    refine ⟨_, by rw [HD.out]; rfl, by rw [HZ.out]; exact IsRes.none_ _, ?_⟩
    exact ⟨rfl, rfl, rfl, Nat.le_refl _, fun _ _ => rfl⟩
  · have hle : Nt.val b ≤ Nt.val a := by omega
    have HD : Hid (decide (Nt.val b ≤ Nt.val a) = true) := Lib.hid (by simp; omega)
    have hcmp : decide (Nt.cmp (Nt.val a) (Nt.val b) < 0) = false := by rw [decide_eq_false_iff_not, Nt.cmp_neg]; omega
    have hdl := Nt.digs_len_le_of hle
    have EN := Lib.hid (fun cur k c h hc hk => Nt.sub_end (dp := Nt.digs (Nt.val a)) (dq := Nt.digs (Nt.val b)) (cur := cur) (k := k) (c := c) h hdl (by rw [Nt.val_digs, Nt.val_digs]; exact hle) hc hk)
    rw [Nt.val_digs, Nt.val_digs] at EN
    generalize Nt.cmp (Nt.val a) (Nt.val b) = cm at *
    generalize Nt.val a = x0 at *
    generalize Nt.val b = y0 at *
    generalize Nt.digs x0 = da at *
    generalize Nt.digs y0 = db at *
    go_enter Try.func15, Try.ntmps15
    go_wp2_with fail
    refine CM.out.mono ?_
    rintro e w' ⟨rfl, n1, rfl⟩
    go_wp2_with fail
    refine (NA.out n1).mono ?_
    rintro e w1 ⟨rfl, hblk1, hb1⟩
    have hb0 : Below w.heap.size w w1 := ⟨hb1.os, hb1.tape, hb1.output, hb1.size, hb1.block⟩
    have hblk0 : Blk w1 w.heap.size 32 (U da) := hblk1
    clear hb1 hblk1
    go_wp2_with fail
    refine (TB.out w1 (LY.out.below hb0)).mono ?_
    rintro e w' ⟨rfl, rfl⟩
    go_wp2_with fail
    go_loopw [7, 20] (fun cv i wr => ∃ (k c : Nat) (cur : List Nat), k ≤ da.length ∧ c ≤ 1 ∧ i = .int .i64 (k : Int) ∧ cv = .int .u32 (c : Int) ∧ Blk wr w.heap.size 32 (U cur) ∧ Below w.heap.size w wr ∧ Hid (Nt.SubAt da db cur k c)) (fun _ i _ => da.length - (intOf i).toNat)
    case atStart => exact ⟨0, 0, da, Nat.zero_le _, by omega, rfl, rfl, hblk0, hb0, Lib.hid (Nt.sub_start OA.out)⟩
    case round =>
      clear hblk0 hb0
      obtain ⟨k, c, cur, hk, hc1, rfl, rfl, hblk, hbel, H⟩ := hrel
      by_cases hlt : k < da.length
      · have hcl : cur.length = da.length := H.out.1
        have hget := Nt.sub_get H.out hlt
        have hcell : wr.cell? ⟨w.heap.size, k, none⟩ = some (.int .u32 ((da[k] : Nat) : Int)) := hblk.cell (by
          rw [U, List.getElem?_map, hget]; rfl)
        have hfz := hblk.frozen k
        have hxb := Nt.ok_get OA.out hlt
        have ST : Hid (∀ s d, s < 4294967296 → da[k] + 4294967296 * d = s + db.getD k 0 + c → Nt.SubAt da db (cur.set k s) (k + 1) d) := Lib.hid (fun s d hs e => Nt.sub_step H.out hlt hs e)
        have BS : Hid (∀ s : Nat, Blk (wr.setCell ⟨w.heap.size, k, none⟩ (.int .u32 (s : Int))) w.heap.size 32 (U (cur.set k s))) := Lib.hid (fun s => by
          have := hblk.set_ k (.int .u32 (s : Int))
          rw [show (U cur).set k (.int .u32 (s : Int)) = U (cur.set k s) from List.map_set.symm] at this
          exact this)
        have hsz := hblk.lt
        have HBK := Lib.hid hblk
        clear hcl hget hblk
        generalize da[k] = x at hcell hxb ST
        by_cases hq : k < db.length
        · obtain ⟨b2, off2, rfl, hb2, hc2⟩ := (LB.out.below hbel).limb hq
          have hyb := Nt.ok_get OB.out hq
          have HG : Hid (db.getD k 0 = db[k]) := Lib.hid (by rw [List.getD_eq_getElem?_getD, List.getElem?_eq_getElem hq]; rfl)
          generalize db[k] = y at hc2 hyb HG
          go_wp2_with (go_at_call 31; refine (sub32_any _ _ _ _ hxb hyb hc1).mono ?_; rintro e w' ⟨s, d, rfl, hs, hd1, HE, rfl⟩)
          go_roundw
          case rel => exact ⟨k + 1, d, cur.set k s, by omega, hd1, by go_num, rfl, BS.out s, hbel.setCell (Nat.le_refl _) _, Lib.hid (ST.out s d hs (by rw [HG.out]; exact HE.out))⟩
          case measure => simp [intOf]; omega
        · have HG : Hid (db.getD k 0 = 0) := Lib.hid (by rw [List.getD_eq_getElem?_getD, List.getElem?_eq_none (by omega)]; rfl)
          by_cases hc0 : c = 0
          · subst hc0
            have HV : Hid (Nt.val cur = x0 - y0) := Lib.hid (EN.out cur k 0 H.out (by omega) (.inr ⟨hk, rfl, by omega⟩))
            have HL : Hid (cur.length = da.length) := Lib.hid H.out.1
            have HO : Hid (Nt.Ok cur) := Lib.hid H.out.2.1
            have HTR := trim_any (some ⟨w.heap.size, 0, none⟩) da.length wr.heap.size cur wr HBK.out.lies HO.out (by rw [HL.out]; omega) (by omega)
            rw [HV.out, HL.out] at HTR
            have HTR2 := Lib.hid HTR
            clear HTR
            go_wp2_with fail
            refine HTR2.out.mono ?_
            rintro e w' ⟨rfl, rfl⟩
            go_wp2_with fail
            go_ret2
            refine ⟨_, by rw [HD.out]; rfl, ⟨_, _, rfl, Nat.le_refl _, ?_, (fun h => by cases h), ?_⟩, hbel⟩
            · have := Nt.digs_len_le HO.out; rw [HV.out, HL.out] at this; omega
            · have := HBK.out.lies.digs HO.out; rw [HV.out] at this; exact this
          · obtain rfl : c = 1 := by omega
            go_wp2_with (go_at_call 31; refine (sub32_any _ 0 1 _ hxb (by omega) (by omega)).mono ?_; rintro e w' ⟨s, d, rfl, hs, hd1, HE, rfl⟩)
            go_roundw
            case rel => exact ⟨k + 1, d, cur.set k s, by omega, hd1, by go_num, rfl, BS.out s, hbel.setCell (Nat.le_refl _) _, Lib.hid (ST.out s d hs (by rw [HG.out]; exact HE.out))⟩
            case measure => simp [intOf]; omega
      · obtain rfl : k = da.length := by omega
        have HV : Hid (Nt.val cur = x0 - y0) := Lib.hid (EN.out cur _ c H.out hc1 (.inl rfl))
        have HL : Hid (cur.length = da.length) := Lib.hid H.out.1
        have HO : Hid (Nt.Ok cur) := Lib.hid H.out.2.1
        have HBK := Lib.hid hblk
        have HTR := trim_any (some ⟨w.heap.size, 0, none⟩) da.length wr.heap.size cur wr hblk.lies HO.out (by rw [HL.out]; omega) (by omega)
        rw [HV.out, HL.out] at HTR
        have HTR2 := Lib.hid HTR
        clear HTR hblk
        go_wp2_with fail
        refine HTR2.out.mono ?_
        rintro e w' ⟨rfl, rfl⟩
        go_wp2_with fail
        go_ret2
        refine ⟨_, by rw [HD.out]; rfl, ⟨_, _, rfl, Nat.le_refl _, ?_, (fun h => by cases h), ?_⟩, hbel⟩
        · have := Nt.digs_len_le HO.out; rw [HV.out, HL.out] at this; omega
        · have := HBK.out.lies.digs HO.out; rw [HV.out] at this; exact this
end Go.Proofs.Ytgicgmaiolfpkaa
