/-
  What nat.Mul computes: the digits of the product.
-/
import Derived.Test.YtgicgmaiolfpkaaNat4
namespace Go.Proofs.Ytgicgmaiolfpkaa
open Go.RowKit
set_option maxHeartbeats 1000000
set_option maxRecDepth 100000
set_option linter.unusedVariables false

theorem mul_any (A A' : Option Addr) (c c' B : Nat) (a b : List Nat) (w : World) (hx : Lies w B A (U a)) (hy : Lies w B A' (U b)) (hB : B ≤ w.heap.size) (ha : Nt.Ok a) (hb : Nt.Ok b)
    (hc : a.length ≤ c) (hc' : b.length ≤ c') (hm : c ≤ 9223372036854775807) (hm' : c' ≤ 9223372036854775807) (hs : a.length ≤ 8796093022208) (hs' : b.length ≤ 8796093022208) :
    Calls Try.prog 22 #[.slice A a.length c, .slice A' b.length c'] w fun e w' => ∃ v, e = .returned v ∧ IsRes w' v (Nt.digs (Nt.val a * Nt.val b)) ∧ Below w.heap.size w w' := by
  obtain ⟨i0, hi, hz0, hz1, hz2⟩ := info_parts u32_info
  have ha' := Nt.digs_len_le ha
  have hb' := Nt.digs_len_le hb
  have TA := Lib.hid (trim_any A c B a w hx ha hc hm)
  have TB := Lib.hid (trim_any A' c' B b w hy hb hc' hm')
  have LA := Lib.hid ((hx.digs ha).more hB)
  have LB := Lib.hid ((hy.digs hb).more hB)
  have OA := Lib.hid (Nt.ok_digs (Nt.val a))
  have OB := Lib.hid (Nt.ok_digs (Nt.val b))
  have VA := Lib.hid (Nt.val_digs (Nt.val a))
  have VB := Lib.hid (Nt.val_digs (Nt.val b))
  clear hx hy
  have ZA : Hid ((Nt.digs (Nt.val a)).length = 0 → Nt.val a = 0) := Lib.hid (fun h => Nt.digs_nil_iff.1 (List.eq_nil_of_length_eq_zero h))
  have ZB : Hid ((Nt.digs (Nt.val b)).length = 0 → Nt.val b = 0) := Lib.hid (fun h => Nt.digs_nil_iff.1 (List.eq_nil_of_length_eq_zero h))
  generalize Nt.val a = x0 at *
  generalize Nt.val b = y0 at *
  generalize Nt.digs x0 = da at *
  generalize Nt.digs y0 = db at *
  by_cases h0 : da.length = 0 ∨ db.length = 0
  · have HZ : Hid (Nt.digs (x0 * y0) = []) := Lib.hid (by
      rcases h0 with h | h
      · rw [ZA.out h, Nat.zero_mul, Nt.digs_zero]
      · rw [ZB.out h, Nat.mul_zero, Nt.digs_zero])
    by_cases h1 : da.length = 0
    · have hl1 : ((da.length : Int) == 0) = true := by simp [h1]
      clear h0 h1
      go_enter Try.func22, Try.ntmps22
      go_wp2_with fail
      refine TA.out.mono ?_
      rintro e w' ⟨rfl, rfl⟩
      go_wp2_with fail
      refine TB.out.mono ?_
      rintro e w' ⟨rfl, rfl⟩
      go_wp2_with fail
      go_ret
      exact ⟨_, rfl, by rw [HZ.out]; exact IsRes.none_ _, Below.refl _ _⟩
    · have hl1 : ((da.length : Int) == 0) = false := by simp; intro h; exact h1 (by rw [h]; rfl)
      have hl2 : ((db.length : Int) == 0) = true := by simp; rcases h0 with h | h; exact absurd h h1; exact List.eq_nil_of_length_eq_zero h
      clear h0 h1
      go_enter Try.func22, Try.ntmps22
      go_wp2_with fail
      refine TA.out.mono ?_
      rintro e w' ⟨rfl, rfl⟩
      go_wp2_with fail
      refine TB.out.mono ?_
      rintro e w' ⟨rfl, rfl⟩
      go_wp2_with fail
      go_ret
      exact ⟨_, rfl, by rw [HZ.out]; exact IsRes.none_ _, Below.refl _ _⟩
  · have hpa : 0 < da.length := by omega
    have hpb : 0 < db.length := by omega
    have hl1 : ((da.length : Int) == 0) = false := by simp; intro h; rw [h] at hpa; simp at hpa
    have hl2 : ((db.length : Int) == 0) = false := by simp; intro h; rw [h] at hpb; simp at hpb
    clear h0
    go_enter Try.func22, Try.ntmps22
    go_wp2_with fail
    refine TA.out.mono ?_
    rintro e w' ⟨rfl, rfl⟩
    go_wp2_with fail
    refine TB.out.mono ?_
    rintro e w' ⟨rfl, rfl⟩
    go_wp2_with (at_make; refine wpList_make_blk _ rfl _ _ 22 rfl 32 i0 (.int .u32 0) Try.underlying22 hi hz0 hz1 rfl .i64 .i64 _ _ (da.length + db.length) (da.length + db.length) rfl rfl (by go_num) (by go_num) (Nat.le_refl _) (by rw [hz2]; omega) (by omega) w.heap.size w (Below.refl _ _) (Nat.le_refl _) ?_; intro w1 hblk1 hb1 hb1' hlt1)
    have hblk0 : Blk w1 w.heap.size 32 (U (List.replicate (da.length + db.length) 0)) := by simpa [U] using hblk1
    clear hblk1 hb1' hlt1
    go_loopw [32] (fun i wr => ∃ (k : Nat) (cur : List Nat), k ≤ da.length ∧ i = .int .i64 (k : Int) ∧ Blk wr w.heap.size 32 (U cur) ∧ Below w.heap.size w wr ∧ Hid (Nt.MulOut da db cur k)) (fun i _ => da.length - (intOf i).toNat)
    case atStart => exact ⟨0, _, Nat.zero_le _, rfl, hblk0, hb1, Lib.hid (Nt.mulOut_start da db)⟩
    case round =>
      clear hblk0 hb1
      obtain ⟨k, cur0, hk, rfl, hblk, hbel, H⟩ := hrel
      by_cases hlt : k < da.length
      · obtain ⟨ba, offa, rfl, hba, hca⟩ := (LA.out.below hbel).limb hlt
        have hxb := Nt.ok_get OA.out hlt
        have OUT := Lib.hid (fun cur c h => Nt.mulOut_step (c := c) (cur := cur) H.out hlt h)
        have HL0 : cur0.length = da.length + db.length := H.out.1
        have HLL := Lib.hid HL0
        have HO0 := Lib.hid H.out.2.1
        clear HL0
        generalize da[k] = x at hca hxb OUT
        go_wp2_with fail
        obtain ⟨wo, rfl⟩ : ∃ wo : World, wo = wr := ⟨_, rfl⟩
        go_loopw [8, 39] (fun cv jv wq => ∃ (j cy : Nat) (cur : List Nat), j ≤ db.length ∧ cy < 4294967296 ∧ jv = .int .i64 (j : Int) ∧ cv = .int .u64 (cy : Int) ∧ Blk wq w.heap.size 32 (U cur) ∧ Below w.heap.size w wq ∧ Hid (Nt.MulAt cur0 db cur x k j cy)) (fun _ jv _ => db.length - (intOf jv).toNat)
        case atStart => exact ⟨0, 0, cur0, Nat.zero_le _, by omega, rfl, rfl, hblk, hbel, Lib.hid (Nt.mul_start HO0.out)⟩
        case round =>
          clear hblk hbel hca
          obtain ⟨j, cy, cur, hj, hcy, rfl, rfl, hblk, hbel, HM⟩ := hrel
          have hcl : cur.length = da.length + db.length := by rw [HM.out.1]; exact HLL.out
          by_cases hjl : j < db.length
          · obtain ⟨b2, off2, rfl, hb2, hc2⟩ := (LB.out.below hbel).limb hjl
            have hyb := Nt.ok_get OB.out hjl
            have hij : k + j < cur.length := by omega
            have hob := Nt.ok_get HM.out.2.1 hij
            have hcell : wr.cell? ⟨w.heap.size, k + j, none⟩ = some (.int .u32 ((cur[k + j] : Nat) : Int)) := hblk.cell (by rw [U, List.getElem?_map, List.getElem?_eq_getElem hij]; rfl)
            have hfz := hblk.frozen (k + j)
            have ST := Lib.hid (fun s d hs hd e => Nt.mulAt_step (s := s) (d := d) HM.out hjl hij rfl hs hd e)
            have BS : Hid (∀ s : Nat, Blk (wr.setCell ⟨w.heap.size, k + j, none⟩ (.int .u32 (s : Int))) w.heap.size 32 (U (cur.set (k + j) s))) := Lib.hid (fun s => by
              have := hblk.set_ (k + j) (.int .u32 (s : Int))
              rw [show (U cur).set (k + j) (.int .u32 (s : Int)) = U (cur.set (k + j) s) from List.map_set.symm] at this
              exact this)
            have hmb := Nt.mul_bound hxb hyb
            have hsz := hblk.lt
            generalize db[j] = y at hc2 hyb ST hmb
            generalize cur[k + j] = o at hcell hob ST
            obtain ⟨p, hp⟩ : ∃ p : Nat, p = x * y := ⟨_, rfl⟩
            have hpi : (x : Int) * (y : Int) = (p : Int) := by rw [hp, Int.natCast_mul]
            have hpl : p ≤ 18446744065119617025 := by rw [hp]; exact hmb
            have HPN := Lib.hid hp
            clear hp hmb hblk hcl hij
            have em : ((p : Int) + (o : Int) + (cy : Int)) % 4294967296 = (((p + o + cy) % 4294967296 : Nat) : Int) := by omega
            have HEM := Lib.hid em
            clear em
            go_wp2_with fail
            rw [HEM.out]
            refine ⟨⟨j + 1, (p + o + cy) / 4294967296, cur.set (k + j) ((p + o + cy) % 4294967296), by omega, by omega, by go_num, congrArg (Value.int .u64) (by omega), BS.out _, hbel.setCell (Nat.le_refl _) _, Lib.hid (ST.out _ _ (by omega) (by omega) ?_)⟩, by simp [intOf]; omega⟩
            rw [← HPN.out]; omega
          · obtain rfl : j = db.length := by omega
            have hij : k + db.length < cur.length := by omega
            have hcell : wr.cell? ⟨w.heap.size, k + db.length, none⟩ = some (.int .u32 ((cur[k + db.length] : Nat) : Int)) := hblk.cell (by rw [U, List.getElem?_map, List.getElem?_eq_getElem hij]; rfl)
            have hfz := hblk.frozen (k + db.length)
            have HOUT := Lib.hid (OUT.out cur cy HM.out)
            have BS : Hid (Blk (wr.setCell ⟨w.heap.size, k + db.length, none⟩ (.int .u32 (cy : Int))) w.heap.size 32 (U (cur.set (k + db.length) cy))) := Lib.hid (by
              have := hblk.set_ (k + db.length) (.int .u32 (cy : Int))
              rw [show (U cur).set (k + db.length) (.int .u32 (cy : Int)) = U (cur.set (k + db.length) cy) from List.map_set.symm] at this
              exact this)
            have hsz := hblk.lt
            generalize cur[k + db.length] = o at hcell
            clear hblk hcl hij
            go_wp2_with fail
            exact ⟨⟨k + 1, cur.set (k + db.length) cy, by omega, by go_num, BS.out, hbel.setCell (Nat.le_refl _) _, Lib.hid HOUT.out⟩, by simp [intOf]; omega⟩
      · obtain rfl : k = da.length := by omega
        have HV : Hid (Nt.val cur0 = x0 * y0) := Lib.hid (by
          have := H.out.2.2.1
          rw [List.take_length, VA.out, VB.out] at this
          exact this)
        have HL : Hid (cur0.length = da.length + db.length) := Lib.hid H.out.1
        have HO : Hid (Nt.Ok cur0) := Lib.hid H.out.2.1
        have HBK := Lib.hid hblk
        have HTR := trim_any (some ⟨w.heap.size, 0, none⟩) (da.length + db.length) wr.heap.size cur0 wr hblk.lies HO.out (by rw [HL.out]; omega) (by omega)
        rw [HV.out, HL.out] at HTR
        have HTR2 := Lib.hid HTR
        clear HTR hblk
        go_wp2_with fail
        refine HTR2.out.mono ?_
        rintro e w' ⟨rfl, rfl⟩
        go_wp2_with fail
        go_ret
        refine ⟨_, rfl, ⟨_, _, rfl, Nat.le_refl _, ?_, (fun h => by cases h), ?_⟩, hbel⟩
        · have := Nt.digs_len_le HO.out; rw [HV.out, HL.out] at this; omega
        · have := HBK.out.lies.digs HO.out; rw [HV.out] at this; exact this
end Go.Proofs.Ytgicgmaiolfpkaa
