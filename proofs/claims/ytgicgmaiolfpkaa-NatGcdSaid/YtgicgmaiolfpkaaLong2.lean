/-
  What nat.up and nat.down compute.
-/
import Derived.Test.YtgicgmaiolfpkaaLong1
namespace Go.Proofs.Ytgicgmaiolfpkaa
open Go.RowKit
set_option maxHeartbeats 1000000
set_option linter.unusedVariables false

theorem shl_or {x s c : Nat} (hx : x < 4294967296) (hs : s < 32) (hc : c < 2 ^ s) : bits BinOp.or IntKind.u64 (IntKind.u64.wrap ((x : Int) * 2 ^ s)) (c : Int) = ((x * 2 ^ s + c : Nat) : Int) := by
  have hp : 2 ^ s ≤ 2147483648 := Nat.pow_le_pow_right (n := 2) (by omega) (show s ≤ 31 by omega)
  have h1 : x * 2 ^ s ≤ 4294967295 * 2147483648 := Nat.mul_le_mul (by omega) hp
  have e : (x : Int) * 2 ^ s = ((x * 2 ^ s : Nat) : Int) := by rw [Int.natCast_mul, Int.natCast_pow]; rfl
  rw [e, IntKind.wrap_u64, Int.emod_eq_of_lt (by omega) (by omega), u64_or_nat _ _ (by omega) (by omega), nat_join s _ _ (Nat.mul_mod_left _ _) hc]

theorem up_any (A : Option Addr) (c B s : Nat) (l : List Nat) (w : World) (hx : Lies w B A (U l)) (hB : B ≤ w.heap.size) (ho : Nt.Ok l) (hc : l.length ≤ c) (hm : c ≤ 9223372036854775807) (hs : l.length ≤ 1000000) (hs32 : s < 32) :
    Calls Try.prog 36 #[.slice A l.length c, .int .i64 (s : Int)] w fun e w' => ∃ cur : List Nat, e = .returned (.slice (some ⟨w.heap.size, 0, none⟩) (l.length + 1) (l.length + 1)) ∧ Blk w' w.heap.size 32 (U cur) ∧ Hid (Nt.Ok cur ∧ cur.length = l.length + 1 ∧ Nt.val cur = Nt.val l * 2 ^ s) ∧ Below w.heap.size w w' := by
  obtain ⟨i0, hi, hz0, hz1, hz2⟩ := info_parts u32_info
  have OL := Lib.hid ho
  have LX := Lib.hid (hx.more hB)
  clear ho hx hB
  go_enter Try.func36, Try.ntmps36
  go_wp2_with (at_make; refine wpList_make_blk _ rfl _ _ 22 rfl 32 i0 (.int .u32 0) Try.underlying22 hi hz0 hz1 rfl .i64 .i64 _ _ (l.length + 1) (l.length + 1) rfl rfl (by go_num) (by go_num) (Nat.le_refl _) (by rw [hz2]; omega) (by omega) w.heap.size w (Below.refl _ _) (Nat.le_refl _) ?_; intro w1 hblk1 hb1 hb1' hlt1)
  have hblk0 : Blk w1 w.heap.size 32 (U (List.replicate (l.length + 1) 0)) := by simpa [U] using hblk1
  clear hblk1 hb1' hlt1
  go_loopw [6, 16] (fun cv i wr => ∃ (k cy : Nat) (cur : List Nat), k ≤ l.length ∧ cy < 2 ^ s ∧ i = .int .i64 (k : Int) ∧ cv = .int .u64 (cy : Int) ∧ Blk wr w.heap.size 32 (U cur) ∧ Below w.heap.size w wr ∧ Hid (Nt.UpAt l s cur k cy)) (fun _ i _ => l.length - (intOf i).toNat)
  case atStart => exact ⟨0, 0, _, Nat.zero_le _, Nat.two_pow_pos s, rfl, rfl, hblk0, hb1, Lib.hid (Nt.up_start l s)⟩
  case round =>
    clear hblk0 hb1
    obtain ⟨k, cy, cur, hk, hcy, rfl, rfl, hblk, hbel, H⟩ := hrel
    have hsz := hblk.lt
    have hcl : cur.length = l.length + 1 := H.out.1
    by_cases hlt : k < l.length
    · obtain ⟨b2, off2, rfl, hb2, hc2⟩ := (LX.out.below hbel).limb hlt
      have hxb := Nt.ok_get OL.out hlt
      have hcell : wr.cell? ⟨w.heap.size, k, none⟩ = some (.int .u32 ((cur[k] : Nat) : Int)) := hblk.cell (by rw [U, List.getElem?_map, List.getElem?_eq_getElem (by omega)]; rfl)
      have hfz := hblk.frozen k
      have ST := Lib.hid (Nt.up_step OL.out H.out hlt)
      have UC := Lib.hid (Nt.up_carry hxb hcy)
      have BS : Hid (∀ s : Nat, Blk (wr.setCell ⟨w.heap.size, k, none⟩ (.int .u32 (s : Int))) w.heap.size 32 (U (cur.set k s))) := Lib.hid (fun s => by
        have := hblk.set_ k (.int .u32 (s : Int))
        rw [show (U cur).set k (.int .u32 (s : Int)) = U (cur.set k s) from List.map_set.symm] at this
        exact this)
      generalize cur[k] = o at hcell
      generalize l[k] = x at *
      clear hblk
      have HSO := Lib.hid (shl_or hxb hs32 hcy)
      have hp : 2 ^ s ≤ 2147483648 := Nat.pow_le_pow_right (n := 2) (by omega) (show s ≤ 31 by omega)
      have hmul : x * 2 ^ s ≤ 4294967295 * 2147483648 := Nat.mul_le_mul (by omega) hp
      have HP := Lib.hid (And.intro hp hmul)
      clear hp hmul hcl
      go_wp2_with fail
      rw [HSO.out]
      have h1 := HP.out
      have hcy2 := UC.out
      generalize x * 2 ^ s + cy = t at *
      have e1 : ((t : Nat) : Int) / 4294967296 = ((t / 4294967296 : Nat) : Int) := by omega
      have e2 : ((t : Nat) : Int) % 4294967296 = ((t % 4294967296 : Nat) : Int) := by omega
      rw [e1, e2]
      refine ⟨⟨k + 1, t / 4294967296, cur.set k (t % 4294967296), by omega, hcy2, by go_num, rfl, BS.out _, hbel.setCell (Nat.le_refl _) _, ST⟩, by simp [intOf]; omega⟩
    · obtain rfl : k = l.length := by omega
      have hcell : wr.cell? ⟨w.heap.size, l.length, none⟩ = some (.int .u32 ((cur[l.length] : Nat) : Int)) := hblk.cell (by rw [U, List.getElem?_map, List.getElem?_eq_getElem (by omega)]; rfl)
      have hfz := hblk.frozen l.length
      have EN := Lib.hid (Nt.up_end (by omega) H.out)
      have BS : Hid (∀ s : Nat, Blk (wr.setCell ⟨w.heap.size, l.length, none⟩ (.int .u32 (s : Int))) w.heap.size 32 (U (cur.set l.length s))) := Lib.hid (fun s => by
        have := hblk.set_ l.length (.int .u32 (s : Int))
        rw [show (U cur).set l.length (.int .u32 (s : Int)) = U (cur.set l.length s) from List.map_set.symm] at this
        exact this)
      have hcy32 : cy < 4294967296 := by
        have : 2 ^ s ≤ 2 ^ 32 := Nat.pow_le_pow_right (by omega) (by omega)
        omega
      generalize cur[l.length] = o at hcell
      clear hblk hcl hcy
      go_wp2_with fail
      go_ret
      refine ⟨cur.set l.length cy, rfl, BS.out cy, Lib.hid EN.out, hbel.setCell (Nat.le_refl _) _⟩
theorem down_any (A : Option Addr) (c B s : Nat) (l : List Nat) (w : World) (hx : Lies w B A (U l)) (hB : B ≤ w.heap.size) (ho : Nt.Ok l) (hc : l.length ≤ c) (hm : c ≤ 9223372036854775807) (hs : l.length ≤ 1000000) (hs32 : s < 32) :
    Calls Try.prog 40 #[.slice A l.length c, .int .i64 (s : Int)] w fun e w' => ∃ v, e = .returned v ∧ IsRes w' v (Nt.digs (Nt.val l / 2 ^ s)) ∧ Below w.heap.size w w' := by
  obtain ⟨i0, hi, hz0, hz1, hz2⟩ := info_parts u32_info
  have OL := Lib.hid ho
  have LX := Lib.hid (hx.more hB)
  clear ho hx hB
  go_enter Try.func40, Try.ntmps40
  go_wp2_with (at_make; refine wpList_make_blk _ rfl _ _ 22 rfl 32 i0 (.int .u32 0) Try.underlying22 hi hz0 hz1 rfl .i64 .i64 _ _ l.length l.length rfl rfl (by go_num) (by go_num) (Nat.le_refl _) (by rw [hz2]; omega) (by omega) w.heap.size w (Below.refl _ _) (Nat.le_refl _) ?_; intro w1 hblk1 hb1 hb1' hlt1)
  have hblk0 : Blk w1 w.heap.size 32 (U (List.replicate l.length 0)) := by simpa [U] using hblk1
  clear hblk1 hb1' hlt1
  go_loopw [6, 7] (fun av i wr => ∃ (k ab : Nat) (cur : List Nat), k ≤ l.length ∧ ab < 4294967296 ∧ i = .int .i64 ((k : Int) - 1) ∧ av = .int .u64 (ab : Int) ∧ Blk wr w.heap.size 32 (U cur) ∧ Below w.heap.size w wr ∧ Hid (Nt.DownAt l s cur k ab)) (fun _ i _ => (intOf i + 1).toNat)
  case atStart => exact ⟨l.length, 0, _, Nat.le_refl _, by omega, by go_num, rfl, hblk0, hb1, Lib.hid (Nt.down_start l s)⟩
  case round =>
    clear hblk0 hb1
    obtain ⟨k, ab, cur, hk, hab, rfl, rfl, hblk, hbel, H⟩ := hrel
    have hsz := hblk.lt
    rcases k with _ | k
    · have HE := Lib.hid (Nt.down_end H.out)
      have HTR := trim_any (some ⟨w.heap.size, 0, none⟩) l.length wr.heap.size cur wr hblk.lies H.out.2.1 (by rw [H.out.1]; exact Nat.le_refl _) (by omega)
      rw [H.out.1, HE.out] at HTR
      have HT := Lib.hid HTR
      have HQ := hblk.lies.digs H.out.2.1
      have HQL := Nt.digs_len_le H.out.2.1
      rw [HE.out] at HQ HQL
      rw [H.out.1] at HQL
      have HQ2 := Lib.hid HQ
      clear HTR HQ hblk HE
      obtain ⟨v, hv⟩ : ∃ v, v = Nt.val l / 2 ^ s := ⟨_, rfl⟩
      rw [← hv] at HT HQ2 HQL
      have HV := Lib.hid hv
      clear hv
      go_wp2_with fail
      refine HT.out.mono ?_
      rintro e w' ⟨rfl, rfl⟩
      go_wp2_with fail
      go_ret
      rw [← HV.out]
      exact ⟨_, rfl, ⟨_, _, rfl, Nat.le_refl _, by omega, (fun h => by cases h), HQ2.out⟩, hbel⟩
    · have hk1 : ((k + 1 : Nat) : Int) - 1 = (k : Int) := by omega
      rw [hk1]
      clear hk1
      have hkl : k < l.length := by omega
      have hcl : cur.length = l.length := H.out.1
      obtain ⟨b2, off2, rfl, hb2, hc2⟩ := (LX.out.below hbel).limb hkl
      have hxb := Nt.ok_get OL.out hkl
      have hcell : wr.cell? ⟨w.heap.size, k, none⟩ = some (.int .u32 ((cur[k] : Nat) : Int)) := hblk.cell (by rw [U, List.getElem?_map, List.getElem?_eq_getElem (by omega)]; rfl)
      have hfz := hblk.frozen k
      have ST := Lib.hid (Nt.down_step OL.out (by omega) H.out hkl)
      have BS : Hid (∀ s : Nat, Blk (wr.setCell ⟨w.heap.size, k, none⟩ (.int .u32 (s : Int))) w.heap.size 32 (U (cur.set k s))) := Lib.hid (fun s => by
        have := hblk.set_ k (.int .u32 (s : Int))
        rw [show (U cur).set k (.int .u32 (s : Int)) = U (cur.set k s) from List.map_set.symm] at this
        exact this)
      generalize cur[k] = o at hcell
      generalize l[k] = x at *
      clear hblk hcl
      have hj := join32 (r := ab) (by omega) hxb
      have HE : Hid ((((ab : Int) * 4294967296 + (x : Int)) / 2 ^ s % 4294967296) = (((ab * 4294967296 + x) / 2 ^ s % 4294967296 : Nat) : Int)) := Lib.hid (by
        rw [Int.natCast_emod, Int.natCast_ediv, Int.natCast_add, Int.natCast_mul, Int.natCast_pow]; rfl)
      go_wp2_with fail
      rw [HE.out]
      refine ⟨⟨k, x, _, by omega, hxb, rfl, rfl, BS.out _, hbel.setCell (Nat.le_refl _) _, ST⟩, by simp [intOf]; try omega⟩

end Go.Proofs.Ytgicgmaiolfpkaa
