/-
  What nat.shorten computes: limbs divided by one limb, in place; and nat.DivMod by one limb.
-/
import Derived.Test.YtgicgmaiolfpkaaDoorNat4
import Derived.Laws.BitsAllLaws
namespace Go.Proofs.YtgicgmaiolfpkaaDoor
open Go.RowKit
set_option maxHeartbeats 1000000
set_option linter.unusedVariables false

theorem join32 {r x : Nat} (hr : r < 4294967296) (hx : x < 4294967296) : bits BinOp.or IntKind.u64 ((r : Int) * 4294967296) (x : Int) = ((r * 4294967296 + x : Nat) : Int) := by
  have h := u64_or_nat (r * 4294967296) x (by omega) (by omega)
  rw [nat_join 32 (r * 4294967296) x (by omega) (by omega)] at h
  rw [← h, Int.natCast_mul]
  rfl

theorem shorten_any (g c d : Nat) (l : List Nat) (rest : List Value) (w : World) (hblk : Blk w g 30 (U l ++ rest)) (ho : Nt.Ok l) (hd : 0 < d) (hd2 : d < 4294967296) (hm : l.length ≤ 9223372036854775807) :
    Calls Tryd.prog 13 #[.slice (some ⟨g, 0, none⟩) l.length c, .int .u32 (d : Int)] w fun e w' => ∃ cur : List Nat, e = .returned (.int .u32 ((Nt.val l % d : Nat) : Int)) ∧ Blk w' g 30 (U cur ++ rest) ∧ Hid (cur.length = l.length ∧ Nt.Ok cur ∧ Nt.val cur = Nt.val l / d) ∧ w.grownBy w' (some g) := by
  have HO := Lib.hid ho
  have hd1 : (1 : Int) ≤ (d : Int) := by omega
  clear ho
  go_enter Tryd.func13, Tryd.ntmps13
  go_wp2_with fail
  go_loopw [5, 6] (fun rv i wr => ∃ (k r : Nat) (cur : List Nat), k ≤ l.length ∧ r < d ∧ i = .int .i64 ((k : Int) - 1) ∧ rv = .int .u64 (r : Int) ∧ Blk wr g 30 (U cur ++ rest) ∧ w.grownBy wr (some g) ∧ Hid (Nt.ShortAt l d cur k r)) (fun _ i _ => (intOf i + 1).toNat)
  case atStart => exact ⟨l.length, 0, l, Nat.le_refl _, hd, by go_num, rfl, hblk, World.grownBy.refl _ _, Lib.hid (Nt.short_start HO.out hd)⟩
  case round =>
    clear hblk
    obtain ⟨k, r, cur, hk, hr, rfl, rfl, hblk, hgr, H⟩ := hrel
    rcases k with _ | k
    · have HE := Lib.hid (Nt.short_end H.out)
      have hrd : r < 4294967296 := by omega
      go_wp2_with fail
      go_ret
      refine ⟨cur, ret_int (by rw [← HE.out.2]), hblk, Lib.hid ⟨H.out.1, H.out.2.1, HE.out.1⟩, hgr⟩
    · have hk1 : ((k + 1 : Nat) : Int) - 1 = (k : Int) := by omega
      rw [hk1]
      clear hk1
      have hkl : k < l.length := by omega
      have hcl : cur.length = l.length := H.out.1
      have hget := Nt.short_get H.out hkl
      have hcell : wr.cell? ⟨g, k, none⟩ = some (.int .u32 ((l[k] : Nat) : Int)) := hblk.cell (by
        rw [List.getElem?_append_left (by rw [U_len]; omega), U, List.getElem?_map, hget]; rfl)
      have hfz := hblk.frozen k
      have hxb := Nt.ok_get HO.out hkl
      have ST := Lib.hid (Nt.short_step H.out hkl HO.out hd2)
      have BD := Nt.short_bounds hr hd2 hxb
      have BS : Hid (∀ s : Nat, Blk (wr.setCell ⟨g, k, none⟩ (.int .u32 (s : Int))) g 30 (U (cur.set k s) ++ rest)) := Lib.hid (fun s => by
        have := hblk.set_ k (.int .u32 (s : Int))
        rw [List.set_append_left _ _ (by rw [U_len]; omega), show (U cur).set k (.int .u32 (s : Int)) = U (cur.set k s) from List.map_set.symm] at this
        exact this)
      generalize l[k] = x at hcell hxb ST BD
      have hj := join32 (r := r) (by omega) hxb
      generalize ht : r * 4294967296 + x = t at ST BD hj
      have hq : (t : Int) / (d : Int) = ((t / d : Nat) : Int) := (Int.natCast_ediv t d).symm
      have hr2 : (t : Int) % (d : Int) = ((t % d : Nat) : Int) := (Int.natCast_emod t d).symm
      obtain ⟨hq1, ht1, hr1⟩ := BD
      generalize t / d = q at *
      generalize t % d = r' at *
      clear ht hblk hcl hget
      have hrl : r < 4294967296 := by omega
      have HR2 := Lib.hid hr2
      go_wp2_with fail
      refine ⟨⟨k, r', cur.set k q, by omega, hr1, by go_num, congrArg (Value.int .u64) HR2.out, BS.out q, grown_set hgr _ _, Lib.hid ST.out⟩, ?_⟩
      first | (simp [intOf]; done) | (simp [intOf]; omega)
end Go.Proofs.YtgicgmaiolfpkaaDoor
