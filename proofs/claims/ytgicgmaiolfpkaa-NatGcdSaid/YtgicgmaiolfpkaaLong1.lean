/-
  What nat.takeOff and nat.putBack compute.
-/
import Derived.Test.YtgicgmaiolfpkaaNat10
import Derived.Test.YtgicgmaiolfpkaaLongMath2
namespace Go.Proofs.Ytgicgmaiolfpkaa
open Go.RowKit
set_option maxHeartbeats 1000000
set_option linter.unusedVariables false

theorem Blk.mid {w : World} {g : Nat} {t : TypeId} {pre post : List Value} {l : List Nat} (h : Blk w g t (pre ++ (U l ++ post))) {k x : Nat} (hk : l[k]? = some x) : w.cell? ⟨g, pre.length + k, none⟩ = some (.int .u32 (x : Int)) := by
  apply h.cell
  have hkl : k < l.length := by
    rcases Nat.lt_or_ge k l.length with h | h
    · exact h
    · rw [List.getElem?_eq_none h] at hk; cases hk
  rw [List.getElem?_append_right (by omega), Nat.add_sub_cancel_left, List.getElem?_append_left (by rw [U_len]; omega), U, List.getElem?_map, hk]
  rfl
theorem Blk.mid_set {w : World} {g : Nat} {t : TypeId} {pre post : List Value} {l : List Nat} (h : Blk w g t (pre ++ (U l ++ post))) {k : Nat} (hk : k < l.length) (x : Nat) : Blk (w.setCell ⟨g, pre.length + k, none⟩ (.int .u32 (x : Int))) g t (pre ++ (U (l.set k x) ++ post)) := by
  have := h.set_ (pre.length + k) (.int .u32 (x : Int))
  rw [List.set_append_right _ _ (by omega), Nat.add_sub_cancel_left, List.set_append_left _ _ (by rw [U_len]; omega), show (U l).set k (.int .u32 (x : Int)) = U (l.set k x) from List.map_set.symm] at this
  exact this

theorem takeOff_any (G c c' T : Nat) (A' : Option Addr) (pre post : List Value) (a d : List Nat) (w : World) (hblk : Blk w G 32 (pre ++ (U a ++ post))) (hy : Lies w G A' (U d)) (ha : Nt.Ok a) (hd : Nt.Ok d) (hl : a.length = d.length + 1) (hc : d.length + 1 ≤ c) (hc' : d.length ≤ c') (hm : c ≤ 9223372036854775807) (hm' : c' ≤ 9223372036854775807) (hT : T < 4294967296) (hs : d.length ≤ 1000000) :
    Calls Try.prog 38 #[.slice (some ⟨G, pre.length, none⟩) (d.length + 1) c, .slice A' d.length c', .int .u64 (T : Int)] w fun e w' => ∃ (cur : List Nat) (b : Nat), e = .returned (.bool (decide (b = 1))) ∧ b ≤ 1 ∧ Blk w' G 32 (pre ++ (U cur ++ post)) ∧ Hid (cur.length = a.length ∧ Nt.Ok cur ∧ Nt.val cur + T * Nt.val d = Nt.val a + b * 4294967296 ^ (d.length + 1)) ∧ w.grownBy w' (some G) := by
  have HL := Lib.hid hl
  have OA := Lib.hid ha
  have OD := Lib.hid hd
  have LY := Lib.hid hy
  have HG := hblk.lt
  clear ha hd hy hl
  have BM := Lib.hid (fun (wr : World) (l : List Nat) (h : Blk wr G 32 (pre ++ (U l ++ post))) (k x : Nat) (hk : l[k]? = some x) => h.mid hk)
  have BS := Lib.hid (fun (wr : World) (l : List Nat) (h : Blk wr G 32 (pre ++ (U l ++ post))) (k : Nat) (hk : k < l.length) (x : Nat) => h.mid_set hk x)
  generalize pre.length = j at *
  go_enter Try.func38, Try.ntmps38
  go_wp2_with fail
  go_loopw [7, 8, 15] (fun cv bv i wr => ∃ (k cy b : Nat) (cur : List Nat), k ≤ d.length ∧ cy < 4294967296 ∧ b ≤ 1 ∧ i = .int .i64 (k : Int) ∧ cv = .int .u64 (cy : Int) ∧ bv = .int .u32 (b : Int) ∧ Blk wr G 32 (pre ++ (U cur ++ post)) ∧ w.grownBy wr (some G) ∧ Hid (Nt.TakeAt a d T cur k cy b)) (fun _ _ i _ => d.length - (intOf i).toNat)
  case atStart => exact ⟨0, 0, 0, a, Nat.zero_le _, by omega, by omega, rfl, rfl, rfl, hblk, World.grownBy.refl _ _, Lib.hid (Nt.take_start OA.out)⟩
  case round =>
    clear hblk
    obtain ⟨k, cy, b, cur, hk, hcy, hb1, rfl, rfl, rfl, hblk, hgr, H⟩ := hrel
    have hsz := hblk.lt
    by_cases hlt : k < d.length
    · have hka : k < a.length := by rw [HL.out]; omega
      obtain ⟨b2, off2, rfl, hb2, hc2⟩ := (LY.out.grown (Nat.le_of_lt HG) hgr (fun g e => by injection e with e; omega)).limb hlt
      have hyb := Nt.ok_get OD.out hlt
      have hxb := Nt.ok_get OA.out hka
      have hcell := BM.out _ _ hblk k _ (Nt.take_get H.out hka)
      have hfz := hblk.frozen (j + k)
      have BSK := Lib.hid (BS.out _ _ hblk k (by rw [H.out.1]; exact hka))
      have ST := Lib.hid (fun s cy' b' t => Nt.take_step (s := s) (cy' := cy') (b' := b') (t := t) H.out hka hlt)
      have hmb := Nt.mul_bound hT hyb
      generalize d[k] = y at *
      generalize a[k] = x at *
      obtain ⟨p, hp⟩ : ∃ p : Nat, p = T * y := ⟨_, rfl⟩
      have hpi : (T : Int) * (y : Int) = (p : Int) := by rw [hp, Int.natCast_mul]
      have hpl : p ≤ 18446744065119617025 := by rw [hp]; exact hmb
      have HPN := Lib.hid hp
      clear hp hmb hblk hka
      have em : ((p : Int) + (cy : Int)) % 4294967296 = (((p + cy) % 4294967296 : Nat) : Int) := by omega
      have hsub := Lib.hid (fun w => sub32_any x ((p + cy) % 4294967296) b w hxb (by omega) hb1)
      rw [← em] at hsub
      clear em
      go_wp2_with (go_at_call 31; refine (hsub.out _).mono ?_; rintro e w' ⟨s, b', rfl, hs, hd1, HE, rfl⟩)
      go_roundw
      case rel => exact ⟨k + 1, (p + cy) / 4294967296, b', cur.set k s, by omega, by omega, hd1, by go_num, congrArg (Value.int .u64) (by omega), rfl, BSK.out s, grown_set hgr _ _, Lib.hid (ST.out s _ b' ((p + cy) % 4294967296) hs (by rw [← HPN.out]; omega) (by have := HE.out; omega))⟩
      case measure => simp [intOf]; omega
    · obtain rfl : k = d.length := by omega
      have hka : d.length < a.length := by rw [HL.out]; omega
      have hxb := Nt.ok_get OA.out hka
      have hcell := BM.out _ _ hblk _ _ (Nt.take_get H.out hka)
      have hfz := hblk.frozen (j + d.length)
      have BSK := Lib.hid (BS.out _ _ hblk d.length (by rw [H.out.1]; exact hka))
      have EN := Lib.hid (fun s b' => Nt.take_end (s := s) (b' := b') H.out HL.out)
      generalize hx : a[d.length] = x at hxb hcell
      have HX := Lib.hid hx
      clear hblk hx
      have hsub := Lib.hid (fun w => sub32_any x cy b w hxb hcy hb1)
      go_wp2_with (go_at_call 31; refine (hsub.out _).mono ?_; rintro e w' ⟨s, b', rfl, hs, hd1, HE, rfl⟩)
      go_ret
      refine ⟨cur.set d.length s, b', ret_bool ?_, hd1, BSK.out s, Lib.hid (EN.out s b' hs (by rw [HX.out]; exact HE.out)), grown_set hgr _ _⟩
      rcases (show b' = 0 ∨ b' = 1 by omega) with rfl | rfl <;> rfl
theorem putBack_any (G c c' : Nat) (A' : Option Addr) (pre post : List Value) (a d : List Nat) (w : World) (hblk : Blk w G 32 (pre ++ (U a ++ post))) (hy : Lies w G A' (U d)) (ha : Nt.Ok a) (hd : Nt.Ok d) (hl : a.length = d.length + 1) (hc : d.length + 1 ≤ c) (hc' : d.length ≤ c') (hm : c ≤ 9223372036854775807) (hm' : c' ≤ 9223372036854775807) (hs : d.length ≤ 1000000) :
    Calls Try.prog 39 #[.slice (some ⟨G, pre.length, none⟩) (d.length + 1) c, .slice A' d.length c'] w fun e w' => ∃ (cur : List Nat) (b : Nat), e = .returned (.tuple #[]) ∧ Blk w' G 32 (pre ++ (U cur ++ post)) ∧ Hid (cur.length = a.length ∧ Nt.Ok cur ∧ Nt.val cur + b * 4294967296 ^ (d.length + 1) = Nt.val a + Nt.val d) ∧ w.grownBy w' (some G) := by
  have HL := Lib.hid hl
  have OA := Lib.hid ha
  have OD := Lib.hid hd
  have LY := Lib.hid hy
  have HG := hblk.lt
  clear ha hd hy hl
  have BM := Lib.hid (fun (wr : World) (l : List Nat) (h : Blk wr G 32 (pre ++ (U l ++ post))) (k x : Nat) (hk : l[k]? = some x) => h.mid hk)
  have BS := Lib.hid (fun (wr : World) (l : List Nat) (h : Blk wr G 32 (pre ++ (U l ++ post))) (k : Nat) (hk : k < l.length) (x : Nat) => h.mid_set hk x)
  generalize pre.length = j at *
  go_enter Try.func39, Try.ntmps39
  go_wp2_with fail
  go_loopw [4, 9] (fun bv i wr => ∃ (k b : Nat) (cur : List Nat), k ≤ d.length ∧ b ≤ 1 ∧ i = .int .i64 (k : Int) ∧ bv = .int .u32 (b : Int) ∧ Blk wr G 32 (pre ++ (U cur ++ post)) ∧ w.grownBy wr (some G) ∧ Hid (Nt.PutAt a d cur k b)) (fun _ i _ => d.length - (intOf i).toNat)
  case atStart => exact ⟨0, 0, a, Nat.zero_le _, by omega, rfl, rfl, hblk, World.grownBy.refl _ _, Lib.hid (Nt.put_start OA.out)⟩
  case round =>
    clear hblk
    obtain ⟨k, b, cur, hk, hb1, rfl, rfl, hblk, hgr, H⟩ := hrel
    have hsz := hblk.lt
    by_cases hlt : k < d.length
    · have hka : k < a.length := by rw [HL.out]; omega
      obtain ⟨b2, off2, rfl, hb2, hc2⟩ := (LY.out.grown (Nat.le_of_lt HG) hgr (fun g e => by injection e with e; omega)).limb hlt
      have hyb := Nt.ok_get OD.out hlt
      have hxb := Nt.ok_get OA.out hka
      have hcell := BM.out _ _ hblk k _ (Nt.put_get H.out hka)
      have hfz := hblk.frozen (j + k)
      have BSK := Lib.hid (BS.out _ _ hblk k (by rw [H.out.1]; exact hka))
      have ST := Lib.hid (fun s c' => Nt.put_step (s := s) (c' := c') H.out hka hlt)
      generalize d[k] = y at *
      generalize a[k] = x at *
      clear hblk hka
      have hadd := Lib.hid (fun w => add32_any x y b w hxb hyb hb1)
      go_wp2_with (go_at_call 34; refine (hadd.out _).mono ?_; rintro e w' ⟨s, b', rfl, hs, hd1, HE, rfl⟩)
      go_roundw
      case rel => exact ⟨k + 1, b', cur.set k s, by omega, hd1, by go_num, rfl, BSK.out s, grown_set hgr _ _, Lib.hid (ST.out s b' hs HE.out)⟩
      case measure => simp [intOf]; omega
    · obtain rfl : k = d.length := by omega
      have hka : d.length < a.length := by rw [HL.out]; omega
      have hxb := Nt.ok_get OA.out hka
      have hcell := BM.out _ _ hblk _ _ (Nt.put_get H.out hka)
      have hfz := hblk.frozen (j + d.length)
      have BSK := Lib.hid (BS.out _ _ hblk d.length (by rw [H.out.1]; exact hka))
      have EN := Lib.hid (fun s b' => Nt.put_end (s := s) (c' := b') H.out HL.out)
      generalize hx : a[d.length] = x at hxb hcell
      have HX := Lib.hid hx
      clear hblk hx
      have em : ((x : Int) + (b : Int)) % 4294967296 = (((x + b) % 4294967296 : Nat) : Int) := by omega
      have EM := Lib.hid em
      clear em
      go_wp2_with fail
      rw [EM.out]
      go_end0
      refine ⟨cur.set d.length ((x + b) % 4294967296), (x + b) / 4294967296, rfl, BSK.out _, Lib.hid (EN.out _ _ (by omega) (by rw [HX.out]; omega)), grown_set hgr _ _⟩
end Go.Proofs.Ytgicgmaiolfpkaa
