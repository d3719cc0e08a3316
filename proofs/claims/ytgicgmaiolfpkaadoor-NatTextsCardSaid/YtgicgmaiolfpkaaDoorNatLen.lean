/-
  What nat.lengthen computes.
-/
import Derived.Test.YtgicgmaiolfpkaaDoorLenMath
import Derived.Test.YtgicgmaiolfpkaaDoorNat5
namespace Go.Proofs.YtgicgmaiolfpkaaDoor
open Go.RowKit
set_option maxHeartbeats 1000000
set_option maxRecDepth 100000
set_option linter.unusedVariables false

/-- A cell of a row of one's own: read, and written. -/
theorem own_at {w : World} {base n C k : Nat} {t : TypeId} {A : Option Addr} {xs : List Value} (h : w.ownsRow base t 1 (.slice A n C) n xs) (hk : k < n) :
    ∃ g, A = some ⟨g, 0, none⟩ ∧ base ≤ g ∧ w.cell? ⟨g, k, none⟩ = xs[k]? ∧ w.frozen? ⟨g, k, none⟩ = false ∧ ∀ x, (w.setCell ⟨g, k, none⟩ x).ownsRow base t 1 (.slice A n C) n (xs.set k x) := by
  obtain ⟨g, vs, hv, hb, hblk, ht, h1, h2⟩ := blk_of_own h (by omega)
  injection hv with e1 _ e2
  subst e1 e2
  refine ⟨g, rfl, hb, ?_, hblk.frozen k, fun x => ?_⟩
  · rw [← ht, List.getElem?_take, if_pos hk]
    have hk' : k < vs.length := by omega
    rw [List.getElem?_eq_getElem hk']
    exact hblk.cell (List.getElem?_eq_getElem hk')
  · have := (hblk.set_ k x).own (base := base) (n := n) hb (by rw [List.length_set]; exact h1) (by rw [List.length_set]; exact h2)
    rw [List.length_set, List.take_set, ht] at this
    exact this

theorem lengthen_any (base : Nat) (v : Value) (x b m : Nat) (w : World) (hown : w.ownsRow base 30 1 v (Nt.digs x).length (U (Nt.digs x))) (hB : base ≤ w.heap.size) (hl : (Nt.digs x).length ≤ 1000000) (hb1 : 1 ≤ b) (hb : b < 4294967296) (hm : m < 4294967296) :
    Calls Tryd.prog 19 #[v, .int .u32 (b : Int), .int .u32 (m : Int)] w fun e w' => ∃ v', e = .returned v' ∧ w'.ownsRow base 30 1 v' (Nt.digs (x * b + m)).length (U (Nt.digs (x * b + m))) ∧ Below base w w' := by
  obtain ⟨i0, hi, hz0, hz1, hz2⟩ := info_parts u32_info
  have OX := Lib.hid (Nt.ok_digs x)
  have D0 : Hid (∀ cur, Nt.LenAt (Nt.digs x) b m cur (Nt.digs x).length 0 → Nt.digs (x * b + m) = cur) := Lib.hid (fun cur h => Nt.len_done0 h hb1)
  have D1 : Hid (∀ cur c, Nt.LenAt (Nt.digs x) b m cur (Nt.digs x).length c → c ≠ 0 → Nt.digs (x * b + m) = cur ++ [c]) := Lib.hid (fun cur c h hc => Nt.len_done1 h hc)
  generalize Nt.digs (x * b + m) = dz at *
  generalize Nt.digs x = dx at *
  obtain ⟨A, C, rfl, hC1, hC2⟩ := own_slice hown
  go_enter Tryd.func19, Tryd.ntmps19
  go_wp2_with fail
  go_loopw [7, 15] (fun cv i wr => ∃ (k c : Nat) (cur : List Nat), k ≤ dx.length ∧ c < 4294967296 ∧ i = .int .i64 (k : Int) ∧ cv = .int .u64 (c : Int) ∧ wr.ownsRow base 30 1 (.slice A dx.length C) dx.length (U cur) ∧ Below base w wr ∧ Hid (Nt.LenAt dx b m cur k c)) (fun _ i _ => dx.length - (intOf i).toNat)
  case atStart => exact ⟨0, m, dx, Nat.zero_le _, hm, rfl, rfl, hown, Below.refl _ _, Lib.hid (Nt.len_start OX.out hm)⟩
  case round =>
    clear hown
    obtain ⟨k, c, cur, hk, hc, rfl, rfl, hown, hbel, H⟩ := hrel
    have hsz := hbel.size
    by_cases hlt : k < dx.length
    · obtain ⟨g, rfl, hgb, hcell, hfz, hset⟩ := own_at hown hlt
      have hget := Nt.len_get H.out hlt
      rw [U, List.getElem?_map, hget, Option.map_some] at hcell
      have hxb := Nt.ok_get OX.out hlt
      have ST := Lib.hid (Nt.len_step H.out hlt OX.out hb)
      have BD := Nt.len_bounds hxb hb hc
      have HSET : Hid (∀ s : Nat, (wr.setCell ⟨g, k, none⟩ (.int .u32 (s : Int))).ownsRow base 30 1 (.slice (some ⟨g, 0, none⟩) dx.length C) dx.length (U (cur.set k s))) := Lib.hid (fun s => by
        have := hset (.int .u32 (s : Int))
        rw [show (U cur).set k (.int .u32 (s : Int)) = U (cur.set k s) from List.map_set.symm] at this
        exact this)
      have HB2 : Hid (∀ s, Below base w (wr.setCell ⟨g, k, none⟩ s)) := Lib.hid (fun s => hbel.setCell hgb _)
      clear hset hget hown
      generalize dx[k] = y at *
      obtain ⟨p, hp⟩ : ∃ p, p = y * b := ⟨_, rfl⟩
      have hpi : (y : Int) * (b : Int) = (p : Int) := by rw [hp, Int.natCast_mul]
      rw [← hp] at ST BD
      obtain ⟨ht1, ht2, ht3, ht4⟩ := BD
      clear hp
      go_wp2_with fail
      exact ⟨⟨k + 1, (p + c) / 4294967296, cur.set k ((p + c) % 4294967296), by omega, ht2, by go_num, congrArg (Value.int .u64) (by omega), HSET.out _, HB2.out _, ST⟩, by simp [intOf]; omega⟩
    · obtain rfl : k = dx.length := by omega
      have hcl : Hid (cur.length = dx.length) := Lib.hid H.out.1
      by_cases hc0 : c = 0
      · subst hc0
        have HE := Lib.hid (D0.out cur H.out)
        go_wp2_with fail
        go_ret
        refine ⟨_, rfl, ?_, hbel⟩
        rw [HE.out, hcl.out]
        exact hown
      · have HE := Lib.hid (D1.out cur c H.out hc0)
        have hc1 : ((c : Int) != 0) = true := by simp; omega
        go_wp2_with (at_builtin; refine wpList_append_own _ rfl _ _ 22 rfl base 30 i0 (.int .u32 0) 1 4 Tryd.underlying22 hi hz0 hz1 hz2 rfl (by decide) _ _ _ rfl (hown.alloc _) ⟨_, 0, none⟩ 1 1 [.int .u32 (c : Int)] rfl rfl (cell_one_new _ _ _) (by intro u hu; simp only [List.mem_singleton] at hu; subst hu; rfl) (by unfold maxLen; omega) (by omega) (by simp; omega) ?_; intro v3 w3 hown3 hgrow3 hnn3)
        have hb3 : Below base w w3 := (hbel.alloc (by omega) _).grown hgrow3 (by simp; omega) (fun k hk => (hown.lt k hk).1)
        go_ret
        refine ⟨_, rfl, ?_, hb3⟩
        rw [HE.out, List.length_append, hcl.out]
        simpa [U] using hown3
end Go.Proofs.YtgicgmaiolfpkaaDoor
