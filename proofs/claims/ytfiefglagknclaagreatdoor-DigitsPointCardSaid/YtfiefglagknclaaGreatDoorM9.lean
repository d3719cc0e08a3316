/-
  Texts of this proof, joined (by wip/bin/bundle.py): NatPar, NatPar2, Dig5, NatTxt, NatTxt2, Dig6, Dig7.
-/
import Derived.Test.YtfiefglagknclaaGreatDoorM8
/-
  What scrimref02.Parse computes.
-/
namespace Go.Proofs.YtfiefglagknclaaGreatDoor
open Go.RowKit
set_option maxHeartbeats 1000000
set_option maxRecDepth 100000
set_option linter.unusedVariables false

/-- What a text's reading tells: the number's limbs, and that it is one; or none. -/
def NatTold (s : List UInt8) (w : World) (e : Ending) (w' : World) : Prop := Below w.heap.size w w' ∧ ∃ (v : Value) (ok : Bool) (n : Nat), e = .returned (.tuple #[v, .bool ok]) ∧ IsRes w' v (Nt.digs n) ∧ ((ok = true ∧ Ten.Valid s ∧ n = Ten.numOf s) ∨ (ok = false ∧ ¬ Ten.Valid s ∧ n = 0))
theorem NatTold.no {s : List UInt8} {w w' : World} (hb : Below w.heap.size w w') (h : ¬ Ten.Valid s) : NatTold s w (.returned (.tuple #[.slice none 0 0, .bool false])) w' := ⟨hb, _, false, 0, rfl, by rw [Nt.digs_zero]; exact IsRes.none_ _, .inr ⟨rfl, h, rfl⟩⟩
theorem NatTold.yes {s : List UInt8} {w w' : World} {v : Value} (hb : Below w.heap.size w w') (h : Ten.Valid s) (hv : IsRes w' v (Nt.digs (Ten.numOf s))) : NatTold s w (.returned (.tuple #[v, .bool true])) w' := ⟨hb, _, true, _, rfl, hv, .inl ⟨rfl, h, rfl⟩⟩

/-- The numeral, read up to a place. -/
def NumAt (s : List UInt8) (k n : Nat) : Prop := n = Ten.numOf (s.take k) ∧ ∀ j (hj : j < s.length), j < k → Ten.isDig s[j]
theorem NumAt.start (s : List UInt8) : NumAt s 0 0 := ⟨rfl, fun j _ h => absurd h (by omega)⟩
theorem NumAt.step {s : List UInt8} {k n : Nat} (h : NumAt s k n) (hk : k < s.length) (hd : Ten.isDig s[k]) : NumAt s (k + 1) (n * 10 + (s[k].toNat - 48)) := by
  refine ⟨?_, fun j hj hjk => ?_⟩
  · rw [List.take_succ_eq_append_getElem hk, Ten.numOf_snoc, ← h.1]; omega
  · by_cases e : j = k
    · subst e; exact hd
    · exact h.2 j hj (by omega)
theorem NumAt.done {s : List UInt8} {n : Nat} (h : NumAt s s.length n) (h0 : s ≠ []) (h1 : 1 < s.length → s.head? ≠ some 48) : Ten.Valid s ∧ n = Ten.numOf s := by
  refine ⟨⟨h0, h1, fun b hb => ?_⟩, by rw [h.1, List.take_length]⟩
  obtain ⟨j, hj, rfl⟩ := List.mem_iff_getElem.1 hb
  exact h.2 j hj hj
theorem not_valid_at {s : List UInt8} {k : Nat} (hk : k < s.length) (h : s[k].toNat < 48 ∨ 57 < s[k].toNat) : ¬ Ten.Valid s := fun hv => by
  have := hv.2.2 s[k] (List.getElem_mem hk)
  unfold Ten.isDig at this
  omega
theorem head_at {s : List UInt8} (h : 0 < s.length) : s.head? = some s[0] := by
  cases s with
  | nil => simp at h
  | cons b r => rfl

theorem refParse_any (s : List UInt8) (w : World) (hs : s.length ≤ 1000) : Calls Tryz.prog 136 #[.string ⟨s.toArray⟩] w (NatTold s w) := by
  obtain ⟨i0, hi, hz0, hz1, hz2⟩ := info_parts u32_info
  by_cases h0 : s.length = 0
  · have HN := Lib.hid (NatTold.no (w := w) (w' := w) (s := s) (Below.refl _ _) (fun h => h.1 (List.eq_nil_of_length_eq_zero h0)))
    have h0a : ((s.length : Int) == 0) = true := by simp [h0]
    clear h0
    go_enter Tryz.func136, Tryz.ntmps136
    go_wp2_with fail
    go_ret2
    exact HN.out
  · have hpos : 0 < s.length := by omega
    have h0a : ((s.length : Int) == 0) = false := by rw [beq_eq_false_iff_ne]; omega
    obtain ⟨z, hz⟩ : ∃ z, z = s[0].toNat := ⟨_, rfl⟩
    have hg0 : ((⟨s.toArray⟩ : ByteArray)[0]'(show 0 < (⟨s.toArray⟩ : ByteArray).size from hpos)).toNat = z := hz.symm
    by_cases hlead : 1 < s.length ∧ z = 48
    · obtain ⟨h1, hz48⟩ := hlead
      have HN := Lib.hid (NatTold.no (w := w) (w' := w) (s := s) (Below.refl _ _) (fun h => h.2.1 h1 (by rw [head_at hpos, UInt8.toNat_inj.1 (show s[0].toNat = (48 : UInt8).toNat by rw [← hz, hz48]; rfl)])))
      have hza : ((z : Int) == 48) = true := by simp [hz48]
      clear h0 hz hz48
      go_enter Tryz.func136, Tryz.ntmps136
      go_wp2_with fail
      go_ret2
      exact HN.out
    · have HV : Hid (s ≠ [] ∧ (1 < s.length → s.head? ≠ some 48)) := Lib.hid ⟨fun e => by rw [e] at hpos; simp at hpos, fun h1 e => hlead ⟨h1, by
        rw [head_at hpos] at e; injection e with e; rw [hz, e]; rfl⟩⟩
      have hgo : s.length ≤ 1 ∨ (1 < s.length ∧ ((z : Int) == 48) = false) := by
        rcases Nat.lt_or_ge 1 s.length with h | h
        · exact .inr ⟨h, by rw [beq_eq_false_iff_ne]; intro e; exact hlead ⟨h, by omega⟩⟩
        · exact .inl h
      clear hlead hz h0
      go_enter Tryz.func136, Tryz.ntmps136
      rcases hgo with hl1 | ⟨hl1, hza⟩
      · go_wp2_with fail
        go_loopw [4, 5] (fun ov i wr => ∃ (k n : Nat), k ≤ s.length ∧ (Nt.digs n).length ≤ k ∧ i = .int .i64 (k : Int) ∧ wr.ownsRow w.heap.size 22 1 ov (Nt.digs n).length (U (Nt.digs n)) ∧ Below w.heap.size w wr ∧ Hid (NumAt s k n)) (fun _ i _ => s.length - (intOf i).toNat)
        case atStart => exact ⟨0, 0, by omega, by rw [Nt.digs_zero]; simp, rfl, by rw [Nt.digs_zero]; exact World.ownsRow_nil _ _ _ _, Below.refl _ _, Lib.hid (NumAt.start s)⟩
        case round =>
          obtain ⟨k, n, hk, hdl, rfl, hown, hbel, H⟩ := hrel
          have hsz := hbel.size
          by_cases hlt : k < s.length
          · obtain ⟨y, hy⟩ : ∃ y, y = s[k].toNat := ⟨_, rfl⟩
            have hgy : ((⟨s.toArray⟩ : ByteArray)[k]'(show k < (⟨s.toArray⟩ : ByteArray).size from hlt)).toNat = y := hy.symm
            have hy8 : y < 256 := by rw [hy]; exact UInt8.toNat_lt _
            by_cases hd : 48 ≤ y ∧ y ≤ 57
            · obtain ⟨hd1, hd2⟩ := hd
              have ST := Lib.hid (H.out.step hlt ⟨by rw [← hy]; exact hd1, by rw [← hy]; exact hd2⟩)
              rw [← hy] at ST
              obtain ⟨m, hm⟩ : ∃ m, m = y - 48 := ⟨_, rfl⟩
              have hmi : (y : Int) - 48 = (m : Int) := by omega
              have hm9 : m ≤ 9 := by omega
              rw [← hm] at ST
              have OX := Lib.hid (Nt.ok_digs n)
              have D0 : Hid (∀ cur, Nt.LenAt (Nt.digs n) 10 m cur (Nt.digs n).length 0 → Nt.digs (n * 10 + m) = cur) := Lib.hid (fun cur h => Nt.len_done0 h (by omega))
              have D1 : Hid (∀ cur c, Nt.LenAt (Nt.digs n) 10 m cur (Nt.digs n).length c → c ≠ 0 → Nt.digs (n * 10 + m) = cur ++ [c]) := Lib.hid (fun cur c h hc => Nt.len_done1 h hc)
              obtain ⟨dx, hdx⟩ : ∃ dx, dx = Nt.digs n := ⟨_, rfl⟩
              rw [← hdx] at hown hdl OX D0 D1
              obtain ⟨A, C, rfl, hC1, hC2⟩ := own_slice hown
              clear hy hm hdx H
              go_wp2_with fail
              go_loopw [6, 7] (fun cv i wr => ∃ (k c : Nat) (cur : List Nat), k ≤ dx.length ∧ c < 4294967296 ∧ i = .int .i64 (k : Int) ∧ cv = .int .u64 (c : Int) ∧ wr.ownsRow w.heap.size 22 1 (.slice A dx.length C) dx.length (U cur) ∧ Below w.heap.size w wr ∧ Hid (Nt.LenAt dx 10 m cur k c)) (fun _ i _ => dx.length - (intOf i).toNat)
              case atStart => exact ⟨0, m, dx, Nat.zero_le _, by omega, rfl, congrArg (Value.int .u64) (by omega), hown, hbel, Lib.hid (Nt.len_start OX.out (by omega))⟩
              case round =>
                clear hown hbel hsz
                obtain ⟨k2, c, cur, hk2, hc, rfl, rfl, hown, hbel, H⟩ := hrel
                have hsz := hbel.size
                by_cases hlt2 : k2 < dx.length
                · exact absurd hlt2 (by omega)
                · obtain rfl : k2 = dx.length := by omega
                  have hcl : Hid (cur.length = dx.length) := Lib.hid H.out.1
                  by_cases hc0 : c = 0
                  · subst hc0
                    have HE := Lib.hid (D0.out cur H.out)
                    go_wp2_with fail
                    refine ⟨⟨k + 1, n * 10 + m, by omega, by rw [HE.out, hcl.out]; omega, by go_num, ?_, hbel, ST⟩, by simp [intOf]; omega⟩
                    rw [HE.out, hcl.out]
                    exact hown
                  · have HE := Lib.hid (D1.out cur c H.out hc0)
                    have hc1 : (0 : Int) < (c : Int) := by omega
                    go_wp2_with (at_builtin; refine wpList_append_own _ rfl _ _ 24 rfl w.heap.size 22 i0 (.int .u32 0) 1 4 Tryz.underlying24 hi hz0 hz1 hz2 rfl (by decide) _ _ _ rfl (hown.alloc _) ⟨_, 0, none⟩ 1 1 [.int .u32 (c : Int)] rfl rfl (cell_one_new _ _ _) (by intro u hu; simp only [List.mem_singleton] at hu; subst hu; rfl) (by unfold maxLen; omega) (by omega) (by simp; omega) ?_; intro v3 w3 hown3 hgrow3 hnn3)
                    have hb3 : Below w.heap.size w w3 := (hbel.alloc (by omega) _).grown hgrow3 (by simp; omega) (fun k hk => (hown.lt k hk).1)
                    refine ⟨⟨k + 1, n * 10 + m, by omega, by rw [HE.out, List.length_append, hcl.out]; simp; omega, by go_num, ?_, hb3, ST⟩, by simp [intOf]; omega⟩
                    rw [HE.out, List.length_append, hcl.out]
                    simpa [U] using hown3
            · have HN := Lib.hid (NatTold.no (w := w) (w' := wr) (s := s) hbel (not_valid_at hlt (by rw [← hy]; omega)))
              have hc : y < 48 ∨ (48 ≤ y ∧ 57 < y) := by omega
              clear hy hd
              rcases hc with hc | ⟨hc, hc2⟩
              · go_wp2_with fail
                go_ret2
                exact HN.out
              · go_wp2_with fail
                go_ret2
                exact HN.out
          · obtain rfl : k = s.length := by omega
            have HD := Lib.hid (H.out.done HV.out.1 HV.out.2)
            have HY := Lib.hid (NatTold.yes hbel HD.out.1 (by rw [← HD.out.2]; exact IsRes.of_own hown))
            go_wp2_with fail
            go_ret2
            exact HY.out
      · go_wp2_with fail
        go_loopw [4, 5] (fun ov i wr => ∃ (k n : Nat), k ≤ s.length ∧ (Nt.digs n).length ≤ k ∧ i = .int .i64 (k : Int) ∧ wr.ownsRow w.heap.size 22 1 ov (Nt.digs n).length (U (Nt.digs n)) ∧ Below w.heap.size w wr ∧ Hid (NumAt s k n)) (fun _ i _ => s.length - (intOf i).toNat)
        case atStart => exact ⟨0, 0, by omega, by rw [Nt.digs_zero]; simp, rfl, by rw [Nt.digs_zero]; exact World.ownsRow_nil _ _ _ _, Below.refl _ _, Lib.hid (NumAt.start s)⟩
        case round =>
          obtain ⟨k, n, hk, hdl, rfl, hown, hbel, H⟩ := hrel
          have hsz := hbel.size
          by_cases hlt : k < s.length
          · obtain ⟨y, hy⟩ : ∃ y, y = s[k].toNat := ⟨_, rfl⟩
            have hgy : ((⟨s.toArray⟩ : ByteArray)[k]'(show k < (⟨s.toArray⟩ : ByteArray).size from hlt)).toNat = y := hy.symm
            have hy8 : y < 256 := by rw [hy]; exact UInt8.toNat_lt _
            by_cases hd : 48 ≤ y ∧ y ≤ 57
            · obtain ⟨hd1, hd2⟩ := hd
              have ST := Lib.hid (H.out.step hlt ⟨by rw [← hy]; exact hd1, by rw [← hy]; exact hd2⟩)
              rw [← hy] at ST
              obtain ⟨m, hm⟩ : ∃ m, m = y - 48 := ⟨_, rfl⟩
              have hmi : (y : Int) - 48 = (m : Int) := by omega
              have hm9 : m ≤ 9 := by omega
              rw [← hm] at ST
              have OX := Lib.hid (Nt.ok_digs n)
              have D0 : Hid (∀ cur, Nt.LenAt (Nt.digs n) 10 m cur (Nt.digs n).length 0 → Nt.digs (n * 10 + m) = cur) := Lib.hid (fun cur h => Nt.len_done0 h (by omega))
              have D1 : Hid (∀ cur c, Nt.LenAt (Nt.digs n) 10 m cur (Nt.digs n).length c → c ≠ 0 → Nt.digs (n * 10 + m) = cur ++ [c]) := Lib.hid (fun cur c h hc => Nt.len_done1 h hc)
              obtain ⟨dx, hdx⟩ : ∃ dx, dx = Nt.digs n := ⟨_, rfl⟩
              rw [← hdx] at hown hdl OX D0 D1
              obtain ⟨A, C, rfl, hC1, hC2⟩ := own_slice hown
              clear hy hm hdx H
              go_wp2_with fail
              go_loopw [6, 7] (fun cv i wr => ∃ (k c : Nat) (cur : List Nat), k ≤ dx.length ∧ c < 4294967296 ∧ i = .int .i64 (k : Int) ∧ cv = .int .u64 (c : Int) ∧ wr.ownsRow w.heap.size 22 1 (.slice A dx.length C) dx.length (U cur) ∧ Below w.heap.size w wr ∧ Hid (Nt.LenAt dx 10 m cur k c)) (fun _ i _ => dx.length - (intOf i).toNat)
              case atStart => exact ⟨0, m, dx, Nat.zero_le _, by omega, rfl, congrArg (Value.int .u64) (by omega), hown, hbel, Lib.hid (Nt.len_start OX.out (by omega))⟩
              case round =>
                clear hown hbel hsz
                obtain ⟨k2, c, cur, hk2, hc, rfl, rfl, hown, hbel, H⟩ := hrel
                have hsz := hbel.size
                by_cases hlt2 : k2 < dx.length
                · obtain ⟨g, rfl, hgb, hcell, hfz, hset⟩ := own_at hown hlt2
                  have hget := Nt.len_get H.out hlt2
                  rw [U, List.getElem?_map, hget, Option.map_some] at hcell
                  have hxb := Nt.ok_get OX.out hlt2
                  have ST2 := Lib.hid (Nt.len_step H.out hlt2 OX.out (by omega))
                  have BD := Nt.len_bounds hxb (show 10 < 4294967296 by omega) hc
                  have HSET : Hid (∀ s : Nat, (wr.setCell ⟨g, k2, none⟩ (.int .u32 (s : Int))).ownsRow w.heap.size 22 1 (.slice (some ⟨g, 0, none⟩) dx.length C) dx.length (U (cur.set k2 s))) := Lib.hid (fun s => by
                    have := hset (.int .u32 (s : Int))
                    rw [show (U cur).set k2 (.int .u32 (s : Int)) = U (cur.set k2 s) from List.map_set.symm] at this
                    exact this)
                  have HB2 : Hid (∀ s, Below w.heap.size w (wr.setCell ⟨g, k2, none⟩ s)) := Lib.hid (fun s => hbel.setCell hgb _)
                  clear hset hget hown
                  generalize dx[k2] = x at *
                  obtain ⟨ht1, ht2, ht3, ht4⟩ := BD
                  go_wp2_with fail
                  exact ⟨⟨k2 + 1, (x * 10 + c) / 4294967296, cur.set k2 ((x * 10 + c) % 4294967296), by omega, ht2, by go_num, congrArg (Value.int .u64) (by omega), HSET.out _, HB2.out _, ST2⟩, by simp [intOf]; omega⟩
                · obtain rfl : k2 = dx.length := by omega
                  have hcl : Hid (cur.length = dx.length) := Lib.hid H.out.1
                  by_cases hc0 : c = 0
                  · subst hc0
                    have HE := Lib.hid (D0.out cur H.out)
                    go_wp2_with fail
                    refine ⟨⟨k + 1, n * 10 + m, by omega, by rw [HE.out, hcl.out]; omega, by go_num, ?_, hbel, ST⟩, by simp [intOf]; omega⟩
                    rw [HE.out, hcl.out]
                    exact hown
                  · have HE := Lib.hid (D1.out cur c H.out hc0)
                    have hc1 : (0 : Int) < (c : Int) := by omega
                    go_wp2_with (at_builtin; refine wpList_append_own _ rfl _ _ 24 rfl w.heap.size 22 i0 (.int .u32 0) 1 4 Tryz.underlying24 hi hz0 hz1 hz2 rfl (by decide) _ _ _ rfl (hown.alloc _) ⟨_, 0, none⟩ 1 1 [.int .u32 (c : Int)] rfl rfl (cell_one_new _ _ _) (by intro u hu; simp only [List.mem_singleton] at hu; subst hu; rfl) (by unfold maxLen; omega) (by omega) (by simp; omega) ?_; intro v3 w3 hown3 hgrow3 hnn3)
                    have hb3 : Below w.heap.size w w3 := (hbel.alloc (by omega) _).grown hgrow3 (by simp; omega) (fun k hk => (hown.lt k hk).1)
                    refine ⟨⟨k + 1, n * 10 + m, by omega, by rw [HE.out, List.length_append, hcl.out]; simp; omega, by go_num, ?_, hb3, ST⟩, by simp [intOf]; omega⟩
                    rw [HE.out, List.length_append, hcl.out]
                    simpa [U] using hown3
            · have HN := Lib.hid (NatTold.no (w := w) (w' := wr) (s := s) hbel (not_valid_at hlt (by rw [← hy]; omega)))
              have hc : y < 48 ∨ (48 ≤ y ∧ 57 < y) := by omega
              clear hy hd
              rcases hc with hc | ⟨hc, hc2⟩
              · go_wp2_with fail
                go_ret2
                exact HN.out
              · go_wp2_with fail
                go_ret2
                exact HN.out
          · obtain rfl : k = s.length := by omega
            have HD := Lib.hid (H.out.done HV.out.1 HV.out.2)
            have HY := Lib.hid (NatTold.yes hbel HD.out.1 (by rw [← HD.out.2]; exact IsRes.of_own hown))
            go_wp2_with fail
            go_ret2
            exact HY.out
end Go.Proofs.YtfiefglagknclaaGreatDoor

/-
  What nat.Parse computes.
-/
namespace Go.Proofs.YtfiefglagknclaaGreatDoor
open Go.RowKit
set_option maxHeartbeats 1000000
set_option maxRecDepth 100000
set_option linter.unusedVariables false

/-- A part of the numeral, read on from a place. -/
def PartAt (s : List UInt8) (n at0 k p sc : Nat) : Prop := sc = 10 ^ (k - at0) ∧ p < sc ∧ Ten.numOf (s.take k) = n * sc + p
theorem PartAt.start {s : List UInt8} {n at0 : Nat} (h : n = Ten.numOf (s.take at0)) : PartAt s n at0 at0 0 1 := ⟨by rw [Nat.sub_self], by omega, by rw [← h, Nat.mul_one, Nat.add_zero]⟩
theorem PartAt.step {s : List UInt8} {n at0 k p sc : Nat} (h : PartAt s n at0 k p sc) (h1 : at0 ≤ k) (hk : k < s.length) (hd : Ten.isDig s[k]) : PartAt s n at0 (k + 1) (10 * p + (s[k].toNat - 48)) (sc * 10) := by
  obtain ⟨e1, e2, e3⟩ := h
  have := hd.2
  refine ⟨by rw [e1, show k + 1 - at0 = (k - at0) + 1 by omega, Nat.pow_succ], by omega, ?_⟩
  rw [List.take_succ_eq_append_getElem hk, Ten.numOf_snoc, e3]
  rw [show n * (sc * 10) = n * sc * 10 from (Nat.mul_assoc _ _ _).symm]
  generalize n * sc = q
  omega
theorem PartAt.bound {s : List UInt8} {n at0 k p sc : Nat} (h : PartAt s n at0 k p sc) (m : Nat) (hk : k - at0 ≤ m) : 1 ≤ sc ∧ sc ≤ 10 ^ m ∧ p < 10 ^ m := by
  obtain ⟨e1, e2, e3⟩ := h
  have h1 : 10 ^ (k - at0) ≤ 10 ^ m := Nat.pow_le_pow_right (by omega) hk
  have h2 : 1 ≤ 10 ^ (k - at0) := Nat.pow_pos (by omega)
  omega
theorem num_lt : ∀ (t : List UInt8), (∀ b ∈ t, Ten.isDig b) → Ten.numOf t < 10 ^ t.length := by
  intro t
  induction h : t.length generalizing t with
  | zero => intro _; rw [List.eq_nil_of_length_eq_zero h]; decide
  | succ n ih =>
    intro hd
    have hne : t ≠ [] := by intro e; rw [e] at h; simp at h
    obtain ⟨r, b, rfl⟩ : ∃ r b, t = r ++ [b] := ⟨t.dropLast, t.getLast hne, (List.dropLast_concat_getLast hne).symm⟩
    have := ih r (by simpa using h) (fun c hc => hd c (List.mem_append_left _ hc))
    have hb := hd b (by simp)
    have := hb.2
    rw [Ten.numOf_snoc, Nat.pow_succ]
    omega
theorem num_len {s : List UInt8} (h : Ten.Valid s) {k : Nat} (hk : k ≤ s.length) : (Nt.digs (Ten.numOf (s.take k))).length ≤ k := by
  have := num_lt (s.take k) (fun b hb => h.2.2 b (List.mem_of_mem_take hb))
  rw [List.length_take, Nat.min_eq_left hk] at this
  exact Nt.digs_len_lt (Nat.lt_of_lt_of_le this (Nat.pow_le_pow_left (by omega) k))

theorem parse_any (s : List UInt8) (w : World) (hs : s.length ≤ 1000) : Calls Tryz.prog 53 #[.string ⟨s.toArray⟩] w (NatTold s w) := by
  obtain ⟨i0, hi, hz0, hz1, hz2⟩ := info_parts u32_info
  by_cases h0 : s = []
  · have HN := Lib.hid (NatTold.no (w := w) (w' := w) (s := s) (Below.refl _ _) (fun h => h.1 h0))
    subst h0
    go_enter Tryz.func53, Tryz.ntmps53
    go_wp2_with fail
    go_ret2
    exact HN.out
  · have hpos : 0 < s.length := List.length_pos_iff.2 h0
    have h0a : s.isEmpty = false := by simpa using h0
    obtain ⟨z, hz⟩ : ∃ z, z = s[0].toNat := ⟨_, rfl⟩
    have hg0 : ((⟨s.toArray⟩ : ByteArray)[0]'(show 0 < (⟨s.toArray⟩ : ByteArray).size from hpos)).toNat = z := hz.symm
    by_cases hlead : 1 < s.length ∧ z = 48
    · obtain ⟨h1, hz48⟩ := hlead
      have HN := Lib.hid (NatTold.no (w := w) (w' := w) (s := s) (Below.refl _ _) (fun h => h.2.1 h1 (by rw [head_at hpos, UInt8.toNat_inj.1 (show s[0].toNat = (48 : UInt8).toNat by rw [← hz, hz48]; rfl)])))
      have hza : ((z : Int) == 48) = true := by simp [hz48]
      clear h0 hz hz48
      go_enter Tryz.func53, Tryz.ntmps53
      go_wp2_with fail
      go_ret2
      exact HN.out
    · have HV : Hid (s ≠ [] ∧ (1 < s.length → s.head? ≠ some 48)) := Lib.hid ⟨h0, fun h1 e => hlead ⟨h1, by
        rw [head_at hpos] at e; injection e with e; rw [hz, e]; rfl⟩⟩
      have hgo : s.length ≤ 1 ∨ (1 < s.length ∧ ((z : Int) == 48) = false) := by
        rcases Nat.lt_or_ge 1 s.length with h | h
        · exact .inr ⟨h, by rw [beq_eq_false_iff_ne]; intro e; exact hlead ⟨h, by omega⟩⟩
        · exact .inl h
      clear hlead hz h0
      go_enter Tryz.func53, Tryz.ntmps53
      rcases hgo with hl1 | ⟨hl1, hza⟩
      · go_wp2_with fail
        go_loop [24] (fun i => ∃ k : Nat, k ≤ s.length ∧ i = .int .i64 (k : Int) ∧ Hid (∀ j (hj : j < s.length), j < k → Ten.isDig s[j])) (fun i => s.length - (intOf i).toNat)
        case atStart => exact ⟨0, by omega, rfl, Lib.hid (fun j _ h => absurd h (by omega))⟩
        case round =>
          obtain ⟨k, hk, rfl, H⟩ := hrel
          by_cases hlt : k < s.length
          · obtain ⟨y, hy⟩ : ∃ y, y = s[k].toNat := ⟨_, rfl⟩
            have hgy : ((⟨s.toArray⟩ : ByteArray)[k]'(show k < (⟨s.toArray⟩ : ByteArray).size from hlt)).toNat = y := hy.symm
            have hy8 : y < 256 := by rw [hy]; exact UInt8.toNat_lt _
            by_cases hd : 48 ≤ y ∧ y ≤ 57
            · obtain ⟨hd1, hd2⟩ := hd
              have HD : Hid (∀ j (hj : j < s.length), j < k + 1 → Ten.isDig s[j]) := Lib.hid (fun j hj hjk => by
                by_cases e : j = k
                · subst e; exact ⟨by rw [← hy]; exact hd1, by rw [← hy]; exact hd2⟩
                · exact H.out j hj (by omega))
              clear hy
              go_wp2_with fail
              exact ⟨⟨k + 1, by omega, by go_num, HD⟩, by simp [intOf]; omega⟩
            · have HN := Lib.hid (NatTold.no (w := w) (w' := w) (s := s) (Below.refl _ _) (not_valid_at hlt (by rw [← hy]; omega)))
              have hc : y < 48 ∨ (48 ≤ y ∧ 57 < y) := by omega
              clear hy hd
              rcases hc with hc | ⟨hc, hc2⟩
              · go_wp2_with fail
                go_ret2
                exact HN.out
              · go_wp2_with fail
                go_ret2
                exact HN.out
          · obtain rfl : k = s.length := by omega
            have HVAL : Hid (Ten.Valid s) := Lib.hid ⟨HV.out.1, HV.out.2, fun b hb => by
              obtain ⟨j, hj, rfl⟩ := List.mem_iff_getElem.1 hb
              exact H.out j hj hj⟩
            clear hlt
            go_wp2_with (at_make; refine wpList_make_blk _ rfl _ _ 24 rfl 22 i0 (.int .u32 0) Tryz.underlying24 hi hz0 hz1 rfl .i64 .i64 _ _ 0 (s.length / 9 + 1) rfl rfl rfl (by go_num) (by omega) (by rw [hz2]; omega) (by omega) w.heap.size w (Below.refl _ _) (Nat.le_refl _) ?_; intro w1 hblk1 hb1 hb1' hlt1)
            have hown1 : w1.ownsRow w.heap.size 22 1 (.slice (some ⟨w.heap.size, 0, none⟩) 0 (s.length / 9 + 1)) 0 [] := by
              have := hblk1.own (base := w.heap.size) (n := 0) (Nat.le_refl _) (by omega) (by simp [maxLen]; omega)
              simpa using this
            clear hblk1 hb1' hlt1
            go_loopw [5, 6] (fun ov i wr => ∃ (k n : Nat), k ≤ s.length ∧ i = .int .i64 (k : Int) ∧ wr.ownsRow w.heap.size 22 1 ov (Nt.digs n).length (U (Nt.digs n)) ∧ Below w.heap.size w wr ∧ Hid (n = Ten.numOf (s.take k))) (fun _ i _ => s.length - (intOf i).toNat)
            case atStart => exact ⟨0, 0, by omega, rfl, by rw [Nt.digs_zero]; exact hown1, hb1, Lib.hid rfl⟩
            case round =>
              clear hown1 hb1
              obtain ⟨k, n, hk, rfl, hown, hbel, H2⟩ := hrel
              have hsz := hbel.size
              by_cases hlt : k < s.length
              · have hdl : (Nt.digs n).length ≤ 1000000 := by
                  have := num_len HVAL.out hk
                  rw [H2.out]; omega
                obtain ⟨E, hE⟩ : ∃ E : Nat, E = min (k + 9) s.length := ⟨_, rfl⟩
                have hE1 : k < E := by omega
                have hE2 : E ≤ s.length := by omega
                have hE3 : E ≤ k + 9 := by omega
                have hEi : min ((k : Int) + 9) (s.length : Int) = (E : Int) := by omega
                clear hE
                go_wp2_with fail
                go_loop [6, 7, 8] (fun av pv sv => ∃ (j p sc : Nat), k ≤ j ∧ j ≤ E ∧ p < 1000000000 ∧ 1 ≤ sc ∧ sc ≤ 1000000000 ∧ av = .int .i64 (j : Int) ∧ pv = .int .u32 (p : Int) ∧ sv = .int .u32 (sc : Int) ∧ Hid (PartAt s n k j p sc)) (fun av _ _ => E - (intOf av).toNat)
                case atStart => exact ⟨k, 0, 1, Nat.le_refl _, by omega, by omega, by omega, by omega, rfl, rfl, rfl, Lib.hid (PartAt.start H2.out)⟩
                case round =>
                  obtain ⟨j, p, sc, hj1, hj2, hp, hsc1, hsc2, rfl, rfl, rfl, HP⟩ := hrel
                  by_cases hjE : j < E
                  · have hjs : j < s.length := by omega
                    obtain ⟨y, hy⟩ : ∃ y, y = s[j].toNat := ⟨_, rfl⟩
                    have hgy : ((⟨s.toArray⟩ : ByteArray)[j]'(show j < (⟨s.toArray⟩ : ByteArray).size from hjs)).toNat = y := hy.symm
                    have hdg := HVAL.out.2.2 s[j] (List.getElem_mem hjs)
                    have ST := Lib.hid (HP.out.step hj1 hjs hdg)
                    have BD := HP.out.bound 8 (by omega)
                    simp only [Nat.reducePow] at BD
                    obtain ⟨_, hb1, hb2⟩ := BD
                    unfold Ten.isDig at hdg
                    rw [← hy] at ST hdg
                    obtain ⟨hd1, hd2⟩ := hdg
                    clear hy
                    go_wp2_with fail
                    exact ⟨⟨j + 1, 10 * p + (y - 48), sc * 10, by omega, by omega, by omega, by omega, by omega, by go_num, congrArg (Value.int .u32) (by omega), congrArg (Value.int .u32) (by omega), ST⟩, by simp [intOf]; omega⟩
                  · obtain rfl : j = E := by omega
                    have LEN := Lib.hid (lengthen_any w.heap.size _ n sc p wr hown hsz hdl hsc1 (by omega) (by omega))
                    clear hown
                    go_wp2_with (go_at_call 93; refine LEN.out.mono ?_; rintro e w2 ⟨v2, rfl, hown2, hb2⟩)
                    exact ⟨⟨j, n * sc + p, by omega, rfl, hown2, hbel.trans hb2, Lib.hid HP.out.2.2.symm⟩, by simp [intOf]; omega⟩
              · obtain rfl : k = s.length := by omega
                have HY := Lib.hid (NatTold.yes hbel HVAL.out (by have := H2.out; rw [List.take_length] at this; rw [← this]; exact IsRes.of_own hown))
                go_wp2_with fail
                go_ret2
                exact HY.out
      · go_wp2_with fail
        go_loop [24] (fun i => ∃ k : Nat, k ≤ s.length ∧ i = .int .i64 (k : Int) ∧ Hid (∀ j (hj : j < s.length), j < k → Ten.isDig s[j])) (fun i => s.length - (intOf i).toNat)
        case atStart => exact ⟨0, by omega, rfl, Lib.hid (fun j _ h => absurd h (by omega))⟩
        case round =>
          obtain ⟨k, hk, rfl, H⟩ := hrel
          by_cases hlt : k < s.length
          · obtain ⟨y, hy⟩ : ∃ y, y = s[k].toNat := ⟨_, rfl⟩
            have hgy : ((⟨s.toArray⟩ : ByteArray)[k]'(show k < (⟨s.toArray⟩ : ByteArray).size from hlt)).toNat = y := hy.symm
            have hy8 : y < 256 := by rw [hy]; exact UInt8.toNat_lt _
            by_cases hd : 48 ≤ y ∧ y ≤ 57
            · obtain ⟨hd1, hd2⟩ := hd
              have HD : Hid (∀ j (hj : j < s.length), j < k + 1 → Ten.isDig s[j]) := Lib.hid (fun j hj hjk => by
                by_cases e : j = k
                · subst e; exact ⟨by rw [← hy]; exact hd1, by rw [← hy]; exact hd2⟩
                · exact H.out j hj (by omega))
              clear hy
              go_wp2_with fail
              exact ⟨⟨k + 1, by omega, by go_num, HD⟩, by simp [intOf]; omega⟩
            · have HN := Lib.hid (NatTold.no (w := w) (w' := w) (s := s) (Below.refl _ _) (not_valid_at hlt (by rw [← hy]; omega)))
              have hc : y < 48 ∨ (48 ≤ y ∧ 57 < y) := by omega
              clear hy hd
              rcases hc with hc | ⟨hc, hc2⟩
              · go_wp2_with fail
                go_ret2
                exact HN.out
              · go_wp2_with fail
                go_ret2
                exact HN.out
          · obtain rfl : k = s.length := by omega
            have HVAL : Hid (Ten.Valid s) := Lib.hid ⟨HV.out.1, HV.out.2, fun b hb => by
              obtain ⟨j, hj, rfl⟩ := List.mem_iff_getElem.1 hb
              exact H.out j hj hj⟩
            clear hlt
            go_wp2_with (at_make; refine wpList_make_blk _ rfl _ _ 24 rfl 22 i0 (.int .u32 0) Tryz.underlying24 hi hz0 hz1 rfl .i64 .i64 _ _ 0 (s.length / 9 + 1) rfl rfl rfl (by go_num) (by omega) (by rw [hz2]; omega) (by omega) w.heap.size w (Below.refl _ _) (Nat.le_refl _) ?_; intro w1 hblk1 hb1 hb1' hlt1)
            have hown1 : w1.ownsRow w.heap.size 22 1 (.slice (some ⟨w.heap.size, 0, none⟩) 0 (s.length / 9 + 1)) 0 [] := by
              have := hblk1.own (base := w.heap.size) (n := 0) (Nat.le_refl _) (by omega) (by simp [maxLen]; omega)
              simpa using this
            clear hblk1 hb1' hlt1
            go_loopw [5, 6] (fun ov i wr => ∃ (k n : Nat), k ≤ s.length ∧ i = .int .i64 (k : Int) ∧ wr.ownsRow w.heap.size 22 1 ov (Nt.digs n).length (U (Nt.digs n)) ∧ Below w.heap.size w wr ∧ Hid (n = Ten.numOf (s.take k))) (fun _ i _ => s.length - (intOf i).toNat)
            case atStart => exact ⟨0, 0, by omega, rfl, by rw [Nt.digs_zero]; exact hown1, hb1, Lib.hid rfl⟩
            case round =>
              clear hown1 hb1
              obtain ⟨k, n, hk, rfl, hown, hbel, H2⟩ := hrel
              have hsz := hbel.size
              by_cases hlt : k < s.length
              · have hdl : (Nt.digs n).length ≤ 1000000 := by
                  have := num_len HVAL.out hk
                  rw [H2.out]; omega
                obtain ⟨E, hE⟩ : ∃ E : Nat, E = min (k + 9) s.length := ⟨_, rfl⟩
                have hE1 : k < E := by omega
                have hE2 : E ≤ s.length := by omega
                have hE3 : E ≤ k + 9 := by omega
                have hEi : min ((k : Int) + 9) (s.length : Int) = (E : Int) := by omega
                clear hE
                go_wp2_with fail
                go_loop [6, 7, 8] (fun av pv sv => ∃ (j p sc : Nat), k ≤ j ∧ j ≤ E ∧ p < 1000000000 ∧ 1 ≤ sc ∧ sc ≤ 1000000000 ∧ av = .int .i64 (j : Int) ∧ pv = .int .u32 (p : Int) ∧ sv = .int .u32 (sc : Int) ∧ Hid (PartAt s n k j p sc)) (fun av _ _ => E - (intOf av).toNat)
                case atStart => exact ⟨k, 0, 1, Nat.le_refl _, by omega, by omega, by omega, by omega, rfl, rfl, rfl, Lib.hid (PartAt.start H2.out)⟩
                case round =>
                  obtain ⟨j, p, sc, hj1, hj2, hp, hsc1, hsc2, rfl, rfl, rfl, HP⟩ := hrel
                  by_cases hjE : j < E
                  · have hjs : j < s.length := by omega
                    obtain ⟨y, hy⟩ : ∃ y, y = s[j].toNat := ⟨_, rfl⟩
                    have hgy : ((⟨s.toArray⟩ : ByteArray)[j]'(show j < (⟨s.toArray⟩ : ByteArray).size from hjs)).toNat = y := hy.symm
                    have hdg := HVAL.out.2.2 s[j] (List.getElem_mem hjs)
                    have ST := Lib.hid (HP.out.step hj1 hjs hdg)
                    have BD := HP.out.bound 8 (by omega)
                    simp only [Nat.reducePow] at BD
                    obtain ⟨_, hb1, hb2⟩ := BD
                    unfold Ten.isDig at hdg
                    rw [← hy] at ST hdg
                    obtain ⟨hd1, hd2⟩ := hdg
                    clear hy
                    go_wp2_with fail
                    exact ⟨⟨j + 1, 10 * p + (y - 48), sc * 10, by omega, by omega, by omega, by omega, by omega, by go_num, congrArg (Value.int .u32) (by omega), congrArg (Value.int .u32) (by omega), ST⟩, by simp [intOf]; omega⟩
                  · obtain rfl : j = E := by omega
                    have LEN := Lib.hid (lengthen_any w.heap.size _ n sc p wr hown hsz hdl hsc1 (by omega) (by omega))
                    clear hown
                    go_wp2_with (go_at_call 93; refine LEN.out.mono ?_; rintro e w2 ⟨v2, rfl, hown2, hb2⟩)
                    exact ⟨⟨j, n * sc + p, by omega, rfl, hown2, hbel.trans hb2, Lib.hid HP.out.2.2.symm⟩, by simp [intOf]; omega⟩
              · obtain rfl : k = s.length := by omega
                have HY := Lib.hid (NatTold.yes hbel HVAL.out (by have := H2.out; rw [List.take_length] at this; rw [← this]; exact IsRes.of_own hown))
                go_wp2_with fail
                go_ret2
                exact HY.out
end Go.Proofs.YtfiefglagknclaaGreatDoor

/-
  digits.number and scrimref05.value: the number of digits that may begin with noughts.
-/
namespace Go.Proofs.YtfiefglagknclaaGreatDoor
open Go.RowKit
set_option maxHeartbeats 1000000
set_option maxRecDepth 100000
set_option linter.unusedVariables false

/-- The call hands back a number's limbs. -/
def DigsOut (w : World) (n : Nat) (e : Ending) (w' : World) : Prop := ∃ v, e = .returned v ∧ IsRes w' v (Nt.digs n) ∧ Below w.heap.size w w'
theorem natTold_valid {s : List UInt8} {w w' : World} {e : Ending} (h : NatTold s w e w') (hv : Ten.Valid s) : ∃ v, e = .returned (.tuple #[v, .bool true]) ∧ IsRes w' v (Nt.digs (Ten.numOf s)) ∧ Below w.heap.size w w' := by
  obtain ⟨hb, v, ok, n, rfl, hr, hc⟩ := h
  rcases hc with ⟨rfl, _, rfl⟩ | ⟨_, h2, _⟩
  · exact ⟨v, rfl, hr, hb⟩
  · exact absurd hv h2

theorem number_any (s : List UInt8) (w : World) (hs : s.length ≤ 1000) (hd : ∀ b ∈ s, Ten.isDig b) :
    Calls Tryz.prog 25 #[.string ⟨s.toArray⟩] w (DigsOut w (Ten.numOf s)) := by
  have TL := Tryz.strings_TrimLeft_one ⟨s.toArray⟩ 48 (by decide) w
  rw [show (⟨s.toArray⟩ : ByteArray).data.toList = s from rfl, show Lib.trimLeftB s 48 = Dg.strip s from rfl] at TL
  have hl := Dg.strip_len s
  have HV := Lib.hid (fun h => Dg.strip_valid hd h)
  have HN := Lib.hid (Dg.numOf_strip s)
  have HZ := Lib.hid (fun h => Dg.strip_nil (s := s) h)
  generalize Dg.strip s = t at *
  have HTL := Lib.hid TL
  clear TL hd
  by_cases h0 : t = []
  · have hz := HZ.out h0
    have hemp : t.isEmpty = true := by rw [h0]; rfl
    have HZ2 := Lib.hid hz
    subst h0
    clear hz HV HN HZ
    go_enter Tryz.func25, Tryz.ntmps25
    go_wp2_with fail
    refine HTL.out.mono ?_
    rintro e w' ⟨rfl, rfl⟩
    go_wp2_with fail
    go_ret
    exact ⟨_, rfl, by rw [HZ2.out, Nt.digs_zero]; exact IsRes.none_ _, Below.refl _ _⟩
  · have hemp : t.isEmpty = false := by cases t with | nil => exact absurd rfl h0 | cons a r => rfl
    have h1 : ¬ t = [] := h0
    have PA := Lib.hid (fun (wx : World) => parse_any t wx (by omega))
    have HV2 := Lib.hid (HV.out h0)
    clear HZ HV
    go_enter Tryz.func25, Tryz.ntmps25
    go_wp2_with fail
    refine HTL.out.mono ?_
    rintro e w' ⟨rfl, rfl⟩
    go_wp2_with fail
    refine (PA.out _).mono ?_
    rintro e w2 hnt
    obtain ⟨v, rfl, hr, hb⟩ := natTold_valid hnt HV2.out
    have HR := Lib.hid hr
    clear hnt hr
    go_wp2_with fail
    go_ret
    exact ⟨_, rfl, by rw [← HN.out]; exact HR.out, hb⟩

theorem str_from (s : List UInt8) (n : Nat) : (⟨s.toArray⟩ : ByteArray).extract n s.length = ⟨(s.drop n).toArray⟩ := by
  apply ByteArray.ext
  simp
  exact List.take_of_length_le (by simp)
theorem str_upto (s : List UInt8) (n : Nat) (h : n ≤ s.length) : (⟨s.toArray⟩ : ByteArray).extract 0 n = ⟨(s.take n).toArray⟩ := by
  apply ByteArray.ext
  simp
/-- How many noughts ahead have been left out. -/
def SkipAt (s : List UInt8) (k : Nat) : Prop := ∀ i (hi : i < s.length), i < k → s[i] = 48
theorem SkipAt.step {s : List UInt8} {k : Nat} (h : SkipAt s k) (hk : k < s.length) (he : s[k] = 48) : SkipAt s (k + 1) := fun i hi hik => by
  by_cases e : i = k
  · subst e; exact he
  · exact h i hi (by omega)
theorem SkipAt.done {s : List UInt8} {k : Nat} (h : SkipAt s k) (hd : ∀ b ∈ s, Ten.isDig b) (hk : k < s.length) (hn : k + 1 < s.length → s[k] ≠ 48) : Ten.Valid (s.drop k) ∧ Ten.numOf (s.drop k) = Ten.numOf s := ⟨Dg.valid_drop hd hk hn, Dg.numOf_drop h (by omega)⟩

theorem value_any (s : List UInt8) (w : World) (hs : s.length ≤ 1000) (h0 : 0 < s.length) (hd : ∀ b ∈ s, Ten.isDig b) :
    Calls Tryz.prog 125 #[.string ⟨s.toArray⟩] w (DigsOut w (Ten.numOf s)) := by
  have hsz : (⟨s.toArray⟩ : ByteArray).size = s.length := rfl
  have HSZ := Lib.hid hsz
  have HD := Lib.hid hd
  clear hsz hd
  go_enter Tryz.func125, Tryz.ntmps125
  go_wp2
  go_loop [3] (fun i => ∃ k : Nat, k < s.length ∧ i = .int .i64 (k : Int) ∧ Hid (SkipAt s k)) (fun i => s.length - (intOf i).toNat)
  case atStart => exact ⟨0, h0, rfl, Lib.hid (fun i hi h => absurd h (by omega))⟩
  case round =>
    obtain ⟨k, hk, rfl, H⟩ := hrel
    have PA := Lib.hid (fun (wx : World) => refParse_any (s.drop k) wx (by rw [List.length_drop]; omega))
    have SF := Lib.hid (str_from s k)
    have hfin : (k + 1 < s.length → s[k] ≠ 48) → ∀ e w2, NatTold (s.drop k) w e w2 → ∃ v, e = .returned (.tuple #[v, .bool true]) ∧ IsRes w2 v (Nt.digs (Ten.numOf s)) ∧ Below w.heap.size w w2 := by
      intro hn e w2 hnt
      obtain ⟨hv, he⟩ := H.out.done HD.out hk hn
      rw [← he]
      exact natTold_valid hnt hv
    have HF := Lib.hid hfin
    clear hfin
    by_cases hlt : k + 1 < s.length
    · obtain ⟨y, hy⟩ : ∃ y, y = s[k].toNat := ⟨_, rfl⟩
      have hgy : ((⟨s.toArray⟩ : ByteArray)[k]'(show k < (⟨s.toArray⟩ : ByteArray).size from hk)).toNat = y := hy.symm
      have HY := Lib.hid hy
      have h48 : Hid (s[k] = 48 ↔ y = 48) := Lib.hid (by
        rw [hy]
        constructor
        · intro h; rw [h]; rfl
        · intro h; exact UInt8.toNat_inj.1 (by rw [h]; rfl))
      clear hy
      by_cases h1 : y = 48
      · subst h1
        have HS := Lib.hid (H.out.step hk (h48.out.2 rfl))
        clear PA SF HF
        go_wp2
        go_round
        case rel => exact ⟨k + 1, hlt, by go_num, HS⟩
        case measure => simp [intOf]; omega
      · have hq : ((y : Int) == 48) = false := beq_eq_false_iff_ne.2 (by omega)
        have HF2 := Lib.hid (HF.out (fun _ h => h1 (h48.out.1 h)))
        clear HF
        go_wp2_with fail
        rw [SF.out]
        refine (PA.out _).mono ?_
        rintro e w2 hnt
        obtain ⟨v, rfl, hr, hb⟩ := HF2.out e w2 hnt
        have HR := Lib.hid hr
        clear hnt hr PA SF HF2
        go_wp2_with fail
        go_ret
        exact ⟨_, rfl, HR.out, hb⟩
    · have HF2 := Lib.hid (HF.out (fun h => absurd h hlt))
      clear HF
      go_wp2_with fail
      rw [SF.out]
      refine (PA.out _).mono ?_
      rintro e w2 hnt
      obtain ⟨v, rfl, hr, hb⟩ := HF2.out e w2 hnt
      have HR := Lib.hid hr
      clear hnt hr PA SF HF2
      go_wp2_with fail
      go_ret
      exact ⟨_, rfl, HR.out, hb⟩
end Go.Proofs.YtfiefglagknclaaGreatDoor

/-
  What scrimref02.Text computes.
-/
namespace Nt
/-- Limbs divided from the top down, the quotient's put ahead of each other. -/
def TenDnAt (l : List Nat) (cur : List Nat) (k r : Nat) : Prop := cur.length + k = l.length ∧ Ok cur ∧ r < 10 ∧ val cur * 10 + r = val (l.drop k)
theorem tenDn_start (l : List Nat) : TenDnAt l [] l.length 0 := ⟨by simp, ok_nil, by omega, by simp [val]⟩
theorem tenDn_step {l cur : List Nat} {k r : Nat} (h : TenDnAt l cur (k + 1) r) (hk : k < l.length) (hl : Ok l) : TenDnAt l ((r * 4294967296 + l[k]) / 10 :: cur) k ((r * 4294967296 + l[k]) % 10) := by
  obtain ⟨h1, h2, h3, h4⟩ := h
  have hx := ok_get hl hk
  refine ⟨by simp; omega, fun d hd => ?_, by omega, ?_⟩
  · rcases List.mem_cons.1 hd with e | e
    · rw [e]; omega
    · exact h2 d e
  · rw [List.drop_eq_getElem_cons hk, val, val, ← h4]
    generalize l[k] = x at *
    generalize val cur = V at *
    omega
theorem tenDn_end {l cur : List Nat} {r : Nat} (h : TenDnAt l cur 0 r) : val cur = val l / 10 ∧ r = val l % 10 := by
  obtain ⟨h1, h2, h3, h4⟩ := h
  rw [List.drop_zero] at h4
  omega
end Nt
namespace Go.Proofs.YtfiefglagknclaaGreatDoor
open Go.RowKit
set_option maxHeartbeats 1000000
set_option maxRecDepth 100000
set_option linter.unusedVariables false

def strLen : Value → Nat
  | .string b => b.size
  | _ => 0
theorem Lies.cells_ {w : World} {B : Nat} {ad : Addr} {xs : List Value} (h : Lies w B (some ad) xs) : ∀ j u, xs[j]? = some u → w.cell? (ad.add j) = some u := fun j u hj => by
  have hp : 0 < xs.length := by
    rcases Nat.lt_or_ge j xs.length with h' | h'
    · omega
    · rw [List.getElem?_eq_none h'] at hj; cases hj
  obtain ⟨ad', h1, h2⟩ := h.src hp
  injection h1 with h1
  subst h1
  exact h2 j u hj
theorem digit_cut {r : Nat} (h : r < 10) : (⟨#[48, 49, 50, 51, 52, 53, 54, 55, 56, 57]⟩ : ByteArray).extract r (r + 1) = ⟨#[Ten.dch r]⟩ := by
  match r, h with
  | 0, _ => decide
  | 1, _ => decide
  | 2, _ => decide
  | 3, _ => decide
  | 4, _ => decide
  | 5, _ => decide
  | 6, _ => decide
  | 7, _ => decide
  | 8, _ => decide
  | 9, _ => decide
def topE (k : Nat) : Nat := 10 ^ (10 * (k + 1))
theorem val_top (k : Nat) {l : List Nat} (ho : Nt.Ok l) (hs : l.length ≤ k + 1) : Nt.val l < topE k := by
  have h1 := Nt.val_lt ho
  have h2 : (4294967296 : Nat) ^ l.length ≤ 4294967296 ^ (k + 1) := Nat.pow_le_pow_right (by omega) hs
  have h3 : (4294967296 : Nat) ^ (k + 1) ≤ (10 ^ 10) ^ (k + 1) := Nat.pow_le_pow_left (by omega) (k + 1)
  rw [← Nat.pow_mul] at h3
  exact Nat.lt_of_lt_of_le h1 (Nat.le_trans h2 h3)
theorem dec_top (k : Nat) {n : Nat} (h : n < topE k) : (Lib.decDigits n).length ≤ 10 * (k + 1) := by
  have := (Ten.dec_len (k := 10 * k + 9) (r := n) (by rw [show 10 * k + 9 + 1 = 10 * (k + 1) by omega]; exact h)).2
  omega
theorem dec_bound {l : List Nat} (ho : Nt.Ok l) (hs : l.length ≤ 1000) : (Lib.decDigits (Nt.val l)).length ≤ 10000 := dec_top 999 (val_top 999 ho hs)
theorem OutAt_len {n y : Nat} {T : List UInt8} (h : Ten.OutAt n y T) : T.length ≤ (Lib.decDigits n).length ∧ (0 < y → T.length < (Lib.decDigits n).length) := by
  have hne := Ten.dec_ne y
  have : 0 < (Lib.decDigits y).length := List.length_pos_iff.2 hne
  rcases Nat.eq_zero_or_pos y with e | e
  · exact ⟨by rw [h.2 e]; exact Nat.le_refl _, fun h' => by omega⟩
  · have := h.1 e
    exact ⟨by rw [this, List.length_append]; omega, fun _ => by rw [this, List.length_append]; omega⟩

theorem refText_any (A : Option Addr) (c B : Nat) (l : List Nat) (w : World) (hl : Lies w B A (U l)) (hB : B ≤ w.heap.size) (ho : Nt.Ok l) (hc : l.length ≤ c) (hm : c ≤ 9223372036854775807) (hA : A = none → c = 0) (hs : l.length ≤ 1000) :
    Calls Tryz.prog 17 #[.slice A l.length c] w fun e w' => e = .returned (.string ⟨(Lib.decDigits (Nt.val l)).toArray⟩) ∧ Below w.heap.size w w' := by
  obtain ⟨i0, hi, hz0, hz1, hz2⟩ := info_parts u32_info
  have hdl := Nt.digs_len_le ho
  have hlen := dec_bound ho hs
  have RN := Lib.hid (refNorm_any A c B l w hl hB ho hc hm hA (by omega))
  clear hl ho
  generalize Nt.val l = n at *
  go_enter Tryz.func17, Tryz.ntmps17
  go_wp2_with fail
  refine RN.out.mono ?_
  rintro e w1 ⟨v, rfl, hres, hb1⟩
  obtain ⟨A1, c1, rfl, hc1, hc2, hc3, hlies⟩ := hres
  by_cases h0 : n = 0
  · subst h0
    rw [Nt.digs_zero]
    clear RN
    have HZ : Hid (Lib.decDigits 0 = [48]) := Lib.hid (Ten.dec_small (by omega))
    go_wp2_with fail
    go_ret
    rw [HZ.out]
    exact ⟨rfl, hb1⟩
  · have hne : (Nt.digs n).length ≠ 0 := fun e => h0 (Nt.digs_nil_iff.1 (List.eq_nil_of_length_eq_zero e))
    have hne2 : (((Nt.digs n).length : Int) == 0) = false := by rw [beq_eq_false_iff_ne]; omega
    clear RN
    go_wp2_with fail
    go_loopw [3, 4] (fun xv sv wr => ∃ (y : Nat) (T : List UInt8), (Nt.digs y).length ≤ 1000 ∧ T.length ≤ 10000 ∧ sv = .string ⟨T.toArray⟩ ∧ IsRes wr xv (Nt.digs y) ∧ Below w.heap.size w wr ∧ Hid (Ten.OutAt n y T)) (fun _ sv _ => 10001 - strLen sv)
    case atStart => exact ⟨n, [], by omega, by simp, rfl, ⟨A1, c1, rfl, hc1, hc2, hc3, hlies⟩, hb1, Lib.hid (Ten.OutAt.start (by omega))⟩
    case round =>
      clear hlies hc1 hc2 hc3 hb1 hne hne2
      obtain ⟨y, T, hyl, hT, rfl, ⟨A1, c1, rfl, hc1, hc2, hc3, hlies⟩, hbel, H⟩ := hrel
      have hsz := hbel.size
      by_cases hy0 : y = 0
      · subst hy0
        have HE := Lib.hid (H.out.2 rfl)
        rw [Nt.digs_zero]
        go_wp2_with fail
        go_ret
        rw [HE.out]
        exact ⟨rfl, hbel⟩
      · have hypos : 0 < (Nt.digs y).length := Nat.pos_of_ne_zero (fun e => hy0 (Nt.digs_nil_iff.1 (List.eq_nil_of_length_eq_zero e)))
        have hTl := (OutAt_len H.out).2 (by omega)
        have STEP := Lib.hid (H.out.step (by omega))
        have HDE : Hid (∀ cur r, Nt.TenDnAt (Nt.digs y) cur 0 r → Nt.val cur = y / 10 ∧ r = y % 10 ∧ Nt.Ok cur ∧ cur.length = (Nt.digs y).length) := Lib.hid (fun cur r h => by
          have := Nt.tenDn_end h
          rw [Nt.val_digs] at this
          exact ⟨this.1, this.2, h.2.1, by have := h.1; omega⟩)
        have HYL : Hid ((Nt.digs (y / 10)).length ≤ 1000) := Lib.hid (Nat.le_trans (Nt.digs_len_le_of (Nat.div_le_self y 10)) hyl)
        have OX := Lib.hid (Nt.ok_digs y)
        have DS := Lib.hid (Nt.tenDn_start (Nt.digs y))
        obtain ⟨dx, hdx⟩ : ∃ dx, dx = Nt.digs y := ⟨_, rfl⟩
        rw [← hdx] at hyl hc1 hlies hypos HDE OX DS ⊢
        clear hdx H
        rename World => W
        go_wp2_with fail
        go_loopw [5, 6, 7] (fun ov rv iv wq => ∃ (k r : Nat) (cur : List Nat), k ≤ dx.length ∧ r < 10 ∧ iv = .int .i64 ((k : Int) - 1) ∧ rv = .int .u64 (r : Int) ∧ IsRes wq ov cur ∧ Below W.heap.size W wq ∧ Hid (Nt.TenDnAt dx cur k r)) (fun _ _ iv _ => (intOf iv + 1).toNat)
        case atStart => exact ⟨dx.length, 0, [], Nat.le_refl _, by omega, by go_num, rfl, IsRes.none_ _, Below.refl _ _, DS⟩
        case round =>
          obtain ⟨k, r, cur, hk, hr, rfl, rfl, ⟨A2, c2, rfl, hd1, hd2, hd3, hl2⟩, hbq, HQ⟩ := hrel
          have hszq := hbq.size
          rcases k with _ | k
          · obtain ⟨hv1, hv2, hv3, hv4⟩ := HDE.out cur r HQ.out
            have RN := Lib.hid (refNorm_any A2 c2 _ cur wr hl2 (Nat.le_refl _) hv3 hd1 hd2 hd3 (by omega))
            rw [hv1] at RN
            rw [← hv2] at STEP
            have HDG := Lib.hid (digit_cut hr)
            have hcl : cur.length ≤ 1000 := by omega
            clear hv1 hv2 hv3 hv4 hl2 hd3 HDE DS OX
            go_wp2_with fail
            rw [HDG.out, show (⟨#[Ten.dch r]⟩ : ByteArray) ++ ⟨T.toArray⟩ = ⟨(Ten.dch r :: T).toArray⟩ from by
              apply ByteArray.ext; simp]
            refine RN.out.mono ?_
            rintro e w3 ⟨v3, rfl, hres3, hb3⟩
            have hyq : (Nt.digs (y / 10)).length ≤ 1000 := HYL.out
            go_wp2_with fail
            exact ⟨⟨y / 10, Ten.dch r :: T, hyq, by simp; omega, rfl, hres3, hbel.trans ((hbq.trans (hb3.mono hszq)).mono hsz), STEP⟩, by simp [strLen, ByteArray.size]; omega⟩
          · have hk1 : ((k + 1 : Nat) : Int) - 1 = (k : Int) := by omega
            rw [hk1]
            clear hk1
            have hkl : k < dx.length := by omega
            obtain ⟨b, off, rfl, hbb, hcell⟩ := (hlies.below hbq).limb hkl
            have hxb := Nt.ok_get OX.out hkl
            have ST := Lib.hid (Nt.tenDn_step HQ.out hkl OX.out)
            have hcl : cur.length + (k + 1) = dx.length := HQ.out.1
            generalize dx[k] = x at hcell hxb ST
            obtain ⟨t, ht⟩ : ∃ t, t = r * 4294967296 + x := ⟨_, rfl⟩
            have hti : (r : Int) * 4294967296 + (x : Int) = (t : Int) := by omega
            have htb : t < 42949672960 := by omega
            rw [← ht] at ST
            clear ht
            obtain ⟨q, hq⟩ : ∃ q, q = t / 10 := ⟨_, rfl⟩
            have hqi : (t : Int) / 10 = (q : Int) := by omega
            have hqb : q < 4294967296 := by omega
            obtain ⟨r2, hr2⟩ : ∃ r2, r2 = t % 10 := ⟨_, rfl⟩
            have hri : (t : Int) % 10 = (r2 : Int) := by omega
            have hrb : r2 < 10 := by omega
            rw [← hq, ← hr2] at ST
            clear hq hr2
            have hown1 : (wr.alloc (.cells #[.int .u32 (q : Int)] 22)).ownsRow W.heap.size 22 1 (.slice (some ⟨wr.heap.size, 0, none⟩) 1 1) 1 [.int .u32 (q : Int)] := (Blk.new wr 22 [.int .u32 (q : Int)]).own_all hszq (by simp [maxLen])
            have hb4 := hbq.alloc hszq (.cells #[.int .u32 (q : Int)] 22)
            rcases A2 with _ | ad
            · have hc0 : c2 = 0 := hd3 rfl
              subst hc0
              obtain rfl : cur = [] := List.eq_nil_of_length_eq_zero (by omega)
              go_wp2_with (at_builtin; refine wpList_append_own_none rfl _ _ 24 rfl W.heap.size 22 i0 1 Tryz.underlying24 hi _ 1 _ rfl hown1 rfl ?_)
              refine ⟨⟨k, r2, [q], by omega, hrb, by go_num, congrArg (Value.int .u64) (by omega), IsRes.of_own (base := W.heap.size) hown1, hb4, ST⟩, ?_⟩
              first | (simp [intOf]; done) | (simp [intOf]; omega)
            · have hl3 : Lies (wr.alloc (.cells #[.int .u32 (q : Int)] 22)) wr.heap.size (some ad) (U cur) := Lies.below (show Lies wr wr.heap.size (some ad) (U cur) from hl2) ((Below.refl _ _).alloc (Nat.le_refl _) _)
              clear hd3
              go_wp2_with (at_builtin; refine wpList_append_own _ rfl _ _ 24 rfl W.heap.size 22 i0 (.int .u32 0) 1 4 Tryz.underlying24 hi hz0 hz1 hz2 rfl (by decide) _ 1 _ rfl hown1 ad cur.length c2 (U cur) rfl (by rw [U_len]; omega) (Lies.cells_ hl3) (U_one _) (by unfold maxLen; omega) (by omega) (by simp; omega) ?_; intro v3 w3 hown3 hgrow3 hnn3)
              have hb3 : Below W.heap.size W w3 := hb4.grown hgrow3 (by simp; omega) (fun k hk => by injection hk with hk; subst hk; exact hszq)
              refine ⟨⟨k, r2, q :: cur, by omega, hrb, by go_num, congrArg (Value.int .u64) (by omega), IsRes.of_own (base := W.heap.size) ?_, hb3, ST⟩, ?_⟩
              · rw [Nat.add_comm] at hown3; exact hown3
              · first | (simp [intOf]; done) | (simp [intOf]; omega)
end Go.Proofs.YtfiefglagknclaaGreatDoor

/-
  What nat.Text computes.
-/
namespace Go.Proofs.YtfiefglagknclaaGreatDoor
open Go.RowKit
set_option maxHeartbeats 1000000
set_option maxRecDepth 100000
set_option linter.unusedVariables false

theorem own_keep {w w' : World} {base n : Nat} {t : TypeId} {v : Value} {xs : List Value} (h : w.ownsRow base t 1 v n xs) (hk : ∀ g, base ≤ g → g < w.heap.size → w'.heap[g]? = w.heap[g]?) : w'.ownsRow base t 1 v n xs := by
  refine ⟨h.1, ?_⟩
  rcases h.2 with h2 | ⟨g, cap, cur, hv, hb, hg, hr⟩
  · exact .inl h2
  · refine .inr ⟨g, cap, cur, hv, hb, ?_, hr⟩
    rw [hk g hb (by
      rcases Nat.lt_or_ge g w.heap.size with h' | h'
      · exact h'
      · rw [Array.getElem?_eq_none h'] at hg; cases hg)]
    exact hg
theorem builder_below {w w' : World} {T e : TypeId} {B b : Nat} {bs : List Value} (h : Lib.IsBuilder T e B b bs w) (hb : Below w.heap.size w w') : Lib.IsBuilder T e B b bs w' := by
  have one : ∀ {p : Value}, Lib.BuilderAt T e B b p bs w → Lib.BuilderAt T e B b p bs w' := fun {p} k => by
    have hlt := k.lt
    obtain ⟨h1, v, h2, h3, h4⟩ := k
    exact ⟨h1, v, (hb.block b hlt).trans h2, own_keep h3 (fun g _ hg => hb.block g hg), h4⟩
  exact h.imp one one
theorem tabIs_below {P : Program} {w w' : World} {name : String} {k : IntKind} {zs : List Int} {B : Nat} (h : Lib.TabIs P w name k zs) (hb : Below B w w') (hg : ∀ g, P.globalNamed name = some g → g < B) : Lib.TabIs P w' name k zs := by
  unfold Lib.TabIs World.var? at *
  cases he : P.globalNamed name with
  | none => simp [he] at h
  | some g =>
    simp only [he, Option.bind_some] at h ⊢
    rw [hb.block g (hg g he)]
    exact h
def sliceLen : Value → Nat
  | .slice _ n _ => n
  | _ => 0
def grps (v i : Nat) : List Nat := (List.range i).map (Ten.grp v)
theorem grps_len (v i : Nat) : (grps v i).length = i := by simp [grps]
theorem grps_next (v i : Nat) : grps v (i + 1) = grps v i ++ [Ten.grp v i] := by simp [grps, List.range_succ]
theorem grps_at {v i j : Nat} (h : j < i) : (grps v i)[j]? = some (Ten.grp v j) := by
  rw [grps, List.getElem?_map, List.getElem?_range h]; rfl
theorem rounds_top (k : Nat) {v i : Nat} (hv : v < topE k) (h : 0 < v / 1000000000 ^ i) : 9 * i < 10 * (k + 1) := by
  rcases Nat.lt_or_ge (9 * i) (10 * (k + 1)) with h' | h'
  · exact h'
  · exfalso
    have h1 : (10 : Nat) ^ (10 * (k + 1)) ≤ 10 ^ (9 * i) := Nat.pow_le_pow_right (by omega) h'
    rw [Nat.pow_mul 10 9 i] at h1
    rw [Nat.div_eq_of_lt (Nat.lt_of_lt_of_le hv h1)] at h
    omega
theorem rounds_le {v i : Nat} (hv : v < topE 999) (h : 0 < v / 1000000000 ^ i) : i < 1112 := by
  have := rounds_top 999 hv h
  omega
theorem val_bound {l : List Nat} (ho : Nt.Ok l) (hs : l.length ≤ 1000) : Nt.val l < topE 999 := val_top 999 ho hs
theorem dec_short {m n : Nat} (h : m ≤ n) (hn : n < topE 999) : (Lib.decDigits m).length ≤ 10000 := dec_top 999 (Nat.lt_of_le_of_lt h hn)
theorem rep_eq : ∀ c, Lib.repeatL [48] c = List.replicate c 48
  | 0 => rfl
  | c + 1 => by rw [Lib.repeatL, rep_eq c, List.replicate_succ]; rfl
theorem div_pos_of {n i j : Nat} (h : 0 < n / 1000000000 ^ j) (hij : i ≤ j) : 0 < n / 1000000000 ^ i :=
  Nat.lt_of_lt_of_le h (Nat.div_le_div_left (Nat.pow_le_pow_right (by omega) hij) (Nat.pow_pos (by omega)))

theorem text_any (A : Option Addr) (c B : Nat) (l : List Nat) (w : World) (hl : Lies w B A (U l)) (hB : B ≤ w.heap.size) (ho : Nt.Ok l) (hc : l.length ≤ c) (hm : c ≤ 9223372036854775807) (hs : l.length ≤ 1000)
    (htab : Lib.TabIs Tryz.prog w "internal/strconv.uint64pow10" .u64 Lib.pow10Tab) (hg : ∀ g, Tryz.prog.globalNamed "internal/strconv.uint64pow10" = some g → g < w.heap.size) :
    Calls Tryz.prog 57 #[.slice A l.length c] w fun e w' => e = .returned (.string ⟨(Lib.decDigits (Nt.val l)).toArray⟩) ∧ Below w.heap.size w w' := by
  obtain ⟨i0, hi, hz0, hz1, hz2⟩ := info_parts u32_info
  have hdl := Nt.digs_len_le ho
  have hlen := dec_bound ho hs
  have hvb := Lib.hid (val_bound ho hs)
  have RN := Lib.hid (norm_any A c B l w hl hB ho hc hm (by omega))
  have HTAB := Lib.hid htab
  have HG := Lib.hid hg
  clear hl ho htab hg
  generalize Nt.val l = n at *
  go_enter Tryz.func57, Tryz.ntmps57
  go_wp2_with fail
  refine RN.out.mono ?_
  rintro e w1 ⟨rfl, hblk1, hb1⟩
  by_cases h0 : n = 0
  · subst h0
    rw [Nt.digs_zero]
    clear RN
    have HZ : Hid (Lib.decDigits 0 = [48]) := Lib.hid (Ten.dec_small (by omega))
    go_wp2_with fail
    go_ret
    rw [HZ.out]
    exact ⟨rfl, hb1⟩
  · have hne : (Nt.digs n).length ≠ 0 := fun e => h0 (Nt.digs_nil_iff.1 (List.eq_nil_of_length_eq_zero e))
    have hne2 : (((Nt.digs n).length : Int) == 0) = false := by rw [beq_eq_false_iff_ne]; omega
    clear RN
    have hsz1 := hblk1.lt
    go_wp2_with (at_make; refine wpList_make_blk _ rfl _ _ 24 rfl 22 i0 (.int .u32 0) Tryz.underlying24 hi hz0 hz1 rfl .i64 .i64 _ _ 0 ((Nt.digs n).length + (Nt.digs n).length / 8 + 1) rfl rfl rfl (by go_num) (by omega) (by rw [hz2]; omega) (by omega) w.heap.size w hb1 (by omega) ?_; intro w2 hblk2 hb2 hb2' hlt2)
    have hown2 : w2.ownsRow (w.heap.size + 1) 22 1 (.slice (some ⟨w1.heap.size, 0, none⟩) 0 ((Nt.digs n).length + (Nt.digs n).length / 8 + 1)) 0 [] := by
      have := hblk2.own (base := w.heap.size + 1) (n := 0) (by omega) (by omega) (by simp [maxLen]; omega)
      simpa using this
    have hblkG := hblk1.keep hb2' hsz1
    clear hblk1 hblk2 hb1 hb2' hlt2
    go_loopw [3, 4] (fun rv gv wr => ∃ (i y cc : Nat) (tl : List Value), i ≤ 1112 ∧ (Nt.digs y).length ≤ 1000 ∧ (Nt.digs y).length ≤ cc ∧ cc ≤ 1000 ∧ rv = .slice (some ⟨w.heap.size, 0, none⟩) (Nt.digs y).length cc ∧ Blk wr w.heap.size 22 (U (Nt.digs y) ++ tl) ∧ wr.ownsRow (w.heap.size + 1) 22 1 gv i (U (grps n i)) ∧ Below w.heap.size w wr ∧ Hid (y = n / 1000000000 ^ i ∧ (i = 0 ∨ 0 < n / 1000000000 ^ (i - 1)))) (fun _ gv _ => 1200 - sliceLen gv)
    case atStart => exact ⟨0, n, (Nt.digs n).length, [], by omega, by omega, Nat.le_refl _, by omega, rfl, by rw [List.append_nil]; exact hblkG, hown2, hb2, Lib.hid ⟨by simp, .inl rfl⟩⟩
    case round =>
      clear hown2 hblkG hb2 hne hne2
      obtain ⟨i, y, cc, tl, hi12, hyl, hycc, hcc, rfl, hblk, hown, hbel, H⟩ := hrel
      have hsz := hbel.size
      have hszG := hblk.lt
      obtain ⟨A2, C2, rfl, hC1, hC2⟩ := own_slice hown
      by_cases hy0 : y = 0
      · subst hy0
        rw [Nt.digs_zero]
        go_wp2_with fail
        have hip : 0 < i := by
          rcases Nat.eq_zero_or_pos i with e | e
          · have := H.out.1; rw [e] at this; simp at this; omega
          · exact e
        have HT0 : Hid (n / 1000000000 ^ i = 0 ∧ 0 < n / 1000000000 ^ (i - 1)) := Lib.hid ⟨H.out.1.symm, H.out.2.resolve_left (by omega)⟩
        have HLG := Lib.hid (Lies.of_own hown)
        have HTABW : Hid (∀ wq, Below wr.heap.size wr wq → Lib.TabIs Tryz.prog wq "internal/strconv.uint64pow10" .u64 Lib.pow10Tab) := Lib.hid (fun wq hq => tabIs_below (tabIs_below HTAB.out hbel HG.out) hq (fun g hg => Nat.lt_of_lt_of_le (HG.out g hg) hsz))
        have hbld0 : Lib.IsBuilder 84 5 wr.heap.size wr.heap.size (Lib.byteCells []) (wr.alloc (.cells #[.pointer none, .slice none 0 0] 84)) := .inl ⟨Nat.le_refl _, .slice none 0 0, heap_alloc_new wr _, World.ownsRow_nil _ _ _ _, by simp [Value.ownBlock]⟩
        have hbq0 : Below wr.heap.size wr (wr.alloc (.cells #[.pointer none, .slice none 0 0] 84)) := (Below.refl _ _).alloc (Nat.le_refl _) _
        clear hown hblk H
        rename World => W
        go_loopw [6] (fun iv wq => ∃ (k : Nat) (T : List UInt8), k ≤ i ∧ T.length ≤ 10000 ∧ iv = .int .i64 ((k : Int) - 1) ∧ Lib.IsBuilder 84 5 W.heap.size W.heap.size (Lib.byteCells T) wq ∧ Below W.heap.size W wq ∧ Hid ((k = i ∧ T = []) ∨ (k < i ∧ T = Lib.decDigits (n / 1000000000 ^ k)))) (fun iv _ => (intOf iv + 1).toNat)
        case atStart => exact ⟨i, [], Nat.le_refl _, by simp, rfl, hbld0, hbq0, Lib.hid (.inl ⟨rfl, rfl⟩)⟩
        case round =>
          clear hbld0 hbq0
          obtain ⟨k, T, hk, hTl, rfl, hbld, hbq, HK⟩ := hrel
          have hszq := hbq.size
          rcases k with _ | k
          · have HT : Hid (T = Lib.decDigits n) := Lib.hid (by
              rcases HK.out with ⟨e, _⟩ | ⟨_, e⟩
              · omega
              · rw [e, Nat.pow_zero, Nat.div_one])
            have BS := Lib.hid (Tryz.Builder_String_any W.heap.size W.heap.size T wr hbld hszq)
            clear hbld
            go_wp2_with (go_at_call 47; refine BS.out.mono ?_; rintro e w7 ⟨rfl, hb7⟩)
            go_ret
            rw [HT.out]
            exact ⟨rfl, hbel.trans ((hbq.trans hb7).mono hsz)⟩
          · have hk1 : ((k + 1 : Nat) : Int) - 1 = (k : Int) := by omega
            rw [hk1]
            clear hk1
            have hki : k < (grps n i).length := by rw [grps_len]; omega
            obtain ⟨b, off, rfl, hbb, hcell⟩ := (HLG.out.below hbq).limb hki
            have hget : (grps n i)[k] = Ten.grp n k := by
              have := grps_at (v := n) (show k < i by omega)
              rw [List.getElem?_eq_getElem hki] at this
              exact Option.some.inj this
            rw [hget] at hcell
            have hgl := Ten.grp_lt n k
            have HTOP : Hid (k + 1 = i → Lib.decDigits (Ten.grp n k) = Lib.decDigits (n / 1000000000 ^ k)) := Lib.hid (fun e => Ten.grp_top (by rw [e]; exact HT0.out.1))
            have HLOW : Hid (k + 1 < i → Lib.decDigits (n / 1000000000 ^ k) = Lib.decDigits (n / 1000000000 ^ (k + 1)) ++ (List.replicate (9 - (Lib.decDigits (Ten.grp n k)).length) 48 ++ Lib.decDigits (Ten.grp n k))) := Lib.hid (fun e => Ten.grp_low (div_pos_of HT0.out.2 (by omega)))
            have HSH : Hid ((Lib.decDigits (n / 1000000000 ^ k)).length ≤ 10000) := Lib.hid (dec_short (Nat.div_le_self _ _) hvb.out)
            have hD := Ten.dec_len (k := 8) (show Ten.grp n k < 10 ^ 9 by simpa using hgl)
            have FU := Lib.hid (formatUint_any (Ten.grp n k) wr (by omega) (HTABW.out wr hbq))
            generalize Ten.grp n k = gq at *
            obtain ⟨D, hDe⟩ : ∃ D, D = Lib.decDigits gq := ⟨_, rfl⟩
            rw [← hDe] at HTOP HLOW hD FU
            clear hDe hget hki
            by_cases hlow : k + 1 < i
            · have HTT : Hid (T ++ (List.replicate (9 - D.length) 48 ++ D) = Lib.decDigits (n / 1000000000 ^ k)) := Lib.hid (by
                rcases HK.out with ⟨e, _⟩ | ⟨_, e⟩
                · omega
                · rw [HLOW.out hlow, e])
              clear HTOP HLOW HK
              go_wp2_with fail
              refine FU.out.mono ?_
              rintro e w6 ⟨rfl, hb6⟩
              have hbld6 := builder_below hbld hb6
              have hbq6 : Below W.heap.size W w6 := hbq.trans (hb6.mono hszq)
              have hsz6 := hbq6.size
              clear hbld hb6
              go_wp2_with fail
              have HTL : Hid ((T ++ (List.replicate (9 - D.length) 48 ++ D)).length ≤ 10000) := Lib.hid (by rw [HTT.out]; exact HSH.out)
              have hci : (9 : Int) - (D.length : Int) = ((9 - D.length : Nat) : Int) := by omega
              rw [hci]
              have RP := Lib.hid (Tryz.strings_Repeat ⟨#[48]⟩ (9 - D.length) w6 (by omega) (by show 1 * (9 - D.length) ≤ _; omega))
              rw [show (⟨#[48]⟩ : ByteArray).data.toList = [48] from rfl, rep_eq] at RP
              obtain ⟨Z, hZ⟩ : ∃ Z, Z = List.replicate (9 - D.length) (48 : UInt8) := ⟨_, rfl⟩
              have hZl : Z.length ≤ 9 := by rw [hZ, List.length_replicate]; omega
              rw [← hZ] at RP HTL HTT
              clear hZ hci
              refine RP.out.mono ?_
              rintro e w8 ⟨rfl, hb8⟩
              have hbld8 := builder_below hbld6 hb8
              have hbq8 : Below W.heap.size W w8 := hbq6.trans (hb8.mono hsz6)
              have hsz8 := hbq8.size
              have WS1 := Lib.hid (writeString_any W.heap.size W.heap.size _ ⟨Z.toArray⟩ w8 hbld8 (by rw [Lib.byteCells_length]; show T.length + Z.length ≤ _; omega) hsz8)
              clear hbld6 hb8 hbld8
              go_wp2_with fail
              refine WS1.out.mono ?_
              rintro e w9 ⟨rfl, hbd9, hb9⟩
              have hbld9 : Lib.IsBuilder 84 5 W.heap.size W.heap.size (Lib.byteCells (T ++ Z)) w9 := .inr (by rw [Lib.byteCells_append]; exact hbd9)
              have hbq9 : Below W.heap.size W w9 := hbq8.trans hb9
              have hsz9 := hbq9.size
              have WS2 := Lib.hid (writeString_any W.heap.size W.heap.size _ ⟨D.toArray⟩ w9 hbld9 (by rw [Lib.byteCells_length, List.length_append]; show T.length + Z.length + D.length ≤ _; omega) hsz9)
              clear hbd9 hb9 hbld9
              go_wp2_with (go_at_call 45; refine WS2.out.mono ?_; rintro e w7 ⟨rfl, hbd7, hb7⟩)
              go_roundw
              case rel => exact ⟨_, _, _, _, _, _, _, _, _, _, _, _, _, _, _, _, _, _, _, _, _, _, _, _, ⟨k, T ++ (Z ++ D), by omega, HTL.out, by go_num, .inr (by rw [← List.append_assoc, Lib.byteCells_append]; exact hbd7), hbq9.trans hb7, Lib.hid (.inr ⟨by omega, HTT.out⟩)⟩, rfl⟩
              case measure => first | (simp [intOf]; done) | (simp [intOf]; omega)
            · have HTT : Hid (T ++ D = Lib.decDigits (n / 1000000000 ^ k)) := Lib.hid (by
                rcases HK.out with ⟨_, e⟩ | ⟨h, _⟩
                · rw [e, List.nil_append]; exact HTOP.out (by omega)
                · omega)
              have HTL : Hid ((T ++ D).length ≤ 10000) := Lib.hid (by rw [HTT.out]; exact HSH.out)
              clear HTOP HLOW HK
              go_wp2_with fail
              refine FU.out.mono ?_
              rintro e w6 ⟨rfl, hb6⟩
              have hbld6 := builder_below hbld hb6
              have hbq6 : Below W.heap.size W w6 := hbq.trans (hb6.mono hszq)
              have hsz6 := hbq6.size
              have WS := Lib.hid (writeString_any W.heap.size W.heap.size _ ⟨D.toArray⟩ w6 hbld6 (by rw [Lib.byteCells_length]; show T.length + D.length ≤ _; omega) hsz6)
              clear hbld hb6 hbld6
              go_wp2_with (go_at_call 45; refine WS.out.mono ?_; rintro e w7 ⟨rfl, hbd7, hb7⟩)
              go_roundw
              case rel => exact ⟨_, _, _, _, _, _, _, _, _, _, _, _, _, _, _, _, _, _, _, _, _, _, _, _, ⟨k, T ++ D, by omega, HTL.out, by go_num, .inr (by rw [Lib.byteCells_append]; exact hbd7), hbq6.trans hb7, Lib.hid (.inr ⟨by omega, HTT.out⟩)⟩, rfl⟩
              case measure => first | (simp [intOf]; done) | (simp [intOf]; omega)
      · have hypos : 0 < (Nt.digs y).length := Nat.pos_of_ne_zero (fun e => hy0 (Nt.digs_nil_iff.1 (List.eq_nil_of_length_eq_zero e)))
        have hi2 : i < 1112 := rounds_le hvb.out (by rw [← H.out.1]; omega)
        have SH := Lib.hid (shorten_any w.heap.size cc 1000000000 (Nt.digs y) tl wr hblk (Nt.ok_digs y) (by omega) (by omega) (by omega))
        rw [Nt.val_digs] at SH
        have HGR : Hid (y % 1000000000 = Ten.grp n i) := Lib.hid (by rw [H.out.1]; rfl)
        rw [HGR.out] at SH
        have hgl := Ten.grp_lt n i
        have HNX : Hid (y / 1000000000 = n / 1000000000 ^ (i + 1) ∧ (i + 1 = 0 ∨ 0 < n / 1000000000 ^ (i + 1 - 1))) := Lib.hid ⟨by rw [H.out.1, Ten.div_next], .inr (by rw [Nat.add_sub_cancel, ← H.out.1]; omega)⟩
        have HLQ : Hid ((Nt.digs (y / 1000000000)).length ≤ 1000) := Lib.hid (Nat.le_trans (Nt.digs_len_le_of (Nat.div_le_self y _)) hyl)
        obtain ⟨gq, hgq⟩ : ∃ gq, gq = Ten.grp n i := ⟨_, rfl⟩
        have HNG : Hid (grps n (i + 1) = grps n i ++ [gq]) := Lib.hid (by rw [hgq]; exact grps_next n i)
        rw [← hgq] at SH hgl
        clear hgq hblk HGR
        go_wp2_with fail
        refine SH.out.mono ?_
        rintro e w3 ⟨cur, rfl, hblk3, HC, hgr3⟩
        have hbel3 : Below w.heap.size w w3 := hbel.grown hgr3 hsz (fun k hk => by injection hk with hk; omega)
        have hown3 : w3.ownsRow (w.heap.size + 1) 22 1 (.slice A2 i C2) i (U (grps n i)) := own_keep hown (fun g hg hgs => hgr3.block g hgs (by intro e; injection e with e; omega))
        have hsz3 := hbel3.size
        have hlt3 := hblk3.lt
        clear hown hgr3
        go_wp2_with (at_builtin; refine wpList_append_own _ rfl _ _ 24 rfl (w.heap.size + 1) 22 i0 (.int .u32 0) 1 4 Tryz.underlying24 hi hz0 hz1 hz2 rfl (by decide) _ _ _ rfl (hown3.alloc _) ⟨_, 0, none⟩ 1 1 [.int .u32 (gq : Int)] rfl rfl (cell_one_new _ _ _) (by intro u hu; simp only [List.mem_singleton] at hu; subst hu; rfl) (by unfold maxLen; omega) (by omega) (by simp; omega) ?_; intro v4 w4 hown4 hgrow4 hnn4)
        have hb4 : Below w.heap.size w w4 := (hbel3.alloc hsz3 _).grown hgrow4 (by simp; omega) (fun k hk => by have := (hown3.lt k hk).1; omega)
        have hblk4 : Blk w4 w.heap.size 22 (U cur ++ tl) := (hblk3.alloc _).grown hgrow4 (by intro e; have := (hown3.lt _ e.symm).1; omega)
        have hcy : cur.length = (Nt.digs y).length := HC.out.1
        have hl4 : Lies w4 w4.heap.size (some ⟨w.heap.size, 0, none⟩) (U cur) := by
          have := (hblk4.lies).take cur.length
          rwa [List.take_append_of_le_length (by rw [U_len]; omega), List.take_of_length_le (by rw [U_len]; omega)] at this
        have TR := Lib.hid (trim_any (some ⟨w.heap.size, 0, none⟩) cc _ cur w4 hl4 HC.out.2.1 (by omega) (by omega))
        rw [HC.out.2.2, hcy] at TR
        have hblk5 : ∃ tl2, Blk w4 w.heap.size 22 (U (Nt.digs (y / 1000000000)) ++ tl2) := ⟨U (cur.drop (Nt.digs (Nt.val cur)).length) ++ tl, by
          have e : U cur = U (Nt.digs (y / 1000000000)) ++ U (cur.drop (Nt.digs (Nt.val cur)).length) := by
            have e0 : cur = Nt.digs (Nt.val cur) ++ cur.drop (Nt.digs (Nt.val cur)).length := by
              conv => lhs; rw [← List.take_append_drop (Nt.digs (Nt.val cur)).length cur, Nt.take_digs HC.out.2.1]
            have e1 := congrArg U e0
            rw [show U (Nt.digs (Nt.val cur) ++ cur.drop (Nt.digs (Nt.val cur)).length) = U (Nt.digs (Nt.val cur)) ++ U (cur.drop (Nt.digs (Nt.val cur)).length) from List.map_append] at e1
            rw [← HC.out.2.2]
            exact e1
          rw [← List.append_assoc, ← e]; exact hblk4⟩
        obtain ⟨tl2, hblk5⟩ := hblk5
        have hlq := HLQ.out
        clear hl4 hblk4 hblk3 HC HLQ hcy
        obtain ⟨A4, C4, rfl, hD1, hD2⟩ := own_slice hown4
        refine TR.out.mono ?_
        rintro e w5 ⟨rfl, rfl⟩
        go_wp2_with fail
        refine ⟨⟨i + 1, y / 1000000000, _, tl2, by omega, hlq, Nat.le_refl _, hlq, rfl, hblk5, ?_, hb4, HNX⟩, by simp [sliceLen]; omega⟩
        rw [HNG.out]
        simpa [U] using hown4
end Go.Proofs.YtfiefglagknclaaGreatDoor

/-
  ratio.top, ratio.Int; scrimref04.IsWhole; digits.Print, scrimref05.Print.
-/
namespace Go.Proofs.YtfiefglagknclaaGreatDoor
open Go.RowKit
set_option maxHeartbeats 2000000
set_option maxRecDepth 100000
set_option linter.unusedVariables false

theorem ratioTop_any (n : Bool) (v1 v2 : Value) (l1 l2 : List Nat) (w : World) (h1 : IsRes w v1 l1) (h2 : IsRes w v2 l2) :
    Calls Tryz.prog 99 #[.agg #[.bool n, v1, v2]] w (WholeOut w n l1) := by
  have HR := Lib.hid h1
  obtain ⟨A1, c1, rfl, -⟩ := h1
  obtain ⟨A2, c2, rfl, -⟩ := h2
  have HI2 : Hid (∀ (b : Bool) (A : Option Addr) (k c : Nat), (Tryz.prog.info? 57).map (·.size) = some (#[.bool b, .slice A k c] : Array Value).size) := Lib.hid (fun _ _ _ _ => whole2_info)
  have HG1 : Hid (∀ o1 o2, ((w.alloc o1).alloc o2).heap[w.heap.size + 1]? = some o2) := Lib.hid (fun o1 o2 => by
    have := heap_alloc_new (w.alloc o1) o2
    rwa [show (w.alloc o1).heap.size = w.heap.size + 1 by simp] at this)
  have HB : Hid (∀ o1 o2, Below w.heap.size w ((w.alloc o1).alloc o2)) := Lib.hid (fun o1 o2 => ((Below.refl _ _).alloc (Nat.le_refl _) _).alloc (by simp) _)
  generalize l2.length = k2 at *
  go_enter Tryz.func99, Tryz.ntmps99
  go_wp2_with (with_reducible refine wpList_store_row rfl 57 (.tmp 2) (.tmp 7) rfl (w.heap.size + 1) #[.bool n, .slice A1 l1.length c1] rfl rfl 57 #[.bool false, .slice none 0 0] (HG1.out _ _) (HI2.out _ _ _ _) rfl (two_one _ _ _ _) ?_)
  refine bodyPost_ret (results_cell_row (by rfl) _ _ (w.heap.size + 1) 57 #[.bool n, .slice A1 l1.length c1] (0, 0) _ (by rfl) (rheap_same (HG1.out _ _)) Tryz.underlying57 rfl (HI2.out _ _ _ _)) rfl ⟨.slice A1 l1.length c1, rfl, (HR.out.below (HB.out _ _)).setRow (HG1.out _ _) (two_no_int _ _ _ _) _, rBelow.setRow (HB.out _ _) (by omega) _⟩

/-- A number as a whole one, or none. -/
def IntOut (w : World) (n : Rt.Nm) (e : Ending) (w' : World) : Prop := ∃ u, e = .returned (.tuple #[.agg #[.bool (if n.bot = [1] then Rt.nrm n.neg (Nt.val n.top) else false), u], .bool (n.bot == [1])]) ∧ IsRes w' u (if n.bot = [1] then Nt.digs (Nt.val n.top) else []) ∧ Below w.heap.size w w'
theorem ratioInt_any (n : Bool) (v1 v2 : Value) (l1 l2 : List Nat) (w : World) (h1 : IsRes w v1 l1) (h2 : IsRes w v2 l2) (o1 : Nt.Ok l1) (s1 : l1.length ≤ 1000000) :
    Calls Tryz.prog 58 #[.agg #[.bool n, v1, v2]] w (IntOut w ⟨n, l1, l2⟩) := by
  have hb0 : ∀ o1 o2, Below w.heap.size w ((w.alloc o1).alloc o2) := fun o1 o2 => ((Below.refl _ _).alloc (Nat.le_refl _) _).alloc (by simp) _
  have I1 := Lib.hid (fun o1 o2 => isOne_any v2 l2 _ (h2.below (hb0 o1 o2)))
  have T1 := Lib.hid (fun o1 o2 => ratioTop_any n v1 v2 l1 l2 _ (h1.below (hb0 o1 o2)) (h2.below (hb0 o1 o2)))
  have NW := Lib.hid (fun (wx : World) (u : Value) (hu : IsRes wx u l1) => wholeNorm_any n u l1 wx hu o1 s1)
  have HI2 : Hid (∀ (b : Bool) (A : Option Addr) (k c : Nat), (Tryz.prog.info? 57).map (·.size) = some (#[.bool b, .slice A k c] : Array Value).size) := Lib.hid (fun _ _ _ _ => whole2_info)
  have HG1 : Hid (∀ o1 o2, ((w.alloc o1).alloc o2).heap[w.heap.size + 1]? = some o2) := Lib.hid (fun o1 o2 => by
    have := heap_alloc_new (w.alloc o1) o2
    rwa [show (w.alloc o1).heap.size = w.heap.size + 1 by simp] at this)
  have HB := Lib.hid hb0
  obtain ⟨A1, c1, rfl, -⟩ := h1
  obtain ⟨A2, c2, rfl, -⟩ := h2
  clear hb0 o1
  by_cases hone : l2 = [1]
  · have HE : Hid ((l2 == [1]) = true) := Lib.hid (by rw [hone]; rfl)
    have HO := Lib.hid hone
    have HP : Hid (∀ u w', IsRes w' u (Nt.digs (Nt.val l1)) → Below w.heap.size w w' → IntOut w ⟨n, l1, l2⟩ (.returned (.tuple #[.agg #[.bool (Rt.nrm n (Nt.val l1)), u], .bool true])) w') := Lib.hid (fun u w' hu hb => ⟨u, by simp only [HO.out, if_true]; rfl, by simp only [HO.out, if_true]; exact hu, hb⟩)
    have I1' := Lib.hid (fun o1 o2 => by have := I1.out o1 o2; rw [HE.out] at this; exact this)
    clear hone I1
    generalize l2.length = k2 at *
    go_enter Tryz.func58, Tryz.ntmps58
    go_wp2_with fail
    refine (I1'.out _ _).mono ?_
    rintro e w' ⟨rfl, rfl⟩
    go_wp2_with fail
    refine (T1.out _ _).mono ?_
    rintro e w2 ⟨v3, rfl, hr2, hb2⟩
    have NW2 := Lib.hid (NW.out w2 v3 hr2)
    have HG2 := Lib.hid ((hb2.block (w.heap.size + 1) (by simp)).trans (HG1.out _ _))
    have hbw2 := (HB.out _ _).trans (hb2.mono (HB.out _ _).size)
    clear hr2 hb2 T1 I1' NW
    go_wp2_with fail
    refine NW2.out.mono ?_
    rintro e w3 ⟨v4, rfl, hr3, hb3⟩
    have hl3 := blk_lt HG2.out
    have HG3 := Lib.hid ((hb3.block (w.heap.size + 1) hl3).trans HG2.out)
    have hbw3 := hbw2.trans (hb3.mono hbw2.size)
    have HR3 := Lib.hid (hr3.setRow HG3.out (two_no_int _ _ _ _) #[.bool (Rt.nrm n (Nt.val l1)), v4])
    obtain ⟨A3, c3, rfl, -⟩ := hr3
    clear hb3 NW2 hbw2
    go_wp2_with (with_reducible refine wpList_store_row rfl 57 (.tmp 2) (.tmp 11) rfl (w.heap.size + 1) #[.bool (Rt.nrm n (Nt.val l1)), .slice A3 (Nt.digs (Nt.val l1)).length c3] rfl rfl 57 #[.bool false, .slice none 0 0] HG3.out (HI2.out _ _ _ _) rfl (two_one _ _ _ _) ?_)
    refine bodyPost_ret (results_cell_row_tmp (by rfl) _ _ (w.heap.size + 1) 57 #[.bool (Rt.nrm n (Nt.val l1)), .slice A3 (Nt.digs (Nt.val l1)).length c3] (0, 0) _ _ (by rfl) (by rfl) (rheap_same HG3.out) Tryz.underlying57 rfl (HI2.out _ _ _ _)) rfl (HP.out _ _ HR3.out (rBelow.setRow hbw3 (by omega) _))
  · have HE : Hid ((l2 == [1]) = false) := Lib.hid (beq_eq_false_iff_ne.2 hone)
    have HO := Lib.hid hone
    have HP : Hid (∀ w', Below w.heap.size w w' → IntOut w ⟨n, l1, l2⟩ (.returned (.tuple #[.agg #[.bool false, .slice none 0 0], .bool false])) w') := Lib.hid (fun w' hb => ⟨.slice none 0 0, by simp only [HO.out, if_false, HE.out], by simp only [HO.out, if_false]; exact IsRes.none_ _, hb⟩)
    have I1' := Lib.hid (fun o1 o2 => by have := I1.out o1 o2; rw [HE.out] at this; exact this)
    clear hone I1
    generalize l2.length = k2 at *
    go_enter Tryz.func58, Tryz.ntmps58
    go_wp2_with fail
    refine (I1'.out _ _).mono ?_
    rintro e w' ⟨rfl, rfl⟩
    clear T1 NW
    go_wp2_with (with_reducible refine wpList_store_row rfl 57 (.tmp 2) (.tmp 8) rfl (w.heap.size + 1) #[.bool false, .slice none 0 0] rfl rfl 57 #[.bool false, .slice none 0 0] (HG1.out _ _) (HI2.out _ _ _ _) rfl (two_one _ _ _ _) ?_)
    refine bodyPost_ret (results_cell_row_tmp (by rfl) _ _ (w.heap.size + 1) 57 #[.bool false, .slice none 0 0] (0, 0) _ _ (by rfl) (by rfl) (rheap_same (HG1.out _ _)) Tryz.underlying57 rfl (HI2.out _ _ _ _)) rfl (HP.out _ (rBelow.setRow (HB.out _ _) (by omega) _))
end Go.Proofs.YtfiefglagknclaaGreatDoor

/-
  digits.Print, scrimref05.Print: a number's text; scrimref04.IsWhole.
-/
namespace Go.Proofs.YtfiefglagknclaaGreatDoor
open Go.RowKit
set_option maxHeartbeats 2000000
set_option maxRecDepth 100000
set_option linter.unusedVariables false

theorem isWhole_any (n : Bool) (v1 v2 : Value) (l1 l2 : List Nat) (w : World) (h1 : IsRes w v1 l1) (h2 : IsRes w v2 l2) :
    Calls Tryz.prog 18 #[.agg #[.bool n, v1, v2]] w fun e w' => e = .returned (.bool (l2 == [1])) ∧ Below w.heap.size w w' := by
  have HB : Hid (∀ o1, Below w.heap.size w (w.alloc o1)) := Lib.hid (fun o1 => (Below.refl _ _).alloc (Nat.le_refl _) _)
  obtain ⟨A1, c1, rfl, -⟩ := h1
  obtain ⟨A2, c2, rfl, k1, k2, k3, k4⟩ := h2
  by_cases hl : l2.length = 1
  · obtain ⟨x, rfl⟩ : ∃ x, l2 = [x] := by
      match l2, hl with
      | [x], _ => exact ⟨x, rfl⟩
    obtain ⟨b, off, rfl, hb, g0⟩ := k4.at_ (k := 0) (by simp [U])
    have g1 : w.cell? ⟨b, off, none⟩ = some (.int .u32 (x : Int)) := by simpa [U] using g0
    have HQ : Hid (([x] == [1]) = (x == 1)) := Lib.hid (by simp [List.cons_beq_cons])
    clear g0 k4 k3 hl
    by_cases hx : x = 1
    · subst hx
      go_enter Tryz.func18, Tryz.ntmps18
      go_wp2_with fail
      go_ret
      exact ⟨ret_bool (by rw [HQ.out]; rfl), HB.out _⟩
    · have q : ((x : Int) == 1) = false := beq_eq_false_iff_ne.2 (by omega)
      have HQ2 : Hid ((x == 1) = false) := Lib.hid (beq_eq_false_iff_ne.2 hx)
      clear hx
      go_enter Tryz.func18, Tryz.ntmps18
      go_wp2_with fail
      go_ret
      exact ⟨ret_bool (by rw [HQ.out, HQ2.out]), HB.out _⟩
  · have q : ((l2.length : Int) == 1) = false := beq_eq_false_iff_ne.2 (by omega)
    have HQ : Hid ((l2 == [1]) = false) := Lib.hid (by
      rw [beq_eq_false_iff_ne]; rintro rfl; exact hl rfl)
    clear hl k4 k3
    generalize l2.length = m at *
    go_enter Tryz.func18, Tryz.ntmps18
    go_wp2_with fail
    go_ret
    exact ⟨ret_bool (by rw [HQ.out]), HB.out _⟩

/-- The table of strconv's, in whatever world behind. -/
structure Pow10 (w : World) : Prop where
  tab : Lib.TabIs Tryz.prog w "internal/strconv.uint64pow10" .u64 Lib.pow10Tab
  lt : ∀ g, Tryz.prog.globalNamed "internal/strconv.uint64pow10" = some g → g < w.heap.size
theorem Pow10.below {w w' : World} (h : Pow10 w) (hb : Below w.heap.size w w') : Pow10 w' := ⟨tabIs_below h.tab hb h.lt, fun g e => Nat.lt_of_lt_of_le (h.lt g e) hb.size⟩
/-- A text is handed back. -/
def StrOut (w : World) (s : List UInt8) (e : Ending) (w' : World) : Prop := e = .returned (.string ⟨s.toArray⟩) ∧ Below w.heap.size w w'
theorem textR_any {w : World} {v : Value} {l : List Nat} (h : IsRes w v l) (ho : Nt.Ok l) (hs : l.length ≤ 1000) (hp : Pow10 w) :
    Calls Tryz.prog 57 #[v] w (StrOut w (Lib.decDigits (Nt.val l))) := by
  obtain ⟨A, c, rfl, k1, k2, k3, k4⟩ := h
  exact text_any A c w.heap.size l w k4 (Nat.le_refl _) ho k1 k2 hs hp.tab hp.lt
theorem refTextR_any {w : World} {v : Value} {l : List Nat} (h : IsRes w v l) (ho : Nt.Ok l) (hs : l.length ≤ 1000) :
    Calls Tryz.prog 17 #[v] w (StrOut w (Lib.decDigits (Nt.val l))) := by
  obtain ⟨A, c, rfl, k1, k2, k3, k4⟩ := h
  exact refText_any A c w.heap.size l w k4 (Nat.le_refl _) ho k1 k2 k3 hs
theorem ret_str {a b : ByteArray} (h : a.data.toList = b.data.toList) : Ending.returned (.string a) = .returned (.string b) := by
  have : a = b := ByteArray.ext (Array.toList_inj.1 h)
  rw [this]

/-- A number that may be, in memory. -/
structure NumR (w : World) (n : Rt.Nm) (v1 v2 : Value) : Prop where
  r1 : IsRes w v1 n.top
  r2 : IsRes w v2 n.bot
  o1 : Nt.Ok n.top
  o2 : Nt.Ok n.bot
  s1 : n.top.length ≤ 1000
  s2 : n.bot.length ≤ 1000
theorem NumR.below {w w' : World} {n : Rt.Nm} {v1 v2 : Value} (h : NumR w n v1 v2) (hb : Below w.heap.size w w') : NumR w' n v1 v2 := ⟨h.r1.below hb, h.r2.below hb, h.o1, h.o2, h.s1, h.s2⟩

theorem refPrint_any (n : Rt.Nm) (v1 v2 : Value) (w : World) (h : NumR w n v1 v2) :
    Calls Tryz.prog 5 #[.agg #[.bool n.neg, v1, v2]] w (StrOut w (Dg.print n)) := by
  have TX := Lib.hid (fun (wx : World) (hb : Below w.heap.size w wx) => refTextR_any (h.below hb).r1 h.o1 h.s1)
  have TY := Lib.hid (fun (wx : World) (hb : Below w.heap.size w wx) => refTextR_any (h.below hb).r2 h.o2 h.s2)
  have IW := Lib.hid (fun (wx : World) (hb : Below w.heap.size w wx) => isWhole_any n.neg v1 v2 n.top n.bot wx (h.below hb).r1 (h.below hb).r2)
  have HB : Hid (∀ o1, Below w.heap.size w (w.alloc o1)) := Lib.hid (fun o1 => (Below.refl _ _).alloc (Nat.le_refl _) _)
  have HP : Hid (Dg.print n = (if n.neg then [194, 175] else []) ++ (Lib.decDigits (Nt.val n.top) ++ if n.bot = [1] then [] else 114 :: Lib.decDigits (Nt.val n.bot))) := Lib.hid rfl
  have HI3 : Hid ((Tryz.prog.info? 26).map (·.size) = some (#[.bool n.neg, v1, v2] : Array Value).size) := Lib.hid num_info
  have hTl := dec_bound h.o1 h.s1
  have hBl := dec_bound h.o2 h.s2
  clear h
  obtain ⟨neg, top, bot⟩ := n
  dsimp only at TX TY IW HP HI3 hTl hBl ⊢
  generalize Dg.print ⟨neg, top, bot⟩ = R at *
  generalize Lib.decDigits (Nt.val top) = T at *
  generalize Lib.decDigits (Nt.val bot) = B at *
  go_enter Tryz.func5, Tryz.ntmps5
  go_wp2_with fail
  refine (TX.out _ (HB.out _)).mono ?_
  rintro e w2 ⟨rfl, hb2⟩
  have hbw2 := (HB.out (.cells #[.bool neg, v1, v2] 26)).trans (hb2.mono (HB.out _).size)
  have HG := Lib.hid ((hb2.block w.heap.size (by simp)).trans (heap_alloc_new w (.cells #[.bool neg, v1, v2] 26)))
  have hs2 := hb2.size
  have hlt : w.heap.size < w2.heap.size := by simp at hs2; omega
  clear hb2 hs2
  go_wp2_with (with_reducible refine wpList_load_row rfl 26 (.tmp 1) rfl w.heap.size rfl 26 #[.bool neg, v1, v2] (0, 0) _ HG.out Tryz.underlying26 rfl HI3.out ?_)
  refine (IW.out w2 hbw2).mono ?_
  rintro e w3 ⟨rfl, hb3⟩
  have hbw3 := hbw2.trans (hb3.mono hbw2.size)
  have HG3 := Lib.hid ((hb3.block w.heap.size hlt).trans HG.out)
  have hlt3 : w.heap.size < w3.heap.size := Nat.lt_of_lt_of_le hlt hb3.size
  clear hb3 hbw2 hlt
  have p0 : w3.cell? ⟨w.heap.size, 0, none⟩ = some (.bool neg) := (cell_of_row w3 w.heap.size 0 _ _ _ HG3.out).trans rfl
  have p2 : w3.cell? ⟨w.heap.size, 2, none⟩ = some v2 := (cell_of_row w3 w.heap.size 2 _ _ _ HG3.out).trans rfl
  by_cases hone : bot = [1]
  · have HO := Lib.hid hone
    have e1 : (bot == [1]) = true := by rw [hone]; rfl
    clear hone TX TY IW
    cases neg
    · go_wp2_with fail
      go_ret
      exact ⟨ret_str (by rw [HP.out, if_pos HO.out]; simp), hbw3⟩
    · go_wp2_with fail
      go_ret
      exact ⟨ret_str (by rw [HP.out, if_pos HO.out]; simp), hbw3⟩
  · have HO := Lib.hid hone
    have e1 : (bot == [1]) = false := beq_eq_false_iff_ne.2 hone
    clear hone TX IW
    have HTY := Lib.hid (TY.out w3 hbw3)
    clear TY
    go_wp2_with fail
    refine HTY.out.mono ?_
    rintro e w4 ⟨rfl, hb4⟩
    have hbw4 := hbw3.trans (hb4.mono hbw3.size)
    have p04 : w4.cell? ⟨w.heap.size, 0, none⟩ = some (.bool neg) := (hb4.cell (p := ⟨w.heap.size, 0, none⟩) hlt3).trans p0
    clear hb4 p0 p2 HTY hbw3
    cases neg
    · go_wp2_with fail
      go_ret
      exact ⟨ret_str (by rw [HP.out, if_neg HO.out]; simp), hbw4⟩
    · go_wp2_with fail
      go_ret
      exact ⟨ret_str (by rw [HP.out, if_neg HO.out]; simp), hbw4⟩

theorem digPrint_any (n : Rt.Nm) (v1 v2 : Value) (w : World) (h : NumR w n v1 v2) (hp : Pow10 w) :
    Calls Tryz.prog 31 #[.agg #[.bool n.neg, v1, v2]] w (StrOut w (Dg.print n)) := by
  have TX := Lib.hid (fun (wx : World) (hb : Below w.heap.size w wx) => textR_any (h.below hb).r1 h.o1 h.s1 (hp.below hb))
  have TY := Lib.hid (fun (wx : World) (hb : Below w.heap.size w wx) => textR_any (h.below hb).r2 h.o2 h.s2 (hp.below hb))
  have IW := Lib.hid (fun (wx : World) (hb : Below w.heap.size w wx) => ratioInt_any n.neg v1 v2 n.top n.bot wx (h.below hb).r1 (h.below hb).r2 h.o1 (by have := h.s1; omega))
  have HB : Hid (∀ o1, Below w.heap.size w (w.alloc o1)) := Lib.hid (fun o1 => (Below.refl _ _).alloc (Nat.le_refl _) _)
  have HP : Hid (Dg.print n = (if n.neg then [194, 175] else []) ++ (Lib.decDigits (Nt.val n.top) ++ if n.bot = [1] then [] else 114 :: Lib.decDigits (Nt.val n.bot))) := Lib.hid rfl
  have HI3 : Hid ((Tryz.prog.info? 26).map (·.size) = some (#[.bool n.neg, v1, v2] : Array Value).size) := Lib.hid num_info
  have HI2 : Hid (∀ (b : Bool) (A : Option Addr) (k c : Nat), (Tryz.prog.info? 57).map (·.size) = some (#[.bool b, .slice A k c] : Array Value).size) := Lib.hid (fun _ _ _ _ => whole2_info)
  have hTl := dec_bound h.o1 h.s1
  have hBl := dec_bound h.o2 h.s2
  clear h hp
  obtain ⟨neg, top, bot⟩ := n
  dsimp only at TX TY IW HP HI3 hTl hBl ⊢
  generalize Dg.print ⟨neg, top, bot⟩ = R at *
  generalize Lib.decDigits (Nt.val top) = T at *
  generalize Lib.decDigits (Nt.val bot) = B at *
  go_enter Tryz.func31, Tryz.ntmps31
  go_wp2_with fail
  refine (TX.out _ (HB.out _)).mono ?_
  rintro e w2 ⟨rfl, hb2⟩
  have hbw2 := (HB.out (.cells #[.bool neg, v1, v2] 26)).trans (hb2.mono (HB.out _).size)
  have HG := Lib.hid ((hb2.block w.heap.size (by simp)).trans (heap_alloc_new w (.cells #[.bool neg, v1, v2] 26)))
  have hs2 := hb2.size
  have hlt : w.heap.size < w2.heap.size := by simp at hs2; omega
  have p0 : w2.cell? ⟨w.heap.size, 0, none⟩ = some (.bool neg) := (cell_of_row w2 w.heap.size 0 _ _ _ HG.out).trans rfl
  clear hb2 hs2 TX
  obtain ⟨N, hN⟩ : ∃ N : List UInt8, N = if neg then [194, 175] else [] := ⟨_, rfl⟩
  rw [← hN] at HP
  have hN2 := Lib.hid hN
  clear hN
  cases neg
  all_goals
    go_wp2_with (with_reducible refine wpList_load_row rfl 26 (.tmp 1) rfl w.heap.size rfl 26 #[.bool _, v1, v2] (0, 0) _ HG.out Tryz.underlying26 rfl HI3.out ?_)
    refine (IW.out w2 hbw2).mono ?_
    rintro e w3 ⟨u, rfl, hu, hb3⟩
    dsimp only at hu
    have hbw3 := hbw2.trans (hb3.mono hbw2.size)
    have HG3 := Lib.hid ((hb3.block w.heap.size hlt).trans HG.out)
    have hlt3 : w.heap.size < w3.heap.size := Nat.lt_of_lt_of_le hlt hb3.size
    obtain ⟨A3, c3, rfl, -⟩ := hu
    clear hb3 hbw2 hlt p0
    have p2 : w3.cell? ⟨w.heap.size, 2, none⟩ = some v2 := (cell_of_row w3 w.heap.size 2 _ _ _ HG3.out).trans rfl
    have HG4 : Hid (∀ o, (w3.alloc o).heap[w3.heap.size]? = some o) := Lib.hid (fun o => heap_alloc_new w3 o)
    by_cases hone : bot = [1]
    · have HO := Lib.hid hone
      have e1 : (bot == [1]) = true := by rw [hone]; rfl
      simp only [e1, if_pos hone]
      clear hone TY IW e1
      go_wp2_with fail
      go_ret
      exact ⟨ret_str (by rw [HP.out, if_pos HO.out, hN2.out]; simp), hbw3.alloc hbw3.size _⟩
    · have HO := Lib.hid hone
      have e1 : (bot == [1]) = false := beq_eq_false_iff_ne.2 hone
      simp only [e1, if_neg hone]
      clear hone IW e1
      have HTY := Lib.hid (fun o => TY.out (w3.alloc o) (hbw3.alloc hbw3.size _))
      clear TY
      go_wp2_with fail
      refine (HTY.out _).mono ?_
      rintro e w4 ⟨rfl, hb4⟩
      have hbw4 := (hbw3.alloc hbw3.size (.cells #[.bool false, .slice A3 ([] : List Nat).length c3] 57)).trans (hb4.mono (by simp; omega))
      clear hb4 HTY hbw3 p2
      go_wp2_with fail
      go_ret
      exact ⟨ret_str (by rw [HP.out, if_neg HO.out, hN2.out]; simp), hbw4⟩
end Go.Proofs.YtfiefglagknclaaGreatDoor
