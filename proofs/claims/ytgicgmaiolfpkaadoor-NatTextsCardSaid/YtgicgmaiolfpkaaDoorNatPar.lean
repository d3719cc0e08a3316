/-
  What scrimref02.Parse computes.
-/
import Derived.Test.YtgicgmaiolfpkaaDoorNatLen
import Derived.Test.YtgicgmaiolfpkaaDoorTenMath
import Derived.Test.YtgicgmaiolfpkaaDoorFmt
namespace Go.Proofs.YtgicgmaiolfpkaaDoor
open Go.RowKit
set_option maxHeartbeats 1000000
set_option maxRecDepth 100000
set_option linter.unusedVariables false

/-- What a text's reading tells: the number's limbs, and that it is one; or none. -/
def NatTold (s : List UInt8) (w : World) (e : Ending) (w' : World) : Prop := Below w.heap.size w w' ∧ ∃ (v : Value) (ok : Bool) (n : Nat), e = .returned (.tuple #[v, .bool ok]) ∧ IsRes w' v (Nt.digs n) ∧ ((ok = true ∧ Ten.Valid s ∧ n = Ten.numOf s) ∨ (ok = false ∧ ¬ Ten.Valid s ∧ n = 0))
theorem NatTold.no {s : List UInt8} {w w' : World} (hb : Below w.heap.size w w') (h : ¬ Ten.Valid s) : NatTold s w (.returned (.tuple #[.slice none 0 0, .bool false])) w' := ⟨hb, _, false, 0, rfl, by rw [Nt.digs_zero]; exact IsRes.none_ _, .inr ⟨rfl, h, rfl⟩⟩
theorem NatTold.yes {s : List UInt8} {w w' : World} {v : Value} (hb : Below w.heap.size w w') (h : Ten.Valid s) (hv : IsRes w' v (Nt.digs (Ten.numOf s))) : NatTold s w (.returned (.tuple #[v, .bool true])) w' := ⟨hb, _, true, _, rfl, hv, .inl ⟨rfl, h, rfl⟩⟩

/-- The numeral, read up to a place. -/
def NumAt (s : List UInt8) (k n : Nat) : Prop := n = Ten.numOf (s.take k) ∧ ∀ j (hj : j < s.length), j < k → Ten.isDig s[j]
theorem NumAt.start (s : List UInt8) : NumAt s 0 0 := ⟨rfl, fun j _ h => absurd h (by omega)⟩
theorem NumAt.step {s : List UInt8} {k n : Nat} (h : NumAt s k n) (hk : k < s.length) (hd : Ten.isDig s[k]) : NumAt s (k + 1) (n * 10 + (s[k].toNat - 48)) := by
  refine ⟨?_, fun j hj hjk => ?_⟩
  · rw [List.take_succ_eq_append_getElem hk, Ten.numOf_snoc, ← h.1]; omega
  · by_cases e : j = k
    · subst e; exact hd
    · exact h.2 j hj (by omega)
theorem NumAt.done {s : List UInt8} {n : Nat} (h : NumAt s s.length n) (h0 : s ≠ []) (h1 : 1 < s.length → s.head? ≠ some 48) : Ten.Valid s ∧ n = Ten.numOf s := by
  refine ⟨⟨h0, h1, fun b hb => ?_⟩, by rw [h.1, List.take_length]⟩
  obtain ⟨j, hj, rfl⟩ := List.mem_iff_getElem.1 hb
  exact h.2 j hj hj
theorem not_valid_at {s : List UInt8} {k : Nat} (hk : k < s.length) (h : s[k].toNat < 48 ∨ 57 < s[k].toNat) : ¬ Ten.Valid s := fun hv => by
  have := hv.2.2 s[k] (List.getElem_mem hk)
  unfold Ten.isDig at this
  omega
theorem head_at {s : List UInt8} (h : 0 < s.length) : s.head? = some s[0] := by
  cases s with
  | nil => simp at h
  | cons b r => rfl

theorem refParse_any (s : List UInt8) (w : World) (hs : s.length ≤ 1000) : Calls Tryd.prog 10 #[.string ⟨s.toArray⟩] w (NatTold s w) := by
  obtain ⟨i0, hi, hz0, hz1, hz2⟩ := info_parts u32_info
  by_cases h0 : s.length = 0
  · have HN := Lib.hid (NatTold.no (w := w) (w' := w) (s := s) (Below.refl _ _) (fun h => h.1 (List.eq_nil_of_length_eq_zero h0)))
    have h0a : ((s.length : Int) == 0) = true := by simp [h0]
    clear h0
    go_enter Tryd.func10, Tryd.ntmps10
    go_wp2_with fail
    go_ret2
    exact HN.out
  · have hpos : 0 < s.length := by omega
    have h0a : ((s.length : Int) == 0) = false := by rw [beq_eq_false_iff_ne]; omega
    obtain ⟨z, hz⟩ : ∃ z, z = s[0].toNat := ⟨_, rfl⟩
    have hg0 : ((⟨s.toArray⟩ : ByteArray)[0]'(show 0 < (⟨s.toArray⟩ : ByteArray).size from hpos)).toNat = z := hz.symm
    by_cases hlead : 1 < s.length ∧ z = 48
    · obtain ⟨h1, hz48⟩ := hlead
      have HN := Lib.hid (NatTold.no (w := w) (w' := w) (s := s) (Below.refl _ _) (fun h => h.2.1 h1 (by rw [head_at hpos, UInt8.toNat_inj.1 (show s[0].toNat = (48 : UInt8).toNat by rw [← hz, hz48]; rfl)])))
      have hza : ((z : Int) == 48) = true := by simp [hz48]
      clear h0 hz hz48
      go_enter Tryd.func10, Tryd.ntmps10
      go_wp2_with fail
      go_ret2
      exact HN.out
    · have HV : Hid (s ≠ [] ∧ (1 < s.length → s.head? ≠ some 48)) := Lib.hid ⟨fun e => by rw [e] at hpos; simp at hpos, fun h1 e => hlead ⟨h1, by
        rw [head_at hpos] at e; injection e with e; rw [hz, e]; rfl⟩⟩
      have hgo : s.length ≤ 1 ∨ (1 < s.length ∧ ((z : Int) == 48) = false) := by
        rcases Nat.lt_or_ge 1 s.length with h | h
        · exact .inr ⟨h, by rw [beq_eq_false_iff_ne]; intro e; exact hlead ⟨h, by omega⟩⟩
        · exact .inl h
      clear hlead hz h0
      go_enter Tryd.func10, Tryd.ntmps10
      rcases hgo with hl1 | ⟨hl1, hza⟩
      · go_wp2_with fail
        go_loopw [4, 5] (fun ov i wr => ∃ (k n : Nat), k ≤ s.length ∧ (Nt.digs n).length ≤ k ∧ i = .int .i64 (k : Int) ∧ wr.ownsRow w.heap.size 30 1 ov (Nt.digs n).length (U (Nt.digs n)) ∧ Below w.heap.size w wr ∧ Hid (NumAt s k n)) (fun _ i _ => s.length - (intOf i).toNat)
        case atStart => exact ⟨0, 0, by omega, by rw [Nt.digs_zero]; simp, rfl, by rw [Nt.digs_zero]; exact World.ownsRow_nil _ _ _ _, Below.refl _ _, Lib.hid (NumAt.start s)⟩
        case round =>
          obtain ⟨k, n, hk, hdl, rfl, hown, hbel, H⟩ := hrel
          have hsz := hbel.size
          by_cases hlt : k < s.length
          · obtain ⟨y, hy⟩ : ∃ y, y = s[k].toNat := ⟨_, rfl⟩
            have hgy : ((⟨s.toArray⟩ : ByteArray)[k]'(show k < (⟨s.toArray⟩ : ByteArray).size from hlt)).toNat = y := hy.symm
            have hy8 : y < 256 := by rw [hy]; exact UInt8.toNat_lt _
            by_cases hd : 48 ≤ y ∧ y ≤ 57
            · obtain ⟨hd1, hd2⟩ := hd
              have ST := Lib.hid (H.out.step hlt ⟨by rw [← hy]; exact hd1, by rw [← hy]; exact hd2⟩)
              rw [← hy] at ST
              obtain ⟨m, hm⟩ : ∃ m, m = y - 48 := ⟨_, rfl⟩
              have hmi : (y : Int) - 48 = (m : Int) := by omega
              have hm9 : m ≤ 9 := by omega
              rw [← hm] at ST
              have OX := Lib.hid (Nt.ok_digs n)
              have D0 : Hid (∀ cur, Nt.LenAt (Nt.digs n) 10 m cur (Nt.digs n).length 0 → Nt.digs (n * 10 + m) = cur) := Lib.hid (fun cur h => Nt.len_done0 h (by omega))
              have D1 : Hid (∀ cur c, Nt.LenAt (Nt.digs n) 10 m cur (Nt.digs n).length c → c ≠ 0 → Nt.digs (n * 10 + m) = cur ++ [c]) := Lib.hid (fun cur c h hc => Nt.len_done1 h hc)
              obtain ⟨dx, hdx⟩ : ∃ dx, dx = Nt.digs n := ⟨_, rfl⟩
              rw [← hdx] at hown hdl OX D0 D1
              obtain ⟨A, C, rfl, hC1, hC2⟩ := own_slice hown
              clear hy hm hdx H
              go_wp2_with fail
              go_loopw [6, 7] (fun cv i wr => ∃ (k c : Nat) (cur : List Nat), k ≤ dx.length ∧ c < 4294967296 ∧ i = .int .i64 (k : Int) ∧ cv = .int .u64 (c : Int) ∧ wr.ownsRow w.heap.size 30 1 (.slice A dx.length C) dx.length (U cur) ∧ Below w.heap.size w wr ∧ Hid (Nt.LenAt dx 10 m cur k c)) (fun _ i _ => dx.length - (intOf i).toNat)
              case atStart => exact ⟨0, m, dx, Nat.zero_le _, by omega, rfl, congrArg (Value.int .u64) (by omega), hown, hbel, Lib.hid (Nt.len_start OX.out (by omega))⟩
              case round =>
                clear hown hbel hsz
                obtain ⟨k2, c, cur, hk2, hc, rfl, rfl, hown, hbel, H⟩ := hrel
                have hsz := hbel.size
                by_cases hlt2 : k2 < dx.length
                · exact absurd hlt2 (by omega)
                · obtain rfl : k2 = dx.length := by omega
                  have hcl : Hid (cur.length = dx.length) := Lib.hid H.out.1
                  by_cases hc0 : c = 0
                  · subst hc0
                    have HE := Lib.hid (D0.out cur H.out)
                    go_wp2_with fail
                    refine ⟨⟨k + 1, n * 10 + m, by omega, by rw [HE.out, hcl.out]; omega, by go_num, ?_, hbel, ST⟩, by simp [intOf]; omega⟩
                    rw [HE.out, hcl.out]
                    exact hown
                  · have HE := Lib.hid (D1.out cur c H.out hc0)
                    have hc1 : (0 : Int) < (c : Int) := by omega
                    go_wp2_with (at_builtin; refine wpList_append_own _ rfl _ _ 22 rfl w.heap.size 30 i0 (.int .u32 0) 1 4 Tryd.underlying22 hi hz0 hz1 hz2 rfl (by decide) _ _ _ rfl (hown.alloc _) ⟨_, 0, none⟩ 1 1 [.int .u32 (c : Int)] rfl rfl (cell_one_new _ _ _) (by intro u hu; simp only [List.mem_singleton] at hu; subst hu; rfl) (by unfold maxLen; omega) (by omega) (by simp; omega) ?_; intro v3 w3 hown3 hgrow3 hnn3)
                    have hb3 : Below w.heap.size w w3 := (hbel.alloc (by omega) _).grown hgrow3 (by simp; omega) (fun k hk => (hown.lt k hk).1)
                    refine ⟨⟨k + 1, n * 10 + m, by omega, by rw [HE.out, List.length_append, hcl.out]; simp; omega, by go_num, ?_, hb3, ST⟩, by simp [intOf]; omega⟩
                    rw [HE.out, List.length_append, hcl.out]
                    simpa [U] using hown3
            · have HN := Lib.hid (NatTold.no (w := w) (w' := wr) (s := s) hbel (not_valid_at hlt (by rw [← hy]; omega)))
              have hc : y < 48 ∨ (48 ≤ y ∧ 57 < y) := by omega
              clear hy hd
              rcases hc with hc | ⟨hc, hc2⟩
              · go_wp2_with fail
                go_ret2
                exact HN.out
              · go_wp2_with fail
                go_ret2
                exact HN.out
          · obtain rfl : k = s.length := by omega
            have HD := Lib.hid (H.out.done HV.out.1 HV.out.2)
            have HY := Lib.hid (NatTold.yes hbel HD.out.1 (by rw [← HD.out.2]; exact IsRes.of_own hown))
            go_wp2_with fail
            go_ret2
            exact HY.out
      · go_wp2_with fail
        go_loopw [4, 5] (fun ov i wr => ∃ (k n : Nat), k ≤ s.length ∧ (Nt.digs n).length ≤ k ∧ i = .int .i64 (k : Int) ∧ wr.ownsRow w.heap.size 30 1 ov (Nt.digs n).length (U (Nt.digs n)) ∧ Below w.heap.size w wr ∧ Hid (NumAt s k n)) (fun _ i _ => s.length - (intOf i).toNat)
        case atStart => exact ⟨0, 0, by omega, by rw [Nt.digs_zero]; simp, rfl, by rw [Nt.digs_zero]; exact World.ownsRow_nil _ _ _ _, Below.refl _ _, Lib.hid (NumAt.start s)⟩
        case round =>
          obtain ⟨k, n, hk, hdl, rfl, hown, hbel, H⟩ := hrel
          have hsz := hbel.size
          by_cases hlt : k < s.length
          · obtain ⟨y, hy⟩ : ∃ y, y = s[k].toNat := ⟨_, rfl⟩
            have hgy : ((⟨s.toArray⟩ : ByteArray)[k]'(show k < (⟨s.toArray⟩ : ByteArray).size from hlt)).toNat = y := hy.symm
            have hy8 : y < 256 := by rw [hy]; exact UInt8.toNat_lt _
            by_cases hd : 48 ≤ y ∧ y ≤ 57
            · obtain ⟨hd1, hd2⟩ := hd
              have ST := Lib.hid (H.out.step hlt ⟨by rw [← hy]; exact hd1, by rw [← hy]; exact hd2⟩)
              rw [← hy] at ST
              obtain ⟨m, hm⟩ : ∃ m, m = y - 48 := ⟨_, rfl⟩
              have hmi : (y : Int) - 48 = (m : Int) := by omega
              have hm9 : m ≤ 9 := by omega
              rw [← hm] at ST
              have OX := Lib.hid (Nt.ok_digs n)
              have D0 : Hid (∀ cur, Nt.LenAt (Nt.digs n) 10 m cur (Nt.digs n).length 0 → Nt.digs (n * 10 + m) = cur) := Lib.hid (fun cur h => Nt.len_done0 h (by omega))
              have D1 : Hid (∀ cur c, Nt.LenAt (Nt.digs n) 10 m cur (Nt.digs n).length c → c ≠ 0 → Nt.digs (n * 10 + m) = cur ++ [c]) := Lib.hid (fun cur c h hc => Nt.len_done1 h hc)
              obtain ⟨dx, hdx⟩ : ∃ dx, dx = Nt.digs n := ⟨_, rfl⟩
              rw [← hdx] at hown hdl OX D0 D1
              obtain ⟨A, C, rfl, hC1, hC2⟩ := own_slice hown
              clear hy hm hdx H
              go_wp2_with fail
              go_loopw [6, 7] (fun cv i wr => ∃ (k c : Nat) (cur : List Nat), k ≤ dx.length ∧ c < 4294967296 ∧ i = .int .i64 (k : Int) ∧ cv = .int .u64 (c : Int) ∧ wr.ownsRow w.heap.size 30 1 (.slice A dx.length C) dx.length (U cur) ∧ Below w.heap.size w wr ∧ Hid (Nt.LenAt dx 10 m cur k c)) (fun _ i _ => dx.length - (intOf i).toNat)
              case atStart => exact ⟨0, m, dx, Nat.zero_le _, by omega, rfl, congrArg (Value.int .u64) (by omega), hown, hbel, Lib.hid (Nt.len_start OX.out (by omega))⟩
              case round =>
                clear hown hbel hsz
                obtain ⟨k2, c, cur, hk2, hc, rfl, rfl, hown, hbel, H⟩ := hrel
                have hsz := hbel.size
                by_cases hlt2 : k2 < dx.length
                · obtain ⟨g, rfl, hgb, hcell, hfz, hset⟩ := own_at hown hlt2
                  have hget := Nt.len_get H.out hlt2
                  rw [U, List.getElem?_map, hget, Option.map_some] at hcell
                  have hxb := Nt.ok_get OX.out hlt2
                  have ST2 := Lib.hid (Nt.len_step H.out hlt2 OX.out (by omega))
                  have BD := Nt.len_bounds hxb (show 10 < 4294967296 by omega) hc
                  have HSET : Hid (∀ s : Nat, (wr.setCell ⟨g, k2, none⟩ (.int .u32 (s : Int))).ownsRow w.heap.size 30 1 (.slice (some ⟨g, 0, none⟩) dx.length C) dx.length (U (cur.set k2 s))) := Lib.hid (fun s => by
                    have := hset (.int .u32 (s : Int))
                    rw [show (U cur).set k2 (.int .u32 (s : Int)) = U (cur.set k2 s) from List.map_set.symm] at this
                    exact this)
                  have HB2 : Hid (∀ s, Below w.heap.size w (wr.setCell ⟨g, k2, none⟩ s)) := Lib.hid (fun s => hbel.setCell hgb _)
                  clear hset hget hown
                  generalize dx[k2] = x at *
                  obtain ⟨ht1, ht2, ht3, ht4⟩ := BD
                  go_wp2_with fail
                  exact ⟨⟨k2 + 1, (x * 10 + c) / 4294967296, cur.set k2 ((x * 10 + c) % 4294967296), by omega, ht2, by go_num, congrArg (Value.int .u64) (by omega), HSET.out _, HB2.out _, ST2⟩, by simp [intOf]; omega⟩
                · obtain rfl : k2 = dx.length := by omega
                  have hcl : Hid (cur.length = dx.length) := Lib.hid H.out.1
                  by_cases hc0 : c = 0
                  · subst hc0
                    have HE := Lib.hid (D0.out cur H.out)
                    go_wp2_with fail
                    refine ⟨⟨k + 1, n * 10 + m, by omega, by rw [HE.out, hcl.out]; omega, by go_num, ?_, hbel, ST⟩, by simp [intOf]; omega⟩
                    rw [HE.out, hcl.out]
                    exact hown
                  · have HE := Lib.hid (D1.out cur c H.out hc0)
                    have hc1 : (0 : Int) < (c : Int) := by omega
                    go_wp2_with (at_builtin; refine wpList_append_own _ rfl _ _ 22 rfl w.heap.size 30 i0 (.int .u32 0) 1 4 Tryd.underlying22 hi hz0 hz1 hz2 rfl (by decide) _ _ _ rfl (hown.alloc _) ⟨_, 0, none⟩ 1 1 [.int .u32 (c : Int)] rfl rfl (cell_one_new _ _ _) (by intro u hu; simp only [List.mem_singleton] at hu; subst hu; rfl) (by unfold maxLen; omega) (by omega) (by simp; omega) ?_; intro v3 w3 hown3 hgrow3 hnn3)
                    have hb3 : Below w.heap.size w w3 := (hbel.alloc (by omega) _).grown hgrow3 (by simp; omega) (fun k hk => (hown.lt k hk).1)
                    refine ⟨⟨k + 1, n * 10 + m, by omega, by rw [HE.out, List.length_append, hcl.out]; simp; omega, by go_num, ?_, hb3, ST⟩, by simp [intOf]; omega⟩
                    rw [HE.out, List.length_append, hcl.out]
                    simpa [U] using hown3
            · have HN := Lib.hid (NatTold.no (w := w) (w' := wr) (s := s) hbel (not_valid_at hlt (by rw [← hy]; omega)))
              have hc : y < 48 ∨ (48 ≤ y ∧ 57 < y) := by omega
              clear hy hd
              rcases hc with hc | ⟨hc, hc2⟩
              · go_wp2_with fail
                go_ret2
                exact HN.out
              · go_wp2_with fail
                go_ret2
                exact HN.out
          · obtain rfl : k = s.length := by omega
            have HD := Lib.hid (H.out.done HV.out.1 HV.out.2)
            have HY := Lib.hid (NatTold.yes hbel HD.out.1 (by rw [← HD.out.2]; exact IsRes.of_own hown))
            go_wp2_with fail
            go_ret2
            exact HY.out
end Go.Proofs.YtgicgmaiolfpkaaDoor
