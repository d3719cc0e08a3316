/-
  Texts of this proof, joined (by wip/bin/bundle.py): NatPar2, Dig5, InClass, RegInv, RegPred, RegLast, Nat6, Nat7, Nat8, Rat1, Dig1, Dig2.
-/
import Derived.Test.YtfiefglagknclaaDoorM2
import Derived.Deep.QuietTactic
import Derived.BigQuiet
import Derived.Laws.Rows
import Derived.Laws.Tables
import Derived.Deep.LoopGhost
/-
  What nat.Parse computes.
-/
namespace Go.Proofs.YtfiefglagknclaaDoor
open Go.RowKit
set_option maxHeartbeats 1000000
set_option maxRecDepth 100000
set_option linter.unusedVariables false

/-- A part of the numeral, read on from a place. -/
def PartAt (s : List UInt8) (n at0 k p sc : Nat) : Prop := sc = 10 ^ (k - at0) ∧ p < sc ∧ Ten.numOf (s.take k) = n * sc + p
theorem PartAt.start {s : List UInt8} {n at0 : Nat} (h : n = Ten.numOf (s.take at0)) : PartAt s n at0 at0 0 1 := ⟨by rw [Nat.sub_self], by omega, by rw [← h, Nat.mul_one, Nat.add_zero]⟩
theorem PartAt.step {s : List UInt8} {n at0 k p sc : Nat} (h : PartAt s n at0 k p sc) (h1 : at0 ≤ k) (hk : k < s.length) (hd : Ten.isDig s[k]) : PartAt s n at0 (k + 1) (10 * p + (s[k].toNat - 48)) (sc * 10) := by
  obtain ⟨e1, e2, e3⟩ := h
  have := hd.2
  refine ⟨by rw [e1, show k + 1 - at0 = (k - at0) + 1 by omega, Nat.pow_succ], by omega, ?_⟩
  rw [List.take_succ_eq_append_getElem hk, Ten.numOf_snoc, e3]
  rw [show n * (sc * 10) = n * sc * 10 from (Nat.mul_assoc _ _ _).symm]
  generalize n * sc = q
  omega
theorem PartAt.bound {s : List UInt8} {n at0 k p sc : Nat} (h : PartAt s n at0 k p sc) (m : Nat) (hk : k - at0 ≤ m) : 1 ≤ sc ∧ sc ≤ 10 ^ m ∧ p < 10 ^ m := by
  obtain ⟨e1, e2, e3⟩ := h
  have h1 : 10 ^ (k - at0) ≤ 10 ^ m := Nat.pow_le_pow_right (by omega) hk
  have h2 : 1 ≤ 10 ^ (k - at0) := Nat.pow_pos (by omega)
  omega
theorem num_lt : ∀ (t : List UInt8), (∀ b ∈ t, Ten.isDig b) → Ten.numOf t < 10 ^ t.length := by
  intro t
  induction h : t.length generalizing t with
  | zero => intro _; rw [List.eq_nil_of_length_eq_zero h]; decide
  | succ n ih =>
    intro hd
    have hne : t ≠ [] := by intro e; rw [e] at h; simp at h
    obtain ⟨r, b, rfl⟩ : ∃ r b, t = r ++ [b] := ⟨t.dropLast, t.getLast hne, (List.dropLast_concat_getLast hne).symm⟩
    have := ih r (by simpa using h) (fun c hc => hd c (List.mem_append_left _ hc))
    have hb := hd b (by simp)
    have := hb.2
    rw [Ten.numOf_snoc, Nat.pow_succ]
    omega
theorem num_len {s : List UInt8} (h : Ten.Valid s) {k : Nat} (hk : k ≤ s.length) : (Nt.digs (Ten.numOf (s.take k))).length ≤ k := by
  have := num_lt (s.take k) (fun b hb => h.2.2 b (List.mem_of_mem_take hb))
  rw [List.length_take, Nat.min_eq_left hk] at this
  exact Nt.digs_len_lt (Nat.lt_of_lt_of_le this (Nat.pow_le_pow_left (by omega) k))

theorem parse_any (s : List UInt8) (w : World) (hs : s.length ≤ 1000) : Calls Tryd.prog 70 #[.string ⟨s.toArray⟩] w (NatTold s w) := by
  obtain ⟨i0, hi, hz0, hz1, hz2⟩ := info_parts u32_info
  by_cases h0 : s = []
  · have HN := Lib.hid (NatTold.no (w := w) (w' := w) (s := s) (Below.refl _ _) (fun h => h.1 h0))
    subst h0
    go_enter Tryd.func70, Tryd.ntmps70
    go_wp2_with fail
    go_ret2
    exact HN.out
  · have hpos : 0 < s.length := List.length_pos_iff.2 h0
    have h0a : s.isEmpty = false := by simpa using h0
    obtain ⟨z, hz⟩ : ∃ z, z = s[0].toNat := ⟨_, rfl⟩
    have hg0 : ((⟨s.toArray⟩ : ByteArray)[0]'(show 0 < (⟨s.toArray⟩ : ByteArray).size from hpos)).toNat = z := hz.symm
    by_cases hlead : 1 < s.length ∧ z = 48
    · obtain ⟨h1, hz48⟩ := hlead
      have HN := Lib.hid (NatTold.no (w := w) (w' := w) (s := s) (Below.refl _ _) (fun h => h.2.1 h1 (by rw [head_at hpos, UInt8.toNat_inj.1 (show s[0].toNat = (48 : UInt8).toNat by rw [← hz, hz48]; rfl)])))
      have hza : ((z : Int) == 48) = true := by simp [hz48]
      clear h0 hz hz48
      go_enter Tryd.func70, Tryd.ntmps70
      go_wp2_with fail
      go_ret2
      exact HN.out
    · have HV : Hid (s ≠ [] ∧ (1 < s.length → s.head? ≠ some 48)) := Lib.hid ⟨h0, fun h1 e => hlead ⟨h1, by
        rw [head_at hpos] at e; injection e with e; rw [hz, e]; rfl⟩⟩
      have hgo : s.length ≤ 1 ∨ (1 < s.length ∧ ((z : Int) == 48) = false) := by
        rcases Nat.lt_or_ge 1 s.length with h | h
        · exact .inr ⟨h, by rw [beq_eq_false_iff_ne]; intro e; exact hlead ⟨h, by omega⟩⟩
        · exact .inl h
      clear hlead hz h0
      go_enter Tryd.func70, Tryd.ntmps70
      rcases hgo with hl1 | ⟨hl1, hza⟩
      · go_wp2_with fail
        go_loop [24] (fun i => ∃ k : Nat, k ≤ s.length ∧ i = .int .i64 (k : Int) ∧ Hid (∀ j (hj : j < s.length), j < k → Ten.isDig s[j])) (fun i => s.length - (intOf i).toNat)
        case atStart => exact ⟨0, by omega, rfl, Lib.hid (fun j _ h => absurd h (by omega))⟩
        case round =>
          obtain ⟨k, hk, rfl, H⟩ := hrel
          by_cases hlt : k < s.length
          · obtain ⟨y, hy⟩ : ∃ y, y = s[k].toNat := ⟨_, rfl⟩
            have hgy : ((⟨s.toArray⟩ : ByteArray)[k]'(show k < (⟨s.toArray⟩ : ByteArray).size from hlt)).toNat = y := hy.symm
            have hy8 : y < 256 := by rw [hy]; exact UInt8.toNat_lt _
            by_cases hd : 48 ≤ y ∧ y ≤ 57
            · obtain ⟨hd1, hd2⟩ := hd
              have HD : Hid (∀ j (hj : j < s.length), j < k + 1 → Ten.isDig s[j]) := Lib.hid (fun j hj hjk => by
                by_cases e : j = k
                · subst e; exact ⟨by rw [← hy]; exact hd1, by rw [← hy]; exact hd2⟩
                · exact H.out j hj (by omega))
              clear hy
              go_wp2_with fail
              exact ⟨⟨k + 1, by omega, by go_num, HD⟩, by simp [intOf]; omega⟩
            · have HN := Lib.hid (NatTold.no (w := w) (w' := w) (s := s) (Below.refl _ _) (not_valid_at hlt (by rw [← hy]; omega)))
              have hc : y < 48 ∨ (48 ≤ y ∧ 57 < y) := by omega
              clear hy hd
              rcases hc with hc | ⟨hc, hc2⟩
              · go_wp2_with fail
                go_ret2
                exact HN.out
              · go_wp2_with fail
                go_ret2
                exact HN.out
          · obtain rfl : k = s.length := by omega
            have HVAL : Hid (Ten.Valid s) := Lib.hid ⟨HV.out.1, HV.out.2, fun b hb => by
              obtain ⟨j, hj, rfl⟩ := List.mem_iff_getElem.1 hb
              exact H.out j hj hj⟩
            clear hlt
            go_wp2_with (at_make; refine wpList_make_blk _ rfl _ _ 22 rfl 70 i0 (.int .u32 0) Tryd.underlying22 hi hz0 hz1 rfl .i64 .i64 _ _ 0 (s.length / 9 + 1) rfl rfl rfl (by go_num) (by omega) (by rw [hz2]; omega) (by omega) w.heap.size w (Below.refl _ _) (Nat.le_refl _) ?_; intro w1 hblk1 hb1 hb1' hlt1)
            have hown1 : w1.ownsRow w.heap.size 70 1 (.slice (some ⟨w.heap.size, 0, none⟩) 0 (s.length / 9 + 1)) 0 [] := by
              have := hblk1.own (base := w.heap.size) (n := 0) (Nat.le_refl _) (by omega) (by simp [maxLen]; omega)
              simpa using this
            clear hblk1 hb1' hlt1
            go_loopw [5, 6] (fun ov i wr => ∃ (k n : Nat), k ≤ s.length ∧ i = .int .i64 (k : Int) ∧ wr.ownsRow w.heap.size 70 1 ov (Nt.digs n).length (U (Nt.digs n)) ∧ Below w.heap.size w wr ∧ Hid (n = Ten.numOf (s.take k))) (fun _ i _ => s.length - (intOf i).toNat)
            case atStart => exact ⟨0, 0, by omega, rfl, by rw [Nt.digs_zero]; exact hown1, hb1, Lib.hid rfl⟩
            case round =>
              clear hown1 hb1
              obtain ⟨k, n, hk, rfl, hown, hbel, H2⟩ := hrel
              have hsz := hbel.size
              by_cases hlt : k < s.length
              · have hdl : (Nt.digs n).length ≤ 1000000 := by
                  have := num_len HVAL.out hk
                  rw [H2.out]; omega
                obtain ⟨E, hE⟩ : ∃ E : Nat, E = min (k + 9) s.length := ⟨_, rfl⟩
                have hE1 : k < E := by omega
                have hE2 : E ≤ s.length := by omega
                have hE3 : E ≤ k + 9 := by omega
                have hEi : min ((k : Int) + 9) (s.length : Int) = (E : Int) := by omega
                clear hE
                go_wp2_with fail
                go_loop [6, 7, 8] (fun av pv sv => ∃ (j p sc : Nat), k ≤ j ∧ j ≤ E ∧ p < 1000000000 ∧ 1 ≤ sc ∧ sc ≤ 1000000000 ∧ av = .int .i64 (j : Int) ∧ pv = .int .u32 (p : Int) ∧ sv = .int .u32 (sc : Int) ∧ Hid (PartAt s n k j p sc)) (fun av _ _ => E - (intOf av).toNat)
                case atStart => exact ⟨k, 0, 1, Nat.le_refl _, by omega, by omega, by omega, by omega, rfl, rfl, rfl, Lib.hid (PartAt.start H2.out)⟩
                case round =>
                  obtain ⟨j, p, sc, hj1, hj2, hp, hsc1, hsc2, rfl, rfl, rfl, HP⟩ := hrel
                  by_cases hjE : j < E
                  · have hjs : j < s.length := by omega
                    obtain ⟨y, hy⟩ : ∃ y, y = s[j].toNat := ⟨_, rfl⟩
                    have hgy : ((⟨s.toArray⟩ : ByteArray)[j]'(show j < (⟨s.toArray⟩ : ByteArray).size from hjs)).toNat = y := hy.symm
                    have hdg := HVAL.out.2.2 s[j] (List.getElem_mem hjs)
                    have ST := Lib.hid (HP.out.step hj1 hjs hdg)
                    have BD := HP.out.bound 8 (by omega)
                    simp only [Nat.reducePow] at BD
                    obtain ⟨_, hb1, hb2⟩ := BD
                    unfold Ten.isDig at hdg
                    rw [← hy] at ST hdg
                    obtain ⟨hd1, hd2⟩ := hdg
                    clear hy
                    go_wp2_with fail
                    exact ⟨⟨j + 1, 10 * p + (y - 48), sc * 10, by omega, by omega, by omega, by omega, by omega, by go_num, congrArg (Value.int .u32) (by omega), congrArg (Value.int .u32) (by omega), ST⟩, by simp [intOf]; omega⟩
                  · obtain rfl : j = E := by omega
                    have LEN := Lib.hid (lengthen_any w.heap.size _ n sc p wr hown hsz hdl hsc1 (by omega) (by omega))
                    clear hown
                    go_wp2_with (go_at_call 106; refine LEN.out.mono ?_; rintro e w2 ⟨v2, rfl, hown2, hb2⟩)
                    exact ⟨⟨j, n * sc + p, by omega, rfl, hown2, hbel.trans hb2, Lib.hid HP.out.2.2.symm⟩, by simp [intOf]; omega⟩
              · obtain rfl : k = s.length := by omega
                have HY := Lib.hid (NatTold.yes hbel HVAL.out (by have := H2.out; rw [List.take_length] at this; rw [← this]; exact IsRes.of_own hown))
                go_wp2_with fail
                go_ret2
                exact HY.out
      · go_wp2_with fail
        go_loop [24] (fun i => ∃ k : Nat, k ≤ s.length ∧ i = .int .i64 (k : Int) ∧ Hid (∀ j (hj : j < s.length), j < k → Ten.isDig s[j])) (fun i => s.length - (intOf i).toNat)
        case atStart => exact ⟨0, by omega, rfl, Lib.hid (fun j _ h => absurd h (by omega))⟩
        case round =>
          obtain ⟨k, hk, rfl, H⟩ := hrel
          by_cases hlt : k < s.length
          · obtain ⟨y, hy⟩ : ∃ y, y = s[k].toNat := ⟨_, rfl⟩
            have hgy : ((⟨s.toArray⟩ : ByteArray)[k]'(show k < (⟨s.toArray⟩ : ByteArray).size from hlt)).toNat = y := hy.symm
            have hy8 : y < 256 := by rw [hy]; exact UInt8.toNat_lt _
            by_cases hd : 48 ≤ y ∧ y ≤ 57
            · obtain ⟨hd1, hd2⟩ := hd
              have HD : Hid (∀ j (hj : j < s.length), j < k + 1 → Ten.isDig s[j]) := Lib.hid (fun j hj hjk => by
                by_cases e : j = k
                · subst e; exact ⟨by rw [← hy]; exact hd1, by rw [← hy]; exact hd2⟩
                · exact H.out j hj (by omega))
              clear hy
              go_wp2_with fail
              exact ⟨⟨k + 1, by omega, by go_num, HD⟩, by simp [intOf]; omega⟩
            · have HN := Lib.hid (NatTold.no (w := w) (w' := w) (s := s) (Below.refl _ _) (not_valid_at hlt (by rw [← hy]; omega)))
              have hc : y < 48 ∨ (48 ≤ y ∧ 57 < y) := by omega
              clear hy hd
              rcases hc with hc | ⟨hc, hc2⟩
              · go_wp2_with fail
                go_ret2
                exact HN.out
              · go_wp2_with fail
                go_ret2
                exact HN.out
          · obtain rfl : k = s.length := by omega
            have HVAL : Hid (Ten.Valid s) := Lib.hid ⟨HV.out.1, HV.out.2, fun b hb => by
              obtain ⟨j, hj, rfl⟩ := List.mem_iff_getElem.1 hb
              exact H.out j hj hj⟩
            clear hlt
            go_wp2_with (at_make; refine wpList_make_blk _ rfl _ _ 22 rfl 70 i0 (.int .u32 0) Tryd.underlying22 hi hz0 hz1 rfl .i64 .i64 _ _ 0 (s.length / 9 + 1) rfl rfl rfl (by go_num) (by omega) (by rw [hz2]; omega) (by omega) w.heap.size w (Below.refl _ _) (Nat.le_refl _) ?_; intro w1 hblk1 hb1 hb1' hlt1)
            have hown1 : w1.ownsRow w.heap.size 70 1 (.slice (some ⟨w.heap.size, 0, none⟩) 0 (s.length / 9 + 1)) 0 [] := by
              have := hblk1.own (base := w.heap.size) (n := 0) (Nat.le_refl _) (by omega) (by simp [maxLen]; omega)
              simpa using this
            clear hblk1 hb1' hlt1
            go_loopw [5, 6] (fun ov i wr => ∃ (k n : Nat), k ≤ s.length ∧ i = .int .i64 (k : Int) ∧ wr.ownsRow w.heap.size 70 1 ov (Nt.digs n).length (U (Nt.digs n)) ∧ Below w.heap.size w wr ∧ Hid (n = Ten.numOf (s.take k))) (fun _ i _ => s.length - (intOf i).toNat)
            case atStart => exact ⟨0, 0, by omega, rfl, by rw [Nt.digs_zero]; exact hown1, hb1, Lib.hid rfl⟩
            case round =>
              clear hown1 hb1
              obtain ⟨k, n, hk, rfl, hown, hbel, H2⟩ := hrel
              have hsz := hbel.size
              by_cases hlt : k < s.length
              · have hdl : (Nt.digs n).length ≤ 1000000 := by
                  have := num_len HVAL.out hk
                  rw [H2.out]; omega
                obtain ⟨E, hE⟩ : ∃ E : Nat, E = min (k + 9) s.length := ⟨_, rfl⟩
                have hE1 : k < E := by omega
                have hE2 : E ≤ s.length := by omega
                have hE3 : E ≤ k + 9 := by omega
                have hEi : min ((k : Int) + 9) (s.length : Int) = (E : Int) := by omega
                clear hE
                go_wp2_with fail
                go_loop [6, 7, 8] (fun av pv sv => ∃ (j p sc : Nat), k ≤ j ∧ j ≤ E ∧ p < 1000000000 ∧ 1 ≤ sc ∧ sc ≤ 1000000000 ∧ av = .int .i64 (j : Int) ∧ pv = .int .u32 (p : Int) ∧ sv = .int .u32 (sc : Int) ∧ Hid (PartAt s n k j p sc)) (fun av _ _ => E - (intOf av).toNat)
                case atStart => exact ⟨k, 0, 1, Nat.le_refl _, by omega, by omega, by omega, by omega, rfl, rfl, rfl, Lib.hid (PartAt.start H2.out)⟩
                case round =>
                  obtain ⟨j, p, sc, hj1, hj2, hp, hsc1, hsc2, rfl, rfl, rfl, HP⟩ := hrel
                  by_cases hjE : j < E
                  · have hjs : j < s.length := by omega
                    obtain ⟨y, hy⟩ : ∃ y, y = s[j].toNat := ⟨_, rfl⟩
                    have hgy : ((⟨s.toArray⟩ : ByteArray)[j]'(show j < (⟨s.toArray⟩ : ByteArray).size from hjs)).toNat = y := hy.symm
                    have hdg := HVAL.out.2.2 s[j] (List.getElem_mem hjs)
                    have ST := Lib.hid (HP.out.step hj1 hjs hdg)
                    have BD := HP.out.bound 8 (by omega)
                    simp only [Nat.reducePow] at BD
                    obtain ⟨_, hb1, hb2⟩ := BD
                    unfold Ten.isDig at hdg
                    rw [← hy] at ST hdg
                    obtain ⟨hd1, hd2⟩ := hdg
                    clear hy
                    go_wp2_with fail
                    exact ⟨⟨j + 1, 10 * p + (y - 48), sc * 10, by omega, by omega, by omega, by omega, by omega, by go_num, congrArg (Value.int .u32) (by omega), congrArg (Value.int .u32) (by omega), ST⟩, by simp [intOf]; omega⟩
                  · obtain rfl : j = E := by omega
                    have LEN := Lib.hid (lengthen_any w.heap.size _ n sc p wr hown hsz hdl hsc1 (by omega) (by omega))
                    clear hown
                    go_wp2_with (go_at_call 106; refine LEN.out.mono ?_; rintro e w2 ⟨v2, rfl, hown2, hb2⟩)
                    exact ⟨⟨j, n * sc + p, by omega, rfl, hown2, hbel.trans hb2, Lib.hid HP.out.2.2.symm⟩, by simp [intOf]; omega⟩
              · obtain rfl : k = s.length := by omega
                have HY := Lib.hid (NatTold.yes hbel HVAL.out (by have := H2.out; rw [List.take_length] at this; rw [← this]; exact IsRes.of_own hown))
                go_wp2_with fail
                go_ret2
                exact HY.out
end Go.Proofs.YtfiefglagknclaaDoor

/-
  digits.number and scrimref05.value: the number of digits that may begin with noughts.
-/
namespace Go.Proofs.YtfiefglagknclaaDoor
open Go.RowKit
set_option maxHeartbeats 1000000
set_option maxRecDepth 100000
set_option linter.unusedVariables false

/-- The call hands back a number's limbs. -/
def DigsOut (w : World) (n : Nat) (e : Ending) (w' : World) : Prop := ∃ v, e = .returned v ∧ IsRes w' v (Nt.digs n) ∧ Below w.heap.size w w'
theorem natTold_valid {s : List UInt8} {w w' : World} {e : Ending} (h : NatTold s w e w') (hv : Ten.Valid s) : ∃ v, e = .returned (.tuple #[v, .bool true]) ∧ IsRes w' v (Nt.digs (Ten.numOf s)) ∧ Below w.heap.size w w' := by
  obtain ⟨hb, v, ok, n, rfl, hr, hc⟩ := h
  rcases hc with ⟨rfl, _, rfl⟩ | ⟨_, h2, _⟩
  · exact ⟨v, rfl, hr, hb⟩
  · exact absurd hv h2

theorem number_any (s : List UInt8) (w : World) (hs : s.length ≤ 1000) (hd : ∀ b ∈ s, Ten.isDig b) :
    Calls Tryd.prog 33 #[.string ⟨s.toArray⟩] w (DigsOut w (Ten.numOf s)) := by
  have TL := Tryd.strings_TrimLeft_one ⟨s.toArray⟩ 48 (by decide) w
  rw [show (⟨s.toArray⟩ : ByteArray).data.toList = s from rfl, show Lib.trimLeftB s 48 = Dg.strip s from rfl] at TL
  have hl := Dg.strip_len s
  have HV := Lib.hid (fun h => Dg.strip_valid hd h)
  have HN := Lib.hid (Dg.numOf_strip s)
  have HZ := Lib.hid (fun h => Dg.strip_nil (s := s) h)
  generalize Dg.strip s = t at *
  have HTL := Lib.hid TL
  clear TL hd
  by_cases h0 : t = []
  · have hz := HZ.out h0
    have hemp : t.isEmpty = true := by rw [h0]; rfl
    have HZ2 := Lib.hid hz
    subst h0
    clear hz HV HN HZ
    go_enter Tryd.func33, Tryd.ntmps33
    go_wp2_with fail
    refine HTL.out.mono ?_
    rintro e w' ⟨rfl, rfl⟩
    go_wp2_with fail
    go_ret
    exact ⟨_, rfl, by rw [HZ2.out, Nt.digs_zero]; exact IsRes.none_ _, Below.refl _ _⟩
  · have hemp : t.isEmpty = false := by cases t with | nil => exact absurd rfl h0 | cons a r => rfl
    have h1 : ¬ t = [] := h0
    have PA := Lib.hid (fun (wx : World) => parse_any t wx (by omega))
    have HV2 := Lib.hid (HV.out h0)
    clear HZ HV
    go_enter Tryd.func33, Tryd.ntmps33
    go_wp2_with fail
    refine HTL.out.mono ?_
    rintro e w' ⟨rfl, rfl⟩
    go_wp2_with fail
    refine (PA.out _).mono ?_
    rintro e w2 hnt
    obtain ⟨v, rfl, hr, hb⟩ := natTold_valid hnt HV2.out
    have HR := Lib.hid hr
    clear hnt hr
    go_wp2_with fail
    go_ret
    exact ⟨_, rfl, by rw [← HN.out]; exact HR.out, hb⟩

theorem str_from (s : List UInt8) (n : Nat) : (⟨s.toArray⟩ : ByteArray).extract n s.length = ⟨(s.drop n).toArray⟩ := by
  apply ByteArray.ext
  simp
  exact List.take_of_length_le (by simp)
theorem str_upto (s : List UInt8) (n : Nat) (h : n ≤ s.length) : (⟨s.toArray⟩ : ByteArray).extract 0 n = ⟨(s.take n).toArray⟩ := by
  apply ByteArray.ext
  simp
/-- How many noughts ahead have been left out. -/
def SkipAt (s : List UInt8) (k : Nat) : Prop := ∀ i (hi : i < s.length), i < k → s[i] = 48
theorem SkipAt.step {s : List UInt8} {k : Nat} (h : SkipAt s k) (hk : k < s.length) (he : s[k] = 48) : SkipAt s (k + 1) := fun i hi hik => by
  by_cases e : i = k
  · subst e; exact he
  · exact h i hi (by omega)
theorem SkipAt.done {s : List UInt8} {k : Nat} (h : SkipAt s k) (hd : ∀ b ∈ s, Ten.isDig b) (hk : k < s.length) (hn : k + 1 < s.length → s[k] ≠ 48) : Ten.Valid (s.drop k) ∧ Ten.numOf (s.drop k) = Ten.numOf s := ⟨Dg.valid_drop hd hk hn, Dg.numOf_drop h (by omega)⟩

theorem value_any (s : List UInt8) (w : World) (hs : s.length ≤ 1000) (h0 : 0 < s.length) (hd : ∀ b ∈ s, Ten.isDig b) :
    Calls Tryd.prog 38 #[.string ⟨s.toArray⟩] w (DigsOut w (Ten.numOf s)) := by
  have hsz : (⟨s.toArray⟩ : ByteArray).size = s.length := rfl
  have HSZ := Lib.hid hsz
  have HD := Lib.hid hd
  clear hsz hd
  go_enter Tryd.func38, Tryd.ntmps38
  go_wp2
  go_loop [3] (fun i => ∃ k : Nat, k < s.length ∧ i = .int .i64 (k : Int) ∧ Hid (SkipAt s k)) (fun i => s.length - (intOf i).toNat)
  case atStart => exact ⟨0, h0, rfl, Lib.hid (fun i hi h => absurd h (by omega))⟩
  case round =>
    obtain ⟨k, hk, rfl, H⟩ := hrel
    have PA := Lib.hid (fun (wx : World) => refParse_any (s.drop k) wx (by rw [List.length_drop]; omega))
    have SF := Lib.hid (str_from s k)
    have hfin : (k + 1 < s.length → s[k] ≠ 48) → ∀ e w2, NatTold (s.drop k) w e w2 → ∃ v, e = .returned (.tuple #[v, .bool true]) ∧ IsRes w2 v (Nt.digs (Ten.numOf s)) ∧ Below w.heap.size w w2 := by
      intro hn e w2 hnt
      obtain ⟨hv, he⟩ := H.out.done HD.out hk hn
      rw [← he]
      exact natTold_valid hnt hv
    have HF := Lib.hid hfin
    clear hfin
    by_cases hlt : k + 1 < s.length
    · obtain ⟨y, hy⟩ : ∃ y, y = s[k].toNat := ⟨_, rfl⟩
      have hgy : ((⟨s.toArray⟩ : ByteArray)[k]'(show k < (⟨s.toArray⟩ : ByteArray).size from hk)).toNat = y := hy.symm
      have HY := Lib.hid hy
      have h48 : Hid (s[k] = 48 ↔ y = 48) := Lib.hid (by
        rw [hy]
        constructor
        · intro h; rw [h]; rfl
        · intro h; exact UInt8.toNat_inj.1 (by rw [h]; rfl))
      clear hy
      by_cases h1 : y = 48
      · subst h1
        have HS := Lib.hid (H.out.step hk (h48.out.2 rfl))
        clear PA SF HF
        go_wp2
        go_round
        case rel => exact ⟨k + 1, hlt, by go_num, HS⟩
        case measure => simp [intOf]; omega
      · have hq : ((y : Int) == 48) = false := beq_eq_false_iff_ne.2 (by omega)
        have HF2 := Lib.hid (HF.out (fun _ h => h1 (h48.out.1 h)))
        clear HF
        go_wp2_with fail
        rw [SF.out]
        refine (PA.out _).mono ?_
        rintro e w2 hnt
        obtain ⟨v, rfl, hr, hb⟩ := HF2.out e w2 hnt
        have HR := Lib.hid hr
        clear hnt hr PA SF HF2
        go_wp2_with fail
        go_ret
        exact ⟨_, rfl, HR.out, hb⟩
    · have HF2 := Lib.hid (HF.out (fun h => absurd h hlt))
      clear HF
      go_wp2_with fail
      rw [SF.out]
      refine (PA.out _).mono ?_
      rintro e w2 hnt
      obtain ⟨v, rfl, hr, hb⟩ := HF2.out e w2 hnt
      have HR := Lib.hid hr
      clear hnt hr PA SF HF2
      go_wp2_with fail
      go_ret
      exact ⟨_, rfl, HR.out, hb⟩
end Go.Proofs.YtfiefglagknclaaDoor

/-
  A region that draws its order and whose calls make memory, but yield one value wherever they are made: one walk of the text's order serves.
  The class of worlds: those that are as w0 was below its heap's size. By the kit's wp_region_quiet (Derived/Deep/Quiet), at this class.
-/
namespace Go.Proofs.YtfiefglagknclaaDoor
open Go.RowKit
set_option linter.unusedVariables false

/-- A world that is as w0 was below the size of w0's heap. -/
structure Later (w0 : World) where
  w : World
  b : Below w0.heap.size w0 w
instance Later.nonempty (w0 : World) : Nonempty (Later w0) := ⟨⟨w0, Below.refl _ _⟩⟩
theorem wp_region_later (w0 : World) {P : Program} {id : Nat} {Q : Exit → Act → World → Prop} {a : Act} {w : World} {l : List Oper} (hm : P.follows .mixedOrders = true) (hB : Region.lexB .any l.toArray = true) (hC : Below w0.heap.size w0 w.drew)
    (h : wpQuiet P l.toArray (fun w' => ∃ x : Later w0, w' = x.w) (fun a' => ∀ w', (∃ x : Later w0, w' = x.w) → Q .normal a' w') l a) : (Code.region id l.toArray true).wp P Q a w :=
  wp_region_quiet (C := fun w' => ∃ x : Later w0, w' = x.w) hm hB ⟨⟨_, hC⟩, rfl⟩ (by simpa using h)
theorem Later.call {w0 : World} {P : Program} {f : FuncId} {args : Array Value} {x : Later w0} {v : Value}
    (h : Calls P f args x.w fun e w' => e = .returned v ∧ Below x.w.heap.size x.w w') : Calls P f args x.w fun e w'' => e = .returned v ∧ ∃ y : Later w0, w'' = y.w :=
  h.mono fun _ w' ⟨he, hb⟩ => ⟨he, ⟨w', x.b.trans (hb.mono x.b.size)⟩, rfl⟩
theorem Later.call_same {w0 : World} {P : Program} {f : FuncId} {args : Array Value} {x : Later w0} {v : Value}
    (h : Calls P f args x.w fun e w' => e = .returned v ∧ x.w = w') : Calls P f args x.w fun e w'' => e = .returned v ∧ ∃ y : Later w0, w'' = y.w :=
  h.mono fun _ w' ⟨he, hb⟩ => ⟨he, x, hb.symm⟩
/-- A whole variable is read, in a region that draws. -/
theorem wpQuiet_load_row {P : Program} {ops : Array Oper} {C : World → Prop} {Q : Act → Prop} {o : Oper} {rest : List Oper} {a : Act} (hw : Region.wanted o (yielded ops a.tmps) = true) (ty : TypeId) (x : Operand) (ho : o.op = .load ty x)
    (g : Nat) (hx : a.eval x = .pointer (some ⟨g, 0, none⟩)) (t : TypeId) (cs : Array Value) (fr : Nat × Nat) (d : TypeDesc) (hg : ∀ w, C w → w.heap[g]? = some (.cells cs t fr))
    (hu : P.underlying ty = some d) (hd : (match d with | .struct _ | .array _ _ => true | _ => false) = true) (hi : (P.info? ty).map (·.size) = some cs.size)
    (h : ∀ a', a' = a.put o.dst (.agg cs) → wpQuiet P ops C Q rest a') : wpQuiet P ops C Q (o :: rest) a := by
  replace h := h _ rfl
  rw [wpQuiet, if_pos hw]
  refine ⟨.agg cs, fun w hC => ?_, h⟩
  unfold Oper.quietAt execOp
  simp only [ho, hx, Instr.loadAt, Instr.sureAddr, Sem.run_bind, Sem.run_pure, Result.andThen_ok, run_loadVar_row w g t ty cs fr d (hg w hC) hu hd hi]
  exact ⟨rfl, rfl⟩
theorem Below.drew_self (w : World) : Below w.heap.size w w.drew := ⟨rfl, rfl, rfl, Nat.le_refl _, fun _ _ => rfl⟩
end Go.Proofs.YtfiefglagknclaaDoor

/-
  A region that draws its order, by an invariant on what has come up: each operation is looked at once, in whatever state it comes up.
-/
namespace Go.Proofs.YtfiefglagknclaaDoor
open Go.RowKit
set_option linter.unusedVariables false

section
variable {P : Program} {ops : Array Oper} {Q : Exit → Act → World → Prop} {md : Region.Mode}
theorem ready_mem {l : Array Bool} {i : Nat} (h : i ∈ Region.ready md ops l) : i < ops.size ∧ l.getD i true = false ∧ ((ops[i]?).map (·.after.all fun e => !Region.binds md e || l.getD e.on false)).getD false = true := by
  simp only [Region.ready, List.mem_filter, List.mem_range, Bool.and_eq_true, Bool.not_eq_true'] at h
  exact ⟨h.1, h.2.1, h.2.2⟩
theorem count_false_zero {l : Array Bool} (h : l.toList.count false = 0) (i : Nat) : l.getD i true = true := by
  rw [List.count_eq_zero] at h
  rw [Array.getD_eq_getD_getElem?]
  cases e : l[i]? with
  | none => rfl
  | some b =>
    cases b
    · exact absurd (by have := Array.mem_of_getElem? e; simpa using this) h
    · rfl
theorem count_set_true : ∀ (l : List Bool) (i : Nat), l[i]? = some false → (l.set i true).count false + 1 = l.count false
  | [], i, h => by simp at h
  | b :: r, 0, h => by
    simp at h; subst h; simp
  | b :: r, i + 1, h => by
    have := count_set_true r i (by simpa using h)
    cases b <;> simp <;> omega
theorem wpAny_inv (I : Array Bool → Act → World → Prop)
    (hI : ∀ l a w, I l a w → ∀ i, i ∈ Region.ready md ops l → wpOp P ops Q i (I (l.setIfInBounds i true)) a w)
    (hd : ∀ l a w, I l a w → Region.ready md ops l = [] → Q .normal a w) :
    ∀ n l a w, l.toList.count false ≤ n → I l a w → wpAny P md ops Q n l a w := by
  intro n
  induction n with
  | zero =>
    intro l a w hc h
    have hr : Region.ready md ops l = [] := by
      rw [List.eq_nil_iff_forall_not_mem]
      intro i hi
      have := (ready_mem hi).2.1
      rw [count_false_zero (by omega)] at this
      cases this
    exact ⟨hr, hd l a w h hr⟩
  | succ n ih =>
    intro l a w hc h
    refine ⟨hd l a w h, fun i hi => wpOp_mono (fun a' w' h' => ih _ a' w' ?_ h') (hI l a w h i hi)⟩
    have h1 := (ready_mem hi).2.1
    rw [Array.getD_eq_getD_getElem?] at h1
    have h2 : l.toList[i]? = some false := by
      cases e : l[i]? with
      | none => rw [e] at h1; cases h1
      | some b => rw [e] at h1; simp at h1; subst h1; simpa using e
    have h3 := count_set_true _ _ h2
    have h4 : (l.setIfInBounds i true).toList = l.toList.set i true := by simp
    rw [h4]; omega
theorem wpOp_at {i : Nat} {o : Oper} {K : Act → World → Prop} {a : Act} {w : World} (h : ops[i]? = some o) (hg : o.guard = none) (hw : o.wp P a w K Q) : wpOp P ops Q i K a w := by
  unfold wpOp; rw [h]
  have : Region.wanted o (yielded ops a.tmps) = true := by simp [Region.wanted, hg]
  simp only [this, if_true]
  exact .inl hw
end
end Go.Proofs.YtfiefglagknclaaDoor

/-
  A region that draws its order, and whose operations make memory but write none that was there: by a predicate for each operation's value, that stays in every later world.
-/
namespace Go.Proofs.YtfiefglagknclaaDoor
open Go.RowKit
set_option linter.unusedVariables false

/-- One value more. -/
def upd (xs : Nat → Value) (i : Nat) (v : Value) : Nat → Value := fun j => if j = i then v else xs j
section
variable {P : Program} {ops : Array Oper} {Q : Exit → Act → World → Prop} {md : Region.Mode}
/-- Does an operation wait for another one? -/
def depB (md : Region.Mode) (ops : Array Oper) (i j : Nat) : Bool := match ops[i]? with
  | some o => o.after.toList.any fun e => e.on == j && Region.binds md e
  | none => false
/-- The operation yields such a value, and makes memory at the most. -/
def Yields (frame : (Nat → Value) → Act) (R : Nat → World → Value → Prop) (xs : Nat → Value) (i : Nat) (w : World) (a' : Act) (w' : World) : Prop := ∃ v, a' = frame (upd xs i v) ∧ R i w' v ∧ Below w.heap.size w w'
theorem wpAny_pred (frame : (Nat → Value) → Act) (w0 : World) (R : Nat → World → Value → Prop)
    (hR : ∀ i w w' v, R i w v → Below w.heap.size w w' → R i w' v)
    (step : ∀ i xs w, i < ops.size → Below w0.heap.size w0 w → (∀ j, depB md ops i j = true → R j w (xs j)) → wpOp P ops Q i (Yields frame R xs i w) (frame xs) w)
    (done : ∀ xs w, Below w0.heap.size w0 w → (∀ i, i < ops.size → R i w (xs i)) → Q .normal (frame xs) w)
    (hops : ∀ i, i < ops.size → ∀ o, ops[i]? = some o → ∀ e ∈ o.after, e.on < i)
    (xs0 : Nat → Value) (w1 : World) (hw1 : Below w0.heap.size w0 w1) : wpAny P md ops Q ops.size (Array.replicate ops.size false) (frame xs0) w1 := by
  refine wpAny_inv (fun l a w => l.size = ops.size ∧ Below w0.heap.size w0 w ∧ ∃ xs, a = frame xs ∧ ∀ i, i < ops.size → l[i]? = some true → R i w (xs i)) ?_ ?_ ops.size _ _ _ (by simp) ⟨by simp, hw1, xs0, rfl, fun i hi h => by simp [hi] at h⟩
  · rintro l a w ⟨hl, hb, xs, rfl, hx⟩ i hi
    obtain ⟨h1, h2, h3⟩ := ready_mem hi
    have hli : l[i]? = some false := by
      rw [Array.getD_eq_getD_getElem?] at h2
      rw [Array.getElem?_eq_getElem (by omega)] at h2 ⊢
      simp at h2; rw [h2]
    refine wpOp_mono ?_ (step i xs w h1 hb ?_)
    · rintro a' w' ⟨v, rfl, hv, hb'⟩
      refine ⟨by simpa using hl, hb.trans (hb'.mono hb.size), upd xs i v, rfl, fun j hj hlj => ?_⟩
      by_cases e : j = i
      · subst e; simp only [upd, if_true]; exact hv
      · simp only [upd, if_neg e]
        rw [Array.getElem?_setIfInBounds_ne (fun h => e h.symm)] at hlj
        exact hR j w w' _ (hx j hj hlj) hb'
    · intro j hj
      obtain ⟨o, ho⟩ : ∃ o, ops[i]? = some o := ⟨_, Array.getElem?_eq_getElem h1⟩
      unfold depB at hj
      rw [ho] at hj
      simp only [List.any_eq_true, Bool.and_eq_true, beq_iff_eq] at hj
      obtain ⟨e, he', rfl, hbe⟩ := hj
      have he : e ∈ o.after := by simpa using he'
      have hlt := hops i h1 o ho e he
      rw [ho] at h3
      simp only [Option.map_some, Option.getD_some, Array.all_eq_true_iff_forall_mem] at h3
      have h4 := h3 e he
      rw [hbe] at h4
      simp only [Bool.not_true, Bool.false_or] at h4
      refine hx e.on (by omega) ?_
      rw [Array.getD_eq_getD_getElem?, Array.getElem?_eq_getElem (by omega)] at h4
      rw [Array.getElem?_eq_getElem (by omega)]
      simp at h4; rw [h4]
  · rintro l a w ⟨hl, hb, xs, rfl, hx⟩ hr
    refine done xs w hb ?_
    -- all are listed, by the order of the text
    have hall : ∀ n i, i < n → i < ops.size → l[i]? = some true := by
      intro n
      induction n with
      | zero => intro i h; omega
      | succ n ih =>
        intro i hi his
        by_cases e : i < n
        · exact ih i e his
        · have hie : i = n := by omega
          subst hie
          cases h : l[i]? with
          | none => rw [Array.getElem?_eq_none_iff] at h; omega
          | some b =>
            cases b
            · exfalso
              have : i ∈ Region.ready md ops l := by
                simp only [Region.ready, List.mem_filter, List.mem_range, Bool.and_eq_true, Bool.not_eq_true']
                refine ⟨his, by rw [Array.getD_eq_getD_getElem?, h]; rfl, ?_⟩
                rw [Array.getElem?_eq_getElem his]
                simp only [Option.map_some, Option.getD_some, Array.all_eq_true_iff_forall_mem]
                intro e he
                have hlt := hops i his _ (Array.getElem?_eq_getElem his) e he
                rw [Array.getD_eq_getD_getElem?, ih e.on hlt (by omega)]
                simp
              rw [hr] at this; cases this
            · rfl
    intro i hi
    exact hx i hi (hall (i + 1) i (by omega) hi)
theorem wp_region_pred (frame : (Nat → Value) → Act) (w0 : World) (R : Nat → World → Value → Prop) {id : Nat} {a : Act} {w : World} (hm : P.follows .mixedOrders = true)
    (hR : ∀ i w w' v, R i w v → Below w.heap.size w w' → R i w' v)
    (hops : ops.toList.zipIdx.all (fun p => p.1.after.all fun e => decide (e.on < p.2)) = true)
    (xs0 : Nat → Value) (ha : a = frame xs0) (hw : Below w0.heap.size w0 w)
    (step : ∀ i xs w, i < ops.size → Below w0.heap.size w0 w → (∀ j, depB .any ops i j = true → R j w (xs j)) → wpOp P ops Q i (Yields frame R xs i w) (frame xs) w)
    (done : ∀ xs w, Below w0.heap.size w0 w → (∀ i, i < ops.size → R i w (xs i)) → Q .normal (frame xs) w) : (Code.region id ops true).wp P Q a w := by
  subst ha
  refine wp_region_any hm (wpAny_pred frame w0 R hR step done ?_ xs0 _ ?_)
  · intro i hi o ho e he
    rw [List.all_eq_true] at hops
    have h := hops (o, i) (by
      rw [List.mem_zipIdx_iff_getElem?]
      simpa using ho)
    rw [Array.all_eq_true_iff_forall_mem] at h
    simpa using h e he
  · exact ⟨hw.os, hw.tape, hw.output, hw.size, hw.block⟩
theorem wpOp_on {i : Nat} {o : Oper} {K : Act → World → Prop} {a : Act} {w : World} (h : ops[i]? = some o) (hg : Region.wanted o (yielded ops a.tmps) = true) (hw : o.wp P a w K Q) : wpOp P ops Q i K a w := by
  unfold wpOp; rw [h]
  simp only [hg, if_true]
  exact .inl hw
theorem wpOp_off {i : Nat} {o : Oper} {K : Act → World → Prop} {a : Act} {w : World} (h : ops[i]? = some o) (hg : Region.wanted o (yielded ops a.tmps) = false) (hk : K (a.put o.dst undef) w) : wpOp P ops Q i K a w := by
  unfold wpOp; rw [h]
  simp only [hg]
  exact hk
end
end Go.Proofs.YtfiefglagknclaaDoor

/-
  As XRegPred, for a region whose last operation waits for all others (a store of what they made): the others by predicates, the last one by itself.
-/
namespace Go.Proofs.YtfiefglagknclaaDoor
open Go.RowKit
set_option linter.unusedVariables false

section
variable {P : Program} {ops : Array Oper} {Q : Exit → Act → World → Prop} {md : Region.Mode}
theorem depB_listed {l : Array Bool} {i j : Nat} (h : ((ops[i]?).map (·.after.all fun e => !Region.binds md e || l.getD e.on false)).getD false = true) (hj : depB md ops i j = true) : l.getD j false = true := by
  unfold depB at hj
  cases ho : ops[i]? with
  | none => rw [ho] at hj; cases hj
  | some o =>
    rw [ho] at hj h
    simp only [List.any_eq_true, Bool.and_eq_true, beq_iff_eq] at hj
    obtain ⟨e, he', rfl, hbe⟩ := hj
    have he : e ∈ o.after := by simpa using he'
    simp only [Option.map_some, Option.getD_some, Array.all_eq_true_iff_forall_mem] at h
    have h4 := h e he
    rw [hbe] at h4
    simpa using h4
theorem getD_true {l : Array Bool} {i : Nat} (h : l.getD i false = true) : l[i]? = some true := by
  rw [Array.getD_eq_getD_getElem?] at h
  cases e : l[i]? with
  | none => rw [e] at h; cases h
  | some b => rw [e] at h; simp at h; rw [h]
theorem wpAny_last (frame : (Nat → Value) → Act) (w0 : World) (R : Nat → World → Value → Prop) (n : Nat) (hn : ops.size = n + 1)
    (hR : ∀ i w w' v, R i w v → Below w.heap.size w w' → R i w' v)
    (step : ∀ i xs w, i < n → Below w0.heap.size w0 w → (∀ j, depB md ops i j = true → R j w (xs j)) → wpOp P ops Q i (Yields frame R xs i w) (frame xs) w)
    (last : ∀ xs w, Below w0.heap.size w0 w → (∀ i, i < n → R i w (xs i)) → wpOp P ops Q n (fun a' w' => Q .normal a' w') (frame xs) w)
    (hops : ∀ i, i < ops.size → ∀ j, depB md ops i j = true → j < i) (hlast : ∀ j, j < n → depB md ops n j = true)
    (xs0 : Nat → Value) (w1 : World) (hw1 : Below w0.heap.size w0 w1) : wpAny P md ops Q ops.size (Array.replicate ops.size false) (frame xs0) w1 := by
  refine wpAny_inv (fun l a w => l.size = ops.size ∧ ((l[n]? = some false ∧ Below w0.heap.size w0 w ∧ ∃ xs, a = frame xs ∧ ∀ i, i < n → l[i]? = some true → R i w (xs i)) ∨ (l[n]? = some true ∧ Q .normal a w ∧ ∀ i, i < n → l[i]? = some true))) ?_ ?_ ops.size _ _ _ (by simp) ⟨by simp, .inl ⟨by simp [hn], hw1, xs0, rfl, fun i hi h => by simp [show i < ops.size by omega] at h⟩⟩
  · rintro l a w ⟨hl, hc⟩ i hi
    obtain ⟨h1, h2, h3⟩ := ready_mem hi
    have hli : l[i]? = some false := by
      rw [Array.getD_eq_getD_getElem?] at h2
      rw [Array.getElem?_eq_getElem (by omega)] at h2 ⊢
      simp at h2; rw [h2]
    rcases hc with ⟨hln, hb, xs, rfl, hx⟩ | ⟨hln, hQ, hall⟩
    · by_cases e : i = n
      · subst e
        have hall : ∀ j, j < i → l[j]? = some true := fun j hj => getD_true (depB_listed h3 (hlast j hj))
        refine wpOp_mono ?_ (last xs w hb (fun j hj => hx j hj (hall j hj)))
        intro a' w' hq
        refine ⟨by simpa using hl, .inr ⟨?_, hq, fun j hj => ?_⟩⟩
        · rw [Array.getElem?_setIfInBounds_self_of_lt (by omega)]
        · rw [Array.getElem?_setIfInBounds_ne (by omega)]; exact hall j hj
      · refine wpOp_mono ?_ (step i xs w (by omega) hb (fun j hj => hx j (by have := hops i h1 j hj; omega) (getD_true (depB_listed h3 hj))))
        rintro a' w' ⟨v, rfl, hv, hb'⟩
        refine ⟨by simpa using hl, .inl ⟨by rw [Array.getElem?_setIfInBounds_ne e]; exact hln, hb.trans (hb'.mono hb.size), upd xs i v, rfl, fun j hj hlj => ?_⟩⟩
        by_cases e' : j = i
        · subst e'; simp only [upd, if_true]; exact hv
        · simp only [upd, if_neg e']
          rw [Array.getElem?_setIfInBounds_ne (fun h => e' h.symm)] at hlj
          exact hR j w w' _ (hx j hj hlj) hb'
    · exfalso
      by_cases e : i = n
      · subst e; rw [hli] at hln; cases hln
      · rw [hall i (by omega)] at hli; cases hli
  · rintro l a w ⟨hl, hc⟩ hr
    rcases hc with ⟨hln, hb, xs, rfl, hx⟩ | ⟨_, hQ, _⟩
    · exfalso
      have hall : ∀ m i, i < m → i < ops.size → l[i]? = some true := by
        intro m
        induction m with
        | zero => intro i h; omega
        | succ m ih =>
          intro i hi his
          by_cases e : i < m
          · exact ih i e his
          · have hie : i = m := by omega
            subst hie
            cases h : l[i]? with
            | none => rw [Array.getElem?_eq_none_iff] at h; omega
            | some b =>
              cases b
              · exfalso
                have : i ∈ Region.ready md ops l := by
                  simp only [Region.ready, List.mem_filter, List.mem_range, Bool.and_eq_true, Bool.not_eq_true']
                  refine ⟨his, by rw [Array.getD_eq_getD_getElem?, h]; rfl, ?_⟩
                  rw [Array.getElem?_eq_getElem his]
                  simp only [Option.map_some, Option.getD_some, Array.all_eq_true_iff_forall_mem]
                  intro e he
                  cases hbe : Region.binds md e
                  · rfl
                  · have hd : depB md ops i e.on = true := by
                      unfold depB
                      rw [Array.getElem?_eq_getElem his]
                      simp only [List.any_eq_true, Bool.and_eq_true, beq_iff_eq]
                      exact ⟨e, by simpa using he, rfl, hbe⟩
                    have hlt := hops i his e.on hd
                    rw [Array.getD_eq_getD_getElem?, ih e.on hlt (by omega)]
                    simp
                rw [hr] at this; cases this
              · rfl
      rw [hall (n + 1) n (by omega) (by omega)] at hln; cases hln
    · exact hQ
theorem wp_region_last (frame : (Nat → Value) → Act) (w0 : World) (R : Nat → World → Value → Prop) (n : Nat) {id : Nat} {a : Act} {w : World} (hm : P.follows .mixedOrders = true) (hn : ops.size = n + 1)
    (hR : ∀ i w w' v, R i w v → Below w.heap.size w w' → R i w' v)
    (hops : ops.toList.zipIdx.all (fun p => p.1.after.all fun e => decide (e.on < p.2)) = true) (hlast : (List.range n).all (fun j => depB .any ops n j) = true)
    (xs0 : Nat → Value) (ha : a = frame xs0) (hw : Below w0.heap.size w0 w)
    (step : ∀ i xs w, i < n → Below w0.heap.size w0 w → (∀ j, depB .any ops i j = true → R j w (xs j)) → wpOp P ops Q i (Yields frame R xs i w) (frame xs) w)
    (last : ∀ xs w, Below w0.heap.size w0 w → (∀ i, i < n → R i w (xs i)) → wpOp P ops Q n (fun a' w' => Q .normal a' w') (frame xs) w) : (Code.region id ops true).wp P Q a w := by
  subst ha
  refine wp_region_any hm (wpAny_last frame w0 R n hn hR step last ?_ ?_ xs0 _ ?_)
  · intro i hi j hj
    unfold depB at hj
    rw [Array.getElem?_eq_getElem hi] at hj
    simp only [List.any_eq_true, Bool.and_eq_true, beq_iff_eq] at hj
    obtain ⟨e, he, rfl, _⟩ := hj
    rw [List.all_eq_true] at hops
    have h := hops (ops[i], i) (by
      rw [List.mem_zipIdx_iff_getElem?]
      simp)
    rw [Array.all_eq_true_iff_forall_mem] at h
    simpa using h e (by simpa using he)
  · intro j hj
    rw [List.all_eq_true] at hlast
    exact hlast j (by simpa using hj)
  · exact ⟨hw.os, hw.tape, hw.output, hw.size, hw.block⟩
end
end Go.Proofs.YtfiefglagknclaaDoor

/-
  What scrimref02.Add, Sub, Bit and twice compute.
-/
namespace Go.Proofs.YtfiefglagknclaaDoor
open Go.RowKit
set_option maxHeartbeats 1000000
set_option maxRecDepth 100000
set_option linter.unusedVariables false

/-- The head of each: two numbers that came in. -/
theorem own_norm {w0 w : World} {v : Value} {ds : List Nat} (h : w.ownsRow w0.heap.size 70 1 v ds.length (U ds)) (ho : Nt.Ok ds) (hs : ds.length ≤ 17592186044416) (hb : Below w0.heap.size w0 w) :
    Calls Tryd.prog 71 #[v] w fun e w' => ∃ v', e = .returned v' ∧ IsRes w' v' (Nt.digs (Nt.val ds)) ∧ Below w0.heap.size w0 w' := by
  obtain ⟨A, c, rfl, h1, h2, h3, h4⟩ := IsRes.of_own h
  refine (refNorm_any A c w.heap.size ds w h4 (Nat.le_refl _) ho h1 h2 h3 hs).mono ?_
  rintro e w' ⟨v', rfl, hr, hb'⟩
  exact ⟨v', rfl, hr, hb.trans (hb'.mono hb.size)⟩

theorem refAdd_any (A A' : Option Addr) (c c' B : Nat) (a b : List Nat) (w : World) (hx : Lies w B A (U a)) (hy : Lies w B A' (U b)) (hB : B ≤ w.heap.size) (ha : Nt.Ok a) (hb : Nt.Ok b)
    (hc : a.length ≤ c) (hc' : b.length ≤ c') (hm : c ≤ 9223372036854775807) (hm' : c' ≤ 9223372036854775807) (hs : a.length ≤ 8796093022208) (hs' : b.length ≤ 8796093022208) :
    Calls Tryd.prog 73 #[.slice A a.length c, .slice A' b.length c'] w fun e w' => ∃ v, e = .returned v ∧ IsRes w' v (Nt.digs (Nt.val a + Nt.val b)) ∧ Below w.heap.size w w' := by
  obtain ⟨i0, hi, hz0, hz1, hz2⟩ := info_parts u32_info
  obtain ⟨n, hn⟩ : ∃ n, n = max a.length b.length := ⟨_, rfl⟩
  have hna : a.length ≤ n := by omega
  have hnb : b.length ≤ n := by omega
  have hnm : n ≤ 8796093022208 := by omega
  have HN := Lib.hid hn
  have LA := Lib.hid (fun (i : Nat) (wr : World) (hi : i ≤ 9223372036854775807) (h : Below w.heap.size w wr) => limb_any A c B a i wr (hx.below (h.mono hB)) hc hm hi ha)
  have LB := Lib.hid (fun (i : Nat) (wr : World) (hi : i ≤ 9223372036854775807) (h : Below w.heap.size w wr) => limb_any A' c' B b i wr (hy.below (h.mono hB)) hc' hm' hi hb)
  have GA := Lib.hid (fun k => Nt.getD_lt ha k)
  have GB := Lib.hid (fun k => Nt.getD_lt hb k)
  have EN := Lib.hid (fun cur c h => Nt.addUp_end (cur := cur) (n := n) (c := c) ha hb hna hnb h)
  clear hx hy ha hb hn
  go_enter Tryd.func73, Tryd.ntmps73
  go_wp2_with fail
  go_loopw [5, 6, 7] (fun v cv i wr => ∃ (k cy : Nat) (cur : List Nat), k ≤ n + 1 ∧ cy ≤ 1 ∧ i = .int .i64 (k : Int) ∧ cv = .int .u64 (cy : Int) ∧ wr.ownsRow w.heap.size 70 1 v k (U cur) ∧ Below w.heap.size w wr ∧ Hid (Nt.AddUp a b cur k cy)) (fun _ _ i _ => n + 1 - (intOf i).toNat)
  case atStart => exact ⟨0, 0, [], by omega, by omega, rfl, rfl, World.ownsRow_nil _ _ _ _, Below.refl _ _, Lib.hid (Nt.addUp_start a b)⟩
  case round =>
    obtain ⟨k, cy, cur, hk, hcy, rfl, rfl, hown, hbel, H⟩ := hrel
    have hsz := hbel.size
    by_cases hlt : k ≤ n
    · have CA := Lib.hid (LA.out k wr (by omega) hbel)
      have CB := Lib.hid (LB.out k wr (by omega) hbel)
      have ST := Lib.hid (Nt.addUp_step H.out)
      have hga := GA.out k
      have hgb := GB.out k
      generalize a.getD k 0 = x at CA ST hga
      generalize b.getD k 0 = y at CB ST hgb
      go_wp2_with fail
      refine (longer_any A A' a.length b.length c c' _ (by omega) (by omega)).mono ?_
      rintro e w' ⟨rfl, rfl⟩
      rw [← HN.out]
      go_wp2_with fail
      refine CA.out.mono ?_
      rintro e w' ⟨rfl, rfl⟩
      go_wp2_with fail
      refine CB.out.mono ?_
      rintro e w' ⟨rfl, rfl⟩
      go_wp2_with (at_builtin; refine wpList_append_own _ rfl _ _ 22 rfl w.heap.size 70 i0 (.int .u32 0) 1 4 Tryd.underlying22 hi hz0 hz1 hz2 rfl (by decide) _ _ _ rfl (hown.alloc _) ⟨_, 0, none⟩ 1 1 [.int .u32 (((x : Int) + (y : Int) + (cy : Int)) % 4294967296)] rfl rfl (cell_one_new _ _ _) (by intro u hu; simp only [List.mem_singleton] at hu; subst hu; rfl) (by unfold maxLen; omega) (by omega) (by simp; omega) ?_; intro v3 w3 hown3 hgrow3 hnn3)
      have hb3 : Below w.heap.size w w3 := (hbel.alloc hsz _).grown hgrow3 (by simp; omega) (fun k hk => (hown.lt k hk).1)
      go_roundw
      case rel =>
        refine ⟨k + 1, (x + y + cy) / 4294967296, cur ++ [(x + y + cy) % 4294967296], by omega, by omega, by go_num, congrArg (Value.int .u64) (by omega), ?_, hb3, Lib.hid ST.out⟩
        have e : U (cur ++ [(x + y + cy) % 4294967296]) = U cur ++ [.int .u32 (((x : Int) + (y : Int) + (cy : Int)) % 4294967296)] := by
          unfold U; rw [List.map_append]; congr 2
        rw [e]; exact hown3
      case measure => simp [intOf]; omega
    · obtain rfl : k = n + 1 := by omega
      have HV := Lib.hid (EN.out cur cy H.out)
      have HL := H.out.1
      have hO := H.out.2.1
      have hnorm := own_norm (w0 := w) (v := u5) (ds := cur) (by rw [HL]; exact hown) hO (by rw [HL]; omega) hbel
      rw [HV.out] at hnorm
      have HNM := Lib.hid hnorm
      clear hnorm HL hO
      go_wp2_with fail
      refine (longer_any A A' a.length b.length c c' _ (by omega) (by omega)).mono ?_
      rintro e w' ⟨rfl, rfl⟩
      rw [← HN.out]
      go_wp2_with fail
      refine HNM.out.mono ?_
      rintro e w' ⟨v', rfl, hr, hb'⟩
      go_wp2_with fail
      go_ret
      exact ⟨_, rfl, hr, hb'⟩
end Go.Proofs.YtfiefglagknclaaDoor

/-
  What scrimref02.Sub, Bit and twice compute.
-/
namespace Go.Proofs.YtfiefglagknclaaDoor
open Go.RowKit
set_option maxHeartbeats 1000000
set_option maxRecDepth 100000
set_option linter.unusedVariables false

theorem refSub_any (A A' : Option Addr) (c c' B : Nat) (a b : List Nat) (w : World) (hx : Lies w B A (U a)) (hy : Lies w B A' (U b)) (hB : B ≤ w.heap.size) (ha : Nt.Ok a) (hb : Nt.Ok b)
    (hc : a.length ≤ c) (hc' : b.length ≤ c') (hm : c ≤ 9223372036854775807) (hm' : c' ≤ 9223372036854775807) (hs : a.length ≤ 8796093022208) (hs' : b.length ≤ 8796093022208) :
    Calls Tryd.prog 90 #[.slice A a.length c, .slice A' b.length c'] w fun e w' => ∃ v, e = .returned (.tuple #[v, .bool (decide (Nt.val b ≤ Nt.val a))]) ∧ IsRes w' v (Nt.digs (Nt.val a - Nt.val b)) ∧ Below w.heap.size w w' := by
  obtain ⟨i0, hi, hz0, hz1, hz2⟩ := info_parts u32_info
  obtain ⟨n, hn⟩ : ∃ n, n = max a.length b.length := ⟨_, rfl⟩
  have hna : a.length ≤ n := by omega
  have hnb : b.length ≤ n := by omega
  have hnm : n ≤ 8796093022208 := by omega
  have HN := Lib.hid hn
  have CM := Lib.hid (refCmp_any A A' c c' B a b w hx hy ha hb hc hc' hm hm')
  have LA := Lib.hid (fun (i : Nat) (wr : World) (hi : i ≤ 9223372036854775807) (h : Below w.heap.size w wr) => limb_any A c B a i wr (hx.below (h.mono hB)) hc hm hi ha)
  have LB := Lib.hid (fun (i : Nat) (wr : World) (hi : i ≤ 9223372036854775807) (h : Below w.heap.size w wr) => limb_any A' c' B b i wr (hy.below (h.mono hB)) hc' hm' hi hb)
  have GA := Lib.hid (fun k => Nt.getD_lt ha k)
  have GB := Lib.hid (fun k => Nt.getD_lt hb k)
  clear hx hy ha hb hn
  by_cases hlt : Nt.val a < Nt.val b
  · have HE : Hid (Nt.cmp (Nt.val a) (Nt.val b) = -1) := Lib.hid (Nt.cmp_lt hlt)
    have HD : Hid (decide (Nt.val b ≤ Nt.val a) = false) := Lib.hid (by simp; omega)
    have HZ : Hid (Nt.digs (Nt.val a - Nt.val b) = []) := Lib.hid (by rw [show Nt.val a - Nt.val b = 0 by omega, Nt.digs_zero])
    go_enter Tryd.func90, Tryd.ntmps90
    go_wp2_with fail
    refine CM.out.mono ?_
    rintro e w' ⟨rfl, rfl⟩
    rw [HE.out]
    go_wp2_with fail
    go_ret2
    exact ⟨_, by rw [HD.out]; rfl, by rw [HZ.out]; exact IsRes.none_ _, Below.refl _ _⟩
  · have hle : Nt.val b ≤ Nt.val a := by omega
    have HD : Hid (decide (Nt.val b ≤ Nt.val a) = true) := Lib.hid (by simp; omega)
    have hcmp : decide (Nt.cmp (Nt.val a) (Nt.val b) < 0) = false := by rw [decide_eq_false_iff_not, Nt.cmp_neg]; omega
    have EN := Lib.hid (fun cur c h => Nt.subUp_end (cur := cur) (n := n) (c := c) hna hnb hle h)
    generalize Nt.cmp (Nt.val a) (Nt.val b) = cm at *
    generalize Nt.val a = x0 at *
    generalize Nt.val b = y0 at *
    go_enter Tryd.func90, Tryd.ntmps90
    go_wp2_with fail
    refine CM.out.mono ?_
    rintro e w' ⟨rfl, rfl⟩
    go_wp2_with fail
    go_loopw [6, 7, 8] (fun v cv i wr => ∃ (k cy : Nat) (cur : List Nat), k ≤ n ∧ cy ≤ 1 ∧ i = .int .i64 (k : Int) ∧ cv = .int .u64 (cy : Int) ∧ wr.ownsRow w.heap.size 70 1 v k (U cur) ∧ Below w.heap.size w wr ∧ Hid (Nt.SubUp a b cur k cy)) (fun _ _ i _ => n - (intOf i).toNat)
    case atStart => exact ⟨0, 0, [], by omega, by omega, rfl, rfl, World.ownsRow_nil _ _ _ _, Below.refl _ _, Lib.hid (Nt.subUp_start a b)⟩
    case round =>
      obtain ⟨k, cy, cur, hk, hcy, rfl, rfl, hown, hbel, H⟩ := hrel
      have hsz := hbel.size
      by_cases hlt : k < n
      · have CA := Lib.hid (LA.out k wr (by omega) hbel)
        have CB := Lib.hid (LB.out k wr (by omega) hbel)
        have ST := Lib.hid (fun s d hs e => Nt.subUp_step (s := s) (d := d) H.out hs e)
        have hga := GA.out k
        have hgb := GB.out k
        generalize a.getD k 0 = x at CA ST hga
        generalize b.getD k 0 = y at CB ST hgb
        go_wp2_with fail
        refine (longer_any A A' a.length b.length c c' _ (by omega) (by omega)).mono ?_
        rintro e w' ⟨rfl, rfl⟩
        rw [← HN.out]
        go_wp2_with fail
        refine CA.out.mono ?_
        rintro e w' ⟨rfl, rfl⟩
        go_wp2_with fail
        refine CB.out.mono ?_
        rintro e w' ⟨rfl, rfl⟩
        go_wp2_with (at_builtin; refine wpList_append_own _ rfl _ _ 22 rfl w.heap.size 70 i0 (.int .u32 0) 1 4 Tryd.underlying22 hi hz0 hz1 hz2 rfl (by decide) _ _ _ rfl (hown.alloc _) ⟨_, 0, none⟩ 1 1 [.int .u32 ((4294967296 + (x : Int) - (y : Int) - (cy : Int)) % 4294967296)] rfl rfl (cell_one_new _ _ _) (by intro u hu; simp only [List.mem_singleton] at hu; subst hu; rfl) (by unfold maxLen; omega) (by omega) (by simp; omega) ?_; intro v3 w3 hown3 hgrow3 hnn3)
        have hb3 : Below w.heap.size w w3 := (hbel.alloc hsz _).grown hgrow3 (by simp; omega) (fun k hk => (hown.lt k hk).1)
        go_roundw
        case rel =>
          refine ⟨k + 1, 1 - (4294967296 + x - y - cy) / 4294967296, cur ++ [(4294967296 + x - y - cy) % 4294967296], by omega, by omega, by go_num, congrArg (Value.int .u64) (by omega), ?_, hb3, Lib.hid (ST.out _ _ (by omega) (by omega))⟩
          have e : U (cur ++ [(4294967296 + x - y - cy) % 4294967296]) = U cur ++ [.int .u32 ((4294967296 + (x : Int) - (y : Int) - (cy : Int)) % 4294967296)] := by
            unfold U; rw [List.map_append]; congr 2
            simp only [List.map_cons, List.map_nil]
            congr 2
            omega
          rw [e]; exact hown3
        case measure => simp [intOf]; omega
      · obtain rfl : k = n := by omega
        have HV := Lib.hid (EN.out cur cy H.out)
        have HL := H.out.1
        have hO := H.out.2.1
        have hnorm := own_norm (w0 := w) (v := u6) (ds := cur) (by rw [HL]; exact hown) hO (by rw [HL]; omega) hbel
        rw [HV.out] at hnorm
        have HNM := Lib.hid hnorm
        clear hnorm HL hO
        go_wp2_with fail
        refine (longer_any A A' a.length b.length c c' _ (by omega) (by omega)).mono ?_
        rintro e w' ⟨rfl, rfl⟩
        rw [← HN.out]
        go_wp2_with fail
        refine HNM.out.mono ?_
        rintro e w' ⟨v', rfl, hr, hb'⟩
        go_wp2_with fail
        go_ret2
        exact ⟨_, by rw [HD.out]; rfl, hr, hb'⟩

theorem refBit_any (A : Option Addr) (c B : Nat) (a : List Nat) (i : Nat) (w : World) (hx : Lies w B A (U a)) (ha : Nt.Ok a) (hc : a.length ≤ c) (hm : c ≤ 9223372036854775807) (hi : i ≤ 9223372036854775807) :
    Calls Tryd.prog 75 #[.slice A a.length c, .int .i64 (i : Int)] w fun e w' => ∃ b : Nat, e = .returned (.int .u32 (b : Int)) ∧ b ≤ 1 ∧ Hid (b = Nt.val a / 2 ^ i % 2) ∧ w = w' := by
  have CA := Lib.hid (limb_any A c B a (i / 32) w hx hc hm (by omega) ha)
  have HB := Lib.hid (Nt.bit_limb ha i)
  have hg := Nt.getD_lt ha (i / 32)
  clear hx ha
  generalize a.getD (i / 32) 0 = x at CA HB hg
  go_enter Tryd.func75, Tryd.ntmps75
  go_wp2_with fail
  refine CA.out.mono ?_
  rintro e w' ⟨rfl, rfl⟩
  go_wp2_with fail
  go_loop [5, 6] (fun v j => ∃ k n : Nat, k ≤ i % 32 ∧ n < 4294967296 ∧ j = .int .i64 (k : Int) ∧ v = .int .u64 (n : Int) ∧ Hid (n = x / 2 ^ k)) (fun _ j => i % 32 - (intOf j).toNat)
  case atStart => exact ⟨0, x, Nat.zero_le _, hg, rfl, rfl, Lib.hid (by simp)⟩
  case round =>
    obtain ⟨k, n, hk, hn, rfl, rfl, H⟩ := hrel
    by_cases hlt : k < i % 32
    · go_wp2_with fail
      go_round
      case rel => exact ⟨k + 1, n / 2, by omega, by omega, by go_num, by go_num, Lib.hid (by rw [H.out, Nat.pow_succ, ← Nat.div_div_eq_div_mul])⟩
      case measure => simp [intOf]; omega
    · obtain rfl : k = i % 32 := by omega
      go_wp2_with fail
      go_ret
      exact ⟨n % 2, ret_int (by omega), by omega, Lib.hid (by rw [← HB.out, ← H.out]), rfl⟩

theorem twice_any (A : Option Addr) (c B : Nat) (a : List Nat) (bit : Nat) (w : World) (hx : Lies w B A (U a)) (hB : B ≤ w.heap.size) (ha : Nt.Ok a) (hc : a.length ≤ c) (hm : c ≤ 9223372036854775807) (hs : a.length ≤ 8796093022208) (hbit : bit ≤ 1) :
    Calls Tryd.prog 74 #[.slice A a.length c, .int .u32 (bit : Int)] w fun e w' => ∃ v, e = .returned v ∧ IsRes w' v (Nt.digs (2 * Nt.val a + bit)) ∧ Below w.heap.size w w' := by
  obtain ⟨i0, hi, hz0, hz1, hz2⟩ := info_parts u32_info
  have LA := Lib.hid (fun (i : Nat) (wr : World) (hi : i ≤ 9223372036854775807) (h : Below w.heap.size w wr) => limb_any A c B a i wr (hx.below (h.mono hB)) hc hm hi ha)
  have GA := Lib.hid (fun k => Nt.getD_lt ha k)
  have EN := Lib.hid (fun cur c h => Nt.twiceUp_end (cur := cur) (bit := bit) (c := c) ha hbit h)
  clear hx ha
  go_enter Tryd.func74, Tryd.ntmps74
  go_wp2_with fail
  go_loopw [5, 6, 7] (fun v cv i wr => ∃ (k cy : Nat) (cur : List Nat), k ≤ a.length + 1 ∧ cy ≤ 1 ∧ i = .int .i64 (k : Int) ∧ cv = .int .u64 (cy : Int) ∧ wr.ownsRow w.heap.size 70 1 v k (U cur) ∧ Below w.heap.size w wr ∧ Hid (Nt.TwiceUp a bit cur k cy)) (fun _ _ i _ => a.length + 1 - (intOf i).toNat)
  case atStart => exact ⟨0, bit, [], by omega, hbit, rfl, rfl, World.ownsRow_nil _ _ _ _, Below.refl _ _, Lib.hid (Nt.twiceUp_start a bit)⟩
  case round =>
    obtain ⟨k, cy, cur, hk, hcy, rfl, rfl, hown, hbel, H⟩ := hrel
    have hsz := hbel.size
    by_cases hlt : k ≤ a.length
    · have CA := Lib.hid (LA.out k wr (by omega) hbel)
      have ST := Lib.hid (Nt.twiceUp_step H.out)
      have hga := GA.out k
      generalize a.getD k 0 = x at CA ST hga
      go_wp2_with fail
      refine CA.out.mono ?_
      rintro e w' ⟨rfl, rfl⟩
      go_wp2_with (at_builtin; refine wpList_append_own _ rfl _ _ 22 rfl w.heap.size 70 i0 (.int .u32 0) 1 4 Tryd.underlying22 hi hz0 hz1 hz2 rfl (by decide) _ _ _ rfl (hown.alloc _) ⟨_, 0, none⟩ 1 1 [.int .u32 ((2 * (x : Int) + (cy : Int)) % 4294967296)] rfl rfl (cell_one_new _ _ _) (by intro u hu; simp only [List.mem_singleton] at hu; subst hu; rfl) (by unfold maxLen; omega) (by omega) (by simp; omega) ?_; intro v3 w3 hown3 hgrow3 hnn3)
      have hb3 : Below w.heap.size w w3 := (hbel.alloc hsz _).grown hgrow3 (by simp; omega) (fun k hk => (hown.lt k hk).1)
      go_roundw
      case rel =>
        refine ⟨k + 1, (2 * x + cy) / 4294967296, cur ++ [(2 * x + cy) % 4294967296], by omega, by omega, by go_num, congrArg (Value.int .u64) (by omega), ?_, hb3, Lib.hid ST.out⟩
        have e : U (cur ++ [(2 * x + cy) % 4294967296]) = U cur ++ [.int .u32 ((2 * (x : Int) + (cy : Int)) % 4294967296)] := by
          unfold U; rw [List.map_append]; congr 2
        rw [e]; exact hown3
      case measure => simp [intOf]; omega
    · obtain rfl : k = a.length + 1 := by omega
      have HV := Lib.hid (EN.out cur cy H.out)
      have HL := H.out.1
      have hO := H.out.2.1
      have hnorm := own_norm (w0 := w) (v := u5) (ds := cur) (by rw [HL]; exact hown) hO (by rw [HL]; omega) hbel
      rw [HV.out] at hnorm
      have HNM := Lib.hid hnorm
      clear hnorm HL hO
      go_wp2_with fail
      refine HNM.out.mono ?_
      rintro e w' ⟨v', rfl, hr, hb'⟩
      go_wp2_with fail
      go_ret
      exact ⟨_, rfl, hr, hb'⟩
end Go.Proofs.YtfiefglagknclaaDoor

/-
  What scrimref02.Mul and DivMod compute: the digits of the product; of the quotient and the rest.
-/
namespace Go.Proofs.YtfiefglagknclaaDoor
open Go.RowKit
set_option maxHeartbeats 1000000
set_option maxRecDepth 100000
set_option linter.unusedVariables false

/-- twice, of a number that a call handed back. -/
theorem twice_res {w0 w : World} {v : Value} {x : Nat} (h : IsRes w v (Nt.digs x)) (hb : Below w0.heap.size w0 w) (hs : (Nt.digs x).length ≤ 8796093022208) (bit : Nat) (hbit : bit ≤ 1) :
    Calls Tryd.prog 74 #[v, .int .u32 (bit : Int)] w fun e w' => ∃ v', e = .returned v' ∧ IsRes w' v' (Nt.digs (2 * x + bit)) ∧ Below w0.heap.size w0 w' ∧ Below w.heap.size w w' := by
  obtain ⟨A, c, rfl, h1, h2, h3, h4⟩ := h
  refine (twice_any A c w.heap.size (Nt.digs x) bit w h4 (Nat.le_refl _) (Nt.ok_digs x) h1 h2 hs hbit).mono ?_
  rintro e w' ⟨v', rfl, hr, hb'⟩
  rw [Nt.val_digs] at hr
  exact ⟨v', rfl, hr, hb.trans (hb'.mono hb.size), hb'⟩

theorem refMul_any (A A' : Option Addr) (c c' B : Nat) (a b : List Nat) (w : World) (hx : Lies w B A (U a)) (hy : Lies w B A' (U b)) (hB : B ≤ w.heap.size) (ha : Nt.Ok a) (hb : Nt.Ok b)
    (hc : a.length ≤ c) (hc' : b.length ≤ c') (hm : c ≤ 9223372036854775807) (hm' : c' ≤ 9223372036854775807) (hs : a.length ≤ 1000000) (hs' : b.length ≤ 1000000) :
    Calls Tryd.prog 40 #[.slice A a.length c, .slice A' b.length c'] w fun e w' => ∃ v, e = .returned v ∧ IsRes w' v (Nt.digs (Nt.val a * Nt.val b)) ∧ Below w.heap.size w w' := by
  have LN := Lib.hid (fun x h => Nt.len_mul ha hb (x := x) h)
  have BT := Lib.hid (fun (i : Nat) (wr : World) (hi : i ≤ 9223372036854775807) (h : Below w.heap.size w wr) => refBit_any A c B a i wr (hx.below (h.mono hB)) ha hc hm hi)
  have AD := Lib.hid (fun (x : Nat) (v : Value) (wr : World) (h : Below w.heap.size w wr) (hr : IsRes wr v (Nt.digs x)) (hl : (Nt.digs x).length ≤ 8796093022208) => show Calls Tryd.prog 73 #[v, .slice A' b.length c'] wr fun e w' => ∃ v', e = .returned v' ∧ IsRes w' v' (Nt.digs (x + Nt.val b)) ∧ Below w.heap.size w w' from by
    obtain ⟨A1, c1, rfl, h1, h2, h3, h4⟩ := hr
    have hyw := (hy.below (h.mono hB)).more (Nat.le_trans hB h.size)
    refine (refAdd_any A1 A' c1 c' wr.heap.size (Nt.digs x) b wr h4 hyw (Nat.le_refl _) (Nt.ok_digs x) hb h1 hc' h2 hm' hl (by omega)).mono ?_
    rintro e w' ⟨v', rfl, hr', hb'⟩
    rw [Nt.val_digs] at hr'
    exact ⟨v', rfl, hr', h.trans (hb'.mono h.size)⟩)
  have TZ := Lib.hid (Nt.top_zero ha)
  clear hx hy ha hb
  generalize Nt.val a = va at *
  generalize Nt.val b = vb at *
  go_enter Tryd.func40, Tryd.ntmps40
  go_wp2_with fail
  go_loopw [5, 6] (fun v i wr => ∃ (k x : Nat), k ≤ 32 * a.length ∧ i = .int .i64 ((k : Int) - 1) ∧ IsRes wr v (Nt.digs x) ∧ Below w.heap.size w wr ∧ Hid (x = va / 2 ^ k * vb)) (fun _ i _ => (intOf i + 1).toNat)
  case atStart => exact ⟨32 * a.length, 0, Nat.le_refl _, by go_num, by rw [Nt.digs_zero]; exact IsRes.none_ _, Below.refl _ _, Lib.hid (by rw [TZ.out, Nat.zero_mul])⟩
  case round =>
    obtain ⟨k, x, hk, rfl, hres, hbel, H⟩ := hrel
    rcases k with _ | k
    · have HE : Hid (va * vb = x) := Lib.hid (by have := H.out; rw [Nat.pow_zero, Nat.div_one] at this; exact this.symm)
      go_wp2_with fail
      go_ret
      exact ⟨_, rfl, by rw [HE.out]; exact hres, hbel⟩
    · have hk1 : ((k + 1 : Nat) : Int) - 1 = (k : Int) := by omega
      rw [hk1]
      clear hk1
      have h2x := Nt.mul_le2 H.out
      have L0 := LN.out x (by omega)
      have L1 := LN.out (2 * x + 0) (by omega)
      have MS := Lib.hid (fun bit hb => Nt.mul_step (bit := bit) H.out hb)
      have T0 := Lib.hid (twice_res hres hbel (by omega) 0 (by omega))
      clear hres
      go_wp2_with fail
      refine T0.out.mono ?_
      rintro e w1 ⟨v1, rfl, hr1, hb1, _⟩
      go_wp2_with fail
      refine (BT.out k w1 (by omega) hb1).mono ?_
      rintro e w' ⟨bit, rfl, hbit, HBIT, rfl⟩
      have HMS := Lib.hid (MS.out bit HBIT.out)
      by_cases hb0 : bit = 0
      · subst hb0
        go_wp2_with fail
        go_roundw
        case rel => exact ⟨k, 2 * x + 0, by omega, by go_num, hr1, hb1, Lib.hid (by have := HMS.out; rw [Nat.zero_mul] at this; exact this)⟩
        case measure => first | (simp [intOf]; done) | (simp [intOf]; omega)
      · obtain rfl : bit = 1 := by omega
        go_wp2_with fail
        refine (AD.out (2 * x + 0) v1 _ hb1 hr1 (by omega)).mono ?_
        rintro e w2 ⟨v2, rfl, hr2, hb2⟩
        go_wp2_with fail
        go_roundw
        case rel => exact ⟨k, 2 * x + 0 + vb, by omega, by go_num, hr2, hb2, Lib.hid (by have := HMS.out; rw [Nat.one_mul] at this; exact this)⟩
        case measure => first | (simp [intOf]; done) | (simp [intOf]; omega)

theorem refDivMod_any (A A' : Option Addr) (c c' B : Nat) (a b : List Nat) (w : World) (hx : Lies w B A (U a)) (hy : Lies w B A' (U b)) (hB : B ≤ w.heap.size) (ha : Nt.Ok a) (hb : Nt.Ok b)
    (hc : a.length ≤ c) (hc' : b.length ≤ c') (hm : c ≤ 9223372036854775807) (hm' : c' ≤ 9223372036854775807) (hA' : A' = none → c' = 0) (hs : a.length ≤ 1000000) (hs' : b.length ≤ 1000000) :
    Calls Tryd.prog 52 #[.slice A a.length c, .slice A' b.length c'] w fun e w' => ∃ v1 v2, e = .returned (.tuple #[v1, v2, .bool (decide (Nt.val b ≠ 0))]) ∧
      IsRes w' v1 (Nt.digs (Nt.quo (Nt.val a) (Nt.val b))) ∧ IsRes w' v2 (Nt.digs (Nt.rest (Nt.val a) (Nt.val b))) ∧ Below w.heap.size w w' := by
  have NB := Lib.hid (refNorm_any A' c' B b w hy hB hb hc' hm' hA' (by omega))
  have LN := Lib.hid (fun x h => Nt.len_le ha (x := x) h)
  have LB := Lib.hid (fun x h => Nt.len_le hb (x := x) h)
  have L2 := Lib.hid (fun (x : Nat) (h : x < 2 * Nt.val b) => show (Nt.digs x).length ≤ b.length + 1 from Nt.digs_len_lt (by
    have := Nt.val_lt hb
    rw [Nat.pow_succ]
    omega))
  have BT := Lib.hid (fun (i : Nat) (wr : World) (hi : i ≤ 9223372036854775807) (h : Below w.heap.size w wr) => refBit_any A c B a i wr (hx.below (h.mono hB)) ha hc hm hi)
  have SB := Lib.hid (fun (x : Nat) (v : Value) (wr : World) (h : Below w.heap.size w wr) (hr : IsRes wr v (Nt.digs x)) (hl : (Nt.digs x).length ≤ 8796093022208) => show Calls Tryd.prog 90 #[v, .slice A' b.length c'] wr fun e w' => ∃ v', e = .returned (.tuple #[v', .bool (decide (Nt.val b ≤ x))]) ∧ IsRes w' v' (Nt.digs (x - Nt.val b)) ∧ Below w.heap.size w w' ∧ Below wr.heap.size wr w' from by
    obtain ⟨A1, c1, rfl, h1, h2, h3, h4⟩ := hr
    have hyw := (hy.below (h.mono hB)).more (Nat.le_trans hB h.size)
    refine (refSub_any A1 A' c1 c' wr.heap.size (Nt.digs x) b wr h4 hyw (Nat.le_refl _) (Nt.ok_digs x) hb h1 hc' h2 hm' hl (by omega)).mono ?_
    rintro e w' ⟨v', rfl, hr', hb'⟩
    rw [Nt.val_digs] at hr' ⊢
    exact ⟨v', rfl, hr', h.trans (hb'.mono h.size), hb'⟩)
  have TZ := Lib.hid (Nt.top_zero ha)
  clear hx hy ha hb
  generalize Nt.val a = va at *
  generalize Nt.val b = vb at *
  by_cases h0 : vb = 0
  · subst h0
    have HZ : Hid ((Nt.digs 0).length = 0) := Lib.hid (by rw [Nt.digs_zero]; rfl)
    go_enter Tryd.func52, Tryd.ntmps52
    go_wp2_with fail
    refine NB.out.mono ?_
    rintro e w1 ⟨v1, rfl, ⟨A1, c1, rfl, h1, h2, h3, h4⟩, hb1⟩
    rw [HZ.out]
    go_wp2_with fail
    go_ret3
    refine ⟨_, _, rfl, ?_, ?_, hb1⟩
    · rw [Nt.quo_zero, Nt.digs_zero]; exact IsRes.none_ _
    · rw [Nt.rest_zero, Nt.digs_zero]; exact IsRes.none_ _
  · have hpos : 0 < vb := by omega
    have HP : Hid (decide (vb ≠ 0) = true) := Lib.hid (by simp; omega)
    have hlp : (Nt.digs vb).length ≠ 0 := fun h => h0 (Nt.digs_nil_iff.1 (List.eq_nil_of_length_eq_zero h))
    have hle : (((Nt.digs vb).length : Int) == 0) = false := by simp; intro h; exact hlp (by rw [h]; rfl)
    have HI1 : Hid (Nt.quo va vb = va / vb) := Lib.hid rfl
    have HI2 : Hid (Nt.rest va vb = va % vb) := Lib.hid (Nt.rest_pos h0)
    rw [HP.out]
    generalize Nt.quo va vb = Q at *
    generalize Nt.rest va vb = R at *
    clear h0 hlp
    go_enter Tryd.func52, Tryd.ntmps52
    go_wp2_with fail
    refine NB.out.mono ?_
    rintro e w1 ⟨v1, rfl, ⟨A1, c1, rfl, h1, h2, h3, h4⟩, hb1⟩
    clear h3 h4
    go_wp2_with fail
    go_loopw [7, 8, 9] (fun vq vr i wr => ∃ (k q r : Nat), k ≤ 32 * a.length ∧ i = .int .i64 ((k : Int) - 1) ∧ IsRes wr vq (Nt.digs q) ∧ IsRes wr vr (Nt.digs r) ∧ Below w.heap.size w wr ∧ Hid (q = va / 2 ^ k / vb ∧ r = va / 2 ^ k % vb)) (fun _ _ i _ => (intOf i + 1).toNat)
    case atStart => exact ⟨32 * a.length, 0, 0, Nat.le_refl _, by go_num, by rw [Nt.digs_zero]; exact IsRes.none_ _, by rw [Nt.digs_zero]; exact IsRes.none_ _, hb1, Lib.hid (by rw [TZ.out]; exact ⟨(Nat.zero_div _).symm, (Nat.zero_mod _).symm⟩)⟩
    case round =>
      obtain ⟨k, q, r, hk, rfl, hrq, hrr, hbel, H⟩ := hrel
      rcases k with _ | k
      · have HE : Hid (Q = q ∧ R = r) := Lib.hid (by
          have := H.out
          rw [Nat.pow_zero, Nat.div_one] at this
          rw [HI1.out, HI2.out, this.1, this.2]; exact ⟨rfl, rfl⟩)
        go_wp2_with fail
        go_ret3
        exact ⟨_, _, rfl, by rw [HE.out.1]; exact hrq, by rw [HE.out.2]; exact hrr, hbel⟩
      · have hk1 : ((k + 1 : Nat) : Int) - 1 = (k : Int) := by omega
        rw [hk1]
        clear hk1
        have hrb : r < vb := by rw [H.out.2]; exact Nat.mod_lt _ hpos
        have hqa : 2 * q + 1 ≤ 2 * va + 1 := by
          have : q ≤ va := by rw [H.out.1]; exact Nat.le_trans (Nat.div_le_self _ _) (Nat.div_le_self _ _)
          omega
        have Lr := LB.out r (by omega)
        have Lq := LN.out q (by omega)
        have DS := Lib.hid (fun bit hb => Nt.div_step (n := va / 2 ^ (k + 1)) (b := vb) (q := q) (r := r) (bit := bit) hpos H.out.1 H.out.2 hb)
        have HH := Lib.hid (Nt.half_step va k)
        go_wp2_with fail
        refine (BT.out k _ (by omega) hbel).mono ?_
        rintro e w' ⟨bit, rfl, hbit, HBIT, rfl⟩
        go_wp2_with fail
        refine (twice_res hrr hbel (by omega) bit hbit).mono ?_
        rintro e w2 ⟨v2, rfl, hr2, hb2, hbb2⟩
        have L2r := L2.out (2 * r + bit) (by omega)
        have hrq2 := hrq.below hbb2
        go_wp2_with fail
        refine (SB.out (2 * r + bit) v2 _ hb2 hr2 (by omega)).mono ?_
        rintro e w3 ⟨v3, rfl, hr3, hb3, hbb3⟩
        have hrq3 := hrq2.below hbb3
        have hr23 := hr2.below hbb3
        have HN : Hid (va / 2 ^ k = 2 * (va / 2 ^ (k + 1)) + bit) := Lib.hid (by rw [HBIT.out]; exact HH.out)
        by_cases hge : vb ≤ 2 * r + bit
        · have hD : decide (vb ≤ 2 * r + bit) = true := by simpa using hge
          have HDS := Lib.hid ((DS.out bit hbit).1 hge)
          rw [hD]
          clear hD
          go_wp2_with fail
          refine (twice_res hrq3 hb3 (by omega) 1 (by omega)).mono ?_
          rintro e w4 ⟨v4, rfl, hr4, hb4, hbb4⟩
          have hr34 := hr3.below hbb4
          go_wp2_with fail
          go_roundw
          case rel => exact ⟨k, 2 * q + 1, 2 * r + bit - vb, by omega, by go_num, hr4, hr34, hb4, Lib.hid (by rw [HN.out]; exact HDS.out)⟩
          case measure => first | (simp [intOf]; done) | (simp [intOf]; omega)
        · have hD : decide (vb ≤ 2 * r + bit) = false := by simpa using hge
          have HDS := Lib.hid ((DS.out bit hbit).2 hge)
          rw [hD]
          clear hD
          go_wp2_with fail
          refine (twice_res hrq3 hb3 (by omega) 0 (by omega)).mono ?_
          rintro e w4 ⟨v4, rfl, hr4, hb4, hbb4⟩
          have hr34 := hr23.below hbb4
          go_wp2_with fail
          go_roundw
          case rel => exact ⟨k, 2 * q + 0, 2 * r + bit, by omega, by go_num, hr4, hr34, hb4, Lib.hid (by rw [HN.out]; exact HDS.out)⟩
          case measure => first | (simp [intOf]; done) | (simp [intOf]; omega)
end Go.Proofs.YtfiefglagknclaaDoor

/-
  Numbers by the reference: scrimref02.Gcd of at most 64 limbs, scrimref03.Norm, scrimref04.Top, Bot.
-/
namespace Go.Proofs.YtfiefglagknclaaDoor
open Go.RowKit
set_option maxHeartbeats 2000000
set_option maxRecDepth 100000
set_option linter.unusedVariables false

section
variable {w0 w : World} {v1 v2 : Value} {l1 l2 : List Nat}
theorem rDivMod_res (h1 : IsRes w v1 l1) (h2 : IsRes w v2 l2) (o1 : Nt.Ok l1) (o2 : Nt.Ok l2) (s1 : l1.length ≤ 1000000) (s2 : l2.length ≤ 1000000) (hb : Below w0.heap.size w0 w) :
    Calls Tryd.prog 52 #[v1, v2] w fun e w' => ∃ u1 u2, e = .returned (.tuple #[u1, u2, .bool (decide (Nt.val l2 ≠ 0))]) ∧ IsRes w' u1 (Nt.digs (Nt.quo (Nt.val l1) (Nt.val l2))) ∧ IsRes w' u2 (Nt.digs (Nt.rest (Nt.val l1) (Nt.val l2))) ∧ Below w0.heap.size w0 w' ∧ Below w.heap.size w w' := by
  obtain ⟨A, c, rfl, a1, a2, a3, a4⟩ := h1
  obtain ⟨A', c', rfl, b1, b2, b3, b4⟩ := h2
  refine (refDivMod_any A A' c c' w.heap.size l1 l2 w a4 b4 (Nat.le_refl _) o1 o2 a1 b1 a2 b2 b3 s1 s2).mono ?_
  rintro e w' ⟨u1, u2, rfl, r1, r2, hb'⟩
  exact ⟨u1, u2, rfl, r1, r2, hb.trans (hb'.mono hb.size), hb'⟩
theorem rNorm_res (h1 : IsRes w v1 l1) (o1 : Nt.Ok l1) (s1 : l1.length ≤ 1000000) (hb : Below w0.heap.size w0 w) :
    Calls Tryd.prog 71 #[v1] w fun e w' => ∃ v, e = .returned v ∧ IsRes w' v (Nt.digs (Nt.val l1)) ∧ Below w0.heap.size w0 w' ∧ Below w.heap.size w w' := by
  obtain ⟨A, c, rfl, a1, a2, a3, a4⟩ := h1
  refine (refNorm_any A c w.heap.size l1 w a4 (Nat.le_refl _) o1 a1 a2 a3 (by omega)).mono ?_
  rintro e w' ⟨v, rfl, r, hb'⟩
  exact ⟨v, rfl, r, hb.trans (hb'.mono hb.size), hb'⟩
end

theorem refGcd64_any (va vb : Value) (a b : List Nat) (w : World) (hx : IsRes w va a) (hy : IsRes w vb b) (ha : Nt.Ok a) (hb : Nt.Ok b) (hs : a.length ≤ 64) (hs' : b.length ≤ 64) :
    Calls Tryd.prog 51 #[va, vb] w fun e w' => ∃ v, e = .returned v ∧ IsRes w' v (Nt.digs (Nat.gcd (Nt.val a) (Nt.val b))) ∧ Below w.heap.size w w' := by
  have hda := Nt.digs_len_le ha
  have hdb := Nt.digs_len_le hb
  have NA := Lib.hid (rNorm_res hx ha (by omega) (Below.refl _ _))
  have NB := Lib.hid (fun (wx : World) (h : Below w.heap.size w wx) => rNorm_res (hy.below h) hb (by omega) h)
  have EU := Lib.hid (Nt.euc_start ha hb hs hs')
  obtain ⟨N, hN⟩ : ∃ N, N = 32 * 64 + 32 * 64 + 1 := ⟨_, rfl⟩
  rw [← hN] at EU
  have HN : Hid (N < 100000) := Lib.hid (by omega)
  clear hN
  have hla : (Nt.digs (Nt.val a)).length ≤ 1000000 := by omega
  have hlb : (Nt.digs (Nt.val b)).length ≤ 1000000 := by omega
  clear hx hy ha hb hs hs' hda hdb
  obtain ⟨x0, hx0⟩ : ∃ x, x = Nt.val a := ⟨_, rfl⟩
  obtain ⟨y0, hy0⟩ : ∃ y, y = Nt.val b := ⟨_, rfl⟩
  rw [← hx0] at NA EU hla ⊢
  rw [← hy0] at NB EU hlb ⊢
  clear hx0 hy0
  go_enter Tryd.func51, Tryd.ntmps51
  go_wp2_with fail
  refine NA.out.mono ?_
  rintro e w1 ⟨v1, rfl, hr1, hb1, _⟩
  go_wp2_with fail
  refine (NB.out w1 hb1).mono ?_
  rintro e w2 ⟨v2, rfl, hr2, hb2, hb12⟩
  have hr1' := hr1.below hb12
  obtain ⟨A, c, rfl, a1, a2, a3, a4⟩ := hr1'
  obtain ⟨A', c', rfl, b1, b2, b3, b4⟩ := hr2
  have HR0 : Hid (IsRes w2 (.slice A (Nt.digs x0).length c) (Nt.digs x0) ∧ IsRes w2 (.slice A' (Nt.digs y0).length c') (Nt.digs y0)) := Lib.hid ⟨⟨_, _, rfl, a1, a2, a3, a4⟩, ⟨_, _, rfl, b1, b2, b3, b4⟩⟩
  clear hr1 hb1 hb12 a1 a2 a3 a4 b1 b2 b3 b4 NA NB
  go_wp2_with fail
  go_loopg [5, 6, 7] 100000 (fun gk av bv kv wr => ∃ (A A' : Option Addr) (c c' x y k : Nat), av = .slice A (Nt.digs x).length c ∧ bv = .slice A' (Nt.digs y).length c' ∧ kv = .int .i64 (k : Int) ∧ Hid (k + gk = 100000) ∧ Hid (Nt.EucAt (2 ^ N) x y k) ∧ Hid (IsRes wr (.slice A (Nt.digs x).length c) (Nt.digs x) ∧ IsRes wr (.slice A' (Nt.digs y).length c') (Nt.digs y)) ∧ (Nt.digs x).length ≤ 1000000 ∧ (Nt.digs y).length ≤ 1000000 ∧ Hid (Nat.gcd x y = Nat.gcd x0 y0) ∧ Below w.heap.size w wr)
  case atStart => exact ⟨_, _, _, _, x0, y0, 0, rfl, rfl, rfl, Lib.hid (by omega), EU, HR0, hla, hlb, Lib.hid rfl, hb2⟩
  case round =>
    clear EU HR0 hla hlb hb2
    obtain ⟨P, P', k1, k2, x, y, k, rfl, rfl, rfl, HK, EU, HR, hlx, hly, HG, hbel⟩ := hrel
    by_cases h0 : y = 0
    · subst h0
      have HZ : Hid ((Nt.digs 0).length = 0) := Lib.hid (by rw [Nt.digs_zero]; rfl)
      have HE : Hid (Nat.gcd x0 y0 = x) := Lib.hid (by rw [← HG.out, Nat.gcd_zero_right])
      have HRX := Lib.hid HR.out.1
      rw [HZ.out]
      clear HG HR
      rcases Bool.eq_false_or_eq_true (decide ((k : Int) < 100000)) with hk2 | hk2
      · go_wp2_with fail
        go_ret
        exact ⟨_, rfl, by rw [HE.out]; exact HRX.out, hbel⟩
      · go_wp2_with fail
        go_ret
        exact ⟨_, rfl, by rw [HE.out]; exact HRX.out, hbel⟩
    · have hlp : 0 < (Nt.digs y).length := by
        rcases Nat.eq_zero_or_pos (Nt.digs y).length with h | h
        · exact absurd (Nt.digs_nil_iff.1 (List.eq_nil_of_length_eq_zero h)) h0
        · exact h
      have HK2 : Hid (k < 100000) := Lib.hid (by
        rcases Nat.lt_or_ge k 100000 with h | h
        · exact h
        · exact absurd (EU.out.done (by have := HN.out; omega)) h0)
      have hk2 : decide ((k : Int) < 100000) = true := by have := HK2.out; simp; omega
      have hkb : k < 1000000000 := by have := HK2.out; omega
      have DM := Lib.hid (rDivMod_res (w0 := w) HR.out.1 HR.out.2 (Nt.ok_digs x) (Nt.ok_digs y) hlx hly hbel)
      rw [Nt.val_digs, Nt.val_digs, Nt.rest_pos h0] at DM
      have hyp : x % y < y := Nat.mod_lt _ (by omega)
      have hlr : (Nt.digs (x % y)).length ≤ 1000000 := by
        have h := Nt.digs_len_le_of (Nat.le_of_lt hyp)
        omega
      have HG2 : Hid (Nat.gcd y (x % y) = Nat.gcd x0 y0) := Lib.hid (by rw [Nt.gcd_step]; exact HG.out)
      have EU2 := Lib.hid (EU.out.step (by omega))
      have HRY := Lib.hid HR.out.2
      clear HR HG h0 EU
      obtain ⟨r, hr⟩ : ∃ r, r = x % y := ⟨_, rfl⟩
      rw [← hr] at DM hyp hlr HG2 EU2
      clear hr
      go_wp2_with fail
      refine DM.out.mono ?_
      rintro e w1 ⟨u1, u2, rfl, hr1, hr2, hb1, hb01⟩
      have hry := HRY.out.below hb01
      obtain ⟨A2, c2, rfl, q1, q2, q3, q4⟩ := hr2
      have hr2' : IsRes w1 (.slice A2 (Nt.digs r).length c2) (Nt.digs r) := ⟨A2, c2, rfl, q1, q2, q3, q4⟩
      clear q1 q2 q3 q4 hr1 hb01 HRY DM
      have HRN := Lib.hid (And.intro hry hr2')
      clear hry hr2'
      go_wp2_with fail
      go_roundg (gk - 1)
      case measure => have := HK2.out; have := HK.out; omega
      case rel => exact ⟨_, _, _, _, y, r, k + 1, rfl, rfl, by go_num, Lib.hid (by have := HK2.out; have := HK.out; omega), EU2, HRN, hly, hlr, HG2, hb1⟩


/-- Limbs, at most 64. -/
def ResL (w : World) (v : Value) (l : List Nat) : Prop := IsRes w v l ∧ Nt.Ok l ∧ l.length ≤ 64
theorem ResL.below {w w' : World} {v : Value} {l : List Nat} (h : ResL w v l) (hb : Below w.heap.size w w') : ResL w' v l := ⟨h.1.below hb, h.2⟩
/-- A row of limbs does not lie where no limbs lie. -/
theorem IsRes.setRow {w : World} {v : Value} {l : List Nat} {g : Nat} {old : Array Value} {t : TypeId} (h : IsRes w v l) (hg : w.heap[g]? = some (.cells old t (0, 0))) (ho : ∀ (i : Nat) (k : IntKind) (n : Int), old[i]? ≠ some (Value.int k n)) (cs : Array Value) : IsRes (w.setRow g cs) v l := by
  obtain ⟨A, c, h1, h2, h3, h4, h5⟩ := h
  refine ⟨A, c, h1, h2, h3, h4, ?_⟩
  rcases h5 with h5 | ⟨b, off, e, hb, hc⟩
  · exact .inl h5
  · cases l with
    | nil => exact .inl rfl
    | cons x r =>
      have hne : b ≠ g := by
        rintro rfl
        have h0 := hc 0 _ rfl
        rw [cell_of_row w b (off + 0) old t (0, 0) hg] at h0
        exact ho _ _ _ h0
      refine .inr ⟨b, off, e, by rw [size_setRow]; exact hb, fun i u hu => ?_⟩
      rw [World.cell?_of_block (w := w) (by simp only [World.setRow, Array.getElem?_modify]; rw [if_neg (by omega)])]
      exact hc i u hu
theorem ResL.setRow {w : World} {v : Value} {l : List Nat} {g : Nat} {old : Array Value} {t : TypeId} (h : ResL w v l) (hg : w.heap[g]? = some (.cells old t (0, 0))) (ho : ∀ (i : Nat) (k : IntKind) (n : Int), old[i]? ≠ some (Value.int k n)) (cs : Array Value) : ResL (w.setRow g cs) v l := ⟨h.1.setRow hg ho cs, h.2⟩
theorem two_no_int (n : Bool) (A : Option Addr) (k c : Nat) : ∀ (i : Nat) (kk : IntKind) (m : Int), (#[.bool n, .slice A k c] : Array Value)[i]? ≠ some (Value.int kk m) := by
  intro i kk m h
  match i with
  | 0 => cases h
  | 1 => cases h
  | i + 2 => simp at h
theorem three_no_int (n : Bool) (A : Option Addr) (k c : Nat) (A' : Option Addr) (k' c' : Nat) : ∀ (i : Nat) (kk : IntKind) (m : Int), (#[.bool n, .slice A k c, .slice A' k' c'] : Array Value)[i]? ≠ some (Value.int kk m) := by
  intro i kk m h
  match i with
  | 0 => cases h
  | 1 => cases h
  | 2 => cases h
  | i + 3 => simp at h
theorem int3_info : (Tryd.prog.info? 55).map (·.size) = some 2 := by kernel_rfl
theorem num_info : (Tryd.prog.info? 24).map (·.size) = some 3 := by kernel_rfl
theorem two_one (n : Bool) (A : Option Addr) (k c : Nat) : (#[.bool n, .slice A k c] : Array Value).all (·.oneCell') = true := by simp [Value.oneCell']
theorem three_one (n : Bool) (A : Option Addr) (k c : Nat) (A' : Option Addr) (k' c' : Nat) : (#[.bool n, .slice A k c, .slice A' k' c'] : Array Value).all (·.oneCell') = true := by simp [Value.oneCell']
theorem rBelow.setRow {B : Nat} {a w : World} (h : Below B a w) {g : Nat} (hg : B ≤ g) (cs : Array Value) : Below B a (w.setRow g cs) :=
  ⟨h.os, h.tape, h.output, by rw [size_setRow]; exact h.size, fun k hk => by
    have e : (w.setRow g cs).heap[k]? = w.heap[k]? := by
      simp only [World.setRow, Array.getElem?_modify]
      rw [if_neg (by omega)]
    rw [e]; exact h.block k hk⟩
theorem rheap_same {w : World} {g : Nat} {old cs : Array Value} {t : TypeId} (h : w.heap[g]? = some (.cells old t (0, 0))) : (w.setRow g cs).heap[g]? = some (.cells cs t (0, 0)) := by
  simp [World.setRow, Array.getElem?_modify, h]

/-- A whole number, made anew. -/
def Int3Out (w : World) (n : Bool) (l : List Nat) (e : Ending) (w' : World) : Prop := ∃ v, e = .returned (.agg #[.bool n, v]) ∧ ResL w' v l ∧ Below w.heap.size w w'

theorem norm3_any (n : Bool) (v : Value) (l : List Nat) (w : World) (h : ResL w v l) :
    Calls Tryd.prog 50 #[.agg #[.bool n, v]] w (Int3Out w (Rt.nrm n (Nt.val l)) (Nt.digs (Nt.val l))) := by
  obtain ⟨hr, ho, hl⟩ := h
  have hb0 : ∀ o1 o2, Below w.heap.size w ((w.alloc o1).alloc o2) := fun o1 o2 => ((Below.refl _ _).alloc (Nat.le_refl _) _).alloc (by simp) _
  have HN := Lib.hid (fun o1 o2 => rNorm_res (hr.below (hb0 o1 o2)) ho (by omega) (hb0 o1 o2))
  have hd := Nt.digs_len_le ho
  have HO : Hid (Nt.Ok (Nt.digs (Nt.val l)) ∧ (Nt.digs (Nt.val l)).length ≤ 64) := Lib.hid ⟨Nt.ok_digs _, by omega⟩
  have HZ : Hid ((Nt.digs (Nt.val l)).length = 0 → Nt.digs (Nt.val l) = [] ∧ Rt.nrm n (Nt.val l) = false) := Lib.hid (fun e => by
    have e1 := List.eq_nil_of_length_eq_zero e
    have e2 := Nt.digs_nil_iff.1 e1
    exact ⟨e1, by rw [e2]; simp [Rt.nrm]⟩)
  have HY : Hid ((Nt.digs (Nt.val l)).length ≠ 0 → Rt.nrm n (Nt.val l) = n) := Lib.hid (fun e => by
    have e2 : Nt.val l ≠ 0 := fun e3 => e (by rw [e3, Nt.digs_zero]; rfl)
    have e3 : (Nt.val l == 0) = false := by simpa using e2
    simp [Rt.nrm, e3])
  have HB := Lib.hid hb0
  obtain ⟨A, c, rfl, -, -, -, -⟩ := hr
  clear ho hl hd hb0
  generalize Nt.digs (Nt.val l) = d at *
  generalize Rt.nrm n (Nt.val l) = N at *
  generalize l.length = ll at *
  have HI2 : Hid (∀ (b : Bool) (A : Option Addr) (k c : Nat), (Tryd.prog.info? 55).map (·.size) = some (#[.bool b, .slice A k c] : Array Value).size) := Lib.hid (fun _ _ _ _ => int3_info)
  go_enter Tryd.func50, Tryd.ntmps50
  go_wp2_with fail
  refine (HN.out _ _).mono ?_
  rintro e w2 ⟨v2, rfl, hr2, hb2, hb3⟩
  have hs2 := hb3.size
  have HG1 : Hid (w2.heap[w.heap.size + 1]? = some (.cells #[.bool false, .slice none 0 0] 55 (0, 0))) := Lib.hid ((hb3.block (w.heap.size + 1) (by simp)).trans (by
    have := heap_alloc_new (w.alloc (.cells #[.bool n, .slice A ll c] 55)) (.cells #[.bool false, .slice none 0 0] 55)
    rwa [show (w.alloc (.cells #[.bool n, .slice A ll c] 55)).heap.size = w.heap.size + 1 by simp] at this))
  have q0 : w2.cell? ⟨w.heap.size, 0, none⟩ = some (.bool n) := (hb3.cell (p := ⟨w.heap.size, 0, none⟩) (by show w.heap.size < _; simp; omega)).trans (by go_simp)
  obtain ⟨A2, c2, rfl, k1, k2, k3, k4⟩ := hr2
  have HR2 : Hid (IsRes w2 (.slice A2 d.length c2) d) := Lib.hid ⟨A2, c2, rfl, k1, k2, k3, k4⟩
  clear k3 k4 hb3
  by_cases h0 : d.length = 0
  · have hz : ((d.length : Int) == 0) = true := by rw [h0]; rfl
    have HD := Lib.hid (HZ.out h0)
    clear h0
    go_wp2_with (first
      | (with_reducible refine wpList_store_row rfl 55 (.tmp 2) (.tmp 10) rfl (w.heap.size + 1) #[.bool false, .slice none 0 0] rfl rfl 55 #[.bool false, .slice none 0 0] HG1.out (HI2.out _ _ _ _) rfl (two_one _ _ _ _) ?_))
    refine bodyPost_ret (results_cell_row (by rfl) _ _ (w.heap.size + 1) 55 #[.bool false, .slice none 0 0] (0, 0) _ (by rfl) (rheap_same HG1.out) Tryd.underlying55 rfl (HI2.out _ _ _ _)) rfl ⟨.slice none 0 0, by rw [HD.out.2], by rw [HD.out.1]; exact ⟨⟨none, 0, rfl, Nat.le_refl _, by omega, fun _ => rfl, .inl rfl⟩, (fun x h => by cases h), by simp⟩, rBelow.setRow hb2 (by omega) _⟩
  · have hz : ((d.length : Int) == 0) = false := beq_eq_false_iff_ne.2 (by omega)
    have HD := Lib.hid (HY.out h0)
    clear h0
    go_wp2_with (first
      | (with_reducible refine wpList_store_row rfl 55 (.tmp 2) (.tmp 14) rfl (w.heap.size + 1) #[.bool n, .slice A2 d.length c2] rfl rfl 55 #[.bool false, .slice none 0 0] HG1.out (HI2.out _ _ _ _) rfl (two_one _ _ _ _) ?_))
    refine bodyPost_ret (results_cell_row (by rfl) _ _ (w.heap.size + 1) 55 #[.bool n, .slice A2 d.length c2] (0, 0) _ (by rfl) (rheap_same HG1.out) Tryd.underlying55 rfl (HI2.out _ _ _ _)) rfl ⟨.slice A2 d.length c2, by rw [HD.out], ⟨HR2.out.setRow HG1.out (two_no_int _ _ _ _) _, HO.out⟩, rBelow.setRow hb2 (by omega) _⟩
end Go.Proofs.YtfiefglagknclaaDoor

/-
  Whole numbers and ratios of the program: ratio.isOne, whole.signed, whole.Norm, ratio.top, ratio.Int. (Printed by wip/bin/gen_dig1.py.)
-/
namespace Go.Proofs.YtfiefglagknclaaDoor
open Go.RowKit
set_option maxHeartbeats 4000000
set_option maxRecDepth 100000
set_option linter.unusedVariables false

theorem isOne_any (v : Value) (l : List Nat) (w : World) (h : IsRes w v l) :
    Calls Tryd.prog 59 #[v] w fun e w' => e = .returned (.bool (l == [1])) ∧ w = w' := by
  obtain ⟨A, c, rfl, h1, h2, h3, h4⟩ := h
  by_cases hl : l.length = 1
  · obtain ⟨x, rfl⟩ : ∃ x, l = [x] := by
      match l, hl with
      | [x], _ => exact ⟨x, rfl⟩
    obtain ⟨b, off, rfl, hb, g0⟩ := h4.at_ (k := 0) (by simp [U])
    have g1 : w.cell? ⟨b, off, none⟩ = some (.int .u32 (x : Int)) := by simpa [U] using g0
    have HQ : Hid (([x] == [1]) = (x == 1)) := Lib.hid (by simp [List.cons_beq_cons])
    have hlen : ([x] : List Nat).length = 1 := rfl
    clear g0 h4 h3 hl hlen
    by_cases hx : x = 1
    · subst hx
      go_enter Tryd.func59, Tryd.ntmps59
      go_wp2_with fail
      go_ret
      exact ⟨ret_bool (by rw [HQ.out]; rfl), rfl⟩
    · have q : ((x : Int) == 1) = false := beq_eq_false_iff_ne.2 (by omega)
      have HQ2 : Hid ((x == 1) = false) := Lib.hid (beq_eq_false_iff_ne.2 hx)
      clear hx
      go_enter Tryd.func59, Tryd.ntmps59
      go_wp2_with fail
      go_ret
      exact ⟨ret_bool (by rw [HQ.out, HQ2.out]), rfl⟩
  · have q : ((l.length : Int) == 1) = false := beq_eq_false_iff_ne.2 (by omega)
    have HQ : Hid ((l == [1]) = false) := Lib.hid (by
      rw [beq_eq_false_iff_ne]; rintro rfl; exact hl rfl)
    clear hl h4
    generalize l.length = n at *
    go_enter Tryd.func59, Tryd.ntmps59
    go_wp2_with fail
    go_ret
    exact ⟨ret_bool (by rw [HQ.out]), rfl⟩

/-- A whole number, made anew. -/
def WholeOut (w : World) (n : Bool) (l : List Nat) (e : Ending) (w' : World) : Prop := ∃ v, e = .returned (.agg #[.bool n, v]) ∧ IsRes w' v l ∧ Below w.heap.size w w'
theorem whole2_info : (Tryd.prog.info? 58).map (·.size) = some 2 := by kernel_rfl

theorem signed_any (n : Bool) (v : Value) (l : List Nat) (w : World) (h : IsRes w v l) :
    Calls Tryd.prog 93 #[.bool n, v] w (WholeOut w (n && !(l == [])) l) := by
  have HR := Lib.hid h
  obtain ⟨A, c, rfl, h1, h2, h3, h4⟩ := h
  have HI2 : Hid (∀ (b : Bool) (A : Option Addr) (k c : Nat), (Tryd.prog.info? 58).map (·.size) = some (#[.bool b, .slice A k c] : Array Value).size) := Lib.hid (fun _ _ _ _ => whole2_info)
  have HG1 : Hid (∀ o, (w.alloc o).heap[w.heap.size]? = some o) := Lib.hid (fun o => heap_alloc_new w o)
  have hb : ∀ o, Below w.heap.size w (w.alloc o) := fun o => (Below.refl _ _).alloc (Nat.le_refl _) _
  have HB := Lib.hid hb
  clear h3 h4 hb
  by_cases hl : l.length = 0
  · have q : ((l.length : Int) == 0) = true := beq_iff_eq.2 (by omega)
    have HL : Hid (l = []) := Lib.hid (List.eq_nil_of_length_eq_zero hl)
    clear hl
    go_enter Tryd.func93, Tryd.ntmps93
    go_wp2_with (with_reducible refine wpList_store_row rfl 58 (.tmp 4) (.tmp 8) rfl w.heap.size #[.bool false, .slice none 0 0] rfl rfl 58 #[.bool false, .slice none 0 0] (HG1.out _) (HI2.out _ _ _ _) rfl (two_one _ _ _ _) ?_)
    refine bodyPost_ret (results_cell_row (by rfl) _ _ w.heap.size 58 #[.bool false, .slice none 0 0] (0, 0) _ (by rfl) (rheap_same (HG1.out _)) Tryd.underlying58 rfl (HI2.out _ _ _ _)) rfl ⟨.slice none 0 0, by rw [HL.out]; simp, by rw [HL.out]; exact IsRes.none_ _, rBelow.setRow (HB.out _) (Nat.le_refl _) _⟩
  · have q : ((l.length : Int) == 0) = false := beq_eq_false_iff_ne.2 (by omega)
    have HL : Hid ((l == []) = false) := Lib.hid (by rw [beq_eq_false_iff_ne]; rintro rfl; exact hl rfl)
    clear hl
    go_enter Tryd.func93, Tryd.ntmps93
    go_wp2_with (with_reducible refine wpList_store_row rfl 58 (.tmp 4) (.tmp 11) rfl w.heap.size #[.bool n, .slice A l.length c] rfl rfl 58 #[.bool false, .slice none 0 0] (HG1.out _) (HI2.out _ _ _ _) rfl (two_one _ _ _ _) ?_)
    refine bodyPost_ret (results_cell_row (by rfl) _ _ w.heap.size 58 #[.bool n, .slice A l.length c] (0, 0) _ (by rfl) (rheap_same (HG1.out _)) Tryd.underlying58 rfl (HI2.out _ _ _ _)) rfl ⟨.slice A l.length c, by rw [HL.out]; simp, (HR.out.below (HB.out _)).setRow (HG1.out _) (two_no_int _ _ _ _) _, rBelow.setRow (HB.out _) (Nat.le_refl _) _⟩
end Go.Proofs.YtfiefglagknclaaDoor

/-
  Whole numbers and ratios of the program: whole.Norm, ratio.top, ratio.Int. (Printed by wip/bin/gen_dig2.py.)
-/
namespace Go.Proofs.YtfiefglagknclaaDoor
open Go.RowKit
set_option maxHeartbeats 4000000
set_option maxRecDepth 100000
set_option linter.unusedVariables false

theorem nrm_digs (n : Bool) (x : Nat) : (n && !(Nt.digs x == [])) = Rt.nrm n x := by
  unfold Rt.nrm
  congr 2
  rw [Bool.eq_iff_iff]
  simp only [beq_iff_eq]
  exact Nt.digs_nil_iff
theorem wNorm_res {w : World} {v : Value} {l : List Nat} (h1 : IsRes w v l) (o1 : Nt.Ok l) (s1 : l.length ≤ 1000000) :
    Calls Tryd.prog 53 #[v] w fun e w' => ∃ v, e = .returned v ∧ IsRes w' v (Nt.digs (Nt.val l)) ∧ Below w.heap.size w w' := by
  obtain ⟨A, c, rfl, a1, a2, a3, a4⟩ := h1
  have hd := Nt.digs_len_le o1
  refine (norm_any A c w.heap.size l w a4 (Nat.le_refl _) o1 a1 a2 (by omega)).mono ?_
  rintro e w' ⟨rfl, r, hb'⟩
  exact ⟨_, rfl, ⟨_, _, rfl, Nat.le_refl _, by omega, (fun h => by cases h), r.lies⟩, hb'⟩
def frameWN (g : Nat) (n : Bool) (V : Value) (xs : Nat → Value) : Act := { tmps := #[.agg #[.bool n, V], .pointer (some ⟨g, 0, none⟩), .pointer (some ⟨g + 1, 0, none⟩), xs 0, xs 1, xs 2, xs 3, xs 4, xs 5], defers := [] }
def predWN (g : Nat) (n : Bool) (V : Value) (l : List Nat) : Nat → World → Value → Prop
  | 0, w, v => v = .pointer (some ⟨g, 0, none⟩)
  | 1, w, v => v = .bool n
  | 2, w, v => v = .pointer (some ⟨g, 1, none⟩)
  | 3, w, v => v = V
  | 4, w, v => IsRes w v (Nt.digs (Nt.val l))
  | _, w, v => ∃ u, v = .agg #[.bool (Rt.nrm n (Nt.val l)), u] ∧ IsRes w u (Nt.digs (Nt.val l))

theorem wholeNorm_any (n : Bool) (v : Value) (l : List Nat) (w : World) (h : IsRes w v l) (ho : Nt.Ok l) (hs : l.length ≤ 1000000) :
    Calls Tryd.prog 60 #[.agg #[.bool n, v]] w (WholeOut w (Rt.nrm n (Nt.val l)) (Nt.digs (Nt.val l))) := by
  obtain ⟨g, hg⟩ : ∃ g, g = w.heap.size := ⟨_, rfl⟩
  obtain ⟨W, hW⟩ : ∃ W, W = (w.alloc (.cells #[.bool n, v] 58)).alloc (.cells #[.bool false, .slice none 0 0] 58) := ⟨_, rfl⟩
  have hWs : W.heap.size = g + 1 + 1 := by rw [hW, hg]; simp
  have hWb : Below g w W := by rw [hW, hg]; exact ((Below.refl _ _).alloc (Nat.le_refl _) _).alloc (by simp) _
  have hW0 : W.heap[g]? = some (.cells #[.bool n, v] 58 (0, 0)) := by rw [hW, hg]; exact heap_alloc2_old _ _ _
  have HW1 : Hid (W.heap[g + 1]? = some (.cells #[.bool false, .slice none 0 0] 58 (0, 0))) := Lib.hid (by rw [hW, hg]; exact heap_alloc2_new _ _ _)
  have HQ : Hid (∀ wx, Below W.heap.size W wx → wx.cell? ⟨g, 0, none⟩ = some (.bool n) ∧ wx.cell? ⟨g, 1, none⟩ = some v) := Lib.hid (fun wx hx => by
    have hb := (hx.block g (by omega)).trans hW0
    exact ⟨(cell_of_row wx g 0 _ _ _ hb).trans rfl, (cell_of_row wx g 1 _ _ _ hb).trans rfl⟩)
  have hrb : ∀ wx, Below W.heap.size W wx → IsRes wx v l := fun wx hx => (h.below (by rw [← hg]; exact hWb)).below hx
  have NN := Lib.hid (fun (wx : World) (hx : Below W.heap.size W wx) => wNorm_res (hrb wx hx) ho hs)
  have SG : Hid (∀ (wx : World) (u : Value), IsRes wx u (Nt.digs (Nt.val l)) → Calls Tryd.prog 93 #[.bool n, u] wx (WholeOut wx (Rt.nrm n (Nt.val l)) (Nt.digs (Nt.val l)))) := Lib.hid (fun wx u hu => by
    have := signed_any n u _ wx hu
    rwa [nrm_digs] at this)
  have HI2 : Hid (∀ (b : Bool) (A : Option Addr) (k c : Nat), (Tryd.prog.info? 58).map (·.size) = some (#[.bool b, .slice A k c] : Array Value).size) := Lib.hid (fun _ _ _ _ => whole2_info)
  have HW := Lib.hid hW
  have HG := Lib.hid hg
  have hgl : g + 1 < W.heap.size := by omega
  obtain ⟨A, c, rfl, -⟩ := h
  clear hW hW0 hrb hWs
  go_enter Tryd.func60, Tryd.ntmps60
  go_wp2_with fail
  rw [← HW.out, ← hg]
  clear hg
  refine wp_region_last (frameWN g n (.slice A l.length c)) W (predWN g n (.slice A l.length c) l) 6 (by kernel_rfl) (by rfl) ?_ (by kernel_rfl) (by kernel_rfl) (fun _ => undef) rfl (Below.refl _ _) ?_ ?_
  · intro i w1 w2 v hv hb
    match i with
    | 0 => exact hv
    | 1 => exact hv
    | 2 => exact hv
    | 3 => exact hv
    | 4 => exact hv.below hb
    | i + 5 => exact (by obtain ⟨u, e, r⟩ := hv; exact ⟨u, e, r.below hb⟩)
  · intro i xs w1 hi hb hdep
    have hi6 : i < 6 := hi
    clear hi
    rcases (show i = 0 ∨ i = 1 ∨ i = 2 ∨ i = 3 ∨ i = 4 ∨ i = 5 by omega) with rfl | rfl | rfl | rfl | rfl | rfl
    · refine wpOp_at rfl rfl ?_
      unfold frameWN Oper.wp
      go_simp
      exact ⟨_, by simp only [frameWN, upd]; simp [Act.put], rfl, Below.refl _ _⟩
    · have h0 : xs 0 = .pointer (some ⟨g, 0, none⟩) := hdep 0 (by kernel_rfl)
      refine wpOp_at rfl rfl ?_
      have q := (HQ.out w1 hb).1
      unfold frameWN Oper.wp
      simp only [h0]
      go_simp
      exact ⟨_, by simp only [frameWN, upd]; simp [Act.put, h0], rfl, Below.refl _ _⟩
    · refine wpOp_at rfl rfl ?_
      unfold frameWN Oper.wp
      go_simp
      exact ⟨_, by simp only [frameWN, upd]; simp [Act.put], rfl, Below.refl _ _⟩
    · have h2 : xs 2 = .pointer (some ⟨g, 1, none⟩) := hdep 2 (by kernel_rfl)
      refine wpOp_at rfl rfl ?_
      have q := (HQ.out w1 hb).2
      unfold frameWN Oper.wp
      simp only [h2]
      go_simp
      exact ⟨_, by simp only [frameWN, upd]; simp [Act.put, h2], rfl, Below.refl _ _⟩
    · have h3 : xs 3 = (.slice A l.length c) := hdep 3 (by kernel_rfl)
      refine wpOp_at rfl rfl ?_
      unfold frameWN Oper.wp
      simp only [h3]
      go_simp
      refine (NN.out w1 hb).mono ?_
      rintro e w2 ⟨v', rfl, hr, hb2⟩
      exact ⟨_, by simp only [frameWN, upd]; simp [Act.put, h3], hr, hb2⟩
    · have h1 : xs 1 = .bool n := hdep 1 (by kernel_rfl)
      have r4 : IsRes w1 (xs 4) (Nt.digs (Nt.val l)) := hdep 4 (by kernel_rfl)
      refine wpOp_at rfl rfl ?_
      unfold frameWN Oper.wp
      simp only [h1]
      go_simp
      refine (SG.out w1 _ r4).mono ?_
      rintro e w2 ⟨u, rfl, hr, hb2⟩
      exact ⟨_, by simp only [frameWN, upd]; simp [Act.put, h1], ⟨u, rfl, hr⟩, hb2⟩
  · intro xs w1 hb hx
    obtain ⟨u, h5, r5⟩ : ∃ u, xs 5 = .agg #[.bool (Rt.nrm n (Nt.val l)), u] ∧ IsRes w1 u (Nt.digs (Nt.val l)) := hx 5 (by decide)
    clear hx
    have HR := Lib.hid r5
    obtain ⟨A5, c5, rfl, -⟩ := r5
    have HG1 := Lib.hid ((hb.block (g + 1) (by omega)).trans HW1.out)
    refine wpOp_at rfl rfl ?_
    refine wp_store_row 58 (.tmp 2) (.tmp 8) rfl (g + 1) #[.bool (Rt.nrm n (Nt.val l)), .slice A5 (Nt.digs (Nt.val l)).length c5] rfl (by unfold frameWN; simp only [h5]; rfl) 58 #[.bool false, .slice none 0 0] HG1.out (HI2.out _ _ _ _) rfl (two_one _ _ _ _) ?_
    have hbf := rBelow.setRow (hWb.trans (hb.mono (by omega))) (show g ≤ g + 1 by omega) #[.bool (Rt.nrm n (Nt.val l)), .slice A5 (Nt.digs (Nt.val l)).length c5]
    unfold frameWN
    go_wp2_with fail
    refine bodyPost_ret (results_cell_row (by rfl) _ _ (g + 1) 58 #[.bool (Rt.nrm n (Nt.val l)), .slice A5 (Nt.digs (Nt.val l)).length c5] (0, 0) _ (by rfl) (rheap_same HG1.out) Tryd.underlying58 rfl (HI2.out _ _ _ _)) rfl ⟨_, rfl, HR.out.setRow HG1.out (two_no_int _ _ _ _) _, ?_⟩
    rw [← HG.out]; exact hbf
end Go.Proofs.YtfiefglagknclaaDoor
