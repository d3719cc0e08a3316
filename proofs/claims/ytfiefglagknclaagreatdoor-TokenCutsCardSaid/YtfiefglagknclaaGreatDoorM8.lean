/-
  Texts of this proof, joined (by wip/bin/bundle.py): NatPar2, NatTxt, NatTxt2, Tok3, Tok4, Tok5, RTok2, RTok3, Tok6, Dig5.
-/
import Derived.Test.YtfiefglagknclaaGreatDoorM7
import Derived.Lib.OthersKept
import Derived.Lib.RuneBytes
import Derived.Laws.BytesString
import Derived.Laws.IdiomStrings
import Derived.Deep.Cut
/-
  What nat.Parse computes.
-/
namespace Go.Proofs.YtfiefglagknclaaGreatDoor
open Go.RowKit
set_option maxHeartbeats 1000000
set_option maxRecDepth 100000
set_option linter.unusedVariables false

/-- A part of the numeral, read on from a place. -/
def PartAt (s : List UInt8) (n at0 k p sc : Nat) : Prop := sc = 10 ^ (k - at0) ∧ p < sc ∧ Ten.numOf (s.take k) = n * sc + p
theorem PartAt.start {s : List UInt8} {n at0 : Nat} (h : n = Ten.numOf (s.take at0)) : PartAt s n at0 at0 0 1 := ⟨by rw [Nat.sub_self], by omega, by rw [← h, Nat.mul_one, Nat.add_zero]⟩
theorem PartAt.step {s : List UInt8} {n at0 k p sc : Nat} (h : PartAt s n at0 k p sc) (h1 : at0 ≤ k) (hk : k < s.length) (hd : Ten.isDig s[k]) : PartAt s n at0 (k + 1) (10 * p + (s[k].toNat - 48)) (sc * 10) := by
  obtain ⟨e1, e2, e3⟩ := h
  have := hd.2
  refine ⟨by rw [e1, show k + 1 - at0 = (k - at0) + 1 by omega, Nat.pow_succ], by omega, ?_⟩
  rw [List.take_succ_eq_append_getElem hk, Ten.numOf_snoc, e3]
  rw [show n * (sc * 10) = n * sc * 10 from (Nat.mul_assoc _ _ _).symm]
  generalize n * sc = q
  omega
theorem PartAt.bound {s : List UInt8} {n at0 k p sc : Nat} (h : PartAt s n at0 k p sc) (m : Nat) (hk : k - at0 ≤ m) : 1 ≤ sc ∧ sc ≤ 10 ^ m ∧ p < 10 ^ m := by
  obtain ⟨e1, e2, e3⟩ := h
  have h1 : 10 ^ (k - at0) ≤ 10 ^ m := Nat.pow_le_pow_right (by omega) hk
  have h2 : 1 ≤ 10 ^ (k - at0) := Nat.pow_pos (by omega)
  omega
theorem num_lt : ∀ (t : List UInt8), (∀ b ∈ t, Ten.isDig b) → Ten.numOf t < 10 ^ t.length := by
  intro t
  induction h : t.length generalizing t with
  | zero => intro _; rw [List.eq_nil_of_length_eq_zero h]; decide
  | succ n ih =>
    intro hd
    have hne : t ≠ [] := by intro e; rw [e] at h; simp at h
    obtain ⟨r, b, rfl⟩ : ∃ r b, t = r ++ [b] := ⟨t.dropLast, t.getLast hne, (List.dropLast_concat_getLast hne).symm⟩
    have := ih r (by simpa using h) (fun c hc => hd c (List.mem_append_left _ hc))
    have hb := hd b (by simp)
    have := hb.2
    rw [Ten.numOf_snoc, Nat.pow_succ]
    omega
theorem num_len {s : List UInt8} (h : Ten.Valid s) {k : Nat} (hk : k ≤ s.length) : (Nt.digs (Ten.numOf (s.take k))).length ≤ k := by
  have := num_lt (s.take k) (fun b hb => h.2.2 b (List.mem_of_mem_take hb))
  rw [List.length_take, Nat.min_eq_left hk] at this
  exact Nt.digs_len_lt (Nat.lt_of_lt_of_le this (Nat.pow_le_pow_left (by omega) k))

theorem parse_any (s : List UInt8) (w : World) (hs : s.length ≤ 1000) : Calls Tryz.prog 53 #[.string ⟨s.toArray⟩] w (NatTold s w) := by
  obtain ⟨i0, hi, hz0, hz1, hz2⟩ := info_parts u32_info
  by_cases h0 : s = []
  · have HN := Lib.hid (NatTold.no (w := w) (w' := w) (s := s) (Below.refl _ _) (fun h => h.1 h0))
    subst h0
    go_enter Tryz.func53, Tryz.ntmps53
    go_wp2_with fail
    go_ret2
    exact HN.out
  · have hpos : 0 < s.length := List.length_pos_iff.2 h0
    have h0a : s.isEmpty = false := by simpa using h0
    obtain ⟨z, hz⟩ : ∃ z, z = s[0].toNat := ⟨_, rfl⟩
    have hg0 : ((⟨s.toArray⟩ : ByteArray)[0]'(show 0 < (⟨s.toArray⟩ : ByteArray).size from hpos)).toNat = z := hz.symm
    by_cases hlead : 1 < s.length ∧ z = 48
    · obtain ⟨h1, hz48⟩ := hlead
      have HN := Lib.hid (NatTold.no (w := w) (w' := w) (s := s) (Below.refl _ _) (fun h => h.2.1 h1 (by rw [head_at hpos, UInt8.toNat_inj.1 (show s[0].toNat = (48 : UInt8).toNat by rw [← hz, hz48]; rfl)])))
      have hza : ((z : Int) == 48) = true := by simp [hz48]
      clear h0 hz hz48
      go_enter Tryz.func53, Tryz.ntmps53
      go_wp2_with fail
      go_ret2
      exact HN.out
    · have HV : Hid (s ≠ [] ∧ (1 < s.length → s.head? ≠ some 48)) := Lib.hid ⟨h0, fun h1 e => hlead ⟨h1, by
        rw [head_at hpos] at e; injection e with e; rw [hz, e]; rfl⟩⟩
      have hgo : s.length ≤ 1 ∨ (1 < s.length ∧ ((z : Int) == 48) = false) := by
        rcases Nat.lt_or_ge 1 s.length with h | h
        · exact .inr ⟨h, by rw [beq_eq_false_iff_ne]; intro e; exact hlead ⟨h, by omega⟩⟩
        · exact .inl h
      clear hlead hz h0
      go_enter Tryz.func53, Tryz.ntmps53
      rcases hgo with hl1 | ⟨hl1, hza⟩
      · go_wp2_with fail
        go_loop [24] (fun i => ∃ k : Nat, k ≤ s.length ∧ i = .int .i64 (k : Int) ∧ Hid (∀ j (hj : j < s.length), j < k → Ten.isDig s[j])) (fun i => s.length - (intOf i).toNat)
        case atStart => exact ⟨0, by omega, rfl, Lib.hid (fun j _ h => absurd h (by omega))⟩
        case round =>
          obtain ⟨k, hk, rfl, H⟩ := hrel
          by_cases hlt : k < s.length
          · obtain ⟨y, hy⟩ : ∃ y, y = s[k].toNat := ⟨_, rfl⟩
            have hgy : ((⟨s.toArray⟩ : ByteArray)[k]'(show k < (⟨s.toArray⟩ : ByteArray).size from hlt)).toNat = y := hy.symm
            have hy8 : y < 256 := by rw [hy]; exact UInt8.toNat_lt _
            by_cases hd : 48 ≤ y ∧ y ≤ 57
            · obtain ⟨hd1, hd2⟩ := hd
              have HD : Hid (∀ j (hj : j < s.length), j < k + 1 → Ten.isDig s[j]) := Lib.hid (fun j hj hjk => by
                by_cases e : j = k
                · subst e; exact ⟨by rw [← hy]; exact hd1, by rw [← hy]; exact hd2⟩
                · exact H.out j hj (by omega))
              clear hy
              go_wp2_with fail
              exact ⟨⟨k + 1, by omega, by go_num, HD⟩, by simp [intOf]; omega⟩
            · have HN := Lib.hid (NatTold.no (w := w) (w' := w) (s := s) (Below.refl _ _) (not_valid_at hlt (by rw [← hy]; omega)))
              have hc : y < 48 ∨ (48 ≤ y ∧ 57 < y) := by omega
              clear hy hd
              rcases hc with hc | ⟨hc, hc2⟩
              · go_wp2_with fail
                go_ret2
                exact HN.out
              · go_wp2_with fail
                go_ret2
                exact HN.out
          · obtain rfl : k = s.length := by omega
            have HVAL : Hid (Ten.Valid s) := Lib.hid ⟨HV.out.1, HV.out.2, fun b hb => by
              obtain ⟨j, hj, rfl⟩ := List.mem_iff_getElem.1 hb
              exact H.out j hj hj⟩
            clear hlt
            go_wp2_with (at_make; refine wpList_make_blk _ rfl _ _ 24 rfl 22 i0 (.int .u32 0) Tryz.underlying24 hi hz0 hz1 rfl .i64 .i64 _ _ 0 (s.length / 9 + 1) rfl rfl rfl (by go_num) (by omega) (by rw [hz2]; omega) (by omega) w.heap.size w (Below.refl _ _) (Nat.le_refl _) ?_; intro w1 hblk1 hb1 hb1' hlt1)
            have hown1 : w1.ownsRow w.heap.size 22 1 (.slice (some ⟨w.heap.size, 0, none⟩) 0 (s.length / 9 + 1)) 0 [] := by
              have := hblk1.own (base := w.heap.size) (n := 0) (Nat.le_refl _) (by omega) (by simp [maxLen]; omega)
              simpa using this
            clear hblk1 hb1' hlt1
            go_loopw [5, 6] (fun ov i wr => ∃ (k n : Nat), k ≤ s.length ∧ i = .int .i64 (k : Int) ∧ wr.ownsRow w.heap.size 22 1 ov (Nt.digs n).length (U (Nt.digs n)) ∧ Below w.heap.size w wr ∧ Hid (n = Ten.numOf (s.take k))) (fun _ i _ => s.length - (intOf i).toNat)
            case atStart => exact ⟨0, 0, by omega, rfl, by rw [Nt.digs_zero]; exact hown1, hb1, Lib.hid rfl⟩
            case round =>
              clear hown1 hb1
              obtain ⟨k, n, hk, rfl, hown, hbel, H2⟩ := hrel
              have hsz := hbel.size
              by_cases hlt : k < s.length
              · have hdl : (Nt.digs n).length ≤ 1000000 := by
                  have := num_len HVAL.out hk
                  rw [H2.out]; omega
                obtain ⟨E, hE⟩ : ∃ E : Nat, E = min (k + 9) s.length := ⟨_, rfl⟩
                have hE1 : k < E := by omega
                have hE2 : E ≤ s.length := by omega
                have hE3 : E ≤ k + 9 := by omega
                have hEi : min ((k : Int) + 9) (s.length : Int) = (E : Int) := by omega
                clear hE
                go_wp2_with fail
                go_loop [6, 7, 8] (fun av pv sv => ∃ (j p sc : Nat), k ≤ j ∧ j ≤ E ∧ p < 1000000000 ∧ 1 ≤ sc ∧ sc ≤ 1000000000 ∧ av = .int .i64 (j : Int) ∧ pv = .int .u32 (p : Int) ∧ sv = .int .u32 (sc : Int) ∧ Hid (PartAt s n k j p sc)) (fun av _ _ => E - (intOf av).toNat)
                case atStart => exact ⟨k, 0, 1, Nat.le_refl _, by omega, by omega, by omega, by omega, rfl, rfl, rfl, Lib.hid (PartAt.start H2.out)⟩
                case round =>
                  obtain ⟨j, p, sc, hj1, hj2, hp, hsc1, hsc2, rfl, rfl, rfl, HP⟩ := hrel
                  by_cases hjE : j < E
                  · have hjs : j < s.length := by omega
                    obtain ⟨y, hy⟩ : ∃ y, y = s[j].toNat := ⟨_, rfl⟩
                    have hgy : ((⟨s.toArray⟩ : ByteArray)[j]'(show j < (⟨s.toArray⟩ : ByteArray).size from hjs)).toNat = y := hy.symm
                    have hdg := HVAL.out.2.2 s[j] (List.getElem_mem hjs)
                    have ST := Lib.hid (HP.out.step hj1 hjs hdg)
                    have BD := HP.out.bound 8 (by omega)
                    simp only [Nat.reducePow] at BD
                    obtain ⟨_, hb1, hb2⟩ := BD
                    unfold Ten.isDig at hdg
                    rw [← hy] at ST hdg
                    obtain ⟨hd1, hd2⟩ := hdg
                    clear hy
                    go_wp2_with fail
                    exact ⟨⟨j + 1, 10 * p + (y - 48), sc * 10, by omega, by omega, by omega, by omega, by omega, by go_num, congrArg (Value.int .u32) (by omega), congrArg (Value.int .u32) (by omega), ST⟩, by simp [intOf]; omega⟩
                  · obtain rfl : j = E := by omega
                    have LEN := Lib.hid (lengthen_any w.heap.size _ n sc p wr hown hsz hdl hsc1 (by omega) (by omega))
                    clear hown
                    go_wp2_with (go_at_call 93; refine LEN.out.mono ?_; rintro e w2 ⟨v2, rfl, hown2, hb2⟩)
                    exact ⟨⟨j, n * sc + p, by omega, rfl, hown2, hbel.trans hb2, Lib.hid HP.out.2.2.symm⟩, by simp [intOf]; omega⟩
              · obtain rfl : k = s.length := by omega
                have HY := Lib.hid (NatTold.yes hbel HVAL.out (by have := H2.out; rw [List.take_length] at this; rw [← this]; exact IsRes.of_own hown))
                go_wp2_with fail
                go_ret2
                exact HY.out
      · go_wp2_with fail
        go_loop [24] (fun i => ∃ k : Nat, k ≤ s.length ∧ i = .int .i64 (k : Int) ∧ Hid (∀ j (hj : j < s.length), j < k → Ten.isDig s[j])) (fun i => s.length - (intOf i).toNat)
        case atStart => exact ⟨0, by omega, rfl, Lib.hid (fun j _ h => absurd h (by omega))⟩
        case round =>
          obtain ⟨k, hk, rfl, H⟩ := hrel
          by_cases hlt : k < s.length
          · obtain ⟨y, hy⟩ : ∃ y, y = s[k].toNat := ⟨_, rfl⟩
            have hgy : ((⟨s.toArray⟩ : ByteArray)[k]'(show k < (⟨s.toArray⟩ : ByteArray).size from hlt)).toNat = y := hy.symm
            have hy8 : y < 256 := by rw [hy]; exact UInt8.toNat_lt _
            by_cases hd : 48 ≤ y ∧ y ≤ 57
            · obtain ⟨hd1, hd2⟩ := hd
              have HD : Hid (∀ j (hj : j < s.length), j < k + 1 → Ten.isDig s[j]) := Lib.hid (fun j hj hjk => by
                by_cases e : j = k
                · subst e; exact ⟨by rw [← hy]; exact hd1, by rw [← hy]; exact hd2⟩
                · exact H.out j hj (by omega))
              clear hy
              go_wp2_with fail
              exact ⟨⟨k + 1, by omega, by go_num, HD⟩, by simp [intOf]; omega⟩
            · have HN := Lib.hid (NatTold.no (w := w) (w' := w) (s := s) (Below.refl _ _) (not_valid_at hlt (by rw [← hy]; omega)))
              have hc : y < 48 ∨ (48 ≤ y ∧ 57 < y) := by omega
              clear hy hd
              rcases hc with hc | ⟨hc, hc2⟩
              · go_wp2_with fail
                go_ret2
                exact HN.out
              · go_wp2_with fail
                go_ret2
                exact HN.out
          · obtain rfl : k = s.length := by omega
            have HVAL : Hid (Ten.Valid s) := Lib.hid ⟨HV.out.1, HV.out.2, fun b hb => by
              obtain ⟨j, hj, rfl⟩ := List.mem_iff_getElem.1 hb
              exact H.out j hj hj⟩
            clear hlt
            go_wp2_with (at_make; refine wpList_make_blk _ rfl _ _ 24 rfl 22 i0 (.int .u32 0) Tryz.underlying24 hi hz0 hz1 rfl .i64 .i64 _ _ 0 (s.length / 9 + 1) rfl rfl rfl (by go_num) (by omega) (by rw [hz2]; omega) (by omega) w.heap.size w (Below.refl _ _) (Nat.le_refl _) ?_; intro w1 hblk1 hb1 hb1' hlt1)
            have hown1 : w1.ownsRow w.heap.size 22 1 (.slice (some ⟨w.heap.size, 0, none⟩) 0 (s.length / 9 + 1)) 0 [] := by
              have := hblk1.own (base := w.heap.size) (n := 0) (Nat.le_refl _) (by omega) (by simp [maxLen]; omega)
              simpa using this
            clear hblk1 hb1' hlt1
            go_loopw [5, 6] (fun ov i wr => ∃ (k n : Nat), k ≤ s.length ∧ i = .int .i64 (k : Int) ∧ wr.ownsRow w.heap.size 22 1 ov (Nt.digs n).length (U (Nt.digs n)) ∧ Below w.heap.size w wr ∧ Hid (n = Ten.numOf (s.take k))) (fun _ i _ => s.length - (intOf i).toNat)
            case atStart => exact ⟨0, 0, by omega, rfl, by rw [Nt.digs_zero]; exact hown1, hb1, Lib.hid rfl⟩
            case round =>
              clear hown1 hb1
              obtain ⟨k, n, hk, rfl, hown, hbel, H2⟩ := hrel
              have hsz := hbel.size
              by_cases hlt : k < s.length
              · have hdl : (Nt.digs n).length ≤ 1000000 := by
                  have := num_len HVAL.out hk
                  rw [H2.out]; omega
                obtain ⟨E, hE⟩ : ∃ E : Nat, E = min (k + 9) s.length := ⟨_, rfl⟩
                have hE1 : k < E := by omega
                have hE2 : E ≤ s.length := by omega
                have hE3 : E ≤ k + 9 := by omega
                have hEi : min ((k : Int) + 9) (s.length : Int) = (E : Int) := by omega
                clear hE
                go_wp2_with fail
                go_loop [6, 7, 8] (fun av pv sv => ∃ (j p sc : Nat), k ≤ j ∧ j ≤ E ∧ p < 1000000000 ∧ 1 ≤ sc ∧ sc ≤ 1000000000 ∧ av = .int .i64 (j : Int) ∧ pv = .int .u32 (p : Int) ∧ sv = .int .u32 (sc : Int) ∧ Hid (PartAt s n k j p sc)) (fun av _ _ => E - (intOf av).toNat)
                case atStart => exact ⟨k, 0, 1, Nat.le_refl _, by omega, by omega, by omega, by omega, rfl, rfl, rfl, Lib.hid (PartAt.start H2.out)⟩
                case round =>
                  obtain ⟨j, p, sc, hj1, hj2, hp, hsc1, hsc2, rfl, rfl, rfl, HP⟩ := hrel
                  by_cases hjE : j < E
                  · have hjs : j < s.length := by omega
                    obtain ⟨y, hy⟩ : ∃ y, y = s[j].toNat := ⟨_, rfl⟩
                    have hgy : ((⟨s.toArray⟩ : ByteArray)[j]'(show j < (⟨s.toArray⟩ : ByteArray).size from hjs)).toNat = y := hy.symm
                    have hdg := HVAL.out.2.2 s[j] (List.getElem_mem hjs)
                    have ST := Lib.hid (HP.out.step hj1 hjs hdg)
                    have BD := HP.out.bound 8 (by omega)
                    simp only [Nat.reducePow] at BD
                    obtain ⟨_, hb1, hb2⟩ := BD
                    unfold Ten.isDig at hdg
                    rw [← hy] at ST hdg
                    obtain ⟨hd1, hd2⟩ := hdg
                    clear hy
                    go_wp2_with fail
                    exact ⟨⟨j + 1, 10 * p + (y - 48), sc * 10, by omega, by omega, by omega, by omega, by omega, by go_num, congrArg (Value.int .u32) (by omega), congrArg (Value.int .u32) (by omega), ST⟩, by simp [intOf]; omega⟩
                  · obtain rfl : j = E := by omega
                    have LEN := Lib.hid (lengthen_any w.heap.size _ n sc p wr hown hsz hdl hsc1 (by omega) (by omega))
                    clear hown
                    go_wp2_with (go_at_call 93; refine LEN.out.mono ?_; rintro e w2 ⟨v2, rfl, hown2, hb2⟩)
                    exact ⟨⟨j, n * sc + p, by omega, rfl, hown2, hbel.trans hb2, Lib.hid HP.out.2.2.symm⟩, by simp [intOf]; omega⟩
              · obtain rfl : k = s.length := by omega
                have HY := Lib.hid (NatTold.yes hbel HVAL.out (by have := H2.out; rw [List.take_length] at this; rw [← this]; exact IsRes.of_own hown))
                go_wp2_with fail
                go_ret2
                exact HY.out
end Go.Proofs.YtfiefglagknclaaGreatDoor

/-
  What scrimref02.Text computes.
-/
namespace Nt
/-- Limbs divided from the top down, the quotient's put ahead of each other. -/
def TenDnAt (l : List Nat) (cur : List Nat) (k r : Nat) : Prop := cur.length + k = l.length ∧ Ok cur ∧ r < 10 ∧ val cur * 10 + r = val (l.drop k)
theorem tenDn_start (l : List Nat) : TenDnAt l [] l.length 0 := ⟨by simp, ok_nil, by omega, by simp [val]⟩
theorem tenDn_step {l cur : List Nat} {k r : Nat} (h : TenDnAt l cur (k + 1) r) (hk : k < l.length) (hl : Ok l) : TenDnAt l ((r * 4294967296 + l[k]) / 10 :: cur) k ((r * 4294967296 + l[k]) % 10) := by
  obtain ⟨h1, h2, h3, h4⟩ := h
  have hx := ok_get hl hk
  refine ⟨by simp; omega, fun d hd => ?_, by omega, ?_⟩
  · rcases List.mem_cons.1 hd with e | e
    · rw [e]; omega
    · exact h2 d e
  · rw [List.drop_eq_getElem_cons hk, val, val, ← h4]
    generalize l[k] = x at *
    generalize val cur = V at *
    omega
theorem tenDn_end {l cur : List Nat} {r : Nat} (h : TenDnAt l cur 0 r) : val cur = val l / 10 ∧ r = val l % 10 := by
  obtain ⟨h1, h2, h3, h4⟩ := h
  rw [List.drop_zero] at h4
  omega
end Nt
namespace Go.Proofs.YtfiefglagknclaaGreatDoor
open Go.RowKit
set_option maxHeartbeats 1000000
set_option maxRecDepth 100000
set_option linter.unusedVariables false

def strLen : Value → Nat
  | .string b => b.size
  | _ => 0
theorem Lies.cells_ {w : World} {B : Nat} {ad : Addr} {xs : List Value} (h : Lies w B (some ad) xs) : ∀ j u, xs[j]? = some u → w.cell? (ad.add j) = some u := fun j u hj => by
  have hp : 0 < xs.length := by
    rcases Nat.lt_or_ge j xs.length with h' | h'
    · omega
    · rw [List.getElem?_eq_none h'] at hj; cases hj
  obtain ⟨ad', h1, h2⟩ := h.src hp
  injection h1 with h1
  subst h1
  exact h2 j u hj
theorem digit_cut {r : Nat} (h : r < 10) : (⟨#[48, 49, 50, 51, 52, 53, 54, 55, 56, 57]⟩ : ByteArray).extract r (r + 1) = ⟨#[Ten.dch r]⟩ := by
  match r, h with
  | 0, _ => decide
  | 1, _ => decide
  | 2, _ => decide
  | 3, _ => decide
  | 4, _ => decide
  | 5, _ => decide
  | 6, _ => decide
  | 7, _ => decide
  | 8, _ => decide
  | 9, _ => decide
def topE (k : Nat) : Nat := 10 ^ (10 * (k + 1))
theorem val_top (k : Nat) {l : List Nat} (ho : Nt.Ok l) (hs : l.length ≤ k + 1) : Nt.val l < topE k := by
  have h1 := Nt.val_lt ho
  have h2 : (4294967296 : Nat) ^ l.length ≤ 4294967296 ^ (k + 1) := Nat.pow_le_pow_right (by omega) hs
  have h3 : (4294967296 : Nat) ^ (k + 1) ≤ (10 ^ 10) ^ (k + 1) := Nat.pow_le_pow_left (by omega) (k + 1)
  rw [← Nat.pow_mul] at h3
  exact Nat.lt_of_lt_of_le h1 (Nat.le_trans h2 h3)
theorem dec_top (k : Nat) {n : Nat} (h : n < topE k) : (Lib.decDigits n).length ≤ 10 * (k + 1) := by
  have := (Ten.dec_len (k := 10 * k + 9) (r := n) (by rw [show 10 * k + 9 + 1 = 10 * (k + 1) by omega]; exact h)).2
  omega
theorem dec_bound {l : List Nat} (ho : Nt.Ok l) (hs : l.length ≤ 1000) : (Lib.decDigits (Nt.val l)).length ≤ 10000 := dec_top 999 (val_top 999 ho hs)
theorem OutAt_len {n y : Nat} {T : List UInt8} (h : Ten.OutAt n y T) : T.length ≤ (Lib.decDigits n).length ∧ (0 < y → T.length < (Lib.decDigits n).length) := by
  have hne := Ten.dec_ne y
  have : 0 < (Lib.decDigits y).length := List.length_pos_iff.2 hne
  rcases Nat.eq_zero_or_pos y with e | e
  · exact ⟨by rw [h.2 e]; exact Nat.le_refl _, fun h' => by omega⟩
  · have := h.1 e
    exact ⟨by rw [this, List.length_append]; omega, fun _ => by rw [this, List.length_append]; omega⟩

theorem refText_any (A : Option Addr) (c B : Nat) (l : List Nat) (w : World) (hl : Lies w B A (U l)) (hB : B ≤ w.heap.size) (ho : Nt.Ok l) (hc : l.length ≤ c) (hm : c ≤ 9223372036854775807) (hA : A = none → c = 0) (hs : l.length ≤ 1000) :
    Calls Tryz.prog 17 #[.slice A l.length c] w fun e w' => e = .returned (.string ⟨(Lib.decDigits (Nt.val l)).toArray⟩) ∧ Below w.heap.size w w' := by
  obtain ⟨i0, hi, hz0, hz1, hz2⟩ := info_parts u32_info
  have hdl := Nt.digs_len_le ho
  have hlen := dec_bound ho hs
  have RN := Lib.hid (refNorm_any A c B l w hl hB ho hc hm hA (by omega))
  clear hl ho
  generalize Nt.val l = n at *
  go_enter Tryz.func17, Tryz.ntmps17
  go_wp2_with fail
  refine RN.out.mono ?_
  rintro e w1 ⟨v, rfl, hres, hb1⟩
  obtain ⟨A1, c1, rfl, hc1, hc2, hc3, hlies⟩ := hres
  by_cases h0 : n = 0
  · subst h0
    rw [Nt.digs_zero]
    clear RN
    have HZ : Hid (Lib.decDigits 0 = [48]) := Lib.hid (Ten.dec_small (by omega))
    go_wp2_with fail
    go_ret
    rw [HZ.out]
    exact ⟨rfl, hb1⟩
  · have hne : (Nt.digs n).length ≠ 0 := fun e => h0 (Nt.digs_nil_iff.1 (List.eq_nil_of_length_eq_zero e))
    have hne2 : (((Nt.digs n).length : Int) == 0) = false := by rw [beq_eq_false_iff_ne]; omega
    clear RN
    go_wp2_with fail
    go_loopw [3, 4] (fun xv sv wr => ∃ (y : Nat) (T : List UInt8), (Nt.digs y).length ≤ 1000 ∧ T.length ≤ 10000 ∧ sv = .string ⟨T.toArray⟩ ∧ IsRes wr xv (Nt.digs y) ∧ Below w.heap.size w wr ∧ Hid (Ten.OutAt n y T)) (fun _ sv _ => 10001 - strLen sv)
    case atStart => exact ⟨n, [], by omega, by simp, rfl, ⟨A1, c1, rfl, hc1, hc2, hc3, hlies⟩, hb1, Lib.hid (Ten.OutAt.start (by omega))⟩
    case round =>
      clear hlies hc1 hc2 hc3 hb1 hne hne2
      obtain ⟨y, T, hyl, hT, rfl, ⟨A1, c1, rfl, hc1, hc2, hc3, hlies⟩, hbel, H⟩ := hrel
      have hsz := hbel.size
      by_cases hy0 : y = 0
      · subst hy0
        have HE := Lib.hid (H.out.2 rfl)
        rw [Nt.digs_zero]
        go_wp2_with fail
        go_ret
        rw [HE.out]
        exact ⟨rfl, hbel⟩
      · have hypos : 0 < (Nt.digs y).length := Nat.pos_of_ne_zero (fun e => hy0 (Nt.digs_nil_iff.1 (List.eq_nil_of_length_eq_zero e)))
        have hTl := (OutAt_len H.out).2 (by omega)
        have STEP := Lib.hid (H.out.step (by omega))
        have HDE : Hid (∀ cur r, Nt.TenDnAt (Nt.digs y) cur 0 r → Nt.val cur = y / 10 ∧ r = y % 10 ∧ Nt.Ok cur ∧ cur.length = (Nt.digs y).length) := Lib.hid (fun cur r h => by
          have := Nt.tenDn_end h
          rw [Nt.val_digs] at this
          exact ⟨this.1, this.2, h.2.1, by have := h.1; omega⟩)
        have HYL : Hid ((Nt.digs (y / 10)).length ≤ 1000) := Lib.hid (Nat.le_trans (Nt.digs_len_le_of (Nat.div_le_self y 10)) hyl)
        have OX := Lib.hid (Nt.ok_digs y)
        have DS := Lib.hid (Nt.tenDn_start (Nt.digs y))
        obtain ⟨dx, hdx⟩ : ∃ dx, dx = Nt.digs y := ⟨_, rfl⟩
        rw [← hdx] at hyl hc1 hlies hypos HDE OX DS ⊢
        clear hdx H
        rename World => W
        go_wp2_with fail
        go_loopw [5, 6, 7] (fun ov rv iv wq => ∃ (k r : Nat) (cur : List Nat), k ≤ dx.length ∧ r < 10 ∧ iv = .int .i64 ((k : Int) - 1) ∧ rv = .int .u64 (r : Int) ∧ IsRes wq ov cur ∧ Below W.heap.size W wq ∧ Hid (Nt.TenDnAt dx cur k r)) (fun _ _ iv _ => (intOf iv + 1).toNat)
        case atStart => exact ⟨dx.length, 0, [], Nat.le_refl _, by omega, by go_num, rfl, IsRes.none_ _, Below.refl _ _, DS⟩
        case round =>
          obtain ⟨k, r, cur, hk, hr, rfl, rfl, ⟨A2, c2, rfl, hd1, hd2, hd3, hl2⟩, hbq, HQ⟩ := hrel
          have hszq := hbq.size
          rcases k with _ | k
          · obtain ⟨hv1, hv2, hv3, hv4⟩ := HDE.out cur r HQ.out
            have RN := Lib.hid (refNorm_any A2 c2 _ cur wr hl2 (Nat.le_refl _) hv3 hd1 hd2 hd3 (by omega))
            rw [hv1] at RN
            rw [← hv2] at STEP
            have HDG := Lib.hid (digit_cut hr)
            have hcl : cur.length ≤ 1000 := by omega
            clear hv1 hv2 hv3 hv4 hl2 hd3 HDE DS OX
            go_wp2_with fail
            rw [HDG.out, show (⟨#[Ten.dch r]⟩ : ByteArray) ++ ⟨T.toArray⟩ = ⟨(Ten.dch r :: T).toArray⟩ from by
              apply ByteArray.ext; simp]
            refine RN.out.mono ?_
            rintro e w3 ⟨v3, rfl, hres3, hb3⟩
            have hyq : (Nt.digs (y / 10)).length ≤ 1000 := HYL.out
            go_wp2_with fail
            exact ⟨⟨y / 10, Ten.dch r :: T, hyq, by simp; omega, rfl, hres3, hbel.trans ((hbq.trans (hb3.mono hszq)).mono hsz), STEP⟩, by simp [strLen, ByteArray.size]; omega⟩
          · have hk1 : ((k + 1 : Nat) : Int) - 1 = (k : Int) := by omega
            rw [hk1]
            clear hk1
            have hkl : k < dx.length := by omega
            obtain ⟨b, off, rfl, hbb, hcell⟩ := (hlies.below hbq).limb hkl
            have hxb := Nt.ok_get OX.out hkl
            have ST := Lib.hid (Nt.tenDn_step HQ.out hkl OX.out)
            have hcl : cur.length + (k + 1) = dx.length := HQ.out.1
            generalize dx[k] = x at hcell hxb ST
            obtain ⟨t, ht⟩ : ∃ t, t = r * 4294967296 + x := ⟨_, rfl⟩
            have hti : (r : Int) * 4294967296 + (x : Int) = (t : Int) := by omega
            have htb : t < 42949672960 := by omega
            rw [← ht] at ST
            clear ht
            obtain ⟨q, hq⟩ : ∃ q, q = t / 10 := ⟨_, rfl⟩
            have hqi : (t : Int) / 10 = (q : Int) := by omega
            have hqb : q < 4294967296 := by omega
            obtain ⟨r2, hr2⟩ : ∃ r2, r2 = t % 10 := ⟨_, rfl⟩
            have hri : (t : Int) % 10 = (r2 : Int) := by omega
            have hrb : r2 < 10 := by omega
            rw [← hq, ← hr2] at ST
            clear hq hr2
            have hown1 : (wr.alloc (.cells #[.int .u32 (q : Int)] 22)).ownsRow W.heap.size 22 1 (.slice (some ⟨wr.heap.size, 0, none⟩) 1 1) 1 [.int .u32 (q : Int)] := (Blk.new wr 22 [.int .u32 (q : Int)]).own_all hszq (by simp [maxLen])
            have hb4 := hbq.alloc hszq (.cells #[.int .u32 (q : Int)] 22)
            rcases A2 with _ | ad
            · have hc0 : c2 = 0 := hd3 rfl
              subst hc0
              obtain rfl : cur = [] := List.eq_nil_of_length_eq_zero (by omega)
              go_wp2_with (at_builtin; refine wpList_append_own_none rfl _ _ 24 rfl W.heap.size 22 i0 1 Tryz.underlying24 hi _ 1 _ rfl hown1 rfl ?_)
              refine ⟨⟨k, r2, [q], by omega, hrb, by go_num, congrArg (Value.int .u64) (by omega), IsRes.of_own (base := W.heap.size) hown1, hb4, ST⟩, ?_⟩
              first | (simp [intOf]; done) | (simp [intOf]; omega)
            · have hl3 : Lies (wr.alloc (.cells #[.int .u32 (q : Int)] 22)) wr.heap.size (some ad) (U cur) := Lies.below (show Lies wr wr.heap.size (some ad) (U cur) from hl2) ((Below.refl _ _).alloc (Nat.le_refl _) _)
              clear hd3
              go_wp2_with (at_builtin; refine wpList_append_own _ rfl _ _ 24 rfl W.heap.size 22 i0 (.int .u32 0) 1 4 Tryz.underlying24 hi hz0 hz1 hz2 rfl (by decide) _ 1 _ rfl hown1 ad cur.length c2 (U cur) rfl (by rw [U_len]; omega) (Lies.cells_ hl3) (U_one _) (by unfold maxLen; omega) (by omega) (by simp; omega) ?_; intro v3 w3 hown3 hgrow3 hnn3)
              have hb3 : Below W.heap.size W w3 := hb4.grown hgrow3 (by simp; omega) (fun k hk => by injection hk with hk; subst hk; exact hszq)
              refine ⟨⟨k, r2, q :: cur, by omega, hrb, by go_num, congrArg (Value.int .u64) (by omega), IsRes.of_own (base := W.heap.size) ?_, hb3, ST⟩, ?_⟩
              · rw [Nat.add_comm] at hown3; exact hown3
              · first | (simp [intOf]; done) | (simp [intOf]; omega)
end Go.Proofs.YtfiefglagknclaaGreatDoor

/-
  What nat.Text computes.
-/
namespace Go.Proofs.YtfiefglagknclaaGreatDoor
open Go.RowKit
set_option maxHeartbeats 1000000
set_option maxRecDepth 100000
set_option linter.unusedVariables false

theorem own_keep {w w' : World} {base n : Nat} {t : TypeId} {v : Value} {xs : List Value} (h : w.ownsRow base t 1 v n xs) (hk : ∀ g, base ≤ g → g < w.heap.size → w'.heap[g]? = w.heap[g]?) : w'.ownsRow base t 1 v n xs := by
  refine ⟨h.1, ?_⟩
  rcases h.2 with h2 | ⟨g, cap, cur, hv, hb, hg, hr⟩
  · exact .inl h2
  · refine .inr ⟨g, cap, cur, hv, hb, ?_, hr⟩
    rw [hk g hb (by
      rcases Nat.lt_or_ge g w.heap.size with h' | h'
      · exact h'
      · rw [Array.getElem?_eq_none h'] at hg; cases hg)]
    exact hg
theorem builder_below {w w' : World} {T e : TypeId} {B b : Nat} {bs : List Value} (h : Lib.IsBuilder T e B b bs w) (hb : Below w.heap.size w w') : Lib.IsBuilder T e B b bs w' := by
  have one : ∀ {p : Value}, Lib.BuilderAt T e B b p bs w → Lib.BuilderAt T e B b p bs w' := fun {p} k => by
    have hlt := k.lt
    obtain ⟨h1, v, h2, h3, h4⟩ := k
    exact ⟨h1, v, (hb.block b hlt).trans h2, own_keep h3 (fun g _ hg => hb.block g hg), h4⟩
  exact h.imp one one
theorem tabIs_below {P : Program} {w w' : World} {name : String} {k : IntKind} {zs : List Int} {B : Nat} (h : Lib.TabIs P w name k zs) (hb : Below B w w') (hg : ∀ g, P.globalNamed name = some g → g < B) : Lib.TabIs P w' name k zs := by
  unfold Lib.TabIs World.var? at *
  cases he : P.globalNamed name with
  | none => simp [he] at h
  | some g =>
    simp only [he, Option.bind_some] at h ⊢
    rw [hb.block g (hg g he)]
    exact h
def sliceLen : Value → Nat
  | .slice _ n _ => n
  | _ => 0
def grps (v i : Nat) : List Nat := (List.range i).map (Ten.grp v)
theorem grps_len (v i : Nat) : (grps v i).length = i := by simp [grps]
theorem grps_next (v i : Nat) : grps v (i + 1) = grps v i ++ [Ten.grp v i] := by simp [grps, List.range_succ]
theorem grps_at {v i j : Nat} (h : j < i) : (grps v i)[j]? = some (Ten.grp v j) := by
  rw [grps, List.getElem?_map, List.getElem?_range h]; rfl
theorem rounds_top (k : Nat) {v i : Nat} (hv : v < topE k) (h : 0 < v / 1000000000 ^ i) : 9 * i < 10 * (k + 1) := by
  rcases Nat.lt_or_ge (9 * i) (10 * (k + 1)) with h' | h'
  · exact h'
  · exfalso
    have h1 : (10 : Nat) ^ (10 * (k + 1)) ≤ 10 ^ (9 * i) := Nat.pow_le_pow_right (by omega) h'
    rw [Nat.pow_mul 10 9 i] at h1
    rw [Nat.div_eq_of_lt (Nat.lt_of_lt_of_le hv h1)] at h
    omega
theorem rounds_le {v i : Nat} (hv : v < topE 999) (h : 0 < v / 1000000000 ^ i) : i < 1112 := by
  have := rounds_top 999 hv h
  omega
theorem val_bound {l : List Nat} (ho : Nt.Ok l) (hs : l.length ≤ 1000) : Nt.val l < topE 999 := val_top 999 ho hs
theorem dec_short {m n : Nat} (h : m ≤ n) (hn : n < topE 999) : (Lib.decDigits m).length ≤ 10000 := dec_top 999 (Nat.lt_of_le_of_lt h hn)
theorem rep_eq : ∀ c, Lib.repeatL [48] c = List.replicate c 48
  | 0 => rfl
  | c + 1 => by rw [Lib.repeatL, rep_eq c, List.replicate_succ]; rfl
theorem div_pos_of {n i j : Nat} (h : 0 < n / 1000000000 ^ j) (hij : i ≤ j) : 0 < n / 1000000000 ^ i :=
  Nat.lt_of_lt_of_le h (Nat.div_le_div_left (Nat.pow_le_pow_right (by omega) hij) (Nat.pow_pos (by omega)))

theorem text_any (A : Option Addr) (c B : Nat) (l : List Nat) (w : World) (hl : Lies w B A (U l)) (hB : B ≤ w.heap.size) (ho : Nt.Ok l) (hc : l.length ≤ c) (hm : c ≤ 9223372036854775807) (hs : l.length ≤ 1000)
    (htab : Lib.TabIs Tryz.prog w "internal/strconv.uint64pow10" .u64 Lib.pow10Tab) (hg : ∀ g, Tryz.prog.globalNamed "internal/strconv.uint64pow10" = some g → g < w.heap.size) :
    Calls Tryz.prog 57 #[.slice A l.length c] w fun e w' => e = .returned (.string ⟨(Lib.decDigits (Nt.val l)).toArray⟩) ∧ Below w.heap.size w w' := by
  obtain ⟨i0, hi, hz0, hz1, hz2⟩ := info_parts u32_info
  have hdl := Nt.digs_len_le ho
  have hlen := dec_bound ho hs
  have hvb := Lib.hid (val_bound ho hs)
  have RN := Lib.hid (norm_any A c B l w hl hB ho hc hm (by omega))
  have HTAB := Lib.hid htab
  have HG := Lib.hid hg
  clear hl ho htab hg
  generalize Nt.val l = n at *
  go_enter Tryz.func57, Tryz.ntmps57
  go_wp2_with fail
  refine RN.out.mono ?_
  rintro e w1 ⟨rfl, hblk1, hb1⟩
  by_cases h0 : n = 0
  · subst h0
    rw [Nt.digs_zero]
    clear RN
    have HZ : Hid (Lib.decDigits 0 = [48]) := Lib.hid (Ten.dec_small (by omega))
    go_wp2_with fail
    go_ret
    rw [HZ.out]
    exact ⟨rfl, hb1⟩
  · have hne : (Nt.digs n).length ≠ 0 := fun e => h0 (Nt.digs_nil_iff.1 (List.eq_nil_of_length_eq_zero e))
    have hne2 : (((Nt.digs n).length : Int) == 0) = false := by rw [beq_eq_false_iff_ne]; omega
    clear RN
    have hsz1 := hblk1.lt
    go_wp2_with (at_make; refine wpList_make_blk _ rfl _ _ 24 rfl 22 i0 (.int .u32 0) Tryz.underlying24 hi hz0 hz1 rfl .i64 .i64 _ _ 0 ((Nt.digs n).length + (Nt.digs n).length / 8 + 1) rfl rfl rfl (by go_num) (by omega) (by rw [hz2]; omega) (by omega) w.heap.size w hb1 (by omega) ?_; intro w2 hblk2 hb2 hb2' hlt2)
    have hown2 : w2.ownsRow (w.heap.size + 1) 22 1 (.slice (some ⟨w1.heap.size, 0, none⟩) 0 ((Nt.digs n).length + (Nt.digs n).length / 8 + 1)) 0 [] := by
      have := hblk2.own (base := w.heap.size + 1) (n := 0) (by omega) (by omega) (by simp [maxLen]; omega)
      simpa using this
    have hblkG := hblk1.keep hb2' hsz1
    clear hblk1 hblk2 hb1 hb2' hlt2
    go_loopw [3, 4] (fun rv gv wr => ∃ (i y cc : Nat) (tl : List Value), i ≤ 1112 ∧ (Nt.digs y).length ≤ 1000 ∧ (Nt.digs y).length ≤ cc ∧ cc ≤ 1000 ∧ rv = .slice (some ⟨w.heap.size, 0, none⟩) (Nt.digs y).length cc ∧ Blk wr w.heap.size 22 (U (Nt.digs y) ++ tl) ∧ wr.ownsRow (w.heap.size + 1) 22 1 gv i (U (grps n i)) ∧ Below w.heap.size w wr ∧ Hid (y = n / 1000000000 ^ i ∧ (i = 0 ∨ 0 < n / 1000000000 ^ (i - 1)))) (fun _ gv _ => 1200 - sliceLen gv)
    case atStart => exact ⟨0, n, (Nt.digs n).length, [], by omega, by omega, Nat.le_refl _, by omega, rfl, by rw [List.append_nil]; exact hblkG, hown2, hb2, Lib.hid ⟨by simp, .inl rfl⟩⟩
    case round =>
      clear hown2 hblkG hb2 hne hne2
      obtain ⟨i, y, cc, tl, hi12, hyl, hycc, hcc, rfl, hblk, hown, hbel, H⟩ := hrel
      have hsz := hbel.size
      have hszG := hblk.lt
      obtain ⟨A2, C2, rfl, hC1, hC2⟩ := own_slice hown
      by_cases hy0 : y = 0
      · subst hy0
        rw [Nt.digs_zero]
        go_wp2_with fail
        have hip : 0 < i := by
          rcases Nat.eq_zero_or_pos i with e | e
          · have := H.out.1; rw [e] at this; simp at this; omega
          · exact e
        have HT0 : Hid (n / 1000000000 ^ i = 0 ∧ 0 < n / 1000000000 ^ (i - 1)) := Lib.hid ⟨H.out.1.symm, H.out.2.resolve_left (by omega)⟩
        have HLG := Lib.hid (Lies.of_own hown)
        have HTABW : Hid (∀ wq, Below wr.heap.size wr wq → Lib.TabIs Tryz.prog wq "internal/strconv.uint64pow10" .u64 Lib.pow10Tab) := Lib.hid (fun wq hq => tabIs_below (tabIs_below HTAB.out hbel HG.out) hq (fun g hg => Nat.lt_of_lt_of_le (HG.out g hg) hsz))
        have hbld0 : Lib.IsBuilder 84 5 wr.heap.size wr.heap.size (Lib.byteCells []) (wr.alloc (.cells #[.pointer none, .slice none 0 0] 84)) := .inl ⟨Nat.le_refl _, .slice none 0 0, heap_alloc_new wr _, World.ownsRow_nil _ _ _ _, by simp [Value.ownBlock]⟩
        have hbq0 : Below wr.heap.size wr (wr.alloc (.cells #[.pointer none, .slice none 0 0] 84)) := (Below.refl _ _).alloc (Nat.le_refl _) _
        clear hown hblk H
        rename World => W
        go_loopw [6] (fun iv wq => ∃ (k : Nat) (T : List UInt8), k ≤ i ∧ T.length ≤ 10000 ∧ iv = .int .i64 ((k : Int) - 1) ∧ Lib.IsBuilder 84 5 W.heap.size W.heap.size (Lib.byteCells T) wq ∧ Below W.heap.size W wq ∧ Hid ((k = i ∧ T = []) ∨ (k < i ∧ T = Lib.decDigits (n / 1000000000 ^ k)))) (fun iv _ => (intOf iv + 1).toNat)
        case atStart => exact ⟨i, [], Nat.le_refl _, by simp, rfl, hbld0, hbq0, Lib.hid (.inl ⟨rfl, rfl⟩)⟩
        case round =>
          clear hbld0 hbq0
          obtain ⟨k, T, hk, hTl, rfl, hbld, hbq, HK⟩ := hrel
          have hszq := hbq.size
          rcases k with _ | k
          · have HT : Hid (T = Lib.decDigits n) := Lib.hid (by
              rcases HK.out with ⟨e, _⟩ | ⟨_, e⟩
              · omega
              · rw [e, Nat.pow_zero, Nat.div_one])
            have BS := Lib.hid (Tryz.Builder_String_any W.heap.size W.heap.size T wr hbld hszq)
            clear hbld
            go_wp2_with (go_at_call 47; refine BS.out.mono ?_; rintro e w7 ⟨rfl, hb7⟩)
            go_ret
            rw [HT.out]
            exact ⟨rfl, hbel.trans ((hbq.trans hb7).mono hsz)⟩
          · have hk1 : ((k + 1 : Nat) : Int) - 1 = (k : Int) := by omega
            rw [hk1]
            clear hk1
            have hki : k < (grps n i).length := by rw [grps_len]; omega
            obtain ⟨b, off, rfl, hbb, hcell⟩ := (HLG.out.below hbq).limb hki
            have hget : (grps n i)[k] = Ten.grp n k := by
              have := grps_at (v := n) (show k < i by omega)
              rw [List.getElem?_eq_getElem hki] at this
              exact Option.some.inj this
            rw [hget] at hcell
            have hgl := Ten.grp_lt n k
            have HTOP : Hid (k + 1 = i → Lib.decDigits (Ten.grp n k) = Lib.decDigits (n / 1000000000 ^ k)) := Lib.hid (fun e => Ten.grp_top (by rw [e]; exact HT0.out.1))
            have HLOW : Hid (k + 1 < i → Lib.decDigits (n / 1000000000 ^ k) = Lib.decDigits (n / 1000000000 ^ (k + 1)) ++ (List.replicate (9 - (Lib.decDigits (Ten.grp n k)).length) 48 ++ Lib.decDigits (Ten.grp n k))) := Lib.hid (fun e => Ten.grp_low (div_pos_of HT0.out.2 (by omega)))
            have HSH : Hid ((Lib.decDigits (n / 1000000000 ^ k)).length ≤ 10000) := Lib.hid (dec_short (Nat.div_le_self _ _) hvb.out)
            have hD := Ten.dec_len (k := 8) (show Ten.grp n k < 10 ^ 9 by simpa using hgl)
            have FU := Lib.hid (formatUint_any (Ten.grp n k) wr (by omega) (HTABW.out wr hbq))
            generalize Ten.grp n k = gq at *
            obtain ⟨D, hDe⟩ : ∃ D, D = Lib.decDigits gq := ⟨_, rfl⟩
            rw [← hDe] at HTOP HLOW hD FU
            clear hDe hget hki
            by_cases hlow : k + 1 < i
            · have HTT : Hid (T ++ (List.replicate (9 - D.length) 48 ++ D) = Lib.decDigits (n / 1000000000 ^ k)) := Lib.hid (by
                rcases HK.out with ⟨e, _⟩ | ⟨_, e⟩
                · omega
                · rw [HLOW.out hlow, e])
              clear HTOP HLOW HK
              go_wp2_with fail
              refine FU.out.mono ?_
              rintro e w6 ⟨rfl, hb6⟩
              have hbld6 := builder_below hbld hb6
              have hbq6 : Below W.heap.size W w6 := hbq.trans (hb6.mono hszq)
              have hsz6 := hbq6.size
              clear hbld hb6
              go_wp2_with fail
              have HTL : Hid ((T ++ (List.replicate (9 - D.length) 48 ++ D)).length ≤ 10000) := Lib.hid (by rw [HTT.out]; exact HSH.out)
              have hci : (9 : Int) - (D.length : Int) = ((9 - D.length : Nat) : Int) := by omega
              rw [hci]
              have RP := Lib.hid (Tryz.strings_Repeat ⟨#[48]⟩ (9 - D.length) w6 (by omega) (by show 1 * (9 - D.length) ≤ _; omega))
              rw [show (⟨#[48]⟩ : ByteArray).data.toList = [48] from rfl, rep_eq] at RP
              obtain ⟨Z, hZ⟩ : ∃ Z, Z = List.replicate (9 - D.length) (48 : UInt8) := ⟨_, rfl⟩
              have hZl : Z.length ≤ 9 := by rw [hZ, List.length_replicate]; omega
              rw [← hZ] at RP HTL HTT
              clear hZ hci
              refine RP.out.mono ?_
              rintro e w8 ⟨rfl, hb8⟩
              have hbld8 := builder_below hbld6 hb8
              have hbq8 : Below W.heap.size W w8 := hbq6.trans (hb8.mono hsz6)
              have hsz8 := hbq8.size
              have WS1 := Lib.hid (writeString_any W.heap.size W.heap.size _ ⟨Z.toArray⟩ w8 hbld8 (by rw [Lib.byteCells_length]; show T.length + Z.length ≤ _; omega) hsz8)
              clear hbld6 hb8 hbld8
              go_wp2_with fail
              refine WS1.out.mono ?_
              rintro e w9 ⟨rfl, hbd9, hb9⟩
              have hbld9 : Lib.IsBuilder 84 5 W.heap.size W.heap.size (Lib.byteCells (T ++ Z)) w9 := .inr (by rw [Lib.byteCells_append]; exact hbd9)
              have hbq9 : Below W.heap.size W w9 := hbq8.trans hb9
              have hsz9 := hbq9.size
              have WS2 := Lib.hid (writeString_any W.heap.size W.heap.size _ ⟨D.toArray⟩ w9 hbld9 (by rw [Lib.byteCells_length, List.length_append]; show T.length + Z.length + D.length ≤ _; omega) hsz9)
              clear hbd9 hb9 hbld9
              go_wp2_with (go_at_call 45; refine WS2.out.mono ?_; rintro e w7 ⟨rfl, hbd7, hb7⟩)
              go_roundw
              case rel => exact ⟨_, _, _, _, _, _, _, _, _, _, _, _, _, _, _, _, _, _, _, _, _, _, _, _, ⟨k, T ++ (Z ++ D), by omega, HTL.out, by go_num, .inr (by rw [← List.append_assoc, Lib.byteCells_append]; exact hbd7), hbq9.trans hb7, Lib.hid (.inr ⟨by omega, HTT.out⟩)⟩, rfl⟩
              case measure => first | (simp [intOf]; done) | (simp [intOf]; omega)
            · have HTT : Hid (T ++ D = Lib.decDigits (n / 1000000000 ^ k)) := Lib.hid (by
                rcases HK.out with ⟨_, e⟩ | ⟨h, _⟩
                · rw [e, List.nil_append]; exact HTOP.out (by omega)
                · omega)
              have HTL : Hid ((T ++ D).length ≤ 10000) := Lib.hid (by rw [HTT.out]; exact HSH.out)
              clear HTOP HLOW HK
              go_wp2_with fail
              refine FU.out.mono ?_
              rintro e w6 ⟨rfl, hb6⟩
              have hbld6 := builder_below hbld hb6
              have hbq6 : Below W.heap.size W w6 := hbq.trans (hb6.mono hszq)
              have hsz6 := hbq6.size
              have WS := Lib.hid (writeString_any W.heap.size W.heap.size _ ⟨D.toArray⟩ w6 hbld6 (by rw [Lib.byteCells_length]; show T.length + D.length ≤ _; omega) hsz6)
              clear hbld hb6 hbld6
              go_wp2_with (go_at_call 45; refine WS.out.mono ?_; rintro e w7 ⟨rfl, hbd7, hb7⟩)
              go_roundw
              case rel => exact ⟨_, _, _, _, _, _, _, _, _, _, _, _, _, _, _, _, _, _, _, _, _, _, _, _, ⟨k, T ++ D, by omega, HTL.out, by go_num, .inr (by rw [Lib.byteCells_append]; exact hbd7), hbq6.trans hb7, Lib.hid (.inr ⟨by omega, HTT.out⟩)⟩, rfl⟩
              case measure => first | (simp [intOf]; done) | (simp [intOf]; omega)
      · have hypos : 0 < (Nt.digs y).length := Nat.pos_of_ne_zero (fun e => hy0 (Nt.digs_nil_iff.1 (List.eq_nil_of_length_eq_zero e)))
        have hi2 : i < 1112 := rounds_le hvb.out (by rw [← H.out.1]; omega)
        have SH := Lib.hid (shorten_any w.heap.size cc 1000000000 (Nt.digs y) tl wr hblk (Nt.ok_digs y) (by omega) (by omega) (by omega))
        rw [Nt.val_digs] at SH
        have HGR : Hid (y % 1000000000 = Ten.grp n i) := Lib.hid (by rw [H.out.1]; rfl)
        rw [HGR.out] at SH
        have hgl := Ten.grp_lt n i
        have HNX : Hid (y / 1000000000 = n / 1000000000 ^ (i + 1) ∧ (i + 1 = 0 ∨ 0 < n / 1000000000 ^ (i + 1 - 1))) := Lib.hid ⟨by rw [H.out.1, Ten.div_next], .inr (by rw [Nat.add_sub_cancel, ← H.out.1]; omega)⟩
        have HLQ : Hid ((Nt.digs (y / 1000000000)).length ≤ 1000) := Lib.hid (Nat.le_trans (Nt.digs_len_le_of (Nat.div_le_self y _)) hyl)
        obtain ⟨gq, hgq⟩ : ∃ gq, gq = Ten.grp n i := ⟨_, rfl⟩
        have HNG : Hid (grps n (i + 1) = grps n i ++ [gq]) := Lib.hid (by rw [hgq]; exact grps_next n i)
        rw [← hgq] at SH hgl
        clear hgq hblk HGR
        go_wp2_with fail
        refine SH.out.mono ?_
        rintro e w3 ⟨cur, rfl, hblk3, HC, hgr3⟩
        have hbel3 : Below w.heap.size w w3 := hbel.grown hgr3 hsz (fun k hk => by injection hk with hk; omega)
        have hown3 : w3.ownsRow (w.heap.size + 1) 22 1 (.slice A2 i C2) i (U (grps n i)) := own_keep hown (fun g hg hgs => hgr3.block g hgs (by intro e; injection e with e; omega))
        have hsz3 := hbel3.size
        have hlt3 := hblk3.lt
        clear hown hgr3
        go_wp2_with (at_builtin; refine wpList_append_own _ rfl _ _ 24 rfl (w.heap.size + 1) 22 i0 (.int .u32 0) 1 4 Tryz.underlying24 hi hz0 hz1 hz2 rfl (by decide) _ _ _ rfl (hown3.alloc _) ⟨_, 0, none⟩ 1 1 [.int .u32 (gq : Int)] rfl rfl (cell_one_new _ _ _) (by intro u hu; simp only [List.mem_singleton] at hu; subst hu; rfl) (by unfold maxLen; omega) (by omega) (by simp; omega) ?_; intro v4 w4 hown4 hgrow4 hnn4)
        have hb4 : Below w.heap.size w w4 := (hbel3.alloc hsz3 _).grown hgrow4 (by simp; omega) (fun k hk => by have := (hown3.lt k hk).1; omega)
        have hblk4 : Blk w4 w.heap.size 22 (U cur ++ tl) := (hblk3.alloc _).grown hgrow4 (by intro e; have := (hown3.lt _ e.symm).1; omega)
        have hcy : cur.length = (Nt.digs y).length := HC.out.1
        have hl4 : Lies w4 w4.heap.size (some ⟨w.heap.size, 0, none⟩) (U cur) := by
          have := (hblk4.lies).take cur.length
          rwa [List.take_append_of_le_length (by rw [U_len]; omega), List.take_of_length_le (by rw [U_len]; omega)] at this
        have TR := Lib.hid (trim_any (some ⟨w.heap.size, 0, none⟩) cc _ cur w4 hl4 HC.out.2.1 (by omega) (by omega))
        rw [HC.out.2.2, hcy] at TR
        have hblk5 : ∃ tl2, Blk w4 w.heap.size 22 (U (Nt.digs (y / 1000000000)) ++ tl2) := ⟨U (cur.drop (Nt.digs (Nt.val cur)).length) ++ tl, by
          have e : U cur = U (Nt.digs (y / 1000000000)) ++ U (cur.drop (Nt.digs (Nt.val cur)).length) := by
            have e0 : cur = Nt.digs (Nt.val cur) ++ cur.drop (Nt.digs (Nt.val cur)).length := by
              conv => lhs; rw [← List.take_append_drop (Nt.digs (Nt.val cur)).length cur, Nt.take_digs HC.out.2.1]
            have e1 := congrArg U e0
            rw [show U (Nt.digs (Nt.val cur) ++ cur.drop (Nt.digs (Nt.val cur)).length) = U (Nt.digs (Nt.val cur)) ++ U (cur.drop (Nt.digs (Nt.val cur)).length) from List.map_append] at e1
            rw [← HC.out.2.2]
            exact e1
          rw [← List.append_assoc, ← e]; exact hblk4⟩
        obtain ⟨tl2, hblk5⟩ := hblk5
        have hlq := HLQ.out
        clear hl4 hblk4 hblk3 HC HLQ hcy
        obtain ⟨A4, C4, rfl, hD1, hD2⟩ := own_slice hown4
        refine TR.out.mono ?_
        rintro e w5 ⟨rfl, rfl⟩
        go_wp2_with fail
        refine ⟨⟨i + 1, y / 1000000000, _, tl2, by omega, hlq, Nat.le_refl _, hlq, rfl, hblk5, ?_, hb4, HNX⟩, by simp [sliceLen]; omega⟩
        rw [HNG.out]
        simpa [U] using hown4
end Go.Proofs.YtfiefglagknclaaGreatDoor

/-
  glyph.Decode: the characters of bytes.
-/
namespace Go.Proofs.YtfiefglagknclaaGreatDoor
open Go.RowKit
set_option maxHeartbeats 2000000
set_option maxRecDepth 100000
set_option linter.unusedVariables false

theorem i64_info : (Tryz.prog.info? 3).map (fun i => (i.zero, i.size, i.bytes)) = some (some (.int .i64 0), 1, 8) := by kernel_rfl
/-- Characters in memory. -/
def IsCh (w : World) (v : Value) (l : List Int) : Prop := ∃ A c, v = .slice A l.length c ∧ l.length ≤ c ∧ c ≤ 9223372036854775807 ∧ Lies w w.heap.size A (I64 l)
theorem IsCh.below {w w' : World} {v : Value} {l : List Int} (h : IsCh w v l) (hb : Below w.heap.size w w') : IsCh w' v l := by
  obtain ⟨A, c, h1, h2, h3, h5⟩ := h
  exact ⟨A, c, h1, h2, h3, (h5.below hb).more hb.size⟩
theorem IsCh.of_own {w : World} {base : Nat} {v : Value} {l : List Int} (h : w.ownsRow base 3 1 v l.length (I64 l)) : IsCh w v l := by
  obtain ⟨A, c, rfl, h1, h2⟩ := own_slice h
  exact ⟨A, c, rfl, h1, h2, Lies.of_own h⟩
/-- The characters, and where there is none (-1: nowhere). -/
def ChOut (w : World) (l : List Int) (bad : Int) (e : Ending) (w' : World) : Prop := ∃ v, e = .returned (.tuple #[v, .int .i64 bad]) ∧ IsCh w' v l ∧ Below w.heap.size w w'
theorem I64_append (a : List Int) (x : Int) : I64 (a ++ [x]) = I64 a ++ [.int .i64 x] := by unfold I64; simp
theorem ext_list (s : ByteArray) (i : Nat) : (s.extract i s.size).data.toList = s.data.toList.drop i := by
  simp
  exact List.take_of_length_le (by simp)

theorem decode_any (s : ByteArray) (w : World) (hs : s.size ≤ 1000000) :
    Calls Tryz.prog 32 #[.string s] w (ChOut w (Gl.ints (Gl.dec s 0).1) (Gl.badI (Gl.dec s 0).2)) := by
  obtain ⟨i0, hi, hz0, hz1, hz2⟩ := info_parts i64_info
  have HPX := Lib.hid (fun (t : ByteArray) (wx : World) => Tryz.strings_HasPrefix t ⟨#[239, 191, 189]⟩ wx)
  have hit0 : (w.iter s 0).heap[w.heap.size]? = some (.stringIter s 0) := by simp [World.iter_heap]
  have hbi0 : Below w.heap.size w (w.iter s 0) := (Below.refl _ _).alloc (Nat.le_refl _) _
  have hszi : (w.iter s 0).heap.size = w.heap.size + 1 := by simp [World.iter]
  have HI0 := Lib.hid hit0
  have HSI := Lib.hid hszi
  clear hit0 hszi
  go_enter Tryz.func32, Tryz.ntmps32
  go_wp2_with fail
  go_loopw [4] (fun ov wr => ∃ (pos : Nat) (done : List Nat), Hid (wr.heap[w.heap.size]? = some (.stringIter s pos)) ∧ wr.ownsRow (w.heap.size + 1) 3 1 ov done.length (I64 (Gl.ints done)) ∧ Below w.heap.size w wr ∧ w.heap.size + 1 ≤ wr.heap.size ∧ Hid (Gl.DecAt s pos done)) (fun _ wr => s.size - wr.iterPos w.heap.size)
  case atStart => exact ⟨0, [], HI0, World.ownsRow_nil _ _ _ _, hbi0, by rw [HSI.out]; exact Nat.le_refl _, Lib.hid (Gl.DecAt.start s)⟩
  case round =>
    clear hbi0
    obtain ⟨pos, done, HIT, hown, hbel, hsz, H⟩ := hrel
    have hdl := H.out.len
    have hIP : wr.iterPos w.heap.size = pos := by unfold World.iterPos; rw [HIT.out]
    have HIP := Lib.hid hIP
    clear hIP
    by_cases hp : pos < s.size
    · have hnx : ∀ ty, (Instr.next (.pointer (some ⟨w.heap.size, 0, none⟩)) true ty).run Tryz.prog wr = _ := fun ty => Lib.run_next_any_at wr w.heap.size s pos ty HIT.out hp
      have HPX2 := Lib.hid (by have := HPX.out (s.extract pos s.size); rw [ext_list] at this; exact this)
      cases hr : Gl.read s pos with
      | none =>
        obtain ⟨hd, hpre⟩ := Gl.sub_no hp hr
        have HB := Lib.hid (H.out.bad hp hr)
        have HPX3 := Lib.hid (fun wx => by have := HPX2.out wx; rw [hpre] at this; exact this)
        rw [hd] at hnx
        obtain ⟨W2, hW2⟩ : ∃ W2, W2 = wr.iterAt w.heap.size s (pos + 1) := ⟨_, rfl⟩
        have hown2 : W2.ownsRow (w.heap.size + 1) 3 1 u4 done.length (I64 (Gl.ints done)) := by
          rw [hW2]; exact own_keep hown (fun g hg _ => Lib.iterAt_other _ _ _ _ _ (by omega))
        have hbel2 : Below w.heap.size w W2 := by rw [hW2]; exact Lib.below_iterAt hbel (Nat.le_refl _) _ _
        have HL := Lib.hid (IsCh.of_own (by rw [show (Gl.ints done).length = done.length by simp [Gl.ints]]; exact hown2))
        simp only [← hW2] at hnx
        have HNE : Hid (Gl.ints (Gl.dec s 0).1 = Gl.ints done ∧ Gl.badI (Gl.dec s 0).2 = (pos : Int)) := Lib.hid (by rw [HB.out]; exact ⟨rfl, rfl⟩)
        have hps : pos ≤ s.size := by omega
        clear hd hpre hr HPX2 hown hbel hW2 H hown2
        go_wp2_with fail
        refine (HPX3.out _).mono ?_
        rintro e w' ⟨rfl, rfl⟩
        go_wp2_with fail
        go_ret2
        exact ⟨_, by rw [HNE.out.2]; rfl, by rw [HNE.out.1]; exact HL.out, hbel2⟩
      | some p =>
        obtain ⟨c, n⟩ := p
        obtain ⟨hd, hpre⟩ := Gl.sub_yes hp hr
        have hpos := Gl.read_pos hr
        have HST := Lib.hid (H.out.step hp hr)
        have hmay := Gl.read_may hp hr
        have hc : c ≤ 1114111 := by unfold Gl.may at hmay; simp at hmay; omega
        have HPX3 := Lib.hid (fun wx => by have := HPX2.out wx; exact this)
        rw [hd] at hnx
        obtain ⟨W2, hW2⟩ : ∃ W2, W2 = wr.iterAt w.heap.size s (pos + n) := ⟨_, rfl⟩
        have hown2 : W2.ownsRow (w.heap.size + 1) 3 1 u4 done.length (I64 (Gl.ints done)) := by
          rw [hW2]; exact own_keep hown (fun g hg _ => Lib.iterAt_other _ _ _ _ _ (by omega))
        have hbel2 : Below w.heap.size w W2 := by rw [hW2]; exact Lib.below_iterAt hbel (Nat.le_refl _) _ _
        have HIT2 : Hid (W2.heap[w.heap.size]? = some (.stringIter s (pos + n))) := Lib.hid (by rw [hW2]; exact Lib.iterAt_heap _ _ _ _ _ HIT.out)
        have hsz2 : w.heap.size + 1 ≤ W2.heap.size := by rw [hW2, Lib.iterAt_size]; exact hsz
        simp only [← hW2] at hnx
        have hps : pos ≤ s.size := by omega
        obtain ⟨A2, C2, rfl, hC1, hC2⟩ := own_slice hown2
        have hlen : (I64 (Gl.ints done)).length = done.length := by simp [I64, Gl.ints]
        have HAP : Hid (I64 (Gl.ints (done ++ [c])) = I64 (Gl.ints done) ++ [.int .i64 (c : Int)]) := Lib.hid (by unfold Gl.ints; rw [List.map_append, List.map_singleton, I64_append])
        clear hd hr HPX2 hown hbel hW2 H hmay HIT
        by_cases hce : c = 65533
        · have hp2 := hpre hce
          have q : ((c : Int) == 65533) = true := by rw [hce]; rfl
          have HPX4 := Lib.hid (fun wx => by have := HPX3.out wx; rw [hp2] at this; exact this)
          clear hce hpre hp2 HPX3
          go_wp2_with fail
          refine (HPX4.out _).mono ?_
          rintro e w' ⟨rfl, rfl⟩
          go_wp2_with (at_builtin; refine wpList_append_own _ rfl _ _ 62 rfl (w.heap.size + 1) 3 i0 (.int .i64 0) 1 8 Tryz.underlying62 hi hz0 hz1 hz2 rfl (by decide) _ _ _ rfl (hown2.alloc _) ⟨_, 0, none⟩ 1 1 [.int .i64 (c : Int)] rfl rfl (cell_one_new _ _ _) (by intro u hu; simp only [List.mem_singleton] at hu; subst hu; rfl) (by unfold maxLen; omega) (by omega) (by simp; omega) ?_; intro v3 w3 hown3 hgrow3 hnn3)
          have hbel3 : Below w.heap.size w w3 := (hbel2.alloc hbel2.size _).grown hgrow3 (by simp; omega) (fun k hk => by have := (hown2.lt k hk).1; omega)
          have HIT3 : Hid (w3.heap[w.heap.size]? = some (.stringIter s (pos + n))) := Lib.hid (by
            have hlt := blk_lt HIT2.out
            rw [hgrow3.block w.heap.size (by simp; omega) (fun e => by have := (hown2.lt _ e.symm).1; omega)]
            exact (Below.heap_alloc _ _ _ hlt).trans HIT2.out)
          have hsz3 : w.heap.size + 1 ≤ w3.heap.size := by have := hgrow3.size; simp at this; omega
          go_roundw
          case rel => exact ⟨pos + n, done ++ [c], HIT3, by rw [HAP.out]; simpa using hown3, hbel3, hsz3, HST⟩
          case measure =>
            have h1 : w3.iterPos w.heap.size = pos + n := by unfold World.iterPos; rw [HIT3.out]
            have h2 := HIP.out
            simp only [h1, h2]
            omega
        · have q : ((c : Int) == 65533) = false := beq_eq_false_iff_ne.2 (by omega)
          clear hce hpre HPX3
          go_wp2_with (at_builtin; refine wpList_append_own _ rfl _ _ 62 rfl (w.heap.size + 1) 3 i0 (.int .i64 0) 1 8 Tryz.underlying62 hi hz0 hz1 hz2 rfl (by decide) _ _ _ rfl (hown2.alloc _) ⟨_, 0, none⟩ 1 1 [.int .i64 (c : Int)] rfl rfl (cell_one_new _ _ _) (by intro u hu; simp only [List.mem_singleton] at hu; subst hu; rfl) (by unfold maxLen; omega) (by omega) (by simp; omega) ?_; intro v3 w3 hown3 hgrow3 hnn3)
          have hbel3 : Below w.heap.size w w3 := (hbel2.alloc hbel2.size _).grown hgrow3 (by simp; omega) (fun k hk => by have := (hown2.lt k hk).1; omega)
          have HIT3 : Hid (w3.heap[w.heap.size]? = some (.stringIter s (pos + n))) := Lib.hid (by
            have hlt := blk_lt HIT2.out
            rw [hgrow3.block w.heap.size (by simp; omega) (fun e => by have := (hown2.lt _ e.symm).1; omega)]
            exact (Below.heap_alloc _ _ _ hlt).trans HIT2.out)
          have hsz3 : w.heap.size + 1 ≤ w3.heap.size := by have := hgrow3.size; simp at this; omega
          go_roundw
          case rel => exact ⟨pos + n, done ++ [c], HIT3, by rw [HAP.out]; simpa using hown3, hbel3, hsz3, HST⟩
          case measure =>
            have h1 : w3.iterPos w.heap.size = pos + n := by unfold World.iterPos; rw [HIT3.out]
            have h2 := HIP.out
            simp only [h1, h2]
            omega
    · have hnx : ∀ ty, (Instr.next (.pointer (some ⟨w.heap.size, 0, none⟩)) true ty).run Tryz.prog wr = _ := fun ty => Lib.run_next_end_at wr w.heap.size s pos ty HIT.out hp
      have HB := Lib.hid (H.out.done hp)
      have HNE : Hid (Gl.ints (Gl.dec s 0).1 = Gl.ints done ∧ Gl.badI (Gl.dec s 0).2 = -1) := Lib.hid (by rw [HB.out]; exact ⟨rfl, rfl⟩)
      have HL := Lib.hid (IsCh.of_own (by rw [show (Gl.ints done).length = done.length by simp [Gl.ints]]; exact hown))
      clear hown H
      go_wp2_with fail
      go_ret2
      exact ⟨_, by rw [HNE.out.2]; rfl, by rw [HNE.out.1]; exact HL.out, hbel⟩
end Go.Proofs.YtfiefglagknclaaGreatDoor

/-
  glyph.Encode: the bytes of characters that may be.
-/
namespace Go.Proofs.YtfiefglagknclaaGreatDoor
open Go.RowKit
set_option maxHeartbeats 2000000
set_option maxRecDepth 100000
set_option linter.unusedVariables false

/-- A character's bytes, as cells. -/
theorem runeCells_one {x : Int} (h : Gl.may x = true) : Lib.runeCells x = Lib.byteCells (Tk.enc1 x) := by
  unfold Gl.may at h
  simp only [Bool.and_eq_true, Bool.or_eq_true, decide_eq_true_eq] at h
  obtain ⟨⟨h0, h1⟩, h2⟩ := h
  obtain ⟨n, rfl⟩ : ∃ n : Nat, x = (n : Int) := ⟨x.toNat, by omega⟩
  unfold Lib.runeCells Lib.byteCells Tk.enc1 Gl.one
  rw [Int.toNat_natCast]
  by_cases a : n < 128
  · rw [if_pos a, Lib.encodeRuneZ_one (by omega) (by omega)]
    simp
    omega
  · rw [if_neg a]
    by_cases b : n < 2048
    · rw [if_pos b, Lib.encodeRuneZ_two (by omega) (by omega)]
      simp
      omega
    · rw [if_neg b]
      by_cases c : n < 65536
      · rw [if_pos c, Lib.encodeRuneZ_three (by omega)]
        simp
        omega
      · rw [if_neg c, Lib.encodeRuneZ_four (by omega) (by omega)]
        simp
        omega
theorem enc_snoc (l : List Int) (x : Int) : Tk.enc (l ++ [x]) = Tk.enc l ++ Tk.enc1 x := by unfold Tk.enc; simp
theorem enc1_len (x : Int) : (Tk.enc1 x).length ≤ 4 := by unfold Tk.enc1; rw [List.length_map, Gl.one_len]; unfold Gl.wide; split <;> (try omega); split <;> (try omega); split <;> omega
theorem enc_len : ∀ l : List Int, (Tk.enc l).length ≤ 4 * l.length
  | [] => by simp [Tk.enc]
  | a :: r => by
    have h1 := enc1_len a
    have h2 := enc_len r
    unfold Tk.enc at h2 ⊢
    rw [List.flatMap_cons, List.length_append, List.length_cons]
    omega
theorem u8_info : (Tryz.prog.info? 5).map (fun i => (i.zero, i.size, i.bytes)) = some (some (.int .u8 0), 1, 1) := by kernel_rfl

/-- 'string(b)' of bytes that a call owns. -/
theorem conv_own {w : World} {base : Nat} {v : Value} {t : List UInt8} (h : w.ownsRow base 5 1 v t.length (Lib.byteCells t)) : (convert 82 9 v).run Tryz.prog w = .ok (.string ⟨t.toArray⟩) w := by
  obtain ⟨A, C, rfl, hC1, hC2⟩ := own_slice h
  have hl := Lies.of_own h
  by_cases h0 : t = []
  · subst h0
    cases A with
    | none => rw [run_convert_bytes_string w 82 9 5 none _ _ Tryz.underlying82 Tryz.underlying5 Tryz.underlying9]; rfl
    | some a => exact run_convert_bytes_back w 82 9 5 a C [] Tryz.underlying82 Tryz.underlying5 Tryz.underlying9 (fun j hj => by cases hj)
  · have hp : 0 < t.length := List.length_pos_iff.2 h0
    obtain ⟨b, off, hA, hb, g0⟩ := hl.at_ (k := 0) (by rw [Lib.byteCells_length]; exact hp)
    subst hA
    refine run_convert_bytes_back w 82 9 5 _ C t Tryz.underlying82 Tryz.underlying5 Tryz.underlying9 (fun j hj => ?_)
    obtain ⟨b', off', hA', hb', g'⟩ := hl.at_ (k := j) (by rw [Lib.byteCells_length]; exact hj)
    injection hA' with hA'
    injection hA' with e1 e2
    subst e1 e2
    rw [Addr.add_lit, g']
    simp [Lib.byteCells]

theorem encode_any (A : Option Addr) (c : Nat) (l : List Int) (w : World) (hl : Lies w w.heap.size A (I64 l)) (hn : l.length ≤ 1000000) (hm : ∀ x ∈ l, Gl.may x = true) :
    Calls Tryz.prog 102 #[.slice A l.length c] w fun e w' => e = .returned (.tuple #[.string ⟨(Tk.enc l).toArray⟩, .bool true]) ∧ Below w.heap.size w w' := by
  obtain ⟨i0, hi, hz0, hz1, hz2⟩ := info_parts u8_info
  have HL := Lib.hid hl
  have HM := Lib.hid hm
  clear hl hm
  go_enter Tryz.func102, Tryz.ntmps102
  go_wp2_with (at_make; refine wpList_make_blk _ rfl _ _ 82 rfl 5 i0 (.int .u8 0) Tryz.underlying82 hi hz0 hz1 rfl .i64 .i64 _ _ 0 l.length rfl rfl rfl rfl (by omega) (by rw [hz2]; omega) (by omega) w.heap.size w (Below.refl _ _) (Nat.le_refl _) ?_; intro w2 hblk2 hb2 hb2' hlt2)
  have hown2 : w2.ownsRow w.heap.size 5 1 (.slice (some ⟨w.heap.size, 0, none⟩) 0 l.length) 0 [] := by
    have := hblk2.own (base := w.heap.size) (n := 0) (Nat.le_refl _) (by omega) (by simp [maxLen]; omega)
    simpa using this
  clear hblk2 hb2' hlt2
  go_loopw [4, 12] (fun ov iv wr => ∃ i : Nat, i ≤ l.length ∧ iv = .int .i64 (i : Int) ∧ wr.ownsRow w.heap.size 5 1 ov (Tk.enc (l.take i)).length (Lib.byteCells (Tk.enc (l.take i))) ∧ Below w.heap.size w wr) (fun _ iv _ => l.length - (intOf iv).toNat)
  case atStart => exact ⟨0, Nat.zero_le _, rfl, hown2, hb2⟩
  case round =>
    clear hown2 hb2
    obtain ⟨i, hil, rfl, hown, hbel⟩ := hrel
    have hsz := hbel.size
    by_cases hlt : i < l.length
    · obtain ⟨b, off, rfl, hb, g0⟩ := lies_i64 (HL.out.below hbel) hlt
      have hmx := HM.out l[i] (List.getElem_mem hlt)
      have HT : Hid (Tk.enc (l.take (i + 1)) = Tk.enc (l.take i) ++ Tk.enc1 l[i]) := Lib.hid (by rw [List.take_succ_eq_append_getElem hlt, enc_snoc])
      have HRC := Lib.hid (runeCells_one hmx)
      have hel := enc_len (l.take i)
      have htl : (l.take i).length ≤ i := List.length_take_le _ _
      obtain ⟨x, hx⟩ : ∃ x, x = l[i] := ⟨_, rfl⟩
      rw [← hx] at g0 hmx HT HRC
      have MY := may_any x
      rw [hmx] at MY
      have HMY := Lib.hid MY
      have hx0 : 0 ≤ x := by unfold Gl.may at hmx; simp at hmx; omega
      have hx1 : x ≤ 1114111 := by unfold Gl.may at hmx; simp at hmx; omega
      obtain ⟨T, hT⟩ : ∃ T, T = Tk.enc (l.take i) := ⟨_, rfl⟩
      rw [← hT] at hown HT hel
      have AR := Lib.hid (fun (h : wr.ownsRow w.heap.size 5 1 u4 T.length (Lib.byteCells T)) => Tryz.utf8_AppendRune_plain w.heap.size u4 T.length (Lib.byteCells T) x (by omega) (by omega) wr h (by omega) hsz)
      have AR2 := Lib.hid (AR.out hown)
      have HOW := Lib.hid hown
      obtain ⟨A2, C2, rfl, hC1, hC2⟩ := own_slice hown
      clear hx MY hmx hT AR hown
      go_wp2_with fail
      refine (HMY.out _).mono ?_
      rintro e w' ⟨rfl, rfl⟩
      go_wp2_with fail
      refine AR2.out.mono ?_
      rintro e w3 ⟨v3, rfl, hown3, o, hgr⟩
      have hbel3 : Below w.heap.size w w3 := (hbel.alloc hsz o).grown hgr (by simp; omega) (fun k hk => (HOW.out.lt k hk).1)
      have hown4 : w3.ownsRow w.heap.size 5 1 v3 (Tk.enc (l.take (i + 1))).length (Lib.byteCells (Tk.enc (l.take (i + 1)))) := by
        rw [HT.out, List.length_append, Lib.byteCells_append, ← HRC.out, ← Lib.byteCells_length (Tk.enc1 x), ← HRC.out]
        exact hown3
      clear hown3 hgr AR2
      go_wp2_with fail
      go_roundw
      case rel => exact ⟨i + 1, by omega, by go_num, hown4, hbel3⟩
      case measure => simp [intOf]; omega
    · have e : l.take i = l := List.take_of_length_le (by omega)
      rw [e] at hown
      have hcv := conv_own hown
      obtain ⟨A2, C2, rfl, hC1, hC2⟩ := own_slice hown
      clear hown e
      go_wp2_with fail
      go_ret2
      exact ⟨rfl, hbel⟩
end Go.Proofs.YtfiefglagknclaaGreatDoor

/-
  token.name: the token of a name.
-/
namespace Go.Proofs.YtfiefglagknclaaGreatDoor
open Go.RowKit
set_option maxHeartbeats 4000000
set_option maxRecDepth 100000
set_option linter.unusedVariables false

theorem tok_info : (Tryz.prog.info? 67).map (·.size) = some 8 := by kernel_rfl
/-- A token's row. -/
def tokCells (k : Int) (neg : Bool) (n1 n2 lv : Value) (s : List UInt8) (c a : Int) : List Value := [.int .i64 k, .bool neg, n1, n2, lv, .string ⟨s.toArray⟩, .int .i64 c, .int .i64 a]
/-- A token (where it begins is not yet told), where it ends, and the error. -/
def TokOut (w : World) (t : Tk.Tok) (en : Nat) (er : Int) (e : Ending) (w' : World) : Prop :=
  ∃ n1 n2 lv, e = .returned (.tuple #[.agg (tokCells t.kind t.n.neg n1 n2 lv t.s t.c 0).toArray, .int .i64 (en : Int), .int .i64 er]) ∧ IsRes w' n1 t.n.top ∧ IsRes w' n2 t.n.bot ∧ w'.ownsRow 0 3 1 lv t.l.length (I64 t.l) ∧ Below w.heap.size w w'
theorem isCh_nil (w : World) : IsCh w (.slice none 0 0) [] := ⟨none, 0, rfl, Nat.le_refl _, by omega, .inl rfl⟩
theorem takeWhile_at (p : Int → Bool) : ∀ (l : List Int) (j : Nat), p (-1) = false → j ≤ (l.takeWhile p).length → (p (l.getD j (-1)) = true ↔ j < (l.takeWhile p).length)
  | [], j, hp, h => by
    have : j = 0 := by simpa using h
    subst this
    simp [hp]
  | a :: r, 0, hp, h => by
    rw [List.takeWhile_cons]
    cases ha : p a <;> simp [ha]
  | a :: r, j + 1, hp, h => by
    rw [List.takeWhile_cons] at h ⊢
    cases ha : p a
    · rw [ha] at h; simp at h
    · rw [ha] at h
      simp only [if_true, List.length_cons] at h ⊢
      have := takeWhile_at p r j hp (by omega)
      rw [show (a :: r).getD (j + 1) (-1) = r.getD j (-1) from rfl, this]
      omega
theorem drop_getD (l : List Int) (i j : Nat) : (l.drop i).getD j (-1) = l.getD (i + j) (-1) := by
  rw [List.getD_eq_getElem?_getD, List.getD_eq_getElem?_getD, List.getElem?_drop]
theorem words_at {l : List Int} {i j : Nat} (h : j ≤ Tk.words l i) : Tk.word (l.getD (i + j) (-1)) = true ↔ j < Tk.words l i := by
  unfold Tk.words at h ⊢
  rw [← drop_getD]
  exact takeWhile_at _ _ _ (by decide) h
theorem figures_at {l : List Int} {i j : Nat} (h : j ≤ Tk.figures l i) : Tk.digit (l.getD (i + j) (-1)) = true ↔ j < Tk.figures l i := by
  unfold Tk.figures at h ⊢
  rw [← drop_getD]
  exact takeWhile_at _ _ _ (by decide) h
theorem lies_cut {w : World} {B : Nat} {A : Option Addr} {l : List Int} (h : Lies w B A (I64 l)) (i n : Nat) (hin : i + n ≤ l.length) : ∀ A', (∀ b off, A = some ⟨b, off, none⟩ → A' = some ⟨b, off + i, none⟩) → Lies w B A' (I64 ((l.drop i).take n)) := by
  intro A' hA'
  by_cases h0 : n = 0
  · subst h0
    simp only [List.take_zero]
    exact .inl rfl
  · obtain ⟨b, off, e, hb, g0⟩ := lies_i64 h (k := i) (by omega)
    refine .inr ⟨b, off + i, hA' b off e, hb, fun k v hv => ?_⟩
    have hk : k < n := by
      rcases Nat.lt_or_ge k n with h' | h'
      · exact h'
      · rw [List.getElem?_eq_none (by simp [I64]; omega)] at hv; cases hv
    obtain ⟨b', off', e', hb', g'⟩ := lies_i64 h (k := i + k) (by omega)
    rw [e] at e'
    injection e' with e'
    injection e' with e1 e2
    subst e1 e2
    rw [show off + i + k = off + (i + k) by omega, g']
    rw [← hv]
    unfold I64
    rw [List.getElem?_map, List.getElem?_take, if_pos hk, List.getElem?_drop, List.getElem?_eq_getElem (by omega)]
    rfl
end Go.Proofs.YtfiefglagknclaaGreatDoor

/-
  scrimref20: at, digit, word, words, figures.
-/
namespace Go.Proofs.YtfiefglagknclaaGreatDoor
open Go.RowKit
set_option maxHeartbeats 4000000
set_option maxRecDepth 100000
set_option linter.unusedVariables false

theorem refAt_any (A : Option Addr) (c : Nat) (l : List Int) (i : Nat) (w : World) (hl : Lies w w.heap.size A (I64 l)) (hn : l.length ≤ 1000000) (hi : i ≤ 1000000) :
    Calls Tryz.prog 104 #[.slice A l.length c, .int .i64 (i : Int)] w fun e w' => e = .returned (.int .i64 (l.getD i (-1))) ∧ w = w' := by
  by_cases hlt : i < l.length
  · obtain ⟨b, off, rfl, hb, g0⟩ := lies_i64 hl hlt
    rw [Tk.getD_in hlt]
    generalize l[i] = x at *
    clear hl
    go_enter Tryz.func104, Tryz.ntmps104
    go_wp2_with fail
    go_ret
    exact ⟨rfl, rfl⟩
  · rw [Tk.getD_out (by omega)]
    clear hl
    generalize l.length = n at *
    go_enter Tryz.func104, Tryz.ntmps104
    go_wp2_with fail
    go_ret
    exact ⟨rfl, rfl⟩
theorem refDigit_any (x : Int) (w : World) :
    Calls Tryz.prog 123 #[.int .i64 x] w fun e w' => e = .returned (.bool (Tk.digit x)) ∧ w = w' := by
  obtain ⟨b1, hb1⟩ : ∃ b, decide (48 ≤ x) = b := ⟨_, rfl⟩
  obtain ⟨b2, hb2⟩ : ∃ b, decide (x ≤ 57) = b := ⟨_, rfl⟩
  have E : Hid (Tk.digit x = (b1 && b2)) := Lib.hid (by unfold Tk.digit; rw [hb1, hb2])
  go_enter Tryz.func123, Tryz.ntmps123
  cases b1 <;> cases b2
  all_goals
    go_wp2_with fail
    go_ret
    exact ⟨ret_bool E.out.symm, rfl⟩
theorem refWord_any (x : Int) (w : World) :
    Calls Tryz.prog 105 #[.int .i64 x] w fun e w' => e = .returned (.bool (Tk.word x)) ∧ Below w.heap.size w w' := by
  have DG := Lib.hid (refDigit_any x w)
  have CL := Lib.hid (refClass_any x w)
  have E : Hid (Tk.word x = (Tk.digit x || (Tk.cls x == 2))) := Lib.hid rfl
  obtain ⟨b, hb⟩ : ∃ b, b = Tk.digit x := ⟨_, rfl⟩
  obtain ⟨k, hk⟩ : ∃ k, k = Tk.cls x := ⟨_, rfl⟩
  rw [← hb] at DG E
  rw [← hk] at CL E
  clear hb hk
  go_enter Tryz.func105, Tryz.ntmps105
  go_wp2_with fail
  refine DG.out.mono ?_
  rintro e w' ⟨rfl, rfl⟩
  cases b
  · go_wp2_with fail
    refine CL.out.mono ?_
    rintro e w' ⟨rfl, hb⟩
    go_wp2_with fail
    go_ret
    exact ⟨ret_bool (by rw [E.out]; rfl), hb⟩
  · go_wp2_with fail
    go_ret
    exact ⟨ret_bool (by rw [E.out]; rfl), Below.refl _ _⟩
theorem refWords_any (A : Option Addr) (c : Nat) (l : List Int) (i : Nat) (w : World) (hl : Lies w w.heap.size A (I64 l)) (hn : l.length ≤ 100000) (hi : i ≤ 500000) :
    Calls Tryz.prog 72 #[.slice A l.length c, .int .i64 (i : Int)] w fun e w' => e = .returned (.int .i64 (Tk.words l i : Int)) ∧ Below w.heap.size w w' := by
  have AT := Lib.hid (fun (wx : World) (h : Below w.heap.size w wx) (m : Nat) (hm : m ≤ 1000000) => refAt_any A c l m wx ((hl.below h).more h.size) (by omega) hm)
  have WD := Lib.hid (fun (x : Int) (wx : World) => refWord_any x wx)
  have HWA := Lib.hid (fun (j : Nat) (h : j ≤ Tk.words l i) => words_at (l := l) (i := i) h)
  have hwl := Tk.words_le l i
  obtain ⟨n, hnw⟩ : ∃ n, n = Tk.words l i := ⟨_, rfl⟩
  rw [← hnw] at HWA hwl ⊢
  clear hnw hl
  go_enter Tryz.func72, Tryz.ntmps72
  go_wp2_with fail
  go_loopw [5] (fun ev wr => ∃ m : Nat, m ≤ n ∧ ev = .int .i64 (m : Int) ∧ Hid (Below w.heap.size w wr)) (fun ev _ => n - (intOf ev).toNat)
  case atStart => exact ⟨0, Nat.zero_le _, by go_num, Lib.hid (Below.refl _ _)⟩
  case round =>
    obtain ⟨m, hm, rfl, HB⟩ := hrel
    have A1 := AT.out wr HB.out (i + m) (by omega)
    rw [Int.natCast_add] at A1
    have A1 := Lib.hid A1
    have W1 := Lib.hid (WD.out (l.getD (i + m) (-1)) wr)
    have hw := Lib.hid (HWA.out m hm)
    obtain ⟨b, hb⟩ : ∃ b, b = Tk.word (l.getD (i + m) (-1)) := ⟨_, rfl⟩
    rw [← hb] at W1 hw
    clear hb
    obtain ⟨x, hx⟩ : ∃ x, x = l.getD (i + m) (-1) := ⟨_, rfl⟩
    rw [← hx] at A1 W1
    clear hx
    cases b
    · obtain rfl : m = n := by
        rcases Nat.lt_or_ge m n with h | h
        · have := hw.out.2 h; cases this
        · omega
      go_wp2_with fail
      refine A1.out.mono ?_
      rintro e w' ⟨rfl, rfl⟩
      go_wp2_with fail
      refine W1.out.mono ?_
      rintro e w' ⟨rfl, hb⟩
      go_wp2_with fail
      go_ret
      exact ⟨rfl, HB.out.trans (hb.mono HB.out.size)⟩
    · have hlt : m < n := hw.out.1 rfl
      go_wp2_with fail
      refine A1.out.mono ?_
      rintro e w' ⟨rfl, rfl⟩
      go_wp2_with fail
      refine W1.out.mono ?_
      rintro e w' ⟨rfl, hb⟩
      have HB2 : Hid (Below w.heap.size w w') := Lib.hid (HB.out.trans (hb.mono HB.out.size))
      clear hb
      go_wp2_with fail
      go_round
      case rel => exact ⟨m + 1, by omega, by go_num, HB2⟩
      case measure => simp [intOf]; omega
theorem refFigures_any (A : Option Addr) (c : Nat) (l : List Int) (i : Nat) (w : World) (hl : Lies w w.heap.size A (I64 l)) (hn : l.length ≤ 100000) (hi : i ≤ 500000) :
    Calls Tryz.prog 103 #[.slice A l.length c, .int .i64 (i : Int)] w fun e w' => e = .returned (.int .i64 (Tk.figures l i : Int)) ∧ w = w' := by
  have AT := Lib.hid (fun (m : Nat) (hm : m ≤ 1000000) => refAt_any A c l m w hl (by omega) hm)
  have WD := Lib.hid (fun (x : Int) => refDigit_any x w)
  have HWA := Lib.hid (fun (j : Nat) (h : j ≤ Tk.figures l i) => figures_at (l := l) (i := i) h)
  have hwl := Tk.figures_le l i
  obtain ⟨n, hnw⟩ : ∃ n, n = Tk.figures l i := ⟨_, rfl⟩
  rw [← hnw] at HWA hwl ⊢
  clear hnw hl
  go_enter Tryz.func103, Tryz.ntmps103
  go_wp2_with fail
  go_loop [5] (fun ev => ∃ m : Nat, m ≤ n ∧ ev = .int .i64 (m : Int)) (fun ev => n - (intOf ev).toNat)
  case atStart => exact ⟨0, Nat.zero_le _, by go_num⟩
  case round =>
    obtain ⟨m, hm, rfl⟩ := hrel
    have A1 := AT.out (i + m) (by omega)
    rw [Int.natCast_add] at A1
    have A1 := Lib.hid A1
    have W1 := Lib.hid (WD.out (l.getD (i + m) (-1)))
    have hw := Lib.hid (HWA.out m hm)
    obtain ⟨b, hb⟩ : ∃ b, b = Tk.digit (l.getD (i + m) (-1)) := ⟨_, rfl⟩
    rw [← hb] at W1 hw
    clear hb
    obtain ⟨x, hx⟩ : ∃ x, x = l.getD (i + m) (-1) := ⟨_, rfl⟩
    rw [← hx] at A1 W1
    clear hx
    cases b
    · obtain rfl : m = n := by
        rcases Nat.lt_or_ge m n with h | h
        · have := hw.out.2 h; cases this
        · omega
      go_wp2_with fail
      refine A1.out.mono ?_
      rintro e w' ⟨rfl, rfl⟩
      go_wp2_with fail
      refine W1.out.mono ?_
      rintro e w' ⟨rfl, rfl⟩
      go_wp2_with fail
      go_ret
      exact ⟨rfl, rfl⟩
    · have hlt : m < n := hw.out.1 rfl
      go_wp2_with fail
      refine A1.out.mono ?_
      rintro e w' ⟨rfl, rfl⟩
      go_wp2_with fail
      refine W1.out.mono ?_
      rintro e w' ⟨rfl, rfl⟩
      go_wp2_with fail
      go_round
      case rel => exact ⟨m + 1, by omega, by go_num⟩
      case measure => simp [intOf]; omega
end Go.Proofs.YtfiefglagknclaaGreatDoor

/-
  scrimref06: one, Encode.
-/
namespace Go.Proofs.YtfiefglagknclaaGreatDoor
open Go.RowKit
set_option maxHeartbeats 4000000
set_option maxRecDepth 100000
set_option linter.unusedVariables false

theorem own_of_new (w : World) (xs : List Value) (t : TypeId) (h : xs.length ≤ maxLen) : (w.alloc (.cells xs.toArray t)).ownsRow w.heap.size t 1 (.slice (some ⟨w.heap.size, 0, none⟩) xs.length xs.length) xs.length xs :=
  ⟨by simp, .inr ⟨w.heap.size, xs.length, xs.toArray, rfl, Nat.le_refl _, heap_alloc_new w _, Nat.le_refl _, h, by simp, by simp⟩⟩
theorem refOne_any (x : Nat) (w : World) (hx : x ≤ 1114111) :
    Calls Tryz.prog 66 #[.int .i64 (x : Int)] w fun e w' => ∃ v, e = .returned v ∧ w'.ownsRow w.heap.size 5 1 v (Tk.enc1 (x : Int)).length (Lib.byteCells (Tk.enc1 (x : Int))) ∧ Below w.heap.size w w' := by
  have E : Hid (Tk.enc1 (x : Int) = (Gl.one x).map UInt8.ofNat) := Lib.hid rfl
  by_cases h1 : x < 128
  · have E1 : Hid (Lib.byteCells (Tk.enc1 (x : Int)) = [.int .u8 (x : Int)]) := Lib.hid (by
      rw [E.out]; unfold Gl.one Lib.byteCells; rw [if_pos h1]; simp; omega)
    go_enter Tryz.func66, Tryz.ntmps66
    go_wp2_with fail
    go_ret
    refine ⟨_, rfl, ?_, (Below.refl _ _).alloc (Nat.le_refl _) _⟩
    rw [← Lib.byteCells_length (Tk.enc1 (x : Int)), E1.out]
    exact own_of_new w [_] _ (by simp [maxLen])
  · by_cases h2 : x < 2048
    · have E1 : Hid (Lib.byteCells (Tk.enc1 (x : Int)) = [.int .u8 (192 + (x : Int) / 64), .int .u8 (128 + (x : Int) % 64)]) := Lib.hid (by
        rw [E.out]; unfold Gl.one Lib.byteCells; rw [if_neg h1, if_pos h2]; simp; omega)
      go_enter Tryz.func66, Tryz.ntmps66
      go_wp2_with fail
      go_ret
      refine ⟨_, rfl, ?_, (Below.refl _ _).alloc (Nat.le_refl _) _⟩
      rw [← Lib.byteCells_length (Tk.enc1 (x : Int)), E1.out]
      exact own_of_new w [_, _] _ (by simp [maxLen])
    · have q1 : decide ((x : Int) < 128) = false := decide_eq_false (by omega)
      have q2 : decide ((x : Int) < 2048) = false := decide_eq_false (by omega)
      by_cases h3 : x < 65536
      · have q3 : decide ((x : Int) < 65536) = true := decide_eq_true (by omega)
        have E1 : Hid (Lib.byteCells (Tk.enc1 (x : Int)) = [.int .u8 (224 + (x : Int) / 4096), .int .u8 (128 + (x : Int) / 64 % 64), .int .u8 (128 + (x : Int) % 64)]) := Lib.hid (by
          rw [E.out]; unfold Gl.one Lib.byteCells; rw [if_neg h1, if_neg h2, if_pos h3]; simp; omega)
        have b1 : (x : Int) / 4096 < 16 := by omega
        clear h1 h2 h3
        go_enter Tryz.func66, Tryz.ntmps66
        go_wp2_with fail
        go_ret
        refine ⟨_, rfl, ?_, (Below.refl _ _).alloc (Nat.le_refl _) _⟩
        rw [← Lib.byteCells_length (Tk.enc1 (x : Int)), E1.out]
        exact own_of_new w [_, _, _] _ (by simp [maxLen])
      · have q3 : decide ((x : Int) < 65536) = false := decide_eq_false (by omega)
        have E1 : Hid (Lib.byteCells (Tk.enc1 (x : Int)) = [.int .u8 (240 + (x : Int) / 262144), .int .u8 (128 + (x : Int) / 4096 % 64), .int .u8 (128 + (x : Int) / 64 % 64), .int .u8 (128 + (x : Int) % 64)]) := Lib.hid (by
          rw [E.out]; unfold Gl.one Lib.byteCells; rw [if_neg h1, if_neg h2, if_neg h3]; simp; omega)
        have b1 : (x : Int) / 262144 < 16 := by omega
        clear h1 h2 h3
        go_enter Tryz.func66, Tryz.ntmps66
        go_wp2_with fail
        go_ret
        refine ⟨_, rfl, ?_, (Below.refl _ _).alloc (Nat.le_refl _) _⟩
        rw [← Lib.byteCells_length (Tk.enc1 (x : Int)), E1.out]
        exact own_of_new w [_, _, _, _] _ (by simp [maxLen])
theorem own_below3 {w w' : World} {base : Nat} {e : TypeId} {size n : Nat} {v : Value} {xs : List Value} (h : w.ownsRow base e size v n xs) (hb : Below w.heap.size w w') : w'.ownsRow base e size v n xs := by
  refine ⟨h.1, ?_⟩
  rcases h.2 with h0 | ⟨g, cap, cur, hv, hbs, hg, r⟩
  · exact .inl h0
  · exact .inr ⟨g, cap, cur, hv, hbs, (hb.block g (Array.getElem?_eq_some_iff.1 hg).1).trans hg, r⟩
theorem own_some {w : World} {base : Nat} {e : TypeId} {size n : Nat} {v : Value} {xs : List Value} (h : w.ownsRow base e size v n xs) (hn : 0 < n) : ∃ g cap, v = .slice (some ⟨g, 0, none⟩) n cap ∧ n ≤ cap ∧ g < w.heap.size := by
  rcases h.2 with ⟨_, h0⟩ | ⟨g, cap, cur, hv, _, hh, hc, _⟩
  · omega
  · exact ⟨g, cap, hv, hc, (Array.getElem?_eq_some_iff.1 hh).1⟩
theorem enc1_pos (x : Int) : 0 < (Tk.enc1 x).length := by unfold Tk.enc1; rw [List.length_map, Gl.one_len]; unfold Gl.wide; split <;> (try omega); split <;> (try omega); split <;> omega
theorem byteCells_one (t : List UInt8) : ∀ u ∈ Lib.byteCells t, u.oneCell' = true := by
  intro u hu
  unfold Lib.byteCells at hu
  simp only [List.mem_map] at hu
  obtain ⟨b, _, rfl⟩ := hu
  rfl
theorem refEncode_any (A : Option Addr) (c : Nat) (l : List Int) (w : World) (hl : Lies w w.heap.size A (I64 l)) (hn : l.length ≤ 1000000) (hm : ∀ x ∈ l, Gl.may x = true) :
    Calls Tryz.prog 73 #[.slice A l.length c] w fun e w' => e = .returned (.tuple #[.string ⟨(Tk.enc l).toArray⟩, .bool true]) ∧ Below w.heap.size w w' := by
  obtain ⟨i0, hi, hz0, hz1, hz2⟩ := info_parts u8_info
  have HL := Lib.hid hl
  have HM := Lib.hid hm
  clear hl hm
  go_enter Tryz.func73, Tryz.ntmps73
  go_wp2_with fail
  go_loopw [4, 5] (fun ov iv wr => ∃ i : Nat, i ≤ l.length ∧ iv = .int .i64 (i : Int) ∧ Hid (wr.ownsRow w.heap.size 5 1 ov (Tk.enc (l.take i)).length (Lib.byteCells (Tk.enc (l.take i)))) ∧ Hid (Below w.heap.size w wr)) (fun _ iv _ => l.length - (intOf iv).toNat)
  case atStart => exact ⟨0, Nat.zero_le _, rfl, Lib.hid (World.ownsRow_nil _ _ _ _), Lib.hid (Below.refl _ _)⟩
  case round =>
    obtain ⟨i, hil, rfl, HOW, HB⟩ := hrel
    by_cases hlt : i < l.length
    · obtain ⟨b, off, rfl, hb, g0⟩ := lies_i64 (HL.out.below HB.out) hlt
      have hmx := HM.out l[i] (List.getElem_mem hlt)
      have HT : Hid (Tk.enc (l.take (i + 1)) = Tk.enc (l.take i) ++ Tk.enc1 l[i]) := Lib.hid (by rw [List.take_succ_eq_append_getElem hlt, enc_snoc])
      have hel := enc_len (l.take i)
      have htl : (l.take i).length ≤ i := List.length_take_le _ _
      obtain ⟨x, hx⟩ : ∃ x, x = l[i] := ⟨_, rfl⟩
      rw [← hx] at g0 hmx HT
      have hx2 : 0 ≤ x ∧ x ≤ 1114111 := by
        unfold Gl.may at hmx
        simp at hmx
        omega
      obtain ⟨m, rfl⟩ : ∃ m : Nat, x = (m : Int) := ⟨x.toNat, by omega⟩
      have MY := refMay_any (m : Int) wr
      rw [hmx] at MY
      have HMY := Lib.hid MY
      have ON := Lib.hid (refOne_any m wr (by omega))
      obtain ⟨T, hT⟩ : ∃ T, T = Tk.enc (l.take i) := ⟨_, rfl⟩
      rw [← hT] at HOW HT hel
      obtain ⟨S, hS⟩ : ∃ S, S = Tk.enc1 (m : Int) := ⟨_, rfl⟩
      have hS0 : 0 < S.length := by rw [hS]; exact enc1_pos _
      have hS4 : S.length ≤ 4 := by rw [hS]; exact enc1_len _
      rw [← hS] at HT ON
      have hTn : T.length ≤ 4000000 := by omega
      have HB0 : Hid (b < wr.heap.size) := Lib.hid (Nat.lt_of_lt_of_le hb HB.out.size)
      clear hx MY hmx hT hS hx2 htl hel hb
      go_wp2_with fail
      refine HMY.out.mono ?_
      rintro e w' ⟨rfl, rfl⟩
      go_wp2_with fail
      refine ON.out.mono ?_
      rintro e w3 ⟨v3, rfl, hown3, hb3⟩
      obtain ⟨g, cap, rfl, hcap, hg⟩ := own_some hown3 hS0
      have HC3 := Lib.hid (hown3.cells (g := g) rfl)
      have HO3 := Lib.hid (own_below3 HOW.out hb3)
      have HB3 := Lib.hid (HB.out.trans (hb3.mono HB.out.size))
      have HS3 : Hid (w.heap.size ≤ w3.heap.size) := Lib.hid HB3.out.size
      clear hown3 hb3 hcap hg
      go_wp2_with (at_builtin; refine wpList_append_own _ rfl (.tmp 18) (.tmp 23) 82 rfl w.heap.size 5 i0 (.int .u8 0) 1 1 Tryz.underlying82 hi hz0 hz1 hz2 rfl (by decide) _ T.length (Lib.byteCells T) rfl HO3.out ⟨g, 0, none⟩ S.length cap (Lib.byteCells S) rfl (by rw [Lib.byteCells_length, Nat.mul_one]) HC3.out (byteCells_one S) (by unfold maxLen; omega) (by omega) HS3.out ?_; intro v' w4 hown4 hgr hnil)
      have HB4 : Hid (Below w.heap.size w w4) := Lib.hid (HB3.out.grown hgr HS3.out (fun k hk => (HO3.out.lt k hk).1))
      have HO4 : Hid (w4.ownsRow w.heap.size 5 1 v' (Tk.enc (l.take (i + 1))).length (Lib.byteCells (Tk.enc (l.take (i + 1))))) := Lib.hid (by
        rw [HT.out, List.length_append, Lib.byteCells_append]
        exact hown4)
      clear hown4 hgr hnil
      go_wp2_with fail
      go_round
      case rel => exact ⟨i + 1, hlt, by go_num, HO4, HB4⟩
      case measure => simp [intOf]; omega
    · have e : l.take i = l := List.take_of_length_le (by omega)
      rw [e] at HOW
      have hcv := conv_own HOW.out
      obtain ⟨A2, C2, rfl, hC1, hC2⟩ := own_slice HOW.out
      clear e
      go_wp2_with fail
      go_ret2
      exact ⟨rfl, HB.out⟩
end Go.Proofs.YtfiefglagknclaaGreatDoor

/-
  token.name: the token of a name.
-/
namespace Go.Proofs.YtfiefglagknclaaGreatDoor
open Go.RowKit
set_option maxHeartbeats 4000000
set_option maxRecDepth 100000
set_option linter.unusedVariables false

/-- What is read at a place, as the program tells it. -/
def ReadOut (w : World) (l : List Int) (i : Nat) : Ending → World → Prop := TokOut w (Tk.read l i).1 (if (Tk.read l i).2.2 = 0 then i + (Tk.read l i).2.1 else 0) (Tk.read l i).2.2
theorem tok_one (k c a : Int) (neg : Bool) (a1 a2 a3 : Option Addr) (m1 c1 m2 c2 m3 c3 : Nat) (s : ByteArray) : (#[.int .i64 k, .bool neg, .slice a1 m1 c1, .slice a2 m2 c2, .slice a3 m3 c3, .string s, .int .i64 c, .int .i64 a] : Array Value).all (·.oneCell') = true := by
  simp [Value.oneCell']
theorem tok_infoR (x0 x1 x2 x3 x4 x5 x6 x7 : Value) : (Tryz.prog.info? 67).map (·.size) = some (#[x0, x1, x2, x3, x4, x5, x6, x7] : Array Value).size := tok_info
theorem results_cell_row_tmp2 {P : Program} {fn : Func} {p q r : Tmp} {ty : TypeId} (h : fn.results = #[.cell p ty, .tmp q, .tmp r]) (tmps : Array Value) (w : World) (g : Nat) (t : TypeId) (cs : Array Value) (fr : Nat × Nat) (d : TypeDesc) (u v : Value)
    (hp : tmps.getD p undef = .pointer (some ⟨g, 0, none⟩)) (hq : tmps.getD q undef = u) (hr : tmps.getD r undef = v) (hg : w.heap[g]? = some (.cells cs t fr))
    (hu : P.underlying ty = some d) (hd : (match d with | .struct _ | .array _ _ => true | _ => false) = true) (hi : (P.info? ty).map (·.size) = some cs.size) :
    (results fn tmps).run P w = .ok (.tuple #[.agg cs, u, v]) w := by
  have hp' : tmps[p]?.getD undef = .pointer (some ⟨g, 0, none⟩) := by simpa using hp
  have hq' : tmps[q]?.getD undef = u := by simpa using hq
  have hr' : tmps[r]?.getD undef = v := by simpa using hr
  simp [results, h, hp', hq', hr', asAddr, run_loadVar_row w g t ty cs fr d hg hu hd hi]
theorem read_name {l : List Int} {i : Nat} (hc : Tk.cls (l.getD i (-1)) = 2) : Tk.read l i = if 16 < Tk.words l i then (Tk.none_, 0, 1) else (⟨if l.getD i (-1) ≤ 90 then 3 else 2, Rt.none_, [], Tk.enc ((l.drop i).take (Tk.words l i)), 0, i⟩, Tk.words l i, 0) := by
  unfold Tk.read
  simp only
  rw [if_neg (by rw [hc]; decide), if_pos hc]
theorem cls2_range {x : Int} (h : Tk.cls x = 2) : 65 ≤ x ∧ (x ≤ 90 ∨ 90 < x) := by
  unfold Tk.cls at h
  split at h
  · cases h
  · split at h
    · omega
    · exfalso
      repeat' split at h
      all_goals (first | cases h | omega)

theorem name_any (A : Option Addr) (c : Nat) (l : List Int) (i : Nat) (w : World) (hl : Lies w w.heap.size A (I64 l)) (hn : l.length ≤ 100000) (hcap : l.length ≤ c) (hm : ∀ x ∈ l, Gl.may x = true) (hi : i < l.length) (hc : Tk.cls (l.getD i (-1)) = 2) :
    Calls Tryz.prog 61 #[.slice A l.length c, .int .i64 (i : Int)] w (ReadOut w l i) := by
  have HRD := Lib.hid (read_name hc)
  have HR : Hid (∀ e w', TokOut w (Tk.read l i).1 (if (Tk.read l i).2.2 = 0 then i + (Tk.read l i).2.1 else 0) (Tk.read l i).2.2 e w' → ReadOut w l i e w') := Lib.hid (fun e w' h => h)
  obtain ⟨W, hW⟩ : ∃ W, W = w.alloc (.cells #[.int .i64 0, .bool false, .slice none 0 0, .slice none 0 0, .slice none 0 0, .string ⟨#[]⟩, .int .i64 0, .int .i64 0] 67) := ⟨_, rfl⟩
  have hb0 : Below w.heap.size w W := by rw [hW]; exact (Below.refl _ _).alloc (Nat.le_refl _) _
  have HGA : Hid (W.heap[w.heap.size]? = some (.cells #[.int .i64 0, .bool false, .slice none 0 0, .slice none 0 0, .slice none 0 0, .string ⟨#[]⟩, .int .i64 0, .int .i64 0] 67 (0, 0))) := Lib.hid (by rw [hW]; exact heap_alloc_new w _)
  have HWS : Hid (W.heap.size = w.heap.size + 1) := Lib.hid (by rw [hW]; simp)
  have hlW : Lies W W.heap.size A (I64 l) := (hl.below hb0).more hb0.size
  have LT := Lib.hid (fun (m : Nat) (h : m ≤ 1000000) => letter_any A c l m W hlW (by omega) h)
  have DG := Lib.hid (fun (m : Nat) (h : m ≤ 1000000) => digit_any A c l m W hlW (by omega) h)
  have hwl := Tk.words_le l i
  have HWA := Lib.hid (fun (j : Nat) (h : j ≤ Tk.words l i) => words_at (l := l) (i := i) h)
  have HWP : Hid (0 < Tk.words l i) := Lib.hid (Tk.words_pos hi (by unfold Tk.word; rw [hc]; simp))
  have HL := Lib.hid hlW
  have HM := Lib.hid hm
  have HC := Lib.hid hc
  have HW : Hid (W = w.alloc (.cells #[.int .i64 0, .bool false, .slice none 0 0, .slice none 0 0, .slice none 0 0, .string ⟨#[]⟩, .int .i64 0, .int .i64 0] 67)) := Lib.hid hW
  obtain ⟨n, hnw⟩ : ∃ n, n = Tk.words l i := ⟨_, rfl⟩
  rw [← hnw] at HRD hwl HWA HWP
  have HNW := Lib.hid hnw
  clear hl hlW hm hc hW hnw
  go_enter Tryz.func61, Tryz.ntmps61
  go_upto_region 1 with fail
  rw [← HW.out]
  go_wp2_with fail
  go_loop [7] (fun ev => ∃ m : Nat, i ≤ m ∧ m ≤ i + n ∧ ev = .int .i64 (m : Int)) (fun ev => i + n - (intOf ev).toNat)
  case atStart => exact ⟨i, Nat.le_refl _, by omega, rfl⟩
  case round =>
    obtain ⟨m, hm1, hm2, rfl⟩ := hrel
    have hwat := HWA.out (m - i) (by omega)
    rw [show i + (m - i) = m by omega] at hwat
    have LT2 := LT.out m (by omega)
    have DG2 := DG.out m (by omega)
    unfold Tk.word at hwat
    generalize (Tk.cls (l.getD m (-1)) == 2) = b1 at *
    generalize Tk.digit (l.getD m (-1)) = b2 at *
    have HLT2 := Lib.hid LT2
    have HDG2 := Lib.hid DG2
    clear LT2 DG2
    by_cases hlt : m < i + n
    · have hb : (b2 || b1) = true := hwat.2 (by omega)
      clear hwat
      cases b1
      · have hb2 : b2 = true := by simpa using hb
        subst hb2
        clear hb
        go_wp2_with fail
        refine HLT2.out.mono ?_
        rintro e w' ⟨rfl, rfl⟩
        go_wp2_with fail
        refine HDG2.out.mono ?_
        rintro e w' ⟨rfl, rfl⟩
        go_wp2_with fail
        go_round
        case rel => exact ⟨m + 1, by omega, by omega, by go_num⟩
        case measure => simp [intOf]; omega
      · clear hb
        go_wp2_with fail
        refine HLT2.out.mono ?_
        rintro e w' ⟨rfl, rfl⟩
        go_wp2_with fail
        go_round
        case rel => exact ⟨m + 1, by omega, by omega, by go_num⟩
        case measure => simp [intOf]; omega
    · have hb : (b2 || b1) = false := by
        rw [Bool.eq_false_iff]; intro h; exact hlt (by have := hwat.1 h; omega)
      obtain ⟨hb2, hb1⟩ : b2 = false ∧ b1 = false := by cases b2 <;> cases b1 <;> simp at hb ⊢
      subst hb1 hb2
      obtain rfl : m = i + n := by omega
      clear hb hwat hlt hm1 hm2
      have hmi : ((i + n : Nat) : Int) - (i : Int) = (n : Int) := by omega
      go_wp2_with fail
      refine HLT2.out.mono ?_
      rintro e w' ⟨rfl, rfl⟩
      go_wp2_with fail
      refine HDG2.out.mono ?_
      rintro e w' ⟨rfl, rfl⟩
      clear HLT2 HDG2 LT DG
      by_cases h16 : 16 < n
      · have q16 : decide (16 < (n : Int)) = true := decide_eq_true (by omega)
        have HRE : Hid (Tk.read l i = (Tk.none_, 0, 1)) := Lib.hid (by rw [HRD.out, if_pos h16])
        go_wp2_with (with_reducible refine wpList_store_row rfl 67 (.tmp 4) (.tmp 24) rfl w.heap.size #[.int .i64 0, .bool false, .slice none 0 0, .slice none 0 0, .slice none 0 0, .string ⟨#[]⟩, .int .i64 0, .int .i64 0] rfl rfl 67 #[.int .i64 0, .bool false, .slice none 0 0, .slice none 0 0, .slice none 0 0, .string ⟨#[]⟩, .int .i64 0, .int .i64 0] HGA.out (tok_infoR _ _ _ _ _ _ _ _) rfl (tok_one _ _ _ _ _ _ _ _ _ _ _ _ _ _) ?_)
        refine bodyPost_ret (results_cell_row_tmp2 (by rfl) _ _ w.heap.size 67 #[.int .i64 0, .bool false, .slice none 0 0, .slice none 0 0, .slice none 0 0, .string ⟨#[]⟩, .int .i64 0, .int .i64 0] (0, 0) _ _ _ (by rfl) (by rfl) (by rfl) (rheap_same HGA.out) Tryz.underlying67 rfl (tok_infoR _ _ _ _ _ _ _ _)) rfl (HR.out _ _ ?_)
        rw [HRE.out]
        exact ⟨_, _, _, rfl, isRes_nil _, isRes_nil _, World.ownsRow_nil _ _ _ _, rBelow.setRow hb0 (Nat.le_refl _) _⟩
      · have q16 : decide (16 < (n : Int)) = false := decide_eq_false (by omega)
        obtain ⟨x, hx⟩ : ∃ x, x = l.getD i (-1) := ⟨_, rfl⟩
        have HRE : Hid (Tk.read l i = (⟨if x ≤ 90 then 3 else 2, Rt.none_, [], Tk.enc ((l.drop i).take n), 0, i⟩, n, 0)) := Lib.hid (by rw [HRD.out, if_neg h16, hx])
        obtain ⟨W2, hW2⟩ : ∃ W2, W2 = W.alloc (.cells #[.int .i64 2, .bool false, .slice none 0 0, .slice none 0 0, .slice none 0 0, .string ⟨#[]⟩, .int .i64 0, .int .i64 0] 67) := ⟨_, rfl⟩
        have hbW : Below W.heap.size W W2 := by rw [hW2]; exact (Below.refl _ _).alloc (Nat.le_refl _) _
        have HB2 : Hid (Blk W2 W.heap.size 67 [.int .i64 2, .bool false, .slice none 0 0, .slice none 0 0, .slice none 0 0, .string ⟨#[]⟩, .int .i64 0, .int .i64 0]) := Lib.hid (by rw [hW2]; exact Blk.new W _ _)
        have HW2 := Lib.hid hW2
        have hcr := cls2_range (show Tk.cls x = 2 by rw [hx]; exact HC.out)
        obtain ⟨b, off, rfl, hb, g0⟩ := lies_i64 (HL.out.below hbW) hi
        rw [← Tk.getD_in hi, ← hx] at g0
        have HXV := Lib.hid hx
        clear hx hW2
        go_upto_region 7 with fail
        rw [← HW2.out]
        have hx65 : 65 ≤ x := hcr.1
        have HL2 : Hid (Lies W W.heap.size (some ⟨b, off + i, none⟩) (I64 ((l.drop i).take n))) := Lib.hid (lies_cut HL.out i n (by omega) _ (fun b' off' e => by injection e with e; injection e with e1 e2; subst e1 e2; rfl))
        have EN := Lib.hid (fun (wx : World) (h : Below W.heap.size W wx) (c' : Nat) => encode_any (some ⟨b, off + i, none⟩) c' ((l.drop i).take n) wx ((HL2.out.below h).more h.size) (by simp; omega) (fun y hy => HM.out y (List.mem_of_mem_drop (List.mem_of_mem_take hy))))
        have hlen : ((l.drop i).take n).length = n := by simp; omega
        rw [hlen] at EN
        have HBW := Lib.hid hbW
        by_cases h90 : x ≤ 90
        · rw [if_pos h90] at HRE
          have hcell : W2.cell? ⟨W.heap.size, 0, none⟩ = some (.int .i64 2) := HB2.out.cell rfl
          have hfroz : W2.frozen? ⟨W.heap.size, 0, none⟩ = false := HB2.out.frozen 0
          have HB3 : Hid (Blk (W2.setCell ⟨W.heap.size, 0, none⟩ (.int .i64 3)) W.heap.size 67 [.int .i64 3, .bool false, .slice none 0 0, .slice none 0 0, .slice none 0 0, .string ⟨#[]⟩, .int .i64 0, .int .i64 0]) := Lib.hid (HB2.out.set_ 0 _)
          have HBW3 : Hid (Below W.heap.size W (W2.setCell ⟨W.heap.size, 0, none⟩ (.int .i64 3))) := Lib.hid (HBW.out.setCell (Nat.le_refl _) _)
          go_wp2_with fail
          refine (EN.out _ HBW3.out _).mono ?_
          rintro e w3 ⟨rfl, hb3⟩
          have HBW4 : Hid (Below W.heap.size W w3) := Lib.hid (HBW3.out.trans (hb3.mono (Nat.le_of_lt HB3.out.lt)))
          have HB4 : Hid (Blk w3 W.heap.size 67 [.int .i64 3, .bool false, .slice none 0 0, .slice none 0 0, .slice none 0 0, .string ⟨#[]⟩, .int .i64 0, .int .i64 0]) := Lib.hid (HB3.out.keep hb3 HB3.out.lt)
          have hcell5 : w3.cell? ⟨W.heap.size, 5, none⟩ = some (.string ⟨#[]⟩) := HB4.out.cell rfl
          have hfroz5 : w3.frozen? ⟨W.heap.size, 5, none⟩ = false := HB4.out.frozen 5
          have HB5 : Hid (Blk (w3.setCell ⟨W.heap.size, 5, none⟩ (.string ⟨(Tk.enc ((l.drop i).take n)).toArray⟩)) W.heap.size 67 [.int .i64 3, .bool false, .slice none 0 0, .slice none 0 0, .slice none 0 0, .string ⟨(Tk.enc ((l.drop i).take n)).toArray⟩, .int .i64 0, .int .i64 0]) := Lib.hid (HB4.out.set_ 5 _)
          have HBW5 : Hid (Below W.heap.size W (w3.setCell ⟨W.heap.size, 5, none⟩ (.string ⟨(Tk.enc ((l.drop i).take n)).toArray⟩))) := Lib.hid (HBW4.out.setCell (Nat.le_refl _) _)
          have HG5 : Hid ((w3.setCell ⟨W.heap.size, 5, none⟩ (.string ⟨(Tk.enc ((l.drop i).take n)).toArray⟩)).heap[w.heap.size]? = some (.cells #[.int .i64 0, .bool false, .slice none 0 0, .slice none 0 0, .slice none 0 0, .string ⟨#[]⟩, .int .i64 0, .int .i64 0] 67 (0, 0))) := Lib.hid ((HBW5.out.block w.heap.size (by rw [HWS.out]; omega)).trans HGA.out)
          have HG6 : Hid ((w3.setCell ⟨W.heap.size, 5, none⟩ (.string ⟨(Tk.enc ((l.drop i).take n)).toArray⟩)).heap[W.heap.size]? = some (.cells #[.int .i64 3, .bool false, .slice none 0 0, .slice none 0 0, .slice none 0 0, .string ⟨(Tk.enc ((l.drop i).take n)).toArray⟩, .int .i64 0, .int .i64 0] 67 (0, 0))) := HB5
          clear hb3 EN
          go_wp2_with (first | (with_reducible refine wpList_load_row rfl 67 (.tmp 8) rfl W.heap.size rfl 67 #[.int .i64 3, .bool false, .slice none 0 0, .slice none 0 0, .slice none 0 0, .string ⟨(Tk.enc ((l.drop i).take n)).toArray⟩, .int .i64 0, .int .i64 0] (0, 0) _ HG6.out Tryz.underlying67 rfl (tok_infoR _ _ _ _ _ _ _ _) ?_) | (with_reducible refine wpList_store_row rfl 67 (.tmp 4) (.tmp 48) rfl w.heap.size #[.int .i64 3, .bool false, .slice none 0 0, .slice none 0 0, .slice none 0 0, .string ⟨(Tk.enc ((l.drop i).take n)).toArray⟩, .int .i64 0, .int .i64 0] rfl rfl 67 #[.int .i64 0, .bool false, .slice none 0 0, .slice none 0 0, .slice none 0 0, .string ⟨#[]⟩, .int .i64 0, .int .i64 0] HG5.out (tok_infoR _ _ _ _ _ _ _ _) rfl (tok_one _ _ _ _ _ _ _ _ _ _ _ _ _ _) ?_))
          refine bodyPost_ret (results_cell_row_tmp2 (by rfl) _ _ w.heap.size 67 #[.int .i64 3, .bool false, .slice none 0 0, .slice none 0 0, .slice none 0 0, .string ⟨(Tk.enc ((l.drop i).take n)).toArray⟩, .int .i64 0, .int .i64 0] (0, 0) _ _ _ (by rfl) (by rfl) (by rfl) (rheap_same HG5.out) Tryz.underlying67 rfl (tok_infoR _ _ _ _ _ _ _ _)) rfl (HR.out _ _ ?_)
          rw [HRE.out]
          exact ⟨_, _, _, rfl, isRes_nil _, isRes_nil _, World.ownsRow_nil _ _ _ _, rBelow.setRow (hb0.trans (HBW5.out.mono (by rw [HWS.out]; omega))) (Nat.le_refl _) _⟩
        · have q90 : decide (x ≤ 90) = false := decide_eq_false h90
          rw [if_neg h90] at HRE
          have HB3 := HB2
          have HBW3 := HBW
          go_wp2_with fail
          refine (EN.out _ HBW3.out _).mono ?_
          rintro e w3 ⟨rfl, hb3⟩
          have HBW4 : Hid (Below W.heap.size W w3) := Lib.hid (HBW3.out.trans (hb3.mono (Nat.le_of_lt HB3.out.lt)))
          have HB4 : Hid (Blk w3 W.heap.size 67 [.int .i64 2, .bool false, .slice none 0 0, .slice none 0 0, .slice none 0 0, .string ⟨#[]⟩, .int .i64 0, .int .i64 0]) := Lib.hid (HB3.out.keep hb3 HB3.out.lt)
          have hcell5 : w3.cell? ⟨W.heap.size, 5, none⟩ = some (.string ⟨#[]⟩) := HB4.out.cell rfl
          have hfroz5 : w3.frozen? ⟨W.heap.size, 5, none⟩ = false := HB4.out.frozen 5
          have HB5 : Hid (Blk (w3.setCell ⟨W.heap.size, 5, none⟩ (.string ⟨(Tk.enc ((l.drop i).take n)).toArray⟩)) W.heap.size 67 [.int .i64 2, .bool false, .slice none 0 0, .slice none 0 0, .slice none 0 0, .string ⟨(Tk.enc ((l.drop i).take n)).toArray⟩, .int .i64 0, .int .i64 0]) := Lib.hid (HB4.out.set_ 5 _)
          have HBW5 : Hid (Below W.heap.size W (w3.setCell ⟨W.heap.size, 5, none⟩ (.string ⟨(Tk.enc ((l.drop i).take n)).toArray⟩))) := Lib.hid (HBW4.out.setCell (Nat.le_refl _) _)
          have HG5 : Hid ((w3.setCell ⟨W.heap.size, 5, none⟩ (.string ⟨(Tk.enc ((l.drop i).take n)).toArray⟩)).heap[w.heap.size]? = some (.cells #[.int .i64 0, .bool false, .slice none 0 0, .slice none 0 0, .slice none 0 0, .string ⟨#[]⟩, .int .i64 0, .int .i64 0] 67 (0, 0))) := Lib.hid ((HBW5.out.block w.heap.size (by rw [HWS.out]; omega)).trans HGA.out)
          have HG6 : Hid ((w3.setCell ⟨W.heap.size, 5, none⟩ (.string ⟨(Tk.enc ((l.drop i).take n)).toArray⟩)).heap[W.heap.size]? = some (.cells #[.int .i64 2, .bool false, .slice none 0 0, .slice none 0 0, .slice none 0 0, .string ⟨(Tk.enc ((l.drop i).take n)).toArray⟩, .int .i64 0, .int .i64 0] 67 (0, 0))) := HB5
          clear hb3 EN
          go_wp2_with (first | (with_reducible refine wpList_load_row rfl 67 (.tmp 8) rfl W.heap.size rfl 67 #[.int .i64 2, .bool false, .slice none 0 0, .slice none 0 0, .slice none 0 0, .string ⟨(Tk.enc ((l.drop i).take n)).toArray⟩, .int .i64 0, .int .i64 0] (0, 0) _ HG6.out Tryz.underlying67 rfl (tok_infoR _ _ _ _ _ _ _ _) ?_) | (with_reducible refine wpList_store_row rfl 67 (.tmp 4) (.tmp 48) rfl w.heap.size #[.int .i64 2, .bool false, .slice none 0 0, .slice none 0 0, .slice none 0 0, .string ⟨(Tk.enc ((l.drop i).take n)).toArray⟩, .int .i64 0, .int .i64 0] rfl rfl 67 #[.int .i64 0, .bool false, .slice none 0 0, .slice none 0 0, .slice none 0 0, .string ⟨#[]⟩, .int .i64 0, .int .i64 0] HG5.out (tok_infoR _ _ _ _ _ _ _ _) rfl (tok_one _ _ _ _ _ _ _ _ _ _ _ _ _ _) ?_))
          refine bodyPost_ret (results_cell_row_tmp2 (by rfl) _ _ w.heap.size 67 #[.int .i64 2, .bool false, .slice none 0 0, .slice none 0 0, .slice none 0 0, .string ⟨(Tk.enc ((l.drop i).take n)).toArray⟩, .int .i64 0, .int .i64 0] (0, 0) _ _ _ (by rfl) (by rfl) (by rfl) (rheap_same HG5.out) Tryz.underlying67 rfl (tok_infoR _ _ _ _ _ _ _ _)) rfl (HR.out _ _ ?_)
          rw [HRE.out]
          exact ⟨_, _, _, rfl, isRes_nil _, isRes_nil _, World.ownsRow_nil _ _ _ _, rBelow.setRow (hb0.trans (HBW5.out.mono (by rw [HWS.out]; omega))) (Nat.le_refl _) _⟩
end Go.Proofs.YtfiefglagknclaaGreatDoor

/-
  digits.number and scrimref05.value: the number of digits that may begin with noughts.
-/
namespace Go.Proofs.YtfiefglagknclaaGreatDoor
open Go.RowKit
set_option maxHeartbeats 1000000
set_option maxRecDepth 100000
set_option linter.unusedVariables false

/-- The call hands back a number's limbs. -/
def DigsOut (w : World) (n : Nat) (e : Ending) (w' : World) : Prop := ∃ v, e = .returned v ∧ IsRes w' v (Nt.digs n) ∧ Below w.heap.size w w'
theorem natTold_valid {s : List UInt8} {w w' : World} {e : Ending} (h : NatTold s w e w') (hv : Ten.Valid s) : ∃ v, e = .returned (.tuple #[v, .bool true]) ∧ IsRes w' v (Nt.digs (Ten.numOf s)) ∧ Below w.heap.size w w' := by
  obtain ⟨hb, v, ok, n, rfl, hr, hc⟩ := h
  rcases hc with ⟨rfl, _, rfl⟩ | ⟨_, h2, _⟩
  · exact ⟨v, rfl, hr, hb⟩
  · exact absurd hv h2

theorem number_any (s : List UInt8) (w : World) (hs : s.length ≤ 1000) (hd : ∀ b ∈ s, Ten.isDig b) :
    Calls Tryz.prog 25 #[.string ⟨s.toArray⟩] w (DigsOut w (Ten.numOf s)) := by
  have TL := Tryz.strings_TrimLeft_one ⟨s.toArray⟩ 48 (by decide) w
  rw [show (⟨s.toArray⟩ : ByteArray).data.toList = s from rfl, show Lib.trimLeftB s 48 = Dg.strip s from rfl] at TL
  have hl := Dg.strip_len s
  have HV := Lib.hid (fun h => Dg.strip_valid hd h)
  have HN := Lib.hid (Dg.numOf_strip s)
  have HZ := Lib.hid (fun h => Dg.strip_nil (s := s) h)
  generalize Dg.strip s = t at *
  have HTL := Lib.hid TL
  clear TL hd
  by_cases h0 : t = []
  · have hz := HZ.out h0
    have hemp : t.isEmpty = true := by rw [h0]; rfl
    have HZ2 := Lib.hid hz
    subst h0
    clear hz HV HN HZ
    go_enter Tryz.func25, Tryz.ntmps25
    go_wp2_with fail
    refine HTL.out.mono ?_
    rintro e w' ⟨rfl, rfl⟩
    go_wp2_with fail
    go_ret
    exact ⟨_, rfl, by rw [HZ2.out, Nt.digs_zero]; exact IsRes.none_ _, Below.refl _ _⟩
  · have hemp : t.isEmpty = false := by cases t with | nil => exact absurd rfl h0 | cons a r => rfl
    have h1 : ¬ t = [] := h0
    have PA := Lib.hid (fun (wx : World) => parse_any t wx (by omega))
    have HV2 := Lib.hid (HV.out h0)
    clear HZ HV
    go_enter Tryz.func25, Tryz.ntmps25
    go_wp2_with fail
    refine HTL.out.mono ?_
    rintro e w' ⟨rfl, rfl⟩
    go_wp2_with fail
    refine (PA.out _).mono ?_
    rintro e w2 hnt
    obtain ⟨v, rfl, hr, hb⟩ := natTold_valid hnt HV2.out
    have HR := Lib.hid hr
    clear hnt hr
    go_wp2_with fail
    go_ret
    exact ⟨_, rfl, by rw [← HN.out]; exact HR.out, hb⟩

theorem str_from (s : List UInt8) (n : Nat) : (⟨s.toArray⟩ : ByteArray).extract n s.length = ⟨(s.drop n).toArray⟩ := by
  apply ByteArray.ext
  simp
  exact List.take_of_length_le (by simp)
theorem str_upto (s : List UInt8) (n : Nat) (h : n ≤ s.length) : (⟨s.toArray⟩ : ByteArray).extract 0 n = ⟨(s.take n).toArray⟩ := by
  apply ByteArray.ext
  simp
/-- How many noughts ahead have been left out. -/
def SkipAt (s : List UInt8) (k : Nat) : Prop := ∀ i (hi : i < s.length), i < k → s[i] = 48
theorem SkipAt.step {s : List UInt8} {k : Nat} (h : SkipAt s k) (hk : k < s.length) (he : s[k] = 48) : SkipAt s (k + 1) := fun i hi hik => by
  by_cases e : i = k
  · subst e; exact he
  · exact h i hi (by omega)
theorem SkipAt.done {s : List UInt8} {k : Nat} (h : SkipAt s k) (hd : ∀ b ∈ s, Ten.isDig b) (hk : k < s.length) (hn : k + 1 < s.length → s[k] ≠ 48) : Ten.Valid (s.drop k) ∧ Ten.numOf (s.drop k) = Ten.numOf s := ⟨Dg.valid_drop hd hk hn, Dg.numOf_drop h (by omega)⟩

theorem value_any (s : List UInt8) (w : World) (hs : s.length ≤ 1000) (h0 : 0 < s.length) (hd : ∀ b ∈ s, Ten.isDig b) :
    Calls Tryz.prog 125 #[.string ⟨s.toArray⟩] w (DigsOut w (Ten.numOf s)) := by
  have hsz : (⟨s.toArray⟩ : ByteArray).size = s.length := rfl
  have HSZ := Lib.hid hsz
  have HD := Lib.hid hd
  clear hsz hd
  go_enter Tryz.func125, Tryz.ntmps125
  go_wp2
  go_loop [3] (fun i => ∃ k : Nat, k < s.length ∧ i = .int .i64 (k : Int) ∧ Hid (SkipAt s k)) (fun i => s.length - (intOf i).toNat)
  case atStart => exact ⟨0, h0, rfl, Lib.hid (fun i hi h => absurd h (by omega))⟩
  case round =>
    obtain ⟨k, hk, rfl, H⟩ := hrel
    have PA := Lib.hid (fun (wx : World) => refParse_any (s.drop k) wx (by rw [List.length_drop]; omega))
    have SF := Lib.hid (str_from s k)
    have hfin : (k + 1 < s.length → s[k] ≠ 48) → ∀ e w2, NatTold (s.drop k) w e w2 → ∃ v, e = .returned (.tuple #[v, .bool true]) ∧ IsRes w2 v (Nt.digs (Ten.numOf s)) ∧ Below w.heap.size w w2 := by
      intro hn e w2 hnt
      obtain ⟨hv, he⟩ := H.out.done HD.out hk hn
      rw [← he]
      exact natTold_valid hnt hv
    have HF := Lib.hid hfin
    clear hfin
    by_cases hlt : k + 1 < s.length
    · obtain ⟨y, hy⟩ : ∃ y, y = s[k].toNat := ⟨_, rfl⟩
      have hgy : ((⟨s.toArray⟩ : ByteArray)[k]'(show k < (⟨s.toArray⟩ : ByteArray).size from hk)).toNat = y := hy.symm
      have HY := Lib.hid hy
      have h48 : Hid (s[k] = 48 ↔ y = 48) := Lib.hid (by
        rw [hy]
        constructor
        · intro h; rw [h]; rfl
        · intro h; exact UInt8.toNat_inj.1 (by rw [h]; rfl))
      clear hy
      by_cases h1 : y = 48
      · subst h1
        have HS := Lib.hid (H.out.step hk (h48.out.2 rfl))
        clear PA SF HF
        go_wp2
        go_round
        case rel => exact ⟨k + 1, hlt, by go_num, HS⟩
        case measure => simp [intOf]; omega
      · have hq : ((y : Int) == 48) = false := beq_eq_false_iff_ne.2 (by omega)
        have HF2 := Lib.hid (HF.out (fun _ h => h1 (h48.out.1 h)))
        clear HF
        go_wp2_with fail
        rw [SF.out]
        refine (PA.out _).mono ?_
        rintro e w2 hnt
        obtain ⟨v, rfl, hr, hb⟩ := HF2.out e w2 hnt
        have HR := Lib.hid hr
        clear hnt hr PA SF HF2
        go_wp2_with fail
        go_ret
        exact ⟨_, rfl, HR.out, hb⟩
    · have HF2 := Lib.hid (HF.out (fun h => absurd h hlt))
      clear HF
      go_wp2_with fail
      rw [SF.out]
      refine (PA.out _).mono ?_
      rintro e w2 hnt
      obtain ⟨v, rfl, hr, hb⟩ := HF2.out e w2 hnt
      have HR := Lib.hid hr
      clear hnt hr PA SF HF2
      go_wp2_with fail
      go_ret
      exact ⟨_, rfl, HR.out, hb⟩
end Go.Proofs.YtfiefglagknclaaGreatDoor
