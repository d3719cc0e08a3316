/-
  Texts of this proof, joined (by wip/bin/bundle.py): Net1, BldLaid, BldK, TextMath, OnesMath, LabBits, LabTags, ParseMath, ParseMath2, ParseMath3, LabOf, RangeBox.
-/
import Derived.Test.YtmiccalfamepdaaGreatDoorM6
import Derived.Shelf.Lay
import Derived.Shelf.Strings.BuilderK
import Derived.Test.YtmiccalfamepdaaGreatDoorProg
import Derived.Lib.Hide
import Derived.Lib.ItoaNum
import Derived.Lib.Join
import Derived.Laws.BitsAllLaws
import Derived.Shelf.Spec.TrailingZeros
import Derived.Laws.MakeOwn
import Derived.Lib.Bytealg
import Derived.Lib.Strings
import Derived.Deep.QuietTactic
import Derived.BigQuiet
import Derived.RangeFuncNested
import Derived.RangeFuncBound
import Derived.RangeFuncCalls
import Derived.RangeFuncLeaves
/-
  scrimref01.Decimal of whatever number; scrimref29.decimal, Net.
-/
namespace Go.Proofs.YtmiccalfamepdaaGreatDoor
open Go.RowKit
set_option maxHeartbeats 2000000
set_option maxRecDepth 100000
set_option linter.unusedVariables false

theorem nw_one (n : Nat) (w : World) (h : n < 10) :
    Calls Tryz.prog 64 #[.int .i64 (n : Int)] w fun e w' => e = .returned (.string ⟨(Lib.decDigits n).toArray⟩) ∧ w = w' := by
  have HD := Lib.hid (Lib.decDigits_one h)
  have h10 : n = 0 ∨ n = 1 ∨ n = 2 ∨ n = 3 ∨ n = 4 ∨ n = 5 ∨ n = 6 ∨ n = 7 ∨ n = 8 ∨ n = 9 := by omega
  rcases h10 with rfl | rfl | rfl | rfl | rfl | rfl | rfl | rfl | rfl | rfl
  all_goals
    go_enter Tryz.func64, Tryz.ntmps64
    go_wp2_with fail
    go_ret
    exact ⟨by rw [HD.out]; rfl, rfl⟩
theorem nw_app (a b : List UInt8) : (⟨a.toArray⟩ : ByteArray) ++ (⟨b.toArray⟩ : ByteArray) = ⟨(a ++ b).toArray⟩ := by
  apply ByteArray.ext; simp
theorem nw_dec : ∀ (k n : Nat) (w : World), n < k → n < 1000000000 →
    Calls Tryz.prog 64 #[.int .i64 (n : Int)] w fun e w' => e = .returned (.string ⟨(Lib.decDigits n).toArray⟩) ∧ w = w'
  | 0, n, w, h, _ => by omega
  | k + 1, n, w, h, hn => by
    by_cases h10 : n < 10
    · exact nw_one n w h10
    · have HD : Lib.decDigits n = Lib.decDigits (n / 10) ++ Lib.decDigits (n % 10) := by
        rw [Ten.dec_big h10, ← Ten.dec_small (by omega : n % 10 < 10)]
      replace HD := Lib.hid HD
      have H1 := Lib.hid (nw_dec k (n / 10) w (by omega) (by omega))
      have H2 := Lib.hid (nw_one (n % 10) w (by omega))
      have hp := (Ten.dec_len (r := n / 10) (k := 9) (by omega)).2
      have hq := (Ten.dec_len (r := n % 10) (k := 9) (by omega)).2
      generalize Lib.decDigits (n / 10) = p at HD H1 hp
      generalize Lib.decDigits (n % 10) = q at HD H2 hq
      have e1 : ((n / 10 : Nat) : Int) = (n : Int) / 10 := by omega
      have e2 : ((n % 10 : Nat) : Int) = (n : Int) % 10 := by omega
      rw [e1] at H1
      rw [e2] at H2
      have s1 : (⟨p.toArray⟩ : ByteArray).size ≤ 10 := hp
      have s2 : (⟨q.toArray⟩ : ByteArray).size ≤ 10 := hq
      clear e1 e2 hp hq
      go_enter Tryz.func64, Tryz.ntmps64
      go_wp2_with fail
      refine H1.out.mono ?_
      rintro e w' ⟨rfl, rfl⟩
      go_wp2_with fail
      refine H2.out.mono ?_
      rintro e w' ⟨rfl, rfl⟩
      go_wp2_with fail
      go_ret
      exact ⟨by rw [HD.out, ← nw_app]; rfl, rfl⟩
theorem nw_decimal (n : Nat) (w : World) (h : n < 1000000000) :
    Calls Tryz.prog 64 #[.int .i64 (n : Int)] w fun e w' => e = .returned (.string ⟨(Lib.decDigits n).toArray⟩) ∧ w = w' := nw_dec (n + 1) n w (by omega) h

/-- The pieces of a text behind its length. -/
theorem nw_net (s : List UInt8) : (((⟨(Lib.decDigits s.length).toArray⟩ : ByteArray) ++ (⟨#[58]⟩ : ByteArray)) ++ (⟨s.toArray⟩ : ByteArray)) ++ (⟨#[44]⟩ : ByteArray) = ⟨(Nw.net s).toArray⟩ := by
  apply ByteArray.ext; unfold Nw.net; simp
theorem refNet_any (s : List UInt8) (w : World) (hs : s.length < 100000000) :
    Calls Tryz.prog 37 #[.string ⟨s.toArray⟩] w fun e w' => e = .returned (.string ⟨(Nw.net s).toArray⟩) ∧ w = w' := by
  have hsz : (⟨s.toArray⟩ : ByteArray).size = s.length := rfl
  have HSZ := Lib.hid hsz
  have DE := Lib.hid (nw_decimal s.length w (by omega))
  have hp := (Ten.dec_len (r := s.length) (k := 9) (by omega)).2
  have HN := Lib.hid (nw_net s)
  generalize Lib.decDigits s.length = D at *
  have q1 : ¬ 9223372036854775807 < D.length + 1 := by omega
  have q2 : ¬ 9223372036854775807 < D.length + 1 + s.length := by omega
  have q3 : ¬ 9223372036854775807 < D.length + 1 + s.length + 1 := by omega
  go_enter Tryz.func37, Tryz.ntmps37
  go_wp2_with fail
  refine DE.out.mono ?_
  rintro e w' ⟨rfl, rfl⟩
  go_wp2_with fail
  go_ret
  exact ⟨by rw [← HN.out]; rfl, rfl⟩

theorem nw_step {s : List UInt8} {k : Nat} (hl : k ≤ Dg.lead s) (h : k < s.length) (hd : Dg.dB s[k] = true) : k + 1 ≤ Dg.lead s := by
  rcases Nat.lt_or_ge k (Dg.lead s) with h1 | h1
  · omega
  · have e : Dg.lead s = k := by omega
    have := Dg.lead_not (s := s) (by omega)
    simp only [e] at this
    rw [hd] at this; cases this
theorem nw_stop {s : List UInt8} {k : Nat} (hl : k ≤ Dg.lead s) (h : k < s.length) (hd : Dg.dB s[k] = false) : Dg.lead s = k := by
  rcases Nat.lt_or_ge k (Dg.lead s) with h1 | h1
  · obtain ⟨h2, h3⟩ := Dg.lead_dig h1
    rw [hd] at h3; cases h3
  · omega
theorem nw_dB {b : UInt8} {y : Nat} (h : y = b.toNat) : Dg.dB b = decide (48 ≤ y ∧ y ≤ 57) := by unfold Dg.dB; rw [h]
/-- At most seven of the digits that lead. -/
def Nw.k7 (s : List UInt8) : Nat := min 7 (Dg.lead s)
/-- Where the digits are read: k of them, their number n. -/
structure Nw.DecAt (s : List UInt8) (k n : Nat) : Prop where
  le : k ≤ Dg.lead s
  num : n = Ten.numOf (s.take k)
theorem nw_small {s : List UInt8} {k n : Nat} (h : Nw.DecAt s k n) (hk : k ≤ 7) : n < 10000000 := by
  have h1 := Dg.numOf_lt (s.take k).length (s.take k) rfl (Nw.dig_take h.le)
  rw [← h.num] at h1
  have h2 : (s.take k).length ≤ 7 := by rw [List.length_take]; omega
  have h3 : (10 : Nat) ^ (s.take k).length ≤ 10 ^ 7 := Nat.pow_le_pow_right (by decide) h2
  have h4 : (10 : Nat) ^ 7 = 10000000 := by decide
  omega
theorem refDecimal29_any (s : List UInt8) (w : World) (hs : s.length ≤ 1000000) :
    Calls Tryz.prog 69 #[.string ⟨s.toArray⟩] w fun e w' => e = .returned (.tuple #[.int .i64 (Ten.numOf (s.take (Nw.k7 s)) : Int), .int .i64 (Nw.k7 s : Int)]) ∧ w = w' := by
  have hsz : (⟨s.toArray⟩ : ByteArray).size = s.length := rfl
  have HSZ := Lib.hid hsz
  have HR : Hid (∀ k n : Nat, Nw.DecAt s k n → Nw.k7 s = k → Ending.returned (.tuple #[.int .i64 (n : Int), .int .i64 (k : Int)]) = .returned (.tuple #[.int .i64 (Ten.numOf (s.take (Nw.k7 s)) : Int), .int .i64 (Nw.k7 s : Int)])) := Lib.hid (fun k n h e => by rw [e, ← h.num])
  go_enter Tryz.func69, Tryz.ntmps69
  go_wp2
  go_loop [4, 5] (fun a i => ∃ k n : Nat, k ≤ s.length ∧ k ≤ 7 ∧ n < 10000000 ∧ a = .int .i64 (n : Int) ∧ i = .int .i64 (k : Int) ∧ Hid (Nw.DecAt s k n)) (fun _ i => s.length - (intOf i).toNat)
  case atStart => exact ⟨0, 0, Nat.zero_le _, Nat.zero_le _, by omega, rfl, rfl, Lib.hid ⟨Nat.zero_le _, by simp [Ten.numOf]⟩⟩
  case round =>
    obtain ⟨k, n, hk, hk7, hn, rfl, rfl, H⟩ := hrel
    have HR1 := Lib.hid (HR.out k n H.out)
    by_cases hlt : k < s.length
    · by_cases h7 : k < 7
      · obtain ⟨y, hy⟩ : ∃ y, y = s[k].toNat := ⟨_, rfl⟩
        have hgy : ((⟨s.toArray⟩ : ByteArray)[k]'(show k < (⟨s.toArray⟩ : ByteArray).size from hlt)).toNat = y := hy.symm
        have HD := Lib.hid (nw_dB hy)
        have H2 := Lib.hid (fun h => nw_stop H.out.le hlt h)
        have H1 : Hid (48 ≤ y → y ≤ 57 → Nw.DecAt s (k + 1) (10 * n + (y - 48))) := Lib.hid (fun h1 h2 => ⟨nw_step H.out.le hlt (by rw [HD.out]; exact decide_eq_true ⟨h1, h2⟩), by rw [Nw.take_succ_num hlt, ← H.out.num, ← hy]⟩)
        clear hy
        by_cases h1 : 48 ≤ y
        · by_cases h2 : y ≤ 57
          · have h3 := H1.out h1 h2
            have h4 := nw_small h3 (by omega)
            have H3 := Lib.hid h3
            have hw1 : IntKind.u8.wrap ((y : Int) - 48) = ((y - 48 : Nat) : Int) := by rw [show (y : Int) - 48 = ((y - 48 : Nat) : Int) by omega]; exact IntWalk.u8_in _ (by omega)
            clear h3
            go_wp2
            go_round
            case rel => exact ⟨k + 1, 10 * n + (y - 48), by omega, by omega, h4, by go_num, by go_num, H3⟩
            case measure => simp [intOf]; omega
          · have HE := Lib.hid (HR1.out (by unfold Nw.k7; rw [H2.out (by rw [HD.out]; exact decide_eq_false (by omega))]; omega))
            go_wp2
            go_ret2
            exact ⟨HE.out, rfl⟩
        · have HE := Lib.hid (HR1.out (by unfold Nw.k7; rw [H2.out (by rw [HD.out]; exact decide_eq_false (by omega))]; omega))
          go_wp2
          go_ret2
          exact ⟨HE.out, rfl⟩
      · have HE := Lib.hid (HR1.out (by unfold Nw.k7; have := H.out.le; omega))
        go_wp2
        go_ret2
        exact ⟨HE.out, rfl⟩
    · have HE := Lib.hid (HR1.out (by unfold Nw.k7; have := H.out.le; have := Dg.lead_le s; omega))
      have e : k = s.length := by omega
      replace e := Lib.hid e
      go_wp2
      go_ret2
      exact ⟨HE.out, rfl⟩
end Go.Proofs.YtmiccalfamepdaaGreatDoor

/-
  The library's contract of (*strings.Builder).WriteString, laid by hand: 'shelf_lay' did not find the string type in the bodies that it goes by.
-/
namespace Go.Proofs
open Go.Shelf
def YtmiccalfamepdaaGreatDoorRen : Go.Shelf.Ren := ⟨fun | 166 => 27 | 240 => 54 | 276 => 84 | n => n, fun | 70 => 49 | 3 => 3 | 0 => 0 | 4 => 4 | 9 => 9 | 20 => 20 | 72 => 52 | 37 => 50 | 164 => 118 | 5 => 5 | 75 => 54 | 80 => 61 | n => n, fun | n => n⟩
theorem YtmiccalfamepdaaGreatDoorLaid : Go.Proofs.Lays.n166 Tryz.prog YtmiccalfamepdaaGreatDoorRen := {
  mixed := by kernel_rfl
  f166 := Tryz.func27.trans (congrArg some (by kernel_rfl))
  f240 := Tryz.func54.trans (congrArg some (by kernel_rfl))
  f276 := Tryz.func84.trans (congrArg some (by kernel_rfl))
  t0 := Tryz.underlying0
  a0 := Tryz.isAgg0
  z0 := Tryz.sizeOf0
  v0 := Tryz.zeroValue0
  t3 := Tryz.underlying3
  a3 := Tryz.isAgg3
  z3 := Tryz.sizeOf3
  v3 := Tryz.zeroValue3
  t4 := Tryz.underlying4
  a4 := Tryz.isAgg4
  z4 := Tryz.sizeOf4
  v4 := Tryz.zeroValue4
  t9 := Tryz.underlying9
  a9 := Tryz.isAgg9
  z9 := Tryz.sizeOf9
  v9 := Tryz.zeroValue9
  t20 := Tryz.underlying20
  a20 := Tryz.isAgg20
  z20 := Tryz.sizeOf20
  v20 := Tryz.zeroValue20
  t37 := Tryz.underlying50
  a37 := Tryz.isAgg50
  z37 := Tryz.sizeOf50
  v37 := Tryz.zeroValue50
  t70 := Tryz.underlying49
  a70 := Tryz.isAgg49
  z70 := Tryz.sizeOf49
  v70 := Tryz.zeroValue49
  t72 := Tryz.underlying52
  a72 := Tryz.isAgg52
  z72 := Tryz.sizeOf52
  v72 := Tryz.zeroValue52
  t75 := Tryz.underlying54
  a75 := Tryz.isAgg54
  z75 := Tryz.sizeOf54
  v75 := Tryz.zeroValue54
  t164 := Tryz.underlying118
  a164 := Tryz.isAgg118
  z164 := Tryz.sizeOf118
  v164 := Tryz.zeroValue118 }
theorem YtmiccalfamepdaaGreatDoorExtra : Builder.Extra Tryz.prog YtmiccalfamepdaaGreatDoorRen := {
  sizeBuilder := by kernel_rfl
  liesBuilder := by kernel_rfl
  t5 := Tryz.underlying5
  a5 := Tryz.isAgg5
  z5 := Tryz.sizeOf5
  v5 := Tryz.zeroValue5
  infoByte := by kernel_rfl
  cellsByte := by kernel_rfl
  sizeByte := by kernel_rfl
  neB5 := by decide }
namespace YtmiccalfamepdaaGreatDoor
open Go.RowKit
theorem writeString_any (B b : Nat) (bs : List Value) (s : ByteArray) (w : World) (h : Lib.IsBuilder 52 5 B b bs w) (hlen : bs.length + s.size ≤ 140737488355328) (hBw : B ≤ w.heap.size) :
    Calls Tryz.prog 27 #[.pointer (some ⟨b, 0, none⟩), .string s] w fun e w' => e = .returned (.tuple #[.int .i64 s.size, .nilIface]) ∧ (Lib.BuilderAt 52 5 B b (.pointer (some ⟨b, 0, none⟩)) (bs ++ Lib.strCells s) w' ∧ Below B w w') := Any.Builder_WriteString YtmiccalfamepdaaGreatDoorLaid YtmiccalfamepdaaGreatDoorExtra B b bs s w h hlen hBw
end YtmiccalfamepdaaGreatDoor
end Go.Proofs

/-
  A strings.Builder that may have been read: written, carried over, new.
-/
namespace Go.Proofs.YtmiccalfamepdaaGreatDoor
open Go.RowKit
set_option linter.unusedVariables false

theorem wsK_any (B b : Nat) (l s : List UInt8) (w : World) (h : Lib.IsBuilderF 52 5 B b (Lib.byteCells l) w) (hlen : l.length + s.length ≤ 140737488355328) (hBw : B ≤ w.heap.size) :
    Calls Tryz.prog 27 #[.pointer (some ⟨b, 0, none⟩), .string ⟨s.toArray⟩] w fun e w' => (∃ v, e = .returned v) ∧ Lib.IsBuilderF 52 5 B b (Lib.byteCells (l ++ s)) w' ∧ Below B w w' := by
  refine (Any.Builder_WriteString_k YtmiccalfamepdaaGreatDoorLaid YtmiccalfamepdaaGreatDoorExtra B b _ ⟨s.toArray⟩ w h (by rw [Lib.byteCells_length]; exact hlen) hBw).mono ?_
  rintro e w' ⟨he, hbd, hb, -⟩
  exact ⟨⟨_, he⟩, .inr (by rw [Lib.byteCells_append]; exact hbd), hb⟩
theorem bldK_below {w w' : World} {T e : TypeId} {B b : Nat} {bs : List Value} (h : Lib.IsBuilderF T e B b bs w) (hb : Below w.heap.size w w') : Lib.IsBuilderF T e B b bs w' := by
  have one : ∀ {p : Value}, Lib.BuilderAtF T e B b p bs w → Lib.BuilderAtF T e B b p bs w' := fun {p} k => by
    obtain ⟨h1, v, h2, h3, h4⟩ := k
    refine ⟨h1, v, (hb.block b (Array.getElem?_eq_some_iff.1 h2).1).trans h2, ⟨h3.1, ?_⟩, h4⟩
    rcases h3.2 with h0 | ⟨g, cap, cur, fz, e1, e2, e3, r⟩
    · exact .inl h0
    · exact .inr ⟨g, cap, cur, fz, e1, e2, (hb.block g (Array.getElem?_eq_some_iff.1 e3).1).trans e3, r⟩
  exact h.imp one one
theorem bldK_new (w : World) : Lib.IsBuilderF 52 5 w.heap.size w.heap.size (Lib.byteCells []) (w.alloc (.cells #[.pointer none, .slice none 0 0] 52)) :=
  Lib.IsBuilderF.of (.inl ⟨Nat.le_refl _, .slice none 0 0, heap_alloc_new w _, World.ownsRow_nil _ _ _ _, by simp [Value.ownBlock]⟩)
end Go.Proofs.YtmiccalfamepdaaGreatDoor

/-
  A label's text, in plain words: its runs of tags, and how each is told.
-/
namespace Lab
open Go
/-- Where the run that begins at t ends. -/
def runEnd (l : Nat) : Nat → Nat → Nat
  | 0, t => t
  | f + 1, t => if l.testBit (t + 1) then runEnd l f (t + 1) else t
def last (l t : Nat) : Nat := runEnd l 64 t
theorem runEnd_ge (l f : Nat) : ∀ t, t ≤ runEnd l f t := by
  induction f with
  | zero => intro t; exact Nat.le_refl _
  | succ f ih => intro t; unfold runEnd; split
                 · have := ih (t + 1); omega
                 · exact Nat.le_refl _
theorem runEnd_bits (l f : Nat) : ∀ t, l.testBit t = true → ∀ i, t ≤ i → i ≤ runEnd l f t → l.testBit i = true := by
  induction f with
  | zero => intro t ht i h1 h2; rw [show i = t from by unfold runEnd at h2; omega]; exact ht
  | succ f ih =>
    intro t ht i h1 h2
    unfold runEnd at h2
    split at h2
    · rename_i hb
      by_cases e : i = t
      · rw [e]; exact ht
      · exact ih (t + 1) hb i (by omega) h2
    · rw [show i = t from by omega]; exact ht
theorem runEnd_stop {l : Nat} (hl : l < 18446744073709551616) (f : Nat) : ∀ t, 64 ≤ t + 1 + f → l.testBit (runEnd l f t + 1) = false := by
  induction f with
  | zero => intro t h; unfold runEnd; exact testBit_high hl (by omega)
  | succ f ih =>
    intro t h
    unfold runEnd
    split
    · exact ih (t + 1) (by omega)
    · rename_i hb; simpa using hb
theorem last_ge (l t : Nat) : t ≤ last l t := runEnd_ge l 64 t
theorem last_bits {l t : Nat} (ht : l.testBit t = true) : ∀ i, t ≤ i → i ≤ last l t → l.testBit i = true := runEnd_bits l 64 t ht
theorem last_stop {l t : Nat} (hl : l < 18446744073709551616) : l.testBit (last l t + 1) = false := runEnd_stop hl 64 t (by omega)
theorem bit_pos {l t : Nat} (hl : l < 18446744073709551616) (ht : l.testBit t = true) : t < 64 := by
  rcases Nat.lt_or_ge t 64 with h | h
  · exact h
  · rw [testBit_high hl h] at ht; cases ht
theorem last_lt {l t : Nat} (hl : l < 18446744073709551616) (ht : l.testBit t = true) : last l t < 64 := bit_pos hl (last_bits ht _ (last_ge l t) (Nat.le_refl _))
/-- The runs from a place on. -/
def runs (l p : Nat) : List (Nat × Nat) :=
  if _ : p < 64 then if l.testBit p then (p, last l p) :: runs l (last l p + 1) else runs l (p + 1) else []
termination_by 64 - p
decreasing_by
  · have := last_ge l p; omega
  · omega
/-- The tags from a place on. -/
def tagsFrom (l p : Nat) : List Nat := (List.range' p (64 - p)).filter fun t => l.testBit t
theorem tags_from (l : Nat) : tags l = tagsFrom l 0 := by unfold tags tagsFrom; rw [List.range_eq_range']
theorem tagsFrom_end {l p : Nat} (h : 64 ≤ p) : tagsFrom l p = [] := by
  unfold tagsFrom; rw [show 64 - p = 0 from by omega]; rfl
theorem tagsFrom_cons {l p : Nat} (h : p < 64) : tagsFrom l p = (if l.testBit p then [p] else []) ++ tagsFrom l (p + 1) := by
  unfold tagsFrom
  rw [show 64 - p = (64 - (p + 1)) + 1 from by omega, List.range'_succ, List.filter_cons]
  split <;> simp
theorem tagsFrom_take {l p : Nat} (h : p < 64) (hb : l.testBit p = true) : tagsFrom l p = p :: tagsFrom l (p + 1) := by rw [tagsFrom_cons h, if_pos hb]; rfl
theorem tagsFrom_skip {l p : Nat} (h : p < 64) (hb : l.testBit p = false) : tagsFrom l p = tagsFrom l (p + 1) := by rw [tagsFrom_cons h, hb]; rfl
theorem tagsFrom_ge {l p : Nat} : ∀ t ∈ tagsFrom l p, p ≤ t ∧ t < 64 ∧ l.testBit t = true := by
  intro t ht
  simp only [tagsFrom, List.mem_filter, List.mem_range'_1] at ht
  exact ⟨ht.1.1, by omega, ht.2⟩
theorem runs_nil {l : Nat} : ∀ (n p : Nat), 64 - p = n → tagsFrom l p = [] → runs l p = [] := by
  intro n
  induction n with
  | zero => intro p hp _; rw [runs, dif_neg (by omega)]
  | succ n ih =>
    intro p hp h
    have hlt : p < 64 := by omega
    cases hb : l.testBit p
    · rw [runs, dif_pos hlt, if_neg (by simp [hb])]
      exact ih (p + 1) (by omega) (by rw [← tagsFrom_skip hlt hb]; exact h)
    · rw [tagsFrom_take hlt hb] at h; cases h
theorem runs_cons {l : Nat} {t : Nat} {r : List Nat} : ∀ (n p : Nat), 64 - p = n → tagsFrom l p = t :: r → t < 64 ∧ l.testBit t = true ∧ tagsFrom l t = t :: r ∧ runs l p = (t, last l t) :: runs l (last l t + 1) := by
  intro n
  induction n with
  | zero => intro p hp h; rw [tagsFrom_end (by omega)] at h; cases h
  | succ n ih =>
    intro p hp h
    have hlt : p < 64 := by omega
    cases hb : l.testBit p
    · have := ih (p + 1) (by omega) (by rw [← tagsFrom_skip hlt hb]; exact h)
      rw [runs, dif_pos hlt, if_neg (by simp [hb])]
      exact this
    · have h2 := h
      rw [tagsFrom_take hlt hb] at h2
      injection h2 with e1 e2
      subst e1
      exact ⟨hlt, hb, h, by rw [runs, dif_pos hlt, if_pos hb]⟩
theorem tagsFrom_len (l p : Nat) : (tagsFrom l p).length ≤ 64 - p := by
  have := List.length_filter_le (fun t => l.testBit t) (List.range' p (64 - p))
  simpa [tagsFrom] using this
/-- How a run is told. -/
def piece (r : Nat × Nat) : List (List UInt8) :=
  if r.2 = r.1 then [Lib.decDigits r.1] else if r.2 = r.1 + 1 then [Lib.decDigits r.1, Lib.decDigits r.2] else [Lib.decDigits r.1 ++ 45 :: Lib.decDigits r.2]
def pieces (l p : Nat) : List (List UInt8) := (runs l p).flatMap piece
/-- THE TEXT. -/
def text (l : Nat) : List UInt8 := 123 :: (Lib.join (pieces l 0) [44] ++ [125])
theorem dec_len {n : Nat} (h : n < 64) : 1 ≤ (Lib.decDigits n).length ∧ (Lib.decDigits n).length ≤ 2 := by
  by_cases h10 : n < 10
  · rw [Lib.decDigits_one h10]; simp
  · rw [Lib.decDigits_two h10 (by omega)]; simp
theorem piece_len {r : Nat × Nat} (h1 : r.1 < 64) (h2 : r.2 < 64) : ∀ x ∈ piece r, 1 ≤ x.length ∧ x.length ≤ 5 := by
  intro x hx
  have a := dec_len h1
  have b := dec_len h2
  unfold piece at hx
  split at hx
  · simp at hx; subst hx; omega
  · split at hx
    · simp at hx; rcases hx with rfl | rfl <;> omega
    · simp at hx; subst hx; simp; omega
theorem runs_mem {l : Nat} (hl : l < 18446744073709551616) : ∀ (n p : Nat), 64 - p ≤ n → ∀ r ∈ runs l p, p ≤ r.1 ∧ r.1 ≤ r.2 ∧ r.2 < 64 := by
  intro n
  induction n with
  | zero => intro p hp r hr; rw [runs, dif_neg (by omega)] at hr; cases hr
  | succ n ih =>
    intro p hp r hr
    by_cases hlt : p < 64
    · have hge := last_ge l p
      rw [runs, dif_pos hlt] at hr
      split at hr
      · rename_i hb
        rcases List.mem_cons.1 hr with rfl | hr
        · exact ⟨Nat.le_refl _, hge, last_lt hl hb⟩
        · have := ih _ (by omega) r hr
          exact ⟨by omega, this.2⟩
      · have := ih _ (by omega) r hr
        exact ⟨by omega, this.2⟩
    · rw [runs, dif_neg hlt] at hr; cases hr
theorem pieces_len {l : Nat} (hl : l < 18446744073709551616) (p : Nat) : ∀ x ∈ pieces l p, 1 ≤ x.length ∧ x.length ≤ 5 := by
  intro x hx
  obtain ⟨r, hr, hx⟩ := List.mem_flatMap.1 hx
  have := runs_mem hl 64 p (by omega) r hr
  exact piece_len (by omega) (by omega) x hx
theorem join_snoc (ps : List (List UInt8)) (x sep : List UInt8) : Lib.join (ps ++ [x]) sep = if ps = [] then x else Lib.join ps sep ++ (sep ++ x) := by
  cases ps with
  | nil => simp [Lib.join_one]
  | cons y r =>
    rw [if_neg (by simp), List.cons_append, Lib.join_cons, Lib.join_cons]
    simp [Lib.joinTail]
theorem join_len_le (ps : List (List UInt8)) (h : ∀ x ∈ ps, x.length ≤ 5) : (Lib.join ps [44]).length ≤ 6 * ps.length := by
  have key : ∀ ps : List (List UInt8), (∀ x ∈ ps, x.length ≤ 5) → (Lib.joinTail [44] ps).length ≤ 6 * ps.length := by
    intro ps
    induction ps with
    | nil => intro _; simp [Lib.joinTail]
    | cons y r ih =>
      intro h
      have h1 := ih (fun x hx => h x (List.mem_cons_of_mem _ hx))
      have h2 := h y List.mem_cons_self
      simp only [Lib.joinTail, List.map_cons, List.flatten_cons, List.length_append, List.length_cons, List.length_nil] at h1 ⊢
      omega
  cases ps with
  | nil => simp [Lib.join_nil]
  | cons y r =>
    have h1 := key r (fun x hx => h x (List.mem_cons_of_mem _ hx))
    have h2 := h y List.mem_cons_self
    rw [Lib.join_cons, List.length_append, List.length_cons]
    omega
theorem join_eq_nil {ps : List (List UInt8)} (h : ∀ x ∈ ps, 1 ≤ x.length) : Lib.join ps [44] = [] ↔ ps = [] := by
  cases ps with
  | nil => simp [Lib.join_nil]
  | cons y r =>
    have := h y List.mem_cons_self
    rw [Lib.join_cons]
    constructor
    · intro e
      have := congrArg List.length e
      rw [List.length_append, List.length_nil] at this
      omega
    · intro e; cases e

/-! ### What the loops over the list of tags find -/
theorem drop_cons_get {α : Type} {xs : List α} {i : Nat} {x : α} {r : List α} (h : xs.drop i = x :: r) : xs[i]? = some x ∧ xs.drop (i + 1) = r ∧ i < xs.length := by
  have h0 : (xs.drop i)[0]? = some x := by rw [h]; rfl
  have hlt : i < xs.length := by
    rcases Nat.lt_or_ge i xs.length with h1 | h1
    · exact h1
    · rw [List.drop_eq_nil_of_le h1] at h; cases h
  refine ⟨by simpa using h0, ?_, hlt⟩
  rw [show i + 1 = i + 1 from rfl, ← List.drop_drop, h]
  rfl
/-- Inside the run: the d-th further tag is t + d. -/
theorem run_at {l i t : Nat} (hl : l < 18446744073709551616) (ht : l.testBit t = true) (h : (tags l).drop i = tagsFrom l t) :
    ∀ d, t + d ≤ last l t → (tags l).drop (i + d) = tagsFrom l (t + d) ∧ (tags l)[i + d]? = some (t + d) ∧ (tags l).drop (i + d + 1) = tagsFrom l (t + d + 1) ∧ i + d < (tags l).length := by
  intro d
  induction d with
  | zero =>
    intro _
    have h2 := h
    rw [tagsFrom_take (bit_pos hl ht) ht] at h2
    obtain ⟨a, b, c⟩ := drop_cons_get h2
    exact ⟨h, a, b, c⟩
  | succ d ih =>
    intro hd
    obtain ⟨_, _, h3, _⟩ := ih (by omega)
    have hb := last_bits ht (t + d + 1) (by omega) (by omega)
    have h4 := h3
    rw [tagsFrom_take (bit_pos hl hb) hb] at h4
    obtain ⟨a, b, c⟩ := drop_cons_get h4
    exact ⟨h3, a, b, c⟩
/-- Behind the run: there is no tag more, or one that is not the next. -/
theorem run_stop {l i t d : Nat} (hl : l < 18446744073709551616) (ht : l.testBit t = true) (h : (tags l).drop i = tagsFrom l t) (hd : t + d = last l t) :
    (tags l).length ≤ i + d + 1 ∨ ∃ x, (tags l)[i + d + 1]? = some x ∧ x ≠ t + d + 1 ∧ i + d + 1 < (tags l).length ∧ x < 64 := by
  obtain ⟨_, _, h3, _⟩ := run_at hl ht h d (by omega)
  cases e : tagsFrom l (t + d + 1) with
  | nil =>
    left
    rw [e] at h3
    exact List.drop_eq_nil_iff.1 h3
  | cons x r =>
    right
    rw [e] at h3
    obtain ⟨a, _, c⟩ := drop_cons_get h3
    have hx := tagsFrom_ge (l := l) (p := t + d + 1) x (by rw [e]; exact List.mem_cons_self)
    refine ⟨x, a, ?_, c, hx.2.1⟩
    rintro rfl
    have := last_stop (t := t) hl
    rw [← hd] at this
    rw [this] at hx
    exact absurd hx.2.2 (by simp)
theorem pieces_cons {l p t : Nat} {r : List Nat} (h : tagsFrom l p = t :: r) : pieces l p = piece (t, last l t) ++ pieces l (last l t + 1) := by
  obtain ⟨_, _, _, h4⟩ := runs_cons (64 - p) p rfl h
  unfold pieces
  rw [h4, List.flatMap_cons]
theorem pieces_nil {l p : Nat} (h : tagsFrom l p = []) : pieces l p = [] := by
  unfold pieces; rw [runs_nil (64 - p) p rfl h]; rfl
theorem tagsFrom_head {l p t : Nat} {r : List Nat} (h : tagsFrom l p = t :: r) : t < 64 ∧ l.testBit t = true ∧ tagsFrom l t = t :: r := by
  obtain ⟨a, b, c, _⟩ := runs_cons (64 - p) p rfl h
  exact ⟨a, b, c⟩

/-! ### The example -/
def runsF (l : Nat) : Nat → Nat → List (Nat × Nat)
  | 0, _ => []
  | f + 1, p => if p < 64 then if l.testBit p then (p, last l p) :: runsF l f (last l p + 1) else runsF l f (p + 1) else []
theorem runs_fuel (l f : Nat) : ∀ p, 64 - p ≤ f → runs l p = runsF l f p := by
  induction f with
  | zero => intro p h; rw [runs, dif_neg (by omega)]; rfl
  | succ f ih =>
    intro p h
    rw [runs]
    unfold runsF
    have := last_ge l p
    by_cases hp : p < 64
    · rw [dif_pos hp, if_pos hp]
      split
      · rw [ih _ (by omega)]
      · rw [ih _ (by omega)]
    · rw [dif_neg hp, if_neg hp]
theorem runs_example : runs 1593 0 = [(0, 0), (3, 5), (9, 10)] := by
  rw [runs_fuel 1593 64 0 (by omega)]
  decide +kernel
theorem text_example : text 1593 = [123, 48, 44, 51, 45, 53, 44, 57, 44, 49, 48, 125] := by
  unfold text pieces
  rw [runs_example]
  simp [piece, Lib.decDigits_one, Lib.decDigits_two, Lib.join, List.intercalate]
theorem of_example : ofNum [10, 0, 3, 4, 5, 9, 3] = 1593 ∧ ofOk [10, 0, 3, 4, 5, 9, 3] = true := by decide +kernel
end Lab

/-
  How many bits a word has: the sums by masks that math/bits uses, and the count bit by bit, are the same number.
-/
namespace Ones
/-- The number of bits, one by one. -/
def cnt : Nat → Nat → Nat
  | 0, _ => 0
  | n + 1, x => x % 2 + cnt n (x / 2)
theorem cnt_zero (x : Nat) : cnt 0 x = 0 := rfl
theorem length_bits (n : Nat) : ∀ x : Nat, ((List.range n).filter fun t => x.testBit t).length = cnt n x := by
  induction n with
  | zero => intro x; rfl
  | succ n ih =>
    intro x
    rw [List.range_succ_eq_map, List.filter_cons, List.filter_map, cnt, ← ih (x / 2)]
    have e : ((fun t => x.testBit t) ∘ Nat.succ) = fun t => (x / 2).testBit t := by
      funext t
      simp [Nat.testBit_succ]
    rw [e]
    rcases Nat.mod_two_eq_zero_or_one x with h | h
    · rw [if_neg (by simp [Nat.testBit_zero, h])]
      simp [h]
    · rw [if_pos (by simp [Nat.testBit_zero, h])]
      simp [h]; omega
theorem cnt_example : cnt 64 1593 = 6 := by decide +kernel
theorem cnt_le (n : Nat) : ∀ x, cnt n x ≤ n := by
  induction n with
  | zero => intro x; simp [cnt]
  | succ n ih => intro x; have := ih (x / 2); rw [cnt]; omega
theorem cnt_byte (n x : Nat) : cnt (n + 8) x = cnt 8 (x % 256) + cnt n (x / 256) := by
  have e : x / 2 / 2 / 2 / 2 / 2 / 2 / 2 / 2 = x / 256 := by omega
  simp only [cnt, e]
  omega
/-- The same byte n times. -/
def rep (c : Nat) : Nat → Nat
  | 0 => 0
  | n + 1 => c + 256 * rep c n
/-- A function done byte by byte. -/
def bytes (f : Nat → Nat) : Nat → Nat → Nat
  | 0, _ => 0
  | n + 1, x => f (x % 256) + 256 * bytes f n (x / 256)
theorem and_split (h l r c : Nat) (hl : l < 256) (hc : c < 256) : (256 * h + l) &&& (256 * r + c) = 256 * (h &&& r) + (l &&& c) := by
  have hlc : l &&& c < 2 ^ 8 := Nat.lt_of_le_of_lt Nat.and_le_left hl
  apply Nat.eq_of_testBit_eq
  intro i
  rw [Nat.testBit_and, show (256 : Nat) = 2 ^ 8 from rfl, Nat.testBit_two_pow_mul_add _ (show l < 2 ^ 8 from hl), Nat.testBit_two_pow_mul_add _ (show c < 2 ^ 8 from hc), Nat.testBit_two_pow_mul_add _ hlc]
  split <;> simp [Nat.testBit_and]
def f1 (b : Nat) : Nat := (b / 2 &&& 0x55) + (b &&& 0x55)
def f2 (b : Nat) : Nat := (b / 4 &&& 0x33) + (b &&& 0x33)
def f3 (b : Nat) : Nat := (b / 16 + b) % 16
theorem b1 : ∀ q, q < 2 → ∀ b, b < 256 → (128 * q + b / 2) &&& 0x55 = b / 2 &&& 0x55 := by decide +kernel
theorem b2 : ∀ q, q < 4 → ∀ b, b < 256 → (64 * q + b / 4) &&& 0x33 = b / 4 &&& 0x33 := by decide +kernel
theorem lt1 : ∀ b, b < 256 → f1 b < 256 := by decide +kernel
theorem b3 : ∀ b, b < 256 → f2 (f1 b) < 69 ∧ f2 (f1 b) % 16 < 5 ∧ f3 (f2 (f1 b)) = cnt 8 b := by decide +kernel
theorem step1 (n : Nat) : ∀ x, (x / 2 &&& rep 0x55 n) + (x &&& rep 0x55 n) = bytes f1 n x := by
  induction n with
  | zero => intro x; simp [rep, bytes]
  | succ n ih =>
    intro x
    have ex : x = 256 * (x / 256) + x % 256 := by omega
    have ex2 : x / 2 = 256 * (x / 256 / 2) + (128 * (x / 256 % 2) + x % 256 / 2) := by omega
    have er : rep 0x55 (n + 1) = 256 * rep 0x55 n + 0x55 := by rw [rep]; omega
    have h1 := and_split (x / 256) (x % 256) (rep 0x55 n) 0x55 (by omega) (by omega)
    have h2 := and_split (x / 256 / 2) (128 * (x / 256 % 2) + x % 256 / 2) (rep 0x55 n) 0x55 (by omega) (by omega)
    rw [← ex2, ← er, b1 _ (by omega) _ (by omega)] at h2
    rw [← ex, ← er] at h1
    rw [h1, h2, bytes, ← ih, f1]
    omega
theorem step2 (n : Nat) : ∀ x, (x / 4 &&& rep 0x33 n) + (x &&& rep 0x33 n) = bytes f2 n x := by
  induction n with
  | zero => intro x; simp [rep, bytes]
  | succ n ih =>
    intro x
    have ex : x = 256 * (x / 256) + x % 256 := by omega
    have ex2 : x / 4 = 256 * (x / 256 / 4) + (64 * (x / 256 % 4) + x % 256 / 4) := by omega
    have er : rep 0x33 (n + 1) = 256 * rep 0x33 n + 0x33 := by rw [rep]; omega
    have h1 := and_split (x / 256) (x % 256) (rep 0x33 n) 0x33 (by omega) (by omega)
    have h2 := and_split (x / 256 / 4) (64 * (x / 256 % 4) + x % 256 / 4) (rep 0x33 n) 0x33 (by omega) (by omega)
    rw [← ex2, ← er, b2 _ (by omega) _ (by omega)] at h2
    rw [← ex, ← er] at h1
    rw [h1, h2, bytes, ← ih, f2]
    omega
theorem bytes_bytes (f g : Nat → Nat) (hf : ∀ b, b < 256 → f b < 256) (n : Nat) : ∀ x, bytes g n (bytes f n x) = bytes (fun b => g (f b)) n x := by
  induction n with
  | zero => intro x; rfl
  | succ n ih =>
    intro x
    have h := hf (x % 256) (by omega)
    rw [bytes, show bytes f (n + 1) x % 256 = f (x % 256) by rw [bytes]; omega, show bytes f (n + 1) x / 256 = bytes f n (x / 256) by rw [bytes]; omega, ih, bytes]
theorem step3 (n : Nat) : ∀ x, (bytes (fun b => f2 (f1 b)) n x / 16 + bytes (fun b => f2 (f1 b)) n x) &&& rep 0x0f n = bytes (cnt 8) n x := by
  induction n with
  | zero => intro x; simp [rep, bytes]
  | succ n ih =>
    intro x
    have hb := b3 (x % 256) (by omega)
    have hn : bytes (fun b => f2 (f1 b)) n (x / 256) % 16 < 5 := by
      cases n with
      | zero => simp [bytes]
      | succ n =>
        have hb := b3 (x / 256 % 256) (by omega)
        rw [bytes]; omega
    rw [bytes]
    have ih' := ih (x / 256)
    generalize bytes (fun b => f2 (f1 b)) n (x / 256) = Y at hn ih' ⊢
    generalize eg : f2 (f1 (x % 256)) = g at hb ⊢
    have er : rep 0x0f (n + 1) = 256 * rep 0x0f n + 0x0f := by rw [rep]; omega
    have ey : (g + 256 * Y) / 16 + (g + 256 * Y) = 256 * (Y / 16 + Y) + (16 * (Y % 16) + (g / 16 + g)) := by omega
    rw [er, ey, and_split _ _ _ _ (by omega) (by omega), ih', bytes, ← hb.2.2, f3]
    rw [show (16 * (Y % 16) + (g / 16 + g)) &&& 0x0f = (16 * (Y % 16) + (g / 16 + g)) % 16 from Nat.and_two_pow_sub_one_eq_mod _ 4]
    omega
/-- The sums by masks, as natural numbers. -/
def swar (x : Nat) : Nat :=
  let x1 := (x / 2 &&& 6148914691236517205) + (x &&& 6148914691236517205)
  let x2 := (x1 / 4 &&& 3689348814741910323) + (x1 &&& 3689348814741910323)
  (x2 / 16 + x2) &&& 1085102592571150095
theorem swar_eq (x : Nat) : swar x = bytes (cnt 8) 8 x := by
  have r1 : rep 0x55 8 = 6148914691236517205 := by decide
  have r2 : rep 0x33 8 = 3689348814741910323 := by decide
  have r3 : rep 0x0f 8 = 1085102592571150095 := by decide
  unfold swar
  rw [← r1, ← r2, ← r3]
  simp only [step1, step2, bytes_bytes f1 f2 lt1, step3]
theorem cnt_byte' {m n : Nat} (h : m = n + 8) (x : Nat) : cnt m x = cnt 8 (x % 256) + cnt n (x / 256) := by subst h; exact cnt_byte n x
attribute [local irreducible] cnt
theorem cnt64 (x : Nat) : cnt 64 x = cnt 8 (x % 256) + (cnt 8 (x / 256 % 256) + (cnt 8 (x / 256 / 256 % 256) + (cnt 8 (x / 256 / 256 / 256 % 256) + (cnt 8 (x / 256 / 256 / 256 / 256 % 256) + (cnt 8 (x / 256 / 256 / 256 / 256 / 256 % 256) + (cnt 8 (x / 256 / 256 / 256 / 256 / 256 / 256 % 256) + (cnt 8 (x / 256 / 256 / 256 / 256 / 256 / 256 / 256 % 256) + 0))))))) := by
  rw [cnt_byte' (m := 64) (n := 56) rfl, cnt_byte' (m := 56) (n := 48) rfl, cnt_byte' (m := 48) (n := 40) rfl, cnt_byte' (m := 40) (n := 32) rfl, cnt_byte' (m := 32) (n := 24) rfl, cnt_byte' (m := 24) (n := 16) rfl, cnt_byte' (m := 16) (n := 8) rfl]
  have h := cnt_byte' (m := 8) (n := 0) rfl (x / 256 / 256 / 256 / 256 / 256 / 256 / 256)
  rw [cnt_zero] at h
  rw [← h]
theorem div_of {n a b m : Nat} (h : n = a + m * b) (ha : a < m) : n / m = b := by
  rw [h, Nat.add_mul_div_left _ _ (by omega), Nat.div_eq_of_lt ha, Nat.zero_add]
theorem fold1 (c0 c1 c2 c3 c4 c5 c6 c7 : Nat) (l0 : c0 ≤ 8) (l1 : c1 ≤ 8) (l2 : c2 ≤ 8) (l3 : c3 ≤ 8) (l4 : c4 ≤ 8) (l5 : c5 ≤ 8) (l6 : c6 ≤ 8) (l7 : c7 ≤ 8) (z : Nat) (hz : z = c0 + 256 * c1 + 65536 * c2 + 16777216 * c3 + 4294967296 * c4 + 1099511627776 * c5 + 281474976710656 * c6 + 72057594037927936 * c7) :
    z < 18446744073709551616 ∧ z + z / 256 = (c0 + c1) + 256 * (c1 + c2) + 65536 * (c2 + c3) + 16777216 * (c3 + c4) + 4294967296 * (c4 + c5) + 1099511627776 * (c5 + c6) + 281474976710656 * (c6 + c7) + 72057594037927936 * c7 := by
  have k : z / 256 = c1 + 256 * c2 + 65536 * c3 + 16777216 * c4 + 4294967296 * c5 + 1099511627776 * c6 + 281474976710656 * c7 := div_of (a := c0) (by clear l0 l1 l2 l3 l4 l5 l6 l7; omega) (by clear hz; omega)
  refine ⟨by clear k; omega, ?_⟩
  rw [k, hz]
  clear k hz l0 l1 l2 l3 l4 l5 l6 l7
  omega
theorem fold2 (c0 c1 c2 c3 c4 c5 c6 c7 : Nat) (l0 : c0 ≤ 16) (l1 : c1 ≤ 16) (l2 : c2 ≤ 16) (l3 : c3 ≤ 16) (l4 : c4 ≤ 16) (l5 : c5 ≤ 16) (l6 : c6 ≤ 16) (l7 : c7 ≤ 16) (z : Nat) (hz : z = c0 + 256 * c1 + 65536 * c2 + 16777216 * c3 + 4294967296 * c4 + 1099511627776 * c5 + 281474976710656 * c6 + 72057594037927936 * c7) :
    z < 18446744073709551616 ∧ z + z / 65536 = (c0 + c2) + 256 * (c1 + c3) + 65536 * (c2 + c4) + 16777216 * (c3 + c5) + 4294967296 * (c4 + c6) + 1099511627776 * (c5 + c7) + 281474976710656 * c6 + 72057594037927936 * c7 := by
  have k : z / 65536 = c2 + 256 * c3 + 65536 * c4 + 16777216 * c5 + 4294967296 * c6 + 1099511627776 * c7 := div_of (a := c0 + 256 * c1) (by clear l0 l1 l2 l3 l4 l5 l6 l7; omega) (by clear hz; omega)
  refine ⟨by clear k; omega, ?_⟩
  rw [k, hz]
  clear k hz l0 l1 l2 l3 l4 l5 l6 l7
  omega
theorem fold3 (c0 c1 c2 c3 c4 c5 c6 c7 : Nat) (l0 : c0 ≤ 32) (l1 : c1 ≤ 32) (l2 : c2 ≤ 32) (l3 : c3 ≤ 32) (l4 : c4 ≤ 32) (l5 : c5 ≤ 32) (l6 : c6 ≤ 32) (l7 : c7 ≤ 32) (z : Nat) (hz : z = c0 + 256 * c1 + 65536 * c2 + 16777216 * c3 + 4294967296 * c4 + 1099511627776 * c5 + 281474976710656 * c6 + 72057594037927936 * c7) :
    z < 18446744073709551616 ∧ z + z / 4294967296 = (c0 + c4) + 256 * (c1 + c5) + 65536 * (c2 + c6) + 16777216 * (c3 + c7) + 4294967296 * c4 + 1099511627776 * c5 + 281474976710656 * c6 + 72057594037927936 * c7 := by
  have k : z / 4294967296 = c4 + 256 * c5 + 65536 * c6 + 16777216 * c7 := div_of (a := c0 + 256 * c1 + 65536 * c2 + 16777216 * c3) (by clear l0 l1 l2 l3 l4 l5 l6 l7; omega) (by clear hz; omega)
  refine ⟨by clear k; omega, ?_⟩
  rw [k, hz]
  clear k hz l0 l1 l2 l3 l4 l5 l6 l7
  omega
theorem fold4 (c0 c1 c2 c3 c4 c5 c6 c7 : Nat) (l0 : c0 ≤ 64) (l1 : c1 ≤ 64) (l2 : c2 ≤ 64) (l3 : c3 ≤ 64) (l4 : c4 ≤ 64) (l5 : c5 ≤ 64) (l6 : c6 ≤ 64) (l7 : c7 ≤ 64) (z : Nat) (hz : z = c0 + 256 * c1 + 65536 * c2 + 16777216 * c3 + 4294967296 * c4 + 1099511627776 * c5 + 281474976710656 * c6 + 72057594037927936 * c7) : z < 9223372036854775808 ∧ z % 128 = c0 := by
  refine ⟨by omega, ?_⟩
  have : z = c0 + 128 * (2 * c1 + 512 * c2 + 131072 * c3 + 33554432 * c4 + 8589934592 * c5 + 2199023255552 * c6 + 562949953421312 * c7) := by clear l0 l1 l2 l3 l4 l5 l6 l7; omega
  rw [this, Nat.add_mul_mod_self_left, Nat.mod_eq_of_lt (by clear hz this; omega)]
theorem fold8 (c0 c1 c2 c3 c4 c5 c6 c7 : Nat) (l0 : c0 ≤ 8) (l1 : c1 ≤ 8) (l2 : c2 ≤ 8) (l3 : c3 ≤ 8) (l4 : c4 ≤ 8) (l5 : c5 ≤ 8) (l6 : c6 ≤ 8) (l7 : c7 ≤ 8) (z : Nat) (hz : z = c0 + 256 * c1 + 65536 * c2 + 16777216 * c3 + 4294967296 * c4 + 1099511627776 * c5 + 281474976710656 * c6 + 72057594037927936 * c7) :
    z < 18446744073709551616 ∧ z + z / 256 < 18446744073709551616 ∧ (z + z / 256) + (z + z / 256) / 65536 < 18446744073709551616 ∧
      ((z + z / 256) + (z + z / 256) / 65536) + ((z + z / 256) + (z + z / 256) / 65536) / 4294967296 < 9223372036854775808 ∧
      (((z + z / 256) + (z + z / 256) / 65536) + ((z + z / 256) + (z + z / 256) / 65536) / 4294967296) % 128 = c0 + c1 + c2 + c3 + c4 + c5 + c6 + c7 := by
  obtain ⟨a1, a2⟩ := fold1 _ _ _ _ _ _ _ _ l0 l1 l2 l3 l4 l5 l6 l7 z hz
  clear hz
  refine ⟨a1, ?_⟩
  generalize z + z / 256 = z1 at a2 ⊢
  clear a1
  obtain ⟨b1, b2⟩ := fold2 (c0 + c1) (c1 + c2) (c2 + c3) (c3 + c4) (c4 + c5) (c5 + c6) (c6 + c7) c7 (by omega) (by omega) (by omega) (by omega) (by omega) (by omega) (by omega) (by omega) z1 a2
  clear a2
  refine ⟨b1, ?_⟩
  generalize z1 + z1 / 65536 = z2 at b2 ⊢
  clear b1
  obtain ⟨d1, d2⟩ := fold3 ((c0 + c1) + (c2 + c3)) ((c1 + c2) + (c3 + c4)) ((c2 + c3) + (c4 + c5)) ((c3 + c4) + (c5 + c6)) ((c4 + c5) + (c6 + c7)) ((c5 + c6) + c7) (c6 + c7) c7 (by omega) (by omega) (by omega) (by omega) (by omega) (by omega) (by omega) (by omega) z2 b2
  clear b2
  refine ⟨d1, ?_⟩
  generalize z2 + z2 / 4294967296 = z3 at d2 ⊢
  clear d1
  obtain ⟨f1, f2⟩ := fold4 (((c0 + c1) + (c2 + c3)) + ((c4 + c5) + (c6 + c7))) (((c1 + c2) + (c3 + c4)) + ((c5 + c6) + c7)) (((c2 + c3) + (c4 + c5)) + (c6 + c7)) (((c3 + c4) + (c5 + c6)) + c7) ((c4 + c5) + (c6 + c7)) ((c5 + c6) + c7) (c6 + c7) c7 (by omega) (by omega) (by omega) (by omega) (by omega) (by omega) (by omega) (by omega) z3 d2
  clear d2
  refine ⟨f1, ?_⟩
  rw [f2]
  clear f1 f2
  omega
/-- THE SUMS BY MASKS, FOLDED, ARE THE COUNT. -/
theorem fold (x z : Nat) (hz : z = swar x) :
    z < 18446744073709551616 ∧ z + z / 256 < 18446744073709551616 ∧ (z + z / 256) + (z + z / 256) / 65536 < 18446744073709551616 ∧
      ((z + z / 256) + (z + z / 256) / 65536) + ((z + z / 256) + (z + z / 256) / 65536) / 4294967296 < 9223372036854775808 ∧
      (((z + z / 256) + (z + z / 256) / 65536) + ((z + z / 256) + (z + z / 256) / 65536) / 4294967296) % 128 = cnt 64 x := by
  have := fold8 _ _ _ _ _ _ _ _ (cnt_le 8 (x % 256)) (cnt_le 8 (x / 256 % 256)) (cnt_le 8 (x / 256 / 256 % 256)) (cnt_le 8 (x / 256 / 256 / 256 % 256)) (cnt_le 8 (x / 256 / 256 / 256 / 256 % 256)) (cnt_le 8 (x / 256 / 256 / 256 / 256 / 256 % 256)) (cnt_le 8 (x / 256 / 256 / 256 / 256 / 256 / 256 % 256)) (cnt_le 8 (x / 256 / 256 / 256 / 256 / 256 / 256 / 256 % 256)) z
    (by
      rw [hz, swar_eq]
      simp only [bytes]
      generalize cnt 8 (x % 256) = c0
      generalize cnt 8 (x / 256 % 256) = c1
      generalize cnt 8 (x / 256 / 256 % 256) = c2
      generalize cnt 8 (x / 256 / 256 / 256 % 256) = c3
      generalize cnt 8 (x / 256 / 256 / 256 / 256 % 256) = c4
      generalize cnt 8 (x / 256 / 256 / 256 / 256 / 256 % 256) = c5
      generalize cnt 8 (x / 256 / 256 / 256 / 256 / 256 / 256 % 256) = c6
      generalize cnt 8 (x / 256 / 256 / 256 / 256 / 256 / 256 / 256 % 256) = c7
      omega)
  rw [cnt64]
  refine ⟨this.1, this.2.1, this.2.2.1, this.2.2.2.1, ?_⟩
  rw [this.2.2.2.2]
  simp only [Nat.add_assoc, Nat.add_zero]
end Ones

/-
  What math/bits.OnesCount64 and label.Size compute: the number of bits.
-/
namespace Go.Proofs.YtmiccalfamepdaaGreatDoor
open Go.RowKit
set_option maxHeartbeats 400000

def onesS1 (x : Int) : Int := IntKind.u64.wrap (bits .and .u64 (x / 2) 6148914691236517205 + bits .and .u64 x 6148914691236517205)
def onesS2 (x : Int) : Int := IntKind.u64.wrap (bits .and .u64 (x / 4) 3689348814741910323 + bits .and .u64 x 3689348814741910323)
def onesS3 (x : Int) : Int := bits .and .u64 (IntKind.u64.wrap (x / 16 + x)) 1085102592571150095
def onesS4 (x : Int) : Int := IntKind.u64.wrap (x + x / 256)
def onesS5 (x : Int) : Int := IntKind.u64.wrap (x + x / 65536)
def onesS6 (x : Int) : Int := IntKind.u64.wrap (x + x / 4294967296)
theorem and_le_right (a m : Nat) : a &&& m ≤ m := Nat.and_le_right
theorem onesS1_nat (x : Nat) (hx : x < 18446744073709551616) : onesS1 (x : Int) = (((x / 2 &&& 6148914691236517205) + (x &&& 6148914691236517205) : Nat) : Int) := by
  unfold onesS1
  have h1 := u64_and_nat (x / 2) 6148914691236517205 (by omega) (by omega)
  have h2 := u64_and_nat x 6148914691236517205 (by omega) (by omega)
  have l1 := and_le_right (x / 2) 6148914691236517205
  have l2 := and_le_right x 6148914691236517205
  rw [show ((x : Int) / 2) = ((x / 2 : Nat) : Int) from by omega, show (6148914691236517205 : Int) = ((6148914691236517205 : Nat) : Int) from rfl, h1, h2]
  generalize x / 2 &&& 6148914691236517205 = a at l1 ⊢
  generalize x &&& 6148914691236517205 = b at l2 ⊢
  rw [IntWalk.u64_in _ (by omega)]
  omega
theorem onesS2_nat (x : Nat) (hx : x < 18446744073709551616) : onesS2 (x : Int) = (((x / 4 &&& 3689348814741910323) + (x &&& 3689348814741910323) : Nat) : Int) := by
  unfold onesS2
  have h1 := u64_and_nat (x / 4) 3689348814741910323 (by omega) (by omega)
  have h2 := u64_and_nat x 3689348814741910323 (by omega) (by omega)
  have l1 := and_le_right (x / 4) 3689348814741910323
  have l2 := and_le_right x 3689348814741910323
  rw [show ((x : Int) / 4) = ((x / 4 : Nat) : Int) from by omega, show (3689348814741910323 : Int) = ((3689348814741910323 : Nat) : Int) from rfl, h1, h2]
  generalize x / 4 &&& 3689348814741910323 = a at l1 ⊢
  generalize x &&& 3689348814741910323 = b at l2 ⊢
  rw [IntWalk.u64_in _ (by omega)]
  omega
theorem onesS3_nat (x : Nat) (hx : x < 9223372036854775808) : onesS3 (x : Int) = ((x / 16 + x &&& 1085102592571150095 : Nat) : Int) := by
  unfold onesS3
  rw [IntWalk.u64_in _ (by omega), show ((x : Int) / 16 + x) = ((x / 16 + x : Nat) : Int) from by omega]
  exact u64_and_nat _ 1085102592571150095 (by omega) (by omega)
theorem ones_law (x : Nat) (hx : x < 18446744073709551616) : bits .and .i64 (wrap64 (onesS6 (onesS5 (onesS4 (onesS3 (onesS2 (onesS1 (x : Int)))))))) 127 = (Ones.cnt 64 x : Int) := by
  have hl1 : (x / 2 &&& 6148914691236517205) + (x &&& 6148914691236517205) < 18446744073709551616 := by
    have l1 := and_le_right (x / 2) 6148914691236517205
    have l2 := and_le_right x 6148914691236517205
    omega
  rw [onesS1_nat x hx]
  have e : (let x1 := (x / 2 &&& 6148914691236517205) + (x &&& 6148914691236517205)
    let x2 := (x1 / 4 &&& 3689348814741910323) + (x1 &&& 3689348814741910323)
    (x2 / 16 + x2) &&& 1085102592571150095) = Ones.swar x := rfl
  revert e
  generalize (x / 2 &&& 6148914691236517205) + (x &&& 6148914691236517205) = y at hl1 ⊢
  intro e
  have hl2 : (y / 4 &&& 3689348814741910323) + (y &&& 3689348814741910323) < 9223372036854775808 := by
    have l1 := and_le_right (y / 4) 3689348814741910323
    have l2 := and_le_right y 3689348814741910323
    omega
  rw [onesS2_nat y hl1]
  revert e
  simp only
  generalize (y / 4 &&& 3689348814741910323) + (y &&& 3689348814741910323) = z at hl2 ⊢
  intro e
  rw [onesS3_nat z hl2]
  obtain ⟨h1, h2, h3, h4, h5⟩ := Ones.fold x _ e
  clear e
  generalize (z / 16 + z) &&& 1085102592571150095 = t at h1 h2 h3 h4 h5 ⊢
  unfold onesS4 onesS5 onesS6
  rw [IntWalk.u64_in ((t : Int) + t / 256) (by omega), show ((t : Int) + t / 256) = ((t + t / 256 : Nat) : Int) from by omega]
  generalize t + t / 256 = a at h2 h3 h4 h5 ⊢
  rw [IntWalk.u64_in ((a : Int) + a / 65536) (by omega), show ((a : Int) + a / 65536) = ((a + a / 65536 : Nat) : Int) from by omega]
  generalize a + a / 65536 = b at h3 h4 h5 ⊢
  rw [IntWalk.u64_in ((b : Int) + b / 4294967296) (by omega), show ((b : Int) + b / 4294967296) = ((b + b / 4294967296 : Nat) : Int) from by omega]
  rw [← h5]
  generalize b + b / 4294967296 = c at h4 ⊢
  rw [IntWalk.wrap64_in _ ⟨by omega, by omega⟩]
  have hm : c % 128 < 128 := Nat.mod_lt _ (by decide)
  show IntKind.i64.wrap ((BitVec.ofInt 64 (c : Int) &&& BitVec.ofInt 64 (127 : Int)).toNat : Int) = _
  rw [BitVec.toNat_and, BitVec.ofInt_natCast, BitVec.toNat_ofNat, Nat.mod_eq_of_lt (show c < 2 ^ 64 by omega), show (BitVec.ofInt 64 (127 : Int)).toNat = 2 ^ 7 - 1 from by decide, Nat.and_two_pow_sub_one_eq_mod]
  generalize c % 2 ^ 7 = d at hm ⊢
  exact IntWalk.i64_in _ (by omega)

theorem ones_any (x : Nat) (w : World) (hx : x < 18446744073709551616) :
    Calls Tryz.prog 116 #[.int .u64 (x : Int)] w fun e w' => e = .returned (.int .i64 (Ones.cnt 64 x : Int)) ∧ w = w' := by
  have HL := Lib.hid (ones_law x hx)
  go_enter Tryz.func116, Tryz.ntmps116
  go_wp2_with fail
  go_ret
  exact ⟨ret_int HL.out, rfl⟩
theorem size_any (x : Nat) (w : World) (hx : x < 18446744073709551616) :
    Calls Tryz.prog 87 #[.int .u64 (x : Int)] w fun e w' => e = .returned (.int .i64 (Ones.cnt 64 x : Int)) ∧ w = w' := by
  go_enter Tryz.func87, Tryz.ntmps87
  go_wp2_with (go_at_call 116; refine (ones_any _ _ hx).mono ?_; rintro e w' ⟨rfl, rfl⟩)
  go_ret
  exact ⟨rfl, rfl⟩
end Go.Proofs.YtmiccalfamepdaaGreatDoor

/-
  What math/bits.TrailingZeros64 and label.Tags compute: the lowest tag; all tags, rising.
-/
namespace Go.Proofs.YtmiccalfamepdaaGreatDoor
open Go.RowKit
set_option maxHeartbeats 1000000

/-- The table of math/bits lies in its variable. -/
def Tab64 (w : World) : Prop := TabAt 0 Lib.deBruijn64tab w
theorem Tab64.below {w w' : World} {B : Nat} (h : Tab64 w) (hB : 0 < B) (hb : Below B w w') : Tab64 w' := fun j hj => (hb.cell (p := ⟨0, j, none⟩) hB).trans (h j hj)

theorem tz_core (x k idx : Nat) (w : World) (hx0 : ((x : Int) == 0) = false)
    (key : IntKind.u64.wrap (bits BinOp.and IntKind.u64 (x : Int) (IntKind.u64.wrap (-(x : Int))) * 285870213051353865) / 288230376151711744 = (idx : Int))
    (hi : idx < 64) (hk : k < 64) (hcell : w.cell? ⟨0, idx, none⟩ = some (.int .u8 k)) :
    Calls Tryz.prog 88 #[.int .u64 x] w fun e w' => e = .returned (.int .i64 k) ∧ w = w' := by
  go_enter Tryz.func88, Tryz.ntmps88
  go_wp2_with (simp only [key])
  go_ret
  exact ⟨rfl, rfl⟩
theorem tz_any (x : Nat) (hx : x < 18446744073709551616) (h0 : x ≠ 0) (w : World) (hT : Tab64 w) :
    Calls Tryz.prog 88 #[.int .u64 x] w fun e w' => e = .returned (.int .i64 (Lib.ctz 64 x)) ∧ w = w' := by
  obtain ⟨hlow, hk⟩ := Lib.lowest_bit 64 x h0 hx
  obtain ⟨hi, htab⟩ := Lib.deBruijn64_at _ hk
  have hcell := hT _ hi
  rw [htab] at hcell
  exact tz_core x _ _ w (by simp; omega) (tz64_key x _ hx h0 hlow) hi hk hcell

theorem tags_lib {l : Nat} (hl : l < 18446744073709551616) (h0 : l ≠ 0) : Lab.tags l = Lib.ctz 64 l :: Lab.tags (l &&& (l - 1)) := by
  obtain ⟨m, hm, hk⟩ := Lib.ctzFrom_spec 64 l (by omega) hl
  have e : Lib.ctz 64 l = Lib.ctzFrom 64 l := by simp [Lib.ctz, h0]
  rw [e]
  exact Lab.tags_step hm hk

theorem int_info : (Tryz.prog.info? 3).map (fun i => (i.zero, i.size, i.bytes)) = some (some (.int .i64 0), 1, 8) := by kernel_rfl

theorem tags_any (l : Nat) (w : World) (hl : l < 18446744073709551616) (hT : Tab64 w) (hB : 0 < w.heap.size) :
    Calls Tryz.prog 57 #[.int .u64 (l : Int)] w fun e w' => ∃ v, e = .returned v ∧ w'.ownsRow w.heap.size 3 1 v (Lab.tags l).length ((Lab.tags l).map fun t : Nat => Value.int .i64 (t : Int)) ∧ Below w.heap.size w w' := by
  obtain ⟨i0, hi, hz0, hz1, hz2⟩ := info_parts int_info
  have hc := Ones.cnt_le 64 l
  have HT := Lib.hid hT
  clear hT
  go_enter Tryz.func57, Tryz.ntmps57
  go_wp2_with (first
    | (go_at_call 87; refine (size_any _ _ hl).mono ?_; rintro e w' ⟨rfl, rfl⟩)
    | (at_make; refine wpList_make_own _ rfl _ _ 26 rfl w.heap.size 3 i0 (.int .i64 0) 1 Tryz.underlying26 hi hz0 hz1 .i64 .i64 _ (Ones.cnt 64 l) rfl rfl rfl (by rw [hz2]; omega) (by unfold maxLen; omega) (Nat.le_refl _) ?_; intro w0 hown0 hgrow0))
  have hbel0 : Below w.heap.size w w0 := (Below.refl _ _).grown hgrow0 (Nat.le_refl _) (by simp)
  clear hgrow0
  go_loopw [0, 3] (fun x v wr => ∃ (n : Nat) (done : List Nat), n < 18446744073709551616 ∧ x = .int .u64 (n : Int) ∧ Hid (done ++ Lab.tags n = Lab.tags l) ∧
      wr.ownsRow w.heap.size 3 1 v done.length (done.map fun t : Nat => Value.int .i64 (t : Int)) ∧ Below w.heap.size w wr) (fun x _ _ => (intOf x).toNat)
  case atStart => exact ⟨l, [], hl, rfl, Lib.hid rfl, hown0, hbel0⟩
  case round =>
    clear hown0 hbel0
    obtain ⟨n, done, hn, rfl, H, hown, hbel⟩ := hrel
    by_cases h0 : n = 0
    · subst h0
      go_wp2_with fail
      go_ret
      refine ⟨_, rfl, ?_, hbel⟩
      have := H.out
      rw [Lab.tags_zero, List.append_nil] at this
      rw [← this]
      exact hown
    · have hne : (((n : Nat) : Int) != 0) = true := by simp; omega
      have hpos : 1 ≤ n := by omega
      have HC := Lib.hid (tags_lib hn h0)
      have HD : Hid (done.length + 1 ≤ 64) := by
        have h1 := Lab.tags_len l
        rw [← H.out, HC.out, List.length_append, List.length_cons] at h1
        exact Nat.le_trans (by omega) h1
      have hd := HD.out
      have hsz := hbel.size
      have hTr : Tab64 w := HT.out
      have HTr := Lib.hid (hTr.below hB hbel)
      clear hTr
      go_wp2_with (first
        | (go_at_call 88; refine (tz_any _ hn h0 _ HTr.out).mono ?_; rintro e w' ⟨rfl, rfl⟩)
        | (at_builtin; refine wpList_append_own _ rfl _ _ 26 rfl w.heap.size 3 i0 (.int .i64 0) 1 8 Tryz.underlying26 hi hz0 hz1 hz2 rfl (by decide) _ _ _ rfl (hown.alloc _) ⟨wr.heap.size, 0, none⟩ 1 1 [.int .i64 (Lib.ctz 64 n : Int)] rfl rfl (cell_one_new _ _ _) (by intro u hu; simp only [List.mem_singleton] at hu; subst hu; rfl) (by unfold maxLen; omega) (by omega) (by simp; omega) ?_; intro v1 w1 hown1 hgrow1 hnn1))
      have hbel1 : Below w.heap.size w w1 := (hbel.alloc hsz _).grown hgrow1 (by simp; omega) (fun k hk => (hown.lt k hk).1)
      clear hown hgrow1 hnn1
      have hand : bits BinOp.and IntKind.u64 (↑n) (↑n - 1) = ((n &&& (n - 1) : Nat) : Int) := by
        rw [show ((n : Int) - 1) = ((n - 1 : Nat) : Int) from by omega]
        exact u64_and_nat n (n - 1) hn (by omega)
      have hlt := Lab.and_pred_lt h0
      go_roundw
      case rel =>
        refine ⟨n &&& (n - 1), done ++ [Lib.ctz 64 n], by omega, congrArg (Value.int .u64) hand, Lib.hid ?_, ?_, hbel1⟩
        · rw [List.append_assoc, List.singleton_append, ← HC.out]; exact H.out
        · simpa using hown1
      case measure =>
        rw [hand]
        simp only [intOf, Int.toNat_natCast]
        exact hlt
end Go.Proofs.YtmiccalfamepdaaGreatDoor

/-
  A label's text read again, in plain words: by commas (label.Parse) and from place to place (scrimref01.Parse).
-/
set_option linter.unusedVariables false
namespace Lab
open Go
/-! ### Cutting at a byte -/
def cutAt (c : UInt8) : List UInt8 → List UInt8 × List UInt8 × Bool
  | [] => ([], [], false)
  | b :: l => if b = c then ([], l, true) else (b :: (cutAt c l).1, (cutAt c l).2.1, (cutAt c l).2.2)
theorem cutAt_none {c : UInt8} : ∀ {p : List UInt8}, c ∉ p → cutAt c p = (p, [], false)
  | [], _ => rfl
  | b :: l, h => by
    have h1 : b ≠ c := fun e => h (by rw [e]; exact List.mem_cons_self)
    rw [cutAt, if_neg h1, cutAt_none (fun hm => h (List.mem_cons_of_mem _ hm))]
theorem cutAt_some {c : UInt8} : ∀ {p r : List UInt8}, c ∉ p → cutAt c (p ++ c :: r) = (p, r, true)
  | [], r, _ => by rw [List.nil_append, cutAt, if_pos rfl]
  | b :: l, r, h => by
    have h1 : b ≠ c := fun e => h (by rw [e]; exact List.mem_cons_self)
    rw [List.cons_append, cutAt, if_neg h1, cutAt_some (fun hm => h (List.mem_cons_of_mem _ hm))]
theorem cutAt_len (c : UInt8) : ∀ s : List UInt8, (cutAt c s).1.length ≤ s.length ∧ (cutAt c s).2.1.length ≤ s.length ∧ (s ≠ [] → (cutAt c s).2.1.length < s.length)
  | [] => by simp [cutAt]
  | b :: l => by
    have ih := cutAt_len c l
    unfold cutAt
    split
    · simp
    · refine ⟨by simp; exact ih.1, by simp; omega, fun _ => ?_⟩
      simp
      omega
theorem index_cut (c : UInt8) : ∀ s : List UInt8, (Lib.indexByte s c = -1 ∧ cutAt c s = (s, [], false)) ∨ (∃ n : Nat, Lib.indexByte s c = (n : Int) ∧ n < s.length ∧ cutAt c s = (s.take n, s.drop (n + 1), true))
  | [] => .inl ⟨rfl, rfl⟩
  | b :: l => by
    by_cases e : b = c
    · refine .inr ⟨0, ?_, by simp, ?_⟩
      · simp [Lib.indexByte, e]
      · simp [cutAt, e]
    · have hb : (b == c) = false := by simpa using e
      rcases index_cut c l with ⟨h1, h2⟩ | ⟨n, h1, h2, h3⟩
      · refine .inl ⟨by simp [Lib.indexByte, hb, h1], by rw [cutAt, if_neg e, h2]⟩
      · refine .inr ⟨n + 1, ?_, by simp; omega, by rw [cutAt, if_neg e, h3]; simp⟩
        have : ((n : Int) == -1) = false := by rw [beq_eq_false_iff_ne]; omega
        simp [Lib.indexByte, hb, h1, this]

/-! ### One tag; a run -/
def digit (b : UInt8) : Bool := decide (48 ≤ b.toNat) && decide (b.toNat ≤ 57)
def numOf (s : List UInt8) : Nat := s.foldl (fun n b => 10 * n + (b.toNat - 48)) 0
def tagP (s : List UInt8) : Option Nat := if s = [] ∨ 2 < s.length ∨ s.all digit = false then none else if numOf s < 64 then some (numOf s) else none
def bitsTo (a : Nat) : Nat → Nat
  | 0 => 0
  | n + 1 => bitsTo a n ||| 2 ^ (a + n)
/-- The label of all tags from a to b. -/
def bitsFrom (a b : Nat) : Nat := bitsTo a (b + 1 - a)
theorem bitsTo_bit (a n i : Nat) : (bitsTo a n).testBit i = (decide (a ≤ i) && decide (i < a + n)) := by
  induction n with
  | zero =>
    rw [bitsTo, Nat.zero_testBit]
    by_cases h : a ≤ i <;> simp [h]
  | succ n ih =>
    rw [bitsTo, Nat.testBit_or, ih, Nat.testBit_two_pow]
    by_cases h1 : a ≤ i <;> by_cases h2 : i < a + n <;> by_cases h3 : a + n = i <;> simp [h1, h2, h3] <;> omega
theorem bitsFrom_bit (a b i : Nat) : (bitsFrom a b).testBit i = (decide (a ≤ i) && decide (i ≤ b)) := by
  rw [bitsFrom, bitsTo_bit]
  by_cases h1 : a ≤ i <;> by_cases h2 : i ≤ b <;> simp [h1, h2] <;> omega
theorem bitsTo_lt {a n : Nat} (h : a + n ≤ 64) : bitsTo a n < 18446744073709551616 := by
  refine Nat.lt_pow_two_of_testBit (n := 64) _ fun i hi => ?_
  rw [bitsTo_bit]
  simp; omega
theorem bitsFrom_lt {a b : Nat} (h : b < 64) (ha : a < 64) : bitsFrom a b < 18446744073709551616 := bitsTo_lt (by omega)
def runP (s : List UInt8) : Option Nat :=
  match tagP (cutAt 45 s).1 with
  | none => none
  | some a => if (cutAt 45 s).2.2 then (match tagP (cutAt 45 s).2.1 with | none => none | some b => some (bitsFrom a b)) else some (bitsFrom a a)
theorem tagP_lt {s : List UInt8} {n : Nat} (h : tagP s = some n) : n < 64 := by
  unfold tagP at h
  split at h
  · cases h
  · split at h
    · injection h with h; omega
    · cases h
theorem runP_lt {s : List UInt8} {n : Nat} (h : runP s = some n) : n < 18446744073709551616 := by
  unfold runP at h
  split at h
  · cases h
  · rename_i a ha
    have := tagP_lt ha
    split at h
    · split at h
      · cases h
      · rename_i b hb
        have := tagP_lt hb
        injection h with h
        rw [← h]
        exact bitsFrom_lt (by omega) (by omega)
    · injection h with h
      rw [← h]
      exact bitsFrom_lt (by omega) (by omega)
/-! ### All parts -/
def innerP : Nat → List UInt8 → Nat → Option Nat
  | 0, s, acc => if s = [] then some acc else none
  | f + 1, s, acc => if s = [] then some acc else match runP (cutAt 44 s).1 with | none => none | some l => innerP f (cutAt 44 s).2.1 (join acc l)
theorem innerP_lt : ∀ (f : Nat) (s : List UInt8) (acc n : Nat), acc < 18446744073709551616 → innerP f s acc = some n → n < 18446744073709551616
  | 0, s, acc, n, ha, h => by
    unfold innerP at h
    split at h
    · injection h with h; omega
    · cases h
  | f + 1, s, acc, n, ha, h => by
    unfold innerP at h
    split at h
    · injection h with h; omega
    · split at h
      · cases h
      · rename_i l hl
        exact innerP_lt f _ _ n (join_lt ha (runP_lt hl)) h

/-! ### Decimal digits of a tag -/
theorem digit_of {d : Nat} (h : d < 10) : (UInt8.ofNat (48 + d)).toNat = 48 + d := by
  rw [UInt8.toNat_ofNat']; exact Nat.mod_eq_of_lt (by omega)
theorem dec_digits {n : Nat} (h : n < 64) : (Lib.decDigits n).all digit = true ∧ numOf (Lib.decDigits n) = n := by
  by_cases h10 : n < 10
  · rw [Lib.decDigits_one h10]
    have e := digit_of h10
    constructor
    · rw [List.all_cons, List.all_nil, digit, e]; simp; omega
    · show 10 * 0 + ((UInt8.ofNat (48 + n)).toNat - 48) = n
      rw [e]; omega
  · rw [Lib.decDigits_two h10 (by omega)]
    have e1 := digit_of (show n / 10 < 10 by omega)
    have e2 := digit_of (show n % 10 < 10 by omega)
    constructor
    · rw [List.all_cons, List.all_cons, List.all_nil, digit, digit, e1, e2]; simp; omega
    · show 10 * (10 * 0 + ((UInt8.ofNat (48 + n / 10)).toNat - 48)) + ((UInt8.ofNat (48 + n % 10)).toNat - 48) = n
      rw [e1, e2]; omega
theorem dec_mem {n : Nat} (h : n < 64) : ∀ b ∈ Lib.decDigits n, digit b = true := List.all_eq_true.1 (dec_digits h).1
theorem tagP_dec {n : Nat} (h : n < 64) : tagP (Lib.decDigits n) = some n := by
  have h1 := dec_len h
  have h2 := dec_digits h
  unfold tagP
  rw [if_neg, h2.2, if_pos h]
  rintro (e | e | e)
  · rw [e] at h1; simp at h1
  · omega
  · rw [h2.1] at e; cases e
theorem no_byte {n : Nat} (h : n < 64) {c : UInt8} (hc : digit c = false) : c ∉ Lib.decDigits n := fun hm => by rw [dec_mem h c hm] at hc; cases hc
theorem piece_run {r : Nat × Nat} (h1 : r.1 ≤ r.2) (h2 : r.2 < 64) : ∀ p ∈ piece r, (44 : UInt8) ∉ p ∧ p ≠ [] ∧ (runP p).isSome = true := by
  intro p hp
  have k1 : r.1 < 64 := by omega
  have d1 : digit 44 = false := by decide
  have d2 : digit 45 = false := by decide
  have one : ∀ {n : Nat}, n < 64 → (44 : UInt8) ∉ Lib.decDigits n ∧ Lib.decDigits n ≠ [] ∧ (runP (Lib.decDigits n)).isSome = true := fun {n} hn => by
    refine ⟨no_byte hn d1, fun e => ?_, ?_⟩
    · have := dec_len hn; rw [e] at this; simp at this
    · unfold runP; rw [cutAt_none (no_byte hn d2)]; simp [tagP_dec hn]
  unfold piece at hp
  split at hp
  · simp at hp; subst hp; exact one k1
  · split at hp
    · simp at hp
      rcases hp with rfl | rfl
      · exact one k1
      · exact one h2
    · simp at hp
      subst hp
      refine ⟨?_, by simp, ?_⟩
      · intro hm
        rcases List.mem_append.1 hm with hm | hm
        · exact no_byte k1 d1 hm
        · rcases List.mem_cons.1 hm with hm | hm
          · cases hm
          · exact no_byte h2 d1 hm
      · unfold runP; rw [cutAt_some (no_byte k1 d2)]; simp [tagP_dec k1, tagP_dec h2]
/-- What a part is worth. -/
def worth (p : List UInt8) : Nat := (runP p).getD 0
theorem runP_dec {n : Nat} (h : n < 64) : runP (Lib.decDigits n) = some (bitsFrom n n) := by
  unfold runP; rw [cutAt_none (no_byte h (by decide))]; simp [tagP_dec h]
theorem runP_two {a b : Nat} (ha : a < 64) (hb : b < 64) : runP (Lib.decDigits a ++ 45 :: Lib.decDigits b) = some (bitsFrom a b) := by
  unfold runP; rw [cutAt_some (no_byte ha (by decide))]; simp [tagP_dec ha, tagP_dec hb]
def orAll (ps : List (List UInt8)) (acc : Nat) : Nat := ps.foldl (fun x p => join x (worth p)) acc
theorem orAll_bit (ps : List (List UInt8)) (i : Nat) : ∀ acc, (orAll ps acc).testBit i = (acc.testBit i || ps.any fun p => (worth p).testBit i) := by
  induction ps with
  | nil => intro acc; simp [orAll]
  | cons p r ih => intro acc; rw [orAll, List.foldl_cons, ← orAll, ih, List.any_cons, join, Nat.testBit_or, Bool.or_assoc]
theorem piece_worth {r : Nat × Nat} (h1 : r.1 ≤ r.2) (h2 : r.2 < 64) (i : Nat) : ((piece r).any fun p => (worth p).testBit i) = (bitsFrom r.1 r.2).testBit i := by
  have k1 : r.1 < 64 := by omega
  unfold piece
  split
  · rename_i e
    simp [worth, runP_dec k1, e]
  · split
    · rename_i e
      simp only [List.any_cons, List.any_nil, Bool.or_false, worth, runP_dec k1, runP_dec h2, Option.getD_some, bitsFrom_bit]
      by_cases a : r.1 ≤ i <;> by_cases b : i ≤ r.1 <;> by_cases c : r.2 ≤ i <;> by_cases d : i ≤ r.2 <;> simp [a, b, c, d] <;> omega
    · simp [worth, runP_two k1 h2]
theorem runs_bit {l : Nat} (hl : l < 18446744073709551616) : ∀ (n p : Nat), 64 - p ≤ n → ∀ i, ((runs l p).any fun r => (bitsFrom r.1 r.2).testBit i) = (decide (p ≤ i) && l.testBit i) := by
  intro n
  induction n with
  | zero =>
    intro p hp i
    rw [runs, dif_neg (by omega)]
    by_cases h : p ≤ i
    · rw [testBit_high hl (by omega)]; simp
    · simp [h]
  | succ n ih =>
    intro p hp i
    by_cases h64 : p < 64
    · cases hb : l.testBit p
      · rw [runs, dif_pos h64, if_neg (by simp [hb]), ih (p + 1) (by omega)]
        by_cases h1 : p + 1 ≤ i
        · simp [h1, Nat.le_of_succ_le h1]
        · by_cases h2 : p ≤ i
          · have : i = p := by omega
            subst this
            simp [hb]
          · simp [h1, h2]
      · have hge := last_ge l p
        rw [runs, dif_pos h64, if_pos hb, List.any_cons, ih (last l p + 1) (by omega), bitsFrom_bit]
        by_cases h1 : p ≤ i
        · by_cases h2 : i ≤ last l p
          · have := last_bits hb i h1 h2
            simp [h1, h2, this]
          · have h3 : last l p + 1 ≤ i := by omega
            simp [h1, h2, h3]
        · have h3 : ¬ last l p + 1 ≤ i := by omega
          simp [h1, h3]
    · rw [runs, dif_neg h64]
      by_cases h : p ≤ i
      · rw [testBit_high hl (by omega)]; simp
      · simp [h]
theorem pieces_worth {l : Nat} (hl : l < 18446744073709551616) : orAll (pieces l 0) 0 = l := by
  apply Nat.eq_of_testBit_eq
  intro i
  have h1 := runs_bit hl 64 0 (by omega) i
  have hm := runs_mem hl 64 0 (by omega)
  rw [orAll_bit, Nat.zero_testBit, Bool.false_or, pieces, List.any_flatMap]
  have : ∀ rs : List (Nat × Nat), (∀ r ∈ rs, 0 ≤ r.1 ∧ r.1 ≤ r.2 ∧ r.2 < 64) → (rs.any fun r => (piece r).any fun p => (worth p).testBit i) = rs.any fun r => (bitsFrom r.1 r.2).testBit i := by
    intro rs
    induction rs with
    | nil => intro _; rfl
    | cons r t ih =>
      intro h
      have hr := h r List.mem_cons_self
      rw [List.any_cons, List.any_cons, piece_worth hr.2.1 hr.2.2, ih (fun x hx => h x (List.mem_cons_of_mem _ hx))]
  rw [this _ hm, h1]
  simp
theorem pieces_ok {l : Nat} (hl : l < 18446744073709551616) : ∀ p ∈ pieces l 0, (44 : UInt8) ∉ p ∧ p ≠ [] ∧ (runP p).isSome = true := by
  intro p hp
  obtain ⟨r, hr, hpr⟩ := List.mem_flatMap.1 hp
  obtain ⟨_, h1, h2⟩ := runs_mem hl 64 0 (by omega) r hr
  exact piece_run h1 h2 p hpr
theorem join_step (p q : List UInt8) (r : List (List UInt8)) : Lib.join (p :: q :: r) [44] = p ++ 44 :: Lib.join (q :: r) [44] := by
  rw [Lib.join_cons, Lib.join_cons]
  simp [Lib.joinTail]
theorem innerP_join : ∀ (ps : List (List UInt8)) (f acc : Nat), ps.length ≤ f → (∀ p ∈ ps, (44 : UInt8) ∉ p ∧ p ≠ [] ∧ (runP p).isSome = true) → innerP f (Lib.join ps [44]) acc = some (orAll ps acc)
  | [], f, acc, _, _ => by
    rw [Lib.join_nil]
    cases f <;> simp [innerP, orAll]
  | [p], f + 1, acc, _, h => by
    obtain ⟨h1, h2, h3⟩ := h p List.mem_cons_self
    obtain ⟨l, hl⟩ := Option.isSome_iff_exists.1 h3
    rw [Lib.join_one, innerP, if_neg h2, cutAt_none h1]
    simp only [hl]
    cases f <;> simp [innerP, orAll, worth, hl]
  | p :: q :: r, f + 1, acc, hf, h => by
    obtain ⟨h1, h2, h3⟩ := h p List.mem_cons_self
    obtain ⟨l, hl⟩ := Option.isSome_iff_exists.1 h3
    rw [join_step, innerP, if_neg (by simp), cutAt_some h1]
    simp only [hl]
    rw [innerP_join (q :: r) f _ (by simp at hf ⊢; omega) (fun x hx => h x (List.mem_cons_of_mem _ hx)), show orAll (p :: q :: r) acc = orAll (q :: r) (join acc (worth p)) from rfl, worth, hl]
    rfl
  | p :: r, 0, acc, hf, _ => by simp at hf
theorem pieces_count {l : Nat} (hl : l < 18446744073709551616) : ∀ (n p : Nat), 64 - p ≤ n → (pieces l p).length ≤ 64 - p := by
  intro n
  induction n with
  | zero => intro p hp; rw [pieces, runs, dif_neg (by omega)]; simp
  | succ n ih =>
    intro p hp
    by_cases h64 : p < 64
    · cases hb : l.testBit p
      · have := ih (p + 1) (by omega)
        rw [pieces, runs, dif_pos h64, if_neg (by simp [hb]), ← pieces]
        omega
      · have hge := last_ge l p
        have hlt := last_lt hl hb
        have := ih (last l p + 1) (by omega)
        rw [pieces, runs, dif_pos h64, if_pos hb, List.flatMap_cons, List.length_append, ← pieces]
        have hp2 : (piece (p, last l p)).length ≤ last l p + 1 - p := by
          unfold piece
          split
          · simp; omega
          · split
            · rename_i e; simp at e ⊢; omega
            · simp; omega
        omega
    · rw [pieces, runs, dif_neg h64]; simp
/-- THE TEXT IS READ AGAIN, by commas. -/
theorem innerP_text {l : Nat} (hl : l < 18446744073709551616) : ∀ f, 64 ≤ f → innerP f (Lib.join (pieces l 0) [44]) 0 = some l := fun f hf => by
  have hc := pieces_count hl 64 0 (by omega)
  rw [innerP_join (pieces l 0) f 0 (by omega) (pieces_ok hl), pieces_worth hl]
theorem text_inj {a b : Nat} (ha : a < 18446744073709551616) (hb : b < 18446744073709551616) (h : text a = text b) : a = b := by
  unfold text at h
  injection h with _ h
  have h1 := List.append_inj_left' h rfl
  have e1 := innerP_text ha 64 (by omega)
  have e2 := innerP_text hb 64 (by omega)
  rw [h1, e2] at e1
  injection e1 with e1
  exact e1.symm
end Lab

/-
  A label's text read from place to place, as scrimref01.Parse does.
-/
set_option linter.unusedVariables false
namespace Lab
open Go
def takeDig : Nat → List UInt8 → Nat → Nat × List UInt8
  | 0, s, n => (n, s)
  | k + 1, [], n => (n, [])
  | k + 1, b :: l, n => if digit b then takeDig k l (10 * n + (b.toNat - 48)) else (n, b :: l)
theorem takeDig_nil (k n : Nat) : takeDig k [] n = (n, []) := by cases k <;> rfl
theorem takeDig_stop {b : UInt8} (h : digit b = false) (k : Nat) (l : List UInt8) (n : Nat) : takeDig k (b :: l) n = (n, b :: l) := by
  cases k with
  | zero => rfl
  | succ k => rw [takeDig, if_neg (by simp [h])]
/-- A number: up to three digits; none, or above 63: none. And what is left. -/
def numR (s : List UInt8) : Option Nat × List UInt8 :=
  if (takeDig 3 s 0).2.length = s.length ∨ 63 < (takeDig 3 s 0).1 then (none, (takeDig 3 s 0).2) else (some (takeDig 3 s 0).1, (takeDig 3 s 0).2)
theorem numR_snd (s : List UInt8) : (numR s).2 = (takeDig 3 s 0).2 := by unfold numR; split <;> rfl
theorem numR_lt {s : List UInt8} {n : Nat} (h : (numR s).1 = some n) : n < 64 := by
  unfold numR at h
  split at h
  · cases h
  · rename_i hh
    injection h with h
    omega
/-- What stands behind a number is no digit. -/
def Stops (t : List UInt8) : Prop := t = [] ∨ ∃ b r, t = b :: r ∧ digit b = false
theorem numR_dec {n : Nat} (h : n < 64) {t : List UInt8} (ht : Stops t) : numR (Lib.decDigits n ++ t) = (some n, t) := by
  have key : takeDig 3 (Lib.decDigits n ++ t) 0 = (n, t) := by
    have stop : ∀ k m, takeDig k t m = (m, t) := fun k m => by
      rcases ht with rfl | ⟨b, r, rfl, hb⟩
      · exact takeDig_nil k m
      · exact takeDig_stop hb k r m
    have hd := dec_mem h
    have hv := (dec_digits h).2
    by_cases h10 : n < 10
    · rw [Lib.decDigits_one h10] at hd hv ⊢
      have h0 := hd _ List.mem_cons_self
      have hv' : 10 * 0 + ((UInt8.ofNat (48 + n)).toNat - 48) = n := hv
      rw [List.cons_append, List.nil_append, takeDig, if_pos h0, hv', stop]
    · rw [Lib.decDigits_two h10 (by omega)] at hd hv ⊢
      have h0 := hd _ List.mem_cons_self
      have h1 := hd _ (List.mem_cons_of_mem _ List.mem_cons_self)
      have hv' : 10 * (10 * 0 + ((UInt8.ofNat (48 + n / 10)).toNat - 48)) + ((UInt8.ofNat (48 + n % 10)).toNat - 48) = n := hv
      rw [List.cons_append, List.cons_append, List.nil_append, takeDig, if_pos h0, takeDig, if_pos h1, hv', stop]
  unfold numR
  rw [key, if_neg]
  rintro (e | e)
  · have := dec_len h
    have e' : t.length = (Lib.decDigits n).length + t.length := by rw [← List.length_append]; exact e
    omega
  · have e' : 63 < n := e
    omega
def dropComma : List UInt8 → List UInt8
  | [] => []
  | b :: r => if b = 44 then r else b :: r
def refStep (s : List UInt8) : Option (Nat × List UInt8) :=
  match (numR s).2 with
  | [] => (numR s).1.map fun a => (bitsFrom a a, [])
  | b :: r => if b = 45 then (match (numR s).1, (numR r).1 with | some a, some c => some (bitsFrom a c, dropComma (numR r).2) | _, _ => none) else (numR s).1.map fun a => (bitsFrom a a, dropComma (b :: r))
def refP : Nat → List UInt8 → Nat → Option Nat
  | 0, _, acc => some acc
  | f + 1, [], acc => some acc
  | f + 1, b :: r, acc => if b = 125 then some acc else match refStep (b :: r) with | none => none | some x => refP f x.2 (join acc x.1)
theorem refStep_one {n : Nat} (h : n < 64) {b : UInt8} {r : List UInt8} (hb : digit b = false) (h45 : b ≠ 45) : refStep (Lib.decDigits n ++ b :: r) = some (bitsFrom n n, dropComma (b :: r)) := by
  have e := numR_dec h (t := b :: r) (.inr ⟨b, r, rfl, hb⟩)
  unfold refStep
  rw [e]
  simp only [if_neg h45, Option.map_some]
theorem refStep_two {a c : Nat} (ha : a < 64) (hc : c < 64) {b : UInt8} {r : List UInt8} (hb : digit b = false) : refStep (Lib.decDigits a ++ 45 :: (Lib.decDigits c ++ b :: r)) = some (bitsFrom a c, dropComma (b :: r)) := by
  have e := numR_dec ha (t := 45 :: (Lib.decDigits c ++ b :: r)) (.inr ⟨45, _, rfl, by decide⟩)
  have e2 := numR_dec hc (t := b :: r) (.inr ⟨b, r, rfl, hb⟩)
  unfold refStep
  rw [e]
  simp only [if_pos, e2]
/-- A part is one tag's digits, or two tags' with a dash. -/
def IsPart (p : List UInt8) : Prop := (∃ a, a < 64 ∧ p = Lib.decDigits a) ∨ (∃ a c, a < 64 ∧ c < 64 ∧ p = Lib.decDigits a ++ 45 :: Lib.decDigits c)
theorem refStep_part {p : List UInt8} (h : IsPart p) {b : UInt8} {r : List UInt8} (hb : digit b = false) (h45 : b ≠ 45) : refStep (p ++ b :: r) = some (worth p, dropComma (b :: r)) := by
  rcases h with ⟨a, ha, rfl⟩ | ⟨a, c, ha, hc, rfl⟩
  · rw [refStep_one ha hb h45, worth, runP_dec ha]; rfl
  · rw [List.append_assoc, List.cons_append, refStep_two ha hc hb, worth, runP_two ha hc]; rfl
theorem part_head {p : List UInt8} (h : IsPart p) : ∃ b r, p = b :: r ∧ b ≠ 125 := by
  have one : ∀ {a : Nat}, a < 64 → ∃ b r, Lib.decDigits a = b :: r ∧ b ≠ 125 := fun {a} ha => by
    have hl := dec_len ha
    cases e : Lib.decDigits a with
    | nil => rw [e] at hl; simp at hl
    | cons b r =>
      refine ⟨b, r, rfl, fun hb => ?_⟩
      have := dec_mem ha b (by rw [e]; exact List.mem_cons_self)
      rw [hb] at this
      exact absurd this (by decide)
  rcases h with ⟨a, ha, rfl⟩ | ⟨a, c, ha, hc, rfl⟩
  · exact one ha
  · obtain ⟨b, r, e, hb⟩ := one ha
    exact ⟨b, r ++ 45 :: Lib.decDigits c, by rw [e]; rfl, hb⟩
theorem pieces_part {l : Nat} (hl : l < 18446744073709551616) : ∀ p ∈ pieces l 0, IsPart p := by
  intro p hp
  obtain ⟨r, hr, hpr⟩ := List.mem_flatMap.1 hp
  obtain ⟨_, h1, h2⟩ := runs_mem hl 64 0 (by omega) r hr
  have k1 : r.1 < 64 := by omega
  unfold piece at hpr
  split at hpr
  · simp at hpr; subst hpr; exact .inl ⟨_, k1, rfl⟩
  · split at hpr
    · simp at hpr
      rcases hpr with rfl | rfl
      · exact .inl ⟨_, k1, rfl⟩
      · exact .inl ⟨_, h2, rfl⟩
    · simp at hpr; subst hpr; exact .inr ⟨_, _, k1, h2, rfl⟩
theorem refP_join : ∀ (ps : List (List UInt8)) (f acc : Nat), ps.length ≤ f → (∀ p ∈ ps, IsPart p) → refP f (Lib.join ps [44] ++ [125]) acc = some (orAll ps acc)
  | [], f, acc, _, _ => by
    rw [Lib.join_nil]
    cases f <;> simp [refP, orAll]
  | [p], f + 1, acc, _, h => by
    have hp := h p List.mem_cons_self
    obtain ⟨b, r, e, hb⟩ := part_head hp
    rw [Lib.join_one]
    have hs := refStep_part hp (b := 125) (r := []) (by decide) (by decide)
    rw [e, List.cons_append] at hs ⊢
    rw [refP, if_neg hb, hs]
    simp only [dropComma]
    rw [if_neg (by decide)]
    cases f <;> simp [refP, orAll]
  | p :: q :: r, f + 1, acc, hf, h => by
    have hp := h p List.mem_cons_self
    obtain ⟨b, t, e, hb⟩ := part_head hp
    rw [join_step, List.append_assoc, List.cons_append]
    have hs := refStep_part hp (b := 44) (r := Lib.join (q :: r) [44] ++ [125]) (by decide) (by decide)
    have ih := refP_join (q :: r) f (join acc (worth p)) (by simp at hf ⊢; omega) (fun x hx => h x (List.mem_cons_of_mem _ hx))
    rw [show orAll (p :: q :: r) acc = orAll (q :: r) (join acc (worth p)) from rfl, ← ih]
    generalize Lib.join (q :: r) [44] ++ [125] = t2 at *
    rw [e, List.cons_append] at hs ⊢
    rw [refP, if_neg hb, hs]
    simp only [dropComma, if_pos]
  | p :: r, 0, acc, hf, _ => by simp at hf
/-- THE TEXT IS READ AGAIN, from place to place. -/
theorem refP_text {l : Nat} (hl : l < 18446744073709551616) : refP 64 ((text l).drop 1) 0 = some l := by
  have hc := pieces_count hl 64 0 (by omega)
  have : (text l).drop 1 = Lib.join (pieces l 0) [44] ++ [125] := rfl
  rw [this, refP_join (pieces l 0) 64 0 (by omega) (pieces_part hl), pieces_worth hl]
theorem refStep_lt {s : List UInt8} {x : Nat × List UInt8} (h : refStep s = some x) : x.1 < 18446744073709551616 := by
  unfold refStep at h
  split at h
  · obtain ⟨a, ha, rfl⟩ := Option.map_eq_some_iff.1 h
    have := numR_lt ha
    exact bitsFrom_lt this this
  · split at h
    · split at h
      · rename_i a c ha hc
        injection h with h
        rw [← h]
        exact bitsFrom_lt (numR_lt hc) (numR_lt ha)
      · cases h
    · obtain ⟨a, ha, rfl⟩ := Option.map_eq_some_iff.1 h
      have := numR_lt ha
      exact bitsFrom_lt this this
theorem refP_lt : ∀ (f : Nat) (s : List UInt8) (acc n : Nat), acc < 18446744073709551616 → refP f s acc = some n → n < 18446744073709551616
  | 0, s, acc, n, ha, h => by rw [refP] at h; injection h with h; omega
  | f + 1, [], acc, n, ha, h => by rw [refP] at h; injection h with h; omega
  | f + 1, b :: r, acc, n, ha, h => by
    rw [refP] at h
    split at h
    · injection h with h; omega
    · split at h
      · cases h
      · rename_i x hx
        exact refP_lt f _ _ n (join_lt ha (refStep_lt hx)) h
end Lab

/-
  How long a label's text is; what it begins and ends with; when a text is a label's.
-/
set_option linter.unusedVariables false
namespace Lab
open Go
def weight (ps : List (List UInt8)) : Nat := (ps.map fun p => p.length + 1).sum
theorem piece_weight {r : Nat × Nat} (h1 : r.1 ≤ r.2) (h2 : r.2 < 64) : weight (piece r) ≤ 3 * (r.2 + 1 - r.1) := by
  have a := dec_len (show r.1 < 64 by omega)
  have b := dec_len h2
  unfold piece weight
  split
  · simp; omega
  · split
    · simp; omega
    · simp; omega
theorem pieces_weight {l : Nat} (hl : l < 18446744073709551616) : ∀ (n p : Nat), 64 - p ≤ n → weight (pieces l p) ≤ 3 * (64 - p) := by
  intro n
  induction n with
  | zero => intro p hp; rw [pieces, runs, dif_neg (by omega)]; simp [weight]
  | succ n ih =>
    intro p hp
    by_cases h64 : p < 64
    · cases hb : l.testBit p
      · have := ih (p + 1) (by omega)
        rw [pieces, runs, dif_pos h64, if_neg (by simp [hb]), ← pieces]
        omega
      · have hge := last_ge l p
        have hlt := last_lt hl hb
        have := ih (last l p + 1) (by omega)
        have hw := piece_weight (r := (p, last l p)) hge hlt
        rw [pieces, runs, dif_pos h64, if_pos hb, List.flatMap_cons, ← pieces]
        have e : weight (piece (p, last l p) ++ pieces l (last l p + 1)) = weight (piece (p, last l p)) + weight (pieces l (last l p + 1)) := by simp [weight]
        rw [e]
        simp only at hw
        omega
    · rw [pieces, runs, dif_neg h64]; simp [weight]
theorem joinTail_weight (r : List (List UInt8)) : (Lib.joinTail [44] r).length = weight r := by
  unfold Lib.joinTail weight
  induction r with
  | nil => rfl
  | cons p r ih => simp at ih ⊢; omega
theorem join_weight (ps : List (List UInt8)) : (Lib.join ps [44]).length ≤ weight ps := by
  cases ps with
  | nil => simp [Lib.join_nil]
  | cons p r => rw [Lib.join_cons, List.length_append, joinTail_weight]; simp [weight]
theorem text_len {l : Nat} (hl : l < 18446744073709551616) : (text l).length ≤ 194 := by
  have h1 := pieces_weight hl 64 0 (by omega)
  have h2 := join_weight (pieces l 0)
  unfold text
  simp
  omega
/-- When a text is a label's, and which one's. -/
def Spec (s : List UInt8) (x : Nat) (ok : Bool) : Prop := (ok = true ∧ x < 18446744073709551616 ∧ s = text x) ∨ (ok = false ∧ x = 0 ∧ ∀ l, l < 18446744073709551616 → s ≠ text l)
theorem Spec.unique {s : List UInt8} {x y : Nat} {a b : Bool} (h : Spec s x a) (h' : Spec s y b) : x = y ∧ a = b := by
  rcases h with ⟨rfl, hx, hs⟩ | ⟨rfl, rfl, hn⟩ <;> rcases h' with ⟨rfl, hy, hs'⟩ | ⟨rfl, rfl, hn'⟩
  · exact ⟨text_inj hx hy (hs.symm.trans hs'), rfl⟩
  · exact absurd hs (hn' x hx)
  · exact absurd hs' (hn y hy)
  · exact ⟨rfl, rfl⟩
theorem Spec.of_text {l : Nat} (hl : l < 18446744073709551616) {x : Nat} {ok : Bool} (h : Spec (text l) x ok) : x = l ∧ ok = true :=
  h.unique (.inl ⟨rfl, hl, rfl⟩)
theorem Spec.long {s : List UInt8} (h : 258 < s.length) : Spec s 0 false := .inr ⟨rfl, rfl, fun l hl e => by have := text_len hl; rw [← e] at this; omega⟩
theorem open_iff (s : List UInt8) : (Lib.hasPrefix s [123] = false ∧ Lib.trimPrefix s [123] = s ∧ ∀ r, s ≠ 123 :: r) ∨ (∃ r, Lib.hasPrefix s [123] = true ∧ Lib.trimPrefix s [123] = r ∧ s = 123 :: r) := by
  cases s with
  | nil => exact .inl ⟨rfl, rfl, fun r => by simp⟩
  | cons b r =>
    by_cases e : b = 123
    · subst e
      have hp : Lib.hasPrefix (123 :: r) [123] = true := by simp [Lib.hasPrefix]
      exact .inr ⟨r, hp, by rw [Lib.trimPrefix, if_pos hp]; rfl, rfl⟩
    · have hp : Lib.hasPrefix (b :: r) [123] = false := by
        cases h : Lib.hasPrefix (b :: r) [123]
        · rfl
        · simp [Lib.hasPrefix] at h; exact absurd h.symm e
      exact .inl ⟨hp, by rw [Lib.trimPrefix, if_neg (by simp [hp])], fun t h => by injection h with h _; exact e h⟩
theorem shut_iff (s : List UInt8) : (Lib.hasSuffix s [125] = false ∧ ∀ r, s ≠ r ++ [125]) ∨ (∃ r, Lib.hasSuffix s [125] = true ∧ Lib.trimSuffix s [125] = r ∧ s = r ++ [125]) := by
  cases hp : Lib.hasSuffix s [125]
  · refine .inl ⟨rfl, fun r e => ?_⟩
    subst e
    have : Lib.hasSuffix (r ++ [125]) [125] = true := by simp [Lib.hasSuffix]
    rw [this] at hp; cases hp
  · have h : [125] <:+ s := by simpa [Lib.hasSuffix] using hp
    obtain ⟨r, rfl⟩ := h
    refine .inr ⟨r, rfl, ?_, rfl⟩
    rw [Lib.trimSuffix, if_pos hp]
    simp
theorem Spec.noOpen {s : List UInt8} (h : ∀ r, s ≠ 123 :: r) : Spec s 0 false := .inr ⟨rfl, rfl, fun l hl e => h _ (by rw [e]; rfl)⟩
theorem Spec.noShut {r : List UInt8} (h : ∀ t, r ≠ t ++ [125]) : Spec (123 :: r) 0 false := .inr ⟨rfl, rfl, fun l hl e => by
  unfold text at e
  injection e with _ e
  exact h _ e⟩
theorem inner_of {t : List UInt8} {l : Nat} (e : (123 : UInt8) :: (t ++ [125]) = text l) : t = Lib.join (pieces l 0) [44] := by
  unfold text at e
  injection e with _ e
  exact List.append_inj_left' e rfl
theorem Spec.badInner {t : List UInt8} {f : Nat} (hf : 64 ≤ f) (h : innerP f t 0 = none) : Spec (123 :: (t ++ [125])) 0 false := .inr ⟨rfl, rfl, fun l hl e => by
  rw [inner_of e, innerP_text hl f hf] at h; cases h⟩
theorem Spec.other {t : List UInt8} {f o : Nat} (hf : 64 ≤ f) (h : innerP f t 0 = some o) (hne : text o ≠ 123 :: (t ++ [125])) : Spec (123 :: (t ++ [125])) 0 false := .inr ⟨rfl, rfl, fun l hl e => by
  rw [inner_of e, innerP_text hl f hf] at h
  injection h with h
  subst h
  exact hne e.symm⟩
theorem Spec.refBad {s : List UInt8} (h : refP 64 (s.drop 1) 0 = none) : Spec s 0 false := .inr ⟨rfl, rfl, fun l hl e => by
  rw [e, refP_text hl] at h; cases h⟩
theorem Spec.refOther {s : List UInt8} {o : Nat} (h : refP 64 (s.drop 1) 0 = some o) (hne : text o ≠ s) : Spec s 0 false := .inr ⟨rfl, rfl, fun l hl e => by
  rw [e, refP_text hl] at h
  injection h with h
  subst h
  exact hne e.symm⟩
/-- More fuel does not matter. -/
theorem innerP_fuel : ∀ (f g : Nat) (s : List UInt8) (acc : Nat), s.length ≤ f → s.length ≤ g → innerP f s acc = innerP g s acc
  | 0, 0, s, acc, _, _ => rfl
  | 0, g + 1, s, acc, h, _ => by
    have : s = [] := List.eq_nil_of_length_eq_zero (by omega)
    subst this; rfl
  | f + 1, 0, s, acc, _, h => by
    have : s = [] := List.eq_nil_of_length_eq_zero (by omega)
    subst this; rfl
  | f + 1, g + 1, s, acc, h1, h2 => by
    unfold innerP
    by_cases e : s = []
    · rw [if_pos e, if_pos e]
    · rw [if_neg e, if_neg e]
      have hl := (cutAt_len 44 s).2.2 e
      split
      · rfl
      · exact innerP_fuel f g _ _ (by omega) (by omega)
theorem innerP_step {f : Nat} {s : List UInt8} {acc l : Nat} (hne : s ≠ []) (h : s.length ≤ f) (hr : runP (cutAt 44 s).1 = some l) : innerP f s acc = innerP f (cutAt 44 s).2.1 (join acc l) := by
  have hl := (cutAt_len 44 s).2.2 hne
  cases f with
  | zero => exfalso; have := List.eq_nil_of_length_eq_zero (Nat.le_zero.1 h); exact hne this
  | succ f =>
    conv => lhs; rw [innerP, if_neg hne, hr]
    exact innerP_fuel f (f + 1) _ _ (by omega) (by omega)
theorem innerP_fail {f : Nat} {s : List UInt8} {acc : Nat} (hne : s ≠ []) (h : s.length ≤ f) (hr : runP (cutAt 44 s).1 = none) : innerP f s acc = none := by
  cases f with
  | zero => exfalso; have := List.eq_nil_of_length_eq_zero (Nat.le_zero.1 h); exact hne this
  | succ f => rw [innerP, if_neg hne, hr]
end Lab

/-
  What label.Of, scrimref01.Of and label.All compute, for every slice.
-/
namespace Go.Proofs.YtmiccalfamepdaaGreatDoor
open Go.RowKit
set_option maxHeartbeats 400000

theorem or_shl (n : Nat) (z : Int) (hn : n < 18446744073709551616) (h1 : z < 64) : bits BinOp.or IntKind.u64 (↑n) (IntKind.u64.wrap (2 ^ z.toNat)) = ((n ||| 2 ^ z.toNat : Nat) : Int) := by
  have hb := Lab.bit_lt (t := z.toNat) (by omega)
  have e : ((2 : Int) ^ z.toNat) = ((2 ^ z.toNat : Nat) : Int) := by simp
  rw [e]
  generalize 2 ^ z.toNat = m at hb ⊢
  rw [IntWalk.u64_in _ (by omega)]
  exact u64_or_nat _ _ hn hb

end Go.Proofs.YtmiccalfamepdaaGreatDoor

/-
  A range over a function whose iterator writes a variable that it has captured (one block): a law of my own, over the kit's laws of a round and of the statement; the body never leaves early.
-/
namespace Go.Proofs.YtmiccalfamepdaaGreatDoor
open Go.RowKit
set_option linter.unusedVariables false

/-- An invariant that minds neither new blocks nor what lies at one block. -/
def MindsNot {β : Type} (bx : Nat) (J : β → World → Prop) : Prop := ∀ s W W' row, J s W → W.grownBy W' row → (∀ r, row = some r → r = bx) → J s W'
/-- The iterator hands out just these, one by one. -/
def Hands {α : Type} (n : Nat) (P : Program) (g : Nat) (lb : Array Value) (encs : α → Array Value) (Kp : World → World → Prop) (xs : List α) (bx : Nat) (w : World) : Prop :=
  ∀ (l : Nat) (J : List α → World → Prop) (W : World), Below w.heap.size w W → MindsNot bx J →
    (∀ pre x W1, J pre W1 → pre.length < xs.length → YieldAt Fence.wide (n - 1) P l (encs x) W1 fun e W' => e = .returned (.bool true) ∧ J (pre ++ [x]) W' ∧ Kp W1 W') →
    J [] W → CallsIn Fence.wide n P g (#[.func (.yield l) #[] #[]] ++ lb) W fun e W' => (∃ v, e = .returned v) ∧ J xs W'
def NrmPost {α : Type} (Kp : World → World → Prop) (I : List α → World → Prop) (xs : List α) (W : World) : Exit → Act → World → Prop
  | .normal, _, W' => KeepsOthers W W' ∧ Kp W W' ∧ I xs W'
  | _, _, _ => False
/-- What the caller's invariant must bear: new blocks, the iterator's variable, the law's own two blocks. -/
def Bears {β : Type} (bx B : Nat) (I : β → World → Prop) : Prop :=
  ∀ s W W' row, I s W → W.grownBy W' row → (∀ r, row = some r → r = bx ∨ (B ≤ r ∧ ∃ o : Obj, W.heap[r]? = some o ∧ o.isCells = false)) → I s W'

theorem range_box {P : Program} {α : Type} {n : Nat} {g : Operand} {ps : Array Tmp} {assign body : Code} {Q : Exit → Act → World → Prop} {a : Act} {w : World} (h1 : 1 ≤ n)
    {gf : Nat} {lb : Array Value} (hg : a.eval g = .func (.func gf) #[] lb) (eg : ∀ args w, (callFunc gf args).run P w = .ok (.enter gf args) w)
    {encs : α → Array Value} {Kp : World → World → Prop} {xs : List α} {bx : Nat} {w0 : World} (hseq : Hands (n - 1) P gf lb encs Kp xs bx w0)
    (hKt : ∀ {A B C : World}, Kp A B → Kp B C → Kp A C) (hKb : ∀ (W : World) (l : Nat) (o' : Obj), w.heap.size ≤ l → Kp W (W.putObj l o'))
    (hb0 : Below w0.heap.size w0 w) (hps : ∀ x, (encs x).size = ps.size) (hbx : bx < w.heap.size)
    (I : List α → World → Prop) (hI : Bears bx w.heap.size I) (h0 : I [] w) (a₁ : α → Act)
    (hassign : ∀ (l : Nat) (x : α) (W : World) (K : Act → World → Prop), K (a₁ x) W →
      assign.wpIn (Fence.wide.inRound l) (n - 1 - 1) P (Exit.then K (fun _ _ _ => False)) { tmps := (ps.zip (encs x)).foldl (fun t (p, v) => t.setIfInBounds p v) a.tmps, defers := [] } W)
    (hbody : ∀ (l : Nat) (pre : List α) (x : α) (W : World), I pre W → pre.length < xs.length → body.wpIn (Fence.wide.inRound l) (n - 1 - 1) P (NrmPost Kp I (pre ++ [x]) W) (a₁ x) W)
    (hdone : ∀ (D : Nat) (W : World), w.heap.size ≤ D → I xs W → W.heap[D]? = some (.deferred (some [])) → Q .normal { a with defers := { target := .collected D, args := #[] } :: a.defers } W) :
    (Code.rangeFunc g ps assign body).wpIn Fence.wide n P Q a w := by
  refine wpIn_rangeFunc ?_
  intro fn hfn
  obtain ⟨rec, hrec⟩ : ∃ rec : LoopState → Option Code → Loop, rec = fun st pe => { state := st, pending := pe, fn, tmps := a.tmps, params := ps, assign, body, defers := w.heap.size } := ⟨_, rfl⟩
  obtain ⟨W1, hW1⟩ : ∃ W1, (w.alloc (.deferred (some []))).alloc (.loop (rec .ready none)) = W1 := ⟨_, rfl⟩
  have hL1 : W1.heap[w.heap.size + 1]? = some (.loop (rec .ready none)) := by
    rw [← hW1]; have := World.alloc_heap_new (w.alloc (.deferred (some []))) (.loop (rec .ready none)); rwa [World.size_alloc] at this
  have hK1 : W1.heap[w.heap.size]? = some (.deferred (some [])) := by
    rw [← hW1]; exact (Below.heap_alloc _ _ _ (by simp)).trans (World.alloc_heap_new w _)
  have hal : ∀ {s : List α} {W : World} (o : Obj), I s W → I s (W.alloc o) := fun o hs => hI _ _ _ none hs (World.grownBy_alloc _ o none) (fun r e => by cases e)
  have hput : ∀ {s : List α} {W : World} {l : Nat} {o : Obj} (o' : Obj), I s W → w.heap.size ≤ l → W.heap[l]? = some o → o.isCells = false → I s (W.putObj l o') :=
    fun {s W l o} o' hs hB hl ho => hI s W _ (some l) hs (grownBy_putObj' W l o') (fun r e => by cases e; exact .inr ⟨hB, o, hl, ho⟩)
  have hI1 : I [] W1 := by rw [← hW1]; exact hal _ (hal _ h0)
  have hb1 : Below w0.heap.size w0 W1 := by
    rw [← hW1]; exact hb0.trans ((((Below.refl _ w).alloc (Nat.le_refl _) _).alloc (by simp) _).mono hb0.size)
  refine ⟨w.heap.size + 1, [{ target := .collected w.heap.size, args := #[] }], W1, { target := .fn (.func gf) lb, args := #[.func (.yield (w.heap.size + 1)) #[] #[]] }, W1, gf,
    #[.func (.yield (w.heap.size + 1)) #[] #[]] ++ lb, W1, ?_, ?_, ?_, ?_, fun _ => h1, ?_⟩
  · rw [← hW1, hrec]; exact run_enterLoop_outer _ _ _ _ _
  · simp only [resolve, hg]
    simp [go_sem]
  · intro f' hf'; trivial
  · simp [invoke, go_sem, eg]
  · refine (hseq (w.heap.size + 1) (fun pre W => I pre W ∧ W.heap[w.heap.size + 1]? = some (.loop (rec .ready none)) ∧ W.heap[w.heap.size]? = some (.deferred (some []))) W1 hb1 ?_ ?_ ⟨hI1, hL1, hK1⟩).mono ?_
    · rintro s A B row ⟨hs, hl, hk⟩ hg' hr
      have far : ∀ k, w.heap.size ≤ k → k < A.heap.size → B.heap[k]? = A.heap[k]? := fun k hk1 hk2 => hg'.block k hk2 (fun e => by have := hr k e.symm; omega)
      exact ⟨hI s A B row hs hg' (fun r e => .inl (hr r e)), (far _ (by omega) (Array.getElem?_eq_some_iff.1 hl).1).trans hl, (far _ (Nat.le_refl _) (Array.getElem?_eq_some_iff.1 hk).1).trans hk⟩
    · rintro pre x W ⟨hi, hl, hk⟩ hlen
      have hlt : w.heap.size + 1 < W.heap.size := (Array.getElem?_eq_some_iff.1 hl).1
      have hy := run_yield (P := P) (args := encs x) hl (by rw [hrec]; exact hps x)
      rw [hrec] at hy
      refine ⟨fn, _, assign, body, hy, roundIn_of_wpIn hfn (hassign _ x W _ ⟨_, run_beginRound hl (by rw [hrec]), ?_⟩)⟩
      obtain ⟨W2, hW2⟩ : ∃ W2, W2 = W.putObj (w.heap.size + 1) (.loop { rec .ready none with state := .busy }) := ⟨_, rfl⟩
      rw [← hW2]
      have hl2 : W2.heap[w.heap.size + 1]? = some (.loop { rec .ready none with state := .busy }) := by rw [hW2]; exact World.putObj_heap_same hlt
      have hk2 : W2.heap[w.heap.size]? = some (.deferred (some [])) := by rw [hW2]; exact (World.putObj_heap_other (by omega)).trans hk
      have hw2 : Kp W W2 := by rw [hW2]; exact hKb _ _ _ (by omega)
      have hi2 : I pre W2 := by rw [hW2]; exact hput _ hi (by omega) hl rfl
      refine wpIn_mono (hbody _ pre x _ hi2 hlen) ?_
      rintro e a3 W3 hp
      cases e with
      | normal =>
        obtain ⟨hk3, hkp3, hi3⟩ := hp
        have hl3 := hk3.same _ _ hl2 rfl
        have hr := run_endRound (P := P) none hl3
        refine ⟨_, _, hr, rfl, ⟨hput _ hi3 (by omega) hl3 rfl, ?_, (World.putObj_heap_other (by omega)).trans (hk3.same _ _ hk2 rfl)⟩, hKt (hKt hw2 hkp3) (hKb _ _ _ (by omega))⟩
        rw [hrec]
        exact World.putObj_heap_same (Array.getElem?_eq_some_iff.1 hl3).1
      | ret => exact hp.elim
      | exit id => exact hp.elim
      | goto t => exact hp.elim
      | panic ch => exact hp.elim
      | outgrown => exact hp.elim
    · rintro e W2 ⟨⟨v, rfl⟩, hi, hl, hk⟩
      exact ⟨none, _, by have := run_endLoop (P := P) hl (by rw [hrec]; simp); rw [hrec] at this; exact this, hdone _ _ (Nat.le_refl _) (hput _ hi (by omega) hl rfl) ((World.putObj_heap_other (by omega)).trans hk)⟩
end Go.Proofs.YtmiccalfamepdaaGreatDoor
