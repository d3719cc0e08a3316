/-
  Texts of this proof, joined (by wip/bin/bundle.py): BldLaid, BldK, BldLaid2, NatMath, GcdMath, RatMath, TenMath, DigMath, Words, Nat1, Nat2, Blk.
-/
import Derived.Shelf.Lay
import Derived.Shelf.Strings.BuilderK
import Derived.Test.YtceplkpjnebnfaaGreatDoorProg
import Derived.Lib.Hide
import Derived.Shelf.Strings.BuilderRune
import Derived.Lib.ItoaMem
import Derived.WalkKit
import Derived.WalkSpells
import Derived.WalkLawsBesides
import Derived.Laws.Rows
import Derived.Deep.QuietTactic
import Derived.BigQuiet
import Derived.Laws.MakeOwn
import Derived.OwnWalk
/-
  The library's contract of (*strings.Builder).WriteString, laid by hand: 'shelf_lay' did not find the string type in the bodies that it goes by.
-/
namespace Go.Proofs
open Go.Shelf
def YtceplkpjnebnfaaGreatDoorRen : Go.Shelf.Ren := ⟨fun | 166 => 36 | 240 => 65 | 276 => 119 | n => n, fun | 70 => 39 | 3 => 3 | 0 => 0 | 4 => 4 | 9 => 9 | 20 => 20 | 72 => 42 | 37 => 40 | 164 => 116 | 5 => 5 | 75 => 67 | 80 => 44 | n => n, fun | n => n⟩
theorem YtceplkpjnebnfaaGreatDoorLaid : Go.Proofs.Lays.n166 Tryz.prog YtceplkpjnebnfaaGreatDoorRen := {
  mixed := by kernel_rfl
  f166 := Tryz.func36.trans (congrArg some (by kernel_rfl))
  f240 := Tryz.func65.trans (congrArg some (by kernel_rfl))
  f276 := Tryz.func119.trans (congrArg some (by kernel_rfl))
  t0 := Tryz.underlying0
  a0 := Tryz.isAgg0
  z0 := Tryz.sizeOf0
  v0 := Tryz.zeroValue0
  t3 := Tryz.underlying3
  a3 := Tryz.isAgg3
  z3 := Tryz.sizeOf3
  v3 := Tryz.zeroValue3
  t4 := Tryz.underlying4
  a4 := Tryz.isAgg4
  z4 := Tryz.sizeOf4
  v4 := Tryz.zeroValue4
  t9 := Tryz.underlying9
  a9 := Tryz.isAgg9
  z9 := Tryz.sizeOf9
  v9 := Tryz.zeroValue9
  t20 := Tryz.underlying20
  a20 := Tryz.isAgg20
  z20 := Tryz.sizeOf20
  v20 := Tryz.zeroValue20
  t37 := Tryz.underlying40
  a37 := Tryz.isAgg40
  z37 := Tryz.sizeOf40
  v37 := Tryz.zeroValue40
  t70 := Tryz.underlying39
  a70 := Tryz.isAgg39
  z70 := Tryz.sizeOf39
  v70 := Tryz.zeroValue39
  t72 := Tryz.underlying42
  a72 := Tryz.isAgg42
  z72 := Tryz.sizeOf42
  v72 := Tryz.zeroValue42
  t75 := Tryz.underlying67
  a75 := Tryz.isAgg67
  z75 := Tryz.sizeOf67
  v75 := Tryz.zeroValue67
  t164 := Tryz.underlying116
  a164 := Tryz.isAgg116
  z164 := Tryz.sizeOf116
  v164 := Tryz.zeroValue116 }
theorem YtceplkpjnebnfaaGreatDoorExtra : Builder.Extra Tryz.prog YtceplkpjnebnfaaGreatDoorRen := {
  sizeBuilder := by kernel_rfl
  liesBuilder := by kernel_rfl
  t5 := Tryz.underlying5
  a5 := Tryz.isAgg5
  z5 := Tryz.sizeOf5
  v5 := Tryz.zeroValue5
  infoByte := by kernel_rfl
  cellsByte := by kernel_rfl
  sizeByte := by kernel_rfl
  neB5 := by decide }
namespace YtceplkpjnebnfaaGreatDoor
open Go.RowKit
theorem writeString_any (B b : Nat) (bs : List Value) (s : ByteArray) (w : World) (h : Lib.IsBuilder 42 5 B b bs w) (hlen : bs.length + s.size ≤ 140737488355328) (hBw : B ≤ w.heap.size) :
    Calls Tryz.prog 36 #[.pointer (some ⟨b, 0, none⟩), .string s] w fun e w' => e = .returned (.tuple #[.int .i64 s.size, .nilIface]) ∧ (Lib.BuilderAt 42 5 B b (.pointer (some ⟨b, 0, none⟩)) (bs ++ Lib.strCells s) w' ∧ Below B w w') := Any.Builder_WriteString YtceplkpjnebnfaaGreatDoorLaid YtceplkpjnebnfaaGreatDoorExtra B b bs s w h hlen hBw
end YtceplkpjnebnfaaGreatDoor
end Go.Proofs

/-
  A strings.Builder that may have been read: written, carried over, new.
-/
namespace Go.Proofs.YtceplkpjnebnfaaGreatDoor
open Go.RowKit
set_option linter.unusedVariables false

theorem bldK_below {w w' : World} {T e : TypeId} {B b : Nat} {bs : List Value} (h : Lib.IsBuilderF T e B b bs w) (hb : Below w.heap.size w w') : Lib.IsBuilderF T e B b bs w' := by
  have one : ∀ {p : Value}, Lib.BuilderAtF T e B b p bs w → Lib.BuilderAtF T e B b p bs w' := fun {p} k => by
    obtain ⟨h1, v, h2, h3, h4⟩ := k
    refine ⟨h1, v, (hb.block b (Array.getElem?_eq_some_iff.1 h2).1).trans h2, ⟨h3.1, ?_⟩, h4⟩
    rcases h3.2 with h0 | ⟨g, cap, cur, fz, e1, e2, e3, r⟩
    · exact .inl h0
    · exact .inr ⟨g, cap, cur, fz, e1, e2, (hb.block g (Array.getElem?_eq_some_iff.1 e3).1).trans e3, r⟩
  exact h.imp one one
theorem bldK_new (w : World) : Lib.IsBuilderF 42 5 w.heap.size w.heap.size (Lib.byteCells []) (w.alloc (.cells #[.pointer none, .slice none 0 0] 42)) :=
  Lib.IsBuilderF.of (.inl ⟨Nat.le_refl _, .slice none 0 0, heap_alloc_new w _, World.ownsRow_nil _ _ _ _, by simp [Value.ownBlock]⟩)
end Go.Proofs.YtceplkpjnebnfaaGreatDoor

/-
  The library's contracts of (*strings.Builder).WriteByte and WriteRune, laid by hand.
-/
namespace Go.Proofs
open Go.Shelf
def YtceplkpjnebnfaaGreatDoorRenB : Go.Shelf.Ren := ⟨fun | 167 => 69 | 240 => 65 | 276 => 119 | n => n, fun | 0 => 0 | 4 => 4 | 5 => 5 | 9 => 9 | 20 => 20 | 37 => 40 | 70 => 39 | 72 => 42 | 75 => 67 | 80 => 44 | 164 => 116 | n => n, fun | n => n⟩
theorem YtceplkpjnebnfaaGreatDoorLaidB : Go.Proofs.Lays.n167 Tryz.prog YtceplkpjnebnfaaGreatDoorRenB := {
  mixed := by kernel_rfl
  f167 := Tryz.func69.trans (congrArg some (by kernel_rfl))
  f240 := Tryz.func65.trans (congrArg some (by kernel_rfl))
  f276 := Tryz.func119.trans (congrArg some (by kernel_rfl))
  t0 := Tryz.underlying0
  a0 := Tryz.isAgg0
  z0 := Tryz.sizeOf0
  v0 := Tryz.zeroValue0
  t4 := Tryz.underlying4
  a4 := Tryz.isAgg4
  z4 := Tryz.sizeOf4
  v4 := Tryz.zeroValue4
  t5 := Tryz.underlying5
  a5 := Tryz.isAgg5
  z5 := Tryz.sizeOf5
  v5 := Tryz.zeroValue5
  t9 := Tryz.underlying9
  a9 := Tryz.isAgg9
  z9 := Tryz.sizeOf9
  v9 := Tryz.zeroValue9
  t20 := Tryz.underlying20
  a20 := Tryz.isAgg20
  z20 := Tryz.sizeOf20
  v20 := Tryz.zeroValue20
  t37 := Tryz.underlying40
  a37 := Tryz.isAgg40
  z37 := Tryz.sizeOf40
  v37 := Tryz.zeroValue40
  t70 := Tryz.underlying39
  a70 := Tryz.isAgg39
  z70 := Tryz.sizeOf39
  v70 := Tryz.zeroValue39
  t72 := Tryz.underlying42
  a72 := Tryz.isAgg42
  z72 := Tryz.sizeOf42
  v72 := Tryz.zeroValue42
  t75 := Tryz.underlying67
  a75 := Tryz.isAgg67
  z75 := Tryz.sizeOf67
  v75 := Tryz.zeroValue67
  t164 := Tryz.underlying116
  a164 := Tryz.isAgg116
  z164 := Tryz.sizeOf116
  v164 := Tryz.zeroValue116 }
theorem YtceplkpjnebnfaaGreatDoorExtraB : Builder.Extra Tryz.prog YtceplkpjnebnfaaGreatDoorRenB := {
  sizeBuilder := by kernel_rfl
  liesBuilder := by kernel_rfl
  t5 := Tryz.underlying5
  a5 := Tryz.isAgg5
  z5 := Tryz.sizeOf5
  v5 := Tryz.zeroValue5
  infoByte := by kernel_rfl
  cellsByte := by kernel_rfl
  sizeByte := by kernel_rfl
  neB5 := by decide }
def YtceplkpjnebnfaaGreatDoorRenR : Go.Shelf.Ren := ⟨fun | 168 => 40 | 240 => 65 | 242 => 70 | 276 => 119 | 278 => 128 | n => n, fun | 0 => 0 | 3 => 3 | 4 => 4 | 5 => 5 | 9 => 9 | 20 => 20 | 21 => 21 | 37 => 40 | 46 => 132 | 51 => 90 | 70 => 39 | 72 => 42 | 75 => 67 | 80 => 44 | 164 => 116 | n => n, fun | n => n⟩
theorem YtceplkpjnebnfaaGreatDoorLaidR : Go.Proofs.Lays.n168 Tryz.prog YtceplkpjnebnfaaGreatDoorRenR := {
  mixed := by kernel_rfl
  f168 := Tryz.func40.trans (congrArg some (by kernel_rfl))
  f240 := Tryz.func65.trans (congrArg some (by kernel_rfl))
  f242 := Tryz.func70.trans (congrArg some (by kernel_rfl))
  f276 := Tryz.func119.trans (congrArg some (by kernel_rfl))
  f278 := Tryz.func128.trans (congrArg some (by kernel_rfl))
  t0 := Tryz.underlying0
  a0 := Tryz.isAgg0
  z0 := Tryz.sizeOf0
  v0 := Tryz.zeroValue0
  t3 := Tryz.underlying3
  a3 := Tryz.isAgg3
  z3 := Tryz.sizeOf3
  v3 := Tryz.zeroValue3
  t4 := Tryz.underlying4
  a4 := Tryz.isAgg4
  z4 := Tryz.sizeOf4
  v4 := Tryz.zeroValue4
  t5 := Tryz.underlying5
  a5 := Tryz.isAgg5
  z5 := Tryz.sizeOf5
  v5 := Tryz.zeroValue5
  t9 := Tryz.underlying9
  a9 := Tryz.isAgg9
  z9 := Tryz.sizeOf9
  v9 := Tryz.zeroValue9
  t20 := Tryz.underlying20
  a20 := Tryz.isAgg20
  z20 := Tryz.sizeOf20
  v20 := Tryz.zeroValue20
  t21 := Tryz.underlying21
  a21 := Tryz.isAgg21
  z21 := Tryz.sizeOf21
  v21 := Tryz.zeroValue21
  t37 := Tryz.underlying40
  a37 := Tryz.isAgg40
  z37 := Tryz.sizeOf40
  v37 := Tryz.zeroValue40
  t46 := Tryz.underlying132
  a46 := Tryz.isAgg132
  z46 := Tryz.sizeOf132
  v46 := Tryz.zeroValue132
  t51 := Tryz.underlying90
  a51 := Tryz.isAgg90
  z51 := Tryz.sizeOf90
  v51 := Tryz.zeroValue90
  t70 := Tryz.underlying39
  a70 := Tryz.isAgg39
  z70 := Tryz.sizeOf39
  v70 := Tryz.zeroValue39
  t72 := Tryz.underlying42
  a72 := Tryz.isAgg42
  z72 := Tryz.sizeOf42
  v72 := Tryz.zeroValue42
  t75 := Tryz.underlying67
  a75 := Tryz.isAgg67
  z75 := Tryz.sizeOf67
  v75 := Tryz.zeroValue67
  t164 := Tryz.underlying116
  a164 := Tryz.isAgg116
  z164 := Tryz.sizeOf116
  v164 := Tryz.zeroValue116 }
theorem YtceplkpjnebnfaaGreatDoorExtraR : Builder.Extra Tryz.prog YtceplkpjnebnfaaGreatDoorRenR := {
  sizeBuilder := by kernel_rfl
  liesBuilder := by kernel_rfl
  t5 := Tryz.underlying5
  a5 := Tryz.isAgg5
  z5 := Tryz.sizeOf5
  v5 := Tryz.zeroValue5
  infoByte := by kernel_rfl
  cellsByte := by kernel_rfl
  sizeByte := by kernel_rfl
  neB5 := by decide }
end Go.Proofs

/-
  Natural numbers as lists of limbs, the lowest first: what they are worth, without noughts on top, and the digits of a number. Plain.
-/
namespace Nt
/-- What limbs are worth. -/
def val : List Nat → Nat
  | [] => 0
  | d :: r => d + 4294967296 * val r
def Ok (l : List Nat) : Prop := ∀ d ∈ l, d < 4294967296
/-- The limbs of a number, with none of 0 on top. -/
def digs (n : Nat) : List Nat := if h : n = 0 then [] else n % 4294967296 :: digs (n / 4294967296)
termination_by n
decreasing_by omega
/-- No nought on top. -/
def Top (l : List Nat) : Prop := ∀ h : l ≠ [], l.getLast h ≠ 0
theorem digs_zero : digs 0 = [] := by rw [digs]; rfl
theorem digs_pos {n : Nat} (h : n ≠ 0) : digs n = n % 4294967296 :: digs (n / 4294967296) := by rw [digs, dif_neg h]
theorem val_digs (n : Nat) : val (digs n) = n := by
  induction n using Nat.strongRecOn with
  | _ n ih =>
    by_cases h : n = 0
    · subst h; rw [digs_zero]; rfl
    · rw [digs_pos h, val, ih _ (by omega)]; omega
theorem ok_digs (n : Nat) : Ok (digs n) := by
  induction n using Nat.strongRecOn with
  | _ n ih =>
    by_cases h : n = 0
    · subst h; rw [digs_zero]; intro d hd; cases hd
    · rw [digs_pos h]
      intro d hd
      rcases List.mem_cons.1 hd with rfl | hd
      · omega
      · exact ih _ (by omega) d hd
theorem digs_nil_iff {n : Nat} : digs n = [] ↔ n = 0 := by
  constructor
  · intro h
    by_cases h0 : n = 0
    · exact h0
    · rw [digs_pos h0] at h; cases h
  · rintro rfl; exact digs_zero
theorem top_digs (n : Nat) : Top (digs n) := by
  induction n using Nat.strongRecOn with
  | _ n ih =>
    by_cases h : n = 0
    · subst h; rw [digs_zero]; intro h; exact absurd rfl h
    · intro hne
      simp only [digs_pos h]
      by_cases h2 : n / 4294967296 = 0
      · simp only [h2, digs_zero, List.getLast_singleton]; omega
      · rw [List.getLast_cons (by rw [ne_eq, digs_nil_iff]; exact h2)]
        exact ih _ (by omega) _
theorem top_cons {d : Nat} {r : List Nat} (h : Top (d :: r)) : Top r := by
  intro hne
  have := h (by simp)
  rwa [List.getLast_cons hne] at this
theorem ok_cons {d : Nat} {r : List Nat} (h : Ok (d :: r)) : d < 4294967296 ∧ Ok r := ⟨h d List.mem_cons_self, fun x hx => h x (List.mem_cons_of_mem _ hx)⟩
/-- Limbs without noughts on top are the digits of their worth. -/
theorem digs_val : ∀ {l : List Nat}, Ok l → Top l → digs (val l) = l
  | [], _, _ => by rw [val, digs_zero]
  | d :: r, ho, ht => by
    obtain ⟨hd, hr⟩ := ok_cons ho
    have ih := digs_val hr (top_cons ht)
    by_cases h0 : val (d :: r) = 0
    · exfalso
      rw [val] at h0
      have hr0 : val r = 0 := by omega
      rw [hr0, digs_zero] at ih
      subst ih
      exact ht (by simp) (by simp; omega)
    · rw [digs_pos h0, val]
      rw [show (d + 4294967296 * val r) % 4294967296 = d by omega, show (d + 4294967296 * val r) / 4294967296 = val r by omega, ih]
theorem val_append : ∀ (a b : List Nat), val (a ++ b) = val a + 4294967296 ^ a.length * val b
  | [], b => by simp [val]
  | d :: r, b => by
    rw [List.cons_append, val, val_append r b, val, List.length_cons, Nat.pow_succ]
    grind
theorem val_lt : ∀ {l : List Nat}, Ok l → val l < 4294967296 ^ l.length
  | [], _ => by simp [val]
  | d :: r, ho => by
    obtain ⟨hd, hr⟩ := ok_cons ho
    have ih := val_lt hr
    rw [val, List.length_cons, Nat.pow_succ]
    generalize 4294967296 ^ r.length = p at ih ⊢
    omega
theorem val_take_succ {l : List Nat} {i : Nat} (h : i < l.length) : val (l.take (i + 1)) = val (l.take i) + 4294967296 ^ i * l[i] := by
  rw [List.take_succ_eq_append_getElem h, val_append]
  simp [val, Nat.min_eq_left (Nat.le_of_lt h)]
theorem val_split (l : List Nat) (i : Nat) (h : i ≤ l.length) : val l = val (l.take i) + 4294967296 ^ i * val (l.drop i) := by
  have := val_append (l.take i) (l.drop i)
  rw [List.take_append_drop, List.length_take, Nat.min_eq_left h] at this
  exact this
theorem val_zeros : ∀ {l : List Nat}, (∀ d ∈ l, d = 0) → val l = 0
  | [], _ => rfl
  | d :: r, h => by rw [val, h d List.mem_cons_self, val_zeros (fun x hx => h x (List.mem_cons_of_mem _ hx))]
theorem ok_take {l : List Nat} (h : Ok l) (n : Nat) : Ok (l.take n) := fun d hd => h d (List.mem_of_mem_take hd)
theorem ok_drop {l : List Nat} (h : Ok l) (n : Nat) : Ok (l.drop n) := fun d hd => h d (List.mem_of_mem_drop hd)
theorem ok_get {l : List Nat} (h : Ok l) {i : Nat} (hi : i < l.length) : l[i] < 4294967296 := h _ (List.getElem_mem hi)
theorem ok_set {l : List Nat} (h : Ok l) {i x : Nat} (hx : x < 4294967296) : Ok (l.set i x) := fun d hd => by
  rcases List.mem_or_eq_of_mem_set hd with h1 | h1
  · exact h d h1
  · rw [h1]; exact hx
/-- What trim finds: noughts from n on, none just below. -/
theorem take_eq_digs {l : List Nat} {n : Nat} (ho : Ok l) (hn : n ≤ l.length) (hz : ∀ j (hj : j < l.length), n ≤ j → l[j] = 0) (ht : ∀ h : 0 < n, l[n - 1]'(by omega) ≠ 0) : l.take n = digs (val l) := by
  have hv : val (l.drop n) = 0 := val_zeros fun d hd => by
    obtain ⟨j, hj, rfl⟩ := List.getElem_of_mem hd
    rw [List.getElem_drop]
    exact hz _ _ (by omega)
  have h1 := val_split l n hn
  rw [hv, Nat.mul_zero, Nat.add_zero] at h1
  rw [h1]
  refine (digs_val (ok_take ho n) fun hne => ?_).symm
  have hpos : 0 < n := by
    rcases Nat.eq_zero_or_pos n with h0 | h0
    · subst h0; simp at hne
    · exact h0
  rw [List.getLast_eq_getElem]
  simp only [List.length_take, Nat.min_eq_left hn, List.getElem_take]
  exact ht hpos
/-- The digits stand at the head of the limbs. -/
theorem take_digs : ∀ {l : List Nat}, Ok l → l.take (digs (val l)).length = digs (val l)
  | [], _ => by simp [val, digs_zero]
  | d :: r, ho => by
    obtain ⟨hd, hr⟩ := ok_cons ho
    have ih := take_digs hr
    by_cases h0 : val (d :: r) = 0
    · rw [h0, digs_zero]; rfl
    · have e : digs (val (d :: r)) = d :: digs (val r) := by
        rw [digs_pos h0, val]
        rw [show (d + 4294967296 * val r) % 4294967296 = d by omega, show (d + 4294967296 * val r) / 4294967296 = val r by omega]
      rw [e, List.length_cons, List.take_succ_cons, ih]
theorem digs_inj {a b : Nat} (h : digs a = digs b) : a = b := by rw [← val_digs a, ← val_digs b, h]
/-- How many limbs a number has. -/
def size (n : Nat) : Nat := (digs n).length
theorem digs_len_le {l : List Nat} (h : Ok l) : (digs (val l)).length ≤ l.length := by
  have key : ∀ (k n : Nat), n < 4294967296 ^ k → (digs n).length ≤ k := by
    intro k
    induction k with
    | zero => intro n hn; rw [show n = 0 by simpa using hn, digs_zero]; simp
    | succ k ih =>
      intro n hn
      by_cases h0 : n = 0
      · subst h0; rw [digs_zero]; simp
      · rw [digs_pos h0, List.length_cons]
        have := ih (n / 4294967296) (by rw [Nat.pow_succ] at hn; rw [Nat.div_lt_iff_lt_mul (by omega)]; exact hn)
        omega
  exact key _ _ (val_lt h)
theorem digs_len_lt {n k : Nat} (h : n < 4294967296 ^ k) : (digs n).length ≤ k := by
  have h2 := digs_len_le (l := (List.range k).map fun i => n / 4294967296 ^ i % 4294967296) (fun d hd => by
    obtain ⟨i, _, rfl⟩ := List.mem_map.1 hd; omega)
  have key : ∀ (k n : Nat), n < 4294967296 ^ k → (digs n).length ≤ k := by
    intro k
    induction k with
    | zero => intro n hn; rw [show n = 0 by simpa using hn, digs_zero]; simp
    | succ k ih =>
      intro n hn
      by_cases h0 : n = 0
      · subst h0; rw [digs_zero]; simp
      · rw [digs_pos h0, List.length_cons]
        have := ih (n / 4294967296) (by rw [Nat.pow_succ] at hn; rw [Nat.div_lt_iff_lt_mul (by omega)]; exact hn)
        omega
  exact key k n h
theorem digs_ge {n : Nat} (h : n ≠ 0) : 4294967296 ^ ((digs n).length - 1) ≤ n := by
  induction n using Nat.strongRecOn with
  | _ n ih =>
    rw [digs_pos h, List.length_cons, Nat.add_sub_cancel]
    by_cases h2 : n / 4294967296 = 0
    · rw [h2, digs_zero]; simp; omega
    · have := ih _ (by omega) h2
      have hl : (digs (n / 4294967296)).length ≠ 0 := by
        intro e; exact h2 (digs_nil_iff.1 (List.eq_nil_of_length_eq_zero e))
      obtain ⟨m, hm⟩ : ∃ m, (digs (n / 4294967296)).length = m + 1 := ⟨(digs (n / 4294967296)).length - 1, by omega⟩
      rw [hm] at this ⊢
      rw [Nat.add_sub_cancel] at this
      rw [Nat.pow_succ]
      omega

def cmp (x y : Nat) : Int := if x < y then -1 else if y < x then 1 else 0
theorem cmp_lt {x y : Nat} (h : x < y) : cmp x y = -1 := if_pos h
theorem cmp_gt {x y : Nat} (h : y < x) : cmp x y = 1 := by unfold cmp; rw [if_neg (by omega), if_pos h]
theorem cmp_eq (x : Nat) : cmp x x = 0 := by unfold cmp; rw [if_neg (by omega), if_neg (by omega)]
/-- The highest place where two numbers of one length part decides. -/
theorem val_lt_of {a b : List Nat} {i : Nat} (ha : Ok a) (hi : i < a.length) (hi' : i < b.length) (hd : a.drop (i + 1) = b.drop (i + 1)) (hlt : a[i] < b[i]) : val a < val b := by
  have h1 := val_split a i (by omega)
  have h2 := val_split b i (by omega)
  rw [List.drop_eq_getElem_cons hi, val] at h1
  rw [List.drop_eq_getElem_cons hi', val, ← hd] at h2
  have h3 := val_lt (ok_take ha i)
  rw [List.length_take, Nat.min_eq_left (by omega)] at h3
  generalize val (a.drop (i + 1)) = r at h1 h2
  generalize a[i] = x at h1 hlt
  generalize b[i] = y at h2 hlt
  generalize 4294967296 ^ i = p at h1 h2 h3
  generalize val (a.take i) = s at h1 h3
  generalize val (b.take i) = t at h2
  have h4 : p * (x + 4294967296 * r) + p ≤ p * (y + 4294967296 * r) := by
    have h5 : p * (x + 4294967296 * r + 1) = p * (x + 4294967296 * r) + p := Nat.mul_succ _ _
    have h6 := Nat.mul_le_mul_left p (show x + 4294967296 * r + 1 ≤ y + 4294967296 * r by omega)
    omega
  omega
/-- More limbs, none of 0 on top: greater. -/
theorem digs_len_mono {x y : Nat} (h : (digs x).length < (digs y).length) : x < y := by
  have hy : y ≠ 0 := by rintro rfl; rw [digs_zero] at h; simp at h
  have h1 := digs_ge hy
  have h2 := val_lt (ok_digs x)
  rw [val_digs] at h2
  have h3 : (4294967296 : Nat) ^ (digs x).length ≤ 4294967296 ^ ((digs y).length - 1) := Nat.pow_le_pow_right (by omega) (by omega)
  omega
/-- Noughts laid on top, up to n limbs. -/
def pad (a : List Nat) (n : Nat) : List Nat := a ++ List.replicate (n - a.length) 0
theorem val_pad (a : List Nat) (n : Nat) : val (pad a n) = val a := by
  unfold pad
  rw [val_append, val_zeros (fun d hd => (List.mem_replicate.1 hd).2), Nat.mul_zero, Nat.add_zero]
theorem pad_len {a : List Nat} {n : Nat} (h : a.length ≤ n) : (pad a n).length = n := by simp [pad]; omega
theorem ok_pad {a : List Nat} (h : Ok a) (n : Nat) : Ok (pad a n) := fun d hd => by
  rcases List.mem_append.1 hd with h1 | h1
  · exact h d h1
  · rw [(List.mem_replicate.1 h1).2]; omega
theorem pad_get? {a : List Nat} {n i : Nat} (hi : i < (pad a n).length) : (pad a n)[i]? = some (a.getD i 0) := by
  unfold pad at hi ⊢
  rw [List.length_append, List.length_replicate] at hi
  rw [List.getD_eq_getElem?_getD, List.getElem?_append]
  split
  · rename_i h; rw [List.getElem?_eq_getElem h]; rfl
  · rename_i h
    rw [List.getElem?_replicate, if_pos (by omega), List.getElem?_eq_none (by omega)]
    rfl
theorem pad_get {a : List Nat} {n i : Nat} (hi : i < (pad a n).length) : (pad a n)[i] = a.getD i 0 := by
  have := pad_get? hi
  rw [List.getElem?_eq_getElem hi] at this
  exact Option.some.inj this

theorem take_getD (l : List Nat) (k : Nat) : val (l.take (k + 1)) = val (l.take k) + 4294967296 ^ k * l.getD k 0 := by
  by_cases h : k < l.length
  · rw [val_take_succ h, List.getD_eq_getElem?_getD, List.getElem?_eq_getElem h]; rfl
  · rw [List.take_of_length_le (by omega), List.take_of_length_le (by omega), List.getD_eq_getElem?_getD, List.getElem?_eq_none (by omega)]
    simp
theorem set_take {l : List Nat} {k x : Nat} (h : k < l.length) : val ((l.set k x).take (k + 1)) = val (l.take k) + 4294967296 ^ k * x := by
  rw [val_take_succ (by simpa using h), List.getElem_set_self, List.take_set_of_le (Nat.le_refl _)]
theorem drop_set {l : List Nat} {k x : Nat} : (l.set k x).drop (k + 1) = l.drop (k + 1) := by
  rw [List.drop_set, if_pos (by omega)]
theorem digs_len_le_of {x y : Nat} (h : y ≤ x) : (digs y).length ≤ (digs x).length := by
  rcases Nat.lt_or_ge (digs x).length (digs y).length with h1 | h1
  · have := digs_len_mono h1; omega
  · exact h1
theorem cmp_neg {x y : Nat} : cmp x y < 0 ↔ x < y := by
  unfold cmp
  split
  · simp_all
  · split <;> simp <;> omega

def AddUp (a b cur : List Nat) (k c : Nat) : Prop := cur.length = k ∧ Ok cur ∧ val cur + c * 4294967296 ^ k = val (a.take k) + val (b.take k)
theorem addUp_step {a b cur : List Nat} {k c : Nat} (h : AddUp a b cur k c) : AddUp a b (cur ++ [(a.getD k 0 + b.getD k 0 + c) % 4294967296]) (k + 1) ((a.getD k 0 + b.getD k 0 + c) / 4294967296) := by
  obtain ⟨h1, h2, h3⟩ := h
  refine ⟨by simp [h1], ?_, ?_⟩
  · intro d hd
    rcases List.mem_append.1 hd with h4 | h4
    · exact h2 d h4
    · simp at h4; omega
  · rw [val_append, take_getD, take_getD, h1, Nat.pow_succ]
    simp only [val, Nat.mul_zero, Nat.add_zero]
    have e : a.getD k 0 + b.getD k 0 + c = (a.getD k 0 + b.getD k 0 + c) % 4294967296 + 4294967296 * ((a.getD k 0 + b.getD k 0 + c) / 4294967296) := by omega
    generalize 4294967296 ^ k = p at h3 ⊢
    generalize (a.getD k 0 + b.getD k 0 + c) % 4294967296 = s at e ⊢
    generalize (a.getD k 0 + b.getD k 0 + c) / 4294967296 = d at e ⊢
    generalize a.getD k 0 = x at e ⊢
    generalize b.getD k 0 = y at e ⊢
    grind
theorem getD_lt {l : List Nat} (h : Ok l) (k : Nat) : l.getD k 0 < 4294967296 := by
  rw [List.getD_eq_getElem?_getD]
  rcases Nat.lt_or_ge k l.length with h1 | h1
  · rw [List.getElem?_eq_getElem h1]; exact ok_get h h1
  · rw [List.getElem?_eq_none h1]; show 0 < 4294967296; omega
theorem addUp_end {a b cur : List Nat} {n c : Nat} (ha : Ok a) (hb : Ok b) (hla : a.length ≤ n) (hlb : b.length ≤ n) (h : AddUp a b cur (n + 1) c) : val cur = val a + val b := by
  obtain ⟨h1, h2, h3⟩ := h
  rw [List.take_of_length_le (by omega), List.take_of_length_le (by omega)] at h3
  have p1 := val_lt ha
  have p2 := val_lt hb
  have q1 : (4294967296 : Nat) ^ a.length ≤ 4294967296 ^ n := Nat.pow_le_pow_right (by omega) hla
  have q2 : (4294967296 : Nat) ^ b.length ≤ 4294967296 ^ n := Nat.pow_le_pow_right (by omega) hlb
  rw [Nat.pow_succ] at h3
  generalize 4294967296 ^ n = p at *
  rcases Nat.eq_zero_or_pos c with h0 | h0
  · subst h0; omega
  · exfalso
    have : p * 4294967296 ≤ c * (p * 4294967296) := Nat.le_mul_of_pos_left _ h0
    omega
def SubUp (a b cur : List Nat) (k c : Nat) : Prop := cur.length = k ∧ Ok cur ∧ val cur + val (b.take k) = val (a.take k) + c * 4294967296 ^ k
theorem subUp_step {a b cur : List Nat} {k c s d : Nat} (h : SubUp a b cur k c) (hs : s < 4294967296) (e : a.getD k 0 + 4294967296 * d = s + b.getD k 0 + c) : SubUp a b (cur ++ [s]) (k + 1) d := by
  obtain ⟨h1, h2, h3⟩ := h
  refine ⟨by simp [h1], ?_, ?_⟩
  · intro d hd
    rcases List.mem_append.1 hd with h4 | h4
    · exact h2 d h4
    · simp at h4; omega
  · rw [val_append, take_getD, take_getD, h1, Nat.pow_succ]
    simp only [val, Nat.mul_zero, Nat.add_zero]
    generalize 4294967296 ^ k = p at h3 ⊢
    generalize a.getD k 0 = x at e ⊢
    generalize b.getD k 0 = y at e ⊢
    grind
theorem subUp_end {a b cur : List Nat} {n c : Nat} (hla : a.length ≤ n) (hlb : b.length ≤ n) (hle : val b ≤ val a) (h : SubUp a b cur n c) : val cur = val a - val b := by
  obtain ⟨h1, h2, h3⟩ := h
  rw [List.take_of_length_le (by omega), List.take_of_length_le (by omega)] at h3
  have := val_lt h2
  rw [h1] at this
  generalize 4294967296 ^ n = p at *
  rcases Nat.eq_zero_or_pos c with h0 | h0
  · subst h0; omega
  · exfalso
    have : p ≤ c * p := Nat.le_mul_of_pos_left _ h0
    omega
/-- Twice a number, and a bit. -/
def TwiceUp (a : List Nat) (bit : Nat) (cur : List Nat) (k c : Nat) : Prop := cur.length = k ∧ Ok cur ∧ val cur + c * 4294967296 ^ k = 2 * val (a.take k) + bit
theorem twiceUp_step {a cur : List Nat} {bit k c : Nat} (h : TwiceUp a bit cur k c) : TwiceUp a bit (cur ++ [(2 * a.getD k 0 + c) % 4294967296]) (k + 1) ((2 * a.getD k 0 + c) / 4294967296) := by
  obtain ⟨h1, h2, h3⟩ := h
  refine ⟨by simp [h1], ?_, ?_⟩
  · intro d hd
    rcases List.mem_append.1 hd with h4 | h4
    · exact h2 d h4
    · simp at h4; omega
  · rw [val_append, take_getD, h1, Nat.pow_succ]
    simp only [val, Nat.mul_zero, Nat.add_zero]
    have e : 2 * a.getD k 0 + c = (2 * a.getD k 0 + c) % 4294967296 + 4294967296 * ((2 * a.getD k 0 + c) / 4294967296) := by omega
    generalize 4294967296 ^ k = p at h3 ⊢
    generalize (2 * a.getD k 0 + c) % 4294967296 = s at e ⊢
    generalize (2 * a.getD k 0 + c) / 4294967296 = d at e ⊢
    generalize a.getD k 0 = x at e ⊢
    grind
theorem twiceUp_end {a cur : List Nat} {bit c : Nat} (ha : Ok a) (hb : bit ≤ 1) (h : TwiceUp a bit cur (a.length + 1) c) : val cur = 2 * val a + bit := by
  obtain ⟨h1, h2, h3⟩ := h
  rw [List.take_of_length_le (by omega)] at h3
  have p1 := val_lt ha
  rw [Nat.pow_succ] at h3
  generalize 4294967296 ^ a.length = p at *
  rcases Nat.eq_zero_or_pos c with h0 | h0
  · subst h0; omega
  · exfalso
    have : p * 4294967296 ≤ c * (p * 4294967296) := Nat.le_mul_of_pos_left _ h0
    omega
theorem ok_nil : Ok [] := fun d hd => by cases hd
theorem addUp_start (a b : List Nat) : AddUp a b [] 0 0 := ⟨rfl, ok_nil, by simp [val]⟩
theorem subUp_start (a b : List Nat) : SubUp a b [] 0 0 := ⟨rfl, ok_nil, by simp [val]⟩
theorem twiceUp_start (a : List Nat) (bit : Nat) : TwiceUp a bit [] 0 bit := ⟨rfl, ok_nil, by simp [val]⟩
/-- A bit of a number, out of its limb. -/
theorem bit_limb {a : List Nat} (ha : Ok a) (i : Nat) : a.getD (i / 32) 0 / 2 ^ (i % 32) % 2 = val a / 2 ^ i % 2 := by
  have key : ∀ (k : Nat) (l : List Nat), Ok l → val l / 4294967296 ^ k % 4294967296 = l.getD k 0 := by
    intro k
    induction k with
    | zero =>
      intro l hl
      cases l with
      | nil => simp [val]
      | cons d r => have := (ok_cons hl).1; simp [val]; omega
    | succ k ih =>
      intro l hl
      cases l with
      | nil => simp [val]
      | cons d r =>
        have h1 := (ok_cons hl).1
        rw [List.getD_cons_succ, ← ih r (ok_cons hl).2, val, Nat.pow_succ, Nat.mul_comm (4294967296 ^ k), ← Nat.div_div_eq_div_mul]
        rw [show (d + 4294967296 * val r) / 4294967296 = val r by omega]
  rw [← key _ a ha]
  have e : (2 : Nat) ^ i = 4294967296 ^ (i / 32) * 2 ^ (i % 32) := by
    rw [show (4294967296 : Nat) = 2 ^ 32 from rfl, ← Nat.pow_mul, ← Nat.pow_add, Nat.div_add_mod]
  rw [e, ← Nat.div_div_eq_div_mul]
  generalize val a / 4294967296 ^ (i / 32) = v
  have h32 : i % 32 < 32 := Nat.mod_lt _ (by omega)
  generalize i % 32 = j at h32
  have t0 : (v % 2 ^ 32).testBit j = v.testBit j := by rw [Nat.testBit_mod_two_pow, decide_eq_true h32, Bool.true_and]
  rw [Nat.testBit_eq_decide_div_mod_eq, Nat.testBit_eq_decide_div_mod_eq, decide_eq_decide, show (2 : Nat) ^ 32 = 4294967296 from rfl] at t0
  have m1 := Nat.mod_lt (v % 4294967296 / 2 ^ j) (show 0 < 2 by omega)
  have m2 := Nat.mod_lt (v / 2 ^ j) (show 0 < 2 by omega)
  generalize v % 4294967296 / 2 ^ j % 2 = p at *
  generalize v / 2 ^ j % 2 = q at *
  omega

theorem half_step (v k : Nat) : v / 2 ^ k = 2 * (v / 2 ^ (k + 1)) + v / 2 ^ k % 2 := by
  rw [Nat.pow_succ, ← Nat.div_div_eq_div_mul]; omega
theorem len_le {a : List Nat} (ha : Ok a) {x : Nat} (h : x ≤ val a) : (digs x).length ≤ a.length := digs_len_lt (Nat.lt_of_le_of_lt h (val_lt ha))
theorem top_zero {a : List Nat} (ha : Ok a) : val a / 2 ^ (32 * a.length) = 0 := by
  refine Nat.div_eq_of_lt ?_
  rw [Nat.pow_mul]
  exact val_lt ha
/-- One more bit of a quotient and a rest. -/
theorem div_step {n b q r bit : Nat} (hb : 0 < b) (hq : q = n / b) (hr : r = n % b) (hbit : bit ≤ 1) :
    (b ≤ 2 * r + bit → 2 * q + 1 = (2 * n + bit) / b ∧ 2 * r + bit - b = (2 * n + bit) % b) ∧ (¬ b ≤ 2 * r + bit → 2 * q + 0 = (2 * n + bit) / b ∧ 2 * r + bit = (2 * n + bit) % b) := by
  have h1 := Nat.div_add_mod n b
  have h2 := Nat.mod_lt n hb
  rw [← hq, ← hr] at h1
  rw [← hr] at h2
  constructor
  · intro h
    have e : 2 * n + bit = (2 * r + bit - b) + b * (2 * q + 1) := by
      have h3 : b * (2 * q + 1) = 2 * (b * q) + b := by grind
      omega
    rw [e, Nat.add_mul_div_left _ _ hb, Nat.add_mul_mod_self_left, Nat.div_eq_of_lt (by omega), Nat.mod_eq_of_lt (by omega)]
    exact ⟨by omega, rfl⟩
  · intro h
    have e : 2 * n + bit = (2 * r + bit) + b * (2 * q) := by
      have h3 : b * (2 * q) = 2 * (b * q) := by grind
      omega
    rw [e, Nat.add_mul_div_left _ _ hb, Nat.add_mul_mod_self_left, Nat.div_eq_of_lt (by omega), Nat.mod_eq_of_lt (by omega)]
    exact ⟨by omega, rfl⟩

/-- The quotient and the rest; 0 where there is nothing to divide by. -/
def quo (x y : Nat) : Nat := x / y
def rest (x y : Nat) : Nat := if y = 0 then 0 else x % y
theorem quo_zero (x : Nat) : quo x 0 = 0 := Nat.div_zero x
theorem rest_zero (x : Nat) : rest x 0 = 0 := if_pos rfl
theorem rest_pos {x y : Nat} (h : y ≠ 0) : rest x y = x % y := if_neg h

theorem mul_bound {x y : Nat} (hx : x < 4294967296) (hy : y < 4294967296) : x * y ≤ 18446744065119617025 := by
  have := Nat.mul_le_mul (Nat.le_of_lt_succ hx) (Nat.le_of_lt_succ hy)
  simpa using this

def ShortAt (l : List Nat) (d : Nat) (cur : List Nat) (k r : Nat) : Prop :=
  cur.length = l.length ∧ Ok cur ∧ r < d ∧ cur.take k = l.take k ∧ val (cur.drop k) * d + r = val (l.drop k)
theorem short_start {l : List Nat} {d : Nat} (h : Ok l) (hd : 0 < d) : ShortAt l d l l.length 0 := ⟨rfl, h, hd, rfl, by simp [val]⟩
theorem short_get {l cur : List Nat} {d k r : Nat} (h : ShortAt l d cur (k + 1) r) (hk : k < l.length) : cur[k]? = some l[k] := by
  have : (cur.take (k + 1))[k]? = (l.take (k + 1))[k]? := by rw [h.2.2.2.1]
  rw [List.getElem?_take, List.getElem?_take, if_pos (by omega), if_pos (by omega), List.getElem?_eq_getElem hk] at this
  exact this
theorem short_bounds {r d x : Nat} (hr : r < d) (hd : d < 4294967296) (hx : x < 4294967296) : (r * 4294967296 + x) / d < 4294967296 ∧ r * 4294967296 + x < 18446744073709551616 ∧ (r * 4294967296 + x) % d < d := by
  refine ⟨?_, by omega, Nat.mod_lt _ (by omega)⟩
  rw [Nat.div_lt_iff_lt_mul (by omega)]
  have : (r + 1) * 4294967296 ≤ d * 4294967296 := Nat.mul_le_mul_right _ hr
  rw [Nat.mul_comm 4294967296 d]
  omega
theorem short_step {l cur : List Nat} {d k r : Nat} (h : ShortAt l d cur (k + 1) r) (hk : k < l.length) (hl : Ok l) (hd : d < 4294967296) : ShortAt l d (cur.set k ((r * 4294967296 + l[k]) / d)) k ((r * 4294967296 + l[k]) % d) := by
  obtain ⟨h1, h2, h3, h4, h5⟩ := h
  have hb := short_bounds h3 hd (ok_get hl hk)
  refine ⟨by simpa using h1, ok_set h2 hb.1, hb.2.2, ?_, ?_⟩
  · rw [List.take_set_of_le (Nat.le_refl _)]
    have := congrArg (List.take k) h4
    rwa [List.take_take, List.take_take, Nat.min_eq_left (by omega)] at this
  · have hc : k < cur.length := by omega
    rw [List.drop_eq_getElem_cons (by rw [List.length_set]; exact hc), List.getElem_set_self, drop_set, val, List.drop_eq_getElem_cons hk, val, ← h5]
    have e := Nat.div_add_mod (r * 4294967296 + l[k]) d
    generalize (r * 4294967296 + l[k]) / d = q at *
    generalize (r * 4294967296 + l[k]) % d = r' at *
    generalize l[k] = x at *
    generalize val (cur.drop (k + 1)) = V at *
    grind
theorem short_end {l cur : List Nat} {d r : Nat} (h : ShortAt l d cur 0 r) : val cur = val l / d ∧ r = val l % d := by
  obtain ⟨h1, h2, h3, h4, h5⟩ := h
  rw [List.drop_zero, List.drop_zero] at h5
  rw [← h5, Nat.mul_comm, Nat.mul_add_div (by omega), Nat.div_eq_of_lt h3, Nat.mul_add_mod, Nat.mod_eq_of_lt h3]
  exact ⟨by omega, rfl⟩
end Nt

set_option linter.unusedVariables false
namespace Nt
def EucAt (M x y k : Nat) : Prop := (k = 0 ∧ x * y * 2 ≤ M) ∨ (y < x ∧ x * y * 2 ^ k ≤ M)
theorem euc_half {x y : Nat} (h : y < x) (hy : 0 < y) : y * (x % y) * 2 ≤ x * y := by
  have h1 : x % y + y ≤ x := by
    have e := Nat.div_add_mod x y
    have hq : 1 ≤ x / y := by rw [Nat.le_div_iff_mul_le hy]; omega
    have : y * 1 ≤ y * (x / y) := Nat.mul_le_mul_left _ hq
    omega
  have h2 : x % y < y := Nat.mod_lt _ hy
  have h3 : x % y * 2 ≤ x := by omega
  have h4 : y * (x % y * 2) ≤ y * x := Nat.mul_le_mul_left _ h3
  rw [Nat.mul_assoc, Nat.mul_comm x y]
  exact h4
theorem EucAt.step {M x y k : Nat} (h : EucAt M x y k) (hy : 0 < y) : EucAt M y (x % y) (k + 1) := by
  refine .inr ⟨Nat.mod_lt _ hy, ?_⟩
  rcases h with ⟨rfl, h⟩ | ⟨h1, h2⟩
  · have h3 : y * (x % y) ≤ y * x := Nat.mul_le_mul_left _ (Nat.mod_le _ _)
    rw [Nat.mul_comm x y] at h
    have h4 := Nat.mul_le_mul_right 2 h3
    simp only [Nat.zero_add, Nat.pow_one]
    omega
  · have h3 := euc_half h1 hy
    have h4 : y * (x % y) * 2 * 2 ^ k ≤ x * y * 2 ^ k := Nat.mul_le_mul_right _ h3
    rw [Nat.pow_succ, Nat.mul_comm (2 ^ k) 2, ← Nat.mul_assoc]
    omega
theorem EucAt.done {x y k n : Nat} (h : EucAt (2 ^ n) x y k) (hk : n < k) : y = 0 := by
  rcases h with ⟨rfl, h⟩ | ⟨h1, h2⟩
  · omega
  · rcases Nat.eq_zero_or_pos y with h0 | h0
    · exact h0
    · exfalso
      have h3 : 1 ≤ x * y := Nat.mul_pos (by omega) h0
      have h4 : 1 * 2 ^ k ≤ x * y * 2 ^ k := Nat.mul_le_mul_right _ h3
      have h5 : 2 ^ k ≤ 2 ^ n := by omega
      have h6 := (Nat.pow_le_pow_iff_right (a := 2) (by omega)).1 h5
      omega
theorem limbs_bits (n : Nat) : 4294967296 ^ n = 2 ^ (32 * n) := by rw [Nat.pow_mul, show 2 ^ 32 = 4294967296 from rfl]
theorem val_le_bits {a : List Nat} (ha : Ok a) {n : Nat} (la : a.length ≤ n) : val a ≤ 2 ^ (32 * n) := by
  have h1 := val_lt ha
  have h2 := Nat.pow_le_pow_right (n := 4294967296) (by omega) la
  rw [limbs_bits n] at h2
  exact Nat.le_of_lt (Nat.lt_of_lt_of_le h1 h2)
theorem euc_start {a b : List Nat} {n : Nat} (ha : Ok a) (hb : Ok b) (la : a.length ≤ n) (lb : b.length ≤ n) : EucAt (2 ^ (32 * n + 32 * n + 1)) (val a) (val b) 0 := by
  refine .inl ⟨rfl, ?_⟩
  have h3 := Nat.mul_le_mul_right 2 (Nat.mul_le_mul (val_le_bits ha la) (val_le_bits hb lb))
  rw [← Nat.pow_add, ← Nat.pow_succ] at h3
  exact h3
theorem gcd_step (x y : Nat) : Nat.gcd y (x % y) = Nat.gcd x y := by rw [Nat.gcd_comm x y, Nat.gcd_rec y x, Nat.gcd_comm]
theorem gcd_len {a b : List Nat} {n : Nat} (ha : Ok a) (hb : Ok b) (la : a.length ≤ n) (lb : b.length ≤ n) : (digs (Nat.gcd (val a) (val b))).length ≤ n := by
  rcases Nat.eq_zero_or_pos (val a) with h0 | h0
  · rw [h0, Nat.gcd_zero_left]
    exact Nat.le_trans (digs_len_le hb) lb
  · exact Nat.le_trans (len_le ha (Nat.gcd_le_left _ h0)) la
end Nt

/-
  Numbers as signs and limbs, plain: no program in sight. What Make and Right tell.
-/
namespace Rt
/-- A number as it is held. -/
structure Nm where
  neg : Bool
  top : List Nat
  bot : List Nat
deriving DecidableEq

def none_ : Nm := ⟨false, [], []⟩
/-- A sign, that is nothing to 0. -/
def nrm (n : Bool) (x : Nat) : Bool := n && !(x == 0)
/-- A number in lowest terms, or the error. -/
def mk (n1 n2 : Bool) (x y : Nat) : Nm × Int :=
  if y = 0 then (none_, 3)
  else if 32 < (Nt.digs (x / Nat.gcd x y)).length ∨ 32 < (Nt.digs (y / Nat.gcd x y)).length then (none_, 7)
  else (⟨!(x == 0) && (n1 != n2), Nt.digs (x / Nat.gcd x y), Nt.digs (y / Nat.gcd x y)⟩, 0)
/-- May a number be? -/
def right (a : Nm) : Bool := decide (a.top.length ≤ 32) && decide (a.bot.length ≤ 32) && ((mk a.neg false (Nt.val a.top) (Nt.val a.bot)).2 == 0) && decide ((mk a.neg false (Nt.val a.top) (Nt.val a.bot)).1 = a)
theorem mk_nrm (n1 n2 : Bool) (x y : Nat) : mk (nrm n1 x) (nrm n2 y) x y = mk n1 n2 x y := by
  unfold mk nrm
  by_cases hy : y = 0
  · rw [if_pos hy, if_pos hy]
  · rw [if_neg hy, if_neg hy]
    have e : (!(x == 0) && ((n1 && !(x == 0)) != (n2 && !(y == 0)))) = (!(x == 0) && (n1 != n2)) := by
      have h2 : (y == 0) = false := by simpa using hy
      rw [h2]
      cases (x == 0) <;> simp
    rw [e]
theorem div_gcd_zero {x y : Nat} (hy : y ≠ 0) : x / Nat.gcd x y = 0 ↔ x = 0 := by
  have hg : 0 < Nat.gcd x y := Nat.gcd_pos_of_pos_right _ (by omega)
  constructor
  · intro h
    rcases Nat.eq_zero_or_pos x with h0 | h0
    · exact h0
    · have h1 := Nat.le_of_dvd h0 (Nat.gcd_dvd_left x y)
      have h2 := Nat.div_pos h1 hg
      omega
  · rintro rfl; simp
/-- The parts of a number that may be. -/
theorem right_iff {a : Nm} (ho : Nt.Ok a.top) (ho' : Nt.Ok a.bot) : right a = true ↔ a.top.length ≤ 32 ∧ a.bot.length ≤ 32 ∧ Nt.Top a.top ∧ Nt.Top a.bot ∧ a.bot ≠ [] ∧ (a.top = [] → a.neg = false) ∧ Nat.gcd (Nt.val a.top) (Nt.val a.bot) = 1 := by
  obtain ⟨n, t, u⟩ := a
  unfold right
  simp only [Bool.and_eq_true, decide_eq_true_eq, beq_iff_eq]
  unfold mk
  dsimp only at ho ho' ⊢
  constructor
  · rintro ⟨⟨⟨h1, h2⟩, h3⟩, h4⟩
    by_cases hy : Nt.val u = 0
    · rw [if_pos hy] at h3; cases h3
    · rw [if_neg hy] at h3 h4
      by_cases hl : 32 < (Nt.digs (Nt.val t / Nat.gcd (Nt.val t) (Nt.val u))).length ∨ 32 < (Nt.digs (Nt.val u / Nat.gcd (Nt.val t) (Nt.val u))).length
      · rw [if_pos hl] at h3; cases h3
      · rw [if_neg hl] at h4
        injection h4 with e1 e2 e3
        have hg : 0 < Nat.gcd (Nt.val t) (Nt.val u) := Nat.gcd_pos_of_pos_right _ (by omega)
        have hu : Nt.val u / Nat.gcd (Nt.val t) (Nt.val u) = Nt.val u := by
          have := congrArg Nt.val e3
          rwa [Nt.val_digs] at this
        have hgcd : Nat.gcd (Nt.val t) (Nt.val u) = 1 := by
          have h5 := Nat.mul_div_cancel' (Nat.gcd_dvd_right (Nt.val t) (Nt.val u))
          rw [hu] at h5
          have h6 : Nat.gcd (Nt.val t) (Nt.val u) * Nt.val u = 1 * Nt.val u := by rw [h5, Nat.one_mul]
          exact Nat.eq_of_mul_eq_mul_right (by omega) h6
        refine ⟨h1, h2, ?_, ?_, ?_, ?_, hgcd⟩
        · rw [← e2]; exact Nt.top_digs _
        · rw [← e3]; exact Nt.top_digs _
        · rintro rfl; exact hy rfl
        · rintro rfl
          rw [← e1]; rfl
  · rintro ⟨h1, h2, h3, h4, h5, h6, h7⟩
    have hy : Nt.val u ≠ 0 := by
      intro h
      have := Nt.digs_val ho' h4
      rw [h, Nt.digs_zero] at this
      exact h5 this.symm
    rw [if_neg hy, h7, Nat.div_one, Nat.div_one, Nt.digs_val ho h3, Nt.digs_val ho' h4, if_neg (by omega)]
    refine ⟨⟨⟨h1, h2⟩, rfl⟩, ?_⟩
    congr 1
    cases hn : n
    · simp
    · by_cases ht : Nt.val t = 0
      · have := Nt.digs_val ho h3
        rw [ht, Nt.digs_zero] at this
        have := h6 this.symm
        rw [hn] at this; cases this
      · have : (Nt.val t == 0) = false := by simpa using ht
        rw [this]; rfl
end Rt

/-
  Decimal digits, in plain words: a numeral by groups of nine digits, and read again.
-/
set_option linter.unusedVariables false
namespace Ten
open Go Go.Lib
def dch (d : Nat) : UInt8 := UInt8.ofNat (48 + d)
theorem dec_small {n : Nat} (h : n < 10) : decDigits n = [dch n] := decDigits_one h
theorem dec_big {n : Nat} (h : ¬ n < 10) : decDigits n = decDigits (n / 10) ++ [dch (n % 10)] := by
  rw [decDigits, dif_neg h]; rfl
theorem dec_step {q d : Nat} (hq : 0 < q) (hd : d < 10) : decDigits (10 * q + d) = decDigits q ++ [dch d] := by
  rw [dec_big (by omega), show (10 * q + d) / 10 = q by omega, show (10 * q + d) % 10 = d by omega]
theorem dec_ne (n : Nat) : decDigits n ≠ [] := by
  by_cases h : n < 10
  · rw [dec_small h]; simp
  · rw [dec_big h]; simp
/-- k digits, with noughts ahead. -/
def padD : Nat → Nat → List UInt8
  | 0, _ => []
  | k + 1, r => padD k (r / 10) ++ [dch (r % 10)]
theorem dec_pad {q : Nat} (hq : 0 < q) : ∀ (k r : Nat), r < 10 ^ k → decDigits (q * 10 ^ k + r) = decDigits q ++ padD k r
  | 0, r, h => by
    rw [show q * 10 ^ 0 + r = q by simp at h ⊢; omega]; simp [padD]
  | k + 1, r, h => by
    have hr : r / 10 < 10 ^ k := by rw [Nat.pow_succ] at h; omega
    have hp : 0 < 10 ^ k := Nat.pow_pos (by omega)
    have e : q * 10 ^ (k + 1) + r = 10 * (q * 10 ^ k + r / 10) + r % 10 := by
      rw [Nat.pow_succ, ← Nat.mul_assoc]; omega
    rw [e, dec_step (by have := Nat.mul_pos hq hp; omega) (by omega), dec_pad hq k _ hr, padD, List.append_assoc]
theorem padD_zero : ∀ k, padD k 0 = List.replicate k 48
  | 0 => rfl
  | k + 1 => by
    rw [padD, show 0 / 10 = 0 from rfl, padD_zero k, show [dch (0 % 10)] = List.replicate 1 48 from rfl, List.replicate_append_replicate]
theorem dec_len : ∀ {k r : Nat}, r < 10 ^ (k + 1) → 1 ≤ (decDigits r).length ∧ (decDigits r).length ≤ k + 1
  | 0, r, h => by rw [dec_small (by simpa using h)]; simp
  | k + 1, r, h => by
    by_cases h10 : r < 10
    · rw [dec_small h10]; simp
    · rw [dec_big h10]
      have := dec_len (k := k) (r := r / 10) (by rw [Nat.pow_succ] at h; omega)
      simp; omega
theorem padD_dec : ∀ {k r : Nat}, r < 10 ^ (k + 1) → padD (k + 1) r = List.replicate (k + 1 - (decDigits r).length) 48 ++ decDigits r
  | 0, r, h => by
    have h' : r < 10 := by simpa using h
    rw [dec_small h', padD, padD, Nat.mod_eq_of_lt h']; rfl
  | k + 1, r, h => by
    by_cases h10 : r < 10
    · rw [dec_small h10, padD, Nat.mod_eq_of_lt h10, show r / 10 = 0 by omega, padD_zero]; rfl
    · have hr : r / 10 < 10 ^ (k + 1) := by rw [Nat.pow_succ] at h; omega
      have hl := dec_len hr
      rw [padD, padD_dec hr, dec_big h10, List.append_assoc, List.length_append]
      rw [show k + 1 + 1 - ((decDigits (r / 10)).length + [dch (r % 10)].length) = k + 1 - (decDigits (r / 10)).length by simp]
theorem dec_nine {q r : Nat} (hq : 0 < q) (hr : r < 1000000000) : decDigits (q * 1000000000 + r) = decDigits q ++ (List.replicate (9 - (decDigits r).length) 48 ++ decDigits r) := by
  have := dec_pad hq 9 r (by simpa using hr)
  rw [padD_dec (k := 8) (by simpa using hr)] at this
  exact this

/-- A text's number, and whether it is a numeral. -/
def numOf (s : List UInt8) : Nat := s.foldl (fun n b => 10 * n + (b.toNat - 48)) 0
def isDig (b : UInt8) : Prop := 48 ≤ b.toNat ∧ b.toNat ≤ 57
def Valid (s : List UInt8) : Prop := s ≠ [] ∧ (1 < s.length → s.head? ≠ some 48) ∧ ∀ b ∈ s, isDig b
theorem numOf_snoc (s : List UInt8) (b : UInt8) : numOf (s ++ [b]) = 10 * numOf s + (b.toNat - 48) := by
  unfold numOf; rw [List.foldl_append]; rfl
/-- ref.Text's rounds. -/
def OutAt (v y : Nat) (s : List UInt8) : Prop := (0 < y → decDigits v = decDigits y ++ s) ∧ (y = 0 → decDigits v = s)
theorem OutAt.start {v : Nat} (h : 0 < v) : OutAt v v [] := ⟨fun _ => by simp, fun e => by omega⟩
theorem OutAt.step {v y : Nat} {s : List UInt8} (h : OutAt v y s) (hy : 0 < y) : OutAt v (y / 10) (dch (y % 10) :: s) := by
  have e := h.1 hy
  refine ⟨fun h1 => ?_, fun h0 => ?_⟩
  · rw [e, dec_big (n := y) (by omega), List.append_assoc]; rfl
  · rw [e, dec_small (by omega), Nat.mod_eq_of_lt (by omega)]; rfl
/-- nat.Text's groups of nine digits. -/
def grp (v i : Nat) : Nat := v / 1000000000 ^ i % 1000000000
theorem grp_lt (v i : Nat) : grp v i < 1000000000 := Nat.mod_lt _ (by omega)
theorem grp_next (v i : Nat) : v / 1000000000 ^ (i + 1) * 1000000000 + grp v i = v / 1000000000 ^ i := by
  unfold grp; rw [Nat.pow_succ, ← Nat.div_div_eq_div_mul]; omega
theorem div_next (v i : Nat) : v / 1000000000 ^ i / 1000000000 = v / 1000000000 ^ (i + 1) := by rw [Nat.pow_succ, Nat.div_div_eq_div_mul]
theorem grp_top {v i : Nat} (h : v / 1000000000 ^ (i + 1) = 0) : decDigits (grp v i) = decDigits (v / 1000000000 ^ i) := by
  have := grp_next v i
  rw [h] at this
  rw [← this]; simp
theorem grp_low {v i : Nat} (h : 0 < v / 1000000000 ^ (i + 1)) : decDigits (v / 1000000000 ^ i) = decDigits (v / 1000000000 ^ (i + 1)) ++ (List.replicate (9 - (decDigits (grp v i)).length) 48 ++ decDigits (grp v i)) := by
  rw [← dec_nine h (grp_lt v i), grp_next]
end Ten

/-
  Numbers as text, plain: what a number's text is, and what number a text tells.
-/
namespace Dg
open Ten Go
def dB (b : UInt8) : Bool := decide (48 ≤ b.toNat ∧ b.toNat ≤ 57)
/-- How many digits a text begins with. -/
def lead (s : List UInt8) : Nat := (s.takeWhile dB).length
/-- The number of a text without a sign, or the error. -/
def body (neg : Bool) (t : List UInt8) : Rt.Nm × Int :=
  if 400 < t.length then (Rt.none_, 7)
  else if lead t = 0 then (Rt.none_, 1)
  else if lead t = t.length then Rt.mk neg false (numOf t) 1
  else if t.length = lead t + 1 ∨ lead (t.drop (lead t + 1)) < t.length - (lead t + 1) then (Rt.none_, 1)
  else if t.getD (lead t) 0 = 114 then Rt.mk neg false (numOf (t.take (lead t))) (numOf (t.drop (lead t + 1)))
  else if t.getD (lead t) 0 = 46 then Rt.mk neg false (numOf (t.take (lead t) ++ t.drop (lead t + 1))) (10 ^ (t.length - (lead t + 1)))
  else (Rt.none_, 1)
/-- The number of a text, or the error. -/
def parse : List UInt8 → Rt.Nm × Int
  | 194 :: 175 :: t => body true t
  | t => body false t
/-- A right number's text. -/
def print (n : Rt.Nm) : List UInt8 := (if n.neg then [194, 175] else []) ++ (Lib.decDigits (Nt.val n.top) ++ if n.bot = [1] then [] else 114 :: Lib.decDigits (Nt.val n.bot))

theorem numOf_zero (s : List UInt8) : numOf (48 :: s) = numOf s := by simp [numOf]
theorem numOf_drop : ∀ {k : Nat} {s : List UInt8}, (∀ i (hi : i < s.length), i < k → s[i] = 48) → k ≤ s.length → numOf (s.drop k) = numOf s
  | 0, s, _, _ => by simp
  | k + 1, [], _, h => by simp at h
  | k + 1, b :: r, hz, h => by
    have h0 := hz 0 (by simp) (by omega)
    simp at h0
    subst h0
    rw [List.drop_succ_cons, numOf_zero]
    exact numOf_drop (fun i hi hik => by have := hz (i + 1) (by simpa using hi) (by omega); simpa using this) (by simpa using h)
/-- Digits, the noughts ahead taken off but for a last one. -/
theorem valid_drop {s : List UInt8} {k : Nat} (hd : ∀ b ∈ s, isDig b) (hk : k < s.length) (h : k + 1 < s.length → s[k] ≠ 48) : Valid (s.drop k) := by
  refine ⟨by simp; omega, fun hl => ?_, fun b hb => hd b (List.mem_of_mem_drop hb)⟩
  have h1 := h (by simp at hl; omega)
  rw [List.drop_eq_getElem_cons hk]
  intro e
  rw [List.head?_cons] at e
  exact h1 (Option.some.inj e)
end Dg

/-
  Words for memory that the other texts use: a slice value that holds given cells ('Lies'), kept from world to world.
-/
namespace Go.Proofs.YtceplkpjnebnfaaGreatDoor
open Go.RowKit

theorem ret_bool {a b : Bool} (h : a = b) : Ending.returned (.bool a) = .returned (.bool b) := by rw [h]
theorem ret_int {k : IntKind} {a b : Int} (h : a = b) : Ending.returned (.int k a) = .returned (.int k b) := by rw [h]
theorem ret_two {a b c d : Value} (h : a = c) (h' : b = d) : Ending.returned (.tuple #[a, b]) = .returned (.tuple #[c, d]) := by rw [h, h']

/-- The cells behind an address (if any is wanted at all) are these values, and lie below block B. -/
def Lies (w : World) (B : Nat) (A : Option Addr) (vs : List Value) : Prop :=
  vs = [] ∨ ∃ b off, A = some ⟨b, off, none⟩ ∧ b < B ∧ ∀ i v, vs[i]? = some v → w.cell? ⟨b, off + i, none⟩ = some v

theorem Lies.nil {w : World} {B : Nat} {A : Option Addr} : Lies w B A [] := .inl rfl
theorem Lies.keep {w w' : World} {B : Nat} {A : Option Addr} {vs : List Value} (h : Lies w B A vs) (hk : ∀ p : Addr, p.block < B → w'.cell? p = w.cell? p) : Lies w' B A vs := by
  rcases h with h | ⟨b, off, hA, hb, hc⟩
  · exact .inl h
  · exact .inr ⟨b, off, hA, hb, fun i v hv => (hk _ hb).trans (hc i v hv)⟩
theorem Lies.more {w : World} {B B' : Nat} {A : Option Addr} {vs : List Value} (h : Lies w B A vs) (hB : B ≤ B') : Lies w B' A vs := by
  rcases h with h | ⟨b, off, hA, hb, hc⟩
  · exact .inl h
  · exact .inr ⟨b, off, hA, by omega, hc⟩
theorem Lies.below {w w' : World} {B : Nat} {A : Option Addr} {vs : List Value} (h : Lies w B A vs) (hb : Below B w w') : Lies w' B A vs := h.keep fun _ hp => hb.cell hp
theorem Lies.drew {w : World} {B : Nat} {A : Option Addr} {vs : List Value} (h : Lies w B A vs) : Lies w.drew B A vs := h
theorem Lies.drewN {w : World} {B : Nat} {A : Option Addr} {vs : List Value} (h : Lies w B A vs) (n : Nat) : Lies (w.drewN n) B A vs := h
/-- The cell of a place that there is. -/
theorem Lies.at_ {w : World} {B : Nat} {A : Option Addr} {vs : List Value} (h : Lies w B A vs) {k : Nat} (hk : k < vs.length) :
    ∃ b off, A = some ⟨b, off, none⟩ ∧ b < B ∧ w.cell? ⟨b, off + k, none⟩ = some (vs[k]'hk) := by
  rcases h with h | ⟨b, off, hA, hb, hc⟩
  · subst h; simp at hk
  · exact ⟨b, off, hA, hb, hc k _ (List.getElem?_eq_getElem hk)⟩
theorem Lies.take {w : World} {B : Nat} {A : Option Addr} {vs : List Value} (h : Lies w B A vs) (n : Nat) : Lies w B A (vs.take n) := by
  rcases h with h | ⟨b, off, hA, hb, hc⟩
  · subst h; exact .inl (by simp)
  · refine .inr ⟨b, off, hA, hb, fun i v hv => hc i v ?_⟩
    rw [List.getElem?_take] at hv
    split at hv
    · exact hv
    · cases hv
/-- A row of the call's own, as such cells. -/
theorem Lies.of_own {w : World} {base : Nat} {e : TypeId} {size n c : Nat} {A : Option Addr} {xs : List Value} (h : w.ownsRow base e size (.slice A n c) n xs) : Lies w w.heap.size A xs := by
  rcases h.2 with ⟨hv, hx⟩ | ⟨g, cap, cur, hv, hb, hh, _⟩
  · exact .inl (List.eq_nil_of_length_eq_zero (by rw [h.1, hx, Nat.zero_mul]))
  · injection hv with hA
    subst hA
    have hlt := (h.lt g (by simp [Value.ownBlock])).2
    exact .inr ⟨g, 0, rfl, hlt, fun i v hv => by
      have := h.cells (g := g) (by simp [Value.ownBlock]) i v hv
      rw [Nat.zero_add]
      rw [← this]
      congr 1
      unfold Addr.add
      split
      · simp_all
      · simp⟩
/-- A row of the call's own is a slice. -/
theorem own_slice {w : World} {base : Nat} {e : TypeId} {size n : Nat} {v : Value} {xs : List Value} (h : w.ownsRow base e size v n xs) : ∃ A c, v = .slice A n c ∧ n ≤ c ∧ c ≤ maxLen := by
  rcases h.2 with ⟨hv, hx⟩ | ⟨g, cap, cur, hv, _, _, h1, h2, _⟩
  · subst hx; exact ⟨none, 0, hv, Nat.le_refl _, Nat.zero_le _⟩
  · exact ⟨_, cap, hv, h1, h2⟩
/-- A block that was just made. -/
theorem Lies.new (w : World) (cs : List Value) (t : TypeId) : Lies (w.alloc (.cells cs.toArray t)) (w.heap.size + 1) (some ⟨w.heap.size, 0, none⟩) cs := by
  refine .inr ⟨w.heap.size, 0, rfl, by omega, fun i v hv => ?_⟩
  rw [cell_of_row (w.alloc (.cells cs.toArray t)) w.heap.size (0 + i) cs.toArray t (0, 0) (heap_alloc_new w _), Nat.zero_add]
  simpa using hv
end Go.Proofs.YtceplkpjnebnfaaGreatDoor

/-
  What trim, limb, longer, Same and Cmp compute, for all limbs.
-/
namespace Go.Proofs.YtceplkpjnebnfaaGreatDoor
open Go.RowKit
set_option maxHeartbeats 400000
set_option maxRecDepth 100000
set_option linter.unusedVariables false

/-- Limbs as values. -/
def U (l : List Nat) : List Value := l.map fun n : Nat => Value.int .u32 (n : Int)
theorem U_get {l : List Nat} {i : Nat} (h : i < l.length) : (U l)[i]'(by simpa [U] using h) = .int .u32 ((l[i] : Nat) : Int) := by simp [U]
theorem U_len (l : List Nat) : (U l).length = l.length := by simp [U]
theorem Lies.limb {w : World} {B : Nat} {A : Option Addr} {l : List Nat} (h : Lies w B A (U l)) {k : Nat} (hk : k < l.length) :
    ∃ b off, A = some ⟨b, off, none⟩ ∧ b < B ∧ w.cell? ⟨b, off + k, none⟩ = some (.int .u32 ((l[k] : Nat) : Int)) := by
  obtain ⟨b, off, hA, hb, hc⟩ := h.at_ (k := k) (by rw [U_len]; exact hk)
  rw [U_get hk] at hc
  exact ⟨b, off, hA, hb, hc⟩

theorem trim_any (A : Option Addr) (c B : Nat) (l : List Nat) (w : World) (hl : Lies w B A (U l)) (ho : Nt.Ok l) (hc : l.length ≤ c) (hm : c ≤ 9223372036854775807) :
    Calls Tryz.prog 122 #[.slice A l.length c] w fun e w' => e = .returned (.slice A (Nt.digs (Nt.val l)).length (Nt.digs (Nt.val l)).length) ∧ w = w' := by
  have HL := Lib.hid hl
  have HO := Lib.hid ho
  clear hl ho
  go_enter Tryz.func122, Tryz.ntmps122
  go_wp2_with fail
  go_loop [3] (fun i => ∃ n : Nat, n ≤ l.length ∧ i = .int .i64 (n : Int) ∧ Hid (∀ j (hj : j < l.length), n ≤ j → l[j] = 0)) (fun i => (intOf i).toNat)
  case atStart => exact ⟨l.length, Nat.le_refl _, rfl, Lib.hid (fun j hj h => absurd hj (by omega))⟩
  case round =>
    obtain ⟨n, hn, rfl, H⟩ := hrel
    by_cases h0 : 0 < n
    · obtain ⟨b, off, rfl, _, hcell⟩ := HL.out.limb (k := n - 1) (by omega)
      generalize hx : l[n - 1]'(by omega) = x at hcell
      have HX := Lib.hid hx
      have hxb : x < 4294967296 := by rw [← hx]; exact Nt.ok_get HO.out (by omega)
      clear hx
      have hpos : (0 : Int) < (n : Int) := by omega
      by_cases hz : x = 0
      · subst hz
        go_wp2_with fail
        go_round
        case rel =>
          refine ⟨n - 1, by omega, by go_num, Lib.hid (fun j hj h => ?_)⟩
          by_cases e : j = n - 1
          · subst e; exact HX.out
          · exact H.out j hj (by omega)
        case measure => simp [intOf]; omega
      · have hne : ((x : Int) == 0) = false := by simp; omega
        have HE : Hid ((Nt.digs (Nt.val l)).length = n) := by
          have := Nt.take_eq_digs HO.out hn H.out (fun _ => by rw [HX.out]; exact hz)
          rw [← this, List.length_take]
          exact Nat.min_eq_left hn
        clear hz
        go_wp2_with fail
        go_ret
        exact ⟨by rw [HE.out]; rfl, rfl⟩
    · obtain rfl : n = 0 := by omega
      have HE : Hid ((Nt.digs (Nt.val l)).length = 0) := Lib.hid (by
        have := Nt.take_eq_digs HO.out hn H.out (fun h => absurd h (by omega))
        rw [← this]; simp)
      go_wp2_with fail
      go_ret
      exact ⟨by rw [HE.out]; rfl, rfl⟩

theorem limb_any (A : Option Addr) (c B : Nat) (l : List Nat) (i : Nat) (w : World) (hl : Lies w B A (U l)) (hc : l.length ≤ c) (hm : c ≤ 9223372036854775807) (hi : i ≤ 9223372036854775807) (ho : Nt.Ok l) :
    Calls Tryz.prog 99 #[.slice A l.length c, .int .i64 (i : Int)] w fun e w' => e = .returned (.int .u64 ((l.getD i 0 : Nat) : Int)) ∧ w = w' := by
  by_cases hlt : i < l.length
  · obtain ⟨b, off, rfl, _, hcell⟩ := hl.limb hlt
    have HG : Hid (l.getD i 0 = l[i]) := Lib.hid (by simp [List.getD_eq_getElem?_getD, hlt])
    have hb := Nt.ok_get ho hlt
    clear hl ho
    generalize l[i] = x at hcell HG hb
    go_enter Tryz.func99, Tryz.ntmps99
    go_wp2_with fail
    go_ret
    exact ⟨ret_int (by rw [HG.out]), rfl⟩
  · have HG : Hid (l.getD i 0 = 0) := Lib.hid (by rw [List.getD_eq_getElem?_getD, List.getElem?_eq_none (by omega)]; rfl)
    clear hl ho
    go_enter Tryz.func99, Tryz.ntmps99
    go_wp2_with fail
    go_ret
    exact ⟨ret_int (by rw [HG.out]; rfl), rfl⟩

theorem longer_any (A A' : Option Addr) (n n' c c' : Nat) (w : World) (hc : n ≤ 9223372036854775807) (hc' : n' ≤ 9223372036854775807) :
    Calls Tryz.prog 98 #[.slice A n c, .slice A' n' c'] w fun e w' => e = .returned (.int .i64 ((max n n' : Nat) : Int)) ∧ w = w' := by
  by_cases h : n' < n
  · have HG : Hid (max n n' = n) := Lib.hid (by omega)
    go_enter Tryz.func98, Tryz.ntmps98
    go_wp2_with fail
    go_ret
    exact ⟨ret_int (by rw [HG.out]), rfl⟩
  · have HG : Hid (max n n' = n') := Lib.hid (by omega)
    go_enter Tryz.func98, Tryz.ntmps98
    go_wp2_with fail
    go_ret
    exact ⟨ret_int (by rw [HG.out]), rfl⟩

end Go.Proofs.YtceplkpjnebnfaaGreatDoor

/-
  What nat.Cmp and scrimref02.Cmp compute: which of two numbers is greater.
-/
namespace Go.Proofs.YtceplkpjnebnfaaGreatDoor
open Go.RowKit
set_option maxHeartbeats 1000000
set_option maxRecDepth 100000
set_option linter.unusedVariables false

theorem quiet_three (w : World) (a b c : Nat) : ∃ n, ((w.drewN a).drewN b).drewN c = w.drewN n := ⟨a + b + c, by rw [World.drewN_drewN, World.drewN_drewN, Nat.add_assoc]⟩

theorem cmp_any (A A' : Option Addr) (c c' B : Nat) (a b : List Nat) (w : World) (hx : Lies w B A (U a)) (hy : Lies w B A' (U b)) (ha : Nt.Ok a) (hb : Nt.Ok b)
    (hc : a.length ≤ c) (hc' : b.length ≤ c') (hm : c ≤ 9223372036854775807) (hm' : c' ≤ 9223372036854775807) :
    Calls Tryz.prog 197 #[.slice A a.length c, .slice A' b.length c'] w fun e w' => e = .returned (.int .i64 (Nt.cmp (Nt.val a) (Nt.val b))) ∧ ∃ n, w' = w.drewN n := by
  have ha' := Nt.digs_len_le ha
  have hb' := Nt.digs_len_le hb
  have HTA : Hid (a.take (Nt.digs (Nt.val a)).length = Nt.digs (Nt.val a)) := Lib.hid (Nt.take_digs ha)
  have HTB : Hid (b.take (Nt.digs (Nt.val b)).length = Nt.digs (Nt.val b)) := Lib.hid (Nt.take_digs hb)
  have HX : Hid (Lies w B A (U (Nt.digs (Nt.val a)))) := by
    have := hx.take (Nt.digs (Nt.val a)).length
    rw [show (U a).take (Nt.digs (Nt.val a)).length = U (a.take (Nt.digs (Nt.val a)).length) from List.map_take.symm, HTA.out] at this
    exact this
  have HY : Hid (Lies w B A' (U (Nt.digs (Nt.val b)))) := by
    have := hy.take (Nt.digs (Nt.val b)).length
    rw [show (U b).take (Nt.digs (Nt.val b)).length = U (b.take (Nt.digs (Nt.val b)).length) from List.map_take.symm, HTB.out] at this
    exact this
  have hta := trim_any A c B a w hx ha hc hm
  have htb := trim_any A' c' B b w hy hb hc' hm'
  have TA := Lib.hid hta
  have TB := Lib.hid htb
  have HVA := Lib.hid (Nt.val_digs (Nt.val a))
  have HVB := Lib.hid (Nt.val_digs (Nt.val b))
  have HOA := Lib.hid (Nt.ok_digs (Nt.val a))
  have HOB := Lib.hid (Nt.ok_digs (Nt.val b))
  have HLT := Lib.hid (fun h => Nt.digs_len_mono (x := Nt.val a) (y := Nt.val b) h)
  have HGT := Lib.hid (fun h => Nt.digs_len_mono (x := Nt.val b) (y := Nt.val a) h)
  clear hx hy hta htb HTA HTB
  generalize Nt.val a = x at *
  generalize Nt.val b = y at *
  generalize Nt.digs x = da at *
  generalize Nt.digs y = db at *
  by_cases h1 : da.length < db.length
  · have HE := Lib.hid (Nt.cmp_lt (HLT.out h1))
    go_enter Tryz.func197, Tryz.ntmps197
    go_wp2_with fail
    refine TA.out.mono ?_
    rintro e w' ⟨rfl, rfl⟩
    go_wp2_with fail
    refine TB.out.mono ?_
    rintro e w' ⟨rfl, rfl⟩
    go_wp2_with fail
    go_ret
    exact ⟨by rw [HE.out]; rfl, 0, rfl⟩
  · by_cases h2 : db.length < da.length
    · have HE := Lib.hid (Nt.cmp_gt (HGT.out h2))
      go_enter Tryz.func197, Tryz.ntmps197
      go_wp2_with fail
      refine TA.out.mono ?_
      rintro e w' ⟨rfl, rfl⟩
      go_wp2_with fail
      refine TB.out.mono ?_
      rintro e w' ⟨rfl, rfl⟩
      go_wp2_with fail
      go_ret
      exact ⟨by rw [HE.out]; rfl, 0, rfl⟩
    · have hlen : da.length ≤ db.length := by omega
      have hlen' : db.length ≤ da.length := by omega
      go_enter Tryz.func197, Tryz.ntmps197
      go_wp2_with fail
      refine TA.out.mono ?_
      rintro e w' ⟨rfl, rfl⟩
      go_wp2_with fail
      refine TB.out.mono ?_
      rintro e w' ⟨rfl, rfl⟩
      go_wp2_with fail
      go_loopw [5] (fun i wr => ∃ k m : Nat, wr = w.drewN m ∧ k ≤ da.length ∧ i = .int .i64 ((k : Int) - 1) ∧ Hid (da.drop k = db.drop k)) (fun i _ => (intOf i + 1).toNat)
      case atStart => exact ⟨da.length, 0, rfl, Nat.le_refl _, by go_num, Lib.hid (by rw [List.drop_length, List.drop_eq_nil_of_le hlen'])⟩
      case round =>
        obtain ⟨k, m, rfl, hk, rfl, H⟩ := hrel
        rcases k with _ | k
        · have HE : Hid (Nt.cmp x y = 0) := Lib.hid (by
            have h := H.out
            rw [List.drop_zero, List.drop_zero] at h
            rw [← HVA.out, ← HVB.out, h]; exact Nt.cmp_eq _)
          go_wp2_with fail
          go_ret
          exact ⟨by rw [HE.out]; rfl, _, rfl⟩
        · have hlt : k < da.length := by omega
          have hlt' : k < db.length := by omega
          obtain ⟨b1, off1, rfl, _, hc1⟩ := HX.out.limb hlt
          obtain ⟨b2, off2, rfl, _, hc2⟩ := HY.out.limb hlt'
          have P1 : Hid (da[k] < db[k] → Nt.cmp x y = -1) := Lib.hid (fun h => by
            have := Nt.val_lt_of HOA.out hlt hlt' H.out h
            rw [HVA.out, HVB.out] at this
            exact Nt.cmp_lt this)
          have P2 : Hid (db[k] < da[k] → Nt.cmp x y = 1) := Lib.hid (fun h => by
            have := Nt.val_lt_of HOB.out hlt' hlt H.out.symm h
            rw [HVA.out, HVB.out] at this
            exact Nt.cmp_gt this)
          have P3 : Hid (da[k] = db[k] → da.drop k = db.drop k) := Lib.hid (fun h => by
            rw [List.drop_eq_getElem_cons hlt, List.drop_eq_getElem_cons hlt', H.out, h])
          generalize da[k] = d1 at hc1 P1 P2 P3
          generalize db[k] = d2 at hc2 P1 P2 P3
          have hk1 : ((k + 1 : Nat) : Int) - 1 = (k : Int) := by omega
          rw [hk1]
          clear hk1
          rcases Nat.lt_trichotomy d1 d2 with h | h | h
          · have HE := Lib.hid (P1.out h)
            go_wp2_with fail
            go_quiet (fail)
            go_wp2_with fail
            go_ret
            exact ⟨by rw [HE.out]; rfl, _, World.drewN_drewN _ _ _⟩
          · have HE := Lib.hid (P3.out h)
            subst h
            go_wp2_with fail
            go_quiet (fail)
            go_wp2_with fail
            go_quiet (fail)
            go_wp2_with fail
            go_roundw
            case rel => exact ⟨k, _, rfl, by omega, by go_num, Lib.hid HE.out⟩
            case measure => first | (simp [intOf]; done) | (simp [intOf]; omega)
          · have HE := Lib.hid (P2.out h)
            go_wp2_with fail
            go_quiet (fail)
            go_wp2_with fail
            go_quiet (fail)
            go_wp2_with fail
            go_ret
            exact ⟨by rw [HE.out]; rfl, quiet_three _ _ _ _⟩

theorem refCmp_any (A A' : Option Addr) (c c' B : Nat) (a b : List Nat) (w : World) (hx : Lies w B A (U a)) (hy : Lies w B A' (U b)) (ha : Nt.Ok a) (hb : Nt.Ok b)
    (hc : a.length ≤ c) (hc' : b.length ≤ c') (hm : c ≤ 9223372036854775807) (hm' : c' ≤ 9223372036854775807) :
    Calls Tryz.prog 225 #[.slice A a.length c, .slice A' b.length c'] w fun e w' => e = .returned (.int .i64 (Nt.cmp (Nt.val a) (Nt.val b))) ∧ w = w' := by
  obtain ⟨n, hn⟩ : ∃ n, n = max a.length b.length := ⟨_, rfl⟩
  have hna : a.length ≤ n := by omega
  have hnb : b.length ≤ n := by omega
  have hnm : n ≤ 9223372036854775807 := by omega
  have HN := Lib.hid hn
  have LA := Lib.hid (fun i hi => limb_any A c B a i w hx hc hm hi ha)
  have LB := Lib.hid (fun i hi => limb_any A' c' B b i w hy hc' hm' hi hb)
  have PA := Lib.hid (Nt.pad_len hna)
  have PB := Lib.hid (Nt.pad_len hnb)
  have GA := Lib.hid (fun i (hi : i < (Nt.pad a n).length) => Nt.pad_get hi)
  have GB := Lib.hid (fun i (hi : i < (Nt.pad b n).length) => Nt.pad_get hi)
  have HVA := Lib.hid (Nt.val_pad a n)
  have HVB := Lib.hid (Nt.val_pad b n)
  have HOA := Lib.hid (Nt.ok_pad ha n)
  have HOB := Lib.hid (Nt.ok_pad hb n)
  clear hx hy ha hb hn
  generalize Nt.val a = x at *
  generalize Nt.val b = y at *
  generalize Nt.pad a n = da at *
  generalize Nt.pad b n = db at *
  go_enter Tryz.func225, Tryz.ntmps225
  go_wp2_with fail
  refine (longer_any A A' a.length b.length c c' _ (by omega) (by omega)).mono ?_
  rintro e w' ⟨rfl, rfl⟩
  rw [← HN.out]
  go_wp2_with fail
  go_loop [5] (fun i => ∃ k : Nat, k ≤ n ∧ i = .int .i64 ((k : Int) - 1) ∧ Hid (da.drop k = db.drop k)) (fun i => (intOf i + 1).toNat)
  case atStart => exact ⟨n, Nat.le_refl _, by go_num, Lib.hid (by rw [List.drop_eq_nil_of_le (by rw [PA.out]; omega), List.drop_eq_nil_of_le (by rw [PB.out]; omega)])⟩
  case round =>
    obtain ⟨k, hk, rfl, H⟩ := hrel
    rcases k with _ | k
    · have HE : Hid (Nt.cmp x y = 0) := Lib.hid (by
        have h := H.out
        rw [List.drop_zero, List.drop_zero] at h
        rw [← HVA.out, ← HVB.out, h]; exact Nt.cmp_eq _)
      go_wp2_with fail
      go_ret
      exact ⟨by rw [HE.out]; rfl, rfl⟩
    · have hlt : k < da.length := by rw [PA.out]; omega
      have hlt' : k < db.length := by rw [PB.out]; omega
      have P1 : Hid (a.getD k 0 < b.getD k 0 → Nt.cmp x y = -1) := Lib.hid (fun h => by
        rw [← GA.out k hlt, ← GB.out k hlt'] at h
        have := Nt.val_lt_of HOA.out hlt hlt' H.out h
        rw [HVA.out, HVB.out] at this
        exact Nt.cmp_lt this)
      have P2 : Hid (b.getD k 0 < a.getD k 0 → Nt.cmp x y = 1) := Lib.hid (fun h => by
        rw [← GA.out k hlt, ← GB.out k hlt'] at h
        have := Nt.val_lt_of HOB.out hlt' hlt H.out.symm h
        rw [HVA.out, HVB.out] at this
        exact Nt.cmp_gt this)
      have P3 : Hid (a.getD k 0 = b.getD k 0 → da.drop k = db.drop k) := Lib.hid (fun h => by
        rw [← GA.out k hlt, ← GB.out k hlt'] at h
        rw [List.drop_eq_getElem_cons hlt, List.drop_eq_getElem_cons hlt', H.out, h])
      have CA := Lib.hid (LA.out k (by omega))
      have CB := Lib.hid (LB.out k (by omega))
      clear hlt hlt'
      generalize a.getD k 0 = d1 at P1 P2 P3 CA
      generalize b.getD k 0 = d2 at P1 P2 P3 CB
      have hk1 : ((k + 1 : Nat) : Int) - 1 = (k : Int) := by omega
      rw [hk1]
      clear hk1
      rcases Nat.lt_trichotomy d1 d2 with h | h | h
      · have HE := Lib.hid (P1.out h)
        go_wp2_with fail
        refine CA.out.mono ?_
        rintro e w' ⟨rfl, rfl⟩
        go_wp2_with fail
        refine CB.out.mono ?_
        rintro e w' ⟨rfl, rfl⟩
        go_wp2_with fail
        go_ret
        exact ⟨by rw [HE.out]; rfl, rfl⟩
      · have HE := Lib.hid (P3.out h)
        subst h
        go_wp2_with fail
        refine CA.out.mono ?_
        rintro e w' ⟨rfl, rfl⟩
        go_wp2_with fail
        refine CB.out.mono ?_
        rintro e w' ⟨rfl, rfl⟩
        go_wp2_with fail
        refine CA.out.mono ?_
        rintro e w' ⟨rfl, rfl⟩
        go_wp2_with fail
        refine CB.out.mono ?_
        rintro e w' ⟨rfl, rfl⟩
        go_wp2_with fail
        go_round
        case rel => exact ⟨k, by omega, by go_num, Lib.hid HE.out⟩
        case measure => first | (simp [intOf]; done) | (simp [intOf]; omega)
      · have HE := Lib.hid (P2.out h)
        go_wp2_with fail
        refine CA.out.mono ?_
        rintro e w' ⟨rfl, rfl⟩
        go_wp2_with fail
        refine CB.out.mono ?_
        rintro e w' ⟨rfl, rfl⟩
        go_wp2_with fail
        refine CA.out.mono ?_
        rintro e w' ⟨rfl, rfl⟩
        go_wp2_with fail
        refine CB.out.mono ?_
        rintro e w' ⟨rfl, rfl⟩
        go_wp2_with fail
        go_ret
        exact ⟨by rw [HE.out]; rfl, rfl⟩
end Go.Proofs.YtceplkpjnebnfaaGreatDoor

/-
  Words for a block of memory that the call made and knows whole: 'Blk'; a law for make.
-/
namespace Go.Proofs.YtceplkpjnebnfaaGreatDoor
open Go.RowKit

/-- Block g is just these cells, none frozen. -/
def Blk (w : World) (g : Nat) (t : TypeId) (vs : List Value) : Prop := w.heap[g]? = some (.cells vs.toArray t (0, 0))

theorem Blk.lt {w : World} {g : Nat} {t : TypeId} {vs : List Value} (h : Blk w g t vs) : g < w.heap.size := by
  rcases Nat.lt_or_ge g w.heap.size with hl | hl
  · exact hl
  · unfold Blk at h; rw [Array.getElem?_eq_none hl] at h; cases h
theorem Blk.cell {w : World} {g : Nat} {t : TypeId} {vs : List Value} (h : Blk w g t vs) {i : Nat} {v : Value} (hi : vs[i]? = some v) : w.cell? ⟨g, i, none⟩ = some v := by
  rw [cell_of_row w g i vs.toArray t (0, 0) h]; simpa using hi
theorem Blk.frozen {w : World} {g : Nat} {t : TypeId} {vs : List Value} (h : Blk w g t vs) (i : Nat) : w.frozen? ⟨g, i, none⟩ = false := by
  unfold Blk at h; simp [World.frozen?, h]
theorem Blk.set_ {w : World} {g : Nat} {t : TypeId} {vs : List Value} (h : Blk w g t vs) (i : Nat) (v : Value) : Blk (w.setCell ⟨g, i, none⟩ v) g t (vs.set i v) := by
  unfold Blk at h ⊢
  simp [World.setCell, Array.getElem?_modify, h]
theorem Blk.drewN {w : World} {g : Nat} {t : TypeId} {vs : List Value} (h : Blk w g t vs) (n : Nat) : Blk (w.drewN n) g t vs := h
theorem Blk.keep {w w' : World} {g B : Nat} {t : TypeId} {vs : List Value} (h : Blk w g t vs) (hb : Below B w w') (hg : g < B) : Blk w' g t vs := (hb.block g hg).trans h
theorem Blk.new (w : World) (t : TypeId) (vs : List Value) : Blk (w.alloc (.cells vs.toArray t)) w.heap.size t vs := heap_alloc_new w _
theorem Blk.alloc {w : World} {g : Nat} {t : TypeId} {vs : List Value} (h : Blk w g t vs) (o : Obj) : Blk (w.alloc o) g t vs := (Below.heap_alloc w o g h.lt).trans h
theorem Blk.far {w : World} {g : Nat} {t : TypeId} {vs : List Value} (h : Blk w g t vs) {p : Addr} (hp : g ≠ p.block) (v : Value) : Blk (w.setCell p v) g t vs := (Below.heap_setCell w p v g hp).trans h
theorem Blk.own {w : World} {g base n : Nat} {t : TypeId} {vs : List Value} (h : Blk w g t vs) (hb : base ≤ g) (hn : n ≤ vs.length) (hm : vs.length ≤ maxLen) : w.ownsRow base t 1 (.slice (some ⟨g, 0, none⟩) n vs.length) n (vs.take n) :=
  ⟨by simp; omega, .inr ⟨g, vs.length, vs.toArray, rfl, hb, h, hn, hm, by simp, by simp⟩⟩
theorem Blk.own_all {w : World} {g base : Nat} {t : TypeId} {vs : List Value} (h : Blk w g t vs) (hb : base ≤ g) (hm : vs.length ≤ maxLen) : w.ownsRow base t 1 (.slice (some ⟨g, 0, none⟩) vs.length vs.length) vs.length vs := by
  have := h.own (n := vs.length) hb (Nat.le_refl _) hm
  rwa [List.take_length] at this
theorem Blk.lies {w : World} {g : Nat} {t : TypeId} {vs : List Value} (h : Blk w g t vs) : Lies w w.heap.size (some ⟨g, 0, none⟩) vs :=
  .inr ⟨g, 0, rfl, h.lt, fun i v hv => by rw [Nat.zero_add]; exact h.cell hv⟩
theorem madeCells_one (z : Value) (n : Nat) : (madeCells #[z] n).toList = List.replicate n z := by
  apply List.ext_getElem?
  intro i
  simp only [madeCells, Array.toList_map, Array.toList_range, List.getElem?_map, List.getElem?_replicate]
  by_cases h : i < n
  · simp [h, Nat.mod_one]
  · simp [h]

/-- make of a slice of one-cell elements: the block, whole. -/
theorem wpList_make_blk {P : Program} (w : World) {ops : Array Oper} {rest : List Oper} {o : Oper} {a : Act} {Q : Exit → Act → World → Prop}
    (hg : o.guard = none) (l c : Operand) (t : TypeId) (hop : o.op = Op.makeSlice t l c)
    (e : TypeId) (i : TypeInfo) (z : Value) (h1 : P.underlying t = some (.slice e)) (h2 : P.info? e = some i) (h3 : i.zero = some z) (h4 : i.size = 1) (hz : z.cells = #[z])
    (kl kc : IntKind) (L C : Int) (n m : Nat) (hl : a.eval l = .int kl L) (hc : a.eval c = .int kc C) (hL : L = (n : Int)) (hC : C = (m : Int)) (hnm : n ≤ m) (b2 : i.bytes * m ≤ 281474976710656) (b3 : m ≤ 9223372036854775807)
    (B : Nat) (w0 : World) (hb : Below B w0 w) (hB : B ≤ w.heap.size)
    (hK : ∀ w', Blk w' w.heap.size e (List.replicate m z) → Below B w0 w' → Below w.heap.size w w' → w.heap.size < w'.heap.size → wpList P ops Q rest (a.put o.dst (.slice (some ⟨w.heap.size, 0, none⟩) n m)) w') :
    wpList P ops Q (o :: rest) a w := by
  refine wpList_plain hg fun K hK' => ?_
  subst hL hC
  have hrun := run_make (P := P) w t e i z h1 h2 h3 kl kc n m (by omega) (by omega) (by rw [← Int.natCast_mul]; omega) (by omega)
  simp only [Int.toNat_natCast, h4, Nat.mul_one, hz] at hrun
  unfold Oper.wp
  simp [execOp, hop, hl, hc, hrun, Result.andThen]
  refine hK' _ _ (hK _ ?_ (hb.alloc hB _) ((Below.refl _ _).alloc (Nat.le_refl _) _) (by simp))
  rw [show madeCells #[z] m = (List.replicate m z).toArray from Array.toList_inj.1 (by rw [madeCells_one])]
  exact Blk.new w e (List.replicate m z)

/-- Only block g has been written. -/
theorem grown_set {a w : World} {g : Nat} (h : a.grownBy w (some g)) (i : Nat) (v : Value) : a.grownBy (w.setCell ⟨g, i, none⟩ v) (some g) :=
  ⟨h.os, h.tape, h.output, by simpa [World.setCell] using h.size, fun k hk hne => (Below.heap_setCell w ⟨g, i, none⟩ v k (fun e => hne (by rw [e]))).trans (h.block k hk hne)⟩
theorem Blk.grown {w w' : World} {g : Nat} {t : TypeId} {vs : List Value} {row : Option Nat} (h : Blk w g t vs) (hg : w.grownBy w' row) (hne : some g ≠ row) : Blk w' g t vs := (hg.block g h.lt hne).trans h
theorem Lies.grown {w w' : World} {B : Nat} {A : Option Addr} {vs : List Value} {row : Option Nat} (h : Lies w B A vs) (hB : B ≤ w.heap.size) (hg : w.grownBy w' row) (hr : ∀ g, row = some g → B ≤ g) : Lies w' B A vs :=
  h.keep fun p hp => World.cell?_of_block (hg.block p.block (by omega) (fun e => by have := hr _ e.symm; omega))
end Go.Proofs.YtceplkpjnebnfaaGreatDoor
