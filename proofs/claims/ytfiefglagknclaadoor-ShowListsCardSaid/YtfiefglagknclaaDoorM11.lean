/-
  Texts of this proof, joined (by wip/bin/bundle.py): Show8, Show9, Show10, Show11, ShowLaid.
-/
import Derived.Test.YtfiefglagknclaaDoorM10
import Derived.Deep.Upon
import Derived.BigQuiet
import Derived.Deep.CutRange
import Derived.Test.YtfiefglagknclaaDoorRows
import Derived.Lib.LaidTab
import Derived.LaidMore
import Derived.Stop.LaidErr
import Derived.MakeChecks
import Derived.OpenShut
import Derived.ProofKit
import Derived.ChangeOld
import Derived.Lay
/-
  oper.Cells of a two by two array of numbers: its two rows. (Printed by wip/bin/gen_show8.py of wip/tpl/show8.main.)
-/
namespace Go.Proofs.YtfiefglagknclaaDoor
open Go.RowKit
set_option maxHeartbeats 4000000
set_option maxRecDepth 100000
set_option linter.unusedVariables false

theorem arrs_info : (Tryd.prog.info? 40).map (fun i => (i.zero, i.size, i.bytes)) = some (some (.agg #[.int .u64 0, .slice none 0 0, .slice none 0 0]), 3, 56) := by kernel_rfl
theorem own_setCells {w : World} {base : Nat} {e : TypeId} {size n : Nat} {v : Value} {xs : List Value} (h : w.ownsRow base e size v n xs) {g : Nat} (hg : g < base) (o : Nat) (vs : List Value) : (w.setCells g o vs).ownsRow base e size v n xs := by
  obtain ⟨h1, h2⟩ := h
  refine ⟨h1, ?_⟩
  rcases h2 with h2 | ⟨g', cap, cur, hv, hb, hh, r⟩
  · exact .inl h2
  · exact .inr ⟨g', cap, cur, hv, hb, (World.heap_setCells_other w g o vs (Array.getElem?_eq_some_iff.1 hh).1 (by omega)).trans hh, r⟩
theorem ownQ_setCells {w : World} {q : Value → Prop} {base : Nat} {e : TypeId} {size n : Nat} {v : Value} {xs : List Value} (h : w.ownsQ q base e size v n xs) {g : Nat} (hg : g < base) (o : Nat) (vs : List Value) : (w.setCells g o vs).ownsQ q base e size v n xs := by
  obtain ⟨h1, h2⟩ := h
  refine ⟨h1, ?_⟩
  rcases h2 with h2 | ⟨g', cap, cur, hv, hb, hh, r⟩
  · exact .inl h2
  · exact .inr ⟨g', cap, cur, hv, hb, (World.heap_setCells_other w g o vs (Array.getElem?_eq_some_iff.1 hh).1 (by omega)).trans hh, r⟩
theorem there_below {B : Nat} {w w' : World} (h : Below B w w') {g o n : Nat} (hg : g < B) (hr : w.there g o n) : w'.there g o n := fun j hj => by
  have hh := h.block g hg
  refine ⟨by rw [h.cell (show (⟨g, o + j, none⟩ : Addr).block < B from hg)]; exact (hr j hj).1, ?_⟩
  rw [World.frozen?_of_block (w := w) hh]
  exact (hr j hj).2
theorem below_setCells {B : Nat} {w w' : World} (h : Below B w w') {g : Nat} (hg : B ≤ g) (hB : B ≤ w'.heap.size) : ∀ (vs : List Value) (o : Nat), Below B w (w'.setCells g o vs) := fun vs o =>
  ⟨(World.os_setCells w' g o vs).trans h.os, (by
    have : ∀ (vs : List Value) (o : Nat) (x : World), (x.setCells g o vs).tape = x.tape := by
      intro vs
      induction vs with
      | nil => intro o x; rfl
      | cons v r ih => intro o x; exact (ih (o + 1) _).trans rfl
    exact (this vs o w').trans h.tape), (World.output_setCells w' g o vs).trans h.output, (by
    have : ∀ (vs : List Value) (o : Nat) (x : World), (x.setCells g o vs).heap.size = x.heap.size := by
      intro vs
      induction vs with
      | nil => intro o x; rfl
      | cons v r ih => intro o x; exact (ih (o + 1) _).trans (by simp [World.setCell])
    rw [this]; exact h.size), fun k hk => (World.heap_setCells_other w' g o vs (by omega) (by omega)).trans (h.block k hk)⟩
def xsj (xs1 xs2 : List Value) : Nat → List Value
  | 0 => xs1
  | _ => xs2
/-- How far the parts have come. -/
structure CellsAt (w3 wr : World) (xs1 xs2 : List Value) (j : Nat) : Prop where
  hi : j ≤ 2
  below : Below w3.heap.size w3 wr
  more : w3.heap.size < wr.heap.size
  th : wr.there w3.heap.size 0 6
  parts : ∀ k, k < j → ∃ a b, wr.rangeAt w3.heap.size (k * 3) [.int .u64 0, a, b] ∧ wr.ownsRow (w3.heap.size + 1) 3 1 a 1 (I64 [2]) ∧ wr.ownsQ NoU (w3.heap.size + 1) 76 7 b 2 (xsj xs1 xs2 k)
theorem cells_next {w3 wr w1 : World} {xs1 xs2 : List Value} {j : Nat} (h : CellsAt w3 wr xs1 xs2 j) (hb : Below wr.heap.size wr w1) (hj : j < 2) {a b : Value} (ha : w1.ownsRow (w3.heap.size + 1) 3 1 a 1 (I64 [2])) (hbb : w1.ownsQ NoU (w3.heap.size + 1) 76 7 b 2 (xsj xs1 xs2 j)) :
    w1.there w3.heap.size (j * 3) 3 ∧ CellsAt w3 (w1.setCells w3.heap.size (j * 3) [.int .u64 0, a, b]) xs1 xs2 (j + 1) := by
  have hth := there_below hb h.more h.th
  have ht3 : w1.there w3.heap.size (j * 3) 3 := fun k hk => by
    have := hth (j * 3 + k) (by omega)
    rwa [Nat.zero_add] at this
  refine ⟨ht3, ?_⟩
  have hB := h.below.trans (hb.mono h.below.size)
  refine ⟨by omega, below_setCells hB (Nat.le_refl _) hB.size _ _, ?_, World.there_setCells hth _ _ _, fun k hk => ?_⟩
  · have := (below_setCells (Below.refl w3.heap.size w1) (g := w3.heap.size) (Nat.le_refl _) (by have := hB.size; omega) [.int .u64 0, a, b] (j * 3)).size
    have h2 := h.more
    have h3 := hb.size
    omega
  · by_cases e : k = j
    · subst e
      exact ⟨a, b, World.rangeAt_setCells_same _ _ _ _ ht3, own_setCells ha (Nat.lt_succ_self _) _ _, ownQ_setCells hbb (Nat.lt_succ_self _) _ _⟩
    · obtain ⟨a', b', r1, r2, r3⟩ := h.parts k (by omega)
      exact ⟨a', b', World.rangeAt_setCells_apart (rangeAt_belowS hb h.more r1) _ _ _ (.inr (by simp; omega)), own_setCells (own_below_ r2 hb) (Nat.lt_succ_self _) _ _, ownQ_setCells (ownsQ_below r3 hb) (Nat.lt_succ_self _) _ _⟩
@[local simp] theorem wrap_c0 : IntKind.i64.wrap 0 = 0 := by decide
@[local simp] theorem wrap_c1 : IntKind.i64.wrap 1 = 1 := by decide
@[local simp] theorem wrap_c2 : IntKind.i64.wrap 2 = 2 := by decide
@[local simp] theorem wrap_c4 : IntKind.i64.wrap 4 = 4 := by decide
def frameCl0 (g0 g1 c1 ga lg : Nat) (jv : Value) (U : Nat → Value) (xs : Nat → Value) : Act := { tmps := #[.agg #[.int .u64 0, .slice (some ⟨g0, 0, none⟩) 2 2, .slice (some ⟨g1, 0, none⟩) 4 c1], .int .i64 1, .pointer (some ⟨ga, 0, none⟩), undef, .slice none 0 0, .slice none 0 0, .int .i64 1, .slice (some ⟨g0, 0, none⟩) 1 2, .slice (some ⟨g0, 1, none⟩) 1 1, .int .i64 2, .int .i64 0, .int .i64 2, .int .i64 0, .slice (some ⟨lg, 0, none⟩) 2 2, jv, U 15, U 16, U 17, U 18, U 19, U 20, U 21, U 22, U 23, U 24, U 25, U 26, U 27, U 28, U 29, U 30, U 31, U 32, U 33, U 34, U 35, U 36, U 37, U 38, U 39, U 40, U 41, U 42, U 43, U 44, U 45, U 46, U 47, U 48, U 49, U 50, U 51, U 52, U 53, U 54, U 55, U 56, U 57, U 58, U 59, U 60, U 61, U 62, U 63, U 64, U 65, U 66, U 67, xs 0, xs 1, xs 2, xs 3, xs 4, xs 5, xs 6, xs 7, xs 8, xs 9, xs 10, xs 11, xs 12, xs 13, xs 14, xs 15, xs 16, xs 17, xs 18, U 87, U 88, U 89, U 90], defers := [] }
def predCl0 (g0 g1 c1 ga lg : Nat) (XS : List Value) : Nat → World → Value → Prop
  | 0, w, v => v = .slice (some ⟨lg, 0, none⟩) 2 2
  | 1, w, v => v = .int .i64 ((0 : Nat) : Int)
  | 2, w, v => v = .pointer (some ⟨ga, 0, none⟩)
  | 3, w, v => v = .int .u64 0
  | 4, w, v => v = .slice (some ⟨g0, 1, none⟩) 1 1
  | 5, w, v => w.ownsRow (lg + 1) 3 1 v 1 (I64 [2])
  | 6, w, v => v = .pointer (some ⟨ga, 2, none⟩)
  | 7, w, v => v = .slice (some ⟨g1, 0, none⟩) 4 c1
  | 8, w, v => v = .int .i64 ((0 : Nat) : Int)
  | 9, w, v => v = .int .i64 2
  | 10, w, v => v = .int .i64 0
  | 11, w, v => v = .int .i64 ((0 : Nat) : Int)
  | 12, w, v => v = .int .i64 1
  | 13, w, v => v = .int .i64 2
  | 14, w, v => v = .int .i64 2
  | 15, w, v => v = .slice (some ⟨g1, 0, none⟩) 2 (c1)
  | 16, w, v => w.ownsQ NoU (lg + 1) 76 7 v 2 XS
  | 17, w, v => ∃ a b, v = .agg #[.int .u64 0, a, b] ∧ w.ownsRow (lg + 1) 3 1 a 1 (I64 [2]) ∧ w.ownsQ NoU (lg + 1) 76 7 b 2 XS
  | _, w, v => v = .pointer (some ⟨lg, 0, none⟩)
def frameCl1 (g0 g1 c1 ga lg : Nat) (jv : Value) (U : Nat → Value) (xs : Nat → Value) : Act := { tmps := #[.agg #[.int .u64 0, .slice (some ⟨g0, 0, none⟩) 2 2, .slice (some ⟨g1, 0, none⟩) 4 c1], .int .i64 1, .pointer (some ⟨ga, 0, none⟩), undef, .slice none 0 0, .slice none 0 0, .int .i64 1, .slice (some ⟨g0, 0, none⟩) 1 2, .slice (some ⟨g0, 1, none⟩) 1 1, .int .i64 2, .int .i64 0, .int .i64 2, .int .i64 0, .slice (some ⟨lg, 0, none⟩) 2 2, jv, U 15, U 16, U 17, U 18, U 19, U 20, U 21, U 22, U 23, U 24, U 25, U 26, U 27, U 28, U 29, U 30, U 31, U 32, U 33, U 34, U 35, U 36, U 37, U 38, U 39, U 40, U 41, U 42, U 43, U 44, U 45, U 46, U 47, U 48, U 49, U 50, U 51, U 52, U 53, U 54, U 55, U 56, U 57, U 58, U 59, U 60, U 61, U 62, U 63, U 64, U 65, U 66, U 67, xs 0, xs 1, xs 2, xs 3, xs 4, xs 5, xs 6, xs 7, xs 8, xs 9, xs 10, xs 11, xs 12, xs 13, xs 14, xs 15, xs 16, xs 17, xs 18, U 87, U 88, U 89, U 90], defers := [] }
def predCl1 (g0 g1 c1 ga lg : Nat) (XS : List Value) : Nat → World → Value → Prop
  | 0, w, v => v = .slice (some ⟨lg, 0, none⟩) 2 2
  | 1, w, v => v = .int .i64 ((1 : Nat) : Int)
  | 2, w, v => v = .pointer (some ⟨ga, 0, none⟩)
  | 3, w, v => v = .int .u64 0
  | 4, w, v => v = .slice (some ⟨g0, 1, none⟩) 1 1
  | 5, w, v => w.ownsRow (lg + 1) 3 1 v 1 (I64 [2])
  | 6, w, v => v = .pointer (some ⟨ga, 2, none⟩)
  | 7, w, v => v = .slice (some ⟨g1, 0, none⟩) 4 c1
  | 8, w, v => v = .int .i64 ((1 : Nat) : Int)
  | 9, w, v => v = .int .i64 2
  | 10, w, v => v = .int .i64 2
  | 11, w, v => v = .int .i64 ((1 : Nat) : Int)
  | 12, w, v => v = .int .i64 2
  | 13, w, v => v = .int .i64 2
  | 14, w, v => v = .int .i64 4
  | 15, w, v => v = .slice (some ⟨g1, 14, none⟩) 2 (c1 - 2)
  | 16, w, v => w.ownsQ NoU (lg + 1) 76 7 v 2 XS
  | 17, w, v => ∃ a b, v = .agg #[.int .u64 0, a, b] ∧ w.ownsRow (lg + 1) 3 1 a 1 (I64 [2]) ∧ w.ownsQ NoU (lg + 1) 76 7 b 2 XS
  | _, w, v => v = .pointer (some ⟨lg, 3, none⟩)
theorem operCells22_any (g0 c0 g1 c1 : Nat) (xs1 xs2 : List Value) (z1 z2 z3 z4 : Int) (w : World) (hs : w.heap[g0]? = some (.cells #[.int .i64 2, .int .i64 2] 3 (0, 0)))
    (hv : w.rangeAt g1 0 xs1) (hv2 : w.rangeAt g1 14 xs2) (hg1 : g1 < w.heap.size) (hc1 : 4 ≤ c1) (hr1 : CellRows w [z1, z2] xs1) (hr2 : CellRows w [z3, z4] xs2) (hq1 : ∀ u ∈ xs1, NoU u) (hq2 : ∀ u ∈ xs2, NoU u) (h11 : ∀ u ∈ xs1, u.oneCell' = true) (h12 : ∀ u ∈ xs2, u.oneCell' = true) :
    Calls Tryd.prog 45 #[.agg #[.int .u64 0, .slice (some ⟨g0, 0, none⟩) 2 2, .slice (some ⟨g1, 0, none⟩) 4 c1], .int .i64 1] w fun e w' => ∃ g a1 b1 a2 b2 fr, e = .returned (.tuple #[.slice (some ⟨g, 0, none⟩) 2 2, fr]) ∧ w'.rangeAt g 0 [.int .u64 0, a1, b1] ∧ w'.rangeAt g 3 [.int .u64 0, a2, b2] ∧ w'.ownsRow 0 3 1 a1 1 (I64 [2]) ∧ w'.ownsRow 0 3 1 a2 1 (I64 [2]) ∧ w'.ownsQ NoU 0 76 7 b1 2 xs1 ∧ w'.ownsQ NoU 0 76 7 b2 2 xs2 ∧ g < w'.heap.size ∧ Below w.heap.size w w' := by
  obtain ⟨W, hW⟩ : ∃ W, W = w.alloc (.cells #[.int .u64 0, .slice (some ⟨g0, 0, none⟩) 2 2, .slice (some ⟨g1, 0, none⟩) 4 c1] 40) := ⟨_, rfl⟩
  have hb0 : Below w.heap.size w W := by rw [hW]; exact (Below.refl _ _).alloc (Nat.le_refl _) _
  have HG : Hid (W.heap[w.heap.size]? = some (.cells #[.int .u64 0, .slice (some ⟨g0, 0, none⟩) 2 2, .slice (some ⟨g1, 0, none⟩) 4 c1] 40 (0, 0))) := Lib.hid (by rw [hW]; exact heap_alloc_new w _)
  have hk1 : W.cell? ⟨w.heap.size, 1, none⟩ = some (.slice (some ⟨g0, 0, none⟩) 2 2) := (cell_of_row W w.heap.size 1 _ _ _ HG.out).trans rfl
  have hk2 : W.cell? ⟨w.heap.size, 2, none⟩ = some (.slice (some ⟨g1, 0, none⟩) 4 c1) := (cell_of_row W w.heap.size 2 _ _ _ HG.out).trans rfl
  have hlg0 : g0 < w.heap.size := (Array.getElem?_eq_some_iff.1 hs).1
  have HS : Hid (W.heap[g0]? = some (.cells #[.int .i64 2, .int .i64 2] 3 (0, 0))) := Lib.hid ((hb0.block g0 hlg0).trans hs)
  have hsz : W.heap.size = w.heap.size + 1 := by rw [hW]; simp
  have HL0 : Hid (∀ wx, Below W.heap.size W wx → Lies wx wx.heap.size (some ⟨g0, 0, none⟩) (I64 [2])) := Lib.hid (fun wx h => .inr ⟨g0, 0, rfl, by have := h.size; omega, fun j v hv => by
    match j with
    | 0 => rw [Nat.zero_add, h.cell (show (⟨g0, 0, none⟩ : Addr).block < _ by show g0 < _; omega), cell_of_row W g0 0 _ _ _ HS.out]; exact hv
    | j + 1 => cases hv⟩)
  have HL1 : Hid (∀ wx, Below W.heap.size W wx → Lies wx wx.heap.size (some ⟨g0, 1, none⟩) (I64 [2])) := Lib.hid (fun wx h => .inr ⟨g0, 1, rfl, by have := h.size; omega, fun j v hv => by
    match j with
    | 0 => rw [Nat.add_zero, h.cell (show (⟨g0, 1, none⟩ : Addr).block < _ by show g0 < _; omega), cell_of_row W g0 1 _ _ _ HS.out]; exact hv
    | j + 1 => cases hv⟩)
  have HW := Lib.hid hW
  have HLG := Lib.hid hlg0
  clear hW hs hsz hlg0
  go_enter Tryd.func45, Tryd.ntmps45
  go_upto_region 1 with fail
  rw [← HW.out]
  go_upto_region 3 with fail
  rw [show (min (max (1 : Int) 0) 2) = 1 from rfl, show (2 : Int) - 1 = 1 from rfl]
  go_cut [7, 8] from 26 (fun x7 x8 wx => Hid (Below W.heap.size W wx) ∧ x7 = .slice (some ⟨g0, 0, none⟩) 1 2 ∧ x8 = .slice (some ⟨g0, 1, none⟩) 1 1)
  case first =>
    go_quiet (fail)
    go_wp2_with fail
    go_meet
    exact ⟨Lib.hid ⟨rfl, rfl, rfl, Nat.le_refl _, fun _ _ => rfl⟩, rfl, rfl⟩
  case rest =>
    obtain ⟨HB3, rfl, rfl⟩ := hcut
    rename World => w3
    have CA := Lib.hid (shapeCount1_any (some ⟨g0, 0, none⟩) 2 2 w3 (HL0.out w3 HB3.out) (by decide) (by decide))
    have CB := Lib.hid (shapeCount1_any (some ⟨g0, 1, none⟩) 1 2 w3 (HL1.out w3 HB3.out) (by decide) (by decide))
    have HK : Hid (∀ wx, Below W.heap.size W wx → wx.cell? ⟨w.heap.size, 0, none⟩ = some (.int .u64 0) ∧ wx.cell? ⟨w.heap.size, 2, none⟩ = some (.slice (some ⟨g1, 0, none⟩) 4 c1)) := Lib.hid (fun wx h => by
      have hh := (h.block w.heap.size (Array.getElem?_eq_some_iff.1 HG.out).1).trans HG.out
      exact ⟨(cell_of_row wx w.heap.size 0 _ _ _ hh).trans rfl, (cell_of_row wx w.heap.size 2 _ _ _ hh).trans rfl⟩)
    clear hk1 hk2
    obtain ⟨_, hk2⟩ := HK.out w3 HB3.out
    go_wp2_with fail
    refine CA.out.mono ?_
    rintro e w' ⟨rfl, rfl⟩
    go_wp2_with fail
    refine CB.out.mono ?_
    rintro e w' ⟨rfl, rfl⟩
    obtain ⟨iA, hiA, hzA, hsA, hbA⟩ := info_parts arrs_info
    have hmk : (Instr.makeSlice 72 (.int .i64 2) (.int .i64 2)).run Tryd.prog w3 = .ok (.slice (some ⟨w3.heap.size, 0, none⟩) 2 2) (w3.alloc (.cells #[.int .u64 0, .slice none 0 0, .slice none 0 0, .int .u64 0, .slice none 0 0, .slice none 0 0] 40)) := by
      have h := run_make (P := Tryd.prog) w3 72 40 iA _ Tryd.underlying72 hiA hzA .i64 .i64 2 2 (by decide) (by decide) (by rw [hbA]; decide) (by decide)
      rw [h, hsA]
      have hm : madeCells (Value.agg #[.int .u64 0, .slice none 0 0, .slice none 0 0]).cells 6 = #[.int .u64 0, .slice none 0 0, .slice none 0 0, .int .u64 0, .slice none 0 0, .slice none 0 0] := by kernel_rfl
      rw [show Int.toNat 2 * 3 = 6 from rfl, hm]
      rfl
    obtain ⟨w4, hw4⟩ : ∃ w4, w4 = w3.alloc (.cells #[.int .u64 0, .slice none 0 0, .slice none 0 0, .int .u64 0, .slice none 0 0, .slice none 0 0] 40) := ⟨_, rfl⟩
    have H0 : Hid (CellsAt w3 w4 xs1 xs2 0) := Lib.hid
      { hi := by omega
        below := by rw [hw4]; exact (Below.refl _ _).alloc (Nat.le_refl _) _
        more := by rw [hw4]; simp
        th := by
          intro j hj
          have hr : w4.heap[w3.heap.size]? = some (.cells #[.int .u64 0, .slice none 0 0, .slice none 0 0, .int .u64 0, .slice none 0 0, .slice none 0 0] 40 (0, 0)) := by rw [hw4]; exact heap_alloc_new w3 _
          refine ⟨?_, frozen_of_row _ _ _ _ _ hr⟩
          rw [cell_of_row w4 w3.heap.size (0 + j) _ _ _ hr, Nat.zero_add]
          rcases (show j = 0 ∨ j = 1 ∨ j = 2 ∨ j = 3 ∨ j = 4 ∨ j = 5 by omega) with rfl | rfl | rfl | rfl | rfl | rfl <;> rfl
        parts := fun k hk => by omega }
    have HMK := Lib.hid hmk
    have HW4 := Lib.hid hw4
    have HW3 : Hid (Below W.heap.size W w3) := HB3
    clear hmk hw4
    go_upto_region 8 with fail
    have hmk := HMK.out
    rw [← HW4.out] at hmk
    go_cut [13] from 15 (fun x13 wx => x13 = .slice (some ⟨w3.heap.size, 0, none⟩) 2 2 ∧ wx = w4)
    case first =>
      go_wp2_with fail
      go_meet
      exact ⟨rfl, rfl⟩
    obtain ⟨rfl, hwx⟩ := hcut
    rw [hwx]
    clear hwx hmk hk2 HMK
    go_wp2_with fail
    go_loopw [65] (fun iv wr => ∃ j : Nat, iv = .int .i64 (j : Int) ∧ j ≤ 2 ∧ Hid (CellsAt w3 wr xs1 xs2 j)) (fun iv _ => 2 - (intOf iv).toNat)
    case atStart => exact ⟨0, by go_num, by omega, H0⟩
    case round =>
      clear H0
      obtain ⟨j, rfl, hj, HT⟩ := hrel
      have HBW : Hid (Below W.heap.size W wr) := Lib.hid (HW3.out.trans (HT.out.below.mono HW3.out.size))
      by_cases hlt : j < 2
      · have HKW : Hid (∀ w1, Below wr.heap.size wr w1 → w1.cell? ⟨w.heap.size, 0, none⟩ = some (.int .u64 0) ∧ w1.cell? ⟨w.heap.size, 2, none⟩ = some (.slice (some ⟨g1, 0, none⟩) 4 c1)) := Lib.hid (fun w1 h => HK.out w1 (HBW.out.trans (h.mono HBW.out.size)))
        have CI := Lib.hid (fun (w1 : World) (h : Below wr.heap.size wr w1) => cloneInt1_any (some ⟨g0, 1, none⟩) 1 2 w1 (HL1.out w1 (HBW.out.trans (h.mono HBW.out.size))))
        have HBWW : Hid (Below w.heap.size w wr) := Lib.hid (hb0.trans (HBW.out.mono hb0.size))
        have HCC : Hid (4 ≤ c1) := Lib.hid hc1
        rcases (show j = 0 ∨ j = 1 by omega) with rfl | rfl
        · have CC := Lib.hid (fun (w1 : World) (h : Below wr.heap.size wr w1) (c : Nat) => cloneCells_any g1 0 c [z1, z2] xs1 w1 (Nat.lt_of_lt_of_le hg1 (Nat.le_trans HBWW.out.size h.size)) (rangeAt_belowS (HBWW.out.trans (h.mono HBWW.out.size)) hg1 hv) (hr1.below (HBWW.out.trans (h.mono HBWW.out.size))) (by show 2 ≤ 1000; decide) hq1 h11)
          go_upto_region 12 with fail
          refine wp_region_last (frameCl0 g0 g1 c1 w.heap.size w3.heap.size (.int .i64 ((0 : Nat) : Int)) (fun k => [undef, undef, undef, undef, undef, undef, undef, undef, undef, undef, undef, undef, undef, undef, undef, u15, u16, u17, u18, u19, u20, u21, u22, u23, u24, u25, u26, u27, u28, u29, u30, u31, u32, u33, u34, u35, u36, u37, u38, u39, u40, u41, u42, u43, u44, u45, u46, u47, u48, u49, u50, u51, u52, u53, u54, u55, u56, u57, u58, u59, u60, u61, u62, .slice (some ⟨w3.heap.size, 0, none⟩) 2 2, .int .i64 2, .int .i64 ((0 : Nat) : Int), .bool (decide (((0 : Nat) : Int) < 2)), .int .i64 ((0 : Nat) : Int), undef, undef, undef, undef, undef, undef, undef, undef, undef, undef, undef, undef, undef, undef, undef, undef, undef, undef, undef, u87, u88, u89, u90].getD k undef)) wr (predCl0 g0 g1 c1 w.heap.size w3.heap.size xs1) 19 (by kernel_rfl) (by rfl) ?_ (by kernel_rfl) (by kernel_rfl) (fun k => [u68, u69, u70, u71, u72, u73, u74, u75, u76, u77, u78, u79, u80, u81, u82, u83, u84, u85, u86].getD k undef) rfl (Below.refl _ _) ?_ ?_
          · intro i w1 w2 v hv hb
            match i with
            | 0 => exact hv
            | 1 => exact hv
            | 2 => exact hv
            | 3 => exact hv
            | 4 => exact hv
            | 5 => exact own_below_ hv hb
            | 6 => exact hv
            | 7 => exact hv
            | 8 => exact hv
            | 9 => exact hv
            | 10 => exact hv
            | 11 => exact hv
            | 12 => exact hv
            | 13 => exact hv
            | 14 => exact hv
            | 15 => exact hv
            | 16 => exact ownsQ_below hv hb
            | 17 => exact (by obtain ⟨a, b, e, k1, k2⟩ := hv; exact ⟨a, b, e, own_below_ k1 hb, ownsQ_below k2 hb⟩)
            | i + 18 => exact hv
          · intro i xs w1 hi hb hdep
            have hi6 : i < 19 := hi
            clear hi
            rcases (show i = 0 ∨ i = 1 ∨ i = 2 ∨ i = 3 ∨ i = 4 ∨ i = 5 ∨ i = 6 ∨ i = 7 ∨ i = 8 ∨ i = 9 ∨ i = 10 ∨ i = 11 ∨ i = 12 ∨ i = 13 ∨ i = 14 ∨ i = 15 ∨ i = 16 ∨ i = 17 ∨ i = 18 by omega) with rfl | rfl | rfl | rfl | rfl | rfl | rfl | rfl | rfl | rfl | rfl | rfl | rfl | rfl | rfl | rfl | rfl | rfl | rfl
            · refine wpOp_at rfl rfl ?_
              unfold frameCl0 Oper.wp
              go_simp
              exact ⟨_, by simp only [frameCl0, upd]; simp [Act.put], rfl, Below.refl _ _⟩
            · refine wpOp_at rfl rfl ?_
              unfold frameCl0 Oper.wp
              go_simp
              exact ⟨_, by simp only [frameCl0, upd]; simp [Act.put], rfl, Below.refl _ _⟩
            · refine wpOp_at rfl rfl ?_
              unfold frameCl0 Oper.wp
              go_simp
              exact ⟨_, by simp only [frameCl0, upd]; simp [Act.put], rfl, Below.refl _ _⟩
            · have h2 : xs 2 = .pointer (some ⟨w.heap.size, 0, none⟩) := hdep 2 (by kernel_rfl)
              refine wpOp_at rfl rfl ?_
              have hq := (HKW.out w1 hb).1
              unfold frameCl0 Oper.wp
              simp only [h2]
              go_simp
              exact ⟨_, by simp only [frameCl0, upd]; simp [Act.put, h2], rfl, Below.refl _ _⟩
            · refine wpOp_at rfl rfl ?_
              unfold frameCl0 Oper.wp
              go_simp
              exact ⟨_, by simp only [frameCl0, upd]; simp [Act.put], rfl, Below.refl _ _⟩
            · have h4 : xs 4 = .slice (some ⟨g0, 1, none⟩) 1 1 := hdep 4 (by kernel_rfl)
              refine wpOp_at rfl rfl ?_
              unfold frameCl0 Oper.wp
              simp only [h4]
              go_simp
              refine (CI.out w1 hb).mono ?_
              rintro e w2 ⟨v5, rfl, ho5, hb2⟩
              exact ⟨_, by simp only [frameCl0, upd]; simp [Act.put, h4], (World.ownsRow.mono_ ho5 (Nat.le_trans HT.out.more hb.size)), hb2⟩
            · refine wpOp_at rfl rfl ?_
              unfold frameCl0 Oper.wp
              go_simp
              exact ⟨_, by simp only [frameCl0, upd]; simp [Act.put], rfl, Below.refl _ _⟩
            · have h6 : xs 6 = .pointer (some ⟨w.heap.size, 2, none⟩) := hdep 6 (by kernel_rfl)
              refine wpOp_at rfl rfl ?_
              have hq := (HKW.out w1 hb).2
              unfold frameCl0 Oper.wp
              simp only [h6]
              go_simp
              exact ⟨_, by simp only [frameCl0, upd]; simp [Act.put, h6], rfl, Below.refl _ _⟩
            · refine wpOp_at rfl rfl ?_
              unfold frameCl0 Oper.wp
              go_simp
              exact ⟨_, by simp only [frameCl0, upd]; simp [Act.put], rfl, Below.refl _ _⟩
            · refine wpOp_at rfl rfl ?_
              unfold frameCl0 Oper.wp
              go_simp
              exact ⟨_, by simp only [frameCl0, upd]; simp [Act.put], rfl, Below.refl _ _⟩
            · have h8 : xs 8 = .int .i64 ((0 : Nat) : Int) := hdep 8 (by kernel_rfl)
              have h9 : xs 9 = .int .i64 2 := hdep 9 (by kernel_rfl)
              refine wpOp_at rfl rfl ?_
              unfold frameCl0 Oper.wp
              simp only [h8, h9]
              go_simp
              exact ⟨_, by simp only [frameCl0, upd]; simp [Act.put, h8, h9], rfl, Below.refl _ _⟩
            · refine wpOp_at rfl rfl ?_
              unfold frameCl0 Oper.wp
              go_simp
              exact ⟨_, by simp only [frameCl0, upd]; simp [Act.put], rfl, Below.refl _ _⟩
            · have h11 : xs 11 = .int .i64 ((0 : Nat) : Int) := hdep 11 (by kernel_rfl)
              refine wpOp_at rfl rfl ?_
              unfold frameCl0 Oper.wp
              simp only [h11]
              go_simp
              exact ⟨_, by simp only [frameCl0, upd]; simp [Act.put, h11], rfl, Below.refl _ _⟩
            · refine wpOp_at rfl rfl ?_
              unfold frameCl0 Oper.wp
              go_simp
              exact ⟨_, by simp only [frameCl0, upd]; simp [Act.put], rfl, Below.refl _ _⟩
            · have h12 : xs 12 = .int .i64 1 := hdep 12 (by kernel_rfl)
              have h13 : xs 13 = .int .i64 2 := hdep 13 (by kernel_rfl)
              refine wpOp_at rfl rfl ?_
              unfold frameCl0 Oper.wp
              simp only [h12, h13]
              go_simp
              exact ⟨_, by simp only [frameCl0, upd]; simp [Act.put, h12, h13], rfl, Below.refl _ _⟩
            · have h7 : xs 7 = .slice (some ⟨g1, 0, none⟩) 4 c1 := hdep 7 (by kernel_rfl)
              have h10 : xs 10 = .int .i64 0 := hdep 10 (by kernel_rfl)
              have h14 : xs 14 = .int .i64 2 := hdep 14 (by kernel_rfl)
              refine wpOp_at rfl rfl ?_
              have hcc : (4 : Int) ≤ (c1 : Int) := by have := HCC.out; omega
              have hcc2 : (2 : Int) ≤ (c1 : Int) := by omega
              have hcc3 : ¬ c1 = 2 := by omega
              unfold frameCl0 Oper.wp
              simp only [h7, h10, h14]
              go_simp
              exact ⟨_, by simp only [frameCl0, upd]; simp [Act.put, h7, h10, h14], rfl, Below.refl _ _⟩
            · have h15 : xs 15 = .slice (some ⟨g1, 0, none⟩) 2 (c1) := hdep 15 (by kernel_rfl)
              refine wpOp_at rfl rfl ?_
              unfold frameCl0 Oper.wp
              simp only [h15]
              go_simp
              refine (CC.out w1 hb _).mono ?_
              rintro e w2 ⟨v16, rfl, ho16, hb2⟩
              exact ⟨_, by simp only [frameCl0, upd]; simp [Act.put, h15], (World.ownsQ.mono ho16 (Nat.le_trans HT.out.more hb.size)), hb2⟩
            · have h3 : xs 3 = .int .u64 0 := hdep 3 (by kernel_rfl)
              have r5 : w1.ownsRow (w3.heap.size + 1) 3 1 (xs 5) 1 (I64 [2]) := hdep 5 (by kernel_rfl)
              have r16 : w1.ownsQ NoU (w3.heap.size + 1) 76 7 (xs 16) 2 xs1 := hdep 16 (by kernel_rfl)
              refine wpOp_at rfl rfl ?_
              obtain ⟨A5, c5, e5, _, _⟩ := own_slice r5
              obtain ⟨A16, c16, e16, _, _⟩ := own_slice r16.own
              unfold frameCl0 Oper.wp
              simp only [h3, e5, e16]
              go_simp
              exact ⟨_, by simp only [frameCl0, upd]; simp [Act.put, h3, e5, e16], ⟨.slice A5 1 c5, .slice A16 2 c16, rfl, by rw [← e5]; exact r5, by rw [← e16]; exact r16⟩, Below.refl _ _⟩
            · have h0 : xs 0 = .slice (some ⟨w3.heap.size, 0, none⟩) 2 2 := hdep 0 (by kernel_rfl)
              have h1 : xs 1 = .int .i64 ((0 : Nat) : Int) := hdep 1 (by kernel_rfl)
              refine wpOp_at rfl rfl ?_
              unfold frameCl0 Oper.wp
              simp only [h0, h1]
              go_simp
              exact ⟨_, by simp only [frameCl0, upd]; simp [Act.put, h0, h1], rfl, Below.refl _ _⟩
          · intro xs w1 hb hx
            obtain ⟨a, b, h17, k1, k2⟩ : ∃ a b, xs 17 = .agg #[.int .u64 0, a, b] ∧ w1.ownsRow (w3.heap.size + 1) 3 1 a 1 (I64 [2]) ∧ w1.ownsQ NoU (w3.heap.size + 1) 76 7 b 2 xs1 := hx 17 (by decide)
            have h18 : xs 18 = .pointer (some ⟨w3.heap.size, 0, none⟩) := hx 18 (by decide)
            obtain ⟨ht3, hn⟩ := cells_next (j := 0) HT.out hb (by omega) k1 k2
            have HN := Lib.hid hn
            obtain ⟨A5, c5, rfl, _, _⟩ := own_slice k1
            obtain ⟨A16, c16, rfl, _, _⟩ := own_slice k2.own
            refine wpOp_at rfl rfl ?_
            refine wp_store_mid 40 (.tmp 86) (.tmp 85) rfl w3.heap.size (0 * 3) #[.int .u64 0, .slice A5 1 c5, .slice A16 2 c16] h18 h17 ht3 (arr_infoR _ _ _) (arr_one3 _ _ _ _ _ _ _) ?_
            clear hx hn k1 k2 ht3
            unfold frameCl0
            go_wp2_with fail
            go_round
            case rel => exact ⟨1, by go_num, by omega, HN⟩
            case measure => simp [intOf]
        · have CC := Lib.hid (fun (w1 : World) (h : Below wr.heap.size wr w1) (c : Nat) => cloneCells_any g1 14 c [z3, z4] xs2 w1 (Nat.lt_of_lt_of_le hg1 (Nat.le_trans HBWW.out.size h.size)) (rangeAt_belowS (HBWW.out.trans (h.mono HBWW.out.size)) hg1 hv2) (hr2.below (HBWW.out.trans (h.mono HBWW.out.size))) (by show 2 ≤ 1000; decide) hq2 h12)
          go_upto_region 12 with fail
          refine wp_region_last (frameCl1 g0 g1 c1 w.heap.size w3.heap.size (.int .i64 ((1 : Nat) : Int)) (fun k => [undef, undef, undef, undef, undef, undef, undef, undef, undef, undef, undef, undef, undef, undef, undef, u15, u16, u17, u18, u19, u20, u21, u22, u23, u24, u25, u26, u27, u28, u29, u30, u31, u32, u33, u34, u35, u36, u37, u38, u39, u40, u41, u42, u43, u44, u45, u46, u47, u48, u49, u50, u51, u52, u53, u54, u55, u56, u57, u58, u59, u60, u61, u62, .slice (some ⟨w3.heap.size, 0, none⟩) 2 2, .int .i64 2, .int .i64 ((1 : Nat) : Int), .bool (decide (((1 : Nat) : Int) < 2)), .int .i64 ((1 : Nat) : Int), undef, undef, undef, undef, undef, undef, undef, undef, undef, undef, undef, undef, undef, undef, undef, undef, undef, undef, undef, u87, u88, u89, u90].getD k undef)) wr (predCl1 g0 g1 c1 w.heap.size w3.heap.size xs2) 19 (by kernel_rfl) (by rfl) ?_ (by kernel_rfl) (by kernel_rfl) (fun k => [u68, u69, u70, u71, u72, u73, u74, u75, u76, u77, u78, u79, u80, u81, u82, u83, u84, u85, u86].getD k undef) rfl (Below.refl _ _) ?_ ?_
          · intro i w1 w2 v hv hb
            match i with
            | 0 => exact hv
            | 1 => exact hv
            | 2 => exact hv
            | 3 => exact hv
            | 4 => exact hv
            | 5 => exact own_below_ hv hb
            | 6 => exact hv
            | 7 => exact hv
            | 8 => exact hv
            | 9 => exact hv
            | 10 => exact hv
            | 11 => exact hv
            | 12 => exact hv
            | 13 => exact hv
            | 14 => exact hv
            | 15 => exact hv
            | 16 => exact ownsQ_below hv hb
            | 17 => exact (by obtain ⟨a, b, e, k1, k2⟩ := hv; exact ⟨a, b, e, own_below_ k1 hb, ownsQ_below k2 hb⟩)
            | i + 18 => exact hv
          · intro i xs w1 hi hb hdep
            have hi6 : i < 19 := hi
            clear hi
            rcases (show i = 0 ∨ i = 1 ∨ i = 2 ∨ i = 3 ∨ i = 4 ∨ i = 5 ∨ i = 6 ∨ i = 7 ∨ i = 8 ∨ i = 9 ∨ i = 10 ∨ i = 11 ∨ i = 12 ∨ i = 13 ∨ i = 14 ∨ i = 15 ∨ i = 16 ∨ i = 17 ∨ i = 18 by omega) with rfl | rfl | rfl | rfl | rfl | rfl | rfl | rfl | rfl | rfl | rfl | rfl | rfl | rfl | rfl | rfl | rfl | rfl | rfl
            · refine wpOp_at rfl rfl ?_
              unfold frameCl1 Oper.wp
              go_simp
              exact ⟨_, by simp only [frameCl1, upd]; simp [Act.put], rfl, Below.refl _ _⟩
            · refine wpOp_at rfl rfl ?_
              unfold frameCl1 Oper.wp
              go_simp
              exact ⟨_, by simp only [frameCl1, upd]; simp [Act.put], rfl, Below.refl _ _⟩
            · refine wpOp_at rfl rfl ?_
              unfold frameCl1 Oper.wp
              go_simp
              exact ⟨_, by simp only [frameCl1, upd]; simp [Act.put], rfl, Below.refl _ _⟩
            · have h2 : xs 2 = .pointer (some ⟨w.heap.size, 0, none⟩) := hdep 2 (by kernel_rfl)
              refine wpOp_at rfl rfl ?_
              have hq := (HKW.out w1 hb).1
              unfold frameCl1 Oper.wp
              simp only [h2]
              go_simp
              exact ⟨_, by simp only [frameCl1, upd]; simp [Act.put, h2], rfl, Below.refl _ _⟩
            · refine wpOp_at rfl rfl ?_
              unfold frameCl1 Oper.wp
              go_simp
              exact ⟨_, by simp only [frameCl1, upd]; simp [Act.put], rfl, Below.refl _ _⟩
            · have h4 : xs 4 = .slice (some ⟨g0, 1, none⟩) 1 1 := hdep 4 (by kernel_rfl)
              refine wpOp_at rfl rfl ?_
              unfold frameCl1 Oper.wp
              simp only [h4]
              go_simp
              refine (CI.out w1 hb).mono ?_
              rintro e w2 ⟨v5, rfl, ho5, hb2⟩
              exact ⟨_, by simp only [frameCl1, upd]; simp [Act.put, h4], (World.ownsRow.mono_ ho5 (Nat.le_trans HT.out.more hb.size)), hb2⟩
            · refine wpOp_at rfl rfl ?_
              unfold frameCl1 Oper.wp
              go_simp
              exact ⟨_, by simp only [frameCl1, upd]; simp [Act.put], rfl, Below.refl _ _⟩
            · have h6 : xs 6 = .pointer (some ⟨w.heap.size, 2, none⟩) := hdep 6 (by kernel_rfl)
              refine wpOp_at rfl rfl ?_
              have hq := (HKW.out w1 hb).2
              unfold frameCl1 Oper.wp
              simp only [h6]
              go_simp
              exact ⟨_, by simp only [frameCl1, upd]; simp [Act.put, h6], rfl, Below.refl _ _⟩
            · refine wpOp_at rfl rfl ?_
              unfold frameCl1 Oper.wp
              go_simp
              exact ⟨_, by simp only [frameCl1, upd]; simp [Act.put], rfl, Below.refl _ _⟩
            · refine wpOp_at rfl rfl ?_
              unfold frameCl1 Oper.wp
              go_simp
              exact ⟨_, by simp only [frameCl1, upd]; simp [Act.put], rfl, Below.refl _ _⟩
            · have h8 : xs 8 = .int .i64 ((1 : Nat) : Int) := hdep 8 (by kernel_rfl)
              have h9 : xs 9 = .int .i64 2 := hdep 9 (by kernel_rfl)
              refine wpOp_at rfl rfl ?_
              unfold frameCl1 Oper.wp
              simp only [h8, h9]
              go_simp
              exact ⟨_, by simp only [frameCl1, upd]; simp [Act.put, h8, h9], rfl, Below.refl _ _⟩
            · refine wpOp_at rfl rfl ?_
              unfold frameCl1 Oper.wp
              go_simp
              exact ⟨_, by simp only [frameCl1, upd]; simp [Act.put], rfl, Below.refl _ _⟩
            · have h11 : xs 11 = .int .i64 ((1 : Nat) : Int) := hdep 11 (by kernel_rfl)
              refine wpOp_at rfl rfl ?_
              unfold frameCl1 Oper.wp
              simp only [h11]
              go_simp
              exact ⟨_, by simp only [frameCl1, upd]; simp [Act.put, h11], rfl, Below.refl _ _⟩
            · refine wpOp_at rfl rfl ?_
              unfold frameCl1 Oper.wp
              go_simp
              exact ⟨_, by simp only [frameCl1, upd]; simp [Act.put], rfl, Below.refl _ _⟩
            · have h12 : xs 12 = .int .i64 2 := hdep 12 (by kernel_rfl)
              have h13 : xs 13 = .int .i64 2 := hdep 13 (by kernel_rfl)
              refine wpOp_at rfl rfl ?_
              unfold frameCl1 Oper.wp
              simp only [h12, h13]
              go_simp
              exact ⟨_, by simp only [frameCl1, upd]; simp [Act.put, h12, h13], rfl, Below.refl _ _⟩
            · have h7 : xs 7 = .slice (some ⟨g1, 0, none⟩) 4 c1 := hdep 7 (by kernel_rfl)
              have h10 : xs 10 = .int .i64 2 := hdep 10 (by kernel_rfl)
              have h14 : xs 14 = .int .i64 4 := hdep 14 (by kernel_rfl)
              refine wpOp_at rfl rfl ?_
              have hcc : (4 : Int) ≤ (c1 : Int) := by have := HCC.out; omega
              have hcc2 : (2 : Int) ≤ (c1 : Int) := by omega
              have hcc3 : ¬ c1 = 2 := by omega
              unfold frameCl1 Oper.wp
              simp only [h7, h10, h14]
              go_simp
              exact ⟨_, by simp only [frameCl1, upd]; simp [Act.put, h7, h10, h14], rfl, Below.refl _ _⟩
            · have h15 : xs 15 = .slice (some ⟨g1, 14, none⟩) 2 (c1 - 2) := hdep 15 (by kernel_rfl)
              refine wpOp_at rfl rfl ?_
              unfold frameCl1 Oper.wp
              simp only [h15]
              go_simp
              refine (CC.out w1 hb _).mono ?_
              rintro e w2 ⟨v16, rfl, ho16, hb2⟩
              exact ⟨_, by simp only [frameCl1, upd]; simp [Act.put, h15], (World.ownsQ.mono ho16 (Nat.le_trans HT.out.more hb.size)), hb2⟩
            · have h3 : xs 3 = .int .u64 0 := hdep 3 (by kernel_rfl)
              have r5 : w1.ownsRow (w3.heap.size + 1) 3 1 (xs 5) 1 (I64 [2]) := hdep 5 (by kernel_rfl)
              have r16 : w1.ownsQ NoU (w3.heap.size + 1) 76 7 (xs 16) 2 xs2 := hdep 16 (by kernel_rfl)
              refine wpOp_at rfl rfl ?_
              obtain ⟨A5, c5, e5, _, _⟩ := own_slice r5
              obtain ⟨A16, c16, e16, _, _⟩ := own_slice r16.own
              unfold frameCl1 Oper.wp
              simp only [h3, e5, e16]
              go_simp
              exact ⟨_, by simp only [frameCl1, upd]; simp [Act.put, h3, e5, e16], ⟨.slice A5 1 c5, .slice A16 2 c16, rfl, by rw [← e5]; exact r5, by rw [← e16]; exact r16⟩, Below.refl _ _⟩
            · have h0 : xs 0 = .slice (some ⟨w3.heap.size, 0, none⟩) 2 2 := hdep 0 (by kernel_rfl)
              have h1 : xs 1 = .int .i64 ((1 : Nat) : Int) := hdep 1 (by kernel_rfl)
              refine wpOp_at rfl rfl ?_
              unfold frameCl1 Oper.wp
              simp only [h0, h1]
              go_simp
              exact ⟨_, by simp only [frameCl1, upd]; simp [Act.put, h0, h1], rfl, Below.refl _ _⟩
          · intro xs w1 hb hx
            obtain ⟨a, b, h17, k1, k2⟩ : ∃ a b, xs 17 = .agg #[.int .u64 0, a, b] ∧ w1.ownsRow (w3.heap.size + 1) 3 1 a 1 (I64 [2]) ∧ w1.ownsQ NoU (w3.heap.size + 1) 76 7 b 2 xs2 := hx 17 (by decide)
            have h18 : xs 18 = .pointer (some ⟨w3.heap.size, 3, none⟩) := hx 18 (by decide)
            obtain ⟨ht3, hn⟩ := cells_next (j := 1) HT.out hb (by omega) k1 k2
            have HN := Lib.hid hn
            obtain ⟨A5, c5, rfl, _, _⟩ := own_slice k1
            obtain ⟨A16, c16, rfl, _, _⟩ := own_slice k2.own
            refine wpOp_at rfl rfl ?_
            refine wp_store_mid 40 (.tmp 86) (.tmp 85) rfl w3.heap.size (1 * 3) #[.int .u64 0, .slice A5 1 c5, .slice A16 2 c16] h18 h17 ht3 (arr_infoR _ _ _) (arr_one3 _ _ _ _ _ _ _) ?_
            clear hx hn k1 k2 ht3
            unfold frameCl1
            go_wp2_with fail
            go_round
            case rel => exact ⟨2, by go_num, by omega, HN⟩
            case measure => simp [intOf]
      · obtain rfl : j = 2 := by omega
        have CL := Lib.hid (cloneInt1_any (some ⟨g0, 0, none⟩) 2 2 wr (HL0.out wr HBW.out))
        go_wp2_with fail
        refine CL.out.mono ?_
        rintro e w9 ⟨v9, rfl, ho9, hb9⟩
        have HB9 := Lib.hid hb9
        clear ho9 hb9
        go_wp2_with fail
        go_ret2
        obtain ⟨a1, b1, r1, r2, r3⟩ := HT.out.parts 0 (by omega)
        obtain ⟨a2, b2, s1, s2, s3⟩ := HT.out.parts 1 (by omega)
        have hlg : w3.heap.size < wr.heap.size := HT.out.more
        exact ⟨_, a1, b1, a2, b2, _, rfl, rangeAt_belowS HB9.out hlg r1, rangeAt_belowS HB9.out hlg s1, (own_below_ r2 HB9.out).mono_ (Nat.zero_le _), (own_below_ s2 HB9.out).mono_ (Nat.zero_le _), (ownsQ_below r3 HB9.out).mono (Nat.zero_le _), (ownsQ_below s3 HB9.out).mono (Nat.zero_le _), Nat.lt_of_lt_of_le hlg HB9.out.size, (hb0.trans (HBW.out.mono hb0.size)).trans (HB9.out.mono (Nat.le_trans hb0.size HBW.out.size))⟩
end Go.Proofs.YtfiefglagknclaaDoor

/-
  show.Text of a two by two array; scrimlaw28.awake.
-/
namespace Go.Proofs.YtfiefglagknclaaDoor
open Go.RowKit
set_option maxHeartbeats 4000000
set_option maxRecDepth 100000
set_option linter.unusedVariables false

theorem cellVals_one {w : World} {neg : Bool} {n1 n2 : Value} {d1 d2 : List Nat} (h1 : IsRes w n1 d1) (h2 : IsRes w n2 d2) : ∀ u ∈ cellVals neg n1 n2, u.oneCell' = true := by
  obtain ⟨A1, c1, rfl, _⟩ := h1
  obtain ⟨A2, c2, rfl, _⟩ := h2
  intro u hu
  unfold cellVals at hu
  simp only [List.mem_cons, List.not_mem_nil, or_false] at hu
  rcases hu with rfl | rfl | rfl | rfl | rfl | rfl | rfl <;> rfl
theorem own_some_s {w : World} {base : Nat} {e : TypeId} {size n : Nat} {v : Value} {xs : List Value} (h : w.ownsRow base e size v n xs) (hn : 0 < n) : ∃ g cap, v = .slice (some ⟨g, 0, none⟩) n cap ∧ n ≤ cap ∧ g < w.heap.size := by
  rcases h.2 with ⟨_, h0⟩ | ⟨g, cap, cur, hv, _, hh, hc, _⟩
  · omega
  · exact ⟨g, cap, hv, hc, (Array.getElem?_eq_some_iff.1 hh).1⟩
theorem cells_split {w : World} {v : Value} {z1 z2 z3 z4 : Int} (h : IsCells w 0 v [z1, z2, z3, z4]) : ∃ g1 c1 xs1 xs2, v = .slice (some ⟨g1, 0, none⟩) 4 c1 ∧ 4 ≤ c1 ∧ g1 < w.heap.size ∧ w.rangeAt g1 0 xs1 ∧ w.rangeAt g1 14 xs2 ∧ CellRows w [z1, z2] xs1 ∧ CellRows w [z3, z4] xs2 ∧ (∀ u ∈ xs1, NoU u) ∧ (∀ u ∈ xs2, NoU u) ∧ (∀ u ∈ xs1, u.oneCell' = true) ∧ (∀ u ∈ xs2, u.oneCell' = true) := by
  obtain ⟨xs, ho, hr⟩ := h
  obtain ⟨g, cap, hv, hc, hg⟩ := own_some_s ho.own (Nat.succ_pos _)
  obtain ⟨n1, m1, r1, e1, a1, b1, hr1⟩ := hr
  obtain ⟨n2, m2, r2, e2, a2, b2, hr2⟩ := hr1
  obtain ⟨n3, m3, r3, e3, a3, b3, hr3⟩ := hr2
  obtain ⟨n4, m4, r4, e4, a4, b4, hr4⟩ := hr3
  have hr4 : r4 = [] := hr4
  subst hr4 e4 e3 e2 e1
  have hcell := ho.own.cells (g := g) (by rw [hv]; rfl)
  have hxs : cellVals (numZ z1).neg n1 m1 ++ (cellVals (numZ z2).neg n2 m2 ++ (cellVals (numZ z3).neg n3 m3 ++ (cellVals (numZ z4).neg n4 m4 ++ []))) = (cellVals (numZ z1).neg n1 m1 ++ cellVals (numZ z2).neg n2 m2) ++ (cellVals (numZ z3).neg n3 m3 ++ cellVals (numZ z4).neg n4 m4) := by simp only [List.append_nil, List.append_assoc]
  have hone : ∀ u ∈ (cellVals (numZ z1).neg n1 m1 ++ cellVals (numZ z2).neg n2 m2), u.oneCell' = true := by
    intro u hu
    rcases List.mem_append.1 hu with hu | hu
    · exact cellVals_one a1 b1 u hu
    · exact cellVals_one a2 b2 u hu
  have hone2 : ∀ u ∈ (cellVals (numZ z3).neg n3 m3 ++ cellVals (numZ z4).neg n4 m4), u.oneCell' = true := by
    intro u hu
    rcases List.mem_append.1 hu with hu | hu
    · exact cellVals_one a3 b3 u hu
    · exact cellVals_one a4 b4 u hu
  have hno : ∀ u ∈ (cellVals (numZ z1).neg n1 m1 ++ cellVals (numZ z2).neg n2 m2), NoU u := by
    intro u hu
    rcases List.mem_append.1 hu with hu | hu
    · exact cellVals_noU _ a1.noU b1.noU u hu
    · exact cellVals_noU _ a2.noU b2.noU u hu
  have hno2 : ∀ u ∈ (cellVals (numZ z3).neg n3 m3 ++ cellVals (numZ z4).neg n4 m4), NoU u := by
    intro u hu
    rcases List.mem_append.1 hu with hu | hu
    · exact cellVals_noU _ a3.noU b3.noU u hu
    · exact cellVals_noU _ a4.noU b4.noU u hu
  refine ⟨g, cap, cellVals (numZ z1).neg n1 m1 ++ cellVals (numZ z2).neg n2 m2, cellVals (numZ z3).neg n3 m3 ++ cellVals (numZ z4).neg n4 m4, hv, hc, hg, ?_, ?_, ⟨n1, m1, cellVals (numZ z2).neg n2 m2, rfl, a1, b1, ⟨n2, m2, [], (List.append_nil _).symm, a2, b2, rfl⟩⟩, ⟨n3, m3, cellVals (numZ z4).neg n4 m4, rfl, a3, b3, ⟨n4, m4, [], (List.append_nil _).symm, a4, b4, rfl⟩⟩, hno, hno2, hone, hone2⟩
  · intro j u hu
    have := hcell j u (by
      rw [hxs, List.getElem?_append_left (List.getElem?_eq_some_iff.1 hu).1]
      exact hu)
    rwa [Addr.add_mid] at this
  · intro j u hu
    have := hcell (14 + j) u (by
      rw [hxs, List.getElem?_append_right (by show 14 ≤ 14 + j; omega)]
      rw [show 14 + j - (cellVals (numZ z1).neg n1 m1 ++ cellVals (numZ z2).neg n2 m2).length = j by show 14 + j - 14 = j; omega]
      exact hu)
    rw [Addr.add_mid, Nat.zero_add] at this
    exact this
theorem str_info : (Tryd.prog.info? 9).map (fun i => (i.zero, i.size, i.bytes)) = some (some (.string ⟨#[]⟩), 1, 16) := by kernel_rfl
end Go.Proofs.YtfiefglagknclaaDoor

/-
  show.Text of a two by two array of numbers. (Printed by wip/bin/gen_show10.py of wip/tpl/show10.main.)
-/
namespace Go.Proofs.YtfiefglagknclaaDoor
open Go.RowKit
set_option maxHeartbeats 4000000
set_option maxRecDepth 100000
set_option linter.unusedVariables false

theorem arr_infoL (x0 x1 x2 : Value) : (Tryd.prog.info? 40).map (·.size) = some [x0, x1, x2].length := arr_info
/-- How far the rows' texts have come. -/
structure TextsAt (w5 wr : World) (T1 T2 : ByteArray) (j : Nat) : Prop where
  below : Below w5.heap.size w5 wr
  more : w5.heap.size < wr.heap.size
  row : wr.heap[w5.heap.size]? = some (.cells #[.string (if 0 < j then T1 else ⟨#[]⟩), .string (if 1 < j then T2 else ⟨#[]⟩)] 9 (0, 0))
theorem showText22_any (g0 g1 c1 : Nat) (xs1 xs2 : List Value) (z1 z2 z3 z4 : Int) (w : World) (hs : w.heap[g0]? = some (.cells #[.int .i64 2, .int .i64 2] 3 (0, 0)))
    (hv : w.rangeAt g1 0 xs1) (hv2 : w.rangeAt g1 14 xs2) (hg1 : g1 < w.heap.size) (hc1 : 4 ≤ c1) (hr1 : CellRows w [z1, z2] xs1) (hr2 : CellRows w [z3, z4] xs2) (hq1 : ∀ u ∈ xs1, NoU u) (hq2 : ∀ u ∈ xs2, NoU u) (h11 : ∀ u ∈ xs1, u.oneCell' = true) (h12 : ∀ u ∈ xs2, u.oneCell' = true)
    (hz : ∀ z ∈ [z1, z2, z3, z4], -9223372036854775808 ≤ z ∧ z ≤ 9223372036854775807) (hP : Pow10 w) :
    Calls Tryd.prog 18 #[.agg #[.int .u64 0, .slice (some ⟨g0, 0, none⟩) 2 2, .slice (some ⟨g1, 0, none⟩) 4 c1]] w (StrOut w (Lib.join [rowTxt [z1, z2] 2, rowTxt [z3, z4] 2] [10])) := by
  obtain ⟨W, hW⟩ : ∃ W, W = w.alloc (.cells #[.int .u64 0, .slice (some ⟨g0, 0, none⟩) 2 2, .slice (some ⟨g1, 0, none⟩) 4 c1] 40) := ⟨_, rfl⟩
  have hb0 : Below w.heap.size w W := by rw [hW]; exact (Below.refl _ _).alloc (Nat.le_refl _) _
  have HG : Hid (W.heap[w.heap.size]? = some (.cells #[.int .u64 0, .slice (some ⟨g0, 0, none⟩) 2 2, .slice (some ⟨g1, 0, none⟩) 4 c1] 40 (0, 0))) := Lib.hid (by rw [hW]; exact heap_alloc_new w _)
  have hk1 : W.cell? ⟨w.heap.size, 1, none⟩ = some (.slice (some ⟨g0, 0, none⟩) 2 2) := (cell_of_row W w.heap.size 1 _ _ _ HG.out).trans rfl
  have hlg0 : g0 < w.heap.size := (Array.getElem?_eq_some_iff.1 hs).1
  have OC := Lib.hid (operCells22_any g0 0 g1 c1 xs1 xs2 z1 z2 z3 z4 W ((hb0.block g0 hlg0).trans hs) (rangeAt_belowS hb0 hg1 hv) (rangeAt_belowS hb0 hg1 hv2) (Nat.lt_of_lt_of_le hg1 hb0.size) hc1 (hr1.below hb0) (hr2.below hb0) hq1 hq2 h11 h12)
  have HX1 := Lib.hid hr1
  have HX2 := Lib.hid hr2
  have HP := Lib.hid hP
  have HZ1 : Hid (∀ z ∈ [z1, z2], -9223372036854775808 ≤ z ∧ z ≤ 9223372036854775807) := Lib.hid (fun z h => hz z (by simp only [List.mem_cons, List.not_mem_nil, or_false] at h ⊢; rcases h with h | h <;> simp [h]))
  have HZ2 : Hid (∀ z ∈ [z3, z4], -9223372036854775808 ≤ z ∧ z ≤ 9223372036854775807) := Lib.hid (fun z h => hz z (by simp only [List.mem_cons, List.not_mem_nil, or_false] at h ⊢; rcases h with h | h <;> simp [h]))
  obtain ⟨T1, hT1⟩ : ∃ T1 : ByteArray, T1 = ⟨(rowTxt [z1, z2] 2).toArray⟩ := ⟨_, rfl⟩
  obtain ⟨T2, hT2⟩ : ∃ T2 : ByteArray, T2 = ⟨(rowTxt [z3, z4] 2).toArray⟩ := ⟨_, rfl⟩
  have HT1 := Lib.hid hT1
  have HT2 := Lib.hid hT2
  obtain ⟨i0, hi0, hz0, hzs, hzb⟩ := info_parts str_info
  have HW := Lib.hid hW
  clear hW hs hv hv2 hg1 hc1 hr1 hr2 hq1 hq2 h11 h12 hz hP hlg0 hT1 hT2
  go_enter Tryd.func18, Tryd.ntmps18
  go_upto_region 1 with fail
  rw [← HW.out]
  go_wp2_with (with_reducible refine wpList_load_row rfl 40 (.tmp 1) rfl w.heap.size rfl 40 #[.int .u64 0, .slice (some ⟨g0, 0, none⟩) 2 2, .slice (some ⟨g1, 0, none⟩) 4 c1] (0, 0) _ HG.out Tryd.underlying40 rfl (arr_infoR _ _ _) ?_)
  refine OC.out.mono ?_
  rintro e w4 ⟨g, a1, b1, a2, b2, fr, rfl, r1, r2, o1, o2, q1, q2, hg, hb4⟩
  have HB4 : Hid (Below w.heap.size w w4) := Lib.hid (hb0.trans (hb4.mono hb0.size))
  have R1 := Lib.hid r1
  have R2 := Lib.hid r2
  have O1 := Lib.hid o1
  have O2 := Lib.hid o2
  have Q1 := Lib.hid q1
  have Q2 := Lib.hid q2
  have HGL := Lib.hid hg
  obtain ⟨A1, d1, rfl, _, _⟩ := own_slice o1
  obtain ⟨A2, d2, rfl, _, _⟩ := own_slice o2
  obtain ⟨B1, e1, rfl, _, _⟩ := own_slice q1.own
  obtain ⟨B2, e2, rfl, _, _⟩ := own_slice q2.own
  obtain ⟨w5, hw5⟩ : ∃ w5, w5 = w4.alloc (.cells #[.string ⟨#[]⟩, .string ⟨#[]⟩] 9) := ⟨_, rfl⟩
  have hmk : (Instr.makeSlice 80 (.int .i64 2) (.int .i64 2)).run Tryd.prog w4 = .ok (.slice (some ⟨w4.heap.size, 0, none⟩) 2 2) w5 := by
    have h := run_make (P := Tryd.prog) w4 80 9 i0 _ Tryd.underlying80 hi0 hz0 .i64 .i64 2 2 (by decide) (by decide) (by rw [hzb]; decide) (by decide)
    rw [h, hzs, hw5]
    have hm : madeCells (Value.string ⟨#[]⟩).cells 2 = #[.string ⟨#[]⟩, .string ⟨#[]⟩] := by kernel_rfl
    rw [show Int.toNat 2 * 1 = 2 from rfl, hm]
    rfl
  have H0 : Hid (TextsAt w4 w5 T1 T2 0) := Lib.hid ⟨by rw [hw5]; exact (Below.refl _ _).alloc (Nat.le_refl _) _, by rw [hw5]; simp, by rw [hw5]; exact heap_alloc_new w4 _⟩
  clear r1 r2 o1 o2 q1 q2 hb4 hw5 OC
  go_upto_region 6 with fail
  clear hmk hk1
  go_wp2_with fail
  go_loopw [29] (fun iv wr => ∃ j : Nat, iv = .int .i64 (j : Int) ∧ j ≤ 2 ∧ Hid (TextsAt w4 wr T1 T2 j)) (fun iv _ => 2 - (intOf iv).toNat)
  case atStart => exact ⟨0, by go_num, by omega, H0⟩
  case round =>
    clear H0
    obtain ⟨j, rfl, hj, HT⟩ := hrel
    have HB := Lib.hid HT.out.below
    rcases (show j = 0 ∨ j = 1 ∨ j = 2 by omega) with rfl | rfl | rfl
    · have HR := Lib.hid (rangeAt_belowS HB.out HGL.out R1.out)
      obtain ⟨W7, hW7⟩ : ∃ W7, W7 = (wr.alloc (.cells #[.int .u64 0, .slice none 0 0, .slice none 0 0] 40)).setRow wr.heap.size #[.int .u64 0, .slice A1 1 d1, .slice B1 2 e1] := ⟨_, rfl⟩
      have HG6 : Hid ((wr.alloc (.cells #[.int .u64 0, .slice none 0 0, .slice none 0 0] 40)).heap[wr.heap.size]? = some (.cells #[.int .u64 0, .slice none 0 0, .slice none 0 0] 40 (0, 0))) := Lib.hid (heap_alloc_new wr _)
      have HB7 : Hid (Below wr.heap.size wr W7) := Lib.hid (by rw [hW7]; exact rBelow.setRow ((Below.refl _ _).alloc (Nat.le_refl _) _) (Nat.le_refl _) _)
      have HG7 : Hid (W7.heap[wr.heap.size]? = some (.cells #[.int .u64 0, .slice A1 1 d1, .slice B1 2 e1] 40 (0, 0))) := Lib.hid (by rw [hW7]; exact rheap_same HG6.out)
      have HW7 := Lib.hid hW7
      have HB47 : Hid (Below w4.heap.size w4 W7) := Lib.hid (HB.out.trans (HB7.out.mono HB.out.size))
      have HBW7 : Hid (Below w.heap.size w W7) := Lib.hid (HB4.out.trans (HB47.out.mono HB4.out.size))
      have TX := Lib.hid (showText1_any 0 _ _ [2] [z1, z2] 0 W7 (own_below_ O1.out HB47.out) ⟨_, ownsQ_below Q1.out HB47.out, HX1.out.below HBW7.out⟩ (Nat.le_refl _) (by show 2 ≤ 1000; decide) HZ1.out (HP.out.below HBW7.out))
      have hk2 : W7.cell? ⟨wr.heap.size, 2, none⟩ = some (.slice B1 2 e1) := (cell_of_row W7 wr.heap.size 2 _ _ _ HG7.out).trans rfl
      clear hW7
      go_upto_region 9 with (first | (with_reducible refine wpList_load_mid rfl 40 (.tmp 32) rfl g 0 rfl [.int .u64 0, .slice A1 1 d1, .slice B1 2 e1] _ HR.out Tryd.underlying40 rfl (arr_infoL _ _ _) ?_) | (with_reducible refine wpList_store_row rfl 40 (.tmp 8) (.tmp 33) rfl wr.heap.size #[.int .u64 0, .slice A1 1 d1, .slice B1 2 e1] rfl rfl 40 #[.int .u64 0, .slice none 0 0, .slice none 0 0] HG6.out (arr_infoR _ _ _) rfl (arr_one3 _ _ _ _ _ _ _) ?_))
      rw [← HW7.out]
      dsimp only [Act.put]
      go_upto_region 11 with fail
      clear hk2
      go_wp2_with (with_reducible refine wpList_load_row rfl 40 (.tmp 8) rfl wr.heap.size rfl 40 #[.int .u64 0, .slice A1 1 d1, .slice B1 2 e1] (0, 0) _ HG7.out Tryd.underlying40 rfl (arr_infoR _ _ _) ?_)
      refine TX.out.mono ?_
      rintro e w8 ⟨rfl, hb8⟩
      have HROW : Hid (w8.heap[w4.heap.size]? = some (.cells #[.string (if 0 < 0 then T1 else ⟨#[]⟩), .string (if 1 < 0 then T2 else ⟨#[]⟩)] 9 (0, 0))) := Lib.hid ((hb8.block w4.heap.size (Nat.lt_of_lt_of_le HT.out.more HB7.out.size)).trans ((HB7.out.block w4.heap.size HT.out.more).trans HT.out.row))
      have HB8 : Hid (Below w4.heap.size w4 w8) := Lib.hid (HB47.out.trans (hb8.mono HB47.out.size))
      have HL8 : Hid (w4.heap.size < w8.heap.size) := Lib.hid (Nat.lt_of_lt_of_le (Nat.lt_of_lt_of_le HT.out.more HB7.out.size) hb8.size)
      have hc8 : w8.cell? ⟨w4.heap.size, 0, none⟩ = some (.string ⟨#[]⟩) := (cell_of_row w8 w4.heap.size 0 _ _ _ HROW.out).trans rfl
      have hf8 : w8.frozen? ⟨w4.heap.size, 0, none⟩ = false := frozen_of_row _ _ _ _ _ HROW.out
      have HN : Hid (TextsAt w4 (w8.setCell ⟨w4.heap.size, 0, none⟩ (.string ⟨(rowTxt [z1, z2] 2).toArray⟩)) T1 T2 1) := Lib.hid ⟨HB8.out.setCell (Nat.le_refl _) _, by simp only [World.setCell, Array.size_modify]; exact HL8.out, by
        rw [heap_setCell_same w8 w4.heap.size 0 _ _ _ HROW.out, ← HT1.out]
        rfl⟩
      clear hb8
      go_wp2_with fail
      go_round
      case rel => exact ⟨1, by go_num, by omega, HN⟩
      case measure => simp [intOf]
    · have HR := Lib.hid (rangeAt_belowS HB.out HGL.out R2.out)
      obtain ⟨W7, hW7⟩ : ∃ W7, W7 = (wr.alloc (.cells #[.int .u64 0, .slice none 0 0, .slice none 0 0] 40)).setRow wr.heap.size #[.int .u64 0, .slice A2 1 d2, .slice B2 2 e2] := ⟨_, rfl⟩
      have HG6 : Hid ((wr.alloc (.cells #[.int .u64 0, .slice none 0 0, .slice none 0 0] 40)).heap[wr.heap.size]? = some (.cells #[.int .u64 0, .slice none 0 0, .slice none 0 0] 40 (0, 0))) := Lib.hid (heap_alloc_new wr _)
      have HB7 : Hid (Below wr.heap.size wr W7) := Lib.hid (by rw [hW7]; exact rBelow.setRow ((Below.refl _ _).alloc (Nat.le_refl _) _) (Nat.le_refl _) _)
      have HG7 : Hid (W7.heap[wr.heap.size]? = some (.cells #[.int .u64 0, .slice A2 1 d2, .slice B2 2 e2] 40 (0, 0))) := Lib.hid (by rw [hW7]; exact rheap_same HG6.out)
      have HW7 := Lib.hid hW7
      have HB47 : Hid (Below w4.heap.size w4 W7) := Lib.hid (HB.out.trans (HB7.out.mono HB.out.size))
      have HBW7 : Hid (Below w.heap.size w W7) := Lib.hid (HB4.out.trans (HB47.out.mono HB4.out.size))
      have TX := Lib.hid (showText1_any 0 _ _ [2] [z3, z4] 0 W7 (own_below_ O2.out HB47.out) ⟨_, ownsQ_below Q2.out HB47.out, HX2.out.below HBW7.out⟩ (Nat.le_refl _) (by show 2 ≤ 1000; decide) HZ2.out (HP.out.below HBW7.out))
      have hk2 : W7.cell? ⟨wr.heap.size, 2, none⟩ = some (.slice B2 2 e2) := (cell_of_row W7 wr.heap.size 2 _ _ _ HG7.out).trans rfl
      clear hW7
      go_upto_region 9 with (first | (with_reducible refine wpList_load_mid rfl 40 (.tmp 32) rfl g 3 rfl [.int .u64 0, .slice A2 1 d2, .slice B2 2 e2] _ HR.out Tryd.underlying40 rfl (arr_infoL _ _ _) ?_) | (with_reducible refine wpList_store_row rfl 40 (.tmp 8) (.tmp 33) rfl wr.heap.size #[.int .u64 0, .slice A2 1 d2, .slice B2 2 e2] rfl rfl 40 #[.int .u64 0, .slice none 0 0, .slice none 0 0] HG6.out (arr_infoR _ _ _) rfl (arr_one3 _ _ _ _ _ _ _) ?_))
      rw [← HW7.out]
      dsimp only [Act.put]
      go_upto_region 11 with fail
      clear hk2
      go_wp2_with (with_reducible refine wpList_load_row rfl 40 (.tmp 8) rfl wr.heap.size rfl 40 #[.int .u64 0, .slice A2 1 d2, .slice B2 2 e2] (0, 0) _ HG7.out Tryd.underlying40 rfl (arr_infoR _ _ _) ?_)
      refine TX.out.mono ?_
      rintro e w8 ⟨rfl, hb8⟩
      have HROW : Hid (w8.heap[w4.heap.size]? = some (.cells #[.string (if 0 < 1 then T1 else ⟨#[]⟩), .string (if 1 < 1 then T2 else ⟨#[]⟩)] 9 (0, 0))) := Lib.hid ((hb8.block w4.heap.size (Nat.lt_of_lt_of_le HT.out.more HB7.out.size)).trans ((HB7.out.block w4.heap.size HT.out.more).trans HT.out.row))
      have HB8 : Hid (Below w4.heap.size w4 w8) := Lib.hid (HB47.out.trans (hb8.mono HB47.out.size))
      have HL8 : Hid (w4.heap.size < w8.heap.size) := Lib.hid (Nat.lt_of_lt_of_le (Nat.lt_of_lt_of_le HT.out.more HB7.out.size) hb8.size)
      have hc8 : w8.cell? ⟨w4.heap.size, 1, none⟩ = some (.string ⟨#[]⟩) := (cell_of_row w8 w4.heap.size 1 _ _ _ HROW.out).trans rfl
      have hf8 : w8.frozen? ⟨w4.heap.size, 1, none⟩ = false := frozen_of_row _ _ _ _ _ HROW.out
      have HN : Hid (TextsAt w4 (w8.setCell ⟨w4.heap.size, 1, none⟩ (.string ⟨(rowTxt [z3, z4] 2).toArray⟩)) T1 T2 2) := Lib.hid ⟨HB8.out.setCell (Nat.le_refl _) _, by simp only [World.setCell, Array.size_modify]; exact HL8.out, by
        rw [heap_setCell_same w8 w4.heap.size 1 _ _ _ HROW.out, ← HT2.out]
        rfl⟩
      clear hb8
      go_wp2_with fail
      go_round
      case rel => exact ⟨2, by go_num, by omega, HN⟩
      case measure => simp [intOf]
    · have hrow : wr.heap[w4.heap.size]? = some (.cells #[.string T1, .string T2] 9 (0, 0)) := HT.out.row
      have RP := Lib.hid (Tryd.strings_Repeat_one ⟨#[10]⟩ wr)
      have JN := Lib.hid (Tryd.strings_Join w4.heap.size 0 2 [T1, T2] ⟨#[10]⟩ wr (fun j x hx => by
        rw [cell_of_row wr w4.heap.size (0 + j) _ _ _ hrow]
        match j with
        | 0 => injection hx with hx; subst hx; rfl
        | 1 => injection hx with hx; subst hx; rfl
        | j + 2 => cases hx) HT.out.more (by show 2 ≤ 140737488355328; decide) (Nat.le_refl _) (by
          have l1 := rowTxt_len [z1, z2] HZ1.out 2 (Nat.le_refl _)
          have l2 := rowTxt_len [z3, z4] HZ2.out 2 (Nat.le_refl _)
          rw [HT1.out, HT2.out]
          show (Lib.join [rowTxt [z1, z2] 2, rowTxt [z3, z4] 2] [10]).length ≤ _
          unfold Lib.join
          simp only [List.intercalate, List.intersperse, List.flatten_cons, List.flatten_nil, List.length_append, List.length_cons, List.length_nil]
          omega))
      have HJS : Hid ((Lib.join ([T1, T2].map (·.data.toList)) [10]) = Lib.join [rowTxt [z1, z2] 2, rowTxt [z3, z4] 2] [10]) := Lib.hid (by rw [HT1.out, HT2.out]; rfl)
      clear hrow
      go_wp2_with fail
      refine RP.out.mono ?_
      rintro e w' ⟨rfl, rfl⟩
      go_wp2_with fail
      refine JN.out.mono ?_
      rintro e w9 ⟨rfl, hb9⟩
      have HB9 := Lib.hid hb9
      clear hb9
      go_wp2_with fail
      go_ret
      refine ⟨congrArg (fun l : List UInt8 => Ending.returned (.string ⟨l.toArray⟩)) HJS.out, ?_⟩
      have b := HB4.out.trans (HB.out.mono HB4.out.size)
      exact b.trans (HB9.out.mono b.size)
end Go.Proofs.YtfiefglagknclaaDoor

/-
  scrimlaw28.awake, ShowLists: a list of numbers is told as its numbers.
-/
namespace Go.Proofs.YtfiefglagknclaaDoor
open Go.RowKit
set_option maxHeartbeats 4000000
set_option maxRecDepth 100000
set_option linter.unusedVariables false

theorem dec_d (n : Nat) (h : n < 10) : Lib.decDigits n = [UInt8.ofNat (48 + n)] := by
  rw [Ten.dec_small h]
  rfl
theorem print_d (n : Nat) (h : n < 10) : Dg.print (numZ (n : Int)) = [UInt8.ofNat (48 + n)] := by
  unfold Dg.print numZ
  rw [decide_eq_false (show ¬ (n : Int) < 0 by omega)]
  simp only [Nt.val_digs]
  rw [show ((n : Int)).natAbs = n by omega, dec_d n h]
  rfl
theorem row12 : rowTxt [1, 2] 2 = [49, 32, 50] := by
  have h1 : Dg.print (numZ 1) = [49] := print_d 1 (by decide)
  have h2 : Dg.print (numZ 2) = [50] := print_d 2 (by decide)
  show ([] ++ ([] ++ Dg.print (numZ 1))) ++ ([32] ++ Dg.print (numZ 2)) = _
  rw [h1, h2]; rfl
theorem row34 : rowTxt [3, 4] 2 = [51, 32, 52] := by
  have h1 : Dg.print (numZ 3) = [51] := print_d 3 (by decide)
  have h2 : Dg.print (numZ 4) = [52] := print_d 4 (by decide)
  show ([] ++ ([] ++ Dg.print (numZ 3))) ++ ([32] ++ Dg.print (numZ 4)) = _
  rw [h1, h2]; rfl
theorem small14 : ∀ z ∈ [(1 : Int), 2, 3, 4], -9223372036854775808 ≤ z ∧ z ≤ 9223372036854775807 := by decide
theorem awake28_any (w : World) (hP : Pow10 w) : Calls Tryd.prog 15 #[] w fun e w' => e = .returned (.bool true) ∧ Below w.heap.size w w' := by
  obtain ⟨w1, hw1⟩ : ∃ w1, w1 = w.alloc (.cells #[.int .i64 1, .int .i64 2, .int .i64 3, .int .i64 4] 3) := ⟨_, rfl⟩
  have hb1 : Below w.heap.size w w1 := by rw [hw1]; exact (Below.refl _ _).alloc (Nat.le_refl _) _
  have hl1 : Lies w1 w1.heap.size (some ⟨w.heap.size, 0, none⟩) (I64 [1, 2, 3, 4]) := .inr ⟨w.heap.size, 0, rfl, by rw [hw1]; simp, fun j v hv => by
    rw [hw1, cell_of_row _ w.heap.size (0 + j) _ _ _ (heap_alloc_new w _), Nat.zero_add, List.getElem?_toArray]; exact hv⟩
  have VE := Lib.hid (refVector_any (some ⟨w.heap.size, 0, none⟩) 4 [1, 2, 3, 4] 0 w1 hl1 (by decide) small14)
  rw [hw1] at VE
  have HB1 := Lib.hid hb1
  rw [hw1] at HB1
  have HP := Lib.hid hP
  clear hw1 hb1 hl1 hP
  go_enter Tryd.func15, Tryd.ntmps15
  go_wp2_with fail
  refine VE.out.mono ?_
  rintro e w2 ⟨sv, v, rfl, hs, hv, hb2⟩
  have HB2 : Hid (Below w.heap.size w w2) := Lib.hid (HB1.out.trans (hb2.mono HB1.out.size))
  obtain ⟨g1, c1, xs1, xs2, rfl, hc1, hg1, r1, r2, k1, k2, q1, q2, o1, o2⟩ := cells_split hv
  obtain ⟨A0, c0, rfl, _, _⟩ := own_slice hs
  obtain ⟨W3, hW3⟩ : ∃ W3, W3 = (w2.alloc (.cells #[.int .u64 0, .slice none 0 0, .slice none 0 0] 40)).setRow w2.heap.size #[.int .u64 0, .slice A0 1 c0, .slice (some ⟨g1, 0, none⟩) 4 c1] := ⟨_, rfl⟩
  have HG6 : Hid ((w2.alloc (.cells #[.int .u64 0, .slice none 0 0, .slice none 0 0] 40)).heap[w2.heap.size]? = some (.cells #[.int .u64 0, .slice none 0 0, .slice none 0 0] 40 (0, 0))) := Lib.hid (heap_alloc_new w2 _)
  have HB3 : Hid (Below w2.heap.size w2 W3) := Lib.hid (by rw [hW3]; exact rBelow.setRow ((Below.refl _ _).alloc (Nat.le_refl _) _) (Nat.le_refl _) _)
  have hG3 : W3.heap[w2.heap.size]? = some (.cells #[.int .u64 0, .slice A0 1 c0, .slice (some ⟨g1, 0, none⟩) 4 c1] 40 (0, 0)) := by rw [hW3]; exact rheap_same HG6.out
  have hS3 : w2.heap.size < W3.heap.size := (Array.getElem?_eq_some_iff.1 hG3).1
  obtain ⟨W4, hW4⟩ : ∃ W4, W4 = W3.alloc (.cells #[.int .i64 2, .int .i64 2] 3) := ⟨_, rfl⟩
  have hG4 : W4.heap[w2.heap.size]? = some (.cells #[.int .u64 0, .slice A0 1 c0, .slice (some ⟨g1, 0, none⟩) 4 c1] 40 (0, 0)) := by rw [hW4]; exact (Below.heap_alloc W3 _ _ hS3).trans hG3
  have hN4 : W4.heap[W3.heap.size]? = some (.cells #[.int .i64 2, .int .i64 2] 3 (0, 0)) := by rw [hW4]; exact heap_alloc_new W3 _
  have HB4 : Hid (Below w2.heap.size w2 W4) := Lib.hid (by rw [hW4]; exact HB3.out.alloc HB3.out.size _)
  have HC4 : Hid (W4.cell? ⟨w2.heap.size, 1, none⟩ = some (.slice A0 1 c0) ∧ W4.frozen? ⟨w2.heap.size, 1, none⟩ = false) := Lib.hid ⟨(cell_of_row W4 w2.heap.size 1 _ _ _ hG4).trans rfl, frozen_of_row _ _ _ _ _ hG4⟩
  have HG5 : Hid ((W4.setCell ⟨w2.heap.size, 1, none⟩ (.slice (some ⟨W3.heap.size, 0, none⟩) 2 2)).heap[w2.heap.size]? = some (.cells #[.int .u64 0, .slice (some ⟨W3.heap.size, 0, none⟩) 2 2, .slice (some ⟨g1, 0, none⟩) 4 c1] 40 (0, 0))) := Lib.hid (by rw [heap_setCell_same W4 _ 1 _ _ _ hG4]; rfl)
  have HN5 : Hid ((W4.setCell ⟨w2.heap.size, 1, none⟩ (.slice (some ⟨W3.heap.size, 0, none⟩) 2 2)).heap[W3.heap.size]? = some (.cells #[.int .i64 2, .int .i64 2] 3 (0, 0))) := Lib.hid ((heap_setCell_other W4 _ _ _ (by show W3.heap.size ≠ w2.heap.size; omega)).trans hN4)
  have HB5 : Hid (Below w2.heap.size w2 (W4.setCell ⟨w2.heap.size, 1, none⟩ (.slice (some ⟨W3.heap.size, 0, none⟩) 2 2))) := Lib.hid (HB4.out.setCell (Nat.le_refl _) _)
  have TX := Lib.hid (showText22_any W3.heap.size g1 c1 xs1 xs2 1 2 3 4 (W4.setCell ⟨w2.heap.size, 1, none⟩ (.slice (some ⟨W3.heap.size, 0, none⟩) 2 2)) HN5.out (rangeAt_belowS HB5.out hg1 r1) (rangeAt_belowS HB5.out hg1 r2) (Nat.lt_of_lt_of_le hg1 HB5.out.size) hc1 (k1.below HB5.out) (k2.below HB5.out) q1 q2 o1 o2 small14 (HP.out.below (HB2.out.trans (HB5.out.mono HB2.out.size))))
  rw [row12, row34] at TX
  have HW3 := Lib.hid hW3
  have HW4 := Lib.hid hW4
  clear hs hv hb2 VE HB1 hW3 hW4 hG3 hG4 hN4 hS3 r1 r2 k1 k2 q1 q2 o1 o2 hg1 hc1
  dsimp only
  go_upto_region 2 with (with_reducible refine wpList_store_row rfl 40 (.tmp 1) (.tmp 3) rfl w2.heap.size #[.int .u64 0, .slice A0 1 c0, .slice (some ⟨g1, 0, none⟩) 4 c1] rfl rfl 40 #[.int .u64 0, .slice none 0 0, .slice none 0 0] HG6.out (arr_infoR _ _ _) rfl (arr_one3 _ _ _ _ _ _ _) ?_)
  rw [← HW3.out]
  dsimp only [Act.put]
  have hc4 := HC4.out.1
  have hf4 := HC4.out.2
  rw [HW4.out] at hc4 hf4
  go_upto_region 3 with fail
  rw [← HW4.out]
  clear hc4 hf4
  go_wp2_with (with_reducible refine wpList_load_row rfl 40 (.tmp 1) rfl w2.heap.size rfl 40 #[.int .u64 0, .slice (some ⟨W3.heap.size, 0, none⟩) 2 2, .slice (some ⟨g1, 0, none⟩) 4 c1] (0, 0) _ HG5.out Tryd.underlying40 rfl (arr_infoR _ _ _) ?_)
  refine TX.out.mono ?_
  rintro e w9 ⟨rfl, hb9⟩
  have HB9 := Lib.hid hb9
  clear hb9
  rw [show Lib.join [[49, 32, 50], [51, 32, 52]] [10] = [49, 32, 50, 10, 51, 32, 52] from rfl]
  go_wp2_with fail
  go_ret
  have b := HB2.out.trans (HB5.out.mono HB2.out.size)
  exact ⟨rfl, b.trans (HB9.out.mono b.size)⟩
theorem rowTxt_one (z : Int) : rowTxt [z] 1 = Dg.print (numZ z) := rfl
theorem showLists_walk (A : Option Addr) (len cap : Nat) (zs : List Int) (w : World) (hi : IsInts .i64 w A len cap zs) (hP : Pow10 w) :
    Calls Tryd.prog 5 #[.slice A len cap] w fun e w' => e = .returned (.bool true) ∧ Below w.heap.size w w' := by
  obtain ⟨rfl, hlc, hcm, hl, hwf⟩ := hi
  have hl : Lies w w.heap.size A (I64 zs) := hl
  have hz : ∀ z ∈ zs, -9223372036854775808 ≤ z ∧ z ≤ 9223372036854775807 := fun z h => bounds_i64 (hwf z h)
  have AW := Lib.hid (fun (wx : World) (h : Below w.heap.size w wx) => awake28_any wx (hP.below h))
  have hmax : (maxLen : Nat) = 9223372036854775807 := rfl
  by_cases hbig : 100 < zs.length
  · have hbig' : (100 : Int) < (zs.length : Int) := by omega
    clear hl hz hwf hP
    go_enter Tryd.func5, Tryd.ntmps5
    go_wp2_with fail
    refine (AW.out _ (Below.refl _ _)).mono ?_
    rintro e w' ⟨rfl, hb⟩
    go_wp2_with fail
    go_ret
    exact ⟨rfl, hb⟩
  · have hbig' : ¬ (100 : Int) < (zs.length : Int) := by omega
    have hn : zs.length ≤ 100 := by omega
    have HL := Lib.hid (fun (wx : World) (h : Below w.heap.size w wx) => (hl.below h).more h.size)
    have HZ := Lib.hid hz
    have HP := Lib.hid hP
    have HLEN := Lib.hid (fun i (hi : i ≤ zs.length) => rowTxt_len zs hz i hi)
    clear hl hz hwf hP hbig
    go_enter Tryd.func5, Tryd.ntmps5
    go_wp2_with fail
    go_loopw [3, 4] (fun tv iv wr => ∃ j : Nat, iv = .int .i64 (j : Int) ∧ j ≤ zs.length ∧ tv = .string ⟨(rowTxt zs j).toArray⟩ ∧ Hid (Below w.heap.size w wr)) (fun _ iv _ => zs.length - (intOf iv).toNat)
    case atStart => exact ⟨0, by go_num, Nat.zero_le _, rfl, Lib.hid (Below.refl _ _)⟩
    case round =>
      obtain ⟨j, rfl, hj, rfl, HB⟩ := hrel
      have hTL := HLEN.out j hj
      by_cases hlt : j < zs.length
      · obtain ⟨b, off, rfl, hb, g0⟩ := lies_i64 (HL.out wr HB.out) hlt
        have HZJ := Lib.hid (HZ.out zs[j] (List.getElem_mem hlt))
        have hgd : zs.getD j 0 = zs[j] := by rw [List.getD_eq_getElem?_getD, List.getElem?_eq_getElem hlt]; rfl
        have HNX : Hid (rowTxt zs (j + 1) = rowTxt zs j ++ ((if 0 < j then [32] else []) ++ Dg.print (numZ zs[j]))) := Lib.hid (by rw [← hgd]; rfl)
        obtain ⟨z, hzz⟩ : ∃ z, z = zs[j] := ⟨_, rfl⟩
        rw [← hzz] at g0 HZJ HNX
        have hPL := print_len z HZJ.out
        have AL := Lib.hid (refAlone_any z 0 wr HZJ.out)
        have RT := Lib.hid (fun (wx : World) (sv v : Value) (h1 : wx.ownsRow 0 3 1 sv 0 (I64 [])) (h2 : IsCells wx 0 v [z]) => refText28_any 0 sv v [] [z] 0 wx h1 h2 (Nat.zero_le _) (by show 1 ≤ 1000; decide) (fun y hy => by rw [List.mem_singleton] at hy; subst hy; exact HZJ.out))
        obtain ⟨P, hPP⟩ : ∃ P, P = Dg.print (numZ z) := ⟨_, rfl⟩
        have HRO : Hid (rowTxt [z] [z].length = P) := Lib.hid (by rw [hPP]; rfl)
        rw [← hPP] at HNX hPL
        obtain ⟨T, hT⟩ : ∃ T, T = rowTxt zs j := ⟨_, rfl⟩
        rw [← hT] at HNX hTL ⊢
        have hTs : (⟨T.toArray⟩ : ByteArray).size = T.length := rfl
        have hPs : (⟨P.toArray⟩ : ByteArray).size = P.length := rfl
        have hbs : (⟨#[32]⟩ : ByteArray).size = 1 := rfl
        clear hgd hzz hPP hT hb
        by_cases hj0 : 0 < j
        · rw [if_pos hj0] at HNX
          have HST : Hid ((⟨T.toArray⟩ : ByteArray) ++ ⟨#[32]⟩ ++ ⟨P.toArray⟩ = ⟨(rowTxt zs (j + 1)).toArray⟩) := Lib.hid (by rw [HNX.out]; apply ByteArray.ext; simp)
          go_wp2_with fail
          refine AL.out.mono ?_
          rintro e w5 ⟨sv, v, rfl, h1, h2, hb5⟩
          have HB5 : Hid (Below w.heap.size w w5) := Lib.hid (HB.out.trans (hb5.mono HB.out.size))
          have RT2 := RT.out w5 sv v h1 h2
          rw [HRO.out] at RT2
          have RT2 := Lib.hid RT2
          clear h1 h2 hb5 AL RT
          go_wp2_with fail
          refine RT2.out.mono ?_
          rintro e w6 ⟨rfl, hb6⟩
          have HB6 : Hid (Below w.heap.size w w6) := Lib.hid (HB5.out.trans (hb6.mono HB5.out.size))
          clear hb6 RT2
          go_wp2_with fail
          go_round
          case rel => exact ⟨j + 1, by go_num, hlt, by rw [← HST.out], HB6⟩
          case measure => simp [intOf]; omega
        · rw [if_neg hj0] at HNX
          have HST : Hid ((⟨T.toArray⟩ : ByteArray) ++ ⟨P.toArray⟩ = ⟨(rowTxt zs (j + 1)).toArray⟩) := Lib.hid (by rw [HNX.out]; apply ByteArray.ext; simp)
          go_wp2_with fail
          refine AL.out.mono ?_
          rintro e w5 ⟨sv, v, rfl, h1, h2, hb5⟩
          have HB5 : Hid (Below w.heap.size w w5) := Lib.hid (HB.out.trans (hb5.mono HB.out.size))
          have RT2 := RT.out w5 sv v h1 h2
          rw [HRO.out] at RT2
          have RT2 := Lib.hid RT2
          clear h1 h2 hb5 AL RT
          go_wp2_with fail
          refine RT2.out.mono ?_
          rintro e w6 ⟨rfl, hb6⟩
          have HB6 : Hid (Below w.heap.size w w6) := Lib.hid (HB5.out.trans (hb6.mono HB5.out.size))
          clear hb6 RT2
          go_wp2_with fail
          go_round
          case rel => exact ⟨j + 1, by go_num, hlt, by rw [← HST.out], HB6⟩
          case measure => simp [intOf]; omega
      · obtain rfl : j = zs.length := by omega
        have VE := Lib.hid (refVector_any A cap zs 0 wr (HL.out wr HB.out) (by omega) HZ.out)
        have TX := Lib.hid (fun (wx : World) (sv v : Value) (h1 : wx.ownsRow 0 3 1 sv [(zs.length : Int)].length (I64 [(zs.length : Int)])) (h2 : IsCells wx 0 v zs) (h : Below w.heap.size w wx) => showText1_any 0 sv v [(zs.length : Int)] zs 0 wx h1 h2 (Nat.le_refl _) (by omega) HZ.out (HP.out.below h))
        obtain ⟨T, hT⟩ : ∃ T, T = rowTxt zs zs.length := ⟨_, rfl⟩
        rw [← hT] at TX ⊢
        clear hTL hT hlt
        go_wp2_with fail
        refine VE.out.mono ?_
        rintro e w5 ⟨sv, v, rfl, h1, h2, hb5⟩
        have HB5 : Hid (Below w.heap.size w w5) := Lib.hid (HB.out.trans (hb5.mono HB.out.size))
        have TX2 := Lib.hid (TX.out w5 sv v h1 h2 HB5.out)
        clear h1 h2 hb5 VE TX
        go_wp2_with fail
        refine TX2.out.mono ?_
        rintro e w6 ⟨rfl, hb6⟩
        have HB6 : Hid (Below w.heap.size w w6) := Lib.hid (HB5.out.trans (hb6.mono HB5.out.size))
        clear hb6 TX2
        go_wp2_with fail
        refine (AW.out _ HB6.out).mono ?_
        rintro e w7 ⟨rfl, hb7⟩
        have HB7 : Hid (Below w.heap.size w w7) := Lib.hid (HB6.out.trans (hb7.mono HB6.out.size))
        clear hb7
        go_wp2_with fail
        go_ret
        exact ⟨rfl, HB7.out⟩
end Go.Proofs.YtfiefglagknclaaDoor

/-
  From the rows' condition on listed variables (three tables) to the fact that the walks ask; a world that meets it.
-/
namespace Go.Proofs.YtfiefglagknclaaDoor
open Go.ChangeShapes Go.WideShapes Go.ChangeAt Go.RowKit

theorem gPow : Tryd.prog.globalNamed "internal/strconv.uint64pow10" = some 0 := by kernel_rfl
theorem tPow : (Tryd.prog.globals[0]?).map (·.type) = some 179 := by kernel_rfl
theorem cPow : Tryd.prog.cellsOf 179 = 20 := by kernel_rfl
theorem cWord : Tryd.prog.cellsOf 37 = 1 := by kernel_rfl

def laid3 : List (String × DataW Unit) := [("math/bits.deBruijn32tab", Rows.laid_math_bits_deBruijn32tab), ("math/bits.deBruijn64tab", Rows.laid_math_bits_deBruijn64tab), ("internal/strconv.uint64pow10", Rows.laid_internal_strconv_uint64pow10)]
theorem door_met (os : Os) (args : Array Value) : laidMetH Tryd.prog laid3 ((World.laidAll Tryd.prog os laid3).forCall (fun _ _ => 0) ⟨#[], args, []⟩).memory := by
  rw [MakeChecks.laidMetH_plain _ _ _ (by kernel_rfl)]
  exact laidMet_laidAll _ (by kernel_rfl) (by kernel_rfl)
theorem of_laid {W : World} (h : laidMetH Tryd.prog laid3 W) : Pow10 W := by
  rw [MakeChecks.laidMetH_plain _ _ _ (by kernel_rfl)] at h
  have h2 := h.tail.tail
  have hT := Lib.tabIs_of_head (k := .u64) (zs := Lib.pow10Tab) gPow tPow Tryd.underlying179 Tryd.underlying37 cWord cPow h2
  refine ⟨hT, fun g e => ?_⟩
  obtain rfl := Option.some.inj (gPow.symm.trans e)
  exact World.block_lt_of_cell? W _ (hT.cell gPow 0 (by decide))
end Go.Proofs.YtfiefglagknclaaDoor
