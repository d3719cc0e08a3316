/-
  Chapter 2's examples: scrimlaw02.awake returns true.
-/
import Derived.Test.YtgicgmaiolfpkaaDoorNat12
namespace Go.Proofs.YtgicgmaiolfpkaaDoor
open Go.RowKit
set_option maxHeartbeats 1000000
set_option linter.unusedVariables false

theorem digs_small {n : Nat} (h : n < 4294967296) (h0 : n ≠ 0) : Nt.digs n = [n] := by
  rw [Nt.digs_pos h0, Nat.mod_eq_of_lt h, Nat.div_eq_of_lt h, Nt.digs_zero]
theorem Lies.alloc {w : World} {B : Nat} {A : Option Addr} {vs : List Value} (h : Lies w B A vs) (hB : B ≤ w.heap.size) (o : Obj) : Lies (w.alloc o) B A vs := h.below ((Below.refl _ _).alloc hB o)
/-- A number of one limb that a call handed back, held against a literal. -/
theorem same_lit {w0 w : World} {v : Value} {n : Nat} (h : IsRes w v (Nt.digs n)) (hn : n < 4294967296) (h0 : n ≠ 0) (hb : Below w0.heap.size w0 w) :
    Calls Tryd.prog 8 #[v, .slice (some ⟨w.heap.size, 0, none⟩) 1 1] (w.alloc (.cells #[.int .u32 (n : Int)] 30)) fun e w' => e = .returned (.bool true) ∧ Below w0.heap.size w0 w' ∧ Below w.heap.size w w' := by
  rw [digs_small hn h0] at h
  obtain ⟨A, c, rfl, h1, h2, h3, h4⟩ := h
  refine (same_any A (some ⟨w.heap.size, 0, none⟩) c 1 w.heap.size (w.heap.size + 1) [n] [n] _ (h4.alloc (Nat.le_refl _) _) (Lies.new w [.int .u32 (n : Int)] 30) (by simp) (by simp)).mono ?_
  rintro e w' ⟨rfl, k, rfl⟩
  have hb1 : Below w.heap.size w ((w.alloc (.cells #[.int .u32 (n : Int)] 30)).drewN k) := by
    have := (Below.refl w.heap.size w).alloc (Nat.le_refl _) (.cells #[.int .u32 (n : Int)] 30)
    exact ⟨this.os, this.tape, this.output, this.size, this.block⟩
  exact ⟨by simp, hb.trans (hb1.mono hb.size), hb1⟩

theorem awake_any (w : World) :
    Calls Tryd.prog 11 #[] w fun e w' => e = .returned (.bool true) ∧ Below w.heap.size w w' := by
  have E1 : Hid (Nt.val [0, 1] = 4294967296) := Lib.hid (by simp [Nt.val])
  have E2 : Hid (Nt.val [3] = 3) := Lib.hid (by simp [Nt.val])
  have E3 : Hid (Nt.quo 4294967296 3 = 1431655765) := Lib.hid (by unfold Nt.quo; omega)
  have E4 : Hid (Nt.rest 4294967296 3 = 1) := Lib.hid (by rw [Nt.rest_pos (by omega)])
  have E5 : Hid (Nt.val [12] = 12) := Lib.hid (by simp [Nt.val])
  have E6 : Hid (Nt.val [18] = 18) := Lib.hid (by simp [Nt.val])
  have E7 : Hid (Nat.gcd 12 18 = 6) := Lib.hid (by decide)
  obtain ⟨w1, hw1⟩ : ∃ w1, w1 = w.alloc (.cells #[.int .u32 0, .int .u32 1] 30) := ⟨_, rfl⟩
  have hb1 : Below w.heap.size w w1 := by rw [hw1]; exact (Below.refl _ _).alloc (Nat.le_refl _) _
  have hs1 : w1.heap.size = w.heap.size + 1 := by rw [hw1]; simp
  have l1 : Lies w1 (w.heap.size + 1) (some ⟨w.heap.size, 0, none⟩) (U [0, 1]) := by rw [hw1]; exact Lies.new w [.int .u32 0, .int .u32 1] 30
  obtain ⟨w2, hw2⟩ : ∃ w2, w2 = w1.alloc (.cells #[.int .u32 3] 30) := ⟨_, rfl⟩
  have hb2 : Below w.heap.size w w2 := by rw [hw2]; exact hb1.alloc hb1.size _
  have hs2 : w2.heap.size = w.heap.size + 2 := by rw [hw2]; simp [hs1]
  have l2 : Lies w2 w2.heap.size (some ⟨w.heap.size, 0, none⟩) (U [0, 1]) := by rw [hw2]; exact (l1.alloc (by omega) _).more (by simp; omega)
  have l3 : Lies w2 w2.heap.size (some ⟨w.heap.size + 1, 0, none⟩) (U [3]) := by
    have := Lies.new w1 [.int .u32 3] 30
    rw [hs1] at this
    rw [hw2]
    exact this.more (by simp; omega)
  have DM := Lib.hid (divMod_any (some ⟨w.heap.size, 0, none⟩) (some ⟨w.heap.size + 1, 0, none⟩) 2 1 w2.heap.size [0, 1] [3] w2 l2 l3 (Nat.le_refl _) (by intro d hd; simp at hd; omega) (by intro d hd; simp at hd; omega) (by simp) (by simp) (by omega) (by omega) (by simp) (by simp) (.inl (by rw [E2.out, digs_small (by omega) (by omega)]; simp)))
  rw [E1.out, E2.out, E3.out, E4.out] at DM
  have HW2 : Hid (w2 = (w.alloc (.cells #[.int .u32 0, .int .u32 1] 30)).alloc (.cells #[.int .u32 3] 30)) := Lib.hid (by rw [hw2, hw1])
  have HB2 := Lib.hid hb2
  clear hw1 hw2 hb1 hb2 hs1 hs2 l1 l2 l3
  go_enter Tryd.func11, Tryd.ntmps11
  go_wp2_with fail
  rw [← HW2.out]
  refine DM.out.mono ?_
  rintro e w3 ⟨v1, v2, rfl, hr1, hr2, hb3⟩
  have hb03 : Below w.heap.size w w3 := HB2.out.trans (hb3.mono HB2.out.size)
  clear hb3
  rw [show decide ((3 : Nat) ≠ 0) = true from rfl]
  go_wp2_with fail
  refine (same_lit (w0 := w) hr1 (by omega) (by omega) hb03).mono ?_
  rintro e w4 ⟨rfl, hb4, hb34⟩
  have hr24 := hr2.below hb34
  go_wp2_with fail
  refine (same_lit (w0 := w) hr24 (by omega) (by omega) hb4).mono ?_
  rintro e w5 ⟨rfl, hb5, _⟩
  obtain ⟨w6, hw6⟩ : ∃ w6, w6 = w5.alloc (.cells #[.int .u32 12] 30) := ⟨_, rfl⟩
  have hb6 : Below w.heap.size w w6 := by rw [hw6]; exact hb5.alloc hb5.size _
  have hs6 : w6.heap.size = w5.heap.size + 1 := by rw [hw6]; simp
  have l6 : Lies w6 (w5.heap.size + 1) (some ⟨w5.heap.size, 0, none⟩) (U [12]) := by rw [hw6]; exact Lies.new w5 [.int .u32 12] 30
  obtain ⟨w7, hw7⟩ : ∃ w7, w7 = w6.alloc (.cells #[.int .u32 18] 30) := ⟨_, rfl⟩
  have hb7 : Below w.heap.size w w7 := by rw [hw7]; exact hb6.alloc hb6.size _
  have l7 : Lies w7 w7.heap.size (some ⟨w5.heap.size, 0, none⟩) (U [12]) := by rw [hw7]; exact (l6.alloc (by omega) _).more (by simp; omega)
  have l8 : Lies w7 w7.heap.size (some ⟨w5.heap.size + 1, 0, none⟩) (U [18]) := by
    have := Lies.new w6 [.int .u32 18] 30
    rw [hs6] at this
    rw [hw7]
    exact this.more (by simp; omega)
  have GC := Lib.hid (gcd_few (some ⟨w5.heap.size, 0, none⟩) (some ⟨w5.heap.size + 1, 0, none⟩) 1 1 w7.heap.size [12] [18] w7 l7 l8 (Nat.le_refl _) (by intro d hd; simp at hd; omega) (by intro d hd; simp at hd; omega) (by simp) (by simp) (by omega) (by omega) (by rw [E5.out, digs_small (by omega) (by omega)]; simp) (by rw [E6.out, digs_small (by omega) (by omega)]; simp) (by rw [E6.out]; omega))
  rw [E5.out, E6.out, E7.out] at GC
  have HW7 : Hid (w7 = (w5.alloc (.cells #[.int .u32 12] 30)).alloc (.cells #[.int .u32 18] 30)) := Lib.hid (by rw [hw7, hw6])
  have HB7 := Lib.hid hb7
  clear hw6 hw7 hb6 hb7 hs6 l6 l7 l8
  go_wp2_with fail
  rw [← HW7.out]
  refine GC.out.mono ?_
  rintro e w8 ⟨v8, rfl, hr8, hb8⟩
  have hb08 : Below w.heap.size w w8 := HB7.out.trans (hb8.mono HB7.out.size)
  go_wp2_with fail
  refine (same_lit (w0 := w) hr8 (by omega) (by omega) hb08).mono ?_
  rintro e w9 ⟨rfl, hb9, _⟩
  go_wp2_with fail
  go_ret
  exact ⟨rfl, hb9⟩
end Go.Proofs.YtgicgmaiolfpkaaDoor
