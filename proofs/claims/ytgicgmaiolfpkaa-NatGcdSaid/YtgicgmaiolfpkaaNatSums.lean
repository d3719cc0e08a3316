/-
  The walk of the law NatSums.
-/
import Derived.Test.YtgicgmaiolfpkaaNat8
import Derived.Test.YtgicgmaiolfpkaaNat9
import Derived.Test.YtgicgmaiolfpkaaNatAwake
import Derived.Test.YtgicgmaiolfpkaaNatIn
namespace Go.Proofs.Ytgicgmaiolfpkaa
open Go.RowKit
set_option maxHeartbeats 1000000
set_option linter.unusedVariables false

theorem few_any (A : Option Addr) (c : Nat) (l : List Nat) (w : World) (hc : l.length ≤ c) (hm : c ≤ 9223372036854775807) :
    Calls Try.prog 7 #[.slice A l.length c] w fun e w' => e = .returned (.slice A (l.take 40).length c) ∧ w = w' := by
  by_cases h : 40 < l.length
  · have HE : Hid ((l.take 40).length = 40) := Lib.hid (by rw [List.length_take]; omega)
    go_enter Try.func7, Try.ntmps7
    go_wp2_with fail
    go_ret
    exact ⟨by rw [HE.out]; rfl, rfl⟩
  · have HE : Hid ((l.take 40).length = l.length) := Lib.hid (by rw [List.length_take]; omega)
    go_enter Try.func7, Try.ntmps7
    go_wp2_with fail
    go_ret
    exact ⟨by rw [HE.out]; rfl, rfl⟩

/-- Two numbers that calls handed back, the same ones. -/
theorem same_res {w0 w : World} {v1 v2 : Value} {n : Nat} (h1 : IsRes w v1 (Nt.digs n)) (h2 : IsRes w v2 (Nt.digs n)) (hb : Below w0.heap.size w0 w) :
    Calls Try.prog 10 #[v1, v2] w fun e w' => e = .returned (.bool true) ∧ Below w0.heap.size w0 w' ∧ Below w.heap.size w w' := by
  obtain ⟨A, c, rfl, a1, a2, a3, a4⟩ := h1
  obtain ⟨A', c', rfl, b1, b2, b3, b4⟩ := h2
  refine (same_any A A' c c' w.heap.size w.heap.size (Nt.digs n) (Nt.digs n) w a4 b4 (by omega) (by omega)).mono ?_
  rintro e w' ⟨rfl, k, rfl⟩
  have hb1 : Below w.heap.size w (w.drewN k) := ⟨rfl, rfl, rfl, Nat.le_refl _, fun _ _ => rfl⟩
  exact ⟨by simp, hb.trans (hb1.mono hb.size), hb1⟩

theorem natSums_walk (a0 : Option Addr) (len0 cap0 : Nat) (z0 : List Nat) (a1 : Option Addr) (len1 cap1 : Nat) (z1 : List Nat) (w : World) (w0 : IsLimbs w a0 len0 cap0 z0) (w1 : IsLimbs w a1 len1 cap1 z1) :
    Calls Try.prog 5 #[.slice a0 len0 cap0, .slice a1 len1 cap1] w fun e w' => e = .returned (.bool true) ∧ Below w.heap.size w w' := by
  obtain ⟨hn0, hc0, hm0, hA0, hl0, ho0⟩ := w0
  obtain ⟨hn1, hc1, hm1, hA1, hl1, ho1⟩ := w1
  subst hn0 hn1
  have F0 := Lib.hid (few_any a0 cap0 z0 w hc0 hm0)
  have F1 := Lib.hid (few_any a1 cap1 z1 w hc1 hm1)
  have L0 : Lies w w.heap.size a0 (U (z0.take 40)) := by rw [← U_take]; exact hl0.take 40
  have L1 : Lies w w.heap.size a1 (U (z1.take 40)) := by rw [← U_take]; exact hl1.take 40
  have O0 := Nt.ok_take ho0 40
  have O1 := Nt.ok_take ho1 40
  have h40 : (z0.take 40).length ≤ 40 := by rw [List.length_take]; omega
  have h41 : (z1.take 40).length ≤ 40 := by rw [List.length_take]; omega
  have hk0 : (z0.take 40).length ≤ cap0 := by rw [List.length_take]; omega
  have hk1 : (z1.take 40).length ≤ cap1 := by rw [List.length_take]; omega
  clear hl0 hl1 ho0 ho1
  generalize z0.take 40 = x at *
  generalize z1.take 40 = y at *
  have SUB := Lib.hid (fun (wr : World) (h : Below w.heap.size w wr) => sub_any a0 a1 cap0 cap1 w.heap.size x y wr (L0.below h) (L1.below h) h.size O0 O1 hk0 hk1 hm0 hm1 (by omega) (by omega))
  have RSUB := Lib.hid (fun (wr : World) (h : Below w.heap.size w wr) => refSub_any a0 a1 cap0 cap1 w.heap.size x y wr (L0.below h) (L1.below h) h.size O0 O1 hk0 hk1 hm0 hm1 (by omega) (by omega))
  have CMP := Lib.hid (fun (wr : World) (h : Below w.heap.size w wr) => cmp_any a0 a1 cap0 cap1 w.heap.size x y wr (L0.below h) (L1.below h) O0 O1 hk0 hk1 hm0 hm1)
  have RCMP := Lib.hid (fun (wr : World) (h : Below w.heap.size w wr) => refCmp_any a0 a1 cap0 cap1 w.heap.size x y wr (L0.below h) (L1.below h) O0 O1 hk0 hk1 hm0 hm1)
  have NRM := Lib.hid (fun (wr : World) (h : Below w.heap.size w wr) => norm_any a0 cap0 w.heap.size x wr (L0.below h) h.size O0 hk0 hm0 (by omega))
  have RNRM := Lib.hid (fun (wr : World) (h : Below w.heap.size w wr) => refNorm_any a0 cap0 w.heap.size x wr (L0.below h) h.size O0 hk0 hm0 hA0 (by omega))
  have ADD := Lib.hid (fun (wr : World) (h : Below w.heap.size w wr) => add_any a0 a1 cap0 cap1 w.heap.size x y wr (L0.below h) (L1.below h) h.size O0 O1 hk0 hk1 hm0 hm1 (by omega) (by omega))
  have RADD := Lib.hid (fun (wr : World) (h : Below w.heap.size w wr) => refAdd_any a0 a1 cap0 cap1 w.heap.size x y wr (L0.below h) (L1.below h) h.size O0 O1 hk0 hk1 hm0 hm1 (by omega) (by omega))
  have MUL := Lib.hid (fun (wr : World) (h : Below w.heap.size w wr) => mul_any a0 a1 cap0 cap1 w.heap.size x y wr (L0.below h) (L1.below h) h.size O0 O1 hk0 hk1 hm0 hm1 (by omega) (by omega))
  have RMUL := Lib.hid (fun (wr : World) (h : Below w.heap.size w wr) => refMul_any a0 a1 cap0 cap1 w.heap.size x y wr (L0.below h) (L1.below h) h.size O0 O1 hk0 hk1 hm0 hm1 (by omega) (by omega))
  have hln := Nt.digs_len_le O0
  clear L0 L1 O0 O1 hA0 hA1
  generalize Nt.val x = vx at *
  generalize Nt.val y = vy at *
  go_enter Try.func5, Try.ntmps5
  go_wp2_with fail
  refine F0.out.mono ?_
  rintro e w' ⟨rfl, rfl⟩
  go_wp2_with fail
  refine F1.out.mono ?_
  rintro e w' ⟨rfl, rfl⟩
  go_wp2_with fail
  refine (SUB.out _ (Below.refl _ _)).mono ?_
  rintro e w1 ⟨v1, rfl, hr1, hb1⟩
  go_wp2_with fail
  refine (RSUB.out _ hb1).mono ?_
  rintro e w2 ⟨v2, rfl, hr2, hb12⟩
  have hb2 := hb1.trans (hb12.mono hb1.size)
  have hr1' := hr1.below hb12
  clear hr1 hb1 hb12
  generalize decide (vy ≤ vx) = bb at *
  have hbb : (bb != bb) = false := by simp
  go_wp2_with fail
  refine (same_res (w0 := w) hr1' hr2 hb2).mono ?_
  rintro e w3 ⟨rfl, hb3, _⟩
  clear hr1' hr2 hb2
  go_wp2_with fail
  refine (CMP.out _ hb3).mono ?_
  rintro e w' ⟨rfl, n4, rfl⟩
  have hb4 : Below w.heap.size w (w3.drewN n4) := ⟨hb3.os, hb3.tape, hb3.output, hb3.size, hb3.block⟩
  go_wp2_with fail
  refine (RCMP.out _ hb4).mono ?_
  rintro e w' ⟨rfl, rfl⟩
  generalize Nt.cmp vx vy = cc at *
  generalize w3.drewN n4 = w4 at *
  clear hb3
  go_wp2_with fail
  refine (NRM.out _ hb4).mono ?_
  rintro e w5 ⟨rfl, hblk5, hb45⟩
  have hb5 := hb4.trans (hb45.mono hb4.size)
  have hr5 : IsRes w5 (.slice (some ⟨w4.heap.size, 0, none⟩) (Nt.digs vx).length (Nt.digs vx).length) (Nt.digs vx) := ⟨_, _, rfl, Nat.le_refl _, by omega, (fun h => by cases h), hblk5.lies⟩
  go_wp2_with fail
  refine (RNRM.out _ hb5).mono ?_
  rintro e w6 ⟨v6, rfl, hr6, hb56⟩
  have hb6 := hb5.trans (hb56.mono hb5.size)
  have hr5' := hr5.below hb56
  clear hblk5 hb45 hr5 hb56
  go_wp2_with fail
  refine (same_res (w0 := w) hr5' hr6 hb6).mono ?_
  rintro e w7 ⟨rfl, hb7, _⟩
  clear hr5' hr6 hb6 hb5 hb4
  go_wp2_with fail
  refine (ADD.out _ hb7).mono ?_
  rintro e w8 ⟨v8, rfl, hown8, hb78⟩
  have hb8 := hb7.trans (hb78.mono hb7.size)
  have hr8 := IsRes.of_own hown8
  clear hown8 hb78
  go_wp2_with fail
  refine (RADD.out _ hb8).mono ?_
  rintro e w9 ⟨v9, rfl, hr9, hb89⟩
  have hb9 := hb8.trans (hb89.mono hb8.size)
  have hr8' := hr8.below hb89
  clear hr8 hb89
  go_wp2_with fail
  refine (same_res (w0 := w) hr8' hr9 hb9).mono ?_
  rintro e w10 ⟨rfl, hb10, _⟩
  clear hr8' hr9 hb9 hb8 hb7
  go_wp2_with fail
  refine (MUL.out _ hb10).mono ?_
  rintro e w11 ⟨v11, rfl, hr11, hb1011⟩
  have hb11 := hb10.trans (hb1011.mono hb10.size)
  go_wp2_with fail
  refine (RMUL.out _ hb11).mono ?_
  rintro e w12 ⟨v12, rfl, hr12, hb1112⟩
  have hb12 := hb11.trans (hb1112.mono hb11.size)
  have hr11' := hr11.below hb1112
  clear hr11 hb1112 hb1011
  go_wp2_with fail
  refine (same_res (w0 := w) hr11' hr12 hb12).mono ?_
  rintro e w13 ⟨rfl, hb13, _⟩
  clear hr11' hr12 hb12 hb11
  go_wp2_with fail
  refine (awake_any w13).mono ?_
  rintro e w14 ⟨rfl, hb14⟩
  go_wp2_with fail
  go_ret
  exact ⟨rfl, hb13.trans (hb14.mono hb13.size)⟩
end Go.Proofs.Ytgicgmaiolfpkaa
