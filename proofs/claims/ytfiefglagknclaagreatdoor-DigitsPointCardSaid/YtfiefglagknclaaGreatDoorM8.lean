/-
  Texts of this proof, joined (by wip/bin/bundle.py): Dig3, Dig13, Dig14, Dig15, Fmt.
-/
import Derived.Test.YtfiefglagknclaaGreatDoorM7
import Derived.Lib.ItoaMem
import Derived.Lib.Walk
import Derived.Lib.Hide
import Derived.WalkKit
import Derived.BigCall
import Derived.BigGuard
import Derived.ProofKit
import Derived.Below
/-
  The program's ratio.Make. (Printed by wip/bin/gen_dig3.py.)
-/
namespace Go.Proofs.YtfiefglagknclaaGreatDoor
open Go.RowKit
set_option maxHeartbeats 4000000
set_option maxRecDepth 100000
set_option linter.unusedVariables false

theorem pDivMod_res {w : World} {v1 v2 : Value} {l1 l2 : List Nat} (h1 : IsRes w v1 l1) (h2 : IsRes w v2 l2) (o1 : Nt.Ok l1) (o2 : Nt.Ok l2) (s1 : l1.length ≤ 1000000) (s2 : l2.length ≤ 1000000) :
    Calls Tryz.prog 51 #[v1, v2] w fun e w' => ∃ u1 u2, e = .returned (.tuple #[u1, u2, .bool (decide (Nt.val l2 ≠ 0))]) ∧ IsRes w' u1 (Nt.digs (Nt.quo (Nt.val l1) (Nt.val l2))) ∧ IsRes w' u2 (Nt.digs (Nt.rest (Nt.val l1) (Nt.val l2))) ∧ Below w.heap.size w w' := by
  obtain ⟨A, c, rfl, a1, a2, a3, a4⟩ := h1
  obtain ⟨A', c', rfl, b1, b2, b3, b4⟩ := h2
  exact (divMod_any A A' c c' w.heap.size l1 l2 w a4 b4 (Nat.le_refl _) o1 o2 a1 b1 a2 b2 s1 s2 (.inr long_any)).mono (by
    rintro e w' ⟨u1, u2, rfl, r1, r2, hb'⟩
    exact ⟨u1, u2, rfl, r1, r2, hb'⟩)
theorem pGcd_res {w : World} {v1 v2 : Value} {l1 l2 : List Nat} (h1 : IsRes w v1 l1) (h2 : IsRes w v2 l2) (o1 : Nt.Ok l1) (o2 : Nt.Ok l2) (s1 : l1.length ≤ 1000000) (s2 : l2.length ≤ 1000000) :
    Calls Tryz.prog 50 #[v1, v2] w fun e w' => ∃ v, e = .returned v ∧ IsRes w' v (Nt.digs (Nat.gcd (Nt.val l1) (Nt.val l2))) ∧ Below w.heap.size w w' := by
  have h1' := h1
  have h2' := h2
  obtain ⟨A, c, rfl, -⟩ := h1
  obtain ⟨A', c', rfl, -⟩ := h2
  exact gcd_any A A' c c' l1 l2 w h1' h2' o1 o2 s1 s2
theorem digs_one : Nt.digs 1 = [1] := by rw [Nt.digs_pos (by decide)]; simp [Nt.digs_zero]
theorem one_digs (x : Nat) : (Nt.digs x == [1]) = (x == 1) := by
  rw [Bool.eq_iff_iff, beq_iff_eq, beq_iff_eq]
  constructor
  · intro h
    have := congrArg Nt.val h
    rw [Nt.val_digs] at this
    rw [this]; rfl
  · rintro rfl; exact digs_one
def frameMK (g : Nat) (P Q : Array Value) (xs : Nat → Value) : Act := { tmps := #[.agg P, .agg Q, .pointer (some ⟨g, 0, none⟩), .pointer (some ⟨g + 1, 0, none⟩), .pointer (some ⟨g + 1 + 1, 0, none⟩), .int .i64 0, xs 6, xs 7, undef, xs 0, xs 1, xs 2, xs 3, xs 4, xs 5, undef, undef, undef, undef, undef, undef, undef, undef, undef, undef, undef, undef, undef, undef, undef, undef, undef, undef, undef, undef, undef, undef, undef, undef, undef, undef, undef, undef, undef, undef, undef, undef, undef, undef, undef, undef, undef, undef, undef, undef, undef, undef, undef, undef, undef, undef, undef, undef, undef], defers := [] }
def predMK (g : Nat) (V1 V2 : Value) (l1 l2 : List Nat) : Nat → World → Value → Prop
  | 0, w, v => v = .pointer (some ⟨g, 1, none⟩)
  | 1, w, v => v = V1
  | 2, w, v => IsRes w v (Nt.digs (Nt.val l1))
  | 3, w, v => v = .pointer (some ⟨g + 1, 1, none⟩)
  | 4, w, v => v = V2
  | 5, w, v => IsRes w v (Nt.digs (Nt.val l2))
  | 6, w, v => IsRes w v (Nt.digs (Nt.val l1))
  | _, w, v => IsRes w v (Nt.digs (Nt.val l2))

theorem ratioMake_any (n1 n2 : Bool) (v1 v2 : Value) (l1 l2 : List Nat) (w : World) (h1 : IsRes w v1 l1) (h2 : IsRes w v2 l2) (o1 : Nt.Ok l1) (o2 : Nt.Ok l2) (s1 : l1.length ≤ 1000000) (s2 : l2.length ≤ 1000000) :
    Calls Tryz.prog 24 #[.agg #[.bool n1, v1], .agg #[.bool n2, v2]] w (MakeOut w (Rt.mk n1 n2 (Nt.val l1) (Nt.val l2))) := by
  obtain ⟨g, hg⟩ : ∃ g, g = w.heap.size := ⟨_, rfl⟩
  obtain ⟨W, hW⟩ : ∃ W, W = ((w.alloc (.cells #[.bool n1, v1] 57)).alloc (.cells #[.bool n2, v2] 57)).alloc (.cells #[.bool false, .slice none 0 0, .slice none 0 0] 26) := ⟨_, rfl⟩
  have hWs : W.heap.size = g + 1 + 1 + 1 := by rw [hW, hg]; simp
  have hWb : Below g w W := by rw [hW, hg]; exact (((Below.refl _ _).alloc (Nat.le_refl _) _).alloc (by simp) _).alloc (by simp; omega) _
  have hW0 : W.heap[g]? = some (.cells #[.bool n1, v1] 57 (0, 0)) := by rw [hW, hg]; exact (Below.heap_alloc _ _ _ (by simp; omega)).trans (heap_alloc2_old _ _ _)
  have hW1 : W.heap[g + 1]? = some (.cells #[.bool n2, v2] 57 (0, 0)) := by rw [hW, hg]; exact (Below.heap_alloc _ _ _ (by simp)).trans (heap_alloc2_new _ _ _)
  have HW2 : Hid (W.heap[g + 1 + 1]? = some (.cells #[.bool false, .slice none 0 0, .slice none 0 0] 26 (0, 0))) := Lib.hid (by
    rw [hW, hg]
    have := heap_alloc_new ((w.alloc (.cells #[.bool n1, v1] 57)).alloc (.cells #[.bool n2, v2] 57)) (.cells #[.bool false, .slice none 0 0, .slice none 0 0] 26)
    rwa [show ((w.alloc (.cells #[.bool n1, v1] 57)).alloc (.cells #[.bool n2, v2] 57)).heap.size = w.heap.size + 1 + 1 by simp] at this)
  have HQ : Hid (∀ wx, Below W.heap.size W wx → wx.cell? ⟨g, 1, none⟩ = some v1 ∧ wx.cell? ⟨g + 1, 1, none⟩ = some v2) := Lib.hid (fun wx hx => ⟨(cell_of_row wx g 1 _ _ _ ((hx.block g (by omega)).trans hW0)).trans rfl, (cell_of_row wx (g + 1) 1 _ _ _ ((hx.block (g + 1) (by omega)).trans hW1)).trans rfl⟩)
  have HQ0 : Hid (∀ wx, Below W.heap.size W wx → wx.cell? ⟨g, 0, none⟩ = some (.bool n1) ∧ wx.cell? ⟨g + 1, 0, none⟩ = some (.bool n2)) := Lib.hid (fun wx hx => ⟨(cell_of_row wx g 0 _ _ _ ((hx.block g (by omega)).trans hW0)).trans rfl, (cell_of_row wx (g + 1) 0 _ _ _ ((hx.block (g + 1) (by omega)).trans hW1)).trans rfl⟩)
  have hr1 : ∀ wx, Below W.heap.size W wx → IsRes wx v1 l1 := fun wx hx => (h1.below (by rw [← hg]; exact hWb)).below hx
  have hr2 : ∀ wx, Below W.heap.size W wx → IsRes wx v2 l2 := fun wx hx => (h2.below (by rw [← hg]; exact hWb)).below hx
  have N1 := Lib.hid (fun (wx : World) (hx : Below W.heap.size W wx) => wNorm_res (hr1 wx hx) o1 s1)
  have N2 := Lib.hid (fun (wx : World) (hx : Below W.heap.size W wx) => wNorm_res (hr2 wx hx) o2 s2)
  have d1 := Nt.digs_len_le o1
  have d2 := Nt.digs_len_le o2
  have HW := Lib.hid hW
  have HG := Lib.hid hg
  have hgl : g + 1 + 1 < W.heap.size := by omega
  obtain ⟨A1, c1, rfl, -⟩ := h1
  obtain ⟨A2, c2, rfl, -⟩ := h2
  clear hW hW0 hW1 hr1 hr2 hWs
  go_enter Tryz.func24, Tryz.ntmps24
  go_wp2_with fail
  rw [← HW.out, ← hg]
  clear hg
  refine wp_region_pred (frameMK g #[.bool n1, (.slice A1 l1.length c1)] #[.bool n2, (.slice A2 l2.length c2)]) W (predMK g (.slice A1 l1.length c1) (.slice A2 l2.length c2) l1 l2) (by kernel_rfl) ?_ (by kernel_rfl) (fun i => undef) rfl (Below.refl _ _) ?_ ?_
  · intro i w1 w2 v hv hb
    match i with
    | 0 => exact hv
    | 1 => exact hv
    | 2 => exact hv.below hb
    | 3 => exact hv
    | 4 => exact hv
    | 5 => exact hv.below hb
    | 6 => exact hv.below hb
    | i + 7 => exact hv.below hb
  · intro i xs w1 hi hb hdep
    have hi6 : i < 8 := hi
    clear hi
    rcases (show i = 0 ∨ i = 1 ∨ i = 2 ∨ i = 3 ∨ i = 4 ∨ i = 5 ∨ i = 6 ∨ i = 7 by omega) with rfl | rfl | rfl | rfl | rfl | rfl | rfl | rfl
    · refine wpOp_at rfl rfl ?_
      unfold frameMK Oper.wp
      go_simp
      exact ⟨_, by simp only [frameMK, upd]; simp [Act.put], rfl, Below.refl _ _⟩
    · have h0 : xs 0 = .pointer (some ⟨g, 1, none⟩) := hdep 0 (by kernel_rfl)
      refine wpOp_at rfl rfl ?_
      have q := (HQ.out w1 hb).1
      unfold frameMK Oper.wp
      simp only [h0]
      go_simp
      exact ⟨_, by simp only [frameMK, upd]; simp [Act.put, h0], rfl, Below.refl _ _⟩
    · have h1 : xs 1 = (.slice A1 l1.length c1) := hdep 1 (by kernel_rfl)
      refine wpOp_at rfl rfl ?_
      unfold frameMK Oper.wp
      simp only [h1]
      go_simp
      refine (N1.out w1 hb).mono ?_
      rintro e w2 ⟨v', rfl, hr, hb2⟩
      exact ⟨_, by simp only [frameMK, upd]; simp [Act.put, h1], hr, hb2⟩
    · refine wpOp_at rfl rfl ?_
      unfold frameMK Oper.wp
      go_simp
      exact ⟨_, by simp only [frameMK, upd]; simp [Act.put], rfl, Below.refl _ _⟩
    · have h3 : xs 3 = .pointer (some ⟨g + 1, 1, none⟩) := hdep 3 (by kernel_rfl)
      refine wpOp_at rfl rfl ?_
      have q := (HQ.out w1 hb).2
      unfold frameMK Oper.wp
      simp only [h3]
      go_simp
      exact ⟨_, by simp only [frameMK, upd]; simp [Act.put, h3], rfl, Below.refl _ _⟩
    · have h4 : xs 4 = (.slice A2 l2.length c2) := hdep 4 (by kernel_rfl)
      refine wpOp_at rfl rfl ?_
      unfold frameMK Oper.wp
      simp only [h4]
      go_simp
      refine (N2.out w1 hb).mono ?_
      rintro e w2 ⟨v', rfl, hr, hb2⟩
      exact ⟨_, by simp only [frameMK, upd]; simp [Act.put, h4], hr, hb2⟩
    · have r2 : IsRes w1 (xs 2) (Nt.digs (Nt.val l1)) := hdep 2 (by kernel_rfl)
      refine wpOp_at rfl rfl ?_
      unfold frameMK Oper.wp
      go_simp
      exact ⟨_, by simp only [frameMK, upd]; simp [Act.put], r2, Below.refl _ _⟩
    · have r5 : IsRes w1 (xs 5) (Nt.digs (Nt.val l2)) := hdep 5 (by kernel_rfl)
      refine wpOp_at rfl rfl ?_
      unfold frameMK Oper.wp
      go_simp
      exact ⟨_, by simp only [frameMK, upd]; simp [Act.put], r5, Below.refl _ _⟩
  · intro xs w1 hb hx
    have r6 : IsRes w1 (xs 6) (Nt.digs (Nt.val l1)) := hx 6 (by decide)
    have r7 : IsRes w1 (xs 7) (Nt.digs (Nt.val l2)) := hx 7 (by decide)
    clear hx
    obtain ⟨X, hX⟩ : ∃ X, X = Nt.val l1 := ⟨_, rfl⟩
    obtain ⟨Y, hY⟩ : ∃ Y, Y = Nt.val l2 := ⟨_, rfl⟩
    rw [← hX] at r6 d1 ⊢
    rw [← hY] at r7 d2 ⊢
    have HXv := Lib.hid hX
    have HYv := Lib.hid hY
    clear hX hY
    obtain ⟨x, hx⟩ : ∃ x, x = Nt.digs X := ⟨_, rfl⟩
    obtain ⟨y, hy⟩ : ∃ y, y = Nt.digs Y := ⟨_, rfl⟩
    have OX : Nt.Ok x := hx ▸ Nt.ok_digs X
    have OY : Nt.Ok y := hy ▸ Nt.ok_digs Y
    rw [← hx] at r6 d1
    rw [← hy] at r7 d2
    have HX2 := Lib.hid hx
    have HY2 := Lib.hid hy
    have HR1 := Lib.hid r6
    have HR2 := Lib.hid r7
    have HY0 : Hid (y.length = 0 ↔ Y = 0) := Lib.hid (by rw [hy, List.length_eq_zero_iff, Nt.digs_nil_iff])
    clear hx hy
    obtain ⟨C1, k1, f1, -⟩ := r6
    obtain ⟨C2, k2, f2, -⟩ := r7
    rw [f1] at HR1
    rw [f2] at HR2
    have p0 := (HQ0.out w1 hb).1
    have p0' := (HQ0.out w1 hb).2
    have HGA := Lib.hid ((hb.block (g + 1 + 1) hgl).trans HW2.out)
    have hxw : Below g w w1 := hWb.trans (hb.mono (by omega))
    have HI3 : Hid (∀ (b : Bool) (A : Option Addr) (k c : Nat) (A' : Option Addr) (k' c' : Nat), (Tryz.prog.info? 26).map (·.size) = some (#[.bool b, .slice A k c, .slice A' k' c'] : Array Value).size) := Lib.hid (fun _ _ _ _ _ _ _ => num_info)
    unfold frameMK
    simp only [f1, f2]
    by_cases hk0 : y.length = 0
    · have hz : ((y.length : Int) == 0) = true := by rw [hk0]; rfl
      have HK0 := Lib.hid (HY0.out.1 hk0)
      go_wp2_with (first
        | (with_reducible refine wpList_store_row rfl 26 (.tmp 4) (.tmp 18) rfl (g + 1 + 1) #[.bool false, .slice none 0 0, .slice none 0 0] rfl rfl 26 #[.bool false, .slice none 0 0, .slice none 0 0] HGA.out (HI3.out _ _ _ _ _ _ _) rfl (three_one _ _ _ _ _ _ _) ?_))
      refine bodyPost_ret (results_cell_row_tmp (by rfl) _ _ (g + 1 + 1) 26 #[.bool false, .slice none 0 0, .slice none 0 0] (0, 0) _ _ (by rfl) (by rfl) (rheap_same HGA.out) Tryz.underlying26 rfl (HI3.out _ _ _ _ _ _ _)) rfl (MakeOut.of (by unfold Rt.mk; rw [← HXv.out, ← HYv.out, if_pos HK0.out]; rfl) rfl (isRes_nil _) (isRes_nil _) (by rw [← HG.out]; exact rBelow.setRow hxw (by omega) _))
    · have hz : ((y.length : Int) == 0) = false := beq_eq_false_iff_ne.2 (by omega)
      have HY1 : Hid (Y ≠ 0) := Lib.hid (fun h => hk0 (HY0.out.2 h))
      by_cases hy1 : y = [1]
      · have q : (y == [1]) = true := by rw [hy1]; rfl
        have I1 := isOne_any _ _ w1 HR2.out
        rw [q] at I1
        have hYv : Y = 1 := by have := HY2.out; rw [hy1] at this; have := congrArg Nt.val this; rw [Nt.val_digs] at this; exact this.symm
        have HE1 : Hid (x = Nt.digs (X / Nat.gcd X Y)) := Lib.hid (by rw [hYv, Nat.gcd_one_right, Nat.div_one]; exact HX2.out)
        have HE2 : Hid (y = Nt.digs (Y / Nat.gcd X Y)) := Lib.hid (by rw [hYv, Nat.gcd_one_right, Nat.div_one, ← hYv]; exact HY2.out)
        have HI1 := Lib.hid I1
        have Hy1 := Lib.hid hy1
        clear hYv q I1 hy1
        go_wp2_with fail
        refine HI1.out.mono ?_
        rintro e w2 ⟨rfl, rfl⟩
        have HGB := HGA
        have hbw := hxw
        have HT1 := HR1
        have HT3 := HR2
        clear HGA hxw HI1
        have HX0 : Hid (x.length = 0 ↔ X = 0) := Lib.hid (by rw [HE1.out, List.length_eq_zero_iff, Nt.digs_nil_iff]; exact Rt.div_gcd_zero HY1.out)
        by_cases h32 : 32 < x.length
        · have g1 : decide ((32 : Int) < (x.length : Int)) = true := by simp; omega
          go_wp2_with (first
            | (with_reducible refine wpList_store_row rfl 26 (.tmp 4) (.tmp 50) rfl (g + 1 + 1) #[.bool false, .slice none 0 0, .slice none 0 0] rfl rfl 26 #[.bool false, .slice none 0 0, .slice none 0 0] HGB.out (HI3.out _ _ _ _ _ _ _) rfl (three_one _ _ _ _ _ _ _) ?_))
          refine bodyPost_ret (results_cell_row_tmp (by rfl) _ _ (g + 1 + 1) 26 #[.bool false, .slice none 0 0, .slice none 0 0] (0, 0) _ _ (by rfl) (by rfl) (rheap_same HGB.out) Tryz.underlying26 rfl (HI3.out _ _ _ _ _ _ _)) rfl (MakeOut.of (by unfold Rt.mk; rw [← HXv.out, ← HYv.out, if_neg HY1.out, ← HE1.out, ← HE2.out, if_pos (by omega)]; rfl) rfl (isRes_nil _) (isRes_nil _) (by rw [← HG.out]; exact rBelow.setRow hbw (by omega) _))
        · by_cases h33 : 32 < y.length
          · have g1 : decide ((32 : Int) < (x.length : Int)) = false := by simp; omega
            have g2 : decide ((32 : Int) < (y.length : Int)) = true := by simp; omega
            go_wp2_with (first
              | (with_reducible refine wpList_store_row rfl 26 (.tmp 4) (.tmp 50) rfl (g + 1 + 1) #[.bool false, .slice none 0 0, .slice none 0 0] rfl rfl 26 #[.bool false, .slice none 0 0, .slice none 0 0] HGB.out (HI3.out _ _ _ _ _ _ _) rfl (three_one _ _ _ _ _ _ _) ?_))
            refine bodyPost_ret (results_cell_row_tmp (by rfl) _ _ (g + 1 + 1) 26 #[.bool false, .slice none 0 0, .slice none 0 0] (0, 0) _ _ (by rfl) (by rfl) (rheap_same HGB.out) Tryz.underlying26 rfl (HI3.out _ _ _ _ _ _ _)) rfl (MakeOut.of (by unfold Rt.mk; rw [← HXv.out, ← HYv.out, if_neg HY1.out, ← HE1.out, ← HE2.out, if_pos (by omega)]; rfl) rfl (isRes_nil _) (isRes_nil _) (by rw [← HG.out]; exact rBelow.setRow hbw (by omega) _))
          · have g1 : decide ((32 : Int) < (x.length : Int)) = false := by simp; omega
            have g2 : decide ((32 : Int) < (y.length : Int)) = false := by simp; omega
            by_cases h34 : 0 < x.length
            · have g3 : decide ((0 : Int) < (x.length : Int)) = true := decide_eq_true (by omega)
              have HXB : Hid ((X == 0) = false) := Lib.hid (by have := HX0.out; simp; omega)
              cases n1
              · cases n2
                · go_wp2_with (first
                    | (with_reducible refine wpList_store_row rfl 26 (.tmp 4) (.tmp 63) rfl (g + 1 + 1) #[.bool false, .slice C1 x.length k1, .slice C2 y.length k2] rfl rfl 26 #[.bool false, .slice none 0 0, .slice none 0 0] HGB.out (HI3.out _ _ _ _ _ _ _) rfl (three_one _ _ _ _ _ _ _) ?_))
                  refine bodyPost_ret (results_cell_row_tmp (by rfl) _ _ (g + 1 + 1) 26 #[.bool false, .slice C1 x.length k1, .slice C2 y.length k2] (0, 0) _ _ (by rfl) (by rfl) (rheap_same HGB.out) Tryz.underlying26 rfl (HI3.out _ _ _ _ _ _ _)) rfl (MakeOut.of (by unfold Rt.mk; rw [← HXv.out, ← HYv.out, if_neg HY1.out, ← HE1.out, ← HE2.out, if_neg (by omega), HXB.out]; rfl) rfl (HT1.out.setRow HGB.out (three_no_int _ _ _ _ _ _ _) _) (HT3.out.setRow HGB.out (three_no_int _ _ _ _ _ _ _) _) (by rw [← HG.out]; exact rBelow.setRow hbw (by omega) _))
                · go_wp2_with (first
                    | (with_reducible refine wpList_store_row rfl 26 (.tmp 4) (.tmp 63) rfl (g + 1 + 1) #[.bool true, .slice C1 x.length k1, .slice C2 y.length k2] rfl rfl 26 #[.bool false, .slice none 0 0, .slice none 0 0] HGB.out (HI3.out _ _ _ _ _ _ _) rfl (three_one _ _ _ _ _ _ _) ?_))
                  refine bodyPost_ret (results_cell_row_tmp (by rfl) _ _ (g + 1 + 1) 26 #[.bool true, .slice C1 x.length k1, .slice C2 y.length k2] (0, 0) _ _ (by rfl) (by rfl) (rheap_same HGB.out) Tryz.underlying26 rfl (HI3.out _ _ _ _ _ _ _)) rfl (MakeOut.of (by unfold Rt.mk; rw [← HXv.out, ← HYv.out, if_neg HY1.out, ← HE1.out, ← HE2.out, if_neg (by omega), HXB.out]; rfl) rfl (HT1.out.setRow HGB.out (three_no_int _ _ _ _ _ _ _) _) (HT3.out.setRow HGB.out (three_no_int _ _ _ _ _ _ _) _) (by rw [← HG.out]; exact rBelow.setRow hbw (by omega) _))
              · cases n2
                · go_wp2_with (first
                    | (with_reducible refine wpList_store_row rfl 26 (.tmp 4) (.tmp 63) rfl (g + 1 + 1) #[.bool true, .slice C1 x.length k1, .slice C2 y.length k2] rfl rfl 26 #[.bool false, .slice none 0 0, .slice none 0 0] HGB.out (HI3.out _ _ _ _ _ _ _) rfl (three_one _ _ _ _ _ _ _) ?_))
                  refine bodyPost_ret (results_cell_row_tmp (by rfl) _ _ (g + 1 + 1) 26 #[.bool true, .slice C1 x.length k1, .slice C2 y.length k2] (0, 0) _ _ (by rfl) (by rfl) (rheap_same HGB.out) Tryz.underlying26 rfl (HI3.out _ _ _ _ _ _ _)) rfl (MakeOut.of (by unfold Rt.mk; rw [← HXv.out, ← HYv.out, if_neg HY1.out, ← HE1.out, ← HE2.out, if_neg (by omega), HXB.out]; rfl) rfl (HT1.out.setRow HGB.out (three_no_int _ _ _ _ _ _ _) _) (HT3.out.setRow HGB.out (three_no_int _ _ _ _ _ _ _) _) (by rw [← HG.out]; exact rBelow.setRow hbw (by omega) _))
                · go_wp2_with (first
                    | (with_reducible refine wpList_store_row rfl 26 (.tmp 4) (.tmp 63) rfl (g + 1 + 1) #[.bool false, .slice C1 x.length k1, .slice C2 y.length k2] rfl rfl 26 #[.bool false, .slice none 0 0, .slice none 0 0] HGB.out (HI3.out _ _ _ _ _ _ _) rfl (three_one _ _ _ _ _ _ _) ?_))
                  refine bodyPost_ret (results_cell_row_tmp (by rfl) _ _ (g + 1 + 1) 26 #[.bool false, .slice C1 x.length k1, .slice C2 y.length k2] (0, 0) _ _ (by rfl) (by rfl) (rheap_same HGB.out) Tryz.underlying26 rfl (HI3.out _ _ _ _ _ _ _)) rfl (MakeOut.of (by unfold Rt.mk; rw [← HXv.out, ← HYv.out, if_neg HY1.out, ← HE1.out, ← HE2.out, if_neg (by omega), HXB.out]; rfl) rfl (HT1.out.setRow HGB.out (three_no_int _ _ _ _ _ _ _) _) (HT3.out.setRow HGB.out (three_no_int _ _ _ _ _ _ _) _) (by rw [← HG.out]; exact rBelow.setRow hbw (by omega) _))
            · have g3 : decide ((0 : Int) < (x.length : Int)) = false := decide_eq_false (by omega)
              have HXB : Hid ((X == 0) = true) := Lib.hid (by have := HX0.out; simp; omega)
              go_wp2_with (first
                | (with_reducible refine wpList_store_row rfl 26 (.tmp 4) (.tmp 63) rfl (g + 1 + 1) #[.bool false, .slice C1 x.length k1, .slice C2 y.length k2] rfl rfl 26 #[.bool false, .slice none 0 0, .slice none 0 0] HGB.out (HI3.out _ _ _ _ _ _ _) rfl (three_one _ _ _ _ _ _ _) ?_))
              refine bodyPost_ret (results_cell_row_tmp (by rfl) _ _ (g + 1 + 1) 26 #[.bool false, .slice C1 x.length k1, .slice C2 y.length k2] (0, 0) _ _ (by rfl) (by rfl) (rheap_same HGB.out) Tryz.underlying26 rfl (HI3.out _ _ _ _ _ _ _)) rfl (MakeOut.of (by unfold Rt.mk; rw [← HXv.out, ← HYv.out, if_neg HY1.out, ← HE1.out, ← HE2.out, if_neg (by omega), HXB.out]; rfl) rfl (HT1.out.setRow HGB.out (three_no_int _ _ _ _ _ _ _) _) (HT3.out.setRow HGB.out (three_no_int _ _ _ _ _ _ _) _) (by rw [← HG.out]; exact rBelow.setRow hbw (by omega) _))
      · have q : (y == [1]) = false := beq_eq_false_iff_ne.2 hy1
        have I1 := isOne_any _ _ w1 HR2.out
        rw [q] at I1
        have HI1 := Lib.hid I1
        have hvx : Nt.val x = X := by rw [HX2.out, Nt.val_digs]
        have hvy : Nt.val y = Y := by rw [HY2.out, Nt.val_digs]
        have HVX := Lib.hid hvx
        have HVY := Lib.hid hvy
        obtain ⟨G, hG⟩ : ∃ G, G = Nat.gcd X Y := ⟨_, rfl⟩
        have GC := pGcd_res HR1.out HR2.out OX OY (by omega) (by omega)
        rw [hvx, hvy, ← hG] at GC
        have HGC := Lib.hid GC
        have HGG := Lib.hid hG
        have HG0 : Hid (G ≠ 0) := Lib.hid (by rw [hG]; have := Nat.gcd_pos_of_pos_right X (Nat.pos_of_ne_zero HY1.out); omega)
        have hGl : (Nt.digs G).length ≤ 1000000 := by
          have := Nt.digs_len_le_of (show G ≤ Y by rw [hG]; exact Nat.le_of_dvd (Nat.pos_of_ne_zero HY1.out) (Nat.gcd_dvd_right X Y))
          rw [← HY2.out] at this
          omega
        have hgl1 := blk_lt HGA.out
        clear hy1 q I1 hvx hvy GC hG
        go_wp2_with fail
        refine HI1.out.mono ?_
        rintro e w2 ⟨rfl, rfl⟩
        clear HI1
        go_wp2_with fail
        refine HGC.out.mono ?_
        rintro e w2 ⟨v3, rfl, hr3, hb3⟩
        have HR3 := Lib.hid hr3
        have HR1b := Lib.hid (HR1.out.below hb3)
        have HR2b := Lib.hid (HR2.out.below hb3)
        have HGA2 := Lib.hid ((hb3.block (g + 1 + 1) (by omega)).trans HGA.out)
        have hxw2 : Below g w w2 := hxw.trans (hb3.mono (by omega))
        have P0 := Lib.hid ((hb3.cell (p := ⟨g, 0, none⟩) (show g < _ by omega)).trans p0)
        have P0' := Lib.hid ((hb3.cell (p := ⟨g + 1, 0, none⟩) (show g + 1 < _ by omega)).trans p0')
        have I3 := isOne_any v3 (Nt.digs G) w2 hr3
        rw [one_digs] at I3
        have HI3' := Lib.hid I3
        have hs3 := hb3.size
        have hgl2 : g + 1 + 1 < w2.heap.size := by omega
        clear hr3 hb3 p0 p0' I3 HGC HGA hxw
        by_cases hg1 : G = 1
        · have q3 : (G == 1) = true := by rw [hg1]; rfl
          rw [q3] at HI3'
          have HE1 : Hid (x = Nt.digs (X / Nat.gcd X Y)) := Lib.hid (by rw [← HGG.out, hg1, Nat.div_one]; exact HX2.out)
          have HE2 : Hid (y = Nt.digs (Y / Nat.gcd X Y)) := Lib.hid (by rw [← HGG.out, hg1, Nat.div_one]; exact HY2.out)
          clear hg1 q3
          go_wp2_with fail
          refine HI3'.out.mono ?_
          rintro e w3 ⟨rfl, rfl⟩
          have HGB := HGA2
          have hbw := hxw2
          have HT1 := HR1b
          have HT3 := HR2b
          have p0 := P0.out
          have p0' := P0'.out
          clear HGA2 hxw2 HI3' P0 P0'
          have HX0 : Hid (x.length = 0 ↔ X = 0) := Lib.hid (by rw [HE1.out, List.length_eq_zero_iff, Nt.digs_nil_iff]; exact Rt.div_gcd_zero HY1.out)
          by_cases h32 : 32 < x.length
          · have g1 : decide ((32 : Int) < (x.length : Int)) = true := by simp; omega
            go_wp2_with (first
              | (with_reducible refine wpList_store_row rfl 26 (.tmp 4) (.tmp 50) rfl (g + 1 + 1) #[.bool false, .slice none 0 0, .slice none 0 0] rfl rfl 26 #[.bool false, .slice none 0 0, .slice none 0 0] HGB.out (HI3.out _ _ _ _ _ _ _) rfl (three_one _ _ _ _ _ _ _) ?_))
            refine bodyPost_ret (results_cell_row_tmp (by rfl) _ _ (g + 1 + 1) 26 #[.bool false, .slice none 0 0, .slice none 0 0] (0, 0) _ _ (by rfl) (by rfl) (rheap_same HGB.out) Tryz.underlying26 rfl (HI3.out _ _ _ _ _ _ _)) rfl (MakeOut.of (by unfold Rt.mk; rw [← HXv.out, ← HYv.out, if_neg HY1.out, ← HE1.out, ← HE2.out, if_pos (by omega)]; rfl) rfl (isRes_nil _) (isRes_nil _) (by rw [← HG.out]; exact rBelow.setRow hbw (by omega) _))
          · by_cases h33 : 32 < y.length
            · have g1 : decide ((32 : Int) < (x.length : Int)) = false := by simp; omega
              have g2 : decide ((32 : Int) < (y.length : Int)) = true := by simp; omega
              go_wp2_with (first
                | (with_reducible refine wpList_store_row rfl 26 (.tmp 4) (.tmp 50) rfl (g + 1 + 1) #[.bool false, .slice none 0 0, .slice none 0 0] rfl rfl 26 #[.bool false, .slice none 0 0, .slice none 0 0] HGB.out (HI3.out _ _ _ _ _ _ _) rfl (three_one _ _ _ _ _ _ _) ?_))
              refine bodyPost_ret (results_cell_row_tmp (by rfl) _ _ (g + 1 + 1) 26 #[.bool false, .slice none 0 0, .slice none 0 0] (0, 0) _ _ (by rfl) (by rfl) (rheap_same HGB.out) Tryz.underlying26 rfl (HI3.out _ _ _ _ _ _ _)) rfl (MakeOut.of (by unfold Rt.mk; rw [← HXv.out, ← HYv.out, if_neg HY1.out, ← HE1.out, ← HE2.out, if_pos (by omega)]; rfl) rfl (isRes_nil _) (isRes_nil _) (by rw [← HG.out]; exact rBelow.setRow hbw (by omega) _))
            · have g1 : decide ((32 : Int) < (x.length : Int)) = false := by simp; omega
              have g2 : decide ((32 : Int) < (y.length : Int)) = false := by simp; omega
              by_cases h34 : 0 < x.length
              · have g3 : decide ((0 : Int) < (x.length : Int)) = true := decide_eq_true (by omega)
                have HXB : Hid ((X == 0) = false) := Lib.hid (by have := HX0.out; simp; omega)
                cases n1
                · cases n2
                  · go_wp2_with (first
                      | (with_reducible refine wpList_store_row rfl 26 (.tmp 4) (.tmp 63) rfl (g + 1 + 1) #[.bool false, .slice C1 x.length k1, .slice C2 y.length k2] rfl rfl 26 #[.bool false, .slice none 0 0, .slice none 0 0] HGB.out (HI3.out _ _ _ _ _ _ _) rfl (three_one _ _ _ _ _ _ _) ?_))
                    refine bodyPost_ret (results_cell_row_tmp (by rfl) _ _ (g + 1 + 1) 26 #[.bool false, .slice C1 x.length k1, .slice C2 y.length k2] (0, 0) _ _ (by rfl) (by rfl) (rheap_same HGB.out) Tryz.underlying26 rfl (HI3.out _ _ _ _ _ _ _)) rfl (MakeOut.of (by unfold Rt.mk; rw [← HXv.out, ← HYv.out, if_neg HY1.out, ← HE1.out, ← HE2.out, if_neg (by omega), HXB.out]; rfl) rfl (HT1.out.setRow HGB.out (three_no_int _ _ _ _ _ _ _) _) (HT3.out.setRow HGB.out (three_no_int _ _ _ _ _ _ _) _) (by rw [← HG.out]; exact rBelow.setRow hbw (by omega) _))
                  · go_wp2_with (first
                      | (with_reducible refine wpList_store_row rfl 26 (.tmp 4) (.tmp 63) rfl (g + 1 + 1) #[.bool true, .slice C1 x.length k1, .slice C2 y.length k2] rfl rfl 26 #[.bool false, .slice none 0 0, .slice none 0 0] HGB.out (HI3.out _ _ _ _ _ _ _) rfl (three_one _ _ _ _ _ _ _) ?_))
                    refine bodyPost_ret (results_cell_row_tmp (by rfl) _ _ (g + 1 + 1) 26 #[.bool true, .slice C1 x.length k1, .slice C2 y.length k2] (0, 0) _ _ (by rfl) (by rfl) (rheap_same HGB.out) Tryz.underlying26 rfl (HI3.out _ _ _ _ _ _ _)) rfl (MakeOut.of (by unfold Rt.mk; rw [← HXv.out, ← HYv.out, if_neg HY1.out, ← HE1.out, ← HE2.out, if_neg (by omega), HXB.out]; rfl) rfl (HT1.out.setRow HGB.out (three_no_int _ _ _ _ _ _ _) _) (HT3.out.setRow HGB.out (three_no_int _ _ _ _ _ _ _) _) (by rw [← HG.out]; exact rBelow.setRow hbw (by omega) _))
                · cases n2
                  · go_wp2_with (first
                      | (with_reducible refine wpList_store_row rfl 26 (.tmp 4) (.tmp 63) rfl (g + 1 + 1) #[.bool true, .slice C1 x.length k1, .slice C2 y.length k2] rfl rfl 26 #[.bool false, .slice none 0 0, .slice none 0 0] HGB.out (HI3.out _ _ _ _ _ _ _) rfl (three_one _ _ _ _ _ _ _) ?_))
                    refine bodyPost_ret (results_cell_row_tmp (by rfl) _ _ (g + 1 + 1) 26 #[.bool true, .slice C1 x.length k1, .slice C2 y.length k2] (0, 0) _ _ (by rfl) (by rfl) (rheap_same HGB.out) Tryz.underlying26 rfl (HI3.out _ _ _ _ _ _ _)) rfl (MakeOut.of (by unfold Rt.mk; rw [← HXv.out, ← HYv.out, if_neg HY1.out, ← HE1.out, ← HE2.out, if_neg (by omega), HXB.out]; rfl) rfl (HT1.out.setRow HGB.out (three_no_int _ _ _ _ _ _ _) _) (HT3.out.setRow HGB.out (three_no_int _ _ _ _ _ _ _) _) (by rw [← HG.out]; exact rBelow.setRow hbw (by omega) _))
                  · go_wp2_with (first
                      | (with_reducible refine wpList_store_row rfl 26 (.tmp 4) (.tmp 63) rfl (g + 1 + 1) #[.bool false, .slice C1 x.length k1, .slice C2 y.length k2] rfl rfl 26 #[.bool false, .slice none 0 0, .slice none 0 0] HGB.out (HI3.out _ _ _ _ _ _ _) rfl (three_one _ _ _ _ _ _ _) ?_))
                    refine bodyPost_ret (results_cell_row_tmp (by rfl) _ _ (g + 1 + 1) 26 #[.bool false, .slice C1 x.length k1, .slice C2 y.length k2] (0, 0) _ _ (by rfl) (by rfl) (rheap_same HGB.out) Tryz.underlying26 rfl (HI3.out _ _ _ _ _ _ _)) rfl (MakeOut.of (by unfold Rt.mk; rw [← HXv.out, ← HYv.out, if_neg HY1.out, ← HE1.out, ← HE2.out, if_neg (by omega), HXB.out]; rfl) rfl (HT1.out.setRow HGB.out (three_no_int _ _ _ _ _ _ _) _) (HT3.out.setRow HGB.out (three_no_int _ _ _ _ _ _ _) _) (by rw [← HG.out]; exact rBelow.setRow hbw (by omega) _))
              · have g3 : decide ((0 : Int) < (x.length : Int)) = false := decide_eq_false (by omega)
                have HXB : Hid ((X == 0) = true) := Lib.hid (by have := HX0.out; simp; omega)
                go_wp2_with (first
                  | (with_reducible refine wpList_store_row rfl 26 (.tmp 4) (.tmp 63) rfl (g + 1 + 1) #[.bool false, .slice C1 x.length k1, .slice C2 y.length k2] rfl rfl 26 #[.bool false, .slice none 0 0, .slice none 0 0] HGB.out (HI3.out _ _ _ _ _ _ _) rfl (three_one _ _ _ _ _ _ _) ?_))
                refine bodyPost_ret (results_cell_row_tmp (by rfl) _ _ (g + 1 + 1) 26 #[.bool false, .slice C1 x.length k1, .slice C2 y.length k2] (0, 0) _ _ (by rfl) (by rfl) (rheap_same HGB.out) Tryz.underlying26 rfl (HI3.out _ _ _ _ _ _ _)) rfl (MakeOut.of (by unfold Rt.mk; rw [← HXv.out, ← HYv.out, if_neg HY1.out, ← HE1.out, ← HE2.out, if_neg (by omega), HXB.out]; rfl) rfl (HT1.out.setRow HGB.out (three_no_int _ _ _ _ _ _ _) _) (HT3.out.setRow HGB.out (three_no_int _ _ _ _ _ _ _) _) (by rw [← HG.out]; exact rBelow.setRow hbw (by omega) _))
        · have q3 : (G == 1) = false := beq_eq_false_iff_ne.2 hg1
          rw [q3] at HI3'
          have DM := pDivMod_res HR1b.out HR3.out OX (Nt.ok_digs G) (by omega) hGl
          rw [HVX.out, Nt.val_digs] at DM
          have HDM := Lib.hid DM
          clear hg1 q3 DM
          go_wp2_with fail
          refine HI3'.out.mono ?_
          rintro e w3 ⟨rfl, rfl⟩
          clear HI3'
          go_wp2_with fail
          refine HDM.out.mono ?_
          rintro e w4 ⟨u1, u2, rfl, t1, t2, hb4⟩
          have HT1a := Lib.hid t1
          have DN := pDivMod_res (HR2b.out.below hb4) (HR3.out.below hb4) OY (Nt.ok_digs G) (by omega) hGl
          rw [HVY.out, Nt.val_digs] at DN
          have HDN := Lib.hid DN
          have HGA3 := Lib.hid ((hb4.block (g + 1 + 1) (by omega)).trans HGA2.out)
          have hxw3 : Below g w w4 := hxw2.trans (hb4.mono (by omega))
          have P1 := Lib.hid ((hb4.cell (p := ⟨g, 0, none⟩) (show g < _ by omega)).trans P0.out)
          have P1' := Lib.hid ((hb4.cell (p := ⟨g + 1, 0, none⟩) (show g + 1 < _ by omega)).trans P0'.out)
          have hs4 := hb4.size
          clear t1 t2 hb4 DN HDM HGA2 hxw2 P0 P0' HR1b HR2b
          go_wp2_with fail
          refine HDN.out.mono ?_
          rintro e w5 ⟨u3, u4, rfl, t3, t4, hb5⟩
          have HGB := Lib.hid ((hb5.block (g + 1 + 1) (by omega)).trans HGA3.out)
          have hbw : Below g w w5 := hxw3.trans (hb5.mono (by omega))
          have P2 := Lib.hid ((hb5.cell (p := ⟨g, 0, none⟩) (show g < _ by omega)).trans P1.out)
          have P2' := Lib.hid ((hb5.cell (p := ⟨g + 1, 0, none⟩) (show g + 1 < _ by omega)).trans P1'.out)
          have hT1 := HT1a.out.below hb5
          obtain ⟨e1, he1⟩ : ∃ e1, e1 = Nt.digs (Nt.quo X G) := ⟨_, rfl⟩
          obtain ⟨e2, he2⟩ : ∃ e2, e2 = Nt.digs (Nt.quo Y G) := ⟨_, rfl⟩
          rw [← he1] at hT1
          rw [← he2] at t3
          rw [HGG.out] at he1 he2
          have HE1 : Hid (e1 = Nt.digs (X / Nat.gcd X Y)) := Lib.hid he1
          have HE2 : Hid (e2 = Nt.digs (Y / Nat.gcd X Y)) := Lib.hid he2
          have HT1 := Lib.hid hT1
          have HT3 := Lib.hid t3
          clear he1 he2 hT1 t3 t4 hb5 HDN HGA3 hxw3 P1 P1' HT1a
          have HX0 : Hid (e1.length = 0 ↔ X = 0) := Lib.hid (by rw [HE1.out, List.length_eq_zero_iff, Nt.digs_nil_iff]; exact Rt.div_gcd_zero HY1.out)
          obtain ⟨B1, a1, rfl, -⟩ := HT1.out
          obtain ⟨B2, a2, rfl, -⟩ := HT3.out
          have p0 := P2.out
          have p0' := P2'.out
          clear P2 P2'
          by_cases h32 : 32 < e1.length
          · have g1 : decide ((32 : Int) < (e1.length : Int)) = true := by simp; omega
            go_wp2_with (first
              | (with_reducible refine wpList_store_row rfl 26 (.tmp 4) (.tmp 50) rfl (g + 1 + 1) #[.bool false, .slice none 0 0, .slice none 0 0] rfl rfl 26 #[.bool false, .slice none 0 0, .slice none 0 0] HGB.out (HI3.out _ _ _ _ _ _ _) rfl (three_one _ _ _ _ _ _ _) ?_))
            refine bodyPost_ret (results_cell_row_tmp (by rfl) _ _ (g + 1 + 1) 26 #[.bool false, .slice none 0 0, .slice none 0 0] (0, 0) _ _ (by rfl) (by rfl) (rheap_same HGB.out) Tryz.underlying26 rfl (HI3.out _ _ _ _ _ _ _)) rfl (MakeOut.of (by unfold Rt.mk; rw [← HXv.out, ← HYv.out, if_neg HY1.out, ← HE1.out, ← HE2.out, if_pos (by omega)]; rfl) rfl (isRes_nil _) (isRes_nil _) (by rw [← HG.out]; exact rBelow.setRow hbw (by omega) _))
          · by_cases h33 : 32 < e2.length
            · have g1 : decide ((32 : Int) < (e1.length : Int)) = false := by simp; omega
              have g2 : decide ((32 : Int) < (e2.length : Int)) = true := by simp; omega
              go_wp2_with (first
                | (with_reducible refine wpList_store_row rfl 26 (.tmp 4) (.tmp 50) rfl (g + 1 + 1) #[.bool false, .slice none 0 0, .slice none 0 0] rfl rfl 26 #[.bool false, .slice none 0 0, .slice none 0 0] HGB.out (HI3.out _ _ _ _ _ _ _) rfl (three_one _ _ _ _ _ _ _) ?_))
              refine bodyPost_ret (results_cell_row_tmp (by rfl) _ _ (g + 1 + 1) 26 #[.bool false, .slice none 0 0, .slice none 0 0] (0, 0) _ _ (by rfl) (by rfl) (rheap_same HGB.out) Tryz.underlying26 rfl (HI3.out _ _ _ _ _ _ _)) rfl (MakeOut.of (by unfold Rt.mk; rw [← HXv.out, ← HYv.out, if_neg HY1.out, ← HE1.out, ← HE2.out, if_pos (by omega)]; rfl) rfl (isRes_nil _) (isRes_nil _) (by rw [← HG.out]; exact rBelow.setRow hbw (by omega) _))
            · have g1 : decide ((32 : Int) < (e1.length : Int)) = false := by simp; omega
              have g2 : decide ((32 : Int) < (e2.length : Int)) = false := by simp; omega
              by_cases h34 : 0 < e1.length
              · have g3 : decide ((0 : Int) < (e1.length : Int)) = true := decide_eq_true (by omega)
                have HXB : Hid ((X == 0) = false) := Lib.hid (by have := HX0.out; simp; omega)
                cases n1
                · cases n2
                  · go_wp2_with (first
                      | (with_reducible refine wpList_store_row rfl 26 (.tmp 4) (.tmp 63) rfl (g + 1 + 1) #[.bool false, .slice B1 e1.length a1, .slice B2 e2.length a2] rfl rfl 26 #[.bool false, .slice none 0 0, .slice none 0 0] HGB.out (HI3.out _ _ _ _ _ _ _) rfl (three_one _ _ _ _ _ _ _) ?_))
                    refine bodyPost_ret (results_cell_row_tmp (by rfl) _ _ (g + 1 + 1) 26 #[.bool false, .slice B1 e1.length a1, .slice B2 e2.length a2] (0, 0) _ _ (by rfl) (by rfl) (rheap_same HGB.out) Tryz.underlying26 rfl (HI3.out _ _ _ _ _ _ _)) rfl (MakeOut.of (by unfold Rt.mk; rw [← HXv.out, ← HYv.out, if_neg HY1.out, ← HE1.out, ← HE2.out, if_neg (by omega), HXB.out]; rfl) rfl (HT1.out.setRow HGB.out (three_no_int _ _ _ _ _ _ _) _) (HT3.out.setRow HGB.out (three_no_int _ _ _ _ _ _ _) _) (by rw [← HG.out]; exact rBelow.setRow hbw (by omega) _))
                  · go_wp2_with (first
                      | (with_reducible refine wpList_store_row rfl 26 (.tmp 4) (.tmp 63) rfl (g + 1 + 1) #[.bool true, .slice B1 e1.length a1, .slice B2 e2.length a2] rfl rfl 26 #[.bool false, .slice none 0 0, .slice none 0 0] HGB.out (HI3.out _ _ _ _ _ _ _) rfl (three_one _ _ _ _ _ _ _) ?_))
                    refine bodyPost_ret (results_cell_row_tmp (by rfl) _ _ (g + 1 + 1) 26 #[.bool true, .slice B1 e1.length a1, .slice B2 e2.length a2] (0, 0) _ _ (by rfl) (by rfl) (rheap_same HGB.out) Tryz.underlying26 rfl (HI3.out _ _ _ _ _ _ _)) rfl (MakeOut.of (by unfold Rt.mk; rw [← HXv.out, ← HYv.out, if_neg HY1.out, ← HE1.out, ← HE2.out, if_neg (by omega), HXB.out]; rfl) rfl (HT1.out.setRow HGB.out (three_no_int _ _ _ _ _ _ _) _) (HT3.out.setRow HGB.out (three_no_int _ _ _ _ _ _ _) _) (by rw [← HG.out]; exact rBelow.setRow hbw (by omega) _))
                · cases n2
                  · go_wp2_with (first
                      | (with_reducible refine wpList_store_row rfl 26 (.tmp 4) (.tmp 63) rfl (g + 1 + 1) #[.bool true, .slice B1 e1.length a1, .slice B2 e2.length a2] rfl rfl 26 #[.bool false, .slice none 0 0, .slice none 0 0] HGB.out (HI3.out _ _ _ _ _ _ _) rfl (three_one _ _ _ _ _ _ _) ?_))
                    refine bodyPost_ret (results_cell_row_tmp (by rfl) _ _ (g + 1 + 1) 26 #[.bool true, .slice B1 e1.length a1, .slice B2 e2.length a2] (0, 0) _ _ (by rfl) (by rfl) (rheap_same HGB.out) Tryz.underlying26 rfl (HI3.out _ _ _ _ _ _ _)) rfl (MakeOut.of (by unfold Rt.mk; rw [← HXv.out, ← HYv.out, if_neg HY1.out, ← HE1.out, ← HE2.out, if_neg (by omega), HXB.out]; rfl) rfl (HT1.out.setRow HGB.out (three_no_int _ _ _ _ _ _ _) _) (HT3.out.setRow HGB.out (three_no_int _ _ _ _ _ _ _) _) (by rw [← HG.out]; exact rBelow.setRow hbw (by omega) _))
                  · go_wp2_with (first
                      | (with_reducible refine wpList_store_row rfl 26 (.tmp 4) (.tmp 63) rfl (g + 1 + 1) #[.bool false, .slice B1 e1.length a1, .slice B2 e2.length a2] rfl rfl 26 #[.bool false, .slice none 0 0, .slice none 0 0] HGB.out (HI3.out _ _ _ _ _ _ _) rfl (three_one _ _ _ _ _ _ _) ?_))
                    refine bodyPost_ret (results_cell_row_tmp (by rfl) _ _ (g + 1 + 1) 26 #[.bool false, .slice B1 e1.length a1, .slice B2 e2.length a2] (0, 0) _ _ (by rfl) (by rfl) (rheap_same HGB.out) Tryz.underlying26 rfl (HI3.out _ _ _ _ _ _ _)) rfl (MakeOut.of (by unfold Rt.mk; rw [← HXv.out, ← HYv.out, if_neg HY1.out, ← HE1.out, ← HE2.out, if_neg (by omega), HXB.out]; rfl) rfl (HT1.out.setRow HGB.out (three_no_int _ _ _ _ _ _ _) _) (HT3.out.setRow HGB.out (three_no_int _ _ _ _ _ _ _) _) (by rw [← HG.out]; exact rBelow.setRow hbw (by omega) _))
              · have g3 : decide ((0 : Int) < (e1.length : Int)) = false := decide_eq_false (by omega)
                have HXB : Hid ((X == 0) = true) := Lib.hid (by have := HX0.out; simp; omega)
                go_wp2_with (first
                  | (with_reducible refine wpList_store_row rfl 26 (.tmp 4) (.tmp 63) rfl (g + 1 + 1) #[.bool false, .slice B1 e1.length a1, .slice B2 e2.length a2] rfl rfl 26 #[.bool false, .slice none 0 0, .slice none 0 0] HGB.out (HI3.out _ _ _ _ _ _ _) rfl (three_one _ _ _ _ _ _ _) ?_))
                refine bodyPost_ret (results_cell_row_tmp (by rfl) _ _ (g + 1 + 1) 26 #[.bool false, .slice B1 e1.length a1, .slice B2 e2.length a2] (0, 0) _ _ (by rfl) (by rfl) (rheap_same HGB.out) Tryz.underlying26 rfl (HI3.out _ _ _ _ _ _ _)) rfl (MakeOut.of (by unfold Rt.mk; rw [← HXv.out, ← HYv.out, if_neg HY1.out, ← HE1.out, ← HE2.out, if_neg (by omega), HXB.out]; rfl) rfl (HT1.out.setRow HGB.out (three_no_int _ _ _ _ _ _ _) _) (HT3.out.setRow HGB.out (three_no_int _ _ _ _ _ _ _) _) (by rw [← HG.out]; exact rBelow.setRow hbw (by omega) _))
end Go.Proofs.YtfiefglagknclaaGreatDoor

/-
  By the reference: whole numbers multiplied (scrimref03.Mul); numbers multiplied and divided (scrimref04.Mul, Div), scrimref04.Whole, Of. (Printed by wip/bin/gen_dig13.py.)
-/
namespace Go.Proofs.YtfiefglagknclaaGreatDoor
open Go.RowKit
set_option maxHeartbeats 4000000
set_option maxRecDepth 100000
set_option linter.unusedVariables false

theorem setRow2 {w : World} {g : Nat} {t : TypeId} {x y : Value} (h : w.heap[g]? = some (.cells #[x, y] t (0, 0))) (a b : Value) : (w.setCell ⟨g, 0, none⟩ a).setCell ⟨g, 1, none⟩ b = w.setRow g #[a, b] := by
  obtain ⟨heap, os, tape, output, drawn⟩ := w
  simp only [World.setCell, World.setRow] at h ⊢
  congr 1
  apply Array.ext_getElem?
  intro i
  simp only [Array.getElem?_modify]
  by_cases e : g = i
  · subst e
    simp [h]
  · simp [e]
theorem setRow3' {w : World} {g : Nat} {t : TypeId} {x y z : Value} (h : w.heap[g]? = some (.cells #[x, y, z] t (0, 0))) (a b c : Value) : ((w.setCell ⟨g, 0, none⟩ a).setCell ⟨g, 1, none⟩ b).setCell ⟨g, 2, none⟩ c = w.setRow g #[a, b, c] := by
  obtain ⟨heap, os, tape, output, drawn⟩ := w
  simp only [World.setCell, World.setRow] at h ⊢
  congr 1
  apply Array.ext_getElem?
  intro i
  simp only [Array.getElem?_modify]
  by_cases e : g = i
  · subst e
    simp [h]
  · simp [e]
theorem res_slice {w : World} {v : Value} {l : List Nat} (h : IsRes w v l) : ∃ A c, v = .slice A l.length c := by obtain ⟨A, c, e, -⟩ := h; exact ⟨A, c, e⟩

def frameMU (g : Nat) (P Q : Array Value) (xs : Nat → Value) : Act := { tmps := #[.agg P, .agg Q, .pointer (some ⟨g, 0, none⟩), .pointer (some ⟨g + 1, 0, none⟩), .pointer (some ⟨g + 1 + 1, 0, none⟩), xs 0, xs 1, xs 2, xs 3, xs 4, xs 5, xs 6, xs 7, xs 8, xs 9, xs 10, xs 11, xs 12, xs 13, xs 14, xs 15], defers := [] }
def predMU (g : Nat) (V1 V2 : Value) (n1 n2 b1 b2 R : Bool) (dx dy D : List Nat) : Nat → World → Value → Prop
  | 0, w, v => v = .agg #[.bool n1, V1]
  | 1, w, v => ∃ A c, v = .agg #[.bool b1, .slice A dx.length c]
  | 2, w, v => v = .bool b1
  | 3, w, v => v = .agg #[.bool n2, V2]
  | 4, w, v => ∃ A c, v = .agg #[.bool b2, .slice A dy.length c]
  | 5, w, v => v = .bool b2
  | 6, w, v => v = .bool (!(b1 == b2))
  | 7, w, v => v = .pointer (some ⟨g, 1, none⟩)
  | 8, w, v => v = V1
  | 9, w, v => IsRes w v dx
  | 10, w, v => v = .pointer (some ⟨g + 1, 1, none⟩)
  | 11, w, v => v = V2
  | 12, w, v => IsRes w v dy
  | 13, w, v => ResL w v D
  | 14, w, v => ∃ u, v = .agg #[.bool (!(b1 == b2)), u] ∧ ResL w u D
  | _, w, v => ∃ u, v = .agg #[.bool R, u] ∧ ResL w u D
theorem field_int3 (b : Bool) (A : Option Addr) (k c : Nat) (w : World) : (Instr.field 49 (.agg #[.bool b, .slice A k c]) 0).run Tryz.prog w = .ok (.bool b) w := by kernel_rfl
theorem mul3_any (n1 n2 : Bool) (v1 v2 : Value) (x y : Nat) (w : World) (h1 : ResL w v1 (Nt.digs x)) (h2 : ResL w v2 (Nt.digs y)) (hs : (Nt.digs x).length + (Nt.digs y).length ≤ 64) :
    Calls Tryz.prog 27 #[.agg #[.bool n1, v1], .agg #[.bool n2, v2]] w (Int3Out w (Rt.nrm (Rt.nrm n1 x != Rt.nrm n2 y) (x * y)) (Nt.digs (x * y))) := by
  obtain ⟨g, hg⟩ : ∃ g, g = w.heap.size := ⟨_, rfl⟩
  obtain ⟨W, hW⟩ : ∃ W, W = ((w.alloc (.cells #[.bool n1, v1] 49)).alloc (.cells #[.bool n2, v2] 49)).alloc (.cells #[.bool false, .slice none 0 0] 49) := ⟨_, rfl⟩
  have hWs : W.heap.size = g + 1 + 1 + 1 := by rw [hW, hg]; simp
  have hWb : Below g w W := by rw [hW, hg]; exact (((Below.refl _ _).alloc (Nat.le_refl _) _).alloc (by simp) _).alloc (by simp; omega) _
  have hW0 : W.heap[g]? = some (.cells #[.bool n1, v1] 49 (0, 0)) := by rw [hW, hg]; exact (Below.heap_alloc _ _ _ (by simp; omega)).trans (heap_alloc2_old _ _ _)
  have hW1 : W.heap[g + 1]? = some (.cells #[.bool n2, v2] 49 (0, 0)) := by rw [hW, hg]; exact (Below.heap_alloc _ _ _ (by simp)).trans (heap_alloc2_new _ _ _)
  have hW2 : W.heap[g + 1 + 1]? = some (.cells #[.bool false, .slice none 0 0] 49 (0, 0)) := by
    rw [hW, hg]
    have := heap_alloc_new ((w.alloc (.cells #[.bool n1, v1] 49)).alloc (.cells #[.bool n2, v2] 49)) (.cells #[.bool false, .slice none 0 0] 49)
    rwa [show ((w.alloc (.cells #[.bool n1, v1] 49)).alloc (.cells #[.bool n2, v2] 49)).heap.size = w.heap.size + 1 + 1 by simp] at this
  have HC : Hid (∀ wx, Below W.heap.size W wx → wx.cell? ⟨g, 0, none⟩ = some (.bool n1) ∧ wx.cell? ⟨g, 1, none⟩ = some v1 ∧ wx.cell? ⟨g + 1, 0, none⟩ = some (.bool n2) ∧ wx.cell? ⟨g + 1, 1, none⟩ = some v2) := Lib.hid (fun wx hx => ⟨(cell_of_row wx g 0 _ _ _ ((hx.block g (by omega)).trans hW0)).trans rfl, (cell_of_row wx g 1 _ _ _ ((hx.block g (by omega)).trans hW0)).trans rfl, (cell_of_row wx (g + 1) 0 _ _ _ ((hx.block (g + 1) (by omega)).trans hW1)).trans rfl, (cell_of_row wx (g + 1) 1 _ _ _ ((hx.block (g + 1) (by omega)).trans hW1)).trans rfl⟩)
  have HG2 : Hid (∀ wx, Below W.heap.size W wx → wx.heap[g + 1 + 1]? = some (.cells #[.bool false, .slice none 0 0] 49 (0, 0))) := Lib.hid (fun wx hx => (hx.block (g + 1 + 1) (by omega)).trans hW2)
  have HW0 := Lib.hid hW0
  have HW1 := Lib.hid hW1
  have h1' : ResL W v1 (Nt.digs x) := h1.below (by rw [← hg]; exact hWb)
  have h2' : ResL W v2 (Nt.digs y) := h2.below (by rw [← hg]; exact hWb)
  have N1 : Hid (∀ wx, Below W.heap.size W wx → Calls Tryz.prog 39 #[.agg #[.bool n1, v1]] wx fun e w' => ∃ A c, e = .returned (.agg #[.bool (Rt.nrm n1 x), .slice A (Nt.digs x).length c]) ∧ Below wx.heap.size wx w') := Lib.hid (fun wx hx => by
    have := norm3_any n1 v1 _ wx (h1'.below hx)
    rw [Nt.val_digs] at this
    refine this.mono ?_
    rintro e w' ⟨v, rfl, hr, hb⟩
    obtain ⟨A, c, rfl⟩ := res_slice hr.1
    exact ⟨A, c, rfl, hb⟩)
  have N2 : Hid (∀ wx, Below W.heap.size W wx → Calls Tryz.prog 39 #[.agg #[.bool n2, v2]] wx fun e w' => ∃ A c, e = .returned (.agg #[.bool (Rt.nrm n2 y), .slice A (Nt.digs y).length c]) ∧ Below wx.heap.size wx w') := Lib.hid (fun wx hx => by
    have := norm3_any n2 v2 _ wx (h2'.below hx)
    rw [Nt.val_digs] at this
    refine this.mono ?_
    rintro e w' ⟨v, rfl, hr, hb⟩
    obtain ⟨A, c, rfl⟩ := res_slice hr.1
    exact ⟨A, c, rfl, hb⟩)
  have M1 : Hid (∀ wx, Below W.heap.size W wx → Calls Tryz.prog 38 #[v1] wx fun e w' => ∃ v, e = .returned v ∧ IsRes w' v (Nt.digs x) ∧ Below wx.heap.size wx w') := Lib.hid (fun wx hx => by
    have := rNorm_res (w0 := W) (h1'.below hx).1 h1'.2.1 (by have := h1'.2.2; omega) hx
    rw [Nt.val_digs] at this
    exact this.mono (by rintro e w' ⟨v, rfl, hr, -, hb⟩; exact ⟨v, rfl, hr, hb⟩))
  have M2 : Hid (∀ wx, Below W.heap.size W wx → Calls Tryz.prog 38 #[v2] wx fun e w' => ∃ v, e = .returned v ∧ IsRes w' v (Nt.digs y) ∧ Below wx.heap.size wx w') := Lib.hid (fun wx hx => by
    have := rNorm_res (w0 := W) (h2'.below hx).1 h2'.2.1 (by have := h2'.2.2; omega) hx
    rw [Nt.val_digs] at this
    exact this.mono (by rintro e w' ⟨v, rfl, hr, -, hb⟩; exact ⟨v, rfl, hr, hb⟩))
  have MU : Hid (∀ wx u1 u2, Below W.heap.size W wx → IsRes wx u1 (Nt.digs x) → IsRes wx u2 (Nt.digs y) → Calls Tryz.prog 56 #[u1, u2] wx fun e w' => ∃ v, e = .returned v ∧ ResL w' v (Nt.digs (x * y)) ∧ Below wx.heap.size wx w') := Lib.hid (fun wx u1 u2 hx k1 k2 => by
    have := rMul_res k1 k2 (Nt.ok_digs x) (Nt.ok_digs y) (by have := h1'.2.2; omega) (by have := h2'.2.2; omega)
    rw [Nt.val_digs, Nt.val_digs] at this
    refine this.mono ?_
    rintro e w' ⟨v, rfl, hr, hb⟩
    have hl := Nt.len_mul (Nt.ok_digs x) (Nt.ok_digs y) (x := x * y) (by rw [Nt.val_digs, Nt.val_digs]; exact Nat.le_refl _)
    exact ⟨v, rfl, ⟨hr, Nt.ok_digs _, by omega⟩, hb⟩)
  have NF : Hid (∀ wx (b : Bool) u, Below W.heap.size W wx → ResL wx u (Nt.digs (x * y)) → Calls Tryz.prog 39 #[.agg #[.bool b, u]] wx fun e w' => ∃ v, e = .returned (.agg #[.bool (Rt.nrm b (x * y)), v]) ∧ ResL w' v (Nt.digs (x * y)) ∧ Below wx.heap.size wx w') := Lib.hid (fun wx b u hx k => by
    have := norm3_any b u _ wx k
    rw [Nt.val_digs] at this
    refine this.mono ?_
    rintro e w' ⟨v, rfl, hr, hb⟩
    exact ⟨v, rfl, hr, hb⟩)
  have HW := Lib.hid hW
  have HG := Lib.hid hg
  have HWB := Lib.hid hWb
  have HI2 : Hid (∀ (b : Bool) (A : Option Addr) (k c : Nat), (Tryz.prog.info? 49).map (·.size) = some (#[.bool b, .slice A k c] : Array Value).size) := Lib.hid (fun _ _ _ _ => int3_info)
  obtain ⟨A1, c1, rfl⟩ := res_slice h1.1
  obtain ⟨A2, c2, rfl⟩ := res_slice h2.1
  have hgs : g + 1 + 1 < W.heap.size := by omega
  clear h1 h2 h1' h2' hs hW0 hW1 hW2 hW hWs
  generalize Rt.nrm n1 x = b1 at *
  generalize Rt.nrm n2 y = b2 at *
  obtain ⟨R, hR⟩ : ∃ R, R = Rt.nrm (b1 != b2) (x * y) := ⟨_, rfl⟩
  rw [← hR]
  have HR : Hid (R = Rt.nrm (!(b1 == b2)) (x * y)) := Lib.hid hR
  clear hR
  generalize Nt.digs (x * y) = D at *
  generalize Nt.digs x = dx at *
  generalize Nt.digs y = dy at *
  go_enter Tryz.func27, Tryz.ntmps27
  go_wp2_with fail
  rw [← HW.out, ← hg]
  clear hg
  refine wp_region_last (frameMU g #[.bool n1, (.slice A1 dx.length c1)] #[.bool n2, (.slice A2 dy.length c2)]) W (predMU g (.slice A1 dx.length c1) (.slice A2 dy.length c2) n1 n2 b1 b2 R dx dy D) 16 (by kernel_rfl) (by rfl) ?_ (by kernel_rfl) (by kernel_rfl) (fun i => undef) rfl (Below.refl _ _) ?_ ?_
  · intro i w1 w2 v hv hb
    match i with
    | 0 => exact hv
    | 1 => exact hv
    | 2 => exact hv
    | 3 => exact hv
    | 4 => exact hv
    | 5 => exact hv
    | 6 => exact hv
    | 7 => exact hv
    | 8 => exact hv
    | 9 => exact hv.below hb
    | 10 => exact hv
    | 11 => exact hv
    | 12 => exact hv.below hb
    | 13 => exact hv.below hb
    | 14 => exact (by obtain ⟨u, e, r⟩ := hv; exact ⟨u, e, r.below hb⟩)
    | i + 15 => exact (by obtain ⟨u, e, r⟩ := hv; exact ⟨u, e, r.below hb⟩)
  · intro i xs w1 hi hb hdep
    have hi6 : i < 16 := hi
    clear hi
    rcases (show i = 0 ∨ i = 1 ∨ i = 2 ∨ i = 3 ∨ i = 4 ∨ i = 5 ∨ i = 6 ∨ i = 7 ∨ i = 8 ∨ i = 9 ∨ i = 10 ∨ i = 11 ∨ i = 12 ∨ i = 13 ∨ i = 14 ∨ i = 15 by omega) with rfl | rfl | rfl | rfl | rfl | rfl | rfl | rfl | rfl | rfl | rfl | rfl | rfl | rfl | rfl | rfl
    · refine wpOp_at rfl rfl ?_
      refine wp_load_row 49 (.tmp 2) rfl g rfl 49 #[.bool n1, (.slice A1 dx.length c1)] (0, 0) _ ((hb.block g (by omega)).trans HW0.out) Tryz.underlying49 rfl (HI2.out _ _ _ _) ?_
      exact ⟨_, by simp only [frameMU, upd]; simp [Act.put], rfl, Below.refl _ _⟩
    · have h0 : xs 0 = .agg #[.bool n1, (.slice A1 dx.length c1)] := hdep 0 (by kernel_rfl)
      refine wpOp_at rfl rfl ?_
      unfold frameMU Oper.wp
      simp only [h0]
      go_simp
      refine (N1.out w1 hb).mono ?_
      rintro e w2 ⟨A, c, rfl, hb2⟩
      exact ⟨_, by simp only [frameMU, upd]; simp [Act.put, h0], ⟨A, c, rfl⟩, hb2⟩
    · have r1 : ∃ A c, (xs 1) = .agg #[.bool b1, .slice A dx.length c] := hdep 1 (by kernel_rfl)
      refine wpOp_at rfl rfl ?_
      obtain ⟨A, c, h1⟩ := r1
      have q := field_int3 b1 A dx.length c w1
      unfold frameMU Oper.wp
      simp only [h1]
      go_simp
      exact ⟨_, by simp only [frameMU, upd]; simp [Act.put, h1], rfl, Below.refl _ _⟩
    · refine wpOp_at rfl rfl ?_
      refine wp_load_row 49 (.tmp 3) rfl (g + 1) rfl 49 #[.bool n2, (.slice A2 dy.length c2)] (0, 0) _ ((hb.block (g + 1) (by omega)).trans HW1.out) Tryz.underlying49 rfl (HI2.out _ _ _ _) ?_
      exact ⟨_, by simp only [frameMU, upd]; simp [Act.put], rfl, Below.refl _ _⟩
    · have h3 : xs 3 = .agg #[.bool n2, (.slice A2 dy.length c2)] := hdep 3 (by kernel_rfl)
      refine wpOp_at rfl rfl ?_
      unfold frameMU Oper.wp
      simp only [h3]
      go_simp
      refine (N2.out w1 hb).mono ?_
      rintro e w2 ⟨A, c, rfl, hb2⟩
      exact ⟨_, by simp only [frameMU, upd]; simp [Act.put, h3], ⟨A, c, rfl⟩, hb2⟩
    · have r4 : ∃ A c, (xs 4) = .agg #[.bool b2, .slice A dy.length c] := hdep 4 (by kernel_rfl)
      refine wpOp_at rfl rfl ?_
      obtain ⟨A, c, h4⟩ := r4
      have q := field_int3 b2 A dy.length c w1
      unfold frameMU Oper.wp
      simp only [h4]
      go_simp
      exact ⟨_, by simp only [frameMU, upd]; simp [Act.put, h4], rfl, Below.refl _ _⟩
    · have h2 : xs 2 = .bool b1 := hdep 2 (by kernel_rfl)
      have h5 : xs 5 = .bool b2 := hdep 5 (by kernel_rfl)
      refine wpOp_at rfl rfl ?_
      unfold frameMU Oper.wp
      simp only [h2, h5]
      go_simp
      exact ⟨_, by simp only [frameMU, upd]; simp [Act.put, h2, h5], rfl, Below.refl _ _⟩
    · refine wpOp_at rfl rfl ?_
      unfold frameMU Oper.wp
      go_simp
      exact ⟨_, by simp only [frameMU, upd]; simp [Act.put], rfl, Below.refl _ _⟩
    · have h7 : xs 7 = .pointer (some ⟨g, 1, none⟩) := hdep 7 (by kernel_rfl)
      refine wpOp_at rfl rfl ?_
      have q := (HC.out w1 hb).2.1
      unfold frameMU Oper.wp
      simp only [h7]
      go_simp
      exact ⟨_, by simp only [frameMU, upd]; simp [Act.put, h7], rfl, Below.refl _ _⟩
    · have h8 : xs 8 = (.slice A1 dx.length c1) := hdep 8 (by kernel_rfl)
      refine wpOp_at rfl rfl ?_
      unfold frameMU Oper.wp
      simp only [h8]
      go_simp
      refine (M1.out w1 hb).mono ?_
      rintro e w2 ⟨u, rfl, hr, hb2⟩
      exact ⟨_, by simp only [frameMU, upd]; simp [Act.put, h8], hr, hb2⟩
    · refine wpOp_at rfl rfl ?_
      unfold frameMU Oper.wp
      go_simp
      exact ⟨_, by simp only [frameMU, upd]; simp [Act.put], rfl, Below.refl _ _⟩
    · have h10 : xs 10 = .pointer (some ⟨g + 1, 1, none⟩) := hdep 10 (by kernel_rfl)
      refine wpOp_at rfl rfl ?_
      have q := (HC.out w1 hb).2.2.2
      unfold frameMU Oper.wp
      simp only [h10]
      go_simp
      exact ⟨_, by simp only [frameMU, upd]; simp [Act.put, h10], rfl, Below.refl _ _⟩
    · have h11 : xs 11 = (.slice A2 dy.length c2) := hdep 11 (by kernel_rfl)
      refine wpOp_at rfl rfl ?_
      unfold frameMU Oper.wp
      simp only [h11]
      go_simp
      refine (M2.out w1 hb).mono ?_
      rintro e w2 ⟨u, rfl, hr, hb2⟩
      exact ⟨_, by simp only [frameMU, upd]; simp [Act.put, h11], hr, hb2⟩
    · have r9 : IsRes w1 (xs 9) dx := hdep 9 (by kernel_rfl)
      have r12 : IsRes w1 (xs 12) dy := hdep 12 (by kernel_rfl)
      refine wpOp_at rfl rfl ?_
      unfold frameMU Oper.wp
      go_simp
      refine (MU.out w1 _ _ hb r9 r12).mono ?_
      rintro e w2 ⟨u, rfl, hr, hb2⟩
      exact ⟨_, by simp only [frameMU, upd]; simp [Act.put], hr, hb2⟩
    · have h6 : xs 6 = .bool (!(b1 == b2)) := hdep 6 (by kernel_rfl)
      have r13 : ResL w1 (xs 13) D := hdep 13 (by kernel_rfl)
      refine wpOp_at rfl rfl ?_
      obtain ⟨A, c, h13⟩ := res_slice r13.1
      rw [h13] at r13
      unfold frameMU Oper.wp
      simp only [h6, h13]
      go_simp
      exact ⟨_, by simp only [frameMU, upd]; simp [Act.put, h6, h13], ⟨_, rfl, r13⟩, Below.refl _ _⟩
    · have r14 : ∃ u, (xs 14) = .agg #[.bool (!(b1 == b2)), u] ∧ ResL w1 u D := hdep 14 (by kernel_rfl)
      refine wpOp_at rfl rfl ?_
      obtain ⟨u, h14, r⟩ := r14
      unfold frameMU Oper.wp
      simp only [h14]
      go_simp
      refine (NF.out w1 _ _ hb r).mono ?_
      rintro e w2 ⟨u2, rfl, hr, hb2⟩
      rw [← HR.out]
      exact ⟨_, by simp only [frameMU, upd]; simp [Act.put, h14], ⟨u2, rfl, hr⟩, hb2⟩
  · intro xs w1 hb hx
    obtain ⟨u, h15, r15⟩ : ∃ u, xs 15 = .agg #[.bool R, u] ∧ ResL w1 u D := hx 15 (by decide)
    clear hx
    have HR6 := Lib.hid r15
    obtain ⟨A6, c6, rfl⟩ := res_slice r15.1
    have HG6 := Lib.hid (HG2.out w1 hb)
    refine wpOp_at rfl rfl ?_
    refine wp_store_row 49 (.tmp 4) (.tmp 20) rfl (g + 1 + 1) #[.bool R, .slice A6 D.length c6] rfl (by unfold frameMU; simp only [h15]; rfl) 49 #[.bool false, .slice none 0 0] HG6.out (HI2.out _ _ _ _) rfl (two_one _ _ _ _) ?_
    have hbf := rBelow.setRow (HWB.out.trans (hb.mono (by omega))) (show g ≤ g + 1 + 1 by omega) #[.bool R, .slice A6 D.length c6]
    unfold frameMU
    go_wp2_with fail
    refine bodyPost_ret (results_cell_row (by rfl) _ _ (g + 1 + 1) 49 #[.bool R, .slice A6 D.length c6] (0, 0) _ (by rfl) (rheap_same HG6.out) Tryz.underlying49 rfl (HI2.out _ _ _ _)) rfl ⟨_, rfl, HR6.out.setRow HG6.out (two_no_int _ _ _ _) _, ?_⟩
    rw [← HG.out]; exact hbf
end Go.Proofs.YtfiefglagknclaaGreatDoor

/-
  By the reference: numbers that are not below 0 multiplied and divided (scrimref04.Mul, Div). (Printed by wip/bin/gen_dig14.py.)
-/
namespace Go.Proofs.YtfiefglagknclaaGreatDoor
open Go.RowKit
set_option maxHeartbeats 4000000
set_option maxRecDepth 100000
set_option linter.unusedVariables false

theorem grown_setRow (w : World) (g : Nat) (cs : Array Value) : w.grownBy (w.setRow g cs) (some g) :=
  ⟨rfl, rfl, rfl, by simp [World.setRow], fun k hk hne => rheap_far (fun e => hne (by rw [e]))⟩
theorem nrm_false (x : Nat) : Rt.nrm false x = false := by unfold Rt.nrm; simp
/-- A whole number that is not below 0. -/
def Nat3 (w : World) (v : Value) (x : Nat) : Prop := ∃ u, v = .agg #[.bool false, u] ∧ ResL w u (Nt.digs x)
theorem Nat3.below {w w' : World} {v : Value} {x : Nat} (h : Nat3 w v x) (hb : Below w.heap.size w w') : Nat3 w' v x := by obtain ⟨u, e, r⟩ := h; exact ⟨u, e, r.below hb⟩
theorem Nat3.setRow {w : World} {v : Value} {x g : Nat} {old : Array Value} {t : TypeId} (h : Nat3 w v x) (hg : w.heap[g]? = some (.cells old t (0, 0))) (ho : ∀ (i : Nat) (k : IntKind) (n : Int), old[i]? ≠ some (Value.int k n)) (cs : Array Value) : Nat3 (w.setRow g cs) v x := by
  obtain ⟨u, e, r⟩ := h; exact ⟨u, e, r.setRow hg ho cs⟩
theorem mulN_any (v1 v2 : Value) (x y : Nat) (w : World) (h1 : Nat3 w v1 x) (h2 : Nat3 w v2 y) (hs : (Nt.digs x).length + (Nt.digs y).length ≤ 64) :
    Calls Tryz.prog 27 #[v1, v2] w fun e w' => ∃ v, e = .returned v ∧ Nat3 w' v (x * y) ∧ Below w.heap.size w w' := by
  obtain ⟨u1, rfl, r1⟩ := h1
  obtain ⟨u2, rfl, r2⟩ := h2
  refine (mul3_any false false u1 u2 x y w r1 r2 hs).mono ?_
  rintro e w' ⟨v, rfl, hr, hb⟩
  rw [nrm_false, nrm_false, show (false != false) = false from rfl, nrm_false]
  exact ⟨_, rfl, ⟨v, rfl, hr⟩, hb⟩
theorem makeN_any (v1 v2 : Value) (x y : Nat) (w : World) (h1 : Nat3 w v1 x) (h2 : Nat3 w v2 y) :
    Calls Tryz.prog 26 #[v1, v2] w (MakeOut w (Rt.mk false false x y)) := by
  obtain ⟨u1, rfl, r1⟩ := h1
  obtain ⟨u2, rfl, r2⟩ := h2
  have := make_any false false u1 u2 _ _ w r1 r2
  rwa [Nt.val_digs, Nt.val_digs] at this
theorem topN_any (v1 v2 : Value) (l1 l2 : List Nat) (w : World) (h1 : ResL w v1 l1) (h2 : ResL w v2 l2) :
    Calls Tryz.prog 28 #[.agg #[.bool false, v1, v2]] w fun e w' => ∃ v, e = .returned v ∧ Nat3 w' v (Nt.val l1) ∧ Below w.heap.size w w' := by
  refine (top_any false v1 v2 l1 l2 w h1 h2).mono ?_
  rintro e w' ⟨v, rfl, hr, hb⟩
  rw [nrm_false]
  exact ⟨_, rfl, ⟨v, rfl, hr⟩, hb⟩
theorem botN_any (v1 v2 : Value) (l1 l2 : List Nat) (w : World) (h1 : ResL w v1 l1) (h2 : ResL w v2 l2) :
    Calls Tryz.prog 29 #[.agg #[.bool false, v1, v2]] w fun e w' => ∃ v, e = .returned v ∧ Nat3 w' v (Nt.val l2) ∧ Below w.heap.size w w' := by
  refine (bot_any false v1 v2 l1 l2 w h1 h2).mono ?_
  rintro e w' ⟨v, rfl, hr, hb⟩
  rw [nrm_false]
  exact ⟨_, rfl, ⟨v, rfl, hr⟩, hb⟩
/-- What the result's cell holds behind the store. -/
def Kept (r : Rt.Nm × Int) (g : Nat) (w : World) : Prop := ∃ t u, w.heap[g]? = some (.cells #[.bool r.1.neg, t, u] 26 (0, 0)) ∧ IsRes w t r.1.top ∧ IsRes w u r.1.bot
def frameRMul (g : Nat) (P Q : Array Value) (xs : Nat → Value) : Act := { tmps := #[.agg P, .agg Q, .pointer (some ⟨g, 0, none⟩), .pointer (some ⟨g + 1, 0, none⟩), .pointer (some ⟨g + 1 + 1, 0, none⟩), xs 14, xs 0, xs 1, xs 2, xs 3, xs 4, xs 5, xs 6, xs 7, xs 8, xs 9, xs 10, xs 11, xs 12], defers := [] }
def predRMul (g : Nat) (V1 V2 V3 V4 : Value) (a1 a2 b1 b2 : Nat) (r : Rt.Nm × Int) : Nat → World → Value → Prop
  | 0, w, v => v = .agg #[.bool false, V1, V2]
  | 1, w, v => Nat3 w v a1
  | 2, w, v => v = .agg #[.bool false, V3, V4]
  | 3, w, v => Nat3 w v b1
  | 4, w, v => Nat3 w v (a1 * b1)
  | 5, w, v => v = .agg #[.bool false, V1, V2]
  | 6, w, v => Nat3 w v a2
  | 7, w, v => v = .agg #[.bool false, V3, V4]
  | 8, w, v => Nat3 w v b2
  | 9, w, v => Nat3 w v (a2 * b2)
  | 10, w, v => ∃ t u, v = .tuple #[.agg #[.bool r.1.neg, t, u], .int .i64 r.2] ∧ IsRes w t r.1.top ∧ IsRes w u r.1.bot
  | 11, w, v => ∃ t u, v = .agg #[.bool r.1.neg, t, u] ∧ IsRes w t r.1.top ∧ IsRes w u r.1.bot
  | 12, w, v => v = .int .i64 r.2
  | 13, w, v => True
  | _, w, v => v = .int .i64 r.2

theorem rmul_any (v1 v2 v3 v4 : Value) (l1 l2 l3 l4 : List Nat) (w : World) (h1 : ResL w v1 l1) (h2 : ResL w v2 l2) (h3 : ResL w v3 l3) (h4 : ResL w v4 l4) (k1 : l1.length ≤ 32) (k2 : l2.length ≤ 32) (k3 : l3.length ≤ 32) (k4 : l4.length ≤ 32) :
    Calls Tryz.prog 8 #[.agg #[.bool false, v1, v2], .agg #[.bool false, v3, v4]] w (MakeOut w (Rt.mk false false (Nt.val l1 * Nt.val l3) (Nt.val l2 * Nt.val l4))) := by
  obtain ⟨g, hg⟩ : ∃ g, g = w.heap.size := ⟨_, rfl⟩
  obtain ⟨W, hW⟩ : ∃ W, W = ((w.alloc (.cells #[.bool false, v1, v2] 26)).alloc (.cells #[.bool false, v3, v4] 26)).alloc (.cells #[.bool false, .slice none 0 0, .slice none 0 0] 26) := ⟨_, rfl⟩
  have hWs : W.heap.size = g + 1 + 1 + 1 := by rw [hW, hg]; simp
  have hWb : Below g w W := by rw [hW, hg]; exact (((Below.refl _ _).alloc (Nat.le_refl _) _).alloc (by simp) _).alloc (by simp; omega) _
  have hW0 : W.heap[g]? = some (.cells #[.bool false, v1, v2] 26 (0, 0)) := by rw [hW, hg]; exact (Below.heap_alloc _ _ _ (by simp; omega)).trans (heap_alloc2_old _ _ _)
  have hW1 : W.heap[g + 1]? = some (.cells #[.bool false, v3, v4] 26 (0, 0)) := by rw [hW, hg]; exact (Below.heap_alloc _ _ _ (by simp)).trans (heap_alloc2_new _ _ _)
  have HW2 : Hid (W.heap[g + 1 + 1]? = some (.cells #[.bool false, .slice none 0 0, .slice none 0 0] 26 (0, 0))) := Lib.hid (by
    rw [hW, hg]
    have := heap_alloc_new ((w.alloc (.cells #[.bool false, v1, v2] 26)).alloc (.cells #[.bool false, v3, v4] 26)) (.cells #[.bool false, .slice none 0 0, .slice none 0 0] 26)
    rwa [show ((w.alloc (.cells #[.bool false, v1, v2] 26)).alloc (.cells #[.bool false, v3, v4] 26)).heap.size = w.heap.size + 1 + 1 by simp] at this)
  have hbb : Below w.heap.size w W := by rw [← hg]; exact hWb
  have TA := Lib.hid (fun (wx : World) (hx : Below W.heap.size W wx) => topN_any v1 v2 l1 l2 wx ((h1.below hbb).below hx) ((h2.below hbb).below hx))
  have BA := Lib.hid (fun (wx : World) (hx : Below W.heap.size W wx) => botN_any v1 v2 l1 l2 wx ((h1.below hbb).below hx) ((h2.below hbb).below hx))
  have TB := Lib.hid (fun (wx : World) (hx : Below W.heap.size W wx) => topN_any v3 v4 l3 l4 wx ((h3.below hbb).below hx) ((h4.below hbb).below hx))
  have BB := Lib.hid (fun (wx : World) (hx : Below W.heap.size W wx) => botN_any v3 v4 l3 l4 wx ((h3.below hbb).below hx) ((h4.below hbb).below hx))
  have d1 := Nt.digs_len_le h1.2.1
  have d2 := Nt.digs_len_le h2.2.1
  have d3 := Nt.digs_len_le h3.2.1
  have d4 := Nt.digs_len_le h4.2.1
  obtain ⟨a1, ha1⟩ : ∃ a, a = Nt.val l1 := ⟨_, rfl⟩
  obtain ⟨a2, ha2⟩ : ∃ a, a = Nt.val l2 := ⟨_, rfl⟩
  obtain ⟨b1, hb1⟩ : ∃ a, a = Nt.val l3 := ⟨_, rfl⟩
  obtain ⟨b2, hb2⟩ : ∃ a, a = Nt.val l4 := ⟨_, rfl⟩
  rw [← ha1] at TA d1 ⊢
  rw [← ha2] at BA d2 ⊢
  rw [← hb1] at TB d3 ⊢
  rw [← hb2] at BB d4 ⊢
  have M1 := Lib.hid (fun (wx : World) (u1 u2 : Value) (q1 : Nat3 wx u1 a1) (q2 : Nat3 wx u2 b1) => mulN_any u1 u2 a1 b1 wx q1 q2 (by omega))
  have M2 := Lib.hid (fun (wx : World) (u1 u2 : Value) (q1 : Nat3 wx u1 a2) (q2 : Nat3 wx u2 b2) => mulN_any u1 u2 a2 b2 wx q1 q2 (by omega))
  have MK := Lib.hid (fun (wx : World) (u1 u2 : Value) (q1 : Nat3 wx u1 (a1 * b1)) (q2 : Nat3 wx u2 (a2 * b2)) => makeN_any u1 u2 _ _ wx q1 q2)
  obtain ⟨r, hr⟩ : ∃ r, r = Rt.mk false false (a1 * b1) (a2 * b2) := ⟨_, rfl⟩
  rw [← hr] at MK ⊢
  have HW0 := Lib.hid hW0
  have HW1 := Lib.hid hW1
  have HW := Lib.hid hW
  have HGG := Lib.hid hg
  have HI3 : Hid (∀ (b : Bool) (A : Option Addr) (k c : Nat) (A' : Option Addr) (k' c' : Nat), (Tryz.prog.info? 26).map (·.size) = some (#[.bool b, .slice A k c, .slice A' k' c'] : Array Value).size) := Lib.hid (fun _ _ _ _ _ _ _ => num_info)
  obtain ⟨A1, c1, rfl⟩ := res_slice h1.1
  obtain ⟨A2, c2, rfl⟩ := res_slice h2.1
  obtain ⟨A3, c3, rfl⟩ := res_slice h3.1
  obtain ⟨A4, c4, rfl⟩ := res_slice h4.1
  have hgs : g + 1 + 1 < W.heap.size := by omega
  clear h1 h2 h3 h4 k1 k2 k3 k4 d1 d2 d3 d4 ha1 ha2 hb1 hb2 hr hW0 hW1 hW hbb hWs
  go_enter Tryz.func8, Tryz.ntmps8
  go_wp2_with fail
  rw [← HW.out, ← hg]
  clear hg
  refine wp_region_store (frameRMul g #[.bool false, (.slice A1 l1.length c1), (.slice A2 l2.length c2)] #[.bool false, (.slice A3 l3.length c3), (.slice A4 l4.length c4)]) W (predRMul g (.slice A1 l1.length c1) (.slice A2 l2.length c2) (.slice A3 l3.length c3) (.slice A4 l4.length c4) a1 a2 b1 b2 r) (g + 1 + 1) 13 (Kept r (g + 1 + 1)) (by kernel_rfl) ((by omega)) (by kernel_rfl) (by kernel_rfl) (by kernel_rfl) ?_ ?_ (fun i => if i = 14 then .int .i64 0 else undef) rfl (Below.refl _ _) ?_ ?_ ?_ ?_
  · intro i w1 w2 v hv hb
    match i with
    | 0 => exact hv
    | 1 => exact hv.below hb
    | 2 => exact hv
    | 3 => exact hv.below hb
    | 4 => exact hv.below hb
    | 5 => exact hv
    | 6 => exact hv.below hb
    | 7 => exact hv
    | 8 => exact hv.below hb
    | 9 => exact hv.below hb
    | 10 => exact (by obtain ⟨t, u, e, ht, hu⟩ := hv; exact ⟨t, u, e, ht.below hb, hu.below hb⟩)
    | 11 => exact (by obtain ⟨t, u, e, ht, hu⟩ := hv; exact ⟨t, u, e, ht.below hb, hu.below hb⟩)
    | 12 => exact hv
    | 13 => exact hv
    | i + 14 => exact hv
  · rintro w1 w2 ⟨t, u, h, ht, hu⟩ hb
    exact ⟨t, u, (hb.block (g + 1 + 1) (blk_lt h)).trans h, ht.below hb, hu.below hb⟩
  · intro i xs w1 hi hb hdep
    rcases (show i = 0 ∨ i = 1 ∨ i = 2 ∨ i = 3 ∨ i = 4 ∨ i = 5 ∨ i = 6 ∨ i = 7 ∨ i = 8 ∨ i = 9 ∨ i = 10 ∨ i = 11 ∨ i = 12 by omega) with rfl | rfl | rfl | rfl | rfl | rfl | rfl | rfl | rfl | rfl | rfl | rfl | rfl
    · refine wpOp_at rfl rfl ?_
      refine wp_load_row 26 (.tmp 2) rfl g rfl 26 #[.bool false, (.slice A1 l1.length c1), (.slice A2 l2.length c2)] (0, 0) _ ((hb.block g (by omega)).trans HW0.out) Tryz.underlying26 rfl (HI3.out _ _ _ _ _ _ _) ?_
      exact ⟨_, by simp only [frameRMul, upd]; simp [Act.put], rfl, Below.refl _ _⟩
    · have h0 : xs 0 = .agg #[.bool false, (.slice A1 l1.length c1), (.slice A2 l2.length c2)] := hdep 0 (by decide) (by kernel_rfl)
      refine wpOp_at rfl rfl ?_
      unfold frameRMul Oper.wp
      simp only [h0]
      go_simp
      refine (TA.out w1 hb).mono ?_
      rintro e w2 ⟨u, rfl, hr, hb2⟩
      exact ⟨_, by simp only [frameRMul, upd]; simp [Act.put, h0], hr, hb2⟩
    · refine wpOp_at rfl rfl ?_
      refine wp_load_row 26 (.tmp 3) rfl (g + 1) rfl 26 #[.bool false, (.slice A3 l3.length c3), (.slice A4 l4.length c4)] (0, 0) _ ((hb.block (g + 1) (by omega)).trans HW1.out) Tryz.underlying26 rfl (HI3.out _ _ _ _ _ _ _) ?_
      exact ⟨_, by simp only [frameRMul, upd]; simp [Act.put], rfl, Below.refl _ _⟩
    · have h2 : xs 2 = .agg #[.bool false, (.slice A3 l3.length c3), (.slice A4 l4.length c4)] := hdep 2 (by decide) (by kernel_rfl)
      refine wpOp_at rfl rfl ?_
      unfold frameRMul Oper.wp
      simp only [h2]
      go_simp
      refine (TB.out w1 hb).mono ?_
      rintro e w2 ⟨u, rfl, hr, hb2⟩
      exact ⟨_, by simp only [frameRMul, upd]; simp [Act.put, h2], hr, hb2⟩
    · have r1 : Nat3 w1 (xs 1) a1 := hdep 1 (by decide) (by kernel_rfl)
      have r3 : Nat3 w1 (xs 3) b1 := hdep 3 (by decide) (by kernel_rfl)
      refine wpOp_at rfl rfl ?_
      unfold frameRMul Oper.wp
      go_simp
      refine (M1.out w1 _ _ r1 r3).mono ?_
      rintro e w2 ⟨u, rfl, hr, hb2⟩
      exact ⟨_, by simp only [frameRMul, upd]; simp [Act.put], hr, hb2⟩
    · refine wpOp_at rfl rfl ?_
      refine wp_load_row 26 (.tmp 2) rfl g rfl 26 #[.bool false, (.slice A1 l1.length c1), (.slice A2 l2.length c2)] (0, 0) _ ((hb.block g (by omega)).trans HW0.out) Tryz.underlying26 rfl (HI3.out _ _ _ _ _ _ _) ?_
      exact ⟨_, by simp only [frameRMul, upd]; simp [Act.put], rfl, Below.refl _ _⟩
    · have h5 : xs 5 = .agg #[.bool false, (.slice A1 l1.length c1), (.slice A2 l2.length c2)] := hdep 5 (by decide) (by kernel_rfl)
      refine wpOp_at rfl rfl ?_
      unfold frameRMul Oper.wp
      simp only [h5]
      go_simp
      refine (BA.out w1 hb).mono ?_
      rintro e w2 ⟨u, rfl, hr, hb2⟩
      exact ⟨_, by simp only [frameRMul, upd]; simp [Act.put, h5], hr, hb2⟩
    · refine wpOp_at rfl rfl ?_
      refine wp_load_row 26 (.tmp 3) rfl (g + 1) rfl 26 #[.bool false, (.slice A3 l3.length c3), (.slice A4 l4.length c4)] (0, 0) _ ((hb.block (g + 1) (by omega)).trans HW1.out) Tryz.underlying26 rfl (HI3.out _ _ _ _ _ _ _) ?_
      exact ⟨_, by simp only [frameRMul, upd]; simp [Act.put], rfl, Below.refl _ _⟩
    · have h7 : xs 7 = .agg #[.bool false, (.slice A3 l3.length c3), (.slice A4 l4.length c4)] := hdep 7 (by decide) (by kernel_rfl)
      refine wpOp_at rfl rfl ?_
      unfold frameRMul Oper.wp
      simp only [h7]
      go_simp
      refine (BB.out w1 hb).mono ?_
      rintro e w2 ⟨u, rfl, hr, hb2⟩
      exact ⟨_, by simp only [frameRMul, upd]; simp [Act.put, h7], hr, hb2⟩
    · have r6 : Nat3 w1 (xs 6) a2 := hdep 6 (by decide) (by kernel_rfl)
      have r8 : Nat3 w1 (xs 8) b2 := hdep 8 (by decide) (by kernel_rfl)
      refine wpOp_at rfl rfl ?_
      unfold frameRMul Oper.wp
      go_simp
      refine (M2.out w1 _ _ r6 r8).mono ?_
      rintro e w2 ⟨u, rfl, hr, hb2⟩
      exact ⟨_, by simp only [frameRMul, upd]; simp [Act.put], hr, hb2⟩
    · have r4 : Nat3 w1 (xs 4) (a1 * b1) := hdep 4 (by decide) (by kernel_rfl)
      have r9 : Nat3 w1 (xs 9) (a2 * b2) := hdep 9 (by decide) (by kernel_rfl)
      refine wpOp_at rfl rfl ?_
      unfold frameRMul Oper.wp
      go_simp
      refine (MK.out w1 _ _ r4 r9).mono ?_
      rintro e w2 ⟨t, u, rfl, ht, hu, hb2⟩
      exact ⟨_, by simp only [frameRMul, upd]; simp [Act.put], ⟨t, u, rfl, ht, hu⟩, hb2⟩
    · have r10 : ∃ t u, (xs 10) = .tuple #[.agg #[.bool r.1.neg, t, u], .int .i64 r.2] ∧ IsRes w1 t r.1.top ∧ IsRes w1 u r.1.bot := hdep 10 (by decide) (by kernel_rfl)
      refine wpOp_at rfl rfl ?_
      obtain ⟨t, u, h10, ht, hu⟩ := r10
      unfold frameRMul Oper.wp
      simp only [h10]
      go_simp
      exact ⟨_, by simp only [frameRMul, upd]; simp [Act.put, h10], ⟨t, u, rfl, ht, hu⟩, Below.refl _ _⟩
    · have r10 : ∃ t u, (xs 10) = .tuple #[.agg #[.bool r.1.neg, t, u], .int .i64 r.2] ∧ IsRes w1 t r.1.top ∧ IsRes w1 u r.1.bot := hdep 10 (by decide) (by kernel_rfl)
      refine wpOp_at rfl rfl ?_
      obtain ⟨t, u, h10, ht, hu⟩ := r10
      unfold frameRMul Oper.wp
      simp only [h10]
      go_simp
      exact ⟨_, by simp only [frameRMul, upd]; simp [Act.put, h10], rfl, Below.refl _ _⟩
  · intro i xs w1 hi0 hi hdep
    have hi6 : i < 15 := hi0
    clear hi0
    obtain rfl : i = 14 := by omega
    have h12 : xs 12 = .int .i64 r.2 := hdep 12 (by decide) (by kernel_rfl)
    refine wpOp_at rfl rfl ?_
    unfold frameRMul Oper.wp
    simp only [h12]
    go_simp
    exact ⟨_, by simp only [frameRMul, upd]; simp [Act.put, h12], rfl, Below.refl _ _⟩
  · intro xs w1 hb hx
    obtain ⟨t, u, h11, ht, hu⟩ : ∃ t u, xs 11 = .agg #[.bool r.1.neg, t, u] ∧ IsRes w1 t r.1.top ∧ IsRes w1 u r.1.bot := hx 11 (by decide)
    clear hx
    have HG := Lib.hid ((hb.block (g + 1 + 1) (by omega)).trans HW2.out)
    have HT := Lib.hid ht
    have HU := Lib.hid hu
    obtain ⟨A5, c5, rfl⟩ := res_slice ht
    obtain ⟨A6, c6, rfl⟩ := res_slice hu
    refine wpOp_at rfl rfl ?_
    refine wp_store_row 26 (.tmp 4) (.tmp 17) rfl (g + 1 + 1) #[.bool r.1.neg, .slice A5 r.1.top.length c5, .slice A6 r.1.bot.length c6] rfl (by unfold frameRMul; simp only [h11]; rfl) 26 #[.bool false, .slice none 0 0, .slice none 0 0] HG.out (HI3.out _ _ _ _ _ _ _) rfl (three_one _ _ _ _ _ _ _) ?_
    refine ⟨rfl, grown_setRow _ _ _, ⟨_, _, rheap_same HG.out, HT.out.setRow HG.out (three_no_int _ _ _ _ _ _ _) _, HU.out.setRow HG.out (three_no_int _ _ _ _ _ _ _) _⟩, fun i v hi hv => ?_⟩
    match i with
      | 0 => exact hv
      | 1 => exact hv.setRow HG.out (three_no_int _ _ _ _ _ _ _) _
      | 2 => exact hv
      | 3 => exact hv.setRow HG.out (three_no_int _ _ _ _ _ _ _) _
      | 4 => exact hv.setRow HG.out (three_no_int _ _ _ _ _ _ _) _
      | 5 => exact hv
      | 6 => exact hv.setRow HG.out (three_no_int _ _ _ _ _ _ _) _
      | 7 => exact hv
      | 8 => exact hv.setRow HG.out (three_no_int _ _ _ _ _ _ _) _
      | 9 => exact hv.setRow HG.out (three_no_int _ _ _ _ _ _ _) _
      | 10 => exact (by obtain ⟨t, u, e, ht, hu⟩ := hv; exact ⟨t, u, e, ht.setRow HG.out (three_no_int _ _ _ _ _ _ _) _, hu.setRow HG.out (three_no_int _ _ _ _ _ _ _) _⟩)
      | 11 => exact (by obtain ⟨t, u, e, ht, hu⟩ := hv; exact ⟨t, u, e, ht.setRow HG.out (three_no_int _ _ _ _ _ _ _) _, hu.setRow HG.out (three_no_int _ _ _ _ _ _ _) _⟩)
      | 12 => exact hv
      | 13 => exact hv
      | i + 14 => exact hv
  · intro xs w1 hb hrs hx
    have h14 : xs 14 = .int .i64 r.2 := hx 14 (by decide) (by decide)
    clear hx
    obtain ⟨t, u, hg2, ht, hu⟩ := hrs
    have HT := Lib.hid ht
    have HU := Lib.hid hu
    have HG := Lib.hid hg2
    obtain ⟨A5, c5, rfl⟩ := res_slice ht
    obtain ⟨A6, c6, rfl⟩ := res_slice hu
    have hfin : Below g w w1 := hWb.grown hb (by omega) (fun k e => by injection e with e; omega)
    have HF := Lib.hid hfin
    clear ht hu hg2 hb hfin
    unfold frameRMul
    simp only [h14]
    go_wp2_with fail
    refine bodyPost_ret (results_cell_row_tmp (by rfl) _ _ (g + 1 + 1) 26 #[.bool r.1.neg, .slice A5 r.1.top.length c5, .slice A6 r.1.bot.length c6] (0, 0) _ _ (by rfl) (by rfl) HG.out Tryz.underlying26 rfl (HI3.out _ _ _ _ _ _ _)) rfl ⟨_, _, rfl, HT.out, HU.out, ?_⟩
    rw [← HGG.out]; exact HF.out
def frameRDiv (g : Nat) (P Q : Array Value) (xs : Nat → Value) : Act := { tmps := #[.agg P, .agg Q, .pointer (some ⟨g, 0, none⟩), .pointer (some ⟨g + 1, 0, none⟩), .pointer (some ⟨g + 1 + 1, 0, none⟩), xs 14, xs 0, xs 1, xs 2, xs 3, xs 4, xs 5, xs 6, xs 7, xs 8, xs 9, xs 10, xs 11, xs 12], defers := [] }
def predRDiv (g : Nat) (V1 V2 V3 V4 : Value) (a1 a2 b1 b2 : Nat) (r : Rt.Nm × Int) : Nat → World → Value → Prop
  | 0, w, v => v = .agg #[.bool false, V1, V2]
  | 1, w, v => Nat3 w v a1
  | 2, w, v => v = .agg #[.bool false, V3, V4]
  | 3, w, v => Nat3 w v b2
  | 4, w, v => Nat3 w v (a1 * b2)
  | 5, w, v => v = .agg #[.bool false, V1, V2]
  | 6, w, v => Nat3 w v a2
  | 7, w, v => v = .agg #[.bool false, V3, V4]
  | 8, w, v => Nat3 w v b1
  | 9, w, v => Nat3 w v (a2 * b1)
  | 10, w, v => ∃ t u, v = .tuple #[.agg #[.bool r.1.neg, t, u], .int .i64 r.2] ∧ IsRes w t r.1.top ∧ IsRes w u r.1.bot
  | 11, w, v => ∃ t u, v = .agg #[.bool r.1.neg, t, u] ∧ IsRes w t r.1.top ∧ IsRes w u r.1.bot
  | 12, w, v => v = .int .i64 r.2
  | 13, w, v => True
  | _, w, v => v = .int .i64 r.2

theorem rdiv_any (v1 v2 v3 v4 : Value) (l1 l2 l3 l4 : List Nat) (w : World) (h1 : ResL w v1 l1) (h2 : ResL w v2 l2) (h3 : ResL w v3 l3) (h4 : ResL w v4 l4) (k1 : l1.length ≤ 32) (k2 : l2.length ≤ 32) (k3 : l3.length ≤ 32) (k4 : l4.length ≤ 32) :
    Calls Tryz.prog 9 #[.agg #[.bool false, v1, v2], .agg #[.bool false, v3, v4]] w (MakeOut w (Rt.mk false false (Nt.val l1 * Nt.val l4) (Nt.val l2 * Nt.val l3))) := by
  obtain ⟨g, hg⟩ : ∃ g, g = w.heap.size := ⟨_, rfl⟩
  obtain ⟨W, hW⟩ : ∃ W, W = ((w.alloc (.cells #[.bool false, v1, v2] 26)).alloc (.cells #[.bool false, v3, v4] 26)).alloc (.cells #[.bool false, .slice none 0 0, .slice none 0 0] 26) := ⟨_, rfl⟩
  have hWs : W.heap.size = g + 1 + 1 + 1 := by rw [hW, hg]; simp
  have hWb : Below g w W := by rw [hW, hg]; exact (((Below.refl _ _).alloc (Nat.le_refl _) _).alloc (by simp) _).alloc (by simp; omega) _
  have hW0 : W.heap[g]? = some (.cells #[.bool false, v1, v2] 26 (0, 0)) := by rw [hW, hg]; exact (Below.heap_alloc _ _ _ (by simp; omega)).trans (heap_alloc2_old _ _ _)
  have hW1 : W.heap[g + 1]? = some (.cells #[.bool false, v3, v4] 26 (0, 0)) := by rw [hW, hg]; exact (Below.heap_alloc _ _ _ (by simp)).trans (heap_alloc2_new _ _ _)
  have HW2 : Hid (W.heap[g + 1 + 1]? = some (.cells #[.bool false, .slice none 0 0, .slice none 0 0] 26 (0, 0))) := Lib.hid (by
    rw [hW, hg]
    have := heap_alloc_new ((w.alloc (.cells #[.bool false, v1, v2] 26)).alloc (.cells #[.bool false, v3, v4] 26)) (.cells #[.bool false, .slice none 0 0, .slice none 0 0] 26)
    rwa [show ((w.alloc (.cells #[.bool false, v1, v2] 26)).alloc (.cells #[.bool false, v3, v4] 26)).heap.size = w.heap.size + 1 + 1 by simp] at this)
  have hbb : Below w.heap.size w W := by rw [← hg]; exact hWb
  have TA := Lib.hid (fun (wx : World) (hx : Below W.heap.size W wx) => topN_any v1 v2 l1 l2 wx ((h1.below hbb).below hx) ((h2.below hbb).below hx))
  have BA := Lib.hid (fun (wx : World) (hx : Below W.heap.size W wx) => botN_any v1 v2 l1 l2 wx ((h1.below hbb).below hx) ((h2.below hbb).below hx))
  have TB := Lib.hid (fun (wx : World) (hx : Below W.heap.size W wx) => topN_any v3 v4 l3 l4 wx ((h3.below hbb).below hx) ((h4.below hbb).below hx))
  have BB := Lib.hid (fun (wx : World) (hx : Below W.heap.size W wx) => botN_any v3 v4 l3 l4 wx ((h3.below hbb).below hx) ((h4.below hbb).below hx))
  have d1 := Nt.digs_len_le h1.2.1
  have d2 := Nt.digs_len_le h2.2.1
  have d3 := Nt.digs_len_le h3.2.1
  have d4 := Nt.digs_len_le h4.2.1
  obtain ⟨a1, ha1⟩ : ∃ a, a = Nt.val l1 := ⟨_, rfl⟩
  obtain ⟨a2, ha2⟩ : ∃ a, a = Nt.val l2 := ⟨_, rfl⟩
  obtain ⟨b1, hb1⟩ : ∃ a, a = Nt.val l3 := ⟨_, rfl⟩
  obtain ⟨b2, hb2⟩ : ∃ a, a = Nt.val l4 := ⟨_, rfl⟩
  rw [← ha1] at TA d1 ⊢
  rw [← ha2] at BA d2 ⊢
  rw [← hb1] at TB d3 ⊢
  rw [← hb2] at BB d4 ⊢
  have M1 := Lib.hid (fun (wx : World) (u1 u2 : Value) (q1 : Nat3 wx u1 a1) (q2 : Nat3 wx u2 b2) => mulN_any u1 u2 a1 b2 wx q1 q2 (by omega))
  have M2 := Lib.hid (fun (wx : World) (u1 u2 : Value) (q1 : Nat3 wx u1 a2) (q2 : Nat3 wx u2 b1) => mulN_any u1 u2 a2 b1 wx q1 q2 (by omega))
  have MK := Lib.hid (fun (wx : World) (u1 u2 : Value) (q1 : Nat3 wx u1 (a1 * b2)) (q2 : Nat3 wx u2 (a2 * b1)) => makeN_any u1 u2 _ _ wx q1 q2)
  obtain ⟨r, hr⟩ : ∃ r, r = Rt.mk false false (a1 * b2) (a2 * b1) := ⟨_, rfl⟩
  rw [← hr] at MK ⊢
  have HW0 := Lib.hid hW0
  have HW1 := Lib.hid hW1
  have HW := Lib.hid hW
  have HGG := Lib.hid hg
  have HI3 : Hid (∀ (b : Bool) (A : Option Addr) (k c : Nat) (A' : Option Addr) (k' c' : Nat), (Tryz.prog.info? 26).map (·.size) = some (#[.bool b, .slice A k c, .slice A' k' c'] : Array Value).size) := Lib.hid (fun _ _ _ _ _ _ _ => num_info)
  obtain ⟨A1, c1, rfl⟩ := res_slice h1.1
  obtain ⟨A2, c2, rfl⟩ := res_slice h2.1
  obtain ⟨A3, c3, rfl⟩ := res_slice h3.1
  obtain ⟨A4, c4, rfl⟩ := res_slice h4.1
  have hgs : g + 1 + 1 < W.heap.size := by omega
  clear h1 h2 h3 h4 k1 k2 k3 k4 d1 d2 d3 d4 ha1 ha2 hb1 hb2 hr hW0 hW1 hW hbb hWs
  go_enter Tryz.func9, Tryz.ntmps9
  go_wp2_with fail
  rw [← HW.out, ← hg]
  clear hg
  refine wp_region_store (frameRDiv g #[.bool false, (.slice A1 l1.length c1), (.slice A2 l2.length c2)] #[.bool false, (.slice A3 l3.length c3), (.slice A4 l4.length c4)]) W (predRDiv g (.slice A1 l1.length c1) (.slice A2 l2.length c2) (.slice A3 l3.length c3) (.slice A4 l4.length c4) a1 a2 b1 b2 r) (g + 1 + 1) 13 (Kept r (g + 1 + 1)) (by kernel_rfl) ((by omega)) (by kernel_rfl) (by kernel_rfl) (by kernel_rfl) ?_ ?_ (fun i => if i = 14 then .int .i64 0 else undef) rfl (Below.refl _ _) ?_ ?_ ?_ ?_
  · intro i w1 w2 v hv hb
    match i with
    | 0 => exact hv
    | 1 => exact hv.below hb
    | 2 => exact hv
    | 3 => exact hv.below hb
    | 4 => exact hv.below hb
    | 5 => exact hv
    | 6 => exact hv.below hb
    | 7 => exact hv
    | 8 => exact hv.below hb
    | 9 => exact hv.below hb
    | 10 => exact (by obtain ⟨t, u, e, ht, hu⟩ := hv; exact ⟨t, u, e, ht.below hb, hu.below hb⟩)
    | 11 => exact (by obtain ⟨t, u, e, ht, hu⟩ := hv; exact ⟨t, u, e, ht.below hb, hu.below hb⟩)
    | 12 => exact hv
    | 13 => exact hv
    | i + 14 => exact hv
  · rintro w1 w2 ⟨t, u, h, ht, hu⟩ hb
    exact ⟨t, u, (hb.block (g + 1 + 1) (blk_lt h)).trans h, ht.below hb, hu.below hb⟩
  · intro i xs w1 hi hb hdep
    rcases (show i = 0 ∨ i = 1 ∨ i = 2 ∨ i = 3 ∨ i = 4 ∨ i = 5 ∨ i = 6 ∨ i = 7 ∨ i = 8 ∨ i = 9 ∨ i = 10 ∨ i = 11 ∨ i = 12 by omega) with rfl | rfl | rfl | rfl | rfl | rfl | rfl | rfl | rfl | rfl | rfl | rfl | rfl
    · refine wpOp_at rfl rfl ?_
      refine wp_load_row 26 (.tmp 2) rfl g rfl 26 #[.bool false, (.slice A1 l1.length c1), (.slice A2 l2.length c2)] (0, 0) _ ((hb.block g (by omega)).trans HW0.out) Tryz.underlying26 rfl (HI3.out _ _ _ _ _ _ _) ?_
      exact ⟨_, by simp only [frameRDiv, upd]; simp [Act.put], rfl, Below.refl _ _⟩
    · have h0 : xs 0 = .agg #[.bool false, (.slice A1 l1.length c1), (.slice A2 l2.length c2)] := hdep 0 (by decide) (by kernel_rfl)
      refine wpOp_at rfl rfl ?_
      unfold frameRDiv Oper.wp
      simp only [h0]
      go_simp
      refine (TA.out w1 hb).mono ?_
      rintro e w2 ⟨u, rfl, hr, hb2⟩
      exact ⟨_, by simp only [frameRDiv, upd]; simp [Act.put, h0], hr, hb2⟩
    · refine wpOp_at rfl rfl ?_
      refine wp_load_row 26 (.tmp 3) rfl (g + 1) rfl 26 #[.bool false, (.slice A3 l3.length c3), (.slice A4 l4.length c4)] (0, 0) _ ((hb.block (g + 1) (by omega)).trans HW1.out) Tryz.underlying26 rfl (HI3.out _ _ _ _ _ _ _) ?_
      exact ⟨_, by simp only [frameRDiv, upd]; simp [Act.put], rfl, Below.refl _ _⟩
    · have h2 : xs 2 = .agg #[.bool false, (.slice A3 l3.length c3), (.slice A4 l4.length c4)] := hdep 2 (by decide) (by kernel_rfl)
      refine wpOp_at rfl rfl ?_
      unfold frameRDiv Oper.wp
      simp only [h2]
      go_simp
      refine (BB.out w1 hb).mono ?_
      rintro e w2 ⟨u, rfl, hr, hb2⟩
      exact ⟨_, by simp only [frameRDiv, upd]; simp [Act.put, h2], hr, hb2⟩
    · have r1 : Nat3 w1 (xs 1) a1 := hdep 1 (by decide) (by kernel_rfl)
      have r3 : Nat3 w1 (xs 3) b2 := hdep 3 (by decide) (by kernel_rfl)
      refine wpOp_at rfl rfl ?_
      unfold frameRDiv Oper.wp
      go_simp
      refine (M1.out w1 _ _ r1 r3).mono ?_
      rintro e w2 ⟨u, rfl, hr, hb2⟩
      exact ⟨_, by simp only [frameRDiv, upd]; simp [Act.put], hr, hb2⟩
    · refine wpOp_at rfl rfl ?_
      refine wp_load_row 26 (.tmp 2) rfl g rfl 26 #[.bool false, (.slice A1 l1.length c1), (.slice A2 l2.length c2)] (0, 0) _ ((hb.block g (by omega)).trans HW0.out) Tryz.underlying26 rfl (HI3.out _ _ _ _ _ _ _) ?_
      exact ⟨_, by simp only [frameRDiv, upd]; simp [Act.put], rfl, Below.refl _ _⟩
    · have h5 : xs 5 = .agg #[.bool false, (.slice A1 l1.length c1), (.slice A2 l2.length c2)] := hdep 5 (by decide) (by kernel_rfl)
      refine wpOp_at rfl rfl ?_
      unfold frameRDiv Oper.wp
      simp only [h5]
      go_simp
      refine (BA.out w1 hb).mono ?_
      rintro e w2 ⟨u, rfl, hr, hb2⟩
      exact ⟨_, by simp only [frameRDiv, upd]; simp [Act.put, h5], hr, hb2⟩
    · refine wpOp_at rfl rfl ?_
      refine wp_load_row 26 (.tmp 3) rfl (g + 1) rfl 26 #[.bool false, (.slice A3 l3.length c3), (.slice A4 l4.length c4)] (0, 0) _ ((hb.block (g + 1) (by omega)).trans HW1.out) Tryz.underlying26 rfl (HI3.out _ _ _ _ _ _ _) ?_
      exact ⟨_, by simp only [frameRDiv, upd]; simp [Act.put], rfl, Below.refl _ _⟩
    · have h7 : xs 7 = .agg #[.bool false, (.slice A3 l3.length c3), (.slice A4 l4.length c4)] := hdep 7 (by decide) (by kernel_rfl)
      refine wpOp_at rfl rfl ?_
      unfold frameRDiv Oper.wp
      simp only [h7]
      go_simp
      refine (TB.out w1 hb).mono ?_
      rintro e w2 ⟨u, rfl, hr, hb2⟩
      exact ⟨_, by simp only [frameRDiv, upd]; simp [Act.put, h7], hr, hb2⟩
    · have r6 : Nat3 w1 (xs 6) a2 := hdep 6 (by decide) (by kernel_rfl)
      have r8 : Nat3 w1 (xs 8) b1 := hdep 8 (by decide) (by kernel_rfl)
      refine wpOp_at rfl rfl ?_
      unfold frameRDiv Oper.wp
      go_simp
      refine (M2.out w1 _ _ r6 r8).mono ?_
      rintro e w2 ⟨u, rfl, hr, hb2⟩
      exact ⟨_, by simp only [frameRDiv, upd]; simp [Act.put], hr, hb2⟩
    · have r4 : Nat3 w1 (xs 4) (a1 * b2) := hdep 4 (by decide) (by kernel_rfl)
      have r9 : Nat3 w1 (xs 9) (a2 * b1) := hdep 9 (by decide) (by kernel_rfl)
      refine wpOp_at rfl rfl ?_
      unfold frameRDiv Oper.wp
      go_simp
      refine (MK.out w1 _ _ r4 r9).mono ?_
      rintro e w2 ⟨t, u, rfl, ht, hu, hb2⟩
      exact ⟨_, by simp only [frameRDiv, upd]; simp [Act.put], ⟨t, u, rfl, ht, hu⟩, hb2⟩
    · have r10 : ∃ t u, (xs 10) = .tuple #[.agg #[.bool r.1.neg, t, u], .int .i64 r.2] ∧ IsRes w1 t r.1.top ∧ IsRes w1 u r.1.bot := hdep 10 (by decide) (by kernel_rfl)
      refine wpOp_at rfl rfl ?_
      obtain ⟨t, u, h10, ht, hu⟩ := r10
      unfold frameRDiv Oper.wp
      simp only [h10]
      go_simp
      exact ⟨_, by simp only [frameRDiv, upd]; simp [Act.put, h10], ⟨t, u, rfl, ht, hu⟩, Below.refl _ _⟩
    · have r10 : ∃ t u, (xs 10) = .tuple #[.agg #[.bool r.1.neg, t, u], .int .i64 r.2] ∧ IsRes w1 t r.1.top ∧ IsRes w1 u r.1.bot := hdep 10 (by decide) (by kernel_rfl)
      refine wpOp_at rfl rfl ?_
      obtain ⟨t, u, h10, ht, hu⟩ := r10
      unfold frameRDiv Oper.wp
      simp only [h10]
      go_simp
      exact ⟨_, by simp only [frameRDiv, upd]; simp [Act.put, h10], rfl, Below.refl _ _⟩
  · intro i xs w1 hi0 hi hdep
    have hi6 : i < 15 := hi0
    clear hi0
    obtain rfl : i = 14 := by omega
    have h12 : xs 12 = .int .i64 r.2 := hdep 12 (by decide) (by kernel_rfl)
    refine wpOp_at rfl rfl ?_
    unfold frameRDiv Oper.wp
    simp only [h12]
    go_simp
    exact ⟨_, by simp only [frameRDiv, upd]; simp [Act.put, h12], rfl, Below.refl _ _⟩
  · intro xs w1 hb hx
    obtain ⟨t, u, h11, ht, hu⟩ : ∃ t u, xs 11 = .agg #[.bool r.1.neg, t, u] ∧ IsRes w1 t r.1.top ∧ IsRes w1 u r.1.bot := hx 11 (by decide)
    clear hx
    have HG := Lib.hid ((hb.block (g + 1 + 1) (by omega)).trans HW2.out)
    have HT := Lib.hid ht
    have HU := Lib.hid hu
    obtain ⟨A5, c5, rfl⟩ := res_slice ht
    obtain ⟨A6, c6, rfl⟩ := res_slice hu
    refine wpOp_at rfl rfl ?_
    refine wp_store_row 26 (.tmp 4) (.tmp 17) rfl (g + 1 + 1) #[.bool r.1.neg, .slice A5 r.1.top.length c5, .slice A6 r.1.bot.length c6] rfl (by unfold frameRDiv; simp only [h11]; rfl) 26 #[.bool false, .slice none 0 0, .slice none 0 0] HG.out (HI3.out _ _ _ _ _ _ _) rfl (three_one _ _ _ _ _ _ _) ?_
    refine ⟨rfl, grown_setRow _ _ _, ⟨_, _, rheap_same HG.out, HT.out.setRow HG.out (three_no_int _ _ _ _ _ _ _) _, HU.out.setRow HG.out (three_no_int _ _ _ _ _ _ _) _⟩, fun i v hi hv => ?_⟩
    match i with
      | 0 => exact hv
      | 1 => exact hv.setRow HG.out (three_no_int _ _ _ _ _ _ _) _
      | 2 => exact hv
      | 3 => exact hv.setRow HG.out (three_no_int _ _ _ _ _ _ _) _
      | 4 => exact hv.setRow HG.out (three_no_int _ _ _ _ _ _ _) _
      | 5 => exact hv
      | 6 => exact hv.setRow HG.out (three_no_int _ _ _ _ _ _ _) _
      | 7 => exact hv
      | 8 => exact hv.setRow HG.out (three_no_int _ _ _ _ _ _ _) _
      | 9 => exact hv.setRow HG.out (three_no_int _ _ _ _ _ _ _) _
      | 10 => exact (by obtain ⟨t, u, e, ht, hu⟩ := hv; exact ⟨t, u, e, ht.setRow HG.out (three_no_int _ _ _ _ _ _ _) _, hu.setRow HG.out (three_no_int _ _ _ _ _ _ _) _⟩)
      | 11 => exact (by obtain ⟨t, u, e, ht, hu⟩ := hv; exact ⟨t, u, e, ht.setRow HG.out (three_no_int _ _ _ _ _ _ _) _, hu.setRow HG.out (three_no_int _ _ _ _ _ _ _) _⟩)
      | 12 => exact hv
      | 13 => exact hv
      | i + 14 => exact hv
  · intro xs w1 hb hrs hx
    have h14 : xs 14 = .int .i64 r.2 := hx 14 (by decide) (by decide)
    clear hx
    obtain ⟨t, u, hg2, ht, hu⟩ := hrs
    have HT := Lib.hid ht
    have HU := Lib.hid hu
    have HG := Lib.hid hg2
    obtain ⟨A5, c5, rfl⟩ := res_slice ht
    obtain ⟨A6, c6, rfl⟩ := res_slice hu
    have hfin : Below g w w1 := hWb.grown hb (by omega) (fun k e => by injection e with e; omega)
    have HF := Lib.hid hfin
    clear ht hu hg2 hb hfin
    unfold frameRDiv
    simp only [h14]
    go_wp2_with fail
    refine bodyPost_ret (results_cell_row_tmp (by rfl) _ _ (g + 1 + 1) 26 #[.bool r.1.neg, .slice A5 r.1.top.length c5, .slice A6 r.1.bot.length c6] (0, 0) _ _ (by rfl) (by rfl) HG.out Tryz.underlying26 rfl (HI3.out _ _ _ _ _ _ _)) rfl ⟨_, _, rfl, HT.out, HU.out, ?_⟩
    rw [← HGG.out]; exact HF.out
end Go.Proofs.YtfiefglagknclaaGreatDoor

/-
  scrimref04.Whole, Of: a number of a whole one, and of an int.
-/
namespace Go.Proofs.YtfiefglagknclaaGreatDoor
open Go.RowKit
set_option maxHeartbeats 4000000
set_option maxRecDepth 100000
set_option linter.unusedVariables false

/-- The call hands back a number. -/
def NumOut (w : World) (n : Rt.Nm) (e : Ending) (w' : World) : Prop := ∃ t u, e = .returned (.agg #[.bool n.neg, t, u]) ∧ IsRes w' t n.top ∧ IsRes w' u n.bot ∧ Below w.heap.size w w'
theorem whole4_any (b : Bool) (v : Value) (x : Nat) (w : World) (h : ResL w v (Nt.digs x)) :
    Calls Tryz.prog 19 #[.agg #[.bool b, v]] w (NumOut w ⟨Rt.nrm b x, Nt.digs x, [1]⟩) := by
  have hb0 : ∀ o1 o2, Below w.heap.size w ((w.alloc o1).alloc o2) := fun o1 o2 => ((Below.refl _ _).alloc (Nat.le_refl _) _).alloc (by simp) _
  have NM := fun o1 o2 => norm3_any b v _ _ (h.below (hb0 o1 o2))
  rw [Nt.val_digs] at NM
  have HNM := Lib.hid NM
  have HB := Lib.hid hb0
  have HG1 : Hid (∀ o1 o2, ((w.alloc o1).alloc o2).heap[w.heap.size + 1]? = some o2) := Lib.hid (fun o1 o2 => by
    have := heap_alloc_new (w.alloc o1) o2
    rwa [show (w.alloc o1).heap.size = w.heap.size + 1 by simp] at this)
  have HG0 : Hid (∀ o1 o2, ((w.alloc o1).alloc o2).heap[w.heap.size]? = some o1) := Lib.hid (fun o1 o2 => (Below.heap_alloc _ _ _ (by simp)).trans (heap_alloc_new w o1))
  have HI2 : Hid (∀ (b : Bool) (A : Option Addr) (k c : Nat), (Tryz.prog.info? 49).map (·.size) = some (#[.bool b, .slice A k c] : Array Value).size) := Lib.hid (fun _ _ _ _ => int3_info)
  have HI3 : Hid (∀ (b : Bool) (A : Option Addr) (k c : Nat) (A' : Option Addr) (k' c' : Nat), (Tryz.prog.info? 26).map (·.size) = some (#[.bool b, .slice A k c, .slice A' k' c'] : Array Value).size) := Lib.hid (fun _ _ _ _ _ _ _ => num_info)
  have HNEW : Hid (∀ wx : World, IsRes (wx.alloc (.cells #[.int .u32 1] 22)) (.slice (some ⟨wx.heap.size, 0, none⟩) 1 1) [1]) := Lib.hid (fun wx => isRes_new wx [1] (by decide))
  obtain ⟨A, c, rfl⟩ := res_slice h.1
  clear h NM hb0
  generalize Rt.nrm b x = b' at *
  generalize Nt.digs x = D at *
  go_enter Tryz.func19, Tryz.ntmps19
  go_wp2_with fail
  refine (HNM.out _ _).mono ?_
  rintro e w3 ⟨v3, rfl, hr3, hb3⟩
  have HG3 := Lib.hid ((hb3.block (w.heap.size + 1) (by simp)).trans (HG1.out _ _))
  have hbw3 := (HB.out _ _).trans (hb3.mono (HB.out _ _).size)
  have hlt3 := blk_lt HG3.out
  have HR3 := Lib.hid hr3.1
  obtain ⟨A3, c3, rfl⟩ := res_slice hr3.1
  clear hr3 hb3 HNM
  obtain ⟨w4, hw4⟩ : ∃ w4, w4 = (w3.alloc (.cells #[.bool b', .slice A3 D.length c3] 49)).alloc (.cells #[.int .u32 1] 22) := ⟨_, rfl⟩
  have hb34 : Below w3.heap.size w3 w4 := by rw [hw4]; exact ((Below.refl _ _).alloc (Nat.le_refl _) _).alloc (by simp) _
  have HG4 := Lib.hid ((hb34.block (w.heap.size + 1) hlt3).trans HG3.out)
  have hN : IsRes w4 (.slice (some ⟨w3.heap.size + 1, 0, none⟩) 1 1) [1] := by
    have := HNEW.out (w3.alloc (.cells #[.bool b', .slice A3 D.length c3] 49))
    rw [show (w3.alloc (.cells #[.bool b', .slice A3 D.length c3] 49)).heap.size = w3.heap.size + 1 by simp] at this
    rw [hw4]; exact this
  have HT := Lib.hid ((HR3.out.below hb34).setRow HG4.out (three_no_int _ _ _ _ _ _ _) #[.bool b', .slice A3 D.length c3, .slice (some ⟨w3.heap.size + 1, 0, none⟩) 1 1])
  have HU := Lib.hid (hN.setRow HG4.out (three_no_int _ _ _ _ _ _ _) #[.bool b', .slice A3 D.length c3, .slice (some ⟨w3.heap.size + 1, 0, none⟩) 1 1])
  have hbw4 := hbw3.trans (hb34.mono hbw3.size)
  have HF := Lib.hid (rBelow.setRow hbw4 (show w.heap.size ≤ w.heap.size + 1 by omega) #[.bool b', .slice A3 D.length c3, .slice (some ⟨w3.heap.size + 1, 0, none⟩) 1 1])
  have HG5 := Lib.hid (rheap_same (cs := #[.bool b', .slice A3 D.length c3, .slice (some ⟨w3.heap.size + 1, 0, none⟩) 1 1]) HG4.out)
  rw [hw4] at HG4 HT HU HF HG5
  clear hw4 hb34 hN hbw4 hbw3 HR3
  go_wp2_with (with_reducible refine wpList_store_row rfl 26 (.tmp 2) (.tmp 11) rfl (w.heap.size + 1) #[.bool b', .slice A3 D.length c3, .slice (some ⟨w3.heap.size + 1, 0, none⟩) 1 1] rfl rfl 26 #[.bool false, .slice none 0 0, .slice none 0 0] HG4.out (HI3.out _ _ _ _ _ _ _) rfl (three_one _ _ _ _ _ _ _) ?_)
  refine bodyPost_ret (results_cell_row (by rfl) _ _ (w.heap.size + 1) 26 #[.bool b', .slice A3 D.length c3, .slice (some ⟨w3.heap.size + 1, 0, none⟩) 1 1] (0, 0) _ (by rfl) HG5.out Tryz.underlying26 rfl (HI3.out _ _ _ _ _ _ _)) rfl ⟨_, _, rfl, HT.out, HU.out, HF.out⟩

theorem ofInt4_any (n : Int) (w : World) (h1 : -9223372036854775808 ≤ n) (h2 : n ≤ 9223372036854775807) :
    Calls Tryz.prog 6 #[.int .i64 n] w (NumOut w ⟨decide (n < 0), Nt.digs n.natAbs, [1]⟩) := by
  have hnr : Rt.nrm (decide (n < 0)) n.natAbs = decide (n < 0) := by
    unfold Rt.nrm
    by_cases h : n < 0
    · have : (n.natAbs == 0) = false := by rw [beq_eq_false_iff_ne]; omega
      rw [this]; simp
    · rw [decide_eq_false h]; simp
  have HO := Lib.hid (fun o => refOfInt_any n (w.alloc o) h1 h2)
  have HWH := Lib.hid (fun (wx : World) (v : Value) (h : ResL wx v (Nt.digs n.natAbs)) => by
    have := whole4_any (decide (n < 0)) v n.natAbs wx h
    rw [hnr] at this
    exact this)
  have HB : Hid (∀ o, Below w.heap.size w (w.alloc o)) := Lib.hid (fun o => (Below.refl _ _).alloc (Nat.le_refl _) _)
  have HG : Hid (∀ o, (w.alloc o).heap[w.heap.size]? = some o) := Lib.hid (fun o => heap_alloc_new w o)
  have HI3 : Hid (∀ (b : Bool) (A : Option Addr) (k c : Nat) (A' : Option Addr) (k' c' : Nat), (Tryz.prog.info? 26).map (·.size) = some (#[.bool b, .slice A k c, .slice A' k' c'] : Array Value).size) := Lib.hid (fun _ _ _ _ _ _ _ => num_info)
  clear hnr h1 h2
  generalize decide (n < 0) = bn at *
  generalize Nt.digs n.natAbs = D at *
  go_enter Tryz.func6, Tryz.ntmps6
  go_wp2_with fail
  refine (HO.out _).mono ?_
  rintro e w2 ⟨v2, rfl, hr2, hb2⟩
  have HG2 := Lib.hid ((hb2.block w.heap.size (by simp)).trans (HG.out _))
  have hbw2 := (HB.out _).trans (hb2.mono (HB.out _).size)
  have HW2 := Lib.hid (HWH.out w2 v2 hr2)
  clear hr2 hb2 HO HWH
  go_wp2_with fail
  refine HW2.out.mono ?_
  rintro e w3 ⟨t, u, rfl, ht, hu, hb3⟩
  have HG3 := Lib.hid ((hb3.block w.heap.size (blk_lt HG2.out)).trans HG2.out)
  have hbw3 := hbw2.trans (hb3.mono hbw2.size)
  dsimp only at ht hu ⊢
  have HT := Lib.hid (ht.setRow HG3.out (three_no_int _ _ _ _ _ _ _) #[.bool bn, t, u])
  have HU := Lib.hid (hu.setRow HG3.out (three_no_int _ _ _ _ _ _ _) #[.bool bn, t, u])
  obtain ⟨A3, c3, rfl⟩ := res_slice ht
  obtain ⟨A4, c4, rfl⟩ := res_slice hu
  clear ht hu hb3 HW2 hbw2
  have HF := Lib.hid (rBelow.setRow hbw3 (Nat.le_refl _) #[.bool bn, .slice A3 D.length c3, .slice A4 ([1] : List Nat).length c4])
  go_wp2_with (with_reducible refine wpList_store_row rfl 26 (.tmp 2) (.tmp 5) rfl w.heap.size #[.bool bn, .slice A3 D.length c3, .slice A4 ([1] : List Nat).length c4] rfl rfl 26 #[.bool false, .slice none 0 0, .slice none 0 0] HG3.out (HI3.out _ _ _ _ _ _ _) rfl (three_one _ _ _ _ _ _ _) ?_)
  refine bodyPost_ret (results_cell_row (by rfl) _ _ w.heap.size 26 #[.bool bn, .slice A3 D.length c3, .slice A4 ([1] : List Nat).length c4] (0, 0) _ (by rfl) (rheap_same HG3.out) Tryz.underlying26 rfl (HI3.out _ _ _ _ _ _ _)) rfl ⟨_, _, rfl, HT.out, HU.out, HF.out⟩
end Go.Proofs.YtfiefglagknclaaGreatDoor

/-
  What strconv.FormatUint computes at base 10 (after the library's proof of FormatInt, turned to FormatUint).
-/
namespace Go.Proofs.YtfiefglagknclaaGreatDoor
open Go.RowKit Go.Sort Go.Lib Go.Shelf
set_option maxHeartbeats 6400000
set_option maxRecDepth 100000
set_option linter.unusedVariables false

theorem holds_zero0 (w : World) (T : TypeId) (nd : Nat) (hs : nd ≤ 24) : Holds (fun (b : UInt8) => Value.int .u8 (b.toNat : Int)) (w.alloc (.cells zeros24 T)) w.heap.size 0 (Array.replicate nd (0 : UInt8)) := fun j hj => by
  have hj' : j < nd := by simpa using hj
  refine ⟨?_, World.frozen?_alloc_new _ _ _ _⟩
  rw [World.cell?_alloc_new, zeros24_at _ (by omega), getElem!_pos _ j hj]
  simp
theorem fin0 (w : World) (o : Obj) (dk : Array UInt8) (k : Nat) : Below w.heap.size w ((putRow (fun (b : UInt8) => Value.int .u8 (b.toNat : Int)) (w.alloc o) w.heap.size 0 dk).drewN k) := by
  rw [alloc_eq_grow]
  obtain ⟨os', _, e⟩ := putRow_grow_new (fun (b : UInt8) => Value.int .u8 (b.toNat : Int)) w #[o] w.heap.size 0 dk (Nat.le_refl _)
  rw [e]
  exact ⟨rfl, rfl, rfl, by show w.heap.size ≤ (grow w os').heap.size; simp, fun g hg => heap_grow_old w os' hg⟩
theorem innerFormatUint_any (u : Nat) (w : World) (hu64 : u < 18446744073709551616) (htab : Lib.TabIs Tryz.prog w "internal/strconv.uint64pow10" .u64 Lib.pow10Tab) :
    Calls Tryz.prog 119 #[.int .u64 (u : Int), .int .i64 10] w fun e w' => e = .returned (.string ⟨(Lib.decDigits u).toArray⟩) ∧ Below w.heap.size w w' := by
  by_cases hs : u < 100
  · go_enter Tryz.func119, Tryz.ntmps119
    go_wp2_with (go_at_call 131; refine (Tryz.internal_strconv_small u hs _).mono ?_; rintro e w' ⟨rfl, rfl⟩)
    go_ret
    exact ⟨rfl, Below.refl _ _⟩
  · have hu1 : 1 ≤ u := by omega
    have hnd20 : Lib.nDigits u ≤ 20 := by have := Lib.numDigits_eq u hu1 hu64; split at this <;> omega
    have hH0 := holds_zero0 w 153 (Lib.nDigits u) (by omega)
    have hfmt := Tryz.internal_strconv_formatBase10 w.heap.size 0 24 u (Array.replicate (Lib.nDigits u) 0) (w.alloc (.cells Lib.zeros24 153)) hH0 (by rw [Array.size_replicate]; exact Lib.lt_pow_nDigits u) hu64 (by rw [Array.size_replicate]; omega)
    rw [Array.size_replicate] at hfmt
    have HH0 := Lib.hid hH0
    clear hH0
    have hal : Program.arrayLen Tryz.prog 153 = 24 := by simp [Program.arrayLen, Tryz.underlying153]
    have hb3 : Lib.nDigits u ≤ 24 := by omega
    have hsl1 : ∀ W, (Instr.sliceAt 153 (.pointer (some ⟨w.heap.size, 0, none⟩)) none (some (.int .i64 (Lib.nDigits u : Int))) none).run Tryz.prog W = .ok (.slice (some ⟨w.heap.size, 0, none⟩) (Lib.nDigits u) 24) W := fun W => by
      rw [run_sliceAt_array_h W 153 ⟨w.heap.size, 0, none⟩ (by simp [Program.arrayLen, Program.elem, Tryz.underlying153]) .i64 (Lib.nDigits u : Int) (by omega) (by rw [hal]; omega)]
      go_simp
    clear hal
    go_enter Tryz.func119, Tryz.ntmps119
    go_wp2_with (first
      | (go_at_call 132; refine (Tryz.internal_strconv_numDigits u hu1 hu64 _ (Lib.tabIs_alloc htab _)).mono ?_; rintro e w' ⟨rfl, rfl⟩))
    refine hfmt.mono ?_
    rintro e w' ⟨rfl, k, v', dk, rfl, hF⟩
    have hcv : (convert 82 9 (.slice (some ⟨w.heap.size, 0, none⟩) (Lib.nDigits u) 24)).run Tryz.prog ((putRow (fun (b : UInt8) => Value.int .u8 (b.toNat : Int)) (w.alloc (.cells Lib.zeros24 153)) w.heap.size 0 dk).drewN k) = .ok (.string ⟨(Lib.decDigits u).toArray⟩) ((putRow (fun (b : UInt8) => Value.int .u8 (b.toNat : Int)) (w.alloc (.cells Lib.zeros24 153)) w.heap.size 0 dk).drewN k) := by
      have h := run_convert_bytes_back (P := Tryz.prog) ((putRow (fun (b : UInt8) => Value.int .u8 (b.toNat : Int)) (w.alloc (.cells Lib.zeros24 153)) w.heap.size 0 dk).drewN k) 82 9 5 ⟨w.heap.size, 0, none⟩ 24 (Lib.decDigits u) Tryz.underlying82 Tryz.underlying5 Tryz.underlying9 (fun j hj => by
        rw [Lib.row_is_numeral hF j hj, Lib.add_plain, World.cell?_drewN]
        exact cell?_putRow (fun (b : UInt8) => Value.int .u8 (b.toNat : Int)) _ w.heap.size 0 _ dk HH0.out (by rw [hF.size, Array.size_replicate]) j (by rw [hF.size]; rw [Lib.decDigits_length] at hj; exact hj))
      rw [Lib.decDigits_length] at h
      exact h
    go_wp2_with fail
    go_ret
    exact ⟨rfl, fin0 _ _ _ _⟩
theorem formatUint_any (u : Nat) (w : World) (hu64 : u < 18446744073709551616) (htab : Lib.TabIs Tryz.prog w "internal/strconv.uint64pow10" .u64 Lib.pow10Tab) :
    Calls Tryz.prog 97 #[.int .u64 (u : Int), .int .i64 10] w fun e w' => e = .returned (.string ⟨(Lib.decDigits u).toArray⟩) ∧ Below w.heap.size w w' := by
  go_enter Tryz.func97, Tryz.ntmps97
  go_wp2_with (go_at_call 119; refine (innerFormatUint_any u w hu64 htab).mono ?_; rintro e w' ⟨rfl, hb⟩)
  go_ret
  exact ⟨rfl, hb⟩
end Go.Proofs.YtfiefglagknclaaGreatDoor
