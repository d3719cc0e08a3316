/-
  Texts of this proof, joined (by wip/bin/bundle.py): Dig3, Dig6, Dig7, Dig8.
-/
import Derived.Test.YtfiefglagknclaaDoorM8
import Derived.Deep.QuietTactic
import Derived.BigQuiet
import Derived.IntWalk
/-
  The program's ratio.Make. (Printed by wip/bin/gen_dig3.py.)
-/
namespace Go.Proofs.YtfiefglagknclaaDoor
open Go.RowKit
set_option maxHeartbeats 4000000
set_option maxRecDepth 100000
set_option linter.unusedVariables false

theorem pDivMod_res {w : World} {v1 v2 : Value} {l1 l2 : List Nat} (h1 : IsRes w v1 l1) (h2 : IsRes w v2 l2) (o1 : Nt.Ok l1) (o2 : Nt.Ok l2) (s1 : l1.length ≤ 1000000) (s2 : l2.length ≤ 1000000) :
    Calls Tryd.prog 68 #[v1, v2] w fun e w' => ∃ u1 u2, e = .returned (.tuple #[u1, u2, .bool (decide (Nt.val l2 ≠ 0))]) ∧ IsRes w' u1 (Nt.digs (Nt.quo (Nt.val l1) (Nt.val l2))) ∧ IsRes w' u2 (Nt.digs (Nt.rest (Nt.val l1) (Nt.val l2))) ∧ Below w.heap.size w w' := by
  obtain ⟨A, c, rfl, a1, a2, a3, a4⟩ := h1
  obtain ⟨A', c', rfl, b1, b2, b3, b4⟩ := h2
  exact (divMod_any A A' c c' w.heap.size l1 l2 w a4 b4 (Nat.le_refl _) o1 o2 a1 b1 a2 b2 s1 s2 (.inr long_any)).mono (by
    rintro e w' ⟨u1, u2, rfl, r1, r2, hb'⟩
    exact ⟨u1, u2, rfl, r1, r2, hb'⟩)
theorem pGcd_res {w : World} {v1 v2 : Value} {l1 l2 : List Nat} (h1 : IsRes w v1 l1) (h2 : IsRes w v2 l2) (o1 : Nt.Ok l1) (o2 : Nt.Ok l2) (s1 : l1.length ≤ 1000000) (s2 : l2.length ≤ 1000000) :
    Calls Tryd.prog 67 #[v1, v2] w fun e w' => ∃ v, e = .returned v ∧ IsRes w' v (Nt.digs (Nat.gcd (Nt.val l1) (Nt.val l2))) ∧ Below w.heap.size w w' := by
  have h1' := h1
  have h2' := h2
  obtain ⟨A, c, rfl, -⟩ := h1
  obtain ⟨A', c', rfl, -⟩ := h2
  exact gcd_any A A' c c' l1 l2 w h1' h2' o1 o2 s1 s2
theorem digs_one : Nt.digs 1 = [1] := by rw [Nt.digs_pos (by decide)]; simp [Nt.digs_zero]
theorem one_digs (x : Nat) : (Nt.digs x == [1]) = (x == 1) := by
  rw [Bool.eq_iff_iff, beq_iff_eq, beq_iff_eq]
  constructor
  · intro h
    have := congrArg Nt.val h
    rw [Nt.val_digs] at this
    rw [this]; rfl
  · rintro rfl; exact digs_one
def frameMK (g : Nat) (P Q : Array Value) (xs : Nat → Value) : Act := { tmps := #[.agg P, .agg Q, .pointer (some ⟨g, 0, none⟩), .pointer (some ⟨g + 1, 0, none⟩), .pointer (some ⟨g + 1 + 1, 0, none⟩), .int .i64 0, xs 6, xs 7, undef, xs 0, xs 1, xs 2, xs 3, xs 4, xs 5, undef, undef, undef, undef, undef, undef, undef, undef, undef, undef, undef, undef, undef, undef, undef, undef, undef, undef, undef, undef, undef, undef, undef, undef, undef, undef, undef, undef, undef, undef, undef, undef, undef, undef, undef, undef, undef, undef, undef, undef, undef, undef, undef, undef, undef, undef, undef, undef, undef], defers := [] }
def predMK (g : Nat) (V1 V2 : Value) (l1 l2 : List Nat) : Nat → World → Value → Prop
  | 0, w, v => v = .pointer (some ⟨g, 1, none⟩)
  | 1, w, v => v = V1
  | 2, w, v => IsRes w v (Nt.digs (Nt.val l1))
  | 3, w, v => v = .pointer (some ⟨g + 1, 1, none⟩)
  | 4, w, v => v = V2
  | 5, w, v => IsRes w v (Nt.digs (Nt.val l2))
  | 6, w, v => IsRes w v (Nt.digs (Nt.val l1))
  | _, w, v => IsRes w v (Nt.digs (Nt.val l2))

theorem ratioMake_any (n1 n2 : Bool) (v1 v2 : Value) (l1 l2 : List Nat) (w : World) (h1 : IsRes w v1 l1) (h2 : IsRes w v2 l2) (o1 : Nt.Ok l1) (o2 : Nt.Ok l2) (s1 : l1.length ≤ 1000000) (s2 : l2.length ≤ 1000000) :
    Calls Tryd.prog 32 #[.agg #[.bool n1, v1], .agg #[.bool n2, v2]] w (MakeOut w (Rt.mk n1 n2 (Nt.val l1) (Nt.val l2))) := by
  obtain ⟨g, hg⟩ : ∃ g, g = w.heap.size := ⟨_, rfl⟩
  obtain ⟨W, hW⟩ : ∃ W, W = ((w.alloc (.cells #[.bool n1, v1] 58)).alloc (.cells #[.bool n2, v2] 58)).alloc (.cells #[.bool false, .slice none 0 0, .slice none 0 0] 24) := ⟨_, rfl⟩
  have hWs : W.heap.size = g + 1 + 1 + 1 := by rw [hW, hg]; simp
  have hWb : Below g w W := by rw [hW, hg]; exact (((Below.refl _ _).alloc (Nat.le_refl _) _).alloc (by simp) _).alloc (by simp; omega) _
  have hW0 : W.heap[g]? = some (.cells #[.bool n1, v1] 58 (0, 0)) := by rw [hW, hg]; exact (Below.heap_alloc _ _ _ (by simp; omega)).trans (heap_alloc2_old _ _ _)
  have hW1 : W.heap[g + 1]? = some (.cells #[.bool n2, v2] 58 (0, 0)) := by rw [hW, hg]; exact (Below.heap_alloc _ _ _ (by simp)).trans (heap_alloc2_new _ _ _)
  have HW2 : Hid (W.heap[g + 1 + 1]? = some (.cells #[.bool false, .slice none 0 0, .slice none 0 0] 24 (0, 0))) := Lib.hid (by
    rw [hW, hg]
    have := heap_alloc_new ((w.alloc (.cells #[.bool n1, v1] 58)).alloc (.cells #[.bool n2, v2] 58)) (.cells #[.bool false, .slice none 0 0, .slice none 0 0] 24)
    rwa [show ((w.alloc (.cells #[.bool n1, v1] 58)).alloc (.cells #[.bool n2, v2] 58)).heap.size = w.heap.size + 1 + 1 by simp] at this)
  have HQ : Hid (∀ wx, Below W.heap.size W wx → wx.cell? ⟨g, 1, none⟩ = some v1 ∧ wx.cell? ⟨g + 1, 1, none⟩ = some v2) := Lib.hid (fun wx hx => ⟨(cell_of_row wx g 1 _ _ _ ((hx.block g (by omega)).trans hW0)).trans rfl, (cell_of_row wx (g + 1) 1 _ _ _ ((hx.block (g + 1) (by omega)).trans hW1)).trans rfl⟩)
  have HQ0 : Hid (∀ wx, Below W.heap.size W wx → wx.cell? ⟨g, 0, none⟩ = some (.bool n1) ∧ wx.cell? ⟨g + 1, 0, none⟩ = some (.bool n2)) := Lib.hid (fun wx hx => ⟨(cell_of_row wx g 0 _ _ _ ((hx.block g (by omega)).trans hW0)).trans rfl, (cell_of_row wx (g + 1) 0 _ _ _ ((hx.block (g + 1) (by omega)).trans hW1)).trans rfl⟩)
  have hr1 : ∀ wx, Below W.heap.size W wx → IsRes wx v1 l1 := fun wx hx => (h1.below (by rw [← hg]; exact hWb)).below hx
  have hr2 : ∀ wx, Below W.heap.size W wx → IsRes wx v2 l2 := fun wx hx => (h2.below (by rw [← hg]; exact hWb)).below hx
  have N1 := Lib.hid (fun (wx : World) (hx : Below W.heap.size W wx) => wNorm_res (hr1 wx hx) o1 s1)
  have N2 := Lib.hid (fun (wx : World) (hx : Below W.heap.size W wx) => wNorm_res (hr2 wx hx) o2 s2)
  have d1 := Nt.digs_len_le o1
  have d2 := Nt.digs_len_le o2
  have HW := Lib.hid hW
  have HG := Lib.hid hg
  have hgl : g + 1 + 1 < W.heap.size := by omega
  obtain ⟨A1, c1, rfl, -⟩ := h1
  obtain ⟨A2, c2, rfl, -⟩ := h2
  clear hW hW0 hW1 hr1 hr2 hWs
  go_enter Tryd.func32, Tryd.ntmps32
  go_wp2_with fail
  rw [← HW.out, ← hg]
  clear hg
  refine wp_region_pred (frameMK g #[.bool n1, (.slice A1 l1.length c1)] #[.bool n2, (.slice A2 l2.length c2)]) W (predMK g (.slice A1 l1.length c1) (.slice A2 l2.length c2) l1 l2) (by kernel_rfl) ?_ (by kernel_rfl) (fun i => undef) rfl (Below.refl _ _) ?_ ?_
  · intro i w1 w2 v hv hb
    match i with
    | 0 => exact hv
    | 1 => exact hv
    | 2 => exact hv.below hb
    | 3 => exact hv
    | 4 => exact hv
    | 5 => exact hv.below hb
    | 6 => exact hv.below hb
    | i + 7 => exact hv.below hb
  · intro i xs w1 hi hb hdep
    have hi6 : i < 8 := hi
    clear hi
    rcases (show i = 0 ∨ i = 1 ∨ i = 2 ∨ i = 3 ∨ i = 4 ∨ i = 5 ∨ i = 6 ∨ i = 7 by omega) with rfl | rfl | rfl | rfl | rfl | rfl | rfl | rfl
    · refine wpOp_at rfl rfl ?_
      unfold frameMK Oper.wp
      go_simp
      exact ⟨_, by simp only [frameMK, upd]; simp [Act.put], rfl, Below.refl _ _⟩
    · have h0 : xs 0 = .pointer (some ⟨g, 1, none⟩) := hdep 0 (by kernel_rfl)
      refine wpOp_at rfl rfl ?_
      have q := (HQ.out w1 hb).1
      unfold frameMK Oper.wp
      simp only [h0]
      go_simp
      exact ⟨_, by simp only [frameMK, upd]; simp [Act.put, h0], rfl, Below.refl _ _⟩
    · have h1 : xs 1 = (.slice A1 l1.length c1) := hdep 1 (by kernel_rfl)
      refine wpOp_at rfl rfl ?_
      unfold frameMK Oper.wp
      simp only [h1]
      go_simp
      refine (N1.out w1 hb).mono ?_
      rintro e w2 ⟨v', rfl, hr, hb2⟩
      exact ⟨_, by simp only [frameMK, upd]; simp [Act.put, h1], hr, hb2⟩
    · refine wpOp_at rfl rfl ?_
      unfold frameMK Oper.wp
      go_simp
      exact ⟨_, by simp only [frameMK, upd]; simp [Act.put], rfl, Below.refl _ _⟩
    · have h3 : xs 3 = .pointer (some ⟨g + 1, 1, none⟩) := hdep 3 (by kernel_rfl)
      refine wpOp_at rfl rfl ?_
      have q := (HQ.out w1 hb).2
      unfold frameMK Oper.wp
      simp only [h3]
      go_simp
      exact ⟨_, by simp only [frameMK, upd]; simp [Act.put, h3], rfl, Below.refl _ _⟩
    · have h4 : xs 4 = (.slice A2 l2.length c2) := hdep 4 (by kernel_rfl)
      refine wpOp_at rfl rfl ?_
      unfold frameMK Oper.wp
      simp only [h4]
      go_simp
      refine (N2.out w1 hb).mono ?_
      rintro e w2 ⟨v', rfl, hr, hb2⟩
      exact ⟨_, by simp only [frameMK, upd]; simp [Act.put, h4], hr, hb2⟩
    · have r2 : IsRes w1 (xs 2) (Nt.digs (Nt.val l1)) := hdep 2 (by kernel_rfl)
      refine wpOp_at rfl rfl ?_
      unfold frameMK Oper.wp
      go_simp
      exact ⟨_, by simp only [frameMK, upd]; simp [Act.put], r2, Below.refl _ _⟩
    · have r5 : IsRes w1 (xs 5) (Nt.digs (Nt.val l2)) := hdep 5 (by kernel_rfl)
      refine wpOp_at rfl rfl ?_
      unfold frameMK Oper.wp
      go_simp
      exact ⟨_, by simp only [frameMK, upd]; simp [Act.put], r5, Below.refl _ _⟩
  · intro xs w1 hb hx
    have r6 : IsRes w1 (xs 6) (Nt.digs (Nt.val l1)) := hx 6 (by decide)
    have r7 : IsRes w1 (xs 7) (Nt.digs (Nt.val l2)) := hx 7 (by decide)
    clear hx
    obtain ⟨X, hX⟩ : ∃ X, X = Nt.val l1 := ⟨_, rfl⟩
    obtain ⟨Y, hY⟩ : ∃ Y, Y = Nt.val l2 := ⟨_, rfl⟩
    rw [← hX] at r6 d1 ⊢
    rw [← hY] at r7 d2 ⊢
    have HXv := Lib.hid hX
    have HYv := Lib.hid hY
    clear hX hY
    obtain ⟨x, hx⟩ : ∃ x, x = Nt.digs X := ⟨_, rfl⟩
    obtain ⟨y, hy⟩ : ∃ y, y = Nt.digs Y := ⟨_, rfl⟩
    have OX : Nt.Ok x := hx ▸ Nt.ok_digs X
    have OY : Nt.Ok y := hy ▸ Nt.ok_digs Y
    rw [← hx] at r6 d1
    rw [← hy] at r7 d2
    have HX2 := Lib.hid hx
    have HY2 := Lib.hid hy
    have HR1 := Lib.hid r6
    have HR2 := Lib.hid r7
    have HY0 : Hid (y.length = 0 ↔ Y = 0) := Lib.hid (by rw [hy, List.length_eq_zero_iff, Nt.digs_nil_iff])
    clear hx hy
    obtain ⟨C1, k1, f1, -⟩ := r6
    obtain ⟨C2, k2, f2, -⟩ := r7
    rw [f1] at HR1
    rw [f2] at HR2
    have p0 := (HQ0.out w1 hb).1
    have p0' := (HQ0.out w1 hb).2
    have HGA := Lib.hid ((hb.block (g + 1 + 1) hgl).trans HW2.out)
    have hxw : Below g w w1 := hWb.trans (hb.mono (by omega))
    have HI3 : Hid (∀ (b : Bool) (A : Option Addr) (k c : Nat) (A' : Option Addr) (k' c' : Nat), (Tryd.prog.info? 24).map (·.size) = some (#[.bool b, .slice A k c, .slice A' k' c'] : Array Value).size) := Lib.hid (fun _ _ _ _ _ _ _ => num_info)
    unfold frameMK
    simp only [f1, f2]
    by_cases hk0 : y.length = 0
    · have hz : ((y.length : Int) == 0) = true := by rw [hk0]; rfl
      have HK0 := Lib.hid (HY0.out.1 hk0)
      go_wp2_with (first
        | (with_reducible refine wpList_store_row rfl 24 (.tmp 4) (.tmp 18) rfl (g + 1 + 1) #[.bool false, .slice none 0 0, .slice none 0 0] rfl rfl 24 #[.bool false, .slice none 0 0, .slice none 0 0] HGA.out (HI3.out _ _ _ _ _ _ _) rfl (three_one _ _ _ _ _ _ _) ?_))
      refine bodyPost_ret (results_cell_row_tmp (by rfl) _ _ (g + 1 + 1) 24 #[.bool false, .slice none 0 0, .slice none 0 0] (0, 0) _ _ (by rfl) (by rfl) (rheap_same HGA.out) Tryd.underlying24 rfl (HI3.out _ _ _ _ _ _ _)) rfl (MakeOut.of (by unfold Rt.mk; rw [← HXv.out, ← HYv.out, if_pos HK0.out]; rfl) rfl (isRes_nil _) (isRes_nil _) (by rw [← HG.out]; exact rBelow.setRow hxw (by omega) _))
    · have hz : ((y.length : Int) == 0) = false := beq_eq_false_iff_ne.2 (by omega)
      have HY1 : Hid (Y ≠ 0) := Lib.hid (fun h => hk0 (HY0.out.2 h))
      by_cases hy1 : y = [1]
      · have q : (y == [1]) = true := by rw [hy1]; rfl
        have I1 := isOne_any _ _ w1 HR2.out
        rw [q] at I1
        have hYv : Y = 1 := by have := HY2.out; rw [hy1] at this; have := congrArg Nt.val this; rw [Nt.val_digs] at this; exact this.symm
        have HE1 : Hid (x = Nt.digs (X / Nat.gcd X Y)) := Lib.hid (by rw [hYv, Nat.gcd_one_right, Nat.div_one]; exact HX2.out)
        have HE2 : Hid (y = Nt.digs (Y / Nat.gcd X Y)) := Lib.hid (by rw [hYv, Nat.gcd_one_right, Nat.div_one, ← hYv]; exact HY2.out)
        have HI1 := Lib.hid I1
        have Hy1 := Lib.hid hy1
        clear hYv q I1 hy1
        go_wp2_with fail
        refine HI1.out.mono ?_
        rintro e w2 ⟨rfl, rfl⟩
        have HGB := HGA
        have hbw := hxw
        have HT1 := HR1
        have HT3 := HR2
        clear HGA hxw HI1
        have HX0 : Hid (x.length = 0 ↔ X = 0) := Lib.hid (by rw [HE1.out, List.length_eq_zero_iff, Nt.digs_nil_iff]; exact Rt.div_gcd_zero HY1.out)
        by_cases h32 : 32 < x.length
        · have g1 : decide ((32 : Int) < (x.length : Int)) = true := by simp; omega
          go_wp2_with (first
            | (with_reducible refine wpList_store_row rfl 24 (.tmp 4) (.tmp 50) rfl (g + 1 + 1) #[.bool false, .slice none 0 0, .slice none 0 0] rfl rfl 24 #[.bool false, .slice none 0 0, .slice none 0 0] HGB.out (HI3.out _ _ _ _ _ _ _) rfl (three_one _ _ _ _ _ _ _) ?_))
          refine bodyPost_ret (results_cell_row_tmp (by rfl) _ _ (g + 1 + 1) 24 #[.bool false, .slice none 0 0, .slice none 0 0] (0, 0) _ _ (by rfl) (by rfl) (rheap_same HGB.out) Tryd.underlying24 rfl (HI3.out _ _ _ _ _ _ _)) rfl (MakeOut.of (by unfold Rt.mk; rw [← HXv.out, ← HYv.out, if_neg HY1.out, ← HE1.out, ← HE2.out, if_pos (by omega)]; rfl) rfl (isRes_nil _) (isRes_nil _) (by rw [← HG.out]; exact rBelow.setRow hbw (by omega) _))
        · by_cases h33 : 32 < y.length
          · have g1 : decide ((32 : Int) < (x.length : Int)) = false := by simp; omega
            have g2 : decide ((32 : Int) < (y.length : Int)) = true := by simp; omega
            go_wp2_with (first
              | (with_reducible refine wpList_store_row rfl 24 (.tmp 4) (.tmp 50) rfl (g + 1 + 1) #[.bool false, .slice none 0 0, .slice none 0 0] rfl rfl 24 #[.bool false, .slice none 0 0, .slice none 0 0] HGB.out (HI3.out _ _ _ _ _ _ _) rfl (three_one _ _ _ _ _ _ _) ?_))
            refine bodyPost_ret (results_cell_row_tmp (by rfl) _ _ (g + 1 + 1) 24 #[.bool false, .slice none 0 0, .slice none 0 0] (0, 0) _ _ (by rfl) (by rfl) (rheap_same HGB.out) Tryd.underlying24 rfl (HI3.out _ _ _ _ _ _ _)) rfl (MakeOut.of (by unfold Rt.mk; rw [← HXv.out, ← HYv.out, if_neg HY1.out, ← HE1.out, ← HE2.out, if_pos (by omega)]; rfl) rfl (isRes_nil _) (isRes_nil _) (by rw [← HG.out]; exact rBelow.setRow hbw (by omega) _))
          · have g1 : decide ((32 : Int) < (x.length : Int)) = false := by simp; omega
            have g2 : decide ((32 : Int) < (y.length : Int)) = false := by simp; omega
            by_cases h34 : 0 < x.length
            · have g3 : decide ((0 : Int) < (x.length : Int)) = true := decide_eq_true (by omega)
              have HXB : Hid ((X == 0) = false) := Lib.hid (by have := HX0.out; simp; omega)
              cases n1
              · cases n2
                · go_wp2_with (first
                    | (with_reducible refine wpList_store_row rfl 24 (.tmp 4) (.tmp 63) rfl (g + 1 + 1) #[.bool false, .slice C1 x.length k1, .slice C2 y.length k2] rfl rfl 24 #[.bool false, .slice none 0 0, .slice none 0 0] HGB.out (HI3.out _ _ _ _ _ _ _) rfl (three_one _ _ _ _ _ _ _) ?_))
                  refine bodyPost_ret (results_cell_row_tmp (by rfl) _ _ (g + 1 + 1) 24 #[.bool false, .slice C1 x.length k1, .slice C2 y.length k2] (0, 0) _ _ (by rfl) (by rfl) (rheap_same HGB.out) Tryd.underlying24 rfl (HI3.out _ _ _ _ _ _ _)) rfl (MakeOut.of (by unfold Rt.mk; rw [← HXv.out, ← HYv.out, if_neg HY1.out, ← HE1.out, ← HE2.out, if_neg (by omega), HXB.out]; rfl) rfl (HT1.out.setRow HGB.out (three_no_int _ _ _ _ _ _ _) _) (HT3.out.setRow HGB.out (three_no_int _ _ _ _ _ _ _) _) (by rw [← HG.out]; exact rBelow.setRow hbw (by omega) _))
                · go_wp2_with (first
                    | (with_reducible refine wpList_store_row rfl 24 (.tmp 4) (.tmp 63) rfl (g + 1 + 1) #[.bool true, .slice C1 x.length k1, .slice C2 y.length k2] rfl rfl 24 #[.bool false, .slice none 0 0, .slice none 0 0] HGB.out (HI3.out _ _ _ _ _ _ _) rfl (three_one _ _ _ _ _ _ _) ?_))
                  refine bodyPost_ret (results_cell_row_tmp (by rfl) _ _ (g + 1 + 1) 24 #[.bool true, .slice C1 x.length k1, .slice C2 y.length k2] (0, 0) _ _ (by rfl) (by rfl) (rheap_same HGB.out) Tryd.underlying24 rfl (HI3.out _ _ _ _ _ _ _)) rfl (MakeOut.of (by unfold Rt.mk; rw [← HXv.out, ← HYv.out, if_neg HY1.out, ← HE1.out, ← HE2.out, if_neg (by omega), HXB.out]; rfl) rfl (HT1.out.setRow HGB.out (three_no_int _ _ _ _ _ _ _) _) (HT3.out.setRow HGB.out (three_no_int _ _ _ _ _ _ _) _) (by rw [← HG.out]; exact rBelow.setRow hbw (by omega) _))
              · cases n2
                · go_wp2_with (first
                    | (with_reducible refine wpList_store_row rfl 24 (.tmp 4) (.tmp 63) rfl (g + 1 + 1) #[.bool true, .slice C1 x.length k1, .slice C2 y.length k2] rfl rfl 24 #[.bool false, .slice none 0 0, .slice none 0 0] HGB.out (HI3.out _ _ _ _ _ _ _) rfl (three_one _ _ _ _ _ _ _) ?_))
                  refine bodyPost_ret (results_cell_row_tmp (by rfl) _ _ (g + 1 + 1) 24 #[.bool true, .slice C1 x.length k1, .slice C2 y.length k2] (0, 0) _ _ (by rfl) (by rfl) (rheap_same HGB.out) Tryd.underlying24 rfl (HI3.out _ _ _ _ _ _ _)) rfl (MakeOut.of (by unfold Rt.mk; rw [← HXv.out, ← HYv.out, if_neg HY1.out, ← HE1.out, ← HE2.out, if_neg (by omega), HXB.out]; rfl) rfl (HT1.out.setRow HGB.out (three_no_int _ _ _ _ _ _ _) _) (HT3.out.setRow HGB.out (three_no_int _ _ _ _ _ _ _) _) (by rw [← HG.out]; exact rBelow.setRow hbw (by omega) _))
                · go_wp2_with (first
                    | (with_reducible refine wpList_store_row rfl 24 (.tmp 4) (.tmp 63) rfl (g + 1 + 1) #[.bool false, .slice C1 x.length k1, .slice C2 y.length k2] rfl rfl 24 #[.bool false, .slice none 0 0, .slice none 0 0] HGB.out (HI3.out _ _ _ _ _ _ _) rfl (three_one _ _ _ _ _ _ _) ?_))
                  refine bodyPost_ret (results_cell_row_tmp (by rfl) _ _ (g + 1 + 1) 24 #[.bool false, .slice C1 x.length k1, .slice C2 y.length k2] (0, 0) _ _ (by rfl) (by rfl) (rheap_same HGB.out) Tryd.underlying24 rfl (HI3.out _ _ _ _ _ _ _)) rfl (MakeOut.of (by unfold Rt.mk; rw [← HXv.out, ← HYv.out, if_neg HY1.out, ← HE1.out, ← HE2.out, if_neg (by omega), HXB.out]; rfl) rfl (HT1.out.setRow HGB.out (three_no_int _ _ _ _ _ _ _) _) (HT3.out.setRow HGB.out (three_no_int _ _ _ _ _ _ _) _) (by rw [← HG.out]; exact rBelow.setRow hbw (by omega) _))
            · have g3 : decide ((0 : Int) < (x.length : Int)) = false := decide_eq_false (by omega)
              have HXB : Hid ((X == 0) = true) := Lib.hid (by have := HX0.out; simp; omega)
              go_wp2_with (first
                | (with_reducible refine wpList_store_row rfl 24 (.tmp 4) (.tmp 63) rfl (g + 1 + 1) #[.bool false, .slice C1 x.length k1, .slice C2 y.length k2] rfl rfl 24 #[.bool false, .slice none 0 0, .slice none 0 0] HGB.out (HI3.out _ _ _ _ _ _ _) rfl (three_one _ _ _ _ _ _ _) ?_))
              refine bodyPost_ret (results_cell_row_tmp (by rfl) _ _ (g + 1 + 1) 24 #[.bool false, .slice C1 x.length k1, .slice C2 y.length k2] (0, 0) _ _ (by rfl) (by rfl) (rheap_same HGB.out) Tryd.underlying24 rfl (HI3.out _ _ _ _ _ _ _)) rfl (MakeOut.of (by unfold Rt.mk; rw [← HXv.out, ← HYv.out, if_neg HY1.out, ← HE1.out, ← HE2.out, if_neg (by omega), HXB.out]; rfl) rfl (HT1.out.setRow HGB.out (three_no_int _ _ _ _ _ _ _) _) (HT3.out.setRow HGB.out (three_no_int _ _ _ _ _ _ _) _) (by rw [← HG.out]; exact rBelow.setRow hbw (by omega) _))
      · have q : (y == [1]) = false := beq_eq_false_iff_ne.2 hy1
        have I1 := isOne_any _ _ w1 HR2.out
        rw [q] at I1
        have HI1 := Lib.hid I1
        have hvx : Nt.val x = X := by rw [HX2.out, Nt.val_digs]
        have hvy : Nt.val y = Y := by rw [HY2.out, Nt.val_digs]
        have HVX := Lib.hid hvx
        have HVY := Lib.hid hvy
        obtain ⟨G, hG⟩ : ∃ G, G = Nat.gcd X Y := ⟨_, rfl⟩
        have GC := pGcd_res HR1.out HR2.out OX OY (by omega) (by omega)
        rw [hvx, hvy, ← hG] at GC
        have HGC := Lib.hid GC
        have HGG := Lib.hid hG
        have HG0 : Hid (G ≠ 0) := Lib.hid (by rw [hG]; have := Nat.gcd_pos_of_pos_right X (Nat.pos_of_ne_zero HY1.out); omega)
        have hGl : (Nt.digs G).length ≤ 1000000 := by
          have := Nt.digs_len_le_of (show G ≤ Y by rw [hG]; exact Nat.le_of_dvd (Nat.pos_of_ne_zero HY1.out) (Nat.gcd_dvd_right X Y))
          rw [← HY2.out] at this
          omega
        have hgl1 := blk_lt HGA.out
        clear hy1 q I1 hvx hvy GC hG
        go_wp2_with fail
        refine HI1.out.mono ?_
        rintro e w2 ⟨rfl, rfl⟩
        clear HI1
        go_wp2_with fail
        refine HGC.out.mono ?_
        rintro e w2 ⟨v3, rfl, hr3, hb3⟩
        have HR3 := Lib.hid hr3
        have HR1b := Lib.hid (HR1.out.below hb3)
        have HR2b := Lib.hid (HR2.out.below hb3)
        have HGA2 := Lib.hid ((hb3.block (g + 1 + 1) (by omega)).trans HGA.out)
        have hxw2 : Below g w w2 := hxw.trans (hb3.mono (by omega))
        have P0 := Lib.hid ((hb3.cell (p := ⟨g, 0, none⟩) (show g < _ by omega)).trans p0)
        have P0' := Lib.hid ((hb3.cell (p := ⟨g + 1, 0, none⟩) (show g + 1 < _ by omega)).trans p0')
        have I3 := isOne_any v3 (Nt.digs G) w2 hr3
        rw [one_digs] at I3
        have HI3' := Lib.hid I3
        have hs3 := hb3.size
        have hgl2 : g + 1 + 1 < w2.heap.size := by omega
        clear hr3 hb3 p0 p0' I3 HGC HGA hxw
        by_cases hg1 : G = 1
        · have q3 : (G == 1) = true := by rw [hg1]; rfl
          rw [q3] at HI3'
          have HE1 : Hid (x = Nt.digs (X / Nat.gcd X Y)) := Lib.hid (by rw [← HGG.out, hg1, Nat.div_one]; exact HX2.out)
          have HE2 : Hid (y = Nt.digs (Y / Nat.gcd X Y)) := Lib.hid (by rw [← HGG.out, hg1, Nat.div_one]; exact HY2.out)
          clear hg1 q3
          go_wp2_with fail
          refine HI3'.out.mono ?_
          rintro e w3 ⟨rfl, rfl⟩
          have HGB := HGA2
          have hbw := hxw2
          have HT1 := HR1b
          have HT3 := HR2b
          have p0 := P0.out
          have p0' := P0'.out
          clear HGA2 hxw2 HI3' P0 P0'
          have HX0 : Hid (x.length = 0 ↔ X = 0) := Lib.hid (by rw [HE1.out, List.length_eq_zero_iff, Nt.digs_nil_iff]; exact Rt.div_gcd_zero HY1.out)
          by_cases h32 : 32 < x.length
          · have g1 : decide ((32 : Int) < (x.length : Int)) = true := by simp; omega
            go_wp2_with (first
              | (with_reducible refine wpList_store_row rfl 24 (.tmp 4) (.tmp 50) rfl (g + 1 + 1) #[.bool false, .slice none 0 0, .slice none 0 0] rfl rfl 24 #[.bool false, .slice none 0 0, .slice none 0 0] HGB.out (HI3.out _ _ _ _ _ _ _) rfl (three_one _ _ _ _ _ _ _) ?_))
            refine bodyPost_ret (results_cell_row_tmp (by rfl) _ _ (g + 1 + 1) 24 #[.bool false, .slice none 0 0, .slice none 0 0] (0, 0) _ _ (by rfl) (by rfl) (rheap_same HGB.out) Tryd.underlying24 rfl (HI3.out _ _ _ _ _ _ _)) rfl (MakeOut.of (by unfold Rt.mk; rw [← HXv.out, ← HYv.out, if_neg HY1.out, ← HE1.out, ← HE2.out, if_pos (by omega)]; rfl) rfl (isRes_nil _) (isRes_nil _) (by rw [← HG.out]; exact rBelow.setRow hbw (by omega) _))
          · by_cases h33 : 32 < y.length
            · have g1 : decide ((32 : Int) < (x.length : Int)) = false := by simp; omega
              have g2 : decide ((32 : Int) < (y.length : Int)) = true := by simp; omega
              go_wp2_with (first
                | (with_reducible refine wpList_store_row rfl 24 (.tmp 4) (.tmp 50) rfl (g + 1 + 1) #[.bool false, .slice none 0 0, .slice none 0 0] rfl rfl 24 #[.bool false, .slice none 0 0, .slice none 0 0] HGB.out (HI3.out _ _ _ _ _ _ _) rfl (three_one _ _ _ _ _ _ _) ?_))
              refine bodyPost_ret (results_cell_row_tmp (by rfl) _ _ (g + 1 + 1) 24 #[.bool false, .slice none 0 0, .slice none 0 0] (0, 0) _ _ (by rfl) (by rfl) (rheap_same HGB.out) Tryd.underlying24 rfl (HI3.out _ _ _ _ _ _ _)) rfl (MakeOut.of (by unfold Rt.mk; rw [← HXv.out, ← HYv.out, if_neg HY1.out, ← HE1.out, ← HE2.out, if_pos (by omega)]; rfl) rfl (isRes_nil _) (isRes_nil _) (by rw [← HG.out]; exact rBelow.setRow hbw (by omega) _))
            · have g1 : decide ((32 : Int) < (x.length : Int)) = false := by simp; omega
              have g2 : decide ((32 : Int) < (y.length : Int)) = false := by simp; omega
              by_cases h34 : 0 < x.length
              · have g3 : decide ((0 : Int) < (x.length : Int)) = true := decide_eq_true (by omega)
                have HXB : Hid ((X == 0) = false) := Lib.hid (by have := HX0.out; simp; omega)
                cases n1
                · cases n2
                  · go_wp2_with (first
                      | (with_reducible refine wpList_store_row rfl 24 (.tmp 4) (.tmp 63) rfl (g + 1 + 1) #[.bool false, .slice C1 x.length k1, .slice C2 y.length k2] rfl rfl 24 #[.bool false, .slice none 0 0, .slice none 0 0] HGB.out (HI3.out _ _ _ _ _ _ _) rfl (three_one _ _ _ _ _ _ _) ?_))
                    refine bodyPost_ret (results_cell_row_tmp (by rfl) _ _ (g + 1 + 1) 24 #[.bool false, .slice C1 x.length k1, .slice C2 y.length k2] (0, 0) _ _ (by rfl) (by rfl) (rheap_same HGB.out) Tryd.underlying24 rfl (HI3.out _ _ _ _ _ _ _)) rfl (MakeOut.of (by unfold Rt.mk; rw [← HXv.out, ← HYv.out, if_neg HY1.out, ← HE1.out, ← HE2.out, if_neg (by omega), HXB.out]; rfl) rfl (HT1.out.setRow HGB.out (three_no_int _ _ _ _ _ _ _) _) (HT3.out.setRow HGB.out (three_no_int _ _ _ _ _ _ _) _) (by rw [← HG.out]; exact rBelow.setRow hbw (by omega) _))
                  · go_wp2_with (first
                      | (with_reducible refine wpList_store_row rfl 24 (.tmp 4) (.tmp 63) rfl (g + 1 + 1) #[.bool true, .slice C1 x.length k1, .slice C2 y.length k2] rfl rfl 24 #[.bool false, .slice none 0 0, .slice none 0 0] HGB.out (HI3.out _ _ _ _ _ _ _) rfl (three_one _ _ _ _ _ _ _) ?_))
                    refine bodyPost_ret (results_cell_row_tmp (by rfl) _ _ (g + 1 + 1) 24 #[.bool true, .slice C1 x.length k1, .slice C2 y.length k2] (0, 0) _ _ (by rfl) (by rfl) (rheap_same HGB.out) Tryd.underlying24 rfl (HI3.out _ _ _ _ _ _ _)) rfl (MakeOut.of (by unfold Rt.mk; rw [← HXv.out, ← HYv.out, if_neg HY1.out, ← HE1.out, ← HE2.out, if_neg (by omega), HXB.out]; rfl) rfl (HT1.out.setRow HGB.out (three_no_int _ _ _ _ _ _ _) _) (HT3.out.setRow HGB.out (three_no_int _ _ _ _ _ _ _) _) (by rw [← HG.out]; exact rBelow.setRow hbw (by omega) _))
                · cases n2
                  · go_wp2_with (first
                      | (with_reducible refine wpList_store_row rfl 24 (.tmp 4) (.tmp 63) rfl (g + 1 + 1) #[.bool true, .slice C1 x.length k1, .slice C2 y.length k2] rfl rfl 24 #[.bool false, .slice none 0 0, .slice none 0 0] HGB.out (HI3.out _ _ _ _ _ _ _) rfl (three_one _ _ _ _ _ _ _) ?_))
                    refine bodyPost_ret (results_cell_row_tmp (by rfl) _ _ (g + 1 + 1) 24 #[.bool true, .slice C1 x.length k1, .slice C2 y.length k2] (0, 0) _ _ (by rfl) (by rfl) (rheap_same HGB.out) Tryd.underlying24 rfl (HI3.out _ _ _ _ _ _ _)) rfl (MakeOut.of (by unfold Rt.mk; rw [← HXv.out, ← HYv.out, if_neg HY1.out, ← HE1.out, ← HE2.out, if_neg (by omega), HXB.out]; rfl) rfl (HT1.out.setRow HGB.out (three_no_int _ _ _ _ _ _ _) _) (HT3.out.setRow HGB.out (three_no_int _ _ _ _ _ _ _) _) (by rw [← HG.out]; exact rBelow.setRow hbw (by omega) _))
                  · go_wp2_with (first
                      | (with_reducible refine wpList_store_row rfl 24 (.tmp 4) (.tmp 63) rfl (g + 1 + 1) #[.bool false, .slice C1 x.length k1, .slice C2 y.length k2] rfl rfl 24 #[.bool false, .slice none 0 0, .slice none 0 0] HGB.out (HI3.out _ _ _ _ _ _ _) rfl (three_one _ _ _ _ _ _ _) ?_))
                    refine bodyPost_ret (results_cell_row_tmp (by rfl) _ _ (g + 1 + 1) 24 #[.bool false, .slice C1 x.length k1, .slice C2 y.length k2] (0, 0) _ _ (by rfl) (by rfl) (rheap_same HGB.out) Tryd.underlying24 rfl (HI3.out _ _ _ _ _ _ _)) rfl (MakeOut.of (by unfold Rt.mk; rw [← HXv.out, ← HYv.out, if_neg HY1.out, ← HE1.out, ← HE2.out, if_neg (by omega), HXB.out]; rfl) rfl (HT1.out.setRow HGB.out (three_no_int _ _ _ _ _ _ _) _) (HT3.out.setRow HGB.out (three_no_int _ _ _ _ _ _ _) _) (by rw [← HG.out]; exact rBelow.setRow hbw (by omega) _))
              · have g3 : decide ((0 : Int) < (x.length : Int)) = false := decide_eq_false (by omega)
                have HXB : Hid ((X == 0) = true) := Lib.hid (by have := HX0.out; simp; omega)
                go_wp2_with (first
                  | (with_reducible refine wpList_store_row rfl 24 (.tmp 4) (.tmp 63) rfl (g + 1 + 1) #[.bool false, .slice C1 x.length k1, .slice C2 y.length k2] rfl rfl 24 #[.bool false, .slice none 0 0, .slice none 0 0] HGB.out (HI3.out _ _ _ _ _ _ _) rfl (three_one _ _ _ _ _ _ _) ?_))
                refine bodyPost_ret (results_cell_row_tmp (by rfl) _ _ (g + 1 + 1) 24 #[.bool false, .slice C1 x.length k1, .slice C2 y.length k2] (0, 0) _ _ (by rfl) (by rfl) (rheap_same HGB.out) Tryd.underlying24 rfl (HI3.out _ _ _ _ _ _ _)) rfl (MakeOut.of (by unfold Rt.mk; rw [← HXv.out, ← HYv.out, if_neg HY1.out, ← HE1.out, ← HE2.out, if_neg (by omega), HXB.out]; rfl) rfl (HT1.out.setRow HGB.out (three_no_int _ _ _ _ _ _ _) _) (HT3.out.setRow HGB.out (three_no_int _ _ _ _ _ _ _) _) (by rw [← HG.out]; exact rBelow.setRow hbw (by omega) _))
        · have q3 : (G == 1) = false := beq_eq_false_iff_ne.2 hg1
          rw [q3] at HI3'
          have DM := pDivMod_res HR1b.out HR3.out OX (Nt.ok_digs G) (by omega) hGl
          rw [HVX.out, Nt.val_digs] at DM
          have HDM := Lib.hid DM
          clear hg1 q3 DM
          go_wp2_with fail
          refine HI3'.out.mono ?_
          rintro e w3 ⟨rfl, rfl⟩
          clear HI3'
          go_wp2_with fail
          refine HDM.out.mono ?_
          rintro e w4 ⟨u1, u2, rfl, t1, t2, hb4⟩
          have HT1a := Lib.hid t1
          have DN := pDivMod_res (HR2b.out.below hb4) (HR3.out.below hb4) OY (Nt.ok_digs G) (by omega) hGl
          rw [HVY.out, Nt.val_digs] at DN
          have HDN := Lib.hid DN
          have HGA3 := Lib.hid ((hb4.block (g + 1 + 1) (by omega)).trans HGA2.out)
          have hxw3 : Below g w w4 := hxw2.trans (hb4.mono (by omega))
          have P1 := Lib.hid ((hb4.cell (p := ⟨g, 0, none⟩) (show g < _ by omega)).trans P0.out)
          have P1' := Lib.hid ((hb4.cell (p := ⟨g + 1, 0, none⟩) (show g + 1 < _ by omega)).trans P0'.out)
          have hs4 := hb4.size
          clear t1 t2 hb4 DN HDM HGA2 hxw2 P0 P0' HR1b HR2b
          go_wp2_with fail
          refine HDN.out.mono ?_
          rintro e w5 ⟨u3, u4, rfl, t3, t4, hb5⟩
          have HGB := Lib.hid ((hb5.block (g + 1 + 1) (by omega)).trans HGA3.out)
          have hbw : Below g w w5 := hxw3.trans (hb5.mono (by omega))
          have P2 := Lib.hid ((hb5.cell (p := ⟨g, 0, none⟩) (show g < _ by omega)).trans P1.out)
          have P2' := Lib.hid ((hb5.cell (p := ⟨g + 1, 0, none⟩) (show g + 1 < _ by omega)).trans P1'.out)
          have hT1 := HT1a.out.below hb5
          obtain ⟨e1, he1⟩ : ∃ e1, e1 = Nt.digs (Nt.quo X G) := ⟨_, rfl⟩
          obtain ⟨e2, he2⟩ : ∃ e2, e2 = Nt.digs (Nt.quo Y G) := ⟨_, rfl⟩
          rw [← he1] at hT1
          rw [← he2] at t3
          rw [HGG.out] at he1 he2
          have HE1 : Hid (e1 = Nt.digs (X / Nat.gcd X Y)) := Lib.hid he1
          have HE2 : Hid (e2 = Nt.digs (Y / Nat.gcd X Y)) := Lib.hid he2
          have HT1 := Lib.hid hT1
          have HT3 := Lib.hid t3
          clear he1 he2 hT1 t3 t4 hb5 HDN HGA3 hxw3 P1 P1' HT1a
          have HX0 : Hid (e1.length = 0 ↔ X = 0) := Lib.hid (by rw [HE1.out, List.length_eq_zero_iff, Nt.digs_nil_iff]; exact Rt.div_gcd_zero HY1.out)
          obtain ⟨B1, a1, rfl, -⟩ := HT1.out
          obtain ⟨B2, a2, rfl, -⟩ := HT3.out
          have p0 := P2.out
          have p0' := P2'.out
          clear P2 P2'
          by_cases h32 : 32 < e1.length
          · have g1 : decide ((32 : Int) < (e1.length : Int)) = true := by simp; omega
            go_wp2_with (first
              | (with_reducible refine wpList_store_row rfl 24 (.tmp 4) (.tmp 50) rfl (g + 1 + 1) #[.bool false, .slice none 0 0, .slice none 0 0] rfl rfl 24 #[.bool false, .slice none 0 0, .slice none 0 0] HGB.out (HI3.out _ _ _ _ _ _ _) rfl (three_one _ _ _ _ _ _ _) ?_))
            refine bodyPost_ret (results_cell_row_tmp (by rfl) _ _ (g + 1 + 1) 24 #[.bool false, .slice none 0 0, .slice none 0 0] (0, 0) _ _ (by rfl) (by rfl) (rheap_same HGB.out) Tryd.underlying24 rfl (HI3.out _ _ _ _ _ _ _)) rfl (MakeOut.of (by unfold Rt.mk; rw [← HXv.out, ← HYv.out, if_neg HY1.out, ← HE1.out, ← HE2.out, if_pos (by omega)]; rfl) rfl (isRes_nil _) (isRes_nil _) (by rw [← HG.out]; exact rBelow.setRow hbw (by omega) _))
          · by_cases h33 : 32 < e2.length
            · have g1 : decide ((32 : Int) < (e1.length : Int)) = false := by simp; omega
              have g2 : decide ((32 : Int) < (e2.length : Int)) = true := by simp; omega
              go_wp2_with (first
                | (with_reducible refine wpList_store_row rfl 24 (.tmp 4) (.tmp 50) rfl (g + 1 + 1) #[.bool false, .slice none 0 0, .slice none 0 0] rfl rfl 24 #[.bool false, .slice none 0 0, .slice none 0 0] HGB.out (HI3.out _ _ _ _ _ _ _) rfl (three_one _ _ _ _ _ _ _) ?_))
              refine bodyPost_ret (results_cell_row_tmp (by rfl) _ _ (g + 1 + 1) 24 #[.bool false, .slice none 0 0, .slice none 0 0] (0, 0) _ _ (by rfl) (by rfl) (rheap_same HGB.out) Tryd.underlying24 rfl (HI3.out _ _ _ _ _ _ _)) rfl (MakeOut.of (by unfold Rt.mk; rw [← HXv.out, ← HYv.out, if_neg HY1.out, ← HE1.out, ← HE2.out, if_pos (by omega)]; rfl) rfl (isRes_nil _) (isRes_nil _) (by rw [← HG.out]; exact rBelow.setRow hbw (by omega) _))
            · have g1 : decide ((32 : Int) < (e1.length : Int)) = false := by simp; omega
              have g2 : decide ((32 : Int) < (e2.length : Int)) = false := by simp; omega
              by_cases h34 : 0 < e1.length
              · have g3 : decide ((0 : Int) < (e1.length : Int)) = true := decide_eq_true (by omega)
                have HXB : Hid ((X == 0) = false) := Lib.hid (by have := HX0.out; simp; omega)
                cases n1
                · cases n2
                  · go_wp2_with (first
                      | (with_reducible refine wpList_store_row rfl 24 (.tmp 4) (.tmp 63) rfl (g + 1 + 1) #[.bool false, .slice B1 e1.length a1, .slice B2 e2.length a2] rfl rfl 24 #[.bool false, .slice none 0 0, .slice none 0 0] HGB.out (HI3.out _ _ _ _ _ _ _) rfl (three_one _ _ _ _ _ _ _) ?_))
                    refine bodyPost_ret (results_cell_row_tmp (by rfl) _ _ (g + 1 + 1) 24 #[.bool false, .slice B1 e1.length a1, .slice B2 e2.length a2] (0, 0) _ _ (by rfl) (by rfl) (rheap_same HGB.out) Tryd.underlying24 rfl (HI3.out _ _ _ _ _ _ _)) rfl (MakeOut.of (by unfold Rt.mk; rw [← HXv.out, ← HYv.out, if_neg HY1.out, ← HE1.out, ← HE2.out, if_neg (by omega), HXB.out]; rfl) rfl (HT1.out.setRow HGB.out (three_no_int _ _ _ _ _ _ _) _) (HT3.out.setRow HGB.out (three_no_int _ _ _ _ _ _ _) _) (by rw [← HG.out]; exact rBelow.setRow hbw (by omega) _))
                  · go_wp2_with (first
                      | (with_reducible refine wpList_store_row rfl 24 (.tmp 4) (.tmp 63) rfl (g + 1 + 1) #[.bool true, .slice B1 e1.length a1, .slice B2 e2.length a2] rfl rfl 24 #[.bool false, .slice none 0 0, .slice none 0 0] HGB.out (HI3.out _ _ _ _ _ _ _) rfl (three_one _ _ _ _ _ _ _) ?_))
                    refine bodyPost_ret (results_cell_row_tmp (by rfl) _ _ (g + 1 + 1) 24 #[.bool true, .slice B1 e1.length a1, .slice B2 e2.length a2] (0, 0) _ _ (by rfl) (by rfl) (rheap_same HGB.out) Tryd.underlying24 rfl (HI3.out _ _ _ _ _ _ _)) rfl (MakeOut.of (by unfold Rt.mk; rw [← HXv.out, ← HYv.out, if_neg HY1.out, ← HE1.out, ← HE2.out, if_neg (by omega), HXB.out]; rfl) rfl (HT1.out.setRow HGB.out (three_no_int _ _ _ _ _ _ _) _) (HT3.out.setRow HGB.out (three_no_int _ _ _ _ _ _ _) _) (by rw [← HG.out]; exact rBelow.setRow hbw (by omega) _))
                · cases n2
                  · go_wp2_with (first
                      | (with_reducible refine wpList_store_row rfl 24 (.tmp 4) (.tmp 63) rfl (g + 1 + 1) #[.bool true, .slice B1 e1.length a1, .slice B2 e2.length a2] rfl rfl 24 #[.bool false, .slice none 0 0, .slice none 0 0] HGB.out (HI3.out _ _ _ _ _ _ _) rfl (three_one _ _ _ _ _ _ _) ?_))
                    refine bodyPost_ret (results_cell_row_tmp (by rfl) _ _ (g + 1 + 1) 24 #[.bool true, .slice B1 e1.length a1, .slice B2 e2.length a2] (0, 0) _ _ (by rfl) (by rfl) (rheap_same HGB.out) Tryd.underlying24 rfl (HI3.out _ _ _ _ _ _ _)) rfl (MakeOut.of (by unfold Rt.mk; rw [← HXv.out, ← HYv.out, if_neg HY1.out, ← HE1.out, ← HE2.out, if_neg (by omega), HXB.out]; rfl) rfl (HT1.out.setRow HGB.out (three_no_int _ _ _ _ _ _ _) _) (HT3.out.setRow HGB.out (three_no_int _ _ _ _ _ _ _) _) (by rw [← HG.out]; exact rBelow.setRow hbw (by omega) _))
                  · go_wp2_with (first
                      | (with_reducible refine wpList_store_row rfl 24 (.tmp 4) (.tmp 63) rfl (g + 1 + 1) #[.bool false, .slice B1 e1.length a1, .slice B2 e2.length a2] rfl rfl 24 #[.bool false, .slice none 0 0, .slice none 0 0] HGB.out (HI3.out _ _ _ _ _ _ _) rfl (three_one _ _ _ _ _ _ _) ?_))
                    refine bodyPost_ret (results_cell_row_tmp (by rfl) _ _ (g + 1 + 1) 24 #[.bool false, .slice B1 e1.length a1, .slice B2 e2.length a2] (0, 0) _ _ (by rfl) (by rfl) (rheap_same HGB.out) Tryd.underlying24 rfl (HI3.out _ _ _ _ _ _ _)) rfl (MakeOut.of (by unfold Rt.mk; rw [← HXv.out, ← HYv.out, if_neg HY1.out, ← HE1.out, ← HE2.out, if_neg (by omega), HXB.out]; rfl) rfl (HT1.out.setRow HGB.out (three_no_int _ _ _ _ _ _ _) _) (HT3.out.setRow HGB.out (three_no_int _ _ _ _ _ _ _) _) (by rw [← HG.out]; exact rBelow.setRow hbw (by omega) _))
              · have g3 : decide ((0 : Int) < (e1.length : Int)) = false := decide_eq_false (by omega)
                have HXB : Hid ((X == 0) = true) := Lib.hid (by have := HX0.out; simp; omega)
                go_wp2_with (first
                  | (with_reducible refine wpList_store_row rfl 24 (.tmp 4) (.tmp 63) rfl (g + 1 + 1) #[.bool false, .slice B1 e1.length a1, .slice B2 e2.length a2] rfl rfl 24 #[.bool false, .slice none 0 0, .slice none 0 0] HGB.out (HI3.out _ _ _ _ _ _ _) rfl (three_one _ _ _ _ _ _ _) ?_))
                refine bodyPost_ret (results_cell_row_tmp (by rfl) _ _ (g + 1 + 1) 24 #[.bool false, .slice B1 e1.length a1, .slice B2 e2.length a2] (0, 0) _ _ (by rfl) (by rfl) (rheap_same HGB.out) Tryd.underlying24 rfl (HI3.out _ _ _ _ _ _ _)) rfl (MakeOut.of (by unfold Rt.mk; rw [← HXv.out, ← HYv.out, if_neg HY1.out, ← HE1.out, ← HE2.out, if_neg (by omega), HXB.out]; rfl) rfl (HT1.out.setRow HGB.out (three_no_int _ _ _ _ _ _ _) _) (HT3.out.setRow HGB.out (three_no_int _ _ _ _ _ _ _) _) (by rw [← HG.out]; exact rBelow.setRow hbw (by omega) _))
end Go.Proofs.YtfiefglagknclaaDoor

/-
  ratio.top, ratio.Int; scrimref04.IsWhole; digits.Print, scrimref05.Print.
-/
namespace Go.Proofs.YtfiefglagknclaaDoor
open Go.RowKit
set_option maxHeartbeats 2000000
set_option maxRecDepth 100000
set_option linter.unusedVariables false

theorem ratioTop_any (n : Bool) (v1 v2 : Value) (l1 l2 : List Nat) (w : World) (h1 : IsRes w v1 l1) (h2 : IsRes w v2 l2) :
    Calls Tryd.prog 61 #[.agg #[.bool n, v1, v2]] w (WholeOut w n l1) := by
  have HR := Lib.hid h1
  obtain ⟨A1, c1, rfl, -⟩ := h1
  obtain ⟨A2, c2, rfl, -⟩ := h2
  have HI2 : Hid (∀ (b : Bool) (A : Option Addr) (k c : Nat), (Tryd.prog.info? 58).map (·.size) = some (#[.bool b, .slice A k c] : Array Value).size) := Lib.hid (fun _ _ _ _ => whole2_info)
  have HG1 : Hid (∀ o1 o2, ((w.alloc o1).alloc o2).heap[w.heap.size + 1]? = some o2) := Lib.hid (fun o1 o2 => by
    have := heap_alloc_new (w.alloc o1) o2
    rwa [show (w.alloc o1).heap.size = w.heap.size + 1 by simp] at this)
  have HB : Hid (∀ o1 o2, Below w.heap.size w ((w.alloc o1).alloc o2)) := Lib.hid (fun o1 o2 => ((Below.refl _ _).alloc (Nat.le_refl _) _).alloc (by simp) _)
  generalize l2.length = k2 at *
  go_enter Tryd.func61, Tryd.ntmps61
  go_wp2_with (with_reducible refine wpList_store_row rfl 58 (.tmp 2) (.tmp 7) rfl (w.heap.size + 1) #[.bool n, .slice A1 l1.length c1] rfl rfl 58 #[.bool false, .slice none 0 0] (HG1.out _ _) (HI2.out _ _ _ _) rfl (two_one _ _ _ _) ?_)
  refine bodyPost_ret (results_cell_row (by rfl) _ _ (w.heap.size + 1) 58 #[.bool n, .slice A1 l1.length c1] (0, 0) _ (by rfl) (rheap_same (HG1.out _ _)) Tryd.underlying58 rfl (HI2.out _ _ _ _)) rfl ⟨.slice A1 l1.length c1, rfl, (HR.out.below (HB.out _ _)).setRow (HG1.out _ _) (two_no_int _ _ _ _) _, rBelow.setRow (HB.out _ _) (by omega) _⟩

/-- A number as a whole one, or none. -/
def IntOut (w : World) (n : Rt.Nm) (e : Ending) (w' : World) : Prop := ∃ u, e = .returned (.tuple #[.agg #[.bool (if n.bot = [1] then Rt.nrm n.neg (Nt.val n.top) else false), u], .bool (n.bot == [1])]) ∧ IsRes w' u (if n.bot = [1] then Nt.digs (Nt.val n.top) else []) ∧ Below w.heap.size w w'
theorem ratioInt_any (n : Bool) (v1 v2 : Value) (l1 l2 : List Nat) (w : World) (h1 : IsRes w v1 l1) (h2 : IsRes w v2 l2) (o1 : Nt.Ok l1) (s1 : l1.length ≤ 1000000) :
    Calls Tryd.prog 28 #[.agg #[.bool n, v1, v2]] w (IntOut w ⟨n, l1, l2⟩) := by
  have hb0 : ∀ o1 o2, Below w.heap.size w ((w.alloc o1).alloc o2) := fun o1 o2 => ((Below.refl _ _).alloc (Nat.le_refl _) _).alloc (by simp) _
  have I1 := Lib.hid (fun o1 o2 => isOne_any v2 l2 _ (h2.below (hb0 o1 o2)))
  have T1 := Lib.hid (fun o1 o2 => ratioTop_any n v1 v2 l1 l2 _ (h1.below (hb0 o1 o2)) (h2.below (hb0 o1 o2)))
  have NW := Lib.hid (fun (wx : World) (u : Value) (hu : IsRes wx u l1) => wholeNorm_any n u l1 wx hu o1 s1)
  have HI2 : Hid (∀ (b : Bool) (A : Option Addr) (k c : Nat), (Tryd.prog.info? 58).map (·.size) = some (#[.bool b, .slice A k c] : Array Value).size) := Lib.hid (fun _ _ _ _ => whole2_info)
  have HG1 : Hid (∀ o1 o2, ((w.alloc o1).alloc o2).heap[w.heap.size + 1]? = some o2) := Lib.hid (fun o1 o2 => by
    have := heap_alloc_new (w.alloc o1) o2
    rwa [show (w.alloc o1).heap.size = w.heap.size + 1 by simp] at this)
  have HB := Lib.hid hb0
  obtain ⟨A1, c1, rfl, -⟩ := h1
  obtain ⟨A2, c2, rfl, -⟩ := h2
  clear hb0 o1
  by_cases hone : l2 = [1]
  · have HE : Hid ((l2 == [1]) = true) := Lib.hid (by rw [hone]; rfl)
    have HO := Lib.hid hone
    have HP : Hid (∀ u w', IsRes w' u (Nt.digs (Nt.val l1)) → Below w.heap.size w w' → IntOut w ⟨n, l1, l2⟩ (.returned (.tuple #[.agg #[.bool (Rt.nrm n (Nt.val l1)), u], .bool true])) w') := Lib.hid (fun u w' hu hb => ⟨u, by simp only [HO.out, if_true]; rfl, by simp only [HO.out, if_true]; exact hu, hb⟩)
    have I1' := Lib.hid (fun o1 o2 => by have := I1.out o1 o2; rw [HE.out] at this; exact this)
    clear hone I1
    generalize l2.length = k2 at *
    go_enter Tryd.func28, Tryd.ntmps28
    go_wp2_with fail
    refine (I1'.out _ _).mono ?_
    rintro e w' ⟨rfl, rfl⟩
    go_wp2_with fail
    refine (T1.out _ _).mono ?_
    rintro e w2 ⟨v3, rfl, hr2, hb2⟩
    have NW2 := Lib.hid (NW.out w2 v3 hr2)
    have HG2 := Lib.hid ((hb2.block (w.heap.size + 1) (by simp)).trans (HG1.out _ _))
    have hbw2 := (HB.out _ _).trans (hb2.mono (HB.out _ _).size)
    clear hr2 hb2 T1 I1' NW
    go_wp2_with fail
    refine NW2.out.mono ?_
    rintro e w3 ⟨v4, rfl, hr3, hb3⟩
    have hl3 := blk_lt HG2.out
    have HG3 := Lib.hid ((hb3.block (w.heap.size + 1) hl3).trans HG2.out)
    have hbw3 := hbw2.trans (hb3.mono hbw2.size)
    have HR3 := Lib.hid (hr3.setRow HG3.out (two_no_int _ _ _ _) #[.bool (Rt.nrm n (Nt.val l1)), v4])
    obtain ⟨A3, c3, rfl, -⟩ := hr3
    clear hb3 NW2 hbw2
    go_wp2_with (with_reducible refine wpList_store_row rfl 58 (.tmp 2) (.tmp 11) rfl (w.heap.size + 1) #[.bool (Rt.nrm n (Nt.val l1)), .slice A3 (Nt.digs (Nt.val l1)).length c3] rfl rfl 58 #[.bool false, .slice none 0 0] HG3.out (HI2.out _ _ _ _) rfl (two_one _ _ _ _) ?_)
    refine bodyPost_ret (results_cell_row_tmp (by rfl) _ _ (w.heap.size + 1) 58 #[.bool (Rt.nrm n (Nt.val l1)), .slice A3 (Nt.digs (Nt.val l1)).length c3] (0, 0) _ _ (by rfl) (by rfl) (rheap_same HG3.out) Tryd.underlying58 rfl (HI2.out _ _ _ _)) rfl (HP.out _ _ HR3.out (rBelow.setRow hbw3 (by omega) _))
  · have HE : Hid ((l2 == [1]) = false) := Lib.hid (beq_eq_false_iff_ne.2 hone)
    have HO := Lib.hid hone
    have HP : Hid (∀ w', Below w.heap.size w w' → IntOut w ⟨n, l1, l2⟩ (.returned (.tuple #[.agg #[.bool false, .slice none 0 0], .bool false])) w') := Lib.hid (fun w' hb => ⟨.slice none 0 0, by simp only [HO.out, if_false, HE.out], by simp only [HO.out, if_false]; exact IsRes.none_ _, hb⟩)
    have I1' := Lib.hid (fun o1 o2 => by have := I1.out o1 o2; rw [HE.out] at this; exact this)
    clear hone I1
    generalize l2.length = k2 at *
    go_enter Tryd.func28, Tryd.ntmps28
    go_wp2_with fail
    refine (I1'.out _ _).mono ?_
    rintro e w' ⟨rfl, rfl⟩
    clear T1 NW
    go_wp2_with (with_reducible refine wpList_store_row rfl 58 (.tmp 2) (.tmp 8) rfl (w.heap.size + 1) #[.bool false, .slice none 0 0] rfl rfl 58 #[.bool false, .slice none 0 0] (HG1.out _ _) (HI2.out _ _ _ _) rfl (two_one _ _ _ _) ?_)
    refine bodyPost_ret (results_cell_row_tmp (by rfl) _ _ (w.heap.size + 1) 58 #[.bool false, .slice none 0 0] (0, 0) _ _ (by rfl) (by rfl) (rheap_same (HG1.out _ _)) Tryd.underlying58 rfl (HI2.out _ _ _ _)) rfl (HP.out _ (rBelow.setRow (HB.out _ _) (by omega) _))
end Go.Proofs.YtfiefglagknclaaDoor

/-
  digits.Print, scrimref05.Print: a number's text; scrimref04.IsWhole.
-/
namespace Go.Proofs.YtfiefglagknclaaDoor
open Go.RowKit
set_option maxHeartbeats 2000000
set_option maxRecDepth 100000
set_option linter.unusedVariables false

theorem isWhole_any (n : Bool) (v1 v2 : Value) (l1 l2 : List Nat) (w : World) (h1 : IsRes w v1 l1) (h2 : IsRes w v2 l2) :
    Calls Tryd.prog 35 #[.agg #[.bool n, v1, v2]] w fun e w' => e = .returned (.bool (l2 == [1])) ∧ Below w.heap.size w w' := by
  have HB : Hid (∀ o1, Below w.heap.size w (w.alloc o1)) := Lib.hid (fun o1 => (Below.refl _ _).alloc (Nat.le_refl _) _)
  obtain ⟨A1, c1, rfl, -⟩ := h1
  obtain ⟨A2, c2, rfl, k1, k2, k3, k4⟩ := h2
  by_cases hl : l2.length = 1
  · obtain ⟨x, rfl⟩ : ∃ x, l2 = [x] := by
      match l2, hl with
      | [x], _ => exact ⟨x, rfl⟩
    obtain ⟨b, off, rfl, hb, g0⟩ := k4.at_ (k := 0) (by simp [U])
    have g1 : w.cell? ⟨b, off, none⟩ = some (.int .u32 (x : Int)) := by simpa [U] using g0
    have HQ : Hid (([x] == [1]) = (x == 1)) := Lib.hid (by simp [List.cons_beq_cons])
    clear g0 k4 k3 hl
    by_cases hx : x = 1
    · subst hx
      go_enter Tryd.func35, Tryd.ntmps35
      go_wp2_with fail
      go_ret
      exact ⟨ret_bool (by rw [HQ.out]; rfl), HB.out _⟩
    · have q : ((x : Int) == 1) = false := beq_eq_false_iff_ne.2 (by omega)
      have HQ2 : Hid ((x == 1) = false) := Lib.hid (beq_eq_false_iff_ne.2 hx)
      clear hx
      go_enter Tryd.func35, Tryd.ntmps35
      go_wp2_with fail
      go_ret
      exact ⟨ret_bool (by rw [HQ.out, HQ2.out]), HB.out _⟩
  · have q : ((l2.length : Int) == 1) = false := beq_eq_false_iff_ne.2 (by omega)
    have HQ : Hid ((l2 == [1]) = false) := Lib.hid (by
      rw [beq_eq_false_iff_ne]; rintro rfl; exact hl rfl)
    clear hl k4 k3
    generalize l2.length = m at *
    go_enter Tryd.func35, Tryd.ntmps35
    go_wp2_with fail
    go_ret
    exact ⟨ret_bool (by rw [HQ.out]), HB.out _⟩

/-- The table of strconv's, in whatever world behind. -/
structure Pow10 (w : World) : Prop where
  tab : Lib.TabIs Tryd.prog w "internal/strconv.uint64pow10" .u64 Lib.pow10Tab
  lt : ∀ g, Tryd.prog.globalNamed "internal/strconv.uint64pow10" = some g → g < w.heap.size
theorem Pow10.below {w w' : World} (h : Pow10 w) (hb : Below w.heap.size w w') : Pow10 w' := ⟨tabIs_below h.tab hb h.lt, fun g e => Nat.lt_of_lt_of_le (h.lt g e) hb.size⟩
/-- A text is handed back. -/
def StrOut (w : World) (s : List UInt8) (e : Ending) (w' : World) : Prop := e = .returned (.string ⟨s.toArray⟩) ∧ Below w.heap.size w w'
theorem textR_any {w : World} {v : Value} {l : List Nat} (h : IsRes w v l) (ho : Nt.Ok l) (hs : l.length ≤ 1000) (hp : Pow10 w) :
    Calls Tryd.prog 27 #[v] w (StrOut w (Lib.decDigits (Nt.val l))) := by
  obtain ⟨A, c, rfl, k1, k2, k3, k4⟩ := h
  exact text_any A c w.heap.size l w k4 (Nat.le_refl _) ho k1 k2 hs hp.tab hp.lt
theorem refTextR_any {w : World} {v : Value} {l : List Nat} (h : IsRes w v l) (ho : Nt.Ok l) (hs : l.length ≤ 1000) :
    Calls Tryd.prog 34 #[v] w (StrOut w (Lib.decDigits (Nt.val l))) := by
  obtain ⟨A, c, rfl, k1, k2, k3, k4⟩ := h
  exact refText_any A c w.heap.size l w k4 (Nat.le_refl _) ho k1 k2 k3 hs
theorem ret_str {a b : ByteArray} (h : a.data.toList = b.data.toList) : Ending.returned (.string a) = .returned (.string b) := by
  have : a = b := ByteArray.ext (Array.toList_inj.1 h)
  rw [this]

/-- A number that may be, in memory. -/
structure NumR (w : World) (n : Rt.Nm) (v1 v2 : Value) : Prop where
  r1 : IsRes w v1 n.top
  r2 : IsRes w v2 n.bot
  o1 : Nt.Ok n.top
  o2 : Nt.Ok n.bot
  s1 : n.top.length ≤ 1000
  s2 : n.bot.length ≤ 1000
theorem NumR.below {w w' : World} {n : Rt.Nm} {v1 v2 : Value} (h : NumR w n v1 v2) (hb : Below w.heap.size w w') : NumR w' n v1 v2 := ⟨h.r1.below hb, h.r2.below hb, h.o1, h.o2, h.s1, h.s2⟩

theorem refPrint_any (n : Rt.Nm) (v1 v2 : Value) (w : World) (h : NumR w n v1 v2) :
    Calls Tryd.prog 12 #[.agg #[.bool n.neg, v1, v2]] w (StrOut w (Dg.print n)) := by
  have TX := Lib.hid (fun (wx : World) (hb : Below w.heap.size w wx) => refTextR_any (h.below hb).r1 h.o1 h.s1)
  have TY := Lib.hid (fun (wx : World) (hb : Below w.heap.size w wx) => refTextR_any (h.below hb).r2 h.o2 h.s2)
  have IW := Lib.hid (fun (wx : World) (hb : Below w.heap.size w wx) => isWhole_any n.neg v1 v2 n.top n.bot wx (h.below hb).r1 (h.below hb).r2)
  have HB : Hid (∀ o1, Below w.heap.size w (w.alloc o1)) := Lib.hid (fun o1 => (Below.refl _ _).alloc (Nat.le_refl _) _)
  have HP : Hid (Dg.print n = (if n.neg then [194, 175] else []) ++ (Lib.decDigits (Nt.val n.top) ++ if n.bot = [1] then [] else 114 :: Lib.decDigits (Nt.val n.bot))) := Lib.hid rfl
  have HI3 : Hid ((Tryd.prog.info? 24).map (·.size) = some (#[.bool n.neg, v1, v2] : Array Value).size) := Lib.hid num_info
  have hTl := dec_bound h.o1 h.s1
  have hBl := dec_bound h.o2 h.s2
  clear h
  obtain ⟨neg, top, bot⟩ := n
  dsimp only at TX TY IW HP HI3 hTl hBl ⊢
  generalize Dg.print ⟨neg, top, bot⟩ = R at *
  generalize Lib.decDigits (Nt.val top) = T at *
  generalize Lib.decDigits (Nt.val bot) = B at *
  go_enter Tryd.func12, Tryd.ntmps12
  go_wp2_with fail
  refine (TX.out _ (HB.out _)).mono ?_
  rintro e w2 ⟨rfl, hb2⟩
  have hbw2 := (HB.out (.cells #[.bool neg, v1, v2] 24)).trans (hb2.mono (HB.out _).size)
  have HG := Lib.hid ((hb2.block w.heap.size (by simp)).trans (heap_alloc_new w (.cells #[.bool neg, v1, v2] 24)))
  have hs2 := hb2.size
  have hlt : w.heap.size < w2.heap.size := by simp at hs2; omega
  clear hb2 hs2
  go_wp2_with (with_reducible refine wpList_load_row rfl 24 (.tmp 1) rfl w.heap.size rfl 24 #[.bool neg, v1, v2] (0, 0) _ HG.out Tryd.underlying24 rfl HI3.out ?_)
  refine (IW.out w2 hbw2).mono ?_
  rintro e w3 ⟨rfl, hb3⟩
  have hbw3 := hbw2.trans (hb3.mono hbw2.size)
  have HG3 := Lib.hid ((hb3.block w.heap.size hlt).trans HG.out)
  have hlt3 : w.heap.size < w3.heap.size := Nat.lt_of_lt_of_le hlt hb3.size
  clear hb3 hbw2 hlt
  have p0 : w3.cell? ⟨w.heap.size, 0, none⟩ = some (.bool neg) := (cell_of_row w3 w.heap.size 0 _ _ _ HG3.out).trans rfl
  have p2 : w3.cell? ⟨w.heap.size, 2, none⟩ = some v2 := (cell_of_row w3 w.heap.size 2 _ _ _ HG3.out).trans rfl
  by_cases hone : bot = [1]
  · have HO := Lib.hid hone
    have e1 : (bot == [1]) = true := by rw [hone]; rfl
    clear hone TX TY IW
    cases neg
    · go_wp2_with fail
      go_ret
      exact ⟨ret_str (by rw [HP.out, if_pos HO.out]; simp), hbw3⟩
    · go_wp2_with fail
      go_ret
      exact ⟨ret_str (by rw [HP.out, if_pos HO.out]; simp), hbw3⟩
  · have HO := Lib.hid hone
    have e1 : (bot == [1]) = false := beq_eq_false_iff_ne.2 hone
    clear hone TX IW
    have HTY := Lib.hid (TY.out w3 hbw3)
    clear TY
    go_wp2_with fail
    refine HTY.out.mono ?_
    rintro e w4 ⟨rfl, hb4⟩
    have hbw4 := hbw3.trans (hb4.mono hbw3.size)
    have p04 : w4.cell? ⟨w.heap.size, 0, none⟩ = some (.bool neg) := (hb4.cell (p := ⟨w.heap.size, 0, none⟩) hlt3).trans p0
    clear hb4 p0 p2 HTY hbw3
    cases neg
    · go_wp2_with fail
      go_ret
      exact ⟨ret_str (by rw [HP.out, if_neg HO.out]; simp), hbw4⟩
    · go_wp2_with fail
      go_ret
      exact ⟨ret_str (by rw [HP.out, if_neg HO.out]; simp), hbw4⟩

theorem digPrint_any (n : Rt.Nm) (v1 v2 : Value) (w : World) (h : NumR w n v1 v2) (hp : Pow10 w) :
    Calls Tryd.prog 10 #[.agg #[.bool n.neg, v1, v2]] w (StrOut w (Dg.print n)) := by
  have TX := Lib.hid (fun (wx : World) (hb : Below w.heap.size w wx) => textR_any (h.below hb).r1 h.o1 h.s1 (hp.below hb))
  have TY := Lib.hid (fun (wx : World) (hb : Below w.heap.size w wx) => textR_any (h.below hb).r2 h.o2 h.s2 (hp.below hb))
  have IW := Lib.hid (fun (wx : World) (hb : Below w.heap.size w wx) => ratioInt_any n.neg v1 v2 n.top n.bot wx (h.below hb).r1 (h.below hb).r2 h.o1 (by have := h.s1; omega))
  have HB : Hid (∀ o1, Below w.heap.size w (w.alloc o1)) := Lib.hid (fun o1 => (Below.refl _ _).alloc (Nat.le_refl _) _)
  have HP : Hid (Dg.print n = (if n.neg then [194, 175] else []) ++ (Lib.decDigits (Nt.val n.top) ++ if n.bot = [1] then [] else 114 :: Lib.decDigits (Nt.val n.bot))) := Lib.hid rfl
  have HI3 : Hid ((Tryd.prog.info? 24).map (·.size) = some (#[.bool n.neg, v1, v2] : Array Value).size) := Lib.hid num_info
  have HI2 : Hid (∀ (b : Bool) (A : Option Addr) (k c : Nat), (Tryd.prog.info? 58).map (·.size) = some (#[.bool b, .slice A k c] : Array Value).size) := Lib.hid (fun _ _ _ _ => whole2_info)
  have hTl := dec_bound h.o1 h.s1
  have hBl := dec_bound h.o2 h.s2
  clear h hp
  obtain ⟨neg, top, bot⟩ := n
  dsimp only at TX TY IW HP HI3 hTl hBl ⊢
  generalize Dg.print ⟨neg, top, bot⟩ = R at *
  generalize Lib.decDigits (Nt.val top) = T at *
  generalize Lib.decDigits (Nt.val bot) = B at *
  go_enter Tryd.func10, Tryd.ntmps10
  go_wp2_with fail
  refine (TX.out _ (HB.out _)).mono ?_
  rintro e w2 ⟨rfl, hb2⟩
  have hbw2 := (HB.out (.cells #[.bool neg, v1, v2] 24)).trans (hb2.mono (HB.out _).size)
  have HG := Lib.hid ((hb2.block w.heap.size (by simp)).trans (heap_alloc_new w (.cells #[.bool neg, v1, v2] 24)))
  have hs2 := hb2.size
  have hlt : w.heap.size < w2.heap.size := by simp at hs2; omega
  have p0 : w2.cell? ⟨w.heap.size, 0, none⟩ = some (.bool neg) := (cell_of_row w2 w.heap.size 0 _ _ _ HG.out).trans rfl
  clear hb2 hs2 TX
  obtain ⟨N, hN⟩ : ∃ N : List UInt8, N = if neg then [194, 175] else [] := ⟨_, rfl⟩
  rw [← hN] at HP
  have hN2 := Lib.hid hN
  clear hN
  cases neg
  all_goals
    go_wp2_with (with_reducible refine wpList_load_row rfl 24 (.tmp 1) rfl w.heap.size rfl 24 #[.bool _, v1, v2] (0, 0) _ HG.out Tryd.underlying24 rfl HI3.out ?_)
    refine (IW.out w2 hbw2).mono ?_
    rintro e w3 ⟨u, rfl, hu, hb3⟩
    dsimp only at hu
    have hbw3 := hbw2.trans (hb3.mono hbw2.size)
    have HG3 := Lib.hid ((hb3.block w.heap.size hlt).trans HG.out)
    have hlt3 : w.heap.size < w3.heap.size := Nat.lt_of_lt_of_le hlt hb3.size
    obtain ⟨A3, c3, rfl, -⟩ := hu
    clear hb3 hbw2 hlt p0
    have p2 : w3.cell? ⟨w.heap.size, 2, none⟩ = some v2 := (cell_of_row w3 w.heap.size 2 _ _ _ HG3.out).trans rfl
    have HG4 : Hid (∀ o, (w3.alloc o).heap[w3.heap.size]? = some o) := Lib.hid (fun o => heap_alloc_new w3 o)
    by_cases hone : bot = [1]
    · have HO := Lib.hid hone
      have e1 : (bot == [1]) = true := by rw [hone]; rfl
      simp only [e1, if_pos hone]
      clear hone TY IW e1
      go_wp2_with fail
      go_ret
      exact ⟨ret_str (by rw [HP.out, if_pos HO.out, hN2.out]; simp), hbw3.alloc hbw3.size _⟩
    · have HO := Lib.hid hone
      have e1 : (bot == [1]) = false := beq_eq_false_iff_ne.2 hone
      simp only [e1, if_neg hone]
      clear hone IW e1
      have HTY := Lib.hid (fun o => TY.out (w3.alloc o) (hbw3.alloc hbw3.size _))
      clear TY
      go_wp2_with fail
      refine (HTY.out _).mono ?_
      rintro e w4 ⟨rfl, hb4⟩
      have hbw4 := (hbw3.alloc hbw3.size (.cells #[.bool false, .slice A3 ([] : List Nat).length c3] 58)).trans (hb4.mono (by simp; omega))
      clear hb4 HTY hbw3 p2
      go_wp2_with fail
      go_ret
      exact ⟨ret_str (by rw [HP.out, if_neg HO.out, hN2.out]; simp), hbw4⟩
end Go.Proofs.YtfiefglagknclaaDoor

/-
  digits.Parse: the number of a text. (Printed by wip/bin/gen_dig8.py.)
-/
namespace Go.Proofs.YtfiefglagknclaaDoor
open Go.RowKit
set_option maxHeartbeats 4000000
set_option maxRecDepth 100000
set_option linter.unusedVariables false

theorem bDrewN {B : Nat} {w w' : World} (h : Below B w w') (n : Nat) : Below B w (w'.drewN n) := ⟨h.os, h.tape, h.output, h.size, h.block⟩
theorem parse_cut (s : List UInt8) : Dg.parse s = Dg.body (Lib.hasPrefix s [194, 175]) (Lib.trimPrefix s [194, 175]) := by
  unfold Lib.trimPrefix Lib.hasPrefix
  match s with
  | [] => rfl
  | [a] =>
    have h : List.isPrefixOf [194, 175] [a] = false := by simp [List.isPrefixOf]
    rw [h]
    unfold Dg.parse
    split
    · next h2 => cases h2
    · rfl
  | a :: b :: t =>
    by_cases h : a = 194 ∧ b = 175
    · obtain ⟨rfl, rfl⟩ := h
      rfl
    · have h2 : List.isPrefixOf [194, 175] (a :: b :: t) = false := by
        simp [List.isPrefixOf]
        intro e1 e2
        exact h ⟨e1.symm, e2.symm⟩
      rw [h2]
      unfold Dg.parse
      split
      · next h3 => injection h3 with e1 h3; injection h3 with e2 h3; exact absurd ⟨e1, e2⟩ h
      · rfl
theorem numOf_one : Ten.numOf [49] = 1 := rfl
theorem cut_len (s p : List UInt8) : (Lib.trimPrefix s p).length ≤ s.length := by
  unfold Lib.trimPrefix
  split
  · rw [List.length_drop]; omega
  · exact Nat.le_refl _
theorem lim_digs {t : List UInt8} (hd : ∀ b ∈ t, Ten.isDig b) (h : t.length ≤ 1000) : (Nt.digs (Ten.numOf t)).length ≤ 1000000 := by
  have := Dg.limbs_le hd 112 (by omega)
  omega
/-- The last statement's calls. -/
theorem makeOf_any (neg : Bool) (v1 v2 : Value) (a b : List UInt8) (w : World) (h1 : IsRes w v1 (Nt.digs (Ten.numOf a))) (h2 : IsRes w v2 (Nt.digs (Ten.numOf b))) (d1 : ∀ x ∈ a, Ten.isDig x) (d2 : ∀ x ∈ b, Ten.isDig x) (s1 : a.length ≤ 1000) (s2 : b.length ≤ 1000) :
    Calls Tryd.prog 32 #[.agg #[.bool neg, v1], .agg #[.bool false, v2]] w (MakeOut w (Rt.mk neg false (Ten.numOf a) (Ten.numOf b))) := by
  have := ratioMake_any neg false v1 v2 _ _ w h1 h2 (Nt.ok_digs _) (Nt.ok_digs _) (lim_digs d1 s1) (lim_digs d2 s2)
  rwa [Nt.val_digs, Nt.val_digs] at this

theorem digParse_any (s : List UInt8) (w : World) (hs : s.length ≤ 100000) :
    Calls Tryd.prog 11 #[.string ⟨s.toArray⟩] w (MakeOut w (Dg.parse s)) := by
  have CP := fun wx => Tryd.strings_CutPrefix ⟨s.toArray⟩ ⟨#[194, 175]⟩ wx
  rw [show (⟨s.toArray⟩ : ByteArray).data.toList = s from rfl, show (⟨#[194, 175]⟩ : ByteArray).data.toList = [194, 175] from rfl] at CP
  have hcl := cut_len s [194, 175]
  rw [parse_cut]
  have HI3 : Hid (∀ (b : Bool) (A : Option Addr) (k c : Nat) (A' : Option Addr) (k' c' : Nat), (Tryd.prog.info? 24).map (·.size) = some (#[.bool b, .slice A k c, .slice A' k' c'] : Array Value).size) := Lib.hid (fun _ _ _ _ _ _ _ => num_info)
  have HGA : Hid ((w.alloc (.cells #[.bool false, .slice none 0 0, .slice none 0 0] 24)).heap[w.heap.size]? = some (.cells #[.bool false, .slice none 0 0, .slice none 0 0] 24 (0, 0))) := Lib.hid (heap_alloc_new w _)
  have hb0 : Below w.heap.size w (w.alloc (.cells #[.bool false, .slice none 0 0, .slice none 0 0] 24)) := (Below.refl _ _).alloc (Nat.le_refl _) _
  generalize Lib.trimPrefix s [194, 175] = t at *
  generalize Lib.hasPrefix s [194, 175] = neg at *
  have HCP := Lib.hid CP
  have htl : t.length ≤ 100000 := by omega
  clear CP hcl
  obtain ⟨W, hW⟩ : ∃ W, W = w.alloc (.cells #[.bool false, .slice none 0 0, .slice none 0 0] 24) := ⟨_, rfl⟩
  rw [← hW] at HGA hb0
  have HW := Lib.hid hW
  clear hW
  have hsz : (⟨t.toArray⟩ : ByteArray).size = t.length := rfl
  have HSZ := Lib.hid hsz
  clear hsz
  go_enter Tryd.func11, Tryd.ntmps11
  go_wp2_with fail
  rw [← HW.out]
  refine (HCP.out _).mono ?_
  rintro e w' ⟨rfl, rfl⟩
  clear HCP
  by_cases h400 : 400 < t.length
  · have HE : Hid (400 < t.length) := Lib.hid h400
    go_wp2_with (with_reducible refine wpList_store_row rfl 24 (.tmp 2) (.tmp 18) rfl w.heap.size #[.bool false, .slice none 0 0, .slice none 0 0] rfl rfl 24 #[.bool false, .slice none 0 0, .slice none 0 0] HGA.out (HI3.out _ _ _ _ _ _ _) rfl (three_one _ _ _ _ _ _ _) ?_)
    refine bodyPost_ret (results_cell_row_tmp (by rfl) _ _ w.heap.size 24 #[.bool false, .slice none 0 0, .slice none 0 0] (0, 0) _ _ (by rfl) (by rfl) (rheap_same HGA.out) Tryd.underlying24 rfl (HI3.out _ _ _ _ _ _ _)) rfl (MakeOut.of (by unfold Dg.body; rw [if_pos HE.out]; rfl) rfl (isRes_nil _) (isRes_nil _) (rBelow.setRow hb0 (by omega) _))
  · have H400 : Hid (¬ 400 < t.length) := Lib.hid h400
    obtain ⟨n, hn⟩ : ∃ n, n = Dg.lead t := ⟨_, rfl⟩
    have LD := fun (wx : World) => leading_any t wx (by omega)
    have hll := Dg.lead_le t
    rw [← hn] at LD hll
    have LD := Lib.hid LD
    have HN := Lib.hid hn
    clear hn
    go_wp2_with fail
    refine (LD.out _).mono ?_
    rintro e w' ⟨rfl, rfl⟩
    clear LD
    by_cases hl0 : n = 0
    · have hz : ((n : Int) == 0) = true := by rw [hl0]; rfl
      have HE : Hid (Dg.lead t = 0) := Lib.hid (by rw [← HN.out]; exact hl0)
      clear hl0
      go_wp2_with (with_reducible refine wpList_store_row rfl 24 (.tmp 2) (.tmp 23) rfl w.heap.size #[.bool false, .slice none 0 0, .slice none 0 0] rfl rfl 24 #[.bool false, .slice none 0 0, .slice none 0 0] HGA.out (HI3.out _ _ _ _ _ _ _) rfl (three_one _ _ _ _ _ _ _) ?_)
      refine bodyPost_ret (results_cell_row_tmp (by rfl) _ _ w.heap.size 24 #[.bool false, .slice none 0 0, .slice none 0 0] (0, 0) _ _ (by rfl) (by rfl) (rheap_same HGA.out) Tryd.underlying24 rfl (HI3.out _ _ _ _ _ _ _)) rfl (MakeOut.of (by unfold Dg.body; rw [if_neg H400.out, if_pos HE.out]; rfl) rfl (isRes_nil _) (isRes_nil _) (rBelow.setRow hb0 (by omega) _))
    · have hz : ((n : Int) == 0) = false := beq_eq_false_iff_ne.2 (by omega)
      have HL0 : Hid (¬ Dg.lead t = 0) := Lib.hid (by rw [← HN.out]; exact hl0)
      by_cases hlt : n < t.length
      · obtain ⟨y, hy⟩ : ∃ y, y = t[n].toNat := ⟨_, rfl⟩
        have hgy : ((⟨t.toArray⟩ : ByteArray)[n]'(show n < (⟨t.toArray⟩ : ByteArray).size from hlt)).toNat = y := hy.symm
        have HY : Hid (y = (t.getD n 0).toNat) := Lib.hid (by rw [hy, List.getD_eq_getElem?_getD, List.getElem?_eq_getElem hlt]; rfl)
        clear hy
        obtain ⟨ov, hov⟩ : ∃ ov, ov = t.take n := ⟨_, rfl⟩
        obtain ⟨bh, hbh⟩ : ∃ bh, bh = t.drop (n + 1) := ⟨_, rfl⟩
        have hovl : ov.length = n := by rw [hov, List.length_take]; omega
        have hbhl : bh.length = t.length - (n + 1) := by rw [hbh, List.length_drop]
        have hovl2 : ov.length ≤ 400 := by omega
        have hbhl2 : bh.length ≤ 400 := by omega
        have SU : Hid ((⟨t.toArray⟩ : ByteArray).extract 0 n = ⟨ov.toArray⟩) := Lib.hid (by rw [str_upto t n (by omega), hov])
        have SF : Hid ((⟨t.toArray⟩ : ByteArray).extract (n + 1) t.length = ⟨bh.toArray⟩) := Lib.hid (by rw [str_from, hbh])
        have HOV : Hid (ov = t.take (Dg.lead t)) := Lib.hid (by rw [← HN.out]; exact hov)
        have HBH : Hid (bh = t.drop (Dg.lead t + 1)) := Lib.hid (by rw [← HN.out]; exact hbh)
        have HBL : Hid (bh.length = t.length - (Dg.lead t + 1)) := Lib.hid (by rw [← HN.out]; exact hbhl)
        have HNE : Hid (¬ Dg.lead t = t.length) := Lib.hid (by rw [← HN.out]; omega)
        have HO : Hid (ov.length ≤ 1000 ∧ ∀ b ∈ ov, Ten.isDig b) := Lib.hid ⟨by omega, by rw [HOV.out]; exact Dg.lead_take⟩
        have HEQ0 : Hid (Dg.body neg t = if bh.length = 0 ∨ Dg.lead bh < bh.length then (Rt.none_, 1) else if t.getD n 0 = 114 then Rt.mk neg false (Ten.numOf ov) (Ten.numOf bh) else if t.getD n 0 = 46 then Rt.mk neg false (Ten.numOf (ov ++ bh)) (10 ^ bh.length) else (Rt.none_, 1)) := Lib.hid (by
          unfold Dg.body
          rw [if_neg H400.out, if_neg HL0.out, if_neg HNE.out, ← HBL.out, ← HBH.out, ← HOV.out, ← HN.out]
          have e : (t.length = n + 1) = (bh.length = 0) := by rw [eq_iff_iff]; omega
          simp only [e])
        have hw1 : IntKind.i64.wrap ((n : Int) + 1) = (n : Int) + 1 := IntWalk.i64_in _ (by omega)
        have hw2 : (0 : Int) ≤ (n : Int) + 1 := by omega
        have hw3 : (n : Int) + 1 ≤ (t.length : Int) := by omega
        have hw4 : ((n : Int) + 1).toNat = n + 1 := by omega
        have hw5 : (0 : Int) ≤ (n : Int) := by omega
        have hw6 : (n : Int) < (t.length : Int) := by omega
        clear hov hbh hovl hbhl
        go_wp2_with fail
        go_quiet (fail)
        clear hw1 hw2 hw3 hw4 hw5 hw6
        simp only [SU.out, SF.out]
        have hbq : Below w.heap.size w (w'.drewN nq) := bDrewN hb0 nq
        have HGQ : Hid ((w'.drewN nq).heap[w.heap.size]? = some (.cells #[.bool false, .slice none 0 0, .slice none 0 0] 24 (0, 0))) := Lib.hid HGA.out
        generalize w'.drewN nq = wq at *
        by_cases hbe : bh = []
        · have hemp : bh.isEmpty = true := by rw [hbe]; rfl
          have HE : Hid (bh.length = 0) := Lib.hid (by rw [hbe]; rfl)
          subst hbe
          clear SU SF HGA hb0
          go_wp2_with (with_reducible refine wpList_store_row rfl 24 (.tmp 2) (.tmp 47) rfl w.heap.size #[.bool false, .slice none 0 0, .slice none 0 0] rfl rfl 24 #[.bool false, .slice none 0 0, .slice none 0 0] HGQ.out (HI3.out _ _ _ _ _ _ _) rfl (three_one _ _ _ _ _ _ _) ?_)
          refine bodyPost_ret (results_cell_row_tmp (by rfl) _ _ w.heap.size 24 #[.bool false, .slice none 0 0, .slice none 0 0] (0, 0) _ _ (by rfl) (by rfl) (rheap_same HGQ.out) Tryd.underlying24 rfl (HI3.out _ _ _ _ _ _ _)) rfl (MakeOut.of (by rw [HEQ0.out, if_pos (.inl HE.out)]; rfl) rfl (isRes_nil _) (isRes_nil _) (rBelow.setRow hbq (by omega) _))
        · have hemp : bh.isEmpty = false := by cases bh with | nil => exact absurd rfl hbe | cons a r => rfl
          have HBE : Hid (¬ bh.length = 0) := Lib.hid (by cases bh with | nil => exact absurd rfl hbe | cons a r => simp)
          have LB := Lib.hid (fun (wx : World) => leading_any bh wx (by omega))
          clear SU SF HGA hb0
          go_wp2_with fail
          refine (LB.out _).mono ?_
          rintro e w'' ⟨rfl, rfl⟩
          have hlb := Dg.lead_le bh
          by_cases hm : Dg.lead bh < bh.length
          · have HM := Lib.hid hm
            have g1 : decide (Dg.lead bh < bh.length) = true := decide_eq_true hm
            go_wp2_with (with_reducible refine wpList_store_row rfl 24 (.tmp 2) (.tmp 47) rfl w.heap.size #[.bool false, .slice none 0 0, .slice none 0 0] rfl rfl 24 #[.bool false, .slice none 0 0, .slice none 0 0] HGQ.out (HI3.out _ _ _ _ _ _ _) rfl (three_one _ _ _ _ _ _ _) ?_)
            refine bodyPost_ret (results_cell_row_tmp (by rfl) _ _ w.heap.size 24 #[.bool false, .slice none 0 0, .slice none 0 0] (0, 0) _ _ (by rfl) (by rfl) (rheap_same HGQ.out) Tryd.underlying24 rfl (HI3.out _ _ _ _ _ _ _)) rfl (MakeOut.of (by rw [HEQ0.out, if_pos (.inr HM.out)]; rfl) rfl (isRes_nil _) (isRes_nil _) (rBelow.setRow hbq (by omega) _))
          · have g1 : decide (Dg.lead bh < bh.length) = false := decide_eq_false hm
            have HM : Hid (¬ (bh.length = 0 ∨ Dg.lead bh < bh.length)) := Lib.hid (fun h => h.elim HBE.out hm)
            have HBD : Hid (∀ b ∈ bh, Ten.isDig b) := Lib.hid (Dg.lead_full (by omega))
            clear LB hlb
            have HY114 : Hid (y = 114 → t.getD n 0 = 114) := Lib.hid (fun h => UInt8.toNat_inj.1 (by rw [← HY.out, h]; rfl))
            have HY46 : Hid (y = 46 → t.getD n 0 = 46) := Lib.hid (fun h => UInt8.toNat_inj.1 (by rw [← HY.out, h]; rfl))
            have HYN : Hid (∀ b : UInt8, t.getD n 0 = b → y = b.toNat) := Lib.hid (fun b h => by rw [HY.out, h])
            by_cases h114 : y = 114
            · have HD := Lib.hid (HY114.out h114)
              have q114 : ((y : Int) == 114) = true := by rw [h114]; rfl
              have HU : Hid (bh.length ≤ 1000 ∧ ∀ b ∈ bh, Ten.isDig b) := Lib.hid ⟨by omega, HBD.out⟩
              clear h114
              have NO := Lib.hid (fun (wx : World) => number_any ov wx HO.out.1 HO.out.2)
              have NU := Lib.hid (fun (wx : World) => number_any bh wx HU.out.1 HU.out.2)
              go_wp2_with fail
              refine (NO.out _).mono ?_
              rintro e w2 ⟨v1, rfl, hr1, hb2⟩
              have HR1 := Lib.hid hr1
              have HG2 := Lib.hid ((hb2.block w.heap.size (blk_lt HGQ.out)).trans HGQ.out)
              have hbw2 := hbq.trans (hb2.mono hbq.size)
              obtain ⟨A1, c1, rfl, -⟩ := hr1
              go_wp2_with fail
              refine (NU.out _).mono ?_
              rintro e w3 ⟨v2, rfl, hr2, hb3⟩
              have MK := Lib.hid (makeOf_any neg _ _ ov bh w3 (HR1.out.below hb3) hr2 HO.out.2 HU.out.2 HO.out.1 HU.out.1)
              have HG3 := Lib.hid ((hb3.block w.heap.size (blk_lt HG2.out)).trans HG2.out)
              have hbw3 := hbw2.trans (hb3.mono hbw2.size)
              obtain ⟨A2, c2, rfl, -⟩ := hr2
              clear hb2 hb3 HG2 hbw2 HR1
              go_wp2_with fail
              refine MK.out.mono ?_
              rintro e w4 ⟨r1, r2, rfl, hr3, hr4, hb4⟩
              have HG4 := Lib.hid ((hb4.block w.heap.size (blk_lt HG3.out)).trans HG3.out)
              have hbw4 := hbw3.trans (hb4.mono hbw3.size)
              have HR3 := Lib.hid (hr3.setRow HG4.out (three_no_int _ _ _ _ _ _ _) #[.bool (Rt.mk neg false (Ten.numOf ov) (Ten.numOf bh)).1.neg, r1, r2])
              have HR4 := Lib.hid (hr4.setRow HG4.out (three_no_int _ _ _ _ _ _ _) #[.bool (Rt.mk neg false (Ten.numOf ov) (Ten.numOf bh)).1.neg, r1, r2])
              have HEQ := Lib.hid (show Dg.body neg t = Rt.mk neg false (Ten.numOf ov) (Ten.numOf bh) by rw [HEQ0.out, if_neg HM.out, if_pos HD.out])
              obtain ⟨A3, c3, rfl, -⟩ := hr3
              obtain ⟨A4, c4, rfl, -⟩ := hr4
              clear MK hb4 HG3 hbw3
              generalize Rt.mk neg false (Ten.numOf ov) (Ten.numOf bh) = R at *
              obtain ⟨⟨rn, rt, rb⟩, re⟩ := R
              dsimp only at HR3 HR4 HEQ ⊢
              go_wp2_with (with_reducible refine wpList_store_row rfl 24 (.tmp 2) (.tmp 71) rfl w.heap.size #[.bool rn, .slice A3 rt.length c3, .slice A4 rb.length c4] rfl rfl 24 #[.bool false, .slice none 0 0, .slice none 0 0] HG4.out (HI3.out _ _ _ _ _ _ _) rfl (three_one _ _ _ _ _ _ _) ?_)
              refine bodyPost_ret (results_cell_row_tmp (by rfl) _ _ w.heap.size 24 #[.bool rn, .slice A3 rt.length c3, .slice A4 rb.length c4] (0, 0) _ _ (by rfl) (by rfl) (rheap_same HG4.out) Tryd.underlying24 rfl (HI3.out _ _ _ _ _ _ _)) rfl (MakeOut.of HEQ.out rfl HR3.out HR4.out (rBelow.setRow hbw4 (by omega) _))
            · have q114 : ((y : Int) == 114) = false := beq_eq_false_iff_ne.2 (by omega)
              have HD1 : Hid (¬ t.getD n 0 = 114) := Lib.hid (fun h => h114 (HYN.out _ h))
              clear h114
              by_cases h46 : y = 46
              · have HD := Lib.hid (HY46.out h46)
                have q46 : ((y : Int) == 46) = true := by rw [h46]; rfl
                have RP := Tryd.strings_Repeat ⟨#[48]⟩ bh.length wq (by omega) (by show 1 * bh.length ≤ _; omega)
                rw [show (⟨#[48]⟩ : ByteArray).data.toList = [48] from rfl, rep_eq] at RP
                obtain ⟨ZR, hZR⟩ : ∃ ZR, ZR = List.replicate bh.length (48 : UInt8) := ⟨_, rfl⟩
                obtain ⟨o2, ho2⟩ : ∃ o2, o2 = ov ++ bh := ⟨_, rfl⟩
                obtain ⟨u2, hu2⟩ : ∃ u2, u2 = (49 : UInt8) :: ZR := ⟨_, rfl⟩
                rw [← hZR] at RP
                have hZl : ZR.length = bh.length := by rw [hZR, List.length_replicate]
                have hZl2 : ZR.length ≤ 400 := by omega
                have HN2 : Hid (Ten.numOf u2 = 10 ^ bh.length) := Lib.hid (by rw [hu2, hZR]; exact Dg.numOf_zeros _)
                have SO2 : Hid ((⟨ov.toArray⟩ : ByteArray) ++ ⟨bh.toArray⟩ = ⟨o2.toArray⟩) := Lib.hid (by apply ByteArray.ext; rw [ho2]; simp)
                have SU2 : Hid ((⟨#[49]⟩ : ByteArray) ++ ⟨ZR.toArray⟩ = ⟨u2.toArray⟩) := Lib.hid (by apply ByteArray.ext; rw [hu2]; simp)
                have HO2 : Hid (o2.length ≤ 1000 ∧ ∀ b ∈ o2, Ten.isDig b) := Lib.hid ⟨by rw [ho2, List.length_append]; omega, by
                  intro b hb; rw [ho2] at hb; rcases List.mem_append.1 hb with hb | hb
                  · exact HO.out.2 b hb
                  · exact HBD.out b hb⟩
                have HU : Hid (u2.length ≤ 1000 ∧ ∀ b ∈ u2, Ten.isDig b) := Lib.hid ⟨by rw [hu2, List.length_cons]; omega, by
                  intro b hb; rw [hu2, hZR] at hb; rcases List.mem_cons.1 hb with rfl | hb
                  · exact ⟨by decide, by decide⟩
                  · rw [List.eq_of_mem_replicate hb]; exact ⟨by decide, by decide⟩⟩
                have HEV : Hid (Dg.body neg t = Rt.mk neg false (Ten.numOf o2) (Ten.numOf u2)) := Lib.hid (by rw [HEQ0.out, if_neg HM.out, if_neg HD1.out, if_pos HD.out, HN2.out, ho2])
                have HRP := Lib.hid RP
                clear h46 hZR ho2 hu2 RP hZl HO
                have HO := HO2
                clear HO2
                go_wp2_with fail
                refine HRP.out.mono ?_
                rintro e w7 ⟨rfl, hb7⟩
                have HG7 := Lib.hid ((hb7.block w.heap.size (blk_lt HGQ.out)).trans HGQ.out)
                have hbw7 := hbq.trans (hb7.mono hbq.size)
                clear hb7 HRP hbq HGQ
                simp only [SO2.out]
                have NO := Lib.hid (fun (wx : World) => number_any o2 wx HO.out.1 HO.out.2)
                have NU := Lib.hid (fun (wx : World) => number_any u2 wx HU.out.1 HU.out.2)
                go_wp2_with fail
                simp only [SU2.out, SO2.out]
                refine (NO.out _).mono ?_
                rintro e w2 ⟨v1, rfl, hr1, hb2⟩
                have HR1 := Lib.hid hr1
                have HG2 := Lib.hid ((hb2.block w.heap.size (blk_lt HG7.out)).trans HG7.out)
                have hbw2 := hbw7.trans (hb2.mono hbw7.size)
                obtain ⟨A1, c1, rfl, -⟩ := hr1
                go_wp2_with fail
                refine (NU.out _).mono ?_
                rintro e w3 ⟨v2, rfl, hr2, hb3⟩
                have MK := Lib.hid (makeOf_any neg _ _ o2 u2 w3 (HR1.out.below hb3) hr2 HO.out.2 HU.out.2 HO.out.1 HU.out.1)
                have HG3 := Lib.hid ((hb3.block w.heap.size (blk_lt HG2.out)).trans HG2.out)
                have hbw3 := hbw2.trans (hb3.mono hbw2.size)
                obtain ⟨A2, c2, rfl, -⟩ := hr2
                clear hb2 hb3 HG2 hbw2 HR1
                go_wp2_with fail
                refine MK.out.mono ?_
                rintro e w4 ⟨r1, r2, rfl, hr3, hr4, hb4⟩
                have HG4 := Lib.hid ((hb4.block w.heap.size (blk_lt HG3.out)).trans HG3.out)
                have hbw4 := hbw3.trans (hb4.mono hbw3.size)
                have HR3 := Lib.hid (hr3.setRow HG4.out (three_no_int _ _ _ _ _ _ _) #[.bool (Rt.mk neg false (Ten.numOf o2) (Ten.numOf u2)).1.neg, r1, r2])
                have HR4 := Lib.hid (hr4.setRow HG4.out (three_no_int _ _ _ _ _ _ _) #[.bool (Rt.mk neg false (Ten.numOf o2) (Ten.numOf u2)).1.neg, r1, r2])
                have HEQ := Lib.hid (show Dg.body neg t = Rt.mk neg false (Ten.numOf o2) (Ten.numOf u2) by exact HEV.out)
                obtain ⟨A3, c3, rfl, -⟩ := hr3
                obtain ⟨A4, c4, rfl, -⟩ := hr4
                clear MK hb4 HG3 hbw3
                generalize Rt.mk neg false (Ten.numOf o2) (Ten.numOf u2) = R at *
                obtain ⟨⟨rn, rt, rb⟩, re⟩ := R
                dsimp only at HR3 HR4 HEQ ⊢
                go_wp2_with (with_reducible refine wpList_store_row rfl 24 (.tmp 2) (.tmp 71) rfl w.heap.size #[.bool rn, .slice A3 rt.length c3, .slice A4 rb.length c4] rfl rfl 24 #[.bool false, .slice none 0 0, .slice none 0 0] HG4.out (HI3.out _ _ _ _ _ _ _) rfl (three_one _ _ _ _ _ _ _) ?_)
                refine bodyPost_ret (results_cell_row_tmp (by rfl) _ _ w.heap.size 24 #[.bool rn, .slice A3 rt.length c3, .slice A4 rb.length c4] (0, 0) _ _ (by rfl) (by rfl) (rheap_same HG4.out) Tryd.underlying24 rfl (HI3.out _ _ _ _ _ _ _)) rfl (MakeOut.of HEQ.out rfl HR3.out HR4.out (rBelow.setRow hbw4 (by omega) _))
              · have q46 : ((y : Int) == 46) = false := beq_eq_false_iff_ne.2 (by omega)
                have HD2 : Hid (¬ t.getD n 0 = 46) := Lib.hid (fun h => h46 (HYN.out _ h))
                clear h46
                go_wp2_with (with_reducible refine wpList_store_row rfl 24 (.tmp 2) (.tmp 49) rfl w.heap.size #[.bool false, .slice none 0 0, .slice none 0 0] rfl rfl 24 #[.bool false, .slice none 0 0, .slice none 0 0] HGQ.out (HI3.out _ _ _ _ _ _ _) rfl (three_one _ _ _ _ _ _ _) ?_)
                refine bodyPost_ret (results_cell_row_tmp (by rfl) _ _ w.heap.size 24 #[.bool false, .slice none 0 0, .slice none 0 0] (0, 0) _ _ (by rfl) (by rfl) (rheap_same HGQ.out) Tryd.underlying24 rfl (HI3.out _ _ _ _ _ _ _)) rfl (MakeOut.of (by rw [HEQ0.out, if_neg HM.out, if_neg HD1.out, if_neg HD2.out]; rfl) rfl (isRes_nil _) (isRes_nil _) (rBelow.setRow hbq (by omega) _))
      · have HO : Hid (t.length ≤ 1000 ∧ ∀ b ∈ t, Ten.isDig b) := Lib.hid ⟨by omega, Dg.lead_full (by rw [← HN.out]; omega)⟩
        have HU : Hid (([49] : List UInt8).length ≤ 1000 ∧ ∀ b ∈ ([49] : List UInt8), Ten.isDig b) := Lib.hid ⟨by decide, by intro b hb; rw [List.mem_singleton] at hb; subst hb; exact ⟨by decide, by decide⟩⟩
        have HLE : Hid (n = t.length) := Lib.hid (by omega)
        have hst : (⟨t.toArray⟩ : ByteArray).extract 0 n = ⟨t.toArray⟩ := by rw [str_upto t n (by omega), HLE.out, List.take_length]
        have HST := Lib.hid hst
        clear hst
        go_wp2_with fail
        rw [HST.out]
        have NO := Lib.hid (fun (wx : World) => number_any t wx HO.out.1 HO.out.2)
        have NU := Lib.hid (fun (wx : World) => number_any [49] wx HU.out.1 HU.out.2)
        go_wp2_with fail
        refine (NO.out _).mono ?_
        rintro e w2 ⟨v1, rfl, hr1, hb2⟩
        have HR1 := Lib.hid hr1
        have HG2 := Lib.hid ((hb2.block w.heap.size (blk_lt HGA.out)).trans HGA.out)
        have hbw2 := hb0.trans (hb2.mono hb0.size)
        obtain ⟨A1, c1, rfl, -⟩ := hr1
        go_wp2_with fail
        refine (NU.out _).mono ?_
        rintro e w3 ⟨v2, rfl, hr2, hb3⟩
        have MK := Lib.hid (makeOf_any neg _ _ t [49] w3 (HR1.out.below hb3) hr2 HO.out.2 HU.out.2 HO.out.1 HU.out.1)
        have HG3 := Lib.hid ((hb3.block w.heap.size (blk_lt HG2.out)).trans HG2.out)
        have hbw3 := hbw2.trans (hb3.mono hbw2.size)
        obtain ⟨A2, c2, rfl, -⟩ := hr2
        clear hb2 hb3 HG2 hbw2 HR1
        go_wp2_with fail
        refine MK.out.mono ?_
        rintro e w4 ⟨r1, r2, rfl, hr3, hr4, hb4⟩
        have HG4 := Lib.hid ((hb4.block w.heap.size (blk_lt HG3.out)).trans HG3.out)
        have hbw4 := hbw3.trans (hb4.mono hbw3.size)
        have HR3 := Lib.hid (hr3.setRow HG4.out (three_no_int _ _ _ _ _ _ _) #[.bool (Rt.mk neg false (Ten.numOf t) (Ten.numOf [49])).1.neg, r1, r2])
        have HR4 := Lib.hid (hr4.setRow HG4.out (three_no_int _ _ _ _ _ _ _) #[.bool (Rt.mk neg false (Ten.numOf t) (Ten.numOf [49])).1.neg, r1, r2])
        have HEQ := Lib.hid (show Dg.body neg t = Rt.mk neg false (Ten.numOf t) (Ten.numOf [49]) by unfold Dg.body; rw [if_neg H400.out, if_neg HL0.out, if_pos (by rw [← HN.out]; exact HLE.out), numOf_one])
        obtain ⟨A3, c3, rfl, -⟩ := hr3
        obtain ⟨A4, c4, rfl, -⟩ := hr4
        clear MK hb4 HG3 hbw3
        generalize Rt.mk neg false (Ten.numOf t) (Ten.numOf [49]) = R at *
        obtain ⟨⟨rn, rt, rb⟩, re⟩ := R
        dsimp only at HR3 HR4 HEQ ⊢
        go_wp2_with (with_reducible refine wpList_store_row rfl 24 (.tmp 2) (.tmp 71) rfl w.heap.size #[.bool rn, .slice A3 rt.length c3, .slice A4 rb.length c4] rfl rfl 24 #[.bool false, .slice none 0 0, .slice none 0 0] HG4.out (HI3.out _ _ _ _ _ _ _) rfl (three_one _ _ _ _ _ _ _) ?_)
        refine bodyPost_ret (results_cell_row_tmp (by rfl) _ _ w.heap.size 24 #[.bool rn, .slice A3 rt.length c3, .slice A4 rb.length c4] (0, 0) _ _ (by rfl) (by rfl) (rheap_same HG4.out) Tryd.underlying24 rfl (HI3.out _ _ _ _ _ _ _)) rfl (MakeOut.of HEQ.out rfl HR3.out HR4.out (rBelow.setRow hbw4 (by omega) _))
end Go.Proofs.YtfiefglagknclaaDoor
