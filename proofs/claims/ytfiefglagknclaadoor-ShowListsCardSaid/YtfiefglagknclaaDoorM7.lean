/-
  Texts of this proof, joined (by wip/bin/bundle.py): Dig3, Dig13, Dig14, Dig15, Fmt, NatPar, NatPar2, NatTxt.
-/
import Derived.Test.YtfiefglagknclaaDoorM6
import Derived.Lib.ItoaMem
import Derived.Lib.Walk
import Derived.Lib.Hide
import Derived.WalkKit
import Derived.BigCall
import Derived.BigGuard
import Derived.ProofKit
import Derived.Below
/-
  The program's ratio.Make. (Printed by wip/bin/gen_dig3.py.)
-/
namespace Go.Proofs.YtfiefglagknclaaDoor
open Go.RowKit
set_option maxHeartbeats 4000000
set_option maxRecDepth 100000
set_option linter.unusedVariables false

theorem pDivMod_res {w : World} {v1 v2 : Value} {l1 l2 : List Nat} (h1 : IsRes w v1 l1) (h2 : IsRes w v2 l2) (o1 : Nt.Ok l1) (o2 : Nt.Ok l2) (s1 : l1.length ≤ 1000000) (s2 : l2.length ≤ 1000000) :
    Calls Tryd.prog 68 #[v1, v2] w fun e w' => ∃ u1 u2, e = .returned (.tuple #[u1, u2, .bool (decide (Nt.val l2 ≠ 0))]) ∧ IsRes w' u1 (Nt.digs (Nt.quo (Nt.val l1) (Nt.val l2))) ∧ IsRes w' u2 (Nt.digs (Nt.rest (Nt.val l1) (Nt.val l2))) ∧ Below w.heap.size w w' := by
  obtain ⟨A, c, rfl, a1, a2, a3, a4⟩ := h1
  obtain ⟨A', c', rfl, b1, b2, b3, b4⟩ := h2
  exact (divMod_any A A' c c' w.heap.size l1 l2 w a4 b4 (Nat.le_refl _) o1 o2 a1 b1 a2 b2 s1 s2 (.inr long_any)).mono (by
    rintro e w' ⟨u1, u2, rfl, r1, r2, hb'⟩
    exact ⟨u1, u2, rfl, r1, r2, hb'⟩)
theorem pGcd_res {w : World} {v1 v2 : Value} {l1 l2 : List Nat} (h1 : IsRes w v1 l1) (h2 : IsRes w v2 l2) (o1 : Nt.Ok l1) (o2 : Nt.Ok l2) (s1 : l1.length ≤ 1000000) (s2 : l2.length ≤ 1000000) :
    Calls Tryd.prog 67 #[v1, v2] w fun e w' => ∃ v, e = .returned v ∧ IsRes w' v (Nt.digs (Nat.gcd (Nt.val l1) (Nt.val l2))) ∧ Below w.heap.size w w' := by
  have h1' := h1
  have h2' := h2
  obtain ⟨A, c, rfl, -⟩ := h1
  obtain ⟨A', c', rfl, -⟩ := h2
  exact gcd_any A A' c c' l1 l2 w h1' h2' o1 o2 s1 s2
theorem digs_one : Nt.digs 1 = [1] := by rw [Nt.digs_pos (by decide)]; simp [Nt.digs_zero]
theorem one_digs (x : Nat) : (Nt.digs x == [1]) = (x == 1) := by
  rw [Bool.eq_iff_iff, beq_iff_eq, beq_iff_eq]
  constructor
  · intro h
    have := congrArg Nt.val h
    rw [Nt.val_digs] at this
    rw [this]; rfl
  · rintro rfl; exact digs_one
def frameMK (g : Nat) (P Q : Array Value) (xs : Nat → Value) : Act := { tmps := #[.agg P, .agg Q, .pointer (some ⟨g, 0, none⟩), .pointer (some ⟨g + 1, 0, none⟩), .pointer (some ⟨g + 1 + 1, 0, none⟩), .int .i64 0, xs 6, xs 7, undef, xs 0, xs 1, xs 2, xs 3, xs 4, xs 5, undef, undef, undef, undef, undef, undef, undef, undef, undef, undef, undef, undef, undef, undef, undef, undef, undef, undef, undef, undef, undef, undef, undef, undef, undef, undef, undef, undef, undef, undef, undef, undef, undef, undef, undef, undef, undef, undef, undef, undef, undef, undef, undef, undef, undef, undef, undef, undef, undef], defers := [] }
def predMK (g : Nat) (V1 V2 : Value) (l1 l2 : List Nat) : Nat → World → Value → Prop
  | 0, w, v => v = .pointer (some ⟨g, 1, none⟩)
  | 1, w, v => v = V1
  | 2, w, v => IsRes w v (Nt.digs (Nt.val l1))
  | 3, w, v => v = .pointer (some ⟨g + 1, 1, none⟩)
  | 4, w, v => v = V2
  | 5, w, v => IsRes w v (Nt.digs (Nt.val l2))
  | 6, w, v => IsRes w v (Nt.digs (Nt.val l1))
  | _, w, v => IsRes w v (Nt.digs (Nt.val l2))

theorem ratioMake_any (n1 n2 : Bool) (v1 v2 : Value) (l1 l2 : List Nat) (w : World) (h1 : IsRes w v1 l1) (h2 : IsRes w v2 l2) (o1 : Nt.Ok l1) (o2 : Nt.Ok l2) (s1 : l1.length ≤ 1000000) (s2 : l2.length ≤ 1000000) :
    Calls Tryd.prog 32 #[.agg #[.bool n1, v1], .agg #[.bool n2, v2]] w (MakeOut w (Rt.mk n1 n2 (Nt.val l1) (Nt.val l2))) := by
  obtain ⟨g, hg⟩ : ∃ g, g = w.heap.size := ⟨_, rfl⟩
  obtain ⟨W, hW⟩ : ∃ W, W = ((w.alloc (.cells #[.bool n1, v1] 58)).alloc (.cells #[.bool n2, v2] 58)).alloc (.cells #[.bool false, .slice none 0 0, .slice none 0 0] 24) := ⟨_, rfl⟩
  have hWs : W.heap.size = g + 1 + 1 + 1 := by rw [hW, hg]; simp
  have hWb : Below g w W := by rw [hW, hg]; exact (((Below.refl _ _).alloc (Nat.le_refl _) _).alloc (by simp) _).alloc (by simp; omega) _
  have hW0 : W.heap[g]? = some (.cells #[.bool n1, v1] 58 (0, 0)) := by rw [hW, hg]; exact (Below.heap_alloc _ _ _ (by simp; omega)).trans (heap_alloc2_old _ _ _)
  have hW1 : W.heap[g + 1]? = some (.cells #[.bool n2, v2] 58 (0, 0)) := by rw [hW, hg]; exact (Below.heap_alloc _ _ _ (by simp)).trans (heap_alloc2_new _ _ _)
  have HW2 : Hid (W.heap[g + 1 + 1]? = some (.cells #[.bool false, .slice none 0 0, .slice none 0 0] 24 (0, 0))) := Lib.hid (by
    rw [hW, hg]
    have := heap_alloc_new ((w.alloc (.cells #[.bool n1, v1] 58)).alloc (.cells #[.bool n2, v2] 58)) (.cells #[.bool false, .slice none 0 0, .slice none 0 0] 24)
    rwa [show ((w.alloc (.cells #[.bool n1, v1] 58)).alloc (.cells #[.bool n2, v2] 58)).heap.size = w.heap.size + 1 + 1 by simp] at this)
  have HQ : Hid (∀ wx, Below W.heap.size W wx → wx.cell? ⟨g, 1, none⟩ = some v1 ∧ wx.cell? ⟨g + 1, 1, none⟩ = some v2) := Lib.hid (fun wx hx => ⟨(cell_of_row wx g 1 _ _ _ ((hx.block g (by omega)).trans hW0)).trans rfl, (cell_of_row wx (g + 1) 1 _ _ _ ((hx.block (g + 1) (by omega)).trans hW1)).trans rfl⟩)
  have HQ0 : Hid (∀ wx, Below W.heap.size W wx → wx.cell? ⟨g, 0, none⟩ = some (.bool n1) ∧ wx.cell? ⟨g + 1, 0, none⟩ = some (.bool n2)) := Lib.hid (fun wx hx => ⟨(cell_of_row wx g 0 _ _ _ ((hx.block g (by omega)).trans hW0)).trans rfl, (cell_of_row wx (g + 1) 0 _ _ _ ((hx.block (g + 1) (by omega)).trans hW1)).trans rfl⟩)
  have hr1 : ∀ wx, Below W.heap.size W wx → IsRes wx v1 l1 := fun wx hx => (h1.below (by rw [← hg]; exact hWb)).below hx
  have hr2 : ∀ wx, Below W.heap.size W wx → IsRes wx v2 l2 := fun wx hx => (h2.below (by rw [← hg]; exact hWb)).below hx
  have N1 := Lib.hid (fun (wx : World) (hx : Below W.heap.size W wx) => wNorm_res (hr1 wx hx) o1 s1)
  have N2 := Lib.hid (fun (wx : World) (hx : Below W.heap.size W wx) => wNorm_res (hr2 wx hx) o2 s2)
  have d1 := Nt.digs_len_le o1
  have d2 := Nt.digs_len_le o2
  have HW := Lib.hid hW
  have HG := Lib.hid hg
  have hgl : g + 1 + 1 < W.heap.size := by omega
  obtain ⟨A1, c1, rfl, -⟩ := h1
  obtain ⟨A2, c2, rfl, -⟩ := h2
  clear hW hW0 hW1 hr1 hr2 hWs
  go_enter Tryd.func32, Tryd.ntmps32
  go_wp2_with fail
  rw [← HW.out, ← hg]
  clear hg
  refine wp_region_pred (frameMK g #[.bool n1, (.slice A1 l1.length c1)] #[.bool n2, (.slice A2 l2.length c2)]) W (predMK g (.slice A1 l1.length c1) (.slice A2 l2.length c2) l1 l2) (by kernel_rfl) ?_ (by kernel_rfl) (fun i => undef) rfl (Below.refl _ _) ?_ ?_
  · intro i w1 w2 v hv hb
    match i with
    | 0 => exact hv
    | 1 => exact hv
    | 2 => exact hv.below hb
    | 3 => exact hv
    | 4 => exact hv
    | 5 => exact hv.below hb
    | 6 => exact hv.below hb
    | i + 7 => exact hv.below hb
  · intro i xs w1 hi hb hdep
    have hi6 : i < 8 := hi
    clear hi
    rcases (show i = 0 ∨ i = 1 ∨ i = 2 ∨ i = 3 ∨ i = 4 ∨ i = 5 ∨ i = 6 ∨ i = 7 by omega) with rfl | rfl | rfl | rfl | rfl | rfl | rfl | rfl
    · refine wpOp_at rfl rfl ?_
      unfold frameMK Oper.wp
      go_simp
      exact ⟨_, by simp only [frameMK, upd]; simp [Act.put], rfl, Below.refl _ _⟩
    · have h0 : xs 0 = .pointer (some ⟨g, 1, none⟩) := hdep 0 (by kernel_rfl)
      refine wpOp_at rfl rfl ?_
      have q := (HQ.out w1 hb).1
      unfold frameMK Oper.wp
      simp only [h0]
      go_simp
      exact ⟨_, by simp only [frameMK, upd]; simp [Act.put, h0], rfl, Below.refl _ _⟩
    · have h1 : xs 1 = (.slice A1 l1.length c1) := hdep 1 (by kernel_rfl)
      refine wpOp_at rfl rfl ?_
      unfold frameMK Oper.wp
      simp only [h1]
      go_simp
      refine (N1.out w1 hb).mono ?_
      rintro e w2 ⟨v', rfl, hr, hb2⟩
      exact ⟨_, by simp only [frameMK, upd]; simp [Act.put, h1], hr, hb2⟩
    · refine wpOp_at rfl rfl ?_
      unfold frameMK Oper.wp
      go_simp
      exact ⟨_, by simp only [frameMK, upd]; simp [Act.put], rfl, Below.refl _ _⟩
    · have h3 : xs 3 = .pointer (some ⟨g + 1, 1, none⟩) := hdep 3 (by kernel_rfl)
      refine wpOp_at rfl rfl ?_
      have q := (HQ.out w1 hb).2
      unfold frameMK Oper.wp
      simp only [h3]
      go_simp
      exact ⟨_, by simp only [frameMK, upd]; simp [Act.put, h3], rfl, Below.refl _ _⟩
    · have h4 : xs 4 = (.slice A2 l2.length c2) := hdep 4 (by kernel_rfl)
      refine wpOp_at rfl rfl ?_
      unfold frameMK Oper.wp
      simp only [h4]
      go_simp
      refine (N2.out w1 hb).mono ?_
      rintro e w2 ⟨v', rfl, hr, hb2⟩
      exact ⟨_, by simp only [frameMK, upd]; simp [Act.put, h4], hr, hb2⟩
    · have r2 : IsRes w1 (xs 2) (Nt.digs (Nt.val l1)) := hdep 2 (by kernel_rfl)
      refine wpOp_at rfl rfl ?_
      unfold frameMK Oper.wp
      go_simp
      exact ⟨_, by simp only [frameMK, upd]; simp [Act.put], r2, Below.refl _ _⟩
    · have r5 : IsRes w1 (xs 5) (Nt.digs (Nt.val l2)) := hdep 5 (by kernel_rfl)
      refine wpOp_at rfl rfl ?_
      unfold frameMK Oper.wp
      go_simp
      exact ⟨_, by simp only [frameMK, upd]; simp [Act.put], r5, Below.refl _ _⟩
  · intro xs w1 hb hx
    have r6 : IsRes w1 (xs 6) (Nt.digs (Nt.val l1)) := hx 6 (by decide)
    have r7 : IsRes w1 (xs 7) (Nt.digs (Nt.val l2)) := hx 7 (by decide)
    clear hx
    obtain ⟨X, hX⟩ : ∃ X, X = Nt.val l1 := ⟨_, rfl⟩
    obtain ⟨Y, hY⟩ : ∃ Y, Y = Nt.val l2 := ⟨_, rfl⟩
    rw [← hX] at r6 d1 ⊢
    rw [← hY] at r7 d2 ⊢
    have HXv := Lib.hid hX
    have HYv := Lib.hid hY
    clear hX hY
    obtain ⟨x, hx⟩ : ∃ x, x = Nt.digs X := ⟨_, rfl⟩
    obtain ⟨y, hy⟩ : ∃ y, y = Nt.digs Y := ⟨_, rfl⟩
    have OX : Nt.Ok x := hx ▸ Nt.ok_digs X
    have OY : Nt.Ok y := hy ▸ Nt.ok_digs Y
    rw [← hx] at r6 d1
    rw [← hy] at r7 d2
    have HX2 := Lib.hid hx
    have HY2 := Lib.hid hy
    have HR1 := Lib.hid r6
    have HR2 := Lib.hid r7
    have HY0 : Hid (y.length = 0 ↔ Y = 0) := Lib.hid (by rw [hy, List.length_eq_zero_iff, Nt.digs_nil_iff])
    clear hx hy
    obtain ⟨C1, k1, f1, -⟩ := r6
    obtain ⟨C2, k2, f2, -⟩ := r7
    rw [f1] at HR1
    rw [f2] at HR2
    have p0 := (HQ0.out w1 hb).1
    have p0' := (HQ0.out w1 hb).2
    have HGA := Lib.hid ((hb.block (g + 1 + 1) hgl).trans HW2.out)
    have hxw : Below g w w1 := hWb.trans (hb.mono (by omega))
    have HI3 : Hid (∀ (b : Bool) (A : Option Addr) (k c : Nat) (A' : Option Addr) (k' c' : Nat), (Tryd.prog.info? 24).map (·.size) = some (#[.bool b, .slice A k c, .slice A' k' c'] : Array Value).size) := Lib.hid (fun _ _ _ _ _ _ _ => num_info)
    unfold frameMK
    simp only [f1, f2]
    by_cases hk0 : y.length = 0
    · have hz : ((y.length : Int) == 0) = true := by rw [hk0]; rfl
      have HK0 := Lib.hid (HY0.out.1 hk0)
      go_wp2_with (first
        | (with_reducible refine wpList_store_row rfl 24 (.tmp 4) (.tmp 18) rfl (g + 1 + 1) #[.bool false, .slice none 0 0, .slice none 0 0] rfl rfl 24 #[.bool false, .slice none 0 0, .slice none 0 0] HGA.out (HI3.out _ _ _ _ _ _ _) rfl (three_one _ _ _ _ _ _ _) ?_))
      refine bodyPost_ret (results_cell_row_tmp (by rfl) _ _ (g + 1 + 1) 24 #[.bool false, .slice none 0 0, .slice none 0 0] (0, 0) _ _ (by rfl) (by rfl) (rheap_same HGA.out) Tryd.underlying24 rfl (HI3.out _ _ _ _ _ _ _)) rfl (MakeOut.of (by unfold Rt.mk; rw [← HXv.out, ← HYv.out, if_pos HK0.out]; rfl) rfl (isRes_nil _) (isRes_nil _) (by rw [← HG.out]; exact rBelow.setRow hxw (by omega) _))
    · have hz : ((y.length : Int) == 0) = false := beq_eq_false_iff_ne.2 (by omega)
      have HY1 : Hid (Y ≠ 0) := Lib.hid (fun h => hk0 (HY0.out.2 h))
      by_cases hy1 : y = [1]
      · have q : (y == [1]) = true := by rw [hy1]; rfl
        have I1 := isOne_any _ _ w1 HR2.out
        rw [q] at I1
        have hYv : Y = 1 := by have := HY2.out; rw [hy1] at this; have := congrArg Nt.val this; rw [Nt.val_digs] at this; exact this.symm
        have HE1 : Hid (x = Nt.digs (X / Nat.gcd X Y)) := Lib.hid (by rw [hYv, Nat.gcd_one_right, Nat.div_one]; exact HX2.out)
        have HE2 : Hid (y = Nt.digs (Y / Nat.gcd X Y)) := Lib.hid (by rw [hYv, Nat.gcd_one_right, Nat.div_one, ← hYv]; exact HY2.out)
        have HI1 := Lib.hid I1
        have Hy1 := Lib.hid hy1
        clear hYv q I1 hy1
        go_wp2_with fail
        refine HI1.out.mono ?_
        rintro e w2 ⟨rfl, rfl⟩
        have HGB := HGA
        have hbw := hxw
        have HT1 := HR1
        have HT3 := HR2
        clear HGA hxw HI1
        have HX0 : Hid (x.length = 0 ↔ X = 0) := Lib.hid (by rw [HE1.out, List.length_eq_zero_iff, Nt.digs_nil_iff]; exact Rt.div_gcd_zero HY1.out)
        by_cases h32 : 32 < x.length
        · have g1 : decide ((32 : Int) < (x.length : Int)) = true := by simp; omega
          go_wp2_with (first
            | (with_reducible refine wpList_store_row rfl 24 (.tmp 4) (.tmp 50) rfl (g + 1 + 1) #[.bool false, .slice none 0 0, .slice none 0 0] rfl rfl 24 #[.bool false, .slice none 0 0, .slice none 0 0] HGB.out (HI3.out _ _ _ _ _ _ _) rfl (three_one _ _ _ _ _ _ _) ?_))
          refine bodyPost_ret (results_cell_row_tmp (by rfl) _ _ (g + 1 + 1) 24 #[.bool false, .slice none 0 0, .slice none 0 0] (0, 0) _ _ (by rfl) (by rfl) (rheap_same HGB.out) Tryd.underlying24 rfl (HI3.out _ _ _ _ _ _ _)) rfl (MakeOut.of (by unfold Rt.mk; rw [← HXv.out, ← HYv.out, if_neg HY1.out, ← HE1.out, ← HE2.out, if_pos (by omega)]; rfl) rfl (isRes_nil _) (isRes_nil _) (by rw [← HG.out]; exact rBelow.setRow hbw (by omega) _))
        · by_cases h33 : 32 < y.length
          · have g1 : decide ((32 : Int) < (x.length : Int)) = false := by simp; omega
            have g2 : decide ((32 : Int) < (y.length : Int)) = true := by simp; omega
            go_wp2_with (first
              | (with_reducible refine wpList_store_row rfl 24 (.tmp 4) (.tmp 50) rfl (g + 1 + 1) #[.bool false, .slice none 0 0, .slice none 0 0] rfl rfl 24 #[.bool false, .slice none 0 0, .slice none 0 0] HGB.out (HI3.out _ _ _ _ _ _ _) rfl (three_one _ _ _ _ _ _ _) ?_))
            refine bodyPost_ret (results_cell_row_tmp (by rfl) _ _ (g + 1 + 1) 24 #[.bool false, .slice none 0 0, .slice none 0 0] (0, 0) _ _ (by rfl) (by rfl) (rheap_same HGB.out) Tryd.underlying24 rfl (HI3.out _ _ _ _ _ _ _)) rfl (MakeOut.of (by unfold Rt.mk; rw [← HXv.out, ← HYv.out, if_neg HY1.out, ← HE1.out, ← HE2.out, if_pos (by omega)]; rfl) rfl (isRes_nil _) (isRes_nil _) (by rw [← HG.out]; exact rBelow.setRow hbw (by omega) _))
          · have g1 : decide ((32 : Int) < (x.length : Int)) = false := by simp; omega
            have g2 : decide ((32 : Int) < (y.length : Int)) = false := by simp; omega
            by_cases h34 : 0 < x.length
            · have g3 : decide ((0 : Int) < (x.length : Int)) = true := decide_eq_true (by omega)
              have HXB : Hid ((X == 0) = false) := Lib.hid (by have := HX0.out; simp; omega)
              cases n1
              · cases n2
                · go_wp2_with (first
                    | (with_reducible refine wpList_store_row rfl 24 (.tmp 4) (.tmp 63) rfl (g + 1 + 1) #[.bool false, .slice C1 x.length k1, .slice C2 y.length k2] rfl rfl 24 #[.bool false, .slice none 0 0, .slice none 0 0] HGB.out (HI3.out _ _ _ _ _ _ _) rfl (three_one _ _ _ _ _ _ _) ?_))
                  refine bodyPost_ret (results_cell_row_tmp (by rfl) _ _ (g + 1 + 1) 24 #[.bool false, .slice C1 x.length k1, .slice C2 y.length k2] (0, 0) _ _ (by rfl) (by rfl) (rheap_same HGB.out) Tryd.underlying24 rfl (HI3.out _ _ _ _ _ _ _)) rfl (MakeOut.of (by unfold Rt.mk; rw [← HXv.out, ← HYv.out, if_neg HY1.out, ← HE1.out, ← HE2.out, if_neg (by omega), HXB.out]; rfl) rfl (HT1.out.setRow HGB.out (three_no_int _ _ _ _ _ _ _) _) (HT3.out.setRow HGB.out (three_no_int _ _ _ _ _ _ _) _) (by rw [← HG.out]; exact rBelow.setRow hbw (by omega) _))
                · go_wp2_with (first
                    | (with_reducible refine wpList_store_row rfl 24 (.tmp 4) (.tmp 63) rfl (g + 1 + 1) #[.bool true, .slice C1 x.length k1, .slice C2 y.length k2] rfl rfl 24 #[.bool false, .slice none 0 0, .slice none 0 0] HGB.out (HI3.out _ _ _ _ _ _ _) rfl (three_one _ _ _ _ _ _ _) ?_))
                  refine bodyPost_ret (results_cell_row_tmp (by rfl) _ _ (g + 1 + 1) 24 #[.bool true, .slice C1 x.length k1, .slice C2 y.length k2] (0, 0) _ _ (by rfl) (by rfl) (rheap_same HGB.out) Tryd.underlying24 rfl (HI3.out _ _ _ _ _ _ _)) rfl (MakeOut.of (by unfold Rt.mk; rw [← HXv.out, ← HYv.out, if_neg HY1.out, ← HE1.out, ← HE2.out, if_neg (by omega), HXB.out]; rfl) rfl (HT1.out.setRow HGB.out (three_no_int _ _ _ _ _ _ _) _) (HT3.out.setRow HGB.out (three_no_int _ _ _ _ _ _ _) _) (by rw [← HG.out]; exact rBelow.setRow hbw (by omega) _))
              · cases n2
                · go_wp2_with (first
                    | (with_reducible refine wpList_store_row rfl 24 (.tmp 4) (.tmp 63) rfl (g + 1 + 1) #[.bool true, .slice C1 x.length k1, .slice C2 y.length k2] rfl rfl 24 #[.bool false, .slice none 0 0, .slice none 0 0] HGB.out (HI3.out _ _ _ _ _ _ _) rfl (three_one _ _ _ _ _ _ _) ?_))
                  refine bodyPost_ret (results_cell_row_tmp (by rfl) _ _ (g + 1 + 1) 24 #[.bool true, .slice C1 x.length k1, .slice C2 y.length k2] (0, 0) _ _ (by rfl) (by rfl) (rheap_same HGB.out) Tryd.underlying24 rfl (HI3.out _ _ _ _ _ _ _)) rfl (MakeOut.of (by unfold Rt.mk; rw [← HXv.out, ← HYv.out, if_neg HY1.out, ← HE1.out, ← HE2.out, if_neg (by omega), HXB.out]; rfl) rfl (HT1.out.setRow HGB.out (three_no_int _ _ _ _ _ _ _) _) (HT3.out.setRow HGB.out (three_no_int _ _ _ _ _ _ _) _) (by rw [← HG.out]; exact rBelow.setRow hbw (by omega) _))
                · go_wp2_with (first
                    | (with_reducible refine wpList_store_row rfl 24 (.tmp 4) (.tmp 63) rfl (g + 1 + 1) #[.bool false, .slice C1 x.length k1, .slice C2 y.length k2] rfl rfl 24 #[.bool false, .slice none 0 0, .slice none 0 0] HGB.out (HI3.out _ _ _ _ _ _ _) rfl (three_one _ _ _ _ _ _ _) ?_))
                  refine bodyPost_ret (results_cell_row_tmp (by rfl) _ _ (g + 1 + 1) 24 #[.bool false, .slice C1 x.length k1, .slice C2 y.length k2] (0, 0) _ _ (by rfl) (by rfl) (rheap_same HGB.out) Tryd.underlying24 rfl (HI3.out _ _ _ _ _ _ _)) rfl (MakeOut.of (by unfold Rt.mk; rw [← HXv.out, ← HYv.out, if_neg HY1.out, ← HE1.out, ← HE2.out, if_neg (by omega), HXB.out]; rfl) rfl (HT1.out.setRow HGB.out (three_no_int _ _ _ _ _ _ _) _) (HT3.out.setRow HGB.out (three_no_int _ _ _ _ _ _ _) _) (by rw [← HG.out]; exact rBelow.setRow hbw (by omega) _))
            · have g3 : decide ((0 : Int) < (x.length : Int)) = false := decide_eq_false (by omega)
              have HXB : Hid ((X == 0) = true) := Lib.hid (by have := HX0.out; simp; omega)
              go_wp2_with (first
                | (with_reducible refine wpList_store_row rfl 24 (.tmp 4) (.tmp 63) rfl (g + 1 + 1) #[.bool false, .slice C1 x.length k1, .slice C2 y.length k2] rfl rfl 24 #[.bool false, .slice none 0 0, .slice none 0 0] HGB.out (HI3.out _ _ _ _ _ _ _) rfl (three_one _ _ _ _ _ _ _) ?_))
              refine bodyPost_ret (results_cell_row_tmp (by rfl) _ _ (g + 1 + 1) 24 #[.bool false, .slice C1 x.length k1, .slice C2 y.length k2] (0, 0) _ _ (by rfl) (by rfl) (rheap_same HGB.out) Tryd.underlying24 rfl (HI3.out _ _ _ _ _ _ _)) rfl (MakeOut.of (by unfold Rt.mk; rw [← HXv.out, ← HYv.out, if_neg HY1.out, ← HE1.out, ← HE2.out, if_neg (by omega), HXB.out]; rfl) rfl (HT1.out.setRow HGB.out (three_no_int _ _ _ _ _ _ _) _) (HT3.out.setRow HGB.out (three_no_int _ _ _ _ _ _ _) _) (by rw [← HG.out]; exact rBelow.setRow hbw (by omega) _))
      · have q : (y == [1]) = false := beq_eq_false_iff_ne.2 hy1
        have I1 := isOne_any _ _ w1 HR2.out
        rw [q] at I1
        have HI1 := Lib.hid I1
        have hvx : Nt.val x = X := by rw [HX2.out, Nt.val_digs]
        have hvy : Nt.val y = Y := by rw [HY2.out, Nt.val_digs]
        have HVX := Lib.hid hvx
        have HVY := Lib.hid hvy
        obtain ⟨G, hG⟩ : ∃ G, G = Nat.gcd X Y := ⟨_, rfl⟩
        have GC := pGcd_res HR1.out HR2.out OX OY (by omega) (by omega)
        rw [hvx, hvy, ← hG] at GC
        have HGC := Lib.hid GC
        have HGG := Lib.hid hG
        have HG0 : Hid (G ≠ 0) := Lib.hid (by rw [hG]; have := Nat.gcd_pos_of_pos_right X (Nat.pos_of_ne_zero HY1.out); omega)
        have hGl : (Nt.digs G).length ≤ 1000000 := by
          have := Nt.digs_len_le_of (show G ≤ Y by rw [hG]; exact Nat.le_of_dvd (Nat.pos_of_ne_zero HY1.out) (Nat.gcd_dvd_right X Y))
          rw [← HY2.out] at this
          omega
        have hgl1 := blk_lt HGA.out
        clear hy1 q I1 hvx hvy GC hG
        go_wp2_with fail
        refine HI1.out.mono ?_
        rintro e w2 ⟨rfl, rfl⟩
        clear HI1
        go_wp2_with fail
        refine HGC.out.mono ?_
        rintro e w2 ⟨v3, rfl, hr3, hb3⟩
        have HR3 := Lib.hid hr3
        have HR1b := Lib.hid (HR1.out.below hb3)
        have HR2b := Lib.hid (HR2.out.below hb3)
        have HGA2 := Lib.hid ((hb3.block (g + 1 + 1) (by omega)).trans HGA.out)
        have hxw2 : Below g w w2 := hxw.trans (hb3.mono (by omega))
        have P0 := Lib.hid ((hb3.cell (p := ⟨g, 0, none⟩) (show g < _ by omega)).trans p0)
        have P0' := Lib.hid ((hb3.cell (p := ⟨g + 1, 0, none⟩) (show g + 1 < _ by omega)).trans p0')
        have I3 := isOne_any v3 (Nt.digs G) w2 hr3
        rw [one_digs] at I3
        have HI3' := Lib.hid I3
        have hs3 := hb3.size
        have hgl2 : g + 1 + 1 < w2.heap.size := by omega
        clear hr3 hb3 p0 p0' I3 HGC HGA hxw
        by_cases hg1 : G = 1
        · have q3 : (G == 1) = true := by rw [hg1]; rfl
          rw [q3] at HI3'
          have HE1 : Hid (x = Nt.digs (X / Nat.gcd X Y)) := Lib.hid (by rw [← HGG.out, hg1, Nat.div_one]; exact HX2.out)
          have HE2 : Hid (y = Nt.digs (Y / Nat.gcd X Y)) := Lib.hid (by rw [← HGG.out, hg1, Nat.div_one]; exact HY2.out)
          clear hg1 q3
          go_wp2_with fail
          refine HI3'.out.mono ?_
          rintro e w3 ⟨rfl, rfl⟩
          have HGB := HGA2
          have hbw := hxw2
          have HT1 := HR1b
          have HT3 := HR2b
          have p0 := P0.out
          have p0' := P0'.out
          clear HGA2 hxw2 HI3' P0 P0'
          have HX0 : Hid (x.length = 0 ↔ X = 0) := Lib.hid (by rw [HE1.out, List.length_eq_zero_iff, Nt.digs_nil_iff]; exact Rt.div_gcd_zero HY1.out)
          by_cases h32 : 32 < x.length
          · have g1 : decide ((32 : Int) < (x.length : Int)) = true := by simp; omega
            go_wp2_with (first
              | (with_reducible refine wpList_store_row rfl 24 (.tmp 4) (.tmp 50) rfl (g + 1 + 1) #[.bool false, .slice none 0 0, .slice none 0 0] rfl rfl 24 #[.bool false, .slice none 0 0, .slice none 0 0] HGB.out (HI3.out _ _ _ _ _ _ _) rfl (three_one _ _ _ _ _ _ _) ?_))
            refine bodyPost_ret (results_cell_row_tmp (by rfl) _ _ (g + 1 + 1) 24 #[.bool false, .slice none 0 0, .slice none 0 0] (0, 0) _ _ (by rfl) (by rfl) (rheap_same HGB.out) Tryd.underlying24 rfl (HI3.out _ _ _ _ _ _ _)) rfl (MakeOut.of (by unfold Rt.mk; rw [← HXv.out, ← HYv.out, if_neg HY1.out, ← HE1.out, ← HE2.out, if_pos (by omega)]; rfl) rfl (isRes_nil _) (isRes_nil _) (by rw [← HG.out]; exact rBelow.setRow hbw (by omega) _))
          · by_cases h33 : 32 < y.length
            · have g1 : decide ((32 : Int) < (x.length : Int)) = false := by simp; omega
              have g2 : decide ((32 : Int) < (y.length : Int)) = true := by simp; omega
              go_wp2_with (first
                | (with_reducible refine wpList_store_row rfl 24 (.tmp 4) (.tmp 50) rfl (g + 1 + 1) #[.bool false, .slice none 0 0, .slice none 0 0] rfl rfl 24 #[.bool false, .slice none 0 0, .slice none 0 0] HGB.out (HI3.out _ _ _ _ _ _ _) rfl (three_one _ _ _ _ _ _ _) ?_))
              refine bodyPost_ret (results_cell_row_tmp (by rfl) _ _ (g + 1 + 1) 24 #[.bool false, .slice none 0 0, .slice none 0 0] (0, 0) _ _ (by rfl) (by rfl) (rheap_same HGB.out) Tryd.underlying24 rfl (HI3.out _ _ _ _ _ _ _)) rfl (MakeOut.of (by unfold Rt.mk; rw [← HXv.out, ← HYv.out, if_neg HY1.out, ← HE1.out, ← HE2.out, if_pos (by omega)]; rfl) rfl (isRes_nil _) (isRes_nil _) (by rw [← HG.out]; exact rBelow.setRow hbw (by omega) _))
            · have g1 : decide ((32 : Int) < (x.length : Int)) = false := by simp; omega
              have g2 : decide ((32 : Int) < (y.length : Int)) = false := by simp; omega
              by_cases h34 : 0 < x.length
              · have g3 : decide ((0 : Int) < (x.length : Int)) = true := decide_eq_true (by omega)
                have HXB : Hid ((X == 0) = false) := Lib.hid (by have := HX0.out; simp; omega)
                cases n1
                · cases n2
                  · go_wp2_with (first
                      | (with_reducible refine wpList_store_row rfl 24 (.tmp 4) (.tmp 63) rfl (g + 1 + 1) #[.bool false, .slice C1 x.length k1, .slice C2 y.length k2] rfl rfl 24 #[.bool false, .slice none 0 0, .slice none 0 0] HGB.out (HI3.out _ _ _ _ _ _ _) rfl (three_one _ _ _ _ _ _ _) ?_))
                    refine bodyPost_ret (results_cell_row_tmp (by rfl) _ _ (g + 1 + 1) 24 #[.bool false, .slice C1 x.length k1, .slice C2 y.length k2] (0, 0) _ _ (by rfl) (by rfl) (rheap_same HGB.out) Tryd.underlying24 rfl (HI3.out _ _ _ _ _ _ _)) rfl (MakeOut.of (by unfold Rt.mk; rw [← HXv.out, ← HYv.out, if_neg HY1.out, ← HE1.out, ← HE2.out, if_neg (by omega), HXB.out]; rfl) rfl (HT1.out.setRow HGB.out (three_no_int _ _ _ _ _ _ _) _) (HT3.out.setRow HGB.out (three_no_int _ _ _ _ _ _ _) _) (by rw [← HG.out]; exact rBelow.setRow hbw (by omega) _))
                  · go_wp2_with (first
                      | (with_reducible refine wpList_store_row rfl 24 (.tmp 4) (.tmp 63) rfl (g + 1 + 1) #[.bool true, .slice C1 x.length k1, .slice C2 y.length k2] rfl rfl 24 #[.bool false, .slice none 0 0, .slice none 0 0] HGB.out (HI3.out _ _ _ _ _ _ _) rfl (three_one _ _ _ _ _ _ _) ?_))
                    refine bodyPost_ret (results_cell_row_tmp (by rfl) _ _ (g + 1 + 1) 24 #[.bool true, .slice C1 x.length k1, .slice C2 y.length k2] (0, 0) _ _ (by rfl) (by rfl) (rheap_same HGB.out) Tryd.underlying24 rfl (HI3.out _ _ _ _ _ _ _)) rfl (MakeOut.of (by unfold Rt.mk; rw [← HXv.out, ← HYv.out, if_neg HY1.out, ← HE1.out, ← HE2.out, if_neg (by omega), HXB.out]; rfl) rfl (HT1.out.setRow HGB.out (three_no_int _ _ _ _ _ _ _) _) (HT3.out.setRow HGB.out (three_no_int _ _ _ _ _ _ _) _) (by rw [← HG.out]; exact rBelow.setRow hbw (by omega) _))
                · cases n2
                  · go_wp2_with (first
                      | (with_reducible refine wpList_store_row rfl 24 (.tmp 4) (.tmp 63) rfl (g + 1 + 1) #[.bool true, .slice C1 x.length k1, .slice C2 y.length k2] rfl rfl 24 #[.bool false, .slice none 0 0, .slice none 0 0] HGB.out (HI3.out _ _ _ _ _ _ _) rfl (three_one _ _ _ _ _ _ _) ?_))
                    refine bodyPost_ret (results_cell_row_tmp (by rfl) _ _ (g + 1 + 1) 24 #[.bool true, .slice C1 x.length k1, .slice C2 y.length k2] (0, 0) _ _ (by rfl) (by rfl) (rheap_same HGB.out) Tryd.underlying24 rfl (HI3.out _ _ _ _ _ _ _)) rfl (MakeOut.of (by unfold Rt.mk; rw [← HXv.out, ← HYv.out, if_neg HY1.out, ← HE1.out, ← HE2.out, if_neg (by omega), HXB.out]; rfl) rfl (HT1.out.setRow HGB.out (three_no_int _ _ _ _ _ _ _) _) (HT3.out.setRow HGB.out (three_no_int _ _ _ _ _ _ _) _) (by rw [← HG.out]; exact rBelow.setRow hbw (by omega) _))
                  · go_wp2_with (first
                      | (with_reducible refine wpList_store_row rfl 24 (.tmp 4) (.tmp 63) rfl (g + 1 + 1) #[.bool false, .slice C1 x.length k1, .slice C2 y.length k2] rfl rfl 24 #[.bool false, .slice none 0 0, .slice none 0 0] HGB.out (HI3.out _ _ _ _ _ _ _) rfl (three_one _ _ _ _ _ _ _) ?_))
                    refine bodyPost_ret (results_cell_row_tmp (by rfl) _ _ (g + 1 + 1) 24 #[.bool false, .slice C1 x.length k1, .slice C2 y.length k2] (0, 0) _ _ (by rfl) (by rfl) (rheap_same HGB.out) Tryd.underlying24 rfl (HI3.out _ _ _ _ _ _ _)) rfl (MakeOut.of (by unfold Rt.mk; rw [← HXv.out, ← HYv.out, if_neg HY1.out, ← HE1.out, ← HE2.out, if_neg (by omega), HXB.out]; rfl) rfl (HT1.out.setRow HGB.out (three_no_int _ _ _ _ _ _ _) _) (HT3.out.setRow HGB.out (three_no_int _ _ _ _ _ _ _) _) (by rw [← HG.out]; exact rBelow.setRow hbw (by omega) _))
              · have g3 : decide ((0 : Int) < (x.length : Int)) = false := decide_eq_false (by omega)
                have HXB : Hid ((X == 0) = true) := Lib.hid (by have := HX0.out; simp; omega)
                go_wp2_with (first
                  | (with_reducible refine wpList_store_row rfl 24 (.tmp 4) (.tmp 63) rfl (g + 1 + 1) #[.bool false, .slice C1 x.length k1, .slice C2 y.length k2] rfl rfl 24 #[.bool false, .slice none 0 0, .slice none 0 0] HGB.out (HI3.out _ _ _ _ _ _ _) rfl (three_one _ _ _ _ _ _ _) ?_))
                refine bodyPost_ret (results_cell_row_tmp (by rfl) _ _ (g + 1 + 1) 24 #[.bool false, .slice C1 x.length k1, .slice C2 y.length k2] (0, 0) _ _ (by rfl) (by rfl) (rheap_same HGB.out) Tryd.underlying24 rfl (HI3.out _ _ _ _ _ _ _)) rfl (MakeOut.of (by unfold Rt.mk; rw [← HXv.out, ← HYv.out, if_neg HY1.out, ← HE1.out, ← HE2.out, if_neg (by omega), HXB.out]; rfl) rfl (HT1.out.setRow HGB.out (three_no_int _ _ _ _ _ _ _) _) (HT3.out.setRow HGB.out (three_no_int _ _ _ _ _ _ _) _) (by rw [← HG.out]; exact rBelow.setRow hbw (by omega) _))
        · have q3 : (G == 1) = false := beq_eq_false_iff_ne.2 hg1
          rw [q3] at HI3'
          have DM := pDivMod_res HR1b.out HR3.out OX (Nt.ok_digs G) (by omega) hGl
          rw [HVX.out, Nt.val_digs] at DM
          have HDM := Lib.hid DM
          clear hg1 q3 DM
          go_wp2_with fail
          refine HI3'.out.mono ?_
          rintro e w3 ⟨rfl, rfl⟩
          clear HI3'
          go_wp2_with fail
          refine HDM.out.mono ?_
          rintro e w4 ⟨u1, u2, rfl, t1, t2, hb4⟩
          have HT1a := Lib.hid t1
          have DN := pDivMod_res (HR2b.out.below hb4) (HR3.out.below hb4) OY (Nt.ok_digs G) (by omega) hGl
          rw [HVY.out, Nt.val_digs] at DN
          have HDN := Lib.hid DN
          have HGA3 := Lib.hid ((hb4.block (g + 1 + 1) (by omega)).trans HGA2.out)
          have hxw3 : Below g w w4 := hxw2.trans (hb4.mono (by omega))
          have P1 := Lib.hid ((hb4.cell (p := ⟨g, 0, none⟩) (show g < _ by omega)).trans P0.out)
          have P1' := Lib.hid ((hb4.cell (p := ⟨g + 1, 0, none⟩) (show g + 1 < _ by omega)).trans P0'.out)
          have hs4 := hb4.size
          clear t1 t2 hb4 DN HDM HGA2 hxw2 P0 P0' HR1b HR2b
          go_wp2_with fail
          refine HDN.out.mono ?_
          rintro e w5 ⟨u3, u4, rfl, t3, t4, hb5⟩
          have HGB := Lib.hid ((hb5.block (g + 1 + 1) (by omega)).trans HGA3.out)
          have hbw : Below g w w5 := hxw3.trans (hb5.mono (by omega))
          have P2 := Lib.hid ((hb5.cell (p := ⟨g, 0, none⟩) (show g < _ by omega)).trans P1.out)
          have P2' := Lib.hid ((hb5.cell (p := ⟨g + 1, 0, none⟩) (show g + 1 < _ by omega)).trans P1'.out)
          have hT1 := HT1a.out.below hb5
          obtain ⟨e1, he1⟩ : ∃ e1, e1 = Nt.digs (Nt.quo X G) := ⟨_, rfl⟩
          obtain ⟨e2, he2⟩ : ∃ e2, e2 = Nt.digs (Nt.quo Y G) := ⟨_, rfl⟩
          rw [← he1] at hT1
          rw [← he2] at t3
          rw [HGG.out] at he1 he2
          have HE1 : Hid (e1 = Nt.digs (X / Nat.gcd X Y)) := Lib.hid he1
          have HE2 : Hid (e2 = Nt.digs (Y / Nat.gcd X Y)) := Lib.hid he2
          have HT1 := Lib.hid hT1
          have HT3 := Lib.hid t3
          clear he1 he2 hT1 t3 t4 hb5 HDN HGA3 hxw3 P1 P1' HT1a
          have HX0 : Hid (e1.length = 0 ↔ X = 0) := Lib.hid (by rw [HE1.out, List.length_eq_zero_iff, Nt.digs_nil_iff]; exact Rt.div_gcd_zero HY1.out)
          obtain ⟨B1, a1, rfl, -⟩ := HT1.out
          obtain ⟨B2, a2, rfl, -⟩ := HT3.out
          have p0 := P2.out
          have p0' := P2'.out
          clear P2 P2'
          by_cases h32 : 32 < e1.length
          · have g1 : decide ((32 : Int) < (e1.length : Int)) = true := by simp; omega
            go_wp2_with (first
              | (with_reducible refine wpList_store_row rfl 24 (.tmp 4) (.tmp 50) rfl (g + 1 + 1) #[.bool false, .slice none 0 0, .slice none 0 0] rfl rfl 24 #[.bool false, .slice none 0 0, .slice none 0 0] HGB.out (HI3.out _ _ _ _ _ _ _) rfl (three_one _ _ _ _ _ _ _) ?_))
            refine bodyPost_ret (results_cell_row_tmp (by rfl) _ _ (g + 1 + 1) 24 #[.bool false, .slice none 0 0, .slice none 0 0] (0, 0) _ _ (by rfl) (by rfl) (rheap_same HGB.out) Tryd.underlying24 rfl (HI3.out _ _ _ _ _ _ _)) rfl (MakeOut.of (by unfold Rt.mk; rw [← HXv.out, ← HYv.out, if_neg HY1.out, ← HE1.out, ← HE2.out, if_pos (by omega)]; rfl) rfl (isRes_nil _) (isRes_nil _) (by rw [← HG.out]; exact rBelow.setRow hbw (by omega) _))
          · by_cases h33 : 32 < e2.length
            · have g1 : decide ((32 : Int) < (e1.length : Int)) = false := by simp; omega
              have g2 : decide ((32 : Int) < (e2.length : Int)) = true := by simp; omega
              go_wp2_with (first
                | (with_reducible refine wpList_store_row rfl 24 (.tmp 4) (.tmp 50) rfl (g + 1 + 1) #[.bool false, .slice none 0 0, .slice none 0 0] rfl rfl 24 #[.bool false, .slice none 0 0, .slice none 0 0] HGB.out (HI3.out _ _ _ _ _ _ _) rfl (three_one _ _ _ _ _ _ _) ?_))
              refine bodyPost_ret (results_cell_row_tmp (by rfl) _ _ (g + 1 + 1) 24 #[.bool false, .slice none 0 0, .slice none 0 0] (0, 0) _ _ (by rfl) (by rfl) (rheap_same HGB.out) Tryd.underlying24 rfl (HI3.out _ _ _ _ _ _ _)) rfl (MakeOut.of (by unfold Rt.mk; rw [← HXv.out, ← HYv.out, if_neg HY1.out, ← HE1.out, ← HE2.out, if_pos (by omega)]; rfl) rfl (isRes_nil _) (isRes_nil _) (by rw [← HG.out]; exact rBelow.setRow hbw (by omega) _))
            · have g1 : decide ((32 : Int) < (e1.length : Int)) = false := by simp; omega
              have g2 : decide ((32 : Int) < (e2.length : Int)) = false := by simp; omega
              by_cases h34 : 0 < e1.length
              · have g3 : decide ((0 : Int) < (e1.length : Int)) = true := decide_eq_true (by omega)
                have HXB : Hid ((X == 0) = false) := Lib.hid (by have := HX0.out; simp; omega)
                cases n1
                · cases n2
                  · go_wp2_with (first
                      | (with_reducible refine wpList_store_row rfl 24 (.tmp 4) (.tmp 63) rfl (g + 1 + 1) #[.bool false, .slice B1 e1.length a1, .slice B2 e2.length a2] rfl rfl 24 #[.bool false, .slice none 0 0, .slice none 0 0] HGB.out (HI3.out _ _ _ _ _ _ _) rfl (three_one _ _ _ _ _ _ _) ?_))
                    refine bodyPost_ret (results_cell_row_tmp (by rfl) _ _ (g + 1 + 1) 24 #[.bool false, .slice B1 e1.length a1, .slice B2 e2.length a2] (0, 0) _ _ (by rfl) (by rfl) (rheap_same HGB.out) Tryd.underlying24 rfl (HI3.out _ _ _ _ _ _ _)) rfl (MakeOut.of (by unfold Rt.mk; rw [← HXv.out, ← HYv.out, if_neg HY1.out, ← HE1.out, ← HE2.out, if_neg (by omega), HXB.out]; rfl) rfl (HT1.out.setRow HGB.out (three_no_int _ _ _ _ _ _ _) _) (HT3.out.setRow HGB.out (three_no_int _ _ _ _ _ _ _) _) (by rw [← HG.out]; exact rBelow.setRow hbw (by omega) _))
                  · go_wp2_with (first
                      | (with_reducible refine wpList_store_row rfl 24 (.tmp 4) (.tmp 63) rfl (g + 1 + 1) #[.bool true, .slice B1 e1.length a1, .slice B2 e2.length a2] rfl rfl 24 #[.bool false, .slice none 0 0, .slice none 0 0] HGB.out (HI3.out _ _ _ _ _ _ _) rfl (three_one _ _ _ _ _ _ _) ?_))
                    refine bodyPost_ret (results_cell_row_tmp (by rfl) _ _ (g + 1 + 1) 24 #[.bool true, .slice B1 e1.length a1, .slice B2 e2.length a2] (0, 0) _ _ (by rfl) (by rfl) (rheap_same HGB.out) Tryd.underlying24 rfl (HI3.out _ _ _ _ _ _ _)) rfl (MakeOut.of (by unfold Rt.mk; rw [← HXv.out, ← HYv.out, if_neg HY1.out, ← HE1.out, ← HE2.out, if_neg (by omega), HXB.out]; rfl) rfl (HT1.out.setRow HGB.out (three_no_int _ _ _ _ _ _ _) _) (HT3.out.setRow HGB.out (three_no_int _ _ _ _ _ _ _) _) (by rw [← HG.out]; exact rBelow.setRow hbw (by omega) _))
                · cases n2
                  · go_wp2_with (first
                      | (with_reducible refine wpList_store_row rfl 24 (.tmp 4) (.tmp 63) rfl (g + 1 + 1) #[.bool true, .slice B1 e1.length a1, .slice B2 e2.length a2] rfl rfl 24 #[.bool false, .slice none 0 0, .slice none 0 0] HGB.out (HI3.out _ _ _ _ _ _ _) rfl (three_one _ _ _ _ _ _ _) ?_))
                    refine bodyPost_ret (results_cell_row_tmp (by rfl) _ _ (g + 1 + 1) 24 #[.bool true, .slice B1 e1.length a1, .slice B2 e2.length a2] (0, 0) _ _ (by rfl) (by rfl) (rheap_same HGB.out) Tryd.underlying24 rfl (HI3.out _ _ _ _ _ _ _)) rfl (MakeOut.of (by unfold Rt.mk; rw [← HXv.out, ← HYv.out, if_neg HY1.out, ← HE1.out, ← HE2.out, if_neg (by omega), HXB.out]; rfl) rfl (HT1.out.setRow HGB.out (three_no_int _ _ _ _ _ _ _) _) (HT3.out.setRow HGB.out (three_no_int _ _ _ _ _ _ _) _) (by rw [← HG.out]; exact rBelow.setRow hbw (by omega) _))
                  · go_wp2_with (first
                      | (with_reducible refine wpList_store_row rfl 24 (.tmp 4) (.tmp 63) rfl (g + 1 + 1) #[.bool false, .slice B1 e1.length a1, .slice B2 e2.length a2] rfl rfl 24 #[.bool false, .slice none 0 0, .slice none 0 0] HGB.out (HI3.out _ _ _ _ _ _ _) rfl (three_one _ _ _ _ _ _ _) ?_))
                    refine bodyPost_ret (results_cell_row_tmp (by rfl) _ _ (g + 1 + 1) 24 #[.bool false, .slice B1 e1.length a1, .slice B2 e2.length a2] (0, 0) _ _ (by rfl) (by rfl) (rheap_same HGB.out) Tryd.underlying24 rfl (HI3.out _ _ _ _ _ _ _)) rfl (MakeOut.of (by unfold Rt.mk; rw [← HXv.out, ← HYv.out, if_neg HY1.out, ← HE1.out, ← HE2.out, if_neg (by omega), HXB.out]; rfl) rfl (HT1.out.setRow HGB.out (three_no_int _ _ _ _ _ _ _) _) (HT3.out.setRow HGB.out (three_no_int _ _ _ _ _ _ _) _) (by rw [← HG.out]; exact rBelow.setRow hbw (by omega) _))
              · have g3 : decide ((0 : Int) < (e1.length : Int)) = false := decide_eq_false (by omega)
                have HXB : Hid ((X == 0) = true) := Lib.hid (by have := HX0.out; simp; omega)
                go_wp2_with (first
                  | (with_reducible refine wpList_store_row rfl 24 (.tmp 4) (.tmp 63) rfl (g + 1 + 1) #[.bool false, .slice B1 e1.length a1, .slice B2 e2.length a2] rfl rfl 24 #[.bool false, .slice none 0 0, .slice none 0 0] HGB.out (HI3.out _ _ _ _ _ _ _) rfl (three_one _ _ _ _ _ _ _) ?_))
                refine bodyPost_ret (results_cell_row_tmp (by rfl) _ _ (g + 1 + 1) 24 #[.bool false, .slice B1 e1.length a1, .slice B2 e2.length a2] (0, 0) _ _ (by rfl) (by rfl) (rheap_same HGB.out) Tryd.underlying24 rfl (HI3.out _ _ _ _ _ _ _)) rfl (MakeOut.of (by unfold Rt.mk; rw [← HXv.out, ← HYv.out, if_neg HY1.out, ← HE1.out, ← HE2.out, if_neg (by omega), HXB.out]; rfl) rfl (HT1.out.setRow HGB.out (three_no_int _ _ _ _ _ _ _) _) (HT3.out.setRow HGB.out (three_no_int _ _ _ _ _ _ _) _) (by rw [← HG.out]; exact rBelow.setRow hbw (by omega) _))
end Go.Proofs.YtfiefglagknclaaDoor

/-
  By the reference: whole numbers multiplied (scrimref03.Mul); numbers multiplied and divided (scrimref04.Mul, Div), scrimref04.Whole, Of. (Printed by wip/bin/gen_dig13.py.)
-/
namespace Go.Proofs.YtfiefglagknclaaDoor
open Go.RowKit
set_option maxHeartbeats 4000000
set_option maxRecDepth 100000
set_option linter.unusedVariables false

theorem setRow2 {w : World} {g : Nat} {t : TypeId} {x y : Value} (h : w.heap[g]? = some (.cells #[x, y] t (0, 0))) (a b : Value) : (w.setCell ⟨g, 0, none⟩ a).setCell ⟨g, 1, none⟩ b = w.setRow g #[a, b] := by
  obtain ⟨heap, os, tape, output, drawn⟩ := w
  simp only [World.setCell, World.setRow] at h ⊢
  congr 1
  apply Array.ext_getElem?
  intro i
  simp only [Array.getElem?_modify]
  by_cases e : g = i
  · subst e
    simp [h]
  · simp [e]
theorem setRow3' {w : World} {g : Nat} {t : TypeId} {x y z : Value} (h : w.heap[g]? = some (.cells #[x, y, z] t (0, 0))) (a b c : Value) : ((w.setCell ⟨g, 0, none⟩ a).setCell ⟨g, 1, none⟩ b).setCell ⟨g, 2, none⟩ c = w.setRow g #[a, b, c] := by
  obtain ⟨heap, os, tape, output, drawn⟩ := w
  simp only [World.setCell, World.setRow] at h ⊢
  congr 1
  apply Array.ext_getElem?
  intro i
  simp only [Array.getElem?_modify]
  by_cases e : g = i
  · subst e
    simp [h]
  · simp [e]
theorem res_slice {w : World} {v : Value} {l : List Nat} (h : IsRes w v l) : ∃ A c, v = .slice A l.length c := by obtain ⟨A, c, e, -⟩ := h; exact ⟨A, c, e⟩

def frameMU (g : Nat) (P Q : Array Value) (xs : Nat → Value) : Act := { tmps := #[.agg P, .agg Q, .pointer (some ⟨g, 0, none⟩), .pointer (some ⟨g + 1, 0, none⟩), .pointer (some ⟨g + 1 + 1, 0, none⟩), xs 0, xs 1, xs 2, xs 3, xs 4, xs 5, xs 6, xs 7, xs 8, xs 9, xs 10, xs 11, xs 12, xs 13, xs 14, xs 15], defers := [] }
def predMU (g : Nat) (V1 V2 : Value) (n1 n2 b1 b2 R : Bool) (dx dy D : List Nat) : Nat → World → Value → Prop
  | 0, w, v => v = .agg #[.bool n1, V1]
  | 1, w, v => ∃ A c, v = .agg #[.bool b1, .slice A dx.length c]
  | 2, w, v => v = .bool b1
  | 3, w, v => v = .agg #[.bool n2, V2]
  | 4, w, v => ∃ A c, v = .agg #[.bool b2, .slice A dy.length c]
  | 5, w, v => v = .bool b2
  | 6, w, v => v = .bool (!(b1 == b2))
  | 7, w, v => v = .pointer (some ⟨g, 1, none⟩)
  | 8, w, v => v = V1
  | 9, w, v => IsRes w v dx
  | 10, w, v => v = .pointer (some ⟨g + 1, 1, none⟩)
  | 11, w, v => v = V2
  | 12, w, v => IsRes w v dy
  | 13, w, v => ResL w v D
  | 14, w, v => ∃ u, v = .agg #[.bool (!(b1 == b2)), u] ∧ ResL w u D
  | _, w, v => ∃ u, v = .agg #[.bool R, u] ∧ ResL w u D
theorem field_int3 (b : Bool) (A : Option Addr) (k c : Nat) (w : World) : (Instr.field 55 (.agg #[.bool b, .slice A k c]) 0).run Tryd.prog w = .ok (.bool b) w := by kernel_rfl
end Go.Proofs.YtfiefglagknclaaDoor

/-
  By the reference: numbers that are not below 0 multiplied and divided (scrimref04.Mul, Div). (Printed by wip/bin/gen_dig14.py.)
-/
namespace Go.Proofs.YtfiefglagknclaaDoor
open Go.RowKit
set_option maxHeartbeats 4000000
set_option maxRecDepth 100000
set_option linter.unusedVariables false

theorem grown_setRow (w : World) (g : Nat) (cs : Array Value) : w.grownBy (w.setRow g cs) (some g) :=
  ⟨rfl, rfl, rfl, by simp [World.setRow], fun k hk hne => rheap_far (fun e => hne (by rw [e]))⟩
theorem nrm_false (x : Nat) : Rt.nrm false x = false := by unfold Rt.nrm; simp
/-- A whole number that is not below 0. -/
def Nat3 (w : World) (v : Value) (x : Nat) : Prop := ∃ u, v = .agg #[.bool false, u] ∧ ResL w u (Nt.digs x)
theorem Nat3.below {w w' : World} {v : Value} {x : Nat} (h : Nat3 w v x) (hb : Below w.heap.size w w') : Nat3 w' v x := by obtain ⟨u, e, r⟩ := h; exact ⟨u, e, r.below hb⟩
theorem Nat3.setRow {w : World} {v : Value} {x g : Nat} {old : Array Value} {t : TypeId} (h : Nat3 w v x) (hg : w.heap[g]? = some (.cells old t (0, 0))) (ho : ∀ (i : Nat) (k : IntKind) (n : Int), old[i]? ≠ some (Value.int k n)) (cs : Array Value) : Nat3 (w.setRow g cs) v x := by
  obtain ⟨u, e, r⟩ := h; exact ⟨u, e, r.setRow hg ho cs⟩
theorem makeN_any (v1 v2 : Value) (x y : Nat) (w : World) (h1 : Nat3 w v1 x) (h2 : Nat3 w v2 y) :
    Calls Tryd.prog 24 #[v1, v2] w (MakeOut w (Rt.mk false false x y)) := by
  obtain ⟨u1, rfl, r1⟩ := h1
  obtain ⟨u2, rfl, r2⟩ := h2
  have := make_any false false u1 u2 _ _ w r1 r2
  rwa [Nt.val_digs, Nt.val_digs] at this
theorem topN_any (v1 v2 : Value) (l1 l2 : List Nat) (w : World) (h1 : ResL w v1 l1) (h2 : ResL w v2 l2) :
    Calls Tryd.prog 25 #[.agg #[.bool false, v1, v2]] w fun e w' => ∃ v, e = .returned v ∧ Nat3 w' v (Nt.val l1) ∧ Below w.heap.size w w' := by
  refine (top_any false v1 v2 l1 l2 w h1 h2).mono ?_
  rintro e w' ⟨v, rfl, hr, hb⟩
  rw [nrm_false]
  exact ⟨_, rfl, ⟨v, rfl, hr⟩, hb⟩
theorem botN_any (v1 v2 : Value) (l1 l2 : List Nat) (w : World) (h1 : ResL w v1 l1) (h2 : ResL w v2 l2) :
    Calls Tryd.prog 26 #[.agg #[.bool false, v1, v2]] w fun e w' => ∃ v, e = .returned v ∧ Nat3 w' v (Nt.val l2) ∧ Below w.heap.size w w' := by
  refine (bot_any false v1 v2 l1 l2 w h1 h2).mono ?_
  rintro e w' ⟨v, rfl, hr, hb⟩
  rw [nrm_false]
  exact ⟨_, rfl, ⟨v, rfl, hr⟩, hb⟩
/-- What the result's cell holds behind the store. -/
def Kept (r : Rt.Nm × Int) (g : Nat) (w : World) : Prop := ∃ t u, w.heap[g]? = some (.cells #[.bool r.1.neg, t, u] 24 (0, 0)) ∧ IsRes w t r.1.top ∧ IsRes w u r.1.bot
def frameRMul (g : Nat) (P Q : Array Value) (xs : Nat → Value) : Act := { tmps := #[.agg P, .agg Q, .pointer (some ⟨g, 0, none⟩), .pointer (some ⟨g + 1, 0, none⟩), .pointer (some ⟨g + 1 + 1, 0, none⟩), xs 14, xs 0, xs 1, xs 2, xs 3, xs 4, xs 5, xs 6, xs 7, xs 8, xs 9, xs 10, xs 11, xs 12], defers := [] }
def predRMul (g : Nat) (V1 V2 V3 V4 : Value) (a1 a2 b1 b2 : Nat) (r : Rt.Nm × Int) : Nat → World → Value → Prop
  | 0, w, v => v = .agg #[.bool false, V1, V2]
  | 1, w, v => Nat3 w v a1
  | 2, w, v => v = .agg #[.bool false, V3, V4]
  | 3, w, v => Nat3 w v b1
  | 4, w, v => Nat3 w v (a1 * b1)
  | 5, w, v => v = .agg #[.bool false, V1, V2]
  | 6, w, v => Nat3 w v a2
  | 7, w, v => v = .agg #[.bool false, V3, V4]
  | 8, w, v => Nat3 w v b2
  | 9, w, v => Nat3 w v (a2 * b2)
  | 10, w, v => ∃ t u, v = .tuple #[.agg #[.bool r.1.neg, t, u], .int .i64 r.2] ∧ IsRes w t r.1.top ∧ IsRes w u r.1.bot
  | 11, w, v => ∃ t u, v = .agg #[.bool r.1.neg, t, u] ∧ IsRes w t r.1.top ∧ IsRes w u r.1.bot
  | 12, w, v => v = .int .i64 r.2
  | 13, w, v => True
  | _, w, v => v = .int .i64 r.2

def frameRDiv (g : Nat) (P Q : Array Value) (xs : Nat → Value) : Act := { tmps := #[.agg P, .agg Q, .pointer (some ⟨g, 0, none⟩), .pointer (some ⟨g + 1, 0, none⟩), .pointer (some ⟨g + 1 + 1, 0, none⟩), xs 14, xs 0, xs 1, xs 2, xs 3, xs 4, xs 5, xs 6, xs 7, xs 8, xs 9, xs 10, xs 11, xs 12], defers := [] }
def predRDiv (g : Nat) (V1 V2 V3 V4 : Value) (a1 a2 b1 b2 : Nat) (r : Rt.Nm × Int) : Nat → World → Value → Prop
  | 0, w, v => v = .agg #[.bool false, V1, V2]
  | 1, w, v => Nat3 w v a1
  | 2, w, v => v = .agg #[.bool false, V3, V4]
  | 3, w, v => Nat3 w v b2
  | 4, w, v => Nat3 w v (a1 * b2)
  | 5, w, v => v = .agg #[.bool false, V1, V2]
  | 6, w, v => Nat3 w v a2
  | 7, w, v => v = .agg #[.bool false, V3, V4]
  | 8, w, v => Nat3 w v b1
  | 9, w, v => Nat3 w v (a2 * b1)
  | 10, w, v => ∃ t u, v = .tuple #[.agg #[.bool r.1.neg, t, u], .int .i64 r.2] ∧ IsRes w t r.1.top ∧ IsRes w u r.1.bot
  | 11, w, v => ∃ t u, v = .agg #[.bool r.1.neg, t, u] ∧ IsRes w t r.1.top ∧ IsRes w u r.1.bot
  | 12, w, v => v = .int .i64 r.2
  | 13, w, v => True
  | _, w, v => v = .int .i64 r.2

end Go.Proofs.YtfiefglagknclaaDoor

/-
  scrimref04.Whole, Of: a number of a whole one, and of an int.
-/
namespace Go.Proofs.YtfiefglagknclaaDoor
open Go.RowKit
set_option maxHeartbeats 4000000
set_option maxRecDepth 100000
set_option linter.unusedVariables false

/-- The call hands back a number. -/
def NumOut (w : World) (n : Rt.Nm) (e : Ending) (w' : World) : Prop := ∃ t u, e = .returned (.agg #[.bool n.neg, t, u]) ∧ IsRes w' t n.top ∧ IsRes w' u n.bot ∧ Below w.heap.size w w'
theorem whole4_any (b : Bool) (v : Value) (x : Nat) (w : World) (h : ResL w v (Nt.digs x)) :
    Calls Tryd.prog 113 #[.agg #[.bool b, v]] w (NumOut w ⟨Rt.nrm b x, Nt.digs x, [1]⟩) := by
  have hb0 : ∀ o1 o2, Below w.heap.size w ((w.alloc o1).alloc o2) := fun o1 o2 => ((Below.refl _ _).alloc (Nat.le_refl _) _).alloc (by simp) _
  have NM := fun o1 o2 => norm3_any b v _ _ (h.below (hb0 o1 o2))
  rw [Nt.val_digs] at NM
  have HNM := Lib.hid NM
  have HB := Lib.hid hb0
  have HG1 : Hid (∀ o1 o2, ((w.alloc o1).alloc o2).heap[w.heap.size + 1]? = some o2) := Lib.hid (fun o1 o2 => by
    have := heap_alloc_new (w.alloc o1) o2
    rwa [show (w.alloc o1).heap.size = w.heap.size + 1 by simp] at this)
  have HG0 : Hid (∀ o1 o2, ((w.alloc o1).alloc o2).heap[w.heap.size]? = some o1) := Lib.hid (fun o1 o2 => (Below.heap_alloc _ _ _ (by simp)).trans (heap_alloc_new w o1))
  have HI2 : Hid (∀ (b : Bool) (A : Option Addr) (k c : Nat), (Tryd.prog.info? 55).map (·.size) = some (#[.bool b, .slice A k c] : Array Value).size) := Lib.hid (fun _ _ _ _ => int3_info)
  have HI3 : Hid (∀ (b : Bool) (A : Option Addr) (k c : Nat) (A' : Option Addr) (k' c' : Nat), (Tryd.prog.info? 24).map (·.size) = some (#[.bool b, .slice A k c, .slice A' k' c'] : Array Value).size) := Lib.hid (fun _ _ _ _ _ _ _ => num_info)
  have HNEW : Hid (∀ wx : World, IsRes (wx.alloc (.cells #[.int .u32 1] 70)) (.slice (some ⟨wx.heap.size, 0, none⟩) 1 1) [1]) := Lib.hid (fun wx => isRes_new wx [1] (by decide))
  obtain ⟨A, c, rfl⟩ := res_slice h.1
  clear h NM hb0
  generalize Rt.nrm b x = b' at *
  generalize Nt.digs x = D at *
  go_enter Tryd.func113, Tryd.ntmps113
  go_wp2_with fail
  refine (HNM.out _ _).mono ?_
  rintro e w3 ⟨v3, rfl, hr3, hb3⟩
  have HG3 := Lib.hid ((hb3.block (w.heap.size + 1) (by simp)).trans (HG1.out _ _))
  have hbw3 := (HB.out _ _).trans (hb3.mono (HB.out _ _).size)
  have hlt3 := blk_lt HG3.out
  have HR3 := Lib.hid hr3.1
  obtain ⟨A3, c3, rfl⟩ := res_slice hr3.1
  clear hr3 hb3 HNM
  obtain ⟨w4, hw4⟩ : ∃ w4, w4 = (w3.alloc (.cells #[.bool b', .slice A3 D.length c3] 55)).alloc (.cells #[.int .u32 1] 70) := ⟨_, rfl⟩
  have hb34 : Below w3.heap.size w3 w4 := by rw [hw4]; exact ((Below.refl _ _).alloc (Nat.le_refl _) _).alloc (by simp) _
  have HG4 := Lib.hid ((hb34.block (w.heap.size + 1) hlt3).trans HG3.out)
  have hN : IsRes w4 (.slice (some ⟨w3.heap.size + 1, 0, none⟩) 1 1) [1] := by
    have := HNEW.out (w3.alloc (.cells #[.bool b', .slice A3 D.length c3] 55))
    rw [show (w3.alloc (.cells #[.bool b', .slice A3 D.length c3] 55)).heap.size = w3.heap.size + 1 by simp] at this
    rw [hw4]; exact this
  have HT := Lib.hid ((HR3.out.below hb34).setRow HG4.out (three_no_int _ _ _ _ _ _ _) #[.bool b', .slice A3 D.length c3, .slice (some ⟨w3.heap.size + 1, 0, none⟩) 1 1])
  have HU := Lib.hid (hN.setRow HG4.out (three_no_int _ _ _ _ _ _ _) #[.bool b', .slice A3 D.length c3, .slice (some ⟨w3.heap.size + 1, 0, none⟩) 1 1])
  have hbw4 := hbw3.trans (hb34.mono hbw3.size)
  have HF := Lib.hid (rBelow.setRow hbw4 (show w.heap.size ≤ w.heap.size + 1 by omega) #[.bool b', .slice A3 D.length c3, .slice (some ⟨w3.heap.size + 1, 0, none⟩) 1 1])
  have HG5 := Lib.hid (rheap_same (cs := #[.bool b', .slice A3 D.length c3, .slice (some ⟨w3.heap.size + 1, 0, none⟩) 1 1]) HG4.out)
  rw [hw4] at HG4 HT HU HF HG5
  clear hw4 hb34 hN hbw4 hbw3 HR3
  go_wp2_with (with_reducible refine wpList_store_row rfl 24 (.tmp 2) (.tmp 11) rfl (w.heap.size + 1) #[.bool b', .slice A3 D.length c3, .slice (some ⟨w3.heap.size + 1, 0, none⟩) 1 1] rfl rfl 24 #[.bool false, .slice none 0 0, .slice none 0 0] HG4.out (HI3.out _ _ _ _ _ _ _) rfl (three_one _ _ _ _ _ _ _) ?_)
  refine bodyPost_ret (results_cell_row (by rfl) _ _ (w.heap.size + 1) 24 #[.bool b', .slice A3 D.length c3, .slice (some ⟨w3.heap.size + 1, 0, none⟩) 1 1] (0, 0) _ (by rfl) HG5.out Tryd.underlying24 rfl (HI3.out _ _ _ _ _ _ _)) rfl ⟨_, _, rfl, HT.out, HU.out, HF.out⟩

theorem ofInt4_any (n : Int) (w : World) (h1 : -9223372036854775808 ≤ n) (h2 : n ≤ 9223372036854775807) :
    Calls Tryd.prog 80 #[.int .i64 n] w (NumOut w ⟨decide (n < 0), Nt.digs n.natAbs, [1]⟩) := by
  have hnr : Rt.nrm (decide (n < 0)) n.natAbs = decide (n < 0) := by
    unfold Rt.nrm
    by_cases h : n < 0
    · have : (n.natAbs == 0) = false := by rw [beq_eq_false_iff_ne]; omega
      rw [this]; simp
    · rw [decide_eq_false h]; simp
  have HO := Lib.hid (fun o => refOfInt_any n (w.alloc o) h1 h2)
  have HWH := Lib.hid (fun (wx : World) (v : Value) (h : ResL wx v (Nt.digs n.natAbs)) => by
    have := whole4_any (decide (n < 0)) v n.natAbs wx h
    rw [hnr] at this
    exact this)
  have HB : Hid (∀ o, Below w.heap.size w (w.alloc o)) := Lib.hid (fun o => (Below.refl _ _).alloc (Nat.le_refl _) _)
  have HG : Hid (∀ o, (w.alloc o).heap[w.heap.size]? = some o) := Lib.hid (fun o => heap_alloc_new w o)
  have HI3 : Hid (∀ (b : Bool) (A : Option Addr) (k c : Nat) (A' : Option Addr) (k' c' : Nat), (Tryd.prog.info? 24).map (·.size) = some (#[.bool b, .slice A k c, .slice A' k' c'] : Array Value).size) := Lib.hid (fun _ _ _ _ _ _ _ => num_info)
  clear hnr h1 h2
  generalize decide (n < 0) = bn at *
  generalize Nt.digs n.natAbs = D at *
  go_enter Tryd.func80, Tryd.ntmps80
  go_wp2_with fail
  refine (HO.out _).mono ?_
  rintro e w2 ⟨v2, rfl, hr2, hb2⟩
  have HG2 := Lib.hid ((hb2.block w.heap.size (by simp)).trans (HG.out _))
  have hbw2 := (HB.out _).trans (hb2.mono (HB.out _).size)
  have HW2 := Lib.hid (HWH.out w2 v2 hr2)
  clear hr2 hb2 HO HWH
  go_wp2_with fail
  refine HW2.out.mono ?_
  rintro e w3 ⟨t, u, rfl, ht, hu, hb3⟩
  have HG3 := Lib.hid ((hb3.block w.heap.size (blk_lt HG2.out)).trans HG2.out)
  have hbw3 := hbw2.trans (hb3.mono hbw2.size)
  dsimp only at ht hu ⊢
  have HT := Lib.hid (ht.setRow HG3.out (three_no_int _ _ _ _ _ _ _) #[.bool bn, t, u])
  have HU := Lib.hid (hu.setRow HG3.out (three_no_int _ _ _ _ _ _ _) #[.bool bn, t, u])
  obtain ⟨A3, c3, rfl⟩ := res_slice ht
  obtain ⟨A4, c4, rfl⟩ := res_slice hu
  clear ht hu hb3 HW2 hbw2
  have HF := Lib.hid (rBelow.setRow hbw3 (Nat.le_refl _) #[.bool bn, .slice A3 D.length c3, .slice A4 ([1] : List Nat).length c4])
  go_wp2_with (with_reducible refine wpList_store_row rfl 24 (.tmp 2) (.tmp 5) rfl w.heap.size #[.bool bn, .slice A3 D.length c3, .slice A4 ([1] : List Nat).length c4] rfl rfl 24 #[.bool false, .slice none 0 0, .slice none 0 0] HG3.out (HI3.out _ _ _ _ _ _ _) rfl (three_one _ _ _ _ _ _ _) ?_)
  refine bodyPost_ret (results_cell_row (by rfl) _ _ w.heap.size 24 #[.bool bn, .slice A3 D.length c3, .slice A4 ([1] : List Nat).length c4] (0, 0) _ (by rfl) (rheap_same HG3.out) Tryd.underlying24 rfl (HI3.out _ _ _ _ _ _ _)) rfl ⟨_, _, rfl, HT.out, HU.out, HF.out⟩
end Go.Proofs.YtfiefglagknclaaDoor

/-
  What strconv.FormatUint computes at base 10 (after the library's proof of FormatInt, turned to FormatUint).
-/
namespace Go.Proofs.YtfiefglagknclaaDoor
open Go.RowKit Go.Sort Go.Lib Go.Shelf
set_option maxHeartbeats 6400000
set_option maxRecDepth 100000
set_option linter.unusedVariables false

theorem holds_zero0 (w : World) (T : TypeId) (nd : Nat) (hs : nd ≤ 24) : Holds (fun (b : UInt8) => Value.int .u8 (b.toNat : Int)) (w.alloc (.cells zeros24 T)) w.heap.size 0 (Array.replicate nd (0 : UInt8)) := fun j hj => by
  have hj' : j < nd := by simpa using hj
  refine ⟨?_, World.frozen?_alloc_new _ _ _ _⟩
  rw [World.cell?_alloc_new, zeros24_at _ (by omega), getElem!_pos _ j hj]
  simp
theorem fin0 (w : World) (o : Obj) (dk : Array UInt8) (k : Nat) : Below w.heap.size w ((putRow (fun (b : UInt8) => Value.int .u8 (b.toNat : Int)) (w.alloc o) w.heap.size 0 dk).drewN k) := by
  rw [alloc_eq_grow]
  obtain ⟨os', _, e⟩ := putRow_grow_new (fun (b : UInt8) => Value.int .u8 (b.toNat : Int)) w #[o] w.heap.size 0 dk (Nat.le_refl _)
  rw [e]
  exact ⟨rfl, rfl, rfl, by show w.heap.size ≤ (grow w os').heap.size; simp, fun g hg => heap_grow_old w os' hg⟩
theorem innerFormatUint_any (u : Nat) (w : World) (hu64 : u < 18446744073709551616) (htab : Lib.TabIs Tryd.prog w "internal/strconv.uint64pow10" .u64 Lib.pow10Tab) :
    Calls Tryd.prog 91 #[.int .u64 (u : Int), .int .i64 10] w fun e w' => e = .returned (.string ⟨(Lib.decDigits u).toArray⟩) ∧ Below w.heap.size w w' := by
  by_cases hs : u < 100
  · go_enter Tryd.func91, Tryd.ntmps91
    go_wp2_with (go_at_call 123; refine (Tryd.internal_strconv_small u hs _).mono ?_; rintro e w' ⟨rfl, rfl⟩)
    go_ret
    exact ⟨rfl, Below.refl _ _⟩
  · have hu1 : 1 ≤ u := by omega
    have hnd20 : Lib.nDigits u ≤ 20 := by have := Lib.numDigits_eq u hu1 hu64; split at this <;> omega
    have hH0 := holds_zero0 w 159 (Lib.nDigits u) (by omega)
    have hfmt := Tryd.internal_strconv_formatBase10 w.heap.size 0 24 u (Array.replicate (Lib.nDigits u) 0) (w.alloc (.cells Lib.zeros24 159)) hH0 (by rw [Array.size_replicate]; exact Lib.lt_pow_nDigits u) hu64 (by rw [Array.size_replicate]; omega)
    rw [Array.size_replicate] at hfmt
    have HH0 := Lib.hid hH0
    clear hH0
    have hal : Program.arrayLen Tryd.prog 159 = 24 := by simp [Program.arrayLen, Tryd.underlying159]
    have hb3 : Lib.nDigits u ≤ 24 := by omega
    have hsl1 : ∀ W, (Instr.sliceAt 159 (.pointer (some ⟨w.heap.size, 0, none⟩)) none (some (.int .i64 (Lib.nDigits u : Int))) none).run Tryd.prog W = .ok (.slice (some ⟨w.heap.size, 0, none⟩) (Lib.nDigits u) 24) W := fun W => by
      rw [run_sliceAt_array_h W 159 ⟨w.heap.size, 0, none⟩ (by simp [Program.arrayLen, Program.elem, Tryd.underlying159]) .i64 (Lib.nDigits u : Int) (by omega) (by rw [hal]; omega)]
      go_simp
    clear hal
    go_enter Tryd.func91, Tryd.ntmps91
    go_wp2_with (first
      | (go_at_call 124; refine (Tryd.internal_strconv_numDigits u hu1 hu64 _ (Lib.tabIs_alloc htab _)).mono ?_; rintro e w' ⟨rfl, rfl⟩))
    refine hfmt.mono ?_
    rintro e w' ⟨rfl, k, v', dk, rfl, hF⟩
    have hcv : (convert 94 9 (.slice (some ⟨w.heap.size, 0, none⟩) (Lib.nDigits u) 24)).run Tryd.prog ((putRow (fun (b : UInt8) => Value.int .u8 (b.toNat : Int)) (w.alloc (.cells Lib.zeros24 159)) w.heap.size 0 dk).drewN k) = .ok (.string ⟨(Lib.decDigits u).toArray⟩) ((putRow (fun (b : UInt8) => Value.int .u8 (b.toNat : Int)) (w.alloc (.cells Lib.zeros24 159)) w.heap.size 0 dk).drewN k) := by
      have h := run_convert_bytes_back (P := Tryd.prog) ((putRow (fun (b : UInt8) => Value.int .u8 (b.toNat : Int)) (w.alloc (.cells Lib.zeros24 159)) w.heap.size 0 dk).drewN k) 94 9 5 ⟨w.heap.size, 0, none⟩ 24 (Lib.decDigits u) Tryd.underlying94 Tryd.underlying5 Tryd.underlying9 (fun j hj => by
        rw [Lib.row_is_numeral hF j hj, Lib.add_plain, World.cell?_drewN]
        exact cell?_putRow (fun (b : UInt8) => Value.int .u8 (b.toNat : Int)) _ w.heap.size 0 _ dk HH0.out (by rw [hF.size, Array.size_replicate]) j (by rw [hF.size]; rw [Lib.decDigits_length] at hj; exact hj))
      rw [Lib.decDigits_length] at h
      exact h
    go_wp2_with fail
    go_ret
    exact ⟨rfl, fin0 _ _ _ _⟩
theorem formatUint_any (u : Nat) (w : World) (hu64 : u < 18446744073709551616) (htab : Lib.TabIs Tryd.prog w "internal/strconv.uint64pow10" .u64 Lib.pow10Tab) :
    Calls Tryd.prog 56 #[.int .u64 (u : Int), .int .i64 10] w fun e w' => e = .returned (.string ⟨(Lib.decDigits u).toArray⟩) ∧ Below w.heap.size w w' := by
  go_enter Tryd.func56, Tryd.ntmps56
  go_wp2_with (go_at_call 91; refine (innerFormatUint_any u w hu64 htab).mono ?_; rintro e w' ⟨rfl, hb⟩)
  go_ret
  exact ⟨rfl, hb⟩
end Go.Proofs.YtfiefglagknclaaDoor

/-
  What scrimref02.Parse computes.
-/
namespace Go.Proofs.YtfiefglagknclaaDoor
open Go.RowKit
set_option maxHeartbeats 1000000
set_option maxRecDepth 100000
set_option linter.unusedVariables false

/-- What a text's reading tells: the number's limbs, and that it is one; or none. -/
def NatTold (s : List UInt8) (w : World) (e : Ending) (w' : World) : Prop := Below w.heap.size w w' ∧ ∃ (v : Value) (ok : Bool) (n : Nat), e = .returned (.tuple #[v, .bool ok]) ∧ IsRes w' v (Nt.digs n) ∧ ((ok = true ∧ Ten.Valid s ∧ n = Ten.numOf s) ∨ (ok = false ∧ ¬ Ten.Valid s ∧ n = 0))
theorem NatTold.no {s : List UInt8} {w w' : World} (hb : Below w.heap.size w w') (h : ¬ Ten.Valid s) : NatTold s w (.returned (.tuple #[.slice none 0 0, .bool false])) w' := ⟨hb, _, false, 0, rfl, by rw [Nt.digs_zero]; exact IsRes.none_ _, .inr ⟨rfl, h, rfl⟩⟩
theorem NatTold.yes {s : List UInt8} {w w' : World} {v : Value} (hb : Below w.heap.size w w') (h : Ten.Valid s) (hv : IsRes w' v (Nt.digs (Ten.numOf s))) : NatTold s w (.returned (.tuple #[v, .bool true])) w' := ⟨hb, _, true, _, rfl, hv, .inl ⟨rfl, h, rfl⟩⟩

/-- The numeral, read up to a place. -/
def NumAt (s : List UInt8) (k n : Nat) : Prop := n = Ten.numOf (s.take k) ∧ ∀ j (hj : j < s.length), j < k → Ten.isDig s[j]
theorem NumAt.start (s : List UInt8) : NumAt s 0 0 := ⟨rfl, fun j _ h => absurd h (by omega)⟩
theorem NumAt.step {s : List UInt8} {k n : Nat} (h : NumAt s k n) (hk : k < s.length) (hd : Ten.isDig s[k]) : NumAt s (k + 1) (n * 10 + (s[k].toNat - 48)) := by
  refine ⟨?_, fun j hj hjk => ?_⟩
  · rw [List.take_succ_eq_append_getElem hk, Ten.numOf_snoc, ← h.1]; omega
  · by_cases e : j = k
    · subst e; exact hd
    · exact h.2 j hj (by omega)
theorem NumAt.done {s : List UInt8} {n : Nat} (h : NumAt s s.length n) (h0 : s ≠ []) (h1 : 1 < s.length → s.head? ≠ some 48) : Ten.Valid s ∧ n = Ten.numOf s := by
  refine ⟨⟨h0, h1, fun b hb => ?_⟩, by rw [h.1, List.take_length]⟩
  obtain ⟨j, hj, rfl⟩ := List.mem_iff_getElem.1 hb
  exact h.2 j hj hj
theorem not_valid_at {s : List UInt8} {k : Nat} (hk : k < s.length) (h : s[k].toNat < 48 ∨ 57 < s[k].toNat) : ¬ Ten.Valid s := fun hv => by
  have := hv.2.2 s[k] (List.getElem_mem hk)
  unfold Ten.isDig at this
  omega
theorem head_at {s : List UInt8} (h : 0 < s.length) : s.head? = some s[0] := by
  cases s with
  | nil => simp at h
  | cons b r => rfl

theorem refParse_any (s : List UInt8) (w : World) (hs : s.length ≤ 1000) : Calls Tryd.prog 72 #[.string ⟨s.toArray⟩] w (NatTold s w) := by
  obtain ⟨i0, hi, hz0, hz1, hz2⟩ := info_parts u32_info
  by_cases h0 : s.length = 0
  · have HN := Lib.hid (NatTold.no (w := w) (w' := w) (s := s) (Below.refl _ _) (fun h => h.1 (List.eq_nil_of_length_eq_zero h0)))
    have h0a : ((s.length : Int) == 0) = true := by simp [h0]
    clear h0
    go_enter Tryd.func72, Tryd.ntmps72
    go_wp2_with fail
    go_ret2
    exact HN.out
  · have hpos : 0 < s.length := by omega
    have h0a : ((s.length : Int) == 0) = false := by rw [beq_eq_false_iff_ne]; omega
    obtain ⟨z, hz⟩ : ∃ z, z = s[0].toNat := ⟨_, rfl⟩
    have hg0 : ((⟨s.toArray⟩ : ByteArray)[0]'(show 0 < (⟨s.toArray⟩ : ByteArray).size from hpos)).toNat = z := hz.symm
    by_cases hlead : 1 < s.length ∧ z = 48
    · obtain ⟨h1, hz48⟩ := hlead
      have HN := Lib.hid (NatTold.no (w := w) (w' := w) (s := s) (Below.refl _ _) (fun h => h.2.1 h1 (by rw [head_at hpos, UInt8.toNat_inj.1 (show s[0].toNat = (48 : UInt8).toNat by rw [← hz, hz48]; rfl)])))
      have hza : ((z : Int) == 48) = true := by simp [hz48]
      clear h0 hz hz48
      go_enter Tryd.func72, Tryd.ntmps72
      go_wp2_with fail
      go_ret2
      exact HN.out
    · have HV : Hid (s ≠ [] ∧ (1 < s.length → s.head? ≠ some 48)) := Lib.hid ⟨fun e => by rw [e] at hpos; simp at hpos, fun h1 e => hlead ⟨h1, by
        rw [head_at hpos] at e; injection e with e; rw [hz, e]; rfl⟩⟩
      have hgo : s.length ≤ 1 ∨ (1 < s.length ∧ ((z : Int) == 48) = false) := by
        rcases Nat.lt_or_ge 1 s.length with h | h
        · exact .inr ⟨h, by rw [beq_eq_false_iff_ne]; intro e; exact hlead ⟨h, by omega⟩⟩
        · exact .inl h
      clear hlead hz h0
      go_enter Tryd.func72, Tryd.ntmps72
      rcases hgo with hl1 | ⟨hl1, hza⟩
      · go_wp2_with fail
        go_loopw [4, 5] (fun ov i wr => ∃ (k n : Nat), k ≤ s.length ∧ (Nt.digs n).length ≤ k ∧ i = .int .i64 (k : Int) ∧ wr.ownsRow w.heap.size 70 1 ov (Nt.digs n).length (U (Nt.digs n)) ∧ Below w.heap.size w wr ∧ Hid (NumAt s k n)) (fun _ i _ => s.length - (intOf i).toNat)
        case atStart => exact ⟨0, 0, by omega, by rw [Nt.digs_zero]; simp, rfl, by rw [Nt.digs_zero]; exact World.ownsRow_nil _ _ _ _, Below.refl _ _, Lib.hid (NumAt.start s)⟩
        case round =>
          obtain ⟨k, n, hk, hdl, rfl, hown, hbel, H⟩ := hrel
          have hsz := hbel.size
          by_cases hlt : k < s.length
          · obtain ⟨y, hy⟩ : ∃ y, y = s[k].toNat := ⟨_, rfl⟩
            have hgy : ((⟨s.toArray⟩ : ByteArray)[k]'(show k < (⟨s.toArray⟩ : ByteArray).size from hlt)).toNat = y := hy.symm
            have hy8 : y < 256 := by rw [hy]; exact UInt8.toNat_lt _
            by_cases hd : 48 ≤ y ∧ y ≤ 57
            · obtain ⟨hd1, hd2⟩ := hd
              have ST := Lib.hid (H.out.step hlt ⟨by rw [← hy]; exact hd1, by rw [← hy]; exact hd2⟩)
              rw [← hy] at ST
              obtain ⟨m, hm⟩ : ∃ m, m = y - 48 := ⟨_, rfl⟩
              have hmi : (y : Int) - 48 = (m : Int) := by omega
              have hm9 : m ≤ 9 := by omega
              rw [← hm] at ST
              have OX := Lib.hid (Nt.ok_digs n)
              have D0 : Hid (∀ cur, Nt.LenAt (Nt.digs n) 10 m cur (Nt.digs n).length 0 → Nt.digs (n * 10 + m) = cur) := Lib.hid (fun cur h => Nt.len_done0 h (by omega))
              have D1 : Hid (∀ cur c, Nt.LenAt (Nt.digs n) 10 m cur (Nt.digs n).length c → c ≠ 0 → Nt.digs (n * 10 + m) = cur ++ [c]) := Lib.hid (fun cur c h hc => Nt.len_done1 h hc)
              obtain ⟨dx, hdx⟩ : ∃ dx, dx = Nt.digs n := ⟨_, rfl⟩
              rw [← hdx] at hown hdl OX D0 D1
              obtain ⟨A, C, rfl, hC1, hC2⟩ := own_slice hown
              clear hy hm hdx H
              go_wp2_with fail
              go_loopw [6, 7] (fun cv i wr => ∃ (k c : Nat) (cur : List Nat), k ≤ dx.length ∧ c < 4294967296 ∧ i = .int .i64 (k : Int) ∧ cv = .int .u64 (c : Int) ∧ wr.ownsRow w.heap.size 70 1 (.slice A dx.length C) dx.length (U cur) ∧ Below w.heap.size w wr ∧ Hid (Nt.LenAt dx 10 m cur k c)) (fun _ i _ => dx.length - (intOf i).toNat)
              case atStart => exact ⟨0, m, dx, Nat.zero_le _, by omega, rfl, congrArg (Value.int .u64) (by omega), hown, hbel, Lib.hid (Nt.len_start OX.out (by omega))⟩
              case round =>
                clear hown hbel hsz
                obtain ⟨k2, c, cur, hk2, hc, rfl, rfl, hown, hbel, H⟩ := hrel
                have hsz := hbel.size
                by_cases hlt2 : k2 < dx.length
                · exact absurd hlt2 (by omega)
                · obtain rfl : k2 = dx.length := by omega
                  have hcl : Hid (cur.length = dx.length) := Lib.hid H.out.1
                  by_cases hc0 : c = 0
                  · subst hc0
                    have HE := Lib.hid (D0.out cur H.out)
                    go_wp2_with fail
                    refine ⟨⟨k + 1, n * 10 + m, by omega, by rw [HE.out, hcl.out]; omega, by go_num, ?_, hbel, ST⟩, by simp [intOf]; omega⟩
                    rw [HE.out, hcl.out]
                    exact hown
                  · have HE := Lib.hid (D1.out cur c H.out hc0)
                    have hc1 : (0 : Int) < (c : Int) := by omega
                    go_wp2_with (at_builtin; refine wpList_append_own _ rfl _ _ 22 rfl w.heap.size 70 i0 (.int .u32 0) 1 4 Tryd.underlying22 hi hz0 hz1 hz2 rfl (by decide) _ _ _ rfl (hown.alloc _) ⟨_, 0, none⟩ 1 1 [.int .u32 (c : Int)] rfl rfl (cell_one_new _ _ _) (by intro u hu; simp only [List.mem_singleton] at hu; subst hu; rfl) (by unfold maxLen; omega) (by omega) (by simp; omega) ?_; intro v3 w3 hown3 hgrow3 hnn3)
                    have hb3 : Below w.heap.size w w3 := (hbel.alloc (by omega) _).grown hgrow3 (by simp; omega) (fun k hk => (hown.lt k hk).1)
                    refine ⟨⟨k + 1, n * 10 + m, by omega, by rw [HE.out, List.length_append, hcl.out]; simp; omega, by go_num, ?_, hb3, ST⟩, by simp [intOf]; omega⟩
                    rw [HE.out, List.length_append, hcl.out]
                    simpa [U] using hown3
            · have HN := Lib.hid (NatTold.no (w := w) (w' := wr) (s := s) hbel (not_valid_at hlt (by rw [← hy]; omega)))
              have hc : y < 48 ∨ (48 ≤ y ∧ 57 < y) := by omega
              clear hy hd
              rcases hc with hc | ⟨hc, hc2⟩
              · go_wp2_with fail
                go_ret2
                exact HN.out
              · go_wp2_with fail
                go_ret2
                exact HN.out
          · obtain rfl : k = s.length := by omega
            have HD := Lib.hid (H.out.done HV.out.1 HV.out.2)
            have HY := Lib.hid (NatTold.yes hbel HD.out.1 (by rw [← HD.out.2]; exact IsRes.of_own hown))
            go_wp2_with fail
            go_ret2
            exact HY.out
      · go_wp2_with fail
        go_loopw [4, 5] (fun ov i wr => ∃ (k n : Nat), k ≤ s.length ∧ (Nt.digs n).length ≤ k ∧ i = .int .i64 (k : Int) ∧ wr.ownsRow w.heap.size 70 1 ov (Nt.digs n).length (U (Nt.digs n)) ∧ Below w.heap.size w wr ∧ Hid (NumAt s k n)) (fun _ i _ => s.length - (intOf i).toNat)
        case atStart => exact ⟨0, 0, by omega, by rw [Nt.digs_zero]; simp, rfl, by rw [Nt.digs_zero]; exact World.ownsRow_nil _ _ _ _, Below.refl _ _, Lib.hid (NumAt.start s)⟩
        case round =>
          obtain ⟨k, n, hk, hdl, rfl, hown, hbel, H⟩ := hrel
          have hsz := hbel.size
          by_cases hlt : k < s.length
          · obtain ⟨y, hy⟩ : ∃ y, y = s[k].toNat := ⟨_, rfl⟩
            have hgy : ((⟨s.toArray⟩ : ByteArray)[k]'(show k < (⟨s.toArray⟩ : ByteArray).size from hlt)).toNat = y := hy.symm
            have hy8 : y < 256 := by rw [hy]; exact UInt8.toNat_lt _
            by_cases hd : 48 ≤ y ∧ y ≤ 57
            · obtain ⟨hd1, hd2⟩ := hd
              have ST := Lib.hid (H.out.step hlt ⟨by rw [← hy]; exact hd1, by rw [← hy]; exact hd2⟩)
              rw [← hy] at ST
              obtain ⟨m, hm⟩ : ∃ m, m = y - 48 := ⟨_, rfl⟩
              have hmi : (y : Int) - 48 = (m : Int) := by omega
              have hm9 : m ≤ 9 := by omega
              rw [← hm] at ST
              have OX := Lib.hid (Nt.ok_digs n)
              have D0 : Hid (∀ cur, Nt.LenAt (Nt.digs n) 10 m cur (Nt.digs n).length 0 → Nt.digs (n * 10 + m) = cur) := Lib.hid (fun cur h => Nt.len_done0 h (by omega))
              have D1 : Hid (∀ cur c, Nt.LenAt (Nt.digs n) 10 m cur (Nt.digs n).length c → c ≠ 0 → Nt.digs (n * 10 + m) = cur ++ [c]) := Lib.hid (fun cur c h hc => Nt.len_done1 h hc)
              obtain ⟨dx, hdx⟩ : ∃ dx, dx = Nt.digs n := ⟨_, rfl⟩
              rw [← hdx] at hown hdl OX D0 D1
              obtain ⟨A, C, rfl, hC1, hC2⟩ := own_slice hown
              clear hy hm hdx H
              go_wp2_with fail
              go_loopw [6, 7] (fun cv i wr => ∃ (k c : Nat) (cur : List Nat), k ≤ dx.length ∧ c < 4294967296 ∧ i = .int .i64 (k : Int) ∧ cv = .int .u64 (c : Int) ∧ wr.ownsRow w.heap.size 70 1 (.slice A dx.length C) dx.length (U cur) ∧ Below w.heap.size w wr ∧ Hid (Nt.LenAt dx 10 m cur k c)) (fun _ i _ => dx.length - (intOf i).toNat)
              case atStart => exact ⟨0, m, dx, Nat.zero_le _, by omega, rfl, congrArg (Value.int .u64) (by omega), hown, hbel, Lib.hid (Nt.len_start OX.out (by omega))⟩
              case round =>
                clear hown hbel hsz
                obtain ⟨k2, c, cur, hk2, hc, rfl, rfl, hown, hbel, H⟩ := hrel
                have hsz := hbel.size
                by_cases hlt2 : k2 < dx.length
                · obtain ⟨g, rfl, hgb, hcell, hfz, hset⟩ := own_at hown hlt2
                  have hget := Nt.len_get H.out hlt2
                  rw [U, List.getElem?_map, hget, Option.map_some] at hcell
                  have hxb := Nt.ok_get OX.out hlt2
                  have ST2 := Lib.hid (Nt.len_step H.out hlt2 OX.out (by omega))
                  have BD := Nt.len_bounds hxb (show 10 < 4294967296 by omega) hc
                  have HSET : Hid (∀ s : Nat, (wr.setCell ⟨g, k2, none⟩ (.int .u32 (s : Int))).ownsRow w.heap.size 70 1 (.slice (some ⟨g, 0, none⟩) dx.length C) dx.length (U (cur.set k2 s))) := Lib.hid (fun s => by
                    have := hset (.int .u32 (s : Int))
                    rw [show (U cur).set k2 (.int .u32 (s : Int)) = U (cur.set k2 s) from List.map_set.symm] at this
                    exact this)
                  have HB2 : Hid (∀ s, Below w.heap.size w (wr.setCell ⟨g, k2, none⟩ s)) := Lib.hid (fun s => hbel.setCell hgb _)
                  clear hset hget hown
                  generalize dx[k2] = x at *
                  obtain ⟨ht1, ht2, ht3, ht4⟩ := BD
                  go_wp2_with fail
                  exact ⟨⟨k2 + 1, (x * 10 + c) / 4294967296, cur.set k2 ((x * 10 + c) % 4294967296), by omega, ht2, by go_num, congrArg (Value.int .u64) (by omega), HSET.out _, HB2.out _, ST2⟩, by simp [intOf]; omega⟩
                · obtain rfl : k2 = dx.length := by omega
                  have hcl : Hid (cur.length = dx.length) := Lib.hid H.out.1
                  by_cases hc0 : c = 0
                  · subst hc0
                    have HE := Lib.hid (D0.out cur H.out)
                    go_wp2_with fail
                    refine ⟨⟨k + 1, n * 10 + m, by omega, by rw [HE.out, hcl.out]; omega, by go_num, ?_, hbel, ST⟩, by simp [intOf]; omega⟩
                    rw [HE.out, hcl.out]
                    exact hown
                  · have HE := Lib.hid (D1.out cur c H.out hc0)
                    have hc1 : (0 : Int) < (c : Int) := by omega
                    go_wp2_with (at_builtin; refine wpList_append_own _ rfl _ _ 22 rfl w.heap.size 70 i0 (.int .u32 0) 1 4 Tryd.underlying22 hi hz0 hz1 hz2 rfl (by decide) _ _ _ rfl (hown.alloc _) ⟨_, 0, none⟩ 1 1 [.int .u32 (c : Int)] rfl rfl (cell_one_new _ _ _) (by intro u hu; simp only [List.mem_singleton] at hu; subst hu; rfl) (by unfold maxLen; omega) (by omega) (by simp; omega) ?_; intro v3 w3 hown3 hgrow3 hnn3)
                    have hb3 : Below w.heap.size w w3 := (hbel.alloc (by omega) _).grown hgrow3 (by simp; omega) (fun k hk => (hown.lt k hk).1)
                    refine ⟨⟨k + 1, n * 10 + m, by omega, by rw [HE.out, List.length_append, hcl.out]; simp; omega, by go_num, ?_, hb3, ST⟩, by simp [intOf]; omega⟩
                    rw [HE.out, List.length_append, hcl.out]
                    simpa [U] using hown3
            · have HN := Lib.hid (NatTold.no (w := w) (w' := wr) (s := s) hbel (not_valid_at hlt (by rw [← hy]; omega)))
              have hc : y < 48 ∨ (48 ≤ y ∧ 57 < y) := by omega
              clear hy hd
              rcases hc with hc | ⟨hc, hc2⟩
              · go_wp2_with fail
                go_ret2
                exact HN.out
              · go_wp2_with fail
                go_ret2
                exact HN.out
          · obtain rfl : k = s.length := by omega
            have HD := Lib.hid (H.out.done HV.out.1 HV.out.2)
            have HY := Lib.hid (NatTold.yes hbel HD.out.1 (by rw [← HD.out.2]; exact IsRes.of_own hown))
            go_wp2_with fail
            go_ret2
            exact HY.out
end Go.Proofs.YtfiefglagknclaaDoor

/-
  What nat.Parse computes.
-/
namespace Go.Proofs.YtfiefglagknclaaDoor
open Go.RowKit
set_option maxHeartbeats 1000000
set_option maxRecDepth 100000
set_option linter.unusedVariables false

/-- A part of the numeral, read on from a place. -/
def PartAt (s : List UInt8) (n at0 k p sc : Nat) : Prop := sc = 10 ^ (k - at0) ∧ p < sc ∧ Ten.numOf (s.take k) = n * sc + p
theorem PartAt.start {s : List UInt8} {n at0 : Nat} (h : n = Ten.numOf (s.take at0)) : PartAt s n at0 at0 0 1 := ⟨by rw [Nat.sub_self], by omega, by rw [← h, Nat.mul_one, Nat.add_zero]⟩
theorem PartAt.step {s : List UInt8} {n at0 k p sc : Nat} (h : PartAt s n at0 k p sc) (h1 : at0 ≤ k) (hk : k < s.length) (hd : Ten.isDig s[k]) : PartAt s n at0 (k + 1) (10 * p + (s[k].toNat - 48)) (sc * 10) := by
  obtain ⟨e1, e2, e3⟩ := h
  have := hd.2
  refine ⟨by rw [e1, show k + 1 - at0 = (k - at0) + 1 by omega, Nat.pow_succ], by omega, ?_⟩
  rw [List.take_succ_eq_append_getElem hk, Ten.numOf_snoc, e3]
  rw [show n * (sc * 10) = n * sc * 10 from (Nat.mul_assoc _ _ _).symm]
  generalize n * sc = q
  omega
theorem PartAt.bound {s : List UInt8} {n at0 k p sc : Nat} (h : PartAt s n at0 k p sc) (m : Nat) (hk : k - at0 ≤ m) : 1 ≤ sc ∧ sc ≤ 10 ^ m ∧ p < 10 ^ m := by
  obtain ⟨e1, e2, e3⟩ := h
  have h1 : 10 ^ (k - at0) ≤ 10 ^ m := Nat.pow_le_pow_right (by omega) hk
  have h2 : 1 ≤ 10 ^ (k - at0) := Nat.pow_pos (by omega)
  omega
theorem num_lt : ∀ (t : List UInt8), (∀ b ∈ t, Ten.isDig b) → Ten.numOf t < 10 ^ t.length := by
  intro t
  induction h : t.length generalizing t with
  | zero => intro _; rw [List.eq_nil_of_length_eq_zero h]; decide
  | succ n ih =>
    intro hd
    have hne : t ≠ [] := by intro e; rw [e] at h; simp at h
    obtain ⟨r, b, rfl⟩ : ∃ r b, t = r ++ [b] := ⟨t.dropLast, t.getLast hne, (List.dropLast_concat_getLast hne).symm⟩
    have := ih r (by simpa using h) (fun c hc => hd c (List.mem_append_left _ hc))
    have hb := hd b (by simp)
    have := hb.2
    rw [Ten.numOf_snoc, Nat.pow_succ]
    omega
theorem num_len {s : List UInt8} (h : Ten.Valid s) {k : Nat} (hk : k ≤ s.length) : (Nt.digs (Ten.numOf (s.take k))).length ≤ k := by
  have := num_lt (s.take k) (fun b hb => h.2.2 b (List.mem_of_mem_take hb))
  rw [List.length_take, Nat.min_eq_left hk] at this
  exact Nt.digs_len_lt (Nat.lt_of_lt_of_le this (Nat.pow_le_pow_left (by omega) k))

theorem parse_any (s : List UInt8) (w : World) (hs : s.length ≤ 1000) : Calls Tryd.prog 70 #[.string ⟨s.toArray⟩] w (NatTold s w) := by
  obtain ⟨i0, hi, hz0, hz1, hz2⟩ := info_parts u32_info
  by_cases h0 : s = []
  · have HN := Lib.hid (NatTold.no (w := w) (w' := w) (s := s) (Below.refl _ _) (fun h => h.1 h0))
    subst h0
    go_enter Tryd.func70, Tryd.ntmps70
    go_wp2_with fail
    go_ret2
    exact HN.out
  · have hpos : 0 < s.length := List.length_pos_iff.2 h0
    have h0a : s.isEmpty = false := by simpa using h0
    obtain ⟨z, hz⟩ : ∃ z, z = s[0].toNat := ⟨_, rfl⟩
    have hg0 : ((⟨s.toArray⟩ : ByteArray)[0]'(show 0 < (⟨s.toArray⟩ : ByteArray).size from hpos)).toNat = z := hz.symm
    by_cases hlead : 1 < s.length ∧ z = 48
    · obtain ⟨h1, hz48⟩ := hlead
      have HN := Lib.hid (NatTold.no (w := w) (w' := w) (s := s) (Below.refl _ _) (fun h => h.2.1 h1 (by rw [head_at hpos, UInt8.toNat_inj.1 (show s[0].toNat = (48 : UInt8).toNat by rw [← hz, hz48]; rfl)])))
      have hza : ((z : Int) == 48) = true := by simp [hz48]
      clear h0 hz hz48
      go_enter Tryd.func70, Tryd.ntmps70
      go_wp2_with fail
      go_ret2
      exact HN.out
    · have HV : Hid (s ≠ [] ∧ (1 < s.length → s.head? ≠ some 48)) := Lib.hid ⟨h0, fun h1 e => hlead ⟨h1, by
        rw [head_at hpos] at e; injection e with e; rw [hz, e]; rfl⟩⟩
      have hgo : s.length ≤ 1 ∨ (1 < s.length ∧ ((z : Int) == 48) = false) := by
        rcases Nat.lt_or_ge 1 s.length with h | h
        · exact .inr ⟨h, by rw [beq_eq_false_iff_ne]; intro e; exact hlead ⟨h, by omega⟩⟩
        · exact .inl h
      clear hlead hz h0
      go_enter Tryd.func70, Tryd.ntmps70
      rcases hgo with hl1 | ⟨hl1, hza⟩
      · go_wp2_with fail
        go_loop [24] (fun i => ∃ k : Nat, k ≤ s.length ∧ i = .int .i64 (k : Int) ∧ Hid (∀ j (hj : j < s.length), j < k → Ten.isDig s[j])) (fun i => s.length - (intOf i).toNat)
        case atStart => exact ⟨0, by omega, rfl, Lib.hid (fun j _ h => absurd h (by omega))⟩
        case round =>
          obtain ⟨k, hk, rfl, H⟩ := hrel
          by_cases hlt : k < s.length
          · obtain ⟨y, hy⟩ : ∃ y, y = s[k].toNat := ⟨_, rfl⟩
            have hgy : ((⟨s.toArray⟩ : ByteArray)[k]'(show k < (⟨s.toArray⟩ : ByteArray).size from hlt)).toNat = y := hy.symm
            have hy8 : y < 256 := by rw [hy]; exact UInt8.toNat_lt _
            by_cases hd : 48 ≤ y ∧ y ≤ 57
            · obtain ⟨hd1, hd2⟩ := hd
              have HD : Hid (∀ j (hj : j < s.length), j < k + 1 → Ten.isDig s[j]) := Lib.hid (fun j hj hjk => by
                by_cases e : j = k
                · subst e; exact ⟨by rw [← hy]; exact hd1, by rw [← hy]; exact hd2⟩
                · exact H.out j hj (by omega))
              clear hy
              go_wp2_with fail
              exact ⟨⟨k + 1, by omega, by go_num, HD⟩, by simp [intOf]; omega⟩
            · have HN := Lib.hid (NatTold.no (w := w) (w' := w) (s := s) (Below.refl _ _) (not_valid_at hlt (by rw [← hy]; omega)))
              have hc : y < 48 ∨ (48 ≤ y ∧ 57 < y) := by omega
              clear hy hd
              rcases hc with hc | ⟨hc, hc2⟩
              · go_wp2_with fail
                go_ret2
                exact HN.out
              · go_wp2_with fail
                go_ret2
                exact HN.out
          · obtain rfl : k = s.length := by omega
            have HVAL : Hid (Ten.Valid s) := Lib.hid ⟨HV.out.1, HV.out.2, fun b hb => by
              obtain ⟨j, hj, rfl⟩ := List.mem_iff_getElem.1 hb
              exact H.out j hj hj⟩
            clear hlt
            go_wp2_with (at_make; refine wpList_make_blk _ rfl _ _ 22 rfl 70 i0 (.int .u32 0) Tryd.underlying22 hi hz0 hz1 rfl .i64 .i64 _ _ 0 (s.length / 9 + 1) rfl rfl rfl (by go_num) (by omega) (by rw [hz2]; omega) (by omega) w.heap.size w (Below.refl _ _) (Nat.le_refl _) ?_; intro w1 hblk1 hb1 hb1' hlt1)
            have hown1 : w1.ownsRow w.heap.size 70 1 (.slice (some ⟨w.heap.size, 0, none⟩) 0 (s.length / 9 + 1)) 0 [] := by
              have := hblk1.own (base := w.heap.size) (n := 0) (Nat.le_refl _) (by omega) (by simp [maxLen]; omega)
              simpa using this
            clear hblk1 hb1' hlt1
            go_loopw [5, 6] (fun ov i wr => ∃ (k n : Nat), k ≤ s.length ∧ i = .int .i64 (k : Int) ∧ wr.ownsRow w.heap.size 70 1 ov (Nt.digs n).length (U (Nt.digs n)) ∧ Below w.heap.size w wr ∧ Hid (n = Ten.numOf (s.take k))) (fun _ i _ => s.length - (intOf i).toNat)
            case atStart => exact ⟨0, 0, by omega, rfl, by rw [Nt.digs_zero]; exact hown1, hb1, Lib.hid rfl⟩
            case round =>
              clear hown1 hb1
              obtain ⟨k, n, hk, rfl, hown, hbel, H2⟩ := hrel
              have hsz := hbel.size
              by_cases hlt : k < s.length
              · have hdl : (Nt.digs n).length ≤ 1000000 := by
                  have := num_len HVAL.out hk
                  rw [H2.out]; omega
                obtain ⟨E, hE⟩ : ∃ E : Nat, E = min (k + 9) s.length := ⟨_, rfl⟩
                have hE1 : k < E := by omega
                have hE2 : E ≤ s.length := by omega
                have hE3 : E ≤ k + 9 := by omega
                have hEi : min ((k : Int) + 9) (s.length : Int) = (E : Int) := by omega
                clear hE
                go_wp2_with fail
                go_loop [6, 7, 8] (fun av pv sv => ∃ (j p sc : Nat), k ≤ j ∧ j ≤ E ∧ p < 1000000000 ∧ 1 ≤ sc ∧ sc ≤ 1000000000 ∧ av = .int .i64 (j : Int) ∧ pv = .int .u32 (p : Int) ∧ sv = .int .u32 (sc : Int) ∧ Hid (PartAt s n k j p sc)) (fun av _ _ => E - (intOf av).toNat)
                case atStart => exact ⟨k, 0, 1, Nat.le_refl _, by omega, by omega, by omega, by omega, rfl, rfl, rfl, Lib.hid (PartAt.start H2.out)⟩
                case round =>
                  obtain ⟨j, p, sc, hj1, hj2, hp, hsc1, hsc2, rfl, rfl, rfl, HP⟩ := hrel
                  by_cases hjE : j < E
                  · have hjs : j < s.length := by omega
                    obtain ⟨y, hy⟩ : ∃ y, y = s[j].toNat := ⟨_, rfl⟩
                    have hgy : ((⟨s.toArray⟩ : ByteArray)[j]'(show j < (⟨s.toArray⟩ : ByteArray).size from hjs)).toNat = y := hy.symm
                    have hdg := HVAL.out.2.2 s[j] (List.getElem_mem hjs)
                    have ST := Lib.hid (HP.out.step hj1 hjs hdg)
                    have BD := HP.out.bound 8 (by omega)
                    simp only [Nat.reducePow] at BD
                    obtain ⟨_, hb1, hb2⟩ := BD
                    unfold Ten.isDig at hdg
                    rw [← hy] at ST hdg
                    obtain ⟨hd1, hd2⟩ := hdg
                    clear hy
                    go_wp2_with fail
                    exact ⟨⟨j + 1, 10 * p + (y - 48), sc * 10, by omega, by omega, by omega, by omega, by omega, by go_num, congrArg (Value.int .u32) (by omega), congrArg (Value.int .u32) (by omega), ST⟩, by simp [intOf]; omega⟩
                  · obtain rfl : j = E := by omega
                    have LEN := Lib.hid (lengthen_any w.heap.size _ n sc p wr hown hsz hdl hsc1 (by omega) (by omega))
                    clear hown
                    go_wp2_with (go_at_call 106; refine LEN.out.mono ?_; rintro e w2 ⟨v2, rfl, hown2, hb2⟩)
                    exact ⟨⟨j, n * sc + p, by omega, rfl, hown2, hbel.trans hb2, Lib.hid HP.out.2.2.symm⟩, by simp [intOf]; omega⟩
              · obtain rfl : k = s.length := by omega
                have HY := Lib.hid (NatTold.yes hbel HVAL.out (by have := H2.out; rw [List.take_length] at this; rw [← this]; exact IsRes.of_own hown))
                go_wp2_with fail
                go_ret2
                exact HY.out
      · go_wp2_with fail
        go_loop [24] (fun i => ∃ k : Nat, k ≤ s.length ∧ i = .int .i64 (k : Int) ∧ Hid (∀ j (hj : j < s.length), j < k → Ten.isDig s[j])) (fun i => s.length - (intOf i).toNat)
        case atStart => exact ⟨0, by omega, rfl, Lib.hid (fun j _ h => absurd h (by omega))⟩
        case round =>
          obtain ⟨k, hk, rfl, H⟩ := hrel
          by_cases hlt : k < s.length
          · obtain ⟨y, hy⟩ : ∃ y, y = s[k].toNat := ⟨_, rfl⟩
            have hgy : ((⟨s.toArray⟩ : ByteArray)[k]'(show k < (⟨s.toArray⟩ : ByteArray).size from hlt)).toNat = y := hy.symm
            have hy8 : y < 256 := by rw [hy]; exact UInt8.toNat_lt _
            by_cases hd : 48 ≤ y ∧ y ≤ 57
            · obtain ⟨hd1, hd2⟩ := hd
              have HD : Hid (∀ j (hj : j < s.length), j < k + 1 → Ten.isDig s[j]) := Lib.hid (fun j hj hjk => by
                by_cases e : j = k
                · subst e; exact ⟨by rw [← hy]; exact hd1, by rw [← hy]; exact hd2⟩
                · exact H.out j hj (by omega))
              clear hy
              go_wp2_with fail
              exact ⟨⟨k + 1, by omega, by go_num, HD⟩, by simp [intOf]; omega⟩
            · have HN := Lib.hid (NatTold.no (w := w) (w' := w) (s := s) (Below.refl _ _) (not_valid_at hlt (by rw [← hy]; omega)))
              have hc : y < 48 ∨ (48 ≤ y ∧ 57 < y) := by omega
              clear hy hd
              rcases hc with hc | ⟨hc, hc2⟩
              · go_wp2_with fail
                go_ret2
                exact HN.out
              · go_wp2_with fail
                go_ret2
                exact HN.out
          · obtain rfl : k = s.length := by omega
            have HVAL : Hid (Ten.Valid s) := Lib.hid ⟨HV.out.1, HV.out.2, fun b hb => by
              obtain ⟨j, hj, rfl⟩ := List.mem_iff_getElem.1 hb
              exact H.out j hj hj⟩
            clear hlt
            go_wp2_with (at_make; refine wpList_make_blk _ rfl _ _ 22 rfl 70 i0 (.int .u32 0) Tryd.underlying22 hi hz0 hz1 rfl .i64 .i64 _ _ 0 (s.length / 9 + 1) rfl rfl rfl (by go_num) (by omega) (by rw [hz2]; omega) (by omega) w.heap.size w (Below.refl _ _) (Nat.le_refl _) ?_; intro w1 hblk1 hb1 hb1' hlt1)
            have hown1 : w1.ownsRow w.heap.size 70 1 (.slice (some ⟨w.heap.size, 0, none⟩) 0 (s.length / 9 + 1)) 0 [] := by
              have := hblk1.own (base := w.heap.size) (n := 0) (Nat.le_refl _) (by omega) (by simp [maxLen]; omega)
              simpa using this
            clear hblk1 hb1' hlt1
            go_loopw [5, 6] (fun ov i wr => ∃ (k n : Nat), k ≤ s.length ∧ i = .int .i64 (k : Int) ∧ wr.ownsRow w.heap.size 70 1 ov (Nt.digs n).length (U (Nt.digs n)) ∧ Below w.heap.size w wr ∧ Hid (n = Ten.numOf (s.take k))) (fun _ i _ => s.length - (intOf i).toNat)
            case atStart => exact ⟨0, 0, by omega, rfl, by rw [Nt.digs_zero]; exact hown1, hb1, Lib.hid rfl⟩
            case round =>
              clear hown1 hb1
              obtain ⟨k, n, hk, rfl, hown, hbel, H2⟩ := hrel
              have hsz := hbel.size
              by_cases hlt : k < s.length
              · have hdl : (Nt.digs n).length ≤ 1000000 := by
                  have := num_len HVAL.out hk
                  rw [H2.out]; omega
                obtain ⟨E, hE⟩ : ∃ E : Nat, E = min (k + 9) s.length := ⟨_, rfl⟩
                have hE1 : k < E := by omega
                have hE2 : E ≤ s.length := by omega
                have hE3 : E ≤ k + 9 := by omega
                have hEi : min ((k : Int) + 9) (s.length : Int) = (E : Int) := by omega
                clear hE
                go_wp2_with fail
                go_loop [6, 7, 8] (fun av pv sv => ∃ (j p sc : Nat), k ≤ j ∧ j ≤ E ∧ p < 1000000000 ∧ 1 ≤ sc ∧ sc ≤ 1000000000 ∧ av = .int .i64 (j : Int) ∧ pv = .int .u32 (p : Int) ∧ sv = .int .u32 (sc : Int) ∧ Hid (PartAt s n k j p sc)) (fun av _ _ => E - (intOf av).toNat)
                case atStart => exact ⟨k, 0, 1, Nat.le_refl _, by omega, by omega, by omega, by omega, rfl, rfl, rfl, Lib.hid (PartAt.start H2.out)⟩
                case round =>
                  obtain ⟨j, p, sc, hj1, hj2, hp, hsc1, hsc2, rfl, rfl, rfl, HP⟩ := hrel
                  by_cases hjE : j < E
                  · have hjs : j < s.length := by omega
                    obtain ⟨y, hy⟩ : ∃ y, y = s[j].toNat := ⟨_, rfl⟩
                    have hgy : ((⟨s.toArray⟩ : ByteArray)[j]'(show j < (⟨s.toArray⟩ : ByteArray).size from hjs)).toNat = y := hy.symm
                    have hdg := HVAL.out.2.2 s[j] (List.getElem_mem hjs)
                    have ST := Lib.hid (HP.out.step hj1 hjs hdg)
                    have BD := HP.out.bound 8 (by omega)
                    simp only [Nat.reducePow] at BD
                    obtain ⟨_, hb1, hb2⟩ := BD
                    unfold Ten.isDig at hdg
                    rw [← hy] at ST hdg
                    obtain ⟨hd1, hd2⟩ := hdg
                    clear hy
                    go_wp2_with fail
                    exact ⟨⟨j + 1, 10 * p + (y - 48), sc * 10, by omega, by omega, by omega, by omega, by omega, by go_num, congrArg (Value.int .u32) (by omega), congrArg (Value.int .u32) (by omega), ST⟩, by simp [intOf]; omega⟩
                  · obtain rfl : j = E := by omega
                    have LEN := Lib.hid (lengthen_any w.heap.size _ n sc p wr hown hsz hdl hsc1 (by omega) (by omega))
                    clear hown
                    go_wp2_with (go_at_call 106; refine LEN.out.mono ?_; rintro e w2 ⟨v2, rfl, hown2, hb2⟩)
                    exact ⟨⟨j, n * sc + p, by omega, rfl, hown2, hbel.trans hb2, Lib.hid HP.out.2.2.symm⟩, by simp [intOf]; omega⟩
              · obtain rfl : k = s.length := by omega
                have HY := Lib.hid (NatTold.yes hbel HVAL.out (by have := H2.out; rw [List.take_length] at this; rw [← this]; exact IsRes.of_own hown))
                go_wp2_with fail
                go_ret2
                exact HY.out
end Go.Proofs.YtfiefglagknclaaDoor

/-
  What scrimref02.Text computes.
-/
namespace Nt
/-- Limbs divided from the top down, the quotient's put ahead of each other. -/
def TenDnAt (l : List Nat) (cur : List Nat) (k r : Nat) : Prop := cur.length + k = l.length ∧ Ok cur ∧ r < 10 ∧ val cur * 10 + r = val (l.drop k)
theorem tenDn_start (l : List Nat) : TenDnAt l [] l.length 0 := ⟨by simp, ok_nil, by omega, by simp [val]⟩
theorem tenDn_step {l cur : List Nat} {k r : Nat} (h : TenDnAt l cur (k + 1) r) (hk : k < l.length) (hl : Ok l) : TenDnAt l ((r * 4294967296 + l[k]) / 10 :: cur) k ((r * 4294967296 + l[k]) % 10) := by
  obtain ⟨h1, h2, h3, h4⟩ := h
  have hx := ok_get hl hk
  refine ⟨by simp; omega, fun d hd => ?_, by omega, ?_⟩
  · rcases List.mem_cons.1 hd with e | e
    · rw [e]; omega
    · exact h2 d e
  · rw [List.drop_eq_getElem_cons hk, val, val, ← h4]
    generalize l[k] = x at *
    generalize val cur = V at *
    omega
theorem tenDn_end {l cur : List Nat} {r : Nat} (h : TenDnAt l cur 0 r) : val cur = val l / 10 ∧ r = val l % 10 := by
  obtain ⟨h1, h2, h3, h4⟩ := h
  rw [List.drop_zero] at h4
  omega
end Nt
namespace Go.Proofs.YtfiefglagknclaaDoor
open Go.RowKit
set_option maxHeartbeats 1000000
set_option maxRecDepth 100000
set_option linter.unusedVariables false

def strLen : Value → Nat
  | .string b => b.size
  | _ => 0
theorem Lies.cells_ {w : World} {B : Nat} {ad : Addr} {xs : List Value} (h : Lies w B (some ad) xs) : ∀ j u, xs[j]? = some u → w.cell? (ad.add j) = some u := fun j u hj => by
  have hp : 0 < xs.length := by
    rcases Nat.lt_or_ge j xs.length with h' | h'
    · omega
    · rw [List.getElem?_eq_none h'] at hj; cases hj
  obtain ⟨ad', h1, h2⟩ := h.src hp
  injection h1 with h1
  subst h1
  exact h2 j u hj
theorem digit_cut {r : Nat} (h : r < 10) : (⟨#[48, 49, 50, 51, 52, 53, 54, 55, 56, 57]⟩ : ByteArray).extract r (r + 1) = ⟨#[Ten.dch r]⟩ := by
  match r, h with
  | 0, _ => decide
  | 1, _ => decide
  | 2, _ => decide
  | 3, _ => decide
  | 4, _ => decide
  | 5, _ => decide
  | 6, _ => decide
  | 7, _ => decide
  | 8, _ => decide
  | 9, _ => decide
def topE (k : Nat) : Nat := 10 ^ (10 * (k + 1))
theorem val_top (k : Nat) {l : List Nat} (ho : Nt.Ok l) (hs : l.length ≤ k + 1) : Nt.val l < topE k := by
  have h1 := Nt.val_lt ho
  have h2 : (4294967296 : Nat) ^ l.length ≤ 4294967296 ^ (k + 1) := Nat.pow_le_pow_right (by omega) hs
  have h3 : (4294967296 : Nat) ^ (k + 1) ≤ (10 ^ 10) ^ (k + 1) := Nat.pow_le_pow_left (by omega) (k + 1)
  rw [← Nat.pow_mul] at h3
  exact Nat.lt_of_lt_of_le h1 (Nat.le_trans h2 h3)
theorem dec_top (k : Nat) {n : Nat} (h : n < topE k) : (Lib.decDigits n).length ≤ 10 * (k + 1) := by
  have := (Ten.dec_len (k := 10 * k + 9) (r := n) (by rw [show 10 * k + 9 + 1 = 10 * (k + 1) by omega]; exact h)).2
  omega
theorem dec_bound {l : List Nat} (ho : Nt.Ok l) (hs : l.length ≤ 1000) : (Lib.decDigits (Nt.val l)).length ≤ 10000 := dec_top 999 (val_top 999 ho hs)
theorem OutAt_len {n y : Nat} {T : List UInt8} (h : Ten.OutAt n y T) : T.length ≤ (Lib.decDigits n).length ∧ (0 < y → T.length < (Lib.decDigits n).length) := by
  have hne := Ten.dec_ne y
  have : 0 < (Lib.decDigits y).length := List.length_pos_iff.2 hne
  rcases Nat.eq_zero_or_pos y with e | e
  · exact ⟨by rw [h.2 e]; exact Nat.le_refl _, fun h' => by omega⟩
  · have := h.1 e
    exact ⟨by rw [this, List.length_append]; omega, fun _ => by rw [this, List.length_append]; omega⟩

theorem refText_any (A : Option Addr) (c B : Nat) (l : List Nat) (w : World) (hl : Lies w B A (U l)) (hB : B ≤ w.heap.size) (ho : Nt.Ok l) (hc : l.length ≤ c) (hm : c ≤ 9223372036854775807) (hA : A = none → c = 0) (hs : l.length ≤ 1000) :
    Calls Tryd.prog 34 #[.slice A l.length c] w fun e w' => e = .returned (.string ⟨(Lib.decDigits (Nt.val l)).toArray⟩) ∧ Below w.heap.size w w' := by
  obtain ⟨i0, hi, hz0, hz1, hz2⟩ := info_parts u32_info
  have hdl := Nt.digs_len_le ho
  have hlen := dec_bound ho hs
  have RN := Lib.hid (refNorm_any A c B l w hl hB ho hc hm hA (by omega))
  clear hl ho
  generalize Nt.val l = n at *
  go_enter Tryd.func34, Tryd.ntmps34
  go_wp2_with fail
  refine RN.out.mono ?_
  rintro e w1 ⟨v, rfl, hres, hb1⟩
  obtain ⟨A1, c1, rfl, hc1, hc2, hc3, hlies⟩ := hres
  by_cases h0 : n = 0
  · subst h0
    rw [Nt.digs_zero]
    clear RN
    have HZ : Hid (Lib.decDigits 0 = [48]) := Lib.hid (Ten.dec_small (by omega))
    go_wp2_with fail
    go_ret
    rw [HZ.out]
    exact ⟨rfl, hb1⟩
  · have hne : (Nt.digs n).length ≠ 0 := fun e => h0 (Nt.digs_nil_iff.1 (List.eq_nil_of_length_eq_zero e))
    have hne2 : (((Nt.digs n).length : Int) == 0) = false := by rw [beq_eq_false_iff_ne]; omega
    clear RN
    go_wp2_with fail
    go_loopw [3, 4] (fun xv sv wr => ∃ (y : Nat) (T : List UInt8), (Nt.digs y).length ≤ 1000 ∧ T.length ≤ 10000 ∧ sv = .string ⟨T.toArray⟩ ∧ IsRes wr xv (Nt.digs y) ∧ Below w.heap.size w wr ∧ Hid (Ten.OutAt n y T)) (fun _ sv _ => 10001 - strLen sv)
    case atStart => exact ⟨n, [], by omega, by simp, rfl, ⟨A1, c1, rfl, hc1, hc2, hc3, hlies⟩, hb1, Lib.hid (Ten.OutAt.start (by omega))⟩
    case round =>
      clear hlies hc1 hc2 hc3 hb1 hne hne2
      obtain ⟨y, T, hyl, hT, rfl, ⟨A1, c1, rfl, hc1, hc2, hc3, hlies⟩, hbel, H⟩ := hrel
      have hsz := hbel.size
      by_cases hy0 : y = 0
      · subst hy0
        have HE := Lib.hid (H.out.2 rfl)
        rw [Nt.digs_zero]
        go_wp2_with fail
        go_ret
        rw [HE.out]
        exact ⟨rfl, hbel⟩
      · have hypos : 0 < (Nt.digs y).length := Nat.pos_of_ne_zero (fun e => hy0 (Nt.digs_nil_iff.1 (List.eq_nil_of_length_eq_zero e)))
        have hTl := (OutAt_len H.out).2 (by omega)
        have STEP := Lib.hid (H.out.step (by omega))
        have HDE : Hid (∀ cur r, Nt.TenDnAt (Nt.digs y) cur 0 r → Nt.val cur = y / 10 ∧ r = y % 10 ∧ Nt.Ok cur ∧ cur.length = (Nt.digs y).length) := Lib.hid (fun cur r h => by
          have := Nt.tenDn_end h
          rw [Nt.val_digs] at this
          exact ⟨this.1, this.2, h.2.1, by have := h.1; omega⟩)
        have HYL : Hid ((Nt.digs (y / 10)).length ≤ 1000) := Lib.hid (Nat.le_trans (Nt.digs_len_le_of (Nat.div_le_self y 10)) hyl)
        have OX := Lib.hid (Nt.ok_digs y)
        have DS := Lib.hid (Nt.tenDn_start (Nt.digs y))
        obtain ⟨dx, hdx⟩ : ∃ dx, dx = Nt.digs y := ⟨_, rfl⟩
        rw [← hdx] at hyl hc1 hlies hypos HDE OX DS ⊢
        clear hdx H
        rename World => W
        go_wp2_with fail
        go_loopw [5, 6, 7] (fun ov rv iv wq => ∃ (k r : Nat) (cur : List Nat), k ≤ dx.length ∧ r < 10 ∧ iv = .int .i64 ((k : Int) - 1) ∧ rv = .int .u64 (r : Int) ∧ IsRes wq ov cur ∧ Below W.heap.size W wq ∧ Hid (Nt.TenDnAt dx cur k r)) (fun _ _ iv _ => (intOf iv + 1).toNat)
        case atStart => exact ⟨dx.length, 0, [], Nat.le_refl _, by omega, by go_num, rfl, IsRes.none_ _, Below.refl _ _, DS⟩
        case round =>
          obtain ⟨k, r, cur, hk, hr, rfl, rfl, ⟨A2, c2, rfl, hd1, hd2, hd3, hl2⟩, hbq, HQ⟩ := hrel
          have hszq := hbq.size
          rcases k with _ | k
          · obtain ⟨hv1, hv2, hv3, hv4⟩ := HDE.out cur r HQ.out
            have RN := Lib.hid (refNorm_any A2 c2 _ cur wr hl2 (Nat.le_refl _) hv3 hd1 hd2 hd3 (by omega))
            rw [hv1] at RN
            rw [← hv2] at STEP
            have HDG := Lib.hid (digit_cut hr)
            have hcl : cur.length ≤ 1000 := by omega
            clear hv1 hv2 hv3 hv4 hl2 hd3 HDE DS OX
            go_wp2_with fail
            rw [HDG.out, show (⟨#[Ten.dch r]⟩ : ByteArray) ++ ⟨T.toArray⟩ = ⟨(Ten.dch r :: T).toArray⟩ from by
              apply ByteArray.ext; simp]
            refine RN.out.mono ?_
            rintro e w3 ⟨v3, rfl, hres3, hb3⟩
            have hyq : (Nt.digs (y / 10)).length ≤ 1000 := HYL.out
            go_wp2_with fail
            exact ⟨⟨y / 10, Ten.dch r :: T, hyq, by simp; omega, rfl, hres3, hbel.trans ((hbq.trans (hb3.mono hszq)).mono hsz), STEP⟩, by simp [strLen, ByteArray.size]; omega⟩
          · have hk1 : ((k + 1 : Nat) : Int) - 1 = (k : Int) := by omega
            rw [hk1]
            clear hk1
            have hkl : k < dx.length := by omega
            obtain ⟨b, off, rfl, hbb, hcell⟩ := (hlies.below hbq).limb hkl
            have hxb := Nt.ok_get OX.out hkl
            have ST := Lib.hid (Nt.tenDn_step HQ.out hkl OX.out)
            have hcl : cur.length + (k + 1) = dx.length := HQ.out.1
            generalize dx[k] = x at hcell hxb ST
            obtain ⟨t, ht⟩ : ∃ t, t = r * 4294967296 + x := ⟨_, rfl⟩
            have hti : (r : Int) * 4294967296 + (x : Int) = (t : Int) := by omega
            have htb : t < 42949672960 := by omega
            rw [← ht] at ST
            clear ht
            obtain ⟨q, hq⟩ : ∃ q, q = t / 10 := ⟨_, rfl⟩
            have hqi : (t : Int) / 10 = (q : Int) := by omega
            have hqb : q < 4294967296 := by omega
            obtain ⟨r2, hr2⟩ : ∃ r2, r2 = t % 10 := ⟨_, rfl⟩
            have hri : (t : Int) % 10 = (r2 : Int) := by omega
            have hrb : r2 < 10 := by omega
            rw [← hq, ← hr2] at ST
            clear hq hr2
            have hown1 : (wr.alloc (.cells #[.int .u32 (q : Int)] 70)).ownsRow W.heap.size 70 1 (.slice (some ⟨wr.heap.size, 0, none⟩) 1 1) 1 [.int .u32 (q : Int)] := (Blk.new wr 70 [.int .u32 (q : Int)]).own_all hszq (by simp [maxLen])
            have hb4 := hbq.alloc hszq (.cells #[.int .u32 (q : Int)] 70)
            rcases A2 with _ | ad
            · have hc0 : c2 = 0 := hd3 rfl
              subst hc0
              obtain rfl : cur = [] := List.eq_nil_of_length_eq_zero (by omega)
              go_wp2_with (at_builtin; refine wpList_append_own_none rfl _ _ 22 rfl W.heap.size 70 i0 1 Tryd.underlying22 hi _ 1 _ rfl hown1 rfl ?_)
              refine ⟨⟨k, r2, [q], by omega, hrb, by go_num, congrArg (Value.int .u64) (by omega), IsRes.of_own (base := W.heap.size) hown1, hb4, ST⟩, ?_⟩
              first | (simp [intOf]; done) | (simp [intOf]; omega)
            · have hl3 : Lies (wr.alloc (.cells #[.int .u32 (q : Int)] 70)) wr.heap.size (some ad) (U cur) := Lies.below (show Lies wr wr.heap.size (some ad) (U cur) from hl2) ((Below.refl _ _).alloc (Nat.le_refl _) _)
              clear hd3
              go_wp2_with (at_builtin; refine wpList_append_own _ rfl _ _ 22 rfl W.heap.size 70 i0 (.int .u32 0) 1 4 Tryd.underlying22 hi hz0 hz1 hz2 rfl (by decide) _ 1 _ rfl hown1 ad cur.length c2 (U cur) rfl (by rw [U_len]; omega) (Lies.cells_ hl3) (U_one _) (by unfold maxLen; omega) (by omega) (by simp; omega) ?_; intro v3 w3 hown3 hgrow3 hnn3)
              have hb3 : Below W.heap.size W w3 := hb4.grown hgrow3 (by simp; omega) (fun k hk => by injection hk with hk; subst hk; exact hszq)
              refine ⟨⟨k, r2, q :: cur, by omega, hrb, by go_num, congrArg (Value.int .u64) (by omega), IsRes.of_own (base := W.heap.size) ?_, hb3, ST⟩, ?_⟩
              · rw [Nat.add_comm] at hown3; exact hown3
              · first | (simp [intOf]; done) | (simp [intOf]; omega)
end Go.Proofs.YtfiefglagknclaaDoor
