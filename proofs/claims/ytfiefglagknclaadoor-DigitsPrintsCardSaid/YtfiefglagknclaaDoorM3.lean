/-
  Texts of this proof, joined (by wip/bin/bundle.py): Dig1, Dig2, Rat2, Nat10, LongMath, LongMath2, Long1, Long2, LongMath3, LongMath4, Long3.
-/
import Derived.Test.YtfiefglagknclaaDoorM2
import Derived.Laws.BitsAllLaws
import Derived.Lib.BitFns
import Derived.Deep.QuietTactic
import Derived.BigQuiet
import Derived.IntWalk
/-
  Whole numbers and ratios of the program: ratio.isOne, whole.signed, whole.Norm, ratio.top, ratio.Int. (Printed by wip/bin/gen_dig1.py.)
-/
namespace Go.Proofs.YtfiefglagknclaaDoor
open Go.RowKit
set_option maxHeartbeats 4000000
set_option maxRecDepth 100000
set_option linter.unusedVariables false

theorem isOne_any (v : Value) (l : List Nat) (w : World) (h : IsRes w v l) :
    Calls Tryd.prog 59 #[v] w fun e w' => e = .returned (.bool (l == [1])) ∧ w = w' := by
  obtain ⟨A, c, rfl, h1, h2, h3, h4⟩ := h
  by_cases hl : l.length = 1
  · obtain ⟨x, rfl⟩ : ∃ x, l = [x] := by
      match l, hl with
      | [x], _ => exact ⟨x, rfl⟩
    obtain ⟨b, off, rfl, hb, g0⟩ := h4.at_ (k := 0) (by simp [U])
    have g1 : w.cell? ⟨b, off, none⟩ = some (.int .u32 (x : Int)) := by simpa [U] using g0
    have HQ : Hid (([x] == [1]) = (x == 1)) := Lib.hid (by simp [List.cons_beq_cons])
    have hlen : ([x] : List Nat).length = 1 := rfl
    clear g0 h4 h3 hl hlen
    by_cases hx : x = 1
    · subst hx
      go_enter Tryd.func59, Tryd.ntmps59
      go_wp2_with fail
      go_ret
      exact ⟨ret_bool (by rw [HQ.out]; rfl), rfl⟩
    · have q : ((x : Int) == 1) = false := beq_eq_false_iff_ne.2 (by omega)
      have HQ2 : Hid ((x == 1) = false) := Lib.hid (beq_eq_false_iff_ne.2 hx)
      clear hx
      go_enter Tryd.func59, Tryd.ntmps59
      go_wp2_with fail
      go_ret
      exact ⟨ret_bool (by rw [HQ.out, HQ2.out]), rfl⟩
  · have q : ((l.length : Int) == 1) = false := beq_eq_false_iff_ne.2 (by omega)
    have HQ : Hid ((l == [1]) = false) := Lib.hid (by
      rw [beq_eq_false_iff_ne]; rintro rfl; exact hl rfl)
    clear hl h4
    generalize l.length = n at *
    go_enter Tryd.func59, Tryd.ntmps59
    go_wp2_with fail
    go_ret
    exact ⟨ret_bool (by rw [HQ.out]), rfl⟩

/-- A whole number, made anew. -/
def WholeOut (w : World) (n : Bool) (l : List Nat) (e : Ending) (w' : World) : Prop := ∃ v, e = .returned (.agg #[.bool n, v]) ∧ IsRes w' v l ∧ Below w.heap.size w w'
theorem whole2_info : (Tryd.prog.info? 58).map (·.size) = some 2 := by kernel_rfl

theorem signed_any (n : Bool) (v : Value) (l : List Nat) (w : World) (h : IsRes w v l) :
    Calls Tryd.prog 93 #[.bool n, v] w (WholeOut w (n && !(l == [])) l) := by
  have HR := Lib.hid h
  obtain ⟨A, c, rfl, h1, h2, h3, h4⟩ := h
  have HI2 : Hid (∀ (b : Bool) (A : Option Addr) (k c : Nat), (Tryd.prog.info? 58).map (·.size) = some (#[.bool b, .slice A k c] : Array Value).size) := Lib.hid (fun _ _ _ _ => whole2_info)
  have HG1 : Hid (∀ o, (w.alloc o).heap[w.heap.size]? = some o) := Lib.hid (fun o => heap_alloc_new w o)
  have hb : ∀ o, Below w.heap.size w (w.alloc o) := fun o => (Below.refl _ _).alloc (Nat.le_refl _) _
  have HB := Lib.hid hb
  clear h3 h4 hb
  by_cases hl : l.length = 0
  · have q : ((l.length : Int) == 0) = true := beq_iff_eq.2 (by omega)
    have HL : Hid (l = []) := Lib.hid (List.eq_nil_of_length_eq_zero hl)
    clear hl
    go_enter Tryd.func93, Tryd.ntmps93
    go_wp2_with (with_reducible refine wpList_store_row rfl 58 (.tmp 4) (.tmp 8) rfl w.heap.size #[.bool false, .slice none 0 0] rfl rfl 58 #[.bool false, .slice none 0 0] (HG1.out _) (HI2.out _ _ _ _) rfl (two_one _ _ _ _) ?_)
    refine bodyPost_ret (results_cell_row (by rfl) _ _ w.heap.size 58 #[.bool false, .slice none 0 0] (0, 0) _ (by rfl) (rheap_same (HG1.out _)) Tryd.underlying58 rfl (HI2.out _ _ _ _)) rfl ⟨.slice none 0 0, by rw [HL.out]; simp, by rw [HL.out]; exact IsRes.none_ _, rBelow.setRow (HB.out _) (Nat.le_refl _) _⟩
  · have q : ((l.length : Int) == 0) = false := beq_eq_false_iff_ne.2 (by omega)
    have HL : Hid ((l == []) = false) := Lib.hid (by rw [beq_eq_false_iff_ne]; rintro rfl; exact hl rfl)
    clear hl
    go_enter Tryd.func93, Tryd.ntmps93
    go_wp2_with (with_reducible refine wpList_store_row rfl 58 (.tmp 4) (.tmp 11) rfl w.heap.size #[.bool n, .slice A l.length c] rfl rfl 58 #[.bool false, .slice none 0 0] (HG1.out _) (HI2.out _ _ _ _) rfl (two_one _ _ _ _) ?_)
    refine bodyPost_ret (results_cell_row (by rfl) _ _ w.heap.size 58 #[.bool n, .slice A l.length c] (0, 0) _ (by rfl) (rheap_same (HG1.out _)) Tryd.underlying58 rfl (HI2.out _ _ _ _)) rfl ⟨.slice A l.length c, by rw [HL.out]; simp, (HR.out.below (HB.out _)).setRow (HG1.out _) (two_no_int _ _ _ _) _, rBelow.setRow (HB.out _) (Nat.le_refl _) _⟩
end Go.Proofs.YtfiefglagknclaaDoor

/-
  Whole numbers and ratios of the program: whole.Norm, ratio.top, ratio.Int. (Printed by wip/bin/gen_dig2.py.)
-/
namespace Go.Proofs.YtfiefglagknclaaDoor
open Go.RowKit
set_option maxHeartbeats 4000000
set_option maxRecDepth 100000
set_option linter.unusedVariables false

theorem nrm_digs (n : Bool) (x : Nat) : (n && !(Nt.digs x == [])) = Rt.nrm n x := by
  unfold Rt.nrm
  congr 2
  rw [Bool.eq_iff_iff]
  simp only [beq_iff_eq]
  exact Nt.digs_nil_iff
theorem wNorm_res {w : World} {v : Value} {l : List Nat} (h1 : IsRes w v l) (o1 : Nt.Ok l) (s1 : l.length ≤ 1000000) :
    Calls Tryd.prog 53 #[v] w fun e w' => ∃ v, e = .returned v ∧ IsRes w' v (Nt.digs (Nt.val l)) ∧ Below w.heap.size w w' := by
  obtain ⟨A, c, rfl, a1, a2, a3, a4⟩ := h1
  have hd := Nt.digs_len_le o1
  refine (norm_any A c w.heap.size l w a4 (Nat.le_refl _) o1 a1 a2 (by omega)).mono ?_
  rintro e w' ⟨rfl, r, hb'⟩
  exact ⟨_, rfl, ⟨_, _, rfl, Nat.le_refl _, by omega, (fun h => by cases h), r.lies⟩, hb'⟩
def frameWN (g : Nat) (n : Bool) (V : Value) (xs : Nat → Value) : Act := { tmps := #[.agg #[.bool n, V], .pointer (some ⟨g, 0, none⟩), .pointer (some ⟨g + 1, 0, none⟩), xs 0, xs 1, xs 2, xs 3, xs 4, xs 5], defers := [] }
def predWN (g : Nat) (n : Bool) (V : Value) (l : List Nat) : Nat → World → Value → Prop
  | 0, w, v => v = .pointer (some ⟨g, 0, none⟩)
  | 1, w, v => v = .bool n
  | 2, w, v => v = .pointer (some ⟨g, 1, none⟩)
  | 3, w, v => v = V
  | 4, w, v => IsRes w v (Nt.digs (Nt.val l))
  | _, w, v => ∃ u, v = .agg #[.bool (Rt.nrm n (Nt.val l)), u] ∧ IsRes w u (Nt.digs (Nt.val l))

theorem wholeNorm_any (n : Bool) (v : Value) (l : List Nat) (w : World) (h : IsRes w v l) (ho : Nt.Ok l) (hs : l.length ≤ 1000000) :
    Calls Tryd.prog 60 #[.agg #[.bool n, v]] w (WholeOut w (Rt.nrm n (Nt.val l)) (Nt.digs (Nt.val l))) := by
  obtain ⟨g, hg⟩ : ∃ g, g = w.heap.size := ⟨_, rfl⟩
  obtain ⟨W, hW⟩ : ∃ W, W = (w.alloc (.cells #[.bool n, v] 58)).alloc (.cells #[.bool false, .slice none 0 0] 58) := ⟨_, rfl⟩
  have hWs : W.heap.size = g + 1 + 1 := by rw [hW, hg]; simp
  have hWb : Below g w W := by rw [hW, hg]; exact ((Below.refl _ _).alloc (Nat.le_refl _) _).alloc (by simp) _
  have hW0 : W.heap[g]? = some (.cells #[.bool n, v] 58 (0, 0)) := by rw [hW, hg]; exact heap_alloc2_old _ _ _
  have HW1 : Hid (W.heap[g + 1]? = some (.cells #[.bool false, .slice none 0 0] 58 (0, 0))) := Lib.hid (by rw [hW, hg]; exact heap_alloc2_new _ _ _)
  have HQ : Hid (∀ wx, Below W.heap.size W wx → wx.cell? ⟨g, 0, none⟩ = some (.bool n) ∧ wx.cell? ⟨g, 1, none⟩ = some v) := Lib.hid (fun wx hx => by
    have hb := (hx.block g (by omega)).trans hW0
    exact ⟨(cell_of_row wx g 0 _ _ _ hb).trans rfl, (cell_of_row wx g 1 _ _ _ hb).trans rfl⟩)
  have hrb : ∀ wx, Below W.heap.size W wx → IsRes wx v l := fun wx hx => (h.below (by rw [← hg]; exact hWb)).below hx
  have NN := Lib.hid (fun (wx : World) (hx : Below W.heap.size W wx) => wNorm_res (hrb wx hx) ho hs)
  have SG : Hid (∀ (wx : World) (u : Value), IsRes wx u (Nt.digs (Nt.val l)) → Calls Tryd.prog 93 #[.bool n, u] wx (WholeOut wx (Rt.nrm n (Nt.val l)) (Nt.digs (Nt.val l)))) := Lib.hid (fun wx u hu => by
    have := signed_any n u _ wx hu
    rwa [nrm_digs] at this)
  have HI2 : Hid (∀ (b : Bool) (A : Option Addr) (k c : Nat), (Tryd.prog.info? 58).map (·.size) = some (#[.bool b, .slice A k c] : Array Value).size) := Lib.hid (fun _ _ _ _ => whole2_info)
  have HW := Lib.hid hW
  have HG := Lib.hid hg
  have hgl : g + 1 < W.heap.size := by omega
  obtain ⟨A, c, rfl, -⟩ := h
  clear hW hW0 hrb hWs
  go_enter Tryd.func60, Tryd.ntmps60
  go_wp2_with fail
  rw [← HW.out, ← hg]
  clear hg
  refine wp_region_last (frameWN g n (.slice A l.length c)) W (predWN g n (.slice A l.length c) l) 6 (by kernel_rfl) (by rfl) ?_ (by kernel_rfl) (by kernel_rfl) (fun _ => undef) rfl (Below.refl _ _) ?_ ?_
  · intro i w1 w2 v hv hb
    match i with
    | 0 => exact hv
    | 1 => exact hv
    | 2 => exact hv
    | 3 => exact hv
    | 4 => exact hv.below hb
    | i + 5 => exact (by obtain ⟨u, e, r⟩ := hv; exact ⟨u, e, r.below hb⟩)
  · intro i xs w1 hi hb hdep
    have hi6 : i < 6 := hi
    clear hi
    rcases (show i = 0 ∨ i = 1 ∨ i = 2 ∨ i = 3 ∨ i = 4 ∨ i = 5 by omega) with rfl | rfl | rfl | rfl | rfl | rfl
    · refine wpOp_at rfl rfl ?_
      unfold frameWN Oper.wp
      go_simp
      exact ⟨_, by simp only [frameWN, upd]; simp [Act.put], rfl, Below.refl _ _⟩
    · have h0 : xs 0 = .pointer (some ⟨g, 0, none⟩) := hdep 0 (by kernel_rfl)
      refine wpOp_at rfl rfl ?_
      have q := (HQ.out w1 hb).1
      unfold frameWN Oper.wp
      simp only [h0]
      go_simp
      exact ⟨_, by simp only [frameWN, upd]; simp [Act.put, h0], rfl, Below.refl _ _⟩
    · refine wpOp_at rfl rfl ?_
      unfold frameWN Oper.wp
      go_simp
      exact ⟨_, by simp only [frameWN, upd]; simp [Act.put], rfl, Below.refl _ _⟩
    · have h2 : xs 2 = .pointer (some ⟨g, 1, none⟩) := hdep 2 (by kernel_rfl)
      refine wpOp_at rfl rfl ?_
      have q := (HQ.out w1 hb).2
      unfold frameWN Oper.wp
      simp only [h2]
      go_simp
      exact ⟨_, by simp only [frameWN, upd]; simp [Act.put, h2], rfl, Below.refl _ _⟩
    · have h3 : xs 3 = (.slice A l.length c) := hdep 3 (by kernel_rfl)
      refine wpOp_at rfl rfl ?_
      unfold frameWN Oper.wp
      simp only [h3]
      go_simp
      refine (NN.out w1 hb).mono ?_
      rintro e w2 ⟨v', rfl, hr, hb2⟩
      exact ⟨_, by simp only [frameWN, upd]; simp [Act.put, h3], hr, hb2⟩
    · have h1 : xs 1 = .bool n := hdep 1 (by kernel_rfl)
      have r4 : IsRes w1 (xs 4) (Nt.digs (Nt.val l)) := hdep 4 (by kernel_rfl)
      refine wpOp_at rfl rfl ?_
      unfold frameWN Oper.wp
      simp only [h1]
      go_simp
      refine (SG.out w1 _ r4).mono ?_
      rintro e w2 ⟨u, rfl, hr, hb2⟩
      exact ⟨_, by simp only [frameWN, upd]; simp [Act.put, h1], ⟨u, rfl, hr⟩, hb2⟩
  · intro xs w1 hb hx
    obtain ⟨u, h5, r5⟩ : ∃ u, xs 5 = .agg #[.bool (Rt.nrm n (Nt.val l)), u] ∧ IsRes w1 u (Nt.digs (Nt.val l)) := hx 5 (by decide)
    clear hx
    have HR := Lib.hid r5
    obtain ⟨A5, c5, rfl, -⟩ := r5
    have HG1 := Lib.hid ((hb.block (g + 1) (by omega)).trans HW1.out)
    refine wpOp_at rfl rfl ?_
    refine wp_store_row 58 (.tmp 2) (.tmp 8) rfl (g + 1) #[.bool (Rt.nrm n (Nt.val l)), .slice A5 (Nt.digs (Nt.val l)).length c5] rfl (by unfold frameWN; simp only [h5]; rfl) 58 #[.bool false, .slice none 0 0] HG1.out (HI2.out _ _ _ _) rfl (two_one _ _ _ _) ?_
    have hbf := rBelow.setRow (hWb.trans (hb.mono (by omega))) (show g ≤ g + 1 by omega) #[.bool (Rt.nrm n (Nt.val l)), .slice A5 (Nt.digs (Nt.val l)).length c5]
    unfold frameWN
    go_wp2_with fail
    refine bodyPost_ret (results_cell_row (by rfl) _ _ (g + 1) 58 #[.bool (Rt.nrm n (Nt.val l)), .slice A5 (Nt.digs (Nt.val l)).length c5] (0, 0) _ (by rfl) (rheap_same HG1.out) Tryd.underlying58 rfl (HI2.out _ _ _ _)) rfl ⟨_, rfl, HR.out.setRow HG1.out (two_no_int _ _ _ _) _, ?_⟩
    rw [← HG.out]; exact hbf
end Go.Proofs.YtfiefglagknclaaDoor

/-
  Numbers by the reference: scrimref04.Top, Bot, Make. (Printed by wip/bin/gen_rat2.py.)
-/
namespace Go.Proofs.YtfiefglagknclaaDoor
open Go.RowKit
set_option maxHeartbeats 4000000
set_option maxRecDepth 100000
set_option linter.unusedVariables false

theorem top_any (n : Bool) (v1 v2 : Value) (l1 l2 : List Nat) (w : World) (h1 : ResL w v1 l1) (h2 : ResL w v2 l2) :
    Calls Tryd.prog 25 #[.agg #[.bool n, v1, v2]] w (Int3Out w (Rt.nrm n (Nt.val l1)) (Nt.digs (Nt.val l1))) := by
  have hb0 : ∀ o1 o2, Below w.heap.size w ((w.alloc o1).alloc o2) := fun o1 o2 => ((Below.refl _ _).alloc (Nat.le_refl _) _).alloc (by simp) _
  have HN := Lib.hid (fun o1 o2 => norm3_any n v1 _ _ (h1.below (hb0 o1 o2)))
  have HB := Lib.hid hb0
  obtain ⟨⟨A1, c1, rfl, -⟩, -⟩ := h1
  obtain ⟨⟨A2, c2, rfl, -⟩, -⟩ := h2
  clear hb0
  generalize Rt.nrm n (Nt.val l1) = n2 at *
  generalize Nt.digs (Nt.val l1) = d2 at *
  generalize l1.length = k1 at *
  generalize l2.length = k2 at *
  have HI2 : Hid (∀ (b : Bool) (A : Option Addr) (k c : Nat), (Tryd.prog.info? 55).map (·.size) = some (#[.bool b, .slice A k c] : Array Value).size) := Lib.hid (fun _ _ _ _ => int3_info)
  go_enter Tryd.func25, Tryd.ntmps25
  go_wp2_with fail
  refine (HN.out _ _).mono ?_
  rintro e w2 ⟨v3, rfl, hr2, hb2⟩
  have hb3 := (HB.out _ _).trans (hb2.mono (HB.out _ _).size)
  have HG1 : Hid (w2.heap[w.heap.size + 1]? = some (.cells #[.bool false, .slice none 0 0] 55 (0, 0))) := Lib.hid ((hb2.block (w.heap.size + 1) (by simp)).trans (by
    have := heap_alloc_new (w.alloc (.cells #[.bool n, .slice A1 k1 c1, .slice A2 k2 c2] 24)) (.cells #[.bool false, .slice none 0 0] 55)
    rwa [show (w.alloc (.cells #[.bool n, .slice A1 k1 c1, .slice A2 k2 c2] 24)).heap.size = w.heap.size + 1 by simp] at this))
  have HR2 := Lib.hid (hr2.setRow HG1.out (two_no_int _ _ _ _) #[.bool n2, v3])
  obtain ⟨⟨A3, c3, rfl, -⟩, -⟩ := hr2
  clear hb2
  generalize d2.length = k3 at *
  go_wp2_with (first
    | (with_reducible refine wpList_store_row rfl 55 (.tmp 2) (.tmp 8) rfl (w.heap.size + 1) #[.bool n2, .slice A3 k3 c3] rfl rfl 55 #[.bool false, .slice none 0 0] HG1.out (HI2.out _ _ _ _) rfl (two_one _ _ _ _) ?_))
  refine bodyPost_ret (results_cell_row (by rfl) _ _ (w.heap.size + 1) 55 #[.bool n2, .slice A3 k3 c3] (0, 0) _ (by rfl) (rheap_same HG1.out) Tryd.underlying55 rfl (HI2.out _ _ _ _)) rfl ⟨.slice A3 k3 c3, rfl, HR2.out, rBelow.setRow hb3 (by omega) _⟩

theorem bot_any (n : Bool) (v1 v2 : Value) (l1 l2 : List Nat) (w : World) (h1 : ResL w v1 l1) (h2 : ResL w v2 l2) :
    Calls Tryd.prog 26 #[.agg #[.bool n, v1, v2]] w (Int3Out w (Rt.nrm false (Nt.val l2)) (Nt.digs (Nt.val l2))) := by
  have hb0 : ∀ o1 o2, Below w.heap.size w ((w.alloc o1).alloc o2) := fun o1 o2 => ((Below.refl _ _).alloc (Nat.le_refl _) _).alloc (by simp) _
  have HN := Lib.hid (fun o1 o2 => norm3_any false v2 _ _ (h2.below (hb0 o1 o2)))
  have HB := Lib.hid hb0
  obtain ⟨⟨A1, c1, rfl, -⟩, -⟩ := h1
  obtain ⟨⟨A2, c2, rfl, -⟩, -⟩ := h2
  clear hb0
  generalize Rt.nrm false (Nt.val l2) = n2 at *
  generalize Nt.digs (Nt.val l2) = d2 at *
  generalize l1.length = k1 at *
  generalize l2.length = k2 at *
  have HI2 : Hid (∀ (b : Bool) (A : Option Addr) (k c : Nat), (Tryd.prog.info? 55).map (·.size) = some (#[.bool b, .slice A k c] : Array Value).size) := Lib.hid (fun _ _ _ _ => int3_info)
  go_enter Tryd.func26, Tryd.ntmps26
  go_wp2_with fail
  refine (HN.out _ _).mono ?_
  rintro e w2 ⟨v3, rfl, hr2, hb2⟩
  have hb3 := (HB.out _ _).trans (hb2.mono (HB.out _ _).size)
  have HG1 : Hid (w2.heap[w.heap.size + 1]? = some (.cells #[.bool false, .slice none 0 0] 55 (0, 0))) := Lib.hid ((hb2.block (w.heap.size + 1) (by simp)).trans (by
    have := heap_alloc_new (w.alloc (.cells #[.bool n, .slice A1 k1 c1, .slice A2 k2 c2] 24)) (.cells #[.bool false, .slice none 0 0] 55)
    rwa [show (w.alloc (.cells #[.bool n, .slice A1 k1 c1, .slice A2 k2 c2] 24)).heap.size = w.heap.size + 1 by simp] at this))
  have HR2 := Lib.hid (hr2.setRow HG1.out (two_no_int _ _ _ _) #[.bool n2, v3])
  obtain ⟨⟨A3, c3, rfl, -⟩, -⟩ := hr2
  clear hb2
  generalize d2.length = k3 at *
  go_wp2_with (first
    | (with_reducible refine wpList_store_row rfl 55 (.tmp 2) (.tmp 6) rfl (w.heap.size + 1) #[.bool n2, .slice A3 k3 c3] rfl rfl 55 #[.bool false, .slice none 0 0] HG1.out (HI2.out _ _ _ _) rfl (two_one _ _ _ _) ?_))
  refine bodyPost_ret (results_cell_row (by rfl) _ _ (w.heap.size + 1) 55 #[.bool n2, .slice A3 k3 c3] (0, 0) _ (by rfl) (rheap_same HG1.out) Tryd.underlying55 rfl (HI2.out _ _ _ _)) rfl ⟨.slice A3 k3 c3, rfl, HR2.out, rBelow.setRow hb3 (by omega) _⟩

/-- What holds while the operations of 'x, y := Norm(p), Norm(q)' come up. -/
structure MI (w : World) (P Q : Array Value) (N1 N2 : Bool) (D1 D2 : List Nat) (b0 b1 b2 b3 b4 b5 b6 b7 : Bool) (x15 x16 x17 x18 x6 x7 : Value) (wx : World) : Prop where
  below : Below w.heap.size w wx
  v15 : b0 = true → x15 = .agg P
  v16 : b1 = true → ∃ v, x16 = .agg #[.bool N1, v] ∧ ResL wx v D1
  v17 : b2 = true → x17 = .agg Q
  v18 : b3 = true → ∃ v, x18 = .agg #[.bool N2, v] ∧ ResL wx v D2
  v6 : b4 = true → ∃ g n A k c, x6 = .pointer (some ⟨g, 0, none⟩) ∧ w.heap.size ≤ g ∧ wx.heap[g]? = some (.cells #[.bool n, .slice A k c] 55 (0, 0)) ∧ (b6 = true → x16 = .agg #[.bool n, .slice A k c])
  v7 : b5 = true → ∃ g n A k c, x7 = .pointer (some ⟨g, 0, none⟩) ∧ w.heap.size ≤ g ∧ wx.heap[g]? = some (.cells #[.bool n, .slice A k c] 55 (0, 0)) ∧ (b7 = true → x18 = .agg #[.bool n, .slice A k c])
  o6 : b6 = true → b4 = true ∧ b1 = true
  o7 : b7 = true → b5 = true ∧ b3 = true
  ne : b4 = true → b5 = true → x6 ≠ x7
def frameM (g : Nat) (P Q : Array Value) (x15 x16 x17 x18 x6 x7 : Value) : Act := { tmps := #[.agg P, .agg Q, .pointer (some ⟨g, 0, none⟩), .pointer (some ⟨g + 1, 0, none⟩), .pointer (some ⟨g + 1 + 1, 0, none⟩), .int .i64 0, x6, x7, undef, undef, undef, undef, undef, undef, undef, x15, x16, x17, x18, undef, undef, undef, undef, undef, undef, undef, undef, undef, undef, undef, undef, undef, undef, undef, undef, undef, undef, undef, undef, undef, undef, undef, undef, undef, undef, undef, undef, undef, undef, undef, undef, undef, undef, undef, undef, undef, undef, undef, undef, undef, undef, undef, undef, undef, undef, undef, undef], defers := [] }
def MInv (w : World) (g : Nat) (P Q : Array Value) (N1 N2 : Bool) (D1 D2 : List Nat) (l : Array Bool) (a : Act) (wx : World) : Prop :=
  ∃ b0 b1 b2 b3 b4 b5 b6 b7 x15 x16 x17 x18 x6 x7, l = #[b0, b1, b2, b3, b4, b5, b6, b7] ∧ a = frameM g P Q x15 x16 x17 x18 x6 x7 ∧ MI w P Q N1 N2 D1 D2 b0 b1 b2 b3 b4 b5 b6 b7 x15 x16 x17 x18 x6 x7 wx
theorem rheap_far {w : World} {g g' : Nat} {cs : Array Value} (h : g ≠ g') : (w.setRow g cs).heap[g']? = w.heap[g']? := by
  simp only [World.setRow, Array.getElem?_modify]
  rw [if_neg (by omega)]
theorem blk_lt {w : World} {g : Nat} {o : Obj} (h : w.heap[g]? = some o) : g < w.heap.size := by
  rcases Nat.lt_or_ge g w.heap.size with hl | hl
  · exact hl
  · rw [Array.getElem?_eq_none hl] at h; cases h
theorem mem_ready' {md : Region.Mode} {ops : Array Oper} {l : Array Bool} {i : Nat} (h : i < ops.size) (h1 : l.getD i true = false) (h2 : ((ops[i]?).map (·.after.all fun e => !Region.binds md e || l.getD e.on false)).getD false = true) : i ∈ Region.ready md ops l := by
  simp only [Region.ready, List.mem_filter, List.mem_range, Bool.and_eq_true, Bool.not_eq_true']
  exact ⟨h, h1, h2⟩
theorem ready_nil' {md : Region.Mode} {ops : Array Oper} {l : Array Bool} (hr : Region.ready md ops l = []) (i : Nat) (h : i < ops.size) (h2 : ((ops[i]?).map (·.after.all fun e => !Region.binds md e || l.getD e.on false)).getD false = true) : l.getD i true = true := by
  cases e : l.getD i true
  · have := mem_ready' h e h2
    rw [hr] at this; cases this
  · rfl
theorem results_cell_row_tmp {P : Program} {fn : Func} {p u : Tmp} {ty : TypeId} (h : fn.results = #[.cell p ty, .tmp u]) (tmps : Array Value) (w : World) (g : Nat) (t : TypeId) (cs : Array Value) (fr : Nat × Nat) (d : TypeDesc) (x : Value)
    (hp : tmps.getD p undef = .pointer (some ⟨g, 0, none⟩)) (hx : tmps.getD u undef = x) (hg : w.heap[g]? = some (.cells cs t fr))
    (hu : P.underlying ty = some d) (hd : (match d with | .struct _ | .array _ _ => true | _ => false) = true) (hi : (P.info? ty).map (·.size) = some cs.size) :
    (results fn tmps).run P w = .ok (.tuple #[.agg cs, x]) w := by
  have hp' : tmps[p]?.getD undef = .pointer (some ⟨g, 0, none⟩) := by simpa using hp
  have hx' : tmps[u]?.getD undef = x := by simpa using hx
  simp [results, h, hp', hx', asAddr, run_loadVar_row w g t ty cs fr d hg hu hd hi]
theorem isRes_nil (w : World) : IsRes w (.slice none 0 0) [] := ⟨none, 0, rfl, Nat.le_refl _, by omega, fun _ => rfl, .inl rfl⟩
/-- A number, and the error. -/
def MakeOut (w : World) (r : Rt.Nm × Int) (e : Ending) (w' : World) : Prop := ∃ t u, e = .returned (.tuple #[.agg #[.bool r.1.neg, t, u], .int .i64 r.2]) ∧ IsRes w' t r.1.top ∧ IsRes w' u r.1.bot ∧ Below w.heap.size w w'
theorem MakeOut.of {w w' : World} {r : Rt.Nm × Int} {e : Ending} {b : Bool} {t u : Value} {l l' : List Nat} {er : Int} (hr : r = (⟨b, l, l'⟩, er)) (he : e = .returned (.tuple #[.agg #[.bool b, t, u], .int .i64 er])) (h1 : IsRes w' t l) (h2 : IsRes w' u l') (h3 : Below w.heap.size w w') : MakeOut w r e w' := by
  subst hr; exact ⟨t, u, he, h1, h2, h3⟩

theorem make_any (n1 n2 : Bool) (v1 v2 : Value) (l1 l2 : List Nat) (w : World) (h1 : ResL w v1 l1) (h2 : ResL w v2 l2) :
    Calls Tryd.prog 24 #[.agg #[.bool n1, v1], .agg #[.bool n2, v2]] w (MakeOut w (Rt.mk n1 n2 (Nt.val l1) (Nt.val l2))) := by
  obtain ⟨W, hW⟩ : ∃ W, W = ((w.alloc (.cells #[.bool n1, v1] 55)).alloc (.cells #[.bool n2, v2] 55)).alloc (.cells #[.bool false, .slice none 0 0, .slice none 0 0] 24) := ⟨_, rfl⟩
  have hWs : W.heap.size = w.heap.size + 1 + 1 + 1 := by rw [hW]; simp
  have hWb : Below w.heap.size w W := by rw [hW]; exact (((Below.refl _ _).alloc (Nat.le_refl _) _).alloc (by simp) _).alloc (by simp; omega) _
  have hW0 : W.heap[w.heap.size]? = some (.cells #[.bool n1, v1] 55 (0, 0)) := by rw [hW]; exact (Below.heap_alloc _ _ _ (by simp; omega)).trans (heap_alloc2_old _ _ _)
  have hW1 : W.heap[w.heap.size + 1]? = some (.cells #[.bool n2, v2] 55 (0, 0)) := by rw [hW]; exact (Below.heap_alloc _ _ _ (by simp)).trans (heap_alloc2_new _ _ _)
  have hW2 : W.heap[w.heap.size + 1 + 1]? = some (.cells #[.bool false, .slice none 0 0, .slice none 0 0] 24 (0, 0)) := by
    rw [hW]
    have := heap_alloc_new ((w.alloc (.cells #[.bool n1, v1] 55)).alloc (.cells #[.bool n2, v2] 55)) (.cells #[.bool false, .slice none 0 0, .slice none 0 0] 24)
    rwa [show ((w.alloc (.cells #[.bool n1, v1] 55)).alloc (.cells #[.bool n2, v2] 55)).heap.size = w.heap.size + 1 + 1 by simp] at this
  have HN1 := Lib.hid (fun (wx : World) (hx : Below W.heap.size W wx) => norm3_any n1 v1 _ wx ((h1.below hWb).below hx))
  have HN2 := Lib.hid (fun (wx : World) (hx : Below W.heap.size W wx) => norm3_any n2 v2 _ wx ((h2.below hWb).below hx))
  have HW := Lib.hid hW
  have HW0 := Lib.hid hW0
  have HW1 := Lib.hid hW1
  have HW2 := Lib.hid hW2
  rw [← Rt.mk_nrm]
  obtain ⟨⟨A1, c1, rfl, -⟩, -⟩ := h1
  obtain ⟨⟨A2, c2, rfl, -⟩, -⟩ := h2
  generalize Rt.nrm n1 (Nt.val l1) = N1 at *
  generalize Rt.nrm n2 (Nt.val l2) = N2 at *
  generalize Nt.val l1 = X at *
  generalize Nt.val l2 = Y at *
  generalize l1.length = z1 at *
  generalize l2.length = z2 at *
  clear hW hW0 hW1 hW2
  go_enter Tryd.func24, Tryd.ntmps24
  go_wp2_with fail
  rw [← HW.out]
  have hWl : w.heap.size + 1 + 1 < W.heap.size := by omega
  have HWS := Lib.hid hWs
  clear hWs
  refine wp_region_any (by kernel_rfl) ?_
  refine wpAny_inv (MInv W w.heap.size #[.bool n1, .slice A1 z1 c1] #[.bool n2, .slice A2 z2 c2] N1 N2 (Nt.digs X) (Nt.digs Y)) ?_ ?_ 8 _ _ _ (by decide) ⟨false, false, false, false, false, false, false, false, undef, undef, undef, undef, undef, undef, rfl, rfl, ⟨⟨rfl, rfl, rfl, Nat.le_refl _, fun _ _ => rfl⟩, nofun, nofun, nofun, nofun, nofun, nofun, nofun, nofun, nofun⟩⟩
  · rintro _ _ wx ⟨b0, b1, b2, b3, b4, b5, b6, b7, x15, x16, x17, x18, x6, x7, rfl, rfl, hJ⟩ i hi
    obtain ⟨h8, hl, ha⟩ := ready_mem hi
    have h8' : i < 8 := h8
    clear h8 hi
    have hsz := hJ.below.size
    rcases (show i = 0 ∨ i = 1 ∨ i = 2 ∨ i = 3 ∨ i = 4 ∨ i = 5 ∨ i = 6 ∨ i = 7 by omega) with rfl | rfl | rfl | rfl | rfl | rfl | rfl | rfl
    · refine wpOp_at rfl rfl ?_
      refine wp_load_row 55 (.tmp 2) rfl w.heap.size rfl 55 #[.bool n1, .slice A1 z1 c1] (0, 0) _ ((hJ.below.block w.heap.size (by omega)).trans HW0.out) Tryd.underlying55 rfl int3_info ?_
      exact ⟨true, b1, b2, b3, b4, b5, b6, b7, _, x16, x17, x18, x6, x7, rfl, rfl, { hJ with v15 := fun _ => rfl }⟩
    · have h0 : b0 = true := by simpa [Region.binds] using ha
      subst h0
      have hb1 : b1 = false := hl
      subst hb1
      have hb6 : b6 = false := by
        cases b6
        · rfl
        · exact absurd (hJ.o6 rfl).2 (by decide)
      subst hb6
      obtain rfl := hJ.v15 rfl
      refine wpOp_at rfl rfl ?_
      unfold frameM Oper.wp
      go_simp
      refine ((HN1.out _ hJ.below).mono ?_)
      rintro e w2 ⟨v3, rfl, hr3, hb2⟩
      exact ⟨true, true, b2, b3, b4, b5, false, b7, _, _, x17, x18, x6, x7, rfl, rfl, { hJ with
        below := hJ.below.trans (hb2.mono hsz)
        v16 := fun _ => ⟨v3, rfl, hr3⟩
        v18 := fun h => by obtain ⟨v, e, r⟩ := hJ.v18 h; exact ⟨v, e, r.below hb2⟩
        v6 := fun h => by obtain ⟨g, n, A, k, c, q1, q2, q3, q4⟩ := hJ.v6 h; exact ⟨g, n, A, k, c, q1, q2, (hb2.block g (blk_lt q3)).trans q3, nofun⟩
        v7 := fun h => by obtain ⟨g, n, A, k, c, q1, q2, q3, q4⟩ := hJ.v7 h; exact ⟨g, n, A, k, c, q1, q2, (hb2.block g (blk_lt q3)).trans q3, q4⟩
        o6 := nofun }⟩
    · refine wpOp_at rfl rfl ?_
      refine wp_load_row 55 (.tmp 3) rfl (w.heap.size + 1) rfl 55 #[.bool n2, .slice A2 z2 c2] (0, 0) _ ((hJ.below.block (w.heap.size + 1) (by omega)).trans HW1.out) Tryd.underlying55 rfl int3_info ?_
      exact ⟨b0, b1, true, b3, b4, b5, b6, b7, x15, x16, _, x18, x6, x7, rfl, rfl, { hJ with v17 := fun _ => rfl }⟩
    · have h0 : b2 = true ∧ b1 = true := by simpa [Region.binds] using ha
      obtain ⟨rfl, rfl⟩ := h0
      have hb3 : b3 = false := hl
      subst hb3
      have hb7 : b7 = false := by
        cases b7
        · rfl
        · exact absurd (hJ.o7 rfl).2 (by decide)
      subst hb7
      obtain rfl := hJ.v17 rfl
      refine wpOp_at rfl rfl ?_
      unfold frameM Oper.wp
      go_simp
      refine ((HN2.out _ hJ.below).mono ?_)
      rintro e w2 ⟨v3, rfl, hr3, hb2⟩
      exact ⟨b0, true, true, true, b4, b5, b6, false, x15, x16, _, _, x6, x7, rfl, rfl, { hJ with
        below := hJ.below.trans (hb2.mono hsz)
        v18 := fun _ => ⟨v3, rfl, hr3⟩
        v16 := fun h => by obtain ⟨v, e, r⟩ := hJ.v16 h; exact ⟨v, e, r.below hb2⟩
        v6 := fun h => by obtain ⟨g, n, A, k, c, q1, q2, q3, q4⟩ := hJ.v6 h; exact ⟨g, n, A, k, c, q1, q2, (hb2.block g (blk_lt q3)).trans q3, q4⟩
        v7 := fun h => by obtain ⟨g, n, A, k, c, q1, q2, q3, q4⟩ := hJ.v7 h; exact ⟨g, n, A, k, c, q1, q2, (hb2.block g (blk_lt q3)).trans q3, nofun⟩
        o7 := nofun }⟩
    · have hb4 : b4 = false := hl
      subst hb4
      have hb6 : b6 = false := by
        cases b6
        · rfl
        · exact absurd (hJ.o6 rfl).1 (by decide)
      subst hb6
      refine wpOp_at rfl rfl ?_
      unfold frameM Oper.wp
      go_simp
      have hba : Below wx.heap.size wx (wx.alloc (.cells #[.bool false, .slice none 0 0] 55)) := (Below.refl _ _).alloc (Nat.le_refl _) _
      exact ⟨b0, b1, b2, b3, true, b5, false, b7, x15, x16, x17, x18, _, x7, rfl, rfl, { hJ with
        below := hJ.below.alloc hsz _
        v16 := fun h => by obtain ⟨v, e, r⟩ := hJ.v16 h; exact ⟨v, e, r.below hba⟩
        v18 := fun h => by obtain ⟨v, e, r⟩ := hJ.v18 h; exact ⟨v, e, r.below hba⟩
        v6 := fun _ => ⟨wx.heap.size, false, none, 0, 0, rfl, hsz, heap_alloc_new _ _, nofun⟩
        v7 := fun h => by obtain ⟨g, n, A, k, c, q1, q2, q3, q4⟩ := hJ.v7 h; exact ⟨g, n, A, k, c, q1, q2, (hba.block g (blk_lt q3)).trans q3, q4⟩
        o6 := nofun
        ne := fun _ h => by
          obtain ⟨g, n, A, k, c, q1, q2, q3, q4⟩ := hJ.v7 h
          have := blk_lt q3
          rw [q1]; intro e; injection e with e; injection e with e; injection e with e; omega }⟩
    · have hb5 : b5 = false := hl
      subst hb5
      have hb7 : b7 = false := by
        cases b7
        · rfl
        · exact absurd (hJ.o7 rfl).1 (by decide)
      subst hb7
      refine wpOp_at rfl rfl ?_
      unfold frameM Oper.wp
      go_simp
      have hba : Below wx.heap.size wx (wx.alloc (.cells #[.bool false, .slice none 0 0] 55)) := (Below.refl _ _).alloc (Nat.le_refl _) _
      exact ⟨b0, b1, b2, b3, b4, true, b6, false, x15, x16, x17, x18, x6, _, rfl, rfl, { hJ with
        below := hJ.below.alloc hsz _
        v16 := fun h => by obtain ⟨v, e, r⟩ := hJ.v16 h; exact ⟨v, e, r.below hba⟩
        v18 := fun h => by obtain ⟨v, e, r⟩ := hJ.v18 h; exact ⟨v, e, r.below hba⟩
        v7 := fun _ => ⟨wx.heap.size, false, none, 0, 0, rfl, hsz, heap_alloc_new _ _, nofun⟩
        v6 := fun h => by obtain ⟨g, n, A, k, c, q1, q2, q3, q4⟩ := hJ.v6 h; exact ⟨g, n, A, k, c, q1, q2, (hba.block g (blk_lt q3)).trans q3, q4⟩
        o7 := nofun
        ne := fun h _ => by
          obtain ⟨g, n, A, k, c, q1, q2, q3, q4⟩ := hJ.v6 h
          have := blk_lt q3
          rw [q1]; intro e; injection e with e; injection e with e; injection e with e; omega }⟩
    · have h0 : b4 = true ∧ b1 = true ∧ b3 = true ∧ b0 = true ∧ b1 = true ∧ b4 = true ∧ b5 = true := by simpa [Region.binds] using ha
      obtain ⟨rfl, rfl, rfl, rfl, -, -, rfl⟩ := h0
      have hb6 : b6 = false := hl
      subst hb6
      obtain ⟨g, n, A, k, c, rfl, q2, q3, q4⟩ := hJ.v6 rfl
      obtain ⟨g', n', A', k', c', rfl, q2', q3', q4'⟩ := hJ.v7 rfl
      have hne : g ≠ g' := fun e => hJ.ne rfl rfl (by rw [e])
      obtain ⟨v, rfl, hr⟩ := hJ.v16 rfl
      obtain ⟨v', rfl, hr'⟩ := hJ.v18 rfl
      have hrs := hr.setRow q3 (two_no_int _ _ _ _) #[.bool N1, v]
      have hrs' := hr'.setRow q3 (two_no_int _ _ _ _) #[.bool N1, v]
      obtain ⟨⟨A3, c3, rfl, -⟩, -⟩ := hr
      refine wpOp_at rfl rfl ?_
      refine wp_store_row 55 (.tmp 6) (.tmp 16) rfl g #[.bool N1, .slice A3 (Nt.digs X).length c3] rfl rfl 55 _ q3 int3_info rfl (two_one _ _ _ _) ?_
      exact ⟨true, true, b2, true, true, true, true, b7, x15, _, x17, _, _, _, rfl, rfl, { hJ with
        below := rBelow.setRow hJ.below q2 _
        v16 := fun _ => ⟨_, rfl, hrs⟩
        v18 := fun _ => ⟨v', rfl, hrs'⟩
        v6 := fun _ => ⟨g, _, _, _, _, rfl, q2, rheap_same q3, fun _ => rfl⟩
        v7 := fun _ => ⟨g', n', A', k', c', rfl, q2', (rheap_far hne).trans q3', q4'⟩
        o6 := fun _ => ⟨rfl, rfl⟩ }⟩
    · have h0 : b5 = true ∧ b3 = true ∧ b6 = true ∧ b0 = true ∧ b1 = true ∧ b2 = true ∧ b3 = true ∧ b4 = true ∧ b5 = true ∧ b6 = true := by simpa [Region.binds] using ha
      obtain ⟨rfl, rfl, rfl, rfl, rfl, rfl, -, rfl, -, -⟩ := h0
      have hb7 : b7 = false := hl
      subst hb7
      obtain ⟨g, n, A, k, c, rfl, q2, q3, q4⟩ := hJ.v6 rfl
      obtain ⟨g', n', A', k', c', rfl, q2', q3', q4'⟩ := hJ.v7 rfl
      have hne : g' ≠ g := fun e => hJ.ne rfl rfl (by rw [e])
      obtain ⟨v, rfl, hr⟩ := hJ.v16 rfl
      obtain ⟨v', rfl, hr'⟩ := hJ.v18 rfl
      have hrs := hr.setRow q3' (two_no_int _ _ _ _) #[.bool N2, v']
      have hrs' := hr'.setRow q3' (two_no_int _ _ _ _) #[.bool N2, v']
      obtain ⟨⟨A3, c3, rfl, -⟩, -⟩ := hr'
      refine wpOp_at rfl rfl ?_
      refine wp_store_row 55 (.tmp 7) (.tmp 18) rfl g' #[.bool N2, .slice A3 (Nt.digs Y).length c3] rfl rfl 55 _ q3' int3_info rfl (two_one _ _ _ _) ?_
      exact ⟨true, true, true, true, true, true, true, true, x15, _, x17, _, _, _, rfl, rfl, { hJ with
        below := rBelow.setRow hJ.below q2' _
        v16 := fun _ => ⟨v, rfl, hrs⟩
        v18 := fun _ => ⟨_, rfl, hrs'⟩
        v7 := fun _ => ⟨g', _, _, _, _, rfl, q2', rheap_same q3', fun _ => rfl⟩
        v6 := fun _ => ⟨g, n, A, k, c, rfl, q2, (rheap_far hne).trans q3, q4⟩
        o7 := fun _ => ⟨rfl, rfl⟩ }⟩
  · rintro _ _ wx ⟨b0, b1, b2, b3, b4, b5, b6, b7, x15, x16, x17, x18, x6, x7, rfl, rfl, hJ⟩ hr
    have e0 : b0 = true := ready_nil' hr 0 (by decide) (by simp [Region.binds])
    subst e0
    have e1 : b1 = true := ready_nil' hr 1 (by decide) (by simp [Region.binds])
    subst e1
    have e2 : b2 = true := ready_nil' hr 2 (by decide) (by simp [Region.binds])
    subst e2
    have e3 : b3 = true := ready_nil' hr 3 (by decide) (by simp [Region.binds])
    subst e3
    have e4 : b4 = true := ready_nil' hr 4 (by decide) (by simp [Region.binds])
    subst e4
    have e5 : b5 = true := ready_nil' hr 5 (by decide) (by simp [Region.binds])
    subst e5
    have e6 : b6 = true := ready_nil' hr 6 (by decide) (by simp [Region.binds])
    subst e6
    have e7 : b7 = true := ready_nil' hr 7 (by decide) (by simp [Region.binds])
    subst e7
    clear hr
    obtain ⟨g, n, A, k, c, rfl, q2, q3, q4⟩ := hJ.v6 rfl
    obtain ⟨g', n', A', k', c', rfl, q2', q3', q4'⟩ := hJ.v7 rfl
    have hne : g ≠ g' := fun e => hJ.ne rfl rfl (by rw [e])
    obtain ⟨v, rfl, hr1⟩ := hJ.v16 rfl
    obtain ⟨v', rfl, hr2⟩ := hJ.v18 rfl
    have e := q4 rfl
    simp at e
    obtain ⟨e, rfl⟩ := e
    subst e
    have e := q4' rfl
    simp at e
    obtain ⟨e, rfl⟩ := e
    subst e
    have hxb := hJ.below
    have hxs := hxb.size
    have p0 : wx.cell? ⟨g, 0, none⟩ = some (.bool N1) := (cell_of_row wx g 0 _ _ _ q3).trans rfl
    have p1 : wx.cell? ⟨g, 1, none⟩ = some (.slice A k c) := (cell_of_row wx g 1 _ _ _ q3).trans rfl
    have p0' : wx.cell? ⟨g', 0, none⟩ = some (.bool N2) := (cell_of_row wx g' 0 _ _ _ q3').trans rfl
    have p1' : wx.cell? ⟨g', 1, none⟩ = some (.slice A' k' c') := (cell_of_row wx g' 1 _ _ _ q3').trans rfl
    have hgl := blk_lt q3
    have hgl' := blk_lt q3'
    have HR1 := Lib.hid hr1
    have HR2 := Lib.hid hr2
    clear hJ hr1 hr2 q3 q3' q4 q4' HN1 HN2
    obtain ⟨hd1, o1, s1⟩ := HR1.out
    obtain ⟨hd2, o2, s2⟩ := HR2.out
    have f1 : k = (Nt.digs X).length := by obtain ⟨_, _, e, _⟩ := hd1; injection e
    have f2 : k' = (Nt.digs Y).length := by obtain ⟨_, _, e, _⟩ := hd2; injection e
    have s1' : k ≤ 64 := by omega
    have s2' : k' ≤ 64 := by omega
    have HD1 := Lib.hid hd1
    have HD2 := Lib.hid hd2
    have HY0 : Hid (k' = 0 ↔ Y = 0) := Lib.hid (by rw [f2, List.length_eq_zero_iff, Nt.digs_nil_iff])
    have HF := Lib.hid (And.intro f1 f2)
    clear f1 f2 hd1 hd2
    unfold frameM
    have HI3 : Hid (∀ (b : Bool) (A : Option Addr) (k c : Nat) (A' : Option Addr) (k' c' : Nat), (Tryd.prog.info? 24).map (·.size) = some (#[.bool b, .slice A k c, .slice A' k' c'] : Array Value).size) := Lib.hid (fun _ _ _ _ _ _ _ => num_info)
    have hxw : Below w.heap.size w wx := hWb.trans (hxb.mono (by omega))
    have HGA := Lib.hid ((hxb.block (w.heap.size + 1 + 1) (by omega)).trans HW2.out)
    by_cases hk0 : k' = 0
    · have hz : ((k' : Int) == 0) = true := by rw [hk0]; rfl
      have HK0 := Lib.hid (HY0.out.1 hk0)
      clear hk0
      go_wp2_with (first
        | (with_reducible refine wpList_store_row rfl 24 (.tmp 4) (.tmp 23) rfl (w.heap.size + 1 + 1) #[.bool false, .slice none 0 0, .slice none 0 0] rfl rfl 24 #[.bool false, .slice none 0 0, .slice none 0 0] HGA.out (HI3.out _ _ _ _ _ _ _) rfl (three_one _ _ _ _ _ _ _) ?_))
      refine bodyPost_ret (results_cell_row_tmp (by rfl) _ _ (w.heap.size + 1 + 1) 24 #[.bool false, .slice none 0 0, .slice none 0 0] (0, 0) _ _ (by rfl) (by rfl) (rheap_same HGA.out) Tryd.underlying24 rfl (HI3.out _ _ _ _ _ _ _)) rfl (MakeOut.of (by unfold Rt.mk; rw [if_pos HK0.out]; rfl) rfl (isRes_nil _) (isRes_nil _) (rBelow.setRow hxw (by omega) _))
    · have hz : ((k' : Int) == 0) = false := beq_eq_false_iff_ne.2 (by omega)
      have HY1 : Hid (Y ≠ 0) := Lib.hid (fun h => hk0 (HY0.out.2 h))
      have hgl64 := Nt.gcd_len o1 o2 s1 s2
      have GC := Lib.hid (refGcd64_any (.slice A k c) (.slice A' k' c') (Nt.digs X) (Nt.digs Y) wx HD1.out HD2.out o1 o2 s1 s2)
      have HOG := Lib.hid (Nt.ok_digs (Nat.gcd (Nt.val (Nt.digs X)) (Nt.val (Nt.digs Y))))
      have HGV : Hid (Nt.val (Nt.digs (Nat.gcd (Nt.val (Nt.digs X)) (Nt.val (Nt.digs Y)))) = Nat.gcd X Y) := Lib.hid (by rw [Nt.val_digs, Nt.val_digs, Nt.val_digs])
      generalize Nt.digs (Nat.gcd (Nt.val (Nt.digs X)) (Nt.val (Nt.digs Y))) = gd at *
      clear hk0
      go_wp2_with fail
      refine GC.out.mono ?_
      rintro e w3 ⟨v3, rfl, hr3, hb3⟩
      have r0 : w3.cell? ⟨g, 0, none⟩ = some (.bool N1) := (hb3.cell (p := ⟨g, 0, none⟩) hgl).trans p0
      have r1 : w3.cell? ⟨g, 1, none⟩ = some (.slice A k c) := (hb3.cell (p := ⟨g, 1, none⟩) hgl).trans p1
      have r0' : w3.cell? ⟨g', 0, none⟩ = some (.bool N2) := (hb3.cell (p := ⟨g', 0, none⟩) hgl').trans p0'
      have r1' : w3.cell? ⟨g', 1, none⟩ = some (.slice A' k' c') := (hb3.cell (p := ⟨g', 1, none⟩) hgl').trans p1'
      have DM := Lib.hid (rDivMod_res (w0 := w3) (HD1.out.below hb3) hr3 o1 HOG.out (by omega) (by omega) (Below.refl _ _))
      clear p0 p1 p0' p1' GC
      go_wp2_with fail
      refine DM.out.mono ?_
      rintro e w4 ⟨u1, u2, rfl, t1, t2, hb4, -⟩
      have hs3 := hb3.size
      have r0 : w4.cell? ⟨g, 0, none⟩ = some (.bool N1) := (hb4.cell (p := ⟨g, 0, none⟩) (show g < _ by omega)).trans r0
      have r0' : w4.cell? ⟨g', 0, none⟩ = some (.bool N2) := (hb4.cell (p := ⟨g', 0, none⟩) (show g' < _ by omega)).trans r0'
      have r1' : w4.cell? ⟨g', 1, none⟩ = some (.slice A' k' c') := (hb4.cell (p := ⟨g', 1, none⟩) (show g' < _ by omega)).trans r1'
      have DN := Lib.hid (rDivMod_res (w0 := w4) ((HD2.out.below hb3).below hb4) (hr3.below hb4) o2 HOG.out (by omega) (by omega) (Below.refl _ _))
      clear DM
      go_wp2_with fail
      refine DN.out.mono ?_
      rintro e w5 ⟨u3, u4, rfl, t3, t4, hb5, -⟩
      have hs4 := hb4.size
      have hs5 := hb5.size
      have r0 : w5.cell? ⟨g, 0, none⟩ = some (.bool N1) := (hb5.cell (p := ⟨g, 0, none⟩) (show g < _ by omega)).trans r0
      have r0' : w5.cell? ⟨g', 0, none⟩ = some (.bool N2) := (hb5.cell (p := ⟨g', 0, none⟩) (show g' < _ by omega)).trans r0'
      have HGB := Lib.hid ((hb5.block (w.heap.size + 1 + 1) (by omega)).trans ((hb4.block (w.heap.size + 1 + 1) (by omega)).trans ((hb3.block (w.heap.size + 1 + 1) (by omega)).trans HGA.out)))
      have hbw : Below w.heap.size w w5 := ((hxw.trans (hb3.mono (by omega))).trans (hb4.mono (by omega))).trans (hb5.mono (by omega))
      have HT1 := Lib.hid (t1.below hb5)
      have HT3 := Lib.hid t3
      clear t1 t2 t3 t4 hr3 DN
      obtain ⟨e1, he1⟩ : ∃ e1, e1 = Nt.digs (Nt.quo (Nt.val (Nt.digs X)) (Nt.val gd)) := ⟨_, rfl⟩
      obtain ⟨e2, he2⟩ : ∃ e2, e2 = Nt.digs (Nt.quo (Nt.val (Nt.digs Y)) (Nt.val gd)) := ⟨_, rfl⟩
      rw [← he1] at HT1
      rw [← he2] at HT3
      rw [HGV.out, Nt.val_digs] at he1 he2
      have HE1 : Hid (e1 = Nt.digs (X / Nat.gcd X Y)) := Lib.hid he1
      have HE2 : Hid (e2 = Nt.digs (Y / Nat.gcd X Y)) := Lib.hid he2
      have HX0 : Hid (e1.length = 0 ↔ X = 0) := Lib.hid (by rw [he1, List.length_eq_zero_iff, Nt.digs_nil_iff]; exact Rt.div_gcd_zero HY1.out)
      clear he1 he2
      obtain ⟨B1, a1, rfl, y1, y2, -⟩ := HT1.out
      obtain ⟨B2, a2, rfl, y3, y4, -⟩ := HT3.out
      by_cases h32 : 32 < e1.length
      · have g1 : decide ((32 : Int) < (e1.length : Int)) = true := by simp; omega
        go_wp2_with (first
          | (with_reducible refine wpList_store_row rfl 24 (.tmp 4) (.tmp 53) rfl (w.heap.size + 1 + 1) #[.bool false, .slice none 0 0, .slice none 0 0] rfl rfl 24 #[.bool false, .slice none 0 0, .slice none 0 0] HGB.out (HI3.out _ _ _ _ _ _ _) rfl (three_one _ _ _ _ _ _ _) ?_))
        refine bodyPost_ret (results_cell_row_tmp (by rfl) _ _ (w.heap.size + 1 + 1) 24 #[.bool false, .slice none 0 0, .slice none 0 0] (0, 0) _ _ (by rfl) (by rfl) (rheap_same HGB.out) Tryd.underlying24 rfl (HI3.out _ _ _ _ _ _ _)) rfl (MakeOut.of (by unfold Rt.mk; rw [if_neg HY1.out, ← HE1.out, ← HE2.out, if_pos (by omega)]; rfl) rfl (isRes_nil _) (isRes_nil _) (rBelow.setRow hbw (by omega) _))
      · by_cases h33 : 32 < e2.length
        · have g1 : decide ((32 : Int) < (e1.length : Int)) = false := by simp; omega
          have g2 : decide ((32 : Int) < (e2.length : Int)) = true := by simp; omega
          go_wp2_with (first
            | (with_reducible refine wpList_store_row rfl 24 (.tmp 4) (.tmp 53) rfl (w.heap.size + 1 + 1) #[.bool false, .slice none 0 0, .slice none 0 0] rfl rfl 24 #[.bool false, .slice none 0 0, .slice none 0 0] HGB.out (HI3.out _ _ _ _ _ _ _) rfl (three_one _ _ _ _ _ _ _) ?_))
          refine bodyPost_ret (results_cell_row_tmp (by rfl) _ _ (w.heap.size + 1 + 1) 24 #[.bool false, .slice none 0 0, .slice none 0 0] (0, 0) _ _ (by rfl) (by rfl) (rheap_same HGB.out) Tryd.underlying24 rfl (HI3.out _ _ _ _ _ _ _)) rfl (MakeOut.of (by unfold Rt.mk; rw [if_neg HY1.out, ← HE1.out, ← HE2.out, if_pos (by omega)]; rfl) rfl (isRes_nil _) (isRes_nil _) (rBelow.setRow hbw (by omega) _))
        · have g1 : decide ((32 : Int) < (e1.length : Int)) = false := by simp; omega
          have g2 : decide ((32 : Int) < (e2.length : Int)) = false := by simp; omega
          by_cases h34 : 0 < e1.length
          · have g3 : decide ((0 : Int) < (e1.length : Int)) = true := decide_eq_true (by omega)
            have HXB : Hid ((X == 0) = false) := Lib.hid (by have := HX0.out; simp; omega)
            cases N1
            · cases N2
              · skip
                go_wp2_with (first
                  | (with_reducible refine wpList_store_row rfl 24 (.tmp 4) (.tmp 66) rfl (w.heap.size + 1 + 1) #[.bool false, .slice B1 e1.length a1, .slice B2 e2.length a2] rfl rfl 24 #[.bool false, .slice none 0 0, .slice none 0 0] HGB.out (HI3.out _ _ _ _ _ _ _) rfl (three_one _ _ _ _ _ _ _) ?_))
                refine bodyPost_ret (results_cell_row_tmp (by rfl) _ _ (w.heap.size + 1 + 1) 24 #[.bool false, .slice B1 e1.length a1, .slice B2 e2.length a2] (0, 0) _ _ (by rfl) (by rfl) (rheap_same HGB.out) Tryd.underlying24 rfl (HI3.out _ _ _ _ _ _ _)) rfl (MakeOut.of (by unfold Rt.mk; rw [if_neg HY1.out, ← HE1.out, ← HE2.out, if_neg (by omega), HXB.out]; rfl) rfl (HT1.out.setRow HGB.out (three_no_int _ _ _ _ _ _ _) _) (HT3.out.setRow HGB.out (three_no_int _ _ _ _ _ _ _) _) (rBelow.setRow hbw (by omega) _))
              · skip
                go_wp2_with (first
                  | (with_reducible refine wpList_store_row rfl 24 (.tmp 4) (.tmp 66) rfl (w.heap.size + 1 + 1) #[.bool true, .slice B1 e1.length a1, .slice B2 e2.length a2] rfl rfl 24 #[.bool false, .slice none 0 0, .slice none 0 0] HGB.out (HI3.out _ _ _ _ _ _ _) rfl (three_one _ _ _ _ _ _ _) ?_))
                refine bodyPost_ret (results_cell_row_tmp (by rfl) _ _ (w.heap.size + 1 + 1) 24 #[.bool true, .slice B1 e1.length a1, .slice B2 e2.length a2] (0, 0) _ _ (by rfl) (by rfl) (rheap_same HGB.out) Tryd.underlying24 rfl (HI3.out _ _ _ _ _ _ _)) rfl (MakeOut.of (by unfold Rt.mk; rw [if_neg HY1.out, ← HE1.out, ← HE2.out, if_neg (by omega), HXB.out]; rfl) rfl (HT1.out.setRow HGB.out (three_no_int _ _ _ _ _ _ _) _) (HT3.out.setRow HGB.out (three_no_int _ _ _ _ _ _ _) _) (rBelow.setRow hbw (by omega) _))
            · cases N2
              · skip
                go_wp2_with (first
                  | (with_reducible refine wpList_store_row rfl 24 (.tmp 4) (.tmp 66) rfl (w.heap.size + 1 + 1) #[.bool true, .slice B1 e1.length a1, .slice B2 e2.length a2] rfl rfl 24 #[.bool false, .slice none 0 0, .slice none 0 0] HGB.out (HI3.out _ _ _ _ _ _ _) rfl (three_one _ _ _ _ _ _ _) ?_))
                refine bodyPost_ret (results_cell_row_tmp (by rfl) _ _ (w.heap.size + 1 + 1) 24 #[.bool true, .slice B1 e1.length a1, .slice B2 e2.length a2] (0, 0) _ _ (by rfl) (by rfl) (rheap_same HGB.out) Tryd.underlying24 rfl (HI3.out _ _ _ _ _ _ _)) rfl (MakeOut.of (by unfold Rt.mk; rw [if_neg HY1.out, ← HE1.out, ← HE2.out, if_neg (by omega), HXB.out]; rfl) rfl (HT1.out.setRow HGB.out (three_no_int _ _ _ _ _ _ _) _) (HT3.out.setRow HGB.out (three_no_int _ _ _ _ _ _ _) _) (rBelow.setRow hbw (by omega) _))
              · skip
                go_wp2_with (first
                  | (with_reducible refine wpList_store_row rfl 24 (.tmp 4) (.tmp 66) rfl (w.heap.size + 1 + 1) #[.bool false, .slice B1 e1.length a1, .slice B2 e2.length a2] rfl rfl 24 #[.bool false, .slice none 0 0, .slice none 0 0] HGB.out (HI3.out _ _ _ _ _ _ _) rfl (three_one _ _ _ _ _ _ _) ?_))
                refine bodyPost_ret (results_cell_row_tmp (by rfl) _ _ (w.heap.size + 1 + 1) 24 #[.bool false, .slice B1 e1.length a1, .slice B2 e2.length a2] (0, 0) _ _ (by rfl) (by rfl) (rheap_same HGB.out) Tryd.underlying24 rfl (HI3.out _ _ _ _ _ _ _)) rfl (MakeOut.of (by unfold Rt.mk; rw [if_neg HY1.out, ← HE1.out, ← HE2.out, if_neg (by omega), HXB.out]; rfl) rfl (HT1.out.setRow HGB.out (three_no_int _ _ _ _ _ _ _) _) (HT3.out.setRow HGB.out (three_no_int _ _ _ _ _ _ _) _) (rBelow.setRow hbw (by omega) _))
          · have g3 : decide ((0 : Int) < (e1.length : Int)) = false := decide_eq_false (by omega)
            have HXB : Hid ((X == 0) = true) := Lib.hid (by have := HX0.out; simp; omega)
            go_wp2_with (first
              | (with_reducible refine wpList_store_row rfl 24 (.tmp 4) (.tmp 66) rfl (w.heap.size + 1 + 1) #[.bool false, .slice B1 e1.length a1, .slice B2 e2.length a2] rfl rfl 24 #[.bool false, .slice none 0 0, .slice none 0 0] HGB.out (HI3.out _ _ _ _ _ _ _) rfl (three_one _ _ _ _ _ _ _) ?_))
            refine bodyPost_ret (results_cell_row_tmp (by rfl) _ _ (w.heap.size + 1 + 1) 24 #[.bool false, .slice B1 e1.length a1, .slice B2 e2.length a2] (0, 0) _ _ (by rfl) (by rfl) (rheap_same HGB.out) Tryd.underlying24 rfl (HI3.out _ _ _ _ _ _ _)) rfl (MakeOut.of (by unfold Rt.mk; rw [if_neg HY1.out, ← HE1.out, ← HE2.out, if_neg (by omega), HXB.out]; rfl) rfl (HT1.out.setRow HGB.out (three_no_int _ _ _ _ _ _ _) _) (HT3.out.setRow HGB.out (three_no_int _ _ _ _ _ _ _) _) (rBelow.setRow hbw (by omega) _))
end Go.Proofs.YtfiefglagknclaaDoor

/-
  What nat.shorten computes: limbs divided by one limb, in place; and nat.DivMod by one limb.
-/
namespace Go.Proofs.YtfiefglagknclaaDoor
open Go.RowKit
set_option maxHeartbeats 1000000
set_option maxRecDepth 100000
set_option linter.unusedVariables false

theorem join32 {r x : Nat} (hr : r < 4294967296) (hx : x < 4294967296) : bits BinOp.or IntKind.u64 ((r : Int) * 4294967296) (x : Int) = ((r * 4294967296 + x : Nat) : Int) := by
  have h := u64_or_nat (r * 4294967296) x (by omega) (by omega)
  rw [nat_join 32 (r * 4294967296) x (by omega) (by omega)] at h
  rw [← h, Int.natCast_mul]
  rfl

theorem shorten_any (g c d : Nat) (l : List Nat) (rest : List Value) (w : World) (hblk : Blk w g 70 (U l ++ rest)) (ho : Nt.Ok l) (hd : 0 < d) (hd2 : d < 4294967296) (hm : l.length ≤ 9223372036854775807) :
    Calls Tryd.prog 54 #[.slice (some ⟨g, 0, none⟩) l.length c, .int .u32 (d : Int)] w fun e w' => ∃ cur : List Nat, e = .returned (.int .u32 ((Nt.val l % d : Nat) : Int)) ∧ Blk w' g 70 (U cur ++ rest) ∧ Hid (cur.length = l.length ∧ Nt.Ok cur ∧ Nt.val cur = Nt.val l / d) ∧ w.grownBy w' (some g) := by
  have HO := Lib.hid ho
  have hd1 : (1 : Int) ≤ (d : Int) := by omega
  clear ho
  go_enter Tryd.func54, Tryd.ntmps54
  go_wp2_with fail
  go_loopw [5, 6] (fun rv i wr => ∃ (k r : Nat) (cur : List Nat), k ≤ l.length ∧ r < d ∧ i = .int .i64 ((k : Int) - 1) ∧ rv = .int .u64 (r : Int) ∧ Blk wr g 70 (U cur ++ rest) ∧ w.grownBy wr (some g) ∧ Hid (Nt.ShortAt l d cur k r)) (fun _ i _ => (intOf i + 1).toNat)
  case atStart => exact ⟨l.length, 0, l, Nat.le_refl _, hd, by go_num, rfl, hblk, World.grownBy.refl _ _, Lib.hid (Nt.short_start HO.out hd)⟩
  case round =>
    clear hblk
    obtain ⟨k, r, cur, hk, hr, rfl, rfl, hblk, hgr, H⟩ := hrel
    rcases k with _ | k
    · have HE := Lib.hid (Nt.short_end H.out)
      have hrd : r < 4294967296 := by omega
      go_wp2_with fail
      go_ret
      refine ⟨cur, ret_int (by rw [← HE.out.2]), hblk, Lib.hid ⟨H.out.1, H.out.2.1, HE.out.1⟩, hgr⟩
    · have hk1 : ((k + 1 : Nat) : Int) - 1 = (k : Int) := by omega
      rw [hk1]
      clear hk1
      have hkl : k < l.length := by omega
      have hcl : cur.length = l.length := H.out.1
      have hget := Nt.short_get H.out hkl
      have hcell : wr.cell? ⟨g, k, none⟩ = some (.int .u32 ((l[k] : Nat) : Int)) := hblk.cell (by
        rw [List.getElem?_append_left (by rw [U_len]; omega), U, List.getElem?_map, hget]; rfl)
      have hfz := hblk.frozen k
      have hxb := Nt.ok_get HO.out hkl
      have ST := Lib.hid (Nt.short_step H.out hkl HO.out hd2)
      have BD := Nt.short_bounds hr hd2 hxb
      have BS : Hid (∀ s : Nat, Blk (wr.setCell ⟨g, k, none⟩ (.int .u32 (s : Int))) g 70 (U (cur.set k s) ++ rest)) := Lib.hid (fun s => by
        have := hblk.set_ k (.int .u32 (s : Int))
        rw [List.set_append_left _ _ (by rw [U_len]; omega), show (U cur).set k (.int .u32 (s : Int)) = U (cur.set k s) from List.map_set.symm] at this
        exact this)
      generalize l[k] = x at hcell hxb ST BD
      have hj := join32 (r := r) (by omega) hxb
      generalize ht : r * 4294967296 + x = t at ST BD hj
      have hq : (t : Int) / (d : Int) = ((t / d : Nat) : Int) := (Int.natCast_ediv t d).symm
      have hr2 : (t : Int) % (d : Int) = ((t % d : Nat) : Int) := (Int.natCast_emod t d).symm
      obtain ⟨hq1, ht1, hr1⟩ := BD
      generalize t / d = q at *
      generalize t % d = r' at *
      clear ht hblk hcl hget
      have hrl : r < 4294967296 := by omega
      have HR2 := Lib.hid hr2
      go_wp2_with fail
      refine ⟨⟨k, r', cur.set k q, by omega, hr1, by go_num, congrArg (Value.int .u64) HR2.out, BS.out q, grown_set hgr _ _, Lib.hid ST.out⟩, ?_⟩
      first | (simp [intOf]; done) | (simp [intOf]; omega)
end Go.Proofs.YtfiefglagknclaaDoor

namespace Nt
/-! ### The estimate of a quotient's limb -/
/-- The parts of a number and of a divisor that the estimate looks at: V = v1 B + v2 on top of D, H B + u2 on top of R. -/
structure Est (R D p v1 v2 u0 u1 u2 : Nat) : Prop where
  d : ∃ r, r < p ∧ D = (v1 * 4294967296 + v2) * p + r
  r : ∃ s, s < p ∧ R = ((u0 * 4294967296 + u1) * 4294967296 + u2) * p + s
  v1lo : 2147483648 ≤ v1
  v1hi : v1 < 4294967296
  v2hi : v2 < 4294967296
  u1hi : u1 < 4294967296
  u2hi : u2 < 4294967296
  lt : R < 4294967296 * D
theorem Est.ppos {R D p v1 v2 u0 u1 u2 : Nat} (h : Est R D p v1 v2 u0 u1 u2) : 0 < p := by
  obtain ⟨r, hr, _⟩ := h.d; omega
theorem Est.dpos {R D p v1 v2 u0 u1 u2 : Nat} (h : Est R D p v1 v2 u0 u1 u2) : 0 < D := by
  have := h.lt; omega
theorem mul_lt_cancel {a b p : Nat} (h : a * p < b * p) : a < b := Nat.lt_of_mul_lt_mul_right h
/-- u0 is not above v1. -/
theorem Est.u0 {R D p v1 v2 u0 u1 u2 : Nat} (h : Est R D p v1 v2 u0 u1 u2) : u0 * 4294967296 + u1 ≤ v1 * 4294967296 + 4294967295 := by
  obtain ⟨r, hr, hD⟩ := h.d
  obtain ⟨s, hs, hR⟩ := h.r
  have h1 := h.lt
  have h2 : ((u0 * 4294967296 + u1) * 4294967296 + u2) * p < (4294967296 * (v1 * 4294967296 + v2) + 4294967296) * p := by
    have : (4294967296 * (v1 * 4294967296 + v2) + 4294967296) * p = 4294967296 * ((v1 * 4294967296 + v2) * p) + 4294967296 * p := by grind
    omega
  have h3 := mul_lt_cancel h2
  have := h.v2hi
  omega
/-- The quotient is below the base. -/
theorem Est.q {R D p v1 v2 u0 u1 u2 : Nat} (h : Est R D p v1 v2 u0 u1 u2) : R / D < 4294967296 := by
  rw [Nat.div_lt_iff_lt_mul h.dpos]; exact h.lt
/-- No quotient is above the first guess. -/
theorem Est.first {R D p v1 v2 u0 u1 u2 : Nat} (h : Est R D p v1 v2 u0 u1 u2) : R / D ≤ (u0 * 4294967296 + u1) / v1 := by
  obtain ⟨r, hr, hD⟩ := h.d
  obtain ⟨s, hs, hR⟩ := h.r
  have hv := h.v1lo
  rw [Nat.le_div_iff_mul_le (by omega)]
  have h1 : R / D * D ≤ R := Nat.div_mul_le_self _ _
  generalize R / D = q at *
  have hu2 := h.u2hi
  have h2 : q * v1 * (4294967296 * p) < (u0 * 4294967296 + u1 + 1) * (4294967296 * p) := by
    have e1 : q * v1 * (4294967296 * p) ≤ q * D := by
      have : q * D = q * v1 * (4294967296 * p) + q * (v2 * p + r) := by rw [hD]; grind
      omega
    have e2 : (u0 * 4294967296 + u1 + 1) * (4294967296 * p) = (u0 * 4294967296 + u1) * 4294967296 * p + 4294967296 * p := by grind
    have e3 : ((u0 * 4294967296 + u1) * 4294967296 + u2) * p = (u0 * 4294967296 + u1) * 4294967296 * p + u2 * p := by grind
    have e4 : u2 * p + p ≤ 4294967296 * p := by
      have : (u2 + 1) * p ≤ 4294967296 * p := Nat.mul_le_mul_right _ hu2
      rw [Nat.succ_mul] at this
      exact this
    omega
  have := mul_lt_cancel h2
  omega
/-- Where the test says too great, it is. -/
theorem Est.less {R D p v1 v2 u0 u1 u2 g t : Nat} (h : Est R D p v1 v2 u0 u1 u2) (hg : g * v1 + t = u0 * 4294967296 + u1) (hge : R / D ≤ g) (htest : 4294967296 ≤ g ∨ t * 4294967296 + u2 < g * v2) : R / D + 1 ≤ g := by
  rcases htest with h1 | h1
  · have := h.q; omega
  · rcases Nat.lt_or_ge (R / D) g with h2 | h2
    · exact h2
    · exfalso
      have e : R / D = g := by omega
      obtain ⟨r, hr, hD⟩ := h.d
      obtain ⟨s, hs, hR⟩ := h.r
      have h3 : g * D ≤ R := by rw [← e]; exact Nat.div_mul_le_self _ _
      have h4 : g * (v1 * 4294967296 + v2) * p < ((u0 * 4294967296 + u1) * 4294967296 + u2 + 1) * p := by
        have e1 : g * D = g * (v1 * 4294967296 + v2) * p + g * r := by rw [hD]; grind
        have e2 : ((u0 * 4294967296 + u1) * 4294967296 + u2 + 1) * p = ((u0 * 4294967296 + u1) * 4294967296 + u2) * p + p := Nat.succ_mul _ _
        omega
      have h5 := mul_lt_cancel h4
      have e3 : g * (v1 * 4294967296 + v2) = (g * v1) * 4294967296 + g * v2 := by grind
      omega
/-- Where the test says no, the guess is at most one too great. -/
theorem Est.near {R D p v1 v2 u0 u1 u2 g t : Nat} (h : Est R D p v1 v2 u0 u1 u2) (hg : g * v1 + t = u0 * 4294967296 + u1) (hlt : g < 4294967296) (htest : g * v2 ≤ t * 4294967296 + u2) : g ≤ R / D + 1 := by
  obtain ⟨r, hr, hD⟩ := h.d
  obtain ⟨s, hs, hR⟩ := h.r
  have hv := h.v1lo
  have h1 : g * (v1 * 4294967296 + v2) * p ≤ R := by
    have e3 : g * (v1 * 4294967296 + v2) = (g * v1) * 4294967296 + g * v2 := by grind
    have h2 : g * (v1 * 4294967296 + v2) ≤ (u0 * 4294967296 + u1) * 4294967296 + u2 := by omega
    have := Nat.mul_le_mul_right p h2
    omega
  have h2 : g * r ≤ 4294967295 * p := Nat.mul_le_mul (by omega) (by omega)
  have h3 : 4294967295 * p < D := by
    have : 4294967296 * p ≤ (v1 * 4294967296 + v2) * p := Nat.mul_le_mul_right _ (by omega)
    have hp := h.ppos
    omega
  have e1 : g * D = g * (v1 * 4294967296 + v2) * p + g * r := by rw [hD]; grind
  have h4 : g * D < R + D := by omega
  rcases Nat.eq_zero_or_pos g with h0 | h0
  · rw [h0]; exact Nat.zero_le _
  · have h5 : (g - 1) * D ≤ R := by
      have : g * D = (g - 1) * D + D := by
        obtain ⟨m, rfl⟩ : ∃ m, g = m + 1 := ⟨g - 1, by omega⟩
        rw [Nat.add_sub_cancel, Nat.succ_mul]
      omega
    have := (Nat.le_div_iff_mul_le h.dpos).2 h5
    omega

/-! ### So many times a divisor taken off limbs -/
/-- What holds when k limbs are done: cy what is carried of the product, b what is borrowed. -/
def TakeAt (a d : List Nat) (g : Nat) (cur : List Nat) (k cy b : Nat) : Prop :=
  cur.length = a.length ∧ Ok cur ∧ val (cur.take k) + g * val (d.take k) = val (a.take k) + (cy + b) * 4294967296 ^ k ∧ cur.drop k = a.drop k
theorem take_start {a d : List Nat} {g : Nat} (h : Ok a) : TakeAt a d g a 0 0 0 := ⟨rfl, h, by simp [val], rfl⟩
theorem take_get {a d cur : List Nat} {g k cy b : Nat} (h : TakeAt a d g cur k cy b) (hk : k < a.length) : cur[k]? = some a[k] := by
  have : (cur.drop k)[0]? = (a.drop k)[0]? := by rw [h.2.2.2]
  rw [List.getElem?_drop, List.getElem?_drop, Nat.add_zero, List.getElem?_eq_getElem hk] at this
  exact this
theorem take_step {a d cur : List Nat} {g k cy b s cy' b' t : Nat} (h : TakeAt a d g cur k cy b) (hk : k < a.length) (hd : k < d.length) (hs : s < 4294967296) (e1 : g * d[k] + cy = t + 4294967296 * cy') (e2 : a[k] + 4294967296 * b' = s + t + b) : TakeAt a d g (cur.set k s) (k + 1) cy' b' := by
  obtain ⟨h1, h2, h3, h4⟩ := h
  refine ⟨by simpa using h1, ok_set h2 hs, ?_, ?_⟩
  · rw [set_take (by omega), val_take_succ hk, val_take_succ hd, Nat.pow_succ]
    generalize 4294967296 ^ k = p at *
    generalize a[k] = x at *
    generalize d[k] = y at *
    generalize val (cur.take k) = V at *
    generalize val (d.take k) = D at *
    grind
  · rw [drop_set]
    have := congrArg (List.drop 1) h4
    rw [List.drop_drop, List.drop_drop] at this
    exact this
/-- The last limb: what was carried goes off it. -/
theorem take_end {a d cur : List Nat} {g cy b s b' : Nat} (h : TakeAt a d g cur d.length cy b) (hl : a.length = d.length + 1) (hs : s < 4294967296) (e2 : a[d.length] + 4294967296 * b' = s + cy + b) :
    (cur.set d.length s).length = a.length ∧ Ok (cur.set d.length s) ∧ val (cur.set d.length s) + g * val d = val a + b' * 4294967296 ^ (d.length + 1) := by
  obtain ⟨h1, h2, h3, h4⟩ := h
  refine ⟨by simpa using h1, ok_set h2 hs, ?_⟩
  have hc : d.length < cur.length := by omega
  have e : (cur.set d.length s).take (d.length + 1) = cur.set d.length s := List.take_of_length_le (by rw [List.length_set]; omega)
  have f : a.take (d.length + 1) = a := List.take_of_length_le (by omega)
  have k1 := set_take (x := s) hc
  rw [e] at k1
  have k2 := val_take_succ (l := a) (i := d.length) (by omega)
  rw [f] at k2
  rw [List.take_length] at h3
  rw [k1, k2, Nat.pow_succ]
  generalize 4294967296 ^ d.length = p at *
  generalize a[d.length] = x at *
  generalize val (cur.take d.length) = V at *
  grind
end Nt

set_option linter.unusedVariables false
namespace Nt
/-! ### A divisor put back -/
def PutAt (a d cur : List Nat) (k c : Nat) : Prop :=
  cur.length = a.length ∧ Ok cur ∧ val (cur.take k) + c * 4294967296 ^ k = val (a.take k) + val (d.take k) ∧ cur.drop k = a.drop k
theorem put_start {a d : List Nat} (h : Ok a) : PutAt a d a 0 0 := ⟨rfl, h, by simp [val], rfl⟩
theorem put_get {a d cur : List Nat} {k c : Nat} (h : PutAt a d cur k c) (hk : k < a.length) : cur[k]? = some a[k] := by
  have : (cur.drop k)[0]? = (a.drop k)[0]? := by rw [h.2.2.2]
  rw [List.getElem?_drop, List.getElem?_drop, Nat.add_zero, List.getElem?_eq_getElem hk] at this
  exact this
theorem put_step {a d cur : List Nat} {k c s c' : Nat} (h : PutAt a d cur k c) (hk : k < a.length) (hd : k < d.length) (hs : s < 4294967296) (e : a[k] + d[k] + c = s + 4294967296 * c') : PutAt a d (cur.set k s) (k + 1) c' := by
  obtain ⟨h1, h2, h3, h4⟩ := h
  refine ⟨by simpa using h1, ok_set h2 hs, ?_, ?_⟩
  · rw [set_take (by omega), val_take_succ hk, val_take_succ hd, Nat.pow_succ]
    generalize 4294967296 ^ k = p at *
    generalize a[k] = x at *
    generalize d[k] = y at *
    generalize val (cur.take k) = V at *
    generalize val (d.take k) = D at *
    grind
  · rw [drop_set]
    have := congrArg (List.drop 1) h4
    rw [List.drop_drop, List.drop_drop] at this
    exact this
theorem put_end {a d cur : List Nat} {c s c' : Nat} (h : PutAt a d cur d.length c) (hl : a.length = d.length + 1) (hs : s < 4294967296) (e : a[d.length] + c = s + 4294967296 * c') :
    (cur.set d.length s).length = a.length ∧ Ok (cur.set d.length s) ∧ val (cur.set d.length s) + c' * 4294967296 ^ (d.length + 1) = val a + val d := by
  obtain ⟨h1, h2, h3, h4⟩ := h
  refine ⟨by simpa using h1, ok_set h2 hs, ?_⟩
  have hc : d.length < cur.length := by omega
  have e1 : (cur.set d.length s).take (d.length + 1) = cur.set d.length s := List.take_of_length_le (by rw [List.length_set]; omega)
  have f : a.take (d.length + 1) = a := List.take_of_length_le (by omega)
  have k1 := set_take (x := s) hc
  rw [e1] at k1
  have k2 := val_take_succ (l := a) (i := d.length) (by omega)
  rw [f] at k2
  rw [List.take_length] at h3
  rw [k1, k2, Nat.pow_succ]
  generalize 4294967296 ^ d.length = p at *
  generalize a[d.length] = x at *
  generalize val (cur.take d.length) = V at *
  grind

/-! ### Times a power of two -/
def UpAt (l : List Nat) (s : Nat) (cur : List Nat) (k c : Nat) : Prop :=
  cur.length = l.length + 1 ∧ Ok cur ∧ c < 2 ^ s ∧ val (cur.take k) + c * 4294967296 ^ k = val (l.take k) * 2 ^ s
theorem up_start (l : List Nat) (s : Nat) : UpAt l s (List.replicate (l.length + 1) 0) 0 0 :=
  ⟨by simp, fun d hd => by rw [List.mem_replicate] at hd; omega, Nat.two_pow_pos s, by simp [val]⟩
theorem up_carry {x s c : Nat} (hx : x < 4294967296) (hc : c < 2 ^ s) : (x * 2 ^ s + c) / 4294967296 < 2 ^ s := by
  rw [Nat.div_lt_iff_lt_mul (by omega)]
  have : (x + 1) * 2 ^ s ≤ 4294967296 * 2 ^ s := Nat.mul_le_mul_right _ hx
  rw [Nat.succ_mul] at this
  rw [Nat.mul_comm (2 ^ s)]
  omega
theorem up_step {l cur : List Nat} {s k c : Nat} (hl : Ok l) (h : UpAt l s cur k c) (hk : k < l.length) : UpAt l s (cur.set k ((l[k] * 2 ^ s + c) % 4294967296)) (k + 1) ((l[k] * 2 ^ s + c) / 4294967296) := by
  obtain ⟨h1, h2, h3, h4⟩ := h
  have hx := ok_get hl hk
  refine ⟨by simpa using h1, ok_set h2 (Nat.mod_lt _ (by omega)), up_carry hx h3, ?_⟩
  rw [set_take (by omega), val_take_succ hk, Nat.pow_succ]
  have e := Nat.mod_add_div (l[k] * 2 ^ s + c) 4294967296
  generalize (l[k] * 2 ^ s + c) % 4294967296 = m at *
  generalize (l[k] * 2 ^ s + c) / 4294967296 = t at *
  generalize 4294967296 ^ k = p at *
  generalize l[k] = x at *
  generalize val (cur.take k) = V at *
  generalize 2 ^ s = q at *
  grind
theorem up_end {l cur : List Nat} {s c : Nat} (hs : s ≤ 32) (h : UpAt l s cur l.length c) : Ok (cur.set l.length c) ∧ (cur.set l.length c).length = l.length + 1 ∧ val (cur.set l.length c) = val l * 2 ^ s := by
  obtain ⟨h1, h2, h3, h4⟩ := h
  have hp : 2 ^ s ≤ 2 ^ 32 := Nat.pow_le_pow_right (by omega) hs
  refine ⟨ok_set h2 (by omega), by simpa using h1, ?_⟩
  have e1 : (cur.set l.length c).take (l.length + 1) = cur.set l.length c := List.take_of_length_le (by rw [List.length_set]; omega)
  have k1 := set_take (x := c) (show l.length < cur.length by omega)
  rw [e1] at k1
  rw [List.take_length] at h4
  rw [k1, ← h4, Nat.mul_comm]

/-! ### By a power of two -/
def DownAt (l : List Nat) (s : Nat) (cur : List Nat) (k ab : Nat) : Prop :=
  cur.length = l.length ∧ Ok cur ∧ ab < 4294967296 ∧ ab = val (l.drop k) % 4294967296 ∧ val (cur.drop k) = val (l.drop k) / 2 ^ s
theorem down_start (l : List Nat) (s : Nat) : DownAt l s (List.replicate l.length 0) l.length 0 :=
  ⟨by simp, fun d hd => by rw [List.mem_replicate] at hd; omega, by omega, by simp [val], by simp [val]⟩
theorem down_limb {x V s p : Nat} (hx : x < 4294967296) (hs : 4294967296 = 2 ^ s * p) : (x + 4294967296 * V) / 2 ^ s = (V % 4294967296 * 4294967296 + x) / 2 ^ s % 4294967296 + 4294967296 * (V / 2 ^ s) := by
  have hq := Nat.two_pow_pos s
  generalize 2 ^ s = q at *
  have e1 := Nat.div_add_mod V q
  have r1 := Nat.mod_lt V hq
  generalize V / q = Q at *
  generalize V % q = R at *
  have e2 := Nat.div_add_mod V 4294967296
  generalize V / 4294967296 = m at *
  generalize V % 4294967296 = a at *
  have hb : (x + 4294967296 * R) / q < 4294967296 := by
    rw [Nat.div_lt_iff_lt_mul hq]
    have : (R + 1) * 4294967296 ≤ q * 4294967296 := Nat.mul_le_mul_right _ r1
    rw [Nat.succ_mul] at this
    rw [Nat.mul_comm 4294967296 q]
    omega
  have h1 : (x + 4294967296 * V) / q = (x + 4294967296 * R) / q + 4294967296 * Q := by
    rw [← e1, show x + 4294967296 * (q * Q + R) = x + 4294967296 * R + q * (4294967296 * Q) by grind, Nat.add_mul_div_left _ _ hq]
  have h2 : (a * 4294967296 + x) / q + 4294967296 * (p * m) = (x + 4294967296 * R) / q + 4294967296 * Q := by
    rw [← h1, ← e2, show x + 4294967296 * (4294967296 * m + a) = a * 4294967296 + x + 4294967296 * 4294967296 * m by grind]
    have : 4294967296 * 4294967296 * m = q * (4294967296 * (p * m)) := by
      rw [Nat.mul_left_comm q, ← Nat.mul_assoc q, ← hs, Nat.mul_assoc]
    rw [this, Nat.add_mul_div_left _ _ hq]
  rw [h1]
  have h3 : (a * 4294967296 + x) / q % 4294967296 = (x + 4294967296 * R) / q := by
    generalize (a * 4294967296 + x) / q = u at *
    generalize (x + 4294967296 * R) / q = v at *
    generalize p * m = t at *
    omega
  rw [h3]
theorem drop_succ_val {l : List Nat} {k : Nat} (h : k < l.length) : val (l.drop k) = l[k] + 4294967296 * val (l.drop (k + 1)) := by
  rw [List.drop_eq_getElem_cons h, val]
theorem down_step {l cur : List Nat} {s k ab : Nat} (hl : Ok l) (hs : s ≤ 32) (h : DownAt l s cur (k + 1) ab) (hk : k < l.length) : DownAt l s (cur.set k ((ab * 4294967296 + l[k]) / 2 ^ s % 4294967296)) k l[k] := by
  obtain ⟨h1, h2, h3, h4, h5⟩ := h
  have hx := ok_get hl hk
  refine ⟨by simpa using h1, ok_set h2 (Nat.mod_lt _ (by omega)), hx, ?_, ?_⟩
  · rw [drop_succ_val hk]; omega
  · have hk' : k < (cur.set k ((ab * 4294967296 + l[k]) / 2 ^ s % 4294967296)).length := by rw [List.length_set]; omega
    rw [drop_succ_val hk, drop_succ_val hk', List.getElem_set_self, drop_set, h5, h4]
    refine (down_limb (p := 2 ^ (32 - s)) hx ?_).symm
    rw [← Nat.pow_add, show s + (32 - s) = 32 by omega]
theorem down_end {l cur : List Nat} {s ab : Nat} (h : DownAt l s cur 0 ab) : val cur = val l / 2 ^ s := by
  have := h.2.2.2.2
  simpa using this

/-! ### The limbs of a quotient, one after the other from the top -/
structure LongAt (X D n : Nat) (cur quo : List Nat) (k : Nat) : Prop where
  ok : Ok cur
  okq : Ok quo
  len : cur.length = quo.length + n
  sum : val cur + D * val (quo.drop k) * 4294967296 ^ k = X
  lt : val (cur.drop k) < D
  hi : D < 4294967296 ^ n
/-- The window at k: its limbs, and what it is worth. -/
theorem LongAt.window {X D n k : Nat} {cur quo : List Nat} (h : LongAt X D n cur quo (k + 1)) (hk : k < quo.length) :
    ((cur.drop k).take (n + 1)).length = n + 1 ∧ Ok ((cur.drop k).take (n + 1)) ∧ val ((cur.drop k).take (n + 1)) < 4294967296 * D ∧ val ((cur.drop k).take (n + 1)) = val (cur.drop k) ∧
    cur = cur.take k ++ ((cur.drop k).take (n + 1) ++ cur.drop (k + (n + 1))) ∧ (cur.take k).length = k := by
  have hl := h.len
  have h1 : val (cur.drop k) < 4294967296 * D := by
    have hkc : k < cur.length := by omega
    rw [drop_succ_val hkc]
    have := ok_get h.ok hkc
    have := h.lt
    omega
  have h2 : val (cur.drop k) = val ((cur.drop k).take (n + 1)) + 4294967296 ^ (n + 1) * val ((cur.drop k).drop (n + 1)) := val_split _ _ (by rw [List.length_drop]; omega)
  have h3 : val ((cur.drop k).drop (n + 1)) = 0 := by
    rcases Nat.eq_zero_or_pos (val ((cur.drop k).drop (n + 1))) with h0 | h0
    · exact h0
    · exfalso
      have : 4294967296 ^ (n + 1) * 1 ≤ 4294967296 ^ (n + 1) * val ((cur.drop k).drop (n + 1)) := Nat.mul_le_mul_left _ h0
      have hh := h.hi
      rw [Nat.pow_succ] at this h2
      generalize 4294967296 ^ n = p at *
      omega
  rw [h3, Nat.mul_zero, Nat.add_zero] at h2
  refine ⟨by rw [List.length_take, List.length_drop]; omega, ok_take (ok_drop h.ok _) _, by omega, h2.symm, ?_, by rw [List.length_take]; omega⟩
  rw [← List.drop_drop, List.take_append_drop, List.take_append_drop]
theorem LongAt.step {X D n k q : Nat} {cur quo win : List Nat} (h : LongAt X D n cur quo (k + 1)) (hk : k < quo.length) (hwl : win.length = n + 1) (hwo : Ok win)
    (hq : q < 4294967296) (hlt : val win < D) (hv : val win + q * D = val ((cur.drop k).take (n + 1))) : LongAt X D n (cur.take k ++ (win ++ cur.drop (k + (n + 1)))) (quo.set k q) k := by
  obtain ⟨w1, w2, w3, w4, w5, w6⟩ := h.window hk
  have hl := h.len
  have hz : val (cur.drop (k + (n + 1))) = 0 := by
    have h2 : val (cur.drop k) = val ((cur.drop k).take (n + 1)) + 4294967296 ^ (n + 1) * val ((cur.drop k).drop (n + 1)) := val_split _ _ (by rw [List.length_drop]; omega)
    rw [List.drop_drop, w4] at h2
    have h0 : 4294967296 ^ (n + 1) * val (cur.drop (k + (n + 1))) = 0 := by omega
    rcases Nat.mul_eq_zero.1 h0 with h0 | h0
    · have := Nat.pow_pos (a := 4294967296) (n := n + 1) (by omega); omega
    · exact h0
  have hdrop : (cur.take k ++ (win ++ cur.drop (k + (n + 1)))).drop k = win ++ cur.drop (k + (n + 1)) := by
    rw [List.drop_append_of_le_length (by omega), List.drop_of_length_le (by omega), List.nil_append]
  refine ⟨?_, ok_set h.okq hq, ?_, ?_, ?_, h.hi⟩
  · intro d hd
    rw [List.mem_append, List.mem_append] at hd
    rcases hd with hd | hd | hd
    · exact ok_take h.ok _ d hd
    · exact hwo d hd
    · exact ok_drop h.ok _ d hd
  · rw [List.length_append, List.length_append, List.length_set, List.length_drop]; omega
  · have hs := h.sum
    have e1 : val cur = val (cur.take k) + 4294967296 ^ k * val (cur.drop k) := val_split _ _ (by omega)
    rw [drop_succ_val (l := quo.set k q) (by rw [List.length_set]; exact hk), List.getElem_set_self, drop_set, val_append, val_append, hz, w6]
    rw [e1, ← w4, ← hv, Nat.pow_succ] at hs
    generalize 4294967296 ^ k = p at *
    generalize val (quo.drop (k + 1)) = Q at *
    generalize val win = W at *
    generalize val (cur.take k) = V at *
    rw [Nat.mul_zero, Nat.add_zero]
    clear h w1 w2 w3 w4 w5 hz hdrop e1
    grind
  · rw [hdrop, val_append, hz]; omega
theorem LongAt.start {x y n s : Nat} {cur : List Nat} {m : Nat} (ok : Ok cur) (hv : val cur = x * 2 ^ s) (hl : cur.length = m + 1) (hn : n ≤ m) (hn1 : 1 ≤ n) (hx : x < 4294967296 ^ m) (hy : 4294967296 ^ (n - 1) ≤ y) (hD : y * 2 ^ s < 4294967296 ^ n) :
    LongAt (x * 2 ^ s) (y * 2 ^ s) n cur (List.replicate (m - n + 1) 0) (m - n + 1) := by
  refine ⟨ok, fun d hd => by rw [List.mem_replicate] at hd; omega, by simp; omega, ?_, ?_, hD⟩
  · rw [List.drop_of_length_le (by simp), val, Nat.mul_zero, Nat.zero_mul, hv]; rfl
  · have h2 : val cur = val (cur.take (m - n + 1)) + 4294967296 ^ (m - n + 1) * val (cur.drop (m - n + 1)) := val_split _ _ (by omega)
    have h3 : x * 2 ^ s < y * 2 ^ s * 4294967296 ^ (m - n + 1) := by
      have e : 4294967296 ^ m = 4294967296 ^ (n - 1) * 4294967296 ^ (m - n + 1) := by rw [← Nat.pow_add, show n - 1 + (m - n + 1) = m by omega]
      have k1 : 4294967296 ^ (n - 1) * 4294967296 ^ (m - n + 1) ≤ y * 4294967296 ^ (m - n + 1) := Nat.mul_le_mul_right _ hy
      have k2 : x < y * 4294967296 ^ (m - n + 1) := by omega
      have := Nat.mul_lt_mul_of_pos_right k2 (Nat.two_pow_pos s)
      grind
    have h4 : 4294967296 ^ (m - n + 1) * val (cur.drop (m - n + 1)) < 4294967296 ^ (m - n + 1) * (y * 2 ^ s) := by
      rw [Nat.mul_comm _ (y * 2 ^ s)]; omega
    exact Nat.lt_of_mul_lt_mul_left h4
theorem LongAt.done {x y n s : Nat} {cur quo : List Nat} (h : LongAt (x * 2 ^ s) (y * 2 ^ s) n cur quo 0) (hy : 0 < y) :
    val quo = x / y ∧ val (cur.take n) / 2 ^ s = x % y := by
  have h1 := h.sum
  have h2 := h.lt
  rw [List.drop_zero] at h1 h2
  rw [Nat.pow_zero, Nat.mul_one] at h1
  have hp := Nat.two_pow_pos s
  have hD : 0 < y * 2 ^ s := Nat.mul_pos hy hp
  have hq : val quo = x / y := by
    rw [← Nat.mul_div_mul_right x y hp, ← h1, Nat.add_mul_div_left _ _ hD, Nat.div_eq_of_lt h2, Nat.zero_add]
  have hr : val cur = x % y * 2 ^ s := by
    rw [← Nat.mul_mod_mul_right, ← h1, Nat.add_mul_mod_self_left, Nat.mod_eq_of_lt h2]
  have ht : val (cur.take n) = val cur := by
    have h3 : val cur = val (cur.take n) + 4294967296 ^ n * val (cur.drop n) := val_split _ _ (by have := h.len; omega)
    rcases Nat.eq_zero_or_pos (val (cur.drop n)) with h0 | h0
    · rw [h0, Nat.mul_zero, Nat.add_zero] at h3; exact h3.symm
    · exfalso
      have : 4294967296 ^ n * 1 ≤ 4294967296 ^ n * val (cur.drop n) := Nat.mul_le_mul_left _ h0
      have := h.hi
      omega
  refine ⟨hq, ?_⟩
  rw [ht, hr, Nat.mul_div_cancel _ hp]
/-- A guess that is one too great, put right; or a right guess. -/
theorem round_ok {R D g b V p : Nat} (hg : R / D ≤ g) (hg2 : g ≤ R / D + 1) (hD : 0 < D) (hR : R < p) (hV : V < p) (e : V + g * D = R + b * p) (hb : b ≤ 1) (hDp : D < p) :
    (b = 0 → g = R / D ∧ V < D ∧ V + g * D = R) ∧ (b = 1 → g = R / D + 1 ∧ ∀ W e', W < p → W + e' * p = V + D → W < D ∧ W + (g - 1) * D = R) := by
  have h1 := Nat.div_add_mod R D
  have h2 := Nat.mod_lt R hD
  rw [Nat.mul_comm] at h1
  have hcase : g = R / D ∨ g = R / D + 1 := by omega
  generalize R / D = q at *
  generalize R % D = r at *
  rcases hcase with rfl | rfl
  · have hb0 : b = 0 := by
      rcases Nat.eq_zero_or_pos b with h | h
      · exact h
      · have : b = 1 := by omega
        subst this
        omega
    subst hb0
    refine ⟨fun _ => ⟨rfl, by omega, by omega⟩, fun h => by omega⟩
  · rw [Nat.succ_mul] at e
    refine ⟨fun h => by subst h; omega, fun h => ?_⟩
    subst h
    refine ⟨rfl, fun W e' hW he => ?_⟩
    rw [Nat.add_sub_cancel]
    have : e' = 1 := by
      rcases Nat.lt_or_ge e' 1 with h | h
      · have : e' = 0 := by omega
        subst this; omega
      · rcases Nat.lt_or_ge e' 2 with h' | h'
        · omega
        · exfalso
          have : 2 * p ≤ e' * p := Nat.mul_le_mul_right _ h'
          omega
    subst this
    omega
end Nt

/-
  What nat.takeOff and nat.putBack compute.
-/
namespace Go.Proofs.YtfiefglagknclaaDoor
open Go.RowKit
set_option maxHeartbeats 1000000
set_option maxRecDepth 100000
set_option linter.unusedVariables false

theorem Blk.mid {w : World} {g : Nat} {t : TypeId} {pre post : List Value} {l : List Nat} (h : Blk w g t (pre ++ (U l ++ post))) {k x : Nat} (hk : l[k]? = some x) : w.cell? ⟨g, pre.length + k, none⟩ = some (.int .u32 (x : Int)) := by
  apply h.cell
  have hkl : k < l.length := by
    rcases Nat.lt_or_ge k l.length with h | h
    · exact h
    · rw [List.getElem?_eq_none h] at hk; cases hk
  rw [List.getElem?_append_right (by omega), Nat.add_sub_cancel_left, List.getElem?_append_left (by rw [U_len]; omega), U, List.getElem?_map, hk]
  rfl
theorem Blk.mid_set {w : World} {g : Nat} {t : TypeId} {pre post : List Value} {l : List Nat} (h : Blk w g t (pre ++ (U l ++ post))) {k : Nat} (hk : k < l.length) (x : Nat) : Blk (w.setCell ⟨g, pre.length + k, none⟩ (.int .u32 (x : Int))) g t (pre ++ (U (l.set k x) ++ post)) := by
  have := h.set_ (pre.length + k) (.int .u32 (x : Int))
  rw [List.set_append_right _ _ (by omega), Nat.add_sub_cancel_left, List.set_append_left _ _ (by rw [U_len]; omega), show (U l).set k (.int .u32 (x : Int)) = U (l.set k x) from List.map_set.symm] at this
  exact this

theorem takeOff_any (G c c' T : Nat) (A' : Option Addr) (pre post : List Value) (a d : List Nat) (w : World) (hblk : Blk w G 70 (pre ++ (U a ++ post))) (hy : Lies w G A' (U d)) (ha : Nt.Ok a) (hd : Nt.Ok d) (hl : a.length = d.length + 1) (hc : d.length + 1 ≤ c) (hc' : d.length ≤ c') (hm : c ≤ 9223372036854775807) (hm' : c' ≤ 9223372036854775807) (hT : T < 4294967296) (hs : d.length ≤ 1000000) :
    Calls Tryd.prog 132 #[.slice (some ⟨G, pre.length, none⟩) (d.length + 1) c, .slice A' d.length c', .int .u64 (T : Int)] w fun e w' => ∃ (cur : List Nat) (b : Nat), e = .returned (.bool (decide (b = 1))) ∧ b ≤ 1 ∧ Blk w' G 70 (pre ++ (U cur ++ post)) ∧ Hid (cur.length = a.length ∧ Nt.Ok cur ∧ Nt.val cur + T * Nt.val d = Nt.val a + b * 4294967296 ^ (d.length + 1)) ∧ w.grownBy w' (some G) := by
  have HL := Lib.hid hl
  have OA := Lib.hid ha
  have OD := Lib.hid hd
  have LY := Lib.hid hy
  have HG := hblk.lt
  clear ha hd hy hl
  have BM := Lib.hid (fun (wr : World) (l : List Nat) (h : Blk wr G 70 (pre ++ (U l ++ post))) (k x : Nat) (hk : l[k]? = some x) => h.mid hk)
  have BS := Lib.hid (fun (wr : World) (l : List Nat) (h : Blk wr G 70 (pre ++ (U l ++ post))) (k : Nat) (hk : k < l.length) (x : Nat) => h.mid_set hk x)
  generalize pre.length = j at *
  go_enter Tryd.func132, Tryd.ntmps132
  go_wp2_with fail
  go_loopw [7, 8, 15] (fun cv bv i wr => ∃ (k cy b : Nat) (cur : List Nat), k ≤ d.length ∧ cy < 4294967296 ∧ b ≤ 1 ∧ i = .int .i64 (k : Int) ∧ cv = .int .u64 (cy : Int) ∧ bv = .int .u32 (b : Int) ∧ Blk wr G 70 (pre ++ (U cur ++ post)) ∧ w.grownBy wr (some G) ∧ Hid (Nt.TakeAt a d T cur k cy b)) (fun _ _ i _ => d.length - (intOf i).toNat)
  case atStart => exact ⟨0, 0, 0, a, Nat.zero_le _, by omega, by omega, rfl, rfl, rfl, hblk, World.grownBy.refl _ _, Lib.hid (Nt.take_start OA.out)⟩
  case round =>
    clear hblk
    obtain ⟨k, cy, b, cur, hk, hcy, hb1, rfl, rfl, rfl, hblk, hgr, H⟩ := hrel
    have hsz := hblk.lt
    by_cases hlt : k < d.length
    · have hka : k < a.length := by rw [HL.out]; omega
      obtain ⟨b2, off2, rfl, hb2, hc2⟩ := (LY.out.grown (Nat.le_of_lt HG) hgr (fun g e => by injection e with e; omega)).limb hlt
      have hyb := Nt.ok_get OD.out hlt
      have hxb := Nt.ok_get OA.out hka
      have hcell := BM.out _ _ hblk k _ (Nt.take_get H.out hka)
      have hfz := hblk.frozen (j + k)
      have BSK := Lib.hid (BS.out _ _ hblk k (by rw [H.out.1]; exact hka))
      have ST := Lib.hid (fun s cy' b' t => Nt.take_step (s := s) (cy' := cy') (b' := b') (t := t) H.out hka hlt)
      have hmb := Nt.mul_bound hT hyb
      generalize d[k] = y at *
      generalize a[k] = x at *
      obtain ⟨p, hp⟩ : ∃ p : Nat, p = T * y := ⟨_, rfl⟩
      have hpi : (T : Int) * (y : Int) = (p : Int) := by rw [hp, Int.natCast_mul]
      have hpl : p ≤ 18446744065119617025 := by rw [hp]; exact hmb
      have HPN := Lib.hid hp
      clear hp hmb hblk hka
      have em : ((p : Int) + (cy : Int)) % 4294967296 = (((p + cy) % 4294967296 : Nat) : Int) := by omega
      have hsub := Lib.hid (fun w => sub32_any x ((p + cy) % 4294967296) b w hxb (by omega) hb1)
      rw [← em] at hsub
      clear em
      go_wp2_with (go_at_call 148; refine (hsub.out _).mono ?_; rintro e w' ⟨s, b', rfl, hs, hd1, HE, rfl⟩)
      go_roundw
      case rel => exact ⟨k + 1, (p + cy) / 4294967296, b', cur.set k s, by omega, by omega, hd1, by go_num, congrArg (Value.int .u64) (by omega), rfl, BSK.out s, grown_set hgr _ _, Lib.hid (ST.out s _ b' ((p + cy) % 4294967296) hs (by rw [← HPN.out]; omega) (by have := HE.out; omega))⟩
      case measure => simp [intOf]; omega
    · obtain rfl : k = d.length := by omega
      have hka : d.length < a.length := by rw [HL.out]; omega
      have hxb := Nt.ok_get OA.out hka
      have hcell := BM.out _ _ hblk _ _ (Nt.take_get H.out hka)
      have hfz := hblk.frozen (j + d.length)
      have BSK := Lib.hid (BS.out _ _ hblk d.length (by rw [H.out.1]; exact hka))
      have EN := Lib.hid (fun s b' => Nt.take_end (s := s) (b' := b') H.out HL.out)
      generalize hx : a[d.length] = x at hxb hcell
      have HX := Lib.hid hx
      clear hblk hx
      have hsub := Lib.hid (fun w => sub32_any x cy b w hxb hcy hb1)
      go_wp2_with (go_at_call 148; refine (hsub.out _).mono ?_; rintro e w' ⟨s, b', rfl, hs, hd1, HE, rfl⟩)
      go_ret
      refine ⟨cur.set d.length s, b', ret_bool ?_, hd1, BSK.out s, Lib.hid (EN.out s b' hs (by rw [HX.out]; exact HE.out)), grown_set hgr _ _⟩
      rcases (show b' = 0 ∨ b' = 1 by omega) with rfl | rfl <;> rfl
theorem putBack_any (G c c' : Nat) (A' : Option Addr) (pre post : List Value) (a d : List Nat) (w : World) (hblk : Blk w G 70 (pre ++ (U a ++ post))) (hy : Lies w G A' (U d)) (ha : Nt.Ok a) (hd : Nt.Ok d) (hl : a.length = d.length + 1) (hc : d.length + 1 ≤ c) (hc' : d.length ≤ c') (hm : c ≤ 9223372036854775807) (hm' : c' ≤ 9223372036854775807) (hs : d.length ≤ 1000000) :
    Calls Tryd.prog 133 #[.slice (some ⟨G, pre.length, none⟩) (d.length + 1) c, .slice A' d.length c'] w fun e w' => ∃ (cur : List Nat) (b : Nat), e = .returned (.tuple #[]) ∧ Blk w' G 70 (pre ++ (U cur ++ post)) ∧ Hid (cur.length = a.length ∧ Nt.Ok cur ∧ Nt.val cur + b * 4294967296 ^ (d.length + 1) = Nt.val a + Nt.val d) ∧ w.grownBy w' (some G) := by
  have HL := Lib.hid hl
  have OA := Lib.hid ha
  have OD := Lib.hid hd
  have LY := Lib.hid hy
  have HG := hblk.lt
  clear ha hd hy hl
  have BM := Lib.hid (fun (wr : World) (l : List Nat) (h : Blk wr G 70 (pre ++ (U l ++ post))) (k x : Nat) (hk : l[k]? = some x) => h.mid hk)
  have BS := Lib.hid (fun (wr : World) (l : List Nat) (h : Blk wr G 70 (pre ++ (U l ++ post))) (k : Nat) (hk : k < l.length) (x : Nat) => h.mid_set hk x)
  generalize pre.length = j at *
  go_enter Tryd.func133, Tryd.ntmps133
  go_wp2_with fail
  go_loopw [4, 9] (fun bv i wr => ∃ (k b : Nat) (cur : List Nat), k ≤ d.length ∧ b ≤ 1 ∧ i = .int .i64 (k : Int) ∧ bv = .int .u32 (b : Int) ∧ Blk wr G 70 (pre ++ (U cur ++ post)) ∧ w.grownBy wr (some G) ∧ Hid (Nt.PutAt a d cur k b)) (fun _ i _ => d.length - (intOf i).toNat)
  case atStart => exact ⟨0, 0, a, Nat.zero_le _, by omega, rfl, rfl, hblk, World.grownBy.refl _ _, Lib.hid (Nt.put_start OA.out)⟩
  case round =>
    clear hblk
    obtain ⟨k, b, cur, hk, hb1, rfl, rfl, hblk, hgr, H⟩ := hrel
    have hsz := hblk.lt
    by_cases hlt : k < d.length
    · have hka : k < a.length := by rw [HL.out]; omega
      obtain ⟨b2, off2, rfl, hb2, hc2⟩ := (LY.out.grown (Nat.le_of_lt HG) hgr (fun g e => by injection e with e; omega)).limb hlt
      have hyb := Nt.ok_get OD.out hlt
      have hxb := Nt.ok_get OA.out hka
      have hcell := BM.out _ _ hblk k _ (Nt.put_get H.out hka)
      have hfz := hblk.frozen (j + k)
      have BSK := Lib.hid (BS.out _ _ hblk k (by rw [H.out.1]; exact hka))
      have ST := Lib.hid (fun s c' => Nt.put_step (s := s) (c' := c') H.out hka hlt)
      generalize d[k] = y at *
      generalize a[k] = x at *
      clear hblk hka
      have hadd := Lib.hid (fun w => add32_any x y b w hxb hyb hb1)
      go_wp2_with (go_at_call 149; refine (hadd.out _).mono ?_; rintro e w' ⟨s, b', rfl, hs, hd1, HE, rfl⟩)
      go_roundw
      case rel => exact ⟨k + 1, b', cur.set k s, by omega, hd1, by go_num, rfl, BSK.out s, grown_set hgr _ _, Lib.hid (ST.out s b' hs HE.out)⟩
      case measure => simp [intOf]; omega
    · obtain rfl : k = d.length := by omega
      have hka : d.length < a.length := by rw [HL.out]; omega
      have hxb := Nt.ok_get OA.out hka
      have hcell := BM.out _ _ hblk _ _ (Nt.put_get H.out hka)
      have hfz := hblk.frozen (j + d.length)
      have BSK := Lib.hid (BS.out _ _ hblk d.length (by rw [H.out.1]; exact hka))
      have EN := Lib.hid (fun s b' => Nt.put_end (s := s) (c' := b') H.out HL.out)
      generalize hx : a[d.length] = x at hxb hcell
      have HX := Lib.hid hx
      clear hblk hx
      have em : ((x : Int) + (b : Int)) % 4294967296 = (((x + b) % 4294967296 : Nat) : Int) := by omega
      have EM := Lib.hid em
      clear em
      go_wp2_with fail
      rw [EM.out]
      go_end0
      refine ⟨cur.set d.length ((x + b) % 4294967296), (x + b) / 4294967296, rfl, BSK.out _, Lib.hid (EN.out _ _ (by omega) (by rw [HX.out]; omega)), grown_set hgr _ _⟩
end Go.Proofs.YtfiefglagknclaaDoor

/-
  What nat.up and nat.down compute.
-/
namespace Go.Proofs.YtfiefglagknclaaDoor
open Go.RowKit
set_option maxHeartbeats 1000000
set_option maxRecDepth 100000
set_option linter.unusedVariables false

theorem shl_or {x s c : Nat} (hx : x < 4294967296) (hs : s < 32) (hc : c < 2 ^ s) : bits BinOp.or IntKind.u64 (IntKind.u64.wrap ((x : Int) * 2 ^ s)) (c : Int) = ((x * 2 ^ s + c : Nat) : Int) := by
  have hp : 2 ^ s ≤ 2147483648 := Nat.pow_le_pow_right (n := 2) (by omega) (show s ≤ 31 by omega)
  have h1 : x * 2 ^ s ≤ 4294967295 * 2147483648 := Nat.mul_le_mul (by omega) hp
  have e : (x : Int) * 2 ^ s = ((x * 2 ^ s : Nat) : Int) := by rw [Int.natCast_mul, Int.natCast_pow]; rfl
  rw [e, IntKind.wrap_u64, Int.emod_eq_of_lt (by omega) (by omega), u64_or_nat _ _ (by omega) (by omega), nat_join s _ _ (Nat.mul_mod_left _ _) hc]

theorem up_any (A : Option Addr) (c B s : Nat) (l : List Nat) (w : World) (hx : Lies w B A (U l)) (hB : B ≤ w.heap.size) (ho : Nt.Ok l) (hc : l.length ≤ c) (hm : c ≤ 9223372036854775807) (hs : l.length ≤ 1000000) (hs32 : s < 32) :
    Calls Tryd.prog 130 #[.slice A l.length c, .int .i64 (s : Int)] w fun e w' => ∃ cur : List Nat, e = .returned (.slice (some ⟨w.heap.size, 0, none⟩) (l.length + 1) (l.length + 1)) ∧ Blk w' w.heap.size 70 (U cur) ∧ Hid (Nt.Ok cur ∧ cur.length = l.length + 1 ∧ Nt.val cur = Nt.val l * 2 ^ s) ∧ Below w.heap.size w w' := by
  obtain ⟨i0, hi, hz0, hz1, hz2⟩ := info_parts u32_info
  have OL := Lib.hid ho
  have LX := Lib.hid (hx.more hB)
  clear ho hx hB
  go_enter Tryd.func130, Tryd.ntmps130
  go_wp2_with (at_make; refine wpList_make_blk _ rfl _ _ 22 rfl 70 i0 (.int .u32 0) Tryd.underlying22 hi hz0 hz1 rfl .i64 .i64 _ _ (l.length + 1) (l.length + 1) rfl rfl (by go_num) (by go_num) (Nat.le_refl _) (by rw [hz2]; omega) (by omega) w.heap.size w (Below.refl _ _) (Nat.le_refl _) ?_; intro w1 hblk1 hb1 hb1' hlt1)
  have hblk0 : Blk w1 w.heap.size 70 (U (List.replicate (l.length + 1) 0)) := by simpa [U] using hblk1
  clear hblk1 hb1' hlt1
  go_loopw [6, 16] (fun cv i wr => ∃ (k cy : Nat) (cur : List Nat), k ≤ l.length ∧ cy < 2 ^ s ∧ i = .int .i64 (k : Int) ∧ cv = .int .u64 (cy : Int) ∧ Blk wr w.heap.size 70 (U cur) ∧ Below w.heap.size w wr ∧ Hid (Nt.UpAt l s cur k cy)) (fun _ i _ => l.length - (intOf i).toNat)
  case atStart => exact ⟨0, 0, _, Nat.zero_le _, Nat.two_pow_pos s, rfl, rfl, hblk0, hb1, Lib.hid (Nt.up_start l s)⟩
  case round =>
    clear hblk0 hb1
    obtain ⟨k, cy, cur, hk, hcy, rfl, rfl, hblk, hbel, H⟩ := hrel
    have hsz := hblk.lt
    have hcl : cur.length = l.length + 1 := H.out.1
    by_cases hlt : k < l.length
    · obtain ⟨b2, off2, rfl, hb2, hc2⟩ := (LX.out.below hbel).limb hlt
      have hxb := Nt.ok_get OL.out hlt
      have hcell : wr.cell? ⟨w.heap.size, k, none⟩ = some (.int .u32 ((cur[k] : Nat) : Int)) := hblk.cell (by rw [U, List.getElem?_map, List.getElem?_eq_getElem (by omega)]; rfl)
      have hfz := hblk.frozen k
      have ST := Lib.hid (Nt.up_step OL.out H.out hlt)
      have UC := Lib.hid (Nt.up_carry hxb hcy)
      have BS : Hid (∀ s : Nat, Blk (wr.setCell ⟨w.heap.size, k, none⟩ (.int .u32 (s : Int))) w.heap.size 70 (U (cur.set k s))) := Lib.hid (fun s => by
        have := hblk.set_ k (.int .u32 (s : Int))
        rw [show (U cur).set k (.int .u32 (s : Int)) = U (cur.set k s) from List.map_set.symm] at this
        exact this)
      generalize cur[k] = o at hcell
      generalize l[k] = x at *
      clear hblk
      have HSO := Lib.hid (shl_or hxb hs32 hcy)
      have hp : 2 ^ s ≤ 2147483648 := Nat.pow_le_pow_right (n := 2) (by omega) (show s ≤ 31 by omega)
      have hmul : x * 2 ^ s ≤ 4294967295 * 2147483648 := Nat.mul_le_mul (by omega) hp
      have HP := Lib.hid (And.intro hp hmul)
      clear hp hmul hcl
      go_wp2_with fail
      rw [HSO.out]
      have h1 := HP.out
      have hcy2 := UC.out
      generalize x * 2 ^ s + cy = t at *
      have e1 : ((t : Nat) : Int) / 4294967296 = ((t / 4294967296 : Nat) : Int) := by omega
      have e2 : ((t : Nat) : Int) % 4294967296 = ((t % 4294967296 : Nat) : Int) := by omega
      rw [e1, e2]
      refine ⟨⟨k + 1, t / 4294967296, cur.set k (t % 4294967296), by omega, hcy2, by go_num, rfl, BS.out _, hbel.setCell (Nat.le_refl _) _, ST⟩, by simp [intOf]; omega⟩
    · obtain rfl : k = l.length := by omega
      have hcell : wr.cell? ⟨w.heap.size, l.length, none⟩ = some (.int .u32 ((cur[l.length] : Nat) : Int)) := hblk.cell (by rw [U, List.getElem?_map, List.getElem?_eq_getElem (by omega)]; rfl)
      have hfz := hblk.frozen l.length
      have EN := Lib.hid (Nt.up_end (by omega) H.out)
      have BS : Hid (∀ s : Nat, Blk (wr.setCell ⟨w.heap.size, l.length, none⟩ (.int .u32 (s : Int))) w.heap.size 70 (U (cur.set l.length s))) := Lib.hid (fun s => by
        have := hblk.set_ l.length (.int .u32 (s : Int))
        rw [show (U cur).set l.length (.int .u32 (s : Int)) = U (cur.set l.length s) from List.map_set.symm] at this
        exact this)
      have hcy32 : cy < 4294967296 := by
        have : 2 ^ s ≤ 2 ^ 32 := Nat.pow_le_pow_right (by omega) (by omega)
        omega
      generalize cur[l.length] = o at hcell
      clear hblk hcl hcy
      go_wp2_with fail
      go_ret
      refine ⟨cur.set l.length cy, rfl, BS.out cy, Lib.hid EN.out, hbel.setCell (Nat.le_refl _) _⟩
theorem down_any (A : Option Addr) (c B s : Nat) (l : List Nat) (w : World) (hx : Lies w B A (U l)) (hB : B ≤ w.heap.size) (ho : Nt.Ok l) (hc : l.length ≤ c) (hm : c ≤ 9223372036854775807) (hs : l.length ≤ 1000000) (hs32 : s < 32) :
    Calls Tryd.prog 134 #[.slice A l.length c, .int .i64 (s : Int)] w fun e w' => ∃ v, e = .returned v ∧ IsRes w' v (Nt.digs (Nt.val l / 2 ^ s)) ∧ Below w.heap.size w w' := by
  obtain ⟨i0, hi, hz0, hz1, hz2⟩ := info_parts u32_info
  have OL := Lib.hid ho
  have LX := Lib.hid (hx.more hB)
  clear ho hx hB
  go_enter Tryd.func134, Tryd.ntmps134
  go_wp2_with (at_make; refine wpList_make_blk _ rfl _ _ 22 rfl 70 i0 (.int .u32 0) Tryd.underlying22 hi hz0 hz1 rfl .i64 .i64 _ _ l.length l.length rfl rfl (by go_num) (by go_num) (Nat.le_refl _) (by rw [hz2]; omega) (by omega) w.heap.size w (Below.refl _ _) (Nat.le_refl _) ?_; intro w1 hblk1 hb1 hb1' hlt1)
  have hblk0 : Blk w1 w.heap.size 70 (U (List.replicate l.length 0)) := by simpa [U] using hblk1
  clear hblk1 hb1' hlt1
  go_loopw [6, 7] (fun av i wr => ∃ (k ab : Nat) (cur : List Nat), k ≤ l.length ∧ ab < 4294967296 ∧ i = .int .i64 ((k : Int) - 1) ∧ av = .int .u64 (ab : Int) ∧ Blk wr w.heap.size 70 (U cur) ∧ Below w.heap.size w wr ∧ Hid (Nt.DownAt l s cur k ab)) (fun _ i _ => (intOf i + 1).toNat)
  case atStart => exact ⟨l.length, 0, _, Nat.le_refl _, by omega, by go_num, rfl, hblk0, hb1, Lib.hid (Nt.down_start l s)⟩
  case round =>
    clear hblk0 hb1
    obtain ⟨k, ab, cur, hk, hab, rfl, rfl, hblk, hbel, H⟩ := hrel
    have hsz := hblk.lt
    rcases k with _ | k
    · have HE := Lib.hid (Nt.down_end H.out)
      have HTR := trim_any (some ⟨w.heap.size, 0, none⟩) l.length wr.heap.size cur wr hblk.lies H.out.2.1 (by rw [H.out.1]; exact Nat.le_refl _) (by omega)
      rw [H.out.1, HE.out] at HTR
      have HT := Lib.hid HTR
      have HQ := hblk.lies.digs H.out.2.1
      have HQL := Nt.digs_len_le H.out.2.1
      rw [HE.out] at HQ HQL
      rw [H.out.1] at HQL
      have HQ2 := Lib.hid HQ
      clear HTR HQ hblk HE
      obtain ⟨v, hv⟩ : ∃ v, v = Nt.val l / 2 ^ s := ⟨_, rfl⟩
      rw [← hv] at HT HQ2 HQL
      have HV := Lib.hid hv
      clear hv
      go_wp2_with fail
      refine HT.out.mono ?_
      rintro e w' ⟨rfl, rfl⟩
      go_wp2_with fail
      go_ret
      rw [← HV.out]
      exact ⟨_, rfl, ⟨_, _, rfl, Nat.le_refl _, by omega, (fun h => by cases h), HQ2.out⟩, hbel⟩
    · have hk1 : ((k + 1 : Nat) : Int) - 1 = (k : Int) := by omega
      rw [hk1]
      clear hk1
      have hkl : k < l.length := by omega
      have hcl : cur.length = l.length := H.out.1
      obtain ⟨b2, off2, rfl, hb2, hc2⟩ := (LX.out.below hbel).limb hkl
      have hxb := Nt.ok_get OL.out hkl
      have hcell : wr.cell? ⟨w.heap.size, k, none⟩ = some (.int .u32 ((cur[k] : Nat) : Int)) := hblk.cell (by rw [U, List.getElem?_map, List.getElem?_eq_getElem (by omega)]; rfl)
      have hfz := hblk.frozen k
      have ST := Lib.hid (Nt.down_step OL.out (by omega) H.out hkl)
      have BS : Hid (∀ s : Nat, Blk (wr.setCell ⟨w.heap.size, k, none⟩ (.int .u32 (s : Int))) w.heap.size 70 (U (cur.set k s))) := Lib.hid (fun s => by
        have := hblk.set_ k (.int .u32 (s : Int))
        rw [show (U cur).set k (.int .u32 (s : Int)) = U (cur.set k s) from List.map_set.symm] at this
        exact this)
      generalize cur[k] = o at hcell
      generalize l[k] = x at *
      clear hblk hcl
      have hj := join32 (r := ab) (by omega) hxb
      have HE : Hid ((((ab : Int) * 4294967296 + (x : Int)) / 2 ^ s % 4294967296) = (((ab * 4294967296 + x) / 2 ^ s % 4294967296 : Nat) : Int)) := Lib.hid (by
        rw [Int.natCast_emod, Int.natCast_ediv, Int.natCast_add, Int.natCast_mul, Int.natCast_pow]; rfl)
      go_wp2_with fail
      rw [HE.out]
      refine ⟨⟨k, x, _, by omega, hxb, rfl, rfl, BS.out _, hbel.setCell (Nat.le_refl _) _, ST⟩, by simp [intOf]; try omega⟩

end Go.Proofs.YtfiefglagknclaaDoor

set_option linter.unusedVariables false
namespace Nt
/-! ### The estimate, as a loop -/
theorem val_top2 {l : List Nat} {m : Nat} (h : l.length = m + 2) : val l = val (l.take m) + 4294967296 ^ m * (l[m] + 4294967296 * l[m + 1]) := by
  have e := val_split l m (by omega)
  rw [drop_succ_val (by omega), drop_succ_val (k := m + 1) (by omega), List.drop_of_length_le (show l.length ≤ m + 1 + 1 by omega), val, Nat.mul_zero] at e
  exact e
theorem val_top3 {l : List Nat} {m : Nat} (h : l.length = m + 3) : val l = val (l.take m) + 4294967296 ^ m * (l[m] + 4294967296 * (l[m + 1] + 4294967296 * l[m + 2])) := by
  have e := val_split l m (by omega)
  rw [drop_succ_val (by omega), drop_succ_val (k := m + 1) (by omega), drop_succ_val (k := m + 1 + 1) (by omega), List.drop_of_length_le (show l.length ≤ m + 1 + 1 + 1 by omega), val, Nat.mul_zero] at e
  exact e
theorem val_take_lt {l : List Nat} (h : Ok l) {m : Nat} (hm : m ≤ l.length) : val (l.take m) < 4294967296 ^ m := by
  have := val_lt (ok_take h m)
  rwa [List.length_take, Nat.min_eq_left hm] at this
theorem est_of {a d : List Nat} {m : Nat} (ha : Ok a) (hd : Ok d) (hla : a.length = m + 3) (hld : d.length = m + 2) (h31 : 2147483648 ≤ d[m + 1]) (hlt : val a < 4294967296 * val d) :
    Est (val a) (val d) (4294967296 ^ m) d[m + 1] d[m] a[m + 2] a[m + 1] a[m] where
  d := ⟨val (d.take m), val_take_lt hd (by omega), by rw [val_top2 hld]; generalize 4294967296 ^ m = p; generalize val (d.take m) = V; grind⟩
  r := ⟨val (a.take m), val_take_lt ha (by omega), by rw [val_top3 hla]; generalize 4294967296 ^ m = p; generalize val (a.take m) = V; grind⟩
  v1lo := h31
  v1hi := ok_get hd _
  v2hi := ok_get hd _
  u1hi := ok_get ha _
  u2hi := ok_get ha _
  lt := hlt
/-- What holds at the head of the estimate's loop. -/
structure EstAt (R D p v1 v2 u0 u1 u2 g t : Nat) : Prop where
  e : Est R D p v1 v2 u0 u1 u2
  sum : g * v1 + t = u0 * 4294967296 + u1
  ge : R / D ≤ g
theorem est_start {R D p v1 v2 u0 u1 u2 : Nat} (h : Est R D p v1 v2 u0 u1 u2) : EstAt R D p v1 v2 u0 u1 u2 ((u0 * 4294967296 + u1) / v1) ((u0 * 4294967296 + u1) % v1) where
  e := h
  sum := by rw [Nat.mul_comm]; exact Nat.div_add_mod _ _
  ge := h.first
theorem EstAt.le {R D p v1 v2 u0 u1 u2 g t : Nat} (h : EstAt R D p v1 v2 u0 u1 u2 g t) : g ≤ 8589934592 := by
  have h1 := h.e.u0
  have h2 := h.sum
  have h3 := h.e.v1lo
  have h4 := h.e.v1hi
  rcases Nat.lt_or_ge 8589934592 g with h5 | h5
  · exfalso
    have h6 : 8589934593 * v1 ≤ g * v1 := Nat.mul_le_mul_right _ h5
    generalize g * v1 = z at *
    omega
  · exact h5
theorem EstAt.step {R D p v1 v2 u0 u1 u2 g t : Nat} (h : EstAt R D p v1 v2 u0 u1 u2 g t) (ht : 4294967296 ≤ g ∨ t * 4294967296 + u2 < g * v2) : 1 ≤ g ∧ EstAt R D p v1 v2 u0 u1 u2 (g - 1) (t + v1) := by
  have h1 := h.e.less h.sum h.ge ht
  have hg : 1 ≤ g := Nat.le_trans (Nat.le_add_left _ _) h1
  refine ⟨hg, h.e, ?_, Nat.le_sub_one_of_lt h1⟩
  clear h1 ht
  rw [← h.sum]
  obtain ⟨m, rfl⟩ : ∃ m, g = m + 1 := ⟨g - 1, by omega⟩
  rw [Nat.add_sub_cancel, Nat.succ_mul]
  omega
theorem EstAt.done {R D p v1 v2 u0 u1 u2 g t : Nat} (h : EstAt R D p v1 v2 u0 u1 u2 g t) (hg : g < 4294967296) (ht : g * v2 ≤ t * 4294967296 + u2) : R / D ≤ g ∧ g ≤ R / D + 1 ∧ g < 4294967296 :=
  ⟨h.ge, h.e.near h.sum hg ht, hg⟩
theorem EstAt.broke {R D p v1 v2 u0 u1 u2 g t : Nat} (h : EstAt R D p v1 v2 u0 u1 u2 g t) (ht : 4294967296 ≤ t) : R / D ≤ g ∧ g ≤ R / D + 1 ∧ g < 4294967296 := by
  have h1 := h.e.u0
  have h2 := h.sum
  have h3 := h.e.v1lo
  have hg : g < 4294967296 := by
    rcases Nat.lt_or_ge g 4294967296 with h5 | h5
    · exact h5
    · exfalso
      have h6 : 4294967296 * v1 ≤ g * v1 := Nat.mul_le_mul_right _ h5
      generalize g * v1 = z at *
      omega
  refine h.done hg ?_
  have h7 : g * v2 ≤ 4294967296 * 4294967296 := Nat.mul_le_mul (by omega) (by have := h.e.v2hi; omega)
  omega

/-! ### The divisor, its highest bit 1 -/
theorem take_low {l : List Nat} {n v : Nat} (h : Ok l) (hl : l.length = n + 1) (hv : val l = v) (hlt : v < 4294967296 ^ n) : val (l.take n) = v := by
  have h1 := val_take_succ (l := l) (i := n) (by omega)
  rw [List.take_of_length_le (by omega)] at h1
  rcases Nat.eq_zero_or_pos l[n] with h0 | h0
  · rw [h0, Nat.mul_zero, Nat.add_zero] at h1; omega
  · exfalso
    have : 4294967296 ^ n * 1 ≤ 4294967296 ^ n * l[n] := Nat.mul_le_mul_left _ h0
    omega
theorem scaled_lt {y s m : Nat} (t : Nat) (hy : y < (t + 1) * 4294967296 ^ m) (hs : s ≤ 32) (ht : t * 2 ^ s < 4294967296) : y * 2 ^ s < 4294967296 ^ (m + 1) := by
  have h1 : y * 2 ^ s < (t + 1) * 4294967296 ^ m * 2 ^ s := Nat.mul_lt_mul_of_pos_right hy (Nat.two_pow_pos s)
  have h2 : (t + 1) * 2 ^ s ≤ 4294967296 := by
    have e : 4294967296 = 2 ^ (32 - s) * 2 ^ s := by rw [← Nat.pow_add, show 32 - s + s = 32 by omega]
    have h3 : t < 2 ^ (32 - s) := by rw [e] at ht; exact Nat.lt_of_mul_lt_mul_right ht
    have h4 : (t + 1) * 2 ^ s ≤ 2 ^ (32 - s) * 2 ^ s := Nat.mul_le_mul_right _ h3
    rw [← e] at h4
    exact h4
  have h5 : (t + 1) * 2 ^ s * 4294967296 ^ m ≤ 4294967296 * 4294967296 ^ m := Nat.mul_le_mul_right _ h2
  rw [Nat.pow_succ]
  have e2 : (t + 1) * 4294967296 ^ m * 2 ^ s = (t + 1) * 2 ^ s * 4294967296 ^ m := by rw [Nat.mul_assoc, Nat.mul_assoc, Nat.mul_comm (2 ^ s)]
  rw [e2] at h1
  rw [Nat.mul_comm (4294967296 ^ m)]
  exact Nat.lt_of_lt_of_le h1 h5
theorem top_bit {d : List Nat} {m x : Nat} (hd : Ok d) (hl : d.length = m + 1) (hv : 2147483648 * 4294967296 ^ m ≤ val d) : 2147483648 ≤ d[m] := by
  have h1 := val_take_succ (l := d) (i := m) (by omega)
  rw [List.take_of_length_le (by omega)] at h1
  have h2 := val_take_lt hd (m := m) (by omega)
  rcases Nat.lt_or_ge d[m] 2147483648 with h | h
  · exfalso
    have h3 : 4294967296 ^ m * (d[m] + 1) ≤ 4294967296 ^ m * 2147483648 := Nat.mul_le_mul_left _ h
    rw [Nat.mul_add, Nat.mul_one] at h3
    generalize 4294967296 ^ m = p at *
    generalize p * d[m] = z at *
    omega
  · exact h
/-- Of the limbs b of y (two or more, none 0 on top), shifted up by s so that the top's highest bit is 1. -/
theorem div_scaled {y s m t : Nat} {cur : List Nat} (hlen : (digs y).length = m + 1) (htop : t = (digs y)[m]'(by omega)) (hs : s ≤ 32) (hlo : 2147483648 ≤ t * 2 ^ s) (hhi : t * 2 ^ s < 4294967296)
    (ok : Ok cur) (hl : cur.length = m + 1 + 1) (hv : val cur = y * 2 ^ s) :
    y * 2 ^ s < 4294967296 ^ (m + 1) ∧ val (cur.take (m + 1)) = y * 2 ^ s ∧ Ok (cur.take (m + 1)) ∧ (cur.take (m + 1)).length = m + 1 ∧ ∀ h : m < (cur.take (m + 1)).length, 2147483648 ≤ (cur.take (m + 1))[m] := by
  have hy := val_take_succ (l := digs y) (i := m) (by omega)
  rw [List.take_of_length_le (by omega), val_digs, ← htop] at hy
  have hr := val_take_lt (ok_digs y) (m := m) (by omega)
  have hlt : y * 2 ^ s < 4294967296 ^ (m + 1) := scaled_lt t (by rw [Nat.succ_mul, Nat.mul_comm t]; omega) hs hhi
  have hval := take_low ok hl hv hlt
  have hlen2 : (cur.take (m + 1)).length = m + 1 := by rw [List.length_take]; omega
  refine ⟨hlt, hval, ok_take ok _, hlen2, fun h => top_bit (x := 0) (ok_take ok _) hlen2 ?_⟩
  rw [hval]
  have h1 : 4294967296 ^ m * t ≤ y := by omega
  have h2 : 4294967296 ^ m * t * 2 ^ s ≤ y * 2 ^ s := Nat.mul_le_mul_right _ h1
  have h3 : 2147483648 * 4294967296 ^ m ≤ t * 2 ^ s * 4294967296 ^ m := Nat.mul_le_mul_right _ hlo
  have e : t * 2 ^ s * 4294967296 ^ m = 4294967296 ^ m * t * 2 ^ s := by rw [Nat.mul_comm (t * 2 ^ s), Nat.mul_assoc]
  omega
end Nt

set_option linter.unusedVariables false
namespace Nt
open Go
theorem bitLen_bounds : ∀ (f x : Nat), x < 2 ^ f → f ≤ 64 → x ≠ 0 → 1 ≤ Lib.bitLen x ∧ 2 ^ (Lib.bitLen x - 1) ≤ x ∧ x < 2 ^ Lib.bitLen x
  | 0, x, h, _, h0 => by simp at h; omega
  | f + 1, x, h, hf, h0 => by
    have h64 : x < 2 ^ 64 := Nat.lt_of_lt_of_le h (Nat.pow_le_pow_right (by omega) hf)
    rw [Lib.bitLen_half x h0 h64]
    rcases Nat.eq_zero_or_pos (x / 2) with hz | hz
    · have : x = 1 := by omega
      subst this
      decide
    · obtain ⟨a, b, c⟩ := bitLen_bounds f (x / 2) (by rw [Nat.pow_succ] at h; omega) (by omega) (by omega)
      generalize Lib.bitLen (x / 2) = L at *
      refine ⟨by omega, ?_, ?_⟩
      · rw [show 1 + L - 1 = (L - 1) + 1 by omega, Nat.pow_succ]; omega
      · rw [Nat.add_comm, Nat.pow_succ]; omega
theorem shift_of {t : Nat} (h0 : t ≠ 0) (ht : t < 4294967296) : Lib.bitLen t ≤ 32 ∧ 1 ≤ Lib.bitLen t ∧ 2147483648 ≤ t * 2 ^ (32 - Lib.bitLen t) ∧ t * 2 ^ (32 - Lib.bitLen t) < 4294967296 := by
  obtain ⟨a, b, c⟩ := bitLen_bounds 32 t ht (by omega) h0
  have hl : Lib.bitLen t ≤ 32 := by
    rcases Nat.lt_or_ge 32 (Lib.bitLen t) with h | h
    · exfalso
      have : 2 ^ 32 ≤ 2 ^ (Lib.bitLen t - 1) := Nat.pow_le_pow_right (by omega) (by omega)
      omega
    · exact h
  generalize Lib.bitLen t = L at *
  refine ⟨hl, a, ?_, ?_⟩
  · have h1 := Nat.mul_le_mul_right (2 ^ (32 - L)) b
    rw [← Nat.pow_add, show L - 1 + (32 - L) = 31 by omega] at h1
    exact h1
  · have h1 := Nat.mul_lt_mul_of_pos_right c (Nat.two_pow_pos (32 - L))
    rw [← Nat.pow_add, show L + (32 - L) = 32 by omega] at h1
    exact h1
end Nt

/-
  What nat.estimate computes.
-/
namespace Go.Proofs.YtfiefglagknclaaDoor
open Go.RowKit
set_option maxHeartbeats 1000000
set_option maxRecDepth 100000
set_option linter.unusedVariables false

theorem estimate_any (A A' : Option Addr) (c c' B n : Nat) (a d : List Nat) (w : World) (hx : Lies w B A (U a)) (hy : Lies w B A' (U d)) (ha : Nt.Ok a) (hd : Nt.Ok d) (hla : a.length = n + 1) (hld : d.length = n) (hn : 2 ≤ n) (hn2 : n ≤ 1000000)
    (h31 : ∀ h : n - 1 < d.length, 2147483648 ≤ d[n - 1]) (hlt : Nt.val a < 4294967296 * Nt.val d) (hc : n + 1 ≤ c) (hc' : n ≤ c') :
    Calls Tryd.prog 131 #[.slice A (n + 1) c, .slice A' n c'] w fun e w' => ∃ g : Nat, e = .returned (.int .u64 (g : Int)) ∧ Hid (Nt.val a / Nt.val d ≤ g ∧ g ≤ Nt.val a / Nt.val d + 1) ∧ g < 4294967296 ∧ ∃ k, w' = w.drewN k := by
  have hE : ∃ p, Nt.Est (Nt.val a) (Nt.val d) p (d[n - 1]'(by omega)) (d[n - 2]'(by omega)) (a[n]'(by omega)) (a[n - 1]'(by omega)) (a[n - 2]'(by omega)) := by
    obtain ⟨m, rfl⟩ : ∃ m, n = m + 2 := ⟨n - 2, by omega⟩
    exact ⟨_, Nt.est_of ha hd (by omega) (by omega) (h31 (by omega)) hlt⟩
  obtain ⟨p, hE⟩ := hE
  obtain ⟨b1, o1, rfl, _, a0⟩ := hx.limb (k := n) (by omega)
  obtain ⟨b1', o1', e1, _, a1⟩ := hx.limb (k := n - 1) (by omega)
  obtain ⟨b1'', o1'', e2, _, a2⟩ := hx.limb (k := n - 2) (by omega)
  obtain ⟨b2, o2, rfl, _, d1⟩ := hy.limb (k := n - 1) (by omega)
  obtain ⟨b2', o2', e3, _, d2⟩ := hy.limb (k := n - 2) (by omega)
  injection e1 with e1; injection e1 with e1 e1'; subst e1 e1'
  injection e2 with e2; injection e2 with e2 e2'; subst e2 e2'
  injection e3 with e3; injection e3 with e3 e3'; subst e3 e3'
  have u0b := Nt.ok_get ha (i := n) (by omega)
  generalize d[n - 1]'(by omega) = v1 at hE d1
  generalize d[n - 2]'(by omega) = v2 at hE d2
  generalize a[n]'(by omega) = u0 at hE a0 u0b
  generalize a[n - 1]'(by omega) = u1 at hE a1
  generalize a[n - 2]'(by omega) = u2 at hE a2
  have hv1 := hE.v1lo
  have hv1' := hE.v1hi
  have hv2 := hE.v2hi
  have hu1 := hE.u1hi
  have hu2 := hE.u2hi
  have H0 := Lib.hid (Nt.est_start hE)
  clear hx hy ha hd h31 hlt hla hld
  have hj := join32 (r := u0) u0b hu1
  have hsh : IntKind.u64.wrap ((u0 : Int) * 4294967296) = (u0 : Int) * 4294967296 := IntWalk.u64_in _ (by omega)
  have hw1 : IntKind.i64.wrap ((n : Int) - 1) = (n : Int) - 1 := IntWalk.i64_in _ (by omega)
  have hp1 : (0 : Int) ≤ (n : Int) - 1 := by omega
  have hp1' : (1 : Int) ≤ (n : Int) := by omega
  have ht1 : ((n : Int) - 1).toNat = n - 1 := by omega
  have hdz : ((v1 : Int) == 0) = false := by simp; omega
  have hv1p : (1 : Int) ≤ (v1 : Int) := by omega
  generalize hH : u0 * 4294967296 + u1 = H at H0 hj
  have hHb : H < 18446744073709551616 := by omega
  clear hH hE
  have hq : (H : Int) / (v1 : Int) = ((H / v1 : Nat) : Int) := (Int.natCast_ediv H v1).symm
  have hr : (H : Int) % (v1 : Int) = ((H % v1 : Nat) : Int) := (Int.natCast_emod H v1).symm
  have hrl : H % v1 < v1 := Nat.mod_lt _ (by omega)
  have hql := H0.out.le
  generalize H / v1 = q at *
  generalize H % v1 = r at *
  go_enter Tryd.func131, Tryd.ntmps131
  go_wp2_with fail
  go_quiet (fail)
  clear hj hsh
  go_wp2_with fail
  go_quiet (fail)
  clear a0 a1 hq hql u0b hHb
  have HR := Lib.hid hr
  clear hr
  go_wp2_with fail
  go_loopw [7, 8] (fun gv tv wr => ∃ g t m : Nat, wr = w.drewN m ∧ t < 4294967296 ∧ g ≤ 8589934592 ∧ gv = .int .u64 (g : Int) ∧ tv = .int .u64 (t : Int) ∧ Hid (Nt.EstAt (Nt.val a) (Nt.val d) p v1 v2 u0 u1 u2 g t)) (fun gv _ _ => (intOf gv).toNat)
  case atStart => exact ⟨q, r, _, World.drewN_drewN _ _ _, by omega, H0.out.le, rfl, congrArg (Value.int .u64) HR.out, H0⟩
  case round =>
    clear H0 HR hrl
    obtain ⟨g, t, m, rfl, ht, hg, rfl, rfl, HA⟩ := hrel
    have hw2 : IntKind.i64.wrap ((n : Int) - 2) = (n : Int) - 2 := IntWalk.i64_in _ (by omega)
    have hp2 : (0 : Int) ≤ (n : Int) - 2 := by omega
    have hp2' : (2 : Int) ≤ (n : Int) := by omega
    have ht2 : ((n : Int) - 2).toNat = n - 2 := by omega
    by_cases hbig : 4294967296 ≤ g
    · have hne : ((g : Int) / 4294967296 != 0) = true := by simp; omega
      obtain ⟨hg1, hst⟩ := HA.out.step (.inl hbig)
      have ST := Lib.hid hst
      clear hst
      by_cases hb2 : 4294967296 ≤ t + v1
      · have hne2 : (((t : Int) + (v1 : Int)) / 4294967296 != 0) = true := by simp; omega
        have BR := Lib.hid (ST.out.broke hb2)
        go_wp2_with fail
        go_quiet (fail)
        go_wp2_with fail
        go_ret
        exact ⟨g - 1, ret_int (by omega), Lib.hid ⟨BR.out.1, BR.out.2.1⟩, BR.out.2.2, _, rfl⟩
      · have hne2 : (((t : Int) + (v1 : Int)) / 4294967296 != 0) = false := by simp; omega
        go_wp2_with fail
        go_quiet (fail)
        go_wp2_with fail
        exact ⟨⟨g - 1, t + v1, _, rfl, by omega, by omega, congrArg (Value.int .u64) (by omega), congrArg (Value.int .u64) (by omega), ST⟩, by simp [intOf]; omega⟩
    · have hne : ((g : Int) / 4294967296 != 0) = false := by simp; omega
      have hmb := Nt.mul_bound (x := g) (y := v2) (by omega) hv2
      obtain ⟨P, hP⟩ : ∃ P : Nat, P = g * v2 := ⟨_, rfl⟩
      have hPi : IntKind.u64.wrap ((g : Int) * (v2 : Int)) = (P : Int) := by rw [← Int.natCast_mul, ← hP, IntWalk.u64_in _ (by omega)]
      have hsh : IntKind.u64.wrap ((t : Int) * 4294967296) = (t : Int) * 4294967296 := IntWalk.u64_in _ (by omega)
      have hj := join32 (r := t) ht hu2
      have HP := Lib.hid hP
      clear hmb hP
      generalize hJ : t * 4294967296 + u2 = J at hj
      have HJ := Lib.hid hJ
      clear hJ
      by_cases htest : J < P
      · have hdec : decide ((J : Int) < (P : Int)) = true := by simp; omega
        obtain ⟨hg1, hst⟩ := HA.out.step (.inr (by rw [HJ.out, ← HP.out]; exact htest))
        have ST := Lib.hid hst
        clear hst
        by_cases hb2 : 4294967296 ≤ t + v1
        · have hne2 : (((t : Int) + (v1 : Int)) / 4294967296 != 0) = true := by simp; omega
          have BR := Lib.hid (ST.out.broke hb2)
          go_wp2_with fail
          go_quiet (fail)
          go_wp2_with fail
          go_ret
          exact ⟨g - 1, ret_int (by omega), Lib.hid ⟨BR.out.1, BR.out.2.1⟩, BR.out.2.2, _, rfl⟩
        · have hne2 : (((t : Int) + (v1 : Int)) / 4294967296 != 0) = false := by simp; omega
          go_wp2_with fail
          go_quiet (fail)
          go_wp2_with fail
          exact ⟨⟨g - 1, t + v1, _, rfl, by omega, by omega, congrArg (Value.int .u64) (by omega), congrArg (Value.int .u64) (by omega), ST⟩, by simp [intOf]; omega⟩
      · have hdec : decide ((J : Int) < (P : Int)) = false := by simp; omega
        have DN := Lib.hid (HA.out.done (by omega) (by rw [HJ.out, ← HP.out]; omega))
        go_wp2_with fail
        go_quiet (fail)
        go_wp2_with fail
        go_ret
        exact ⟨g, rfl, Lib.hid ⟨DN.out.1, DN.out.2.1⟩, DN.out.2.2, _, World.drewN_drewN _ _ _⟩
end Go.Proofs.YtfiefglagknclaaDoor
