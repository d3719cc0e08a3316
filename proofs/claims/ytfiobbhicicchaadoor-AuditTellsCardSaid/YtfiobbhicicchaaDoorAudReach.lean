/-
  audit.Reach: of each channel to which ones what it brings may flow.
-/
import Derived.Test.YtfiobbhicicchaaDoorAudFirst
import Derived.Test.YtfiobbhicicchaaDoorBlk
import Derived.StillTailTactics
namespace Go.Proofs.YtfiobbhicicchaaDoor
open Go.RowKit Ar
set_option maxHeartbeats 2000000
set_option linter.unusedVariables false

/-- The first m of 64 answers. -/
def reachAt (cl : Nat → Nat) (au n : Nat) : Bool := Lab.flows (cl (n / 8)) (Lab.join (cl (n % 8)) au)
def reachV (cl : Nat → Nat) (au m : Nat) : List Value := (List.range 64).map fun n => Value.bool (decide (n < m) && reachAt cl au n)
theorem reachV_len (cl : Nat → Nat) (au m : Nat) : (reachV cl au m).length = 64 := by simp [reachV]
theorem reachV_at (cl : Nat → Nat) (au m n : Nat) (hn : n < 64) : (reachV cl au m)[n]? = some (.bool (decide (n < m) && reachAt cl au n)) := by
  simp [reachV, hn]
theorem reachV_set (cl : Nat → Nat) (au m : Nat) (hm : m < 64) : (reachV cl au m).set m (.bool (reachAt cl au m)) = reachV cl au (m + 1) := by
  apply List.ext_getElem?
  intro i
  rw [List.getElem?_set]
  by_cases h : m = i
  · subst h
    have h1 := reachV_at cl au (m + 1) m hm
    rw [decide_eq_true (Nat.lt_succ_self m), Bool.true_and] at h1
    rw [h1, if_pos rfl, if_pos (by rw [reachV_len]; exact hm)]
  · rw [if_neg h]
    by_cases hi : i < 64
    · rw [reachV_at _ _ _ _ hi, reachV_at _ _ _ _ hi]
      congr 3
      rw [decide_eq_decide]; omega
    · rw [List.getElem?_eq_none (by rw [reachV_len]; omega), List.getElem?_eq_none (by rw [reachV_len]; omega)]
theorem reachV_one (cl : Nat → Nat) (au m : Nat) : (reachV cl au m).toArray.all (·.oneCell') = true := by
  rw [Array.all_eq_true]
  intro i hi
  have hi' : i < 64 := by simpa [reachV_len] using hi
  have h := reachV_at cl au m i hi'
  rw [List.getElem?_eq_getElem (by rw [reachV_len]; exact hi')] at h
  injection h with h
  simp only [List.getElem_toArray, h]
  rfl
theorem reach_info : (Tryd.prog.info? 43).map (·.size) = some 64 := by kernel_rfl
theorem reach_zero (cl : Nat → Nat) (au : Nat) : (reachV cl au 0).toArray = (reachV (fun _ => 0) 0 0).toArray := by
  simp [reachV]

theorem index_clear (cl : Nat → Nat) (k : Nat) (hk : k < 8) (w : World) : (Instr.index 23 (.agg #[.int .u64 (cl 0 : Int), .int .u64 (cl 1 : Int), .int .u64 (cl 2 : Int), .int .u64 (cl 3 : Int), .int .u64 (cl 4 : Int), .int .u64 (cl 5 : Int), .int .u64 (cl 6 : Int), .int .u64 (cl 7 : Int)]) (.int .i64 (k : Int))).run Tryd.prog w = .ok (.int .u64 (cl k : Int)) w := by
  rcases (show k = 0 ∨ k = 1 ∨ k = 2 ∨ k = 3 ∨ k = 4 ∨ k = 5 ∨ k = 6 ∨ k = 7 by omega) with rfl | rfl | rfl | rfl | rfl | rfl | rfl | rfl <;> kernel_rfl

theorem heap3a (w : World) (a b c : Obj) : (((w.alloc a).alloc b).alloc c).heap[w.heap.size]? = some a := (Below.heap_alloc _ _ _ (by simp; omega)).trans (heap_alloc2_old w a b)
theorem heap3b (w : World) (a b c : Obj) : (((w.alloc a).alloc b).alloc c).heap[w.heap.size + 1]? = some b := (Below.heap_alloc _ _ _ (by simp)).trans (heap_alloc2_new w a b)
theorem heap3c (w : World) (a b c : Obj) : (((w.alloc a).alloc b).alloc c).heap[w.heap.size + 1 + 1]? = some c := by
  have := heap_alloc_new ((w.alloc a).alloc b) c
  rwa [show ((w.alloc a).alloc b).heap.size = w.heap.size + 1 + 1 from by simp] at this
theorem Below.setRow' {B : Nat} {a w : World} (h : Below B a w) {g : Nat} (hg : B ≤ g) (cs : Array Value) : Below B a (w.setRow g cs) :=
  ⟨h.os, h.tape, h.output, by rw [size_setRow]; exact h.size, fun k hk => by
    have e : (w.setRow g cs).heap[k]? = w.heap[k]? := by
      simp only [World.setRow, Array.getElem?_modify]
      rw [if_neg (by omega)]
    rw [e]; exact h.block k hk⟩
theorem heap_setRow_same {w : World} {g : Nat} {old cs : Array Value} {t : TypeId} (h : w.heap[g]? = some (.cells old t (0, 0))) : (w.setRow g cs).heap[g]? = some (.cells cs t (0, 0)) := by
  simp [World.setRow, Array.getElem?_modify, h]
theorem code_world {P : Program} {c : Code} {Q : Exit → Act → World → Prop} {a : Act} {w : World} (h : ∀ W, W = w → c.wp P Q a W) : c.wp P Q a w := h _ rfl

set_option maxRecDepth 100000 in
theorem reach_any (cf : Cfg) (C : Array Value) (rel : Bool) (w : World) (B : Nat) (hC : IsCfg w B cf C) (hB : B ≤ w.heap.size) :
    Calls Tryd.prog 12 #[.agg C, .bool rel] w fun e w' => e = .returned (.agg (reachV cf.clear (if rel then cf.auth else 0) 64).toArray) ∧ Below w.heap.size w w' := by
  have HC := Lib.hid hC
  have ha := hC.auth
  have hal := hC.authLt
  have q0 := (hC.clear 0 (by omega)).1
  have q1 := (hC.clear 1 (by omega)).1
  have q2 := (hC.clear 2 (by omega)).1
  have q3 := (hC.clear 3 (by omega)).1
  have q4 := (hC.clear 4 (by omega)).1
  have q5 := (hC.clear 5 (by omega)).1
  have q6 := (hC.clear 6 (by omega)).1
  have q7 := (hC.clear 7 (by omega)).1
  have HX := Lib.hid (index_clear cf.clear)
  have HM := Lib.hid (fun (i j : Nat) (hi : i < 8) (hj : j < 8) (wx : World) (au : Nat) (hau : au < 18446744073709551616) => (may_any (cf.clear i) (cf.clear j) au wx (hC.clear i hi).2 (hC.clear j hj).2 hau).mono fun _ _ h => (⟨h.1, h.2.symm⟩ : _ ∧ _))
  clear hC
  cases rel
  · have HM0 : Hid (∀ (i j : Nat) (hi : i < 8) (hj : j < 8) (wx : World), Calls Tryd.prog 23 #[.int .u64 (cf.clear i : Int), .int .u64 (cf.clear j : Int), .int .u64 0] wx fun e w' => e = .returned (.bool (Lab.flows (cf.clear i) (Lab.join (cf.clear j) 0))) ∧ w' = wx) := Lib.hid (fun i j hi hj wx => HM.out i j hi hj wx 0 (by omega))
    clear HM
    go_enter Tryd.func12, Tryd.ntmps12
    go_wp2_with fail
    refine code_world ?_
    intro W hW
    have hWs : W.heap.size = w.heap.size + 1 + 1 + 1 := by rw [hW]; simp
    have hWb : Below w.heap.size w W := by rw [hW]; exact (((Below.refl _ _).alloc (Nat.le_refl _) _).alloc (by simp) _).alloc (by simp; omega) _
    have hC0 : W.heap[w.heap.size]? = some (.cells C 29 (0, 0)) := by rw [hW, heap3a]
    have hR0 : Blk W (w.heap.size + 1) 43 (reachV cf.clear 0 0) := by rw [Blk, reach_zero, hW, heap3b]; rfl
    have hM0 : Blk W (w.heap.size + 1 + 1) 43 (reachV cf.clear 0 0) := by rw [Blk, reach_zero, hW, heap3c]; rfl
    have hcl : ∀ k v, C[k]? = some v → W.cell? ⟨w.heap.size, k, none⟩ = some v := fun k v hv => (cell_of_row W _ k _ _ _ hC0).trans hv
    have HQ := Lib.hid (show W.cell? ⟨w.heap.size, 0, none⟩ = _ ∧ W.cell? ⟨w.heap.size, 1, none⟩ = _ ∧ W.cell? ⟨w.heap.size, 2, none⟩ = _ ∧ W.cell? ⟨w.heap.size, 3, none⟩ = _ ∧ W.cell? ⟨w.heap.size, 4, none⟩ = _ ∧ W.cell? ⟨w.heap.size, 5, none⟩ = _ ∧ W.cell? ⟨w.heap.size, 6, none⟩ = _ ∧ W.cell? ⟨w.heap.size, 7, none⟩ = _ from ⟨hcl 0 _ q0, hcl 1 _ q1, hcl 2 _ q2, hcl 3 _ q3, hcl 4 _ q4, hcl 5 _ q5, hcl 6 _ q6, hcl 7 _ q7⟩)
    have HR0 := Lib.hid hR0
    have HM1 := Lib.hid hM0
    have hWl : w.heap.size + 1 + 1 < W.heap.size := by omega
    clear hcl hC0 hR0 hM0
    clear hW hWs q0 q1 q2 q3 q4 q5 q6 q7
    go_loopw [16] (fun i wr => ∃ k : Nat, k ≤ 8 ∧ i = .int .i64 k ∧ Hid (Blk wr (w.heap.size + 1 + 1) 43 (reachV cf.clear 0 (8 * k))) ∧ Below (w.heap.size + 1 + 1) W wr) (fun i _ => 8 - (intOf i).toNat)
    case atStart => exact ⟨0, Nat.zero_le _, rfl, HM1, Below.refl _ _⟩
    case round =>
      obtain ⟨k, hk, rfl, HK, hbel⟩ := hrel
      by_cases hlt : k < 8
      · have hK : ∀ j v, W.cell? ⟨w.heap.size, j, none⟩ = some v → wr.cell? ⟨w.heap.size, j, none⟩ = some v := fun j v hv => (hbel.cell (p := ⟨w.heap.size, j, none⟩) (show w.heap.size < w.heap.size + 1 + 1 by omega)).trans hv
        have q0 := hK 0 _ HQ.out.1
        have q1 := hK 1 _ HQ.out.2.1
        have q2 := hK 2 _ HQ.out.2.2.1
        have q3 := hK 3 _ HQ.out.2.2.2.1
        have q4 := hK 4 _ HQ.out.2.2.2.2.1
        have q5 := hK 5 _ HQ.out.2.2.2.2.2.1
        have q6 := hK 6 _ HQ.out.2.2.2.2.2.2.1
        have q7 := hK 7 _ HQ.out.2.2.2.2.2.2.2
        clear hK
        have hx := HX.out k hlt
        have hdk : decide ((k : Int) < 8) = true := by simp; omega
        go_wp2_with fail
        clear q0 q1 q2 q3 q4 q5 q6 q7 hx
        obtain ⟨wo, hwo⟩ : ∃ wo : World, wo = wr := ⟨_, rfl⟩
        rw [← hwo] at hbel HK ⊢
        clear hwo
        go_loopw [22] (fun i wr => ∃ j : Nat, j ≤ 8 ∧ i = .int .i64 j ∧ Hid (Blk wr (w.heap.size + 1 + 1) 43 (reachV cf.clear 0 (8 * k + j))) ∧ Below (w.heap.size + 1 + 1) W wr) (fun i _ => 8 - (intOf i).toNat)
        case atStart => exact ⟨0, Nat.zero_le _, rfl, HK, hbel⟩
        case round =>
          clear HK hbel
          obtain ⟨j, hj, rfl, HJ, hbel⟩ := hrel
          by_cases hlt' : j < 8
          · have hx := HX.out j hlt'
            go_wp2_with fail
            clear hx
            have hk0 : (0 : Int) ≤ (k : Int) := by omega
            have hk8 : (k : Int) < 8 := by omega
            have hj0 : (0 : Int) ≤ (j : Int) := by omega
            have hj8 : (j : Int) < 8 := by omega
            have hcell : wr.cell? ⟨w.heap.size + 1 + 1, k * 8 + j, none⟩ = some (.bool false) := by
              have := HJ.out.cell (i := k * 8 + j) (reachV_at cf.clear 0 (8 * k + j) (k * 8 + j) (by omega))
              rw [this, show decide (k * 8 + j < 8 * k + j) = false by simp; omega]; rfl
            have hfz := HJ.out.frozen (k * 8 + j)
            go_still_tail 8, (by kernel_rfl)
            still_call (HM0.out k j hlt hlt' _)
            repeat still_step
            refine wpStill_nil ?_
            change wpList _ _ _ _ _ wr.drew
            go_wp2_with fail
            go_roundw
            case rel =>
              refine ⟨j + 1, by omega, by go_num, Lib.hid ?_, ?_⟩
              · have h := (HJ.out.drewN 1).set_ (k * 8 + j) (.bool (Lab.flows (cf.clear k) (Lab.join (cf.clear j) 0)))
                have hr : reachAt cf.clear 0 (8 * k + j) = Lab.flows (cf.clear k) (Lab.join (cf.clear j) 0) := by
                  unfold reachAt
                  rw [show (8 * k + j) / 8 = k by omega, show (8 * k + j) % 8 = j by omega]
                rw [← hr, show k * 8 + j = 8 * k + j by omega, reachV_set _ _ _ (by omega)] at h
                rw [← hr, show k * 8 + j = 8 * k + j by omega]
                exact h
              · exact (Below.drew hbel).setCell (Nat.le_refl _) _
            case measure => simp [intOf]; omega
          · obtain rfl : j = 8 := by omega
            have HJ2 : Hid (Blk wr (w.heap.size + 1 + 1) 43 (reachV cf.clear 0 (8 * (k + 1)))) := HJ
            clear HJ
            go_wp2_with fail
            go_roundw
            case rel => exact ⟨k + 1, by omega, by go_num, HJ2, hbel⟩
            case measure => simp [intOf]; omega
      · obtain rfl : k = 8 := by omega
        have hR : Blk wr (w.heap.size + 1) 43 (reachV cf.clear 0 0) := HR0.out.keep hbel (by omega)
        have HK2 := Lib.hid (show wr.heap[w.heap.size + 1 + 1]? = some (.cells (reachV cf.clear 0 64).toArray 43 (0, 0)) from HK.out)
        have HR2 := Lib.hid (show wr.heap[w.heap.size + 1]? = some (.cells (reachV cf.clear 0 0).toArray 43 (0, 0)) from hR)
        have HI : Hid ((Tryd.prog.info? 43).map (·.size) = some (reachV cf.clear 0 64).toArray.size) := Lib.hid (by rw [List.size_toArray, reachV_len]; exact reach_info)
        clear HK hR
        go_wp2_with (first
          | (with_reducible refine wpList_load_row rfl 43 (.tmp 6) rfl (w.heap.size + 1 + 1) rfl 43 (reachV cf.clear 0 64).toArray (0, 0) _ HK2.out Tryd.underlying43 rfl HI.out ?_)
          | (with_reducible refine wpList_store_row rfl 43 (.tmp 4) (.tmp 36) rfl (w.heap.size + 1) (reachV cf.clear 0 64).toArray rfl rfl 43 (reachV cf.clear 0 0).toArray HR2.out HI.out (by rw [List.size_toArray, List.size_toArray, reachV_len, reachV_len]) (reachV_one _ _ _) ?_))
        refine bodyPost_ret (results_cell_row (by rfl) _ _ (w.heap.size + 1) 43 (reachV cf.clear 0 64).toArray (0, 0) _ (by rfl) (heap_setRow_same HR2.out) Tryd.underlying43 rfl HI.out) rfl ⟨rfl, ?_⟩
        exact Below.setRow' (hWb.trans (hbel.mono (by omega))) (by omega) _
  · have HM0 : Hid (∀ (i j : Nat) (hi : i < 8) (hj : j < 8) (wx : World), Calls Tryd.prog 23 #[.int .u64 (cf.clear i : Int), .int .u64 (cf.clear j : Int), .int .u64 (cf.auth : Int)] wx fun e w' => e = .returned (.bool (Lab.flows (cf.clear i) (Lab.join (cf.clear j) cf.auth))) ∧ w' = wx) := Lib.hid (fun i j hi hj wx => HM.out i j hi hj wx cf.auth hal)
    clear HM
    go_enter Tryd.func12, Tryd.ntmps12
    go_wp2_with fail
    refine code_world ?_
    intro W hW
    have hWs : W.heap.size = w.heap.size + 1 + 1 + 1 := by rw [hW]; simp
    have hWb : Below w.heap.size w W := by rw [hW]; exact (((Below.refl _ _).alloc (Nat.le_refl _) _).alloc (by simp) _).alloc (by simp; omega) _
    have hC0 : W.heap[w.heap.size]? = some (.cells C 29 (0, 0)) := by rw [hW, heap3a]
    have hR0 : Blk W (w.heap.size + 1) 43 (reachV cf.clear cf.auth 0) := by rw [Blk, reach_zero, hW, heap3b]; rfl
    have hM0 : Blk W (w.heap.size + 1 + 1) 43 (reachV cf.clear cf.auth 0) := by rw [Blk, reach_zero, hW, heap3c]; rfl
    have hcl : ∀ k v, C[k]? = some v → W.cell? ⟨w.heap.size, k, none⟩ = some v := fun k v hv => (cell_of_row W _ k _ _ _ hC0).trans hv
    have HQ := Lib.hid (show W.cell? ⟨w.heap.size, 0, none⟩ = _ ∧ W.cell? ⟨w.heap.size, 1, none⟩ = _ ∧ W.cell? ⟨w.heap.size, 2, none⟩ = _ ∧ W.cell? ⟨w.heap.size, 3, none⟩ = _ ∧ W.cell? ⟨w.heap.size, 4, none⟩ = _ ∧ W.cell? ⟨w.heap.size, 5, none⟩ = _ ∧ W.cell? ⟨w.heap.size, 6, none⟩ = _ ∧ W.cell? ⟨w.heap.size, 7, none⟩ = _ from ⟨hcl 0 _ q0, hcl 1 _ q1, hcl 2 _ q2, hcl 3 _ q3, hcl 4 _ q4, hcl 5 _ q5, hcl 6 _ q6, hcl 7 _ q7⟩)
    have HR0 := Lib.hid hR0
    have HM1 := Lib.hid hM0
    have hWl : w.heap.size + 1 + 1 < W.heap.size := by omega
    clear hcl hC0 hR0 hM0
    clear hW hWs q0 q1 q2 q3 q4 q5 q6 q7
    go_loopw [16] (fun i wr => ∃ k : Nat, k ≤ 8 ∧ i = .int .i64 k ∧ Hid (Blk wr (w.heap.size + 1 + 1) 43 (reachV cf.clear cf.auth (8 * k))) ∧ Below (w.heap.size + 1 + 1) W wr) (fun i _ => 8 - (intOf i).toNat)
    case atStart => exact ⟨0, Nat.zero_le _, rfl, HM1, Below.refl _ _⟩
    case round =>
      obtain ⟨k, hk, rfl, HK, hbel⟩ := hrel
      by_cases hlt : k < 8
      · have hK : ∀ j v, W.cell? ⟨w.heap.size, j, none⟩ = some v → wr.cell? ⟨w.heap.size, j, none⟩ = some v := fun j v hv => (hbel.cell (p := ⟨w.heap.size, j, none⟩) (show w.heap.size < w.heap.size + 1 + 1 by omega)).trans hv
        have q0 := hK 0 _ HQ.out.1
        have q1 := hK 1 _ HQ.out.2.1
        have q2 := hK 2 _ HQ.out.2.2.1
        have q3 := hK 3 _ HQ.out.2.2.2.1
        have q4 := hK 4 _ HQ.out.2.2.2.2.1
        have q5 := hK 5 _ HQ.out.2.2.2.2.2.1
        have q6 := hK 6 _ HQ.out.2.2.2.2.2.2.1
        have q7 := hK 7 _ HQ.out.2.2.2.2.2.2.2
        clear hK
        have hx := HX.out k hlt
        have hdk : decide ((k : Int) < 8) = true := by simp; omega
        go_wp2_with fail
        clear q0 q1 q2 q3 q4 q5 q6 q7 hx
        obtain ⟨wo, hwo⟩ : ∃ wo : World, wo = wr := ⟨_, rfl⟩
        rw [← hwo] at hbel HK ⊢
        clear hwo
        go_loopw [22] (fun i wr => ∃ j : Nat, j ≤ 8 ∧ i = .int .i64 j ∧ Hid (Blk wr (w.heap.size + 1 + 1) 43 (reachV cf.clear cf.auth (8 * k + j))) ∧ Below (w.heap.size + 1 + 1) W wr) (fun i _ => 8 - (intOf i).toNat)
        case atStart => exact ⟨0, Nat.zero_le _, rfl, HK, hbel⟩
        case round =>
          clear HK hbel
          obtain ⟨j, hj, rfl, HJ, hbel⟩ := hrel
          by_cases hlt' : j < 8
          · have hx := HX.out j hlt'
            go_wp2_with fail
            clear hx
            have hk0 : (0 : Int) ≤ (k : Int) := by omega
            have hk8 : (k : Int) < 8 := by omega
            have hj0 : (0 : Int) ≤ (j : Int) := by omega
            have hj8 : (j : Int) < 8 := by omega
            have hcell : wr.cell? ⟨w.heap.size + 1 + 1, k * 8 + j, none⟩ = some (.bool false) := by
              have := HJ.out.cell (i := k * 8 + j) (reachV_at cf.clear cf.auth (8 * k + j) (k * 8 + j) (by omega))
              rw [this, show decide (k * 8 + j < 8 * k + j) = false by simp; omega]; rfl
            have hfz := HJ.out.frozen (k * 8 + j)
            go_still_tail 8, (by kernel_rfl)
            still_call (HM0.out k j hlt hlt' _)
            repeat still_step
            refine wpStill_nil ?_
            change wpList _ _ _ _ _ wr.drew
            go_wp2_with fail
            go_roundw
            case rel =>
              refine ⟨j + 1, by omega, by go_num, Lib.hid ?_, ?_⟩
              · have h := (HJ.out.drewN 1).set_ (k * 8 + j) (.bool (Lab.flows (cf.clear k) (Lab.join (cf.clear j) cf.auth)))
                have hr : reachAt cf.clear cf.auth (8 * k + j) = Lab.flows (cf.clear k) (Lab.join (cf.clear j) cf.auth) := by
                  unfold reachAt
                  rw [show (8 * k + j) / 8 = k by omega, show (8 * k + j) % 8 = j by omega]
                rw [← hr, show k * 8 + j = 8 * k + j by omega, reachV_set _ _ _ (by omega)] at h
                rw [← hr, show k * 8 + j = 8 * k + j by omega]
                exact h
              · exact (Below.drew hbel).setCell (Nat.le_refl _) _
            case measure => simp [intOf]; omega
          · obtain rfl : j = 8 := by omega
            have HJ2 : Hid (Blk wr (w.heap.size + 1 + 1) 43 (reachV cf.clear cf.auth (8 * (k + 1)))) := HJ
            clear HJ
            go_wp2_with fail
            go_roundw
            case rel => exact ⟨k + 1, by omega, by go_num, HJ2, hbel⟩
            case measure => simp [intOf]; omega
      · obtain rfl : k = 8 := by omega
        have hR : Blk wr (w.heap.size + 1) 43 (reachV cf.clear cf.auth 0) := HR0.out.keep hbel (by omega)
        have HK2 := Lib.hid (show wr.heap[w.heap.size + 1 + 1]? = some (.cells (reachV cf.clear cf.auth 64).toArray 43 (0, 0)) from HK.out)
        have HR2 := Lib.hid (show wr.heap[w.heap.size + 1]? = some (.cells (reachV cf.clear cf.auth 0).toArray 43 (0, 0)) from hR)
        have HI : Hid ((Tryd.prog.info? 43).map (·.size) = some (reachV cf.clear cf.auth 64).toArray.size) := Lib.hid (by rw [List.size_toArray, reachV_len]; exact reach_info)
        clear HK hR
        go_wp2_with (first
          | (with_reducible refine wpList_load_row rfl 43 (.tmp 6) rfl (w.heap.size + 1 + 1) rfl 43 (reachV cf.clear cf.auth 64).toArray (0, 0) _ HK2.out Tryd.underlying43 rfl HI.out ?_)
          | (with_reducible refine wpList_store_row rfl 43 (.tmp 4) (.tmp 36) rfl (w.heap.size + 1) (reachV cf.clear cf.auth 64).toArray rfl rfl 43 (reachV cf.clear cf.auth 0).toArray HR2.out HI.out (by rw [List.size_toArray, List.size_toArray, reachV_len, reachV_len]) (reachV_one _ _ _) ?_))
        refine bodyPost_ret (results_cell_row (by rfl) _ _ (w.heap.size + 1) 43 (reachV cf.clear cf.auth 64).toArray (0, 0) _ (by rfl) (heap_setRow_same HR2.out) Tryd.underlying43 rfl HI.out) rfl ⟨rfl, ?_⟩
        exact Below.setRow' (hWb.trans (hbel.mono (by omega))) (by omega) _
end Go.Proofs.YtfiobbhicicchaaDoor
