/-
  The walk of scrimlaw33.AuditReach.
-/
import Derived.Test.YtfiobbhicicchaaDoorAudWake
import Derived.Test.YtfiobbhicicchaaDoorRegInv
namespace Go.Proofs.YtfiobbhicicchaaDoor
open Go.RowKit Ar
set_option maxHeartbeats 20000000
set_option maxRecDepth 100000
set_option linter.unusedVariables false

def zeroR : List Value := List.replicate 64 (.bool false)
/-- What holds while the first statement's operations come up. -/
structure RI (w W : World) (C R0 R1 : Array Value) (b0 b1 b2 b3 b4 b5 b6 b7 : Bool) (x7 x8 x9 x10 x3 x4 : Value) (wx : World) : Prop where
  below : Below W.heap.size W wx
  v7 : b0 = true → x7 = .agg C
  v8 : b1 = true → x8 = .agg R0
  v9 : b2 = true → x9 = .agg C
  v10 : b3 = true → x10 = .agg R1
  v3 : b4 = true → ∃ g, x3 = .pointer (some ⟨g, 0, none⟩) ∧ W.heap.size ≤ g ∧ Blk wx g 43 (if b6 then R0.toList else zeroR)
  v4 : b5 = true → ∃ g, x4 = .pointer (some ⟨g, 0, none⟩) ∧ W.heap.size ≤ g ∧ Blk wx g 43 (if b7 then R1.toList else zeroR)
  o6 : b6 = true → b4 = true
  o7 : b7 = true → b5 = true
  ne : b4 = true → b5 = true → x3 ≠ x4
theorem heap_setRow_far {w : World} {g g' : Nat} {cs : Array Value} (h : g ≠ g') : (w.setRow g cs).heap[g']? = w.heap[g']? := by
  simp only [World.setRow, Array.getElem?_modify]
  rw [if_neg (by omega)]
theorem mem_ready {md : Region.Mode} {ops : Array Oper} {l : Array Bool} {i : Nat} (h : i < ops.size) (h1 : l.getD i true = false) (h2 : ((ops[i]?).map (·.after.all fun e => !Region.binds md e || l.getD e.on false)).getD false = true) : i ∈ Region.ready md ops l := by
  simp only [Region.ready, List.mem_filter, List.mem_range, Bool.and_eq_true, Bool.not_eq_true']
  exact ⟨h, h1, h2⟩
theorem ready_nil {md : Region.Mode} {ops : Array Oper} {l : Array Bool} (hr : Region.ready md ops l = []) (i : Nat) (h : i < ops.size) (h2 : ((ops[i]?).map (·.after.all fun e => !Region.binds md e || l.getD e.on false)).getD false = true) : l.getD i true = true := by
  cases e : l.getD i true
  · have := mem_ready h e h2
    rw [hr] at this; cases this
  · rfl
def frameR (w : World) (C : Array Value) (x7 x8 x9 x10 x3 x4 : Value) : Act := { tmps := #[.agg C, .pointer (some ⟨w.heap.size, 0, none⟩), .bool false, x3, x4, undef, undef, x7, x8, x9, x10, undef, undef, undef, undef, undef, undef, undef, undef, undef, undef, undef, undef, undef, undef, undef, undef, undef, undef, undef, undef, undef, undef, undef, undef, undef, undef, undef, undef, undef, undef, undef, undef, undef, undef, undef, undef, undef, undef, undef, undef, undef, undef, undef, undef, undef, undef, undef, undef, undef, undef, undef, undef, undef, undef, undef, undef, undef, undef, undef], defers := [] }
def RInv (w W : World) (C R0 R1 : Array Value) (l : Array Bool) (a : Act) (wx : World) : Prop :=
  ∃ b0 b1 b2 b3 b4 b5 b6 b7 x7 x8 x9 x10 x3 x4, l = #[b0, b1, b2, b3, b4, b5, b6, b7] ∧ a = frameR w C x7 x8 x9 x10 x3 x4 ∧ RI w W C R0 R1 b0 b1 b2 b3 b4 b5 b6 b7 x7 x8 x9 x10 x3 x4 wx

theorem auditReach_walk (cf : Cfg) (C : Array Value) (w : World) (hC : IsCfg w w.heap.size cf C) (hT : Tab64 w) (hB : 0 < w.heap.size) :
    Calls Tryd.prog 4 #[.agg C] w fun e w' => e = .returned (.bool true) ∧ Below w.heap.size w w' := by
  have HC := Lib.hid hC
  have HAW := Lib.hid (fun (wx : World) (hx : Below w.heap.size w wx) => awake33_any wx (hT.below hB hx) (Nat.lt_of_lt_of_le hB hx.size))
  have HI : Hid ((Tryd.prog.info? 29).map (·.size) = some C.size) := Lib.hid (by rw [hC.size]; exact cfg_info)
  obtain ⟨W, hW⟩ : ∃ W, W = w.alloc (.cells C 29) := ⟨_, rfl⟩
  have hWs : W.heap.size = w.heap.size + 1 := by rw [hW]; simp
  have hWb : Below w.heap.size w W := by rw [hW]; exact (Below.refl _ _).alloc (Nat.le_refl _) _
  have hWc : W.heap[w.heap.size]? = some (.cells C 29 (0, 0)) := by rw [hW]; exact heap_alloc_new _ _
  have HW := Lib.hid hW
  have HWc := Lib.hid hWc
  have HWs := Lib.hid hWs
  have hWl : w.heap.size < W.heap.size := by omega
  have HRF := Lib.hid (fun (wx : World) (hx : Below W.heap.size W wx) => reach_any cf C false wx w.heap.size (hC.below (hWb.trans (hx.mono (by omega)))) (by have := hx.size; omega))
  have HRT := Lib.hid (fun (wx : World) (hx : Below W.heap.size W wx) => reach_any cf C true wx w.heap.size (hC.below (hWb.trans (hx.mono (by omega)))) (by have := hx.size; omega))
  have HR0 : Hid (∃ R0 R1, R0 = (reachV cf.clear (if false then cf.auth else 0) 64).toArray ∧ R1 = (reachV cf.clear (if true then cf.auth else 0) 64).toArray) := Lib.hid ⟨_, _, rfl, rfl⟩
  obtain ⟨R0, R1, e0, e1⟩ := HR0.out
  rw [← e0] at HRF
  rw [← e1] at HRT
  have HE0 := Lib.hid e0
  have HE1 := Lib.hid e1
  have HI0 : Hid ((Tryd.prog.info? 43).map (·.size) = some R0.size ∧ R0.size = 64 ∧ R0.all (·.oneCell') = true) := Lib.hid (by rw [e0]; exact ⟨by rw [List.size_toArray, reachV_len]; exact reach_info, by rw [List.size_toArray, reachV_len], reachV_one _ _ _⟩)
  have HI1 : Hid ((Tryd.prog.info? 43).map (·.size) = some R1.size ∧ R1.size = 64 ∧ R1.all (·.oneCell') = true) := Lib.hid (by rw [e1]; exact ⟨by rw [List.size_toArray, reachV_len]; exact reach_info, by rw [List.size_toArray, reachV_len], reachV_one _ _ _⟩)
  clear hC hW hWs hWc hT e0 e1 HR0
  go_enter Tryd.func4, Tryd.ntmps4
  go_wp2_with fail
  rw [← HW.out]
  refine wp_region_any (by kernel_rfl) ?_
  refine wpAny_inv (RInv w W C R0 R1) ?_ ?_ 8 _ _ _ (by decide) ⟨false, false, false, false, false, false, false, false, undef, undef, undef, undef, undef, undef, rfl, rfl, ⟨below_drewN (Below.refl _ _) 1, nofun, nofun, nofun, nofun, nofun, nofun, nofun, nofun, nofun⟩⟩
  · rintro _ _ wx ⟨b0, b1, b2, b3, b4, b5, b6, b7, x7, x8, x9, x10, x3, x4, rfl, rfl, hJ⟩ i hi
    obtain ⟨h8, hl, ha⟩ := ready_mem hi
    have h8' : i < 8 := h8
    clear h8 hi
    have hsz := hJ.below.size
    rcases (show i = 0 ∨ i = 1 ∨ i = 2 ∨ i = 3 ∨ i = 4 ∨ i = 5 ∨ i = 6 ∨ i = 7 by omega) with rfl | rfl | rfl | rfl | rfl | rfl | rfl | rfl
    · refine wpOp_at rfl rfl ?_
      refine wp_load_row 29 (.tmp 1) rfl w.heap.size rfl 29 C (0, 0) _ ((hJ.below.block w.heap.size hWl).trans HWc.out) Tryd.underlying29 rfl HI.out ?_
      exact ⟨true, b1, b2, b3, b4, b5, b6, b7, .agg C, x8, x9, x10, x3, x4, rfl, rfl, { hJ with v7 := fun _ => rfl }⟩
    · have h0 : b0 = true := by simpa [Region.binds] using ha
      subst h0
      obtain rfl := hJ.v7 rfl
      refine wpOp_at rfl rfl ?_
      unfold frameR Oper.wp
      go_simp
      refine ((HRF.out _ hJ.below).mono ?_)
      rintro e w2 ⟨rfl, hb2⟩
      have hb3 := hJ.below.trans (hb2.mono hsz)
      exact ⟨true, true, b2, b3, b4, b5, b6, b7, .agg C, .agg R0, x9, x10, x3, x4, rfl, rfl, { hJ with
        below := hb3
        v8 := fun _ => rfl
        v3 := fun h => by obtain ⟨g, q1, q2, q3⟩ := hJ.v3 h; exact ⟨g, q1, q2, q3.keep hb2 q3.lt⟩
        v4 := fun h => by obtain ⟨g, q1, q2, q3⟩ := hJ.v4 h; exact ⟨g, q1, q2, q3.keep hb2 q3.lt⟩ }⟩
    · refine wpOp_at rfl rfl ?_
      refine wp_load_row 29 (.tmp 1) rfl w.heap.size rfl 29 C (0, 0) _ ((hJ.below.block w.heap.size hWl).trans HWc.out) Tryd.underlying29 rfl HI.out ?_
      exact ⟨b0, b1, true, b3, b4, b5, b6, b7, x7, x8, .agg C, x10, x3, x4, rfl, rfl, { hJ with v9 := fun _ => rfl }⟩
    · have h0 : b2 = true ∧ b1 = true := by simpa [Region.binds] using ha
      obtain ⟨rfl, rfl⟩ := h0
      obtain rfl := hJ.v9 rfl
      refine wpOp_at rfl rfl ?_
      unfold frameR Oper.wp
      go_simp
      refine ((HRT.out _ hJ.below).mono ?_)
      rintro e w2 ⟨rfl, hb2⟩
      have hb3 := hJ.below.trans (hb2.mono hsz)
      exact ⟨b0, true, true, true, b4, b5, b6, b7, x7, x8, .agg C, .agg R1, x3, x4, rfl, rfl, { hJ with
        below := hb3
        v10 := fun _ => rfl
        v3 := fun h => by obtain ⟨g, q1, q2, q3⟩ := hJ.v3 h; exact ⟨g, q1, q2, q3.keep hb2 q3.lt⟩
        v4 := fun h => by obtain ⟨g, q1, q2, q3⟩ := hJ.v4 h; exact ⟨g, q1, q2, q3.keep hb2 q3.lt⟩ }⟩
    · have hb4 : b4 = false := hl
      subst hb4
      have hb6 : b6 = false := by
        cases b6
        · rfl
        · exact absurd (hJ.o6 rfl) (by decide)
      subst hb6
      refine wpOp_at rfl rfl ?_
      unfold frameR Oper.wp
      go_simp
      exact ⟨b0, b1, b2, b3, true, b5, false, b7, x7, x8, x9, x10, _, x4, rfl, rfl, { hJ with
        below := hJ.below.alloc hsz _
        v3 := fun _ => ⟨wx.heap.size, rfl, hsz, Blk.new wx 43 zeroR⟩
        v4 := fun h => by obtain ⟨g, q1, q2, q3⟩ := hJ.v4 h; exact ⟨g, q1, q2, q3.alloc _⟩
        o6 := nofun
        ne := fun _ h => by
          obtain ⟨g, q1, q2, q3⟩ := hJ.v4 h
          have := q3.lt
          rw [q1]; intro e; injection e with e; injection e with e; injection e with e; omega }⟩
    · have hb5 : b5 = false := hl
      subst hb5
      have hb7 : b7 = false := by
        cases b7
        · rfl
        · exact absurd (hJ.o7 rfl) (by decide)
      subst hb7
      refine wpOp_at rfl rfl ?_
      unfold frameR Oper.wp
      go_simp
      exact ⟨b0, b1, b2, b3, b4, true, b6, false, x7, x8, x9, x10, x3, _, rfl, rfl, { hJ with
        below := hJ.below.alloc hsz _
        v4 := fun _ => ⟨wx.heap.size, rfl, hsz, Blk.new wx 43 zeroR⟩
        v3 := fun h => by obtain ⟨g, q1, q2, q3⟩ := hJ.v3 h; exact ⟨g, q1, q2, q3.alloc _⟩
        o7 := nofun
        ne := fun h _ => by
          obtain ⟨g, q1, q2, q3⟩ := hJ.v3 h
          have := q3.lt
          rw [q1]; intro e; injection e with e; injection e with e; injection e with e; omega }⟩
    · have h0 : b4 = true ∧ b1 = true ∧ b3 = true ∧ b0 = true ∧ b1 = true ∧ b4 = true ∧ b5 = true := by simpa [Region.binds] using ha
      obtain ⟨rfl, rfl, rfl, rfl, -, -, rfl⟩ := h0
      have hb6 : b6 = false := hl
      subst hb6
      obtain ⟨g, rfl, q2, q3⟩ := hJ.v3 rfl
      obtain ⟨g', rfl, q2', q3'⟩ := hJ.v4 rfl
      have hne : g ≠ g' := fun e => hJ.ne rfl rfl (by rw [e])
      obtain rfl := hJ.v8 rfl
      refine wpOp_at rfl rfl ?_
      refine wp_store_row 43 (.tmp 3) (.tmp 8) rfl g R0 rfl rfl 43 zeroR.toArray q3 HI0.out.1 (by rw [HI0.out.2.1]; rfl) HI0.out.2.2 ?_
      exact ⟨true, true, b2, true, true, true, true, b7, x7, _, x9, x10, _, _, rfl, rfl, { hJ with
        below := Below.setRow' hJ.below q2 _
        v3 := fun _ => ⟨g, rfl, q2, heap_setRow_same q3⟩
        v4 := fun _ => ⟨g', rfl, q2', (heap_setRow_far (by omega)).trans q3'⟩
        o6 := fun _ => rfl }⟩
    · have h0 : b5 = true ∧ b3 = true ∧ b6 = true ∧ b0 = true ∧ b1 = true ∧ b2 = true ∧ b3 = true ∧ b4 = true ∧ b5 = true ∧ b6 = true := by simpa [Region.binds] using ha
      obtain ⟨rfl, rfl, rfl, rfl, rfl, rfl, -, rfl, -, -⟩ := h0
      have hb7 : b7 = false := hl
      subst hb7
      obtain ⟨g, rfl, q2, q3⟩ := hJ.v3 rfl
      obtain ⟨g', rfl, q2', q3'⟩ := hJ.v4 rfl
      have hne : g ≠ g' := fun e => hJ.ne rfl rfl (by rw [e])
      obtain rfl := hJ.v10 rfl
      refine wpOp_at rfl rfl ?_
      refine wp_store_row 43 (.tmp 4) (.tmp 10) rfl g' R1 rfl rfl 43 zeroR.toArray q3' HI1.out.1 (by rw [HI1.out.2.1]; rfl) HI1.out.2.2 ?_
      exact ⟨true, true, true, true, true, true, true, true, x7, x8, x9, _, _, _, rfl, rfl, { hJ with
        below := Below.setRow' hJ.below q2' _
        v4 := fun _ => ⟨g', rfl, q2', heap_setRow_same q3'⟩
        v3 := fun _ => ⟨g, rfl, q2, (heap_setRow_far (by omega)).trans q3⟩
        o7 := fun _ => rfl }⟩
  · rintro _ _ wx ⟨b0, b1, b2, b3, b4, b5, b6, b7, x7, x8, x9, x10, x3, x4, rfl, rfl, hJ⟩ hr
    have e0 : b0 = true := ready_nil hr 0 (by decide) (by simp [Region.binds])
    subst e0
    have e1 : b1 = true := ready_nil hr 1 (by decide) (by simp [Region.binds])
    subst e1
    have e2 : b2 = true := ready_nil hr 2 (by decide) (by simp [Region.binds])
    subst e2
    have e3 : b3 = true := ready_nil hr 3 (by decide) (by simp [Region.binds])
    subst e3
    have e4 : b4 = true := ready_nil hr 4 (by decide) (by simp [Region.binds])
    subst e4
    have e5 : b5 = true := ready_nil hr 5 (by decide) (by simp [Region.binds])
    subst e5
    have e6 : b6 = true := ready_nil hr 6 (by decide) (by simp [Region.binds])
    subst e6
    have e7 : b7 = true := ready_nil hr 7 (by decide) (by simp [Region.binds])
    subst e7
    clear hr
    obtain ⟨g, rfl, q2, q3⟩ := hJ.v3 rfl
    obtain ⟨g', rfl, q2', q3'⟩ := hJ.v4 rfl
    have hxb := hJ.below
    have HA := Lib.hid q3
    have HB := Lib.hid q3'
    clear hJ q3 q3' HRF HRT HI0 HI1
    unfold frameR
    go_wp2_with fail
    go_loopw [5, 6] (fun i j wr => ∃ k : Nat, k ≤ 8 ∧ i = .int .i64 k ∧ Hid (Blk wr g 43 R0.toList) ∧ Hid (Blk wr g' 43 R1.toList) ∧ Below W.heap.size W wr) (fun i _ _ => 8 - (intOf i).toNat)
    case atStart => exact ⟨0, Nat.zero_le _, rfl, HA, HB, hxb⟩
    case round =>
      clear HA HB hxb
      obtain ⟨k, hk, rfl, HA, HB, hbel⟩ := hrel
      by_cases hlt : k < 8
      · have hdk : decide ((k : Int) < 8) = true := by simp; omega
        go_wp2_with fail
        obtain ⟨wo, hwo⟩ : ∃ wo : World, wo = wr := ⟨_, rfl⟩
        rw [← hwo] at hbel HA HB ⊢
        clear hwo
        go_loopw [6] (fun j wr => ∃ j' : Nat, j' ≤ 8 ∧ j = .int .i64 j' ∧ Hid (Blk wr g 43 R0.toList) ∧ Hid (Blk wr g' 43 R1.toList) ∧ Below W.heap.size W wr) (fun j _ => 8 - (intOf j).toNat)
        case atStart => exact ⟨0, Nat.zero_le _, rfl, HA, HB, hbel⟩
        case round =>
          clear HA HB hbel
          obtain ⟨j, hj, rfl, HA, HB, hbel⟩ := hrel
          by_cases hlt' : j < 8
          · have hc0 : wr.cell? ⟨w.heap.size, k, none⟩ = some (.int .u64 (cf.clear k : Int)) := by
              rw [cell_of_row wr _ k _ _ _ ((hbel.block w.heap.size hWl).trans HWc.out)]; exact (HC.out.clear k hlt).1
            have hc1 : wr.cell? ⟨w.heap.size, j, none⟩ = some (.int .u64 (cf.clear j : Int)) := by
              rw [cell_of_row wr _ j _ _ _ ((hbel.block w.heap.size hWl).trans HWc.out)]; exact (HC.out.clear j hlt').1
            have hc2 : wr.cell? ⟨w.heap.size, 32, none⟩ = some (.int .u64 (cf.auth : Int)) := by
              rw [cell_of_row wr _ 32 _ _ _ ((hbel.block w.heap.size hWl).trans HWc.out)]; exact HC.out.auth
            have hlk := (HC.out.clear k hlt).2
            have hlj := (HC.out.clear j hlt').2
            have hla := HC.out.authLt
            have hca : wr.cell? ⟨g, k * 8 + j, none⟩ = some (.bool (Lab.flows (cf.clear k) (cf.clear j))) := by
              refine HA.out.cell ?_
              rw [HE0.out, List.toList_toArray, reachV_at _ _ _ _ (by omega), decide_eq_true (by omega), reachAt, show (k * 8 + j) / 8 = k by omega, show (k * 8 + j) % 8 = j by omega]
              simp [Lab.join_zero]
            have hcb : wr.cell? ⟨g', k * 8 + j, none⟩ = some (.bool (Lab.flows (cf.clear k) (Lab.join (cf.clear j) cf.auth))) := by
              refine HB.out.cell ?_
              rw [HE1.out, List.toList_toArray, reachV_at _ _ _ _ (by omega), decide_eq_true (by omega), reachAt, show (k * 8 + j) / 8 = k by omega, show (k * 8 + j) % 8 = j by omega]
              simp
            have FL := Lib.hid (fun (nx : Nat) => Calls.quiet_of_same (w := wr) (n := nx) ((refFlows_any (cf.clear k) (cf.clear j) _ hlk hlj).mono fun _ _ h => (⟨h.1, h.2.symm⟩ : _ ∧ _)))
            have FJ := Lib.hid (fun (nx : Nat) => Calls.quiet_of_same (w := wr) (n := nx) ((refJoin_any (cf.clear j) cf.auth _ hlj hla).mono fun _ _ h => (⟨h.1, h.2.symm⟩ : _ ∧ _)))
            have FM := Lib.hid (fun (nx : Nat) => Calls.quiet_of_same (w := wr) (n := nx) ((refFlows_any (cf.clear k) (Lab.join (cf.clear j) cf.auth) _ hlk (Lab.join_lt hlj hla)).mono fun _ _ h => (⟨h.1, h.2.symm⟩ : _ ∧ _)))
            have hfm : Lab.flows (cf.clear k) (cf.clear j) = true → Lab.flows (cf.clear k) (Lab.join (cf.clear j) cf.auth) = true := fun h => Lab.flows_trans h (Lab.flows_join _ _)
            generalize Lab.flows (cf.clear k) (cf.clear j) = fa at hca FL hfm
            generalize Lab.flows (cf.clear k) (Lab.join (cf.clear j) cf.auth) = fb at hcb FM hfm
            generalize Lab.join (cf.clear j) cf.auth = jn at FJ FM
            generalize cf.clear k = ck at *
            generalize cf.clear j = cj at *
            generalize cf.auth = au at *
            have hk0 : (0 : Int) ≤ (k : Int) := by omega
            have hk8 : (k : Int) < 8 := by omega
            have hj0 : (0 : Int) ≤ (j : Int) := by omega
            have hj8 : (j : Int) < 8 := by omega
            cases fa
            · cases fb
              all_goals
                clear hfm
                go_wp2_with fail
                go_quiet (first | (go_at_call 13; first | (with_reducible exact FL.out _) | (with_reducible exact FM.out _)) | (go_at_call 14; (with_reducible exact FJ.out _)))
                go_wp2_with fail
                go_roundw
                case rel => exact ⟨j + 1, by omega, by go_num, Lib.hid (HA.out.drewN _), Lib.hid (HB.out.drewN _), below_drewN hbel _⟩
                case measure => simp [intOf]; omega
            · obtain rfl := hfm rfl
              clear hfm
              go_wp2_with fail
              go_quiet (first | (go_at_call 13; first | (with_reducible exact FL.out _) | (with_reducible exact FM.out _)) | (go_at_call 14; (with_reducible exact FJ.out _)))
              go_wp2_with fail
              go_roundw
              case rel => exact ⟨j + 1, by omega, by go_num, Lib.hid (HA.out.drewN _), Lib.hid (HB.out.drewN _), below_drewN hbel _⟩
              case measure => simp [intOf]; omega
          · obtain rfl : j = 8 := by omega
            go_wp2_with fail
            go_roundw
            case rel => exact ⟨k + 1, by omega, by go_num, HA, HB, hbel⟩
            case measure => simp [intOf]; omega
      · obtain rfl : k = 8 := by omega
        go_wp2_with fail
        refine (HAW.out _ (hWb.trans (hbel.mono (by omega)))).mono ?_
        rintro e w2 ⟨rfl, hb2⟩
        go_wp2_with fail
        go_ret
        exact ⟨rfl, (hWb.trans (hbel.mono (by omega))).trans (hb2.mono (by have := hbel.size; omega))⟩
end Go.Proofs.YtfiobbhicicchaaDoor
