/-
  The walk of scrimlaw33.AuditAllows.
-/
import Derived.Test.YtfiobbhicicchaaDoorAudWake
namespace Go.Proofs.YtfiobbhicicchaaDoor
open Go.RowKit Ar
set_option maxHeartbeats 2000000
set_option maxRecDepth 100000
set_option linter.unusedVariables false

theorem auditAllows_walk (cf : Cfg) (C : Array Value) (A : Option Addr) (cp : Nat) (rs : List Rec) (us : List Value) (w : World) (hC : IsCfg w w.heap.size cf C) (hf : Fits rs.length cp 96) (hl : Lies w w.heap.size A us) (hrs : IsRecs w w.heap.size rs us) (hT : Tab64 w) (hB : 0 < w.heap.size) :
    Calls Tryd.prog 3 #[.agg C, .slice A rs.length cp] w fun e w' => e = .returned (.bool true) ∧ Below w.heap.size w w' := by
  have hn : rs.length ≤ 9223372036854775807 := by have h1 := hf.1; have h2 := hf.2; omega
  have hn1 : rs.length ≤ cp := hf.1
  have hn2 : cp ≤ 9223372036854775807 := by have h2 := hf.2; omega
  have HL := Lib.hid hl
  have HR := Lib.hid hrs
  have HC := Lib.hid hC
  obtain ⟨W, hW⟩ : ∃ W, W = w.alloc (.cells C 29) := ⟨_, rfl⟩
  have hWs : W.heap.size = w.heap.size + 1 := by rw [hW]; simp
  have hWb : Below w.heap.size w W := by rw [hW]; exact (Below.refl _ _).alloc (Nat.le_refl _) _
  have hWc : W.heap[w.heap.size]? = some (.cells C 29 (0, 0)) := by rw [hW]; exact heap_alloc_new _ _
  have HW := Lib.hid hW
  have HWc := Lib.hid hWc
  have hWl : w.heap.size < W.heap.size := by omega
  have HI : Hid ((Tryd.prog.info? 29).map (·.size) = some C.size) := Lib.hid (by rw [hC.size]; exact cfg_info)
  have HFW := Lib.hid (fun (wx : World) (hx : Below w.heap.size w wx) => fewRecs_any A cp rs us wx w.heap.size (hl.below hx) (hrs.below hx) hx.size hn)
  have HAW := Lib.hid (fun (wx : World) (hx : Below w.heap.size w wx) => awake33_any wx (hT.below hB hx) (Nat.lt_of_lt_of_le hB hx.size))
  clear hl hrs hC hW hWs hWc hT hf
  go_enter Tryd.func3, Tryd.ntmps3
  go_wp2_with fail
  rw [← HW.out]
  refine (HFW.out _ hWb).mono ?_
  rintro e w1 ⟨rb, rfl, hb1⟩
  have hbw1 := hWb.trans (hb1.mono (by omega))
  cases rb
  · go_wp2_with fail
    refine (HAW.out _ hbw1).mono ?_
    rintro e w2 ⟨rfl, hb2⟩
    go_wp2_with fail
    go_ret
    exact ⟨rfl, hbw1.trans (hb2.mono hbw1.size)⟩
  · go_wp2_with fail
    go_loopw [5] (fun i wr => ∃ k : Nat, k ≤ rs.length ∧ i = .int .i64 k ∧ Below W.heap.size W wr) (fun i _ => rs.length - (intOf i).toNat)
    case atStart => exact ⟨0, Nat.zero_le _, rfl, hb1⟩
    case round =>
      clear hb1 hbw1
      obtain ⟨k, hk, rfl, hbel⟩ := hrel
      have hsz := hbel.size
      have hb0 := hWb.trans (hbel.mono (by omega))
      by_cases hlt : k < rs.length
      · obtain ⟨b, off, r, S', X, xn, xc, X', xn', xc', rfl, hb, HE, hr1, hr2, HA, g0, g1, g2, g3, g4, g5, g6, g7⟩ := rec_at HR.out HL.out (wr := wr) (fun p hp => hb0.cell hp) hlt
        have hbw : b < wr.heap.size := by omega
        have HG : Hid (∀ w', (∃ x : Later wr, w' = x.w) → w'.heap[w.heap.size]? = some (.cells C 29 (0, 0))) := Lib.hid (fun w' ⟨x, hx⟩ => by rw [hx]; exact (x.b.block w.heap.size (by omega)).trans ((hbel.block w.heap.size hWl).trans HWc.out))
        have AL := Lib.hid (fun (x : Later wr) => allowed_any cf C r S' X xn xc X' xn' xc' x.w w.heap.size (HC.out.below (hb0.trans (x.b.mono (by omega)))) (HA.out.1.below (hb0.trans (x.b.mono (by omega)))) hr1 hr2 (by have := x.b.size; omega))
        have AR := Lib.hid (fun (x : Later wr) => refAllowed_any cf C r S' X xn xc X' xn' xc' x.w w.heap.size (HC.out.below (hb0.trans (x.b.mono (by omega)))) (HA.out.1.below (hb0.trans (x.b.mono (by omega)))) hr1 hr2 (by have := x.b.size; omega))
        generalize allowedB cf.auth r = ab at AL AR
        have HK : ∀ (x : Later wr) (o : Nat), x.w.cell? ⟨b, o, none⟩ = wr.cell? ⟨b, o, none⟩ := fun x o => x.b.cell (p := ⟨b, o, none⟩) hbw
        go_wp2_with fail
        refine wp_region_later wr (by kernel_rfl) (by kernel_rfl) (Below.drew_self wr) ?_
        refine wpQuiet_load_row rfl 29 (.tmp 2) rfl w.heap.size rfl 29 C (0, 0) _ HG.out Tryd.underlying29 rfl HI.out ?_
        intro a' ha'
        simp [Act.put] at ha'
        subst ha'
        iterate 5 (go_big_quiet_step ((go_at_call 8; exact Later.call (AL.out _))))
        refine wpQuiet_load_row rfl 29 (.tmp 2) rfl w.heap.size rfl 29 C (0, 0) _ HG.out Tryd.underlying29 rfl HI.out ?_
        intro a' ha'
        simp [Act.put] at ha'
        subst ha'
        repeat (go_big_quiet_step ((go_at_call 9; exact Later.call (AR.out _))))
        refine wpQuiet_nil ?_
        rintro _ ⟨⟨w4, hb4⟩, rfl⟩
        clear HK g0 g1 g2 g3 g4 g5 g6 g7
        have hb3 := hbel.trans (hb4.mono (by omega))
        cases ab
        all_goals
          go_wp2_with fail
          go_roundw
          case rel => exact ⟨k + 1, by omega, by go_num, hb3⟩
          case measure => simp [intOf]; omega
      · have AL := Lib.hid (fun (x : Later wr) => first_any cf C A cp rs us x.w w.heap.size (HC.out.below (hb0.trans (x.b.mono (by omega)))) (HL.out.below (hb0.trans (x.b.mono (by omega)))) (HR.out.below (hb0.trans (x.b.mono (by omega)))) (by have := x.b.size; omega) hn)
        have AR := Lib.hid (fun (x : Later wr) => refFirst_any cf C A cp rs us x.w w.heap.size (HC.out.below (hb0.trans (x.b.mono (by omega)))) (HL.out.below (hb0.trans (x.b.mono (by omega)))) (HR.out.below (hb0.trans (x.b.mono (by omega)))) (by have := x.b.size; omega) hn)
        have AW := Lib.hid (fun (x : Later wr) => HAW.out x.w (hb0.trans (x.b.mono (by omega))))
        generalize firstFrom cf.auth 0 rs = fv at AL AR
        have HG : Hid (∀ w', (∃ x : Later wr, w' = x.w) → w'.heap[w.heap.size]? = some (.cells C 29 (0, 0))) := Lib.hid (fun w' ⟨x, hx⟩ => by rw [hx]; exact (x.b.block w.heap.size (by omega)).trans ((hbel.block w.heap.size hWl).trans HWc.out))
        have hfv : (fv == fv) = true := by simp
        go_wp2_with fail
        refine wp_region_later wr (by kernel_rfl) (by kernel_rfl) (Below.drew_self wr) ?_
        refine wpQuiet_load_row rfl 29 (.tmp 2) rfl w.heap.size rfl 29 C (0, 0) _ HG.out Tryd.underlying29 rfl HI.out ?_
        intro a' ha'
        simp [Act.put] at ha'
        subst ha'
        iterate 2 (go_big_quiet_step ((go_at_call 10; exact Later.call (AL.out _))))
        refine wpQuiet_load_row rfl 29 (.tmp 2) rfl w.heap.size rfl 29 C (0, 0) _ HG.out Tryd.underlying29 rfl HI.out ?_
        intro a' ha'
        simp [Act.put] at ha'
        subst ha'
        repeat (go_big_quiet_step (first | (go_at_call 11; exact Later.call (AR.out _)) | (go_at_call 7; exact Later.call (AW.out _))))
        refine wpQuiet_nil ?_
        rintro _ ⟨⟨w4, hb4⟩, rfl⟩
        go_wp2_with fail
        go_ret
        exact ⟨rfl, hb0.trans (hb4.mono (by omega))⟩
end Go.Proofs.YtfiobbhicicchaaDoor
