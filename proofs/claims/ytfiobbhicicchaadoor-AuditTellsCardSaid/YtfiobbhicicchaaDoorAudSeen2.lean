/-
  The records that an observer sees, by the reference: scrimref25.Seen.
-/
import Derived.Test.YtfiobbhicicchaaDoorAudSeen
namespace Go.Proofs.YtfiobbhicicchaaDoor
open Go.RowKit Ar
set_option maxHeartbeats 2000000
set_option maxRecDepth 100000
set_option linter.unusedVariables false

theorem refSeen_any (cf : Cfg) (C : Array Value) (A : Option Addr) (cp : Nat) (rs : List Rec) (us : List Value) (o : Nat) (w : World) (B : Nat) (hC : IsCfg w B cf C) (hl : Lies w B A us) (hrs : IsRecs w B rs us) (hB : B ≤ w.heap.size) (hn : rs.length * 96 ≤ 140737488351232) (ho : o < 18446744073709551616) :
    Calls Tryd.prog 28 #[.agg C, .slice A rs.length cp, .int .u64 (o : Int)] w (RecsOut w (seen cf.clear o rs)) := by
  obtain ⟨i0, hi, hz0, hz1, hz2⟩ := info_parts rec_info
  have HL := Lib.hid hl
  have HR := Lib.hid hrs
  have HC := Lib.hid hC
  obtain ⟨W, hW⟩ : ∃ W, W = w.alloc (.cells C 29) := ⟨_, rfl⟩
  have hWs : W.heap.size = w.heap.size + 1 := by rw [hW]; simp
  have hWb : Below w.heap.size w W := by rw [hW]; exact (Below.refl _ _).alloc (Nat.le_refl _) _
  have hWc : ∀ k, k < 8 → W.cell? ⟨w.heap.size, k, none⟩ = some (.int .u64 (cf.clear k : Int)) := fun k hk => by
    rw [cell_of_row W w.heap.size k C 29 (0, 0) (by rw [hW]; exact heap_alloc_new _ _)]; exact (hC.clear k hk).1
  have HCL := Lib.hid (fun k (hk : k < 8) => (hC.clear k hk).2)
  have HW := Lib.hid hW
  have HWc := Lib.hid hWc
  have hWl : w.heap.size < W.heap.size := by omega
  clear hl hrs hC hW hWs hWc
  have FL := Lib.hid (fun (t : Nat) (ht : t < 18446744073709551616) (wx : World) => refFlows_any t o wx ht ho)
  go_enter Tryd.func28, Tryd.ntmps28
  go_wp2_with fail
  rw [← HW.out]
  go_loopw [7, 8] (fun v i wr => ∃ (k : Nat) (ys : List Rec) (vs : List Value), k ≤ rs.length ∧ i = .int .i64 k ∧ ys.length ≤ k ∧ Hid (ys = seen cf.clear o (rs.take k)) ∧ Hid (IsRecs w B ys vs) ∧ wr.ownsRow W.heap.size 39 8 v ys.length vs ∧ Below W.heap.size W wr) (fun _ i _ => rs.length - (intOf i).toNat)
  case atStart => exact ⟨0, [], [], Nat.zero_le _, rfl, Nat.le_refl _, Lib.hid (by simp [seen]), Lib.hid rfl, ⟨by simp, .inl ⟨rfl, rfl⟩⟩, Below.refl _ _⟩
  case round =>
    obtain ⟨k, ys, vs, hk, rfl, hyl, HY, HV, hown, hbel⟩ := hrel
    have hsz := hbel.size
    by_cases hlt : k < rs.length
    · obtain ⟨b, off, r, S', X, xn, xc, X', xn', xc', rfl, hb, HE, hr1, hr2, HA, g0, g1, g2, g3, g4, g5, g6, g7⟩ := rec_at HR.out HL.out (wr := wr) (fun p hp => (hbel.cell (by omega)).trans (hWb.cell (by omega))) hlt
      have hbw : b < wr.heap.size := by omega
      have HYS := Lib.hid (seen_take (cl := cf.clear) (o := o) hlt)
      rw [HE.out, ← HY.out] at HYS
      have hbt : toOf cf.clear r < 18446744073709551616 := by
        unfold toOf; split
        · exact HCL.out _ (by omega)
        · split
          · exact hr2
          · exact HCL.out 0 (by omega)
      have HRV : Hid (IsRec w B r (recV r S' X xn xc X' xn' xc')) := Lib.hid ⟨S', X, xn, xc, X', xn', xc', rfl, HA.out.1, hr1, hr2, HA.out.2⟩
      have hc0 : wr.cell? ⟨w.heap.size, 0, none⟩ = some (.int .u64 (cf.clear 0 : Int)) := (hbel.cell (p := ⟨w.heap.size, 0, none⟩) hWl).trans (HWc.out 0 (by omega))
      obtain ⟨kind, port, frm, to, cls, v⟩ := r
      dsimp only [recV] at *
      have hww : w.heap.size < wr.heap.size := by omega
      obtain ⟨T, hT⟩ : ∃ T, T = toOf cf.clear ⟨kind, port, frm, to, cls, v⟩ := ⟨_, rfl⟩
      rw [← hT] at hbt HYS
      by_cases h1 : kind = 1 ∧ 0 ≤ port ∧ port < 8
      · obtain ⟨rfl, hp0, hp8⟩ := h1
        obtain ⟨p, rfl⟩ : ∃ p : Nat, port = (p : Int) := ⟨port.toNat, by omega⟩
        have hcp : wr.cell? ⟨w.heap.size, p, none⟩ = some (.int .u64 (T : Int)) := by
          have := (hbel.cell (p := ⟨w.heap.size, p, none⟩) hWl).trans (HWc.out p (by omega))
          rw [this, hT]; simp [toOf, hp8]
        have hT' := Lib.hid hT
        clear hT
        go_wp2_with fail
        refine (FL.out T hbt _).mono ?_
        rintro e w' ⟨rfl, rfl⟩
        cases hf : Lab.flows T o
        · rw [hf] at HYS
          go_wp2_with fail
          go_roundw
          case rel => exact ⟨k + 1, ys, vs, by omega, by go_num, by omega, Lib.hid (by rw [HYS.out]; simp), HV, hown, hbel⟩
          case measure => simp [intOf]; omega
        · rw [hf] at HYS
          go_wp2_with (at_builtin; refine wpList_append_own _ rfl (.tmp 63) (.tmp 68) 30 rfl W.heap.size 39 i0 (.agg #[.int .i64 0, .int .i64 0, .int .u64 0, .int .u64 0, .int .i64 0, .int .u64 0, .slice none 0 0, .slice none 0 0]) 8 96 Tryd.underlying30 hi hz0 hz1 hz2 rfl (by decide) _ ys.length vs rfl (hown.alloc _) ⟨_, 0, none⟩ 1 1 [.int .i64 1, .int .i64 (p : Int), .int .u64 (frm : Int), .int .u64 (to : Int), .int .i64 cls, .int .u64 (S' : Int), .slice X xn xc, .slice X' xn' xc'] rfl rfl (cells_new _ _ _) (by intro u hu; simp only [List.mem_cons, List.not_mem_nil, or_false] at hu; rcases hu with rfl | rfl | rfl | rfl | rfl | rfl | rfl | rfl <;> rfl) (by unfold maxLen; omega) (by omega) (by simp; omega) ?_; intro v1 w1 hown1 hgrow1 hnn1)
          have hb1 := (hbel.alloc hsz (Obj.cells #[.int .i64 1, .int .i64 (p : Int), .int .u64 (frm : Int), .int .u64 (to : Int), .int .i64 cls, .int .u64 (S' : Int), .slice X xn xc, .slice X' xn' xc'] 39)).grown hgrow1 (by simp; omega) (fun g hg => (hown.lt g hg).1)
          go_roundw
          case rel => exact ⟨k + 1, ys ++ [⟨1, (p : Int), frm, to, cls, v⟩], vs ++ [.int .i64 1, .int .i64 (p : Int), .int .u64 (frm : Int), .int .u64 (to : Int), .int .i64 cls, .int .u64 (S' : Int), .slice X xn xc, .slice X' xn' xc'], by omega, by go_num, by simp; omega, Lib.hid (by rw [HYS.out]; simp), Lib.hid (HV.out.snoc HRV.out), by simpa using hown1, hb1⟩
          case measure => simp [intOf]; omega
      · by_cases h2 : kind = 2
        · subst h2
          obtain rfl : T = to := by rw [hT]; simp [toOf]
          clear h1
          have hT' := Lib.hid hT
          clear hT
          go_wp2_with fail
          refine (FL.out T hbt _).mono ?_
          rintro e w' ⟨rfl, rfl⟩
          cases hf : Lab.flows T o
          · rw [hf] at HYS
            go_wp2_with fail
            go_roundw
            case rel => exact ⟨k + 1, ys, vs, by omega, by go_num, by omega, Lib.hid (by rw [HYS.out]; simp), HV, hown, hbel⟩
            case measure => simp [intOf]; omega
          · rw [hf] at HYS
            go_wp2_with (at_builtin; refine wpList_append_own _ rfl (.tmp 63) (.tmp 68) 30 rfl W.heap.size 39 i0 (.agg #[.int .i64 0, .int .i64 0, .int .u64 0, .int .u64 0, .int .i64 0, .int .u64 0, .slice none 0 0, .slice none 0 0]) 8 96 Tryd.underlying30 hi hz0 hz1 hz2 rfl (by decide) _ ys.length vs rfl (hown.alloc _) ⟨_, 0, none⟩ 1 1 [.int .i64 2, .int .i64 port, .int .u64 (frm : Int), .int .u64 (T : Int), .int .i64 cls, .int .u64 (S' : Int), .slice X xn xc, .slice X' xn' xc'] rfl rfl (cells_new _ _ _) (by intro u hu; simp only [List.mem_cons, List.not_mem_nil, or_false] at hu; rcases hu with rfl | rfl | rfl | rfl | rfl | rfl | rfl | rfl <;> rfl) (by unfold maxLen; omega) (by omega) (by simp; omega) ?_; intro v1 w1 hown1 hgrow1 hnn1)
            have hb1 := (hbel.alloc hsz (Obj.cells #[.int .i64 2, .int .i64 port, .int .u64 (frm : Int), .int .u64 (T : Int), .int .i64 cls, .int .u64 (S' : Int), .slice X xn xc, .slice X' xn' xc'] 39)).grown hgrow1 (by simp; omega) (fun g hg => (hown.lt g hg).1)
            go_roundw
            case rel => exact ⟨k + 1, ys ++ [⟨2, port, frm, T, cls, v⟩], vs ++ [.int .i64 2, .int .i64 port, .int .u64 (frm : Int), .int .u64 (T : Int), .int .i64 cls, .int .u64 (S' : Int), .slice X xn xc, .slice X' xn' xc'], by omega, by go_num, by simp; omega, Lib.hid (by rw [HYS.out]; simp), Lib.hid (HV.out.snoc HRV.out), by simpa using hown1, hb1⟩
            case measure => simp [intOf]; omega
        · have hT2 : T = cf.clear 0 := by rw [hT]; simp [toOf, h1, h2]
          have hc0' : wr.cell? ⟨w.heap.size, 0, none⟩ = some (.int .u64 (T : Int)) := by rw [hc0, hT2]
          clear hc0 hT2
          have hk2 : (kind == 2) = false := by simpa using h2
          by_cases hk1 : kind = 1
          · subst hk1
            have hpp : decide (0 ≤ port) = false ∨ (decide (0 ≤ port) = true ∧ decide (port ≤ 7) = false) := by
              by_cases hp : 0 ≤ port
              · exact .inr ⟨by simpa using hp, by simp; omega⟩
              · exact .inl (by simpa using hp)
            clear h1 h2 hk2
            rcases hpp with hp0 | ⟨hp0, hp8⟩
            · skip
              have hT' := Lib.hid hT
              clear hT
              go_wp2_with fail
              refine (FL.out T hbt _).mono ?_
              rintro e w' ⟨rfl, rfl⟩
              cases hf : Lab.flows T o
              · rw [hf] at HYS
                go_wp2_with fail
                go_roundw
                case rel => exact ⟨k + 1, ys, vs, by omega, by go_num, by omega, Lib.hid (by rw [HYS.out]; simp), HV, hown, hbel⟩
                case measure => simp [intOf]; omega
              · rw [hf] at HYS
                go_wp2_with (at_builtin; refine wpList_append_own _ rfl (.tmp 63) (.tmp 68) 30 rfl W.heap.size 39 i0 (.agg #[.int .i64 0, .int .i64 0, .int .u64 0, .int .u64 0, .int .i64 0, .int .u64 0, .slice none 0 0, .slice none 0 0]) 8 96 Tryd.underlying30 hi hz0 hz1 hz2 rfl (by decide) _ ys.length vs rfl (hown.alloc _) ⟨_, 0, none⟩ 1 1 [.int .i64 1, .int .i64 port, .int .u64 (frm : Int), .int .u64 (to : Int), .int .i64 cls, .int .u64 (S' : Int), .slice X xn xc, .slice X' xn' xc'] rfl rfl (cells_new _ _ _) (by intro u hu; simp only [List.mem_cons, List.not_mem_nil, or_false] at hu; rcases hu with rfl | rfl | rfl | rfl | rfl | rfl | rfl | rfl <;> rfl) (by unfold maxLen; omega) (by omega) (by simp; omega) ?_; intro v1 w1 hown1 hgrow1 hnn1)
                have hb1 := (hbel.alloc hsz (Obj.cells #[.int .i64 1, .int .i64 port, .int .u64 (frm : Int), .int .u64 (to : Int), .int .i64 cls, .int .u64 (S' : Int), .slice X xn xc, .slice X' xn' xc'] 39)).grown hgrow1 (by simp; omega) (fun g hg => (hown.lt g hg).1)
                go_roundw
                case rel => exact ⟨k + 1, ys ++ [⟨1, port, frm, to, cls, v⟩], vs ++ [.int .i64 1, .int .i64 port, .int .u64 (frm : Int), .int .u64 (to : Int), .int .i64 cls, .int .u64 (S' : Int), .slice X xn xc, .slice X' xn' xc'], by omega, by go_num, by simp; omega, Lib.hid (by rw [HYS.out]; simp), Lib.hid (HV.out.snoc HRV.out), by simpa using hown1, hb1⟩
                case measure => simp [intOf]; omega
            · skip
              have hT' := Lib.hid hT
              clear hT
              go_wp2_with fail
              refine (FL.out T hbt _).mono ?_
              rintro e w' ⟨rfl, rfl⟩
              cases hf : Lab.flows T o
              · rw [hf] at HYS
                go_wp2_with fail
                go_roundw
                case rel => exact ⟨k + 1, ys, vs, by omega, by go_num, by omega, Lib.hid (by rw [HYS.out]; simp), HV, hown, hbel⟩
                case measure => simp [intOf]; omega
              · rw [hf] at HYS
                go_wp2_with (at_builtin; refine wpList_append_own _ rfl (.tmp 63) (.tmp 68) 30 rfl W.heap.size 39 i0 (.agg #[.int .i64 0, .int .i64 0, .int .u64 0, .int .u64 0, .int .i64 0, .int .u64 0, .slice none 0 0, .slice none 0 0]) 8 96 Tryd.underlying30 hi hz0 hz1 hz2 rfl (by decide) _ ys.length vs rfl (hown.alloc _) ⟨_, 0, none⟩ 1 1 [.int .i64 1, .int .i64 port, .int .u64 (frm : Int), .int .u64 (to : Int), .int .i64 cls, .int .u64 (S' : Int), .slice X xn xc, .slice X' xn' xc'] rfl rfl (cells_new _ _ _) (by intro u hu; simp only [List.mem_cons, List.not_mem_nil, or_false] at hu; rcases hu with rfl | rfl | rfl | rfl | rfl | rfl | rfl | rfl <;> rfl) (by unfold maxLen; omega) (by omega) (by simp; omega) ?_; intro v1 w1 hown1 hgrow1 hnn1)
                have hb1 := (hbel.alloc hsz (Obj.cells #[.int .i64 1, .int .i64 port, .int .u64 (frm : Int), .int .u64 (to : Int), .int .i64 cls, .int .u64 (S' : Int), .slice X xn xc, .slice X' xn' xc'] 39)).grown hgrow1 (by simp; omega) (fun g hg => (hown.lt g hg).1)
                go_roundw
                case rel => exact ⟨k + 1, ys ++ [⟨1, port, frm, to, cls, v⟩], vs ++ [.int .i64 1, .int .i64 port, .int .u64 (frm : Int), .int .u64 (to : Int), .int .i64 cls, .int .u64 (S' : Int), .slice X xn xc, .slice X' xn' xc'], by omega, by go_num, by simp; omega, Lib.hid (by rw [HYS.out]; simp), Lib.hid (HV.out.snoc HRV.out), by simpa using hown1, hb1⟩
                case measure => simp [intOf]; omega
          · have hk1' : (kind == 1) = false := by simpa using hk1
            clear h1 h2 hk1
            have hT' := Lib.hid hT
            clear hT
            go_wp2_with fail
            refine (FL.out T hbt _).mono ?_
            rintro e w' ⟨rfl, rfl⟩
            cases hf : Lab.flows T o
            · rw [hf] at HYS
              go_wp2_with fail
              go_roundw
              case rel => exact ⟨k + 1, ys, vs, by omega, by go_num, by omega, Lib.hid (by rw [HYS.out]; simp), HV, hown, hbel⟩
              case measure => simp [intOf]; omega
            · rw [hf] at HYS
              go_wp2_with (at_builtin; refine wpList_append_own _ rfl (.tmp 63) (.tmp 68) 30 rfl W.heap.size 39 i0 (.agg #[.int .i64 0, .int .i64 0, .int .u64 0, .int .u64 0, .int .i64 0, .int .u64 0, .slice none 0 0, .slice none 0 0]) 8 96 Tryd.underlying30 hi hz0 hz1 hz2 rfl (by decide) _ ys.length vs rfl (hown.alloc _) ⟨_, 0, none⟩ 1 1 [.int .i64 kind, .int .i64 port, .int .u64 (frm : Int), .int .u64 (to : Int), .int .i64 cls, .int .u64 (S' : Int), .slice X xn xc, .slice X' xn' xc'] rfl rfl (cells_new _ _ _) (by intro u hu; simp only [List.mem_cons, List.not_mem_nil, or_false] at hu; rcases hu with rfl | rfl | rfl | rfl | rfl | rfl | rfl | rfl <;> rfl) (by unfold maxLen; omega) (by omega) (by simp; omega) ?_; intro v1 w1 hown1 hgrow1 hnn1)
              have hb1 := (hbel.alloc hsz (Obj.cells #[.int .i64 kind, .int .i64 port, .int .u64 (frm : Int), .int .u64 (to : Int), .int .i64 cls, .int .u64 (S' : Int), .slice X xn xc, .slice X' xn' xc'] 39)).grown hgrow1 (by simp; omega) (fun g hg => (hown.lt g hg).1)
              go_roundw
              case rel => exact ⟨k + 1, ys ++ [⟨kind, port, frm, to, cls, v⟩], vs ++ [.int .i64 kind, .int .i64 port, .int .u64 (frm : Int), .int .u64 (to : Int), .int .i64 cls, .int .u64 (S' : Int), .slice X xn xc, .slice X' xn' xc'], by omega, by go_num, by simp; omega, Lib.hid (by rw [HYS.out]; simp), Lib.hid (HV.out.snoc HRV.out), by simpa using hown1, hb1⟩
              case measure => simp [intOf]; omega
    · have hke : k = rs.length := by omega
      have HY2 : Hid (ys = seen cf.clear o rs) := Lib.hid (by rw [HY.out, hke, List.take_length])
      clear HY hke
      obtain ⟨A2, c2, rfl, _, _⟩ := own_slice hown
      go_wp2_with fail
      go_ret
      exact ⟨A2, c2, vs, by show Ending.returned (.slice A2 ys.length c2) = _; rw [HY2.out], Lies.of_own hown, by rw [← HY2.out]; exact HV.out.keep (fun p hp => (hbel.cell (by omega)).trans (hWb.cell (by omega))) (by omega), hWb.trans (hbel.mono (by omega))⟩
end Go.Proofs.YtfiobbhicicchaaDoor
