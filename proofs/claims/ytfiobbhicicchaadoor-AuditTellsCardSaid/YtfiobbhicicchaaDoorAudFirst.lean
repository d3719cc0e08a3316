/-
  The first record that could not be told: audit.First, the reference's; few: some answer.
-/
import Derived.Test.YtfiobbhicicchaaDoorAudAllow
namespace Go.Proofs.YtfiobbhicicchaaDoor
open Go.RowKit Ar
set_option maxHeartbeats 1000000
set_option linter.unusedVariables false

def firstFrom (auth : Nat) : Nat → List Rec → Int
  | _, [] => -1
  | i, r :: t => if allowedB auth r then firstFrom auth (i + 1) t else (i : Int)
theorem firstFrom_drop {auth k : Nat} {rs : List Rec} (h : k < rs.length) : firstFrom auth k (rs.drop k) = if allowedB auth rs[k] then firstFrom auth (k + 1) (rs.drop (k + 1)) else (k : Int) := by
  rw [List.drop_eq_getElem_cons h, firstFrom]
theorem cfg_info : (Tryd.prog.info? 29).map (·.size) = some 36 := by kernel_rfl

theorem fewRecs_any (A : Option Addr) (cp : Nat) (rs : List Rec) (us : List Value) (w : World) (B : Nat) (hl : Lies w B A us) (hrs : IsRecs w B rs us) (hB : B ≤ w.heap.size) (hn : rs.length ≤ 9223372036854775807) :
    Calls Tryd.prog 6 #[.slice A rs.length cp] w (SomeBool w) := by
  have HL := Lib.hid hl
  have HR := Lib.hid hrs
  clear hl hrs
  by_cases h60 : rs.length ≤ 60
  · go_enter Tryd.func6, Tryd.ntmps6
    go_wp2_with fail
    go_loopw [3] (fun i wr => ∃ k : Nat, k ≤ rs.length ∧ i = .int .i64 k ∧ Below w.heap.size w wr) (fun i _ => rs.length - (intOf i).toNat)
    case atStart => exact ⟨0, Nat.zero_le _, rfl, Below.refl _ _⟩
    case round =>
      obtain ⟨k, hk, rfl, hbel⟩ := hrel
      have hsz := hbel.size
      by_cases hlt : k < rs.length
      · obtain ⟨b, off, r, S', X, xn, xc, X', xn', xc', rfl, hb, HE, hr1, hr2, HA, g0, g1, g2, g3, g4, g5, g6, g7⟩ := rec_at HR.out HL.out (wr := wr) (fun p hp => hbel.cell (by omega)) hlt
        have FW := Lib.hid (fewArr_any r.v _ wr B (HA.out.1.below (hbel.mono hB)) (by omega))
        go_wp2_with fail
        refine FW.out.mono ?_
        rintro e w2 ⟨rb, rfl, hb2⟩
        have hb3 := hbel.trans (hb2.mono (by omega))
        cases rb
        · go_wp2_with fail
          go_ret
          exact ⟨false, rfl, hb3⟩
        · go_wp2_with fail
          go_roundw
          case rel => exact ⟨k + 1, by omega, by go_num, hb3⟩
          case measure => simp [intOf]; omega
      · go_wp2_with fail
        go_ret
        exact ⟨true, rfl, hbel⟩
  · have h60' : 60 < rs.length := by omega
    go_enter Tryd.func6, Tryd.ntmps6
    go_wp2_with fail
    go_ret
    exact ⟨false, rfl, Below.refl _ _⟩

theorem first_any (cf : Cfg) (C : Array Value) (A : Option Addr) (cp : Nat) (rs : List Rec) (us : List Value) (w : World) (B : Nat) (hC : IsCfg w B cf C) (hl : Lies w B A us) (hrs : IsRecs w B rs us) (hB : B ≤ w.heap.size) (hn : rs.length ≤ 9223372036854775807) :
    Calls Tryd.prog 10 #[.agg C, .slice A rs.length cp] w fun e w' => e = .returned (.int .i64 (firstFrom cf.auth 0 rs)) ∧ Below w.heap.size w w' := by
  have HL := Lib.hid hl
  have HR := Lib.hid hrs
  have HC := Lib.hid hC
  obtain ⟨W, hW⟩ : ∃ W, W = w.alloc (.cells C 29) := ⟨_, rfl⟩
  have hWs : W.heap.size = w.heap.size + 1 := by rw [hW]; simp
  have hWb : Below w.heap.size w W := by rw [hW]; exact (Below.refl _ _).alloc (Nat.le_refl _) _
  have hWc : W.heap[w.heap.size]? = some (.cells C 29 (0, 0)) := by rw [hW]; exact heap_alloc_new _ _
  have HW := Lib.hid hW
  have HWc := Lib.hid hWc
  have hWl : w.heap.size < W.heap.size := by omega
  have HI : Hid ((Tryd.prog.info? 29).map (·.size) = some C.size) := Lib.hid (by rw [hC.size]; exact cfg_info)
  clear hl hrs hC hW hWs hWc
  go_enter Tryd.func10, Tryd.ntmps10
  go_wp2_with fail
  rw [← HW.out]
  go_loopw [9] (fun i wr => ∃ k : Nat, k ≤ rs.length ∧ i = .int .i64 k ∧ Hid (firstFrom cf.auth k (rs.drop k) = firstFrom cf.auth 0 rs) ∧ Below W.heap.size W wr) (fun i _ => rs.length - (intOf i).toNat)
  case atStart => exact ⟨0, Nat.zero_le _, rfl, Lib.hid rfl, Below.refl _ _⟩
  case round =>
    obtain ⟨k, hk, rfl, HF, hbel⟩ := hrel
    have hsz := hbel.size
    by_cases hlt : k < rs.length
    · obtain ⟨b, off, r, S', X, xn, xc, X', xn', xc', rfl, hb, HE, hr1, hr2, HA, g0, g1, g2, g3, g4, g5, g6, g7⟩ := rec_at HR.out HL.out (wr := wr) (fun p hp => (hbel.cell (by omega)).trans (hWb.cell (by omega))) hlt
      have hbw : b < wr.heap.size := by omega
      have hba := hbel.alloc (by omega) (Obj.cells #[.int .i64 r.kind, .int .i64 r.port, .int .u64 (r.frm : Int), .int .u64 (r.to : Int), .int .i64 r.cls, .int .u64 (S' : Int), .slice X xn xc, .slice X' xn' xc'] 39)
      have HG := Lib.hid ((hba.block w.heap.size hWl).trans HWc.out)
      have hb0 := hWb.trans (hba.mono (by omega))
      have AL := Lib.hid (allowed_any cf C r S' X xn xc X' xn' xc' _ B (HC.out.below (hb0.mono hB)) (HA.out.1.below (hb0.mono hB)) hr1 hr2 (by simp; omega))
      go_wp2_with (with_reducible refine wpList_load_row rfl 29 (.tmp 2) rfl w.heap.size rfl 29 C (0, 0) _ HG.out Tryd.underlying29 rfl HI.out ?_)
      refine AL.out.mono ?_
      rintro e w2 ⟨rfl, hb2⟩
      have hb3 := hba.trans (hb2.mono (by simp; omega))
      have HST : Hid (firstFrom cf.auth k (rs.drop k) = if allowedB cf.auth r then firstFrom cf.auth (k + 1) (rs.drop (k + 1)) else (k : Int)) := Lib.hid (by rw [firstFrom_drop hlt, HE.out])
      cases ha : allowedB cf.auth r
      · have HS2 : Hid (firstFrom cf.auth 0 rs = (k : Int)) := Lib.hid (by rw [← HF.out, HST.out, ha]; rfl)
        go_wp2_with fail
        go_ret
        exact ⟨ret_int (by rw [HS2.out]), hWb.trans (hb3.mono (by omega))⟩
      · have HS2 : Hid (firstFrom cf.auth (k + 1) (rs.drop (k + 1)) = firstFrom cf.auth 0 rs) := Lib.hid (by rw [← HF.out, HST.out, ha]; rfl)
        go_wp2_with fail
        go_roundw
        case rel => exact ⟨k + 1, by omega, by go_num, HS2, hb3⟩
        case measure => simp [intOf]; omega
    · have hke : k = rs.length := by omega
      have HS2 : Hid (firstFrom cf.auth 0 rs = -1) := Lib.hid (by rw [← HF.out, hke, List.drop_length]; rfl)
      clear hke
      go_wp2_with fail
      go_ret
      exact ⟨ret_int (by rw [HS2.out]), hWb.trans (hbel.mono (by omega))⟩

theorem refFirst_any (cf : Cfg) (C : Array Value) (A : Option Addr) (cp : Nat) (rs : List Rec) (us : List Value) (w : World) (B : Nat) (hC : IsCfg w B cf C) (hl : Lies w B A us) (hrs : IsRecs w B rs us) (hB : B ≤ w.heap.size) (hn : rs.length ≤ 9223372036854775807) :
    Calls Tryd.prog 11 #[.agg C, .slice A rs.length cp] w fun e w' => e = .returned (.int .i64 (firstFrom cf.auth 0 rs)) ∧ Below w.heap.size w w' := by
  have HL := Lib.hid hl
  have HR := Lib.hid hrs
  have HC := Lib.hid hC
  obtain ⟨W, hW⟩ : ∃ W, W = w.alloc (.cells C 29) := ⟨_, rfl⟩
  have hWs : W.heap.size = w.heap.size + 1 := by rw [hW]; simp
  have hWb : Below w.heap.size w W := by rw [hW]; exact (Below.refl _ _).alloc (Nat.le_refl _) _
  have hWc : W.heap[w.heap.size]? = some (.cells C 29 (0, 0)) := by rw [hW]; exact heap_alloc_new _ _
  have HW := Lib.hid hW
  have HWc := Lib.hid hWc
  have hWl : w.heap.size < W.heap.size := by omega
  have HI : Hid ((Tryd.prog.info? 29).map (·.size) = some C.size) := Lib.hid (by rw [hC.size]; exact cfg_info)
  clear hl hrs hC hW hWs hWc
  go_enter Tryd.func11, Tryd.ntmps11
  go_wp2_with fail
  rw [← HW.out]
  go_loopw [5] (fun i wr => ∃ k : Nat, k ≤ rs.length ∧ i = .int .i64 k ∧ Hid (firstFrom cf.auth k (rs.drop k) = firstFrom cf.auth 0 rs) ∧ Below W.heap.size W wr) (fun i _ => rs.length - (intOf i).toNat)
  case atStart => exact ⟨0, Nat.zero_le _, rfl, Lib.hid rfl, Below.refl _ _⟩
  case round =>
    obtain ⟨k, hk, rfl, HF, hbel⟩ := hrel
    have hsz := hbel.size
    by_cases hlt : k < rs.length
    · obtain ⟨b, off, r, S', X, xn, xc, X', xn', xc', rfl, hb, HE, hr1, hr2, HA, g0, g1, g2, g3, g4, g5, g6, g7⟩ := rec_at HR.out HL.out (wr := wr) (fun p hp => (hbel.cell (by omega)).trans (hWb.cell (by omega))) hlt
      have hbw : b < wr.heap.size := by omega
      have hb0 := hWb.trans (hbel.mono (by omega))
      have HG : Hid (∀ w', (∃ x : Later wr, w' = x.w) → w'.heap[w.heap.size]? = some (.cells C 29 (0, 0))) := Lib.hid (fun w' ⟨x, hx⟩ => by rw [hx]; exact (x.b.block w.heap.size (by omega)).trans ((hbel.block w.heap.size hWl).trans HWc.out))
      have AL := Lib.hid (fun (x : Later wr) => refAllowed_any cf C r S' X xn xc X' xn' xc' x.w B (HC.out.below ((hb0.trans (x.b.mono (by omega))).mono hB)) (HA.out.1.below ((hb0.trans (x.b.mono (by omega))).mono hB)) hr1 hr2 (by have := x.b.size; omega))
      have HK : ∀ (x : Later wr) (o : Nat), x.w.cell? ⟨b, o, none⟩ = wr.cell? ⟨b, o, none⟩ := fun x o => x.b.cell (p := ⟨b, o, none⟩) hbw
      go_wp2_with fail
      refine wp_region_later wr (by kernel_rfl) (by kernel_rfl) (Below.drew_self wr) ?_
      refine wpQuiet_load_row rfl 29 (.tmp 2) rfl w.heap.size rfl 29 C (0, 0) _ HG.out Tryd.underlying29 rfl HI.out ?_
      intro a' ha'
      simp [Act.put] at ha'
      subst ha'
      repeat (go_big_quiet_step ((go_at_call 9; exact Later.call (AL.out _))))
      refine wpQuiet_nil ?_
      rintro _ ⟨⟨w4, hb4⟩, rfl⟩
      clear HK g0 g1 g2 g3 g4 g5 g6 g7
      have hb3 := hbel.trans (hb4.mono (by omega))
      have HST : Hid (firstFrom cf.auth k (rs.drop k) = if allowedB cf.auth r then firstFrom cf.auth (k + 1) (rs.drop (k + 1)) else (k : Int)) := Lib.hid (by rw [firstFrom_drop hlt, HE.out])
      cases ha : allowedB cf.auth r
      · have HS2 : Hid (firstFrom cf.auth 0 rs = (k : Int)) := Lib.hid (by rw [← HF.out, HST.out, ha]; rfl)
        (first | rw [Bool.not_false] | rw [Bool.not_true])
        go_wp2_with fail
        go_ret
        exact ⟨ret_int (by rw [HS2.out]), hWb.trans (hb3.mono (by omega))⟩
      · have HS2 : Hid (firstFrom cf.auth (k + 1) (rs.drop (k + 1)) = firstFrom cf.auth 0 rs) := Lib.hid (by rw [← HF.out, HST.out, ha]; rfl)
        (first | rw [Bool.not_false] | rw [Bool.not_true])
        go_wp2_with fail
        go_roundw
        case rel => exact ⟨k + 1, by omega, by go_num, HS2, hb3⟩
        case measure => simp [intOf]; omega
    · have hke : k = rs.length := by omega
      have HS2 : Hid (firstFrom cf.auth 0 rs = -1) := Lib.hid (by rw [← HF.out, hke, List.drop_length]; rfl)
      clear hke
      go_wp2_with fail
      go_ret
      exact ⟨ret_int (by rw [HS2.out]), hWb.trans (hbel.mono (by omega))⟩
end Go.Proofs.YtfiobbhicicchaaDoor
