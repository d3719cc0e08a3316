/-
  The reference's Total of an array; its Few: some answer.
-/
import Derived.Test.YtfiobbhicicchaaDoorArrTot
import Derived.Deep.QuietTactic
import Derived.BigQuiet
namespace Go.Proofs.YtfiobbhicicchaaDoor
open Go.RowKit Ar
set_option maxHeartbeats 1000000
set_option linter.unusedVariables false

theorem refTotal_any (n : Nat) : ∀ (a : Arr) (vs : List Value) (w : World) (B : Nat), SizeOf.sizeOf a < n → IsArr w B a vs → B ≤ w.heap.size →
    Calls Tryd.prog 24 #[.agg vs.toArray] w fun e w' => e = .returned (.int .u64 (tot a : Int)) ∧ Below w.heap.size w w' := by
  induction n with
  | zero => intro a vs w B h; omega
  | succ n ih =>
    intro a vs w B hn h hB
    obtain ⟨S, shape, cells⟩ := a
    rw [IsArr] at h
    obtain ⟨A, c, A', c', us, rfl, hS, hf, hf', hw, hl, hl', hcs⟩ := h
    have HC := Lib.hid hcs
    have HL := Lib.hid hl'
    have hfl := (hf'.le (by omega))
    have hn' : SizeOf.sizeOf (Arr.mk S shape cells) ≤ n := by omega
    have HN := Lib.hid hn'
    clear hcs hl' hl hf hw hn hn'
    obtain ⟨W, hW⟩ : ∃ W, W = w.alloc (.cells #[.int .u64 (S : Int), .slice A shape.length c, .slice A' cells.length c'] 37) := ⟨_, rfl⟩
    have hWs : W.heap.size = w.heap.size + 1 := by rw [hW]; simp
    have hWb : Below w.heap.size w W := by rw [hW]; exact (Below.refl _ _).alloc (Nat.le_refl _) _
    have hWc : W.cell? ⟨w.heap.size, 2, none⟩ = some (.slice A' cells.length c') := by rw [hW]; simp [go_sem]
    have HW := Lib.hid hW
    have HWs := Lib.hid hWs
    have HWc := Lib.hid hWc
    have hWl : w.heap.size < W.heap.size := by omega
    go_enter Tryd.func24, Tryd.ntmps24
    clear hW hWs hWc
    go_wp2_with fail
    rw [← HW.out]
    go_loopw [3, 4] (fun x i wr => ∃ k m : Nat, k ≤ cells.length ∧ i = .int .i64 k ∧ x = .int .u64 (m : Int) ∧ m < 18446744073709551616 ∧ Hid (totCels m (cells.drop k) = tot (.mk S shape cells)) ∧ Below W.heap.size W wr) (fun _ i _ => cells.length - (intOf i).toNat)
    case atStart => exact ⟨0, S, Nat.zero_le _, rfl, rfl, hS, Lib.hid (by simp [tot]), Below.refl _ _⟩
    case round =>
      obtain ⟨k, m, hk, rfl, rfl, hm, HT, hbel⟩ := hrel
      have hbox : wr.cell? ⟨w.heap.size, 2, none⟩ = some (.slice A' cells.length c') := (hbel.cell (p := ⟨w.heap.size, 2, none⟩) hWl).trans HWc.out
      by_cases hlt : k < cells.length
      · obtain ⟨b, off, L, kind, neg, top, bot, ch, ins, A1, c1, A2, c2, A3, c3, us3, rfl, hb, hL, HX, t1, t2, t3, t4, t5, t6, g0, g1, g2, g3, g4, g5, g6⟩ := cel_at HC.out HL.out (wr := wr) (fun p hp => (hbel.cell (by omega)).trans (hWb.cell (by omega))) hlt
        have HG6 := Lib.hid ((hbel.cell (p := ⟨b, off + k * 7 + 6, none⟩) (show b < W.heap.size by omega)).symm.trans g6)
        clear g1 g2 g3 g4 g5 g6
        go_wp2_with fail
        refine (refJoin_any _ _ _ hm hL).mono ?_
        rintro e w' ⟨rfl, rfl⟩
        go_wp2_with fail
        have hjl : Lab.join m L < 18446744073709551616 := Lab.join_lt hm hL
        clear g0 hbox
        obtain ⟨wo, hwo⟩ : ∃ wo : World, wo = wr := ⟨_, rfl⟩
        rw [← hwo] at hbel ⊢
        clear hwo
        go_loopw [3, 5] (fun x j wr => ∃ i m' : Nat, i ≤ ins.length ∧ j = .int .i64 i ∧ x = .int .u64 (m' : Int) ∧ m' < 18446744073709551616 ∧ Hid (totArrs m' (ins.drop i) = totCel m cells[k]) ∧ Below W.heap.size W wr) (fun _ j _ => ins.length - (intOf j).toNat)
        case atStart => exact ⟨0, _, Nat.zero_le _, rfl, rfl, hjl, Lib.hid (by rw [HX.out.eq]; rfl), hbel⟩
        case round =>
          clear hbel
          obtain ⟨i, m', hi, rfl, rfl, hm', HT', hbel⟩ := hrel
          have hsz := hbel.size
          have hbox : wr.cell? ⟨w.heap.size, 2, none⟩ = some (.slice (some ⟨b, off, none⟩) cells.length c') := (hbel.cell (p := ⟨w.heap.size, 2, none⟩) hWl).trans HWc.out
          have g6 : wr.cell? ⟨b, off + k * 7 + 6, none⟩ = some (.slice A3 ins.length c3) := (hbel.cell (p := ⟨b, off + k * 7 + 6, none⟩) (show b < W.heap.size by omega)).trans HG6.out
          by_cases hlt' : i < ins.length
          · obtain ⟨b', off', S', X, xn, xc, X', xn', xc', rfl, hb', HA, e0, e1, e2⟩ := arr_at HX.out.arrs HX.out.li (wr := wr) (fun p hp => (hbel.cell (by omega)).trans (hWb.cell (by omega))) hlt'
            have IH := Lib.hid (ih ins[i] [.int .u64 (S' : Int), .slice X xn xc, .slice X' xn' xc'] wr B (by have := size_ins (S := S) (shape := shape) hlt HX.out.eq hlt'; have := HN.out; omega) (HA.out.below ((hWb.mono (by omega)).trans (hbel.mono (by omega)))) (by omega))
            go_wp2_with fail
            refine IH.out.mono ?_
            rintro e w2 ⟨rfl, hb2⟩
            have hb3 := hbel.trans (hb2.mono (by omega))
            have htl : tot ins[i] < 18446744073709551616 := tot_lt _ _ HA.out
            go_wp2_with fail
            refine (refJoin_any _ _ _ hm' htl).mono ?_
            rintro e w' ⟨rfl, rfl⟩
            go_wp2_with fail
            go_roundw
            case rel => exact ⟨i + 1, Lab.join m' (tot ins[i]), by omega, by go_num, rfl, Lab.join_lt hm' htl, Lib.hid (by rw [← HT'.out, totArrs_drop hlt']; rfl), hb3⟩
            case measure => simp [intOf]; omega
          · have hie : i = ins.length := by omega
            have HT2 : Hid (m' = totCel m cells[k]) := Lib.hid (by have := HT'.out; rw [hie, List.drop_length, totArrs] at this; exact this)
            clear HT' hie
            go_wp2_with fail
            go_roundw
            case rel => exact ⟨k + 1, m', by omega, by go_num, rfl, hm', Lib.hid (by rw [HT2.out, ← totCels_drop hlt]; exact HT.out), hbel⟩
            case measure => simp [intOf]; omega
      · have hke : k = cells.length := by omega
        have HT2 : Hid (m = tot (.mk S shape cells)) := Lib.hid (by have := HT.out; rw [hke, List.drop_length, totCels] at this; exact this)
        clear HT hke
        go_wp2_with fail
        go_ret
        exact ⟨ret_int (by rw [HT2.out]), hWb.trans (hbel.mono (by omega))⟩
end Go.Proofs.YtfiobbhicicchaaDoor
