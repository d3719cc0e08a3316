/-
  array.Total: the join of all labels of an array.
-/
import Derived.Test.YtfiobbhicicchaaDoorArr
import Derived.Test.YtfiobbhicicchaaDoorLabRef
import Derived.LoopTactic
import Derived.Outline
namespace Go.Proofs.YtfiobbhicicchaaDoor
open Go.RowKit Ar
set_option maxHeartbeats 1000000
set_option linter.unusedVariables false

theorem total_any (n : Nat) : ∀ (a : Arr) (vs : List Value) (w : World) (B : Nat), SizeOf.sizeOf a < n → IsArr w B a vs → B ≤ w.heap.size →
    Calls Tryd.prog 22 #[.agg vs.toArray] w fun e w' => e = .returned (.int .u64 (tot a : Int)) ∧ Below w.heap.size w w' := by
  induction n with
  | zero => intro a vs w B h; omega
  | succ n ih =>
    intro a vs w B hn h hB
    obtain ⟨S, shape, cells⟩ := a
    rw [IsArr] at h
    obtain ⟨A, c, A', c', us, rfl, hS, hf, hf', hw, hl, hl', hcs⟩ := h
    have HC := Lib.hid hcs
    have HL := Lib.hid hl'
    have hfl := (hf'.le (by omega))
    have hn' : SizeOf.sizeOf (Arr.mk S shape cells) ≤ n := by omega
    have HN := Lib.hid hn'
    clear hcs hl' hl hf hw hn hn'
    go_enter Tryd.func22, Tryd.ntmps22
    go_wp2_with fail
    go_loopw [3, 13] (fun x i wr => ∃ k m : Nat, k ≤ cells.length ∧ i = .int .i64 k ∧ x = .int .u64 (m : Int) ∧ m < 18446744073709551616 ∧ Hid (totCels m (cells.drop k) = tot (.mk S shape cells)) ∧ Below w.heap.size w wr) (fun _ i _ => cells.length - (intOf i).toNat)
    case atStart => exact ⟨0, S, Nat.zero_le _, rfl, rfl, hS, Lib.hid (by simp [tot]), (Below.refl _ _).alloc (Nat.le_refl _) _⟩
    case round =>
      obtain ⟨k, m, hk, rfl, rfl, hm, HT, hbel⟩ := hrel
      by_cases hlt : k < cells.length
      · obtain ⟨b, off, L, kind, neg, top, bot, ch, ins, A1, c1, A2, c2, A3, c3, us3, rfl, hb, hL, HX, t1, t2, t3, t4, t5, t6, g0, g1, g2, g3, g4, g5, g6⟩ := cel_at HC.out HL.out (wr := wr) (fun p hp => hbel.cell (by omega)) hlt
        have hbw : b < wr.heap.size := by have := hbel.size; omega
        go_wp2_with fail
        refine (join_any _ _ _ hm hL).mono ?_
        rintro e w' ⟨rfl, rfl⟩
        go_wp2_with fail
        have hbo : Below w.heap.size w (wr.alloc (.cells #[.int .u64 (L : Int), .int .i64 kind, .bool neg, .slice A1 top.length c1, .slice A2 bot.length c2, .int .i64 ch, .slice A3 ins.length c3] 67)) := hbel.alloc (by have := hbel.size; omega) _
        obtain ⟨wo, rfl⟩ : ∃ wo : World, wo = wr := ⟨_, rfl⟩
        have hjl : Lab.join m L < 18446744073709551616 := Lab.join_lt hm hL
        clear g0 g1 g2 g3 g4 g5 g6 hbel
        go_loopw [3, 24] (fun x j wr => ∃ i m' : Nat, i ≤ ins.length ∧ j = .int .i64 i ∧ x = .int .u64 (m' : Int) ∧ m' < 18446744073709551616 ∧ Hid (totArrs m' (ins.drop i) = totCel m cells[k]) ∧ Below w.heap.size w wr) (fun _ j _ => ins.length - (intOf j).toNat)
        case atStart => exact ⟨0, _, Nat.zero_le _, rfl, rfl, hjl, Lib.hid (by rw [HX.out.eq]; rfl), hbo⟩
        case round =>
          obtain ⟨i, m', hi, rfl, rfl, hm', HT', hbel⟩ := hrel
          have hsz := hbel.size
          by_cases hlt' : i < ins.length
          · obtain ⟨b', off', S', X, xn, xc, X', xn', xc', rfl, hb', HA, e0, e1, e2⟩ := arr_at HX.out.arrs HX.out.li (wr := wr) (fun p hp => hbel.cell (by omega)) hlt'
            have hbw' : b' < wr.heap.size := by omega
            have IH := Lib.hid (ih ins[i] [.int .u64 (S' : Int), .slice X xn xc, .slice X' xn' xc'] (wr.alloc (Obj.cells #[Value.int .u64 (S' : Int), .slice X xn xc, .slice X' xn' xc'] 37)) B (by have := size_ins (S := S) (shape := shape) hlt HX.out.eq hlt'; have := HN.out; omega) (HA.out.below (hbel.mono (by omega) |>.alloc (by omega) _)) (by simp; omega))
            have hbt := hbel.alloc (by omega) (Obj.cells #[Value.int .u64 (S' : Int), .slice X xn xc, .slice X' xn' xc'] 37)
            go_wp2_with fail
            refine IH.out.mono ?_
            rintro e w2 ⟨rfl, hb2⟩
            have hb3 := hbt.trans (hb2.mono (by simp; omega))
            have htl : tot ins[i] < 18446744073709551616 := tot_lt _ _ HA.out
            go_wp2_with fail
            refine (join_any _ _ _ hm' htl).mono ?_
            rintro e w' ⟨rfl, rfl⟩
            go_wp2_with fail
            go_roundw
            case rel => exact ⟨i + 1, Lab.join m' (tot ins[i]), by omega, by go_num, rfl, Lab.join_lt hm' htl, Lib.hid (by rw [← HT'.out, totArrs_drop hlt']; rfl), hb3⟩
            case measure => simp [intOf]; omega
          · have hie : i = ins.length := by omega
            have HT2 : Hid (m' = totCel m cells[k]) := Lib.hid (by have := HT'.out; rw [hie, List.drop_length, totArrs] at this; exact this)
            clear HT' hie
            go_wp2_with fail
            go_roundw
            case rel => exact ⟨k + 1, m', by omega, by go_num, rfl, hm', Lib.hid (by rw [HT2.out, ← totCels_drop hlt]; exact HT.out), hbel⟩
            case measure => simp [intOf]; omega
      · have hke : k = cells.length := by omega
        have HT2 : Hid (m = tot (.mk S shape cells)) := Lib.hid (by have := HT.out; rw [hke, List.drop_length, totCels] at this; exact this)
        clear HT hke
        go_wp2_with fail
        go_ret
        exact ⟨ret_int (by rw [HT2.out]), hbel⟩
end Go.Proofs.YtfiobbhicicchaaDoor
