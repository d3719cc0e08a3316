/-
  The reference's Few of an array: some answer.
-/
import Derived.Test.YtfiobbhicicchaaArrTot
import Derived.Deep.QuietTactic
import Derived.BigQuiet
namespace Go.Proofs.Ytfiobbhicicchaa
open Go.RowKit Ar
set_option maxHeartbeats 1000000
set_option linter.unusedVariables false

def SomeLeft (w : World) (e : Ending) (w' : World) : Prop := ∃ r : Int, e = .returned (.int .i64 r) ∧ -140737488355328 ≤ r ∧ r ≤ 4000 ∧ Below w.heap.size w w'
def SomeBool (w : World) (e : Ending) (w' : World) : Prop := ∃ r : Bool, e = .returned (.bool r) ∧ Below w.heap.size w w'
theorem below_drewN {B : Nat} {a w : World} (h : Below B a w) (n : Nat) : Below B a (w.drewN n) := ⟨h.os, h.tape, h.output, h.size, h.block⟩

theorem left_any (n : Nat) : ∀ (a : Arr) (vs : List Value) (d x : Int) (w : World) (B : Nat), SizeOf.sizeOf a < n → IsArr w B a vs → B ≤ w.heap.size → 0 ≤ d → d ≤ 12 → 0 ≤ x → x ≤ 4000 →
    Calls Try.prog 38 #[.agg vs.toArray, .int .i64 d, .int .i64 x] w (SomeLeft w) := by
  induction n with
  | zero => intro a vs d x w B h; omega
  | succ n ih =>
    intro a vs d x w B hn h hB hd0 hd1 hx0 hx1
    obtain ⟨S, shape, cells⟩ := a
    rw [IsArr] at h
    obtain ⟨A, c, A', c', us, rfl, hS, hf, hf', hw, hl, hl', hcs⟩ := h
    have HC := Lib.hid hcs
    have HL := Lib.hid hl'
    have hfl := (hf'.le (by omega))
    have hfs : shape.length ≤ 17592186044416 := by have h1 := hf.1; have h2 := hf.2; omega
    have hn' : SizeOf.sizeOf (Arr.mk S shape cells) ≤ n := by omega
    have HN := Lib.hid hn'
    clear hcs hl' hl hf hw hn hn'
    obtain ⟨W, hW⟩ : ∃ W, W = w.alloc (.cells #[.int .u64 (S : Int), .slice A shape.length c, .slice A' cells.length c'] 42) := ⟨_, rfl⟩
    have hWs : W.heap.size = w.heap.size + 1 := by rw [hW]; simp
    have hWb : Below w.heap.size w W := by rw [hW]; exact (Below.refl _ _).alloc (Nat.le_refl _) _
    have hWc : W.cell? ⟨w.heap.size, 2, none⟩ = some (.slice A' cells.length c') := by rw [hW]; simp [go_sem]
    have HW := Lib.hid hW
    have HWs := Lib.hid hWs
    have HWc := Lib.hid hWc
    have hWl : w.heap.size < W.heap.size := by omega
    by_cases hd : d = 0
    · subst hd
      clear hW hWs hWc
      go_enter Try.func38, Try.ntmps38
      go_wp2_with fail
      rw [← HW.out]
      go_ret
      exact ⟨-1, rfl, by omega, by omega, hWb⟩
    · have hdb : (d == 0) = false := by simpa using hd
      clear hW hWs hWc hd
      go_enter Try.func38, Try.ntmps38
      go_wp2_with fail
      rw [← HW.out]
      go_loopw [2, 7] (fun x i wr => ∃ (k : Nat) (m : Int), k ≤ cells.length ∧ i = .int .i64 k ∧ x = .int .i64 m ∧ -140737488355328 ≤ m ∧ m ≤ 4000 ∧ Below W.heap.size W wr) (fun _ i _ => cells.length - (intOf i).toNat)
      case atStart => exact ⟨0, _, Nat.zero_le _, rfl, rfl, by omega, by omega, Below.refl _ _⟩
      case round =>
        obtain ⟨k, m, hk, rfl, rfl, hm0, hm1, hbel⟩ := hrel
        have hbox : wr.cell? ⟨w.heap.size, 2, none⟩ = some (.slice A' cells.length c') := (hbel.cell (p := ⟨w.heap.size, 2, none⟩) hWl).trans HWc.out
        by_cases hlt : k < cells.length
        · by_cases hm : 0 ≤ m
          · obtain ⟨b, off, L, kind, neg, top, bot, ch, ins, A1, c1, A2, c2, A3, c3, us3, rfl, hb, hL, HX, t1, t2, t3, t4, t5, t6, g0, g1, g2, g3, g4, g5, g6⟩ := cel_at HC.out HL.out (wr := wr) (fun p hp => (hbel.cell (by omega)).trans (hWb.cell (by omega))) hlt
            have HG6 := Lib.hid ((hbel.cell (p := ⟨b, off + k * 7 + 6, none⟩) (show b < W.heap.size by omega)).symm.trans g6)
            clear g0 g1 g2 g5 g6
            have hk0 : (0 : Int) ≤ (k : Int) := by omega
            have hk1 : (k : Int) < (cells.length : Int) := by omega
            go_wp2_with fail
            go_quiet (fail)
            go_wp2_with fail
            clear g3 g4 hbox
            obtain ⟨wo, hwo⟩ : ∃ wo : World, wo = wr.drewN nq := ⟨_, rfl⟩
            have hbo : Below W.heap.size W wo := by rw [hwo]; exact below_drewN hbel nq
            rw [← hwo]
            clear hwo hbel
            go_loopw [2, 8] (fun x j wr => ∃ (i : Nat) (m' : Int), i ≤ ins.length ∧ j = .int .i64 i ∧ x = .int .i64 m' ∧ -140737488355328 ≤ m' ∧ m' ≤ 4000 ∧ Below W.heap.size W wr) (fun _ j _ => ins.length - (intOf j).toNat)
            case atStart => exact ⟨0, _, Nat.zero_le _, rfl, rfl, by omega, by omega, hbo⟩
            case round =>
              clear hbo
              obtain ⟨i, m', hi, rfl, rfl, hm0', hm1', hbel⟩ := hrel
              have hsz := hbel.size
              have hbox : wr.cell? ⟨w.heap.size, 2, none⟩ = some (.slice (some ⟨b, off, none⟩) cells.length c') := (hbel.cell (p := ⟨w.heap.size, 2, none⟩) hWl).trans HWc.out
              have g6 : wr.cell? ⟨b, off + k * 7 + 6, none⟩ = some (.slice A3 ins.length c3) := (hbel.cell (p := ⟨b, off + k * 7 + 6, none⟩) (show b < W.heap.size by omega)).trans HG6.out
              by_cases hlt' : i < ins.length
              · by_cases hm' : 0 ≤ m'
                · obtain ⟨b', off', S', X, xn, xc, X', xn', xc', rfl, hb', HA, e0, e1, e2⟩ := arr_at HX.out.arrs HX.out.li (wr := wr) (fun p hp => (hbel.cell (by omega)).trans (hWb.cell (by omega))) hlt'
                  have IH := Lib.hid (ih ins[i] [.int .u64 (S' : Int), .slice X xn xc, .slice X' xn' xc'] (d - 1) m' wr B (by have := size_ins (S := S) (shape := shape) hlt HX.out.eq hlt'; have := HN.out; omega) (HA.out.below ((hWb.mono (by omega)).trans (hbel.mono (by omega)))) (by omega) (by simp at hdb; omega) (by omega) hm' hm1')
                  go_wp2_with fail
                  refine IH.out.mono ?_
                  rintro e w2 ⟨r, rfl, hr0, hr1, hb2⟩
                  have hb3 := hbel.trans (hb2.mono (by omega))
                  go_wp2_with fail
                  go_roundw
                  case rel => exact ⟨i + 1, r, by omega, by go_num, rfl, hr0, hr1, hb3⟩
                  case measure => simp [intOf]; omega
                · have hm2 : m' < 0 := by omega
                  go_wp2_with fail
                  go_roundw
                  case rel => exact ⟨k + 1, m', by omega, by go_num, rfl, hm0', hm1', hbel⟩
                  case measure => simp [intOf]; omega
              · go_wp2_with fail
                go_roundw
                case rel => exact ⟨k + 1, m', by omega, by go_num, rfl, hm0', hm1', hbel⟩
                case measure => simp [intOf]; omega
          · have hm2 : m < 0 := by omega
            go_wp2_with fail
            go_ret
            exact ⟨m, rfl, hm0, hm1, hWb.trans (hbel.mono (by omega))⟩
        · go_wp2_with fail
          go_ret
          exact ⟨m, rfl, hm0, hm1, hWb.trans (hbel.mono (by omega))⟩

theorem fewArr_any (a : Arr) (vs : List Value) (w : World) (B : Nat) (h : IsArr w B a vs) (hB : B ≤ w.heap.size) :
    Calls Try.prog 29 #[.agg vs.toArray] w (SomeBool w) := by
  have HL := Lib.hid (fun (wx : World) (hx : Below w.heap.size w wx) => left_any _ a vs 12 4000 wx B (Nat.lt_succ_self _) (h.below (hx.mono hB)) (Nat.le_trans hB hx.size) (by omega) (by omega) (by omega) (by omega))
  obtain ⟨S, A, n, c, A', n', c', rfl⟩ := h.form
  clear h
  go_enter Try.func29, Try.ntmps29
  go_wp2_with fail
  refine (HL.out _ (by first | exact Below.refl _ _ | exact (Below.refl _ _).alloc (Nat.le_refl _) _)).mono ?_
  rintro e w2 ⟨r, rfl, hr0, hr1, hb2⟩
  go_wp2_with fail
  go_ret
  exact ⟨_, rfl, by first | exact hb2 | exact (((Below.refl _ _).alloc (Nat.le_refl _) _).trans (hb2.mono (by simp)))⟩
end Go.Proofs.Ytfiobbhicicchaa
