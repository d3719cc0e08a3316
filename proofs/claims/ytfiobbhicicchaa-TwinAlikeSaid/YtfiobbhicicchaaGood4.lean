/-
  The reference's thin: some answer; Good: some answer, and if it is yes, the array may be; flows.Few of a configuration: some answer.
-/
import Derived.Test.YtfiobbhicicchaaGood3
import Derived.Test.YtfiobbhicicchaaRec
namespace Go.Proofs.Ytfiobbhicicchaa
open Go.RowKit Ar
set_option maxHeartbeats 2000000
set_option maxRecDepth 100000
set_option linter.unusedVariables false

theorem thin_any (n : Nat) : ∀ (a : Arr) (vs : List Value) (w : World) (B : Nat), SizeOf.sizeOf a < n → IsArr w B a vs → B ≤ w.heap.size →
    Calls Try.prog 33 #[.agg vs.toArray] w (SomeBool w) := by
  induction n with
  | zero => intro a vs w B h; omega
  | succ n ih =>
    intro a vs w B hn h hB
    obtain ⟨S, shape, cells⟩ := a
    rw [IsArr] at h
    obtain ⟨A, c, A', c', us, rfl, hS, hf, hf', hw, hl, hl', hcs⟩ := h
    have HC := Lib.hid hcs
    have HL := Lib.hid hl'
    have HLS := Lib.hid hl
    have hfl := (hf'.le (by omega))
    have hfs : shape.length ≤ 17592186044416 := by have h1 := hf.1; have h2 := hf.2; omega
    have hn' : SizeOf.sizeOf (Arr.mk S shape cells) ≤ n := by omega
    have HN := Lib.hid hn'
    clear hcs hl' hl hf hf' hw hn hn'
    obtain ⟨W, hW⟩ : ∃ W, W = w.alloc (.cells #[.int .u64 (S : Int), .slice A shape.length c, .slice A' cells.length c'] 42) := ⟨_, rfl⟩
    have hWs : W.heap.size = w.heap.size + 1 := by rw [hW]; simp
    have hWb : Below w.heap.size w W := by rw [hW]; exact (Below.refl _ _).alloc (Nat.le_refl _) _
    have HW := Lib.hid hW
    have HWs := Lib.hid hWs
    have HQ1 : Hid (W.cell? ⟨w.heap.size, 1, none⟩ = some (.slice A shape.length c)) := Lib.hid (by rw [hW]; go_simp)
    have HQ2 : Hid (W.cell? ⟨w.heap.size, 2, none⟩ = some (.slice A' cells.length c')) := Lib.hid (by rw [hW]; go_simp)
    have hWl : w.heap.size < W.heap.size := by omega
    clear hW hWs
    go_enter Try.func33, Try.ntmps33
    go_wp2_with fail
    rw [← HW.out]
    go_loopw [3, 4] (fun n i wr => ∃ (k : Nat) (m : Int), k ≤ shape.length ∧ i = .int .i64 k ∧ n = .int .i64 m ∧ Below W.heap.size W wr) (fun _ i _ => shape.length - (intOf i).toNat)
    case atStart => exact ⟨0, 1, Nat.zero_le _, rfl, rfl, Below.refl _ _⟩
    case round =>
      obtain ⟨k, m, hk, rfl, rfl, hbel⟩ := hrel
      have hbox : wr.cell? ⟨w.heap.size, 1, none⟩ = some (.slice A shape.length c) := (hbel.cell (p := ⟨w.heap.size, 1, none⟩) hWl).trans HQ1.out
      by_cases hgo : k < shape.length ∧ m ≤ 100000
      · obtain ⟨hlt, hm⟩ := hgo
        obtain ⟨b, off, rfl, hb, g0⟩ := lies_i64 HLS.out hlt
        have g1 : wr.cell? ⟨b, off + k, none⟩ = some (.int .i64 shape[k]) := ((hbel.cell (p := ⟨b, off + k, none⟩) (show b < W.heap.size by omega)).trans (hWb.cell (p := ⟨b, off + k, none⟩) (show b < w.heap.size by omega))).trans g0
        clear g0
        generalize shape[k] = x at *
        have hk0 : (0 : Int) ≤ (k : Int) := by omega
        have hk1 : (k : Int) < (shape.length : Int) := by omega
        by_cases hx : 0 < x
        all_goals
          go_wp2_with fail
          go_roundw
          case rel => exact ⟨k + 1, _, by omega, by go_num, rfl, hbel⟩
          case measure => simp [intOf]; omega
      · by_cases hm : 100000 < m
        · by_cases hlt : k < shape.length
          all_goals
            clear hgo
            go_wp2_with fail
            go_ret
            exact ⟨false, rfl, hWb.trans (hbel.mono (by omega))⟩
        · have hlt : ¬ k < shape.length := fun h => hgo ⟨h, by omega⟩
          clear hgo
          go_wp2_with fail
          clear hbox
          go_loopw [5] (fun i wr => ∃ k : Nat, k ≤ cells.length ∧ i = .int .i64 k ∧ Below W.heap.size W wr) (fun i _ => cells.length - (intOf i).toNat)
          case atStart => exact ⟨0, Nat.zero_le _, rfl, hbel⟩
          case round =>
            clear hbel hlt
            obtain ⟨k, hk, rfl, hbel⟩ := hrel
            have hbox : wr.cell? ⟨w.heap.size, 2, none⟩ = some (.slice A' cells.length c') := (hbel.cell (p := ⟨w.heap.size, 2, none⟩) hWl).trans HQ2.out
            by_cases hlt : k < cells.length
            · obtain ⟨b, off, L, kind, neg, top, bot, ch, ins, A1, c1, A2, c2, A3, c3, us3, rfl, hb, hL, HX, t1, t2, t3, t4, t5, t6, g0, g1, g2, g3, g4, g5, g6⟩ := cel_at HC.out HL.out (wr := wr) (fun p hp => (hbel.cell (by omega)).trans (hWb.cell (by omega))) hlt
              have HG6 := Lib.hid ((hbel.cell (p := ⟨b, off + k * 7 + 6, none⟩) (show b < W.heap.size by omega)).symm.trans g6)
              clear g0 g1 g2 g3 g4 g5 g6
              have hk0 : (0 : Int) ≤ (k : Int) := by omega
              have hk1 : (k : Int) < (cells.length : Int) := by omega
              go_wp2_with fail
              clear hbox
              go_loopw [6] (fun j wr => ∃ i : Nat, i ≤ ins.length ∧ j = .int .i64 i ∧ Below W.heap.size W wr) (fun j _ => ins.length - (intOf j).toNat)
              case atStart => exact ⟨0, Nat.zero_le _, rfl, hbel⟩
              case round =>
                clear hbel
                obtain ⟨i, hi, rfl, hbel⟩ := hrel
                have hsz := hbel.size
                have hbox : wr.cell? ⟨w.heap.size, 2, none⟩ = some (.slice (some ⟨b, off, none⟩) cells.length c') := (hbel.cell (p := ⟨w.heap.size, 2, none⟩) hWl).trans HQ2.out
                have g6 : wr.cell? ⟨b, off + k * 7 + 6, none⟩ = some (.slice A3 ins.length c3) := (hbel.cell (p := ⟨b, off + k * 7 + 6, none⟩) (show b < W.heap.size by omega)).trans HG6.out
                by_cases hlt' : i < ins.length
                · obtain ⟨b', off', S', X, xn, xc, X', xn', xc', rfl, hb', HA, e0, e1, e2⟩ := arr_at HX.out.arrs HX.out.li (wr := wr) (fun p hp => (hbel.cell (by omega)).trans (hWb.cell (by omega))) hlt'
                  have IH := Lib.hid (ih ins[i] [.int .u64 (S' : Int), .slice X xn xc, .slice X' xn' xc'] wr B (by have := size_ins (S := S) (shape := shape) hlt HX.out.eq hlt'; have := HN.out; omega) (HA.out.below ((hWb.mono (by omega)).trans (hbel.mono (by omega)))) (by omega))
                  go_wp2_with fail
                  refine IH.out.mono ?_
                  rintro e w2 ⟨r, rfl, hb2⟩
                  have hb3 := hbel.trans (hb2.mono (by omega))
                  cases r
                  · go_wp2_with fail
                    go_ret
                    exact ⟨false, rfl, hWb.trans (hb3.mono (by omega))⟩
                  · go_wp2_with fail
                    go_roundw
                    case rel => exact ⟨i + 1, by omega, by go_num, hb3⟩
                    case measure => simp [intOf]; omega
                · go_wp2_with fail
                  go_roundw
                  case rel => exact ⟨k + 1, by omega, by go_num, hbel⟩
                  case measure => simp [intOf]; omega
            · go_wp2_with fail
              go_ret
              exact ⟨true, rfl, hWb.trans (hbel.mono (by omega))⟩

/-- Some answer; if it is yes, the array may be. -/
def GoodOut (w : World) (a : Arr) (e : Ending) (w' : World) : Prop := ∃ r : Bool, e = .returned (.bool r) ∧ (r = true → rightA 8 a = true) ∧ Below w.heap.size w w'
theorem arr3_info : (Try.prog.info? 42).map (·.size) = some 3 := by kernel_rfl

theorem good_any (a : Arr) (vs : List Value) (w : World) (B : Nat) (h : IsArr w B a vs) (hB : B ≤ w.heap.size) :
    Calls Try.prog 17 #[.agg vs.toArray] w (GoodOut w a) := by
  have F := Lib.hid (fun (wx : World) (hx : Below w.heap.size w wx) => fewArr_any a vs wx B (h.below (hx.mono hB)) (Nat.le_trans hB hx.size))
  have RG := Lib.hid (fun (wx : World) (hx : Below w.heap.size w wx) => refRight_any _ a vs 8 wx B (Nat.lt_succ_self _) (h.below (hx.mono hB)) (Nat.le_trans hB hx.size) (by omega))
  have TH := Lib.hid (fun (wx : World) (hx : Below w.heap.size w wx) => thin_any _ a vs wx B (Nat.lt_succ_self _) (h.below (hx.mono hB)) (Nat.le_trans hB hx.size))
  obtain ⟨S, A, n, c, A', n', c', rfl⟩ := h.form
  clear h
  obtain ⟨RR, hRR⟩ : ∃ r, r = rightA 8 a := ⟨_, rfl⟩
  rw [← hRR] at RG
  have HRR := Lib.hid hRR
  clear hRR
  have hW0 : ∀ o, Below w.heap.size w (w.alloc o) := fun o => (Below.refl _ _).alloc (Nat.le_refl _) _
  obtain ⟨W, hW⟩ : ∃ W, W = w.alloc (.cells #[.int .u64 (S : Int), .slice A n c, .slice A' n' c'] 42) := ⟨_, rfl⟩
  have hWb : Below w.heap.size w W := by rw [hW]; exact hW0 _
  have HB0 : Hid (W.heap[w.heap.size]? = some (.cells #[.int .u64 (S : Int), .slice A n c, .slice A' n' c'] 42 (0, 0))) := Lib.hid (by rw [hW]; exact heap_alloc_new _ _)
  have hWl : w.heap.size < W.heap.size := by rw [hW]; simp
  have HW := Lib.hid hW
  clear hW hW0
  have HQ : Hid (∀ wx, Below W.heap.size W wx → wx.cell? ⟨w.heap.size, 0, none⟩ = some (.int .u64 (S : Int)) ∧ wx.cell? ⟨w.heap.size, 1, none⟩ = some (.slice A n c) ∧ wx.cell? ⟨w.heap.size, 2, none⟩ = some (.slice A' n' c')) := Lib.hid (fun wx hx => by
    have hb := (hx.block w.heap.size hWl).trans HB0.out
    exact ⟨(cell_of_row wx w.heap.size 0 _ _ _ hb).trans rfl, (cell_of_row wx w.heap.size 1 _ _ _ hb).trans rfl, (cell_of_row wx w.heap.size 2 _ _ _ hb).trans rfl⟩)
  go_enter Try.func17, Try.ntmps17
  go_wp2_with fail
  rw [← HW.out]
  refine (F.out _ hWb).mono ?_
  rintro e w2 ⟨r, rfl, hb2⟩
  have hb3 := hWb.trans (hb2.mono hWb.size)
  cases r
  · go_wp2_with fail
    go_ret
    exact ⟨false, rfl, nofun, hb3⟩
  · obtain ⟨p0, p1, p2⟩ := HQ.out w2 hb2
    go_wp2_with fail
    refine (RG.out _ hb3).mono ?_
    rintro e w4 ⟨rfl, hb4⟩
    have hb5 := hb3.trans (hb4.mono hb3.size)
    have hb6 := hb2.trans (hb4.mono hb2.size)
    clear p0 p1 p2
    cases RR
    · go_wp2_with fail
      go_ret
      exact ⟨false, rfl, nofun, hb5⟩
    · obtain ⟨p0, p1, p2⟩ := HQ.out w4 hb6
      go_wp2_with fail
      refine (TH.out _ hb5).mono ?_
      rintro e w6 ⟨r, rfl, hb7⟩
      go_wp2_with fail
      go_ret
      exact ⟨r, rfl, fun _ => HRR.out.symm, hb5.trans (hb7.mono hb5.size)⟩

theorem fewCfg_any (cf : Cfg) (C : Array Value) (w : World) (B : Nat) (hC : IsCfg w B cf C) (hB : B ≤ w.heap.size) :
    Calls Try.prog 6 #[.agg C] w (SomeBool w) := by
  obtain ⟨W, hW⟩ : ∃ W, W = w.alloc (.cells C 29) := ⟨_, rfl⟩
  have hWs : W.heap.size = w.heap.size + 1 := by rw [hW]; simp
  have hWb : Below w.heap.size w W := by rw [hW]; exact (Below.refl _ _).alloc (Nat.le_refl _) _
  have HB0 : Hid (W.heap[w.heap.size]? = some (.cells C 29 (0, 0))) := Lib.hid (by rw [hW]; exact heap_alloc_new _ _)
  have hWl : w.heap.size < W.heap.size := by omega
  have HW := Lib.hid hW
  have HC := Lib.hid hC
  clear hW hWs hC
  go_enter Try.func6, Try.ntmps6
  go_wp2_with fail
  rw [← HW.out]
  go_loopw [3] (fun i wr => ∃ k : Nat, k ≤ 8 ∧ i = .int .i64 k ∧ Below W.heap.size W wr) (fun i _ => 8 - (intOf i).toNat)
  case atStart => exact ⟨0, Nat.zero_le _, rfl, Below.refl _ _⟩
  case round =>
    obtain ⟨k, hk, rfl, hbel⟩ := hrel
    by_cases hlt : k < 8
    · obtain ⟨A1, cp1, us1, i1, i2, i3, i4⟩ := HC.out.ins k hlt
      obtain ⟨A3, cp3, d1, d2, d3, d4⟩ := HC.out.draws k hlt
      have hb0 := (hbel.block w.heap.size hWl).trans HB0.out
      have q1 : wr.cell? ⟨w.heap.size, 8 + k, none⟩ = some (.slice A1 (cf.ins k).length cp1) := (cell_of_row wr w.heap.size (8 + k) _ _ _ hb0).trans i1
      have q2 : wr.cell? ⟨w.heap.size, 24 + k, none⟩ = some (.slice A3 (cf.draws k).length cp3) := (cell_of_row wr w.heap.size (24 + k) _ _ _ hb0).trans d1
      have HI1 := Lib.hid i1
      have HIS := Lib.hid i4
      have HIL := Lib.hid i3
      have k1 : (cf.ins k).length ≤ 35184372088832 := by have h1 := i2.1; have h2 := i2.2; omega
      have k2 : (cf.draws k).length ≤ 35184372088832 := by have h1 := d2.1; have h2 := d2.2; omega
      clear i1 i2 i3 i4 d1 d2 d3 d4 hb0
      generalize cf.ins k = l at *
      generalize (cf.draws k).length = z2 at *
      have hk0 : (0 : Int) ≤ (k : Int) := by omega
      have hk8 : (k : Int) < 8 := by omega
      by_cases h20 : 20 < l.length
      · have e1 : decide ((20 : Int) < (l.length : Int)) = true := decide_eq_true (by omega)
        go_wp2_with fail
        go_ret
        exact ⟨false, rfl, hWb.trans (hbel.mono (by omega))⟩
      · have e1 : decide ((20 : Int) < (l.length : Int)) = false := decide_eq_false (by omega)
        by_cases h60 : 60 < z2
        · have e2 : decide ((60 : Int) < (z2 : Int)) = true := decide_eq_true (by omega)
          go_wp2_with fail
          go_ret
          exact ⟨false, rfl, hWb.trans (hbel.mono (by omega))⟩
        · have e2 : decide ((60 : Int) < (z2 : Int)) = false := decide_eq_false (by omega)
          go_wp2_with fail
          clear q1 q2 e1 e2
          go_loopw [4] (fun j wr => ∃ i : Nat, i ≤ l.length ∧ j = .int .i64 i ∧ Below W.heap.size W wr) (fun j _ => l.length - (intOf j).toNat)
          case atStart => exact ⟨0, Nat.zero_le _, rfl, hbel⟩
          case round =>
            clear hbel
            obtain ⟨i, hi, rfl, hbel⟩ := hrel
            have hsz := hbel.size
            have q1 : wr.cell? ⟨w.heap.size, 8 + k, none⟩ = some (.slice A1 l.length cp1) := (cell_of_row wr w.heap.size (8 + k) _ _ _ ((hbel.block w.heap.size hWl).trans HB0.out)).trans HI1.out
            by_cases hlt' : i < l.length
            · obtain ⟨b', off', S', X, xn, xc, X', xn', xc', rfl, hb', HA, e0, e1, e2⟩ := arr_at HIS.out HIL.out (wr := wr) (fun p hp => (hbel.cell (by omega)).trans (hWb.cell (by omega))) hlt'
              have GD := Lib.hid (good_any l[i] _ wr B (HA.out.below ((hWb.mono (by omega)).trans (hbel.mono (by omega)))) (by omega))
              have hi0 : (0 : Int) ≤ (i : Int) := by omega
              have hi1 : (i : Int) < (l.length : Int) := by omega
              go_wp2_with fail
              refine GD.out.mono ?_
              rintro e w2 ⟨r, rfl, -, hb2⟩
              have hb3 := hbel.trans (hb2.mono (by omega))
              cases r
              · go_wp2_with fail
                go_ret
                exact ⟨false, rfl, hWb.trans (hb3.mono (by omega))⟩
              · go_wp2_with fail
                go_roundw
                case rel => exact ⟨i + 1, by omega, by go_num, hb3⟩
                case measure => simp [intOf]; omega
            · go_wp2_with fail
              go_roundw
              case rel => exact ⟨k + 1, by omega, by go_num, hbel⟩
              case measure => simp [intOf]; omega
    · go_wp2_with fail
      go_ret
      exact ⟨true, rfl, hWb.trans (hbel.mono (by omega))⟩
end Go.Proofs.Ytfiobbhicicchaa
