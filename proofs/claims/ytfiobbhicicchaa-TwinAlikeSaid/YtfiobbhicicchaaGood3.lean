/-
  Which arrays may be, by the reference: scrimref08.Cell, Right. (Printed by wip/bin/gen_good2.py.)
-/
import Derived.Test.YtfiobbhicicchaaGood2
import Derived.Test.YtfiobbhicicchaaSame3
namespace Go.Proofs.Ytfiobbhicicchaa
open Go.RowKit Ar
set_option maxHeartbeats 4000000
set_option maxRecDepth 100000
set_option linter.unusedVariables false

/-- What scrimref08.Right answers, for arrays of less than a size. -/
def RightOK (n : Nat) : Prop := ∀ (a : Arr) (vs : List Value) (d : Nat) (w : World) (B : Nat), SizeOf.sizeOf a < n → IsArr w B a vs → B ≤ w.heap.size → d ≤ 100 →
    Calls Try.prog 32 #[.agg vs.toArray, .int .i64 (d : Int)] w fun e w' => e = .returned (.bool (rightA d a)) ∧ Below w.heap.size w w'
theorem rightCel_0 {d L : Nat} {n : Bool} {t b : List Nat} {c : Int} {ins : List Arr} : rightCel d (.mk L 0 n t b c ins) = ((c == 0) && ins.isEmpty && Rt.right ⟨n, t, b⟩) := by rw [rightCel, if_pos rfl]
theorem rightCel_1 {d L : Nat} {n : Bool} {t b : List Nat} {c : Int} {ins : List Arr} : rightCel d (.mk L 1 n t b c ins) = (zeroB n t b && ins.isEmpty && mayB c) := by rw [rightCel, if_neg (by decide), if_pos rfl]
theorem rightCel_2 {d L : Nat} {n : Bool} {t b : List Nat} {c : Int} {ins : List Arr} : rightCel d (.mk L 2 n t b c ins) = (zeroB n t b && (c == 0) && decide (0 < d) && rightIns d ins) := by rw [rightCel, if_neg (by decide), if_neg (by decide)]; rfl
theorem rightCel_x {d L : Nat} {k : Int} {n : Bool} {t b : List Nat} {c : Int} {ins : List Arr} (h0 : k ≠ 0) (h1 : k ≠ 1) (h2 : (k == 2) = false) : rightCel d (.mk L k n t b c ins) = false := by rw [rightCel, if_neg h0, if_neg h1, h2]; rfl
theorem rightIns_len {d : Nat} {ins : List Arr} (h : ins.length ≠ 1) : rightIns d ins = false := by
  match ins with
  | [] => rw [rightIns]; rintro a h; cases h
  | [a] => exact absurd rfl h
  | a :: b :: r => rw [rightIns]; rintro a h; cases h
theorem rightIns_one {d : Nat} {ins : List Arr} (h : ins.length = 1) : rightIns d ins = (!simpleB (ins[0]'(by omega)) && rightA (d - 1) (ins[0]'(by omega))) := by
  match ins with
  | [] => cases h
  | [a] => rw [rightIns]; rfl
  | a :: b :: r => simp at h

theorem rightCell_any {n : Nat} (ih : RightOK n) (x : Cel) (vs : List Value) (d : Nat) (w : World) (B : Nat) (hx : SizeOf.sizeOf x < n) (h : IsCel w B x vs) (hB : B ≤ w.heap.size) (hd : d ≤ 100) :
    Calls Try.prog 41 #[.agg vs.toArray, .int .i64 (d : Int)] w fun e w' => e = .returned (.bool (rightCel d x)) ∧ Below w.heap.size w w' := by
  obtain ⟨L, kind, neg, top, bot, ch, ins⟩ := x
  rw [IsCel] at h
  obtain ⟨A1, c1, A2, c2, A3, c3, us, rfl, hL, hf1, hf2, hf3, hw1, hw2, hw3, hl1, hl2, hl3, hins, hnt, hnb⟩ := h
  obtain ⟨W, hW⟩ : ∃ W, W = w.alloc (.cells #[.int .u64 (L : Int), .int .i64 kind, .bool neg, .slice A1 top.length c1, .slice A2 bot.length c2, .int .i64 ch, .slice A3 ins.length c3] 60) := ⟨_, rfl⟩
  have hWs : W.heap.size = w.heap.size + 1 := by rw [hW]; simp
  have hWb : Below w.heap.size w W := by rw [hW]; exact (Below.refl _ _).alloc (Nat.le_refl _) _
  have HQ5 : Hid (W.cell? ⟨w.heap.size, 5, none⟩ = some (.int .i64 ch)) := Lib.hid (by rw [hW]; go_simp)
  have HQ6 : Hid (W.cell? ⟨w.heap.size, 6, none⟩ = some (.slice A3 ins.length c3)) := Lib.hid (by rw [hW]; go_simp)
  have HW := Lib.hid hW
  have hWl : w.heap.size < W.heap.size := by omega
  have m1 : top.length ≤ 35184372088832 := by have h1 := hf1.1; have h2 := hf1.2; omega
  have m2 : bot.length ≤ 35184372088832 := by have h1 := hf2.1; have h2 := hf2.2; omega
  have m3 : ins.length ≤ 35184372088832 := by have h1 := hf3.1; have h2 := hf3.2; omega
  have hch : -9223372036854775808 ≤ ch ∧ ch ≤ 9223372036854775807 := hw1 ch (by simp)
  have ZR := Lib.hid (refZero_any neg top bot A1 A2 c1 c2 W (by omega) (by omega))
  have MY := Lib.hid (fun (wx : World) => refMay6_any ch wx hch.1 hch.2)
  have RR := Lib.hid (rright_any neg A1 top c1 A2 bot c2 W ⟨A1, c1, rfl, hf1.1, hf1.2.2, hnt, (hl1.below (hWb.mono hB)).more (by omega)⟩ ⟨A2, c2, rfl, hf2.1, hf2.2.2, hnb, (hl2.below (hWb.mono hB)).more (by omega)⟩ hw2 hw3)
  have hsz0 : ∀ a ∈ ins, SizeOf.sizeOf a < n := fun a ha => by
    have h1 := List.sizeOf_lt_of_mem ha
    simp only [Cel.mk.sizeOf_spec] at hx
    omega
  have HS := Lib.hid hins
  have HL := Lib.hid hl3
  have HE0 := Lib.hid (fun h => empty_len (l := ins) h)
  have HE1 := Lib.hid (fun h => not_empty_len (l := ins) h)
  have R0 := Lib.hid (rightCel_0 (d := d) (L := L) (n := neg) (t := top) (b := bot) (c := ch) (ins := ins))
  have R1 := Lib.hid (rightCel_1 (d := d) (L := L) (n := neg) (t := top) (b := bot) (c := ch) (ins := ins))
  have R2 := Lib.hid (rightCel_2 (d := d) (L := L) (n := neg) (t := top) (b := bot) (c := ch) (ins := ins))
  have RX := Lib.hid (fun h0 h1 h2 => rightCel_x (d := d) (L := L) (k := kind) (n := neg) (t := top) (b := bot) (c := ch) (ins := ins) h0 h1 h2)
  have RI1 := Lib.hid (fun h => rightIns_len (d := d) (ins := ins) h)
  have RI2 := Lib.hid (fun h => rightIns_one (d := d) (ins := ins) h)
  clear hins hl1 hl2 hl3 hf1 hf2 hf3 hw1 hw2 hw3 hnt hnb hx hW hch
  generalize top.length = l1 at *
  generalize bot.length = l2 at *
  generalize Rt.right ⟨neg, top, bot⟩ = RT at *
  generalize zeroB neg top bot = Z at *
  generalize mayB ch = MB at *
  generalize ins.isEmpty = IE at *
  by_cases k0 : kind = 0
  · subst k0
    have HR := Lib.hid R0.out
    clear R0 R1 R2 RX RI1 RI2 ZR MY
    generalize rightCel d (.mk L 0 neg top bot ch ins) = R at *
    cases q1 : (ch == 0)
    · rw [q1] at HR
      go_enter Try.func41, Try.ntmps41
      go_wp2_with fail
      go_ret
      exact ⟨ret_bool (by rw [HR.out]; rfl), by rw [HW.out] at hWb; exact hWb⟩
    · rw [q1] at HR
      by_cases h0 : ins.length = 0
      · have q2 : ((ins.length : Int) == 0) = true := beq_iff_eq.2 (by omega)
        have HE := Lib.hid (HE0.out h0)
        clear h0 HE0 HE1
        generalize ins.length = l3 at *
        go_enter Try.func41, Try.ntmps41
        go_wp2_with fail
        rw [← HW.out]
        refine RR.out.mono ?_
        rintro e w2 ⟨rfl, hb2⟩
        go_wp2_with fail
        go_ret
        exact ⟨ret_bool (by rw [HR.out, HE.out]; simp), hWb.trans (hb2.mono (by omega))⟩
      · have q2 : ((ins.length : Int) == 0) = false := beq_eq_false_iff_ne.2 (by omega)
        have HE := Lib.hid (HE1.out h0)
        clear h0 HE0 HE1
        generalize ins.length = l3 at *
        go_enter Try.func41, Try.ntmps41
        go_wp2_with fail
        go_ret
        exact ⟨ret_bool (by rw [HR.out, HE.out]; simp), by rw [HW.out] at hWb; exact hWb⟩
  · by_cases k1 : kind = 1
    · subst k1
      have HR := Lib.hid R1.out
      clear R0 R1 R2 RX RI1 RI2 RR k0
      generalize rightCel d (.mk L 1 neg top bot ch ins) = R at *
      go_enter Try.func41, Try.ntmps41
      go_wp2_with fail
      rw [← HW.out]
      refine ZR.out.mono ?_
      rintro e w2 ⟨rfl, hb2⟩
      have r5 : w2.cell? ⟨w.heap.size, 5, none⟩ = some (.int .i64 ch) := (hb2.cell (p := ⟨w.heap.size, 5, none⟩) hWl).trans HQ5.out
      have r6 : w2.cell? ⟨w.heap.size, 6, none⟩ = some (.slice A3 ins.length c3) := (hb2.cell (p := ⟨w.heap.size, 6, none⟩) hWl).trans HQ6.out
      cases Z
      · go_wp2_with fail
        go_ret
        exact ⟨ret_bool (by rw [HR.out]; rfl), hWb.trans (hb2.mono (by omega))⟩
      · by_cases h0 : ins.length = 0
        · have q2 : ((ins.length : Int) == 0) = true := beq_iff_eq.2 (by omega)
          have HE := Lib.hid (HE0.out h0)
          clear h0 HE0 HE1
          generalize ins.length = l3 at *
          go_wp2_with fail
          refine (MY.out _).mono ?_
          rintro e w3 ⟨rfl, rfl⟩
          go_wp2_with fail
          go_ret
          exact ⟨ret_bool (by rw [HR.out, HE.out]; simp), hWb.trans (hb2.mono (by omega))⟩
        · have q2 : ((ins.length : Int) == 0) = false := beq_eq_false_iff_ne.2 (by omega)
          have HE := Lib.hid (HE1.out h0)
          clear h0 HE0 HE1
          generalize ins.length = l3 at *
          go_wp2_with fail
          go_ret
          exact ⟨ret_bool (by rw [HR.out, HE.out]; simp), hWb.trans (hb2.mono (by omega))⟩
    · have p0 : (kind == 0) = false := by simpa using k0
      have p1 : (kind == 1) = false := by simpa using k1
      cases p2 : (kind == 2)
      · have HR := Lib.hid (RX.out k0 k1 p2)
        clear R0 R1 R2 RX RI1 RI2 RR k0 k1
        generalize rightCel d (.mk L kind neg top bot ch ins) = R at *
        go_enter Try.func41, Try.ntmps41
        go_wp2_with fail
        go_ret
        exact ⟨ret_bool (by rw [HR.out]), by rw [HW.out] at hWb; exact hWb⟩
      · obtain rfl : kind = 2 := by simpa using p2
        have HR := Lib.hid R2.out
        clear R0 R1 R2 RX RR k0 k1 p0 p1 p2
        generalize rightCel d (.mk L 2 neg top bot ch ins) = R at *
        go_enter Try.func41, Try.ntmps41
        go_wp2_with fail
        rw [← HW.out]
        refine ZR.out.mono ?_
        rintro e w2 ⟨rfl, hb2⟩
        have r5 : w2.cell? ⟨w.heap.size, 5, none⟩ = some (.int .i64 ch) := (hb2.cell (p := ⟨w.heap.size, 5, none⟩) hWl).trans HQ5.out
        have r6 : w2.cell? ⟨w.heap.size, 6, none⟩ = some (.slice A3 ins.length c3) := (hb2.cell (p := ⟨w.heap.size, 6, none⟩) hWl).trans HQ6.out
        have hb3 := hWb.trans (hb2.mono (by omega))
        cases Z
        · go_wp2_with fail
          go_ret
          exact ⟨ret_bool (by rw [HR.out]; rfl), hb3⟩
        · cases q1 : (ch == 0)
          · rw [q1] at HR
            go_wp2_with fail
            go_ret
            exact ⟨ret_bool (by rw [HR.out]; rfl), hb3⟩
          · rw [q1] at HR
            by_cases h1 : ins.length = 1
            · have q2 : ((ins.length : Int) == 1) = true := beq_iff_eq.2 (by omega)
              obtain ⟨a0, ha0⟩ : ∃ a, a = ins[0]'(by omega) := ⟨_, rfl⟩
              have hi := RI2.out h1
              rw [← ha0] at hi
              have HI := Lib.hid hi
              clear hi
              by_cases h2 : 0 < d
              · have q3 : decide ((0 : Int) < (d : Int)) = true := decide_eq_true (by omega)
                have HD : Hid (decide (0 < d) = true) := Lib.hid (decide_eq_true h2)
                obtain ⟨b, off, S, X, xn, xc, Y, yn, yc, rfl, hb, HA, g0, g1, g2⟩ := arr_at (k := 0) HS.out HL.out (wr := w2) (fun p hp => hb3.cell (by omega)) (by omega)
                simp only [Nat.zero_mul, Nat.add_zero] at g0 g1 g2
                rw [← ha0] at HA
                have hsa : SizeOf.sizeOf a0 < n := by rw [ha0]; exact hsz0 _ (List.getElem_mem _)
                have SP := Lib.hid (refSimple_any a0 _ w2 B (HA.out.below (hb3.mono hB)) (by have := hb3.size; omega))
                have HG : Hid (w2.cell? ⟨b, off, none⟩ = some (.int .u64 (S : Int)) ∧ w2.cell? ⟨b, off + 1, none⟩ = some (.slice X xn xc) ∧ w2.cell? ⟨b, off + 2, none⟩ = some (.slice Y yn yc)) := Lib.hid ⟨g0, g1, g2⟩
                have hcl : (1 : Int) ≤ (ins.length : Int) := by omega
                have hbl : b < w2.heap.size := by have := hb3.size; omega
                have IH := Lib.hid (fun (wx : World) (hx : Below w2.heap.size w2 wx) => ih a0 _ (d - 1) wx B hsa (HA.out.below ((hb3.trans (hx.mono hb3.size)).mono hB)) (by have := hb3.size; have := hx.size; omega) (by omega))
                have hdd : ((d - 1 : Nat) : Int) = (d : Int) - 1 := by omega
                rw [hdd] at IH
                clear ha0
                clear hdd h1 RI1 RI2 HE0 HE1
                have q3' : decide (0 < d) = true := decide_eq_true h2
                generalize simpleB a0 = SB at *
                generalize rightA (d - 1) a0 = RA at *
                generalize rightIns d ins = RI at *
                generalize ins.length = l3 at *
                go_wp2_with fail
                refine SP.out.mono ?_
                rintro e w3 ⟨rfl, hb4⟩
                have r6' : w3.cell? ⟨w.heap.size, 6, none⟩ = some (.slice (some ⟨b, off, none⟩) l3 c3) := (hb4.cell (p := ⟨w.heap.size, 6, none⟩) (show w.heap.size < _ by have := hb2.size; omega)).trans r6
                have g0' : w3.cell? ⟨b, off, none⟩ = some (.int .u64 (S : Int)) := (hb4.cell (p := ⟨b, off, none⟩) hbl).trans HG.out.1
                have g1' : w3.cell? ⟨b, off + 1, none⟩ = some (.slice X xn xc) := (hb4.cell (p := ⟨b, off + 1, none⟩) hbl).trans HG.out.2.1
                have g2' : w3.cell? ⟨b, off + 2, none⟩ = some (.slice Y yn yc) := (hb4.cell (p := ⟨b, off + 2, none⟩) hbl).trans HG.out.2.2
                have hb5 := hb3.trans (hb4.mono hb3.size)
                clear r5 r6 g0 g1 g2
                cases SB
                · go_wp2_with fail
                  refine (IH.out _ hb4).mono ?_
                  rintro e w4 ⟨rfl, hb6⟩
                  go_wp2_with fail
                  go_ret
                  exact ⟨ret_bool (by rw [HR.out, HD.out, HI.out]; simp), hb5.trans (hb6.mono hb5.size)⟩
                · go_wp2_with fail
                  go_ret
                  exact ⟨ret_bool (by rw [HR.out, HD.out, HI.out]; simp), hb5⟩
              · have q3 : decide ((0 : Int) < (d : Int)) = false := decide_eq_false (by omega)
                have HD : Hid (decide (0 < d) = false) := Lib.hid (decide_eq_false h2)
                have q3' : decide (0 < d) = false := decide_eq_false h2
                clear ha0 HI
                clear h1 h2 RI1 RI2 HE0 HE1
                generalize ins.length = l3 at *
                go_wp2_with fail
                go_ret
                exact ⟨ret_bool (by rw [HR.out, HD.out]; simp), hb3⟩
            · have q2 : ((ins.length : Int) == 1) = false := beq_eq_false_iff_ne.2 (by omega)
              have HI := Lib.hid (RI1.out h1)
              clear h1 RI1 RI2 HE0 HE1
              generalize ins.length = l3 at *
              go_wp2_with fail
              go_ret
              exact ⟨ret_bool (by rw [HR.out, HI.out]; simp), hb3⟩

theorem rightA_mk {d S : Nat} {sh : List Int} {cells : List Cel} : rightA d (.mk S sh cells) = (((cnt sh).2 == 0) && ((cnt sh).1 == (cells.length : Int)) && rightCels d cells) := by rw [rightA]
theorem right_step {n : Nat} (ih : RightOK n) : RightOK (n + 1) := by
  intro a vs d w B hx h hB hd
  obtain ⟨S, shape, cells⟩ := a
  rw [IsArr] at h
  obtain ⟨A, c, A', c', us, rfl, hS, hf, hf', hw, hl, hl', hcs⟩ := h
  obtain ⟨W, hW⟩ : ∃ W, W = w.alloc (.cells #[.int .u64 (S : Int), .slice A shape.length c, .slice A' cells.length c'] 42) := ⟨_, rfl⟩
  have hWs : W.heap.size = w.heap.size + 1 := by rw [hW]; simp
  have hWb : Below w.heap.size w W := by rw [hW]; exact (Below.refl _ _).alloc (Nat.le_refl _) _
  have HQ2 : Hid (W.cell? ⟨w.heap.size, 2, none⟩ = some (.slice A' cells.length c')) := Lib.hid (by rw [hW]; go_simp)
  have HW := Lib.hid hW
  have hWl : w.heap.size < W.heap.size := by omega
  have CT := Lib.hid (refCount_any shape A c W B (hl.below (hWb.mono hB)) (by have h1 := hf.1; have h2 := hf.2; omega))
  have HR := Lib.hid (rightA_mk (d := d) (S := S) (sh := shape) (cells := cells))
  have hbd := cnt_bd shape
  have hfl := (hf'.le (by omega))
  have hsz0 : ∀ a ∈ cells, SizeOf.sizeOf a < n := fun a ha => by
    have h1 := List.sizeOf_lt_of_mem ha
    simp only [Arr.mk.sizeOf_spec] at hx
    omega
  have HC := Lib.hid hcs
  have HL := Lib.hid hl'
  have CE := Lib.hid (fun (k : Nat) (hk : k < cells.length) (u : List Value) (wx : World) (hu : IsCel wx B cells[k] u) (hbx : B ≤ wx.heap.size) => rightCell_any ih cells[k] u d wx B (hsz0 _ (List.getElem_mem hk)) hu hbx hd)
  clear hcs hl' hl hf hf' hw hsz0 hx hW
  generalize rightA d (.mk S shape cells) = R at *
  generalize (cnt shape).1 = N at *
  generalize (cnt shape).2 = E at *
  generalize shape.length = l1 at *
  have go1 : ∀ (x : Bool), (E == 0) = x → True := fun _ _ => trivial
  clear go1
  cases q1 : (E == 0)
  · rw [q1] at HR
    have q2 : (E != 0) = true := by simpa using q1
    go_enter Try.func32, Try.ntmps32
    go_wp2_with fail
    rw [← HW.out]
    refine CT.out.mono ?_
    rintro e w2 ⟨rfl, hb2⟩
    go_wp2_with fail
    go_ret
    exact ⟨ret_bool (by rw [HR.out]; rfl), hWb.trans (hb2.mono (by omega))⟩
  · rw [q1] at HR
    have q2 : (E != 0) = false := by simpa using q1
    by_cases hN : N = (cells.length : Int)
    · subst hN
      have q3 : ((cells.length : Int) != (cells.length : Int)) = false := by simp
      have HR2 : Hid (R = rightCels d cells) := Lib.hid (by rw [HR.out]; simp)
      clear HR
      go_enter Try.func32, Try.ntmps32
      go_wp2_with fail
      rw [← HW.out]
      refine CT.out.mono ?_
      rintro e w2 ⟨rfl, hb2⟩
      have r2 : w2.cell? ⟨w.heap.size, 2, none⟩ = some (.slice A' cells.length c') := (hb2.cell (p := ⟨w.heap.size, 2, none⟩) hWl).trans HQ2.out
      go_wp2_with fail
      clear r2
      go_loopw [7] (fun i wr => ∃ k : Nat, k ≤ cells.length ∧ i = .int .i64 k ∧ Hid (rightCels d (cells.drop k) = rightCels d cells) ∧ Below W.heap.size W wr) (fun i _ => cells.length - (intOf i).toNat)
      case atStart => exact ⟨0, Nat.zero_le _, rfl, Lib.hid rfl, hb2⟩
      case round =>
        clear hb2
        obtain ⟨k, hk, rfl, HT, hbel⟩ := hrel
        have hsz := hbel.size
        have hb0 := hWb.trans (hbel.mono (by omega))
        by_cases hlt : k < cells.length
        · have r2 : wr.cell? ⟨w.heap.size, 2, none⟩ = some (.slice A' cells.length c') := (hbel.cell (p := ⟨w.heap.size, 2, none⟩) hWl).trans HQ2.out
          obtain ⟨b, off, L, kind, neg, top, bot, ch, ins, A1, c1, A2, c2, A3, c3, us3, rfl, hb, hL, HX, t1, t2, t3, t4, t5, t6, g0, g1, g2, g3, g4, g5, g6⟩ := cel_at HC.out HL.out (wr := wr) (fun p hp => hb0.cell (by omega)) hlt
          have CK := Lib.hid (CE.out k hlt _ wr ((HX.out.is hL).below (hb0.mono hB)) (by omega))
          have HST := Lib.hid (rightCels_drop (d := d) hlt)
          generalize rightCel d cells[k] = RC at *
          have hk0 : (0 : Int) ≤ (k : Int) := by omega
          have hk1 : (k : Int) < (cells.length : Int) := by omega
          go_wp2_with fail
          refine CK.out.mono ?_
          rintro e w3 ⟨rfl, hb3⟩
          have hb4 := hbel.trans (hb3.mono hsz)
          clear r2 g0 g1 g2 g3 g4 g5 g6
          cases RC
          · have HZ : Hid (R = false) := Lib.hid (by rw [HR2.out, ← HT.out, HST.out]; rfl)
            go_wp2_with fail
            go_ret
            exact ⟨ret_bool (by rw [HZ.out]), hWb.trans (hb4.mono (by omega))⟩
          · have HZ : Hid (rightCels d (cells.drop (k + 1)) = rightCels d cells) := Lib.hid (by rw [← HT.out, HST.out]; rfl)
            go_wp2_with fail
            go_roundw
            case rel => exact ⟨k + 1, by omega, by go_num, HZ, hb4⟩
            case measure => simp [intOf]; omega
        · have HZ : Hid (R = true) := Lib.hid (by rw [HR2.out, ← HT.out]; exact rightCels_end (by omega))
          go_wp2_with fail
          go_ret
          exact ⟨ret_bool (by rw [HZ.out]), hb0⟩
    · have q3 : (N != (cells.length : Int)) = true := by simpa using hN
      have HR2 : Hid (R = false) := Lib.hid (by rw [HR.out, show (N == (cells.length : Int)) = false by simpa using hN]; rfl)
      clear hN HR
      go_enter Try.func32, Try.ntmps32
      go_wp2_with fail
      rw [← HW.out]
      refine CT.out.mono ?_
      rintro e w2 ⟨rfl, hb2⟩
      have r2 : w2.cell? ⟨w.heap.size, 2, none⟩ = some (.slice A' cells.length c') := (hb2.cell (p := ⟨w.heap.size, 2, none⟩) hWl).trans HQ2.out
      go_wp2_with fail
      go_ret
      exact ⟨ret_bool (by rw [HR2.out]), hWb.trans (hb2.mono (by omega))⟩
theorem refRight_any : ∀ n, RightOK n
  | 0 => fun a vs d w B h => by omega
  | n + 1 => right_step (refRight_any n)
end Go.Proofs.Ytfiobbhicicchaa
