/-
  Arrays compared by the reference: scrimref08.Same, SameCell. (Printed by wip/bin/gen_same5.py.)
-/
import Derived.Test.YtfiobbhicicchaaSame4
import Derived.Test.YtfiobbhicicchaaInClass
namespace Go.Proofs.Ytfiobbhicicchaa
open Go.RowKit Ar
set_option maxHeartbeats 4000000
set_option maxRecDepth 100000
set_option linter.unusedVariables false

/-- What scrimref08.Same answers, for arrays of less than a size. -/
def RefOK (n : Nat) : Prop := ∀ (a b : Arr) (vs vs' : List Value) (w : World) (B : Nat), SizeOf.sizeOf a < n → IsArr w B a vs → IsArr w B b vs' → B ≤ w.heap.size →
    Calls Try.prog 19 #[.agg vs.toArray, .agg vs'.toArray] w fun e w' => e = .returned (.bool (same true a b)) ∧ Below w.heap.size w w'

theorem refCell_any {n : Nat} (ih : RefOK n) (x y : Cel) (vs vs' : List Value) (w : World) (B : Nat) (hx : SizeOf.sizeOf x < n) (h : IsCel w B x vs) (h' : IsCel w B y vs') (hB : B ≤ w.heap.size) :
    Calls Try.prog 34 #[.agg vs.toArray, .agg vs'.toArray] w fun e w' => e = .returned (.bool (sameCel true x y)) ∧ Below w.heap.size w w' := by
  obtain ⟨L, kind, neg, top, bot, ch, ins⟩ := x
  obtain ⟨L', kind', neg', top', bot', ch', ins'⟩ := y
  rw [IsCel] at h h'
  obtain ⟨A1, c1, A2, c2, A3, c3, us, rfl, hL, hf1, hf2, hf3, hw1, hw2, hw3, hl1, hl2, hl3, hins, _⟩ := h
  obtain ⟨A1', c1', A2', c2', A3', c3', us', rfl, hL', hf1', hf2', hf3', hw1', hw2', hw3', hl1', hl2', hl3', hins', _⟩ := h'
  have HR := Lib.hid (sameCel_mk true L L' kind kind' neg neg' top top' bot bot' ch ch' ins ins')
  obtain ⟨W, hW⟩ : ∃ W, W = (w.alloc (.cells #[.int .u64 (L : Int), .int .i64 kind, .bool neg, .slice A1 top.length c1, .slice A2 bot.length c2, .int .i64 ch, .slice A3 ins.length c3] 60)).alloc (.cells #[.int .u64 (L' : Int), .int .i64 kind', .bool neg', .slice A1' top'.length c1', .slice A2' bot'.length c2', .int .i64 ch', .slice A3' ins'.length c3'] 60) := ⟨_, rfl⟩
  have hWs : W.heap.size = w.heap.size + 1 + 1 := by rw [hW]; simp
  have hWb : Below w.heap.size w W := by rw [hW]; exact ((Below.refl _ _).alloc (Nat.le_refl _) _).alloc (by simp) _
  have HQ : Hid (W.cell? ⟨w.heap.size, 6, none⟩ = some (.slice A3 ins.length c3) ∧ W.cell? ⟨w.heap.size + 1, 6, none⟩ = some (.slice A3' ins'.length c3')) := Lib.hid (by rw [hW]; exact ⟨by go_simp, by go_simp⟩)
  have HW := Lib.hid hW
  have E1 := Lib.hid (refRatioSame_any neg neg' top top' bot bot' A1 A2 A1' A2' c1 c2 c1' c2' W B (hl1.below (hWb.mono hB)) (hl1'.below (hWb.mono hB)) (hl2.below (hWb.mono hB)) (hl2'.below (hWb.mono hB)) (by omega) (by have h1 := hf1.1; have h2 := hf1.2; omega) (by have h1 := hf1'.1; have h2 := hf1'.2; omega) (by have h1 := hf2.1; have h2 := hf2.2; omega) (by have h1 := hf2'.1; have h2 := hf2'.2; omega))
  have hsz0 : ∀ a ∈ ins, SizeOf.sizeOf a < n := fun a ha => by
    have h1 := List.sizeOf_lt_of_mem ha
    simp only [Cel.mk.sizeOf_spec] at hx
    omega
  have HS := Lib.hid hins
  have HS' := Lib.hid hins'
  have HL := Lib.hid hl3
  have HL' := Lib.hid hl3'
  have m1 : ins.length ≤ 35184372088832 := by have h1 := hf3.1; have h2 := hf3.2; omega
  have m2 : ins'.length ≤ 35184372088832 := by have h1 := hf3'.1; have h2 := hf3'.2; omega
  clear hins hins' hl1 hl1' hl2 hl2' hl3 hl3' hf1 hf1' hf2 hf2' hf3 hf3' hw1 hw1' hw2 hw2' hw3 hw3' hx hW
  generalize sameCel true (.mk L kind neg top bot ch ins) (.mk L' kind' neg' top' bot' ch' ins') = R at *
  generalize sameNum neg neg' top top' bot bot' = P at *
  generalize top.length = l1 at *
  generalize bot.length = l2 at *
  generalize top'.length = l1' at *
  generalize bot'.length = l2' at *
  by_cases hLL : L = L'
  · subst hLL
    have q0 : ((L : Int) != (L : Int)) = false := by simp
    by_cases hk : kind = kind'
    · subst hk
      have q1 : (kind != kind) = false := by simp
      by_cases hch : ch = ch'
      · subst hch
        have q2 : (ch != ch) = false := by simp
        go_enter Try.func34, Try.ntmps34
        go_wp2_with fail
        rw [← HW.out]
        refine E1.out.mono ?_
        rintro e w2 ⟨rfl, hb2⟩
        have hb3 := hWb.trans (hb2.mono (by omega))
        have r1 : w2.cell? ⟨w.heap.size, 6, none⟩ = some (.slice A3 ins.length c3) := (hb2.cell (p := ⟨w.heap.size, 6, none⟩) (show w.heap.size < _ by omega)).trans HQ.out.1
        have r2 : w2.cell? ⟨w.heap.size + 1, 6, none⟩ = some (.slice A3' ins'.length c3') := (hb2.cell (p := ⟨w.heap.size + 1, 6, none⟩) (show w.heap.size + 1 < _ by omega)).trans HQ.out.2
        cases P
        · go_wp2_with fail
          go_ret
          exact ⟨ret_bool (by rw [HR.out]; simp), hb3⟩
        · by_cases hne : ins.length = ins'.length
          · have hd : ((ins.length : Int) != (ins'.length : Int)) = false := by simp; omega
            have hln : ins.length ≤ ins'.length := by omega
            have HN := Lib.hid hne
            clear hne
            go_wp2_with fail
            clear r1 r2 hd hb3
            have hWl : w.heap.size + 1 < W.heap.size := by omega
            go_loopw [5] (fun i wr => ∃ k : Nat, k ≤ ins.length ∧ i = .int .i64 k ∧ Hid (sameArrs true (ins.drop k) (ins'.drop k) = sameArrs true ins ins') ∧ Below W.heap.size W wr) (fun i _ => ins.length - (intOf i).toNat)
            case atStart => exact ⟨0, Nat.zero_le _, rfl, Lib.hid rfl, hb2⟩
            case round =>
              clear hb2
              obtain ⟨k, hk, rfl, HT, hbel⟩ := hrel
              have hsz := hbel.size
              have hb0 := hWb.trans (hbel.mono (by omega))
              have r1 : wr.cell? ⟨w.heap.size, 6, none⟩ = some (.slice A3 ins.length c3) := (hbel.cell (p := ⟨w.heap.size, 6, none⟩) (show w.heap.size < _ by omega)).trans HQ.out.1
              have r2 : wr.cell? ⟨w.heap.size + 1, 6, none⟩ = some (.slice A3' ins'.length c3') := (hbel.cell (p := ⟨w.heap.size + 1, 6, none⟩) hWl).trans HQ.out.2
              by_cases hlt : k < ins.length
              · have hlt' : k < ins'.length := by omega
                obtain ⟨b, off, S, X, xn, xc, Y, yn, yc, rfl, hb, HA, g0, g1, g2⟩ := arr_at HS.out HL.out (wr := wr) (fun p hp => hb0.cell (by omega)) hlt
                obtain ⟨b', off', S', X', xn', xc', Y', yn', yc', rfl, hb', HA', g0', g1', g2'⟩ := arr_at HS'.out HL'.out (wr := wr) (fun p hp => hb0.cell (by omega)) hlt'
                have hbw : b < wr.heap.size := by omega
                have hbw' : b' < wr.heap.size := by omega
                have HK : ∀ (x : Later wr) (o : Nat), x.w.cell? ⟨b, o, none⟩ = wr.cell? ⟨b, o, none⟩ := fun x o => x.b.cell (p := ⟨b, o, none⟩) hbw
                have HK' : ∀ (x : Later wr) (o : Nat), x.w.cell? ⟨b', o, none⟩ = wr.cell? ⟨b', o, none⟩ := fun x o => x.b.cell (p := ⟨b', o, none⟩) hbw'
                have HK1 : ∀ (x : Later wr) (o : Nat), x.w.cell? ⟨w.heap.size, o, none⟩ = wr.cell? ⟨w.heap.size, o, none⟩ := fun x o => x.b.cell (p := ⟨w.heap.size, o, none⟩) (show w.heap.size < _ by omega)
                have HK2 : ∀ (x : Later wr) (o : Nat), x.w.cell? ⟨w.heap.size + 1, o, none⟩ = wr.cell? ⟨w.heap.size + 1, o, none⟩ := fun x o => x.b.cell (p := ⟨w.heap.size + 1, o, none⟩) (show w.heap.size + 1 < _ by omega)
                have hST : Hid (sameArrs true (ins.drop k) (ins'.drop k) = (same true ins[k] ins'[k] && sameArrs true (ins.drop (k + 1)) (ins'.drop (k + 1)))) := Lib.hid (sameArrs_drop true hlt hlt')
                have FC := Lib.hid (fun (x : Later wr) => ih ins[k] ins'[k] _ _ x.w B (hsz0 _ (List.getElem_mem hlt)) (HA.out.below ((hb0.trans (x.b.mono (by omega))).mono hB)) (HA'.out.below ((hb0.trans (x.b.mono (by omega))).mono hB)) (by have := x.b.size; omega))
                generalize same true ins[k] ins'[k] = RR at FC hST
                go_wp2_with fail
                refine wp_region_later wr (by kernel_rfl) (by kernel_rfl) (Below.drew_self wr) ?_
                repeat (go_big_quiet_step ((go_at_call 19; exact Later.call (FC.out _))))
                refine wpQuiet_nil ?_
                rintro _ ⟨⟨w4, hb4⟩, rfl⟩
                clear HK HK' HK1 HK2 g0 g1 g2 g0' g1' g2' r1 r2
                have hb3 := hbel.trans (hb4.mono (by omega))
                cases RR
                · have HZ : Hid (sameArrs true ins ins' = false) := Lib.hid (by rw [← HT.out, hST.out]; rfl)
                  (first | rw [Bool.not_false] | rw [Bool.not_true])
                  go_wp2_with fail
                  go_ret
                  exact ⟨ret_bool (by rw [HR.out, HZ.out]; simp), hWb.trans (hb3.mono (by omega))⟩
                · have HZ : Hid (sameArrs true (ins.drop (k + 1)) (ins'.drop (k + 1)) = sameArrs true ins ins') := Lib.hid (by rw [← HT.out, hST.out]; rfl)
                  (first | rw [Bool.not_false] | rw [Bool.not_true])
                  go_wp2_with fail
                  go_roundw
                  case rel => exact ⟨k + 1, by omega, by go_num, HZ, hb3⟩
                  case measure => simp [intOf]; omega
              · have hke : k = ins.length := by omega
                have HZ2 : Hid (sameArrs true ins ins' = true) := Lib.hid (by rw [← HT.out, hke, List.drop_length, HN.out, List.drop_length, sameArrs])
                clear hke HT
                go_wp2_with fail
                go_ret
                exact ⟨ret_bool (by rw [HR.out, HZ2.out]; simp), hb0⟩
          · have hd : ((ins.length : Int) != (ins'.length : Int)) = true := by simp; omega
            have HZ2 : Hid (sameArrs true ins ins' = false) := Lib.hid (by
              cases e : sameArrs true ins ins'
              · rfl
              · exact absurd (sameArrs_len true e) hne)
            clear hne
            go_wp2_with fail
            go_ret
            exact ⟨ret_bool (by rw [HR.out, HZ2.out]; simp), hb3⟩
      · have q2 : (ch != ch') = true := by simpa using hch
        go_enter Try.func34, Try.ntmps34
        go_wp2_with fail
        go_ret
        exact ⟨ret_bool (by rw [HR.out]; simp [hch]), by rw [HW.out] at hWb; exact hWb⟩
    · have q1 : (kind != kind') = true := by simpa using hk
      go_enter Try.func34, Try.ntmps34
      go_wp2_with fail
      go_ret
      exact ⟨ret_bool (by rw [HR.out]; simp [hk]), by rw [HW.out] at hWb; exact hWb⟩
  · have q0 : ((L : Int) != (L' : Int)) = true := by simp; omega
    have q0' : (L != L') = true := by simpa using hLL
    go_enter Try.func34, Try.ntmps34
    go_wp2_with fail
    go_ret
    exact ⟨ret_bool (by rw [HR.out]; simp [hLL]), by rw [HW.out] at hWb; exact hWb⟩

theorem refSame_step {n : Nat} (ih : RefOK n) : RefOK (n + 1) := by
  intro a b vs vs' w B hx h h' hB
  obtain ⟨S, sh, cs⟩ := a
  obtain ⟨S', sh', cs'⟩ := b
  rw [IsArr] at h h'
  obtain ⟨A1, c1, A2, c2, us, rfl, hS, hf1, hf2, hw1, hl1, hl2, hcs⟩ := h
  obtain ⟨A1', c1', A2', c2', us', rfl, hS', hf1', hf2', hw1', hl1', hl2', hcs'⟩ := h'
  have HR := Lib.hid (same_mk true S S' sh sh' cs cs')
  obtain ⟨W, hW⟩ : ∃ W, W = (w.alloc (.cells #[.int .u64 (S : Int), .slice A1 sh.length c1, .slice A2 cs.length c2] 42)).alloc (.cells #[.int .u64 (S' : Int), .slice A1' sh'.length c1', .slice A2' cs'.length c2'] 42) := ⟨_, rfl⟩
  have hWs : W.heap.size = w.heap.size + 1 + 1 := by rw [hW]; simp
  have hWb : Below w.heap.size w W := by rw [hW]; exact ((Below.refl _ _).alloc (Nat.le_refl _) _).alloc (by simp) _
  have HQ : Hid (W.cell? ⟨w.heap.size, 2, none⟩ = some (.slice A2 cs.length c2) ∧ W.cell? ⟨w.heap.size + 1, 2, none⟩ = some (.slice A2' cs'.length c2')) := Lib.hid (by rw [hW]; exact ⟨by go_simp, by go_simp⟩)
  have HW := Lib.hid hW
  have E1 := Lib.hid (refInts_any sh sh' A1 A1' c1 c1' W B (hl1.below (hWb.mono hB)) (hl1'.below (hWb.mono hB)) (by have h1 := hf1.1; have h2 := hf1.2; omega) (by have h1 := hf1'.1; have h2 := hf1'.2; omega))
  have hsz0 : ∀ a ∈ cs, SizeOf.sizeOf a < n := fun a ha => by
    have h1 := List.sizeOf_lt_of_mem ha
    simp only [Arr.mk.sizeOf_spec] at hx
    omega
  have HS := Lib.hid hcs
  have HS' := Lib.hid hcs'
  have HL := Lib.hid hl2
  have HL' := Lib.hid hl2'
  have m1 : cs.length ≤ 35184372088832 := by have h1 := hf2.1; have h2 := hf2.2; omega
  have m2 : cs'.length ≤ 35184372088832 := by have h1 := hf2'.1; have h2 := hf2'.2; omega
  clear hcs hcs' hl1 hl1' hl2 hl2' hf1 hf1' hf2 hf2' hw1 hw1' hx hW
  generalize same true (.mk S sh cs) (.mk S' sh' cs') = R at *
  generalize (sh == sh') = P at *
  generalize sh.length = l1 at *
  generalize sh'.length = l1' at *
  by_cases hSS : S = S'
  · subst hSS
    have q0 : ((S : Int) != (S : Int)) = false := by simp
    go_enter Try.func19, Try.ntmps19
    go_wp2_with fail
    rw [← HW.out]
    refine E1.out.mono ?_
    rintro e w2 ⟨rfl, hb2⟩
    have hb3 := hWb.trans (hb2.mono (by omega))
    have r1 : w2.cell? ⟨w.heap.size, 2, none⟩ = some (.slice A2 cs.length c2) := (hb2.cell (p := ⟨w.heap.size, 2, none⟩) (show w.heap.size < _ by omega)).trans HQ.out.1
    have r2 : w2.cell? ⟨w.heap.size + 1, 2, none⟩ = some (.slice A2' cs'.length c2') := (hb2.cell (p := ⟨w.heap.size + 1, 2, none⟩) (show w.heap.size + 1 < _ by omega)).trans HQ.out.2
    cases P
    · go_wp2_with fail
      go_ret
      exact ⟨ret_bool (by rw [HR.out]; simp), hb3⟩
    · by_cases hne : cs.length = cs'.length
      · have hd : ((cs.length : Int) != (cs'.length : Int)) = false := by simp; omega
        have hln : cs.length ≤ cs'.length := by omega
        have HN := Lib.hid hne
        clear hne
        go_wp2_with fail
        clear r1 r2 hd hb3
        have hWl : w.heap.size + 1 < W.heap.size := by omega
        go_loopw [5] (fun i wr => ∃ k : Nat, k ≤ cs.length ∧ i = .int .i64 k ∧ Hid (sameCels true (cs.drop k) (cs'.drop k) = sameCels true cs cs') ∧ Below W.heap.size W wr) (fun i _ => cs.length - (intOf i).toNat)
        case atStart => exact ⟨0, Nat.zero_le _, rfl, Lib.hid rfl, hb2⟩
        case round =>
          clear hb2
          obtain ⟨k, hk, rfl, HT, hbel⟩ := hrel
          have hsz := hbel.size
          have hb0 := hWb.trans (hbel.mono (by omega))
          have r1 : wr.cell? ⟨w.heap.size, 2, none⟩ = some (.slice A2 cs.length c2) := (hbel.cell (p := ⟨w.heap.size, 2, none⟩) (show w.heap.size < _ by omega)).trans HQ.out.1
          have r2 : wr.cell? ⟨w.heap.size + 1, 2, none⟩ = some (.slice A2' cs'.length c2') := (hbel.cell (p := ⟨w.heap.size + 1, 2, none⟩) hWl).trans HQ.out.2
          by_cases hlt : k < cs.length
          · have hlt' : k < cs'.length := by omega
            obtain ⟨b, off, L, kind, neg, top, bot, ch, ins, A3, c3, A4, c4, A5, c5, us3, rfl, hb, hL, HX, t1, t2, t3, t4, t5, t6, g0, g1, g2, g3, g4, g5, g6⟩ := cel_at HS.out HL.out (wr := wr) (fun p hp => hb0.cell (by omega)) hlt
            obtain ⟨b', off', L', kind', neg', top', bot', ch', ins', A3', c3', A4', c4', A5', c5', us3', rfl, hb', hL', HX', t1', t2', t3', t4', t5', t6', g0', g1', g2', g3', g4', g5', g6'⟩ := cel_at HS'.out HL'.out (wr := wr) (fun p hp => hb0.cell (by omega)) hlt'
            have hbw : b < wr.heap.size := by omega
            have hbw' : b' < wr.heap.size := by omega
            have HK : ∀ (x : Later wr) (o : Nat), x.w.cell? ⟨b, o, none⟩ = wr.cell? ⟨b, o, none⟩ := fun x o => x.b.cell (p := ⟨b, o, none⟩) hbw
            have HK' : ∀ (x : Later wr) (o : Nat), x.w.cell? ⟨b', o, none⟩ = wr.cell? ⟨b', o, none⟩ := fun x o => x.b.cell (p := ⟨b', o, none⟩) hbw'
            have HK1 : ∀ (x : Later wr) (o : Nat), x.w.cell? ⟨w.heap.size, o, none⟩ = wr.cell? ⟨w.heap.size, o, none⟩ := fun x o => x.b.cell (p := ⟨w.heap.size, o, none⟩) (show w.heap.size < _ by omega)
            have HK2 : ∀ (x : Later wr) (o : Nat), x.w.cell? ⟨w.heap.size + 1, o, none⟩ = wr.cell? ⟨w.heap.size + 1, o, none⟩ := fun x o => x.b.cell (p := ⟨w.heap.size + 1, o, none⟩) (show w.heap.size + 1 < _ by omega)
            have hST : Hid (sameCels true (cs.drop k) (cs'.drop k) = (sameCel true cs[k] cs'[k] && sameCels true (cs.drop (k + 1)) (cs'.drop (k + 1)))) := Lib.hid (sameCels_drop true hlt hlt')
            have FC := Lib.hid (fun (x : Later wr) => refCell_any ih cs[k] cs'[k] _ _ x.w B (hsz0 _ (List.getElem_mem hlt)) ((HX.out.is hL).below ((hb0.trans (x.b.mono (by omega))).mono hB)) ((HX'.out.is hL').below ((hb0.trans (x.b.mono (by omega))).mono hB)) (by have := x.b.size; omega))
            generalize sameCel true cs[k] cs'[k] = RR at FC hST
            go_wp2_with fail
            refine wp_region_later wr (by kernel_rfl) (by kernel_rfl) (Below.drew_self wr) ?_
            repeat (go_big_quiet_step ((go_at_call 34; exact Later.call (FC.out _))))
            refine wpQuiet_nil ?_
            rintro _ ⟨⟨w4, hb4⟩, rfl⟩
            clear HK HK' HK1 HK2 g0 g1 g2 g3 g4 g5 g6 g0' g1' g2' g3' g4' g5' g6' r1 r2
            have hb3 := hbel.trans (hb4.mono (by omega))
            cases RR
            · have HZ : Hid (sameCels true cs cs' = false) := Lib.hid (by rw [← HT.out, hST.out]; rfl)
              (first | rw [Bool.not_false] | rw [Bool.not_true])
              go_wp2_with fail
              go_ret
              exact ⟨ret_bool (by rw [HR.out, HZ.out]; simp), hWb.trans (hb3.mono (by omega))⟩
            · have HZ : Hid (sameCels true (cs.drop (k + 1)) (cs'.drop (k + 1)) = sameCels true cs cs') := Lib.hid (by rw [← HT.out, hST.out]; rfl)
              (first | rw [Bool.not_false] | rw [Bool.not_true])
              go_wp2_with fail
              go_roundw
              case rel => exact ⟨k + 1, by omega, by go_num, HZ, hb3⟩
              case measure => simp [intOf]; omega
          · have hke : k = cs.length := by omega
            have HZ2 : Hid (sameCels true cs cs' = true) := Lib.hid (by rw [← HT.out, hke, List.drop_length, HN.out, List.drop_length, sameCels])
            clear hke HT
            go_wp2_with fail
            go_ret
            exact ⟨ret_bool (by rw [HR.out, HZ2.out]; simp), hb0⟩
      · have hd : ((cs.length : Int) != (cs'.length : Int)) = true := by simp; omega
        have HZ2 : Hid (sameCels true cs cs' = false) := Lib.hid (by
          cases e : sameCels true cs cs'
          · rfl
          · exact absurd (sameCels_len true e) hne)
        clear hne
        go_wp2_with fail
        go_ret
        exact ⟨ret_bool (by rw [HR.out, HZ2.out]; simp), hb3⟩
  · have q0 : ((S : Int) != (S' : Int)) = true := by simp; omega
    have q0' : (S != S') = true := by simpa using hSS
    go_enter Try.func19, Try.ntmps19
    go_wp2_with fail
    go_ret
    exact ⟨ret_bool (by rw [HR.out]; simp [hSS]), by rw [HW.out] at hWb; exact hWb⟩

theorem refSame_any : ∀ n, RefOK n
  | 0 => fun a b vs vs' w B h => by omega
  | n + 1 => refSame_step (refSame_any n)
end Go.Proofs.Ytfiobbhicicchaa
