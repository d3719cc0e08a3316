/-
  scrimref30.Same: whether two configurations are the same. (Printed by wip/bin/gen_twin10.py.)
-/
import Derived.Test.YtfiobbhicicchaaTwin8
namespace Go.Proofs.Ytfiobbhicicchaa
open Go.RowKit Ar
set_option maxHeartbeats 8000000
set_option maxRecDepth 100000
set_option linter.unusedVariables false

def chan2B (c d : Cfg) (k : Nat) : Bool := (c.clear k == d.clear k) && (c.label k == d.label k) && ((c.ins k).length == (d.ins k).length) && (c.draws k == d.draws k) && sameArrs true (c.ins k) (d.ins k)
def chans2From (c d : Cfg) (k : Nat) : Bool := ((List.range 8).drop k).all (chan2B c d)
theorem chans2From_step {c d : Cfg} {k : Nat} (h : k < 8) : chans2From c d k = (chan2B c d k && chans2From c d (k + 1)) := by
  unfold chans2From
  rw [List.drop_eq_getElem_cons (by simpa using h), List.all_cons]
  simp
theorem chans2From_end {c d : Cfg} : chans2From c d 8 = true := by unfold chans2From; rw [List.drop_eq_nil_of_le (by simp)]; rfl
def cfgSameB (c d : Cfg) : Bool := (c.auth == d.auth) && (c.fuel == d.fuel) && (c.quota == d.quota) && (c.depth == d.depth) && chans2From c d 0
theorem cfgSame_refl (c : Cfg) : cfgSameB c c = true := by
  unfold cfgSameB chans2From
  simp only [BEq.rfl, Bool.true_and, List.all_eq_true]
  intro k _
  simp [chan2B, sameArrs_refl]

theorem cfgSame_any (cf df : Cfg) (C D : Array Value) (w : World) (B : Nat) (hC : IsCfg w B cf C) (hD : IsCfg w B df D) (hB : B ≤ w.heap.size) :
    Calls Try.prog 8 #[.agg C, .agg D] w fun e w' => e = .returned (.bool (cfgSameB cf df)) ∧ Below w.heap.size w w' := by
  have HC := Lib.hid hC
  have HD := Lib.hid hD
  obtain ⟨W, hW⟩ : ∃ W, W = (w.alloc (.cells C 29)).alloc (.cells D 29) := ⟨_, rfl⟩
  have hWs : W.heap.size = w.heap.size + 1 + 1 := by rw [hW]; simp
  have hWb : Below w.heap.size w W := by rw [hW]; exact ((Below.refl _ _).alloc (Nat.le_refl _) _).alloc (by simp) _
  have hW0 : W.heap[w.heap.size]? = some (.cells C 29 (0, 0)) := by rw [hW]; exact heap_alloc2_old _ _ _
  have hW1 : W.heap[w.heap.size + 1]? = some (.cells D 29 (0, 0)) := by rw [hW]; exact heap_alloc2_new _ _ _
  have p32 : W.cell? ⟨w.heap.size, 32, none⟩ = some (.int .u64 (cf.auth : Int)) := (cell_of_row W _ 32 _ _ _ hW0).trans hC.auth
  have r32 : W.cell? ⟨w.heap.size + 1, 32, none⟩ = some (.int .u64 (df.auth : Int)) := (cell_of_row W _ 32 _ _ _ hW1).trans hD.auth
  have p33 : W.cell? ⟨w.heap.size, 33, none⟩ = some (.int .i64 cf.fuel) := (cell_of_row W _ 33 _ _ _ hW0).trans hC.fuel
  have r33 : W.cell? ⟨w.heap.size + 1, 33, none⟩ = some (.int .i64 df.fuel) := (cell_of_row W _ 33 _ _ _ hW1).trans hD.fuel
  have p34 : W.cell? ⟨w.heap.size, 34, none⟩ = some (.int .i64 cf.quota) := (cell_of_row W _ 34 _ _ _ hW0).trans hC.quota
  have r34 : W.cell? ⟨w.heap.size + 1, 34, none⟩ = some (.int .i64 df.quota) := (cell_of_row W _ 34 _ _ _ hW1).trans hD.quota
  have p35 : W.cell? ⟨w.heap.size, 35, none⟩ = some (.int .i64 cf.depth) := (cell_of_row W _ 35 _ _ _ hW0).trans hC.depth
  have r35 : W.cell? ⟨w.heap.size + 1, 35, none⟩ = some (.int .i64 df.depth) := (cell_of_row W _ 35 _ _ _ hW1).trans hD.depth
  rw [hW] at p32 r32 p33 r33 p34 r34 p35 r35
  have CH := Lib.hid (fun (k : Nat) (hk : k < 8) => chan_at hC hD hW0 hW1 (by omega) hk)
  have HR : Hid (cfgSameB cf df = ((cf.auth == df.auth) && (cf.fuel == df.fuel) && (cf.quota == df.quota) && (cf.depth == df.depth) && chans2From cf df 0)) := Lib.hid rfl
  have HW := Lib.hid hW
  have HKB := Lib.hid (fun (wx : World) (hx : Below W.heap.size W wx) (p : Addr) (hp : p.block < B) => show wx.cell? p = w.cell? p by rw [hx.cell (by omega), hWb.cell (by omega)])
  have hgl : w.heap.size + 1 < W.heap.size := by omega
  clear hC hD hW hW0 hW1 hWs
  generalize cfgSameB cf df = R at *
  by_cases ha : cf.auth = df.auth
  · have q3 : ((cf.auth : Int) != (df.auth : Int)) = false := by rw [ha]; simp
    by_cases hfu : cf.fuel = df.fuel
    · have q4 : (cf.fuel != df.fuel) = false := by simpa using hfu
      by_cases hqu : cf.quota = df.quota
      · have q5 : (cf.quota != df.quota) = false := by simpa using hqu
        by_cases hd : cf.depth = df.depth
        · have q6 : (cf.depth != df.depth) = false := by simpa using hd
          have HR2 : Hid (R = chans2From cf df 0) := Lib.hid (by rw [HR.out, ha, hd, hfu, hqu]; simp)
          clear ha hd hfu hqu HR
          go_enter Try.func8, Try.ntmps8
          go_wp2_with fail
          rw [← HW.out]
          clear p32 r32 p33 r33 p34 r34 p35 r35
          obtain ⟨g, hg⟩ : ∃ g, g = w.heap.size := ⟨_, rfl⟩
          rw [← hg] at hgl hB hWb CH ⊢
          have HG := Lib.hid hg
          clear hg
          go_loopw [5] (fun i wr => ∃ k : Nat, k ≤ 8 ∧ i = .int .i64 k ∧ Hid (chans2From cf df k = chans2From cf df 0) ∧ Below W.heap.size W wr) (fun i _ => 8 - (intOf i).toNat)
          case atStart => exact ⟨0, Nat.zero_le _, rfl, Lib.hid rfl, Below.refl _ _⟩
          case round =>
            obtain ⟨w2, rfl⟩ : ∃ x, x = wr := ⟨_, rfl⟩
            obtain ⟨k, hk, rfl, HT, hb2⟩ := hrel
            have hs2 := hb2.size
            by_cases hlt : k < 8
            · obtain ⟨A1, A2, A3, A4, c1, c2, c3, c4, us1, us2, hch⟩ := CH.out k hlt
              have HCH := Lib.hid hch
              have HST : Hid (chans2From cf df 0 = (chan2B cf df k && chans2From cf df (k + 1))) := Lib.hid (by rw [← HT.out, chans2From_step hlt])
              have HCB : Hid (chan2B cf df k = ((cf.clear k == df.clear k) && (cf.label k == df.label k) && ((cf.ins k).length == (df.ins k).length) && (cf.draws k == df.draws k) && sameArrs true (cf.ins k) (df.ins k))) := Lib.hid rfl
              have f1 := hch.f1
              have f2 := hch.f2
              obtain ⟨e0, e0'⟩ := hch.c w2 hb2
              obtain ⟨e1, e1'⟩ := hch.l w2 hb2
              obtain ⟨e2, e2'⟩ := hch.d w2 hb2
              obtain ⟨e3, e3'⟩ := hch.i w2 hb2
              clear hch
              have hk0 : (0 : Int) ≤ (k : Int) := by omega
              have hk8 : (k : Int) < 8 := by omega
              have EI := Lib.hid (fun (x : Later w2) => refInts_any (cf.draws k) (df.draws k) A3 A4 c3 c4 x.w B (HCH.out.ld.keep (HKB.out _ (hb2.trans (x.b.mono hs2)))) (HCH.out.ld'.keep (HKB.out _ (hb2.trans (x.b.mono hs2)))) (by omega) (by omega))
              have HK : ∀ (x : Later w2) (o : Nat), x.w.cell? ⟨g, o, none⟩ = w2.cell? ⟨g, o, none⟩ := fun x o => x.b.cell (p := ⟨g, o, none⟩) (show g < w2.heap.size by omega)
              have HK' : ∀ (x : Later w2) (o : Nat), x.w.cell? ⟨g + 1, o, none⟩ = w2.cell? ⟨g + 1, o, none⟩ := fun x o => x.b.cell (p := ⟨g + 1, o, none⟩) (show g + 1 < w2.heap.size by omega)
              by_cases hcc : cf.clear k = df.clear k
              · have q5 : ((cf.clear k : Int) != (df.clear k : Int)) = false := by rw [hcc]; simp
                by_cases hll : cf.label k = df.label k
                · have q6 : ((cf.label k : Int) != (df.label k : Int)) = false := by rw [hll]; simp
                  by_cases hn : (cf.ins k).length = (df.ins k).length
                  · have q7 : (((cf.ins k).length : Int) != ((df.ins k).length : Int)) = false := by rw [hn]; simp
                    have hnl : (cf.ins k).length ≤ (df.ins k).length := by omega
                    have HN := Lib.hid hn
                    have HCB2 : Hid (chan2B cf df k = ((cf.draws k == df.draws k) && sameArrs true (cf.ins k) (df.ins k))) := Lib.hid (by rw [HCB.out, hcc, hll, hn]; simp)
                    clear hcc hll hn HCB
                    cases hm : (cf.draws k == df.draws k)
                    · rw [hm] at EI HCB2
                      have HZ : Hid (R = false) := Lib.hid (by rw [HR2.out, HST.out, HCB2.out]; simp)
                      go_wp2_with fail
                      refine wp_region_later w2 (by kernel_rfl) (by kernel_rfl) (Below.drew_self w2) ?_
                      repeat (go_big_quiet_step ((go_at_call 18; exact Later.call (EI.out _))))
                      refine wpQuiet_nil ?_
                      rintro w4 ⟨⟨w4', hb4⟩, hw4⟩
                      obtain rfl : w4 = w4' := hw4
                      clear HK HK' e0 e0' e1 e1' e2 e2' e3 e3' EI
                      have hb5 := hb2.trans (hb4.mono hs2)
                      (try (first | rw [Bool.not_false] | rw [Bool.not_true]))
                      go_wp2_with fail
                      go_ret
                      exact ⟨ret_bool (by rw [HZ.out]), by rw [← HG.out]; exact hWb.trans (hb5.mono (by omega))⟩
                    · rw [hm] at EI HCB2
                      have HCB4 : Hid (chans2From cf df 0 = (sameArrs true (cf.ins k) (df.ins k) && chans2From cf df (k + 1))) := Lib.hid (by rw [HST.out, HCB2.out]; simp)
                      clear HCB2 HST
                      go_wp2_with fail
                      refine wp_region_later w2 (by kernel_rfl) (by kernel_rfl) (Below.drew_self w2) ?_
                      repeat (go_big_quiet_step ((go_at_call 18; exact Later.call (EI.out _))))
                      refine wpQuiet_nil ?_
                      rintro w4 ⟨⟨w4', hb4⟩, hw4⟩
                      obtain rfl : w4 = w4' := hw4
                      clear HK HK' e0 e0' e1 e1' e2 e2' e3 e3' EI q5 q6 q7 hm
                      have hb5 := hb2.trans (hb4.mono hs2)
                      clear hb2 hb4 hs2
                      clear w2
                      (try (first | rw [Bool.not_false] | rw [Bool.not_true]))
                      go_wp2_with fail
                      go_loopw [6] (fun j wr => ∃ i : Nat, i ≤ (cf.ins k).length ∧ j = .int .i64 i ∧ Hid (sameArrs true ((cf.ins k).drop i) ((df.ins k).drop i) = sameArrs true (cf.ins k) (df.ins k)) ∧ Below W.heap.size W wr) (fun j _ => (cf.ins k).length - (intOf j).toNat)
                      case atStart => exact ⟨0, Nat.zero_le _, rfl, Lib.hid rfl, hb5⟩
                      case round =>
                        clear hb5
                        clear w4
                        obtain ⟨w5, rfl⟩ : ∃ x, x = wr := ⟨_, rfl⟩
                        obtain ⟨i, hi, rfl, HTI, hb5⟩ := hrel
                        have hs5 := hb5.size
                        obtain ⟨e4, e4'⟩ := HCH.out.i w5 hb5
                        by_cases hlt' : i < (cf.ins k).length
                        · have hlt2 : i < (df.ins k).length := by omega
                          obtain ⟨b, off, S1, X1, xn, xc, Y1, yn, yc, hA1, hb, HA, g0, g1, g2⟩ := arr_at HCH.out.li.2 HCH.out.li.1 (wr := w5) (HKB.out w5 hb5) hlt'
                          obtain ⟨b', off', S2, X2, xn', xc', Y2, yn', yc', hA2, hb', HA', g0', g1', g2'⟩ := arr_at HCH.out.li'.2 HCH.out.li'.1 (wr := w5) (HKB.out w5 hb5) hlt2
                          rw [hA1] at e4
                          rw [hA2] at e4'
                          have hbw : b < w5.heap.size := by omega
                          have hbw' : b' < w5.heap.size := by omega
                          have HK : ∀ (x : Later w5) (o : Nat), x.w.cell? ⟨b, o, none⟩ = w5.cell? ⟨b, o, none⟩ := fun x o => x.b.cell (p := ⟨b, o, none⟩) hbw
                          have HK' : ∀ (x : Later w5) (o : Nat), x.w.cell? ⟨b', o, none⟩ = w5.cell? ⟨b', o, none⟩ := fun x o => x.b.cell (p := ⟨b', o, none⟩) hbw'
                          have HK1 : ∀ (x : Later w5) (o : Nat), x.w.cell? ⟨g, o, none⟩ = w5.cell? ⟨g, o, none⟩ := fun x o => x.b.cell (p := ⟨g, o, none⟩) (show g < w5.heap.size by omega)
                          have HK2 : ∀ (x : Later w5) (o : Nat), x.w.cell? ⟨g + 1, o, none⟩ = w5.cell? ⟨g + 1, o, none⟩ := fun x o => x.b.cell (p := ⟨g + 1, o, none⟩) (show g + 1 < w5.heap.size by omega)
                          have hSTI : Hid (sameArrs true ((cf.ins k).drop i) ((df.ins k).drop i) = (same true (cf.ins k)[i] (df.ins k)[i] && sameArrs true ((cf.ins k).drop (i + 1)) ((df.ins k).drop (i + 1)))) := Lib.hid (sameArrs_drop true hlt' hlt2)
                          have MC := Lib.hid (fun (x : Later w5) => refSame_any _ (cf.ins k)[i] (df.ins k)[i] _ _ x.w B (Nat.lt_succ_self _) (IsArr.keep (HKB.out _ (hb5.trans (x.b.mono hs5))) (Nat.le_refl _) _ _ HA.out) (IsArr.keep (HKB.out _ (hb5.trans (x.b.mono hs5))) (Nat.le_refl _) _ _ HA'.out) (by have := x.b.size; omega))
                          generalize same true (cf.ins k)[i] (df.ins k)[i] = RR at MC hSTI
                          have hi0 : (0 : Int) ≤ (i : Int) := by omega
                          have hi1 : (i : Int) < ((cf.ins k).length : Int) := by omega
                          have hi2 : (i : Int) < ((df.ins k).length : Int) := by omega
                          clear hA1 hA2
                          go_wp2_with fail
                          refine wp_region_later w5 (by kernel_rfl) (by kernel_rfl) (Below.drew_self w5) ?_
                          repeat (go_big_quiet_step ((go_at_call 19; exact Later.call (MC.out _))))
                          refine wpQuiet_nil ?_
                          rintro w6 ⟨⟨w6', hb6⟩, hw6⟩
                          obtain rfl : w6 = w6' := hw6
                          clear HK HK' HK1 HK2 g0 g1 g2 g0' g1' g2' e4 e4'
                          have hb7 := hb5.trans (hb6.mono hs5)
                          cases RR
                          · have HZ : Hid (R = false) := Lib.hid (by rw [HR2.out, HCB4.out, ← HTI.out, hSTI.out]; simp)
                            (first | rw [Bool.not_false] | rw [Bool.not_true])
                            go_wp2_with fail
                            go_ret
                            exact ⟨ret_bool (by rw [HZ.out]), by rw [← HG.out]; exact hWb.trans (hb7.mono (by omega))⟩
                          · have HZ : Hid (sameArrs true ((cf.ins k).drop (i + 1)) ((df.ins k).drop (i + 1)) = sameArrs true (cf.ins k) (df.ins k)) := Lib.hid (by rw [← HTI.out, hSTI.out]; simp)
                            (first | rw [Bool.not_false] | rw [Bool.not_true])
                            go_wp2_with fail
                            go_roundw
                            case rel => exact ⟨i + 1, by omega, by go_num, HZ, hb7⟩
                            case measure => simp [intOf]; omega
                        · have hie : i = (cf.ins k).length := by omega
                          have HZ : Hid (chans2From cf df (k + 1) = chans2From cf df 0) := Lib.hid (by rw [HCB4.out, ← HTI.out, hie, List.drop_length, HN.out, List.drop_length, sameArrs]; simp)
                          clear hie HTI
                          go_wp2_with fail
                          go_roundw
                          case rel => exact ⟨k + 1, by omega, by go_num, HZ, hb5⟩
                          case measure => simp [intOf]; omega
                  · have q7 : (((cf.ins k).length : Int) != ((df.ins k).length : Int)) = true := by simp; omega
                    have HZ : Hid (R = false) := Lib.hid (by rw [HR2.out, HST.out, HCB.out, show ((cf.ins k).length == (df.ins k).length) = false by simpa using hn]; simp)
                    clear hn hcc hll
                    go_wp2_with fail
                    refine wp_region_later w2 (by kernel_rfl) (by kernel_rfl) (Below.drew_self w2) ?_
                    repeat (go_big_quiet_step ((go_at_call 18; exact Later.call (EI.out _))))
                    refine wpQuiet_nil ?_
                    rintro w4 ⟨⟨w4', hb4⟩, hw4⟩
                    obtain rfl : w4 = w4' := hw4
                    clear HK HK' e0 e0' e1 e1' e2 e2' e3 e3' EI
                    have hb5 := hb2.trans (hb4.mono hs2)
                    (try (first | rw [Bool.not_false] | rw [Bool.not_true]))
                    go_wp2_with fail
                    go_ret
                    exact ⟨ret_bool (by rw [HZ.out]), by rw [← HG.out]; exact hWb.trans (hb5.mono (by omega))⟩
                · have q6 : ((cf.label k : Int) != (df.label k : Int)) = true := by simp; omega
                  have HZ : Hid (R = false) := Lib.hid (by rw [HR2.out, HST.out, HCB.out, show (cf.label k == df.label k) = false by simpa using hll]; simp)
                  clear hll hcc
                  go_wp2_with fail
                  refine wp_region_later w2 (by kernel_rfl) (by kernel_rfl) (Below.drew_self w2) ?_
                  repeat (go_big_quiet_step ((go_at_call 18; exact Later.call (EI.out _))))
                  refine wpQuiet_nil ?_
                  rintro w4 ⟨⟨w4', hb4⟩, hw4⟩
                  obtain rfl : w4 = w4' := hw4
                  clear HK HK' e0 e0' e1 e1' e2 e2' e3 e3' EI
                  have hb5 := hb2.trans (hb4.mono hs2)
                  (try (first | rw [Bool.not_false] | rw [Bool.not_true]))
                  go_wp2_with fail
                  go_ret
                  exact ⟨ret_bool (by rw [HZ.out]), by rw [← HG.out]; exact hWb.trans (hb5.mono (by omega))⟩
              · have q5 : ((cf.clear k : Int) != (df.clear k : Int)) = true := by simp; omega
                have HZ : Hid (R = false) := Lib.hid (by rw [HR2.out, HST.out, HCB.out, show (cf.clear k == df.clear k) = false by simpa using hcc]; simp)
                clear hcc
                go_wp2_with fail
                refine wp_region_later w2 (by kernel_rfl) (by kernel_rfl) (Below.drew_self w2) ?_
                repeat (go_big_quiet_step ((go_at_call 18; exact Later.call (EI.out _))))
                refine wpQuiet_nil ?_
                rintro w4 ⟨⟨w4', hb4⟩, hw4⟩
                obtain rfl : w4 = w4' := hw4
                clear HK HK' e0 e0' e1 e1' e2 e2' e3 e3' EI
                have hb5 := hb2.trans (hb4.mono hs2)
                (try (first | rw [Bool.not_false] | rw [Bool.not_true]))
                go_wp2_with fail
                go_ret
                exact ⟨ret_bool (by rw [HZ.out]), by rw [← HG.out]; exact hWb.trans (hb5.mono (by omega))⟩
            · obtain rfl : k = 8 := by omega
              have HZ : Hid (R = true) := Lib.hid (by rw [HR2.out, ← HT.out]; exact chans2From_end)
              go_wp2_with fail
              go_ret
              exact ⟨ret_bool (by rw [HZ.out]), by rw [← HG.out]; exact hWb.trans (hb2.mono (by omega))⟩
        · have q6 : (cf.depth != df.depth) = true := by simpa using hd
          have HZ : Hid (R = false) := Lib.hid (by rw [HR.out, show (cf.depth == df.depth) = false by simpa using hd]; simp)
          clear ha hfu hqu hd
          go_enter Try.func8, Try.ntmps8
          go_wp2_with fail
          go_ret
          exact ⟨ret_bool (by rw [HZ.out]), by rw [HW.out] at hWb; exact hWb⟩
      · have q5 : (cf.quota != df.quota) = true := by simpa using hqu
        have HZ : Hid (R = false) := Lib.hid (by rw [HR.out, show (cf.quota == df.quota) = false by simpa using hqu]; simp)
        clear ha hfu hqu
        go_enter Try.func8, Try.ntmps8
        go_wp2_with fail
        go_ret
        exact ⟨ret_bool (by rw [HZ.out]), by rw [HW.out] at hWb; exact hWb⟩
    · have q4 : (cf.fuel != df.fuel) = true := by simpa using hfu
      have HZ : Hid (R = false) := Lib.hid (by rw [HR.out, show (cf.fuel == df.fuel) = false by simpa using hfu]; simp)
      clear ha hfu
      go_enter Try.func8, Try.ntmps8
      go_wp2_with fail
      go_ret
      exact ⟨ret_bool (by rw [HZ.out]), by rw [HW.out] at hWb; exact hWb⟩
  · have q3 : ((cf.auth : Int) != (df.auth : Int)) = true := by simp; omega
    have HZ : Hid (R = false) := Lib.hid (by rw [HR.out, show (cf.auth == df.auth) = false by simpa using ha]; simp)
    clear ha
    go_enter Try.func8, Try.ntmps8
    go_wp2_with fail
    go_ret
    exact ⟨ret_bool (by rw [HZ.out]), by rw [HW.out] at hWb; exact hWb⟩
end Go.Proofs.Ytfiobbhicicchaa
