/-
  Texts of this proof, joined (by wip/bin/bundle.py): Cfg4, Net2, Cfg5, LabText, Cfg6, Cfg7, LabText2.
-/
import Derived.Test.YtmiccalfamepdaaGreatDoorM10
import Derived.Lib.AppendIntMem
import Derived.BigQuiet
import Derived.Deep.CutRange
import Derived.Deep.QuietTactic
import Derived.Deep.LoopGhost
import Derived.Deep.RegionLaw
import Derived.Deep.AppendLies
/-
  Which configurations are the same: config.Same, scrimref30.Same.
-/
namespace Go.Proofs.YtmiccalfamepdaaGreatDoor
open Go.RowKit Ar
set_option maxHeartbeats 8000000
set_option maxRecDepth 100000
set_option linter.unusedVariables false

theorem eqFuncSame_any (l l' : List Arr) (us us' : List Value) (A A' : Option Addr) (c c' : Nat) (lab : Bool) (w : World) (B : Nat) (h : IsArrs w B l us) (h' : IsArrs w B l' us') (hl : Lies w B A us) (hl' : Lies w B A' us') (hB : B ≤ w.heap.size)
    (k1 : l.length ≤ 35184372088832) (k2 : l'.length ≤ 35184372088832)
    (hf : ∀ (k : Nat) (hk : k < l.length) (hk' : k < l'.length) (u u' : List Value) (wx : World), Below w.heap.size w wx → IsArr wx B l[k] u → IsArr wx B l'[k] u' →
      Calls Tryz.prog 23 #[.agg u.toArray, .agg u'.toArray] wx fun e w' => e = .returned (.bool (same lab l[k] l'[k])) ∧ Below wx.heap.size wx w') :
    Calls Tryz.prog 22 #[.slice A l.length c, .slice A' l'.length c', .func (.func 23) #[] #[]] w fun e w' => e = .returned (.bool (sameArrs lab l l')) ∧ Below w.heap.size w w' := by
  have HS := Lib.hid h
  have HS' := Lib.hid h'
  have HL := Lib.hid hl
  have HL' := Lib.hid hl'
  have HF := Lib.hid hf
  clear h h' hl hl' hf
  by_cases hne : l.length = l'.length
  · have hd : ((l.length : Int) != (l'.length : Int)) = false := by simp; omega
    have hln : l.length ≤ l'.length := by omega
    have HN := Lib.hid hne
    clear hne
    go_enter Tryz.func22, Tryz.ntmps22
    go_wp2_with fail
    go_loopw [7, 17] (fun u i wr => ∃ k : Nat, k ≤ l.length ∧ i = .int .i64 k ∧ Hid (sameArrs lab (l.drop k) (l'.drop k) = sameArrs lab l l') ∧ Below w.heap.size w wr) (fun _ i _ => l.length - (intOf i).toNat)
    case atStart => exact ⟨0, Nat.zero_le _, rfl, Lib.hid rfl, Below.refl _ _⟩
    case round =>
      obtain ⟨k, hk, rfl, HT, hbel⟩ := hrel
      have hsz := hbel.size
      by_cases hlt : k < l.length
      · have hlt' : k < l'.length := by omega
        obtain ⟨b, off, S, X, xn, xc, Y, yn, yc, rfl, hb, HA, g0, g1, g2⟩ := arr_at HS.out HL.out (wr := wr) (fun p hp => hbel.cell (by omega)) hlt
        obtain ⟨b', off', S', X', xn', xc', Y', yn', yc', rfl, hb', HA', g0', g1', g2'⟩ := arr_at HS'.out HL'.out (wr := wr) (fun p hp => hbel.cell (by omega)) hlt'
        have hbw : b < wr.heap.size := by omega
        have hbw' : b' < wr.heap.size := by omega
        have hST : Hid (sameArrs lab (l.drop k) (l'.drop k) = (same lab l[k] l'[k] && sameArrs lab (l.drop (k + 1)) (l'.drop (k + 1)))) := Lib.hid (sameArrs_drop lab hlt hlt')
        have hb1 := (hbel.alloc (by omega) (Obj.cells #[.int .u64 (S : Int), .slice X xn xc, .slice Y yn yc] 43)).alloc (by simp; omega) (Obj.cells #[.int .u64 (S' : Int), .slice X' xn' xc', .slice Y' yn' yc'] 43)
        have FC := Lib.hid (HF.out k hlt hlt' [.int .u64 (S : Int), .slice X xn xc, .slice Y yn yc] [.int .u64 (S' : Int), .slice X' xn' xc', .slice Y' yn' yc'] _ hb1 (HA.out.below (hb1.mono hB)) (HA'.out.below (hb1.mono hB)))
        generalize same lab l[k] l'[k] = R at FC hST
        go_wp2_with fail
        refine FC.out.mono ?_
        rintro e w2 ⟨rfl, hb2⟩
        have hb3 := hb1.trans (hb2.mono hb1.size)
        cases R
        · have HZ : Hid (sameArrs lab l l' = false) := Lib.hid (by rw [← HT.out, hST.out]; rfl)
          go_wp2_with fail
          go_ret
          exact ⟨ret_bool (by rw [HZ.out]), hb3⟩
        · have HZ : Hid (sameArrs lab (l.drop (k + 1)) (l'.drop (k + 1)) = sameArrs lab l l') := Lib.hid (by rw [← HT.out, hST.out]; rfl)
          go_wp2_with fail
          go_roundw
          case rel => exact ⟨k + 1, by omega, by go_num, HZ, hb3⟩
          case measure => simp [intOf]; omega
      · have hke : k = l.length := by omega
        have HZ2 : Hid (sameArrs lab l l' = true) := Lib.hid (by rw [← HT.out, hke, List.drop_length, HN.out, List.drop_length, sameArrs])
        clear hke HT
        go_wp2_with fail
        go_ret
        exact ⟨ret_bool (by rw [HZ2.out]), hbel⟩
  · have hd : (l.length != l'.length) = true := by simpa using hne
    have HZ2 : Hid (sameArrs lab l l' = false) := Lib.hid (by
      cases e : sameArrs lab l l'
      · rfl
      · exact absurd (sameArrs_len lab e) hne)
    clear hne
    go_enter Tryz.func22, Tryz.ntmps22
    go_wp2_with fail
    go_ret
    exact ⟨ret_bool (by rw [HZ2.out]), Below.refl _ _⟩


theorem sameP_any (cf df : Cfg) (C D : Array Value) (w : World) (B : Nat) (hC : IsCfg w B cf C) (hD : IsCfg w B df D) (hB : B ≤ w.heap.size) :
    Calls Tryz.prog 10 #[.agg C, .agg D] w fun e w' => e = .returned (.bool (sameC cf df)) ∧ Below w.heap.size w w' := by
  obtain ⟨W, hW⟩ : ∃ W, W = (w.alloc (.cells C 29)).alloc (.cells D 29) := ⟨_, rfl⟩
  have hWs : W.heap.size = w.heap.size + 1 + 1 := by rw [hW]; simp
  have hWb : Below w.heap.size w W := by rw [hW]; exact ((Below.refl _ _).alloc (Nat.le_refl _) _).alloc (by simp) _
  have hW0 : W.heap[w.heap.size]? = some (.cells C 29 (0, 0)) := by rw [hW]; exact heap_alloc2_old _ _ _
  have hW1 : W.heap[w.heap.size + 1]? = some (.cells D 29 (0, 0)) := by rw [hW]; exact heap_alloc2_new _ _ _
  have CH := Lib.hid (fun (k : Nat) (hk : k < 8) => chan_at hC hD hW0 hW1 (by omega) hk)
  have p0 := (hC.clear 0 (by omega)).1
  have r0 := (hD.clear 0 (by omega)).1
  have s0 := (hC.label 0 (by omega)).1
  have t0 := (hD.label 0 (by omega)).1
  have p1 := (hC.clear 1 (by omega)).1
  have r1 := (hD.clear 1 (by omega)).1
  have s1 := (hC.label 1 (by omega)).1
  have t1 := (hD.label 1 (by omega)).1
  have p2 := (hC.clear 2 (by omega)).1
  have r2 := (hD.clear 2 (by omega)).1
  have s2 := (hC.label 2 (by omega)).1
  have t2 := (hD.label 2 (by omega)).1
  have p3 := (hC.clear 3 (by omega)).1
  have r3 := (hD.clear 3 (by omega)).1
  have s3 := (hC.label 3 (by omega)).1
  have t3 := (hD.label 3 (by omega)).1
  have p4 := (hC.clear 4 (by omega)).1
  have r4 := (hD.clear 4 (by omega)).1
  have s4 := (hC.label 4 (by omega)).1
  have t4 := (hD.label 4 (by omega)).1
  have p5 := (hC.clear 5 (by omega)).1
  have r5 := (hD.clear 5 (by omega)).1
  have s5 := (hC.label 5 (by omega)).1
  have t5 := (hD.label 5 (by omega)).1
  have p6 := (hC.clear 6 (by omega)).1
  have r6 := (hD.clear 6 (by omega)).1
  have s6 := (hC.label 6 (by omega)).1
  have t6 := (hD.label 6 (by omega)).1
  have p7 := (hC.clear 7 (by omega)).1
  have r7 := (hD.clear 7 (by omega)).1
  have s7 := (hC.label 7 (by omega)).1
  have t7 := (hD.label 7 (by omega)).1
  simp only [Nat.reduceAdd] at s0 s1 s2 s3 s4 s5 s6 s7 t0 t1 t2 t3 t4 t5 t6 t7
  have p32 := hC.auth
  have r32 := hD.auth
  have p33 := hC.fuel
  have r33 := hD.fuel
  have p34 := hC.quota
  have r34 := hD.quota
  have p35 := hC.depth
  have r35 := hD.depth
  have n1 := fun wx => run_equalIn_u64 (P := Tryz.prog) wx 9998 23 22 8 Tryz.underlying23 Tryz.underlying22 (fun _ => by kernel_rfl) (l8 cf.clear) (l8 df.clear) rfl rfl
  have n2 := fun wx => run_equalIn_u64 (P := Tryz.prog) wx 9998 23 22 8 Tryz.underlying23 Tryz.underlying22 (fun _ => by kernel_rfl) (l8 cf.label) (l8 df.label) rfl rfl
  have HR : Hid (sameC cf df = ((l8 cf.clear == l8 df.clear) && (l8 cf.label == l8 df.label) && (cf.auth == df.auth) && ((cf.fuel == df.fuel) && (cf.quota == df.quota) && (cf.depth == df.depth)) && sameRows cf df 0)) := Lib.hid rfl
  have HW := Lib.hid hW
  have HKB := Lib.hid (fun (wx : World) (hx : Below W.heap.size W wx) (p : Addr) (hp : p.block < B) => show wx.cell? p = w.cell? p by rw [hx.cell (by omega), hWb.cell (by omega)])
  have HKW := Lib.hid (fun (wx : World) (hx : Below W.heap.size W wx) => (show Below B w wx from (hWb.mono hB).trans (hx.mono (by omega))))
  have hgl : w.heap.size + 1 < W.heap.size := by omega
  clear hC hD hW hW0 hW1
  generalize sameC cf df = R at *
  generalize (l8 cf.clear == l8 df.clear) = e1 at *
  generalize (l8 cf.label == l8 df.label) = e2 at *
  simp only [U64, l8, List.map_cons, List.map_nil] at n1 n2
  simp only [Nat.reduceAdd] at n1 n2
  have HBAD : Hid ((e1 = false ∨ e2 = false ∨ cf.auth ≠ df.auth ∨ cf.fuel ≠ df.fuel ∨ cf.quota ≠ df.quota ∨ cf.depth ≠ df.depth) → R = false) := Lib.hid (by
    intro h; rw [HR.out]
    rcases h with h | h | h | h | h | h <;> simp [h])
  have HGOOD : Hid (e1 = true → e2 = true → cf.auth = df.auth → cf.fuel = df.fuel → cf.quota = df.quota → cf.depth = df.depth → R = sameRows cf df 0) := Lib.hid (by
    intro h1 h2 h3 h4 h5 h6; rw [HR.out, h1, h2, h3, h4, h5, h6]; simp)
  clear HR
  cases e1
  · have HZ := Lib.hid (HBAD.out (.inl rfl))
    clear HBAD HGOOD
    go_enter Tryz.func10, Tryz.ntmps10
    go_wp2_with fail
    go_ret
    exact ⟨ret_bool (by rw [HZ.out]), by rw [HW.out] at hWb; exact hWb⟩
  · cases e2
    · have HZ := Lib.hid (HBAD.out (.inr (.inl rfl)))
      clear HBAD HGOOD
      go_enter Tryz.func10, Tryz.ntmps10
      go_wp2_with fail
      go_ret
      exact ⟨ret_bool (by rw [HZ.out]), by rw [HW.out] at hWb; exact hWb⟩
    · by_cases ha : cf.auth = df.auth
      · have q3 : ((cf.auth : Int) != (df.auth : Int)) = false := by simp; omega
        by_cases hf : cf.fuel = df.fuel
        · have q4 : (cf.fuel != df.fuel) = false := by simpa using hf
          by_cases hq : cf.quota = df.quota
          · have q5 : (cf.quota != df.quota) = false := by simpa using hq
            by_cases hd : cf.depth = df.depth
            · have q6 : (cf.depth != df.depth) = false := by simpa using hd
              have HR2 := Lib.hid (HGOOD.out rfl rfl ha hf hq hd)
              clear HBAD HGOOD ha hf hq hd
              go_enter Tryz.func10, Tryz.ntmps10
              go_wp2_with fail
              rw [← HW.out]
              clear p0 p1 p2 p3 p4 p5 p6 p7 r0 r1 r2 r3 r4 r5 r6 r7 s0 s1 s2 s3 s4 s5 s6 s7 t0 t1 t2 t3 t4 t5 t6 t7 p32 r32 p33 r33 p34 r34 p35 r35 n1 n2
              obtain ⟨g, hg⟩ : ∃ g, g = w.heap.size := ⟨_, rfl⟩
              rw [← hg] at hgl hB hWb CH ⊢
              have HG := Lib.hid hg
              clear hg
              go_loopw [5, 44] (fun _ i wr => ∃ k : Nat, k ≤ 8 ∧ i = .int .i64 k ∧ Hid (sameRows cf df k = sameRows cf df 0) ∧ Below W.heap.size W wr) (fun _ i _ => 8 - (intOf i).toNat)
              case atStart => exact ⟨0, Nat.zero_le _, rfl, Lib.hid rfl, Below.refl _ _⟩
              case round =>
                obtain ⟨k, hk, rfl, HT, hbel⟩ := hrel
                have hsz := hbel.size
                by_cases hlt : k < 8
                · obtain ⟨A1, A2, A3, A4, c1, c2, c3, c4, us1, us2, hch⟩ := CH.out k hlt
                  obtain ⟨x1, x2⟩ := hch.i wr hbel
                  obtain ⟨y1, y2⟩ := hch.d wr hbel
                  have f1 := hch.f1
                  have f2 := hch.f2
                  have E1 := Lib.hid (fun (x : Later wr) => eqFuncSame_any (cf.ins k) (df.ins k) us1 us2 A1 A2 c1 c2 true x.w B (hch.li.2.below (HKW.out x.w (hbel.trans (x.b.mono hsz)))) (hch.li'.2.below (HKW.out x.w (hbel.trans (x.b.mono hsz)))) (hch.li.1.below (HKW.out x.w (hbel.trans (x.b.mono hsz)))) (hch.li'.1.below (HKW.out x.w (hbel.trans (x.b.mono hsz)))) (by have := x.b.size; omega) f1.1 f1.2 (fun k' _ _ u u' wy hy hu hu' => arrSame_any _ _ u u' wy B hu hu' (by have := x.b.size; have := hy.size; omega)))
                  have E2 := Lib.hid (fun (x : Later wr) => eqInts_any (cf.draws k) (df.draws k) A3 A4 c3 c4 x.w B (hch.ld.below (HKW.out x.w (hbel.trans (x.b.mono hsz)))) (hch.ld'.below (HKW.out x.w (hbel.trans (x.b.mono hsz)))) (by omega) (by omega))
                  have HST : Hid (sameRows cf df 0 = (sameRow cf df k && sameRows cf df (k + 1))) := Lib.hid (by rw [← HT.out, sameRows_step hlt])
                  have HRB : Hid (sameRow cf df k = (sameArrs true (cf.ins k) (df.ins k) && (cf.draws k == df.draws k))) := Lib.hid rfl
                  clear hch
                  generalize sameArrs true (cf.ins k) (df.ins k) = m1 at *
                  generalize (cf.draws k == df.draws k) = m2 at *
                  generalize (cf.ins k).length = z1 at *
                  generalize (df.ins k).length = z2 at *
                  generalize (cf.draws k).length = z3 at *
                  generalize (df.draws k).length = z4 at *
                  have HK : ∀ (x : Later wr) (o : Nat), x.w.cell? ⟨g, o, none⟩ = wr.cell? ⟨g, o, none⟩ := fun x o => x.b.cell (p := ⟨g, o, none⟩) (show g < wr.heap.size by omega)
                  have HK' : ∀ (x : Later wr) (o : Nat), x.w.cell? ⟨g + 1, o, none⟩ = wr.cell? ⟨g + 1, o, none⟩ := fun x o => x.b.cell (p := ⟨g + 1, o, none⟩) (show g + 1 < wr.heap.size by omega)
                  have hk0 : (0 : Int) ≤ (k : Int) := by omega
                  have hk8 : (k : Int) < 8 := by omega
                  cases m1
                  · have HZ : Hid (R = false) := Lib.hid (by rw [HR2.out, HST.out, HRB.out]; rfl)
                    go_wp2_with fail
                    refine wp_region_later wr (by kernel_rfl) (by kernel_rfl) (Below.drew_self wr) ?_
                    repeat (go_big_quiet_step ((go_at_call 22; exact Later.call (E1.out _))))
                    refine wpQuiet_nil ?_
                    rintro _ ⟨⟨w4, hb4⟩, rfl⟩
                    clear HK HK' x1 x2 y1 y2
                    go_wp2_with fail
                    go_ret
                    exact ⟨ret_bool (by rw [HZ.out]), by rw [← HG.out]; exact (hWb.trans (hbel.mono (by omega))).trans (hb4.mono (by omega))⟩
                  · cases m2
                    · have HZ : Hid (R = false) := Lib.hid (by rw [HR2.out, HST.out, HRB.out]; rfl)
                      go_wp2_with fail
                      refine wp_region_later wr (by kernel_rfl) (by kernel_rfl) (Below.drew_self wr) ?_
                      repeat (go_big_quiet_step (first | (go_at_call 22; exact Later.call (E1.out _)) | (go_at_call 24; exact Later.call (E2.out _))))
                      refine wpQuiet_nil ?_
                      rintro _ ⟨⟨w4, hb4⟩, rfl⟩
                      clear HK HK' x1 x2 y1 y2
                      go_wp2_with fail
                      go_ret
                      exact ⟨ret_bool (by rw [HZ.out]), by rw [← HG.out]; exact (hWb.trans (hbel.mono (by omega))).trans (hb4.mono (by omega))⟩
                    · have HZ : Hid (sameRows cf df (k + 1) = sameRows cf df 0) := Lib.hid (by rw [HST.out, HRB.out]; rfl)
                      go_wp2_with fail
                      refine wp_region_later wr (by kernel_rfl) (by kernel_rfl) (Below.drew_self wr) ?_
                      repeat (go_big_quiet_step (first | (go_at_call 22; exact Later.call (E1.out _)) | (go_at_call 24; exact Later.call (E2.out _))))
                      refine wpQuiet_nil ?_
                      rintro _ ⟨⟨w4, hb4⟩, rfl⟩
                      clear HK HK' x1 x2 y1 y2
                      go_wp2_with fail
                      go_roundw
                      case rel => exact ⟨k + 1, by omega, by go_num, HZ, hbel.trans (hb4.mono hsz)⟩
                      case measure => simp [intOf]; omega
                · obtain rfl : k = 8 := by omega
                  have HZ : Hid (R = true) := Lib.hid (by rw [HR2.out, ← HT.out, sameRows_end])
                  go_wp2_with fail
                  go_ret
                  exact ⟨ret_bool (by rw [HZ.out]), by rw [← HG.out]; exact hWb.trans (hbel.mono (by omega))⟩
            · have q6 : (cf.depth != df.depth) = true := by simpa using hd
              have HZ := Lib.hid (HBAD.out (.inr (.inr (.inr (.inr (.inr hd))))))
              clear HBAD HGOOD hd
              go_enter Tryz.func10, Tryz.ntmps10
              go_wp2_with fail
              go_ret
              exact ⟨ret_bool (by rw [HZ.out]), by rw [HW.out] at hWb; exact hWb⟩
          · have q5 : (cf.quota != df.quota) = true := by simpa using hq
            have HZ := Lib.hid (HBAD.out (.inr (.inr (.inr (.inr (.inl hq))))))
            clear HBAD HGOOD hq
            go_enter Tryz.func10, Tryz.ntmps10
            go_wp2_with fail
            go_ret
            exact ⟨ret_bool (by rw [HZ.out]), by rw [HW.out] at hWb; exact hWb⟩
        · have q4 : (cf.fuel != df.fuel) = true := by simpa using hf
          have HZ := Lib.hid (HBAD.out (.inr (.inr (.inr (.inl hf)))))
          clear HBAD HGOOD hf
          go_enter Tryz.func10, Tryz.ntmps10
          go_wp2_with fail
          go_ret
          exact ⟨ret_bool (by rw [HZ.out]), by rw [HW.out] at hWb; exact hWb⟩
      · have q3 : ((cf.auth : Int) != (df.auth : Int)) = true := by simp; omega
        have HZ := Lib.hid (HBAD.out (.inr (.inr (.inl ha))))
        clear HBAD HGOOD ha
        go_enter Tryz.func10, Tryz.ntmps10
        go_wp2_with fail
        go_ret
        exact ⟨ret_bool (by rw [HZ.out]), by rw [HW.out] at hWb; exact hWb⟩

theorem sameRefC_any (cf df : Cfg) (C D : Array Value) (w : World) (B : Nat) (hC : IsCfg w B cf C) (hD : IsCfg w B df D) (hB : B ≤ w.heap.size) :
    Calls Tryz.prog 11 #[.agg C, .agg D] w fun e w' => e = .returned (.bool (sameC cf df)) ∧ Below w.heap.size w w' := by
  obtain ⟨W, hW⟩ : ∃ W, W = (w.alloc (.cells C 29)).alloc (.cells D 29) := ⟨_, rfl⟩
  have hWs : W.heap.size = w.heap.size + 1 + 1 := by rw [hW]; simp
  have hWb : Below w.heap.size w W := by rw [hW]; exact ((Below.refl _ _).alloc (Nat.le_refl _) _).alloc (by simp) _
  have hW0 : W.heap[w.heap.size]? = some (.cells C 29 (0, 0)) := by rw [hW]; exact heap_alloc2_old _ _ _
  have hW1 : W.heap[w.heap.size + 1]? = some (.cells D 29 (0, 0)) := by rw [hW]; exact heap_alloc2_new _ _ _
  have CH := Lib.hid (fun (k : Nat) (hk : k < 8) => chan_at hC hD hW0 hW1 (by omega) hk)
  have p32 : W.cell? ⟨w.heap.size, 32, none⟩ = some (.int .u64 (cf.auth : Int)) := (cell_of_row W _ 32 _ _ _ hW0).trans hC.auth
  have r32 : W.cell? ⟨w.heap.size + 1, 32, none⟩ = some (.int .u64 (df.auth : Int)) := (cell_of_row W _ 32 _ _ _ hW1).trans hD.auth
  have p33 : W.cell? ⟨w.heap.size, 33, none⟩ = some (.int .i64 cf.fuel) := (cell_of_row W _ 33 _ _ _ hW0).trans hC.fuel
  have r33 : W.cell? ⟨w.heap.size + 1, 33, none⟩ = some (.int .i64 df.fuel) := (cell_of_row W _ 33 _ _ _ hW1).trans hD.fuel
  have p34 : W.cell? ⟨w.heap.size, 34, none⟩ = some (.int .i64 cf.quota) := (cell_of_row W _ 34 _ _ _ hW0).trans hC.quota
  have r34 : W.cell? ⟨w.heap.size + 1, 34, none⟩ = some (.int .i64 df.quota) := (cell_of_row W _ 34 _ _ _ hW1).trans hD.quota
  have p35 : W.cell? ⟨w.heap.size, 35, none⟩ = some (.int .i64 cf.depth) := (cell_of_row W _ 35 _ _ _ hW0).trans hC.depth
  have r35 : W.cell? ⟨w.heap.size + 1, 35, none⟩ = some (.int .i64 df.depth) := (cell_of_row W _ 35 _ _ _ hW1).trans hD.depth
  rw [hW] at p32 r32 p33 r33 p34 r34 p35 r35
  have HR : Hid (sameC cf df = ((cf.auth == df.auth) && (cf.fuel == df.fuel) && (cf.quota == df.quota) && (cf.depth == df.depth) && sameChans cf df 0)) := Lib.hid (sameC_chans cf df)
  have HW := Lib.hid hW
  have HKB := Lib.hid (fun (wx : World) (hx : Below W.heap.size W wx) (p : Addr) (hp : p.block < B) => show wx.cell? p = w.cell? p by rw [hx.cell (by omega), hWb.cell (by omega)])
  have HKW := Lib.hid (fun (wx : World) (hx : Below W.heap.size W wx) => (show Below B w wx from (hWb.mono hB).trans (hx.mono (by omega))))
  have hgl : w.heap.size + 1 < W.heap.size := by omega
  clear hC hD hW hW0 hW1
  generalize sameC cf df = R at *
  have HBAD : Hid ((cf.auth ≠ df.auth ∨ cf.fuel ≠ df.fuel ∨ cf.quota ≠ df.quota ∨ cf.depth ≠ df.depth) → R = false) := Lib.hid (by
    intro h; rw [HR.out]
    rcases h with h | h | h | h <;> simp [h])
  have HGOOD : Hid (cf.auth = df.auth → cf.fuel = df.fuel → cf.quota = df.quota → cf.depth = df.depth → R = sameChans cf df 0) := Lib.hid (by
    intro h3 h4 h5 h6; rw [HR.out, h3, h4, h5, h6]; simp)
  clear HR
  by_cases ha : cf.auth = df.auth
  · have q3 : ((cf.auth : Int) != (df.auth : Int)) = false := by simp; omega
    by_cases hf : cf.fuel = df.fuel
    · have q4 : (cf.fuel != df.fuel) = false := by simpa using hf
      by_cases hq : cf.quota = df.quota
      · have q5 : (cf.quota != df.quota) = false := by simpa using hq
        by_cases hd : cf.depth = df.depth
        · have q6 : (cf.depth != df.depth) = false := by simpa using hd
          have HR2 := Lib.hid (HGOOD.out ha hf hq hd)
          clear HBAD HGOOD ha hf hq hd
          go_enter Tryz.func11, Tryz.ntmps11
          go_wp2_with fail
          rw [← HW.out]
          clear p32 r32 p33 r33 p34 r34 p35 r35
          obtain ⟨g, hg⟩ : ∃ g, g = w.heap.size := ⟨_, rfl⟩
          rw [← hg] at hgl hB hWb CH ⊢
          have HG := Lib.hid hg
          clear hg
          go_loopw [5] (fun i wr => ∃ k : Nat, k ≤ 8 ∧ i = .int .i64 k ∧ Hid (sameChans cf df k = sameChans cf df 0) ∧ Below W.heap.size W wr) (fun i _ => 8 - (intOf i).toNat)
          case atStart => exact ⟨0, Nat.zero_le _, rfl, Lib.hid rfl, Below.refl _ _⟩
          case round =>
            obtain ⟨k, hk, rfl, HT, hbel⟩ := hrel
            have hsz := hbel.size
            by_cases hlt : k < 8
            · obtain ⟨A1, A2, A3, A4, c1, c2, c3, c4, us1, us2, hch⟩ := CH.out k hlt
              have HCH := Lib.hid hch
              have HST : Hid (sameChans cf df 0 = (sameChan cf df k && sameChans cf df (k + 1))) := Lib.hid (by rw [← HT.out, sameChans_step hlt])
              have HCB : Hid (sameChan cf df k = ((cf.clear k == df.clear k) && (cf.label k == df.label k) && (cf.draws k == df.draws k) && sameArrs true (cf.ins k) (df.ins k))) := Lib.hid rfl
              have HSL := Lib.hid (fun (h : sameArrs true (cf.ins k) (df.ins k) = true) => sameArrs_len true h)
              obtain ⟨e0, e0'⟩ := hch.c wr hbel
              obtain ⟨e1, e1'⟩ := hch.l wr hbel
              obtain ⟨e2, e2'⟩ := hch.i wr hbel
              obtain ⟨e3, e3'⟩ := hch.d wr hbel
              have f1 := hch.f1
              have f2 := hch.f2
              have E2 := Lib.hid (fun (x : Later wr) => refInts_any (cf.draws k) (df.draws k) A3 A4 c3 c4 x.w B (hch.ld.below (HKW.out x.w (hbel.trans (x.b.mono hsz)))) (hch.ld'.below (HKW.out x.w (hbel.trans (x.b.mono hsz)))) (by omega) (by omega))
              clear hch
              have hk0 : (0 : Int) ≤ (k : Int) := by omega
              have hk8 : (k : Int) < 8 := by omega
              have HK : ∀ (x : Later wr) (o : Nat), x.w.cell? ⟨g, o, none⟩ = wr.cell? ⟨g, o, none⟩ := fun x o => x.b.cell (p := ⟨g, o, none⟩) (show g < wr.heap.size by omega)
              have HK' : ∀ (x : Later wr) (o : Nat), x.w.cell? ⟨g + 1, o, none⟩ = wr.cell? ⟨g + 1, o, none⟩ := fun x o => x.b.cell (p := ⟨g + 1, o, none⟩) (show g + 1 < wr.heap.size by omega)
              have HZZ : Hid (sameChan cf df k = false → R = false) := Lib.hid (fun h => by rw [HR2.out, HST.out, h]; rfl)
              by_cases hcc : cf.clear k = df.clear k
              · have q5 : ((cf.clear k : Int) != (df.clear k : Int)) = false := by rw [hcc]; simp
                by_cases hll : cf.label k = df.label k
                · have q6 : ((cf.label k : Int) != (df.label k : Int)) = false := by rw [hll]; simp
                  by_cases hn : (cf.ins k).length = (df.ins k).length
                  · have q7 : (((cf.ins k).length : Int) != ((df.ins k).length : Int)) = false := by rw [hn]; simp
                    have hnl : (cf.ins k).length ≤ (df.ins k).length := by omega
                    have HN := Lib.hid hn
                    have HCB2 : Hid (sameChan cf df k = ((cf.draws k == df.draws k) && sameArrs true (cf.ins k) (df.ins k))) := Lib.hid (by rw [HCB.out, hcc, hll]; simp)
                    clear HCB hcc hll hn
                    generalize (cf.draws k == df.draws k) = m2 at *
                    cases m2
                    · have HZ := Lib.hid (HZZ.out (by rw [HCB2.out]; rfl))
                      go_wp2_with fail
                      refine wp_region_later wr (by kernel_rfl) (by kernel_rfl) (Below.drew_self wr) ?_
                      repeat (go_big_quiet_step ((go_at_call 25; exact Later.call (E2.out _))))
                      refine wpQuiet_nil ?_
                      rintro _ ⟨⟨w4, hb4⟩, rfl⟩
                      clear HK HK' e0 e0' e1 e1' e2 e2' e3 e3'
                      go_wp2_with fail
                      go_ret
                      exact ⟨ret_bool (by rw [HZ.out]), by rw [← HG.out]; exact (hWb.trans (hbel.mono (by omega))).trans (hb4.mono (by omega))⟩
                    · have HCB3 : Hid (sameChans cf df 0 = (sameArrs true (cf.ins k) (df.ins k) && sameChans cf df (k + 1))) := Lib.hid (by rw [HST.out, HCB2.out]; rfl)
                      go_wp2_with fail
                      refine wp_region_later wr (by kernel_rfl) (by kernel_rfl) (Below.drew_self wr) ?_
                      repeat (go_big_quiet_step ((go_at_call 25; exact Later.call (E2.out _))))
                      refine wpQuiet_nil ?_
                      rintro _ ⟨⟨w4, hb4⟩, rfl⟩
                      clear HK HK' e0 e0' e1 e1' e2 e2' e3 e3' q5 q6 q7
                      have hb5 := hbel.trans (hb4.mono hsz)
                      clear hb4
                      go_wp2_with fail
                      go_loopw [6] (fun j wr => ∃ i : Nat, i ≤ (cf.ins k).length ∧ j = .int .i64 i ∧ Hid (sameArrs true ((cf.ins k).drop i) ((df.ins k).drop i) = sameArrs true (cf.ins k) (df.ins k)) ∧ Below W.heap.size W wr) (fun j _ => (cf.ins k).length - (intOf j).toNat)
                      case atStart => exact ⟨0, Nat.zero_le _, rfl, Lib.hid rfl, hb5⟩
                      case round =>
                        clear hb5 hbel hsz E2
                        obtain ⟨w5, rfl⟩ : ∃ x, x = wr := ⟨_, rfl⟩
                        obtain ⟨i, hi, rfl, HTI, hb5⟩ := hrel
                        have hs5 := hb5.size
                        obtain ⟨e4, e4'⟩ := HCH.out.i w5 hb5
                        by_cases hlt' : i < (cf.ins k).length
                        · have hlt2 : i < (df.ins k).length := by omega
                          obtain ⟨b, off, S1, X1, xn, xc, Y1, yn, yc, rfl, hb, HA, g0, g1, g2⟩ := arr_at HCH.out.li.2 HCH.out.li.1 (wr := w5) (HKB.out w5 hb5) hlt'
                          obtain ⟨b', off', S2, X2, xn', xc', Y2, yn', yc', rfl, hb', HA', g0', g1', g2'⟩ := arr_at HCH.out.li'.2 HCH.out.li'.1 (wr := w5) (HKB.out w5 hb5) hlt2
                          have HSD := Lib.hid (sameArrs_drop true hlt' hlt2)
                          have E3 := Lib.hid (fun (x : Later w5) => refSame_any _ (cf.ins k)[i] (df.ins k)[i] _ _ x.w B (Nat.lt_succ_self _) (HA.out.below (HKW.out x.w (hb5.trans (x.b.mono hs5)))) (HA'.out.below (HKW.out x.w (hb5.trans (x.b.mono hs5)))) (by have := x.b.size; omega))
                          have HK : ∀ (x : Later w5) (o : Nat), x.w.cell? ⟨g, o, none⟩ = w5.cell? ⟨g, o, none⟩ := fun x o => x.b.cell (p := ⟨g, o, none⟩) (show g < w5.heap.size by omega)
                          have HK' : ∀ (x : Later w5) (o : Nat), x.w.cell? ⟨g + 1, o, none⟩ = w5.cell? ⟨g + 1, o, none⟩ := fun x o => x.b.cell (p := ⟨g + 1, o, none⟩) (show g + 1 < w5.heap.size by omega)
                          have HKa : ∀ (x : Later w5) (o : Nat), x.w.cell? ⟨b, o, none⟩ = w5.cell? ⟨b, o, none⟩ := fun x o => x.b.cell (p := ⟨b, o, none⟩) (show b < w5.heap.size by omega)
                          have HKb : ∀ (x : Later w5) (o : Nat), x.w.cell? ⟨b', o, none⟩ = w5.cell? ⟨b', o, none⟩ := fun x o => x.b.cell (p := ⟨b', o, none⟩) (show b' < w5.heap.size by omega)
                          generalize same true (cf.ins k)[i] (df.ins k)[i] = SS at *
                          have hi0 : (0 : Int) ≤ (i : Int) := by omega
                          have hi1 : (i : Int) < ((cf.ins k).length : Int) := by omega
                          have hi2 : (i : Int) < ((df.ins k).length : Int) := by omega
                          go_wp2_with fail
                          refine wp_region_later w5 (by kernel_rfl) (by kernel_rfl) (Below.drew_self w5) ?_
                          repeat (go_big_quiet_step ((go_at_call 26; exact Later.call (E3.out _))))
                          refine wpQuiet_nil ?_
                          rintro _ ⟨⟨w6, hb6⟩, rfl⟩
                          clear HK HK' HKa HKb e4 e4' g0 g1 g2 g0' g1' g2'
                          have hb7 := hb5.trans (hb6.mono hs5)
                          cases SS
                          · have HZ : Hid (R = false) := Lib.hid (by rw [HR2.out, HCB3.out, ← HTI.out, HSD.out]; rfl)
                            go_wp2_with fail
                            go_ret
                            exact ⟨ret_bool (by rw [HZ.out]), by rw [← HG.out]; exact hWb.trans (hb7.mono (by omega))⟩
                          · have HZ : Hid (sameArrs true ((cf.ins k).drop (i + 1)) ((df.ins k).drop (i + 1)) = sameArrs true (cf.ins k) (df.ins k)) := Lib.hid (by rw [← HTI.out, HSD.out]; rfl)
                            go_wp2_with fail
                            go_roundw
                            case rel => exact ⟨i + 1, by omega, by go_num, HZ, hb7⟩
                            case measure => simp [intOf]; omega
                        · have HZ : Hid (sameChans cf df (k + 1) = sameChans cf df 0) := Lib.hid (by
                            have e : i = (cf.ins k).length := by omega
                            have h : sameArrs true (cf.ins k) (df.ins k) = true := by rw [← HTI.out, e, List.drop_length, HN.out, List.drop_length, sameArrs]
                            rw [HCB3.out, h]; rfl)
                          go_wp2_with fail
                          go_roundw
                          case rel => exact ⟨k + 1, by omega, by go_num, HZ, hb5⟩
                          case measure => simp [intOf]; omega
                  · have q7 : (((cf.ins k).length : Int) != ((df.ins k).length : Int)) = true := by simp; omega
                    have HZ := Lib.hid (HZZ.out (by
                      rw [HCB.out]
                      cases e : sameArrs true (cf.ins k) (df.ins k)
                      · simp
                      · exact absurd (HSL.out e) hn))
                    clear hn
                    go_wp2_with fail
                    refine wp_region_later wr (by kernel_rfl) (by kernel_rfl) (Below.drew_self wr) ?_
                    repeat (go_big_quiet_step ((go_at_call 25; exact Later.call (E2.out _))))
                    refine wpQuiet_nil ?_
                    rintro _ ⟨⟨w4, hb4⟩, rfl⟩
                    clear HK HK' e0 e0' e1 e1' e2 e2' e3 e3'
                    go_wp2_with fail
                    go_ret
                    exact ⟨ret_bool (by rw [HZ.out]), by rw [← HG.out]; exact (hWb.trans (hbel.mono (by omega))).trans (hb4.mono (by omega))⟩
                · have q6 : ((cf.label k : Int) != (df.label k : Int)) = true := by simp; omega
                  have HZ := Lib.hid (HZZ.out (by rw [HCB.out]; simp [hll]))
                  clear hll
                  go_wp2_with fail
                  refine wp_region_later wr (by kernel_rfl) (by kernel_rfl) (Below.drew_self wr) ?_
                  repeat (go_big_quiet_step ((go_at_call 25; exact Later.call (E2.out _))))
                  refine wpQuiet_nil ?_
                  rintro _ ⟨⟨w4, hb4⟩, rfl⟩
                  clear HK HK' e0 e0' e1 e1' e2 e2' e3 e3'
                  go_wp2_with fail
                  go_ret
                  exact ⟨ret_bool (by rw [HZ.out]), by rw [← HG.out]; exact (hWb.trans (hbel.mono (by omega))).trans (hb4.mono (by omega))⟩
              · have q5 : ((cf.clear k : Int) != (df.clear k : Int)) = true := by simp; omega
                have HZ := Lib.hid (HZZ.out (by rw [HCB.out]; simp [hcc]))
                clear hcc
                go_wp2_with fail
                refine wp_region_later wr (by kernel_rfl) (by kernel_rfl) (Below.drew_self wr) ?_
                repeat (go_big_quiet_step ((go_at_call 25; exact Later.call (E2.out _))))
                refine wpQuiet_nil ?_
                rintro _ ⟨⟨w4, hb4⟩, rfl⟩
                clear HK HK' e0 e0' e1 e1' e2 e2' e3 e3'
                go_wp2_with fail
                go_ret
                exact ⟨ret_bool (by rw [HZ.out]), by rw [← HG.out]; exact (hWb.trans (hbel.mono (by omega))).trans (hb4.mono (by omega))⟩
            · obtain rfl : k = 8 := by omega
              have HZ : Hid (R = true) := Lib.hid (by rw [HR2.out, ← HT.out, sameChans_end])
              go_wp2_with fail
              go_ret
              exact ⟨ret_bool (by rw [HZ.out]), by rw [← HG.out]; exact hWb.trans (hbel.mono (by omega))⟩
        · have q6 : (cf.depth != df.depth) = true := by simpa using hd
          have HZ := Lib.hid (HBAD.out (.inr (.inr (.inr hd))))
          clear HBAD HGOOD hd
          go_enter Tryz.func11, Tryz.ntmps11
          go_wp2_with fail
          go_ret
          exact ⟨ret_bool (by rw [HZ.out]), by rw [HW.out] at hWb; exact hWb⟩
      · have q5 : (cf.quota != df.quota) = true := by simpa using hq
        have HZ := Lib.hid (HBAD.out (.inr (.inr (.inl hq))))
        clear HBAD HGOOD hq
        go_enter Tryz.func11, Tryz.ntmps11
        go_wp2_with fail
        go_ret
        exact ⟨ret_bool (by rw [HZ.out]), by rw [HW.out] at hWb; exact hWb⟩
    · have q4 : (cf.fuel != df.fuel) = true := by simpa using hf
      have HZ := Lib.hid (HBAD.out (.inr (.inl hf)))
      clear HBAD HGOOD hf
      go_enter Tryz.func11, Tryz.ntmps11
      go_wp2_with fail
      go_ret
      exact ⟨ret_bool (by rw [HZ.out]), by rw [HW.out] at hWb; exact hWb⟩
  · have q3 : ((cf.auth : Int) != (df.auth : Int)) = true := by simp; omega
    have HZ := Lib.hid (HBAD.out (.inl ha))
    clear HBAD HGOOD ha
    go_enter Tryz.func11, Tryz.ntmps11
    go_wp2_with fail
    go_ret
    exact ⟨ret_bool (by rw [HZ.out]), by rw [HW.out] at hWb; exact hWb⟩
end Go.Proofs.YtmiccalfamepdaaGreatDoor

/-
  space.Net and space.Cut.
-/
namespace Go.Proofs.YtmiccalfamepdaaGreatDoor
open Go.RowKit
set_option maxHeartbeats 2000000
set_option maxRecDepth 100000
set_option linter.unusedVariables false

/-- The table of the powers of ten. -/
structure Ten20 (w : World) : Prop where
  tab : Lib.TabIs Tryz.prog w "internal/strconv.uint64pow10" .u64 Lib.pow10Tab
  lt : ∀ g, Tryz.prog.globalNamed "internal/strconv.uint64pow10" = some g → g < w.heap.size
theorem Ten20.below {w w' : World} (h : Ten20 w) (hb : Below w.heap.size w w') : Ten20 w' := ⟨by
  have ht := h.tab
  unfold Lib.TabIs World.var? at *
  cases he : Tryz.prog.globalNamed "internal/strconv.uint64pow10" with
  | none => simp [he] at ht
  | some g =>
    simp only [he, Option.bind_some] at ht ⊢
    rw [hb.block g (h.lt g he)]
    exact ht, fun g e => Nat.lt_of_lt_of_le (h.lt g e) hb.size⟩
theorem net29_any (s : List UInt8) (w : World) (hs : s.length < 100000000) (hT : Ten20 w) :
    Calls Tryz.prog 28 #[.string ⟨s.toArray⟩] w fun e w' => e = .returned (.string ⟨(Nw.net s).toArray⟩) ∧ Below w.heap.size w w' := by
  have hsz : (⟨s.toArray⟩ : ByteArray).size = s.length := rfl
  have HSZ := Lib.hid hsz
  have DE := Tryz.strconv_Itoa (s.length : Int) (by omega) (by omega) w hT.tab
  rw [Lib.itoa_nonneg] at DE
  replace DE := Lib.hid DE
  have hp := (Ten.dec_len (r := s.length) (k := 9) (by omega)).2
  have HN := Lib.hid (nw_net s)
  generalize Lib.decDigits s.length = D at *
  have q1 : ¬ 9223372036854775807 < D.length + 1 := by omega
  have q2 : ¬ 9223372036854775807 < D.length + 1 + s.length := by omega
  have q3 : ¬ 9223372036854775807 < D.length + 1 + s.length + 1 := by omega
  clear hT
  go_enter Tryz.func28, Tryz.ntmps28
  go_wp2_with fail
  refine DE.out.mono ?_
  rintro e w1 ⟨rfl, kk, os, hw1⟩
  have hb1 : Below w.heap.size w w1 := by rw [hw1]; exact Lib.below_grow _ _ (Nat.le_refl _) _ _
  clear hw1
  go_wp2_with fail
  go_ret
  exact ⟨by rw [← HN.out]; rfl, hb1⟩

/-- What is taken off, or nothing. -/
def Nw.cutV : Option (List UInt8 × List UInt8) → Value
  | some (a, b) => .tuple #[.string ⟨a.toArray⟩, .string ⟨b.toArray⟩, .bool true]
  | none => .tuple #[.string ⟨#[]⟩, .string ⟨#[]⟩, .bool false]
theorem nw_from (s : List UInt8) (n : Nat) : (⟨s.toArray⟩ : ByteArray).extract n s.length = ⟨(s.drop n).toArray⟩ := by
  apply ByteArray.ext
  simp
  exact List.take_of_length_le (by simp)
theorem nw_upto (s : List UInt8) (n : Nat) (h : n ≤ s.length) : (⟨s.toArray⟩ : ByteArray).extract 0 n = ⟨(s.take n).toArray⟩ := by
  apply ByteArray.ext
  simp
theorem cut29_any (s : List UInt8) (w : World) (hs : s.length ≤ 1000000) :
    Calls Tryz.prog 60 #[.string ⟨s.toArray⟩] w fun e w' => e = .returned (Nw.cutV (Nw.cut s)) ∧ Below w.heap.size w w' := by
  have hsz : (⟨s.toArray⟩ : ByteArray).size = s.length := rfl
  have HSZ := Lib.hid hsz
  have HNO : Hid (Nw.cut s = none → Ending.returned (.tuple #[.string ⟨#[]⟩, .string ⟨#[]⟩, .bool false]) = .returned (Nw.cutV (Nw.cut s))) := Lib.hid (fun h => by rw [h]; rfl)
  go_enter Tryz.func60, Tryz.ntmps60
  go_wp2
  go_loop [5, 6] (fun a i => ∃ k n : Nat, k ≤ s.length ∧ n ≤ s.length ∧ a = .int .i64 (n : Int) ∧ i = .int .i64 (k : Int) ∧ Hid (Nw.DecAt s k n) ∧ Hid (1 < k → 10 ≤ Ten.numOf (s.take 2))) (fun _ i => s.length - (intOf i).toNat)
  case atStart => exact ⟨0, 0, Nat.zero_le _, Nat.zero_le _, rfl, rfl, Lib.hid ⟨Nat.zero_le _, by simp [Ten.numOf]⟩, Lib.hid (fun h => by omega)⟩
  case round =>
    obtain ⟨k, n, hk, hn, rfl, rfl, H, HZ⟩ := hrel
    by_cases hdig : ∃ hlt : k < s.length, 48 ≤ s[k].toNat ∧ s[k].toNat ≤ 57
    · obtain ⟨hlt, h1', h2'⟩ := hdig
      obtain ⟨y, hy⟩ : ∃ y, y = s[k].toNat := ⟨_, rfl⟩
      have hgy : ((⟨s.toArray⟩ : ByteArray)[k]'(show k < (⟨s.toArray⟩ : ByteArray).size from hlt)).toNat = y := hy.symm
      rw [← hy] at h1' h2'
      have h3 : Nw.DecAt s (k + 1) (10 * n + (y - 48)) := ⟨nw_step H.out.le hlt (by rw [nw_dB hy]; exact decide_eq_true ⟨h1', h2'⟩), by rw [Nw.take_succ_num hlt, ← H.out.num, ← hy]⟩
      have HB : Hid (s.length < 10 * n + (y - 48) → Nw.cut s = none) := Lib.hid (fun h => Nw.cut_big h3.le (by rw [← h3.num]; exact h))
      have HC : Hid (10 * n + (y - 48) < 10 → 1 < k + 1 → Nw.cut s = none) := Lib.hid (fun h h' => Nw.cut_zero h3.le h' (by rw [← h3.num]; exact h))
      have HD : Hid (¬ (10 * n + (y - 48) < 10 ∧ 1 < k + 1) → 1 < k + 1 → 10 ≤ Ten.numOf (s.take 2)) := Lib.hid (fun h h' => by
        by_cases e : k = 1
        · have h5 := h3.num
          rw [e] at h5
          have h6 : Ten.numOf (s.take (1 + 1)) = Ten.numOf (s.take 2) := rfl
          omega
        · exact HZ.out (by omega))
      have H3 := Lib.hid h3
      have hw1 : IntKind.u8.wrap ((y : Int) - 48) = ((y - 48 : Nat) : Int) := by rw [show (y : Int) - 48 = ((y - 48 : Nat) : Int) by omega]; exact IntWalk.u8_in _ (by omega)
      obtain ⟨n', hn'⟩ : ∃ n', n' = 10 * n + (y - 48) := ⟨_, rfl⟩
      rw [← hn'] at HB HC HD H3
      have HN' := Lib.hid hn'
      clear h3 hy hn'
      go_upto_region 3 with fail
      go_cut [5] from 8 to 45 (fun x wx => x = .int .i64 (n' : Int) ∧ wx = w)
      case first =>
        go_wp2
        go_meet
        exact ⟨congrArg (Value.int .i64) (by have := HN'.out; omega), rfl⟩
      obtain ⟨rfl, rfl⟩ := hcut
      rename World => w
      clear hw1
      by_cases c1 : s.length < n'
      · have HE := Lib.hid (HNO.out (HB.out c1))
        go_wp2
        go_ret3
        exact ⟨HE.out, Below.refl _ _⟩
      · by_cases c2 : n' < 10
        · by_cases c3 : k = 0
          · have HE : Hid (1 < k + 1 → 10 ≤ Ten.numOf (s.take 2)) := Lib.hid (by omega)
            have c4 : ¬ (1 : Int) < (k : Int) + 1 := by omega
            have c5 : k < s.length := hlt
            replace c3 := Lib.hid c3
            go_wp2
            go_round
            case rel => exact ⟨k + 1, n', by omega, by omega, rfl, by go_num, H3, HE⟩
            case measure => simp [intOf]; omega
          · have HE := Lib.hid (HNO.out (HC.out c2 (by omega)))
            have c4 : (1 : Int) < (k : Int) + 1 := by omega
            go_wp2
            go_ret3
            exact ⟨HE.out, Below.refl _ _⟩
        · have HE := Lib.hid (HD.out (by omega))
          go_wp2
          go_round
          case rel => exact ⟨k + 1, n', by omega, by omega, rfl, by go_num, H3, HE⟩
          case measure => simp [intOf]; omega
    · have hlead : Dg.lead s = k := by
        by_cases hlt : k < s.length
        · refine nw_stop H.out.le hlt ?_
          rw [nw_dB rfl]
          exact decide_eq_false (fun h => hdig ⟨hlt, h⟩)
        · have := Dg.lead_le s
          have := H.out.le
          omega
      have hcut : Nw.cut s = Nw.after s k n := by rw [Nw.cut_read (fun h => HZ.out (by omega)), hlead, ← H.out.num]
      have HA := Lib.hid hcut
      clear hcut hlead H HZ
      by_cases hlt : k < s.length
      · obtain ⟨y, hy⟩ : ∃ y, y = s[k].toNat := ⟨_, rfl⟩
        have hgy : ((⟨s.toArray⟩ : ByteArray)[k]'(show k < (⟨s.toArray⟩ : ByteArray).size from hlt)).toNat = y := hy.symm
        have hnd : ¬ (48 ≤ y ∧ y ≤ 57) := fun h => hdig ⟨hlt, by rw [← hy]; exact h⟩
        have HG : Hid (s.getD k 0 = 58 ↔ y = 58) := Lib.hid (by
          rw [hy, List.getD_eq_getElem?_getD, List.getElem?_eq_getElem hlt, Option.getD_some]
          exact ⟨fun e => by rw [e]; rfl, fun e => UInt8.toNat_inj.1 e⟩)
        clear hdig hy
        have HF : Hid (¬ (k ≠ 0 ∧ y = 58) → Nw.cut s = none) := Lib.hid (fun h => by
          rw [HA.out]
          unfold Nw.after
          split
          · rfl
          · rw [if_neg (by omega), if_pos (fun e => h ⟨by assumption, HG.out.1 e⟩)])
        by_cases hk0 : k = 0
        · have HE := Lib.hid (HNO.out (HF.out (fun h => h.1 hk0)))
          clear HA HG HF
          subst hk0
          by_cases h1 : 48 ≤ y
          · have h2 : ¬ y ≤ 57 := fun h => hnd ⟨h1, h⟩
            go_wp2
            go_ret3
            exact ⟨HE.out, Below.refl _ _⟩
          · go_wp2
            go_ret3
            exact ⟨HE.out, Below.refl _ _⟩
        · by_cases hy58 : y = 58
          · have HG' := Lib.hid (HG.out.2 hy58)
            subst hy58
            have z1 : ((k : Int) == 0) = false := beq_eq_false_iff_ne.2 (by omega)
            have z2 : ((k : Int) == (s.length : Int)) = false := beq_eq_false_iff_ne.2 (by omega)
            obtain ⟨T, hT⟩ : ∃ T, T = s.drop (k + 1) := ⟨_, rfl⟩
            have hTl : T.length = s.length - (k + 1) := by rw [hT, List.length_drop]
            have HT : Hid ((⟨s.toArray⟩ : ByteArray).extract (k + 1) s.length = ⟨T.toArray⟩) := Lib.hid (by rw [nw_from, hT])
            have HTT := Lib.hid hT
            have HTL := Lib.hid hTl
            have hw1 : IntKind.i64.wrap ((k : Int) + 1) = (k : Int) + 1 := IntWalk.i64_in _ (by omega)
            have hw2 : (0 : Int) ≤ (k : Int) + 1 := by omega
            have hw3 : (k : Int) + 1 ≤ (s.length : Int) := by omega
            have hw4 : ((k : Int) + 1).toNat = k + 1 := by omega
            have hTm : T.length ≤ 1000000 := by omega
            clear hT hTl hnd HF HG
            go_upto_region 9 with fail
            go_cut [7] from 8 (fun x wx => x = .string ⟨T.toArray⟩ ∧ wx = w)
            case first =>
              go_wp2
              go_meet
              exact ⟨congrArg Value.string HT.out, rfl⟩
            obtain ⟨rfl, rfl⟩ := hcut
            rename World => w
            clear hw1 hw2 hw3 hw4 hgy z1 z2 HT
            have HQ : Hid (Nw.cut s = if T.length ≤ n then none else if T.getD n 0 ≠ 44 then none else some (T.take n, T.drop (n + 1))) := Lib.hid (by rw [HA.out, Nw.after_T hk0 hlt HG'.out, ← HTT.out])
            clear HA HG' HTT HTL
            have htz : (⟨T.toArray⟩ : ByteArray).size = T.length := rfl
            have HTZ := Lib.hid htz
            by_cases hnl : n < T.length
            · obtain ⟨z, hz⟩ : ∃ z, z = T[n].toNat := ⟨_, rfl⟩
              have hgz : ((⟨T.toArray⟩ : ByteArray)[n]'(show n < (⟨T.toArray⟩ : ByteArray).size from hnl)).toNat = z := hz.symm
              have HZ4 : Hid (T.getD n 0 = 44 ↔ z = 44) := Lib.hid (by
                rw [hz, List.getD_eq_getElem?_getD, List.getElem?_eq_getElem hnl, Option.getD_some]
                exact ⟨fun e => by rw [e]; rfl, fun e => UInt8.toNat_inj.1 e⟩)
              clear hz
              by_cases hz44 : z = 44
              · have HE : Hid (Ending.returned (.tuple #[.string ⟨(T.take n).toArray⟩, .string ⟨(T.drop (n + 1)).toArray⟩, .bool true]) = .returned (Nw.cutV (Nw.cut s))) := Lib.hid (by rw [HQ.out, if_neg (by omega), if_neg (fun e => e (HZ4.out.2 hz44))]; rfl)
                have SU := Lib.hid (nw_upto T n (by omega))
                have SF := Lib.hid (nw_from T (n + 1))
                have hw1 : IntKind.i64.wrap ((n : Int) + 1) = (n : Int) + 1 := IntWalk.i64_in _ (by omega)
                have hw2 : (0 : Int) ≤ (n : Int) + 1 := by omega
                have hw3 : (n : Int) + 1 ≤ (T.length : Int) := by omega
                have hw4 : ((n : Int) + 1).toNat = n + 1 := by omega
                have hw5 : (0 : Int) ≤ (n : Int) := by omega
                have hw6 : (n : Int) < (T.length : Int) := by omega
                subst hz44
                clear HQ HZ4
                go_wp2_with fail
                go_quiet (fail)
                go_wp2_with fail
                go_ret3
                exact ⟨by rw [← HE.out, ← SU.out, ← SF.out]; rfl, ⟨rfl, rfl, rfl, Nat.le_refl _, fun _ _ => rfl⟩⟩
              · have HE := Lib.hid (HNO.out (by rw [HQ.out]; split; rfl; rw [if_pos (fun e => hz44 (HZ4.out.1 e))]))
                have z3 : ((z : Int) != 44) = true := by simp; omega
                clear HQ HZ4
                go_wp2
                go_ret3
                exact ⟨HE.out, Below.refl _ _⟩
            · have HE := Lib.hid (HNO.out (by rw [HQ.out, if_pos (by omega)]))
              clear HQ
              have hnl' : (T.length : Int) ≤ (n : Int) := by omega
              go_wp2
              go_ret3
              exact ⟨HE.out, Below.refl _ _⟩
          · have HE := Lib.hid (HNO.out (HF.out (fun h => hy58 h.2)))
            have z1 : ((k : Int) == 0) = false := beq_eq_false_iff_ne.2 (by omega)
            have z2 : ((k : Int) == (s.length : Int)) = false := beq_eq_false_iff_ne.2 (by omega)
            have z3 : ((y : Int) != 58) = true := by simp; omega
            clear HA HG HF
            by_cases h1 : 48 ≤ y
            · have h2 : ¬ y ≤ 57 := fun h => hnd ⟨h1, h⟩
              go_wp2
              go_ret3
              exact ⟨HE.out, Below.refl _ _⟩
            · go_wp2
              go_ret3
              exact ⟨HE.out, Below.refl _ _⟩
      · have HE := Lib.hid (HNO.out (by rw [HA.out]; unfold Nw.after; split; rfl; rw [if_pos (by omega)]))
        have e : ¬ (k : Int) < (s.length : Int) := by omega
        clear hdig HA
        by_cases hk0 : k = 0
        · subst hk0
          go_wp2
          go_ret3
          exact ⟨HE.out, Below.refl _ _⟩
        · have e2 : (k : Int) = (s.length : Int) := by omega
          replace e2 := Lib.hid e2
          go_wp2
          all_goals first | (go_ret3; exact ⟨HE.out, Below.refl _ _⟩) | skip
end Go.Proofs.YtmiccalfamepdaaGreatDoor

/-
  config.words: numbers, decimal, with blanks between.
-/
namespace Go.Proofs.YtmiccalfamepdaaGreatDoor
open Go.RowKit Ar
set_option maxHeartbeats 4000000
set_option maxRecDepth 100000
set_option linter.unusedVariables false

def sv (s : List UInt8) : Value := .string ⟨s.toArray⟩
/-- Numbers as text. -/
def wordsT (l : List Int) : List UInt8 := Lib.join (l.map Lib.itoa) [32]
theorem wjoin_two (x y : List UInt8) (r : List (List UInt8)) (s : List UInt8) : Lib.join (x :: y :: r) s = x ++ (s ++ Lib.join (y :: r) s) := by
  simp [Lib.join, List.intercalate, List.intersperse]
theorem wjoin_len (m : Nat) : ∀ xs : List (List UInt8), (∀ x ∈ xs, x.length ≤ m) → (Lib.join xs [32]).length ≤ (m + 1) * xs.length
  | [], _ => by simp [Lib.join_nil]
  | [x], h => by rw [Lib.join_one]; have := h x List.mem_cons_self; simp; omega
  | x :: y :: r, h => by
    rw [wjoin_two]
    have h1 := h x List.mem_cons_self
    have h2 := wjoin_len m (y :: r) (fun z hz => h z (List.mem_cons_of_mem _ hz))
    have e : (m + 1) * (x :: y :: r).length = (m + 1) + (m + 1) * (y :: r).length := by rw [List.length_cons, Nat.mul_succ]; omega
    rw [e]
    simp only [List.length_append, List.length_singleton]
    omega
theorem itoa_len {n : Int} (h1 : -9223372036854775808 ≤ n) (h2 : n ≤ 9223372036854775807) : (Lib.itoa n).length ≤ 21 := by
  unfold Lib.itoa
  split
  · have := (Ten.dec_len (k := 19) (r := n.natAbs) (by omega)).2
    simp only [List.length_cons]; omega
  · have := (Ten.dec_len (k := 19) (r := n.toNat) (by omega)).2
    omega
theorem wordsT_len {l : List Int} (hw : Wf64 l) : (wordsT l).length ≤ 22 * l.length := by
  have := wjoin_len 21 (l.map Lib.itoa) (fun x hx => by
    obtain ⟨n, hn, rfl⟩ := List.mem_map.1 hx
    exact itoa_len (hw n hn).1 (hw n hn).2)
  rwa [List.length_map] at this
def wsAt (l : List Int) (k : Nat) : List Value := (l.take k).map (fun n => sv (Lib.itoa n)) ++ List.replicate (l.length - k) (sv [])
theorem wsAt_set {l : List Int} {k : Nat} (hk : k < l.length) : (wsAt l k).set k (sv (Lib.itoa l[k])) = wsAt l (k + 1) := by
  unfold wsAt
  have e1 : ((l.take k).map (fun n => sv (Lib.itoa n))).length = k := by simp; omega
  rw [List.set_append_right _ _ (by omega), e1, Nat.sub_self, show l.length - k = (l.length - (k + 1)) + 1 by omega, List.replicate_succ, List.set_cons_zero, List.take_succ_eq_append_getElem hk, List.map_append, List.append_assoc]
  rfl
theorem wsAt_get {l : List Int} {k : Nat} (hk : k < l.length) : (wsAt l k)[k]? = some (sv []) := by
  unfold wsAt
  have e1 : ((l.take k).map (fun n => sv (Lib.itoa n))).length = k := by simp; omega
  rw [List.getElem?_append_right (by omega), e1, Nat.sub_self, show l.length - k = (l.length - (k + 1)) + 1 by omega, List.replicate_succ]
  rfl
theorem wsAt_end {l : List Int} {k : Nat} (hk : k = l.length) : wsAt l k = l.map (fun n => sv (Lib.itoa n)) := by
  unfold wsAt; rw [hk, List.take_length, Nat.sub_self]; simp
theorem wstr_info : (Tryz.prog.info? 9).map (fun i => (i.zero, i.size, i.bytes)) = some (some (.string ⟨#[]⟩), 1, 16) := by kernel_rfl
theorem words_any (l : List Int) (A : Option Addr) (c : Nat) (w : World) (B : Nat) (hl : Lies w B A (I64 l)) (hB : B ≤ w.heap.size) (hn : l.length ≤ 1000000) (hw : Wf64 l) (hT : Ten20 w) :
    Calls Tryz.prog 29 #[.slice A l.length c] w fun e w' => e = .returned (sv (wordsT l)) ∧ Below w.heap.size w w' := by
  obtain ⟨i0, hi, hz0, hz1, hz2⟩ := info_parts wstr_info
  have HA := Lib.hid hl
  have HW64 := Lib.hid hw
  have IT := Lib.hid (fun (wx : World) (hx : Below w.heap.size w wx) (n : Int) (h : n ∈ l) => Tryz.strconv_Itoa n (hw n h).1 (hw n h).2 wx (hT.below hx).tab)
  have HLEN := Lib.hid (wordsT_len hw)
  clear hl hw hT
  go_enter Tryz.func29, Tryz.ntmps29
  go_wp2_with (at_make; refine wpList_make_blk _ rfl _ _ 71 rfl 9 i0 (.string ⟨#[]⟩) Tryz.underlying71 hi hz0 hz1 rfl .i64 .i64 _ _ l.length l.length rfl rfl rfl rfl (Nat.le_refl _) (by rw [hz2]; omega) (by omega) w.heap.size w (Below.refl _ _) (Nat.le_refl _) ?_; intro w1 hblk1 hbel1 _ hlt1)
  obtain ⟨g, hg⟩ : ∃ g, g = w.heap.size := ⟨_, rfl⟩
  rw [← hg] at hblk1 hbel1 hB hlt1 IT ⊢
  have HG := Lib.hid hg
  clear hg
  have hb0 : Blk w1 g 9 (wsAt l 0) := by unfold wsAt sv; simpa using hblk1
  clear hblk1
  go_loopw [4, 5, 11] (fun _ _ i wr => ∃ k : Nat, k ≤ l.length ∧ i = .int .i64 k ∧ Blk wr g 9 (wsAt l k) ∧ Below g w wr) (fun _ _ i _ => l.length - (intOf i).toNat)
  case atStart => exact ⟨0, Nat.zero_le _, rfl, hb0, hbel1⟩
  case round =>
    clear hb0 hbel1 hlt1
    obtain ⟨k, hk, rfl, hblk, hbel⟩ := hrel
    have hgl := hblk.lt
    by_cases hlt : k < l.length
    · obtain ⟨b, off, rfl, hb, g0⟩ := lies_i64 HA.out hlt
      have g1 : wr.cell? ⟨b, off + k, none⟩ = some (.int .i64 l[k]) := (hbel.cell (p := ⟨b, off + k, none⟩) (show b < g by omega)).trans g0
      have IT1 := Lib.hid (IT.out wr hbel l[k] (List.getElem_mem hlt))
      have HSET := Lib.hid (wsAt_set hlt)
      have HGET := Lib.hid (wsAt_get hlt)
      clear g0
      generalize l[k] = x at *
      have hk0 : (0 : Int) ≤ (k : Int) := by omega
      have hk1 : (k : Int) < (l.length : Int) := by omega
      have HBLK := Lib.hid hblk
      have HBEL := Lib.hid hbel
      clear hblk hbel
      go_wp2_with fail
      refine IT1.out.mono ?_
      rintro e w2 ⟨rfl, kk, os, hw2⟩
      have hb2 : Below wr.heap.size wr w2 := by rw [hw2]; exact Lib.below_grow _ _ (Nat.le_refl _) _ _
      clear hw2
      have hblk2 := HBLK.out.keep hb2 hgl
      have hc2 := hblk2.cell HGET.out
      have hf2 := hblk2.frozen k
      have HB2 := Lib.hid hb2
      have HK2 := Lib.hid hblk2
      clear hb2 hblk2 g1
      go_wp2_with fail
      go_roundw
      case rel => exact ⟨k + 1, by omega, by go_num, by rw [← HSET.out]; exact HK2.out.set_ k _, (HBEL.out.trans (HB2.out.mono (by omega))).setCell (p := ⟨g, k, none⟩) (Nat.le_refl _) _⟩
      case measure => simp [intOf]; omega
    · have hke : k = l.length := by omega
      have hbw : Below w.heap.size w wr := by rw [← HG.out]; exact hbel
      rcases Nat.eq_zero_or_pos l.length with h0 | h0
      · have hx : wordsT l = [] := by rw [List.eq_nil_of_length_eq_zero h0]; rfl
        have HX := Lib.hid hx
        have q0 : (l.length : Int) = 0 := by omega
        have JN := Lib.hid (Tryz.strings_Join_none (some ⟨g, 0, none⟩) l.length ⟨#[32]⟩ wr)
        rw [h0] at JN
        clear hblk
        generalize l.length = n at *
        subst h0
        go_wp2_with (go_at_call 56; refine JN.out.mono ?_; rintro e w' ⟨rfl, rfl⟩)
        go_ret
        exact ⟨by rw [HX.out]; rfl, hbw⟩
      · have hj := Tryz.strings_Join g 0 l.length ((l.map Lib.itoa).map fun s => (⟨s.toArray⟩ : ByteArray)) ⟨#[32]⟩ wr (fun j x hx => by
          rw [Nat.zero_add]
          refine hblk.cell ?_
          rw [wsAt_end hke, List.getElem?_map]
          rw [List.getElem?_map, List.getElem?_map] at hx
          obtain ⟨y, hy, rfl⟩ := Option.map_eq_some_iff.1 hx
          obtain ⟨z, hz, rfl⟩ := Option.map_eq_some_iff.1 hy
          rw [hz]; rfl) hgl (by simp; omega) (by simp) (by
          have := HLEN.out
          unfold wordsT at this
          rw [List.map_map, show ((fun x : ByteArray => x.data.toList) ∘ fun s : List UInt8 => (⟨s.toArray⟩ : ByteArray)) = id from rfl, List.map_id]
          exact Nat.le_trans this (by omega))
        rw [List.length_map, List.length_map, List.map_map, show ((fun x : ByteArray => x.data.toList) ∘ fun s : List UInt8 => (⟨s.toArray⟩ : ByteArray)) = id from rfl, List.map_id] at hj
        have HJ2 := Lib.hid hj
        clear hj hblk
        go_wp2_with (go_at_call 56; refine HJ2.out.mono ?_; rintro e w' ⟨rfl, hbj⟩)
        go_ret
        exact ⟨rfl, hbw.trans (hbj.mono hbw.size)⟩
end Go.Proofs.YtmiccalfamepdaaGreatDoor

/-
  What label.Text computes, for every label.
-/
namespace Go.Proofs.YtmiccalfamepdaaGreatDoor
open Go.RowKit
set_option maxHeartbeats 1000000
set_option maxRecDepth 100000

theorem str_info : (Tryz.prog.info? 9).map (fun i => (i.zero, i.size, i.bytes)) = some (some (.string ⟨#[]⟩), 1, 16) := by kernel_rfl
/-- A list of bytes as a string value. -/
def strV (s : List UInt8) : Value := .string ⟨s.toArray⟩

theorem str_app (a b : List UInt8) : (⟨a.toArray⟩ : ByteArray) ++ (⟨b.toArray⟩ : ByteArray) = ⟨(a ++ b).toArray⟩ := by
  apply ByteArray.ext
  simp
theorem str_app3 (a b : List UInt8) : ((⟨a.toArray⟩ : ByteArray) ++ (⟨#[45]⟩ : ByteArray)) ++ (⟨b.toArray⟩ : ByteArray) = ⟨(a ++ 45 :: b).toArray⟩ := by
  apply ByteArray.ext
  simp
theorem str_braces (a : List UInt8) : ((⟨#[123]⟩ : ByteArray) ++ (⟨a.toArray⟩ : ByteArray)) ++ (⟨#[125]⟩ : ByteArray) = ⟨(123 :: (a ++ [125])).toArray⟩ := by
  apply ByteArray.ext
  simp

theorem text_any (l : Nat) (w : World) (hl : l < 18446744073709551616) (hT : Tab64 w) (hB : 0 < w.heap.size) :
    Calls Tryz.prog 30 #[.int .u64 (l : Int)] w fun e w' => e = .returned (strV (Lab.text l)) ∧ Below w.heap.size w w' := by
  obtain ⟨i0, hi, hz0, hz1, hz2⟩ := info_parts str_info
  have hlen := Lab.tags_len l
  have HT := Lib.hid hT
  clear hT
  go_enter Tryz.func30, Tryz.ntmps30
  go_wp2_with (first
    | (go_at_call 57; refine (tags_any _ _ hl HT.out hB).mono ?_; rintro e w1 ⟨v, rfl, hown1, hb1⟩; obtain ⟨A, c, rfl, _, _⟩ := own_slice hown1; have HL := Lib.hid (Lies.of_own hown1); clear hown1)
    | (at_make; refine wpList_make_own _ rfl _ _ 71 rfl w1.heap.size 9 i0 (.string ⟨#[]⟩) 1 Tryz.underlying71 hi hz0 hz1 .i64 .i64 _ (Lab.tags l).length rfl rfl rfl (by rw [hz2]; omega) (by unfold maxLen; omega) (Nat.le_refl _) ?_; intro w0 hown0 hgrow0))
  have hbel0 : Below w1.heap.size w1 w0 := (Below.refl _ _).grown hgrow0 (Nat.le_refl _) (by simp)
  clear hgrow0
  have hbB : w.heap.size ≤ w1.heap.size := hb1.size
  go_loopw [4, 5] (fun v i wr => ∃ (k p : Nat) (ps : List (List UInt8)), k ≤ (Lab.tags l).length ∧ ps.length ≤ k ∧ i = .int .i64 (k : Int) ∧ Hid ((Lab.tags l).drop k = Lab.tagsFrom l p ∧ ps ++ Lab.pieces l p = Lab.pieces l 0) ∧
      wr.ownsRow w1.heap.size 9 1 v ps.length (ps.map strV) ∧ Below w1.heap.size w1 wr) (fun _ i _ => (Lab.tags l).length - (intOf i).toNat)
  case atStart => exact ⟨0, 0, [], Nat.zero_le _, Nat.le_refl _, rfl, Lib.hid ⟨Lab.tags_from l, rfl⟩, hown0, hbel0⟩
  case round =>
    clear hown0 hbel0
    obtain ⟨i, p, ps, hk, hps, rfl, H, hown, hbel⟩ := hrel
    by_cases hlt : i < (Lab.tags l).length
    · obtain ⟨t, r, hcons⟩ : ∃ t r, Lab.tagsFrom l p = t :: r := by
        cases e : Lab.tagsFrom l p with
        | nil => have := H.out.1; rw [e] at this; have := List.drop_eq_nil_iff.1 this; omega
        | cons t r => exact ⟨t, r, rfl⟩
      obtain ⟨ht64, htb, htf⟩ := Lab.tagsFrom_head hcons
      have HD : Hid ((Lab.tags l).drop i = Lab.tagsFrom l t) := by rw [htf, ← hcons]; exact H.out.1
      have HP : Hid (ps ++ (Lab.piece (t, Lab.last l t) ++ Lab.pieces l (Lab.last l t + 1)) = Lab.pieces l 0) := by rw [← Lab.pieces_cons hcons]; exact H.out.2
      have HB := Lib.hid htb
      clear H hcons htf htb
      obtain ⟨b, off, rfl, hbb, HC⟩ : ∃ b off, A = some ⟨b, off, none⟩ ∧ b < w1.heap.size ∧ Hid (∀ q x : Nat, (Lab.tags l)[q]? = some x → w1.cell? ⟨b, off + q, none⟩ = some (.int .i64 (x : Int))) := by
        rcases HL.out with h | ⟨b, off, hA, hb, hc⟩
        · rw [List.map_eq_nil_iff] at h; rw [h] at hlt; simp at hlt
        · exact ⟨b, off, hA, hb, fun q x hx => hc q _ (by rw [List.getElem?_map, hx]; rfl)⟩
      go_wp2_with fail
      obtain ⟨wo, rfl⟩ : ∃ wo : World, wo = wr := ⟨_, rfl⟩
      go_loopw [6] (fun j wq => ∃ jn m : Nat, wq = wo.drewN m ∧ i ≤ jn ∧ jn < (Lab.tags l).length ∧ j = .int .i64 (jn : Int) ∧ Hid (∃ d, jn = i + d ∧ t + d ≤ Lab.last l t)) (fun j _ => (Lab.tags l).length - (intOf j).toNat)
      case atStart => exact ⟨i, 0, rfl, Nat.le_refl _, hlt, rfl, Lib.hid ⟨0, rfl, Lab.last_ge l t⟩⟩
      case round =>
        obtain ⟨jn, m, rfl, hij, hjn, rfl, HJ⟩ := hrel
        obtain ⟨d, hd1, hd2⟩ := HJ.out
        obtain ⟨_, hget, hdrop, _⟩ := Lab.run_at hl HB.out HD.out d hd2
        have HW : Hid (∀ q x : Nat, (Lab.tags l)[q]? = some x → wo.cell? ⟨b, off + q, none⟩ = some (.int .i64 (x : Int))) := fun q x hx => (hbel.cell (p := ⟨b, off + q, none⟩) hbb).trans (HC.out q x hx)
        have hcj := HW.out _ _ hget
        have hbt := Lab.last_lt hl HB.out
        rw [← hd1] at hcj
        obtain ⟨x, hx⟩ : ∃ x, x = t + d := ⟨_, rfl⟩
        rw [← hx] at hcj
        have hx64 : x < 64 := by omega
        by_cases hin : t + d < Lab.last l t
        · obtain ⟨_, hget2, _, hlt2⟩ := Lab.run_at hl HB.out HD.out (d + 1) (by omega)
          have hcn := HW.out _ _ hget2
          rw [show i + (d + 1) = jn + 1 from by omega, show t + (d + 1) = x + 1 from by omega] at hcn
          rw [show ((x + 1 : Nat) : Int) = (x : Int) + 1 from by omega] at hcn
          have hj1 : jn + 1 < (Lab.tags l).length := by omega
          have hdec : decide ((jn : Int) + 1 < ((Lab.tags l).length : Int)) = true := by simp; omega
          have HE := Lib.hid (And.intro hd1 hin)
          clear hd1 hx hin hget hget2 hdrop hlt2 hd2
          go_wp2_with fail
          go_quiet (fail)
          go_wp2_with fail
          go_roundw
          case rel => exact ⟨jn + 1, _, rfl, by omega, by omega, by go_num, Lib.hid ⟨d + 1, by have := HE.out.1; omega, HE.out.2⟩⟩
          case measure => simp [intOf]; omega
        · have hlast : t + d = Lab.last l t := by omega
          have hstop := Lab.run_stop hl HB.out HD.out hlast
          rw [← hd1] at hstop
          have HE := Lib.hid (And.intro hd1 hlast)
          have HX := Lib.hid hx
          have HDR := Lib.hid hdrop
          clear hd1 hin hget hdrop hd2 hlast
          have hci := HW.out i t (by have := (Lab.run_at hl HB.out HD.out 0 (Lab.last_ge l t)).2.1; simpa using this)
          have hsz := hbel.size
          have HF : Hid ((Lab.tags l).drop (jn + 1) = Lab.tagsFrom l (Lab.last l t + 1)) := by
            have h := HDR.out; have h1 := HE.out
            rw [← h1.2, h1.1]; exact h
          have HW2 : Hid (∀ wx : World, Below w1.heap.size w1 wx → wx.cell? ⟨b, off + jn, none⟩ = some (.int .i64 (x : Int))) := fun wx hx => (hx.cell (p := ⟨b, off + jn, none⟩) hbb).trans ((hbel.cell (p := ⟨b, off + jn, none⟩) hbb).symm.trans hcj)
          have h3 : jn = i ∨ jn = i + 1 ∨ i + 2 ≤ jn := by omega
          rcases hstop with hstop | ⟨y, hy, hyne, hylt, hy64⟩
          · have hdec : decide ((jn : Int) + 1 < ((Lab.tags l).length : Int)) = false := by simp; omega
            clear hx
            rcases h3 with h3 | h3 | h3
            · have HX2 : Hid (Lab.piece (t, Lab.last l t) = [Lib.decDigits x]) := Lib.hid (by
                have h1 := HE.out; have h2 := HX.out
                have e1 : Lab.last l t = t := by omega
                have e2 : x = t := by omega
                rw [e1, e2]; simp [Lab.piece])
              have hs1 : ((jn : Int) - (i : Int) == 1) = false := by simp; omega
              have hs0 : ((jn : Int) - (i : Int) == 0) = true := by simp; omega
              have hlj : jn ≤ i := by omega
              clear h3
              go_wp2_with fail
              go_quiet (fail)
              have hownq : (wo.drewN (m + nq)).ownsRow w1.heap.size 9 1 u4 ps.length (ps.map strV) := hown
              have hbq : Below w1.heap.size w1 (wo.drewN (m + nq)) := ⟨hbel.os, hbel.tape, hbel.output, hbel.size, hbel.block⟩
              go_wp2_with (first
                | (go_at_call 55; refine (Tryz.strconv_Itoa_small _ (by omega) _).mono ?_; rintro e w' ⟨rfl, rfl⟩)
                | (at_builtin; refine wpList_append_own _ rfl (.tmp 52) (.tmp 58) 71 rfl w1.heap.size 9 i0 (.string ⟨#[]⟩) 1 16 Tryz.underlying71 hi hz0 hz1 hz2 rfl (by decide) _ _ _ rfl (hownq.alloc _) ⟨_, 0, none⟩ 1 1 [strV (Lib.decDigits x)] rfl rfl (cell_one_new _ _ _) (by intro u hu; simp only [List.mem_singleton] at hu; subst hu; rfl) (by unfold maxLen; omega) (by omega) (by simp; omega) ?_; intro v2 w2 hown2 hgrow2 hnn2))
              have hb2 : Below w1.heap.size w1 w2 := (hbq.alloc (by simp; omega) _).grown hgrow2 (by simp; omega) (fun k hk => (hown.lt k hk).1)
              refine ⟨⟨jn + 1, Lab.last l t + 1, ps ++ [Lib.decDigits x], by omega, by simp; omega, by go_num, Lib.hid ⟨HF.out, ?_⟩, by simpa using hown2, hb2⟩, by simp [intOf]; omega⟩
              rw [List.append_assoc, ← HX2.out]; exact HP.out
            · have HX2 : Hid (Lab.piece (t, Lab.last l t) = [Lib.decDigits t, Lib.decDigits x]) := Lib.hid (by
                have h1 := HE.out; have h2 := HX.out
                have e1 : Lab.last l t = t + 1 := by omega
                have e2 : x = t + 1 := by omega
                rw [e1, e2]; simp [Lab.piece])
              have hs1 : ((jn : Int) - (i : Int) == 1) = true := by simp; omega
              have hlj : i + 1 ≤ jn := by omega
              clear h3
              go_wp2_with fail
              go_quiet (fail)
              have hownq : (wo.drewN (m + nq)).ownsRow w1.heap.size 9 1 u4 ps.length (ps.map strV) := hown
              have hbq : Below w1.heap.size w1 (wo.drewN (m + nq)) := ⟨hbel.os, hbel.tape, hbel.output, hbel.size, hbel.block⟩
              go_wp2_with (first
                | (go_at_call 55; refine (Tryz.strconv_Itoa_small _ (by omega) _).mono ?_; rintro e w' ⟨rfl, rfl⟩)
                | (at_builtin; refine wpList_append_own _ rfl (.tmp 44) (.tmp 50) 71 rfl w1.heap.size 9 i0 (.string ⟨#[]⟩) 1 16 Tryz.underlying71 hi hz0 hz1 hz2 rfl (by decide) _ _ _ rfl (hownq.alloc _) ⟨_, 0, none⟩ 1 1 [strV (Lib.decDigits t)] rfl rfl (cell_one_new _ _ _) (by intro u hu; simp only [List.mem_singleton] at hu; subst hu; rfl) (by unfold maxLen; omega) (by omega) (by simp; omega) ?_; intro v2 w2 hown2 hgrow2 hnn2; have hb2 : Below w1.heap.size w1 w2 := (hbq.alloc (by simp; omega) _).grown hgrow2 (by simp; omega) (fun k hk => (hown.lt k hk).1); have hsz2 := hb2.size; have hcj2 := HW2.out w2 hb2; clear hgrow2 hnn2)
                | (at_builtin; refine wpList_append_own _ rfl (.tmp 52) (.tmp 58) 71 rfl w1.heap.size 9 i0 (.string ⟨#[]⟩) 1 16 Tryz.underlying71 hi hz0 hz1 hz2 rfl (by decide) _ _ _ rfl (hown2.alloc _) ⟨_, 0, none⟩ 1 1 [strV (Lib.decDigits x)] rfl rfl (cell_one_new _ _ _) (by intro u hu; simp only [List.mem_singleton] at hu; subst hu; rfl) (by unfold maxLen; omega) (by omega) (by simp; omega) ?_; intro v3 w3 hown3 hgrow3 hnn3))
              have hb3 := (hb2.alloc (by omega) _).grown hgrow3 (by simp; omega) (fun k hk => (hown2.lt k hk).1)
              refine ⟨⟨jn + 1, Lab.last l t + 1, ps ++ [Lib.decDigits t, Lib.decDigits x], by omega, by simp; omega, by go_num, Lib.hid ⟨HF.out, ?_⟩, by simpa using hown3, hb3⟩, by simp [intOf]; omega⟩
              rw [List.append_assoc, ← HX2.out]; exact HP.out
            · have HX2 : Hid (Lab.piece (t, Lab.last l t) = [Lib.decDigits t ++ 45 :: Lib.decDigits x]) := Lib.hid (by
                have h1 := HE.out; have h2 := HX.out
                have e2 : x = Lab.last l t := by omega
                rw [e2]; unfold Lab.piece; rw [if_neg (by simp; omega), if_neg (by simp; omega)])
              have hs1 : ((jn : Int) - (i : Int) == 1) = false := by simp; omega
              have hs0 : ((jn : Int) - (i : Int) == 0) = false := by simp; omega
              have hdt := (Lab.dec_len ht64).2
              have hdx := (Lab.dec_len hx64).2
              have hno1 : (9223372036854775807 < (Lib.decDigits t).length + 1) = False := by simp; omega
              have hno2 : (9223372036854775807 < (Lib.decDigits t).length + 1 + (Lib.decDigits x).length) = False := by simp; omega
              go_wp2_with fail
              go_quiet (fail)
              have hownq : (wo.drewN (m + nq)).ownsRow w1.heap.size 9 1 u4 ps.length (ps.map strV) := hown
              have hbq : Below w1.heap.size w1 (wo.drewN (m + nq)) := ⟨hbel.os, hbel.tape, hbel.output, hbel.size, hbel.block⟩
              have hbr : Below w1.heap.size w1 (wo.drewN (m + nq + 1)) := ⟨hbel.os, hbel.tape, hbel.output, hbel.size, hbel.block⟩
              have hownr : (wo.drewN (m + nq + 1)).ownsRow w1.heap.size 9 1 u4 ps.length (ps.map strV) := hown
              go_wp2_with fail
              go_region_law (first
                | (refine step_append_lies _ (by rfl) (.tmp 60) (.tmp 73) 71 (by rfl) w1.heap.size 9 i0 (.string ⟨#[]⟩) 1 16 Tryz.underlying71 hi hz0 hz1 hz2 rfl (by omega) u4 ps.length (ps.map strV) (by rfl) (by exact (hownr.alloc _)) ⟨wo.heap.size, 0, none⟩ 1 1 [.string (⟨(Lib.decDigits t).toArray⟩ ++ ⟨#[45]⟩ ++ ⟨(Lib.decDigits x).toArray⟩)] (by rfl) (by rfl) (by exact cell_one_new _ _ _) (by intro u hu; simp only [List.mem_singleton] at hu; subst hu; rfl) (by omega) (by unfold maxLen; omega) (by omega) (by simp; omega) (wo.heap.size + 1) (by simp) ?_; intro g2 c2 w2 hown2 hgrow2 hg2 hg3)
                | (go_simp; (go_at_call 55; refine (Tryz.strconv_Itoa_small _ (by omega) _).mono ?_; rintro e w' ⟨rfl, rfl⟩)))
              all_goals
                have hb2 : Below w1.heap.size w1 w2 := (hbr.alloc (by simp; omega) _).grown hgrow2 (by simp; omega) (fun k hk => (hown.lt k hk).1)
                clear hgrow2
                go_wp2_with fail
                refine ⟨⟨jn + 1, Lab.last l t + 1, ps ++ [Lib.decDigits t ++ 45 :: Lib.decDigits x], by omega, by simp; omega, by go_num, Lib.hid ⟨HF.out, ?_⟩, ?_, hb2⟩, by simp [intOf]; omega⟩
                · rw [List.append_assoc, ← HX2.out]; exact HP.out
                · rw [List.length_append, List.map_append]; simpa [strV, str_app3] using hown2
          · have hdec : decide ((jn : Int) + 1 < ((Lab.tags l).length : Int)) = true := by simp; omega
            have hcn := HW.out _ _ hy
            have hne : ((y : Int) == (x : Int) + 1) = false := by simp; omega
            clear hx hy hyne
            rcases h3 with h3 | h3 | h3
            · have HX2 : Hid (Lab.piece (t, Lab.last l t) = [Lib.decDigits x]) := Lib.hid (by
                have h1 := HE.out; have h2 := HX.out
                have e1 : Lab.last l t = t := by omega
                have e2 : x = t := by omega
                rw [e1, e2]; simp [Lab.piece])
              have hs1 : ((jn : Int) - (i : Int) == 1) = false := by simp; omega
              have hs0 : ((jn : Int) - (i : Int) == 0) = true := by simp; omega
              have hlj : jn ≤ i := by omega
              clear h3
              go_wp2_with fail
              go_quiet (fail)
              have hownq : (wo.drewN (m + nq)).ownsRow w1.heap.size 9 1 u4 ps.length (ps.map strV) := hown
              have hbq : Below w1.heap.size w1 (wo.drewN (m + nq)) := ⟨hbel.os, hbel.tape, hbel.output, hbel.size, hbel.block⟩
              go_wp2_with (first
                | (go_at_call 55; refine (Tryz.strconv_Itoa_small _ (by omega) _).mono ?_; rintro e w' ⟨rfl, rfl⟩)
                | (at_builtin; refine wpList_append_own _ rfl (.tmp 52) (.tmp 58) 71 rfl w1.heap.size 9 i0 (.string ⟨#[]⟩) 1 16 Tryz.underlying71 hi hz0 hz1 hz2 rfl (by decide) _ _ _ rfl (hownq.alloc _) ⟨_, 0, none⟩ 1 1 [strV (Lib.decDigits x)] rfl rfl (cell_one_new _ _ _) (by intro u hu; simp only [List.mem_singleton] at hu; subst hu; rfl) (by unfold maxLen; omega) (by omega) (by simp; omega) ?_; intro v2 w2 hown2 hgrow2 hnn2))
              have hb2 : Below w1.heap.size w1 w2 := (hbq.alloc (by simp; omega) _).grown hgrow2 (by simp; omega) (fun k hk => (hown.lt k hk).1)
              refine ⟨⟨jn + 1, Lab.last l t + 1, ps ++ [Lib.decDigits x], by omega, by simp; omega, by go_num, Lib.hid ⟨HF.out, ?_⟩, by simpa using hown2, hb2⟩, by simp [intOf]; omega⟩
              rw [List.append_assoc, ← HX2.out]; exact HP.out
            · have HX2 : Hid (Lab.piece (t, Lab.last l t) = [Lib.decDigits t, Lib.decDigits x]) := Lib.hid (by
                have h1 := HE.out; have h2 := HX.out
                have e1 : Lab.last l t = t + 1 := by omega
                have e2 : x = t + 1 := by omega
                rw [e1, e2]; simp [Lab.piece])
              have hs1 : ((jn : Int) - (i : Int) == 1) = true := by simp; omega
              have hlj : i + 1 ≤ jn := by omega
              clear h3
              go_wp2_with fail
              go_quiet (fail)
              have hownq : (wo.drewN (m + nq)).ownsRow w1.heap.size 9 1 u4 ps.length (ps.map strV) := hown
              have hbq : Below w1.heap.size w1 (wo.drewN (m + nq)) := ⟨hbel.os, hbel.tape, hbel.output, hbel.size, hbel.block⟩
              go_wp2_with (first
                | (go_at_call 55; refine (Tryz.strconv_Itoa_small _ (by omega) _).mono ?_; rintro e w' ⟨rfl, rfl⟩)
                | (at_builtin; refine wpList_append_own _ rfl (.tmp 44) (.tmp 50) 71 rfl w1.heap.size 9 i0 (.string ⟨#[]⟩) 1 16 Tryz.underlying71 hi hz0 hz1 hz2 rfl (by decide) _ _ _ rfl (hownq.alloc _) ⟨_, 0, none⟩ 1 1 [strV (Lib.decDigits t)] rfl rfl (cell_one_new _ _ _) (by intro u hu; simp only [List.mem_singleton] at hu; subst hu; rfl) (by unfold maxLen; omega) (by omega) (by simp; omega) ?_; intro v2 w2 hown2 hgrow2 hnn2; have hb2 : Below w1.heap.size w1 w2 := (hbq.alloc (by simp; omega) _).grown hgrow2 (by simp; omega) (fun k hk => (hown.lt k hk).1); have hsz2 := hb2.size; have hcj2 := HW2.out w2 hb2; clear hgrow2 hnn2)
                | (at_builtin; refine wpList_append_own _ rfl (.tmp 52) (.tmp 58) 71 rfl w1.heap.size 9 i0 (.string ⟨#[]⟩) 1 16 Tryz.underlying71 hi hz0 hz1 hz2 rfl (by decide) _ _ _ rfl (hown2.alloc _) ⟨_, 0, none⟩ 1 1 [strV (Lib.decDigits x)] rfl rfl (cell_one_new _ _ _) (by intro u hu; simp only [List.mem_singleton] at hu; subst hu; rfl) (by unfold maxLen; omega) (by omega) (by simp; omega) ?_; intro v3 w3 hown3 hgrow3 hnn3))
              have hb3 := (hb2.alloc (by omega) _).grown hgrow3 (by simp; omega) (fun k hk => (hown2.lt k hk).1)
              refine ⟨⟨jn + 1, Lab.last l t + 1, ps ++ [Lib.decDigits t, Lib.decDigits x], by omega, by simp; omega, by go_num, Lib.hid ⟨HF.out, ?_⟩, by simpa using hown3, hb3⟩, by simp [intOf]; omega⟩
              rw [List.append_assoc, ← HX2.out]; exact HP.out
            · have HX2 : Hid (Lab.piece (t, Lab.last l t) = [Lib.decDigits t ++ 45 :: Lib.decDigits x]) := Lib.hid (by
                have h1 := HE.out; have h2 := HX.out
                have e2 : x = Lab.last l t := by omega
                rw [e2]; unfold Lab.piece; rw [if_neg (by simp; omega), if_neg (by simp; omega)])
              have hs1 : ((jn : Int) - (i : Int) == 1) = false := by simp; omega
              have hs0 : ((jn : Int) - (i : Int) == 0) = false := by simp; omega
              have hdt := (Lab.dec_len ht64).2
              have hdx := (Lab.dec_len hx64).2
              have hno1 : (9223372036854775807 < (Lib.decDigits t).length + 1) = False := by simp; omega
              have hno2 : (9223372036854775807 < (Lib.decDigits t).length + 1 + (Lib.decDigits x).length) = False := by simp; omega
              go_wp2_with fail
              go_quiet (fail)
              have hownq : (wo.drewN (m + nq)).ownsRow w1.heap.size 9 1 u4 ps.length (ps.map strV) := hown
              have hbq : Below w1.heap.size w1 (wo.drewN (m + nq)) := ⟨hbel.os, hbel.tape, hbel.output, hbel.size, hbel.block⟩
              have hbr : Below w1.heap.size w1 (wo.drewN (m + nq + 1)) := ⟨hbel.os, hbel.tape, hbel.output, hbel.size, hbel.block⟩
              have hownr : (wo.drewN (m + nq + 1)).ownsRow w1.heap.size 9 1 u4 ps.length (ps.map strV) := hown
              go_wp2_with fail
              go_region_law (first
                | (refine step_append_lies _ (by rfl) (.tmp 60) (.tmp 73) 71 (by rfl) w1.heap.size 9 i0 (.string ⟨#[]⟩) 1 16 Tryz.underlying71 hi hz0 hz1 hz2 rfl (by omega) u4 ps.length (ps.map strV) (by rfl) (by exact (hownr.alloc _)) ⟨wo.heap.size, 0, none⟩ 1 1 [.string (⟨(Lib.decDigits t).toArray⟩ ++ ⟨#[45]⟩ ++ ⟨(Lib.decDigits x).toArray⟩)] (by rfl) (by rfl) (by exact cell_one_new _ _ _) (by intro u hu; simp only [List.mem_singleton] at hu; subst hu; rfl) (by omega) (by unfold maxLen; omega) (by omega) (by simp; omega) (wo.heap.size + 1) (by simp) ?_; intro g2 c2 w2 hown2 hgrow2 hg2 hg3)
                | (go_simp; (go_at_call 55; refine (Tryz.strconv_Itoa_small _ (by omega) _).mono ?_; rintro e w' ⟨rfl, rfl⟩)))
              all_goals
                have hb2 : Below w1.heap.size w1 w2 := (hbr.alloc (by simp; omega) _).grown hgrow2 (by simp; omega) (fun k hk => (hown.lt k hk).1)
                clear hgrow2
                go_wp2_with fail
                refine ⟨⟨jn + 1, Lab.last l t + 1, ps ++ [Lib.decDigits t ++ 45 :: Lib.decDigits x], by omega, by simp; omega, by go_num, Lib.hid ⟨HF.out, ?_⟩, ?_, hb2⟩, by simp [intOf]; omega⟩
                · rw [List.append_assoc, ← HX2.out]; exact HP.out
                · rw [List.length_append, List.map_append]; simpa [strV, str_app3] using hown2
    · have HPS : Hid (ps = Lab.pieces l 0) := by
        have h := H.out
        rw [List.drop_eq_nil_of_le (by omega)] at h
        rw [← h.2, Lab.pieces_nil h.1.symm, List.append_nil]
        exact rfl
      have HJ : Hid ((Lib.join ps [44]).length ≤ 384 ∧ ∀ x ∈ ps, 1 ≤ x.length) := by
        have h1 := Lab.pieces_len hl 0
        rw [← HPS.out] at h1
        have h2 := Lab.join_len_le ps (fun x hx => (h1 x hx).2)
        exact ⟨by omega, fun x hx => (h1 x hx).1⟩
      have hbw : Below w.heap.size w wr := hb1.trans (hbel.mono hbB)
      have HTX : Hid (Lab.text l = 123 :: (Lib.join ps [44] ++ [125])) := by rw [HPS.out]; exact rfl
      clear H HPS
      rcases Nat.eq_zero_or_pos ps.length with h0 | h0
      · obtain rfl := List.eq_nil_of_length_eq_zero h0
        obtain ⟨A', c', rfl, _, _⟩ := own_slice hown
        go_wp2_with (go_at_call 56; refine (Tryz.strings_Join_none _ _ _ _).mono ?_; rintro e w' ⟨rfl, rfl⟩)
        go_ret
        exact ⟨by rw [HTX.out]; rfl, hbw⟩
      · obtain ⟨g, cap, rfl, _, hg⟩ := hown.form h0
        obtain ⟨_, c', hv, hcap, _⟩ := own_slice hown
        injection hv with hA1 hA2 hcc
        subst hcc
        clear hA1 hA2
        have hj := Tryz.strings_Join g 0 cap (ps.map fun s => (⟨s.toArray⟩ : ByteArray)) ⟨#[44]⟩ wr (fun j x hx => by
          refine own_cell hown j _ ?_
          rw [List.getElem?_map] at hx ⊢
          obtain ⟨y, hy, rfl⟩ := Option.map_eq_some_iff.1 hx
          rw [hy]; rfl) hg (by rw [List.length_map]; omega) (by rw [List.length_map]; exact hcap) (by
          have := HJ.out.1
          rw [List.map_map, show ((fun x : ByteArray => x.data.toList) ∘ fun s : List UInt8 => (⟨s.toArray⟩ : ByteArray)) = id from rfl, List.map_id]
          exact Nat.le_trans this (by omega))
        rw [List.length_map, List.map_map, show ((fun x : ByteArray => x.data.toList) ∘ fun s : List UInt8 => (⟨s.toArray⟩ : ByteArray)) = id from rfl, List.map_id] at hj
        have HJ2 := Lib.hid hj
        clear hj
        obtain ⟨J, hJ⟩ : ∃ J, J = Lib.join ps [44] := ⟨_, rfl⟩
        have hJl : J.length ≤ 384 := by rw [hJ]; exact HJ.out.1
        have hno1 : (9223372036854775807 < 1 + J.length) = False := by simp; omega
        have hno2 : (9223372036854775807 < 1 + J.length + 1) = False := by simp; omega
        have HJ3 := Lib.hid hJ
        clear hJ
        go_wp2_with (go_at_call 56; refine HJ2.out.mono ?_; rintro e w' ⟨rfl, hbj⟩; rw [← HJ3.out])
        go_ret
        refine ⟨?_, hbw.trans (hbj.mono (Nat.le_trans hbB hbel.size))⟩
        rw [HTX.out, ← HJ3.out]
        exact congrArg (fun s => Ending.returned (.string s)) (str_braces J)
end Go.Proofs.YtmiccalfamepdaaGreatDoor

/-
  config.Text of the configuration of nothing.
-/
namespace Go.Proofs.YtmiccalfamepdaaGreatDoor
open Go.RowKit Ar
set_option maxHeartbeats 4000000
set_option maxRecDepth 100000
set_option linter.unusedVariables false

/-- The tables that the walks ask. -/
structure TabsC (w : World) : Prop where
  ten : Ten20 w
  tab : Tab64 w
  lt : 0 < w.heap.size
theorem TabsC.below {w w' : World} (h : TabsC w) (hb : Below w.heap.size w w') : TabsC w' := ⟨h.ten.below hb, h.tab.below h.lt hb, Nat.lt_of_lt_of_le h.lt hb.size⟩

/-! ### The configuration of nothing -/
def zC : Array Value := #[.int .u64 0, .int .u64 0, .int .u64 0, .int .u64 0, .int .u64 0, .int .u64 0, .int .u64 0, .int .u64 0, .slice none 0 0, .slice none 0 0, .slice none 0 0, .slice none 0 0, .slice none 0 0, .slice none 0 0, .slice none 0 0, .slice none 0 0, .int .u64 0, .int .u64 0, .int .u64 0, .int .u64 0, .int .u64 0, .int .u64 0, .int .u64 0, .int .u64 0, .slice none 0 0, .slice none 0 0, .slice none 0 0, .slice none 0 0, .slice none 0 0, .slice none 0 0, .slice none 0 0, .slice none 0 0, .int .u64 0, .int .i64 0, .int .i64 0, .int .i64 0]
def zCfg : Cfg := ⟨fun _ => 0, fun _ => 0, fun _ => [], fun _ => [], 0, 0, 0, 0⟩
theorem zC_u (k : Nat) (hk : k < 8) : zC[k]? = some (.int .u64 0) ∧ zC[8 + k]? = some (.slice none 0 0) ∧ zC[16 + k]? = some (.int .u64 0) ∧ zC[24 + k]? = some (.slice none 0 0) := by
  rcases (show k = 0 ∨ k = 1 ∨ k = 2 ∨ k = 3 ∨ k = 4 ∨ k = 5 ∨ k = 6 ∨ k = 7 by omega) with rfl | rfl | rfl | rfl | rfl | rfl | rfl | rfl <;> exact ⟨rfl, rfl, rfl, rfl⟩
theorem z_is (w : World) (B : Nat) : IsCfg w B zCfg zC :=
  { size := rfl
    clear := fun k hk => ⟨(zC_u k hk).1, by show (0 : Nat) < _; omega⟩
    ins := fun k hk => ⟨none, 0, [], (zC_u k hk).2.1, ⟨Nat.le_refl _, by simp [zCfg], by omega⟩, .inl rfl, by show IsArrs w B [] []; rw [IsArrs]⟩
    label := fun k hk => ⟨(zC_u k hk).2.2.1, by show (0 : Nat) < _; omega⟩
    draws := fun k hk => ⟨none, 0, (zC_u k hk).2.2.2, ⟨Nat.le_refl _, by simp [zCfg], by omega⟩, (fun n h => by cases h), .inl rfl⟩
    auth := rfl
    authLt := by show (0 : Nat) < _; omega
    fuel := rfl
    quota := rfl
    depth := rfl
    wf := fun n h => by
      have : n = 0 := by simpa [zCfg] using h
      subst this; omega }

/-! ### Its text -/
def headL : List UInt8 := [115, 99, 114, 105, 109, 32, 99, 111, 110, 102, 105, 103, 32, 49]
def chan0 : List UInt8 := Nw.net (Lab.text 0) ++ (Nw.net [] ++ (Nw.net (Lab.text 0) ++ Nw.net []))
def chans (k : Nat) : List UInt8 := (List.replicate k chan0).flatten
def pre0 : List UInt8 := Nw.net headL ++ (Nw.net (wordsT [0, 0, 0]) ++ Nw.net (Lab.text 0))
def txt0 (k : Nat) : List UInt8 := pre0 ++ chans k
theorem chans_more (k : Nat) : chans (k + 1) = chans k ++ chan0 := by unfold chans; rw [List.replicate_succ', List.flatten_append]; simp
theorem chans_front (k : Nat) : chans (k + 1) = chan0 ++ chans k := by unfold chans; rw [List.replicate_succ]; simp
theorem net_len {s : List UInt8} (h : s.length ≤ 1000) : (Nw.net s).length ≤ 2000 := by
  have := (Ten.dec_len (r := s.length) (k := 9) (by omega)).2
  unfold Nw.net
  simp only [List.length_append, List.length_cons, List.length_nil]
  omega
theorem lab0_len : (Lab.text 0).length ≤ 258 := Nat.le_trans (Lab.text_len (l := 0) (by omega)) (by omega)
theorem words3_len : (wordsT [0, 0, 0]).length ≤ 66 := wordsT_len (l := [0, 0, 0]) (fun n h => by simp at h; subst h; omega)
theorem chan0_len : chan0.length ≤ 8000 := by
  have a := net_len (s := Lab.text 0) (by have := lab0_len; omega)
  have b := net_len (s := []) (by simp)
  unfold chan0
  simp only [List.length_append]
  omega
theorem chans_len : ∀ k, (chans k).length ≤ 8000 * k
  | 0 => by simp [chans]
  | k + 1 => by
    rw [chans_more, List.length_append]
    have := chans_len k
    have := chan0_len
    omega
theorem txt0_len {k : Nat} (hk : k ≤ 8) : (txt0 k).length ≤ 100000 := by
  have := chans_len k
  have a := net_len (s := headL) (by decide)
  have b := net_len (s := wordsT [0, 0, 0]) (by have := words3_len; omega)
  have c := net_len (s := Lab.text 0) (by have := lab0_len; omega)
  unfold txt0 pre0
  simp only [List.length_append]
  omega
theorem txt0_next (k : Nat) : ((((txt0 k ++ Nw.net (Lab.text 0)) ++ Nw.net []) ++ Nw.net (Lab.text 0)) ++ Nw.net []) = txt0 (k + 1) := by
  unfold txt0; rw [chans_more]; unfold chan0; simp only [List.append_assoc]
theorem txt0_start : ((([] ++ Nw.net headL) ++ Nw.net (wordsT [0, 0, 0])) ++ Nw.net (Lab.text 0)) = txt0 0 := by
  unfold txt0 pre0 chans; simp

/-! ### What config.Text holds while it writes: the configuration's box, the builder. -/
theorem wsKK_any (B b : Nat) (l s : List UInt8) (w : World) (h : Lib.IsBuilderF 52 5 B b (Lib.byteCells l) w) (hlen : l.length + s.length ≤ 140737488355328) (hBw : B ≤ w.heap.size) :
    Calls Tryz.prog 27 #[.pointer (some ⟨b, 0, none⟩), .string ⟨s.toArray⟩] w fun e w' => (∃ v, e = .returned v) ∧ Lib.IsBuilderF 52 5 B b (Lib.byteCells (l ++ s)) w' ∧ Below B w w' ∧ Lib.OthersKept 5 (some b) w w' := by
  refine (Any.Builder_WriteString_k YtmiccalfamepdaaGreatDoorLaid YtmiccalfamepdaaGreatDoorExtra B b _ ⟨s.toArray⟩ w h (by rw [Lib.byteCells_length]; exact hlen) hBw).mono ?_
  rintro e w' ⟨he, hbd, hb, hk⟩
  exact ⟨⟨_, he⟩, .inr (by rw [Lib.byteCells_append]; exact hbd), hb, hk⟩
structure TxAt (w : World) (l : List UInt8) (W : World) : Prop where
  bel : Below w.heap.size w W
  sz : w.heap.size + 1 < W.heap.size
  box : W.heap[w.heap.size]? = some (.cells zC 29 (0, 0))
  bld : Lib.IsBuilderF 52 5 (w.heap.size + 1) (w.heap.size + 1) (Lib.byteCells l) W
theorem TxAt.below {w W W' : World} {l : List UInt8} (h : TxAt w l W) (hb : Below W.heap.size W W') : TxAt w l W' :=
  ⟨h.bel.trans (hb.mono h.bel.size), Nat.lt_of_lt_of_le h.sz hb.size, (hb.block _ (by have := h.sz; omega)).trans h.box, bldK_below h.bld hb⟩
theorem TxAt.write {w W : World} {l : List UInt8} (h : TxAt w l W) (s : List UInt8) (h1 : l.length ≤ 1000000) (h2 : s.length ≤ 1000000) :
    Calls Tryz.prog 27 #[.pointer (some ⟨w.heap.size + 1, 0, none⟩), .string ⟨s.toArray⟩] W fun e w' => (∃ v, e = .returned v) ∧ TxAt w (l ++ s) w' ∧ Lib.OthersKept 5 (some (w.heap.size + 1)) W w' := by
  refine (wsKK_any _ _ l s W h.bld (by omega) (by have := h.sz; omega)).mono ?_
  rintro e w' ⟨he, hbd, hb, hk⟩
  exact ⟨he, ⟨h.bel.trans (hb.mono (by omega)), Nat.lt_of_lt_of_le h.sz hb.size, (hb.block _ (by omega)).trans h.box, hbd⟩, hk⟩
theorem TxAt.cell {w W : World} {l : List UInt8} (h : TxAt w l W) (i : Nat) : W.cell? ⟨w.heap.size, i, none⟩ = zC[i]? := cell_of_row W _ i _ _ _ h.box
theorem tx_new (w : World) : TxAt w [] ((w.alloc (.cells zC 29)).alloc (.cells #[.pointer none, .slice none 0 0] 52)) := by
  refine ⟨((Below.refl _ _).alloc (Nat.le_refl _) _).alloc (by simp) _, by simp, heap_alloc2_old _ _ _, ?_⟩
  have h := bldK_new (w.alloc (.cells zC 29))
  simpa using h
end Go.Proofs.YtmiccalfamepdaaGreatDoor

/-
  config.Text of the configuration of nothing: the walk.
-/
namespace Go.Proofs.YtmiccalfamepdaaGreatDoor
open Go.RowKit Ar
set_option maxHeartbeats 4000000
set_option maxRecDepth 100000
set_option linter.unusedVariables false

theorem lies_three (w : World) (a b c : Int) : Lies (w.alloc (.cells #[.int .i64 a, .int .i64 b, .int .i64 c] 3)) (w.heap.size + 1) (some ⟨w.heap.size, 0, none⟩) (I64 [a, b, c]) := by
  refine .inr ⟨w.heap.size, 0, rfl, Nat.lt_succ_self _, fun i v hv => ?_⟩
  rw [Nat.zero_add, cell_of_row _ _ i _ _ _ (heap_alloc_new w _)]
  simpa [I64] using hv
theorem lab0_any (w : World) (h : TabsC w) :
    Calls Tryz.prog 30 #[.int .u64 0] w fun e w' => e = .returned (sv (Lab.text 0)) ∧ Below w.heap.size w w' := by
  have := text_any 0 w (by omega) h.tab h.lt
  rw [Int.natCast_zero] at this
  exact this
theorem words3_any (w : World) (h : TabsC w) :
    Calls Tryz.prog 29 #[.slice (some ⟨w.heap.size, 0, none⟩) 3 3] (w.alloc (.cells #[.int .i64 0, .int .i64 0, .int .i64 0] 3)) fun e w' => e = .returned (sv (wordsT [0, 0, 0])) ∧ Below (w.heap.size + 1) (w.alloc (.cells #[.int .i64 0, .int .i64 0, .int .i64 0] 3)) w' := by
  have hb : Below w.heap.size w (w.alloc (.cells #[.int .i64 0, .int .i64 0, .int .i64 0] 3)) := (Below.refl _ _).alloc (Nat.le_refl _) _
  have := words_any [0, 0, 0] (some ⟨w.heap.size, 0, none⟩) 3 (w.alloc (.cells #[.int .i64 0, .int .i64 0, .int .i64 0] 3)) (w.heap.size + 1) (lies_three w 0 0 0) (by simp) (by decide) (fun n h => by simp at h; subst h; omega) (h.ten.below hb)
  rw [show (w.alloc (.cells #[.int .i64 0, .int .i64 0, .int .i64 0] 3)).heap.size = w.heap.size + 1 by simp] at this
  exact this
theorem words0_any (w : World) (h : TabsC w) :
    Calls Tryz.prog 29 #[.slice none 0 0] w fun e w' => e = .returned (sv []) ∧ Below w.heap.size w w' :=
  words_any [] none 0 w 0 (.inl rfl) (Nat.zero_le _) (by decide) (fun n h => by cases h) h.ten
theorem text0_any (w : World) (hT : TabsC w) :
    Calls Tryz.prog 12 #[.agg zC] w fun e w' => e = .returned (sv (txt0 8)) ∧ Below w.heap.size w w' := by
  have NT := Lib.hid (fun (s : List UInt8) (hs : s.length ≤ 1000) (wx : World) (hx : Below w.heap.size w wx) => net29_any s wx (by omega) (hT.ten.below hx))
  have TX := Lib.hid (fun (wx : World) (hx : Below w.heap.size w wx) => lab0_any wx (hT.below hx))
  have WD := Lib.hid (fun (wx : World) (hx : Below w.heap.size w wx) => words3_any wx (hT.below hx))
  have W0 := Lib.hid (fun (wx : World) (hx : Below w.heap.size w wx) => words0_any wx (hT.below hx))
  have TW := Lib.hid (fun (W : World) (l : List UInt8) (h : TxAt w l W) s h1 h2 => h.write s h1 h2)
  have hx0 := tx_new w
  obtain ⟨W1, hW1⟩ : ∃ W1, W1 = (w.alloc (.cells zC 29)).alloc (.cells #[.pointer none, .slice none 0 0] 52) := ⟨_, rfl⟩
  rw [← hW1] at hx0
  have HX0 := Lib.hid hx0
  have HW1 := Lib.hid hW1
  have N0 := Lib.hid (NT.out headL (by decide) W1 hx0.bel)
  clear hx0 hW1 hT
  unfold headL at N0
  go_enter Tryz.func12, Tryz.ntmps12
  go_upto_region 2 with fail
  rw [← HW1.out]
  go_wp2_with fail
  refine N0.out.mono ?_
  rintro e W2 ⟨rfl, hb2⟩
  have hx2 := HX0.out.below hb2
  have T1 := Lib.hid (TW.out W2 _ hx2 (Nw.net headL) (by decide) (Nat.le_trans (net_len (by decide)) (by omega)))
  clear hb2 hx2 N0
  unfold headL at T1
  go_upto_region 3 with (go_at_call 27; refine T1.out.mono ?_; rintro e W3 ⟨⟨v1, rfl⟩, hx3, -⟩)
  have HX3 := Lib.hid hx3
  have p33 : W3.cell? ⟨w.heap.size, 33, none⟩ = some (.int .i64 0) := (hx3.cell 33).trans rfl
  have p34 : W3.cell? ⟨w.heap.size, 34, none⟩ = some (.int .i64 0) := (hx3.cell 34).trans rfl
  have p35 : W3.cell? ⟨w.heap.size, 35, none⟩ = some (.int .i64 0) := (hx3.cell 35).trans rfl
  have D1 := Lib.hid (WD.out W3 hx3.bel)
  clear hx3
  go_wp2_with fail
  refine D1.out.mono ?_
  rintro e W4 ⟨rfl, hb4⟩
  unfold sv
  have hal : Below W3.heap.size W3 (W3.alloc (.cells #[.int .i64 0, .int .i64 0, .int .i64 0] 3)) := (Below.refl _ _).alloc (Nat.le_refl _) _
  have hb4' : Below W3.heap.size W3 W4 := hal.trans (hb4.mono (Nat.le_succ _))
  have hx4 := HX3.out.below hb4'
  have N1 := Lib.hid (NT.out (wordsT [0, 0, 0]) (by have := words3_len; omega) W4 hx4.bel)
  clear hal hb4 hb4' p33 p34 p35 D1 T1
  go_wp2_with fail
  refine N1.out.mono ?_
  rintro e W5 ⟨rfl, hb5⟩
  have hx5 := hx4.below hb5
  have T2 := Lib.hid (TW.out W5 _ hx5 (Nw.net (wordsT [0, 0, 0])) (by rw [List.nil_append]; exact Nat.le_trans (net_len (by decide)) (by omega)) (Nat.le_trans (net_len (by have := words3_len; omega)) (by omega)))
  clear hx4 hb5 hx5 N1
  go_upto_region 4 with (go_at_call 27; refine T2.out.mono ?_; rintro e W6 ⟨⟨v2, rfl⟩, hx6, -⟩)
  have HX6 := Lib.hid hx6
  have p32 : W6.cell? ⟨w.heap.size, 32, none⟩ = some (.int .u64 0) := (hx6.cell 32).trans rfl
  have X1 := Lib.hid (TX.out W6 hx6.bel)
  clear hx6 T2
  go_wp2_with fail
  refine X1.out.mono ?_
  rintro e W7 ⟨rfl, hb7⟩
  unfold sv
  have hx7 := HX6.out.below hb7
  have N2 := Lib.hid (NT.out (Lab.text 0) (by have := lab0_len; omega) W7 hx7.bel)
  clear hb7 p32 X1
  go_wp2_with fail
  refine N2.out.mono ?_
  rintro e W8 ⟨rfl, hb8⟩
  have hx8 := hx7.below hb8
  have T3 := Lib.hid (TW.out W8 _ hx8 (Nw.net (Lab.text 0)) (by
    have a := net_len (s := headL) (by decide)
    have b := net_len (s := wordsT [0, 0, 0]) (by have := words3_len; omega)
    unfold headL at a
    simp only [List.nil_append, List.length_append]; omega) (Nat.le_trans (net_len (by have := lab0_len; omega)) (by omega)))
  have hs := txt0_start
  unfold headL at hs
  rw [hs] at T3
  clear hs
  clear hx7 hb8 hx8 N2
  go_upto_region 5 with (go_at_call 27; refine T3.out.mono ?_; rintro e W9 ⟨⟨v3, rfl⟩, hx9, -⟩)
  clear T3
  have HX9 := Lib.hid hx9
  clear hx9
  go_wp2_with fail
  go_loopw [4, 5, 7, 25] (fun _ _ _ i wr => ∃ k : Nat, k ≤ 8 ∧ i = .int .i64 k ∧ Hid (TxAt w (txt0 k) wr)) (fun _ _ _ i _ => 8 - (intOf i).toNat)
  case atStart => exact ⟨0, Nat.zero_le _, rfl, HX9⟩
  case round =>
    clear HX9 HX6 HX3 HX0
    obtain ⟨wq, rfl⟩ : ∃ x, x = wr := ⟨_, rfl⟩
    obtain ⟨k, hk, rfl, HX⟩ := hrel
    by_cases hlt : k < 8
    · obtain ⟨z0, z1, z2, z3⟩ := zC_u k hlt
      have hk0 : (0 : Int) ≤ (k : Int) := by omega
      have hk8 : (k : Int) < 8 := by omega
      obtain ⟨wa, hwa⟩ : ∃ wa, wa = wq.alloc (.cells #[.pointer none, .slice none 0 0] 52) := ⟨_, rfl⟩
      have hxa : TxAt w (txt0 k) wa := HX.out.below (by rw [hwa]; exact (Below.refl _ _).alloc (Nat.le_refl _) _)
      have hrow : wa.heap[wq.heap.size]? = some (.cells #[.pointer none, .slice none 0 0] 52 (0, 0)) := by rw [hwa]; exact heap_alloc_new _ _
      have hne : wq.heap.size ≠ w.heap.size + 1 := by have := HX.out.sz; omega
      have HWA := Lib.hid hwa
      clear hwa
      have p8 : wa.cell? ⟨w.heap.size, 8 + k, none⟩ = some (.slice none 0 0) := (hxa.cell (8 + k)).trans z1
      have p0 : wa.cell? ⟨w.heap.size, k, none⟩ = some (.int .u64 0) := (hxa.cell k).trans z0
      have HXA := Lib.hid hxa
      have HROW := Lib.hid hrow
      have HNE := Lib.hid hne
      have HL0 := Lib.hid (txt0_len hk)
      have X1 := Lib.hid (TX.out wa hxa.bel)
      clear hxa hrow hne HX z0 z1
      go_upto_region 9 with fail
      rw [← HWA.out]
      go_wp2_with fail
      clear p8
      go_loopw [7, 33] (fun _ i wx => i = .int .i64 0 ∧ wx = wa) (fun _ _ _ => 0)
      case atStart => exact ⟨rfl, rfl⟩
      case round =>
        obtain ⟨rfl, rfl⟩ := hrel
        go_wp2_with fail
        refine X1.out.mono ?_
        rintro e W7 ⟨rfl, hb7⟩
        unfold sv
        have hx7 := HXA.out.below hb7
        have hr7 := (hb7.block _ (Array.getElem?_eq_some_iff.1 HROW.out).1).trans HROW.out
        have HR7 := Lib.hid hr7
        have N2 := Lib.hid (NT.out (Lab.text 0) (by have := lab0_len; omega) W7 hx7.bel)
        clear hb7 p0 X1 hr7
        go_wp2_with fail
        refine N2.out.mono ?_
        rintro e W8 ⟨rfl, hb8⟩
        have hx8 := hx7.below hb8
        have hr8 := (hb8.block _ (Array.getElem?_eq_some_iff.1 HR7.out).1).trans HR7.out
        have HR8 := Lib.hid hr8
        have T3 := Lib.hid (TW.out W8 _ hx8 (Nw.net (Lab.text 0)) (by have := HL0.out; omega) (Nat.le_trans (net_len (by have := lab0_len; omega)) (by omega)))
        clear hx7 hb8 hx8 N2 hr8
        go_upto_region 15 with (go_at_call 27; refine T3.out.mono ?_; rintro e W9 ⟨⟨v3, rfl⟩, hx9, hk9⟩)
        have hr9 := hk9 _ _ HR8.out (fun e => HNE.out (by injection e)) (by intro c fz h; injection h with _ h; exact absurd h (by decide))
        have HX9 := Lib.hid hx9
        have S1 := Lib.hid (Any.Builder_String_nil Tryz.lays169 Tryz.Builder_Extra_169 W9.heap.size wq.heap.size (.pointer none) W9 hr9)
        clear T3 hx9 hk9 hr9
        go_wp2_with (go_at_call 32; refine S1.out.mono ?_; rintro e WA ⟨rfl, hbA⟩)
        have hxA := HX9.out.below hbA
        have N3 := Lib.hid (NT.out [] (by decide) WA hxA.bel)
        clear hbA S1
        have hcc := zC_u k hlt
        go_wp2_with fail
        refine N3.out.mono ?_
        rintro e WB ⟨rfl, hbB⟩
        have hxB := hxA.below hbB
        have T4 := Lib.hid (TW.out WB _ hxB (Nw.net []) (by have := HL0.out; have := net_len (s := Lab.text 0) (by have := lab0_len; omega); rw [List.length_append]; omega) (Nat.le_trans (net_len (by decide)) (by omega)))
        clear hxA hbB hxB N3 hcc
        go_upto_region 16 with (go_at_call 27; refine T4.out.mono ?_; rintro e WC ⟨⟨v4, rfl⟩, hxC, -⟩)
        have HXC := Lib.hid hxC
        have p16 : WC.cell? ⟨w.heap.size, 16 + k, none⟩ = some (.int .u64 0) := (hxC.cell (16 + k)).trans (zC_u k hlt).2.2.1
        have X2 := Lib.hid (TX.out WC hxC.bel)
        clear hxC T4
        go_wp2_with fail
        refine X2.out.mono ?_
        rintro e WD ⟨rfl, hbD⟩
        unfold sv
        have hxD := HXC.out.below hbD
        have N4 := Lib.hid (NT.out (Lab.text 0) (by have := lab0_len; omega) WD hxD.bel)
        clear hbD p16 X2
        go_wp2_with fail
        refine N4.out.mono ?_
        rintro e WE ⟨rfl, hbE⟩
        have hxE := hxD.below hbE
        have T5 := Lib.hid (TW.out WE _ hxE (Nw.net (Lab.text 0)) (by have := HL0.out; have := net_len (s := Lab.text 0) (by have := lab0_len; omega); have := net_len (s := []) (by decide); simp only [List.length_append]; omega) (Nat.le_trans (net_len (by have := lab0_len; omega)) (by omega)))
        clear hxD hbE hxE N4
        go_upto_region 17 with (go_at_call 27; refine T5.out.mono ?_; rintro e WF ⟨⟨v5, rfl⟩, hxF, -⟩)
        have HXF := Lib.hid hxF
        have p24 : WF.cell? ⟨w.heap.size, 24 + k, none⟩ = some (.slice none 0 0) := (hxF.cell (24 + k)).trans (zC_u k hlt).2.2.2
        have D3 := Lib.hid (W0.out WF hxF.bel)
        clear hxF T5
        go_wp2_with fail
        refine D3.out.mono ?_
        rintro e WG ⟨rfl, hbG⟩
        unfold sv
        have hxG := HXF.out.below hbG
        have N5 := Lib.hid (NT.out [] (by decide) WG hxG.bel)
        clear hbG p24 D3
        go_wp2_with fail
        refine N5.out.mono ?_
        rintro e WH ⟨rfl, hbH⟩
        have hxH := hxG.below hbH
        have T6 := Lib.hid (TW.out WH _ hxH (Nw.net []) (by have := HL0.out; have := net_len (s := Lab.text 0) (by have := lab0_len; omega); have := net_len (s := []) (by decide); simp only [List.length_append]; omega) (Nat.le_trans (net_len (by decide)) (by omega)))
        rw [txt0_next] at T6
        clear hxG hbH hxH N5
        go_upto_region 18 with (go_at_call 27; refine T6.out.mono ?_; rintro e WI ⟨⟨v6, rfl⟩, hxI, -⟩)
        have HXI := Lib.hid hxI
        clear hxI T6
        go_wp2_with fail
        go_roundw
        case rel => exact ⟨k + 1, by omega, by go_num, HXI⟩
        case measure => simp [intOf]; omega
    · obtain rfl : k = 8 := by omega
      have S2 := Lib.hid (Tryz.Builder_String_any_k (w.heap.size + 1) (w.heap.size + 1) _ wq HX.out.bld (by have := HX.out.sz; omega))
      go_wp2_with (go_at_call 32; refine S2.out.mono ?_; rintro e WA ⟨rfl, _, hbA, _⟩)
      go_ret
      exact ⟨rfl, HX.out.bel.trans (hbA.mono (Nat.le_succ _))⟩
end Go.Proofs.YtmiccalfamepdaaGreatDoor

/-
  What scrimref01.Decimal and Text compute.
-/
namespace Go.Proofs.YtmiccalfamepdaaGreatDoor
open Go.RowKit
set_option maxHeartbeats 1000000
set_option maxRecDepth 100000
set_option linter.unusedVariables false

theorem decimal_one (n : Nat) (w : World) (h : n < 10) :
    Calls Tryz.prog 64 #[.int .i64 (n : Int)] w fun e w' => e = .returned (strV (Lib.decDigits n)) ∧ w = w' := by
  have HD := Lib.hid (Lib.decDigits_one h)
  have h10 : n = 0 ∨ n = 1 ∨ n = 2 ∨ n = 3 ∨ n = 4 ∨ n = 5 ∨ n = 6 ∨ n = 7 ∨ n = 8 ∨ n = 9 := by omega
  rcases h10 with rfl | rfl | rfl | rfl | rfl | rfl | rfl | rfl | rfl | rfl
  all_goals
    go_enter Tryz.func64, Tryz.ntmps64
    go_wp2_with fail
    go_ret
    exact ⟨by rw [HD.out]; rfl, rfl⟩
theorem decimal_any (n : Nat) (w : World) (h : n < 100) :
    Calls Tryz.prog 64 #[.int .i64 (n : Int)] w fun e w' => e = .returned (strV (Lib.decDigits n)) ∧ w = w' := by
  by_cases h10 : n < 10
  · exact decimal_one n w h10
  · have HD : Lib.decDigits n = Lib.decDigits (n / 10) ++ Lib.decDigits (n % 10) := by
      rw [Lib.decDigits_two h10 h, Lib.decDigits_one (by omega : n / 10 < 10), Lib.decDigits_one (by omega : n % 10 < 10)]; rfl
    replace HD := Lib.hid HD
    have H1 := Lib.hid (decimal_one (n / 10) w (by omega))
    have H2 := Lib.hid (decimal_one (n % 10) w (by omega))
    have hp : (Lib.decDigits (n / 10)).length = 1 := by rw [Lib.decDigits_one (by omega : n / 10 < 10)]; rfl
    have hq : (Lib.decDigits (n % 10)).length = 1 := by rw [Lib.decDigits_one (by omega : n % 10 < 10)]; rfl
    generalize Lib.decDigits (n / 10) = p at HD H1 hp
    generalize Lib.decDigits (n % 10) = q at HD H2 hq
    have e1 : ((n / 10 : Nat) : Int) = (n : Int) / 10 := by omega
    have e2 : ((n % 10 : Nat) : Int) = (n : Int) % 10 := by omega
    rw [e1] at H1
    rw [e2] at H2
    clear e1 e2
    go_enter Tryz.func64, Tryz.ntmps64
    go_wp2_with fail
    refine H1.out.mono ?_
    rintro e w' ⟨rfl, rfl⟩
    rw [strV]
    go_wp2_with fail
    refine H2.out.mono ?_
    rintro e w' ⟨rfl, rfl⟩
    rw [strV]
    go_wp2_with fail
    go_ret
    exact ⟨by rw [HD.out]; simp only [strV, str_app]; rfl, rfl⟩
end Go.Proofs.YtmiccalfamepdaaGreatDoor
