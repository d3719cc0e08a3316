/-
  What nat.Cmp and scrimref02.Cmp compute: which of two numbers is greater.
-/
import Derived.Test.YtgicgmaiolfpkaaDoorNat1
namespace Go.Proofs.YtgicgmaiolfpkaaDoor
open Go.RowKit
set_option maxHeartbeats 1000000
set_option linter.unusedVariables false

theorem quiet_three (w : World) (a b c : Nat) : ∃ n, ((w.drewN a).drewN b).drewN c = w.drewN n := ⟨a + b + c, by rw [World.drewN_drewN, World.drewN_drewN, Nat.add_assoc]⟩

theorem cmp_any (A A' : Option Addr) (c c' B : Nat) (a b : List Nat) (w : World) (hx : Lies w B A (U a)) (hy : Lies w B A' (U b)) (ha : Nt.Ok a) (hb : Nt.Ok b)
    (hc : a.length ≤ c) (hc' : b.length ≤ c') (hm : c ≤ 9223372036854775807) (hm' : c' ≤ 9223372036854775807) :
    Calls Tryd.prog 28 #[.slice A a.length c, .slice A' b.length c'] w fun e w' => e = .returned (.int .i64 (Nt.cmp (Nt.val a) (Nt.val b))) ∧ ∃ n, w' = w.drewN n := by
  have ha' := Nt.digs_len_le ha
  have hb' := Nt.digs_len_le hb
  have HTA : Hid (a.take (Nt.digs (Nt.val a)).length = Nt.digs (Nt.val a)) := Lib.hid (Nt.take_digs ha)
  have HTB : Hid (b.take (Nt.digs (Nt.val b)).length = Nt.digs (Nt.val b)) := Lib.hid (Nt.take_digs hb)
  have HX : Hid (Lies w B A (U (Nt.digs (Nt.val a)))) := by
    have := hx.take (Nt.digs (Nt.val a)).length
    rw [show (U a).take (Nt.digs (Nt.val a)).length = U (a.take (Nt.digs (Nt.val a)).length) from List.map_take.symm, HTA.out] at this
    exact this
  have HY : Hid (Lies w B A' (U (Nt.digs (Nt.val b)))) := by
    have := hy.take (Nt.digs (Nt.val b)).length
    rw [show (U b).take (Nt.digs (Nt.val b)).length = U (b.take (Nt.digs (Nt.val b)).length) from List.map_take.symm, HTB.out] at this
    exact this
  have hta := trim_any A c B a w hx ha hc hm
  have htb := trim_any A' c' B b w hy hb hc' hm'
  have TA := Lib.hid hta
  have TB := Lib.hid htb
  have HVA := Lib.hid (Nt.val_digs (Nt.val a))
  have HVB := Lib.hid (Nt.val_digs (Nt.val b))
  have HOA := Lib.hid (Nt.ok_digs (Nt.val a))
  have HOB := Lib.hid (Nt.ok_digs (Nt.val b))
  have HLT := Lib.hid (fun h => Nt.digs_len_mono (x := Nt.val a) (y := Nt.val b) h)
  have HGT := Lib.hid (fun h => Nt.digs_len_mono (x := Nt.val b) (y := Nt.val a) h)
  clear hx hy hta htb HTA HTB
  generalize Nt.val a = x at *
  generalize Nt.val b = y at *
  generalize Nt.digs x = da at *
  generalize Nt.digs y = db at *
  by_cases h1 : da.length < db.length
  · have HE := Lib.hid (Nt.cmp_lt (HLT.out h1))
    go_enter Tryd.func28, Tryd.ntmps28
    go_wp2_with fail
    refine TA.out.mono ?_
    rintro e w' ⟨rfl, rfl⟩
    go_wp2_with fail
    refine TB.out.mono ?_
    rintro e w' ⟨rfl, rfl⟩
    go_wp2_with fail
    go_ret
    exact ⟨by rw [HE.out]; rfl, 0, rfl⟩
  · by_cases h2 : db.length < da.length
    · have HE := Lib.hid (Nt.cmp_gt (HGT.out h2))
      go_enter Tryd.func28, Tryd.ntmps28
      go_wp2_with fail
      refine TA.out.mono ?_
      rintro e w' ⟨rfl, rfl⟩
      go_wp2_with fail
      refine TB.out.mono ?_
      rintro e w' ⟨rfl, rfl⟩
      go_wp2_with fail
      go_ret
      exact ⟨by rw [HE.out]; rfl, 0, rfl⟩
    · have hlen : da.length ≤ db.length := by omega
      have hlen' : db.length ≤ da.length := by omega
      go_enter Tryd.func28, Tryd.ntmps28
      go_wp2_with fail
      refine TA.out.mono ?_
      rintro e w' ⟨rfl, rfl⟩
      go_wp2_with fail
      refine TB.out.mono ?_
      rintro e w' ⟨rfl, rfl⟩
      go_wp2_with fail
      go_loopw [5] (fun i wr => ∃ k m : Nat, wr = w.drewN m ∧ k ≤ da.length ∧ i = .int .i64 ((k : Int) - 1) ∧ Hid (da.drop k = db.drop k)) (fun i _ => (intOf i + 1).toNat)
      case atStart => exact ⟨da.length, 0, rfl, Nat.le_refl _, by go_num, Lib.hid (by rw [List.drop_length, List.drop_eq_nil_of_le hlen'])⟩
      case round =>
        obtain ⟨k, m, rfl, hk, rfl, H⟩ := hrel
        rcases k with _ | k
        · have HE : Hid (Nt.cmp x y = 0) := Lib.hid (by
            have h := H.out
            rw [List.drop_zero, List.drop_zero] at h
            rw [← HVA.out, ← HVB.out, h]; exact Nt.cmp_eq _)
          go_wp2_with fail
          go_ret
          exact ⟨by rw [HE.out]; rfl, _, rfl⟩
        · have hlt : k < da.length := by omega
          have hlt' : k < db.length := by omega
          obtain ⟨b1, off1, rfl, _, hc1⟩ := HX.out.limb hlt
          obtain ⟨b2, off2, rfl, _, hc2⟩ := HY.out.limb hlt'
          have P1 : Hid (da[k] < db[k] → Nt.cmp x y = -1) := Lib.hid (fun h => by
            have := Nt.val_lt_of HOA.out hlt hlt' H.out h
            rw [HVA.out, HVB.out] at this
            exact Nt.cmp_lt this)
          have P2 : Hid (db[k] < da[k] → Nt.cmp x y = 1) := Lib.hid (fun h => by
            have := Nt.val_lt_of HOB.out hlt' hlt H.out.symm h
            rw [HVA.out, HVB.out] at this
            exact Nt.cmp_gt this)
          have P3 : Hid (da[k] = db[k] → da.drop k = db.drop k) := Lib.hid (fun h => by
            rw [List.drop_eq_getElem_cons hlt, List.drop_eq_getElem_cons hlt', H.out, h])
          generalize da[k] = d1 at hc1 P1 P2 P3
          generalize db[k] = d2 at hc2 P1 P2 P3
          have hk1 : ((k + 1 : Nat) : Int) - 1 = (k : Int) := by omega
          rw [hk1]
          clear hk1
          rcases Nat.lt_trichotomy d1 d2 with h | h | h
          · have HE := Lib.hid (P1.out h)
            go_wp2_with fail
            go_quiet (fail)
            go_wp2_with fail
            go_ret
            exact ⟨by rw [HE.out]; rfl, _, World.drewN_drewN _ _ _⟩
          · have HE := Lib.hid (P3.out h)
            subst h
            go_wp2_with fail
            go_quiet (fail)
            go_wp2_with fail
            go_quiet (fail)
            go_wp2_with fail
            go_roundw
            case rel => exact ⟨k, _, rfl, by omega, by go_num, Lib.hid HE.out⟩
            case measure => first | (simp [intOf]; done) | (simp [intOf]; omega)
          · have HE := Lib.hid (P2.out h)
            go_wp2_with fail
            go_quiet (fail)
            go_wp2_with fail
            go_quiet (fail)
            go_wp2_with fail
            go_ret
            exact ⟨by rw [HE.out]; rfl, quiet_three _ _ _ _⟩

end Go.Proofs.YtgicgmaiolfpkaaDoor
