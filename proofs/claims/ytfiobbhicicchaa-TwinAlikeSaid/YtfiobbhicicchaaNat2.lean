/-
  What nat.Cmp and scrimref02.Cmp compute: which of two numbers is greater.
-/
import Derived.Test.YtfiobbhicicchaaNat1
namespace Go.Proofs.Ytfiobbhicicchaa
open Go.RowKit
set_option maxHeartbeats 1000000
set_option linter.unusedVariables false

theorem quiet_three (w : World) (a b c : Nat) : ∃ n, ((w.drewN a).drewN b).drewN c = w.drewN n := ⟨a + b + c, by rw [World.drewN_drewN, World.drewN_drewN, Nat.add_assoc]⟩

theorem refCmp_any (A A' : Option Addr) (c c' B : Nat) (a b : List Nat) (w : World) (hx : Lies w B A (U a)) (hy : Lies w B A' (U b)) (ha : Nt.Ok a) (hb : Nt.Ok b)
    (hc : a.length ≤ c) (hc' : b.length ≤ c') (hm : c ≤ 9223372036854775807) (hm' : c' ≤ 9223372036854775807) :
    Calls Try.prog 67 #[.slice A a.length c, .slice A' b.length c'] w fun e w' => e = .returned (.int .i64 (Nt.cmp (Nt.val a) (Nt.val b))) ∧ w = w' := by
  obtain ⟨n, hn⟩ : ∃ n, n = max a.length b.length := ⟨_, rfl⟩
  have hna : a.length ≤ n := by omega
  have hnb : b.length ≤ n := by omega
  have hnm : n ≤ 9223372036854775807 := by omega
  have HN := Lib.hid hn
  have LA := Lib.hid (fun i hi => limb_any A c B a i w hx hc hm hi ha)
  have LB := Lib.hid (fun i hi => limb_any A' c' B b i w hy hc' hm' hi hb)
  have PA := Lib.hid (Nt.pad_len hna)
  have PB := Lib.hid (Nt.pad_len hnb)
  have GA := Lib.hid (fun i (hi : i < (Nt.pad a n).length) => Nt.pad_get hi)
  have GB := Lib.hid (fun i (hi : i < (Nt.pad b n).length) => Nt.pad_get hi)
  have HVA := Lib.hid (Nt.val_pad a n)
  have HVB := Lib.hid (Nt.val_pad b n)
  have HOA := Lib.hid (Nt.ok_pad ha n)
  have HOB := Lib.hid (Nt.ok_pad hb n)
  clear hx hy ha hb hn
  generalize Nt.val a = x at *
  generalize Nt.val b = y at *
  generalize Nt.pad a n = da at *
  generalize Nt.pad b n = db at *
  go_enter Try.func67, Try.ntmps67
  go_wp2_with fail
  refine (longer_any A A' a.length b.length c c' _ (by omega) (by omega)).mono ?_
  rintro e w' ⟨rfl, rfl⟩
  rw [← HN.out]
  go_wp2_with fail
  go_loop [5] (fun i => ∃ k : Nat, k ≤ n ∧ i = .int .i64 ((k : Int) - 1) ∧ Hid (da.drop k = db.drop k)) (fun i => (intOf i + 1).toNat)
  case atStart => exact ⟨n, Nat.le_refl _, by go_num, Lib.hid (by rw [List.drop_eq_nil_of_le (by rw [PA.out]; omega), List.drop_eq_nil_of_le (by rw [PB.out]; omega)])⟩
  case round =>
    obtain ⟨k, hk, rfl, H⟩ := hrel
    rcases k with _ | k
    · have HE : Hid (Nt.cmp x y = 0) := Lib.hid (by
        have h := H.out
        rw [List.drop_zero, List.drop_zero] at h
        rw [← HVA.out, ← HVB.out, h]; exact Nt.cmp_eq _)
      go_wp2_with fail
      go_ret
      exact ⟨by rw [HE.out]; rfl, rfl⟩
    · have hlt : k < da.length := by rw [PA.out]; omega
      have hlt' : k < db.length := by rw [PB.out]; omega
      have P1 : Hid (a.getD k 0 < b.getD k 0 → Nt.cmp x y = -1) := Lib.hid (fun h => by
        rw [← GA.out k hlt, ← GB.out k hlt'] at h
        have := Nt.val_lt_of HOA.out hlt hlt' H.out h
        rw [HVA.out, HVB.out] at this
        exact Nt.cmp_lt this)
      have P2 : Hid (b.getD k 0 < a.getD k 0 → Nt.cmp x y = 1) := Lib.hid (fun h => by
        rw [← GA.out k hlt, ← GB.out k hlt'] at h
        have := Nt.val_lt_of HOB.out hlt' hlt H.out.symm h
        rw [HVA.out, HVB.out] at this
        exact Nt.cmp_gt this)
      have P3 : Hid (a.getD k 0 = b.getD k 0 → da.drop k = db.drop k) := Lib.hid (fun h => by
        rw [← GA.out k hlt, ← GB.out k hlt'] at h
        rw [List.drop_eq_getElem_cons hlt, List.drop_eq_getElem_cons hlt', H.out, h])
      have CA := Lib.hid (LA.out k (by omega))
      have CB := Lib.hid (LB.out k (by omega))
      clear hlt hlt'
      generalize a.getD k 0 = d1 at P1 P2 P3 CA
      generalize b.getD k 0 = d2 at P1 P2 P3 CB
      have hk1 : ((k + 1 : Nat) : Int) - 1 = (k : Int) := by omega
      rw [hk1]
      clear hk1
      rcases Nat.lt_trichotomy d1 d2 with h | h | h
      · have HE := Lib.hid (P1.out h)
        go_wp2_with fail
        refine CA.out.mono ?_
        rintro e w' ⟨rfl, rfl⟩
        go_wp2_with fail
        refine CB.out.mono ?_
        rintro e w' ⟨rfl, rfl⟩
        go_wp2_with fail
        go_ret
        exact ⟨by rw [HE.out]; rfl, rfl⟩
      · have HE := Lib.hid (P3.out h)
        subst h
        go_wp2_with fail
        refine CA.out.mono ?_
        rintro e w' ⟨rfl, rfl⟩
        go_wp2_with fail
        refine CB.out.mono ?_
        rintro e w' ⟨rfl, rfl⟩
        go_wp2_with fail
        refine CA.out.mono ?_
        rintro e w' ⟨rfl, rfl⟩
        go_wp2_with fail
        refine CB.out.mono ?_
        rintro e w' ⟨rfl, rfl⟩
        go_wp2_with fail
        go_round
        case rel => exact ⟨k, by omega, by go_num, Lib.hid HE.out⟩
        case measure => first | (simp [intOf]; done) | (simp [intOf]; omega)
      · have HE := Lib.hid (P2.out h)
        go_wp2_with fail
        refine CA.out.mono ?_
        rintro e w' ⟨rfl, rfl⟩
        go_wp2_with fail
        refine CB.out.mono ?_
        rintro e w' ⟨rfl, rfl⟩
        go_wp2_with fail
        refine CA.out.mono ?_
        rintro e w' ⟨rfl, rfl⟩
        go_wp2_with fail
        refine CB.out.mono ?_
        rintro e w' ⟨rfl, rfl⟩
        go_wp2_with fail
        go_ret
        exact ⟨by rw [HE.out]; rfl, rfl⟩
end Go.Proofs.Ytfiobbhicicchaa
