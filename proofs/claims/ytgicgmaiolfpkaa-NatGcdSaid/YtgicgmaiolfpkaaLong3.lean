/-
  What nat.estimate computes.
-/
import Derived.Test.YtgicgmaiolfpkaaLong2
import Derived.Test.YtgicgmaiolfpkaaLongMath4
import Derived.Deep.QuietTactic
import Derived.BigQuiet
import Derived.IntWalk
namespace Go.Proofs.Ytgicgmaiolfpkaa
open Go.RowKit
set_option maxHeartbeats 1000000
set_option linter.unusedVariables false

theorem estimate_any (A A' : Option Addr) (c c' B n : Nat) (a d : List Nat) (w : World) (hx : Lies w B A (U a)) (hy : Lies w B A' (U d)) (ha : Nt.Ok a) (hd : Nt.Ok d) (hla : a.length = n + 1) (hld : d.length = n) (hn : 2 ≤ n) (hn2 : n ≤ 1000000)
    (h31 : ∀ h : n - 1 < d.length, 2147483648 ≤ d[n - 1]) (hlt : Nt.val a < 4294967296 * Nt.val d) (hc : n + 1 ≤ c) (hc' : n ≤ c') :
    Calls Try.prog 37 #[.slice A (n + 1) c, .slice A' n c'] w fun e w' => ∃ g : Nat, e = .returned (.int .u64 (g : Int)) ∧ Hid (Nt.val a / Nt.val d ≤ g ∧ g ≤ Nt.val a / Nt.val d + 1) ∧ g < 4294967296 ∧ ∃ k, w' = w.drewN k := by
  have hE : ∃ p, Nt.Est (Nt.val a) (Nt.val d) p (d[n - 1]'(by omega)) (d[n - 2]'(by omega)) (a[n]'(by omega)) (a[n - 1]'(by omega)) (a[n - 2]'(by omega)) := by
    obtain ⟨m, rfl⟩ : ∃ m, n = m + 2 := ⟨n - 2, by omega⟩
    exact ⟨_, Nt.est_of ha hd (by omega) (by omega) (h31 (by omega)) hlt⟩
  obtain ⟨p, hE⟩ := hE
  obtain ⟨b1, o1, rfl, _, a0⟩ := hx.limb (k := n) (by omega)
  obtain ⟨b1', o1', e1, _, a1⟩ := hx.limb (k := n - 1) (by omega)
  obtain ⟨b1'', o1'', e2, _, a2⟩ := hx.limb (k := n - 2) (by omega)
  obtain ⟨b2, o2, rfl, _, d1⟩ := hy.limb (k := n - 1) (by omega)
  obtain ⟨b2', o2', e3, _, d2⟩ := hy.limb (k := n - 2) (by omega)
  injection e1 with e1; injection e1 with e1 e1'; subst e1 e1'
  injection e2 with e2; injection e2 with e2 e2'; subst e2 e2'
  injection e3 with e3; injection e3 with e3 e3'; subst e3 e3'
  have u0b := Nt.ok_get ha (i := n) (by omega)
  generalize d[n - 1]'(by omega) = v1 at hE d1
  generalize d[n - 2]'(by omega) = v2 at hE d2
  generalize a[n]'(by omega) = u0 at hE a0 u0b
  generalize a[n - 1]'(by omega) = u1 at hE a1
  generalize a[n - 2]'(by omega) = u2 at hE a2
  have hv1 := hE.v1lo
  have hv1' := hE.v1hi
  have hv2 := hE.v2hi
  have hu1 := hE.u1hi
  have hu2 := hE.u2hi
  have H0 := Lib.hid (Nt.est_start hE)
  clear hx hy ha hd h31 hlt hla hld
  have hj := join32 (r := u0) u0b hu1
  have hsh : IntKind.u64.wrap ((u0 : Int) * 4294967296) = (u0 : Int) * 4294967296 := IntWalk.u64_in _ (by omega)
  have hw1 : IntKind.i64.wrap ((n : Int) - 1) = (n : Int) - 1 := IntWalk.i64_in _ (by omega)
  have hp1 : (0 : Int) ≤ (n : Int) - 1 := by omega
  have hp1' : (1 : Int) ≤ (n : Int) := by omega
  have ht1 : ((n : Int) - 1).toNat = n - 1 := by omega
  have hdz : ((v1 : Int) == 0) = false := by simp; omega
  have hv1p : (1 : Int) ≤ (v1 : Int) := by omega
  generalize hH : u0 * 4294967296 + u1 = H at H0 hj
  have hHb : H < 18446744073709551616 := by omega
  clear hH hE
  have hq : (H : Int) / (v1 : Int) = ((H / v1 : Nat) : Int) := (Int.natCast_ediv H v1).symm
  have hr : (H : Int) % (v1 : Int) = ((H % v1 : Nat) : Int) := (Int.natCast_emod H v1).symm
  have hrl : H % v1 < v1 := Nat.mod_lt _ (by omega)
  have hql := H0.out.le
  generalize H / v1 = q at *
  generalize H % v1 = r at *
  go_enter Try.func37, Try.ntmps37
  go_wp2_with fail
  go_quiet (fail)
  clear hj hsh
  go_wp2_with fail
  go_quiet (fail)
  clear a0 a1 hq hql u0b hHb
  have HR := Lib.hid hr
  clear hr
  go_wp2_with fail
  go_loopw [7, 8] (fun gv tv wr => ∃ g t m : Nat, wr = w.drewN m ∧ t < 4294967296 ∧ g ≤ 8589934592 ∧ gv = .int .u64 (g : Int) ∧ tv = .int .u64 (t : Int) ∧ Hid (Nt.EstAt (Nt.val a) (Nt.val d) p v1 v2 u0 u1 u2 g t)) (fun gv _ _ => (intOf gv).toNat)
  case atStart => exact ⟨q, r, _, World.drewN_drewN _ _ _, by omega, H0.out.le, rfl, congrArg (Value.int .u64) HR.out, H0⟩
  case round =>
    clear H0 HR hrl
    obtain ⟨g, t, m, rfl, ht, hg, rfl, rfl, HA⟩ := hrel
    have hw2 : IntKind.i64.wrap ((n : Int) - 2) = (n : Int) - 2 := IntWalk.i64_in _ (by omega)
    have hp2 : (0 : Int) ≤ (n : Int) - 2 := by omega
    have hp2' : (2 : Int) ≤ (n : Int) := by omega
    have ht2 : ((n : Int) - 2).toNat = n - 2 := by omega
    by_cases hbig : 4294967296 ≤ g
    · have hne : ((g : Int) / 4294967296 != 0) = true := by simp; omega
      obtain ⟨hg1, hst⟩ := HA.out.step (.inl hbig)
      have ST := Lib.hid hst
      clear hst
      by_cases hb2 : 4294967296 ≤ t + v1
      · have hne2 : (((t : Int) + (v1 : Int)) / 4294967296 != 0) = true := by simp; omega
        have BR := Lib.hid (ST.out.broke hb2)
        go_wp2_with fail
        go_quiet (fail)
        go_wp2_with fail
        go_ret
        exact ⟨g - 1, ret_int (by omega), Lib.hid ⟨BR.out.1, BR.out.2.1⟩, BR.out.2.2, _, rfl⟩
      · have hne2 : (((t : Int) + (v1 : Int)) / 4294967296 != 0) = false := by simp; omega
        go_wp2_with fail
        go_quiet (fail)
        go_wp2_with fail
        exact ⟨⟨g - 1, t + v1, _, rfl, by omega, by omega, congrArg (Value.int .u64) (by omega), congrArg (Value.int .u64) (by omega), ST⟩, by simp [intOf]; omega⟩
    · have hne : ((g : Int) / 4294967296 != 0) = false := by simp; omega
      have hmb := Nt.mul_bound (x := g) (y := v2) (by omega) hv2
      obtain ⟨P, hP⟩ : ∃ P : Nat, P = g * v2 := ⟨_, rfl⟩
      have hPi : IntKind.u64.wrap ((g : Int) * (v2 : Int)) = (P : Int) := by rw [← Int.natCast_mul, ← hP, IntWalk.u64_in _ (by omega)]
      have hsh : IntKind.u64.wrap ((t : Int) * 4294967296) = (t : Int) * 4294967296 := IntWalk.u64_in _ (by omega)
      have hj := join32 (r := t) ht hu2
      have HP := Lib.hid hP
      clear hmb hP
      generalize hJ : t * 4294967296 + u2 = J at hj
      have HJ := Lib.hid hJ
      clear hJ
      by_cases htest : J < P
      · have hdec : decide ((J : Int) < (P : Int)) = true := by simp; omega
        obtain ⟨hg1, hst⟩ := HA.out.step (.inr (by rw [HJ.out, ← HP.out]; exact htest))
        have ST := Lib.hid hst
        clear hst
        by_cases hb2 : 4294967296 ≤ t + v1
        · have hne2 : (((t : Int) + (v1 : Int)) / 4294967296 != 0) = true := by simp; omega
          have BR := Lib.hid (ST.out.broke hb2)
          go_wp2_with fail
          go_quiet (fail)
          go_wp2_with fail
          go_ret
          exact ⟨g - 1, ret_int (by omega), Lib.hid ⟨BR.out.1, BR.out.2.1⟩, BR.out.2.2, _, rfl⟩
        · have hne2 : (((t : Int) + (v1 : Int)) / 4294967296 != 0) = false := by simp; omega
          go_wp2_with fail
          go_quiet (fail)
          go_wp2_with fail
          exact ⟨⟨g - 1, t + v1, _, rfl, by omega, by omega, congrArg (Value.int .u64) (by omega), congrArg (Value.int .u64) (by omega), ST⟩, by simp [intOf]; omega⟩
      · have hdec : decide ((J : Int) < (P : Int)) = false := by simp; omega
        have DN := Lib.hid (HA.out.done (by omega) (by rw [HJ.out, ← HP.out]; omega))
        go_wp2_with fail
        go_quiet (fail)
        go_wp2_with fail
        go_ret
        exact ⟨g, rfl, Lib.hid ⟨DN.out.1, DN.out.2.1⟩, DN.out.2.2, _, World.drewN_drewN _ _ _⟩
end Go.Proofs.Ytgicgmaiolfpkaa
