/-
  The walk of the law NatDivides.
-/
import Derived.Test.YtgicgmaiolfpkaaNatRes
namespace Go.Proofs.Ytgicgmaiolfpkaa
open Go.RowKit
set_option maxHeartbeats 1000000
set_option linter.unusedVariables false

theorem natDivides_walk (a0 : Option Addr) (len0 cap0 : Nat) (z0 : List Nat) (a1 : Option Addr) (len1 cap1 : Nat) (z1 : List Nat) (w : World) (w0 : IsLimbs w a0 len0 cap0 z0) (w1 : IsLimbs w a1 len1 cap1 z1) :
    Calls Try.prog 3 #[.slice a0 len0 cap0, .slice a1 len1 cap1] w fun e w' => e = .returned (.bool true) ∧ Below w.heap.size w w' := by
  obtain ⟨r0, o0, s0, f0⟩ := few_res w0
  obtain ⟨r1, o1, s1, f1⟩ := few_res w1
  have F0 := Lib.hid f0
  have F1 := Lib.hid f1
  have DM := Lib.hid (divMod_res r0 r1 o0 o1 (by omega) (by omega) (Below.refl _ _))
  have RD := Lib.hid (fun (wx : World) (h : Below w.heap.size w wx) => refDivMod_res (r0.below h) (r1.below h) o0 o1 (by omega) (by omega) h)
  clear w0 w1 r0 r1 o0 o1 f0 f1
  generalize (z0.take 40).length = n0 at *
  generalize (z1.take 40).length = n1 at *
  generalize Nt.val (z0.take 40) = x at *
  generalize Nt.val (z1.take 40) = y at *
  generalize decide (y ≠ 0) = bb at *
  have hbb : (bb == bb) = true := by simp
  go_enter Try.func3, Try.ntmps3
  go_wp2_with fail
  refine (F0.out _).mono ?_
  rintro e w' ⟨rfl, rfl⟩
  go_wp2_with fail
  refine (F1.out _).mono ?_
  rintro e w' ⟨rfl, rfl⟩
  go_wp2_with fail
  refine DM.out.mono ?_
  rintro e w2 ⟨v1, v2, rfl, hr1, hr2, hb2, _⟩
  go_wp2_with fail
  refine (RD.out _ hb2).mono ?_
  rintro e w3 ⟨v3, v4, rfl, hr3, hr4, hb3, hb23⟩
  have hr1' := hr1.below hb23
  have hr2' := hr2.below hb23
  clear hr1 hr2 hb2 hb23 DM RD F0 F1
  go_wp2_with fail
  refine (same_res (w0 := w) hr1' hr3 hb3).mono ?_
  rintro e w4 ⟨rfl, hb4, hb34⟩
  have hr2'' := hr2'.below hb34
  have hr4' := hr4.below hb34
  clear hr1' hr3 hb3 hr2' hr4 hb34
  go_wp2_with fail
  refine (same_res (w0 := w) hr2'' hr4' hb4).mono ?_
  rintro e w5 ⟨rfl, hb5, _⟩
  go_wp2_with fail
  refine (awake_any w5).mono ?_
  rintro e w14 ⟨rfl, hb14⟩
  go_wp2_with fail
  go_ret
  exact ⟨rfl, hb5.trans (hb14.mono hb5.size)⟩
end Go.Proofs.Ytgicgmaiolfpkaa
