/-
  The walk of the law NatBack.
-/
import Derived.Test.YtgicgmaiolfpkaaNatRes
namespace Go.Proofs.Ytgicgmaiolfpkaa
open Go.RowKit
set_option maxHeartbeats 1000000
set_option linter.unusedVariables false

theorem back_sum {x y : Nat} (h : y ≠ 0) : Nt.quo x y * y + Nt.rest x y = x := by
  rw [Nt.rest_pos h]; unfold Nt.quo; rw [Nat.mul_comm]; exact Nat.div_add_mod x y
theorem back_lt {x y : Nat} (h : y ≠ 0) : decide (0 ≤ Nt.cmp (Nt.rest x y) y) = false := by
  rw [Nt.rest_pos h, decide_eq_false_iff_not]
  have := Nt.cmp_neg (x := x % y) (y := y)
  have h2 := Nat.mod_lt x (Nat.pos_of_ne_zero h)
  have := this.2 h2
  omega

theorem natBack_walk (a0 : Option Addr) (len0 cap0 : Nat) (z0 : List Nat) (a1 : Option Addr) (len1 cap1 : Nat) (z1 : List Nat) (w : World) (w0 : IsLimbs w a0 len0 cap0 z0) (w1 : IsLimbs w a1 len1 cap1 z1) :
    Calls Try.prog 6 #[.slice a0 len0 cap0, .slice a1 len1 cap1] w fun e w' => e = .returned (.bool true) ∧ Below w.heap.size w w' := by
  obtain ⟨r0, o0, s0, f0⟩ := few_res w0
  obtain ⟨r1, o1, s1, f1⟩ := few_res w1
  have F0 := Lib.hid f0
  have F1 := Lib.hid f1
  have DM := Lib.hid (divMod_res r0 r1 o0 o1 (by omega) (by omega) (Below.refl _ _))
  have R0 := Lib.hid r0
  have R1 := Lib.hid r1
  have O0 := Lib.hid o0
  have O1 := Lib.hid o1
  have hdx := Nt.digs_len_le o0
  have hdy := Nt.digs_len_le o1
  have NA := Lib.hid (fun (wx : World) (h : Below w.heap.size w wx) => refNorm_res (r0.below h) o0 (by omega) h)
  have NB := Lib.hid (fun (wx : World) (h : Below w.heap.size w wx) => refNorm_res (r1.below h) o1 (by omega) h)
  have AD := Lib.hid (fun (wx : World) (h : Below w.heap.size w wx) => add_res (r0.below h) (r1.below h) o0 o1 (by omega) (by omega) h)
  have hq : (Nt.digs (Nt.quo (Nt.val (z0.take 40)) (Nt.val (z1.take 40)))).length ≤ 40 := Nat.le_trans (Nt.len_le o0 (Nat.div_le_self _ _)) s0
  have hp : (Nt.digs (Nt.quo (Nt.val (z0.take 40)) (Nt.val (z1.take 40)) * Nt.val (z1.take 40))).length ≤ 40 := Nat.le_trans (Nt.len_le o0 (Nat.div_mul_le_self _ _)) s0
  have hr : (Nt.digs (Nt.rest (Nt.val (z0.take 40)) (Nt.val (z1.take 40)))).length ≤ 40 := by
    unfold Nt.rest
    split
    · rw [Nt.digs_zero]; simp
    · exact Nat.le_trans (Nt.len_le o0 (Nat.mod_le _ _)) s0
  have ha : (Nt.digs (Nt.val (z0.take 40) + Nt.val (z1.take 40))).length ≤ 41 := by
    refine Nt.digs_len_lt ?_
    have h1 := Nt.val_lt o0
    have h2 := Nt.val_lt o1
    have h3 : 4294967296 ^ (z0.take 40).length ≤ 4294967296 ^ 40 := Nat.pow_le_pow_right (by omega) s0
    have h4 : 4294967296 ^ (z1.take 40).length ≤ 4294967296 ^ 40 := Nat.pow_le_pow_right (by omega) s1
    rw [Nat.pow_succ]
    generalize 4294967296 ^ 40 = p at *
    omega
  have MU := Lib.hid (fun (wx : World) (u : Value) (hu : IsRes wx u (Nt.digs (Nt.quo (Nt.val (z0.take 40)) (Nt.val (z1.take 40))))) (h : Below w.heap.size w wx) => mul_res hu (r1.below h) (Nt.ok_digs _) o1 (by omega) (by omega) h)
  have CM := Lib.hid (fun (wx : World) (u : Value) (hu : IsRes wx u (Nt.digs (Nt.rest (Nt.val (z0.take 40)) (Nt.val (z1.take 40))))) (h : Below w.heap.size w wx) => cmp_res hu (r1.below h) (Nt.ok_digs _) o1 h)
  have SU := Lib.hid (fun (wx : World) (u : Value) (hu : IsRes wx u (Nt.digs (Nt.val (z0.take 40) + Nt.val (z1.take 40)))) (h : Below w.heap.size w wx) => sub_res hu (r1.below h) (Nt.ok_digs _) o1 (by omega) (by omega) h)
  rw [Nt.val_digs] at MU CM SU
  have HSU : Hid (Nt.val (z0.take 40) + Nt.val (z1.take 40) - Nt.val (z1.take 40) = Nt.val (z0.take 40)) := Lib.hid (Nat.add_sub_cancel _ _)
  have HDE : Hid (decide (Nt.val (z1.take 40) ≤ Nt.val (z0.take 40) + Nt.val (z1.take 40)) = true) := Lib.hid (by simp)
  rw [HSU.out, HDE.out] at SU
  clear w0 w1 r0 r1 o0 o1 f0 f1
  generalize (z0.take 40).length = n0 at *
  generalize (z1.take 40).length = n1 at *
  generalize Nt.val (z0.take 40) = x at *
  generalize Nt.val (z1.take 40) = y at *
  by_cases h0 : y = 0
  · have HB : Hid (decide (y ≠ 0) = false) := Lib.hid (by simp [h0])
    have HL : Hid ((Nt.digs y).length = 0) := Lib.hid (by rw [h0, Nt.digs_zero]; rfl)
    rw [HB.out] at DM
    clear h0
    go_enter Try.func6, Try.ntmps6
    go_wp2_with fail
    refine (F0.out _).mono ?_
    rintro e w' ⟨rfl, rfl⟩
    go_wp2_with fail
    refine (F1.out _).mono ?_
    rintro e w' ⟨rfl, rfl⟩
    go_wp2_with fail
    refine DM.out.mono ?_
    rintro e w2 ⟨v1, v2, rfl, hr1, hr2, hb2, _⟩
    go_wp2_with fail
    refine (AD.out w2 hb2).mono ?_
    rintro e w11 ⟨v11, rfl, hr11, hb11, _⟩
    go_wp2_with fail
    refine (SU.out w11 v11 hr11 hb11).mono ?_
    rintro e w12 ⟨v12, rfl, hr12, hb12, _⟩
    clear hr11 hb11
    go_wp2_with fail
    refine (NA.out w12 hb12).mono ?_
    rintro e w13 ⟨v13, rfl, hr13, hb13, hb1213⟩
    have hr12' := hr12.below hb1213
    clear hr12 hb12 hb1213
    go_wp2_with fail
    refine (same_res (w0 := w) hr12' hr13 hb13).mono ?_
    rintro e w14 ⟨rfl, hb14, _⟩
    clear hr12' hr13 hb13
    go_wp2_with fail
    refine (NB.out w14 hb14).mono ?_
    rintro e w15 ⟨v15, rfl, hr15, hb15, _⟩
    obtain ⟨A15, c15, rfl, _, _, _, _⟩ := hr15
    rw [HL.out]
    go_wp2_with fail
    refine (awake_any w15).mono ?_
    rintro e w16 ⟨rfl, hb16⟩
    go_wp2_with fail
    go_ret
    exact ⟨rfl, hb15.trans (hb16.mono hb15.size)⟩
  · have HB : Hid (decide (y ≠ 0) = true) := Lib.hid (by simp [h0])
    have HS := Lib.hid (back_sum (x := x) h0)
    have hlt := back_lt (x := x) h0
    have hlp : 0 < (Nt.digs y).length := by
      rcases Nat.eq_zero_or_pos (Nt.digs y).length with h | h
      · exact absurd (Nt.digs_nil_iff.1 (List.eq_nil_of_length_eq_zero h)) h0
      · exact h
    rw [HB.out] at DM
    clear h0
    have AQ := Lib.hid (fun (wx : World) (u1 u2 : Value) (h1 : IsRes wx u1 (Nt.digs (Nt.quo x y * y))) (h2 : IsRes wx u2 (Nt.digs (Nt.rest x y))) (h : Below w.heap.size w wx) => add_res h1 h2 (Nt.ok_digs _) (Nt.ok_digs _) (by omega) (by omega) h)
    rw [Nt.val_digs, Nt.val_digs, HS.out] at AQ
    go_enter Try.func6, Try.ntmps6
    go_wp2_with fail
    refine (F0.out _).mono ?_
    rintro e w' ⟨rfl, rfl⟩
    go_wp2_with fail
    refine (F1.out _).mono ?_
    rintro e w' ⟨rfl, rfl⟩
    go_wp2_with fail
    refine DM.out.mono ?_
    rintro e w2 ⟨v1, v2, rfl, hr1, hr2, hb2, _⟩
    go_wp2_with fail
    refine (MU.out w2 v1 hr1 hb2).mono ?_
    rintro e w3 ⟨v3, rfl, hr3, hb3, hb23⟩
    have hr2' := hr2.below hb23
    clear hr1 hr2 hb2 hb23
    go_wp2_with fail
    refine (AQ.out w3 v3 v2 hr3 hr2' hb3).mono ?_
    rintro e w4 ⟨v4, rfl, hr4, hb4, hb34⟩
    have hr24 := hr2'.below hb34
    clear hr2' hr3 hb3 hb34
    go_wp2_with fail
    refine (NA.out w4 hb4).mono ?_
    rintro e w5 ⟨v5, rfl, hr5, hb5, hb45⟩
    have hr45 := hr4.below hb45
    have hr25 := hr24.below hb45
    clear hr4 hr24 hb4 hb45
    go_wp2_with fail
    refine (same_res (w0 := w) hr45 hr5 hb5).mono ?_
    rintro e w6 ⟨rfl, hb6, hb56⟩
    have hr26 := hr25.below hb56
    clear hr45 hr5 hb5 hb56 hr25
    go_wp2_with fail
    refine (CM.out w6 v2 hr26 hb6).mono ?_
    rintro e w7 ⟨rfl, hb7, _⟩
    clear hr26 hb6
    generalize Nt.cmp (Nt.rest x y) y = cc at *
    go_wp2_with fail
    refine (AD.out w7 hb7).mono ?_
    rintro e w11 ⟨v11, rfl, hr11, hb11, _⟩
    go_wp2_with fail
    refine (SU.out w11 v11 hr11 hb11).mono ?_
    rintro e w12 ⟨v12, rfl, hr12, hb12, _⟩
    clear hr11 hb11
    go_wp2_with fail
    refine (NA.out w12 hb12).mono ?_
    rintro e w13 ⟨v13, rfl, hr13, hb13, hb1213⟩
    have hr12' := hr12.below hb1213
    clear hr12 hb12 hb1213
    go_wp2_with fail
    refine (same_res (w0 := w) hr12' hr13 hb13).mono ?_
    rintro e w14 ⟨rfl, hb14, _⟩
    clear hr12' hr13 hb13
    go_wp2_with fail
    refine (NB.out w14 hb14).mono ?_
    rintro e w15 ⟨v15, rfl, hr15, hb15, _⟩
    obtain ⟨A15, c15, rfl, _, _, _, _⟩ := hr15
    go_wp2_with fail
    refine (awake_any w15).mono ?_
    rintro e w16 ⟨rfl, hb16⟩
    go_wp2_with fail
    go_ret
    exact ⟨rfl, hb15.trans (hb16.mono hb15.size)⟩
end Go.Proofs.Ytgicgmaiolfpkaa
