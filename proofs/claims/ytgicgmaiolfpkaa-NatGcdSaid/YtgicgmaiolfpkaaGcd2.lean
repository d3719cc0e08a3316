/-
  What scrimref02.Gcd computes, of at most 12 limbs each; the walk of the law NatGcd.
-/
import Derived.Test.YtgicgmaiolfpkaaGcd1
namespace Go.Proofs.Ytgicgmaiolfpkaa
open Go.RowKit
set_option maxHeartbeats 1000000
set_option linter.unusedVariables false

theorem refGcd_any (va vb : Value) (a b : List Nat) (w : World) (hx : IsRes w va a) (hy : IsRes w vb b) (ha : Nt.Ok a) (hb : Nt.Ok b) (hs : a.length ≤ 12) (hs' : b.length ≤ 12) :
    Calls Try.prog 13 #[va, vb] w fun e w' => ∃ v, e = .returned v ∧ IsRes w' v (Nt.digs (Nat.gcd (Nt.val a) (Nt.val b))) ∧ Below w.heap.size w w' := by
  have hda := Nt.digs_len_le ha
  have hdb := Nt.digs_len_le hb
  have NA := Lib.hid (refNorm_res hx ha (by omega) (Below.refl _ _))
  have NB := Lib.hid (fun (wx : World) (h : Below w.heap.size w wx) => refNorm_res (hy.below h) hb (by omega) h)
  have EU := Lib.hid (Nt.euc_start ha hb hs hs')
  obtain ⟨N, hN⟩ : ∃ N, N = 32 * 12 + 32 * 12 + 1 := ⟨_, rfl⟩
  rw [← hN] at EU
  have HN : Hid (N < 100000) := Lib.hid (by omega)
  clear hN
  have hla : (Nt.digs (Nt.val a)).length ≤ 1000000 := by omega
  have hlb : (Nt.digs (Nt.val b)).length ≤ 1000000 := by omega
  clear hx hy ha hb hs hs' hda hdb
  obtain ⟨x0, hx0⟩ : ∃ x, x = Nt.val a := ⟨_, rfl⟩
  obtain ⟨y0, hy0⟩ : ∃ y, y = Nt.val b := ⟨_, rfl⟩
  rw [← hx0] at NA EU hla ⊢
  rw [← hy0] at NB EU hlb ⊢
  clear hx0 hy0
  go_enter Try.func13, Try.ntmps13
  go_wp2_with fail
  refine NA.out.mono ?_
  rintro e w1 ⟨v1, rfl, hr1, hb1, _⟩
  go_wp2_with fail
  refine (NB.out w1 hb1).mono ?_
  rintro e w2 ⟨v2, rfl, hr2, hb2, hb12⟩
  have hr1' := hr1.below hb12
  obtain ⟨A, c, rfl, a1, a2, a3, a4⟩ := hr1'
  obtain ⟨A', c', rfl, b1, b2, b3, b4⟩ := hr2
  have HR0 : Hid (IsRes w2 (.slice A (Nt.digs x0).length c) (Nt.digs x0) ∧ IsRes w2 (.slice A' (Nt.digs y0).length c') (Nt.digs y0)) := Lib.hid ⟨⟨_, _, rfl, a1, a2, a3, a4⟩, ⟨_, _, rfl, b1, b2, b3, b4⟩⟩
  clear hr1 hb1 hb12 a1 a2 a3 a4 b1 b2 b3 b4 NA NB
  go_wp2_with fail
  go_loopg [5, 6, 7] 100000 (fun gk av bv kv wr => ∃ (A A' : Option Addr) (c c' x y k : Nat), av = .slice A (Nt.digs x).length c ∧ bv = .slice A' (Nt.digs y).length c' ∧ kv = .int .i64 (k : Int) ∧ Hid (k + gk = 100000) ∧ Hid (Nt.EucAt (2 ^ N) x y k) ∧ Hid (IsRes wr (.slice A (Nt.digs x).length c) (Nt.digs x) ∧ IsRes wr (.slice A' (Nt.digs y).length c') (Nt.digs y)) ∧ (Nt.digs x).length ≤ 1000000 ∧ (Nt.digs y).length ≤ 1000000 ∧ Hid (Nat.gcd x y = Nat.gcd x0 y0) ∧ Below w.heap.size w wr)
  case atStart => exact ⟨_, _, _, _, x0, y0, 0, rfl, rfl, rfl, Lib.hid (by omega), EU, HR0, hla, hlb, Lib.hid rfl, hb2⟩
  case round =>
    clear EU HR0 hla hlb hb2
    obtain ⟨P, P', k1, k2, x, y, k, rfl, rfl, rfl, HK, EU, HR, hlx, hly, HG, hbel⟩ := hrel
    by_cases h0 : y = 0
    · subst h0
      have HZ : Hid ((Nt.digs 0).length = 0) := Lib.hid (by rw [Nt.digs_zero]; rfl)
      have HE : Hid (Nat.gcd x0 y0 = x) := Lib.hid (by rw [← HG.out, Nat.gcd_zero_right])
      have HRX := Lib.hid HR.out.1
      rw [HZ.out]
      clear HG HR
      rcases Bool.eq_false_or_eq_true (decide ((k : Int) < 100000)) with hk2 | hk2
      · go_wp2_with fail
        go_ret
        exact ⟨_, rfl, by rw [HE.out]; exact HRX.out, hbel⟩
      · go_wp2_with fail
        go_ret
        exact ⟨_, rfl, by rw [HE.out]; exact HRX.out, hbel⟩
    · have hlp : 0 < (Nt.digs y).length := by
        rcases Nat.eq_zero_or_pos (Nt.digs y).length with h | h
        · exact absurd (Nt.digs_nil_iff.1 (List.eq_nil_of_length_eq_zero h)) h0
        · exact h
      have HK2 : Hid (k < 100000) := Lib.hid (by
        rcases Nat.lt_or_ge k 100000 with h | h
        · exact h
        · exact absurd (EU.out.done (by have := HN.out; omega)) h0)
      have hk2 : decide ((k : Int) < 100000) = true := by have := HK2.out; simp; omega
      have hkb : k < 1000000000 := by have := HK2.out; omega
      have DM := Lib.hid (refDivMod_res (w0 := w) HR.out.1 HR.out.2 (Nt.ok_digs x) (Nt.ok_digs y) hlx hly hbel)
      rw [Nt.val_digs, Nt.val_digs, Nt.rest_pos h0] at DM
      have hyp : x % y < y := Nat.mod_lt _ (by omega)
      have hlr : (Nt.digs (x % y)).length ≤ 1000000 := by
        have h := Nt.digs_len_le_of (Nat.le_of_lt hyp)
        omega
      have HG2 : Hid (Nat.gcd y (x % y) = Nat.gcd x0 y0) := Lib.hid (by rw [Nt.gcd_step]; exact HG.out)
      have EU2 := Lib.hid (EU.out.step (by omega))
      have HRY := Lib.hid HR.out.2
      clear HR HG h0 EU
      obtain ⟨r, hr⟩ : ∃ r, r = x % y := ⟨_, rfl⟩
      rw [← hr] at DM hyp hlr HG2 EU2
      clear hr
      go_wp2_with fail
      refine DM.out.mono ?_
      rintro e w1 ⟨u1, u2, rfl, hr1, hr2, hb1, hb01⟩
      have hry := HRY.out.below hb01
      obtain ⟨A2, c2, rfl, q1, q2, q3, q4⟩ := hr2
      have hr2' : IsRes w1 (.slice A2 (Nt.digs r).length c2) (Nt.digs r) := ⟨A2, c2, rfl, q1, q2, q3, q4⟩
      clear q1 q2 q3 q4 hr1 hb01 HRY DM
      have HRN := Lib.hid (And.intro hry hr2')
      clear hry hr2'
      go_wp2_with fail
      go_roundg (gk - 1)
      case measure => have := HK2.out; have := HK.out; omega
      case rel => exact ⟨_, _, _, _, y, r, k + 1, rfl, rfl, by go_num, Lib.hid (by have := HK2.out; have := HK.out; omega), EU2, HRN, hly, hlr, HG2, hb1⟩

/-- The first 12 limbs. -/
theorem twelve_res {w : World} {a : Option Addr} {len cap : Nat} {z : List Nat} (h : IsLimbs w a len cap z) : IsRes w (.slice a (z.take 12).length cap) (z.take 12) ∧ Nt.Ok (z.take 12) ∧ (z.take 12).length ≤ 12 ∧ (12 < len → (z.take 12).length = 12) ∧ (¬ 12 < len → (z.take 12).length = len) ∧ len ≤ cap ∧ cap ≤ 9223372036854775807 := by
  obtain ⟨hn0, hc0, hm0, hA0, hl0, ho0⟩ := h
  subst hn0
  refine ⟨⟨a, cap, rfl, by rw [List.length_take]; omega, hm0, hA0, by rw [← U_take]; exact hl0.take 12⟩, Nt.ok_take ho0 12, by rw [List.length_take]; omega, fun h => by rw [List.length_take]; omega, fun h => by rw [List.length_take]; omega, hc0, hm0⟩
/-- The law from behind its two cuts on. -/
theorem gcd_divides {x y : Nat} : Nt.rest x (Nat.gcd x y) = 0 ∧ Nt.rest y (Nat.gcd x y) = 0 := by
  unfold Nt.rest
  constructor <;> split
  · rfl
  · exact Nat.mod_eq_zero_of_dvd (Nat.gcd_dvd_left x y)
  · rfl
  · exact Nat.mod_eq_zero_of_dvd (Nat.gcd_dvd_right x y)

theorem natGcd_walk (a0 : Option Addr) (len0 cap0 : Nat) (z0 : List Nat) (a1 : Option Addr) (len1 cap1 : Nat) (z1 : List Nat) (w : World) (w0 : IsLimbs w a0 len0 cap0 z0) (w1 : IsLimbs w a1 len1 cap1 z1) :
    Calls Try.prog 4 #[.slice a0 len0 cap0, .slice a1 len1 cap1] w fun e w' => e = .returned (.bool true) ∧ Below w.heap.size w w' := by
  obtain ⟨r0, o0, s0, t0, t0', c0, m0⟩ := twelve_res w0
  obtain ⟨r1, o1, s1, t1, t1', c1, m1⟩ := twelve_res w1
  have hdx := Nt.digs_len_le o0
  have hdy := Nt.digs_len_le o1
  have hgl := Nt.gcd_len o0 o1 s0 s1
  have GC := Lib.hid (gcd_any a0 a1 cap0 cap1 (z0.take 12) (z1.take 12) w r0 r1 o0 o1 (by omega) (by omega))
  have RG := Lib.hid (fun (wx : World) (h : Below w.heap.size w wx) => refGcd_any _ _ (z0.take 12) (z1.take 12) wx (r0.below h) (r1.below h) o0 o1 s0 s1)
  have NA := Lib.hid (fun (wx : World) (h : Below w.heap.size w wx) => refNorm_res (r0.below h) o0 (by omega) h)
  have NB := Lib.hid (fun (wx : World) (h : Below w.heap.size w wx) => refNorm_res (r1.below h) o1 (by omega) h)
  have DA := Lib.hid (fun (wx : World) (u : Value) (hu : IsRes wx u (Nt.digs (Nat.gcd (Nt.val (z0.take 12)) (Nt.val (z1.take 12))))) (h : Below w.heap.size w wx) => divMod_res (r0.below h) hu o0 (Nt.ok_digs _) (by omega) (by omega) h)
  have DB := Lib.hid (fun (wx : World) (u : Value) (hu : IsRes wx u (Nt.digs (Nat.gcd (Nt.val (z0.take 12)) (Nt.val (z1.take 12))))) (h : Below w.heap.size w wx) => divMod_res (r1.below h) hu o1 (Nt.ok_digs _) (by omega) (by omega) h)
  rw [Nt.val_digs, gcd_divides.1, Nt.digs_zero] at DA
  rw [Nt.val_digs, gcd_divides.2, Nt.digs_zero] at DB
  have GZ : Hid (Nat.gcd (Nt.val (z0.take 12)) (Nt.val (z1.take 12)) = 0 → Nt.val (z0.take 12) = 0 ∧ Nt.val (z1.take 12) = 0) := Lib.hid (fun h => Nat.gcd_eq_zero_iff.1 h)
  clear r0 r1 o0 o1 w0 w1 hdx hdy hgl
  generalize Nt.val (z0.take 12) = x at *
  generalize Nt.val (z1.take 12) = y at *
  generalize Nat.gcd x y = g at *
  have hc0 : (12 < len0 ∧ (z0.take 12).length = 12) ∨ (len0 ≤ 12 ∧ (z0.take 12).length = len0) := by
    rcases Nat.lt_or_ge 12 len0 with h | h
    · exact .inl ⟨h, t0 h⟩
    · exact .inr ⟨h, t0' (by omega)⟩
  have hc1 : (12 < len1 ∧ (z1.take 12).length = 12) ∨ (len1 ≤ 12 ∧ (z1.take 12).length = len1) := by
    rcases Nat.lt_or_ge 12 len1 with h | h
    · exact .inl ⟨h, t1 h⟩
    · exact .inr ⟨h, t1' (by omega)⟩
  clear t0 t0' t1 t1' s0 s1
  rcases hc0 with ⟨h0, e0⟩ | ⟨h0, e0⟩ <;> rcases hc1 with ⟨h1, e1⟩ | ⟨h1, e1⟩ <;> rw [e0] at GC RG NA DA <;> rw [e1] at GC RG NB DB <;> clear e0 e1
  all_goals
    go_enter Try.func4, Try.ntmps4
    go_wp2_with fail
    refine GC.out.mono ?_
    rintro e w2 ⟨v2, rfl, hr2, hb2⟩
    go_wp2_with fail
    refine (RG.out w2 hb2).mono ?_
    rintro e w3 ⟨v3, rfl, hr3, hb23⟩
    have hb3 := hb2.trans (hb23.mono hb2.size)
    have hr2' := hr2.below hb23
    clear hr2 hb2 hb23
    go_wp2_with fail
    refine (same_res (w0 := w) hr2' hr3 hb3).mono ?_
    rintro e w4 ⟨rfl, hb4, hb34⟩
    have hr4 := hr2'.below hb34
    clear hr2' hr3 hb3 hb34
    obtain ⟨A4, c4, rfl, q1, q2, q3, q4⟩ := hr4
    have HR4 : Hid (IsRes w4 (.slice A4 (Nt.digs g).length c4) (Nt.digs g)) := Lib.hid ⟨_, _, rfl, q1, q2, q3, q4⟩
    clear q1 q2 q3 q4
    by_cases hg : g = 0
    · obtain ⟨rfl, rfl⟩ := GZ.out hg
      subst hg
      have HZ : Hid ((Nt.digs 0).length = 0) := Lib.hid (by rw [Nt.digs_zero]; rfl)
      rw [HZ.out]
      go_wp2_with fail
      refine (NA.out w4 hb4).mono ?_
      rintro e w5 ⟨v5, rfl, hr5, hb5, _⟩
      obtain ⟨A5, c5, rfl, _, _, _, _⟩ := hr5
      rw [HZ.out]
      go_wp2_with fail
      refine (NB.out w5 hb5).mono ?_
      rintro e w6 ⟨v6, rfl, hr6, hb6, _⟩
      obtain ⟨A6, c6, rfl, _, _, _, _⟩ := hr6
      rw [HZ.out]
      go_wp2_with fail
      refine (awake_any w6).mono ?_
      rintro e w7 ⟨rfl, hb7⟩
      go_wp2_with fail
      go_ret
      exact ⟨rfl, hb6.trans (hb7.mono hb6.size)⟩
    · have hlz : (((Nt.digs g).length : Int) == 0) = false := by
        have : (Nt.digs g).length ≠ 0 := fun h => hg (Nt.digs_nil_iff.1 (List.eq_nil_of_length_eq_zero h))
        simp; intro h; exact this (by rw [h]; rfl)
      go_wp2_with fail
      refine (DA.out w4 _ HR4.out hb4).mono ?_
      rintro e w5 ⟨u1, u2, rfl, _, hr5, hb5, hb45⟩
      have HR5 := Lib.hid (HR4.out.below hb45)
      obtain ⟨A5, c5, rfl, _, _, _, _⟩ := hr5
      clear hb4 hb45 HR4
      go_wp2_with fail
      refine (DB.out w5 _ HR5.out hb5).mono ?_
      rintro e w6 ⟨u3, u4, rfl, _, hr6, hb6, _⟩
      obtain ⟨A6, c6, rfl, _, _, _, _⟩ := hr6
      clear hb5 HR5
      go_wp2_with fail
      refine (awake_any w6).mono ?_
      rintro e w7 ⟨rfl, hb7⟩
      go_wp2_with fail
      go_ret
      exact ⟨rfl, hb6.trans (hb7.mono hb6.size)⟩
end Go.Proofs.Ytgicgmaiolfpkaa
