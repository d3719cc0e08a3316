/-
  What nat.Gcd and scrimref02.Gcd compute: the greatest number that divides both.
-/
import Derived.Test.YtgicgmaiolfpkaaNatRes
import Derived.Test.YtgicgmaiolfpkaaGcdMath
import Derived.Deep.LoopGhost
namespace Go.Proofs.Ytgicgmaiolfpkaa
open Go.RowKit
set_option maxHeartbeats 1000000
set_option linter.unusedVariables false

/-- Greatest common divisors of limbs: what a round needs. -/
theorem gcd_any (A A' : Option Addr) (c c' : Nat) (a b : List Nat) (w : World) (hx : IsRes w (.slice A a.length c) a) (hy : IsRes w (.slice A' b.length c') b) (ha : Nt.Ok a) (hb : Nt.Ok b) (hs : a.length ≤ 1000000) (hs' : b.length ≤ 1000000) :
    Calls Try.prog 12 #[.slice A a.length c, .slice A' b.length c'] w fun e w' => ∃ v, e = .returned v ∧ IsRes w' v (Nt.digs (Nat.gcd (Nt.val a) (Nt.val b))) ∧ Below w.heap.size w w' := by
  have ha' := Nt.digs_len_le ha
  have hb' := Nt.digs_len_le hb
  obtain ⟨_, _, e1, a1, a2, a3, a4⟩ := hx
  obtain ⟨_, _, e2, b1, b2, b3, b4⟩ := hy
  injection e1 with e1 _ e1'; subst e1 e1'
  injection e2 with e2 _ e2'; subst e2 e2'
  have TA := Lib.hid (trim_any A c w.heap.size a w a4 ha a1 a2)
  have TB := Lib.hid (trim_any A' c' w.heap.size b w b4 hb b1 b2)
  have RA : Hid (∀ A', A' = A → IsRes w (.slice A (Nt.digs (Nt.val a)).length (Nt.digs (Nt.val a)).length) (Nt.digs (Nt.val a))) := Lib.hid (fun _ _ => ⟨A, _, rfl, Nat.le_refl _, by omega, (fun h => by have := a3 h; omega), a4.digs ha⟩)
  have RB : Hid (IsRes w (.slice A' (Nt.digs (Nt.val b)).length (Nt.digs (Nt.val b)).length) (Nt.digs (Nt.val b))) := Lib.hid ⟨A', _, rfl, Nat.le_refl _, by omega, (fun h => by have := b3 h; omega), b4.digs hb⟩
  clear a1 a2 a3 a4 b1 b2 b3 b4 ha hb
  have hla : (Nt.digs (Nt.val a)).length ≤ 1000000 := by omega
  have hlb : (Nt.digs (Nt.val b)).length ≤ 1000000 := by omega
  clear ha' hb' hs hs'
  obtain ⟨x0, hx0⟩ : ∃ x, x = Nt.val a := ⟨_, rfl⟩
  obtain ⟨y0, hy0⟩ : ∃ y, y = Nt.val b := ⟨_, rfl⟩
  rw [← hx0] at TA RA hla ⊢
  rw [← hy0] at TB RB hlb ⊢
  clear hx0 hy0
  go_enter Try.func12, Try.ntmps12
  go_wp2_with fail
  refine TA.out.mono ?_
  rintro e w' ⟨rfl, rfl⟩
  go_wp2_with fail
  refine TB.out.mono ?_
  rintro e w' ⟨rfl, rfl⟩
  go_wp2_with fail
  go_loopg [0, 1] y0 (fun gk av bv wr => ∃ (A A' : Option Addr) (c c' x y : Nat), av = .slice A (Nt.digs x).length c ∧ bv = .slice A' (Nt.digs y).length c' ∧ y ≤ gk ∧ Hid (IsRes wr (.slice A (Nt.digs x).length c) (Nt.digs x) ∧ IsRes wr (.slice A' (Nt.digs y).length c') (Nt.digs y)) ∧ (Nt.digs x).length ≤ 1000000 ∧ (Nt.digs y).length ≤ 1000000 ∧ Hid (Nat.gcd x y = Nat.gcd x0 y0) ∧ Below w.heap.size w wr)
  case atStart => exact ⟨_, _, _, _, x0, y0, rfl, rfl, Nat.le_refl _, Lib.hid ⟨RA.out _ rfl, RB.out⟩, hla, hlb, Lib.hid rfl, Below.refl _ _⟩
  case round =>
    clear TA TB RA RB hla hlb
    obtain ⟨P, P', k, k', x, y, rfl, rfl, hyk, HR, hlx, hly, HG, hbel⟩ := hrel
    by_cases h0 : y = 0
    · subst h0
      have HZ : Hid ((Nt.digs 0).length = 0) := Lib.hid (by rw [Nt.digs_zero]; rfl)
      have NA := Lib.hid (norm_res (w0 := w) HR.out.1 (Nt.ok_digs x) hlx hbel)
      have HE : Hid (Nat.gcd x0 y0 = x) := Lib.hid (by rw [← HG.out, Nat.gcd_zero_right])
      rw [Nt.val_digs] at NA
      rw [HZ.out]
      clear HR HG
      go_wp2_with fail
      refine NA.out.mono ?_
      rintro e w1 ⟨v, rfl, hr, hb1, _⟩
      go_wp2_with fail
      go_ret
      exact ⟨_, rfl, by rw [HE.out]; exact hr, hb1⟩
    · have hlp : 0 < (Nt.digs y).length := by
        rcases Nat.eq_zero_or_pos (Nt.digs y).length with h | h
        · exact absurd (Nt.digs_nil_iff.1 (List.eq_nil_of_length_eq_zero h)) h0
        · exact h
      by_cases h2 : (Nt.digs x).length ≤ 2 ∧ (Nt.digs y).length ≤ 2
      · obtain ⟨h2x, h2y⟩ := h2
        obtain ⟨⟨_, _, e1, a1, a2, a3, a4⟩, ⟨_, _, e2, b1, b2, b3, b4⟩⟩ := HR.out
        injection e1 with e1 _ e1'; subst e1 e1'
        injection e2 with e2 _ e2'; subst e2 e2'
        have WA := Lib.hid (word_any P k wr.heap.size (Nt.digs x) wr a4 (Nt.ok_digs x) h2x)
        have WB := Lib.hid (word_any P' k' wr.heap.size (Nt.digs y) wr b4 (Nt.ok_digs y) h2y)
        rw [Nt.val_digs] at WA WB
        have hxa : x < 18446744073709551616 := by
          have h := Nt.val_lt (Nt.ok_digs x)
          rw [Nt.val_digs] at h
          exact Nat.lt_of_lt_of_le h (Nat.le_trans (Nat.pow_le_pow_right (by omega) h2x) (by decide))
        have hxb : y < 18446744073709551616 := by
          have h := Nt.val_lt (Nt.ok_digs y)
          rw [Nt.val_digs] at h
          exact Nat.lt_of_lt_of_le h (Nat.le_trans (Nat.pow_le_pow_right (by omega) h2y) (by decide))
        clear HR a1 a2 a3 a4 b1 b2 b3 b4
        go_wp2_with fail
        refine WA.out.mono ?_
        rintro e w' ⟨rfl, rfl⟩
        go_wp2_with fail
        refine WB.out.mono ?_
        rintro e w' ⟨rfl, rfl⟩
        go_wp2_with fail
        refine (small_any x y _ hxa hxb).mono ?_
        rintro e w1 ⟨v, rfl, hr, hb1⟩
        go_wp2_with fail
        go_ret
        exact ⟨_, rfl, by rw [← HG.out]; exact hr, hbel.trans (hb1.mono hbel.size)⟩
      · have DM := Lib.hid (divMod_res (w0 := w) HR.out.1 HR.out.2 (Nt.ok_digs x) (Nt.ok_digs y) hlx hly hbel)
        rw [Nt.val_digs, Nt.val_digs, Nt.rest_pos h0] at DM
        have hyp : x % y < y := Nat.mod_lt _ (by omega)
        have hlr : (Nt.digs (x % y)).length ≤ 1000000 := by
          have h := Nt.digs_len_le_of (Nat.le_of_lt hyp)
          omega
        have HG2 : Hid (Nat.gcd y (x % y) = Nat.gcd x0 y0) := Lib.hid (by rw [Nt.gcd_step]; exact HG.out)
        have HRY := Lib.hid HR.out.2
        clear HR HG h0
        obtain ⟨r, hr⟩ : ∃ r, r = x % y := ⟨_, rfl⟩
        rw [← hr] at DM hyp hlr HG2
        clear hr
        by_cases h2x : (Nt.digs x).length ≤ 2
        · have h2y : ¬ (Nt.digs y).length ≤ 2 := fun h => h2 ⟨h2x, h⟩
          clear h2
          go_wp2_with fail
          refine DM.out.mono ?_
          rintro e w1 ⟨u1, u2, rfl, hr1, hr2, hb1, hb01⟩
          have hry := HRY.out.below hb01
          obtain ⟨A2, c2, rfl, q1, q2, q3, q4⟩ := hr2
          have hr2' : IsRes w1 (.slice A2 (Nt.digs r).length c2) (Nt.digs r) := ⟨A2, c2, rfl, q1, q2, q3, q4⟩
          clear q1 q2 q3 q4 hr1 hb01 HRY DM
          have HRN := Lib.hid (And.intro hry hr2')
          clear hry hr2'
          go_wp2_with fail
          go_roundg r
          case measure => omega
          case rel => exact ⟨_, _, _, _, y, r, rfl, rfl, Nat.le_refl _, HRN, hly, hlr, HG2, hb1⟩
        · clear h2
          go_wp2_with fail
          refine DM.out.mono ?_
          rintro e w1 ⟨u1, u2, rfl, hr1, hr2, hb1, hb01⟩
          have hry := HRY.out.below hb01
          obtain ⟨A2, c2, rfl, q1, q2, q3, q4⟩ := hr2
          have hr2' : IsRes w1 (.slice A2 (Nt.digs r).length c2) (Nt.digs r) := ⟨A2, c2, rfl, q1, q2, q3, q4⟩
          clear q1 q2 q3 q4 hr1 hb01 HRY DM
          have HRN := Lib.hid (And.intro hry hr2')
          clear hry hr2'
          go_wp2_with fail
          go_roundg r
          case measure => omega
          case rel => exact ⟨_, _, _, _, y, r, rfl, rfl, Nat.le_refl _, HRN, hly, hlr, HG2, hb1⟩
end Go.Proofs.Ytgicgmaiolfpkaa
