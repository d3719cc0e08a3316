/-
  Numbers as signs and limbs, plain: no program in sight. What Make and Right tell.
-/
import Derived.Test.YtfiobbhicicchaaGcdMath
namespace Rt
/-- A number as it is held. -/
structure Nm where
  neg : Bool
  top : List Nat
  bot : List Nat
deriving DecidableEq

def none_ : Nm := ⟨false, [], []⟩
/-- A sign, that is nothing to 0. -/
def nrm (n : Bool) (x : Nat) : Bool := n && !(x == 0)
/-- A number in lowest terms, or the error. -/
def mk (n1 n2 : Bool) (x y : Nat) : Nm × Int :=
  if y = 0 then (none_, 3)
  else if 32 < (Nt.digs (x / Nat.gcd x y)).length ∨ 32 < (Nt.digs (y / Nat.gcd x y)).length then (none_, 7)
  else (⟨!(x == 0) && (n1 != n2), Nt.digs (x / Nat.gcd x y), Nt.digs (y / Nat.gcd x y)⟩, 0)
/-- May a number be? -/
def right (a : Nm) : Bool := decide (a.top.length ≤ 32) && decide (a.bot.length ≤ 32) && ((mk a.neg false (Nt.val a.top) (Nt.val a.bot)).2 == 0) && decide ((mk a.neg false (Nt.val a.top) (Nt.val a.bot)).1 = a)
theorem mk_nrm (n1 n2 : Bool) (x y : Nat) : mk (nrm n1 x) (nrm n2 y) x y = mk n1 n2 x y := by
  unfold mk nrm
  by_cases hy : y = 0
  · rw [if_pos hy, if_pos hy]
  · rw [if_neg hy, if_neg hy]
    have e : (!(x == 0) && ((n1 && !(x == 0)) != (n2 && !(y == 0)))) = (!(x == 0) && (n1 != n2)) := by
      have h2 : (y == 0) = false := by simpa using hy
      rw [h2]
      cases (x == 0) <;> simp
    rw [e]
theorem div_gcd_zero {x y : Nat} (hy : y ≠ 0) : x / Nat.gcd x y = 0 ↔ x = 0 := by
  have hg : 0 < Nat.gcd x y := Nat.gcd_pos_of_pos_right _ (by omega)
  constructor
  · intro h
    rcases Nat.eq_zero_or_pos x with h0 | h0
    · exact h0
    · have h1 := Nat.le_of_dvd h0 (Nat.gcd_dvd_left x y)
      have h2 := Nat.div_pos h1 hg
      omega
  · rintro rfl; simp
/-- The parts of a number that may be. -/
theorem right_iff {a : Nm} (ho : Nt.Ok a.top) (ho' : Nt.Ok a.bot) : right a = true ↔ a.top.length ≤ 32 ∧ a.bot.length ≤ 32 ∧ Nt.Top a.top ∧ Nt.Top a.bot ∧ a.bot ≠ [] ∧ (a.top = [] → a.neg = false) ∧ Nat.gcd (Nt.val a.top) (Nt.val a.bot) = 1 := by
  obtain ⟨n, t, u⟩ := a
  unfold right
  simp only [Bool.and_eq_true, decide_eq_true_eq, beq_iff_eq]
  unfold mk
  dsimp only at ho ho' ⊢
  constructor
  · rintro ⟨⟨⟨h1, h2⟩, h3⟩, h4⟩
    by_cases hy : Nt.val u = 0
    · rw [if_pos hy] at h3; cases h3
    · rw [if_neg hy] at h3 h4
      by_cases hl : 32 < (Nt.digs (Nt.val t / Nat.gcd (Nt.val t) (Nt.val u))).length ∨ 32 < (Nt.digs (Nt.val u / Nat.gcd (Nt.val t) (Nt.val u))).length
      · rw [if_pos hl] at h3; cases h3
      · rw [if_neg hl] at h4
        injection h4 with e1 e2 e3
        have hg : 0 < Nat.gcd (Nt.val t) (Nt.val u) := Nat.gcd_pos_of_pos_right _ (by omega)
        have hu : Nt.val u / Nat.gcd (Nt.val t) (Nt.val u) = Nt.val u := by
          have := congrArg Nt.val e3
          rwa [Nt.val_digs] at this
        have hgcd : Nat.gcd (Nt.val t) (Nt.val u) = 1 := by
          have h5 := Nat.mul_div_cancel' (Nat.gcd_dvd_right (Nt.val t) (Nt.val u))
          rw [hu] at h5
          have h6 : Nat.gcd (Nt.val t) (Nt.val u) * Nt.val u = 1 * Nt.val u := by rw [h5, Nat.one_mul]
          exact Nat.eq_of_mul_eq_mul_right (by omega) h6
        refine ⟨h1, h2, ?_, ?_, ?_, ?_, hgcd⟩
        · rw [← e2]; exact Nt.top_digs _
        · rw [← e3]; exact Nt.top_digs _
        · rintro rfl; exact hy rfl
        · rintro rfl
          rw [← e1]; rfl
  · rintro ⟨h1, h2, h3, h4, h5, h6, h7⟩
    have hy : Nt.val u ≠ 0 := by
      intro h
      have := Nt.digs_val ho' h4
      rw [h, Nt.digs_zero] at this
      exact h5 this.symm
    rw [if_neg hy, h7, Nat.div_one, Nat.div_one, Nt.digs_val ho h3, Nt.digs_val ho' h4, if_neg (by omega)]
    refine ⟨⟨⟨h1, h2⟩, rfl⟩, ?_⟩
    congr 1
    cases hn : n
    · simp
    · by_cases ht : Nt.val t = 0
      · have := Nt.digs_val ho h3
        rw [ht, Nt.digs_zero] at this
        have := h6 this.symm
        rw [hn] at this; cases this
      · have : (Nt.val t == 0) = false := by simpa using ht
        rw [this]; rfl
end Rt
