import Derived.Test.YtfiobbhicicchaaNatMath
set_option linter.unusedVariables false
namespace Nt
/-! ### Euclid's steps are few -/
def EucAt (M x y k : Nat) : Prop := (k = 0 ∧ x * y * 2 ≤ M) ∨ (y < x ∧ x * y * 2 ^ k ≤ M)
theorem euc_half {x y : Nat} (h : y < x) (hy : 0 < y) : y * (x % y) * 2 ≤ x * y := by
  have h1 : x % y + y ≤ x := by
    have e := Nat.div_add_mod x y
    have hq : 1 ≤ x / y := by rw [Nat.le_div_iff_mul_le hy]; omega
    have : y * 1 ≤ y * (x / y) := Nat.mul_le_mul_left _ hq
    omega
  have h2 : x % y < y := Nat.mod_lt _ hy
  have h3 : x % y * 2 ≤ x := by omega
  have h4 : y * (x % y * 2) ≤ y * x := Nat.mul_le_mul_left _ h3
  rw [Nat.mul_assoc, Nat.mul_comm x y]
  exact h4
theorem EucAt.step {M x y k : Nat} (h : EucAt M x y k) (hy : 0 < y) : EucAt M y (x % y) (k + 1) := by
  refine .inr ⟨Nat.mod_lt _ hy, ?_⟩
  rcases h with ⟨rfl, h⟩ | ⟨h1, h2⟩
  · have h3 : y * (x % y) ≤ y * x := Nat.mul_le_mul_left _ (Nat.mod_le _ _)
    rw [Nat.mul_comm x y] at h
    have h4 := Nat.mul_le_mul_right 2 h3
    simp only [Nat.zero_add, Nat.pow_one]
    omega
  · have h3 := euc_half h1 hy
    have h4 : y * (x % y) * 2 * 2 ^ k ≤ x * y * 2 ^ k := Nat.mul_le_mul_right _ h3
    rw [Nat.pow_succ, Nat.mul_comm (2 ^ k) 2, ← Nat.mul_assoc]
    omega
theorem EucAt.done {x y k n : Nat} (h : EucAt (2 ^ n) x y k) (hk : n < k) : y = 0 := by
  rcases h with ⟨rfl, h⟩ | ⟨h1, h2⟩
  · omega
  · rcases Nat.eq_zero_or_pos y with h0 | h0
    · exact h0
    · exfalso
      have h3 : 1 ≤ x * y := Nat.mul_pos (by omega) h0
      have h4 : 1 * 2 ^ k ≤ x * y * 2 ^ k := Nat.mul_le_mul_right _ h3
      have h5 : 2 ^ k ≤ 2 ^ n := by omega
      have h6 := (Nat.pow_le_pow_iff_right (a := 2) (by omega)).1 h5
      omega
theorem limbs_bits (n : Nat) : 4294967296 ^ n = 2 ^ (32 * n) := by rw [Nat.pow_mul, show 2 ^ 32 = 4294967296 from rfl]
theorem val_le_bits {a : List Nat} (ha : Ok a) {n : Nat} (la : a.length ≤ n) : val a ≤ 2 ^ (32 * n) := by
  have h1 := val_lt ha
  have h2 := Nat.pow_le_pow_right (n := 4294967296) (by omega) la
  rw [limbs_bits n] at h2
  exact Nat.le_of_lt (Nat.lt_of_lt_of_le h1 h2)
theorem euc_start {a b : List Nat} {n : Nat} (ha : Ok a) (hb : Ok b) (la : a.length ≤ n) (lb : b.length ≤ n) : EucAt (2 ^ (32 * n + 32 * n + 1)) (val a) (val b) 0 := by
  refine .inl ⟨rfl, ?_⟩
  have h3 := Nat.mul_le_mul_right 2 (Nat.mul_le_mul (val_le_bits ha la) (val_le_bits hb lb))
  rw [← Nat.pow_add, ← Nat.pow_succ] at h3
  exact h3
theorem gcd_step (x y : Nat) : Nat.gcd y (x % y) = Nat.gcd x y := by rw [Nat.gcd_comm x y, Nat.gcd_rec y x, Nat.gcd_comm]
theorem gcd_len {a b : List Nat} {n : Nat} (ha : Ok a) (hb : Ok b) (la : a.length ≤ n) (lb : b.length ≤ n) : (digs (Nat.gcd (val a) (val b))).length ≤ n := by
  rcases Nat.eq_zero_or_pos (val a) with h0 | h0
  · rw [h0, Nat.gcd_zero_left]
    exact Nat.le_trans (digs_len_le hb) lb
  · exact Nat.le_trans (len_le ha (Nat.gcd_le_left _ h0)) la
end Nt
