import Derived.Test.YtgicgmaiolfpkaaLongMath3
import Derived.Lib.BitFns
set_option linter.unusedVariables false
namespace Nt
open Go
theorem bitLen_bounds : ∀ (f x : Nat), x < 2 ^ f → f ≤ 64 → x ≠ 0 → 1 ≤ Lib.bitLen x ∧ 2 ^ (Lib.bitLen x - 1) ≤ x ∧ x < 2 ^ Lib.bitLen x
  | 0, x, h, _, h0 => by simp at h; omega
  | f + 1, x, h, hf, h0 => by
    have h64 : x < 2 ^ 64 := Nat.lt_of_lt_of_le h (Nat.pow_le_pow_right (by omega) hf)
    rw [Lib.bitLen_half x h0 h64]
    rcases Nat.eq_zero_or_pos (x / 2) with hz | hz
    · have : x = 1 := by omega
      subst this
      decide
    · obtain ⟨a, b, c⟩ := bitLen_bounds f (x / 2) (by rw [Nat.pow_succ] at h; omega) (by omega) (by omega)
      generalize Lib.bitLen (x / 2) = L at *
      refine ⟨by omega, ?_, ?_⟩
      · rw [show 1 + L - 1 = (L - 1) + 1 by omega, Nat.pow_succ]; omega
      · rw [Nat.add_comm, Nat.pow_succ]; omega
theorem shift_of {t : Nat} (h0 : t ≠ 0) (ht : t < 4294967296) : Lib.bitLen t ≤ 32 ∧ 1 ≤ Lib.bitLen t ∧ 2147483648 ≤ t * 2 ^ (32 - Lib.bitLen t) ∧ t * 2 ^ (32 - Lib.bitLen t) < 4294967296 := by
  obtain ⟨a, b, c⟩ := bitLen_bounds 32 t ht (by omega) h0
  have hl : Lib.bitLen t ≤ 32 := by
    rcases Nat.lt_or_ge 32 (Lib.bitLen t) with h | h
    · exfalso
      have : 2 ^ 32 ≤ 2 ^ (Lib.bitLen t - 1) := Nat.pow_le_pow_right (by omega) (by omega)
      omega
    · exact h
  generalize Lib.bitLen t = L at *
  refine ⟨hl, a, ?_, ?_⟩
  · have h1 := Nat.mul_le_mul_right (2 ^ (32 - L)) b
    rw [← Nat.pow_add, show L - 1 + (32 - L) = 31 by omega] at h1
    exact h1
  · have h1 := Nat.mul_lt_mul_of_pos_right c (Nat.two_pow_pos (32 - L))
    rw [← Nat.pow_add, show L + (32 - L) = 32 by omega] at h1
    exact h1
end Nt
