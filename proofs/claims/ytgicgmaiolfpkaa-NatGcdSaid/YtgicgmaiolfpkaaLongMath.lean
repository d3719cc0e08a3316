import Derived.Test.YtgicgmaiolfpkaaNatMath
namespace Nt
/-! ### The estimate of a quotient's limb -/
/-- The parts of a number and of a divisor that the estimate looks at: V = v1 B + v2 on top of D, H B + u2 on top of R. -/
structure Est (R D p v1 v2 u0 u1 u2 : Nat) : Prop where
  d : ∃ r, r < p ∧ D = (v1 * 4294967296 + v2) * p + r
  r : ∃ s, s < p ∧ R = ((u0 * 4294967296 + u1) * 4294967296 + u2) * p + s
  v1lo : 2147483648 ≤ v1
  v1hi : v1 < 4294967296
  v2hi : v2 < 4294967296
  u1hi : u1 < 4294967296
  u2hi : u2 < 4294967296
  lt : R < 4294967296 * D
theorem Est.ppos {R D p v1 v2 u0 u1 u2 : Nat} (h : Est R D p v1 v2 u0 u1 u2) : 0 < p := by
  obtain ⟨r, hr, _⟩ := h.d; omega
theorem Est.dpos {R D p v1 v2 u0 u1 u2 : Nat} (h : Est R D p v1 v2 u0 u1 u2) : 0 < D := by
  have := h.lt; omega
theorem mul_lt_cancel {a b p : Nat} (h : a * p < b * p) : a < b := Nat.lt_of_mul_lt_mul_right h
/-- u0 is not above v1. -/
theorem Est.u0 {R D p v1 v2 u0 u1 u2 : Nat} (h : Est R D p v1 v2 u0 u1 u2) : u0 * 4294967296 + u1 ≤ v1 * 4294967296 + 4294967295 := by
  obtain ⟨r, hr, hD⟩ := h.d
  obtain ⟨s, hs, hR⟩ := h.r
  have h1 := h.lt
  have h2 : ((u0 * 4294967296 + u1) * 4294967296 + u2) * p < (4294967296 * (v1 * 4294967296 + v2) + 4294967296) * p := by
    have : (4294967296 * (v1 * 4294967296 + v2) + 4294967296) * p = 4294967296 * ((v1 * 4294967296 + v2) * p) + 4294967296 * p := by grind
    omega
  have h3 := mul_lt_cancel h2
  have := h.v2hi
  omega
/-- The quotient is below the base. -/
theorem Est.q {R D p v1 v2 u0 u1 u2 : Nat} (h : Est R D p v1 v2 u0 u1 u2) : R / D < 4294967296 := by
  rw [Nat.div_lt_iff_lt_mul h.dpos]; exact h.lt
/-- No quotient is above the first guess. -/
theorem Est.first {R D p v1 v2 u0 u1 u2 : Nat} (h : Est R D p v1 v2 u0 u1 u2) : R / D ≤ (u0 * 4294967296 + u1) / v1 := by
  obtain ⟨r, hr, hD⟩ := h.d
  obtain ⟨s, hs, hR⟩ := h.r
  have hv := h.v1lo
  rw [Nat.le_div_iff_mul_le (by omega)]
  have h1 : R / D * D ≤ R := Nat.div_mul_le_self _ _
  generalize R / D = q at *
  have hu2 := h.u2hi
  have h2 : q * v1 * (4294967296 * p) < (u0 * 4294967296 + u1 + 1) * (4294967296 * p) := by
    have e1 : q * v1 * (4294967296 * p) ≤ q * D := by
      have : q * D = q * v1 * (4294967296 * p) + q * (v2 * p + r) := by rw [hD]; grind
      omega
    have e2 : (u0 * 4294967296 + u1 + 1) * (4294967296 * p) = (u0 * 4294967296 + u1) * 4294967296 * p + 4294967296 * p := by grind
    have e3 : ((u0 * 4294967296 + u1) * 4294967296 + u2) * p = (u0 * 4294967296 + u1) * 4294967296 * p + u2 * p := by grind
    have e4 : u2 * p + p ≤ 4294967296 * p := by
      have : (u2 + 1) * p ≤ 4294967296 * p := Nat.mul_le_mul_right _ hu2
      rw [Nat.succ_mul] at this
      exact this
    omega
  have := mul_lt_cancel h2
  omega
/-- Where the test says too great, it is. -/
theorem Est.less {R D p v1 v2 u0 u1 u2 g t : Nat} (h : Est R D p v1 v2 u0 u1 u2) (hg : g * v1 + t = u0 * 4294967296 + u1) (hge : R / D ≤ g) (htest : 4294967296 ≤ g ∨ t * 4294967296 + u2 < g * v2) : R / D + 1 ≤ g := by
  rcases htest with h1 | h1
  · have := h.q; omega
  · rcases Nat.lt_or_ge (R / D) g with h2 | h2
    · exact h2
    · exfalso
      have e : R / D = g := by omega
      obtain ⟨r, hr, hD⟩ := h.d
      obtain ⟨s, hs, hR⟩ := h.r
      have h3 : g * D ≤ R := by rw [← e]; exact Nat.div_mul_le_self _ _
      have h4 : g * (v1 * 4294967296 + v2) * p < ((u0 * 4294967296 + u1) * 4294967296 + u2 + 1) * p := by
        have e1 : g * D = g * (v1 * 4294967296 + v2) * p + g * r := by rw [hD]; grind
        have e2 : ((u0 * 4294967296 + u1) * 4294967296 + u2 + 1) * p = ((u0 * 4294967296 + u1) * 4294967296 + u2) * p + p := Nat.succ_mul _ _
        omega
      have h5 := mul_lt_cancel h4
      have e3 : g * (v1 * 4294967296 + v2) = (g * v1) * 4294967296 + g * v2 := by grind
      omega
/-- Where the test says no, the guess is at most one too great. -/
theorem Est.near {R D p v1 v2 u0 u1 u2 g t : Nat} (h : Est R D p v1 v2 u0 u1 u2) (hg : g * v1 + t = u0 * 4294967296 + u1) (hlt : g < 4294967296) (htest : g * v2 ≤ t * 4294967296 + u2) : g ≤ R / D + 1 := by
  obtain ⟨r, hr, hD⟩ := h.d
  obtain ⟨s, hs, hR⟩ := h.r
  have hv := h.v1lo
  have h1 : g * (v1 * 4294967296 + v2) * p ≤ R := by
    have e3 : g * (v1 * 4294967296 + v2) = (g * v1) * 4294967296 + g * v2 := by grind
    have h2 : g * (v1 * 4294967296 + v2) ≤ (u0 * 4294967296 + u1) * 4294967296 + u2 := by omega
    have := Nat.mul_le_mul_right p h2
    omega
  have h2 : g * r ≤ 4294967295 * p := Nat.mul_le_mul (by omega) (by omega)
  have h3 : 4294967295 * p < D := by
    have : 4294967296 * p ≤ (v1 * 4294967296 + v2) * p := Nat.mul_le_mul_right _ (by omega)
    have hp := h.ppos
    omega
  have e1 : g * D = g * (v1 * 4294967296 + v2) * p + g * r := by rw [hD]; grind
  have h4 : g * D < R + D := by omega
  rcases Nat.eq_zero_or_pos g with h0 | h0
  · rw [h0]; exact Nat.zero_le _
  · have h5 : (g - 1) * D ≤ R := by
      have : g * D = (g - 1) * D + D := by
        obtain ⟨m, rfl⟩ : ∃ m, g = m + 1 := ⟨g - 1, by omega⟩
        rw [Nat.add_sub_cancel, Nat.succ_mul]
      omega
    have := (Nat.le_div_iff_mul_le h.dpos).2 h5
    omega

/-! ### So many times a divisor taken off limbs -/
/-- What holds when k limbs are done: cy what is carried of the product, b what is borrowed. -/
def TakeAt (a d : List Nat) (g : Nat) (cur : List Nat) (k cy b : Nat) : Prop :=
  cur.length = a.length ∧ Ok cur ∧ val (cur.take k) + g * val (d.take k) = val (a.take k) + (cy + b) * 4294967296 ^ k ∧ cur.drop k = a.drop k
theorem take_start {a d : List Nat} {g : Nat} (h : Ok a) : TakeAt a d g a 0 0 0 := ⟨rfl, h, by simp [val], rfl⟩
theorem take_get {a d cur : List Nat} {g k cy b : Nat} (h : TakeAt a d g cur k cy b) (hk : k < a.length) : cur[k]? = some a[k] := by
  have : (cur.drop k)[0]? = (a.drop k)[0]? := by rw [h.2.2.2]
  rw [List.getElem?_drop, List.getElem?_drop, Nat.add_zero, List.getElem?_eq_getElem hk] at this
  exact this
theorem take_step {a d cur : List Nat} {g k cy b s cy' b' t : Nat} (h : TakeAt a d g cur k cy b) (hk : k < a.length) (hd : k < d.length) (hs : s < 4294967296) (e1 : g * d[k] + cy = t + 4294967296 * cy') (e2 : a[k] + 4294967296 * b' = s + t + b) : TakeAt a d g (cur.set k s) (k + 1) cy' b' := by
  obtain ⟨h1, h2, h3, h4⟩ := h
  refine ⟨by simpa using h1, ok_set h2 hs, ?_, ?_⟩
  · rw [set_take (by omega), val_take_succ hk, val_take_succ hd, Nat.pow_succ]
    generalize 4294967296 ^ k = p at *
    generalize a[k] = x at *
    generalize d[k] = y at *
    generalize val (cur.take k) = V at *
    generalize val (d.take k) = D at *
    grind
  · rw [drop_set]
    have := congrArg (List.drop 1) h4
    rw [List.drop_drop, List.drop_drop] at this
    exact this
/-- The last limb: what was carried goes off it. -/
theorem take_end {a d cur : List Nat} {g cy b s b' : Nat} (h : TakeAt a d g cur d.length cy b) (hl : a.length = d.length + 1) (hs : s < 4294967296) (e2 : a[d.length] + 4294967296 * b' = s + cy + b) :
    (cur.set d.length s).length = a.length ∧ Ok (cur.set d.length s) ∧ val (cur.set d.length s) + g * val d = val a + b' * 4294967296 ^ (d.length + 1) := by
  obtain ⟨h1, h2, h3, h4⟩ := h
  refine ⟨by simpa using h1, ok_set h2 hs, ?_⟩
  have hc : d.length < cur.length := by omega
  have e : (cur.set d.length s).take (d.length + 1) = cur.set d.length s := List.take_of_length_le (by rw [List.length_set]; omega)
  have f : a.take (d.length + 1) = a := List.take_of_length_le (by omega)
  have k1 := set_take (x := s) hc
  rw [e] at k1
  have k2 := val_take_succ (l := a) (i := d.length) (by omega)
  rw [f] at k2
  rw [List.take_length] at h3
  rw [k1, k2, Nat.pow_succ]
  generalize 4294967296 ^ d.length = p at *
  generalize a[d.length] = x at *
  generalize val (cur.take d.length) = V at *
  grind
end Nt
