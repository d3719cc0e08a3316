import Derived.Test.YtgicgmaiolfpkaaLongMath2
set_option linter.unusedVariables false
namespace Nt
/-! ### The estimate, as a loop -/
theorem val_top2 {l : List Nat} {m : Nat} (h : l.length = m + 2) : val l = val (l.take m) + 4294967296 ^ m * (l[m] + 4294967296 * l[m + 1]) := by
  have e := val_split l m (by omega)
  rw [drop_succ_val (by omega), drop_succ_val (k := m + 1) (by omega), List.drop_of_length_le (show l.length ≤ m + 1 + 1 by omega), val, Nat.mul_zero] at e
  exact e
theorem val_top3 {l : List Nat} {m : Nat} (h : l.length = m + 3) : val l = val (l.take m) + 4294967296 ^ m * (l[m] + 4294967296 * (l[m + 1] + 4294967296 * l[m + 2])) := by
  have e := val_split l m (by omega)
  rw [drop_succ_val (by omega), drop_succ_val (k := m + 1) (by omega), drop_succ_val (k := m + 1 + 1) (by omega), List.drop_of_length_le (show l.length ≤ m + 1 + 1 + 1 by omega), val, Nat.mul_zero] at e
  exact e
theorem val_take_lt {l : List Nat} (h : Ok l) {m : Nat} (hm : m ≤ l.length) : val (l.take m) < 4294967296 ^ m := by
  have := val_lt (ok_take h m)
  rwa [List.length_take, Nat.min_eq_left hm] at this
theorem est_of {a d : List Nat} {m : Nat} (ha : Ok a) (hd : Ok d) (hla : a.length = m + 3) (hld : d.length = m + 2) (h31 : 2147483648 ≤ d[m + 1]) (hlt : val a < 4294967296 * val d) :
    Est (val a) (val d) (4294967296 ^ m) d[m + 1] d[m] a[m + 2] a[m + 1] a[m] where
  d := ⟨val (d.take m), val_take_lt hd (by omega), by rw [val_top2 hld]; generalize 4294967296 ^ m = p; generalize val (d.take m) = V; grind⟩
  r := ⟨val (a.take m), val_take_lt ha (by omega), by rw [val_top3 hla]; generalize 4294967296 ^ m = p; generalize val (a.take m) = V; grind⟩
  v1lo := h31
  v1hi := ok_get hd _
  v2hi := ok_get hd _
  u1hi := ok_get ha _
  u2hi := ok_get ha _
  lt := hlt
/-- What holds at the head of the estimate's loop. -/
structure EstAt (R D p v1 v2 u0 u1 u2 g t : Nat) : Prop where
  e : Est R D p v1 v2 u0 u1 u2
  sum : g * v1 + t = u0 * 4294967296 + u1
  ge : R / D ≤ g
theorem est_start {R D p v1 v2 u0 u1 u2 : Nat} (h : Est R D p v1 v2 u0 u1 u2) : EstAt R D p v1 v2 u0 u1 u2 ((u0 * 4294967296 + u1) / v1) ((u0 * 4294967296 + u1) % v1) where
  e := h
  sum := by rw [Nat.mul_comm]; exact Nat.div_add_mod _ _
  ge := h.first
theorem EstAt.le {R D p v1 v2 u0 u1 u2 g t : Nat} (h : EstAt R D p v1 v2 u0 u1 u2 g t) : g ≤ 8589934592 := by
  have h1 := h.e.u0
  have h2 := h.sum
  have h3 := h.e.v1lo
  have h4 := h.e.v1hi
  rcases Nat.lt_or_ge 8589934592 g with h5 | h5
  · exfalso
    have h6 : 8589934593 * v1 ≤ g * v1 := Nat.mul_le_mul_right _ h5
    generalize g * v1 = z at *
    omega
  · exact h5
theorem EstAt.step {R D p v1 v2 u0 u1 u2 g t : Nat} (h : EstAt R D p v1 v2 u0 u1 u2 g t) (ht : 4294967296 ≤ g ∨ t * 4294967296 + u2 < g * v2) : 1 ≤ g ∧ EstAt R D p v1 v2 u0 u1 u2 (g - 1) (t + v1) := by
  have h1 := h.e.less h.sum h.ge ht
  have hg : 1 ≤ g := Nat.le_trans (Nat.le_add_left _ _) h1
  refine ⟨hg, h.e, ?_, Nat.le_sub_one_of_lt h1⟩
  clear h1 ht
  rw [← h.sum]
  obtain ⟨m, rfl⟩ : ∃ m, g = m + 1 := ⟨g - 1, by omega⟩
  rw [Nat.add_sub_cancel, Nat.succ_mul]
  omega
theorem EstAt.done {R D p v1 v2 u0 u1 u2 g t : Nat} (h : EstAt R D p v1 v2 u0 u1 u2 g t) (hg : g < 4294967296) (ht : g * v2 ≤ t * 4294967296 + u2) : R / D ≤ g ∧ g ≤ R / D + 1 ∧ g < 4294967296 :=
  ⟨h.ge, h.e.near h.sum hg ht, hg⟩
theorem EstAt.broke {R D p v1 v2 u0 u1 u2 g t : Nat} (h : EstAt R D p v1 v2 u0 u1 u2 g t) (ht : 4294967296 ≤ t) : R / D ≤ g ∧ g ≤ R / D + 1 ∧ g < 4294967296 := by
  have h1 := h.e.u0
  have h2 := h.sum
  have h3 := h.e.v1lo
  have hg : g < 4294967296 := by
    rcases Nat.lt_or_ge g 4294967296 with h5 | h5
    · exact h5
    · exfalso
      have h6 : 4294967296 * v1 ≤ g * v1 := Nat.mul_le_mul_right _ h5
      generalize g * v1 = z at *
      omega
  refine h.done hg ?_
  have h7 : g * v2 ≤ 4294967296 * 4294967296 := Nat.mul_le_mul (by omega) (by have := h.e.v2hi; omega)
  omega

/-! ### The divisor, its highest bit 1 -/
theorem take_low {l : List Nat} {n v : Nat} (h : Ok l) (hl : l.length = n + 1) (hv : val l = v) (hlt : v < 4294967296 ^ n) : val (l.take n) = v := by
  have h1 := val_take_succ (l := l) (i := n) (by omega)
  rw [List.take_of_length_le (by omega)] at h1
  rcases Nat.eq_zero_or_pos l[n] with h0 | h0
  · rw [h0, Nat.mul_zero, Nat.add_zero] at h1; omega
  · exfalso
    have : 4294967296 ^ n * 1 ≤ 4294967296 ^ n * l[n] := Nat.mul_le_mul_left _ h0
    omega
theorem scaled_lt {y s m : Nat} (t : Nat) (hy : y < (t + 1) * 4294967296 ^ m) (hs : s ≤ 32) (ht : t * 2 ^ s < 4294967296) : y * 2 ^ s < 4294967296 ^ (m + 1) := by
  have h1 : y * 2 ^ s < (t + 1) * 4294967296 ^ m * 2 ^ s := Nat.mul_lt_mul_of_pos_right hy (Nat.two_pow_pos s)
  have h2 : (t + 1) * 2 ^ s ≤ 4294967296 := by
    have e : 4294967296 = 2 ^ (32 - s) * 2 ^ s := by rw [← Nat.pow_add, show 32 - s + s = 32 by omega]
    have h3 : t < 2 ^ (32 - s) := by rw [e] at ht; exact Nat.lt_of_mul_lt_mul_right ht
    have h4 : (t + 1) * 2 ^ s ≤ 2 ^ (32 - s) * 2 ^ s := Nat.mul_le_mul_right _ h3
    rw [← e] at h4
    exact h4
  have h5 : (t + 1) * 2 ^ s * 4294967296 ^ m ≤ 4294967296 * 4294967296 ^ m := Nat.mul_le_mul_right _ h2
  rw [Nat.pow_succ]
  have e2 : (t + 1) * 4294967296 ^ m * 2 ^ s = (t + 1) * 2 ^ s * 4294967296 ^ m := by rw [Nat.mul_assoc, Nat.mul_assoc, Nat.mul_comm (2 ^ s)]
  rw [e2] at h1
  rw [Nat.mul_comm (4294967296 ^ m)]
  exact Nat.lt_of_lt_of_le h1 h5
theorem top_bit {d : List Nat} {m x : Nat} (hd : Ok d) (hl : d.length = m + 1) (hv : 2147483648 * 4294967296 ^ m ≤ val d) : 2147483648 ≤ d[m] := by
  have h1 := val_take_succ (l := d) (i := m) (by omega)
  rw [List.take_of_length_le (by omega)] at h1
  have h2 := val_take_lt hd (m := m) (by omega)
  rcases Nat.lt_or_ge d[m] 2147483648 with h | h
  · exfalso
    have h3 : 4294967296 ^ m * (d[m] + 1) ≤ 4294967296 ^ m * 2147483648 := Nat.mul_le_mul_left _ h
    rw [Nat.mul_add, Nat.mul_one] at h3
    generalize 4294967296 ^ m = p at *
    generalize p * d[m] = z at *
    omega
  · exact h
/-- Of the limbs b of y (two or more, none 0 on top), shifted up by s so that the top's highest bit is 1. -/
theorem div_scaled {y s m t : Nat} {cur : List Nat} (hlen : (digs y).length = m + 1) (htop : t = (digs y)[m]'(by omega)) (hs : s ≤ 32) (hlo : 2147483648 ≤ t * 2 ^ s) (hhi : t * 2 ^ s < 4294967296)
    (ok : Ok cur) (hl : cur.length = m + 1 + 1) (hv : val cur = y * 2 ^ s) :
    y * 2 ^ s < 4294967296 ^ (m + 1) ∧ val (cur.take (m + 1)) = y * 2 ^ s ∧ Ok (cur.take (m + 1)) ∧ (cur.take (m + 1)).length = m + 1 ∧ ∀ h : m < (cur.take (m + 1)).length, 2147483648 ≤ (cur.take (m + 1))[m] := by
  have hy := val_take_succ (l := digs y) (i := m) (by omega)
  rw [List.take_of_length_le (by omega), val_digs, ← htop] at hy
  have hr := val_take_lt (ok_digs y) (m := m) (by omega)
  have hlt : y * 2 ^ s < 4294967296 ^ (m + 1) := scaled_lt t (by rw [Nat.succ_mul, Nat.mul_comm t]; omega) hs hhi
  have hval := take_low ok hl hv hlt
  have hlen2 : (cur.take (m + 1)).length = m + 1 := by rw [List.length_take]; omega
  refine ⟨hlt, hval, ok_take ok _, hlen2, fun h => top_bit (x := 0) (ok_take ok _) hlen2 ?_⟩
  rw [hval]
  have h1 : 4294967296 ^ m * t ≤ y := by omega
  have h2 : 4294967296 ^ m * t * 2 ^ s ≤ y * 2 ^ s := Nat.mul_le_mul_right _ h1
  have h3 : 2147483648 * 4294967296 ^ m ≤ t * 2 ^ s * 4294967296 ^ m := Nat.mul_le_mul_right _ hlo
  have e : t * 2 ^ s * 4294967296 ^ m = 4294967296 ^ m * t * 2 ^ s := by rw [Nat.mul_comm (t * 2 ^ s), Nat.mul_assoc]
  omega
end Nt
