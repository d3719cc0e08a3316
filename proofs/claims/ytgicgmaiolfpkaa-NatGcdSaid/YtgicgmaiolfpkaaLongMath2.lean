import Derived.Test.YtgicgmaiolfpkaaLongMath
set_option linter.unusedVariables false
namespace Nt
/-! ### A divisor put back -/
def PutAt (a d cur : List Nat) (k c : Nat) : Prop :=
  cur.length = a.length ∧ Ok cur ∧ val (cur.take k) + c * 4294967296 ^ k = val (a.take k) + val (d.take k) ∧ cur.drop k = a.drop k
theorem put_start {a d : List Nat} (h : Ok a) : PutAt a d a 0 0 := ⟨rfl, h, by simp [val], rfl⟩
theorem put_get {a d cur : List Nat} {k c : Nat} (h : PutAt a d cur k c) (hk : k < a.length) : cur[k]? = some a[k] := by
  have : (cur.drop k)[0]? = (a.drop k)[0]? := by rw [h.2.2.2]
  rw [List.getElem?_drop, List.getElem?_drop, Nat.add_zero, List.getElem?_eq_getElem hk] at this
  exact this
theorem put_step {a d cur : List Nat} {k c s c' : Nat} (h : PutAt a d cur k c) (hk : k < a.length) (hd : k < d.length) (hs : s < 4294967296) (e : a[k] + d[k] + c = s + 4294967296 * c') : PutAt a d (cur.set k s) (k + 1) c' := by
  obtain ⟨h1, h2, h3, h4⟩ := h
  refine ⟨by simpa using h1, ok_set h2 hs, ?_, ?_⟩
  · rw [set_take (by omega), val_take_succ hk, val_take_succ hd, Nat.pow_succ]
    generalize 4294967296 ^ k = p at *
    generalize a[k] = x at *
    generalize d[k] = y at *
    generalize val (cur.take k) = V at *
    generalize val (d.take k) = D at *
    grind
  · rw [drop_set]
    have := congrArg (List.drop 1) h4
    rw [List.drop_drop, List.drop_drop] at this
    exact this
theorem put_end {a d cur : List Nat} {c s c' : Nat} (h : PutAt a d cur d.length c) (hl : a.length = d.length + 1) (hs : s < 4294967296) (e : a[d.length] + c = s + 4294967296 * c') :
    (cur.set d.length s).length = a.length ∧ Ok (cur.set d.length s) ∧ val (cur.set d.length s) + c' * 4294967296 ^ (d.length + 1) = val a + val d := by
  obtain ⟨h1, h2, h3, h4⟩ := h
  refine ⟨by simpa using h1, ok_set h2 hs, ?_⟩
  have hc : d.length < cur.length := by omega
  have e1 : (cur.set d.length s).take (d.length + 1) = cur.set d.length s := List.take_of_length_le (by rw [List.length_set]; omega)
  have f : a.take (d.length + 1) = a := List.take_of_length_le (by omega)
  have k1 := set_take (x := s) hc
  rw [e1] at k1
  have k2 := val_take_succ (l := a) (i := d.length) (by omega)
  rw [f] at k2
  rw [List.take_length] at h3
  rw [k1, k2, Nat.pow_succ]
  generalize 4294967296 ^ d.length = p at *
  generalize a[d.length] = x at *
  generalize val (cur.take d.length) = V at *
  grind

/-! ### Times a power of two -/
def UpAt (l : List Nat) (s : Nat) (cur : List Nat) (k c : Nat) : Prop :=
  cur.length = l.length + 1 ∧ Ok cur ∧ c < 2 ^ s ∧ val (cur.take k) + c * 4294967296 ^ k = val (l.take k) * 2 ^ s
theorem up_start (l : List Nat) (s : Nat) : UpAt l s (List.replicate (l.length + 1) 0) 0 0 :=
  ⟨by simp, fun d hd => by rw [List.mem_replicate] at hd; omega, Nat.two_pow_pos s, by simp [val]⟩
theorem up_carry {x s c : Nat} (hx : x < 4294967296) (hc : c < 2 ^ s) : (x * 2 ^ s + c) / 4294967296 < 2 ^ s := by
  rw [Nat.div_lt_iff_lt_mul (by omega)]
  have : (x + 1) * 2 ^ s ≤ 4294967296 * 2 ^ s := Nat.mul_le_mul_right _ hx
  rw [Nat.succ_mul] at this
  rw [Nat.mul_comm (2 ^ s)]
  omega
theorem up_step {l cur : List Nat} {s k c : Nat} (hl : Ok l) (h : UpAt l s cur k c) (hk : k < l.length) : UpAt l s (cur.set k ((l[k] * 2 ^ s + c) % 4294967296)) (k + 1) ((l[k] * 2 ^ s + c) / 4294967296) := by
  obtain ⟨h1, h2, h3, h4⟩ := h
  have hx := ok_get hl hk
  refine ⟨by simpa using h1, ok_set h2 (Nat.mod_lt _ (by omega)), up_carry hx h3, ?_⟩
  rw [set_take (by omega), val_take_succ hk, Nat.pow_succ]
  have e := Nat.mod_add_div (l[k] * 2 ^ s + c) 4294967296
  generalize (l[k] * 2 ^ s + c) % 4294967296 = m at *
  generalize (l[k] * 2 ^ s + c) / 4294967296 = t at *
  generalize 4294967296 ^ k = p at *
  generalize l[k] = x at *
  generalize val (cur.take k) = V at *
  generalize 2 ^ s = q at *
  grind
theorem up_end {l cur : List Nat} {s c : Nat} (hs : s ≤ 32) (h : UpAt l s cur l.length c) : Ok (cur.set l.length c) ∧ (cur.set l.length c).length = l.length + 1 ∧ val (cur.set l.length c) = val l * 2 ^ s := by
  obtain ⟨h1, h2, h3, h4⟩ := h
  have hp : 2 ^ s ≤ 2 ^ 32 := Nat.pow_le_pow_right (by omega) hs
  refine ⟨ok_set h2 (by omega), by simpa using h1, ?_⟩
  have e1 : (cur.set l.length c).take (l.length + 1) = cur.set l.length c := List.take_of_length_le (by rw [List.length_set]; omega)
  have k1 := set_take (x := c) (show l.length < cur.length by omega)
  rw [e1] at k1
  rw [List.take_length] at h4
  rw [k1, ← h4, Nat.mul_comm]

/-! ### By a power of two -/
def DownAt (l : List Nat) (s : Nat) (cur : List Nat) (k ab : Nat) : Prop :=
  cur.length = l.length ∧ Ok cur ∧ ab < 4294967296 ∧ ab = val (l.drop k) % 4294967296 ∧ val (cur.drop k) = val (l.drop k) / 2 ^ s
theorem down_start (l : List Nat) (s : Nat) : DownAt l s (List.replicate l.length 0) l.length 0 :=
  ⟨by simp, fun d hd => by rw [List.mem_replicate] at hd; omega, by omega, by simp [val], by simp [val]⟩
theorem down_limb {x V s p : Nat} (hx : x < 4294967296) (hs : 4294967296 = 2 ^ s * p) : (x + 4294967296 * V) / 2 ^ s = (V % 4294967296 * 4294967296 + x) / 2 ^ s % 4294967296 + 4294967296 * (V / 2 ^ s) := by
  have hq := Nat.two_pow_pos s
  generalize 2 ^ s = q at *
  have e1 := Nat.div_add_mod V q
  have r1 := Nat.mod_lt V hq
  generalize V / q = Q at *
  generalize V % q = R at *
  have e2 := Nat.div_add_mod V 4294967296
  generalize V / 4294967296 = m at *
  generalize V % 4294967296 = a at *
  have hb : (x + 4294967296 * R) / q < 4294967296 := by
    rw [Nat.div_lt_iff_lt_mul hq]
    have : (R + 1) * 4294967296 ≤ q * 4294967296 := Nat.mul_le_mul_right _ r1
    rw [Nat.succ_mul] at this
    rw [Nat.mul_comm 4294967296 q]
    omega
  have h1 : (x + 4294967296 * V) / q = (x + 4294967296 * R) / q + 4294967296 * Q := by
    rw [← e1, show x + 4294967296 * (q * Q + R) = x + 4294967296 * R + q * (4294967296 * Q) by grind, Nat.add_mul_div_left _ _ hq]
  have h2 : (a * 4294967296 + x) / q + 4294967296 * (p * m) = (x + 4294967296 * R) / q + 4294967296 * Q := by
    rw [← h1, ← e2, show x + 4294967296 * (4294967296 * m + a) = a * 4294967296 + x + 4294967296 * 4294967296 * m by grind]
    have : 4294967296 * 4294967296 * m = q * (4294967296 * (p * m)) := by
      rw [Nat.mul_left_comm q, ← Nat.mul_assoc q, ← hs, Nat.mul_assoc]
    rw [this, Nat.add_mul_div_left _ _ hq]
  rw [h1]
  have h3 : (a * 4294967296 + x) / q % 4294967296 = (x + 4294967296 * R) / q := by
    generalize (a * 4294967296 + x) / q = u at *
    generalize (x + 4294967296 * R) / q = v at *
    generalize p * m = t at *
    omega
  rw [h3]
theorem drop_succ_val {l : List Nat} {k : Nat} (h : k < l.length) : val (l.drop k) = l[k] + 4294967296 * val (l.drop (k + 1)) := by
  rw [List.drop_eq_getElem_cons h, val]
theorem down_step {l cur : List Nat} {s k ab : Nat} (hl : Ok l) (hs : s ≤ 32) (h : DownAt l s cur (k + 1) ab) (hk : k < l.length) : DownAt l s (cur.set k ((ab * 4294967296 + l[k]) / 2 ^ s % 4294967296)) k l[k] := by
  obtain ⟨h1, h2, h3, h4, h5⟩ := h
  have hx := ok_get hl hk
  refine ⟨by simpa using h1, ok_set h2 (Nat.mod_lt _ (by omega)), hx, ?_, ?_⟩
  · rw [drop_succ_val hk]; omega
  · have hk' : k < (cur.set k ((ab * 4294967296 + l[k]) / 2 ^ s % 4294967296)).length := by rw [List.length_set]; omega
    rw [drop_succ_val hk, drop_succ_val hk', List.getElem_set_self, drop_set, h5, h4]
    refine (down_limb (p := 2 ^ (32 - s)) hx ?_).symm
    rw [← Nat.pow_add, show s + (32 - s) = 32 by omega]
theorem down_end {l cur : List Nat} {s ab : Nat} (h : DownAt l s cur 0 ab) : val cur = val l / 2 ^ s := by
  have := h.2.2.2.2
  simpa using this

/-! ### The limbs of a quotient, one after the other from the top -/
structure LongAt (X D n : Nat) (cur quo : List Nat) (k : Nat) : Prop where
  ok : Ok cur
  okq : Ok quo
  len : cur.length = quo.length + n
  sum : val cur + D * val (quo.drop k) * 4294967296 ^ k = X
  lt : val (cur.drop k) < D
  hi : D < 4294967296 ^ n
/-- The window at k: its limbs, and what it is worth. -/
theorem LongAt.window {X D n k : Nat} {cur quo : List Nat} (h : LongAt X D n cur quo (k + 1)) (hk : k < quo.length) :
    ((cur.drop k).take (n + 1)).length = n + 1 ∧ Ok ((cur.drop k).take (n + 1)) ∧ val ((cur.drop k).take (n + 1)) < 4294967296 * D ∧ val ((cur.drop k).take (n + 1)) = val (cur.drop k) ∧
    cur = cur.take k ++ ((cur.drop k).take (n + 1) ++ cur.drop (k + (n + 1))) ∧ (cur.take k).length = k := by
  have hl := h.len
  have h1 : val (cur.drop k) < 4294967296 * D := by
    have hkc : k < cur.length := by omega
    rw [drop_succ_val hkc]
    have := ok_get h.ok hkc
    have := h.lt
    omega
  have h2 : val (cur.drop k) = val ((cur.drop k).take (n + 1)) + 4294967296 ^ (n + 1) * val ((cur.drop k).drop (n + 1)) := val_split _ _ (by rw [List.length_drop]; omega)
  have h3 : val ((cur.drop k).drop (n + 1)) = 0 := by
    rcases Nat.eq_zero_or_pos (val ((cur.drop k).drop (n + 1))) with h0 | h0
    · exact h0
    · exfalso
      have : 4294967296 ^ (n + 1) * 1 ≤ 4294967296 ^ (n + 1) * val ((cur.drop k).drop (n + 1)) := Nat.mul_le_mul_left _ h0
      have hh := h.hi
      rw [Nat.pow_succ] at this h2
      generalize 4294967296 ^ n = p at *
      omega
  rw [h3, Nat.mul_zero, Nat.add_zero] at h2
  refine ⟨by rw [List.length_take, List.length_drop]; omega, ok_take (ok_drop h.ok _) _, by omega, h2.symm, ?_, by rw [List.length_take]; omega⟩
  rw [← List.drop_drop, List.take_append_drop, List.take_append_drop]
theorem LongAt.step {X D n k q : Nat} {cur quo win : List Nat} (h : LongAt X D n cur quo (k + 1)) (hk : k < quo.length) (hwl : win.length = n + 1) (hwo : Ok win)
    (hq : q < 4294967296) (hlt : val win < D) (hv : val win + q * D = val ((cur.drop k).take (n + 1))) : LongAt X D n (cur.take k ++ (win ++ cur.drop (k + (n + 1)))) (quo.set k q) k := by
  obtain ⟨w1, w2, w3, w4, w5, w6⟩ := h.window hk
  have hl := h.len
  have hz : val (cur.drop (k + (n + 1))) = 0 := by
    have h2 : val (cur.drop k) = val ((cur.drop k).take (n + 1)) + 4294967296 ^ (n + 1) * val ((cur.drop k).drop (n + 1)) := val_split _ _ (by rw [List.length_drop]; omega)
    rw [List.drop_drop, w4] at h2
    have h0 : 4294967296 ^ (n + 1) * val (cur.drop (k + (n + 1))) = 0 := by omega
    rcases Nat.mul_eq_zero.1 h0 with h0 | h0
    · have := Nat.pow_pos (a := 4294967296) (n := n + 1) (by omega); omega
    · exact h0
  have hdrop : (cur.take k ++ (win ++ cur.drop (k + (n + 1)))).drop k = win ++ cur.drop (k + (n + 1)) := by
    rw [List.drop_append_of_le_length (by omega), List.drop_of_length_le (by omega), List.nil_append]
  refine ⟨?_, ok_set h.okq hq, ?_, ?_, ?_, h.hi⟩
  · intro d hd
    rw [List.mem_append, List.mem_append] at hd
    rcases hd with hd | hd | hd
    · exact ok_take h.ok _ d hd
    · exact hwo d hd
    · exact ok_drop h.ok _ d hd
  · rw [List.length_append, List.length_append, List.length_set, List.length_drop]; omega
  · have hs := h.sum
    have e1 : val cur = val (cur.take k) + 4294967296 ^ k * val (cur.drop k) := val_split _ _ (by omega)
    rw [drop_succ_val (l := quo.set k q) (by rw [List.length_set]; exact hk), List.getElem_set_self, drop_set, val_append, val_append, hz, w6]
    rw [e1, ← w4, ← hv, Nat.pow_succ] at hs
    generalize 4294967296 ^ k = p at *
    generalize val (quo.drop (k + 1)) = Q at *
    generalize val win = W at *
    generalize val (cur.take k) = V at *
    rw [Nat.mul_zero, Nat.add_zero]
    clear h w1 w2 w3 w4 w5 hz hdrop e1
    grind
  · rw [hdrop, val_append, hz]; omega
theorem LongAt.start {x y n s : Nat} {cur : List Nat} {m : Nat} (ok : Ok cur) (hv : val cur = x * 2 ^ s) (hl : cur.length = m + 1) (hn : n ≤ m) (hn1 : 1 ≤ n) (hx : x < 4294967296 ^ m) (hy : 4294967296 ^ (n - 1) ≤ y) (hD : y * 2 ^ s < 4294967296 ^ n) :
    LongAt (x * 2 ^ s) (y * 2 ^ s) n cur (List.replicate (m - n + 1) 0) (m - n + 1) := by
  refine ⟨ok, fun d hd => by rw [List.mem_replicate] at hd; omega, by simp; omega, ?_, ?_, hD⟩
  · rw [List.drop_of_length_le (by simp), val, Nat.mul_zero, Nat.zero_mul, hv]; rfl
  · have h2 : val cur = val (cur.take (m - n + 1)) + 4294967296 ^ (m - n + 1) * val (cur.drop (m - n + 1)) := val_split _ _ (by omega)
    have h3 : x * 2 ^ s < y * 2 ^ s * 4294967296 ^ (m - n + 1) := by
      have e : 4294967296 ^ m = 4294967296 ^ (n - 1) * 4294967296 ^ (m - n + 1) := by rw [← Nat.pow_add, show n - 1 + (m - n + 1) = m by omega]
      have k1 : 4294967296 ^ (n - 1) * 4294967296 ^ (m - n + 1) ≤ y * 4294967296 ^ (m - n + 1) := Nat.mul_le_mul_right _ hy
      have k2 : x < y * 4294967296 ^ (m - n + 1) := by omega
      have := Nat.mul_lt_mul_of_pos_right k2 (Nat.two_pow_pos s)
      grind
    have h4 : 4294967296 ^ (m - n + 1) * val (cur.drop (m - n + 1)) < 4294967296 ^ (m - n + 1) * (y * 2 ^ s) := by
      rw [Nat.mul_comm _ (y * 2 ^ s)]; omega
    exact Nat.lt_of_mul_lt_mul_left h4
theorem LongAt.done {x y n s : Nat} {cur quo : List Nat} (h : LongAt (x * 2 ^ s) (y * 2 ^ s) n cur quo 0) (hy : 0 < y) :
    val quo = x / y ∧ val (cur.take n) / 2 ^ s = x % y := by
  have h1 := h.sum
  have h2 := h.lt
  rw [List.drop_zero] at h1 h2
  rw [Nat.pow_zero, Nat.mul_one] at h1
  have hp := Nat.two_pow_pos s
  have hD : 0 < y * 2 ^ s := Nat.mul_pos hy hp
  have hq : val quo = x / y := by
    rw [← Nat.mul_div_mul_right x y hp, ← h1, Nat.add_mul_div_left _ _ hD, Nat.div_eq_of_lt h2, Nat.zero_add]
  have hr : val cur = x % y * 2 ^ s := by
    rw [← Nat.mul_mod_mul_right, ← h1, Nat.add_mul_mod_self_left, Nat.mod_eq_of_lt h2]
  have ht : val (cur.take n) = val cur := by
    have h3 : val cur = val (cur.take n) + 4294967296 ^ n * val (cur.drop n) := val_split _ _ (by have := h.len; omega)
    rcases Nat.eq_zero_or_pos (val (cur.drop n)) with h0 | h0
    · rw [h0, Nat.mul_zero, Nat.add_zero] at h3; exact h3.symm
    · exfalso
      have : 4294967296 ^ n * 1 ≤ 4294967296 ^ n * val (cur.drop n) := Nat.mul_le_mul_left _ h0
      have := h.hi
      omega
  refine ⟨hq, ?_⟩
  rw [ht, hr, Nat.mul_div_cancel _ hp]
/-- A guess that is one too great, put right; or a right guess. -/
theorem round_ok {R D g b V p : Nat} (hg : R / D ≤ g) (hg2 : g ≤ R / D + 1) (hD : 0 < D) (hR : R < p) (hV : V < p) (e : V + g * D = R + b * p) (hb : b ≤ 1) (hDp : D < p) :
    (b = 0 → g = R / D ∧ V < D ∧ V + g * D = R) ∧ (b = 1 → g = R / D + 1 ∧ ∀ W e', W < p → W + e' * p = V + D → W < D ∧ W + (g - 1) * D = R) := by
  have h1 := Nat.div_add_mod R D
  have h2 := Nat.mod_lt R hD
  rw [Nat.mul_comm] at h1
  have hcase : g = R / D ∨ g = R / D + 1 := by omega
  generalize R / D = q at *
  generalize R % D = r at *
  rcases hcase with rfl | rfl
  · have hb0 : b = 0 := by
      rcases Nat.eq_zero_or_pos b with h | h
      · exact h
      · have : b = 1 := by omega
        subst this
        omega
    subst hb0
    refine ⟨fun _ => ⟨rfl, by omega, by omega⟩, fun h => by omega⟩
  · rw [Nat.succ_mul] at e
    refine ⟨fun h => by subst h; omega, fun h => ?_⟩
    subst h
    refine ⟨rfl, fun W e' hW he => ?_⟩
    rw [Nat.add_sub_cancel]
    have : e' = 1 := by
      rcases Nat.lt_or_ge e' 1 with h | h
      · have : e' = 0 := by omega
        subst this; omega
      · rcases Nat.lt_or_ge e' 2 with h' | h'
        · omega
        · exfalso
          have : 2 * p ≤ e' * p := Nat.mul_le_mul_right _ h'
          omega
    subst this
    omega
end Nt
