/-
  Limbs times one limb, and one limb more.
-/
import Derived.Test.YtgicgmaiolfpkaaDoorNatMath
set_option linter.unusedVariables false
namespace Nt
def LenAt (l : List Nat) (b m : Nat) (cur : List Nat) (k c : Nat) : Prop :=
  cur.length = l.length ∧ Ok cur ∧ c < 4294967296 ∧ cur.drop k = l.drop k ∧ val (cur.take k) + c * 4294967296 ^ k = val (l.take k) * b + m
theorem len_start {l : List Nat} {b m : Nat} (h : Ok l) (hm : m < 4294967296) : LenAt l b m l 0 m := ⟨rfl, h, hm, rfl, by simp [val]⟩
theorem len_get {l cur : List Nat} {b m k c : Nat} (h : LenAt l b m cur k c) (hk : k < l.length) : cur[k]? = some l[k] := by
  have : (cur.drop k)[0]? = (l.drop k)[0]? := by rw [h.2.2.2.1]
  rw [List.getElem?_drop, List.getElem?_drop, Nat.add_zero, List.getElem?_eq_getElem hk] at this
  exact this
theorem len_bounds {x b c : Nat} (hx : x < 4294967296) (hb : b < 4294967296) (hc : c < 4294967296) : x * b + c < 18446744073709551616 ∧ (x * b + c) / 4294967296 < 4294967296 ∧ (x * b + c) % 4294967296 < 4294967296 ∧ x * b ≤ 18446744065119617025 := by
  have := mul_bound hx hb
  omega
theorem len_step {l cur : List Nat} {b m k c : Nat} (h : LenAt l b m cur k c) (hk : k < l.length) (hl : Ok l) (hb : b < 4294967296) : LenAt l b m (cur.set k ((l[k] * b + c) % 4294967296)) (k + 1) ((l[k] * b + c) / 4294967296) := by
  obtain ⟨h1, h2, h3, h4, h5⟩ := h
  have hbd := len_bounds (ok_get hl hk) hb h3
  refine ⟨by simpa using h1, ok_set h2 hbd.2.2.1, hbd.2.1, ?_, ?_⟩
  · rw [drop_set]
    have := congrArg (List.drop 1) h4
    rw [List.drop_drop, List.drop_drop] at this
    exact this
  · rw [set_take (by omega), val_take_succ hk, Nat.pow_succ]
    have e := Nat.div_add_mod (l[k] * b + c) 4294967296
    generalize (l[k] * b + c) / 4294967296 = q at *
    generalize (l[k] * b + c) % 4294967296 = r at *
    generalize 4294967296 ^ k = p at h5 ⊢
    generalize l[k] = x at *
    grind
theorem len_end {x b m c : Nat} {cur : List Nat} (h : LenAt (digs x) b m cur (digs x).length c) : val cur + c * 4294967296 ^ (digs x).length = x * b + m := by
  obtain ⟨h1, h2, h3, h4, h5⟩ := h
  rw [List.take_of_length_le (by omega), List.take_of_length_le (by omega), val_digs] at h5
  exact h5
theorem len_done0 {x b m : Nat} {cur : List Nat} (h : LenAt (digs x) b m cur (digs x).length 0) (hb : 1 ≤ b) : digs (x * b + m) = cur := by
  have e := len_end h
  rw [Nat.zero_mul, Nat.add_zero] at e
  rw [← e]
  refine eq_digs h.2.1 fun hne => ?_
  rw [h.1, e]
  have hx : x ≠ 0 := by
    rintro rfl
    have := h.1
    rw [digs_zero] at this
    exact hne (List.eq_nil_of_length_eq_zero this)
  have h1 := digs_ge hx
  have h2 : x * 1 ≤ x * b := Nat.mul_le_mul_left _ hb
  omega
theorem len_done1 {x b m c : Nat} {cur : List Nat} (h : LenAt (digs x) b m cur (digs x).length c) (hc : c ≠ 0) : digs (x * b + m) = cur ++ [c] := by
  have e := len_end h
  have hv : val (cur ++ [c]) = x * b + m := by
    rw [val_append, h.1, ← e]; simp [val, Nat.mul_comm]
  rw [← hv]
  refine eq_digs (fun d hd => ?_) fun _ => ?_
  · rcases List.mem_append.1 hd with h3 | h3
    · exact h.2.1 d h3
    · simp at h3; subst h3; exact h.2.2.1
  · rw [hv, List.length_append, List.length_singleton, Nat.add_sub_cancel, h.1, ← e]
    have : 1 * 4294967296 ^ (digs x).length ≤ c * 4294967296 ^ (digs x).length := Nat.mul_le_mul_right _ (by omega)
    omega
end Nt
