/-
  Decimal digits, in plain words: a numeral by groups of nine digits, and read again.
-/
import Derived.Lib.ItoaMem
set_option linter.unusedVariables false
namespace Ten
open Go Go.Lib
def dch (d : Nat) : UInt8 := UInt8.ofNat (48 + d)
theorem dch_nat {d : Nat} (h : d < 10) : (dch d).toNat = 48 + d := by
  unfold dch; rw [UInt8.toNat_ofNat']; omega
theorem dec_small {n : Nat} (h : n < 10) : decDigits n = [dch n] := decDigits_one h
theorem dec_big {n : Nat} (h : ¬ n < 10) : decDigits n = decDigits (n / 10) ++ [dch (n % 10)] := by
  rw [decDigits, dif_neg h]; rfl
theorem dec_step {q d : Nat} (hq : 0 < q) (hd : d < 10) : decDigits (10 * q + d) = decDigits q ++ [dch d] := by
  rw [dec_big (by omega), show (10 * q + d) / 10 = q by omega, show (10 * q + d) % 10 = d by omega]
theorem dec_ne (n : Nat) : decDigits n ≠ [] := by
  by_cases h : n < 10
  · rw [dec_small h]; simp
  · rw [dec_big h]; simp
/-- k digits, with noughts ahead. -/
def padD : Nat → Nat → List UInt8
  | 0, _ => []
  | k + 1, r => padD k (r / 10) ++ [dch (r % 10)]
theorem dec_pad {q : Nat} (hq : 0 < q) : ∀ (k r : Nat), r < 10 ^ k → decDigits (q * 10 ^ k + r) = decDigits q ++ padD k r
  | 0, r, h => by
    rw [show q * 10 ^ 0 + r = q by simp at h ⊢; omega]; simp [padD]
  | k + 1, r, h => by
    have hr : r / 10 < 10 ^ k := by rw [Nat.pow_succ] at h; omega
    have hp : 0 < 10 ^ k := Nat.pow_pos (by omega)
    have e : q * 10 ^ (k + 1) + r = 10 * (q * 10 ^ k + r / 10) + r % 10 := by
      rw [Nat.pow_succ, ← Nat.mul_assoc]; omega
    rw [e, dec_step (by have := Nat.mul_pos hq hp; omega) (by omega), dec_pad hq k _ hr, padD, List.append_assoc]
theorem padD_zero : ∀ k, padD k 0 = List.replicate k 48
  | 0 => rfl
  | k + 1 => by
    rw [padD, show 0 / 10 = 0 from rfl, padD_zero k, show [dch (0 % 10)] = List.replicate 1 48 from rfl, List.replicate_append_replicate]
theorem dec_len : ∀ {k r : Nat}, r < 10 ^ (k + 1) → 1 ≤ (decDigits r).length ∧ (decDigits r).length ≤ k + 1
  | 0, r, h => by rw [dec_small (by simpa using h)]; simp
  | k + 1, r, h => by
    by_cases h10 : r < 10
    · rw [dec_small h10]; simp
    · rw [dec_big h10]
      have := dec_len (k := k) (r := r / 10) (by rw [Nat.pow_succ] at h; omega)
      simp; omega
theorem padD_dec : ∀ {k r : Nat}, r < 10 ^ (k + 1) → padD (k + 1) r = List.replicate (k + 1 - (decDigits r).length) 48 ++ decDigits r
  | 0, r, h => by
    have h' : r < 10 := by simpa using h
    rw [dec_small h', padD, padD, Nat.mod_eq_of_lt h']; rfl
  | k + 1, r, h => by
    by_cases h10 : r < 10
    · rw [dec_small h10, padD, Nat.mod_eq_of_lt h10, show r / 10 = 0 by omega, padD_zero]; rfl
    · have hr : r / 10 < 10 ^ (k + 1) := by rw [Nat.pow_succ] at h; omega
      have hl := dec_len hr
      rw [padD, padD_dec hr, dec_big h10, List.append_assoc, List.length_append]
      rw [show k + 1 + 1 - ((decDigits (r / 10)).length + [dch (r % 10)].length) = k + 1 - (decDigits (r / 10)).length by simp]
theorem dec_nine {q r : Nat} (hq : 0 < q) (hr : r < 1000000000) : decDigits (q * 1000000000 + r) = decDigits q ++ (List.replicate (9 - (decDigits r).length) 48 ++ decDigits r) := by
  have := dec_pad hq 9 r (by simpa using hr)
  rw [padD_dec (k := 8) (by simpa using hr)] at this
  exact this

/-- A text's number, and whether it is a numeral. -/
def numOf (s : List UInt8) : Nat := s.foldl (fun n b => 10 * n + (b.toNat - 48)) 0
def isDig (b : UInt8) : Prop := 48 ≤ b.toNat ∧ b.toNat ≤ 57
def Valid (s : List UInt8) : Prop := s ≠ [] ∧ (1 < s.length → s.head? ≠ some 48) ∧ ∀ b ∈ s, isDig b
theorem numOf_snoc (s : List UInt8) (b : UInt8) : numOf (s ++ [b]) = 10 * numOf s + (b.toNat - 48) := by
  unfold numOf; rw [List.foldl_append]; rfl
theorem isDig_dch {d : Nat} (h : d < 10) : isDig (dch d) := by unfold isDig; rw [dch_nat h]; omega
theorem dch_of {b : UInt8} (h : isDig b) : dch (b.toNat - 48) = b := by
  obtain ⟨h1, h2⟩ := h
  apply UInt8.toNat_inj.1
  rw [dch_nat (by omega)]; omega
theorem head_app {a : List UInt8} (b : List UInt8) (h : a ≠ []) : (a ++ b).head? = a.head? := by
  cases a with
  | nil => exact absurd rfl h
  | cons x r => rfl
theorem dec_head : ∀ (n : Nat), 0 < n → (decDigits n).head? ≠ some 48 := by
  intro n
  induction n using Nat.strongRecOn with
  | ind n ih =>
    intro hn
    by_cases h : n < 10
    · rw [dec_small h]
      intro e
      injection e with e
      have := congrArg UInt8.toNat e
      rw [dch_nat h] at this
      simp at this; omega
    · rw [dec_big h, head_app _ (dec_ne _)]
      exact ih (n / 10) (by omega) (by omega)
theorem dec_valid (n : Nat) : Valid (decDigits n) ∧ numOf (decDigits n) = n := by
  induction n using Nat.strongRecOn with
  | ind n ih =>
    by_cases h : n < 10
    · rw [dec_small h]
      refine ⟨⟨by simp, by simp, fun b hb => ?_⟩, ?_⟩
      · rw [List.mem_singleton] at hb; subst hb; exact isDig_dch h
      · unfold numOf; simp [dch_nat h]
    · obtain ⟨⟨_, _, hd⟩, hv⟩ := ih (n / 10) (by omega)
      refine ⟨⟨dec_ne _, fun _ => dec_head n (by omega), fun b hb => ?_⟩, ?_⟩
      · rw [dec_big h] at hb
        rcases List.mem_append.1 hb with hb | hb
        · exact hd b hb
        · rw [List.mem_singleton] at hb; subst hb; exact isDig_dch (by omega)
      · rw [dec_big h, numOf_snoc, hv, dch_nat (by omega)]; omega
theorem valid_dec : ∀ (n : Nat) (s : List UInt8), s.length = n → Valid s → decDigits (numOf s) = s
  | 0, s, hl, h => absurd (List.eq_nil_of_length_eq_zero hl) h.1
  | 1, [b], _, h => by
    have hb := h.2.2 b List.mem_cons_self
    have e : numOf [b] = b.toNat - 48 := by unfold numOf; simp
    rw [e, dec_small (by have := hb.2; omega), dch_of hb]
  | n + 2, s, hl, h => by
    obtain ⟨t, b, rfl⟩ : ∃ t b, s = t ++ [b] := ⟨s.dropLast, s.getLast h.1, (List.dropLast_concat_getLast h.1).symm⟩
    have htl : t.length = n + 1 := by simpa using hl
    have htn : t ≠ [] := by intro e; rw [e] at htl; simp at htl
    have hb := h.2.2 b (by simp)
    have hh : t.head? ≠ some 48 := by
      have := h.2.1 (by rw [hl]; omega)
      rwa [head_app _ htn] at this
    have ht : Valid t := ⟨htn, fun _ => hh, fun c hc => h.2.2 c (List.mem_append_left _ hc)⟩
    have ih := valid_dec (n + 1) t htl ht
    have hpos : 0 < numOf t := by
      rcases Nat.eq_zero_or_pos (numOf t) with e | e
      · rw [e, dec_small (by omega)] at ih
        rw [← ih] at hh
        exact absurd rfl hh
      · exact e
    rw [numOf_snoc, dec_step hpos (by have := hb.2; omega), ih, dch_of hb]
theorem parse_text {s : List UInt8} (h : Valid s) : decDigits (numOf s) = s := valid_dec _ s rfl h
/-- ref.Text's rounds. -/
def OutAt (v y : Nat) (s : List UInt8) : Prop := (0 < y → decDigits v = decDigits y ++ s) ∧ (y = 0 → decDigits v = s)
theorem OutAt.start {v : Nat} (h : 0 < v) : OutAt v v [] := ⟨fun _ => by simp, fun e => by omega⟩
theorem OutAt.step {v y : Nat} {s : List UInt8} (h : OutAt v y s) (hy : 0 < y) : OutAt v (y / 10) (dch (y % 10) :: s) := by
  have e := h.1 hy
  refine ⟨fun h1 => ?_, fun h0 => ?_⟩
  · rw [e, dec_big (n := y) (by omega), List.append_assoc]; rfl
  · rw [e, dec_small (by omega), Nat.mod_eq_of_lt (by omega)]; rfl
/-- nat.Text's groups of nine digits. -/
def grp (v i : Nat) : Nat := v / 1000000000 ^ i % 1000000000
theorem grp_lt (v i : Nat) : grp v i < 1000000000 := Nat.mod_lt _ (by omega)
theorem grp_next (v i : Nat) : v / 1000000000 ^ (i + 1) * 1000000000 + grp v i = v / 1000000000 ^ i := by
  unfold grp; rw [Nat.pow_succ, ← Nat.div_div_eq_div_mul]; omega
theorem div_next (v i : Nat) : v / 1000000000 ^ i / 1000000000 = v / 1000000000 ^ (i + 1) := by rw [Nat.pow_succ, Nat.div_div_eq_div_mul]
theorem grp_top {v i : Nat} (h : v / 1000000000 ^ (i + 1) = 0) : decDigits (grp v i) = decDigits (v / 1000000000 ^ i) := by
  have := grp_next v i
  rw [h] at this
  rw [← this]; simp
theorem grp_low {v i : Nat} (h : 0 < v / 1000000000 ^ (i + 1)) : decDigits (v / 1000000000 ^ i) = decDigits (v / 1000000000 ^ (i + 1)) ++ (List.replicate (9 - (decDigits (grp v i)).length) 48 ++ decDigits (grp v i)) := by
  rw [← dec_nine h (grp_lt v i), grp_next]
end Ten
