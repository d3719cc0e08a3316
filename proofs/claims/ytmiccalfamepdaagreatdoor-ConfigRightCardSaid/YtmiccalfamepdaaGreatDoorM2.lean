/-
  Texts of this proof, joined (by wip/bin/bundle.py): TenMath, DigMath, GlyMath, TokMath, TreeMath, TreeMath2, InClass, RegInv, RegPred, RegLast, Nat1, Nat2.
-/
import Derived.Test.YtmiccalfamepdaaGreatDoorM1
import Derived.Lib.ItoaMem
import GoSem.Core.Utf8
import Derived.Deep.QuietTactic
import Derived.BigQuiet
import Derived.Laws.Rows
import Derived.Laws.Tables
/-
  Decimal digits, in plain words: a numeral by groups of nine digits, and read again.
-/
set_option linter.unusedVariables false
namespace Ten
open Go Go.Lib
def dch (d : Nat) : UInt8 := UInt8.ofNat (48 + d)
theorem dch_nat {d : Nat} (h : d < 10) : (dch d).toNat = 48 + d := by
  unfold dch; rw [UInt8.toNat_ofNat']; omega
theorem dec_small {n : Nat} (h : n < 10) : decDigits n = [dch n] := decDigits_one h
theorem dec_big {n : Nat} (h : ¬ n < 10) : decDigits n = decDigits (n / 10) ++ [dch (n % 10)] := by
  rw [decDigits, dif_neg h]; rfl
theorem dec_step {q d : Nat} (hq : 0 < q) (hd : d < 10) : decDigits (10 * q + d) = decDigits q ++ [dch d] := by
  rw [dec_big (by omega), show (10 * q + d) / 10 = q by omega, show (10 * q + d) % 10 = d by omega]
theorem dec_ne (n : Nat) : decDigits n ≠ [] := by
  by_cases h : n < 10
  · rw [dec_small h]; simp
  · rw [dec_big h]; simp
/-- k digits, with noughts ahead. -/
def padD : Nat → Nat → List UInt8
  | 0, _ => []
  | k + 1, r => padD k (r / 10) ++ [dch (r % 10)]
theorem dec_pad {q : Nat} (hq : 0 < q) : ∀ (k r : Nat), r < 10 ^ k → decDigits (q * 10 ^ k + r) = decDigits q ++ padD k r
  | 0, r, h => by
    rw [show q * 10 ^ 0 + r = q by simp at h ⊢; omega]; simp [padD]
  | k + 1, r, h => by
    have hr : r / 10 < 10 ^ k := by rw [Nat.pow_succ] at h; omega
    have hp : 0 < 10 ^ k := Nat.pow_pos (by omega)
    have e : q * 10 ^ (k + 1) + r = 10 * (q * 10 ^ k + r / 10) + r % 10 := by
      rw [Nat.pow_succ, ← Nat.mul_assoc]; omega
    rw [e, dec_step (by have := Nat.mul_pos hq hp; omega) (by omega), dec_pad hq k _ hr, padD, List.append_assoc]
theorem padD_zero : ∀ k, padD k 0 = List.replicate k 48
  | 0 => rfl
  | k + 1 => by
    rw [padD, show 0 / 10 = 0 from rfl, padD_zero k, show [dch (0 % 10)] = List.replicate 1 48 from rfl, List.replicate_append_replicate]
theorem dec_len : ∀ {k r : Nat}, r < 10 ^ (k + 1) → 1 ≤ (decDigits r).length ∧ (decDigits r).length ≤ k + 1
  | 0, r, h => by rw [dec_small (by simpa using h)]; simp
  | k + 1, r, h => by
    by_cases h10 : r < 10
    · rw [dec_small h10]; simp
    · rw [dec_big h10]
      have := dec_len (k := k) (r := r / 10) (by rw [Nat.pow_succ] at h; omega)
      simp; omega
theorem padD_dec : ∀ {k r : Nat}, r < 10 ^ (k + 1) → padD (k + 1) r = List.replicate (k + 1 - (decDigits r).length) 48 ++ decDigits r
  | 0, r, h => by
    have h' : r < 10 := by simpa using h
    rw [dec_small h', padD, padD, Nat.mod_eq_of_lt h']; rfl
  | k + 1, r, h => by
    by_cases h10 : r < 10
    · rw [dec_small h10, padD, Nat.mod_eq_of_lt h10, show r / 10 = 0 by omega, padD_zero]; rfl
    · have hr : r / 10 < 10 ^ (k + 1) := by rw [Nat.pow_succ] at h; omega
      have hl := dec_len hr
      rw [padD, padD_dec hr, dec_big h10, List.append_assoc, List.length_append]
      rw [show k + 1 + 1 - ((decDigits (r / 10)).length + [dch (r % 10)].length) = k + 1 - (decDigits (r / 10)).length by simp]
theorem dec_nine {q r : Nat} (hq : 0 < q) (hr : r < 1000000000) : decDigits (q * 1000000000 + r) = decDigits q ++ (List.replicate (9 - (decDigits r).length) 48 ++ decDigits r) := by
  have := dec_pad hq 9 r (by simpa using hr)
  rw [padD_dec (k := 8) (by simpa using hr)] at this
  exact this

/-- A text's number, and whether it is a numeral. -/
def numOf (s : List UInt8) : Nat := s.foldl (fun n b => 10 * n + (b.toNat - 48)) 0
def isDig (b : UInt8) : Prop := 48 ≤ b.toNat ∧ b.toNat ≤ 57
def Valid (s : List UInt8) : Prop := s ≠ [] ∧ (1 < s.length → s.head? ≠ some 48) ∧ ∀ b ∈ s, isDig b
theorem numOf_snoc (s : List UInt8) (b : UInt8) : numOf (s ++ [b]) = 10 * numOf s + (b.toNat - 48) := by
  unfold numOf; rw [List.foldl_append]; rfl
theorem isDig_dch {d : Nat} (h : d < 10) : isDig (dch d) := by unfold isDig; rw [dch_nat h]; omega
theorem dch_of {b : UInt8} (h : isDig b) : dch (b.toNat - 48) = b := by
  obtain ⟨h1, h2⟩ := h
  apply UInt8.toNat_inj.1
  rw [dch_nat (by omega)]; omega
theorem head_app {a : List UInt8} (b : List UInt8) (h : a ≠ []) : (a ++ b).head? = a.head? := by
  cases a with
  | nil => exact absurd rfl h
  | cons x r => rfl
theorem dec_head : ∀ (n : Nat), 0 < n → (decDigits n).head? ≠ some 48 := by
  intro n
  induction n using Nat.strongRecOn with
  | ind n ih =>
    intro hn
    by_cases h : n < 10
    · rw [dec_small h]
      intro e
      injection e with e
      have := congrArg UInt8.toNat e
      rw [dch_nat h] at this
      simp at this; omega
    · rw [dec_big h, head_app _ (dec_ne _)]
      exact ih (n / 10) (by omega) (by omega)
theorem dec_valid (n : Nat) : Valid (decDigits n) ∧ numOf (decDigits n) = n := by
  induction n using Nat.strongRecOn with
  | ind n ih =>
    by_cases h : n < 10
    · rw [dec_small h]
      refine ⟨⟨by simp, by simp, fun b hb => ?_⟩, ?_⟩
      · rw [List.mem_singleton] at hb; subst hb; exact isDig_dch h
      · unfold numOf; simp [dch_nat h]
    · obtain ⟨⟨_, _, hd⟩, hv⟩ := ih (n / 10) (by omega)
      refine ⟨⟨dec_ne _, fun _ => dec_head n (by omega), fun b hb => ?_⟩, ?_⟩
      · rw [dec_big h] at hb
        rcases List.mem_append.1 hb with hb | hb
        · exact hd b hb
        · rw [List.mem_singleton] at hb; subst hb; exact isDig_dch (by omega)
      · rw [dec_big h, numOf_snoc, hv, dch_nat (by omega)]; omega
theorem valid_dec : ∀ (n : Nat) (s : List UInt8), s.length = n → Valid s → decDigits (numOf s) = s
  | 0, s, hl, h => absurd (List.eq_nil_of_length_eq_zero hl) h.1
  | 1, [b], _, h => by
    have hb := h.2.2 b List.mem_cons_self
    have e : numOf [b] = b.toNat - 48 := by unfold numOf; simp
    rw [e, dec_small (by have := hb.2; omega), dch_of hb]
  | n + 2, s, hl, h => by
    obtain ⟨t, b, rfl⟩ : ∃ t b, s = t ++ [b] := ⟨s.dropLast, s.getLast h.1, (List.dropLast_concat_getLast h.1).symm⟩
    have htl : t.length = n + 1 := by simpa using hl
    have htn : t ≠ [] := by intro e; rw [e] at htl; simp at htl
    have hb := h.2.2 b (by simp)
    have hh : t.head? ≠ some 48 := by
      have := h.2.1 (by rw [hl]; omega)
      rwa [head_app _ htn] at this
    have ht : Valid t := ⟨htn, fun _ => hh, fun c hc => h.2.2 c (List.mem_append_left _ hc)⟩
    have ih := valid_dec (n + 1) t htl ht
    have hpos : 0 < numOf t := by
      rcases Nat.eq_zero_or_pos (numOf t) with e | e
      · rw [e, dec_small (by omega)] at ih
        rw [← ih] at hh
        exact absurd rfl hh
      · exact e
    rw [numOf_snoc, dec_step hpos (by have := hb.2; omega), ih, dch_of hb]
theorem parse_text {s : List UInt8} (h : Valid s) : decDigits (numOf s) = s := valid_dec _ s rfl h
/-- ref.Text's rounds. -/
def OutAt (v y : Nat) (s : List UInt8) : Prop := (0 < y → decDigits v = decDigits y ++ s) ∧ (y = 0 → decDigits v = s)
theorem OutAt.start {v : Nat} (h : 0 < v) : OutAt v v [] := ⟨fun _ => by simp, fun e => by omega⟩
theorem OutAt.step {v y : Nat} {s : List UInt8} (h : OutAt v y s) (hy : 0 < y) : OutAt v (y / 10) (dch (y % 10) :: s) := by
  have e := h.1 hy
  refine ⟨fun h1 => ?_, fun h0 => ?_⟩
  · rw [e, dec_big (n := y) (by omega), List.append_assoc]; rfl
  · rw [e, dec_small (by omega), Nat.mod_eq_of_lt (by omega)]; rfl
/-- nat.Text's groups of nine digits. -/
def grp (v i : Nat) : Nat := v / 1000000000 ^ i % 1000000000
theorem grp_lt (v i : Nat) : grp v i < 1000000000 := Nat.mod_lt _ (by omega)
theorem grp_next (v i : Nat) : v / 1000000000 ^ (i + 1) * 1000000000 + grp v i = v / 1000000000 ^ i := by
  unfold grp; rw [Nat.pow_succ, ← Nat.div_div_eq_div_mul]; omega
theorem div_next (v i : Nat) : v / 1000000000 ^ i / 1000000000 = v / 1000000000 ^ (i + 1) := by rw [Nat.pow_succ, Nat.div_div_eq_div_mul]
theorem grp_top {v i : Nat} (h : v / 1000000000 ^ (i + 1) = 0) : decDigits (grp v i) = decDigits (v / 1000000000 ^ i) := by
  have := grp_next v i
  rw [h] at this
  rw [← this]; simp
theorem grp_low {v i : Nat} (h : 0 < v / 1000000000 ^ (i + 1)) : decDigits (v / 1000000000 ^ i) = decDigits (v / 1000000000 ^ (i + 1)) ++ (List.replicate (9 - (decDigits (grp v i)).length) 48 ++ decDigits (grp v i)) := by
  rw [← dec_nine h (grp_lt v i), grp_next]
end Ten

/-
  Numbers as text, plain: what a number's text is, and what number a text tells.
-/
namespace Dg
open Ten Go
def dB (b : UInt8) : Bool := decide (48 ≤ b.toNat ∧ b.toNat ≤ 57)
theorem dB_iff {b : UInt8} : dB b = true ↔ isDig b := by simp [dB, isDig]
/-- How many digits a text begins with. -/
def lead (s : List UInt8) : Nat := (s.takeWhile dB).length
theorem lead_le (s : List UInt8) : lead s ≤ s.length := by
  unfold lead
  induction s with
  | nil => simp
  | cons b r ih =>
    rw [List.takeWhile_cons]
    cases dB b
    · simp
    · simp at ih ⊢; omega
theorem lead_at {s : List UInt8} {k : Nat} (hk : k < s.length) (h : ∀ i (hi : i < s.length), i < k → dB s[i] = true) (hn : dB s[k] = false) : lead s = k := by
  unfold lead
  induction s generalizing k with
  | nil => simp at hk
  | cons b r ih =>
    rw [List.takeWhile_cons]
    cases k with
    | zero => simp at hn; rw [hn]; rfl
    | succ k =>
      have h0 := h 0 (by simp) (by omega)
      simp at h0
      rw [h0]
      simp only [if_true, List.length_cons]
      rw [ih (by simpa using hk) (fun i hi hik => by have := h (i + 1) (by simpa using hi) (by omega); simpa using this) (by simpa using hn)]
theorem lead_all {s : List UInt8} (h : ∀ i (hi : i < s.length), dB s[i] = true) : lead s = s.length := by
  unfold lead
  induction s with
  | nil => rfl
  | cons b r ih =>
    rw [List.takeWhile_cons]
    have h0 := h 0 (by simp)
    simp at h0
    rw [h0]
    simp only [if_true, List.length_cons]
    rw [ih (fun i hi => by have := h (i + 1) (by simpa using hi); simpa using this)]
theorem lead_dig {s : List UInt8} {k : Nat} (hk : k < lead s) : ∃ h : k < s.length, dB s[k] = true := by
  have hl := lead_le s
  refine ⟨by omega, ?_⟩
  unfold lead at hk
  induction s generalizing k with
  | nil => simp at hk
  | cons b r ih =>
    rw [List.takeWhile_cons] at hk
    cases hb : dB b
    · rw [hb] at hk; simp at hk
    · rw [hb] at hk
      cases k with
      | zero => simpa using hb
      | succ k => simpa using ih (by simpa using hk) (lead_le r)
theorem lead_not {s : List UInt8} (h : lead s < s.length) : dB s[lead s] = false := by
  unfold lead at h ⊢
  induction s with
  | nil => simp at h
  | cons b r ih =>
    cases hb : dB b
    · simp [hb]
    · have h' : (r.takeWhile dB).length < r.length := by simpa [List.takeWhile_cons, hb] using h
      have := ih h'
      simp only [List.takeWhile_cons, hb, if_true, List.length_cons, List.getElem_cons_succ]
      exact this

/-- The number of a text without a sign, or the error. -/
def body (neg : Bool) (t : List UInt8) : Rt.Nm × Int :=
  if 400 < t.length then (Rt.none_, 7)
  else if lead t = 0 then (Rt.none_, 1)
  else if lead t = t.length then Rt.mk neg false (numOf t) 1
  else if t.length = lead t + 1 ∨ lead (t.drop (lead t + 1)) < t.length - (lead t + 1) then (Rt.none_, 1)
  else if t.getD (lead t) 0 = 114 then Rt.mk neg false (numOf (t.take (lead t))) (numOf (t.drop (lead t + 1)))
  else if t.getD (lead t) 0 = 46 then Rt.mk neg false (numOf (t.take (lead t) ++ t.drop (lead t + 1))) (10 ^ (t.length - (lead t + 1)))
  else (Rt.none_, 1)
/-- The number of a text, or the error. -/
def parse : List UInt8 → Rt.Nm × Int
  | 194 :: 175 :: t => body true t
  | t => body false t
/-- A right number's text. -/
def print (n : Rt.Nm) : List UInt8 := (if n.neg then [194, 175] else []) ++ (Lib.decDigits (Nt.val n.top) ++ if n.bot = [1] then [] else 114 :: Lib.decDigits (Nt.val n.bot))

theorem dec_dB (n i : Nat) (hi : i < (Lib.decDigits n).length) : dB (Lib.decDigits n)[i] = true := dB_iff.2 ((dec_valid n).1.2.2 _ (List.getElem_mem hi))
theorem dec_pos (n : Nat) : 0 < (Lib.decDigits n).length := List.length_pos_iff.2 (dec_ne n)
theorem mk_right {n : Rt.Nm} (h : Rt.right n = true) : Rt.mk n.neg false (Nt.val n.top) (Nt.val n.bot) = (n, 0) := by
  unfold Rt.right at h
  simp only [Bool.and_eq_true, decide_eq_true_eq, beq_iff_eq] at h
  obtain ⟨⟨_, h1⟩, h2⟩ := h
  exact Prod.ext h2 h1
theorem body_print {n : Rt.Nm} (h : Rt.right n = true) (hl : (Lib.decDigits (Nt.val n.top) ++ if n.bot = [1] then [] else 114 :: Lib.decDigits (Nt.val n.bot)).length ≤ 400) :
    body n.neg (Lib.decDigits (Nt.val n.top) ++ if n.bot = [1] then [] else 114 :: Lib.decDigits (Nt.val n.bot)) = (n, 0) := by
  have hm := mk_right h
  have hp := dec_pos (Nt.val n.top)
  by_cases hb : n.bot = [1]
  · rw [if_pos hb] at hl ⊢
    rw [List.append_nil] at hl ⊢
    unfold body
    rw [if_neg (by omega), lead_all (dec_dB _), if_neg (by omega), if_pos rfl, (dec_valid _).2]
    rw [hb] at hm
    exact hm
  · rw [if_neg hb] at hl ⊢
    have hld : lead (Lib.decDigits (Nt.val n.top) ++ 114 :: Lib.decDigits (Nt.val n.bot)) = (Lib.decDigits (Nt.val n.top)).length := by
      refine lead_at (by simp) (fun i hi hik => ?_) ?_
      · rw [List.getElem_append_left hik]; exact dec_dB _ _ _
      · rw [List.getElem_append_right (Nat.le_refl _)]; simp; decide
    have hq := dec_pos (Nt.val n.bot)
    unfold body
    rw [hld]
    rw [if_neg (by omega), if_neg (by omega), if_neg (by simp)]
    have e1 : (Lib.decDigits (Nt.val n.top) ++ 114 :: Lib.decDigits (Nt.val n.bot)).drop ((Lib.decDigits (Nt.val n.top)).length + 1) = Lib.decDigits (Nt.val n.bot) := by
      rw [List.drop_append]; simp
    have e2 : (Lib.decDigits (Nt.val n.top) ++ 114 :: Lib.decDigits (Nt.val n.bot)).getD (Lib.decDigits (Nt.val n.top)).length 0 = 114 := by
      rw [List.getD_eq_getElem?_getD, List.getElem?_append_right (Nat.le_refl _)]; simp
    have e3 : (Lib.decDigits (Nt.val n.top) ++ 114 :: Lib.decDigits (Nt.val n.bot)).take (Lib.decDigits (Nt.val n.top)).length = Lib.decDigits (Nt.val n.top) := by simp
    rw [e1, e2, e3, lead_all (dec_dB _), if_neg (by simp only [List.length_append, List.length_cons, not_or]; omega), if_pos rfl, (dec_valid _).2, (dec_valid _).2]
    exact hm
theorem parse_body {t : List UInt8} (h : t.head? ≠ some 194) : parse t = body false t := by
  unfold parse
  split
  · simp at h
  · rfl
theorem parse_print {n : Rt.Nm} (h : Rt.right n = true) (hl : (print n).length ≤ 400) : parse (print n) = (n, 0) := by
  unfold print at hl ⊢
  cases hn : n.neg
  · rw [hn] at hl
    simp only [Bool.false_eq_true, if_false, List.nil_append] at hl ⊢
    rw [parse_body, ← hn]
    · exact body_print h hl
    · rw [head_app _ (dec_ne _)]
      intro e
      have h1 := (dec_valid (Nt.val n.top)).1
      obtain ⟨b, r, hbr⟩ := List.exists_cons_of_ne_nil (dec_ne (Nt.val n.top))
      rw [hbr] at e h1
      simp at e
      have := h1.2.2 b (by simp)
      rw [e] at this
      simp [isDig] at this
  · rw [hn] at hl
    simp only [if_true] at hl ⊢
    have := body_print h (by simp at hl ⊢; omega)
    rw [hn] at this
    exact this
/-! ### Noughts ahead -/
theorem numOf_zero (s : List UInt8) : numOf (48 :: s) = numOf s := by simp [numOf]
theorem numOf_append (a b : List UInt8) : numOf (a ++ b) = b.foldl (fun n b => 10 * n + (b.toNat - 48)) (numOf a) := by unfold numOf; rw [List.foldl_append]
theorem numOf_zeros : ∀ k, numOf (49 :: List.replicate k 48) = 10 ^ k
  | 0 => rfl
  | k + 1 => by
    rw [List.replicate_succ', ← List.cons_append, numOf_snoc, numOf_zeros k, Nat.pow_succ, Nat.mul_comm]; rfl
theorem numOf_lt : ∀ (n : Nat) (t : List UInt8), t.length = n → (∀ b ∈ t, isDig b) → numOf t < 10 ^ n
  | 0, t, h, _ => by rw [List.eq_nil_of_length_eq_zero h]; decide
  | n + 1, t, h, hd => by
    have hne : t ≠ [] := by rintro rfl; cases h
    obtain ⟨r, b, rfl⟩ : ∃ r b, t = r ++ [b] := ⟨t.dropLast, t.getLast hne, (List.dropLast_concat_getLast hne).symm⟩
    have h1 := numOf_lt n r (by simpa using h) (fun x hx => hd x (by simp [hx]))
    have h2 : isDig b := hd b (by simp)
    rw [numOf_snoc, Nat.pow_succ]
    unfold isDig at h2
    omega
theorem ten_nine (m : Nat) : 10 ^ (9 * m) ≤ 4294967296 ^ m := by rw [Nat.pow_mul]; exact Nat.pow_le_pow_left (by decide) m
/-- Nine digits a limb. -/
theorem limbs_le {t : List UInt8} (hd : ∀ b ∈ t, isDig b) (m : Nat) (h : t.length ≤ 9 * m) : (Nt.digs (numOf t)).length ≤ m :=
  Nt.digs_len_lt (Nat.lt_of_lt_of_le (numOf_lt _ t rfl hd) (Nat.le_trans (Nat.pow_le_pow_right (by omega) h) (ten_nine m)))
theorem limbs_ten {k : Nat} (m : Nat) (h : k + 1 ≤ 9 * m) : (Nt.digs (10 ^ k)).length ≤ m := by
  rw [← numOf_zeros]
  refine limbs_le (fun b hb => ?_) m (by simpa using h)
  rcases List.mem_cons.1 hb with rfl | hb
  · simp [isDig]
  · rw [List.eq_of_mem_replicate hb]; simp [isDig]
theorem numOf_drop : ∀ {k : Nat} {s : List UInt8}, (∀ i (hi : i < s.length), i < k → s[i] = 48) → k ≤ s.length → numOf (s.drop k) = numOf s
  | 0, s, _, _ => by simp
  | k + 1, [], _, h => by simp at h
  | k + 1, b :: r, hz, h => by
    have h0 := hz 0 (by simp) (by omega)
    simp at h0
    subst h0
    rw [List.drop_succ_cons, numOf_zero]
    exact numOf_drop (fun i hi hik => by have := hz (i + 1) (by simpa using hi) (by omega); simpa using this) (by simpa using h)
/-- Digits, the noughts ahead taken off but for a last one. -/
theorem valid_drop {s : List UInt8} {k : Nat} (hd : ∀ b ∈ s, isDig b) (hk : k < s.length) (h : k + 1 < s.length → s[k] ≠ 48) : Valid (s.drop k) := by
  refine ⟨by simp; omega, fun hl => ?_, fun b hb => hd b (List.mem_of_mem_drop hb)⟩
  have h1 := h (by simp at hl; omega)
  rw [List.drop_eq_getElem_cons hk]
  intro e
  rw [List.head?_cons] at e
  exact h1 (Option.some.inj e)
def strip (s : List UInt8) : List UInt8 := s.dropWhile (· == 48)
theorem strip_cons (b : UInt8) (r : List UInt8) : strip (b :: r) = if b = 48 then strip r else b :: r := by
  unfold strip
  by_cases h : b = 48
  · subst h; simp
  · rw [if_neg h, List.dropWhile_cons, if_neg (by simpa using h)]
theorem numOf_strip : ∀ s : List UInt8, numOf (strip s) = numOf s
  | [] => rfl
  | b :: r => by
    rw [strip_cons]
    by_cases h : b = 48
    · subst h; rw [if_pos rfl, numOf_strip r, numOf_zero]
    · rw [if_neg h]
theorem strip_mem : ∀ {s : List UInt8} {b : UInt8}, b ∈ strip s → b ∈ s
  | [], _, h => h
  | x :: r, b, h => by
    rw [strip_cons] at h
    by_cases e : x = 48
    · rw [if_pos e] at h; exact List.mem_cons_of_mem _ (strip_mem h)
    · rw [if_neg e] at h; exact h
theorem strip_len : ∀ s : List UInt8, (strip s).length ≤ s.length
  | [] => Nat.le_refl _
  | x :: r => by
    rw [strip_cons]
    by_cases e : x = 48
    · rw [if_pos e]; have := strip_len r; simp; omega
    · rw [if_neg e]; exact Nat.le_refl _
theorem strip_head : ∀ s : List UInt8, (strip s).head? ≠ some 48
  | [] => by simp [strip]
  | x :: r => by
    rw [strip_cons]
    by_cases e : x = 48
    · rw [if_pos e]; exact strip_head r
    · rw [if_neg e]; simpa using e
theorem strip_valid {s : List UInt8} (hd : ∀ b ∈ s, isDig b) (h : strip s ≠ []) : Valid (strip s) :=
  ⟨h, fun _ => strip_head s, fun b hb => hd b (strip_mem hb)⟩
theorem strip_nil {s : List UInt8} (h : strip s = []) : numOf s = 0 := by rw [← numOf_strip, h]; rfl
theorem lead_take {s : List UInt8} : ∀ b ∈ s.take (lead s), isDig b := fun b hb => by
  obtain ⟨i, hi, rfl⟩ := List.mem_iff_getElem.1 hb
  rw [List.getElem_take]
  have hi' : i < lead s := by simp at hi; omega
  obtain ⟨h1, h2⟩ := lead_dig hi'
  exact dB_iff.1 h2
theorem lead_full {s : List UInt8} (h : lead s = s.length) : ∀ b ∈ s, isDig b := fun b hb => by
  have := lead_take (s := s) b
  rw [h, List.take_length] at this
  exact this hb
end Dg

/-
  Characters and bytes, plain: how one is read of bytes, by Go's range and by the document's guess.
-/
namespace Gl
open Go
/-- A byte, as a number. -/
def by_ (s : ByteArray) (i : Nat) : Nat := (s.get! i).toNat
theorem by_lt (s : ByteArray) (i : Nat) : by_ s i < 256 := by unfold by_; exact UInt8.toNat_lt _
/-- May a number be a character's? -/
def may (c : Int) : Bool := decide (0 ≤ c) && decide (c ≤ 1114111) && (decide (c < 55296) || decide (57343 < c))
theorem may_valid (c : Nat) : Utf8.valid (c : Int) = may (c : Int) := by
  unfold Utf8.valid may
  rw [Bool.eq_iff_iff]
  simp only [Bool.or_eq_true, Bool.and_eq_true, decide_eq_true_eq]
  omega
/-- How many bytes a first byte promises, and what it brings; none: it begins nothing. -/
def first (b : Nat) : Option (Nat × Nat) := if 240 ≤ b then some (b - 240, 4) else if 224 ≤ b then some (b - 224, 3) else if 192 ≤ b then some (b - 192, 2) else if 128 ≤ b then none else some (b, 1)
/-- The document's guess from the i-th byte on: so many are left to read. -/
def more (s : ByteArray) (c : Nat) : Nat → Nat → Option Nat
  | _, 0 => some c
  | i, k + 1 => if by_ s i < 128 ∨ 191 < by_ s i then none else more s (64 * c + by_ s i - 128) (i + 1) k
def guess (s : ByteArray) (at_ : Nat) : Option (Nat × Nat) :=
  match first (by_ s at_) with
  | none => none
  | some (c, n) => if s.size - at_ < n then none else (more s c (at_ + 1) (n - 1)).map fun c => (c, n)
/-- How many bytes a character has. -/
def wide (c : Nat) : Nat := if c < 128 then 1 else if c < 2048 then 2 else if c < 65536 then 3 else 4
/-- A character's bytes. -/
def one (c : Nat) : List Nat :=
  if c < 128 then [c] else if c < 2048 then [192 + c / 64, 128 + c % 64] else if c < 65536 then [224 + c / 4096, 128 + c / 64 % 64, 128 + c % 64] else [240 + c / 262144, 128 + c / 4096 % 64, 128 + c / 64 % 64, 128 + c % 64]
theorem one_len (c : Nat) : (one c).length = wide c := by unfold one wide; split <;> (try rfl); split <;> (try rfl); split <;> rfl
/-- The character that is read, by Go's range: none, where it is none's. -/
def read (s : ByteArray) (at_ : Nat) : Option (Nat × Nat) := if Utf8.decode s at_ = (Utf8.runeError, 1) then none else some (Utf8.decode s at_)
/-- The document's character. -/
def refRead (s : ByteArray) (at_ : Nat) : Option (Nat × Nat) :=
  match guess s at_ with
  | none => none
  | some (c, n) => if may (c : Int) = true ∧ one c = (List.range n).map (fun k => by_ s (at_ + k)) then some (c, n) else none

theorem more1 {s : ByteArray} {c i : Nat} : more s c i 1 = if by_ s i < 128 ∨ 191 < by_ s i then none else some (64 * c + by_ s i - 128) := rfl
set_option maxRecDepth 100000 in
theorem decode_eq (s : ByteArray) (i : Nat) : Utf8.decode s i =
    (if by_ s i < 128 then (by_ s i, 1)
    else if by_ s i / 32 = 6 ∧ i + 1 < s.size ∧ by_ s (i + 1) / 64 = 2 then
      (if 128 ≤ by_ s i % 32 * 64 + by_ s (i + 1) % 64 then (by_ s i % 32 * 64 + by_ s (i + 1) % 64, 2) else (Utf8.runeError, 1))
    else if by_ s i / 16 = 14 ∧ (i + 1 < s.size ∧ by_ s (i + 1) / 64 = 2) ∧ (i + 2 < s.size ∧ by_ s (i + 2) / 64 = 2) then
      (if 2048 ≤ by_ s i % 16 * 4096 + by_ s (i + 1) % 64 * 64 + by_ s (i + 2) % 64 ∧ may ((by_ s i % 16 * 4096 + by_ s (i + 1) % 64 * 64 + by_ s (i + 2) % 64 : Nat) : Int) = true then (by_ s i % 16 * 4096 + by_ s (i + 1) % 64 * 64 + by_ s (i + 2) % 64, 3) else (Utf8.runeError, 1))
    else if by_ s i / 8 = 30 ∧ (i + 1 < s.size ∧ by_ s (i + 1) / 64 = 2) ∧ (i + 2 < s.size ∧ by_ s (i + 2) / 64 = 2) ∧ (i + 3 < s.size ∧ by_ s (i + 3) / 64 = 2) then
      (if 65536 ≤ by_ s i % 8 * 262144 + by_ s (i + 1) % 64 * 4096 + by_ s (i + 2) % 64 * 64 + by_ s (i + 3) % 64 ∧ may ((by_ s i % 8 * 262144 + by_ s (i + 1) % 64 * 4096 + by_ s (i + 2) % 64 * 64 + by_ s (i + 3) % 64 : Nat) : Int) = true then (by_ s i % 8 * 262144 + by_ s (i + 1) % 64 * 4096 + by_ s (i + 2) % 64 * 64 + by_ s (i + 3) % 64, 4) else (Utf8.runeError, 1))
    else (Utf8.runeError, 1)) := by
  have e0 : ∀ k, (s.get! (i + k)).toNat = by_ s (i + k) := fun _ => rfl
  have e1 : (s.get! i).toNat = by_ s i := rfl
  unfold Utf8.decode
  simp only [e0, Nat.add_zero, e1]
  generalize by_ s i = b0
  generalize by_ s (i + 1) = b1
  generalize by_ s (i + 2) = b2
  generalize by_ s (i + 3) = b3
  simp only [may_valid, Bool.and_eq_true, beq_iff_eq, decide_eq_true_eq, ge_iff_le, and_assoc]

theorem first_lt {b : Nat} (h : b < 128) : first b = some (b, 1) := by unfold first; rw [if_neg (by omega), if_neg (by omega), if_neg (by omega), if_neg (by omega)]
theorem first_mid {b : Nat} (h : 128 ≤ b) (h2 : b < 192) : first b = none := by unfold first; rw [if_neg (by omega), if_neg (by omega), if_neg (by omega), if_pos h]
theorem first_2 {b : Nat} (h : 192 ≤ b) (h2 : b < 224) : first b = some (b - 192, 2) := by unfold first; rw [if_neg (by omega), if_neg (by omega), if_pos h]
theorem first_3 {b : Nat} (h : 224 ≤ b) (h2 : b < 240) : first b = some (b - 224, 3) := by unfold first; rw [if_neg (by omega), if_pos h]
theorem first_4 {b : Nat} (h : 240 ≤ b) : first b = some (b - 240, 4) := by unfold first; rw [if_pos h]
theorem may_small {c : Nat} (h : c < 55296) : may (c : Int) = true := by unfold may; simp; omega

theorem fin_none {s : ByteArray} {i : Nat} (hg : guess s i = none) (hd : Utf8.decode s i = (Utf8.runeError, 1)) : refRead s i = read s i := by
  unfold refRead read; rw [hg, hd, if_pos rfl]
theorem fin_some {s : ByteArray} {i c n : Nat} (hg : guess s i = some (c, n)) (hd : Utf8.decode s i = (c, n)) (hm : may (c : Int) = true) (ho : one c = (List.range n).map (fun k => by_ s (i + k))) (hne : n ≠ 1 ∨ c ≠ 65533) : refRead s i = read s i := by
  unfold refRead read
  rw [hg, hd]
  dsimp only
  rw [if_pos ⟨hm, ho⟩, if_neg]
  intro h
  injection h with h1 h2
  have hE : Utf8.runeError = 65533 := rfl
  omega
theorem fin_bad {s : ByteArray} {i c n : Nat} (hg : guess s i = some (c, n)) (hd : Utf8.decode s i = (Utf8.runeError, 1)) (hb : ¬(may (c : Int) = true ∧ one c = (List.range n).map (fun k => by_ s (i + k)))) : refRead s i = read s i := by
  unfold refRead read
  rw [hg, hd, if_pos rfl]
  dsimp only
  rw [if_neg hb]
theorem guess_of {s : ByteArray} {i c n : Nat} (hf : first (by_ s i) = some (c, n)) : guess s i = if s.size - i < n then none else (more s c (i + 1) (n - 1)).map fun c => (c, n) := by
  unfold guess; rw [hf]
theorem more2 {s : ByteArray} {c i : Nat} : more s c i 2 = if by_ s i < 128 ∨ 191 < by_ s i then none else if by_ s (i + 1) < 128 ∨ 191 < by_ s (i + 1) then none else some (64 * (64 * c + by_ s i - 128) + by_ s (i + 1) - 128) := rfl
theorem more3 {s : ByteArray} {c i : Nat} : more s c i 3 = if by_ s i < 128 ∨ 191 < by_ s i then none else if by_ s (i + 1) < 128 ∨ 191 < by_ s (i + 1) then none else if by_ s (i + 2) < 128 ∨ 191 < by_ s (i + 2) then none else some (64 * (64 * (64 * c + by_ s i - 128) + by_ s (i + 1) - 128) + by_ s (i + 2) - 128) := rfl
theorem wide_not {s : ByteArray} {i c n : Nat} (h : wide c ≠ n) : ¬(may (c : Int) = true ∧ one c = (List.range n).map (fun k => by_ s (i + k))) := by
  rintro ⟨-, h2⟩
  have := congrArg List.length h2
  rw [one_len] at this
  simp only [List.length_map, List.length_range] at this
  exact h this
theorem range2 {s : ByteArray} {i : Nat} : (List.range 2).map (fun k => by_ s (i + k)) = [by_ s i, by_ s (i + 1)] := rfl
theorem range3 {s : ByteArray} {i : Nat} : (List.range 3).map (fun k => by_ s (i + k)) = [by_ s i, by_ s (i + 1), by_ s (i + 2)] := rfl
theorem range4 {s : ByteArray} {i : Nat} : (List.range 4).map (fun k => by_ s (i + k)) = [by_ s i, by_ s (i + 1), by_ s (i + 2), by_ s (i + 3)] := rfl
/-- The document's character is Go's. -/
theorem refRead_eq (s : ByteArray) (i : Nat) (hi : i < s.size) : refRead s i = read s i := by
  have h0 := by_lt s i
  have h1 := by_lt s (i + 1)
  have h2 := by_lt s (i + 2)
  have h3 := by_lt s (i + 3)
  have hd := decode_eq s i
  by_cases a : by_ s i < 128
  · rw [if_pos a] at hd
    refine fin_some (by rw [guess_of (first_lt a), if_neg (by omega)]; rfl) hd (may_small (by omega)) ?_ (.inr (by omega))
    unfold one; rw [if_pos a]; rfl
  · rw [if_neg a] at hd
    by_cases b : by_ s i < 192
    · rw [if_neg (by omega), if_neg (by omega), if_neg (by omega)] at hd
      refine fin_none ?_ hd
      unfold guess; rw [first_mid (by omega) b]
    · by_cases c : by_ s i < 224
      · have hg := guess_of (first_2 (by omega) c)
        by_cases d : i + 1 < s.size ∧ by_ s (i + 1) / 64 = 2
        · rw [if_pos (And.intro (by omega) d)] at hd
          obtain ⟨d1, d2⟩ := d
          rw [if_neg (by omega), show 2 - 1 = 1 from rfl, more1, if_neg (by omega), Option.map_some] at hg
          have ec : 64 * (by_ s i - 192) + by_ s (i + 1) - 128 = by_ s i % 32 * 64 + by_ s (i + 1) % 64 := by omega
          rw [ec] at hg
          obtain ⟨x, hx⟩ : ∃ x, x = by_ s i % 32 * 64 + by_ s (i + 1) % 64 := ⟨_, rfl⟩
          rw [← hx] at hg hd
          by_cases f : 128 ≤ x
          · rw [if_pos f] at hd
            refine fin_some hg hd (may_small (by omega)) ?_ (.inl (by omega))
            rw [range2]
            unfold one
            rw [if_neg (by omega), if_pos (by omega)]
            simp only [List.cons.injEq, and_true]
            omega
          · rw [if_neg f] at hd
            refine fin_bad hg hd (wide_not ?_)
            unfold wide
            rw [if_pos (by omega)]
            omega
        · rw [if_neg (fun h => d h.2), if_neg (by omega), if_neg (by omega)] at hd
          refine fin_none ?_ hd
          rw [hg]
          by_cases e : s.size - i < 2
          · rw [if_pos e]
          · rw [if_neg e, show 2 - 1 = 1 from rfl, more1, if_pos (by omega)]; rfl
      · by_cases c3 : by_ s i < 240
        · have hg := guess_of (first_3 (by omega) c3)
          rw [if_neg (by omega)] at hd
          by_cases d : (i + 1 < s.size ∧ by_ s (i + 1) / 64 = 2) ∧ (i + 2 < s.size ∧ by_ s (i + 2) / 64 = 2)
          · rw [if_pos (And.intro (by omega) d)] at hd
            obtain ⟨⟨d1, d2⟩, d3, d4⟩ := d
            rw [if_neg (by omega), show 3 - 1 = 2 from rfl, more2, show i + 1 + 1 = i + 2 from rfl, if_neg (by omega), if_neg (by omega), Option.map_some] at hg
            have ec : 64 * (64 * (by_ s i - 224) + by_ s (i + 1) - 128) + by_ s (i + 2) - 128 = by_ s i % 16 * 4096 + by_ s (i + 1) % 64 * 64 + by_ s (i + 2) % 64 := by omega
            rw [ec] at hg
            obtain ⟨x, hx⟩ : ∃ x, x = by_ s i % 16 * 4096 + by_ s (i + 1) % 64 * 64 + by_ s (i + 2) % 64 := ⟨_, rfl⟩
            rw [← hx] at hg hd
            by_cases f : 2048 ≤ x ∧ may (x : Int) = true
            · rw [if_pos f] at hd
              refine fin_some hg hd f.2 ?_ (.inl (by omega))
              rw [range3]
              unfold one
              rw [if_neg (by omega), if_neg (by omega), if_pos (by omega)]
              simp only [List.cons.injEq, and_true]
              omega
            · rw [if_neg f] at hd
              by_cases g : 2048 ≤ x
              · exact fin_bad hg hd (fun h => f ⟨g, h.1⟩)
              · refine fin_bad hg hd (wide_not ?_)
                unfold wide
                by_cases q : x < 128
                · rw [if_pos q]; omega
                · rw [if_neg q, if_pos (by omega)]; omega
          · rw [if_neg (fun h => d h.2), if_neg (by omega)] at hd
            refine fin_none ?_ hd
            rw [hg]
            by_cases e : s.size - i < 3
            · rw [if_pos e]
            · rw [if_neg e, show 3 - 1 = 2 from rfl, more2]
              by_cases g : by_ s (i + 1) < 128 ∨ 191 < by_ s (i + 1)
              · rw [if_pos g]; rfl
              · rw [if_neg g, if_pos (by rw [show i + 1 + 1 = i + 2 from rfl]; omega)]; rfl
        · have hg := guess_of (first_4 (show 240 ≤ by_ s i by omega))
          rw [if_neg (by omega), if_neg (by omega)] at hd
          by_cases d : (i + 1 < s.size ∧ by_ s (i + 1) / 64 = 2) ∧ (i + 2 < s.size ∧ by_ s (i + 2) / 64 = 2) ∧ (i + 3 < s.size ∧ by_ s (i + 3) / 64 = 2)
          · obtain ⟨⟨d1, d2⟩, ⟨d3, d4⟩, d5, d6⟩ := d
            rw [if_neg (by omega), show 4 - 1 = 3 from rfl, more3, show i + 1 + 1 = i + 2 from rfl, show i + 1 + 2 = i + 3 from rfl, if_neg (by omega), if_neg (by omega), if_neg (by omega), Option.map_some] at hg
            have ec : 64 * (64 * (64 * (by_ s i - 240) + by_ s (i + 1) - 128) + by_ s (i + 2) - 128) + by_ s (i + 3) - 128 = (by_ s i - 240) * 262144 + by_ s (i + 1) % 64 * 4096 + by_ s (i + 2) % 64 * 64 + by_ s (i + 3) % 64 := by omega
            rw [ec] at hg
            by_cases k : by_ s i / 8 = 30
            · rw [if_pos (And.intro k ⟨⟨d1, d2⟩, ⟨d3, d4⟩, d5, d6⟩)] at hd
              have ek : by_ s i - 240 = by_ s i % 8 := by omega
              rw [ek] at hg
              obtain ⟨x, hx⟩ : ∃ x, x = by_ s i % 8 * 262144 + by_ s (i + 1) % 64 * 4096 + by_ s (i + 2) % 64 * 64 + by_ s (i + 3) % 64 := ⟨_, rfl⟩
              rw [← hx] at hg hd
              by_cases f : 65536 ≤ x ∧ may (x : Int) = true
              · rw [if_pos f] at hd
                refine fin_some hg hd f.2 ?_ (.inl (by omega))
                rw [range4]
                unfold one
                rw [if_neg (by omega), if_neg (by omega), if_neg (by omega)]
                simp only [List.cons.injEq, and_true]
                omega
              · rw [if_neg f] at hd
                by_cases g : 65536 ≤ x
                · exact fin_bad hg hd (fun h => f ⟨g, h.1⟩)
                · refine fin_bad hg hd (wide_not ?_)
                  unfold wide
                  by_cases q : x < 128
                  · rw [if_pos q]; omega
                  · by_cases q2 : x < 2048
                    · rw [if_neg q, if_pos q2]; omega
                    · rw [if_neg q, if_neg q2, if_pos (by omega)]; omega
            · rw [if_neg (fun h => k h.1)] at hd
              refine fin_bad hg hd ?_
              rintro ⟨hm, -⟩
              unfold may at hm
              simp only [Bool.and_eq_true, decide_eq_true_eq] at hm
              omega
          · rw [if_neg (fun h => d h.2)] at hd
            refine fin_none ?_ hd
            rw [hg]
            by_cases e : s.size - i < 4
            · rw [if_pos e]
            · rw [if_neg e, show 4 - 1 = 3 from rfl, more3, show i + 1 + 1 = i + 2 from rfl, show i + 1 + 2 = i + 3 from rfl]
              by_cases g : by_ s (i + 1) < 128 ∨ 191 < by_ s (i + 1)
              · rw [if_pos g]; rfl
              · rw [if_neg g]
                by_cases g2 : by_ s (i + 2) < 128 ∨ 191 < by_ s (i + 2)
                · rw [if_pos g2]; rfl
                · rw [if_neg g2, if_pos (by omega)]; rfl
end Gl

/-
  Tokens, plain: what the document cuts a line's characters into.
-/
namespace Tk
open Go
def funs : List Int := [0x2B, 0x2D, 0xD7, 0xF7, 0x2308, 0x230A, 0x7C, 0x2A, 0x21, 0x7E, 0x3C, 0x2264, 0x3D, 0x2265, 0x3E, 0x2260, 0x2227, 0x2228, 0x2374, 0x2C, 0x236A, 0x233D, 0x2296, 0x2349, 0x2191, 0x2193, 0x2282, 0x2283, 0x2261, 0x2262, 0x2373, 0x220A, 0x222A, 0x2229, 0x2378, 0x234B, 0x2352, 0x22A2, 0x22A3]
def opers : List Int := [0x2F, 0x233F, 0x5C, 0x2340, 0xA8, 0x2368, 0x2364, 0x2363, 0x2218, 0x2E]
def marks : List Int := [0x28, 0x29, 0x5B, 0x5D, 0x7B, 0x7D, 0x3B, 0x3A, 0x22C4, 0x2190, 0x237A, 0x2375, 0x2207, 0x2395, 0x235E, 0x27, 0x235D]
/-- The class of a character. -/
def cls (c : Int) : Int :=
  if c = 32 ∨ c = 9 then 1
  else if 97 ≤ c ∧ c ≤ 122 ∨ 65 ≤ c ∧ c ≤ 90 ∨ c = 95 then 2
  else if 48 ≤ c ∧ c ≤ 57 ∨ c = 175 then 3
  else if c ∈ funs then 4 else if c ∈ opers then 5 else if c ∈ marks then 6 else 0
structure Tok where
  kind : Int
  n : Rt.Nm
  l : List Int
  s : List UInt8
  c : Int
  at_ : Nat
def none_ : Tok := ⟨0, Rt.none_, [], [], 0, 0⟩
/-- A character's bytes. -/
def enc1 (c : Int) : List UInt8 := (Gl.one c.toNat).map UInt8.ofNat
def enc (l : List Int) : List UInt8 := l.flatMap enc1
def digit (c : Int) : Bool := decide (48 ≤ c) && decide (c ≤ 57)
def word (c : Int) : Bool := digit c || (cls c == 2)
/-- How many that may stand in a name, or in a number, stand from a place on. -/
def words (l : List Int) (i : Nat) : Nat := ((l.drop i).takeWhile word).length
def figures (l : List Int) (i : Nat) : Nat := ((l.drop i).takeWhile digit).length
/-- How long a number is that begins at a place: none: there is none. -/
def numLen (l : List Int) (i : Nat) : Option Nat :=
  let n := if l.getD i (-1) = 175 then 1 else 0
  let k := figures l (i + n)
  if k = 0 then none
  else
    let m := n + k
    let e := if (l.getD (i + m) (-1) = 114 ∨ l.getD (i + m) (-1) = 46) ∧ 0 < figures l (i + m + 1) then m + 1 + figures l (i + m + 1) else m
    if word (l.getD (i + e) (-1)) = true ∨ l.getD (i + e) (-1) = 175 then none else some e
/-- The characters of a text in quotes, and how many characters it has; so many are left to look at. -/
def quote (l : List Int) : Nat → Nat → List Int → Option (List Int × Nat)
  | 0, _, _ => none
  | f + 1, k, out =>
    if l.length ≤ k then none
    else if l.getD k (-1) ≠ 39 then quote l f (k + 1) (out ++ [l.getD k (-1)])
    else if l.getD (k + 1) (-1) ≠ 39 then some (out, k + 1)
    else quote l f (k + 2) (out ++ [39])
/-- The token that begins at a place, how many characters it has, and the error. -/
def read (l : List Int) (i : Nat) : Tok × Nat × Int :=
  let c := l.getD i (-1)
  if cls c = 3 then
    match numLen l i with
    | none => (none_, 0, 1)
    | some n =>
      let r := Dg.parse (enc ((l.drop i).take n))
      if r.2 = 0 then (⟨0, r.1, [], [], 0, i⟩, n, 0) else (none_, 0, r.2)
  else if cls c = 2 then
    let n := words l i
    if 16 < n then (none_, 0, 1) else (⟨if c ≤ 90 then 3 else 2, Rt.none_, [], enc ((l.drop i).take n), 0, i⟩, n, 0)
  else if c = 39 then
    match quote l (l.length + 1) (i + 1) [] with
    | none => (none_, 0, 1)
    | some (t, e) => (⟨1, Rt.none_, t, [], 0, i⟩, e - i, 0)
  else if c = 9109 ∨ c = 9054 then
    let n := words l (i + 1)
    let d := l.getD (i + 1) (-1)
    if n = 1 ∧ 48 ≤ d ∧ d ≤ 55 then (⟨if c = 9054 then 5 else 4, Rt.none_, [], [], d - 48, i⟩, 2, 0)
    else if c = 9109 ∧ n = 2 ∧ d = 68 ∧ l.getD (i + 2) (-1) = 67 then (⟨6, Rt.none_, [], [], 0, i⟩, 3, 0)
    else if c = 9109 ∧ n = 2 ∧ d = 85 ∧ l.getD (i + 2) (-1) = 80 then (⟨6, Rt.none_, [], [], 1, i⟩, 3, 0)
    else (none_, 0, 1)
  else if cls c = 0 then (none_, 0, 1)
  else (⟨7, Rt.none_, [], [], c, i⟩, 1, 0)
end Tk

/-
  Expressions, plain: how deep, how many; which may be.
-/
namespace Tr
open Go

inductive Tree where
  | mk (kind op : Int) (name : List UInt8) (n : Rt.Nm) (text : List Int) (kids : List Tree)
def kind : Tree → Int
  | .mk k _ _ _ _ _ => k
def op : Tree → Int
  | .mk _ o _ _ _ _ => o
def name : Tree → List UInt8
  | .mk _ _ m _ _ _ => m
def num : Tree → Rt.Nm
  | .mk _ _ _ n _ _ => n
def text : Tree → List Int
  | .mk _ _ _ _ t _ => t
def kids : Tree → List Tree
  | .mk _ _ _ _ _ l => l

mutual
def depth : Tree → Nat
  | .mk _ _ _ _ _ l => depths l + 1
def depths : List Tree → Nat
  | [] => 0
  | t :: r => max (depth t) (depths r)
end
mutual
def count : Tree → Nat
  | .mk _ _ _ _ _ l => counts l + 1
def counts : List Tree → Nat
  | [] => 0
  | t :: r => count t + counts r
end
theorem count_pos (t : Tree) : 1 ≤ count t := by cases t; unfold count; omega
theorem depth_pos (t : Tree) : 1 ≤ depth t := by cases t; unfold depth; omega

/-! How many of so many are left behind an expression. -/
mutual
def left : Tree → Nat → Int → Int
  | .mk _ _ _ _ t l, d, n => if d = 0 then -1 else lefts l (d - 1) (n - 1 - ((t.length / 8 : Nat) : Int))
def lefts : List Tree → Nat → Int → Int
  | [], _, n => n
  | t :: r, d, n => if n < 0 then n else lefts r d (left t d n)
end
mutual
theorem left_le : ∀ (t : Tree) (d : Nat) (n : Int), 0 ≤ left t d n → depth t ≤ d ∧ (count t : Int) + left t d n ≤ n
  | .mk _ _ _ _ t l, d, n => by
    intro h
    unfold left at h ⊢
    unfold depth count
    by_cases hd : d = 0
    · rw [if_pos hd] at h
      omega
    · rw [if_neg hd] at h ⊢
      have := lefts_le l (d - 1) _ h
      omega
theorem lefts_le : ∀ (l : List Tree) (d : Nat) (n : Int), 0 ≤ lefts l d n → depths l ≤ d ∧ (counts l : Int) + lefts l d n ≤ n
  | [], d, n => by
    intro h
    unfold lefts at h ⊢
    unfold depths counts
    omega
  | t :: r, d, n => by
    intro h
    unfold lefts at h ⊢
    unfold depths counts
    by_cases hn : n < 0
    · rw [if_pos hn] at h
      omega
    · rw [if_neg hn] at h ⊢
      have h2 := lefts_le r d _ h
      have h1 := left_le t d n (by have := h2.2; omega)
      exact ⟨Nat.max_le.2 ⟨h1.1, h2.1⟩, by have := h1.2; have := h2.2; omega⟩
end
theorem lefts_neg : ∀ (l : List Tree) (d : Nat) (n : Int), n < 0 → lefts l d n = n
  | [], _, _, _ => by unfold lefts; rfl
  | t :: r, d, n, h => by unfold lefts; rw [if_pos h]
theorem lefts_drop {l : List Tree} {k : Nat} (h : k < l.length) (d : Nat) (n : Int) (hn : 0 ≤ n) : lefts (l.drop k) d n = lefts (l.drop (k + 1)) d (left l[k] d n) := by
  rw [List.drop_eq_getElem_cons h, lefts, if_neg (by omega)]
theorem depths_drop {l : List Tree} {k : Nat} (h : k < l.length) : depths (l.drop k) = max (depth l[k]) (depths (l.drop (k + 1))) := by
  rw [List.drop_eq_getElem_cons h, depths]
theorem counts_drop {l : List Tree} {k : Nat} (h : k < l.length) : counts (l.drop k) = count l[k] + counts (l.drop (k + 1)) := by
  rw [List.drop_eq_getElem_cons h, counts]
/-- Of at most 3000, 60 within one another. -/
def few (t : Tree) : Bool := decide (0 ≤ left t 60 3000)
theorem few_small {t : Tree} (h : few t = true) : depth t ≤ 60 ∧ count t ≤ 3000 := by
  have := left_le t 60 3000 (of_decide_eq_true h)
  have h2 := of_decide_eq_true h
  omega

/-! May an expression be, but for its parts? -/
def array (k : Int) : Bool := decide (1 ≤ k) && decide (k ≤ 16) && !(k == 10)
def item (k : Int) : Bool := decide (1 ≤ k) && decide (k ≤ 9) && !(k == 8)
def func (k : Int) : Bool := decide (17 ≤ k) && decide (k ≤ 24)
def plain (k : Int) : Bool := decide (17 ≤ k) && decide (k ≤ 21)
def monops : List Int := [0x2F, 0x233F, 0x5C, 0x2340, 0xA8, 0x2368]
def dyops : List Int := [0x2E, 0x2218, 0x2364, 0x2363]
def heads : List Int := [0x2F, 0x233F, 0x5C, 0x2340]
def glyph (c : Int) : Bool := (Tk.cls c == 4) || heads.contains c
def letter (b : UInt8) : Bool := Tk.cls (b.toNat : Int) == 2
def digit (b : UInt8) : Bool := decide (48 ≤ b.toNat) && decide (b.toNat ≤ 57)
def great (s : List UInt8) : Bool := decide (65 ≤ (s.getD 0 0).toNat) && decide ((s.getD 0 0).toNat ≤ 90)
/-- May a text be a name? -/
def named (s : List UInt8) (function : Bool) : Bool :=
  !s.isEmpty && decide (s.length ≤ 16) && letter (s.getD 0 0) && s.all (fun b => letter b || digit b) && (great s == function)
def port (n : Int) : Bool := decide (0 ≤ n) && decide (n < 8)
def zero (n : Rt.Nm) : Bool := !n.neg && n.top.isEmpty && n.bot.isEmpty
/-- The fields that it has to have, and no others. -/
def held (k o : Int) (m : List UInt8) (n : Rt.Nm) (t : List Int) : Bool :=
  (if k = 1 then Rt.right n else zero n) && (if k = 2 then decide (t.length ≤ 2048) && t.all Gl.may else t.isEmpty) &&
  (if k = 3 ∨ k = 13 ∨ k = 14 ∨ k = 15 then named m false else if k = 18 ∨ k = 27 then named m true else m.isEmpty) &&
  (if k = 6 ∨ k = 7 ∨ k = 16 then port o else if k = 17 then glyph o else if k = 21 then (o == 0) || (o == 1) else if k = 22 then monops.contains o else if k = 23 then dyops.contains o else o == 0)
/-- .. the parts, by their kinds. -/
def parts : List Int → List (Int → Bool) → Bool
  | [], [] => true
  | k :: r, f :: s => f k && parts r s
  | _, _ => false
def place (k : Int) : Bool := array k || (k == 10)
def made (k o : Int) (l : List Int) : Bool :=
  if k = 8 then decide (2 ≤ l.length) && l.all array
  else if k = 9 ∨ k = 14 then decide (2 ≤ l.length) && array (l.getD 0 0) && (l.drop 1).all place
  else if k = 11 ∨ k = 15 then parts l [func, array]
  else if k = 12 then parts l [array, func, array]
  else if k = 13 ∨ k = 16 then parts l [array]
  else if k = 22 ∨ k = 27 then parts l [func]
  else if k = 23 then parts l [func, fun x => (plain x && !(o == 0x2364)) || (array x && ((o == 0x2364) || (o == 0x2363)))]
  else if k = 24 then parts l [plain]
  else if k = 25 ∨ k = 26 then parts l [array, array]
  else if k = 20 then !l.isEmpty && l.all (fun x => array x || (x == 27) || (x == 25) || (x == 26))
  else if k = 28 then !l.isEmpty && l.all (fun x => array x || (x == 27))
  else if 1 ≤ k ∧ k ≤ 21 then l.isEmpty
  else false
def one : Tree → Bool
  | .mk k o m n t l => held k o m n t && made k o (l.map kind)
mutual
def all : Tree → Bool
  | .mk k o m n t l => one (.mk k o m n t l) && alls l
def alls : List Tree → Bool
  | [] => true
  | t :: r => all t && alls r
end
def right (t : Tree) : Bool := decide (depth t ≤ 40) && decide (count t ≤ 2048) && all t

/-! The program's road: so many within one another, so many in all. -/
mutual
def go : Tree → Nat → Nat → Bool × Nat
  | .mk k o m n t l, d, q => if d = 0 ∨ q = 0 then (false, q) else if one (.mk k o m n t l) then gos l (d - 1) (q - 1) else (false, q - 1)
def gos : List Tree → Nat → Nat → Bool × Nat
  | [], _, q => (true, q)
  | t :: r, d, q => if (go t d q).1 then gos r d (go t d q).2 else (false, (go t d q).2)
end
mutual
theorem go_eq : ∀ (t : Tree) (d q : Nat), (go t d q).1 = (decide (depth t ≤ d) && decide (count t ≤ q) && all t) ∧ ((go t d q).1 = true → (go t d q).2 + count t = q)
  | .mk k o m n t l, d, q => by
    unfold go depth count all
    by_cases h0 : d = 0 ∨ q = 0
    · rw [if_pos h0]
      refine ⟨?_, fun h => by cases h⟩
      rcases h0 with h0 | h0
      · rw [decide_eq_false (by omega : ¬ depths l + 1 ≤ d)]; rfl
      · rw [decide_eq_false (by omega : ¬ counts l + 1 ≤ q), Bool.and_false]; rfl
    · rw [if_neg h0]
      cases h1 : one (.mk k o m n t l) with
      | false =>
        rw [if_neg (by simp), Bool.false_and, Bool.and_false]
        exact ⟨rfl, fun h => by cases h⟩
      | true =>
        rw [if_pos rfl, Bool.true_and]
        have ih := gos_eq l (d - 1) (q - 1)
        refine ⟨?_, fun h => by have := ih.2 h; omega⟩
        rw [ih.1]
        congr 2
        · exact decide_eq_decide.2 (by omega)
        · exact decide_eq_decide.2 (by omega)
theorem gos_eq : ∀ (l : List Tree) (d q : Nat), (gos l d q).1 = (decide (depths l ≤ d) && decide (counts l ≤ q) && alls l) ∧ ((gos l d q).1 = true → (gos l d q).2 + counts l = q)
  | [], d, q => by
    unfold gos depths counts alls
    simp
  | t :: r, d, q => by
    unfold gos depths counts alls
    have i1 := go_eq t d q
    have i2 := gos_eq r d (go t d q).2
    cases hg : (go t d q).1 with
    | false =>
      rw [if_neg (by simp)]
      refine ⟨?_, fun h => by cases h⟩
      rw [hg] at i1
      by_cases hd : depth t ≤ d
      · by_cases hc : count t ≤ q
        · rw [decide_eq_true hd, decide_eq_true hc] at i1
          have : all t = false := by simpa using i1.1.symm
          rw [this, Bool.false_and, Bool.and_false]
        · rw [decide_eq_false (by omega : ¬ count t + counts r ≤ q), Bool.and_false]; rfl
      · rw [decide_eq_false (by omega : ¬ max (depth t) (depths r) ≤ d)]; rfl
    | true =>
      rw [if_pos rfl]
      have e := i1.2 hg
      rw [hg] at i1
      have h3 := i1.1.symm
      simp only [Bool.and_eq_true, decide_eq_true_eq] at h3
      refine ⟨?_, fun h => by have := i2.2 h; omega⟩
      rw [i2.1, h3.2, Bool.true_and]
      congr 2
      · exact decide_eq_decide.2 (by omega)
      · exact decide_eq_decide.2 (by omega)
end
theorem go_right (t : Tree) : (go t 40 2048).1 = right t := (go_eq t 40 2048).1
end Tr

/-
  Expressions, plain: the program's look at a number; the document's rules; the texts.
-/
namespace Tr
open Go

/-! A number, as the program looks at it. -/
def trimmed (l : List Nat) : Bool := decide (l.length ≤ 32) && (l.isEmpty || !(l.getLastD 0 == 0))
def isOne (l : List Nat) : Bool := l == [1]
def ratio (n : Rt.Nm) : Bool :=
  if trimmed n.top && trimmed n.bot && !n.bot.isEmpty && !(n.top.isEmpty && n.neg) then isOne n.bot || (Nt.digs (Nat.gcd (Nt.val n.top) (Nt.val n.bot)) == [1]) else false
theorem trimmed_iff (l : List Nat) : trimmed l = true ↔ l.length ≤ 32 ∧ Nt.Top l := by
  unfold trimmed
  simp only [Bool.and_eq_true, decide_eq_true_eq, Bool.or_eq_true, Bool.not_eq_true', beq_eq_false_iff_ne, List.isEmpty_iff]
  refine and_congr_right fun _ => ?_
  constructor
  · rintro (h | h) hne
    · exact absurd h hne
    · rwa [List.getLastD_eq_getLast?, List.getLast?_eq_some_getLast hne] at h
  · intro h
    by_cases hne : l = []
    · exact .inl hne
    · refine .inr ?_
      have := h hne
      rwa [List.getLastD_eq_getLast?, List.getLast?_eq_some_getLast hne]
theorem digs_one : Nt.digs 1 = [1] := by rw [Nt.digs_pos (by omega)]; simp [Nt.digs_zero]
theorem ratio_right {n : Rt.Nm} (o1 : Nt.Ok n.top) (o2 : Nt.Ok n.bot) : ratio n = Rt.right n := by
  rw [Bool.eq_iff_iff, Rt.right_iff o1 o2]
  have hd : Nt.digs (Nat.gcd (Nt.val n.top) (Nt.val n.bot)) = [1] ↔ Nat.gcd (Nt.val n.top) (Nt.val n.bot) = 1 := by
    constructor
    · intro h; exact Nt.digs_inj (h.trans digs_one.symm)
    · intro h; rw [h, digs_one]
  unfold ratio
  have h1 : (trimmed n.top && trimmed n.bot && !n.bot.isEmpty && !(n.top.isEmpty && n.neg)) = true ↔ n.top.length ≤ 32 ∧ n.bot.length ≤ 32 ∧ Nt.Top n.top ∧ Nt.Top n.bot ∧ n.bot ≠ [] ∧ (n.top = [] → n.neg = false) := by
    simp only [Bool.and_eq_true, trimmed_iff]
    constructor
    · rintro ⟨⟨⟨⟨a, b⟩, c, d⟩, e⟩, f⟩
      refine ⟨a, c, b, d, ?_, ?_⟩
      · rintro h; rw [h] at e; cases e
      · intro h; rw [h] at f; simpa using f
    · rintro ⟨a, b, c, d, e, f⟩
      refine ⟨⟨⟨⟨a, c⟩, b, d⟩, ?_⟩, ?_⟩
      · cases hb : n.bot with
        | nil => exact absurd hb e
        | cons _ _ => rfl
      · cases ht : n.top with
        | nil => simpa using f ht
        | cons _ _ => rfl
  by_cases hc : (trimmed n.top && trimmed n.bot && !n.bot.isEmpty && !(n.top.isEmpty && n.neg)) = true
  · rw [if_pos hc]
    have h2 := h1.1 hc
    constructor
    · intro h
      refine ⟨h2.1, h2.2.1, h2.2.2.1, h2.2.2.2.1, h2.2.2.2.2.1, h2.2.2.2.2.2, ?_⟩
      simp only [Bool.or_eq_true, isOne, beq_iff_eq] at h
      rcases h with h | h
      · rw [h]; simp [Nt.val]
      · exact hd.1 h
    · rintro ⟨_, _, _, _, _, _, h⟩
      simp only [Bool.or_eq_true, isOne, beq_iff_eq]
      exact .inr (hd.2 h)
  · rw [if_neg hc]
    constructor
    · intro h; cases h
    · rintro ⟨a, b, c, d, e, f, g⟩; exact absurd (h1.2 ⟨a, b, c, d, e, f⟩) hc

/-! The document's rules. -/
def fields (o : Int) (m : List UInt8) (n : Rt.Nm) (t : List Int) : Int :=
  (if o = 0 then 0 else 1) + (if m = [] then 0 else 2) + (if zero n then 0 else 4) + (if t = [] then 0 else 8)
def letters (c : UInt8) (k : Int) : Bool := if c = 97 then array k else if c = 102 then func k else if c = 112 then plain k else if c = 120 then place k else false
def at_ (s : List UInt8) (i : Nat) : UInt8 := if i < s.length then s.getD i 0 else s.getD (s.length - 1) 0
def kidsR (l : List Int) (s : List UInt8) (more : Bool) : Bool :=
  if l.length < s.length ∨ (s.length < l.length ∧ more = false) then false else (List.range l.length).all fun i => letters (at_ s i) (l.getD i 0)
def statements (l : List Int) (braces : Bool) : Bool := l.all (fun x => array x || (x == 27) || (braces && ((x == 25) || (x == 26)))) && !l.isEmpty
def operators (k o : Int) (f : Int) (l : List Int) : Bool :=
  if f = 1 then
    if k = 22 then monops.contains o && kidsR l [102] false
    else if dyops.contains o = false ∨ l.length ≠ 2 ∨ func (l.getD 0 0) = false then false
    else if o = 0x2364 then array (l.getD 1 0)
    else plain (l.getD 1 0) || ((o == 0x2363) && array (l.getD 1 0))
  else false
def leafR (k o : Int) (m : List UInt8) (n : Rt.Nm) (t : List Int) (l : List Int) : Bool :=
  let f := fields o m n t
  if l = [] then
    if k = 1 then ((f == 4) || (f == 0)) && Rt.right n
    else if k = 2 then ((f == 8) || (f == 0)) && decide (t.length ≤ 2048) && t.all Gl.may
    else if k = 3 then (f == 2) && named m false
    else if k = 4 ∨ k = 5 ∨ k = 10 ∨ k = 19 then f == 0
    else if k = 6 ∨ k = 7 then ((f == 0) || (f == 1)) && port o
    else if k = 17 then (f == 1) && glyph o
    else if k = 18 then (f == 2) && named m true
    else if k = 21 then ((f == 0) || (f == 1)) && ((o == 0) || (o == 1))
    else false
  else false
def oneR (k o : Int) (m : List UInt8) (n : Rt.Nm) (t : List Int) (l : List Int) : Bool :=
  let f := fields o m n t
  if k = 8 then (f == 0) && kidsR l [97, 97] true
  else if k = 9 then (f == 0) && kidsR l [97, 120] true
  else if k = 11 then (f == 0) && kidsR l [102, 97] false
  else if k = 12 then (f == 0) && kidsR l [97, 102, 97] false
  else if k = 13 then (f == 2) && named m false && kidsR l [97] false
  else if k = 14 then (f == 2) && named m false && kidsR l [97, 120] true
  else if k = 15 then (f == 2) && named m false && kidsR l [102, 97] false
  else if k = 16 then ((f == 0) || (f == 1)) && port o && kidsR l [97] false
  else if k = 20 then (f == 0) && statements l true
  else if k = 22 ∨ k = 23 then operators k o f l
  else if k = 24 then (f == 0) && kidsR l [112] false
  else if k = 25 ∨ k = 26 then (f == 0) && kidsR l [97, 97] false
  else if k = 27 then (f == 2) && named m true && kidsR l [102] false
  else if k = 28 then (f == 0) && statements l false
  else leafR k o m n t l
theorem named_ne {m : List UInt8} {b : Bool} (h : named m b = true) : m ≠ [] := by rintro rfl; simp [named] at h
theorem range_all (l : List Int) (p : Nat → Int → Bool) : (List.range l.length).all (fun i => p i (l.getD i 0)) = (l.zipIdx.all fun x => p x.2 x.1) := by
  rw [Bool.eq_iff_iff]
  simp only [List.all_eq_true, List.mem_range]
  constructor
  · rintro h ⟨x, i⟩ hx
    obtain ⟨h1, h2⟩ := List.mem_zipIdx' hx
    have := h i h1
    rwa [List.getD_eq_getElem?_getD, List.getElem?_eq_getElem h1, Option.getD_some, ← h2] at this
  · intro h i hi
    have := h (l[i], i) (List.mem_zipIdx_iff_getElem?.2 (by simp [hi]))
    rwa [List.getD_eq_getElem?_getD, List.getElem?_eq_getElem hi]
theorem kids_1 (l : List Int) (c : UInt8) : kidsR l [c] false = parts l [letters c] := by
  match l with
  | [] => simp [kidsR, parts]
  | [a] => simp [kidsR, parts, at_]
  | a :: b :: r => simp [kidsR, parts]
theorem kids_2 (l : List Int) (c d : UInt8) : kidsR l [c, d] false = parts l [letters c, letters d] := by
  match l with
  | [] => simp [kidsR, parts]
  | [a] => simp [kidsR, parts]
  | [a, b] => simp [kidsR, parts, at_, List.range_succ]
  | a :: b :: x :: r => simp [kidsR, parts]
theorem kids_3 (l : List Int) (c d e : UInt8) : kidsR l [c, d, e] false = parts l [letters c, letters d, letters e] := by
  match l with
  | [] => simp [kidsR, parts]
  | [a] => simp [kidsR, parts]
  | [a, b] => simp [kidsR, parts]
  | [a, b, x] => simp [kidsR, parts, at_, List.range_succ]
  | a :: b :: x :: y :: r => simp [kidsR, parts]
theorem kids_more (l : List Int) (c d : UInt8) : kidsR l [c, d] true = (decide (2 ≤ l.length) && letters c (l.getD 0 0) && (l.drop 1).all (letters d)) := by
  match l with
  | [] => simp [kidsR]
  | [a] => simp [kidsR]
  | a :: b :: r =>
    rw [kidsR, if_neg (by simp)]
    rw [range_all (a :: b :: r) (fun i x => letters (at_ [c, d] i) x)]
    rw [Bool.eq_iff_iff]
    simp only [List.all_eq_true, Bool.and_eq_true, List.zipIdx_cons, List.mem_cons, List.drop_succ_cons, List.drop_zero]
    constructor
    · intro h
      refine ⟨⟨by simp, ?_⟩, ?_⟩
      · have := h (a, 0) (.inl rfl)
        simpa [at_] using this
      · intro x hx
        rcases hx with rfl | hx
        · have := h (x, 1) (.inr (.inl rfl))
          simpa [at_] using this
        · obtain ⟨i, hi, rfl⟩ := List.mem_iff_getElem.1 hx
          have := h (r[i], 2 + i) (.inr (.inr (by rw [List.mem_zipIdx_iff_le_and_getElem?_sub]; simp [hi])))
          have h3 : at_ [c, d] (2 + i) = d := by
            unfold at_
            rw [if_neg (by simp)]; rfl
          dsimp only at this
          rwa [h3] at this
    · rintro ⟨⟨_, h1⟩, h2⟩ ⟨x, i⟩ hx
      rcases hx with hx | hx | hx
      · injection hx with e1 e2; subst e1 e2; simpa [at_] using h1
      · injection hx with e1 e2; subst e1 e2; have := h2 x (.inl rfl); simpa [at_] using this
      · rw [List.mem_zipIdx_iff_le_and_getElem?_sub] at hx
        dsimp only at hx ⊢
        have := h2 x (.inr (List.mem_of_getElem? hx.2))
        have h3 : at_ [c, d] i = d := by
          unfold at_
          rw [if_neg (by simp; omega)]; rfl
        rw [h3]; exact this
theorem letters_a : letters 97 = array := by funext k; rfl
theorem letters_f : letters 102 = func := by funext k; rfl
theorem letters_p : letters 112 = plain := by funext k; rfl
theorem letters_x : letters 120 = place := by funext k; rfl
/-! The fields, one by one. -/
theorem fields_cases (o : Int) (m : List UInt8) (n : Rt.Nm) (t : List Int) :
    ((fields o m n t == 0) = ((o == 0) && m.isEmpty && zero n && t.isEmpty)) ∧ ((fields o m n t == 1) = (!(o == 0) && m.isEmpty && zero n && t.isEmpty)) ∧
    ((fields o m n t == 2) = ((o == 0) && !m.isEmpty && zero n && t.isEmpty)) ∧ ((fields o m n t == 4) = ((o == 0) && m.isEmpty && !zero n && t.isEmpty)) ∧
    ((fields o m n t == 8) = ((o == 0) && m.isEmpty && zero n && !t.isEmpty)) := by
  unfold fields
  by_cases h1 : o = 0 <;> cases m <;> cases h3 : zero n <;> cases t <;> simp [h1]
theorem glyph_0 : glyph 0 = false := by decide
theorem mon_0 : monops.contains 0 = false := by decide
theorem dy_0 : dyops.contains 0 = false := by decide
theorem kind_cases (k : Int) : (k < 1 ∨ 28 < k) ∨ k = 1 ∨ k = 2 ∨ k = 3 ∨ k = 4 ∨ k = 5 ∨ k = 6 ∨ k = 7 ∨ k = 8 ∨ k = 9 ∨ k = 10 ∨ k = 11 ∨ k = 12 ∨ k = 13 ∨ k = 14 ∨ k = 15 ∨ k = 16 ∨ k = 17 ∨ k = 18 ∨ k = 19 ∨ k = 20 ∨ k = 21 ∨ k = 22 ∨ k = 23 ∨ k = 24 ∨ k = 25 ∨ k = 26 ∨ k = 27 ∨ k = 28 := by omega
theorem isE {α : Type} (l : List α) : (l = []) = (l.isEmpty = true) := by cases l <;> simp
theorem named_e {m : List UInt8} {b : Bool} : named m b = (named m b && !m.isEmpty) := by
  cases h : named m b with
  | false => rfl
  | true =>
    have := named_ne h
    cases m with
    | nil => exact absurd rfl this
    | cons _ _ => rfl
theorem glyph_e (o : Int) : glyph o = (glyph o && !(o == 0)) := by
  by_cases h : o = 0
  · subst h; rw [glyph_0]; rfl
  · rw [show (o == 0) = false by simpa using h]; simp
theorem mon_e (o : Int) : monops.contains o = (monops.contains o && !(o == 0)) := by
  by_cases h : o = 0
  · subst h; rw [mon_0]; rfl
  · rw [show (o == 0) = false by simpa using h]; simp
theorem dy_e (o : Int) : dyops.contains o = (dyops.contains o && !(o == 0)) := by
  by_cases h : o = 0
  · subst h; rw [dy_0]; rfl
  · rw [show (o == 0) = false by simpa using h]; simp
theorem op23 (o : Int) (m : List UInt8) (n : Rt.Nm) (t l : List Int) (f1 : (fields o m n t == 1) = (!(o == 0) && m.isEmpty && zero n && t.isEmpty)) : operators 23 o (fields o m n t) l = (zero n && t.isEmpty && m.isEmpty && dyops.contains o && parts l [func, fun x => (plain x && !(o == 0x2364)) || (array x && ((o == 0x2364) || (o == 0x2363)))]) := by
  unfold operators
  by_cases hf : fields o m n t = 1
  · rw [if_pos hf, if_neg (by decide)]
    have hf' : (fields o m n t == 1) = true := by simpa using hf
    rw [f1] at hf'
    simp only [Bool.and_eq_true] at hf'
    rw [hf'.1.1.2, hf'.1.2, hf'.2]
    cases hd : dyops.contains o with
    | false => simp
    | true =>
      match l with
      | [] => simp [parts]
      | [a] => simp [parts]
      | [a, b] =>
        cases hfa : func a with
        | false => simp [parts, hfa]
        | true =>
          by_cases ho : o = 9060
          · subst ho; simp [parts, hfa]
          · have ho' : (o == 9060) = false := by simpa using ho
            simp [parts, hfa, ho, ho', Bool.and_comm]
      | a :: b :: c :: r => simp [parts]
  · rw [if_neg hf]
    have hf' : (fields o m n t == 1) = false := by simpa using hf
    rw [f1] at hf'
    rw [dy_e]
    revert hf'
    cases (o == 0) <;> cases m.isEmpty <;> cases zero n <;> cases t.isEmpty <;> simp
theorem op22 (o : Int) (m : List UInt8) (n : Rt.Nm) (t l : List Int) (f1 : (fields o m n t == 1) = (!(o == 0) && m.isEmpty && zero n && t.isEmpty)) : operators 22 o (fields o m n t) l = (zero n && t.isEmpty && m.isEmpty && monops.contains o && parts l [func]) := by
  unfold operators
  rw [kids_1, letters_f]
  by_cases hf : fields o m n t = 1
  · rw [if_pos hf, if_pos rfl]
    have hf' : (fields o m n t == 1) = true := by simpa using hf
    rw [f1] at hf'
    simp only [Bool.and_eq_true] at hf'
    rw [hf'.1.1.2, hf'.1.2, hf'.2]
    simp
  · rw [if_neg hf]
    have hf' : (fields o m n t == 1) = false := by simpa using hf
    rw [f1] at hf'
    rw [mon_e]
    revert hf'
    cases (o == 0) <;> cases m.isEmpty <;> cases zero n <;> cases t.isEmpty <;> simp
theorem one_eq (k o : Int) (m : List UInt8) (n : Rt.Nm) (t : List Int) (l : List Int) : oneR k o m n t l = (held k o m n t && made k o l) := by
  obtain ⟨f0, f1, f2, f4, f8⟩ := fields_cases o m n t
  unfold oneR leafR held made
  have e1 := @named_e m false
  have e2 := @named_e m true
  have e3 := glyph_e o
  have e4 := mon_e o
  have e5 := dy_e o
  have hl : ∀ X : Bool, (if l = [] then X else false) = (X && l.isEmpty) := fun X => by cases l <;> simp
  simp only [f0, f2, f4, f8, kids_1, kids_2, kids_3, kids_more, letters_a, letters_f, letters_p, letters_x]
  rcases kind_cases k with h | h | h | h | h | h | h | h | h | h | h | h | h | h | h | h | h | h | h | h | h | h | h | h | h | h | h | h | h
  · simp only [show ¬ k = 1 by omega, show ¬ k = 2 by omega, show ¬ k = 3 by omega, show ¬ k = 8 by omega, show ¬ k = 9 by omega, show ¬ k = 11 by omega, show ¬ k = 12 by omega, show ¬ k = 13 by omega, show ¬ k = 14 by omega, show ¬ k = 15 by omega, show ¬ k = 16 by omega, show ¬ k = 20 by omega, show ¬ k = 22 by omega, show ¬ k = 23 by omega, show ¬ k = 24 by omega, show ¬ k = 25 by omega, show ¬ k = 26 by omega, show ¬ k = 27 by omega, show ¬ k = 28 by omega, show ¬ k = 4 by omega, show ¬ k = 5 by omega, show ¬ k = 10 by omega, show ¬ k = 19 by omega, show ¬ k = 6 by omega, show ¬ k = 7 by omega, show ¬ k = 17 by omega, show ¬ k = 18 by omega, show ¬ k = 21 by omega, show ¬ (1 ≤ k ∧ k ≤ 21) by omega, or_self, if_false, ite_self, Bool.and_false]
  all_goals (subst h; simp (config := {decide := true}) only [if_true, if_false])
  case inr.inr.inr.inr.inr.inr.inr.inr.inr.inr.inr.inr.inr.inr.inr.inr.inr.inr.inr.inr.inr.inr.inr.inl => exact op23 o m n t l f1
  case inr.inr.inr.inr.inr.inr.inr.inr.inr.inr.inr.inr.inr.inr.inr.inr.inr.inr.inr.inr.inr.inr.inl => exact op22 o m n t l f1
  case inr.inr.inr.inr.inr.inr.inr.inr.inl =>
    have h8 : (decide (2 ≤ l.length) && array (l.getD 0 0) && (l.drop 1).all array) = (decide (2 ≤ l.length) && l.all array) := by
      match l with
      | [] => rfl
      | [a] => rfl
      | a :: b :: r => simp
    rw [h8]
    cases (o == 0) <;> cases m.isEmpty <;> cases zero n <;> cases t.isEmpty <;> simp
  all_goals try simp only [hl]
  all_goals try simp only [statements, f1]
  all_goals (try rw [e1]); (try rw [e2]); (try rw [e3]); (try rw [e4])
  all_goals clear e1 e2 e3 e4 e5 f0 f1 f2 f4 f8 hl
  all_goals (cases (o == 0) <;> cases m.isEmpty <;> cases zero n <;> cases t.isEmpty <;> simp [Bool.and_comm, Bool.or_assoc])
end Tr

/-
  A region that draws its order and whose calls make memory, but yield one value wherever they are made: one walk of the text's order serves.
  The class of worlds: those that are as w0 was below its heap's size. By the kit's wp_region_quiet (Derived/Deep/Quiet), at this class.
-/
namespace Go.Proofs.YtmiccalfamepdaaGreatDoor
open Go.RowKit
set_option linter.unusedVariables false

/-- A world that is as w0 was below the size of w0's heap. -/
structure Later (w0 : World) where
  w : World
  b : Below w0.heap.size w0 w
instance Later.nonempty (w0 : World) : Nonempty (Later w0) := ⟨⟨w0, Below.refl _ _⟩⟩
theorem wp_region_later (w0 : World) {P : Program} {id : Nat} {Q : Exit → Act → World → Prop} {a : Act} {w : World} {l : List Oper} (hm : P.follows .mixedOrders = true) (hB : Region.lexB .any l.toArray = true) (hC : Below w0.heap.size w0 w.drew)
    (h : wpQuiet P l.toArray (fun w' => ∃ x : Later w0, w' = x.w) (fun a' => ∀ w', (∃ x : Later w0, w' = x.w) → Q .normal a' w') l a) : (Code.region id l.toArray true).wp P Q a w :=
  wp_region_quiet (C := fun w' => ∃ x : Later w0, w' = x.w) hm hB ⟨⟨_, hC⟩, rfl⟩ (by simpa using h)
theorem Later.call {w0 : World} {P : Program} {f : FuncId} {args : Array Value} {x : Later w0} {v : Value}
    (h : Calls P f args x.w fun e w' => e = .returned v ∧ Below x.w.heap.size x.w w') : Calls P f args x.w fun e w'' => e = .returned v ∧ ∃ y : Later w0, w'' = y.w :=
  h.mono fun _ w' ⟨he, hb⟩ => ⟨he, ⟨w', x.b.trans (hb.mono x.b.size)⟩, rfl⟩
theorem Later.call_same {w0 : World} {P : Program} {f : FuncId} {args : Array Value} {x : Later w0} {v : Value}
    (h : Calls P f args x.w fun e w' => e = .returned v ∧ x.w = w') : Calls P f args x.w fun e w'' => e = .returned v ∧ ∃ y : Later w0, w'' = y.w :=
  h.mono fun _ w' ⟨he, hb⟩ => ⟨he, x, hb.symm⟩
/-- A whole variable is read, in a region that draws. -/
theorem wpQuiet_load_row {P : Program} {ops : Array Oper} {C : World → Prop} {Q : Act → Prop} {o : Oper} {rest : List Oper} {a : Act} (hw : Region.wanted o (yielded ops a.tmps) = true) (ty : TypeId) (x : Operand) (ho : o.op = .load ty x)
    (g : Nat) (hx : a.eval x = .pointer (some ⟨g, 0, none⟩)) (t : TypeId) (cs : Array Value) (fr : Nat × Nat) (d : TypeDesc) (hg : ∀ w, C w → w.heap[g]? = some (.cells cs t fr))
    (hu : P.underlying ty = some d) (hd : (match d with | .struct _ | .array _ _ => true | _ => false) = true) (hi : (P.info? ty).map (·.size) = some cs.size)
    (h : ∀ a', a' = a.put o.dst (.agg cs) → wpQuiet P ops C Q rest a') : wpQuiet P ops C Q (o :: rest) a := by
  replace h := h _ rfl
  rw [wpQuiet, if_pos hw]
  refine ⟨.agg cs, fun w hC => ?_, h⟩
  unfold Oper.quietAt execOp
  simp only [ho, hx, Instr.loadAt, Instr.sureAddr, Sem.run_bind, Sem.run_pure, Result.andThen_ok, run_loadVar_row w g t ty cs fr d (hg w hC) hu hd hi]
  exact ⟨rfl, rfl⟩
theorem Below.drew_self (w : World) : Below w.heap.size w w.drew := ⟨rfl, rfl, rfl, Nat.le_refl _, fun _ _ => rfl⟩
end Go.Proofs.YtmiccalfamepdaaGreatDoor

/-
  A region that draws its order, by an invariant on what has come up: each operation is looked at once, in whatever state it comes up.
-/
namespace Go.Proofs.YtmiccalfamepdaaGreatDoor
open Go.RowKit
set_option linter.unusedVariables false

section
variable {P : Program} {ops : Array Oper} {Q : Exit → Act → World → Prop} {md : Region.Mode}
theorem ready_mem {l : Array Bool} {i : Nat} (h : i ∈ Region.ready md ops l) : i < ops.size ∧ l.getD i true = false ∧ ((ops[i]?).map (·.after.all fun e => !Region.binds md e || l.getD e.on false)).getD false = true := by
  simp only [Region.ready, List.mem_filter, List.mem_range, Bool.and_eq_true, Bool.not_eq_true'] at h
  exact ⟨h.1, h.2.1, h.2.2⟩
theorem count_false_zero {l : Array Bool} (h : l.toList.count false = 0) (i : Nat) : l.getD i true = true := by
  rw [List.count_eq_zero] at h
  rw [Array.getD_eq_getD_getElem?]
  cases e : l[i]? with
  | none => rfl
  | some b =>
    cases b
    · exact absurd (by have := Array.mem_of_getElem? e; simpa using this) h
    · rfl
theorem count_set_true : ∀ (l : List Bool) (i : Nat), l[i]? = some false → (l.set i true).count false + 1 = l.count false
  | [], i, h => by simp at h
  | b :: r, 0, h => by
    simp at h; subst h; simp
  | b :: r, i + 1, h => by
    have := count_set_true r i (by simpa using h)
    cases b <;> simp <;> omega
theorem wpAny_inv (I : Array Bool → Act → World → Prop)
    (hI : ∀ l a w, I l a w → ∀ i, i ∈ Region.ready md ops l → wpOp P ops Q i (I (l.setIfInBounds i true)) a w)
    (hd : ∀ l a w, I l a w → Region.ready md ops l = [] → Q .normal a w) :
    ∀ n l a w, l.toList.count false ≤ n → I l a w → wpAny P md ops Q n l a w := by
  intro n
  induction n with
  | zero =>
    intro l a w hc h
    have hr : Region.ready md ops l = [] := by
      rw [List.eq_nil_iff_forall_not_mem]
      intro i hi
      have := (ready_mem hi).2.1
      rw [count_false_zero (by omega)] at this
      cases this
    exact ⟨hr, hd l a w h hr⟩
  | succ n ih =>
    intro l a w hc h
    refine ⟨hd l a w h, fun i hi => wpOp_mono (fun a' w' h' => ih _ a' w' ?_ h') (hI l a w h i hi)⟩
    have h1 := (ready_mem hi).2.1
    rw [Array.getD_eq_getD_getElem?] at h1
    have h2 : l.toList[i]? = some false := by
      cases e : l[i]? with
      | none => rw [e] at h1; cases h1
      | some b => rw [e] at h1; simp at h1; subst h1; simpa using e
    have h3 := count_set_true _ _ h2
    have h4 : (l.setIfInBounds i true).toList = l.toList.set i true := by simp
    rw [h4]; omega
theorem wpOp_at {i : Nat} {o : Oper} {K : Act → World → Prop} {a : Act} {w : World} (h : ops[i]? = some o) (hg : o.guard = none) (hw : o.wp P a w K Q) : wpOp P ops Q i K a w := by
  unfold wpOp; rw [h]
  have : Region.wanted o (yielded ops a.tmps) = true := by simp [Region.wanted, hg]
  simp only [this, if_true]
  exact .inl hw
end
end Go.Proofs.YtmiccalfamepdaaGreatDoor

/-
  A region that draws its order, and whose operations make memory but write none that was there: by a predicate for each operation's value, that stays in every later world.
-/
namespace Go.Proofs.YtmiccalfamepdaaGreatDoor
open Go.RowKit
set_option linter.unusedVariables false

/-- One value more. -/
def upd (xs : Nat → Value) (i : Nat) (v : Value) : Nat → Value := fun j => if j = i then v else xs j
section
variable {P : Program} {ops : Array Oper} {Q : Exit → Act → World → Prop} {md : Region.Mode}
/-- Does an operation wait for another one? -/
def depB (md : Region.Mode) (ops : Array Oper) (i j : Nat) : Bool := match ops[i]? with
  | some o => o.after.toList.any fun e => e.on == j && Region.binds md e
  | none => false
/-- The operation yields such a value, and makes memory at the most. -/
def Yields (frame : (Nat → Value) → Act) (R : Nat → World → Value → Prop) (xs : Nat → Value) (i : Nat) (w : World) (a' : Act) (w' : World) : Prop := ∃ v, a' = frame (upd xs i v) ∧ R i w' v ∧ Below w.heap.size w w'
theorem wpAny_pred (frame : (Nat → Value) → Act) (w0 : World) (R : Nat → World → Value → Prop)
    (hR : ∀ i w w' v, R i w v → Below w.heap.size w w' → R i w' v)
    (step : ∀ i xs w, i < ops.size → Below w0.heap.size w0 w → (∀ j, depB md ops i j = true → R j w (xs j)) → wpOp P ops Q i (Yields frame R xs i w) (frame xs) w)
    (done : ∀ xs w, Below w0.heap.size w0 w → (∀ i, i < ops.size → R i w (xs i)) → Q .normal (frame xs) w)
    (hops : ∀ i, i < ops.size → ∀ o, ops[i]? = some o → ∀ e ∈ o.after, e.on < i)
    (xs0 : Nat → Value) (w1 : World) (hw1 : Below w0.heap.size w0 w1) : wpAny P md ops Q ops.size (Array.replicate ops.size false) (frame xs0) w1 := by
  refine wpAny_inv (fun l a w => l.size = ops.size ∧ Below w0.heap.size w0 w ∧ ∃ xs, a = frame xs ∧ ∀ i, i < ops.size → l[i]? = some true → R i w (xs i)) ?_ ?_ ops.size _ _ _ (by simp) ⟨by simp, hw1, xs0, rfl, fun i hi h => by simp [hi] at h⟩
  · rintro l a w ⟨hl, hb, xs, rfl, hx⟩ i hi
    obtain ⟨h1, h2, h3⟩ := ready_mem hi
    have hli : l[i]? = some false := by
      rw [Array.getD_eq_getD_getElem?] at h2
      rw [Array.getElem?_eq_getElem (by omega)] at h2 ⊢
      simp at h2; rw [h2]
    refine wpOp_mono ?_ (step i xs w h1 hb ?_)
    · rintro a' w' ⟨v, rfl, hv, hb'⟩
      refine ⟨by simpa using hl, hb.trans (hb'.mono hb.size), upd xs i v, rfl, fun j hj hlj => ?_⟩
      by_cases e : j = i
      · subst e; simp only [upd, if_true]; exact hv
      · simp only [upd, if_neg e]
        rw [Array.getElem?_setIfInBounds_ne (fun h => e h.symm)] at hlj
        exact hR j w w' _ (hx j hj hlj) hb'
    · intro j hj
      obtain ⟨o, ho⟩ : ∃ o, ops[i]? = some o := ⟨_, Array.getElem?_eq_getElem h1⟩
      unfold depB at hj
      rw [ho] at hj
      simp only [List.any_eq_true, Bool.and_eq_true, beq_iff_eq] at hj
      obtain ⟨e, he', rfl, hbe⟩ := hj
      have he : e ∈ o.after := by simpa using he'
      have hlt := hops i h1 o ho e he
      rw [ho] at h3
      simp only [Option.map_some, Option.getD_some, Array.all_eq_true_iff_forall_mem] at h3
      have h4 := h3 e he
      rw [hbe] at h4
      simp only [Bool.not_true, Bool.false_or] at h4
      refine hx e.on (by omega) ?_
      rw [Array.getD_eq_getD_getElem?, Array.getElem?_eq_getElem (by omega)] at h4
      rw [Array.getElem?_eq_getElem (by omega)]
      simp at h4; rw [h4]
  · rintro l a w ⟨hl, hb, xs, rfl, hx⟩ hr
    refine done xs w hb ?_
    -- all are listed, by the order of the text
    have hall : ∀ n i, i < n → i < ops.size → l[i]? = some true := by
      intro n
      induction n with
      | zero => intro i h; omega
      | succ n ih =>
        intro i hi his
        by_cases e : i < n
        · exact ih i e his
        · have hie : i = n := by omega
          subst hie
          cases h : l[i]? with
          | none => rw [Array.getElem?_eq_none_iff] at h; omega
          | some b =>
            cases b
            · exfalso
              have : i ∈ Region.ready md ops l := by
                simp only [Region.ready, List.mem_filter, List.mem_range, Bool.and_eq_true, Bool.not_eq_true']
                refine ⟨his, by rw [Array.getD_eq_getD_getElem?, h]; rfl, ?_⟩
                rw [Array.getElem?_eq_getElem his]
                simp only [Option.map_some, Option.getD_some, Array.all_eq_true_iff_forall_mem]
                intro e he
                have hlt := hops i his _ (Array.getElem?_eq_getElem his) e he
                rw [Array.getD_eq_getD_getElem?, ih e.on hlt (by omega)]
                simp
              rw [hr] at this; cases this
            · rfl
    intro i hi
    exact hx i hi (hall (i + 1) i (by omega) hi)
theorem wp_region_pred (frame : (Nat → Value) → Act) (w0 : World) (R : Nat → World → Value → Prop) {id : Nat} {a : Act} {w : World} (hm : P.follows .mixedOrders = true)
    (hR : ∀ i w w' v, R i w v → Below w.heap.size w w' → R i w' v)
    (hops : ops.toList.zipIdx.all (fun p => p.1.after.all fun e => decide (e.on < p.2)) = true)
    (xs0 : Nat → Value) (ha : a = frame xs0) (hw : Below w0.heap.size w0 w)
    (step : ∀ i xs w, i < ops.size → Below w0.heap.size w0 w → (∀ j, depB .any ops i j = true → R j w (xs j)) → wpOp P ops Q i (Yields frame R xs i w) (frame xs) w)
    (done : ∀ xs w, Below w0.heap.size w0 w → (∀ i, i < ops.size → R i w (xs i)) → Q .normal (frame xs) w) : (Code.region id ops true).wp P Q a w := by
  subst ha
  refine wp_region_any hm (wpAny_pred frame w0 R hR step done ?_ xs0 _ ?_)
  · intro i hi o ho e he
    rw [List.all_eq_true] at hops
    have h := hops (o, i) (by
      rw [List.mem_zipIdx_iff_getElem?]
      simpa using ho)
    rw [Array.all_eq_true_iff_forall_mem] at h
    simpa using h e he
  · exact ⟨hw.os, hw.tape, hw.output, hw.size, hw.block⟩
theorem wpOp_on {i : Nat} {o : Oper} {K : Act → World → Prop} {a : Act} {w : World} (h : ops[i]? = some o) (hg : Region.wanted o (yielded ops a.tmps) = true) (hw : o.wp P a w K Q) : wpOp P ops Q i K a w := by
  unfold wpOp; rw [h]
  simp only [hg, if_true]
  exact .inl hw
theorem wpOp_off {i : Nat} {o : Oper} {K : Act → World → Prop} {a : Act} {w : World} (h : ops[i]? = some o) (hg : Region.wanted o (yielded ops a.tmps) = false) (hk : K (a.put o.dst undef) w) : wpOp P ops Q i K a w := by
  unfold wpOp; rw [h]
  simp only [hg]
  exact hk
end
end Go.Proofs.YtmiccalfamepdaaGreatDoor

/-
  As XRegPred, for a region whose last operation waits for all others (a store of what they made): the others by predicates, the last one by itself.
-/
namespace Go.Proofs.YtmiccalfamepdaaGreatDoor
open Go.RowKit
set_option linter.unusedVariables false

section
variable {P : Program} {ops : Array Oper} {Q : Exit → Act → World → Prop} {md : Region.Mode}
theorem depB_listed {l : Array Bool} {i j : Nat} (h : ((ops[i]?).map (·.after.all fun e => !Region.binds md e || l.getD e.on false)).getD false = true) (hj : depB md ops i j = true) : l.getD j false = true := by
  unfold depB at hj
  cases ho : ops[i]? with
  | none => rw [ho] at hj; cases hj
  | some o =>
    rw [ho] at hj h
    simp only [List.any_eq_true, Bool.and_eq_true, beq_iff_eq] at hj
    obtain ⟨e, he', rfl, hbe⟩ := hj
    have he : e ∈ o.after := by simpa using he'
    simp only [Option.map_some, Option.getD_some, Array.all_eq_true_iff_forall_mem] at h
    have h4 := h e he
    rw [hbe] at h4
    simpa using h4
theorem getD_true {l : Array Bool} {i : Nat} (h : l.getD i false = true) : l[i]? = some true := by
  rw [Array.getD_eq_getD_getElem?] at h
  cases e : l[i]? with
  | none => rw [e] at h; cases h
  | some b => rw [e] at h; simp at h; rw [h]
theorem wpAny_last (frame : (Nat → Value) → Act) (w0 : World) (R : Nat → World → Value → Prop) (n : Nat) (hn : ops.size = n + 1)
    (hR : ∀ i w w' v, R i w v → Below w.heap.size w w' → R i w' v)
    (step : ∀ i xs w, i < n → Below w0.heap.size w0 w → (∀ j, depB md ops i j = true → R j w (xs j)) → wpOp P ops Q i (Yields frame R xs i w) (frame xs) w)
    (last : ∀ xs w, Below w0.heap.size w0 w → (∀ i, i < n → R i w (xs i)) → wpOp P ops Q n (fun a' w' => Q .normal a' w') (frame xs) w)
    (hops : ∀ i, i < ops.size → ∀ j, depB md ops i j = true → j < i) (hlast : ∀ j, j < n → depB md ops n j = true)
    (xs0 : Nat → Value) (w1 : World) (hw1 : Below w0.heap.size w0 w1) : wpAny P md ops Q ops.size (Array.replicate ops.size false) (frame xs0) w1 := by
  refine wpAny_inv (fun l a w => l.size = ops.size ∧ ((l[n]? = some false ∧ Below w0.heap.size w0 w ∧ ∃ xs, a = frame xs ∧ ∀ i, i < n → l[i]? = some true → R i w (xs i)) ∨ (l[n]? = some true ∧ Q .normal a w ∧ ∀ i, i < n → l[i]? = some true))) ?_ ?_ ops.size _ _ _ (by simp) ⟨by simp, .inl ⟨by simp [hn], hw1, xs0, rfl, fun i hi h => by simp [show i < ops.size by omega] at h⟩⟩
  · rintro l a w ⟨hl, hc⟩ i hi
    obtain ⟨h1, h2, h3⟩ := ready_mem hi
    have hli : l[i]? = some false := by
      rw [Array.getD_eq_getD_getElem?] at h2
      rw [Array.getElem?_eq_getElem (by omega)] at h2 ⊢
      simp at h2; rw [h2]
    rcases hc with ⟨hln, hb, xs, rfl, hx⟩ | ⟨hln, hQ, hall⟩
    · by_cases e : i = n
      · subst e
        have hall : ∀ j, j < i → l[j]? = some true := fun j hj => getD_true (depB_listed h3 (hlast j hj))
        refine wpOp_mono ?_ (last xs w hb (fun j hj => hx j hj (hall j hj)))
        intro a' w' hq
        refine ⟨by simpa using hl, .inr ⟨?_, hq, fun j hj => ?_⟩⟩
        · rw [Array.getElem?_setIfInBounds_self_of_lt (by omega)]
        · rw [Array.getElem?_setIfInBounds_ne (by omega)]; exact hall j hj
      · refine wpOp_mono ?_ (step i xs w (by omega) hb (fun j hj => hx j (by have := hops i h1 j hj; omega) (getD_true (depB_listed h3 hj))))
        rintro a' w' ⟨v, rfl, hv, hb'⟩
        refine ⟨by simpa using hl, .inl ⟨by rw [Array.getElem?_setIfInBounds_ne e]; exact hln, hb.trans (hb'.mono hb.size), upd xs i v, rfl, fun j hj hlj => ?_⟩⟩
        by_cases e' : j = i
        · subst e'; simp only [upd, if_true]; exact hv
        · simp only [upd, if_neg e']
          rw [Array.getElem?_setIfInBounds_ne (fun h => e' h.symm)] at hlj
          exact hR j w w' _ (hx j hj hlj) hb'
    · exfalso
      by_cases e : i = n
      · subst e; rw [hli] at hln; cases hln
      · rw [hall i (by omega)] at hli; cases hli
  · rintro l a w ⟨hl, hc⟩ hr
    rcases hc with ⟨hln, hb, xs, rfl, hx⟩ | ⟨_, hQ, _⟩
    · exfalso
      have hall : ∀ m i, i < m → i < ops.size → l[i]? = some true := by
        intro m
        induction m with
        | zero => intro i h; omega
        | succ m ih =>
          intro i hi his
          by_cases e : i < m
          · exact ih i e his
          · have hie : i = m := by omega
            subst hie
            cases h : l[i]? with
            | none => rw [Array.getElem?_eq_none_iff] at h; omega
            | some b =>
              cases b
              · exfalso
                have : i ∈ Region.ready md ops l := by
                  simp only [Region.ready, List.mem_filter, List.mem_range, Bool.and_eq_true, Bool.not_eq_true']
                  refine ⟨his, by rw [Array.getD_eq_getD_getElem?, h]; rfl, ?_⟩
                  rw [Array.getElem?_eq_getElem his]
                  simp only [Option.map_some, Option.getD_some, Array.all_eq_true_iff_forall_mem]
                  intro e he
                  cases hbe : Region.binds md e
                  · rfl
                  · have hd : depB md ops i e.on = true := by
                      unfold depB
                      rw [Array.getElem?_eq_getElem his]
                      simp only [List.any_eq_true, Bool.and_eq_true, beq_iff_eq]
                      exact ⟨e, by simpa using he, rfl, hbe⟩
                    have hlt := hops i his e.on hd
                    rw [Array.getD_eq_getD_getElem?, ih e.on hlt (by omega)]
                    simp
                rw [hr] at this; cases this
              · rfl
      rw [hall (n + 1) n (by omega) (by omega)] at hln; cases hln
    · exact hQ
theorem wp_region_last (frame : (Nat → Value) → Act) (w0 : World) (R : Nat → World → Value → Prop) (n : Nat) {id : Nat} {a : Act} {w : World} (hm : P.follows .mixedOrders = true) (hn : ops.size = n + 1)
    (hR : ∀ i w w' v, R i w v → Below w.heap.size w w' → R i w' v)
    (hops : ops.toList.zipIdx.all (fun p => p.1.after.all fun e => decide (e.on < p.2)) = true) (hlast : (List.range n).all (fun j => depB .any ops n j) = true)
    (xs0 : Nat → Value) (ha : a = frame xs0) (hw : Below w0.heap.size w0 w)
    (step : ∀ i xs w, i < n → Below w0.heap.size w0 w → (∀ j, depB .any ops i j = true → R j w (xs j)) → wpOp P ops Q i (Yields frame R xs i w) (frame xs) w)
    (last : ∀ xs w, Below w0.heap.size w0 w → (∀ i, i < n → R i w (xs i)) → wpOp P ops Q n (fun a' w' => Q .normal a' w') (frame xs) w) : (Code.region id ops true).wp P Q a w := by
  subst ha
  refine wp_region_any hm (wpAny_last frame w0 R n hn hR step last ?_ ?_ xs0 _ ?_)
  · intro i hi j hj
    unfold depB at hj
    rw [Array.getElem?_eq_getElem hi] at hj
    simp only [List.any_eq_true, Bool.and_eq_true, beq_iff_eq] at hj
    obtain ⟨e, he, rfl, _⟩ := hj
    rw [List.all_eq_true] at hops
    have h := hops (ops[i], i) (by
      rw [List.mem_zipIdx_iff_getElem?]
      simp)
    rw [Array.all_eq_true_iff_forall_mem] at h
    simpa using h e (by simpa using he)
  · intro j hj
    rw [List.all_eq_true] at hlast
    exact hlast j (by simpa using hj)
  · exact ⟨hw.os, hw.tape, hw.output, hw.size, hw.block⟩
end
end Go.Proofs.YtmiccalfamepdaaGreatDoor

/-
  What trim, limb, longer, Same and Cmp compute, for all limbs.
-/
namespace Go.Proofs.YtmiccalfamepdaaGreatDoor
open Go.RowKit
set_option maxHeartbeats 400000
set_option maxRecDepth 100000
set_option linter.unusedVariables false

/-- Limbs as values. -/
def U (l : List Nat) : List Value := l.map fun n : Nat => Value.int .u32 (n : Int)
theorem U_get {l : List Nat} {i : Nat} (h : i < l.length) : (U l)[i]'(by simpa [U] using h) = .int .u32 ((l[i] : Nat) : Int) := by simp [U]
theorem U_len (l : List Nat) : (U l).length = l.length := by simp [U]
theorem Lies.limb {w : World} {B : Nat} {A : Option Addr} {l : List Nat} (h : Lies w B A (U l)) {k : Nat} (hk : k < l.length) :
    ∃ b off, A = some ⟨b, off, none⟩ ∧ b < B ∧ w.cell? ⟨b, off + k, none⟩ = some (.int .u32 ((l[k] : Nat) : Int)) := by
  obtain ⟨b, off, hA, hb, hc⟩ := h.at_ (k := k) (by rw [U_len]; exact hk)
  rw [U_get hk] at hc
  exact ⟨b, off, hA, hb, hc⟩

theorem trim_any (A : Option Addr) (c B : Nat) (l : List Nat) (w : World) (hl : Lies w B A (U l)) (ho : Nt.Ok l) (hc : l.length ≤ c) (hm : c ≤ 9223372036854775807) :
    Calls Tryz.prog 147 #[.slice A l.length c] w fun e w' => e = .returned (.slice A (Nt.digs (Nt.val l)).length (Nt.digs (Nt.val l)).length) ∧ w = w' := by
  have HL := Lib.hid hl
  have HO := Lib.hid ho
  clear hl ho
  go_enter Tryz.func147, Tryz.ntmps147
  go_wp2_with fail
  go_loop [3] (fun i => ∃ n : Nat, n ≤ l.length ∧ i = .int .i64 (n : Int) ∧ Hid (∀ j (hj : j < l.length), n ≤ j → l[j] = 0)) (fun i => (intOf i).toNat)
  case atStart => exact ⟨l.length, Nat.le_refl _, rfl, Lib.hid (fun j hj h => absurd hj (by omega))⟩
  case round =>
    obtain ⟨n, hn, rfl, H⟩ := hrel
    by_cases h0 : 0 < n
    · obtain ⟨b, off, rfl, _, hcell⟩ := HL.out.limb (k := n - 1) (by omega)
      generalize hx : l[n - 1]'(by omega) = x at hcell
      have HX := Lib.hid hx
      have hxb : x < 4294967296 := by rw [← hx]; exact Nt.ok_get HO.out (by omega)
      clear hx
      have hpos : (0 : Int) < (n : Int) := by omega
      by_cases hz : x = 0
      · subst hz
        go_wp2_with fail
        go_round
        case rel =>
          refine ⟨n - 1, by omega, by go_num, Lib.hid (fun j hj h => ?_)⟩
          by_cases e : j = n - 1
          · subst e; exact HX.out
          · exact H.out j hj (by omega)
        case measure => simp [intOf]; omega
      · have hne : ((x : Int) == 0) = false := by simp; omega
        have HE : Hid ((Nt.digs (Nt.val l)).length = n) := by
          have := Nt.take_eq_digs HO.out hn H.out (fun _ => by rw [HX.out]; exact hz)
          rw [← this, List.length_take]
          exact Nat.min_eq_left hn
        clear hz
        go_wp2_with fail
        go_ret
        exact ⟨by rw [HE.out]; rfl, rfl⟩
    · obtain rfl : n = 0 := by omega
      have HE : Hid ((Nt.digs (Nt.val l)).length = 0) := Lib.hid (by
        have := Nt.take_eq_digs HO.out hn H.out (fun h => absurd h (by omega))
        rw [← this]; simp)
      go_wp2_with fail
      go_ret
      exact ⟨by rw [HE.out]; rfl, rfl⟩

theorem limb_any (A : Option Addr) (c B : Nat) (l : List Nat) (i : Nat) (w : World) (hl : Lies w B A (U l)) (hc : l.length ≤ c) (hm : c ≤ 9223372036854775807) (hi : i ≤ 9223372036854775807) (ho : Nt.Ok l) :
    Calls Tryz.prog 203 #[.slice A l.length c, .int .i64 (i : Int)] w fun e w' => e = .returned (.int .u64 ((l.getD i 0 : Nat) : Int)) ∧ w = w' := by
  by_cases hlt : i < l.length
  · obtain ⟨b, off, rfl, _, hcell⟩ := hl.limb hlt
    have HG : Hid (l.getD i 0 = l[i]) := Lib.hid (by simp [List.getD_eq_getElem?_getD, hlt])
    have hb := Nt.ok_get ho hlt
    clear hl ho
    generalize l[i] = x at hcell HG hb
    go_enter Tryz.func203, Tryz.ntmps203
    go_wp2_with fail
    go_ret
    exact ⟨ret_int (by rw [HG.out]), rfl⟩
  · have HG : Hid (l.getD i 0 = 0) := Lib.hid (by rw [List.getD_eq_getElem?_getD, List.getElem?_eq_none (by omega)]; rfl)
    clear hl ho
    go_enter Tryz.func203, Tryz.ntmps203
    go_wp2_with fail
    go_ret
    exact ⟨ret_int (by rw [HG.out]; rfl), rfl⟩

theorem longer_any (A A' : Option Addr) (n n' c c' : Nat) (w : World) (hc : n ≤ 9223372036854775807) (hc' : n' ≤ 9223372036854775807) :
    Calls Tryz.prog 205 #[.slice A n c, .slice A' n' c'] w fun e w' => e = .returned (.int .i64 ((max n n' : Nat) : Int)) ∧ w = w' := by
  by_cases h : n' < n
  · have HG : Hid (max n n' = n) := Lib.hid (by omega)
    go_enter Tryz.func205, Tryz.ntmps205
    go_wp2_with fail
    go_ret
    exact ⟨ret_int (by rw [HG.out]), rfl⟩
  · have HG : Hid (max n n' = n') := Lib.hid (by omega)
    go_enter Tryz.func205, Tryz.ntmps205
    go_wp2_with fail
    go_ret
    exact ⟨ret_int (by rw [HG.out]), rfl⟩

theorem same_any (A A' : Option Addr) (c c' B B' : Nat) (xs ys : List Nat) (w : World) (hx : Lies w B A (U xs)) (hy : Lies w B' A' (U ys))
    (hn : xs.length ≤ 9223372036854775807) (hm : ys.length ≤ 9223372036854775807) :
    Calls Tryz.prog 113 #[.slice A xs.length c, .slice A' ys.length c'] w fun e w' => e = .returned (.bool (xs == ys)) ∧ ∃ n, w' = w.drewN n := by
  have HX := Lib.hid hx
  have HY := Lib.hid hy
  clear hx hy
  by_cases hlen : xs.length = ys.length
  · have hb : (((xs.length : Nat) : Int) != ((ys.length : Nat) : Int)) = false := by simp [hlen]
    have HE := Lib.hid hlen
    have hle : xs.length ≤ ys.length := by omega
    clear hlen
    go_enter Tryz.func113, Tryz.ntmps113
    go_wp2_with fail
    go_loopw [5] (fun i wr => ∃ k m : Nat, wr = w.drewN m ∧ k ≤ xs.length ∧ i = .int .i64 k ∧ Hid (xs.take k = ys.take k)) (fun i _ => xs.length - (intOf i).toNat)
    case atStart => exact ⟨0, 0, rfl, Nat.zero_le _, rfl, Lib.hid (by simp)⟩
    case round =>
      obtain ⟨k, m, rfl, hk, rfl, H⟩ := hrel
      by_cases hlt : k < xs.length
      · obtain ⟨b, off, rfl, _, hc⟩ := HX.out.limb hlt
        have hlt' : k < ys.length := by omega
        obtain ⟨b', off', rfl, _, hc'⟩ := HY.out.limb hlt'
        have HS : Hid (xs[k] = ys[k] → xs.take (k + 1) = ys.take (k + 1)) := fun e => by
          rw [List.take_succ_eq_append_getElem hlt, List.take_succ_eq_append_getElem hlt', H.out, e]
        have HN : Hid (xs[k] ≠ ys[k] → (xs == ys) = false) := fun e => by
          rw [beq_eq_false_iff_ne]; rintro rfl; exact e rfl
        generalize xs[k] = x at hc HS HN
        generalize ys[k] = y at hc' HS HN
        cases hxy : ((x : Int) != (y : Int))
        · have HE2 : Hid (x = y) := Lib.hid (by have h := bne_eq_false_iff_eq.1 hxy; omega)
          go_wp2_with fail
          go_quiet (fail)
          go_wp2_with fail
          go_roundw
          case rel => exact ⟨k + 1, _, rfl, by omega, by go_num, Lib.hid (HS.out HE2.out)⟩
          case measure => simp [intOf]; omega
        · have HE2 : Hid (x ≠ y) := Lib.hid (by have h := bne_iff_ne.1 hxy; omega)
          go_wp2_with fail
          go_quiet (fail)
          go_wp2_with fail
          go_ret
          exact ⟨ret_bool (HN.out HE2.out).symm, _, World.drewN_drewN _ _ _⟩
      · go_wp2_with fail
        go_ret
        refine ⟨ret_bool ?_, _, rfl⟩
        have h := H.out
        rw [List.take_of_length_le (by omega), List.take_of_length_le (by have := HE.out; omega)] at h
        rw [h]; simp
  · go_enter Tryz.func113, Tryz.ntmps113
    go_wp2_with fail
    go_ret
    refine ⟨ret_bool ?_, 0, rfl⟩
    symm
    rw [beq_eq_false_iff_ne]; rintro rfl; exact hlen rfl
end Go.Proofs.YtmiccalfamepdaaGreatDoor

/-
  What nat.Cmp and scrimref02.Cmp compute: which of two numbers is greater.
-/
namespace Go.Proofs.YtmiccalfamepdaaGreatDoor
open Go.RowKit
set_option maxHeartbeats 1000000
set_option maxRecDepth 100000
set_option linter.unusedVariables false

theorem quiet_three (w : World) (a b c : Nat) : ∃ n, ((w.drewN a).drewN b).drewN c = w.drewN n := ⟨a + b + c, by rw [World.drewN_drewN, World.drewN_drewN, Nat.add_assoc]⟩

theorem cmp_any (A A' : Option Addr) (c c' B : Nat) (a b : List Nat) (w : World) (hx : Lies w B A (U a)) (hy : Lies w B A' (U b)) (ha : Nt.Ok a) (hb : Nt.Ok b)
    (hc : a.length ≤ c) (hc' : b.length ≤ c') (hm : c ≤ 9223372036854775807) (hm' : c' ≤ 9223372036854775807) :
    Calls Tryz.prog 201 #[.slice A a.length c, .slice A' b.length c'] w fun e w' => e = .returned (.int .i64 (Nt.cmp (Nt.val a) (Nt.val b))) ∧ ∃ n, w' = w.drewN n := by
  have ha' := Nt.digs_len_le ha
  have hb' := Nt.digs_len_le hb
  have HTA : Hid (a.take (Nt.digs (Nt.val a)).length = Nt.digs (Nt.val a)) := Lib.hid (Nt.take_digs ha)
  have HTB : Hid (b.take (Nt.digs (Nt.val b)).length = Nt.digs (Nt.val b)) := Lib.hid (Nt.take_digs hb)
  have HX : Hid (Lies w B A (U (Nt.digs (Nt.val a)))) := by
    have := hx.take (Nt.digs (Nt.val a)).length
    rw [show (U a).take (Nt.digs (Nt.val a)).length = U (a.take (Nt.digs (Nt.val a)).length) from List.map_take.symm, HTA.out] at this
    exact this
  have HY : Hid (Lies w B A' (U (Nt.digs (Nt.val b)))) := by
    have := hy.take (Nt.digs (Nt.val b)).length
    rw [show (U b).take (Nt.digs (Nt.val b)).length = U (b.take (Nt.digs (Nt.val b)).length) from List.map_take.symm, HTB.out] at this
    exact this
  have hta := trim_any A c B a w hx ha hc hm
  have htb := trim_any A' c' B b w hy hb hc' hm'
  have TA := Lib.hid hta
  have TB := Lib.hid htb
  have HVA := Lib.hid (Nt.val_digs (Nt.val a))
  have HVB := Lib.hid (Nt.val_digs (Nt.val b))
  have HOA := Lib.hid (Nt.ok_digs (Nt.val a))
  have HOB := Lib.hid (Nt.ok_digs (Nt.val b))
  have HLT := Lib.hid (fun h => Nt.digs_len_mono (x := Nt.val a) (y := Nt.val b) h)
  have HGT := Lib.hid (fun h => Nt.digs_len_mono (x := Nt.val b) (y := Nt.val a) h)
  clear hx hy hta htb HTA HTB
  generalize Nt.val a = x at *
  generalize Nt.val b = y at *
  generalize Nt.digs x = da at *
  generalize Nt.digs y = db at *
  by_cases h1 : da.length < db.length
  · have HE := Lib.hid (Nt.cmp_lt (HLT.out h1))
    go_enter Tryz.func201, Tryz.ntmps201
    go_wp2_with fail
    refine TA.out.mono ?_
    rintro e w' ⟨rfl, rfl⟩
    go_wp2_with fail
    refine TB.out.mono ?_
    rintro e w' ⟨rfl, rfl⟩
    go_wp2_with fail
    go_ret
    exact ⟨by rw [HE.out]; rfl, 0, rfl⟩
  · by_cases h2 : db.length < da.length
    · have HE := Lib.hid (Nt.cmp_gt (HGT.out h2))
      go_enter Tryz.func201, Tryz.ntmps201
      go_wp2_with fail
      refine TA.out.mono ?_
      rintro e w' ⟨rfl, rfl⟩
      go_wp2_with fail
      refine TB.out.mono ?_
      rintro e w' ⟨rfl, rfl⟩
      go_wp2_with fail
      go_ret
      exact ⟨by rw [HE.out]; rfl, 0, rfl⟩
    · have hlen : da.length ≤ db.length := by omega
      have hlen' : db.length ≤ da.length := by omega
      go_enter Tryz.func201, Tryz.ntmps201
      go_wp2_with fail
      refine TA.out.mono ?_
      rintro e w' ⟨rfl, rfl⟩
      go_wp2_with fail
      refine TB.out.mono ?_
      rintro e w' ⟨rfl, rfl⟩
      go_wp2_with fail
      go_loopw [5] (fun i wr => ∃ k m : Nat, wr = w.drewN m ∧ k ≤ da.length ∧ i = .int .i64 ((k : Int) - 1) ∧ Hid (da.drop k = db.drop k)) (fun i _ => (intOf i + 1).toNat)
      case atStart => exact ⟨da.length, 0, rfl, Nat.le_refl _, by go_num, Lib.hid (by rw [List.drop_length, List.drop_eq_nil_of_le hlen'])⟩
      case round =>
        obtain ⟨k, m, rfl, hk, rfl, H⟩ := hrel
        rcases k with _ | k
        · have HE : Hid (Nt.cmp x y = 0) := Lib.hid (by
            have h := H.out
            rw [List.drop_zero, List.drop_zero] at h
            rw [← HVA.out, ← HVB.out, h]; exact Nt.cmp_eq _)
          go_wp2_with fail
          go_ret
          exact ⟨by rw [HE.out]; rfl, _, rfl⟩
        · have hlt : k < da.length := by omega
          have hlt' : k < db.length := by omega
          obtain ⟨b1, off1, rfl, _, hc1⟩ := HX.out.limb hlt
          obtain ⟨b2, off2, rfl, _, hc2⟩ := HY.out.limb hlt'
          have P1 : Hid (da[k] < db[k] → Nt.cmp x y = -1) := Lib.hid (fun h => by
            have := Nt.val_lt_of HOA.out hlt hlt' H.out h
            rw [HVA.out, HVB.out] at this
            exact Nt.cmp_lt this)
          have P2 : Hid (db[k] < da[k] → Nt.cmp x y = 1) := Lib.hid (fun h => by
            have := Nt.val_lt_of HOB.out hlt' hlt H.out.symm h
            rw [HVA.out, HVB.out] at this
            exact Nt.cmp_gt this)
          have P3 : Hid (da[k] = db[k] → da.drop k = db.drop k) := Lib.hid (fun h => by
            rw [List.drop_eq_getElem_cons hlt, List.drop_eq_getElem_cons hlt', H.out, h])
          generalize da[k] = d1 at hc1 P1 P2 P3
          generalize db[k] = d2 at hc2 P1 P2 P3
          have hk1 : ((k + 1 : Nat) : Int) - 1 = (k : Int) := by omega
          rw [hk1]
          clear hk1
          rcases Nat.lt_trichotomy d1 d2 with h | h | h
          · have HE := Lib.hid (P1.out h)
            go_wp2_with fail
            go_quiet (fail)
            go_wp2_with fail
            go_ret
            exact ⟨by rw [HE.out]; rfl, _, World.drewN_drewN _ _ _⟩
          · have HE := Lib.hid (P3.out h)
            subst h
            go_wp2_with fail
            go_quiet (fail)
            go_wp2_with fail
            go_quiet (fail)
            go_wp2_with fail
            go_roundw
            case rel => exact ⟨k, _, rfl, by omega, by go_num, Lib.hid HE.out⟩
            case measure => first | (simp [intOf]; done) | (simp [intOf]; omega)
          · have HE := Lib.hid (P2.out h)
            go_wp2_with fail
            go_quiet (fail)
            go_wp2_with fail
            go_quiet (fail)
            go_wp2_with fail
            go_ret
            exact ⟨by rw [HE.out]; rfl, quiet_three _ _ _ _⟩

theorem refCmp_any (A A' : Option Addr) (c c' B : Nat) (a b : List Nat) (w : World) (hx : Lies w B A (U a)) (hy : Lies w B A' (U b)) (ha : Nt.Ok a) (hb : Nt.Ok b)
    (hc : a.length ≤ c) (hc' : b.length ≤ c') (hm : c ≤ 9223372036854775807) (hm' : c' ≤ 9223372036854775807) :
    Calls Tryz.prog 204 #[.slice A a.length c, .slice A' b.length c'] w fun e w' => e = .returned (.int .i64 (Nt.cmp (Nt.val a) (Nt.val b))) ∧ w = w' := by
  obtain ⟨n, hn⟩ : ∃ n, n = max a.length b.length := ⟨_, rfl⟩
  have hna : a.length ≤ n := by omega
  have hnb : b.length ≤ n := by omega
  have hnm : n ≤ 9223372036854775807 := by omega
  have HN := Lib.hid hn
  have LA := Lib.hid (fun i hi => limb_any A c B a i w hx hc hm hi ha)
  have LB := Lib.hid (fun i hi => limb_any A' c' B b i w hy hc' hm' hi hb)
  have PA := Lib.hid (Nt.pad_len hna)
  have PB := Lib.hid (Nt.pad_len hnb)
  have GA := Lib.hid (fun i (hi : i < (Nt.pad a n).length) => Nt.pad_get hi)
  have GB := Lib.hid (fun i (hi : i < (Nt.pad b n).length) => Nt.pad_get hi)
  have HVA := Lib.hid (Nt.val_pad a n)
  have HVB := Lib.hid (Nt.val_pad b n)
  have HOA := Lib.hid (Nt.ok_pad ha n)
  have HOB := Lib.hid (Nt.ok_pad hb n)
  clear hx hy ha hb hn
  generalize Nt.val a = x at *
  generalize Nt.val b = y at *
  generalize Nt.pad a n = da at *
  generalize Nt.pad b n = db at *
  go_enter Tryz.func204, Tryz.ntmps204
  go_wp2_with fail
  refine (longer_any A A' a.length b.length c c' _ (by omega) (by omega)).mono ?_
  rintro e w' ⟨rfl, rfl⟩
  rw [← HN.out]
  go_wp2_with fail
  go_loop [5] (fun i => ∃ k : Nat, k ≤ n ∧ i = .int .i64 ((k : Int) - 1) ∧ Hid (da.drop k = db.drop k)) (fun i => (intOf i + 1).toNat)
  case atStart => exact ⟨n, Nat.le_refl _, by go_num, Lib.hid (by rw [List.drop_eq_nil_of_le (by rw [PA.out]; omega), List.drop_eq_nil_of_le (by rw [PB.out]; omega)])⟩
  case round =>
    obtain ⟨k, hk, rfl, H⟩ := hrel
    rcases k with _ | k
    · have HE : Hid (Nt.cmp x y = 0) := Lib.hid (by
        have h := H.out
        rw [List.drop_zero, List.drop_zero] at h
        rw [← HVA.out, ← HVB.out, h]; exact Nt.cmp_eq _)
      go_wp2_with fail
      go_ret
      exact ⟨by rw [HE.out]; rfl, rfl⟩
    · have hlt : k < da.length := by rw [PA.out]; omega
      have hlt' : k < db.length := by rw [PB.out]; omega
      have P1 : Hid (a.getD k 0 < b.getD k 0 → Nt.cmp x y = -1) := Lib.hid (fun h => by
        rw [← GA.out k hlt, ← GB.out k hlt'] at h
        have := Nt.val_lt_of HOA.out hlt hlt' H.out h
        rw [HVA.out, HVB.out] at this
        exact Nt.cmp_lt this)
      have P2 : Hid (b.getD k 0 < a.getD k 0 → Nt.cmp x y = 1) := Lib.hid (fun h => by
        rw [← GA.out k hlt, ← GB.out k hlt'] at h
        have := Nt.val_lt_of HOB.out hlt' hlt H.out.symm h
        rw [HVA.out, HVB.out] at this
        exact Nt.cmp_gt this)
      have P3 : Hid (a.getD k 0 = b.getD k 0 → da.drop k = db.drop k) := Lib.hid (fun h => by
        rw [← GA.out k hlt, ← GB.out k hlt'] at h
        rw [List.drop_eq_getElem_cons hlt, List.drop_eq_getElem_cons hlt', H.out, h])
      have CA := Lib.hid (LA.out k (by omega))
      have CB := Lib.hid (LB.out k (by omega))
      clear hlt hlt'
      generalize a.getD k 0 = d1 at P1 P2 P3 CA
      generalize b.getD k 0 = d2 at P1 P2 P3 CB
      have hk1 : ((k + 1 : Nat) : Int) - 1 = (k : Int) := by omega
      rw [hk1]
      clear hk1
      rcases Nat.lt_trichotomy d1 d2 with h | h | h
      · have HE := Lib.hid (P1.out h)
        go_wp2_with fail
        refine CA.out.mono ?_
        rintro e w' ⟨rfl, rfl⟩
        go_wp2_with fail
        refine CB.out.mono ?_
        rintro e w' ⟨rfl, rfl⟩
        go_wp2_with fail
        go_ret
        exact ⟨by rw [HE.out]; rfl, rfl⟩
      · have HE := Lib.hid (P3.out h)
        subst h
        go_wp2_with fail
        refine CA.out.mono ?_
        rintro e w' ⟨rfl, rfl⟩
        go_wp2_with fail
        refine CB.out.mono ?_
        rintro e w' ⟨rfl, rfl⟩
        go_wp2_with fail
        refine CA.out.mono ?_
        rintro e w' ⟨rfl, rfl⟩
        go_wp2_with fail
        refine CB.out.mono ?_
        rintro e w' ⟨rfl, rfl⟩
        go_wp2_with fail
        go_round
        case rel => exact ⟨k, by omega, by go_num, Lib.hid HE.out⟩
        case measure => first | (simp [intOf]; done) | (simp [intOf]; omega)
      · have HE := Lib.hid (P2.out h)
        go_wp2_with fail
        refine CA.out.mono ?_
        rintro e w' ⟨rfl, rfl⟩
        go_wp2_with fail
        refine CB.out.mono ?_
        rintro e w' ⟨rfl, rfl⟩
        go_wp2_with fail
        refine CA.out.mono ?_
        rintro e w' ⟨rfl, rfl⟩
        go_wp2_with fail
        refine CB.out.mono ?_
        rintro e w' ⟨rfl, rfl⟩
        go_wp2_with fail
        go_ret
        exact ⟨by rw [HE.out]; rfl, rfl⟩
end Go.Proofs.YtmiccalfamepdaaGreatDoor
