/-
  A label's text read again, in plain words: by commas (label.Parse) and from place to place (scrimref01.Parse).
-/
import Derived.Test.YtfiobbhicicchaaDoorTextMath
import Derived.Lib.Bytealg
set_option linter.unusedVariables false
namespace Lab
open Go
/-! ### Cutting at a byte -/
def cutAt (c : UInt8) : List UInt8 → List UInt8 × List UInt8 × Bool
  | [] => ([], [], false)
  | b :: l => if b = c then ([], l, true) else (b :: (cutAt c l).1, (cutAt c l).2.1, (cutAt c l).2.2)
theorem cutAt_none {c : UInt8} : ∀ {p : List UInt8}, c ∉ p → cutAt c p = (p, [], false)
  | [], _ => rfl
  | b :: l, h => by
    have h1 : b ≠ c := fun e => h (by rw [e]; exact List.mem_cons_self)
    rw [cutAt, if_neg h1, cutAt_none (fun hm => h (List.mem_cons_of_mem _ hm))]
theorem cutAt_some {c : UInt8} : ∀ {p r : List UInt8}, c ∉ p → cutAt c (p ++ c :: r) = (p, r, true)
  | [], r, _ => by rw [List.nil_append, cutAt, if_pos rfl]
  | b :: l, r, h => by
    have h1 : b ≠ c := fun e => h (by rw [e]; exact List.mem_cons_self)
    rw [List.cons_append, cutAt, if_neg h1, cutAt_some (fun hm => h (List.mem_cons_of_mem _ hm))]
theorem cutAt_len (c : UInt8) : ∀ s : List UInt8, (cutAt c s).1.length ≤ s.length ∧ (cutAt c s).2.1.length ≤ s.length ∧ (s ≠ [] → (cutAt c s).2.1.length < s.length)
  | [] => by simp [cutAt]
  | b :: l => by
    have ih := cutAt_len c l
    unfold cutAt
    split
    · simp
    · refine ⟨by simp; exact ih.1, by simp; omega, fun _ => ?_⟩
      simp
      omega
theorem index_cut (c : UInt8) : ∀ s : List UInt8, (Lib.indexByte s c = -1 ∧ cutAt c s = (s, [], false)) ∨ (∃ n : Nat, Lib.indexByte s c = (n : Int) ∧ n < s.length ∧ cutAt c s = (s.take n, s.drop (n + 1), true))
  | [] => .inl ⟨rfl, rfl⟩
  | b :: l => by
    by_cases e : b = c
    · refine .inr ⟨0, ?_, by simp, ?_⟩
      · simp [Lib.indexByte, e]
      · simp [cutAt, e]
    · have hb : (b == c) = false := by simpa using e
      rcases index_cut c l with ⟨h1, h2⟩ | ⟨n, h1, h2, h3⟩
      · refine .inl ⟨by simp [Lib.indexByte, hb, h1], by rw [cutAt, if_neg e, h2]⟩
      · refine .inr ⟨n + 1, ?_, by simp; omega, by rw [cutAt, if_neg e, h3]; simp⟩
        have : ((n : Int) == -1) = false := by rw [beq_eq_false_iff_ne]; omega
        simp [Lib.indexByte, hb, h1, this]

/-! ### One tag; a run -/
def digit (b : UInt8) : Bool := decide (48 ≤ b.toNat) && decide (b.toNat ≤ 57)
def numOf (s : List UInt8) : Nat := s.foldl (fun n b => 10 * n + (b.toNat - 48)) 0
def tagP (s : List UInt8) : Option Nat := if s = [] ∨ 2 < s.length ∨ s.all digit = false then none else if numOf s < 64 then some (numOf s) else none
def bitsTo (a : Nat) : Nat → Nat
  | 0 => 0
  | n + 1 => bitsTo a n ||| 2 ^ (a + n)
/-- The label of all tags from a to b. -/
def bitsFrom (a b : Nat) : Nat := bitsTo a (b + 1 - a)
theorem bitsTo_bit (a n i : Nat) : (bitsTo a n).testBit i = (decide (a ≤ i) && decide (i < a + n)) := by
  induction n with
  | zero =>
    rw [bitsTo, Nat.zero_testBit]
    by_cases h : a ≤ i <;> simp [h]
  | succ n ih =>
    rw [bitsTo, Nat.testBit_or, ih, Nat.testBit_two_pow]
    by_cases h1 : a ≤ i <;> by_cases h2 : i < a + n <;> by_cases h3 : a + n = i <;> simp [h1, h2, h3] <;> omega
theorem bitsFrom_bit (a b i : Nat) : (bitsFrom a b).testBit i = (decide (a ≤ i) && decide (i ≤ b)) := by
  rw [bitsFrom, bitsTo_bit]
  by_cases h1 : a ≤ i <;> by_cases h2 : i ≤ b <;> simp [h1, h2] <;> omega
theorem bitsTo_lt {a n : Nat} (h : a + n ≤ 64) : bitsTo a n < 18446744073709551616 := by
  refine Nat.lt_pow_two_of_testBit (n := 64) _ fun i hi => ?_
  rw [bitsTo_bit]
  simp; omega
theorem bitsFrom_lt {a b : Nat} (h : b < 64) (ha : a < 64) : bitsFrom a b < 18446744073709551616 := bitsTo_lt (by omega)
def runP (s : List UInt8) : Option Nat :=
  match tagP (cutAt 45 s).1 with
  | none => none
  | some a => if (cutAt 45 s).2.2 then (match tagP (cutAt 45 s).2.1 with | none => none | some b => some (bitsFrom a b)) else some (bitsFrom a a)
theorem tagP_lt {s : List UInt8} {n : Nat} (h : tagP s = some n) : n < 64 := by
  unfold tagP at h
  split at h
  · cases h
  · split at h
    · injection h with h; omega
    · cases h
theorem runP_lt {s : List UInt8} {n : Nat} (h : runP s = some n) : n < 18446744073709551616 := by
  unfold runP at h
  split at h
  · cases h
  · rename_i a ha
    have := tagP_lt ha
    split at h
    · split at h
      · cases h
      · rename_i b hb
        have := tagP_lt hb
        injection h with h
        rw [← h]
        exact bitsFrom_lt (by omega) (by omega)
    · injection h with h
      rw [← h]
      exact bitsFrom_lt (by omega) (by omega)
/-! ### All parts -/
def innerP : Nat → List UInt8 → Nat → Option Nat
  | 0, s, acc => if s = [] then some acc else none
  | f + 1, s, acc => if s = [] then some acc else match runP (cutAt 44 s).1 with | none => none | some l => innerP f (cutAt 44 s).2.1 (join acc l)
theorem innerP_lt : ∀ (f : Nat) (s : List UInt8) (acc n : Nat), acc < 18446744073709551616 → innerP f s acc = some n → n < 18446744073709551616
  | 0, s, acc, n, ha, h => by
    unfold innerP at h
    split at h
    · injection h with h; omega
    · cases h
  | f + 1, s, acc, n, ha, h => by
    unfold innerP at h
    split at h
    · injection h with h; omega
    · split at h
      · cases h
      · rename_i l hl
        exact innerP_lt f _ _ n (join_lt ha (runP_lt hl)) h

/-! ### Decimal digits of a tag -/
theorem digit_of {d : Nat} (h : d < 10) : (UInt8.ofNat (48 + d)).toNat = 48 + d := by
  rw [UInt8.toNat_ofNat']; exact Nat.mod_eq_of_lt (by omega)
theorem dec_digits {n : Nat} (h : n < 64) : (Lib.decDigits n).all digit = true ∧ numOf (Lib.decDigits n) = n := by
  by_cases h10 : n < 10
  · rw [Lib.decDigits_one h10]
    have e := digit_of h10
    constructor
    · rw [List.all_cons, List.all_nil, digit, e]; simp; omega
    · show 10 * 0 + ((UInt8.ofNat (48 + n)).toNat - 48) = n
      rw [e]; omega
  · rw [Lib.decDigits_two h10 (by omega)]
    have e1 := digit_of (show n / 10 < 10 by omega)
    have e2 := digit_of (show n % 10 < 10 by omega)
    constructor
    · rw [List.all_cons, List.all_cons, List.all_nil, digit, digit, e1, e2]; simp; omega
    · show 10 * (10 * 0 + ((UInt8.ofNat (48 + n / 10)).toNat - 48)) + ((UInt8.ofNat (48 + n % 10)).toNat - 48) = n
      rw [e1, e2]; omega
theorem dec_mem {n : Nat} (h : n < 64) : ∀ b ∈ Lib.decDigits n, digit b = true := List.all_eq_true.1 (dec_digits h).1
theorem tagP_dec {n : Nat} (h : n < 64) : tagP (Lib.decDigits n) = some n := by
  have h1 := dec_len h
  have h2 := dec_digits h
  unfold tagP
  rw [if_neg, h2.2, if_pos h]
  rintro (e | e | e)
  · rw [e] at h1; simp at h1
  · omega
  · rw [h2.1] at e; cases e
theorem no_byte {n : Nat} (h : n < 64) {c : UInt8} (hc : digit c = false) : c ∉ Lib.decDigits n := fun hm => by rw [dec_mem h c hm] at hc; cases hc
theorem piece_run {r : Nat × Nat} (h1 : r.1 ≤ r.2) (h2 : r.2 < 64) : ∀ p ∈ piece r, (44 : UInt8) ∉ p ∧ p ≠ [] ∧ (runP p).isSome = true := by
  intro p hp
  have k1 : r.1 < 64 := by omega
  have d1 : digit 44 = false := by decide
  have d2 : digit 45 = false := by decide
  have one : ∀ {n : Nat}, n < 64 → (44 : UInt8) ∉ Lib.decDigits n ∧ Lib.decDigits n ≠ [] ∧ (runP (Lib.decDigits n)).isSome = true := fun {n} hn => by
    refine ⟨no_byte hn d1, fun e => ?_, ?_⟩
    · have := dec_len hn; rw [e] at this; simp at this
    · unfold runP; rw [cutAt_none (no_byte hn d2)]; simp [tagP_dec hn]
  unfold piece at hp
  split at hp
  · simp at hp; subst hp; exact one k1
  · split at hp
    · simp at hp
      rcases hp with rfl | rfl
      · exact one k1
      · exact one h2
    · simp at hp
      subst hp
      refine ⟨?_, by simp, ?_⟩
      · intro hm
        rcases List.mem_append.1 hm with hm | hm
        · exact no_byte k1 d1 hm
        · rcases List.mem_cons.1 hm with hm | hm
          · cases hm
          · exact no_byte h2 d1 hm
      · unfold runP; rw [cutAt_some (no_byte k1 d2)]; simp [tagP_dec k1, tagP_dec h2]
/-- What a part is worth. -/
def worth (p : List UInt8) : Nat := (runP p).getD 0
theorem runP_dec {n : Nat} (h : n < 64) : runP (Lib.decDigits n) = some (bitsFrom n n) := by
  unfold runP; rw [cutAt_none (no_byte h (by decide))]; simp [tagP_dec h]
theorem runP_two {a b : Nat} (ha : a < 64) (hb : b < 64) : runP (Lib.decDigits a ++ 45 :: Lib.decDigits b) = some (bitsFrom a b) := by
  unfold runP; rw [cutAt_some (no_byte ha (by decide))]; simp [tagP_dec ha, tagP_dec hb]
def orAll (ps : List (List UInt8)) (acc : Nat) : Nat := ps.foldl (fun x p => join x (worth p)) acc
theorem orAll_bit (ps : List (List UInt8)) (i : Nat) : ∀ acc, (orAll ps acc).testBit i = (acc.testBit i || ps.any fun p => (worth p).testBit i) := by
  induction ps with
  | nil => intro acc; simp [orAll]
  | cons p r ih => intro acc; rw [orAll, List.foldl_cons, ← orAll, ih, List.any_cons, join, Nat.testBit_or, Bool.or_assoc]
theorem piece_worth {r : Nat × Nat} (h1 : r.1 ≤ r.2) (h2 : r.2 < 64) (i : Nat) : ((piece r).any fun p => (worth p).testBit i) = (bitsFrom r.1 r.2).testBit i := by
  have k1 : r.1 < 64 := by omega
  unfold piece
  split
  · rename_i e
    simp [worth, runP_dec k1, e]
  · split
    · rename_i e
      simp only [List.any_cons, List.any_nil, Bool.or_false, worth, runP_dec k1, runP_dec h2, Option.getD_some, bitsFrom_bit]
      by_cases a : r.1 ≤ i <;> by_cases b : i ≤ r.1 <;> by_cases c : r.2 ≤ i <;> by_cases d : i ≤ r.2 <;> simp [a, b, c, d] <;> omega
    · simp [worth, runP_two k1 h2]
theorem runs_bit {l : Nat} (hl : l < 18446744073709551616) : ∀ (n p : Nat), 64 - p ≤ n → ∀ i, ((runs l p).any fun r => (bitsFrom r.1 r.2).testBit i) = (decide (p ≤ i) && l.testBit i) := by
  intro n
  induction n with
  | zero =>
    intro p hp i
    rw [runs, dif_neg (by omega)]
    by_cases h : p ≤ i
    · rw [testBit_high hl (by omega)]; simp
    · simp [h]
  | succ n ih =>
    intro p hp i
    by_cases h64 : p < 64
    · cases hb : l.testBit p
      · rw [runs, dif_pos h64, if_neg (by simp [hb]), ih (p + 1) (by omega)]
        by_cases h1 : p + 1 ≤ i
        · simp [h1, Nat.le_of_succ_le h1]
        · by_cases h2 : p ≤ i
          · have : i = p := by omega
            subst this
            simp [hb]
          · simp [h1, h2]
      · have hge := last_ge l p
        rw [runs, dif_pos h64, if_pos hb, List.any_cons, ih (last l p + 1) (by omega), bitsFrom_bit]
        by_cases h1 : p ≤ i
        · by_cases h2 : i ≤ last l p
          · have := last_bits hb i h1 h2
            simp [h1, h2, this]
          · have h3 : last l p + 1 ≤ i := by omega
            simp [h1, h2, h3]
        · have h3 : ¬ last l p + 1 ≤ i := by omega
          simp [h1, h3]
    · rw [runs, dif_neg h64]
      by_cases h : p ≤ i
      · rw [testBit_high hl (by omega)]; simp
      · simp [h]
theorem pieces_worth {l : Nat} (hl : l < 18446744073709551616) : orAll (pieces l 0) 0 = l := by
  apply Nat.eq_of_testBit_eq
  intro i
  have h1 := runs_bit hl 64 0 (by omega) i
  have hm := runs_mem hl 64 0 (by omega)
  rw [orAll_bit, Nat.zero_testBit, Bool.false_or, pieces, List.any_flatMap]
  have : ∀ rs : List (Nat × Nat), (∀ r ∈ rs, 0 ≤ r.1 ∧ r.1 ≤ r.2 ∧ r.2 < 64) → (rs.any fun r => (piece r).any fun p => (worth p).testBit i) = rs.any fun r => (bitsFrom r.1 r.2).testBit i := by
    intro rs
    induction rs with
    | nil => intro _; rfl
    | cons r t ih =>
      intro h
      have hr := h r List.mem_cons_self
      rw [List.any_cons, List.any_cons, piece_worth hr.2.1 hr.2.2, ih (fun x hx => h x (List.mem_cons_of_mem _ hx))]
  rw [this _ hm, h1]
  simp
theorem pieces_ok {l : Nat} (hl : l < 18446744073709551616) : ∀ p ∈ pieces l 0, (44 : UInt8) ∉ p ∧ p ≠ [] ∧ (runP p).isSome = true := by
  intro p hp
  obtain ⟨r, hr, hpr⟩ := List.mem_flatMap.1 hp
  obtain ⟨_, h1, h2⟩ := runs_mem hl 64 0 (by omega) r hr
  exact piece_run h1 h2 p hpr
theorem join_step (p q : List UInt8) (r : List (List UInt8)) : Lib.join (p :: q :: r) [44] = p ++ 44 :: Lib.join (q :: r) [44] := by
  rw [Lib.join_cons, Lib.join_cons]
  simp [Lib.joinTail]
theorem innerP_join : ∀ (ps : List (List UInt8)) (f acc : Nat), ps.length ≤ f → (∀ p ∈ ps, (44 : UInt8) ∉ p ∧ p ≠ [] ∧ (runP p).isSome = true) → innerP f (Lib.join ps [44]) acc = some (orAll ps acc)
  | [], f, acc, _, _ => by
    rw [Lib.join_nil]
    cases f <;> simp [innerP, orAll]
  | [p], f + 1, acc, _, h => by
    obtain ⟨h1, h2, h3⟩ := h p List.mem_cons_self
    obtain ⟨l, hl⟩ := Option.isSome_iff_exists.1 h3
    rw [Lib.join_one, innerP, if_neg h2, cutAt_none h1]
    simp only [hl]
    cases f <;> simp [innerP, orAll, worth, hl]
  | p :: q :: r, f + 1, acc, hf, h => by
    obtain ⟨h1, h2, h3⟩ := h p List.mem_cons_self
    obtain ⟨l, hl⟩ := Option.isSome_iff_exists.1 h3
    rw [join_step, innerP, if_neg (by simp), cutAt_some h1]
    simp only [hl]
    rw [innerP_join (q :: r) f _ (by simp at hf ⊢; omega) (fun x hx => h x (List.mem_cons_of_mem _ hx)), show orAll (p :: q :: r) acc = orAll (q :: r) (join acc (worth p)) from rfl, worth, hl]
    rfl
  | p :: r, 0, acc, hf, _ => by simp at hf
theorem pieces_count {l : Nat} (hl : l < 18446744073709551616) : ∀ (n p : Nat), 64 - p ≤ n → (pieces l p).length ≤ 64 - p := by
  intro n
  induction n with
  | zero => intro p hp; rw [pieces, runs, dif_neg (by omega)]; simp
  | succ n ih =>
    intro p hp
    by_cases h64 : p < 64
    · cases hb : l.testBit p
      · have := ih (p + 1) (by omega)
        rw [pieces, runs, dif_pos h64, if_neg (by simp [hb]), ← pieces]
        omega
      · have hge := last_ge l p
        have hlt := last_lt hl hb
        have := ih (last l p + 1) (by omega)
        rw [pieces, runs, dif_pos h64, if_pos hb, List.flatMap_cons, List.length_append, ← pieces]
        have hp2 : (piece (p, last l p)).length ≤ last l p + 1 - p := by
          unfold piece
          split
          · simp; omega
          · split
            · rename_i e; simp at e ⊢; omega
            · simp; omega
        omega
    · rw [pieces, runs, dif_neg h64]; simp
/-- THE TEXT IS READ AGAIN, by commas. -/
theorem innerP_text {l : Nat} (hl : l < 18446744073709551616) : ∀ f, 64 ≤ f → innerP f (Lib.join (pieces l 0) [44]) 0 = some l := fun f hf => by
  have hc := pieces_count hl 64 0 (by omega)
  rw [innerP_join (pieces l 0) f 0 (by omega) (pieces_ok hl), pieces_worth hl]
theorem text_inj {a b : Nat} (ha : a < 18446744073709551616) (hb : b < 18446744073709551616) (h : text a = text b) : a = b := by
  unfold text at h
  injection h with _ h
  have h1 := List.append_inj_left' h rfl
  have e1 := innerP_text ha 64 (by omega)
  have e2 := innerP_text hb 64 (by omega)
  rw [h1, e2] at e1
  injection e1 with e1
  exact e1.symm
end Lab
