/-
  A label's text read from place to place, as scrimref01.Parse does.
-/
import Derived.Test.YtfiobbhicicchaaDoorParseMath
set_option linter.unusedVariables false
namespace Lab
open Go
def takeDig : Nat → List UInt8 → Nat → Nat × List UInt8
  | 0, s, n => (n, s)
  | k + 1, [], n => (n, [])
  | k + 1, b :: l, n => if digit b then takeDig k l (10 * n + (b.toNat - 48)) else (n, b :: l)
theorem takeDig_nil (k n : Nat) : takeDig k [] n = (n, []) := by cases k <;> rfl
theorem takeDig_stop {b : UInt8} (h : digit b = false) (k : Nat) (l : List UInt8) (n : Nat) : takeDig k (b :: l) n = (n, b :: l) := by
  cases k with
  | zero => rfl
  | succ k => rw [takeDig, if_neg (by simp [h])]
/-- A number: up to three digits; none, or above 63: none. And what is left. -/
def numR (s : List UInt8) : Option Nat × List UInt8 :=
  if (takeDig 3 s 0).2.length = s.length ∨ 63 < (takeDig 3 s 0).1 then (none, (takeDig 3 s 0).2) else (some (takeDig 3 s 0).1, (takeDig 3 s 0).2)
theorem numR_snd (s : List UInt8) : (numR s).2 = (takeDig 3 s 0).2 := by unfold numR; split <;> rfl
theorem numR_lt {s : List UInt8} {n : Nat} (h : (numR s).1 = some n) : n < 64 := by
  unfold numR at h
  split at h
  · cases h
  · rename_i hh
    injection h with h
    omega
/-- What stands behind a number is no digit. -/
def Stops (t : List UInt8) : Prop := t = [] ∨ ∃ b r, t = b :: r ∧ digit b = false
theorem numR_dec {n : Nat} (h : n < 64) {t : List UInt8} (ht : Stops t) : numR (Lib.decDigits n ++ t) = (some n, t) := by
  have key : takeDig 3 (Lib.decDigits n ++ t) 0 = (n, t) := by
    have stop : ∀ k m, takeDig k t m = (m, t) := fun k m => by
      rcases ht with rfl | ⟨b, r, rfl, hb⟩
      · exact takeDig_nil k m
      · exact takeDig_stop hb k r m
    have hd := dec_mem h
    have hv := (dec_digits h).2
    by_cases h10 : n < 10
    · rw [Lib.decDigits_one h10] at hd hv ⊢
      have h0 := hd _ List.mem_cons_self
      have hv' : 10 * 0 + ((UInt8.ofNat (48 + n)).toNat - 48) = n := hv
      rw [List.cons_append, List.nil_append, takeDig, if_pos h0, hv', stop]
    · rw [Lib.decDigits_two h10 (by omega)] at hd hv ⊢
      have h0 := hd _ List.mem_cons_self
      have h1 := hd _ (List.mem_cons_of_mem _ List.mem_cons_self)
      have hv' : 10 * (10 * 0 + ((UInt8.ofNat (48 + n / 10)).toNat - 48)) + ((UInt8.ofNat (48 + n % 10)).toNat - 48) = n := hv
      rw [List.cons_append, List.cons_append, List.nil_append, takeDig, if_pos h0, takeDig, if_pos h1, hv', stop]
  unfold numR
  rw [key, if_neg]
  rintro (e | e)
  · have := dec_len h
    have e' : t.length = (Lib.decDigits n).length + t.length := by rw [← List.length_append]; exact e
    omega
  · have e' : 63 < n := e
    omega
def dropComma : List UInt8 → List UInt8
  | [] => []
  | b :: r => if b = 44 then r else b :: r
def refStep (s : List UInt8) : Option (Nat × List UInt8) :=
  match (numR s).2 with
  | [] => (numR s).1.map fun a => (bitsFrom a a, [])
  | b :: r => if b = 45 then (match (numR s).1, (numR r).1 with | some a, some c => some (bitsFrom a c, dropComma (numR r).2) | _, _ => none) else (numR s).1.map fun a => (bitsFrom a a, dropComma (b :: r))
def refP : Nat → List UInt8 → Nat → Option Nat
  | 0, _, acc => some acc
  | f + 1, [], acc => some acc
  | f + 1, b :: r, acc => if b = 125 then some acc else match refStep (b :: r) with | none => none | some x => refP f x.2 (join acc x.1)
theorem refStep_one {n : Nat} (h : n < 64) {b : UInt8} {r : List UInt8} (hb : digit b = false) (h45 : b ≠ 45) : refStep (Lib.decDigits n ++ b :: r) = some (bitsFrom n n, dropComma (b :: r)) := by
  have e := numR_dec h (t := b :: r) (.inr ⟨b, r, rfl, hb⟩)
  unfold refStep
  rw [e]
  simp only [if_neg h45, Option.map_some]
theorem refStep_two {a c : Nat} (ha : a < 64) (hc : c < 64) {b : UInt8} {r : List UInt8} (hb : digit b = false) : refStep (Lib.decDigits a ++ 45 :: (Lib.decDigits c ++ b :: r)) = some (bitsFrom a c, dropComma (b :: r)) := by
  have e := numR_dec ha (t := 45 :: (Lib.decDigits c ++ b :: r)) (.inr ⟨45, _, rfl, by decide⟩)
  have e2 := numR_dec hc (t := b :: r) (.inr ⟨b, r, rfl, hb⟩)
  unfold refStep
  rw [e]
  simp only [if_pos, e2]
/-- A part is one tag's digits, or two tags' with a dash. -/
def IsPart (p : List UInt8) : Prop := (∃ a, a < 64 ∧ p = Lib.decDigits a) ∨ (∃ a c, a < 64 ∧ c < 64 ∧ p = Lib.decDigits a ++ 45 :: Lib.decDigits c)
theorem refStep_part {p : List UInt8} (h : IsPart p) {b : UInt8} {r : List UInt8} (hb : digit b = false) (h45 : b ≠ 45) : refStep (p ++ b :: r) = some (worth p, dropComma (b :: r)) := by
  rcases h with ⟨a, ha, rfl⟩ | ⟨a, c, ha, hc, rfl⟩
  · rw [refStep_one ha hb h45, worth, runP_dec ha]; rfl
  · rw [List.append_assoc, List.cons_append, refStep_two ha hc hb, worth, runP_two ha hc]; rfl
theorem part_head {p : List UInt8} (h : IsPart p) : ∃ b r, p = b :: r ∧ b ≠ 125 := by
  have one : ∀ {a : Nat}, a < 64 → ∃ b r, Lib.decDigits a = b :: r ∧ b ≠ 125 := fun {a} ha => by
    have hl := dec_len ha
    cases e : Lib.decDigits a with
    | nil => rw [e] at hl; simp at hl
    | cons b r =>
      refine ⟨b, r, rfl, fun hb => ?_⟩
      have := dec_mem ha b (by rw [e]; exact List.mem_cons_self)
      rw [hb] at this
      exact absurd this (by decide)
  rcases h with ⟨a, ha, rfl⟩ | ⟨a, c, ha, hc, rfl⟩
  · exact one ha
  · obtain ⟨b, r, e, hb⟩ := one ha
    exact ⟨b, r ++ 45 :: Lib.decDigits c, by rw [e]; rfl, hb⟩
theorem pieces_part {l : Nat} (hl : l < 18446744073709551616) : ∀ p ∈ pieces l 0, IsPart p := by
  intro p hp
  obtain ⟨r, hr, hpr⟩ := List.mem_flatMap.1 hp
  obtain ⟨_, h1, h2⟩ := runs_mem hl 64 0 (by omega) r hr
  have k1 : r.1 < 64 := by omega
  unfold piece at hpr
  split at hpr
  · simp at hpr; subst hpr; exact .inl ⟨_, k1, rfl⟩
  · split at hpr
    · simp at hpr
      rcases hpr with rfl | rfl
      · exact .inl ⟨_, k1, rfl⟩
      · exact .inl ⟨_, h2, rfl⟩
    · simp at hpr; subst hpr; exact .inr ⟨_, _, k1, h2, rfl⟩
theorem refP_join : ∀ (ps : List (List UInt8)) (f acc : Nat), ps.length ≤ f → (∀ p ∈ ps, IsPart p) → refP f (Lib.join ps [44] ++ [125]) acc = some (orAll ps acc)
  | [], f, acc, _, _ => by
    rw [Lib.join_nil]
    cases f <;> simp [refP, orAll]
  | [p], f + 1, acc, _, h => by
    have hp := h p List.mem_cons_self
    obtain ⟨b, r, e, hb⟩ := part_head hp
    rw [Lib.join_one]
    have hs := refStep_part hp (b := 125) (r := []) (by decide) (by decide)
    rw [e, List.cons_append] at hs ⊢
    rw [refP, if_neg hb, hs]
    simp only [dropComma]
    rw [if_neg (by decide)]
    cases f <;> simp [refP, orAll]
  | p :: q :: r, f + 1, acc, hf, h => by
    have hp := h p List.mem_cons_self
    obtain ⟨b, t, e, hb⟩ := part_head hp
    rw [join_step, List.append_assoc, List.cons_append]
    have hs := refStep_part hp (b := 44) (r := Lib.join (q :: r) [44] ++ [125]) (by decide) (by decide)
    have ih := refP_join (q :: r) f (join acc (worth p)) (by simp at hf ⊢; omega) (fun x hx => h x (List.mem_cons_of_mem _ hx))
    rw [show orAll (p :: q :: r) acc = orAll (q :: r) (join acc (worth p)) from rfl, ← ih]
    generalize Lib.join (q :: r) [44] ++ [125] = t2 at *
    rw [e, List.cons_append] at hs ⊢
    rw [refP, if_neg hb, hs]
    simp only [dropComma, if_pos]
  | p :: r, 0, acc, hf, _ => by simp at hf
/-- THE TEXT IS READ AGAIN, from place to place. -/
theorem refP_text {l : Nat} (hl : l < 18446744073709551616) : refP 64 ((text l).drop 1) 0 = some l := by
  have hc := pieces_count hl 64 0 (by omega)
  have : (text l).drop 1 = Lib.join (pieces l 0) [44] ++ [125] := rfl
  rw [this, refP_join (pieces l 0) 64 0 (by omega) (pieces_part hl), pieces_worth hl]
theorem refStep_lt {s : List UInt8} {x : Nat × List UInt8} (h : refStep s = some x) : x.1 < 18446744073709551616 := by
  unfold refStep at h
  split at h
  · obtain ⟨a, ha, rfl⟩ := Option.map_eq_some_iff.1 h
    have := numR_lt ha
    exact bitsFrom_lt this this
  · split at h
    · split at h
      · rename_i a c ha hc
        injection h with h
        rw [← h]
        exact bitsFrom_lt (numR_lt hc) (numR_lt ha)
      · cases h
    · obtain ⟨a, ha, rfl⟩ := Option.map_eq_some_iff.1 h
      have := numR_lt ha
      exact bitsFrom_lt this this
theorem refP_lt : ∀ (f : Nat) (s : List UInt8) (acc n : Nat), acc < 18446744073709551616 → refP f s acc = some n → n < 18446744073709551616
  | 0, s, acc, n, ha, h => by rw [refP] at h; injection h with h; omega
  | f + 1, [], acc, n, ha, h => by rw [refP] at h; injection h with h; omega
  | f + 1, b :: r, acc, n, ha, h => by
    rw [refP] at h
    split at h
    · injection h with h; omega
    · split at h
      · cases h
      · rename_i x hx
        exact refP_lt f _ _ n (join_lt ha (refStep_lt hx)) h
end Lab
