/-
  How long a label's text is; what it begins and ends with; when a text is a label's.
-/
import Derived.Test.YtaaapjoopchgiaaDoorParseMath2
import Derived.Lib.Strings
set_option linter.unusedVariables false
namespace Lab
open Go
def weight (ps : List (List UInt8)) : Nat := (ps.map fun p => p.length + 1).sum
theorem piece_weight {r : Nat × Nat} (h1 : r.1 ≤ r.2) (h2 : r.2 < 64) : weight (piece r) ≤ 3 * (r.2 + 1 - r.1) := by
  have a := dec_len (show r.1 < 64 by omega)
  have b := dec_len h2
  unfold piece weight
  split
  · simp; omega
  · split
    · simp; omega
    · simp; omega
theorem pieces_weight {l : Nat} (hl : l < 18446744073709551616) : ∀ (n p : Nat), 64 - p ≤ n → weight (pieces l p) ≤ 3 * (64 - p) := by
  intro n
  induction n with
  | zero => intro p hp; rw [pieces, runs, dif_neg (by omega)]; simp [weight]
  | succ n ih =>
    intro p hp
    by_cases h64 : p < 64
    · cases hb : l.testBit p
      · have := ih (p + 1) (by omega)
        rw [pieces, runs, dif_pos h64, if_neg (by simp [hb]), ← pieces]
        omega
      · have hge := last_ge l p
        have hlt := last_lt hl hb
        have := ih (last l p + 1) (by omega)
        have hw := piece_weight (r := (p, last l p)) hge hlt
        rw [pieces, runs, dif_pos h64, if_pos hb, List.flatMap_cons, ← pieces]
        have e : weight (piece (p, last l p) ++ pieces l (last l p + 1)) = weight (piece (p, last l p)) + weight (pieces l (last l p + 1)) := by simp [weight]
        rw [e]
        simp only at hw
        omega
    · rw [pieces, runs, dif_neg h64]; simp [weight]
theorem joinTail_weight (r : List (List UInt8)) : (Lib.joinTail [44] r).length = weight r := by
  unfold Lib.joinTail weight
  induction r with
  | nil => rfl
  | cons p r ih => simp at ih ⊢; omega
theorem join_weight (ps : List (List UInt8)) : (Lib.join ps [44]).length ≤ weight ps := by
  cases ps with
  | nil => simp [Lib.join_nil]
  | cons p r => rw [Lib.join_cons, List.length_append, joinTail_weight]; simp [weight]
theorem text_len {l : Nat} (hl : l < 18446744073709551616) : (text l).length ≤ 194 := by
  have h1 := pieces_weight hl 64 0 (by omega)
  have h2 := join_weight (pieces l 0)
  unfold text
  simp
  omega
/-- When a text is a label's, and which one's. -/
def Spec (s : List UInt8) (x : Nat) (ok : Bool) : Prop := (ok = true ∧ x < 18446744073709551616 ∧ s = text x) ∨ (ok = false ∧ x = 0 ∧ ∀ l, l < 18446744073709551616 → s ≠ text l)
theorem Spec.unique {s : List UInt8} {x y : Nat} {a b : Bool} (h : Spec s x a) (h' : Spec s y b) : x = y ∧ a = b := by
  rcases h with ⟨rfl, hx, hs⟩ | ⟨rfl, rfl, hn⟩ <;> rcases h' with ⟨rfl, hy, hs'⟩ | ⟨rfl, rfl, hn'⟩
  · exact ⟨text_inj hx hy (hs.symm.trans hs'), rfl⟩
  · exact absurd hs (hn' x hx)
  · exact absurd hs' (hn y hy)
  · exact ⟨rfl, rfl⟩
theorem Spec.of_text {l : Nat} (hl : l < 18446744073709551616) {x : Nat} {ok : Bool} (h : Spec (text l) x ok) : x = l ∧ ok = true :=
  h.unique (.inl ⟨rfl, hl, rfl⟩)
theorem Spec.long {s : List UInt8} (h : 258 < s.length) : Spec s 0 false := .inr ⟨rfl, rfl, fun l hl e => by have := text_len hl; rw [← e] at this; omega⟩
theorem open_iff (s : List UInt8) : (Lib.hasPrefix s [123] = false ∧ Lib.trimPrefix s [123] = s ∧ ∀ r, s ≠ 123 :: r) ∨ (∃ r, Lib.hasPrefix s [123] = true ∧ Lib.trimPrefix s [123] = r ∧ s = 123 :: r) := by
  cases s with
  | nil => exact .inl ⟨rfl, rfl, fun r => by simp⟩
  | cons b r =>
    by_cases e : b = 123
    · subst e
      have hp : Lib.hasPrefix (123 :: r) [123] = true := by simp [Lib.hasPrefix]
      exact .inr ⟨r, hp, by rw [Lib.trimPrefix, if_pos hp]; rfl, rfl⟩
    · have hp : Lib.hasPrefix (b :: r) [123] = false := by
        cases h : Lib.hasPrefix (b :: r) [123]
        · rfl
        · simp [Lib.hasPrefix] at h; exact absurd h.symm e
      exact .inl ⟨hp, by rw [Lib.trimPrefix, if_neg (by simp [hp])], fun t h => by injection h with h _; exact e h⟩
theorem shut_iff (s : List UInt8) : (Lib.hasSuffix s [125] = false ∧ ∀ r, s ≠ r ++ [125]) ∨ (∃ r, Lib.hasSuffix s [125] = true ∧ Lib.trimSuffix s [125] = r ∧ s = r ++ [125]) := by
  cases hp : Lib.hasSuffix s [125]
  · refine .inl ⟨rfl, fun r e => ?_⟩
    subst e
    have : Lib.hasSuffix (r ++ [125]) [125] = true := by simp [Lib.hasSuffix]
    rw [this] at hp; cases hp
  · have h : [125] <:+ s := by simpa [Lib.hasSuffix] using hp
    obtain ⟨r, rfl⟩ := h
    refine .inr ⟨r, rfl, ?_, rfl⟩
    rw [Lib.trimSuffix, if_pos hp]
    simp
theorem Spec.noOpen {s : List UInt8} (h : ∀ r, s ≠ 123 :: r) : Spec s 0 false := .inr ⟨rfl, rfl, fun l hl e => h _ (by rw [e]; rfl)⟩
theorem Spec.noShut {r : List UInt8} (h : ∀ t, r ≠ t ++ [125]) : Spec (123 :: r) 0 false := .inr ⟨rfl, rfl, fun l hl e => by
  unfold text at e
  injection e with _ e
  exact h _ e⟩
theorem inner_of {t : List UInt8} {l : Nat} (e : (123 : UInt8) :: (t ++ [125]) = text l) : t = Lib.join (pieces l 0) [44] := by
  unfold text at e
  injection e with _ e
  exact List.append_inj_left' e rfl
theorem Spec.badInner {t : List UInt8} {f : Nat} (hf : 64 ≤ f) (h : innerP f t 0 = none) : Spec (123 :: (t ++ [125])) 0 false := .inr ⟨rfl, rfl, fun l hl e => by
  rw [inner_of e, innerP_text hl f hf] at h; cases h⟩
theorem Spec.other {t : List UInt8} {f o : Nat} (hf : 64 ≤ f) (h : innerP f t 0 = some o) (hne : text o ≠ 123 :: (t ++ [125])) : Spec (123 :: (t ++ [125])) 0 false := .inr ⟨rfl, rfl, fun l hl e => by
  rw [inner_of e, innerP_text hl f hf] at h
  injection h with h
  subst h
  exact hne e.symm⟩
theorem Spec.refBad {s : List UInt8} (h : refP 64 (s.drop 1) 0 = none) : Spec s 0 false := .inr ⟨rfl, rfl, fun l hl e => by
  rw [e, refP_text hl] at h; cases h⟩
theorem Spec.refOther {s : List UInt8} {o : Nat} (h : refP 64 (s.drop 1) 0 = some o) (hne : text o ≠ s) : Spec s 0 false := .inr ⟨rfl, rfl, fun l hl e => by
  rw [e, refP_text hl] at h
  injection h with h
  subst h
  exact hne e.symm⟩
/-- More fuel does not matter. -/
theorem innerP_fuel : ∀ (f g : Nat) (s : List UInt8) (acc : Nat), s.length ≤ f → s.length ≤ g → innerP f s acc = innerP g s acc
  | 0, 0, s, acc, _, _ => rfl
  | 0, g + 1, s, acc, h, _ => by
    have : s = [] := List.eq_nil_of_length_eq_zero (by omega)
    subst this; rfl
  | f + 1, 0, s, acc, _, h => by
    have : s = [] := List.eq_nil_of_length_eq_zero (by omega)
    subst this; rfl
  | f + 1, g + 1, s, acc, h1, h2 => by
    unfold innerP
    by_cases e : s = []
    · rw [if_pos e, if_pos e]
    · rw [if_neg e, if_neg e]
      have hl := (cutAt_len 44 s).2.2 e
      split
      · rfl
      · exact innerP_fuel f g _ _ (by omega) (by omega)
theorem innerP_step {f : Nat} {s : List UInt8} {acc l : Nat} (hne : s ≠ []) (h : s.length ≤ f) (hr : runP (cutAt 44 s).1 = some l) : innerP f s acc = innerP f (cutAt 44 s).2.1 (join acc l) := by
  have hl := (cutAt_len 44 s).2.2 hne
  cases f with
  | zero => exfalso; have := List.eq_nil_of_length_eq_zero (Nat.le_zero.1 h); exact hne this
  | succ f =>
    conv => lhs; rw [innerP, if_neg hne, hr]
    exact innerP_fuel f (f + 1) _ _ (by omega) (by omega)
theorem innerP_fail {f : Nat} {s : List UInt8} {acc : Nat} (hne : s ≠ []) (h : s.length ≤ f) (hr : runP (cutAt 44 s).1 = none) : innerP f s acc = none := by
  cases f with
  | zero => exfalso; have := List.eq_nil_of_length_eq_zero (Nat.le_zero.1 h); exact hne this
  | succ f => rw [innerP, if_neg hne, hr]
end Lab
