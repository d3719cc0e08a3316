/-
  Texts of this proof, joined (by wip/bin/bundle.py): ArrMath, NatMath, GcdMath, RatMath, ArrRight, Words, Arr, Same1, Cfg1.
-/
import Derived.Test.YtmiccalfamepdaaGreatDoorProg
import Derived.WalkKit
import Derived.WalkSpells
import Derived.WalkLawsBesides
import Derived.Lib.Hide
import Derived.Laws.Rows
import Derived.Deep.QuietTactic
import Derived.BigQuiet
import Derived.LoopTactic
import Derived.Outline
import Derived.IntWalk
import Derived.Shelf.Abstract
/-
  Arrays as trees, plain: no program in sight. Joins of labels, equality with labels and without, erasing.
-/
namespace Ar
mutual
inductive Arr where
  | mk (S : Nat) (shape : List Int) (cells : List Cel)
inductive Cel where
  | mk (L : Nat) (kind : Int) (neg : Bool) (top bot : List Nat) (c : Int) (ins : List Arr)
end

/-! ### The join of all labels, onto what was joined before -/
mutual
def tot : Arr → Nat
  | .mk S _ cells => totCels S cells
def totCels : Nat → List Cel → Nat
  | x, [] => x
  | x, c :: r => totCels (totCel x c) r
def totCel : Nat → Cel → Nat
  | x, .mk L _ _ _ _ _ ins => totArrs (x ||| L) ins
def totArrs : Nat → List Arr → Nat
  | x, [] => x
  | x, a :: r => totArrs (x ||| tot a) r
end

/-! ### The same, with labels or without -/
mutual
def same (lab : Bool) : Arr → Arr → Bool
  | .mk S sh cs, .mk S' sh' cs' => (!lab || S == S') && (sh == sh') && sameCels lab cs cs'
def sameCels (lab : Bool) : List Cel → List Cel → Bool
  | [], [] => true
  | c :: r, c' :: r' => sameCel lab c c' && sameCels lab r r'
  | _, _ => false
def sameCel (lab : Bool) : Cel → Cel → Bool
  | .mk L k n t b c ins, .mk L' k' n' t' b' c' ins' => (!lab || L == L') && (k == k') && (c == c') && (n == n' && t == t' && b == b') && sameArrs lab ins ins'
def sameArrs (lab : Bool) : List Arr → List Arr → Bool
  | [], [] => true
  | a :: r, a' :: r' => same lab a a' && sameArrs lab r r'
  | _, _ => false
end

/-! ### Without labels -/
mutual
def erase : Arr → Arr
  | .mk _ sh cs => .mk 0 sh (eraseCels cs)
def eraseCels : List Cel → List Cel
  | [] => []
  | c :: r => eraseCel c :: eraseCels r
def eraseCel : Cel → Cel
  | .mk _ k n t b c ins => .mk 0 k n t b c (eraseArrs ins)
def eraseArrs : List Arr → List Arr
  | [] => []
  | a :: r => erase a :: eraseArrs r
end

mutual
theorem same_erase : ∀ a b : Arr, same true (erase a) (erase b) = same false a b
  | .mk _ _ cs, .mk _ _ cs' => by simp [erase, same, same_eraseCels cs cs']
theorem same_eraseCels : ∀ a b : List Cel, sameCels true (eraseCels a) (eraseCels b) = sameCels false a b
  | [], [] => by simp [sameCels, eraseCels]
  | [], _ :: _ => by simp [sameCels, eraseCels]
  | _ :: _, [] => by simp [sameCels, eraseCels]
  | c :: r, c' :: r' => by simp [eraseCels, sameCels, same_eraseCel c c', same_eraseCels r r']
theorem same_eraseCel : ∀ a b : Cel, sameCel true (eraseCel a) (eraseCel b) = sameCel false a b
  | .mk _ _ _ _ _ _ ins, .mk _ _ _ _ _ _ ins' => by simp [eraseCel, sameCel, same_eraseArrs ins ins']
theorem same_eraseArrs : ∀ a b : List Arr, sameArrs true (eraseArrs a) (eraseArrs b) = sameArrs false a b
  | [], [] => by simp [sameArrs, eraseArrs]
  | [], _ :: _ => by simp [sameArrs, eraseArrs]
  | _ :: _, [] => by simp [sameArrs, eraseArrs]
  | a :: r, a' :: r' => by simp [eraseArrs, sameArrs, same_erase a a', same_eraseArrs r r']
end

mutual
theorem same_refl (lab : Bool) : ∀ a : Arr, same lab a a = true
  | .mk _ _ cs => by simp [same, sameCels_refl lab cs]
theorem sameCels_refl (lab : Bool) : ∀ a : List Cel, sameCels lab a a = true
  | [] => by simp [sameCels]
  | c :: r => by simp [sameCels, sameCel_refl lab c, sameCels_refl lab r]
theorem sameCel_refl (lab : Bool) : ∀ a : Cel, sameCel lab a a = true
  | .mk _ _ _ _ _ _ ins => by simp [sameCel, sameArrs_refl lab ins]
theorem sameArrs_refl (lab : Bool) : ∀ a : List Arr, sameArrs lab a a = true
  | [] => by simp [sameArrs]
  | a :: r => by simp [sameArrs, same_refl lab a, sameArrs_refl lab r]
end

mutual
theorem same_symm (lab : Bool) : ∀ a b : Arr, same lab a b = true → same lab b a = true
  | .mk _ _ cs, .mk _ _ cs', h => by
    simp only [same, Bool.and_eq_true, Bool.or_eq_true, Bool.not_eq_true', beq_iff_eq] at h ⊢
    exact ⟨⟨h.1.1.imp id Eq.symm, h.1.2.symm⟩, sameCels_symm lab cs cs' h.2⟩
theorem sameCels_symm (lab : Bool) : ∀ a b : List Cel, sameCels lab a b = true → sameCels lab b a = true
  | [], [], _ => by simp [sameCels]
  | [], _ :: _, h => by simp [sameCels] at h
  | _ :: _, [], h => by simp [sameCels] at h
  | c :: r, c' :: r', h => by
    simp only [sameCels, Bool.and_eq_true] at h ⊢
    exact ⟨sameCel_symm lab c c' h.1, sameCels_symm lab r r' h.2⟩
theorem sameCel_symm (lab : Bool) : ∀ a b : Cel, sameCel lab a b = true → sameCel lab b a = true
  | .mk _ _ _ _ _ _ ins, .mk _ _ _ _ _ _ ins', h => by
    simp only [sameCel, Bool.and_eq_true, Bool.or_eq_true, Bool.not_eq_true', beq_iff_eq] at h ⊢
    exact ⟨⟨⟨⟨h.1.1.1.1.imp id Eq.symm, h.1.1.1.2.symm⟩, h.1.1.2.symm⟩, ⟨h.1.2.1.1.symm, h.1.2.1.2.symm⟩, h.1.2.2.symm⟩, sameArrs_symm lab ins ins' h.2⟩
theorem sameArrs_symm (lab : Bool) : ∀ a b : List Arr, sameArrs lab a b = true → sameArrs lab b a = true
  | [], [], _ => by simp [sameArrs]
  | [], _ :: _, h => by simp [sameArrs] at h
  | _ :: _, [], h => by simp [sameArrs] at h
  | a :: r, a' :: r', h => by
    simp only [sameArrs, Bool.and_eq_true] at h ⊢
    exact ⟨same_symm lab a a' h.1, sameArrs_symm lab r r' h.2⟩
end

mutual
theorem same_trans (lab : Bool) : ∀ a b c : Arr, same lab a b = true → same lab b c = true → same lab a c = true
  | .mk _ _ cs, .mk _ _ cs', .mk _ _ cs'', h, h' => by
    simp only [same, Bool.and_eq_true, Bool.or_eq_true, Bool.not_eq_true', beq_iff_eq] at h h' ⊢
    refine ⟨⟨?_, h.1.2.trans h'.1.2⟩, sameCels_trans lab cs cs' cs'' h.2 h'.2⟩
    rcases h.1.1 with e | e
    · exact .inl e
    · rcases h'.1.1 with e' | e'
      · exact .inl e'
      · exact .inr (e.trans e')
theorem sameCels_trans (lab : Bool) : ∀ a b c : List Cel, sameCels lab a b = true → sameCels lab b c = true → sameCels lab a c = true
  | [], [], [], _, _ => by simp [sameCels]
  | [], _ :: _, _, h, _ => by simp [sameCels] at h
  | _ :: _, [], _, h, _ => by simp [sameCels] at h
  | [], [], _ :: _, _, h => by simp [sameCels] at h
  | _ :: _, _ :: _, [], _, h => by simp [sameCels] at h
  | c :: r, c' :: r', c'' :: r'', h, h' => by
    simp only [sameCels, Bool.and_eq_true] at h h' ⊢
    exact ⟨sameCel_trans lab c c' c'' h.1 h'.1, sameCels_trans lab r r' r'' h.2 h'.2⟩
theorem sameCel_trans (lab : Bool) : ∀ a b c : Cel, sameCel lab a b = true → sameCel lab b c = true → sameCel lab a c = true
  | .mk _ _ _ _ _ _ ins, .mk _ _ _ _ _ _ ins', .mk _ _ _ _ _ _ ins'', h, h' => by
    simp only [sameCel, Bool.and_eq_true, Bool.or_eq_true, Bool.not_eq_true', beq_iff_eq] at h h' ⊢
    refine ⟨⟨⟨⟨?_, h.1.1.1.2.trans h'.1.1.1.2⟩, h.1.1.2.trans h'.1.1.2⟩, ⟨h.1.2.1.1.trans h'.1.2.1.1, h.1.2.1.2.trans h'.1.2.1.2⟩, h.1.2.2.trans h'.1.2.2⟩, sameArrs_trans lab ins ins' ins'' h.2 h'.2⟩
    rcases h.1.1.1.1 with e | e
    · exact .inl e
    · rcases h'.1.1.1.1 with e' | e'
      · exact .inl e'
      · exact .inr (e.trans e')
theorem sameArrs_trans (lab : Bool) : ∀ a b c : List Arr, sameArrs lab a b = true → sameArrs lab b c = true → sameArrs lab a c = true
  | [], [], [], _, _ => by simp [sameArrs]
  | [], _ :: _, _, h, _ => by simp [sameArrs] at h
  | _ :: _, [], _, h, _ => by simp [sameArrs] at h
  | [], [], _ :: _, _, h => by simp [sameArrs] at h
  | _ :: _, _ :: _, [], _, h => by simp [sameArrs] at h
  | a :: r, a' :: r', a'' :: r'', h, h' => by
    simp only [sameArrs, Bool.and_eq_true] at h h' ⊢
    exact ⟨same_trans lab a a' a'' h.1 h'.1, sameArrs_trans lab r r' r'' h.2 h'.2⟩
end

theorem sameCels_len (lab : Bool) : ∀ {a b : List Cel}, sameCels lab a b = true → a.length = b.length
  | [], [], _ => rfl
  | [], _ :: _, h => by simp [sameCels] at h
  | _ :: _, [], h => by simp [sameCels] at h
  | c :: r, c' :: r', h => by
    simp only [sameCels, Bool.and_eq_true] at h
    simp [sameCels_len lab h.2]
theorem sameArrs_len (lab : Bool) : ∀ {a b : List Arr}, sameArrs lab a b = true → a.length = b.length
  | [], [], _ => rfl
  | [], _ :: _, h => by simp [sameArrs] at h
  | _ :: _, [], h => by simp [sameArrs] at h
  | c :: r, c' :: r', h => by
    simp only [sameArrs, Bool.and_eq_true] at h
    simp [sameArrs_len lab h.2]
theorem eraseCels_len : ∀ a : List Cel, (eraseCels a).length = a.length
  | [] => by simp [eraseCels]
  | _ :: r => by simp [eraseCels, eraseCels_len r]
theorem eraseArrs_len : ∀ a : List Arr, (eraseArrs a).length = a.length
  | [] => by simp [eraseArrs]
  | _ :: r => by simp [eraseArrs, eraseArrs_len r]
theorem totCels_drop {cs : List Cel} {k : Nat} (h : k < cs.length) (x : Nat) : totCels x (cs.drop k) = totCels (totCel x cs[k]) (cs.drop (k + 1)) := by
  rw [List.drop_eq_getElem_cons h, totCels]
theorem totArrs_drop {cs : List Arr} {k : Nat} (h : k < cs.length) (x : Nat) : totArrs x (cs.drop k) = totArrs (x ||| tot cs[k]) (cs.drop (k + 1)) := by
  rw [List.drop_eq_getElem_cons h, totArrs]
theorem sameCels_drop (lab : Bool) {cs cs' : List Cel} {k : Nat} (h : k < cs.length) (h' : k < cs'.length) : sameCels lab (cs.drop k) (cs'.drop k) = (sameCel lab cs[k] cs'[k] && sameCels lab (cs.drop (k + 1)) (cs'.drop (k + 1))) := by
  rw [List.drop_eq_getElem_cons h, List.drop_eq_getElem_cons h', sameCels]
theorem sameArrs_drop (lab : Bool) {cs cs' : List Arr} {k : Nat} (h : k < cs.length) (h' : k < cs'.length) : sameArrs lab (cs.drop k) (cs'.drop k) = (same lab cs[k] cs'[k] && sameArrs lab (cs.drop (k + 1)) (cs'.drop (k + 1))) := by
  rw [List.drop_eq_getElem_cons h, List.drop_eq_getElem_cons h', sameArrs]
theorem eraseCels_take {cs : List Cel} {k : Nat} (h : k < cs.length) : eraseCels (cs.take (k + 1)) = eraseCels (cs.take k) ++ [eraseCel cs[k]] := by
  rw [List.take_succ_eq_append_getElem h]
  generalize cs.take k = l
  induction l with
  | nil => rfl
  | cons a r ih => simp [eraseCels, ih]
theorem eraseArrs_take {cs : List Arr} {k : Nat} (h : k < cs.length) : eraseArrs (cs.take (k + 1)) = eraseArrs (cs.take k) ++ [erase cs[k]] := by
  rw [List.take_succ_eq_append_getElem h]
  generalize cs.take k = l
  induction l with
  | nil => rfl
  | cons a r ih => simp [eraseArrs, ih]
end Ar

/-
  Natural numbers as lists of limbs, the lowest first: what they are worth, without noughts on top, and the digits of a number. Plain.
-/
namespace Nt
/-- What limbs are worth. -/
def val : List Nat → Nat
  | [] => 0
  | d :: r => d + 4294967296 * val r
def Ok (l : List Nat) : Prop := ∀ d ∈ l, d < 4294967296
/-- The limbs of a number, with none of 0 on top. -/
def digs (n : Nat) : List Nat := if h : n = 0 then [] else n % 4294967296 :: digs (n / 4294967296)
termination_by n
decreasing_by omega
/-- No nought on top. -/
def Top (l : List Nat) : Prop := ∀ h : l ≠ [], l.getLast h ≠ 0
theorem digs_zero : digs 0 = [] := by rw [digs]; rfl
theorem digs_pos {n : Nat} (h : n ≠ 0) : digs n = n % 4294967296 :: digs (n / 4294967296) := by rw [digs, dif_neg h]
theorem val_digs (n : Nat) : val (digs n) = n := by
  induction n using Nat.strongRecOn with
  | _ n ih =>
    by_cases h : n = 0
    · subst h; rw [digs_zero]; rfl
    · rw [digs_pos h, val, ih _ (by omega)]; omega
theorem ok_digs (n : Nat) : Ok (digs n) := by
  induction n using Nat.strongRecOn with
  | _ n ih =>
    by_cases h : n = 0
    · subst h; rw [digs_zero]; intro d hd; cases hd
    · rw [digs_pos h]
      intro d hd
      rcases List.mem_cons.1 hd with rfl | hd
      · omega
      · exact ih _ (by omega) d hd
theorem digs_nil_iff {n : Nat} : digs n = [] ↔ n = 0 := by
  constructor
  · intro h
    by_cases h0 : n = 0
    · exact h0
    · rw [digs_pos h0] at h; cases h
  · rintro rfl; exact digs_zero
theorem top_digs (n : Nat) : Top (digs n) := by
  induction n using Nat.strongRecOn with
  | _ n ih =>
    by_cases h : n = 0
    · subst h; rw [digs_zero]; intro h; exact absurd rfl h
    · intro hne
      simp only [digs_pos h]
      by_cases h2 : n / 4294967296 = 0
      · simp only [h2, digs_zero, List.getLast_singleton]; omega
      · rw [List.getLast_cons (by rw [ne_eq, digs_nil_iff]; exact h2)]
        exact ih _ (by omega) _
theorem top_cons {d : Nat} {r : List Nat} (h : Top (d :: r)) : Top r := by
  intro hne
  have := h (by simp)
  rwa [List.getLast_cons hne] at this
theorem ok_cons {d : Nat} {r : List Nat} (h : Ok (d :: r)) : d < 4294967296 ∧ Ok r := ⟨h d List.mem_cons_self, fun x hx => h x (List.mem_cons_of_mem _ hx)⟩
/-- Limbs without noughts on top are the digits of their worth. -/
theorem digs_val : ∀ {l : List Nat}, Ok l → Top l → digs (val l) = l
  | [], _, _ => by rw [val, digs_zero]
  | d :: r, ho, ht => by
    obtain ⟨hd, hr⟩ := ok_cons ho
    have ih := digs_val hr (top_cons ht)
    by_cases h0 : val (d :: r) = 0
    · exfalso
      rw [val] at h0
      have hr0 : val r = 0 := by omega
      rw [hr0, digs_zero] at ih
      subst ih
      exact ht (by simp) (by simp; omega)
    · rw [digs_pos h0, val]
      rw [show (d + 4294967296 * val r) % 4294967296 = d by omega, show (d + 4294967296 * val r) / 4294967296 = val r by omega, ih]
theorem val_append : ∀ (a b : List Nat), val (a ++ b) = val a + 4294967296 ^ a.length * val b
  | [], b => by simp [val]
  | d :: r, b => by
    rw [List.cons_append, val, val_append r b, val, List.length_cons, Nat.pow_succ]
    grind
theorem val_lt : ∀ {l : List Nat}, Ok l → val l < 4294967296 ^ l.length
  | [], _ => by simp [val]
  | d :: r, ho => by
    obtain ⟨hd, hr⟩ := ok_cons ho
    have ih := val_lt hr
    rw [val, List.length_cons, Nat.pow_succ]
    generalize 4294967296 ^ r.length = p at ih ⊢
    omega
theorem val_take_succ {l : List Nat} {i : Nat} (h : i < l.length) : val (l.take (i + 1)) = val (l.take i) + 4294967296 ^ i * l[i] := by
  rw [List.take_succ_eq_append_getElem h, val_append]
  simp [val, Nat.min_eq_left (Nat.le_of_lt h)]
theorem val_split (l : List Nat) (i : Nat) (h : i ≤ l.length) : val l = val (l.take i) + 4294967296 ^ i * val (l.drop i) := by
  have := val_append (l.take i) (l.drop i)
  rw [List.take_append_drop, List.length_take, Nat.min_eq_left h] at this
  exact this
theorem val_zeros : ∀ {l : List Nat}, (∀ d ∈ l, d = 0) → val l = 0
  | [], _ => rfl
  | d :: r, h => by rw [val, h d List.mem_cons_self, val_zeros (fun x hx => h x (List.mem_cons_of_mem _ hx))]
theorem ok_take {l : List Nat} (h : Ok l) (n : Nat) : Ok (l.take n) := fun d hd => h d (List.mem_of_mem_take hd)
theorem ok_drop {l : List Nat} (h : Ok l) (n : Nat) : Ok (l.drop n) := fun d hd => h d (List.mem_of_mem_drop hd)
theorem ok_get {l : List Nat} (h : Ok l) {i : Nat} (hi : i < l.length) : l[i] < 4294967296 := h _ (List.getElem_mem hi)
theorem ok_set {l : List Nat} (h : Ok l) {i x : Nat} (hx : x < 4294967296) : Ok (l.set i x) := fun d hd => by
  rcases List.mem_or_eq_of_mem_set hd with h1 | h1
  · exact h d h1
  · rw [h1]; exact hx
/-- What trim finds: noughts from n on, none just below. -/
theorem take_eq_digs {l : List Nat} {n : Nat} (ho : Ok l) (hn : n ≤ l.length) (hz : ∀ j (hj : j < l.length), n ≤ j → l[j] = 0) (ht : ∀ h : 0 < n, l[n - 1]'(by omega) ≠ 0) : l.take n = digs (val l) := by
  have hv : val (l.drop n) = 0 := val_zeros fun d hd => by
    obtain ⟨j, hj, rfl⟩ := List.getElem_of_mem hd
    rw [List.getElem_drop]
    exact hz _ _ (by omega)
  have h1 := val_split l n hn
  rw [hv, Nat.mul_zero, Nat.add_zero] at h1
  rw [h1]
  refine (digs_val (ok_take ho n) fun hne => ?_).symm
  have hpos : 0 < n := by
    rcases Nat.eq_zero_or_pos n with h0 | h0
    · subst h0; simp at hne
    · exact h0
  rw [List.getLast_eq_getElem]
  simp only [List.length_take, Nat.min_eq_left hn, List.getElem_take]
  exact ht hpos
/-- The digits stand at the head of the limbs. -/
theorem take_digs : ∀ {l : List Nat}, Ok l → l.take (digs (val l)).length = digs (val l)
  | [], _ => by simp [val, digs_zero]
  | d :: r, ho => by
    obtain ⟨hd, hr⟩ := ok_cons ho
    have ih := take_digs hr
    by_cases h0 : val (d :: r) = 0
    · rw [h0, digs_zero]; rfl
    · have e : digs (val (d :: r)) = d :: digs (val r) := by
        rw [digs_pos h0, val]
        rw [show (d + 4294967296 * val r) % 4294967296 = d by omega, show (d + 4294967296 * val r) / 4294967296 = val r by omega]
      rw [e, List.length_cons, List.take_succ_cons, ih]
theorem digs_inj {a b : Nat} (h : digs a = digs b) : a = b := by rw [← val_digs a, ← val_digs b, h]
/-- How many limbs a number has. -/
def size (n : Nat) : Nat := (digs n).length
theorem digs_len_le {l : List Nat} (h : Ok l) : (digs (val l)).length ≤ l.length := by
  have key : ∀ (k n : Nat), n < 4294967296 ^ k → (digs n).length ≤ k := by
    intro k
    induction k with
    | zero => intro n hn; rw [show n = 0 by simpa using hn, digs_zero]; simp
    | succ k ih =>
      intro n hn
      by_cases h0 : n = 0
      · subst h0; rw [digs_zero]; simp
      · rw [digs_pos h0, List.length_cons]
        have := ih (n / 4294967296) (by rw [Nat.pow_succ] at hn; rw [Nat.div_lt_iff_lt_mul (by omega)]; exact hn)
        omega
  exact key _ _ (val_lt h)
theorem digs_len_lt {n k : Nat} (h : n < 4294967296 ^ k) : (digs n).length ≤ k := by
  have h2 := digs_len_le (l := (List.range k).map fun i => n / 4294967296 ^ i % 4294967296) (fun d hd => by
    obtain ⟨i, _, rfl⟩ := List.mem_map.1 hd; omega)
  have key : ∀ (k n : Nat), n < 4294967296 ^ k → (digs n).length ≤ k := by
    intro k
    induction k with
    | zero => intro n hn; rw [show n = 0 by simpa using hn, digs_zero]; simp
    | succ k ih =>
      intro n hn
      by_cases h0 : n = 0
      · subst h0; rw [digs_zero]; simp
      · rw [digs_pos h0, List.length_cons]
        have := ih (n / 4294967296) (by rw [Nat.pow_succ] at hn; rw [Nat.div_lt_iff_lt_mul (by omega)]; exact hn)
        omega
  exact key k n h
theorem digs_ge {n : Nat} (h : n ≠ 0) : 4294967296 ^ ((digs n).length - 1) ≤ n := by
  induction n using Nat.strongRecOn with
  | _ n ih =>
    rw [digs_pos h, List.length_cons, Nat.add_sub_cancel]
    by_cases h2 : n / 4294967296 = 0
    · rw [h2, digs_zero]; simp; omega
    · have := ih _ (by omega) h2
      have hl : (digs (n / 4294967296)).length ≠ 0 := by
        intro e; exact h2 (digs_nil_iff.1 (List.eq_nil_of_length_eq_zero e))
      obtain ⟨m, hm⟩ : ∃ m, (digs (n / 4294967296)).length = m + 1 := ⟨(digs (n / 4294967296)).length - 1, by omega⟩
      rw [hm] at this ⊢
      rw [Nat.add_sub_cancel] at this
      rw [Nat.pow_succ]
      omega

/-! ### Which is greater -/
def cmp (x y : Nat) : Int := if x < y then -1 else if y < x then 1 else 0
theorem cmp_lt {x y : Nat} (h : x < y) : cmp x y = -1 := if_pos h
theorem cmp_gt {x y : Nat} (h : y < x) : cmp x y = 1 := by unfold cmp; rw [if_neg (by omega), if_pos h]
theorem cmp_eq (x : Nat) : cmp x x = 0 := by unfold cmp; rw [if_neg (by omega), if_neg (by omega)]
/-- The highest place where two numbers of one length part decides. -/
theorem val_lt_of {a b : List Nat} {i : Nat} (ha : Ok a) (hi : i < a.length) (hi' : i < b.length) (hd : a.drop (i + 1) = b.drop (i + 1)) (hlt : a[i] < b[i]) : val a < val b := by
  have h1 := val_split a i (by omega)
  have h2 := val_split b i (by omega)
  rw [List.drop_eq_getElem_cons hi, val] at h1
  rw [List.drop_eq_getElem_cons hi', val, ← hd] at h2
  have h3 := val_lt (ok_take ha i)
  rw [List.length_take, Nat.min_eq_left (by omega)] at h3
  generalize val (a.drop (i + 1)) = r at h1 h2
  generalize a[i] = x at h1 hlt
  generalize b[i] = y at h2 hlt
  generalize 4294967296 ^ i = p at h1 h2 h3
  generalize val (a.take i) = s at h1 h3
  generalize val (b.take i) = t at h2
  have h4 : p * (x + 4294967296 * r) + p ≤ p * (y + 4294967296 * r) := by
    have h5 : p * (x + 4294967296 * r + 1) = p * (x + 4294967296 * r) + p := Nat.mul_succ _ _
    have h6 := Nat.mul_le_mul_left p (show x + 4294967296 * r + 1 ≤ y + 4294967296 * r by omega)
    omega
  omega
/-- More limbs, none of 0 on top: greater. -/
theorem digs_len_mono {x y : Nat} (h : (digs x).length < (digs y).length) : x < y := by
  have hy : y ≠ 0 := by rintro rfl; rw [digs_zero] at h; simp at h
  have h1 := digs_ge hy
  have h2 := val_lt (ok_digs x)
  rw [val_digs] at h2
  have h3 : (4294967296 : Nat) ^ (digs x).length ≤ 4294967296 ^ ((digs y).length - 1) := Nat.pow_le_pow_right (by omega) (by omega)
  omega
/-- Noughts laid on top, up to n limbs. -/
def pad (a : List Nat) (n : Nat) : List Nat := a ++ List.replicate (n - a.length) 0
theorem val_pad (a : List Nat) (n : Nat) : val (pad a n) = val a := by
  unfold pad
  rw [val_append, val_zeros (fun d hd => (List.mem_replicate.1 hd).2), Nat.mul_zero, Nat.add_zero]
theorem pad_len {a : List Nat} {n : Nat} (h : a.length ≤ n) : (pad a n).length = n := by simp [pad]; omega
theorem ok_pad {a : List Nat} (h : Ok a) (n : Nat) : Ok (pad a n) := fun d hd => by
  rcases List.mem_append.1 hd with h1 | h1
  · exact h d h1
  · rw [(List.mem_replicate.1 h1).2]; omega
theorem pad_get? {a : List Nat} {n i : Nat} (hi : i < (pad a n).length) : (pad a n)[i]? = some (a.getD i 0) := by
  unfold pad at hi ⊢
  rw [List.length_append, List.length_replicate] at hi
  rw [List.getD_eq_getElem?_getD, List.getElem?_append]
  split
  · rename_i h; rw [List.getElem?_eq_getElem h]; rfl
  · rename_i h
    rw [List.getElem?_replicate, if_pos (by omega), List.getElem?_eq_none (by omega)]
    rfl
theorem pad_get {a : List Nat} {n i : Nat} (hi : i < (pad a n).length) : (pad a n)[i] = a.getD i 0 := by
  have := pad_get? hi
  rw [List.getElem?_eq_getElem hi] at this
  exact Option.some.inj this

/-- Limbs that are worth enough are digits. -/
theorem eq_digs {l : List Nat} (ho : Ok l) (h : l ≠ [] → 4294967296 ^ (l.length - 1) ≤ val l) : digs (val l) = l := by
  refine digs_val ho fun hne hz => ?_
  have h1 := h hne
  have hl : 0 < l.length := List.length_pos_iff.2 hne
  have e : l = l.take (l.length - 1) ++ [0] := by
    have := List.dropLast_concat_getLast hne
    rw [hz, List.dropLast_eq_take] at this
    exact this.symm
  have hv : val l = val (l.take (l.length - 1)) := by
    have := congrArg val e
    rw [val_append] at this
    rw [this]
    simp [val]
  have h2 := val_lt (ok_take ho (l.length - 1))
  rw [List.length_take, Nat.min_eq_left (by omega)] at h2
  omega

/-! ### Sums, limb by limb -/
/-- What holds when k limbs are added: cur the limbs as they stand, c what is carried. -/
def AddAt (dp dq cur : List Nat) (k c : Nat) : Prop :=
  cur.length = dp.length ∧ Ok cur ∧ val (cur.take k) + c * 4294967296 ^ k = val (dp.take k) + val (dq.take k) ∧ cur.drop k = dp.drop k
theorem add_start {dp dq : List Nat} (h : Ok dp) : AddAt dp dq dp 0 0 := ⟨rfl, h, by simp [val], rfl⟩
theorem take_getD (l : List Nat) (k : Nat) : val (l.take (k + 1)) = val (l.take k) + 4294967296 ^ k * l.getD k 0 := by
  by_cases h : k < l.length
  · rw [val_take_succ h, List.getD_eq_getElem?_getD, List.getElem?_eq_getElem h]; rfl
  · rw [List.take_of_length_le (by omega), List.take_of_length_le (by omega), List.getD_eq_getElem?_getD, List.getElem?_eq_none (by omega)]
    simp
theorem set_take {l : List Nat} {k x : Nat} (h : k < l.length) : val ((l.set k x).take (k + 1)) = val (l.take k) + 4294967296 ^ k * x := by
  rw [val_take_succ (by simpa using h), List.getElem_set_self, List.take_set_of_le (Nat.le_refl _)]
theorem drop_set {l : List Nat} {k x : Nat} : (l.set k x).drop (k + 1) = l.drop (k + 1) := by
  rw [List.drop_set, if_pos (by omega)]
theorem add_get {dp dq cur : List Nat} {k c : Nat} (h : AddAt dp dq cur k c) (hk : k < dp.length) : cur[k]? = some dp[k] := by
  have : (cur.drop k)[0]? = (dp.drop k)[0]? := by rw [h.2.2.2]
  rw [List.getElem?_drop, List.getElem?_drop, Nat.add_zero, List.getElem?_eq_getElem hk] at this
  exact this
theorem add_step {dp dq cur : List Nat} {k c s d : Nat} (h : AddAt dp dq cur k c) (hk : k < dp.length) (hs : s < 4294967296) (e : dp[k] + dq.getD k 0 + c = s + 4294967296 * d) : AddAt dp dq (cur.set k s) (k + 1) d := by
  obtain ⟨h1, h2, h3, h4⟩ := h
  refine ⟨by simpa using h1, ok_set h2 hs, ?_, ?_⟩
  · rw [set_take (by omega), val_take_succ hk, take_getD, Nat.pow_succ]
    generalize 4294967296 ^ k = p at h3 ⊢
    generalize dp[k] = x at e ⊢
    generalize dq.getD k 0 = y at e ⊢
    grind
  · rw [drop_set]
    have := congrArg (List.drop 1) h4
    rw [List.drop_drop, List.drop_drop] at this
    exact this
theorem add_end {dp dq cur : List Nat} {k c : Nat} (h : AddAt dp dq cur k c) (hq : dq.length ≤ dp.length) (hk : k = dp.length ∨ (k ≤ dp.length ∧ c = 0 ∧ dq.length ≤ k)) : val cur + c * 4294967296 ^ dp.length = val dp + val dq := by
  obtain ⟨h1, h2, h3, h4⟩ := h
  rcases hk with rfl | ⟨hk, rfl, hqk⟩
  · rw [List.take_of_length_le (by omega), List.take_of_length_le (by omega), List.take_of_length_le (by omega)] at h3
    exact h3
  · rw [val_split cur k (by omega), val_split dp k hk, h4]
    rw [List.take_of_length_le (l := dq) hqk] at h3
    omega
/-- The digits of a sum: with nothing carried. -/
theorem add_done0 {x y : Nat} {cur : List Nat} (h : AddAt (digs x) (digs y) cur (digs x).length 0 ∨ ∃ k, AddAt (digs x) (digs y) cur k 0 ∧ k ≤ (digs x).length ∧ (digs y).length ≤ k) (hq : (digs y).length ≤ (digs x).length) : digs (x + y) = cur := by
  have key : val cur = x + y ∧ cur.length = (digs x).length ∧ Ok cur := by
    rcases h with h | ⟨k, h, h1, h2⟩
    · have := add_end h hq (.inl rfl)
      rw [val_digs, val_digs, Nat.zero_mul, Nat.add_zero] at this
      exact ⟨this, h.1, h.2.1⟩
    · have := add_end h hq (.inr ⟨h1, rfl, h2⟩)
      rw [val_digs, val_digs, Nat.zero_mul, Nat.add_zero] at this
      exact ⟨this, h.1, h.2.1⟩
  rw [← key.1]
  refine eq_digs key.2.2 fun hne => ?_
  rw [key.2.1, key.1]
  have hx : x ≠ 0 := by
    rintro rfl
    have := key.2.1
    rw [digs_zero] at this
    exact hne (List.eq_nil_of_length_eq_zero this)
  have := digs_ge hx
  omega
theorem add_done1 {x y : Nat} {cur : List Nat} (h : AddAt (digs x) (digs y) cur (digs x).length 1) (hq : (digs y).length ≤ (digs x).length) : digs (x + y) = cur ++ [1] := by
  have h2 := add_end h hq (.inl rfl)
  rw [val_digs, val_digs, Nat.one_mul] at h2
  have hv : val (cur ++ [1]) = x + y := by
    rw [val_append, h.1, ← h2]; simp [val]
  rw [← hv]
  refine eq_digs (fun d hd => ?_) fun _ => ?_
  · rcases List.mem_append.1 hd with h3 | h3
    · exact h.2.1 d h3
    · simp at h3; omega
  · rw [hv, List.length_append, List.length_singleton, Nat.add_sub_cancel, h.1, ← h2]
    omega

/-! ### Differences, limb by limb -/
def SubAt (dp dq cur : List Nat) (k c : Nat) : Prop :=
  cur.length = dp.length ∧ Ok cur ∧ val (cur.take k) + val (dq.take k) = val (dp.take k) + c * 4294967296 ^ k ∧ cur.drop k = dp.drop k
theorem sub_start {dp dq : List Nat} (h : Ok dp) : SubAt dp dq dp 0 0 := ⟨rfl, h, by simp [val], rfl⟩
theorem sub_get {dp dq cur : List Nat} {k c : Nat} (h : SubAt dp dq cur k c) (hk : k < dp.length) : cur[k]? = some dp[k] := by
  have : (cur.drop k)[0]? = (dp.drop k)[0]? := by rw [h.2.2.2]
  rw [List.getElem?_drop, List.getElem?_drop, Nat.add_zero, List.getElem?_eq_getElem hk] at this
  exact this
theorem sub_step {dp dq cur : List Nat} {k c s d : Nat} (h : SubAt dp dq cur k c) (hk : k < dp.length) (hs : s < 4294967296) (e : dp[k] + 4294967296 * d = s + dq.getD k 0 + c) : SubAt dp dq (cur.set k s) (k + 1) d := by
  obtain ⟨h1, h2, h3, h4⟩ := h
  refine ⟨by simpa using h1, ok_set h2 hs, ?_, ?_⟩
  · rw [set_take (by omega), val_take_succ hk, take_getD, Nat.pow_succ]
    generalize 4294967296 ^ k = p at h3 ⊢
    generalize dp[k] = x at e ⊢
    generalize dq.getD k 0 = y at e ⊢
    grind
  · rw [drop_set]
    have := congrArg (List.drop 1) h4
    rw [List.drop_drop, List.drop_drop] at this
    exact this
theorem sub_end {dp dq cur : List Nat} {k c : Nat} (h : SubAt dp dq cur k c) (hq : dq.length ≤ dp.length) (hle : val dq ≤ val dp) (hc : c ≤ 1) (hk : k = dp.length ∨ (k ≤ dp.length ∧ c = 0 ∧ dq.length ≤ k)) : val cur = val dp - val dq := by
  obtain ⟨h1, h2, h3, h4⟩ := h
  rcases hk with rfl | ⟨hk, rfl, hqk⟩
  · rw [List.take_of_length_le (by omega), List.take_of_length_le (by omega), List.take_of_length_le (by omega)] at h3
    have := val_lt h2
    rw [h1] at this
    generalize 4294967296 ^ dp.length = p at h3 this
    rcases Nat.eq_zero_or_pos c with h0 | h0
    · subst h0; omega
    · obtain rfl : c = 1 := by omega
      omega
  · rw [val_split cur k (by omega), val_split dp k hk, h4]
    rw [List.take_of_length_le (l := dq) hqk] at h3
    omega
theorem digs_len_le_of {x y : Nat} (h : y ≤ x) : (digs y).length ≤ (digs x).length := by
  rcases Nat.lt_or_ge (digs x).length (digs y).length with h1 | h1
  · have := digs_len_mono h1; omega
  · exact h1
theorem cmp_neg {x y : Nat} : cmp x y < 0 ↔ x < y := by
  unfold cmp
  split
  · simp_all
  · split <;> simp <;> omega

/-! ### The document's sums and differences: limbs laid on top, one by one -/
def AddUp (a b cur : List Nat) (k c : Nat) : Prop := cur.length = k ∧ Ok cur ∧ val cur + c * 4294967296 ^ k = val (a.take k) + val (b.take k)
theorem addUp_step {a b cur : List Nat} {k c : Nat} (h : AddUp a b cur k c) : AddUp a b (cur ++ [(a.getD k 0 + b.getD k 0 + c) % 4294967296]) (k + 1) ((a.getD k 0 + b.getD k 0 + c) / 4294967296) := by
  obtain ⟨h1, h2, h3⟩ := h
  refine ⟨by simp [h1], ?_, ?_⟩
  · intro d hd
    rcases List.mem_append.1 hd with h4 | h4
    · exact h2 d h4
    · simp at h4; omega
  · rw [val_append, take_getD, take_getD, h1, Nat.pow_succ]
    simp only [val, Nat.mul_zero, Nat.add_zero]
    have e : a.getD k 0 + b.getD k 0 + c = (a.getD k 0 + b.getD k 0 + c) % 4294967296 + 4294967296 * ((a.getD k 0 + b.getD k 0 + c) / 4294967296) := by omega
    generalize 4294967296 ^ k = p at h3 ⊢
    generalize (a.getD k 0 + b.getD k 0 + c) % 4294967296 = s at e ⊢
    generalize (a.getD k 0 + b.getD k 0 + c) / 4294967296 = d at e ⊢
    generalize a.getD k 0 = x at e ⊢
    generalize b.getD k 0 = y at e ⊢
    grind
theorem getD_lt {l : List Nat} (h : Ok l) (k : Nat) : l.getD k 0 < 4294967296 := by
  rw [List.getD_eq_getElem?_getD]
  rcases Nat.lt_or_ge k l.length with h1 | h1
  · rw [List.getElem?_eq_getElem h1]; exact ok_get h h1
  · rw [List.getElem?_eq_none h1]; show 0 < 4294967296; omega
theorem addUp_end {a b cur : List Nat} {n c : Nat} (ha : Ok a) (hb : Ok b) (hla : a.length ≤ n) (hlb : b.length ≤ n) (h : AddUp a b cur (n + 1) c) : val cur = val a + val b := by
  obtain ⟨h1, h2, h3⟩ := h
  rw [List.take_of_length_le (by omega), List.take_of_length_le (by omega)] at h3
  have p1 := val_lt ha
  have p2 := val_lt hb
  have q1 : (4294967296 : Nat) ^ a.length ≤ 4294967296 ^ n := Nat.pow_le_pow_right (by omega) hla
  have q2 : (4294967296 : Nat) ^ b.length ≤ 4294967296 ^ n := Nat.pow_le_pow_right (by omega) hlb
  rw [Nat.pow_succ] at h3
  generalize 4294967296 ^ n = p at *
  rcases Nat.eq_zero_or_pos c with h0 | h0
  · subst h0; omega
  · exfalso
    have : p * 4294967296 ≤ c * (p * 4294967296) := Nat.le_mul_of_pos_left _ h0
    omega
def SubUp (a b cur : List Nat) (k c : Nat) : Prop := cur.length = k ∧ Ok cur ∧ val cur + val (b.take k) = val (a.take k) + c * 4294967296 ^ k
theorem subUp_step {a b cur : List Nat} {k c s d : Nat} (h : SubUp a b cur k c) (hs : s < 4294967296) (e : a.getD k 0 + 4294967296 * d = s + b.getD k 0 + c) : SubUp a b (cur ++ [s]) (k + 1) d := by
  obtain ⟨h1, h2, h3⟩ := h
  refine ⟨by simp [h1], ?_, ?_⟩
  · intro d hd
    rcases List.mem_append.1 hd with h4 | h4
    · exact h2 d h4
    · simp at h4; omega
  · rw [val_append, take_getD, take_getD, h1, Nat.pow_succ]
    simp only [val, Nat.mul_zero, Nat.add_zero]
    generalize 4294967296 ^ k = p at h3 ⊢
    generalize a.getD k 0 = x at e ⊢
    generalize b.getD k 0 = y at e ⊢
    grind
theorem subUp_end {a b cur : List Nat} {n c : Nat} (hla : a.length ≤ n) (hlb : b.length ≤ n) (hle : val b ≤ val a) (h : SubUp a b cur n c) : val cur = val a - val b := by
  obtain ⟨h1, h2, h3⟩ := h
  rw [List.take_of_length_le (by omega), List.take_of_length_le (by omega)] at h3
  have := val_lt h2
  rw [h1] at this
  generalize 4294967296 ^ n = p at *
  rcases Nat.eq_zero_or_pos c with h0 | h0
  · subst h0; omega
  · exfalso
    have : p ≤ c * p := Nat.le_mul_of_pos_left _ h0
    omega
/-- Twice a number, and a bit. -/
def TwiceUp (a : List Nat) (bit : Nat) (cur : List Nat) (k c : Nat) : Prop := cur.length = k ∧ Ok cur ∧ val cur + c * 4294967296 ^ k = 2 * val (a.take k) + bit
theorem twiceUp_step {a cur : List Nat} {bit k c : Nat} (h : TwiceUp a bit cur k c) : TwiceUp a bit (cur ++ [(2 * a.getD k 0 + c) % 4294967296]) (k + 1) ((2 * a.getD k 0 + c) / 4294967296) := by
  obtain ⟨h1, h2, h3⟩ := h
  refine ⟨by simp [h1], ?_, ?_⟩
  · intro d hd
    rcases List.mem_append.1 hd with h4 | h4
    · exact h2 d h4
    · simp at h4; omega
  · rw [val_append, take_getD, h1, Nat.pow_succ]
    simp only [val, Nat.mul_zero, Nat.add_zero]
    have e : 2 * a.getD k 0 + c = (2 * a.getD k 0 + c) % 4294967296 + 4294967296 * ((2 * a.getD k 0 + c) / 4294967296) := by omega
    generalize 4294967296 ^ k = p at h3 ⊢
    generalize (2 * a.getD k 0 + c) % 4294967296 = s at e ⊢
    generalize (2 * a.getD k 0 + c) / 4294967296 = d at e ⊢
    generalize a.getD k 0 = x at e ⊢
    grind
theorem twiceUp_end {a cur : List Nat} {bit c : Nat} (ha : Ok a) (hb : bit ≤ 1) (h : TwiceUp a bit cur (a.length + 1) c) : val cur = 2 * val a + bit := by
  obtain ⟨h1, h2, h3⟩ := h
  rw [List.take_of_length_le (by omega)] at h3
  have p1 := val_lt ha
  rw [Nat.pow_succ] at h3
  generalize 4294967296 ^ a.length = p at *
  rcases Nat.eq_zero_or_pos c with h0 | h0
  · subst h0; omega
  · exfalso
    have : p * 4294967296 ≤ c * (p * 4294967296) := Nat.le_mul_of_pos_left _ h0
    omega
theorem ok_nil : Ok [] := fun d hd => by cases hd
theorem addUp_start (a b : List Nat) : AddUp a b [] 0 0 := ⟨rfl, ok_nil, by simp [val]⟩
theorem subUp_start (a b : List Nat) : SubUp a b [] 0 0 := ⟨rfl, ok_nil, by simp [val]⟩
theorem twiceUp_start (a : List Nat) (bit : Nat) : TwiceUp a bit [] 0 bit := ⟨rfl, ok_nil, by simp [val]⟩
/-- A bit of a number, out of its limb. -/
theorem bit_limb {a : List Nat} (ha : Ok a) (i : Nat) : a.getD (i / 32) 0 / 2 ^ (i % 32) % 2 = val a / 2 ^ i % 2 := by
  have key : ∀ (k : Nat) (l : List Nat), Ok l → val l / 4294967296 ^ k % 4294967296 = l.getD k 0 := by
    intro k
    induction k with
    | zero =>
      intro l hl
      cases l with
      | nil => simp [val]
      | cons d r => have := (ok_cons hl).1; simp [val]; omega
    | succ k ih =>
      intro l hl
      cases l with
      | nil => simp [val]
      | cons d r =>
        have h1 := (ok_cons hl).1
        rw [List.getD_cons_succ, ← ih r (ok_cons hl).2, val, Nat.pow_succ, Nat.mul_comm (4294967296 ^ k), ← Nat.div_div_eq_div_mul]
        rw [show (d + 4294967296 * val r) / 4294967296 = val r by omega]
  rw [← key _ a ha]
  have e : (2 : Nat) ^ i = 4294967296 ^ (i / 32) * 2 ^ (i % 32) := by
    rw [show (4294967296 : Nat) = 2 ^ 32 from rfl, ← Nat.pow_mul, ← Nat.pow_add, Nat.div_add_mod]
  rw [e, ← Nat.div_div_eq_div_mul]
  generalize val a / 4294967296 ^ (i / 32) = v
  have h32 : i % 32 < 32 := Nat.mod_lt _ (by omega)
  generalize i % 32 = j at h32
  have t0 : (v % 2 ^ 32).testBit j = v.testBit j := by rw [Nat.testBit_mod_two_pow, decide_eq_true h32, Bool.true_and]
  rw [Nat.testBit_eq_decide_div_mod_eq, Nat.testBit_eq_decide_div_mod_eq, decide_eq_decide, show (2 : Nat) ^ 32 = 4294967296 from rfl] at t0
  have m1 := Nat.mod_lt (v % 4294967296 / 2 ^ j) (show 0 < 2 by omega)
  have m2 := Nat.mod_lt (v / 2 ^ j) (show 0 < 2 by omega)
  generalize v % 4294967296 / 2 ^ j % 2 = p at *
  generalize v / 2 ^ j % 2 = q at *
  omega

/-! ### Bit by bit: the document's products and quotients -/
theorem half_step (v k : Nat) : v / 2 ^ k = 2 * (v / 2 ^ (k + 1)) + v / 2 ^ k % 2 := by
  rw [Nat.pow_succ, ← Nat.div_div_eq_div_mul]; omega
theorem len_mul {a b : List Nat} (ha : Ok a) (hb : Ok b) {x : Nat} (h : x ≤ val a * val b) : (digs x).length ≤ a.length + b.length := by
  refine digs_len_lt (Nat.lt_of_le_of_lt h ?_)
  rw [Nat.pow_add]
  exact Nat.mul_lt_mul'' (val_lt ha) (val_lt hb)
theorem len_le {a : List Nat} (ha : Ok a) {x : Nat} (h : x ≤ val a) : (digs x).length ≤ a.length := digs_len_lt (Nat.lt_of_le_of_lt h (val_lt ha))
theorem top_zero {a : List Nat} (ha : Ok a) : val a / 2 ^ (32 * a.length) = 0 := by
  refine Nat.div_eq_of_lt ?_
  rw [Nat.pow_mul]
  exact val_lt ha
theorem mul_step {v b k x bit : Nat} (hx : x = v / 2 ^ (k + 1) * b) (hb : bit = v / 2 ^ k % 2) : 2 * x + bit * b = v / 2 ^ k * b := by
  have := half_step v k
  rw [← hb] at this
  rw [this, hx]
  grind
theorem mul_le {v b k : Nat} : v / 2 ^ k * b ≤ v * b := Nat.mul_le_mul_right _ (Nat.div_le_self _ _)
theorem mul_le2 {v b k x : Nat} (hx : x = v / 2 ^ (k + 1) * b) : 2 * x ≤ v * b := by
  have h1 := half_step v k
  have h2 : 2 * (v / 2 ^ (k + 1)) ≤ v / 2 ^ k := by omega
  have h3 : 2 * x ≤ v / 2 ^ k * b := by
    rw [hx, ← Nat.mul_assoc]; exact Nat.mul_le_mul_right _ h2
  exact Nat.le_trans h3 mul_le
/-- One more bit of a quotient and a rest. -/
theorem div_step {n b q r bit : Nat} (hb : 0 < b) (hq : q = n / b) (hr : r = n % b) (hbit : bit ≤ 1) :
    (b ≤ 2 * r + bit → 2 * q + 1 = (2 * n + bit) / b ∧ 2 * r + bit - b = (2 * n + bit) % b) ∧ (¬ b ≤ 2 * r + bit → 2 * q + 0 = (2 * n + bit) / b ∧ 2 * r + bit = (2 * n + bit) % b) := by
  have h1 := Nat.div_add_mod n b
  have h2 := Nat.mod_lt n hb
  rw [← hq, ← hr] at h1
  rw [← hr] at h2
  constructor
  · intro h
    have e : 2 * n + bit = (2 * r + bit - b) + b * (2 * q + 1) := by
      have h3 : b * (2 * q + 1) = 2 * (b * q) + b := by grind
      omega
    rw [e, Nat.add_mul_div_left _ _ hb, Nat.add_mul_mod_self_left, Nat.div_eq_of_lt (by omega), Nat.mod_eq_of_lt (by omega)]
    exact ⟨by omega, rfl⟩
  · intro h
    have e : 2 * n + bit = (2 * r + bit) + b * (2 * q) := by
      have h3 : b * (2 * q) = 2 * (b * q) := by grind
      omega
    rw [e, Nat.add_mul_div_left _ _ hb, Nat.add_mul_mod_self_left, Nat.div_eq_of_lt (by omega), Nat.mod_eq_of_lt (by omega)]
    exact ⟨by omega, rfl⟩

/-- The quotient and the rest; 0 where there is nothing to divide by. -/
def quo (x y : Nat) : Nat := x / y
def rest (x y : Nat) : Nat := if y = 0 then 0 else x % y
theorem quo_zero (x : Nat) : quo x 0 = 0 := Nat.div_zero x
theorem rest_zero (x : Nat) : rest x 0 = 0 := if_pos rfl
theorem rest_pos {x y : Nat} (h : y ≠ 0) : rest x y = x % y := if_neg h

/-! ### Products, limb by limb -/
theorem val_set {l : List Nat} {k x : Nat} (h : k < l.length) : val (l.set k x) + 4294967296 ^ k * l[k] = val l + 4294967296 ^ k * x := by
  have h1 := val_split (l.set k x) (k + 1) (by rw [List.length_set]; exact h)
  have h2 := val_split l (k + 1) (by omega)
  rw [set_take h, drop_set] at h1
  rw [val_take_succ h] at h2
  omega
/-- What holds when x has been multiplied with j limbs. -/
def MulAt (cur0 db cur : List Nat) (x i j c : Nat) : Prop :=
  cur.length = cur0.length ∧ Ok cur ∧ c < 4294967296 ∧ val cur + c * 4294967296 ^ (i + j) = val cur0 + x * val (db.take j) * 4294967296 ^ i ∧ cur.drop (i + j) = cur0.drop (i + j)
theorem mul_start {cur0 db : List Nat} {x i : Nat} (h : Ok cur0) : MulAt cur0 db cur0 x i 0 0 := ⟨rfl, h, by omega, by simp [val], rfl⟩
theorem mulAt_step {cur0 db cur : List Nat} {x i j c o s d : Nat} (h : MulAt cur0 db cur x i j c) (hj : j < db.length) (hij : i + j < cur.length) (ho : o = cur[i + j]) (hs : s < 4294967296) (hd : d < 4294967296) (e : x * db[j] + o + c = s + 4294967296 * d) : MulAt cur0 db (cur.set (i + j) s) x i (j + 1) d := by
  obtain ⟨h1, h2, h3, h4, h5⟩ := h
  refine ⟨by simpa using h1, ok_set h2 hs, hd, ?_, ?_⟩
  · have hv := val_set (x := s) hij
    rw [← ho] at hv
    rw [val_take_succ hj]
    have hp : (4294967296 : Nat) ^ (i + (j + 1)) = 4294967296 ^ (i + j) * 4294967296 := by rw [← Nat.add_assoc, Nat.pow_succ]
    have hq : (4294967296 : Nat) ^ (i + j) = 4294967296 ^ j * 4294967296 ^ i := by rw [Nat.pow_add, Nat.mul_comm]
    rw [hp]
    rw [hq] at h4 hv ⊢
    generalize (4294967296 : Nat) ^ j = p at *
    generalize (4294967296 : Nat) ^ i = q at *
    generalize db[j] = y at *
    generalize val (cur.set (i + j) s) = V at *
    generalize val cur = V0 at *
    generalize val cur0 = V1 at *
    generalize val (db.take j) = D at *
    grind
  · rw [← Nat.add_assoc, drop_set]
    have := congrArg (List.drop 1) h5
    rw [List.drop_drop, List.drop_drop] at this
    exact this
theorem mulAt_end {cur0 db cur : List Nat} {x i c : Nat} (h : MulAt cur0 db cur x i db.length c) (hij : i + db.length < cur.length) (hz : cur0[i + db.length]? = some 0) : val (cur.set (i + db.length) c) = val cur0 + x * val db * 4294967296 ^ i := by
  obtain ⟨h1, h2, h3, h4, h5⟩ := h
  have hv := val_set (x := c) hij
  have : (cur.drop (i + db.length))[0]? = (cur0.drop (i + db.length))[0]? := by rw [h5]
  rw [List.getElem?_drop, List.getElem?_drop, Nat.add_zero, hz, List.getElem?_eq_getElem hij] at this
  rw [Option.some.inj this] at hv
  rw [List.take_length] at h4
  rw [Nat.mul_comm] at h4
  omega
/-- What holds when i limbs of the one have been multiplied with the other. -/
def MulOut (da db cur : List Nat) (i : Nat) : Prop :=
  cur.length = da.length + db.length ∧ Ok cur ∧ val cur = val (da.take i) * val db ∧ ∀ k, i + db.length ≤ k → k < cur.length → cur[k]? = some 0
theorem mulOut_start (da db : List Nat) : MulOut da db (List.replicate (da.length + db.length) 0) 0 := by
  refine ⟨by simp, fun d hd => ?_, ?_, fun k _ hk => ?_⟩
  · rw [(List.mem_replicate.1 hd).2]; omega
  · rw [val_zeros (fun d hd => (List.mem_replicate.1 hd).2)]; simp [val]
  · simp at hk; simp [hk]
theorem mulOut_step {da db cur0 cur : List Nat} {i c : Nat} (h : MulOut da db cur0 i) (hi : i < da.length) (hc : MulAt cur0 db cur da[i] i db.length c) : MulOut da db (cur.set (i + db.length) c) (i + 1) := by
  obtain ⟨h1, h2, h3, h4⟩ := h
  have hl : cur.length = cur0.length := hc.1
  have hij : i + db.length < cur.length := by rw [hl, h1]; omega
  refine ⟨by rw [List.length_set, hl, h1], ok_set hc.2.1 hc.2.2.1, ?_, fun k hk hk2 => ?_⟩
  · rw [mulAt_end hc hij (h4 _ (Nat.le_refl _) (by omega)), h3, val_take_succ hi]
    grind
  · rw [List.length_set] at hk2
    rw [List.getElem?_set_ne (by omega)]
    have : (cur.drop (i + db.length))[k - (i + db.length)]? = (cur0.drop (i + db.length))[k - (i + db.length)]? := by rw [hc.2.2.2.2]
    rw [List.getElem?_drop, List.getElem?_drop, show i + db.length + (k - (i + db.length)) = k by omega, h4 k (by omega) (by omega)] at this
    exact this
theorem mul_bound {x y : Nat} (hx : x < 4294967296) (hy : y < 4294967296) : x * y ≤ 18446744065119617025 := by
  have := Nat.mul_le_mul (Nat.le_of_lt_succ hx) (Nat.le_of_lt_succ hy)
  simpa using this

/-! ### Division by one limb, in place -/
def ShortAt (l : List Nat) (d : Nat) (cur : List Nat) (k r : Nat) : Prop :=
  cur.length = l.length ∧ Ok cur ∧ r < d ∧ cur.take k = l.take k ∧ val (cur.drop k) * d + r = val (l.drop k)
theorem short_start {l : List Nat} {d : Nat} (h : Ok l) (hd : 0 < d) : ShortAt l d l l.length 0 := ⟨rfl, h, hd, rfl, by simp [val]⟩
theorem short_get {l cur : List Nat} {d k r : Nat} (h : ShortAt l d cur (k + 1) r) (hk : k < l.length) : cur[k]? = some l[k] := by
  have : (cur.take (k + 1))[k]? = (l.take (k + 1))[k]? := by rw [h.2.2.2.1]
  rw [List.getElem?_take, List.getElem?_take, if_pos (by omega), if_pos (by omega), List.getElem?_eq_getElem hk] at this
  exact this
theorem short_bounds {r d x : Nat} (hr : r < d) (hd : d < 4294967296) (hx : x < 4294967296) : (r * 4294967296 + x) / d < 4294967296 ∧ r * 4294967296 + x < 18446744073709551616 ∧ (r * 4294967296 + x) % d < d := by
  refine ⟨?_, by omega, Nat.mod_lt _ (by omega)⟩
  rw [Nat.div_lt_iff_lt_mul (by omega)]
  have : (r + 1) * 4294967296 ≤ d * 4294967296 := Nat.mul_le_mul_right _ hr
  rw [Nat.mul_comm 4294967296 d]
  omega
theorem short_step {l cur : List Nat} {d k r : Nat} (h : ShortAt l d cur (k + 1) r) (hk : k < l.length) (hl : Ok l) (hd : d < 4294967296) : ShortAt l d (cur.set k ((r * 4294967296 + l[k]) / d)) k ((r * 4294967296 + l[k]) % d) := by
  obtain ⟨h1, h2, h3, h4, h5⟩ := h
  have hb := short_bounds h3 hd (ok_get hl hk)
  refine ⟨by simpa using h1, ok_set h2 hb.1, hb.2.2, ?_, ?_⟩
  · rw [List.take_set_of_le (Nat.le_refl _)]
    have := congrArg (List.take k) h4
    rwa [List.take_take, List.take_take, Nat.min_eq_left (by omega)] at this
  · have hc : k < cur.length := by omega
    rw [List.drop_eq_getElem_cons (by rw [List.length_set]; exact hc), List.getElem_set_self, drop_set, val, List.drop_eq_getElem_cons hk, val, ← h5]
    have e := Nat.div_add_mod (r * 4294967296 + l[k]) d
    generalize (r * 4294967296 + l[k]) / d = q at *
    generalize (r * 4294967296 + l[k]) % d = r' at *
    generalize l[k] = x at *
    generalize val (cur.drop (k + 1)) = V at *
    grind
theorem short_end {l cur : List Nat} {d r : Nat} (h : ShortAt l d cur 0 r) : val cur = val l / d ∧ r = val l % d := by
  obtain ⟨h1, h2, h3, h4, h5⟩ := h
  rw [List.drop_zero, List.drop_zero] at h5
  rw [← h5, Nat.mul_comm, Nat.mul_add_div (by omega), Nat.div_eq_of_lt h3, Nat.mul_add_mod, Nat.mod_eq_of_lt h3]
  exact ⟨by omega, rfl⟩
end Nt

set_option linter.unusedVariables false
namespace Nt
/-! ### Euclid's steps are few -/
def EucAt (M x y k : Nat) : Prop := (k = 0 ∧ x * y * 2 ≤ M) ∨ (y < x ∧ x * y * 2 ^ k ≤ M)
theorem euc_half {x y : Nat} (h : y < x) (hy : 0 < y) : y * (x % y) * 2 ≤ x * y := by
  have h1 : x % y + y ≤ x := by
    have e := Nat.div_add_mod x y
    have hq : 1 ≤ x / y := by rw [Nat.le_div_iff_mul_le hy]; omega
    have : y * 1 ≤ y * (x / y) := Nat.mul_le_mul_left _ hq
    omega
  have h2 : x % y < y := Nat.mod_lt _ hy
  have h3 : x % y * 2 ≤ x := by omega
  have h4 : y * (x % y * 2) ≤ y * x := Nat.mul_le_mul_left _ h3
  rw [Nat.mul_assoc, Nat.mul_comm x y]
  exact h4
theorem EucAt.step {M x y k : Nat} (h : EucAt M x y k) (hy : 0 < y) : EucAt M y (x % y) (k + 1) := by
  refine .inr ⟨Nat.mod_lt _ hy, ?_⟩
  rcases h with ⟨rfl, h⟩ | ⟨h1, h2⟩
  · have h3 : y * (x % y) ≤ y * x := Nat.mul_le_mul_left _ (Nat.mod_le _ _)
    rw [Nat.mul_comm x y] at h
    have h4 := Nat.mul_le_mul_right 2 h3
    simp only [Nat.zero_add, Nat.pow_one]
    omega
  · have h3 := euc_half h1 hy
    have h4 : y * (x % y) * 2 * 2 ^ k ≤ x * y * 2 ^ k := Nat.mul_le_mul_right _ h3
    rw [Nat.pow_succ, Nat.mul_comm (2 ^ k) 2, ← Nat.mul_assoc]
    omega
theorem EucAt.done {x y k n : Nat} (h : EucAt (2 ^ n) x y k) (hk : n < k) : y = 0 := by
  rcases h with ⟨rfl, h⟩ | ⟨h1, h2⟩
  · omega
  · rcases Nat.eq_zero_or_pos y with h0 | h0
    · exact h0
    · exfalso
      have h3 : 1 ≤ x * y := Nat.mul_pos (by omega) h0
      have h4 : 1 * 2 ^ k ≤ x * y * 2 ^ k := Nat.mul_le_mul_right _ h3
      have h5 : 2 ^ k ≤ 2 ^ n := by omega
      have h6 := (Nat.pow_le_pow_iff_right (a := 2) (by omega)).1 h5
      omega
theorem limbs_bits (n : Nat) : 4294967296 ^ n = 2 ^ (32 * n) := by rw [Nat.pow_mul, show 2 ^ 32 = 4294967296 from rfl]
theorem val_le_bits {a : List Nat} (ha : Ok a) {n : Nat} (la : a.length ≤ n) : val a ≤ 2 ^ (32 * n) := by
  have h1 := val_lt ha
  have h2 := Nat.pow_le_pow_right (n := 4294967296) (by omega) la
  rw [limbs_bits n] at h2
  exact Nat.le_of_lt (Nat.lt_of_lt_of_le h1 h2)
theorem euc_start {a b : List Nat} {n : Nat} (ha : Ok a) (hb : Ok b) (la : a.length ≤ n) (lb : b.length ≤ n) : EucAt (2 ^ (32 * n + 32 * n + 1)) (val a) (val b) 0 := by
  refine .inl ⟨rfl, ?_⟩
  have h3 := Nat.mul_le_mul_right 2 (Nat.mul_le_mul (val_le_bits ha la) (val_le_bits hb lb))
  rw [← Nat.pow_add, ← Nat.pow_succ] at h3
  exact h3
theorem gcd_step (x y : Nat) : Nat.gcd y (x % y) = Nat.gcd x y := by rw [Nat.gcd_comm x y, Nat.gcd_rec y x, Nat.gcd_comm]
theorem gcd_len {a b : List Nat} {n : Nat} (ha : Ok a) (hb : Ok b) (la : a.length ≤ n) (lb : b.length ≤ n) : (digs (Nat.gcd (val a) (val b))).length ≤ n := by
  rcases Nat.eq_zero_or_pos (val a) with h0 | h0
  · rw [h0, Nat.gcd_zero_left]
    exact Nat.le_trans (digs_len_le hb) lb
  · exact Nat.le_trans (len_le ha (Nat.gcd_le_left _ h0)) la
end Nt

/-
  Numbers as signs and limbs, plain: no program in sight. What Make and Right tell.
-/
namespace Rt
/-- A number as it is held. -/
structure Nm where
  neg : Bool
  top : List Nat
  bot : List Nat
deriving DecidableEq

def none_ : Nm := ⟨false, [], []⟩
/-- A sign, that is nothing to 0. -/
def nrm (n : Bool) (x : Nat) : Bool := n && !(x == 0)
/-- A number in lowest terms, or the error. -/
def mk (n1 n2 : Bool) (x y : Nat) : Nm × Int :=
  if y = 0 then (none_, 3)
  else if 32 < (Nt.digs (x / Nat.gcd x y)).length ∨ 32 < (Nt.digs (y / Nat.gcd x y)).length then (none_, 7)
  else (⟨!(x == 0) && (n1 != n2), Nt.digs (x / Nat.gcd x y), Nt.digs (y / Nat.gcd x y)⟩, 0)
/-- May a number be? -/
def right (a : Nm) : Bool := decide (a.top.length ≤ 32) && decide (a.bot.length ≤ 32) && ((mk a.neg false (Nt.val a.top) (Nt.val a.bot)).2 == 0) && decide ((mk a.neg false (Nt.val a.top) (Nt.val a.bot)).1 = a)
theorem mk_nrm (n1 n2 : Bool) (x y : Nat) : mk (nrm n1 x) (nrm n2 y) x y = mk n1 n2 x y := by
  unfold mk nrm
  by_cases hy : y = 0
  · rw [if_pos hy, if_pos hy]
  · rw [if_neg hy, if_neg hy]
    have e : (!(x == 0) && ((n1 && !(x == 0)) != (n2 && !(y == 0)))) = (!(x == 0) && (n1 != n2)) := by
      have h2 : (y == 0) = false := by simpa using hy
      rw [h2]
      cases (x == 0) <;> simp
    rw [e]
theorem div_gcd_zero {x y : Nat} (hy : y ≠ 0) : x / Nat.gcd x y = 0 ↔ x = 0 := by
  have hg : 0 < Nat.gcd x y := Nat.gcd_pos_of_pos_right _ (by omega)
  constructor
  · intro h
    rcases Nat.eq_zero_or_pos x with h0 | h0
    · exact h0
    · have h1 := Nat.le_of_dvd h0 (Nat.gcd_dvd_left x y)
      have h2 := Nat.div_pos h1 hg
      omega
  · rintro rfl; simp
/-- The parts of a number that may be. -/
theorem right_iff {a : Nm} (ho : Nt.Ok a.top) (ho' : Nt.Ok a.bot) : right a = true ↔ a.top.length ≤ 32 ∧ a.bot.length ≤ 32 ∧ Nt.Top a.top ∧ Nt.Top a.bot ∧ a.bot ≠ [] ∧ (a.top = [] → a.neg = false) ∧ Nat.gcd (Nt.val a.top) (Nt.val a.bot) = 1 := by
  obtain ⟨n, t, u⟩ := a
  unfold right
  simp only [Bool.and_eq_true, decide_eq_true_eq, beq_iff_eq]
  unfold mk
  dsimp only at ho ho' ⊢
  constructor
  · rintro ⟨⟨⟨h1, h2⟩, h3⟩, h4⟩
    by_cases hy : Nt.val u = 0
    · rw [if_pos hy] at h3; cases h3
    · rw [if_neg hy] at h3 h4
      by_cases hl : 32 < (Nt.digs (Nt.val t / Nat.gcd (Nt.val t) (Nt.val u))).length ∨ 32 < (Nt.digs (Nt.val u / Nat.gcd (Nt.val t) (Nt.val u))).length
      · rw [if_pos hl] at h3; cases h3
      · rw [if_neg hl] at h4
        injection h4 with e1 e2 e3
        have hg : 0 < Nat.gcd (Nt.val t) (Nt.val u) := Nat.gcd_pos_of_pos_right _ (by omega)
        have hu : Nt.val u / Nat.gcd (Nt.val t) (Nt.val u) = Nt.val u := by
          have := congrArg Nt.val e3
          rwa [Nt.val_digs] at this
        have hgcd : Nat.gcd (Nt.val t) (Nt.val u) = 1 := by
          have h5 := Nat.mul_div_cancel' (Nat.gcd_dvd_right (Nt.val t) (Nt.val u))
          rw [hu] at h5
          have h6 : Nat.gcd (Nt.val t) (Nt.val u) * Nt.val u = 1 * Nt.val u := by rw [h5, Nat.one_mul]
          exact Nat.eq_of_mul_eq_mul_right (by omega) h6
        refine ⟨h1, h2, ?_, ?_, ?_, ?_, hgcd⟩
        · rw [← e2]; exact Nt.top_digs _
        · rw [← e3]; exact Nt.top_digs _
        · rintro rfl; exact hy rfl
        · rintro rfl
          rw [← e1]; rfl
  · rintro ⟨h1, h2, h3, h4, h5, h6, h7⟩
    have hy : Nt.val u ≠ 0 := by
      intro h
      have := Nt.digs_val ho' h4
      rw [h, Nt.digs_zero] at this
      exact h5 this.symm
    rw [if_neg hy, h7, Nat.div_one, Nat.div_one, Nt.digs_val ho h3, Nt.digs_val ho' h4, if_neg (by omega)]
    refine ⟨⟨⟨h1, h2⟩, rfl⟩, ?_⟩
    congr 1
    cases hn : n
    · simp
    · by_cases ht : Nt.val t = 0
      · have := Nt.digs_val ho h3
        rw [ht, Nt.digs_zero] at this
        have := h6 this.symm
        rw [hn] at this; cases this
      · have : (Nt.val t == 0) = false := by simpa using ht
        rw [this]; rfl
end Rt

/-
  Which arrays may be, plain: no program in sight.
-/
namespace Ar
/-! ### How many cells a shape has, or the error -/
def prodN (n : Int) : List Int → Option Int
  | [] => some n
  | x :: r => if 2048 < n * x then none else prodN (n * x) r
def cnt (sh : List Int) : Int × Int :=
  if 6 < sh.length then (0, 7)
  else if sh.any (fun x => decide (x < 0)) then (0, 3)
  else if sh.any (fun x => decide (2048 < x)) then (0, 7)
  else if sh.any (fun x => x == 0) then (0, 0)
  else match prodN 1 sh with
    | some n => (n, 0)
    | none => (0, 7)
theorem any_take_succ {p : Int → Bool} {l : List Int} {k : Nat} (h : k < l.length) : (l.take (k + 1)).any p = ((l.take k).any p || p l[k]) := by
  rw [List.take_succ_eq_append_getElem h, List.any_append]; simp
theorem any_at {p : Int → Bool} {l : List Int} {k : Nat} (h : k < l.length) (hp : p l[k] = true) : l.any p = true := List.any_eq_true.2 ⟨_, List.getElem_mem h, hp⟩
theorem not_any_at {p : Int → Bool} {l : List Int} (h : l.any p = false) {k : Nat} (hk : k < l.length) : p l[k] = false := by
  cases e : p l[k]
  · rfl
  · rw [any_at hk e] at h; cases h
theorem prodN_drop {n : Int} {l : List Int} {k : Nat} (h : k < l.length) : prodN n (l.drop k) = if 2048 < n * l[k] then none else prodN (n * l[k]) (l.drop (k + 1)) := by
  rw [List.drop_eq_getElem_cons h, prodN]
theorem prodN_end {n : Int} {l : List Int} {k : Nat} (h : l.length ≤ k) : prodN n (l.drop k) = some n := by
  rw [List.drop_eq_nil_of_le h, prodN]
theorem prodN_bd : ∀ {l : List Int} {n m : Int}, (∀ x ∈ l, 1 ≤ x) → 1 ≤ n → n ≤ 2048 → prodN n l = some m → 1 ≤ m ∧ m ≤ 2048
  | [], n, m, _, h1, h2, h => by rw [prodN] at h; injection h with h; omega
  | x :: r, n, m, hx, h1, h2, h => by
    rw [prodN] at h
    by_cases hb : 2048 < n * x
    · rw [if_pos hb] at h; cases h
    · rw [if_neg hb] at h
      have hx1 := hx x List.mem_cons_self
      have : 1 * 1 ≤ n * x := Int.mul_le_mul h1 hx1 (by omega) (by omega)
      exact prodN_bd (fun y hy => hx y (List.mem_cons_of_mem _ hy)) (by omega) (by omega) h
theorem cnt_bd (sh : List Int) : 0 ≤ (cnt sh).1 ∧ (cnt sh).1 ≤ 2048 ∧ ((cnt sh).2 = 0 ∨ (cnt sh).2 = 3 ∨ (cnt sh).2 = 7) := by
  unfold cnt
  split
  · simp
  · split
    · simp
    · split
      · simp
      · split
        · simp
        · rename_i h1 h2 h3 h4
          have hx : ∀ x ∈ sh, 1 ≤ x := fun x hx => by
            have a2 : decide (x < 0) = false := by
              cases e : decide (x < 0)
              · rfl
              · exact absurd (List.any_eq_true.2 ⟨x, hx, e⟩) h2
            have a4 : (x == 0) = false := by
              cases e : (x == 0)
              · rfl
              · exact absurd (List.any_eq_true.2 ⟨x, hx, e⟩) h4
            simp at a2 a4; omega
          cases e : prodN 1 sh with
          | none => simp
          | some n => have := prodN_bd hx (by omega) (by omega) e; simp; omega

def mayB (c : Int) : Bool := decide (0 ≤ c) && decide (c ≤ 1114111) && (decide (c < 55296) || decide (57343 < c))
def simpleB : Arr → Bool
  | .mk _ sh [.mk _ k _ _ _ _ _] => sh.isEmpty && (k != 2)
  | _ => false
def zeroB (n : Bool) (t b : List Nat) : Bool := !n && t.isEmpty && b.isEmpty
mutual
/-- May an array be, with so many boxes within one another? -/
def rightA : Nat → Arr → Bool
  | d, .mk _ sh cells => ((cnt sh).2 == 0) && ((cnt sh).1 == (cells.length : Int)) && rightCels d cells
def rightCels : Nat → List Cel → Bool
  | _, [] => true
  | d, c :: r => rightCel d c && rightCels d r
def rightCel : Nat → Cel → Bool
  | d, .mk _ k n t b c ins => if k = 0 then (c == 0) && ins.isEmpty && Rt.right ⟨n, t, b⟩ else if k = 1 then zeroB n t b && ins.isEmpty && mayB c else (k == 2) && zeroB n t b && (c == 0) && decide (0 < d) && rightIns d ins
/-- The one array of a box. -/
def rightIns : Nat → List Arr → Bool
  | d, [a] => !simpleB a && rightA (d - 1) a
  | _, _ => false
end
theorem rightCels_drop {d : Nat} {cs : List Cel} {k : Nat} (h : k < cs.length) : rightCels d (cs.drop k) = (rightCel d cs[k] && rightCels d (cs.drop (k + 1))) := by
  rw [List.drop_eq_getElem_cons h, rightCels]
theorem rightCels_end {d : Nat} {cs : List Cel} {k : Nat} (h : cs.length ≤ k) : rightCels d (cs.drop k) = true := by
  rw [List.drop_eq_nil_of_le h, rightCels]
end Ar

/-
  Words for memory that the other texts use: a slice value that holds given cells ('Lies'), kept from world to world.
-/
namespace Go.Proofs.YtmiccalfamepdaaGreatDoor
open Go.RowKit

theorem ret_bool {a b : Bool} (h : a = b) : Ending.returned (.bool a) = .returned (.bool b) := by rw [h]
theorem ret_int {k : IntKind} {a b : Int} (h : a = b) : Ending.returned (.int k a) = .returned (.int k b) := by rw [h]
theorem ret_two {a b c d : Value} (h : a = c) (h' : b = d) : Ending.returned (.tuple #[a, b]) = .returned (.tuple #[c, d]) := by rw [h, h']

/-- The cells behind an address (if any is wanted at all) are these values, and lie below block B. -/
def Lies (w : World) (B : Nat) (A : Option Addr) (vs : List Value) : Prop :=
  vs = [] ∨ ∃ b off, A = some ⟨b, off, none⟩ ∧ b < B ∧ ∀ i v, vs[i]? = some v → w.cell? ⟨b, off + i, none⟩ = some v

theorem Lies.nil {w : World} {B : Nat} {A : Option Addr} : Lies w B A [] := .inl rfl
theorem Lies.keep {w w' : World} {B : Nat} {A : Option Addr} {vs : List Value} (h : Lies w B A vs) (hk : ∀ p : Addr, p.block < B → w'.cell? p = w.cell? p) : Lies w' B A vs := by
  rcases h with h | ⟨b, off, hA, hb, hc⟩
  · exact .inl h
  · exact .inr ⟨b, off, hA, hb, fun i v hv => (hk _ hb).trans (hc i v hv)⟩
theorem Lies.more {w : World} {B B' : Nat} {A : Option Addr} {vs : List Value} (h : Lies w B A vs) (hB : B ≤ B') : Lies w B' A vs := by
  rcases h with h | ⟨b, off, hA, hb, hc⟩
  · exact .inl h
  · exact .inr ⟨b, off, hA, by omega, hc⟩
theorem Lies.below {w w' : World} {B : Nat} {A : Option Addr} {vs : List Value} (h : Lies w B A vs) (hb : Below B w w') : Lies w' B A vs := h.keep fun _ hp => hb.cell hp
theorem Lies.drew {w : World} {B : Nat} {A : Option Addr} {vs : List Value} (h : Lies w B A vs) : Lies w.drew B A vs := h
theorem Lies.drewN {w : World} {B : Nat} {A : Option Addr} {vs : List Value} (h : Lies w B A vs) (n : Nat) : Lies (w.drewN n) B A vs := h
/-- The cell of a place that there is. -/
theorem Lies.at_ {w : World} {B : Nat} {A : Option Addr} {vs : List Value} (h : Lies w B A vs) {k : Nat} (hk : k < vs.length) :
    ∃ b off, A = some ⟨b, off, none⟩ ∧ b < B ∧ w.cell? ⟨b, off + k, none⟩ = some (vs[k]'hk) := by
  rcases h with h | ⟨b, off, hA, hb, hc⟩
  · subst h; simp at hk
  · exact ⟨b, off, hA, hb, hc k _ (List.getElem?_eq_getElem hk)⟩
theorem Lies.take {w : World} {B : Nat} {A : Option Addr} {vs : List Value} (h : Lies w B A vs) (n : Nat) : Lies w B A (vs.take n) := by
  rcases h with h | ⟨b, off, hA, hb, hc⟩
  · subst h; exact .inl (by simp)
  · refine .inr ⟨b, off, hA, hb, fun i v hv => hc i v ?_⟩
    rw [List.getElem?_take] at hv
    split at hv
    · exact hv
    · cases hv
/-- A row of the call's own, as such cells. -/
theorem Lies.of_own {w : World} {base : Nat} {e : TypeId} {size n c : Nat} {A : Option Addr} {xs : List Value} (h : w.ownsRow base e size (.slice A n c) n xs) : Lies w w.heap.size A xs := by
  rcases h.2 with ⟨hv, hx⟩ | ⟨g, cap, cur, hv, hb, hh, _⟩
  · exact .inl (List.eq_nil_of_length_eq_zero (by rw [h.1, hx, Nat.zero_mul]))
  · injection hv with hA
    subst hA
    have hlt := (h.lt g (by simp [Value.ownBlock])).2
    exact .inr ⟨g, 0, rfl, hlt, fun i v hv => by
      have := h.cells (g := g) (by simp [Value.ownBlock]) i v hv
      rw [Nat.zero_add]
      rw [← this]
      congr 1
      unfold Addr.add
      split
      · simp_all
      · simp⟩
/-- A row of the call's own is a slice. -/
theorem own_slice {w : World} {base : Nat} {e : TypeId} {size n : Nat} {v : Value} {xs : List Value} (h : w.ownsRow base e size v n xs) : ∃ A c, v = .slice A n c ∧ n ≤ c ∧ c ≤ maxLen := by
  rcases h.2 with ⟨hv, hx⟩ | ⟨g, cap, cur, hv, _, _, h1, h2, _⟩
  · subst hx; exact ⟨none, 0, hv, Nat.le_refl _, Nat.zero_le _⟩
  · exact ⟨_, cap, hv, h1, h2⟩
/-- The cells of a row of the call's own, by its block. -/
theorem own_cell {w : World} {base : Nat} {e : TypeId} {size n cap g : Nat} {xs : List Value} (h : w.ownsRow base e size (.slice (some ⟨g, 0, none⟩) n cap) n xs) (j : Nat) (v : Value) (hv : xs[j]? = some v) : w.cell? ⟨g, 0 + j, none⟩ = some v := by
  have := h.cells (g := g) rfl j v hv
  rw [Nat.zero_add, ← this]
  congr 1
  unfold Addr.add
  split
  · rename_i h; rw [h]
  · simp
/-- A block that was just made. -/
theorem Lies.new (w : World) (cs : List Value) (t : TypeId) : Lies (w.alloc (.cells cs.toArray t)) (w.heap.size + 1) (some ⟨w.heap.size, 0, none⟩) cs := by
  refine .inr ⟨w.heap.size, 0, rfl, by omega, fun i v hv => ?_⟩
  rw [cell_of_row (w.alloc (.cells cs.toArray t)) w.heap.size (0 + i) cs.toArray t (0, 0) (heap_alloc_new w _), Nat.zero_add]
  simpa using hv
end Go.Proofs.YtmiccalfamepdaaGreatDoor

/-
  Arrays in memory: what it is that cells hold a tree ('IsArr'), kept from world to world.
-/
namespace Go.Proofs.YtmiccalfamepdaaGreatDoor
open Go.RowKit Ar
set_option linter.unusedVariables false

/-- A slice value that holds n elements of so many bytes each. -/
def Fits (n c bytes : Nat) : Prop := n ≤ c ∧ n * bytes ≤ 140737488351232 ∧ c ≤ 9223372036854775807
theorem Fits.le {n c bytes : Nat} (h : Fits n c bytes) (hb : 1 ≤ bytes) : n ≤ c ∧ n ≤ 140737488351232 := by
  refine ⟨h.1, ?_⟩
  have h1 := Nat.mul_le_mul_left n hb
  have h2 := h.2.1
  omega
def Wf64 (l : List Int) : Prop := ∀ n ∈ l, -9223372036854775808 ≤ n ∧ n ≤ 9223372036854775807
def Wf32 (l : List Nat) : Prop := ∀ n ∈ l, n < 4294967296
def I64 (l : List Int) : List Value := l.map (Value.int .i64)
def U32 (l : List Nat) : List Value := l.map fun n : Nat => Value.int .u32 (n : Int)

mutual
/-- Three cells hold an array. -/
def IsArr (w : World) (B : Nat) : Arr → List Value → Prop
  | .mk S shape cells, vs => ∃ A c A' c' us, vs = [.int .u64 (S : Int), .slice A shape.length c, .slice A' cells.length c'] ∧ S < 18446744073709551616 ∧ Fits shape.length c 8 ∧ Fits cells.length c' 104 ∧ Wf64 shape ∧
      Lies w B A (I64 shape) ∧ Lies w B A' us ∧ IsCels w B cells us
def IsCels (w : World) (B : Nat) : List Cel → List Value → Prop
  | [], vs => vs = []
  | c :: r, vs => ∃ u t, vs = u ++ t ∧ IsCel w B c u ∧ IsCels w B r t
/-- Seven cells hold a cell. -/
def IsCel (w : World) (B : Nat) : Cel → List Value → Prop
  | .mk L kind neg top bot ch ins, vs => ∃ A c A' c' A'' c'' us, vs = [.int .u64 (L : Int), .int .i64 kind, .bool neg, .slice A top.length c, .slice A' bot.length c', .int .i64 ch, .slice A'' ins.length c''] ∧
      L < 18446744073709551616 ∧ Fits top.length c 4 ∧ Fits bot.length c' 4 ∧ Fits ins.length c'' 56 ∧ Wf64 [kind, ch] ∧ Wf32 top ∧ Wf32 bot ∧ Lies w B A (U32 top) ∧ Lies w B A' (U32 bot) ∧ Lies w B A'' us ∧ IsArrs w B ins us ∧ (A = none → c = 0) ∧ (A' = none → c' = 0)
def IsArrs (w : World) (B : Nat) : List Arr → List Value → Prop
  | [], vs => vs = []
  | a :: r, vs => ∃ u t, vs = u ++ t ∧ IsArr w B a u ∧ IsArrs w B r t
end

theorem IsArr.len {w : World} {B : Nat} {a : Arr} {vs : List Value} (h : IsArr w B a vs) : vs.length = 3 := by
  cases a; rw [IsArr] at h
  obtain ⟨A, c, A', c', us, rfl, _⟩ := h
  rfl
theorem IsCel.len {w : World} {B : Nat} {a : Cel} {vs : List Value} (h : IsCel w B a vs) : vs.length = 7 := by
  cases a; rw [IsCel] at h
  obtain ⟨A, c, A', c', A2, c2, us, rfl, _⟩ := h
  rfl

mutual
theorem IsArr.keep {w w' : World} {B B' : Nat} (hk : ∀ p : Addr, p.block < B → w'.cell? p = w.cell? p) (hB : B ≤ B') : ∀ (a : Arr) (vs : List Value), IsArr w B a vs → IsArr w' B' a vs
  | .mk S shape cells, vs, h => by
    rw [IsArr] at h ⊢
    obtain ⟨A, c, A', c', us, h1, h2, h3, h4, h5, h6, h7, h8⟩ := h
    exact ⟨A, c, A', c', us, h1, h2, h3, h4, h5, (h6.keep hk).more hB, (h7.keep hk).more hB, IsCels.keep hk hB cells us h8⟩
theorem IsCels.keep {w w' : World} {B B' : Nat} (hk : ∀ p : Addr, p.block < B → w'.cell? p = w.cell? p) (hB : B ≤ B') : ∀ (a : List Cel) (vs : List Value), IsCels w B a vs → IsCels w' B' a vs
  | [], vs, h => by rw [IsCels] at h ⊢; exact h
  | c :: r, vs, h => by
    rw [IsCels] at h ⊢
    obtain ⟨u, t, h1, h2, h3⟩ := h
    exact ⟨u, t, h1, IsCel.keep hk hB c u h2, IsCels.keep hk hB r t h3⟩
theorem IsCel.keep {w w' : World} {B B' : Nat} (hk : ∀ p : Addr, p.block < B → w'.cell? p = w.cell? p) (hB : B ≤ B') : ∀ (a : Cel) (vs : List Value), IsCel w B a vs → IsCel w' B' a vs
  | .mk L kind neg top bot ch ins, vs, h => by
    rw [IsCel] at h ⊢
    obtain ⟨A, c, A', c', A2, c2, us, h1, h2, h3, h4, h5, h6, h7, h8, h9, h10, h11, h12⟩ := h
    exact ⟨A, c, A', c', A2, c2, us, h1, h2, h3, h4, h5, h6, h7, h8, (h9.keep hk).more hB, (h10.keep hk).more hB, (h11.keep hk).more hB, IsArrs.keep hk hB ins us h12.1, h12.2⟩
theorem IsArrs.keep {w w' : World} {B B' : Nat} (hk : ∀ p : Addr, p.block < B → w'.cell? p = w.cell? p) (hB : B ≤ B') : ∀ (a : List Arr) (vs : List Value), IsArrs w B a vs → IsArrs w' B' a vs
  | [], vs, h => by rw [IsArrs] at h ⊢; exact h
  | c :: r, vs, h => by
    rw [IsArrs] at h ⊢
    obtain ⟨u, t, h1, h2, h3⟩ := h
    exact ⟨u, t, h1, IsArr.keep hk hB c u h2, IsArrs.keep hk hB r t h3⟩
end
theorem IsArr.below {w w' : World} {B : Nat} {a : Arr} {vs : List Value} (h : IsArr w B a vs) (hb : Below B w w') : IsArr w' B a vs := IsArr.keep (fun _ hp => hb.cell hp) (Nat.le_refl _) a vs h
theorem IsArr.more {w : World} {B B' : Nat} {a : Arr} {vs : List Value} (h : IsArr w B a vs) (hB : B ≤ B') : IsArr w B' a vs := IsArr.keep (fun _ _ => rfl) hB a vs h
theorem IsCel.below {w w' : World} {B : Nat} {a : Cel} {vs : List Value} (h : IsCel w B a vs) (hb : Below B w w') : IsCel w' B a vs := IsCel.keep (fun _ hp => hb.cell hp) (Nat.le_refl _) a vs h
theorem IsArrs.below {w w' : World} {B : Nat} {a : List Arr} {vs : List Value} (h : IsArrs w B a vs) (hb : Below B w w') : IsArrs w' B a vs := IsArrs.keep (fun _ hp => hb.cell hp) (Nat.le_refl _) a vs h
theorem IsCels.below {w w' : World} {B : Nat} {a : List Cel} {vs : List Value} (h : IsCels w B a vs) (hb : Below B w w') : IsCels w' B a vs := IsCels.keep (fun _ hp => hb.cell hp) (Nat.le_refl _) a vs h

theorem IsCels.at_ {w : World} {B : Nat} : ∀ {cs : List Cel} {vs : List Value} (h : IsCels w B cs vs) {k : Nat} (hk : k < cs.length), ∃ u, IsCel w B cs[k] u ∧ u = (vs.drop (7 * k)).take 7
  | [], _, _, _, hk => by simp at hk
  | c :: r, vs, h, 0, _ => by
    rw [IsCels] at h
    obtain ⟨u, t, rfl, h2, h3⟩ := h
    exact ⟨u, h2, by simp [h2.len]⟩
  | c :: r, vs, h, k + 1, hk => by
    rw [IsCels] at h
    obtain ⟨u, t, rfl, h2, h3⟩ := h
    obtain ⟨u', h4, h5⟩ := h3.at_ (k := k) (by simpa using hk)
    refine ⟨u', h4, h5.trans ?_⟩
    rw [show 7 * (k + 1) = u.length + 7 * k by rw [h2.len]; omega, List.drop_append, List.drop_eq_nil_of_le (Nat.le_add_right _ _), Nat.add_sub_cancel_left, List.nil_append]
theorem IsArrs.at_ {w : World} {B : Nat} : ∀ {cs : List Arr} {vs : List Value} (h : IsArrs w B cs vs) {k : Nat} (hk : k < cs.length), ∃ u, IsArr w B cs[k] u ∧ u = (vs.drop (3 * k)).take 3
  | [], _, _, _, hk => by simp at hk
  | c :: r, vs, h, 0, _ => by
    rw [IsArrs] at h
    obtain ⟨u, t, rfl, h2, h3⟩ := h
    exact ⟨u, h2, by simp [h2.len]⟩
  | c :: r, vs, h, k + 1, hk => by
    rw [IsArrs] at h
    obtain ⟨u, t, rfl, h2, h3⟩ := h
    obtain ⟨u', h4, h5⟩ := h3.at_ (k := k) (by simpa using hk)
    refine ⟨u', h4, h5.trans ?_⟩
    rw [show 3 * (k + 1) = u.length + 3 * k by rw [h2.len]; omega, List.drop_append, List.drop_eq_nil_of_le (Nat.le_add_right _ _), Nat.add_sub_cancel_left, List.nil_append]
theorem IsCels.len {w : World} {B : Nat} : ∀ {cs : List Cel} {vs : List Value} (h : IsCels w B cs vs), vs.length = 7 * cs.length
  | [], _, h => by rw [IsCels] at h; subst h; rfl
  | c :: r, vs, h => by
    rw [IsCels] at h
    obtain ⟨u, t, rfl, h2, h3⟩ := h
    rw [List.length_append, h2.len, h3.len, List.length_cons]; omega
theorem IsArrs.len {w : World} {B : Nat} : ∀ {cs : List Arr} {vs : List Value} (h : IsArrs w B cs vs), vs.length = 3 * cs.length
  | [], _, h => by rw [IsArrs] at h; subst h; rfl
  | c :: r, vs, h => by
    rw [IsArrs] at h
    obtain ⟨u, t, rfl, h2, h3⟩ := h
    rw [List.length_append, h2.len, h3.len, List.length_cons]; omega
theorem IsCels.snoc {w : World} {B : Nat} : ∀ {cs : List Cel} {vs : List Value} (h : IsCels w B cs vs) {c : Cel} {u : List Value} (hc : IsCel w B c u), IsCels w B (cs ++ [c]) (vs ++ u)
  | [], vs, h, c, u, hc => by
    rw [IsCels] at h; subst h
    show IsCels w B [c] _
    rw [IsCels]; exact ⟨u, [], by simp, hc, by rw [IsCels]⟩
  | x :: r, vs, h, c, u, hc => by
    rw [IsCels] at h
    obtain ⟨u', t, rfl, h2, h3⟩ := h
    show IsCels w B (x :: (r ++ [c])) _
    rw [IsCels]; exact ⟨u', t ++ u, by simp, h2, h3.snoc hc⟩
theorem IsArrs.snoc {w : World} {B : Nat} : ∀ {cs : List Arr} {vs : List Value} (h : IsArrs w B cs vs) {c : Arr} {u : List Value} (hc : IsArr w B c u), IsArrs w B (cs ++ [c]) (vs ++ u)
  | [], vs, h, c, u, hc => by
    rw [IsArrs] at h; subst h
    show IsArrs w B [c] _
    rw [IsArrs]; exact ⟨u, [], by simp, hc, by rw [IsArrs]⟩
  | x :: r, vs, h, c, u, hc => by
    rw [IsArrs] at h
    obtain ⟨u', t, rfl, h2, h3⟩ := h
    show IsArrs w B (x :: (r ++ [c])) _
    rw [IsArrs]; exact ⟨u', t ++ u, by simp, h2, h3.snoc hc⟩

/-- The cells of the k-th element of a row of elements of so many cells each. -/
theorem Lies.elem {w : World} {B : Nat} {A : Option Addr} {vs : List Value} (h : Lies w B A vs) {m k : Nat} {u : List Value} (hu : u = (vs.drop (m * k)).take m) (hn : u ≠ []) :
    ∃ b off, A = some ⟨b, off, none⟩ ∧ b < B ∧ ∀ j v, u[j]? = some v → w.cell? ⟨b, off + k * m + j, none⟩ = some v := by
  rcases h with h | ⟨b, off, hA, hb, hc⟩
  · subst h; simp at hu; exact absurd hu hn
  · refine ⟨b, off, hA, hb, fun j v hv => ?_⟩
    have := hc (k * m + j) v (by
      rw [hu, List.getElem?_take] at hv
      split at hv
      · rw [List.getElem?_drop] at hv; rw [← hv, Nat.mul_comm]
      · cases hv)
    rw [← this, Nat.add_assoc]

/-- What stands behind the slices of a cell. -/
structure CelIn (w : World) (B : Nat) (ce : Cel) (L : Nat) (kind : Int) (neg : Bool) (top bot : List Nat) (ch : Int) (ins : List Arr) (A1 A2 A3 : Option Addr) (c1 c2 c3 : Nat) (us : List Value) : Prop where
  eq : ce = .mk L kind neg top bot ch ins
  lt : Lies w B A1 (U32 top)
  lb : Lies w B A2 (U32 bot)
  li : Lies w B A3 us
  arrs : IsArrs w B ins us
  wt : Wf32 top
  wb : Wf32 bot
  wk : Wf64 [kind, ch]
  ft : Fits top.length c1 4
  fb : Fits bot.length c2 4
  fi : Fits ins.length c3 56
  nt : A1 = none → c1 = 0
  nb : A2 = none → c2 = 0
/-- The k-th cell of an array, read. -/
theorem cel_at {w wr : World} {B : Nat} {A : Option Addr} {cells : List Cel} {us : List Value} {k : Nat} (hcs : IsCels w B cells us) (hl : Lies w B A us) (hk : ∀ p : Addr, p.block < B → wr.cell? p = w.cell? p) (hlt : k < cells.length) :
    ∃ b off L kind neg top bot ch ins A1 c1 A2 c2 A3 c3 us3, A = some ⟨b, off, none⟩ ∧ b < B ∧ L < 18446744073709551616 ∧ Hid (CelIn w B cells[k] L kind neg top bot ch ins A1 A2 A3 c1 c2 c3 us3) ∧
      top.length ≤ c1 ∧ top.length ≤ 35184372088832 ∧ bot.length ≤ c2 ∧ bot.length ≤ 35184372088832 ∧ ins.length ≤ c3 ∧ ins.length ≤ 35184372088832 ∧
      wr.cell? ⟨b, off + k * 7, none⟩ = some (.int .u64 (L : Int)) ∧ wr.cell? ⟨b, off + k * 7 + 1, none⟩ = some (.int .i64 kind) ∧ wr.cell? ⟨b, off + k * 7 + 2, none⟩ = some (.bool neg) ∧
      wr.cell? ⟨b, off + k * 7 + 3, none⟩ = some (.slice A1 top.length c1) ∧ wr.cell? ⟨b, off + k * 7 + 4, none⟩ = some (.slice A2 bot.length c2) ∧ wr.cell? ⟨b, off + k * 7 + 5, none⟩ = some (.int .i64 ch) ∧
      wr.cell? ⟨b, off + k * 7 + 6, none⟩ = some (.slice A3 ins.length c3) := by
  obtain ⟨u, hu, hue⟩ := hcs.at_ hlt
  obtain ⟨b, off, rfl, hb, hcell⟩ := hl.elem hue (by intro h; have := hu.len; rw [h] at this; cases this)
  obtain ⟨ce, hce⟩ : ∃ ce, ce = cells[k] := ⟨_, rfl⟩
  rw [← hce] at hu ⊢
  obtain ⟨L, kind, neg, top, bot, ch, ins⟩ := ce
  rw [IsCel] at hu
  obtain ⟨A1, c1, A2, c2, A3, c3, us3, rfl, hL, hf1, hf2, hf3, hw1, hw2, hw3, hl1, hl2, hl3, hins, hnt, hnb⟩ := hu
  have hc : ∀ j v, [Value.int .u64 (L : Int), .int .i64 kind, .bool neg, .slice A1 top.length c1, .slice A2 bot.length c2, .int .i64 ch, .slice A3 ins.length c3][j]? = some v → wr.cell? ⟨b, off + k * 7 + j, none⟩ = some v := fun j v hv => (hk ⟨b, off + k * 7 + j, none⟩ hb).trans (hcell j v hv)
  have h1 := hf1.2
  have h2 := hf2.2
  have h3 := hf3.2
  exact ⟨b, off, L, kind, neg, top, bot, ch, ins, A1, c1, A2, c2, A3, c3, us3, rfl, hb, hL, Lib.hid ⟨rfl, hl1, hl2, hl3, hins, hw2, hw3, hw1, hf1, hf2, hf3, hnt, hnb⟩, hf1.1, by omega, hf2.1, by omega, hf3.1, by omega, hc 0 _ rfl, hc 1 _ rfl, hc 2 _ rfl, hc 3 _ rfl, hc 4 _ rfl, hc 5 _ rfl, hc 6 _ rfl⟩
/-- The form of an array's three cells. -/
theorem IsArr.form {w : World} {B : Nat} {a : Arr} {vs : List Value} (h : IsArr w B a vs) : ∃ (S : Nat) (A : Option Addr) (n c : Nat) (A' : Option Addr) (n' c' : Nat), vs = [.int .u64 (S : Int), .slice A n c, .slice A' n' c'] := by
  cases a; rw [IsArr] at h
  obtain ⟨A, c, A', c', us, rfl, _⟩ := h
  exact ⟨_, _, _, _, _, _, _, rfl⟩
/-- The k-th array of a list of arrays, read. -/
theorem arr_at {w wr : World} {B : Nat} {A : Option Addr} {arrs : List Arr} {us : List Value} {k : Nat} (hcs : IsArrs w B arrs us) (hl : Lies w B A us) (hk : ∀ p : Addr, p.block < B → wr.cell? p = w.cell? p) (hlt : k < arrs.length) :
    ∃ (b off S' : Nat) (X : Option Addr) (n c : Nat) (X' : Option Addr) (n' c' : Nat), A = some ⟨b, off, none⟩ ∧ b < B ∧ Hid (IsArr w B arrs[k] [.int .u64 (S' : Int), .slice X n c, .slice X' n' c']) ∧ wr.cell? ⟨b, off + k * 3, none⟩ = some (.int .u64 (S' : Int)) ∧ wr.cell? ⟨b, off + k * 3 + 1, none⟩ = some (.slice X n c) ∧ wr.cell? ⟨b, off + k * 3 + 2, none⟩ = some (.slice X' n' c') := by
  obtain ⟨u, hu, hue⟩ := hcs.at_ hlt
  obtain ⟨b, off, rfl, hb, hcell⟩ := hl.elem hue (by intro h; have := hu.len; rw [h] at this; cases this)
  obtain ⟨S, X, n, c, X', n', c', rfl⟩ := hu.form
  have hc : ∀ j v, [Value.int .u64 (S : Int), .slice X n c, .slice X' n' c'][j]? = some v → wr.cell? ⟨b, off + k * 3 + j, none⟩ = some v := fun j v hv => (hk ⟨b, off + k * 3 + j, none⟩ hb).trans (hcell j v hv)
  exact ⟨b, off, S, X, n, c, X', n', c', rfl, hb, Lib.hid hu, hc 0 _ rfl, hc 1 _ rfl, hc 2 _ rfl⟩
mutual
theorem tot_lt {w : World} {B : Nat} : ∀ (a : Arr) (vs : List Value), IsArr w B a vs → tot a < 18446744073709551616
  | .mk S shape cells, vs, h => by
    rw [IsArr] at h
    obtain ⟨A, c, A', c', us, h1, h2, h3, h4, h5, h6, h7, h8⟩ := h
    exact totCels_lt cells us S h8 h2
theorem totCels_lt {w : World} {B : Nat} : ∀ (a : List Cel) (vs : List Value) (x : Nat), IsCels w B a vs → x < 18446744073709551616 → totCels x a < 18446744073709551616
  | [], vs, x, h, hx => by rw [totCels]; exact hx
  | c :: r, vs, x, h, hx => by
    rw [IsCels] at h
    obtain ⟨u, t, h1, h2, h3⟩ := h
    rw [totCels]
    exact totCels_lt r t _ h3 (totCel_lt c u x h2 hx)
theorem totCel_lt {w : World} {B : Nat} : ∀ (a : Cel) (vs : List Value) (x : Nat), IsCel w B a vs → x < 18446744073709551616 → totCel x a < 18446744073709551616
  | .mk L kind neg top bot ch ins, vs, x, h, hx => by
    rw [IsCel] at h
    obtain ⟨A, c, A', c', A2, c2, us, h1, h2, h3, h4, h5, h6, h7, h8, h9, h10, h11, h12⟩ := h
    rw [totCel]
    exact totArrs_lt ins us _ h12.1 (Nat.or_lt_two_pow (n := 64) hx h2)
theorem totArrs_lt {w : World} {B : Nat} : ∀ (a : List Arr) (vs : List Value) (x : Nat), IsArrs w B a vs → x < 18446744073709551616 → totArrs x a < 18446744073709551616
  | [], vs, x, h, hx => by rw [totArrs]; exact hx
  | c :: r, vs, x, h, hx => by
    rw [IsArrs] at h
    obtain ⟨u, t, h1, h2, h3⟩ := h
    rw [totArrs]
    exact totArrs_lt r t _ h3 (Nat.or_lt_two_pow (n := 64) hx (tot_lt c u h2))
end
theorem size_ins {S : Nat} {shape : List Int} {cells : List Cel} {k : Nat} (hk : k < cells.length) {L : Nat} {kind : Int} {neg : Bool} {top bot : List Nat} {ch : Int} {ins : List Arr} (he : cells[k] = .mk L kind neg top bot ch ins) {i : Nat} (hi : i < ins.length) :
    SizeOf.sizeOf ins[i] < SizeOf.sizeOf (Arr.mk S shape cells) := by
  have h1 := List.sizeOf_lt_of_mem (List.getElem_mem hi)
  have h2 := List.sizeOf_lt_of_mem (List.getElem_mem hk)
  rw [he] at h2
  simp only [Arr.mk.sizeOf_spec, Cel.mk.sizeOf_spec] at *
  omega
end Go.Proofs.YtmiccalfamepdaaGreatDoor

/-
  Lists compared: slices.Equal, and the reference's. (Printed by wip/bin/gen_same1.py.)
-/
namespace Go.Proofs.YtmiccalfamepdaaGreatDoor
open Go.RowKit Ar
set_option maxHeartbeats 1000000
set_option linter.unusedVariables false

theorem beq_at {α : Type} [BEq α] [LawfulBEq α] {l l' : List α} {k : Nat} (h : k < l.length) (h' : k < l'.length) (hne : l[k] ≠ l'[k]) : (l == l') = false := by
  rw [beq_eq_false_iff_ne]
  rintro rfl
  exact hne rfl
theorem beq_take {α : Type} [BEq α] [LawfulBEq α] {l l' : List α} {k : Nat} (hl : l.length = l'.length) (hk : k = l.length) (h : l.take k = l'.take k) : (l == l') = true := by
  rw [beq_iff_eq]
  rwa [hk, List.take_length, hl, List.take_length] at h
theorem beq_len {α : Type} [BEq α] [LawfulBEq α] {l l' : List α} (h : l.length ≠ l'.length) : (l == l') = false := by
  rw [beq_eq_false_iff_ne]
  rintro rfl
  exact h rfl
theorem take_more {α : Type} {l l' : List α} {k : Nat} (h : k < l.length) (h' : k < l'.length) (he : l.take k = l'.take k) (hk : l[k] = l'[k]) : l.take (k + 1) = l'.take (k + 1) := by
  rw [List.take_succ_eq_append_getElem h, List.take_succ_eq_append_getElem h', he, hk]
theorem below_drewN' {B : Nat} {w w' : World} (h : Below B w w') (n : Nat) : Below B w (w'.drewN n) := ⟨h.os, h.tape, h.output, h.size, h.block⟩
theorem lies_i64 {w : World} {B : Nat} {A : Option Addr} {l : List Int} (h : Lies w B A (I64 l)) {k : Nat} (hk : k < l.length) : ∃ b off, A = some ⟨b, off, none⟩ ∧ b < B ∧ w.cell? ⟨b, off + k, none⟩ = some (.int .i64 l[k]) := by
  obtain ⟨b, off, h1, h2, h3⟩ := h.at_ (k := k) (by simpa [I64] using hk)
  exact ⟨b, off, h1, h2, by rw [h3]; simp [I64]⟩
theorem lies_u32 {w : World} {B : Nat} {A : Option Addr} {l : List Nat} (h : Lies w B A (U32 l)) {k : Nat} (hk : k < l.length) : ∃ b off, A = some ⟨b, off, none⟩ ∧ b < B ∧ w.cell? ⟨b, off + k, none⟩ = some (.int .u32 (l[k] : Int)) := by
  obtain ⟨b, off, h1, h2, h3⟩ := h.at_ (k := k) (by simpa [U32] using hk)
  exact ⟨b, off, h1, h2, by rw [h3]; simp [U32]⟩

theorem eqInts_any (l l' : List Int) (A A' : Option Addr) (c c' : Nat) (w : World) (B : Nat) (hA : Lies w B A (I64 l)) (hA' : Lies w B A' (I64 l')) (hn : l.length ≤ 9223372036854775807) (hn' : l'.length ≤ 9223372036854775807) :
    Calls Tryz.prog 24 #[.slice A l.length c, .slice A' l'.length c'] w fun e w' => e = .returned (.bool (l == l')) ∧ Below w.heap.size w w' := by
  have HA := Lib.hid hA
  have HA' := Lib.hid hA'
  clear hA hA'
  by_cases hne : l.length = l'.length
  · have hd : (l.length != l'.length) = false := by simpa using hne
    have hln : l.length ≤ l'.length := by omega
    have HN := Lib.hid hne
    clear hne
    go_enter Tryz.func24, Tryz.ntmps24
    go_wp2_with fail
    go_loopw [5, 13] (fun u i wr => ∃ k n : Nat, k ≤ l.length ∧ i = .int .i64 k ∧ wr = w.drewN n ∧ Hid (l.take k = l'.take k)) (fun u i _ => l.length - (intOf i).toNat)
    case atStart => exact ⟨0, 0, Nat.zero_le _, rfl, rfl, Lib.hid rfl⟩
    case round =>
      obtain ⟨k, n, hk, rfl, rfl, HT⟩ := hrel
      by_cases hlt : k < l.length
      · have hlt' : k < l'.length := by omega
        obtain ⟨b, off, rfl, hb, g0⟩ := lies_i64 HA.out hlt
        obtain ⟨b', off', rfl, hb', g1⟩ := lies_i64 HA'.out hlt'
        have HM := Lib.hid (take_more hlt hlt' HT.out)
        have HZ := Lib.hid (beq_at (l := l) (l' := l') hlt hlt')
        generalize l[k] = x at g0 HM HZ
        generalize l'[k] = y at g1 HM HZ
        have hk0 : (0 : Int) ≤ (k : Int) := by omega
        have hk1 : (k : Int) < (l.length : Int) := by omega
        have hk2 : (k : Int) < (l'.length : Int) := by omega
        by_cases hxy : x = y
        · subst hxy
          have e1 : (x != x) = false := by simp
          have HM2 := Lib.hid (HM.out rfl)
          clear HM HZ
          go_wp2_with fail
          go_quiet (fail)
          go_wp2_with fail
          go_roundw
          case rel => exact ⟨k + 1, n + nq, by omega, by go_num, rfl, HM2⟩
          case measure => simp [intOf]; omega
        · have e1 : (x != y) = true := by simpa using hxy
          have HZ2 := Lib.hid (HZ.out hxy)
          skip
          clear HM HZ hxy
          go_wp2_with fail
          go_quiet (fail)
          go_wp2_with fail
          go_ret
          exact ⟨ret_bool (by rw [HZ2.out]), below_drewN' (below_drewN' (Below.refl _ _) _) _⟩
      · have hke : k = l.length := by omega
        have HZ2 := Lib.hid (beq_take HN.out hke HT.out)
        clear hke HT
        go_wp2_with fail
        go_ret
        exact ⟨ret_bool (by rw [HZ2.out]), below_drewN' (Below.refl _ _) _⟩
  · have hd : (l.length != l'.length) = true := by simpa using hne
    have HZ2 := Lib.hid (beq_len hne)
    clear hne
    go_enter Tryz.func24, Tryz.ntmps24
    go_wp2_with fail
    go_ret
    exact ⟨ret_bool (by rw [HZ2.out]), Below.refl _ _⟩

theorem eqU32_any (l l' : List Nat) (A A' : Option Addr) (c c' : Nat) (w : World) (B : Nat) (hA : Lies w B A (U32 l)) (hA' : Lies w B A' (U32 l')) (hn : l.length ≤ 9223372036854775807) (hn' : l'.length ≤ 9223372036854775807) :
    Calls Tryz.prog 112 #[.slice A l.length c, .slice A' l'.length c'] w fun e w' => e = .returned (.bool (l == l')) ∧ Below w.heap.size w w' := by
  have HA := Lib.hid hA
  have HA' := Lib.hid hA'
  clear hA hA'
  by_cases hne : l.length = l'.length
  · have hd : (l.length != l'.length) = false := by simpa using hne
    have hln : l.length ≤ l'.length := by omega
    have HN := Lib.hid hne
    clear hne
    go_enter Tryz.func112, Tryz.ntmps112
    go_wp2_with fail
    go_loopw [5, 13] (fun u i wr => ∃ k n : Nat, k ≤ l.length ∧ i = .int .i64 k ∧ wr = w.drewN n ∧ Hid (l.take k = l'.take k)) (fun u i _ => l.length - (intOf i).toNat)
    case atStart => exact ⟨0, 0, Nat.zero_le _, rfl, rfl, Lib.hid rfl⟩
    case round =>
      obtain ⟨k, n, hk, rfl, rfl, HT⟩ := hrel
      by_cases hlt : k < l.length
      · have hlt' : k < l'.length := by omega
        obtain ⟨b, off, rfl, hb, g0⟩ := lies_u32 HA.out hlt
        obtain ⟨b', off', rfl, hb', g1⟩ := lies_u32 HA'.out hlt'
        have HM := Lib.hid (take_more hlt hlt' HT.out)
        have HZ := Lib.hid (beq_at (l := l) (l' := l') hlt hlt')
        generalize l[k] = x at g0 HM HZ
        generalize l'[k] = y at g1 HM HZ
        have hk0 : (0 : Int) ≤ (k : Int) := by omega
        have hk1 : (k : Int) < (l.length : Int) := by omega
        have hk2 : (k : Int) < (l'.length : Int) := by omega
        by_cases hxy : x = y
        · subst hxy
          have e1 : (x != x) = false := by simp
          have HM2 := Lib.hid (HM.out rfl)
          clear HM HZ
          go_wp2_with fail
          go_quiet (fail)
          go_wp2_with fail
          go_roundw
          case rel => exact ⟨k + 1, n + nq, by omega, by go_num, rfl, HM2⟩
          case measure => simp [intOf]; omega
        · have e1 : (x != y) = true := by simpa using hxy
          have HZ2 := Lib.hid (HZ.out hxy)
          have e2 : ((x : Int) != (y : Int)) = true := by simp; omega
          clear HM HZ hxy
          go_wp2_with fail
          go_quiet (fail)
          go_wp2_with fail
          go_ret
          exact ⟨ret_bool (by rw [HZ2.out]), below_drewN' (below_drewN' (Below.refl _ _) _) _⟩
      · have hke : k = l.length := by omega
        have HZ2 := Lib.hid (beq_take HN.out hke HT.out)
        clear hke HT
        go_wp2_with fail
        go_ret
        exact ⟨ret_bool (by rw [HZ2.out]), below_drewN' (Below.refl _ _) _⟩
  · have hd : (l.length != l'.length) = true := by simpa using hne
    have HZ2 := Lib.hid (beq_len hne)
    clear hne
    go_enter Tryz.func112, Tryz.ntmps112
    go_wp2_with fail
    go_ret
    exact ⟨ret_bool (by rw [HZ2.out]), Below.refl _ _⟩

theorem refInts_any (l l' : List Int) (A A' : Option Addr) (c c' : Nat) (w : World) (B : Nat) (hA : Lies w B A (I64 l)) (hA' : Lies w B A' (I64 l')) (hn : l.length ≤ 9223372036854775807) (hn' : l'.length ≤ 9223372036854775807) :
    Calls Tryz.prog 25 #[.slice A l.length c, .slice A' l'.length c'] w fun e w' => e = .returned (.bool (l == l')) ∧ Below w.heap.size w w' := by
  have HA := Lib.hid hA
  have HA' := Lib.hid hA'
  clear hA hA'
  by_cases hne : l.length = l'.length
  · have hd : (l.length != l'.length) = false := by simpa using hne
    have hln : l.length ≤ l'.length := by omega
    have HN := Lib.hid hne
    clear hne
    go_enter Tryz.func25, Tryz.ntmps25
    go_wp2_with fail
    go_loopw [5] (fun i wr => ∃ k n : Nat, k ≤ l.length ∧ i = .int .i64 k ∧ wr = w.drewN n ∧ Hid (l.take k = l'.take k)) (fun i _ => l.length - (intOf i).toNat)
    case atStart => exact ⟨0, 0, Nat.zero_le _, rfl, rfl, Lib.hid rfl⟩
    case round =>
      obtain ⟨k, n, hk, rfl, rfl, HT⟩ := hrel
      by_cases hlt : k < l.length
      · have hlt' : k < l'.length := by omega
        obtain ⟨b, off, rfl, hb, g0⟩ := lies_i64 HA.out hlt
        obtain ⟨b', off', rfl, hb', g1⟩ := lies_i64 HA'.out hlt'
        have HM := Lib.hid (take_more hlt hlt' HT.out)
        have HZ := Lib.hid (beq_at (l := l) (l' := l') hlt hlt')
        generalize l[k] = x at g0 HM HZ
        generalize l'[k] = y at g1 HM HZ
        have hk0 : (0 : Int) ≤ (k : Int) := by omega
        have hk1 : (k : Int) < (l.length : Int) := by omega
        have hk2 : (k : Int) < (l'.length : Int) := by omega
        by_cases hxy : x = y
        · subst hxy
          have e1 : (x != x) = false := by simp
          have HM2 := Lib.hid (HM.out rfl)
          clear HM HZ
          go_wp2_with fail
          go_quiet (fail)
          go_wp2_with fail
          go_roundw
          case rel => exact ⟨k + 1, n + nq, by omega, by go_num, rfl, HM2⟩
          case measure => simp [intOf]; omega
        · have e1 : (x != y) = true := by simpa using hxy
          have HZ2 := Lib.hid (HZ.out hxy)
          skip
          clear HM HZ hxy
          go_wp2_with fail
          go_quiet (fail)
          go_wp2_with fail
          go_ret
          exact ⟨ret_bool (by rw [HZ2.out]), below_drewN' (below_drewN' (Below.refl _ _) _) _⟩
      · have hke : k = l.length := by omega
        have HZ2 := Lib.hid (beq_take HN.out hke HT.out)
        clear hke HT
        go_wp2_with fail
        go_ret
        exact ⟨ret_bool (by rw [HZ2.out]), below_drewN' (Below.refl _ _) _⟩
  · have hd : (l.length != l'.length) = true := by simpa using hne
    have HZ2 := Lib.hid (beq_len hne)
    clear hne
    go_enter Tryz.func25, Tryz.ntmps25
    go_wp2_with fail
    go_ret
    exact ⟨ret_bool (by rw [HZ2.out]), Below.refl _ _⟩

theorem refSame2_any (l l' : List Nat) (A A' : Option Addr) (c c' : Nat) (w : World) (B : Nat) (hA : Lies w B A (U32 l)) (hA' : Lies w B A' (U32 l')) (hn : l.length ≤ 9223372036854775807) (hn' : l'.length ≤ 9223372036854775807) :
    Calls Tryz.prog 113 #[.slice A l.length c, .slice A' l'.length c'] w fun e w' => e = .returned (.bool (l == l')) ∧ Below w.heap.size w w' := by
  have HA := Lib.hid hA
  have HA' := Lib.hid hA'
  clear hA hA'
  by_cases hne : l.length = l'.length
  · have hd : (l.length != l'.length) = false := by simpa using hne
    have hln : l.length ≤ l'.length := by omega
    have HN := Lib.hid hne
    clear hne
    go_enter Tryz.func113, Tryz.ntmps113
    go_wp2_with fail
    go_loopw [5] (fun i wr => ∃ k n : Nat, k ≤ l.length ∧ i = .int .i64 k ∧ wr = w.drewN n ∧ Hid (l.take k = l'.take k)) (fun i _ => l.length - (intOf i).toNat)
    case atStart => exact ⟨0, 0, Nat.zero_le _, rfl, rfl, Lib.hid rfl⟩
    case round =>
      obtain ⟨k, n, hk, rfl, rfl, HT⟩ := hrel
      by_cases hlt : k < l.length
      · have hlt' : k < l'.length := by omega
        obtain ⟨b, off, rfl, hb, g0⟩ := lies_u32 HA.out hlt
        obtain ⟨b', off', rfl, hb', g1⟩ := lies_u32 HA'.out hlt'
        have HM := Lib.hid (take_more hlt hlt' HT.out)
        have HZ := Lib.hid (beq_at (l := l) (l' := l') hlt hlt')
        generalize l[k] = x at g0 HM HZ
        generalize l'[k] = y at g1 HM HZ
        have hk0 : (0 : Int) ≤ (k : Int) := by omega
        have hk1 : (k : Int) < (l.length : Int) := by omega
        have hk2 : (k : Int) < (l'.length : Int) := by omega
        by_cases hxy : x = y
        · subst hxy
          have e1 : (x != x) = false := by simp
          have HM2 := Lib.hid (HM.out rfl)
          clear HM HZ
          go_wp2_with fail
          go_quiet (fail)
          go_wp2_with fail
          go_roundw
          case rel => exact ⟨k + 1, n + nq, by omega, by go_num, rfl, HM2⟩
          case measure => simp [intOf]; omega
        · have e1 : (x != y) = true := by simpa using hxy
          have HZ2 := Lib.hid (HZ.out hxy)
          have e2 : ((x : Int) != (y : Int)) = true := by simp; omega
          clear HM HZ hxy
          go_wp2_with fail
          go_quiet (fail)
          go_wp2_with fail
          go_ret
          exact ⟨ret_bool (by rw [HZ2.out]), below_drewN' (below_drewN' (Below.refl _ _) _) _⟩
      · have hke : k = l.length := by omega
        have HZ2 := Lib.hid (beq_take HN.out hke HT.out)
        clear hke HT
        go_wp2_with fail
        go_ret
        exact ⟨ret_bool (by rw [HZ2.out]), below_drewN' (Below.refl _ _) _⟩
  · have hd : (l.length != l'.length) = true := by simpa using hne
    have HZ2 := Lib.hid (beq_len hne)
    clear hne
    go_enter Tryz.func113, Tryz.ntmps113
    go_wp2_with fail
    go_ret
    exact ⟨ret_bool (by rw [HZ2.out]), Below.refl _ _⟩
end Go.Proofs.YtmiccalfamepdaaGreatDoor

/-
  shape.Count of any shape.
-/
namespace Go.Proofs.YtmiccalfamepdaaGreatDoor
open Go.RowKit Ar
set_option maxHeartbeats 4000000
set_option maxRecDepth 100000
set_option linter.unusedVariables false

theorem countNeg_any (x : Int) (w : World) : Calls Tryz.prog 102 #[.int .i64 x] w fun e w' => e = .returned (.bool (decide (x < 0))) ∧ w = w' := by
  cases q : decide (x < 0)
  all_goals
    go_enter Tryz.func102, Tryz.ntmps102
    go_wp2_with fail
    go_ret
    exact ⟨ret_bool (by simp), rfl⟩
theorem countFar_any (x : Int) (w : World) : Calls Tryz.prog 103 #[.int .i64 x] w fun e w' => e = .returned (.bool (decide (2048 < x))) ∧ w = w' := by
  cases q : decide (2048 < x)
  all_goals
    go_enter Tryz.func103, Tryz.ntmps103
    go_wp2_with fail
    go_ret
    exact ⟨ret_bool (by simp), rfl⟩
/-- An index, or -1: whether one of a row is such. -/
def IndexOut (r : Bool) (w : World) (e : Ending) (w' : World) : Prop := ∃ i : Int, e = .returned (.int .i64 i) ∧ decide (0 ≤ i) = r ∧ w = w'
theorem any_upto {p : Int → Bool} {l : List Int} {k : Nat} (hk : k = l.length) (h : (l.take k).any p = false) : l.any p = false := by subst hk; rwa [List.take_length] at h
theorem indexFunc_any (F : FuncId) (hE : ∀ args w, (callFunc F args).run Tryz.prog w = .ok (.enter F args) w) (p : Int → Bool) (A : Option Addr) (c : Nat) (l : List Int) (w : World) (B : Nat) (hl : Lies w B A (I64 l)) (hn : l.length ≤ 9223372036854775807)
    (hF : ∀ x, Calls Tryz.prog F #[.int .i64 x] w fun e w' => e = .returned (.bool (p x)) ∧ w = w') :
    Calls Tryz.prog 131 #[.slice A l.length c, .func (.func F) #[] #[]] w (IndexOut (l.any p) w) := by
  have HA := Lib.hid hl
  have HF := Lib.hid hF
  clear hl hF
  go_enter Tryz.func131, Tryz.ntmps131
  go_wp2_with fail
  go_loop [8] (fun iv => ∃ i : Nat, iv = .int .i64 (i : Int) ∧ i ≤ l.length ∧ Hid ((l.take i).any p = false)) (fun iv => l.length - (intOf iv).toNat)
  case atStart => exact ⟨0, by go_num, Nat.zero_le _, Lib.hid rfl⟩
  case round =>
    obtain ⟨k, rfl, hk, HT⟩ := hrel
    by_cases hlt : k < l.length
    · obtain ⟨b, off, rfl, hb, g0⟩ := lies_i64 HA.out hlt
      have H1 := Lib.hid (any_take_succ (p := p) hlt)
      have H2 := Lib.hid (any_at (p := p) hlt)
      have FX := Lib.hid (HF.out l[k])
      generalize l[k] = x at *
      generalize p x = r at *
      have hk0 : (0 : Int) ≤ (k : Int) := by omega
      have hk1 : (k : Int) < (l.length : Int) := by omega
      go_wp2_with fail
      refine FX.out.mono ?_
      rintro e w' ⟨rfl, rfl⟩
      cases r
      · have H3 : Hid ((l.take (k + 1)).any p = false) := Lib.hid (by rw [H1.out, HT.out]; rfl)
        go_wp2_with fail
        go_round
        case rel => exact ⟨k + 1, by go_num, by omega, H3⟩
        case measure => simp [intOf]; omega
      · have H3 := Lib.hid (H2.out rfl)
        go_wp2_with fail
        go_ret
        exact ⟨_, rfl, by rw [H3.out]; exact decide_eq_true (by omega), rfl⟩
    · have H3 := Lib.hid (any_upto (by omega) HT.out)
      go_wp2_with fail
      go_ret
      exact ⟨_, rfl, by rw [H3.out]; rfl, rfl⟩
theorem contFunc_any (F : FuncId) (hE : ∀ args w, (callFunc F args).run Tryz.prog w = .ok (.enter F args) w) (p : Int → Bool) (A : Option Addr) (c : Nat) (l : List Int) (w : World) (B : Nat) (hl : Lies w B A (I64 l)) (hn : l.length ≤ 9223372036854775807)
    (hF : ∀ x, Calls Tryz.prog F #[.int .i64 x] w fun e w' => e = .returned (.bool (p x)) ∧ w = w') :
    Calls Tryz.prog 101 #[.slice A l.length c, .func (.func F) #[] #[]] w fun e w' => e = .returned (.bool (l.any p)) ∧ w = w' := by
  have IX := Lib.hid (indexFunc_any F hE p A c l w B hl hn hF)
  clear hE
  clear hl hF
  generalize l.any p = r at *
  generalize l.length = n at *
  go_enter Tryz.func101, Tryz.ntmps101
  go_wp2_with fail
  refine IX.out.mono ?_
  rintro e w' ⟨i, rfl, hr, rfl⟩
  go_wp2_with fail
  go_ret
  exact ⟨rfl, rfl⟩
theorem index_any (A : Option Addr) (c : Nat) (l : List Int) (y : Int) (w : World) (B : Nat) (hl : Lies w B A (I64 l)) (hn : l.length ≤ 9223372036854775807) :
    Calls Tryz.prog 132 #[.slice A l.length c, .int .i64 y] w (IndexOut (l.any (· == y)) w) := by
  have HA := Lib.hid hl
  clear hl
  go_enter Tryz.func132, Tryz.ntmps132
  go_wp2_with fail
  go_loop [8] (fun iv => ∃ i : Nat, iv = .int .i64 (i : Int) ∧ i ≤ l.length ∧ Hid ((l.take i).any (· == y) = false)) (fun iv => l.length - (intOf iv).toNat)
  case atStart => exact ⟨0, by go_num, Nat.zero_le _, Lib.hid rfl⟩
  case round =>
    obtain ⟨k, rfl, hk, HT⟩ := hrel
    by_cases hlt : k < l.length
    · obtain ⟨b, off, rfl, hb, g0⟩ := lies_i64 HA.out hlt
      have H1 := Lib.hid (any_take_succ (p := (· == y)) hlt)
      have H2 := Lib.hid (any_at (p := (· == y)) hlt)
      generalize l[k] = x at *
      have hk0 : (0 : Int) ≤ (k : Int) := by omega
      have hk1 : (k : Int) < (l.length : Int) := by omega
      by_cases hxy : x = y
      · subst hxy
        have e1 : (x == x) = true := by simp
        have H3 := Lib.hid (H2.out e1)
        clear H1 H2
        go_wp2_with fail
        go_ret
        exact ⟨_, rfl, by rw [H3.out]; exact decide_eq_true (by omega), rfl⟩
      · have e1 : (y == x) = false := beq_eq_false_iff_ne.2 (fun h => hxy h.symm)
        have H3 : Hid ((l.take (k + 1)).any (· == y) = false) := Lib.hid (by rw [H1.out, HT.out]; simpa using hxy)
        clear H1 H2 hxy
        go_wp2_with fail
        go_round
        case rel => exact ⟨k + 1, by go_num, by omega, H3⟩
        case measure => simp [intOf]; omega
    · have H3 := Lib.hid (any_upto (by omega) HT.out)
      go_wp2_with fail
      go_ret
      exact ⟨_, rfl, by rw [H3.out]; rfl, rfl⟩
theorem contains_any (A : Option Addr) (c : Nat) (l : List Int) (y : Int) (w : World) (B : Nat) (hl : Lies w B A (I64 l)) (hn : l.length ≤ 9223372036854775807) :
    Calls Tryz.prog 104 #[.slice A l.length c, .int .i64 y] w fun e w' => e = .returned (.bool (l.any (· == y))) ∧ w = w' := by
  have IX := Lib.hid (index_any A c l y w B hl hn)
  clear hl
  generalize l.any (· == y) = r at *
  generalize l.length = n at *
  go_enter Tryz.func104, Tryz.ntmps104
  go_wp2_with fail
  refine IX.out.mono ?_
  rintro e w' ⟨i, rfl, hr, rfl⟩
  go_wp2_with fail
  go_ret
  exact ⟨rfl, rfl⟩
theorem prod_round {o x : Int} (h1 : 1 ≤ o) (h2 : o ≤ 2048) (h3 : 1 ≤ x) (h4 : x ≤ 2048) : 1 ≤ o * x ∧ o * x ≤ 4194304 := by
  have a : o * 1 ≤ o * x := Int.mul_le_mul_of_nonneg_left h3 (by omega)
  have b : o * x ≤ o * 2048 := Int.mul_le_mul_of_nonneg_left h4 (by omega)
  omega
theorem product_any (A : Option Addr) (c : Nat) (l : List Int) (w : World) (B : Nat) (hl : Lies w B A (I64 l)) (hn : l.length ≤ 9223372036854775807) (hx : ∀ x ∈ l, 1 ≤ x ∧ x ≤ 2048) :
    Calls Tryz.prog 105 #[.slice A l.length c] w fun e w' => e = .returned (.int .i64 ((prodN 1 l).getD 0)) ∧ w = w' := by
  have HA := Lib.hid hl
  have HX := Lib.hid hx
  clear hl hx
  go_enter Tryz.func105, Tryz.ntmps105
  go_wp2_with fail
  go_loop [3, 8] (fun pv iv => ∃ (i : Nat) (o : Int), iv = .int .i64 (i : Int) ∧ i ≤ l.length ∧ pv = .int .i64 o ∧ 1 ≤ o ∧ o ≤ 2048 ∧ Hid (prodN o (l.drop i) = prodN 1 l)) (fun _ iv => l.length - (intOf iv).toNat)
  case atStart => exact ⟨0, 1, by go_num, Nat.zero_le _, rfl, by omega, by omega, Lib.hid rfl⟩
  case round =>
    obtain ⟨k, o, rfl, hk, rfl, ho1, ho2, HT⟩ := hrel
    by_cases hlt : k < l.length
    · obtain ⟨b, off, rfl, hb, g0⟩ := lies_i64 HA.out hlt
      have H1 := Lib.hid (prodN_drop (n := o) hlt)
      obtain ⟨hx1, hx2⟩ := HX.out l[k] (List.getElem_mem hlt)
      generalize l[k] = x at *
      obtain ⟨hp1, hp2⟩ := prod_round ho1 ho2 hx1 hx2
      have hk0 : (0 : Int) ≤ (k : Int) := by omega
      have hk1 : (k : Int) < (l.length : Int) := by omega
      obtain ⟨p, hp⟩ : ∃ p, p = o * x := ⟨_, rfl⟩
      rw [← hp] at H1 hp1 hp2
      have hp' : o * x = p := hp.symm
      clear hp
      by_cases hbig : 2048 < p
      · have H3 : Hid (prodN 1 l = none) := Lib.hid (by rw [← HT.out, H1.out, if_pos hbig])
        clear H1 HT
        go_wp2_with fail
        go_ret
        exact ⟨by rw [H3.out]; rfl, rfl⟩
      · have H3 : Hid (prodN p (l.drop (k + 1)) = prodN 1 l) := Lib.hid (by rw [← HT.out, H1.out, if_neg hbig])
        clear H1 HT
        go_wp2_with fail
        go_round
        case rel => exact ⟨k + 1, p, by go_num, by omega, by rw [← hp'], hp1, by omega, H3⟩
        case measure => simp [intOf]; omega
    · have H3 : Hid (prodN 1 l = some o) := Lib.hid (by rw [← HT.out]; exact prodN_end (by omega))
      go_wp2_with fail
      go_ret
      exact ⟨by rw [H3.out]; rfl, rfl⟩
theorem cnt_1 {l : List Int} (h : 6 < l.length) : cnt l = (0, 7) := by unfold cnt; rw [if_pos h]
theorem cnt_2 {l : List Int} (h : ¬ 6 < l.length) (h2 : l.any (fun x => decide (x < 0)) = true) : cnt l = (0, 3) := by unfold cnt; rw [if_neg h, if_pos h2]
theorem cnt_3 {l : List Int} (h : ¬ 6 < l.length) (h2 : l.any (fun x => decide (x < 0)) = false) (h3 : l.any (fun x => decide (2048 < x)) = true) : cnt l = (0, 7) := by unfold cnt; rw [if_neg h, h2, if_neg (by decide), if_pos h3]
theorem cnt_4 {l : List Int} (h : ¬ 6 < l.length) (h2 : l.any (fun x => decide (x < 0)) = false) (h3 : l.any (fun x => decide (2048 < x)) = false) (h4 : l.any (· == 0) = true) : cnt l = (0, 0) := by unfold cnt; rw [if_neg h, h2, if_neg (by decide), h3, if_neg (by decide), if_pos h4]
theorem cnt_5 {l : List Int} (h : ¬ 6 < l.length) (h2 : l.any (fun x => decide (x < 0)) = false) (h3 : l.any (fun x => decide (2048 < x)) = false) (h4 : l.any (· == 0) = false) : cnt l = match prodN 1 l with | some n => (n, 0) | none => (0, 7) := by unfold cnt; rw [if_neg h, h2, if_neg (by decide), h3, if_neg (by decide), h4, if_neg (by decide)]; all_goals rfl
theorem cnt_in {l : List Int} (h2 : l.any (fun x => decide (x < 0)) = false) (h3 : l.any (fun x => decide (2048 < x)) = false) (h4 : l.any (· == 0) = false) : ∀ x ∈ l, 1 ≤ x ∧ x ≤ 2048 := by
  intro x hx
  obtain ⟨k, hk, rfl⟩ := List.mem_iff_getElem.1 hx
  have a := not_any_at h2 hk
  have b := not_any_at h3 hk
  have c := not_any_at h4 hk
  simp at a b c
  omega
/-- What shape.Count answers. -/
def cntV (l : List Int) : Ending := .returned (.tuple #[.int .i64 (cnt l).1, .int .i64 (cnt l).2])
theorem shapeCount_any (A : Option Addr) (c : Nat) (l : List Int) (w : World) (B : Nat) (hl : Lies w B A (I64 l)) (hn : l.length ≤ 9223372036854775807) :
    Calls Tryz.prog 73 #[.slice A l.length c] w fun e w' => e = cntV l ∧ w = w' := by
  have C1 := Lib.hid (contFunc_any 102 (enters_of Tryz.func102 (by kernel_rfl) rfl) _ A c l w B hl hn (fun x => countNeg_any x w))
  have C2 := Lib.hid (contFunc_any 103 (enters_of Tryz.func103 (by kernel_rfl) rfl) _ A c l w B hl hn (fun x => countFar_any x w))
  have C3 := Lib.hid (contains_any A c l 0 w B hl hn)
  have C4 := Lib.hid (fun hx => product_any A c l w B hl hn hx)
  have K1 := Lib.hid (cnt_1 (l := l))
  have K2 := Lib.hid (cnt_2 (l := l))
  have K3 := Lib.hid (cnt_3 (l := l))
  have K4 := Lib.hid (cnt_4 (l := l))
  have K5 := Lib.hid (cnt_5 (l := l))
  have K6 := Lib.hid (cnt_in (l := l))
  have K7 : Hid (∀ n, prodN 1 l = some n → (∀ x ∈ l, 1 ≤ x ∧ x ≤ 2048) → 1 ≤ n) := Lib.hid (fun n h hx => (prodN_bd (fun x h => (hx x h).1) (by omega) (by omega) h).1)
  clear hl
  by_cases h6 : 6 < l.length
  · have HR : Hid (cntV l = .returned (.tuple #[.int .i64 0, .int .i64 7])) := Lib.hid (by unfold cntV; rw [K1.out h6])
    generalize cntV l = R at *
    generalize l.length = n at *
    go_enter Tryz.func73, Tryz.ntmps73
    go_wp2_with fail
    go_ret2
    exact ⟨HR.out.symm, rfl⟩
  · cases h2 : l.any (fun x => decide (x < 0))
    · cases h3 : l.any (fun x => decide (2048 < x))
      · cases h4 : l.any (· == 0)
        · have hx := K6.out h2 h3 h4
          have C5 := Lib.hid (C4.out hx)
          have K8 := K5.out h6 h2 h3 h4
          rw [h2] at C1
          rw [h3] at C2
          rw [h4] at C3
          cases hp : prodN 1 l with
          | none =>
            rw [hp] at K8 C5
            have HR : Hid (cntV l = .returned (.tuple #[.int .i64 0, .int .i64 7])) := Lib.hid (by unfold cntV; rw [K8])
            clear K1 K2 K3 K4 K5 K6 K7 K8 hx C4 hp h2 h3 h4
            generalize cntV l = R at *
            generalize l.length = n at *
            go_enter Tryz.func73, Tryz.ntmps73
            go_wp2_with fail
            refine C1.out.mono ?_
            rintro e w' ⟨rfl, rfl⟩
            go_wp2_with fail
            refine C2.out.mono ?_
            rintro e w' ⟨rfl, rfl⟩
            go_wp2_with fail
            refine C3.out.mono ?_
            rintro e w' ⟨rfl, rfl⟩
            go_wp2_with fail
            refine C5.out.mono ?_
            rintro e w' ⟨rfl, rfl⟩
            go_wp2_with fail
            go_ret2
            exact ⟨HR.out.symm, rfl⟩
          | some m =>
            rw [hp] at K8 C5
            have HR : Hid (cntV l = .returned (.tuple #[.int .i64 m, .int .i64 0])) := Lib.hid (by unfold cntV; rw [K8])
            have hm := K7.out m hp hx
            have q : (m == 0) = false := beq_eq_false_iff_ne.2 (by omega)
            clear K1 K2 K3 K4 K5 K6 K7 K8 hx C4 hp h2 h3 h4 hm
            simp only [Option.getD_some] at C5
            generalize cntV l = R at *
            generalize l.length = n at *
            go_enter Tryz.func73, Tryz.ntmps73
            go_wp2_with fail
            refine C1.out.mono ?_
            rintro e w' ⟨rfl, rfl⟩
            go_wp2_with fail
            refine C2.out.mono ?_
            rintro e w' ⟨rfl, rfl⟩
            go_wp2_with fail
            refine C3.out.mono ?_
            rintro e w' ⟨rfl, rfl⟩
            go_wp2_with fail
            refine C5.out.mono ?_
            rintro e w' ⟨rfl, rfl⟩
            go_wp2_with fail
            go_ret2
            exact ⟨HR.out.symm, rfl⟩
        · have HR : Hid (cntV l = .returned (.tuple #[.int .i64 0, .int .i64 0])) := Lib.hid (by unfold cntV; rw [K4.out h6 h2 h3 h4])
          rw [h2] at C1
          rw [h3] at C2
          rw [h4] at C3
          clear K1 K2 K3 K4 K5 K6 K7 C4 h2 h3 h4
          generalize cntV l = R at *
          generalize l.length = n at *
          go_enter Tryz.func73, Tryz.ntmps73
          go_wp2_with fail
          refine C1.out.mono ?_
          rintro e w' ⟨rfl, rfl⟩
          go_wp2_with fail
          refine C2.out.mono ?_
          rintro e w' ⟨rfl, rfl⟩
          go_wp2_with fail
          refine C3.out.mono ?_
          rintro e w' ⟨rfl, rfl⟩
          go_wp2_with fail
          go_ret2
          exact ⟨HR.out.symm, rfl⟩
      · have HR : Hid (cntV l = .returned (.tuple #[.int .i64 0, .int .i64 7])) := Lib.hid (by unfold cntV; rw [K3.out h6 h2 h3])
        rw [h2] at C1
        rw [h3] at C2
        clear K1 K2 K3 K4 K5 K6 K7 C3 C4 h2 h3
        generalize cntV l = R at *
        generalize l.length = n at *
        go_enter Tryz.func73, Tryz.ntmps73
        go_wp2_with fail
        refine C1.out.mono ?_
        rintro e w' ⟨rfl, rfl⟩
        go_wp2_with fail
        refine C2.out.mono ?_
        rintro e w' ⟨rfl, rfl⟩
        go_wp2_with fail
        go_ret2
        exact ⟨HR.out.symm, rfl⟩
    · have HR : Hid (cntV l = .returned (.tuple #[.int .i64 0, .int .i64 3])) := Lib.hid (by unfold cntV; rw [K2.out h6 h2])
      rw [h2] at C1
      clear K1 K2 K3 K4 K5 K6 K7 C2 C3 C4 h2
      generalize cntV l = R at *
      generalize l.length = n at *
      go_enter Tryz.func73, Tryz.ntmps73
      go_wp2_with fail
      refine C1.out.mono ?_
      rintro e w' ⟨rfl, rfl⟩
      go_wp2_with fail
      go_ret2
      exact ⟨HR.out.symm, rfl⟩
end Go.Proofs.YtmiccalfamepdaaGreatDoor
