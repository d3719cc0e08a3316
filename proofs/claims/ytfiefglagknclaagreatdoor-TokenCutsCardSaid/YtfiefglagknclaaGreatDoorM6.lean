/-
  Texts of this proof, joined (by wip/bin/bundle.py): NatSums, RegTail, PortMath, Dig9, Same2, RTokMath, TokLen, TokLaid.
-/
import Derived.Test.YtfiefglagknclaaGreatDoorM5
import Derived.IntWalk
import Derived.Test.YtfiefglagknclaaGreatDoorRows
import Derived.Lib.LaidTab
import Derived.LaidMore
import Derived.Stop.LaidErr
import Derived.MakeChecks
import Derived.OpenShut
import Derived.ProofKit
import Derived.ChangeOld
import Derived.Lay
/-
  The walk of the law NatSums.
-/
namespace Go.Proofs.YtfiefglagknclaaGreatDoor
open Go.RowKit
set_option maxHeartbeats 1000000
set_option maxRecDepth 100000
set_option linter.unusedVariables false

/-- Two numbers that calls handed back, the same ones. -/
theorem same_res {w0 w : World} {v1 v2 : Value} {n : Nat} (h1 : IsRes w v1 (Nt.digs n)) (h2 : IsRes w v2 (Nt.digs n)) (hb : Below w0.heap.size w0 w) :
    Calls Tryz.prog 30 #[v1, v2] w fun e w' => e = .returned (.bool true) ∧ Below w0.heap.size w0 w' ∧ Below w.heap.size w w' := by
  obtain ⟨A, c, rfl, a1, a2, a3, a4⟩ := h1
  obtain ⟨A', c', rfl, b1, b2, b3, b4⟩ := h2
  refine (same_any A A' c c' w.heap.size w.heap.size (Nt.digs n) (Nt.digs n) w a4 b4 (by omega) (by omega)).mono ?_
  rintro e w' ⟨rfl, k, rfl⟩
  have hb1 : Below w.heap.size w (w.drewN k) := ⟨rfl, rfl, rfl, Nat.le_refl _, fun _ _ => rfl⟩
  exact ⟨by simp, hb.trans (hb1.mono hb.size), hb1⟩

end Go.Proofs.YtfiefglagknclaaGreatDoor

/-
  As XRegLast, for a region whose last operations stand in a row (each waits for all before it): those ahead by predicates, the row walked in its order.
-/
namespace Go.Proofs.YtfiefglagknclaaGreatDoor
open Go.RowKit
set_option linter.unusedVariables false

section
variable {P : Program} {ops : Array Oper} {Q : Exit → Act → World → Prop} {md : Region.Mode}
/-- The row of operations from a place on, so many. -/
def Tail (P : Program) (ops : Array Oper) (Q : Exit → Act → World → Prop) : Nat → Nat → Act → World → Prop
  | 0, _, a, w => Q .normal a w
  | n + 1, k, a, w => wpOp P ops Q k (fun a' w' => Tail P ops Q n (k + 1) a' w') a w
/-- An operation that waits for another one, of itself or by way of others. -/
def depT (md : Region.Mode) (ops : Array Oper) : Nat → Nat → Nat → Bool
  | 0, i, j => depB md ops i j
  | n + 1, i, j => depB md ops i j || (List.range ops.size).any fun m => depB md ops i m && depT md ops n m j
theorem depT_listed {l : Array Bool} (hcl : ∀ i j, l[i]? = some true → depB md ops i j = true → l[j]? = some true) : ∀ n i j, (∀ m, depB md ops i m = true → l[m]? = some true) → depT md ops n i j = true → l[j]? = some true
  | 0, i, j, hi, h => hi j h
  | n + 1, i, j, hi, h => by
    unfold depT at h
    rw [Bool.or_eq_true] at h
    rcases h with h | h
    · exact hi j h
    · rw [List.any_eq_true] at h
      obtain ⟨m, _, hm⟩ := h
      rw [Bool.and_eq_true] at hm
      exact depT_listed hcl n m j (fun m' h' => hcl m m' (hi m hm.1) h') hm.2
theorem closed_set {l : Array Bool} {i : Nat} (hcl : ∀ i j, l[i]? = some true → depB md ops i j = true → l[j]? = some true) (hi : ∀ m, depB md ops i m = true → l[m]? = some true) : ∀ i' j, (l.setIfInBounds i true)[i']? = some true → depB md ops i' j = true → (l.setIfInBounds i true)[j]? = some true := by
  intro i' j h hd
  have hj : l[j]? = some true := by
    by_cases e : i = i'
    · subst e; exact hi j hd
    · rw [Array.getElem?_setIfInBounds_ne e] at h; exact hcl i' j h hd
  by_cases e : i = j
  · subst e
    rw [Array.getElem?_setIfInBounds_self_of_lt (by
      rcases Nat.lt_or_ge i l.size with h | h
      · exact h
      · rw [Array.getElem?_eq_none h] at hj; cases hj)]
  · rw [Array.getElem?_setIfInBounds_ne e]; exact hj
theorem all_listed {l : Array Bool} (hl : l.size = ops.size) (hr : Region.ready md ops l = []) (hops : ∀ i, i < ops.size → ∀ j, depB md ops i j = true → j < i) : ∀ m i, i < m → i < ops.size → l[i]? = some true := by
  intro m
  induction m with
  | zero => intro i h; omega
  | succ m ih =>
    intro i hi his
    by_cases e : i < m
    · exact ih i e his
    · have hie : i = m := by omega
      subst hie
      cases h : l[i]? with
      | none => rw [Array.getElem?_eq_none_iff] at h; omega
      | some b =>
        cases b
        · exfalso
          have : i ∈ Region.ready md ops l := by
            simp only [Region.ready, List.mem_filter, List.mem_range, Bool.and_eq_true, Bool.not_eq_true']
            refine ⟨his, by rw [Array.getD_eq_getD_getElem?, h]; rfl, ?_⟩
            rw [Array.getElem?_eq_getElem his]
            simp only [Option.map_some, Option.getD_some, Array.all_eq_true_iff_forall_mem]
            intro e he
            cases hbe : Region.binds md e
            · rfl
            · have hd : depB md ops i e.on = true := by
                unfold depB
                rw [Array.getElem?_eq_getElem his]
                simp only [List.any_eq_true, Bool.and_eq_true, beq_iff_eq]
                exact ⟨e, by simpa using he, rfl, hbe⟩
              have hlt := hops i his e.on hd
              rw [Array.getD_eq_getD_getElem?, ih e.on hlt (by omega)]
              simp
          rw [hr] at this; cases this
        · rfl
theorem wpAny_tail (frame : (Nat → Value) → Act) (w0 : World) (R : Nat → World → Value → Prop) (s : Nat) (hs : s < ops.size)
    (hR : ∀ i w w' v, R i w v → Below w.heap.size w w' → R i w' v)
    (step : ∀ i xs w, i < s → Below w0.heap.size w0 w → (∀ j, depB md ops i j = true → R j w (xs j)) → wpOp P ops Q i (Yields frame R xs i w) (frame xs) w)
    (tail : ∀ xs w, Below w0.heap.size w0 w → (∀ i, i < s → R i w (xs i)) → Tail P ops Q (ops.size - s) s (frame xs) w)
    (hops : ∀ i, i < ops.size → ∀ j, depB md ops i j = true → j < i) (N : Nat) (hrow : ∀ i, s ≤ i → i < ops.size → ∀ j, j < i → depT md ops N i j = true)
    (xs0 : Nat → Value) (w1 : World) (hw1 : Below w0.heap.size w0 w1) : wpAny P md ops Q ops.size (Array.replicate ops.size false) (frame xs0) w1 := by
  refine wpAny_inv (fun l a w => l.size = ops.size ∧ (∀ i j, l[i]? = some true → depB md ops i j = true → l[j]? = some true) ∧ (((∀ i, s ≤ i → i < ops.size → l[i]? = some false) ∧ Below w0.heap.size w0 w ∧ ∃ xs, a = frame xs ∧ ∀ i, i < s → l[i]? = some true → R i w (xs i)) ∨ (∃ k, s < k ∧ k ≤ ops.size ∧ (∀ i, i < k → l[i]? = some true) ∧ (∀ i, k ≤ i → i < ops.size → l[i]? = some false) ∧ Tail P ops Q (ops.size - k) k a w))) ?_ ?_ ops.size _ _ _ (by simp)
    ⟨by simp, (fun i j h => by
      rw [Array.getElem?_replicate] at h
      split at h <;> simp at h), .inl ⟨fun i _ hi => by simp [hi], hw1, xs0, rfl, fun i hi h => by simp [show i < ops.size by omega] at h⟩⟩
  · rintro l a w ⟨hl, hcl, hc⟩ i hi
    obtain ⟨h1, h2, h3⟩ := ready_mem hi
    have hli : l[i]? = some false := by
      rw [Array.getD_eq_getD_getElem?] at h2
      rw [Array.getElem?_eq_getElem (by omega)] at h2 ⊢
      simp at h2; rw [h2]
    have hdi : ∀ m, depB md ops i m = true → l[m]? = some true := fun m hm => getD_true (depB_listed h3 hm)
    have go : ∀ k, i = k → s ≤ k → (∀ j, j < k → l[j]? = some true) → (∀ j, k ≤ j → j < ops.size → l[j]? = some false) → Tail P ops Q (ops.size - k) k a w →
        wpOp P ops Q i (fun a' w' => (l.setIfInBounds i true).size = ops.size ∧ (∀ i' j, (l.setIfInBounds i true)[i']? = some true → depB md ops i' j = true → (l.setIfInBounds i true)[j]? = some true) ∧ (((∀ j, s ≤ j → j < ops.size → (l.setIfInBounds i true)[j]? = some false) ∧ Below w0.heap.size w0 w' ∧ ∃ xs, a' = frame xs ∧ ∀ j, j < s → (l.setIfInBounds i true)[j]? = some true → R j w' (xs j)) ∨ (∃ k, s < k ∧ k ≤ ops.size ∧ (∀ j, j < k → (l.setIfInBounds i true)[j]? = some true) ∧ (∀ j, k ≤ j → j < ops.size → (l.setIfInBounds i true)[j]? = some false) ∧ Tail P ops Q (ops.size - k) k a' w'))) a w := by
      rintro k rfl hk ht hf hT
      obtain ⟨n, hn⟩ : ∃ n, ops.size - i = n + 1 := ⟨ops.size - i - 1, by omega⟩
      rw [hn] at hT
      refine wpOp_mono ?_ hT
      intro a' w' hq
      refine ⟨by simpa using hl, closed_set hcl hdi, .inr ⟨i + 1, by omega, by omega, fun j hj => ?_, fun j hj hjs => ?_, by rw [show ops.size - (i + 1) = n by omega]; exact hq⟩⟩
      · by_cases e : i = j
        · subst e; rw [Array.getElem?_setIfInBounds_self_of_lt (by omega)]
        · rw [Array.getElem?_setIfInBounds_ne e]; exact ht j (by omega)
      · rw [Array.getElem?_setIfInBounds_ne (by omega)]; exact hf j (by omega) hjs
    rcases hc with ⟨hlate, hb, xs, rfl, hx⟩ | ⟨k, hk, hks, ht, hf, hT⟩
    · by_cases e : i < s
      · refine wpOp_mono ?_ (step i xs w e hb (fun j hj => hx j (by have := hops i h1 j hj; omega) (getD_true (depB_listed h3 hj))))
        rintro a' w' ⟨v, rfl, hv, hb'⟩
        refine ⟨by simpa using hl, closed_set hcl hdi, .inl ⟨fun j hj hjs => by rw [Array.getElem?_setIfInBounds_ne (by omega)]; exact hlate j hj hjs, hb.trans (hb'.mono hb.size), upd xs i v, rfl, fun j hj hlj => ?_⟩⟩
        by_cases e' : j = i
        · subst e'; simp only [upd, if_true]; exact hv
        · simp only [upd, if_neg e']
          rw [Array.getElem?_setIfInBounds_ne (fun h => e' h.symm)] at hlj
          exact hR j w w' _ (hx j hj hlj) hb'
      · have hall : ∀ j, j < i → l[j]? = some true := fun j hj => depT_listed hcl N i j hdi (hrow i (by omega) h1 j hj)
        have his : i = s := by
          rcases Nat.lt_or_ge s i with h | h
          · have h4 := hall s h
            rw [hlate s (Nat.le_refl _) hs] at h4
            cases h4
          · omega
        exact go s his (Nat.le_refl _) (by rw [← his]; exact hall) hlate (tail xs w hb (fun j hj => hx j hj (hall j (by omega))))
    · have hik : k ≤ i := by
        rcases Nat.lt_or_ge i k with h | h
        · rw [ht i h] at hli; cases hli
        · exact h
      have his : i = k := by
        rcases Nat.lt_or_ge k i with h | h
        · have h4 := depT_listed hcl N i k hdi (hrow i (by omega) h1 k h)
          rw [hf k (Nat.le_refl _) (by omega)] at h4
          cases h4
        · omega
      exact go k his (by omega) ht hf hT
  · rintro l a w ⟨hl, hcl, hc⟩ hr
    have hall := all_listed hl hr hops
    rcases hc with ⟨hlate, _⟩ | ⟨k, hk, hks, ht, hf, hT⟩
    · have h4 := hall (s + 1) s (by omega) hs
      rw [hlate s (Nat.le_refl _) hs] at h4
      cases h4
    · rcases Nat.lt_or_ge k ops.size with h | h
      · have h4 := hall (k + 1) k (by omega) h
        rw [hf k (Nat.le_refl _) h] at h4
        cases h4
      · rw [show ops.size - k = 0 by omega] at hT
        exact hT
theorem wp_region_tail (frame : (Nat → Value) → Act) (w0 : World) (R : Nat → World → Value → Prop) (s : Nat) {id : Nat} {a : Act} {w : World} (hm : P.follows .mixedOrders = true) (hs : s < ops.size)
    (hR : ∀ i w w' v, R i w v → Below w.heap.size w w' → R i w' v)
    (hops : ops.toList.zipIdx.all (fun p => p.1.after.all fun e => decide (e.on < p.2)) = true)
    (N : Nat) (hrow : (List.range ops.size).all (fun i => decide (i < s) || (List.range i).all (fun j => depT .any ops N i j)) = true)
    (xs0 : Nat → Value) (ha : a = frame xs0) (hw : Below w0.heap.size w0 w)
    (step : ∀ i xs w, i < s → Below w0.heap.size w0 w → (∀ j, depB .any ops i j = true → R j w (xs j)) → wpOp P ops Q i (Yields frame R xs i w) (frame xs) w)
    (tail : ∀ xs w, Below w0.heap.size w0 w → (∀ i, i < s → R i w (xs i)) → Tail P ops Q (ops.size - s) s (frame xs) w) : (Code.region id ops true).wp P Q a w := by
  subst ha
  refine wp_region_any hm (wpAny_tail frame w0 R s hs hR step tail ?_ N ?_ xs0 _ ?_)
  · intro i hi j hj
    unfold depB at hj
    rw [Array.getElem?_eq_getElem hi] at hj
    simp only [List.any_eq_true, Bool.and_eq_true, beq_iff_eq] at hj
    obtain ⟨e, he, rfl, _⟩ := hj
    rw [List.all_eq_true] at hops
    have h := hops (ops[i], i) (by
      rw [List.mem_zipIdx_iff_getElem?]
      simp)
    rw [Array.all_eq_true_iff_forall_mem] at h
    simpa using h e (by simpa using he)
  · intro i hsi hi j hj
    rw [List.all_eq_true] at hrow
    have h := hrow i (by simpa using hi)
    rw [Bool.or_eq_true, decide_eq_true_iff] at h
    rcases h with h | h
    · omega
    · rw [List.all_eq_true] at h
      exact h j (by simpa using hj)
  · exact ⟨hw.os, hw.tape, hw.output, hw.size, hw.block⟩
end
end Go.Proofs.YtfiefglagknclaaGreatDoor

/-
  Tokens, plain: what is read behind a quad; the bytes of two characters that are told by rune.
-/
namespace Tk
open Go
theorem words_no {l : List Int} {i : Nat} (h : word (l.getD i (-1)) = false) : words l i = 0 := by
  unfold words
  rcases Nat.lt_or_ge i l.length with hi | hi
  · rw [getD_in hi] at h
    rw [List.drop_eq_getElem_cons hi, List.takeWhile_cons, h]
    rfl
  · rw [List.drop_of_length_le hi]; rfl
theorem words_yes {l : List Int} {i : Nat} (h : word (l.getD i (-1)) = true) : words l i = 1 + words l (i + 1) := by
  unfold words
  rcases Nat.lt_or_ge i l.length with hi | hi
  · rw [getD_in hi] at h
    rw [List.drop_eq_getElem_cons hi, List.takeWhile_cons, h]
    simp; omega
  · rw [getD_out hi] at h; cases h
theorem word_digit {c : Int} (h : digit c = true) : word c = true := by unfold word; rw [h]; rfl
theorem word_letter {c : Int} (h : (cls c == 2) = true) : word c = true := by unfold word; rw [h]; simp
theorem digit_letter {c : Int} (h : digit c = true) : (cls c == 2) = false := by
  unfold digit at h
  simp at h
  unfold cls
  rw [if_neg (by omega), if_neg (by omega), if_pos (by omega)]
  rfl
theorem port_head {l : List Int} {i : Nat} (hc : l.getD i (-1) = 9109 ∨ l.getD i (-1) = 9054) : read l i =
    (let n := words l (i + 1)
     let d := l.getD (i + 1) (-1)
     if n = 1 ∧ 48 ≤ d ∧ d ≤ 55 then (⟨if l.getD i (-1) = 9054 then 5 else 4, Rt.none_, [], [], d - 48, i⟩, 2, 0)
     else if l.getD i (-1) = 9109 ∧ n = 2 ∧ d = 68 ∧ l.getD (i + 2) (-1) = 67 then (⟨6, Rt.none_, [], [], 0, i⟩, 3, 0)
     else if l.getD i (-1) = 9109 ∧ n = 2 ∧ d = 85 ∧ l.getD (i + 2) (-1) = 80 then (⟨6, Rt.none_, [], [], 1, i⟩, 3, 0)
     else (none_, 0, 1)) := by
  unfold read
  generalize l.getD i (-1) = c at *
  simp only
  have h3 : ¬ cls c = 3 := by rcases hc with rfl | rfl <;> decide
  have h2 : ¬ cls c = 2 := by rcases hc with rfl | rfl <;> decide
  have h39 : ¬ c = 39 := by omega
  rw [if_neg h3, if_neg h2, if_neg h39, if_pos hc]
/-- A digit behind the quad. -/
theorem port_digit {l : List Int} {i : Nat} (hc : l.getD i (-1) = 9109 ∨ l.getD i (-1) = 9054) (hd : digit (l.getD (i + 1) (-1)) = true) (h7 : l.getD (i + 1) (-1) ≤ 55) : read l i =
    if word (l.getD (i + 2) (-1)) = true then (none_, 0, 1) else (⟨if l.getD i (-1) = 9054 then 5 else 4, Rt.none_, [], [], l.getD (i + 1) (-1) - 48, i⟩, 2, 0) := by
  rw [port_head hc]
  simp only
  rw [words_yes (word_digit hd)]
  have h48 : 48 ≤ l.getD (i + 1) (-1) := by unfold digit at hd; rw [Bool.and_eq_true, decide_eq_true_eq, decide_eq_true_eq] at hd; exact hd.1
  by_cases hw : word (l.getD (i + 2) (-1)) = true
  · rw [if_pos hw, words_yes (i := i + 1 + 1) hw]
    rw [if_neg (by omega), if_neg (by omega), if_neg (by omega)]
  · rw [if_neg hw, words_no (i := i + 1 + 1) (by simpa using hw)]
    rw [if_pos ⟨rfl, h48, h7⟩]
theorem letter_range {x : Int} (h : (cls x == 2) = true) : 65 ≤ x ∧ x ≤ 122 := by
  have h : cls x = 2 := by simpa using h
  unfold cls at h
  split at h
  · cases h
  · split at h
    · omega
    · exfalso
      repeat' split at h
      all_goals (first | cases h | omega)
/-- Two letters behind the quad. -/
theorem port_two {l : List Int} {i : Nat} (hc : l.getD i (-1) = 9109) (hd : (cls (l.getD (i + 1) (-1)) == 2) = true) (hd2 : (cls (l.getD (i + 2) (-1)) == 2) = true) : read l i =
    if l.getD (i + 1) (-1) = 68 ∧ l.getD (i + 2) (-1) = 67 then (if word (l.getD (i + 3) (-1)) = true then (none_, 0, 1) else (⟨6, Rt.none_, [], [], 0, i⟩, 3, 0))
    else if l.getD (i + 1) (-1) = 85 ∧ l.getD (i + 2) (-1) = 80 then (if word (l.getD (i + 3) (-1)) = true then (none_, 0, 1) else (⟨6, Rt.none_, [], [], 1, i⟩, 3, 0))
    else (none_, 0, 1) := by
  rw [port_head (.inl hc)]
  simp only
  have hr := letter_range hd
  rw [words_yes (word_letter hd), words_yes (i := i + 1 + 1) (word_letter hd2), if_neg (by omega)]
  by_cases hw : word (l.getD (i + 3) (-1)) = true
  · rw [words_yes (i := i + 1 + 1 + 1) hw, if_neg (by omega), if_neg (by omega), if_pos hw]
    split <;> (try split) <;> rfl
  · rw [words_no (i := i + 1 + 1 + 1) (by simpa using hw), if_neg hw]
    by_cases h1 : l.getD (i + 1) (-1) = 68 ∧ l.getD (i + 2) (-1) = 67
    · rw [if_pos ⟨hc, rfl, h1⟩, if_pos h1]
    · rw [if_neg (fun h => h1 h.2.2), if_neg h1]
      by_cases h2 : l.getD (i + 1) (-1) = 85 ∧ l.getD (i + 2) (-1) = 80
      · rw [if_pos ⟨hc, rfl, h2⟩, if_pos h2]
        rw [if_neg hw]
      · rw [if_neg (fun h => h2 h.2.2), if_neg h2]
/-- Neither. -/
theorem port_none {l : List Int} {i : Nat} (hc : l.getD i (-1) = 9109 ∨ l.getD i (-1) = 9054) (h1 : ¬ (digit (l.getD (i + 1) (-1)) = true ∧ l.getD (i + 1) (-1) ≤ 55)) (h2 : ¬ (l.getD i (-1) = 9109 ∧ (cls (l.getD (i + 1) (-1)) == 2) = true ∧ (cls (l.getD (i + 2) (-1)) == 2) = true)) : read l i = (none_, 0, 1) := by
  rw [port_head hc]
  simp only
  rw [if_neg (by
    rintro ⟨_, h48, h55⟩
    exact h1 ⟨by unfold digit; rw [Bool.and_eq_true, decide_eq_true_eq, decide_eq_true_eq]; omega, h55⟩)]
  rw [if_neg (by
    rintro ⟨hq, _, h68, h67⟩
    exact h2 ⟨hq, by rw [h68]; decide, by rw [h67]; decide⟩)]
  rw [if_neg (by
    rintro ⟨hq, _, h68, h67⟩
    exact h2 ⟨hq, by rw [h68]; decide, by rw [h67]; decide⟩)]
end Tk

/-
  scrimref03.Of: a whole number of an int; scrimref02.Mul, Add of numbers that calls handed back.
-/
namespace Go.Proofs.YtfiefglagknclaaGreatDoor
open Go.RowKit
set_option maxHeartbeats 2000000
set_option maxRecDepth 100000
set_option linter.unusedVariables false

theorem rMul_res {w : World} {v1 v2 : Value} {l1 l2 : List Nat} (h1 : IsRes w v1 l1) (h2 : IsRes w v2 l2) (o1 : Nt.Ok l1) (o2 : Nt.Ok l2) (s1 : l1.length ≤ 1000000) (s2 : l2.length ≤ 1000000) :
    Calls Tryz.prog 56 #[v1, v2] w fun e w' => ∃ v, e = .returned v ∧ IsRes w' v (Nt.digs (Nt.val l1 * Nt.val l2)) ∧ Below w.heap.size w w' := by
  obtain ⟨A, c, rfl, a1, a2, a3, a4⟩ := h1
  obtain ⟨A', c', rfl, b1, b2, b3, b4⟩ := h2
  exact refMul_any A A' c c' w.heap.size l1 l2 w a4 b4 (Nat.le_refl _) o1 o2 a1 b1 a2 b2 s1 s2
theorem rAdd_res {w : World} {v1 v2 : Value} {l1 l2 : List Nat} (h1 : IsRes w v1 l1) (h2 : IsRes w v2 l2) (o1 : Nt.Ok l1) (o2 : Nt.Ok l2) (s1 : l1.length ≤ 1000000) (s2 : l2.length ≤ 1000000) :
    Calls Tryz.prog 40 #[v1, v2] w fun e w' => ∃ v, e = .returned v ∧ IsRes w' v (Nt.digs (Nt.val l1 + Nt.val l2)) ∧ Below w.heap.size w w' := by
  obtain ⟨A, c, rfl, a1, a2, a3, a4⟩ := h1
  obtain ⟨A', c', rfl, b1, b2, b3, b4⟩ := h2
  exact refAdd_any A A' c c' w.heap.size l1 l2 w a4 b4 (Nat.le_refl _) o1 o2 a1 b1 a2 b2 (by omega) (by omega)
theorem isRes_new (w : World) (l : List Nat) (h : l.length ≤ 1000) : IsRes (w.alloc (.cells (U l).toArray 22)) (.slice (some ⟨w.heap.size, 0, none⟩) l.length l.length) l :=
  ⟨_, _, rfl, Nat.le_refl _, by omega, (fun h => by cases h), by
    have := Lies.new w (U l) 22
    exact this.more (by simp)⟩
theorem ok_two {a b : Nat} (h1 : a < 4294967296) (h2 : b < 4294967296) : Nt.Ok [a, b] := by
  intro d hd
  rcases List.mem_cons.1 hd with rfl | hd
  · exact h1
  · rw [List.mem_singleton] at hd; subst hd; exact h2
theorem val_two (n : Nat) : Nt.val [n % 4294967296, n / 4294967296] = n := by simp [Nt.val]; omega

theorem refOfInt_any (n : Int) (w : World) (h1 : -9223372036854775808 ≤ n) (h2 : n ≤ 9223372036854775807) :
    Calls Tryz.prog 20 #[.int .i64 n] w (Int3Out w (decide (n < 0)) (Nt.digs n.natAbs)) := by
  have HI2 : Hid (∀ (b : Bool) (A : Option Addr) (k c : Nat), (Tryz.prog.info? 49).map (·.size) = some (#[.bool b, .slice A k c] : Array Value).size) := Lib.hid (fun _ _ _ _ => int3_info)
  obtain ⟨w1, hw1⟩ : ∃ w1, w1 = w.alloc (.cells #[.bool false, .slice none 0 0] 49) := ⟨_, rfl⟩
  have hb1 : Below w.heap.size w w1 := by rw [hw1]; exact (Below.refl _ _).alloc (Nat.le_refl _) _
  have HG1 : Hid (w1.heap[w.heap.size]? = some (.cells #[.bool false, .slice none 0 0] 49 (0, 0))) := Lib.hid (by rw [hw1]; exact heap_alloc_new w _)
  have HW1 := Lib.hid hw1
  have HS1 : Hid (w1.heap.size = w.heap.size + 1) := Lib.hid (by rw [hw1]; simp)
  clear hw1
  by_cases hn : 0 ≤ n
  · obtain ⟨m, rfl⟩ : ∃ m : Nat, n = (m : Int) := ⟨n.toNat, by omega⟩
    have hm1 : m % 4294967296 < 4294967296 := by omega
    have hm2 : m / 4294967296 < 4294967296 := by omega
    obtain ⟨w2, hw2⟩ : ∃ w2, w2 = w1.alloc (.cells #[.int .u32 ((m % 4294967296 : Nat) : Int), .int .u32 ((m / 4294967296 : Nat) : Int)] 22) := ⟨_, rfl⟩
    have hr : IsRes w2 (.slice (some ⟨w1.heap.size, 0, none⟩) 2 2) [m % 4294967296, m / 4294967296] := by rw [hw2]; exact isRes_new w1 [m % 4294967296, m / 4294967296] (by simp)
    have NM := norm3_any false _ _ w2 ⟨hr, ok_two hm1 hm2, by show 2 ≤ 64; decide⟩
    rw [val_two] at NM
    have hnn : Rt.nrm false m = false := by unfold Rt.nrm; simp
    rw [hnn, HS1.out] at NM
    have HP : Hid (decide ((m : Int) < 0) = false) := Lib.hid (decide_eq_false (by omega))
    have HM : Hid ((m : Int).natAbs = m) := Lib.hid (by omega)
    have hb2 : Below w.heap.size w w2 := by rw [hw2]; exact hb1.alloc hb1.size _
    have HG2 : Hid (w2.heap[w.heap.size]? = some (.cells #[.bool false, .slice none 0 0] 49 (0, 0))) := Lib.hid (by rw [hw2]; exact (Below.heap_alloc _ _ _ (blk_lt HG1.out)).trans HG1.out)
    have HNM := Lib.hid NM
    have HW2 : Hid (w2 = w1.alloc (.cells #[.int .u32 ((m : Int) % 4294967296), .int .u32 ((m : Int) / 4294967296)] 22)) := Lib.hid (by rw [hw2]; simp)
    have e1 : (m : Int) % 4294967296 < 4294967296 := by omega
    have e2 : (m : Int) / 4294967296 < 4294967296 := by omega
    have e3 : 0 ≤ (m : Int) % 4294967296 := by omega
    have e4 : 0 ≤ (m : Int) / 4294967296 := by omega
    clear hw2 NM hnn hr hm1 hm2
    go_enter Tryz.func20, Tryz.ntmps20
    go_wp2_with fail
    rw [← HW1.out, ← HW2.out]
    (with_reducible refine HNM.out.mono ?_)
    rintro e w3 ⟨v3, rfl, hr3, hb3⟩
    have HG3 := Lib.hid ((hb3.block w.heap.size (blk_lt HG2.out)).trans HG2.out)
    have hbw3 := hb2.trans (hb3.mono hb2.size)
    have HR3 := Lib.hid (hr3.setRow HG3.out (two_no_int _ _ _ _) #[.bool false, v3])
    obtain ⟨⟨A3, c3, rfl, -⟩, -⟩ := hr3
    clear hb3 hb1 hb2 HNM
    go_wp2_with (with_reducible refine wpList_store_row rfl 49 (.tmp 2) (.tmp 14) rfl w.heap.size #[.bool false, .slice A3 (Nt.digs m).length c3] rfl rfl 49 #[.bool false, .slice none 0 0] HG3.out (HI2.out _ _ _ _) rfl (two_one _ _ _ _) ?_)
    refine bodyPost_ret (results_cell_row (by rfl) _ _ w.heap.size 49 #[.bool false, .slice A3 (Nt.digs m).length c3] (0, 0) _ (by rfl) (rheap_same HG3.out) Tryz.underlying49 rfl (HI2.out _ _ _ _)) rfl ⟨_, by rw [HP.out], by rw [HM.out]; exact HR3.out, rBelow.setRow hbw3 (Nat.le_refl _) _⟩
  · obtain ⟨m, hm⟩ : ∃ m : Nat, -1 - n = (m : Int) := ⟨(-1 - n).toNat, by omega⟩
    have hm63 : m ≤ 9223372036854775807 := by omega
    have hm1 : m % 4294967296 < 4294967296 := by omega
    have hm2 : m / 4294967296 < 4294967296 := by omega
    obtain ⟨w2, hw2⟩ : ∃ w2, w2 = (w1.alloc (.cells #[.int .u32 ((m % 4294967296 : Nat) : Int), .int .u32 ((m / 4294967296 : Nat) : Int)] 22)).alloc (.cells #[.int .u32 1] 22) := ⟨_, rfl⟩
    have hr : IsRes w2 (.slice (some ⟨w1.heap.size, 0, none⟩) 2 2) [m % 4294967296, m / 4294967296] := by
      rw [hw2]
      exact (isRes_new w1 [m % 4294967296, m / 4294967296] (by simp)).below ((Below.refl _ _).alloc (Nat.le_refl _) _)
    have hr' : IsRes w2 (.slice (some ⟨w1.heap.size + 1, 0, none⟩) 1 1) [1] := by
      have := isRes_new (w1.alloc (.cells #[.int .u32 ((m % 4294967296 : Nat) : Int), .int .u32 ((m / 4294967296 : Nat) : Int)] 22)) [1] (by decide)
      rw [show (w1.alloc (.cells #[.int .u32 ((m % 4294967296 : Nat) : Int), .int .u32 ((m / 4294967296 : Nat) : Int)] 22)).heap.size = w1.heap.size + 1 by simp] at this
      rw [hw2]; exact this
    have AD := rAdd_res hr hr' (ok_two hm1 hm2) (by intro d hd; rw [List.mem_singleton] at hd; subst hd; decide) (by simp) (by simp)
    rw [val_two, show Nt.val [1] = 1 from rfl, HS1.out] at AD
    have hnn : Rt.nrm true (m + 1) = true := by unfold Rt.nrm; simp
    have HP : Hid (decide (n < 0) = true) := Lib.hid (decide_eq_true (by omega))
    have HM : Hid (n.natAbs = m + 1) := Lib.hid (by omega)
    have hb2 : Below w.heap.size w w2 := by rw [hw2]; exact (hb1.alloc hb1.size _).alloc (by have := hb1.size; simp; omega) _
    have HG2 : Hid (w2.heap[w.heap.size]? = some (.cells #[.bool false, .slice none 0 0] 49 (0, 0))) := Lib.hid (by
      have hlt := blk_lt HG1.out
      rw [hw2]; exact (Below.heap_alloc _ _ _ (by simp; omega)).trans ((Below.heap_alloc _ _ _ hlt).trans HG1.out))
    have HAD := Lib.hid AD
    have HW2 : Hid (w2 = (w1.alloc (.cells #[.int .u32 ((m : Int) % 4294967296), .int .u32 ((m : Int) / 4294967296)] 22)).alloc (.cells #[.int .u32 1] 22)) := Lib.hid (by rw [hw2]; simp)
    have HNN := Lib.hid hnn
    have hdl : (Nt.digs (m + 1)).length ≤ 64 := by
      have := Nt.digs_len_lt (n := m + 1) (k := 2) (by omega)
      omega
    have e0 : IntKind.i64.wrap (-1 - n) = (m : Int) := by rw [hm]; exact IntWalk.i64_in _ (by omega)
    have e1 : (m : Int) % 4294967296 < 4294967296 := by omega
    have e2 : (m : Int) / 4294967296 < 4294967296 := by omega
    have e3 : 0 ≤ (m : Int) % 4294967296 := by omega
    have e4 : 0 ≤ (m : Int) / 4294967296 := by omega
    have hneg : decide (0 ≤ n) = false := decide_eq_false hn
    have e5 : wrap64 (-1 - n) = (m : Int) := IntWalk.wrap64_in _ (by omega) |>.trans hm
    clear hw2 AD hnn hr hr' hm1 hm2 hm63 h2 hn h1 hm
    go_enter Tryz.func20, Tryz.ntmps20
    go_wp2_with fail
    rw [← HW1.out, ← HW2.out]
    (with_reducible refine HAD.out.mono ?_)
    rintro e w3 ⟨v3, rfl, hr3, hb3⟩
    have HG3 := Lib.hid ((hb3.block w.heap.size (blk_lt HG2.out)).trans HG2.out)
    have hbw3 := hb2.trans (hb3.mono hb2.size)
    have NM := norm3_any true v3 _ w3 ⟨hr3, Nt.ok_digs _, hdl⟩
    rw [Nt.val_digs, HNN.out] at NM
    have HNM := Lib.hid NM
    obtain ⟨A3, c3, rfl, -⟩ := hr3
    clear hb3 hb1 hb2 HAD NM
    go_wp2_with fail
    (with_reducible refine HNM.out.mono ?_)
    rintro e w4 ⟨v4, rfl, hr4, hb4⟩
    have HG4 := Lib.hid ((hb4.block w.heap.size (blk_lt HG3.out)).trans HG3.out)
    have hbw4 := hbw3.trans (hb4.mono hbw3.size)
    have HR4 := Lib.hid (hr4.setRow HG4.out (two_no_int _ _ _ _) #[.bool true, v4])
    obtain ⟨⟨A4, c4, rfl, -⟩, -⟩ := hr4
    clear hb4 HNM
    go_wp2_with (with_reducible refine wpList_store_row rfl 49 (.tmp 2) (.tmp 27) rfl w.heap.size #[.bool true, .slice A4 (Nt.digs (m + 1)).length c4] rfl rfl 49 #[.bool false, .slice none 0 0] HG4.out (HI2.out _ _ _ _) rfl (two_one _ _ _ _) ?_)
    refine bodyPost_ret (results_cell_row (by rfl) _ _ w.heap.size 49 #[.bool true, .slice A4 (Nt.digs (m + 1)).length c4] (0, 0) _ (by rfl) (rheap_same HG4.out) Tryz.underlying49 rfl (HI2.out _ _ _ _)) rfl ⟨_, by rw [HP.out], by rw [HM.out]; exact HR4.out, rBelow.setRow hbw4 (Nat.le_refl _) _⟩
end Go.Proofs.YtfiefglagknclaaGreatDoor

/-
  Numbers compared: ratio.Same, and the reference's. (Printed by wip/bin/gen_same2.py.)
-/
namespace Go.Proofs.YtfiefglagknclaaGreatDoor
open Go.RowKit Ar
set_option maxHeartbeats 1000000
set_option linter.unusedVariables false

/-- Whether two numbers' fields are the same. -/
def sameNum (n n' : Bool) (t t' b b' : List Nat) : Bool := (n == n') && (t == t') && (b == b')

theorem refRatioSame_any (n n' : Bool) (t t' b b' : List Nat) (A1 A2 A1' A2' : Option Addr) (c1 c2 c1' c2' : Nat) (w : World) (B : Nat) (h1 : Lies w B A1 (U32 t)) (h1' : Lies w B A1' (U32 t')) (h2 : Lies w B A2 (U32 b)) (h2' : Lies w B A2' (U32 b')) (hB : B ≤ w.heap.size)
    (k1 : t.length ≤ 9223372036854775807) (k1' : t'.length ≤ 9223372036854775807) (k2 : b.length ≤ 9223372036854775807) (k2' : b'.length ≤ 9223372036854775807) :
    Calls Tryz.prog 10 #[.agg #[.bool n, .slice A1 t.length c1, .slice A2 b.length c2], .agg #[.bool n', .slice A1' t'.length c1', .slice A2' b'.length c2']] w fun e w' => e = .returned (.bool (sameNum n n' t t' b b')) ∧ Below w.heap.size w w' := by
  have E1 := Lib.hid (fun (wx : World) (hx : Below w.heap.size w wx) => refSame2_any t t' A1 A1' c1 c1' wx B (h1.below (hx.mono hB)) (h1'.below (hx.mono hB)) k1 k1')
  have E2 := Lib.hid (fun (wx : World) (hx : Below w.heap.size w wx) => refSame2_any b b' A2 A2' c2 c2' wx B (h2.below (hx.mono hB)) (h2'.below (hx.mono hB)) k2 k2')
  have HR : Hid (sameNum n n' t t' b b' = ((n == n') && (t == t') && (b == b'))) := Lib.hid rfl
  clear h1 h1' h2 h2'
  generalize sameNum n n' t t' b b' = R at *
  generalize (t == t') = x at *
  generalize (b == b') = y at *
  cases hnn : (n == n')
  · rw [hnn] at HR
    go_enter Tryz.func10, Tryz.ntmps10
    go_wp2_with fail
    go_ret
    exact ⟨ret_bool (by rw [HR.out]; simp), ((Below.refl _ _).alloc (Nat.le_refl _) _).alloc (by simp) _⟩
  · rw [hnn] at HR
    go_enter Tryz.func10, Tryz.ntmps10
    go_wp2_with fail
    have hb0 : Below w.heap.size w ((w.alloc (.cells #[.bool n, .slice A1 t.length c1, .slice A2 b.length c2] 26)).alloc (.cells #[.bool n', .slice A1' t'.length c1', .slice A2' b'.length c2'] 26)) := ((Below.refl _ _).alloc (Nat.le_refl _) _).alloc (by simp) _
    refine (E1.out _ hb0).mono ?_
    rintro e w2 ⟨rfl, hb2⟩
    have hb3 := hb0.trans (hb2.mono hb0.size)
    obtain ⟨hc, hfz⟩ : (∀ o, w2.cell? ⟨w.heap.size, o, none⟩ = _) ∧ (∀ o, w2.cell? ⟨w.heap.size + 1, o, none⟩ = _) := ⟨fun o => hb2.cell (p := ⟨w.heap.size, o, none⟩) (by show w.heap.size < _; simp; omega), fun o => hb2.cell (p := ⟨w.heap.size + 1, o, none⟩) (by show w.heap.size + 1 < _; simp)⟩
    cases x
    · go_wp2_with fail
      go_ret
      exact ⟨ret_bool (by rw [HR.out]; simp), hb3⟩
    · go_wp2_with fail
      refine (E2.out _ hb3).mono ?_
      rintro e w3 ⟨rfl, hb4⟩
      clear hc hfz
      go_wp2_with fail
      go_ret
      exact ⟨ret_bool (by rw [HR.out]; simp), hb3.trans (hb4.mono hb3.size)⟩
end Go.Proofs.YtfiefglagknclaaGreatDoor

/-
  Tokens, plain, by the document's functions: a name's bytes, two letters' bytes.
-/
namespace Tk
open Go
theorem word_range {x : Int} (h : word x = true) : 48 ≤ x ∧ x ≤ 122 := by
  unfold word at h
  rw [Bool.or_eq_true] at h
  rcases h with h | h
  · unfold digit at h; simp at h; omega
  · have := letter_range h; omega
theorem enc1_ascii {x : Int} (h0 : 0 ≤ x) (h1 : x ≤ 122) : enc1 x = [UInt8.ofNat x.toNat] := by
  unfold enc1 Gl.one
  rw [if_pos (by omega)]; rfl
theorem take_while : ∀ m : List Int, m.take (m.takeWhile word).length = m.takeWhile word
  | [] => rfl
  | a :: r => by
    rw [List.takeWhile_cons]
    cases word a
    · rfl
    · simp [take_while r]
theorem take_word : ∀ (m : List Int), ∀ x ∈ m.takeWhile word, word x = true
  | [], x, h => by simp at h
  | a :: r, x, h => by
    rw [List.takeWhile_cons] at h
    cases ha : word a
    · rw [ha] at h; simp at h
    · rw [ha] at h
      simp only [if_true, List.mem_cons] at h
      rcases h with rfl | h
      · exact ha
      · exact take_word r x h
theorem words_all (l : List Int) (i : Nat) : ∀ x ∈ (l.drop i).take (words l i), word x = true := by
  unfold words
  rw [take_while]
  exact take_word _
theorem enc_map : ∀ {m : List Int}, (∀ x ∈ m, word x = true) → enc m = m.map fun x => UInt8.ofNat x.toNat
  | [], _ => rfl
  | a :: r, h => by
    have h1 := word_range (h a (List.mem_cons_self ..))
    have h2 := enc_map (m := r) (fun x hx => h x (List.mem_cons_of_mem _ hx))
    unfold enc at h2 ⊢
    rw [List.flatMap_cons, h2, enc1_ascii (by omega) (by omega)]
    rfl
theorem take_getD {l : List Int} {i n j : Nat} (h : j < n) : ((l.drop i).take n).getD j (-1) = l.getD (i + j) (-1) := by
  rw [List.getD_eq_getElem?_getD, List.getD_eq_getElem?_getD, List.getElem?_take, if_pos h, List.getElem?_drop]
theorem take_len (l : List Int) (i : Nat) : ((l.drop i).take (words l i)).length = words l i := by
  have := words_le l i
  rw [List.length_take, List.length_drop]
  omega
theorem enc_one {l : List Int} {i : Nat} (h : words l i = 1) : enc ((l.drop i).take (words l i)) = [UInt8.ofNat (l.getD i (-1)).toNat] := by
  have hl := take_len l i
  rw [enc_map (words_all l i)]
  have hg := take_getD (l := l) (i := i) (n := words l i) (j := 0) (by omega)
  obtain ⟨m, hm⟩ : ∃ m, m = (l.drop i).take (words l i) := ⟨_, rfl⟩
  rw [← hm] at hl hg ⊢
  match m, hl with
  | [x], _ =>
    have hg : x = l.getD i (-1) := hg
    rw [hg]; rfl
  | [], hl => rw [h] at hl; cases hl
  | _ :: _ :: _, hl => rw [h] at hl; simp at hl
theorem u8_eq {x : Int} {a : Nat} (h1 : 0 ≤ x) (h2 : x ≤ 122) (ha : a ≤ 122) (h : UInt8.ofNat x.toNat = UInt8.ofNat a) : x = (a : Int) := by
  have h := congrArg UInt8.toNat h
  simp only [UInt8.toNat_ofNat'] at h
  omega
theorem enc_two {l : List Int} {i : Nat} {a b : Nat} (ha : a ≤ 122) (hb : b ≤ 122) : enc ((l.drop i).take (words l i)) = [UInt8.ofNat a, UInt8.ofNat b] ↔ words l i = 2 ∧ l.getD i (-1) = (a : Int) ∧ l.getD (i + 1) (-1) = (b : Int) := by
  have hl := take_len l i
  have ha' := words_all l i
  rw [enc_map ha']
  have hg0 := take_getD (l := l) (i := i) (n := words l i) (j := 0)
  have hg1 := take_getD (l := l) (i := i) (n := words l i) (j := 1)
  obtain ⟨m, hm⟩ : ∃ m, m = (l.drop i).take (words l i) := ⟨_, rfl⟩
  rw [← hm] at hl ha' hg0 hg1 ⊢
  clear hm
  match m, hl, ha', hg0, hg1 with
  | [], hl, _, _, _ =>
    have hl : 0 = words l i := hl
    constructor
    · intro h; have h := congrArg List.length h; simp at h
    · rintro ⟨h, _⟩; omega
  | [x], hl, _, _, _ =>
    have hl : 1 = words l i := hl
    constructor
    · intro h; have h := congrArg List.length h; simp at h
    · rintro ⟨h, _⟩; omega
  | [x, y], hl, ha', hg0, hg1 =>
    have hl : 2 = words l i := hl
    have hx : x = l.getD i (-1) := hg0 (by omega)
    have hy : y = l.getD (i + 1) (-1) := hg1 (by omega)
    rw [← hx, ← hy]
    have rx := word_range (ha' x (by simp))
    have ry := word_range (ha' y (by simp))
    constructor
    · intro h
      have h1 : UInt8.ofNat x.toNat = UInt8.ofNat a := Option.some.inj (congrArg (fun l : List UInt8 => l[0]?) h)
      have h2 : UInt8.ofNat y.toNat = UInt8.ofNat b := Option.some.inj (congrArg (fun l : List UInt8 => l[1]?) h)
      exact ⟨hl.symm, u8_eq (by omega) (by omega) ha h1, u8_eq (by omega) (by omega) hb h2⟩
    · rintro ⟨_, rfl, rfl⟩
      rfl
  | x :: y :: z :: r, hl, _, _, _ =>
    have hl : r.length + 3 = words l i := hl
    constructor
    · intro h; have h := congrArg List.length h; simp at h
    · rintro ⟨h, _⟩; omega
/-- The document's token behind a quad. -/
theorem port_doc {l : List Int} {i : Nat} (hc : l.getD i (-1) = 9109 ∨ l.getD i (-1) = 9054) : read l i =
    (if words l (i + 1) = 1 ∧ 48 ≤ l.getD (i + 1) (-1) ∧ l.getD (i + 1) (-1) ≤ 55 then (⟨if l.getD i (-1) = 9054 then 5 else 4, Rt.none_, [], [], l.getD (i + 1) (-1) - 48, i⟩, 2, 0)
     else if l.getD i (-1) = 9109 ∧ enc ((l.drop (i + 1)).take (words l (i + 1))) = [68, 67] then (⟨6, Rt.none_, [], [], 0, i⟩, 3, 0)
     else if l.getD i (-1) = 9109 ∧ enc ((l.drop (i + 1)).take (words l (i + 1))) = [85, 80] then (⟨6, Rt.none_, [], [], 1, i⟩, 3, 0)
     else (none_, 0, 1)) := by
  have e1 := enc_two (l := l) (i := i + 1) (a := 68) (b := 67) (by omega) (by omega)
  have e2 := enc_two (l := l) (i := i + 1) (a := 85) (b := 80) (by omega) (by omega)
  have e1 : enc ((l.drop (i + 1)).take (words l (i + 1))) = [68, 67] ↔ words l (i + 1) = 2 ∧ l.getD (i + 1) (-1) = 68 ∧ l.getD (i + 2) (-1) = 67 := e1
  have e2 : enc ((l.drop (i + 1)).take (words l (i + 1))) = [85, 80] ↔ words l (i + 1) = 2 ∧ l.getD (i + 1) (-1) = 85 ∧ l.getD (i + 2) (-1) = 80 := e2
  rw [port_head hc]
  simp only [e1, e2]
end Tk

/-
  Tokens, plain: there are no more than characters, and no text is longer than the line.
-/
namespace Tk
open Go
theorem quote_len {l : List Int} : ∀ {f k : Nat} {out t : List Int} {e : Nat}, quote l f k out = some (t, e) → t.length + k ≤ out.length + e
  | 0, k, out, t, e, h => by unfold quote at h; cases h
  | f + 1, k, out, t, e, h => by
    unfold quote at h
    split at h
    · cases h
    · split at h
      · have := quote_len h
        rw [List.length_append] at this
        simp at this
        omega
      · split at h
        · injection h with h
          injection h with h1 h2
          subst h1 h2
          omega
        · have := quote_len h
          rw [List.length_append] at this
          simp at this
          omega
theorem read_l {l : List Int} {i : Nat} : (read l i).1.l.length ≤ l.length := by
  have hz : ([] : List Int).length ≤ l.length := Nat.zero_le _
  unfold read
  simp only
  split
  · split
    · exact hz
    · split <;> exact hz
  · split
    · split <;> exact hz
    · split
      · split
        · exact hz
        · rename_i t e h
          have h1 := quote_len h
          have h2 := quote_le h
          show t.length ≤ _
          simp at h1
          omega
      · split
        · split
          · exact hz
          · split
            · exact hz
            · split <;> exact hz
        · split <;> exact hz
theorem goF_small {l : List Int} : ∀ {f i : Nat} {out : List Tok}, i ≤ l.length → out.length ≤ i → (∀ t ∈ out, t.l.length ≤ l.length ∧ t.at_ ≤ l.length) → (goF l f i out).1.length ≤ l.length ∧ ∀ t ∈ (goF l f i out).1, t.l.length ≤ l.length ∧ t.at_ ≤ l.length
  | 0, i, out, h1, h2, h3 => ⟨Nat.le_trans h2 h1, h3⟩
  | f + 1, i, out, h1, h2, h3 => by
    unfold goF
    by_cases a : l.length ≤ i ∨ l.getD i (-1) = 9053
    · rw [if_pos a]
      exact ⟨Nat.le_trans h2 h1, h3⟩
    · rw [if_neg a]
      by_cases b : cls (l.getD i (-1)) = 1
      · rw [if_pos b]
        exact goF_small (by omega) (by omega) h3
      · rw [if_neg b]
        by_cases c : (read l i).2.2 ≠ 0
        · rw [if_pos c]
          exact ⟨Nat.zero_le _, fun t ht => absurd ht List.not_mem_nil⟩
        · rw [if_neg c]
          have hr := read_len (l := l) (i := i) (by omega) (by simpa using c)
          refine goF_small (by omega) (by rw [List.length_append]; simp; omega) (fun t ht => ?_)
          rcases List.mem_append.1 ht with ht | ht
          · exact h3 t ht
          · rw [List.mem_singleton] at ht
            rw [ht]
            exact ⟨read_l, by rw [(read_ok (by simpa using c)).2]; exact h1⟩
theorem cutL_small {l : List Int} {b : Option Nat} : (cutL l b).1.length ≤ l.length ∧ ∀ t ∈ (cutL l b).1, t.l.length ≤ l.length ∧ t.at_ ≤ l.length := by
  have hg := goF_small (l := l) (f := l.length + 1) (i := 0) (out := []) (Nat.zero_le _) (Nat.le_refl _) (fun t ht => absurd ht List.not_mem_nil)
  have hz : (([] : List Tok).length ≤ l.length ∧ ∀ t ∈ ([] : List Tok), t.l.length ≤ l.length ∧ t.at_ ≤ l.length) := ⟨Nat.zero_le _, fun t ht => absurd ht List.not_mem_nil⟩
  unfold cutL
  split
  · exact hz
  · split
    · exact hg
    · split
      · exact hg
      · exact hz
theorem cut_small (s : ByteArray) : (cut s).1.length ≤ s.size ∧ ∀ t ∈ (cut s).1, t.l.length ≤ s.size ∧ t.at_ ≤ s.size := by
  have h := cutL_small (l := Gl.ints (Gl.dec s 0).1) (b := (Gl.dec s 0).2)
  have hd := Gl.dec_len (s := s) (s.size + 1) 0 (by omega)
  have hl : (Gl.ints (Gl.dec s 0).1).length ≤ s.size := by unfold Gl.ints; rw [List.length_map]; omega
  exact ⟨Nat.le_trans h.1 hl, fun t ht => ⟨Nat.le_trans (h.2 t ht).1 hl, Nat.le_trans (h.2 t ht).2 hl⟩⟩
end Tk

/-
  A world that meets the rows' condition on listed variables (two tables of utf8); the walks ask nothing of it.
-/
namespace Go.Proofs.YtfiefglagknclaaGreatDoor
open Go.ChangeShapes Go.WideShapes Go.ChangeAt Go.RowKit

def laid2 : List (String × DataW Unit) := [("unicode/utf8.acceptRanges", Rows.laid_unicode_utf8_acceptRanges), ("unicode/utf8.first", Rows.laid_unicode_utf8_first)]
theorem door_met (os : Os) (args : Array Value) : laidMetH Tryz.prog laid2 ((World.laidAll Tryz.prog os laid2).forCall (fun _ _ => 0) ⟨#[], args, []⟩).memory := by
  rw [MakeChecks.laidMetH_plain _ _ _ (by kernel_rfl)]
  exact laidMet_laidAll _ (by kernel_rfl) (by kernel_rfl)
theorem of_laid {W : World} (_ : laidMetH Tryz.prog laid2 W) : True := trivial
end Go.Proofs.YtfiefglagknclaaGreatDoor
