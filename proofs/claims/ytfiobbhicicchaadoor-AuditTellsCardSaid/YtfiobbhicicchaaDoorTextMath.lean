/-
  A label's text, in plain words: its runs of tags, and how each is told.
-/
import Derived.Test.YtfiobbhicicchaaDoorLabMath
import Derived.Lib.ItoaNum
import Derived.Lib.Join
namespace Lab
open Go
/-- Where the run that begins at t ends. -/
def runEnd (l : Nat) : Nat → Nat → Nat
  | 0, t => t
  | f + 1, t => if l.testBit (t + 1) then runEnd l f (t + 1) else t
def last (l t : Nat) : Nat := runEnd l 64 t
theorem runEnd_ge (l f : Nat) : ∀ t, t ≤ runEnd l f t := by
  induction f with
  | zero => intro t; exact Nat.le_refl _
  | succ f ih => intro t; unfold runEnd; split
                 · have := ih (t + 1); omega
                 · exact Nat.le_refl _
theorem runEnd_bits (l f : Nat) : ∀ t, l.testBit t = true → ∀ i, t ≤ i → i ≤ runEnd l f t → l.testBit i = true := by
  induction f with
  | zero => intro t ht i h1 h2; rw [show i = t from by unfold runEnd at h2; omega]; exact ht
  | succ f ih =>
    intro t ht i h1 h2
    unfold runEnd at h2
    split at h2
    · rename_i hb
      by_cases e : i = t
      · rw [e]; exact ht
      · exact ih (t + 1) hb i (by omega) h2
    · rw [show i = t from by omega]; exact ht
theorem runEnd_stop {l : Nat} (hl : l < 18446744073709551616) (f : Nat) : ∀ t, 64 ≤ t + 1 + f → l.testBit (runEnd l f t + 1) = false := by
  induction f with
  | zero => intro t h; unfold runEnd; exact testBit_high hl (by omega)
  | succ f ih =>
    intro t h
    unfold runEnd
    split
    · exact ih (t + 1) (by omega)
    · rename_i hb; simpa using hb
theorem last_ge (l t : Nat) : t ≤ last l t := runEnd_ge l 64 t
theorem last_bits {l t : Nat} (ht : l.testBit t = true) : ∀ i, t ≤ i → i ≤ last l t → l.testBit i = true := runEnd_bits l 64 t ht
theorem last_stop {l t : Nat} (hl : l < 18446744073709551616) : l.testBit (last l t + 1) = false := runEnd_stop hl 64 t (by omega)
theorem bit_pos {l t : Nat} (hl : l < 18446744073709551616) (ht : l.testBit t = true) : t < 64 := by
  rcases Nat.lt_or_ge t 64 with h | h
  · exact h
  · rw [testBit_high hl h] at ht; cases ht
theorem last_lt {l t : Nat} (hl : l < 18446744073709551616) (ht : l.testBit t = true) : last l t < 64 := bit_pos hl (last_bits ht _ (last_ge l t) (Nat.le_refl _))
/-- The runs from a place on. -/
def runs (l p : Nat) : List (Nat × Nat) :=
  if _ : p < 64 then if l.testBit p then (p, last l p) :: runs l (last l p + 1) else runs l (p + 1) else []
termination_by 64 - p
decreasing_by
  · have := last_ge l p; omega
  · omega
/-- The tags from a place on. -/
def tagsFrom (l p : Nat) : List Nat := (List.range' p (64 - p)).filter fun t => l.testBit t
theorem tags_from (l : Nat) : tags l = tagsFrom l 0 := by unfold tags tagsFrom; rw [List.range_eq_range']
theorem tagsFrom_end {l p : Nat} (h : 64 ≤ p) : tagsFrom l p = [] := by
  unfold tagsFrom; rw [show 64 - p = 0 from by omega]; rfl
theorem tagsFrom_cons {l p : Nat} (h : p < 64) : tagsFrom l p = (if l.testBit p then [p] else []) ++ tagsFrom l (p + 1) := by
  unfold tagsFrom
  rw [show 64 - p = (64 - (p + 1)) + 1 from by omega, List.range'_succ, List.filter_cons]
  split <;> simp
theorem tagsFrom_take {l p : Nat} (h : p < 64) (hb : l.testBit p = true) : tagsFrom l p = p :: tagsFrom l (p + 1) := by rw [tagsFrom_cons h, if_pos hb]; rfl
theorem tagsFrom_skip {l p : Nat} (h : p < 64) (hb : l.testBit p = false) : tagsFrom l p = tagsFrom l (p + 1) := by rw [tagsFrom_cons h, hb]; rfl
theorem tagsFrom_ge {l p : Nat} : ∀ t ∈ tagsFrom l p, p ≤ t ∧ t < 64 ∧ l.testBit t = true := by
  intro t ht
  simp only [tagsFrom, List.mem_filter, List.mem_range'_1] at ht
  exact ⟨ht.1.1, by omega, ht.2⟩
theorem runs_nil {l : Nat} : ∀ (n p : Nat), 64 - p = n → tagsFrom l p = [] → runs l p = [] := by
  intro n
  induction n with
  | zero => intro p hp _; rw [runs, dif_neg (by omega)]
  | succ n ih =>
    intro p hp h
    have hlt : p < 64 := by omega
    cases hb : l.testBit p
    · rw [runs, dif_pos hlt, if_neg (by simp [hb])]
      exact ih (p + 1) (by omega) (by rw [← tagsFrom_skip hlt hb]; exact h)
    · rw [tagsFrom_take hlt hb] at h; cases h
theorem runs_cons {l : Nat} {t : Nat} {r : List Nat} : ∀ (n p : Nat), 64 - p = n → tagsFrom l p = t :: r → t < 64 ∧ l.testBit t = true ∧ tagsFrom l t = t :: r ∧ runs l p = (t, last l t) :: runs l (last l t + 1) := by
  intro n
  induction n with
  | zero => intro p hp h; rw [tagsFrom_end (by omega)] at h; cases h
  | succ n ih =>
    intro p hp h
    have hlt : p < 64 := by omega
    cases hb : l.testBit p
    · have := ih (p + 1) (by omega) (by rw [← tagsFrom_skip hlt hb]; exact h)
      rw [runs, dif_pos hlt, if_neg (by simp [hb])]
      exact this
    · have h2 := h
      rw [tagsFrom_take hlt hb] at h2
      injection h2 with e1 e2
      subst e1
      exact ⟨hlt, hb, h, by rw [runs, dif_pos hlt, if_pos hb]⟩
theorem tagsFrom_len (l p : Nat) : (tagsFrom l p).length ≤ 64 - p := by
  have := List.length_filter_le (fun t => l.testBit t) (List.range' p (64 - p))
  simpa [tagsFrom] using this
/-- How a run is told. -/
def piece (r : Nat × Nat) : List (List UInt8) :=
  if r.2 = r.1 then [Lib.decDigits r.1] else if r.2 = r.1 + 1 then [Lib.decDigits r.1, Lib.decDigits r.2] else [Lib.decDigits r.1 ++ 45 :: Lib.decDigits r.2]
def pieces (l p : Nat) : List (List UInt8) := (runs l p).flatMap piece
/-- THE TEXT. -/
def text (l : Nat) : List UInt8 := 123 :: (Lib.join (pieces l 0) [44] ++ [125])
theorem dec_len {n : Nat} (h : n < 64) : 1 ≤ (Lib.decDigits n).length ∧ (Lib.decDigits n).length ≤ 2 := by
  by_cases h10 : n < 10
  · rw [Lib.decDigits_one h10]; simp
  · rw [Lib.decDigits_two h10 (by omega)]; simp
theorem piece_len {r : Nat × Nat} (h1 : r.1 < 64) (h2 : r.2 < 64) : ∀ x ∈ piece r, 1 ≤ x.length ∧ x.length ≤ 5 := by
  intro x hx
  have a := dec_len h1
  have b := dec_len h2
  unfold piece at hx
  split at hx
  · simp at hx; subst hx; omega
  · split at hx
    · simp at hx; rcases hx with rfl | rfl <;> omega
    · simp at hx; subst hx; simp; omega
theorem runs_mem {l : Nat} (hl : l < 18446744073709551616) : ∀ (n p : Nat), 64 - p ≤ n → ∀ r ∈ runs l p, p ≤ r.1 ∧ r.1 ≤ r.2 ∧ r.2 < 64 := by
  intro n
  induction n with
  | zero => intro p hp r hr; rw [runs, dif_neg (by omega)] at hr; cases hr
  | succ n ih =>
    intro p hp r hr
    by_cases hlt : p < 64
    · have hge := last_ge l p
      rw [runs, dif_pos hlt] at hr
      split at hr
      · rename_i hb
        rcases List.mem_cons.1 hr with rfl | hr
        · exact ⟨Nat.le_refl _, hge, last_lt hl hb⟩
        · have := ih _ (by omega) r hr
          exact ⟨by omega, this.2⟩
      · have := ih _ (by omega) r hr
        exact ⟨by omega, this.2⟩
    · rw [runs, dif_neg hlt] at hr; cases hr
theorem pieces_len {l : Nat} (hl : l < 18446744073709551616) (p : Nat) : ∀ x ∈ pieces l p, 1 ≤ x.length ∧ x.length ≤ 5 := by
  intro x hx
  obtain ⟨r, hr, hx⟩ := List.mem_flatMap.1 hx
  have := runs_mem hl 64 p (by omega) r hr
  exact piece_len (by omega) (by omega) x hx
theorem join_snoc (ps : List (List UInt8)) (x sep : List UInt8) : Lib.join (ps ++ [x]) sep = if ps = [] then x else Lib.join ps sep ++ (sep ++ x) := by
  cases ps with
  | nil => simp [Lib.join_one]
  | cons y r =>
    rw [if_neg (by simp), List.cons_append, Lib.join_cons, Lib.join_cons]
    simp [Lib.joinTail]
theorem join_len_le (ps : List (List UInt8)) (h : ∀ x ∈ ps, x.length ≤ 5) : (Lib.join ps [44]).length ≤ 6 * ps.length := by
  have key : ∀ ps : List (List UInt8), (∀ x ∈ ps, x.length ≤ 5) → (Lib.joinTail [44] ps).length ≤ 6 * ps.length := by
    intro ps
    induction ps with
    | nil => intro _; simp [Lib.joinTail]
    | cons y r ih =>
      intro h
      have h1 := ih (fun x hx => h x (List.mem_cons_of_mem _ hx))
      have h2 := h y List.mem_cons_self
      simp only [Lib.joinTail, List.map_cons, List.flatten_cons, List.length_append, List.length_cons, List.length_nil] at h1 ⊢
      omega
  cases ps with
  | nil => simp [Lib.join_nil]
  | cons y r =>
    have h1 := key r (fun x hx => h x (List.mem_cons_of_mem _ hx))
    have h2 := h y List.mem_cons_self
    rw [Lib.join_cons, List.length_append, List.length_cons]
    omega
theorem join_eq_nil {ps : List (List UInt8)} (h : ∀ x ∈ ps, 1 ≤ x.length) : Lib.join ps [44] = [] ↔ ps = [] := by
  cases ps with
  | nil => simp [Lib.join_nil]
  | cons y r =>
    have := h y List.mem_cons_self
    rw [Lib.join_cons]
    constructor
    · intro e
      have := congrArg List.length e
      rw [List.length_append, List.length_nil] at this
      omega
    · intro e; cases e

/-! ### What the loops over the list of tags find -/
theorem drop_cons_get {α : Type} {xs : List α} {i : Nat} {x : α} {r : List α} (h : xs.drop i = x :: r) : xs[i]? = some x ∧ xs.drop (i + 1) = r ∧ i < xs.length := by
  have h0 : (xs.drop i)[0]? = some x := by rw [h]; rfl
  have hlt : i < xs.length := by
    rcases Nat.lt_or_ge i xs.length with h1 | h1
    · exact h1
    · rw [List.drop_eq_nil_of_le h1] at h; cases h
  refine ⟨by simpa using h0, ?_, hlt⟩
  rw [show i + 1 = i + 1 from rfl, ← List.drop_drop, h]
  rfl
/-- Inside the run: the d-th further tag is t + d. -/
theorem run_at {l i t : Nat} (hl : l < 18446744073709551616) (ht : l.testBit t = true) (h : (tags l).drop i = tagsFrom l t) :
    ∀ d, t + d ≤ last l t → (tags l).drop (i + d) = tagsFrom l (t + d) ∧ (tags l)[i + d]? = some (t + d) ∧ (tags l).drop (i + d + 1) = tagsFrom l (t + d + 1) ∧ i + d < (tags l).length := by
  intro d
  induction d with
  | zero =>
    intro _
    have h2 := h
    rw [tagsFrom_take (bit_pos hl ht) ht] at h2
    obtain ⟨a, b, c⟩ := drop_cons_get h2
    exact ⟨h, a, b, c⟩
  | succ d ih =>
    intro hd
    obtain ⟨_, _, h3, _⟩ := ih (by omega)
    have hb := last_bits ht (t + d + 1) (by omega) (by omega)
    have h4 := h3
    rw [tagsFrom_take (bit_pos hl hb) hb] at h4
    obtain ⟨a, b, c⟩ := drop_cons_get h4
    exact ⟨h3, a, b, c⟩
/-- Behind the run: there is no tag more, or one that is not the next. -/
theorem run_stop {l i t d : Nat} (hl : l < 18446744073709551616) (ht : l.testBit t = true) (h : (tags l).drop i = tagsFrom l t) (hd : t + d = last l t) :
    (tags l).length ≤ i + d + 1 ∨ ∃ x, (tags l)[i + d + 1]? = some x ∧ x ≠ t + d + 1 ∧ i + d + 1 < (tags l).length ∧ x < 64 := by
  obtain ⟨_, _, h3, _⟩ := run_at hl ht h d (by omega)
  cases e : tagsFrom l (t + d + 1) with
  | nil =>
    left
    rw [e] at h3
    exact List.drop_eq_nil_iff.1 h3
  | cons x r =>
    right
    rw [e] at h3
    obtain ⟨a, _, c⟩ := drop_cons_get h3
    have hx := tagsFrom_ge (l := l) (p := t + d + 1) x (by rw [e]; exact List.mem_cons_self)
    refine ⟨x, a, ?_, c, hx.2.1⟩
    rintro rfl
    have := last_stop (t := t) hl
    rw [← hd] at this
    rw [this] at hx
    exact absurd hx.2.2 (by simp)
theorem pieces_cons {l p t : Nat} {r : List Nat} (h : tagsFrom l p = t :: r) : pieces l p = piece (t, last l t) ++ pieces l (last l t + 1) := by
  obtain ⟨_, _, _, h4⟩ := runs_cons (64 - p) p rfl h
  unfold pieces
  rw [h4, List.flatMap_cons]
theorem pieces_nil {l p : Nat} (h : tagsFrom l p = []) : pieces l p = [] := by
  unfold pieces; rw [runs_nil (64 - p) p rfl h]; rfl
theorem tagsFrom_head {l p t : Nat} {r : List Nat} (h : tagsFrom l p = t :: r) : t < 64 ∧ l.testBit t = true ∧ tagsFrom l t = t :: r := by
  obtain ⟨a, b, c, _⟩ := runs_cons (64 - p) p rfl h
  exact ⟨a, b, c⟩

/-! ### The example -/
def runsF (l : Nat) : Nat → Nat → List (Nat × Nat)
  | 0, _ => []
  | f + 1, p => if p < 64 then if l.testBit p then (p, last l p) :: runsF l f (last l p + 1) else runsF l f (p + 1) else []
theorem runs_fuel (l f : Nat) : ∀ p, 64 - p ≤ f → runs l p = runsF l f p := by
  induction f with
  | zero => intro p h; rw [runs, dif_neg (by omega)]; rfl
  | succ f ih =>
    intro p h
    rw [runs]
    unfold runsF
    have := last_ge l p
    by_cases hp : p < 64
    · rw [dif_pos hp, if_pos hp]
      split
      · rw [ih _ (by omega)]
      · rw [ih _ (by omega)]
    · rw [dif_neg hp, if_neg hp]
theorem runs_example : runs 1593 0 = [(0, 0), (3, 5), (9, 10)] := by
  rw [runs_fuel 1593 64 0 (by omega)]
  decide +kernel
theorem text_example : text 1593 = [123, 48, 44, 51, 45, 53, 44, 57, 44, 49, 48, 125] := by
  unfold text pieces
  rw [runs_example]
  simp [piece, Lib.decDigits_one, Lib.decDigits_two, Lib.join, List.intercalate]
theorem of_example : ofNum [10, 0, 3, 4, 5, 9, 3] = 1593 ∧ ofOk [10, 0, 3, 4, 5, 9, 3] = true := by decide +kernel
end Lab
