/-
  Natural numbers as lists of limbs, the lowest first: what they are worth, without noughts on top, and the digits of a number. Plain.
-/
namespace Nt
/-- What limbs are worth. -/
def val : List Nat → Nat
  | [] => 0
  | d :: r => d + 4294967296 * val r
def Ok (l : List Nat) : Prop := ∀ d ∈ l, d < 4294967296
/-- The limbs of a number, with none of 0 on top. -/
def digs (n : Nat) : List Nat := if h : n = 0 then [] else n % 4294967296 :: digs (n / 4294967296)
termination_by n
decreasing_by omega
/-- No nought on top. -/
def Top (l : List Nat) : Prop := ∀ h : l ≠ [], l.getLast h ≠ 0
theorem digs_zero : digs 0 = [] := by rw [digs]; rfl
theorem digs_pos {n : Nat} (h : n ≠ 0) : digs n = n % 4294967296 :: digs (n / 4294967296) := by rw [digs, dif_neg h]
theorem val_digs (n : Nat) : val (digs n) = n := by
  induction n using Nat.strongRecOn with
  | _ n ih =>
    by_cases h : n = 0
    · subst h; rw [digs_zero]; rfl
    · rw [digs_pos h, val, ih _ (by omega)]; omega
theorem ok_digs (n : Nat) : Ok (digs n) := by
  induction n using Nat.strongRecOn with
  | _ n ih =>
    by_cases h : n = 0
    · subst h; rw [digs_zero]; intro d hd; cases hd
    · rw [digs_pos h]
      intro d hd
      rcases List.mem_cons.1 hd with rfl | hd
      · omega
      · exact ih _ (by omega) d hd
theorem digs_nil_iff {n : Nat} : digs n = [] ↔ n = 0 := by
  constructor
  · intro h
    by_cases h0 : n = 0
    · exact h0
    · rw [digs_pos h0] at h; cases h
  · rintro rfl; exact digs_zero
theorem top_digs (n : Nat) : Top (digs n) := by
  induction n using Nat.strongRecOn with
  | _ n ih =>
    by_cases h : n = 0
    · subst h; rw [digs_zero]; intro h; exact absurd rfl h
    · intro hne
      simp only [digs_pos h]
      by_cases h2 : n / 4294967296 = 0
      · simp only [h2, digs_zero, List.getLast_singleton]; omega
      · rw [List.getLast_cons (by rw [ne_eq, digs_nil_iff]; exact h2)]
        exact ih _ (by omega) _
theorem top_cons {d : Nat} {r : List Nat} (h : Top (d :: r)) : Top r := by
  intro hne
  have := h (by simp)
  rwa [List.getLast_cons hne] at this
theorem ok_cons {d : Nat} {r : List Nat} (h : Ok (d :: r)) : d < 4294967296 ∧ Ok r := ⟨h d List.mem_cons_self, fun x hx => h x (List.mem_cons_of_mem _ hx)⟩
/-- Limbs without noughts on top are the digits of their worth. -/
theorem digs_val : ∀ {l : List Nat}, Ok l → Top l → digs (val l) = l
  | [], _, _ => by rw [val, digs_zero]
  | d :: r, ho, ht => by
    obtain ⟨hd, hr⟩ := ok_cons ho
    have ih := digs_val hr (top_cons ht)
    by_cases h0 : val (d :: r) = 0
    · exfalso
      rw [val] at h0
      have hr0 : val r = 0 := by omega
      rw [hr0, digs_zero] at ih
      subst ih
      exact ht (by simp) (by simp; omega)
    · rw [digs_pos h0, val]
      rw [show (d + 4294967296 * val r) % 4294967296 = d by omega, show (d + 4294967296 * val r) / 4294967296 = val r by omega, ih]
theorem val_append : ∀ (a b : List Nat), val (a ++ b) = val a + 4294967296 ^ a.length * val b
  | [], b => by simp [val]
  | d :: r, b => by
    rw [List.cons_append, val, val_append r b, val, List.length_cons, Nat.pow_succ]
    grind
theorem val_lt : ∀ {l : List Nat}, Ok l → val l < 4294967296 ^ l.length
  | [], _ => by simp [val]
  | d :: r, ho => by
    obtain ⟨hd, hr⟩ := ok_cons ho
    have ih := val_lt hr
    rw [val, List.length_cons, Nat.pow_succ]
    generalize 4294967296 ^ r.length = p at ih ⊢
    omega
theorem val_take_succ {l : List Nat} {i : Nat} (h : i < l.length) : val (l.take (i + 1)) = val (l.take i) + 4294967296 ^ i * l[i] := by
  rw [List.take_succ_eq_append_getElem h, val_append]
  simp [val, Nat.min_eq_left (Nat.le_of_lt h)]
theorem val_split (l : List Nat) (i : Nat) (h : i ≤ l.length) : val l = val (l.take i) + 4294967296 ^ i * val (l.drop i) := by
  have := val_append (l.take i) (l.drop i)
  rw [List.take_append_drop, List.length_take, Nat.min_eq_left h] at this
  exact this
theorem val_zeros : ∀ {l : List Nat}, (∀ d ∈ l, d = 0) → val l = 0
  | [], _ => rfl
  | d :: r, h => by rw [val, h d List.mem_cons_self, val_zeros (fun x hx => h x (List.mem_cons_of_mem _ hx))]
theorem ok_take {l : List Nat} (h : Ok l) (n : Nat) : Ok (l.take n) := fun d hd => h d (List.mem_of_mem_take hd)
theorem ok_drop {l : List Nat} (h : Ok l) (n : Nat) : Ok (l.drop n) := fun d hd => h d (List.mem_of_mem_drop hd)
theorem ok_get {l : List Nat} (h : Ok l) {i : Nat} (hi : i < l.length) : l[i] < 4294967296 := h _ (List.getElem_mem hi)
theorem ok_set {l : List Nat} (h : Ok l) {i x : Nat} (hx : x < 4294967296) : Ok (l.set i x) := fun d hd => by
  rcases List.mem_or_eq_of_mem_set hd with h1 | h1
  · exact h d h1
  · rw [h1]; exact hx
/-- What trim finds: noughts from n on, none just below. -/
theorem take_eq_digs {l : List Nat} {n : Nat} (ho : Ok l) (hn : n ≤ l.length) (hz : ∀ j (hj : j < l.length), n ≤ j → l[j] = 0) (ht : ∀ h : 0 < n, l[n - 1]'(by omega) ≠ 0) : l.take n = digs (val l) := by
  have hv : val (l.drop n) = 0 := val_zeros fun d hd => by
    obtain ⟨j, hj, rfl⟩ := List.getElem_of_mem hd
    rw [List.getElem_drop]
    exact hz _ _ (by omega)
  have h1 := val_split l n hn
  rw [hv, Nat.mul_zero, Nat.add_zero] at h1
  rw [h1]
  refine (digs_val (ok_take ho n) fun hne => ?_).symm
  have hpos : 0 < n := by
    rcases Nat.eq_zero_or_pos n with h0 | h0
    · subst h0; simp at hne
    · exact h0
  rw [List.getLast_eq_getElem]
  simp only [List.length_take, Nat.min_eq_left hn, List.getElem_take]
  exact ht hpos
/-- The digits stand at the head of the limbs. -/
theorem take_digs : ∀ {l : List Nat}, Ok l → l.take (digs (val l)).length = digs (val l)
  | [], _ => by simp [val, digs_zero]
  | d :: r, ho => by
    obtain ⟨hd, hr⟩ := ok_cons ho
    have ih := take_digs hr
    by_cases h0 : val (d :: r) = 0
    · rw [h0, digs_zero]; rfl
    · have e : digs (val (d :: r)) = d :: digs (val r) := by
        rw [digs_pos h0, val]
        rw [show (d + 4294967296 * val r) % 4294967296 = d by omega, show (d + 4294967296 * val r) / 4294967296 = val r by omega]
      rw [e, List.length_cons, List.take_succ_cons, ih]
theorem digs_inj {a b : Nat} (h : digs a = digs b) : a = b := by rw [← val_digs a, ← val_digs b, h]
/-- How many limbs a number has. -/
def size (n : Nat) : Nat := (digs n).length
theorem digs_len_le {l : List Nat} (h : Ok l) : (digs (val l)).length ≤ l.length := by
  have key : ∀ (k n : Nat), n < 4294967296 ^ k → (digs n).length ≤ k := by
    intro k
    induction k with
    | zero => intro n hn; rw [show n = 0 by simpa using hn, digs_zero]; simp
    | succ k ih =>
      intro n hn
      by_cases h0 : n = 0
      · subst h0; rw [digs_zero]; simp
      · rw [digs_pos h0, List.length_cons]
        have := ih (n / 4294967296) (by rw [Nat.pow_succ] at hn; rw [Nat.div_lt_iff_lt_mul (by omega)]; exact hn)
        omega
  exact key _ _ (val_lt h)
theorem digs_len_lt {n k : Nat} (h : n < 4294967296 ^ k) : (digs n).length ≤ k := by
  have h2 := digs_len_le (l := (List.range k).map fun i => n / 4294967296 ^ i % 4294967296) (fun d hd => by
    obtain ⟨i, _, rfl⟩ := List.mem_map.1 hd; omega)
  have key : ∀ (k n : Nat), n < 4294967296 ^ k → (digs n).length ≤ k := by
    intro k
    induction k with
    | zero => intro n hn; rw [show n = 0 by simpa using hn, digs_zero]; simp
    | succ k ih =>
      intro n hn
      by_cases h0 : n = 0
      · subst h0; rw [digs_zero]; simp
      · rw [digs_pos h0, List.length_cons]
        have := ih (n / 4294967296) (by rw [Nat.pow_succ] at hn; rw [Nat.div_lt_iff_lt_mul (by omega)]; exact hn)
        omega
  exact key k n h
theorem digs_ge {n : Nat} (h : n ≠ 0) : 4294967296 ^ ((digs n).length - 1) ≤ n := by
  induction n using Nat.strongRecOn with
  | _ n ih =>
    rw [digs_pos h, List.length_cons, Nat.add_sub_cancel]
    by_cases h2 : n / 4294967296 = 0
    · rw [h2, digs_zero]; simp; omega
    · have := ih _ (by omega) h2
      have hl : (digs (n / 4294967296)).length ≠ 0 := by
        intro e; exact h2 (digs_nil_iff.1 (List.eq_nil_of_length_eq_zero e))
      obtain ⟨m, hm⟩ : ∃ m, (digs (n / 4294967296)).length = m + 1 := ⟨(digs (n / 4294967296)).length - 1, by omega⟩
      rw [hm] at this ⊢
      rw [Nat.add_sub_cancel] at this
      rw [Nat.pow_succ]
      omega

/-! ### Which is greater -/
def cmp (x y : Nat) : Int := if x < y then -1 else if y < x then 1 else 0
theorem cmp_lt {x y : Nat} (h : x < y) : cmp x y = -1 := if_pos h
theorem cmp_gt {x y : Nat} (h : y < x) : cmp x y = 1 := by unfold cmp; rw [if_neg (by omega), if_pos h]
theorem cmp_eq (x : Nat) : cmp x x = 0 := by unfold cmp; rw [if_neg (by omega), if_neg (by omega)]
/-- The highest place where two numbers of one length part decides. -/
theorem val_lt_of {a b : List Nat} {i : Nat} (ha : Ok a) (hi : i < a.length) (hi' : i < b.length) (hd : a.drop (i + 1) = b.drop (i + 1)) (hlt : a[i] < b[i]) : val a < val b := by
  have h1 := val_split a i (by omega)
  have h2 := val_split b i (by omega)
  rw [List.drop_eq_getElem_cons hi, val] at h1
  rw [List.drop_eq_getElem_cons hi', val, ← hd] at h2
  have h3 := val_lt (ok_take ha i)
  rw [List.length_take, Nat.min_eq_left (by omega)] at h3
  generalize val (a.drop (i + 1)) = r at h1 h2
  generalize a[i] = x at h1 hlt
  generalize b[i] = y at h2 hlt
  generalize 4294967296 ^ i = p at h1 h2 h3
  generalize val (a.take i) = s at h1 h3
  generalize val (b.take i) = t at h2
  have h4 : p * (x + 4294967296 * r) + p ≤ p * (y + 4294967296 * r) := by
    have h5 : p * (x + 4294967296 * r + 1) = p * (x + 4294967296 * r) + p := Nat.mul_succ _ _
    have h6 := Nat.mul_le_mul_left p (show x + 4294967296 * r + 1 ≤ y + 4294967296 * r by omega)
    omega
  omega
/-- More limbs, none of 0 on top: greater. -/
theorem digs_len_mono {x y : Nat} (h : (digs x).length < (digs y).length) : x < y := by
  have hy : y ≠ 0 := by rintro rfl; rw [digs_zero] at h; simp at h
  have h1 := digs_ge hy
  have h2 := val_lt (ok_digs x)
  rw [val_digs] at h2
  have h3 : (4294967296 : Nat) ^ (digs x).length ≤ 4294967296 ^ ((digs y).length - 1) := Nat.pow_le_pow_right (by omega) (by omega)
  omega
/-- Noughts laid on top, up to n limbs. -/
def pad (a : List Nat) (n : Nat) : List Nat := a ++ List.replicate (n - a.length) 0
theorem val_pad (a : List Nat) (n : Nat) : val (pad a n) = val a := by
  unfold pad
  rw [val_append, val_zeros (fun d hd => (List.mem_replicate.1 hd).2), Nat.mul_zero, Nat.add_zero]
theorem pad_len {a : List Nat} {n : Nat} (h : a.length ≤ n) : (pad a n).length = n := by simp [pad]; omega
theorem ok_pad {a : List Nat} (h : Ok a) (n : Nat) : Ok (pad a n) := fun d hd => by
  rcases List.mem_append.1 hd with h1 | h1
  · exact h d h1
  · rw [(List.mem_replicate.1 h1).2]; omega
theorem pad_get? {a : List Nat} {n i : Nat} (hi : i < (pad a n).length) : (pad a n)[i]? = some (a.getD i 0) := by
  unfold pad at hi ⊢
  rw [List.length_append, List.length_replicate] at hi
  rw [List.getD_eq_getElem?_getD, List.getElem?_append]
  split
  · rename_i h; rw [List.getElem?_eq_getElem h]; rfl
  · rename_i h
    rw [List.getElem?_replicate, if_pos (by omega), List.getElem?_eq_none (by omega)]
    rfl
theorem pad_get {a : List Nat} {n i : Nat} (hi : i < (pad a n).length) : (pad a n)[i] = a.getD i 0 := by
  have := pad_get? hi
  rw [List.getElem?_eq_getElem hi] at this
  exact Option.some.inj this

/-- Limbs that are worth enough are digits. -/
theorem eq_digs {l : List Nat} (ho : Ok l) (h : l ≠ [] → 4294967296 ^ (l.length - 1) ≤ val l) : digs (val l) = l := by
  refine digs_val ho fun hne hz => ?_
  have h1 := h hne
  have hl : 0 < l.length := List.length_pos_iff.2 hne
  have e : l = l.take (l.length - 1) ++ [0] := by
    have := List.dropLast_concat_getLast hne
    rw [hz, List.dropLast_eq_take] at this
    exact this.symm
  have hv : val l = val (l.take (l.length - 1)) := by
    have := congrArg val e
    rw [val_append] at this
    rw [this]
    simp [val]
  have h2 := val_lt (ok_take ho (l.length - 1))
  rw [List.length_take, Nat.min_eq_left (by omega)] at h2
  omega

/-! ### Sums, limb by limb -/
/-- What holds when k limbs are added: cur the limbs as they stand, c what is carried. -/
def AddAt (dp dq cur : List Nat) (k c : Nat) : Prop :=
  cur.length = dp.length ∧ Ok cur ∧ val (cur.take k) + c * 4294967296 ^ k = val (dp.take k) + val (dq.take k) ∧ cur.drop k = dp.drop k
theorem add_start {dp dq : List Nat} (h : Ok dp) : AddAt dp dq dp 0 0 := ⟨rfl, h, by simp [val], rfl⟩
theorem take_getD (l : List Nat) (k : Nat) : val (l.take (k + 1)) = val (l.take k) + 4294967296 ^ k * l.getD k 0 := by
  by_cases h : k < l.length
  · rw [val_take_succ h, List.getD_eq_getElem?_getD, List.getElem?_eq_getElem h]; rfl
  · rw [List.take_of_length_le (by omega), List.take_of_length_le (by omega), List.getD_eq_getElem?_getD, List.getElem?_eq_none (by omega)]
    simp
theorem set_take {l : List Nat} {k x : Nat} (h : k < l.length) : val ((l.set k x).take (k + 1)) = val (l.take k) + 4294967296 ^ k * x := by
  rw [val_take_succ (by simpa using h), List.getElem_set_self, List.take_set_of_le (Nat.le_refl _)]
theorem drop_set {l : List Nat} {k x : Nat} : (l.set k x).drop (k + 1) = l.drop (k + 1) := by
  rw [List.drop_set, if_pos (by omega)]
theorem add_get {dp dq cur : List Nat} {k c : Nat} (h : AddAt dp dq cur k c) (hk : k < dp.length) : cur[k]? = some dp[k] := by
  have : (cur.drop k)[0]? = (dp.drop k)[0]? := by rw [h.2.2.2]
  rw [List.getElem?_drop, List.getElem?_drop, Nat.add_zero, List.getElem?_eq_getElem hk] at this
  exact this
theorem add_step {dp dq cur : List Nat} {k c s d : Nat} (h : AddAt dp dq cur k c) (hk : k < dp.length) (hs : s < 4294967296) (e : dp[k] + dq.getD k 0 + c = s + 4294967296 * d) : AddAt dp dq (cur.set k s) (k + 1) d := by
  obtain ⟨h1, h2, h3, h4⟩ := h
  refine ⟨by simpa using h1, ok_set h2 hs, ?_, ?_⟩
  · rw [set_take (by omega), val_take_succ hk, take_getD, Nat.pow_succ]
    generalize 4294967296 ^ k = p at h3 ⊢
    generalize dp[k] = x at e ⊢
    generalize dq.getD k 0 = y at e ⊢
    grind
  · rw [drop_set]
    have := congrArg (List.drop 1) h4
    rw [List.drop_drop, List.drop_drop] at this
    exact this
theorem add_end {dp dq cur : List Nat} {k c : Nat} (h : AddAt dp dq cur k c) (hq : dq.length ≤ dp.length) (hk : k = dp.length ∨ (k ≤ dp.length ∧ c = 0 ∧ dq.length ≤ k)) : val cur + c * 4294967296 ^ dp.length = val dp + val dq := by
  obtain ⟨h1, h2, h3, h4⟩ := h
  rcases hk with rfl | ⟨hk, rfl, hqk⟩
  · rw [List.take_of_length_le (by omega), List.take_of_length_le (by omega), List.take_of_length_le (by omega)] at h3
    exact h3
  · rw [val_split cur k (by omega), val_split dp k hk, h4]
    rw [List.take_of_length_le (l := dq) hqk] at h3
    omega
/-- The digits of a sum: with nothing carried. -/
theorem add_done0 {x y : Nat} {cur : List Nat} (h : AddAt (digs x) (digs y) cur (digs x).length 0 ∨ ∃ k, AddAt (digs x) (digs y) cur k 0 ∧ k ≤ (digs x).length ∧ (digs y).length ≤ k) (hq : (digs y).length ≤ (digs x).length) : digs (x + y) = cur := by
  have key : val cur = x + y ∧ cur.length = (digs x).length ∧ Ok cur := by
    rcases h with h | ⟨k, h, h1, h2⟩
    · have := add_end h hq (.inl rfl)
      rw [val_digs, val_digs, Nat.zero_mul, Nat.add_zero] at this
      exact ⟨this, h.1, h.2.1⟩
    · have := add_end h hq (.inr ⟨h1, rfl, h2⟩)
      rw [val_digs, val_digs, Nat.zero_mul, Nat.add_zero] at this
      exact ⟨this, h.1, h.2.1⟩
  rw [← key.1]
  refine eq_digs key.2.2 fun hne => ?_
  rw [key.2.1, key.1]
  have hx : x ≠ 0 := by
    rintro rfl
    have := key.2.1
    rw [digs_zero] at this
    exact hne (List.eq_nil_of_length_eq_zero this)
  have := digs_ge hx
  omega
theorem add_done1 {x y : Nat} {cur : List Nat} (h : AddAt (digs x) (digs y) cur (digs x).length 1) (hq : (digs y).length ≤ (digs x).length) : digs (x + y) = cur ++ [1] := by
  have h2 := add_end h hq (.inl rfl)
  rw [val_digs, val_digs, Nat.one_mul] at h2
  have hv : val (cur ++ [1]) = x + y := by
    rw [val_append, h.1, ← h2]; simp [val]
  rw [← hv]
  refine eq_digs (fun d hd => ?_) fun _ => ?_
  · rcases List.mem_append.1 hd with h3 | h3
    · exact h.2.1 d h3
    · simp at h3; omega
  · rw [hv, List.length_append, List.length_singleton, Nat.add_sub_cancel, h.1, ← h2]
    omega

/-! ### Differences, limb by limb -/
def SubAt (dp dq cur : List Nat) (k c : Nat) : Prop :=
  cur.length = dp.length ∧ Ok cur ∧ val (cur.take k) + val (dq.take k) = val (dp.take k) + c * 4294967296 ^ k ∧ cur.drop k = dp.drop k
theorem sub_start {dp dq : List Nat} (h : Ok dp) : SubAt dp dq dp 0 0 := ⟨rfl, h, by simp [val], rfl⟩
theorem sub_get {dp dq cur : List Nat} {k c : Nat} (h : SubAt dp dq cur k c) (hk : k < dp.length) : cur[k]? = some dp[k] := by
  have : (cur.drop k)[0]? = (dp.drop k)[0]? := by rw [h.2.2.2]
  rw [List.getElem?_drop, List.getElem?_drop, Nat.add_zero, List.getElem?_eq_getElem hk] at this
  exact this
theorem sub_step {dp dq cur : List Nat} {k c s d : Nat} (h : SubAt dp dq cur k c) (hk : k < dp.length) (hs : s < 4294967296) (e : dp[k] + 4294967296 * d = s + dq.getD k 0 + c) : SubAt dp dq (cur.set k s) (k + 1) d := by
  obtain ⟨h1, h2, h3, h4⟩ := h
  refine ⟨by simpa using h1, ok_set h2 hs, ?_, ?_⟩
  · rw [set_take (by omega), val_take_succ hk, take_getD, Nat.pow_succ]
    generalize 4294967296 ^ k = p at h3 ⊢
    generalize dp[k] = x at e ⊢
    generalize dq.getD k 0 = y at e ⊢
    grind
  · rw [drop_set]
    have := congrArg (List.drop 1) h4
    rw [List.drop_drop, List.drop_drop] at this
    exact this
theorem sub_end {dp dq cur : List Nat} {k c : Nat} (h : SubAt dp dq cur k c) (hq : dq.length ≤ dp.length) (hle : val dq ≤ val dp) (hc : c ≤ 1) (hk : k = dp.length ∨ (k ≤ dp.length ∧ c = 0 ∧ dq.length ≤ k)) : val cur = val dp - val dq := by
  obtain ⟨h1, h2, h3, h4⟩ := h
  rcases hk with rfl | ⟨hk, rfl, hqk⟩
  · rw [List.take_of_length_le (by omega), List.take_of_length_le (by omega), List.take_of_length_le (by omega)] at h3
    have := val_lt h2
    rw [h1] at this
    generalize 4294967296 ^ dp.length = p at h3 this
    rcases Nat.eq_zero_or_pos c with h0 | h0
    · subst h0; omega
    · obtain rfl : c = 1 := by omega
      omega
  · rw [val_split cur k (by omega), val_split dp k hk, h4]
    rw [List.take_of_length_le (l := dq) hqk] at h3
    omega
theorem digs_len_le_of {x y : Nat} (h : y ≤ x) : (digs y).length ≤ (digs x).length := by
  rcases Nat.lt_or_ge (digs x).length (digs y).length with h1 | h1
  · have := digs_len_mono h1; omega
  · exact h1
theorem cmp_neg {x y : Nat} : cmp x y < 0 ↔ x < y := by
  unfold cmp
  split
  · simp_all
  · split <;> simp <;> omega

/-! ### The document's sums and differences: limbs laid on top, one by one -/
def AddUp (a b cur : List Nat) (k c : Nat) : Prop := cur.length = k ∧ Ok cur ∧ val cur + c * 4294967296 ^ k = val (a.take k) + val (b.take k)
theorem addUp_step {a b cur : List Nat} {k c : Nat} (h : AddUp a b cur k c) : AddUp a b (cur ++ [(a.getD k 0 + b.getD k 0 + c) % 4294967296]) (k + 1) ((a.getD k 0 + b.getD k 0 + c) / 4294967296) := by
  obtain ⟨h1, h2, h3⟩ := h
  refine ⟨by simp [h1], ?_, ?_⟩
  · intro d hd
    rcases List.mem_append.1 hd with h4 | h4
    · exact h2 d h4
    · simp at h4; omega
  · rw [val_append, take_getD, take_getD, h1, Nat.pow_succ]
    simp only [val, Nat.mul_zero, Nat.add_zero]
    have e : a.getD k 0 + b.getD k 0 + c = (a.getD k 0 + b.getD k 0 + c) % 4294967296 + 4294967296 * ((a.getD k 0 + b.getD k 0 + c) / 4294967296) := by omega
    generalize 4294967296 ^ k = p at h3 ⊢
    generalize (a.getD k 0 + b.getD k 0 + c) % 4294967296 = s at e ⊢
    generalize (a.getD k 0 + b.getD k 0 + c) / 4294967296 = d at e ⊢
    generalize a.getD k 0 = x at e ⊢
    generalize b.getD k 0 = y at e ⊢
    grind
theorem getD_lt {l : List Nat} (h : Ok l) (k : Nat) : l.getD k 0 < 4294967296 := by
  rw [List.getD_eq_getElem?_getD]
  rcases Nat.lt_or_ge k l.length with h1 | h1
  · rw [List.getElem?_eq_getElem h1]; exact ok_get h h1
  · rw [List.getElem?_eq_none h1]; show 0 < 4294967296; omega
theorem addUp_end {a b cur : List Nat} {n c : Nat} (ha : Ok a) (hb : Ok b) (hla : a.length ≤ n) (hlb : b.length ≤ n) (h : AddUp a b cur (n + 1) c) : val cur = val a + val b := by
  obtain ⟨h1, h2, h3⟩ := h
  rw [List.take_of_length_le (by omega), List.take_of_length_le (by omega)] at h3
  have p1 := val_lt ha
  have p2 := val_lt hb
  have q1 : (4294967296 : Nat) ^ a.length ≤ 4294967296 ^ n := Nat.pow_le_pow_right (by omega) hla
  have q2 : (4294967296 : Nat) ^ b.length ≤ 4294967296 ^ n := Nat.pow_le_pow_right (by omega) hlb
  rw [Nat.pow_succ] at h3
  generalize 4294967296 ^ n = p at *
  rcases Nat.eq_zero_or_pos c with h0 | h0
  · subst h0; omega
  · exfalso
    have : p * 4294967296 ≤ c * (p * 4294967296) := Nat.le_mul_of_pos_left _ h0
    omega
def SubUp (a b cur : List Nat) (k c : Nat) : Prop := cur.length = k ∧ Ok cur ∧ val cur + val (b.take k) = val (a.take k) + c * 4294967296 ^ k
theorem subUp_step {a b cur : List Nat} {k c s d : Nat} (h : SubUp a b cur k c) (hs : s < 4294967296) (e : a.getD k 0 + 4294967296 * d = s + b.getD k 0 + c) : SubUp a b (cur ++ [s]) (k + 1) d := by
  obtain ⟨h1, h2, h3⟩ := h
  refine ⟨by simp [h1], ?_, ?_⟩
  · intro d hd
    rcases List.mem_append.1 hd with h4 | h4
    · exact h2 d h4
    · simp at h4; omega
  · rw [val_append, take_getD, take_getD, h1, Nat.pow_succ]
    simp only [val, Nat.mul_zero, Nat.add_zero]
    generalize 4294967296 ^ k = p at h3 ⊢
    generalize a.getD k 0 = x at e ⊢
    generalize b.getD k 0 = y at e ⊢
    grind
theorem subUp_end {a b cur : List Nat} {n c : Nat} (hla : a.length ≤ n) (hlb : b.length ≤ n) (hle : val b ≤ val a) (h : SubUp a b cur n c) : val cur = val a - val b := by
  obtain ⟨h1, h2, h3⟩ := h
  rw [List.take_of_length_le (by omega), List.take_of_length_le (by omega)] at h3
  have := val_lt h2
  rw [h1] at this
  generalize 4294967296 ^ n = p at *
  rcases Nat.eq_zero_or_pos c with h0 | h0
  · subst h0; omega
  · exfalso
    have : p ≤ c * p := Nat.le_mul_of_pos_left _ h0
    omega
/-- Twice a number, and a bit. -/
def TwiceUp (a : List Nat) (bit : Nat) (cur : List Nat) (k c : Nat) : Prop := cur.length = k ∧ Ok cur ∧ val cur + c * 4294967296 ^ k = 2 * val (a.take k) + bit
theorem twiceUp_step {a cur : List Nat} {bit k c : Nat} (h : TwiceUp a bit cur k c) : TwiceUp a bit (cur ++ [(2 * a.getD k 0 + c) % 4294967296]) (k + 1) ((2 * a.getD k 0 + c) / 4294967296) := by
  obtain ⟨h1, h2, h3⟩ := h
  refine ⟨by simp [h1], ?_, ?_⟩
  · intro d hd
    rcases List.mem_append.1 hd with h4 | h4
    · exact h2 d h4
    · simp at h4; omega
  · rw [val_append, take_getD, h1, Nat.pow_succ]
    simp only [val, Nat.mul_zero, Nat.add_zero]
    have e : 2 * a.getD k 0 + c = (2 * a.getD k 0 + c) % 4294967296 + 4294967296 * ((2 * a.getD k 0 + c) / 4294967296) := by omega
    generalize 4294967296 ^ k = p at h3 ⊢
    generalize (2 * a.getD k 0 + c) % 4294967296 = s at e ⊢
    generalize (2 * a.getD k 0 + c) / 4294967296 = d at e ⊢
    generalize a.getD k 0 = x at e ⊢
    grind
theorem twiceUp_end {a cur : List Nat} {bit c : Nat} (ha : Ok a) (hb : bit ≤ 1) (h : TwiceUp a bit cur (a.length + 1) c) : val cur = 2 * val a + bit := by
  obtain ⟨h1, h2, h3⟩ := h
  rw [List.take_of_length_le (by omega)] at h3
  have p1 := val_lt ha
  rw [Nat.pow_succ] at h3
  generalize 4294967296 ^ a.length = p at *
  rcases Nat.eq_zero_or_pos c with h0 | h0
  · subst h0; omega
  · exfalso
    have : p * 4294967296 ≤ c * (p * 4294967296) := Nat.le_mul_of_pos_left _ h0
    omega
theorem ok_nil : Ok [] := fun d hd => by cases hd
theorem addUp_start (a b : List Nat) : AddUp a b [] 0 0 := ⟨rfl, ok_nil, by simp [val]⟩
theorem subUp_start (a b : List Nat) : SubUp a b [] 0 0 := ⟨rfl, ok_nil, by simp [val]⟩
theorem twiceUp_start (a : List Nat) (bit : Nat) : TwiceUp a bit [] 0 bit := ⟨rfl, ok_nil, by simp [val]⟩
/-- A bit of a number, out of its limb. -/
theorem bit_limb {a : List Nat} (ha : Ok a) (i : Nat) : a.getD (i / 32) 0 / 2 ^ (i % 32) % 2 = val a / 2 ^ i % 2 := by
  have key : ∀ (k : Nat) (l : List Nat), Ok l → val l / 4294967296 ^ k % 4294967296 = l.getD k 0 := by
    intro k
    induction k with
    | zero =>
      intro l hl
      cases l with
      | nil => simp [val]
      | cons d r => have := (ok_cons hl).1; simp [val]; omega
    | succ k ih =>
      intro l hl
      cases l with
      | nil => simp [val]
      | cons d r =>
        have h1 := (ok_cons hl).1
        rw [List.getD_cons_succ, ← ih r (ok_cons hl).2, val, Nat.pow_succ, Nat.mul_comm (4294967296 ^ k), ← Nat.div_div_eq_div_mul]
        rw [show (d + 4294967296 * val r) / 4294967296 = val r by omega]
  rw [← key _ a ha]
  have e : (2 : Nat) ^ i = 4294967296 ^ (i / 32) * 2 ^ (i % 32) := by
    rw [show (4294967296 : Nat) = 2 ^ 32 from rfl, ← Nat.pow_mul, ← Nat.pow_add, Nat.div_add_mod]
  rw [e, ← Nat.div_div_eq_div_mul]
  generalize val a / 4294967296 ^ (i / 32) = v
  have h32 : i % 32 < 32 := Nat.mod_lt _ (by omega)
  generalize i % 32 = j at h32
  have t0 : (v % 2 ^ 32).testBit j = v.testBit j := by rw [Nat.testBit_mod_two_pow, decide_eq_true h32, Bool.true_and]
  rw [Nat.testBit_eq_decide_div_mod_eq, Nat.testBit_eq_decide_div_mod_eq, decide_eq_decide, show (2 : Nat) ^ 32 = 4294967296 from rfl] at t0
  have m1 := Nat.mod_lt (v % 4294967296 / 2 ^ j) (show 0 < 2 by omega)
  have m2 := Nat.mod_lt (v / 2 ^ j) (show 0 < 2 by omega)
  generalize v % 4294967296 / 2 ^ j % 2 = p at *
  generalize v / 2 ^ j % 2 = q at *
  omega

/-! ### Bit by bit: the document's products and quotients -/
theorem half_step (v k : Nat) : v / 2 ^ k = 2 * (v / 2 ^ (k + 1)) + v / 2 ^ k % 2 := by
  rw [Nat.pow_succ, ← Nat.div_div_eq_div_mul]; omega
theorem len_mul {a b : List Nat} (ha : Ok a) (hb : Ok b) {x : Nat} (h : x ≤ val a * val b) : (digs x).length ≤ a.length + b.length := by
  refine digs_len_lt (Nat.lt_of_le_of_lt h ?_)
  rw [Nat.pow_add]
  exact Nat.mul_lt_mul'' (val_lt ha) (val_lt hb)
theorem len_le {a : List Nat} (ha : Ok a) {x : Nat} (h : x ≤ val a) : (digs x).length ≤ a.length := digs_len_lt (Nat.lt_of_le_of_lt h (val_lt ha))
theorem top_zero {a : List Nat} (ha : Ok a) : val a / 2 ^ (32 * a.length) = 0 := by
  refine Nat.div_eq_of_lt ?_
  rw [Nat.pow_mul]
  exact val_lt ha
theorem mul_step {v b k x bit : Nat} (hx : x = v / 2 ^ (k + 1) * b) (hb : bit = v / 2 ^ k % 2) : 2 * x + bit * b = v / 2 ^ k * b := by
  have := half_step v k
  rw [← hb] at this
  rw [this, hx]
  grind
theorem mul_le {v b k : Nat} : v / 2 ^ k * b ≤ v * b := Nat.mul_le_mul_right _ (Nat.div_le_self _ _)
theorem mul_le2 {v b k x : Nat} (hx : x = v / 2 ^ (k + 1) * b) : 2 * x ≤ v * b := by
  have h1 := half_step v k
  have h2 : 2 * (v / 2 ^ (k + 1)) ≤ v / 2 ^ k := by omega
  have h3 : 2 * x ≤ v / 2 ^ k * b := by
    rw [hx, ← Nat.mul_assoc]; exact Nat.mul_le_mul_right _ h2
  exact Nat.le_trans h3 mul_le
/-- One more bit of a quotient and a rest. -/
theorem div_step {n b q r bit : Nat} (hb : 0 < b) (hq : q = n / b) (hr : r = n % b) (hbit : bit ≤ 1) :
    (b ≤ 2 * r + bit → 2 * q + 1 = (2 * n + bit) / b ∧ 2 * r + bit - b = (2 * n + bit) % b) ∧ (¬ b ≤ 2 * r + bit → 2 * q + 0 = (2 * n + bit) / b ∧ 2 * r + bit = (2 * n + bit) % b) := by
  have h1 := Nat.div_add_mod n b
  have h2 := Nat.mod_lt n hb
  rw [← hq, ← hr] at h1
  rw [← hr] at h2
  constructor
  · intro h
    have e : 2 * n + bit = (2 * r + bit - b) + b * (2 * q + 1) := by
      have h3 : b * (2 * q + 1) = 2 * (b * q) + b := by grind
      omega
    rw [e, Nat.add_mul_div_left _ _ hb, Nat.add_mul_mod_self_left, Nat.div_eq_of_lt (by omega), Nat.mod_eq_of_lt (by omega)]
    exact ⟨by omega, rfl⟩
  · intro h
    have e : 2 * n + bit = (2 * r + bit) + b * (2 * q) := by
      have h3 : b * (2 * q) = 2 * (b * q) := by grind
      omega
    rw [e, Nat.add_mul_div_left _ _ hb, Nat.add_mul_mod_self_left, Nat.div_eq_of_lt (by omega), Nat.mod_eq_of_lt (by omega)]
    exact ⟨by omega, rfl⟩

/-- The quotient and the rest; 0 where there is nothing to divide by. -/
def quo (x y : Nat) : Nat := x / y
def rest (x y : Nat) : Nat := if y = 0 then 0 else x % y
theorem quo_zero (x : Nat) : quo x 0 = 0 := Nat.div_zero x
theorem rest_zero (x : Nat) : rest x 0 = 0 := if_pos rfl
theorem rest_pos {x y : Nat} (h : y ≠ 0) : rest x y = x % y := if_neg h

/-! ### Products, limb by limb -/
theorem val_set {l : List Nat} {k x : Nat} (h : k < l.length) : val (l.set k x) + 4294967296 ^ k * l[k] = val l + 4294967296 ^ k * x := by
  have h1 := val_split (l.set k x) (k + 1) (by rw [List.length_set]; exact h)
  have h2 := val_split l (k + 1) (by omega)
  rw [set_take h, drop_set] at h1
  rw [val_take_succ h] at h2
  omega
/-- What holds when x has been multiplied with j limbs. -/
def MulAt (cur0 db cur : List Nat) (x i j c : Nat) : Prop :=
  cur.length = cur0.length ∧ Ok cur ∧ c < 4294967296 ∧ val cur + c * 4294967296 ^ (i + j) = val cur0 + x * val (db.take j) * 4294967296 ^ i ∧ cur.drop (i + j) = cur0.drop (i + j)
theorem mul_start {cur0 db : List Nat} {x i : Nat} (h : Ok cur0) : MulAt cur0 db cur0 x i 0 0 := ⟨rfl, h, by omega, by simp [val], rfl⟩
theorem mulAt_step {cur0 db cur : List Nat} {x i j c o s d : Nat} (h : MulAt cur0 db cur x i j c) (hj : j < db.length) (hij : i + j < cur.length) (ho : o = cur[i + j]) (hs : s < 4294967296) (hd : d < 4294967296) (e : x * db[j] + o + c = s + 4294967296 * d) : MulAt cur0 db (cur.set (i + j) s) x i (j + 1) d := by
  obtain ⟨h1, h2, h3, h4, h5⟩ := h
  refine ⟨by simpa using h1, ok_set h2 hs, hd, ?_, ?_⟩
  · have hv := val_set (x := s) hij
    rw [← ho] at hv
    rw [val_take_succ hj]
    have hp : (4294967296 : Nat) ^ (i + (j + 1)) = 4294967296 ^ (i + j) * 4294967296 := by rw [← Nat.add_assoc, Nat.pow_succ]
    have hq : (4294967296 : Nat) ^ (i + j) = 4294967296 ^ j * 4294967296 ^ i := by rw [Nat.pow_add, Nat.mul_comm]
    rw [hp]
    rw [hq] at h4 hv ⊢
    generalize (4294967296 : Nat) ^ j = p at *
    generalize (4294967296 : Nat) ^ i = q at *
    generalize db[j] = y at *
    generalize val (cur.set (i + j) s) = V at *
    generalize val cur = V0 at *
    generalize val cur0 = V1 at *
    generalize val (db.take j) = D at *
    grind
  · rw [← Nat.add_assoc, drop_set]
    have := congrArg (List.drop 1) h5
    rw [List.drop_drop, List.drop_drop] at this
    exact this
theorem mulAt_end {cur0 db cur : List Nat} {x i c : Nat} (h : MulAt cur0 db cur x i db.length c) (hij : i + db.length < cur.length) (hz : cur0[i + db.length]? = some 0) : val (cur.set (i + db.length) c) = val cur0 + x * val db * 4294967296 ^ i := by
  obtain ⟨h1, h2, h3, h4, h5⟩ := h
  have hv := val_set (x := c) hij
  have : (cur.drop (i + db.length))[0]? = (cur0.drop (i + db.length))[0]? := by rw [h5]
  rw [List.getElem?_drop, List.getElem?_drop, Nat.add_zero, hz, List.getElem?_eq_getElem hij] at this
  rw [Option.some.inj this] at hv
  rw [List.take_length] at h4
  rw [Nat.mul_comm] at h4
  omega
/-- What holds when i limbs of the one have been multiplied with the other. -/
def MulOut (da db cur : List Nat) (i : Nat) : Prop :=
  cur.length = da.length + db.length ∧ Ok cur ∧ val cur = val (da.take i) * val db ∧ ∀ k, i + db.length ≤ k → k < cur.length → cur[k]? = some 0
theorem mulOut_start (da db : List Nat) : MulOut da db (List.replicate (da.length + db.length) 0) 0 := by
  refine ⟨by simp, fun d hd => ?_, ?_, fun k _ hk => ?_⟩
  · rw [(List.mem_replicate.1 hd).2]; omega
  · rw [val_zeros (fun d hd => (List.mem_replicate.1 hd).2)]; simp [val]
  · simp at hk; simp [hk]
theorem mulOut_step {da db cur0 cur : List Nat} {i c : Nat} (h : MulOut da db cur0 i) (hi : i < da.length) (hc : MulAt cur0 db cur da[i] i db.length c) : MulOut da db (cur.set (i + db.length) c) (i + 1) := by
  obtain ⟨h1, h2, h3, h4⟩ := h
  have hl : cur.length = cur0.length := hc.1
  have hij : i + db.length < cur.length := by rw [hl, h1]; omega
  refine ⟨by rw [List.length_set, hl, h1], ok_set hc.2.1 hc.2.2.1, ?_, fun k hk hk2 => ?_⟩
  · rw [mulAt_end hc hij (h4 _ (Nat.le_refl _) (by omega)), h3, val_take_succ hi]
    grind
  · rw [List.length_set] at hk2
    rw [List.getElem?_set_ne (by omega)]
    have : (cur.drop (i + db.length))[k - (i + db.length)]? = (cur0.drop (i + db.length))[k - (i + db.length)]? := by rw [hc.2.2.2.2]
    rw [List.getElem?_drop, List.getElem?_drop, show i + db.length + (k - (i + db.length)) = k by omega, h4 k (by omega) (by omega)] at this
    exact this
theorem mul_bound {x y : Nat} (hx : x < 4294967296) (hy : y < 4294967296) : x * y ≤ 18446744065119617025 := by
  have := Nat.mul_le_mul (Nat.le_of_lt_succ hx) (Nat.le_of_lt_succ hy)
  simpa using this

/-! ### Division by one limb, in place -/
def ShortAt (l : List Nat) (d : Nat) (cur : List Nat) (k r : Nat) : Prop :=
  cur.length = l.length ∧ Ok cur ∧ r < d ∧ cur.take k = l.take k ∧ val (cur.drop k) * d + r = val (l.drop k)
theorem short_start {l : List Nat} {d : Nat} (h : Ok l) (hd : 0 < d) : ShortAt l d l l.length 0 := ⟨rfl, h, hd, rfl, by simp [val]⟩
theorem short_get {l cur : List Nat} {d k r : Nat} (h : ShortAt l d cur (k + 1) r) (hk : k < l.length) : cur[k]? = some l[k] := by
  have : (cur.take (k + 1))[k]? = (l.take (k + 1))[k]? := by rw [h.2.2.2.1]
  rw [List.getElem?_take, List.getElem?_take, if_pos (by omega), if_pos (by omega), List.getElem?_eq_getElem hk] at this
  exact this
theorem short_bounds {r d x : Nat} (hr : r < d) (hd : d < 4294967296) (hx : x < 4294967296) : (r * 4294967296 + x) / d < 4294967296 ∧ r * 4294967296 + x < 18446744073709551616 ∧ (r * 4294967296 + x) % d < d := by
  refine ⟨?_, by omega, Nat.mod_lt _ (by omega)⟩
  rw [Nat.div_lt_iff_lt_mul (by omega)]
  have : (r + 1) * 4294967296 ≤ d * 4294967296 := Nat.mul_le_mul_right _ hr
  rw [Nat.mul_comm 4294967296 d]
  omega
theorem short_step {l cur : List Nat} {d k r : Nat} (h : ShortAt l d cur (k + 1) r) (hk : k < l.length) (hl : Ok l) (hd : d < 4294967296) : ShortAt l d (cur.set k ((r * 4294967296 + l[k]) / d)) k ((r * 4294967296 + l[k]) % d) := by
  obtain ⟨h1, h2, h3, h4, h5⟩ := h
  have hb := short_bounds h3 hd (ok_get hl hk)
  refine ⟨by simpa using h1, ok_set h2 hb.1, hb.2.2, ?_, ?_⟩
  · rw [List.take_set_of_le (Nat.le_refl _)]
    have := congrArg (List.take k) h4
    rwa [List.take_take, List.take_take, Nat.min_eq_left (by omega)] at this
  · have hc : k < cur.length := by omega
    rw [List.drop_eq_getElem_cons (by rw [List.length_set]; exact hc), List.getElem_set_self, drop_set, val, List.drop_eq_getElem_cons hk, val, ← h5]
    have e := Nat.div_add_mod (r * 4294967296 + l[k]) d
    generalize (r * 4294967296 + l[k]) / d = q at *
    generalize (r * 4294967296 + l[k]) % d = r' at *
    generalize l[k] = x at *
    generalize val (cur.drop (k + 1)) = V at *
    grind
theorem short_end {l cur : List Nat} {d r : Nat} (h : ShortAt l d cur 0 r) : val cur = val l / d ∧ r = val l % d := by
  obtain ⟨h1, h2, h3, h4, h5⟩ := h
  rw [List.drop_zero, List.drop_zero] at h5
  rw [← h5, Nat.mul_comm, Nat.mul_add_div (by omega), Nat.div_eq_of_lt h3, Nat.mul_add_mod, Nat.mod_eq_of_lt h3]
  exact ⟨by omega, rfl⟩
end Nt
