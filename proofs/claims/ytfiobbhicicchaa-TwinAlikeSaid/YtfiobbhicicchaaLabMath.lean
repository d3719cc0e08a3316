namespace Lab
/-- The sum of the bits below n that p takes. -/
def sumBits (p : Nat → Bool) : Nat → Nat
  | 0 => 0
  | n + 1 => sumBits p n + if p n then 2 ^ n else 0
theorem sumBits_lt (p : Nat → Bool) : ∀ n, sumBits p n < 2 ^ n
  | 0 => by simp [sumBits]
  | n + 1 => by
    have := sumBits_lt p n
    rw [sumBits, Nat.pow_succ]
    split <;> omega
theorem testBit_sumBits (p : Nat → Bool) : ∀ n i, (sumBits p n).testBit i = (decide (i < n) && p i)
  | 0, i => by simp [sumBits]
  | n + 1, i => by
    have hlt := sumBits_lt p n
    have ih := testBit_sumBits p n
    have e : sumBits p (n + 1) = 2 ^ n * (if p n then 1 else 0) + sumBits p n := by
      rw [sumBits]; split <;> simp [Nat.add_comm]
    rw [e, Nat.testBit_two_pow_mul_add _ hlt]
    by_cases h : i < n
    · simp [h, ih, Nat.lt_succ_of_lt h]
    · rw [if_neg h]
      by_cases h2 : i = n
      · subst h2; cases hp : p i <;> simp
      · have h3 : ¬ i < n + 1 := by omega
        have h4 : i - n ≠ 0 := by omega
        cases p n
        · simp [h3]
        · simp only [if_true, h3, decide_false, Bool.false_and]
          exact Nat.testBit_lt_two_pow (Nat.lt_of_lt_of_le (by decide) (Nat.pow_le_pow_right (n := 2) (i := 1) (by decide) (by omega)))
theorem sumBits_eq {p : Nat → Bool} {n x : Nat} (hx : x < 2 ^ n) (h : ∀ i, i < n → p i = x.testBit i) : sumBits p n = x := by
  apply Nat.eq_of_testBit_eq
  intro i
  rw [testBit_sumBits]
  by_cases hi : i < n
  · simp [hi, h i hi]
  · simp [hi]
    exact Nat.testBit_lt_two_pow (Nat.lt_of_lt_of_le hx (Nat.pow_le_pow_right (by decide) (Nat.le_of_not_lt hi)))
/-- A tag's label. -/
def bit (t : Nat) : Nat := 2 ^ t
def join (a b : Nat) : Nat := a ||| b
def meet (a b : Nat) : Nat := a &&& b
/-- Does each bit of a stand in b? -/
def flows (a b : Nat) : Bool := (a ||| b) == b
theorem join_lt {a b : Nat} (ha : a < 18446744073709551616) (hb : b < 18446744073709551616) : join a b < 18446744073709551616 := Nat.or_lt_two_pow (n := 64) ha hb
theorem meet_lt {a b : Nat} (ha : a < 18446744073709551616) : meet a b < 18446744073709551616 := Nat.lt_of_le_of_lt Nat.and_le_left ha
theorem flows_iff (a b : Nat) : flows a b = true ↔ ∀ i, a.testBit i = true → b.testBit i = true := by
  unfold flows
  rw [beq_iff_eq]
  constructor
  · intro h i hi
    rw [← h, Nat.testBit_or, hi, Bool.true_or]
  · intro h
    apply Nat.eq_of_testBit_eq
    intro i
    rw [Nat.testBit_or]
    cases e : a.testBit i
    · simp
    · simp [h i e]
theorem testBit_high {x i : Nat} (hx : x < 18446744073709551616) (hi : 64 ≤ i) : x.testBit i = false :=
  Nat.testBit_lt_two_pow (Nat.lt_of_lt_of_le (show x < 2 ^ 64 from hx) (Nat.pow_le_pow_right (by decide) hi))
/-- The same, asked of the first 64 bits. -/
theorem flows_of_below {a b : Nat} (ha : a < 18446744073709551616) (h : ∀ i, i < 64 → a.testBit i = true → b.testBit i = true) : flows a b = true := by
  rw [flows_iff]
  intro i hi
  by_cases h64 : i < 64
  · exact h i h64 hi
  · rw [testBit_high ha (by omega)] at hi; cases hi
theorem flows_andNot {a b : Nat} (ha : a < 18446744073709551616) (hb : b < 18446744073709551616) : (a &&& (18446744073709551615 - b) == 0) = flows a b := by
  have e : ∀ i, (18446744073709551615 - b).testBit i = (decide (i < 64) && !b.testBit i) := by
    intro i
    have := Nat.testBit_two_pow_sub_succ (n := 64) (x := b) hb i
    rw [show (2 : Nat) ^ 64 - (b + 1) = 18446744073709551615 - b from by omega] at this
    exact this
  rw [Bool.eq_iff_iff, flows_iff, beq_iff_eq]
  constructor
  · intro h i hi
    have h1 : (a &&& (18446744073709551615 - b)).testBit i = false := by rw [h]; simp
    rw [Nat.testBit_and, hi, e, Bool.true_and] at h1
    by_cases h64 : i < 64
    · simpa [h64] using h1
    · rw [testBit_high ha (by omega)] at hi; cases hi
  · intro h
    apply Nat.eq_of_testBit_eq
    intro i
    rw [Nat.testBit_and, e, Nat.zero_testBit]
    cases hi : a.testBit i
    · simp
    · simp [h i hi]
theorem sum_join {a b : Nat} (ha : a < 18446744073709551616) (hb : b < 18446744073709551616) : sumBits (fun t => a.testBit t || b.testBit t) 64 = join a b :=
  sumBits_eq (join_lt ha hb) fun i _ => by simp [join]
theorem sum_meet {a b : Nat} (ha : a < 18446744073709551616) : sumBits (fun t => a.testBit t && b.testBit t) 64 = meet a b :=
  sumBits_eq (meet_lt ha) fun i _ => by simp [meet]

/-! ### The label of tags -/
def okTag (t : Int) : Bool := decide (0 ≤ t) && decide (t < 64)
/-- The join of the first tags' labels. -/
def orTags (zs : List Int) : Nat := zs.foldl (fun x t => x ||| 2 ^ t.toNat) 0
def ofNum (zs : List Int) : Nat := if zs.all okTag then orTags zs else 0
def ofOk (zs : List Int) : Bool := zs.all okTag
theorem orTags_snoc (zs : List Int) (t : Int) : orTags (zs ++ [t]) = orTags zs ||| 2 ^ t.toNat := by simp [orTags]
theorem bit_lt {t : Nat} (h : t < 64) : (2 : Nat) ^ t < 18446744073709551616 := Nat.lt_of_le_of_lt (Nat.pow_le_pow_right (by decide) (show t ≤ 63 by omega)) (by decide)
theorem orTags_lt (zs : List Int) (h : zs.all okTag = true) : orTags zs < 18446744073709551616 := by
  have : ∀ (l : List Int) (x : Nat), x < 18446744073709551616 → l.all okTag = true → l.foldl (fun x t => x ||| 2 ^ t.toNat) x < 18446744073709551616 := by
    intro l
    induction l with
    | nil => intro x hx _; exact hx
    | cons t l ih =>
      intro x hx ha
      simp only [List.all_cons, Bool.and_eq_true] at ha
      exact ih _ (Nat.or_lt_two_pow (n := 64) hx (bit_lt (by have := ha.1; simp [okTag] at this; omega))) ha.2
  exact this zs 0 (by decide) h
theorem take_snoc {zs : List Int} {k : Nat} (h : k < zs.length) : zs.take (k + 1) = zs.take k ++ [zs[k]] := List.take_succ_eq_append_getElem h
theorem all_take_succ {zs : List Int} {k : Nat} (h : k < zs.length) (ha : (zs.take k).all okTag = true) (ht : okTag zs[k] = true) : (zs.take (k + 1)).all okTag = true := by
  rw [take_snoc h, List.all_append, ha]; simp [ht]
theorem orTags_step {zs : List Int} {k : Nat} (h : k < zs.length) : orTags (zs.take (k + 1)) = orTags (zs.take k) ||| 2 ^ zs[k].toNat := by rw [take_snoc h, orTags_snoc]
theorem ofOk_bad {zs : List Int} {k : Nat} (h : k < zs.length) (ht : okTag zs[k] = false) : ofOk zs = false := by
  unfold ofOk
  rw [List.all_eq_false]
  exact ⟨zs[k], List.getElem_mem h, by simp [ht]⟩
theorem ofNum_bad {zs : List Int} {k : Nat} (h : k < zs.length) (ht : okTag zs[k] = false) : ofNum zs = 0 := by
  have := ofOk_bad h ht
  unfold ofOk at this
  simp [ofNum, this]
theorem ofNum_good {zs : List Int} (h : zs.all okTag = true) : ofNum zs = orTags zs := by simp [ofNum, h]
theorem ofNum_lt (zs : List Int) : ofNum zs < 18446744073709551616 := by
  unfold ofNum
  split
  · rename_i h; exact orTags_lt zs h
  · decide
/-- A bit that is not there yet is added. -/
theorem or_bit_new {x t : Nat} (h : x.testBit t = false) : x ||| 2 ^ t = x + 2 ^ t := by
  have hr : x % 2 ^ (t + 1) < 2 ^ t := by
    have h1 : x / 2 ^ t % 2 = 0 := by
      have := Nat.testBit_eq_decide_div_mod_eq (x := x) (i := t)
      rw [h] at this
      have := of_decide_eq_false this.symm
      omega
    have h2 : x % 2 ^ (t + 1) = x % 2 ^ t + 2 ^ t * (x / 2 ^ t % 2) := by rw [Nat.pow_succ, Nat.mod_mul]
    rw [h2, h1, Nat.mul_zero, Nat.add_zero]
    exact Nat.mod_lt _ (Nat.two_pow_pos t)
  have hp : (2 : Nat) ^ (t + 1) = 2 ^ t + 2 ^ t := by rw [Nat.pow_succ]; omega
  have ha := Nat.two_pow_add_eq_or_of_lt (show x % 2 ^ (t + 1) < 2 ^ (t + 1) by omega) (x / 2 ^ (t + 1))
  have hb := Nat.two_pow_add_eq_or_of_lt (show x % 2 ^ (t + 1) + 2 ^ t < 2 ^ (t + 1) by omega) (x / 2 ^ (t + 1))
  rw [← Nat.or_two_pow_eq_add_of_lt hr, ← Nat.or_assoc, ← ha, Nat.or_two_pow_eq_add_of_lt hr, ← Nat.add_assoc, Nat.div_add_mod] at hb
  exact hb.symm
theorem or_bit_old {x t : Nat} (h : x.testBit t = true) : x ||| 2 ^ t = x := by
  apply Nat.eq_of_testBit_eq
  intro i
  rw [Nat.testBit_or, Nat.testBit_two_pow]
  by_cases e : t = i
  · subst e; simp [h]
  · simp [e]

/-! ### The tags of a label, rising -/
def tags (l : Nat) : List Nat := (List.range 64).filter fun t => l.testBit t
theorem filter_first {p : Nat → Bool} {k : Nat} (hlt : ∀ i, i < k → p i = false) (hk : p k = true) (n : Nat) :
    (List.range n).filter p = (if k < n then [k] else []) ++ (List.range n).filter fun i => p i && (i != k) := by
  have none_ : ∀ (q : Nat → Bool) (m : Nat), (∀ i, i < m → q i = false) → (List.range m).filter q = [] := fun q m h => by
    rw [List.filter_eq_nil_iff]
    intro a ha
    simp [h a (List.mem_range.1 ha)]
  induction n with
  | zero => simp
  | succ n ih =>
    rw [List.range_succ, List.filter_append, List.filter_append]
    rcases Nat.lt_trichotomy n k with h | h | h
    · rw [ih, if_neg (by omega), if_neg (by omega)]
      simp [hlt n h]
    · subst h
      rw [none_ p n hlt, none_ _ n (fun i hi => by simp [hlt i hi]), if_pos (by omega)]
      simp [hk]
    · rw [ih, if_pos h, if_pos (by omega), List.append_assoc]
      congr 2
      simp [List.filter_cons, show n ≠ k by omega]
theorem testBit_form (k m i : Nat) : (2 ^ k * (2 * m + 1)).testBit i = if i < k + 1 then decide (k = i) else m.testBit (i - (k + 1)) := by
  have e : 2 ^ k * (2 * m + 1) = 2 ^ (k + 1) * m + 2 ^ k := by rw [Nat.pow_succ, Nat.mul_add, Nat.mul_one, Nat.mul_assoc]
  rw [e, Nat.testBit_two_pow_mul_add _ (by rw [Nat.pow_succ]; have := Nat.two_pow_pos k; omega), Nat.testBit_two_pow]
theorem testBit_pred (k m i : Nat) : (2 ^ k * (2 * m + 1) - 1).testBit i = if i < k + 1 then decide (i < k) else m.testBit (i - (k + 1)) := by
  have hp := Nat.two_pow_pos k
  have e : 2 ^ k * (2 * m + 1) - 1 = 2 ^ (k + 1) * m + (2 ^ k - 1) := by
    have : 2 ^ k * (2 * m + 1) = 2 ^ (k + 1) * m + 2 ^ k := by rw [Nat.pow_succ, Nat.mul_add, Nat.mul_one, Nat.mul_assoc]
    omega
  rw [e, Nat.testBit_two_pow_mul_add _ (by rw [Nat.pow_succ]; omega), Nat.testBit_two_pow_sub_one]
/-- The lowest tag ahead, and the rest. -/
theorem tags_step {l k m : Nat} (hl : l = 2 ^ k * (2 * m + 1)) (hk : k < 64) : tags l = k :: tags (l &&& (l - 1)) := by
  have h := filter_first (p := fun t => l.testBit t) (k := k) (fun i hi => by
    show l.testBit i = false
    rw [hl, testBit_form, if_pos (by omega)]; simp; omega) (by
    show l.testBit k = true
    rw [hl, testBit_form, if_pos (by omega)]; simp) 64
  unfold tags
  rw [h, if_pos hk]
  show k :: _ = _
  congr 1
  apply List.filter_congr
  intro i _
  rw [Nat.testBit_and]
  subst hl
  rw [testBit_form, testBit_pred]
  split
  · by_cases e : k = i
    · subst e; simp
    · simp [e]
  · have : (i != k) = true := by simp; omega
    simp [this]
theorem tags_zero : tags 0 = [] := by simp [tags]
theorem tags_lt (l : Nat) : ∀ t ∈ tags l, t < 64 := fun t ht => by
  simp only [tags, List.mem_filter, List.mem_range] at ht
  exact ht.1
theorem tags_len (l : Nat) : (tags l).length ≤ 64 := by
  have := List.length_filter_le (fun t => l.testBit t) (List.range 64)
  simpa [tags] using this
theorem and_pred_lt {l : Nat} (h : l ≠ 0) : l &&& (l - 1) < l := Nat.lt_of_le_of_lt Nat.and_le_right (by omega)
/-- The label of a label's tags is this label. -/
theorem orTags_tags {l : Nat} (hl : l < 18446744073709551616) : orTags ((tags l).map fun t : Nat => (t : Int)) = l := by
  have key : ∀ n, orTags (((List.range n).filter fun t => l.testBit t).map fun t : Nat => (t : Int)) = l % 2 ^ n := by
    intro n
    induction n with
    | zero => simp [orTags, Nat.mod_one]
    | succ n ih =>
      rw [List.range_succ, List.filter_append, List.map_append]
      cases h : l.testBit n
      · rw [List.filter_cons, if_neg (by simp [h])]
        simp only [List.filter_nil, List.map_nil, List.append_nil]
        rw [ih]
        have h1 : l / 2 ^ n % 2 = 0 := by
          have := Nat.testBit_eq_decide_div_mod_eq (x := l) (i := n)
          rw [h] at this
          have := of_decide_eq_false this.symm
          omega
        rw [Nat.pow_succ, Nat.mod_mul, h1, Nat.mul_zero, Nat.add_zero]
      · rw [List.filter_cons, if_pos (by simp [h])]
        simp only [List.filter_nil, List.map_cons, List.map_nil]
        rw [orTags_snoc, ih]
        have h1 : l / 2 ^ n % 2 = 1 := by
          have := Nat.testBit_eq_decide_div_mod_eq (x := l) (i := n)
          rw [h] at this
          exact of_decide_eq_true this.symm
        rw [Nat.pow_succ, Nat.mod_mul, h1, Nat.mul_one, Int.toNat_natCast, Nat.or_two_pow_eq_add_of_lt (Nat.mod_lt _ (Nat.two_pow_pos n))]
  rw [show tags l = (List.range 64).filter fun t => l.testBit t from rfl, key 64]
  exact Nat.mod_eq_of_lt hl
theorem ok_tags (l : Nat) : ((tags l).map fun t : Nat => (t : Int)).all okTag = true := by
  rw [List.all_eq_true]
  intro t ht
  obtain ⟨n, hn, rfl⟩ := List.mem_map.1 ht
  have := tags_lt l n hn
  simp [okTag]; omega

/-! ### The lattice -/
theorem join_comm (a b : Nat) : join a b = join b a := Nat.or_comm a b
theorem meet_comm (a b : Nat) : meet a b = meet b a := Nat.and_comm a b
theorem join_self (a : Nat) : join a a = a := Nat.or_self a
theorem meet_self (a : Nat) : meet a a = a := Nat.and_self a
theorem join_assoc (a b c : Nat) : join (join a b) c = join a (join b c) := Nat.or_assoc a b c
theorem meet_assoc (a b c : Nat) : meet (meet a b) c = meet a (meet b c) := Nat.and_assoc a b c
theorem join_meet (a b : Nat) : join a (meet a b) = a := by
  unfold join meet
  apply Nat.eq_of_testBit_eq; intro i
  rw [Nat.testBit_or, Nat.testBit_and]
  cases a.testBit i <;> simp
theorem meet_join (a b : Nat) : meet a (join a b) = a := by
  unfold join meet
  apply Nat.eq_of_testBit_eq; intro i
  rw [Nat.testBit_and, Nat.testBit_or]
  cases a.testBit i <;> simp
theorem flows_join_eq (a b : Nat) : (join a b == b) = flows a b := rfl
theorem flows_trans {a b c : Nat} (h1 : flows a b = true) (h2 : flows b c = true) : flows a c = true := by
  rw [flows_iff] at *
  exact fun i hi => h2 i (h1 i hi)
theorem meet_flows (a b : Nat) : flows (meet a b) a = true := by
  rw [flows_iff]; intro i hi
  unfold meet at hi
  rw [Nat.testBit_and] at hi
  simp at hi; exact hi.1
theorem flows_join (a b : Nat) : flows a (join a b) = true := by
  rw [flows_iff]; intro i hi
  unfold join
  rw [Nat.testBit_or, hi]; rfl
theorem join_zero (a : Nat) : join a 0 = a := Nat.or_zero a
theorem flows_more {x y a b : Nat} (h : flows x (join y a) = true) : flows x (join y (join a b)) = true := by
  refine flows_trans h ?_
  rw [← join_assoc]
  exact flows_join _ _
end Lab
