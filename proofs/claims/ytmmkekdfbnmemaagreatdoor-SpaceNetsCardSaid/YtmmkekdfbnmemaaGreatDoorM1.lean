/-
  Texts of this proof, joined (by wip/bin/bundle.py): NatMath, GcdMath, RatMath, TenMath, DigMath, NetMath, Words, Net1, InClass, RegInv, RegPred, BldLaid.
-/
import Derived.Lib.ItoaMem
import Derived.Test.YtmmkekdfbnmemaaGreatDoorProg
import Derived.WalkKit
import Derived.WalkSpells
import Derived.WalkLawsBesides
import Derived.Lib.Hide
import Derived.Laws.Rows
import Derived.Deep.QuietTactic
import Derived.BigQuiet
import Derived.Laws.Tables
import Derived.Shelf.Lay
import Derived.Shelf.Strings.BuilderK
/-
  Natural numbers as lists of limbs, the lowest first: what they are worth, without noughts on top, and the digits of a number. Plain.
-/
namespace Nt
/-- What limbs are worth. -/
def val : List Nat → Nat
  | [] => 0
  | d :: r => d + 4294967296 * val r
def Ok (l : List Nat) : Prop := ∀ d ∈ l, d < 4294967296
/-- The limbs of a number, with none of 0 on top. -/
def digs (n : Nat) : List Nat := if h : n = 0 then [] else n % 4294967296 :: digs (n / 4294967296)
termination_by n
decreasing_by omega
/-- No nought on top. -/
def Top (l : List Nat) : Prop := ∀ h : l ≠ [], l.getLast h ≠ 0
theorem digs_zero : digs 0 = [] := by rw [digs]; rfl
theorem digs_pos {n : Nat} (h : n ≠ 0) : digs n = n % 4294967296 :: digs (n / 4294967296) := by rw [digs, dif_neg h]
theorem val_digs (n : Nat) : val (digs n) = n := by
  induction n using Nat.strongRecOn with
  | _ n ih =>
    by_cases h : n = 0
    · subst h; rw [digs_zero]; rfl
    · rw [digs_pos h, val, ih _ (by omega)]; omega
theorem ok_digs (n : Nat) : Ok (digs n) := by
  induction n using Nat.strongRecOn with
  | _ n ih =>
    by_cases h : n = 0
    · subst h; rw [digs_zero]; intro d hd; cases hd
    · rw [digs_pos h]
      intro d hd
      rcases List.mem_cons.1 hd with rfl | hd
      · omega
      · exact ih _ (by omega) d hd
theorem digs_nil_iff {n : Nat} : digs n = [] ↔ n = 0 := by
  constructor
  · intro h
    by_cases h0 : n = 0
    · exact h0
    · rw [digs_pos h0] at h; cases h
  · rintro rfl; exact digs_zero
theorem top_digs (n : Nat) : Top (digs n) := by
  induction n using Nat.strongRecOn with
  | _ n ih =>
    by_cases h : n = 0
    · subst h; rw [digs_zero]; intro h; exact absurd rfl h
    · intro hne
      simp only [digs_pos h]
      by_cases h2 : n / 4294967296 = 0
      · simp only [h2, digs_zero, List.getLast_singleton]; omega
      · rw [List.getLast_cons (by rw [ne_eq, digs_nil_iff]; exact h2)]
        exact ih _ (by omega) _
theorem top_cons {d : Nat} {r : List Nat} (h : Top (d :: r)) : Top r := by
  intro hne
  have := h (by simp)
  rwa [List.getLast_cons hne] at this
theorem ok_cons {d : Nat} {r : List Nat} (h : Ok (d :: r)) : d < 4294967296 ∧ Ok r := ⟨h d List.mem_cons_self, fun x hx => h x (List.mem_cons_of_mem _ hx)⟩
/-- Limbs without noughts on top are the digits of their worth. -/
theorem digs_val : ∀ {l : List Nat}, Ok l → Top l → digs (val l) = l
  | [], _, _ => by rw [val, digs_zero]
  | d :: r, ho, ht => by
    obtain ⟨hd, hr⟩ := ok_cons ho
    have ih := digs_val hr (top_cons ht)
    by_cases h0 : val (d :: r) = 0
    · exfalso
      rw [val] at h0
      have hr0 : val r = 0 := by omega
      rw [hr0, digs_zero] at ih
      subst ih
      exact ht (by simp) (by simp; omega)
    · rw [digs_pos h0, val]
      rw [show (d + 4294967296 * val r) % 4294967296 = d by omega, show (d + 4294967296 * val r) / 4294967296 = val r by omega, ih]
theorem val_append : ∀ (a b : List Nat), val (a ++ b) = val a + 4294967296 ^ a.length * val b
  | [], b => by simp [val]
  | d :: r, b => by
    rw [List.cons_append, val, val_append r b, val, List.length_cons, Nat.pow_succ]
    grind
theorem val_lt : ∀ {l : List Nat}, Ok l → val l < 4294967296 ^ l.length
  | [], _ => by simp [val]
  | d :: r, ho => by
    obtain ⟨hd, hr⟩ := ok_cons ho
    have ih := val_lt hr
    rw [val, List.length_cons, Nat.pow_succ]
    generalize 4294967296 ^ r.length = p at ih ⊢
    omega
theorem val_take_succ {l : List Nat} {i : Nat} (h : i < l.length) : val (l.take (i + 1)) = val (l.take i) + 4294967296 ^ i * l[i] := by
  rw [List.take_succ_eq_append_getElem h, val_append]
  simp [val, Nat.min_eq_left (Nat.le_of_lt h)]
theorem val_split (l : List Nat) (i : Nat) (h : i ≤ l.length) : val l = val (l.take i) + 4294967296 ^ i * val (l.drop i) := by
  have := val_append (l.take i) (l.drop i)
  rw [List.take_append_drop, List.length_take, Nat.min_eq_left h] at this
  exact this
theorem val_zeros : ∀ {l : List Nat}, (∀ d ∈ l, d = 0) → val l = 0
  | [], _ => rfl
  | d :: r, h => by rw [val, h d List.mem_cons_self, val_zeros (fun x hx => h x (List.mem_cons_of_mem _ hx))]
theorem ok_take {l : List Nat} (h : Ok l) (n : Nat) : Ok (l.take n) := fun d hd => h d (List.mem_of_mem_take hd)
theorem ok_drop {l : List Nat} (h : Ok l) (n : Nat) : Ok (l.drop n) := fun d hd => h d (List.mem_of_mem_drop hd)
theorem ok_get {l : List Nat} (h : Ok l) {i : Nat} (hi : i < l.length) : l[i] < 4294967296 := h _ (List.getElem_mem hi)
theorem ok_set {l : List Nat} (h : Ok l) {i x : Nat} (hx : x < 4294967296) : Ok (l.set i x) := fun d hd => by
  rcases List.mem_or_eq_of_mem_set hd with h1 | h1
  · exact h d h1
  · rw [h1]; exact hx
/-- What trim finds: noughts from n on, none just below. -/
theorem take_eq_digs {l : List Nat} {n : Nat} (ho : Ok l) (hn : n ≤ l.length) (hz : ∀ j (hj : j < l.length), n ≤ j → l[j] = 0) (ht : ∀ h : 0 < n, l[n - 1]'(by omega) ≠ 0) : l.take n = digs (val l) := by
  have hv : val (l.drop n) = 0 := val_zeros fun d hd => by
    obtain ⟨j, hj, rfl⟩ := List.getElem_of_mem hd
    rw [List.getElem_drop]
    exact hz _ _ (by omega)
  have h1 := val_split l n hn
  rw [hv, Nat.mul_zero, Nat.add_zero] at h1
  rw [h1]
  refine (digs_val (ok_take ho n) fun hne => ?_).symm
  have hpos : 0 < n := by
    rcases Nat.eq_zero_or_pos n with h0 | h0
    · subst h0; simp at hne
    · exact h0
  rw [List.getLast_eq_getElem]
  simp only [List.length_take, Nat.min_eq_left hn, List.getElem_take]
  exact ht hpos
/-- The digits stand at the head of the limbs. -/
theorem take_digs : ∀ {l : List Nat}, Ok l → l.take (digs (val l)).length = digs (val l)
  | [], _ => by simp [val, digs_zero]
  | d :: r, ho => by
    obtain ⟨hd, hr⟩ := ok_cons ho
    have ih := take_digs hr
    by_cases h0 : val (d :: r) = 0
    · rw [h0, digs_zero]; rfl
    · have e : digs (val (d :: r)) = d :: digs (val r) := by
        rw [digs_pos h0, val]
        rw [show (d + 4294967296 * val r) % 4294967296 = d by omega, show (d + 4294967296 * val r) / 4294967296 = val r by omega]
      rw [e, List.length_cons, List.take_succ_cons, ih]
theorem digs_inj {a b : Nat} (h : digs a = digs b) : a = b := by rw [← val_digs a, ← val_digs b, h]
/-- How many limbs a number has. -/
def size (n : Nat) : Nat := (digs n).length
theorem digs_len_le {l : List Nat} (h : Ok l) : (digs (val l)).length ≤ l.length := by
  have key : ∀ (k n : Nat), n < 4294967296 ^ k → (digs n).length ≤ k := by
    intro k
    induction k with
    | zero => intro n hn; rw [show n = 0 by simpa using hn, digs_zero]; simp
    | succ k ih =>
      intro n hn
      by_cases h0 : n = 0
      · subst h0; rw [digs_zero]; simp
      · rw [digs_pos h0, List.length_cons]
        have := ih (n / 4294967296) (by rw [Nat.pow_succ] at hn; rw [Nat.div_lt_iff_lt_mul (by omega)]; exact hn)
        omega
  exact key _ _ (val_lt h)
theorem digs_len_lt {n k : Nat} (h : n < 4294967296 ^ k) : (digs n).length ≤ k := by
  have h2 := digs_len_le (l := (List.range k).map fun i => n / 4294967296 ^ i % 4294967296) (fun d hd => by
    obtain ⟨i, _, rfl⟩ := List.mem_map.1 hd; omega)
  have key : ∀ (k n : Nat), n < 4294967296 ^ k → (digs n).length ≤ k := by
    intro k
    induction k with
    | zero => intro n hn; rw [show n = 0 by simpa using hn, digs_zero]; simp
    | succ k ih =>
      intro n hn
      by_cases h0 : n = 0
      · subst h0; rw [digs_zero]; simp
      · rw [digs_pos h0, List.length_cons]
        have := ih (n / 4294967296) (by rw [Nat.pow_succ] at hn; rw [Nat.div_lt_iff_lt_mul (by omega)]; exact hn)
        omega
  exact key k n h
theorem digs_ge {n : Nat} (h : n ≠ 0) : 4294967296 ^ ((digs n).length - 1) ≤ n := by
  induction n using Nat.strongRecOn with
  | _ n ih =>
    rw [digs_pos h, List.length_cons, Nat.add_sub_cancel]
    by_cases h2 : n / 4294967296 = 0
    · rw [h2, digs_zero]; simp; omega
    · have := ih _ (by omega) h2
      have hl : (digs (n / 4294967296)).length ≠ 0 := by
        intro e; exact h2 (digs_nil_iff.1 (List.eq_nil_of_length_eq_zero e))
      obtain ⟨m, hm⟩ : ∃ m, (digs (n / 4294967296)).length = m + 1 := ⟨(digs (n / 4294967296)).length - 1, by omega⟩
      rw [hm] at this ⊢
      rw [Nat.add_sub_cancel] at this
      rw [Nat.pow_succ]
      omega

/-! ### Which is greater -/
def cmp (x y : Nat) : Int := if x < y then -1 else if y < x then 1 else 0
theorem cmp_lt {x y : Nat} (h : x < y) : cmp x y = -1 := if_pos h
theorem cmp_gt {x y : Nat} (h : y < x) : cmp x y = 1 := by unfold cmp; rw [if_neg (by omega), if_pos h]
theorem cmp_eq (x : Nat) : cmp x x = 0 := by unfold cmp; rw [if_neg (by omega), if_neg (by omega)]
/-- The highest place where two numbers of one length part decides. -/
theorem val_lt_of {a b : List Nat} {i : Nat} (ha : Ok a) (hi : i < a.length) (hi' : i < b.length) (hd : a.drop (i + 1) = b.drop (i + 1)) (hlt : a[i] < b[i]) : val a < val b := by
  have h1 := val_split a i (by omega)
  have h2 := val_split b i (by omega)
  rw [List.drop_eq_getElem_cons hi, val] at h1
  rw [List.drop_eq_getElem_cons hi', val, ← hd] at h2
  have h3 := val_lt (ok_take ha i)
  rw [List.length_take, Nat.min_eq_left (by omega)] at h3
  generalize val (a.drop (i + 1)) = r at h1 h2
  generalize a[i] = x at h1 hlt
  generalize b[i] = y at h2 hlt
  generalize 4294967296 ^ i = p at h1 h2 h3
  generalize val (a.take i) = s at h1 h3
  generalize val (b.take i) = t at h2
  have h4 : p * (x + 4294967296 * r) + p ≤ p * (y + 4294967296 * r) := by
    have h5 : p * (x + 4294967296 * r + 1) = p * (x + 4294967296 * r) + p := Nat.mul_succ _ _
    have h6 := Nat.mul_le_mul_left p (show x + 4294967296 * r + 1 ≤ y + 4294967296 * r by omega)
    omega
  omega
/-- More limbs, none of 0 on top: greater. -/
theorem digs_len_mono {x y : Nat} (h : (digs x).length < (digs y).length) : x < y := by
  have hy : y ≠ 0 := by rintro rfl; rw [digs_zero] at h; simp at h
  have h1 := digs_ge hy
  have h2 := val_lt (ok_digs x)
  rw [val_digs] at h2
  have h3 : (4294967296 : Nat) ^ (digs x).length ≤ 4294967296 ^ ((digs y).length - 1) := Nat.pow_le_pow_right (by omega) (by omega)
  omega
/-- Noughts laid on top, up to n limbs. -/
def pad (a : List Nat) (n : Nat) : List Nat := a ++ List.replicate (n - a.length) 0
theorem val_pad (a : List Nat) (n : Nat) : val (pad a n) = val a := by
  unfold pad
  rw [val_append, val_zeros (fun d hd => (List.mem_replicate.1 hd).2), Nat.mul_zero, Nat.add_zero]
theorem pad_len {a : List Nat} {n : Nat} (h : a.length ≤ n) : (pad a n).length = n := by simp [pad]; omega
theorem ok_pad {a : List Nat} (h : Ok a) (n : Nat) : Ok (pad a n) := fun d hd => by
  rcases List.mem_append.1 hd with h1 | h1
  · exact h d h1
  · rw [(List.mem_replicate.1 h1).2]; omega
theorem pad_get? {a : List Nat} {n i : Nat} (hi : i < (pad a n).length) : (pad a n)[i]? = some (a.getD i 0) := by
  unfold pad at hi ⊢
  rw [List.length_append, List.length_replicate] at hi
  rw [List.getD_eq_getElem?_getD, List.getElem?_append]
  split
  · rename_i h; rw [List.getElem?_eq_getElem h]; rfl
  · rename_i h
    rw [List.getElem?_replicate, if_pos (by omega), List.getElem?_eq_none (by omega)]
    rfl
theorem pad_get {a : List Nat} {n i : Nat} (hi : i < (pad a n).length) : (pad a n)[i] = a.getD i 0 := by
  have := pad_get? hi
  rw [List.getElem?_eq_getElem hi] at this
  exact Option.some.inj this

/-- Limbs that are worth enough are digits. -/
theorem eq_digs {l : List Nat} (ho : Ok l) (h : l ≠ [] → 4294967296 ^ (l.length - 1) ≤ val l) : digs (val l) = l := by
  refine digs_val ho fun hne hz => ?_
  have h1 := h hne
  have hl : 0 < l.length := List.length_pos_iff.2 hne
  have e : l = l.take (l.length - 1) ++ [0] := by
    have := List.dropLast_concat_getLast hne
    rw [hz, List.dropLast_eq_take] at this
    exact this.symm
  have hv : val l = val (l.take (l.length - 1)) := by
    have := congrArg val e
    rw [val_append] at this
    rw [this]
    simp [val]
  have h2 := val_lt (ok_take ho (l.length - 1))
  rw [List.length_take, Nat.min_eq_left (by omega)] at h2
  omega

/-! ### Sums, limb by limb -/
/-- What holds when k limbs are added: cur the limbs as they stand, c what is carried. -/
def AddAt (dp dq cur : List Nat) (k c : Nat) : Prop :=
  cur.length = dp.length ∧ Ok cur ∧ val (cur.take k) + c * 4294967296 ^ k = val (dp.take k) + val (dq.take k) ∧ cur.drop k = dp.drop k
theorem add_start {dp dq : List Nat} (h : Ok dp) : AddAt dp dq dp 0 0 := ⟨rfl, h, by simp [val], rfl⟩
theorem take_getD (l : List Nat) (k : Nat) : val (l.take (k + 1)) = val (l.take k) + 4294967296 ^ k * l.getD k 0 := by
  by_cases h : k < l.length
  · rw [val_take_succ h, List.getD_eq_getElem?_getD, List.getElem?_eq_getElem h]; rfl
  · rw [List.take_of_length_le (by omega), List.take_of_length_le (by omega), List.getD_eq_getElem?_getD, List.getElem?_eq_none (by omega)]
    simp
theorem set_take {l : List Nat} {k x : Nat} (h : k < l.length) : val ((l.set k x).take (k + 1)) = val (l.take k) + 4294967296 ^ k * x := by
  rw [val_take_succ (by simpa using h), List.getElem_set_self, List.take_set_of_le (Nat.le_refl _)]
theorem drop_set {l : List Nat} {k x : Nat} : (l.set k x).drop (k + 1) = l.drop (k + 1) := by
  rw [List.drop_set, if_pos (by omega)]
theorem add_get {dp dq cur : List Nat} {k c : Nat} (h : AddAt dp dq cur k c) (hk : k < dp.length) : cur[k]? = some dp[k] := by
  have : (cur.drop k)[0]? = (dp.drop k)[0]? := by rw [h.2.2.2]
  rw [List.getElem?_drop, List.getElem?_drop, Nat.add_zero, List.getElem?_eq_getElem hk] at this
  exact this
theorem add_step {dp dq cur : List Nat} {k c s d : Nat} (h : AddAt dp dq cur k c) (hk : k < dp.length) (hs : s < 4294967296) (e : dp[k] + dq.getD k 0 + c = s + 4294967296 * d) : AddAt dp dq (cur.set k s) (k + 1) d := by
  obtain ⟨h1, h2, h3, h4⟩ := h
  refine ⟨by simpa using h1, ok_set h2 hs, ?_, ?_⟩
  · rw [set_take (by omega), val_take_succ hk, take_getD, Nat.pow_succ]
    generalize 4294967296 ^ k = p at h3 ⊢
    generalize dp[k] = x at e ⊢
    generalize dq.getD k 0 = y at e ⊢
    grind
  · rw [drop_set]
    have := congrArg (List.drop 1) h4
    rw [List.drop_drop, List.drop_drop] at this
    exact this
theorem add_end {dp dq cur : List Nat} {k c : Nat} (h : AddAt dp dq cur k c) (hq : dq.length ≤ dp.length) (hk : k = dp.length ∨ (k ≤ dp.length ∧ c = 0 ∧ dq.length ≤ k)) : val cur + c * 4294967296 ^ dp.length = val dp + val dq := by
  obtain ⟨h1, h2, h3, h4⟩ := h
  rcases hk with rfl | ⟨hk, rfl, hqk⟩
  · rw [List.take_of_length_le (by omega), List.take_of_length_le (by omega), List.take_of_length_le (by omega)] at h3
    exact h3
  · rw [val_split cur k (by omega), val_split dp k hk, h4]
    rw [List.take_of_length_le (l := dq) hqk] at h3
    omega
/-- The digits of a sum: with nothing carried. -/
theorem add_done0 {x y : Nat} {cur : List Nat} (h : AddAt (digs x) (digs y) cur (digs x).length 0 ∨ ∃ k, AddAt (digs x) (digs y) cur k 0 ∧ k ≤ (digs x).length ∧ (digs y).length ≤ k) (hq : (digs y).length ≤ (digs x).length) : digs (x + y) = cur := by
  have key : val cur = x + y ∧ cur.length = (digs x).length ∧ Ok cur := by
    rcases h with h | ⟨k, h, h1, h2⟩
    · have := add_end h hq (.inl rfl)
      rw [val_digs, val_digs, Nat.zero_mul, Nat.add_zero] at this
      exact ⟨this, h.1, h.2.1⟩
    · have := add_end h hq (.inr ⟨h1, rfl, h2⟩)
      rw [val_digs, val_digs, Nat.zero_mul, Nat.add_zero] at this
      exact ⟨this, h.1, h.2.1⟩
  rw [← key.1]
  refine eq_digs key.2.2 fun hne => ?_
  rw [key.2.1, key.1]
  have hx : x ≠ 0 := by
    rintro rfl
    have := key.2.1
    rw [digs_zero] at this
    exact hne (List.eq_nil_of_length_eq_zero this)
  have := digs_ge hx
  omega
theorem add_done1 {x y : Nat} {cur : List Nat} (h : AddAt (digs x) (digs y) cur (digs x).length 1) (hq : (digs y).length ≤ (digs x).length) : digs (x + y) = cur ++ [1] := by
  have h2 := add_end h hq (.inl rfl)
  rw [val_digs, val_digs, Nat.one_mul] at h2
  have hv : val (cur ++ [1]) = x + y := by
    rw [val_append, h.1, ← h2]; simp [val]
  rw [← hv]
  refine eq_digs (fun d hd => ?_) fun _ => ?_
  · rcases List.mem_append.1 hd with h3 | h3
    · exact h.2.1 d h3
    · simp at h3; omega
  · rw [hv, List.length_append, List.length_singleton, Nat.add_sub_cancel, h.1, ← h2]
    omega

/-! ### Differences, limb by limb -/
def SubAt (dp dq cur : List Nat) (k c : Nat) : Prop :=
  cur.length = dp.length ∧ Ok cur ∧ val (cur.take k) + val (dq.take k) = val (dp.take k) + c * 4294967296 ^ k ∧ cur.drop k = dp.drop k
theorem sub_start {dp dq : List Nat} (h : Ok dp) : SubAt dp dq dp 0 0 := ⟨rfl, h, by simp [val], rfl⟩
theorem sub_get {dp dq cur : List Nat} {k c : Nat} (h : SubAt dp dq cur k c) (hk : k < dp.length) : cur[k]? = some dp[k] := by
  have : (cur.drop k)[0]? = (dp.drop k)[0]? := by rw [h.2.2.2]
  rw [List.getElem?_drop, List.getElem?_drop, Nat.add_zero, List.getElem?_eq_getElem hk] at this
  exact this
theorem sub_step {dp dq cur : List Nat} {k c s d : Nat} (h : SubAt dp dq cur k c) (hk : k < dp.length) (hs : s < 4294967296) (e : dp[k] + 4294967296 * d = s + dq.getD k 0 + c) : SubAt dp dq (cur.set k s) (k + 1) d := by
  obtain ⟨h1, h2, h3, h4⟩ := h
  refine ⟨by simpa using h1, ok_set h2 hs, ?_, ?_⟩
  · rw [set_take (by omega), val_take_succ hk, take_getD, Nat.pow_succ]
    generalize 4294967296 ^ k = p at h3 ⊢
    generalize dp[k] = x at e ⊢
    generalize dq.getD k 0 = y at e ⊢
    grind
  · rw [drop_set]
    have := congrArg (List.drop 1) h4
    rw [List.drop_drop, List.drop_drop] at this
    exact this
theorem sub_end {dp dq cur : List Nat} {k c : Nat} (h : SubAt dp dq cur k c) (hq : dq.length ≤ dp.length) (hle : val dq ≤ val dp) (hc : c ≤ 1) (hk : k = dp.length ∨ (k ≤ dp.length ∧ c = 0 ∧ dq.length ≤ k)) : val cur = val dp - val dq := by
  obtain ⟨h1, h2, h3, h4⟩ := h
  rcases hk with rfl | ⟨hk, rfl, hqk⟩
  · rw [List.take_of_length_le (by omega), List.take_of_length_le (by omega), List.take_of_length_le (by omega)] at h3
    have := val_lt h2
    rw [h1] at this
    generalize 4294967296 ^ dp.length = p at h3 this
    rcases Nat.eq_zero_or_pos c with h0 | h0
    · subst h0; omega
    · obtain rfl : c = 1 := by omega
      omega
  · rw [val_split cur k (by omega), val_split dp k hk, h4]
    rw [List.take_of_length_le (l := dq) hqk] at h3
    omega
theorem digs_len_le_of {x y : Nat} (h : y ≤ x) : (digs y).length ≤ (digs x).length := by
  rcases Nat.lt_or_ge (digs x).length (digs y).length with h1 | h1
  · have := digs_len_mono h1; omega
  · exact h1
theorem cmp_neg {x y : Nat} : cmp x y < 0 ↔ x < y := by
  unfold cmp
  split
  · simp_all
  · split <;> simp <;> omega

/-! ### The document's sums and differences: limbs laid on top, one by one -/
def AddUp (a b cur : List Nat) (k c : Nat) : Prop := cur.length = k ∧ Ok cur ∧ val cur + c * 4294967296 ^ k = val (a.take k) + val (b.take k)
theorem addUp_step {a b cur : List Nat} {k c : Nat} (h : AddUp a b cur k c) : AddUp a b (cur ++ [(a.getD k 0 + b.getD k 0 + c) % 4294967296]) (k + 1) ((a.getD k 0 + b.getD k 0 + c) / 4294967296) := by
  obtain ⟨h1, h2, h3⟩ := h
  refine ⟨by simp [h1], ?_, ?_⟩
  · intro d hd
    rcases List.mem_append.1 hd with h4 | h4
    · exact h2 d h4
    · simp at h4; omega
  · rw [val_append, take_getD, take_getD, h1, Nat.pow_succ]
    simp only [val, Nat.mul_zero, Nat.add_zero]
    have e : a.getD k 0 + b.getD k 0 + c = (a.getD k 0 + b.getD k 0 + c) % 4294967296 + 4294967296 * ((a.getD k 0 + b.getD k 0 + c) / 4294967296) := by omega
    generalize 4294967296 ^ k = p at h3 ⊢
    generalize (a.getD k 0 + b.getD k 0 + c) % 4294967296 = s at e ⊢
    generalize (a.getD k 0 + b.getD k 0 + c) / 4294967296 = d at e ⊢
    generalize a.getD k 0 = x at e ⊢
    generalize b.getD k 0 = y at e ⊢
    grind
theorem getD_lt {l : List Nat} (h : Ok l) (k : Nat) : l.getD k 0 < 4294967296 := by
  rw [List.getD_eq_getElem?_getD]
  rcases Nat.lt_or_ge k l.length with h1 | h1
  · rw [List.getElem?_eq_getElem h1]; exact ok_get h h1
  · rw [List.getElem?_eq_none h1]; show 0 < 4294967296; omega
theorem addUp_end {a b cur : List Nat} {n c : Nat} (ha : Ok a) (hb : Ok b) (hla : a.length ≤ n) (hlb : b.length ≤ n) (h : AddUp a b cur (n + 1) c) : val cur = val a + val b := by
  obtain ⟨h1, h2, h3⟩ := h
  rw [List.take_of_length_le (by omega), List.take_of_length_le (by omega)] at h3
  have p1 := val_lt ha
  have p2 := val_lt hb
  have q1 : (4294967296 : Nat) ^ a.length ≤ 4294967296 ^ n := Nat.pow_le_pow_right (by omega) hla
  have q2 : (4294967296 : Nat) ^ b.length ≤ 4294967296 ^ n := Nat.pow_le_pow_right (by omega) hlb
  rw [Nat.pow_succ] at h3
  generalize 4294967296 ^ n = p at *
  rcases Nat.eq_zero_or_pos c with h0 | h0
  · subst h0; omega
  · exfalso
    have : p * 4294967296 ≤ c * (p * 4294967296) := Nat.le_mul_of_pos_left _ h0
    omega
def SubUp (a b cur : List Nat) (k c : Nat) : Prop := cur.length = k ∧ Ok cur ∧ val cur + val (b.take k) = val (a.take k) + c * 4294967296 ^ k
theorem subUp_step {a b cur : List Nat} {k c s d : Nat} (h : SubUp a b cur k c) (hs : s < 4294967296) (e : a.getD k 0 + 4294967296 * d = s + b.getD k 0 + c) : SubUp a b (cur ++ [s]) (k + 1) d := by
  obtain ⟨h1, h2, h3⟩ := h
  refine ⟨by simp [h1], ?_, ?_⟩
  · intro d hd
    rcases List.mem_append.1 hd with h4 | h4
    · exact h2 d h4
    · simp at h4; omega
  · rw [val_append, take_getD, take_getD, h1, Nat.pow_succ]
    simp only [val, Nat.mul_zero, Nat.add_zero]
    generalize 4294967296 ^ k = p at h3 ⊢
    generalize a.getD k 0 = x at e ⊢
    generalize b.getD k 0 = y at e ⊢
    grind
theorem subUp_end {a b cur : List Nat} {n c : Nat} (hla : a.length ≤ n) (hlb : b.length ≤ n) (hle : val b ≤ val a) (h : SubUp a b cur n c) : val cur = val a - val b := by
  obtain ⟨h1, h2, h3⟩ := h
  rw [List.take_of_length_le (by omega), List.take_of_length_le (by omega)] at h3
  have := val_lt h2
  rw [h1] at this
  generalize 4294967296 ^ n = p at *
  rcases Nat.eq_zero_or_pos c with h0 | h0
  · subst h0; omega
  · exfalso
    have : p ≤ c * p := Nat.le_mul_of_pos_left _ h0
    omega
/-- Twice a number, and a bit. -/
def TwiceUp (a : List Nat) (bit : Nat) (cur : List Nat) (k c : Nat) : Prop := cur.length = k ∧ Ok cur ∧ val cur + c * 4294967296 ^ k = 2 * val (a.take k) + bit
theorem twiceUp_step {a cur : List Nat} {bit k c : Nat} (h : TwiceUp a bit cur k c) : TwiceUp a bit (cur ++ [(2 * a.getD k 0 + c) % 4294967296]) (k + 1) ((2 * a.getD k 0 + c) / 4294967296) := by
  obtain ⟨h1, h2, h3⟩ := h
  refine ⟨by simp [h1], ?_, ?_⟩
  · intro d hd
    rcases List.mem_append.1 hd with h4 | h4
    · exact h2 d h4
    · simp at h4; omega
  · rw [val_append, take_getD, h1, Nat.pow_succ]
    simp only [val, Nat.mul_zero, Nat.add_zero]
    have e : 2 * a.getD k 0 + c = (2 * a.getD k 0 + c) % 4294967296 + 4294967296 * ((2 * a.getD k 0 + c) / 4294967296) := by omega
    generalize 4294967296 ^ k = p at h3 ⊢
    generalize (2 * a.getD k 0 + c) % 4294967296 = s at e ⊢
    generalize (2 * a.getD k 0 + c) / 4294967296 = d at e ⊢
    generalize a.getD k 0 = x at e ⊢
    grind
theorem twiceUp_end {a cur : List Nat} {bit c : Nat} (ha : Ok a) (hb : bit ≤ 1) (h : TwiceUp a bit cur (a.length + 1) c) : val cur = 2 * val a + bit := by
  obtain ⟨h1, h2, h3⟩ := h
  rw [List.take_of_length_le (by omega)] at h3
  have p1 := val_lt ha
  rw [Nat.pow_succ] at h3
  generalize 4294967296 ^ a.length = p at *
  rcases Nat.eq_zero_or_pos c with h0 | h0
  · subst h0; omega
  · exfalso
    have : p * 4294967296 ≤ c * (p * 4294967296) := Nat.le_mul_of_pos_left _ h0
    omega
theorem ok_nil : Ok [] := fun d hd => by cases hd
theorem addUp_start (a b : List Nat) : AddUp a b [] 0 0 := ⟨rfl, ok_nil, by simp [val]⟩
theorem subUp_start (a b : List Nat) : SubUp a b [] 0 0 := ⟨rfl, ok_nil, by simp [val]⟩
theorem twiceUp_start (a : List Nat) (bit : Nat) : TwiceUp a bit [] 0 bit := ⟨rfl, ok_nil, by simp [val]⟩
/-- A bit of a number, out of its limb. -/
theorem bit_limb {a : List Nat} (ha : Ok a) (i : Nat) : a.getD (i / 32) 0 / 2 ^ (i % 32) % 2 = val a / 2 ^ i % 2 := by
  have key : ∀ (k : Nat) (l : List Nat), Ok l → val l / 4294967296 ^ k % 4294967296 = l.getD k 0 := by
    intro k
    induction k with
    | zero =>
      intro l hl
      cases l with
      | nil => simp [val]
      | cons d r => have := (ok_cons hl).1; simp [val]; omega
    | succ k ih =>
      intro l hl
      cases l with
      | nil => simp [val]
      | cons d r =>
        have h1 := (ok_cons hl).1
        rw [List.getD_cons_succ, ← ih r (ok_cons hl).2, val, Nat.pow_succ, Nat.mul_comm (4294967296 ^ k), ← Nat.div_div_eq_div_mul]
        rw [show (d + 4294967296 * val r) / 4294967296 = val r by omega]
  rw [← key _ a ha]
  have e : (2 : Nat) ^ i = 4294967296 ^ (i / 32) * 2 ^ (i % 32) := by
    rw [show (4294967296 : Nat) = 2 ^ 32 from rfl, ← Nat.pow_mul, ← Nat.pow_add, Nat.div_add_mod]
  rw [e, ← Nat.div_div_eq_div_mul]
  generalize val a / 4294967296 ^ (i / 32) = v
  have h32 : i % 32 < 32 := Nat.mod_lt _ (by omega)
  generalize i % 32 = j at h32
  have t0 : (v % 2 ^ 32).testBit j = v.testBit j := by rw [Nat.testBit_mod_two_pow, decide_eq_true h32, Bool.true_and]
  rw [Nat.testBit_eq_decide_div_mod_eq, Nat.testBit_eq_decide_div_mod_eq, decide_eq_decide, show (2 : Nat) ^ 32 = 4294967296 from rfl] at t0
  have m1 := Nat.mod_lt (v % 4294967296 / 2 ^ j) (show 0 < 2 by omega)
  have m2 := Nat.mod_lt (v / 2 ^ j) (show 0 < 2 by omega)
  generalize v % 4294967296 / 2 ^ j % 2 = p at *
  generalize v / 2 ^ j % 2 = q at *
  omega

/-! ### Bit by bit: the document's products and quotients -/
theorem half_step (v k : Nat) : v / 2 ^ k = 2 * (v / 2 ^ (k + 1)) + v / 2 ^ k % 2 := by
  rw [Nat.pow_succ, ← Nat.div_div_eq_div_mul]; omega
theorem len_mul {a b : List Nat} (ha : Ok a) (hb : Ok b) {x : Nat} (h : x ≤ val a * val b) : (digs x).length ≤ a.length + b.length := by
  refine digs_len_lt (Nat.lt_of_le_of_lt h ?_)
  rw [Nat.pow_add]
  exact Nat.mul_lt_mul'' (val_lt ha) (val_lt hb)
theorem len_le {a : List Nat} (ha : Ok a) {x : Nat} (h : x ≤ val a) : (digs x).length ≤ a.length := digs_len_lt (Nat.lt_of_le_of_lt h (val_lt ha))
theorem top_zero {a : List Nat} (ha : Ok a) : val a / 2 ^ (32 * a.length) = 0 := by
  refine Nat.div_eq_of_lt ?_
  rw [Nat.pow_mul]
  exact val_lt ha
theorem mul_step {v b k x bit : Nat} (hx : x = v / 2 ^ (k + 1) * b) (hb : bit = v / 2 ^ k % 2) : 2 * x + bit * b = v / 2 ^ k * b := by
  have := half_step v k
  rw [← hb] at this
  rw [this, hx]
  grind
theorem mul_le {v b k : Nat} : v / 2 ^ k * b ≤ v * b := Nat.mul_le_mul_right _ (Nat.div_le_self _ _)
theorem mul_le2 {v b k x : Nat} (hx : x = v / 2 ^ (k + 1) * b) : 2 * x ≤ v * b := by
  have h1 := half_step v k
  have h2 : 2 * (v / 2 ^ (k + 1)) ≤ v / 2 ^ k := by omega
  have h3 : 2 * x ≤ v / 2 ^ k * b := by
    rw [hx, ← Nat.mul_assoc]; exact Nat.mul_le_mul_right _ h2
  exact Nat.le_trans h3 mul_le
/-- One more bit of a quotient and a rest. -/
theorem div_step {n b q r bit : Nat} (hb : 0 < b) (hq : q = n / b) (hr : r = n % b) (hbit : bit ≤ 1) :
    (b ≤ 2 * r + bit → 2 * q + 1 = (2 * n + bit) / b ∧ 2 * r + bit - b = (2 * n + bit) % b) ∧ (¬ b ≤ 2 * r + bit → 2 * q + 0 = (2 * n + bit) / b ∧ 2 * r + bit = (2 * n + bit) % b) := by
  have h1 := Nat.div_add_mod n b
  have h2 := Nat.mod_lt n hb
  rw [← hq, ← hr] at h1
  rw [← hr] at h2
  constructor
  · intro h
    have e : 2 * n + bit = (2 * r + bit - b) + b * (2 * q + 1) := by
      have h3 : b * (2 * q + 1) = 2 * (b * q) + b := by grind
      omega
    rw [e, Nat.add_mul_div_left _ _ hb, Nat.add_mul_mod_self_left, Nat.div_eq_of_lt (by omega), Nat.mod_eq_of_lt (by omega)]
    exact ⟨by omega, rfl⟩
  · intro h
    have e : 2 * n + bit = (2 * r + bit) + b * (2 * q) := by
      have h3 : b * (2 * q) = 2 * (b * q) := by grind
      omega
    rw [e, Nat.add_mul_div_left _ _ hb, Nat.add_mul_mod_self_left, Nat.div_eq_of_lt (by omega), Nat.mod_eq_of_lt (by omega)]
    exact ⟨by omega, rfl⟩

/-- The quotient and the rest; 0 where there is nothing to divide by. -/
def quo (x y : Nat) : Nat := x / y
def rest (x y : Nat) : Nat := if y = 0 then 0 else x % y
theorem quo_zero (x : Nat) : quo x 0 = 0 := Nat.div_zero x
theorem rest_zero (x : Nat) : rest x 0 = 0 := if_pos rfl
theorem rest_pos {x y : Nat} (h : y ≠ 0) : rest x y = x % y := if_neg h

/-! ### Products, limb by limb -/
theorem val_set {l : List Nat} {k x : Nat} (h : k < l.length) : val (l.set k x) + 4294967296 ^ k * l[k] = val l + 4294967296 ^ k * x := by
  have h1 := val_split (l.set k x) (k + 1) (by rw [List.length_set]; exact h)
  have h2 := val_split l (k + 1) (by omega)
  rw [set_take h, drop_set] at h1
  rw [val_take_succ h] at h2
  omega
/-- What holds when x has been multiplied with j limbs. -/
def MulAt (cur0 db cur : List Nat) (x i j c : Nat) : Prop :=
  cur.length = cur0.length ∧ Ok cur ∧ c < 4294967296 ∧ val cur + c * 4294967296 ^ (i + j) = val cur0 + x * val (db.take j) * 4294967296 ^ i ∧ cur.drop (i + j) = cur0.drop (i + j)
theorem mul_start {cur0 db : List Nat} {x i : Nat} (h : Ok cur0) : MulAt cur0 db cur0 x i 0 0 := ⟨rfl, h, by omega, by simp [val], rfl⟩
theorem mulAt_step {cur0 db cur : List Nat} {x i j c o s d : Nat} (h : MulAt cur0 db cur x i j c) (hj : j < db.length) (hij : i + j < cur.length) (ho : o = cur[i + j]) (hs : s < 4294967296) (hd : d < 4294967296) (e : x * db[j] + o + c = s + 4294967296 * d) : MulAt cur0 db (cur.set (i + j) s) x i (j + 1) d := by
  obtain ⟨h1, h2, h3, h4, h5⟩ := h
  refine ⟨by simpa using h1, ok_set h2 hs, hd, ?_, ?_⟩
  · have hv := val_set (x := s) hij
    rw [← ho] at hv
    rw [val_take_succ hj]
    have hp : (4294967296 : Nat) ^ (i + (j + 1)) = 4294967296 ^ (i + j) * 4294967296 := by rw [← Nat.add_assoc, Nat.pow_succ]
    have hq : (4294967296 : Nat) ^ (i + j) = 4294967296 ^ j * 4294967296 ^ i := by rw [Nat.pow_add, Nat.mul_comm]
    rw [hp]
    rw [hq] at h4 hv ⊢
    generalize (4294967296 : Nat) ^ j = p at *
    generalize (4294967296 : Nat) ^ i = q at *
    generalize db[j] = y at *
    generalize val (cur.set (i + j) s) = V at *
    generalize val cur = V0 at *
    generalize val cur0 = V1 at *
    generalize val (db.take j) = D at *
    grind
  · rw [← Nat.add_assoc, drop_set]
    have := congrArg (List.drop 1) h5
    rw [List.drop_drop, List.drop_drop] at this
    exact this
theorem mulAt_end {cur0 db cur : List Nat} {x i c : Nat} (h : MulAt cur0 db cur x i db.length c) (hij : i + db.length < cur.length) (hz : cur0[i + db.length]? = some 0) : val (cur.set (i + db.length) c) = val cur0 + x * val db * 4294967296 ^ i := by
  obtain ⟨h1, h2, h3, h4, h5⟩ := h
  have hv := val_set (x := c) hij
  have : (cur.drop (i + db.length))[0]? = (cur0.drop (i + db.length))[0]? := by rw [h5]
  rw [List.getElem?_drop, List.getElem?_drop, Nat.add_zero, hz, List.getElem?_eq_getElem hij] at this
  rw [Option.some.inj this] at hv
  rw [List.take_length] at h4
  rw [Nat.mul_comm] at h4
  omega
/-- What holds when i limbs of the one have been multiplied with the other. -/
def MulOut (da db cur : List Nat) (i : Nat) : Prop :=
  cur.length = da.length + db.length ∧ Ok cur ∧ val cur = val (da.take i) * val db ∧ ∀ k, i + db.length ≤ k → k < cur.length → cur[k]? = some 0
theorem mulOut_start (da db : List Nat) : MulOut da db (List.replicate (da.length + db.length) 0) 0 := by
  refine ⟨by simp, fun d hd => ?_, ?_, fun k _ hk => ?_⟩
  · rw [(List.mem_replicate.1 hd).2]; omega
  · rw [val_zeros (fun d hd => (List.mem_replicate.1 hd).2)]; simp [val]
  · simp at hk; simp [hk]
theorem mulOut_step {da db cur0 cur : List Nat} {i c : Nat} (h : MulOut da db cur0 i) (hi : i < da.length) (hc : MulAt cur0 db cur da[i] i db.length c) : MulOut da db (cur.set (i + db.length) c) (i + 1) := by
  obtain ⟨h1, h2, h3, h4⟩ := h
  have hl : cur.length = cur0.length := hc.1
  have hij : i + db.length < cur.length := by rw [hl, h1]; omega
  refine ⟨by rw [List.length_set, hl, h1], ok_set hc.2.1 hc.2.2.1, ?_, fun k hk hk2 => ?_⟩
  · rw [mulAt_end hc hij (h4 _ (Nat.le_refl _) (by omega)), h3, val_take_succ hi]
    grind
  · rw [List.length_set] at hk2
    rw [List.getElem?_set_ne (by omega)]
    have : (cur.drop (i + db.length))[k - (i + db.length)]? = (cur0.drop (i + db.length))[k - (i + db.length)]? := by rw [hc.2.2.2.2]
    rw [List.getElem?_drop, List.getElem?_drop, show i + db.length + (k - (i + db.length)) = k by omega, h4 k (by omega) (by omega)] at this
    exact this
theorem mul_bound {x y : Nat} (hx : x < 4294967296) (hy : y < 4294967296) : x * y ≤ 18446744065119617025 := by
  have := Nat.mul_le_mul (Nat.le_of_lt_succ hx) (Nat.le_of_lt_succ hy)
  simpa using this

/-! ### Division by one limb, in place -/
def ShortAt (l : List Nat) (d : Nat) (cur : List Nat) (k r : Nat) : Prop :=
  cur.length = l.length ∧ Ok cur ∧ r < d ∧ cur.take k = l.take k ∧ val (cur.drop k) * d + r = val (l.drop k)
theorem short_start {l : List Nat} {d : Nat} (h : Ok l) (hd : 0 < d) : ShortAt l d l l.length 0 := ⟨rfl, h, hd, rfl, by simp [val]⟩
theorem short_get {l cur : List Nat} {d k r : Nat} (h : ShortAt l d cur (k + 1) r) (hk : k < l.length) : cur[k]? = some l[k] := by
  have : (cur.take (k + 1))[k]? = (l.take (k + 1))[k]? := by rw [h.2.2.2.1]
  rw [List.getElem?_take, List.getElem?_take, if_pos (by omega), if_pos (by omega), List.getElem?_eq_getElem hk] at this
  exact this
theorem short_bounds {r d x : Nat} (hr : r < d) (hd : d < 4294967296) (hx : x < 4294967296) : (r * 4294967296 + x) / d < 4294967296 ∧ r * 4294967296 + x < 18446744073709551616 ∧ (r * 4294967296 + x) % d < d := by
  refine ⟨?_, by omega, Nat.mod_lt _ (by omega)⟩
  rw [Nat.div_lt_iff_lt_mul (by omega)]
  have : (r + 1) * 4294967296 ≤ d * 4294967296 := Nat.mul_le_mul_right _ hr
  rw [Nat.mul_comm 4294967296 d]
  omega
theorem short_step {l cur : List Nat} {d k r : Nat} (h : ShortAt l d cur (k + 1) r) (hk : k < l.length) (hl : Ok l) (hd : d < 4294967296) : ShortAt l d (cur.set k ((r * 4294967296 + l[k]) / d)) k ((r * 4294967296 + l[k]) % d) := by
  obtain ⟨h1, h2, h3, h4, h5⟩ := h
  have hb := short_bounds h3 hd (ok_get hl hk)
  refine ⟨by simpa using h1, ok_set h2 hb.1, hb.2.2, ?_, ?_⟩
  · rw [List.take_set_of_le (Nat.le_refl _)]
    have := congrArg (List.take k) h4
    rwa [List.take_take, List.take_take, Nat.min_eq_left (by omega)] at this
  · have hc : k < cur.length := by omega
    rw [List.drop_eq_getElem_cons (by rw [List.length_set]; exact hc), List.getElem_set_self, drop_set, val, List.drop_eq_getElem_cons hk, val, ← h5]
    have e := Nat.div_add_mod (r * 4294967296 + l[k]) d
    generalize (r * 4294967296 + l[k]) / d = q at *
    generalize (r * 4294967296 + l[k]) % d = r' at *
    generalize l[k] = x at *
    generalize val (cur.drop (k + 1)) = V at *
    grind
theorem short_end {l cur : List Nat} {d r : Nat} (h : ShortAt l d cur 0 r) : val cur = val l / d ∧ r = val l % d := by
  obtain ⟨h1, h2, h3, h4, h5⟩ := h
  rw [List.drop_zero, List.drop_zero] at h5
  rw [← h5, Nat.mul_comm, Nat.mul_add_div (by omega), Nat.div_eq_of_lt h3, Nat.mul_add_mod, Nat.mod_eq_of_lt h3]
  exact ⟨by omega, rfl⟩
end Nt

set_option linter.unusedVariables false
namespace Nt
/-! ### Euclid's steps are few -/
def EucAt (M x y k : Nat) : Prop := (k = 0 ∧ x * y * 2 ≤ M) ∨ (y < x ∧ x * y * 2 ^ k ≤ M)
theorem euc_half {x y : Nat} (h : y < x) (hy : 0 < y) : y * (x % y) * 2 ≤ x * y := by
  have h1 : x % y + y ≤ x := by
    have e := Nat.div_add_mod x y
    have hq : 1 ≤ x / y := by rw [Nat.le_div_iff_mul_le hy]; omega
    have : y * 1 ≤ y * (x / y) := Nat.mul_le_mul_left _ hq
    omega
  have h2 : x % y < y := Nat.mod_lt _ hy
  have h3 : x % y * 2 ≤ x := by omega
  have h4 : y * (x % y * 2) ≤ y * x := Nat.mul_le_mul_left _ h3
  rw [Nat.mul_assoc, Nat.mul_comm x y]
  exact h4
theorem EucAt.step {M x y k : Nat} (h : EucAt M x y k) (hy : 0 < y) : EucAt M y (x % y) (k + 1) := by
  refine .inr ⟨Nat.mod_lt _ hy, ?_⟩
  rcases h with ⟨rfl, h⟩ | ⟨h1, h2⟩
  · have h3 : y * (x % y) ≤ y * x := Nat.mul_le_mul_left _ (Nat.mod_le _ _)
    rw [Nat.mul_comm x y] at h
    have h4 := Nat.mul_le_mul_right 2 h3
    simp only [Nat.zero_add, Nat.pow_one]
    omega
  · have h3 := euc_half h1 hy
    have h4 : y * (x % y) * 2 * 2 ^ k ≤ x * y * 2 ^ k := Nat.mul_le_mul_right _ h3
    rw [Nat.pow_succ, Nat.mul_comm (2 ^ k) 2, ← Nat.mul_assoc]
    omega
theorem EucAt.done {x y k n : Nat} (h : EucAt (2 ^ n) x y k) (hk : n < k) : y = 0 := by
  rcases h with ⟨rfl, h⟩ | ⟨h1, h2⟩
  · omega
  · rcases Nat.eq_zero_or_pos y with h0 | h0
    · exact h0
    · exfalso
      have h3 : 1 ≤ x * y := Nat.mul_pos (by omega) h0
      have h4 : 1 * 2 ^ k ≤ x * y * 2 ^ k := Nat.mul_le_mul_right _ h3
      have h5 : 2 ^ k ≤ 2 ^ n := by omega
      have h6 := (Nat.pow_le_pow_iff_right (a := 2) (by omega)).1 h5
      omega
theorem limbs_bits (n : Nat) : 4294967296 ^ n = 2 ^ (32 * n) := by rw [Nat.pow_mul, show 2 ^ 32 = 4294967296 from rfl]
theorem val_le_bits {a : List Nat} (ha : Ok a) {n : Nat} (la : a.length ≤ n) : val a ≤ 2 ^ (32 * n) := by
  have h1 := val_lt ha
  have h2 := Nat.pow_le_pow_right (n := 4294967296) (by omega) la
  rw [limbs_bits n] at h2
  exact Nat.le_of_lt (Nat.lt_of_lt_of_le h1 h2)
theorem euc_start {a b : List Nat} {n : Nat} (ha : Ok a) (hb : Ok b) (la : a.length ≤ n) (lb : b.length ≤ n) : EucAt (2 ^ (32 * n + 32 * n + 1)) (val a) (val b) 0 := by
  refine .inl ⟨rfl, ?_⟩
  have h3 := Nat.mul_le_mul_right 2 (Nat.mul_le_mul (val_le_bits ha la) (val_le_bits hb lb))
  rw [← Nat.pow_add, ← Nat.pow_succ] at h3
  exact h3
theorem gcd_step (x y : Nat) : Nat.gcd y (x % y) = Nat.gcd x y := by rw [Nat.gcd_comm x y, Nat.gcd_rec y x, Nat.gcd_comm]
theorem gcd_len {a b : List Nat} {n : Nat} (ha : Ok a) (hb : Ok b) (la : a.length ≤ n) (lb : b.length ≤ n) : (digs (Nat.gcd (val a) (val b))).length ≤ n := by
  rcases Nat.eq_zero_or_pos (val a) with h0 | h0
  · rw [h0, Nat.gcd_zero_left]
    exact Nat.le_trans (digs_len_le hb) lb
  · exact Nat.le_trans (len_le ha (Nat.gcd_le_left _ h0)) la
end Nt

/-
  Numbers as signs and limbs, plain: no program in sight. What Make and Right tell.
-/
namespace Rt
/-- A number as it is held. -/
structure Nm where
  neg : Bool
  top : List Nat
  bot : List Nat
deriving DecidableEq

def none_ : Nm := ⟨false, [], []⟩
/-- A sign, that is nothing to 0. -/
def nrm (n : Bool) (x : Nat) : Bool := n && !(x == 0)
/-- A number in lowest terms, or the error. -/
def mk (n1 n2 : Bool) (x y : Nat) : Nm × Int :=
  if y = 0 then (none_, 3)
  else if 32 < (Nt.digs (x / Nat.gcd x y)).length ∨ 32 < (Nt.digs (y / Nat.gcd x y)).length then (none_, 7)
  else (⟨!(x == 0) && (n1 != n2), Nt.digs (x / Nat.gcd x y), Nt.digs (y / Nat.gcd x y)⟩, 0)
/-- May a number be? -/
def right (a : Nm) : Bool := decide (a.top.length ≤ 32) && decide (a.bot.length ≤ 32) && ((mk a.neg false (Nt.val a.top) (Nt.val a.bot)).2 == 0) && decide ((mk a.neg false (Nt.val a.top) (Nt.val a.bot)).1 = a)
theorem mk_nrm (n1 n2 : Bool) (x y : Nat) : mk (nrm n1 x) (nrm n2 y) x y = mk n1 n2 x y := by
  unfold mk nrm
  by_cases hy : y = 0
  · rw [if_pos hy, if_pos hy]
  · rw [if_neg hy, if_neg hy]
    have e : (!(x == 0) && ((n1 && !(x == 0)) != (n2 && !(y == 0)))) = (!(x == 0) && (n1 != n2)) := by
      have h2 : (y == 0) = false := by simpa using hy
      rw [h2]
      cases (x == 0) <;> simp
    rw [e]
theorem div_gcd_zero {x y : Nat} (hy : y ≠ 0) : x / Nat.gcd x y = 0 ↔ x = 0 := by
  have hg : 0 < Nat.gcd x y := Nat.gcd_pos_of_pos_right _ (by omega)
  constructor
  · intro h
    rcases Nat.eq_zero_or_pos x with h0 | h0
    · exact h0
    · have h1 := Nat.le_of_dvd h0 (Nat.gcd_dvd_left x y)
      have h2 := Nat.div_pos h1 hg
      omega
  · rintro rfl; simp
/-- The parts of a number that may be. -/
theorem right_iff {a : Nm} (ho : Nt.Ok a.top) (ho' : Nt.Ok a.bot) : right a = true ↔ a.top.length ≤ 32 ∧ a.bot.length ≤ 32 ∧ Nt.Top a.top ∧ Nt.Top a.bot ∧ a.bot ≠ [] ∧ (a.top = [] → a.neg = false) ∧ Nat.gcd (Nt.val a.top) (Nt.val a.bot) = 1 := by
  obtain ⟨n, t, u⟩ := a
  unfold right
  simp only [Bool.and_eq_true, decide_eq_true_eq, beq_iff_eq]
  unfold mk
  dsimp only at ho ho' ⊢
  constructor
  · rintro ⟨⟨⟨h1, h2⟩, h3⟩, h4⟩
    by_cases hy : Nt.val u = 0
    · rw [if_pos hy] at h3; cases h3
    · rw [if_neg hy] at h3 h4
      by_cases hl : 32 < (Nt.digs (Nt.val t / Nat.gcd (Nt.val t) (Nt.val u))).length ∨ 32 < (Nt.digs (Nt.val u / Nat.gcd (Nt.val t) (Nt.val u))).length
      · rw [if_pos hl] at h3; cases h3
      · rw [if_neg hl] at h4
        injection h4 with e1 e2 e3
        have hg : 0 < Nat.gcd (Nt.val t) (Nt.val u) := Nat.gcd_pos_of_pos_right _ (by omega)
        have hu : Nt.val u / Nat.gcd (Nt.val t) (Nt.val u) = Nt.val u := by
          have := congrArg Nt.val e3
          rwa [Nt.val_digs] at this
        have hgcd : Nat.gcd (Nt.val t) (Nt.val u) = 1 := by
          have h5 := Nat.mul_div_cancel' (Nat.gcd_dvd_right (Nt.val t) (Nt.val u))
          rw [hu] at h5
          have h6 : Nat.gcd (Nt.val t) (Nt.val u) * Nt.val u = 1 * Nt.val u := by rw [h5, Nat.one_mul]
          exact Nat.eq_of_mul_eq_mul_right (by omega) h6
        refine ⟨h1, h2, ?_, ?_, ?_, ?_, hgcd⟩
        · rw [← e2]; exact Nt.top_digs _
        · rw [← e3]; exact Nt.top_digs _
        · rintro rfl; exact hy rfl
        · rintro rfl
          rw [← e1]; rfl
  · rintro ⟨h1, h2, h3, h4, h5, h6, h7⟩
    have hy : Nt.val u ≠ 0 := by
      intro h
      have := Nt.digs_val ho' h4
      rw [h, Nt.digs_zero] at this
      exact h5 this.symm
    rw [if_neg hy, h7, Nat.div_one, Nat.div_one, Nt.digs_val ho h3, Nt.digs_val ho' h4, if_neg (by omega)]
    refine ⟨⟨⟨h1, h2⟩, rfl⟩, ?_⟩
    congr 1
    cases hn : n
    · simp
    · by_cases ht : Nt.val t = 0
      · have := Nt.digs_val ho h3
        rw [ht, Nt.digs_zero] at this
        have := h6 this.symm
        rw [hn] at this; cases this
      · have : (Nt.val t == 0) = false := by simpa using ht
        rw [this]; rfl
end Rt

/-
  Decimal digits, in plain words: a numeral by groups of nine digits, and read again.
-/
set_option linter.unusedVariables false
namespace Ten
open Go Go.Lib
def dch (d : Nat) : UInt8 := UInt8.ofNat (48 + d)
theorem dch_nat {d : Nat} (h : d < 10) : (dch d).toNat = 48 + d := by
  unfold dch; rw [UInt8.toNat_ofNat']; omega
theorem dec_small {n : Nat} (h : n < 10) : decDigits n = [dch n] := decDigits_one h
theorem dec_big {n : Nat} (h : ¬ n < 10) : decDigits n = decDigits (n / 10) ++ [dch (n % 10)] := by
  rw [decDigits, dif_neg h]; rfl
theorem dec_step {q d : Nat} (hq : 0 < q) (hd : d < 10) : decDigits (10 * q + d) = decDigits q ++ [dch d] := by
  rw [dec_big (by omega), show (10 * q + d) / 10 = q by omega, show (10 * q + d) % 10 = d by omega]
theorem dec_ne (n : Nat) : decDigits n ≠ [] := by
  by_cases h : n < 10
  · rw [dec_small h]; simp
  · rw [dec_big h]; simp
/-- k digits, with noughts ahead. -/
def padD : Nat → Nat → List UInt8
  | 0, _ => []
  | k + 1, r => padD k (r / 10) ++ [dch (r % 10)]
theorem dec_pad {q : Nat} (hq : 0 < q) : ∀ (k r : Nat), r < 10 ^ k → decDigits (q * 10 ^ k + r) = decDigits q ++ padD k r
  | 0, r, h => by
    rw [show q * 10 ^ 0 + r = q by simp at h ⊢; omega]; simp [padD]
  | k + 1, r, h => by
    have hr : r / 10 < 10 ^ k := by rw [Nat.pow_succ] at h; omega
    have hp : 0 < 10 ^ k := Nat.pow_pos (by omega)
    have e : q * 10 ^ (k + 1) + r = 10 * (q * 10 ^ k + r / 10) + r % 10 := by
      rw [Nat.pow_succ, ← Nat.mul_assoc]; omega
    rw [e, dec_step (by have := Nat.mul_pos hq hp; omega) (by omega), dec_pad hq k _ hr, padD, List.append_assoc]
theorem padD_zero : ∀ k, padD k 0 = List.replicate k 48
  | 0 => rfl
  | k + 1 => by
    rw [padD, show 0 / 10 = 0 from rfl, padD_zero k, show [dch (0 % 10)] = List.replicate 1 48 from rfl, List.replicate_append_replicate]
theorem dec_len : ∀ {k r : Nat}, r < 10 ^ (k + 1) → 1 ≤ (decDigits r).length ∧ (decDigits r).length ≤ k + 1
  | 0, r, h => by rw [dec_small (by simpa using h)]; simp
  | k + 1, r, h => by
    by_cases h10 : r < 10
    · rw [dec_small h10]; simp
    · rw [dec_big h10]
      have := dec_len (k := k) (r := r / 10) (by rw [Nat.pow_succ] at h; omega)
      simp; omega
theorem padD_dec : ∀ {k r : Nat}, r < 10 ^ (k + 1) → padD (k + 1) r = List.replicate (k + 1 - (decDigits r).length) 48 ++ decDigits r
  | 0, r, h => by
    have h' : r < 10 := by simpa using h
    rw [dec_small h', padD, padD, Nat.mod_eq_of_lt h']; rfl
  | k + 1, r, h => by
    by_cases h10 : r < 10
    · rw [dec_small h10, padD, Nat.mod_eq_of_lt h10, show r / 10 = 0 by omega, padD_zero]; rfl
    · have hr : r / 10 < 10 ^ (k + 1) := by rw [Nat.pow_succ] at h; omega
      have hl := dec_len hr
      rw [padD, padD_dec hr, dec_big h10, List.append_assoc, List.length_append]
      rw [show k + 1 + 1 - ((decDigits (r / 10)).length + [dch (r % 10)].length) = k + 1 - (decDigits (r / 10)).length by simp]
theorem dec_nine {q r : Nat} (hq : 0 < q) (hr : r < 1000000000) : decDigits (q * 1000000000 + r) = decDigits q ++ (List.replicate (9 - (decDigits r).length) 48 ++ decDigits r) := by
  have := dec_pad hq 9 r (by simpa using hr)
  rw [padD_dec (k := 8) (by simpa using hr)] at this
  exact this

/-- A text's number, and whether it is a numeral. -/
def numOf (s : List UInt8) : Nat := s.foldl (fun n b => 10 * n + (b.toNat - 48)) 0
def isDig (b : UInt8) : Prop := 48 ≤ b.toNat ∧ b.toNat ≤ 57
def Valid (s : List UInt8) : Prop := s ≠ [] ∧ (1 < s.length → s.head? ≠ some 48) ∧ ∀ b ∈ s, isDig b
theorem numOf_snoc (s : List UInt8) (b : UInt8) : numOf (s ++ [b]) = 10 * numOf s + (b.toNat - 48) := by
  unfold numOf; rw [List.foldl_append]; rfl
theorem isDig_dch {d : Nat} (h : d < 10) : isDig (dch d) := by unfold isDig; rw [dch_nat h]; omega
theorem dch_of {b : UInt8} (h : isDig b) : dch (b.toNat - 48) = b := by
  obtain ⟨h1, h2⟩ := h
  apply UInt8.toNat_inj.1
  rw [dch_nat (by omega)]; omega
theorem head_app {a : List UInt8} (b : List UInt8) (h : a ≠ []) : (a ++ b).head? = a.head? := by
  cases a with
  | nil => exact absurd rfl h
  | cons x r => rfl
theorem dec_head : ∀ (n : Nat), 0 < n → (decDigits n).head? ≠ some 48 := by
  intro n
  induction n using Nat.strongRecOn with
  | ind n ih =>
    intro hn
    by_cases h : n < 10
    · rw [dec_small h]
      intro e
      injection e with e
      have := congrArg UInt8.toNat e
      rw [dch_nat h] at this
      simp at this; omega
    · rw [dec_big h, head_app _ (dec_ne _)]
      exact ih (n / 10) (by omega) (by omega)
theorem dec_valid (n : Nat) : Valid (decDigits n) ∧ numOf (decDigits n) = n := by
  induction n using Nat.strongRecOn with
  | ind n ih =>
    by_cases h : n < 10
    · rw [dec_small h]
      refine ⟨⟨by simp, by simp, fun b hb => ?_⟩, ?_⟩
      · rw [List.mem_singleton] at hb; subst hb; exact isDig_dch h
      · unfold numOf; simp [dch_nat h]
    · obtain ⟨⟨_, _, hd⟩, hv⟩ := ih (n / 10) (by omega)
      refine ⟨⟨dec_ne _, fun _ => dec_head n (by omega), fun b hb => ?_⟩, ?_⟩
      · rw [dec_big h] at hb
        rcases List.mem_append.1 hb with hb | hb
        · exact hd b hb
        · rw [List.mem_singleton] at hb; subst hb; exact isDig_dch (by omega)
      · rw [dec_big h, numOf_snoc, hv, dch_nat (by omega)]; omega
theorem valid_dec : ∀ (n : Nat) (s : List UInt8), s.length = n → Valid s → decDigits (numOf s) = s
  | 0, s, hl, h => absurd (List.eq_nil_of_length_eq_zero hl) h.1
  | 1, [b], _, h => by
    have hb := h.2.2 b List.mem_cons_self
    have e : numOf [b] = b.toNat - 48 := by unfold numOf; simp
    rw [e, dec_small (by have := hb.2; omega), dch_of hb]
  | n + 2, s, hl, h => by
    obtain ⟨t, b, rfl⟩ : ∃ t b, s = t ++ [b] := ⟨s.dropLast, s.getLast h.1, (List.dropLast_concat_getLast h.1).symm⟩
    have htl : t.length = n + 1 := by simpa using hl
    have htn : t ≠ [] := by intro e; rw [e] at htl; simp at htl
    have hb := h.2.2 b (by simp)
    have hh : t.head? ≠ some 48 := by
      have := h.2.1 (by rw [hl]; omega)
      rwa [head_app _ htn] at this
    have ht : Valid t := ⟨htn, fun _ => hh, fun c hc => h.2.2 c (List.mem_append_left _ hc)⟩
    have ih := valid_dec (n + 1) t htl ht
    have hpos : 0 < numOf t := by
      rcases Nat.eq_zero_or_pos (numOf t) with e | e
      · rw [e, dec_small (by omega)] at ih
        rw [← ih] at hh
        exact absurd rfl hh
      · exact e
    rw [numOf_snoc, dec_step hpos (by have := hb.2; omega), ih, dch_of hb]
theorem parse_text {s : List UInt8} (h : Valid s) : decDigits (numOf s) = s := valid_dec _ s rfl h
/-- ref.Text's rounds. -/
def OutAt (v y : Nat) (s : List UInt8) : Prop := (0 < y → decDigits v = decDigits y ++ s) ∧ (y = 0 → decDigits v = s)
theorem OutAt.start {v : Nat} (h : 0 < v) : OutAt v v [] := ⟨fun _ => by simp, fun e => by omega⟩
theorem OutAt.step {v y : Nat} {s : List UInt8} (h : OutAt v y s) (hy : 0 < y) : OutAt v (y / 10) (dch (y % 10) :: s) := by
  have e := h.1 hy
  refine ⟨fun h1 => ?_, fun h0 => ?_⟩
  · rw [e, dec_big (n := y) (by omega), List.append_assoc]; rfl
  · rw [e, dec_small (by omega), Nat.mod_eq_of_lt (by omega)]; rfl
/-- nat.Text's groups of nine digits. -/
def grp (v i : Nat) : Nat := v / 1000000000 ^ i % 1000000000
theorem grp_lt (v i : Nat) : grp v i < 1000000000 := Nat.mod_lt _ (by omega)
theorem grp_next (v i : Nat) : v / 1000000000 ^ (i + 1) * 1000000000 + grp v i = v / 1000000000 ^ i := by
  unfold grp; rw [Nat.pow_succ, ← Nat.div_div_eq_div_mul]; omega
theorem div_next (v i : Nat) : v / 1000000000 ^ i / 1000000000 = v / 1000000000 ^ (i + 1) := by rw [Nat.pow_succ, Nat.div_div_eq_div_mul]
theorem grp_top {v i : Nat} (h : v / 1000000000 ^ (i + 1) = 0) : decDigits (grp v i) = decDigits (v / 1000000000 ^ i) := by
  have := grp_next v i
  rw [h] at this
  rw [← this]; simp
theorem grp_low {v i : Nat} (h : 0 < v / 1000000000 ^ (i + 1)) : decDigits (v / 1000000000 ^ i) = decDigits (v / 1000000000 ^ (i + 1)) ++ (List.replicate (9 - (decDigits (grp v i)).length) 48 ++ decDigits (grp v i)) := by
  rw [← dec_nine h (grp_lt v i), grp_next]
end Ten

/-
  Numbers as text, plain: what a number's text is, and what number a text tells.
-/
namespace Dg
open Ten Go
def dB (b : UInt8) : Bool := decide (48 ≤ b.toNat ∧ b.toNat ≤ 57)
theorem dB_iff {b : UInt8} : dB b = true ↔ isDig b := by simp [dB, isDig]
/-- How many digits a text begins with. -/
def lead (s : List UInt8) : Nat := (s.takeWhile dB).length
theorem lead_le (s : List UInt8) : lead s ≤ s.length := by
  unfold lead
  induction s with
  | nil => simp
  | cons b r ih =>
    rw [List.takeWhile_cons]
    cases dB b
    · simp
    · simp at ih ⊢; omega
theorem lead_at {s : List UInt8} {k : Nat} (hk : k < s.length) (h : ∀ i (hi : i < s.length), i < k → dB s[i] = true) (hn : dB s[k] = false) : lead s = k := by
  unfold lead
  induction s generalizing k with
  | nil => simp at hk
  | cons b r ih =>
    rw [List.takeWhile_cons]
    cases k with
    | zero => simp at hn; rw [hn]; rfl
    | succ k =>
      have h0 := h 0 (by simp) (by omega)
      simp at h0
      rw [h0]
      simp only [if_true, List.length_cons]
      rw [ih (by simpa using hk) (fun i hi hik => by have := h (i + 1) (by simpa using hi) (by omega); simpa using this) (by simpa using hn)]
theorem lead_all {s : List UInt8} (h : ∀ i (hi : i < s.length), dB s[i] = true) : lead s = s.length := by
  unfold lead
  induction s with
  | nil => rfl
  | cons b r ih =>
    rw [List.takeWhile_cons]
    have h0 := h 0 (by simp)
    simp at h0
    rw [h0]
    simp only [if_true, List.length_cons]
    rw [ih (fun i hi => by have := h (i + 1) (by simpa using hi); simpa using this)]
theorem lead_dig {s : List UInt8} {k : Nat} (hk : k < lead s) : ∃ h : k < s.length, dB s[k] = true := by
  have hl := lead_le s
  refine ⟨by omega, ?_⟩
  unfold lead at hk
  induction s generalizing k with
  | nil => simp at hk
  | cons b r ih =>
    rw [List.takeWhile_cons] at hk
    cases hb : dB b
    · rw [hb] at hk; simp at hk
    · rw [hb] at hk
      cases k with
      | zero => simpa using hb
      | succ k => simpa using ih (by simpa using hk) (lead_le r)
theorem lead_not {s : List UInt8} (h : lead s < s.length) : dB s[lead s] = false := by
  unfold lead at h ⊢
  induction s with
  | nil => simp at h
  | cons b r ih =>
    cases hb : dB b
    · simp [hb]
    · have h' : (r.takeWhile dB).length < r.length := by simpa [List.takeWhile_cons, hb] using h
      have := ih h'
      simp only [List.takeWhile_cons, hb, if_true, List.length_cons, List.getElem_cons_succ]
      exact this

/-- The number of a text without a sign, or the error. -/
def body (neg : Bool) (t : List UInt8) : Rt.Nm × Int :=
  if 400 < t.length then (Rt.none_, 7)
  else if lead t = 0 then (Rt.none_, 1)
  else if lead t = t.length then Rt.mk neg false (numOf t) 1
  else if t.length = lead t + 1 ∨ lead (t.drop (lead t + 1)) < t.length - (lead t + 1) then (Rt.none_, 1)
  else if t.getD (lead t) 0 = 114 then Rt.mk neg false (numOf (t.take (lead t))) (numOf (t.drop (lead t + 1)))
  else if t.getD (lead t) 0 = 46 then Rt.mk neg false (numOf (t.take (lead t) ++ t.drop (lead t + 1))) (10 ^ (t.length - (lead t + 1)))
  else (Rt.none_, 1)
/-- The number of a text, or the error. -/
def parse : List UInt8 → Rt.Nm × Int
  | 194 :: 175 :: t => body true t
  | t => body false t
/-- A right number's text. -/
def print (n : Rt.Nm) : List UInt8 := (if n.neg then [194, 175] else []) ++ (Lib.decDigits (Nt.val n.top) ++ if n.bot = [1] then [] else 114 :: Lib.decDigits (Nt.val n.bot))

theorem dec_dB (n i : Nat) (hi : i < (Lib.decDigits n).length) : dB (Lib.decDigits n)[i] = true := dB_iff.2 ((dec_valid n).1.2.2 _ (List.getElem_mem hi))
theorem dec_pos (n : Nat) : 0 < (Lib.decDigits n).length := List.length_pos_iff.2 (dec_ne n)
theorem mk_right {n : Rt.Nm} (h : Rt.right n = true) : Rt.mk n.neg false (Nt.val n.top) (Nt.val n.bot) = (n, 0) := by
  unfold Rt.right at h
  simp only [Bool.and_eq_true, decide_eq_true_eq, beq_iff_eq] at h
  obtain ⟨⟨_, h1⟩, h2⟩ := h
  exact Prod.ext h2 h1
theorem body_print {n : Rt.Nm} (h : Rt.right n = true) (hl : (Lib.decDigits (Nt.val n.top) ++ if n.bot = [1] then [] else 114 :: Lib.decDigits (Nt.val n.bot)).length ≤ 400) :
    body n.neg (Lib.decDigits (Nt.val n.top) ++ if n.bot = [1] then [] else 114 :: Lib.decDigits (Nt.val n.bot)) = (n, 0) := by
  have hm := mk_right h
  have hp := dec_pos (Nt.val n.top)
  by_cases hb : n.bot = [1]
  · rw [if_pos hb] at hl ⊢
    rw [List.append_nil] at hl ⊢
    unfold body
    rw [if_neg (by omega), lead_all (dec_dB _), if_neg (by omega), if_pos rfl, (dec_valid _).2]
    rw [hb] at hm
    exact hm
  · rw [if_neg hb] at hl ⊢
    have hld : lead (Lib.decDigits (Nt.val n.top) ++ 114 :: Lib.decDigits (Nt.val n.bot)) = (Lib.decDigits (Nt.val n.top)).length := by
      refine lead_at (by simp) (fun i hi hik => ?_) ?_
      · rw [List.getElem_append_left hik]; exact dec_dB _ _ _
      · rw [List.getElem_append_right (Nat.le_refl _)]; simp; decide
    have hq := dec_pos (Nt.val n.bot)
    unfold body
    rw [hld]
    rw [if_neg (by omega), if_neg (by omega), if_neg (by simp)]
    have e1 : (Lib.decDigits (Nt.val n.top) ++ 114 :: Lib.decDigits (Nt.val n.bot)).drop ((Lib.decDigits (Nt.val n.top)).length + 1) = Lib.decDigits (Nt.val n.bot) := by
      rw [List.drop_append]; simp
    have e2 : (Lib.decDigits (Nt.val n.top) ++ 114 :: Lib.decDigits (Nt.val n.bot)).getD (Lib.decDigits (Nt.val n.top)).length 0 = 114 := by
      rw [List.getD_eq_getElem?_getD, List.getElem?_append_right (Nat.le_refl _)]; simp
    have e3 : (Lib.decDigits (Nt.val n.top) ++ 114 :: Lib.decDigits (Nt.val n.bot)).take (Lib.decDigits (Nt.val n.top)).length = Lib.decDigits (Nt.val n.top) := by simp
    rw [e1, e2, e3, lead_all (dec_dB _), if_neg (by simp only [List.length_append, List.length_cons, not_or]; omega), if_pos rfl, (dec_valid _).2, (dec_valid _).2]
    exact hm
theorem parse_body {t : List UInt8} (h : t.head? ≠ some 194) : parse t = body false t := by
  unfold parse
  split
  · simp at h
  · rfl
theorem parse_print {n : Rt.Nm} (h : Rt.right n = true) (hl : (print n).length ≤ 400) : parse (print n) = (n, 0) := by
  unfold print at hl ⊢
  cases hn : n.neg
  · rw [hn] at hl
    simp only [Bool.false_eq_true, if_false, List.nil_append] at hl ⊢
    rw [parse_body, ← hn]
    · exact body_print h hl
    · rw [head_app _ (dec_ne _)]
      intro e
      have h1 := (dec_valid (Nt.val n.top)).1
      obtain ⟨b, r, hbr⟩ := List.exists_cons_of_ne_nil (dec_ne (Nt.val n.top))
      rw [hbr] at e h1
      simp at e
      have := h1.2.2 b (by simp)
      rw [e] at this
      simp [isDig] at this
  · rw [hn] at hl
    simp only [if_true] at hl ⊢
    have := body_print h (by simp at hl ⊢; omega)
    rw [hn] at this
    exact this
/-! ### Noughts ahead -/
theorem numOf_zero (s : List UInt8) : numOf (48 :: s) = numOf s := by simp [numOf]
theorem numOf_append (a b : List UInt8) : numOf (a ++ b) = b.foldl (fun n b => 10 * n + (b.toNat - 48)) (numOf a) := by unfold numOf; rw [List.foldl_append]
theorem numOf_zeros : ∀ k, numOf (49 :: List.replicate k 48) = 10 ^ k
  | 0 => rfl
  | k + 1 => by
    rw [List.replicate_succ', ← List.cons_append, numOf_snoc, numOf_zeros k, Nat.pow_succ, Nat.mul_comm]; rfl
theorem numOf_lt : ∀ (n : Nat) (t : List UInt8), t.length = n → (∀ b ∈ t, isDig b) → numOf t < 10 ^ n
  | 0, t, h, _ => by rw [List.eq_nil_of_length_eq_zero h]; decide
  | n + 1, t, h, hd => by
    have hne : t ≠ [] := by rintro rfl; cases h
    obtain ⟨r, b, rfl⟩ : ∃ r b, t = r ++ [b] := ⟨t.dropLast, t.getLast hne, (List.dropLast_concat_getLast hne).symm⟩
    have h1 := numOf_lt n r (by simpa using h) (fun x hx => hd x (by simp [hx]))
    have h2 : isDig b := hd b (by simp)
    rw [numOf_snoc, Nat.pow_succ]
    unfold isDig at h2
    omega
theorem ten_nine (m : Nat) : 10 ^ (9 * m) ≤ 4294967296 ^ m := by rw [Nat.pow_mul]; exact Nat.pow_le_pow_left (by decide) m
/-- Nine digits a limb. -/
theorem limbs_le {t : List UInt8} (hd : ∀ b ∈ t, isDig b) (m : Nat) (h : t.length ≤ 9 * m) : (Nt.digs (numOf t)).length ≤ m :=
  Nt.digs_len_lt (Nat.lt_of_lt_of_le (numOf_lt _ t rfl hd) (Nat.le_trans (Nat.pow_le_pow_right (by omega) h) (ten_nine m)))
theorem limbs_ten {k : Nat} (m : Nat) (h : k + 1 ≤ 9 * m) : (Nt.digs (10 ^ k)).length ≤ m := by
  rw [← numOf_zeros]
  refine limbs_le (fun b hb => ?_) m (by simpa using h)
  rcases List.mem_cons.1 hb with rfl | hb
  · simp [isDig]
  · rw [List.eq_of_mem_replicate hb]; simp [isDig]
theorem numOf_drop : ∀ {k : Nat} {s : List UInt8}, (∀ i (hi : i < s.length), i < k → s[i] = 48) → k ≤ s.length → numOf (s.drop k) = numOf s
  | 0, s, _, _ => by simp
  | k + 1, [], _, h => by simp at h
  | k + 1, b :: r, hz, h => by
    have h0 := hz 0 (by simp) (by omega)
    simp at h0
    subst h0
    rw [List.drop_succ_cons, numOf_zero]
    exact numOf_drop (fun i hi hik => by have := hz (i + 1) (by simpa using hi) (by omega); simpa using this) (by simpa using h)
/-- Digits, the noughts ahead taken off but for a last one. -/
theorem valid_drop {s : List UInt8} {k : Nat} (hd : ∀ b ∈ s, isDig b) (hk : k < s.length) (h : k + 1 < s.length → s[k] ≠ 48) : Valid (s.drop k) := by
  refine ⟨by simp; omega, fun hl => ?_, fun b hb => hd b (List.mem_of_mem_drop hb)⟩
  have h1 := h (by simp at hl; omega)
  rw [List.drop_eq_getElem_cons hk]
  intro e
  rw [List.head?_cons] at e
  exact h1 (Option.some.inj e)
def strip (s : List UInt8) : List UInt8 := s.dropWhile (· == 48)
theorem strip_cons (b : UInt8) (r : List UInt8) : strip (b :: r) = if b = 48 then strip r else b :: r := by
  unfold strip
  by_cases h : b = 48
  · subst h; simp
  · rw [if_neg h, List.dropWhile_cons, if_neg (by simpa using h)]
theorem numOf_strip : ∀ s : List UInt8, numOf (strip s) = numOf s
  | [] => rfl
  | b :: r => by
    rw [strip_cons]
    by_cases h : b = 48
    · subst h; rw [if_pos rfl, numOf_strip r, numOf_zero]
    · rw [if_neg h]
theorem strip_mem : ∀ {s : List UInt8} {b : UInt8}, b ∈ strip s → b ∈ s
  | [], _, h => h
  | x :: r, b, h => by
    rw [strip_cons] at h
    by_cases e : x = 48
    · rw [if_pos e] at h; exact List.mem_cons_of_mem _ (strip_mem h)
    · rw [if_neg e] at h; exact h
theorem strip_len : ∀ s : List UInt8, (strip s).length ≤ s.length
  | [] => Nat.le_refl _
  | x :: r => by
    rw [strip_cons]
    by_cases e : x = 48
    · rw [if_pos e]; have := strip_len r; simp; omega
    · rw [if_neg e]; exact Nat.le_refl _
theorem strip_head : ∀ s : List UInt8, (strip s).head? ≠ some 48
  | [] => by simp [strip]
  | x :: r => by
    rw [strip_cons]
    by_cases e : x = 48
    · rw [if_pos e]; exact strip_head r
    · rw [if_neg e]; simpa using e
theorem strip_valid {s : List UInt8} (hd : ∀ b ∈ s, isDig b) (h : strip s ≠ []) : Valid (strip s) :=
  ⟨h, fun _ => strip_head s, fun b hb => hd b (strip_mem hb)⟩
theorem strip_nil {s : List UInt8} (h : strip s = []) : numOf s = 0 := by rw [← numOf_strip, h]; rfl
theorem lead_take {s : List UInt8} : ∀ b ∈ s.take (lead s), isDig b := fun b hb => by
  obtain ⟨i, hi, rfl⟩ := List.mem_iff_getElem.1 hb
  rw [List.getElem_take]
  have hi' : i < lead s := by simp at hi; omega
  obtain ⟨h1, h2⟩ := lead_dig hi'
  exact dB_iff.1 h2
theorem lead_full {s : List UInt8} (h : lead s = s.length) : ∀ b ∈ s, isDig b := fun b hb => by
  have := lead_take (s := s) b
  rw [h, List.take_length] at this
  exact this hb
end Dg

/-
  A text behind its length, plain: what is told, and what is taken off again.
-/
namespace Go.Proofs.YtmmkekdfbnmemaaGreatDoor
namespace Nw
open Ten Dg

/-- A text behind its length. -/
def net (s : List UInt8) : List UInt8 := Lib.decDigits s.length ++ (58 :: (s ++ [44]))
/-- Behind the number: the text of so many bytes, and the rest. -/
def after (s : List UInt8) (k n : Nat) : Option (List UInt8 × List UInt8) :=
  if k = 0 then none else if s.length ≤ k then none else if s.getD k 0 ≠ 58 then none else if s.length - (k + 1) ≤ n then none else if s.getD (k + 1 + n) 0 ≠ 44 then none else
    some ((s.drop (k + 1)).take n, s.drop (k + 1 + n + 1))
/-- The first text, and the rest. -/
def cut (s : List UInt8) : Option (List UInt8 × List UInt8) := if Lib.decDigits (numOf (s.take (lead s))) = s.take (lead s) then after s (lead s) (numOf (s.take (lead s))) else none

theorem after_T {s : List UInt8} {k n : Nat} (h0 : k ≠ 0) (hk : k < s.length) (h : s.getD k 0 = 58) : after s k n = if (s.drop (k + 1)).length ≤ n then none else if (s.drop (k + 1)).getD n 0 ≠ 44 then none else some ((s.drop (k + 1)).take n, (s.drop (k + 1)).drop (n + 1)) := by
  unfold after
  rw [if_neg h0, if_neg (by omega), if_neg (fun e => e h), List.length_drop, List.drop_drop]
  have e : (s.drop (k + 1)).getD n 0 = s.getD (k + 1 + n) 0 := by rw [List.getD_eq_getElem?_getD, List.getElem?_drop, List.getD_eq_getElem?_getD]
  rw [e]
  rfl

theorem dig_take {s : List UInt8} {k : Nat} (h : k ≤ lead s) : ∀ b ∈ s.take k, isDig b := fun b hb => lead_take b (List.mem_of_mem_take (show b ∈ (s.take (lead s)).take k by rwa [List.take_take, Nat.min_eq_left h]))
theorem take_succ_num {s : List UInt8} {k : Nat} (hk : k < s.length) : numOf (s.take (k + 1)) = 10 * numOf (s.take k) + (s[k].toNat - 48) := by
  rw [List.take_succ_eq_append_getElem hk, numOf_snoc]
theorem numOf_mono_take {s : List UInt8} : ∀ {j k : Nat}, j ≤ k → numOf (s.take j) ≤ numOf (s.take k) := by
  intro j k h
  induction k with
  | zero =>
    have : j = 0 := by omega
    rw [this]; exact Nat.le_refl _
  | succ k ih =>
    by_cases e : j = k + 1
    · subst e; exact Nat.le_refl _
    · have := ih (by omega)
      by_cases hk : k < s.length
      · rw [take_succ_num hk]; omega
      · rw [List.take_of_length_le (by omega : s.length ≤ k + 1)]
        rwa [List.take_of_length_le (by omega : s.length ≤ k)] at this
/-- A number greater than the text is long is none's length. -/
theorem cut_big {s : List UInt8} {k : Nat} (hk : k ≤ lead s) (h : s.length < numOf (s.take k)) : cut s = none := by
  unfold cut
  split
  · have := numOf_mono_take (s := s) hk
    unfold after
    split <;> first | rfl | skip
    split <;> first | rfl | skip
    split <;> first | rfl | skip
    rw [if_pos (by omega)]
  · rfl
/-- A nought ahead of other digits. -/
theorem cut_zero {s : List UInt8} {k : Nat} (hk : k ≤ lead s) (h1 : 1 < k) (h : numOf (s.take k) < 10) : cut s = none := by
  unfold cut
  rw [if_neg]
  intro e
  have hl := lead_le s
  have hv : Valid (s.take (lead s)) := by rw [← e]; exact (dec_valid _).1
  have h48 := hv.2.1 (by rw [List.length_take]; omega)
  obtain ⟨b, r, hbr⟩ : ∃ b r, s = b :: r := by
    cases s with
    | nil => simp at hl; omega
    | cons b r => exact ⟨b, r, rfl⟩
  have hb : b ≠ 48 := by
    intro e'
    apply h48
    rw [hbr, e', show lead (48 :: r) = (lead (48 :: r) - 1) + 1 by rw [← e', ← hbr]; omega]
    rfl
  have hd := dig_take hk b (by rw [hbr, show k = (k - 1) + 1 by omega]; exact List.mem_cons_self)
  have h2 : numOf (s.take 2) ≤ numOf (s.take k) := numOf_mono_take (by omega)
  have h3 : numOf (s.take 1) = b.toNat - 48 := by rw [hbr]; simp [numOf]
  have h4 := take_succ_num (s := s) (k := 1) (by omega)
  rw [h3] at h4
  have hd1 := hd.1
  have : b.toNat ≠ 48 := fun e' => hb (UInt8.toNat_inj.1 e')
  have h5 : numOf (s.take (1 + 1)) = numOf (s.take 2) := rfl
  omega
/-- The whole number read, and no nought too many. -/
theorem cut_read {s : List UInt8} (hz : 1 < lead s → 10 ≤ numOf (s.take 2)) : cut s = after s (lead s) (numOf (s.take (lead s))) := by
  by_cases h0 : lead s = 0
  · unfold cut after
    rw [if_pos h0]; split <;> rfl
  · unfold cut
    rw [if_pos]
    have hl := lead_le s
    refine parse_text ⟨?_, ?_, lead_take⟩
    · intro e; rw [List.take_eq_nil_iff] at e; rcases e with e | e
      · exact h0 e
      · subst e; simp at hl; exact h0 hl
    · intro h1 h48
      rw [List.length_take, Nat.min_eq_left hl] at h1
      have h10 := hz h1
      have h4 := take_succ_num (s := s) (k := 1) (by omega)
      have h5 : numOf (s.take (1 + 1)) = numOf (s.take 2) := rfl
      have hd := dig_take (s := s) (k := 2) (by omega) s[1] (by rw [List.mem_take_iff_getElem]; exact ⟨1, by omega, rfl⟩)
      have hd2 := hd.2
      have h6 : numOf (s.take 1) = 0 := by
        cases hs : s with
        | nil => simp [numOf]
        | cons b r =>
          rw [hs] at h48 h1
          rw [show lead (b :: r) = (lead (b :: r) - 1) + 1 by omega] at h48
          simp at h48
          subst h48
          simp [numOf]
      omega
/-- What is told is taken off again, whatever stands behind. -/
theorem cut_net (s t : List UInt8) : cut (net s ++ t) = some (s, t) := by
  obtain ⟨D, hD⟩ : ∃ D, D = Lib.decDigits s.length := ⟨_, rfl⟩
  have hnum : numOf D = s.length := by rw [hD]; exact (dec_valid _).2
  have hdig : ∀ i (hi : i < D.length), dB D[i] = true := by subst hD; exact fun i hi => dec_dB _ i hi
  have hpos : 0 < D.length := by rw [hD]; exact dec_pos _
  have he : net s ++ t = D ++ 58 :: (s ++ 44 :: t) := by unfold net; rw [← hD]; simp
  have hlead : lead (net s ++ t) = D.length := by
    rw [he]
    refine lead_at (by simp) (fun i hi hk => ?_) ?_
    · rw [List.getElem_append_left hk]; exact hdig i hk
    · rw [List.getElem_append_right (Nat.le_refl _)]; simp; decide
  have htake : (net s ++ t).take D.length = D := by rw [he, List.take_append_of_le_length (Nat.le_refl _), List.take_length]
  unfold cut
  rw [hlead, htake, hnum, if_pos hD.symm]
  unfold after
  have hlen : (net s ++ t).length = D.length + (1 + (s.length + (1 + t.length))) := by rw [he]; simp; omega
  have hg1 : (net s ++ t).getD D.length 0 = 58 := by rw [he, List.getD_eq_getElem?_getD, List.getElem?_append_right (Nat.le_refl _)]; simp
  have hdrop : (net s ++ t).drop (D.length + 1) = s ++ 44 :: t := by
    rw [he, List.drop_append, List.drop_eq_nil_of_le (by omega), List.nil_append, Nat.add_sub_cancel_left]; rfl
  have hg2 : (net s ++ t).getD (D.length + 1 + s.length) 0 = 44 := by
    have : ((net s ++ t).drop (D.length + 1))[s.length]? = some 44 := by rw [hdrop, List.getElem?_append_right (Nat.le_refl _)]; simp
    rw [List.getElem?_drop] at this
    rw [List.getD_eq_getElem?_getD, this]; rfl
  rw [if_neg (by omega), if_neg (by omega), if_neg (by rw [hg1]; decide), if_neg (by omega), if_neg (by rw [hg2]; decide)]
  have hd2 : (net s ++ t).drop (D.length + 1 + s.length + 1) = t := by
    rw [Nat.add_assoc (D.length + 1), ← List.drop_drop, hdrop, List.drop_append, List.drop_eq_nil_of_le (by omega), List.nil_append, Nat.add_sub_cancel_left]; rfl
  rw [hd2, hdrop, List.take_append_of_le_length (Nat.le_refl _), List.take_length]
/-- At most seven digits are read. -/
theorem cut_seven {s : List UInt8} (h : s.length < 1000000) (hl : 7 < lead s) : cut s = none := by
  by_cases h10 : numOf (s.take 2) < 10
  · exact cut_zero (k := 2) (by omega) (by omega) h10
  · have hll := lead_le s
    have hs : ∀ k, k + 2 ≤ s.length → 10 ^ (k + 1) ≤ numOf (s.take (k + 2)) := by
      intro k
      induction k with
      | zero => intro _; simpa using Nat.not_lt.1 h10
      | succ k ih =>
        intro hk
        have h1 := ih (by omega)
        have h2 := take_succ_num (s := s) (k := k + 2) (by omega)
        rw [show k + 1 + 2 = k + 2 + 1 by omega, h2, Nat.pow_succ]
        omega
    have h7 : 10 ^ (5 + 1) ≤ numOf (s.take 7) := hs 5 (by omega)
    have h8 : (10 : Nat) ^ (5 + 1) = 1000000 := by decide
    rw [h8] at h7
    exact cut_big (k := 7) (by omega) (by omega)
end Nw
end Go.Proofs.YtmmkekdfbnmemaaGreatDoor

/-
  Words for memory that the other texts use: a slice value that holds given cells ('Lies'), kept from world to world.
-/
namespace Go.Proofs.YtmmkekdfbnmemaaGreatDoor
open Go.RowKit

theorem ret_bool {a b : Bool} (h : a = b) : Ending.returned (.bool a) = .returned (.bool b) := by rw [h]
theorem ret_int {k : IntKind} {a b : Int} (h : a = b) : Ending.returned (.int k a) = .returned (.int k b) := by rw [h]
theorem ret_two {a b c d : Value} (h : a = c) (h' : b = d) : Ending.returned (.tuple #[a, b]) = .returned (.tuple #[c, d]) := by rw [h, h']

/-- The cells behind an address (if any is wanted at all) are these values, and lie below block B. -/
def Lies (w : World) (B : Nat) (A : Option Addr) (vs : List Value) : Prop :=
  vs = [] ∨ ∃ b off, A = some ⟨b, off, none⟩ ∧ b < B ∧ ∀ i v, vs[i]? = some v → w.cell? ⟨b, off + i, none⟩ = some v

theorem Lies.nil {w : World} {B : Nat} {A : Option Addr} : Lies w B A [] := .inl rfl
theorem Lies.keep {w w' : World} {B : Nat} {A : Option Addr} {vs : List Value} (h : Lies w B A vs) (hk : ∀ p : Addr, p.block < B → w'.cell? p = w.cell? p) : Lies w' B A vs := by
  rcases h with h | ⟨b, off, hA, hb, hc⟩
  · exact .inl h
  · exact .inr ⟨b, off, hA, hb, fun i v hv => (hk _ hb).trans (hc i v hv)⟩
theorem Lies.more {w : World} {B B' : Nat} {A : Option Addr} {vs : List Value} (h : Lies w B A vs) (hB : B ≤ B') : Lies w B' A vs := by
  rcases h with h | ⟨b, off, hA, hb, hc⟩
  · exact .inl h
  · exact .inr ⟨b, off, hA, by omega, hc⟩
theorem Lies.below {w w' : World} {B : Nat} {A : Option Addr} {vs : List Value} (h : Lies w B A vs) (hb : Below B w w') : Lies w' B A vs := h.keep fun _ hp => hb.cell hp
theorem Lies.drew {w : World} {B : Nat} {A : Option Addr} {vs : List Value} (h : Lies w B A vs) : Lies w.drew B A vs := h
theorem Lies.drewN {w : World} {B : Nat} {A : Option Addr} {vs : List Value} (h : Lies w B A vs) (n : Nat) : Lies (w.drewN n) B A vs := h
/-- The cell of a place that there is. -/
theorem Lies.at_ {w : World} {B : Nat} {A : Option Addr} {vs : List Value} (h : Lies w B A vs) {k : Nat} (hk : k < vs.length) :
    ∃ b off, A = some ⟨b, off, none⟩ ∧ b < B ∧ w.cell? ⟨b, off + k, none⟩ = some (vs[k]'hk) := by
  rcases h with h | ⟨b, off, hA, hb, hc⟩
  · subst h; simp at hk
  · exact ⟨b, off, hA, hb, hc k _ (List.getElem?_eq_getElem hk)⟩
theorem Lies.take {w : World} {B : Nat} {A : Option Addr} {vs : List Value} (h : Lies w B A vs) (n : Nat) : Lies w B A (vs.take n) := by
  rcases h with h | ⟨b, off, hA, hb, hc⟩
  · subst h; exact .inl (by simp)
  · refine .inr ⟨b, off, hA, hb, fun i v hv => hc i v ?_⟩
    rw [List.getElem?_take] at hv
    split at hv
    · exact hv
    · cases hv
/-- A row of the call's own, as such cells. -/
theorem Lies.of_own {w : World} {base : Nat} {e : TypeId} {size n c : Nat} {A : Option Addr} {xs : List Value} (h : w.ownsRow base e size (.slice A n c) n xs) : Lies w w.heap.size A xs := by
  rcases h.2 with ⟨hv, hx⟩ | ⟨g, cap, cur, hv, hb, hh, _⟩
  · exact .inl (List.eq_nil_of_length_eq_zero (by rw [h.1, hx, Nat.zero_mul]))
  · injection hv with hA
    subst hA
    have hlt := (h.lt g (by simp [Value.ownBlock])).2
    exact .inr ⟨g, 0, rfl, hlt, fun i v hv => by
      have := h.cells (g := g) (by simp [Value.ownBlock]) i v hv
      rw [Nat.zero_add]
      rw [← this]
      congr 1
      unfold Addr.add
      split
      · simp_all
      · simp⟩
/-- A row of the call's own is a slice. -/
theorem own_slice {w : World} {base : Nat} {e : TypeId} {size n : Nat} {v : Value} {xs : List Value} (h : w.ownsRow base e size v n xs) : ∃ A c, v = .slice A n c ∧ n ≤ c ∧ c ≤ maxLen := by
  rcases h.2 with ⟨hv, hx⟩ | ⟨g, cap, cur, hv, _, _, h1, h2, _⟩
  · subst hx; exact ⟨none, 0, hv, Nat.le_refl _, Nat.zero_le _⟩
  · exact ⟨_, cap, hv, h1, h2⟩
/-- The cells of a row of the call's own, by its block. -/
theorem own_cell {w : World} {base : Nat} {e : TypeId} {size n cap g : Nat} {xs : List Value} (h : w.ownsRow base e size (.slice (some ⟨g, 0, none⟩) n cap) n xs) (j : Nat) (v : Value) (hv : xs[j]? = some v) : w.cell? ⟨g, 0 + j, none⟩ = some v := by
  have := h.cells (g := g) rfl j v hv
  rw [Nat.zero_add, ← this]
  congr 1
  unfold Addr.add
  split
  · rename_i h; rw [h]
  · simp
/-- A block that was just made. -/
theorem Lies.new (w : World) (cs : List Value) (t : TypeId) : Lies (w.alloc (.cells cs.toArray t)) (w.heap.size + 1) (some ⟨w.heap.size, 0, none⟩) cs := by
  refine .inr ⟨w.heap.size, 0, rfl, by omega, fun i v hv => ?_⟩
  rw [cell_of_row (w.alloc (.cells cs.toArray t)) w.heap.size (0 + i) cs.toArray t (0, 0) (heap_alloc_new w _), Nat.zero_add]
  simpa using hv
end Go.Proofs.YtmmkekdfbnmemaaGreatDoor

/-
  scrimref01.Decimal of whatever number; scrimref29.decimal, Net.
-/
namespace Go.Proofs.YtmmkekdfbnmemaaGreatDoor
open Go.RowKit
set_option maxHeartbeats 2000000
set_option maxRecDepth 100000
set_option linter.unusedVariables false

theorem nw_one (n : Nat) (w : World) (h : n < 10) :
    Calls Tryz.prog 14 #[.int .i64 (n : Int)] w fun e w' => e = .returned (.string ⟨(Lib.decDigits n).toArray⟩) ∧ w = w' := by
  have HD := Lib.hid (Lib.decDigits_one h)
  have h10 : n = 0 ∨ n = 1 ∨ n = 2 ∨ n = 3 ∨ n = 4 ∨ n = 5 ∨ n = 6 ∨ n = 7 ∨ n = 8 ∨ n = 9 := by omega
  rcases h10 with rfl | rfl | rfl | rfl | rfl | rfl | rfl | rfl | rfl | rfl
  all_goals
    go_enter Tryz.func14, Tryz.ntmps14
    go_wp2_with fail
    go_ret
    exact ⟨by rw [HD.out]; rfl, rfl⟩
theorem nw_app (a b : List UInt8) : (⟨a.toArray⟩ : ByteArray) ++ (⟨b.toArray⟩ : ByteArray) = ⟨(a ++ b).toArray⟩ := by
  apply ByteArray.ext; simp
theorem nw_dec : ∀ (k n : Nat) (w : World), n < k → n < 1000000000 →
    Calls Tryz.prog 14 #[.int .i64 (n : Int)] w fun e w' => e = .returned (.string ⟨(Lib.decDigits n).toArray⟩) ∧ w = w'
  | 0, n, w, h, _ => by omega
  | k + 1, n, w, h, hn => by
    by_cases h10 : n < 10
    · exact nw_one n w h10
    · have HD : Lib.decDigits n = Lib.decDigits (n / 10) ++ Lib.decDigits (n % 10) := by
        rw [Ten.dec_big h10, ← Ten.dec_small (by omega : n % 10 < 10)]
      replace HD := Lib.hid HD
      have H1 := Lib.hid (nw_dec k (n / 10) w (by omega) (by omega))
      have H2 := Lib.hid (nw_one (n % 10) w (by omega))
      have hp := (Ten.dec_len (r := n / 10) (k := 9) (by omega)).2
      have hq := (Ten.dec_len (r := n % 10) (k := 9) (by omega)).2
      generalize Lib.decDigits (n / 10) = p at HD H1 hp
      generalize Lib.decDigits (n % 10) = q at HD H2 hq
      have e1 : ((n / 10 : Nat) : Int) = (n : Int) / 10 := by omega
      have e2 : ((n % 10 : Nat) : Int) = (n : Int) % 10 := by omega
      rw [e1] at H1
      rw [e2] at H2
      have s1 : (⟨p.toArray⟩ : ByteArray).size ≤ 10 := hp
      have s2 : (⟨q.toArray⟩ : ByteArray).size ≤ 10 := hq
      clear e1 e2 hp hq
      go_enter Tryz.func14, Tryz.ntmps14
      go_wp2_with fail
      refine H1.out.mono ?_
      rintro e w' ⟨rfl, rfl⟩
      go_wp2_with fail
      refine H2.out.mono ?_
      rintro e w' ⟨rfl, rfl⟩
      go_wp2_with fail
      go_ret
      exact ⟨by rw [HD.out, ← nw_app]; rfl, rfl⟩
theorem nw_decimal (n : Nat) (w : World) (h : n < 1000000000) :
    Calls Tryz.prog 14 #[.int .i64 (n : Int)] w fun e w' => e = .returned (.string ⟨(Lib.decDigits n).toArray⟩) ∧ w = w' := nw_dec (n + 1) n w (by omega) h

/-- The pieces of a text behind its length. -/
theorem nw_net (s : List UInt8) : (((⟨(Lib.decDigits s.length).toArray⟩ : ByteArray) ++ (⟨#[58]⟩ : ByteArray)) ++ (⟨s.toArray⟩ : ByteArray)) ++ (⟨#[44]⟩ : ByteArray) = ⟨(Nw.net s).toArray⟩ := by
  apply ByteArray.ext; unfold Nw.net; simp
theorem refNet_any (s : List UInt8) (w : World) (hs : s.length < 100000000) :
    Calls Tryz.prog 8 #[.string ⟨s.toArray⟩] w fun e w' => e = .returned (.string ⟨(Nw.net s).toArray⟩) ∧ w = w' := by
  have hsz : (⟨s.toArray⟩ : ByteArray).size = s.length := rfl
  have HSZ := Lib.hid hsz
  have DE := Lib.hid (nw_decimal s.length w (by omega))
  have hp := (Ten.dec_len (r := s.length) (k := 9) (by omega)).2
  have HN := Lib.hid (nw_net s)
  generalize Lib.decDigits s.length = D at *
  have q1 : ¬ 9223372036854775807 < D.length + 1 := by omega
  have q2 : ¬ 9223372036854775807 < D.length + 1 + s.length := by omega
  have q3 : ¬ 9223372036854775807 < D.length + 1 + s.length + 1 := by omega
  go_enter Tryz.func8, Tryz.ntmps8
  go_wp2_with fail
  refine DE.out.mono ?_
  rintro e w' ⟨rfl, rfl⟩
  go_wp2_with fail
  go_ret
  exact ⟨by rw [← HN.out]; rfl, rfl⟩

theorem nw_step {s : List UInt8} {k : Nat} (hl : k ≤ Dg.lead s) (h : k < s.length) (hd : Dg.dB s[k] = true) : k + 1 ≤ Dg.lead s := by
  rcases Nat.lt_or_ge k (Dg.lead s) with h1 | h1
  · omega
  · have e : Dg.lead s = k := by omega
    have := Dg.lead_not (s := s) (by omega)
    simp only [e] at this
    rw [hd] at this; cases this
theorem nw_stop {s : List UInt8} {k : Nat} (hl : k ≤ Dg.lead s) (h : k < s.length) (hd : Dg.dB s[k] = false) : Dg.lead s = k := by
  rcases Nat.lt_or_ge k (Dg.lead s) with h1 | h1
  · obtain ⟨h2, h3⟩ := Dg.lead_dig h1
    rw [hd] at h3; cases h3
  · omega
theorem nw_dB {b : UInt8} {y : Nat} (h : y = b.toNat) : Dg.dB b = decide (48 ≤ y ∧ y ≤ 57) := by unfold Dg.dB; rw [h]
/-- At most seven of the digits that lead. -/
def Nw.k7 (s : List UInt8) : Nat := min 7 (Dg.lead s)
/-- Where the digits are read: k of them, their number n. -/
structure Nw.DecAt (s : List UInt8) (k n : Nat) : Prop where
  le : k ≤ Dg.lead s
  num : n = Ten.numOf (s.take k)
theorem nw_small {s : List UInt8} {k n : Nat} (h : Nw.DecAt s k n) (hk : k ≤ 7) : n < 10000000 := by
  have h1 := Dg.numOf_lt (s.take k).length (s.take k) rfl (Nw.dig_take h.le)
  rw [← h.num] at h1
  have h2 : (s.take k).length ≤ 7 := by rw [List.length_take]; omega
  have h3 : (10 : Nat) ^ (s.take k).length ≤ 10 ^ 7 := Nat.pow_le_pow_right (by decide) h2
  have h4 : (10 : Nat) ^ 7 = 10000000 := by decide
  omega
theorem refDecimal29_any (s : List UInt8) (w : World) (hs : s.length ≤ 1000000) :
    Calls Tryz.prog 13 #[.string ⟨s.toArray⟩] w fun e w' => e = .returned (.tuple #[.int .i64 (Ten.numOf (s.take (Nw.k7 s)) : Int), .int .i64 (Nw.k7 s : Int)]) ∧ w = w' := by
  have hsz : (⟨s.toArray⟩ : ByteArray).size = s.length := rfl
  have HSZ := Lib.hid hsz
  have HR : Hid (∀ k n : Nat, Nw.DecAt s k n → Nw.k7 s = k → Ending.returned (.tuple #[.int .i64 (n : Int), .int .i64 (k : Int)]) = .returned (.tuple #[.int .i64 (Ten.numOf (s.take (Nw.k7 s)) : Int), .int .i64 (Nw.k7 s : Int)])) := Lib.hid (fun k n h e => by rw [e, ← h.num])
  go_enter Tryz.func13, Tryz.ntmps13
  go_wp2
  go_loop [4, 5] (fun a i => ∃ k n : Nat, k ≤ s.length ∧ k ≤ 7 ∧ n < 10000000 ∧ a = .int .i64 (n : Int) ∧ i = .int .i64 (k : Int) ∧ Hid (Nw.DecAt s k n)) (fun _ i => s.length - (intOf i).toNat)
  case atStart => exact ⟨0, 0, Nat.zero_le _, Nat.zero_le _, by omega, rfl, rfl, Lib.hid ⟨Nat.zero_le _, by simp [Ten.numOf]⟩⟩
  case round =>
    obtain ⟨k, n, hk, hk7, hn, rfl, rfl, H⟩ := hrel
    have HR1 := Lib.hid (HR.out k n H.out)
    by_cases hlt : k < s.length
    · by_cases h7 : k < 7
      · obtain ⟨y, hy⟩ : ∃ y, y = s[k].toNat := ⟨_, rfl⟩
        have hgy : ((⟨s.toArray⟩ : ByteArray)[k]'(show k < (⟨s.toArray⟩ : ByteArray).size from hlt)).toNat = y := hy.symm
        have HD := Lib.hid (nw_dB hy)
        have H2 := Lib.hid (fun h => nw_stop H.out.le hlt h)
        have H1 : Hid (48 ≤ y → y ≤ 57 → Nw.DecAt s (k + 1) (10 * n + (y - 48))) := Lib.hid (fun h1 h2 => ⟨nw_step H.out.le hlt (by rw [HD.out]; exact decide_eq_true ⟨h1, h2⟩), by rw [Nw.take_succ_num hlt, ← H.out.num, ← hy]⟩)
        clear hy
        by_cases h1 : 48 ≤ y
        · by_cases h2 : y ≤ 57
          · have h3 := H1.out h1 h2
            have h4 := nw_small h3 (by omega)
            have H3 := Lib.hid h3
            have hw1 : IntKind.u8.wrap ((y : Int) - 48) = ((y - 48 : Nat) : Int) := by rw [show (y : Int) - 48 = ((y - 48 : Nat) : Int) by omega]; exact IntWalk.u8_in _ (by omega)
            clear h3
            go_wp2
            go_round
            case rel => exact ⟨k + 1, 10 * n + (y - 48), by omega, by omega, h4, by go_num, by go_num, H3⟩
            case measure => simp [intOf]; omega
          · have HE := Lib.hid (HR1.out (by unfold Nw.k7; rw [H2.out (by rw [HD.out]; exact decide_eq_false (by omega))]; omega))
            go_wp2
            go_ret2
            exact ⟨HE.out, rfl⟩
        · have HE := Lib.hid (HR1.out (by unfold Nw.k7; rw [H2.out (by rw [HD.out]; exact decide_eq_false (by omega))]; omega))
          go_wp2
          go_ret2
          exact ⟨HE.out, rfl⟩
      · have HE := Lib.hid (HR1.out (by unfold Nw.k7; have := H.out.le; omega))
        go_wp2
        go_ret2
        exact ⟨HE.out, rfl⟩
    · have HE := Lib.hid (HR1.out (by unfold Nw.k7; have := H.out.le; have := Dg.lead_le s; omega))
      have e : k = s.length := by omega
      replace e := Lib.hid e
      go_wp2
      go_ret2
      exact ⟨HE.out, rfl⟩
end Go.Proofs.YtmmkekdfbnmemaaGreatDoor

/-
  A region that draws its order and whose calls make memory, but yield one value wherever they are made: one walk of the text's order serves.
  The class of worlds: those that are as w0 was below its heap's size. By the kit's wp_region_quiet (Derived/Deep/Quiet), at this class.
-/
namespace Go.Proofs.YtmmkekdfbnmemaaGreatDoor
open Go.RowKit
set_option linter.unusedVariables false

/-- A world that is as w0 was below the size of w0's heap. -/
structure Later (w0 : World) where
  w : World
  b : Below w0.heap.size w0 w
instance Later.nonempty (w0 : World) : Nonempty (Later w0) := ⟨⟨w0, Below.refl _ _⟩⟩
theorem wp_region_later (w0 : World) {P : Program} {id : Nat} {Q : Exit → Act → World → Prop} {a : Act} {w : World} {l : List Oper} (hm : P.follows .mixedOrders = true) (hB : Region.lexB .any l.toArray = true) (hC : Below w0.heap.size w0 w.drew)
    (h : wpQuiet P l.toArray (fun w' => ∃ x : Later w0, w' = x.w) (fun a' => ∀ w', (∃ x : Later w0, w' = x.w) → Q .normal a' w') l a) : (Code.region id l.toArray true).wp P Q a w :=
  wp_region_quiet (C := fun w' => ∃ x : Later w0, w' = x.w) hm hB ⟨⟨_, hC⟩, rfl⟩ (by simpa using h)
theorem Later.call {w0 : World} {P : Program} {f : FuncId} {args : Array Value} {x : Later w0} {v : Value}
    (h : Calls P f args x.w fun e w' => e = .returned v ∧ Below x.w.heap.size x.w w') : Calls P f args x.w fun e w'' => e = .returned v ∧ ∃ y : Later w0, w'' = y.w :=
  h.mono fun _ w' ⟨he, hb⟩ => ⟨he, ⟨w', x.b.trans (hb.mono x.b.size)⟩, rfl⟩
theorem Later.call_same {w0 : World} {P : Program} {f : FuncId} {args : Array Value} {x : Later w0} {v : Value}
    (h : Calls P f args x.w fun e w' => e = .returned v ∧ x.w = w') : Calls P f args x.w fun e w'' => e = .returned v ∧ ∃ y : Later w0, w'' = y.w :=
  h.mono fun _ w' ⟨he, hb⟩ => ⟨he, x, hb.symm⟩
/-- A whole variable is read, in a region that draws. -/
theorem wpQuiet_load_row {P : Program} {ops : Array Oper} {C : World → Prop} {Q : Act → Prop} {o : Oper} {rest : List Oper} {a : Act} (hw : Region.wanted o (yielded ops a.tmps) = true) (ty : TypeId) (x : Operand) (ho : o.op = .load ty x)
    (g : Nat) (hx : a.eval x = .pointer (some ⟨g, 0, none⟩)) (t : TypeId) (cs : Array Value) (fr : Nat × Nat) (d : TypeDesc) (hg : ∀ w, C w → w.heap[g]? = some (.cells cs t fr))
    (hu : P.underlying ty = some d) (hd : (match d with | .struct _ | .array _ _ => true | _ => false) = true) (hi : (P.info? ty).map (·.size) = some cs.size)
    (h : ∀ a', a' = a.put o.dst (.agg cs) → wpQuiet P ops C Q rest a') : wpQuiet P ops C Q (o :: rest) a := by
  replace h := h _ rfl
  rw [wpQuiet, if_pos hw]
  refine ⟨.agg cs, fun w hC => ?_, h⟩
  unfold Oper.quietAt execOp
  simp only [ho, hx, Instr.loadAt, Instr.sureAddr, Sem.run_bind, Sem.run_pure, Result.andThen_ok, run_loadVar_row w g t ty cs fr d (hg w hC) hu hd hi]
  exact ⟨rfl, rfl⟩
theorem Below.drew_self (w : World) : Below w.heap.size w w.drew := ⟨rfl, rfl, rfl, Nat.le_refl _, fun _ _ => rfl⟩
end Go.Proofs.YtmmkekdfbnmemaaGreatDoor

/-
  A region that draws its order, by an invariant on what has come up: each operation is looked at once, in whatever state it comes up.
-/
namespace Go.Proofs.YtmmkekdfbnmemaaGreatDoor
open Go.RowKit
set_option linter.unusedVariables false

section
variable {P : Program} {ops : Array Oper} {Q : Exit → Act → World → Prop} {md : Region.Mode}
theorem ready_mem {l : Array Bool} {i : Nat} (h : i ∈ Region.ready md ops l) : i < ops.size ∧ l.getD i true = false ∧ ((ops[i]?).map (·.after.all fun e => !Region.binds md e || l.getD e.on false)).getD false = true := by
  simp only [Region.ready, List.mem_filter, List.mem_range, Bool.and_eq_true, Bool.not_eq_true'] at h
  exact ⟨h.1, h.2.1, h.2.2⟩
theorem count_false_zero {l : Array Bool} (h : l.toList.count false = 0) (i : Nat) : l.getD i true = true := by
  rw [List.count_eq_zero] at h
  rw [Array.getD_eq_getD_getElem?]
  cases e : l[i]? with
  | none => rfl
  | some b =>
    cases b
    · exact absurd (by have := Array.mem_of_getElem? e; simpa using this) h
    · rfl
theorem count_set_true : ∀ (l : List Bool) (i : Nat), l[i]? = some false → (l.set i true).count false + 1 = l.count false
  | [], i, h => by simp at h
  | b :: r, 0, h => by
    simp at h; subst h; simp
  | b :: r, i + 1, h => by
    have := count_set_true r i (by simpa using h)
    cases b <;> simp <;> omega
theorem wpAny_inv (I : Array Bool → Act → World → Prop)
    (hI : ∀ l a w, I l a w → ∀ i, i ∈ Region.ready md ops l → wpOp P ops Q i (I (l.setIfInBounds i true)) a w)
    (hd : ∀ l a w, I l a w → Region.ready md ops l = [] → Q .normal a w) :
    ∀ n l a w, l.toList.count false ≤ n → I l a w → wpAny P md ops Q n l a w := by
  intro n
  induction n with
  | zero =>
    intro l a w hc h
    have hr : Region.ready md ops l = [] := by
      rw [List.eq_nil_iff_forall_not_mem]
      intro i hi
      have := (ready_mem hi).2.1
      rw [count_false_zero (by omega)] at this
      cases this
    exact ⟨hr, hd l a w h hr⟩
  | succ n ih =>
    intro l a w hc h
    refine ⟨hd l a w h, fun i hi => wpOp_mono (fun a' w' h' => ih _ a' w' ?_ h') (hI l a w h i hi)⟩
    have h1 := (ready_mem hi).2.1
    rw [Array.getD_eq_getD_getElem?] at h1
    have h2 : l.toList[i]? = some false := by
      cases e : l[i]? with
      | none => rw [e] at h1; cases h1
      | some b => rw [e] at h1; simp at h1; subst h1; simpa using e
    have h3 := count_set_true _ _ h2
    have h4 : (l.setIfInBounds i true).toList = l.toList.set i true := by simp
    rw [h4]; omega
theorem wpOp_at {i : Nat} {o : Oper} {K : Act → World → Prop} {a : Act} {w : World} (h : ops[i]? = some o) (hg : o.guard = none) (hw : o.wp P a w K Q) : wpOp P ops Q i K a w := by
  unfold wpOp; rw [h]
  have : Region.wanted o (yielded ops a.tmps) = true := by simp [Region.wanted, hg]
  simp only [this, if_true]
  exact .inl hw
end
end Go.Proofs.YtmmkekdfbnmemaaGreatDoor

/-
  A region that draws its order, and whose operations make memory but write none that was there: by a predicate for each operation's value, that stays in every later world.
-/
namespace Go.Proofs.YtmmkekdfbnmemaaGreatDoor
open Go.RowKit
set_option linter.unusedVariables false

/-- One value more. -/
def upd (xs : Nat → Value) (i : Nat) (v : Value) : Nat → Value := fun j => if j = i then v else xs j
section
variable {P : Program} {ops : Array Oper} {Q : Exit → Act → World → Prop} {md : Region.Mode}
/-- Does an operation wait for another one? -/
def depB (md : Region.Mode) (ops : Array Oper) (i j : Nat) : Bool := match ops[i]? with
  | some o => o.after.toList.any fun e => e.on == j && Region.binds md e
  | none => false
/-- The operation yields such a value, and makes memory at the most. -/
def Yields (frame : (Nat → Value) → Act) (R : Nat → World → Value → Prop) (xs : Nat → Value) (i : Nat) (w : World) (a' : Act) (w' : World) : Prop := ∃ v, a' = frame (upd xs i v) ∧ R i w' v ∧ Below w.heap.size w w'
theorem wpAny_pred (frame : (Nat → Value) → Act) (w0 : World) (R : Nat → World → Value → Prop)
    (hR : ∀ i w w' v, R i w v → Below w.heap.size w w' → R i w' v)
    (step : ∀ i xs w, i < ops.size → Below w0.heap.size w0 w → (∀ j, depB md ops i j = true → R j w (xs j)) → wpOp P ops Q i (Yields frame R xs i w) (frame xs) w)
    (done : ∀ xs w, Below w0.heap.size w0 w → (∀ i, i < ops.size → R i w (xs i)) → Q .normal (frame xs) w)
    (hops : ∀ i, i < ops.size → ∀ o, ops[i]? = some o → ∀ e ∈ o.after, e.on < i)
    (xs0 : Nat → Value) (w1 : World) (hw1 : Below w0.heap.size w0 w1) : wpAny P md ops Q ops.size (Array.replicate ops.size false) (frame xs0) w1 := by
  refine wpAny_inv (fun l a w => l.size = ops.size ∧ Below w0.heap.size w0 w ∧ ∃ xs, a = frame xs ∧ ∀ i, i < ops.size → l[i]? = some true → R i w (xs i)) ?_ ?_ ops.size _ _ _ (by simp) ⟨by simp, hw1, xs0, rfl, fun i hi h => by simp [hi] at h⟩
  · rintro l a w ⟨hl, hb, xs, rfl, hx⟩ i hi
    obtain ⟨h1, h2, h3⟩ := ready_mem hi
    have hli : l[i]? = some false := by
      rw [Array.getD_eq_getD_getElem?] at h2
      rw [Array.getElem?_eq_getElem (by omega)] at h2 ⊢
      simp at h2; rw [h2]
    refine wpOp_mono ?_ (step i xs w h1 hb ?_)
    · rintro a' w' ⟨v, rfl, hv, hb'⟩
      refine ⟨by simpa using hl, hb.trans (hb'.mono hb.size), upd xs i v, rfl, fun j hj hlj => ?_⟩
      by_cases e : j = i
      · subst e; simp only [upd, if_true]; exact hv
      · simp only [upd, if_neg e]
        rw [Array.getElem?_setIfInBounds_ne (fun h => e h.symm)] at hlj
        exact hR j w w' _ (hx j hj hlj) hb'
    · intro j hj
      obtain ⟨o, ho⟩ : ∃ o, ops[i]? = some o := ⟨_, Array.getElem?_eq_getElem h1⟩
      unfold depB at hj
      rw [ho] at hj
      simp only [List.any_eq_true, Bool.and_eq_true, beq_iff_eq] at hj
      obtain ⟨e, he', rfl, hbe⟩ := hj
      have he : e ∈ o.after := by simpa using he'
      have hlt := hops i h1 o ho e he
      rw [ho] at h3
      simp only [Option.map_some, Option.getD_some, Array.all_eq_true_iff_forall_mem] at h3
      have h4 := h3 e he
      rw [hbe] at h4
      simp only [Bool.not_true, Bool.false_or] at h4
      refine hx e.on (by omega) ?_
      rw [Array.getD_eq_getD_getElem?, Array.getElem?_eq_getElem (by omega)] at h4
      rw [Array.getElem?_eq_getElem (by omega)]
      simp at h4; rw [h4]
  · rintro l a w ⟨hl, hb, xs, rfl, hx⟩ hr
    refine done xs w hb ?_
    -- all are listed, by the order of the text
    have hall : ∀ n i, i < n → i < ops.size → l[i]? = some true := by
      intro n
      induction n with
      | zero => intro i h; omega
      | succ n ih =>
        intro i hi his
        by_cases e : i < n
        · exact ih i e his
        · have hie : i = n := by omega
          subst hie
          cases h : l[i]? with
          | none => rw [Array.getElem?_eq_none_iff] at h; omega
          | some b =>
            cases b
            · exfalso
              have : i ∈ Region.ready md ops l := by
                simp only [Region.ready, List.mem_filter, List.mem_range, Bool.and_eq_true, Bool.not_eq_true']
                refine ⟨his, by rw [Array.getD_eq_getD_getElem?, h]; rfl, ?_⟩
                rw [Array.getElem?_eq_getElem his]
                simp only [Option.map_some, Option.getD_some, Array.all_eq_true_iff_forall_mem]
                intro e he
                have hlt := hops i his _ (Array.getElem?_eq_getElem his) e he
                rw [Array.getD_eq_getD_getElem?, ih e.on hlt (by omega)]
                simp
              rw [hr] at this; cases this
            · rfl
    intro i hi
    exact hx i hi (hall (i + 1) i (by omega) hi)
theorem wp_region_pred (frame : (Nat → Value) → Act) (w0 : World) (R : Nat → World → Value → Prop) {id : Nat} {a : Act} {w : World} (hm : P.follows .mixedOrders = true)
    (hR : ∀ i w w' v, R i w v → Below w.heap.size w w' → R i w' v)
    (hops : ops.toList.zipIdx.all (fun p => p.1.after.all fun e => decide (e.on < p.2)) = true)
    (xs0 : Nat → Value) (ha : a = frame xs0) (hw : Below w0.heap.size w0 w)
    (step : ∀ i xs w, i < ops.size → Below w0.heap.size w0 w → (∀ j, depB .any ops i j = true → R j w (xs j)) → wpOp P ops Q i (Yields frame R xs i w) (frame xs) w)
    (done : ∀ xs w, Below w0.heap.size w0 w → (∀ i, i < ops.size → R i w (xs i)) → Q .normal (frame xs) w) : (Code.region id ops true).wp P Q a w := by
  subst ha
  refine wp_region_any hm (wpAny_pred frame w0 R hR step done ?_ xs0 _ ?_)
  · intro i hi o ho e he
    rw [List.all_eq_true] at hops
    have h := hops (o, i) (by
      rw [List.mem_zipIdx_iff_getElem?]
      simpa using ho)
    rw [Array.all_eq_true_iff_forall_mem] at h
    simpa using h e he
  · exact ⟨hw.os, hw.tape, hw.output, hw.size, hw.block⟩
theorem wpOp_on {i : Nat} {o : Oper} {K : Act → World → Prop} {a : Act} {w : World} (h : ops[i]? = some o) (hg : Region.wanted o (yielded ops a.tmps) = true) (hw : o.wp P a w K Q) : wpOp P ops Q i K a w := by
  unfold wpOp; rw [h]
  simp only [hg, if_true]
  exact .inl hw
theorem wpOp_off {i : Nat} {o : Oper} {K : Act → World → Prop} {a : Act} {w : World} (h : ops[i]? = some o) (hg : Region.wanted o (yielded ops a.tmps) = false) (hk : K (a.put o.dst undef) w) : wpOp P ops Q i K a w := by
  unfold wpOp; rw [h]
  simp only [hg]
  exact hk
end
end Go.Proofs.YtmmkekdfbnmemaaGreatDoor

/-
  The library's contract of (*strings.Builder).WriteString, laid by hand: 'shelf_lay' did not find the string type in the bodies that it goes by.
-/
namespace Go.Proofs
open Go.Shelf
def YtmmkekdfbnmemaaGreatDoorRen : Go.Shelf.Ren := ⟨fun | 166 => 15 | 240 => 34 | 276 => 62 | n => n, fun | 70 => 37 | 3 => 3 | 0 => 0 | 4 => 4 | 9 => 9 | 20 => 20 | 72 => 40 | 37 => 38 | 164 => 136 | 5 => 5 | 75 => 42 | 80 => 78 | n => n, fun | n => n⟩
theorem YtmmkekdfbnmemaaGreatDoorLaid : Go.Proofs.Lays.n166 Tryz.prog YtmmkekdfbnmemaaGreatDoorRen := {
  mixed := by kernel_rfl
  f166 := Tryz.func15.trans (congrArg some (by kernel_rfl))
  f240 := Tryz.func34.trans (congrArg some (by kernel_rfl))
  f276 := Tryz.func62.trans (congrArg some (by kernel_rfl))
  t0 := Tryz.underlying0
  a0 := Tryz.isAgg0
  z0 := Tryz.sizeOf0
  v0 := Tryz.zeroValue0
  t3 := Tryz.underlying3
  a3 := Tryz.isAgg3
  z3 := Tryz.sizeOf3
  v3 := Tryz.zeroValue3
  t4 := Tryz.underlying4
  a4 := Tryz.isAgg4
  z4 := Tryz.sizeOf4
  v4 := Tryz.zeroValue4
  t9 := Tryz.underlying9
  a9 := Tryz.isAgg9
  z9 := Tryz.sizeOf9
  v9 := Tryz.zeroValue9
  t20 := Tryz.underlying20
  a20 := Tryz.isAgg20
  z20 := Tryz.sizeOf20
  v20 := Tryz.zeroValue20
  t37 := Tryz.underlying38
  a37 := Tryz.isAgg38
  z37 := Tryz.sizeOf38
  v37 := Tryz.zeroValue38
  t70 := Tryz.underlying37
  a70 := Tryz.isAgg37
  z70 := Tryz.sizeOf37
  v70 := Tryz.zeroValue37
  t72 := Tryz.underlying40
  a72 := Tryz.isAgg40
  z72 := Tryz.sizeOf40
  v72 := Tryz.zeroValue40
  t75 := Tryz.underlying42
  a75 := Tryz.isAgg42
  z75 := Tryz.sizeOf42
  v75 := Tryz.zeroValue42
  t164 := Tryz.underlying136
  a164 := Tryz.isAgg136
  z164 := Tryz.sizeOf136
  v164 := Tryz.zeroValue136 }
theorem YtmmkekdfbnmemaaGreatDoorExtra : Builder.Extra Tryz.prog YtmmkekdfbnmemaaGreatDoorRen := {
  sizeBuilder := by kernel_rfl
  liesBuilder := by kernel_rfl
  t5 := Tryz.underlying5
  a5 := Tryz.isAgg5
  z5 := Tryz.sizeOf5
  v5 := Tryz.zeroValue5
  infoByte := by kernel_rfl
  cellsByte := by kernel_rfl
  sizeByte := by kernel_rfl
  neB5 := by decide }
namespace YtmmkekdfbnmemaaGreatDoor
open Go.RowKit
theorem writeString_any (B b : Nat) (bs : List Value) (s : ByteArray) (w : World) (h : Lib.IsBuilder 40 5 B b bs w) (hlen : bs.length + s.size ≤ 140737488355328) (hBw : B ≤ w.heap.size) :
    Calls Tryz.prog 15 #[.pointer (some ⟨b, 0, none⟩), .string s] w fun e w' => e = .returned (.tuple #[.int .i64 s.size, .nilIface]) ∧ (Lib.BuilderAt 40 5 B b (.pointer (some ⟨b, 0, none⟩)) (bs ++ Lib.strCells s) w' ∧ Below B w w') := Any.Builder_WriteString YtmmkekdfbnmemaaGreatDoorLaid YtmmkekdfbnmemaaGreatDoorExtra B b bs s w h hlen hBw
end YtmmkekdfbnmemaaGreatDoor
end Go.Proofs
