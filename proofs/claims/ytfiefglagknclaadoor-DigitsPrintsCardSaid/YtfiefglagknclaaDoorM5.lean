/-
  Texts of this proof, joined (by wip/bin/bundle.py): Same2, LabMath, LabRef, ArrTot, ArrFew, Rat3, Rec, ArrIn, FieldIn, NumIn.
-/
import Derived.Test.YtfiefglagknclaaDoorM4
import Derived.WalkKit
import Derived.WalkSpells
import Derived.WalkLawsBesides
import Derived.Lib.Hide
import Derived.Laws.BitsAllLaws
import Derived.IntWalk
import Derived.LoopTactic
import Derived.Outline
import Derived.Deep.QuietTactic
import Derived.BigQuiet
import Derived.Laws.Tables
import Derived.SizedLaws
import Derived.ProofKit
import Derived.OpenShut
import Derived.ChangeOld
/-
  Numbers compared: ratio.Same, and the reference's. (Printed by wip/bin/gen_same2.py.)
-/
namespace Go.Proofs.YtfiefglagknclaaDoor
open Go.RowKit Ar
set_option maxHeartbeats 1000000
set_option linter.unusedVariables false

/-- Whether two numbers' fields are the same. -/
def sameNum (n n' : Bool) (t t' b b' : List Nat) : Bool := (n == n') && (t == t') && (b == b')

theorem refRatioSame_any (n n' : Bool) (t t' b b' : List Nat) (A1 A2 A1' A2' : Option Addr) (c1 c2 c1' c2' : Nat) (w : World) (B : Nat) (h1 : Lies w B A1 (U32 t)) (h1' : Lies w B A1' (U32 t')) (h2 : Lies w B A2 (U32 b)) (h2' : Lies w B A2' (U32 b')) (hB : B ≤ w.heap.size)
    (k1 : t.length ≤ 9223372036854775807) (k1' : t'.length ≤ 9223372036854775807) (k2 : b.length ≤ 9223372036854775807) (k2' : b'.length ≤ 9223372036854775807) :
    Calls Tryd.prog 13 #[.agg #[.bool n, .slice A1 t.length c1, .slice A2 b.length c2], .agg #[.bool n', .slice A1' t'.length c1', .slice A2' b'.length c2']] w fun e w' => e = .returned (.bool (sameNum n n' t t' b b')) ∧ Below w.heap.size w w' := by
  have E1 := Lib.hid (fun (wx : World) (hx : Below w.heap.size w wx) => refSame2_any t t' A1 A1' c1 c1' wx B (h1.below (hx.mono hB)) (h1'.below (hx.mono hB)) k1 k1')
  have E2 := Lib.hid (fun (wx : World) (hx : Below w.heap.size w wx) => refSame2_any b b' A2 A2' c2 c2' wx B (h2.below (hx.mono hB)) (h2'.below (hx.mono hB)) k2 k2')
  have HR : Hid (sameNum n n' t t' b b' = ((n == n') && (t == t') && (b == b'))) := Lib.hid rfl
  clear h1 h1' h2 h2'
  generalize sameNum n n' t t' b b' = R at *
  generalize (t == t') = x at *
  generalize (b == b') = y at *
  cases hnn : (n == n')
  · rw [hnn] at HR
    go_enter Tryd.func13, Tryd.ntmps13
    go_wp2_with fail
    go_ret
    exact ⟨ret_bool (by rw [HR.out]; simp), ((Below.refl _ _).alloc (Nat.le_refl _) _).alloc (by simp) _⟩
  · rw [hnn] at HR
    go_enter Tryd.func13, Tryd.ntmps13
    go_wp2_with fail
    have hb0 : Below w.heap.size w ((w.alloc (.cells #[.bool n, .slice A1 t.length c1, .slice A2 b.length c2] 24)).alloc (.cells #[.bool n', .slice A1' t'.length c1', .slice A2' b'.length c2'] 24)) := ((Below.refl _ _).alloc (Nat.le_refl _) _).alloc (by simp) _
    refine (E1.out _ hb0).mono ?_
    rintro e w2 ⟨rfl, hb2⟩
    have hb3 := hb0.trans (hb2.mono hb0.size)
    obtain ⟨hc, hfz⟩ : (∀ o, w2.cell? ⟨w.heap.size, o, none⟩ = _) ∧ (∀ o, w2.cell? ⟨w.heap.size + 1, o, none⟩ = _) := ⟨fun o => hb2.cell (p := ⟨w.heap.size, o, none⟩) (by show w.heap.size < _; simp; omega), fun o => hb2.cell (p := ⟨w.heap.size + 1, o, none⟩) (by show w.heap.size + 1 < _; simp)⟩
    cases x
    · go_wp2_with fail
      go_ret
      exact ⟨ret_bool (by rw [HR.out]; simp), hb3⟩
    · go_wp2_with fail
      refine (E2.out _ hb3).mono ?_
      rintro e w3 ⟨rfl, hb4⟩
      clear hc hfz
      go_wp2_with fail
      go_ret
      exact ⟨ret_bool (by rw [HR.out]; simp), hb3.trans (hb4.mono hb3.size)⟩
end Go.Proofs.YtfiefglagknclaaDoor

namespace Lab
/-- The sum of the bits below n that p takes. -/
def sumBits (p : Nat → Bool) : Nat → Nat
  | 0 => 0
  | n + 1 => sumBits p n + if p n then 2 ^ n else 0
theorem sumBits_lt (p : Nat → Bool) : ∀ n, sumBits p n < 2 ^ n
  | 0 => by simp [sumBits]
  | n + 1 => by
    have := sumBits_lt p n
    rw [sumBits, Nat.pow_succ]
    split <;> omega
theorem testBit_sumBits (p : Nat → Bool) : ∀ n i, (sumBits p n).testBit i = (decide (i < n) && p i)
  | 0, i => by simp [sumBits]
  | n + 1, i => by
    have hlt := sumBits_lt p n
    have ih := testBit_sumBits p n
    have e : sumBits p (n + 1) = 2 ^ n * (if p n then 1 else 0) + sumBits p n := by
      rw [sumBits]; split <;> simp [Nat.add_comm]
    rw [e, Nat.testBit_two_pow_mul_add _ hlt]
    by_cases h : i < n
    · simp [h, ih, Nat.lt_succ_of_lt h]
    · rw [if_neg h]
      by_cases h2 : i = n
      · subst h2; cases hp : p i <;> simp
      · have h3 : ¬ i < n + 1 := by omega
        have h4 : i - n ≠ 0 := by omega
        cases p n
        · simp [h3]
        · simp only [if_true, h3, decide_false, Bool.false_and]
          exact Nat.testBit_lt_two_pow (Nat.lt_of_lt_of_le (by decide) (Nat.pow_le_pow_right (n := 2) (i := 1) (by decide) (by omega)))
theorem sumBits_eq {p : Nat → Bool} {n x : Nat} (hx : x < 2 ^ n) (h : ∀ i, i < n → p i = x.testBit i) : sumBits p n = x := by
  apply Nat.eq_of_testBit_eq
  intro i
  rw [testBit_sumBits]
  by_cases hi : i < n
  · simp [hi, h i hi]
  · simp [hi]
    exact Nat.testBit_lt_two_pow (Nat.lt_of_lt_of_le hx (Nat.pow_le_pow_right (by decide) (Nat.le_of_not_lt hi)))
/-- A tag's label. -/
def bit (t : Nat) : Nat := 2 ^ t
def join (a b : Nat) : Nat := a ||| b
def meet (a b : Nat) : Nat := a &&& b
/-- Does each bit of a stand in b? -/
def flows (a b : Nat) : Bool := (a ||| b) == b
theorem join_lt {a b : Nat} (ha : a < 18446744073709551616) (hb : b < 18446744073709551616) : join a b < 18446744073709551616 := Nat.or_lt_two_pow (n := 64) ha hb
theorem meet_lt {a b : Nat} (ha : a < 18446744073709551616) : meet a b < 18446744073709551616 := Nat.lt_of_le_of_lt Nat.and_le_left ha
theorem flows_iff (a b : Nat) : flows a b = true ↔ ∀ i, a.testBit i = true → b.testBit i = true := by
  unfold flows
  rw [beq_iff_eq]
  constructor
  · intro h i hi
    rw [← h, Nat.testBit_or, hi, Bool.true_or]
  · intro h
    apply Nat.eq_of_testBit_eq
    intro i
    rw [Nat.testBit_or]
    cases e : a.testBit i
    · simp
    · simp [h i e]
theorem testBit_high {x i : Nat} (hx : x < 18446744073709551616) (hi : 64 ≤ i) : x.testBit i = false :=
  Nat.testBit_lt_two_pow (Nat.lt_of_lt_of_le (show x < 2 ^ 64 from hx) (Nat.pow_le_pow_right (by decide) hi))
/-- The same, asked of the first 64 bits. -/
theorem flows_of_below {a b : Nat} (ha : a < 18446744073709551616) (h : ∀ i, i < 64 → a.testBit i = true → b.testBit i = true) : flows a b = true := by
  rw [flows_iff]
  intro i hi
  by_cases h64 : i < 64
  · exact h i h64 hi
  · rw [testBit_high ha (by omega)] at hi; cases hi
theorem flows_andNot {a b : Nat} (ha : a < 18446744073709551616) (hb : b < 18446744073709551616) : (a &&& (18446744073709551615 - b) == 0) = flows a b := by
  have e : ∀ i, (18446744073709551615 - b).testBit i = (decide (i < 64) && !b.testBit i) := by
    intro i
    have := Nat.testBit_two_pow_sub_succ (n := 64) (x := b) hb i
    rw [show (2 : Nat) ^ 64 - (b + 1) = 18446744073709551615 - b from by omega] at this
    exact this
  rw [Bool.eq_iff_iff, flows_iff, beq_iff_eq]
  constructor
  · intro h i hi
    have h1 : (a &&& (18446744073709551615 - b)).testBit i = false := by rw [h]; simp
    rw [Nat.testBit_and, hi, e, Bool.true_and] at h1
    by_cases h64 : i < 64
    · simpa [h64] using h1
    · rw [testBit_high ha (by omega)] at hi; cases hi
  · intro h
    apply Nat.eq_of_testBit_eq
    intro i
    rw [Nat.testBit_and, e, Nat.zero_testBit]
    cases hi : a.testBit i
    · simp
    · simp [h i hi]
theorem sum_join {a b : Nat} (ha : a < 18446744073709551616) (hb : b < 18446744073709551616) : sumBits (fun t => a.testBit t || b.testBit t) 64 = join a b :=
  sumBits_eq (join_lt ha hb) fun i _ => by simp [join]
theorem sum_meet {a b : Nat} (ha : a < 18446744073709551616) : sumBits (fun t => a.testBit t && b.testBit t) 64 = meet a b :=
  sumBits_eq (meet_lt ha) fun i _ => by simp [meet]

/-! ### The label of tags -/
def okTag (t : Int) : Bool := decide (0 ≤ t) && decide (t < 64)
/-- The join of the first tags' labels. -/
def orTags (zs : List Int) : Nat := zs.foldl (fun x t => x ||| 2 ^ t.toNat) 0
def ofNum (zs : List Int) : Nat := if zs.all okTag then orTags zs else 0
def ofOk (zs : List Int) : Bool := zs.all okTag
theorem orTags_snoc (zs : List Int) (t : Int) : orTags (zs ++ [t]) = orTags zs ||| 2 ^ t.toNat := by simp [orTags]
theorem bit_lt {t : Nat} (h : t < 64) : (2 : Nat) ^ t < 18446744073709551616 := Nat.lt_of_le_of_lt (Nat.pow_le_pow_right (by decide) (show t ≤ 63 by omega)) (by decide)
theorem orTags_lt (zs : List Int) (h : zs.all okTag = true) : orTags zs < 18446744073709551616 := by
  have : ∀ (l : List Int) (x : Nat), x < 18446744073709551616 → l.all okTag = true → l.foldl (fun x t => x ||| 2 ^ t.toNat) x < 18446744073709551616 := by
    intro l
    induction l with
    | nil => intro x hx _; exact hx
    | cons t l ih =>
      intro x hx ha
      simp only [List.all_cons, Bool.and_eq_true] at ha
      exact ih _ (Nat.or_lt_two_pow (n := 64) hx (bit_lt (by have := ha.1; simp [okTag] at this; omega))) ha.2
  exact this zs 0 (by decide) h
theorem take_snoc {zs : List Int} {k : Nat} (h : k < zs.length) : zs.take (k + 1) = zs.take k ++ [zs[k]] := List.take_succ_eq_append_getElem h
theorem all_take_succ {zs : List Int} {k : Nat} (h : k < zs.length) (ha : (zs.take k).all okTag = true) (ht : okTag zs[k] = true) : (zs.take (k + 1)).all okTag = true := by
  rw [take_snoc h, List.all_append, ha]; simp [ht]
theorem orTags_step {zs : List Int} {k : Nat} (h : k < zs.length) : orTags (zs.take (k + 1)) = orTags (zs.take k) ||| 2 ^ zs[k].toNat := by rw [take_snoc h, orTags_snoc]
theorem ofOk_bad {zs : List Int} {k : Nat} (h : k < zs.length) (ht : okTag zs[k] = false) : ofOk zs = false := by
  unfold ofOk
  rw [List.all_eq_false]
  exact ⟨zs[k], List.getElem_mem h, by simp [ht]⟩
theorem ofNum_bad {zs : List Int} {k : Nat} (h : k < zs.length) (ht : okTag zs[k] = false) : ofNum zs = 0 := by
  have := ofOk_bad h ht
  unfold ofOk at this
  simp [ofNum, this]
theorem ofNum_good {zs : List Int} (h : zs.all okTag = true) : ofNum zs = orTags zs := by simp [ofNum, h]
theorem ofNum_lt (zs : List Int) : ofNum zs < 18446744073709551616 := by
  unfold ofNum
  split
  · rename_i h; exact orTags_lt zs h
  · decide
/-- A bit that is not there yet is added. -/
theorem or_bit_new {x t : Nat} (h : x.testBit t = false) : x ||| 2 ^ t = x + 2 ^ t := by
  have hr : x % 2 ^ (t + 1) < 2 ^ t := by
    have h1 : x / 2 ^ t % 2 = 0 := by
      have := Nat.testBit_eq_decide_div_mod_eq (x := x) (i := t)
      rw [h] at this
      have := of_decide_eq_false this.symm
      omega
    have h2 : x % 2 ^ (t + 1) = x % 2 ^ t + 2 ^ t * (x / 2 ^ t % 2) := by rw [Nat.pow_succ, Nat.mod_mul]
    rw [h2, h1, Nat.mul_zero, Nat.add_zero]
    exact Nat.mod_lt _ (Nat.two_pow_pos t)
  have hp : (2 : Nat) ^ (t + 1) = 2 ^ t + 2 ^ t := by rw [Nat.pow_succ]; omega
  have ha := Nat.two_pow_add_eq_or_of_lt (show x % 2 ^ (t + 1) < 2 ^ (t + 1) by omega) (x / 2 ^ (t + 1))
  have hb := Nat.two_pow_add_eq_or_of_lt (show x % 2 ^ (t + 1) + 2 ^ t < 2 ^ (t + 1) by omega) (x / 2 ^ (t + 1))
  rw [← Nat.or_two_pow_eq_add_of_lt hr, ← Nat.or_assoc, ← ha, Nat.or_two_pow_eq_add_of_lt hr, ← Nat.add_assoc, Nat.div_add_mod] at hb
  exact hb.symm
theorem or_bit_old {x t : Nat} (h : x.testBit t = true) : x ||| 2 ^ t = x := by
  apply Nat.eq_of_testBit_eq
  intro i
  rw [Nat.testBit_or, Nat.testBit_two_pow]
  by_cases e : t = i
  · subst e; simp [h]
  · simp [e]

/-! ### The tags of a label, rising -/
def tags (l : Nat) : List Nat := (List.range 64).filter fun t => l.testBit t
theorem filter_first {p : Nat → Bool} {k : Nat} (hlt : ∀ i, i < k → p i = false) (hk : p k = true) (n : Nat) :
    (List.range n).filter p = (if k < n then [k] else []) ++ (List.range n).filter fun i => p i && (i != k) := by
  have none_ : ∀ (q : Nat → Bool) (m : Nat), (∀ i, i < m → q i = false) → (List.range m).filter q = [] := fun q m h => by
    rw [List.filter_eq_nil_iff]
    intro a ha
    simp [h a (List.mem_range.1 ha)]
  induction n with
  | zero => simp
  | succ n ih =>
    rw [List.range_succ, List.filter_append, List.filter_append]
    rcases Nat.lt_trichotomy n k with h | h | h
    · rw [ih, if_neg (by omega), if_neg (by omega)]
      simp [hlt n h]
    · subst h
      rw [none_ p n hlt, none_ _ n (fun i hi => by simp [hlt i hi]), if_pos (by omega)]
      simp [hk]
    · rw [ih, if_pos h, if_pos (by omega), List.append_assoc]
      congr 2
      simp [List.filter_cons, show n ≠ k by omega]
theorem testBit_form (k m i : Nat) : (2 ^ k * (2 * m + 1)).testBit i = if i < k + 1 then decide (k = i) else m.testBit (i - (k + 1)) := by
  have e : 2 ^ k * (2 * m + 1) = 2 ^ (k + 1) * m + 2 ^ k := by rw [Nat.pow_succ, Nat.mul_add, Nat.mul_one, Nat.mul_assoc]
  rw [e, Nat.testBit_two_pow_mul_add _ (by rw [Nat.pow_succ]; have := Nat.two_pow_pos k; omega), Nat.testBit_two_pow]
theorem testBit_pred (k m i : Nat) : (2 ^ k * (2 * m + 1) - 1).testBit i = if i < k + 1 then decide (i < k) else m.testBit (i - (k + 1)) := by
  have hp := Nat.two_pow_pos k
  have e : 2 ^ k * (2 * m + 1) - 1 = 2 ^ (k + 1) * m + (2 ^ k - 1) := by
    have : 2 ^ k * (2 * m + 1) = 2 ^ (k + 1) * m + 2 ^ k := by rw [Nat.pow_succ, Nat.mul_add, Nat.mul_one, Nat.mul_assoc]
    omega
  rw [e, Nat.testBit_two_pow_mul_add _ (by rw [Nat.pow_succ]; omega), Nat.testBit_two_pow_sub_one]
/-- The lowest tag ahead, and the rest. -/
theorem tags_step {l k m : Nat} (hl : l = 2 ^ k * (2 * m + 1)) (hk : k < 64) : tags l = k :: tags (l &&& (l - 1)) := by
  have h := filter_first (p := fun t => l.testBit t) (k := k) (fun i hi => by
    show l.testBit i = false
    rw [hl, testBit_form, if_pos (by omega)]; simp; omega) (by
    show l.testBit k = true
    rw [hl, testBit_form, if_pos (by omega)]; simp) 64
  unfold tags
  rw [h, if_pos hk]
  show k :: _ = _
  congr 1
  apply List.filter_congr
  intro i _
  rw [Nat.testBit_and]
  subst hl
  rw [testBit_form, testBit_pred]
  split
  · by_cases e : k = i
    · subst e; simp
    · simp [e]
  · have : (i != k) = true := by simp; omega
    simp [this]
theorem tags_zero : tags 0 = [] := by simp [tags]
theorem tags_lt (l : Nat) : ∀ t ∈ tags l, t < 64 := fun t ht => by
  simp only [tags, List.mem_filter, List.mem_range] at ht
  exact ht.1
theorem tags_len (l : Nat) : (tags l).length ≤ 64 := by
  have := List.length_filter_le (fun t => l.testBit t) (List.range 64)
  simpa [tags] using this
theorem and_pred_lt {l : Nat} (h : l ≠ 0) : l &&& (l - 1) < l := Nat.lt_of_le_of_lt Nat.and_le_right (by omega)
/-- The label of a label's tags is this label. -/
theorem orTags_tags {l : Nat} (hl : l < 18446744073709551616) : orTags ((tags l).map fun t : Nat => (t : Int)) = l := by
  have key : ∀ n, orTags (((List.range n).filter fun t => l.testBit t).map fun t : Nat => (t : Int)) = l % 2 ^ n := by
    intro n
    induction n with
    | zero => simp [orTags, Nat.mod_one]
    | succ n ih =>
      rw [List.range_succ, List.filter_append, List.map_append]
      cases h : l.testBit n
      · rw [List.filter_cons, if_neg (by simp [h])]
        simp only [List.filter_nil, List.map_nil, List.append_nil]
        rw [ih]
        have h1 : l / 2 ^ n % 2 = 0 := by
          have := Nat.testBit_eq_decide_div_mod_eq (x := l) (i := n)
          rw [h] at this
          have := of_decide_eq_false this.symm
          omega
        rw [Nat.pow_succ, Nat.mod_mul, h1, Nat.mul_zero, Nat.add_zero]
      · rw [List.filter_cons, if_pos (by simp [h])]
        simp only [List.filter_nil, List.map_cons, List.map_nil]
        rw [orTags_snoc, ih]
        have h1 : l / 2 ^ n % 2 = 1 := by
          have := Nat.testBit_eq_decide_div_mod_eq (x := l) (i := n)
          rw [h] at this
          exact of_decide_eq_true this.symm
        rw [Nat.pow_succ, Nat.mod_mul, h1, Nat.mul_one, Int.toNat_natCast, Nat.or_two_pow_eq_add_of_lt (Nat.mod_lt _ (Nat.two_pow_pos n))]
  rw [show tags l = (List.range 64).filter fun t => l.testBit t from rfl, key 64]
  exact Nat.mod_eq_of_lt hl
theorem ok_tags (l : Nat) : ((tags l).map fun t : Nat => (t : Int)).all okTag = true := by
  rw [List.all_eq_true]
  intro t ht
  obtain ⟨n, hn, rfl⟩ := List.mem_map.1 ht
  have := tags_lt l n hn
  simp [okTag]; omega

/-! ### The lattice -/
theorem join_comm (a b : Nat) : join a b = join b a := Nat.or_comm a b
theorem meet_comm (a b : Nat) : meet a b = meet b a := Nat.and_comm a b
theorem join_self (a : Nat) : join a a = a := Nat.or_self a
theorem meet_self (a : Nat) : meet a a = a := Nat.and_self a
theorem join_assoc (a b c : Nat) : join (join a b) c = join a (join b c) := Nat.or_assoc a b c
theorem meet_assoc (a b c : Nat) : meet (meet a b) c = meet a (meet b c) := Nat.and_assoc a b c
theorem join_meet (a b : Nat) : join a (meet a b) = a := by
  unfold join meet
  apply Nat.eq_of_testBit_eq; intro i
  rw [Nat.testBit_or, Nat.testBit_and]
  cases a.testBit i <;> simp
theorem meet_join (a b : Nat) : meet a (join a b) = a := by
  unfold join meet
  apply Nat.eq_of_testBit_eq; intro i
  rw [Nat.testBit_and, Nat.testBit_or]
  cases a.testBit i <;> simp
theorem flows_join_eq (a b : Nat) : (join a b == b) = flows a b := rfl
theorem flows_trans {a b c : Nat} (h1 : flows a b = true) (h2 : flows b c = true) : flows a c = true := by
  rw [flows_iff] at *
  exact fun i hi => h2 i (h1 i hi)
theorem meet_flows (a b : Nat) : flows (meet a b) a = true := by
  rw [flows_iff]; intro i hi
  unfold meet at hi
  rw [Nat.testBit_and] at hi
  simp at hi; exact hi.1
theorem flows_join (a b : Nat) : flows a (join a b) = true := by
  rw [flows_iff]; intro i hi
  unfold join
  rw [Nat.testBit_or, hi]; rfl
theorem join_zero (a : Nat) : join a 0 = a := Nat.or_zero a
theorem flows_more {x y a b : Nat} (h : flows x (join y a) = true) : flows x (join y (join a b)) = true := by
  refine flows_trans h ?_
  rw [← join_assoc]
  exact flows_join _ _
end Lab

/-
  What the small functions of scrimref01 and label compute, for every label: Has, Bit, Join, Meet, Flows.
-/
namespace Go.Proofs.YtfiefglagknclaaDoor
open Go.RowKit
set_option maxHeartbeats 400000
end Go.Proofs.YtfiefglagknclaaDoor

/-
  array.Total: the join of all labels of an array.
-/
namespace Go.Proofs.YtfiefglagknclaaDoor
open Go.RowKit Ar
set_option maxHeartbeats 1000000
set_option linter.unusedVariables false

end Go.Proofs.YtfiefglagknclaaDoor

/-
  The reference's Few of an array: some answer.
-/
namespace Go.Proofs.YtfiefglagknclaaDoor
open Go.RowKit Ar
set_option maxHeartbeats 1000000
set_option linter.unusedVariables false

def SomeLeft (w : World) (e : Ending) (w' : World) : Prop := ∃ r : Int, e = .returned (.int .i64 r) ∧ -140737488355328 ≤ r ∧ r ≤ 4000 ∧ Below w.heap.size w w'
def SomeBool (w : World) (e : Ending) (w' : World) : Prop := ∃ r : Bool, e = .returned (.bool r) ∧ Below w.heap.size w w'
theorem below_drewN {B : Nat} {a w : World} (h : Below B a w) (n : Nat) : Below B a (w.drewN n) := ⟨h.os, h.tape, h.output, h.size, h.block⟩

end Go.Proofs.YtfiefglagknclaaDoor

/-
  Numbers by the reference: scrimref04.Right. (Printed by wip/bin/gen_rat3.py.)
-/
namespace Go.Proofs.YtfiefglagknclaaDoor
open Go.RowKit Ar
set_option maxHeartbeats 4000000
set_option maxRecDepth 100000
set_option linter.unusedVariables false

def IntOK (n : Bool) (l : List Nat) (w : World) (x : Value) : Prop := ∃ v, x = .agg #[.bool n, v] ∧ ResL w v l
def TupOK (r : Rt.Nm × Int) (w : World) (x : Value) : Prop := ∃ t u, x = .tuple #[.agg #[.bool r.1.neg, t, u], .int .i64 r.2] ∧ IsRes w t r.1.top ∧ IsRes w u r.1.bot
def AggOK (r : Rt.Nm × Int) (w : World) (x : Value) : Prop := ∃ t u, x = .agg #[.bool r.1.neg, t, u] ∧ IsRes w t r.1.top ∧ IsRes w u r.1.bot
def ErOK (er : Int) (x : Value) : Prop := x = .int .i64 er
/-- A block of a number's three cells; with limbs behind them, if it is said. -/
def CellOK (r : Rt.Nm × Int) (lo : Nat) (said : Bool) (w : World) (x : Value) : Prop := ∃ g b A k c A' k' c', x = .pointer (some ⟨g, 0, none⟩) ∧ lo ≤ g ∧ w.heap[g]? = some (.cells #[.bool b, .slice A k c, .slice A' k' c'] 24 (0, 0)) ∧ (said = true → b = r.1.neg ∧ IsRes w (.slice A k c) r.1.top ∧ IsRes w (.slice A' k' c') r.1.bot)
theorem IntOK.below {n : Bool} {l : List Nat} {w w' : World} {x : Value} (h : IntOK n l w x) (hb : Below w.heap.size w w') : IntOK n l w' x := by
  obtain ⟨v, e, r⟩ := h; exact ⟨v, e, r.below hb⟩
theorem TupOK.below {r0 : Rt.Nm × Int} {w w' : World} {x : Value} (h : TupOK r0 w x) (hb : Below w.heap.size w w') : TupOK r0 w' x := by
  obtain ⟨t, u, e, r, r'⟩ := h; exact ⟨t, u, e, r.below hb, r'.below hb⟩
theorem AggOK.below {r0 : Rt.Nm × Int} {w w' : World} {x : Value} (h : AggOK r0 w x) (hb : Below w.heap.size w w') : AggOK r0 w' x := by
  obtain ⟨t, u, e, r, r'⟩ := h; exact ⟨t, u, e, r.below hb, r'.below hb⟩
theorem CellOK.below {r0 : Rt.Nm × Int} {lo : Nat} {said : Bool} {w w' : World} {x : Value} (h : CellOK r0 lo said w x) (hb : Below w.heap.size w w') : CellOK r0 lo said w' x := by
  obtain ⟨g, b, A, k, c, A', k', c', e, h1, h2, h3⟩ := h
  exact ⟨g, b, A, k, c, A', k', c', e, h1, (hb.block g (blk_lt h2)).trans h2, fun hs => by obtain ⟨e, r, r'⟩ := h3 hs; exact ⟨e, r.below hb, r'.below hb⟩⟩
theorem IntOK.setRow {n : Bool} {l : List Nat} {w : World} {x : Value} {g : Nat} {old : Array Value} {t : TypeId} (h : IntOK n l w x) (hg : w.heap[g]? = some (.cells old t (0, 0))) (ho : ∀ (i : Nat) (k : IntKind) (n : Int), old[i]? ≠ some (Value.int k n)) (cs : Array Value) : IntOK n l (w.setRow g cs) x := by
  obtain ⟨v, e, r⟩ := h; exact ⟨v, e, r.setRow hg ho cs⟩
theorem TupOK.setRow {r0 : Rt.Nm × Int} {w : World} {x : Value} {g : Nat} {old : Array Value} {t : TypeId} (h : TupOK r0 w x) (hg : w.heap[g]? = some (.cells old t (0, 0))) (ho : ∀ (i : Nat) (k : IntKind) (n : Int), old[i]? ≠ some (Value.int k n)) (cs : Array Value) : TupOK r0 (w.setRow g cs) x := by
  obtain ⟨t, u, e, r, r'⟩ := h; exact ⟨t, u, e, r.setRow hg ho cs, r'.setRow hg ho cs⟩
theorem AggOK.setRow {r0 : Rt.Nm × Int} {w : World} {x : Value} {g : Nat} {old : Array Value} {t : TypeId} (h : AggOK r0 w x) (hg : w.heap[g]? = some (.cells old t (0, 0))) (ho : ∀ (i : Nat) (k : IntKind) (n : Int), old[i]? ≠ some (Value.int k n)) (cs : Array Value) : AggOK r0 (w.setRow g cs) x := by
  obtain ⟨t, u, e, r, r'⟩ := h; exact ⟨t, u, e, r.setRow hg ho cs, r'.setRow hg ho cs⟩
/-- What holds while the operations of 'm, e := Make(Top(a), Bot(a))' come up. -/
structure GI (w : World) (N : Array Value) (N1 N2 : Bool) (D1 D2 : List Nat) (R : Rt.Nm × Int) (b0 b1 b2 b3 b4 b5 b6 b7 b8 b9 b10 : Bool) (x16 x17 x18 x19 x20 x15 x21 x22 x3 x4 : Value) (wx : World) : Prop where
  below : Below w.heap.size w wx
  v16 : b0 = true → x16 = .agg N
  v17 : b1 = true → IntOK N1 D1 wx x17
  v18 : b2 = true → x18 = .agg N
  v19 : b3 = true → IntOK N2 D2 wx x19
  v20 : b4 = true → TupOK R wx x20
  v15 : b5 = true → TupOK R wx x15
  v21 : b6 = true → AggOK R wx x21
  v22 : b7 = true → ErOK R.2 x22
  v3 : b8 = true → CellOK R w.heap.size b9 wx x3
  v4 : b10 = true → ErOK R.2 x4
  o9 : b9 = true → b8 = true
def frameG (g : Nat) (N : Array Value) (A : Option Addr) (k c : Nat) (A' : Option Addr) (k' c' : Nat) (x16 x17 x18 x19 x20 x15 x21 x22 x3 x4 : Value) : Act := { tmps := #[.agg N, .pointer (some ⟨g, 0, none⟩), .bool false, x3, x4, .pointer (some ⟨g, 1, none⟩), .slice A k c, .int .i64 (k : Int), .bool false, .bool false, .pointer (some ⟨g, 2, none⟩), .slice A' k' c', .int .i64 (k' : Int), .bool false, .bool false, x15, x16, x17, x18, x19, x20, x21, x22, undef, undef, undef, undef, undef, undef, undef], defers := [] }
def GInv (w : World) (g : Nat) (N : Array Value) (A : Option Addr) (k c : Nat) (A' : Option Addr) (k' c' : Nat) (N1 N2 : Bool) (D1 D2 : List Nat) (R : Rt.Nm × Int) (l : Array Bool) (a : Act) (wx : World) : Prop :=
  ∃ b0 b1 b2 b3 b4 b5 b6 b7 b8 b9 b10 x16 x17 x18 x19 x20 x15 x21 x22 x3 x4, l = #[b0, b1, b2, b3, b4, b5, b6, b7, b8, b9, b10] ∧ a = frameG g N A k c A' k' c' x16 x17 x18 x19 x20 x15 x21 x22 x3 x4 ∧ GI w N N1 N2 D1 D2 R b0 b1 b2 b3 b4 b5 b6 b7 b8 b9 b10 x16 x17 x18 x19 x20 x15 x21 x22 x3 x4 wx

theorem right_same (n : Bool) (t u : List Nat) (h1 : t.length ≤ 32) (h2 : u.length ≤ 32) : Rt.right ⟨n, t, u⟩ = (((Rt.mk n false (Nt.val t) (Nt.val u)).2 == 0) && sameNum n (Rt.mk n false (Nt.val t) (Nt.val u)).1.neg t (Rt.mk n false (Nt.val t) (Nt.val u)).1.top u (Rt.mk n false (Nt.val t) (Nt.val u)).1.bot) := by
  unfold Rt.right
  dsimp only
  rw [decide_eq_true h1, decide_eq_true h2, Bool.true_and, Bool.true_and]
  congr 1
  obtain ⟨⟨b, l, l'⟩, er⟩ := Rt.mk n false (Nt.val t) (Nt.val u)
  rw [Bool.eq_iff_iff]
  simp only [decide_eq_true_eq, sameNum, Bool.and_eq_true, beq_iff_eq, Rt.Nm.mk.injEq]
  constructor
  · rintro ⟨rfl, rfl, rfl⟩; exact ⟨⟨rfl, rfl⟩, rfl⟩
  · rintro ⟨⟨rfl, rfl⟩, rfl⟩; exact ⟨rfl, rfl, rfl⟩

theorem rright_any (n : Bool) (A : Option Addr) (t : List Nat) (c : Nat) (A' : Option Addr) (u : List Nat) (c' : Nat) (w : World) (h1 : IsRes w (.slice A t.length c) t) (h2 : IsRes w (.slice A' u.length c') u) (o1 : Nt.Ok t) (o2 : Nt.Ok u) :
    Calls Tryd.prog 8 #[.agg #[.bool n, .slice A t.length c, .slice A' u.length c']] w fun e w' => e = .returned (.bool (Rt.right ⟨n, t, u⟩)) ∧ Below w.heap.size w w' := by
  obtain ⟨W, hW⟩ : ∃ W, W = w.alloc (.cells #[.bool n, .slice A t.length c, .slice A' u.length c'] 24) := ⟨_, rfl⟩
  have hWs : W.heap.size = w.heap.size + 1 := by rw [hW]; simp
  have hWb : Below w.heap.size w W := by rw [hW]; exact (Below.refl _ _).alloc (Nat.le_refl _) _
  have hW0 : W.heap[w.heap.size]? = some (.cells #[.bool n, .slice A t.length c, .slice A' u.length c'] 24 (0, 0)) := by rw [hW]; exact heap_alloc_new _ _
  have HW := Lib.hid hW
  have HW0 := Lib.hid hW0
  have HR1 := Lib.hid h1
  have HR2 := Lib.hid h2
  clear hW hW0
  by_cases k1 : 32 < t.length
  · clear h1 h2
    go_enter Tryd.func8, Tryd.ntmps8
    go_wp2_with fail
    go_ret
    exact ⟨ret_bool (by unfold Rt.right; rw [show decide (t.length ≤ 32) = false from decide_eq_false (by omega)]; rfl), by rw [HW.out] at hWb; exact hWb⟩
  · by_cases k2 : 32 < u.length
    · clear h1 h2
      go_enter Tryd.func8, Tryd.ntmps8
      go_wp2_with fail
      go_ret
      exact ⟨ret_bool (by unfold Rt.right; rw [show decide (u.length ≤ 32) = false from decide_eq_false (by omega)]; simp), by rw [HW.out] at hWb; exact hWb⟩
    · have q1 : ResL w (.slice A t.length c) t := ⟨h1, o1, by omega⟩
      have q2 : ResL w (.slice A' u.length c') u := ⟨h2, o2, by omega⟩
      have TP := Lib.hid (fun (wx : World) (hx : Below W.heap.size W wx) => top_any n _ _ _ _ wx ((q1.below hWb).below hx) ((q2.below hWb).below hx))
      have BT := Lib.hid (fun (wx : World) (hx : Below W.heap.size W wx) => bot_any n _ _ _ _ wx ((q1.below hWb).below hx) ((q2.below hWb).below hx))
      have hd1 : decide ((32 : Int) < (t.length : Int)) = false := decide_eq_false (by omega)
      have hd2 : decide ((32 : Int) < (u.length : Int)) = false := decide_eq_false (by omega)
      have hWl : w.heap.size < W.heap.size := by omega
      have HRT : Hid (Rt.right ⟨n, t, u⟩ = (((Rt.mk n false (Nt.val t) (Nt.val u)).2 == 0) && sameNum n (Rt.mk n false (Nt.val t) (Nt.val u)).1.neg t (Rt.mk n false (Nt.val t) (Nt.val u)).1.top u (Rt.mk n false (Nt.val t) (Nt.val u)).1.bot)) := Lib.hid (right_same n t u (by omega) (by omega))
      have hMK : Rt.mk (Rt.nrm n (Nt.val t)) (Rt.nrm false (Nt.val u)) (Nt.val (Nt.digs (Nt.val t))) (Nt.val (Nt.digs (Nt.val u))) = Rt.mk n false (Nt.val t) (Nt.val u) := by rw [Nt.val_digs, Nt.val_digs, Rt.mk_nrm]
      generalize Rt.right ⟨n, t, u⟩ = RT at *
      generalize Rt.mk n false (Nt.val t) (Nt.val u) = R at *
      have HMK := Lib.hid hMK
      clear hMK
      clear h1 h2 q1 q2 hWs
      go_enter Tryd.func8, Tryd.ntmps8
      go_wp2_with fail
      rw [← HW.out]
      refine wp_region_any (by kernel_rfl) ?_
      refine wpAny_inv (GInv W w.heap.size #[.bool n, .slice A t.length c, .slice A' u.length c'] A t.length c A' u.length c' (Rt.nrm n (Nt.val t)) (Rt.nrm false (Nt.val u)) (Nt.digs (Nt.val t)) (Nt.digs (Nt.val u)) R) ?_ ?_ 11 _ _ _ (by decide) ⟨false, false, false, false, false, false, false, false, false, false, false, undef, undef, undef, undef, undef, undef, undef, undef, undef, undef, rfl, rfl, ⟨⟨rfl, rfl, rfl, Nat.le_refl _, fun _ _ => rfl⟩, nofun, nofun, nofun, nofun, nofun, nofun, nofun, nofun, nofun, nofun, nofun⟩⟩
      · rintro _ _ wx ⟨b0, b1, b2, b3, b4, b5, b6, b7, b8, b9, b10, x16, x17, x18, x19, x20, x15, x21, x22, x3, x4, rfl, rfl, hJ⟩ i hi
        obtain ⟨h8, hl, ha⟩ := ready_mem hi
        have h8' : i < 11 := h8
        clear h8 hi
        have hsz := hJ.below.size
        rcases (show i = 0 ∨ i = 1 ∨ i = 2 ∨ i = 3 ∨ i = 4 ∨ i = 5 ∨ i = 6 ∨ i = 7 ∨ i = 8 ∨ i = 9 ∨ i = 10 by omega) with rfl | rfl | rfl | rfl | rfl | rfl | rfl | rfl | rfl | rfl | rfl
        · refine wpOp_at rfl rfl ?_
          refine wp_load_row 24 (.tmp 1) rfl w.heap.size rfl 24 #[.bool n, .slice A t.length c, .slice A' u.length c'] (0, 0) _ ((hJ.below.block w.heap.size hWl).trans HW0.out) Tryd.underlying24 rfl num_info ?_
          exact ⟨true, b1, b2, b3, b4, b5, b6, b7, b8, b9, b10, _, x17, x18, x19, x20, x15, x21, x22, x3, x4, rfl, rfl, { hJ with v16 := fun _ => rfl }⟩
        · have h0 : b0 = true := by simpa [Region.binds] using ha
          subst h0
          obtain rfl := hJ.v16 rfl
          refine wpOp_at rfl rfl ?_
          unfold frameG Oper.wp
          go_simp
          refine ((TP.out _ hJ.below).mono ?_)
          rintro e w2 ⟨v3, rfl, hr3, hb2⟩
          exact ⟨true, true, b2, b3, b4, b5, b6, b7, b8, b9, b10, _, _, x18, x19, x20, x15, x21, x22, x3, x4, rfl, rfl, { hJ with
            below := hJ.below.trans (hb2.mono hsz)
            v17 := fun _ => ⟨v3, rfl, hr3⟩
            v19 := fun h => (hJ.v19 h).below hb2
            v20 := fun h => (hJ.v20 h).below hb2
            v15 := fun h => (hJ.v15 h).below hb2
            v21 := fun h => (hJ.v21 h).below hb2
            v3 := fun h => (hJ.v3 h).below hb2 }⟩
        · refine wpOp_at rfl rfl ?_
          refine wp_load_row 24 (.tmp 1) rfl w.heap.size rfl 24 #[.bool n, .slice A t.length c, .slice A' u.length c'] (0, 0) _ ((hJ.below.block w.heap.size hWl).trans HW0.out) Tryd.underlying24 rfl num_info ?_
          exact ⟨b0, b1, true, b3, b4, b5, b6, b7, b8, b9, b10, x16, x17, _, x19, x20, x15, x21, x22, x3, x4, rfl, rfl, { hJ with v18 := fun _ => rfl }⟩
        · have h0 : b2 = true ∧ b1 = true := by simpa [Region.binds] using ha
          obtain ⟨rfl, rfl⟩ := h0
          obtain rfl := hJ.v18 rfl
          refine wpOp_at rfl rfl ?_
          unfold frameG Oper.wp
          go_simp
          refine ((BT.out _ hJ.below).mono ?_)
          rintro e w2 ⟨v3, rfl, hr3, hb2⟩
          exact ⟨b0, true, true, true, b4, b5, b6, b7, b8, b9, b10, x16, x17, _, _, x20, x15, x21, x22, x3, x4, rfl, rfl, { hJ with
            below := hJ.below.trans (hb2.mono hsz)
            v19 := fun _ => ⟨v3, rfl, hr3⟩
            v17 := fun h => (hJ.v17 h).below hb2
            v20 := fun h => (hJ.v20 h).below hb2
            v15 := fun h => (hJ.v15 h).below hb2
            v21 := fun h => (hJ.v21 h).below hb2
            v3 := fun h => (hJ.v3 h).below hb2 }⟩
        · have h0 : b1 = true ∧ b3 = true := by simpa [Region.binds] using ha
          obtain ⟨rfl, rfl⟩ := h0
          obtain ⟨v1, rfl, r1⟩ := hJ.v17 rfl
          obtain ⟨v2, rfl, r2⟩ := hJ.v19 rfl
          have MK := make_any (Rt.nrm n (Nt.val t)) (Rt.nrm false (Nt.val u)) v1 v2 _ _ wx r1 r2
          rw [HMK.out] at MK
          refine wpOp_at rfl rfl ?_
          unfold frameG Oper.wp
          go_simp
          refine (MK.mono ?_)
          rintro e w2 ⟨t1, u1, rfl, k1, k2, hb2⟩
          exact ⟨b0, true, b2, true, true, b5, b6, b7, b8, b9, b10, x16, _, x18, _, _, x15, x21, x22, x3, x4, rfl, rfl, { hJ with
            below := hJ.below.trans (hb2.mono hsz)
            v20 := fun _ => ⟨t1, u1, rfl, k1, k2⟩
            v17 := fun h => (hJ.v17 h).below hb2
            v19 := fun h => (hJ.v19 h).below hb2
            v15 := fun h => (hJ.v15 h).below hb2
            v21 := fun h => (hJ.v21 h).below hb2
            v3 := fun h => (hJ.v3 h).below hb2 }⟩
        · have h0 : b4 = true := by simpa [Region.binds] using ha
          subst h0
          have hv := hJ.v20 rfl
          refine wpOp_at rfl rfl ?_
          unfold frameG Oper.wp
          go_simp
          exact ⟨b0, b1, b2, b3, true, true, b6, b7, b8, b9, b10, x16, x17, x18, x19, x20, _, x21, x22, x3, x4, rfl, rfl, { hJ with v15 := fun _ => hv }⟩
        · have h0 : b5 = true := by simpa [Region.binds] using ha
          subst h0
          obtain ⟨t1, u1, rfl, k1, k2⟩ := hJ.v15 rfl
          refine wpOp_at rfl rfl ?_
          unfold frameG Oper.wp
          go_simp
          exact ⟨b0, b1, b2, b3, b4, true, true, b7, b8, b9, b10, x16, x17, x18, x19, x20, _, _, x22, x3, x4, rfl, rfl, { hJ with v21 := fun _ => ⟨t1, u1, rfl, k1, k2⟩ }⟩
        · have h0 : b5 = true := by simpa [Region.binds] using ha
          subst h0
          obtain ⟨t1, u1, rfl, k1, k2⟩ := hJ.v15 rfl
          refine wpOp_at rfl rfl ?_
          unfold frameG Oper.wp
          go_simp
          exact ⟨b0, b1, b2, b3, b4, true, b6, true, b8, b9, b10, x16, x17, x18, x19, x20, _, x21, _, x3, x4, rfl, rfl, { hJ with v22 := fun _ => rfl }⟩
        · have hb8 : b8 = false := hl
          subst hb8
          have hb9 : b9 = false := by
            cases b9
            · rfl
            · exact absurd (hJ.o9 rfl) (by decide)
          subst hb9
          refine wpOp_at rfl rfl ?_
          unfold frameG Oper.wp
          go_simp
          have hba : Below wx.heap.size wx (wx.alloc (.cells #[.bool false, .slice none 0 0, .slice none 0 0] 24)) := (Below.refl _ _).alloc (Nat.le_refl _) _
          exact ⟨b0, b1, b2, b3, b4, b5, b6, b7, true, false, b10, x16, x17, x18, x19, x20, x15, x21, x22, _, x4, rfl, rfl, { hJ with
            below := hJ.below.alloc hsz _
            v3 := fun _ => ⟨wx.heap.size, false, none, 0, 0, none, 0, 0, rfl, hsz, heap_alloc_new _ _, nofun⟩
            v17 := fun h => (hJ.v17 h).below hba
            v19 := fun h => (hJ.v19 h).below hba
            v20 := fun h => (hJ.v20 h).below hba
            v15 := fun h => (hJ.v15 h).below hba
            v21 := fun h => (hJ.v21 h).below hba
            o9 := nofun }⟩
        · simp [Region.binds] at ha
          obtain ⟨rfl, rfl, rfl, rfl, rfl, rfl, rfl, -, rfl, -, -⟩ := ha
          have hb9 : b9 = false := hl
          subst hb9
          obtain ⟨g, b, A3, k3, c3, A4, k4, c4, rfl, q1, q2, q3⟩ := hJ.v3 rfl
          obtain ⟨t1, u1, rfl, r1, r2⟩ := hJ.v21 rfl
          have s17 := (hJ.v17 rfl).setRow q2 (three_no_int _ _ _ _ _ _ _) #[.bool R.1.neg, t1, u1]
          have s19 := (hJ.v19 rfl).setRow q2 (three_no_int _ _ _ _ _ _ _) #[.bool R.1.neg, t1, u1]
          have s20 := (hJ.v20 rfl).setRow q2 (three_no_int _ _ _ _ _ _ _) #[.bool R.1.neg, t1, u1]
          have s15 := (hJ.v15 rfl).setRow q2 (three_no_int _ _ _ _ _ _ _) #[.bool R.1.neg, t1, u1]
          have s21 := (hJ.v21 rfl).setRow q2 (three_no_int _ _ _ _ _ _ _) #[.bool R.1.neg, t1, u1]
          have r1' := r1.setRow q2 (three_no_int _ _ _ _ _ _ _) #[.bool R.1.neg, t1, u1]
          have r2' := r2.setRow q2 (three_no_int _ _ _ _ _ _ _) #[.bool R.1.neg, t1, u1]
          obtain ⟨A5, c5, rfl, -⟩ := r1
          obtain ⟨A6, c6, rfl, -⟩ := r2
          refine wpOp_at rfl rfl ?_
          refine wp_store_row 24 (.tmp 3) (.tmp 21) rfl g #[.bool R.1.neg, .slice A5 R.1.top.length c5, .slice A6 R.1.bot.length c6] rfl rfl 24 _ q2 num_info rfl (three_one _ _ _ _ _ _ _) ?_
          exact ⟨true, true, true, true, true, true, true, b7, true, true, b10, x16, x17, x18, x19, x20, x15, _, x22, _, x4, rfl, rfl, { hJ with
            below := rBelow.setRow hJ.below q1 _
            v17 := fun _ => s17
            v19 := fun _ => s19
            v20 := fun _ => s20
            v15 := fun _ => s15
            v21 := fun _ => s21
            v3 := fun _ => ⟨g, _, _, _, _, _, _, _, rfl, q1, rheap_same q2, fun _ => ⟨rfl, r1', r2'⟩⟩
            o9 := fun _ => rfl }⟩
        · simp [Region.binds] at ha
          have h7 : b7 = true := ha.1
          subst h7
          clear ha
          have hv := hJ.v22 rfl
          refine wpOp_at rfl rfl ?_
          unfold frameG Oper.wp
          go_simp
          exact ⟨b0, b1, b2, b3, b4, b5, b6, true, b8, b9, true, x16, x17, x18, x19, x20, x15, x21, x22, x3, _, rfl, rfl, { hJ with v4 := fun _ => hv }⟩
      · rintro _ _ wx ⟨b0, b1, b2, b3, b4, b5, b6, b7, b8, b9, b10, x16, x17, x18, x19, x20, x15, x21, x22, x3, x4, rfl, rfl, hJ⟩ hr
        have e0 : b0 = true := ready_nil' hr 0 (by decide) (by simp [Region.binds])
        subst e0
        have e1 : b1 = true := ready_nil' hr 1 (by decide) (by simp [Region.binds])
        subst e1
        have e2 : b2 = true := ready_nil' hr 2 (by decide) (by simp [Region.binds])
        subst e2
        have e3 : b3 = true := ready_nil' hr 3 (by decide) (by simp [Region.binds])
        subst e3
        have e4 : b4 = true := ready_nil' hr 4 (by decide) (by simp [Region.binds])
        subst e4
        have e5 : b5 = true := ready_nil' hr 5 (by decide) (by simp [Region.binds])
        subst e5
        have e6 : b6 = true := ready_nil' hr 6 (by decide) (by simp [Region.binds])
        subst e6
        have e7 : b7 = true := ready_nil' hr 7 (by decide) (by simp [Region.binds])
        subst e7
        have e8 : b8 = true := ready_nil' hr 8 (by decide) (by simp [Region.binds])
        subst e8
        have e9 : b9 = true := ready_nil' hr 9 (by decide) (by simp [Region.binds])
        subst e9
        have e10 : b10 = true := ready_nil' hr 10 (by decide) (by simp [Region.binds])
        subst e10
        clear hr
        obtain ⟨g, b, A3, k3, c3, A4, k4, c4, rfl, q1, q2, q3⟩ := hJ.v3 rfl
        obtain ⟨hbe, r1, r2⟩ := q3 rfl
        subst hbe
        obtain ⟨⟨b, l, l'⟩, er⟩ := R
        dsimp only at r1 r2 HRT
        obtain rfl := hJ.v4 rfl
        have hxb := hJ.below
        have hxs := hxb.size
        have hxw := hWb.trans (hxb.mono (by omega))
        have hw0 := (hxb.block w.heap.size hWl).trans HW0.out
        have hgl := blk_lt q2
        have i1 : k3 = l.length := by obtain ⟨_, _, e, _⟩ := r1; injection e
        have i2 : k4 = l'.length := by obtain ⟨_, _, e, _⟩ := r2; injection e
        subst i1 i2
        have p0 : wx.cell? ⟨g, 0, none⟩ = some (.bool b) := (cell_of_row wx g 0 _ _ _ q2).trans rfl
        have p1 : wx.cell? ⟨g, 1, none⟩ = some (.slice A3 l.length c3) := (cell_of_row wx g 1 _ _ _ q2).trans rfl
        have p2 : wx.cell? ⟨g, 2, none⟩ = some (.slice A4 l'.length c4) := (cell_of_row wx g 2 _ _ _ q2).trans rfl
        have z0 : wx.cell? ⟨w.heap.size, 0, none⟩ = some (.bool n) := (cell_of_row wx w.heap.size 0 _ _ _ hw0).trans rfl
        have z1 : wx.cell? ⟨w.heap.size, 1, none⟩ = some (.slice A t.length c) := (cell_of_row wx w.heap.size 1 _ _ _ hw0).trans rfl
        have z2 : wx.cell? ⟨w.heap.size, 2, none⟩ = some (.slice A' u.length c') := (cell_of_row wx w.heap.size 2 _ _ _ hw0).trans rfl
        have SM : Hid (Calls Tryd.prog 13 #[.agg #[.bool n, .slice A t.length c, .slice A' u.length c'], .agg #[.bool b, .slice A3 l.length c3, .slice A4 l'.length c4]] wx fun e w' => e = .returned (.bool (sameNum n b t l u l')) ∧ Below wx.heap.size wx w') := Lib.hid (by
          obtain ⟨_, _, e, y1, y2, y3, y4⟩ := HR1.out
          injection e with e1 e2 e3
          subst e1 e3
          obtain ⟨_, _, e, y5, y6, y7, y8⟩ := HR2.out
          injection e with e1 e2 e3
          subst e1 e3
          obtain ⟨_, _, e, x1, x2, x3, x4⟩ := r1
          injection e with e1 e2 e3
          subst e1 e3
          obtain ⟨_, _, e, x5, x6, x7, x8⟩ := r2
          injection e with e1 e2 e3
          subst e1 e3
          exact refRatioSame_any n b t l u l' A A' A3 A4 c c' c3 c4 wx wx.heap.size ((y4.below hxw).more hxw.size) x4 ((y8.below hxw).more hxw.size) x8 (Nat.le_refl _) (by omega) (by omega) (by omega) (by omega))
        generalize sameNum n b t l u l' = SN at SM HRT
        clear hJ q2 q3 r1 r2 hw0
        unfold frameG
        cases he : (er == 0)
        · rw [he] at HRT
          go_wp2_with fail
          go_ret
          exact ⟨ret_bool (by rw [HRT.out]; rfl), hxw⟩
        · rw [he] at HRT
          go_wp2_with fail
          refine SM.out.mono ?_
          rintro e w2 ⟨rfl, hb2⟩
          go_wp2_with fail
          go_ret
          exact ⟨ret_bool (by rw [HRT.out]; rfl), hxw.trans (hb2.mono hxw.size)⟩
end Go.Proofs.YtfiefglagknclaaDoor

/-
  Records and configurations in memory.
-/
namespace Go.Proofs.YtfiefglagknclaaDoor
open Go.RowKit Ar
set_option linter.unusedVariables false

structure Rec where
  kind : Int
  port : Int
  frm : Nat
  to : Nat
  cls : Int
  v : Arr
def recV (r : Rec) (S' : Nat) (X : Option Addr) (n c : Nat) (X' : Option Addr) (n' c' : Nat) : List Value :=
  [.int .i64 r.kind, .int .i64 r.port, .int .u64 (r.frm : Int), .int .u64 (r.to : Int), .int .i64 r.cls, .int .u64 (S' : Int), .slice X n c, .slice X' n' c']
def IsRec (w : World) (B : Nat) (r : Rec) (vs : List Value) : Prop :=
  ∃ S' X n c X' n' c', vs = recV r S' X n c X' n' c' ∧ IsArr w B r.v [.int .u64 (S' : Int), .slice X n c, .slice X' n' c'] ∧ r.frm < 18446744073709551616 ∧ r.to < 18446744073709551616 ∧ Wf64 [r.kind, r.port, r.cls]
def IsRecs (w : World) (B : Nat) : List Rec → List Value → Prop
  | [], vs => vs = []
  | c :: r, vs => ∃ u t, vs = u ++ t ∧ IsRec w B c u ∧ IsRecs w B r t
theorem IsRec.len {w : World} {B : Nat} {r : Rec} {vs : List Value} (h : IsRec w B r vs) : vs.length = 8 := by
  obtain ⟨_, _, _, _, _, _, _, rfl, _⟩ := h; rfl
theorem IsRec.keep {w w' : World} {B B' : Nat} (hk : ∀ p : Addr, p.block < B → w'.cell? p = w.cell? p) (hB : B ≤ B') {r : Rec} {vs : List Value} (h : IsRec w B r vs) : IsRec w' B' r vs := by
  obtain ⟨S', X, n, c, X', n', c', h1, h2, h3⟩ := h
  exact ⟨S', X, n, c, X', n', c', h1, IsArr.keep hk hB _ _ h2, h3⟩
theorem IsRecs.keep {w w' : World} {B B' : Nat} (hk : ∀ p : Addr, p.block < B → w'.cell? p = w.cell? p) (hB : B ≤ B') : ∀ {rs : List Rec} {vs : List Value}, IsRecs w B rs vs → IsRecs w' B' rs vs
  | [], _, h => h
  | _ :: _, _, ⟨u, t, h1, h2, h3⟩ => ⟨u, t, h1, h2.keep hk hB, h3.keep hk hB⟩
theorem IsRecs.below {w w' : World} {B : Nat} {rs : List Rec} {vs : List Value} (h : IsRecs w B rs vs) (hb : Below B w w') : IsRecs w' B rs vs := h.keep (fun _ hp => hb.cell hp) (Nat.le_refl _)
theorem IsRecs.len {w : World} {B : Nat} : ∀ {rs : List Rec} {vs : List Value} (h : IsRecs w B rs vs), vs.length = 8 * rs.length
  | [], _, h => by rw [IsRecs] at h; subst h; rfl
  | c :: r, vs, h => by
    rw [IsRecs] at h
    obtain ⟨u, t, rfl, h2, h3⟩ := h
    rw [List.length_append, h2.len, h3.len, List.length_cons]; omega
theorem IsRecs.at_ {w : World} {B : Nat} : ∀ {rs : List Rec} {vs : List Value} (h : IsRecs w B rs vs) {k : Nat} (hk : k < rs.length), ∃ u, IsRec w B rs[k] u ∧ u = (vs.drop (8 * k)).take 8
  | [], _, _, _, hk => by simp at hk
  | c :: r, vs, h, 0, _ => by
    rw [IsRecs] at h
    obtain ⟨u, t, rfl, h2, h3⟩ := h
    exact ⟨u, h2, by simp [h2.len]⟩
  | c :: r, vs, h, k + 1, hk => by
    rw [IsRecs] at h
    obtain ⟨u, t, rfl, h2, h3⟩ := h
    obtain ⟨u', h4, h5⟩ := h3.at_ (k := k) (by simpa using hk)
    refine ⟨u', h4, h5.trans ?_⟩
    rw [show 8 * (k + 1) = u.length + 8 * k by rw [h2.len]; omega, List.drop_append, List.drop_eq_nil_of_le (Nat.le_add_right _ _), Nat.add_sub_cancel_left, List.nil_append]
theorem IsRecs.snoc {w : World} {B : Nat} : ∀ {cs : List Rec} {vs : List Value} (h : IsRecs w B cs vs) {c : Rec} {u : List Value} (hc : IsRec w B c u), IsRecs w B (cs ++ [c]) (vs ++ u)
  | [], vs, h, c, u, hc => by
    rw [IsRecs] at h; subst h
    exact ⟨u, [], by simp, hc, rfl⟩
  | x :: r, vs, h, c, u, hc => by
    rw [IsRecs] at h
    obtain ⟨u', t, rfl, h2, h3⟩ := h
    exact ⟨u', t ++ u, by simp, h2, h3.snoc hc⟩
/-- The k-th record, read. -/
theorem rec_at {w wr : World} {B : Nat} {A : Option Addr} {rs : List Rec} {us : List Value} {k : Nat} (hcs : IsRecs w B rs us) (hl : Lies w B A us) (hk : ∀ p : Addr, p.block < B → wr.cell? p = w.cell? p) (hlt : k < rs.length) :
    ∃ (b off : Nat) (r : Rec) (S' : Nat) (X : Option Addr) (n c : Nat) (X' : Option Addr) (n' c' : Nat), A = some ⟨b, off, none⟩ ∧ b < B ∧ Hid (rs[k] = r) ∧ r.frm < 18446744073709551616 ∧ r.to < 18446744073709551616 ∧ Hid (IsArr w B r.v [.int .u64 (S' : Int), .slice X n c, .slice X' n' c'] ∧ Wf64 [r.kind, r.port, r.cls]) ∧
      wr.cell? ⟨b, off + k * 8, none⟩ = some (.int .i64 r.kind) ∧ wr.cell? ⟨b, off + k * 8 + 1, none⟩ = some (.int .i64 r.port) ∧ wr.cell? ⟨b, off + k * 8 + 2, none⟩ = some (.int .u64 (r.frm : Int)) ∧ wr.cell? ⟨b, off + k * 8 + 3, none⟩ = some (.int .u64 (r.to : Int)) ∧ wr.cell? ⟨b, off + k * 8 + 4, none⟩ = some (.int .i64 r.cls) ∧
      wr.cell? ⟨b, off + k * 8 + 5, none⟩ = some (.int .u64 (S' : Int)) ∧ wr.cell? ⟨b, off + k * 8 + 6, none⟩ = some (.slice X n c) ∧ wr.cell? ⟨b, off + k * 8 + 7, none⟩ = some (.slice X' n' c') := by
  obtain ⟨u, hu, hue⟩ := hcs.at_ hlt
  obtain ⟨b, off, rfl, hb, hcell⟩ := hl.elem hue (by intro h; have := hu.len; rw [h] at this; cases this)
  obtain ⟨S', X, n, c, X', n', c', rfl, h1, h2, h3, h4⟩ := hu
  have hc : ∀ j v, (recV rs[k] S' X n c X' n' c')[j]? = some v → wr.cell? ⟨b, off + k * 8 + j, none⟩ = some v := fun j v hv => (hk ⟨b, off + k * 8 + j, none⟩ hb).trans (hcell j v hv)
  exact ⟨b, off, rs[k], S', X, n, c, X', n', c', rfl, hb, Lib.hid rfl, h2, h3, Lib.hid ⟨h1, h4⟩, hc 0 _ rfl, hc 1 _ rfl, hc 2 _ rfl, hc 3 _ rfl, hc 4 _ rfl, hc 5 _ rfl, hc 6 _ rfl, hc 7 _ rfl⟩

/-- The plain part of a configuration: what it lets, and what it brings. -/
structure Cfg where
  clear : Nat → Nat
  label : Nat → Nat
  ins : Nat → List Arr
  draws : Nat → List Int
  auth : Nat
  fuel : Int
  quota : Int
  depth : Int
/-- Thirty-six cells hold a configuration. -/
structure IsCfg (w : World) (B : Nat) (c : Cfg) (C : Array Value) : Prop where
  size : C.size = 36
  clear : ∀ k, k < 8 → C[k]? = some (.int .u64 (c.clear k : Int)) ∧ c.clear k < 18446744073709551616
  ins : ∀ k, k < 8 → ∃ A cp us, C[8 + k]? = some (.slice A (c.ins k).length cp) ∧ Fits (c.ins k).length cp 56 ∧ Lies w B A us ∧ IsArrs w B (c.ins k) us
  label : ∀ k, k < 8 → C[16 + k]? = some (.int .u64 (c.label k : Int)) ∧ c.label k < 18446744073709551616
  draws : ∀ k, k < 8 → ∃ A cp, C[24 + k]? = some (.slice A (c.draws k).length cp) ∧ Fits (c.draws k).length cp 8 ∧ Wf64 (c.draws k) ∧ Lies w B A (I64 (c.draws k))
  auth : C[32]? = some (.int .u64 (c.auth : Int))
  authLt : c.auth < 18446744073709551616
  fuel : C[33]? = some (.int .i64 c.fuel)
  quota : C[34]? = some (.int .i64 c.quota)
  depth : C[35]? = some (.int .i64 c.depth)
  wf : Wf64 [c.fuel, c.quota, c.depth]
theorem IsCfg.keep {w w' : World} {B B' : Nat} {c : Cfg} {C : Array Value} (h : IsCfg w B c C) (hk : ∀ p : Addr, p.block < B → w'.cell? p = w.cell? p) (hB : B ≤ B') : IsCfg w' B' c C :=
  { h with
    ins := fun k hk8 => by
      obtain ⟨A, cp, us, h1, h2, h3, h4⟩ := h.ins k hk8
      exact ⟨A, cp, us, h1, h2, (h3.keep hk).more hB, IsArrs.keep hk hB _ _ h4⟩
    draws := fun k hk8 => by
      obtain ⟨A, cp, h1, h2, h3, h4⟩ := h.draws k hk8
      exact ⟨A, cp, h1, h2, h3, (h4.keep hk).more hB⟩ }
theorem IsCfg.below {w w' : World} {B : Nat} {c : Cfg} {C : Array Value} (h : IsCfg w B c C) (hb : Below B w w') : IsCfg w' B c C := h.keep (fun _ hp => hb.cell hp) (Nat.le_refl _)
theorem IsCfg.one {w : World} {B : Nat} {c : Cfg} {C : Array Value} (h : IsCfg w B c C) : C.all (·.oneCell') = true := by
  rw [Array.all_eq_true]
  intro i hi
  have hs := h.size
  have hx : C[i]? = some C[i] := by simp [hi]
  have key : ∀ v, C[i]? = some v → v.oneCell' = true → C[i].oneCell' = true := fun v hv ho => by
    rw [hx] at hv; injection hv with hv; rw [hv]; exact ho
  by_cases h1 : i < 8
  · exact key _ (h.clear i h1).1 rfl
  · by_cases h2 : i < 16
    · obtain ⟨A, cp, us, e, _⟩ := h.ins (i - 8) (by omega)
      rw [show 8 + (i - 8) = i by omega] at e
      exact key _ e rfl
    · by_cases h3 : i < 24
      · have e := (h.label (i - 16) (by omega)).1
        rw [show 16 + (i - 16) = i by omega] at e
        exact key _ e rfl
      · by_cases h4 : i < 32
        · obtain ⟨A, cp, e, _⟩ := h.draws (i - 24) (by omega)
          rw [show 24 + (i - 24) = i by omega] at e
          exact key _ e rfl
        · rcases (show i = 32 ∨ i = 33 ∨ i = 34 ∨ i = 35 by omega) with rfl | rfl | rfl | rfl
          · exact key _ h.auth rfl
          · exact key _ h.fuel rfl
          · exact key _ h.quota rfl
          · exact key _ h.depth rfl
end Go.Proofs.YtfiefglagknclaaDoor

/-
  Arrays that came in, opened: what the row reads of an argument, as a tree in memory.
-/
namespace Go.Proofs.YtfiefglagknclaaDoor
open Go.ChangeShapes Go.WideShapes Go.ChangeAt Go.RowKit Ar
set_option linter.unusedVariables false

theorem addr_add2 (a : Addr) (n m : Nat) : (a.add n).add m = a.add (n + m) := by
  unfold Addr.add
  by_cases hn : n = 0
  · subst hn; simp
  · by_cases hm : m = 0
    · subst hm; simp
    · simp [hn, hm, Nat.add_assoc]
theorem addr_add_add {w : World} {a : Addr} {n m : Nat} {v : Value} (h : w.cell? ((a.add n).add m) = some v) : w.cell? (a.add (n + m)) = some v := by rwa [addr_add2] at h

section
variable {H : Type} {enc : TypeId × Value → H} {P : Program} {w : World} {base : Nat} {held : Bool} {fuel : Nat} {t e : TypeId} {cs : List Value} {x : DataW H × List MemPlace}

/-- A slice, opened: its cells in a row, its elements each read. -/
theorem slice_open {sz bytes : Nat} (ht : P.underlying t = some (.slice e)) (hz : P.cellsOf e = sz) (hp : 0 < sz) (hb : P.bytesOf e = bytes)
    (h : DataW.trod enc P w base (fun _ => true) held fuel t cs = some x) (hs : ∀ n ∈ x.1.weights P t, n ≤ reachBytes) :
    ∃ (A : Option Addr) (len cap : Nat) (us : List Value) (m : Nat), fuel = m + 1 ∧ cs = [.slice A len cap] ∧ Fits len cap bytes ∧ Lies w w.heap.size A us ∧ us.length = sz * len ∧
      ∀ i, i < len → ∃ y, DataW.trod enc P w base (fun _ => true) held m e ((us.drop (sz * i)).take sz) = some y ∧ ∀ n ∈ y.1.weights P e, n ≤ reachBytes := by
  rcases DataW.trod_slice ht h with ⟨rfl, rfl⟩ | ⟨a, len, cap, elems, rest, m, rfl, rfl, rfl, _, hl, hc, hle, hel, hsp, _⟩
  · cases fuel with
    | zero => simp [DataW.trod] at h
    | succ m => exact ⟨none, 0, 0, [], m, rfl, rfl, ⟨Nat.le_refl _, by omega, by omega⟩, .inl rfl, by simp, fun i hi => by omega⟩
  · obtain ⟨hr, _⟩ := hsp rfl
    rw [hz] at hel
    have hw : (elems.length + rest.length) * P.bytesOf e ≤ reachBytes := hs _ (by simp [DataW.weights, ht])
    have hfit : Fits len cap bytes := by
      rw [hb, hle, hr, show len + (cap - len) = cap by omega] at hw
      have hw2 : cap * bytes ≤ 140737488351232 := by simpa [reachBytes] using hw
      exact ⟨hl, Nat.le_trans (Nat.mul_le_mul_right _ hl) hw2, by unfold maxLen at hc; omega⟩
    have hcell : ∀ i, i < len → ∃ ci y, w.cells? base (a.add (i * sz)) sz = some ci ∧ DataW.trod enc P w base (fun _ => true) held m e ci = some y ∧ elems[i]? = some y := fun i hi => by
      have h1 := hel i hi
      have h2 : elems[i]? = some (elems[i]'(by omega)) := List.getElem?_eq_getElem (by omega)
      rw [h2] at h1
      cases hci : w.cells? base (a.add (i * sz)) sz with
      | none => rw [hci] at h1; cases h1
      | some ci => rw [hci] at h1; exact ⟨ci, _, rfl, h1, h2⟩
    obtain ⟨us, hus⟩ : ∃ us : List Value, us = (List.range (sz * len)).map fun j => (w.cell? (a.add j)).getD default := ⟨_, rfl⟩
    have hlen : us.length = sz * len := by rw [hus]; simp
    have hat : ∀ i q, i < len → q < sz → ∃ v, w.cell? (a.add (i * sz + q)) = some v ∧ us[sz * i + q]? = some v := fun i q hi hq => by
      obtain ⟨ci, y, h1, _, _⟩ := hcell i hi
      obtain ⟨_, h2, h3⟩ := World.cells?_some h1
      have h4 := h3 q hq
      rw [List.getElem?_eq_getElem (by omega)] at h4
      have h5 := addr_add_add h4
      refine ⟨_, h5, ?_⟩
      have hlt : sz * i + q < sz * len := by
        have := Nat.mul_le_mul_left sz (show i + 1 ≤ len by omega)
        rw [Nat.mul_add, Nat.mul_one] at this; omega
      rw [hus, List.getElem?_map, List.getElem?_range hlt, Option.map_some, Nat.mul_comm sz i, h5]; rfl
    refine ⟨some a, len, cap, us, m, rfl, rfl, hfit, lies_of_cells fun j v hv => ?_, hlen, fun i hi => ?_⟩
    · have hj : j < sz * len := by rw [← hlen]; exact (List.getElem?_eq_some_iff.1 hv).1
      obtain ⟨v', h1, h2⟩ := hat (j / sz) (j % sz) (Nat.div_lt_of_lt_mul hj) (Nat.mod_lt _ hp)
      rw [Nat.div_add_mod, hv] at h2
      rw [Nat.mul_comm, Nat.div_add_mod] at h1
      rw [h1, ← h2]
    · obtain ⟨ci, y, h1, h2, h3⟩ := hcell i hi
      obtain ⟨_, h4, h5⟩ := World.cells?_some h1
      have hlt : sz * i + sz ≤ sz * len := by
        have := Nat.mul_le_mul_left sz (show i + 1 ≤ len by omega)
        rwa [Nat.mul_add, Nat.mul_one] at this
      have he : (us.drop (sz * i)).take sz = ci := by
        apply List.ext_getElem?
        intro q
        rw [List.getElem?_take]
        by_cases hq : q < sz
        · rw [if_pos hq, List.getElem?_drop]
          obtain ⟨v, h6, h7⟩ := hat i q hi hq
          rw [h7, ← h5 q hq]
          have h8 := h5 q hq
          rw [List.getElem?_eq_getElem (by omega)] at h8
          have h9 := addr_add_add h8
          rw [h8, ← h9, h6]
        · rw [if_neg hq, List.getElem?_eq_none (by omega)]
      rw [he]
      refine ⟨y, h2, fun n hn => hs n ?_⟩
      have hy : y.1 ∈ elems.map (·.1) := List.mem_map.2 ⟨y, List.mem_of_getElem? h3, rfl⟩
      simp only [DataW.weights, ht, List.mem_cons, List.mem_append]
      refine .inr (.inl ?_)
      clear hs
      generalize elems.map (·.1) = l at hy
      induction l with
      | nil => cases hy
      | cons d r ih =>
        rw [DataW.weightsAll, List.mem_append]
        rcases List.mem_cons.1 hy with rfl | hy
        · exact .inl hn
        · exact .inr (ih hy)

theorem slice_nil {A : Option Addr} {len cap : Nat} (ht : P.underlying t = some (.slice e)) (h : DataW.trod enc P w base (fun _ => true) held fuel t [.slice A len cap] = some x) : A = none → cap = 0 := by
  intro hA
  rcases DataW.trod_slice ht h with ⟨h1, _⟩ | ⟨a, len', cap', elems, rest, m, _, h1, _⟩
  · simp at h1; exact h1.2.2
  · simp at h1; rw [hA] at h1; cases h1.1
/-- A slice of integers. -/
theorem ints_open {bytes : Nat} {k : IntKind} (ht : P.underlying t = some (.slice e)) (he : P.underlying e = some (.int k)) (hz : P.cellsOf e = 1) (hb : P.bytesOf e = bytes)
    (h : DataW.trod enc P w base (fun _ => true) held fuel t cs = some x) (hs : ∀ n ∈ x.1.weights P t, n ≤ reachBytes) :
    ∃ (A : Option Addr) (cap : Nat) (zs : List Int), cs = [.slice A zs.length cap] ∧ Fits zs.length cap bytes ∧ Lies w w.heap.size A (zs.map (Value.int k)) ∧ (∀ n ∈ zs, (Lit.int k n).wf = true) ∧ (A = none → cap = 0) := by
  obtain ⟨A, len, cap, us, m, rfl, rfl, hf, hl, hlen, hel⟩ := slice_open ht hz (by omega) hb h hs
  have key : ∃ zs : List Int, us = zs.map (Value.int k) ∧ ∀ n ∈ zs, (Lit.int k n).wf = true := by
    have h1 : ∀ v ∈ us, ∃ n, v = Value.int k n ∧ (Lit.int k n).wf = true := fun v hv => by
      obtain ⟨i, hi, rfl⟩ := List.mem_iff_getElem.1 hv
      obtain ⟨y, hy, _⟩ := hel i (by omega)
      obtain ⟨n, h2, _, h3⟩ := DataW.trod_int he hy
      rw [Nat.one_mul, List.drop_eq_getElem_cons hi, List.take_succ_cons, List.take_zero] at h2
      exact ⟨n, (List.cons.inj h2).1, h3⟩
    clear hel hlen hl hs h
    induction us with
    | nil => exact ⟨[], rfl, by simp⟩
    | cons v r ih =>
      obtain ⟨zs, rfl, h2⟩ := ih (fun v hv => h1 v (List.mem_cons_of_mem _ hv))
      obtain ⟨n, rfl, h3⟩ := h1 v List.mem_cons_self
      exact ⟨n :: zs, rfl, fun q hq => (List.mem_cons.1 hq).elim (fun e => e ▸ h3) (h2 q)⟩
  obtain ⟨zs, rfl, hwf⟩ := key
  have hn : zs.length = len := by simpa using hlen
  subst hn
  exact ⟨A, cap, zs, rfl, hf, hl, hwf, slice_nil ht h⟩
end
theorem nats_of {k : IntKind} {zs : List Int} {top : Nat} (hb : ∀ n, (Lit.int k n).wf = true → 0 ≤ n ∧ n < top) (h : ∀ n ∈ zs, (Lit.int k n).wf = true) : ∃ ns : List Nat, zs = ns.map (fun n : Nat => (n : Int)) ∧ ∀ n ∈ ns, n < top := by
  induction zs with
  | nil => exact ⟨[], rfl, by simp⟩
  | cons z r ih =>
    obtain ⟨ns, rfl, h2⟩ := ih (fun n hn => h n (List.mem_cons_of_mem _ hn))
    have := hb z (h z List.mem_cons_self)
    exact ⟨z.toNat :: ns, by simp; omega, fun q hq => (List.mem_cons.1 hq).elim (fun e => by omega) (h2 q)⟩
theorem bd64 (n : Int) (h : (Lit.int .i64 n).wf = true) : -9223372036854775808 ≤ n ∧ n ≤ 9223372036854775807 := bounds_i64 h
theorem bdu64 (n : Int) (h : (Lit.int .u64 n).wf = true) : ∃ m : Nat, n = (m : Int) ∧ m < 18446744073709551616 := by
  have := bounds_u64 h; exact ⟨n.toNat, by omega, by omega⟩
theorem isCels_of {w : World} {B : Nat} : ∀ (len : Nat) (us : List Value), us.length = 7 * len → (∀ i, i < len → ∃ c, IsCel w B c ((us.drop (7 * i)).take 7)) → ∃ cs : List Cel, cs.length = len ∧ IsCels w B cs us
  | 0, us, h, _ => ⟨[], rfl, by rw [IsCels]; exact List.eq_nil_of_length_eq_zero (by omega)⟩
  | n + 1, us, h, hc => by
    obtain ⟨c, h0⟩ := hc 0 (by omega)
    obtain ⟨cs, h1, h2⟩ := isCels_of n (us.drop 7) (by simp; omega) (fun i hi => by
      obtain ⟨c, h3⟩ := hc (i + 1) (by omega)
      exact ⟨c, by rw [List.drop_drop]; rwa [Nat.mul_add, Nat.mul_one, Nat.add_comm] at h3⟩)
    exact ⟨c :: cs, by simp [h1], by rw [IsCels]; exact ⟨us.take 7, us.drop 7, (List.take_append_drop 7 us).symm, by simpa using h0, h2⟩⟩
theorem isArrs_of {w : World} {B : Nat} : ∀ (len : Nat) (us : List Value), us.length = 3 * len → (∀ i, i < len → ∃ c, IsArr w B c ((us.drop (3 * i)).take 3)) → ∃ cs : List Arr, cs.length = len ∧ IsArrs w B cs us
  | 0, us, h, _ => ⟨[], rfl, by rw [IsArrs]; exact List.eq_nil_of_length_eq_zero (by omega)⟩
  | n + 1, us, h, hc => by
    obtain ⟨c, h0⟩ := hc 0 (by omega)
    obtain ⟨cs, h1, h2⟩ := isArrs_of n (us.drop 3) (by simp; omega) (fun i hi => by
      obtain ⟨c, h3⟩ := hc (i + 1) (by omega)
      exact ⟨c, by rw [List.drop_drop]; rwa [Nat.mul_add, Nat.mul_one, Nat.add_comm] at h3⟩)
    exact ⟨c :: cs, by simp [h1], by rw [IsArrs]; exact ⟨us.take 3, us.drop 3, (List.take_append_drop 3 us).symm, by simpa using h0, h2⟩⟩
theorem isRecs_of {w : World} {B : Nat} : ∀ (len : Nat) (us : List Value), us.length = 8 * len → (∀ i, i < len → ∃ c, IsRec w B c ((us.drop (8 * i)).take 8)) → ∃ cs : List Rec, cs.length = len ∧ IsRecs w B cs us
  | 0, us, h, _ => ⟨[], rfl, by rw [IsRecs]; exact List.eq_nil_of_length_eq_zero (by omega)⟩
  | n + 1, us, h, hc => by
    obtain ⟨c, h0⟩ := hc 0 (by omega)
    obtain ⟨cs, h1, h2⟩ := isRecs_of n (us.drop 8) (by simp; omega) (fun i hi => by
      obtain ⟨c, h3⟩ := hc (i + 1) (by omega)
      exact ⟨c, by rw [List.drop_drop]; rwa [Nat.mul_add, Nat.mul_one, Nat.add_comm] at h3⟩)
    exact ⟨c :: cs, by simp [h1], by rw [IsRecs]; exact ⟨us.take 8, us.drop 8, (List.take_append_drop 8 us).symm, by simpa using h0, h2⟩⟩
end Go.Proofs.YtfiefglagknclaaDoor

/-
  Structs and arrays that came in, opened field by field.
-/
namespace Go.Proofs.YtfiefglagknclaaDoor
open Go.ChangeShapes Go.WideShapes Go.ChangeAt Go.RowKit Ar
set_option linter.unusedVariables false

section
variable {H : Type} {enc : TypeId × Value → H} {P : Program} {w : World} {base : Nat} {held : Bool} {fuel : Nat} {t e : TypeId} {cs : List Value} {x : DataW H × List MemPlace}
theorem field_open {fs : Array Field} (ht : P.underlying t = some (.struct fs)) (h : DataW.trod enc P w base (fun _ => true) held fuel t cs = some x) (hs : ∀ n ∈ x.1.weights P t, n ≤ reachBytes) :
    ∃ m, fuel = m + 1 ∧ cs.length = P.cellsOf t ∧ ∀ (i : Nat) (ty : TypeId) (off : Nat), (fs[i]?).map (fun f => (f.type, f.offset)) = some (ty, off) → ∃ y, DataW.trod enc P w base (fun _ => true) held m ty ((cs.drop off).take (P.cellsOf ty)) = some y ∧ ∀ n ∈ y.1.weights P ty, n ≤ reachBytes := by
  obtain ⟨xs, m, rfl, rfl, hl, hx, hf⟩ := DataW.trod_struct ht h
  refine ⟨m, rfl, hl, fun i ty off hm => ?_⟩
  obtain ⟨f, hi, hm'⟩ := Option.map_eq_some_iff.1 hm
  obtain ⟨rfl, rfl⟩ := Prod.mk.inj hm'
  have h1 := hf i f hi
  have hlt : i < xs.length := by rw [hx]; exact (Array.getElem?_eq_some_iff.1 hi).1
  rw [List.getElem?_eq_getElem hlt] at h1
  refine ⟨_, h1, fun n hn => hs n ?_⟩
  simp only [DataW.weights, ht]
  exact DataW.weights_mem_each (j := i) (t := f.type) (d := xs[i].1) (by rw [List.getElem?_map, Array.getElem?_toList, hi]; rfl) (by rw [List.getElem?_map, List.getElem?_eq_getElem hlt]; rfl) n hn
theorem weights_mem_all : ∀ {ds : List (DataW H)} {d : DataW H}, d ∈ ds → ∀ n ∈ d.weights P e, n ∈ DataW.weightsAll P e ds
  | [], _, h, _, _ => by cases h
  | d' :: r, d, h, n, hn => by
    rw [DataW.weightsAll, List.mem_append]
    rcases List.mem_cons.1 h with rfl | h
    · exact .inl hn
    · exact .inr (weights_mem_all h n hn)
theorem array_open {k : Nat} (ht : P.underlying t = some (.array k e)) (h : DataW.trod enc P w base (fun _ => true) held fuel t cs = some x) (hs : ∀ n ∈ x.1.weights P t, n ≤ reachBytes) :
    ∃ m, fuel = m + 1 ∧ cs.length = P.cellsOf t ∧ ∀ (i : Nat), i < k → ∃ y, DataW.trod enc P w base (fun _ => true) held m e ((cs.drop (i * P.cellsOf e)).take (P.cellsOf e)) = some y ∧ ∀ n ∈ y.1.weights P e, n ≤ reachBytes := by
  obtain ⟨xs, m, rfl, rfl, hl, hx, hf⟩ := DataW.trod_array ht h
  refine ⟨m, rfl, hl, fun i hi => ?_⟩
  have h1 := hf i hi
  have hlt : i < xs.length := by omega
  rw [List.getElem?_eq_getElem hlt] at h1
  refine ⟨_, h1, fun n hn => hs n ?_⟩
  simp only [DataW.weights, ht]
  exact weights_mem_all (List.mem_map.2 ⟨_, List.getElem_mem hlt, rfl⟩) n hn
end

end Go.Proofs.YtfiefglagknclaaDoor

/-
  Numbers that came in, opened: what the row reads of an api.Num.
-/
namespace Go.Proofs.YtfiefglagknclaaDoor
open Go.ChangeShapes Go.WideShapes Go.ChangeAt Go.RowKit Ar
set_option linter.unusedVariables false

/-- Three cells hold a number. -/
def IsNum (w : World) (n : Rt.Nm) (cs : Array Value) : Prop := ∃ v1 v2, cs = #[.bool n.neg, v1, v2] ∧ IsRes w v1 n.top ∧ IsRes w v2 n.bot ∧ Nt.Ok n.top ∧ Nt.Ok n.bot ∧ n.top.length ≤ 35184372088832 ∧ n.bot.length ≤ 35184372088832
theorem cNumN : Tryd.prog.cellsOf 24 = 3 := by kernel_rfl
theorem cU32N : Tryd.prog.cellsOf 70 = 1 := by kernel_rfl
theorem cU32sN : Tryd.prog.cellsOf 22 = 1 := by kernel_rfl
theorem cBoolN : Tryd.prog.cellsOf 4 = 1 := by kernel_rfl
theorem bU32N : Tryd.prog.bytesOf 70 = 4 := by kernel_rfl
theorem list3N {cs : List Value} (h : cs.length = 3) : ∃ a b c, cs = [a, b, c] := by
  match cs, h with
  | [a, b, c], _ => exact ⟨a, b, c, rfl⟩
theorem u32_ltN (n : Int) (h : (Lit.int .u32 n).wf = true) : 0 ≤ n ∧ n < ((4294967296 : Nat) : Int) := by have := bounds_u32 h; omega
theorem num_read {H : Type} {enc : TypeId × Value → H} {w : World} {base : Nat} {held : Bool} {fuel : Nat} {cs : List Value} {x : DataW H × List MemPlace}
    (h : DataW.trod enc Tryd.prog w base (fun _ => true) held fuel 24 cs = some x) (hs : ∀ n ∈ x.1.weights Tryd.prog 24, n ≤ reachBytes) : ∃ n, IsNum w n cs.toArray := by
  obtain ⟨m, _, hlen, hf⟩ := field_open Tryd.underlying24 h hs
  rw [cNumN] at hlen
  obtain ⟨v0, v1, v2, rfl⟩ := list3N hlen
  obtain ⟨z0, g0, _⟩ := hf 0 4 0 rfl
  obtain ⟨z1, g1, q1⟩ := hf 1 22 1 rfl
  obtain ⟨z2, g2, q2⟩ := hf 2 22 2 rfl
  rw [cBoolN] at g0
  rw [cU32sN] at g1 g2
  obtain ⟨neg, d0, _⟩ := DataW.trod_bool Tryd.underlying4 g0
  obtain ⟨A1, c1, t1, d1, p1, l1, x1, nl1⟩ := ints_open Tryd.underlying22 Tryd.underlying70 cU32N bU32N g1 q1
  obtain ⟨A2, c2, t2, d2, p2, l2, x2, nl2⟩ := ints_open Tryd.underlying22 Tryd.underlying70 cU32N bU32N g2 q2
  obtain ⟨n1, rfl, o1⟩ := nats_of u32_ltN x1
  obtain ⟨n2, rfl, o2⟩ := nats_of u32_ltN x2
  simp at d0 d1 d2
  subst d0 d1 d2
  have p1' : Fits n1.length c1 4 := by simpa using p1
  have p2' : Fits n2.length c2 4 := by simpa using p2
  have b1 := p1'.2.1
  have b2 := p2'.2.1
  exact ⟨⟨neg, n1, n2⟩, .slice A1 n1.length c1, .slice A2 n2.length c2, by simp, ⟨A1, c1, rfl, p1'.1, p1'.2.2, nl1, by simpa [U, Function.comp_def] using l1⟩, ⟨A2, c2, rfl, p2'.1, p2'.2.2, nl2, by simpa [U, Function.comp_def] using l2⟩, o1, o2, by dsimp only; omega, by dsimp only; omega⟩
end Go.Proofs.YtfiefglagknclaaDoor
