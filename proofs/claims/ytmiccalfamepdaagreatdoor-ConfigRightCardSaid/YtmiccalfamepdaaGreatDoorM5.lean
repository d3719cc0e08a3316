/-
  Texts of this proof, joined (by wip/bin/bundle.py): NatSums, Same2, LabMath, LabRef, ArrTot, ArrFew, Good1, Rat2, Rat3.
-/
import Derived.Test.YtmiccalfamepdaaGreatDoorM4
import Derived.WalkKit
import Derived.WalkSpells
import Derived.WalkLawsBesides
import Derived.Lib.Hide
import Derived.Laws.BitsAllLaws
import Derived.IntWalk
import Derived.LoopTactic
import Derived.Outline
import Derived.Deep.QuietTactic
import Derived.BigQuiet
/-
  The walk of the law NatSums.
-/
namespace Go.Proofs.YtmiccalfamepdaaGreatDoor
open Go.RowKit
set_option maxHeartbeats 1000000
set_option maxRecDepth 100000
set_option linter.unusedVariables false

/-- Two numbers that calls handed back, the same ones. -/
theorem same_res {w0 w : World} {v1 v2 : Value} {n : Nat} (h1 : IsRes w v1 (Nt.digs n)) (h2 : IsRes w v2 (Nt.digs n)) (hb : Below w0.heap.size w0 w) :
    Calls Tryz.prog 113 #[v1, v2] w fun e w' => e = .returned (.bool true) ∧ Below w0.heap.size w0 w' ∧ Below w.heap.size w w' := by
  obtain ⟨A, c, rfl, a1, a2, a3, a4⟩ := h1
  obtain ⟨A', c', rfl, b1, b2, b3, b4⟩ := h2
  refine (same_any A A' c c' w.heap.size w.heap.size (Nt.digs n) (Nt.digs n) w a4 b4 (by omega) (by omega)).mono ?_
  rintro e w' ⟨rfl, k, rfl⟩
  have hb1 : Below w.heap.size w (w.drewN k) := ⟨rfl, rfl, rfl, Nat.le_refl _, fun _ _ => rfl⟩
  exact ⟨by simp, hb.trans (hb1.mono hb.size), hb1⟩

end Go.Proofs.YtmiccalfamepdaaGreatDoor

/-
  Numbers compared: ratio.Same, and the reference's. (Printed by wip/bin/gen_same2.py.)
-/
namespace Go.Proofs.YtmiccalfamepdaaGreatDoor
open Go.RowKit Ar
set_option maxHeartbeats 1000000
set_option linter.unusedVariables false

/-- Whether two numbers' fields are the same. -/
def sameNum (n n' : Bool) (t t' b b' : List Nat) : Bool := (n == n') && (t == t') && (b == b')

theorem ratioSame_any (n n' : Bool) (t t' b b' : List Nat) (A1 A2 A1' A2' : Option Addr) (c1 c2 c1' c2' : Nat) (w : World) (B : Nat) (h1 : Lies w B A1 (U32 t)) (h1' : Lies w B A1' (U32 t')) (h2 : Lies w B A2 (U32 b)) (h2' : Lies w B A2' (U32 b')) (hB : B ≤ w.heap.size)
    (k1 : t.length ≤ 9223372036854775807) (k1' : t'.length ≤ 9223372036854775807) (k2 : b.length ≤ 9223372036854775807) (k2' : b'.length ≤ 9223372036854775807) :
    Calls Tryz.prog 81 #[.agg #[.bool n, .slice A1 t.length c1, .slice A2 b.length c2], .agg #[.bool n', .slice A1' t'.length c1', .slice A2' b'.length c2']] w fun e w' => e = .returned (.bool (sameNum n n' t t' b b')) ∧ Below w.heap.size w w' := by
  have E1 := Lib.hid (fun (wx : World) (hx : Below w.heap.size w wx) => eqU32_any t t' A1 A1' c1 c1' wx B (h1.below (hx.mono hB)) (h1'.below (hx.mono hB)) k1 k1')
  have E2 := Lib.hid (fun (wx : World) (hx : Below w.heap.size w wx) => eqU32_any b b' A2 A2' c2 c2' wx B (h2.below (hx.mono hB)) (h2'.below (hx.mono hB)) k2 k2')
  have HR : Hid (sameNum n n' t t' b b' = ((n == n') && (t == t') && (b == b'))) := Lib.hid rfl
  clear h1 h1' h2 h2'
  generalize sameNum n n' t t' b b' = R at *
  generalize (t == t') = x at *
  generalize (b == b') = y at *
  cases hnn : (n == n')
  · rw [hnn] at HR
    go_enter Tryz.func81, Tryz.ntmps81
    go_wp2_with fail
    go_ret
    exact ⟨ret_bool (by rw [HR.out]; simp), ((Below.refl _ _).alloc (Nat.le_refl _) _).alloc (by simp) _⟩
  · rw [hnn] at HR
    go_enter Tryz.func81, Tryz.ntmps81
    go_wp2_with fail
    have hb0 : Below w.heap.size w ((w.alloc (.cells #[.bool n, .slice A1 t.length c1, .slice A2 b.length c2] 83)).alloc (.cells #[.bool n', .slice A1' t'.length c1', .slice A2' b'.length c2'] 83)) := ((Below.refl _ _).alloc (Nat.le_refl _) _).alloc (by simp) _
    refine (E1.out _ hb0).mono ?_
    rintro e w2 ⟨rfl, hb2⟩
    have hb3 := hb0.trans (hb2.mono hb0.size)
    obtain ⟨hc, hfz⟩ : (∀ o, w2.cell? ⟨w.heap.size, o, none⟩ = _) ∧ (∀ o, w2.cell? ⟨w.heap.size + 1, o, none⟩ = _) := ⟨fun o => hb2.cell (p := ⟨w.heap.size, o, none⟩) (by show w.heap.size < _; simp; omega), fun o => hb2.cell (p := ⟨w.heap.size + 1, o, none⟩) (by show w.heap.size + 1 < _; simp)⟩
    cases x
    · go_wp2_with fail
      go_ret
      exact ⟨ret_bool (by rw [HR.out]; simp), hb3⟩
    · go_wp2_with fail
      refine (E2.out _ hb3).mono ?_
      rintro e w3 ⟨rfl, hb4⟩
      clear hc hfz
      go_wp2_with fail
      go_ret
      exact ⟨ret_bool (by rw [HR.out]; simp), hb3.trans (hb4.mono hb3.size)⟩

theorem refRatioSame_any (n n' : Bool) (t t' b b' : List Nat) (A1 A2 A1' A2' : Option Addr) (c1 c2 c1' c2' : Nat) (w : World) (B : Nat) (h1 : Lies w B A1 (U32 t)) (h1' : Lies w B A1' (U32 t')) (h2 : Lies w B A2 (U32 b)) (h2' : Lies w B A2' (U32 b')) (hB : B ≤ w.heap.size)
    (k1 : t.length ≤ 9223372036854775807) (k1' : t'.length ≤ 9223372036854775807) (k2 : b.length ≤ 9223372036854775807) (k2' : b'.length ≤ 9223372036854775807) :
    Calls Tryz.prog 83 #[.agg #[.bool n, .slice A1 t.length c1, .slice A2 b.length c2], .agg #[.bool n', .slice A1' t'.length c1', .slice A2' b'.length c2']] w fun e w' => e = .returned (.bool (sameNum n n' t t' b b')) ∧ Below w.heap.size w w' := by
  have E1 := Lib.hid (fun (wx : World) (hx : Below w.heap.size w wx) => refSame2_any t t' A1 A1' c1 c1' wx B (h1.below (hx.mono hB)) (h1'.below (hx.mono hB)) k1 k1')
  have E2 := Lib.hid (fun (wx : World) (hx : Below w.heap.size w wx) => refSame2_any b b' A2 A2' c2 c2' wx B (h2.below (hx.mono hB)) (h2'.below (hx.mono hB)) k2 k2')
  have HR : Hid (sameNum n n' t t' b b' = ((n == n') && (t == t') && (b == b'))) := Lib.hid rfl
  clear h1 h1' h2 h2'
  generalize sameNum n n' t t' b b' = R at *
  generalize (t == t') = x at *
  generalize (b == b') = y at *
  cases hnn : (n == n')
  · rw [hnn] at HR
    go_enter Tryz.func83, Tryz.ntmps83
    go_wp2_with fail
    go_ret
    exact ⟨ret_bool (by rw [HR.out]; simp), ((Below.refl _ _).alloc (Nat.le_refl _) _).alloc (by simp) _⟩
  · rw [hnn] at HR
    go_enter Tryz.func83, Tryz.ntmps83
    go_wp2_with fail
    have hb0 : Below w.heap.size w ((w.alloc (.cells #[.bool n, .slice A1 t.length c1, .slice A2 b.length c2] 83)).alloc (.cells #[.bool n', .slice A1' t'.length c1', .slice A2' b'.length c2'] 83)) := ((Below.refl _ _).alloc (Nat.le_refl _) _).alloc (by simp) _
    refine (E1.out _ hb0).mono ?_
    rintro e w2 ⟨rfl, hb2⟩
    have hb3 := hb0.trans (hb2.mono hb0.size)
    obtain ⟨hc, hfz⟩ : (∀ o, w2.cell? ⟨w.heap.size, o, none⟩ = _) ∧ (∀ o, w2.cell? ⟨w.heap.size + 1, o, none⟩ = _) := ⟨fun o => hb2.cell (p := ⟨w.heap.size, o, none⟩) (by show w.heap.size < _; simp; omega), fun o => hb2.cell (p := ⟨w.heap.size + 1, o, none⟩) (by show w.heap.size + 1 < _; simp)⟩
    cases x
    · go_wp2_with fail
      go_ret
      exact ⟨ret_bool (by rw [HR.out]; simp), hb3⟩
    · go_wp2_with fail
      refine (E2.out _ hb3).mono ?_
      rintro e w3 ⟨rfl, hb4⟩
      clear hc hfz
      go_wp2_with fail
      go_ret
      exact ⟨ret_bool (by rw [HR.out]; simp), hb3.trans (hb4.mono hb3.size)⟩
end Go.Proofs.YtmiccalfamepdaaGreatDoor

namespace Lab
/-- The sum of the bits below n that p takes. -/
def sumBits (p : Nat → Bool) : Nat → Nat
  | 0 => 0
  | n + 1 => sumBits p n + if p n then 2 ^ n else 0
theorem sumBits_lt (p : Nat → Bool) : ∀ n, sumBits p n < 2 ^ n
  | 0 => by simp [sumBits]
  | n + 1 => by
    have := sumBits_lt p n
    rw [sumBits, Nat.pow_succ]
    split <;> omega
theorem testBit_sumBits (p : Nat → Bool) : ∀ n i, (sumBits p n).testBit i = (decide (i < n) && p i)
  | 0, i => by simp [sumBits]
  | n + 1, i => by
    have hlt := sumBits_lt p n
    have ih := testBit_sumBits p n
    have e : sumBits p (n + 1) = 2 ^ n * (if p n then 1 else 0) + sumBits p n := by
      rw [sumBits]; split <;> simp [Nat.add_comm]
    rw [e, Nat.testBit_two_pow_mul_add _ hlt]
    by_cases h : i < n
    · simp [h, ih, Nat.lt_succ_of_lt h]
    · rw [if_neg h]
      by_cases h2 : i = n
      · subst h2; cases hp : p i <;> simp
      · have h3 : ¬ i < n + 1 := by omega
        have h4 : i - n ≠ 0 := by omega
        cases p n
        · simp [h3]
        · simp only [if_true, h3, decide_false, Bool.false_and]
          exact Nat.testBit_lt_two_pow (Nat.lt_of_lt_of_le (by decide) (Nat.pow_le_pow_right (n := 2) (i := 1) (by decide) (by omega)))
theorem sumBits_eq {p : Nat → Bool} {n x : Nat} (hx : x < 2 ^ n) (h : ∀ i, i < n → p i = x.testBit i) : sumBits p n = x := by
  apply Nat.eq_of_testBit_eq
  intro i
  rw [testBit_sumBits]
  by_cases hi : i < n
  · simp [hi, h i hi]
  · simp [hi]
    exact Nat.testBit_lt_two_pow (Nat.lt_of_lt_of_le hx (Nat.pow_le_pow_right (by decide) (Nat.le_of_not_lt hi)))
/-- A tag's label. -/
def bit (t : Nat) : Nat := 2 ^ t
def join (a b : Nat) : Nat := a ||| b
def meet (a b : Nat) : Nat := a &&& b
/-- Does each bit of a stand in b? -/
def flows (a b : Nat) : Bool := (a ||| b) == b
theorem join_lt {a b : Nat} (ha : a < 18446744073709551616) (hb : b < 18446744073709551616) : join a b < 18446744073709551616 := Nat.or_lt_two_pow (n := 64) ha hb
theorem meet_lt {a b : Nat} (ha : a < 18446744073709551616) : meet a b < 18446744073709551616 := Nat.lt_of_le_of_lt Nat.and_le_left ha
theorem flows_iff (a b : Nat) : flows a b = true ↔ ∀ i, a.testBit i = true → b.testBit i = true := by
  unfold flows
  rw [beq_iff_eq]
  constructor
  · intro h i hi
    rw [← h, Nat.testBit_or, hi, Bool.true_or]
  · intro h
    apply Nat.eq_of_testBit_eq
    intro i
    rw [Nat.testBit_or]
    cases e : a.testBit i
    · simp
    · simp [h i e]
theorem testBit_high {x i : Nat} (hx : x < 18446744073709551616) (hi : 64 ≤ i) : x.testBit i = false :=
  Nat.testBit_lt_two_pow (Nat.lt_of_lt_of_le (show x < 2 ^ 64 from hx) (Nat.pow_le_pow_right (by decide) hi))
/-- The same, asked of the first 64 bits. -/
theorem flows_of_below {a b : Nat} (ha : a < 18446744073709551616) (h : ∀ i, i < 64 → a.testBit i = true → b.testBit i = true) : flows a b = true := by
  rw [flows_iff]
  intro i hi
  by_cases h64 : i < 64
  · exact h i h64 hi
  · rw [testBit_high ha (by omega)] at hi; cases hi
theorem flows_andNot {a b : Nat} (ha : a < 18446744073709551616) (hb : b < 18446744073709551616) : (a &&& (18446744073709551615 - b) == 0) = flows a b := by
  have e : ∀ i, (18446744073709551615 - b).testBit i = (decide (i < 64) && !b.testBit i) := by
    intro i
    have := Nat.testBit_two_pow_sub_succ (n := 64) (x := b) hb i
    rw [show (2 : Nat) ^ 64 - (b + 1) = 18446744073709551615 - b from by omega] at this
    exact this
  rw [Bool.eq_iff_iff, flows_iff, beq_iff_eq]
  constructor
  · intro h i hi
    have h1 : (a &&& (18446744073709551615 - b)).testBit i = false := by rw [h]; simp
    rw [Nat.testBit_and, hi, e, Bool.true_and] at h1
    by_cases h64 : i < 64
    · simpa [h64] using h1
    · rw [testBit_high ha (by omega)] at hi; cases hi
  · intro h
    apply Nat.eq_of_testBit_eq
    intro i
    rw [Nat.testBit_and, e, Nat.zero_testBit]
    cases hi : a.testBit i
    · simp
    · simp [h i hi]
theorem sum_join {a b : Nat} (ha : a < 18446744073709551616) (hb : b < 18446744073709551616) : sumBits (fun t => a.testBit t || b.testBit t) 64 = join a b :=
  sumBits_eq (join_lt ha hb) fun i _ => by simp [join]
theorem sum_meet {a b : Nat} (ha : a < 18446744073709551616) : sumBits (fun t => a.testBit t && b.testBit t) 64 = meet a b :=
  sumBits_eq (meet_lt ha) fun i _ => by simp [meet]

/-! ### The label of tags -/
def okTag (t : Int) : Bool := decide (0 ≤ t) && decide (t < 64)
/-- The join of the first tags' labels. -/
def orTags (zs : List Int) : Nat := zs.foldl (fun x t => x ||| 2 ^ t.toNat) 0
def ofNum (zs : List Int) : Nat := if zs.all okTag then orTags zs else 0
def ofOk (zs : List Int) : Bool := zs.all okTag
theorem orTags_snoc (zs : List Int) (t : Int) : orTags (zs ++ [t]) = orTags zs ||| 2 ^ t.toNat := by simp [orTags]
theorem bit_lt {t : Nat} (h : t < 64) : (2 : Nat) ^ t < 18446744073709551616 := Nat.lt_of_le_of_lt (Nat.pow_le_pow_right (by decide) (show t ≤ 63 by omega)) (by decide)
theorem orTags_lt (zs : List Int) (h : zs.all okTag = true) : orTags zs < 18446744073709551616 := by
  have : ∀ (l : List Int) (x : Nat), x < 18446744073709551616 → l.all okTag = true → l.foldl (fun x t => x ||| 2 ^ t.toNat) x < 18446744073709551616 := by
    intro l
    induction l with
    | nil => intro x hx _; exact hx
    | cons t l ih =>
      intro x hx ha
      simp only [List.all_cons, Bool.and_eq_true] at ha
      exact ih _ (Nat.or_lt_two_pow (n := 64) hx (bit_lt (by have := ha.1; simp [okTag] at this; omega))) ha.2
  exact this zs 0 (by decide) h
theorem take_snoc {zs : List Int} {k : Nat} (h : k < zs.length) : zs.take (k + 1) = zs.take k ++ [zs[k]] := List.take_succ_eq_append_getElem h
theorem all_take_succ {zs : List Int} {k : Nat} (h : k < zs.length) (ha : (zs.take k).all okTag = true) (ht : okTag zs[k] = true) : (zs.take (k + 1)).all okTag = true := by
  rw [take_snoc h, List.all_append, ha]; simp [ht]
theorem orTags_step {zs : List Int} {k : Nat} (h : k < zs.length) : orTags (zs.take (k + 1)) = orTags (zs.take k) ||| 2 ^ zs[k].toNat := by rw [take_snoc h, orTags_snoc]
theorem ofOk_bad {zs : List Int} {k : Nat} (h : k < zs.length) (ht : okTag zs[k] = false) : ofOk zs = false := by
  unfold ofOk
  rw [List.all_eq_false]
  exact ⟨zs[k], List.getElem_mem h, by simp [ht]⟩
theorem ofNum_bad {zs : List Int} {k : Nat} (h : k < zs.length) (ht : okTag zs[k] = false) : ofNum zs = 0 := by
  have := ofOk_bad h ht
  unfold ofOk at this
  simp [ofNum, this]
theorem ofNum_good {zs : List Int} (h : zs.all okTag = true) : ofNum zs = orTags zs := by simp [ofNum, h]
theorem ofNum_lt (zs : List Int) : ofNum zs < 18446744073709551616 := by
  unfold ofNum
  split
  · rename_i h; exact orTags_lt zs h
  · decide
/-- A bit that is not there yet is added. -/
theorem or_bit_new {x t : Nat} (h : x.testBit t = false) : x ||| 2 ^ t = x + 2 ^ t := by
  have hr : x % 2 ^ (t + 1) < 2 ^ t := by
    have h1 : x / 2 ^ t % 2 = 0 := by
      have := Nat.testBit_eq_decide_div_mod_eq (x := x) (i := t)
      rw [h] at this
      have := of_decide_eq_false this.symm
      omega
    have h2 : x % 2 ^ (t + 1) = x % 2 ^ t + 2 ^ t * (x / 2 ^ t % 2) := by rw [Nat.pow_succ, Nat.mod_mul]
    rw [h2, h1, Nat.mul_zero, Nat.add_zero]
    exact Nat.mod_lt _ (Nat.two_pow_pos t)
  have hp : (2 : Nat) ^ (t + 1) = 2 ^ t + 2 ^ t := by rw [Nat.pow_succ]; omega
  have ha := Nat.two_pow_add_eq_or_of_lt (show x % 2 ^ (t + 1) < 2 ^ (t + 1) by omega) (x / 2 ^ (t + 1))
  have hb := Nat.two_pow_add_eq_or_of_lt (show x % 2 ^ (t + 1) + 2 ^ t < 2 ^ (t + 1) by omega) (x / 2 ^ (t + 1))
  rw [← Nat.or_two_pow_eq_add_of_lt hr, ← Nat.or_assoc, ← ha, Nat.or_two_pow_eq_add_of_lt hr, ← Nat.add_assoc, Nat.div_add_mod] at hb
  exact hb.symm
theorem or_bit_old {x t : Nat} (h : x.testBit t = true) : x ||| 2 ^ t = x := by
  apply Nat.eq_of_testBit_eq
  intro i
  rw [Nat.testBit_or, Nat.testBit_two_pow]
  by_cases e : t = i
  · subst e; simp [h]
  · simp [e]

/-! ### The tags of a label, rising -/
def tags (l : Nat) : List Nat := (List.range 64).filter fun t => l.testBit t
theorem filter_first {p : Nat → Bool} {k : Nat} (hlt : ∀ i, i < k → p i = false) (hk : p k = true) (n : Nat) :
    (List.range n).filter p = (if k < n then [k] else []) ++ (List.range n).filter fun i => p i && (i != k) := by
  have none_ : ∀ (q : Nat → Bool) (m : Nat), (∀ i, i < m → q i = false) → (List.range m).filter q = [] := fun q m h => by
    rw [List.filter_eq_nil_iff]
    intro a ha
    simp [h a (List.mem_range.1 ha)]
  induction n with
  | zero => simp
  | succ n ih =>
    rw [List.range_succ, List.filter_append, List.filter_append]
    rcases Nat.lt_trichotomy n k with h | h | h
    · rw [ih, if_neg (by omega), if_neg (by omega)]
      simp [hlt n h]
    · subst h
      rw [none_ p n hlt, none_ _ n (fun i hi => by simp [hlt i hi]), if_pos (by omega)]
      simp [hk]
    · rw [ih, if_pos h, if_pos (by omega), List.append_assoc]
      congr 2
      simp [List.filter_cons, show n ≠ k by omega]
theorem testBit_form (k m i : Nat) : (2 ^ k * (2 * m + 1)).testBit i = if i < k + 1 then decide (k = i) else m.testBit (i - (k + 1)) := by
  have e : 2 ^ k * (2 * m + 1) = 2 ^ (k + 1) * m + 2 ^ k := by rw [Nat.pow_succ, Nat.mul_add, Nat.mul_one, Nat.mul_assoc]
  rw [e, Nat.testBit_two_pow_mul_add _ (by rw [Nat.pow_succ]; have := Nat.two_pow_pos k; omega), Nat.testBit_two_pow]
theorem testBit_pred (k m i : Nat) : (2 ^ k * (2 * m + 1) - 1).testBit i = if i < k + 1 then decide (i < k) else m.testBit (i - (k + 1)) := by
  have hp := Nat.two_pow_pos k
  have e : 2 ^ k * (2 * m + 1) - 1 = 2 ^ (k + 1) * m + (2 ^ k - 1) := by
    have : 2 ^ k * (2 * m + 1) = 2 ^ (k + 1) * m + 2 ^ k := by rw [Nat.pow_succ, Nat.mul_add, Nat.mul_one, Nat.mul_assoc]
    omega
  rw [e, Nat.testBit_two_pow_mul_add _ (by rw [Nat.pow_succ]; omega), Nat.testBit_two_pow_sub_one]
/-- The lowest tag ahead, and the rest. -/
theorem tags_step {l k m : Nat} (hl : l = 2 ^ k * (2 * m + 1)) (hk : k < 64) : tags l = k :: tags (l &&& (l - 1)) := by
  have h := filter_first (p := fun t => l.testBit t) (k := k) (fun i hi => by
    show l.testBit i = false
    rw [hl, testBit_form, if_pos (by omega)]; simp; omega) (by
    show l.testBit k = true
    rw [hl, testBit_form, if_pos (by omega)]; simp) 64
  unfold tags
  rw [h, if_pos hk]
  show k :: _ = _
  congr 1
  apply List.filter_congr
  intro i _
  rw [Nat.testBit_and]
  subst hl
  rw [testBit_form, testBit_pred]
  split
  · by_cases e : k = i
    · subst e; simp
    · simp [e]
  · have : (i != k) = true := by simp; omega
    simp [this]
theorem tags_zero : tags 0 = [] := by simp [tags]
theorem tags_lt (l : Nat) : ∀ t ∈ tags l, t < 64 := fun t ht => by
  simp only [tags, List.mem_filter, List.mem_range] at ht
  exact ht.1
theorem tags_len (l : Nat) : (tags l).length ≤ 64 := by
  have := List.length_filter_le (fun t => l.testBit t) (List.range 64)
  simpa [tags] using this
theorem and_pred_lt {l : Nat} (h : l ≠ 0) : l &&& (l - 1) < l := Nat.lt_of_le_of_lt Nat.and_le_right (by omega)
/-- The label of a label's tags is this label. -/
theorem orTags_tags {l : Nat} (hl : l < 18446744073709551616) : orTags ((tags l).map fun t : Nat => (t : Int)) = l := by
  have key : ∀ n, orTags (((List.range n).filter fun t => l.testBit t).map fun t : Nat => (t : Int)) = l % 2 ^ n := by
    intro n
    induction n with
    | zero => simp [orTags, Nat.mod_one]
    | succ n ih =>
      rw [List.range_succ, List.filter_append, List.map_append]
      cases h : l.testBit n
      · rw [List.filter_cons, if_neg (by simp [h])]
        simp only [List.filter_nil, List.map_nil, List.append_nil]
        rw [ih]
        have h1 : l / 2 ^ n % 2 = 0 := by
          have := Nat.testBit_eq_decide_div_mod_eq (x := l) (i := n)
          rw [h] at this
          have := of_decide_eq_false this.symm
          omega
        rw [Nat.pow_succ, Nat.mod_mul, h1, Nat.mul_zero, Nat.add_zero]
      · rw [List.filter_cons, if_pos (by simp [h])]
        simp only [List.filter_nil, List.map_cons, List.map_nil]
        rw [orTags_snoc, ih]
        have h1 : l / 2 ^ n % 2 = 1 := by
          have := Nat.testBit_eq_decide_div_mod_eq (x := l) (i := n)
          rw [h] at this
          exact of_decide_eq_true this.symm
        rw [Nat.pow_succ, Nat.mod_mul, h1, Nat.mul_one, Int.toNat_natCast, Nat.or_two_pow_eq_add_of_lt (Nat.mod_lt _ (Nat.two_pow_pos n))]
  rw [show tags l = (List.range 64).filter fun t => l.testBit t from rfl, key 64]
  exact Nat.mod_eq_of_lt hl
theorem ok_tags (l : Nat) : ((tags l).map fun t : Nat => (t : Int)).all okTag = true := by
  rw [List.all_eq_true]
  intro t ht
  obtain ⟨n, hn, rfl⟩ := List.mem_map.1 ht
  have := tags_lt l n hn
  simp [okTag]; omega

/-! ### The lattice -/
theorem join_comm (a b : Nat) : join a b = join b a := Nat.or_comm a b
theorem meet_comm (a b : Nat) : meet a b = meet b a := Nat.and_comm a b
theorem join_self (a : Nat) : join a a = a := Nat.or_self a
theorem meet_self (a : Nat) : meet a a = a := Nat.and_self a
theorem join_assoc (a b c : Nat) : join (join a b) c = join a (join b c) := Nat.or_assoc a b c
theorem meet_assoc (a b c : Nat) : meet (meet a b) c = meet a (meet b c) := Nat.and_assoc a b c
theorem join_meet (a b : Nat) : join a (meet a b) = a := by
  unfold join meet
  apply Nat.eq_of_testBit_eq; intro i
  rw [Nat.testBit_or, Nat.testBit_and]
  cases a.testBit i <;> simp
theorem meet_join (a b : Nat) : meet a (join a b) = a := by
  unfold join meet
  apply Nat.eq_of_testBit_eq; intro i
  rw [Nat.testBit_and, Nat.testBit_or]
  cases a.testBit i <;> simp
theorem flows_join_eq (a b : Nat) : (join a b == b) = flows a b := rfl
theorem flows_trans {a b c : Nat} (h1 : flows a b = true) (h2 : flows b c = true) : flows a c = true := by
  rw [flows_iff] at *
  exact fun i hi => h2 i (h1 i hi)
theorem meet_flows (a b : Nat) : flows (meet a b) a = true := by
  rw [flows_iff]; intro i hi
  unfold meet at hi
  rw [Nat.testBit_and] at hi
  simp at hi; exact hi.1
theorem flows_join (a b : Nat) : flows a (join a b) = true := by
  rw [flows_iff]; intro i hi
  unfold join
  rw [Nat.testBit_or, hi]; rfl
theorem join_zero (a : Nat) : join a 0 = a := Nat.or_zero a
theorem flows_more {x y a b : Nat} (h : flows x (join y a) = true) : flows x (join y (join a b)) = true := by
  refine flows_trans h ?_
  rw [← join_assoc]
  exact flows_join _ _
end Lab

/-
  What the small functions of scrimref01 and label compute, for every label: Has, Bit, Join, Meet, Flows.
-/
namespace Go.Proofs.YtmiccalfamepdaaGreatDoor
open Go.RowKit
set_option maxHeartbeats 400000
theorem has_any (l t : Nat) (w : World) (hl : l < 18446744073709551616) (ht : t ≤ 64) :
    Calls Tryz.prog 66 #[.int .u64 (l : Int), .int .i64 (t : Int)] w fun e w' => e = .returned (.bool (l.testBit t)) ∧ w = w' := by
  go_enter Tryz.func66, Tryz.ntmps66
  go_wp2
  go_loop [0, 5] (fun x i => ∃ k n : Nat, k ≤ t ∧ n < 18446744073709551616 ∧ i = .int .i64 k ∧ x = .int .u64 (n : Int) ∧ Hid (n = l / 2 ^ k)) (fun _ i => t - (intOf i).toNat)
  case atStart => exact ⟨0, l, Nat.zero_le _, hl, rfl, rfl, Lib.hid (by simp)⟩
  case round =>
    obtain ⟨k, n, hk, hn, rfl, rfl, H⟩ := hrel
    by_cases hlt : k < t
    · go_wp2
      go_round
      case rel => exact ⟨k + 1, n / 2, by omega, by omega, by go_num, by go_num, Lib.hid (by rw [H.out, Nat.pow_succ, ← Nat.div_div_eq_div_mul])⟩
      case measure => simp [intOf]; omega
    · go_wp2
      go_ret
      have : k = t := by omega
      subst this
      refine ⟨ret_bool ?_, rfl⟩
      rw [Nat.testBit_eq_decide_div_mod_eq, ← H.out, Bool.eq_iff_iff]
      simp; omega

theorem bit_any (t : Nat) (w : World) (ht : t < 64) :
    Calls Tryz.prog 72 #[.int .i64 (t : Int)] w fun e w' => e = .returned (.int .u64 (Lab.bit t : Int)) ∧ w = w' := by
  go_enter Tryz.func72, Tryz.ntmps72
  go_wp2
  go_loop [3, 4] (fun x i => ∃ k n : Nat, k ≤ t ∧ n < 18446744073709551616 ∧ i = .int .i64 k ∧ x = .int .u64 (n : Int) ∧ Hid (n = 2 ^ k)) (fun _ i => t - (intOf i).toNat)
  case atStart => exact ⟨0, 1, Nat.zero_le _, by omega, rfl, rfl, Lib.hid (by simp)⟩
  case round =>
    obtain ⟨k, n, hk, hn, rfl, rfl, H⟩ := hrel
    by_cases hlt : k < t
    · have hn2 : n < 9223372036854775808 := by
        rw [H.out]
        exact Nat.lt_of_le_of_lt (Nat.pow_le_pow_right (by decide) (by omega : k ≤ 62)) (by decide)
      go_wp2
      go_round
      case rel => exact ⟨k + 1, n * 2, by omega, by omega, by go_num, by go_num, Lib.hid (by rw [H.out, Nat.pow_succ])⟩
      case measure => simp [intOf]; omega
    · go_wp2
      go_ret
      have : k = t := by omega
      subst this
      exact ⟨ret_int (by rw [H.out]; rfl), rfl⟩

theorem join_any (a b : Nat) (w : World) (ha : a < 18446744073709551616) (hb : b < 18446744073709551616) :
    Calls Tryz.prog 48 #[.int .u64 (a : Int), .int .u64 (b : Int)] w fun e w' => e = .returned (.int .u64 (Lab.join a b : Int)) ∧ w = w' := by
  go_enter Tryz.func48, Tryz.ntmps48
  go_wp2
  go_ret
  exact ⟨ret_int (u64_or_nat a b ha hb), rfl⟩
theorem refJoin_any (a b : Nat) (w : World) (ha : a < 18446744073709551616) (hb : b < 18446744073709551616) :
    Calls Tryz.prog 51 #[.int .u64 (a : Int), .int .u64 (b : Int)] w fun e w' => e = .returned (.int .u64 (Lab.join a b : Int)) ∧ w = w' := by
  go_enter Tryz.func51, Tryz.ntmps51
  go_wp2_with fail
  go_loop [5, 6] (fun x i => ∃ k n : Nat, k ≤ 64 ∧ i = .int .i64 k ∧ x = .int .u64 (n : Int) ∧ Hid (n = Lab.sumBits (fun t => a.testBit t || b.testBit t) k)) (fun _ i => 64 - (intOf i).toNat)
  case atStart => exact ⟨0, 0, Nat.zero_le _, rfl, rfl, Lib.hid rfl⟩
  case round =>
    obtain ⟨k, n, hk, rfl, rfl, H⟩ := hrel
    by_cases hlt : k < 64
    · have hn : n < Lab.bit k := by rw [H.out]; exact Lab.sumBits_lt _ _
      have hb2 : Lab.bit k ≤ 9223372036854775808 := Nat.pow_le_pow_right (n := 2) (by decide) (show k ≤ 63 by omega)
      cases ea : a.testBit k <;> cases eb : b.testBit k
      all_goals
        go_wp2_with (first | (go_at_call 66; refine (has_any _ _ _ (by assumption) (by omega)).mono ?_; rintro e w' ⟨rfl, rfl⟩) | (go_at_call 72; refine (bit_any _ _ (by omega)).mono ?_; rintro e w' ⟨rfl, rfl⟩))
        go_round
        case rel => first | exact ⟨k + 1, n, by omega, by go_num, rfl, Lib.hid (by rw [H.out, Lab.sumBits]; simp [ea, eb])⟩ | exact ⟨k + 1, n + Lab.bit k, by omega, by go_num, by go_num, Lib.hid (by rw [H.out, Lab.sumBits]; simp [ea, eb, Lab.bit])⟩
        case measure => simp [intOf]; omega
    · go_wp2_with fail
      go_ret
      obtain rfl : k = 64 := by omega
      exact ⟨ret_int (by rw [H.out, Lab.sum_join ha hb]), rfl⟩
end Go.Proofs.YtmiccalfamepdaaGreatDoor

/-
  array.Total: the join of all labels of an array.
-/
namespace Go.Proofs.YtmiccalfamepdaaGreatDoor
open Go.RowKit Ar
set_option maxHeartbeats 1000000
set_option linter.unusedVariables false

theorem total_any (n : Nat) : ∀ (a : Arr) (vs : List Value) (w : World) (B : Nat), SizeOf.sizeOf a < n → IsArr w B a vs → B ≤ w.heap.size →
    Calls Tryz.prog 19 #[.agg vs.toArray] w fun e w' => e = .returned (.int .u64 (tot a : Int)) ∧ Below w.heap.size w w' := by
  induction n with
  | zero => intro a vs w B h; omega
  | succ n ih =>
    intro a vs w B hn h hB
    obtain ⟨S, shape, cells⟩ := a
    rw [IsArr] at h
    obtain ⟨A, c, A', c', us, rfl, hS, hf, hf', hw, hl, hl', hcs⟩ := h
    have HC := Lib.hid hcs
    have HL := Lib.hid hl'
    have hfl := (hf'.le (by omega))
    have hn' : SizeOf.sizeOf (Arr.mk S shape cells) ≤ n := by omega
    have HN := Lib.hid hn'
    clear hcs hl' hl hf hw hn hn'
    go_enter Tryz.func19, Tryz.ntmps19
    go_wp2_with fail
    go_loopw [3, 13] (fun x i wr => ∃ k m : Nat, k ≤ cells.length ∧ i = .int .i64 k ∧ x = .int .u64 (m : Int) ∧ m < 18446744073709551616 ∧ Hid (totCels m (cells.drop k) = tot (.mk S shape cells)) ∧ Below w.heap.size w wr) (fun _ i _ => cells.length - (intOf i).toNat)
    case atStart => exact ⟨0, S, Nat.zero_le _, rfl, rfl, hS, Lib.hid (by simp [tot]), (Below.refl _ _).alloc (Nat.le_refl _) _⟩
    case round =>
      obtain ⟨k, m, hk, rfl, rfl, hm, HT, hbel⟩ := hrel
      by_cases hlt : k < cells.length
      · obtain ⟨b, off, L, kind, neg, top, bot, ch, ins, A1, c1, A2, c2, A3, c3, us3, rfl, hb, hL, HX, t1, t2, t3, t4, t5, t6, g0, g1, g2, g3, g4, g5, g6⟩ := cel_at HC.out HL.out (wr := wr) (fun p hp => hbel.cell (by omega)) hlt
        have hbw : b < wr.heap.size := by have := hbel.size; omega
        go_wp2_with fail
        refine (join_any _ _ _ hm hL).mono ?_
        rintro e w' ⟨rfl, rfl⟩
        go_wp2_with fail
        have hbo : Below w.heap.size w (wr.alloc (.cells #[.int .u64 (L : Int), .int .i64 kind, .bool neg, .slice A1 top.length c1, .slice A2 bot.length c2, .int .i64 ch, .slice A3 ins.length c3] 85)) := hbel.alloc (by have := hbel.size; omega) _
        obtain ⟨wo, rfl⟩ : ∃ wo : World, wo = wr := ⟨_, rfl⟩
        have hjl : Lab.join m L < 18446744073709551616 := Lab.join_lt hm hL
        clear g0 g1 g2 g3 g4 g5 g6 hbel
        go_loopw [3, 24] (fun x j wr => ∃ i m' : Nat, i ≤ ins.length ∧ j = .int .i64 i ∧ x = .int .u64 (m' : Int) ∧ m' < 18446744073709551616 ∧ Hid (totArrs m' (ins.drop i) = totCel m cells[k]) ∧ Below w.heap.size w wr) (fun _ j _ => ins.length - (intOf j).toNat)
        case atStart => exact ⟨0, _, Nat.zero_le _, rfl, rfl, hjl, Lib.hid (by rw [HX.out.eq]; rfl), hbo⟩
        case round =>
          obtain ⟨i, m', hi, rfl, rfl, hm', HT', hbel⟩ := hrel
          have hsz := hbel.size
          by_cases hlt' : i < ins.length
          · obtain ⟨b', off', S', X, xn, xc, X', xn', xc', rfl, hb', HA, e0, e1, e2⟩ := arr_at HX.out.arrs HX.out.li (wr := wr) (fun p hp => hbel.cell (by omega)) hlt'
            have hbw' : b' < wr.heap.size := by omega
            have IH := Lib.hid (ih ins[i] [.int .u64 (S' : Int), .slice X xn xc, .slice X' xn' xc'] (wr.alloc (Obj.cells #[Value.int .u64 (S' : Int), .slice X xn xc, .slice X' xn' xc'] 43)) B (by have := size_ins (S := S) (shape := shape) hlt HX.out.eq hlt'; have := HN.out; omega) (HA.out.below (hbel.mono (by omega) |>.alloc (by omega) _)) (by simp; omega))
            have hbt := hbel.alloc (by omega) (Obj.cells #[Value.int .u64 (S' : Int), .slice X xn xc, .slice X' xn' xc'] 43)
            go_wp2_with fail
            refine IH.out.mono ?_
            rintro e w2 ⟨rfl, hb2⟩
            have hb3 := hbt.trans (hb2.mono (by simp; omega))
            have htl : tot ins[i] < 18446744073709551616 := tot_lt _ _ HA.out
            go_wp2_with fail
            refine (join_any _ _ _ hm' htl).mono ?_
            rintro e w' ⟨rfl, rfl⟩
            go_wp2_with fail
            go_roundw
            case rel => exact ⟨i + 1, Lab.join m' (tot ins[i]), by omega, by go_num, rfl, Lab.join_lt hm' htl, Lib.hid (by rw [← HT'.out, totArrs_drop hlt']; rfl), hb3⟩
            case measure => simp [intOf]; omega
          · have hie : i = ins.length := by omega
            have HT2 : Hid (m' = totCel m cells[k]) := Lib.hid (by have := HT'.out; rw [hie, List.drop_length, totArrs] at this; exact this)
            clear HT' hie
            go_wp2_with fail
            go_roundw
            case rel => exact ⟨k + 1, m', by omega, by go_num, rfl, hm', Lib.hid (by rw [HT2.out, ← totCels_drop hlt]; exact HT.out), hbel⟩
            case measure => simp [intOf]; omega
      · have hke : k = cells.length := by omega
        have HT2 : Hid (m = tot (.mk S shape cells)) := Lib.hid (by have := HT.out; rw [hke, List.drop_length, totCels] at this; exact this)
        clear HT hke
        go_wp2_with fail
        go_ret
        exact ⟨ret_int (by rw [HT2.out]), hbel⟩
end Go.Proofs.YtmiccalfamepdaaGreatDoor

/-
  The reference's Few of an array: some answer.
-/
namespace Go.Proofs.YtmiccalfamepdaaGreatDoor
open Go.RowKit Ar
set_option maxHeartbeats 1000000
set_option linter.unusedVariables false

def SomeLeft (w : World) (e : Ending) (w' : World) : Prop := ∃ r : Int, e = .returned (.int .i64 r) ∧ -140737488355328 ≤ r ∧ r ≤ 4000 ∧ Below w.heap.size w w'
def SomeBool (w : World) (e : Ending) (w' : World) : Prop := ∃ r : Bool, e = .returned (.bool r) ∧ Below w.heap.size w w'
theorem below_drewN {B : Nat} {a w : World} (h : Below B a w) (n : Nat) : Below B a (w.drewN n) := ⟨h.os, h.tape, h.output, h.size, h.block⟩

theorem left_any (n : Nat) : ∀ (a : Arr) (vs : List Value) (d x : Int) (w : World) (B : Nat), SizeOf.sizeOf a < n → IsArr w B a vs → B ≤ w.heap.size → 0 ≤ d → d ≤ 12 → 0 ≤ x → x ≤ 4000 →
    Calls Tryz.prog 46 #[.agg vs.toArray, .int .i64 d, .int .i64 x] w (SomeLeft w) := by
  induction n with
  | zero => intro a vs d x w B h; omega
  | succ n ih =>
    intro a vs d x w B hn h hB hd0 hd1 hx0 hx1
    obtain ⟨S, shape, cells⟩ := a
    rw [IsArr] at h
    obtain ⟨A, c, A', c', us, rfl, hS, hf, hf', hw, hl, hl', hcs⟩ := h
    have HC := Lib.hid hcs
    have HL := Lib.hid hl'
    have hfl := (hf'.le (by omega))
    have hfs : shape.length ≤ 17592186044416 := by have h1 := hf.1; have h2 := hf.2; omega
    have hn' : SizeOf.sizeOf (Arr.mk S shape cells) ≤ n := by omega
    have HN := Lib.hid hn'
    clear hcs hl' hl hf hw hn hn'
    obtain ⟨W, hW⟩ : ∃ W, W = w.alloc (.cells #[.int .u64 (S : Int), .slice A shape.length c, .slice A' cells.length c'] 43) := ⟨_, rfl⟩
    have hWs : W.heap.size = w.heap.size + 1 := by rw [hW]; simp
    have hWb : Below w.heap.size w W := by rw [hW]; exact (Below.refl _ _).alloc (Nat.le_refl _) _
    have hWc : W.cell? ⟨w.heap.size, 2, none⟩ = some (.slice A' cells.length c') := by rw [hW]; simp [go_sem]
    have HW := Lib.hid hW
    have HWs := Lib.hid hWs
    have HWc := Lib.hid hWc
    have hWl : w.heap.size < W.heap.size := by omega
    by_cases hd : d = 0
    · subst hd
      clear hW hWs hWc
      go_enter Tryz.func46, Tryz.ntmps46
      go_wp2_with fail
      rw [← HW.out]
      go_ret
      exact ⟨-1, rfl, by omega, by omega, hWb⟩
    · have hdb : (d == 0) = false := by simpa using hd
      clear hW hWs hWc hd
      go_enter Tryz.func46, Tryz.ntmps46
      go_wp2_with fail
      rw [← HW.out]
      go_loopw [2, 7] (fun x i wr => ∃ (k : Nat) (m : Int), k ≤ cells.length ∧ i = .int .i64 k ∧ x = .int .i64 m ∧ -140737488355328 ≤ m ∧ m ≤ 4000 ∧ Below W.heap.size W wr) (fun _ i _ => cells.length - (intOf i).toNat)
      case atStart => exact ⟨0, _, Nat.zero_le _, rfl, rfl, by omega, by omega, Below.refl _ _⟩
      case round =>
        obtain ⟨k, m, hk, rfl, rfl, hm0, hm1, hbel⟩ := hrel
        have hbox : wr.cell? ⟨w.heap.size, 2, none⟩ = some (.slice A' cells.length c') := (hbel.cell (p := ⟨w.heap.size, 2, none⟩) hWl).trans HWc.out
        by_cases hlt : k < cells.length
        · by_cases hm : 0 ≤ m
          · obtain ⟨b, off, L, kind, neg, top, bot, ch, ins, A1, c1, A2, c2, A3, c3, us3, rfl, hb, hL, HX, t1, t2, t3, t4, t5, t6, g0, g1, g2, g3, g4, g5, g6⟩ := cel_at HC.out HL.out (wr := wr) (fun p hp => (hbel.cell (by omega)).trans (hWb.cell (by omega))) hlt
            have HG6 := Lib.hid ((hbel.cell (p := ⟨b, off + k * 7 + 6, none⟩) (show b < W.heap.size by omega)).symm.trans g6)
            clear g0 g1 g2 g5 g6
            have hk0 : (0 : Int) ≤ (k : Int) := by omega
            have hk1 : (k : Int) < (cells.length : Int) := by omega
            go_wp2_with fail
            go_quiet (fail)
            go_wp2_with fail
            clear g3 g4 hbox
            obtain ⟨wo, hwo⟩ : ∃ wo : World, wo = wr.drewN nq := ⟨_, rfl⟩
            have hbo : Below W.heap.size W wo := by rw [hwo]; exact below_drewN hbel nq
            rw [← hwo]
            clear hwo hbel
            go_loopw [2, 8] (fun x j wr => ∃ (i : Nat) (m' : Int), i ≤ ins.length ∧ j = .int .i64 i ∧ x = .int .i64 m' ∧ -140737488355328 ≤ m' ∧ m' ≤ 4000 ∧ Below W.heap.size W wr) (fun _ j _ => ins.length - (intOf j).toNat)
            case atStart => exact ⟨0, _, Nat.zero_le _, rfl, rfl, by omega, by omega, hbo⟩
            case round =>
              clear hbo
              obtain ⟨i, m', hi, rfl, rfl, hm0', hm1', hbel⟩ := hrel
              have hsz := hbel.size
              have hbox : wr.cell? ⟨w.heap.size, 2, none⟩ = some (.slice (some ⟨b, off, none⟩) cells.length c') := (hbel.cell (p := ⟨w.heap.size, 2, none⟩) hWl).trans HWc.out
              have g6 : wr.cell? ⟨b, off + k * 7 + 6, none⟩ = some (.slice A3 ins.length c3) := (hbel.cell (p := ⟨b, off + k * 7 + 6, none⟩) (show b < W.heap.size by omega)).trans HG6.out
              by_cases hlt' : i < ins.length
              · by_cases hm' : 0 ≤ m'
                · obtain ⟨b', off', S', X, xn, xc, X', xn', xc', rfl, hb', HA, e0, e1, e2⟩ := arr_at HX.out.arrs HX.out.li (wr := wr) (fun p hp => (hbel.cell (by omega)).trans (hWb.cell (by omega))) hlt'
                  have IH := Lib.hid (ih ins[i] [.int .u64 (S' : Int), .slice X xn xc, .slice X' xn' xc'] (d - 1) m' wr B (by have := size_ins (S := S) (shape := shape) hlt HX.out.eq hlt'; have := HN.out; omega) (HA.out.below ((hWb.mono (by omega)).trans (hbel.mono (by omega)))) (by omega) (by simp at hdb; omega) (by omega) hm' hm1')
                  go_wp2_with fail
                  refine IH.out.mono ?_
                  rintro e w2 ⟨r, rfl, hr0, hr1, hb2⟩
                  have hb3 := hbel.trans (hb2.mono (by omega))
                  go_wp2_with fail
                  go_roundw
                  case rel => exact ⟨i + 1, r, by omega, by go_num, rfl, hr0, hr1, hb3⟩
                  case measure => simp [intOf]; omega
                · have hm2 : m' < 0 := by omega
                  go_wp2_with fail
                  go_roundw
                  case rel => exact ⟨k + 1, m', by omega, by go_num, rfl, hm0', hm1', hbel⟩
                  case measure => simp [intOf]; omega
              · go_wp2_with fail
                go_roundw
                case rel => exact ⟨k + 1, m', by omega, by go_num, rfl, hm0', hm1', hbel⟩
                case measure => simp [intOf]; omega
          · have hm2 : m < 0 := by omega
            go_wp2_with fail
            go_ret
            exact ⟨m, rfl, hm0, hm1, hWb.trans (hbel.mono (by omega))⟩
        · go_wp2_with fail
          go_ret
          exact ⟨m, rfl, hm0, hm1, hWb.trans (hbel.mono (by omega))⟩

theorem fewArr_any (a : Arr) (vs : List Value) (w : World) (B : Nat) (h : IsArr w B a vs) (hB : B ≤ w.heap.size) :
    Calls Tryz.prog 17 #[.agg vs.toArray] w (SomeBool w) := by
  have HL := Lib.hid (fun (wx : World) (hx : Below w.heap.size w wx) => left_any _ a vs 12 4000 wx B (Nat.lt_succ_self _) (h.below (hx.mono hB)) (Nat.le_trans hB hx.size) (by omega) (by omega) (by omega) (by omega))
  obtain ⟨S, A, n, c, A', n', c', rfl⟩ := h.form
  clear h
  go_enter Tryz.func17, Tryz.ntmps17
  go_wp2_with fail
  refine (HL.out _ (by first | exact Below.refl _ _ | exact (Below.refl _ _).alloc (Nat.le_refl _) _)).mono ?_
  rintro e w2 ⟨r, rfl, hr0, hr1, hb2⟩
  go_wp2_with fail
  go_ret
  exact ⟨_, rfl, by first | exact hb2 | exact (((Below.refl _ _).alloc (Nat.le_refl _) _).trans (hb2.mono (by simp)))⟩
end Go.Proofs.YtmiccalfamepdaaGreatDoor

/-
  The reference's Count of a shape, May of a character; zero, Simple.
-/
namespace Go.Proofs.YtmiccalfamepdaaGreatDoor
open Go.RowKit Ar
set_option maxHeartbeats 2000000
set_option linter.unusedVariables false

theorem refCount_any (l : List Int) (A : Option Addr) (c : Nat) (w : World) (B : Nat) (hA : Lies w B A (I64 l)) (hn : l.length ≤ 9223372036854775807) :
    Calls Tryz.prog 49 #[.slice A l.length c] w fun e w' => e = .returned (.tuple #[.int .i64 (cnt l).1, .int .i64 (cnt l).2]) ∧ Below w.heap.size w w' := by
  have HA := Lib.hid hA
  have HC : Hid (cnt l = _) := Lib.hid (cnt.eq_1 l)
  clear hA
  by_cases h6 : 6 < l.length
  · rw [if_pos h6] at HC
    generalize cnt l = R at *
    go_enter Tryz.func49, Tryz.ntmps49
    go_wp2_with fail
    go_ret2
    exact ⟨by rw [HC.out]; rfl, Below.refl _ _⟩
  · rw [if_neg h6] at HC
    generalize cnt l = R at *
    have hn6 : l.length ≤ 6 := by omega
    clear h6 hn
    go_enter Tryz.func49, Tryz.ntmps49
    go_wp2_with fail
    go_loop [4, 5, 6] (fun b z i => ∃ k : Nat, k ≤ l.length ∧ i = .int .i64 k ∧ b = .bool ((l.take k).any fun x => decide (2048 < x)) ∧ z = .bool ((l.take k).any fun x => x == 0) ∧ Hid ((l.take k).any (fun x => decide (x < 0)) = false)) (fun _ _ i => l.length - (intOf i).toNat)
    case atStart => exact ⟨0, Nat.zero_le _, rfl, rfl, rfl, Lib.hid rfl⟩
    case round =>
      obtain ⟨k, hk, rfl, rfl, rfl, HT⟩ := hrel
      by_cases hlt : k < l.length
      · obtain ⟨b, off, rfl, hb, g0⟩ := lies_i64 HA.out hlt
        have E1 := Lib.hid (any_take_succ (p := fun x => decide (2048 < x)) hlt)
        have E2 := Lib.hid (any_take_succ (p := fun x => x == 0) hlt)
        have E3 := Lib.hid (any_take_succ (p := fun x => decide (x < 0)) hlt)
        have E4 := Lib.hid (any_at (p := fun x => decide (x < 0)) hlt)
        generalize l[k] = x at *
        generalize ((l.take k).any fun x => decide (2048 < x)) = y1 at *
        generalize ((l.take k).any fun x => x == 0) = y2 at *
        have hk0 : (0 : Int) ≤ (k : Int) := by omega
        have hk1 : (k : Int) < (l.length : Int) := by omega
        by_cases hx : x < 0
        · have E5 := Lib.hid (E4.out (decide_eq_true hx))
          go_wp2_with fail
          go_ret2
          exact ⟨by rw [HC.out, if_pos E5.out]; rfl, Below.refl _ _⟩
        · have E5 : Hid ((l.take (k + 1)).any (fun x => decide (x < 0)) = false) := Lib.hid (by rw [E3.out, HT.out, decide_eq_false hx]; rfl)
          have q1 : decide (x < 0) = false := decide_eq_false hx
          have q1' : 0 ≤ x := by omega
          clear HT E3 E4 hx
          rcases Bool.eq_false_or_eq_true (decide (2048 < x)) with q2 | q2
          all_goals
            rcases Bool.eq_false_or_eq_true (x == 0) with q3 | q3
          all_goals
            rw [q2] at E1
            rw [q3] at E2
            cases y1
          all_goals
            cases y2
          all_goals
            go_wp2_with fail
            go_round
            case rel => exact ⟨k + 1, by omega, by go_num, by rw [E1.out]; rfl, by rw [E2.out]; rfl, E5⟩
            case measure => simp [intOf]; omega
      · have hke : l.take k = l := List.take_of_length_le (by omega)
        rw [hke] at HT
        have HC2 : Hid (R = _) := Lib.hid (HC.out.trans (if_neg (by rw [HT.out]; decide)))
        have HNA := Lib.hid (fun (j : Nat) (hj : j < l.length) => not_any_at HT.out hj)
        rw [hke]
        clear HT HC hke
        obtain ⟨y1, hy1⟩ : ∃ y, y = l.any fun x => decide (2048 < x) := ⟨_, rfl⟩
        obtain ⟨y2, hy2⟩ : ∃ y, y = l.any fun x => x == 0 := ⟨_, rfl⟩
        rw [← hy1, ← hy2] at HC2 ⊢
        have HY1 := Lib.hid hy1.symm
        have HY2 := Lib.hid hy2.symm
        clear hy1 hy2
        cases y1
        · cases y2
          · have HX : Hid (∀ (j : Nat) (hj : j < l.length), 1 ≤ l[j] ∧ l[j] ≤ 2048) := Lib.hid (fun j hj => by
              have a1 := HNA.out j hj
              have a2 := not_any_at HY1.out hj
              have a3 := not_any_at HY2.out hj
              simp at a1 a2 a3
              omega)
            have HC3 : Hid (R = _) := Lib.hid (HC2.out.trans ((if_neg (by decide)).trans (if_neg (by decide))))
            clear HC2 HNA HY1 HY2
            go_wp2_with fail
            go_loop [7, 8] (fun m i => ∃ (k : Nat) (n : Int), k ≤ l.length ∧ i = .int .i64 k ∧ m = .int .i64 n ∧ 1 ≤ n ∧ n ≤ 2048 ∧ Hid (prodN n (l.drop k) = prodN 1 l)) (fun _ i => l.length - (intOf i).toNat)
            case atStart => exact ⟨0, 1, Nat.zero_le _, rfl, rfl, by omega, by omega, Lib.hid rfl⟩
            case round =>
              obtain ⟨k, n, hk, rfl, rfl, hn1, hn2, HT⟩ := hrel
              by_cases hlt : k < l.length
              · obtain ⟨b, off, rfl, hb, g0⟩ := lies_i64 HA.out hlt
                have HT2 : Hid (prodN 1 l = _) := Lib.hid (HT.out.symm.trans (prodN_drop hlt))
                have hx := HX.out k hlt
                generalize l[k] = x at *
                have hk0 : (0 : Int) ≤ (k : Int) := by omega
                have hk1 : (k : Int) < (l.length : Int) := by omega
                have hp1 : 1 * 1 ≤ n * x := Int.mul_le_mul hn1 hx.1 (by omega) (by omega)
                have hp2 : n * x ≤ 2048 * 2048 := Int.mul_le_mul hn2 hx.2 (by omega) (by omega)
                have hp3 : 1 ≤ n * x := by omega
                have hp4 : n * x ≤ 4194304 := by omega
                clear hp1 hp2
                obtain ⟨p, hp⟩ : ∃ p, p = n * x := ⟨_, rfl⟩
                rw [← hp] at HT2 hp3 hp4
                have HP : Hid (p = n * x) := Lib.hid hp
                have hw : IntKind.i64.wrap (n * x) = p := by rw [← hp]; exact IntWalk.i64_in _ (by omega)
                clear hp
                by_cases hb : 2048 < p
                · go_wp2_with fail
                  go_ret2
                  exact ⟨by rw [HC3.out, HT2.out, if_pos hb]; rfl, Below.refl _ _⟩
                · go_wp2_with fail
                  go_round
                  case rel => exact ⟨k + 1, p, by omega, by go_num, rfl, hp3, by omega, Lib.hid (by rw [HT2.out, if_neg hb])⟩
                  case measure => simp [intOf]; omega
              · have HE : Hid (prodN 1 l = some n) := Lib.hid (HT.out.symm.trans (prodN_end (by omega)))
                go_wp2_with fail
                go_ret2
                exact ⟨by rw [HC3.out, HE.out]; rfl, Below.refl _ _⟩
          · have HC3 : Hid (R = _) := Lib.hid (HC2.out.trans ((if_neg (by decide)).trans (if_pos rfl)))
            go_wp2_with fail
            go_ret2
            exact ⟨by rw [HC3.out]; rfl, Below.refl _ _⟩
        · have HC3 : Hid (R = _) := Lib.hid (HC2.out.trans (if_pos rfl))
          go_wp2_with fail
          go_ret2
          exact ⟨by rw [HC3.out]; rfl, Below.refl _ _⟩

theorem refMay6_any (c : Int) (w : World) (h1 : -9223372036854775808 ≤ c) (h2 : c ≤ 9223372036854775807) :
    Calls Tryz.prog 77 #[.int .i64 c] w fun e w' => e = .returned (.bool (mayB c)) ∧ w = w' := by
  have HC : Hid (mayB c = _) := Lib.hid (mayB.eq_1 c)
  generalize mayB c = R at *
  by_cases a : 0 ≤ c
  · by_cases b : c ≤ 1114111
    · by_cases d : c < 55296
      · go_enter Tryz.func77, Tryz.ntmps77
        go_wp2_with fail
        go_ret
        exact ⟨ret_bool (by rw [HC.out]; simp [a, b, d]), rfl⟩
      · by_cases e : 57343 < c
        · go_enter Tryz.func77, Tryz.ntmps77
          go_wp2_with fail
          go_ret
          exact ⟨ret_bool (by rw [HC.out]; simp [a, b, d, e]), rfl⟩
        · go_enter Tryz.func77, Tryz.ntmps77
          go_wp2_with fail
          go_ret
          exact ⟨ret_bool (by rw [HC.out]; simp [a, b, d, e]), rfl⟩
    · go_enter Tryz.func77, Tryz.ntmps77
      go_wp2_with fail
      go_ret
      exact ⟨ret_bool (by rw [HC.out, show decide (c ≤ 1114111) = false from decide_eq_false (by omega)]; simp), rfl⟩
  · go_enter Tryz.func77, Tryz.ntmps77
    go_wp2_with fail
    go_ret
    exact ⟨ret_bool (by rw [HC.out, show decide (0 ≤ c) = false from decide_eq_false (by omega)]; simp), rfl⟩
end Go.Proofs.YtmiccalfamepdaaGreatDoor

/-
  Numbers by the reference: scrimref04.Top, Bot, Make. (Printed by wip/bin/gen_rat2.py.)
-/
namespace Go.Proofs.YtmiccalfamepdaaGreatDoor
open Go.RowKit
set_option maxHeartbeats 4000000
set_option maxRecDepth 100000
set_option linter.unusedVariables false

theorem top_any (n : Bool) (v1 v2 : Value) (l1 l2 : List Nat) (w : World) (h1 : ResL w v1 l1) (h2 : ResL w v2 l2) :
    Calls Tryz.prog 110 #[.agg #[.bool n, v1, v2]] w (Int3Out w (Rt.nrm n (Nt.val l1)) (Nt.digs (Nt.val l1))) := by
  have hb0 : ∀ o1 o2, Below w.heap.size w ((w.alloc o1).alloc o2) := fun o1 o2 => ((Below.refl _ _).alloc (Nat.le_refl _) _).alloc (by simp) _
  have HN := Lib.hid (fun o1 o2 => norm3_any n v1 _ _ (h1.below (hb0 o1 o2)))
  have HB := Lib.hid hb0
  obtain ⟨⟨A1, c1, rfl, -⟩, -⟩ := h1
  obtain ⟨⟨A2, c2, rfl, -⟩, -⟩ := h2
  clear hb0
  generalize Rt.nrm n (Nt.val l1) = n2 at *
  generalize Nt.digs (Nt.val l1) = d2 at *
  generalize l1.length = k1 at *
  generalize l2.length = k2 at *
  have HI2 : Hid (∀ (b : Bool) (A : Option Addr) (k c : Nat), (Tryz.prog.info? 136).map (·.size) = some (#[.bool b, .slice A k c] : Array Value).size) := Lib.hid (fun _ _ _ _ => int3_info)
  go_enter Tryz.func110, Tryz.ntmps110
  go_wp2_with fail
  refine (HN.out _ _).mono ?_
  rintro e w2 ⟨v3, rfl, hr2, hb2⟩
  have hb3 := (HB.out _ _).trans (hb2.mono (HB.out _ _).size)
  have HG1 : Hid (w2.heap[w.heap.size + 1]? = some (.cells #[.bool false, .slice none 0 0] 136 (0, 0))) := Lib.hid ((hb2.block (w.heap.size + 1) (by simp)).trans (by
    have := heap_alloc_new (w.alloc (.cells #[.bool n, .slice A1 k1 c1, .slice A2 k2 c2] 83)) (.cells #[.bool false, .slice none 0 0] 136)
    rwa [show (w.alloc (.cells #[.bool n, .slice A1 k1 c1, .slice A2 k2 c2] 83)).heap.size = w.heap.size + 1 by simp] at this))
  have HR2 := Lib.hid (hr2.setRow HG1.out (two_no_int _ _ _ _) #[.bool n2, v3])
  obtain ⟨⟨A3, c3, rfl, -⟩, -⟩ := hr2
  clear hb2
  generalize d2.length = k3 at *
  go_wp2_with (first
    | (with_reducible refine wpList_store_row rfl 136 (.tmp 2) (.tmp 8) rfl (w.heap.size + 1) #[.bool n2, .slice A3 k3 c3] rfl rfl 136 #[.bool false, .slice none 0 0] HG1.out (HI2.out _ _ _ _) rfl (two_one _ _ _ _) ?_))
  refine bodyPost_ret (results_cell_row (by rfl) _ _ (w.heap.size + 1) 136 #[.bool n2, .slice A3 k3 c3] (0, 0) _ (by rfl) (rheap_same HG1.out) Tryz.underlying136 rfl (HI2.out _ _ _ _)) rfl ⟨.slice A3 k3 c3, rfl, HR2.out, rBelow.setRow hb3 (by omega) _⟩

theorem bot_any (n : Bool) (v1 v2 : Value) (l1 l2 : List Nat) (w : World) (h1 : ResL w v1 l1) (h2 : ResL w v2 l2) :
    Calls Tryz.prog 111 #[.agg #[.bool n, v1, v2]] w (Int3Out w (Rt.nrm false (Nt.val l2)) (Nt.digs (Nt.val l2))) := by
  have hb0 : ∀ o1 o2, Below w.heap.size w ((w.alloc o1).alloc o2) := fun o1 o2 => ((Below.refl _ _).alloc (Nat.le_refl _) _).alloc (by simp) _
  have HN := Lib.hid (fun o1 o2 => norm3_any false v2 _ _ (h2.below (hb0 o1 o2)))
  have HB := Lib.hid hb0
  obtain ⟨⟨A1, c1, rfl, -⟩, -⟩ := h1
  obtain ⟨⟨A2, c2, rfl, -⟩, -⟩ := h2
  clear hb0
  generalize Rt.nrm false (Nt.val l2) = n2 at *
  generalize Nt.digs (Nt.val l2) = d2 at *
  generalize l1.length = k1 at *
  generalize l2.length = k2 at *
  have HI2 : Hid (∀ (b : Bool) (A : Option Addr) (k c : Nat), (Tryz.prog.info? 136).map (·.size) = some (#[.bool b, .slice A k c] : Array Value).size) := Lib.hid (fun _ _ _ _ => int3_info)
  go_enter Tryz.func111, Tryz.ntmps111
  go_wp2_with fail
  refine (HN.out _ _).mono ?_
  rintro e w2 ⟨v3, rfl, hr2, hb2⟩
  have hb3 := (HB.out _ _).trans (hb2.mono (HB.out _ _).size)
  have HG1 : Hid (w2.heap[w.heap.size + 1]? = some (.cells #[.bool false, .slice none 0 0] 136 (0, 0))) := Lib.hid ((hb2.block (w.heap.size + 1) (by simp)).trans (by
    have := heap_alloc_new (w.alloc (.cells #[.bool n, .slice A1 k1 c1, .slice A2 k2 c2] 83)) (.cells #[.bool false, .slice none 0 0] 136)
    rwa [show (w.alloc (.cells #[.bool n, .slice A1 k1 c1, .slice A2 k2 c2] 83)).heap.size = w.heap.size + 1 by simp] at this))
  have HR2 := Lib.hid (hr2.setRow HG1.out (two_no_int _ _ _ _) #[.bool n2, v3])
  obtain ⟨⟨A3, c3, rfl, -⟩, -⟩ := hr2
  clear hb2
  generalize d2.length = k3 at *
  go_wp2_with (first
    | (with_reducible refine wpList_store_row rfl 136 (.tmp 2) (.tmp 6) rfl (w.heap.size + 1) #[.bool n2, .slice A3 k3 c3] rfl rfl 136 #[.bool false, .slice none 0 0] HG1.out (HI2.out _ _ _ _) rfl (two_one _ _ _ _) ?_))
  refine bodyPost_ret (results_cell_row (by rfl) _ _ (w.heap.size + 1) 136 #[.bool n2, .slice A3 k3 c3] (0, 0) _ (by rfl) (rheap_same HG1.out) Tryz.underlying136 rfl (HI2.out _ _ _ _)) rfl ⟨.slice A3 k3 c3, rfl, HR2.out, rBelow.setRow hb3 (by omega) _⟩

/-- What holds while the operations of 'x, y := Norm(p), Norm(q)' come up. -/
structure MI (w : World) (P Q : Array Value) (N1 N2 : Bool) (D1 D2 : List Nat) (b0 b1 b2 b3 b4 b5 b6 b7 : Bool) (x15 x16 x17 x18 x6 x7 : Value) (wx : World) : Prop where
  below : Below w.heap.size w wx
  v15 : b0 = true → x15 = .agg P
  v16 : b1 = true → ∃ v, x16 = .agg #[.bool N1, v] ∧ ResL wx v D1
  v17 : b2 = true → x17 = .agg Q
  v18 : b3 = true → ∃ v, x18 = .agg #[.bool N2, v] ∧ ResL wx v D2
  v6 : b4 = true → ∃ g n A k c, x6 = .pointer (some ⟨g, 0, none⟩) ∧ w.heap.size ≤ g ∧ wx.heap[g]? = some (.cells #[.bool n, .slice A k c] 136 (0, 0)) ∧ (b6 = true → x16 = .agg #[.bool n, .slice A k c])
  v7 : b5 = true → ∃ g n A k c, x7 = .pointer (some ⟨g, 0, none⟩) ∧ w.heap.size ≤ g ∧ wx.heap[g]? = some (.cells #[.bool n, .slice A k c] 136 (0, 0)) ∧ (b7 = true → x18 = .agg #[.bool n, .slice A k c])
  o6 : b6 = true → b4 = true ∧ b1 = true
  o7 : b7 = true → b5 = true ∧ b3 = true
  ne : b4 = true → b5 = true → x6 ≠ x7
def frameM (g : Nat) (P Q : Array Value) (x15 x16 x17 x18 x6 x7 : Value) : Act := { tmps := #[.agg P, .agg Q, .pointer (some ⟨g, 0, none⟩), .pointer (some ⟨g + 1, 0, none⟩), .pointer (some ⟨g + 1 + 1, 0, none⟩), .int .i64 0, x6, x7, undef, undef, undef, undef, undef, undef, undef, x15, x16, x17, x18, undef, undef, undef, undef, undef, undef, undef, undef, undef, undef, undef, undef, undef, undef, undef, undef, undef, undef, undef, undef, undef, undef, undef, undef, undef, undef, undef, undef, undef, undef, undef, undef, undef, undef, undef, undef, undef, undef, undef, undef, undef, undef, undef, undef, undef, undef, undef, undef], defers := [] }
def MInv (w : World) (g : Nat) (P Q : Array Value) (N1 N2 : Bool) (D1 D2 : List Nat) (l : Array Bool) (a : Act) (wx : World) : Prop :=
  ∃ b0 b1 b2 b3 b4 b5 b6 b7 x15 x16 x17 x18 x6 x7, l = #[b0, b1, b2, b3, b4, b5, b6, b7] ∧ a = frameM g P Q x15 x16 x17 x18 x6 x7 ∧ MI w P Q N1 N2 D1 D2 b0 b1 b2 b3 b4 b5 b6 b7 x15 x16 x17 x18 x6 x7 wx
theorem rheap_far {w : World} {g g' : Nat} {cs : Array Value} (h : g ≠ g') : (w.setRow g cs).heap[g']? = w.heap[g']? := by
  simp only [World.setRow, Array.getElem?_modify]
  rw [if_neg (by omega)]
theorem blk_lt {w : World} {g : Nat} {o : Obj} (h : w.heap[g]? = some o) : g < w.heap.size := by
  rcases Nat.lt_or_ge g w.heap.size with hl | hl
  · exact hl
  · rw [Array.getElem?_eq_none hl] at h; cases h
theorem mem_ready' {md : Region.Mode} {ops : Array Oper} {l : Array Bool} {i : Nat} (h : i < ops.size) (h1 : l.getD i true = false) (h2 : ((ops[i]?).map (·.after.all fun e => !Region.binds md e || l.getD e.on false)).getD false = true) : i ∈ Region.ready md ops l := by
  simp only [Region.ready, List.mem_filter, List.mem_range, Bool.and_eq_true, Bool.not_eq_true']
  exact ⟨h, h1, h2⟩
theorem ready_nil' {md : Region.Mode} {ops : Array Oper} {l : Array Bool} (hr : Region.ready md ops l = []) (i : Nat) (h : i < ops.size) (h2 : ((ops[i]?).map (·.after.all fun e => !Region.binds md e || l.getD e.on false)).getD false = true) : l.getD i true = true := by
  cases e : l.getD i true
  · have := mem_ready' h e h2
    rw [hr] at this; cases this
  · rfl
theorem results_cell_row_tmp {P : Program} {fn : Func} {p u : Tmp} {ty : TypeId} (h : fn.results = #[.cell p ty, .tmp u]) (tmps : Array Value) (w : World) (g : Nat) (t : TypeId) (cs : Array Value) (fr : Nat × Nat) (d : TypeDesc) (x : Value)
    (hp : tmps.getD p undef = .pointer (some ⟨g, 0, none⟩)) (hx : tmps.getD u undef = x) (hg : w.heap[g]? = some (.cells cs t fr))
    (hu : P.underlying ty = some d) (hd : (match d with | .struct _ | .array _ _ => true | _ => false) = true) (hi : (P.info? ty).map (·.size) = some cs.size) :
    (results fn tmps).run P w = .ok (.tuple #[.agg cs, x]) w := by
  have hp' : tmps[p]?.getD undef = .pointer (some ⟨g, 0, none⟩) := by simpa using hp
  have hx' : tmps[u]?.getD undef = x := by simpa using hx
  simp [results, h, hp', hx', asAddr, run_loadVar_row w g t ty cs fr d hg hu hd hi]
theorem isRes_nil (w : World) : IsRes w (.slice none 0 0) [] := ⟨none, 0, rfl, Nat.le_refl _, by omega, fun _ => rfl, .inl rfl⟩
/-- A number, and the error. -/
def MakeOut (w : World) (r : Rt.Nm × Int) (e : Ending) (w' : World) : Prop := ∃ t u, e = .returned (.tuple #[.agg #[.bool r.1.neg, t, u], .int .i64 r.2]) ∧ IsRes w' t r.1.top ∧ IsRes w' u r.1.bot ∧ Below w.heap.size w w'
theorem MakeOut.of {w w' : World} {r : Rt.Nm × Int} {e : Ending} {b : Bool} {t u : Value} {l l' : List Nat} {er : Int} (hr : r = (⟨b, l, l'⟩, er)) (he : e = .returned (.tuple #[.agg #[.bool b, t, u], .int .i64 er])) (h1 : IsRes w' t l) (h2 : IsRes w' u l') (h3 : Below w.heap.size w w') : MakeOut w r e w' := by
  subst hr; exact ⟨t, u, he, h1, h2, h3⟩

theorem make_any (n1 n2 : Bool) (v1 v2 : Value) (l1 l2 : List Nat) (w : World) (h1 : ResL w v1 l1) (h2 : ResL w v2 l2) :
    Calls Tryz.prog 109 #[.agg #[.bool n1, v1], .agg #[.bool n2, v2]] w (MakeOut w (Rt.mk n1 n2 (Nt.val l1) (Nt.val l2))) := by
  obtain ⟨W, hW⟩ : ∃ W, W = ((w.alloc (.cells #[.bool n1, v1] 136)).alloc (.cells #[.bool n2, v2] 136)).alloc (.cells #[.bool false, .slice none 0 0, .slice none 0 0] 83) := ⟨_, rfl⟩
  have hWs : W.heap.size = w.heap.size + 1 + 1 + 1 := by rw [hW]; simp
  have hWb : Below w.heap.size w W := by rw [hW]; exact (((Below.refl _ _).alloc (Nat.le_refl _) _).alloc (by simp) _).alloc (by simp; omega) _
  have hW0 : W.heap[w.heap.size]? = some (.cells #[.bool n1, v1] 136 (0, 0)) := by rw [hW]; exact (Below.heap_alloc _ _ _ (by simp; omega)).trans (heap_alloc2_old _ _ _)
  have hW1 : W.heap[w.heap.size + 1]? = some (.cells #[.bool n2, v2] 136 (0, 0)) := by rw [hW]; exact (Below.heap_alloc _ _ _ (by simp)).trans (heap_alloc2_new _ _ _)
  have hW2 : W.heap[w.heap.size + 1 + 1]? = some (.cells #[.bool false, .slice none 0 0, .slice none 0 0] 83 (0, 0)) := by
    rw [hW]
    have := heap_alloc_new ((w.alloc (.cells #[.bool n1, v1] 136)).alloc (.cells #[.bool n2, v2] 136)) (.cells #[.bool false, .slice none 0 0, .slice none 0 0] 83)
    rwa [show ((w.alloc (.cells #[.bool n1, v1] 136)).alloc (.cells #[.bool n2, v2] 136)).heap.size = w.heap.size + 1 + 1 by simp] at this
  have HN1 := Lib.hid (fun (wx : World) (hx : Below W.heap.size W wx) => norm3_any n1 v1 _ wx ((h1.below hWb).below hx))
  have HN2 := Lib.hid (fun (wx : World) (hx : Below W.heap.size W wx) => norm3_any n2 v2 _ wx ((h2.below hWb).below hx))
  have HW := Lib.hid hW
  have HW0 := Lib.hid hW0
  have HW1 := Lib.hid hW1
  have HW2 := Lib.hid hW2
  rw [← Rt.mk_nrm]
  obtain ⟨⟨A1, c1, rfl, -⟩, -⟩ := h1
  obtain ⟨⟨A2, c2, rfl, -⟩, -⟩ := h2
  generalize Rt.nrm n1 (Nt.val l1) = N1 at *
  generalize Rt.nrm n2 (Nt.val l2) = N2 at *
  generalize Nt.val l1 = X at *
  generalize Nt.val l2 = Y at *
  generalize l1.length = z1 at *
  generalize l2.length = z2 at *
  clear hW hW0 hW1 hW2
  go_enter Tryz.func109, Tryz.ntmps109
  go_wp2_with fail
  rw [← HW.out]
  have hWl : w.heap.size + 1 + 1 < W.heap.size := by omega
  have HWS := Lib.hid hWs
  clear hWs
  refine wp_region_any (by kernel_rfl) ?_
  refine wpAny_inv (MInv W w.heap.size #[.bool n1, .slice A1 z1 c1] #[.bool n2, .slice A2 z2 c2] N1 N2 (Nt.digs X) (Nt.digs Y)) ?_ ?_ 8 _ _ _ (by decide) ⟨false, false, false, false, false, false, false, false, undef, undef, undef, undef, undef, undef, rfl, rfl, ⟨⟨rfl, rfl, rfl, Nat.le_refl _, fun _ _ => rfl⟩, nofun, nofun, nofun, nofun, nofun, nofun, nofun, nofun, nofun⟩⟩
  · rintro _ _ wx ⟨b0, b1, b2, b3, b4, b5, b6, b7, x15, x16, x17, x18, x6, x7, rfl, rfl, hJ⟩ i hi
    obtain ⟨h8, hl, ha⟩ := ready_mem hi
    have h8' : i < 8 := h8
    clear h8 hi
    have hsz := hJ.below.size
    rcases (show i = 0 ∨ i = 1 ∨ i = 2 ∨ i = 3 ∨ i = 4 ∨ i = 5 ∨ i = 6 ∨ i = 7 by omega) with rfl | rfl | rfl | rfl | rfl | rfl | rfl | rfl
    · refine wpOp_at rfl rfl ?_
      refine wp_load_row 136 (.tmp 2) rfl w.heap.size rfl 136 #[.bool n1, .slice A1 z1 c1] (0, 0) _ ((hJ.below.block w.heap.size (by omega)).trans HW0.out) Tryz.underlying136 rfl int3_info ?_
      exact ⟨true, b1, b2, b3, b4, b5, b6, b7, _, x16, x17, x18, x6, x7, rfl, rfl, { hJ with v15 := fun _ => rfl }⟩
    · have h0 : b0 = true := by simpa [Region.binds] using ha
      subst h0
      have hb1 : b1 = false := hl
      subst hb1
      have hb6 : b6 = false := by
        cases b6
        · rfl
        · exact absurd (hJ.o6 rfl).2 (by decide)
      subst hb6
      obtain rfl := hJ.v15 rfl
      refine wpOp_at rfl rfl ?_
      unfold frameM Oper.wp
      go_simp
      refine ((HN1.out _ hJ.below).mono ?_)
      rintro e w2 ⟨v3, rfl, hr3, hb2⟩
      exact ⟨true, true, b2, b3, b4, b5, false, b7, _, _, x17, x18, x6, x7, rfl, rfl, { hJ with
        below := hJ.below.trans (hb2.mono hsz)
        v16 := fun _ => ⟨v3, rfl, hr3⟩
        v18 := fun h => by obtain ⟨v, e, r⟩ := hJ.v18 h; exact ⟨v, e, r.below hb2⟩
        v6 := fun h => by obtain ⟨g, n, A, k, c, q1, q2, q3, q4⟩ := hJ.v6 h; exact ⟨g, n, A, k, c, q1, q2, (hb2.block g (blk_lt q3)).trans q3, nofun⟩
        v7 := fun h => by obtain ⟨g, n, A, k, c, q1, q2, q3, q4⟩ := hJ.v7 h; exact ⟨g, n, A, k, c, q1, q2, (hb2.block g (blk_lt q3)).trans q3, q4⟩
        o6 := nofun }⟩
    · refine wpOp_at rfl rfl ?_
      refine wp_load_row 136 (.tmp 3) rfl (w.heap.size + 1) rfl 136 #[.bool n2, .slice A2 z2 c2] (0, 0) _ ((hJ.below.block (w.heap.size + 1) (by omega)).trans HW1.out) Tryz.underlying136 rfl int3_info ?_
      exact ⟨b0, b1, true, b3, b4, b5, b6, b7, x15, x16, _, x18, x6, x7, rfl, rfl, { hJ with v17 := fun _ => rfl }⟩
    · have h0 : b2 = true ∧ b1 = true := by simpa [Region.binds] using ha
      obtain ⟨rfl, rfl⟩ := h0
      have hb3 : b3 = false := hl
      subst hb3
      have hb7 : b7 = false := by
        cases b7
        · rfl
        · exact absurd (hJ.o7 rfl).2 (by decide)
      subst hb7
      obtain rfl := hJ.v17 rfl
      refine wpOp_at rfl rfl ?_
      unfold frameM Oper.wp
      go_simp
      refine ((HN2.out _ hJ.below).mono ?_)
      rintro e w2 ⟨v3, rfl, hr3, hb2⟩
      exact ⟨b0, true, true, true, b4, b5, b6, false, x15, x16, _, _, x6, x7, rfl, rfl, { hJ with
        below := hJ.below.trans (hb2.mono hsz)
        v18 := fun _ => ⟨v3, rfl, hr3⟩
        v16 := fun h => by obtain ⟨v, e, r⟩ := hJ.v16 h; exact ⟨v, e, r.below hb2⟩
        v6 := fun h => by obtain ⟨g, n, A, k, c, q1, q2, q3, q4⟩ := hJ.v6 h; exact ⟨g, n, A, k, c, q1, q2, (hb2.block g (blk_lt q3)).trans q3, q4⟩
        v7 := fun h => by obtain ⟨g, n, A, k, c, q1, q2, q3, q4⟩ := hJ.v7 h; exact ⟨g, n, A, k, c, q1, q2, (hb2.block g (blk_lt q3)).trans q3, nofun⟩
        o7 := nofun }⟩
    · have hb4 : b4 = false := hl
      subst hb4
      have hb6 : b6 = false := by
        cases b6
        · rfl
        · exact absurd (hJ.o6 rfl).1 (by decide)
      subst hb6
      refine wpOp_at rfl rfl ?_
      unfold frameM Oper.wp
      go_simp
      have hba : Below wx.heap.size wx (wx.alloc (.cells #[.bool false, .slice none 0 0] 136)) := (Below.refl _ _).alloc (Nat.le_refl _) _
      exact ⟨b0, b1, b2, b3, true, b5, false, b7, x15, x16, x17, x18, _, x7, rfl, rfl, { hJ with
        below := hJ.below.alloc hsz _
        v16 := fun h => by obtain ⟨v, e, r⟩ := hJ.v16 h; exact ⟨v, e, r.below hba⟩
        v18 := fun h => by obtain ⟨v, e, r⟩ := hJ.v18 h; exact ⟨v, e, r.below hba⟩
        v6 := fun _ => ⟨wx.heap.size, false, none, 0, 0, rfl, hsz, heap_alloc_new _ _, nofun⟩
        v7 := fun h => by obtain ⟨g, n, A, k, c, q1, q2, q3, q4⟩ := hJ.v7 h; exact ⟨g, n, A, k, c, q1, q2, (hba.block g (blk_lt q3)).trans q3, q4⟩
        o6 := nofun
        ne := fun _ h => by
          obtain ⟨g, n, A, k, c, q1, q2, q3, q4⟩ := hJ.v7 h
          have := blk_lt q3
          rw [q1]; intro e; injection e with e; injection e with e; injection e with e; omega }⟩
    · have hb5 : b5 = false := hl
      subst hb5
      have hb7 : b7 = false := by
        cases b7
        · rfl
        · exact absurd (hJ.o7 rfl).1 (by decide)
      subst hb7
      refine wpOp_at rfl rfl ?_
      unfold frameM Oper.wp
      go_simp
      have hba : Below wx.heap.size wx (wx.alloc (.cells #[.bool false, .slice none 0 0] 136)) := (Below.refl _ _).alloc (Nat.le_refl _) _
      exact ⟨b0, b1, b2, b3, b4, true, b6, false, x15, x16, x17, x18, x6, _, rfl, rfl, { hJ with
        below := hJ.below.alloc hsz _
        v16 := fun h => by obtain ⟨v, e, r⟩ := hJ.v16 h; exact ⟨v, e, r.below hba⟩
        v18 := fun h => by obtain ⟨v, e, r⟩ := hJ.v18 h; exact ⟨v, e, r.below hba⟩
        v7 := fun _ => ⟨wx.heap.size, false, none, 0, 0, rfl, hsz, heap_alloc_new _ _, nofun⟩
        v6 := fun h => by obtain ⟨g, n, A, k, c, q1, q2, q3, q4⟩ := hJ.v6 h; exact ⟨g, n, A, k, c, q1, q2, (hba.block g (blk_lt q3)).trans q3, q4⟩
        o7 := nofun
        ne := fun h _ => by
          obtain ⟨g, n, A, k, c, q1, q2, q3, q4⟩ := hJ.v6 h
          have := blk_lt q3
          rw [q1]; intro e; injection e with e; injection e with e; injection e with e; omega }⟩
    · have h0 : b4 = true ∧ b1 = true ∧ b3 = true ∧ b0 = true ∧ b1 = true ∧ b4 = true ∧ b5 = true := by simpa [Region.binds] using ha
      obtain ⟨rfl, rfl, rfl, rfl, -, -, rfl⟩ := h0
      have hb6 : b6 = false := hl
      subst hb6
      obtain ⟨g, n, A, k, c, rfl, q2, q3, q4⟩ := hJ.v6 rfl
      obtain ⟨g', n', A', k', c', rfl, q2', q3', q4'⟩ := hJ.v7 rfl
      have hne : g ≠ g' := fun e => hJ.ne rfl rfl (by rw [e])
      obtain ⟨v, rfl, hr⟩ := hJ.v16 rfl
      obtain ⟨v', rfl, hr'⟩ := hJ.v18 rfl
      have hrs := hr.setRow q3 (two_no_int _ _ _ _) #[.bool N1, v]
      have hrs' := hr'.setRow q3 (two_no_int _ _ _ _) #[.bool N1, v]
      obtain ⟨⟨A3, c3, rfl, -⟩, -⟩ := hr
      refine wpOp_at rfl rfl ?_
      refine wp_store_row 136 (.tmp 6) (.tmp 16) rfl g #[.bool N1, .slice A3 (Nt.digs X).length c3] rfl rfl 136 _ q3 int3_info rfl (two_one _ _ _ _) ?_
      exact ⟨true, true, b2, true, true, true, true, b7, x15, _, x17, _, _, _, rfl, rfl, { hJ with
        below := rBelow.setRow hJ.below q2 _
        v16 := fun _ => ⟨_, rfl, hrs⟩
        v18 := fun _ => ⟨v', rfl, hrs'⟩
        v6 := fun _ => ⟨g, _, _, _, _, rfl, q2, rheap_same q3, fun _ => rfl⟩
        v7 := fun _ => ⟨g', n', A', k', c', rfl, q2', (rheap_far hne).trans q3', q4'⟩
        o6 := fun _ => ⟨rfl, rfl⟩ }⟩
    · have h0 : b5 = true ∧ b3 = true ∧ b6 = true ∧ b0 = true ∧ b1 = true ∧ b2 = true ∧ b3 = true ∧ b4 = true ∧ b5 = true ∧ b6 = true := by simpa [Region.binds] using ha
      obtain ⟨rfl, rfl, rfl, rfl, rfl, rfl, -, rfl, -, -⟩ := h0
      have hb7 : b7 = false := hl
      subst hb7
      obtain ⟨g, n, A, k, c, rfl, q2, q3, q4⟩ := hJ.v6 rfl
      obtain ⟨g', n', A', k', c', rfl, q2', q3', q4'⟩ := hJ.v7 rfl
      have hne : g' ≠ g := fun e => hJ.ne rfl rfl (by rw [e])
      obtain ⟨v, rfl, hr⟩ := hJ.v16 rfl
      obtain ⟨v', rfl, hr'⟩ := hJ.v18 rfl
      have hrs := hr.setRow q3' (two_no_int _ _ _ _) #[.bool N2, v']
      have hrs' := hr'.setRow q3' (two_no_int _ _ _ _) #[.bool N2, v']
      obtain ⟨⟨A3, c3, rfl, -⟩, -⟩ := hr'
      refine wpOp_at rfl rfl ?_
      refine wp_store_row 136 (.tmp 7) (.tmp 18) rfl g' #[.bool N2, .slice A3 (Nt.digs Y).length c3] rfl rfl 136 _ q3' int3_info rfl (two_one _ _ _ _) ?_
      exact ⟨true, true, true, true, true, true, true, true, x15, _, x17, _, _, _, rfl, rfl, { hJ with
        below := rBelow.setRow hJ.below q2' _
        v16 := fun _ => ⟨v, rfl, hrs⟩
        v18 := fun _ => ⟨_, rfl, hrs'⟩
        v7 := fun _ => ⟨g', _, _, _, _, rfl, q2', rheap_same q3', fun _ => rfl⟩
        v6 := fun _ => ⟨g, n, A, k, c, rfl, q2, (rheap_far hne).trans q3, q4⟩
        o7 := fun _ => ⟨rfl, rfl⟩ }⟩
  · rintro _ _ wx ⟨b0, b1, b2, b3, b4, b5, b6, b7, x15, x16, x17, x18, x6, x7, rfl, rfl, hJ⟩ hr
    have e0 : b0 = true := ready_nil' hr 0 (by decide) (by simp [Region.binds])
    subst e0
    have e1 : b1 = true := ready_nil' hr 1 (by decide) (by simp [Region.binds])
    subst e1
    have e2 : b2 = true := ready_nil' hr 2 (by decide) (by simp [Region.binds])
    subst e2
    have e3 : b3 = true := ready_nil' hr 3 (by decide) (by simp [Region.binds])
    subst e3
    have e4 : b4 = true := ready_nil' hr 4 (by decide) (by simp [Region.binds])
    subst e4
    have e5 : b5 = true := ready_nil' hr 5 (by decide) (by simp [Region.binds])
    subst e5
    have e6 : b6 = true := ready_nil' hr 6 (by decide) (by simp [Region.binds])
    subst e6
    have e7 : b7 = true := ready_nil' hr 7 (by decide) (by simp [Region.binds])
    subst e7
    clear hr
    obtain ⟨g, n, A, k, c, rfl, q2, q3, q4⟩ := hJ.v6 rfl
    obtain ⟨g', n', A', k', c', rfl, q2', q3', q4'⟩ := hJ.v7 rfl
    have hne : g ≠ g' := fun e => hJ.ne rfl rfl (by rw [e])
    obtain ⟨v, rfl, hr1⟩ := hJ.v16 rfl
    obtain ⟨v', rfl, hr2⟩ := hJ.v18 rfl
    have e := q4 rfl
    simp at e
    obtain ⟨e, rfl⟩ := e
    subst e
    have e := q4' rfl
    simp at e
    obtain ⟨e, rfl⟩ := e
    subst e
    have hxb := hJ.below
    have hxs := hxb.size
    have p0 : wx.cell? ⟨g, 0, none⟩ = some (.bool N1) := (cell_of_row wx g 0 _ _ _ q3).trans rfl
    have p1 : wx.cell? ⟨g, 1, none⟩ = some (.slice A k c) := (cell_of_row wx g 1 _ _ _ q3).trans rfl
    have p0' : wx.cell? ⟨g', 0, none⟩ = some (.bool N2) := (cell_of_row wx g' 0 _ _ _ q3').trans rfl
    have p1' : wx.cell? ⟨g', 1, none⟩ = some (.slice A' k' c') := (cell_of_row wx g' 1 _ _ _ q3').trans rfl
    have hgl := blk_lt q3
    have hgl' := blk_lt q3'
    have HR1 := Lib.hid hr1
    have HR2 := Lib.hid hr2
    clear hJ hr1 hr2 q3 q3' q4 q4' HN1 HN2
    obtain ⟨hd1, o1, s1⟩ := HR1.out
    obtain ⟨hd2, o2, s2⟩ := HR2.out
    have f1 : k = (Nt.digs X).length := by obtain ⟨_, _, e, _⟩ := hd1; injection e
    have f2 : k' = (Nt.digs Y).length := by obtain ⟨_, _, e, _⟩ := hd2; injection e
    have s1' : k ≤ 64 := by omega
    have s2' : k' ≤ 64 := by omega
    have HD1 := Lib.hid hd1
    have HD2 := Lib.hid hd2
    have HY0 : Hid (k' = 0 ↔ Y = 0) := Lib.hid (by rw [f2, List.length_eq_zero_iff, Nt.digs_nil_iff])
    have HF := Lib.hid (And.intro f1 f2)
    clear f1 f2 hd1 hd2
    unfold frameM
    have HI3 : Hid (∀ (b : Bool) (A : Option Addr) (k c : Nat) (A' : Option Addr) (k' c' : Nat), (Tryz.prog.info? 83).map (·.size) = some (#[.bool b, .slice A k c, .slice A' k' c'] : Array Value).size) := Lib.hid (fun _ _ _ _ _ _ _ => num_info)
    have hxw : Below w.heap.size w wx := hWb.trans (hxb.mono (by omega))
    have HGA := Lib.hid ((hxb.block (w.heap.size + 1 + 1) (by omega)).trans HW2.out)
    by_cases hk0 : k' = 0
    · have hz : ((k' : Int) == 0) = true := by rw [hk0]; rfl
      have HK0 := Lib.hid (HY0.out.1 hk0)
      clear hk0
      go_wp2_with (first
        | (with_reducible refine wpList_store_row rfl 83 (.tmp 4) (.tmp 23) rfl (w.heap.size + 1 + 1) #[.bool false, .slice none 0 0, .slice none 0 0] rfl rfl 83 #[.bool false, .slice none 0 0, .slice none 0 0] HGA.out (HI3.out _ _ _ _ _ _ _) rfl (three_one _ _ _ _ _ _ _) ?_))
      refine bodyPost_ret (results_cell_row_tmp (by rfl) _ _ (w.heap.size + 1 + 1) 83 #[.bool false, .slice none 0 0, .slice none 0 0] (0, 0) _ _ (by rfl) (by rfl) (rheap_same HGA.out) Tryz.underlying83 rfl (HI3.out _ _ _ _ _ _ _)) rfl (MakeOut.of (by unfold Rt.mk; rw [if_pos HK0.out]; rfl) rfl (isRes_nil _) (isRes_nil _) (rBelow.setRow hxw (by omega) _))
    · have hz : ((k' : Int) == 0) = false := beq_eq_false_iff_ne.2 (by omega)
      have HY1 : Hid (Y ≠ 0) := Lib.hid (fun h => hk0 (HY0.out.2 h))
      have hgl64 := Nt.gcd_len o1 o2 s1 s2
      have GC := Lib.hid (refGcd64_any (.slice A k c) (.slice A' k' c') (Nt.digs X) (Nt.digs Y) wx HD1.out HD2.out o1 o2 s1 s2)
      have HOG := Lib.hid (Nt.ok_digs (Nat.gcd (Nt.val (Nt.digs X)) (Nt.val (Nt.digs Y))))
      have HGV : Hid (Nt.val (Nt.digs (Nat.gcd (Nt.val (Nt.digs X)) (Nt.val (Nt.digs Y)))) = Nat.gcd X Y) := Lib.hid (by rw [Nt.val_digs, Nt.val_digs, Nt.val_digs])
      generalize Nt.digs (Nat.gcd (Nt.val (Nt.digs X)) (Nt.val (Nt.digs Y))) = gd at *
      clear hk0
      go_wp2_with fail
      refine GC.out.mono ?_
      rintro e w3 ⟨v3, rfl, hr3, hb3⟩
      have r0 : w3.cell? ⟨g, 0, none⟩ = some (.bool N1) := (hb3.cell (p := ⟨g, 0, none⟩) hgl).trans p0
      have r1 : w3.cell? ⟨g, 1, none⟩ = some (.slice A k c) := (hb3.cell (p := ⟨g, 1, none⟩) hgl).trans p1
      have r0' : w3.cell? ⟨g', 0, none⟩ = some (.bool N2) := (hb3.cell (p := ⟨g', 0, none⟩) hgl').trans p0'
      have r1' : w3.cell? ⟨g', 1, none⟩ = some (.slice A' k' c') := (hb3.cell (p := ⟨g', 1, none⟩) hgl').trans p1'
      have DM := Lib.hid (rDivMod_res (w0 := w3) (HD1.out.below hb3) hr3 o1 HOG.out (by omega) (by omega) (Below.refl _ _))
      clear p0 p1 p0' p1' GC
      go_wp2_with fail
      refine DM.out.mono ?_
      rintro e w4 ⟨u1, u2, rfl, t1, t2, hb4, -⟩
      have hs3 := hb3.size
      have r0 : w4.cell? ⟨g, 0, none⟩ = some (.bool N1) := (hb4.cell (p := ⟨g, 0, none⟩) (show g < _ by omega)).trans r0
      have r0' : w4.cell? ⟨g', 0, none⟩ = some (.bool N2) := (hb4.cell (p := ⟨g', 0, none⟩) (show g' < _ by omega)).trans r0'
      have r1' : w4.cell? ⟨g', 1, none⟩ = some (.slice A' k' c') := (hb4.cell (p := ⟨g', 1, none⟩) (show g' < _ by omega)).trans r1'
      have DN := Lib.hid (rDivMod_res (w0 := w4) ((HD2.out.below hb3).below hb4) (hr3.below hb4) o2 HOG.out (by omega) (by omega) (Below.refl _ _))
      clear DM
      go_wp2_with fail
      refine DN.out.mono ?_
      rintro e w5 ⟨u3, u4, rfl, t3, t4, hb5, -⟩
      have hs4 := hb4.size
      have hs5 := hb5.size
      have r0 : w5.cell? ⟨g, 0, none⟩ = some (.bool N1) := (hb5.cell (p := ⟨g, 0, none⟩) (show g < _ by omega)).trans r0
      have r0' : w5.cell? ⟨g', 0, none⟩ = some (.bool N2) := (hb5.cell (p := ⟨g', 0, none⟩) (show g' < _ by omega)).trans r0'
      have HGB := Lib.hid ((hb5.block (w.heap.size + 1 + 1) (by omega)).trans ((hb4.block (w.heap.size + 1 + 1) (by omega)).trans ((hb3.block (w.heap.size + 1 + 1) (by omega)).trans HGA.out)))
      have hbw : Below w.heap.size w w5 := ((hxw.trans (hb3.mono (by omega))).trans (hb4.mono (by omega))).trans (hb5.mono (by omega))
      have HT1 := Lib.hid (t1.below hb5)
      have HT3 := Lib.hid t3
      clear t1 t2 t3 t4 hr3 DN
      obtain ⟨e1, he1⟩ : ∃ e1, e1 = Nt.digs (Nt.quo (Nt.val (Nt.digs X)) (Nt.val gd)) := ⟨_, rfl⟩
      obtain ⟨e2, he2⟩ : ∃ e2, e2 = Nt.digs (Nt.quo (Nt.val (Nt.digs Y)) (Nt.val gd)) := ⟨_, rfl⟩
      rw [← he1] at HT1
      rw [← he2] at HT3
      rw [HGV.out, Nt.val_digs] at he1 he2
      have HE1 : Hid (e1 = Nt.digs (X / Nat.gcd X Y)) := Lib.hid he1
      have HE2 : Hid (e2 = Nt.digs (Y / Nat.gcd X Y)) := Lib.hid he2
      have HX0 : Hid (e1.length = 0 ↔ X = 0) := Lib.hid (by rw [he1, List.length_eq_zero_iff, Nt.digs_nil_iff]; exact Rt.div_gcd_zero HY1.out)
      clear he1 he2
      obtain ⟨B1, a1, rfl, y1, y2, -⟩ := HT1.out
      obtain ⟨B2, a2, rfl, y3, y4, -⟩ := HT3.out
      by_cases h32 : 32 < e1.length
      · have g1 : decide ((32 : Int) < (e1.length : Int)) = true := by simp; omega
        go_wp2_with (first
          | (with_reducible refine wpList_store_row rfl 83 (.tmp 4) (.tmp 53) rfl (w.heap.size + 1 + 1) #[.bool false, .slice none 0 0, .slice none 0 0] rfl rfl 83 #[.bool false, .slice none 0 0, .slice none 0 0] HGB.out (HI3.out _ _ _ _ _ _ _) rfl (three_one _ _ _ _ _ _ _) ?_))
        refine bodyPost_ret (results_cell_row_tmp (by rfl) _ _ (w.heap.size + 1 + 1) 83 #[.bool false, .slice none 0 0, .slice none 0 0] (0, 0) _ _ (by rfl) (by rfl) (rheap_same HGB.out) Tryz.underlying83 rfl (HI3.out _ _ _ _ _ _ _)) rfl (MakeOut.of (by unfold Rt.mk; rw [if_neg HY1.out, ← HE1.out, ← HE2.out, if_pos (by omega)]; rfl) rfl (isRes_nil _) (isRes_nil _) (rBelow.setRow hbw (by omega) _))
      · by_cases h33 : 32 < e2.length
        · have g1 : decide ((32 : Int) < (e1.length : Int)) = false := by simp; omega
          have g2 : decide ((32 : Int) < (e2.length : Int)) = true := by simp; omega
          go_wp2_with (first
            | (with_reducible refine wpList_store_row rfl 83 (.tmp 4) (.tmp 53) rfl (w.heap.size + 1 + 1) #[.bool false, .slice none 0 0, .slice none 0 0] rfl rfl 83 #[.bool false, .slice none 0 0, .slice none 0 0] HGB.out (HI3.out _ _ _ _ _ _ _) rfl (three_one _ _ _ _ _ _ _) ?_))
          refine bodyPost_ret (results_cell_row_tmp (by rfl) _ _ (w.heap.size + 1 + 1) 83 #[.bool false, .slice none 0 0, .slice none 0 0] (0, 0) _ _ (by rfl) (by rfl) (rheap_same HGB.out) Tryz.underlying83 rfl (HI3.out _ _ _ _ _ _ _)) rfl (MakeOut.of (by unfold Rt.mk; rw [if_neg HY1.out, ← HE1.out, ← HE2.out, if_pos (by omega)]; rfl) rfl (isRes_nil _) (isRes_nil _) (rBelow.setRow hbw (by omega) _))
        · have g1 : decide ((32 : Int) < (e1.length : Int)) = false := by simp; omega
          have g2 : decide ((32 : Int) < (e2.length : Int)) = false := by simp; omega
          by_cases h34 : 0 < e1.length
          · have g3 : decide ((0 : Int) < (e1.length : Int)) = true := decide_eq_true (by omega)
            have HXB : Hid ((X == 0) = false) := Lib.hid (by have := HX0.out; simp; omega)
            cases N1
            · cases N2
              · skip
                go_wp2_with (first
                  | (with_reducible refine wpList_store_row rfl 83 (.tmp 4) (.tmp 66) rfl (w.heap.size + 1 + 1) #[.bool false, .slice B1 e1.length a1, .slice B2 e2.length a2] rfl rfl 83 #[.bool false, .slice none 0 0, .slice none 0 0] HGB.out (HI3.out _ _ _ _ _ _ _) rfl (three_one _ _ _ _ _ _ _) ?_))
                refine bodyPost_ret (results_cell_row_tmp (by rfl) _ _ (w.heap.size + 1 + 1) 83 #[.bool false, .slice B1 e1.length a1, .slice B2 e2.length a2] (0, 0) _ _ (by rfl) (by rfl) (rheap_same HGB.out) Tryz.underlying83 rfl (HI3.out _ _ _ _ _ _ _)) rfl (MakeOut.of (by unfold Rt.mk; rw [if_neg HY1.out, ← HE1.out, ← HE2.out, if_neg (by omega), HXB.out]; rfl) rfl (HT1.out.setRow HGB.out (three_no_int _ _ _ _ _ _ _) _) (HT3.out.setRow HGB.out (three_no_int _ _ _ _ _ _ _) _) (rBelow.setRow hbw (by omega) _))
              · skip
                go_wp2_with (first
                  | (with_reducible refine wpList_store_row rfl 83 (.tmp 4) (.tmp 66) rfl (w.heap.size + 1 + 1) #[.bool true, .slice B1 e1.length a1, .slice B2 e2.length a2] rfl rfl 83 #[.bool false, .slice none 0 0, .slice none 0 0] HGB.out (HI3.out _ _ _ _ _ _ _) rfl (three_one _ _ _ _ _ _ _) ?_))
                refine bodyPost_ret (results_cell_row_tmp (by rfl) _ _ (w.heap.size + 1 + 1) 83 #[.bool true, .slice B1 e1.length a1, .slice B2 e2.length a2] (0, 0) _ _ (by rfl) (by rfl) (rheap_same HGB.out) Tryz.underlying83 rfl (HI3.out _ _ _ _ _ _ _)) rfl (MakeOut.of (by unfold Rt.mk; rw [if_neg HY1.out, ← HE1.out, ← HE2.out, if_neg (by omega), HXB.out]; rfl) rfl (HT1.out.setRow HGB.out (three_no_int _ _ _ _ _ _ _) _) (HT3.out.setRow HGB.out (three_no_int _ _ _ _ _ _ _) _) (rBelow.setRow hbw (by omega) _))
            · cases N2
              · skip
                go_wp2_with (first
                  | (with_reducible refine wpList_store_row rfl 83 (.tmp 4) (.tmp 66) rfl (w.heap.size + 1 + 1) #[.bool true, .slice B1 e1.length a1, .slice B2 e2.length a2] rfl rfl 83 #[.bool false, .slice none 0 0, .slice none 0 0] HGB.out (HI3.out _ _ _ _ _ _ _) rfl (three_one _ _ _ _ _ _ _) ?_))
                refine bodyPost_ret (results_cell_row_tmp (by rfl) _ _ (w.heap.size + 1 + 1) 83 #[.bool true, .slice B1 e1.length a1, .slice B2 e2.length a2] (0, 0) _ _ (by rfl) (by rfl) (rheap_same HGB.out) Tryz.underlying83 rfl (HI3.out _ _ _ _ _ _ _)) rfl (MakeOut.of (by unfold Rt.mk; rw [if_neg HY1.out, ← HE1.out, ← HE2.out, if_neg (by omega), HXB.out]; rfl) rfl (HT1.out.setRow HGB.out (three_no_int _ _ _ _ _ _ _) _) (HT3.out.setRow HGB.out (three_no_int _ _ _ _ _ _ _) _) (rBelow.setRow hbw (by omega) _))
              · skip
                go_wp2_with (first
                  | (with_reducible refine wpList_store_row rfl 83 (.tmp 4) (.tmp 66) rfl (w.heap.size + 1 + 1) #[.bool false, .slice B1 e1.length a1, .slice B2 e2.length a2] rfl rfl 83 #[.bool false, .slice none 0 0, .slice none 0 0] HGB.out (HI3.out _ _ _ _ _ _ _) rfl (three_one _ _ _ _ _ _ _) ?_))
                refine bodyPost_ret (results_cell_row_tmp (by rfl) _ _ (w.heap.size + 1 + 1) 83 #[.bool false, .slice B1 e1.length a1, .slice B2 e2.length a2] (0, 0) _ _ (by rfl) (by rfl) (rheap_same HGB.out) Tryz.underlying83 rfl (HI3.out _ _ _ _ _ _ _)) rfl (MakeOut.of (by unfold Rt.mk; rw [if_neg HY1.out, ← HE1.out, ← HE2.out, if_neg (by omega), HXB.out]; rfl) rfl (HT1.out.setRow HGB.out (three_no_int _ _ _ _ _ _ _) _) (HT3.out.setRow HGB.out (three_no_int _ _ _ _ _ _ _) _) (rBelow.setRow hbw (by omega) _))
          · have g3 : decide ((0 : Int) < (e1.length : Int)) = false := decide_eq_false (by omega)
            have HXB : Hid ((X == 0) = true) := Lib.hid (by have := HX0.out; simp; omega)
            go_wp2_with (first
              | (with_reducible refine wpList_store_row rfl 83 (.tmp 4) (.tmp 66) rfl (w.heap.size + 1 + 1) #[.bool false, .slice B1 e1.length a1, .slice B2 e2.length a2] rfl rfl 83 #[.bool false, .slice none 0 0, .slice none 0 0] HGB.out (HI3.out _ _ _ _ _ _ _) rfl (three_one _ _ _ _ _ _ _) ?_))
            refine bodyPost_ret (results_cell_row_tmp (by rfl) _ _ (w.heap.size + 1 + 1) 83 #[.bool false, .slice B1 e1.length a1, .slice B2 e2.length a2] (0, 0) _ _ (by rfl) (by rfl) (rheap_same HGB.out) Tryz.underlying83 rfl (HI3.out _ _ _ _ _ _ _)) rfl (MakeOut.of (by unfold Rt.mk; rw [if_neg HY1.out, ← HE1.out, ← HE2.out, if_neg (by omega), HXB.out]; rfl) rfl (HT1.out.setRow HGB.out (three_no_int _ _ _ _ _ _ _) _) (HT3.out.setRow HGB.out (three_no_int _ _ _ _ _ _ _) _) (rBelow.setRow hbw (by omega) _))
end Go.Proofs.YtmiccalfamepdaaGreatDoor

/-
  Numbers by the reference: scrimref04.Right. (Printed by wip/bin/gen_rat3.py.)
-/
namespace Go.Proofs.YtmiccalfamepdaaGreatDoor
open Go.RowKit Ar
set_option maxHeartbeats 4000000
set_option maxRecDepth 100000
set_option linter.unusedVariables false

def IntOK (n : Bool) (l : List Nat) (w : World) (x : Value) : Prop := ∃ v, x = .agg #[.bool n, v] ∧ ResL w v l
def TupOK (r : Rt.Nm × Int) (w : World) (x : Value) : Prop := ∃ t u, x = .tuple #[.agg #[.bool r.1.neg, t, u], .int .i64 r.2] ∧ IsRes w t r.1.top ∧ IsRes w u r.1.bot
def AggOK (r : Rt.Nm × Int) (w : World) (x : Value) : Prop := ∃ t u, x = .agg #[.bool r.1.neg, t, u] ∧ IsRes w t r.1.top ∧ IsRes w u r.1.bot
def ErOK (er : Int) (x : Value) : Prop := x = .int .i64 er
/-- A block of a number's three cells; with limbs behind them, if it is said. -/
def CellOK (r : Rt.Nm × Int) (lo : Nat) (said : Bool) (w : World) (x : Value) : Prop := ∃ g b A k c A' k' c', x = .pointer (some ⟨g, 0, none⟩) ∧ lo ≤ g ∧ w.heap[g]? = some (.cells #[.bool b, .slice A k c, .slice A' k' c'] 83 (0, 0)) ∧ (said = true → b = r.1.neg ∧ IsRes w (.slice A k c) r.1.top ∧ IsRes w (.slice A' k' c') r.1.bot)
theorem IntOK.below {n : Bool} {l : List Nat} {w w' : World} {x : Value} (h : IntOK n l w x) (hb : Below w.heap.size w w') : IntOK n l w' x := by
  obtain ⟨v, e, r⟩ := h; exact ⟨v, e, r.below hb⟩
theorem TupOK.below {r0 : Rt.Nm × Int} {w w' : World} {x : Value} (h : TupOK r0 w x) (hb : Below w.heap.size w w') : TupOK r0 w' x := by
  obtain ⟨t, u, e, r, r'⟩ := h; exact ⟨t, u, e, r.below hb, r'.below hb⟩
theorem AggOK.below {r0 : Rt.Nm × Int} {w w' : World} {x : Value} (h : AggOK r0 w x) (hb : Below w.heap.size w w') : AggOK r0 w' x := by
  obtain ⟨t, u, e, r, r'⟩ := h; exact ⟨t, u, e, r.below hb, r'.below hb⟩
theorem CellOK.below {r0 : Rt.Nm × Int} {lo : Nat} {said : Bool} {w w' : World} {x : Value} (h : CellOK r0 lo said w x) (hb : Below w.heap.size w w') : CellOK r0 lo said w' x := by
  obtain ⟨g, b, A, k, c, A', k', c', e, h1, h2, h3⟩ := h
  exact ⟨g, b, A, k, c, A', k', c', e, h1, (hb.block g (blk_lt h2)).trans h2, fun hs => by obtain ⟨e, r, r'⟩ := h3 hs; exact ⟨e, r.below hb, r'.below hb⟩⟩
theorem IntOK.setRow {n : Bool} {l : List Nat} {w : World} {x : Value} {g : Nat} {old : Array Value} {t : TypeId} (h : IntOK n l w x) (hg : w.heap[g]? = some (.cells old t (0, 0))) (ho : ∀ (i : Nat) (k : IntKind) (n : Int), old[i]? ≠ some (Value.int k n)) (cs : Array Value) : IntOK n l (w.setRow g cs) x := by
  obtain ⟨v, e, r⟩ := h; exact ⟨v, e, r.setRow hg ho cs⟩
theorem TupOK.setRow {r0 : Rt.Nm × Int} {w : World} {x : Value} {g : Nat} {old : Array Value} {t : TypeId} (h : TupOK r0 w x) (hg : w.heap[g]? = some (.cells old t (0, 0))) (ho : ∀ (i : Nat) (k : IntKind) (n : Int), old[i]? ≠ some (Value.int k n)) (cs : Array Value) : TupOK r0 (w.setRow g cs) x := by
  obtain ⟨t, u, e, r, r'⟩ := h; exact ⟨t, u, e, r.setRow hg ho cs, r'.setRow hg ho cs⟩
theorem AggOK.setRow {r0 : Rt.Nm × Int} {w : World} {x : Value} {g : Nat} {old : Array Value} {t : TypeId} (h : AggOK r0 w x) (hg : w.heap[g]? = some (.cells old t (0, 0))) (ho : ∀ (i : Nat) (k : IntKind) (n : Int), old[i]? ≠ some (Value.int k n)) (cs : Array Value) : AggOK r0 (w.setRow g cs) x := by
  obtain ⟨t, u, e, r, r'⟩ := h; exact ⟨t, u, e, r.setRow hg ho cs, r'.setRow hg ho cs⟩
/-- What holds while the operations of 'm, e := Make(Top(a), Bot(a))' come up. -/
structure GI (w : World) (N : Array Value) (N1 N2 : Bool) (D1 D2 : List Nat) (R : Rt.Nm × Int) (b0 b1 b2 b3 b4 b5 b6 b7 b8 b9 b10 : Bool) (x16 x17 x18 x19 x20 x15 x21 x22 x3 x4 : Value) (wx : World) : Prop where
  below : Below w.heap.size w wx
  v16 : b0 = true → x16 = .agg N
  v17 : b1 = true → IntOK N1 D1 wx x17
  v18 : b2 = true → x18 = .agg N
  v19 : b3 = true → IntOK N2 D2 wx x19
  v20 : b4 = true → TupOK R wx x20
  v15 : b5 = true → TupOK R wx x15
  v21 : b6 = true → AggOK R wx x21
  v22 : b7 = true → ErOK R.2 x22
  v3 : b8 = true → CellOK R w.heap.size b9 wx x3
  v4 : b10 = true → ErOK R.2 x4
  o9 : b9 = true → b8 = true
def frameG (g : Nat) (N : Array Value) (A : Option Addr) (k c : Nat) (A' : Option Addr) (k' c' : Nat) (x16 x17 x18 x19 x20 x15 x21 x22 x3 x4 : Value) : Act := { tmps := #[.agg N, .pointer (some ⟨g, 0, none⟩), .bool false, x3, x4, .pointer (some ⟨g, 1, none⟩), .slice A k c, .int .i64 (k : Int), .bool false, .bool false, .pointer (some ⟨g, 2, none⟩), .slice A' k' c', .int .i64 (k' : Int), .bool false, .bool false, x15, x16, x17, x18, x19, x20, x21, x22, undef, undef, undef, undef, undef, undef, undef], defers := [] }
def GInv (w : World) (g : Nat) (N : Array Value) (A : Option Addr) (k c : Nat) (A' : Option Addr) (k' c' : Nat) (N1 N2 : Bool) (D1 D2 : List Nat) (R : Rt.Nm × Int) (l : Array Bool) (a : Act) (wx : World) : Prop :=
  ∃ b0 b1 b2 b3 b4 b5 b6 b7 b8 b9 b10 x16 x17 x18 x19 x20 x15 x21 x22 x3 x4, l = #[b0, b1, b2, b3, b4, b5, b6, b7, b8, b9, b10] ∧ a = frameG g N A k c A' k' c' x16 x17 x18 x19 x20 x15 x21 x22 x3 x4 ∧ GI w N N1 N2 D1 D2 R b0 b1 b2 b3 b4 b5 b6 b7 b8 b9 b10 x16 x17 x18 x19 x20 x15 x21 x22 x3 x4 wx

theorem right_same (n : Bool) (t u : List Nat) (h1 : t.length ≤ 32) (h2 : u.length ≤ 32) : Rt.right ⟨n, t, u⟩ = (((Rt.mk n false (Nt.val t) (Nt.val u)).2 == 0) && sameNum n (Rt.mk n false (Nt.val t) (Nt.val u)).1.neg t (Rt.mk n false (Nt.val t) (Nt.val u)).1.top u (Rt.mk n false (Nt.val t) (Nt.val u)).1.bot) := by
  unfold Rt.right
  dsimp only
  rw [decide_eq_true h1, decide_eq_true h2, Bool.true_and, Bool.true_and]
  congr 1
  obtain ⟨⟨b, l, l'⟩, er⟩ := Rt.mk n false (Nt.val t) (Nt.val u)
  rw [Bool.eq_iff_iff]
  simp only [decide_eq_true_eq, sameNum, Bool.and_eq_true, beq_iff_eq, Rt.Nm.mk.injEq]
  constructor
  · rintro ⟨rfl, rfl, rfl⟩; exact ⟨⟨rfl, rfl⟩, rfl⟩
  · rintro ⟨⟨rfl, rfl⟩, rfl⟩; exact ⟨rfl, rfl, rfl⟩

theorem rright_any (n : Bool) (A : Option Addr) (t : List Nat) (c : Nat) (A' : Option Addr) (u : List Nat) (c' : Nat) (w : World) (h1 : IsRes w (.slice A t.length c) t) (h2 : IsRes w (.slice A' u.length c') u) (o1 : Nt.Ok t) (o2 : Nt.Ok u) :
    Calls Tryz.prog 75 #[.agg #[.bool n, .slice A t.length c, .slice A' u.length c']] w fun e w' => e = .returned (.bool (Rt.right ⟨n, t, u⟩)) ∧ Below w.heap.size w w' := by
  obtain ⟨W, hW⟩ : ∃ W, W = w.alloc (.cells #[.bool n, .slice A t.length c, .slice A' u.length c'] 83) := ⟨_, rfl⟩
  have hWs : W.heap.size = w.heap.size + 1 := by rw [hW]; simp
  have hWb : Below w.heap.size w W := by rw [hW]; exact (Below.refl _ _).alloc (Nat.le_refl _) _
  have hW0 : W.heap[w.heap.size]? = some (.cells #[.bool n, .slice A t.length c, .slice A' u.length c'] 83 (0, 0)) := by rw [hW]; exact heap_alloc_new _ _
  have HW := Lib.hid hW
  have HW0 := Lib.hid hW0
  have HR1 := Lib.hid h1
  have HR2 := Lib.hid h2
  clear hW hW0
  by_cases k1 : 32 < t.length
  · clear h1 h2
    go_enter Tryz.func75, Tryz.ntmps75
    go_wp2_with fail
    go_ret
    exact ⟨ret_bool (by unfold Rt.right; rw [show decide (t.length ≤ 32) = false from decide_eq_false (by omega)]; rfl), by rw [HW.out] at hWb; exact hWb⟩
  · by_cases k2 : 32 < u.length
    · clear h1 h2
      go_enter Tryz.func75, Tryz.ntmps75
      go_wp2_with fail
      go_ret
      exact ⟨ret_bool (by unfold Rt.right; rw [show decide (u.length ≤ 32) = false from decide_eq_false (by omega)]; simp), by rw [HW.out] at hWb; exact hWb⟩
    · have q1 : ResL w (.slice A t.length c) t := ⟨h1, o1, by omega⟩
      have q2 : ResL w (.slice A' u.length c') u := ⟨h2, o2, by omega⟩
      have TP := Lib.hid (fun (wx : World) (hx : Below W.heap.size W wx) => top_any n _ _ _ _ wx ((q1.below hWb).below hx) ((q2.below hWb).below hx))
      have BT := Lib.hid (fun (wx : World) (hx : Below W.heap.size W wx) => bot_any n _ _ _ _ wx ((q1.below hWb).below hx) ((q2.below hWb).below hx))
      have hd1 : decide ((32 : Int) < (t.length : Int)) = false := decide_eq_false (by omega)
      have hd2 : decide ((32 : Int) < (u.length : Int)) = false := decide_eq_false (by omega)
      have hWl : w.heap.size < W.heap.size := by omega
      have HRT : Hid (Rt.right ⟨n, t, u⟩ = (((Rt.mk n false (Nt.val t) (Nt.val u)).2 == 0) && sameNum n (Rt.mk n false (Nt.val t) (Nt.val u)).1.neg t (Rt.mk n false (Nt.val t) (Nt.val u)).1.top u (Rt.mk n false (Nt.val t) (Nt.val u)).1.bot)) := Lib.hid (right_same n t u (by omega) (by omega))
      have hMK : Rt.mk (Rt.nrm n (Nt.val t)) (Rt.nrm false (Nt.val u)) (Nt.val (Nt.digs (Nt.val t))) (Nt.val (Nt.digs (Nt.val u))) = Rt.mk n false (Nt.val t) (Nt.val u) := by rw [Nt.val_digs, Nt.val_digs, Rt.mk_nrm]
      generalize Rt.right ⟨n, t, u⟩ = RT at *
      generalize Rt.mk n false (Nt.val t) (Nt.val u) = R at *
      have HMK := Lib.hid hMK
      clear hMK
      clear h1 h2 q1 q2 hWs
      go_enter Tryz.func75, Tryz.ntmps75
      go_wp2_with fail
      rw [← HW.out]
      refine wp_region_any (by kernel_rfl) ?_
      refine wpAny_inv (GInv W w.heap.size #[.bool n, .slice A t.length c, .slice A' u.length c'] A t.length c A' u.length c' (Rt.nrm n (Nt.val t)) (Rt.nrm false (Nt.val u)) (Nt.digs (Nt.val t)) (Nt.digs (Nt.val u)) R) ?_ ?_ 11 _ _ _ (by decide) ⟨false, false, false, false, false, false, false, false, false, false, false, undef, undef, undef, undef, undef, undef, undef, undef, undef, undef, rfl, rfl, ⟨⟨rfl, rfl, rfl, Nat.le_refl _, fun _ _ => rfl⟩, nofun, nofun, nofun, nofun, nofun, nofun, nofun, nofun, nofun, nofun, nofun⟩⟩
      · rintro _ _ wx ⟨b0, b1, b2, b3, b4, b5, b6, b7, b8, b9, b10, x16, x17, x18, x19, x20, x15, x21, x22, x3, x4, rfl, rfl, hJ⟩ i hi
        obtain ⟨h8, hl, ha⟩ := ready_mem hi
        have h8' : i < 11 := h8
        clear h8 hi
        have hsz := hJ.below.size
        rcases (show i = 0 ∨ i = 1 ∨ i = 2 ∨ i = 3 ∨ i = 4 ∨ i = 5 ∨ i = 6 ∨ i = 7 ∨ i = 8 ∨ i = 9 ∨ i = 10 by omega) with rfl | rfl | rfl | rfl | rfl | rfl | rfl | rfl | rfl | rfl | rfl
        · refine wpOp_at rfl rfl ?_
          refine wp_load_row 83 (.tmp 1) rfl w.heap.size rfl 83 #[.bool n, .slice A t.length c, .slice A' u.length c'] (0, 0) _ ((hJ.below.block w.heap.size hWl).trans HW0.out) Tryz.underlying83 rfl num_info ?_
          exact ⟨true, b1, b2, b3, b4, b5, b6, b7, b8, b9, b10, _, x17, x18, x19, x20, x15, x21, x22, x3, x4, rfl, rfl, { hJ with v16 := fun _ => rfl }⟩
        · have h0 : b0 = true := by simpa [Region.binds] using ha
          subst h0
          obtain rfl := hJ.v16 rfl
          refine wpOp_at rfl rfl ?_
          unfold frameG Oper.wp
          go_simp
          refine ((TP.out _ hJ.below).mono ?_)
          rintro e w2 ⟨v3, rfl, hr3, hb2⟩
          exact ⟨true, true, b2, b3, b4, b5, b6, b7, b8, b9, b10, _, _, x18, x19, x20, x15, x21, x22, x3, x4, rfl, rfl, { hJ with
            below := hJ.below.trans (hb2.mono hsz)
            v17 := fun _ => ⟨v3, rfl, hr3⟩
            v19 := fun h => (hJ.v19 h).below hb2
            v20 := fun h => (hJ.v20 h).below hb2
            v15 := fun h => (hJ.v15 h).below hb2
            v21 := fun h => (hJ.v21 h).below hb2
            v3 := fun h => (hJ.v3 h).below hb2 }⟩
        · refine wpOp_at rfl rfl ?_
          refine wp_load_row 83 (.tmp 1) rfl w.heap.size rfl 83 #[.bool n, .slice A t.length c, .slice A' u.length c'] (0, 0) _ ((hJ.below.block w.heap.size hWl).trans HW0.out) Tryz.underlying83 rfl num_info ?_
          exact ⟨b0, b1, true, b3, b4, b5, b6, b7, b8, b9, b10, x16, x17, _, x19, x20, x15, x21, x22, x3, x4, rfl, rfl, { hJ with v18 := fun _ => rfl }⟩
        · have h0 : b2 = true ∧ b1 = true := by simpa [Region.binds] using ha
          obtain ⟨rfl, rfl⟩ := h0
          obtain rfl := hJ.v18 rfl
          refine wpOp_at rfl rfl ?_
          unfold frameG Oper.wp
          go_simp
          refine ((BT.out _ hJ.below).mono ?_)
          rintro e w2 ⟨v3, rfl, hr3, hb2⟩
          exact ⟨b0, true, true, true, b4, b5, b6, b7, b8, b9, b10, x16, x17, _, _, x20, x15, x21, x22, x3, x4, rfl, rfl, { hJ with
            below := hJ.below.trans (hb2.mono hsz)
            v19 := fun _ => ⟨v3, rfl, hr3⟩
            v17 := fun h => (hJ.v17 h).below hb2
            v20 := fun h => (hJ.v20 h).below hb2
            v15 := fun h => (hJ.v15 h).below hb2
            v21 := fun h => (hJ.v21 h).below hb2
            v3 := fun h => (hJ.v3 h).below hb2 }⟩
        · have h0 : b1 = true ∧ b3 = true := by simpa [Region.binds] using ha
          obtain ⟨rfl, rfl⟩ := h0
          obtain ⟨v1, rfl, r1⟩ := hJ.v17 rfl
          obtain ⟨v2, rfl, r2⟩ := hJ.v19 rfl
          have MK := make_any (Rt.nrm n (Nt.val t)) (Rt.nrm false (Nt.val u)) v1 v2 _ _ wx r1 r2
          rw [HMK.out] at MK
          refine wpOp_at rfl rfl ?_
          unfold frameG Oper.wp
          go_simp
          refine (MK.mono ?_)
          rintro e w2 ⟨t1, u1, rfl, k1, k2, hb2⟩
          exact ⟨b0, true, b2, true, true, b5, b6, b7, b8, b9, b10, x16, _, x18, _, _, x15, x21, x22, x3, x4, rfl, rfl, { hJ with
            below := hJ.below.trans (hb2.mono hsz)
            v20 := fun _ => ⟨t1, u1, rfl, k1, k2⟩
            v17 := fun h => (hJ.v17 h).below hb2
            v19 := fun h => (hJ.v19 h).below hb2
            v15 := fun h => (hJ.v15 h).below hb2
            v21 := fun h => (hJ.v21 h).below hb2
            v3 := fun h => (hJ.v3 h).below hb2 }⟩
        · have h0 : b4 = true := by simpa [Region.binds] using ha
          subst h0
          have hv := hJ.v20 rfl
          refine wpOp_at rfl rfl ?_
          unfold frameG Oper.wp
          go_simp
          exact ⟨b0, b1, b2, b3, true, true, b6, b7, b8, b9, b10, x16, x17, x18, x19, x20, _, x21, x22, x3, x4, rfl, rfl, { hJ with v15 := fun _ => hv }⟩
        · have h0 : b5 = true := by simpa [Region.binds] using ha
          subst h0
          obtain ⟨t1, u1, rfl, k1, k2⟩ := hJ.v15 rfl
          refine wpOp_at rfl rfl ?_
          unfold frameG Oper.wp
          go_simp
          exact ⟨b0, b1, b2, b3, b4, true, true, b7, b8, b9, b10, x16, x17, x18, x19, x20, _, _, x22, x3, x4, rfl, rfl, { hJ with v21 := fun _ => ⟨t1, u1, rfl, k1, k2⟩ }⟩
        · have h0 : b5 = true := by simpa [Region.binds] using ha
          subst h0
          obtain ⟨t1, u1, rfl, k1, k2⟩ := hJ.v15 rfl
          refine wpOp_at rfl rfl ?_
          unfold frameG Oper.wp
          go_simp
          exact ⟨b0, b1, b2, b3, b4, true, b6, true, b8, b9, b10, x16, x17, x18, x19, x20, _, x21, _, x3, x4, rfl, rfl, { hJ with v22 := fun _ => rfl }⟩
        · have hb8 : b8 = false := hl
          subst hb8
          have hb9 : b9 = false := by
            cases b9
            · rfl
            · exact absurd (hJ.o9 rfl) (by decide)
          subst hb9
          refine wpOp_at rfl rfl ?_
          unfold frameG Oper.wp
          go_simp
          have hba : Below wx.heap.size wx (wx.alloc (.cells #[.bool false, .slice none 0 0, .slice none 0 0] 83)) := (Below.refl _ _).alloc (Nat.le_refl _) _
          exact ⟨b0, b1, b2, b3, b4, b5, b6, b7, true, false, b10, x16, x17, x18, x19, x20, x15, x21, x22, _, x4, rfl, rfl, { hJ with
            below := hJ.below.alloc hsz _
            v3 := fun _ => ⟨wx.heap.size, false, none, 0, 0, none, 0, 0, rfl, hsz, heap_alloc_new _ _, nofun⟩
            v17 := fun h => (hJ.v17 h).below hba
            v19 := fun h => (hJ.v19 h).below hba
            v20 := fun h => (hJ.v20 h).below hba
            v15 := fun h => (hJ.v15 h).below hba
            v21 := fun h => (hJ.v21 h).below hba
            o9 := nofun }⟩
        · simp [Region.binds] at ha
          obtain ⟨rfl, rfl, rfl, rfl, rfl, rfl, rfl, -, rfl, -, -⟩ := ha
          have hb9 : b9 = false := hl
          subst hb9
          obtain ⟨g, b, A3, k3, c3, A4, k4, c4, rfl, q1, q2, q3⟩ := hJ.v3 rfl
          obtain ⟨t1, u1, rfl, r1, r2⟩ := hJ.v21 rfl
          have s17 := (hJ.v17 rfl).setRow q2 (three_no_int _ _ _ _ _ _ _) #[.bool R.1.neg, t1, u1]
          have s19 := (hJ.v19 rfl).setRow q2 (three_no_int _ _ _ _ _ _ _) #[.bool R.1.neg, t1, u1]
          have s20 := (hJ.v20 rfl).setRow q2 (three_no_int _ _ _ _ _ _ _) #[.bool R.1.neg, t1, u1]
          have s15 := (hJ.v15 rfl).setRow q2 (three_no_int _ _ _ _ _ _ _) #[.bool R.1.neg, t1, u1]
          have s21 := (hJ.v21 rfl).setRow q2 (three_no_int _ _ _ _ _ _ _) #[.bool R.1.neg, t1, u1]
          have r1' := r1.setRow q2 (three_no_int _ _ _ _ _ _ _) #[.bool R.1.neg, t1, u1]
          have r2' := r2.setRow q2 (three_no_int _ _ _ _ _ _ _) #[.bool R.1.neg, t1, u1]
          obtain ⟨A5, c5, rfl, -⟩ := r1
          obtain ⟨A6, c6, rfl, -⟩ := r2
          refine wpOp_at rfl rfl ?_
          refine wp_store_row 83 (.tmp 3) (.tmp 21) rfl g #[.bool R.1.neg, .slice A5 R.1.top.length c5, .slice A6 R.1.bot.length c6] rfl rfl 83 _ q2 num_info rfl (three_one _ _ _ _ _ _ _) ?_
          exact ⟨true, true, true, true, true, true, true, b7, true, true, b10, x16, x17, x18, x19, x20, x15, _, x22, _, x4, rfl, rfl, { hJ with
            below := rBelow.setRow hJ.below q1 _
            v17 := fun _ => s17
            v19 := fun _ => s19
            v20 := fun _ => s20
            v15 := fun _ => s15
            v21 := fun _ => s21
            v3 := fun _ => ⟨g, _, _, _, _, _, _, _, rfl, q1, rheap_same q2, fun _ => ⟨rfl, r1', r2'⟩⟩
            o9 := fun _ => rfl }⟩
        · simp [Region.binds] at ha
          have h7 : b7 = true := ha.1
          subst h7
          clear ha
          have hv := hJ.v22 rfl
          refine wpOp_at rfl rfl ?_
          unfold frameG Oper.wp
          go_simp
          exact ⟨b0, b1, b2, b3, b4, b5, b6, true, b8, b9, true, x16, x17, x18, x19, x20, x15, x21, x22, x3, _, rfl, rfl, { hJ with v4 := fun _ => hv }⟩
      · rintro _ _ wx ⟨b0, b1, b2, b3, b4, b5, b6, b7, b8, b9, b10, x16, x17, x18, x19, x20, x15, x21, x22, x3, x4, rfl, rfl, hJ⟩ hr
        have e0 : b0 = true := ready_nil' hr 0 (by decide) (by simp [Region.binds])
        subst e0
        have e1 : b1 = true := ready_nil' hr 1 (by decide) (by simp [Region.binds])
        subst e1
        have e2 : b2 = true := ready_nil' hr 2 (by decide) (by simp [Region.binds])
        subst e2
        have e3 : b3 = true := ready_nil' hr 3 (by decide) (by simp [Region.binds])
        subst e3
        have e4 : b4 = true := ready_nil' hr 4 (by decide) (by simp [Region.binds])
        subst e4
        have e5 : b5 = true := ready_nil' hr 5 (by decide) (by simp [Region.binds])
        subst e5
        have e6 : b6 = true := ready_nil' hr 6 (by decide) (by simp [Region.binds])
        subst e6
        have e7 : b7 = true := ready_nil' hr 7 (by decide) (by simp [Region.binds])
        subst e7
        have e8 : b8 = true := ready_nil' hr 8 (by decide) (by simp [Region.binds])
        subst e8
        have e9 : b9 = true := ready_nil' hr 9 (by decide) (by simp [Region.binds])
        subst e9
        have e10 : b10 = true := ready_nil' hr 10 (by decide) (by simp [Region.binds])
        subst e10
        clear hr
        obtain ⟨g, b, A3, k3, c3, A4, k4, c4, rfl, q1, q2, q3⟩ := hJ.v3 rfl
        obtain ⟨hbe, r1, r2⟩ := q3 rfl
        subst hbe
        obtain ⟨⟨b, l, l'⟩, er⟩ := R
        dsimp only at r1 r2 HRT
        obtain rfl := hJ.v4 rfl
        have hxb := hJ.below
        have hxs := hxb.size
        have hxw := hWb.trans (hxb.mono (by omega))
        have hw0 := (hxb.block w.heap.size hWl).trans HW0.out
        have hgl := blk_lt q2
        have i1 : k3 = l.length := by obtain ⟨_, _, e, _⟩ := r1; injection e
        have i2 : k4 = l'.length := by obtain ⟨_, _, e, _⟩ := r2; injection e
        subst i1 i2
        have p0 : wx.cell? ⟨g, 0, none⟩ = some (.bool b) := (cell_of_row wx g 0 _ _ _ q2).trans rfl
        have p1 : wx.cell? ⟨g, 1, none⟩ = some (.slice A3 l.length c3) := (cell_of_row wx g 1 _ _ _ q2).trans rfl
        have p2 : wx.cell? ⟨g, 2, none⟩ = some (.slice A4 l'.length c4) := (cell_of_row wx g 2 _ _ _ q2).trans rfl
        have z0 : wx.cell? ⟨w.heap.size, 0, none⟩ = some (.bool n) := (cell_of_row wx w.heap.size 0 _ _ _ hw0).trans rfl
        have z1 : wx.cell? ⟨w.heap.size, 1, none⟩ = some (.slice A t.length c) := (cell_of_row wx w.heap.size 1 _ _ _ hw0).trans rfl
        have z2 : wx.cell? ⟨w.heap.size, 2, none⟩ = some (.slice A' u.length c') := (cell_of_row wx w.heap.size 2 _ _ _ hw0).trans rfl
        have SM : Hid (Calls Tryz.prog 83 #[.agg #[.bool n, .slice A t.length c, .slice A' u.length c'], .agg #[.bool b, .slice A3 l.length c3, .slice A4 l'.length c4]] wx fun e w' => e = .returned (.bool (sameNum n b t l u l')) ∧ Below wx.heap.size wx w') := Lib.hid (by
          obtain ⟨_, _, e, y1, y2, y3, y4⟩ := HR1.out
          injection e with e1 e2 e3
          subst e1 e3
          obtain ⟨_, _, e, y5, y6, y7, y8⟩ := HR2.out
          injection e with e1 e2 e3
          subst e1 e3
          obtain ⟨_, _, e, x1, x2, x3, x4⟩ := r1
          injection e with e1 e2 e3
          subst e1 e3
          obtain ⟨_, _, e, x5, x6, x7, x8⟩ := r2
          injection e with e1 e2 e3
          subst e1 e3
          exact refRatioSame_any n b t l u l' A A' A3 A4 c c' c3 c4 wx wx.heap.size ((y4.below hxw).more hxw.size) x4 ((y8.below hxw).more hxw.size) x8 (Nat.le_refl _) (by omega) (by omega) (by omega) (by omega))
        generalize sameNum n b t l u l' = SN at SM HRT
        clear hJ q2 q3 r1 r2 hw0
        unfold frameG
        cases he : (er == 0)
        · rw [he] at HRT
          go_wp2_with fail
          go_ret
          exact ⟨ret_bool (by rw [HRT.out]; rfl), hxw⟩
        · rw [he] at HRT
          go_wp2_with fail
          refine SM.out.mono ?_
          rintro e w2 ⟨rfl, hb2⟩
          go_wp2_with fail
          go_ret
          exact ⟨ret_bool (by rw [HRT.out]; rfl), hxw.trans (hb2.mono hxw.size)⟩
end Go.Proofs.YtmiccalfamepdaaGreatDoor
