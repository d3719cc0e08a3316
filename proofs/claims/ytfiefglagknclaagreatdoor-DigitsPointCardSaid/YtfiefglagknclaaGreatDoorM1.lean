/-
  Texts of this proof, joined (by wip/bin/bundle.py): Words, NatMath, Nat1, Nat2, Blk, NatBits, Nat3, Nat4, Nat5, Nat6, Nat7, Nat8.
-/
import Derived.Test.YtfiefglagknclaaGreatDoorProg
import Derived.WalkKit
import Derived.WalkSpells
import Derived.WalkLawsBesides
import Derived.Lib.Hide
import Derived.Laws.Rows
import Derived.Deep.QuietTactic
import Derived.BigQuiet
import Derived.Laws.MakeOwn
import Derived.OwnWalk
import Derived.Laws.BitsAllLaws
import Derived.Laws.CopyOwn
import Derived.Laws.AppendOwnNone
/-
  Words for memory that the other texts use: a slice value that holds given cells ('Lies'), kept from world to world.
-/
namespace Go.Proofs.YtfiefglagknclaaGreatDoor
open Go.RowKit

theorem ret_bool {a b : Bool} (h : a = b) : Ending.returned (.bool a) = .returned (.bool b) := by rw [h]
theorem ret_int {k : IntKind} {a b : Int} (h : a = b) : Ending.returned (.int k a) = .returned (.int k b) := by rw [h]
theorem ret_two {a b c d : Value} (h : a = c) (h' : b = d) : Ending.returned (.tuple #[a, b]) = .returned (.tuple #[c, d]) := by rw [h, h']

/-- The cells behind an address (if any is wanted at all) are these values, and lie below block B. -/
def Lies (w : World) (B : Nat) (A : Option Addr) (vs : List Value) : Prop :=
  vs = [] ∨ ∃ b off, A = some ⟨b, off, none⟩ ∧ b < B ∧ ∀ i v, vs[i]? = some v → w.cell? ⟨b, off + i, none⟩ = some v

theorem Lies.nil {w : World} {B : Nat} {A : Option Addr} : Lies w B A [] := .inl rfl
theorem Lies.keep {w w' : World} {B : Nat} {A : Option Addr} {vs : List Value} (h : Lies w B A vs) (hk : ∀ p : Addr, p.block < B → w'.cell? p = w.cell? p) : Lies w' B A vs := by
  rcases h with h | ⟨b, off, hA, hb, hc⟩
  · exact .inl h
  · exact .inr ⟨b, off, hA, hb, fun i v hv => (hk _ hb).trans (hc i v hv)⟩
theorem Lies.more {w : World} {B B' : Nat} {A : Option Addr} {vs : List Value} (h : Lies w B A vs) (hB : B ≤ B') : Lies w B' A vs := by
  rcases h with h | ⟨b, off, hA, hb, hc⟩
  · exact .inl h
  · exact .inr ⟨b, off, hA, by omega, hc⟩
theorem Lies.below {w w' : World} {B : Nat} {A : Option Addr} {vs : List Value} (h : Lies w B A vs) (hb : Below B w w') : Lies w' B A vs := h.keep fun _ hp => hb.cell hp
theorem Lies.drew {w : World} {B : Nat} {A : Option Addr} {vs : List Value} (h : Lies w B A vs) : Lies w.drew B A vs := h
theorem Lies.drewN {w : World} {B : Nat} {A : Option Addr} {vs : List Value} (h : Lies w B A vs) (n : Nat) : Lies (w.drewN n) B A vs := h
/-- The cell of a place that there is. -/
theorem Lies.at_ {w : World} {B : Nat} {A : Option Addr} {vs : List Value} (h : Lies w B A vs) {k : Nat} (hk : k < vs.length) :
    ∃ b off, A = some ⟨b, off, none⟩ ∧ b < B ∧ w.cell? ⟨b, off + k, none⟩ = some (vs[k]'hk) := by
  rcases h with h | ⟨b, off, hA, hb, hc⟩
  · subst h; simp at hk
  · exact ⟨b, off, hA, hb, hc k _ (List.getElem?_eq_getElem hk)⟩
theorem Lies.take {w : World} {B : Nat} {A : Option Addr} {vs : List Value} (h : Lies w B A vs) (n : Nat) : Lies w B A (vs.take n) := by
  rcases h with h | ⟨b, off, hA, hb, hc⟩
  · subst h; exact .inl (by simp)
  · refine .inr ⟨b, off, hA, hb, fun i v hv => hc i v ?_⟩
    rw [List.getElem?_take] at hv
    split at hv
    · exact hv
    · cases hv
/-- A row of the call's own, as such cells. -/
theorem Lies.of_own {w : World} {base : Nat} {e : TypeId} {size n c : Nat} {A : Option Addr} {xs : List Value} (h : w.ownsRow base e size (.slice A n c) n xs) : Lies w w.heap.size A xs := by
  rcases h.2 with ⟨hv, hx⟩ | ⟨g, cap, cur, hv, hb, hh, _⟩
  · exact .inl (List.eq_nil_of_length_eq_zero (by rw [h.1, hx, Nat.zero_mul]))
  · injection hv with hA
    subst hA
    have hlt := (h.lt g (by simp [Value.ownBlock])).2
    exact .inr ⟨g, 0, rfl, hlt, fun i v hv => by
      have := h.cells (g := g) (by simp [Value.ownBlock]) i v hv
      rw [Nat.zero_add]
      rw [← this]
      congr 1
      unfold Addr.add
      split
      · simp_all
      · simp⟩
/-- A row of the call's own is a slice. -/
theorem own_slice {w : World} {base : Nat} {e : TypeId} {size n : Nat} {v : Value} {xs : List Value} (h : w.ownsRow base e size v n xs) : ∃ A c, v = .slice A n c ∧ n ≤ c ∧ c ≤ maxLen := by
  rcases h.2 with ⟨hv, hx⟩ | ⟨g, cap, cur, hv, _, _, h1, h2, _⟩
  · subst hx; exact ⟨none, 0, hv, Nat.le_refl _, Nat.zero_le _⟩
  · exact ⟨_, cap, hv, h1, h2⟩
/-- The cells of a row of the call's own, by its block. -/
theorem own_cell {w : World} {base : Nat} {e : TypeId} {size n cap g : Nat} {xs : List Value} (h : w.ownsRow base e size (.slice (some ⟨g, 0, none⟩) n cap) n xs) (j : Nat) (v : Value) (hv : xs[j]? = some v) : w.cell? ⟨g, 0 + j, none⟩ = some v := by
  have := h.cells (g := g) rfl j v hv
  rw [Nat.zero_add, ← this]
  congr 1
  unfold Addr.add
  split
  · rename_i h; rw [h]
  · simp
/-- A block that was just made. -/
theorem Lies.new (w : World) (cs : List Value) (t : TypeId) : Lies (w.alloc (.cells cs.toArray t)) (w.heap.size + 1) (some ⟨w.heap.size, 0, none⟩) cs := by
  refine .inr ⟨w.heap.size, 0, rfl, by omega, fun i v hv => ?_⟩
  rw [cell_of_row (w.alloc (.cells cs.toArray t)) w.heap.size (0 + i) cs.toArray t (0, 0) (heap_alloc_new w _), Nat.zero_add]
  simpa using hv
end Go.Proofs.YtfiefglagknclaaGreatDoor

/-
  Natural numbers as lists of limbs, the lowest first: what they are worth, without noughts on top, and the digits of a number. Plain.
-/
namespace Nt
/-- What limbs are worth. -/
def val : List Nat → Nat
  | [] => 0
  | d :: r => d + 4294967296 * val r
def Ok (l : List Nat) : Prop := ∀ d ∈ l, d < 4294967296
/-- The limbs of a number, with none of 0 on top. -/
def digs (n : Nat) : List Nat := if h : n = 0 then [] else n % 4294967296 :: digs (n / 4294967296)
termination_by n
decreasing_by omega
/-- No nought on top. -/
def Top (l : List Nat) : Prop := ∀ h : l ≠ [], l.getLast h ≠ 0
theorem digs_zero : digs 0 = [] := by rw [digs]; rfl
theorem digs_pos {n : Nat} (h : n ≠ 0) : digs n = n % 4294967296 :: digs (n / 4294967296) := by rw [digs, dif_neg h]
theorem val_digs (n : Nat) : val (digs n) = n := by
  induction n using Nat.strongRecOn with
  | _ n ih =>
    by_cases h : n = 0
    · subst h; rw [digs_zero]; rfl
    · rw [digs_pos h, val, ih _ (by omega)]; omega
theorem ok_digs (n : Nat) : Ok (digs n) := by
  induction n using Nat.strongRecOn with
  | _ n ih =>
    by_cases h : n = 0
    · subst h; rw [digs_zero]; intro d hd; cases hd
    · rw [digs_pos h]
      intro d hd
      rcases List.mem_cons.1 hd with rfl | hd
      · omega
      · exact ih _ (by omega) d hd
theorem digs_nil_iff {n : Nat} : digs n = [] ↔ n = 0 := by
  constructor
  · intro h
    by_cases h0 : n = 0
    · exact h0
    · rw [digs_pos h0] at h; cases h
  · rintro rfl; exact digs_zero
theorem top_digs (n : Nat) : Top (digs n) := by
  induction n using Nat.strongRecOn with
  | _ n ih =>
    by_cases h : n = 0
    · subst h; rw [digs_zero]; intro h; exact absurd rfl h
    · intro hne
      simp only [digs_pos h]
      by_cases h2 : n / 4294967296 = 0
      · simp only [h2, digs_zero, List.getLast_singleton]; omega
      · rw [List.getLast_cons (by rw [ne_eq, digs_nil_iff]; exact h2)]
        exact ih _ (by omega) _
theorem top_cons {d : Nat} {r : List Nat} (h : Top (d :: r)) : Top r := by
  intro hne
  have := h (by simp)
  rwa [List.getLast_cons hne] at this
theorem ok_cons {d : Nat} {r : List Nat} (h : Ok (d :: r)) : d < 4294967296 ∧ Ok r := ⟨h d List.mem_cons_self, fun x hx => h x (List.mem_cons_of_mem _ hx)⟩
/-- Limbs without noughts on top are the digits of their worth. -/
theorem digs_val : ∀ {l : List Nat}, Ok l → Top l → digs (val l) = l
  | [], _, _ => by rw [val, digs_zero]
  | d :: r, ho, ht => by
    obtain ⟨hd, hr⟩ := ok_cons ho
    have ih := digs_val hr (top_cons ht)
    by_cases h0 : val (d :: r) = 0
    · exfalso
      rw [val] at h0
      have hr0 : val r = 0 := by omega
      rw [hr0, digs_zero] at ih
      subst ih
      exact ht (by simp) (by simp; omega)
    · rw [digs_pos h0, val]
      rw [show (d + 4294967296 * val r) % 4294967296 = d by omega, show (d + 4294967296 * val r) / 4294967296 = val r by omega, ih]
theorem val_append : ∀ (a b : List Nat), val (a ++ b) = val a + 4294967296 ^ a.length * val b
  | [], b => by simp [val]
  | d :: r, b => by
    rw [List.cons_append, val, val_append r b, val, List.length_cons, Nat.pow_succ]
    grind
theorem val_lt : ∀ {l : List Nat}, Ok l → val l < 4294967296 ^ l.length
  | [], _ => by simp [val]
  | d :: r, ho => by
    obtain ⟨hd, hr⟩ := ok_cons ho
    have ih := val_lt hr
    rw [val, List.length_cons, Nat.pow_succ]
    generalize 4294967296 ^ r.length = p at ih ⊢
    omega
theorem val_take_succ {l : List Nat} {i : Nat} (h : i < l.length) : val (l.take (i + 1)) = val (l.take i) + 4294967296 ^ i * l[i] := by
  rw [List.take_succ_eq_append_getElem h, val_append]
  simp [val, Nat.min_eq_left (Nat.le_of_lt h)]
theorem val_split (l : List Nat) (i : Nat) (h : i ≤ l.length) : val l = val (l.take i) + 4294967296 ^ i * val (l.drop i) := by
  have := val_append (l.take i) (l.drop i)
  rw [List.take_append_drop, List.length_take, Nat.min_eq_left h] at this
  exact this
theorem val_zeros : ∀ {l : List Nat}, (∀ d ∈ l, d = 0) → val l = 0
  | [], _ => rfl
  | d :: r, h => by rw [val, h d List.mem_cons_self, val_zeros (fun x hx => h x (List.mem_cons_of_mem _ hx))]
theorem ok_take {l : List Nat} (h : Ok l) (n : Nat) : Ok (l.take n) := fun d hd => h d (List.mem_of_mem_take hd)
theorem ok_drop {l : List Nat} (h : Ok l) (n : Nat) : Ok (l.drop n) := fun d hd => h d (List.mem_of_mem_drop hd)
theorem ok_get {l : List Nat} (h : Ok l) {i : Nat} (hi : i < l.length) : l[i] < 4294967296 := h _ (List.getElem_mem hi)
theorem ok_set {l : List Nat} (h : Ok l) {i x : Nat} (hx : x < 4294967296) : Ok (l.set i x) := fun d hd => by
  rcases List.mem_or_eq_of_mem_set hd with h1 | h1
  · exact h d h1
  · rw [h1]; exact hx
/-- What trim finds: noughts from n on, none just below. -/
theorem take_eq_digs {l : List Nat} {n : Nat} (ho : Ok l) (hn : n ≤ l.length) (hz : ∀ j (hj : j < l.length), n ≤ j → l[j] = 0) (ht : ∀ h : 0 < n, l[n - 1]'(by omega) ≠ 0) : l.take n = digs (val l) := by
  have hv : val (l.drop n) = 0 := val_zeros fun d hd => by
    obtain ⟨j, hj, rfl⟩ := List.getElem_of_mem hd
    rw [List.getElem_drop]
    exact hz _ _ (by omega)
  have h1 := val_split l n hn
  rw [hv, Nat.mul_zero, Nat.add_zero] at h1
  rw [h1]
  refine (digs_val (ok_take ho n) fun hne => ?_).symm
  have hpos : 0 < n := by
    rcases Nat.eq_zero_or_pos n with h0 | h0
    · subst h0; simp at hne
    · exact h0
  rw [List.getLast_eq_getElem]
  simp only [List.length_take, Nat.min_eq_left hn, List.getElem_take]
  exact ht hpos
/-- The digits stand at the head of the limbs. -/
theorem take_digs : ∀ {l : List Nat}, Ok l → l.take (digs (val l)).length = digs (val l)
  | [], _ => by simp [val, digs_zero]
  | d :: r, ho => by
    obtain ⟨hd, hr⟩ := ok_cons ho
    have ih := take_digs hr
    by_cases h0 : val (d :: r) = 0
    · rw [h0, digs_zero]; rfl
    · have e : digs (val (d :: r)) = d :: digs (val r) := by
        rw [digs_pos h0, val]
        rw [show (d + 4294967296 * val r) % 4294967296 = d by omega, show (d + 4294967296 * val r) / 4294967296 = val r by omega]
      rw [e, List.length_cons, List.take_succ_cons, ih]
theorem digs_inj {a b : Nat} (h : digs a = digs b) : a = b := by rw [← val_digs a, ← val_digs b, h]
/-- How many limbs a number has. -/
def size (n : Nat) : Nat := (digs n).length
theorem digs_len_le {l : List Nat} (h : Ok l) : (digs (val l)).length ≤ l.length := by
  have key : ∀ (k n : Nat), n < 4294967296 ^ k → (digs n).length ≤ k := by
    intro k
    induction k with
    | zero => intro n hn; rw [show n = 0 by simpa using hn, digs_zero]; simp
    | succ k ih =>
      intro n hn
      by_cases h0 : n = 0
      · subst h0; rw [digs_zero]; simp
      · rw [digs_pos h0, List.length_cons]
        have := ih (n / 4294967296) (by rw [Nat.pow_succ] at hn; rw [Nat.div_lt_iff_lt_mul (by omega)]; exact hn)
        omega
  exact key _ _ (val_lt h)
theorem digs_len_lt {n k : Nat} (h : n < 4294967296 ^ k) : (digs n).length ≤ k := by
  have h2 := digs_len_le (l := (List.range k).map fun i => n / 4294967296 ^ i % 4294967296) (fun d hd => by
    obtain ⟨i, _, rfl⟩ := List.mem_map.1 hd; omega)
  have key : ∀ (k n : Nat), n < 4294967296 ^ k → (digs n).length ≤ k := by
    intro k
    induction k with
    | zero => intro n hn; rw [show n = 0 by simpa using hn, digs_zero]; simp
    | succ k ih =>
      intro n hn
      by_cases h0 : n = 0
      · subst h0; rw [digs_zero]; simp
      · rw [digs_pos h0, List.length_cons]
        have := ih (n / 4294967296) (by rw [Nat.pow_succ] at hn; rw [Nat.div_lt_iff_lt_mul (by omega)]; exact hn)
        omega
  exact key k n h
theorem digs_ge {n : Nat} (h : n ≠ 0) : 4294967296 ^ ((digs n).length - 1) ≤ n := by
  induction n using Nat.strongRecOn with
  | _ n ih =>
    rw [digs_pos h, List.length_cons, Nat.add_sub_cancel]
    by_cases h2 : n / 4294967296 = 0
    · rw [h2, digs_zero]; simp; omega
    · have := ih _ (by omega) h2
      have hl : (digs (n / 4294967296)).length ≠ 0 := by
        intro e; exact h2 (digs_nil_iff.1 (List.eq_nil_of_length_eq_zero e))
      obtain ⟨m, hm⟩ : ∃ m, (digs (n / 4294967296)).length = m + 1 := ⟨(digs (n / 4294967296)).length - 1, by omega⟩
      rw [hm] at this ⊢
      rw [Nat.add_sub_cancel] at this
      rw [Nat.pow_succ]
      omega

/-! ### Which is greater -/
def cmp (x y : Nat) : Int := if x < y then -1 else if y < x then 1 else 0
theorem cmp_lt {x y : Nat} (h : x < y) : cmp x y = -1 := if_pos h
theorem cmp_gt {x y : Nat} (h : y < x) : cmp x y = 1 := by unfold cmp; rw [if_neg (by omega), if_pos h]
theorem cmp_eq (x : Nat) : cmp x x = 0 := by unfold cmp; rw [if_neg (by omega), if_neg (by omega)]
/-- The highest place where two numbers of one length part decides. -/
theorem val_lt_of {a b : List Nat} {i : Nat} (ha : Ok a) (hi : i < a.length) (hi' : i < b.length) (hd : a.drop (i + 1) = b.drop (i + 1)) (hlt : a[i] < b[i]) : val a < val b := by
  have h1 := val_split a i (by omega)
  have h2 := val_split b i (by omega)
  rw [List.drop_eq_getElem_cons hi, val] at h1
  rw [List.drop_eq_getElem_cons hi', val, ← hd] at h2
  have h3 := val_lt (ok_take ha i)
  rw [List.length_take, Nat.min_eq_left (by omega)] at h3
  generalize val (a.drop (i + 1)) = r at h1 h2
  generalize a[i] = x at h1 hlt
  generalize b[i] = y at h2 hlt
  generalize 4294967296 ^ i = p at h1 h2 h3
  generalize val (a.take i) = s at h1 h3
  generalize val (b.take i) = t at h2
  have h4 : p * (x + 4294967296 * r) + p ≤ p * (y + 4294967296 * r) := by
    have h5 : p * (x + 4294967296 * r + 1) = p * (x + 4294967296 * r) + p := Nat.mul_succ _ _
    have h6 := Nat.mul_le_mul_left p (show x + 4294967296 * r + 1 ≤ y + 4294967296 * r by omega)
    omega
  omega
/-- More limbs, none of 0 on top: greater. -/
theorem digs_len_mono {x y : Nat} (h : (digs x).length < (digs y).length) : x < y := by
  have hy : y ≠ 0 := by rintro rfl; rw [digs_zero] at h; simp at h
  have h1 := digs_ge hy
  have h2 := val_lt (ok_digs x)
  rw [val_digs] at h2
  have h3 : (4294967296 : Nat) ^ (digs x).length ≤ 4294967296 ^ ((digs y).length - 1) := Nat.pow_le_pow_right (by omega) (by omega)
  omega
/-- Noughts laid on top, up to n limbs. -/
def pad (a : List Nat) (n : Nat) : List Nat := a ++ List.replicate (n - a.length) 0
theorem val_pad (a : List Nat) (n : Nat) : val (pad a n) = val a := by
  unfold pad
  rw [val_append, val_zeros (fun d hd => (List.mem_replicate.1 hd).2), Nat.mul_zero, Nat.add_zero]
theorem pad_len {a : List Nat} {n : Nat} (h : a.length ≤ n) : (pad a n).length = n := by simp [pad]; omega
theorem ok_pad {a : List Nat} (h : Ok a) (n : Nat) : Ok (pad a n) := fun d hd => by
  rcases List.mem_append.1 hd with h1 | h1
  · exact h d h1
  · rw [(List.mem_replicate.1 h1).2]; omega
theorem pad_get? {a : List Nat} {n i : Nat} (hi : i < (pad a n).length) : (pad a n)[i]? = some (a.getD i 0) := by
  unfold pad at hi ⊢
  rw [List.length_append, List.length_replicate] at hi
  rw [List.getD_eq_getElem?_getD, List.getElem?_append]
  split
  · rename_i h; rw [List.getElem?_eq_getElem h]; rfl
  · rename_i h
    rw [List.getElem?_replicate, if_pos (by omega), List.getElem?_eq_none (by omega)]
    rfl
theorem pad_get {a : List Nat} {n i : Nat} (hi : i < (pad a n).length) : (pad a n)[i] = a.getD i 0 := by
  have := pad_get? hi
  rw [List.getElem?_eq_getElem hi] at this
  exact Option.some.inj this

/-- Limbs that are worth enough are digits. -/
theorem eq_digs {l : List Nat} (ho : Ok l) (h : l ≠ [] → 4294967296 ^ (l.length - 1) ≤ val l) : digs (val l) = l := by
  refine digs_val ho fun hne hz => ?_
  have h1 := h hne
  have hl : 0 < l.length := List.length_pos_iff.2 hne
  have e : l = l.take (l.length - 1) ++ [0] := by
    have := List.dropLast_concat_getLast hne
    rw [hz, List.dropLast_eq_take] at this
    exact this.symm
  have hv : val l = val (l.take (l.length - 1)) := by
    have := congrArg val e
    rw [val_append] at this
    rw [this]
    simp [val]
  have h2 := val_lt (ok_take ho (l.length - 1))
  rw [List.length_take, Nat.min_eq_left (by omega)] at h2
  omega

/-! ### Sums, limb by limb -/
/-- What holds when k limbs are added: cur the limbs as they stand, c what is carried. -/
def AddAt (dp dq cur : List Nat) (k c : Nat) : Prop :=
  cur.length = dp.length ∧ Ok cur ∧ val (cur.take k) + c * 4294967296 ^ k = val (dp.take k) + val (dq.take k) ∧ cur.drop k = dp.drop k
theorem add_start {dp dq : List Nat} (h : Ok dp) : AddAt dp dq dp 0 0 := ⟨rfl, h, by simp [val], rfl⟩
theorem take_getD (l : List Nat) (k : Nat) : val (l.take (k + 1)) = val (l.take k) + 4294967296 ^ k * l.getD k 0 := by
  by_cases h : k < l.length
  · rw [val_take_succ h, List.getD_eq_getElem?_getD, List.getElem?_eq_getElem h]; rfl
  · rw [List.take_of_length_le (by omega), List.take_of_length_le (by omega), List.getD_eq_getElem?_getD, List.getElem?_eq_none (by omega)]
    simp
theorem set_take {l : List Nat} {k x : Nat} (h : k < l.length) : val ((l.set k x).take (k + 1)) = val (l.take k) + 4294967296 ^ k * x := by
  rw [val_take_succ (by simpa using h), List.getElem_set_self, List.take_set_of_le (Nat.le_refl _)]
theorem drop_set {l : List Nat} {k x : Nat} : (l.set k x).drop (k + 1) = l.drop (k + 1) := by
  rw [List.drop_set, if_pos (by omega)]
theorem add_get {dp dq cur : List Nat} {k c : Nat} (h : AddAt dp dq cur k c) (hk : k < dp.length) : cur[k]? = some dp[k] := by
  have : (cur.drop k)[0]? = (dp.drop k)[0]? := by rw [h.2.2.2]
  rw [List.getElem?_drop, List.getElem?_drop, Nat.add_zero, List.getElem?_eq_getElem hk] at this
  exact this
theorem add_step {dp dq cur : List Nat} {k c s d : Nat} (h : AddAt dp dq cur k c) (hk : k < dp.length) (hs : s < 4294967296) (e : dp[k] + dq.getD k 0 + c = s + 4294967296 * d) : AddAt dp dq (cur.set k s) (k + 1) d := by
  obtain ⟨h1, h2, h3, h4⟩ := h
  refine ⟨by simpa using h1, ok_set h2 hs, ?_, ?_⟩
  · rw [set_take (by omega), val_take_succ hk, take_getD, Nat.pow_succ]
    generalize 4294967296 ^ k = p at h3 ⊢
    generalize dp[k] = x at e ⊢
    generalize dq.getD k 0 = y at e ⊢
    grind
  · rw [drop_set]
    have := congrArg (List.drop 1) h4
    rw [List.drop_drop, List.drop_drop] at this
    exact this
theorem add_end {dp dq cur : List Nat} {k c : Nat} (h : AddAt dp dq cur k c) (hq : dq.length ≤ dp.length) (hk : k = dp.length ∨ (k ≤ dp.length ∧ c = 0 ∧ dq.length ≤ k)) : val cur + c * 4294967296 ^ dp.length = val dp + val dq := by
  obtain ⟨h1, h2, h3, h4⟩ := h
  rcases hk with rfl | ⟨hk, rfl, hqk⟩
  · rw [List.take_of_length_le (by omega), List.take_of_length_le (by omega), List.take_of_length_le (by omega)] at h3
    exact h3
  · rw [val_split cur k (by omega), val_split dp k hk, h4]
    rw [List.take_of_length_le (l := dq) hqk] at h3
    omega
/-- The digits of a sum: with nothing carried. -/
theorem add_done0 {x y : Nat} {cur : List Nat} (h : AddAt (digs x) (digs y) cur (digs x).length 0 ∨ ∃ k, AddAt (digs x) (digs y) cur k 0 ∧ k ≤ (digs x).length ∧ (digs y).length ≤ k) (hq : (digs y).length ≤ (digs x).length) : digs (x + y) = cur := by
  have key : val cur = x + y ∧ cur.length = (digs x).length ∧ Ok cur := by
    rcases h with h | ⟨k, h, h1, h2⟩
    · have := add_end h hq (.inl rfl)
      rw [val_digs, val_digs, Nat.zero_mul, Nat.add_zero] at this
      exact ⟨this, h.1, h.2.1⟩
    · have := add_end h hq (.inr ⟨h1, rfl, h2⟩)
      rw [val_digs, val_digs, Nat.zero_mul, Nat.add_zero] at this
      exact ⟨this, h.1, h.2.1⟩
  rw [← key.1]
  refine eq_digs key.2.2 fun hne => ?_
  rw [key.2.1, key.1]
  have hx : x ≠ 0 := by
    rintro rfl
    have := key.2.1
    rw [digs_zero] at this
    exact hne (List.eq_nil_of_length_eq_zero this)
  have := digs_ge hx
  omega
theorem add_done1 {x y : Nat} {cur : List Nat} (h : AddAt (digs x) (digs y) cur (digs x).length 1) (hq : (digs y).length ≤ (digs x).length) : digs (x + y) = cur ++ [1] := by
  have h2 := add_end h hq (.inl rfl)
  rw [val_digs, val_digs, Nat.one_mul] at h2
  have hv : val (cur ++ [1]) = x + y := by
    rw [val_append, h.1, ← h2]; simp [val]
  rw [← hv]
  refine eq_digs (fun d hd => ?_) fun _ => ?_
  · rcases List.mem_append.1 hd with h3 | h3
    · exact h.2.1 d h3
    · simp at h3; omega
  · rw [hv, List.length_append, List.length_singleton, Nat.add_sub_cancel, h.1, ← h2]
    omega

/-! ### Differences, limb by limb -/
def SubAt (dp dq cur : List Nat) (k c : Nat) : Prop :=
  cur.length = dp.length ∧ Ok cur ∧ val (cur.take k) + val (dq.take k) = val (dp.take k) + c * 4294967296 ^ k ∧ cur.drop k = dp.drop k
theorem sub_start {dp dq : List Nat} (h : Ok dp) : SubAt dp dq dp 0 0 := ⟨rfl, h, by simp [val], rfl⟩
theorem sub_get {dp dq cur : List Nat} {k c : Nat} (h : SubAt dp dq cur k c) (hk : k < dp.length) : cur[k]? = some dp[k] := by
  have : (cur.drop k)[0]? = (dp.drop k)[0]? := by rw [h.2.2.2]
  rw [List.getElem?_drop, List.getElem?_drop, Nat.add_zero, List.getElem?_eq_getElem hk] at this
  exact this
theorem sub_step {dp dq cur : List Nat} {k c s d : Nat} (h : SubAt dp dq cur k c) (hk : k < dp.length) (hs : s < 4294967296) (e : dp[k] + 4294967296 * d = s + dq.getD k 0 + c) : SubAt dp dq (cur.set k s) (k + 1) d := by
  obtain ⟨h1, h2, h3, h4⟩ := h
  refine ⟨by simpa using h1, ok_set h2 hs, ?_, ?_⟩
  · rw [set_take (by omega), val_take_succ hk, take_getD, Nat.pow_succ]
    generalize 4294967296 ^ k = p at h3 ⊢
    generalize dp[k] = x at e ⊢
    generalize dq.getD k 0 = y at e ⊢
    grind
  · rw [drop_set]
    have := congrArg (List.drop 1) h4
    rw [List.drop_drop, List.drop_drop] at this
    exact this
theorem sub_end {dp dq cur : List Nat} {k c : Nat} (h : SubAt dp dq cur k c) (hq : dq.length ≤ dp.length) (hle : val dq ≤ val dp) (hc : c ≤ 1) (hk : k = dp.length ∨ (k ≤ dp.length ∧ c = 0 ∧ dq.length ≤ k)) : val cur = val dp - val dq := by
  obtain ⟨h1, h2, h3, h4⟩ := h
  rcases hk with rfl | ⟨hk, rfl, hqk⟩
  · rw [List.take_of_length_le (by omega), List.take_of_length_le (by omega), List.take_of_length_le (by omega)] at h3
    have := val_lt h2
    rw [h1] at this
    generalize 4294967296 ^ dp.length = p at h3 this
    rcases Nat.eq_zero_or_pos c with h0 | h0
    · subst h0; omega
    · obtain rfl : c = 1 := by omega
      omega
  · rw [val_split cur k (by omega), val_split dp k hk, h4]
    rw [List.take_of_length_le (l := dq) hqk] at h3
    omega
theorem digs_len_le_of {x y : Nat} (h : y ≤ x) : (digs y).length ≤ (digs x).length := by
  rcases Nat.lt_or_ge (digs x).length (digs y).length with h1 | h1
  · have := digs_len_mono h1; omega
  · exact h1
theorem cmp_neg {x y : Nat} : cmp x y < 0 ↔ x < y := by
  unfold cmp
  split
  · simp_all
  · split <;> simp <;> omega

/-! ### The document's sums and differences: limbs laid on top, one by one -/
def AddUp (a b cur : List Nat) (k c : Nat) : Prop := cur.length = k ∧ Ok cur ∧ val cur + c * 4294967296 ^ k = val (a.take k) + val (b.take k)
theorem addUp_step {a b cur : List Nat} {k c : Nat} (h : AddUp a b cur k c) : AddUp a b (cur ++ [(a.getD k 0 + b.getD k 0 + c) % 4294967296]) (k + 1) ((a.getD k 0 + b.getD k 0 + c) / 4294967296) := by
  obtain ⟨h1, h2, h3⟩ := h
  refine ⟨by simp [h1], ?_, ?_⟩
  · intro d hd
    rcases List.mem_append.1 hd with h4 | h4
    · exact h2 d h4
    · simp at h4; omega
  · rw [val_append, take_getD, take_getD, h1, Nat.pow_succ]
    simp only [val, Nat.mul_zero, Nat.add_zero]
    have e : a.getD k 0 + b.getD k 0 + c = (a.getD k 0 + b.getD k 0 + c) % 4294967296 + 4294967296 * ((a.getD k 0 + b.getD k 0 + c) / 4294967296) := by omega
    generalize 4294967296 ^ k = p at h3 ⊢
    generalize (a.getD k 0 + b.getD k 0 + c) % 4294967296 = s at e ⊢
    generalize (a.getD k 0 + b.getD k 0 + c) / 4294967296 = d at e ⊢
    generalize a.getD k 0 = x at e ⊢
    generalize b.getD k 0 = y at e ⊢
    grind
theorem getD_lt {l : List Nat} (h : Ok l) (k : Nat) : l.getD k 0 < 4294967296 := by
  rw [List.getD_eq_getElem?_getD]
  rcases Nat.lt_or_ge k l.length with h1 | h1
  · rw [List.getElem?_eq_getElem h1]; exact ok_get h h1
  · rw [List.getElem?_eq_none h1]; show 0 < 4294967296; omega
theorem addUp_end {a b cur : List Nat} {n c : Nat} (ha : Ok a) (hb : Ok b) (hla : a.length ≤ n) (hlb : b.length ≤ n) (h : AddUp a b cur (n + 1) c) : val cur = val a + val b := by
  obtain ⟨h1, h2, h3⟩ := h
  rw [List.take_of_length_le (by omega), List.take_of_length_le (by omega)] at h3
  have p1 := val_lt ha
  have p2 := val_lt hb
  have q1 : (4294967296 : Nat) ^ a.length ≤ 4294967296 ^ n := Nat.pow_le_pow_right (by omega) hla
  have q2 : (4294967296 : Nat) ^ b.length ≤ 4294967296 ^ n := Nat.pow_le_pow_right (by omega) hlb
  rw [Nat.pow_succ] at h3
  generalize 4294967296 ^ n = p at *
  rcases Nat.eq_zero_or_pos c with h0 | h0
  · subst h0; omega
  · exfalso
    have : p * 4294967296 ≤ c * (p * 4294967296) := Nat.le_mul_of_pos_left _ h0
    omega
def SubUp (a b cur : List Nat) (k c : Nat) : Prop := cur.length = k ∧ Ok cur ∧ val cur + val (b.take k) = val (a.take k) + c * 4294967296 ^ k
theorem subUp_step {a b cur : List Nat} {k c s d : Nat} (h : SubUp a b cur k c) (hs : s < 4294967296) (e : a.getD k 0 + 4294967296 * d = s + b.getD k 0 + c) : SubUp a b (cur ++ [s]) (k + 1) d := by
  obtain ⟨h1, h2, h3⟩ := h
  refine ⟨by simp [h1], ?_, ?_⟩
  · intro d hd
    rcases List.mem_append.1 hd with h4 | h4
    · exact h2 d h4
    · simp at h4; omega
  · rw [val_append, take_getD, take_getD, h1, Nat.pow_succ]
    simp only [val, Nat.mul_zero, Nat.add_zero]
    generalize 4294967296 ^ k = p at h3 ⊢
    generalize a.getD k 0 = x at e ⊢
    generalize b.getD k 0 = y at e ⊢
    grind
theorem subUp_end {a b cur : List Nat} {n c : Nat} (hla : a.length ≤ n) (hlb : b.length ≤ n) (hle : val b ≤ val a) (h : SubUp a b cur n c) : val cur = val a - val b := by
  obtain ⟨h1, h2, h3⟩ := h
  rw [List.take_of_length_le (by omega), List.take_of_length_le (by omega)] at h3
  have := val_lt h2
  rw [h1] at this
  generalize 4294967296 ^ n = p at *
  rcases Nat.eq_zero_or_pos c with h0 | h0
  · subst h0; omega
  · exfalso
    have : p ≤ c * p := Nat.le_mul_of_pos_left _ h0
    omega
/-- Twice a number, and a bit. -/
def TwiceUp (a : List Nat) (bit : Nat) (cur : List Nat) (k c : Nat) : Prop := cur.length = k ∧ Ok cur ∧ val cur + c * 4294967296 ^ k = 2 * val (a.take k) + bit
theorem twiceUp_step {a cur : List Nat} {bit k c : Nat} (h : TwiceUp a bit cur k c) : TwiceUp a bit (cur ++ [(2 * a.getD k 0 + c) % 4294967296]) (k + 1) ((2 * a.getD k 0 + c) / 4294967296) := by
  obtain ⟨h1, h2, h3⟩ := h
  refine ⟨by simp [h1], ?_, ?_⟩
  · intro d hd
    rcases List.mem_append.1 hd with h4 | h4
    · exact h2 d h4
    · simp at h4; omega
  · rw [val_append, take_getD, h1, Nat.pow_succ]
    simp only [val, Nat.mul_zero, Nat.add_zero]
    have e : 2 * a.getD k 0 + c = (2 * a.getD k 0 + c) % 4294967296 + 4294967296 * ((2 * a.getD k 0 + c) / 4294967296) := by omega
    generalize 4294967296 ^ k = p at h3 ⊢
    generalize (2 * a.getD k 0 + c) % 4294967296 = s at e ⊢
    generalize (2 * a.getD k 0 + c) / 4294967296 = d at e ⊢
    generalize a.getD k 0 = x at e ⊢
    grind
theorem twiceUp_end {a cur : List Nat} {bit c : Nat} (ha : Ok a) (hb : bit ≤ 1) (h : TwiceUp a bit cur (a.length + 1) c) : val cur = 2 * val a + bit := by
  obtain ⟨h1, h2, h3⟩ := h
  rw [List.take_of_length_le (by omega)] at h3
  have p1 := val_lt ha
  rw [Nat.pow_succ] at h3
  generalize 4294967296 ^ a.length = p at *
  rcases Nat.eq_zero_or_pos c with h0 | h0
  · subst h0; omega
  · exfalso
    have : p * 4294967296 ≤ c * (p * 4294967296) := Nat.le_mul_of_pos_left _ h0
    omega
theorem ok_nil : Ok [] := fun d hd => by cases hd
theorem addUp_start (a b : List Nat) : AddUp a b [] 0 0 := ⟨rfl, ok_nil, by simp [val]⟩
theorem subUp_start (a b : List Nat) : SubUp a b [] 0 0 := ⟨rfl, ok_nil, by simp [val]⟩
theorem twiceUp_start (a : List Nat) (bit : Nat) : TwiceUp a bit [] 0 bit := ⟨rfl, ok_nil, by simp [val]⟩
/-- A bit of a number, out of its limb. -/
theorem bit_limb {a : List Nat} (ha : Ok a) (i : Nat) : a.getD (i / 32) 0 / 2 ^ (i % 32) % 2 = val a / 2 ^ i % 2 := by
  have key : ∀ (k : Nat) (l : List Nat), Ok l → val l / 4294967296 ^ k % 4294967296 = l.getD k 0 := by
    intro k
    induction k with
    | zero =>
      intro l hl
      cases l with
      | nil => simp [val]
      | cons d r => have := (ok_cons hl).1; simp [val]; omega
    | succ k ih =>
      intro l hl
      cases l with
      | nil => simp [val]
      | cons d r =>
        have h1 := (ok_cons hl).1
        rw [List.getD_cons_succ, ← ih r (ok_cons hl).2, val, Nat.pow_succ, Nat.mul_comm (4294967296 ^ k), ← Nat.div_div_eq_div_mul]
        rw [show (d + 4294967296 * val r) / 4294967296 = val r by omega]
  rw [← key _ a ha]
  have e : (2 : Nat) ^ i = 4294967296 ^ (i / 32) * 2 ^ (i % 32) := by
    rw [show (4294967296 : Nat) = 2 ^ 32 from rfl, ← Nat.pow_mul, ← Nat.pow_add, Nat.div_add_mod]
  rw [e, ← Nat.div_div_eq_div_mul]
  generalize val a / 4294967296 ^ (i / 32) = v
  have h32 : i % 32 < 32 := Nat.mod_lt _ (by omega)
  generalize i % 32 = j at h32
  have t0 : (v % 2 ^ 32).testBit j = v.testBit j := by rw [Nat.testBit_mod_two_pow, decide_eq_true h32, Bool.true_and]
  rw [Nat.testBit_eq_decide_div_mod_eq, Nat.testBit_eq_decide_div_mod_eq, decide_eq_decide, show (2 : Nat) ^ 32 = 4294967296 from rfl] at t0
  have m1 := Nat.mod_lt (v % 4294967296 / 2 ^ j) (show 0 < 2 by omega)
  have m2 := Nat.mod_lt (v / 2 ^ j) (show 0 < 2 by omega)
  generalize v % 4294967296 / 2 ^ j % 2 = p at *
  generalize v / 2 ^ j % 2 = q at *
  omega

/-! ### Bit by bit: the document's products and quotients -/
theorem half_step (v k : Nat) : v / 2 ^ k = 2 * (v / 2 ^ (k + 1)) + v / 2 ^ k % 2 := by
  rw [Nat.pow_succ, ← Nat.div_div_eq_div_mul]; omega
theorem len_mul {a b : List Nat} (ha : Ok a) (hb : Ok b) {x : Nat} (h : x ≤ val a * val b) : (digs x).length ≤ a.length + b.length := by
  refine digs_len_lt (Nat.lt_of_le_of_lt h ?_)
  rw [Nat.pow_add]
  exact Nat.mul_lt_mul'' (val_lt ha) (val_lt hb)
theorem len_le {a : List Nat} (ha : Ok a) {x : Nat} (h : x ≤ val a) : (digs x).length ≤ a.length := digs_len_lt (Nat.lt_of_le_of_lt h (val_lt ha))
theorem top_zero {a : List Nat} (ha : Ok a) : val a / 2 ^ (32 * a.length) = 0 := by
  refine Nat.div_eq_of_lt ?_
  rw [Nat.pow_mul]
  exact val_lt ha
theorem mul_step {v b k x bit : Nat} (hx : x = v / 2 ^ (k + 1) * b) (hb : bit = v / 2 ^ k % 2) : 2 * x + bit * b = v / 2 ^ k * b := by
  have := half_step v k
  rw [← hb] at this
  rw [this, hx]
  grind
theorem mul_le {v b k : Nat} : v / 2 ^ k * b ≤ v * b := Nat.mul_le_mul_right _ (Nat.div_le_self _ _)
theorem mul_le2 {v b k x : Nat} (hx : x = v / 2 ^ (k + 1) * b) : 2 * x ≤ v * b := by
  have h1 := half_step v k
  have h2 : 2 * (v / 2 ^ (k + 1)) ≤ v / 2 ^ k := by omega
  have h3 : 2 * x ≤ v / 2 ^ k * b := by
    rw [hx, ← Nat.mul_assoc]; exact Nat.mul_le_mul_right _ h2
  exact Nat.le_trans h3 mul_le
/-- One more bit of a quotient and a rest. -/
theorem div_step {n b q r bit : Nat} (hb : 0 < b) (hq : q = n / b) (hr : r = n % b) (hbit : bit ≤ 1) :
    (b ≤ 2 * r + bit → 2 * q + 1 = (2 * n + bit) / b ∧ 2 * r + bit - b = (2 * n + bit) % b) ∧ (¬ b ≤ 2 * r + bit → 2 * q + 0 = (2 * n + bit) / b ∧ 2 * r + bit = (2 * n + bit) % b) := by
  have h1 := Nat.div_add_mod n b
  have h2 := Nat.mod_lt n hb
  rw [← hq, ← hr] at h1
  rw [← hr] at h2
  constructor
  · intro h
    have e : 2 * n + bit = (2 * r + bit - b) + b * (2 * q + 1) := by
      have h3 : b * (2 * q + 1) = 2 * (b * q) + b := by grind
      omega
    rw [e, Nat.add_mul_div_left _ _ hb, Nat.add_mul_mod_self_left, Nat.div_eq_of_lt (by omega), Nat.mod_eq_of_lt (by omega)]
    exact ⟨by omega, rfl⟩
  · intro h
    have e : 2 * n + bit = (2 * r + bit) + b * (2 * q) := by
      have h3 : b * (2 * q) = 2 * (b * q) := by grind
      omega
    rw [e, Nat.add_mul_div_left _ _ hb, Nat.add_mul_mod_self_left, Nat.div_eq_of_lt (by omega), Nat.mod_eq_of_lt (by omega)]
    exact ⟨by omega, rfl⟩

/-- The quotient and the rest; 0 where there is nothing to divide by. -/
def quo (x y : Nat) : Nat := x / y
def rest (x y : Nat) : Nat := if y = 0 then 0 else x % y
theorem quo_zero (x : Nat) : quo x 0 = 0 := Nat.div_zero x
theorem rest_zero (x : Nat) : rest x 0 = 0 := if_pos rfl
theorem rest_pos {x y : Nat} (h : y ≠ 0) : rest x y = x % y := if_neg h

/-! ### Products, limb by limb -/
theorem val_set {l : List Nat} {k x : Nat} (h : k < l.length) : val (l.set k x) + 4294967296 ^ k * l[k] = val l + 4294967296 ^ k * x := by
  have h1 := val_split (l.set k x) (k + 1) (by rw [List.length_set]; exact h)
  have h2 := val_split l (k + 1) (by omega)
  rw [set_take h, drop_set] at h1
  rw [val_take_succ h] at h2
  omega
/-- What holds when x has been multiplied with j limbs. -/
def MulAt (cur0 db cur : List Nat) (x i j c : Nat) : Prop :=
  cur.length = cur0.length ∧ Ok cur ∧ c < 4294967296 ∧ val cur + c * 4294967296 ^ (i + j) = val cur0 + x * val (db.take j) * 4294967296 ^ i ∧ cur.drop (i + j) = cur0.drop (i + j)
theorem mul_start {cur0 db : List Nat} {x i : Nat} (h : Ok cur0) : MulAt cur0 db cur0 x i 0 0 := ⟨rfl, h, by omega, by simp [val], rfl⟩
theorem mulAt_step {cur0 db cur : List Nat} {x i j c o s d : Nat} (h : MulAt cur0 db cur x i j c) (hj : j < db.length) (hij : i + j < cur.length) (ho : o = cur[i + j]) (hs : s < 4294967296) (hd : d < 4294967296) (e : x * db[j] + o + c = s + 4294967296 * d) : MulAt cur0 db (cur.set (i + j) s) x i (j + 1) d := by
  obtain ⟨h1, h2, h3, h4, h5⟩ := h
  refine ⟨by simpa using h1, ok_set h2 hs, hd, ?_, ?_⟩
  · have hv := val_set (x := s) hij
    rw [← ho] at hv
    rw [val_take_succ hj]
    have hp : (4294967296 : Nat) ^ (i + (j + 1)) = 4294967296 ^ (i + j) * 4294967296 := by rw [← Nat.add_assoc, Nat.pow_succ]
    have hq : (4294967296 : Nat) ^ (i + j) = 4294967296 ^ j * 4294967296 ^ i := by rw [Nat.pow_add, Nat.mul_comm]
    rw [hp]
    rw [hq] at h4 hv ⊢
    generalize (4294967296 : Nat) ^ j = p at *
    generalize (4294967296 : Nat) ^ i = q at *
    generalize db[j] = y at *
    generalize val (cur.set (i + j) s) = V at *
    generalize val cur = V0 at *
    generalize val cur0 = V1 at *
    generalize val (db.take j) = D at *
    grind
  · rw [← Nat.add_assoc, drop_set]
    have := congrArg (List.drop 1) h5
    rw [List.drop_drop, List.drop_drop] at this
    exact this
theorem mulAt_end {cur0 db cur : List Nat} {x i c : Nat} (h : MulAt cur0 db cur x i db.length c) (hij : i + db.length < cur.length) (hz : cur0[i + db.length]? = some 0) : val (cur.set (i + db.length) c) = val cur0 + x * val db * 4294967296 ^ i := by
  obtain ⟨h1, h2, h3, h4, h5⟩ := h
  have hv := val_set (x := c) hij
  have : (cur.drop (i + db.length))[0]? = (cur0.drop (i + db.length))[0]? := by rw [h5]
  rw [List.getElem?_drop, List.getElem?_drop, Nat.add_zero, hz, List.getElem?_eq_getElem hij] at this
  rw [Option.some.inj this] at hv
  rw [List.take_length] at h4
  rw [Nat.mul_comm] at h4
  omega
/-- What holds when i limbs of the one have been multiplied with the other. -/
def MulOut (da db cur : List Nat) (i : Nat) : Prop :=
  cur.length = da.length + db.length ∧ Ok cur ∧ val cur = val (da.take i) * val db ∧ ∀ k, i + db.length ≤ k → k < cur.length → cur[k]? = some 0
theorem mulOut_start (da db : List Nat) : MulOut da db (List.replicate (da.length + db.length) 0) 0 := by
  refine ⟨by simp, fun d hd => ?_, ?_, fun k _ hk => ?_⟩
  · rw [(List.mem_replicate.1 hd).2]; omega
  · rw [val_zeros (fun d hd => (List.mem_replicate.1 hd).2)]; simp [val]
  · simp at hk; simp [hk]
theorem mulOut_step {da db cur0 cur : List Nat} {i c : Nat} (h : MulOut da db cur0 i) (hi : i < da.length) (hc : MulAt cur0 db cur da[i] i db.length c) : MulOut da db (cur.set (i + db.length) c) (i + 1) := by
  obtain ⟨h1, h2, h3, h4⟩ := h
  have hl : cur.length = cur0.length := hc.1
  have hij : i + db.length < cur.length := by rw [hl, h1]; omega
  refine ⟨by rw [List.length_set, hl, h1], ok_set hc.2.1 hc.2.2.1, ?_, fun k hk hk2 => ?_⟩
  · rw [mulAt_end hc hij (h4 _ (Nat.le_refl _) (by omega)), h3, val_take_succ hi]
    grind
  · rw [List.length_set] at hk2
    rw [List.getElem?_set_ne (by omega)]
    have : (cur.drop (i + db.length))[k - (i + db.length)]? = (cur0.drop (i + db.length))[k - (i + db.length)]? := by rw [hc.2.2.2.2]
    rw [List.getElem?_drop, List.getElem?_drop, show i + db.length + (k - (i + db.length)) = k by omega, h4 k (by omega) (by omega)] at this
    exact this
theorem mul_bound {x y : Nat} (hx : x < 4294967296) (hy : y < 4294967296) : x * y ≤ 18446744065119617025 := by
  have := Nat.mul_le_mul (Nat.le_of_lt_succ hx) (Nat.le_of_lt_succ hy)
  simpa using this

/-! ### Division by one limb, in place -/
def ShortAt (l : List Nat) (d : Nat) (cur : List Nat) (k r : Nat) : Prop :=
  cur.length = l.length ∧ Ok cur ∧ r < d ∧ cur.take k = l.take k ∧ val (cur.drop k) * d + r = val (l.drop k)
theorem short_start {l : List Nat} {d : Nat} (h : Ok l) (hd : 0 < d) : ShortAt l d l l.length 0 := ⟨rfl, h, hd, rfl, by simp [val]⟩
theorem short_get {l cur : List Nat} {d k r : Nat} (h : ShortAt l d cur (k + 1) r) (hk : k < l.length) : cur[k]? = some l[k] := by
  have : (cur.take (k + 1))[k]? = (l.take (k + 1))[k]? := by rw [h.2.2.2.1]
  rw [List.getElem?_take, List.getElem?_take, if_pos (by omega), if_pos (by omega), List.getElem?_eq_getElem hk] at this
  exact this
theorem short_bounds {r d x : Nat} (hr : r < d) (hd : d < 4294967296) (hx : x < 4294967296) : (r * 4294967296 + x) / d < 4294967296 ∧ r * 4294967296 + x < 18446744073709551616 ∧ (r * 4294967296 + x) % d < d := by
  refine ⟨?_, by omega, Nat.mod_lt _ (by omega)⟩
  rw [Nat.div_lt_iff_lt_mul (by omega)]
  have : (r + 1) * 4294967296 ≤ d * 4294967296 := Nat.mul_le_mul_right _ hr
  rw [Nat.mul_comm 4294967296 d]
  omega
theorem short_step {l cur : List Nat} {d k r : Nat} (h : ShortAt l d cur (k + 1) r) (hk : k < l.length) (hl : Ok l) (hd : d < 4294967296) : ShortAt l d (cur.set k ((r * 4294967296 + l[k]) / d)) k ((r * 4294967296 + l[k]) % d) := by
  obtain ⟨h1, h2, h3, h4, h5⟩ := h
  have hb := short_bounds h3 hd (ok_get hl hk)
  refine ⟨by simpa using h1, ok_set h2 hb.1, hb.2.2, ?_, ?_⟩
  · rw [List.take_set_of_le (Nat.le_refl _)]
    have := congrArg (List.take k) h4
    rwa [List.take_take, List.take_take, Nat.min_eq_left (by omega)] at this
  · have hc : k < cur.length := by omega
    rw [List.drop_eq_getElem_cons (by rw [List.length_set]; exact hc), List.getElem_set_self, drop_set, val, List.drop_eq_getElem_cons hk, val, ← h5]
    have e := Nat.div_add_mod (r * 4294967296 + l[k]) d
    generalize (r * 4294967296 + l[k]) / d = q at *
    generalize (r * 4294967296 + l[k]) % d = r' at *
    generalize l[k] = x at *
    generalize val (cur.drop (k + 1)) = V at *
    grind
theorem short_end {l cur : List Nat} {d r : Nat} (h : ShortAt l d cur 0 r) : val cur = val l / d ∧ r = val l % d := by
  obtain ⟨h1, h2, h3, h4, h5⟩ := h
  rw [List.drop_zero, List.drop_zero] at h5
  rw [← h5, Nat.mul_comm, Nat.mul_add_div (by omega), Nat.div_eq_of_lt h3, Nat.mul_add_mod, Nat.mod_eq_of_lt h3]
  exact ⟨by omega, rfl⟩
end Nt

/-
  What trim, limb, longer, Same and Cmp compute, for all limbs.
-/
namespace Go.Proofs.YtfiefglagknclaaGreatDoor
open Go.RowKit
set_option maxHeartbeats 400000
set_option maxRecDepth 100000
set_option linter.unusedVariables false

/-- Limbs as values. -/
def U (l : List Nat) : List Value := l.map fun n : Nat => Value.int .u32 (n : Int)
theorem U_get {l : List Nat} {i : Nat} (h : i < l.length) : (U l)[i]'(by simpa [U] using h) = .int .u32 ((l[i] : Nat) : Int) := by simp [U]
theorem U_len (l : List Nat) : (U l).length = l.length := by simp [U]
theorem Lies.limb {w : World} {B : Nat} {A : Option Addr} {l : List Nat} (h : Lies w B A (U l)) {k : Nat} (hk : k < l.length) :
    ∃ b off, A = some ⟨b, off, none⟩ ∧ b < B ∧ w.cell? ⟨b, off + k, none⟩ = some (.int .u32 ((l[k] : Nat) : Int)) := by
  obtain ⟨b, off, hA, hb, hc⟩ := h.at_ (k := k) (by rw [U_len]; exact hk)
  rw [U_get hk] at hc
  exact ⟨b, off, hA, hb, hc⟩

theorem trim_any (A : Option Addr) (c B : Nat) (l : List Nat) (w : World) (hl : Lies w B A (U l)) (ho : Nt.Ok l) (hc : l.length ≤ c) (hm : c ≤ 9223372036854775807) :
    Calls Tryz.prog 83 #[.slice A l.length c] w fun e w' => e = .returned (.slice A (Nt.digs (Nt.val l)).length (Nt.digs (Nt.val l)).length) ∧ w = w' := by
  have HL := Lib.hid hl
  have HO := Lib.hid ho
  clear hl ho
  go_enter Tryz.func83, Tryz.ntmps83
  go_wp2_with fail
  go_loop [3] (fun i => ∃ n : Nat, n ≤ l.length ∧ i = .int .i64 (n : Int) ∧ Hid (∀ j (hj : j < l.length), n ≤ j → l[j] = 0)) (fun i => (intOf i).toNat)
  case atStart => exact ⟨l.length, Nat.le_refl _, rfl, Lib.hid (fun j hj h => absurd hj (by omega))⟩
  case round =>
    obtain ⟨n, hn, rfl, H⟩ := hrel
    by_cases h0 : 0 < n
    · obtain ⟨b, off, rfl, _, hcell⟩ := HL.out.limb (k := n - 1) (by omega)
      generalize hx : l[n - 1]'(by omega) = x at hcell
      have HX := Lib.hid hx
      have hxb : x < 4294967296 := by rw [← hx]; exact Nt.ok_get HO.out (by omega)
      clear hx
      have hpos : (0 : Int) < (n : Int) := by omega
      by_cases hz : x = 0
      · subst hz
        go_wp2_with fail
        go_round
        case rel =>
          refine ⟨n - 1, by omega, by go_num, Lib.hid (fun j hj h => ?_)⟩
          by_cases e : j = n - 1
          · subst e; exact HX.out
          · exact H.out j hj (by omega)
        case measure => simp [intOf]; omega
      · have hne : ((x : Int) == 0) = false := by simp; omega
        have HE : Hid ((Nt.digs (Nt.val l)).length = n) := by
          have := Nt.take_eq_digs HO.out hn H.out (fun _ => by rw [HX.out]; exact hz)
          rw [← this, List.length_take]
          exact Nat.min_eq_left hn
        clear hz
        go_wp2_with fail
        go_ret
        exact ⟨by rw [HE.out]; rfl, rfl⟩
    · obtain rfl : n = 0 := by omega
      have HE : Hid ((Nt.digs (Nt.val l)).length = 0) := Lib.hid (by
        have := Nt.take_eq_digs HO.out hn H.out (fun h => absurd h (by omega))
        rw [← this]; simp)
      go_wp2_with fail
      go_ret
      exact ⟨by rw [HE.out]; rfl, rfl⟩

theorem limb_any (A : Option Addr) (c B : Nat) (l : List Nat) (i : Nat) (w : World) (hl : Lies w B A (U l)) (hc : l.length ≤ c) (hm : c ≤ 9223372036854775807) (hi : i ≤ 9223372036854775807) (ho : Nt.Ok l) :
    Calls Tryz.prog 77 #[.slice A l.length c, .int .i64 (i : Int)] w fun e w' => e = .returned (.int .u64 ((l.getD i 0 : Nat) : Int)) ∧ w = w' := by
  by_cases hlt : i < l.length
  · obtain ⟨b, off, rfl, _, hcell⟩ := hl.limb hlt
    have HG : Hid (l.getD i 0 = l[i]) := Lib.hid (by simp [List.getD_eq_getElem?_getD, hlt])
    have hb := Nt.ok_get ho hlt
    clear hl ho
    generalize l[i] = x at hcell HG hb
    go_enter Tryz.func77, Tryz.ntmps77
    go_wp2_with fail
    go_ret
    exact ⟨ret_int (by rw [HG.out]), rfl⟩
  · have HG : Hid (l.getD i 0 = 0) := Lib.hid (by rw [List.getD_eq_getElem?_getD, List.getElem?_eq_none (by omega)]; rfl)
    clear hl ho
    go_enter Tryz.func77, Tryz.ntmps77
    go_wp2_with fail
    go_ret
    exact ⟨ret_int (by rw [HG.out]; rfl), rfl⟩

theorem longer_any (A A' : Option Addr) (n n' c c' : Nat) (w : World) (hc : n ≤ 9223372036854775807) (hc' : n' ≤ 9223372036854775807) :
    Calls Tryz.prog 76 #[.slice A n c, .slice A' n' c'] w fun e w' => e = .returned (.int .i64 ((max n n' : Nat) : Int)) ∧ w = w' := by
  by_cases h : n' < n
  · have HG : Hid (max n n' = n) := Lib.hid (by omega)
    go_enter Tryz.func76, Tryz.ntmps76
    go_wp2_with fail
    go_ret
    exact ⟨ret_int (by rw [HG.out]), rfl⟩
  · have HG : Hid (max n n' = n') := Lib.hid (by omega)
    go_enter Tryz.func76, Tryz.ntmps76
    go_wp2_with fail
    go_ret
    exact ⟨ret_int (by rw [HG.out]), rfl⟩

theorem same_any (A A' : Option Addr) (c c' B B' : Nat) (xs ys : List Nat) (w : World) (hx : Lies w B A (U xs)) (hy : Lies w B' A' (U ys))
    (hn : xs.length ≤ 9223372036854775807) (hm : ys.length ≤ 9223372036854775807) :
    Calls Tryz.prog 30 #[.slice A xs.length c, .slice A' ys.length c'] w fun e w' => e = .returned (.bool (xs == ys)) ∧ ∃ n, w' = w.drewN n := by
  have HX := Lib.hid hx
  have HY := Lib.hid hy
  clear hx hy
  by_cases hlen : xs.length = ys.length
  · have hb : (((xs.length : Nat) : Int) != ((ys.length : Nat) : Int)) = false := by simp [hlen]
    have HE := Lib.hid hlen
    have hle : xs.length ≤ ys.length := by omega
    clear hlen
    go_enter Tryz.func30, Tryz.ntmps30
    go_wp2_with fail
    go_loopw [5] (fun i wr => ∃ k m : Nat, wr = w.drewN m ∧ k ≤ xs.length ∧ i = .int .i64 k ∧ Hid (xs.take k = ys.take k)) (fun i _ => xs.length - (intOf i).toNat)
    case atStart => exact ⟨0, 0, rfl, Nat.zero_le _, rfl, Lib.hid (by simp)⟩
    case round =>
      obtain ⟨k, m, rfl, hk, rfl, H⟩ := hrel
      by_cases hlt : k < xs.length
      · obtain ⟨b, off, rfl, _, hc⟩ := HX.out.limb hlt
        have hlt' : k < ys.length := by omega
        obtain ⟨b', off', rfl, _, hc'⟩ := HY.out.limb hlt'
        have HS : Hid (xs[k] = ys[k] → xs.take (k + 1) = ys.take (k + 1)) := fun e => by
          rw [List.take_succ_eq_append_getElem hlt, List.take_succ_eq_append_getElem hlt', H.out, e]
        have HN : Hid (xs[k] ≠ ys[k] → (xs == ys) = false) := fun e => by
          rw [beq_eq_false_iff_ne]; rintro rfl; exact e rfl
        generalize xs[k] = x at hc HS HN
        generalize ys[k] = y at hc' HS HN
        cases hxy : ((x : Int) != (y : Int))
        · have HE2 : Hid (x = y) := Lib.hid (by have h := bne_eq_false_iff_eq.1 hxy; omega)
          go_wp2_with fail
          go_quiet (fail)
          go_wp2_with fail
          go_roundw
          case rel => exact ⟨k + 1, _, rfl, by omega, by go_num, Lib.hid (HS.out HE2.out)⟩
          case measure => simp [intOf]; omega
        · have HE2 : Hid (x ≠ y) := Lib.hid (by have h := bne_iff_ne.1 hxy; omega)
          go_wp2_with fail
          go_quiet (fail)
          go_wp2_with fail
          go_ret
          exact ⟨ret_bool (HN.out HE2.out).symm, _, World.drewN_drewN _ _ _⟩
      · go_wp2_with fail
        go_ret
        refine ⟨ret_bool ?_, _, rfl⟩
        have h := H.out
        rw [List.take_of_length_le (by omega), List.take_of_length_le (by have := HE.out; omega)] at h
        rw [h]; simp
  · go_enter Tryz.func30, Tryz.ntmps30
    go_wp2_with fail
    go_ret
    refine ⟨ret_bool ?_, 0, rfl⟩
    symm
    rw [beq_eq_false_iff_ne]; rintro rfl; exact hlen rfl
end Go.Proofs.YtfiefglagknclaaGreatDoor

/-
  What nat.Cmp and scrimref02.Cmp compute: which of two numbers is greater.
-/
namespace Go.Proofs.YtfiefglagknclaaGreatDoor
open Go.RowKit
set_option maxHeartbeats 1000000
set_option maxRecDepth 100000
set_option linter.unusedVariables false

theorem quiet_three (w : World) (a b c : Nat) : ∃ n, ((w.drewN a).drewN b).drewN c = w.drewN n := ⟨a + b + c, by rw [World.drewN_drewN, World.drewN_drewN, Nat.add_assoc]⟩

theorem cmp_any (A A' : Option Addr) (c c' B : Nat) (a b : List Nat) (w : World) (hx : Lies w B A (U a)) (hy : Lies w B A' (U b)) (ha : Nt.Ok a) (hb : Nt.Ok b)
    (hc : a.length ≤ c) (hc' : b.length ≤ c') (hm : c ≤ 9223372036854775807) (hm' : c' ≤ 9223372036854775807) :
    Calls Tryz.prog 86 #[.slice A a.length c, .slice A' b.length c'] w fun e w' => e = .returned (.int .i64 (Nt.cmp (Nt.val a) (Nt.val b))) ∧ ∃ n, w' = w.drewN n := by
  have ha' := Nt.digs_len_le ha
  have hb' := Nt.digs_len_le hb
  have HTA : Hid (a.take (Nt.digs (Nt.val a)).length = Nt.digs (Nt.val a)) := Lib.hid (Nt.take_digs ha)
  have HTB : Hid (b.take (Nt.digs (Nt.val b)).length = Nt.digs (Nt.val b)) := Lib.hid (Nt.take_digs hb)
  have HX : Hid (Lies w B A (U (Nt.digs (Nt.val a)))) := by
    have := hx.take (Nt.digs (Nt.val a)).length
    rw [show (U a).take (Nt.digs (Nt.val a)).length = U (a.take (Nt.digs (Nt.val a)).length) from List.map_take.symm, HTA.out] at this
    exact this
  have HY : Hid (Lies w B A' (U (Nt.digs (Nt.val b)))) := by
    have := hy.take (Nt.digs (Nt.val b)).length
    rw [show (U b).take (Nt.digs (Nt.val b)).length = U (b.take (Nt.digs (Nt.val b)).length) from List.map_take.symm, HTB.out] at this
    exact this
  have hta := trim_any A c B a w hx ha hc hm
  have htb := trim_any A' c' B b w hy hb hc' hm'
  have TA := Lib.hid hta
  have TB := Lib.hid htb
  have HVA := Lib.hid (Nt.val_digs (Nt.val a))
  have HVB := Lib.hid (Nt.val_digs (Nt.val b))
  have HOA := Lib.hid (Nt.ok_digs (Nt.val a))
  have HOB := Lib.hid (Nt.ok_digs (Nt.val b))
  have HLT := Lib.hid (fun h => Nt.digs_len_mono (x := Nt.val a) (y := Nt.val b) h)
  have HGT := Lib.hid (fun h => Nt.digs_len_mono (x := Nt.val b) (y := Nt.val a) h)
  clear hx hy hta htb HTA HTB
  generalize Nt.val a = x at *
  generalize Nt.val b = y at *
  generalize Nt.digs x = da at *
  generalize Nt.digs y = db at *
  by_cases h1 : da.length < db.length
  · have HE := Lib.hid (Nt.cmp_lt (HLT.out h1))
    go_enter Tryz.func86, Tryz.ntmps86
    go_wp2_with fail
    refine TA.out.mono ?_
    rintro e w' ⟨rfl, rfl⟩
    go_wp2_with fail
    refine TB.out.mono ?_
    rintro e w' ⟨rfl, rfl⟩
    go_wp2_with fail
    go_ret
    exact ⟨by rw [HE.out]; rfl, 0, rfl⟩
  · by_cases h2 : db.length < da.length
    · have HE := Lib.hid (Nt.cmp_gt (HGT.out h2))
      go_enter Tryz.func86, Tryz.ntmps86
      go_wp2_with fail
      refine TA.out.mono ?_
      rintro e w' ⟨rfl, rfl⟩
      go_wp2_with fail
      refine TB.out.mono ?_
      rintro e w' ⟨rfl, rfl⟩
      go_wp2_with fail
      go_ret
      exact ⟨by rw [HE.out]; rfl, 0, rfl⟩
    · have hlen : da.length ≤ db.length := by omega
      have hlen' : db.length ≤ da.length := by omega
      go_enter Tryz.func86, Tryz.ntmps86
      go_wp2_with fail
      refine TA.out.mono ?_
      rintro e w' ⟨rfl, rfl⟩
      go_wp2_with fail
      refine TB.out.mono ?_
      rintro e w' ⟨rfl, rfl⟩
      go_wp2_with fail
      go_loopw [5] (fun i wr => ∃ k m : Nat, wr = w.drewN m ∧ k ≤ da.length ∧ i = .int .i64 ((k : Int) - 1) ∧ Hid (da.drop k = db.drop k)) (fun i _ => (intOf i + 1).toNat)
      case atStart => exact ⟨da.length, 0, rfl, Nat.le_refl _, by go_num, Lib.hid (by rw [List.drop_length, List.drop_eq_nil_of_le hlen'])⟩
      case round =>
        obtain ⟨k, m, rfl, hk, rfl, H⟩ := hrel
        rcases k with _ | k
        · have HE : Hid (Nt.cmp x y = 0) := Lib.hid (by
            have h := H.out
            rw [List.drop_zero, List.drop_zero] at h
            rw [← HVA.out, ← HVB.out, h]; exact Nt.cmp_eq _)
          go_wp2_with fail
          go_ret
          exact ⟨by rw [HE.out]; rfl, _, rfl⟩
        · have hlt : k < da.length := by omega
          have hlt' : k < db.length := by omega
          obtain ⟨b1, off1, rfl, _, hc1⟩ := HX.out.limb hlt
          obtain ⟨b2, off2, rfl, _, hc2⟩ := HY.out.limb hlt'
          have P1 : Hid (da[k] < db[k] → Nt.cmp x y = -1) := Lib.hid (fun h => by
            have := Nt.val_lt_of HOA.out hlt hlt' H.out h
            rw [HVA.out, HVB.out] at this
            exact Nt.cmp_lt this)
          have P2 : Hid (db[k] < da[k] → Nt.cmp x y = 1) := Lib.hid (fun h => by
            have := Nt.val_lt_of HOB.out hlt' hlt H.out.symm h
            rw [HVA.out, HVB.out] at this
            exact Nt.cmp_gt this)
          have P3 : Hid (da[k] = db[k] → da.drop k = db.drop k) := Lib.hid (fun h => by
            rw [List.drop_eq_getElem_cons hlt, List.drop_eq_getElem_cons hlt', H.out, h])
          generalize da[k] = d1 at hc1 P1 P2 P3
          generalize db[k] = d2 at hc2 P1 P2 P3
          have hk1 : ((k + 1 : Nat) : Int) - 1 = (k : Int) := by omega
          rw [hk1]
          clear hk1
          rcases Nat.lt_trichotomy d1 d2 with h | h | h
          · have HE := Lib.hid (P1.out h)
            go_wp2_with fail
            go_quiet (fail)
            go_wp2_with fail
            go_ret
            exact ⟨by rw [HE.out]; rfl, _, World.drewN_drewN _ _ _⟩
          · have HE := Lib.hid (P3.out h)
            subst h
            go_wp2_with fail
            go_quiet (fail)
            go_wp2_with fail
            go_quiet (fail)
            go_wp2_with fail
            go_roundw
            case rel => exact ⟨k, _, rfl, by omega, by go_num, Lib.hid HE.out⟩
            case measure => first | (simp [intOf]; done) | (simp [intOf]; omega)
          · have HE := Lib.hid (P2.out h)
            go_wp2_with fail
            go_quiet (fail)
            go_wp2_with fail
            go_quiet (fail)
            go_wp2_with fail
            go_ret
            exact ⟨by rw [HE.out]; rfl, quiet_three _ _ _ _⟩

theorem refCmp_any (A A' : Option Addr) (c c' B : Nat) (a b : List Nat) (w : World) (hx : Lies w B A (U a)) (hy : Lies w B A' (U b)) (ha : Nt.Ok a) (hb : Nt.Ok b)
    (hc : a.length ≤ c) (hc' : b.length ≤ c') (hm : c ≤ 9223372036854775807) (hm' : c' ≤ 9223372036854775807) :
    Calls Tryz.prog 118 #[.slice A a.length c, .slice A' b.length c'] w fun e w' => e = .returned (.int .i64 (Nt.cmp (Nt.val a) (Nt.val b))) ∧ w = w' := by
  obtain ⟨n, hn⟩ : ∃ n, n = max a.length b.length := ⟨_, rfl⟩
  have hna : a.length ≤ n := by omega
  have hnb : b.length ≤ n := by omega
  have hnm : n ≤ 9223372036854775807 := by omega
  have HN := Lib.hid hn
  have LA := Lib.hid (fun i hi => limb_any A c B a i w hx hc hm hi ha)
  have LB := Lib.hid (fun i hi => limb_any A' c' B b i w hy hc' hm' hi hb)
  have PA := Lib.hid (Nt.pad_len hna)
  have PB := Lib.hid (Nt.pad_len hnb)
  have GA := Lib.hid (fun i (hi : i < (Nt.pad a n).length) => Nt.pad_get hi)
  have GB := Lib.hid (fun i (hi : i < (Nt.pad b n).length) => Nt.pad_get hi)
  have HVA := Lib.hid (Nt.val_pad a n)
  have HVB := Lib.hid (Nt.val_pad b n)
  have HOA := Lib.hid (Nt.ok_pad ha n)
  have HOB := Lib.hid (Nt.ok_pad hb n)
  clear hx hy ha hb hn
  generalize Nt.val a = x at *
  generalize Nt.val b = y at *
  generalize Nt.pad a n = da at *
  generalize Nt.pad b n = db at *
  go_enter Tryz.func118, Tryz.ntmps118
  go_wp2_with fail
  refine (longer_any A A' a.length b.length c c' _ (by omega) (by omega)).mono ?_
  rintro e w' ⟨rfl, rfl⟩
  rw [← HN.out]
  go_wp2_with fail
  go_loop [5] (fun i => ∃ k : Nat, k ≤ n ∧ i = .int .i64 ((k : Int) - 1) ∧ Hid (da.drop k = db.drop k)) (fun i => (intOf i + 1).toNat)
  case atStart => exact ⟨n, Nat.le_refl _, by go_num, Lib.hid (by rw [List.drop_eq_nil_of_le (by rw [PA.out]; omega), List.drop_eq_nil_of_le (by rw [PB.out]; omega)])⟩
  case round =>
    obtain ⟨k, hk, rfl, H⟩ := hrel
    rcases k with _ | k
    · have HE : Hid (Nt.cmp x y = 0) := Lib.hid (by
        have h := H.out
        rw [List.drop_zero, List.drop_zero] at h
        rw [← HVA.out, ← HVB.out, h]; exact Nt.cmp_eq _)
      go_wp2_with fail
      go_ret
      exact ⟨by rw [HE.out]; rfl, rfl⟩
    · have hlt : k < da.length := by rw [PA.out]; omega
      have hlt' : k < db.length := by rw [PB.out]; omega
      have P1 : Hid (a.getD k 0 < b.getD k 0 → Nt.cmp x y = -1) := Lib.hid (fun h => by
        rw [← GA.out k hlt, ← GB.out k hlt'] at h
        have := Nt.val_lt_of HOA.out hlt hlt' H.out h
        rw [HVA.out, HVB.out] at this
        exact Nt.cmp_lt this)
      have P2 : Hid (b.getD k 0 < a.getD k 0 → Nt.cmp x y = 1) := Lib.hid (fun h => by
        rw [← GA.out k hlt, ← GB.out k hlt'] at h
        have := Nt.val_lt_of HOB.out hlt' hlt H.out.symm h
        rw [HVA.out, HVB.out] at this
        exact Nt.cmp_gt this)
      have P3 : Hid (a.getD k 0 = b.getD k 0 → da.drop k = db.drop k) := Lib.hid (fun h => by
        rw [← GA.out k hlt, ← GB.out k hlt'] at h
        rw [List.drop_eq_getElem_cons hlt, List.drop_eq_getElem_cons hlt', H.out, h])
      have CA := Lib.hid (LA.out k (by omega))
      have CB := Lib.hid (LB.out k (by omega))
      clear hlt hlt'
      generalize a.getD k 0 = d1 at P1 P2 P3 CA
      generalize b.getD k 0 = d2 at P1 P2 P3 CB
      have hk1 : ((k + 1 : Nat) : Int) - 1 = (k : Int) := by omega
      rw [hk1]
      clear hk1
      rcases Nat.lt_trichotomy d1 d2 with h | h | h
      · have HE := Lib.hid (P1.out h)
        go_wp2_with fail
        refine CA.out.mono ?_
        rintro e w' ⟨rfl, rfl⟩
        go_wp2_with fail
        refine CB.out.mono ?_
        rintro e w' ⟨rfl, rfl⟩
        go_wp2_with fail
        go_ret
        exact ⟨by rw [HE.out]; rfl, rfl⟩
      · have HE := Lib.hid (P3.out h)
        subst h
        go_wp2_with fail
        refine CA.out.mono ?_
        rintro e w' ⟨rfl, rfl⟩
        go_wp2_with fail
        refine CB.out.mono ?_
        rintro e w' ⟨rfl, rfl⟩
        go_wp2_with fail
        refine CA.out.mono ?_
        rintro e w' ⟨rfl, rfl⟩
        go_wp2_with fail
        refine CB.out.mono ?_
        rintro e w' ⟨rfl, rfl⟩
        go_wp2_with fail
        go_round
        case rel => exact ⟨k, by omega, by go_num, Lib.hid HE.out⟩
        case measure => first | (simp [intOf]; done) | (simp [intOf]; omega)
      · have HE := Lib.hid (P2.out h)
        go_wp2_with fail
        refine CA.out.mono ?_
        rintro e w' ⟨rfl, rfl⟩
        go_wp2_with fail
        refine CB.out.mono ?_
        rintro e w' ⟨rfl, rfl⟩
        go_wp2_with fail
        refine CA.out.mono ?_
        rintro e w' ⟨rfl, rfl⟩
        go_wp2_with fail
        refine CB.out.mono ?_
        rintro e w' ⟨rfl, rfl⟩
        go_wp2_with fail
        go_ret
        exact ⟨by rw [HE.out]; rfl, rfl⟩
end Go.Proofs.YtfiefglagknclaaGreatDoor

/-
  Words for a block of memory that the call made and knows whole: 'Blk'; a law for make.
-/
namespace Go.Proofs.YtfiefglagknclaaGreatDoor
open Go.RowKit

/-- Block g is just these cells, none frozen. -/
def Blk (w : World) (g : Nat) (t : TypeId) (vs : List Value) : Prop := w.heap[g]? = some (.cells vs.toArray t (0, 0))

theorem Blk.lt {w : World} {g : Nat} {t : TypeId} {vs : List Value} (h : Blk w g t vs) : g < w.heap.size := by
  rcases Nat.lt_or_ge g w.heap.size with hl | hl
  · exact hl
  · unfold Blk at h; rw [Array.getElem?_eq_none hl] at h; cases h
theorem Blk.cell {w : World} {g : Nat} {t : TypeId} {vs : List Value} (h : Blk w g t vs) {i : Nat} {v : Value} (hi : vs[i]? = some v) : w.cell? ⟨g, i, none⟩ = some v := by
  rw [cell_of_row w g i vs.toArray t (0, 0) h]; simpa using hi
theorem Blk.frozen {w : World} {g : Nat} {t : TypeId} {vs : List Value} (h : Blk w g t vs) (i : Nat) : w.frozen? ⟨g, i, none⟩ = false := by
  unfold Blk at h; simp [World.frozen?, h]
theorem Blk.set_ {w : World} {g : Nat} {t : TypeId} {vs : List Value} (h : Blk w g t vs) (i : Nat) (v : Value) : Blk (w.setCell ⟨g, i, none⟩ v) g t (vs.set i v) := by
  unfold Blk at h ⊢
  simp [World.setCell, Array.getElem?_modify, h]
theorem Blk.drewN {w : World} {g : Nat} {t : TypeId} {vs : List Value} (h : Blk w g t vs) (n : Nat) : Blk (w.drewN n) g t vs := h
theorem Blk.keep {w w' : World} {g B : Nat} {t : TypeId} {vs : List Value} (h : Blk w g t vs) (hb : Below B w w') (hg : g < B) : Blk w' g t vs := (hb.block g hg).trans h
theorem Blk.new (w : World) (t : TypeId) (vs : List Value) : Blk (w.alloc (.cells vs.toArray t)) w.heap.size t vs := heap_alloc_new w _
theorem Blk.alloc {w : World} {g : Nat} {t : TypeId} {vs : List Value} (h : Blk w g t vs) (o : Obj) : Blk (w.alloc o) g t vs := (Below.heap_alloc w o g h.lt).trans h
theorem Blk.far {w : World} {g : Nat} {t : TypeId} {vs : List Value} (h : Blk w g t vs) {p : Addr} (hp : g ≠ p.block) (v : Value) : Blk (w.setCell p v) g t vs := (Below.heap_setCell w p v g hp).trans h
theorem Blk.own {w : World} {g base n : Nat} {t : TypeId} {vs : List Value} (h : Blk w g t vs) (hb : base ≤ g) (hn : n ≤ vs.length) (hm : vs.length ≤ maxLen) : w.ownsRow base t 1 (.slice (some ⟨g, 0, none⟩) n vs.length) n (vs.take n) :=
  ⟨by simp; omega, .inr ⟨g, vs.length, vs.toArray, rfl, hb, h, hn, hm, by simp, by simp⟩⟩
theorem Blk.own_all {w : World} {g base : Nat} {t : TypeId} {vs : List Value} (h : Blk w g t vs) (hb : base ≤ g) (hm : vs.length ≤ maxLen) : w.ownsRow base t 1 (.slice (some ⟨g, 0, none⟩) vs.length vs.length) vs.length vs := by
  have := h.own (n := vs.length) hb (Nat.le_refl _) hm
  rwa [List.take_length] at this
theorem Blk.lies {w : World} {g : Nat} {t : TypeId} {vs : List Value} (h : Blk w g t vs) : Lies w w.heap.size (some ⟨g, 0, none⟩) vs :=
  .inr ⟨g, 0, rfl, h.lt, fun i v hv => by rw [Nat.zero_add]; exact h.cell hv⟩
theorem blk_of_own {w : World} {base n : Nat} {t : TypeId} {v : Value} {xs : List Value} (h : w.ownsRow base t 1 v n xs) (hn : 0 < n) : ∃ g vs, v = .slice (some ⟨g, 0, none⟩) n vs.length ∧ base ≤ g ∧ Blk w g t vs ∧ vs.take n = xs ∧ n ≤ vs.length ∧ vs.length ≤ maxLen := by
  rcases h.2 with ⟨_, h0⟩ | ⟨g, cap, cur, hv, hb, hh, h1, h2, h3, h4⟩
  · omega
  · rw [Nat.mul_one] at h3 h4
    have hl : cur.toList.length = cap := by simpa using h3
    exact ⟨g, cur.toList, by rw [hl]; exact hv, hb, by unfold Blk; simpa using hh, h4, by omega, by omega⟩

theorem madeCells_one (z : Value) (n : Nat) : (madeCells #[z] n).toList = List.replicate n z := by
  apply List.ext_getElem?
  intro i
  simp only [madeCells, Array.toList_map, Array.toList_range, List.getElem?_map, List.getElem?_replicate]
  by_cases h : i < n
  · simp [h, Nat.mod_one]
  · simp [h]

/-- make of a slice of one-cell elements: the block, whole. -/
theorem wpList_make_blk {P : Program} (w : World) {ops : Array Oper} {rest : List Oper} {o : Oper} {a : Act} {Q : Exit → Act → World → Prop}
    (hg : o.guard = none) (l c : Operand) (t : TypeId) (hop : o.op = Op.makeSlice t l c)
    (e : TypeId) (i : TypeInfo) (z : Value) (h1 : P.underlying t = some (.slice e)) (h2 : P.info? e = some i) (h3 : i.zero = some z) (h4 : i.size = 1) (hz : z.cells = #[z])
    (kl kc : IntKind) (L C : Int) (n m : Nat) (hl : a.eval l = .int kl L) (hc : a.eval c = .int kc C) (hL : L = (n : Int)) (hC : C = (m : Int)) (hnm : n ≤ m) (b2 : i.bytes * m ≤ 281474976710656) (b3 : m ≤ 9223372036854775807)
    (B : Nat) (w0 : World) (hb : Below B w0 w) (hB : B ≤ w.heap.size)
    (hK : ∀ w', Blk w' w.heap.size e (List.replicate m z) → Below B w0 w' → Below w.heap.size w w' → w.heap.size < w'.heap.size → wpList P ops Q rest (a.put o.dst (.slice (some ⟨w.heap.size, 0, none⟩) n m)) w') :
    wpList P ops Q (o :: rest) a w := by
  refine wpList_plain hg fun K hK' => ?_
  subst hL hC
  have hrun := run_make (P := P) w t e i z h1 h2 h3 kl kc n m (by omega) (by omega) (by rw [← Int.natCast_mul]; omega) (by omega)
  simp only [Int.toNat_natCast, h4, Nat.mul_one, hz] at hrun
  unfold Oper.wp
  simp [execOp, hop, hl, hc, hrun, Result.andThen]
  refine hK' _ _ (hK _ ?_ (hb.alloc hB _) ((Below.refl _ _).alloc (Nat.le_refl _) _) (by simp))
  rw [show madeCells #[z] m = (List.replicate m z).toArray from Array.toList_inj.1 (by rw [madeCells_one])]
  exact Blk.new w e (List.replicate m z)

/-- Only block g has been written. -/
theorem grown_set {a w : World} {g : Nat} (h : a.grownBy w (some g)) (i : Nat) (v : Value) : a.grownBy (w.setCell ⟨g, i, none⟩ v) (some g) :=
  ⟨h.os, h.tape, h.output, by simpa [World.setCell] using h.size, fun k hk hne => (Below.heap_setCell w ⟨g, i, none⟩ v k (fun e => hne (by rw [e]))).trans (h.block k hk hne)⟩
theorem grown_drewN {a w : World} {row : Option Nat} (h : a.grownBy w row) (n : Nat) : a.grownBy (w.drewN n) row := ⟨h.os, h.tape, h.output, h.size, h.block⟩
theorem grown_below {a w w' : World} {row : Option Nat} (h : a.grownBy w row) (hb : Below w.heap.size w w') : a.grownBy w' row :=
  ⟨hb.os.trans h.os, hb.tape.trans h.tape, hb.output.trans h.output, Nat.le_trans h.size hb.size, fun k hk hne => (hb.block k (Nat.lt_of_lt_of_le hk h.size)).trans (h.block k hk hne)⟩
theorem Blk.grown {w w' : World} {g : Nat} {t : TypeId} {vs : List Value} {row : Option Nat} (h : Blk w g t vs) (hg : w.grownBy w' row) (hne : some g ≠ row) : Blk w' g t vs := (hg.block g h.lt hne).trans h
theorem Lies.grown {w w' : World} {B : Nat} {A : Option Addr} {vs : List Value} {row : Option Nat} (h : Lies w B A vs) (hB : B ≤ w.heap.size) (hg : w.grownBy w' row) (hr : ∀ g, row = some g → B ≤ g) : Lies w' B A vs :=
  h.keep fun p hp => World.cell?_of_block (hg.block p.block (by omega) (fun e => by have := hr _ e.symm; omega))
end Go.Proofs.YtfiefglagknclaaGreatDoor

/-
  What math/bits.Add32 and Sub32 compute.
-/
namespace Go.Proofs.YtfiefglagknclaaGreatDoor
open Go.RowKit
set_option maxHeartbeats 400000
set_option maxRecDepth 100000
set_option linter.unusedVariables false

theorem add32_any (x y c : Nat) (w : World) (hx : x < 4294967296) (hy : y < 4294967296) (hc : c ≤ 1) :
    Calls Tryz.prog 128 #[.int .u32 (x : Int), .int .u32 (y : Int), .int .u32 (c : Int)] w fun e w' => ∃ s d : Nat, e = .returned (.tuple #[.int .u32 (s : Int), .int .u32 (d : Int)]) ∧ s < 4294967296 ∧ d ≤ 1 ∧ Hid (x + y + c = s + 4294967296 * d) ∧ w = w' := by
  go_enter Tryz.func128, Tryz.ntmps128
  go_wp2_with fail
  go_ret2
  exact ⟨(x + y + c) % 4294967296, (x + y + c) / 4294967296, ret_two (congrArg (Value.int .u32) (by omega)) (congrArg (Value.int .u32) (by omega)), by omega, by omega, Lib.hid (by omega), rfl⟩

theorem top_bit {n : Nat} (h : n < 4294967296) : n / 2147483648 = if n.testBit 31 then 1 else 0 := by
  rw [Nat.testBit_eq_decide_div_mod_eq]
  rw [show (2 : Nat) ^ 31 = 2147483648 from rfl]
  by_cases e : n / 2147483648 % 2 = 1
  · rw [if_pos (by simpa using e)]; omega
  · rw [if_neg (by simpa using e)]; omega
theorem bit_of {n : Nat} (h : n < 4294967296) : n.testBit 31 = decide (2147483648 ≤ n) := by
  rw [Nat.testBit_eq_decide_div_mod_eq]
  rw [show (2 : Nat) ^ 31 = 2147483648 from rfl]
  by_cases e : 2147483648 ≤ n
  · rw [decide_eq_true e, decide_eq_true (by omega)]
  · rw [decide_eq_false e, decide_eq_false (by omega)]
theorem borrow_law (x y c : Nat) (hx : x < 4294967296) (hy : y < 4294967296) (hc : c ≤ 1) :
    (bits BinOp.or IntKind.u32 (bits BinOp.and IntKind.u32 (bits BinOp.xor IntKind.u32 IntKind.u32.max ↑x) ↑y) (bits BinOp.and IntKind.u32 (bits BinOp.xor IntKind.u32 IntKind.u32.max (bits BinOp.xor IntKind.u32 ↑x ↑y)) ((↑x - ↑y - ↑c) % 4294967296))) / 2147483648 = ((if x < y + c then 1 else 0 : Nat) : Int) := by
  obtain ⟨d, hd⟩ : ∃ d : Nat, (((x : Int) - y - c) % 4294967296) = (d : Int) := ⟨(((x : Int) - y - c) % 4294967296).toNat, by omega⟩
  have hdl : d < 4294967296 := by omega
  rw [hd]
  have m : (IntKind.u32.max : Int) = ((4294967295 : Nat) : Int) := by decide
  have l1 : 4294967295 ^^^ x < 4294967296 := Nat.xor_lt_two_pow (n := 32) (by omega) hx
  have l2 : x ^^^ y < 4294967296 := Nat.xor_lt_two_pow (n := 32) hx hy
  have l3 : 4294967295 ^^^ (x ^^^ y) < 4294967296 := Nat.xor_lt_two_pow (n := 32) (by omega) l2
  have l4 : (4294967295 ^^^ x) &&& y < 4294967296 := Nat.and_lt_two_pow (n := 32) _ hy
  have l5 : (4294967295 ^^^ (x ^^^ y)) &&& d < 4294967296 := Nat.and_lt_two_pow (n := 32) _ hdl
  have l6 : ((4294967295 ^^^ x) &&& y) ||| ((4294967295 ^^^ (x ^^^ y)) &&& d) < 4294967296 := Nat.or_lt_two_pow (n := 32) l4 l5
  rw [m, u32_xor_nat _ _ (by omega) hx, u32_xor_nat _ _ hx hy, u32_xor_nat _ _ (by omega) l2, u32_and_nat _ _ l1 hy, u32_and_nat _ _ l3 hdl, u32_or_nat _ _ l4 l5]
  have hm : (4294967295 : Nat).testBit 31 = true := by decide
  have key := top_bit l6
  rw [Nat.testBit_or, Nat.testBit_and, Nat.testBit_and, Nat.testBit_xor, Nat.testBit_xor, Nat.testBit_xor, hm, bit_of hx, bit_of hy, bit_of hdl] at key
  have e : ((((4294967295 ^^^ x) &&& y) ||| ((4294967295 ^^^ (x ^^^ y)) &&& d)) / 2147483648 : Nat) = if x < y + c then 1 else 0 := by
    rw [key]
    by_cases h1 : 2147483648 ≤ x <;> by_cases h2 : 2147483648 ≤ y <;> by_cases h3 : 2147483648 ≤ d <;> by_cases h4 : x < y + c <;> simp [h1, h2, h3, h4] <;> omega
  rw [← e]
  generalize ((4294967295 ^^^ x) &&& y) ||| ((4294967295 ^^^ (x ^^^ y)) &&& d) = z
  omega

theorem sub32_any (x y c : Nat) (w : World) (hx : x < 4294967296) (hy : y < 4294967296) (hc : c ≤ 1) :
    Calls Tryz.prog 127 #[.int .u32 (x : Int), .int .u32 (y : Int), .int .u32 (c : Int)] w fun e w' => ∃ s d : Nat, e = .returned (.tuple #[.int .u32 (s : Int), .int .u32 (d : Int)]) ∧ s < 4294967296 ∧ d ≤ 1 ∧ Hid (x + 4294967296 * d = s + y + c) ∧ w = w' := by
  have HB := Lib.hid (borrow_law x y c hx hy hc)
  go_enter Tryz.func127, Tryz.ntmps127
  go_wp2_with fail
  · go_ret2
    refine ⟨(((x : Int) - y - c) % 4294967296).toNat, if x < y + c then 1 else 0, ret_two (congrArg (Value.int .u32) (by omega)) (congrArg (Value.int .u32) HB.out), by omega, by split <;> omega, Lib.hid ?_, rfl⟩
    split <;> omega
end Go.Proofs.YtfiefglagknclaaGreatDoor

/-
  What nat.Norm, nat.Add and nat.Sub compute: the digits of the number, of the sum, of the difference.
-/
namespace Go.Proofs.YtfiefglagknclaaGreatDoor
open Go.RowKit
set_option maxHeartbeats 1000000
set_option maxRecDepth 100000
set_option linter.unusedVariables false

theorem u32_info : (Tryz.prog.info? 22).map (fun i => (i.zero, i.size, i.bytes)) = some (some (.int .u32 0), 1, 4) := by kernel_rfl
theorem u32_size : (Tryz.prog.info? 22).map (·.size) = some 1 := by kernel_rfl
theorem U_one (l : List Nat) : ∀ v ∈ U l, v.oneCell' = true := by
  intro v hv
  obtain ⟨n, _, rfl⟩ := List.mem_map.1 hv
  rfl
theorem U_take (l : List Nat) (n : Nat) : (U l).take n = U (l.take n) := List.map_take.symm
theorem Lies.digs {w : World} {B : Nat} {A : Option Addr} {l : List Nat} (h : Lies w B A (U l)) (ho : Nt.Ok l) : Lies w B A (U (Nt.digs (Nt.val l))) := by
  have := h.take (Nt.digs (Nt.val l)).length
  rw [U_take, Nt.take_digs ho] at this
  exact this
/-- The source of a copy: an address wherever there is a limb. -/
theorem Lies.src {w : World} {B : Nat} {A : Option Addr} {vs : List Value} (h : Lies w B A vs) (hp : 0 < vs.length) : ∃ ad, A = some ad ∧ ∀ (j : Nat) (v : Value), vs[j]? = some v → w.cell? (ad.add j) = some v := by
  rcases h with h | ⟨b, off, hA, _, hc⟩
  · subst h; simp at hp
  · refine ⟨⟨b, off, none⟩, hA, fun j v hv => ?_⟩
    have := hc j v hv
    unfold Addr.add
    split
    · rename_i e; subst e; simpa using this
    · exact this

/-- copy of limbs into the head of a block of the call's own. -/
theorem copy_limbs {w : World} {ops : Array Oper} {rest : List Oper} {o : Oper} {a : Act} {Q : Exit → Act → World → Prop} (hgd : o.guard = none) (d s : Operand)
    (ho : o.op = .call { callee := .builtin .copy, args := #[d, s], argTypes := #[24, 24] })
    (A : Option Addr) (dCap sCap g : Nat) (ds : List Nat) (hd : a.eval d = .slice (some ⟨g, 0, none⟩) ds.length dCap) (hs : a.eval s = .slice A ds.length sCap)
    (cur : List Value) (hg : Blk w g 22 cur) (hfit : ds.length ≤ cur.length) (B0 : Nat) (hsrc : Lies w B0 A (U ds)) (B : Nat) (w0 : World) (hb : Below B w0 w) (hBg : B ≤ g)
    (h : ∀ w', Blk w' g 22 (U ds ++ cur.drop ds.length) → Below B w0 w' → wpList Tryz.prog ops Q rest (a.put o.dst (goInt ds.length)) w') :
    wpList Tryz.prog ops Q (o :: rest) a w := by
  refine wpList_copy_splice hgd d s _ _ ho 22 Tryz.underlying24 u32_size _ _ _ _ _ _ hd hs g 0 cur 22 hg (U ds) (by simp [U]) (fun hp => ⟨rfl, hsrc.src hp⟩) (by simp [U]; omega) (U_one ds) B w0 hb hBg ?_
  intro w' hw' hb'
  rw [U_len]
  refine h w' ?_ hb'
  have := hw'.out
  unfold Blk
  rw [this]
  simp [splice, U_len]

theorem norm_any (A : Option Addr) (c B : Nat) (l : List Nat) (w : World) (hl : Lies w B A (U l)) (hB : B ≤ w.heap.size) (ho : Nt.Ok l) (hc : l.length ≤ c) (hm : c ≤ 9223372036854775807) (hs : l.length ≤ 70368744177664) :
    Calls Tryz.prog 48 #[.slice A l.length c] w fun e w' => e = .returned (.slice (some ⟨w.heap.size, 0, none⟩) (Nt.digs (Nt.val l)).length (Nt.digs (Nt.val l)).length) ∧ Blk w' w.heap.size 22 (U (Nt.digs (Nt.val l))) ∧ Below w.heap.size w w' := by
  obtain ⟨i0, hi, hz0, hz1, hz2⟩ := info_parts u32_info
  have hd := Nt.digs_len_le ho
  have HT := Lib.hid (trim_any A c B l w hl ho hc hm)
  have HL := Lib.hid ((hl.digs ho).more hB)
  clear hl
  generalize Nt.digs (Nt.val l) = ds at *
  go_enter Tryz.func48, Tryz.ntmps48
  go_wp2_with fail
  refine HT.out.mono ?_
  rintro e w' ⟨rfl, rfl⟩
  go_wp2_with (first
    | (at_make; refine wpList_make_blk _ rfl _ _ 24 rfl 22 i0 (.int .u32 0) Tryz.underlying24 hi hz0 hz1 rfl .i64 .i64 _ _ ds.length ds.length rfl rfl rfl rfl (Nat.le_refl _) (by rw [hz2]; omega) (by omega) w.heap.size w (Below.refl _ _) (Nat.le_refl _) ?_; intro w1 hblk1 hb1 hb1' hlt1)
    | (refine copy_limbs (by rfl) (.tmp 9) (.tmp 10) (by rfl) A ds.length ds.length w.heap.size ds (by rfl) (by rfl) _ hblk1 (by simp) w.heap.size (HL.out.below hb1) w.heap.size w hb1 (Nat.le_refl _) ?_; intro w2 hblk2 hb2))
  go_ret
  rw [List.drop_eq_nil_of_le (by simp), List.append_nil] at hblk2
  exact ⟨rfl, hblk2, hb2⟩
/-! ### Add -/
end Go.Proofs.YtfiefglagknclaaGreatDoor

/-
  What nat.Sub computes: the digits of the difference, and whether there is one.
-/
namespace Go.Proofs.YtfiefglagknclaaGreatDoor
open Go.RowKit
set_option maxHeartbeats 1000000
set_option maxRecDepth 100000
set_option linter.unusedVariables false

/-! ### Sub -/
/-- Limbs that a call handed back: a slice that holds them. -/
def IsRes (w : World) (v : Value) (ds : List Nat) : Prop := ∃ A c, v = .slice A ds.length c ∧ ds.length ≤ c ∧ c ≤ 9223372036854775807 ∧ (A = none → c = 0) ∧ Lies w w.heap.size A (U ds)
theorem IsRes.of_own {w : World} {base : Nat} {v : Value} {ds : List Nat} (h : w.ownsRow base 22 1 v ds.length (U ds)) : IsRes w v ds := by
  obtain ⟨A, c, rfl, h1, h2⟩ := own_slice h
  refine ⟨A, c, rfl, h1, h2, ?_, Lies.of_own h⟩
  rintro rfl
  rcases h.2 with ⟨hv, _⟩ | ⟨g, cap, cur, hv, _⟩
  · injection hv
  · injection hv with e; cases e
theorem IsRes.none_ (w : World) : IsRes w (.slice none 0 0) [] := ⟨none, 0, rfl, Nat.le_refl _, by omega, fun _ => rfl, .inl rfl⟩
theorem IsRes.below {w w' : World} {v : Value} {ds : List Nat} (h : IsRes w v ds) (hb : Below w.heap.size w w') : IsRes w' v ds := by
  obtain ⟨A, c, h1, h2, h3, h4, h5⟩ := h
  exact ⟨A, c, h1, h2, h3, h4, (h5.below hb).more hb.size⟩
end Go.Proofs.YtfiefglagknclaaGreatDoor

/-
  What scrimref02.Norm, Add, Sub, Bit and twice compute.
-/
namespace Go.Proofs.YtfiefglagknclaaGreatDoor
open Go.RowKit
set_option maxHeartbeats 1000000
set_option maxRecDepth 100000
set_option linter.unusedVariables false

theorem refNorm_any (A : Option Addr) (c B : Nat) (l : List Nat) (w : World) (hl : Lies w B A (U l)) (hB : B ≤ w.heap.size) (ho : Nt.Ok l) (hc : l.length ≤ c) (hm : c ≤ 9223372036854775807) (hA : A = none → c = 0) (hs : l.length ≤ 17592186044416) :
    Calls Tryz.prog 38 #[.slice A l.length c] w fun e w' => ∃ v, e = .returned v ∧ IsRes w' v (Nt.digs (Nt.val l)) ∧ Below w.heap.size w w' := by
  obtain ⟨i0, hi, hz0, hz1, hz2⟩ := info_parts u32_info
  have HL := Lib.hid hl
  have HO := Lib.hid ho
  have HA := Lib.hid hA
  clear hl ho hA
  go_enter Tryz.func38, Tryz.ntmps38
  go_wp2_with fail
  go_loop [3] (fun i => ∃ n : Nat, n ≤ l.length ∧ i = .int .i64 (n : Int) ∧ Hid (∀ j (hj : j < l.length), n ≤ j → l[j] = 0)) (fun i => (intOf i).toNat)
  case atStart => exact ⟨l.length, Nat.le_refl _, rfl, Lib.hid (fun j hj h => absurd hj (by omega))⟩
  case round =>
    obtain ⟨n, hn, rfl, H⟩ := hrel
    by_cases h0 : 0 < n
    · obtain ⟨b, off, rfl, hbb, hcell⟩ := HL.out.limb (k := n - 1) (by omega)
      generalize hx : l[n - 1]'(by omega) = x at hcell
      have HX := Lib.hid hx
      have hxb : x < 4294967296 := by rw [← hx]; exact Nt.ok_get HO.out (by omega)
      clear hx
      have hpos : (0 : Int) < (n : Int) := by omega
      by_cases hz : x = 0
      · subst hz
        go_wp2_with fail
        go_round
        case rel =>
          refine ⟨n - 1, by omega, by go_num, Lib.hid (fun j hj h => ?_)⟩
          by_cases e : j = n - 1
          · subst e; exact HX.out
          · exact H.out j hj (by omega)
        case measure => simp [intOf]; omega
      · have hne : ((x : Int) == 0) = false := by simp; omega
        have HE : Hid (Nt.digs (Nt.val l) = l.take n) := Lib.hid (Nt.take_eq_digs HO.out hn H.out (fun _ => by rw [HX.out]; exact hz)).symm
        have HLT : Hid ((l.take n).length = n) := Lib.hid (by rw [List.length_take]; exact Nat.min_eq_left hn)
        have HLT2 := Lib.hid (HL.out.take n)
        clear hz
        go_wp2_with (at_builtin; refine wpList_append_own _ rfl _ _ 24 rfl w.heap.size 22 i0 (.int .u32 0) 1 4 Tryz.underlying24 hi hz0 hz1 hz2 rfl (by decide) (.slice none 0 0) 0 [] rfl (World.ownsRow_nil _ _ _ _) ⟨b, off, none⟩ n c (U (l.take n)) rfl (by rw [U_len, HLT.out]; omega) (fun j v hv => by rw [← U_take] at hv; obtain ⟨ad, h1, h2⟩ := HLT2.out.src (by rw [U_take, U_len, HLT.out]; exact h0); injection h1 with h1; subst h1; exact h2 j v hv) (U_one _) (by unfold maxLen; omega) (by omega) (Nat.le_refl _) ?_; intro v1 w1 hown1 hgrow1 hnn1)
        go_ret
        refine ⟨_, rfl, ?_, (Below.refl _ _).grown hgrow1 (Nat.le_refl _) (by simp [Value.ownBlock])⟩
        rw [HE.out]
        refine IsRes.of_own (base := w.heap.size) ?_
        rw [HLT.out]
        simpa using hown1
    · obtain rfl : n = 0 := by omega
      have HE : Hid (Nt.digs (Nt.val l) = []) := Lib.hid (by
        have := Nt.take_eq_digs HO.out hn H.out (fun h => absurd h (by omega))
        rw [← this]; simp)
      rcases A with _ | ad
      · have hc0 : c = 0 := HA.out rfl
        subst hc0
        go_wp2_with (at_builtin; refine wpList_append_own_none rfl _ _ 24 rfl w.heap.size 22 i0 1 Tryz.underlying24 hi (.slice none 0 0) 0 [] rfl (World.ownsRow_nil _ _ _ _) rfl ?_)
        go_ret
        exact ⟨_, rfl, by rw [HE.out]; exact IsRes.none_ _, Below.refl _ _⟩
      · go_wp2_with (at_builtin; refine wpList_append_own _ rfl _ _ 24 rfl w.heap.size 22 i0 (.int .u32 0) 1 4 Tryz.underlying24 hi hz0 hz1 hz2 rfl (by decide) (.slice none 0 0) 0 [] rfl (World.ownsRow_nil _ _ _ _) ad 0 c [] rfl (by rfl) (fun j v hv => by simp at hv) (by intro u hu; cases hu) (by unfold maxLen; omega) (by omega) (Nat.le_refl _) ?_; intro v1 w1 hown1 hgrow1 hnn1)
        go_ret
        refine ⟨_, rfl, ?_, (Below.refl _ _).grown hgrow1 (Nat.le_refl _) (by simp [Value.ownBlock])⟩
        rw [HE.out]
        exact IsRes.of_own (base := w.heap.size) hown1
end Go.Proofs.YtfiefglagknclaaGreatDoor

/-
  What scrimref02.Add, Sub, Bit and twice compute.
-/
namespace Go.Proofs.YtfiefglagknclaaGreatDoor
open Go.RowKit
set_option maxHeartbeats 1000000
set_option maxRecDepth 100000
set_option linter.unusedVariables false

/-- The head of each: two numbers that came in. -/
theorem own_norm {w0 w : World} {v : Value} {ds : List Nat} (h : w.ownsRow w0.heap.size 22 1 v ds.length (U ds)) (ho : Nt.Ok ds) (hs : ds.length ≤ 17592186044416) (hb : Below w0.heap.size w0 w) :
    Calls Tryz.prog 38 #[v] w fun e w' => ∃ v', e = .returned v' ∧ IsRes w' v' (Nt.digs (Nt.val ds)) ∧ Below w0.heap.size w0 w' := by
  obtain ⟨A, c, rfl, h1, h2, h3, h4⟩ := IsRes.of_own h
  refine (refNorm_any A c w.heap.size ds w h4 (Nat.le_refl _) ho h1 h2 h3 hs).mono ?_
  rintro e w' ⟨v', rfl, hr, hb'⟩
  exact ⟨v', rfl, hr, hb.trans (hb'.mono hb.size)⟩

theorem refAdd_any (A A' : Option Addr) (c c' B : Nat) (a b : List Nat) (w : World) (hx : Lies w B A (U a)) (hy : Lies w B A' (U b)) (hB : B ≤ w.heap.size) (ha : Nt.Ok a) (hb : Nt.Ok b)
    (hc : a.length ≤ c) (hc' : b.length ≤ c') (hm : c ≤ 9223372036854775807) (hm' : c' ≤ 9223372036854775807) (hs : a.length ≤ 8796093022208) (hs' : b.length ≤ 8796093022208) :
    Calls Tryz.prog 40 #[.slice A a.length c, .slice A' b.length c'] w fun e w' => ∃ v, e = .returned v ∧ IsRes w' v (Nt.digs (Nt.val a + Nt.val b)) ∧ Below w.heap.size w w' := by
  obtain ⟨i0, hi, hz0, hz1, hz2⟩ := info_parts u32_info
  obtain ⟨n, hn⟩ : ∃ n, n = max a.length b.length := ⟨_, rfl⟩
  have hna : a.length ≤ n := by omega
  have hnb : b.length ≤ n := by omega
  have hnm : n ≤ 8796093022208 := by omega
  have HN := Lib.hid hn
  have LA := Lib.hid (fun (i : Nat) (wr : World) (hi : i ≤ 9223372036854775807) (h : Below w.heap.size w wr) => limb_any A c B a i wr (hx.below (h.mono hB)) hc hm hi ha)
  have LB := Lib.hid (fun (i : Nat) (wr : World) (hi : i ≤ 9223372036854775807) (h : Below w.heap.size w wr) => limb_any A' c' B b i wr (hy.below (h.mono hB)) hc' hm' hi hb)
  have GA := Lib.hid (fun k => Nt.getD_lt ha k)
  have GB := Lib.hid (fun k => Nt.getD_lt hb k)
  have EN := Lib.hid (fun cur c h => Nt.addUp_end (cur := cur) (n := n) (c := c) ha hb hna hnb h)
  clear hx hy ha hb hn
  go_enter Tryz.func40, Tryz.ntmps40
  go_wp2_with fail
  go_loopw [5, 6, 7] (fun v cv i wr => ∃ (k cy : Nat) (cur : List Nat), k ≤ n + 1 ∧ cy ≤ 1 ∧ i = .int .i64 (k : Int) ∧ cv = .int .u64 (cy : Int) ∧ wr.ownsRow w.heap.size 22 1 v k (U cur) ∧ Below w.heap.size w wr ∧ Hid (Nt.AddUp a b cur k cy)) (fun _ _ i _ => n + 1 - (intOf i).toNat)
  case atStart => exact ⟨0, 0, [], by omega, by omega, rfl, rfl, World.ownsRow_nil _ _ _ _, Below.refl _ _, Lib.hid (Nt.addUp_start a b)⟩
  case round =>
    obtain ⟨k, cy, cur, hk, hcy, rfl, rfl, hown, hbel, H⟩ := hrel
    have hsz := hbel.size
    by_cases hlt : k ≤ n
    · have CA := Lib.hid (LA.out k wr (by omega) hbel)
      have CB := Lib.hid (LB.out k wr (by omega) hbel)
      have ST := Lib.hid (Nt.addUp_step H.out)
      have hga := GA.out k
      have hgb := GB.out k
      generalize a.getD k 0 = x at CA ST hga
      generalize b.getD k 0 = y at CB ST hgb
      go_wp2_with fail
      refine (longer_any A A' a.length b.length c c' _ (by omega) (by omega)).mono ?_
      rintro e w' ⟨rfl, rfl⟩
      rw [← HN.out]
      go_wp2_with fail
      refine CA.out.mono ?_
      rintro e w' ⟨rfl, rfl⟩
      go_wp2_with fail
      refine CB.out.mono ?_
      rintro e w' ⟨rfl, rfl⟩
      go_wp2_with (at_builtin; refine wpList_append_own _ rfl _ _ 24 rfl w.heap.size 22 i0 (.int .u32 0) 1 4 Tryz.underlying24 hi hz0 hz1 hz2 rfl (by decide) _ _ _ rfl (hown.alloc _) ⟨_, 0, none⟩ 1 1 [.int .u32 (((x : Int) + (y : Int) + (cy : Int)) % 4294967296)] rfl rfl (cell_one_new _ _ _) (by intro u hu; simp only [List.mem_singleton] at hu; subst hu; rfl) (by unfold maxLen; omega) (by omega) (by simp; omega) ?_; intro v3 w3 hown3 hgrow3 hnn3)
      have hb3 : Below w.heap.size w w3 := (hbel.alloc hsz _).grown hgrow3 (by simp; omega) (fun k hk => (hown.lt k hk).1)
      go_roundw
      case rel =>
        refine ⟨k + 1, (x + y + cy) / 4294967296, cur ++ [(x + y + cy) % 4294967296], by omega, by omega, by go_num, congrArg (Value.int .u64) (by omega), ?_, hb3, Lib.hid ST.out⟩
        have e : U (cur ++ [(x + y + cy) % 4294967296]) = U cur ++ [.int .u32 (((x : Int) + (y : Int) + (cy : Int)) % 4294967296)] := by
          unfold U; rw [List.map_append]; congr 2
        rw [e]; exact hown3
      case measure => simp [intOf]; omega
    · obtain rfl : k = n + 1 := by omega
      have HV := Lib.hid (EN.out cur cy H.out)
      have HL := H.out.1
      have hO := H.out.2.1
      have hnorm := own_norm (w0 := w) (v := u5) (ds := cur) (by rw [HL]; exact hown) hO (by rw [HL]; omega) hbel
      rw [HV.out] at hnorm
      have HNM := Lib.hid hnorm
      clear hnorm HL hO
      go_wp2_with fail
      refine (longer_any A A' a.length b.length c c' _ (by omega) (by omega)).mono ?_
      rintro e w' ⟨rfl, rfl⟩
      rw [← HN.out]
      go_wp2_with fail
      refine HNM.out.mono ?_
      rintro e w' ⟨v', rfl, hr, hb'⟩
      go_wp2_with fail
      go_ret
      exact ⟨_, rfl, hr, hb'⟩
end Go.Proofs.YtfiefglagknclaaGreatDoor

/-
  What scrimref02.Sub, Bit and twice compute.
-/
namespace Go.Proofs.YtfiefglagknclaaGreatDoor
open Go.RowKit
set_option maxHeartbeats 1000000
set_option maxRecDepth 100000
set_option linter.unusedVariables false

theorem refSub_any (A A' : Option Addr) (c c' B : Nat) (a b : List Nat) (w : World) (hx : Lies w B A (U a)) (hy : Lies w B A' (U b)) (hB : B ≤ w.heap.size) (ha : Nt.Ok a) (hb : Nt.Ok b)
    (hc : a.length ≤ c) (hc' : b.length ≤ c') (hm : c ≤ 9223372036854775807) (hm' : c' ≤ 9223372036854775807) (hs : a.length ≤ 8796093022208) (hs' : b.length ≤ 8796093022208) :
    Calls Tryz.prog 96 #[.slice A a.length c, .slice A' b.length c'] w fun e w' => ∃ v, e = .returned (.tuple #[v, .bool (decide (Nt.val b ≤ Nt.val a))]) ∧ IsRes w' v (Nt.digs (Nt.val a - Nt.val b)) ∧ Below w.heap.size w w' := by
  obtain ⟨i0, hi, hz0, hz1, hz2⟩ := info_parts u32_info
  obtain ⟨n, hn⟩ : ∃ n, n = max a.length b.length := ⟨_, rfl⟩
  have hna : a.length ≤ n := by omega
  have hnb : b.length ≤ n := by omega
  have hnm : n ≤ 8796093022208 := by omega
  have HN := Lib.hid hn
  have CM := Lib.hid (refCmp_any A A' c c' B a b w hx hy ha hb hc hc' hm hm')
  have LA := Lib.hid (fun (i : Nat) (wr : World) (hi : i ≤ 9223372036854775807) (h : Below w.heap.size w wr) => limb_any A c B a i wr (hx.below (h.mono hB)) hc hm hi ha)
  have LB := Lib.hid (fun (i : Nat) (wr : World) (hi : i ≤ 9223372036854775807) (h : Below w.heap.size w wr) => limb_any A' c' B b i wr (hy.below (h.mono hB)) hc' hm' hi hb)
  have GA := Lib.hid (fun k => Nt.getD_lt ha k)
  have GB := Lib.hid (fun k => Nt.getD_lt hb k)
  clear hx hy ha hb hn
  by_cases hlt : Nt.val a < Nt.val b
  · have HE : Hid (Nt.cmp (Nt.val a) (Nt.val b) = -1) := Lib.hid (Nt.cmp_lt hlt)
    have HD : Hid (decide (Nt.val b ≤ Nt.val a) = false) := Lib.hid (by simp; omega)
    have HZ : Hid (Nt.digs (Nt.val a - Nt.val b) = []) := Lib.hid (by rw [show Nt.val a - Nt.val b = 0 by omega, Nt.digs_zero])
    go_enter Tryz.func96, Tryz.ntmps96
    go_wp2_with fail
    refine CM.out.mono ?_
    rintro e w' ⟨rfl, rfl⟩
    rw [HE.out]
    go_wp2_with fail
    go_ret2
    exact ⟨_, by rw [HD.out]; rfl, by rw [HZ.out]; exact IsRes.none_ _, Below.refl _ _⟩
  · have hle : Nt.val b ≤ Nt.val a := by omega
    have HD : Hid (decide (Nt.val b ≤ Nt.val a) = true) := Lib.hid (by simp; omega)
    have hcmp : decide (Nt.cmp (Nt.val a) (Nt.val b) < 0) = false := by rw [decide_eq_false_iff_not, Nt.cmp_neg]; omega
    have EN := Lib.hid (fun cur c h => Nt.subUp_end (cur := cur) (n := n) (c := c) hna hnb hle h)
    generalize Nt.cmp (Nt.val a) (Nt.val b) = cm at *
    generalize Nt.val a = x0 at *
    generalize Nt.val b = y0 at *
    go_enter Tryz.func96, Tryz.ntmps96
    go_wp2_with fail
    refine CM.out.mono ?_
    rintro e w' ⟨rfl, rfl⟩
    go_wp2_with fail
    go_loopw [6, 7, 8] (fun v cv i wr => ∃ (k cy : Nat) (cur : List Nat), k ≤ n ∧ cy ≤ 1 ∧ i = .int .i64 (k : Int) ∧ cv = .int .u64 (cy : Int) ∧ wr.ownsRow w.heap.size 22 1 v k (U cur) ∧ Below w.heap.size w wr ∧ Hid (Nt.SubUp a b cur k cy)) (fun _ _ i _ => n - (intOf i).toNat)
    case atStart => exact ⟨0, 0, [], by omega, by omega, rfl, rfl, World.ownsRow_nil _ _ _ _, Below.refl _ _, Lib.hid (Nt.subUp_start a b)⟩
    case round =>
      obtain ⟨k, cy, cur, hk, hcy, rfl, rfl, hown, hbel, H⟩ := hrel
      have hsz := hbel.size
      by_cases hlt : k < n
      · have CA := Lib.hid (LA.out k wr (by omega) hbel)
        have CB := Lib.hid (LB.out k wr (by omega) hbel)
        have ST := Lib.hid (fun s d hs e => Nt.subUp_step (s := s) (d := d) H.out hs e)
        have hga := GA.out k
        have hgb := GB.out k
        generalize a.getD k 0 = x at CA ST hga
        generalize b.getD k 0 = y at CB ST hgb
        go_wp2_with fail
        refine (longer_any A A' a.length b.length c c' _ (by omega) (by omega)).mono ?_
        rintro e w' ⟨rfl, rfl⟩
        rw [← HN.out]
        go_wp2_with fail
        refine CA.out.mono ?_
        rintro e w' ⟨rfl, rfl⟩
        go_wp2_with fail
        refine CB.out.mono ?_
        rintro e w' ⟨rfl, rfl⟩
        go_wp2_with (at_builtin; refine wpList_append_own _ rfl _ _ 24 rfl w.heap.size 22 i0 (.int .u32 0) 1 4 Tryz.underlying24 hi hz0 hz1 hz2 rfl (by decide) _ _ _ rfl (hown.alloc _) ⟨_, 0, none⟩ 1 1 [.int .u32 ((4294967296 + (x : Int) - (y : Int) - (cy : Int)) % 4294967296)] rfl rfl (cell_one_new _ _ _) (by intro u hu; simp only [List.mem_singleton] at hu; subst hu; rfl) (by unfold maxLen; omega) (by omega) (by simp; omega) ?_; intro v3 w3 hown3 hgrow3 hnn3)
        have hb3 : Below w.heap.size w w3 := (hbel.alloc hsz _).grown hgrow3 (by simp; omega) (fun k hk => (hown.lt k hk).1)
        go_roundw
        case rel =>
          refine ⟨k + 1, 1 - (4294967296 + x - y - cy) / 4294967296, cur ++ [(4294967296 + x - y - cy) % 4294967296], by omega, by omega, by go_num, congrArg (Value.int .u64) (by omega), ?_, hb3, Lib.hid (ST.out _ _ (by omega) (by omega))⟩
          have e : U (cur ++ [(4294967296 + x - y - cy) % 4294967296]) = U cur ++ [.int .u32 ((4294967296 + (x : Int) - (y : Int) - (cy : Int)) % 4294967296)] := by
            unfold U; rw [List.map_append]; congr 2
            simp only [List.map_cons, List.map_nil]
            congr 2
            omega
          rw [e]; exact hown3
        case measure => simp [intOf]; omega
      · obtain rfl : k = n := by omega
        have HV := Lib.hid (EN.out cur cy H.out)
        have HL := H.out.1
        have hO := H.out.2.1
        have hnorm := own_norm (w0 := w) (v := u6) (ds := cur) (by rw [HL]; exact hown) hO (by rw [HL]; omega) hbel
        rw [HV.out] at hnorm
        have HNM := Lib.hid hnorm
        clear hnorm HL hO
        go_wp2_with fail
        refine (longer_any A A' a.length b.length c c' _ (by omega) (by omega)).mono ?_
        rintro e w' ⟨rfl, rfl⟩
        rw [← HN.out]
        go_wp2_with fail
        refine HNM.out.mono ?_
        rintro e w' ⟨v', rfl, hr, hb'⟩
        go_wp2_with fail
        go_ret2
        exact ⟨_, by rw [HD.out]; rfl, hr, hb'⟩

theorem refBit_any (A : Option Addr) (c B : Nat) (a : List Nat) (i : Nat) (w : World) (hx : Lies w B A (U a)) (ha : Nt.Ok a) (hc : a.length ≤ c) (hm : c ≤ 9223372036854775807) (hi : i ≤ 9223372036854775807) :
    Calls Tryz.prog 95 #[.slice A a.length c, .int .i64 (i : Int)] w fun e w' => ∃ b : Nat, e = .returned (.int .u32 (b : Int)) ∧ b ≤ 1 ∧ Hid (b = Nt.val a / 2 ^ i % 2) ∧ w = w' := by
  have CA := Lib.hid (limb_any A c B a (i / 32) w hx hc hm (by omega) ha)
  have HB := Lib.hid (Nt.bit_limb ha i)
  have hg := Nt.getD_lt ha (i / 32)
  clear hx ha
  generalize a.getD (i / 32) 0 = x at CA HB hg
  go_enter Tryz.func95, Tryz.ntmps95
  go_wp2_with fail
  refine CA.out.mono ?_
  rintro e w' ⟨rfl, rfl⟩
  go_wp2_with fail
  go_loop [5, 6] (fun v j => ∃ k n : Nat, k ≤ i % 32 ∧ n < 4294967296 ∧ j = .int .i64 (k : Int) ∧ v = .int .u64 (n : Int) ∧ Hid (n = x / 2 ^ k)) (fun _ j => i % 32 - (intOf j).toNat)
  case atStart => exact ⟨0, x, Nat.zero_le _, hg, rfl, rfl, Lib.hid (by simp)⟩
  case round =>
    obtain ⟨k, n, hk, hn, rfl, rfl, H⟩ := hrel
    by_cases hlt : k < i % 32
    · go_wp2_with fail
      go_round
      case rel => exact ⟨k + 1, n / 2, by omega, by omega, by go_num, by go_num, Lib.hid (by rw [H.out, Nat.pow_succ, ← Nat.div_div_eq_div_mul])⟩
      case measure => simp [intOf]; omega
    · obtain rfl : k = i % 32 := by omega
      go_wp2_with fail
      go_ret
      exact ⟨n % 2, ret_int (by omega), by omega, Lib.hid (by rw [← HB.out, ← H.out]), rfl⟩

theorem twice_any (A : Option Addr) (c B : Nat) (a : List Nat) (bit : Nat) (w : World) (hx : Lies w B A (U a)) (hB : B ≤ w.heap.size) (ha : Nt.Ok a) (hc : a.length ≤ c) (hm : c ≤ 9223372036854775807) (hs : a.length ≤ 8796093022208) (hbit : bit ≤ 1) :
    Calls Tryz.prog 94 #[.slice A a.length c, .int .u32 (bit : Int)] w fun e w' => ∃ v, e = .returned v ∧ IsRes w' v (Nt.digs (2 * Nt.val a + bit)) ∧ Below w.heap.size w w' := by
  obtain ⟨i0, hi, hz0, hz1, hz2⟩ := info_parts u32_info
  have LA := Lib.hid (fun (i : Nat) (wr : World) (hi : i ≤ 9223372036854775807) (h : Below w.heap.size w wr) => limb_any A c B a i wr (hx.below (h.mono hB)) hc hm hi ha)
  have GA := Lib.hid (fun k => Nt.getD_lt ha k)
  have EN := Lib.hid (fun cur c h => Nt.twiceUp_end (cur := cur) (bit := bit) (c := c) ha hbit h)
  clear hx ha
  go_enter Tryz.func94, Tryz.ntmps94
  go_wp2_with fail
  go_loopw [5, 6, 7] (fun v cv i wr => ∃ (k cy : Nat) (cur : List Nat), k ≤ a.length + 1 ∧ cy ≤ 1 ∧ i = .int .i64 (k : Int) ∧ cv = .int .u64 (cy : Int) ∧ wr.ownsRow w.heap.size 22 1 v k (U cur) ∧ Below w.heap.size w wr ∧ Hid (Nt.TwiceUp a bit cur k cy)) (fun _ _ i _ => a.length + 1 - (intOf i).toNat)
  case atStart => exact ⟨0, bit, [], by omega, hbit, rfl, rfl, World.ownsRow_nil _ _ _ _, Below.refl _ _, Lib.hid (Nt.twiceUp_start a bit)⟩
  case round =>
    obtain ⟨k, cy, cur, hk, hcy, rfl, rfl, hown, hbel, H⟩ := hrel
    have hsz := hbel.size
    by_cases hlt : k ≤ a.length
    · have CA := Lib.hid (LA.out k wr (by omega) hbel)
      have ST := Lib.hid (Nt.twiceUp_step H.out)
      have hga := GA.out k
      generalize a.getD k 0 = x at CA ST hga
      go_wp2_with fail
      refine CA.out.mono ?_
      rintro e w' ⟨rfl, rfl⟩
      go_wp2_with (at_builtin; refine wpList_append_own _ rfl _ _ 24 rfl w.heap.size 22 i0 (.int .u32 0) 1 4 Tryz.underlying24 hi hz0 hz1 hz2 rfl (by decide) _ _ _ rfl (hown.alloc _) ⟨_, 0, none⟩ 1 1 [.int .u32 ((2 * (x : Int) + (cy : Int)) % 4294967296)] rfl rfl (cell_one_new _ _ _) (by intro u hu; simp only [List.mem_singleton] at hu; subst hu; rfl) (by unfold maxLen; omega) (by omega) (by simp; omega) ?_; intro v3 w3 hown3 hgrow3 hnn3)
      have hb3 : Below w.heap.size w w3 := (hbel.alloc hsz _).grown hgrow3 (by simp; omega) (fun k hk => (hown.lt k hk).1)
      go_roundw
      case rel =>
        refine ⟨k + 1, (2 * x + cy) / 4294967296, cur ++ [(2 * x + cy) % 4294967296], by omega, by omega, by go_num, congrArg (Value.int .u64) (by omega), ?_, hb3, Lib.hid ST.out⟩
        have e : U (cur ++ [(2 * x + cy) % 4294967296]) = U cur ++ [.int .u32 ((2 * (x : Int) + (cy : Int)) % 4294967296)] := by
          unfold U; rw [List.map_append]; congr 2
        rw [e]; exact hown3
      case measure => simp [intOf]; omega
    · obtain rfl : k = a.length + 1 := by omega
      have HV := Lib.hid (EN.out cur cy H.out)
      have HL := H.out.1
      have hO := H.out.2.1
      have hnorm := own_norm (w0 := w) (v := u5) (ds := cur) (by rw [HL]; exact hown) hO (by rw [HL]; omega) hbel
      rw [HV.out] at hnorm
      have HNM := Lib.hid hnorm
      clear hnorm HL hO
      go_wp2_with fail
      refine HNM.out.mono ?_
      rintro e w' ⟨v', rfl, hr, hb'⟩
      go_wp2_with fail
      go_ret
      exact ⟨_, rfl, hr, hb'⟩
end Go.Proofs.YtfiefglagknclaaGreatDoor

/-
  What scrimref02.Mul and DivMod compute: the digits of the product; of the quotient and the rest.
-/
namespace Go.Proofs.YtfiefglagknclaaGreatDoor
open Go.RowKit
set_option maxHeartbeats 1000000
set_option maxRecDepth 100000
set_option linter.unusedVariables false

/-- twice, of a number that a call handed back. -/
theorem twice_res {w0 w : World} {v : Value} {x : Nat} (h : IsRes w v (Nt.digs x)) (hb : Below w0.heap.size w0 w) (hs : (Nt.digs x).length ≤ 8796093022208) (bit : Nat) (hbit : bit ≤ 1) :
    Calls Tryz.prog 94 #[v, .int .u32 (bit : Int)] w fun e w' => ∃ v', e = .returned v' ∧ IsRes w' v' (Nt.digs (2 * x + bit)) ∧ Below w0.heap.size w0 w' ∧ Below w.heap.size w w' := by
  obtain ⟨A, c, rfl, h1, h2, h3, h4⟩ := h
  refine (twice_any A c w.heap.size (Nt.digs x) bit w h4 (Nat.le_refl _) (Nt.ok_digs x) h1 h2 hs hbit).mono ?_
  rintro e w' ⟨v', rfl, hr, hb'⟩
  rw [Nt.val_digs] at hr
  exact ⟨v', rfl, hr, hb.trans (hb'.mono hb.size), hb'⟩

theorem refMul_any (A A' : Option Addr) (c c' B : Nat) (a b : List Nat) (w : World) (hx : Lies w B A (U a)) (hy : Lies w B A' (U b)) (hB : B ≤ w.heap.size) (ha : Nt.Ok a) (hb : Nt.Ok b)
    (hc : a.length ≤ c) (hc' : b.length ≤ c') (hm : c ≤ 9223372036854775807) (hm' : c' ≤ 9223372036854775807) (hs : a.length ≤ 1000000) (hs' : b.length ≤ 1000000) :
    Calls Tryz.prog 56 #[.slice A a.length c, .slice A' b.length c'] w fun e w' => ∃ v, e = .returned v ∧ IsRes w' v (Nt.digs (Nt.val a * Nt.val b)) ∧ Below w.heap.size w w' := by
  have LN := Lib.hid (fun x h => Nt.len_mul ha hb (x := x) h)
  have BT := Lib.hid (fun (i : Nat) (wr : World) (hi : i ≤ 9223372036854775807) (h : Below w.heap.size w wr) => refBit_any A c B a i wr (hx.below (h.mono hB)) ha hc hm hi)
  have AD := Lib.hid (fun (x : Nat) (v : Value) (wr : World) (h : Below w.heap.size w wr) (hr : IsRes wr v (Nt.digs x)) (hl : (Nt.digs x).length ≤ 8796093022208) => show Calls Tryz.prog 40 #[v, .slice A' b.length c'] wr fun e w' => ∃ v', e = .returned v' ∧ IsRes w' v' (Nt.digs (x + Nt.val b)) ∧ Below w.heap.size w w' from by
    obtain ⟨A1, c1, rfl, h1, h2, h3, h4⟩ := hr
    have hyw := (hy.below (h.mono hB)).more (Nat.le_trans hB h.size)
    refine (refAdd_any A1 A' c1 c' wr.heap.size (Nt.digs x) b wr h4 hyw (Nat.le_refl _) (Nt.ok_digs x) hb h1 hc' h2 hm' hl (by omega)).mono ?_
    rintro e w' ⟨v', rfl, hr', hb'⟩
    rw [Nt.val_digs] at hr'
    exact ⟨v', rfl, hr', h.trans (hb'.mono h.size)⟩)
  have TZ := Lib.hid (Nt.top_zero ha)
  clear hx hy ha hb
  generalize Nt.val a = va at *
  generalize Nt.val b = vb at *
  go_enter Tryz.func56, Tryz.ntmps56
  go_wp2_with fail
  go_loopw [5, 6] (fun v i wr => ∃ (k x : Nat), k ≤ 32 * a.length ∧ i = .int .i64 ((k : Int) - 1) ∧ IsRes wr v (Nt.digs x) ∧ Below w.heap.size w wr ∧ Hid (x = va / 2 ^ k * vb)) (fun _ i _ => (intOf i + 1).toNat)
  case atStart => exact ⟨32 * a.length, 0, Nat.le_refl _, by go_num, by rw [Nt.digs_zero]; exact IsRes.none_ _, Below.refl _ _, Lib.hid (by rw [TZ.out, Nat.zero_mul])⟩
  case round =>
    obtain ⟨k, x, hk, rfl, hres, hbel, H⟩ := hrel
    rcases k with _ | k
    · have HE : Hid (va * vb = x) := Lib.hid (by have := H.out; rw [Nat.pow_zero, Nat.div_one] at this; exact this.symm)
      go_wp2_with fail
      go_ret
      exact ⟨_, rfl, by rw [HE.out]; exact hres, hbel⟩
    · have hk1 : ((k + 1 : Nat) : Int) - 1 = (k : Int) := by omega
      rw [hk1]
      clear hk1
      have h2x := Nt.mul_le2 H.out
      have L0 := LN.out x (by omega)
      have L1 := LN.out (2 * x + 0) (by omega)
      have MS := Lib.hid (fun bit hb => Nt.mul_step (bit := bit) H.out hb)
      have T0 := Lib.hid (twice_res hres hbel (by omega) 0 (by omega))
      clear hres
      go_wp2_with fail
      refine T0.out.mono ?_
      rintro e w1 ⟨v1, rfl, hr1, hb1, _⟩
      go_wp2_with fail
      refine (BT.out k w1 (by omega) hb1).mono ?_
      rintro e w' ⟨bit, rfl, hbit, HBIT, rfl⟩
      have HMS := Lib.hid (MS.out bit HBIT.out)
      by_cases hb0 : bit = 0
      · subst hb0
        go_wp2_with fail
        go_roundw
        case rel => exact ⟨k, 2 * x + 0, by omega, by go_num, hr1, hb1, Lib.hid (by have := HMS.out; rw [Nat.zero_mul] at this; exact this)⟩
        case measure => first | (simp [intOf]; done) | (simp [intOf]; omega)
      · obtain rfl : bit = 1 := by omega
        go_wp2_with fail
        refine (AD.out (2 * x + 0) v1 _ hb1 hr1 (by omega)).mono ?_
        rintro e w2 ⟨v2, rfl, hr2, hb2⟩
        go_wp2_with fail
        go_roundw
        case rel => exact ⟨k, 2 * x + 0 + vb, by omega, by go_num, hr2, hb2, Lib.hid (by have := HMS.out; rw [Nat.one_mul] at this; exact this)⟩
        case measure => first | (simp [intOf]; done) | (simp [intOf]; omega)

theorem refDivMod_any (A A' : Option Addr) (c c' B : Nat) (a b : List Nat) (w : World) (hx : Lies w B A (U a)) (hy : Lies w B A' (U b)) (hB : B ≤ w.heap.size) (ha : Nt.Ok a) (hb : Nt.Ok b)
    (hc : a.length ≤ c) (hc' : b.length ≤ c') (hm : c ≤ 9223372036854775807) (hm' : c' ≤ 9223372036854775807) (hA' : A' = none → c' = 0) (hs : a.length ≤ 1000000) (hs' : b.length ≤ 1000000) :
    Calls Tryz.prog 55 #[.slice A a.length c, .slice A' b.length c'] w fun e w' => ∃ v1 v2, e = .returned (.tuple #[v1, v2, .bool (decide (Nt.val b ≠ 0))]) ∧
      IsRes w' v1 (Nt.digs (Nt.quo (Nt.val a) (Nt.val b))) ∧ IsRes w' v2 (Nt.digs (Nt.rest (Nt.val a) (Nt.val b))) ∧ Below w.heap.size w w' := by
  have NB := Lib.hid (refNorm_any A' c' B b w hy hB hb hc' hm' hA' (by omega))
  have LN := Lib.hid (fun x h => Nt.len_le ha (x := x) h)
  have LB := Lib.hid (fun x h => Nt.len_le hb (x := x) h)
  have L2 := Lib.hid (fun (x : Nat) (h : x < 2 * Nt.val b) => show (Nt.digs x).length ≤ b.length + 1 from Nt.digs_len_lt (by
    have := Nt.val_lt hb
    rw [Nat.pow_succ]
    omega))
  have BT := Lib.hid (fun (i : Nat) (wr : World) (hi : i ≤ 9223372036854775807) (h : Below w.heap.size w wr) => refBit_any A c B a i wr (hx.below (h.mono hB)) ha hc hm hi)
  have SB := Lib.hid (fun (x : Nat) (v : Value) (wr : World) (h : Below w.heap.size w wr) (hr : IsRes wr v (Nt.digs x)) (hl : (Nt.digs x).length ≤ 8796093022208) => show Calls Tryz.prog 96 #[v, .slice A' b.length c'] wr fun e w' => ∃ v', e = .returned (.tuple #[v', .bool (decide (Nt.val b ≤ x))]) ∧ IsRes w' v' (Nt.digs (x - Nt.val b)) ∧ Below w.heap.size w w' ∧ Below wr.heap.size wr w' from by
    obtain ⟨A1, c1, rfl, h1, h2, h3, h4⟩ := hr
    have hyw := (hy.below (h.mono hB)).more (Nat.le_trans hB h.size)
    refine (refSub_any A1 A' c1 c' wr.heap.size (Nt.digs x) b wr h4 hyw (Nat.le_refl _) (Nt.ok_digs x) hb h1 hc' h2 hm' hl (by omega)).mono ?_
    rintro e w' ⟨v', rfl, hr', hb'⟩
    rw [Nt.val_digs] at hr' ⊢
    exact ⟨v', rfl, hr', h.trans (hb'.mono h.size), hb'⟩)
  have TZ := Lib.hid (Nt.top_zero ha)
  clear hx hy ha hb
  generalize Nt.val a = va at *
  generalize Nt.val b = vb at *
  by_cases h0 : vb = 0
  · subst h0
    have HZ : Hid ((Nt.digs 0).length = 0) := Lib.hid (by rw [Nt.digs_zero]; rfl)
    go_enter Tryz.func55, Tryz.ntmps55
    go_wp2_with fail
    refine NB.out.mono ?_
    rintro e w1 ⟨v1, rfl, ⟨A1, c1, rfl, h1, h2, h3, h4⟩, hb1⟩
    rw [HZ.out]
    go_wp2_with fail
    go_ret3
    refine ⟨_, _, rfl, ?_, ?_, hb1⟩
    · rw [Nt.quo_zero, Nt.digs_zero]; exact IsRes.none_ _
    · rw [Nt.rest_zero, Nt.digs_zero]; exact IsRes.none_ _
  · have hpos : 0 < vb := by omega
    have HP : Hid (decide (vb ≠ 0) = true) := Lib.hid (by simp; omega)
    have hlp : (Nt.digs vb).length ≠ 0 := fun h => h0 (Nt.digs_nil_iff.1 (List.eq_nil_of_length_eq_zero h))
    have hle : (((Nt.digs vb).length : Int) == 0) = false := by simp; intro h; exact hlp (by rw [h]; rfl)
    have HI1 : Hid (Nt.quo va vb = va / vb) := Lib.hid rfl
    have HI2 : Hid (Nt.rest va vb = va % vb) := Lib.hid (Nt.rest_pos h0)
    rw [HP.out]
    generalize Nt.quo va vb = Q at *
    generalize Nt.rest va vb = R at *
    clear h0 hlp
    go_enter Tryz.func55, Tryz.ntmps55
    go_wp2_with fail
    refine NB.out.mono ?_
    rintro e w1 ⟨v1, rfl, ⟨A1, c1, rfl, h1, h2, h3, h4⟩, hb1⟩
    clear h3 h4
    go_wp2_with fail
    go_loopw [7, 8, 9] (fun vq vr i wr => ∃ (k q r : Nat), k ≤ 32 * a.length ∧ i = .int .i64 ((k : Int) - 1) ∧ IsRes wr vq (Nt.digs q) ∧ IsRes wr vr (Nt.digs r) ∧ Below w.heap.size w wr ∧ Hid (q = va / 2 ^ k / vb ∧ r = va / 2 ^ k % vb)) (fun _ _ i _ => (intOf i + 1).toNat)
    case atStart => exact ⟨32 * a.length, 0, 0, Nat.le_refl _, by go_num, by rw [Nt.digs_zero]; exact IsRes.none_ _, by rw [Nt.digs_zero]; exact IsRes.none_ _, hb1, Lib.hid (by rw [TZ.out]; exact ⟨(Nat.zero_div _).symm, (Nat.zero_mod _).symm⟩)⟩
    case round =>
      obtain ⟨k, q, r, hk, rfl, hrq, hrr, hbel, H⟩ := hrel
      rcases k with _ | k
      · have HE : Hid (Q = q ∧ R = r) := Lib.hid (by
          have := H.out
          rw [Nat.pow_zero, Nat.div_one] at this
          rw [HI1.out, HI2.out, this.1, this.2]; exact ⟨rfl, rfl⟩)
        go_wp2_with fail
        go_ret3
        exact ⟨_, _, rfl, by rw [HE.out.1]; exact hrq, by rw [HE.out.2]; exact hrr, hbel⟩
      · have hk1 : ((k + 1 : Nat) : Int) - 1 = (k : Int) := by omega
        rw [hk1]
        clear hk1
        have hrb : r < vb := by rw [H.out.2]; exact Nat.mod_lt _ hpos
        have hqa : 2 * q + 1 ≤ 2 * va + 1 := by
          have : q ≤ va := by rw [H.out.1]; exact Nat.le_trans (Nat.div_le_self _ _) (Nat.div_le_self _ _)
          omega
        have Lr := LB.out r (by omega)
        have Lq := LN.out q (by omega)
        have DS := Lib.hid (fun bit hb => Nt.div_step (n := va / 2 ^ (k + 1)) (b := vb) (q := q) (r := r) (bit := bit) hpos H.out.1 H.out.2 hb)
        have HH := Lib.hid (Nt.half_step va k)
        go_wp2_with fail
        refine (BT.out k _ (by omega) hbel).mono ?_
        rintro e w' ⟨bit, rfl, hbit, HBIT, rfl⟩
        go_wp2_with fail
        refine (twice_res hrr hbel (by omega) bit hbit).mono ?_
        rintro e w2 ⟨v2, rfl, hr2, hb2, hbb2⟩
        have L2r := L2.out (2 * r + bit) (by omega)
        have hrq2 := hrq.below hbb2
        go_wp2_with fail
        refine (SB.out (2 * r + bit) v2 _ hb2 hr2 (by omega)).mono ?_
        rintro e w3 ⟨v3, rfl, hr3, hb3, hbb3⟩
        have hrq3 := hrq2.below hbb3
        have hr23 := hr2.below hbb3
        have HN : Hid (va / 2 ^ k = 2 * (va / 2 ^ (k + 1)) + bit) := Lib.hid (by rw [HBIT.out]; exact HH.out)
        by_cases hge : vb ≤ 2 * r + bit
        · have hD : decide (vb ≤ 2 * r + bit) = true := by simpa using hge
          have HDS := Lib.hid ((DS.out bit hbit).1 hge)
          rw [hD]
          clear hD
          go_wp2_with fail
          refine (twice_res hrq3 hb3 (by omega) 1 (by omega)).mono ?_
          rintro e w4 ⟨v4, rfl, hr4, hb4, hbb4⟩
          have hr34 := hr3.below hbb4
          go_wp2_with fail
          go_roundw
          case rel => exact ⟨k, 2 * q + 1, 2 * r + bit - vb, by omega, by go_num, hr4, hr34, hb4, Lib.hid (by rw [HN.out]; exact HDS.out)⟩
          case measure => first | (simp [intOf]; done) | (simp [intOf]; omega)
        · have hD : decide (vb ≤ 2 * r + bit) = false := by simpa using hge
          have HDS := Lib.hid ((DS.out bit hbit).2 hge)
          rw [hD]
          clear hD
          go_wp2_with fail
          refine (twice_res hrq3 hb3 (by omega) 0 (by omega)).mono ?_
          rintro e w4 ⟨v4, rfl, hr4, hb4, hbb4⟩
          have hr34 := hr23.below hbb4
          go_wp2_with fail
          go_roundw
          case rel => exact ⟨k, 2 * q + 0, 2 * r + bit, by omega, by go_num, hr4, hr34, hb4, Lib.hid (by rw [HN.out]; exact HDS.out)⟩
          case measure => first | (simp [intOf]; done) | (simp [intOf]; omega)
end Go.Proofs.YtfiefglagknclaaGreatDoor
