/-
  Texts of this proof, joined (by wip/bin/bundle.py): NatIn, NatSums, RegStore, TenMath, DigMath, Dig4, LenMath, NatLen, BldLaid, ArrMath, Arr, Same1.
-/
import Derived.Test.YtfiefglagknclaaGreatDoorM3
import Derived.Lib.ItoaMem
import Derived.Shelf.Lay
import Derived.Shelf.Strings.BuilderK
import Derived.Test.YtfiefglagknclaaGreatDoorProg
import Derived.Deep.QuietTactic
import Derived.BigQuiet
import Derived.LoopTactic
import Derived.Outline
/-
  A slice of limbs that came in, opened.
-/
namespace Go.Proofs.YtfiefglagknclaaGreatDoor
open Go.ChangeShapes Go.WideShapes Go.ChangeAt Go.RowKit

/-- The limbs (not the spare room) of a slice that came in. -/
def IsLimbs (w : World) (A : Option Addr) (len cap : Nat) (ns : List Nat) : Prop :=
  ns.length = len ∧ len ≤ cap ∧ cap ≤ 9223372036854775807 ∧ (A = none → cap = 0) ∧ Lies w w.heap.size A (U ns) ∧ Nt.Ok ns

theorem limbs_of {H : Type} {enc : TypeId × Value → H} {P : Program} {W : World} {base : Nat} {sp : Nat → Bool} {held : Bool} {t e : TypeId} {a : Option Addr} {len cap : Nat} {d : DataW H} {p : List MemPlace}
    (ht : P.underlying t = some (.slice e)) (he : P.underlying e = some (.int .u32)) (hc : P.cellsOf e = 1) (h : DataW.Trod enc P W base sp held t (.slice a len cap) d p) : ∃ ns, IsLimbs W a len cap ns := by
  have hnil : a = none → cap = 0 := by
    rintro rfl
    obtain ⟨fuel, hf⟩ := h
    rcases open_ints ht he hc hf with ⟨hcs, _⟩ | ⟨x, l, c, zs, hcs, _⟩
    · simp [Value.cells] at hcs
      exact hcs.2
    · simp [Value.cells] at hcs
  obtain ⟨zs, h1, h2, h3, h4, h5⟩ := ints_of ht he hc h
  have hz : ∃ ns : List Nat, zs = ns.map (fun n : Nat => (n : Int)) ∧ Nt.Ok ns := by
    refine ⟨zs.map Int.toNat, ?_, ?_⟩
    · rw [List.map_map]
      have e : zs.map ((fun n : Nat => (n : Int)) ∘ Int.toNat) = zs.map id := List.map_congr_left fun x hx => by
        have := bounds_u32 (h5 x hx)
        simp; omega
      rw [e, List.map_id]
    · intro n hn
      obtain ⟨x, hx, rfl⟩ := List.mem_map.1 hn
      have := bounds_u32 (h5 x hx)
      omega
  obtain ⟨ns, rfl, hok⟩ := hz
  refine ⟨ns, by simpa using h1, h2, by unfold maxLen at h3; omega, hnil, ?_, hok⟩
  rw [List.map_map] at h4
  exact h4
end Go.Proofs.YtfiefglagknclaaGreatDoor

/-
  The walk of the law NatSums.
-/
namespace Go.Proofs.YtfiefglagknclaaGreatDoor
open Go.RowKit
set_option maxHeartbeats 1000000
set_option maxRecDepth 100000
set_option linter.unusedVariables false

/-- Two numbers that calls handed back, the same ones. -/
theorem same_res {w0 w : World} {v1 v2 : Value} {n : Nat} (h1 : IsRes w v1 (Nt.digs n)) (h2 : IsRes w v2 (Nt.digs n)) (hb : Below w0.heap.size w0 w) :
    Calls Tryz.prog 30 #[v1, v2] w fun e w' => e = .returned (.bool true) ∧ Below w0.heap.size w0 w' ∧ Below w.heap.size w w' := by
  obtain ⟨A, c, rfl, a1, a2, a3, a4⟩ := h1
  obtain ⟨A', c', rfl, b1, b2, b3, b4⟩ := h2
  refine (same_any A A' c c' w.heap.size w.heap.size (Nt.digs n) (Nt.digs n) w a4 b4 (by omega) (by omega)).mono ?_
  rintro e w' ⟨rfl, k, rfl⟩
  have hb1 : Below w.heap.size w (w.drewN k) := ⟨rfl, rfl, rfl, Nat.le_refl _, fun _ _ => rfl⟩
  exact ⟨by simp, hb.trans (hb1.mono hb.size), hb1⟩

end Go.Proofs.YtfiefglagknclaaGreatDoor

/-
  As XRegPred, for a region with one store into a block that was there (a result's cell, say): all other operations read and make memory, and say nothing of that block.
-/
namespace Go.Proofs.YtfiefglagknclaaGreatDoor
open Go.RowKit
set_option linter.unusedVariables false

theorem below_grown {w w' : World} {g : Nat} (h : Below w.heap.size w w') : w.grownBy w' (some g) := ⟨h.os, h.tape, h.output, h.size, fun k hk _ => h.block k hk⟩
theorem grown_trans {a b c : World} {g : Nat} (h : a.grownBy b (some g)) (h' : b.grownBy c (some g)) : a.grownBy c (some g) :=
  ⟨h'.os.trans h.os, h'.tape.trans h.tape, h'.output.trans h.output, Nat.le_trans h.size h'.size, fun k hk hne => (h'.block k (Nat.lt_of_lt_of_le hk h.size) hne).trans (h.block k hk hne)⟩
section
variable {P : Program} {ops : Array Oper} {Q : Exit → Act → World → Prop} {md : Region.Mode}
/-- The store's outcome. -/
def Stored (frame : (Nat → Value) → Act) (R : Nat → World → Value → Prop) (s : Nat) (RS : World → Prop) (g : Nat) (xs : Nat → Value) (w : World) (a' : Act) (w' : World) : Prop := a' = frame xs ∧ w.grownBy w' (some g) ∧ RS w' ∧ ∀ i v, i ≠ s → R i w v → R i w' v
theorem wpAny_store (frame : (Nat → Value) → Act) (w0 : World) (R : Nat → World → Value → Prop) (g s : Nat) (RS : World → Prop) (hg : g < w0.heap.size)
    (hR : ∀ i w w' v, R i w v → Below w.heap.size w w' → R i w' v)
    (hS : ∀ w w', RS w → Below w.heap.size w w' → RS w')
    (step : ∀ i xs w, i < s → Below w0.heap.size w0 w → (∀ j, j ≠ s → depB md ops i j = true → R j w (xs j)) → wpOp P ops Q i (Yields frame R xs i w) (frame xs) w)
    (step2 : ∀ i xs w, i < ops.size → s < i → (∀ j, j ≠ s → depB md ops i j = true → R j w (xs j)) → wpOp P ops Q i (Yields frame R xs i w) (frame xs) w)
    (store : ∀ xs w, Below w0.heap.size w0 w → (∀ j, j < s → R j w (xs j)) → wpOp P ops Q s (Stored frame R s RS g xs w) (frame xs) w)
    (done : ∀ xs w, w0.grownBy w (some g) → RS w → (∀ i, i < ops.size → i ≠ s → R i w (xs i)) → Q .normal (frame xs) w)
    (hs : s < ops.size) (hlast : ∀ j, j < s → depB md ops s j = true) (hops : ∀ i, i < ops.size → ∀ o, ops[i]? = some o → ∀ e ∈ o.after, e.on < i)
    (xs0 : Nat → Value) (w1 : World) (hw1 : Below w0.heap.size w0 w1) : wpAny P md ops Q ops.size (Array.replicate ops.size false) (frame xs0) w1 := by
  refine wpAny_inv (fun l a w => l.size = ops.size ∧ (l[s]? = some false → Below w0.heap.size w0 w) ∧ (l[s]? = some true → w0.grownBy w (some g) ∧ RS w ∧ ∀ j, j < s → l[j]? = some true) ∧ ∃ xs, a = frame xs ∧ ∀ i, i < ops.size → i ≠ s → l[i]? = some true → R i w (xs i)) ?_ ?_ ops.size _ _ _ (by simp)
    ⟨by simp, fun _ => hw1, fun h => by simp [hs] at h, xs0, rfl, fun i hi _ h => by simp [hi] at h⟩
  · rintro l a w ⟨hl, hf, ht, xs, rfl, hx⟩ i hi
    obtain ⟨h1, h2, h3⟩ := ready_mem hi
    have hli : l[i]? = some false := by
      rw [Array.getD_eq_getD_getElem?] at h2
      rw [Array.getElem?_eq_getElem (by omega)] at h2 ⊢
      simp at h2; rw [h2]
    have hlt : ∀ j, depB md ops i j = true → j < i := by
      intro j hj
      unfold depB at hj
      rw [Array.getElem?_eq_getElem h1] at hj
      simp only [List.any_eq_true, Bool.and_eq_true, beq_iff_eq] at hj
      obtain ⟨e, he', rfl, _⟩ := hj
      exact hops i h1 _ (Array.getElem?_eq_getElem h1) e (by simpa using he')
    have hdep : ∀ j, j ≠ s → depB md ops i j = true → R j w (xs j) := fun j hjs hj => hx j (by have := hlt j hj; omega) hjs (getD_true (depB_listed h3 hj))
    by_cases e : i = s
    · subst e
      have hall : ∀ j, j < i → l[j]? = some true := fun j hj => getD_true (depB_listed h3 (hlast j hj))
      have hb := hf hli
      refine wpOp_mono ?_ (store xs w hb (fun j hj => hx j (by omega) (by omega) (hall j hj)))
      rintro a' w' ⟨rfl, hgr, hrs, hkeep⟩
      refine ⟨by simpa using hl, fun h => ?_, fun _ => ⟨grown_trans (below_grown hb) hgr, hrs, fun j hj => ?_⟩, xs, rfl, fun j hj hjs hlj => ?_⟩
      · rw [Array.getElem?_setIfInBounds_self_of_lt (by omega)] at h; cases h
      · rw [Array.getElem?_setIfInBounds_ne (by omega)]; exact hall j hj
      · rw [Array.getElem?_setIfInBounds_ne (fun h => hjs h.symm)] at hlj
        exact hkeep j _ hjs (hx j hj hjs hlj)
    · have key : wpOp P ops Q i (Yields frame R xs i w) (frame xs) w := by
        by_cases his : i < s
        · refine step i xs w his ?_ hdep
          cases hls : l[s]? with
          | none => rw [Array.getElem?_eq_none_iff] at hls; omega
          | some b =>
            cases b
            · exact hf hls
            · have := (ht hls).2.2 i his
              rw [hli] at this; cases this
        · exact step2 i xs w h1 (by omega) hdep
      refine wpOp_mono ?_ key
      rintro a' w' ⟨v, rfl, hv, hb'⟩
      refine ⟨by simpa using hl, fun h => ?_, fun h => ?_, upd xs i v, rfl, fun j hj hjs hlj => ?_⟩
      · rw [Array.getElem?_setIfInBounds_ne e] at h
        have hb := hf h
        exact hb.trans (hb'.mono hb.size)
      · rw [Array.getElem?_setIfInBounds_ne e] at h
        obtain ⟨k1, k2, k3⟩ := ht h
        refine ⟨grown_trans k1 (below_grown hb'), hS w w' k2 hb', fun j hj => ?_⟩
        by_cases e' : i = j
        · subst e'; rw [Array.getElem?_setIfInBounds_self_of_lt (by omega)]
        · rw [Array.getElem?_setIfInBounds_ne e']; exact k3 j hj
      · by_cases e' : j = i
        · subst e'; simp only [upd, if_true]; exact hv
        · simp only [upd, if_neg e']
          rw [Array.getElem?_setIfInBounds_ne (fun h => e' h.symm)] at hlj
          exact hR j w w' _ (hx j hj hjs hlj) hb'
  · rintro l a w ⟨hl, hf, ht, xs, rfl, hx⟩ hr
    have hall : ∀ n i, i < n → i < ops.size → l[i]? = some true := by
      intro n
      induction n with
      | zero => intro i h; omega
      | succ n ih =>
        intro i hi his
        by_cases e : i < n
        · exact ih i e his
        · have hie : i = n := by omega
          subst hie
          cases h : l[i]? with
          | none => rw [Array.getElem?_eq_none_iff] at h; omega
          | some b =>
            cases b
            · exfalso
              have : i ∈ Region.ready md ops l := by
                simp only [Region.ready, List.mem_filter, List.mem_range, Bool.and_eq_true, Bool.not_eq_true']
                refine ⟨his, by rw [Array.getD_eq_getD_getElem?, h]; rfl, ?_⟩
                rw [Array.getElem?_eq_getElem his]
                simp only [Option.map_some, Option.getD_some, Array.all_eq_true_iff_forall_mem]
                intro e he
                have hlt := hops i his _ (Array.getElem?_eq_getElem his) e he
                rw [Array.getD_eq_getD_getElem?, ih e.on hlt (by omega)]
                simp
              rw [hr] at this; cases this
            · rfl
    obtain ⟨k1, k2, _⟩ := ht (hall (s + 1) s (by omega) hs)
    exact done xs w k1 k2 (fun i hi hne => hx i hi hne (hall (i + 1) i (by omega) hi))
theorem wp_region_store (frame : (Nat → Value) → Act) (w0 : World) (R : Nat → World → Value → Prop) (g s : Nat) (RS : World → Prop) {id : Nat} {a : Act} {w : World} (hm : P.follows .mixedOrders = true) (hg : g < w0.heap.size) (hs : decide (s < ops.size) = true)
    (hlast : (List.range s).all (fun j => depB .any ops s j) = true)
    (hops : ops.toList.zipIdx.all (fun p => p.1.after.all fun e => decide (e.on < p.2)) = true)
    (hR : ∀ i w w' v, R i w v → Below w.heap.size w w' → R i w' v)
    (hS : ∀ w w', RS w → Below w.heap.size w w' → RS w')
    (xs0 : Nat → Value) (ha : a = frame xs0) (hw : Below w0.heap.size w0 w)
    (step : ∀ i xs w, i < s → Below w0.heap.size w0 w → (∀ j, j ≠ s → depB .any ops i j = true → R j w (xs j)) → wpOp P ops Q i (Yields frame R xs i w) (frame xs) w)
    (step2 : ∀ i xs w, i < ops.size → s < i → (∀ j, j ≠ s → depB .any ops i j = true → R j w (xs j)) → wpOp P ops Q i (Yields frame R xs i w) (frame xs) w)
    (store : ∀ xs w, Below w0.heap.size w0 w → (∀ j, j < s → R j w (xs j)) → wpOp P ops Q s (Stored frame R s RS g xs w) (frame xs) w)
    (done : ∀ xs w, w0.grownBy w (some g) → RS w → (∀ i, i < ops.size → i ≠ s → R i w (xs i)) → Q .normal (frame xs) w) : (Code.region id ops true).wp P Q a w := by
  subst ha
  refine wp_region_any hm (wpAny_store frame w0 R g s RS hg hR hS step step2 store done (of_decide_eq_true hs) ?_ ?_ xs0 _ ?_)
  · intro j hj
    rw [List.all_eq_true] at hlast
    exact hlast j (by simpa using hj)
  · intro i hi o ho e he
    rw [List.all_eq_true] at hops
    have h := hops (o, i) (by
      rw [List.mem_zipIdx_iff_getElem?]
      simpa using ho)
    rw [Array.all_eq_true_iff_forall_mem] at h
    simpa using h e he
  · exact ⟨hw.os, hw.tape, hw.output, hw.size, hw.block⟩
end
end Go.Proofs.YtfiefglagknclaaGreatDoor

/-
  Decimal digits, in plain words: a numeral by groups of nine digits, and read again.
-/
set_option linter.unusedVariables false
namespace Ten
open Go Go.Lib
def dch (d : Nat) : UInt8 := UInt8.ofNat (48 + d)
theorem dch_nat {d : Nat} (h : d < 10) : (dch d).toNat = 48 + d := by
  unfold dch; rw [UInt8.toNat_ofNat']; omega
theorem dec_small {n : Nat} (h : n < 10) : decDigits n = [dch n] := decDigits_one h
theorem dec_big {n : Nat} (h : ¬ n < 10) : decDigits n = decDigits (n / 10) ++ [dch (n % 10)] := by
  rw [decDigits, dif_neg h]; rfl
theorem dec_step {q d : Nat} (hq : 0 < q) (hd : d < 10) : decDigits (10 * q + d) = decDigits q ++ [dch d] := by
  rw [dec_big (by omega), show (10 * q + d) / 10 = q by omega, show (10 * q + d) % 10 = d by omega]
theorem dec_ne (n : Nat) : decDigits n ≠ [] := by
  by_cases h : n < 10
  · rw [dec_small h]; simp
  · rw [dec_big h]; simp
/-- k digits, with noughts ahead. -/
def padD : Nat → Nat → List UInt8
  | 0, _ => []
  | k + 1, r => padD k (r / 10) ++ [dch (r % 10)]
theorem dec_pad {q : Nat} (hq : 0 < q) : ∀ (k r : Nat), r < 10 ^ k → decDigits (q * 10 ^ k + r) = decDigits q ++ padD k r
  | 0, r, h => by
    rw [show q * 10 ^ 0 + r = q by simp at h ⊢; omega]; simp [padD]
  | k + 1, r, h => by
    have hr : r / 10 < 10 ^ k := by rw [Nat.pow_succ] at h; omega
    have hp : 0 < 10 ^ k := Nat.pow_pos (by omega)
    have e : q * 10 ^ (k + 1) + r = 10 * (q * 10 ^ k + r / 10) + r % 10 := by
      rw [Nat.pow_succ, ← Nat.mul_assoc]; omega
    rw [e, dec_step (by have := Nat.mul_pos hq hp; omega) (by omega), dec_pad hq k _ hr, padD, List.append_assoc]
theorem padD_zero : ∀ k, padD k 0 = List.replicate k 48
  | 0 => rfl
  | k + 1 => by
    rw [padD, show 0 / 10 = 0 from rfl, padD_zero k, show [dch (0 % 10)] = List.replicate 1 48 from rfl, List.replicate_append_replicate]
theorem dec_len : ∀ {k r : Nat}, r < 10 ^ (k + 1) → 1 ≤ (decDigits r).length ∧ (decDigits r).length ≤ k + 1
  | 0, r, h => by rw [dec_small (by simpa using h)]; simp
  | k + 1, r, h => by
    by_cases h10 : r < 10
    · rw [dec_small h10]; simp
    · rw [dec_big h10]
      have := dec_len (k := k) (r := r / 10) (by rw [Nat.pow_succ] at h; omega)
      simp; omega
theorem padD_dec : ∀ {k r : Nat}, r < 10 ^ (k + 1) → padD (k + 1) r = List.replicate (k + 1 - (decDigits r).length) 48 ++ decDigits r
  | 0, r, h => by
    have h' : r < 10 := by simpa using h
    rw [dec_small h', padD, padD, Nat.mod_eq_of_lt h']; rfl
  | k + 1, r, h => by
    by_cases h10 : r < 10
    · rw [dec_small h10, padD, Nat.mod_eq_of_lt h10, show r / 10 = 0 by omega, padD_zero]; rfl
    · have hr : r / 10 < 10 ^ (k + 1) := by rw [Nat.pow_succ] at h; omega
      have hl := dec_len hr
      rw [padD, padD_dec hr, dec_big h10, List.append_assoc, List.length_append]
      rw [show k + 1 + 1 - ((decDigits (r / 10)).length + [dch (r % 10)].length) = k + 1 - (decDigits (r / 10)).length by simp]
theorem dec_nine {q r : Nat} (hq : 0 < q) (hr : r < 1000000000) : decDigits (q * 1000000000 + r) = decDigits q ++ (List.replicate (9 - (decDigits r).length) 48 ++ decDigits r) := by
  have := dec_pad hq 9 r (by simpa using hr)
  rw [padD_dec (k := 8) (by simpa using hr)] at this
  exact this

/-- A text's number, and whether it is a numeral. -/
def numOf (s : List UInt8) : Nat := s.foldl (fun n b => 10 * n + (b.toNat - 48)) 0
def isDig (b : UInt8) : Prop := 48 ≤ b.toNat ∧ b.toNat ≤ 57
def Valid (s : List UInt8) : Prop := s ≠ [] ∧ (1 < s.length → s.head? ≠ some 48) ∧ ∀ b ∈ s, isDig b
theorem numOf_snoc (s : List UInt8) (b : UInt8) : numOf (s ++ [b]) = 10 * numOf s + (b.toNat - 48) := by
  unfold numOf; rw [List.foldl_append]; rfl
theorem isDig_dch {d : Nat} (h : d < 10) : isDig (dch d) := by unfold isDig; rw [dch_nat h]; omega
theorem dch_of {b : UInt8} (h : isDig b) : dch (b.toNat - 48) = b := by
  obtain ⟨h1, h2⟩ := h
  apply UInt8.toNat_inj.1
  rw [dch_nat (by omega)]; omega
theorem head_app {a : List UInt8} (b : List UInt8) (h : a ≠ []) : (a ++ b).head? = a.head? := by
  cases a with
  | nil => exact absurd rfl h
  | cons x r => rfl
theorem dec_head : ∀ (n : Nat), 0 < n → (decDigits n).head? ≠ some 48 := by
  intro n
  induction n using Nat.strongRecOn with
  | ind n ih =>
    intro hn
    by_cases h : n < 10
    · rw [dec_small h]
      intro e
      injection e with e
      have := congrArg UInt8.toNat e
      rw [dch_nat h] at this
      simp at this; omega
    · rw [dec_big h, head_app _ (dec_ne _)]
      exact ih (n / 10) (by omega) (by omega)
theorem dec_valid (n : Nat) : Valid (decDigits n) ∧ numOf (decDigits n) = n := by
  induction n using Nat.strongRecOn with
  | ind n ih =>
    by_cases h : n < 10
    · rw [dec_small h]
      refine ⟨⟨by simp, by simp, fun b hb => ?_⟩, ?_⟩
      · rw [List.mem_singleton] at hb; subst hb; exact isDig_dch h
      · unfold numOf; simp [dch_nat h]
    · obtain ⟨⟨_, _, hd⟩, hv⟩ := ih (n / 10) (by omega)
      refine ⟨⟨dec_ne _, fun _ => dec_head n (by omega), fun b hb => ?_⟩, ?_⟩
      · rw [dec_big h] at hb
        rcases List.mem_append.1 hb with hb | hb
        · exact hd b hb
        · rw [List.mem_singleton] at hb; subst hb; exact isDig_dch (by omega)
      · rw [dec_big h, numOf_snoc, hv, dch_nat (by omega)]; omega
theorem valid_dec : ∀ (n : Nat) (s : List UInt8), s.length = n → Valid s → decDigits (numOf s) = s
  | 0, s, hl, h => absurd (List.eq_nil_of_length_eq_zero hl) h.1
  | 1, [b], _, h => by
    have hb := h.2.2 b List.mem_cons_self
    have e : numOf [b] = b.toNat - 48 := by unfold numOf; simp
    rw [e, dec_small (by have := hb.2; omega), dch_of hb]
  | n + 2, s, hl, h => by
    obtain ⟨t, b, rfl⟩ : ∃ t b, s = t ++ [b] := ⟨s.dropLast, s.getLast h.1, (List.dropLast_concat_getLast h.1).symm⟩
    have htl : t.length = n + 1 := by simpa using hl
    have htn : t ≠ [] := by intro e; rw [e] at htl; simp at htl
    have hb := h.2.2 b (by simp)
    have hh : t.head? ≠ some 48 := by
      have := h.2.1 (by rw [hl]; omega)
      rwa [head_app _ htn] at this
    have ht : Valid t := ⟨htn, fun _ => hh, fun c hc => h.2.2 c (List.mem_append_left _ hc)⟩
    have ih := valid_dec (n + 1) t htl ht
    have hpos : 0 < numOf t := by
      rcases Nat.eq_zero_or_pos (numOf t) with e | e
      · rw [e, dec_small (by omega)] at ih
        rw [← ih] at hh
        exact absurd rfl hh
      · exact e
    rw [numOf_snoc, dec_step hpos (by have := hb.2; omega), ih, dch_of hb]
theorem parse_text {s : List UInt8} (h : Valid s) : decDigits (numOf s) = s := valid_dec _ s rfl h
/-- ref.Text's rounds. -/
def OutAt (v y : Nat) (s : List UInt8) : Prop := (0 < y → decDigits v = decDigits y ++ s) ∧ (y = 0 → decDigits v = s)
theorem OutAt.start {v : Nat} (h : 0 < v) : OutAt v v [] := ⟨fun _ => by simp, fun e => by omega⟩
theorem OutAt.step {v y : Nat} {s : List UInt8} (h : OutAt v y s) (hy : 0 < y) : OutAt v (y / 10) (dch (y % 10) :: s) := by
  have e := h.1 hy
  refine ⟨fun h1 => ?_, fun h0 => ?_⟩
  · rw [e, dec_big (n := y) (by omega), List.append_assoc]; rfl
  · rw [e, dec_small (by omega), Nat.mod_eq_of_lt (by omega)]; rfl
/-- nat.Text's groups of nine digits. -/
def grp (v i : Nat) : Nat := v / 1000000000 ^ i % 1000000000
theorem grp_lt (v i : Nat) : grp v i < 1000000000 := Nat.mod_lt _ (by omega)
theorem grp_next (v i : Nat) : v / 1000000000 ^ (i + 1) * 1000000000 + grp v i = v / 1000000000 ^ i := by
  unfold grp; rw [Nat.pow_succ, ← Nat.div_div_eq_div_mul]; omega
theorem div_next (v i : Nat) : v / 1000000000 ^ i / 1000000000 = v / 1000000000 ^ (i + 1) := by rw [Nat.pow_succ, Nat.div_div_eq_div_mul]
theorem grp_top {v i : Nat} (h : v / 1000000000 ^ (i + 1) = 0) : decDigits (grp v i) = decDigits (v / 1000000000 ^ i) := by
  have := grp_next v i
  rw [h] at this
  rw [← this]; simp
theorem grp_low {v i : Nat} (h : 0 < v / 1000000000 ^ (i + 1)) : decDigits (v / 1000000000 ^ i) = decDigits (v / 1000000000 ^ (i + 1)) ++ (List.replicate (9 - (decDigits (grp v i)).length) 48 ++ decDigits (grp v i)) := by
  rw [← dec_nine h (grp_lt v i), grp_next]
end Ten

/-
  Numbers as text, plain: what a number's text is, and what number a text tells.
-/
namespace Dg
open Ten Go
def dB (b : UInt8) : Bool := decide (48 ≤ b.toNat ∧ b.toNat ≤ 57)
theorem dB_iff {b : UInt8} : dB b = true ↔ isDig b := by simp [dB, isDig]
/-- How many digits a text begins with. -/
def lead (s : List UInt8) : Nat := (s.takeWhile dB).length
theorem lead_le (s : List UInt8) : lead s ≤ s.length := by
  unfold lead
  induction s with
  | nil => simp
  | cons b r ih =>
    rw [List.takeWhile_cons]
    cases dB b
    · simp
    · simp at ih ⊢; omega
theorem lead_at {s : List UInt8} {k : Nat} (hk : k < s.length) (h : ∀ i (hi : i < s.length), i < k → dB s[i] = true) (hn : dB s[k] = false) : lead s = k := by
  unfold lead
  induction s generalizing k with
  | nil => simp at hk
  | cons b r ih =>
    rw [List.takeWhile_cons]
    cases k with
    | zero => simp at hn; rw [hn]; rfl
    | succ k =>
      have h0 := h 0 (by simp) (by omega)
      simp at h0
      rw [h0]
      simp only [if_true, List.length_cons]
      rw [ih (by simpa using hk) (fun i hi hik => by have := h (i + 1) (by simpa using hi) (by omega); simpa using this) (by simpa using hn)]
theorem lead_all {s : List UInt8} (h : ∀ i (hi : i < s.length), dB s[i] = true) : lead s = s.length := by
  unfold lead
  induction s with
  | nil => rfl
  | cons b r ih =>
    rw [List.takeWhile_cons]
    have h0 := h 0 (by simp)
    simp at h0
    rw [h0]
    simp only [if_true, List.length_cons]
    rw [ih (fun i hi => by have := h (i + 1) (by simpa using hi); simpa using this)]
theorem lead_dig {s : List UInt8} {k : Nat} (hk : k < lead s) : ∃ h : k < s.length, dB s[k] = true := by
  have hl := lead_le s
  refine ⟨by omega, ?_⟩
  unfold lead at hk
  induction s generalizing k with
  | nil => simp at hk
  | cons b r ih =>
    rw [List.takeWhile_cons] at hk
    cases hb : dB b
    · rw [hb] at hk; simp at hk
    · rw [hb] at hk
      cases k with
      | zero => simpa using hb
      | succ k => simpa using ih (by simpa using hk) (lead_le r)
theorem lead_not {s : List UInt8} (h : lead s < s.length) : dB s[lead s] = false := by
  unfold lead at h ⊢
  induction s with
  | nil => simp at h
  | cons b r ih =>
    cases hb : dB b
    · simp [hb]
    · have h' : (r.takeWhile dB).length < r.length := by simpa [List.takeWhile_cons, hb] using h
      have := ih h'
      simp only [List.takeWhile_cons, hb, if_true, List.length_cons, List.getElem_cons_succ]
      exact this

/-- The number of a text without a sign, or the error. -/
def body (neg : Bool) (t : List UInt8) : Rt.Nm × Int :=
  if 400 < t.length then (Rt.none_, 7)
  else if lead t = 0 then (Rt.none_, 1)
  else if lead t = t.length then Rt.mk neg false (numOf t) 1
  else if t.length = lead t + 1 ∨ lead (t.drop (lead t + 1)) < t.length - (lead t + 1) then (Rt.none_, 1)
  else if t.getD (lead t) 0 = 114 then Rt.mk neg false (numOf (t.take (lead t))) (numOf (t.drop (lead t + 1)))
  else if t.getD (lead t) 0 = 46 then Rt.mk neg false (numOf (t.take (lead t) ++ t.drop (lead t + 1))) (10 ^ (t.length - (lead t + 1)))
  else (Rt.none_, 1)
/-- The number of a text, or the error. -/
def parse : List UInt8 → Rt.Nm × Int
  | 194 :: 175 :: t => body true t
  | t => body false t
/-- A right number's text. -/
def print (n : Rt.Nm) : List UInt8 := (if n.neg then [194, 175] else []) ++ (Lib.decDigits (Nt.val n.top) ++ if n.bot = [1] then [] else 114 :: Lib.decDigits (Nt.val n.bot))

theorem dec_dB (n i : Nat) (hi : i < (Lib.decDigits n).length) : dB (Lib.decDigits n)[i] = true := dB_iff.2 ((dec_valid n).1.2.2 _ (List.getElem_mem hi))
theorem dec_pos (n : Nat) : 0 < (Lib.decDigits n).length := List.length_pos_iff.2 (dec_ne n)
theorem mk_right {n : Rt.Nm} (h : Rt.right n = true) : Rt.mk n.neg false (Nt.val n.top) (Nt.val n.bot) = (n, 0) := by
  unfold Rt.right at h
  simp only [Bool.and_eq_true, decide_eq_true_eq, beq_iff_eq] at h
  obtain ⟨⟨_, h1⟩, h2⟩ := h
  exact Prod.ext h2 h1
theorem body_print {n : Rt.Nm} (h : Rt.right n = true) (hl : (Lib.decDigits (Nt.val n.top) ++ if n.bot = [1] then [] else 114 :: Lib.decDigits (Nt.val n.bot)).length ≤ 400) :
    body n.neg (Lib.decDigits (Nt.val n.top) ++ if n.bot = [1] then [] else 114 :: Lib.decDigits (Nt.val n.bot)) = (n, 0) := by
  have hm := mk_right h
  have hp := dec_pos (Nt.val n.top)
  by_cases hb : n.bot = [1]
  · rw [if_pos hb] at hl ⊢
    rw [List.append_nil] at hl ⊢
    unfold body
    rw [if_neg (by omega), lead_all (dec_dB _), if_neg (by omega), if_pos rfl, (dec_valid _).2]
    rw [hb] at hm
    exact hm
  · rw [if_neg hb] at hl ⊢
    have hld : lead (Lib.decDigits (Nt.val n.top) ++ 114 :: Lib.decDigits (Nt.val n.bot)) = (Lib.decDigits (Nt.val n.top)).length := by
      refine lead_at (by simp) (fun i hi hik => ?_) ?_
      · rw [List.getElem_append_left hik]; exact dec_dB _ _ _
      · rw [List.getElem_append_right (Nat.le_refl _)]; simp; decide
    have hq := dec_pos (Nt.val n.bot)
    unfold body
    rw [hld]
    rw [if_neg (by omega), if_neg (by omega), if_neg (by simp)]
    have e1 : (Lib.decDigits (Nt.val n.top) ++ 114 :: Lib.decDigits (Nt.val n.bot)).drop ((Lib.decDigits (Nt.val n.top)).length + 1) = Lib.decDigits (Nt.val n.bot) := by
      rw [List.drop_append]; simp
    have e2 : (Lib.decDigits (Nt.val n.top) ++ 114 :: Lib.decDigits (Nt.val n.bot)).getD (Lib.decDigits (Nt.val n.top)).length 0 = 114 := by
      rw [List.getD_eq_getElem?_getD, List.getElem?_append_right (Nat.le_refl _)]; simp
    have e3 : (Lib.decDigits (Nt.val n.top) ++ 114 :: Lib.decDigits (Nt.val n.bot)).take (Lib.decDigits (Nt.val n.top)).length = Lib.decDigits (Nt.val n.top) := by simp
    rw [e1, e2, e3, lead_all (dec_dB _), if_neg (by simp only [List.length_append, List.length_cons, not_or]; omega), if_pos rfl, (dec_valid _).2, (dec_valid _).2]
    exact hm
theorem parse_body {t : List UInt8} (h : t.head? ≠ some 194) : parse t = body false t := by
  unfold parse
  split
  · simp at h
  · rfl
theorem parse_print {n : Rt.Nm} (h : Rt.right n = true) (hl : (print n).length ≤ 400) : parse (print n) = (n, 0) := by
  unfold print at hl ⊢
  cases hn : n.neg
  · rw [hn] at hl
    simp only [Bool.false_eq_true, if_false, List.nil_append] at hl ⊢
    rw [parse_body, ← hn]
    · exact body_print h hl
    · rw [head_app _ (dec_ne _)]
      intro e
      have h1 := (dec_valid (Nt.val n.top)).1
      obtain ⟨b, r, hbr⟩ := List.exists_cons_of_ne_nil (dec_ne (Nt.val n.top))
      rw [hbr] at e h1
      simp at e
      have := h1.2.2 b (by simp)
      rw [e] at this
      simp [isDig] at this
  · rw [hn] at hl
    simp only [if_true] at hl ⊢
    have := body_print h (by simp at hl ⊢; omega)
    rw [hn] at this
    exact this
/-! ### Noughts ahead -/
theorem numOf_zero (s : List UInt8) : numOf (48 :: s) = numOf s := by simp [numOf]
theorem numOf_append (a b : List UInt8) : numOf (a ++ b) = b.foldl (fun n b => 10 * n + (b.toNat - 48)) (numOf a) := by unfold numOf; rw [List.foldl_append]
theorem numOf_zeros : ∀ k, numOf (49 :: List.replicate k 48) = 10 ^ k
  | 0 => rfl
  | k + 1 => by
    rw [List.replicate_succ', ← List.cons_append, numOf_snoc, numOf_zeros k, Nat.pow_succ, Nat.mul_comm]; rfl
theorem numOf_lt : ∀ (n : Nat) (t : List UInt8), t.length = n → (∀ b ∈ t, isDig b) → numOf t < 10 ^ n
  | 0, t, h, _ => by rw [List.eq_nil_of_length_eq_zero h]; decide
  | n + 1, t, h, hd => by
    have hne : t ≠ [] := by rintro rfl; cases h
    obtain ⟨r, b, rfl⟩ : ∃ r b, t = r ++ [b] := ⟨t.dropLast, t.getLast hne, (List.dropLast_concat_getLast hne).symm⟩
    have h1 := numOf_lt n r (by simpa using h) (fun x hx => hd x (by simp [hx]))
    have h2 : isDig b := hd b (by simp)
    rw [numOf_snoc, Nat.pow_succ]
    unfold isDig at h2
    omega
theorem ten_nine (m : Nat) : 10 ^ (9 * m) ≤ 4294967296 ^ m := by rw [Nat.pow_mul]; exact Nat.pow_le_pow_left (by decide) m
/-- Nine digits a limb. -/
theorem limbs_le {t : List UInt8} (hd : ∀ b ∈ t, isDig b) (m : Nat) (h : t.length ≤ 9 * m) : (Nt.digs (numOf t)).length ≤ m :=
  Nt.digs_len_lt (Nat.lt_of_lt_of_le (numOf_lt _ t rfl hd) (Nat.le_trans (Nat.pow_le_pow_right (by omega) h) (ten_nine m)))
theorem limbs_ten {k : Nat} (m : Nat) (h : k + 1 ≤ 9 * m) : (Nt.digs (10 ^ k)).length ≤ m := by
  rw [← numOf_zeros]
  refine limbs_le (fun b hb => ?_) m (by simpa using h)
  rcases List.mem_cons.1 hb with rfl | hb
  · simp [isDig]
  · rw [List.eq_of_mem_replicate hb]; simp [isDig]
theorem numOf_drop : ∀ {k : Nat} {s : List UInt8}, (∀ i (hi : i < s.length), i < k → s[i] = 48) → k ≤ s.length → numOf (s.drop k) = numOf s
  | 0, s, _, _ => by simp
  | k + 1, [], _, h => by simp at h
  | k + 1, b :: r, hz, h => by
    have h0 := hz 0 (by simp) (by omega)
    simp at h0
    subst h0
    rw [List.drop_succ_cons, numOf_zero]
    exact numOf_drop (fun i hi hik => by have := hz (i + 1) (by simpa using hi) (by omega); simpa using this) (by simpa using h)
/-- Digits, the noughts ahead taken off but for a last one. -/
theorem valid_drop {s : List UInt8} {k : Nat} (hd : ∀ b ∈ s, isDig b) (hk : k < s.length) (h : k + 1 < s.length → s[k] ≠ 48) : Valid (s.drop k) := by
  refine ⟨by simp; omega, fun hl => ?_, fun b hb => hd b (List.mem_of_mem_drop hb)⟩
  have h1 := h (by simp at hl; omega)
  rw [List.drop_eq_getElem_cons hk]
  intro e
  rw [List.head?_cons] at e
  exact h1 (Option.some.inj e)
def strip (s : List UInt8) : List UInt8 := s.dropWhile (· == 48)
theorem strip_cons (b : UInt8) (r : List UInt8) : strip (b :: r) = if b = 48 then strip r else b :: r := by
  unfold strip
  by_cases h : b = 48
  · subst h; simp
  · rw [if_neg h, List.dropWhile_cons, if_neg (by simpa using h)]
theorem numOf_strip : ∀ s : List UInt8, numOf (strip s) = numOf s
  | [] => rfl
  | b :: r => by
    rw [strip_cons]
    by_cases h : b = 48
    · subst h; rw [if_pos rfl, numOf_strip r, numOf_zero]
    · rw [if_neg h]
theorem strip_mem : ∀ {s : List UInt8} {b : UInt8}, b ∈ strip s → b ∈ s
  | [], _, h => h
  | x :: r, b, h => by
    rw [strip_cons] at h
    by_cases e : x = 48
    · rw [if_pos e] at h; exact List.mem_cons_of_mem _ (strip_mem h)
    · rw [if_neg e] at h; exact h
theorem strip_len : ∀ s : List UInt8, (strip s).length ≤ s.length
  | [] => Nat.le_refl _
  | x :: r => by
    rw [strip_cons]
    by_cases e : x = 48
    · rw [if_pos e]; have := strip_len r; simp; omega
    · rw [if_neg e]; exact Nat.le_refl _
theorem strip_head : ∀ s : List UInt8, (strip s).head? ≠ some 48
  | [] => by simp [strip]
  | x :: r => by
    rw [strip_cons]
    by_cases e : x = 48
    · rw [if_pos e]; exact strip_head r
    · rw [if_neg e]; simpa using e
theorem strip_valid {s : List UInt8} (hd : ∀ b ∈ s, isDig b) (h : strip s ≠ []) : Valid (strip s) :=
  ⟨h, fun _ => strip_head s, fun b hb => hd b (strip_mem hb)⟩
theorem strip_nil {s : List UInt8} (h : strip s = []) : numOf s = 0 := by rw [← numOf_strip, h]; rfl
theorem lead_take {s : List UInt8} : ∀ b ∈ s.take (lead s), isDig b := fun b hb => by
  obtain ⟨i, hi, rfl⟩ := List.mem_iff_getElem.1 hb
  rw [List.getElem_take]
  have hi' : i < lead s := by simp at hi; omega
  obtain ⟨h1, h2⟩ := lead_dig hi'
  exact dB_iff.1 h2
theorem lead_full {s : List UInt8} (h : lead s = s.length) : ∀ b ∈ s, isDig b := fun b hb => by
  have := lead_take (s := s) b
  rw [h, List.take_length] at this
  exact this hb
end Dg

/-
  digits.leading and scrimref05.digits: how many digits stand at a text's beginning, or from a place on.
-/
namespace Go.Proofs.YtfiefglagknclaaGreatDoor
open Go.RowKit
set_option maxHeartbeats 1000000
set_option maxRecDepth 100000
set_option linter.unusedVariables false

theorem lead_step {s : List UInt8} {k : Nat} (hl : k ≤ Dg.lead s) (h : k < s.length) (hd : Dg.dB s[k] = true) : k + 1 ≤ Dg.lead s := by
  rcases Nat.lt_or_ge k (Dg.lead s) with h1 | h1
  · omega
  · have e : Dg.lead s = k := by omega
    have := Dg.lead_not (s := s) (by omega)
    simp only [e] at this
    rw [hd] at this; cases this
theorem lead_stop {s : List UInt8} {k : Nat} (hl : k ≤ Dg.lead s) (h : k < s.length) (hd : Dg.dB s[k] = false) : Dg.lead s = k := by
  rcases Nat.lt_or_ge k (Dg.lead s) with h1 | h1
  · obtain ⟨h2, h3⟩ := Dg.lead_dig h1
    rw [hd] at h3; cases h3
  · omega
theorem dB_nat {b : UInt8} {y : Nat} (h : y = b.toNat) : Dg.dB b = decide (48 ≤ y ∧ y ≤ 57) := by unfold Dg.dB; rw [h]

theorem leading_any (s : List UInt8) (w : World) (hs : s.length ≤ 1000000) :
    Calls Tryz.prog 22 #[.string ⟨s.toArray⟩] w fun e w' => e = .returned (.int .i64 (Dg.lead s : Int)) ∧ w = w' := by
  have hsz : (⟨s.toArray⟩ : ByteArray).size = s.length := rfl
  have HSZ := Lib.hid hsz
  go_enter Tryz.func22, Tryz.ntmps22
  go_wp2
  go_loop [3] (fun i => ∃ k : Nat, k ≤ s.length ∧ i = .int .i64 (k : Int) ∧ Hid (k ≤ Dg.lead s)) (fun i => s.length - (intOf i).toNat)
  case atStart => exact ⟨0, Nat.zero_le _, rfl, Lib.hid (Nat.zero_le _)⟩
  case round =>
    obtain ⟨k, hk, rfl, H⟩ := hrel
    by_cases hlt : k < s.length
    · obtain ⟨y, hy⟩ : ∃ y, y = s[k].toNat := ⟨_, rfl⟩
      have hgy : ((⟨s.toArray⟩ : ByteArray)[k]'(show k < (⟨s.toArray⟩ : ByteArray).size from hlt)).toNat = y := hy.symm
      have HD := Lib.hid (dB_nat hy)
      have H1 := Lib.hid (fun h => lead_step H.out hlt h)
      have H2 := Lib.hid (fun h => lead_stop H.out hlt h)
      clear hy
      by_cases h1 : 48 ≤ y
      · by_cases h2 : y ≤ 57
        · go_wp2
          go_round
          case rel => exact ⟨k + 1, by omega, by go_num, Lib.hid (H1.out (by rw [HD.out]; exact decide_eq_true ⟨h1, h2⟩))⟩
          case measure => simp [intOf]; omega
        · go_wp2
          go_ret
          exact ⟨ret_int (by rw [H2.out (by rw [HD.out]; exact decide_eq_false (by omega))]), rfl⟩
      · go_wp2
        go_ret
        exact ⟨ret_int (by rw [H2.out (by rw [HD.out]; exact decide_eq_false (by omega))]), rfl⟩
    · have e : k = s.length := by omega
      have HE := Lib.hid (show Dg.lead s = k by have := Dg.lead_le s; have := H.out; omega)
      clear e
      go_wp2
      go_ret
      exact ⟨ret_int (by rw [HE.out]), rfl⟩

theorem lead_drop_at {s : List UInt8} {a k : Nat} (h : a + k < s.length) : (s.drop a)[k]'(by rw [List.length_drop]; omega) = s[a + k] := by rw [List.getElem_drop]
theorem refDigits_any (s : List UInt8) (a : Nat) (w : World) (hs : s.length ≤ 1000000) (ha : a ≤ s.length) :
    Calls Tryz.prog 124 #[.string ⟨s.toArray⟩, .int .i64 (a : Int)] w fun e w' => e = .returned (.int .i64 (Dg.lead (s.drop a) : Int)) ∧ w = w' := by
  have hsz : (⟨s.toArray⟩ : ByteArray).size = s.length := rfl
  have HSZ := Lib.hid hsz
  go_enter Tryz.func124, Tryz.ntmps124
  go_wp2
  go_loop [5] (fun i => ∃ k : Nat, a + k ≤ s.length ∧ i = .int .i64 (k : Int) ∧ Hid (k ≤ Dg.lead (s.drop a))) (fun i => s.length - (intOf i).toNat)
  case atStart => exact ⟨0, ha, rfl, Lib.hid (Nat.zero_le _)⟩
  case round =>
    obtain ⟨k, hk, rfl, H⟩ := hrel
    by_cases hlt : a + k < s.length
    · obtain ⟨y, hy⟩ : ∃ y, y = s[a + k].toNat := ⟨_, rfl⟩
      have hgy : ((⟨s.toArray⟩ : ByteArray)[a + k]'(show a + k < (⟨s.toArray⟩ : ByteArray).size from hlt)).toNat = y := hy.symm
      have hld : k < (s.drop a).length := by rw [List.length_drop]; omega
      have hy2 : y = ((s.drop a)[k]).toNat := by rw [lead_drop_at hlt]; exact hy
      have HD := Lib.hid (dB_nat hy2)
      have H1 := Lib.hid (fun h => lead_step H.out hld h)
      have H2 := Lib.hid (fun h => lead_stop H.out hld h)
      clear hy hy2
      by_cases h1 : 48 ≤ y
      · by_cases h2 : y ≤ 57
        · go_wp2
          go_round
          case rel => exact ⟨k + 1, by omega, by go_num, Lib.hid (H1.out (by rw [HD.out]; exact decide_eq_true ⟨h1, h2⟩))⟩
          case measure => simp [intOf]; omega
        · go_wp2
          go_ret
          exact ⟨ret_int (by rw [H2.out (by rw [HD.out]; exact decide_eq_false (by omega))]), rfl⟩
      · go_wp2
        go_ret
        exact ⟨ret_int (by rw [H2.out (by rw [HD.out]; exact decide_eq_false (by omega))]), rfl⟩
    · have HE := Lib.hid (show Dg.lead (s.drop a) = k by have := Dg.lead_le (s.drop a); have := H.out; rw [List.length_drop] at *; omega)
      go_wp2
      go_ret
      exact ⟨ret_int (by rw [HE.out]), rfl⟩
end Go.Proofs.YtfiefglagknclaaGreatDoor

/-
  Limbs times one limb, and one limb more.
-/
set_option linter.unusedVariables false
namespace Nt
def LenAt (l : List Nat) (b m : Nat) (cur : List Nat) (k c : Nat) : Prop :=
  cur.length = l.length ∧ Ok cur ∧ c < 4294967296 ∧ cur.drop k = l.drop k ∧ val (cur.take k) + c * 4294967296 ^ k = val (l.take k) * b + m
theorem len_start {l : List Nat} {b m : Nat} (h : Ok l) (hm : m < 4294967296) : LenAt l b m l 0 m := ⟨rfl, h, hm, rfl, by simp [val]⟩
theorem len_get {l cur : List Nat} {b m k c : Nat} (h : LenAt l b m cur k c) (hk : k < l.length) : cur[k]? = some l[k] := by
  have : (cur.drop k)[0]? = (l.drop k)[0]? := by rw [h.2.2.2.1]
  rw [List.getElem?_drop, List.getElem?_drop, Nat.add_zero, List.getElem?_eq_getElem hk] at this
  exact this
theorem len_bounds {x b c : Nat} (hx : x < 4294967296) (hb : b < 4294967296) (hc : c < 4294967296) : x * b + c < 18446744073709551616 ∧ (x * b + c) / 4294967296 < 4294967296 ∧ (x * b + c) % 4294967296 < 4294967296 ∧ x * b ≤ 18446744065119617025 := by
  have := mul_bound hx hb
  omega
theorem len_step {l cur : List Nat} {b m k c : Nat} (h : LenAt l b m cur k c) (hk : k < l.length) (hl : Ok l) (hb : b < 4294967296) : LenAt l b m (cur.set k ((l[k] * b + c) % 4294967296)) (k + 1) ((l[k] * b + c) / 4294967296) := by
  obtain ⟨h1, h2, h3, h4, h5⟩ := h
  have hbd := len_bounds (ok_get hl hk) hb h3
  refine ⟨by simpa using h1, ok_set h2 hbd.2.2.1, hbd.2.1, ?_, ?_⟩
  · rw [drop_set]
    have := congrArg (List.drop 1) h4
    rw [List.drop_drop, List.drop_drop] at this
    exact this
  · rw [set_take (by omega), val_take_succ hk, Nat.pow_succ]
    have e := Nat.div_add_mod (l[k] * b + c) 4294967296
    generalize (l[k] * b + c) / 4294967296 = q at *
    generalize (l[k] * b + c) % 4294967296 = r at *
    generalize 4294967296 ^ k = p at h5 ⊢
    generalize l[k] = x at *
    grind
theorem len_end {x b m c : Nat} {cur : List Nat} (h : LenAt (digs x) b m cur (digs x).length c) : val cur + c * 4294967296 ^ (digs x).length = x * b + m := by
  obtain ⟨h1, h2, h3, h4, h5⟩ := h
  rw [List.take_of_length_le (by omega), List.take_of_length_le (by omega), val_digs] at h5
  exact h5
theorem len_done0 {x b m : Nat} {cur : List Nat} (h : LenAt (digs x) b m cur (digs x).length 0) (hb : 1 ≤ b) : digs (x * b + m) = cur := by
  have e := len_end h
  rw [Nat.zero_mul, Nat.add_zero] at e
  rw [← e]
  refine eq_digs h.2.1 fun hne => ?_
  rw [h.1, e]
  have hx : x ≠ 0 := by
    rintro rfl
    have := h.1
    rw [digs_zero] at this
    exact hne (List.eq_nil_of_length_eq_zero this)
  have h1 := digs_ge hx
  have h2 : x * 1 ≤ x * b := Nat.mul_le_mul_left _ hb
  omega
theorem len_done1 {x b m c : Nat} {cur : List Nat} (h : LenAt (digs x) b m cur (digs x).length c) (hc : c ≠ 0) : digs (x * b + m) = cur ++ [c] := by
  have e := len_end h
  have hv : val (cur ++ [c]) = x * b + m := by
    rw [val_append, h.1, ← e]; simp [val, Nat.mul_comm]
  rw [← hv]
  refine eq_digs (fun d hd => ?_) fun _ => ?_
  · rcases List.mem_append.1 hd with h3 | h3
    · exact h.2.1 d h3
    · simp at h3; subst h3; exact h.2.2.1
  · rw [hv, List.length_append, List.length_singleton, Nat.add_sub_cancel, h.1, ← e]
    have : 1 * 4294967296 ^ (digs x).length ≤ c * 4294967296 ^ (digs x).length := Nat.mul_le_mul_right _ (by omega)
    omega
end Nt

/-
  What nat.lengthen computes.
-/
namespace Go.Proofs.YtfiefglagknclaaGreatDoor
open Go.RowKit
set_option maxHeartbeats 1000000
set_option maxRecDepth 100000
set_option linter.unusedVariables false

/-- A cell of a row of one's own: read, and written. -/
theorem own_at {w : World} {base n C k : Nat} {t : TypeId} {A : Option Addr} {xs : List Value} (h : w.ownsRow base t 1 (.slice A n C) n xs) (hk : k < n) :
    ∃ g, A = some ⟨g, 0, none⟩ ∧ base ≤ g ∧ w.cell? ⟨g, k, none⟩ = xs[k]? ∧ w.frozen? ⟨g, k, none⟩ = false ∧ ∀ x, (w.setCell ⟨g, k, none⟩ x).ownsRow base t 1 (.slice A n C) n (xs.set k x) := by
  obtain ⟨g, vs, hv, hb, hblk, ht, h1, h2⟩ := blk_of_own h (by omega)
  injection hv with e1 _ e2
  subst e1 e2
  refine ⟨g, rfl, hb, ?_, hblk.frozen k, fun x => ?_⟩
  · rw [← ht, List.getElem?_take, if_pos hk]
    have hk' : k < vs.length := by omega
    rw [List.getElem?_eq_getElem hk']
    exact hblk.cell (List.getElem?_eq_getElem hk')
  · have := (hblk.set_ k x).own (base := base) (n := n) hb (by rw [List.length_set]; exact h1) (by rw [List.length_set]; exact h2)
    rw [List.length_set, List.take_set, ht] at this
    exact this

theorem lengthen_any (base : Nat) (v : Value) (x b m : Nat) (w : World) (hown : w.ownsRow base 22 1 v (Nt.digs x).length (U (Nt.digs x))) (hB : base ≤ w.heap.size) (hl : (Nt.digs x).length ≤ 1000000) (hb1 : 1 ≤ b) (hb : b < 4294967296) (hm : m < 4294967296) :
    Calls Tryz.prog 93 #[v, .int .u32 (b : Int), .int .u32 (m : Int)] w fun e w' => ∃ v', e = .returned v' ∧ w'.ownsRow base 22 1 v' (Nt.digs (x * b + m)).length (U (Nt.digs (x * b + m))) ∧ Below base w w' := by
  obtain ⟨i0, hi, hz0, hz1, hz2⟩ := info_parts u32_info
  have OX := Lib.hid (Nt.ok_digs x)
  have D0 : Hid (∀ cur, Nt.LenAt (Nt.digs x) b m cur (Nt.digs x).length 0 → Nt.digs (x * b + m) = cur) := Lib.hid (fun cur h => Nt.len_done0 h hb1)
  have D1 : Hid (∀ cur c, Nt.LenAt (Nt.digs x) b m cur (Nt.digs x).length c → c ≠ 0 → Nt.digs (x * b + m) = cur ++ [c]) := Lib.hid (fun cur c h hc => Nt.len_done1 h hc)
  generalize Nt.digs (x * b + m) = dz at *
  generalize Nt.digs x = dx at *
  obtain ⟨A, C, rfl, hC1, hC2⟩ := own_slice hown
  go_enter Tryz.func93, Tryz.ntmps93
  go_wp2_with fail
  go_loopw [7, 15] (fun cv i wr => ∃ (k c : Nat) (cur : List Nat), k ≤ dx.length ∧ c < 4294967296 ∧ i = .int .i64 (k : Int) ∧ cv = .int .u64 (c : Int) ∧ wr.ownsRow base 22 1 (.slice A dx.length C) dx.length (U cur) ∧ Below base w wr ∧ Hid (Nt.LenAt dx b m cur k c)) (fun _ i _ => dx.length - (intOf i).toNat)
  case atStart => exact ⟨0, m, dx, Nat.zero_le _, hm, rfl, rfl, hown, Below.refl _ _, Lib.hid (Nt.len_start OX.out hm)⟩
  case round =>
    clear hown
    obtain ⟨k, c, cur, hk, hc, rfl, rfl, hown, hbel, H⟩ := hrel
    have hsz := hbel.size
    by_cases hlt : k < dx.length
    · obtain ⟨g, rfl, hgb, hcell, hfz, hset⟩ := own_at hown hlt
      have hget := Nt.len_get H.out hlt
      rw [U, List.getElem?_map, hget, Option.map_some] at hcell
      have hxb := Nt.ok_get OX.out hlt
      have ST := Lib.hid (Nt.len_step H.out hlt OX.out hb)
      have BD := Nt.len_bounds hxb hb hc
      have HSET : Hid (∀ s : Nat, (wr.setCell ⟨g, k, none⟩ (.int .u32 (s : Int))).ownsRow base 22 1 (.slice (some ⟨g, 0, none⟩) dx.length C) dx.length (U (cur.set k s))) := Lib.hid (fun s => by
        have := hset (.int .u32 (s : Int))
        rw [show (U cur).set k (.int .u32 (s : Int)) = U (cur.set k s) from List.map_set.symm] at this
        exact this)
      have HB2 : Hid (∀ s, Below base w (wr.setCell ⟨g, k, none⟩ s)) := Lib.hid (fun s => hbel.setCell hgb _)
      clear hset hget hown
      generalize dx[k] = y at *
      obtain ⟨p, hp⟩ : ∃ p, p = y * b := ⟨_, rfl⟩
      have hpi : (y : Int) * (b : Int) = (p : Int) := by rw [hp, Int.natCast_mul]
      rw [← hp] at ST BD
      obtain ⟨ht1, ht2, ht3, ht4⟩ := BD
      clear hp
      go_wp2_with fail
      exact ⟨⟨k + 1, (p + c) / 4294967296, cur.set k ((p + c) % 4294967296), by omega, ht2, by go_num, congrArg (Value.int .u64) (by omega), HSET.out _, HB2.out _, ST⟩, by simp [intOf]; omega⟩
    · obtain rfl : k = dx.length := by omega
      have hcl : Hid (cur.length = dx.length) := Lib.hid H.out.1
      by_cases hc0 : c = 0
      · subst hc0
        have HE := Lib.hid (D0.out cur H.out)
        go_wp2_with fail
        go_ret
        refine ⟨_, rfl, ?_, hbel⟩
        rw [HE.out, hcl.out]
        exact hown
      · have HE := Lib.hid (D1.out cur c H.out hc0)
        have hc1 : ((c : Int) != 0) = true := by simp; omega
        go_wp2_with (at_builtin; refine wpList_append_own _ rfl _ _ 24 rfl base 22 i0 (.int .u32 0) 1 4 Tryz.underlying24 hi hz0 hz1 hz2 rfl (by decide) _ _ _ rfl (hown.alloc _) ⟨_, 0, none⟩ 1 1 [.int .u32 (c : Int)] rfl rfl (cell_one_new _ _ _) (by intro u hu; simp only [List.mem_singleton] at hu; subst hu; rfl) (by unfold maxLen; omega) (by omega) (by simp; omega) ?_; intro v3 w3 hown3 hgrow3 hnn3)
        have hb3 : Below base w w3 := (hbel.alloc (by omega) _).grown hgrow3 (by simp; omega) (fun k hk => (hown.lt k hk).1)
        go_ret
        refine ⟨_, rfl, ?_, hb3⟩
        rw [HE.out, List.length_append, hcl.out]
        simpa [U] using hown3
end Go.Proofs.YtfiefglagknclaaGreatDoor

/-
  The library's contract of (*strings.Builder).WriteString, laid by hand: 'shelf_lay' did not find the string type in the bodies that it goes by.
-/
namespace Go.Proofs
open Go.Shelf
def YtfiefglagknclaaGreatDoorRen : Go.Shelf.Ren := ⟨fun | 166 => 45 | 240 => 81 | 276 => 107 | n => n, fun | 70 => 81 | 3 => 3 | 0 => 0 | 4 => 4 | 9 => 9 | 20 => 20 | 72 => 84 | 37 => 82 | 164 => 136 | 5 => 5 | 75 => 87 | 80 => 91 | n => n, fun | n => n⟩
theorem YtfiefglagknclaaGreatDoorLaid : Go.Proofs.Lays.n166 Tryz.prog YtfiefglagknclaaGreatDoorRen := {
  mixed := by kernel_rfl
  f166 := Tryz.func45.trans (congrArg some (by kernel_rfl))
  f240 := Tryz.func81.trans (congrArg some (by kernel_rfl))
  f276 := Tryz.func107.trans (congrArg some (by kernel_rfl))
  t0 := Tryz.underlying0
  a0 := Tryz.isAgg0
  z0 := Tryz.sizeOf0
  v0 := Tryz.zeroValue0
  t3 := Tryz.underlying3
  a3 := Tryz.isAgg3
  z3 := Tryz.sizeOf3
  v3 := Tryz.zeroValue3
  t4 := Tryz.underlying4
  a4 := Tryz.isAgg4
  z4 := Tryz.sizeOf4
  v4 := Tryz.zeroValue4
  t9 := Tryz.underlying9
  a9 := Tryz.isAgg9
  z9 := Tryz.sizeOf9
  v9 := Tryz.zeroValue9
  t20 := Tryz.underlying20
  a20 := Tryz.isAgg20
  z20 := Tryz.sizeOf20
  v20 := Tryz.zeroValue20
  t37 := Tryz.underlying82
  a37 := Tryz.isAgg82
  z37 := Tryz.sizeOf82
  v37 := Tryz.zeroValue82
  t70 := Tryz.underlying81
  a70 := Tryz.isAgg81
  z70 := Tryz.sizeOf81
  v70 := Tryz.zeroValue81
  t72 := Tryz.underlying84
  a72 := Tryz.isAgg84
  z72 := Tryz.sizeOf84
  v72 := Tryz.zeroValue84
  t75 := Tryz.underlying87
  a75 := Tryz.isAgg87
  z75 := Tryz.sizeOf87
  v75 := Tryz.zeroValue87
  t164 := Tryz.underlying136
  a164 := Tryz.isAgg136
  z164 := Tryz.sizeOf136
  v164 := Tryz.zeroValue136 }
theorem YtfiefglagknclaaGreatDoorExtra : Builder.Extra Tryz.prog YtfiefglagknclaaGreatDoorRen := {
  sizeBuilder := by kernel_rfl
  liesBuilder := by kernel_rfl
  t5 := Tryz.underlying5
  a5 := Tryz.isAgg5
  z5 := Tryz.sizeOf5
  v5 := Tryz.zeroValue5
  infoByte := by kernel_rfl
  cellsByte := by kernel_rfl
  sizeByte := by kernel_rfl
  neB5 := by decide }
namespace YtfiefglagknclaaGreatDoor
open Go.RowKit
theorem writeString_any (B b : Nat) (bs : List Value) (s : ByteArray) (w : World) (h : Lib.IsBuilder 84 5 B b bs w) (hlen : bs.length + s.size ≤ 140737488355328) (hBw : B ≤ w.heap.size) :
    Calls Tryz.prog 45 #[.pointer (some ⟨b, 0, none⟩), .string s] w fun e w' => e = .returned (.tuple #[.int .i64 s.size, .nilIface]) ∧ (Lib.BuilderAt 84 5 B b (.pointer (some ⟨b, 0, none⟩)) (bs ++ Lib.strCells s) w' ∧ Below B w w') := Any.Builder_WriteString YtfiefglagknclaaGreatDoorLaid YtfiefglagknclaaGreatDoorExtra B b bs s w h hlen hBw
end YtfiefglagknclaaGreatDoor
end Go.Proofs

/-
  Arrays as trees, plain: no program in sight. Joins of labels, equality with labels and without, erasing.
-/
namespace Ar
mutual
inductive Arr where
  | mk (S : Nat) (shape : List Int) (cells : List Cel)
inductive Cel where
  | mk (L : Nat) (kind : Int) (neg : Bool) (top bot : List Nat) (c : Int) (ins : List Arr)
end

/-! ### The join of all labels, onto what was joined before -/
mutual
def tot : Arr → Nat
  | .mk S _ cells => totCels S cells
def totCels : Nat → List Cel → Nat
  | x, [] => x
  | x, c :: r => totCels (totCel x c) r
def totCel : Nat → Cel → Nat
  | x, .mk L _ _ _ _ _ ins => totArrs (x ||| L) ins
def totArrs : Nat → List Arr → Nat
  | x, [] => x
  | x, a :: r => totArrs (x ||| tot a) r
end

/-! ### The same, with labels or without -/
mutual
def same (lab : Bool) : Arr → Arr → Bool
  | .mk S sh cs, .mk S' sh' cs' => (!lab || S == S') && (sh == sh') && sameCels lab cs cs'
def sameCels (lab : Bool) : List Cel → List Cel → Bool
  | [], [] => true
  | c :: r, c' :: r' => sameCel lab c c' && sameCels lab r r'
  | _, _ => false
def sameCel (lab : Bool) : Cel → Cel → Bool
  | .mk L k n t b c ins, .mk L' k' n' t' b' c' ins' => (!lab || L == L') && (k == k') && (c == c') && (n == n' && t == t' && b == b') && sameArrs lab ins ins'
def sameArrs (lab : Bool) : List Arr → List Arr → Bool
  | [], [] => true
  | a :: r, a' :: r' => same lab a a' && sameArrs lab r r'
  | _, _ => false
end

/-! ### Without labels -/
mutual
def erase : Arr → Arr
  | .mk _ sh cs => .mk 0 sh (eraseCels cs)
def eraseCels : List Cel → List Cel
  | [] => []
  | c :: r => eraseCel c :: eraseCels r
def eraseCel : Cel → Cel
  | .mk _ k n t b c ins => .mk 0 k n t b c (eraseArrs ins)
def eraseArrs : List Arr → List Arr
  | [] => []
  | a :: r => erase a :: eraseArrs r
end

mutual
theorem same_erase : ∀ a b : Arr, same true (erase a) (erase b) = same false a b
  | .mk _ _ cs, .mk _ _ cs' => by simp [erase, same, same_eraseCels cs cs']
theorem same_eraseCels : ∀ a b : List Cel, sameCels true (eraseCels a) (eraseCels b) = sameCels false a b
  | [], [] => by simp [sameCels, eraseCels]
  | [], _ :: _ => by simp [sameCels, eraseCels]
  | _ :: _, [] => by simp [sameCels, eraseCels]
  | c :: r, c' :: r' => by simp [eraseCels, sameCels, same_eraseCel c c', same_eraseCels r r']
theorem same_eraseCel : ∀ a b : Cel, sameCel true (eraseCel a) (eraseCel b) = sameCel false a b
  | .mk _ _ _ _ _ _ ins, .mk _ _ _ _ _ _ ins' => by simp [eraseCel, sameCel, same_eraseArrs ins ins']
theorem same_eraseArrs : ∀ a b : List Arr, sameArrs true (eraseArrs a) (eraseArrs b) = sameArrs false a b
  | [], [] => by simp [sameArrs, eraseArrs]
  | [], _ :: _ => by simp [sameArrs, eraseArrs]
  | _ :: _, [] => by simp [sameArrs, eraseArrs]
  | a :: r, a' :: r' => by simp [eraseArrs, sameArrs, same_erase a a', same_eraseArrs r r']
end

mutual
theorem same_refl (lab : Bool) : ∀ a : Arr, same lab a a = true
  | .mk _ _ cs => by simp [same, sameCels_refl lab cs]
theorem sameCels_refl (lab : Bool) : ∀ a : List Cel, sameCels lab a a = true
  | [] => by simp [sameCels]
  | c :: r => by simp [sameCels, sameCel_refl lab c, sameCels_refl lab r]
theorem sameCel_refl (lab : Bool) : ∀ a : Cel, sameCel lab a a = true
  | .mk _ _ _ _ _ _ ins => by simp [sameCel, sameArrs_refl lab ins]
theorem sameArrs_refl (lab : Bool) : ∀ a : List Arr, sameArrs lab a a = true
  | [] => by simp [sameArrs]
  | a :: r => by simp [sameArrs, same_refl lab a, sameArrs_refl lab r]
end

mutual
theorem same_symm (lab : Bool) : ∀ a b : Arr, same lab a b = true → same lab b a = true
  | .mk _ _ cs, .mk _ _ cs', h => by
    simp only [same, Bool.and_eq_true, Bool.or_eq_true, Bool.not_eq_true', beq_iff_eq] at h ⊢
    exact ⟨⟨h.1.1.imp id Eq.symm, h.1.2.symm⟩, sameCels_symm lab cs cs' h.2⟩
theorem sameCels_symm (lab : Bool) : ∀ a b : List Cel, sameCels lab a b = true → sameCels lab b a = true
  | [], [], _ => by simp [sameCels]
  | [], _ :: _, h => by simp [sameCels] at h
  | _ :: _, [], h => by simp [sameCels] at h
  | c :: r, c' :: r', h => by
    simp only [sameCels, Bool.and_eq_true] at h ⊢
    exact ⟨sameCel_symm lab c c' h.1, sameCels_symm lab r r' h.2⟩
theorem sameCel_symm (lab : Bool) : ∀ a b : Cel, sameCel lab a b = true → sameCel lab b a = true
  | .mk _ _ _ _ _ _ ins, .mk _ _ _ _ _ _ ins', h => by
    simp only [sameCel, Bool.and_eq_true, Bool.or_eq_true, Bool.not_eq_true', beq_iff_eq] at h ⊢
    exact ⟨⟨⟨⟨h.1.1.1.1.imp id Eq.symm, h.1.1.1.2.symm⟩, h.1.1.2.symm⟩, ⟨h.1.2.1.1.symm, h.1.2.1.2.symm⟩, h.1.2.2.symm⟩, sameArrs_symm lab ins ins' h.2⟩
theorem sameArrs_symm (lab : Bool) : ∀ a b : List Arr, sameArrs lab a b = true → sameArrs lab b a = true
  | [], [], _ => by simp [sameArrs]
  | [], _ :: _, h => by simp [sameArrs] at h
  | _ :: _, [], h => by simp [sameArrs] at h
  | a :: r, a' :: r', h => by
    simp only [sameArrs, Bool.and_eq_true] at h ⊢
    exact ⟨same_symm lab a a' h.1, sameArrs_symm lab r r' h.2⟩
end

mutual
theorem same_trans (lab : Bool) : ∀ a b c : Arr, same lab a b = true → same lab b c = true → same lab a c = true
  | .mk _ _ cs, .mk _ _ cs', .mk _ _ cs'', h, h' => by
    simp only [same, Bool.and_eq_true, Bool.or_eq_true, Bool.not_eq_true', beq_iff_eq] at h h' ⊢
    refine ⟨⟨?_, h.1.2.trans h'.1.2⟩, sameCels_trans lab cs cs' cs'' h.2 h'.2⟩
    rcases h.1.1 with e | e
    · exact .inl e
    · rcases h'.1.1 with e' | e'
      · exact .inl e'
      · exact .inr (e.trans e')
theorem sameCels_trans (lab : Bool) : ∀ a b c : List Cel, sameCels lab a b = true → sameCels lab b c = true → sameCels lab a c = true
  | [], [], [], _, _ => by simp [sameCels]
  | [], _ :: _, _, h, _ => by simp [sameCels] at h
  | _ :: _, [], _, h, _ => by simp [sameCels] at h
  | [], [], _ :: _, _, h => by simp [sameCels] at h
  | _ :: _, _ :: _, [], _, h => by simp [sameCels] at h
  | c :: r, c' :: r', c'' :: r'', h, h' => by
    simp only [sameCels, Bool.and_eq_true] at h h' ⊢
    exact ⟨sameCel_trans lab c c' c'' h.1 h'.1, sameCels_trans lab r r' r'' h.2 h'.2⟩
theorem sameCel_trans (lab : Bool) : ∀ a b c : Cel, sameCel lab a b = true → sameCel lab b c = true → sameCel lab a c = true
  | .mk _ _ _ _ _ _ ins, .mk _ _ _ _ _ _ ins', .mk _ _ _ _ _ _ ins'', h, h' => by
    simp only [sameCel, Bool.and_eq_true, Bool.or_eq_true, Bool.not_eq_true', beq_iff_eq] at h h' ⊢
    refine ⟨⟨⟨⟨?_, h.1.1.1.2.trans h'.1.1.1.2⟩, h.1.1.2.trans h'.1.1.2⟩, ⟨h.1.2.1.1.trans h'.1.2.1.1, h.1.2.1.2.trans h'.1.2.1.2⟩, h.1.2.2.trans h'.1.2.2⟩, sameArrs_trans lab ins ins' ins'' h.2 h'.2⟩
    rcases h.1.1.1.1 with e | e
    · exact .inl e
    · rcases h'.1.1.1.1 with e' | e'
      · exact .inl e'
      · exact .inr (e.trans e')
theorem sameArrs_trans (lab : Bool) : ∀ a b c : List Arr, sameArrs lab a b = true → sameArrs lab b c = true → sameArrs lab a c = true
  | [], [], [], _, _ => by simp [sameArrs]
  | [], _ :: _, _, h, _ => by simp [sameArrs] at h
  | _ :: _, [], _, h, _ => by simp [sameArrs] at h
  | [], [], _ :: _, _, h => by simp [sameArrs] at h
  | _ :: _, _ :: _, [], _, h => by simp [sameArrs] at h
  | a :: r, a' :: r', a'' :: r'', h, h' => by
    simp only [sameArrs, Bool.and_eq_true] at h h' ⊢
    exact ⟨same_trans lab a a' a'' h.1 h'.1, sameArrs_trans lab r r' r'' h.2 h'.2⟩
end

theorem sameCels_len (lab : Bool) : ∀ {a b : List Cel}, sameCels lab a b = true → a.length = b.length
  | [], [], _ => rfl
  | [], _ :: _, h => by simp [sameCels] at h
  | _ :: _, [], h => by simp [sameCels] at h
  | c :: r, c' :: r', h => by
    simp only [sameCels, Bool.and_eq_true] at h
    simp [sameCels_len lab h.2]
theorem sameArrs_len (lab : Bool) : ∀ {a b : List Arr}, sameArrs lab a b = true → a.length = b.length
  | [], [], _ => rfl
  | [], _ :: _, h => by simp [sameArrs] at h
  | _ :: _, [], h => by simp [sameArrs] at h
  | c :: r, c' :: r', h => by
    simp only [sameArrs, Bool.and_eq_true] at h
    simp [sameArrs_len lab h.2]
theorem eraseCels_len : ∀ a : List Cel, (eraseCels a).length = a.length
  | [] => by simp [eraseCels]
  | _ :: r => by simp [eraseCels, eraseCels_len r]
theorem eraseArrs_len : ∀ a : List Arr, (eraseArrs a).length = a.length
  | [] => by simp [eraseArrs]
  | _ :: r => by simp [eraseArrs, eraseArrs_len r]
theorem totCels_drop {cs : List Cel} {k : Nat} (h : k < cs.length) (x : Nat) : totCels x (cs.drop k) = totCels (totCel x cs[k]) (cs.drop (k + 1)) := by
  rw [List.drop_eq_getElem_cons h, totCels]
theorem totArrs_drop {cs : List Arr} {k : Nat} (h : k < cs.length) (x : Nat) : totArrs x (cs.drop k) = totArrs (x ||| tot cs[k]) (cs.drop (k + 1)) := by
  rw [List.drop_eq_getElem_cons h, totArrs]
theorem sameCels_drop (lab : Bool) {cs cs' : List Cel} {k : Nat} (h : k < cs.length) (h' : k < cs'.length) : sameCels lab (cs.drop k) (cs'.drop k) = (sameCel lab cs[k] cs'[k] && sameCels lab (cs.drop (k + 1)) (cs'.drop (k + 1))) := by
  rw [List.drop_eq_getElem_cons h, List.drop_eq_getElem_cons h', sameCels]
theorem sameArrs_drop (lab : Bool) {cs cs' : List Arr} {k : Nat} (h : k < cs.length) (h' : k < cs'.length) : sameArrs lab (cs.drop k) (cs'.drop k) = (same lab cs[k] cs'[k] && sameArrs lab (cs.drop (k + 1)) (cs'.drop (k + 1))) := by
  rw [List.drop_eq_getElem_cons h, List.drop_eq_getElem_cons h', sameArrs]
theorem eraseCels_take {cs : List Cel} {k : Nat} (h : k < cs.length) : eraseCels (cs.take (k + 1)) = eraseCels (cs.take k) ++ [eraseCel cs[k]] := by
  rw [List.take_succ_eq_append_getElem h]
  generalize cs.take k = l
  induction l with
  | nil => rfl
  | cons a r ih => simp [eraseCels, ih]
theorem eraseArrs_take {cs : List Arr} {k : Nat} (h : k < cs.length) : eraseArrs (cs.take (k + 1)) = eraseArrs (cs.take k) ++ [erase cs[k]] := by
  rw [List.take_succ_eq_append_getElem h]
  generalize cs.take k = l
  induction l with
  | nil => rfl
  | cons a r ih => simp [eraseArrs, ih]
end Ar

/-
  Arrays in memory: what it is that cells hold a tree ('IsArr'), kept from world to world.
-/
namespace Go.Proofs.YtfiefglagknclaaGreatDoor
open Go.RowKit Ar
set_option linter.unusedVariables false

/-- A slice value that holds n elements of so many bytes each. -/
def Fits (n c bytes : Nat) : Prop := n ≤ c ∧ n * bytes ≤ 140737488351232 ∧ c ≤ 9223372036854775807
theorem Fits.le {n c bytes : Nat} (h : Fits n c bytes) (hb : 1 ≤ bytes) : n ≤ c ∧ n ≤ 140737488351232 := by
  refine ⟨h.1, ?_⟩
  have h1 := Nat.mul_le_mul_left n hb
  have h2 := h.2.1
  omega
def Wf64 (l : List Int) : Prop := ∀ n ∈ l, -9223372036854775808 ≤ n ∧ n ≤ 9223372036854775807
def Wf32 (l : List Nat) : Prop := ∀ n ∈ l, n < 4294967296
def I64 (l : List Int) : List Value := l.map (Value.int .i64)
def U32 (l : List Nat) : List Value := l.map fun n : Nat => Value.int .u32 (n : Int)

mutual
/-- Three cells hold an array. -/
def IsArr (w : World) (B : Nat) : Arr → List Value → Prop
  | .mk S shape cells, vs => ∃ A c A' c' us, vs = [.int .u64 (S : Int), .slice A shape.length c, .slice A' cells.length c'] ∧ S < 18446744073709551616 ∧ Fits shape.length c 8 ∧ Fits cells.length c' 104 ∧ Wf64 shape ∧
      Lies w B A (I64 shape) ∧ Lies w B A' us ∧ IsCels w B cells us
def IsCels (w : World) (B : Nat) : List Cel → List Value → Prop
  | [], vs => vs = []
  | c :: r, vs => ∃ u t, vs = u ++ t ∧ IsCel w B c u ∧ IsCels w B r t
/-- Seven cells hold a cell. -/
def IsCel (w : World) (B : Nat) : Cel → List Value → Prop
  | .mk L kind neg top bot ch ins, vs => ∃ A c A' c' A'' c'' us, vs = [.int .u64 (L : Int), .int .i64 kind, .bool neg, .slice A top.length c, .slice A' bot.length c', .int .i64 ch, .slice A'' ins.length c''] ∧
      L < 18446744073709551616 ∧ Fits top.length c 4 ∧ Fits bot.length c' 4 ∧ Fits ins.length c'' 56 ∧ Wf64 [kind, ch] ∧ Wf32 top ∧ Wf32 bot ∧ Lies w B A (U32 top) ∧ Lies w B A' (U32 bot) ∧ Lies w B A'' us ∧ IsArrs w B ins us ∧ (A = none → c = 0) ∧ (A' = none → c' = 0)
def IsArrs (w : World) (B : Nat) : List Arr → List Value → Prop
  | [], vs => vs = []
  | a :: r, vs => ∃ u t, vs = u ++ t ∧ IsArr w B a u ∧ IsArrs w B r t
end

theorem IsArr.len {w : World} {B : Nat} {a : Arr} {vs : List Value} (h : IsArr w B a vs) : vs.length = 3 := by
  cases a; rw [IsArr] at h
  obtain ⟨A, c, A', c', us, rfl, _⟩ := h
  rfl
theorem IsCel.len {w : World} {B : Nat} {a : Cel} {vs : List Value} (h : IsCel w B a vs) : vs.length = 7 := by
  cases a; rw [IsCel] at h
  obtain ⟨A, c, A', c', A2, c2, us, rfl, _⟩ := h
  rfl

mutual
theorem IsArr.keep {w w' : World} {B B' : Nat} (hk : ∀ p : Addr, p.block < B → w'.cell? p = w.cell? p) (hB : B ≤ B') : ∀ (a : Arr) (vs : List Value), IsArr w B a vs → IsArr w' B' a vs
  | .mk S shape cells, vs, h => by
    rw [IsArr] at h ⊢
    obtain ⟨A, c, A', c', us, h1, h2, h3, h4, h5, h6, h7, h8⟩ := h
    exact ⟨A, c, A', c', us, h1, h2, h3, h4, h5, (h6.keep hk).more hB, (h7.keep hk).more hB, IsCels.keep hk hB cells us h8⟩
theorem IsCels.keep {w w' : World} {B B' : Nat} (hk : ∀ p : Addr, p.block < B → w'.cell? p = w.cell? p) (hB : B ≤ B') : ∀ (a : List Cel) (vs : List Value), IsCels w B a vs → IsCels w' B' a vs
  | [], vs, h => by rw [IsCels] at h ⊢; exact h
  | c :: r, vs, h => by
    rw [IsCels] at h ⊢
    obtain ⟨u, t, h1, h2, h3⟩ := h
    exact ⟨u, t, h1, IsCel.keep hk hB c u h2, IsCels.keep hk hB r t h3⟩
theorem IsCel.keep {w w' : World} {B B' : Nat} (hk : ∀ p : Addr, p.block < B → w'.cell? p = w.cell? p) (hB : B ≤ B') : ∀ (a : Cel) (vs : List Value), IsCel w B a vs → IsCel w' B' a vs
  | .mk L kind neg top bot ch ins, vs, h => by
    rw [IsCel] at h ⊢
    obtain ⟨A, c, A', c', A2, c2, us, h1, h2, h3, h4, h5, h6, h7, h8, h9, h10, h11, h12⟩ := h
    exact ⟨A, c, A', c', A2, c2, us, h1, h2, h3, h4, h5, h6, h7, h8, (h9.keep hk).more hB, (h10.keep hk).more hB, (h11.keep hk).more hB, IsArrs.keep hk hB ins us h12.1, h12.2⟩
theorem IsArrs.keep {w w' : World} {B B' : Nat} (hk : ∀ p : Addr, p.block < B → w'.cell? p = w.cell? p) (hB : B ≤ B') : ∀ (a : List Arr) (vs : List Value), IsArrs w B a vs → IsArrs w' B' a vs
  | [], vs, h => by rw [IsArrs] at h ⊢; exact h
  | c :: r, vs, h => by
    rw [IsArrs] at h ⊢
    obtain ⟨u, t, h1, h2, h3⟩ := h
    exact ⟨u, t, h1, IsArr.keep hk hB c u h2, IsArrs.keep hk hB r t h3⟩
end
theorem IsArr.below {w w' : World} {B : Nat} {a : Arr} {vs : List Value} (h : IsArr w B a vs) (hb : Below B w w') : IsArr w' B a vs := IsArr.keep (fun _ hp => hb.cell hp) (Nat.le_refl _) a vs h
theorem IsArr.more {w : World} {B B' : Nat} {a : Arr} {vs : List Value} (h : IsArr w B a vs) (hB : B ≤ B') : IsArr w B' a vs := IsArr.keep (fun _ _ => rfl) hB a vs h
theorem IsCel.below {w w' : World} {B : Nat} {a : Cel} {vs : List Value} (h : IsCel w B a vs) (hb : Below B w w') : IsCel w' B a vs := IsCel.keep (fun _ hp => hb.cell hp) (Nat.le_refl _) a vs h
theorem IsArrs.below {w w' : World} {B : Nat} {a : List Arr} {vs : List Value} (h : IsArrs w B a vs) (hb : Below B w w') : IsArrs w' B a vs := IsArrs.keep (fun _ hp => hb.cell hp) (Nat.le_refl _) a vs h
theorem IsCels.below {w w' : World} {B : Nat} {a : List Cel} {vs : List Value} (h : IsCels w B a vs) (hb : Below B w w') : IsCels w' B a vs := IsCels.keep (fun _ hp => hb.cell hp) (Nat.le_refl _) a vs h

theorem IsCels.at_ {w : World} {B : Nat} : ∀ {cs : List Cel} {vs : List Value} (h : IsCels w B cs vs) {k : Nat} (hk : k < cs.length), ∃ u, IsCel w B cs[k] u ∧ u = (vs.drop (7 * k)).take 7
  | [], _, _, _, hk => by simp at hk
  | c :: r, vs, h, 0, _ => by
    rw [IsCels] at h
    obtain ⟨u, t, rfl, h2, h3⟩ := h
    exact ⟨u, h2, by simp [h2.len]⟩
  | c :: r, vs, h, k + 1, hk => by
    rw [IsCels] at h
    obtain ⟨u, t, rfl, h2, h3⟩ := h
    obtain ⟨u', h4, h5⟩ := h3.at_ (k := k) (by simpa using hk)
    refine ⟨u', h4, h5.trans ?_⟩
    rw [show 7 * (k + 1) = u.length + 7 * k by rw [h2.len]; omega, List.drop_append, List.drop_eq_nil_of_le (Nat.le_add_right _ _), Nat.add_sub_cancel_left, List.nil_append]
theorem IsArrs.at_ {w : World} {B : Nat} : ∀ {cs : List Arr} {vs : List Value} (h : IsArrs w B cs vs) {k : Nat} (hk : k < cs.length), ∃ u, IsArr w B cs[k] u ∧ u = (vs.drop (3 * k)).take 3
  | [], _, _, _, hk => by simp at hk
  | c :: r, vs, h, 0, _ => by
    rw [IsArrs] at h
    obtain ⟨u, t, rfl, h2, h3⟩ := h
    exact ⟨u, h2, by simp [h2.len]⟩
  | c :: r, vs, h, k + 1, hk => by
    rw [IsArrs] at h
    obtain ⟨u, t, rfl, h2, h3⟩ := h
    obtain ⟨u', h4, h5⟩ := h3.at_ (k := k) (by simpa using hk)
    refine ⟨u', h4, h5.trans ?_⟩
    rw [show 3 * (k + 1) = u.length + 3 * k by rw [h2.len]; omega, List.drop_append, List.drop_eq_nil_of_le (Nat.le_add_right _ _), Nat.add_sub_cancel_left, List.nil_append]
theorem IsCels.len {w : World} {B : Nat} : ∀ {cs : List Cel} {vs : List Value} (h : IsCels w B cs vs), vs.length = 7 * cs.length
  | [], _, h => by rw [IsCels] at h; subst h; rfl
  | c :: r, vs, h => by
    rw [IsCels] at h
    obtain ⟨u, t, rfl, h2, h3⟩ := h
    rw [List.length_append, h2.len, h3.len, List.length_cons]; omega
theorem IsArrs.len {w : World} {B : Nat} : ∀ {cs : List Arr} {vs : List Value} (h : IsArrs w B cs vs), vs.length = 3 * cs.length
  | [], _, h => by rw [IsArrs] at h; subst h; rfl
  | c :: r, vs, h => by
    rw [IsArrs] at h
    obtain ⟨u, t, rfl, h2, h3⟩ := h
    rw [List.length_append, h2.len, h3.len, List.length_cons]; omega
theorem IsCels.snoc {w : World} {B : Nat} : ∀ {cs : List Cel} {vs : List Value} (h : IsCels w B cs vs) {c : Cel} {u : List Value} (hc : IsCel w B c u), IsCels w B (cs ++ [c]) (vs ++ u)
  | [], vs, h, c, u, hc => by
    rw [IsCels] at h; subst h
    show IsCels w B [c] _
    rw [IsCels]; exact ⟨u, [], by simp, hc, by rw [IsCels]⟩
  | x :: r, vs, h, c, u, hc => by
    rw [IsCels] at h
    obtain ⟨u', t, rfl, h2, h3⟩ := h
    show IsCels w B (x :: (r ++ [c])) _
    rw [IsCels]; exact ⟨u', t ++ u, by simp, h2, h3.snoc hc⟩
theorem IsArrs.snoc {w : World} {B : Nat} : ∀ {cs : List Arr} {vs : List Value} (h : IsArrs w B cs vs) {c : Arr} {u : List Value} (hc : IsArr w B c u), IsArrs w B (cs ++ [c]) (vs ++ u)
  | [], vs, h, c, u, hc => by
    rw [IsArrs] at h; subst h
    show IsArrs w B [c] _
    rw [IsArrs]; exact ⟨u, [], by simp, hc, by rw [IsArrs]⟩
  | x :: r, vs, h, c, u, hc => by
    rw [IsArrs] at h
    obtain ⟨u', t, rfl, h2, h3⟩ := h
    show IsArrs w B (x :: (r ++ [c])) _
    rw [IsArrs]; exact ⟨u', t ++ u, by simp, h2, h3.snoc hc⟩

/-- The cells of the k-th element of a row of elements of so many cells each. -/
theorem Lies.elem {w : World} {B : Nat} {A : Option Addr} {vs : List Value} (h : Lies w B A vs) {m k : Nat} {u : List Value} (hu : u = (vs.drop (m * k)).take m) (hn : u ≠ []) :
    ∃ b off, A = some ⟨b, off, none⟩ ∧ b < B ∧ ∀ j v, u[j]? = some v → w.cell? ⟨b, off + k * m + j, none⟩ = some v := by
  rcases h with h | ⟨b, off, hA, hb, hc⟩
  · subst h; simp at hu; exact absurd hu hn
  · refine ⟨b, off, hA, hb, fun j v hv => ?_⟩
    have := hc (k * m + j) v (by
      rw [hu, List.getElem?_take] at hv
      split at hv
      · rw [List.getElem?_drop] at hv; rw [← hv, Nat.mul_comm]
      · cases hv)
    rw [← this, Nat.add_assoc]

/-- What stands behind the slices of a cell. -/
structure CelIn (w : World) (B : Nat) (ce : Cel) (L : Nat) (kind : Int) (neg : Bool) (top bot : List Nat) (ch : Int) (ins : List Arr) (A1 A2 A3 : Option Addr) (c1 c2 c3 : Nat) (us : List Value) : Prop where
  eq : ce = .mk L kind neg top bot ch ins
  lt : Lies w B A1 (U32 top)
  lb : Lies w B A2 (U32 bot)
  li : Lies w B A3 us
  arrs : IsArrs w B ins us
  wt : Wf32 top
  wb : Wf32 bot
  wk : Wf64 [kind, ch]
  ft : Fits top.length c1 4
  fb : Fits bot.length c2 4
  fi : Fits ins.length c3 56
  nt : A1 = none → c1 = 0
  nb : A2 = none → c2 = 0
/-- The k-th cell of an array, read. -/
theorem cel_at {w wr : World} {B : Nat} {A : Option Addr} {cells : List Cel} {us : List Value} {k : Nat} (hcs : IsCels w B cells us) (hl : Lies w B A us) (hk : ∀ p : Addr, p.block < B → wr.cell? p = w.cell? p) (hlt : k < cells.length) :
    ∃ b off L kind neg top bot ch ins A1 c1 A2 c2 A3 c3 us3, A = some ⟨b, off, none⟩ ∧ b < B ∧ L < 18446744073709551616 ∧ Hid (CelIn w B cells[k] L kind neg top bot ch ins A1 A2 A3 c1 c2 c3 us3) ∧
      top.length ≤ c1 ∧ top.length ≤ 35184372088832 ∧ bot.length ≤ c2 ∧ bot.length ≤ 35184372088832 ∧ ins.length ≤ c3 ∧ ins.length ≤ 35184372088832 ∧
      wr.cell? ⟨b, off + k * 7, none⟩ = some (.int .u64 (L : Int)) ∧ wr.cell? ⟨b, off + k * 7 + 1, none⟩ = some (.int .i64 kind) ∧ wr.cell? ⟨b, off + k * 7 + 2, none⟩ = some (.bool neg) ∧
      wr.cell? ⟨b, off + k * 7 + 3, none⟩ = some (.slice A1 top.length c1) ∧ wr.cell? ⟨b, off + k * 7 + 4, none⟩ = some (.slice A2 bot.length c2) ∧ wr.cell? ⟨b, off + k * 7 + 5, none⟩ = some (.int .i64 ch) ∧
      wr.cell? ⟨b, off + k * 7 + 6, none⟩ = some (.slice A3 ins.length c3) := by
  obtain ⟨u, hu, hue⟩ := hcs.at_ hlt
  obtain ⟨b, off, rfl, hb, hcell⟩ := hl.elem hue (by intro h; have := hu.len; rw [h] at this; cases this)
  obtain ⟨ce, hce⟩ : ∃ ce, ce = cells[k] := ⟨_, rfl⟩
  rw [← hce] at hu ⊢
  obtain ⟨L, kind, neg, top, bot, ch, ins⟩ := ce
  rw [IsCel] at hu
  obtain ⟨A1, c1, A2, c2, A3, c3, us3, rfl, hL, hf1, hf2, hf3, hw1, hw2, hw3, hl1, hl2, hl3, hins, hnt, hnb⟩ := hu
  have hc : ∀ j v, [Value.int .u64 (L : Int), .int .i64 kind, .bool neg, .slice A1 top.length c1, .slice A2 bot.length c2, .int .i64 ch, .slice A3 ins.length c3][j]? = some v → wr.cell? ⟨b, off + k * 7 + j, none⟩ = some v := fun j v hv => (hk ⟨b, off + k * 7 + j, none⟩ hb).trans (hcell j v hv)
  have h1 := hf1.2
  have h2 := hf2.2
  have h3 := hf3.2
  exact ⟨b, off, L, kind, neg, top, bot, ch, ins, A1, c1, A2, c2, A3, c3, us3, rfl, hb, hL, Lib.hid ⟨rfl, hl1, hl2, hl3, hins, hw2, hw3, hw1, hf1, hf2, hf3, hnt, hnb⟩, hf1.1, by omega, hf2.1, by omega, hf3.1, by omega, hc 0 _ rfl, hc 1 _ rfl, hc 2 _ rfl, hc 3 _ rfl, hc 4 _ rfl, hc 5 _ rfl, hc 6 _ rfl⟩
/-- The form of an array's three cells. -/
theorem IsArr.form {w : World} {B : Nat} {a : Arr} {vs : List Value} (h : IsArr w B a vs) : ∃ (S : Nat) (A : Option Addr) (n c : Nat) (A' : Option Addr) (n' c' : Nat), vs = [.int .u64 (S : Int), .slice A n c, .slice A' n' c'] := by
  cases a; rw [IsArr] at h
  obtain ⟨A, c, A', c', us, rfl, _⟩ := h
  exact ⟨_, _, _, _, _, _, _, rfl⟩
/-- The k-th array of a list of arrays, read. -/
theorem arr_at {w wr : World} {B : Nat} {A : Option Addr} {arrs : List Arr} {us : List Value} {k : Nat} (hcs : IsArrs w B arrs us) (hl : Lies w B A us) (hk : ∀ p : Addr, p.block < B → wr.cell? p = w.cell? p) (hlt : k < arrs.length) :
    ∃ (b off S' : Nat) (X : Option Addr) (n c : Nat) (X' : Option Addr) (n' c' : Nat), A = some ⟨b, off, none⟩ ∧ b < B ∧ Hid (IsArr w B arrs[k] [.int .u64 (S' : Int), .slice X n c, .slice X' n' c']) ∧ wr.cell? ⟨b, off + k * 3, none⟩ = some (.int .u64 (S' : Int)) ∧ wr.cell? ⟨b, off + k * 3 + 1, none⟩ = some (.slice X n c) ∧ wr.cell? ⟨b, off + k * 3 + 2, none⟩ = some (.slice X' n' c') := by
  obtain ⟨u, hu, hue⟩ := hcs.at_ hlt
  obtain ⟨b, off, rfl, hb, hcell⟩ := hl.elem hue (by intro h; have := hu.len; rw [h] at this; cases this)
  obtain ⟨S, X, n, c, X', n', c', rfl⟩ := hu.form
  have hc : ∀ j v, [Value.int .u64 (S : Int), .slice X n c, .slice X' n' c'][j]? = some v → wr.cell? ⟨b, off + k * 3 + j, none⟩ = some v := fun j v hv => (hk ⟨b, off + k * 3 + j, none⟩ hb).trans (hcell j v hv)
  exact ⟨b, off, S, X, n, c, X', n', c', rfl, hb, Lib.hid hu, hc 0 _ rfl, hc 1 _ rfl, hc 2 _ rfl⟩
mutual
theorem tot_lt {w : World} {B : Nat} : ∀ (a : Arr) (vs : List Value), IsArr w B a vs → tot a < 18446744073709551616
  | .mk S shape cells, vs, h => by
    rw [IsArr] at h
    obtain ⟨A, c, A', c', us, h1, h2, h3, h4, h5, h6, h7, h8⟩ := h
    exact totCels_lt cells us S h8 h2
theorem totCels_lt {w : World} {B : Nat} : ∀ (a : List Cel) (vs : List Value) (x : Nat), IsCels w B a vs → x < 18446744073709551616 → totCels x a < 18446744073709551616
  | [], vs, x, h, hx => by rw [totCels]; exact hx
  | c :: r, vs, x, h, hx => by
    rw [IsCels] at h
    obtain ⟨u, t, h1, h2, h3⟩ := h
    rw [totCels]
    exact totCels_lt r t _ h3 (totCel_lt c u x h2 hx)
theorem totCel_lt {w : World} {B : Nat} : ∀ (a : Cel) (vs : List Value) (x : Nat), IsCel w B a vs → x < 18446744073709551616 → totCel x a < 18446744073709551616
  | .mk L kind neg top bot ch ins, vs, x, h, hx => by
    rw [IsCel] at h
    obtain ⟨A, c, A', c', A2, c2, us, h1, h2, h3, h4, h5, h6, h7, h8, h9, h10, h11, h12⟩ := h
    rw [totCel]
    exact totArrs_lt ins us _ h12.1 (Nat.or_lt_two_pow (n := 64) hx h2)
theorem totArrs_lt {w : World} {B : Nat} : ∀ (a : List Arr) (vs : List Value) (x : Nat), IsArrs w B a vs → x < 18446744073709551616 → totArrs x a < 18446744073709551616
  | [], vs, x, h, hx => by rw [totArrs]; exact hx
  | c :: r, vs, x, h, hx => by
    rw [IsArrs] at h
    obtain ⟨u, t, h1, h2, h3⟩ := h
    rw [totArrs]
    exact totArrs_lt r t _ h3 (Nat.or_lt_two_pow (n := 64) hx (tot_lt c u h2))
end
theorem size_ins {S : Nat} {shape : List Int} {cells : List Cel} {k : Nat} (hk : k < cells.length) {L : Nat} {kind : Int} {neg : Bool} {top bot : List Nat} {ch : Int} {ins : List Arr} (he : cells[k] = .mk L kind neg top bot ch ins) {i : Nat} (hi : i < ins.length) :
    SizeOf.sizeOf ins[i] < SizeOf.sizeOf (Arr.mk S shape cells) := by
  have h1 := List.sizeOf_lt_of_mem (List.getElem_mem hi)
  have h2 := List.sizeOf_lt_of_mem (List.getElem_mem hk)
  rw [he] at h2
  simp only [Arr.mk.sizeOf_spec, Cel.mk.sizeOf_spec] at *
  omega
end Go.Proofs.YtfiefglagknclaaGreatDoor

/-
  Lists compared: slices.Equal, and the reference's. (Printed by wip/bin/gen_same1.py.)
-/
namespace Go.Proofs.YtfiefglagknclaaGreatDoor
open Go.RowKit Ar
set_option maxHeartbeats 1000000
set_option linter.unusedVariables false

theorem beq_at {α : Type} [BEq α] [LawfulBEq α] {l l' : List α} {k : Nat} (h : k < l.length) (h' : k < l'.length) (hne : l[k] ≠ l'[k]) : (l == l') = false := by
  rw [beq_eq_false_iff_ne]
  rintro rfl
  exact hne rfl
theorem beq_take {α : Type} [BEq α] [LawfulBEq α] {l l' : List α} {k : Nat} (hl : l.length = l'.length) (hk : k = l.length) (h : l.take k = l'.take k) : (l == l') = true := by
  rw [beq_iff_eq]
  rwa [hk, List.take_length, hl, List.take_length] at h
theorem beq_len {α : Type} [BEq α] [LawfulBEq α] {l l' : List α} (h : l.length ≠ l'.length) : (l == l') = false := by
  rw [beq_eq_false_iff_ne]
  rintro rfl
  exact h rfl
theorem take_more {α : Type} {l l' : List α} {k : Nat} (h : k < l.length) (h' : k < l'.length) (he : l.take k = l'.take k) (hk : l[k] = l'[k]) : l.take (k + 1) = l'.take (k + 1) := by
  rw [List.take_succ_eq_append_getElem h, List.take_succ_eq_append_getElem h', he, hk]
theorem below_drewN' {B : Nat} {w w' : World} (h : Below B w w') (n : Nat) : Below B w (w'.drewN n) := ⟨h.os, h.tape, h.output, h.size, h.block⟩
theorem lies_i64 {w : World} {B : Nat} {A : Option Addr} {l : List Int} (h : Lies w B A (I64 l)) {k : Nat} (hk : k < l.length) : ∃ b off, A = some ⟨b, off, none⟩ ∧ b < B ∧ w.cell? ⟨b, off + k, none⟩ = some (.int .i64 l[k]) := by
  obtain ⟨b, off, h1, h2, h3⟩ := h.at_ (k := k) (by simpa [I64] using hk)
  exact ⟨b, off, h1, h2, by rw [h3]; simp [I64]⟩
theorem lies_u32 {w : World} {B : Nat} {A : Option Addr} {l : List Nat} (h : Lies w B A (U32 l)) {k : Nat} (hk : k < l.length) : ∃ b off, A = some ⟨b, off, none⟩ ∧ b < B ∧ w.cell? ⟨b, off + k, none⟩ = some (.int .u32 (l[k] : Int)) := by
  obtain ⟨b, off, h1, h2, h3⟩ := h.at_ (k := k) (by simpa [U32] using hk)
  exact ⟨b, off, h1, h2, by rw [h3]; simp [U32]⟩

theorem refSame2_any (l l' : List Nat) (A A' : Option Addr) (c c' : Nat) (w : World) (B : Nat) (hA : Lies w B A (U32 l)) (hA' : Lies w B A' (U32 l')) (hn : l.length ≤ 9223372036854775807) (hn' : l'.length ≤ 9223372036854775807) :
    Calls Tryz.prog 30 #[.slice A l.length c, .slice A' l'.length c'] w fun e w' => e = .returned (.bool (l == l')) ∧ Below w.heap.size w w' := by
  have HA := Lib.hid hA
  have HA' := Lib.hid hA'
  clear hA hA'
  by_cases hne : l.length = l'.length
  · have hd : (l.length != l'.length) = false := by simpa using hne
    have hln : l.length ≤ l'.length := by omega
    have HN := Lib.hid hne
    clear hne
    go_enter Tryz.func30, Tryz.ntmps30
    go_wp2_with fail
    go_loopw [5] (fun i wr => ∃ k n : Nat, k ≤ l.length ∧ i = .int .i64 k ∧ wr = w.drewN n ∧ Hid (l.take k = l'.take k)) (fun i _ => l.length - (intOf i).toNat)
    case atStart => exact ⟨0, 0, Nat.zero_le _, rfl, rfl, Lib.hid rfl⟩
    case round =>
      obtain ⟨k, n, hk, rfl, rfl, HT⟩ := hrel
      by_cases hlt : k < l.length
      · have hlt' : k < l'.length := by omega
        obtain ⟨b, off, rfl, hb, g0⟩ := lies_u32 HA.out hlt
        obtain ⟨b', off', rfl, hb', g1⟩ := lies_u32 HA'.out hlt'
        have HM := Lib.hid (take_more hlt hlt' HT.out)
        have HZ := Lib.hid (beq_at (l := l) (l' := l') hlt hlt')
        generalize l[k] = x at g0 HM HZ
        generalize l'[k] = y at g1 HM HZ
        have hk0 : (0 : Int) ≤ (k : Int) := by omega
        have hk1 : (k : Int) < (l.length : Int) := by omega
        have hk2 : (k : Int) < (l'.length : Int) := by omega
        by_cases hxy : x = y
        · subst hxy
          have e1 : (x != x) = false := by simp
          have HM2 := Lib.hid (HM.out rfl)
          clear HM HZ
          go_wp2_with fail
          go_quiet (fail)
          go_wp2_with fail
          go_roundw
          case rel => exact ⟨k + 1, n + nq, by omega, by go_num, rfl, HM2⟩
          case measure => simp [intOf]; omega
        · have e1 : (x != y) = true := by simpa using hxy
          have HZ2 := Lib.hid (HZ.out hxy)
          have e2 : ((x : Int) != (y : Int)) = true := by simp; omega
          clear HM HZ hxy
          go_wp2_with fail
          go_quiet (fail)
          go_wp2_with fail
          go_ret
          exact ⟨ret_bool (by rw [HZ2.out]), below_drewN' (below_drewN' (Below.refl _ _) _) _⟩
      · have hke : k = l.length := by omega
        have HZ2 := Lib.hid (beq_take HN.out hke HT.out)
        clear hke HT
        go_wp2_with fail
        go_ret
        exact ⟨ret_bool (by rw [HZ2.out]), below_drewN' (Below.refl _ _) _⟩
  · have hd : (l.length != l'.length) = true := by simpa using hne
    have HZ2 := Lib.hid (beq_len hne)
    clear hne
    go_enter Tryz.func30, Tryz.ntmps30
    go_wp2_with fail
    go_ret
    exact ⟨ret_bool (by rw [HZ2.out]), Below.refl _ _⟩
end Go.Proofs.YtfiefglagknclaaGreatDoor
