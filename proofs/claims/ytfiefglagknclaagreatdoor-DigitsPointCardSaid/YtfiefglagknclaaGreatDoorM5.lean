/-
  Texts of this proof, joined (by wip/bin/bundle.py): Same2, RegMake, GlyMath, TokMath, Tok1, GlyMath2, TokMath2, Tok2, GlyMath3.
-/
import Derived.Test.YtfiefglagknclaaGreatDoorM4
import GoSem.Core.Utf8
import Derived.Lib.Strings
/-
  Numbers compared: ratio.Same, and the reference's. (Printed by wip/bin/gen_same2.py.)
-/
namespace Go.Proofs.YtfiefglagknclaaGreatDoor
open Go.RowKit Ar
set_option maxHeartbeats 1000000
set_option linter.unusedVariables false

/-- Whether two numbers' fields are the same. -/
def sameNum (n n' : Bool) (t t' b b' : List Nat) : Bool := (n == n') && (t == t') && (b == b')

theorem refRatioSame_any (n n' : Bool) (t t' b b' : List Nat) (A1 A2 A1' A2' : Option Addr) (c1 c2 c1' c2' : Nat) (w : World) (B : Nat) (h1 : Lies w B A1 (U32 t)) (h1' : Lies w B A1' (U32 t')) (h2 : Lies w B A2 (U32 b)) (h2' : Lies w B A2' (U32 b')) (hB : B ≤ w.heap.size)
    (k1 : t.length ≤ 9223372036854775807) (k1' : t'.length ≤ 9223372036854775807) (k2 : b.length ≤ 9223372036854775807) (k2' : b'.length ≤ 9223372036854775807) :
    Calls Tryz.prog 10 #[.agg #[.bool n, .slice A1 t.length c1, .slice A2 b.length c2], .agg #[.bool n', .slice A1' t'.length c1', .slice A2' b'.length c2']] w fun e w' => e = .returned (.bool (sameNum n n' t t' b b')) ∧ Below w.heap.size w w' := by
  have E1 := Lib.hid (fun (wx : World) (hx : Below w.heap.size w wx) => refSame2_any t t' A1 A1' c1 c1' wx B (h1.below (hx.mono hB)) (h1'.below (hx.mono hB)) k1 k1')
  have E2 := Lib.hid (fun (wx : World) (hx : Below w.heap.size w wx) => refSame2_any b b' A2 A2' c2 c2' wx B (h2.below (hx.mono hB)) (h2'.below (hx.mono hB)) k2 k2')
  have HR : Hid (sameNum n n' t t' b b' = ((n == n') && (t == t') && (b == b'))) := Lib.hid rfl
  clear h1 h1' h2 h2'
  generalize sameNum n n' t t' b b' = R at *
  generalize (t == t') = x at *
  generalize (b == b') = y at *
  cases hnn : (n == n')
  · rw [hnn] at HR
    go_enter Tryz.func10, Tryz.ntmps10
    go_wp2_with fail
    go_ret
    exact ⟨ret_bool (by rw [HR.out]; simp), ((Below.refl _ _).alloc (Nat.le_refl _) _).alloc (by simp) _⟩
  · rw [hnn] at HR
    go_enter Tryz.func10, Tryz.ntmps10
    go_wp2_with fail
    have hb0 : Below w.heap.size w ((w.alloc (.cells #[.bool n, .slice A1 t.length c1, .slice A2 b.length c2] 26)).alloc (.cells #[.bool n', .slice A1' t'.length c1', .slice A2' b'.length c2'] 26)) := ((Below.refl _ _).alloc (Nat.le_refl _) _).alloc (by simp) _
    refine (E1.out _ hb0).mono ?_
    rintro e w2 ⟨rfl, hb2⟩
    have hb3 := hb0.trans (hb2.mono hb0.size)
    obtain ⟨hc, hfz⟩ : (∀ o, w2.cell? ⟨w.heap.size, o, none⟩ = _) ∧ (∀ o, w2.cell? ⟨w.heap.size + 1, o, none⟩ = _) := ⟨fun o => hb2.cell (p := ⟨w.heap.size, o, none⟩) (by show w.heap.size < _; simp; omega), fun o => hb2.cell (p := ⟨w.heap.size + 1, o, none⟩) (by show w.heap.size + 1 < _; simp)⟩
    cases x
    · go_wp2_with fail
      go_ret
      exact ⟨ret_bool (by rw [HR.out]; simp), hb3⟩
    · go_wp2_with fail
      refine (E2.out _ hb3).mono ?_
      rintro e w3 ⟨rfl, hb4⟩
      clear hc hfz
      go_wp2_with fail
      go_ret
      exact ⟨ret_bool (by rw [HR.out]; simp), hb3.trans (hb4.mono hb3.size)⟩
end Go.Proofs.YtfiefglagknclaaGreatDoor

/-
  As XRegPred, for a region with one store into a block that the region itself makes: the alloc comes up whenever it likes, the operations that the store does not wait for know nothing of the world.
-/
namespace Go.Proofs.YtfiefglagknclaaGreatDoor
open Go.RowKit
set_option linter.unusedVariables false

section
variable {P : Program} {ops : Array Oper} {Q : Exit → Act → World → Prop} {md : Region.Mode}
/-- The store's outcome: all that came before it is known anew. -/
def Made (frame : (Nat → Value) → Act) (w0 : World) (R2 : Nat → World → Value → Prop) (D : Nat → Bool) (xs : Nat → Value) (a' : Act) (w' : World) : Prop := a' = frame xs ∧ Below w0.heap.size w0 w' ∧ ∀ j, D j = true → R2 j w' (xs j)
theorem wpAny_make (frame : (Nat → Value) → Act) (w0 : World) (R R2 : Nat → World → Value → Prop) (s : Nat)
    (hR : ∀ i w w' v, R i w v → Below w.heap.size w w' → R i w' v)
    (hR2 : ∀ i w w' v, R2 i w v → Below w.heap.size w w' → R2 i w' v)
    (hlate : ∀ i w w' v, i ≠ s → depB md ops s i = false → R i w v → R2 i w' v)
    (step : ∀ i xs w, i < ops.size → i ≠ s → Below w0.heap.size w0 w → (∀ j, j ≠ s → depB md ops i j = true → R j w (xs j)) → wpOp P ops Q i (Yields frame R xs i w) (frame xs) w)
    (step2 : ∀ i xs w, i < ops.size → i ≠ s → depB md ops s i = false → Below w0.heap.size w0 w → (∀ j, j ≠ s → depB md ops i j = true → R2 j w (xs j)) → wpOp P ops Q i (Yields frame R2 xs i w) (frame xs) w)
    (store : ∀ xs w, Below w0.heap.size w0 w → (∀ j, depB md ops s j = true → R j w (xs j)) → wpOp P ops Q s (Made frame w0 R2 (depB md ops s) xs) (frame xs) w)
    (done : ∀ xs w, Below w0.heap.size w0 w → (∀ i, i < ops.size → i ≠ s → R2 i w (xs i)) → Q .normal (frame xs) w)
    (hs : s < ops.size) (hops : ∀ i, i < ops.size → ∀ o, ops[i]? = some o → ∀ e ∈ o.after, Region.binds md e = true → e.on < i)
    (xs0 : Nat → Value) (w1 : World) (hw1 : Below w0.heap.size w0 w1) : wpAny P md ops Q ops.size (Array.replicate ops.size false) (frame xs0) w1 := by
  refine wpAny_inv (fun l a w => l.size = ops.size ∧ Below w0.heap.size w0 w ∧ ∃ xs, a = frame xs ∧ (l[s]? = some false → ∀ i, i < ops.size → i ≠ s → l[i]? = some true → R i w (xs i)) ∧ (l[s]? = some true → (∀ j, depB md ops s j = true → l[j]? = some true) ∧ ∀ i, i < ops.size → i ≠ s → l[i]? = some true → R2 i w (xs i))) ?_ ?_ ops.size _ _ _ (by simp)
    ⟨by simp, hw1, xs0, rfl, fun _ i hi _ h => by simp [hi] at h, fun h => by simp [hs] at h⟩
  · rintro l a w ⟨hl, hb, xs, rfl, hx, hx2⟩ i hi
    obtain ⟨h1, h2, h3⟩ := ready_mem hi
    have hli : l[i]? = some false := by
      rw [Array.getD_eq_getD_getElem?] at h2
      rw [Array.getElem?_eq_getElem (by omega)] at h2 ⊢
      simp at h2; rw [h2]
    have hlt : ∀ j, depB md ops i j = true → j < i := by
      intro j hj
      unfold depB at hj
      rw [Array.getElem?_eq_getElem h1] at hj
      simp only [List.any_eq_true, Bool.and_eq_true, beq_iff_eq] at hj
      obtain ⟨e, he', rfl, hbi⟩ := hj
      exact hops i h1 _ (Array.getElem?_eq_getElem h1) e (by simpa using he') hbi
    have hlj : ∀ j, depB md ops i j = true → l[j]? = some true := fun j hj => getD_true (depB_listed h3 hj)
    by_cases e : i = s
    · subst e
      refine wpOp_mono ?_ (store xs w hb (fun j hj => hx hli j (by have := hlt j hj; omega) (by have := hlt j hj; omega) (hlj j hj)))
      rintro a' w' ⟨rfl, hb', hr2⟩
      refine ⟨by simpa using hl, hb', xs, rfl, fun h => ?_, fun _ => ⟨fun j hj => ?_, fun j hj hjs hlj' => ?_⟩⟩
      · rw [Array.getElem?_setIfInBounds_self_of_lt (by omega)] at h; cases h
      · rw [Array.getElem?_setIfInBounds_ne (by have := hlt j hj; omega)]; exact hlj j hj
      · rw [Array.getElem?_setIfInBounds_ne (fun h => hjs h.symm)] at hlj'
        cases hd : depB md ops i j
        · exact hlate j w w' _ hjs hd (hx hli j hj hjs hlj')
        · exact hr2 j hd
    · cases hls : l[s]? with
      | none => rw [Array.getElem?_eq_none_iff] at hls; omega
      | some b =>
        cases b
        · refine wpOp_mono ?_ (step i xs w h1 e hb (fun j hjs hj => hx hls j (by have := hlt j hj; omega) hjs (hlj j hj)))
          rintro a' w' ⟨v, rfl, hv, hb'⟩
          refine ⟨by simpa using hl, hb.trans (hb'.mono hb.size), upd xs i v, rfl, fun h j hj hjs hlj' => ?_, fun h => ?_⟩
          · by_cases e' : j = i
            · subst e'; simp only [upd, if_true]; exact hv
            · simp only [upd, if_neg e']
              rw [Array.getElem?_setIfInBounds_ne (fun h => e' h.symm)] at hlj'
              exact hR j w w' _ (hx hls j hj hjs hlj') hb'
          · rw [Array.getElem?_setIfInBounds_ne e, hls] at h; cases h
        · obtain ⟨ha, hx2'⟩ := hx2 hls
          have his : depB md ops s i = false := by
            cases hd : depB md ops s i
            · rfl
            · rw [ha i hd] at hli; cases hli
          refine wpOp_mono ?_ (step2 i xs w h1 e his hb (fun j hjs hj => hx2' j (by have := hlt j hj; omega) hjs (hlj j hj)))
          rintro a' w' ⟨v, rfl, hv, hb'⟩
          refine ⟨by simpa using hl, hb.trans (hb'.mono hb.size), upd xs i v, rfl, fun h => ?_, fun _ => ⟨fun j hj => ?_, fun j hj hjs hlj' => ?_⟩⟩
          · rw [Array.getElem?_setIfInBounds_ne e, hls] at h; cases h
          · rw [Array.getElem?_setIfInBounds_ne (fun h => by subst h; rw [his] at hj; cases hj)]; exact ha j hj
          · by_cases e' : j = i
            · subst e'; simp only [upd, if_true]; exact hv
            · simp only [upd, if_neg e']
              rw [Array.getElem?_setIfInBounds_ne (fun h => e' h.symm)] at hlj'
              exact hR2 j w w' _ (hx2' j hj hjs hlj') hb'
  · rintro l a w ⟨hl, hb, xs, rfl, hx, hx2⟩ hr
    have hall : ∀ n i, i < n → i < ops.size → l[i]? = some true := by
      intro n
      induction n with
      | zero => intro i h; omega
      | succ n ih =>
        intro i hi his
        by_cases e : i < n
        · exact ih i e his
        · have hie : i = n := by omega
          subst hie
          cases h : l[i]? with
          | none => rw [Array.getElem?_eq_none_iff] at h; omega
          | some b =>
            cases b
            · exfalso
              have : i ∈ Region.ready md ops l := by
                simp only [Region.ready, List.mem_filter, List.mem_range, Bool.and_eq_true, Bool.not_eq_true']
                refine ⟨his, by rw [Array.getD_eq_getD_getElem?, h]; rfl, ?_⟩
                rw [Array.getElem?_eq_getElem his]
                simp only [Option.map_some, Option.getD_some, Array.all_eq_true_iff_forall_mem]
                intro e he
                cases hbi : Region.binds md e
                · simp
                · have hlt := hops i his _ (Array.getElem?_eq_getElem his) e he hbi
                  rw [Array.getD_eq_getD_getElem?, ih e.on hlt (by omega)]
                  simp
              rw [hr] at this; cases this
            · rfl
    exact done xs w hb (fun i hi hne => (hx2 (hall (s + 1) s (by omega) hs)).2 i hi hne (hall (i + 1) i (by omega) hi))
theorem wp_region_make (frame : (Nat → Value) → Act) (w0 : World) (R R2 : Nat → World → Value → Prop) (s : Nat) {id : Nat} {a : Act} {w : World} (hm : P.follows .mixedOrders = true) (hs : decide (s < ops.size) = true)
    (hops : ops.toList.zipIdx.all (fun p => p.1.after.all fun e => !Region.binds .any e || decide (e.on < p.2)) = true)
    (hR : ∀ i w w' v, R i w v → Below w.heap.size w w' → R i w' v)
    (hR2 : ∀ i w w' v, R2 i w v → Below w.heap.size w w' → R2 i w' v)
    (hlate : ∀ i w w' v, i ≠ s → depB .any ops s i = false → R i w v → R2 i w' v)
    (xs0 : Nat → Value) (ha : a = frame xs0) (hw : Below w0.heap.size w0 w)
    (step : ∀ i xs w, i < ops.size → i ≠ s → Below w0.heap.size w0 w → (∀ j, j ≠ s → depB .any ops i j = true → R j w (xs j)) → wpOp P ops Q i (Yields frame R xs i w) (frame xs) w)
    (step2 : ∀ i xs w, i < ops.size → i ≠ s → depB .any ops s i = false → Below w0.heap.size w0 w → (∀ j, j ≠ s → depB .any ops i j = true → R2 j w (xs j)) → wpOp P ops Q i (Yields frame R2 xs i w) (frame xs) w)
    (store : ∀ xs w, Below w0.heap.size w0 w → (∀ j, depB .any ops s j = true → R j w (xs j)) → wpOp P ops Q s (Made frame w0 R2 (depB .any ops s) xs) (frame xs) w)
    (done : ∀ xs w, Below w0.heap.size w0 w → (∀ i, i < ops.size → i ≠ s → R2 i w (xs i)) → Q .normal (frame xs) w) : (Code.region id ops true).wp P Q a w := by
  subst ha
  refine wp_region_any hm (wpAny_make frame w0 R R2 s hR hR2 hlate step step2 store done (of_decide_eq_true hs) ?_ xs0 _ ?_)
  · intro i hi o ho e he hbi
    rw [List.all_eq_true] at hops
    have h := hops (o, i) (by
      rw [List.mem_zipIdx_iff_getElem?]
      simpa using ho)
    rw [Array.all_eq_true_iff_forall_mem] at h
    have h' := h e he
    rw [hbi] at h'
    simpa using h'
  · exact ⟨hw.os, hw.tape, hw.output, hw.size, hw.block⟩
end
end Go.Proofs.YtfiefglagknclaaGreatDoor

/-
  Characters and bytes, plain: how one is read of bytes, by Go's range and by the document's guess.
-/
namespace Gl
open Go
/-- A byte, as a number. -/
def by_ (s : ByteArray) (i : Nat) : Nat := (s.get! i).toNat
theorem by_lt (s : ByteArray) (i : Nat) : by_ s i < 256 := by unfold by_; exact UInt8.toNat_lt _
/-- May a number be a character's? -/
def may (c : Int) : Bool := decide (0 ≤ c) && decide (c ≤ 1114111) && (decide (c < 55296) || decide (57343 < c))
theorem may_valid (c : Nat) : Utf8.valid (c : Int) = may (c : Int) := by
  unfold Utf8.valid may
  rw [Bool.eq_iff_iff]
  simp only [Bool.or_eq_true, Bool.and_eq_true, decide_eq_true_eq]
  omega
/-- How many bytes a first byte promises, and what it brings; none: it begins nothing. -/
def first (b : Nat) : Option (Nat × Nat) := if 240 ≤ b then some (b - 240, 4) else if 224 ≤ b then some (b - 224, 3) else if 192 ≤ b then some (b - 192, 2) else if 128 ≤ b then none else some (b, 1)
/-- The document's guess from the i-th byte on: so many are left to read. -/
def more (s : ByteArray) (c : Nat) : Nat → Nat → Option Nat
  | _, 0 => some c
  | i, k + 1 => if by_ s i < 128 ∨ 191 < by_ s i then none else more s (64 * c + by_ s i - 128) (i + 1) k
def guess (s : ByteArray) (at_ : Nat) : Option (Nat × Nat) :=
  match first (by_ s at_) with
  | none => none
  | some (c, n) => if s.size - at_ < n then none else (more s c (at_ + 1) (n - 1)).map fun c => (c, n)
/-- How many bytes a character has. -/
def wide (c : Nat) : Nat := if c < 128 then 1 else if c < 2048 then 2 else if c < 65536 then 3 else 4
/-- A character's bytes. -/
def one (c : Nat) : List Nat :=
  if c < 128 then [c] else if c < 2048 then [192 + c / 64, 128 + c % 64] else if c < 65536 then [224 + c / 4096, 128 + c / 64 % 64, 128 + c % 64] else [240 + c / 262144, 128 + c / 4096 % 64, 128 + c / 64 % 64, 128 + c % 64]
theorem one_len (c : Nat) : (one c).length = wide c := by unfold one wide; split <;> (try rfl); split <;> (try rfl); split <;> rfl
/-- The character that is read, by Go's range: none, where it is none's. -/
def read (s : ByteArray) (at_ : Nat) : Option (Nat × Nat) := if Utf8.decode s at_ = (Utf8.runeError, 1) then none else some (Utf8.decode s at_)
/-- The document's character. -/
def refRead (s : ByteArray) (at_ : Nat) : Option (Nat × Nat) :=
  match guess s at_ with
  | none => none
  | some (c, n) => if may (c : Int) = true ∧ one c = (List.range n).map (fun k => by_ s (at_ + k)) then some (c, n) else none

theorem more1 {s : ByteArray} {c i : Nat} : more s c i 1 = if by_ s i < 128 ∨ 191 < by_ s i then none else some (64 * c + by_ s i - 128) := rfl
set_option maxRecDepth 100000 in
theorem decode_eq (s : ByteArray) (i : Nat) : Utf8.decode s i =
    (if by_ s i < 128 then (by_ s i, 1)
    else if by_ s i / 32 = 6 ∧ i + 1 < s.size ∧ by_ s (i + 1) / 64 = 2 then
      (if 128 ≤ by_ s i % 32 * 64 + by_ s (i + 1) % 64 then (by_ s i % 32 * 64 + by_ s (i + 1) % 64, 2) else (Utf8.runeError, 1))
    else if by_ s i / 16 = 14 ∧ (i + 1 < s.size ∧ by_ s (i + 1) / 64 = 2) ∧ (i + 2 < s.size ∧ by_ s (i + 2) / 64 = 2) then
      (if 2048 ≤ by_ s i % 16 * 4096 + by_ s (i + 1) % 64 * 64 + by_ s (i + 2) % 64 ∧ may ((by_ s i % 16 * 4096 + by_ s (i + 1) % 64 * 64 + by_ s (i + 2) % 64 : Nat) : Int) = true then (by_ s i % 16 * 4096 + by_ s (i + 1) % 64 * 64 + by_ s (i + 2) % 64, 3) else (Utf8.runeError, 1))
    else if by_ s i / 8 = 30 ∧ (i + 1 < s.size ∧ by_ s (i + 1) / 64 = 2) ∧ (i + 2 < s.size ∧ by_ s (i + 2) / 64 = 2) ∧ (i + 3 < s.size ∧ by_ s (i + 3) / 64 = 2) then
      (if 65536 ≤ by_ s i % 8 * 262144 + by_ s (i + 1) % 64 * 4096 + by_ s (i + 2) % 64 * 64 + by_ s (i + 3) % 64 ∧ may ((by_ s i % 8 * 262144 + by_ s (i + 1) % 64 * 4096 + by_ s (i + 2) % 64 * 64 + by_ s (i + 3) % 64 : Nat) : Int) = true then (by_ s i % 8 * 262144 + by_ s (i + 1) % 64 * 4096 + by_ s (i + 2) % 64 * 64 + by_ s (i + 3) % 64, 4) else (Utf8.runeError, 1))
    else (Utf8.runeError, 1)) := by
  have e0 : ∀ k, (s.get! (i + k)).toNat = by_ s (i + k) := fun _ => rfl
  have e1 : (s.get! i).toNat = by_ s i := rfl
  unfold Utf8.decode
  simp only [e0, Nat.add_zero, e1]
  generalize by_ s i = b0
  generalize by_ s (i + 1) = b1
  generalize by_ s (i + 2) = b2
  generalize by_ s (i + 3) = b3
  simp only [may_valid, Bool.and_eq_true, beq_iff_eq, decide_eq_true_eq, ge_iff_le, and_assoc]

theorem first_lt {b : Nat} (h : b < 128) : first b = some (b, 1) := by unfold first; rw [if_neg (by omega), if_neg (by omega), if_neg (by omega), if_neg (by omega)]
theorem first_mid {b : Nat} (h : 128 ≤ b) (h2 : b < 192) : first b = none := by unfold first; rw [if_neg (by omega), if_neg (by omega), if_neg (by omega), if_pos h]
theorem first_2 {b : Nat} (h : 192 ≤ b) (h2 : b < 224) : first b = some (b - 192, 2) := by unfold first; rw [if_neg (by omega), if_neg (by omega), if_pos h]
theorem first_3 {b : Nat} (h : 224 ≤ b) (h2 : b < 240) : first b = some (b - 224, 3) := by unfold first; rw [if_neg (by omega), if_pos h]
theorem first_4 {b : Nat} (h : 240 ≤ b) : first b = some (b - 240, 4) := by unfold first; rw [if_pos h]
theorem may_small {c : Nat} (h : c < 55296) : may (c : Int) = true := by unfold may; simp; omega

theorem fin_none {s : ByteArray} {i : Nat} (hg : guess s i = none) (hd : Utf8.decode s i = (Utf8.runeError, 1)) : refRead s i = read s i := by
  unfold refRead read; rw [hg, hd, if_pos rfl]
theorem fin_some {s : ByteArray} {i c n : Nat} (hg : guess s i = some (c, n)) (hd : Utf8.decode s i = (c, n)) (hm : may (c : Int) = true) (ho : one c = (List.range n).map (fun k => by_ s (i + k))) (hne : n ≠ 1 ∨ c ≠ 65533) : refRead s i = read s i := by
  unfold refRead read
  rw [hg, hd]
  dsimp only
  rw [if_pos ⟨hm, ho⟩, if_neg]
  intro h
  injection h with h1 h2
  have hE : Utf8.runeError = 65533 := rfl
  omega
theorem fin_bad {s : ByteArray} {i c n : Nat} (hg : guess s i = some (c, n)) (hd : Utf8.decode s i = (Utf8.runeError, 1)) (hb : ¬(may (c : Int) = true ∧ one c = (List.range n).map (fun k => by_ s (i + k)))) : refRead s i = read s i := by
  unfold refRead read
  rw [hg, hd, if_pos rfl]
  dsimp only
  rw [if_neg hb]
theorem guess_of {s : ByteArray} {i c n : Nat} (hf : first (by_ s i) = some (c, n)) : guess s i = if s.size - i < n then none else (more s c (i + 1) (n - 1)).map fun c => (c, n) := by
  unfold guess; rw [hf]
theorem more2 {s : ByteArray} {c i : Nat} : more s c i 2 = if by_ s i < 128 ∨ 191 < by_ s i then none else if by_ s (i + 1) < 128 ∨ 191 < by_ s (i + 1) then none else some (64 * (64 * c + by_ s i - 128) + by_ s (i + 1) - 128) := rfl
theorem more3 {s : ByteArray} {c i : Nat} : more s c i 3 = if by_ s i < 128 ∨ 191 < by_ s i then none else if by_ s (i + 1) < 128 ∨ 191 < by_ s (i + 1) then none else if by_ s (i + 2) < 128 ∨ 191 < by_ s (i + 2) then none else some (64 * (64 * (64 * c + by_ s i - 128) + by_ s (i + 1) - 128) + by_ s (i + 2) - 128) := rfl
theorem wide_not {s : ByteArray} {i c n : Nat} (h : wide c ≠ n) : ¬(may (c : Int) = true ∧ one c = (List.range n).map (fun k => by_ s (i + k))) := by
  rintro ⟨-, h2⟩
  have := congrArg List.length h2
  rw [one_len] at this
  simp only [List.length_map, List.length_range] at this
  exact h this
theorem range2 {s : ByteArray} {i : Nat} : (List.range 2).map (fun k => by_ s (i + k)) = [by_ s i, by_ s (i + 1)] := rfl
theorem range3 {s : ByteArray} {i : Nat} : (List.range 3).map (fun k => by_ s (i + k)) = [by_ s i, by_ s (i + 1), by_ s (i + 2)] := rfl
theorem range4 {s : ByteArray} {i : Nat} : (List.range 4).map (fun k => by_ s (i + k)) = [by_ s i, by_ s (i + 1), by_ s (i + 2), by_ s (i + 3)] := rfl
/-- The document's character is Go's. -/
theorem refRead_eq (s : ByteArray) (i : Nat) (hi : i < s.size) : refRead s i = read s i := by
  have h0 := by_lt s i
  have h1 := by_lt s (i + 1)
  have h2 := by_lt s (i + 2)
  have h3 := by_lt s (i + 3)
  have hd := decode_eq s i
  by_cases a : by_ s i < 128
  · rw [if_pos a] at hd
    refine fin_some (by rw [guess_of (first_lt a), if_neg (by omega)]; rfl) hd (may_small (by omega)) ?_ (.inr (by omega))
    unfold one; rw [if_pos a]; rfl
  · rw [if_neg a] at hd
    by_cases b : by_ s i < 192
    · rw [if_neg (by omega), if_neg (by omega), if_neg (by omega)] at hd
      refine fin_none ?_ hd
      unfold guess; rw [first_mid (by omega) b]
    · by_cases c : by_ s i < 224
      · have hg := guess_of (first_2 (by omega) c)
        by_cases d : i + 1 < s.size ∧ by_ s (i + 1) / 64 = 2
        · rw [if_pos (And.intro (by omega) d)] at hd
          obtain ⟨d1, d2⟩ := d
          rw [if_neg (by omega), show 2 - 1 = 1 from rfl, more1, if_neg (by omega), Option.map_some] at hg
          have ec : 64 * (by_ s i - 192) + by_ s (i + 1) - 128 = by_ s i % 32 * 64 + by_ s (i + 1) % 64 := by omega
          rw [ec] at hg
          obtain ⟨x, hx⟩ : ∃ x, x = by_ s i % 32 * 64 + by_ s (i + 1) % 64 := ⟨_, rfl⟩
          rw [← hx] at hg hd
          by_cases f : 128 ≤ x
          · rw [if_pos f] at hd
            refine fin_some hg hd (may_small (by omega)) ?_ (.inl (by omega))
            rw [range2]
            unfold one
            rw [if_neg (by omega), if_pos (by omega)]
            simp only [List.cons.injEq, and_true]
            omega
          · rw [if_neg f] at hd
            refine fin_bad hg hd (wide_not ?_)
            unfold wide
            rw [if_pos (by omega)]
            omega
        · rw [if_neg (fun h => d h.2), if_neg (by omega), if_neg (by omega)] at hd
          refine fin_none ?_ hd
          rw [hg]
          by_cases e : s.size - i < 2
          · rw [if_pos e]
          · rw [if_neg e, show 2 - 1 = 1 from rfl, more1, if_pos (by omega)]; rfl
      · by_cases c3 : by_ s i < 240
        · have hg := guess_of (first_3 (by omega) c3)
          rw [if_neg (by omega)] at hd
          by_cases d : (i + 1 < s.size ∧ by_ s (i + 1) / 64 = 2) ∧ (i + 2 < s.size ∧ by_ s (i + 2) / 64 = 2)
          · rw [if_pos (And.intro (by omega) d)] at hd
            obtain ⟨⟨d1, d2⟩, d3, d4⟩ := d
            rw [if_neg (by omega), show 3 - 1 = 2 from rfl, more2, show i + 1 + 1 = i + 2 from rfl, if_neg (by omega), if_neg (by omega), Option.map_some] at hg
            have ec : 64 * (64 * (by_ s i - 224) + by_ s (i + 1) - 128) + by_ s (i + 2) - 128 = by_ s i % 16 * 4096 + by_ s (i + 1) % 64 * 64 + by_ s (i + 2) % 64 := by omega
            rw [ec] at hg
            obtain ⟨x, hx⟩ : ∃ x, x = by_ s i % 16 * 4096 + by_ s (i + 1) % 64 * 64 + by_ s (i + 2) % 64 := ⟨_, rfl⟩
            rw [← hx] at hg hd
            by_cases f : 2048 ≤ x ∧ may (x : Int) = true
            · rw [if_pos f] at hd
              refine fin_some hg hd f.2 ?_ (.inl (by omega))
              rw [range3]
              unfold one
              rw [if_neg (by omega), if_neg (by omega), if_pos (by omega)]
              simp only [List.cons.injEq, and_true]
              omega
            · rw [if_neg f] at hd
              by_cases g : 2048 ≤ x
              · exact fin_bad hg hd (fun h => f ⟨g, h.1⟩)
              · refine fin_bad hg hd (wide_not ?_)
                unfold wide
                by_cases q : x < 128
                · rw [if_pos q]; omega
                · rw [if_neg q, if_pos (by omega)]; omega
          · rw [if_neg (fun h => d h.2), if_neg (by omega)] at hd
            refine fin_none ?_ hd
            rw [hg]
            by_cases e : s.size - i < 3
            · rw [if_pos e]
            · rw [if_neg e, show 3 - 1 = 2 from rfl, more2]
              by_cases g : by_ s (i + 1) < 128 ∨ 191 < by_ s (i + 1)
              · rw [if_pos g]; rfl
              · rw [if_neg g, if_pos (by rw [show i + 1 + 1 = i + 2 from rfl]; omega)]; rfl
        · have hg := guess_of (first_4 (show 240 ≤ by_ s i by omega))
          rw [if_neg (by omega), if_neg (by omega)] at hd
          by_cases d : (i + 1 < s.size ∧ by_ s (i + 1) / 64 = 2) ∧ (i + 2 < s.size ∧ by_ s (i + 2) / 64 = 2) ∧ (i + 3 < s.size ∧ by_ s (i + 3) / 64 = 2)
          · obtain ⟨⟨d1, d2⟩, ⟨d3, d4⟩, d5, d6⟩ := d
            rw [if_neg (by omega), show 4 - 1 = 3 from rfl, more3, show i + 1 + 1 = i + 2 from rfl, show i + 1 + 2 = i + 3 from rfl, if_neg (by omega), if_neg (by omega), if_neg (by omega), Option.map_some] at hg
            have ec : 64 * (64 * (64 * (by_ s i - 240) + by_ s (i + 1) - 128) + by_ s (i + 2) - 128) + by_ s (i + 3) - 128 = (by_ s i - 240) * 262144 + by_ s (i + 1) % 64 * 4096 + by_ s (i + 2) % 64 * 64 + by_ s (i + 3) % 64 := by omega
            rw [ec] at hg
            by_cases k : by_ s i / 8 = 30
            · rw [if_pos (And.intro k ⟨⟨d1, d2⟩, ⟨d3, d4⟩, d5, d6⟩)] at hd
              have ek : by_ s i - 240 = by_ s i % 8 := by omega
              rw [ek] at hg
              obtain ⟨x, hx⟩ : ∃ x, x = by_ s i % 8 * 262144 + by_ s (i + 1) % 64 * 4096 + by_ s (i + 2) % 64 * 64 + by_ s (i + 3) % 64 := ⟨_, rfl⟩
              rw [← hx] at hg hd
              by_cases f : 65536 ≤ x ∧ may (x : Int) = true
              · rw [if_pos f] at hd
                refine fin_some hg hd f.2 ?_ (.inl (by omega))
                rw [range4]
                unfold one
                rw [if_neg (by omega), if_neg (by omega), if_neg (by omega)]
                simp only [List.cons.injEq, and_true]
                omega
              · rw [if_neg f] at hd
                by_cases g : 65536 ≤ x
                · exact fin_bad hg hd (fun h => f ⟨g, h.1⟩)
                · refine fin_bad hg hd (wide_not ?_)
                  unfold wide
                  by_cases q : x < 128
                  · rw [if_pos q]; omega
                  · by_cases q2 : x < 2048
                    · rw [if_neg q, if_pos q2]; omega
                    · rw [if_neg q, if_neg q2, if_pos (by omega)]; omega
            · rw [if_neg (fun h => k h.1)] at hd
              refine fin_bad hg hd ?_
              rintro ⟨hm, -⟩
              unfold may at hm
              simp only [Bool.and_eq_true, decide_eq_true_eq] at hm
              omega
          · rw [if_neg (fun h => d h.2)] at hd
            refine fin_none ?_ hd
            rw [hg]
            by_cases e : s.size - i < 4
            · rw [if_pos e]
            · rw [if_neg e, show 4 - 1 = 3 from rfl, more3, show i + 1 + 1 = i + 2 from rfl, show i + 1 + 2 = i + 3 from rfl]
              by_cases g : by_ s (i + 1) < 128 ∨ 191 < by_ s (i + 1)
              · rw [if_pos g]; rfl
              · rw [if_neg g]
                by_cases g2 : by_ s (i + 2) < 128 ∨ 191 < by_ s (i + 2)
                · rw [if_pos g2]; rfl
                · rw [if_neg g2, if_pos (by omega)]; rfl
end Gl

/-
  Tokens, plain: what the document cuts a line's characters into.
-/
namespace Tk
open Go
def funs : List Int := [0x2B, 0x2D, 0xD7, 0xF7, 0x2308, 0x230A, 0x7C, 0x2A, 0x21, 0x7E, 0x3C, 0x2264, 0x3D, 0x2265, 0x3E, 0x2260, 0x2227, 0x2228, 0x2374, 0x2C, 0x236A, 0x233D, 0x2296, 0x2349, 0x2191, 0x2193, 0x2282, 0x2283, 0x2261, 0x2262, 0x2373, 0x220A, 0x222A, 0x2229, 0x2378, 0x234B, 0x2352, 0x22A2, 0x22A3]
def opers : List Int := [0x2F, 0x233F, 0x5C, 0x2340, 0xA8, 0x2368, 0x2364, 0x2363, 0x2218, 0x2E]
def marks : List Int := [0x28, 0x29, 0x5B, 0x5D, 0x7B, 0x7D, 0x3B, 0x3A, 0x22C4, 0x2190, 0x237A, 0x2375, 0x2207, 0x2395, 0x235E, 0x27, 0x235D]
/-- The class of a character. -/
def cls (c : Int) : Int :=
  if c = 32 ∨ c = 9 then 1
  else if 97 ≤ c ∧ c ≤ 122 ∨ 65 ≤ c ∧ c ≤ 90 ∨ c = 95 then 2
  else if 48 ≤ c ∧ c ≤ 57 ∨ c = 175 then 3
  else if c ∈ funs then 4 else if c ∈ opers then 5 else if c ∈ marks then 6 else 0
structure Tok where
  kind : Int
  n : Rt.Nm
  l : List Int
  s : List UInt8
  c : Int
  at_ : Nat
def none_ : Tok := ⟨0, Rt.none_, [], [], 0, 0⟩
/-- A character's bytes. -/
def enc1 (c : Int) : List UInt8 := (Gl.one c.toNat).map UInt8.ofNat
def enc (l : List Int) : List UInt8 := l.flatMap enc1
def digit (c : Int) : Bool := decide (48 ≤ c) && decide (c ≤ 57)
def word (c : Int) : Bool := digit c || (cls c == 2)
/-- How many that may stand in a name, or in a number, stand from a place on. -/
def words (l : List Int) (i : Nat) : Nat := ((l.drop i).takeWhile word).length
def figures (l : List Int) (i : Nat) : Nat := ((l.drop i).takeWhile digit).length
/-- How long a number is that begins at a place: none: there is none. -/
def numLen (l : List Int) (i : Nat) : Option Nat :=
  let n := if l.getD i (-1) = 175 then 1 else 0
  let k := figures l (i + n)
  if k = 0 then none
  else
    let m := n + k
    let e := if (l.getD (i + m) (-1) = 114 ∨ l.getD (i + m) (-1) = 46) ∧ 0 < figures l (i + m + 1) then m + 1 + figures l (i + m + 1) else m
    if word (l.getD (i + e) (-1)) = true ∨ l.getD (i + e) (-1) = 175 then none else some e
/-- The characters of a text in quotes, and how many characters it has; so many are left to look at. -/
def quote (l : List Int) : Nat → Nat → List Int → Option (List Int × Nat)
  | 0, _, _ => none
  | f + 1, k, out =>
    if l.length ≤ k then none
    else if l.getD k (-1) ≠ 39 then quote l f (k + 1) (out ++ [l.getD k (-1)])
    else if l.getD (k + 1) (-1) ≠ 39 then some (out, k + 1)
    else quote l f (k + 2) (out ++ [39])
/-- The token that begins at a place, how many characters it has, and the error. -/
def read (l : List Int) (i : Nat) : Tok × Nat × Int :=
  let c := l.getD i (-1)
  if cls c = 3 then
    match numLen l i with
    | none => (none_, 0, 1)
    | some n =>
      let r := Dg.parse (enc ((l.drop i).take n))
      if r.2 = 0 then (⟨0, r.1, [], [], 0, i⟩, n, 0) else (none_, 0, r.2)
  else if cls c = 2 then
    let n := words l i
    if 16 < n then (none_, 0, 1) else (⟨if c ≤ 90 then 3 else 2, Rt.none_, [], enc ((l.drop i).take n), 0, i⟩, n, 0)
  else if c = 39 then
    match quote l (l.length + 1) (i + 1) [] with
    | none => (none_, 0, 1)
    | some (t, e) => (⟨1, Rt.none_, t, [], 0, i⟩, e - i, 0)
  else if c = 9109 ∨ c = 9054 then
    let n := words l (i + 1)
    let d := l.getD (i + 1) (-1)
    if n = 1 ∧ 48 ≤ d ∧ d ≤ 55 then (⟨if c = 9054 then 5 else 4, Rt.none_, [], [], d - 48, i⟩, 2, 0)
    else if c = 9109 ∧ n = 2 ∧ d = 68 ∧ l.getD (i + 2) (-1) = 67 then (⟨6, Rt.none_, [], [], 0, i⟩, 3, 0)
    else if c = 9109 ∧ n = 2 ∧ d = 85 ∧ l.getD (i + 2) (-1) = 80 then (⟨6, Rt.none_, [], [], 1, i⟩, 3, 0)
    else (none_, 0, 1)
  else if cls c = 0 then (none_, 0, 1)
  else (⟨7, Rt.none_, [], [], c, i⟩, 1, 0)
end Tk

/-
  glyph.function, glyph.Class: a character's class. (Printed by wip/bin/gen_tok1.py.)
-/
namespace Go.Proofs.YtfiefglagknclaaGreatDoor
open Go.RowKit
set_option maxHeartbeats 4000000
set_option maxRecDepth 100000
set_option linter.unusedVariables false

theorem ne_of_not_mem {c k : Int} {l : List Int} (h : ¬ c ∈ l) (hk : k ∈ l) : (c == k) = false := by
  rw [beq_eq_false_iff_ne]; rintro rfl; exact h hk
theorem function_any (c : Int) (w : World) :
    Calls Tryz.prog 59 #[.int .i64 c] w fun e w' => e = .returned (.bool (decide (c ∈ Tk.funs))) ∧ w = w' := by
  by_cases h : c ∈ Tk.funs
  · rw [decide_eq_true h]
    unfold Tk.funs at h
    simp only [List.mem_cons, List.not_mem_nil, or_false] at h
    rcases h with rfl | rfl | rfl | rfl | rfl | rfl | rfl | rfl | rfl | rfl | rfl | rfl | rfl | rfl | rfl | rfl | rfl | rfl | rfl | rfl | rfl | rfl | rfl | rfl | rfl | rfl | rfl | rfl | rfl | rfl | rfl | rfl | rfl | rfl | rfl | rfl | rfl | rfl | rfl
    all_goals
      go_enter Tryz.func59, Tryz.ntmps59
      go_wp2_with fail
      go_ret
      exact ⟨rfl, rfl⟩
  · rw [decide_eq_false h]
    have q43 : (c == 43) = false := ne_of_not_mem h (by decide)
    have q45 : (c == 45) = false := ne_of_not_mem h (by decide)
    have q215 : (c == 215) = false := ne_of_not_mem h (by decide)
    have q247 : (c == 247) = false := ne_of_not_mem h (by decide)
    have q8968 : (c == 8968) = false := ne_of_not_mem h (by decide)
    have q8970 : (c == 8970) = false := ne_of_not_mem h (by decide)
    have q124 : (c == 124) = false := ne_of_not_mem h (by decide)
    have q42 : (c == 42) = false := ne_of_not_mem h (by decide)
    have q33 : (c == 33) = false := ne_of_not_mem h (by decide)
    have q126 : (c == 126) = false := ne_of_not_mem h (by decide)
    have q60 : (c == 60) = false := ne_of_not_mem h (by decide)
    have q8804 : (c == 8804) = false := ne_of_not_mem h (by decide)
    have q61 : (c == 61) = false := ne_of_not_mem h (by decide)
    have q8805 : (c == 8805) = false := ne_of_not_mem h (by decide)
    have q62 : (c == 62) = false := ne_of_not_mem h (by decide)
    have q8800 : (c == 8800) = false := ne_of_not_mem h (by decide)
    have q8743 : (c == 8743) = false := ne_of_not_mem h (by decide)
    have q8744 : (c == 8744) = false := ne_of_not_mem h (by decide)
    have q9076 : (c == 9076) = false := ne_of_not_mem h (by decide)
    have q44 : (c == 44) = false := ne_of_not_mem h (by decide)
    have q9066 : (c == 9066) = false := ne_of_not_mem h (by decide)
    have q9021 : (c == 9021) = false := ne_of_not_mem h (by decide)
    have q8854 : (c == 8854) = false := ne_of_not_mem h (by decide)
    have q9033 : (c == 9033) = false := ne_of_not_mem h (by decide)
    have q8593 : (c == 8593) = false := ne_of_not_mem h (by decide)
    have q8595 : (c == 8595) = false := ne_of_not_mem h (by decide)
    have q8834 : (c == 8834) = false := ne_of_not_mem h (by decide)
    have q8835 : (c == 8835) = false := ne_of_not_mem h (by decide)
    have q8801 : (c == 8801) = false := ne_of_not_mem h (by decide)
    have q8802 : (c == 8802) = false := ne_of_not_mem h (by decide)
    have q9075 : (c == 9075) = false := ne_of_not_mem h (by decide)
    have q8714 : (c == 8714) = false := ne_of_not_mem h (by decide)
    have q8746 : (c == 8746) = false := ne_of_not_mem h (by decide)
    have q8745 : (c == 8745) = false := ne_of_not_mem h (by decide)
    have q9080 : (c == 9080) = false := ne_of_not_mem h (by decide)
    have q9035 : (c == 9035) = false := ne_of_not_mem h (by decide)
    have q9042 : (c == 9042) = false := ne_of_not_mem h (by decide)
    have q8866 : (c == 8866) = false := ne_of_not_mem h (by decide)
    have q8867 : (c == 8867) = false := ne_of_not_mem h (by decide)
    clear h
    go_enter Tryz.func59, Tryz.ntmps59
    go_wp2_with fail
    go_ret
    exact ⟨rfl, rfl⟩

theorem cls_oper {c : Int} (h : c ∈ Tk.opers) : Tk.cls c = 5 := by
  unfold Tk.opers at h
  simp only [List.mem_cons, List.not_mem_nil, or_false] at h
  rcases h with rfl | rfl | rfl | rfl | rfl | rfl | rfl | rfl | rfl | rfl <;> decide
theorem cls_mark {c : Int} (h : c ∈ Tk.marks) : Tk.cls c = 6 := by
  unfold Tk.marks at h
  simp only [List.mem_cons, List.not_mem_nil, or_false] at h
  rcases h with rfl | rfl | rfl | rfl | rfl | rfl | rfl | rfl | rfl | rfl | rfl | rfl | rfl | rfl | rfl | rfl | rfl <;> decide
theorem cls_fun {c : Int} (h : c ∈ Tk.funs) : Tk.cls c = 4 := by
  unfold Tk.funs at h
  simp only [List.mem_cons, List.not_mem_nil, or_false] at h
  rcases h with rfl | rfl | rfl | rfl | rfl | rfl | rfl | rfl | rfl | rfl | rfl | rfl | rfl | rfl | rfl | rfl | rfl | rfl | rfl | rfl | rfl | rfl | rfl | rfl | rfl | rfl | rfl | rfl | rfl | rfl | rfl | rfl | rfl | rfl | rfl | rfl | rfl | rfl | rfl <;> decide

theorem class_any (c : Int) (w : World) :
    Calls Tryz.prog 33 #[.int .i64 c] w fun e w' => e = .returned (.int .i64 (Tk.cls c)) ∧ w = w' := by
  by_cases h1 : c = 32 ∨ c = 9
  · have E : Hid (Tk.cls c = 1) := Lib.hid (by unfold Tk.cls; rw [if_pos h1])
    rcases h1 with rfl | rfl
    all_goals
      go_enter Tryz.func33, Tryz.ntmps33
      go_wp2_with fail
      go_ret
      exact ⟨ret_int E.out.symm, rfl⟩

  · have q32 : (c == 32) = false := beq_eq_false_iff_ne.2 (by omega)
    have q9 : (c == 9) = false := beq_eq_false_iff_ne.2 (by omega)
    by_cases h2 : 97 ≤ c ∧ c ≤ 122 ∨ 65 ≤ c ∧ c ≤ 90 ∨ c = 95
    · have E : Hid (Tk.cls c = 2) := Lib.hid (by unfold Tk.cls; rw [if_neg h1, if_pos h2])
      clear h1
      by_cases k1 : 97 ≤ c ∧ c ≤ 122
      · obtain ⟨a1, a2⟩ := k1
        clear h2
        go_enter Tryz.func33, Tryz.ntmps33
        go_wp2_with fail
        go_ret
        exact ⟨ret_int E.out.symm, rfl⟩

      · by_cases k2 : 65 ≤ c ∧ c ≤ 90
        · obtain ⟨a1, a2⟩ := k2
          have a3 : decide (97 ≤ c) = false := decide_eq_false (by omega)
          clear h2 k1
          go_enter Tryz.func33, Tryz.ntmps33
          go_wp2_with fail
          go_ret
          exact ⟨ret_int E.out.symm, rfl⟩

        · obtain rfl : c = 95 := by omega
          clear h2 k1 k2
          go_enter Tryz.func33, Tryz.ntmps33
          go_wp2_with fail
          go_ret
          exact ⟨ret_int E.out.symm, rfl⟩

    · have HL : Hid (¬ (97 ≤ c ∧ c ≤ 122 ∨ 65 ≤ c ∧ c ≤ 90 ∨ c = 95)) := Lib.hid h2
      by_cases h3 : 48 ≤ c ∧ c ≤ 57 ∨ c = 175
      · have E : Hid (Tk.cls c = 3) := Lib.hid (by unfold Tk.cls; rw [if_neg h1, if_neg h2, if_pos h3])
        clear h1
        by_cases k1 : c = 175
        · subst k1
          clear h2 h3
          go_enter Tryz.func33, Tryz.ntmps33
          go_wp2_with fail
          go_ret
          exact ⟨ret_int E.out.symm, rfl⟩

        · obtain ⟨a1, a2⟩ : 48 ≤ c ∧ c ≤ 57 := by omega
          have a3 : decide (97 ≤ c) = false := decide_eq_false (by omega)
          have a4 : decide (65 ≤ c) = false := decide_eq_false (by omega)
          have a5 : (c == 95) = false := beq_eq_false_iff_ne.2 (by omega)
          clear h2 h3 k1
          go_enter Tryz.func33, Tryz.ntmps33
          go_wp2_with fail
          go_ret
          exact ⟨ret_int E.out.symm, rfl⟩

      · by_cases h4 : c ∈ Tk.funs
        · have E : Hid (Tk.cls c = 4) := Lib.hid (cls_fun h4)
          have FT := fun wx => function_any c wx
          rw [decide_eq_true h4] at FT
          have HFT := Lib.hid FT
          clear h4 FT
          have a5 : (c == 95) = false := beq_eq_false_iff_ne.2 (by omega)
          have a6 : (c == 175) = false := beq_eq_false_iff_ne.2 (by omega)
          by_cases z1 : 97 ≤ c
          · have b1 : decide (97 ≤ c) = true := decide_eq_true (by omega)
            have b2 : decide (c ≤ 122) = false := decide_eq_false (by omega)
            have b3 : decide (65 ≤ c) = true := decide_eq_true (by omega)
            have b4 : decide (c ≤ 90) = false := decide_eq_false (by omega)
            have b5 : decide (48 ≤ c) = true := decide_eq_true (by omega)
            have b6 : decide (c ≤ 57) = false := decide_eq_false (by omega)
            clear z1 h1 h2 h3 HL
            go_enter Tryz.func33, Tryz.ntmps33
            go_wp2_with fail
            refine (HFT.out _).mono ?_
            rintro e w' ⟨rfl, rfl⟩
            go_wp2_with fail
            go_ret
            exact ⟨ret_int E.out.symm, rfl⟩
          · by_cases z2 : 65 ≤ c
            · have b1 : decide (97 ≤ c) = false := decide_eq_false (by omega)
              have b3 : decide (65 ≤ c) = true := decide_eq_true (by omega)
              have b4 : decide (c ≤ 90) = false := decide_eq_false (by omega)
              have b5 : decide (48 ≤ c) = true := decide_eq_true (by omega)
              have b6 : decide (c ≤ 57) = false := decide_eq_false (by omega)
              clear z1 z2 h1 h2 h3 HL
              go_enter Tryz.func33, Tryz.ntmps33
              go_wp2_with fail
              refine (HFT.out _).mono ?_
              rintro e w' ⟨rfl, rfl⟩
              go_wp2_with fail
              go_ret
              exact ⟨ret_int E.out.symm, rfl⟩
            · by_cases z3 : 48 ≤ c
              · have b1 : decide (97 ≤ c) = false := decide_eq_false (by omega)
                have b3 : decide (65 ≤ c) = false := decide_eq_false (by omega)
                have b5 : decide (48 ≤ c) = true := decide_eq_true (by omega)
                have b6 : decide (c ≤ 57) = false := decide_eq_false (by omega)
                clear z1 z2 z3 h1 h2 h3 HL
                go_enter Tryz.func33, Tryz.ntmps33
                go_wp2_with fail
                refine (HFT.out _).mono ?_
                rintro e w' ⟨rfl, rfl⟩
                go_wp2_with fail
                go_ret
                exact ⟨ret_int E.out.symm, rfl⟩
              · have b1 : decide (97 ≤ c) = false := decide_eq_false (by omega)
                have b3 : decide (65 ≤ c) = false := decide_eq_false (by omega)
                have b5 : decide (48 ≤ c) = false := decide_eq_false (by omega)
                clear z1 z2 z3 h1 h2 h3 HL
                go_enter Tryz.func33, Tryz.ntmps33
                go_wp2_with fail
                refine (HFT.out _).mono ?_
                rintro e w' ⟨rfl, rfl⟩
                go_wp2_with fail
                go_ret
                exact ⟨ret_int E.out.symm, rfl⟩
        · have FT := fun wx => function_any c wx
          rw [decide_eq_false h4] at FT
          have HFT := Lib.hid FT
          have HF4 := Lib.hid h4
          clear h4 FT
          by_cases h5 : c ∈ Tk.opers
          · have E : Hid (Tk.cls c = 5) := Lib.hid (cls_oper h5)
            clear h1 h2 h3 HL q32 q9
            unfold Tk.opers at h5
            simp only [List.mem_cons, List.not_mem_nil, or_false] at h5
            rcases h5 with rfl | rfl | rfl | rfl | rfl | rfl | rfl | rfl | rfl | rfl
            all_goals
              go_enter Tryz.func33, Tryz.ntmps33
              go_wp2_with fail
              refine (HFT.out _).mono ?_
              rintro e w' ⟨rfl, rfl⟩
              go_wp2_with fail
              go_ret
              exact ⟨ret_int E.out.symm, rfl⟩

          · by_cases h6 : c ∈ Tk.marks
            · have E : Hid (Tk.cls c = 6) := Lib.hid (cls_mark h6)
              clear h1 h2 h3 HL q32 q9 h5
              unfold Tk.marks at h6
              simp only [List.mem_cons, List.not_mem_nil, or_false] at h6
              rcases h6 with rfl | rfl | rfl | rfl | rfl | rfl | rfl | rfl | rfl | rfl | rfl | rfl | rfl | rfl | rfl | rfl | rfl
              all_goals
                go_enter Tryz.func33, Tryz.ntmps33
                go_wp2_with fail
                refine (HFT.out _).mono ?_
                rintro e w' ⟨rfl, rfl⟩
                go_wp2_with fail
                go_ret
                exact ⟨ret_int E.out.symm, rfl⟩

            · have E : Hid (Tk.cls c = 0) := Lib.hid (by unfold Tk.cls; rw [if_neg h1, if_neg h2, if_neg h3, if_neg HF4.out, if_neg h5, if_neg h6])
              have o47 : (c == 47) = false := ne_of_not_mem h5 (by decide)
              have o9023 : (c == 9023) = false := ne_of_not_mem h5 (by decide)
              have o92 : (c == 92) = false := ne_of_not_mem h5 (by decide)
              have o9024 : (c == 9024) = false := ne_of_not_mem h5 (by decide)
              have o168 : (c == 168) = false := ne_of_not_mem h5 (by decide)
              have o9064 : (c == 9064) = false := ne_of_not_mem h5 (by decide)
              have o9060 : (c == 9060) = false := ne_of_not_mem h5 (by decide)
              have o9059 : (c == 9059) = false := ne_of_not_mem h5 (by decide)
              have o8728 : (c == 8728) = false := ne_of_not_mem h5 (by decide)
              have o46 : (c == 46) = false := ne_of_not_mem h5 (by decide)
              have m40 : (c == 40) = false := ne_of_not_mem h6 (by decide)
              have m41 : (c == 41) = false := ne_of_not_mem h6 (by decide)
              have m91 : (c == 91) = false := ne_of_not_mem h6 (by decide)
              have m93 : (c == 93) = false := ne_of_not_mem h6 (by decide)
              have m123 : (c == 123) = false := ne_of_not_mem h6 (by decide)
              have m125 : (c == 125) = false := ne_of_not_mem h6 (by decide)
              have m59 : (c == 59) = false := ne_of_not_mem h6 (by decide)
              have m58 : (c == 58) = false := ne_of_not_mem h6 (by decide)
              have m8900 : (c == 8900) = false := ne_of_not_mem h6 (by decide)
              have m8592 : (c == 8592) = false := ne_of_not_mem h6 (by decide)
              have m9082 : (c == 9082) = false := ne_of_not_mem h6 (by decide)
              have m9077 : (c == 9077) = false := ne_of_not_mem h6 (by decide)
              have m8711 : (c == 8711) = false := ne_of_not_mem h6 (by decide)
              have m9109 : (c == 9109) = false := ne_of_not_mem h6 (by decide)
              have m9054 : (c == 9054) = false := ne_of_not_mem h6 (by decide)
              have m39 : (c == 39) = false := ne_of_not_mem h6 (by decide)
              have m9053 : (c == 9053) = false := ne_of_not_mem h6 (by decide)
              clear h5 h6
              have a5 : (c == 95) = false := beq_eq_false_iff_ne.2 (by omega)
              have a6 : (c == 175) = false := beq_eq_false_iff_ne.2 (by omega)
              by_cases z1 : 97 ≤ c
              · have b1 : decide (97 ≤ c) = true := decide_eq_true (by omega)
                have b2 : decide (c ≤ 122) = false := decide_eq_false (by omega)
                have b3 : decide (65 ≤ c) = true := decide_eq_true (by omega)
                have b4 : decide (c ≤ 90) = false := decide_eq_false (by omega)
                have b5 : decide (48 ≤ c) = true := decide_eq_true (by omega)
                have b6 : decide (c ≤ 57) = false := decide_eq_false (by omega)
                clear z1 h1 h2 h3 HL
                go_enter Tryz.func33, Tryz.ntmps33
                go_wp2_with fail
                refine (HFT.out _).mono ?_
                rintro e w' ⟨rfl, rfl⟩
                go_wp2_with fail
                go_ret
                exact ⟨ret_int E.out.symm, rfl⟩
              · by_cases z2 : 65 ≤ c
                · have b1 : decide (97 ≤ c) = false := decide_eq_false (by omega)
                  have b3 : decide (65 ≤ c) = true := decide_eq_true (by omega)
                  have b4 : decide (c ≤ 90) = false := decide_eq_false (by omega)
                  have b5 : decide (48 ≤ c) = true := decide_eq_true (by omega)
                  have b6 : decide (c ≤ 57) = false := decide_eq_false (by omega)
                  clear z1 z2 h1 h2 h3 HL
                  go_enter Tryz.func33, Tryz.ntmps33
                  go_wp2_with fail
                  refine (HFT.out _).mono ?_
                  rintro e w' ⟨rfl, rfl⟩
                  go_wp2_with fail
                  go_ret
                  exact ⟨ret_int E.out.symm, rfl⟩
                · by_cases z3 : 48 ≤ c
                  · have b1 : decide (97 ≤ c) = false := decide_eq_false (by omega)
                    have b3 : decide (65 ≤ c) = false := decide_eq_false (by omega)
                    have b5 : decide (48 ≤ c) = true := decide_eq_true (by omega)
                    have b6 : decide (c ≤ 57) = false := decide_eq_false (by omega)
                    clear z1 z2 z3 h1 h2 h3 HL
                    go_enter Tryz.func33, Tryz.ntmps33
                    go_wp2_with fail
                    refine (HFT.out _).mono ?_
                    rintro e w' ⟨rfl, rfl⟩
                    go_wp2_with fail
                    go_ret
                    exact ⟨ret_int E.out.symm, rfl⟩
                  · have b1 : decide (97 ≤ c) = false := decide_eq_false (by omega)
                    have b3 : decide (65 ≤ c) = false := decide_eq_false (by omega)
                    have b5 : decide (48 ≤ c) = false := decide_eq_false (by omega)
                    clear z1 z2 z3 h1 h2 h3 HL
                    go_enter Tryz.func33, Tryz.ntmps33
                    go_wp2_with fail
                    refine (HFT.out _).mono ?_
                    rintro e w' ⟨rfl, rfl⟩
                    go_wp2_with fail
                    go_ret
                    exact ⟨ret_int E.out.symm, rfl⟩
end Go.Proofs.YtfiefglagknclaaGreatDoor

/-
  Characters and bytes, plain: all characters of a text.
-/
namespace Gl
open Go
theorem read_some {s : ByteArray} {i c n : Nat} (h : read s i = some (c, n)) : Utf8.decode s i = (c, n) ∧ ¬(c = 65533 ∧ n = 1) := by
  unfold read at h
  split at h
  · cases h
  · next hne =>
    injection h with h
    refine ⟨h, ?_⟩
    rintro ⟨rfl, rfl⟩
    exact hne h
theorem read_pos {s : ByteArray} {i c n : Nat} (h : read s i = some (c, n)) : 1 ≤ n ∧ n ≤ 4 := by
  have h := (read_some h).1
  rw [decode_eq] at h
  repeat' split at h
  all_goals (injection h with h1 h2; omega)
theorem read_may {s : ByteArray} {i c n : Nat} (hi : i < s.size) (h : read s i = some (c, n)) : may (c : Int) = true := by
  have hr := refRead_eq s i hi
  rw [h] at hr
  unfold refRead at hr
  split at hr
  · cases hr
  · split at hr
    · next hm => injection hr with hr; injection hr with h1 h2; subst h1; exact hm.1
    · cases hr
theorem read_le {s : ByteArray} {i c n : Nat} (hi : i < s.size) (h : read s i = some (c, n)) : i + n ≤ s.size := by
  have h := (read_some h).1
  rw [decode_eq] at h
  repeat' split at h
  all_goals (injection h with h1 h2; omega)
/-- The characters from a byte on: so many at the most; and where there is none. -/
def decF (s : ByteArray) : Nat → Nat → List Nat × Option Nat
  | 0, _ => ([], none)
  | f + 1, i => if s.size ≤ i then ([], none) else match read s i with
    | none => ([], some i)
    | some (c, n) => (c :: (decF s f (i + n)).1, (decF s f (i + n)).2)
theorem decF_fuel {s : ByteArray} : ∀ {f g i : Nat}, s.size - i < f → s.size - i < g → decF s f i = decF s g i
  | 0, _, _, h, _ => by omega
  | _, 0, _, _, h => by omega
  | f + 1, g + 1, i, h1, h2 => by
    unfold decF
    by_cases hi : s.size ≤ i
    · rw [if_pos hi, if_pos hi]
    · rw [if_neg hi, if_neg hi]
      cases hr : read s i with
      | none => rfl
      | some p =>
        obtain ⟨c, n⟩ := p
        have := read_pos hr
        have e := decF_fuel (s := s) (f := f) (g := g) (i := i + n) (by omega) (by omega)
        simp only [e]
/-- The characters from a byte on, and where there is none. -/
def dec (s : ByteArray) (i : Nat) : List Nat × Option Nat := decF s (s.size + 1 - i) i
theorem dec_end {s : ByteArray} {i : Nat} (h : s.size ≤ i) : dec s i = ([], none) := by
  unfold dec
  cases s.size + 1 - i with
  | zero => rfl
  | succ k => unfold decF; rw [if_pos h]
theorem dec_bad {s : ByteArray} {i : Nat} (h : i < s.size) (hr : read s i = none) : dec s i = ([], some i) := by
  unfold dec
  rw [show s.size + 1 - i = (s.size - i) + 1 by omega]
  unfold decF
  rw [if_neg (by omega), hr]
theorem dec_step {s : ByteArray} {i c n : Nat} (h : i < s.size) (hr : read s i = some (c, n)) : dec s i = (c :: (dec s (i + n)).1, (dec s (i + n)).2) := by
  have hp := read_pos hr
  have hle := read_le h hr
  have e := decF_fuel (s := s) (f := s.size - i) (g := s.size + 1 - (i + n)) (i := i + n) (by omega) (by omega)
  unfold dec
  rw [show s.size + 1 - i = (s.size - i) + 1 by omega]
  conv => lhs; unfold decF
  rw [if_neg (by omega), hr]
  simp only [e]
theorem get_at {s : ByteArray} {i : Nat} (h : i < s.size) : s.get! i = s[i] := getElem!_pos s.data i h
theorem get_out {s : ByteArray} {i : Nat} (h : s.size ≤ i) : s.get! i = default := getElem!_neg s.data i (by show ¬ i < s.size; omega)
theorem by_right (a s : ByteArray) (i : Nat) : by_ (a ++ s) (a.size + i) = by_ s i := by
  have hsz : (a ++ s).size = a.size + s.size := ByteArray.size_append
  unfold by_
  congr 1
  by_cases h : i < s.size
  · rw [get_at (show a.size + i < (a ++ s).size by omega), get_at h, ByteArray.getElem_append_right (by omega)]
    congr 1
    omega
  · rw [get_out (by omega), get_out (by omega)]
theorem by_left (s t : ByteArray) {i : Nat} (h : i < s.size) : by_ (s ++ t) i = by_ s i := by
  have hsz : (s ++ t).size = s.size + t.size := ByteArray.size_append
  unfold by_
  congr 1
  rw [get_at (show i < (s ++ t).size by omega), get_at h, ByteArray.getElem_append_left h]
theorem decode_right (a s : ByteArray) (i : Nat) : Utf8.decode (a ++ s) (a.size + i) = Utf8.decode s i := by
  have e1 := by_right a s i
  have e2 := by_right a s (i + 1)
  have e3 := by_right a s (i + 2)
  have e4 := by_right a s (i + 3)
  rw [decode_eq, decode_eq]
  simp only [Nat.add_assoc, e1, e2, e3, e4, ByteArray.size_append, Nat.add_lt_add_iff_left]
theorem read_right (a s : ByteArray) (i : Nat) : read (a ++ s) (a.size + i) = read s i := by unfold read; rw [decode_right]
theorem read_left {s t : ByteArray} {i c n : Nat} (hi : i < s.size) (h : read s i = some (c, n)) : read (s ++ t) i = some (c, n) := by
  have hd := (read_some h).1
  have hne := (read_some h).2
  have hsz : (s ++ t).size = s.size + t.size := ByteArray.size_append
  have key : Utf8.decode (s ++ t) i = (c, n) := by
    have b0 := by_left s t hi
    have hl := by_lt s i
    rw [decode_eq] at hd ⊢
    rw [b0]
    have hE : Utf8.runeError = 65533 := rfl
    by_cases a : by_ s i < 128
    · rw [if_pos a] at hd ⊢; exact hd
    · rw [if_neg a] at hd ⊢
      by_cases h2 : by_ s i / 32 = 6 ∧ i + 1 < s.size ∧ by_ s (i + 1) / 64 = 2
      · have b1 := by_left s t h2.2.1
        rw [if_pos h2] at hd
        rw [b1, if_pos ⟨h2.1, by omega, h2.2.2⟩]
        exact hd
      · rw [if_neg h2] at hd
        by_cases h3 : by_ s i / 16 = 14 ∧ (i + 1 < s.size ∧ by_ s (i + 1) / 64 = 2) ∧ (i + 2 < s.size ∧ by_ s (i + 2) / 64 = 2)
        · have b1 := by_left s t h3.2.1.1
          have b2 := by_left s t h3.2.2.1
          rw [if_pos h3] at hd
          rw [b1, b2, if_neg (by omega), if_pos ⟨h3.1, ⟨by omega, h3.2.1.2⟩, by omega, h3.2.2.2⟩]
          exact hd
        · rw [if_neg h3] at hd
          by_cases h4 : by_ s i / 8 = 30 ∧ (i + 1 < s.size ∧ by_ s (i + 1) / 64 = 2) ∧ (i + 2 < s.size ∧ by_ s (i + 2) / 64 = 2) ∧ (i + 3 < s.size ∧ by_ s (i + 3) / 64 = 2)
          · have b1 := by_left s t h4.2.1.1
            have b2 := by_left s t h4.2.2.1.1
            have b3 := by_left s t h4.2.2.2.1
            rw [if_pos h4] at hd
            rw [b1, b2, b3, if_neg (by omega), if_neg (by omega), if_pos ⟨h4.1, ⟨by omega, h4.2.1.2⟩, ⟨by omega, h4.2.2.1.2⟩, by omega, h4.2.2.2.2⟩]
            exact hd
          · rw [if_neg h4] at hd
            injection hd with h5 h6
            exact absurd ⟨by omega, by omega⟩ hne
  unfold read
  rw [key, if_neg]
  intro e
  injection e with h5 h6
  have hE : Utf8.runeError = 65533 := rfl
  exact hne ⟨by omega, h6⟩
theorem dec_right (a s : ByteArray) : ∀ (k i : Nat), s.size - i < k → dec (a ++ s) (a.size + i) = ((dec s i).1, (dec s i).2.map (a.size + ·))
  | 0, _, h => by omega
  | k + 1, i, hk => by
    have hsz : (a ++ s).size = a.size + s.size := ByteArray.size_append
    by_cases hi : i < s.size
    · have hr := read_right a s i
      cases h : read s i with
      | none =>
        rw [h] at hr
        rw [dec_bad hi h, dec_bad (by omega) hr]; rfl
      | some p =>
        obtain ⟨c, n⟩ := p
        rw [h] at hr
        have hp := read_pos h
        have ih := dec_right a s k (i + n) (by omega)
        rw [dec_step hi h, dec_step (by omega) hr, Nat.add_assoc, ih]
    · rw [dec_end (by omega), dec_end (by omega)]; rfl
theorem dec_left (s t : ByteArray) : ∀ (k i : Nat), s.size - i < k → i ≤ s.size → (dec s i).2 = none → dec (s ++ t) i = ((dec s i).1 ++ (dec t 0).1, (dec t 0).2.map (s.size + ·))
  | 0, _, h, _, _ => by omega
  | k + 1, i, hk, hle, hn => by
    have hsz : (s ++ t).size = s.size + t.size := ByteArray.size_append
    by_cases hi : i < s.size
    · cases h : read s i with
      | none => rw [dec_bad hi h] at hn; cases hn
      | some p =>
        obtain ⟨c, n⟩ := p
        have hp := read_pos h
        have hl := read_le hi h
        rw [dec_step hi h] at hn ⊢
        have ih := dec_left s t k (i + n) (by omega) hl hn
        rw [dec_step (by omega) (read_left hi h), ih]
        rfl
    · have e : i = s.size := by omega
      subst e
      rw [dec_end (Nat.le_refl _)]
      have := dec_right s t (t.size + 1) 0 (by omega)
      rw [Nat.add_zero] at this
      rw [this]; rfl
theorem dec_may {s : ByteArray} : ∀ (k i : Nat), s.size - i < k → ∀ c ∈ (dec s i).1, may (c : Int) = true
  | 0, _, h => by omega
  | k + 1, i, hk => by
    intro c hc
    by_cases hi : i < s.size
    · cases h : read s i with
      | none => rw [dec_bad hi h] at hc; cases hc
      | some p =>
        obtain ⟨c', n⟩ := p
        have hp := read_pos h
        rw [dec_step hi h] at hc
        rcases List.mem_cons.1 hc with rfl | hc
        · exact read_may hi h
        · exact dec_may k (i + n) (by omega) c hc
    · rw [dec_end (by omega)] at hc; cases hc
theorem dec_len {s : ByteArray} : ∀ (k i : Nat), s.size - i < k → (dec s i).1.length ≤ s.size - i
  | 0, _, h => by omega
  | k + 1, i, hk => by
    by_cases hi : i < s.size
    · cases h : read s i with
      | none => rw [dec_bad hi h]; exact Nat.zero_le _
      | some p =>
        obtain ⟨c', n⟩ := p
        have hp := read_pos h
        have hl := read_le hi h
        have ih := dec_len (s := s) k (i + n) (by omega)
        rw [dec_step hi h]
        simp only [List.length_cons]
        omega
    · rw [dec_end (by omega)]; exact Nat.zero_le _
/-- Numbers as Go's. -/
def ints (l : List Nat) : List Int := l.map fun (n : Nat) => (n : Int)
def badI : Option Nat → Int
  | none => -1
  | some i => i
end Gl

/-
  Tokens, plain: all tokens of a line; they rise; blanks ahead and a comment behind change nothing.
-/
namespace Tk
open Go
/-- The tokens from a place on, behind those that there are; the place where there is none, and the error. -/
def goF (l : List Int) : Nat → Nat → List Tok → List Tok × Nat × Int
  | 0, _, out => (out, 0, 0)
  | f + 1, i, out =>
    if l.length ≤ i ∨ l.getD i (-1) = 9053 then (out, 0, 0)
    else if cls (l.getD i (-1)) = 1 then goF l f (i + 1) out
    else if (read l i).2.2 ≠ 0 then ([], i, (read l i).2.2)
    else goF l f (i + (read l i).2.1) (out ++ [(read l i).1])
/-- What a line's characters are cut into. -/
def cutL (l : List Int) (bad : Option Nat) : List Tok × Nat × Int :=
  if 2000 < l.length then ([], 0, 7)
  else if (goF l (l.length + 1) 0 []).2.2 ≠ 0 then goF l (l.length + 1) 0 []
  else match bad with
    | none => goF l (l.length + 1) 0 []
    | some _ => ([], l.length, 1)
def cut (s : ByteArray) : List Tok × Nat × Int := cutL (Gl.ints (Gl.dec s 0).1) (Gl.dec s 0).2

theorem takeWhile_le (p : Int → Bool) : ∀ l : List Int, (l.takeWhile p).length ≤ l.length
  | [] => Nat.le_refl _
  | a :: r => by
    rw [List.takeWhile_cons]
    have := takeWhile_le p r
    split
    · simp; omega
    · simp
theorem takeWhile_app (p : Int → Bool) (x : Int) (r : List Int) (h : p x = false) : ∀ l : List Int, (l ++ x :: r).takeWhile p = l.takeWhile p
  | [] => by rw [List.nil_append, List.takeWhile_cons, h]; rfl
  | a :: l => by
    rw [List.cons_append, List.takeWhile_cons, List.takeWhile_cons, takeWhile_app p x r h l]
theorem words_le (l : List Int) (i : Nat) : words l i ≤ l.length - i := by
  unfold words
  have := takeWhile_le word (l.drop i)
  rwa [List.length_drop] at this
theorem figures_le (l : List Int) (i : Nat) : figures l i ≤ l.length - i := by
  unfold figures
  have := takeWhile_le digit (l.drop i)
  rwa [List.length_drop] at this
theorem numLen_le {l : List Int} {i e : Nat} (hi : i < l.length) (h : numLen l i = some e) : 1 ≤ e ∧ i + e ≤ l.length := by
  unfold numLen at h
  simp only at h
  obtain ⟨n, hn⟩ : ∃ n, n = (if l.getD i (-1) = 175 then 1 else 0) := ⟨_, rfl⟩
  rw [← hn] at h
  have hn1 : n ≤ 1 := by rw [hn]; split <;> omega
  obtain ⟨k, hk⟩ : ∃ k, k = figures l (i + n) := ⟨_, rfl⟩
  rw [← hk] at h
  have hkl := figures_le l (i + n)
  rw [← hk] at hkl
  by_cases h0 : k = 0
  · rw [if_pos h0] at h; cases h
  · rw [if_neg h0] at h
    obtain ⟨f, hf⟩ : ∃ f, f = figures l (i + (n + k) + 1) := ⟨_, rfl⟩
    have hfl := figures_le l (i + (n + k) + 1)
    rw [← hf] at h hfl
    obtain ⟨e', he'⟩ : ∃ e', e' = (if (l.getD (i + (n + k)) (-1) = 114 ∨ l.getD (i + (n + k)) (-1) = 46) ∧ 0 < f then n + k + 1 + f else n + k) := ⟨_, rfl⟩
    rw [← he'] at h
    split at h
    · cases h
    · injection h with h
      subst h
      rw [he']
      split <;> omega
theorem quote_le {l : List Int} : ∀ {f k : Nat} {out t : List Int} {e : Nat}, quote l f k out = some (t, e) → k + 1 ≤ e ∧ e ≤ l.length
  | 0, _, _, _, _, h => by cases h
  | f + 1, k, out, t, e, h => by
    unfold quote at h
    split at h
    · cases h
    · next hk =>
      split at h
      · have := quote_le h; omega
      · next h39 =>
        split at h
        · injection h with h; injection h with h1 h2; omega
        · have := quote_le h
          omega
theorem getD_in {l : List Int} {i : Nat} (h : i < l.length) : l.getD i (-1) = l[i] := by rw [List.getD_eq_getElem?_getD, List.getElem?_eq_getElem h]; rfl
theorem getD_out {l : List Int} {i : Nat} (h : l.length ≤ i) : l.getD i (-1) = -1 := by rw [List.getD_eq_getElem?_getD, List.getElem?_eq_none h]; rfl
theorem words_pos {l : List Int} {i : Nat} (h : i < l.length) (hw : word (l.getD i (-1)) = true) : 1 ≤ words l i := by
  unfold words
  rw [List.drop_eq_getElem_cons h, List.takeWhile_cons]
  rw [getD_in h] at hw
  rw [hw]
  simp
/-- A token has at least one character, and ends in the line. -/
theorem read_len {l : List Int} {i : Nat} (hi : i < l.length) (h : (read l i).2.2 = 0) : 1 ≤ (read l i).2.1 ∧ i + (read l i).2.1 ≤ l.length := by
  unfold read at h ⊢
  simp only at h ⊢
  generalize hc : l.getD i (-1) = c at *
  by_cases c3 : cls c = 3
  · rw [if_pos c3] at h ⊢
    cases hn : numLen l i with
    | none => rw [hn] at h; cases h
    | some n =>
      rw [hn] at h
      have := numLen_le hi hn
      simp only at h ⊢
      by_cases hr : (Dg.parse (enc ((l.drop i).take n))).2 = 0
      · rw [if_pos hr]; exact this
      · rw [if_neg hr] at h; exact absurd h hr
  · rw [if_neg c3] at h ⊢
    by_cases c2 : cls c = 2
    · rw [if_pos c2] at h ⊢
      have hw : 1 ≤ words l i := words_pos hi (by rw [hc]; simp [word, c2])
      have := words_le l i
      by_cases h16 : 16 < words l i
      · rw [if_pos h16] at h; cases h
      · rw [if_neg h16]; exact ⟨hw, by show i + words l i ≤ _; omega⟩
    · rw [if_neg c2] at h ⊢
      by_cases c39 : c = 39
      · rw [if_pos c39] at h ⊢
        cases hq : quote l (l.length + 1) (i + 1) [] with
        | none => rw [hq] at h; cases h
        | some p =>
          obtain ⟨t, e⟩ := p
          have := quote_le hq
          exact ⟨by show 1 ≤ e - i; omega, by show i + (e - i) ≤ _; omega⟩
      · rw [if_neg c39] at h ⊢
        by_cases cp : c = 9109 ∨ c = 9054
        · rw [if_pos cp] at h ⊢
          have := words_le l (i + 1)
          split at h
          · next hq => rw [if_pos hq]; exact ⟨by show 1 ≤ 2; omega, by show i + 2 ≤ _; omega⟩
          · next hq =>
            rw [if_neg hq]
            split at h
            · next hq2 => rw [if_pos hq2]; exact ⟨by show 1 ≤ 3; omega, by show i + 3 ≤ _; omega⟩
            · next hq2 =>
              rw [if_neg hq2]
              split at h
              · next hq3 => rw [if_pos hq3]; exact ⟨by show 1 ≤ 3; omega, by show i + 3 ≤ _; omega⟩
              · cases h
        · rw [if_neg cp] at h ⊢
          by_cases c0 : cls c = 0
          · rw [if_pos c0] at h; cases h
          · rw [if_neg c0]; exact ⟨by show 1 ≤ 1; omega, by show i + 1 ≤ _; omega⟩
/-- A token's fields are its kind's. -/
structure OkTok (t : Tok) : Prop where
  k0 : 0 ≤ t.kind
  k7 : t.kind ≤ 7
  l : t.kind ≠ 1 → t.l = []
  s : t.kind ≠ 2 → t.kind ≠ 3 → t.s = []
  c : t.kind ≤ 3 → t.c = 0
theorem read_ok {l : List Int} {i : Nat} (h : (read l i).2.2 = 0) : OkTok (read l i).1 ∧ (read l i).1.at_ = i := by
  unfold read at h ⊢
  simp only at h ⊢
  generalize l.getD i (-1) = c at *
  by_cases c3 : cls c = 3
  · rw [if_pos c3] at h ⊢
    cases hn : numLen l i with
    | none => rw [hn] at h; cases h
    | some n =>
      rw [hn] at h
      simp only at h ⊢
      by_cases hr : (Dg.parse (enc ((l.drop i).take n))).2 = 0
      · rw [if_pos hr]; exact ⟨⟨by simp, by simp, by simp, by simp, by simp⟩, by simp⟩
      · rw [if_neg hr] at h; exact absurd h hr
  · rw [if_neg c3] at h ⊢
    by_cases c2 : cls c = 2
    · rw [if_pos c2] at h ⊢
      by_cases h16 : 16 < words l i
      · rw [if_pos h16] at h; cases h
      · rw [if_neg h16]
        by_cases h90 : c ≤ 90
        · simp only [if_pos h90]; exact ⟨⟨by simp, by simp, by simp, by simp, by simp⟩, by simp⟩
        · simp only [if_neg h90]; exact ⟨⟨by simp, by simp, by simp, by simp, by simp⟩, by simp⟩
    · rw [if_neg c2] at h ⊢
      by_cases c39 : c = 39
      · rw [if_pos c39] at h ⊢
        cases hq : quote l (l.length + 1) (i + 1) [] with
        | none => rw [hq] at h; cases h
        | some p => exact ⟨⟨by simp, by simp, by simp, by simp, by simp⟩, by simp⟩
      · rw [if_neg c39] at h ⊢
        by_cases cp : c = 9109 ∨ c = 9054
        · rw [if_pos cp] at h ⊢
          split at h
          · next hq =>
            rw [if_pos hq]
            by_cases c5 : c = 9054
            · simp only [if_pos c5]; exact ⟨⟨by simp, by simp, by simp, by simp, by simp⟩, by simp⟩
            · simp only [if_neg c5]; exact ⟨⟨by simp, by simp, by simp, by simp, by simp⟩, by simp⟩
          · next hq =>
            rw [if_neg hq]
            split at h
            · next hq2 => rw [if_pos hq2]; exact ⟨⟨by simp, by simp, by simp, by simp, by simp⟩, by simp⟩
            · next hq2 =>
              rw [if_neg hq2]
              split at h
              · next hq3 => rw [if_pos hq3]; exact ⟨⟨by simp, by simp, by simp, by simp, by simp⟩, by simp⟩
              · cases h
        · rw [if_neg cp] at h ⊢
          by_cases c0 : cls c = 0
          · rw [if_pos c0] at h; cases h
          · rw [if_neg c0]; exact ⟨⟨by simp, by simp, by simp, by simp, by simp⟩, by simp⟩
/-- Tokens that rise, all below a place, each as its kind says. -/
def Up (out : List Tok) (i : Nat) : Prop := (∀ t ∈ out, OkTok t ∧ t.at_ < i) ∧ out.Pairwise (fun a b => a.at_ < b.at_)
theorem goF_up {l : List Int} : ∀ {f i : Nat} {out : List Tok}, Up out i → (goF l f i out).2.2 = 0 → ∃ j, Up (goF l f i out).1 j
  | 0, i, out, h, _ => ⟨i, h⟩
  | f + 1, i, out, h, he => by
    unfold goF at he ⊢
    by_cases h1 : l.length ≤ i ∨ l.getD i (-1) = 9053
    · rw [if_pos h1]; exact ⟨i, h⟩
    · rw [if_neg h1] at he ⊢
      by_cases h2 : cls (l.getD i (-1)) = 1
      · rw [if_pos h2] at he ⊢
        exact goF_up ⟨fun t ht => ⟨(h.1 t ht).1, by have := (h.1 t ht).2; omega⟩, h.2⟩ he
      · rw [if_neg h2] at he ⊢
        by_cases h3 : (read l i).2.2 ≠ 0
        · rw [if_pos h3] at he; exact absurd he h3
        · rw [if_neg h3] at he ⊢
          have h3 : (read l i).2.2 = 0 := by omega
          obtain ⟨r1, r2⟩ := read_len (by omega) h3
          obtain ⟨o1, o2⟩ := read_ok h3
          refine goF_up ⟨fun t ht => ?_, ?_⟩ he
          · rcases List.mem_append.1 ht with ht | ht
            · exact ⟨(h.1 t ht).1, by have := (h.1 t ht).2; omega⟩
            · rw [List.mem_singleton] at ht; subst ht; exact ⟨o1, by omega⟩
          · rw [List.pairwise_append]
            refine ⟨h.2, by simp, fun a ha b hb => ?_⟩
            rw [List.mem_singleton] at hb; subst hb
            rw [o2]
            exact (h.1 a ha).2
theorem goF_err {l : List Int} : ∀ {f i : Nat} {out : List Tok}, (goF l f i out).2.2 ≠ 0 → (goF l f i out).1 = []
  | 0, i, out, h => by exact absurd rfl h
  | f + 1, i, out, he => by
    unfold goF at he ⊢
    by_cases h1 : l.length ≤ i ∨ l.getD i (-1) = 9053
    · rw [if_pos h1] at he; exact absurd rfl he
    · rw [if_neg h1] at he ⊢
      by_cases h2 : cls (l.getD i (-1)) = 1
      · rw [if_pos h2] at he ⊢; exact goF_err he
      · rw [if_neg h2] at he ⊢
        by_cases h3 : (read l i).2.2 ≠ 0
        · rw [if_pos h3]
        · rw [if_neg h3] at he ⊢; exact goF_err he
theorem cutL_err {l : List Int} {b : Option Nat} (h : (cutL l b).2.2 ≠ 0) : (cutL l b).1 = [] := by
  unfold cutL at h ⊢
  split
  · rfl
  · next h1 =>
    rw [if_neg h1] at h
    split
    · next h2 => exact goF_err h2
    · next h2 =>
      rw [if_neg h2] at h
      cases b with
      | none => exact absurd h h2
      | some _ => rfl
theorem cutL_up {l : List Int} {b : Option Nat} (h : (cutL l b).2.2 = 0) : ∃ j, Up (cutL l b).1 j := by
  unfold cutL at h ⊢
  split
  · next h1 => rw [if_pos h1] at h; cases h
  · next h1 =>
    rw [if_neg h1] at h
    split
    · next h2 => rw [if_pos h2] at h; exact absurd h h2
    · next h2 =>
      rw [if_neg h2] at h
      cases b with
      | none => exact goF_up ⟨by simp, by simp⟩ h
      | some _ => cases h
/-! ### A blank and more behind -/
theorem getD_app {l : List Int} {r : List Int} {i : Nat} (h : i < l.length) : (l ++ r).getD i (-1) = l.getD i (-1) := by
  rw [List.getD_eq_getElem?_getD, List.getD_eq_getElem?_getD, List.getElem?_append_left h]
theorem getD_at {l : List Int} {x : Int} {r : List Int} : (l ++ x :: r).getD l.length (-1) = x := by
  rw [List.getD_eq_getElem?_getD, List.getElem?_append_right (Nat.le_refl _)]; simp
theorem drop_app {l r : List Int} {i : Nat} (h : i ≤ l.length) : (l ++ r).drop i = l.drop i ++ r := by rw [List.drop_append_of_le_length h]
theorem words_app {l : List Int} {r : List Int} {i : Nat} (h : i ≤ l.length) : words (l ++ 32 :: r) i = words l i := by
  unfold words
  rw [drop_app h, takeWhile_app _ _ _ (by decide)]
theorem figures_app {l : List Int} {r : List Int} {i : Nat} (h : i ≤ l.length) : figures (l ++ 32 :: r) i = figures l i := by
  unfold figures
  rw [drop_app h, takeWhile_app _ _ _ (by decide)]
theorem take_app {l r : List Int} {i n : Nat} (h : i + n ≤ l.length) : ((l ++ r).drop i).take n = (l.drop i).take n := by
  rw [drop_app (by omega), List.take_append_of_le_length (by rw [List.length_drop]; omega)]
theorem at_app {l r : List Int} {i : Nat} (h : i ≤ l.length) : (l ++ 32 :: r).getD i (-1) = l.getD i (-1) ∨ (l.getD i (-1) = -1 ∧ (l ++ 32 :: r).getD i (-1) = 32) := by
  rcases Nat.lt_or_ge i l.length with h1 | h1
  · exact .inl (getD_app h1)
  · have : i = l.length := by omega
    subst this
    exact .inr ⟨getD_out (Nat.le_refl _), getD_at⟩
theorem numLen_app {l r : List Int} {i : Nat} (hi : i < l.length) : numLen (l ++ 32 :: r) i = numLen l i := by
  unfold numLen
  simp only
  rw [getD_app hi]
  obtain ⟨n, hn⟩ : ∃ n, n = (if l.getD i (-1) = 175 then 1 else 0) := ⟨_, rfl⟩
  rw [← hn]
  have hn1 : n ≤ 1 := by rw [hn]; split <;> omega
  rw [figures_app (show i + n ≤ l.length by omega)]
  obtain ⟨k, hk⟩ : ∃ k, k = figures l (i + n) := ⟨_, rfl⟩
  have hkl := figures_le l (i + n)
  rw [← hk] at hkl ⊢
  by_cases h0 : k = 0
  · rw [if_pos h0, if_pos h0]
  · rw [if_neg h0, if_neg h0]
    have eA : ((((l ++ 32 :: r).getD (i + (n + k)) (-1) = 114 ∨ (l ++ 32 :: r).getD (i + (n + k)) (-1) = 46) ∧ 0 < figures (l ++ 32 :: r) (i + (n + k) + 1)) ↔ ((l.getD (i + (n + k)) (-1) = 114 ∨ l.getD (i + (n + k)) (-1) = 46) ∧ 0 < figures l (i + (n + k) + 1))) := by
      rcases Nat.lt_or_ge (i + (n + k)) l.length with h1 | h1
      · rw [getD_app h1, figures_app (by omega)]
      · have e : i + (n + k) = l.length := by omega
        rw [e, getD_at, getD_out (Nat.le_refl _)]
        constructor
        · rintro ⟨h | h, _⟩ <;> omega
        · rintro ⟨h | h, _⟩ <;> omega
    by_cases hA : (l.getD (i + (n + k)) (-1) = 114 ∨ l.getD (i + (n + k)) (-1) = 46) ∧ 0 < figures l (i + (n + k) + 1)
    · have hlt : i + (n + k) < l.length := by
        rcases Nat.lt_or_ge (i + (n + k)) l.length with h1 | h1
        · exact h1
        · rw [getD_out h1] at hA; omega
      rw [if_pos (eA.2 hA), if_pos hA, figures_app (by omega)]
      have hfl := figures_le l (i + (n + k) + 1)
      rcases at_app (l := l) (r := r) (i := i + (n + k + 1 + figures l (i + (n + k) + 1))) (by omega) with e | ⟨e1, e2⟩
      · rw [e]
      · rw [e1, e2]; rfl
    · rw [if_neg (fun h => hA (eA.1 h)), if_neg hA]
      rcases at_app (l := l) (r := r) (i := i + (n + k)) (by omega) with e | ⟨e1, e2⟩
      · rw [e]
      · rw [e1, e2]; rfl
theorem quote_app {l r : List Int} : ∀ {f f' k : Nat} {out : List Int} {p : List Int × Nat}, f ≤ f' → quote l f k out = some p → quote (l ++ 32 :: r) f' k out = some p
  | 0, _, _, _, _, _, h => by cases h
  | _ + 1, 0, _, _, _, hf, _ => by omega
  | f + 1, f' + 1, k, out, p, hf, h => by
    unfold quote at h ⊢
    by_cases hk : l.length ≤ k
    · rw [if_pos hk] at h; cases h
    · rw [if_neg hk] at h
      rw [if_neg (by simp; omega), getD_app (by omega)]
      by_cases h39 : l.getD k (-1) ≠ 39
      · rw [if_pos h39] at h ⊢
        exact quote_app (by omega) h
      · rw [if_neg h39] at h ⊢
        by_cases h40 : l.getD (k + 1) (-1) ≠ 39
        · rw [if_pos h40] at h
          rw [if_pos]
          · exact h
          · rcases at_app (l := l) (r := r) (i := k + 1) (by omega) with e | ⟨e1, e2⟩
            · rw [e]; exact h40
            · rw [e2]; decide
        · rw [if_neg h40] at h
          have hlt : k + 1 < l.length := by
            rcases Nat.lt_or_ge (k + 1) l.length with h1 | h1
            · exact h1
            · rw [getD_out h1] at h40; omega
          rw [getD_app hlt, if_neg h40]
          exact quote_app (by omega) h
theorem read_app {l r : List Int} {i : Nat} (hi : i < l.length) (h : (read l i).2.2 = 0) : read (l ++ 32 :: r) i = read l i := by
  unfold read at h ⊢
  simp only at h ⊢
  rw [getD_app hi, numLen_app hi, words_app (by omega), words_app (by omega)]
  generalize hc : l.getD i (-1) = c at *
  by_cases c3 : cls c = 3
  · rw [if_pos c3, if_pos c3]
    cases hn : numLen l i with
    | none => rfl
    | some n =>
      have := numLen_le hi hn
      dsimp only
      rw [take_app (show i + n ≤ l.length by omega)]
  · rw [if_neg c3] at h
    rw [if_neg c3, if_neg c3]
    by_cases c2 : cls c = 2
    · rw [if_pos c2, if_pos c2]
      have := words_le l i
      rw [take_app (show i + words l i ≤ l.length by omega)]
    · rw [if_neg c2] at h
      rw [if_neg c2, if_neg c2]
      by_cases c39 : c = 39
      · rw [if_pos c39] at h
        rw [if_pos c39, if_pos c39]
        cases hq : quote l (l.length + 1) (i + 1) [] with
        | none => rw [hq] at h; cases h
        | some p => rw [quote_app (f' := (l ++ 32 :: r).length + 1) (by simp) hq]
      · rw [if_neg c39] at h
        rw [if_neg c39, if_neg c39]
        by_cases cp : c = 9109 ∨ c = 9054
        · rw [if_pos cp, if_pos cp]
          have hw := words_le l (i + 1)
          rcases Nat.lt_or_ge (i + 1) l.length with h1 | h1
          · rw [getD_app h1]
            by_cases h2 : words l (i + 1) = 2
            · rw [getD_app (show i + 2 < l.length by omega)]
            · simp only [h2, false_and, and_false, if_false]
          · have h0 : words l (i + 1) = 0 := by omega
            simp only [h0, show ((0 : Nat) = 1) = False by simp, show ((0 : Nat) = 2) = False by simp, false_and, and_false, if_false]
        · rw [if_neg cp, if_neg cp]
theorem goF_app {l r : List Int} : ∀ {f f' i : Nat} {out : List Tok}, i ≤ l.length → l.length - i < f → (l ++ 32 :: 9053 :: r).length - i < f' → (goF l f i out).2.2 = 0 → goF (l ++ 32 :: 9053 :: r) f' i out = goF l f i out
  | 0, _, _, _, _, h, _, _ => by omega
  | _ + 1, 0, _, _, _, _, h, _ => by omega
  | f + 1, f' + 1, i, out, hl, h1, h2, he => by
    have hlen : (l ++ 32 :: 9053 :: r).length = l.length + (r.length + 2) := by simp
    rw [hlen] at h2
    by_cases hi : i < l.length
    · unfold goF at he ⊢
      rw [getD_app hi, hlen]
      by_cases hA : l.getD i (-1) = 9053
      · rw [if_pos (.inr hA), if_pos (.inr hA)]
      · have nA : ¬(l.length ≤ i ∨ l.getD i (-1) = 9053) := by omega
        have nA' : ¬(l.length + (r.length + 2) ≤ i ∨ l.getD i (-1) = 9053) := by omega
        rw [if_neg nA] at he
        rw [if_neg nA, if_neg nA']
        by_cases hB : cls (l.getD i (-1)) = 1
        · rw [if_pos hB] at he
          rw [if_pos hB, if_pos hB]
          exact goF_app (by omega) (by omega) (by rw [hlen]; omega) he
        · rw [if_neg hB] at he
          rw [if_neg hB, if_neg hB]
          by_cases hC : (read l i).2.2 ≠ 0
          · rw [if_pos hC] at he; exact absurd he hC
          · rw [if_neg hC] at he
            have hC' : (read l i).2.2 = 0 := by omega
            have hp := read_len hi hC'
            rw [read_app hi hC', if_neg hC, if_neg hC]
            exact goF_app (by omega) (by omega) (by rw [hlen]; omega) he
    · by_cases hi2 : i = l.length
      · subst hi2
        have e1 : goF l (f + 1) l.length out = (out, 0, 0) := by unfold goF; rw [if_pos (.inl (Nat.le_refl _))]
        rw [e1]
        unfold goF
        rw [getD_at, hlen, if_neg (by omega), if_pos (by decide)]
        cases f' with
        | zero => omega
        | succ f' =>
          have h9 : (l ++ 32 :: 9053 :: r).getD (l.length + 1) (-1) = 9053 := by
            rw [show l ++ 32 :: 9053 :: r = (l ++ [32]) ++ 9053 :: r by simp]
            have := getD_at (l := l ++ [32]) (x := 9053) (r := r)
            have e : (l ++ [(32 : Int)]).length = l.length + 1 := by simp
            rwa [e] at this
          unfold goF
          rw [if_pos (.inr h9)]
      · omega
/-! ### Blanks ahead -/
def shift (k : Nat) (t : Tok) : Tok := { t with at_ := k + t.at_ }
theorem getD_right {b l : List Int} {i : Nat} : (b ++ l).getD (b.length + i) (-1) = l.getD i (-1) := by
  rw [List.getD_eq_getElem?_getD, List.getD_eq_getElem?_getD, List.getElem?_append_right (by omega), Nat.add_sub_cancel_left]
theorem drop_right {b l : List Int} {i : Nat} : (b ++ l).drop (b.length + i) = l.drop i := by
  rw [List.drop_append, List.drop_eq_nil_of_le (by omega), Nat.add_sub_cancel_left, List.nil_append]
theorem words_right {b l : List Int} {i : Nat} : words (b ++ l) (b.length + i) = words l i := by unfold words; rw [drop_right]
theorem figures_right {b l : List Int} {i : Nat} : figures (b ++ l) (b.length + i) = figures l i := by unfold figures; rw [drop_right]
theorem numLen_right {b l : List Int} {i : Nat} : numLen (b ++ l) (b.length + i) = numLen l i := by
  unfold numLen
  simp only [Nat.add_assoc, getD_right, figures_right]
theorem quote_right {b l : List Int} : ∀ {f f' k : Nat} {out : List Int}, l.length < f + k → l.length < f' + k → quote (b ++ l) f' (b.length + k) out = (quote l f k out).map fun p => (p.1, b.length + p.2)
  | 0, 0, k, out, h1, h2 => rfl
  | f + 1, 0, k, out, h1, h2 => by
    unfold quote
    rw [if_pos (by omega)]; rfl
  | 0, f' + 1, k, out, h1, h2 => by
    unfold quote
    rw [if_pos (by simp; omega)]; rfl
  | f + 1, f' + 1, k, out, h1, h2 => by
    unfold quote
    have e0 : ((b ++ l).length ≤ b.length + k) ↔ l.length ≤ k := by simp
    by_cases hk : l.length ≤ k
    · rw [if_pos (e0.2 hk), if_pos hk]; rfl
    · rw [if_neg (fun h => hk (e0.1 h)), if_neg hk]
      simp only [Nat.add_assoc, getD_right]
      by_cases h39 : l.getD k (-1) ≠ 39
      · rw [if_pos h39, if_pos h39]
        exact quote_right (by omega) (by omega)
      · rw [if_neg h39, if_neg h39]
        by_cases h40 : l.getD (k + 1) (-1) ≠ 39
        · rw [if_pos h40, if_pos h40]; rfl
        · rw [if_neg h40, if_neg h40]
          exact quote_right (by omega) (by omega)
/-- What is read of a line with more ahead of it. -/
theorem read_right {b l : List Int} {i : Nat} : read (b ++ l) (b.length + i) = (if (read l i).2.2 = 0 then shift b.length (read l i).1 else (read l i).1, (read l i).2) := by
  unfold read
  simp only [Nat.add_assoc, getD_right, numLen_right, words_right, drop_right]
  generalize l.getD i (-1) = c
  by_cases c3 : cls c = 3
  · simp only [if_pos c3]
    cases numLen l i with
    | none => rfl
    | some n =>
      simp only
      by_cases hr : (Dg.parse (enc ((l.drop i).take n))).2 = 0
      · simp only [if_pos hr]; rfl
      · simp only [if_neg hr]
  · simp only [if_neg c3]
    by_cases c2 : cls c = 2
    · simp only [if_pos c2]
      by_cases h16 : 16 < words l i
      · simp only [if_pos h16]; rfl
      · simp only [if_neg h16]; rfl
    · simp only [if_neg c2]
      by_cases c39 : c = 39
      · simp only [if_pos c39]
        have := quote_right (b := b) (l := l) (f := l.length + 1) (f' := (b ++ l).length + 1) (k := i + 1) (out := []) (by omega) (by simp; omega)
        rw [this]
        cases hq : quote l (l.length + 1) (i + 1) [] with
        | none => rfl
        | some p =>
          obtain ⟨t, e⟩ := p
          have hle := quote_le hq
          simp only [Option.map_some, if_true]
          rw [show b.length + e - (b.length + i) = e - i by omega]
          rfl
      · simp only [if_neg c39]
        by_cases cp : c = 9109 ∨ c = 9054
        · simp only [if_pos cp]
          split
          · rfl
          · split
            · rfl
            · split
              · rfl
              · rfl
        · simp only [if_neg cp]
          by_cases c0 : cls c = 0
          · simp only [if_pos c0]; rfl
          · simp only [if_neg c0]; rfl
theorem goF_shift {b l : List Int} : ∀ {f f' i : Nat} {out : List Tok}, l.length - i < f → l.length - i < f' → (goF l f i out).2.2 = 0 → goF (b ++ l) f' (b.length + i) (out.map (shift b.length)) = ((goF l f i out).1.map (shift b.length), 0, 0) 
  | 0, _, _, _, h, _, _ => by omega
  | _ + 1, 0, _, _, _, h, _ => by omega
  | f + 1, f' + 1, i, out, h1, h2, he => by
    have e0 : ((b ++ l).length ≤ b.length + i ∨ (b ++ l).getD (b.length + i) (-1) = 9053) ↔ (l.length ≤ i ∨ l.getD i (-1) = 9053) := by rw [getD_right]; simp
    unfold goF at he ⊢
    by_cases hA : l.length ≤ i ∨ l.getD i (-1) = 9053
    · rw [if_pos (e0.2 hA), if_pos hA]
    · rw [if_neg hA] at he
      rw [if_neg (fun h => hA (e0.1 h)), if_neg hA, getD_right]
      by_cases hB : cls (l.getD i (-1)) = 1
      · rw [if_pos hB] at he
        rw [if_pos hB, if_pos hB]
        have := goF_shift (b := b) (l := l) (f := f) (f' := f') (i := i + 1) (out := out) (by omega) (by omega) he
        rwa [← Nat.add_assoc] at this
      · rw [if_neg hB] at he
        rw [if_neg hB, if_neg hB]
        by_cases hC : (read l i).2.2 ≠ 0
        · rw [if_pos hC] at he; exact absurd he hC
        · rw [if_neg hC] at he
          have hC' : (read l i).2.2 = 0 := by omega
          have hp := read_len (by omega) hC'
          have hr := read_right (b := b) (l := l) (i := i)
          rw [if_pos hC'] at hr
          rw [hr]
          dsimp only
          rw [if_neg hC, if_neg hC]
          have := goF_shift (b := b) (l := l) (f := f) (f' := f') (i := i + (read l i).2.1) (out := out ++ [(read l i).1]) (by omega) (by omega) he
          rw [List.map_append, List.map_singleton, ← Nat.add_assoc] at this
          exact this
theorem goF_blanks {l : List Int} : ∀ {k f j : Nat} {out : List Tok}, goF (List.replicate (j + k) 32 ++ l) (f + k) j out = goF (List.replicate (j + k) 32 ++ l) f (j + k) out
  | 0, f, j, out => rfl
  | k + 1, f, j, out => by
    have hg : (List.replicate (j + (k + 1)) (32 : Int) ++ l).getD j (-1) = 32 := by
      rw [getD_app (by simp), getD_in (by simp)]; simp
    rw [show f + (k + 1) = (f + k) + 1 by omega]
    conv => lhs; unfold goF
    rw [hg, if_neg, if_pos (by decide)]
    · have := goF_blanks (l := l) (k := k) (f := f) (j := j + 1) (out := out)
      rw [show j + 1 + k = j + (k + 1) by omega] at this
      exact this
    · simp; omega
theorem goF_ok {l : List Int} : ∀ {f i : Nat} {out : List Tok}, (goF l f i out).2.2 = 0 → goF l f i out = ((goF l f i out).1, 0, 0)
  | 0, i, out, h => rfl
  | f + 1, i, out, h => by
    unfold goF at h ⊢
    by_cases h1 : l.length ≤ i ∨ l.getD i (-1) = 9053
    · rw [if_pos h1]
    · rw [if_neg h1] at h
      rw [if_neg h1]
      by_cases h2 : cls (l.getD i (-1)) = 1
      · rw [if_pos h2] at h; rw [if_pos h2]; exact goF_ok h
      · rw [if_neg h2] at h; rw [if_neg h2]
        by_cases h3 : (read l i).2.2 ≠ 0
        · rw [if_pos h3] at h; exact absurd h h3
        · rw [if_neg h3] at h; rw [if_neg h3]; exact goF_ok h
theorem cutL_ok {l : List Int} {b : Option Nat} (h : (cutL l b).2.2 = 0) : l.length ≤ 2000 ∧ b = none ∧ (goF l (l.length + 1) 0 []).2.2 = 0 ∧ cutL l b = ((goF l (l.length + 1) 0 []).1, 0, 0) := by
  unfold cutL at h ⊢
  split at h
  · cases h
  · next h1 =>
    rw [if_neg h1]
    split at h
    · next h2 => exact absurd h h2
    · next h2 =>
      rw [if_neg h2]
      cases b with
      | some _ => cases h
      | none => exact ⟨by omega, rfl, h, goF_ok h⟩
theorem cutL_of {l : List Int} (h1 : l.length ≤ 2000) (h2 : (goF l (l.length + 1) 0 []).2.2 = 0) : cutL l none = goF l (l.length + 1) 0 [] := by
  unfold cutL
  rw [if_neg (by omega), if_neg (by omega)]
/-- A comment behind. -/
theorem cutL_comment {l r : List Int} (h : (cutL l none).2.2 = 0) (hl : (l ++ 32 :: 9053 :: r).length ≤ 2000) : cutL (l ++ 32 :: 9053 :: r) none = cutL l none := by
  obtain ⟨h1, -, h2, h3⟩ := cutL_ok h
  have := goF_app (l := l) (r := r) (f := l.length + 1) (f' := (l ++ 32 :: 9053 :: r).length + 1) (i := 0) (out := []) (by omega) (by omega) (by omega) h2
  rw [cutL_of hl (by rw [this]; exact h2), this, h3, goF_ok h2]
/-- Blanks ahead. -/
theorem cutL_blanks {l : List Int} {k : Nat} (h : (cutL l none).2.2 = 0) (hl : k + l.length ≤ 2000) : cutL (List.replicate k 32 ++ l) none = ((cutL l none).1.map (shift k), 0, 0) := by
  obtain ⟨h1, -, h2, h3⟩ := cutL_ok h
  have e1 := goF_shift (b := List.replicate k 32) (l := l) (f := l.length + 1) (f' := l.length + 1) (i := 0) (out := []) (by omega) (by omega) h2
  have e2 := goF_blanks (l := l) (k := k) (f := l.length + 1) (j := 0) (out := [])
  simp only [Nat.zero_add, List.length_replicate, Nat.add_zero, List.map_nil] at e1 e2
  rw [e1] at e2
  have hlen : (List.replicate k (32 : Int) ++ l).length + 1 = l.length + 1 + k := by simp; omega
  rw [cutL_of (by simp; omega) (by rw [hlen, e2]), hlen, e2, h3]
/-- A line of 800 bytes: blanks ahead, a comment behind. -/
theorem cut_comment {s t : ByteArray} (hs : s.size ≤ 1000) (h : (cut s).2.2 = 0) (ht : Gl.dec t 0 = ([32, 9053, 39], none)) : cut (s ++ t) = cut s := by
  unfold cut at h ⊢
  obtain ⟨h1, hb, h2, h3⟩ := cutL_ok h
  have e := Gl.dec_left s t (s.size + 1) 0 (by omega) (by omega) hb
  have hlen := Gl.dec_len (s := s) (s.size + 1) 0 (by omega)
  rw [e, ht]
  simp only [Option.map_none]
  rw [hb] at h ⊢
  unfold Gl.ints at h ⊢
  rw [List.map_append]
  exact cutL_comment (r := [39]) h (by simp; omega)
theorem dec_blanks : ∀ (k : Nat) (s : ByteArray) (a : ByteArray), a.size = k → (∀ i, i < k → Gl.by_ a i = 32) → Gl.dec (a ++ s) 0 = (List.replicate k 32 ++ (Gl.dec s 0).1, (Gl.dec s 0).2.map (k + ·)) := by
  intro k s a hk hb
  have hsz : (a ++ s).size = a.size + s.size := ByteArray.size_append
  have key : ∀ j i, i + j = k → Gl.dec (a ++ s) i = (List.replicate j 32 ++ (Gl.dec s 0).1, (Gl.dec s 0).2.map (k + ·)) := by
    intro j
    induction j with
    | zero =>
      intro i hi
      have := Gl.dec_right a s (s.size + 1) 0 (by omega)
      rw [show i = a.size + 0 by omega, this, hk]; rfl
    | succ j ih =>
      intro i hi
      have hbi : Gl.by_ (a ++ s) i = 32 := by rw [Gl.by_left a s (by omega)]; exact hb i (by omega)
      have hr : Gl.read (a ++ s) i = some (32, 1) := by
        have hd : Utf8.decode (a ++ s) i = (32, 1) := by rw [Gl.decode_eq, hbi]; rfl
        unfold Gl.read
        rw [hd, if_neg (by intro e; injection e with e1 e2; cases e1)]
      rw [Gl.dec_step (by omega) hr, ih (i + 1) (by omega), List.replicate_succ, List.cons_append]
  exact key k 0 (by omega)
theorem cut_blanks {a s : ByteArray} {k : Nat} (hs : s.size ≤ 1000) (hk : k ≤ 100) (ha : a.size = k) (hb : ∀ i, i < k → Gl.by_ a i = 32) (h : (cut s).2.2 = 0) : cut (a ++ s) = ((cut s).1.map (shift k), 0, 0) := by
  unfold cut at h ⊢
  obtain ⟨h1, hbd, h2, h3⟩ := cutL_ok h
  have hlen := Gl.dec_len (s := s) (s.size + 1) 0 (by omega)
  rw [dec_blanks k s a ha hb, hbd]
  rw [hbd] at h
  simp only [Option.map_none]
  have := cutL_blanks (k := k) h (by unfold Gl.ints; simp; omega)
  unfold Gl.ints at this ⊢
  rw [List.map_append, List.map_replicate]
  exact this
end Tk

/-
  token.digit, token.letter: what stands at a place of a line.
-/
namespace Go.Proofs.YtfiefglagknclaaGreatDoor
open Go.RowKit
set_option maxHeartbeats 2000000
set_option maxRecDepth 100000
set_option linter.unusedVariables false

theorem digit_any (A : Option Addr) (c : Nat) (l : List Int) (i : Nat) (w : World) (hl : Lies w w.heap.size A (I64 l)) (hn : l.length ≤ 1000000) (hi : i ≤ 1000000) :
    Calls Tryz.prog 100 #[.slice A l.length c, .int .i64 (i : Int)] w fun e w' => e = .returned (.bool (Tk.digit (l.getD i (-1)))) ∧ w = w' := by
  by_cases hlt : i < l.length
  · obtain ⟨b, off, rfl, hb, g0⟩ := lies_i64 hl hlt
    rw [Tk.getD_in hlt]
    generalize l[i] = x at *
    clear hl
    by_cases h1 : 48 ≤ x
    · by_cases h2 : x ≤ 57
      · have E : Hid (Tk.digit x = true) := Lib.hid (by unfold Tk.digit; simp; omega)
        go_enter Tryz.func100, Tryz.ntmps100
        go_wp2_with fail
        go_ret
        exact ⟨ret_bool E.out.symm, rfl⟩
      · have E : Hid (Tk.digit x = false) := Lib.hid (by unfold Tk.digit; simp; omega)
        have q : decide (x ≤ 57) = false := decide_eq_false h2
        go_enter Tryz.func100, Tryz.ntmps100
        go_wp2_with fail
        go_ret
        exact ⟨ret_bool E.out.symm, rfl⟩
    · have E : Hid (Tk.digit x = false) := Lib.hid (by unfold Tk.digit; simp; omega)
      have q : decide (48 ≤ x) = false := decide_eq_false h1
      go_enter Tryz.func100, Tryz.ntmps100
      go_wp2_with fail
      go_ret
      exact ⟨ret_bool E.out.symm, rfl⟩
  · have E : Hid (Tk.digit (l.getD i (-1)) = false) := Lib.hid (by rw [Tk.getD_out (by omega)]; rfl)
    clear hl
    generalize Tk.digit (l.getD i (-1)) = R at *
    generalize l.length = n at *
    go_enter Tryz.func100, Tryz.ntmps100
    go_wp2_with fail
    go_ret
    exact ⟨ret_bool E.out.symm, rfl⟩

theorem letter_any (A : Option Addr) (c : Nat) (l : List Int) (i : Nat) (w : World) (hl : Lies w w.heap.size A (I64 l)) (hn : l.length ≤ 1000000) (hi : i ≤ 1000000) :
    Calls Tryz.prog 101 #[.slice A l.length c, .int .i64 (i : Int)] w fun e w' => e = .returned (.bool (Tk.cls (l.getD i (-1)) == 2)) ∧ w = w' := by
  by_cases hlt : i < l.length
  · obtain ⟨b, off, rfl, hb, g0⟩ := lies_i64 hl hlt
    rw [Tk.getD_in hlt]
    generalize l[i] = x at *
    have CL := Lib.hid (fun wx => class_any x wx)
    generalize Tk.cls x = k at *
    clear hl
    go_enter Tryz.func101, Tryz.ntmps101
    go_wp2_with fail
    refine (CL.out _).mono ?_
    rintro e w' ⟨rfl, rfl⟩
    go_wp2_with fail
    go_ret
    exact ⟨rfl, rfl⟩
  · have E : Hid ((Tk.cls (l.getD i (-1)) == 2) = false) := Lib.hid (by rw [Tk.getD_out (by omega)]; decide)
    clear hl
    generalize (Tk.cls (l.getD i (-1)) == 2) = R at *
    generalize l.length = n at *
    go_enter Tryz.func101, Tryz.ntmps101
    go_wp2_with fail
    go_ret
    exact ⟨ret_bool E.out.symm, rfl⟩
theorem may_any (x : Int) (w : World) :
    Calls Tryz.prog 121 #[.int .i64 x] w fun e w' => e = .returned (.bool (Gl.may x)) ∧ w = w' := by
  have HE : Hid (Gl.may x = (decide (0 ≤ x) && decide (x ≤ 1114111) && (decide (x < 55296) || decide (57343 < x)))) := Lib.hid rfl
  by_cases h0 : 0 ≤ x
  · by_cases h1 : x ≤ 1114111
    · by_cases h2 : x < 55296
      · have E : Hid (Gl.may x = true) := Lib.hid (by rw [HE.out]; simp; omega)
        go_enter Tryz.func121, Tryz.ntmps121
        go_wp2_with fail
        go_ret
        exact ⟨ret_bool E.out.symm, rfl⟩
      · have q2 : decide (x < 55296) = false := decide_eq_false h2
        by_cases h3 : 57343 < x
        · have E : Hid (Gl.may x = true) := Lib.hid (by rw [HE.out]; simp; omega)
          go_enter Tryz.func121, Tryz.ntmps121
          go_wp2_with fail
          go_ret
          exact ⟨ret_bool E.out.symm, rfl⟩
        · have q3 : decide (57343 < x) = false := decide_eq_false h3
          have E : Hid (Gl.may x = false) := Lib.hid (by rw [HE.out]; simp; omega)
          go_enter Tryz.func121, Tryz.ntmps121
          go_wp2_with fail
          go_ret
          exact ⟨ret_bool E.out.symm, rfl⟩
    · have q1 : decide (x ≤ 1114111) = false := decide_eq_false h1
      have E : Hid (Gl.may x = false) := Lib.hid (by rw [HE.out, q1]; simp)
      go_enter Tryz.func121, Tryz.ntmps121
      go_wp2_with fail
      go_ret
      exact ⟨ret_bool E.out.symm, rfl⟩
  · have q0 : decide (0 ≤ x) = false := decide_eq_false h0
    have E : Hid (Gl.may x = false) := Lib.hid (by rw [HE.out, q0]; simp)
    go_enter Tryz.func121, Tryz.ntmps121
    go_wp2_with fail
    go_ret
    exact ⟨ret_bool E.out.symm, rfl⟩
end Go.Proofs.YtfiefglagknclaaGreatDoor

/-
  Characters and bytes, plain: the sign of no character (U+FFFD), and how it is told from a byte that is none's.
-/
namespace Gl
open Go
set_option linter.unusedVariables false
theorem by_list (s : ByteArray) {i : Nat} (h : i < s.data.toList.length) : by_ s i = (s.data.toList[i]).toNat := by
  unfold by_
  rw [get_at (show i < s.size from h)]
  rfl
theorem pre3 {x y z : UInt8} : ∀ {l : List UInt8}, List.isPrefixOf [x, y, z] l = true ↔ ∃ r, l = x :: y :: z :: r
  | [] => by simp [List.isPrefixOf]
  | [a] => by simp [List.isPrefixOf]
  | [a, b] => by simp [List.isPrefixOf]
  | a :: b :: c :: r => by
    simp only [List.isPrefixOf, Bool.and_true, Bool.and_eq_true, beq_iff_eq, List.cons.injEq]
    constructor
    · rintro ⟨h1, h2, h3⟩; exact ⟨r, h1.symm, h2.symm, h3.symm, rfl⟩
    · rintro ⟨r', h1, h2, h3, _⟩; exact ⟨h1.symm, h2.symm, h3.symm⟩
/-- Do the three bytes of U+FFFD stand from a place on? -/
theorem sub_iff (s : ByteArray) (i : Nat) : Lib.hasPrefix (s.data.toList.drop i) [239, 191, 189] = true ↔ i + 2 < s.size ∧ by_ s i = 239 ∧ by_ s (i + 1) = 191 ∧ by_ s (i + 2) = 189 := by
  have hsz : s.data.toList.length = s.size := rfl
  unfold Lib.hasPrefix
  rw [pre3]
  constructor
  · rintro ⟨r, hr⟩
    have hl := congrArg List.length hr
    rw [List.length_drop] at hl
    simp only [List.length_cons] at hl
    have g : ∀ k (h : i + k < s.data.toList.length), by_ s (i + k) = ((s.data.toList.drop i)[k]'(by rw [List.length_drop]; omega)).toNat := fun k h => by
      rw [by_list s h, List.getElem_drop]
    refine ⟨by omega, ?_, ?_, ?_⟩
    · have := g 0 (by omega); simp only [hr] at this; exact this
    · have := g 1 (by omega); simp only [hr] at this; exact this
    · have := g 2 (by omega); simp only [hr] at this; exact this
  · rintro ⟨h1, h2, h3, h4⟩
    have k1 : i + 1 < s.data.toList.length := by omega
    have k2 : i + 2 < s.data.toList.length := by omega
    have k0 : i < s.data.toList.length := by omega
    rw [by_list s k0] at h2
    rw [by_list s k1] at h3
    rw [by_list s k2] at h4
    refine ⟨s.data.toList.drop (i + 3), ?_⟩
    rw [List.drop_eq_getElem_cons k0, List.drop_eq_getElem_cons k1, List.drop_eq_getElem_cons k2]
    rw [show s.data.toList[i] = 239 from UInt8.toNat_inj.1 h2, show s.data.toList[i + 1] = 191 from UInt8.toNat_inj.1 h3, show s.data.toList[i + 2] = 189 from UInt8.toNat_inj.1 h4]
/-- A byte that is none's: the three bytes don't stand there. -/
theorem sub_no {s : ByteArray} {i : Nat} (hi : i < s.size) (h : read s i = none) : Utf8.decode s i = (65533, 1) ∧ Lib.hasPrefix (s.data.toList.drop i) [239, 191, 189] = false := by
  unfold read at h
  split at h
  · next hd =>
    have hd' : Utf8.decode s i = (65533, 1) := hd
    refine ⟨hd', ?_⟩
    rw [Bool.eq_false_iff]
    intro hp
    obtain ⟨h1, h2, h3, h4⟩ := (sub_iff s i).1 hp
    rw [decode_eq, h2, h3, h4] at hd'
    rw [if_neg (by omega), if_neg (by omega), if_pos ⟨by omega, ⟨by omega, by omega⟩, by omega, by omega⟩] at hd'
    rw [if_pos ⟨by omega, by decide⟩] at hd'
    cases hd'
  · cases h
/-- A character: either it is another one, or its three bytes stand there. -/
theorem sub_yes {s : ByteArray} {i c n : Nat} (hi : i < s.size) (h : read s i = some (c, n)) : Utf8.decode s i = (c, n) ∧ (c = 65533 → Lib.hasPrefix (s.data.toList.drop i) [239, 191, 189] = true) := by
  have hd := (read_some h).1
  have hne := (read_some h).2
  refine ⟨hd, fun hc => ?_⟩
  have hr := refRead_eq s i hi
  rw [h] at hr
  unfold refRead at hr
  split at hr
  · cases hr
  · next c' n' hg =>
    split at hr
    · next hm =>
      injection hr with hr
      injection hr with e1 e2
      subst e1 e2
      subst hc
      obtain ⟨-, ho⟩ := hm
      have hl := congrArg List.length ho
      rw [show one 65533 = [239, 191, 189] from by decide] at ho hl
      simp only [List.length_cons, List.length_nil, List.length_map, List.length_range] at hl
      have hle := read_le hi h
      rw [← hl, range3] at ho
      simp only [List.cons.injEq, and_true] at ho
      exact (sub_iff s i).2 ⟨by omega, ho.1.symm, ho.2.1.symm, ho.2.2.symm⟩
    · cases hr
/-- What has been read, and what is left. -/
def DecAt (s : ByteArray) (pos : Nat) (done : List Nat) : Prop := pos ≤ s.size ∧ dec s 0 = (done ++ (dec s pos).1, (dec s pos).2)
theorem DecAt.start (s : ByteArray) : DecAt s 0 [] := ⟨Nat.zero_le _, by simp⟩
theorem DecAt.step {s : ByteArray} {pos c n : Nat} {done : List Nat} (h : DecAt s pos done) (hp : pos < s.size) (hr : read s pos = some (c, n)) : DecAt s (pos + n) (done ++ [c]) := by
  refine ⟨read_le hp hr, ?_⟩
  rw [h.2, dec_step hp hr]
  simp
theorem DecAt.bad {s : ByteArray} {pos : Nat} {done : List Nat} (h : DecAt s pos done) (hp : pos < s.size) (hr : read s pos = none) : dec s 0 = (done, some pos) := by
  rw [h.2, dec_bad hp hr]; simp
theorem DecAt.done {s : ByteArray} {pos : Nat} {done : List Nat} (h : DecAt s pos done) (hp : ¬ pos < s.size) : dec s 0 = (done, none) := by
  rw [h.2, dec_end (by omega)]; simp
theorem DecAt.len {s : ByteArray} {pos : Nat} {done : List Nat} (h : DecAt s pos done) : done.length ≤ s.size := by
  have h1 := dec_len (s := s) (s.size + 1) 0 (by omega)
  rw [h.2] at h1
  simp at h1
  omega
theorem DecAt.may {s : ByteArray} {pos : Nat} {done : List Nat} (h : DecAt s pos done) : ∀ c ∈ done, Gl.may (c : Int) = true := fun c hc =>
  dec_may (s := s) (s.size + 1) 0 (by omega) c (by rw [h.2]; exact List.mem_append_left _ hc)
end Gl
