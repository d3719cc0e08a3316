/-
  Texts of this proof, joined (by wip/bin/bundle.py): ArrMath, Arr, Same1, Tok2, GlyMath3, LenMath, NatLen, BldLaid, OwnQ, Dig4, RegTail, PortMath.
-/
import Derived.Test.YtfiefglagknclaaDoorM4
import Derived.Deep.QuietTactic
import Derived.BigQuiet
import Derived.LoopTactic
import Derived.Outline
import Derived.Lib.Strings
import Derived.Shelf.Lay
import Derived.Shelf.Strings.BuilderK
import Derived.Test.YtfiefglagknclaaDoorProg
import Derived.Laws.AppendOwn
import Derived.Maps.AppendAt
import Derived.Below
/-
  Arrays as trees, plain: no program in sight. Joins of labels, equality with labels and without, erasing.
-/
namespace Ar
mutual
inductive Arr where
  | mk (S : Nat) (shape : List Int) (cells : List Cel)
inductive Cel where
  | mk (L : Nat) (kind : Int) (neg : Bool) (top bot : List Nat) (c : Int) (ins : List Arr)
end

/-! ### The join of all labels, onto what was joined before -/
mutual
def tot : Arr → Nat
  | .mk S _ cells => totCels S cells
def totCels : Nat → List Cel → Nat
  | x, [] => x
  | x, c :: r => totCels (totCel x c) r
def totCel : Nat → Cel → Nat
  | x, .mk L _ _ _ _ _ ins => totArrs (x ||| L) ins
def totArrs : Nat → List Arr → Nat
  | x, [] => x
  | x, a :: r => totArrs (x ||| tot a) r
end

/-! ### The same, with labels or without -/
mutual
def same (lab : Bool) : Arr → Arr → Bool
  | .mk S sh cs, .mk S' sh' cs' => (!lab || S == S') && (sh == sh') && sameCels lab cs cs'
def sameCels (lab : Bool) : List Cel → List Cel → Bool
  | [], [] => true
  | c :: r, c' :: r' => sameCel lab c c' && sameCels lab r r'
  | _, _ => false
def sameCel (lab : Bool) : Cel → Cel → Bool
  | .mk L k n t b c ins, .mk L' k' n' t' b' c' ins' => (!lab || L == L') && (k == k') && (c == c') && (n == n' && t == t' && b == b') && sameArrs lab ins ins'
def sameArrs (lab : Bool) : List Arr → List Arr → Bool
  | [], [] => true
  | a :: r, a' :: r' => same lab a a' && sameArrs lab r r'
  | _, _ => false
end

/-! ### Without labels -/
mutual
def erase : Arr → Arr
  | .mk _ sh cs => .mk 0 sh (eraseCels cs)
def eraseCels : List Cel → List Cel
  | [] => []
  | c :: r => eraseCel c :: eraseCels r
def eraseCel : Cel → Cel
  | .mk _ k n t b c ins => .mk 0 k n t b c (eraseArrs ins)
def eraseArrs : List Arr → List Arr
  | [] => []
  | a :: r => erase a :: eraseArrs r
end

mutual
theorem same_erase : ∀ a b : Arr, same true (erase a) (erase b) = same false a b
  | .mk _ _ cs, .mk _ _ cs' => by simp [erase, same, same_eraseCels cs cs']
theorem same_eraseCels : ∀ a b : List Cel, sameCels true (eraseCels a) (eraseCels b) = sameCels false a b
  | [], [] => by simp [sameCels, eraseCels]
  | [], _ :: _ => by simp [sameCels, eraseCels]
  | _ :: _, [] => by simp [sameCels, eraseCels]
  | c :: r, c' :: r' => by simp [eraseCels, sameCels, same_eraseCel c c', same_eraseCels r r']
theorem same_eraseCel : ∀ a b : Cel, sameCel true (eraseCel a) (eraseCel b) = sameCel false a b
  | .mk _ _ _ _ _ _ ins, .mk _ _ _ _ _ _ ins' => by simp [eraseCel, sameCel, same_eraseArrs ins ins']
theorem same_eraseArrs : ∀ a b : List Arr, sameArrs true (eraseArrs a) (eraseArrs b) = sameArrs false a b
  | [], [] => by simp [sameArrs, eraseArrs]
  | [], _ :: _ => by simp [sameArrs, eraseArrs]
  | _ :: _, [] => by simp [sameArrs, eraseArrs]
  | a :: r, a' :: r' => by simp [eraseArrs, sameArrs, same_erase a a', same_eraseArrs r r']
end

mutual
theorem same_refl (lab : Bool) : ∀ a : Arr, same lab a a = true
  | .mk _ _ cs => by simp [same, sameCels_refl lab cs]
theorem sameCels_refl (lab : Bool) : ∀ a : List Cel, sameCels lab a a = true
  | [] => by simp [sameCels]
  | c :: r => by simp [sameCels, sameCel_refl lab c, sameCels_refl lab r]
theorem sameCel_refl (lab : Bool) : ∀ a : Cel, sameCel lab a a = true
  | .mk _ _ _ _ _ _ ins => by simp [sameCel, sameArrs_refl lab ins]
theorem sameArrs_refl (lab : Bool) : ∀ a : List Arr, sameArrs lab a a = true
  | [] => by simp [sameArrs]
  | a :: r => by simp [sameArrs, same_refl lab a, sameArrs_refl lab r]
end

mutual
theorem same_symm (lab : Bool) : ∀ a b : Arr, same lab a b = true → same lab b a = true
  | .mk _ _ cs, .mk _ _ cs', h => by
    simp only [same, Bool.and_eq_true, Bool.or_eq_true, Bool.not_eq_true', beq_iff_eq] at h ⊢
    exact ⟨⟨h.1.1.imp id Eq.symm, h.1.2.symm⟩, sameCels_symm lab cs cs' h.2⟩
theorem sameCels_symm (lab : Bool) : ∀ a b : List Cel, sameCels lab a b = true → sameCels lab b a = true
  | [], [], _ => by simp [sameCels]
  | [], _ :: _, h => by simp [sameCels] at h
  | _ :: _, [], h => by simp [sameCels] at h
  | c :: r, c' :: r', h => by
    simp only [sameCels, Bool.and_eq_true] at h ⊢
    exact ⟨sameCel_symm lab c c' h.1, sameCels_symm lab r r' h.2⟩
theorem sameCel_symm (lab : Bool) : ∀ a b : Cel, sameCel lab a b = true → sameCel lab b a = true
  | .mk _ _ _ _ _ _ ins, .mk _ _ _ _ _ _ ins', h => by
    simp only [sameCel, Bool.and_eq_true, Bool.or_eq_true, Bool.not_eq_true', beq_iff_eq] at h ⊢
    exact ⟨⟨⟨⟨h.1.1.1.1.imp id Eq.symm, h.1.1.1.2.symm⟩, h.1.1.2.symm⟩, ⟨h.1.2.1.1.symm, h.1.2.1.2.symm⟩, h.1.2.2.symm⟩, sameArrs_symm lab ins ins' h.2⟩
theorem sameArrs_symm (lab : Bool) : ∀ a b : List Arr, sameArrs lab a b = true → sameArrs lab b a = true
  | [], [], _ => by simp [sameArrs]
  | [], _ :: _, h => by simp [sameArrs] at h
  | _ :: _, [], h => by simp [sameArrs] at h
  | a :: r, a' :: r', h => by
    simp only [sameArrs, Bool.and_eq_true] at h ⊢
    exact ⟨same_symm lab a a' h.1, sameArrs_symm lab r r' h.2⟩
end

mutual
theorem same_trans (lab : Bool) : ∀ a b c : Arr, same lab a b = true → same lab b c = true → same lab a c = true
  | .mk _ _ cs, .mk _ _ cs', .mk _ _ cs'', h, h' => by
    simp only [same, Bool.and_eq_true, Bool.or_eq_true, Bool.not_eq_true', beq_iff_eq] at h h' ⊢
    refine ⟨⟨?_, h.1.2.trans h'.1.2⟩, sameCels_trans lab cs cs' cs'' h.2 h'.2⟩
    rcases h.1.1 with e | e
    · exact .inl e
    · rcases h'.1.1 with e' | e'
      · exact .inl e'
      · exact .inr (e.trans e')
theorem sameCels_trans (lab : Bool) : ∀ a b c : List Cel, sameCels lab a b = true → sameCels lab b c = true → sameCels lab a c = true
  | [], [], [], _, _ => by simp [sameCels]
  | [], _ :: _, _, h, _ => by simp [sameCels] at h
  | _ :: _, [], _, h, _ => by simp [sameCels] at h
  | [], [], _ :: _, _, h => by simp [sameCels] at h
  | _ :: _, _ :: _, [], _, h => by simp [sameCels] at h
  | c :: r, c' :: r', c'' :: r'', h, h' => by
    simp only [sameCels, Bool.and_eq_true] at h h' ⊢
    exact ⟨sameCel_trans lab c c' c'' h.1 h'.1, sameCels_trans lab r r' r'' h.2 h'.2⟩
theorem sameCel_trans (lab : Bool) : ∀ a b c : Cel, sameCel lab a b = true → sameCel lab b c = true → sameCel lab a c = true
  | .mk _ _ _ _ _ _ ins, .mk _ _ _ _ _ _ ins', .mk _ _ _ _ _ _ ins'', h, h' => by
    simp only [sameCel, Bool.and_eq_true, Bool.or_eq_true, Bool.not_eq_true', beq_iff_eq] at h h' ⊢
    refine ⟨⟨⟨⟨?_, h.1.1.1.2.trans h'.1.1.1.2⟩, h.1.1.2.trans h'.1.1.2⟩, ⟨h.1.2.1.1.trans h'.1.2.1.1, h.1.2.1.2.trans h'.1.2.1.2⟩, h.1.2.2.trans h'.1.2.2⟩, sameArrs_trans lab ins ins' ins'' h.2 h'.2⟩
    rcases h.1.1.1.1 with e | e
    · exact .inl e
    · rcases h'.1.1.1.1 with e' | e'
      · exact .inl e'
      · exact .inr (e.trans e')
theorem sameArrs_trans (lab : Bool) : ∀ a b c : List Arr, sameArrs lab a b = true → sameArrs lab b c = true → sameArrs lab a c = true
  | [], [], [], _, _ => by simp [sameArrs]
  | [], _ :: _, _, h, _ => by simp [sameArrs] at h
  | _ :: _, [], _, h, _ => by simp [sameArrs] at h
  | [], [], _ :: _, _, h => by simp [sameArrs] at h
  | _ :: _, _ :: _, [], _, h => by simp [sameArrs] at h
  | a :: r, a' :: r', a'' :: r'', h, h' => by
    simp only [sameArrs, Bool.and_eq_true] at h h' ⊢
    exact ⟨same_trans lab a a' a'' h.1 h'.1, sameArrs_trans lab r r' r'' h.2 h'.2⟩
end

theorem sameCels_len (lab : Bool) : ∀ {a b : List Cel}, sameCels lab a b = true → a.length = b.length
  | [], [], _ => rfl
  | [], _ :: _, h => by simp [sameCels] at h
  | _ :: _, [], h => by simp [sameCels] at h
  | c :: r, c' :: r', h => by
    simp only [sameCels, Bool.and_eq_true] at h
    simp [sameCels_len lab h.2]
theorem sameArrs_len (lab : Bool) : ∀ {a b : List Arr}, sameArrs lab a b = true → a.length = b.length
  | [], [], _ => rfl
  | [], _ :: _, h => by simp [sameArrs] at h
  | _ :: _, [], h => by simp [sameArrs] at h
  | c :: r, c' :: r', h => by
    simp only [sameArrs, Bool.and_eq_true] at h
    simp [sameArrs_len lab h.2]
theorem eraseCels_len : ∀ a : List Cel, (eraseCels a).length = a.length
  | [] => by simp [eraseCels]
  | _ :: r => by simp [eraseCels, eraseCels_len r]
theorem eraseArrs_len : ∀ a : List Arr, (eraseArrs a).length = a.length
  | [] => by simp [eraseArrs]
  | _ :: r => by simp [eraseArrs, eraseArrs_len r]
theorem totCels_drop {cs : List Cel} {k : Nat} (h : k < cs.length) (x : Nat) : totCels x (cs.drop k) = totCels (totCel x cs[k]) (cs.drop (k + 1)) := by
  rw [List.drop_eq_getElem_cons h, totCels]
theorem totArrs_drop {cs : List Arr} {k : Nat} (h : k < cs.length) (x : Nat) : totArrs x (cs.drop k) = totArrs (x ||| tot cs[k]) (cs.drop (k + 1)) := by
  rw [List.drop_eq_getElem_cons h, totArrs]
theorem sameCels_drop (lab : Bool) {cs cs' : List Cel} {k : Nat} (h : k < cs.length) (h' : k < cs'.length) : sameCels lab (cs.drop k) (cs'.drop k) = (sameCel lab cs[k] cs'[k] && sameCels lab (cs.drop (k + 1)) (cs'.drop (k + 1))) := by
  rw [List.drop_eq_getElem_cons h, List.drop_eq_getElem_cons h', sameCels]
theorem sameArrs_drop (lab : Bool) {cs cs' : List Arr} {k : Nat} (h : k < cs.length) (h' : k < cs'.length) : sameArrs lab (cs.drop k) (cs'.drop k) = (same lab cs[k] cs'[k] && sameArrs lab (cs.drop (k + 1)) (cs'.drop (k + 1))) := by
  rw [List.drop_eq_getElem_cons h, List.drop_eq_getElem_cons h', sameArrs]
theorem eraseCels_take {cs : List Cel} {k : Nat} (h : k < cs.length) : eraseCels (cs.take (k + 1)) = eraseCels (cs.take k) ++ [eraseCel cs[k]] := by
  rw [List.take_succ_eq_append_getElem h]
  generalize cs.take k = l
  induction l with
  | nil => rfl
  | cons a r ih => simp [eraseCels, ih]
theorem eraseArrs_take {cs : List Arr} {k : Nat} (h : k < cs.length) : eraseArrs (cs.take (k + 1)) = eraseArrs (cs.take k) ++ [erase cs[k]] := by
  rw [List.take_succ_eq_append_getElem h]
  generalize cs.take k = l
  induction l with
  | nil => rfl
  | cons a r ih => simp [eraseArrs, ih]
end Ar

/-
  Arrays in memory: what it is that cells hold a tree ('IsArr'), kept from world to world.
-/
namespace Go.Proofs.YtfiefglagknclaaDoor
open Go.RowKit Ar
set_option linter.unusedVariables false

/-- A slice value that holds n elements of so many bytes each. -/
def Fits (n c bytes : Nat) : Prop := n ≤ c ∧ n * bytes ≤ 140737488351232 ∧ c ≤ 9223372036854775807
theorem Fits.le {n c bytes : Nat} (h : Fits n c bytes) (hb : 1 ≤ bytes) : n ≤ c ∧ n ≤ 140737488351232 := by
  refine ⟨h.1, ?_⟩
  have h1 := Nat.mul_le_mul_left n hb
  have h2 := h.2.1
  omega
def Wf64 (l : List Int) : Prop := ∀ n ∈ l, -9223372036854775808 ≤ n ∧ n ≤ 9223372036854775807
def Wf32 (l : List Nat) : Prop := ∀ n ∈ l, n < 4294967296
def I64 (l : List Int) : List Value := l.map (Value.int .i64)
def U32 (l : List Nat) : List Value := l.map fun n : Nat => Value.int .u32 (n : Int)

mutual
/-- Three cells hold an array. -/
def IsArr (w : World) (B : Nat) : Arr → List Value → Prop
  | .mk S shape cells, vs => ∃ A c A' c' us, vs = [.int .u64 (S : Int), .slice A shape.length c, .slice A' cells.length c'] ∧ S < 18446744073709551616 ∧ Fits shape.length c 8 ∧ Fits cells.length c' 104 ∧ Wf64 shape ∧
      Lies w B A (I64 shape) ∧ Lies w B A' us ∧ IsCels w B cells us
def IsCels (w : World) (B : Nat) : List Cel → List Value → Prop
  | [], vs => vs = []
  | c :: r, vs => ∃ u t, vs = u ++ t ∧ IsCel w B c u ∧ IsCels w B r t
/-- Seven cells hold a cell. -/
def IsCel (w : World) (B : Nat) : Cel → List Value → Prop
  | .mk L kind neg top bot ch ins, vs => ∃ A c A' c' A'' c'' us, vs = [.int .u64 (L : Int), .int .i64 kind, .bool neg, .slice A top.length c, .slice A' bot.length c', .int .i64 ch, .slice A'' ins.length c''] ∧
      L < 18446744073709551616 ∧ Fits top.length c 4 ∧ Fits bot.length c' 4 ∧ Fits ins.length c'' 56 ∧ Wf64 [kind, ch] ∧ Wf32 top ∧ Wf32 bot ∧ Lies w B A (U32 top) ∧ Lies w B A' (U32 bot) ∧ Lies w B A'' us ∧ IsArrs w B ins us ∧ (A = none → c = 0) ∧ (A' = none → c' = 0)
def IsArrs (w : World) (B : Nat) : List Arr → List Value → Prop
  | [], vs => vs = []
  | a :: r, vs => ∃ u t, vs = u ++ t ∧ IsArr w B a u ∧ IsArrs w B r t
end

theorem IsArr.len {w : World} {B : Nat} {a : Arr} {vs : List Value} (h : IsArr w B a vs) : vs.length = 3 := by
  cases a; rw [IsArr] at h
  obtain ⟨A, c, A', c', us, rfl, _⟩ := h
  rfl
theorem IsCel.len {w : World} {B : Nat} {a : Cel} {vs : List Value} (h : IsCel w B a vs) : vs.length = 7 := by
  cases a; rw [IsCel] at h
  obtain ⟨A, c, A', c', A2, c2, us, rfl, _⟩ := h
  rfl

mutual
theorem IsArr.keep {w w' : World} {B B' : Nat} (hk : ∀ p : Addr, p.block < B → w'.cell? p = w.cell? p) (hB : B ≤ B') : ∀ (a : Arr) (vs : List Value), IsArr w B a vs → IsArr w' B' a vs
  | .mk S shape cells, vs, h => by
    rw [IsArr] at h ⊢
    obtain ⟨A, c, A', c', us, h1, h2, h3, h4, h5, h6, h7, h8⟩ := h
    exact ⟨A, c, A', c', us, h1, h2, h3, h4, h5, (h6.keep hk).more hB, (h7.keep hk).more hB, IsCels.keep hk hB cells us h8⟩
theorem IsCels.keep {w w' : World} {B B' : Nat} (hk : ∀ p : Addr, p.block < B → w'.cell? p = w.cell? p) (hB : B ≤ B') : ∀ (a : List Cel) (vs : List Value), IsCels w B a vs → IsCels w' B' a vs
  | [], vs, h => by rw [IsCels] at h ⊢; exact h
  | c :: r, vs, h => by
    rw [IsCels] at h ⊢
    obtain ⟨u, t, h1, h2, h3⟩ := h
    exact ⟨u, t, h1, IsCel.keep hk hB c u h2, IsCels.keep hk hB r t h3⟩
theorem IsCel.keep {w w' : World} {B B' : Nat} (hk : ∀ p : Addr, p.block < B → w'.cell? p = w.cell? p) (hB : B ≤ B') : ∀ (a : Cel) (vs : List Value), IsCel w B a vs → IsCel w' B' a vs
  | .mk L kind neg top bot ch ins, vs, h => by
    rw [IsCel] at h ⊢
    obtain ⟨A, c, A', c', A2, c2, us, h1, h2, h3, h4, h5, h6, h7, h8, h9, h10, h11, h12⟩ := h
    exact ⟨A, c, A', c', A2, c2, us, h1, h2, h3, h4, h5, h6, h7, h8, (h9.keep hk).more hB, (h10.keep hk).more hB, (h11.keep hk).more hB, IsArrs.keep hk hB ins us h12.1, h12.2⟩
theorem IsArrs.keep {w w' : World} {B B' : Nat} (hk : ∀ p : Addr, p.block < B → w'.cell? p = w.cell? p) (hB : B ≤ B') : ∀ (a : List Arr) (vs : List Value), IsArrs w B a vs → IsArrs w' B' a vs
  | [], vs, h => by rw [IsArrs] at h ⊢; exact h
  | c :: r, vs, h => by
    rw [IsArrs] at h ⊢
    obtain ⟨u, t, h1, h2, h3⟩ := h
    exact ⟨u, t, h1, IsArr.keep hk hB c u h2, IsArrs.keep hk hB r t h3⟩
end
theorem IsArr.below {w w' : World} {B : Nat} {a : Arr} {vs : List Value} (h : IsArr w B a vs) (hb : Below B w w') : IsArr w' B a vs := IsArr.keep (fun _ hp => hb.cell hp) (Nat.le_refl _) a vs h
theorem IsArr.more {w : World} {B B' : Nat} {a : Arr} {vs : List Value} (h : IsArr w B a vs) (hB : B ≤ B') : IsArr w B' a vs := IsArr.keep (fun _ _ => rfl) hB a vs h
theorem IsCel.below {w w' : World} {B : Nat} {a : Cel} {vs : List Value} (h : IsCel w B a vs) (hb : Below B w w') : IsCel w' B a vs := IsCel.keep (fun _ hp => hb.cell hp) (Nat.le_refl _) a vs h
theorem IsArrs.below {w w' : World} {B : Nat} {a : List Arr} {vs : List Value} (h : IsArrs w B a vs) (hb : Below B w w') : IsArrs w' B a vs := IsArrs.keep (fun _ hp => hb.cell hp) (Nat.le_refl _) a vs h
theorem IsCels.below {w w' : World} {B : Nat} {a : List Cel} {vs : List Value} (h : IsCels w B a vs) (hb : Below B w w') : IsCels w' B a vs := IsCels.keep (fun _ hp => hb.cell hp) (Nat.le_refl _) a vs h

theorem IsCels.at_ {w : World} {B : Nat} : ∀ {cs : List Cel} {vs : List Value} (h : IsCels w B cs vs) {k : Nat} (hk : k < cs.length), ∃ u, IsCel w B cs[k] u ∧ u = (vs.drop (7 * k)).take 7
  | [], _, _, _, hk => by simp at hk
  | c :: r, vs, h, 0, _ => by
    rw [IsCels] at h
    obtain ⟨u, t, rfl, h2, h3⟩ := h
    exact ⟨u, h2, by simp [h2.len]⟩
  | c :: r, vs, h, k + 1, hk => by
    rw [IsCels] at h
    obtain ⟨u, t, rfl, h2, h3⟩ := h
    obtain ⟨u', h4, h5⟩ := h3.at_ (k := k) (by simpa using hk)
    refine ⟨u', h4, h5.trans ?_⟩
    rw [show 7 * (k + 1) = u.length + 7 * k by rw [h2.len]; omega, List.drop_append, List.drop_eq_nil_of_le (Nat.le_add_right _ _), Nat.add_sub_cancel_left, List.nil_append]
theorem IsArrs.at_ {w : World} {B : Nat} : ∀ {cs : List Arr} {vs : List Value} (h : IsArrs w B cs vs) {k : Nat} (hk : k < cs.length), ∃ u, IsArr w B cs[k] u ∧ u = (vs.drop (3 * k)).take 3
  | [], _, _, _, hk => by simp at hk
  | c :: r, vs, h, 0, _ => by
    rw [IsArrs] at h
    obtain ⟨u, t, rfl, h2, h3⟩ := h
    exact ⟨u, h2, by simp [h2.len]⟩
  | c :: r, vs, h, k + 1, hk => by
    rw [IsArrs] at h
    obtain ⟨u, t, rfl, h2, h3⟩ := h
    obtain ⟨u', h4, h5⟩ := h3.at_ (k := k) (by simpa using hk)
    refine ⟨u', h4, h5.trans ?_⟩
    rw [show 3 * (k + 1) = u.length + 3 * k by rw [h2.len]; omega, List.drop_append, List.drop_eq_nil_of_le (Nat.le_add_right _ _), Nat.add_sub_cancel_left, List.nil_append]
theorem IsCels.len {w : World} {B : Nat} : ∀ {cs : List Cel} {vs : List Value} (h : IsCels w B cs vs), vs.length = 7 * cs.length
  | [], _, h => by rw [IsCels] at h; subst h; rfl
  | c :: r, vs, h => by
    rw [IsCels] at h
    obtain ⟨u, t, rfl, h2, h3⟩ := h
    rw [List.length_append, h2.len, h3.len, List.length_cons]; omega
theorem IsArrs.len {w : World} {B : Nat} : ∀ {cs : List Arr} {vs : List Value} (h : IsArrs w B cs vs), vs.length = 3 * cs.length
  | [], _, h => by rw [IsArrs] at h; subst h; rfl
  | c :: r, vs, h => by
    rw [IsArrs] at h
    obtain ⟨u, t, rfl, h2, h3⟩ := h
    rw [List.length_append, h2.len, h3.len, List.length_cons]; omega
theorem IsCels.snoc {w : World} {B : Nat} : ∀ {cs : List Cel} {vs : List Value} (h : IsCels w B cs vs) {c : Cel} {u : List Value} (hc : IsCel w B c u), IsCels w B (cs ++ [c]) (vs ++ u)
  | [], vs, h, c, u, hc => by
    rw [IsCels] at h; subst h
    show IsCels w B [c] _
    rw [IsCels]; exact ⟨u, [], by simp, hc, by rw [IsCels]⟩
  | x :: r, vs, h, c, u, hc => by
    rw [IsCels] at h
    obtain ⟨u', t, rfl, h2, h3⟩ := h
    show IsCels w B (x :: (r ++ [c])) _
    rw [IsCels]; exact ⟨u', t ++ u, by simp, h2, h3.snoc hc⟩
theorem IsArrs.snoc {w : World} {B : Nat} : ∀ {cs : List Arr} {vs : List Value} (h : IsArrs w B cs vs) {c : Arr} {u : List Value} (hc : IsArr w B c u), IsArrs w B (cs ++ [c]) (vs ++ u)
  | [], vs, h, c, u, hc => by
    rw [IsArrs] at h; subst h
    show IsArrs w B [c] _
    rw [IsArrs]; exact ⟨u, [], by simp, hc, by rw [IsArrs]⟩
  | x :: r, vs, h, c, u, hc => by
    rw [IsArrs] at h
    obtain ⟨u', t, rfl, h2, h3⟩ := h
    show IsArrs w B (x :: (r ++ [c])) _
    rw [IsArrs]; exact ⟨u', t ++ u, by simp, h2, h3.snoc hc⟩

/-- The cells of the k-th element of a row of elements of so many cells each. -/
theorem Lies.elem {w : World} {B : Nat} {A : Option Addr} {vs : List Value} (h : Lies w B A vs) {m k : Nat} {u : List Value} (hu : u = (vs.drop (m * k)).take m) (hn : u ≠ []) :
    ∃ b off, A = some ⟨b, off, none⟩ ∧ b < B ∧ ∀ j v, u[j]? = some v → w.cell? ⟨b, off + k * m + j, none⟩ = some v := by
  rcases h with h | ⟨b, off, hA, hb, hc⟩
  · subst h; simp at hu; exact absurd hu hn
  · refine ⟨b, off, hA, hb, fun j v hv => ?_⟩
    have := hc (k * m + j) v (by
      rw [hu, List.getElem?_take] at hv
      split at hv
      · rw [List.getElem?_drop] at hv; rw [← hv, Nat.mul_comm]
      · cases hv)
    rw [← this, Nat.add_assoc]

/-- What stands behind the slices of a cell. -/
structure CelIn (w : World) (B : Nat) (ce : Cel) (L : Nat) (kind : Int) (neg : Bool) (top bot : List Nat) (ch : Int) (ins : List Arr) (A1 A2 A3 : Option Addr) (c1 c2 c3 : Nat) (us : List Value) : Prop where
  eq : ce = .mk L kind neg top bot ch ins
  lt : Lies w B A1 (U32 top)
  lb : Lies w B A2 (U32 bot)
  li : Lies w B A3 us
  arrs : IsArrs w B ins us
  wt : Wf32 top
  wb : Wf32 bot
  wk : Wf64 [kind, ch]
  ft : Fits top.length c1 4
  fb : Fits bot.length c2 4
  fi : Fits ins.length c3 56
  nt : A1 = none → c1 = 0
  nb : A2 = none → c2 = 0
/-- The k-th cell of an array, read. -/
theorem cel_at {w wr : World} {B : Nat} {A : Option Addr} {cells : List Cel} {us : List Value} {k : Nat} (hcs : IsCels w B cells us) (hl : Lies w B A us) (hk : ∀ p : Addr, p.block < B → wr.cell? p = w.cell? p) (hlt : k < cells.length) :
    ∃ b off L kind neg top bot ch ins A1 c1 A2 c2 A3 c3 us3, A = some ⟨b, off, none⟩ ∧ b < B ∧ L < 18446744073709551616 ∧ Hid (CelIn w B cells[k] L kind neg top bot ch ins A1 A2 A3 c1 c2 c3 us3) ∧
      top.length ≤ c1 ∧ top.length ≤ 35184372088832 ∧ bot.length ≤ c2 ∧ bot.length ≤ 35184372088832 ∧ ins.length ≤ c3 ∧ ins.length ≤ 35184372088832 ∧
      wr.cell? ⟨b, off + k * 7, none⟩ = some (.int .u64 (L : Int)) ∧ wr.cell? ⟨b, off + k * 7 + 1, none⟩ = some (.int .i64 kind) ∧ wr.cell? ⟨b, off + k * 7 + 2, none⟩ = some (.bool neg) ∧
      wr.cell? ⟨b, off + k * 7 + 3, none⟩ = some (.slice A1 top.length c1) ∧ wr.cell? ⟨b, off + k * 7 + 4, none⟩ = some (.slice A2 bot.length c2) ∧ wr.cell? ⟨b, off + k * 7 + 5, none⟩ = some (.int .i64 ch) ∧
      wr.cell? ⟨b, off + k * 7 + 6, none⟩ = some (.slice A3 ins.length c3) := by
  obtain ⟨u, hu, hue⟩ := hcs.at_ hlt
  obtain ⟨b, off, rfl, hb, hcell⟩ := hl.elem hue (by intro h; have := hu.len; rw [h] at this; cases this)
  obtain ⟨ce, hce⟩ : ∃ ce, ce = cells[k] := ⟨_, rfl⟩
  rw [← hce] at hu ⊢
  obtain ⟨L, kind, neg, top, bot, ch, ins⟩ := ce
  rw [IsCel] at hu
  obtain ⟨A1, c1, A2, c2, A3, c3, us3, rfl, hL, hf1, hf2, hf3, hw1, hw2, hw3, hl1, hl2, hl3, hins, hnt, hnb⟩ := hu
  have hc : ∀ j v, [Value.int .u64 (L : Int), .int .i64 kind, .bool neg, .slice A1 top.length c1, .slice A2 bot.length c2, .int .i64 ch, .slice A3 ins.length c3][j]? = some v → wr.cell? ⟨b, off + k * 7 + j, none⟩ = some v := fun j v hv => (hk ⟨b, off + k * 7 + j, none⟩ hb).trans (hcell j v hv)
  have h1 := hf1.2
  have h2 := hf2.2
  have h3 := hf3.2
  exact ⟨b, off, L, kind, neg, top, bot, ch, ins, A1, c1, A2, c2, A3, c3, us3, rfl, hb, hL, Lib.hid ⟨rfl, hl1, hl2, hl3, hins, hw2, hw3, hw1, hf1, hf2, hf3, hnt, hnb⟩, hf1.1, by omega, hf2.1, by omega, hf3.1, by omega, hc 0 _ rfl, hc 1 _ rfl, hc 2 _ rfl, hc 3 _ rfl, hc 4 _ rfl, hc 5 _ rfl, hc 6 _ rfl⟩
/-- The form of an array's three cells. -/
theorem IsArr.form {w : World} {B : Nat} {a : Arr} {vs : List Value} (h : IsArr w B a vs) : ∃ (S : Nat) (A : Option Addr) (n c : Nat) (A' : Option Addr) (n' c' : Nat), vs = [.int .u64 (S : Int), .slice A n c, .slice A' n' c'] := by
  cases a; rw [IsArr] at h
  obtain ⟨A, c, A', c', us, rfl, _⟩ := h
  exact ⟨_, _, _, _, _, _, _, rfl⟩
/-- The k-th array of a list of arrays, read. -/
theorem arr_at {w wr : World} {B : Nat} {A : Option Addr} {arrs : List Arr} {us : List Value} {k : Nat} (hcs : IsArrs w B arrs us) (hl : Lies w B A us) (hk : ∀ p : Addr, p.block < B → wr.cell? p = w.cell? p) (hlt : k < arrs.length) :
    ∃ (b off S' : Nat) (X : Option Addr) (n c : Nat) (X' : Option Addr) (n' c' : Nat), A = some ⟨b, off, none⟩ ∧ b < B ∧ Hid (IsArr w B arrs[k] [.int .u64 (S' : Int), .slice X n c, .slice X' n' c']) ∧ wr.cell? ⟨b, off + k * 3, none⟩ = some (.int .u64 (S' : Int)) ∧ wr.cell? ⟨b, off + k * 3 + 1, none⟩ = some (.slice X n c) ∧ wr.cell? ⟨b, off + k * 3 + 2, none⟩ = some (.slice X' n' c') := by
  obtain ⟨u, hu, hue⟩ := hcs.at_ hlt
  obtain ⟨b, off, rfl, hb, hcell⟩ := hl.elem hue (by intro h; have := hu.len; rw [h] at this; cases this)
  obtain ⟨S, X, n, c, X', n', c', rfl⟩ := hu.form
  have hc : ∀ j v, [Value.int .u64 (S : Int), .slice X n c, .slice X' n' c'][j]? = some v → wr.cell? ⟨b, off + k * 3 + j, none⟩ = some v := fun j v hv => (hk ⟨b, off + k * 3 + j, none⟩ hb).trans (hcell j v hv)
  exact ⟨b, off, S, X, n, c, X', n', c', rfl, hb, Lib.hid hu, hc 0 _ rfl, hc 1 _ rfl, hc 2 _ rfl⟩
mutual
theorem tot_lt {w : World} {B : Nat} : ∀ (a : Arr) (vs : List Value), IsArr w B a vs → tot a < 18446744073709551616
  | .mk S shape cells, vs, h => by
    rw [IsArr] at h
    obtain ⟨A, c, A', c', us, h1, h2, h3, h4, h5, h6, h7, h8⟩ := h
    exact totCels_lt cells us S h8 h2
theorem totCels_lt {w : World} {B : Nat} : ∀ (a : List Cel) (vs : List Value) (x : Nat), IsCels w B a vs → x < 18446744073709551616 → totCels x a < 18446744073709551616
  | [], vs, x, h, hx => by rw [totCels]; exact hx
  | c :: r, vs, x, h, hx => by
    rw [IsCels] at h
    obtain ⟨u, t, h1, h2, h3⟩ := h
    rw [totCels]
    exact totCels_lt r t _ h3 (totCel_lt c u x h2 hx)
theorem totCel_lt {w : World} {B : Nat} : ∀ (a : Cel) (vs : List Value) (x : Nat), IsCel w B a vs → x < 18446744073709551616 → totCel x a < 18446744073709551616
  | .mk L kind neg top bot ch ins, vs, x, h, hx => by
    rw [IsCel] at h
    obtain ⟨A, c, A', c', A2, c2, us, h1, h2, h3, h4, h5, h6, h7, h8, h9, h10, h11, h12⟩ := h
    rw [totCel]
    exact totArrs_lt ins us _ h12.1 (Nat.or_lt_two_pow (n := 64) hx h2)
theorem totArrs_lt {w : World} {B : Nat} : ∀ (a : List Arr) (vs : List Value) (x : Nat), IsArrs w B a vs → x < 18446744073709551616 → totArrs x a < 18446744073709551616
  | [], vs, x, h, hx => by rw [totArrs]; exact hx
  | c :: r, vs, x, h, hx => by
    rw [IsArrs] at h
    obtain ⟨u, t, h1, h2, h3⟩ := h
    rw [totArrs]
    exact totArrs_lt r t _ h3 (Nat.or_lt_two_pow (n := 64) hx (tot_lt c u h2))
end
theorem size_ins {S : Nat} {shape : List Int} {cells : List Cel} {k : Nat} (hk : k < cells.length) {L : Nat} {kind : Int} {neg : Bool} {top bot : List Nat} {ch : Int} {ins : List Arr} (he : cells[k] = .mk L kind neg top bot ch ins) {i : Nat} (hi : i < ins.length) :
    SizeOf.sizeOf ins[i] < SizeOf.sizeOf (Arr.mk S shape cells) := by
  have h1 := List.sizeOf_lt_of_mem (List.getElem_mem hi)
  have h2 := List.sizeOf_lt_of_mem (List.getElem_mem hk)
  rw [he] at h2
  simp only [Arr.mk.sizeOf_spec, Cel.mk.sizeOf_spec] at *
  omega
end Go.Proofs.YtfiefglagknclaaDoor

/-
  Lists compared: slices.Equal, and the reference's. (Printed by wip/bin/gen_same1.py.)
-/
namespace Go.Proofs.YtfiefglagknclaaDoor
open Go.RowKit Ar
set_option maxHeartbeats 1000000
set_option linter.unusedVariables false

theorem beq_at {α : Type} [BEq α] [LawfulBEq α] {l l' : List α} {k : Nat} (h : k < l.length) (h' : k < l'.length) (hne : l[k] ≠ l'[k]) : (l == l') = false := by
  rw [beq_eq_false_iff_ne]
  rintro rfl
  exact hne rfl
theorem beq_take {α : Type} [BEq α] [LawfulBEq α] {l l' : List α} {k : Nat} (hl : l.length = l'.length) (hk : k = l.length) (h : l.take k = l'.take k) : (l == l') = true := by
  rw [beq_iff_eq]
  rwa [hk, List.take_length, hl, List.take_length] at h
theorem beq_len {α : Type} [BEq α] [LawfulBEq α] {l l' : List α} (h : l.length ≠ l'.length) : (l == l') = false := by
  rw [beq_eq_false_iff_ne]
  rintro rfl
  exact h rfl
theorem take_more {α : Type} {l l' : List α} {k : Nat} (h : k < l.length) (h' : k < l'.length) (he : l.take k = l'.take k) (hk : l[k] = l'[k]) : l.take (k + 1) = l'.take (k + 1) := by
  rw [List.take_succ_eq_append_getElem h, List.take_succ_eq_append_getElem h', he, hk]
theorem below_drewN' {B : Nat} {w w' : World} (h : Below B w w') (n : Nat) : Below B w (w'.drewN n) := ⟨h.os, h.tape, h.output, h.size, h.block⟩
theorem lies_i64 {w : World} {B : Nat} {A : Option Addr} {l : List Int} (h : Lies w B A (I64 l)) {k : Nat} (hk : k < l.length) : ∃ b off, A = some ⟨b, off, none⟩ ∧ b < B ∧ w.cell? ⟨b, off + k, none⟩ = some (.int .i64 l[k]) := by
  obtain ⟨b, off, h1, h2, h3⟩ := h.at_ (k := k) (by simpa [I64] using hk)
  exact ⟨b, off, h1, h2, by rw [h3]; simp [I64]⟩
theorem lies_u32 {w : World} {B : Nat} {A : Option Addr} {l : List Nat} (h : Lies w B A (U32 l)) {k : Nat} (hk : k < l.length) : ∃ b off, A = some ⟨b, off, none⟩ ∧ b < B ∧ w.cell? ⟨b, off + k, none⟩ = some (.int .u32 (l[k] : Int)) := by
  obtain ⟨b, off, h1, h2, h3⟩ := h.at_ (k := k) (by simpa [U32] using hk)
  exact ⟨b, off, h1, h2, by rw [h3]; simp [U32]⟩

theorem refInts_any (l l' : List Int) (A A' : Option Addr) (c c' : Nat) (w : World) (B : Nat) (hA : Lies w B A (I64 l)) (hA' : Lies w B A' (I64 l')) (hn : l.length ≤ 9223372036854775807) (hn' : l'.length ≤ 9223372036854775807) :
    Calls Tryd.prog 110 #[.slice A l.length c, .slice A' l'.length c'] w fun e w' => e = .returned (.bool (l == l')) ∧ Below w.heap.size w w' := by
  have HA := Lib.hid hA
  have HA' := Lib.hid hA'
  clear hA hA'
  by_cases hne : l.length = l'.length
  · have hd : (l.length != l'.length) = false := by simpa using hne
    have hln : l.length ≤ l'.length := by omega
    have HN := Lib.hid hne
    clear hne
    go_enter Tryd.func110, Tryd.ntmps110
    go_wp2_with fail
    go_loopw [5] (fun i wr => ∃ k n : Nat, k ≤ l.length ∧ i = .int .i64 k ∧ wr = w.drewN n ∧ Hid (l.take k = l'.take k)) (fun i _ => l.length - (intOf i).toNat)
    case atStart => exact ⟨0, 0, Nat.zero_le _, rfl, rfl, Lib.hid rfl⟩
    case round =>
      obtain ⟨k, n, hk, rfl, rfl, HT⟩ := hrel
      by_cases hlt : k < l.length
      · have hlt' : k < l'.length := by omega
        obtain ⟨b, off, rfl, hb, g0⟩ := lies_i64 HA.out hlt
        obtain ⟨b', off', rfl, hb', g1⟩ := lies_i64 HA'.out hlt'
        have HM := Lib.hid (take_more hlt hlt' HT.out)
        have HZ := Lib.hid (beq_at (l := l) (l' := l') hlt hlt')
        generalize l[k] = x at g0 HM HZ
        generalize l'[k] = y at g1 HM HZ
        have hk0 : (0 : Int) ≤ (k : Int) := by omega
        have hk1 : (k : Int) < (l.length : Int) := by omega
        have hk2 : (k : Int) < (l'.length : Int) := by omega
        by_cases hxy : x = y
        · subst hxy
          have e1 : (x != x) = false := by simp
          have HM2 := Lib.hid (HM.out rfl)
          clear HM HZ
          go_wp2_with fail
          go_quiet (fail)
          go_wp2_with fail
          go_roundw
          case rel => exact ⟨k + 1, n + nq, by omega, by go_num, rfl, HM2⟩
          case measure => simp [intOf]; omega
        · have e1 : (x != y) = true := by simpa using hxy
          have HZ2 := Lib.hid (HZ.out hxy)
          skip
          clear HM HZ hxy
          go_wp2_with fail
          go_quiet (fail)
          go_wp2_with fail
          go_ret
          exact ⟨ret_bool (by rw [HZ2.out]), below_drewN' (below_drewN' (Below.refl _ _) _) _⟩
      · have hke : k = l.length := by omega
        have HZ2 := Lib.hid (beq_take HN.out hke HT.out)
        clear hke HT
        go_wp2_with fail
        go_ret
        exact ⟨ret_bool (by rw [HZ2.out]), below_drewN' (Below.refl _ _) _⟩
  · have hd : (l.length != l'.length) = true := by simpa using hne
    have HZ2 := Lib.hid (beq_len hne)
    clear hne
    go_enter Tryd.func110, Tryd.ntmps110
    go_wp2_with fail
    go_ret
    exact ⟨ret_bool (by rw [HZ2.out]), Below.refl _ _⟩

theorem refSame2_any (l l' : List Nat) (A A' : Option Addr) (c c' : Nat) (w : World) (B : Nat) (hA : Lies w B A (U32 l)) (hA' : Lies w B A' (U32 l')) (hn : l.length ≤ 9223372036854775807) (hn' : l'.length ≤ 9223372036854775807) :
    Calls Tryd.prog 36 #[.slice A l.length c, .slice A' l'.length c'] w fun e w' => e = .returned (.bool (l == l')) ∧ Below w.heap.size w w' := by
  have HA := Lib.hid hA
  have HA' := Lib.hid hA'
  clear hA hA'
  by_cases hne : l.length = l'.length
  · have hd : (l.length != l'.length) = false := by simpa using hne
    have hln : l.length ≤ l'.length := by omega
    have HN := Lib.hid hne
    clear hne
    go_enter Tryd.func36, Tryd.ntmps36
    go_wp2_with fail
    go_loopw [5] (fun i wr => ∃ k n : Nat, k ≤ l.length ∧ i = .int .i64 k ∧ wr = w.drewN n ∧ Hid (l.take k = l'.take k)) (fun i _ => l.length - (intOf i).toNat)
    case atStart => exact ⟨0, 0, Nat.zero_le _, rfl, rfl, Lib.hid rfl⟩
    case round =>
      obtain ⟨k, n, hk, rfl, rfl, HT⟩ := hrel
      by_cases hlt : k < l.length
      · have hlt' : k < l'.length := by omega
        obtain ⟨b, off, rfl, hb, g0⟩ := lies_u32 HA.out hlt
        obtain ⟨b', off', rfl, hb', g1⟩ := lies_u32 HA'.out hlt'
        have HM := Lib.hid (take_more hlt hlt' HT.out)
        have HZ := Lib.hid (beq_at (l := l) (l' := l') hlt hlt')
        generalize l[k] = x at g0 HM HZ
        generalize l'[k] = y at g1 HM HZ
        have hk0 : (0 : Int) ≤ (k : Int) := by omega
        have hk1 : (k : Int) < (l.length : Int) := by omega
        have hk2 : (k : Int) < (l'.length : Int) := by omega
        by_cases hxy : x = y
        · subst hxy
          have e1 : (x != x) = false := by simp
          have HM2 := Lib.hid (HM.out rfl)
          clear HM HZ
          go_wp2_with fail
          go_quiet (fail)
          go_wp2_with fail
          go_roundw
          case rel => exact ⟨k + 1, n + nq, by omega, by go_num, rfl, HM2⟩
          case measure => simp [intOf]; omega
        · have e1 : (x != y) = true := by simpa using hxy
          have HZ2 := Lib.hid (HZ.out hxy)
          have e2 : ((x : Int) != (y : Int)) = true := by simp; omega
          clear HM HZ hxy
          go_wp2_with fail
          go_quiet (fail)
          go_wp2_with fail
          go_ret
          exact ⟨ret_bool (by rw [HZ2.out]), below_drewN' (below_drewN' (Below.refl _ _) _) _⟩
      · have hke : k = l.length := by omega
        have HZ2 := Lib.hid (beq_take HN.out hke HT.out)
        clear hke HT
        go_wp2_with fail
        go_ret
        exact ⟨ret_bool (by rw [HZ2.out]), below_drewN' (Below.refl _ _) _⟩
  · have hd : (l.length != l'.length) = true := by simpa using hne
    have HZ2 := Lib.hid (beq_len hne)
    clear hne
    go_enter Tryd.func36, Tryd.ntmps36
    go_wp2_with fail
    go_ret
    exact ⟨ret_bool (by rw [HZ2.out]), Below.refl _ _⟩
end Go.Proofs.YtfiefglagknclaaDoor

/-
  token.digit, token.letter: what stands at a place of a line.
-/
namespace Go.Proofs.YtfiefglagknclaaDoor
open Go.RowKit
set_option maxHeartbeats 2000000
set_option maxRecDepth 100000
set_option linter.unusedVariables false

theorem digit_any (A : Option Addr) (c : Nat) (l : List Int) (i : Nat) (w : World) (hl : Lies w w.heap.size A (I64 l)) (hn : l.length ≤ 1000000) (hi : i ≤ 1000000) :
    Calls Tryd.prog 120 #[.slice A l.length c, .int .i64 (i : Int)] w fun e w' => e = .returned (.bool (Tk.digit (l.getD i (-1)))) ∧ w = w' := by
  by_cases hlt : i < l.length
  · obtain ⟨b, off, rfl, hb, g0⟩ := lies_i64 hl hlt
    rw [Tk.getD_in hlt]
    generalize l[i] = x at *
    clear hl
    by_cases h1 : 48 ≤ x
    · by_cases h2 : x ≤ 57
      · have E : Hid (Tk.digit x = true) := Lib.hid (by unfold Tk.digit; simp; omega)
        go_enter Tryd.func120, Tryd.ntmps120
        go_wp2_with fail
        go_ret
        exact ⟨ret_bool E.out.symm, rfl⟩
      · have E : Hid (Tk.digit x = false) := Lib.hid (by unfold Tk.digit; simp; omega)
        have q : decide (x ≤ 57) = false := decide_eq_false h2
        go_enter Tryd.func120, Tryd.ntmps120
        go_wp2_with fail
        go_ret
        exact ⟨ret_bool E.out.symm, rfl⟩
    · have E : Hid (Tk.digit x = false) := Lib.hid (by unfold Tk.digit; simp; omega)
      have q : decide (48 ≤ x) = false := decide_eq_false h1
      go_enter Tryd.func120, Tryd.ntmps120
      go_wp2_with fail
      go_ret
      exact ⟨ret_bool E.out.symm, rfl⟩
  · have E : Hid (Tk.digit (l.getD i (-1)) = false) := Lib.hid (by rw [Tk.getD_out (by omega)]; rfl)
    clear hl
    generalize Tk.digit (l.getD i (-1)) = R at *
    generalize l.length = n at *
    go_enter Tryd.func120, Tryd.ntmps120
    go_wp2_with fail
    go_ret
    exact ⟨ret_bool E.out.symm, rfl⟩

theorem letter_any (A : Option Addr) (c : Nat) (l : List Int) (i : Nat) (w : World) (hl : Lies w w.heap.size A (I64 l)) (hn : l.length ≤ 1000000) (hi : i ≤ 1000000) :
    Calls Tryd.prog 121 #[.slice A l.length c, .int .i64 (i : Int)] w fun e w' => e = .returned (.bool (Tk.cls (l.getD i (-1)) == 2)) ∧ w = w' := by
  by_cases hlt : i < l.length
  · obtain ⟨b, off, rfl, hb, g0⟩ := lies_i64 hl hlt
    rw [Tk.getD_in hlt]
    generalize l[i] = x at *
    have CL := Lib.hid (fun wx => class_any x wx)
    generalize Tk.cls x = k at *
    clear hl
    go_enter Tryd.func121, Tryd.ntmps121
    go_wp2_with fail
    refine (CL.out _).mono ?_
    rintro e w' ⟨rfl, rfl⟩
    go_wp2_with fail
    go_ret
    exact ⟨rfl, rfl⟩
  · have E : Hid ((Tk.cls (l.getD i (-1)) == 2) = false) := Lib.hid (by rw [Tk.getD_out (by omega)]; decide)
    clear hl
    generalize (Tk.cls (l.getD i (-1)) == 2) = R at *
    generalize l.length = n at *
    go_enter Tryd.func121, Tryd.ntmps121
    go_wp2_with fail
    go_ret
    exact ⟨ret_bool E.out.symm, rfl⟩
theorem may_any (x : Int) (w : World) :
    Calls Tryd.prog 138 #[.int .i64 x] w fun e w' => e = .returned (.bool (Gl.may x)) ∧ w = w' := by
  have HE : Hid (Gl.may x = (decide (0 ≤ x) && decide (x ≤ 1114111) && (decide (x < 55296) || decide (57343 < x)))) := Lib.hid rfl
  by_cases h0 : 0 ≤ x
  · by_cases h1 : x ≤ 1114111
    · by_cases h2 : x < 55296
      · have E : Hid (Gl.may x = true) := Lib.hid (by rw [HE.out]; simp; omega)
        go_enter Tryd.func138, Tryd.ntmps138
        go_wp2_with fail
        go_ret
        exact ⟨ret_bool E.out.symm, rfl⟩
      · have q2 : decide (x < 55296) = false := decide_eq_false h2
        by_cases h3 : 57343 < x
        · have E : Hid (Gl.may x = true) := Lib.hid (by rw [HE.out]; simp; omega)
          go_enter Tryd.func138, Tryd.ntmps138
          go_wp2_with fail
          go_ret
          exact ⟨ret_bool E.out.symm, rfl⟩
        · have q3 : decide (57343 < x) = false := decide_eq_false h3
          have E : Hid (Gl.may x = false) := Lib.hid (by rw [HE.out]; simp; omega)
          go_enter Tryd.func138, Tryd.ntmps138
          go_wp2_with fail
          go_ret
          exact ⟨ret_bool E.out.symm, rfl⟩
    · have q1 : decide (x ≤ 1114111) = false := decide_eq_false h1
      have E : Hid (Gl.may x = false) := Lib.hid (by rw [HE.out, q1]; simp)
      go_enter Tryd.func138, Tryd.ntmps138
      go_wp2_with fail
      go_ret
      exact ⟨ret_bool E.out.symm, rfl⟩
  · have q0 : decide (0 ≤ x) = false := decide_eq_false h0
    have E : Hid (Gl.may x = false) := Lib.hid (by rw [HE.out, q0]; simp)
    go_enter Tryd.func138, Tryd.ntmps138
    go_wp2_with fail
    go_ret
    exact ⟨ret_bool E.out.symm, rfl⟩
end Go.Proofs.YtfiefglagknclaaDoor

/-
  Characters and bytes, plain: the sign of no character (U+FFFD), and how it is told from a byte that is none's.
-/
namespace Gl
open Go
set_option linter.unusedVariables false
theorem by_list (s : ByteArray) {i : Nat} (h : i < s.data.toList.length) : by_ s i = (s.data.toList[i]).toNat := by
  unfold by_
  rw [get_at (show i < s.size from h)]
  rfl
theorem pre3 {x y z : UInt8} : ∀ {l : List UInt8}, List.isPrefixOf [x, y, z] l = true ↔ ∃ r, l = x :: y :: z :: r
  | [] => by simp [List.isPrefixOf]
  | [a] => by simp [List.isPrefixOf]
  | [a, b] => by simp [List.isPrefixOf]
  | a :: b :: c :: r => by
    simp only [List.isPrefixOf, Bool.and_true, Bool.and_eq_true, beq_iff_eq, List.cons.injEq]
    constructor
    · rintro ⟨h1, h2, h3⟩; exact ⟨r, h1.symm, h2.symm, h3.symm, rfl⟩
    · rintro ⟨r', h1, h2, h3, _⟩; exact ⟨h1.symm, h2.symm, h3.symm⟩
/-- Do the three bytes of U+FFFD stand from a place on? -/
theorem sub_iff (s : ByteArray) (i : Nat) : Lib.hasPrefix (s.data.toList.drop i) [239, 191, 189] = true ↔ i + 2 < s.size ∧ by_ s i = 239 ∧ by_ s (i + 1) = 191 ∧ by_ s (i + 2) = 189 := by
  have hsz : s.data.toList.length = s.size := rfl
  unfold Lib.hasPrefix
  rw [pre3]
  constructor
  · rintro ⟨r, hr⟩
    have hl := congrArg List.length hr
    rw [List.length_drop] at hl
    simp only [List.length_cons] at hl
    have g : ∀ k (h : i + k < s.data.toList.length), by_ s (i + k) = ((s.data.toList.drop i)[k]'(by rw [List.length_drop]; omega)).toNat := fun k h => by
      rw [by_list s h, List.getElem_drop]
    refine ⟨by omega, ?_, ?_, ?_⟩
    · have := g 0 (by omega); simp only [hr] at this; exact this
    · have := g 1 (by omega); simp only [hr] at this; exact this
    · have := g 2 (by omega); simp only [hr] at this; exact this
  · rintro ⟨h1, h2, h3, h4⟩
    have k1 : i + 1 < s.data.toList.length := by omega
    have k2 : i + 2 < s.data.toList.length := by omega
    have k0 : i < s.data.toList.length := by omega
    rw [by_list s k0] at h2
    rw [by_list s k1] at h3
    rw [by_list s k2] at h4
    refine ⟨s.data.toList.drop (i + 3), ?_⟩
    rw [List.drop_eq_getElem_cons k0, List.drop_eq_getElem_cons k1, List.drop_eq_getElem_cons k2]
    rw [show s.data.toList[i] = 239 from UInt8.toNat_inj.1 h2, show s.data.toList[i + 1] = 191 from UInt8.toNat_inj.1 h3, show s.data.toList[i + 2] = 189 from UInt8.toNat_inj.1 h4]
/-- A byte that is none's: the three bytes don't stand there. -/
theorem sub_no {s : ByteArray} {i : Nat} (hi : i < s.size) (h : read s i = none) : Utf8.decode s i = (65533, 1) ∧ Lib.hasPrefix (s.data.toList.drop i) [239, 191, 189] = false := by
  unfold read at h
  split at h
  · next hd =>
    have hd' : Utf8.decode s i = (65533, 1) := hd
    refine ⟨hd', ?_⟩
    rw [Bool.eq_false_iff]
    intro hp
    obtain ⟨h1, h2, h3, h4⟩ := (sub_iff s i).1 hp
    rw [decode_eq, h2, h3, h4] at hd'
    rw [if_neg (by omega), if_neg (by omega), if_pos ⟨by omega, ⟨by omega, by omega⟩, by omega, by omega⟩] at hd'
    rw [if_pos ⟨by omega, by decide⟩] at hd'
    cases hd'
  · cases h
/-- A character: either it is another one, or its three bytes stand there. -/
theorem sub_yes {s : ByteArray} {i c n : Nat} (hi : i < s.size) (h : read s i = some (c, n)) : Utf8.decode s i = (c, n) ∧ (c = 65533 → Lib.hasPrefix (s.data.toList.drop i) [239, 191, 189] = true) := by
  have hd := (read_some h).1
  have hne := (read_some h).2
  refine ⟨hd, fun hc => ?_⟩
  have hr := refRead_eq s i hi
  rw [h] at hr
  unfold refRead at hr
  split at hr
  · cases hr
  · next c' n' hg =>
    split at hr
    · next hm =>
      injection hr with hr
      injection hr with e1 e2
      subst e1 e2
      subst hc
      obtain ⟨-, ho⟩ := hm
      have hl := congrArg List.length ho
      rw [show one 65533 = [239, 191, 189] from by decide] at ho hl
      simp only [List.length_cons, List.length_nil, List.length_map, List.length_range] at hl
      have hle := read_le hi h
      rw [← hl, range3] at ho
      simp only [List.cons.injEq, and_true] at ho
      exact (sub_iff s i).2 ⟨by omega, ho.1.symm, ho.2.1.symm, ho.2.2.symm⟩
    · cases hr
/-- What has been read, and what is left. -/
def DecAt (s : ByteArray) (pos : Nat) (done : List Nat) : Prop := pos ≤ s.size ∧ dec s 0 = (done ++ (dec s pos).1, (dec s pos).2)
theorem DecAt.start (s : ByteArray) : DecAt s 0 [] := ⟨Nat.zero_le _, by simp⟩
theorem DecAt.step {s : ByteArray} {pos c n : Nat} {done : List Nat} (h : DecAt s pos done) (hp : pos < s.size) (hr : read s pos = some (c, n)) : DecAt s (pos + n) (done ++ [c]) := by
  refine ⟨read_le hp hr, ?_⟩
  rw [h.2, dec_step hp hr]
  simp
theorem DecAt.bad {s : ByteArray} {pos : Nat} {done : List Nat} (h : DecAt s pos done) (hp : pos < s.size) (hr : read s pos = none) : dec s 0 = (done, some pos) := by
  rw [h.2, dec_bad hp hr]; simp
theorem DecAt.done {s : ByteArray} {pos : Nat} {done : List Nat} (h : DecAt s pos done) (hp : ¬ pos < s.size) : dec s 0 = (done, none) := by
  rw [h.2, dec_end (by omega)]; simp
theorem DecAt.len {s : ByteArray} {pos : Nat} {done : List Nat} (h : DecAt s pos done) : done.length ≤ s.size := by
  have h1 := dec_len (s := s) (s.size + 1) 0 (by omega)
  rw [h.2] at h1
  simp at h1
  omega
theorem DecAt.may {s : ByteArray} {pos : Nat} {done : List Nat} (h : DecAt s pos done) : ∀ c ∈ done, Gl.may (c : Int) = true := fun c hc =>
  dec_may (s := s) (s.size + 1) 0 (by omega) c (by rw [h.2]; exact List.mem_append_left _ hc)
end Gl

/-
  Limbs times one limb, and one limb more.
-/
set_option linter.unusedVariables false
namespace Nt
def LenAt (l : List Nat) (b m : Nat) (cur : List Nat) (k c : Nat) : Prop :=
  cur.length = l.length ∧ Ok cur ∧ c < 4294967296 ∧ cur.drop k = l.drop k ∧ val (cur.take k) + c * 4294967296 ^ k = val (l.take k) * b + m
theorem len_start {l : List Nat} {b m : Nat} (h : Ok l) (hm : m < 4294967296) : LenAt l b m l 0 m := ⟨rfl, h, hm, rfl, by simp [val]⟩
theorem len_get {l cur : List Nat} {b m k c : Nat} (h : LenAt l b m cur k c) (hk : k < l.length) : cur[k]? = some l[k] := by
  have : (cur.drop k)[0]? = (l.drop k)[0]? := by rw [h.2.2.2.1]
  rw [List.getElem?_drop, List.getElem?_drop, Nat.add_zero, List.getElem?_eq_getElem hk] at this
  exact this
theorem len_bounds {x b c : Nat} (hx : x < 4294967296) (hb : b < 4294967296) (hc : c < 4294967296) : x * b + c < 18446744073709551616 ∧ (x * b + c) / 4294967296 < 4294967296 ∧ (x * b + c) % 4294967296 < 4294967296 ∧ x * b ≤ 18446744065119617025 := by
  have := mul_bound hx hb
  omega
theorem len_step {l cur : List Nat} {b m k c : Nat} (h : LenAt l b m cur k c) (hk : k < l.length) (hl : Ok l) (hb : b < 4294967296) : LenAt l b m (cur.set k ((l[k] * b + c) % 4294967296)) (k + 1) ((l[k] * b + c) / 4294967296) := by
  obtain ⟨h1, h2, h3, h4, h5⟩ := h
  have hbd := len_bounds (ok_get hl hk) hb h3
  refine ⟨by simpa using h1, ok_set h2 hbd.2.2.1, hbd.2.1, ?_, ?_⟩
  · rw [drop_set]
    have := congrArg (List.drop 1) h4
    rw [List.drop_drop, List.drop_drop] at this
    exact this
  · rw [set_take (by omega), val_take_succ hk, Nat.pow_succ]
    have e := Nat.div_add_mod (l[k] * b + c) 4294967296
    generalize (l[k] * b + c) / 4294967296 = q at *
    generalize (l[k] * b + c) % 4294967296 = r at *
    generalize 4294967296 ^ k = p at h5 ⊢
    generalize l[k] = x at *
    grind
theorem len_end {x b m c : Nat} {cur : List Nat} (h : LenAt (digs x) b m cur (digs x).length c) : val cur + c * 4294967296 ^ (digs x).length = x * b + m := by
  obtain ⟨h1, h2, h3, h4, h5⟩ := h
  rw [List.take_of_length_le (by omega), List.take_of_length_le (by omega), val_digs] at h5
  exact h5
theorem len_done0 {x b m : Nat} {cur : List Nat} (h : LenAt (digs x) b m cur (digs x).length 0) (hb : 1 ≤ b) : digs (x * b + m) = cur := by
  have e := len_end h
  rw [Nat.zero_mul, Nat.add_zero] at e
  rw [← e]
  refine eq_digs h.2.1 fun hne => ?_
  rw [h.1, e]
  have hx : x ≠ 0 := by
    rintro rfl
    have := h.1
    rw [digs_zero] at this
    exact hne (List.eq_nil_of_length_eq_zero this)
  have h1 := digs_ge hx
  have h2 : x * 1 ≤ x * b := Nat.mul_le_mul_left _ hb
  omega
theorem len_done1 {x b m c : Nat} {cur : List Nat} (h : LenAt (digs x) b m cur (digs x).length c) (hc : c ≠ 0) : digs (x * b + m) = cur ++ [c] := by
  have e := len_end h
  have hv : val (cur ++ [c]) = x * b + m := by
    rw [val_append, h.1, ← e]; simp [val, Nat.mul_comm]
  rw [← hv]
  refine eq_digs (fun d hd => ?_) fun _ => ?_
  · rcases List.mem_append.1 hd with h3 | h3
    · exact h.2.1 d h3
    · simp at h3; subst h3; exact h.2.2.1
  · rw [hv, List.length_append, List.length_singleton, Nat.add_sub_cancel, h.1, ← e]
    have : 1 * 4294967296 ^ (digs x).length ≤ c * 4294967296 ^ (digs x).length := Nat.mul_le_mul_right _ (by omega)
    omega
end Nt

/-
  What nat.lengthen computes.
-/
namespace Go.Proofs.YtfiefglagknclaaDoor
open Go.RowKit
set_option maxHeartbeats 1000000
set_option maxRecDepth 100000
set_option linter.unusedVariables false

/-- A cell of a row of one's own: read, and written. -/
theorem own_at {w : World} {base n C k : Nat} {t : TypeId} {A : Option Addr} {xs : List Value} (h : w.ownsRow base t 1 (.slice A n C) n xs) (hk : k < n) :
    ∃ g, A = some ⟨g, 0, none⟩ ∧ base ≤ g ∧ w.cell? ⟨g, k, none⟩ = xs[k]? ∧ w.frozen? ⟨g, k, none⟩ = false ∧ ∀ x, (w.setCell ⟨g, k, none⟩ x).ownsRow base t 1 (.slice A n C) n (xs.set k x) := by
  obtain ⟨g, vs, hv, hb, hblk, ht, h1, h2⟩ := blk_of_own h (by omega)
  injection hv with e1 _ e2
  subst e1 e2
  refine ⟨g, rfl, hb, ?_, hblk.frozen k, fun x => ?_⟩
  · rw [← ht, List.getElem?_take, if_pos hk]
    have hk' : k < vs.length := by omega
    rw [List.getElem?_eq_getElem hk']
    exact hblk.cell (List.getElem?_eq_getElem hk')
  · have := (hblk.set_ k x).own (base := base) (n := n) hb (by rw [List.length_set]; exact h1) (by rw [List.length_set]; exact h2)
    rw [List.length_set, List.take_set, ht] at this
    exact this

theorem lengthen_any (base : Nat) (v : Value) (x b m : Nat) (w : World) (hown : w.ownsRow base 70 1 v (Nt.digs x).length (U (Nt.digs x))) (hB : base ≤ w.heap.size) (hl : (Nt.digs x).length ≤ 1000000) (hb1 : 1 ≤ b) (hb : b < 4294967296) (hm : m < 4294967296) :
    Calls Tryd.prog 106 #[v, .int .u32 (b : Int), .int .u32 (m : Int)] w fun e w' => ∃ v', e = .returned v' ∧ w'.ownsRow base 70 1 v' (Nt.digs (x * b + m)).length (U (Nt.digs (x * b + m))) ∧ Below base w w' := by
  obtain ⟨i0, hi, hz0, hz1, hz2⟩ := info_parts u32_info
  have OX := Lib.hid (Nt.ok_digs x)
  have D0 : Hid (∀ cur, Nt.LenAt (Nt.digs x) b m cur (Nt.digs x).length 0 → Nt.digs (x * b + m) = cur) := Lib.hid (fun cur h => Nt.len_done0 h hb1)
  have D1 : Hid (∀ cur c, Nt.LenAt (Nt.digs x) b m cur (Nt.digs x).length c → c ≠ 0 → Nt.digs (x * b + m) = cur ++ [c]) := Lib.hid (fun cur c h hc => Nt.len_done1 h hc)
  generalize Nt.digs (x * b + m) = dz at *
  generalize Nt.digs x = dx at *
  obtain ⟨A, C, rfl, hC1, hC2⟩ := own_slice hown
  go_enter Tryd.func106, Tryd.ntmps106
  go_wp2_with fail
  go_loopw [7, 15] (fun cv i wr => ∃ (k c : Nat) (cur : List Nat), k ≤ dx.length ∧ c < 4294967296 ∧ i = .int .i64 (k : Int) ∧ cv = .int .u64 (c : Int) ∧ wr.ownsRow base 70 1 (.slice A dx.length C) dx.length (U cur) ∧ Below base w wr ∧ Hid (Nt.LenAt dx b m cur k c)) (fun _ i _ => dx.length - (intOf i).toNat)
  case atStart => exact ⟨0, m, dx, Nat.zero_le _, hm, rfl, rfl, hown, Below.refl _ _, Lib.hid (Nt.len_start OX.out hm)⟩
  case round =>
    clear hown
    obtain ⟨k, c, cur, hk, hc, rfl, rfl, hown, hbel, H⟩ := hrel
    have hsz := hbel.size
    by_cases hlt : k < dx.length
    · obtain ⟨g, rfl, hgb, hcell, hfz, hset⟩ := own_at hown hlt
      have hget := Nt.len_get H.out hlt
      rw [U, List.getElem?_map, hget, Option.map_some] at hcell
      have hxb := Nt.ok_get OX.out hlt
      have ST := Lib.hid (Nt.len_step H.out hlt OX.out hb)
      have BD := Nt.len_bounds hxb hb hc
      have HSET : Hid (∀ s : Nat, (wr.setCell ⟨g, k, none⟩ (.int .u32 (s : Int))).ownsRow base 70 1 (.slice (some ⟨g, 0, none⟩) dx.length C) dx.length (U (cur.set k s))) := Lib.hid (fun s => by
        have := hset (.int .u32 (s : Int))
        rw [show (U cur).set k (.int .u32 (s : Int)) = U (cur.set k s) from List.map_set.symm] at this
        exact this)
      have HB2 : Hid (∀ s, Below base w (wr.setCell ⟨g, k, none⟩ s)) := Lib.hid (fun s => hbel.setCell hgb _)
      clear hset hget hown
      generalize dx[k] = y at *
      obtain ⟨p, hp⟩ : ∃ p, p = y * b := ⟨_, rfl⟩
      have hpi : (y : Int) * (b : Int) = (p : Int) := by rw [hp, Int.natCast_mul]
      rw [← hp] at ST BD
      obtain ⟨ht1, ht2, ht3, ht4⟩ := BD
      clear hp
      go_wp2_with fail
      exact ⟨⟨k + 1, (p + c) / 4294967296, cur.set k ((p + c) % 4294967296), by omega, ht2, by go_num, congrArg (Value.int .u64) (by omega), HSET.out _, HB2.out _, ST⟩, by simp [intOf]; omega⟩
    · obtain rfl : k = dx.length := by omega
      have hcl : Hid (cur.length = dx.length) := Lib.hid H.out.1
      by_cases hc0 : c = 0
      · subst hc0
        have HE := Lib.hid (D0.out cur H.out)
        go_wp2_with fail
        go_ret
        refine ⟨_, rfl, ?_, hbel⟩
        rw [HE.out, hcl.out]
        exact hown
      · have HE := Lib.hid (D1.out cur c H.out hc0)
        have hc1 : ((c : Int) != 0) = true := by simp; omega
        go_wp2_with (at_builtin; refine wpList_append_own _ rfl _ _ 22 rfl base 70 i0 (.int .u32 0) 1 4 Tryd.underlying22 hi hz0 hz1 hz2 rfl (by decide) _ _ _ rfl (hown.alloc _) ⟨_, 0, none⟩ 1 1 [.int .u32 (c : Int)] rfl rfl (cell_one_new _ _ _) (by intro u hu; simp only [List.mem_singleton] at hu; subst hu; rfl) (by unfold maxLen; omega) (by omega) (by simp; omega) ?_; intro v3 w3 hown3 hgrow3 hnn3)
        have hb3 : Below base w w3 := (hbel.alloc (by omega) _).grown hgrow3 (by simp; omega) (fun k hk => (hown.lt k hk).1)
        go_ret
        refine ⟨_, rfl, ?_, hb3⟩
        rw [HE.out, List.length_append, hcl.out]
        simpa [U] using hown3
end Go.Proofs.YtfiefglagknclaaDoor

/-
  The library's contract of (*strings.Builder).WriteString, laid by hand: 'shelf_lay' did not find the string type in the bodies that it goes by.
-/
namespace Go.Proofs
open Go.Shelf
def YtfiefglagknclaaDoorRen : Go.Shelf.Ren := ⟨fun | 166 => 57 | 240 => 92 | 276 => 127 | n => n, fun | 70 => 93 | 3 => 3 | 0 => 0 | 4 => 4 | 9 => 9 | 20 => 20 | 72 => 96 | 37 => 94 | 164 => 164 | 5 => 5 | 75 => 99 | 80 => 102 | n => n, fun | n => n⟩
theorem YtfiefglagknclaaDoorLaid : Go.Proofs.Lays.n166 Tryd.prog YtfiefglagknclaaDoorRen := {
  mixed := by kernel_rfl
  f166 := Tryd.func57.trans (congrArg some (by kernel_rfl))
  f240 := Tryd.func92.trans (congrArg some (by kernel_rfl))
  f276 := Tryd.func127.trans (congrArg some (by kernel_rfl))
  t0 := Tryd.underlying0
  a0 := Tryd.isAgg0
  z0 := Tryd.sizeOf0
  v0 := Tryd.zeroValue0
  t3 := Tryd.underlying3
  a3 := Tryd.isAgg3
  z3 := Tryd.sizeOf3
  v3 := Tryd.zeroValue3
  t4 := Tryd.underlying4
  a4 := Tryd.isAgg4
  z4 := Tryd.sizeOf4
  v4 := Tryd.zeroValue4
  t9 := Tryd.underlying9
  a9 := Tryd.isAgg9
  z9 := Tryd.sizeOf9
  v9 := Tryd.zeroValue9
  t20 := Tryd.underlying20
  a20 := Tryd.isAgg20
  z20 := Tryd.sizeOf20
  v20 := Tryd.zeroValue20
  t37 := Tryd.underlying94
  a37 := Tryd.isAgg94
  z37 := Tryd.sizeOf94
  v37 := Tryd.zeroValue94
  t70 := Tryd.underlying93
  a70 := Tryd.isAgg93
  z70 := Tryd.sizeOf93
  v70 := Tryd.zeroValue93
  t72 := Tryd.underlying96
  a72 := Tryd.isAgg96
  z72 := Tryd.sizeOf96
  v72 := Tryd.zeroValue96
  t75 := Tryd.underlying99
  a75 := Tryd.isAgg99
  z75 := Tryd.sizeOf99
  v75 := Tryd.zeroValue99
  t164 := Tryd.underlying164
  a164 := Tryd.isAgg164
  z164 := Tryd.sizeOf164
  v164 := Tryd.zeroValue164 }
theorem YtfiefglagknclaaDoorExtra : Builder.Extra Tryd.prog YtfiefglagknclaaDoorRen := {
  sizeBuilder := by kernel_rfl
  liesBuilder := by kernel_rfl
  t5 := Tryd.underlying5
  a5 := Tryd.isAgg5
  z5 := Tryd.sizeOf5
  v5 := Tryd.zeroValue5
  infoByte := by kernel_rfl
  cellsByte := by kernel_rfl
  sizeByte := by kernel_rfl
  neB5 := by decide }
namespace YtfiefglagknclaaDoor
open Go.RowKit
theorem writeString_any (B b : Nat) (bs : List Value) (s : ByteArray) (w : World) (h : Lib.IsBuilder 96 5 B b bs w) (hlen : bs.length + s.size ≤ 140737488355328) (hBw : B ≤ w.heap.size) :
    Calls Tryd.prog 57 #[.pointer (some ⟨b, 0, none⟩), .string s] w fun e w' => e = .returned (.tuple #[.int .i64 s.size, .nilIface]) ∧ (Lib.BuilderAt 96 5 B b (.pointer (some ⟨b, 0, none⟩)) (bs ++ Lib.strCells s) w' ∧ Below B w w') := Any.Builder_WriteString YtfiefglagknclaaDoorLaid YtfiefglagknclaaDoorExtra B b bs s w h hlen hBw
end YtfiefglagknclaaDoor
end Go.Proofs

/-
  append onto a slice that the call owns, with a property of every cell of its row, the spare ones too: what holds of the old cells, of the new ones and of the zero holds of all (the library's run_append_own_at says nothing of the spare cells).
  So a slice of other cells (numbers' limbs) never lies in such a row, and stands when the row grows.
-/
namespace Go

/-- v owns the n elements xs, and every cell of its row is as q says. -/
def World.ownsQ (w : World) (q : Value → Prop) (base : Nat) (e : TypeId) (size : Nat) (v : Value) (n : Nat) (xs : List Value) : Prop :=
  xs.length = n * size ∧
  ((v = .slice none 0 0 ∧ n = 0) ∨
   ∃ g cap cur, v = .slice (some ⟨g, 0, none⟩) n cap ∧ base ≤ g ∧ w.heap[g]? = some (.cells cur e (0, 0)) ∧ n ≤ cap ∧ cap ≤ maxLen ∧ cur.size = cap * size ∧ cur.toList.take (n * size) = xs ∧ ∀ u ∈ cur.toList, q u)

section
variable {w : World} {q : Value → Prop} {base : Nat} {e : TypeId} {size : Nat} {v : Value} {n : Nat} {xs : List Value}
theorem World.ownsQ.own (h : w.ownsQ q base e size v n xs) : w.ownsRow base e size v n xs := by
  refine ⟨h.1, ?_⟩
  rcases h.2 with hn | ⟨g, cap, cur, hv, hb, hg, h1, h2, h3, h4, _⟩
  · exact .inl hn
  · exact .inr ⟨g, cap, cur, hv, hb, hg, h1, h2, h3, h4⟩
theorem World.ownsQ_nil (w : World) (q : Value → Prop) (base : Nat) (e : TypeId) (size : Nat) : w.ownsQ q base e size (.slice none 0 0) 0 [] := ⟨by simp, .inl ⟨rfl, rfl⟩⟩
theorem World.ownsQ.kept {w' : World} {row : Option Nat} (h : w.ownsQ q base e size v n xs) (hg : w.grownBy w' row) (hne : v.ownBlock = none ∨ v.ownBlock ≠ row) : w'.ownsQ q base e size v n xs := by
  refine ⟨h.1, ?_⟩
  rcases h.2 with hn | ⟨g, cap, cur, rfl, hb, hgg, rest⟩
  · exact .inl hn
  · refine .inr ⟨g, cap, cur, rfl, hb, ?_, rest⟩
    rw [hg.block g (Array.getElem?_eq_some_iff.1 hgg).1 (by simpa [Value.ownBlock] using hne)]
    exact hgg
theorem World.ownsQ.mono {base' : Nat} (h : w.ownsQ q base e size v n xs) (hb : base' ≤ base) : w.ownsQ q base' e size v n xs := by
  refine ⟨h.1, ?_⟩
  rcases h.2 with hn | ⟨g, cap, cur, hv, h1, rest⟩
  · exact .inl hn
  · exact .inr ⟨g, cap, cur, hv, by omega, rest⟩
theorem World.ownsRow.mono_ {base' : Nat} (h : w.ownsRow base e size v n xs) (hb : base' ≤ base) : w.ownsRow base' e size v n xs := by
  refine ⟨h.1, ?_⟩
  rcases h.2 with hn | ⟨g, cap, cur, hv, h1, rest⟩
  · exact .inl hn
  · exact .inr ⟨g, cap, cur, hv, by omega, rest⟩
/-- No cell of another kind lies in the row. -/
theorem World.ownsQ.apart (h : w.ownsQ q base e size v n xs) {a : Addr} {u : Value} (hc : w.cell? a = some u) (hu : ¬ q u) (hr : a.spot = none := by rfl) : v.ownBlock ≠ some a.block := by
  rcases h.2 with ⟨rfl, _⟩ | ⟨g, cap, cur, rfl, hb, hg, h1, h2, h3, h4, hq⟩
  · simp [Value.ownBlock]
  · intro he
    simp only [Value.ownBlock] at he
    injection he with he
    obtain ⟨b, off, r⟩ := a
    simp only at he hr
    subst he hr
    rw [cell_of_row w _ off cur e (0, 0) hg] at hc
    exact hu (hq u (Array.mem_toList_iff.2 (Array.mem_of_getElem? hc)))
end

section
variable {P : Program} (w : World)
theorem mem_zeroCells {z : Array Value} {n : Nat} {u : Value} (h : u ∈ (Builtin.zeroCells z n).toList) : u ∈ z.toList := by
  unfold Builtin.zeroCells at h
  simp only [Array.toList_map, Array.toList_range, List.mem_map, List.mem_range] at h
  obtain ⟨i, hi, rfl⟩ := h
  have hz : 0 < z.size := by
    rcases Nat.eq_zero_or_pos z.size with h0 | h0
    · rw [h0] at hi; simp at hi
    · exact h0
  have hlt : i % z.size < z.size := Nat.mod_lt _ hz
  rw [getElem!_pos z _ hlt]
  simp
theorem run_append_ownQ (q : Value → Prop) (base : Nat) (t ty e : TypeId) (i : TypeInfo) (z : Value) (size bytes : Nat) (ht : P.underlying t = some (.slice e)) (hi : P.info? e = some i) (hz : i.zero = some z)
    (hsize : i.size = size) (hby : i.bytes = bytes) (hzs : z.cells.size = size) (hsz : 0 < size) (hzq : ∀ u ∈ z.cells.toList, q u)
    (v : Value) (n : Nat) (xs : List Value) (hown : w.ownsQ q base e size v n xs)
    (a : Addr) (m c : Nat) (news : List Value) (hl : news.length = m * size) (hnews : ∀ j u, news[j]? = some u → w.cell? (a.add j) = some u) (h1 : ∀ u ∈ news, u.oneCell' = true) (hq : ∀ u ∈ news, q u)
    (h63 : n + m ≤ maxLen) (hbytes : (n + m) * bytes ≤ 140737488355328) (hbase : base ≤ w.heap.size) :
    ∃ v' w', (Builtin.append_ #[t, t] ty #[v, .slice (some a) m c]).run P w = .ok v' w' ∧ w'.ownsQ q base e size v' (n + m) (xs ++ news) ∧ w.grownBy w' v.ownBlock ∧
      (v' = .slice none 0 0 ↔ v = .slice none 0 0 ∧ m = 0) ∧ (v'.ownBlock = v.ownBlock ∨ v'.ownBlock = some w.heap.size) := by
  subst hsize
  subst hby
  have hsmall : n + m ≤ 9223372036854775807 := by simp only [maxLen] at h63; omega
  have hlen : (xs ++ news).length = (n + m) * i.size := by rw [List.length_append, hown.1, hl, Nat.add_mul]
  have grown : (∀ u ∈ xs, q u) → ∀ (old : Nat), old < n + m → ∀ (row : Option Nat),
      (w.drew.alloc (.cells (xs.toArray ++ news.toArray ++ Builtin.zeroCells z.cells (grownCap w (n + m) old e - (n + m))) e)).ownsQ q base e i.size
        (.slice (some ⟨w.heap.size, 0, none⟩) (n + m) (grownCap w (n + m) old e)) (n + m) (xs ++ news) ∧
      w.grownBy (w.drew.alloc (.cells (xs.toArray ++ news.toArray ++ Builtin.zeroCells z.cells (grownCap w (n + m) old e - (n + m))) e)) row := by
    intro hxq old ho row
    have hge := grownCap_ge w (n + m) old e
    have hcm : grownCap w (n + m) old e ≤ maxLen := grownCap_le_maxLen w (n + m) old e h63
    refine ⟨⟨hlen, .inr ⟨w.heap.size, _, _, rfl, hbase, heap_alloc_new w.drew _, hge, hcm, ?_, ?_, ?_⟩⟩, ⟨rfl, rfl, rfl, by simp, fun k hk _ => RowKit.Below.heap_alloc w.drew _ k hk⟩⟩
    · simp only [Array.size_append, List.size_toArray, size_zeroCells, hzs, hown.1, hl, ← Nat.add_mul]
      congr 1
      omega
    · simp only [Array.toList_append, List.append_assoc]
      rw [← List.append_assoc, ← hlen]
      exact List.take_left
    · intro u hu
      simp only [Array.toList_append, List.mem_append] at hu
      rcases hu with (hu | hu) | hu
      · exact hxq u hu
      · exact hq u hu
      · exact hzq u (mem_zeroCells hu)
  rcases hown.2 with ⟨rfl, rfl⟩ | ⟨g, cap, cur, rfl, hbg, hg, hnc, hcm, hcs, htake, hcq⟩
  · have hx : xs = [] := List.eq_nil_of_length_eq_zero (by simpa using hown.1)
    subst hx
    by_cases hm : m = 0
    · subst hm
      have hn : news = [] := List.eq_nil_of_length_eq_zero (by simpa using hl)
      subst hn
      refine ⟨.slice none 0 0, w, ?_, World.ownsQ_nil w q base e i.size, ⟨rfl, rfl, rfl, Nat.le_refl _, fun _ _ _ => rfl⟩, by simp, Or.inl rfl⟩
      simp [Builtin.append_, run_underlying ht, sizeOf, typeInfo, hi, Builtin.lenOf, Builtin.firstCells, loadCells, loadCellsFrom]
    · have hr := run_append_nil (P := P) w t ty e i z ht hi hz a m c news hl hnews (by omega) (by omega) (by have hb := hbytes; simp only [Nat.zero_add] at hb; omega)
      have hgr := grown (by simp) 0 (by omega) (Value.ownBlock (.slice none 0 0))
      simp only [Nat.zero_add, List.nil_append, Array.empty_append] at hgr ⊢
      exact ⟨_, _, hr, hgr.1, hgr.2, by simp [hm], Or.inr rfl⟩
  · by_cases hroom : n + m ≤ cap
    · have hfit : n * i.size + news.length ≤ cur.size := by rw [hl, hcs, ← Nat.add_mul]; exact Nat.mul_le_mul_right _ hroom
      have hr := run_append_room (P := P) w t ty e i ht hi g n cap cur hg a m c news hl hnews h1 hroom hfit
      refine ⟨_, _, hr, ⟨hlen, .inr ⟨g, cap, _, rfl, hbg, setRow_heap w g cur _ e _ hg, hroom, hcm, ?_, ?_, ?_⟩⟩, ⟨rfl, rfl, rfl, by simp, fun k _ hk => setRow_other w g k _ (fun e => hk (by simp [Value.ownBlock, e]))⟩, by simp, Or.inl rfl⟩
      · simp only [List.size_toArray, List.length_append, List.length_take, List.length_drop, Array.length_toList]
        omega
      · rw [htake, ← hlen]
        exact List.take_left
      · intro u hu
        simp only [List.mem_append] at hu
        rcases hu with (hu | hu) | hu
        · exact hcq u (List.mem_of_mem_take hu)
        · exact hq u hu
        · exact hcq u (List.mem_of_mem_drop hu)
    · have holds : ∀ j u, xs[j]? = some u → w.cell? ((⟨g, 0, none⟩ : Addr).add j) = some u := hown.own.cells (g := g) rfl
      have hr := run_append_grow (P := P) w t ty e i z ht hi hz ⟨g, 0, none⟩ n cap xs hown.1 holds a m c news hl hnews (by omega) (by omega) (growslice_fits (by omega) hbytes)
      have hgr := grown (fun u hu => hcq u (List.mem_of_mem_take (by rw [htake]; exact hu))) cap (by omega) (Value.ownBlock (.slice (some ⟨g, 0, none⟩) n cap))
      exact ⟨_, _, hr, hgr.1, hgr.2, by simp, Or.inr rfl⟩

theorem wp_append_ownQ {o : Oper} {a : Act} {K : Act → World → Prop} {Q : Exit → Act → World → Prop} (s x : Operand) (t : TypeId)
    (ho : o.op = .call { callee := .builtin .append, args := #[s, x], argTypes := #[t, t] })
    (q : Value → Prop) (base : Nat) (e : TypeId) (i : TypeInfo) (z : Value) (size bytes : Nat) (ht : P.underlying t = some (.slice e)) (hi : P.info? e = some i) (hz : i.zero = some z)
    (hsize : i.size = size) (hby : i.bytes = bytes) (hzs : z.cells.size = size) (hsz : 0 < size) (hzq : ∀ u ∈ z.cells.toList, q u)
    (v : Value) (n : Nat) (xs : List Value) (hs : a.eval s = v) (hown : w.ownsQ q base e size v n xs)
    (ad : Addr) (m c : Nat) (news : List Value) (hx : a.eval x = .slice (some ad) m c) (hl : news.length = m * size) (hnews : ∀ j u, news[j]? = some u → w.cell? (ad.add j) = some u) (h1 : ∀ u ∈ news, u.oneCell' = true) (hq : ∀ u ∈ news, q u)
    (h63 : n + m ≤ maxLen) (hbytes : (n + m) * bytes ≤ 140737488355328) (hbase : base ≤ w.heap.size)
    (h : ∀ v' w', w'.ownsQ q base e size v' (n + m) (xs ++ news) → w.grownBy w' v.ownBlock → (v' = .slice none 0 0 ↔ v = .slice none 0 0 ∧ m = 0) → (v'.ownBlock = v.ownBlock ∨ v'.ownBlock = some w.heap.size) → K (a.put o.dst v') w') : o.wp P a w K Q := by
  obtain ⟨v', w', hr, h2, h3, h4, h5⟩ := run_append_ownQ (P := P) w q base t o.type e i z size bytes ht hi hz hsize hby hzs hsz hzq v n xs hown ad m c news hl hnews h1 hq h63 hbytes hbase
  unfold Oper.wp execOp
  simp only [ho, resolve, invoke, builtin, Sem.run_bind, Sem.run_pure, Result.andThen_ok, List.map_toArray, List.map_cons, List.map_nil, hs, hx, hr]
  exact h v' w' h2 h3 h4 h5
theorem wpList_append_ownQ {ops : Array Oper} {rest : List Oper} {o : Oper} {a : Act} {Q : Exit → Act → World → Prop} (hgd : o.guard = none) (s x : Operand) (t : TypeId)
    (ho : o.op = .call { callee := .builtin .append, args := #[s, x], argTypes := #[t, t] })
    (q : Value → Prop) (base : Nat) (e : TypeId) (i : TypeInfo) (z : Value) (size bytes : Nat) (ht : P.underlying t = some (.slice e)) (hi : P.info? e = some i) (hz : i.zero = some z)
    (hsize : i.size = size) (hby : i.bytes = bytes) (hzs : z.cells.size = size) (hsz : 0 < size) (hzq : ∀ u ∈ z.cells.toList, q u)
    (v : Value) (n : Nat) (xs : List Value) (hs : a.eval s = v) (hown : w.ownsQ q base e size v n xs)
    (ad : Addr) (m c : Nat) (news : List Value) (hx : a.eval x = .slice (some ad) m c) (hl : news.length = m * size) (hnews : ∀ j u, news[j]? = some u → w.cell? (ad.add j) = some u) (h1 : ∀ u ∈ news, u.oneCell' = true) (hq : ∀ u ∈ news, q u)
    (h63 : n + m ≤ maxLen) (hbytes : (n + m) * bytes ≤ 140737488355328) (hbase : base ≤ w.heap.size)
    (h : ∀ v' w', w'.ownsQ q base e size v' (n + m) (xs ++ news) → w.grownBy w' v.ownBlock → (v' = .slice none 0 0 ↔ v = .slice none 0 0 ∧ m = 0) → (v'.ownBlock = v.ownBlock ∨ v'.ownBlock = some w.heap.size) → wpList P ops Q rest (a.put o.dst v') w') : wpList P ops Q (o :: rest) a w :=
  wpList_plain hgd fun _ hK => wp_append_ownQ w s x t ho q base e i z size bytes ht hi hz hsize hby hzs hsz hzq v n xs hs hown ad m c news hx hl hnews h1 hq h63 hbytes hbase fun v' w' h2 h3 h4 h5 => hK _ _ (h v' w' h2 h3 h4 h5)
end
end Go

/-
  digits.leading and scrimref05.digits: how many digits stand at a text's beginning, or from a place on.
-/
namespace Go.Proofs.YtfiefglagknclaaDoor
open Go.RowKit
set_option maxHeartbeats 1000000
set_option maxRecDepth 100000
set_option linter.unusedVariables false

theorem lead_step {s : List UInt8} {k : Nat} (hl : k ≤ Dg.lead s) (h : k < s.length) (hd : Dg.dB s[k] = true) : k + 1 ≤ Dg.lead s := by
  rcases Nat.lt_or_ge k (Dg.lead s) with h1 | h1
  · omega
  · have e : Dg.lead s = k := by omega
    have := Dg.lead_not (s := s) (by omega)
    simp only [e] at this
    rw [hd] at this; cases this
theorem lead_stop {s : List UInt8} {k : Nat} (hl : k ≤ Dg.lead s) (h : k < s.length) (hd : Dg.dB s[k] = false) : Dg.lead s = k := by
  rcases Nat.lt_or_ge k (Dg.lead s) with h1 | h1
  · obtain ⟨h2, h3⟩ := Dg.lead_dig h1
    rw [hd] at h3; cases h3
  · omega
theorem dB_nat {b : UInt8} {y : Nat} (h : y = b.toNat) : Dg.dB b = decide (48 ≤ y ∧ y ≤ 57) := by unfold Dg.dB; rw [h]

theorem leading_any (s : List UInt8) (w : World) (hs : s.length ≤ 1000000) :
    Calls Tryd.prog 30 #[.string ⟨s.toArray⟩] w fun e w' => e = .returned (.int .i64 (Dg.lead s : Int)) ∧ w = w' := by
  have hsz : (⟨s.toArray⟩ : ByteArray).size = s.length := rfl
  have HSZ := Lib.hid hsz
  go_enter Tryd.func30, Tryd.ntmps30
  go_wp2
  go_loop [3] (fun i => ∃ k : Nat, k ≤ s.length ∧ i = .int .i64 (k : Int) ∧ Hid (k ≤ Dg.lead s)) (fun i => s.length - (intOf i).toNat)
  case atStart => exact ⟨0, Nat.zero_le _, rfl, Lib.hid (Nat.zero_le _)⟩
  case round =>
    obtain ⟨k, hk, rfl, H⟩ := hrel
    by_cases hlt : k < s.length
    · obtain ⟨y, hy⟩ : ∃ y, y = s[k].toNat := ⟨_, rfl⟩
      have hgy : ((⟨s.toArray⟩ : ByteArray)[k]'(show k < (⟨s.toArray⟩ : ByteArray).size from hlt)).toNat = y := hy.symm
      have HD := Lib.hid (dB_nat hy)
      have H1 := Lib.hid (fun h => lead_step H.out hlt h)
      have H2 := Lib.hid (fun h => lead_stop H.out hlt h)
      clear hy
      by_cases h1 : 48 ≤ y
      · by_cases h2 : y ≤ 57
        · go_wp2
          go_round
          case rel => exact ⟨k + 1, by omega, by go_num, Lib.hid (H1.out (by rw [HD.out]; exact decide_eq_true ⟨h1, h2⟩))⟩
          case measure => simp [intOf]; omega
        · go_wp2
          go_ret
          exact ⟨ret_int (by rw [H2.out (by rw [HD.out]; exact decide_eq_false (by omega))]), rfl⟩
      · go_wp2
        go_ret
        exact ⟨ret_int (by rw [H2.out (by rw [HD.out]; exact decide_eq_false (by omega))]), rfl⟩
    · have e : k = s.length := by omega
      have HE := Lib.hid (show Dg.lead s = k by have := Dg.lead_le s; have := H.out; omega)
      clear e
      go_wp2
      go_ret
      exact ⟨ret_int (by rw [HE.out]), rfl⟩

theorem lead_drop_at {s : List UInt8} {a k : Nat} (h : a + k < s.length) : (s.drop a)[k]'(by rw [List.length_drop]; omega) = s[a + k] := by rw [List.getElem_drop]
theorem refDigits_any (s : List UInt8) (a : Nat) (w : World) (hs : s.length ≤ 1000000) (ha : a ≤ s.length) :
    Calls Tryd.prog 37 #[.string ⟨s.toArray⟩, .int .i64 (a : Int)] w fun e w' => e = .returned (.int .i64 (Dg.lead (s.drop a) : Int)) ∧ w = w' := by
  have hsz : (⟨s.toArray⟩ : ByteArray).size = s.length := rfl
  have HSZ := Lib.hid hsz
  go_enter Tryd.func37, Tryd.ntmps37
  go_wp2
  go_loop [5] (fun i => ∃ k : Nat, a + k ≤ s.length ∧ i = .int .i64 (k : Int) ∧ Hid (k ≤ Dg.lead (s.drop a))) (fun i => s.length - (intOf i).toNat)
  case atStart => exact ⟨0, ha, rfl, Lib.hid (Nat.zero_le _)⟩
  case round =>
    obtain ⟨k, hk, rfl, H⟩ := hrel
    by_cases hlt : a + k < s.length
    · obtain ⟨y, hy⟩ : ∃ y, y = s[a + k].toNat := ⟨_, rfl⟩
      have hgy : ((⟨s.toArray⟩ : ByteArray)[a + k]'(show a + k < (⟨s.toArray⟩ : ByteArray).size from hlt)).toNat = y := hy.symm
      have hld : k < (s.drop a).length := by rw [List.length_drop]; omega
      have hy2 : y = ((s.drop a)[k]).toNat := by rw [lead_drop_at hlt]; exact hy
      have HD := Lib.hid (dB_nat hy2)
      have H1 := Lib.hid (fun h => lead_step H.out hld h)
      have H2 := Lib.hid (fun h => lead_stop H.out hld h)
      clear hy hy2
      by_cases h1 : 48 ≤ y
      · by_cases h2 : y ≤ 57
        · go_wp2
          go_round
          case rel => exact ⟨k + 1, by omega, by go_num, Lib.hid (H1.out (by rw [HD.out]; exact decide_eq_true ⟨h1, h2⟩))⟩
          case measure => simp [intOf]; omega
        · go_wp2
          go_ret
          exact ⟨ret_int (by rw [H2.out (by rw [HD.out]; exact decide_eq_false (by omega))]), rfl⟩
      · go_wp2
        go_ret
        exact ⟨ret_int (by rw [H2.out (by rw [HD.out]; exact decide_eq_false (by omega))]), rfl⟩
    · have HE := Lib.hid (show Dg.lead (s.drop a) = k by have := Dg.lead_le (s.drop a); have := H.out; rw [List.length_drop] at *; omega)
      go_wp2
      go_ret
      exact ⟨ret_int (by rw [HE.out]), rfl⟩
end Go.Proofs.YtfiefglagknclaaDoor

/-
  As XRegLast, for a region whose last operations stand in a row (each waits for all before it): those ahead by predicates, the row walked in its order.
-/
namespace Go.Proofs.YtfiefglagknclaaDoor
open Go.RowKit
set_option linter.unusedVariables false

section
variable {P : Program} {ops : Array Oper} {Q : Exit → Act → World → Prop} {md : Region.Mode}
/-- The row of operations from a place on, so many. -/
def Tail (P : Program) (ops : Array Oper) (Q : Exit → Act → World → Prop) : Nat → Nat → Act → World → Prop
  | 0, _, a, w => Q .normal a w
  | n + 1, k, a, w => wpOp P ops Q k (fun a' w' => Tail P ops Q n (k + 1) a' w') a w
/-- An operation that waits for another one, of itself or by way of others. -/
def depT (md : Region.Mode) (ops : Array Oper) : Nat → Nat → Nat → Bool
  | 0, i, j => depB md ops i j
  | n + 1, i, j => depB md ops i j || (List.range ops.size).any fun m => depB md ops i m && depT md ops n m j
theorem depT_listed {l : Array Bool} (hcl : ∀ i j, l[i]? = some true → depB md ops i j = true → l[j]? = some true) : ∀ n i j, (∀ m, depB md ops i m = true → l[m]? = some true) → depT md ops n i j = true → l[j]? = some true
  | 0, i, j, hi, h => hi j h
  | n + 1, i, j, hi, h => by
    unfold depT at h
    rw [Bool.or_eq_true] at h
    rcases h with h | h
    · exact hi j h
    · rw [List.any_eq_true] at h
      obtain ⟨m, _, hm⟩ := h
      rw [Bool.and_eq_true] at hm
      exact depT_listed hcl n m j (fun m' h' => hcl m m' (hi m hm.1) h') hm.2
theorem closed_set {l : Array Bool} {i : Nat} (hcl : ∀ i j, l[i]? = some true → depB md ops i j = true → l[j]? = some true) (hi : ∀ m, depB md ops i m = true → l[m]? = some true) : ∀ i' j, (l.setIfInBounds i true)[i']? = some true → depB md ops i' j = true → (l.setIfInBounds i true)[j]? = some true := by
  intro i' j h hd
  have hj : l[j]? = some true := by
    by_cases e : i = i'
    · subst e; exact hi j hd
    · rw [Array.getElem?_setIfInBounds_ne e] at h; exact hcl i' j h hd
  by_cases e : i = j
  · subst e
    rw [Array.getElem?_setIfInBounds_self_of_lt (by
      rcases Nat.lt_or_ge i l.size with h | h
      · exact h
      · rw [Array.getElem?_eq_none h] at hj; cases hj)]
  · rw [Array.getElem?_setIfInBounds_ne e]; exact hj
theorem all_listed {l : Array Bool} (hl : l.size = ops.size) (hr : Region.ready md ops l = []) (hops : ∀ i, i < ops.size → ∀ j, depB md ops i j = true → j < i) : ∀ m i, i < m → i < ops.size → l[i]? = some true := by
  intro m
  induction m with
  | zero => intro i h; omega
  | succ m ih =>
    intro i hi his
    by_cases e : i < m
    · exact ih i e his
    · have hie : i = m := by omega
      subst hie
      cases h : l[i]? with
      | none => rw [Array.getElem?_eq_none_iff] at h; omega
      | some b =>
        cases b
        · exfalso
          have : i ∈ Region.ready md ops l := by
            simp only [Region.ready, List.mem_filter, List.mem_range, Bool.and_eq_true, Bool.not_eq_true']
            refine ⟨his, by rw [Array.getD_eq_getD_getElem?, h]; rfl, ?_⟩
            rw [Array.getElem?_eq_getElem his]
            simp only [Option.map_some, Option.getD_some, Array.all_eq_true_iff_forall_mem]
            intro e he
            cases hbe : Region.binds md e
            · rfl
            · have hd : depB md ops i e.on = true := by
                unfold depB
                rw [Array.getElem?_eq_getElem his]
                simp only [List.any_eq_true, Bool.and_eq_true, beq_iff_eq]
                exact ⟨e, by simpa using he, rfl, hbe⟩
              have hlt := hops i his e.on hd
              rw [Array.getD_eq_getD_getElem?, ih e.on hlt (by omega)]
              simp
          rw [hr] at this; cases this
        · rfl
theorem wpAny_tail (frame : (Nat → Value) → Act) (w0 : World) (R : Nat → World → Value → Prop) (s : Nat) (hs : s < ops.size)
    (hR : ∀ i w w' v, R i w v → Below w.heap.size w w' → R i w' v)
    (step : ∀ i xs w, i < s → Below w0.heap.size w0 w → (∀ j, depB md ops i j = true → R j w (xs j)) → wpOp P ops Q i (Yields frame R xs i w) (frame xs) w)
    (tail : ∀ xs w, Below w0.heap.size w0 w → (∀ i, i < s → R i w (xs i)) → Tail P ops Q (ops.size - s) s (frame xs) w)
    (hops : ∀ i, i < ops.size → ∀ j, depB md ops i j = true → j < i) (N : Nat) (hrow : ∀ i, s ≤ i → i < ops.size → ∀ j, j < i → depT md ops N i j = true)
    (xs0 : Nat → Value) (w1 : World) (hw1 : Below w0.heap.size w0 w1) : wpAny P md ops Q ops.size (Array.replicate ops.size false) (frame xs0) w1 := by
  refine wpAny_inv (fun l a w => l.size = ops.size ∧ (∀ i j, l[i]? = some true → depB md ops i j = true → l[j]? = some true) ∧ (((∀ i, s ≤ i → i < ops.size → l[i]? = some false) ∧ Below w0.heap.size w0 w ∧ ∃ xs, a = frame xs ∧ ∀ i, i < s → l[i]? = some true → R i w (xs i)) ∨ (∃ k, s < k ∧ k ≤ ops.size ∧ (∀ i, i < k → l[i]? = some true) ∧ (∀ i, k ≤ i → i < ops.size → l[i]? = some false) ∧ Tail P ops Q (ops.size - k) k a w))) ?_ ?_ ops.size _ _ _ (by simp)
    ⟨by simp, (fun i j h => by
      rw [Array.getElem?_replicate] at h
      split at h <;> simp at h), .inl ⟨fun i _ hi => by simp [hi], hw1, xs0, rfl, fun i hi h => by simp [show i < ops.size by omega] at h⟩⟩
  · rintro l a w ⟨hl, hcl, hc⟩ i hi
    obtain ⟨h1, h2, h3⟩ := ready_mem hi
    have hli : l[i]? = some false := by
      rw [Array.getD_eq_getD_getElem?] at h2
      rw [Array.getElem?_eq_getElem (by omega)] at h2 ⊢
      simp at h2; rw [h2]
    have hdi : ∀ m, depB md ops i m = true → l[m]? = some true := fun m hm => getD_true (depB_listed h3 hm)
    have go : ∀ k, i = k → s ≤ k → (∀ j, j < k → l[j]? = some true) → (∀ j, k ≤ j → j < ops.size → l[j]? = some false) → Tail P ops Q (ops.size - k) k a w →
        wpOp P ops Q i (fun a' w' => (l.setIfInBounds i true).size = ops.size ∧ (∀ i' j, (l.setIfInBounds i true)[i']? = some true → depB md ops i' j = true → (l.setIfInBounds i true)[j]? = some true) ∧ (((∀ j, s ≤ j → j < ops.size → (l.setIfInBounds i true)[j]? = some false) ∧ Below w0.heap.size w0 w' ∧ ∃ xs, a' = frame xs ∧ ∀ j, j < s → (l.setIfInBounds i true)[j]? = some true → R j w' (xs j)) ∨ (∃ k, s < k ∧ k ≤ ops.size ∧ (∀ j, j < k → (l.setIfInBounds i true)[j]? = some true) ∧ (∀ j, k ≤ j → j < ops.size → (l.setIfInBounds i true)[j]? = some false) ∧ Tail P ops Q (ops.size - k) k a' w'))) a w := by
      rintro k rfl hk ht hf hT
      obtain ⟨n, hn⟩ : ∃ n, ops.size - i = n + 1 := ⟨ops.size - i - 1, by omega⟩
      rw [hn] at hT
      refine wpOp_mono ?_ hT
      intro a' w' hq
      refine ⟨by simpa using hl, closed_set hcl hdi, .inr ⟨i + 1, by omega, by omega, fun j hj => ?_, fun j hj hjs => ?_, by rw [show ops.size - (i + 1) = n by omega]; exact hq⟩⟩
      · by_cases e : i = j
        · subst e; rw [Array.getElem?_setIfInBounds_self_of_lt (by omega)]
        · rw [Array.getElem?_setIfInBounds_ne e]; exact ht j (by omega)
      · rw [Array.getElem?_setIfInBounds_ne (by omega)]; exact hf j (by omega) hjs
    rcases hc with ⟨hlate, hb, xs, rfl, hx⟩ | ⟨k, hk, hks, ht, hf, hT⟩
    · by_cases e : i < s
      · refine wpOp_mono ?_ (step i xs w e hb (fun j hj => hx j (by have := hops i h1 j hj; omega) (getD_true (depB_listed h3 hj))))
        rintro a' w' ⟨v, rfl, hv, hb'⟩
        refine ⟨by simpa using hl, closed_set hcl hdi, .inl ⟨fun j hj hjs => by rw [Array.getElem?_setIfInBounds_ne (by omega)]; exact hlate j hj hjs, hb.trans (hb'.mono hb.size), upd xs i v, rfl, fun j hj hlj => ?_⟩⟩
        by_cases e' : j = i
        · subst e'; simp only [upd, if_true]; exact hv
        · simp only [upd, if_neg e']
          rw [Array.getElem?_setIfInBounds_ne (fun h => e' h.symm)] at hlj
          exact hR j w w' _ (hx j hj hlj) hb'
      · have hall : ∀ j, j < i → l[j]? = some true := fun j hj => depT_listed hcl N i j hdi (hrow i (by omega) h1 j hj)
        have his : i = s := by
          rcases Nat.lt_or_ge s i with h | h
          · have h4 := hall s h
            rw [hlate s (Nat.le_refl _) hs] at h4
            cases h4
          · omega
        exact go s his (Nat.le_refl _) (by rw [← his]; exact hall) hlate (tail xs w hb (fun j hj => hx j hj (hall j (by omega))))
    · have hik : k ≤ i := by
        rcases Nat.lt_or_ge i k with h | h
        · rw [ht i h] at hli; cases hli
        · exact h
      have his : i = k := by
        rcases Nat.lt_or_ge k i with h | h
        · have h4 := depT_listed hcl N i k hdi (hrow i (by omega) h1 k h)
          rw [hf k (Nat.le_refl _) (by omega)] at h4
          cases h4
        · omega
      exact go k his (by omega) ht hf hT
  · rintro l a w ⟨hl, hcl, hc⟩ hr
    have hall := all_listed hl hr hops
    rcases hc with ⟨hlate, _⟩ | ⟨k, hk, hks, ht, hf, hT⟩
    · have h4 := hall (s + 1) s (by omega) hs
      rw [hlate s (Nat.le_refl _) hs] at h4
      cases h4
    · rcases Nat.lt_or_ge k ops.size with h | h
      · have h4 := hall (k + 1) k (by omega) h
        rw [hf k (Nat.le_refl _) h] at h4
        cases h4
      · rw [show ops.size - k = 0 by omega] at hT
        exact hT
theorem wp_region_tail (frame : (Nat → Value) → Act) (w0 : World) (R : Nat → World → Value → Prop) (s : Nat) {id : Nat} {a : Act} {w : World} (hm : P.follows .mixedOrders = true) (hs : s < ops.size)
    (hR : ∀ i w w' v, R i w v → Below w.heap.size w w' → R i w' v)
    (hops : ops.toList.zipIdx.all (fun p => p.1.after.all fun e => decide (e.on < p.2)) = true)
    (N : Nat) (hrow : (List.range ops.size).all (fun i => decide (i < s) || (List.range i).all (fun j => depT .any ops N i j)) = true)
    (xs0 : Nat → Value) (ha : a = frame xs0) (hw : Below w0.heap.size w0 w)
    (step : ∀ i xs w, i < s → Below w0.heap.size w0 w → (∀ j, depB .any ops i j = true → R j w (xs j)) → wpOp P ops Q i (Yields frame R xs i w) (frame xs) w)
    (tail : ∀ xs w, Below w0.heap.size w0 w → (∀ i, i < s → R i w (xs i)) → Tail P ops Q (ops.size - s) s (frame xs) w) : (Code.region id ops true).wp P Q a w := by
  subst ha
  refine wp_region_any hm (wpAny_tail frame w0 R s hs hR step tail ?_ N ?_ xs0 _ ?_)
  · intro i hi j hj
    unfold depB at hj
    rw [Array.getElem?_eq_getElem hi] at hj
    simp only [List.any_eq_true, Bool.and_eq_true, beq_iff_eq] at hj
    obtain ⟨e, he, rfl, _⟩ := hj
    rw [List.all_eq_true] at hops
    have h := hops (ops[i], i) (by
      rw [List.mem_zipIdx_iff_getElem?]
      simp)
    rw [Array.all_eq_true_iff_forall_mem] at h
    simpa using h e (by simpa using he)
  · intro i hsi hi j hj
    rw [List.all_eq_true] at hrow
    have h := hrow i (by simpa using hi)
    rw [Bool.or_eq_true, decide_eq_true_iff] at h
    rcases h with h | h
    · omega
    · rw [List.all_eq_true] at h
      exact h j (by simpa using hj)
  · exact ⟨hw.os, hw.tape, hw.output, hw.size, hw.block⟩
end
end Go.Proofs.YtfiefglagknclaaDoor

/-
  Tokens, plain: what is read behind a quad; the bytes of two characters that are told by rune.
-/
namespace Tk
open Go
theorem words_no {l : List Int} {i : Nat} (h : word (l.getD i (-1)) = false) : words l i = 0 := by
  unfold words
  rcases Nat.lt_or_ge i l.length with hi | hi
  · rw [getD_in hi] at h
    rw [List.drop_eq_getElem_cons hi, List.takeWhile_cons, h]
    rfl
  · rw [List.drop_of_length_le hi]; rfl
theorem words_yes {l : List Int} {i : Nat} (h : word (l.getD i (-1)) = true) : words l i = 1 + words l (i + 1) := by
  unfold words
  rcases Nat.lt_or_ge i l.length with hi | hi
  · rw [getD_in hi] at h
    rw [List.drop_eq_getElem_cons hi, List.takeWhile_cons, h]
    simp; omega
  · rw [getD_out hi] at h; cases h
theorem word_digit {c : Int} (h : digit c = true) : word c = true := by unfold word; rw [h]; rfl
theorem word_letter {c : Int} (h : (cls c == 2) = true) : word c = true := by unfold word; rw [h]; simp
theorem digit_letter {c : Int} (h : digit c = true) : (cls c == 2) = false := by
  unfold digit at h
  simp at h
  unfold cls
  rw [if_neg (by omega), if_neg (by omega), if_pos (by omega)]
  rfl
theorem port_head {l : List Int} {i : Nat} (hc : l.getD i (-1) = 9109 ∨ l.getD i (-1) = 9054) : read l i =
    (let n := words l (i + 1)
     let d := l.getD (i + 1) (-1)
     if n = 1 ∧ 48 ≤ d ∧ d ≤ 55 then (⟨if l.getD i (-1) = 9054 then 5 else 4, Rt.none_, [], [], d - 48, i⟩, 2, 0)
     else if l.getD i (-1) = 9109 ∧ n = 2 ∧ d = 68 ∧ l.getD (i + 2) (-1) = 67 then (⟨6, Rt.none_, [], [], 0, i⟩, 3, 0)
     else if l.getD i (-1) = 9109 ∧ n = 2 ∧ d = 85 ∧ l.getD (i + 2) (-1) = 80 then (⟨6, Rt.none_, [], [], 1, i⟩, 3, 0)
     else (none_, 0, 1)) := by
  unfold read
  generalize l.getD i (-1) = c at *
  simp only
  have h3 : ¬ cls c = 3 := by rcases hc with rfl | rfl <;> decide
  have h2 : ¬ cls c = 2 := by rcases hc with rfl | rfl <;> decide
  have h39 : ¬ c = 39 := by omega
  rw [if_neg h3, if_neg h2, if_neg h39, if_pos hc]
/-- A digit behind the quad. -/
theorem port_digit {l : List Int} {i : Nat} (hc : l.getD i (-1) = 9109 ∨ l.getD i (-1) = 9054) (hd : digit (l.getD (i + 1) (-1)) = true) (h7 : l.getD (i + 1) (-1) ≤ 55) : read l i =
    if word (l.getD (i + 2) (-1)) = true then (none_, 0, 1) else (⟨if l.getD i (-1) = 9054 then 5 else 4, Rt.none_, [], [], l.getD (i + 1) (-1) - 48, i⟩, 2, 0) := by
  rw [port_head hc]
  simp only
  rw [words_yes (word_digit hd)]
  have h48 : 48 ≤ l.getD (i + 1) (-1) := by unfold digit at hd; rw [Bool.and_eq_true, decide_eq_true_eq, decide_eq_true_eq] at hd; exact hd.1
  by_cases hw : word (l.getD (i + 2) (-1)) = true
  · rw [if_pos hw, words_yes (i := i + 1 + 1) hw]
    rw [if_neg (by omega), if_neg (by omega), if_neg (by omega)]
  · rw [if_neg hw, words_no (i := i + 1 + 1) (by simpa using hw)]
    rw [if_pos ⟨rfl, h48, h7⟩]
theorem letter_range {x : Int} (h : (cls x == 2) = true) : 65 ≤ x ∧ x ≤ 122 := by
  have h : cls x = 2 := by simpa using h
  unfold cls at h
  split at h
  · cases h
  · split at h
    · omega
    · exfalso
      repeat' split at h
      all_goals (first | cases h | omega)
/-- Two letters behind the quad. -/
theorem port_two {l : List Int} {i : Nat} (hc : l.getD i (-1) = 9109) (hd : (cls (l.getD (i + 1) (-1)) == 2) = true) (hd2 : (cls (l.getD (i + 2) (-1)) == 2) = true) : read l i =
    if l.getD (i + 1) (-1) = 68 ∧ l.getD (i + 2) (-1) = 67 then (if word (l.getD (i + 3) (-1)) = true then (none_, 0, 1) else (⟨6, Rt.none_, [], [], 0, i⟩, 3, 0))
    else if l.getD (i + 1) (-1) = 85 ∧ l.getD (i + 2) (-1) = 80 then (if word (l.getD (i + 3) (-1)) = true then (none_, 0, 1) else (⟨6, Rt.none_, [], [], 1, i⟩, 3, 0))
    else (none_, 0, 1) := by
  rw [port_head (.inl hc)]
  simp only
  have hr := letter_range hd
  rw [words_yes (word_letter hd), words_yes (i := i + 1 + 1) (word_letter hd2), if_neg (by omega)]
  by_cases hw : word (l.getD (i + 3) (-1)) = true
  · rw [words_yes (i := i + 1 + 1 + 1) hw, if_neg (by omega), if_neg (by omega), if_pos hw]
    split <;> (try split) <;> rfl
  · rw [words_no (i := i + 1 + 1 + 1) (by simpa using hw), if_neg hw]
    by_cases h1 : l.getD (i + 1) (-1) = 68 ∧ l.getD (i + 2) (-1) = 67
    · rw [if_pos ⟨hc, rfl, h1⟩, if_pos h1]
    · rw [if_neg (fun h => h1 h.2.2), if_neg h1]
      by_cases h2 : l.getD (i + 1) (-1) = 85 ∧ l.getD (i + 2) (-1) = 80
      · rw [if_pos ⟨hc, rfl, h2⟩, if_pos h2]
        rw [if_neg hw]
      · rw [if_neg (fun h => h2 h.2.2), if_neg h2]
/-- Neither. -/
theorem port_none {l : List Int} {i : Nat} (hc : l.getD i (-1) = 9109 ∨ l.getD i (-1) = 9054) (h1 : ¬ (digit (l.getD (i + 1) (-1)) = true ∧ l.getD (i + 1) (-1) ≤ 55)) (h2 : ¬ (l.getD i (-1) = 9109 ∧ (cls (l.getD (i + 1) (-1)) == 2) = true ∧ (cls (l.getD (i + 2) (-1)) == 2) = true)) : read l i = (none_, 0, 1) := by
  rw [port_head hc]
  simp only
  rw [if_neg (by
    rintro ⟨_, h48, h55⟩
    exact h1 ⟨by unfold digit; rw [Bool.and_eq_true, decide_eq_true_eq, decide_eq_true_eq]; omega, h55⟩)]
  rw [if_neg (by
    rintro ⟨hq, _, h68, h67⟩
    exact h2 ⟨hq, by rw [h68]; decide, by rw [h67]; decide⟩)]
  rw [if_neg (by
    rintro ⟨hq, _, h68, h67⟩
    exact h2 ⟨hq, by rw [h68]; decide, by rw [h67]; decide⟩)]
end Tk
