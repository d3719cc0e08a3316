/-
  Which arrays may be, plain: no program in sight.
-/
import Derived.Test.YtfiobbhicicchaaArrMath
import Derived.Test.YtfiobbhicicchaaRatMath
namespace Ar
/-! ### How many cells a shape has, or the error -/
def prodN (n : Int) : List Int → Option Int
  | [] => some n
  | x :: r => if 2048 < n * x then none else prodN (n * x) r
def cnt (sh : List Int) : Int × Int :=
  if 6 < sh.length then (0, 7)
  else if sh.any (fun x => decide (x < 0)) then (0, 3)
  else if sh.any (fun x => decide (2048 < x)) then (0, 7)
  else if sh.any (fun x => x == 0) then (0, 0)
  else match prodN 1 sh with
    | some n => (n, 0)
    | none => (0, 7)
theorem any_take_succ {p : Int → Bool} {l : List Int} {k : Nat} (h : k < l.length) : (l.take (k + 1)).any p = ((l.take k).any p || p l[k]) := by
  rw [List.take_succ_eq_append_getElem h, List.any_append]; simp
theorem any_at {p : Int → Bool} {l : List Int} {k : Nat} (h : k < l.length) (hp : p l[k] = true) : l.any p = true := List.any_eq_true.2 ⟨_, List.getElem_mem h, hp⟩
theorem not_any_at {p : Int → Bool} {l : List Int} (h : l.any p = false) {k : Nat} (hk : k < l.length) : p l[k] = false := by
  cases e : p l[k]
  · rfl
  · rw [any_at hk e] at h; cases h
theorem prodN_drop {n : Int} {l : List Int} {k : Nat} (h : k < l.length) : prodN n (l.drop k) = if 2048 < n * l[k] then none else prodN (n * l[k]) (l.drop (k + 1)) := by
  rw [List.drop_eq_getElem_cons h, prodN]
theorem prodN_end {n : Int} {l : List Int} {k : Nat} (h : l.length ≤ k) : prodN n (l.drop k) = some n := by
  rw [List.drop_eq_nil_of_le h, prodN]
theorem prodN_bd : ∀ {l : List Int} {n m : Int}, (∀ x ∈ l, 1 ≤ x) → 1 ≤ n → n ≤ 2048 → prodN n l = some m → 1 ≤ m ∧ m ≤ 2048
  | [], n, m, _, h1, h2, h => by rw [prodN] at h; injection h with h; omega
  | x :: r, n, m, hx, h1, h2, h => by
    rw [prodN] at h
    by_cases hb : 2048 < n * x
    · rw [if_pos hb] at h; cases h
    · rw [if_neg hb] at h
      have hx1 := hx x List.mem_cons_self
      have : 1 * 1 ≤ n * x := Int.mul_le_mul h1 hx1 (by omega) (by omega)
      exact prodN_bd (fun y hy => hx y (List.mem_cons_of_mem _ hy)) (by omega) (by omega) h
theorem cnt_bd (sh : List Int) : 0 ≤ (cnt sh).1 ∧ (cnt sh).1 ≤ 2048 ∧ ((cnt sh).2 = 0 ∨ (cnt sh).2 = 3 ∨ (cnt sh).2 = 7) := by
  unfold cnt
  split
  · simp
  · split
    · simp
    · split
      · simp
      · split
        · simp
        · rename_i h1 h2 h3 h4
          have hx : ∀ x ∈ sh, 1 ≤ x := fun x hx => by
            have a2 : decide (x < 0) = false := by
              cases e : decide (x < 0)
              · rfl
              · exact absurd (List.any_eq_true.2 ⟨x, hx, e⟩) h2
            have a4 : (x == 0) = false := by
              cases e : (x == 0)
              · rfl
              · exact absurd (List.any_eq_true.2 ⟨x, hx, e⟩) h4
            simp at a2 a4; omega
          cases e : prodN 1 sh with
          | none => simp
          | some n => have := prodN_bd hx (by omega) (by omega) e; simp; omega

def mayB (c : Int) : Bool := decide (0 ≤ c) && decide (c ≤ 1114111) && (decide (c < 55296) || decide (57343 < c))
def simpleB : Arr → Bool
  | .mk _ sh [.mk _ k _ _ _ _ _] => sh.isEmpty && (k != 2)
  | _ => false
def zeroB (n : Bool) (t b : List Nat) : Bool := !n && t.isEmpty && b.isEmpty
mutual
/-- May an array be, with so many boxes within one another? -/
def rightA : Nat → Arr → Bool
  | d, .mk _ sh cells => ((cnt sh).2 == 0) && ((cnt sh).1 == (cells.length : Int)) && rightCels d cells
def rightCels : Nat → List Cel → Bool
  | _, [] => true
  | d, c :: r => rightCel d c && rightCels d r
def rightCel : Nat → Cel → Bool
  | d, .mk _ k n t b c ins => if k = 0 then (c == 0) && ins.isEmpty && Rt.right ⟨n, t, b⟩ else if k = 1 then zeroB n t b && ins.isEmpty && mayB c else (k == 2) && zeroB n t b && (c == 0) && decide (0 < d) && rightIns d ins
/-- The one array of a box. -/
def rightIns : Nat → List Arr → Bool
  | d, [a] => !simpleB a && rightA (d - 1) a
  | _, _ => false
end
theorem rightCels_drop {d : Nat} {cs : List Cel} {k : Nat} (h : k < cs.length) : rightCels d (cs.drop k) = (rightCel d cs[k] && rightCels d (cs.drop (k + 1))) := by
  rw [List.drop_eq_getElem_cons h, rightCels]
theorem rightCels_end {d : Nat} {cs : List Cel} {k : Nat} (h : cs.length ≤ k) : rightCels d (cs.drop k) = true := by
  rw [List.drop_eq_nil_of_le h, rightCels]
end Ar
