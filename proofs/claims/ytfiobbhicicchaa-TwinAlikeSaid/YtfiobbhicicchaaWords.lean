/-
  Words for memory that the other texts use: a slice value that holds given cells ('Lies'), kept from world to world.
-/
import Derived.Test.YtfiobbhicicchaaProg
import Derived.WalkKit
import Derived.WalkSpells
import Derived.WalkLawsBesides
import Derived.Lib.Hide
import Derived.Laws.Rows
namespace Go.Proofs.Ytfiobbhicicchaa
open Go.RowKit

theorem ret_bool {a b : Bool} (h : a = b) : Ending.returned (.bool a) = .returned (.bool b) := by rw [h]
theorem ret_int {k : IntKind} {a b : Int} (h : a = b) : Ending.returned (.int k a) = .returned (.int k b) := by rw [h]
theorem ret_two {a b c d : Value} (h : a = c) (h' : b = d) : Ending.returned (.tuple #[a, b]) = .returned (.tuple #[c, d]) := by rw [h, h']

/-- The cells behind an address (if any is wanted at all) are these values, and lie below block B. -/
def Lies (w : World) (B : Nat) (A : Option Addr) (vs : List Value) : Prop :=
  vs = [] ∨ ∃ b off, A = some ⟨b, off, none⟩ ∧ b < B ∧ ∀ i v, vs[i]? = some v → w.cell? ⟨b, off + i, none⟩ = some v

theorem Lies.nil {w : World} {B : Nat} {A : Option Addr} : Lies w B A [] := .inl rfl
theorem Lies.keep {w w' : World} {B : Nat} {A : Option Addr} {vs : List Value} (h : Lies w B A vs) (hk : ∀ p : Addr, p.block < B → w'.cell? p = w.cell? p) : Lies w' B A vs := by
  rcases h with h | ⟨b, off, hA, hb, hc⟩
  · exact .inl h
  · exact .inr ⟨b, off, hA, hb, fun i v hv => (hk _ hb).trans (hc i v hv)⟩
theorem Lies.more {w : World} {B B' : Nat} {A : Option Addr} {vs : List Value} (h : Lies w B A vs) (hB : B ≤ B') : Lies w B' A vs := by
  rcases h with h | ⟨b, off, hA, hb, hc⟩
  · exact .inl h
  · exact .inr ⟨b, off, hA, by omega, hc⟩
theorem Lies.below {w w' : World} {B : Nat} {A : Option Addr} {vs : List Value} (h : Lies w B A vs) (hb : Below B w w') : Lies w' B A vs := h.keep fun _ hp => hb.cell hp
theorem Lies.drew {w : World} {B : Nat} {A : Option Addr} {vs : List Value} (h : Lies w B A vs) : Lies w.drew B A vs := h
theorem Lies.drewN {w : World} {B : Nat} {A : Option Addr} {vs : List Value} (h : Lies w B A vs) (n : Nat) : Lies (w.drewN n) B A vs := h
/-- The cell of a place that there is. -/
theorem Lies.at_ {w : World} {B : Nat} {A : Option Addr} {vs : List Value} (h : Lies w B A vs) {k : Nat} (hk : k < vs.length) :
    ∃ b off, A = some ⟨b, off, none⟩ ∧ b < B ∧ w.cell? ⟨b, off + k, none⟩ = some (vs[k]'hk) := by
  rcases h with h | ⟨b, off, hA, hb, hc⟩
  · subst h; simp at hk
  · exact ⟨b, off, hA, hb, hc k _ (List.getElem?_eq_getElem hk)⟩
theorem Lies.take {w : World} {B : Nat} {A : Option Addr} {vs : List Value} (h : Lies w B A vs) (n : Nat) : Lies w B A (vs.take n) := by
  rcases h with h | ⟨b, off, hA, hb, hc⟩
  · subst h; exact .inl (by simp)
  · refine .inr ⟨b, off, hA, hb, fun i v hv => hc i v ?_⟩
    rw [List.getElem?_take] at hv
    split at hv
    · exact hv
    · cases hv
/-- A row of the call's own, as such cells. -/
theorem Lies.of_own {w : World} {base : Nat} {e : TypeId} {size n c : Nat} {A : Option Addr} {xs : List Value} (h : w.ownsRow base e size (.slice A n c) n xs) : Lies w w.heap.size A xs := by
  rcases h.2 with ⟨hv, hx⟩ | ⟨g, cap, cur, hv, hb, hh, _⟩
  · exact .inl (List.eq_nil_of_length_eq_zero (by rw [h.1, hx, Nat.zero_mul]))
  · injection hv with hA
    subst hA
    have hlt := (h.lt g (by simp [Value.ownBlock])).2
    exact .inr ⟨g, 0, rfl, hlt, fun i v hv => by
      have := h.cells (g := g) (by simp [Value.ownBlock]) i v hv
      rw [Nat.zero_add]
      rw [← this]
      congr 1
      unfold Addr.add
      split
      · simp_all
      · simp⟩
/-- A row of the call's own is a slice. -/
theorem own_slice {w : World} {base : Nat} {e : TypeId} {size n : Nat} {v : Value} {xs : List Value} (h : w.ownsRow base e size v n xs) : ∃ A c, v = .slice A n c ∧ n ≤ c ∧ c ≤ maxLen := by
  rcases h.2 with ⟨hv, hx⟩ | ⟨g, cap, cur, hv, _, _, h1, h2, _⟩
  · subst hx; exact ⟨none, 0, hv, Nat.le_refl _, Nat.zero_le _⟩
  · exact ⟨_, cap, hv, h1, h2⟩
/-- The cells of a row of the call's own, by its block. -/
theorem own_cell {w : World} {base : Nat} {e : TypeId} {size n cap g : Nat} {xs : List Value} (h : w.ownsRow base e size (.slice (some ⟨g, 0, none⟩) n cap) n xs) (j : Nat) (v : Value) (hv : xs[j]? = some v) : w.cell? ⟨g, 0 + j, none⟩ = some v := by
  have := h.cells (g := g) rfl j v hv
  rw [Nat.zero_add, ← this]
  congr 1
  unfold Addr.add
  split
  · rename_i h; rw [h]
  · simp
/-- A block that was just made. -/
theorem Lies.new (w : World) (cs : List Value) (t : TypeId) : Lies (w.alloc (.cells cs.toArray t)) (w.heap.size + 1) (some ⟨w.heap.size, 0, none⟩) cs := by
  refine .inr ⟨w.heap.size, 0, rfl, by omega, fun i v hv => ?_⟩
  rw [cell_of_row (w.alloc (.cells cs.toArray t)) w.heap.size (0 + i) cs.toArray t (0, 0) (heap_alloc_new w _), Nat.zero_add]
  simpa using hv
end Go.Proofs.Ytfiobbhicicchaa
