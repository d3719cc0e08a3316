/-
  Texts of this proof, joined (by wip/bin/bundle.py): BldK.
-/
import Derived.Test.YtmmkekdfbnmemaaGreatDoorM1
import Derived.Shelf.Strings.BuilderK
import Derived.Lib.Hide
/-
  A strings.Builder that may have been read: written, carried over, new.
-/
namespace Go.Proofs.YtmmkekdfbnmemaaGreatDoor
open Go.RowKit
set_option linter.unusedVariables false

theorem wsK_any (B b : Nat) (l s : List UInt8) (w : World) (h : Lib.IsBuilderF 40 5 B b (Lib.byteCells l) w) (hlen : l.length + s.length ≤ 140737488355328) (hBw : B ≤ w.heap.size) :
    Calls Tryz.prog 15 #[.pointer (some ⟨b, 0, none⟩), .string ⟨s.toArray⟩] w fun e w' => (∃ v, e = .returned v) ∧ Lib.IsBuilderF 40 5 B b (Lib.byteCells (l ++ s)) w' ∧ Below B w w' := by
  refine (Any.Builder_WriteString_k YtmmkekdfbnmemaaGreatDoorLaid YtmmkekdfbnmemaaGreatDoorExtra B b _ ⟨s.toArray⟩ w h (by rw [Lib.byteCells_length]; exact hlen) hBw).mono ?_
  rintro e w' ⟨he, hbd, hb, -⟩
  exact ⟨⟨_, he⟩, .inr (by rw [Lib.byteCells_append]; exact hbd), hb⟩
theorem bldK_below {w w' : World} {T e : TypeId} {B b : Nat} {bs : List Value} (h : Lib.IsBuilderF T e B b bs w) (hb : Below w.heap.size w w') : Lib.IsBuilderF T e B b bs w' := by
  have one : ∀ {p : Value}, Lib.BuilderAtF T e B b p bs w → Lib.BuilderAtF T e B b p bs w' := fun {p} k => by
    obtain ⟨h1, v, h2, h3, h4⟩ := k
    refine ⟨h1, v, (hb.block b (Array.getElem?_eq_some_iff.1 h2).1).trans h2, ⟨h3.1, ?_⟩, h4⟩
    rcases h3.2 with h0 | ⟨g, cap, cur, fz, e1, e2, e3, r⟩
    · exact .inl h0
    · exact .inr ⟨g, cap, cur, fz, e1, e2, (hb.block g (Array.getElem?_eq_some_iff.1 e3).1).trans e3, r⟩
  exact h.imp one one
theorem bldK_new (w : World) : Lib.IsBuilderF 40 5 w.heap.size w.heap.size (Lib.byteCells []) (w.alloc (.cells #[.pointer none, .slice none 0 0] 40)) :=
  Lib.IsBuilderF.of (.inl ⟨Nat.le_refl _, .slice none 0 0, heap_alloc_new w _, World.ownsRow_nil _ _ _ _, by simp [Value.ownBlock]⟩)
end Go.Proofs.YtmmkekdfbnmemaaGreatDoor
