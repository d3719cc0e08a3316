/-
  Words for a block of memory that the call made and knows whole: 'Blk'; a law for make.
-/
import Derived.Test.YtfiobbhicicchaaWords
import Derived.Laws.MakeOwn
import Derived.OwnWalk
namespace Go.Proofs.Ytfiobbhicicchaa
open Go.RowKit

/-- Block g is just these cells, none frozen. -/
def Blk (w : World) (g : Nat) (t : TypeId) (vs : List Value) : Prop := w.heap[g]? = some (.cells vs.toArray t (0, 0))

theorem Blk.lt {w : World} {g : Nat} {t : TypeId} {vs : List Value} (h : Blk w g t vs) : g < w.heap.size := by
  rcases Nat.lt_or_ge g w.heap.size with hl | hl
  · exact hl
  · unfold Blk at h; rw [Array.getElem?_eq_none hl] at h; cases h
theorem Blk.cell {w : World} {g : Nat} {t : TypeId} {vs : List Value} (h : Blk w g t vs) {i : Nat} {v : Value} (hi : vs[i]? = some v) : w.cell? ⟨g, i, none⟩ = some v := by
  rw [cell_of_row w g i vs.toArray t (0, 0) h]; simpa using hi
theorem Blk.frozen {w : World} {g : Nat} {t : TypeId} {vs : List Value} (h : Blk w g t vs) (i : Nat) : w.frozen? ⟨g, i, none⟩ = false := by
  unfold Blk at h; simp [World.frozen?, h]
theorem Blk.set_ {w : World} {g : Nat} {t : TypeId} {vs : List Value} (h : Blk w g t vs) (i : Nat) (v : Value) : Blk (w.setCell ⟨g, i, none⟩ v) g t (vs.set i v) := by
  unfold Blk at h ⊢
  simp [World.setCell, Array.getElem?_modify, h]
theorem Blk.drewN {w : World} {g : Nat} {t : TypeId} {vs : List Value} (h : Blk w g t vs) (n : Nat) : Blk (w.drewN n) g t vs := h
theorem Blk.keep {w w' : World} {g B : Nat} {t : TypeId} {vs : List Value} (h : Blk w g t vs) (hb : Below B w w') (hg : g < B) : Blk w' g t vs := (hb.block g hg).trans h
theorem Blk.new (w : World) (t : TypeId) (vs : List Value) : Blk (w.alloc (.cells vs.toArray t)) w.heap.size t vs := heap_alloc_new w _
theorem Blk.alloc {w : World} {g : Nat} {t : TypeId} {vs : List Value} (h : Blk w g t vs) (o : Obj) : Blk (w.alloc o) g t vs := (Below.heap_alloc w o g h.lt).trans h
theorem Blk.far {w : World} {g : Nat} {t : TypeId} {vs : List Value} (h : Blk w g t vs) {p : Addr} (hp : g ≠ p.block) (v : Value) : Blk (w.setCell p v) g t vs := (Below.heap_setCell w p v g hp).trans h
theorem Blk.own {w : World} {g base n : Nat} {t : TypeId} {vs : List Value} (h : Blk w g t vs) (hb : base ≤ g) (hn : n ≤ vs.length) (hm : vs.length ≤ maxLen) : w.ownsRow base t 1 (.slice (some ⟨g, 0, none⟩) n vs.length) n (vs.take n) :=
  ⟨by simp; omega, .inr ⟨g, vs.length, vs.toArray, rfl, hb, h, hn, hm, by simp, by simp⟩⟩
theorem Blk.own_all {w : World} {g base : Nat} {t : TypeId} {vs : List Value} (h : Blk w g t vs) (hb : base ≤ g) (hm : vs.length ≤ maxLen) : w.ownsRow base t 1 (.slice (some ⟨g, 0, none⟩) vs.length vs.length) vs.length vs := by
  have := h.own (n := vs.length) hb (Nat.le_refl _) hm
  rwa [List.take_length] at this
theorem Blk.lies {w : World} {g : Nat} {t : TypeId} {vs : List Value} (h : Blk w g t vs) : Lies w w.heap.size (some ⟨g, 0, none⟩) vs :=
  .inr ⟨g, 0, rfl, h.lt, fun i v hv => by rw [Nat.zero_add]; exact h.cell hv⟩
theorem blk_of_own {w : World} {base n : Nat} {t : TypeId} {v : Value} {xs : List Value} (h : w.ownsRow base t 1 v n xs) (hn : 0 < n) : ∃ g vs, v = .slice (some ⟨g, 0, none⟩) n vs.length ∧ base ≤ g ∧ Blk w g t vs ∧ vs.take n = xs ∧ n ≤ vs.length ∧ vs.length ≤ maxLen := by
  rcases h.2 with ⟨_, h0⟩ | ⟨g, cap, cur, hv, hb, hh, h1, h2, h3, h4⟩
  · omega
  · rw [Nat.mul_one] at h3 h4
    have hl : cur.toList.length = cap := by simpa using h3
    exact ⟨g, cur.toList, by rw [hl]; exact hv, hb, by unfold Blk; simpa using hh, h4, by omega, by omega⟩

theorem madeCells_one (z : Value) (n : Nat) : (madeCells #[z] n).toList = List.replicate n z := by
  apply List.ext_getElem?
  intro i
  simp only [madeCells, Array.toList_map, Array.toList_range, List.getElem?_map, List.getElem?_replicate]
  by_cases h : i < n
  · simp [h, Nat.mod_one]
  · simp [h]

/-- make of a slice of one-cell elements: the block, whole. -/
theorem wpList_make_blk {P : Program} (w : World) {ops : Array Oper} {rest : List Oper} {o : Oper} {a : Act} {Q : Exit → Act → World → Prop}
    (hg : o.guard = none) (l c : Operand) (t : TypeId) (hop : o.op = Op.makeSlice t l c)
    (e : TypeId) (i : TypeInfo) (z : Value) (h1 : P.underlying t = some (.slice e)) (h2 : P.info? e = some i) (h3 : i.zero = some z) (h4 : i.size = 1) (hz : z.cells = #[z])
    (kl kc : IntKind) (L C : Int) (n m : Nat) (hl : a.eval l = .int kl L) (hc : a.eval c = .int kc C) (hL : L = (n : Int)) (hC : C = (m : Int)) (hnm : n ≤ m) (b2 : i.bytes * m ≤ 281474976710656) (b3 : m ≤ 9223372036854775807)
    (B : Nat) (w0 : World) (hb : Below B w0 w) (hB : B ≤ w.heap.size)
    (hK : ∀ w', Blk w' w.heap.size e (List.replicate m z) → Below B w0 w' → Below w.heap.size w w' → w.heap.size < w'.heap.size → wpList P ops Q rest (a.put o.dst (.slice (some ⟨w.heap.size, 0, none⟩) n m)) w') :
    wpList P ops Q (o :: rest) a w := by
  refine wpList_plain hg fun K hK' => ?_
  subst hL hC
  have hrun := run_make (P := P) w t e i z h1 h2 h3 kl kc n m (by omega) (by omega) (by rw [← Int.natCast_mul]; omega) (by omega)
  simp only [Int.toNat_natCast, h4, Nat.mul_one, hz] at hrun
  unfold Oper.wp
  simp [execOp, hop, hl, hc, hrun, Result.andThen]
  refine hK' _ _ (hK _ ?_ (hb.alloc hB _) ((Below.refl _ _).alloc (Nat.le_refl _) _) (by simp))
  rw [show madeCells #[z] m = (List.replicate m z).toArray from Array.toList_inj.1 (by rw [madeCells_one])]
  exact Blk.new w e (List.replicate m z)

/-- Only block g has been written. -/
theorem grown_set {a w : World} {g : Nat} (h : a.grownBy w (some g)) (i : Nat) (v : Value) : a.grownBy (w.setCell ⟨g, i, none⟩ v) (some g) :=
  ⟨h.os, h.tape, h.output, by simpa [World.setCell] using h.size, fun k hk hne => (Below.heap_setCell w ⟨g, i, none⟩ v k (fun e => hne (by rw [e]))).trans (h.block k hk hne)⟩
theorem grown_drewN {a w : World} {row : Option Nat} (h : a.grownBy w row) (n : Nat) : a.grownBy (w.drewN n) row := ⟨h.os, h.tape, h.output, h.size, h.block⟩
theorem grown_below {a w w' : World} {row : Option Nat} (h : a.grownBy w row) (hb : Below w.heap.size w w') : a.grownBy w' row :=
  ⟨hb.os.trans h.os, hb.tape.trans h.tape, hb.output.trans h.output, Nat.le_trans h.size hb.size, fun k hk hne => (hb.block k (Nat.lt_of_lt_of_le hk h.size)).trans (h.block k hk hne)⟩
theorem Blk.grown {w w' : World} {g : Nat} {t : TypeId} {vs : List Value} {row : Option Nat} (h : Blk w g t vs) (hg : w.grownBy w' row) (hne : some g ≠ row) : Blk w' g t vs := (hg.block g h.lt hne).trans h
theorem Lies.grown {w w' : World} {B : Nat} {A : Option Addr} {vs : List Value} {row : Option Nat} (h : Lies w B A vs) (hB : B ≤ w.heap.size) (hg : w.grownBy w' row) (hr : ∀ g, row = some g → B ≤ g) : Lies w' B A vs :=
  h.keep fun p hp => World.cell?_of_block (hg.block p.block (by omega) (fun e => by have := hr _ e.symm; omega))
end Go.Proofs.Ytfiobbhicicchaa
