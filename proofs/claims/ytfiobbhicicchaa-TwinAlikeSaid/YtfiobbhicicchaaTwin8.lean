/-
  The reference's Alike of two configurations; and scrimref30.Same.
-/
import Derived.Test.YtfiobbhicicchaaCov2
import Derived.Test.YtfiobbhicicchaaTwin6
namespace Go.Proofs.Ytfiobbhicicchaa
open Go.RowKit Ar
set_option maxHeartbeats 8000000
set_option maxRecDepth 100000
set_option linter.unusedVariables false

/-! ### Plain: channel by channel -/
def chanB (o : Nat) (c d : Cfg) (k : Nat) : Bool := (c.clear k == d.clear k) && (c.label k == d.label k) && (!Lab.flows (c.label k) o || (c.draws k == d.draws k)) && (!Lab.flows (c.clear k) o || sameArrs false (c.ins k) (d.ins k))
def chansFrom (o : Nat) (c d : Cfg) (k : Nat) : Bool := ((List.range 8).drop k).all (chanB o c d)
theorem chansFrom_step {o : Nat} {c d : Cfg} {k : Nat} (h : k < 8) : chansFrom o c d k = (chanB o c d k && chansFrom o c d (k + 1)) := by
  unfold chansFrom
  rw [List.drop_eq_getElem_cons (by simpa using h), List.all_cons]
  simp
theorem chansFrom_end {o : Nat} {c d : Cfg} : chansFrom o c d 8 = true := by unfold chansFrom; rw [List.drop_eq_nil_of_le (by simp)]; rfl
theorem sameArrs_nil : sameArrs false [] [] = true := by rw [sameArrs]
theorem row_of_chan {o : Nat} {c d : Cfg} {k : Nat} (h1 : c.clear k = d.clear k) (h2 : c.label k = d.label k) : rowB (hideCfg o c) (hideCfg o d) k = ((!Lab.flows (c.label k) o || (c.draws k == d.draws k)) && (!Lab.flows (c.clear k) o || sameArrs false (c.ins k) (d.ins k))) := by
  unfold rowB hideCfg
  dsimp only
  rw [← h1, ← h2]
  cases Lab.flows (c.label k) o <;> cases Lab.flows (c.clear k) o <;> simp [sameArrs_nil, Bool.and_comm]
theorem alike_chans (o : Nat) (c d : Cfg) : alikeB o c d = ((c.auth == d.auth) && (c.depth == d.depth) && chansFrom o c d 0) := by
  have e : ∀ p : Nat → Bool, ((List.range 8).drop 0).all p = (p 0 && (p 1 && (p 2 && (p 3 && (p 4 && (p 5 && (p 6 && (p 7)))))))) := fun p => by simp [List.range, List.range.loop]
  rw [Bool.eq_iff_iff]
  unfold alikeB chansFrom rowsFrom
  rw [e, e]
  simp only [Bool.and_eq_true, beq_iff_eq, l8, List.cons.injEq, and_true]
  constructor
  · rintro ⟨⟨⟨⟨⟨c0, c1, c2, c3, c4, c5, c6, c7⟩, l0, l1, l2, l3, l4, l5, l6, l7⟩, ha⟩, hd⟩, r0, r1, r2, r3, r4, r5, r6, r7⟩
    rw [row_of_chan c0 l0] at r0
    rw [row_of_chan c1 l1] at r1
    rw [row_of_chan c2 l2] at r2
    rw [row_of_chan c3 l3] at r3
    rw [row_of_chan c4 l4] at r4
    rw [row_of_chan c5 l5] at r5
    rw [row_of_chan c6 l6] at r6
    rw [row_of_chan c7 l7] at r7
    simp only [Bool.and_eq_true] at r0 r1 r2 r3 r4 r5 r6 r7
    refine ⟨⟨ha, hd⟩, ?_⟩
    simp only [chanB, Bool.and_eq_true, beq_iff_eq]
    exact ⟨⟨⟨⟨c0, l0⟩, r0.1⟩, r0.2⟩, ⟨⟨⟨c1, l1⟩, r1.1⟩, r1.2⟩, ⟨⟨⟨c2, l2⟩, r2.1⟩, r2.2⟩, ⟨⟨⟨c3, l3⟩, r3.1⟩, r3.2⟩, ⟨⟨⟨c4, l4⟩, r4.1⟩, r4.2⟩, ⟨⟨⟨c5, l5⟩, r5.1⟩, r5.2⟩, ⟨⟨⟨c6, l6⟩, r6.1⟩, r6.2⟩, ⟨⟨⟨c7, l7⟩, r7.1⟩, r7.2⟩⟩
  · rintro ⟨⟨ha, hd⟩, h⟩
    simp only [chanB, Bool.and_eq_true, beq_iff_eq] at h
    obtain ⟨⟨⟨⟨c0, l0⟩, a0⟩, b0⟩, ⟨⟨⟨c1, l1⟩, a1⟩, b1⟩, ⟨⟨⟨c2, l2⟩, a2⟩, b2⟩, ⟨⟨⟨c3, l3⟩, a3⟩, b3⟩, ⟨⟨⟨c4, l4⟩, a4⟩, b4⟩, ⟨⟨⟨c5, l5⟩, a5⟩, b5⟩, ⟨⟨⟨c6, l6⟩, a6⟩, b6⟩, ⟨⟨⟨c7, l7⟩, a7⟩, b7⟩⟩ := h
    refine ⟨⟨⟨⟨⟨c0, c1, c2, c3, c4, c5, c6, c7⟩, l0, l1, l2, l3, l4, l5, l6, l7⟩, ha⟩, hd⟩, ?_, ?_, ?_, ?_, ?_, ?_, ?_, ?_⟩
    · rw [row_of_chan c0 l0, a0, b0]; rfl
    · rw [row_of_chan c1 l1, a1, b1]; rfl
    · rw [row_of_chan c2 l2, a2, b2]; rfl
    · rw [row_of_chan c3 l3, a3, b3]; rfl
    · rw [row_of_chan c4 l4, a4, b4]; rfl
    · rw [row_of_chan c5 l5, a5, b5]; rfl
    · rw [row_of_chan c6 l6, a6, b6]; rfl
    · rw [row_of_chan c7 l7, a7, b7]; rfl

/-- The cells of one channel of two configurations, in whatever later world. -/
structure ChanAt (w W : World) (B g : Nat) (cf df : Cfg) (k : Nat) (A1 A2 A3 A4 : Option Addr) (c1 c2 c3 c4 : Nat) (us1 us2 : List Value) : Prop where
  c : ∀ wx, Below W.heap.size W wx → wx.cell? ⟨g, k, none⟩ = some (.int .u64 (cf.clear k : Int)) ∧ wx.cell? ⟨g + 1, k, none⟩ = some (.int .u64 (df.clear k : Int))
  l : ∀ wx, Below W.heap.size W wx → wx.cell? ⟨g, 16 + k, none⟩ = some (.int .u64 (cf.label k : Int)) ∧ wx.cell? ⟨g + 1, 16 + k, none⟩ = some (.int .u64 (df.label k : Int))
  i : ∀ wx, Below W.heap.size W wx → wx.cell? ⟨g, 8 + k, none⟩ = some (.slice A1 (cf.ins k).length c1) ∧ wx.cell? ⟨g + 1, 8 + k, none⟩ = some (.slice A2 (df.ins k).length c2)
  d : ∀ wx, Below W.heap.size W wx → wx.cell? ⟨g, 24 + k, none⟩ = some (.slice A3 (cf.draws k).length c3) ∧ wx.cell? ⟨g + 1, 24 + k, none⟩ = some (.slice A4 (df.draws k).length c4)
  li : Lies w B A1 us1 ∧ IsArrs w B (cf.ins k) us1
  li' : Lies w B A2 us2 ∧ IsArrs w B (df.ins k) us2
  ld : Lies w B A3 (I64 (cf.draws k))
  ld' : Lies w B A4 (I64 (df.draws k))
  b1 : cf.clear k < 18446744073709551616 ∧ df.clear k < 18446744073709551616
  b2 : cf.label k < 18446744073709551616 ∧ df.label k < 18446744073709551616
  f1 : (cf.ins k).length ≤ 35184372088832 ∧ (df.ins k).length ≤ 35184372088832
  f2 : (cf.draws k).length ≤ 35184372088832 ∧ (df.draws k).length ≤ 35184372088832
theorem chan_at {w W : World} {B g : Nat} {cf df : Cfg} {C D : Array Value} (hC : IsCfg w B cf C) (hD : IsCfg w B df D) (h0 : W.heap[g]? = some (.cells C 29 (0, 0))) (h1 : W.heap[g + 1]? = some (.cells D 29 (0, 0))) (hg : g + 1 < W.heap.size) {k : Nat} (hk : k < 8) :
    ∃ A1 A2 A3 A4 c1 c2 c3 c4 us1 us2, ChanAt w W B g cf df k A1 A2 A3 A4 c1 c2 c3 c4 us1 us2 := by
  obtain ⟨A1, c1, us1, i1, i2, i3, i4⟩ := hC.ins k hk
  obtain ⟨A2, c2, us2, j1, j2, j3, j4⟩ := hD.ins k hk
  obtain ⟨A3, c3, d1, d2, d3, d4⟩ := hC.draws k hk
  obtain ⟨A4, c4, e1, e2, e3, e4⟩ := hD.draws k hk
  have q0 : ∀ wx, Below W.heap.size W wx → ∀ i v, C[i]? = some v → wx.cell? ⟨g, i, none⟩ = some v := fun wx hx i v hv => (cell_of_row wx g i _ _ _ ((hx.block g (by omega)).trans h0)).trans hv
  have q1 : ∀ wx, Below W.heap.size W wx → ∀ i v, D[i]? = some v → wx.cell? ⟨g + 1, i, none⟩ = some v := fun wx hx i v hv => (cell_of_row wx (g + 1) i _ _ _ ((hx.block (g + 1) (by omega)).trans h1)).trans hv
  have b1 := i2.1
  have b2 := i2.2.1
  have b3 := j2.1
  have b4 := j2.2.1
  have b5 := d2.1
  have b6 := d2.2.1
  have b7 := e2.1
  have b8 := e2.2.1
  exact ⟨A1, A2, A3, A4, c1, c2, c3, c4, us1, us2, { c := fun wx hx => ⟨q0 wx hx _ _ (hC.clear k hk).1, q1 wx hx _ _ (hD.clear k hk).1⟩, l := fun wx hx => ⟨q0 wx hx _ _ (hC.label k hk).1, q1 wx hx _ _ (hD.label k hk).1⟩, i := fun wx hx => ⟨q0 wx hx _ _ i1, q1 wx hx _ _ j1⟩, d := fun wx hx => ⟨q0 wx hx _ _ d1, q1 wx hx _ _ e1⟩, li := ⟨i3, i4⟩, li' := ⟨j3, j4⟩, ld := d4, ld' := e4, b1 := ⟨(hC.clear k hk).2, (hD.clear k hk).2⟩, b2 := ⟨(hC.label k hk).2, (hD.label k hk).2⟩, f1 := by omega, f2 := by omega }⟩
end Go.Proofs.Ytfiobbhicicchaa
