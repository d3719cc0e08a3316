/-
  What scrimref18's New, Raise, Label and Caught compute.
-/
import Derived.Test.YtaaapjoopchgiaaDoorFltChain
import Derived.Test.YtaaapjoopchgiaaDoorLabRef
import Derived.RegionTactic
import Derived.Deep.RegionLaw
import Derived.Deep.AppendLies
namespace Go.Proofs.YtaaapjoopchgiaaDoor
open Go.RowKit
set_option maxHeartbeats 1000000
set_option linter.unusedVariables false

/-- Labels as values. -/
def L64 (l : List Nat) : List Value := l.map fun n : Nat => Value.int .u64 (n : Int)
theorem u64_info : (Tryd.prog.info? 22).map (fun i => (i.zero, i.size, i.bytes)) = some (some (.int .u64 0), 1, 8) := by kernel_rfl

theorem refNew_zero (l : Nat) (w : World) : Calls Tryd.prog 41 #[.int .i64 0, .int .u64 (l : Int)] w fun e w' => e = .returned (.agg #[.int .i64 0, .slice none 0 0]) ∧ Below w.heap.size w w' := by
  go_enter Tryd.func41, Tryd.ntmps41
  go_wp2_with fail
  exact bodyPost_ret (v := .agg #[.int .i64 0, .slice none 0 0]) (by simp [results, Tryd.results41, go_sem]) rfl ⟨rfl, (Below.refl _ _).alloc (Nat.le_refl _) _⟩
theorem refNew_some (c : Int) (l : Nat) (w : World) (hc : (c == 0) = false) : Calls Tryd.prog 41 #[.int .i64 c, .int .u64 (l : Int)] w fun e w' => ∃ A cp, e = .returned (.agg #[.int .i64 c, .slice A 1 cp]) ∧ Lies w' w'.heap.size A (L64 [l]) ∧ 1 ≤ cp ∧ Below w.heap.size w w' := by
  go_enter Tryd.func41, Tryd.ntmps41
  go_wp2_with fail
  refine bodyPost_ret (v := .agg #[.int .i64 c, .slice (some ⟨w.heap.size + 1, 0, none⟩) 1 1]) (by simp [results, Tryd.results41, go_sem]) rfl ⟨_, _, rfl, ?_, Nat.le_refl _, ((Below.refl _ _).alloc (Nat.le_refl _) _).alloc (by simp) _⟩
  have := Lies.new (w.alloc (.cells #[.int .i64 c, .slice (some ⟨w.heap.size + 1, 0, none⟩) 1 1] 27)) (L64 [l]) 22
  simpa [L64] using this
theorem refRaise_zero (l : Nat) (A : Option Addr) (n cp : Nat) (w : World) : Calls Tryd.prog 42 #[.agg #[.int .i64 0, .slice A n cp], .int .u64 (l : Int)] w fun e w' => e = .returned (.agg #[.int .i64 0, .slice none 0 0]) ∧ Below w.heap.size w w' := by
  go_enter Tryd.func42, Tryd.ntmps42
  go_wp2_with fail
  exact bodyPost_ret (v := .agg #[.int .i64 0, .slice none 0 0]) (by simp [results, Tryd.results42, go_sem]) rfl ⟨rfl, ((Below.refl _ _).alloc (Nat.le_refl _) _).alloc (by simp) _⟩
theorem L64_one (l : List Nat) : ∀ v ∈ L64 l, v.oneCell' = true := by
  intro v hv
  obtain ⟨n, _, rfl⟩ := List.mem_map.1 hv
  rfl
theorem L64_len (l : List Nat) : (L64 l).length = l.length := by simp [L64]
theorem refRaise_some (c : Int) (l : Nat) (A : Option Addr) (cp B : Nat) (ls : List Nat) (w : World) (hc : (c == 0) = false) (hl : Lies w B A (L64 ls)) (hB : B ≤ w.heap.size) (hp : 0 < ls.length) (hs : ls.length ≤ 1000) :
    Calls Tryd.prog 42 #[.agg #[.int .i64 c, .slice A ls.length cp], .int .u64 (l : Int)] w fun e w' => ∃ A' cp', e = .returned (.agg #[.int .i64 c, .slice A' (ls.length + 1) cp']) ∧ Lies w' w'.heap.size A' (L64 (ls ++ [l])) ∧ Below w.heap.size w w' := by
  obtain ⟨i0, hi, hz0, hz1, hz2⟩ := info_parts u64_info
  rcases hl with h | ⟨b, off, rfl, hb, hcell⟩
  · exfalso
    have := congrArg List.length h
    rw [L64_len] at this
    have h2 : ls.length = 0 := this
    omega
  have HS : Hid (∀ o o' : Obj, ∀ (j : Nat) (v : Value), (L64 ls)[j]? = some v → ((w.alloc o).alloc o').cell? ((⟨b, off, none⟩ : Addr).add j) = some v) := Lib.hid (fun o o' j v hv => by
    have h1 := hcell j v hv
    have e : (⟨b, off, none⟩ : Addr).add j = ⟨b, off + j, none⟩ := by
      unfold Addr.add
      split
      · rename_i h; rw [h]; rfl
      · rfl
    rw [e, World.cell?_alloc_lt _ _ ⟨b, off + j, none⟩ (by simp; omega), World.cell?_alloc_lt _ _ ⟨b, off + j, none⟩ (by simp; omega)]
    exact h1)
  clear hcell
  go_enter Tryd.func42, Tryd.ntmps42
  go_wp2_with (at_builtin; refine wpList_append_own _ rfl (.tmp 10) (.tmp 12) 23 rfl (w.heap.size + 2) 22 i0 (.int .u64 0) 1 8 Tryd.underlying23 hi hz0 hz1 hz2 rfl (by decide) (.slice none 0 0) 0 [] rfl ⟨by simp, .inl ⟨rfl, rfl⟩⟩ ⟨b, off, none⟩ ls.length cp (L64 ls) rfl (by rw [L64_len]; simp) (HS.out _ _) (L64_one ls) (by unfold maxLen; omega) (by omega) (by simp) ?_; intro v1 w1 hown1 hgrow1 hnn1)
  have hown1' : w1.ownsRow (w.heap.size + 2) 22 1 v1 ls.length (L64 ls) := by simpa using hown1
  have hb1 : Below w.heap.size w w1 := (((Below.refl _ _).alloc (Nat.le_refl _) _).alloc (by simp) _).grown hgrow1 (by simp; try omega) (by simp [Value.ownBlock])
  have hsz1 : w.heap.size + 2 ≤ w1.heap.size := by have := hgrow1.size; simp at this; omega
  have FAR1 : w1.cell? ⟨w.heap.size, 0, none⟩ = some (.int .i64 c) ∧ Blk w1 (w.heap.size + 1) 27 [.int .i64 0, .slice none 0 0] := by
    constructor
    · rw [World.cell?_of_block (hgrow1.block w.heap.size (by simp; omega) (by simp [Value.ownBlock]))]
      simp
    · refine Blk.grown ?_ hgrow1 (by simp [Value.ownBlock])
      have := Blk.new (w.alloc (.cells #[.int .i64 c, .slice (some ⟨b, off, none⟩) ls.length cp] 27)) 27 [.int .i64 0, .slice none 0 0]
      simpa using this
  obtain ⟨hbox, hres⟩ := FAR1
  have STEP : Hid (∀ w2 : World, (w1.drew.alloc (.cells #[.int .u64 (l : Int)] 22)).grownBy w2 v1.ownBlock → w2.cell? ⟨w.heap.size, 0, none⟩ = some (.int .i64 c) ∧ Blk w2 (w.heap.size + 1) 27 [.int .i64 0, .slice none 0 0] ∧ Below w.heap.size w w2) := Lib.hid (fun w2 hg => by
    have hne : ∀ k, k < w.heap.size + 2 → some k ≠ v1.ownBlock := fun k hk e => by have := (hown1'.lt k e.symm).1; omega
    refine ⟨?_, ?_, ?_⟩
    · rw [World.cell?_of_block (hg.block w.heap.size (by simp; omega) (hne _ (by omega))), World.cell?_alloc_lt _ _ ⟨w.heap.size, 0, none⟩ (by simp; omega)]
      exact hbox
    · exact ((show Blk w1.drew _ _ _ from hres).alloc _).grown hg (hne _ (by omega))
    · exact (Below.alloc (show Below w.heap.size w w1.drew from ⟨hb1.os, hb1.tape, hb1.output, hb1.size, hb1.block⟩) (by simp; omega) _).grown hg (by simp; omega) (fun k hk => by have := (hown1'.lt k hk).1; omega))
  have hboxa : (w1.alloc (.cells #[.int .u64 (l : Int)] 22)).cell? ⟨w.heap.size, 0, none⟩ = some (.int .i64 c) := by rw [World.cell?_alloc_lt _ _ ⟨w.heap.size, 0, none⟩ (by simp; omega)]; exact hbox
  have hr0 := hres.cell (i := 0) rfl
  have hr1 := hres.cell (i := 1) rfl
  clear hown1 hgrow1 hnn1 HS hres
  go_region_law (refine step_append_lies _ (by rfl) (.tmp 16) (.tmp 18) 23 (by rfl) (w.heap.size + 2) 22 i0 (.int .u64 0) 1 8 Tryd.underlying23 hi hz0 hz1 hz2 rfl (by omega) v1 ls.length (L64 ls) (by rfl) (by exact (hown1'.drew.alloc _)) ⟨w1.heap.size, 0, none⟩ 1 1 [.int .u64 (l : Int)] (by rfl) (by rfl) (by exact cell_one_new _ _ _) (by intro u hu; simp only [List.mem_singleton] at hu; subst hu; rfl) (by omega) (by unfold maxLen; omega) (by omega) (by simp; omega) (w1.heap.size + 1) (by simp) ?_; intro g2 c2 w2 hown2 hgrow2 hg2 hg3; obtain ⟨hbox2, hres2, hb2⟩ := STEP.out w2 hgrow2; have hq0 := hres2.cell (i := 0) rfl; have hq1 := hres2.cell (i := 1) rfl; have hz0' := hres2.frozen 0; have hz1' := hres2.frozen 1; have HR2 := Lib.hid hres2; clear hgrow2 hres2)
  all_goals
    go_wp2_with fail
    have hB3 := (HR2.out.set_ 0 (.int .i64 c)).set_ 1 (.slice (some ⟨g2, 0, none⟩) (ls.length + 1) c2)
    have f0 := hB3.cell (i := 0) rfl
    have f1 := hB3.cell (i := 1) rfl
    have ho3 := ownsRow_setCell_below (ownsRow_setCell_below hown2 (a := ⟨w.heap.size + 1, 0, none⟩) (by show w.heap.size + 1 < w.heap.size + 2; omega) (.int .i64 c)) (a := ⟨w.heap.size + 1, 1, none⟩) (by show w.heap.size + 1 < w.heap.size + 2; omega) (.slice (some ⟨g2, 0, none⟩) (ls.length + 1) c2)
    refine bodyPost_ret (v := .agg #[.int .i64 c, .slice (some ⟨g2, 0, none⟩) (ls.length + 1) c2]) (by simp [results, Tryd.results42, go_sem, f0, f1]) rfl ⟨_, _, rfl, ?_, (hb2.setCell (by show w.heap.size ≤ w.heap.size + 1; omega) _).setCell (by show w.heap.size ≤ w.heap.size + 1; omega) _⟩
    have h := Lies.of_own ho3
    simpa [L64] using h
end Go.Proofs.YtaaapjoopchgiaaDoor
