/-
  Arrays alike, whatever their labels are, by the reference: scrimref08.Match.
-/
import Derived.Test.YtfiobbhicicchaaCov1
import Derived.Test.YtfiobbhicicchaaRegPred
namespace Go.Proofs.Ytfiobbhicicchaa
open Go.RowKit Ar
set_option maxHeartbeats 4000000
set_option maxRecDepth 100000
set_option linter.unusedVariables false

def frameMt (g : Nat) (X Y : Array Value) (xs : Nat → Value) : Act := { tmps := #[.agg X, .agg Y, .pointer (some ⟨g, 0, none⟩), .pointer (some ⟨g + 1, 0, none⟩), xs 5, xs 0, xs 1, xs 2, xs 3, xs 4], defers := [] }
def predMt (a b : Arr) (X Y : Array Value) : Nat → World → Value → Prop
  | 0, _, v => v = .agg X
  | 1, w, v => ∃ vs, v = .agg vs.toArray ∧ IsArr w w.heap.size (erase a) vs
  | 2, _, v => v = .agg Y
  | 3, w, v => ∃ vs, v = .agg vs.toArray ∧ IsArr w w.heap.size (erase b) vs
  | _, _, v => v = .bool (same false a b)
theorem isArr_later {w w' : World} {a : Arr} {vs : List Value} (h : IsArr w w.heap.size a vs) (hb : Below w.heap.size w w') : IsArr w' w'.heap.size a vs := (h.below hb).more hb.size

theorem refMatch_any (a b : Arr) (vs vs' : List Value) (w : World) (B : Nat) (h : IsArr w B a vs) (h' : IsArr w B b vs') (hB : B ≤ w.heap.size) :
    Calls Try.prog 28 #[.agg vs.toArray, .agg vs'.toArray] w fun e w' => e = .returned (.bool (same false a b)) ∧ Below w.heap.size w w' := by
  obtain ⟨W, hW⟩ : ∃ W, W = (w.alloc (.cells vs.toArray 42)).alloc (.cells vs'.toArray 42) := ⟨_, rfl⟩
  have hWs : W.heap.size = w.heap.size + 1 + 1 := by rw [hW]; simp
  have hWb : Below w.heap.size w W := by rw [hW]; exact ((Below.refl _ _).alloc (Nat.le_refl _) _).alloc (by simp) _
  have hW0 : W.heap[w.heap.size]? = some (.cells vs.toArray 42 (0, 0)) := by rw [hW]; exact heap_alloc2_old _ _ _
  have hW1 : W.heap[w.heap.size + 1]? = some (.cells vs'.toArray 42 (0, 0)) := by rw [hW]; exact heap_alloc2_new _ _ _
  have EA := Lib.hid (fun (wx : World) (hx : Below W.heap.size W wx) => erase_any a vs wx B (h.below ((hWb.trans (hx.mono hWb.size)).mono hB)) (by have := hWb.size; have := hx.size; omega))
  have EB := Lib.hid (fun (wx : World) (hx : Below W.heap.size W wx) => erase_any b vs' wx B (h'.below ((hWb.trans (hx.mono hWb.size)).mono hB)) (by have := hWb.size; have := hx.size; omega))
  have HW := Lib.hid hW
  have HW0 := Lib.hid hW0
  have HW1 := Lib.hid hW1
  have hWl : w.heap.size + 1 < W.heap.size := by omega
  have hsz1 : vs.toArray.size = 3 := by simpa using h.len
  have hsz2 : vs'.toArray.size = 3 := by simpa using h'.len
  have HZ1 : Hid ((Try.prog.info? 42).map (·.size) = some vs.toArray.size) := Lib.hid (by rw [hsz1]; exact arr3_infoC)
  have HZ2 : Hid ((Try.prog.info? 42).map (·.size) = some vs'.toArray.size) := Lib.hid (by rw [hsz2]; exact arr3_infoC)
  clear hW hW0 hW1 hWs hsz1 hsz2 h h'
  generalize vs.toArray = X at *
  generalize vs'.toArray = Y at *
  go_enter Try.func28, Try.ntmps28
  go_wp2_with fail
  rw [← HW.out]
  refine wp_region_pred (frameMt w.heap.size X Y) W (predMt a b X Y) (by kernel_rfl) ?_ (by kernel_rfl) (fun i => if i = 5 then .bool false else undef) rfl (Below.refl _ _) ?_ ?_
  · intro i w1 w2 v hv hb
    match i with
    | 0 | 2 | 4 | i + 5 => exact hv
    | 1 => obtain ⟨vs, e, hI⟩ := hv; exact ⟨vs, e, isArr_later hI hb⟩
    | 3 => obtain ⟨vs, e, hI⟩ := hv; exact ⟨vs, e, isArr_later hI hb⟩
  · intro i xs w1 hi hb hdep
    have hi6 : i < 6 := hi
    rcases (show i = 0 ∨ i = 1 ∨ i = 2 ∨ i = 3 ∨ i = 4 ∨ i = 5 by omega) with rfl | rfl | rfl | rfl | rfl | rfl
    · refine wpOp_at rfl rfl ?_
      refine wp_load_row 42 (.tmp 2) rfl w.heap.size rfl 42 X (0, 0) _ ((hb.block w.heap.size (by omega)).trans HW0.out) Try.underlying42 rfl HZ1.out ?_
      exact ⟨_, rfl, rfl, Below.refl _ _⟩
    · have h0 : xs 0 = .agg X := hdep 0 (by kernel_rfl)
      refine wpOp_at rfl rfl ?_
      unfold frameMt Oper.wp
      simp only [h0]
      go_simp
      refine (EA.out _ hb).mono ?_
      rintro e w2 ⟨vs', rfl, hP, hb2⟩
      exact ⟨_, by simp only [frameMt, upd]; simp [h0], ⟨vs', rfl, hP⟩, hb2⟩
    · refine wpOp_at rfl rfl ?_
      refine wp_load_row 42 (.tmp 3) rfl (w.heap.size + 1) rfl 42 Y (0, 0) _ ((hb.block (w.heap.size + 1) (by omega)).trans HW1.out) Try.underlying42 rfl HZ2.out ?_
      exact ⟨_, rfl, rfl, Below.refl _ _⟩
    · have h2 : xs 2 = .agg Y := hdep 2 (by kernel_rfl)
      refine wpOp_at rfl rfl ?_
      unfold frameMt Oper.wp
      simp only [h2]
      go_simp
      refine (EB.out _ hb).mono ?_
      rintro e w2 ⟨vs', rfl, hP, hb2⟩
      exact ⟨_, by simp only [frameMt, upd]; simp [h2], ⟨vs', rfl, hP⟩, hb2⟩
    · skip
      obtain ⟨v1, h1, hI1⟩ : ∃ vs : List Value, xs 1 = .agg vs.toArray ∧ IsArr w1 w1.heap.size (erase a) vs := hdep 1 (by kernel_rfl)
      obtain ⟨v3, h3, hI3⟩ : ∃ vs : List Value, xs 3 = .agg vs.toArray ∧ IsArr w1 w1.heap.size (erase b) vs := hdep 3 (by kernel_rfl)
      have SM := refSame_any _ (erase a) (erase b) v1 v3 w1 w1.heap.size (Nat.lt_succ_self _) hI1 hI3 (Nat.le_refl _)
      rw [same_erase] at SM
      refine wpOp_at rfl rfl ?_
      unfold frameMt Oper.wp
      simp only [h1, h3]
      go_simp
      refine SM.mono ?_
      rintro e w2 ⟨rfl, hb2⟩
      exact ⟨_, by simp only [frameMt, upd]; simp [h1, h3], rfl, hb2⟩
    · skip
      have h4 : xs 4 = .bool (same false a b) := hdep 4 (by kernel_rfl)
      refine wpOp_at rfl rfl ?_
      unfold frameMt Oper.wp
      simp only [h4]
      go_simp
      exact ⟨_, by simp only [frameMt, upd]; simp [h4], rfl, Below.refl _ _⟩
  · intro xs w1 hb hx
    have h5 : xs 5 = .bool (same false a b) := hx 5 (by decide)
    clear hx
    unfold frameMt
    simp only [h5]
    go_wp2_with fail
    go_ret
    have hf := hWb.trans (hb.mono hWb.size)
    first | exact ⟨rfl, hf⟩ | exact ⟨ret_bool rfl, hf⟩ | exact hf
end Go.Proofs.Ytfiobbhicicchaa
