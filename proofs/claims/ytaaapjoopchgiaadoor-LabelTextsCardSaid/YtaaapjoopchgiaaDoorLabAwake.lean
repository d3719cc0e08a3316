/-
  Chapter 1's example: scrimlaw01.awake returns true.
-/
import Derived.Test.YtaaapjoopchgiaaDoorLabText
import Derived.Test.YtaaapjoopchgiaaDoorLabOf
namespace Go.Proofs.YtaaapjoopchgiaaDoor
open Go.RowKit
set_option maxHeartbeats 400000

theorem awake_any (w : World) (hT : Tab64 w) (hB : 1 < w.heap.size) :
    Calls Tryd.prog 27 #[] w fun e w' => e = .returned (.bool true) ∧ Below w.heap.size w w' := by
  have HO := Lib.hid Lab.of_example
  have HX := Lib.hid Lab.text_example
  have HC := Lib.hid Ones.cnt_example
  have HF1 : Hid (Lab.flows 1 3 = true) := by unfold Hid; decide
  have HF2 : Hid (Lab.flows 3 1 = false) := by unfold Hid; decide
  have HT := Lib.hid hT
  clear hT
  go_enter Tryd.func27, Tryd.ntmps27
  go_wp2_with fail
  refine (of_any (some ⟨w.heap.size, 0, none⟩) 7 (w.heap.size + 1) [10, 0, 3, 4, 5, 9, 3] _ (Lies.new w ([10, 0, 3, 4, 5, 9, 3].map (Value.int .i64)) 3) (by decide)).mono ?_
  rintro e w' ⟨rfl, rfl⟩
  rw [HO.out.1, HO.out.2]
  have hB2 : 1 < w.heap.size + 1 := by omega
  have hbel1 : ∀ o, Below w.heap.size w (w.alloc o) := fun o => (Below.refl _ _).alloc (Nat.le_refl _) o
  have HT2 : Hid (∀ o, Tab64 (w.alloc o)) := fun o => HT.out.below hB (hbel1 o)
  have HB1 := Lib.hid hbel1
  clear hbel1
  go_wp2_with fail
  refine (text_any 1593 _ (by omega) (HT2.out _) (by simp; omega)).mono ?_
  rintro e w2 ⟨rfl, hb2⟩
  rw [HX.out, show strV [123, 48, 44, 51, 45, 53, 44, 57, 44, 49, 48, 125] = .string ⟨#[123, 48, 44, 51, 45, 53, 44, 57, 44, 49, 48, 125]⟩ from rfl]
  have hbw : Below w.heap.size w w2 := (HB1.out _).trans (hb2.mono (by simp))
  clear hb2
  go_wp2_with fail
  refine (flows_any 1 3 _ (by omega) (by omega)).mono ?_
  rintro e w' ⟨rfl, rfl⟩
  rw [HF1.out]
  go_wp2_with fail
  refine (flows_any 3 1 _ (by omega) (by omega)).mono ?_
  rintro e w' ⟨rfl, rfl⟩
  rw [HF2.out]
  go_wp2_with fail
  refine (size_any 1593 _ (by omega)).mono ?_
  rintro e w' ⟨rfl, rfl⟩
  rw [HC.out]
  go_wp2_with fail
  go_ret
  exact ⟨rfl, hbw⟩
end Go.Proofs.YtaaapjoopchgiaaDoor
