/-
  What fault.Class, New, Raise and Caught compute.
-/
import Derived.Test.YtaaapjoopchgiaaDoorFltAs
import Derived.Test.YtaaapjoopchgiaaDoorBlk
namespace Go.Proofs.YtaaapjoopchgiaaDoor
open Go.RowKit
set_option maxHeartbeats 1000000
set_option linter.unusedVariables false

theorem ErrType.below {w w' : World} {B : Nat} (h : ErrType w) (hb : Below B w w') (hB : 0 < B) : ErrType w' := (hb.cell (p := ⟨0, 0, none⟩) hB).trans h
theorem ErrType.lt {w : World} (h : ErrType w) : 0 < w.heap.size := World.block_lt_of_cell? w _ h
theorem ErrType.alloc {w : World} (h : ErrType w) (o : Obj) : ErrType (w.alloc o) := h.below ((Below.refl w.heap.size w).alloc (Nat.le_refl _) o) h.lt

theorem class_nil (w : World) : Calls Tryd.prog 12 #[.nilIface] w fun e w' => e = .returned (.int .i64 0) ∧ Below w.heap.size w w' := by
  go_enter Tryd.func12, Tryd.ntmps12
  go_wp2_with (go_at_call 43; refine (as_nil _ _).mono ?_; rintro e w' ⟨rfl, rfl⟩)
  go_ret
  exact ⟨rfl, ((Below.refl _ _).alloc (Nat.le_refl _) _).alloc (by simp) _⟩
/-- errors.As into a variable that was just made. -/
theorem as_var (e : Addr) (w : World) (hE : ErrType w) :
    Calls Tryd.prog 43 #[.iface 63 (.pointer (some e)), .iface 65 (.pointer (some ⟨w.heap.size, 0, none⟩))] (w.alloc (.cells #[.pointer none] 63)) fun ev w' => ev = .returned (.bool true) ∧ Below w.heap.size w w' ∧ w'.cell? ⟨w.heap.size, 0, none⟩ = some (.pointer (some e)) := by
  refine (as_hit e ⟨w.heap.size, 0, none⟩ (.pointer none) (w.alloc (.cells #[.pointer none] 63)) (hE.alloc _) (by simp) (by simp)).mono ?_
  rintro ev w' ⟨rfl, rfl⟩
  have hb : Below w.heap.size w (((((w.alloc (.cells #[.pointer none] 63)).alloc (.cells #[.pointer (some ⟨w.heap.size, 0, none⟩)] 65)).alloc (.cells #[.pointer (some ⟨5, 65, none⟩), .pointer (some ⟨(w.alloc (.cells #[.pointer none] 63)).heap.size, 0, none⟩), .int .u64 150] 88)).alloc (.cells #[.pointer (some ⟨5, 65, none⟩), .pointer (some ⟨(w.alloc (.cells #[.pointer none] 63)).heap.size, 0, none⟩), .int .u64 150] 88)).alloc (.cells #[.pointer (some e)] 63)) :=
    (((((Below.refl _ _).alloc (Nat.le_refl _) _).alloc (by simp) _).alloc (by simp; omega) _).alloc (by simp; omega) _).alloc (by simp; omega) _
  refine ⟨rfl, hb.setCell (Nat.le_refl _) _, ?_⟩
  have h0 : (((((w.alloc (.cells #[.pointer none] 63)).alloc (.cells #[.pointer (some ⟨w.heap.size, 0, none⟩)] 65)).alloc (.cells #[.pointer (some ⟨5, 65, none⟩), .pointer (some ⟨(w.alloc (.cells #[.pointer none] 63)).heap.size, 0, none⟩), .int .u64 150] 88)).alloc (.cells #[.pointer (some ⟨5, 65, none⟩), .pointer (some ⟨(w.alloc (.cells #[.pointer none] 63)).heap.size, 0, none⟩), .int .u64 150] 88)).alloc (.cells #[.pointer (some e)] 63)).cell? ⟨w.heap.size, 0, none⟩ = some (.pointer none) := by
    rw [World.cell?_alloc_lt _ _ ⟨w.heap.size, 0, none⟩ (by simp; omega), World.cell?_alloc_lt _ _ ⟨w.heap.size, 0, none⟩ (by simp; omega), World.cell?_alloc_lt _ _ ⟨w.heap.size, 0, none⟩ (by simp; omega), World.cell?_alloc_lt _ _ ⟨w.heap.size, 0, none⟩ (by simp)]
    simp
  exact World.cell?_setCell_same _ _ _ h0
theorem class_hit (b : Nat) (c l : Int) (o : Value) (w : World) (hb : Blk w b 67 [.int .i64 c, .int .u64 l, o]) (hE : ErrType w) :
    Calls Tryd.prog 12 #[.iface 63 (.pointer (some ⟨b, 0, none⟩))] w fun e w' => e = .returned (.int .i64 c) ∧ Below w.heap.size w w' := by
  have hlt := hb.lt
  have hc : w.cell? ⟨b, 0, none⟩ = some (.int .i64 c) := hb.cell rfl
  have HA := Lib.hid (as_var ⟨b, 0, none⟩ w hE)
  clear hb hE
  go_enter Tryd.func12, Tryd.ntmps12
  go_wp2_with fail
  refine HA.out.mono ?_
  rintro e w' ⟨rfl, hb, hcell⟩
  have hc' := (hb.cell (p := ⟨b, 0, none⟩) hlt).trans hc
  go_wp2_with fail
  go_ret
  exact ⟨rfl, hb⟩

theorem new_nil (l : Int) (w : World) : Calls Tryd.prog 40 #[.int .i64 0, .int .u64 l] w fun e w' => e = .returned .nilIface ∧ w = w' := by
  go_enter Tryd.func40, Tryd.ntmps40
  go_wp2_with fail
  go_ret
  exact ⟨rfl, rfl⟩
theorem new_some (c l : Int) (w : World) (hc : (c == 0) = false) : Calls Tryd.prog 40 #[.int .i64 c, .int .u64 l] w fun e w' => e = .returned (.iface 63 (.pointer (some ⟨w.heap.size, 0, none⟩))) ∧ w.alloc (.cells #[.int .i64 c, .int .u64 l, .nilIface] 67) = w' := by
  go_enter Tryd.func40, Tryd.ntmps40
  go_wp2_with fail
  go_ret
  exact ⟨rfl, rfl⟩
theorem raise_nil (l : Int) (w : World) : Calls Tryd.prog 19 #[.nilIface, .int .u64 l] w fun e w' => e = .returned .nilIface ∧ Below w.heap.size w w' := by
  go_enter Tryd.func19, Tryd.ntmps19
  go_wp2_with fail
  refine (class_nil w).mono ?_
  rintro e w' ⟨rfl, hb⟩
  go_wp2_with fail
  go_ret
  exact ⟨rfl, hb⟩
theorem raise_some (b : Nat) (c l m : Int) (o : Value) (w : World) (hb : Blk w b 67 [.int .i64 c, .int .u64 l, o]) (hE : ErrType w) (hc : (c == 0) = false) :
    Calls Tryd.prog 19 #[.iface 63 (.pointer (some ⟨b, 0, none⟩)), .int .u64 m] w fun e w' => ∃ g, e = .returned (.iface 63 (.pointer (some ⟨g, 0, none⟩))) ∧ w.heap.size ≤ g ∧ Blk w' g 67 [.int .i64 c, .int .u64 m, .iface 63 (.pointer (some ⟨b, 0, none⟩))] ∧ Below w.heap.size w w' := by
  have HC := Lib.hid (class_hit b c l o w hb hE)
  clear hb hE
  go_enter Tryd.func19, Tryd.ntmps19
  go_wp2_with fail
  refine HC.out.mono ?_
  rintro e w1 ⟨rfl, hb1⟩
  go_wp2_with fail
  go_ret
  exact ⟨w1.heap.size, rfl, hb1.size, Blk.new w1 _ _, hb1.alloc hb1.size _⟩
end Go.Proofs.YtaaapjoopchgiaaDoor
