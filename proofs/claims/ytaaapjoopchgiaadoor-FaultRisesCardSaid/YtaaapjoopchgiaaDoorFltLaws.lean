/-
  Chapter 18's example (awake) and the walks of the laws FaultTells, FaultIs, FaultRises.
-/
import Derived.Test.YtaaapjoopchgiaaDoorFltMade3
import Derived.Deep.RegionHeld3
namespace Go.Proofs.YtaaapjoopchgiaaDoor
open Go.RowKit
set_option maxHeartbeats 1000000
set_option linter.unusedVariables false

theorem eql_nil_nil (w : World) : (binOp .eql 25 .nilIface .nilIface).run Tryd.prog w = .ok (.bool true) w := by kernel_rfl
theorem eql_fault_nil (b : Nat) (w : World) : (binOp .eql 25 (.iface 63 (.pointer (some ⟨b, 0, none⟩))) .nilIface).run Tryd.prog w = .ok (.bool false) w := by kernel_rfl
theorem neq_fault_nil (b : Nat) (w : World) : (binOp .neq 25 (.iface 63 (.pointer (some ⟨b, 0, none⟩))) .nilIface).run Tryd.prog w = .ok (.bool true) w := by kernel_rfl
theorem Chain.eql_nil {w : World} {c : Int} {e : Value} {fs : List (Nat × Nat)} (h : Chain w c e fs) (hc : c = 0 ↔ fs = []) (wx : World) : (binOp .eql 25 e .nilIface).run Tryd.prog wx = .ok (.bool (c == 0)) wx := by
  cases fs with
  | nil =>
    have he : e = .nilIface := h
    have h0 := hc.2 rfl
    subst he h0
    exact eql_nil_nil wx
  | cons x r =>
    obtain ⟨b, l⟩ := x
    obtain ⟨rfl, _⟩ := h
    have h0 : (c == 0) = false := by rw [beq_eq_false_iff_ne]; intro h; have := hc.1 h; cases this
    rw [h0]
    exact eql_fault_nil b wx

theorem awake18 (w : World) (hE : ErrType w) : Calls Tryd.prog 18 #[] w fun e w' => e = .returned (.bool true) ∧ Below w.heap.size w w' := by
  have hq := neq_fault_nil
  have HE := Lib.hid hE
  have hlt := hE.lt
  clear hE
  go_enter Tryd.func18, Tryd.ntmps18
  go_wp2_with fail
  refine (new_some 3 1 w rfl).mono ?_
  rintro e w' ⟨rfl, rfl⟩
  have hb0 : Below w.heap.size w (w.alloc (.cells #[.int .i64 3, .int .u64 1, .nilIface] 67)) := (Below.refl _ _).alloc (Nat.le_refl _) _
  have RA := Lib.hid (raise_some w.heap.size 3 1 2 .nilIface (w.alloc (.cells #[.int .i64 3, .int .u64 1, .nilIface] 67)) (Blk.new w _ _) (HE.out.alloc _) rfl)
  go_wp2_with fail
  refine RA.out.mono ?_
  rintro e w1 ⟨g, rfl, hg, hblk, hb1⟩
  have hb01 : Below w.heap.size w w1 := hb0.trans (hb1.mono (by simp))
  have hch : Chain w1 3 (.iface 63 (.pointer (some ⟨g, 0, none⟩))) [(g, 2), (w.heap.size, 1)] := by
    refine ⟨rfl, _, hblk, ⟨rfl, .nilIface, (Blk.new w _ _).keep hb1 (by simp), rfl, (fun x hx => by cases hx)⟩, fun x hx => ?_⟩
    simp at hx hg
    subst hx
    exact hg
  have hz : (3 : Int) = 0 ↔ [(g, 2), (w.heap.size, 1)] = [] := by simp
  have HC := Lib.hid (fun (wx : World) (hx : Below w1.heap.size w1 wx) => class_any 3 _ _ wx (hch.below hx) hz (HE.out.below (hb01.trans (hx.mono hb01.size)) hlt))
  have HL := Lib.hid (fun (wx : World) (hx : Below w1.heap.size w1 wx) => faultLabel_any 3 _ _ wx (hch.below hx) (by simp) (by intro x hx; simp at hx; rcases hx with rfl | rfl <;> simp))
  have HK := Lib.hid (fun (code : Int) (wx : World) (hx : Below w1.heap.size w1 wx) => caught_any 3 code _ _ wx (hch.below hx) hz (HE.out.below (hb01.trans (hx.mono hb01.size)) hlt))
  have HN := Lib.hid (fun (wx : World) (hx : Below w1.heap.size w1 wx) => faultLong_any 3 _ _ wx (hch.below hx) (by simp))
  rw [show jn (List.map Prod.snd [(g, 2), (w.heap.size, 1)]) = 3 from by simp [jn, Lab.join]] at HL
  rw [show ([(g, 2), (w.heap.size, 1)] : List (Nat × Nat)).length = 2 from rfl] at HN
  clear hch hz hblk hb1 RA hb0
  have T : ∀ {a b : World}, Below w1.heap.size w1 a → Below a.heap.size a b → Below w1.heap.size w1 b := fun h h' => h.trans (h'.mono h.size)
  go_wp2_with fail
  refine (HC.out w1 (Below.refl _ _)).mono ?_
  rintro e w2 ⟨rfl, hb2⟩
  go_wp2_with fail
  refine (HL.out w2 hb2).mono ?_
  rintro e w3 ⟨rfl, hb23⟩
  have hb3 := T hb2 hb23
  clear hb2 hb23
  go_wp2_with fail
  refine (HK.out 0 w3 hb3).mono ?_
  rintro e w4 ⟨rfl, hb34⟩
  have hb4 := T hb3 hb34
  rw [show caughtB 3 0 = true from rfl]
  clear hb3 hb34
  go_wp2_with fail
  refine (HK.out 3 w4 hb4).mono ?_
  rintro e w5 ⟨rfl, hb45⟩
  have hb5 := T hb4 hb45
  rw [show caughtB 3 3 = true from rfl]
  clear hb4 hb45
  go_wp2_with fail
  refine (HK.out 4 w5 hb5).mono ?_
  rintro e w6 ⟨rfl, hb56⟩
  have hb6 := T hb5 hb56
  rw [show caughtB 3 4 = false from rfl]
  clear hb5 hb56
  go_wp2_with fail
  refine (HN.out w6 hb6).mono ?_
  rintro e w7 ⟨rfl, hb67⟩
  have hb7 := T hb6 hb67
  clear hb6 hb67
  go_wp2_with fail
  go_ret
  exact ⟨rfl, hb01.trans (hb7.mono hb01.size)⟩
end Go.Proofs.YtaaapjoopchgiaaDoor
