/-
  The walks of the laws FaultIs and FaultTells.
-/
import Derived.Test.YtaaapjoopchgiaaDoorFltLaws
import Derived.Test.YtaaapjoopchgiaaDoorInClass
namespace Go.Proofs.YtaaapjoopchgiaaDoor
open Go.RowKit
set_option maxHeartbeats 1000000
set_option linter.unusedVariables false

theorem faultIs_walk (c other : Int) (l : Nat) (A0 : Option Addr) (cap : Nat) (zs : List Nat) (w : World) (hl : l < 18446744073709551616) (hz : Lies w w.heap.size A0 (L64 zs)) (hzb : ∀ z ∈ zs, z < 18446744073709551616) (hn : zs.length ≤ 9223372036854775807) (hE : ErrType w) :
    Calls Tryd.prog 5 #[.int .i64 c, .int .i64 other, .int .u64 (l : Int), .slice A0 zs.length cap] w fun e w' => e = .returned (.bool true) ∧ Below w.heap.size w w' := by
  have MA := Lib.hid (made_any c l A0 cap zs w hl hz hzb hn hE)
  have HE := Lib.hid hE
  have hlt := hE.lt
  clear hz hzb hE
  go_enter Tryd.func5, Tryd.ntmps5
  go_wp2_with fail
  refine MA.out.mono ?_
  rintro ev w1 ⟨e, fs, A, cp, rfl, HB, hfl, hb1⟩
  clear MA
  go_wp2_with fail
  obtain ⟨w2, hw2⟩ : ∃ w2, w2 = w1.alloc (.cells #[.int .i64 c, .slice A fs.length cp] 27) := ⟨_, rfl⟩
  have hba : Below w1.heap.size w1 w2 := by rw [hw2]; exact (Below.refl _ _).alloc (Nat.le_refl _) _
  have hb2 : Below w.heap.size w w2 := hb1.trans (hba.mono hb1.size)
  have hbx : Blk w2 w1.heap.size 27 [.int .i64 c, .slice A fs.length cp] := by rw [hw2]; exact Blk.new w1 _ _
  have hch2 := HB.out.chain.below hba
  have IS := Lib.hid (fun (x : Later w2) => faultIs_any c other e fs x.w (hch2.below x.b) (by omega))
  have AW := Lib.hid (fun (x : Later w2) => awake18 x.w (HE.out.below (hb2.trans (x.b.mono hb2.size)) hlt))
  have kc : ∀ x : Later w2, x.w.cell? ⟨w1.heap.size, 0, none⟩ = some (.int .i64 c) := fun x => (hbx.keep x.b hbx.lt).cell (i := 0) rfl
  have HIB : Hid (isB fs c other = ((c != 0) && (c == other))) := Lib.hid (by
    unfold isB
    congr 1
    rw [Bool.eq_iff_iff]
    have := HB.out.zero
    simp
    rw [this])
  rw [HIB.out] at IS
  have HB2 := Lib.hid hb2
  have HW2 := Lib.hid hw2
  rw [← HW2.out]
  clear hw2 hbx hch2 hba hb1 hb2 HB
  cases hz0 : c != 0
  · rw [hz0, Bool.false_and] at IS
    refine wp_region_later w2 (by kernel_rfl) (by kernel_rfl) (Below.drew_self w2) ?_
    repeat (go_big_quiet_step (first | (go_at_call 21; exact Later.call (IS.out _)) | (go_at_call 18; exact Later.call (AW.out _))))
    refine wpQuiet_nil ?_
    rintro _ ⟨⟨w4, hb4⟩, rfl⟩
    go_wp2_with fail
    go_ret
    exact ⟨rfl, HB2.out.trans (hb4.mono HB2.out.size)⟩
  · rw [hz0, Bool.true_and] at IS
    cases hq : c == other
    all_goals
      rw [hq] at IS
      refine wp_region_later w2 (by kernel_rfl) (by kernel_rfl) (Below.drew_self w2) ?_
      repeat (go_big_quiet_step (first | (go_at_call 21; exact Later.call (IS.out _)) | (go_at_call 18; exact Later.call (AW.out _))))
      refine wpQuiet_nil ?_
      rintro _ ⟨⟨w4, hb4⟩, rfl⟩
      go_wp2_with fail
      go_ret
      exact ⟨rfl, HB2.out.trans (hb4.mono HB2.out.size)⟩

theorem faultTells_walk (c : Int) (l : Nat) (A0 : Option Addr) (cap : Nat) (zs : List Nat) (code : Int) (w : World) (hl : l < 18446744073709551616) (hz : Lies w w.heap.size A0 (L64 zs)) (hzb : ∀ z ∈ zs, z < 18446744073709551616) (hn : zs.length ≤ 9223372036854775807) (hE : ErrType w) :
    Calls Tryd.prog 3 #[.int .i64 c, .int .u64 (l : Int), .slice A0 zs.length cap, .int .i64 code] w fun e w' => e = .returned (.bool true) ∧ Below w.heap.size w w' := by
  have MA := Lib.hid (made_any c l A0 cap zs w hl hz hzb hn hE)
  have HE := Lib.hid hE
  have hlt := hE.lt
  clear hz hzb hE
  go_enter Tryd.func3, Tryd.ntmps3
  go_wp2_with fail
  refine MA.out.mono ?_
  rintro ev w1 ⟨e, fs, A, cp, rfl, HB, hfl, hb1⟩
  clear MA
  go_wp2_with fail
  obtain ⟨w2, hw2⟩ : ∃ w2, w2 = w1.alloc (.cells #[.int .i64 c, .slice A fs.length cp] 27) := ⟨_, rfl⟩
  have hba : Below w1.heap.size w1 w2 := by rw [hw2]; exact (Below.refl _ _).alloc (Nat.le_refl _) _
  have hb2 : Below w.heap.size w w2 := hb1.trans (hba.mono hb1.size)
  have hbx : Blk w2 w1.heap.size 27 [.int .i64 c, .slice A fs.length cp] := by rw [hw2]; exact Blk.new w1 _ _
  have hch2 := HB.out.chain.below hba
  have hli2 := (HB.out.lies.below hba).more hba.size
  have hls : ∀ x ∈ (fs.map Prod.snd).reverse, x < 18446744073709551616 := fun x hx => by
    rw [List.mem_reverse] at hx
    obtain ⟨y, hy, rfl⟩ := List.mem_map.1 hx
    exact HB.out.lt y hy
  have hEx : ∀ x : Later w2, ErrType x.w := fun x => HE.out.below (hb2.trans (x.b.mono hb2.size)) hlt
  have CL := Lib.hid (fun (x : Later w2) => class_any c e fs x.w (hch2.below x.b) HB.out.zero (hEx x))
  have LB := Lib.hid (fun (x : Later w2) => faultLabel_any c e fs x.w (hch2.below x.b) (by omega) HB.out.lt)
  have LG := Lib.hid (fun (x : Later w2) => faultLong_any c e fs x.w (hch2.below x.b) (by omega))
  have CT := Lib.hid (fun (x : Later w2) => caught_any c code e fs x.w (hch2.below x.b) HB.out.zero (hEx x))
  have RL := Lib.hid (fun (x : Later w2) => refLabel_any c A cp x.w.heap.size (fs.map Prod.snd).reverse x.w ((hli2.below x.b).more x.b.size) (Nat.le_refl _) (by simp; omega) hls)
  rw [show (fs.map Prod.snd).reverse.length = fs.length by simp, jn_reverse] at RL
  have RC := Lib.hid (fun (x : Later w2) => refCaught_any c code A fs.length cp x.w)
  have AW := Lib.hid (fun (x : Later w2) => awake18 x.w (hEx x))
  have kc0 : ∀ x : Later w2, x.w.cell? ⟨w1.heap.size, 0, none⟩ = some (.int .i64 c) := fun x => (hbx.keep x.b hbx.lt).cell (i := 0) rfl
  have kc1 : ∀ x : Later w2, x.w.cell? ⟨w1.heap.size, 1, none⟩ = some (.slice A fs.length cp) := fun x => (hbx.keep x.b hbx.lt).cell (i := 1) rfl
  have hEC : (e = .nilIface ∧ (c == 0) = true) ∨ (∃ b : Nat, e = .iface 63 (.pointer (some ⟨b, 0, none⟩)) ∧ (c == 0) = false) := by
    have hz := HB.out.zero
    cases fs with
    | nil => exact .inl ⟨hch2, by rw [hz.2 rfl]; rfl⟩
    | cons x r =>
      obtain ⟨b, l⟩ := x
      exact .inr ⟨b, hch2.1, by rw [beq_eq_false_iff_ne]; intro h; have := hz.1 h; cases this⟩
  have hq0 := eql_nil_nil
  have hq1 := eql_fault_nil
  have HB2 := Lib.hid hb2
  have HW2 := Lib.hid hw2
  rw [← HW2.out]
  clear hw2 hbx hch2 hba hb1 hb2 HB hli2 hls hEx
  generalize jn (fs.map Prod.snd) = J at *
  generalize caughtB c code = cb at *
  rcases hEC with ⟨rfl, hz0⟩ | ⟨b, rfl, hz0⟩
  all_goals
    refine wp_region_later w2 (by kernel_rfl) (by kernel_rfl) (Below.drew_self w2) ?_
    repeat (go_big_quiet_step (fail))
    refine wpQuiet_nil ?_
    rintro _ ⟨⟨w3, hb3⟩, rfl⟩
    go_wp2_with fail
    refine wp_region_later w2 (by kernel_rfl) (by kernel_rfl) ⟨hb3.os, hb3.tape, hb3.output, hb3.size, hb3.block⟩ ?_
    repeat (go_big_quiet_step (first | (go_at_call 12; exact Later.call (CL.out _)) | (go_at_call 13; exact Later.call (LB.out _)) | (go_at_call 14; exact Later.call (RL.out _)) | (go_at_call 15; exact Later.call (LG.out _)) | (go_at_call 16; exact Later.call (CT.out _)) | (go_at_call 17; exact Later.call (RC.out _)) | (go_at_call 18; exact Later.call (AW.out _))))
    refine wpQuiet_nil ?_
    rintro _ ⟨⟨w4, hb4⟩, rfl⟩
    go_wp2_with fail
    go_ret
    exact ⟨rfl, HB2.out.trans (hb4.mono HB2.out.size)⟩
end Go.Proofs.YtaaapjoopchgiaaDoor
