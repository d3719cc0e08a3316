/-
  Chapter 33's example: scrimlaw33.awake returns true.
-/
import Derived.Test.YtfiobbhicicchaaDoorAudText
namespace Go.Proofs.YtfiobbhicicchaaDoor
open Go.RowKit Ar
set_option maxHeartbeats 2000000
set_option maxRecDepth 100000
set_option linter.unusedVariables false

theorem runs_one : Lab.runs 1 0 = [(0, 0)] := by rw [Lab.runs_fuel 1 64 0 (by omega)]; decide +kernel
theorem runs_none : Lab.runs 0 0 = [] := by rw [Lab.runs_fuel 0 64 0 (by omega)]; decide +kernel
theorem aText_example : aText 1 0 0 0 0 = [123, 48, 125, 32, 48, 32, 48, 32, 48, 32, 123, 125] := by
  unfold aText Lab.text Lab.pieces; rw [runs_one, runs_none, Lib.decDigits_one (by omega)]; decide +kernel
def zeroRec : Rec := { kind := 0, port := 0, frm := 0, to := 0, cls := 0, v := .mk 0 [] [] }
theorem zeroArr_is (w : World) (B : Nat) : IsArr w B (.mk 0 [] []) [.int .u64 ((0 : Nat) : Int), .slice none 0 0, .slice none 0 0] := by
  rw [IsArr]
  exact ⟨none, 0, none, 0, [], rfl, by omega, ⟨by simp, by omega⟩, ⟨by simp, by omega⟩, (fun n h => by cases h), .inl rfl, .inl rfl, by rw [IsCels]⟩
def zeroRecV : List Value := [.int .i64 0, .int .i64 0, .int .u64 0, .int .u64 0, .int .i64 0, .int .u64 0, .slice none 0 0, .slice none 0 0]
theorem zeroRecs_is (w : World) (B : Nat) : IsRecs w B [zeroRec] zeroRecV :=
  ⟨zeroRecV, [], rfl, ⟨0, none, 0, 0, none, 0, 0, rfl, zeroArr_is w B, by show (0 : Nat) < _; omega, by show (0 : Nat) < _; omega, (fun n h => by
    have : n = 0 := by simpa [zeroRec] using h
    subst this; omega)⟩, rfl⟩

theorem zeroReach : (reachV zeroCfg.clear (if false then zeroCfg.auth else 0) 64).toArray = (reachV (fun _ => 0) 0 64).toArray := rfl
theorem index_reach (w : World) : (Instr.index 43 (.agg (reachV (fun _ => 0) 0 64).toArray) (.int .i64 7)).run Tryd.prog w = .ok (.agg #[.bool true, .bool true, .bool true, .bool true, .bool true, .bool true, .bool true, .bool true]) w := by kernel_rfl

theorem index_row0 (w : World) : (Instr.index 42 (.agg #[.bool true, .bool true, .bool true, .bool true, .bool true, .bool true, .bool true, .bool true]) (.int .i64 0)).run Tryd.prog w = .ok (.bool true) w := by kernel_rfl

theorem awake33_any (w : World) (hT : Tab64 w) (hB : 0 < w.heap.size) :
    Calls Tryd.prog 7 #[] w fun e w' => e = .returned (.bool true) ∧ Below w.heap.size w w' := by
  have HX := Lib.hid (atext_of zeroC none 0 0 1 0 0 0 0 w rfl (by omega) (by omega) (by omega) (by omega) (by omega) hT hB (fun wx _ => counts_nil zeroC rfl 1 wx) (fun wx _ => (given_nil 1 wx).mono fun _ _ h => ⟨h.1, by rw [← h.2]; exact Below.refl _ _⟩))
  have HE := Lib.hid aText_example
  have HF := Lib.hid (fun (wx : World) => first_any zeroCfg zeroC (some ⟨wx.heap.size, 0, none⟩) 1 [zeroRec] zeroRecV (wx.alloc (.cells zeroRecV.toArray 39)) (wx.heap.size + 1) (zero_is _ _) (Lies.new wx zeroRecV 39) (zeroRecs_is _ _) (by simp) (by simp))
  have HR := Lib.hid (fun (wx : World) => reach_any zeroCfg zeroC false wx 0 (zero_is _ _) (by omega))
  have HF0 : Hid (firstFrom zeroCfg.auth 0 [zeroRec] = 0) := Lib.hid (by simp [firstFrom, allowedB, zeroRec])
  clear hT
  go_enter Tryd.func7, Tryd.ntmps7
  go_wp2_with fail
  refine HX.out.mono ?_
  rintro e w2 ⟨rfl, hb2⟩
  rw [HE.out, show strV [123, 48, 125, 32, 48, 32, 48, 32, 48, 32, 123, 125] = .string ⟨#[123, 48, 125, 32, 48, 32, 48, 32, 48, 32, 123, 125]⟩ from rfl]
  go_wp2_with fail
  refine (HF.out _).mono ?_
  rintro e w3 ⟨rfl, hb3⟩
  rw [HF0.out]
  have hb4 := (hb2.alloc hb2.size _).trans (hb3.mono (by have := hb2.size; simp; omega))
  clear hb2 hb3
  go_wp2_with fail
  refine (HR.out _).mono ?_
  rintro e w4 ⟨rfl, hb5⟩
  have hb6 := hb4.trans (hb5.mono hb4.size)
  clear hb4 hb5
  rw [zeroReach]
  obtain ⟨R, hR⟩ : ∃ R, R = (reachV (fun _ => 0) 0 64).toArray := ⟨_, rfl⟩
  have HI := index_reach
  have HI0 := index_row0
  rw [← hR] at HI ⊢
  clear hR
  go_wp2_with fail
  go_ret
  exact ⟨rfl, hb6⟩
end Go.Proofs.YtfiobbhicicchaaDoor
