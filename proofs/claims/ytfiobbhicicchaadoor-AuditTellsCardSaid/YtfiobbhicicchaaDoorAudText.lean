/-
  audit.Text: an observer's view in a line, given what Counts and Given tell.
-/
import Derived.Test.YtfiobbhicicchaaDoorAudAwake
import Derived.Test.YtfiobbhicicchaaDoorParseMath
namespace Go.Proofs.YtfiobbhicicchaaDoor
open Go.RowKit Ar
set_option maxHeartbeats 2000000
set_option maxRecDepth 100000
set_option linter.unusedVariables false

def aText (o a b c g : Nat) : List UInt8 := Lab.text o ++ 32 :: (Lib.decDigits a ++ 32 :: (Lib.decDigits b ++ 32 :: (Lib.decDigits c ++ 32 :: Lab.text g)))
theorem labText_len {l : Nat} (hl : l < 18446744073709551616) : (Lab.text l).length ≤ 500 := by
  have h1 := Lab.join_len_le (Lab.pieces l 0) (fun x hx => (Lab.pieces_len hl 0 x hx).2)
  have h2 : (Lab.pieces l 0).length ≤ 64 := (Lab.pieces_count hl 64 0 (by omega))
  unfold Lab.text; simp; omega
theorem dec100 {n : Nat} (h : n < 100) : (Lib.decDigits n).length ≤ 2 := by
  by_cases h10 : n < 10
  · rw [Lib.decDigits_one h10]; simp
  · rw [Lib.decDigits_two h10 h]; simp
theorem strs_add (a b : List UInt8) : (⟨a.toArray⟩ : ByteArray) ++ ((⟨#[32]⟩ : ByteArray) ++ (⟨b.toArray⟩ : ByteArray)) = ⟨(a ++ 32 :: b).toArray⟩ := by
  apply ByteArray.ext
  simp
theorem strs_add2 (a b : List UInt8) : ((⟨a.toArray⟩ : ByteArray) ++ (⟨#[32]⟩ : ByteArray)) ++ (⟨b.toArray⟩ : ByteArray) = ⟨(a ++ 32 :: b).toArray⟩ := by
  apply ByteArray.ext
  simp

theorem atext_of (C : Array Value) (A : Option Addr) (n cp o a b c g : Nat) (w : World) (hC : C.size = 36) (ho : o < 18446744073709551616) (hg : g < 18446744073709551616) (ha : a < 100) (hb : b < 100) (hc : c < 100) (hT : Tab64 w) (hB : 0 < w.heap.size)
    (h1 : ∀ wx, Below w.heap.size w wx → Calls Tryd.prog 15 #[.agg C, .slice A n cp, .int .u64 (o : Int)] wx fun e w' => e = .returned (.tuple #[.int .i64 (a : Int), .int .i64 (b : Int), .int .i64 (c : Int)]) ∧ Below wx.heap.size wx w')
    (h2 : ∀ wx, Below w.heap.size w wx → Calls Tryd.prog 17 #[.slice A n cp, .int .u64 (o : Int)] wx fun e w' => e = .returned (.int .u64 (g : Int)) ∧ Below wx.heap.size wx w') :
    Calls Tryd.prog 19 #[.agg C, .slice A n cp, .int .u64 (o : Int)] w fun e w' => e = .returned (strV (aText o a b c g)) ∧ Below w.heap.size w w' := by
  have HI : Hid ((Tryd.prog.info? 29).map (·.size) = some C.size) := Lib.hid (by rw [hC]; exact cfg_info)
  have H1 := Lib.hid h1
  have H2 := Lib.hid h2
  have HT := Lib.hid hT
  have X1 := Lib.hid (fun (wx : World) (hx : Below w.heap.size w wx) => text_any o wx ho (HT.out.below hB hx) (Nat.lt_of_lt_of_le hB hx.size))
  have X2 := Lib.hid (fun (wx : World) (hx : Below w.heap.size w wx) => text_any g wx hg (HT.out.below hB hx) (Nat.lt_of_lt_of_le hB hx.size))
  have l1 := labText_len ho
  have l2 := labText_len hg
  have d1 := dec100 ha
  have d2 := dec100 hb
  have d3 := dec100 hc
  have HR : Hid (aText o a b c g = Lab.text o ++ 32 :: (Lib.decDigits a ++ 32 :: (Lib.decDigits b ++ 32 :: (Lib.decDigits c ++ 32 :: Lab.text g)))) := Lib.hid rfl
  have I1 := Lib.hid (fun w => (Tryd.strconv_Itoa_small a ha w).mono fun _ _ h => (⟨h.1, h.2.symm⟩ : _ ∧ _))
  have I2 := Lib.hid (fun w => (Tryd.strconv_Itoa_small b hb w).mono fun _ _ h => (⟨h.1, h.2.symm⟩ : _ ∧ _))
  have I3 := Lib.hid (fun w => (Tryd.strconv_Itoa_small c hc w).mono fun _ _ h => (⟨h.1, h.2.symm⟩ : _ ∧ _))
  clear h1 h2 hT hC
  generalize aText o a b c g = R at *
  generalize Lab.text o = x1 at *
  generalize Lab.text g = x2 at *
  generalize Lib.decDigits a = y1 at *
  generalize Lib.decDigits b = y2 at *
  generalize Lib.decDigits c = y3 at *
  go_enter Tryd.func19, Tryd.ntmps19
  go_wp2_with (with_reducible refine wpList_load_row rfl 29 (.tmp 3) rfl w.heap.size rfl 29 C (0, 0) _ (heap_alloc_new _ _) Tryd.underlying29 rfl HI.out ?_)
  have hb0 : ∀ o, Below w.heap.size w (w.alloc o) := fun o => (Below.refl _ _).alloc (Nat.le_refl _) _
  have HB0 := Lib.hid hb0
  clear hb0
  refine (H1.out _ (HB0.out _)).mono ?_
  rintro e w2 ⟨rfl, hb2⟩
  have hb3 := (HB0.out _).trans (hb2.mono (by simp))
  clear hb2
  go_wp2_with fail
  refine (X1.out _ hb3).mono ?_
  rintro e w3 ⟨rfl, hb4⟩
  have hb5 := hb3.trans (hb4.mono hb3.size)
  clear hb3 hb4
  unfold strV
  go_wp2_with fail
  have hb6 : ∀ o, Below w.heap.size w (w3.alloc o) := fun o => hb5.alloc hb5.size _
  have HB6 := Lib.hid hb6
  clear hb6
  have n1 : (9223372036854775807 < 1 + y1.length) = False := by simp; omega
  have n2 : (9223372036854775807 < x1.length + (1 + y1.length)) = False := by simp; omega
  have n3 : (9223372036854775807 < 1 + y2.length) = False := by simp; omega
  have n5 : (9223372036854775807 < 1 + y3.length) = False := by simp; omega
  refine wp_loop_rounds 4 ?_
  rw [rounds_succ]
  go_wp2_with fail
  refine (I1.out _).mono ?_
  rintro e w' ⟨rfl, rfl⟩
  go_wp2_with fail
  rw [strs_add]
  obtain ⟨z1, hz1⟩ : ∃ z1, z1 = x1 ++ 32 :: y1 := ⟨_, rfl⟩
  have m1 : z1.length ≤ 600 := by rw [hz1]; simp; omega
  rw [← hz1]
  have HZ1 := Lib.hid hz1
  clear hz1 n1 n2
  have n4 : (9223372036854775807 < z1.length + (1 + y2.length)) = False := by simp; omega
  rw [rounds_succ]
  go_wp2_with fail
  refine (I2.out _).mono ?_
  rintro e w' ⟨rfl, rfl⟩
  go_wp2_with fail
  rw [strs_add]
  obtain ⟨z2, hz2⟩ : ∃ z2, z2 = z1 ++ 32 :: y2 := ⟨_, rfl⟩
  have m2 : z2.length ≤ 700 := by rw [hz2]; simp; omega
  rw [← hz2]
  have HZ2 := Lib.hid hz2
  clear hz2 n3 n4
  have n4 : (9223372036854775807 < z2.length + (1 + y3.length)) = False := by simp; omega
  rw [rounds_succ]
  go_wp2_with fail
  refine (I3.out _).mono ?_
  rintro e w' ⟨rfl, rfl⟩
  go_wp2_with fail
  rw [strs_add]
  obtain ⟨z3, hz3⟩ : ∃ z3, z3 = z2 ++ 32 :: y3 := ⟨_, rfl⟩
  have m3 : z3.length ≤ 800 := by rw [hz3]; simp; omega
  rw [← hz3]
  have HZ3 := Lib.hid hz3
  clear hz3 n5 n4
  have n6 : (9223372036854775807 < z3.length + 1) = False := by simp; omega
  have n7 : (9223372036854775807 < z3.length + 1 + x2.length) = False := by simp; omega
  rw [rounds_succ]
  go_wp2_with fail
  refine (H2.out _ (HB6.out _)).mono ?_
  rintro e w6 ⟨rfl, hb8⟩
  have hb9 := (HB6.out _).trans (hb8.mono (by have := hb5.size; simp; omega))
  go_wp2_with fail
  refine (X2.out _ hb9).mono ?_
  rintro e w5 ⟨rfl, hb7⟩
  unfold strV
  go_wp2_with fail
  go_ret
  refine ⟨?_, hb9.trans (hb7.mono hb9.size)⟩
  have e : z3 ++ 32 :: x2 = R := by rw [HR.out, HZ3.out, HZ2.out, HZ1.out]; simp
  rw [strs_add2, e]
  rfl
end Go.Proofs.YtfiobbhicicchaaDoor
