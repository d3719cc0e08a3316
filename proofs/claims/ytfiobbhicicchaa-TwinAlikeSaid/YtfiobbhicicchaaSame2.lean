/-
  Numbers compared: ratio.Same, and the reference's. (Printed by wip/bin/gen_same2.py.)
-/
import Derived.Test.YtfiobbhicicchaaSame1
namespace Go.Proofs.Ytfiobbhicicchaa
open Go.RowKit Ar
set_option maxHeartbeats 1000000
set_option linter.unusedVariables false

/-- Whether two numbers' fields are the same. -/
def sameNum (n n' : Bool) (t t' b b' : List Nat) : Bool := (n == n') && (t == t') && (b == b')

theorem ratioSame_any (n n' : Bool) (t t' b b' : List Nat) (A1 A2 A1' A2' : Option Addr) (c1 c2 c1' c2' : Nat) (w : World) (B : Nat) (h1 : Lies w B A1 (U32 t)) (h1' : Lies w B A1' (U32 t')) (h2 : Lies w B A2 (U32 b)) (h2' : Lies w B A2' (U32 b')) (hB : B ≤ w.heap.size)
    (k1 : t.length ≤ 9223372036854775807) (k1' : t'.length ≤ 9223372036854775807) (k2 : b.length ≤ 9223372036854775807) (k2' : b'.length ≤ 9223372036854775807) :
    Calls Try.prog 45 #[.agg #[.bool n, .slice A1 t.length c1, .slice A2 b.length c2], .agg #[.bool n', .slice A1' t'.length c1', .slice A2' b'.length c2']] w fun e w' => e = .returned (.bool (sameNum n n' t t' b b')) ∧ Below w.heap.size w w' := by
  have E1 := Lib.hid (fun (wx : World) (hx : Below w.heap.size w wx) => eqU32_any t t' A1 A1' c1 c1' wx B (h1.below (hx.mono hB)) (h1'.below (hx.mono hB)) k1 k1')
  have E2 := Lib.hid (fun (wx : World) (hx : Below w.heap.size w wx) => eqU32_any b b' A2 A2' c2 c2' wx B (h2.below (hx.mono hB)) (h2'.below (hx.mono hB)) k2 k2')
  have HR : Hid (sameNum n n' t t' b b' = ((n == n') && (t == t') && (b == b'))) := Lib.hid rfl
  clear h1 h1' h2 h2'
  generalize sameNum n n' t t' b b' = R at *
  generalize (t == t') = x at *
  generalize (b == b') = y at *
  cases hnn : (n == n')
  · rw [hnn] at HR
    go_enter Try.func45, Try.ntmps45
    go_wp2_with fail
    go_ret
    exact ⟨ret_bool (by rw [HR.out]; simp), ((Below.refl _ _).alloc (Nat.le_refl _) _).alloc (by simp) _⟩
  · rw [hnn] at HR
    go_enter Try.func45, Try.ntmps45
    go_wp2_with fail
    have hb0 : Below w.heap.size w ((w.alloc (.cells #[.bool n, .slice A1 t.length c1, .slice A2 b.length c2] 58)).alloc (.cells #[.bool n', .slice A1' t'.length c1', .slice A2' b'.length c2'] 58)) := ((Below.refl _ _).alloc (Nat.le_refl _) _).alloc (by simp) _
    refine (E1.out _ hb0).mono ?_
    rintro e w2 ⟨rfl, hb2⟩
    have hb3 := hb0.trans (hb2.mono hb0.size)
    obtain ⟨hc, hfz⟩ : (∀ o, w2.cell? ⟨w.heap.size, o, none⟩ = _) ∧ (∀ o, w2.cell? ⟨w.heap.size + 1, o, none⟩ = _) := ⟨fun o => hb2.cell (p := ⟨w.heap.size, o, none⟩) (by show w.heap.size < _; simp; omega), fun o => hb2.cell (p := ⟨w.heap.size + 1, o, none⟩) (by show w.heap.size + 1 < _; simp)⟩
    cases x
    · go_wp2_with fail
      go_ret
      exact ⟨ret_bool (by rw [HR.out]; simp), hb3⟩
    · go_wp2_with fail
      refine (E2.out _ hb3).mono ?_
      rintro e w3 ⟨rfl, hb4⟩
      clear hc hfz
      go_wp2_with fail
      go_ret
      exact ⟨ret_bool (by rw [HR.out]; simp), hb3.trans (hb4.mono hb3.size)⟩

theorem refRatioSame_any (n n' : Bool) (t t' b b' : List Nat) (A1 A2 A1' A2' : Option Addr) (c1 c2 c1' c2' : Nat) (w : World) (B : Nat) (h1 : Lies w B A1 (U32 t)) (h1' : Lies w B A1' (U32 t')) (h2 : Lies w B A2 (U32 b)) (h2' : Lies w B A2' (U32 b')) (hB : B ≤ w.heap.size)
    (k1 : t.length ≤ 9223372036854775807) (k1' : t'.length ≤ 9223372036854775807) (k2 : b.length ≤ 9223372036854775807) (k2' : b'.length ≤ 9223372036854775807) :
    Calls Try.prog 42 #[.agg #[.bool n, .slice A1 t.length c1, .slice A2 b.length c2], .agg #[.bool n', .slice A1' t'.length c1', .slice A2' b'.length c2']] w fun e w' => e = .returned (.bool (sameNum n n' t t' b b')) ∧ Below w.heap.size w w' := by
  have E1 := Lib.hid (fun (wx : World) (hx : Below w.heap.size w wx) => refSame2_any t t' A1 A1' c1 c1' wx B (h1.below (hx.mono hB)) (h1'.below (hx.mono hB)) k1 k1')
  have E2 := Lib.hid (fun (wx : World) (hx : Below w.heap.size w wx) => refSame2_any b b' A2 A2' c2 c2' wx B (h2.below (hx.mono hB)) (h2'.below (hx.mono hB)) k2 k2')
  have HR : Hid (sameNum n n' t t' b b' = ((n == n') && (t == t') && (b == b'))) := Lib.hid rfl
  clear h1 h1' h2 h2'
  generalize sameNum n n' t t' b b' = R at *
  generalize (t == t') = x at *
  generalize (b == b') = y at *
  cases hnn : (n == n')
  · rw [hnn] at HR
    go_enter Try.func42, Try.ntmps42
    go_wp2_with fail
    go_ret
    exact ⟨ret_bool (by rw [HR.out]; simp), ((Below.refl _ _).alloc (Nat.le_refl _) _).alloc (by simp) _⟩
  · rw [hnn] at HR
    go_enter Try.func42, Try.ntmps42
    go_wp2_with fail
    have hb0 : Below w.heap.size w ((w.alloc (.cells #[.bool n, .slice A1 t.length c1, .slice A2 b.length c2] 58)).alloc (.cells #[.bool n', .slice A1' t'.length c1', .slice A2' b'.length c2'] 58)) := ((Below.refl _ _).alloc (Nat.le_refl _) _).alloc (by simp) _
    refine (E1.out _ hb0).mono ?_
    rintro e w2 ⟨rfl, hb2⟩
    have hb3 := hb0.trans (hb2.mono hb0.size)
    obtain ⟨hc, hfz⟩ : (∀ o, w2.cell? ⟨w.heap.size, o, none⟩ = _) ∧ (∀ o, w2.cell? ⟨w.heap.size + 1, o, none⟩ = _) := ⟨fun o => hb2.cell (p := ⟨w.heap.size, o, none⟩) (by show w.heap.size < _; simp; omega), fun o => hb2.cell (p := ⟨w.heap.size + 1, o, none⟩) (by show w.heap.size + 1 < _; simp)⟩
    cases x
    · go_wp2_with fail
      go_ret
      exact ⟨ret_bool (by rw [HR.out]; simp), hb3⟩
    · go_wp2_with fail
      refine (E2.out _ hb3).mono ?_
      rintro e w3 ⟨rfl, hb4⟩
      clear hc hfz
      go_wp2_with fail
      go_ret
      exact ⟨ret_bool (by rw [HR.out]; simp), hb3.trans (hb4.mono hb3.size)⟩
end Go.Proofs.Ytfiobbhicicchaa
