/-
  What math/bits.Add32 and Sub32 compute.
-/
import Derived.Test.YtfiobbhicicchaaWords
import Derived.Laws.BitsAllLaws
namespace Go.Proofs.Ytfiobbhicicchaa
open Go.RowKit
set_option maxHeartbeats 400000
set_option linter.unusedVariables false

theorem top_bit {n : Nat} (h : n < 4294967296) : n / 2147483648 = if n.testBit 31 then 1 else 0 := by
  rw [Nat.testBit_eq_decide_div_mod_eq]
  rw [show (2 : Nat) ^ 31 = 2147483648 from rfl]
  by_cases e : n / 2147483648 % 2 = 1
  · rw [if_pos (by simpa using e)]; omega
  · rw [if_neg (by simpa using e)]; omega
theorem bit_of {n : Nat} (h : n < 4294967296) : n.testBit 31 = decide (2147483648 ≤ n) := by
  rw [Nat.testBit_eq_decide_div_mod_eq]
  rw [show (2 : Nat) ^ 31 = 2147483648 from rfl]
  by_cases e : 2147483648 ≤ n
  · rw [decide_eq_true e, decide_eq_true (by omega)]
  · rw [decide_eq_false e, decide_eq_false (by omega)]
theorem borrow_law (x y c : Nat) (hx : x < 4294967296) (hy : y < 4294967296) (hc : c ≤ 1) :
    (bits BinOp.or IntKind.u32 (bits BinOp.and IntKind.u32 (bits BinOp.xor IntKind.u32 IntKind.u32.max ↑x) ↑y) (bits BinOp.and IntKind.u32 (bits BinOp.xor IntKind.u32 IntKind.u32.max (bits BinOp.xor IntKind.u32 ↑x ↑y)) ((↑x - ↑y - ↑c) % 4294967296))) / 2147483648 = ((if x < y + c then 1 else 0 : Nat) : Int) := by
  obtain ⟨d, hd⟩ : ∃ d : Nat, (((x : Int) - y - c) % 4294967296) = (d : Int) := ⟨(((x : Int) - y - c) % 4294967296).toNat, by omega⟩
  have hdl : d < 4294967296 := by omega
  rw [hd]
  have m : (IntKind.u32.max : Int) = ((4294967295 : Nat) : Int) := by decide
  have l1 : 4294967295 ^^^ x < 4294967296 := Nat.xor_lt_two_pow (n := 32) (by omega) hx
  have l2 : x ^^^ y < 4294967296 := Nat.xor_lt_two_pow (n := 32) hx hy
  have l3 : 4294967295 ^^^ (x ^^^ y) < 4294967296 := Nat.xor_lt_two_pow (n := 32) (by omega) l2
  have l4 : (4294967295 ^^^ x) &&& y < 4294967296 := Nat.and_lt_two_pow (n := 32) _ hy
  have l5 : (4294967295 ^^^ (x ^^^ y)) &&& d < 4294967296 := Nat.and_lt_two_pow (n := 32) _ hdl
  have l6 : ((4294967295 ^^^ x) &&& y) ||| ((4294967295 ^^^ (x ^^^ y)) &&& d) < 4294967296 := Nat.or_lt_two_pow (n := 32) l4 l5
  rw [m, u32_xor_nat _ _ (by omega) hx, u32_xor_nat _ _ hx hy, u32_xor_nat _ _ (by omega) l2, u32_and_nat _ _ l1 hy, u32_and_nat _ _ l3 hdl, u32_or_nat _ _ l4 l5]
  have hm : (4294967295 : Nat).testBit 31 = true := by decide
  have key := top_bit l6
  rw [Nat.testBit_or, Nat.testBit_and, Nat.testBit_and, Nat.testBit_xor, Nat.testBit_xor, Nat.testBit_xor, hm, bit_of hx, bit_of hy, bit_of hdl] at key
  have e : ((((4294967295 ^^^ x) &&& y) ||| ((4294967295 ^^^ (x ^^^ y)) &&& d)) / 2147483648 : Nat) = if x < y + c then 1 else 0 := by
    rw [key]
    by_cases h1 : 2147483648 ≤ x <;> by_cases h2 : 2147483648 ≤ y <;> by_cases h3 : 2147483648 ≤ d <;> by_cases h4 : x < y + c <;> simp [h1, h2, h3, h4] <;> omega
  rw [← e]
  generalize ((4294967295 ^^^ x) &&& y) ||| ((4294967295 ^^^ (x ^^^ y)) &&& d) = z
  omega

end Go.Proofs.Ytfiobbhicicchaa
