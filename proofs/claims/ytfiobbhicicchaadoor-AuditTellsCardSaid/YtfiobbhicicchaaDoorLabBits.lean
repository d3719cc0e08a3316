/-
  What math/bits.OnesCount64 and label.Size compute: the number of bits.
-/
import Derived.Test.YtfiobbhicicchaaDoorWords
import Derived.Test.YtfiobbhicicchaaDoorOnesMath
import Derived.Laws.BitsAllLaws
namespace Go.Proofs.YtfiobbhicicchaaDoor
open Go.RowKit
set_option maxHeartbeats 400000

def onesS1 (x : Int) : Int := IntKind.u64.wrap (bits .and .u64 (x / 2) 6148914691236517205 + bits .and .u64 x 6148914691236517205)
def onesS2 (x : Int) : Int := IntKind.u64.wrap (bits .and .u64 (x / 4) 3689348814741910323 + bits .and .u64 x 3689348814741910323)
def onesS3 (x : Int) : Int := bits .and .u64 (IntKind.u64.wrap (x / 16 + x)) 1085102592571150095
def onesS4 (x : Int) : Int := IntKind.u64.wrap (x + x / 256)
def onesS5 (x : Int) : Int := IntKind.u64.wrap (x + x / 65536)
def onesS6 (x : Int) : Int := IntKind.u64.wrap (x + x / 4294967296)
theorem and_le_right (a m : Nat) : a &&& m ≤ m := Nat.and_le_right
theorem onesS1_nat (x : Nat) (hx : x < 18446744073709551616) : onesS1 (x : Int) = (((x / 2 &&& 6148914691236517205) + (x &&& 6148914691236517205) : Nat) : Int) := by
  unfold onesS1
  have h1 := u64_and_nat (x / 2) 6148914691236517205 (by omega) (by omega)
  have h2 := u64_and_nat x 6148914691236517205 (by omega) (by omega)
  have l1 := and_le_right (x / 2) 6148914691236517205
  have l2 := and_le_right x 6148914691236517205
  rw [show ((x : Int) / 2) = ((x / 2 : Nat) : Int) from by omega, show (6148914691236517205 : Int) = ((6148914691236517205 : Nat) : Int) from rfl, h1, h2]
  generalize x / 2 &&& 6148914691236517205 = a at l1 ⊢
  generalize x &&& 6148914691236517205 = b at l2 ⊢
  rw [IntWalk.u64_in _ (by omega)]
  omega
theorem onesS2_nat (x : Nat) (hx : x < 18446744073709551616) : onesS2 (x : Int) = (((x / 4 &&& 3689348814741910323) + (x &&& 3689348814741910323) : Nat) : Int) := by
  unfold onesS2
  have h1 := u64_and_nat (x / 4) 3689348814741910323 (by omega) (by omega)
  have h2 := u64_and_nat x 3689348814741910323 (by omega) (by omega)
  have l1 := and_le_right (x / 4) 3689348814741910323
  have l2 := and_le_right x 3689348814741910323
  rw [show ((x : Int) / 4) = ((x / 4 : Nat) : Int) from by omega, show (3689348814741910323 : Int) = ((3689348814741910323 : Nat) : Int) from rfl, h1, h2]
  generalize x / 4 &&& 3689348814741910323 = a at l1 ⊢
  generalize x &&& 3689348814741910323 = b at l2 ⊢
  rw [IntWalk.u64_in _ (by omega)]
  omega
theorem onesS3_nat (x : Nat) (hx : x < 9223372036854775808) : onesS3 (x : Int) = ((x / 16 + x &&& 1085102592571150095 : Nat) : Int) := by
  unfold onesS3
  rw [IntWalk.u64_in _ (by omega), show ((x : Int) / 16 + x) = ((x / 16 + x : Nat) : Int) from by omega]
  exact u64_and_nat _ 1085102592571150095 (by omega) (by omega)
theorem ones_law (x : Nat) (hx : x < 18446744073709551616) : bits .and .i64 (wrap64 (onesS6 (onesS5 (onesS4 (onesS3 (onesS2 (onesS1 (x : Int)))))))) 127 = (Ones.cnt 64 x : Int) := by
  have hl1 : (x / 2 &&& 6148914691236517205) + (x &&& 6148914691236517205) < 18446744073709551616 := by
    have l1 := and_le_right (x / 2) 6148914691236517205
    have l2 := and_le_right x 6148914691236517205
    omega
  rw [onesS1_nat x hx]
  have e : (let x1 := (x / 2 &&& 6148914691236517205) + (x &&& 6148914691236517205)
    let x2 := (x1 / 4 &&& 3689348814741910323) + (x1 &&& 3689348814741910323)
    (x2 / 16 + x2) &&& 1085102592571150095) = Ones.swar x := rfl
  revert e
  generalize (x / 2 &&& 6148914691236517205) + (x &&& 6148914691236517205) = y at hl1 ⊢
  intro e
  have hl2 : (y / 4 &&& 3689348814741910323) + (y &&& 3689348814741910323) < 9223372036854775808 := by
    have l1 := and_le_right (y / 4) 3689348814741910323
    have l2 := and_le_right y 3689348814741910323
    omega
  rw [onesS2_nat y hl1]
  revert e
  simp only
  generalize (y / 4 &&& 3689348814741910323) + (y &&& 3689348814741910323) = z at hl2 ⊢
  intro e
  rw [onesS3_nat z hl2]
  obtain ⟨h1, h2, h3, h4, h5⟩ := Ones.fold x _ e
  clear e
  generalize (z / 16 + z) &&& 1085102592571150095 = t at h1 h2 h3 h4 h5 ⊢
  unfold onesS4 onesS5 onesS6
  rw [IntWalk.u64_in ((t : Int) + t / 256) (by omega), show ((t : Int) + t / 256) = ((t + t / 256 : Nat) : Int) from by omega]
  generalize t + t / 256 = a at h2 h3 h4 h5 ⊢
  rw [IntWalk.u64_in ((a : Int) + a / 65536) (by omega), show ((a : Int) + a / 65536) = ((a + a / 65536 : Nat) : Int) from by omega]
  generalize a + a / 65536 = b at h3 h4 h5 ⊢
  rw [IntWalk.u64_in ((b : Int) + b / 4294967296) (by omega), show ((b : Int) + b / 4294967296) = ((b + b / 4294967296 : Nat) : Int) from by omega]
  rw [← h5]
  generalize b + b / 4294967296 = c at h4 ⊢
  rw [IntWalk.wrap64_in _ ⟨by omega, by omega⟩]
  have hm : c % 128 < 128 := Nat.mod_lt _ (by decide)
  show IntKind.i64.wrap ((BitVec.ofInt 64 (c : Int) &&& BitVec.ofInt 64 (127 : Int)).toNat : Int) = _
  rw [BitVec.toNat_and, BitVec.ofInt_natCast, BitVec.toNat_ofNat, Nat.mod_eq_of_lt (show c < 2 ^ 64 by omega), show (BitVec.ofInt 64 (127 : Int)).toNat = 2 ^ 7 - 1 from by decide, Nat.and_two_pow_sub_one_eq_mod]
  generalize c % 2 ^ 7 = d at hm ⊢
  exact IntWalk.i64_in _ (by omega)

theorem ones_any (x : Nat) (w : World) (hx : x < 18446744073709551616) :
    Calls Tryd.prog 45 #[.int .u64 (x : Int)] w fun e w' => e = .returned (.int .i64 (Ones.cnt 64 x : Int)) ∧ w = w' := by
  have HL := Lib.hid (ones_law x hx)
  go_enter Tryd.func45, Tryd.ntmps45
  go_wp2_with fail
  go_ret
  exact ⟨ret_int HL.out, rfl⟩
theorem size_any (x : Nat) (w : World) (hx : x < 18446744073709551616) :
    Calls Tryd.prog 39 #[.int .u64 (x : Int)] w fun e w' => e = .returned (.int .i64 (Ones.cnt 64 x : Int)) ∧ w = w' := by
  go_enter Tryd.func39, Tryd.ntmps39
  go_wp2_with (go_at_call 45; refine (ones_any _ _ hx).mono ?_; rintro e w' ⟨rfl, rfl⟩)
  go_ret
  exact ⟨rfl, rfl⟩
end Go.Proofs.YtfiobbhicicchaaDoor
