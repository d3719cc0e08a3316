/-
  How many bits a word has: the sums by masks that math/bits uses, and the count bit by bit, are the same number.
-/
namespace Ones
/-- The number of bits, one by one. -/
def cnt : Nat → Nat → Nat
  | 0, _ => 0
  | n + 1, x => x % 2 + cnt n (x / 2)
theorem cnt_zero (x : Nat) : cnt 0 x = 0 := rfl
theorem length_bits (n : Nat) : ∀ x : Nat, ((List.range n).filter fun t => x.testBit t).length = cnt n x := by
  induction n with
  | zero => intro x; rfl
  | succ n ih =>
    intro x
    rw [List.range_succ_eq_map, List.filter_cons, List.filter_map, cnt, ← ih (x / 2)]
    have e : ((fun t => x.testBit t) ∘ Nat.succ) = fun t => (x / 2).testBit t := by
      funext t
      simp [Nat.testBit_succ]
    rw [e]
    rcases Nat.mod_two_eq_zero_or_one x with h | h
    · rw [if_neg (by simp [Nat.testBit_zero, h])]
      simp [h]
    · rw [if_pos (by simp [Nat.testBit_zero, h])]
      simp [h]; omega
theorem cnt_example : cnt 64 1593 = 6 := by decide +kernel
theorem cnt_le (n : Nat) : ∀ x, cnt n x ≤ n := by
  induction n with
  | zero => intro x; simp [cnt]
  | succ n ih => intro x; have := ih (x / 2); rw [cnt]; omega
theorem cnt_byte (n x : Nat) : cnt (n + 8) x = cnt 8 (x % 256) + cnt n (x / 256) := by
  have e : x / 2 / 2 / 2 / 2 / 2 / 2 / 2 / 2 = x / 256 := by omega
  simp only [cnt, e]
  omega
/-- The same byte n times. -/
def rep (c : Nat) : Nat → Nat
  | 0 => 0
  | n + 1 => c + 256 * rep c n
/-- A function done byte by byte. -/
def bytes (f : Nat → Nat) : Nat → Nat → Nat
  | 0, _ => 0
  | n + 1, x => f (x % 256) + 256 * bytes f n (x / 256)
theorem and_split (h l r c : Nat) (hl : l < 256) (hc : c < 256) : (256 * h + l) &&& (256 * r + c) = 256 * (h &&& r) + (l &&& c) := by
  have hlc : l &&& c < 2 ^ 8 := Nat.lt_of_le_of_lt Nat.and_le_left hl
  apply Nat.eq_of_testBit_eq
  intro i
  rw [Nat.testBit_and, show (256 : Nat) = 2 ^ 8 from rfl, Nat.testBit_two_pow_mul_add _ (show l < 2 ^ 8 from hl), Nat.testBit_two_pow_mul_add _ (show c < 2 ^ 8 from hc), Nat.testBit_two_pow_mul_add _ hlc]
  split <;> simp [Nat.testBit_and]
def f1 (b : Nat) : Nat := (b / 2 &&& 0x55) + (b &&& 0x55)
def f2 (b : Nat) : Nat := (b / 4 &&& 0x33) + (b &&& 0x33)
def f3 (b : Nat) : Nat := (b / 16 + b) % 16
theorem b1 : ∀ q, q < 2 → ∀ b, b < 256 → (128 * q + b / 2) &&& 0x55 = b / 2 &&& 0x55 := by decide +kernel
theorem b2 : ∀ q, q < 4 → ∀ b, b < 256 → (64 * q + b / 4) &&& 0x33 = b / 4 &&& 0x33 := by decide +kernel
theorem lt1 : ∀ b, b < 256 → f1 b < 256 := by decide +kernel
theorem b3 : ∀ b, b < 256 → f2 (f1 b) < 69 ∧ f2 (f1 b) % 16 < 5 ∧ f3 (f2 (f1 b)) = cnt 8 b := by decide +kernel
theorem step1 (n : Nat) : ∀ x, (x / 2 &&& rep 0x55 n) + (x &&& rep 0x55 n) = bytes f1 n x := by
  induction n with
  | zero => intro x; simp [rep, bytes]
  | succ n ih =>
    intro x
    have ex : x = 256 * (x / 256) + x % 256 := by omega
    have ex2 : x / 2 = 256 * (x / 256 / 2) + (128 * (x / 256 % 2) + x % 256 / 2) := by omega
    have er : rep 0x55 (n + 1) = 256 * rep 0x55 n + 0x55 := by rw [rep]; omega
    have h1 := and_split (x / 256) (x % 256) (rep 0x55 n) 0x55 (by omega) (by omega)
    have h2 := and_split (x / 256 / 2) (128 * (x / 256 % 2) + x % 256 / 2) (rep 0x55 n) 0x55 (by omega) (by omega)
    rw [← ex2, ← er, b1 _ (by omega) _ (by omega)] at h2
    rw [← ex, ← er] at h1
    rw [h1, h2, bytes, ← ih, f1]
    omega
theorem step2 (n : Nat) : ∀ x, (x / 4 &&& rep 0x33 n) + (x &&& rep 0x33 n) = bytes f2 n x := by
  induction n with
  | zero => intro x; simp [rep, bytes]
  | succ n ih =>
    intro x
    have ex : x = 256 * (x / 256) + x % 256 := by omega
    have ex2 : x / 4 = 256 * (x / 256 / 4) + (64 * (x / 256 % 4) + x % 256 / 4) := by omega
    have er : rep 0x33 (n + 1) = 256 * rep 0x33 n + 0x33 := by rw [rep]; omega
    have h1 := and_split (x / 256) (x % 256) (rep 0x33 n) 0x33 (by omega) (by omega)
    have h2 := and_split (x / 256 / 4) (64 * (x / 256 % 4) + x % 256 / 4) (rep 0x33 n) 0x33 (by omega) (by omega)
    rw [← ex2, ← er, b2 _ (by omega) _ (by omega)] at h2
    rw [← ex, ← er] at h1
    rw [h1, h2, bytes, ← ih, f2]
    omega
theorem bytes_bytes (f g : Nat → Nat) (hf : ∀ b, b < 256 → f b < 256) (n : Nat) : ∀ x, bytes g n (bytes f n x) = bytes (fun b => g (f b)) n x := by
  induction n with
  | zero => intro x; rfl
  | succ n ih =>
    intro x
    have h := hf (x % 256) (by omega)
    rw [bytes, show bytes f (n + 1) x % 256 = f (x % 256) by rw [bytes]; omega, show bytes f (n + 1) x / 256 = bytes f n (x / 256) by rw [bytes]; omega, ih, bytes]
theorem step3 (n : Nat) : ∀ x, (bytes (fun b => f2 (f1 b)) n x / 16 + bytes (fun b => f2 (f1 b)) n x) &&& rep 0x0f n = bytes (cnt 8) n x := by
  induction n with
  | zero => intro x; simp [rep, bytes]
  | succ n ih =>
    intro x
    have hb := b3 (x % 256) (by omega)
    have hn : bytes (fun b => f2 (f1 b)) n (x / 256) % 16 < 5 := by
      cases n with
      | zero => simp [bytes]
      | succ n =>
        have hb := b3 (x / 256 % 256) (by omega)
        rw [bytes]; omega
    rw [bytes]
    have ih' := ih (x / 256)
    generalize bytes (fun b => f2 (f1 b)) n (x / 256) = Y at hn ih' ⊢
    generalize eg : f2 (f1 (x % 256)) = g at hb ⊢
    have er : rep 0x0f (n + 1) = 256 * rep 0x0f n + 0x0f := by rw [rep]; omega
    have ey : (g + 256 * Y) / 16 + (g + 256 * Y) = 256 * (Y / 16 + Y) + (16 * (Y % 16) + (g / 16 + g)) := by omega
    rw [er, ey, and_split _ _ _ _ (by omega) (by omega), ih', bytes, ← hb.2.2, f3]
    rw [show (16 * (Y % 16) + (g / 16 + g)) &&& 0x0f = (16 * (Y % 16) + (g / 16 + g)) % 16 from Nat.and_two_pow_sub_one_eq_mod _ 4]
    omega
/-- The sums by masks, as natural numbers. -/
def swar (x : Nat) : Nat :=
  let x1 := (x / 2 &&& 6148914691236517205) + (x &&& 6148914691236517205)
  let x2 := (x1 / 4 &&& 3689348814741910323) + (x1 &&& 3689348814741910323)
  (x2 / 16 + x2) &&& 1085102592571150095
theorem swar_eq (x : Nat) : swar x = bytes (cnt 8) 8 x := by
  have r1 : rep 0x55 8 = 6148914691236517205 := by decide
  have r2 : rep 0x33 8 = 3689348814741910323 := by decide
  have r3 : rep 0x0f 8 = 1085102592571150095 := by decide
  unfold swar
  rw [← r1, ← r2, ← r3]
  simp only [step1, step2, bytes_bytes f1 f2 lt1, step3]
theorem cnt_byte' {m n : Nat} (h : m = n + 8) (x : Nat) : cnt m x = cnt 8 (x % 256) + cnt n (x / 256) := by subst h; exact cnt_byte n x
attribute [local irreducible] cnt
theorem cnt64 (x : Nat) : cnt 64 x = cnt 8 (x % 256) + (cnt 8 (x / 256 % 256) + (cnt 8 (x / 256 / 256 % 256) + (cnt 8 (x / 256 / 256 / 256 % 256) + (cnt 8 (x / 256 / 256 / 256 / 256 % 256) + (cnt 8 (x / 256 / 256 / 256 / 256 / 256 % 256) + (cnt 8 (x / 256 / 256 / 256 / 256 / 256 / 256 % 256) + (cnt 8 (x / 256 / 256 / 256 / 256 / 256 / 256 / 256 % 256) + 0))))))) := by
  rw [cnt_byte' (m := 64) (n := 56) rfl, cnt_byte' (m := 56) (n := 48) rfl, cnt_byte' (m := 48) (n := 40) rfl, cnt_byte' (m := 40) (n := 32) rfl, cnt_byte' (m := 32) (n := 24) rfl, cnt_byte' (m := 24) (n := 16) rfl, cnt_byte' (m := 16) (n := 8) rfl]
  have h := cnt_byte' (m := 8) (n := 0) rfl (x / 256 / 256 / 256 / 256 / 256 / 256 / 256)
  rw [cnt_zero] at h
  rw [← h]
theorem div_of {n a b m : Nat} (h : n = a + m * b) (ha : a < m) : n / m = b := by
  rw [h, Nat.add_mul_div_left _ _ (by omega), Nat.div_eq_of_lt ha, Nat.zero_add]
theorem fold1 (c0 c1 c2 c3 c4 c5 c6 c7 : Nat) (l0 : c0 ≤ 8) (l1 : c1 ≤ 8) (l2 : c2 ≤ 8) (l3 : c3 ≤ 8) (l4 : c4 ≤ 8) (l5 : c5 ≤ 8) (l6 : c6 ≤ 8) (l7 : c7 ≤ 8) (z : Nat) (hz : z = c0 + 256 * c1 + 65536 * c2 + 16777216 * c3 + 4294967296 * c4 + 1099511627776 * c5 + 281474976710656 * c6 + 72057594037927936 * c7) :
    z < 18446744073709551616 ∧ z + z / 256 = (c0 + c1) + 256 * (c1 + c2) + 65536 * (c2 + c3) + 16777216 * (c3 + c4) + 4294967296 * (c4 + c5) + 1099511627776 * (c5 + c6) + 281474976710656 * (c6 + c7) + 72057594037927936 * c7 := by
  have k : z / 256 = c1 + 256 * c2 + 65536 * c3 + 16777216 * c4 + 4294967296 * c5 + 1099511627776 * c6 + 281474976710656 * c7 := div_of (a := c0) (by clear l0 l1 l2 l3 l4 l5 l6 l7; omega) (by clear hz; omega)
  refine ⟨by clear k; omega, ?_⟩
  rw [k, hz]
  clear k hz l0 l1 l2 l3 l4 l5 l6 l7
  omega
theorem fold2 (c0 c1 c2 c3 c4 c5 c6 c7 : Nat) (l0 : c0 ≤ 16) (l1 : c1 ≤ 16) (l2 : c2 ≤ 16) (l3 : c3 ≤ 16) (l4 : c4 ≤ 16) (l5 : c5 ≤ 16) (l6 : c6 ≤ 16) (l7 : c7 ≤ 16) (z : Nat) (hz : z = c0 + 256 * c1 + 65536 * c2 + 16777216 * c3 + 4294967296 * c4 + 1099511627776 * c5 + 281474976710656 * c6 + 72057594037927936 * c7) :
    z < 18446744073709551616 ∧ z + z / 65536 = (c0 + c2) + 256 * (c1 + c3) + 65536 * (c2 + c4) + 16777216 * (c3 + c5) + 4294967296 * (c4 + c6) + 1099511627776 * (c5 + c7) + 281474976710656 * c6 + 72057594037927936 * c7 := by
  have k : z / 65536 = c2 + 256 * c3 + 65536 * c4 + 16777216 * c5 + 4294967296 * c6 + 1099511627776 * c7 := div_of (a := c0 + 256 * c1) (by clear l0 l1 l2 l3 l4 l5 l6 l7; omega) (by clear hz; omega)
  refine ⟨by clear k; omega, ?_⟩
  rw [k, hz]
  clear k hz l0 l1 l2 l3 l4 l5 l6 l7
  omega
theorem fold3 (c0 c1 c2 c3 c4 c5 c6 c7 : Nat) (l0 : c0 ≤ 32) (l1 : c1 ≤ 32) (l2 : c2 ≤ 32) (l3 : c3 ≤ 32) (l4 : c4 ≤ 32) (l5 : c5 ≤ 32) (l6 : c6 ≤ 32) (l7 : c7 ≤ 32) (z : Nat) (hz : z = c0 + 256 * c1 + 65536 * c2 + 16777216 * c3 + 4294967296 * c4 + 1099511627776 * c5 + 281474976710656 * c6 + 72057594037927936 * c7) :
    z < 18446744073709551616 ∧ z + z / 4294967296 = (c0 + c4) + 256 * (c1 + c5) + 65536 * (c2 + c6) + 16777216 * (c3 + c7) + 4294967296 * c4 + 1099511627776 * c5 + 281474976710656 * c6 + 72057594037927936 * c7 := by
  have k : z / 4294967296 = c4 + 256 * c5 + 65536 * c6 + 16777216 * c7 := div_of (a := c0 + 256 * c1 + 65536 * c2 + 16777216 * c3) (by clear l0 l1 l2 l3 l4 l5 l6 l7; omega) (by clear hz; omega)
  refine ⟨by clear k; omega, ?_⟩
  rw [k, hz]
  clear k hz l0 l1 l2 l3 l4 l5 l6 l7
  omega
theorem fold4 (c0 c1 c2 c3 c4 c5 c6 c7 : Nat) (l0 : c0 ≤ 64) (l1 : c1 ≤ 64) (l2 : c2 ≤ 64) (l3 : c3 ≤ 64) (l4 : c4 ≤ 64) (l5 : c5 ≤ 64) (l6 : c6 ≤ 64) (l7 : c7 ≤ 64) (z : Nat) (hz : z = c0 + 256 * c1 + 65536 * c2 + 16777216 * c3 + 4294967296 * c4 + 1099511627776 * c5 + 281474976710656 * c6 + 72057594037927936 * c7) : z < 9223372036854775808 ∧ z % 128 = c0 := by
  refine ⟨by omega, ?_⟩
  have : z = c0 + 128 * (2 * c1 + 512 * c2 + 131072 * c3 + 33554432 * c4 + 8589934592 * c5 + 2199023255552 * c6 + 562949953421312 * c7) := by clear l0 l1 l2 l3 l4 l5 l6 l7; omega
  rw [this, Nat.add_mul_mod_self_left, Nat.mod_eq_of_lt (by clear hz this; omega)]
theorem fold8 (c0 c1 c2 c3 c4 c5 c6 c7 : Nat) (l0 : c0 ≤ 8) (l1 : c1 ≤ 8) (l2 : c2 ≤ 8) (l3 : c3 ≤ 8) (l4 : c4 ≤ 8) (l5 : c5 ≤ 8) (l6 : c6 ≤ 8) (l7 : c7 ≤ 8) (z : Nat) (hz : z = c0 + 256 * c1 + 65536 * c2 + 16777216 * c3 + 4294967296 * c4 + 1099511627776 * c5 + 281474976710656 * c6 + 72057594037927936 * c7) :
    z < 18446744073709551616 ∧ z + z / 256 < 18446744073709551616 ∧ (z + z / 256) + (z + z / 256) / 65536 < 18446744073709551616 ∧
      ((z + z / 256) + (z + z / 256) / 65536) + ((z + z / 256) + (z + z / 256) / 65536) / 4294967296 < 9223372036854775808 ∧
      (((z + z / 256) + (z + z / 256) / 65536) + ((z + z / 256) + (z + z / 256) / 65536) / 4294967296) % 128 = c0 + c1 + c2 + c3 + c4 + c5 + c6 + c7 := by
  obtain ⟨a1, a2⟩ := fold1 _ _ _ _ _ _ _ _ l0 l1 l2 l3 l4 l5 l6 l7 z hz
  clear hz
  refine ⟨a1, ?_⟩
  generalize z + z / 256 = z1 at a2 ⊢
  clear a1
  obtain ⟨b1, b2⟩ := fold2 (c0 + c1) (c1 + c2) (c2 + c3) (c3 + c4) (c4 + c5) (c5 + c6) (c6 + c7) c7 (by omega) (by omega) (by omega) (by omega) (by omega) (by omega) (by omega) (by omega) z1 a2
  clear a2
  refine ⟨b1, ?_⟩
  generalize z1 + z1 / 65536 = z2 at b2 ⊢
  clear b1
  obtain ⟨d1, d2⟩ := fold3 ((c0 + c1) + (c2 + c3)) ((c1 + c2) + (c3 + c4)) ((c2 + c3) + (c4 + c5)) ((c3 + c4) + (c5 + c6)) ((c4 + c5) + (c6 + c7)) ((c5 + c6) + c7) (c6 + c7) c7 (by omega) (by omega) (by omega) (by omega) (by omega) (by omega) (by omega) (by omega) z2 b2
  clear b2
  refine ⟨d1, ?_⟩
  generalize z2 + z2 / 4294967296 = z3 at d2 ⊢
  clear d1
  obtain ⟨f1, f2⟩ := fold4 (((c0 + c1) + (c2 + c3)) + ((c4 + c5) + (c6 + c7))) (((c1 + c2) + (c3 + c4)) + ((c5 + c6) + c7)) (((c2 + c3) + (c4 + c5)) + (c6 + c7)) (((c3 + c4) + (c5 + c6)) + c7) ((c4 + c5) + (c6 + c7)) ((c5 + c6) + c7) (c6 + c7) c7 (by omega) (by omega) (by omega) (by omega) (by omega) (by omega) (by omega) (by omega) z3 d2
  clear d2
  refine ⟨f1, ?_⟩
  rw [f2]
  clear f1 f2
  omega
/-- THE SUMS BY MASKS, FOLDED, ARE THE COUNT. -/
theorem fold (x z : Nat) (hz : z = swar x) :
    z < 18446744073709551616 ∧ z + z / 256 < 18446744073709551616 ∧ (z + z / 256) + (z + z / 256) / 65536 < 18446744073709551616 ∧
      ((z + z / 256) + (z + z / 256) / 65536) + ((z + z / 256) + (z + z / 256) / 65536) / 4294967296 < 9223372036854775808 ∧
      (((z + z / 256) + (z + z / 256) / 65536) + ((z + z / 256) + (z + z / 256) / 65536) / 4294967296) % 128 = cnt 64 x := by
  have := fold8 _ _ _ _ _ _ _ _ (cnt_le 8 (x % 256)) (cnt_le 8 (x / 256 % 256)) (cnt_le 8 (x / 256 / 256 % 256)) (cnt_le 8 (x / 256 / 256 / 256 % 256)) (cnt_le 8 (x / 256 / 256 / 256 / 256 % 256)) (cnt_le 8 (x / 256 / 256 / 256 / 256 / 256 % 256)) (cnt_le 8 (x / 256 / 256 / 256 / 256 / 256 / 256 % 256)) (cnt_le 8 (x / 256 / 256 / 256 / 256 / 256 / 256 / 256 % 256)) z
    (by
      rw [hz, swar_eq]
      simp only [bytes]
      generalize cnt 8 (x % 256) = c0
      generalize cnt 8 (x / 256 % 256) = c1
      generalize cnt 8 (x / 256 / 256 % 256) = c2
      generalize cnt 8 (x / 256 / 256 / 256 % 256) = c3
      generalize cnt 8 (x / 256 / 256 / 256 / 256 % 256) = c4
      generalize cnt 8 (x / 256 / 256 / 256 / 256 / 256 % 256) = c5
      generalize cnt 8 (x / 256 / 256 / 256 / 256 / 256 / 256 % 256) = c6
      generalize cnt 8 (x / 256 / 256 / 256 / 256 / 256 / 256 / 256 % 256) = c7
      omega)
  rw [cnt64]
  refine ⟨this.1, this.2.1, this.2.2.1, this.2.2.2.1, ?_⟩
  rw [this.2.2.2.2]
  simp only [Nat.add_assoc, Nat.add_zero]
end Ones
