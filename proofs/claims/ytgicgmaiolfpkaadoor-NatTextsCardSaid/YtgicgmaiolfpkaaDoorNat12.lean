/-
  What nat.word, nat.small and nat.Gcd compute: the greatest number that divides both.
-/
import Derived.Test.YtgicgmaiolfpkaaDoorNat11
import Derived.Deep.QuietTactic
import Derived.BigQuiet
namespace Go.Proofs.YtgicgmaiolfpkaaDoor
open Go.RowKit
set_option maxHeartbeats 1000000
set_option linter.unusedVariables false

theorem word_any (A : Option Addr) (c B : Nat) (l : List Nat) (w : World) (hl : Lies w B A (U l)) (ho : Nt.Ok l) (h2 : l.length ≤ 2) :
    Calls Tryd.prog 31 #[.slice A l.length c] w fun e w' => e = .returned (.int .u64 (Nt.val l : Int)) ∧ w = w' := by
  have HL := Lib.hid hl
  have HO := Lib.hid ho
  clear hl ho
  go_enter Tryd.func31, Tryd.ntmps31
  go_wp2_with fail
  go_loop [3, 8] (fun v i => ∃ k n : Nat, k ≤ l.length ∧ n < 18446744073709551616 ∧ i = .int .i64 (k : Int) ∧ v = .int .u64 (n : Int) ∧ Hid (n = Nt.val (l.take k))) (fun _ i => l.length - (intOf i).toNat)
  case atStart => exact ⟨0, 0, Nat.zero_le _, by omega, rfl, rfl, Lib.hid (by simp [Nt.val])⟩
  case round =>
    obtain ⟨k, n, hk, hn, rfl, rfl, H⟩ := hrel
    by_cases hlt : k < l.length
    · obtain ⟨b, off, rfl, _, hcell⟩ := HL.out.limb hlt
      have hxb := Nt.ok_get HO.out hlt
      have ST := Lib.hid (Nt.val_take_succ hlt)
      have VL := Nt.val_lt (Nt.ok_take HO.out k)
      rw [← H.out, List.length_take, Nat.min_eq_left hk] at VL
      generalize l[k] = x at hcell hxb ST
      have hk2 : k = 0 ∨ k = 1 := by omega
      rcases hk2 with rfl | rfl
      · have hn0 : n = 0 := by simpa using VL
        subst hn0
        rw [Nat.add_zero] at hcell
        have hor : bits BinOp.or IntKind.u64 0 (x : Int) = (x : Int) := by
          have := u64_or_nat 0 x (by omega) (by omega)
          rw [Nat.zero_or] at this
          exact this
        go_wp2_with fail
        refine ⟨⟨1, x, by omega, by omega, rfl, ?_, Lib.hid (by rw [ST.out]; simp [Nt.val])⟩, by simp [intOf]; omega⟩
        rfl
      · have hn1 : n < 4294967296 := by simpa using VL
        have hor : bits BinOp.or IntKind.u64 (n : Int) ((x : Int) * 4294967296) = ((x * 4294967296 + n : Nat) : Int) := by
          have := u64_or_nat n (x * 4294967296) (by omega) (by omega)
          rw [Nat.or_comm, nat_join 32 (x * 4294967296) n (by omega) (by omega)] at this
          rw [← this, Int.natCast_mul]
          rfl
        go_wp2_with fail
        refine ⟨⟨2, x * 4294967296 + n, by omega, by omega, rfl, ?_, Lib.hid (by rw [ST.out, ← H.out]; omega)⟩, by simp [intOf]; omega⟩
        exact congrArg (Value.int .u64) (by omega)
    · go_wp2_with fail
      go_ret
      exact ⟨ret_int (by rw [H.out, List.take_of_length_le (by omega)]), rfl⟩

theorem two_limbs {x : Nat} (hx : x < 18446744073709551616) : Nt.val [x % 4294967296, x / 4294967296] = x := by simp [Nt.val]; omega

theorem small_any (a b : Nat) (w : World) (ha : a < 18446744073709551616) (hb : b < 18446744073709551616) :
    Calls Tryd.prog 30 #[.int .u64 (a : Int), .int .u64 (b : Int)] w fun e w' => ∃ v, e = .returned v ∧ IsRes w' v (Nt.digs (Nat.gcd a b)) ∧ Below w.heap.size w w' := by
  go_enter Tryd.func30, Tryd.ntmps30
  go_wp2_with fail
  go_loopw [0, 1] (fun xv yv wr => ∃ x y m : Nat, wr = w.drewN m ∧ x < 18446744073709551616 ∧ y < 18446744073709551616 ∧ xv = .int .u64 (x : Int) ∧ yv = .int .u64 (y : Int) ∧ Hid (Nat.gcd x y = Nat.gcd a b)) (fun _ yv _ => (intOf yv).toNat)
  case atStart => exact ⟨a, b, 0, rfl, ha, hb, rfl, rfl, Lib.hid rfl⟩
  case round =>
    obtain ⟨x, y, m, rfl, hx, hy, rfl, rfl, H⟩ := hrel
    by_cases h0 : y = 0
    · subst h0
      have HE : Hid (Nat.gcd a b = x) := Lib.hid (by rw [← H.out, Nat.gcd_zero_right])
      have NR := Lib.hid (norm_any (some ⟨w.heap.size, 0, none⟩) 2 (w.heap.size + 1) [x % 4294967296, x / 4294967296] ((w.drewN m).alloc (.cells #[.int .u32 ((x % 4294967296 : Nat) : Int), .int .u32 ((x / 4294967296 : Nat) : Int)] 30)) (Lies.new (w.drewN m) [.int .u32 ((x % 4294967296 : Nat) : Int), .int .u32 ((x / 4294967296 : Nat) : Int)] 30) (by simp) (fun d hd => by simp at hd; omega) (by simp) (by omega) (by simp))
      rw [two_limbs hx] at NR
      have e1 : ((x % 4294967296 : Nat) : Int) = (x : Int) % 4294967296 := by omega
      have e2 : ((x / 4294967296 : Nat) : Int) = (x : Int) / 4294967296 := by omega
      rw [e1, e2] at NR
      clear e1 e2
      go_wp2_with fail
      refine NR.out.mono ?_
      rintro e w1 ⟨rfl, hblk1, hb1⟩
      have hb0 : Below w.heap.size w w1 := by
        have h1 : Below w.heap.size w (w.drewN m) := ⟨rfl, rfl, rfl, Nat.le_refl _, fun _ _ => rfl⟩
        exact (h1.alloc (Nat.le_refl _) _).trans (hb1.mono (by simp))
      have hli := hblk1.lies
      have hl2 : (Nt.digs x).length ≤ 2 := Nt.digs_len_lt (by simpa using hx)
      go_wp2_with fail
      go_ret
      refine ⟨_, rfl, ?_, hb0⟩
      rw [HE.out]
      exact ⟨_, _, rfl, Nat.le_refl _, by omega, (fun h => by cases h), by simpa using hli⟩
    · have hne : ((y : Int) != 0) = true := by simp; omega
      have hy1 : (1 : Int) ≤ (y : Int) := by omega
      have hr2 : (x : Int) % (y : Int) = ((x % y : Nat) : Int) := (Int.natCast_emod x y).symm
      have hrl : x % y < y := Nat.mod_lt _ (by omega)
      have HG : Hid (Nat.gcd y (x % y) = Nat.gcd x y) := Lib.hid (by rw [Nat.gcd_comm x y, Nat.gcd_rec y x, Nat.gcd_comm])
      have HR2 := Lib.hid hr2
      generalize x % y = r at *
      have hdz : ((y : Int) == 0) = false := by simp; omega
      go_wp2_with fail
      go_quiet (fail)
      go_wp2_with fail
      refine ⟨⟨y, r, m + nq, World.drewN_drewN _ _ _, hy, by omega, rfl, congrArg (Value.int .u64) HR2.out, Lib.hid (by rw [HG.out]; exact H.out)⟩, ?_⟩
      rw [HR2.out]
      simp [intOf]; omega

/-- nat.Gcd where both are of at most two limbs, and the second is not 0. -/
theorem gcd_few (A A' : Option Addr) (c c' B : Nat) (a b : List Nat) (w : World) (hx : Lies w B A (U a)) (hy : Lies w B A' (U b)) (hB : B ≤ w.heap.size) (ha : Nt.Ok a) (hb : Nt.Ok b)
    (hc : a.length ≤ c) (hc' : b.length ≤ c') (hm : c ≤ 9223372036854775807) (hm' : c' ≤ 9223372036854775807) (h2 : (Nt.digs (Nt.val a)).length ≤ 2) (h2' : (Nt.digs (Nt.val b)).length ≤ 2) (h0 : Nt.val b ≠ 0) :
    Calls Tryd.prog 21 #[.slice A a.length c, .slice A' b.length c'] w fun e w' => ∃ v, e = .returned v ∧ IsRes w' v (Nt.digs (Nat.gcd (Nt.val a) (Nt.val b))) ∧ Below w.heap.size w w' := by
  have TA := Lib.hid (trim_any A c B a w hx ha hc hm)
  have TB := Lib.hid (trim_any A' c' B b w hy hb hc' hm')
  have WA := Lib.hid (word_any A (Nt.digs (Nt.val a)).length B (Nt.digs (Nt.val a)) w (hx.digs ha) (Nt.ok_digs _) h2)
  have WB := Lib.hid (word_any A' (Nt.digs (Nt.val b)).length B (Nt.digs (Nt.val b)) w (hy.digs hb) (Nt.ok_digs _) h2')
  rw [Nt.val_digs] at WA WB
  have hlb : (Nt.digs (Nt.val b)).length ≠ 0 := fun h => h0 (Nt.digs_nil_iff.1 (List.eq_nil_of_length_eq_zero h))
  have hxa : Nt.val a < 18446744073709551616 := by
    have h := Nt.val_lt (Nt.ok_digs (Nt.val a))
    rw [Nt.val_digs] at h
    exact Nat.lt_of_lt_of_le h (Nat.le_trans (Nat.pow_le_pow_right (by omega) h2) (by decide))
  have hxb : Nt.val b < 18446744073709551616 := by
    have h := Nt.val_lt (Nt.ok_digs (Nt.val b))
    rw [Nt.val_digs] at h
    exact Nat.lt_of_lt_of_le h (Nat.le_trans (Nat.pow_le_pow_right (by omega) h2') (by decide))
  clear hx hy ha hb h0
  generalize Nt.val a = x at *
  generalize Nt.val b = y at *
  generalize Nt.digs x = da at *
  generalize Nt.digs y = db at *
  have hpb : 0 < db.length := by omega
  go_enter Tryd.func21, Tryd.ntmps21
  go_wp2_with fail
  refine TA.out.mono ?_
  rintro e w' ⟨rfl, rfl⟩
  go_wp2_with fail
  refine TB.out.mono ?_
  rintro e w' ⟨rfl, rfl⟩
  go_wp2_with fail
  refine wp_loop_rounds 1 ?_
  rw [rounds_succ]
  go_wp2_with fail
  refine WA.out.mono ?_
  rintro e w' ⟨rfl, rfl⟩
  go_wp2_with fail
  refine WB.out.mono ?_
  rintro e w' ⟨rfl, rfl⟩
  go_wp2_with fail
  refine (small_any x y _ hxa hxb).mono ?_
  rintro e w1 ⟨v, rfl, hr, hb1⟩
  go_wp2_with fail
  go_ret
  exact ⟨_, rfl, hr, hb1⟩
end Go.Proofs.YtgicgmaiolfpkaaDoor
