/-
  What label.Of, scrimref01.Of and label.All compute, for every slice.
-/
import Derived.Test.YtaaapjoopchgiaaDoorWords
import Derived.Test.YtaaapjoopchgiaaDoorLabRef
import Derived.Deep.QuietTactic
import Derived.BigQuiet
namespace Go.Proofs.YtaaapjoopchgiaaDoor
open Go.RowKit
set_option maxHeartbeats 400000

theorem or_shl (n : Nat) (z : Int) (hn : n < 18446744073709551616) (h1 : z < 64) : bits BinOp.or IntKind.u64 (↑n) (IntKind.u64.wrap (2 ^ z.toNat)) = ((n ||| 2 ^ z.toNat : Nat) : Int) := by
  have hb := Lab.bit_lt (t := z.toNat) (by omega)
  have e : ((2 : Int) ^ z.toNat) = ((2 ^ z.toNat : Nat) : Int) := by simp
  rw [e]
  generalize 2 ^ z.toNat = m at hb ⊢
  rw [IntWalk.u64_in _ (by omega)]
  exact u64_or_nat _ _ hn hb

theorem of_any (A : Option Addr) (c B : Nat) (zs : List Int) (w : World) (hl : Lies w B A (zs.map (Value.int .i64))) (hn : zs.length ≤ 9223372036854775807) :
    Calls Tryd.prog 30 #[.slice A zs.length c] w fun e w' => e = .returned (.tuple #[.int .u64 (Lab.ofNum zs : Int), .bool (Lab.ofOk zs)]) ∧ w = w' := by
  have HL := Lib.hid hl
  clear hl
  go_enter Tryd.func30, Tryd.ntmps30
  go_wp2_with fail
  go_loop [4, 9] (fun x i => ∃ k n : Nat, k ≤ zs.length ∧ n < 18446744073709551616 ∧ i = .int .i64 k ∧ x = .int .u64 (n : Int) ∧ Hid (n = Lab.orTags (zs.take k) ∧ (zs.take k).all Lab.okTag = true)) (fun _ i => zs.length - (intOf i).toNat)
  case atStart => exact ⟨0, 0, Nat.zero_le _, by omega, rfl, rfl, Lib.hid ⟨by simp [Lab.orTags], by simp⟩⟩
  case round =>
    obtain ⟨k, n, hk, hn2, rfl, rfl, H⟩ := hrel
    by_cases hlt : k < zs.length
    · obtain ⟨b, off, rfl, _, hc⟩ := HL.out.at_ (k := k) (by simpa using hlt)
      rw [List.getElem_map] at hc
      generalize hz : zs[k] = z at hc
      have HZ := Lib.hid hz
      clear hz
      by_cases hok : 0 ≤ z ∧ z < 64
      · obtain ⟨h0, h1⟩ := hok
        go_wp2_with fail
        go_round
        case rel =>
          refine ⟨k + 1, n ||| 2 ^ z.toNat, by omega, Nat.or_lt_two_pow (n := 64) hn2 (Lab.bit_lt (by omega)), by go_num, congrArg (Value.int .u64) (or_shl n z hn2 h1), Lib.hid ⟨?_, Lab.all_take_succ hlt H.out.2 ?_⟩⟩
          · rw [Lab.orTags_step hlt, ← H.out.1, HZ.out]
          · rw [HZ.out]; simp [Lab.okTag, h0, h1]
        case measure => simp [intOf]; omega
      · have hbad : Lab.okTag zs[k] = false := by rw [HZ.out]; simp [Lab.okTag]; omega
        have E1 := Lib.hid (Lab.ofNum_bad hlt hbad)
        have E2 := Lib.hid (Lab.ofOk_bad hlt hbad)
        clear hbad
        by_cases h0 : 0 ≤ z
        all_goals
          go_wp2_with fail
          go_ret2
          exact ⟨by rw [E1.out, E2.out]; rfl, rfl⟩
    · go_wp2_with fail
      go_ret2
      obtain rfl : k = zs.length := by omega
      have h := H.out
      rw [List.take_length] at h
      exact ⟨ret_two (by rw [Lab.ofNum_good h.2, ← h.1]; rfl) (by rw [show Lab.ofOk zs = true from h.2]; rfl), rfl⟩

theorem refOf_any (A : Option Addr) (c B : Nat) (zs : List Int) (w : World) (hl : Lies w B A (zs.map (Value.int .i64))) (hn : zs.length ≤ 9223372036854775807) :
    Calls Tryd.prog 31 #[.slice A zs.length c] w fun e w' => e = .returned (.tuple #[.int .u64 (Lab.ofNum zs : Int), .bool (Lab.ofOk zs)]) ∧ w = w' := by
  have HL := Lib.hid hl
  clear hl
  go_enter Tryd.func31, Tryd.ntmps31
  go_wp2_with fail
  go_loop [4, 5] (fun x i => ∃ k n : Nat, k ≤ zs.length ∧ n < 18446744073709551616 ∧ i = .int .i64 k ∧ x = .int .u64 (n : Int) ∧ Hid (n = Lab.orTags (zs.take k) ∧ (zs.take k).all Lab.okTag = true)) (fun _ i => zs.length - (intOf i).toNat)
  case atStart => exact ⟨0, 0, Nat.zero_le _, by omega, rfl, rfl, Lib.hid ⟨by simp [Lab.orTags], by simp⟩⟩
  case round =>
    obtain ⟨k, n, hk, hn2, rfl, rfl, H⟩ := hrel
    by_cases hlt : k < zs.length
    · obtain ⟨b, off, rfl, _, hc⟩ := HL.out.at_ (k := k) (by simpa using hlt)
      rw [List.getElem_map] at hc
      generalize hz : zs[k] = z at hc
      have HZ := Lib.hid hz
      clear hz
      by_cases hok : 0 ≤ z ∧ z < 64
      · obtain ⟨t, rfl⟩ := Int.eq_ofNat_of_zero_le hok.1
        have h1 : t < 64 := by omega
        have h2 : ((63 : Int) < (t : Int)) = False := by simp; omega
        have h3 : ((t : Int) < 0) = False := by simp
        clear hok
        have hb := Lab.bit_lt h1
        have hnb : n + Lab.bit t = n ||| 2 ^ t ∨ n.testBit t = true := by
          cases e : n.testBit t
          · exact .inl (Lab.or_bit_new e).symm
          · exact .inr rfl
        have HB : Hid (n ||| 2 ^ t < 18446744073709551616) := Nat.or_lt_two_pow (n := 64) hn2 hb
        have HR : Hid (n ||| 2 ^ t = Lab.orTags (zs.take (k + 1)) ∧ (zs.take (k + 1)).all Lab.okTag = true) :=
          ⟨by rw [Lab.orTags_step hlt, ← H.out.1, HZ.out]; simp, Lab.all_take_succ hlt H.out.2 (by rw [HZ.out]; simp [Lab.okTag]; omega)⟩
        have HNB := Lib.hid hnb
        clear hnb hb
        cases et : n.testBit t
        · have hlt3 : n + Lab.bit t < 18446744073709551616 := by
            rcases HNB.out with h | h
            · rw [h]; exact HB.out
            · rw [et] at h; cases h
          go_wp2_with (first | (go_at_call 45; refine (has_any _ _ _ (by assumption) (by omega)).mono ?_; rintro e w' ⟨rfl, rfl⟩) | (go_at_call 47; refine (bit_any _ _ (by omega)).mono ?_; rintro e w' ⟨rfl, rfl⟩))
          go_round
          case rel =>
            refine ⟨k + 1, n + Lab.bit t, by omega, hlt3, by go_num, by go_num, Lib.hid ?_⟩
            rcases HNB.out with h | h
            · rw [h]; exact HR.out
            · rw [et] at h; cases h
          case measure => simp [intOf]; omega
        · go_wp2_with (go_at_call 45; refine (has_any _ _ _ (by assumption) (by omega)).mono ?_; rintro e w' ⟨rfl, rfl⟩)
          go_round
          case rel =>
            refine ⟨k + 1, n, by omega, hn2, by go_num, rfl, Lib.hid ?_⟩
            have := HR.out
            rw [Lab.or_bit_old et] at this
            exact this
          case measure => simp [intOf]; omega
      · have hbad : Lab.okTag zs[k] = false := by rw [HZ.out]; simp [Lab.okTag]; omega
        have E1 := Lib.hid (Lab.ofNum_bad hlt hbad)
        have E2 := Lib.hid (Lab.ofOk_bad hlt hbad)
        clear hbad
        by_cases h0 : 0 ≤ z
        all_goals
          go_wp2_with fail
          go_ret2
          exact ⟨by rw [E1.out, E2.out]; rfl, rfl⟩
    · go_wp2_with fail
      go_ret2
      obtain rfl : k = zs.length := by omega
      have h := H.out
      rw [List.take_length] at h
      exact ⟨ret_two (by rw [Lab.ofNum_good h.2, ← h.1]; rfl) (by rw [show Lab.ofOk zs = true from h.2]; rfl), rfl⟩

/-- The join of all of the first labels. -/
theorem all_any (A : Option Addr) (c B : Nat) (zs : List Nat) (w : World) (hl : Lies w B A (zs.map fun n : Nat => Value.int .u64 (n : Int))) (hn : zs.length ≤ 9223372036854775807) (hz : ∀ n ∈ zs, n < 18446744073709551616) :
    Calls Tryd.prog 35 #[.slice A zs.length c] w fun e w' => e = .returned (.int .u64 ((zs.foldl Lab.join 0 : Nat) : Int)) ∧ w = w' := by
  have HL := Lib.hid hl
  have HZ := Lib.hid hz
  clear hl hz
  go_enter Tryd.func35, Tryd.ntmps35
  go_wp2_with fail
  go_loop [3, 8] (fun x i => ∃ k n : Nat, k ≤ zs.length ∧ n < 18446744073709551616 ∧ i = .int .i64 k ∧ x = .int .u64 (n : Int) ∧ Hid (n = (zs.take k).foldl Lab.join 0)) (fun _ i => zs.length - (intOf i).toNat)
  case atStart => exact ⟨0, 0, Nat.zero_le _, by omega, rfl, rfl, Lib.hid (by simp)⟩
  case round =>
    obtain ⟨k, n, hk, hn2, rfl, rfl, H⟩ := hrel
    by_cases hlt : k < zs.length
    · obtain ⟨b, off, rfl, _, hc⟩ := HL.out.at_ (k := k) (by simpa using hlt)
      rw [List.getElem_map] at hc
      have hzk := HZ.out _ (List.getElem_mem hlt)
      have hs : Hid ((zs.take (k + 1)).foldl Lab.join 0 = Lab.join ((zs.take k).foldl Lab.join 0) zs[k]) := by
        rw [List.take_succ_eq_append_getElem hlt, List.foldl_append]; rfl
      generalize zs[k] = z at hc hzk hs
      go_wp2_with (go_at_call 22; refine (join_any _ _ _ (by assumption) (by assumption)).mono ?_; rintro e w' ⟨rfl, rfl⟩)
      go_round
      case rel => exact ⟨k + 1, Lab.join n z, by omega, Lab.join_lt hn2 hzk, by go_num, rfl, Lib.hid (by rw [hs.out, ← H.out])⟩
      case measure => simp [intOf]; omega
    · go_wp2_with fail
      go_ret
      obtain rfl : k = zs.length := by omega
      exact ⟨ret_int (by rw [H.out, List.take_length]), rfl⟩

/-- The same numbers? (of two slices of int) -/
theorem refInts_any (A A' : Option Addr) (c c' B B' : Nat) (xs ys : List Int) (w : World) (hx : Lies w B A (xs.map (Value.int .i64))) (hy : Lies w B' A' (ys.map (Value.int .i64)))
    (hn : xs.length ≤ 9223372036854775807) (hm : ys.length ≤ 9223372036854775807) :
    Calls Tryd.prog 32 #[.slice A xs.length c, .slice A' ys.length c'] w fun e w' => e = .returned (.bool (xs == ys)) ∧ ∃ n, w' = w.drewN n := by
  have HX := Lib.hid hx
  have HY := Lib.hid hy
  clear hx hy
  by_cases hlen : xs.length = ys.length
  · have hb : (((xs.length : Nat) : Int) != ((ys.length : Nat) : Int)) = false := by simp [hlen]
    have HE := Lib.hid hlen
    have hle : xs.length ≤ ys.length := by omega
    clear hlen
    go_enter Tryd.func32, Tryd.ntmps32
    go_wp2_with fail
    go_loopw [5] (fun i wr => ∃ k m : Nat, wr = w.drewN m ∧ k ≤ xs.length ∧ i = .int .i64 k ∧ Hid (xs.take k = ys.take k)) (fun i _ => xs.length - (intOf i).toNat)
    case atStart => exact ⟨0, 0, rfl, Nat.zero_le _, rfl, Lib.hid (by simp)⟩
    case round =>
      obtain ⟨k, m, rfl, hk, rfl, H⟩ := hrel
      by_cases hlt : k < xs.length
      · obtain ⟨b, off, rfl, _, hc⟩ := HX.out.at_ (k := k) (by simpa using hlt)
        obtain ⟨b', off', rfl, _, hc'⟩ := HY.out.at_ (k := k) (by simp; omega)
        rw [List.getElem_map] at hc hc'
        have hlt' : k < ys.length := by omega
        have HS : Hid (xs[k] = ys[k] → xs.take (k + 1) = ys.take (k + 1)) := fun e => by
          rw [List.take_succ_eq_append_getElem hlt, List.take_succ_eq_append_getElem hlt', H.out, e]
        have HN : Hid (xs[k] ≠ ys[k] → (xs == ys) = false) := fun e => by
          rw [beq_eq_false_iff_ne]; rintro rfl; exact e rfl
        generalize xs[k] = x at hc HS HN
        generalize ys[k] = y at hc' HS HN
        cases hxy : x != y
        · have HE2 : Hid (x = y) := Lib.hid (by simpa using hxy)
          go_wp2_with fail
          go_quiet (fail)
          go_wp2_with fail
          go_roundw
          case rel => exact ⟨k + 1, _, rfl, by omega, by go_num, Lib.hid (HS.out HE2.out)⟩
          case measure => simp [intOf]; omega
        · have HE2 : Hid (x ≠ y) := Lib.hid (by simpa using hxy)
          go_wp2_with fail
          go_quiet (fail)
          go_wp2_with fail
          go_ret
          exact ⟨ret_bool (HN.out HE2.out).symm, _, World.drewN_drewN _ _ _⟩
      · go_wp2_with fail
        go_ret
        refine ⟨ret_bool ?_, _, rfl⟩
        have h := H.out
        rw [List.take_of_length_le (by omega), List.take_of_length_le (by have := HE.out; omega)] at h
        rw [h]; simp
  · go_enter Tryd.func32, Tryd.ntmps32
    go_wp2_with fail
    go_ret
    refine ⟨ret_bool ?_, 0, rfl⟩
    symm
    rw [beq_eq_false_iff_ne]; rintro rfl; exact hlen rfl
end Go.Proofs.YtaaapjoopchgiaaDoor
