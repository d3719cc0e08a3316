/-
  What scrimref02.Sub, Bit and twice compute.
-/
import Derived.Test.YtfiobbhicicchaaNat6
namespace Go.Proofs.Ytfiobbhicicchaa
open Go.RowKit
set_option maxHeartbeats 1000000
set_option linter.unusedVariables false

theorem refSub_any (A A' : Option Addr) (c c' B : Nat) (a b : List Nat) (w : World) (hx : Lies w B A (U a)) (hy : Lies w B A' (U b)) (hB : B ≤ w.heap.size) (ha : Nt.Ok a) (hb : Nt.Ok b)
    (hc : a.length ≤ c) (hc' : b.length ≤ c') (hm : c ≤ 9223372036854775807) (hm' : c' ≤ 9223372036854775807) (hs : a.length ≤ 8796093022208) (hs' : b.length ≤ 8796093022208) :
    Calls Try.prog 65 #[.slice A a.length c, .slice A' b.length c'] w fun e w' => ∃ v, e = .returned (.tuple #[v, .bool (decide (Nt.val b ≤ Nt.val a))]) ∧ IsRes w' v (Nt.digs (Nt.val a - Nt.val b)) ∧ Below w.heap.size w w' := by
  obtain ⟨i0, hi, hz0, hz1, hz2⟩ := info_parts u32_info
  obtain ⟨n, hn⟩ : ∃ n, n = max a.length b.length := ⟨_, rfl⟩
  have hna : a.length ≤ n := by omega
  have hnb : b.length ≤ n := by omega
  have hnm : n ≤ 8796093022208 := by omega
  have HN := Lib.hid hn
  have CM := Lib.hid (refCmp_any A A' c c' B a b w hx hy ha hb hc hc' hm hm')
  have LA := Lib.hid (fun (i : Nat) (wr : World) (hi : i ≤ 9223372036854775807) (h : Below w.heap.size w wr) => limb_any A c B a i wr (hx.below (h.mono hB)) hc hm hi ha)
  have LB := Lib.hid (fun (i : Nat) (wr : World) (hi : i ≤ 9223372036854775807) (h : Below w.heap.size w wr) => limb_any A' c' B b i wr (hy.below (h.mono hB)) hc' hm' hi hb)
  have GA := Lib.hid (fun k => Nt.getD_lt ha k)
  have GB := Lib.hid (fun k => Nt.getD_lt hb k)
  clear hx hy ha hb hn
  by_cases hlt : Nt.val a < Nt.val b
  · have HE : Hid (Nt.cmp (Nt.val a) (Nt.val b) = -1) := Lib.hid (Nt.cmp_lt hlt)
    have HD : Hid (decide (Nt.val b ≤ Nt.val a) = false) := Lib.hid (by simp; omega)
    have HZ : Hid (Nt.digs (Nt.val a - Nt.val b) = []) := Lib.hid (by rw [show Nt.val a - Nt.val b = 0 by omega, Nt.digs_zero])
    go_enter Try.func65, Try.ntmps65
    go_wp2_with fail
    refine CM.out.mono ?_
    rintro e w' ⟨rfl, rfl⟩
    rw [HE.out]
    go_wp2_with fail
    go_ret2
    exact ⟨_, by rw [HD.out]; rfl, by rw [HZ.out]; exact IsRes.none_ _, Below.refl _ _⟩
  · have hle : Nt.val b ≤ Nt.val a := by omega
    have HD : Hid (decide (Nt.val b ≤ Nt.val a) = true) := Lib.hid (by simp; omega)
    have hcmp : decide (Nt.cmp (Nt.val a) (Nt.val b) < 0) = false := by rw [decide_eq_false_iff_not, Nt.cmp_neg]; omega
    have EN := Lib.hid (fun cur c h => Nt.subUp_end (cur := cur) (n := n) (c := c) hna hnb hle h)
    generalize Nt.cmp (Nt.val a) (Nt.val b) = cm at *
    generalize Nt.val a = x0 at *
    generalize Nt.val b = y0 at *
    go_enter Try.func65, Try.ntmps65
    go_wp2_with fail
    refine CM.out.mono ?_
    rintro e w' ⟨rfl, rfl⟩
    go_wp2_with fail
    go_loopw [6, 7, 8] (fun v cv i wr => ∃ (k cy : Nat) (cur : List Nat), k ≤ n ∧ cy ≤ 1 ∧ i = .int .i64 (k : Int) ∧ cv = .int .u64 (cy : Int) ∧ wr.ownsRow w.heap.size 74 1 v k (U cur) ∧ Below w.heap.size w wr ∧ Hid (Nt.SubUp a b cur k cy)) (fun _ _ i _ => n - (intOf i).toNat)
    case atStart => exact ⟨0, 0, [], by omega, by omega, rfl, rfl, World.ownsRow_nil _ _ _ _, Below.refl _ _, Lib.hid (Nt.subUp_start a b)⟩
    case round =>
      obtain ⟨k, cy, cur, hk, hcy, rfl, rfl, hown, hbel, H⟩ := hrel
      have hsz := hbel.size
      by_cases hlt : k < n
      · have CA := Lib.hid (LA.out k wr (by omega) hbel)
        have CB := Lib.hid (LB.out k wr (by omega) hbel)
        have ST := Lib.hid (fun s d hs e => Nt.subUp_step (s := s) (d := d) H.out hs e)
        have hga := GA.out k
        have hgb := GB.out k
        generalize a.getD k 0 = x at CA ST hga
        generalize b.getD k 0 = y at CB ST hgb
        go_wp2_with fail
        refine (longer_any A A' a.length b.length c c' _ (by omega) (by omega)).mono ?_
        rintro e w' ⟨rfl, rfl⟩
        rw [← HN.out]
        go_wp2_with fail
        refine CA.out.mono ?_
        rintro e w' ⟨rfl, rfl⟩
        go_wp2_with fail
        refine CB.out.mono ?_
        rintro e w' ⟨rfl, rfl⟩
        go_wp2_with (at_builtin; refine wpList_append_own _ rfl _ _ 56 rfl w.heap.size 74 i0 (.int .u32 0) 1 4 Try.underlying56 hi hz0 hz1 hz2 rfl (by decide) _ _ _ rfl (hown.alloc _) ⟨_, 0, none⟩ 1 1 [.int .u32 ((4294967296 + (x : Int) - (y : Int) - (cy : Int)) % 4294967296)] rfl rfl (cell_one_new _ _ _) (by intro u hu; simp only [List.mem_singleton] at hu; subst hu; rfl) (by unfold maxLen; omega) (by omega) (by simp; omega) ?_; intro v3 w3 hown3 hgrow3 hnn3)
        have hb3 : Below w.heap.size w w3 := (hbel.alloc hsz _).grown hgrow3 (by simp; omega) (fun k hk => (hown.lt k hk).1)
        go_roundw
        case rel =>
          refine ⟨k + 1, 1 - (4294967296 + x - y - cy) / 4294967296, cur ++ [(4294967296 + x - y - cy) % 4294967296], by omega, by omega, by go_num, congrArg (Value.int .u64) (by omega), ?_, hb3, Lib.hid (ST.out _ _ (by omega) (by omega))⟩
          have e : U (cur ++ [(4294967296 + x - y - cy) % 4294967296]) = U cur ++ [.int .u32 ((4294967296 + (x : Int) - (y : Int) - (cy : Int)) % 4294967296)] := by
            unfold U; rw [List.map_append]; congr 2
            simp only [List.map_cons, List.map_nil]
            congr 2
            omega
          rw [e]; exact hown3
        case measure => simp [intOf]; omega
      · obtain rfl : k = n := by omega
        have HV := Lib.hid (EN.out cur cy H.out)
        have HL := H.out.1
        have hO := H.out.2.1
        have hnorm := own_norm (w0 := w) (v := u6) (ds := cur) (by rw [HL]; exact hown) hO (by rw [HL]; omega) hbel
        rw [HV.out] at hnorm
        have HNM := Lib.hid hnorm
        clear hnorm HL hO
        go_wp2_with fail
        refine (longer_any A A' a.length b.length c c' _ (by omega) (by omega)).mono ?_
        rintro e w' ⟨rfl, rfl⟩
        rw [← HN.out]
        go_wp2_with fail
        refine HNM.out.mono ?_
        rintro e w' ⟨v', rfl, hr, hb'⟩
        go_wp2_with fail
        go_ret2
        exact ⟨_, by rw [HD.out]; rfl, hr, hb'⟩

theorem refBit_any (A : Option Addr) (c B : Nat) (a : List Nat) (i : Nat) (w : World) (hx : Lies w B A (U a)) (ha : Nt.Ok a) (hc : a.length ≤ c) (hm : c ≤ 9223372036854775807) (hi : i ≤ 9223372036854775807) :
    Calls Try.prog 64 #[.slice A a.length c, .int .i64 (i : Int)] w fun e w' => ∃ b : Nat, e = .returned (.int .u32 (b : Int)) ∧ b ≤ 1 ∧ Hid (b = Nt.val a / 2 ^ i % 2) ∧ w = w' := by
  have CA := Lib.hid (limb_any A c B a (i / 32) w hx hc hm (by omega) ha)
  have HB := Lib.hid (Nt.bit_limb ha i)
  have hg := Nt.getD_lt ha (i / 32)
  clear hx ha
  generalize a.getD (i / 32) 0 = x at CA HB hg
  go_enter Try.func64, Try.ntmps64
  go_wp2_with fail
  refine CA.out.mono ?_
  rintro e w' ⟨rfl, rfl⟩
  go_wp2_with fail
  go_loop [5, 6] (fun v j => ∃ k n : Nat, k ≤ i % 32 ∧ n < 4294967296 ∧ j = .int .i64 (k : Int) ∧ v = .int .u64 (n : Int) ∧ Hid (n = x / 2 ^ k)) (fun _ j => i % 32 - (intOf j).toNat)
  case atStart => exact ⟨0, x, Nat.zero_le _, hg, rfl, rfl, Lib.hid (by simp)⟩
  case round =>
    obtain ⟨k, n, hk, hn, rfl, rfl, H⟩ := hrel
    by_cases hlt : k < i % 32
    · go_wp2_with fail
      go_round
      case rel => exact ⟨k + 1, n / 2, by omega, by omega, by go_num, by go_num, Lib.hid (by rw [H.out, Nat.pow_succ, ← Nat.div_div_eq_div_mul])⟩
      case measure => simp [intOf]; omega
    · obtain rfl : k = i % 32 := by omega
      go_wp2_with fail
      go_ret
      exact ⟨n % 2, ret_int (by omega), by omega, Lib.hid (by rw [← HB.out, ← H.out]), rfl⟩

theorem twice_any (A : Option Addr) (c B : Nat) (a : List Nat) (bit : Nat) (w : World) (hx : Lies w B A (U a)) (hB : B ≤ w.heap.size) (ha : Nt.Ok a) (hc : a.length ≤ c) (hm : c ≤ 9223372036854775807) (hs : a.length ≤ 8796093022208) (hbit : bit ≤ 1) :
    Calls Try.prog 63 #[.slice A a.length c, .int .u32 (bit : Int)] w fun e w' => ∃ v, e = .returned v ∧ IsRes w' v (Nt.digs (2 * Nt.val a + bit)) ∧ Below w.heap.size w w' := by
  obtain ⟨i0, hi, hz0, hz1, hz2⟩ := info_parts u32_info
  have LA := Lib.hid (fun (i : Nat) (wr : World) (hi : i ≤ 9223372036854775807) (h : Below w.heap.size w wr) => limb_any A c B a i wr (hx.below (h.mono hB)) hc hm hi ha)
  have GA := Lib.hid (fun k => Nt.getD_lt ha k)
  have EN := Lib.hid (fun cur c h => Nt.twiceUp_end (cur := cur) (bit := bit) (c := c) ha hbit h)
  clear hx ha
  go_enter Try.func63, Try.ntmps63
  go_wp2_with fail
  go_loopw [5, 6, 7] (fun v cv i wr => ∃ (k cy : Nat) (cur : List Nat), k ≤ a.length + 1 ∧ cy ≤ 1 ∧ i = .int .i64 (k : Int) ∧ cv = .int .u64 (cy : Int) ∧ wr.ownsRow w.heap.size 74 1 v k (U cur) ∧ Below w.heap.size w wr ∧ Hid (Nt.TwiceUp a bit cur k cy)) (fun _ _ i _ => a.length + 1 - (intOf i).toNat)
  case atStart => exact ⟨0, bit, [], by omega, hbit, rfl, rfl, World.ownsRow_nil _ _ _ _, Below.refl _ _, Lib.hid (Nt.twiceUp_start a bit)⟩
  case round =>
    obtain ⟨k, cy, cur, hk, hcy, rfl, rfl, hown, hbel, H⟩ := hrel
    have hsz := hbel.size
    by_cases hlt : k ≤ a.length
    · have CA := Lib.hid (LA.out k wr (by omega) hbel)
      have ST := Lib.hid (Nt.twiceUp_step H.out)
      have hga := GA.out k
      generalize a.getD k 0 = x at CA ST hga
      go_wp2_with fail
      refine CA.out.mono ?_
      rintro e w' ⟨rfl, rfl⟩
      go_wp2_with (at_builtin; refine wpList_append_own _ rfl _ _ 56 rfl w.heap.size 74 i0 (.int .u32 0) 1 4 Try.underlying56 hi hz0 hz1 hz2 rfl (by decide) _ _ _ rfl (hown.alloc _) ⟨_, 0, none⟩ 1 1 [.int .u32 ((2 * (x : Int) + (cy : Int)) % 4294967296)] rfl rfl (cell_one_new _ _ _) (by intro u hu; simp only [List.mem_singleton] at hu; subst hu; rfl) (by unfold maxLen; omega) (by omega) (by simp; omega) ?_; intro v3 w3 hown3 hgrow3 hnn3)
      have hb3 : Below w.heap.size w w3 := (hbel.alloc hsz _).grown hgrow3 (by simp; omega) (fun k hk => (hown.lt k hk).1)
      go_roundw
      case rel =>
        refine ⟨k + 1, (2 * x + cy) / 4294967296, cur ++ [(2 * x + cy) % 4294967296], by omega, by omega, by go_num, congrArg (Value.int .u64) (by omega), ?_, hb3, Lib.hid ST.out⟩
        have e : U (cur ++ [(2 * x + cy) % 4294967296]) = U cur ++ [.int .u32 ((2 * (x : Int) + (cy : Int)) % 4294967296)] := by
          unfold U; rw [List.map_append]; congr 2
        rw [e]; exact hown3
      case measure => simp [intOf]; omega
    · obtain rfl : k = a.length + 1 := by omega
      have HV := Lib.hid (EN.out cur cy H.out)
      have HL := H.out.1
      have hO := H.out.2.1
      have hnorm := own_norm (w0 := w) (v := u5) (ds := cur) (by rw [HL]; exact hown) hO (by rw [HL]; omega) hbel
      rw [HV.out] at hnorm
      have HNM := Lib.hid hnorm
      clear hnorm HL hO
      go_wp2_with fail
      refine HNM.out.mono ?_
      rintro e w' ⟨v', rfl, hr, hb'⟩
      go_wp2_with fail
      go_ret
      exact ⟨_, rfl, hr, hb'⟩
end Go.Proofs.Ytfiobbhicicchaa
