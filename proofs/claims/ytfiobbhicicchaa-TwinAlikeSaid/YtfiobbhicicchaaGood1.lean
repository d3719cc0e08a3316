/-
  The reference's Count of a shape, May of a character; zero, Simple.
-/
import Derived.Test.YtfiobbhicicchaaArrRight
import Derived.Test.YtfiobbhicicchaaSame2
import Derived.Test.YtfiobbhicicchaaArrFew
import Derived.IntWalk
namespace Go.Proofs.Ytfiobbhicicchaa
open Go.RowKit Ar
set_option maxHeartbeats 2000000
set_option linter.unusedVariables false

theorem refCount_any (l : List Int) (A : Option Addr) (c : Nat) (w : World) (B : Nat) (hA : Lies w B A (I64 l)) (hn : l.length ≤ 9223372036854775807) :
    Calls Try.prog 40 #[.slice A l.length c] w fun e w' => e = .returned (.tuple #[.int .i64 (cnt l).1, .int .i64 (cnt l).2]) ∧ Below w.heap.size w w' := by
  have HA := Lib.hid hA
  have HC : Hid (cnt l = _) := Lib.hid (cnt.eq_1 l)
  clear hA
  by_cases h6 : 6 < l.length
  · rw [if_pos h6] at HC
    generalize cnt l = R at *
    go_enter Try.func40, Try.ntmps40
    go_wp2_with fail
    go_ret2
    exact ⟨by rw [HC.out]; rfl, Below.refl _ _⟩
  · rw [if_neg h6] at HC
    generalize cnt l = R at *
    have hn6 : l.length ≤ 6 := by omega
    clear h6 hn
    go_enter Try.func40, Try.ntmps40
    go_wp2_with fail
    go_loop [4, 5, 6] (fun b z i => ∃ k : Nat, k ≤ l.length ∧ i = .int .i64 k ∧ b = .bool ((l.take k).any fun x => decide (2048 < x)) ∧ z = .bool ((l.take k).any fun x => x == 0) ∧ Hid ((l.take k).any (fun x => decide (x < 0)) = false)) (fun _ _ i => l.length - (intOf i).toNat)
    case atStart => exact ⟨0, Nat.zero_le _, rfl, rfl, rfl, Lib.hid rfl⟩
    case round =>
      obtain ⟨k, hk, rfl, rfl, rfl, HT⟩ := hrel
      by_cases hlt : k < l.length
      · obtain ⟨b, off, rfl, hb, g0⟩ := lies_i64 HA.out hlt
        have E1 := Lib.hid (any_take_succ (p := fun x => decide (2048 < x)) hlt)
        have E2 := Lib.hid (any_take_succ (p := fun x => x == 0) hlt)
        have E3 := Lib.hid (any_take_succ (p := fun x => decide (x < 0)) hlt)
        have E4 := Lib.hid (any_at (p := fun x => decide (x < 0)) hlt)
        generalize l[k] = x at *
        generalize ((l.take k).any fun x => decide (2048 < x)) = y1 at *
        generalize ((l.take k).any fun x => x == 0) = y2 at *
        have hk0 : (0 : Int) ≤ (k : Int) := by omega
        have hk1 : (k : Int) < (l.length : Int) := by omega
        by_cases hx : x < 0
        · have E5 := Lib.hid (E4.out (decide_eq_true hx))
          go_wp2_with fail
          go_ret2
          exact ⟨by rw [HC.out, if_pos E5.out]; rfl, Below.refl _ _⟩
        · have E5 : Hid ((l.take (k + 1)).any (fun x => decide (x < 0)) = false) := Lib.hid (by rw [E3.out, HT.out, decide_eq_false hx]; rfl)
          have q1 : decide (x < 0) = false := decide_eq_false hx
          have q1' : 0 ≤ x := by omega
          clear HT E3 E4 hx
          rcases Bool.eq_false_or_eq_true (decide (2048 < x)) with q2 | q2
          all_goals
            rcases Bool.eq_false_or_eq_true (x == 0) with q3 | q3
          all_goals
            rw [q2] at E1
            rw [q3] at E2
            cases y1
          all_goals
            cases y2
          all_goals
            go_wp2_with fail
            go_round
            case rel => exact ⟨k + 1, by omega, by go_num, by rw [E1.out]; rfl, by rw [E2.out]; rfl, E5⟩
            case measure => simp [intOf]; omega
      · have hke : l.take k = l := List.take_of_length_le (by omega)
        rw [hke] at HT
        have HC2 : Hid (R = _) := Lib.hid (HC.out.trans (if_neg (by rw [HT.out]; decide)))
        have HNA := Lib.hid (fun (j : Nat) (hj : j < l.length) => not_any_at HT.out hj)
        rw [hke]
        clear HT HC hke
        obtain ⟨y1, hy1⟩ : ∃ y, y = l.any fun x => decide (2048 < x) := ⟨_, rfl⟩
        obtain ⟨y2, hy2⟩ : ∃ y, y = l.any fun x => x == 0 := ⟨_, rfl⟩
        rw [← hy1, ← hy2] at HC2 ⊢
        have HY1 := Lib.hid hy1.symm
        have HY2 := Lib.hid hy2.symm
        clear hy1 hy2
        cases y1
        · cases y2
          · have HX : Hid (∀ (j : Nat) (hj : j < l.length), 1 ≤ l[j] ∧ l[j] ≤ 2048) := Lib.hid (fun j hj => by
              have a1 := HNA.out j hj
              have a2 := not_any_at HY1.out hj
              have a3 := not_any_at HY2.out hj
              simp at a1 a2 a3
              omega)
            have HC3 : Hid (R = _) := Lib.hid (HC2.out.trans ((if_neg (by decide)).trans (if_neg (by decide))))
            clear HC2 HNA HY1 HY2
            go_wp2_with fail
            go_loop [7, 8] (fun m i => ∃ (k : Nat) (n : Int), k ≤ l.length ∧ i = .int .i64 k ∧ m = .int .i64 n ∧ 1 ≤ n ∧ n ≤ 2048 ∧ Hid (prodN n (l.drop k) = prodN 1 l)) (fun _ i => l.length - (intOf i).toNat)
            case atStart => exact ⟨0, 1, Nat.zero_le _, rfl, rfl, by omega, by omega, Lib.hid rfl⟩
            case round =>
              obtain ⟨k, n, hk, rfl, rfl, hn1, hn2, HT⟩ := hrel
              by_cases hlt : k < l.length
              · obtain ⟨b, off, rfl, hb, g0⟩ := lies_i64 HA.out hlt
                have HT2 : Hid (prodN 1 l = _) := Lib.hid (HT.out.symm.trans (prodN_drop hlt))
                have hx := HX.out k hlt
                generalize l[k] = x at *
                have hk0 : (0 : Int) ≤ (k : Int) := by omega
                have hk1 : (k : Int) < (l.length : Int) := by omega
                have hp1 : 1 * 1 ≤ n * x := Int.mul_le_mul hn1 hx.1 (by omega) (by omega)
                have hp2 : n * x ≤ 2048 * 2048 := Int.mul_le_mul hn2 hx.2 (by omega) (by omega)
                have hp3 : 1 ≤ n * x := by omega
                have hp4 : n * x ≤ 4194304 := by omega
                clear hp1 hp2
                obtain ⟨p, hp⟩ : ∃ p, p = n * x := ⟨_, rfl⟩
                rw [← hp] at HT2 hp3 hp4
                have HP : Hid (p = n * x) := Lib.hid hp
                have hw : IntKind.i64.wrap (n * x) = p := by rw [← hp]; exact IntWalk.i64_in _ (by omega)
                clear hp
                by_cases hb : 2048 < p
                · go_wp2_with fail
                  go_ret2
                  exact ⟨by rw [HC3.out, HT2.out, if_pos hb]; rfl, Below.refl _ _⟩
                · go_wp2_with fail
                  go_round
                  case rel => exact ⟨k + 1, p, by omega, by go_num, rfl, hp3, by omega, Lib.hid (by rw [HT2.out, if_neg hb])⟩
                  case measure => simp [intOf]; omega
              · have HE : Hid (prodN 1 l = some n) := Lib.hid (HT.out.symm.trans (prodN_end (by omega)))
                go_wp2_with fail
                go_ret2
                exact ⟨by rw [HC3.out, HE.out]; rfl, Below.refl _ _⟩
          · have HC3 : Hid (R = _) := Lib.hid (HC2.out.trans ((if_neg (by decide)).trans (if_pos rfl)))
            go_wp2_with fail
            go_ret2
            exact ⟨by rw [HC3.out]; rfl, Below.refl _ _⟩
        · have HC3 : Hid (R = _) := Lib.hid (HC2.out.trans (if_pos rfl))
          go_wp2_with fail
          go_ret2
          exact ⟨by rw [HC3.out]; rfl, Below.refl _ _⟩

theorem refMay6_any (c : Int) (w : World) (h1 : -9223372036854775808 ≤ c) (h2 : c ≤ 9223372036854775807) :
    Calls Try.prog 50 #[.int .i64 c] w fun e w' => e = .returned (.bool (mayB c)) ∧ w = w' := by
  have HC : Hid (mayB c = _) := Lib.hid (mayB.eq_1 c)
  generalize mayB c = R at *
  by_cases a : 0 ≤ c
  · by_cases b : c ≤ 1114111
    · by_cases d : c < 55296
      · go_enter Try.func50, Try.ntmps50
        go_wp2_with fail
        go_ret
        exact ⟨ret_bool (by rw [HC.out]; simp [a, b, d]), rfl⟩
      · by_cases e : 57343 < c
        · go_enter Try.func50, Try.ntmps50
          go_wp2_with fail
          go_ret
          exact ⟨ret_bool (by rw [HC.out]; simp [a, b, d, e]), rfl⟩
        · go_enter Try.func50, Try.ntmps50
          go_wp2_with fail
          go_ret
          exact ⟨ret_bool (by rw [HC.out]; simp [a, b, d, e]), rfl⟩
    · go_enter Try.func50, Try.ntmps50
      go_wp2_with fail
      go_ret
      exact ⟨ret_bool (by rw [HC.out, show decide (c ≤ 1114111) = false from decide_eq_false (by omega)]; simp), rfl⟩
  · go_enter Try.func50, Try.ntmps50
    go_wp2_with fail
    go_ret
    exact ⟨ret_bool (by rw [HC.out, show decide (0 ≤ c) = false from decide_eq_false (by omega)]; simp), rfl⟩
end Go.Proofs.Ytfiobbhicicchaa
