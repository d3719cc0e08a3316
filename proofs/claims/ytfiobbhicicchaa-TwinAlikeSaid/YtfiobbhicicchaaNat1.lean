/-
  What trim, limb, longer, Same and Cmp compute, for all limbs.
-/
import Derived.Test.YtfiobbhicicchaaWords
import Derived.Test.YtfiobbhicicchaaNatMath
import Derived.Deep.QuietTactic
import Derived.BigQuiet
namespace Go.Proofs.Ytfiobbhicicchaa
open Go.RowKit
set_option maxHeartbeats 400000
set_option linter.unusedVariables false

/-- Limbs as values. -/
def U (l : List Nat) : List Value := l.map fun n : Nat => Value.int .u32 (n : Int)
theorem U_get {l : List Nat} {i : Nat} (h : i < l.length) : (U l)[i]'(by simpa [U] using h) = .int .u32 ((l[i] : Nat) : Int) := by simp [U]
theorem U_len (l : List Nat) : (U l).length = l.length := by simp [U]
theorem Lies.limb {w : World} {B : Nat} {A : Option Addr} {l : List Nat} (h : Lies w B A (U l)) {k : Nat} (hk : k < l.length) :
    ∃ b off, A = some ⟨b, off, none⟩ ∧ b < B ∧ w.cell? ⟨b, off + k, none⟩ = some (.int .u32 ((l[k] : Nat) : Int)) := by
  obtain ⟨b, off, hA, hb, hc⟩ := h.at_ (k := k) (by rw [U_len]; exact hk)
  rw [U_get hk] at hc
  exact ⟨b, off, hA, hb, hc⟩

theorem limb_any (A : Option Addr) (c B : Nat) (l : List Nat) (i : Nat) (w : World) (hl : Lies w B A (U l)) (hc : l.length ≤ c) (hm : c ≤ 9223372036854775807) (hi : i ≤ 9223372036854775807) (ho : Nt.Ok l) :
    Calls Try.prog 66 #[.slice A l.length c, .int .i64 (i : Int)] w fun e w' => e = .returned (.int .u64 ((l.getD i 0 : Nat) : Int)) ∧ w = w' := by
  by_cases hlt : i < l.length
  · obtain ⟨b, off, rfl, _, hcell⟩ := hl.limb hlt
    have HG : Hid (l.getD i 0 = l[i]) := Lib.hid (by simp [List.getD_eq_getElem?_getD, hlt])
    have hb := Nt.ok_get ho hlt
    clear hl ho
    generalize l[i] = x at hcell HG hb
    go_enter Try.func66, Try.ntmps66
    go_wp2_with fail
    go_ret
    exact ⟨ret_int (by rw [HG.out]), rfl⟩
  · have HG : Hid (l.getD i 0 = 0) := Lib.hid (by rw [List.getD_eq_getElem?_getD, List.getElem?_eq_none (by omega)]; rfl)
    clear hl ho
    go_enter Try.func66, Try.ntmps66
    go_wp2_with fail
    go_ret
    exact ⟨ret_int (by rw [HG.out]; rfl), rfl⟩

theorem longer_any (A A' : Option Addr) (n n' c c' : Nat) (w : World) (hc : n ≤ 9223372036854775807) (hc' : n' ≤ 9223372036854775807) :
    Calls Try.prog 68 #[.slice A n c, .slice A' n' c'] w fun e w' => e = .returned (.int .i64 ((max n n' : Nat) : Int)) ∧ w = w' := by
  by_cases h : n' < n
  · have HG : Hid (max n n' = n) := Lib.hid (by omega)
    go_enter Try.func68, Try.ntmps68
    go_wp2_with fail
    go_ret
    exact ⟨ret_int (by rw [HG.out]), rfl⟩
  · have HG : Hid (max n n' = n') := Lib.hid (by omega)
    go_enter Try.func68, Try.ntmps68
    go_wp2_with fail
    go_ret
    exact ⟨ret_int (by rw [HG.out]), rfl⟩

theorem same_any (A A' : Option Addr) (c c' B B' : Nat) (xs ys : List Nat) (w : World) (hx : Lies w B A (U xs)) (hy : Lies w B' A' (U ys))
    (hn : xs.length ≤ 9223372036854775807) (hm : ys.length ≤ 9223372036854775807) :
    Calls Try.prog 52 #[.slice A xs.length c, .slice A' ys.length c'] w fun e w' => e = .returned (.bool (xs == ys)) ∧ ∃ n, w' = w.drewN n := by
  have HX := Lib.hid hx
  have HY := Lib.hid hy
  clear hx hy
  by_cases hlen : xs.length = ys.length
  · have hb : (((xs.length : Nat) : Int) != ((ys.length : Nat) : Int)) = false := by simp [hlen]
    have HE := Lib.hid hlen
    have hle : xs.length ≤ ys.length := by omega
    clear hlen
    go_enter Try.func52, Try.ntmps52
    go_wp2_with fail
    go_loopw [5] (fun i wr => ∃ k m : Nat, wr = w.drewN m ∧ k ≤ xs.length ∧ i = .int .i64 k ∧ Hid (xs.take k = ys.take k)) (fun i _ => xs.length - (intOf i).toNat)
    case atStart => exact ⟨0, 0, rfl, Nat.zero_le _, rfl, Lib.hid (by simp)⟩
    case round =>
      obtain ⟨k, m, rfl, hk, rfl, H⟩ := hrel
      by_cases hlt : k < xs.length
      · obtain ⟨b, off, rfl, _, hc⟩ := HX.out.limb hlt
        have hlt' : k < ys.length := by omega
        obtain ⟨b', off', rfl, _, hc'⟩ := HY.out.limb hlt'
        have HS : Hid (xs[k] = ys[k] → xs.take (k + 1) = ys.take (k + 1)) := fun e => by
          rw [List.take_succ_eq_append_getElem hlt, List.take_succ_eq_append_getElem hlt', H.out, e]
        have HN : Hid (xs[k] ≠ ys[k] → (xs == ys) = false) := fun e => by
          rw [beq_eq_false_iff_ne]; rintro rfl; exact e rfl
        generalize xs[k] = x at hc HS HN
        generalize ys[k] = y at hc' HS HN
        cases hxy : ((x : Int) != (y : Int))
        · have HE2 : Hid (x = y) := Lib.hid (by have h := bne_eq_false_iff_eq.1 hxy; omega)
          go_wp2_with fail
          go_quiet (fail)
          go_wp2_with fail
          go_roundw
          case rel => exact ⟨k + 1, _, rfl, by omega, by go_num, Lib.hid (HS.out HE2.out)⟩
          case measure => simp [intOf]; omega
        · have HE2 : Hid (x ≠ y) := Lib.hid (by have h := bne_iff_ne.1 hxy; omega)
          go_wp2_with fail
          go_quiet (fail)
          go_wp2_with fail
          go_ret
          exact ⟨ret_bool (HN.out HE2.out).symm, _, World.drewN_drewN _ _ _⟩
      · go_wp2_with fail
        go_ret
        refine ⟨ret_bool ?_, _, rfl⟩
        have h := H.out
        rw [List.take_of_length_le (by omega), List.take_of_length_le (by have := HE.out; omega)] at h
        rw [h]; simp
  · go_enter Try.func52, Try.ntmps52
    go_wp2_with fail
    go_ret
    refine ⟨ret_bool ?_, 0, rfl⟩
    symm
    rw [beq_eq_false_iff_ne]; rintro rfl; exact hlen rfl
end Go.Proofs.Ytfiobbhicicchaa
