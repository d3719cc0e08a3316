/-
  fault.Is of a chain; scrimlaw18.made.
-/
import Derived.Test.YtaaapjoopchgiaaDoorFltMade
import Derived.Deep.RegionWith
import Derived.RegionTactic
namespace Go.Proofs.YtaaapjoopchgiaaDoor
open Go.RowKit
set_option maxHeartbeats 1000000
set_option linter.unusedVariables false

theorem refRaise_any (c : Int) (l : Nat) (A : Option Addr) (cp : Nat) (ls : List Nat) (w : World) (hl : Lies w w.heap.size A (L64 ls)) (hc : c = 0 ↔ ls = []) (hs : ls.length ≤ 1000) :
    Calls Tryd.prog 42 #[.agg #[.int .i64 c, .slice A ls.length cp], .int .u64 (l : Int)] w fun e w' => ∃ A' cp' ls', e = .returned (.agg #[.int .i64 c, .slice A' ls'.length cp']) ∧ Lies w' w'.heap.size A' (L64 ls') ∧ Hid ((ls = [] → ls' = []) ∧ (ls ≠ [] → ls' = ls ++ [l])) ∧ Below w.heap.size w w' := by
  by_cases h0 : c = 0
  · subst h0
    have hn : ls = [] := hc.1 rfl
    refine (refRaise_zero l A ls.length cp w).mono ?_
    rintro e w' ⟨rfl, hb⟩
    exact ⟨none, 0, [], rfl, .inl rfl, Lib.hid ⟨fun _ => rfl, fun h => absurd hn h⟩, hb⟩
  · have hn : ls ≠ [] := fun h => h0 (hc.2 h)
    refine (refRaise_some c l A cp w.heap.size ls w (by simpa using h0) hl (Nat.le_refl _) (List.length_pos_iff.2 hn) hs).mono ?_
    rintro e w' ⟨A', cp', rfl, hl', hb⟩
    exact ⟨A', cp', ls ++ [l], by simp, hl', Lib.hid ⟨fun h => absurd h hn, fun _ => rfl⟩, hb⟩
theorem refNew_any (c : Int) (l : Nat) (w : World) : Calls Tryd.prog 41 #[.int .i64 c, .int .u64 (l : Int)] w fun e w' => ∃ A cp ls, e = .returned (.agg #[.int .i64 c, .slice A ls.length cp]) ∧ Lies w' w'.heap.size A (L64 ls) ∧ Hid ((c = 0 → ls = []) ∧ (c ≠ 0 → ls = [l])) ∧ Below w.heap.size w w' := by
  by_cases h0 : c = 0
  · subst h0
    refine (refNew_zero l w).mono ?_
    rintro e w' ⟨rfl, hb⟩
    exact ⟨none, 0, [], rfl, .inl rfl, Lib.hid ⟨fun _ => rfl, fun h => absurd rfl h⟩, hb⟩
  · refine (refNew_some c l w (by simpa using h0)).mono ?_
    rintro e w' ⟨A, cp, rfl, hl, _, hb⟩
    exact ⟨A, cp, [l], rfl, hl, Lib.hid ⟨fun h => absurd h h0, fun _ => rfl⟩, hb⟩
theorem new_any (c : Int) (l : Nat) (w : World) : Calls Tryd.prog 40 #[.int .i64 c, .int .u64 (l : Int)] w fun e w' => ∃ v fs, e = .returned v ∧ Chain w' c v fs ∧ Hid ((c = 0 → fs = []) ∧ (c ≠ 0 → ∃ g, fs = [(g, l)])) ∧ Below w.heap.size w w' := by
  by_cases h0 : c = 0
  · subst h0
    refine (new_nil l w).mono ?_
    rintro e w' ⟨rfl, rfl⟩
    exact ⟨_, [], rfl, rfl, Lib.hid ⟨fun _ => rfl, fun h => absurd rfl h⟩, Below.refl _ _⟩
  · refine (new_some c l w (by simpa using h0)).mono ?_
    rintro e w' ⟨rfl, rfl⟩
    exact ⟨_, [(w.heap.size, l)], rfl, ⟨rfl, .nilIface, Blk.new w _ _, rfl, (fun x hx => by cases hx)⟩, Lib.hid ⟨fun h => absurd h h0, fun _ => ⟨_, rfl⟩⟩, (Below.refl _ _).alloc (Nat.le_refl _) _⟩

def isB (fs : List (Nat × Nat)) (c other : Int) : Bool := decide (fs ≠ []) && (c == other)
def Differs (c other : Int) : Prop := (c == other) = false
theorem faultIs_any (c other : Int) (e : Value) (fs : List (Nat × Nat)) (w : World) (h : Chain w c e fs) (hs : fs.length ≤ 1000) :
    Calls Tryd.prog 21 #[e, .int .i64 other] w fun ev w' => ev = .returned (.bool (isB fs c other)) ∧ Below w.heap.size w w' := by
  have HC := Lib.hid (chain_any c e fs w h hs)
  have HG := Lib.hid (fun (wx : World) (hx : Below w.heap.size w wx) => (h.below hx).get)
  clear h
  go_enter Tryd.func21, Tryd.ntmps21
  go_wp2_with fail
  refine HC.out.mono ?_
  rintro ev w1 ⟨A, cp, rfl, hli, hb⟩
  have HLI := Lib.hid hli
  clear hli HC
  go_wp2_with fail
  go_loop [16] (fun iv => ∃ k : Nat, k ≤ fs.length ∧ iv = .int .i64 (k : Int) ∧ Hid (0 < k → Differs c other)) (fun iv => fs.length - (intOf iv).toNat)
  case atStart => exact ⟨0, Nat.zero_le _, rfl, Lib.hid (fun h => by omega)⟩
  case round =>
    obtain ⟨k, hk, rfl, HN⟩ := hrel
    by_cases hlt : k < fs.length
    · obtain ⟨b, off, rfl, _, hcell⟩ := HLI.out.at_ (k := k) (by simpa using hlt)
      rw [List.getElem_map, ptrV] at hcell
      obtain ⟨hcls, _⟩ := HG.out w1 hb k hlt
      generalize fs[k].1 = fb at *
      have HNE : Hid (decide (fs ≠ []) = true) := Lib.hid (by simp; intro h; subst h; simp at hlt)
      cases hq : c == other
      · have HQ := Lib.hid hq
        go_wp2_with fail
        go_round
        case rel => exact ⟨k + 1, by omega, by go_num, Lib.hid (fun _ => HQ.out)⟩
        case measure => simp [intOf]; omega
      · have HQ := Lib.hid hq
        go_wp2_with fail
        go_ret
        exact ⟨ret_bool (by unfold isB; rw [HNE.out, HQ.out]; rfl), hb⟩
    · have HE : Hid (isB fs c other = false) := Lib.hid (by
        unfold isB
        rcases Nat.eq_zero_or_pos k with h0 | h0
        · have : fs = [] := List.eq_nil_of_length_eq_zero (by omega)
          subst this; rfl
        · rw [show (c == other) = false from HN.out h0, Bool.and_false])
      go_wp2_with fail
      refine (errIs_nil other w1).mono ?_
      rintro ev w' ⟨rfl, rfl⟩
      go_wp2_with fail
      go_ret
      exact ⟨ret_bool HE.out.symm, hb⟩
end Go.Proofs.YtaaapjoopchgiaaDoor
