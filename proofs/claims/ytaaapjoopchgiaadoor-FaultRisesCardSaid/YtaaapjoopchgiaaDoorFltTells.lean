/-
  What fault.Label, Long, Caught and Is, and scrimref18's Label and Caught compute.
-/
import Derived.Test.YtaaapjoopchgiaaDoorFltRef
import Derived.Deep.QuietTactic
import Derived.BigQuiet
namespace Go.Proofs.YtaaapjoopchgiaaDoor
open Go.RowKit
set_option maxHeartbeats 1000000
set_option linter.unusedVariables false

/-- The join of labels. -/
def jn (ls : List Nat) : Nat := ls.foldl Lab.join 0
theorem jn_snoc (ls : List Nat) (l : Nat) : jn (ls ++ [l]) = Lab.join (jn ls) l := by simp [jn, List.foldl_append]
theorem jn_bit (ls : List Nat) (i : Nat) : (jn ls).testBit i = ls.any fun l => l.testBit i := by
  have : ∀ (ls : List Nat) (a : Nat), (ls.foldl Lab.join a).testBit i = (a.testBit i || ls.any fun l => l.testBit i) := by
    intro ls
    induction ls with
    | nil => intro a; simp
    | cons l r ih => intro a; rw [List.foldl_cons, ih, List.any_cons, Lab.join, Nat.testBit_or, Bool.or_assoc]
  rw [jn, this]
  simp
theorem jn_reverse (ls : List Nat) : jn ls.reverse = jn ls := Nat.eq_of_testBit_eq fun i => by rw [jn_bit, jn_bit, List.any_reverse]
theorem jn_lt {ls : List Nat} (h : ∀ l ∈ ls, l < 18446744073709551616) : jn ls < 18446744073709551616 := by
  have : ∀ (ls : List Nat) (a : Nat), a < 18446744073709551616 → (∀ l ∈ ls, l < 18446744073709551616) → ls.foldl Lab.join a < 18446744073709551616 := by
    intro ls
    induction ls with
    | nil => intro a ha _; exact ha
    | cons l r ih => intro a ha h; exact ih _ (Lab.join_lt ha (h l List.mem_cons_self)) (fun x hx => h x (List.mem_cons_of_mem _ hx))
  exact this ls 0 (by omega) h

theorem Chain.get {w : World} {c : Int} : ∀ {fs : List (Nat × Nat)} {e : Value}, Chain w c e fs → ∀ (k : Nat) (hk : k < fs.length), w.cell? ⟨fs[k].1, 0, none⟩ = some (.int .i64 c) ∧ w.cell? ⟨fs[k].1, 1, none⟩ = some (.int .u64 (fs[k].2 : Int))
  | [], _, _, k, hk => by simp at hk
  | (b, l) :: r, e, ⟨_, o, hb, hr, _⟩, 0, hk => ⟨hb.cell rfl, hb.cell rfl⟩
  | (b, l) :: r, e, ⟨_, o, hb, hr, _⟩, k + 1, hk => by
    simp only [List.getElem_cons_succ]
    exact Chain.get hr k (by simpa using hk)

theorem faultLong_any (c : Int) (e : Value) (fs : List (Nat × Nat)) (w : World) (h : Chain w c e fs) (hs : fs.length ≤ 1000) :
    Calls Tryd.prog 15 #[e] w fun ev w' => ev = .returned (.int .i64 (fs.length : Int)) ∧ Below w.heap.size w w' := by
  have HC := Lib.hid (chain_any c e fs w h hs)
  clear h
  go_enter Tryd.func15, Tryd.ntmps15
  go_wp2_with fail
  refine HC.out.mono ?_
  rintro ev w1 ⟨A, cp, rfl, hl, hb⟩
  go_wp2_with fail
  go_ret
  exact ⟨rfl, hb⟩
theorem faultLabel_any (c : Int) (e : Value) (fs : List (Nat × Nat)) (w : World) (h : Chain w c e fs) (hs : fs.length ≤ 1000) (hl : ∀ x ∈ fs, x.2 < 18446744073709551616) :
    Calls Tryd.prog 13 #[e] w fun ev w' => ev = .returned (.int .u64 ((jn (fs.map Prod.snd) : Nat) : Int)) ∧ Below w.heap.size w w' := by
  have HC := Lib.hid (chain_any c e fs w h hs)
  have HG := Lib.hid (fun (wx : World) (hx : Below w.heap.size w wx) => (h.below hx).get)
  have HJ : Hid (∀ k, jn ((fs.map Prod.snd).take k) < 18446744073709551616) := Lib.hid (fun k => jn_lt (fun l hl' => by
    obtain ⟨x, hx, rfl⟩ := List.mem_map.1 (List.mem_of_mem_take hl')
    exact hl x hx))
  have HL := Lib.hid hl
  clear h hl
  go_enter Tryd.func13, Tryd.ntmps13
  go_wp2_with fail
  refine HC.out.mono ?_
  rintro ev w1 ⟨A, cp, rfl, hli, hb⟩
  have HLI := Lib.hid hli
  clear hli HC
  go_wp2_with fail
  go_loop [3, 15] (fun rv iv => ∃ k n : Nat, k ≤ fs.length ∧ iv = .int .i64 (k : Int) ∧ rv = .int .u64 (n : Int) ∧ n < 18446744073709551616 ∧ Hid (n = jn ((fs.map Prod.snd).take k))) (fun _ iv => fs.length - (intOf iv).toNat)
  case atStart => exact ⟨0, 0, Nat.zero_le _, rfl, rfl, by omega, Lib.hid rfl⟩
  case round =>
    obtain ⟨k, n, hk, rfl, rfl, hn, HN⟩ := hrel
    by_cases hlt : k < fs.length
    · obtain ⟨b, off, rfl, _, hcell⟩ := HLI.out.at_ (k := k) (by simpa using hlt)
      rw [List.getElem_map, ptrV] at hcell
      obtain ⟨_, hlab⟩ := HG.out w1 hb k hlt
      have hxl := HL.out fs[k] (List.getElem_mem hlt)
      have HS : Hid (Lab.join n fs[k].2 = jn ((fs.map Prod.snd).take (k + 1))) := Lib.hid (by
        rw [List.take_succ_eq_append_getElem (by simpa using hlt), jn_snoc, ← HN.out]; simp)
      have hjl : Lab.join n fs[k].2 < 18446744073709551616 := Lab.join_lt hn hxl
      generalize fs[k].1 = fb at *
      generalize fs[k].2 = fl at *
      go_wp2_with (go_at_call 22; refine (join_any n fl _ hn hxl).mono ?_; rintro e w' ⟨rfl, rfl⟩)
      go_round
      case rel => exact ⟨k + 1, Lab.join n fl, by omega, by go_num, rfl, hjl, HS⟩
      case measure => simp [intOf]; omega
    · go_wp2_with fail
      go_ret
      refine ⟨ret_int ?_, hb⟩
      rw [HN.out, List.take_of_length_le (by simp; omega)]
theorem refLabel_any (c : Int) (A : Option Addr) (cp B : Nat) (ls : List Nat) (w : World) (hli : Lies w B A (L64 ls)) (hB : B ≤ w.heap.size) (hs : ls.length ≤ 1000) (hl : ∀ x ∈ ls, x < 18446744073709551616) :
    Calls Tryd.prog 14 #[.agg #[.int .i64 c, .slice A ls.length cp]] w fun ev w' => ev = .returned (.int .u64 ((jn ls : Nat) : Int)) ∧ Below w.heap.size w w' := by
  have HLI := Lib.hid (fun o => hli.below ((Below.refl B w).alloc hB o))
  have HL := Lib.hid hl
  clear hl hli
  go_enter Tryd.func14, Tryd.ntmps14
  go_wp2_with fail
  go_loop [3, 4] (fun rv iv => ∃ k n : Nat, k ≤ ls.length ∧ iv = .int .i64 (k : Int) ∧ rv = .int .u64 (n : Int) ∧ n < 18446744073709551616 ∧ Hid (n = jn (ls.take k))) (fun _ iv => ls.length - (intOf iv).toNat)
  case atStart => exact ⟨0, 0, Nat.zero_le _, rfl, rfl, by omega, Lib.hid rfl⟩
  case round =>
    obtain ⟨k, n, hk, rfl, rfl, hn, HN⟩ := hrel
    by_cases hlt : k < ls.length
    · obtain ⟨b, off, rfl, hbB, hcell⟩ := (HLI.out (.cells #[.int .i64 c, .slice A ls.length cp] 27)).at_ (k := k) (by rw [L64_len]; exact hlt)
      rw [show (L64 ls)[k]'(by rw [L64_len]; exact hlt) = .int .u64 ((ls[k] : Nat) : Int) by simp [L64]] at hcell
      have hxl := HL.out ls[k] (List.getElem_mem hlt)
      have HS : Hid (Lab.join n ls[k] = jn (ls.take (k + 1))) := Lib.hid (by
        rw [List.take_succ_eq_append_getElem hlt, jn_snoc, ← HN.out])
      have hjl : Lab.join n ls[k] < 18446744073709551616 := Lab.join_lt hn hxl
      generalize ls[k] = fl at *
      go_wp2_with (go_at_call 23; refine (refJoin_any n fl _ hn hxl).mono ?_; rintro e w' ⟨rfl, rfl⟩)
      go_round
      case rel => exact ⟨k + 1, Lab.join n fl, by omega, by go_num, rfl, hjl, HS⟩
      case measure => simp [intOf]; omega
    · go_wp2_with fail
      go_ret
      refine ⟨ret_int ?_, (Below.refl _ _).alloc (Nat.le_refl _) _⟩
      rw [HN.out, List.take_of_length_le (by omega)]
end Go.Proofs.YtaaapjoopchgiaaDoor
