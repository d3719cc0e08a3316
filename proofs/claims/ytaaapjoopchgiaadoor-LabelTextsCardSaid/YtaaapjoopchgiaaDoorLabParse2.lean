/-
  What label.run and label.Parse compute.
-/
import Derived.Test.YtaaapjoopchgiaaDoorLabParse
namespace Go.Proofs.YtaaapjoopchgiaaDoor
open Go.RowKit
set_option maxHeartbeats 1000000
set_option maxRecDepth 100000
set_option linter.unusedVariables false

theorem run_none {s : List UInt8} (h : Lab.tagP (Lab.cutAt 45 s).1 = none) : Lab.runP s = none := by unfold Lab.runP; rw [h]
theorem run_one {s : List UInt8} {a : Nat} (h : Lab.tagP (Lab.cutAt 45 s).1 = some a) (h2 : (Lab.cutAt 45 s).2.2 = false) : Lab.runP s = some (Lab.bitsFrom a a) := by unfold Lab.runP; rw [h, h2]; rfl
theorem run_two {s : List UInt8} {a b : Nat} (h : Lab.tagP (Lab.cutAt 45 s).1 = some a) (h2 : (Lab.cutAt 45 s).2.2 = true) (h3 : Lab.tagP (Lab.cutAt 45 s).2.1 = some b) : Lab.runP s = some (Lab.bitsFrom a b) := by unfold Lab.runP; rw [h, h2, h3]; rfl
theorem run_bad {s : List UInt8} {a : Nat} (h : Lab.tagP (Lab.cutAt 45 s).1 = some a) (h2 : (Lab.cutAt 45 s).2.2 = true) (h3 : Lab.tagP (Lab.cutAt 45 s).2.1 = none) : Lab.runP s = none := by unfold Lab.runP; rw [h, h2, h3]; rfl
def RunTold (s : List UInt8) (w : World) (e : Ending) (w' : World) : Prop := (∃ n, w' = w.drewN n) ∧ e = .returned (.tuple #[.int .u64 (((Lab.runP s).getD 0 : Nat) : Int), .bool (Lab.runP s).isSome])
theorem RunTold.no {s : List UInt8} (w : World) (n : Nat) (h : Lab.runP s = none) : RunTold s w (.returned (.tuple #[.int .u64 0, .bool false])) (w.drewN n) := ⟨⟨n, rfl⟩, by rw [h]; rfl⟩
theorem RunTold.yes {s : List UInt8} (w : World) (n l : Nat) (h : Lab.runP s = some l) : RunTold s w (.returned (.tuple #[.int .u64 (l : Int), .bool true])) (w.drewN n) := ⟨⟨n, rfl⟩, by rw [h]; rfl⟩
theorem bitsTo_next (a d : Nat) : Lab.bitsTo a (d + 1) = Lab.bitsTo a d ||| 2 ^ (a + d) := rfl

theorem run_any (s : List UInt8) (w : World) (hs : s.length ≤ 1000) : Calls Tryd.prog 55 #[.string ⟨s.toArray⟩] w (RunTold s w) := by
  have hcl := Lab.cutAt_len 45 s
  have CU := Lib.hid (cut_any s 45 w (by omega))
  rw [strV, strV] at CU
  have TH := Lib.hid (fun n => tag_any (Lab.cutAt 45 s).1 (w.drewN n) (by omega))
  have TT := Lib.hid (fun n => tag_any (Lab.cutAt 45 s).2.1 (w.drewN n) (by omega))
  clear hcl
  cases h1 : Lab.tagP (Lab.cutAt 45 s).1 with
  | none =>
    have HN := Lib.hid (run_none h1)
    have H1 := Lib.hid h1
    clear h1
    go_enter Tryd.func55, Tryd.ntmps55
    go_wp2_with fail
    refine CU.out.mono ?_
    rintro e w' ⟨rfl, n, rfl⟩
    go_wp2_with fail
    refine (TH.out n).mono ?_
    rintro e w' ⟨rfl, v, rfl, hv⟩
    rw [H1.out, show (none : Option Nat).isSome = false from rfl]
    clear hv
    go_wp2_with fail
    go_ret2
    exact RunTold.no w n HN.out
  | some a =>
    have ha := Lab.tagP_lt h1
    have H1 := Lib.hid h1
    cases h2 : (Lab.cutAt 45 s).2.2 with
    | false =>
      have HN := Lib.hid (run_one h1 h2)
      rw [h2] at CU
      clear h1 h2
      go_enter Tryd.func55, Tryd.ntmps55
      go_wp2_with fail
      refine CU.out.mono ?_
      rintro e w' ⟨rfl, n, rfl⟩
      go_wp2_with fail
      refine (TH.out n).mono ?_
      rintro e w' ⟨rfl, v, rfl, hv⟩
      obtain rfl := hv a H1.out
      rw [H1.out, show (some a).isSome = true from rfl]
      clear hv
      go_wp2_with fail
      go_loop [10, 11] (fun ov tv => ∃ t n : Nat, a ≤ t ∧ t ≤ 64 ∧ n < 18446744073709551616 ∧ tv = .int .i64 (t : Int) ∧ ov = .int .u64 (n : Int) ∧ Hid (n = Lab.bitsTo a (t - a) ∧ (t ≤ a + 1 ∨ t = a))) (fun _ tv => 128 - (intOf tv).toNat)
      case atStart => exact ⟨a, 0, Nat.le_refl _, by omega, by omega, rfl, rfl, Lib.hid ⟨by rw [Nat.sub_self]; rfl, .inr rfl⟩⟩
      case round =>
        obtain ⟨t, m, ht1, ht2, hm, rfl, rfl, H⟩ := hrel
        by_cases hle : t ≤ a
        · have ht3 : t < 64 := by omega
          have HS : Hid (m ||| 2 ^ t = Lab.bitsTo a (t + 1 - a)) := Lib.hid (by
            rw [H.out.1, show t + 1 - a = (t - a) + 1 by omega, bitsTo_next, show a + (t - a) = t by omega])
          have hml : m ||| 2 ^ t < 18446744073709551616 := Nat.or_lt_two_pow (n := 64) hm (Lab.bit_lt ht3)
          have HO := Lib.hid (or_shl m (t : Int) hm (by omega))
          rw [Int.toNat_natCast] at HO
          go_wp2_with fail
          refine ⟨⟨t + 1, m ||| 2 ^ t, by omega, by omega, hml, by go_num, congrArg (Value.int .u64) HO.out, Lib.hid ⟨HS.out, .inl (by omega)⟩⟩, by simp [intOf]; omega⟩
        · have HE : Hid (m = Lab.bitsFrom a a) := Lib.hid (by
            rw [H.out.1, Lab.bitsFrom]
            rcases H.out.2 with h | h
            · rw [show t - a = a + 1 - a by omega]
            · rw [show t - a = 0 by omega, show a + 1 - a = 0 by omega])
          go_wp2_with fail
          go_ret2
          have := RunTold.yes w n (Lab.bitsFrom a a) HN.out
          rw [← HE.out] at this
          exact this
    | true =>
      rw [h2] at CU
      cases h3 : Lab.tagP (Lab.cutAt 45 s).2.1 with
      | none =>
        have HN := Lib.hid (run_bad h1 h2 h3)
        have H3 := Lib.hid h3
        clear h1 h2 h3
        go_enter Tryd.func55, Tryd.ntmps55
        go_wp2_with fail
        refine CU.out.mono ?_
        rintro e w' ⟨rfl, n, rfl⟩
        go_wp2_with fail
        refine (TH.out n).mono ?_
        rintro e w' ⟨rfl, v, rfl, hv⟩
        obtain rfl := hv a H1.out
        rw [H1.out, show (some a).isSome = true from rfl]
        clear hv
        go_wp2_with fail
        refine (TT.out n).mono ?_
        rintro e w' ⟨rfl, v, rfl, hv⟩
        rw [H3.out, show (none : Option Nat).isSome = false from rfl]
        clear hv
        go_wp2_with fail
        go_ret2
        exact RunTold.no w n HN.out
      | some b =>
        have hb := Lab.tagP_lt h3
        have HN := Lib.hid (run_two h1 h2 h3)
        have H3 := Lib.hid h3
        clear h1 h2 h3
        go_enter Tryd.func55, Tryd.ntmps55
        go_wp2_with fail
        refine CU.out.mono ?_
        rintro e w' ⟨rfl, n, rfl⟩
        go_wp2_with fail
        refine (TH.out n).mono ?_
        rintro e w' ⟨rfl, v, rfl, hv⟩
        obtain rfl := hv a H1.out
        rw [H1.out, show (some a).isSome = true from rfl]
        clear hv
        go_wp2_with fail
        refine (TT.out n).mono ?_
        rintro e w' ⟨rfl, v, rfl, hv⟩
        obtain rfl := hv b H3.out
        rw [H3.out, show (some b).isSome = true from rfl]
        clear hv
        go_wp2_with fail
        go_loop [10, 11] (fun ov tv => ∃ t n : Nat, a ≤ t ∧ t ≤ 64 ∧ n < 18446744073709551616 ∧ tv = .int .i64 (t : Int) ∧ ov = .int .u64 (n : Int) ∧ Hid (n = Lab.bitsTo a (t - a) ∧ (t ≤ b + 1 ∨ t = a))) (fun _ tv => 128 - (intOf tv).toNat)
        case atStart => exact ⟨a, 0, Nat.le_refl _, by omega, by omega, rfl, rfl, Lib.hid ⟨by rw [Nat.sub_self]; rfl, .inr rfl⟩⟩
        case round =>
          obtain ⟨t, m, ht1, ht2, hm, rfl, rfl, H⟩ := hrel
          by_cases hle : t ≤ b
          · have ht3 : t < 64 := by omega
            have HS : Hid (m ||| 2 ^ t = Lab.bitsTo a (t + 1 - a)) := Lib.hid (by
              rw [H.out.1, show t + 1 - a = (t - a) + 1 by omega, bitsTo_next, show a + (t - a) = t by omega])
            have hml : m ||| 2 ^ t < 18446744073709551616 := Nat.or_lt_two_pow (n := 64) hm (Lab.bit_lt ht3)
            have HO := Lib.hid (or_shl m (t : Int) hm (by omega))
            rw [Int.toNat_natCast] at HO
            go_wp2_with fail
            refine ⟨⟨t + 1, m ||| 2 ^ t, by omega, by omega, hml, by go_num, congrArg (Value.int .u64) HO.out, Lib.hid ⟨HS.out, .inl (by omega)⟩⟩, by simp [intOf]; omega⟩
          · have HE : Hid (m = Lab.bitsFrom a b) := Lib.hid (by
              rw [H.out.1, Lab.bitsFrom]
              rcases H.out.2 with h | h
              · rw [show t - a = b + 1 - a by omega]
              · rw [show t - a = 0 by omega, show b + 1 - a = 0 by omega])
            go_wp2_with fail
            go_ret2
            have := RunTold.yes w n (Lab.bitsFrom a b) HN.out
            rw [← HE.out] at this
            exact this
end Go.Proofs.YtaaapjoopchgiaaDoor
