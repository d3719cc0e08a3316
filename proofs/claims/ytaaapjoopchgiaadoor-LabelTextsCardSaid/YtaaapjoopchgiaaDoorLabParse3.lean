/-
  What label.Parse computes.
-/
import Derived.Test.YtaaapjoopchgiaaDoorLabParse2
import Derived.Test.YtaaapjoopchgiaaDoorParseMath3
import Derived.Deep.LoopGhost
namespace Go.Proofs.YtaaapjoopchgiaaDoor
open Go.RowKit
set_option maxHeartbeats 1000000
set_option maxRecDepth 100000
set_option linter.unusedVariables false

def ParseTold (s : List UInt8) (w : World) (e : Ending) (w' : World) : Prop := Below w.heap.size w w' ∧ ∃ (x : Nat) (ok : Bool), e = .returned (.tuple #[.int .u64 (x : Int), .int .i64 (if ok then 0 else 15)]) ∧ Lab.Spec s x ok
theorem Below.drewN_self (w : World) (n : Nat) : Below w.heap.size w (w.drewN n) := ⟨rfl, rfl, rfl, Nat.le_refl _, fun _ _ => rfl⟩
theorem ParseTold.no {s : List UInt8} {w w' : World} (hb : Below w.heap.size w w') (h : Lab.Spec s 0 false) : ParseTold s w (.returned (.tuple #[.int .u64 0, .int .i64 15])) w' := ⟨hb, 0, false, rfl, h⟩
theorem ParseTold.yes {s : List UInt8} {w w' : World} {x : Nat} (hb : Below w.heap.size w w') (h : Lab.Spec s x true) : ParseTold s w (.returned (.tuple #[.int .u64 (x : Int), .int .i64 0])) w' := ⟨hb, x, true, rfl, h⟩

theorem parse_any (s : List UInt8) (w : World) (hs : s.length ≤ 1000) (hT : Tab64 w) (hB : 1 < w.heap.size) :
    Calls Tryd.prog 37 #[.string ⟨s.toArray⟩] w (ParseTold s w) := by
  by_cases hlong : 258 < s.length
  · have HS := Lib.hid (Lab.Spec.long hlong)
    go_enter Tryd.func37, Tryd.ntmps37
    go_wp2_with fail
    go_ret2
    exact ParseTold.no (Below.refl _ _) HS.out
  · have hl : s.length ≤ 258 := by omega
    have CP := Lib.hid (Tryd.strings_CutPrefix ⟨s.toArray⟩ ⟨#[123]⟩ w)
    have CS := Lib.hid (fun (t : List UInt8) (ht : t.length ≤ 1000) => Tryd.strings_CutSuffix ⟨t.toArray⟩ ⟨#[125]⟩ w (show t.toArray.size ≤ _ by simp; omega))
    rw [show (⟨s.toArray⟩ : ByteArray).data.toList = s from rfl, show (⟨#[123]⟩ : ByteArray).data.toList = [123] from rfl] at CP
    have TX := Lib.hid (fun (x : Nat) (hx : x < 18446744073709551616) (n : Nat) => text_any x (w.drewN n) hx hT hB)
    clear hT
    rcases Lab.open_iff s with ⟨h1, h2, h3⟩ | ⟨r, h1, h2, h3⟩
    · have HS := Lib.hid (Lab.Spec.noOpen h3)
      rw [h1, h2] at CP
      have CS1 := Lib.hid (CS.out s (by omega))
      clear h1 h2 h3 CS
      go_enter Tryd.func37, Tryd.ntmps37
      go_wp2_with fail
      refine CP.out.mono ?_
      rintro e w' ⟨rfl, hw⟩
      obtain rfl : w = w' := hw.symm
      go_wp2_with fail
      refine CS1.out.mono ?_
      rintro e w' ⟨rfl, hw⟩
      obtain rfl : w = w' := hw.symm
      go_wp2_with fail
      go_ret2
      exact ParseTold.no (Below.refl _ _) HS.out
    · subst h3
      rw [h1, h2] at CP
      have hrl : r.length ≤ 257 := by simpa using hl
      have CS1 := Lib.hid (CS.out r (by omega))
      rw [show (⟨r.toArray⟩ : ByteArray).data.toList = r from rfl, show (⟨#[125]⟩ : ByteArray).data.toList = [125] from rfl] at CS1
      clear h1 h2 CS
      rcases Lab.shut_iff r with ⟨k1, k2⟩ | ⟨t, k1, k2, k3⟩
      · have HS := Lib.hid (Lab.Spec.noShut k2)
        rw [k1] at CS1
        clear k1 k2
        go_enter Tryd.func37, Tryd.ntmps37
        go_wp2_with fail
        refine CP.out.mono ?_
        rintro e w' ⟨rfl, hw⟩
        obtain rfl : w = w' := hw.symm
        go_wp2_with fail
        refine CS1.out.mono ?_
        rintro e w' ⟨rfl, hw⟩
        obtain rfl : w = w' := hw.symm
        go_wp2_with fail
        go_ret2
        exact ParseTold.no (Below.refl _ _) HS.out
      · rw [k1, k2] at CS1
        have htl : t.length ≤ 256 := by rw [k3] at hrl; simp at hrl; omega
        have HS1 : Hid (∀ o, Lab.innerP 300 t 0 = some o → Lab.text o ≠ 123 :: r → Lab.Spec (123 :: r) 0 false) := Lib.hid (fun o h hne => by rw [k3] at hne ⊢; exact Lab.Spec.other (by omega) h hne)
        have HS2 : Hid (Lab.innerP 300 t 0 = none → Lab.Spec (123 :: r) 0 false) := Lib.hid (fun h => by rw [k3]; exact Lab.Spec.badInner (by omega) h)
        clear k1 k2 k3
        go_enter Tryd.func37, Tryd.ntmps37
        go_wp2_with fail
        refine CP.out.mono ?_
        rintro e w' ⟨rfl, hw⟩
        obtain rfl : w = w' := hw.symm
        go_wp2_with fail
        refine CS1.out.mono ?_
        rintro e w' ⟨rfl, hw⟩
        obtain rfl : w = w' := hw.symm
        go_wp2_with fail
        go_loopg [4, 7] t.length (fun gk iv ov wr => ∃ (cur : List UInt8) (acc m : Nat), wr = w.drewN m ∧ cur.length ≤ gk ∧ cur.length ≤ 256 ∧ acc < 18446744073709551616 ∧ iv = .string ⟨cur.toArray⟩ ∧ ov = .int .u64 (acc : Int) ∧ Hid (Lab.innerP 300 cur acc = Lab.innerP 300 t 0))
        case atStart => exact ⟨t, 0, 0, rfl, Nat.le_refl _, htl, by omega, rfl, rfl, Lib.hid rfl⟩
        case round =>
          obtain ⟨cur, acc, m, rfl, hgk, hcl, hacc, rfl, rfl, H⟩ := hrel
          cases cur with
          | nil =>
            have HI : Hid (Lab.innerP 300 t 0 = some acc) := Lib.hid (by rw [← H.out]; rfl)
            have TXa := Lib.hid (TX.out acc hacc m)
            rw [strV] at TXa
            by_cases heq : Lab.text acc = 123 :: r
            · have HY : Hid (Lab.Spec (123 :: r) acc true) := Lib.hid (.inl ⟨rfl, hacc, heq.symm⟩)
              rw [heq] at TXa
              clear heq
              go_wp2_with fail
              refine TXa.out.mono ?_
              rintro e w1 ⟨rfl, hb1⟩
              have hb : Below w.heap.size w w1 := ⟨hb1.os, hb1.tape, hb1.output, hb1.size, hb1.block⟩
              go_wp2_with fail
              go_ret2
              exact ParseTold.yes hb HY.out
            · have HY := Lib.hid (HS1.out acc HI.out heq)
              have hne : (Lab.text acc == 123 :: r) = false := by simpa using heq
              generalize Lab.text acc = T at *
              clear heq
              go_wp2_with fail
              refine TXa.out.mono ?_
              rintro e w1 ⟨rfl, hb1⟩
              have hb : Below w.heap.size w w1 := ⟨hb1.os, hb1.tape, hb1.output, hb1.size, hb1.block⟩
              go_wp2_with fail
              go_ret2
              exact ParseTold.no hb HY.out
          | cons b0 r0 =>
            have hne : b0 :: r0 ≠ [] := by simp
            have hcu := Lab.cutAt_len 44 (b0 :: r0)
            have CU := Lib.hid (cut_any (b0 :: r0) 44 (w.drewN m) (by omega))
            rw [strV, strV] at CU
            have RU := Lib.hid (fun n => run_any (Lab.cutAt 44 (b0 :: r0)).1 (w.drewN n) (by omega))
            have hdec := hcu.2.2 hne
            have hd2 : (Lab.cutAt 44 (b0 :: r0)).2.1.length ≤ 256 := by omega
            cases hrun : Lab.runP (Lab.cutAt 44 (b0 :: r0)).1 with
            | none =>
              have HY := Lib.hid (HS2.out (by rw [← H.out]; exact Lab.innerP_fail hne (by omega) hrun))
              have HR := Lib.hid hrun
              clear hrun hcu hne
              go_wp2_with fail
              refine CU.out.mono ?_
              rintro e w' ⟨rfl, n, rfl⟩
              rw [World.drewN_drewN]
              go_wp2_with fail
              refine (RU.out _).mono ?_
              rintro e w' ⟨⟨n2, rfl⟩, rfl⟩
              rw [HR.out, show (none : Option Nat).isSome = false from rfl, show ((none : Option Nat).getD 0) = 0 from rfl]
              go_wp2_with fail
              go_ret2
              exact ParseTold.no (Below.drewN_self _ _) HY.out
            | some l =>
              have hll := Lab.runP_lt hrun
              have HST := Lib.hid (Lab.innerP_step (f := 300) (acc := acc) hne (by omega) hrun)
              have HR := Lib.hid hrun
              have hjl : Lab.join acc l < 18446744073709551616 := Lab.join_lt hacc hll
              clear hrun hcu hne
              generalize (Lab.cutAt 44 (b0 :: r0)).2.1 = rest at *
              go_wp2_with fail
              refine CU.out.mono ?_
              rintro e w' ⟨rfl, n, rfl⟩
              rw [World.drewN_drewN]
              go_wp2_with fail
              refine (RU.out _).mono ?_
              rintro e w' ⟨⟨n2, rfl⟩, rfl⟩
              rw [HR.out, show (some l).isSome = true from rfl, show ((some l).getD 0) = l from rfl]
              go_wp2_with (go_at_call 22; refine (join_any acc l _ hacc hll).mono ?_; rintro e w' ⟨rfl, rfl⟩)
              go_roundg rest.length
              case measure => omega
              case rel => exact ⟨rest, Lab.join acc l, _, rfl, Nat.le_refl _, hd2, hjl, rfl, rfl, Lib.hid (by rw [← HST.out]; exact H.out)⟩
end Go.Proofs.YtaaapjoopchgiaaDoor
