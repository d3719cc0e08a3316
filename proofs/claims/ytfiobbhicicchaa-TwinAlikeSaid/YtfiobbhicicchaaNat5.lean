/-
  What scrimref02.Norm, Add, Sub, Bit and twice compute.
-/
import Derived.Test.YtfiobbhicicchaaNat4
import Derived.Laws.AppendOwnNone
namespace Go.Proofs.Ytfiobbhicicchaa
open Go.RowKit
set_option maxHeartbeats 1000000
set_option linter.unusedVariables false

theorem refNorm_any (A : Option Addr) (c B : Nat) (l : List Nat) (w : World) (hl : Lies w B A (U l)) (hB : B ≤ w.heap.size) (ho : Nt.Ok l) (hc : l.length ≤ c) (hm : c ≤ 9223372036854775807) (hA : A = none → c = 0) (hs : l.length ≤ 17592186044416) :
    Calls Try.prog 62 #[.slice A l.length c] w fun e w' => ∃ v, e = .returned v ∧ IsRes w' v (Nt.digs (Nt.val l)) ∧ Below w.heap.size w w' := by
  obtain ⟨i0, hi, hz0, hz1, hz2⟩ := info_parts u32_info
  have HL := Lib.hid hl
  have HO := Lib.hid ho
  have HA := Lib.hid hA
  clear hl ho hA
  go_enter Try.func62, Try.ntmps62
  go_wp2_with fail
  go_loop [3] (fun i => ∃ n : Nat, n ≤ l.length ∧ i = .int .i64 (n : Int) ∧ Hid (∀ j (hj : j < l.length), n ≤ j → l[j] = 0)) (fun i => (intOf i).toNat)
  case atStart => exact ⟨l.length, Nat.le_refl _, rfl, Lib.hid (fun j hj h => absurd hj (by omega))⟩
  case round =>
    obtain ⟨n, hn, rfl, H⟩ := hrel
    by_cases h0 : 0 < n
    · obtain ⟨b, off, rfl, hbb, hcell⟩ := HL.out.limb (k := n - 1) (by omega)
      generalize hx : l[n - 1]'(by omega) = x at hcell
      have HX := Lib.hid hx
      have hxb : x < 4294967296 := by rw [← hx]; exact Nt.ok_get HO.out (by omega)
      clear hx
      have hpos : (0 : Int) < (n : Int) := by omega
      by_cases hz : x = 0
      · subst hz
        go_wp2_with fail
        go_round
        case rel =>
          refine ⟨n - 1, by omega, by go_num, Lib.hid (fun j hj h => ?_)⟩
          by_cases e : j = n - 1
          · subst e; exact HX.out
          · exact H.out j hj (by omega)
        case measure => simp [intOf]; omega
      · have hne : ((x : Int) == 0) = false := by simp; omega
        have HE : Hid (Nt.digs (Nt.val l) = l.take n) := Lib.hid (Nt.take_eq_digs HO.out hn H.out (fun _ => by rw [HX.out]; exact hz)).symm
        have HLT : Hid ((l.take n).length = n) := Lib.hid (by rw [List.length_take]; exact Nat.min_eq_left hn)
        have HLT2 := Lib.hid (HL.out.take n)
        clear hz
        go_wp2_with (at_builtin; refine wpList_append_own _ rfl _ _ 56 rfl w.heap.size 74 i0 (.int .u32 0) 1 4 Try.underlying56 hi hz0 hz1 hz2 rfl (by decide) (.slice none 0 0) 0 [] rfl (World.ownsRow_nil _ _ _ _) ⟨b, off, none⟩ n c (U (l.take n)) rfl (by rw [U_len, HLT.out]; omega) (fun j v hv => by rw [← U_take] at hv; obtain ⟨ad, h1, h2⟩ := HLT2.out.src (by rw [U_take, U_len, HLT.out]; exact h0); injection h1 with h1; subst h1; exact h2 j v hv) (U_one _) (by unfold maxLen; omega) (by omega) (Nat.le_refl _) ?_; intro v1 w1 hown1 hgrow1 hnn1)
        go_ret
        refine ⟨_, rfl, ?_, (Below.refl _ _).grown hgrow1 (Nat.le_refl _) (by simp [Value.ownBlock])⟩
        rw [HE.out]
        refine IsRes.of_own (base := w.heap.size) ?_
        rw [HLT.out]
        simpa using hown1
    · obtain rfl : n = 0 := by omega
      have HE : Hid (Nt.digs (Nt.val l) = []) := Lib.hid (by
        have := Nt.take_eq_digs HO.out hn H.out (fun h => absurd h (by omega))
        rw [← this]; simp)
      rcases A with _ | ad
      · have hc0 : c = 0 := HA.out rfl
        subst hc0
        go_wp2_with (at_builtin; refine wpList_append_own_none rfl _ _ 56 rfl w.heap.size 74 i0 1 Try.underlying56 hi (.slice none 0 0) 0 [] rfl (World.ownsRow_nil _ _ _ _) rfl ?_)
        go_ret
        exact ⟨_, rfl, by rw [HE.out]; exact IsRes.none_ _, Below.refl _ _⟩
      · go_wp2_with (at_builtin; refine wpList_append_own _ rfl _ _ 56 rfl w.heap.size 74 i0 (.int .u32 0) 1 4 Try.underlying56 hi hz0 hz1 hz2 rfl (by decide) (.slice none 0 0) 0 [] rfl (World.ownsRow_nil _ _ _ _) ad 0 c [] rfl (by rfl) (fun j v hv => by simp at hv) (by intro u hu; cases hu) (by unfold maxLen; omega) (by omega) (Nat.le_refl _) ?_; intro v1 w1 hown1 hgrow1 hnn1)
        go_ret
        refine ⟨_, rfl, ?_, (Below.refl _ _).grown hgrow1 (Nat.le_refl _) (by simp [Value.ownBlock])⟩
        rw [HE.out]
        exact IsRes.of_own (base := w.heap.size) hown1
end Go.Proofs.Ytfiobbhicicchaa
