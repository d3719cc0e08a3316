/-
  What nat.long computes: a number divided by one of two limbs or more.
-/
import Derived.Test.YtgicgmaiolfpkaaLong3
import Derived.Test.YtgicgmaiolfpkaaNat11
import Derived.Test.YtgicgmaiolfpkaaShelf
import Derived.Deep.RegionWith
namespace Go.Proofs.Ytgicgmaiolfpkaa
open Go.RowKit
set_option maxHeartbeats 1000000
set_option linter.unusedVariables false

theorem U_append (a b : List Nat) : U (a ++ b) = U a ++ U b := by simp [U]

/-- takeOff at a window of limbs. -/
theorem takeOff_at (G c c' T j n : Nat) (A' : Option Addr) (P a Q d : List Nat) (w : World) (hblk : Blk w G 32 (U (P ++ (a ++ Q)))) (hP : P.length = j) (hy : Lies w G A' (U d)) (ha : Nt.Ok a) (hd : Nt.Ok d) (hla : a.length = n + 1) (hld : d.length = n) (hc : n + 1 ≤ c) (hc' : n ≤ c') (hm : c ≤ 9223372036854775807) (hm' : c' ≤ 9223372036854775807) (hT : T < 4294967296) (hs : n ≤ 1000000) :
    Calls Try.prog 38 #[.slice (some ⟨G, j, none⟩) (n + 1) c, .slice A' n c', .int .u64 (T : Int)] w fun e w' => ∃ (win : List Nat) (b : Nat), e = .returned (.bool (decide (b = 1))) ∧ b ≤ 1 ∧ Blk w' G 32 (U (P ++ (win ++ Q))) ∧ Hid (win.length = n + 1 ∧ Nt.Ok win ∧ Nt.val win + T * Nt.val d = Nt.val a + b * 4294967296 ^ (n + 1)) ∧ w.grownBy w' (some G) := by
  subst hld
  subst hP
  rw [U_append, U_append] at hblk
  have h := takeOff_any G c c' T A' (U P) (U Q) a d w hblk hy ha hd hla hc hc' hm hm' hT hs
  rw [U_len] at h
  refine h.mono ?_
  rintro e w' ⟨win, b, he, hb, hblk', H, hg⟩
  refine ⟨win, b, he, hb, by rw [U_append, U_append]; exact hblk', Lib.hid ⟨by rw [H.out.1, hla], H.out.2.1, H.out.2.2⟩, hg⟩
theorem putBack_at (G c c' j n : Nat) (A' : Option Addr) (P a Q d : List Nat) (w : World) (hblk : Blk w G 32 (U (P ++ (a ++ Q)))) (hP : P.length = j) (hy : Lies w G A' (U d)) (ha : Nt.Ok a) (hd : Nt.Ok d) (hla : a.length = n + 1) (hld : d.length = n) (hc : n + 1 ≤ c) (hc' : n ≤ c') (hm : c ≤ 9223372036854775807) (hm' : c' ≤ 9223372036854775807) (hs : n ≤ 1000000) :
    Calls Try.prog 39 #[.slice (some ⟨G, j, none⟩) (n + 1) c, .slice A' n c'] w fun e w' => ∃ (win : List Nat) (b : Nat), e = .returned (.tuple #[]) ∧ Blk w' G 32 (U (P ++ (win ++ Q))) ∧ Hid (win.length = n + 1 ∧ Nt.Ok win ∧ Nt.val win + b * 4294967296 ^ (n + 1) = Nt.val a + Nt.val d) ∧ w.grownBy w' (some G) := by
  subst hld
  subst hP
  rw [U_append, U_append] at hblk
  have h := putBack_any G c c' A' (U P) (U Q) a d w hblk hy ha hd hla hc hc' hm hm' hs
  rw [U_len] at h
  refine h.mono ?_
  rintro e w' ⟨win, b, he, hblk', H, hg⟩
  refine ⟨win, b, he, by rw [U_append, U_append]; exact hblk', Lib.hid ⟨by rw [H.out.1, hla], H.out.2.1, H.out.2.2⟩, hg⟩
/-- estimate at a window of limbs. -/
theorem estimate_at (G c c' j n : Nat) (A' : Option Addr) (P a Q d : List Nat) (w : World) (hblk : Blk w G 32 (U (P ++ (a ++ Q)))) (hP : P.length = j) (hy : Lies w G A' (U d)) (ha : Nt.Ok a) (hd : Nt.Ok d) (hla : a.length = n + 1) (hld : d.length = n) (hn : 2 ≤ n) (hs : n ≤ 1000000)
    (h31 : ∀ h : n - 1 < d.length, 2147483648 ≤ d[n - 1]) (hlt : Nt.val a < 4294967296 * Nt.val d) (hc : n + 1 ≤ c) (hc' : n ≤ c') :
    Calls Try.prog 37 #[.slice (some ⟨G, j, none⟩) (n + 1) c, .slice A' n c'] w fun e w' => ∃ g : Nat, e = .returned (.int .u64 (g : Int)) ∧ Hid (Nt.val a / Nt.val d ≤ g ∧ g ≤ Nt.val a / Nt.val d + 1) ∧ g < 4294967296 ∧ ∃ k, w' = w.drewN k := by
  have hg := hblk.lt
  refine estimate_any (some ⟨G, j, none⟩) A' c c' w.heap.size n a d w ?_ (hy.more (by omega)) ha hd hla hld hn hs h31 hlt hc hc'
  refine .inr ⟨G, j, rfl, hg, fun i v hv => ?_⟩
  rw [U_append, U_append] at hblk
  refine hblk.cell ?_
  rw [List.getElem?_append_right (by rw [U_len]; omega), U_len, hP, Nat.add_sub_cancel_left, List.getElem?_append_left]
  · exact hv
  · rcases Nat.lt_or_ge i (U a).length with h | h
    · exact h
    · rw [List.getElem?_eq_none h] at hv; cases hv
end Go.Proofs.Ytgicgmaiolfpkaa
