/-
  Texts of this proof, joined (by wip/bin/bundle.py): Net2, Net3, Scp1, Scp2, Scp3, Scp4, Scp5, Scp6, Scp7, SpaceNets, NetLaid.
-/
import Derived.Test.YtmmkekdfbnmemaaGreatDoorM3
import Derived.Lib.AppendIntMem
import Derived.BigQuiet
import Derived.Deep.CutRange
import Derived.Deep.QuietTactic
import Derived.Laws.IdiomRangeMap
import Derived.RangeFuncNested
import Derived.RangeFuncBound
import Derived.RangeFuncCalls
import Derived.RangeFuncLeaves
import Derived.Shelf.Abstract
import Derived.Shelf.RegionOpen
import Derived.WalkKit
import Derived.Laws.EntriesVeiled
import Derived.OwnWalkIn
import Derived.TacticsInMore
import Derived.LoopNIn
import Derived.LoopIn
import Derived.Test.YtmmkekdfbnmemaaGreatDoorRows
import Derived.Lib.LaidTab
import Derived.LaidMore
import Derived.Stop.LaidErr
import Derived.MakeChecks
import Derived.OpenShut
import Derived.ProofKit
import Derived.ChangeOld
import Derived.Lay
/-
  space.Net and space.Cut.
-/
namespace Go.Proofs.YtmmkekdfbnmemaaGreatDoor
open Go.RowKit
set_option maxHeartbeats 2000000
set_option maxRecDepth 100000
set_option linter.unusedVariables false

/-- The table of the powers of ten. -/
structure Ten20 (w : World) : Prop where
  tab : Lib.TabIs Tryz.prog w "internal/strconv.uint64pow10" .u64 Lib.pow10Tab
  lt : ∀ g, Tryz.prog.globalNamed "internal/strconv.uint64pow10" = some g → g < w.heap.size
theorem Ten20.below {w w' : World} (h : Ten20 w) (hb : Below w.heap.size w w') : Ten20 w' := ⟨by
  have ht := h.tab
  unfold Lib.TabIs World.var? at *
  cases he : Tryz.prog.globalNamed "internal/strconv.uint64pow10" with
  | none => simp [he] at ht
  | some g =>
    simp only [he, Option.bind_some] at ht ⊢
    rw [hb.block g (h.lt g he)]
    exact ht, fun g e => Nat.lt_of_lt_of_le (h.lt g e) hb.size⟩
theorem net29_any (s : List UInt8) (w : World) (hs : s.length < 100000000) (hT : Ten20 w) :
    Calls Tryz.prog 6 #[.string ⟨s.toArray⟩] w fun e w' => e = .returned (.string ⟨(Nw.net s).toArray⟩) ∧ Below w.heap.size w w' := by
  have hsz : (⟨s.toArray⟩ : ByteArray).size = s.length := rfl
  have HSZ := Lib.hid hsz
  have DE := Tryz.strconv_Itoa (s.length : Int) (by omega) (by omega) w hT.tab
  rw [Lib.itoa_nonneg] at DE
  replace DE := Lib.hid DE
  have hp := (Ten.dec_len (r := s.length) (k := 9) (by omega)).2
  have HN := Lib.hid (nw_net s)
  generalize Lib.decDigits s.length = D at *
  have q1 : ¬ 9223372036854775807 < D.length + 1 := by omega
  have q2 : ¬ 9223372036854775807 < D.length + 1 + s.length := by omega
  have q3 : ¬ 9223372036854775807 < D.length + 1 + s.length + 1 := by omega
  clear hT
  go_enter Tryz.func6, Tryz.ntmps6
  go_wp2_with fail
  refine DE.out.mono ?_
  rintro e w1 ⟨rfl, kk, os, hw1⟩
  have hb1 : Below w.heap.size w w1 := by rw [hw1]; exact Lib.below_grow _ _ (Nat.le_refl _) _ _
  clear hw1
  go_wp2_with fail
  go_ret
  exact ⟨by rw [← HN.out]; rfl, hb1⟩

/-- What is taken off, or nothing. -/
def Nw.cutV : Option (List UInt8 × List UInt8) → Value
  | some (a, b) => .tuple #[.string ⟨a.toArray⟩, .string ⟨b.toArray⟩, .bool true]
  | none => .tuple #[.string ⟨#[]⟩, .string ⟨#[]⟩, .bool false]
theorem nw_from (s : List UInt8) (n : Nat) : (⟨s.toArray⟩ : ByteArray).extract n s.length = ⟨(s.drop n).toArray⟩ := by
  apply ByteArray.ext
  simp
  exact List.take_of_length_le (by simp)
theorem nw_upto (s : List UInt8) (n : Nat) (h : n ≤ s.length) : (⟨s.toArray⟩ : ByteArray).extract 0 n = ⟨(s.take n).toArray⟩ := by
  apply ByteArray.ext
  simp
theorem cut29_any (s : List UInt8) (w : World) (hs : s.length ≤ 1000000) :
    Calls Tryz.prog 5 #[.string ⟨s.toArray⟩] w fun e w' => e = .returned (Nw.cutV (Nw.cut s)) ∧ Below w.heap.size w w' := by
  have hsz : (⟨s.toArray⟩ : ByteArray).size = s.length := rfl
  have HSZ := Lib.hid hsz
  have HNO : Hid (Nw.cut s = none → Ending.returned (.tuple #[.string ⟨#[]⟩, .string ⟨#[]⟩, .bool false]) = .returned (Nw.cutV (Nw.cut s))) := Lib.hid (fun h => by rw [h]; rfl)
  go_enter Tryz.func5, Tryz.ntmps5
  go_wp2
  go_loop [5, 6] (fun a i => ∃ k n : Nat, k ≤ s.length ∧ n ≤ s.length ∧ a = .int .i64 (n : Int) ∧ i = .int .i64 (k : Int) ∧ Hid (Nw.DecAt s k n) ∧ Hid (1 < k → 10 ≤ Ten.numOf (s.take 2))) (fun _ i => s.length - (intOf i).toNat)
  case atStart => exact ⟨0, 0, Nat.zero_le _, Nat.zero_le _, rfl, rfl, Lib.hid ⟨Nat.zero_le _, by simp [Ten.numOf]⟩, Lib.hid (fun h => by omega)⟩
  case round =>
    obtain ⟨k, n, hk, hn, rfl, rfl, H, HZ⟩ := hrel
    by_cases hdig : ∃ hlt : k < s.length, 48 ≤ s[k].toNat ∧ s[k].toNat ≤ 57
    · obtain ⟨hlt, h1', h2'⟩ := hdig
      obtain ⟨y, hy⟩ : ∃ y, y = s[k].toNat := ⟨_, rfl⟩
      have hgy : ((⟨s.toArray⟩ : ByteArray)[k]'(show k < (⟨s.toArray⟩ : ByteArray).size from hlt)).toNat = y := hy.symm
      rw [← hy] at h1' h2'
      have h3 : Nw.DecAt s (k + 1) (10 * n + (y - 48)) := ⟨nw_step H.out.le hlt (by rw [nw_dB hy]; exact decide_eq_true ⟨h1', h2'⟩), by rw [Nw.take_succ_num hlt, ← H.out.num, ← hy]⟩
      have HB : Hid (s.length < 10 * n + (y - 48) → Nw.cut s = none) := Lib.hid (fun h => Nw.cut_big h3.le (by rw [← h3.num]; exact h))
      have HC : Hid (10 * n + (y - 48) < 10 → 1 < k + 1 → Nw.cut s = none) := Lib.hid (fun h h' => Nw.cut_zero h3.le h' (by rw [← h3.num]; exact h))
      have HD : Hid (¬ (10 * n + (y - 48) < 10 ∧ 1 < k + 1) → 1 < k + 1 → 10 ≤ Ten.numOf (s.take 2)) := Lib.hid (fun h h' => by
        by_cases e : k = 1
        · have h5 := h3.num
          rw [e] at h5
          have h6 : Ten.numOf (s.take (1 + 1)) = Ten.numOf (s.take 2) := rfl
          omega
        · exact HZ.out (by omega))
      have H3 := Lib.hid h3
      have hw1 : IntKind.u8.wrap ((y : Int) - 48) = ((y - 48 : Nat) : Int) := by rw [show (y : Int) - 48 = ((y - 48 : Nat) : Int) by omega]; exact IntWalk.u8_in _ (by omega)
      obtain ⟨n', hn'⟩ : ∃ n', n' = 10 * n + (y - 48) := ⟨_, rfl⟩
      rw [← hn'] at HB HC HD H3
      have HN' := Lib.hid hn'
      clear h3 hy hn'
      go_upto_region 3 with fail
      go_cut [5] from 8 to 45 (fun x wx => x = .int .i64 (n' : Int) ∧ wx = w)
      case first =>
        go_wp2
        go_meet
        exact ⟨congrArg (Value.int .i64) (by have := HN'.out; omega), rfl⟩
      obtain ⟨rfl, rfl⟩ := hcut
      rename World => w
      clear hw1
      by_cases c1 : s.length < n'
      · have HE := Lib.hid (HNO.out (HB.out c1))
        go_wp2
        go_ret3
        exact ⟨HE.out, Below.refl _ _⟩
      · by_cases c2 : n' < 10
        · by_cases c3 : k = 0
          · have HE : Hid (1 < k + 1 → 10 ≤ Ten.numOf (s.take 2)) := Lib.hid (by omega)
            have c4 : ¬ (1 : Int) < (k : Int) + 1 := by omega
            have c5 : k < s.length := hlt
            replace c3 := Lib.hid c3
            go_wp2
            go_round
            case rel => exact ⟨k + 1, n', by omega, by omega, rfl, by go_num, H3, HE⟩
            case measure => simp [intOf]; omega
          · have HE := Lib.hid (HNO.out (HC.out c2 (by omega)))
            have c4 : (1 : Int) < (k : Int) + 1 := by omega
            go_wp2
            go_ret3
            exact ⟨HE.out, Below.refl _ _⟩
        · have HE := Lib.hid (HD.out (by omega))
          go_wp2
          go_round
          case rel => exact ⟨k + 1, n', by omega, by omega, rfl, by go_num, H3, HE⟩
          case measure => simp [intOf]; omega
    · have hlead : Dg.lead s = k := by
        by_cases hlt : k < s.length
        · refine nw_stop H.out.le hlt ?_
          rw [nw_dB rfl]
          exact decide_eq_false (fun h => hdig ⟨hlt, h⟩)
        · have := Dg.lead_le s
          have := H.out.le
          omega
      have hcut : Nw.cut s = Nw.after s k n := by rw [Nw.cut_read (fun h => HZ.out (by omega)), hlead, ← H.out.num]
      have HA := Lib.hid hcut
      clear hcut hlead H HZ
      by_cases hlt : k < s.length
      · obtain ⟨y, hy⟩ : ∃ y, y = s[k].toNat := ⟨_, rfl⟩
        have hgy : ((⟨s.toArray⟩ : ByteArray)[k]'(show k < (⟨s.toArray⟩ : ByteArray).size from hlt)).toNat = y := hy.symm
        have hnd : ¬ (48 ≤ y ∧ y ≤ 57) := fun h => hdig ⟨hlt, by rw [← hy]; exact h⟩
        have HG : Hid (s.getD k 0 = 58 ↔ y = 58) := Lib.hid (by
          rw [hy, List.getD_eq_getElem?_getD, List.getElem?_eq_getElem hlt, Option.getD_some]
          exact ⟨fun e => by rw [e]; rfl, fun e => UInt8.toNat_inj.1 e⟩)
        clear hdig hy
        have HF : Hid (¬ (k ≠ 0 ∧ y = 58) → Nw.cut s = none) := Lib.hid (fun h => by
          rw [HA.out]
          unfold Nw.after
          split
          · rfl
          · rw [if_neg (by omega), if_pos (fun e => h ⟨by assumption, HG.out.1 e⟩)])
        by_cases hk0 : k = 0
        · have HE := Lib.hid (HNO.out (HF.out (fun h => h.1 hk0)))
          clear HA HG HF
          subst hk0
          by_cases h1 : 48 ≤ y
          · have h2 : ¬ y ≤ 57 := fun h => hnd ⟨h1, h⟩
            go_wp2
            go_ret3
            exact ⟨HE.out, Below.refl _ _⟩
          · go_wp2
            go_ret3
            exact ⟨HE.out, Below.refl _ _⟩
        · by_cases hy58 : y = 58
          · have HG' := Lib.hid (HG.out.2 hy58)
            subst hy58
            have z1 : ((k : Int) == 0) = false := beq_eq_false_iff_ne.2 (by omega)
            have z2 : ((k : Int) == (s.length : Int)) = false := beq_eq_false_iff_ne.2 (by omega)
            obtain ⟨T, hT⟩ : ∃ T, T = s.drop (k + 1) := ⟨_, rfl⟩
            have hTl : T.length = s.length - (k + 1) := by rw [hT, List.length_drop]
            have HT : Hid ((⟨s.toArray⟩ : ByteArray).extract (k + 1) s.length = ⟨T.toArray⟩) := Lib.hid (by rw [nw_from, hT])
            have HTT := Lib.hid hT
            have HTL := Lib.hid hTl
            have hw1 : IntKind.i64.wrap ((k : Int) + 1) = (k : Int) + 1 := IntWalk.i64_in _ (by omega)
            have hw2 : (0 : Int) ≤ (k : Int) + 1 := by omega
            have hw3 : (k : Int) + 1 ≤ (s.length : Int) := by omega
            have hw4 : ((k : Int) + 1).toNat = k + 1 := by omega
            have hTm : T.length ≤ 1000000 := by omega
            clear hT hTl hnd HF HG
            go_upto_region 9 with fail
            go_cut [7] from 8 (fun x wx => x = .string ⟨T.toArray⟩ ∧ wx = w)
            case first =>
              go_wp2
              go_meet
              exact ⟨congrArg Value.string HT.out, rfl⟩
            obtain ⟨rfl, rfl⟩ := hcut
            rename World => w
            clear hw1 hw2 hw3 hw4 hgy z1 z2 HT
            have HQ : Hid (Nw.cut s = if T.length ≤ n then none else if T.getD n 0 ≠ 44 then none else some (T.take n, T.drop (n + 1))) := Lib.hid (by rw [HA.out, Nw.after_T hk0 hlt HG'.out, ← HTT.out])
            clear HA HG' HTT HTL
            have htz : (⟨T.toArray⟩ : ByteArray).size = T.length := rfl
            have HTZ := Lib.hid htz
            by_cases hnl : n < T.length
            · obtain ⟨z, hz⟩ : ∃ z, z = T[n].toNat := ⟨_, rfl⟩
              have hgz : ((⟨T.toArray⟩ : ByteArray)[n]'(show n < (⟨T.toArray⟩ : ByteArray).size from hnl)).toNat = z := hz.symm
              have HZ4 : Hid (T.getD n 0 = 44 ↔ z = 44) := Lib.hid (by
                rw [hz, List.getD_eq_getElem?_getD, List.getElem?_eq_getElem hnl, Option.getD_some]
                exact ⟨fun e => by rw [e]; rfl, fun e => UInt8.toNat_inj.1 e⟩)
              clear hz
              by_cases hz44 : z = 44
              · have HE : Hid (Ending.returned (.tuple #[.string ⟨(T.take n).toArray⟩, .string ⟨(T.drop (n + 1)).toArray⟩, .bool true]) = .returned (Nw.cutV (Nw.cut s))) := Lib.hid (by rw [HQ.out, if_neg (by omega), if_neg (fun e => e (HZ4.out.2 hz44))]; rfl)
                have SU := Lib.hid (nw_upto T n (by omega))
                have SF := Lib.hid (nw_from T (n + 1))
                have hw1 : IntKind.i64.wrap ((n : Int) + 1) = (n : Int) + 1 := IntWalk.i64_in _ (by omega)
                have hw2 : (0 : Int) ≤ (n : Int) + 1 := by omega
                have hw3 : (n : Int) + 1 ≤ (T.length : Int) := by omega
                have hw4 : ((n : Int) + 1).toNat = n + 1 := by omega
                have hw5 : (0 : Int) ≤ (n : Int) := by omega
                have hw6 : (n : Int) < (T.length : Int) := by omega
                subst hz44
                clear HQ HZ4
                go_wp2_with fail
                go_quiet (fail)
                go_wp2_with fail
                go_ret3
                exact ⟨by rw [← HE.out, ← SU.out, ← SF.out]; rfl, ⟨rfl, rfl, rfl, Nat.le_refl _, fun _ _ => rfl⟩⟩
              · have HE := Lib.hid (HNO.out (by rw [HQ.out]; split; rfl; rw [if_pos (fun e => hz44 (HZ4.out.1 e))]))
                have z3 : ((z : Int) != 44) = true := by simp; omega
                clear HQ HZ4
                go_wp2
                go_ret3
                exact ⟨HE.out, Below.refl _ _⟩
            · have HE := Lib.hid (HNO.out (by rw [HQ.out, if_pos (by omega)]))
              clear HQ
              have hnl' : (T.length : Int) ≤ (n : Int) := by omega
              go_wp2
              go_ret3
              exact ⟨HE.out, Below.refl _ _⟩
          · have HE := Lib.hid (HNO.out (HF.out (fun h => hy58 h.2)))
            have z1 : ((k : Int) == 0) = false := beq_eq_false_iff_ne.2 (by omega)
            have z2 : ((k : Int) == (s.length : Int)) = false := beq_eq_false_iff_ne.2 (by omega)
            have z3 : ((y : Int) != 58) = true := by simp; omega
            clear HA HG HF
            by_cases h1 : 48 ≤ y
            · have h2 : ¬ y ≤ 57 := fun h => hnd ⟨h1, h⟩
              go_wp2
              go_ret3
              exact ⟨HE.out, Below.refl _ _⟩
            · go_wp2
              go_ret3
              exact ⟨HE.out, Below.refl _ _⟩
      · have HE := Lib.hid (HNO.out (by rw [HA.out]; unfold Nw.after; split; rfl; rw [if_pos (by omega)]))
        have e : ¬ (k : Int) < (s.length : Int) := by omega
        clear hdig HA
        by_cases hk0 : k = 0
        · subst hk0
          go_wp2
          go_ret3
          exact ⟨HE.out, Below.refl _ _⟩
        · have e2 : (k : Int) = (s.length : Int) := by omega
          replace e2 := Lib.hid e2
          go_wp2
          all_goals first | (go_ret3; exact ⟨HE.out, Below.refl _ _⟩) | skip
end Go.Proofs.YtmmkekdfbnmemaaGreatDoor

/-
  scrimref29.Cut.
-/
namespace Go.Proofs.YtmmkekdfbnmemaaGreatDoor
open Go.RowKit
set_option maxHeartbeats 4000000
set_option maxRecDepth 100000
set_option linter.unusedVariables false

namespace Nw
/-- Taken off by the number of at most seven digits. -/
theorem cut_k7 {s : List UInt8} (hs : s.length ≤ 100000) : cut s = if Lib.decDigits (Ten.numOf (s.take (k7 s))) = s.take (k7 s) then after s (k7 s) (Ten.numOf (s.take (k7 s))) else none := by
  by_cases h : Dg.lead s ≤ 7
  · have e : k7 s = Dg.lead s := by unfold k7; omega
    rw [e]; rfl
  · have e : k7 s = 7 := by unfold k7; omega
    rw [cut_seven (by omega) (by omega), e]
    split
    · unfold after
      have hl := Dg.lead_le s
      rw [if_neg (by omega), if_neg (by omega), if_pos]
      obtain ⟨h1, h2⟩ := Dg.lead_dig (s := s) (k := 7) (by omega)
      rw [List.getD_eq_getElem?_getD, List.getElem?_eq_getElem h1, Option.getD_some]
      intro e'
      rw [e'] at h2
      exact absurd h2 (by decide)
    · rfl
end Nw
theorem refCut29_any (s : List UInt8) (w : World) (hs : s.length ≤ 100000) :
    Calls Tryz.prog 7 #[.string ⟨s.toArray⟩] w fun e w' => e = .returned (Nw.cutV (Nw.cut s)) ∧ Below w.heap.size w w' := by
  have hsz : (⟨s.toArray⟩ : ByteArray).size = s.length := rfl
  have HSZ := Lib.hid hsz
  have HNO : Hid (Nw.cut s = none → Ending.returned (.tuple #[.string ⟨#[]⟩, .string ⟨#[]⟩, .bool false]) = .returned (Nw.cutV (Nw.cut s))) := Lib.hid (fun h => by rw [h]; rfl)
  have DE := Lib.hid (refDecimal29_any s w (by omega))
  have HK7 := Lib.hid (Nw.cut_k7 hs)
  have hat : Nw.DecAt s (Nw.k7 s) (Ten.numOf (s.take (Nw.k7 s))) := ⟨by unfold Nw.k7; omega, rfl⟩
  have hk7 : Nw.k7 s ≤ 7 := by unfold Nw.k7; omega
  have hkl : Nw.k7 s ≤ s.length := by have := Dg.lead_le s; unfold Nw.k7; omega
  have hn := nw_small hat hk7
  clear hat
  generalize Ten.numOf (s.take (Nw.k7 s)) = n at *
  generalize Nw.k7 s = k at *
  have hdn := (Ten.dec_len (r := n) (k := 9) (by omega)).2
  have DD := fun (w : World) => nw_decimal n w (by omega)
  obtain ⟨D, hD⟩ : ∃ D, D = Lib.decDigits n := ⟨_, rfl⟩
  rw [← hD] at DD hdn HK7
  have HDD := Lib.hid DD
  clear DD hD
  go_enter Tryz.func7, Tryz.ntmps7
  go_wp2_with fail
  refine DE.out.mono ?_
  rintro e w1 ⟨rfl, rfl⟩
  clear DE
  by_cases hk0 : k = 0
  · have HE := Lib.hid (HNO.out (by rw [HK7.out]; split; unfold Nw.after; rw [if_pos hk0]; rfl))
    subst hk0
    clear HK7
    go_wp2_with fail
    go_quiet (fail)
    go_wp2_with fail
    go_ret3
    exact ⟨HE.out, ⟨rfl, rfl, rfl, Nat.le_refl _, fun _ _ => rfl⟩⟩
  · have z1 : ((k : Int) == 0) = false := beq_eq_false_iff_ne.2 (by omega)
    by_cases hlt : k < s.length
    · have z2 : decide (s.length ≤ k) = false := decide_eq_false (by omega)
      obtain ⟨y, hy⟩ : ∃ y, y = s[k].toNat := ⟨_, rfl⟩
      have hgy : ((⟨s.toArray⟩ : ByteArray)[k]'(show k < (⟨s.toArray⟩ : ByteArray).size from hlt)).toNat = y := hy.symm
      have HG : Hid (s.getD k 0 = 58 ↔ y = 58) := Lib.hid (by
        rw [hy, List.getD_eq_getElem?_getD, List.getElem?_eq_getElem hlt, Option.getD_some]
        exact ⟨fun e => by rw [e]; rfl, fun e => UInt8.toNat_inj.1 e⟩)
      clear hy
      by_cases hy58 : y = 58
      · have HG' := Lib.hid (HG.out.2 hy58)
        subst hy58
        obtain ⟨T, hT⟩ : ∃ T, T = s.drop (k + 1) := ⟨_, rfl⟩
        have HQ : Hid (Nw.cut s = if D = s.take k then (if T.length ≤ n then none else if T.getD n 0 ≠ 44 then none else some (T.take n, T.drop (n + 1))) else none) := Lib.hid (by rw [HK7.out, Nw.after_T hk0 hlt HG'.out, ← hT])
        have hTl : T.length = s.length - (k + 1) := by rw [hT, List.length_drop]
        have hw1 : IntKind.i64.wrap ((s.length : Int) - (k : Int)) = (s.length : Int) - (k : Int) := IntWalk.i64_in _ (by omega)
        have hw2 : IntKind.i64.wrap ((s.length : Int) - (k : Int) - 1) = (T.length : Int) := by rw [show (s.length : Int) - (k : Int) - 1 = (T.length : Int) by omega]; exact IntWalk.i64_in _ (by omega)
        have hcol : ((58 : Int) != 58) = false := by decide
        replace hTl := Lib.hid hTl
        by_cases hnl : n < T.length
        · have z4 : decide (T.length ≤ n) = false := decide_eq_false (by omega)
          have hlt2 : k + 1 + n < s.length := by have := hTl.out; omega
          have hw5 : (0 : Int) ≤ (k : Int) + 1 + (n : Int) := by omega
          have hw6 : (k : Int) + 1 + (n : Int) < (s.length : Int) := by omega
          have hw7 : ((k : Int) + 1 + (n : Int)).toNat = k + 1 + n := by omega
          obtain ⟨z, hz⟩ : ∃ z, z = s[k + 1 + n].toNat := ⟨_, rfl⟩
          have hgz : ((⟨s.toArray⟩ : ByteArray)[k + 1 + n]'(show k + 1 + n < (⟨s.toArray⟩ : ByteArray).size from hlt2)).toNat = z := hz.symm
          have HZ4 : Hid (T.getD n 0 = 44 ↔ z = 44) := Lib.hid (by
            rw [hz, hT, List.getD_eq_getElem?_getD, List.getElem?_drop, List.getElem?_eq_getElem hlt2, Option.getD_some]
            exact ⟨fun e => by rw [e]; rfl, fun e => UInt8.toNat_inj.1 e⟩)
          clear hz
          by_cases hz44 : z = 44
          · subst hz44
            have hcom : ((44 : Int) != 44) = false := by decide
            have hk2 : (0 : Int) ≤ (k : Int) := by omega
            have hk3 : (k : Int) ≤ (s.length : Int) := by omega
            have hk4 : ((k : Int)).toNat = k := by omega
            have SU := Lib.hid (nw_upto s k hkl)
            have HQ2 : Hid (Nw.cut s = if D = s.take k then some (T.take n, T.drop (n + 1)) else none) := Lib.hid (by rw [HQ.out]; split; rw [if_neg (by omega), if_neg (fun e => e (HZ4.out.2 rfl))]; rfl)
            have HDQ : ∀ j, Calls Tryz.prog 14 #[.int .i64 (n : Int)] (w.drewN j) fun e w'' => e = .returned (.string ⟨D.toArray⟩) ∧ ∃ i, w'' = w.drewN i := fun j => (HDD.out _).mono (fun e w'' h => ⟨h.1, _, h.2.symm⟩)
            replace HDQ := Lib.hid HDQ
            clear HQ HZ4 HG HG' HK7
            obtain ⟨U, hU⟩ : ∃ U, U = s.take k := ⟨_, rfl⟩
            rw [← hU] at HQ2 SU
            have he : (D == ((⟨s.toArray⟩ : ByteArray).extract 0 k).toList) = decide (D = U) := by
              rw [SU.out, ByteArray.toList_eq]
              by_cases h : D = U
              · rw [decide_eq_true h]; exact beq_iff_eq.2 h
              · rw [decide_eq_false h]; exact beq_eq_false_iff_ne.2 h
            clear hU
            replace hT := Lib.hid hT
            have SA : Hid ((⟨s.toArray⟩ : ByteArray).extract (k + 1) (k + 1 + n) = ⟨(T.take n).toArray⟩) := Lib.hid (by rw [hT.out]; apply ByteArray.ext; simp)
            have SB : Hid ((⟨s.toArray⟩ : ByteArray).extract (k + 2 + n) s.length = ⟨(T.drop (n + 1)).toArray⟩) := Lib.hid (by rw [nw_from, hT.out, List.drop_drop, show k + 2 + n = k + 1 + (n + 1) by omega])
            by_cases hDU : D = U
            · rw [decide_eq_true hDU] at he
              have HE : Hid (Ending.returned (.tuple #[.string ⟨(T.take n).toArray⟩, .string ⟨(T.drop (n + 1)).toArray⟩, .bool true]) = .returned (Nw.cutV (Nw.cut s))) := Lib.hid (by rw [HQ2.out, if_pos hDU]; rfl)
              replace hDU := Lib.hid hDU
              have q1 : (0 : Int) ≤ (k : Int) + 1 := by omega
              have q2 : (k : Int) + 1 ≤ (k : Int) + 1 + (n : Int) := by omega
              have q3 : (k : Int) + 1 + (n : Int) ≤ (s.length : Int) := by omega
              have q4 : ((k : Int) + 1).toNat = k + 1 := by omega
              have q5 : (0 : Int) ≤ (k : Int) + 2 + (n : Int) := by omega
              have q6 : (k : Int) + 2 + (n : Int) ≤ (s.length : Int) := by omega
              have q7 : ((k : Int) + 2 + (n : Int)).toNat = k + 2 + n := by omega
              clear HQ2 HNO
              go_wp2_with fail
              refine wp_region_quiet_lit (by kernel_rfl) (by kernel_rfl) ?_
              repeat (go_big_quiet_step (exact HDQ.out _))
              refine wpQuiet_nil ?_
              rintro _ ⟨nq, rfl⟩
              go_wp2_with fail
              go_quiet (fail)
              go_wp2_with fail
              go_ret3
              exact ⟨by rw [← HE.out, ← SA.out, ← SB.out]; rfl, ⟨rfl, rfl, rfl, Nat.le_refl _, fun _ _ => rfl⟩⟩
            · rw [decide_eq_false hDU] at he
              have HE := Lib.hid (HNO.out (by rw [HQ2.out, if_neg hDU]))
              replace hDU := Lib.hid hDU
              go_wp2_with fail
              refine wp_region_quiet_lit (by kernel_rfl) (by kernel_rfl) ?_
              repeat (go_big_quiet_step (exact HDQ.out _))
              refine wpQuiet_nil ?_
              rintro _ ⟨nq, rfl⟩
              go_wp2_with fail
              go_ret3
              exact ⟨HE.out, ⟨rfl, rfl, rfl, Nat.le_refl _, fun _ _ => rfl⟩⟩
          · have HE := Lib.hid (HNO.out (by rw [HQ.out]; split; rw [if_neg (by omega), if_pos (fun e => hz44 (HZ4.out.1 e))]; rfl))
            have z3 : ((z : Int) != 44) = true := by simp; omega
            clear HQ HZ4 HG HG' HK7 hT
            go_wp2_with fail
            go_quiet (fail)
            go_wp2_with fail
            go_ret3
            exact ⟨HE.out, ⟨rfl, rfl, rfl, Nat.le_refl _, fun _ _ => rfl⟩⟩
        · have HE := Lib.hid (HNO.out (by rw [HQ.out]; split; rw [if_pos (by omega)]; rfl))
          have z4 : decide (T.length ≤ n) = true := decide_eq_true (by omega)
          clear HQ HG HG' HK7 hT
          go_wp2_with fail
          go_quiet (fail)
          go_wp2_with fail
          go_ret3
          exact ⟨HE.out, ⟨rfl, rfl, rfl, Nat.le_refl _, fun _ _ => rfl⟩⟩
      · have HE := Lib.hid (HNO.out (by rw [HK7.out]; split; unfold Nw.after; rw [if_neg hk0, if_neg (by omega), if_pos (fun e => hy58 (HG.out.1 e))]; rfl))
        have z3 : ((y : Int) != 58) = true := by simp; omega
        clear HK7 HG
        go_wp2_with fail
        go_quiet (fail)
        go_wp2_with fail
        go_ret3
        exact ⟨HE.out, ⟨rfl, rfl, rfl, Nat.le_refl _, fun _ _ => rfl⟩⟩
    · have z2 : decide (s.length ≤ k) = true := decide_eq_true (by omega)
      have HE := Lib.hid (HNO.out (by rw [HK7.out]; split; unfold Nw.after; rw [if_neg hk0, if_pos (by omega)]; rfl))
      clear HK7
      go_wp2_with fail
      go_quiet (fail)
      go_wp2_with fail
      go_ret3
      exact ⟨HE.out, ⟨rfl, rfl, rfl, Nat.le_refl _, fun _ _ => rfl⟩⟩
end Go.Proofs.YtmmkekdfbnmemaaGreatDoor

/-
  Sorting no names; a new scope of none, and its names.
-/
namespace Go.Proofs.YtmmkekdfbnmemaaGreatDoor
open Go.RowKit
set_option maxHeartbeats 4000000
set_option maxRecDepth 100000
set_option linter.unusedVariables false

theorem insS0_any (A : Option Addr) (c : Nat) (w : World) :
    Calls Tryz.prog 154 #[.slice A 0 c, .int .i64 0, .int .i64 0] w fun e w' => e = .returned (.tuple #[]) ∧ w = w' := by
  go_enter Tryz.func154, Tryz.ntmps154
  go_wp2_with fail
  go_loop [6] (fun i => i = .int .i64 1) (fun _ => 0)
  case atStart => rfl
  case round =>
    subst hrel
    go_wp2_with fail
    go_end0
    exact ⟨rfl, rfl⟩
theorem pdqS0_any (A : Option Addr) (c : Nat) (n : Int) (w : World) :
    Calls Tryz.prog 97 #[.slice A 0 c, .int .i64 0, .int .i64 0, .int .i64 n] w fun e w' => e = .returned (.tuple #[]) ∧ w = w' := by
  have HI := Lib.hid (insS0_any A c w)
  go_enter Tryz.func97, Tryz.ntmps97
  go_wp2_with fail
  go_loop [1, 2] (fun a b => a = .int .i64 0 ∧ b = .int .i64 0) (fun _ _ => 0)
  case atStart => exact ⟨rfl, rfl⟩
  case round =>
    obtain ⟨rfl, rfl⟩ := hrel
    go_wp2_with fail
    refine HI.out.mono ?_
    rintro e w' ⟨rfl, rfl⟩
    go_wp2_with fail
    refine bodyPost_ret (results_none rfl _ _ _) rfl ?_
    exact ⟨rfl, rfl⟩
theorem len0_any (w : World) :
    Calls Tryz.prog 98 #[.int .u64 0] w fun e w' => e = .returned (.int .i64 0) ∧ w' = w := by
  have HI := Lib.hid (Tryz.bits_Len64 0 w (by decide) (by decide))
  go_enter Tryz.func98, Tryz.ntmps98
  go_wp2_with fail
  refine HI.out.mono ?_
  rintro e w' ⟨rfl, rfl⟩
  go_wp2_with fail
  go_ret
  exact ⟨rfl, rfl⟩
theorem sortS0_any (A : Option Addr) (c : Nat) (w : World) :
    Calls Tryz.prog 63 #[.slice A 0 c] w fun e w' => e = .returned (.tuple #[]) ∧ w = w' := by
  have HL := Lib.hid (len0_any w)
  have HP := Lib.hid (pdqS0_any A c 0 w)
  go_enter Tryz.func63, Tryz.ntmps63
  go_wp2_with fail
  refine HL.out.mono ?_
  rintro e w' ⟨rfl, rfl⟩
  go_wp2_with fail
  refine HP.out.mono ?_
  rintro e w' ⟨rfl, rfl⟩
  go_wp2_with fail
  go_end0
  exact ⟨rfl, rfl⟩
/-- A scope of none: where its struct lies, and its two empty maps. -/
def NoneScope (w : World) (p : Nat) : Prop := ∃ m1 m2 t, w.heap[p]? = some (.cells #[.map (some m1), .map (some m2), .int .i64 0] t (0, 0)) ∧ w.heap[m1]? = some (.map #[] 0) ∧ w.heap[m2]? = some (.map #[] 0)
theorem NoneScope.lt {w : World} {p : Nat} (h : NoneScope w p) : p < w.heap.size := by
  obtain ⟨m1, m2, t, h1, -, -⟩ := h
  exact (Array.getElem?_eq_some_iff.1 h1).1
theorem NoneScope.below {w w' : World} {p : Nat} (h : NoneScope w p) (hb : Below w.heap.size w w') : NoneScope w' p := by
  obtain ⟨m1, m2, t, h1, h2, h3⟩ := h
  exact ⟨m1, m2, t, by rw [hb.block _ (Array.getElem?_eq_some_iff.1 h1).1, h1], by rw [hb.block _ (Array.getElem?_eq_some_iff.1 h2).1, h2], by rw [hb.block _ (Array.getElem?_eq_some_iff.1 h3).1, h3]⟩
theorem len_map0 {T E K ty : TypeId} (hT : Tryz.prog.underlying T = some (.map K E)) {m : Nat} {w : World} (hb : w.heap[m]? = some (.map #[] 0)) :
    (Builtin.len_ #[T] ty #[.map (some m)]).run Tryz.prog w = .ok (.int .i64 0) w := by
  simp [Builtin.len_, run_underlying hT, MapKept.run_getObj_map hb, goInt]
theorem eql_map0 {T E K : TypeId} (hT : Tryz.prog.underlying T = some (.map K E)) (m : Nat) (w : World) : (binOp .eql T (.map (some m)) (.map none)).run Tryz.prog w = .ok (.bool false) w := by
  have e : ∀ d : Nat, (Op.equalIn (d + 1) T (.map (some m)) (.map none)).run Tryz.prog w = .ok false w := fun d => by simp [Op.equalIn, run_underlying hT]
  simp only [binOp]
  simp [show Op.equal T (.map (some m)) (.map none) = Op.equalIn (9999 + 1) T (.map (some m)) (.map none) from rfl, e 9999]
theorem newScope_any (w : World) :
    Calls Tryz.prog 10 #[] w fun e w' => ∃ p, e = .returned (.pointer (some ⟨p, 0, none⟩)) ∧ NoneScope w' p ∧ Below w.heap.size w w' := by
  have q1 : ∀ (T : TypeId) (wx : World), (Instr.makeMap T none).run Tryz.prog wx = .ok (.map (some wx.heap.size)) (wx.alloc (.map #[] 0)) := fun T wx => rfl
  go_enter Tryz.func10, Tryz.ntmps10
  go_wp2_with fail
  refine bodyPost_ret (results_tmp rfl _ _ _) rfl ?_
  have h1 := (Below.refl w.heap.size w).alloc (Nat.le_refl _) (.map #[] 0)
  have h2 := h1.alloc (by simp) (.map #[] 0)
  have h3 := h2.alloc (by simp; omega) (.cells #[.map (some w.heap.size), .map (some (w.heap.size + 1)), .int .i64 0] 82)
  refine ⟨w.heap.size + 1 + 1, rfl, (?_ : NoneScope (((w.alloc (.map #[] 0)).alloc (.map #[] 0)).alloc (.cells #[.map (some w.heap.size), .map (some (w.heap.size + 1)), .int .i64 0] 82)) (w.heap.size + 1 + 1)), h3⟩
  refine ⟨w.heap.size, w.heap.size + 1, 82, ?_, ?_, ?_⟩
  · have := heap_alloc_new ((w.alloc (.map #[] 0)).alloc (.map #[] 0)) (.cells #[.map (some w.heap.size), .map (some (w.heap.size + 1)), .int .i64 0] 82)
    simpa using this
  · rw [heap_alloc_old _ _ (by simp; omega), heap_alloc_old _ _ (by simp), heap_alloc_new]
  · rw [heap_alloc_old _ _ (by simp)]
    have := heap_alloc_new (w.alloc (.map #[] 0)) (.map #[] 0)
    simpa using this
theorem noneNone_any (p : Nat) (w : World) (h : NoneScope w p) :
    Calls Tryz.prog 35 #[.pointer (some ⟨p, 0, none⟩)] w fun e w' => e = .returned (.bool false) ∧ w' = w := by
  obtain ⟨m1, m2, t, h1, h2, h3⟩ := h
  have hc : w.cell? ⟨p, 0, none⟩ = some (.map (some m1)) := by simp [World.cell?, h1]
  have q1 := eql_map0 Tryz.underlying79 m1 w
  clear h1 h2 h3
  go_enter Tryz.func35, Tryz.ntmps35
  go_wp2_with fail
  refine bodyPost_ret (results_tmp rfl _ _ _) rfl ?_
  exact ⟨rfl, rfl⟩
theorem str_infoS : (Tryz.prog.info? 9).map (fun i => (i.zero, i.size, i.bytes)) = some (some (.string ⟨#[]⟩), 1, 16) := by kernel_rfl
theorem make0 (w : World) : (Instr.makeSlice 45 (.int .i64 0) (.int .i64 0)).run Tryz.prog w = .ok (.slice (some ⟨w.heap.size, 0, none⟩) 0 0) (w.alloc (.cells #[] 9)) := by
  obtain ⟨i0, hi0, hz0, hz1, hz2⟩ := info_parts str_infoS
  have h := run_make (P := Tryz.prog) w 45 9 i0 _ Tryz.underlying45 hi0 hz0 .i64 .i64 0 0 (by decide) (by decide) (by rw [Int.mul_zero]; decide) (by decide)
  rw [h]
  simp only [madeCells]
  exact congrArg (fun r => Result.ok (Value.slice (some ⟨w.heap.size, 0, none⟩) 0 0) (w.alloc (.cells r 9))) (Array.eq_empty_of_size_eq_zero (by simp))
theorem riseHeld_any (m : Nat) (w : World) (h : w.heap[m]? = some (.map #[] 0)) :
    Calls Tryz.prog 36 #[.map (some m)] w fun e w' => ∃ A c, e = .returned (.slice A 0 c) ∧ Below w.heap.size w w' := by
  have hm : m < w.heap.size := (Array.getElem?_eq_some_iff.1 h).1
  have q1 : ∀ (ty : TypeId), (Builtin.len_ #[79] ty #[.map (some m)]).run Tryz.prog w = .ok (.int .i64 0) w := fun ty => len_map0 Tryz.underlying79 h
  have q2 := make0 w
  obtain ⟨w1, hw1⟩ : ∃ w1, w1 = w.alloc (.cells #[] 9) := ⟨_, rfl⟩
  have hb1 : Below w.heap.size w w1 := by rw [hw1]; exact (Below.refl _ _).alloc (Nat.le_refl _) _
  have hm1 : w1.heap[m]? = some (.map #[] 0) := by rw [hb1.block m hm, h]
  have q3 := run_range_map (P := Tryz.prog) w1 79 _ _ m #[] 0 Tryz.underlying79 hm1
  have q4 : ∀ ty : TypeId, (Instr.next (.pointer (some ⟨w1.heap.size, 0, none⟩)) false ty).run Tryz.prog (w1.alloc (.mapIter (some m) 0 #[] 0)) = .ok (.tuple #[.bool false]) (w1.alloc (.mapIter (some m) 0 #[] 0)) := fun ty => by
    rcases run_next_map (P := Tryz.prog) w1 ty m 0 0 #[] #[] 0 hm1 (fun x hx => by simp at hx) (Nat.le_refl _) with ⟨-, hr⟩ | ⟨e, he, -⟩
    · exact hr
    · simp [leftOf] at he
  obtain ⟨w2, hw2⟩ : ∃ w2, w2 = w1.alloc (.mapIter (some m) 0 #[] 0) := ⟨_, rfl⟩
  have hb2 : Below w.heap.size w w2 := by rw [hw2]; exact hb1.alloc hb1.size _
  rw [← hw2] at q3 q4
  rw [← hw1] at q2
  clear hw1 hw2 hb1 hm1 h hm
  have HB := Lib.hid hb2
  clear hb2
  obtain ⟨it, hit⟩ : ∃ it, it = w1.heap.size := ⟨_, rfl⟩
  rw [← hit] at q3 q4
  clear hit
  obtain ⟨bk, hbk⟩ : ∃ bk, bk = w.heap.size := ⟨_, rfl⟩
  have HS := Lib.hid (fun wx => sortS0_any (some ⟨bk, 0, none⟩) 0 wx)
  rw [← hbk] at q2
  replace hbk := Lib.hid hbk
  go_enter Tryz.func36, Tryz.ntmps36
  go_wp2_with fail
  go_loopw [3] (fun v wx => v = .slice (some ⟨bk, 0, none⟩) 0 0 ∧ wx = w2) (fun _ _ => 0)
  case atStart => exact ⟨rfl, rfl⟩
  case round =>
    obtain ⟨rfl, rfl⟩ := hrel
    rename World => w2
    go_wp2_with fail
    refine (HS.out _).mono ?_
    rintro e w' ⟨rfl, rfl⟩
    go_wp2_with fail
    refine bodyPost_ret (results_tmp rfl _ _ _) rfl ?_
    exact ⟨_, _, rfl, HB.out⟩
theorem riseFun_any (m : Nat) (w : World) (h : w.heap[m]? = some (.map #[] 0)) :
    Calls Tryz.prog 37 #[.map (some m)] w fun e w' => ∃ A c, e = .returned (.slice A 0 c) ∧ Below w.heap.size w w' := by
  have hm : m < w.heap.size := (Array.getElem?_eq_some_iff.1 h).1
  have q1 : ∀ (ty : TypeId), (Builtin.len_ #[80] ty #[.map (some m)]).run Tryz.prog w = .ok (.int .i64 0) w := fun ty => len_map0 Tryz.underlying80 h
  have q2 := make0 w
  obtain ⟨w1, hw1⟩ : ∃ w1, w1 = w.alloc (.cells #[] 9) := ⟨_, rfl⟩
  have hb1 : Below w.heap.size w w1 := by rw [hw1]; exact (Below.refl _ _).alloc (Nat.le_refl _) _
  have hm1 : w1.heap[m]? = some (.map #[] 0) := by rw [hb1.block m hm, h]
  have q3 := run_range_map (P := Tryz.prog) w1 80 _ _ m #[] 0 Tryz.underlying80 hm1
  have q4 : ∀ ty : TypeId, (Instr.next (.pointer (some ⟨w1.heap.size, 0, none⟩)) false ty).run Tryz.prog (w1.alloc (.mapIter (some m) 0 #[] 0)) = .ok (.tuple #[.bool false]) (w1.alloc (.mapIter (some m) 0 #[] 0)) := fun ty => by
    rcases run_next_map (P := Tryz.prog) w1 ty m 0 0 #[] #[] 0 hm1 (fun x hx => by simp at hx) (Nat.le_refl _) with ⟨-, hr⟩ | ⟨e, he, -⟩
    · exact hr
    · simp [leftOf] at he
  obtain ⟨w2, hw2⟩ : ∃ w2, w2 = w1.alloc (.mapIter (some m) 0 #[] 0) := ⟨_, rfl⟩
  have hb2 : Below w.heap.size w w2 := by rw [hw2]; exact hb1.alloc hb1.size _
  rw [← hw2] at q3 q4
  rw [← hw1] at q2
  clear hw1 hw2 hb1 hm1 h hm
  have HB := Lib.hid hb2
  clear hb2
  obtain ⟨it, hit⟩ : ∃ it, it = w1.heap.size := ⟨_, rfl⟩
  rw [← hit] at q3 q4
  clear hit
  obtain ⟨bk, hbk⟩ : ∃ bk, bk = w.heap.size := ⟨_, rfl⟩
  have HS := Lib.hid (fun wx => sortS0_any (some ⟨bk, 0, none⟩) 0 wx)
  rw [← hbk] at q2
  replace hbk := Lib.hid hbk
  go_enter Tryz.func37, Tryz.ntmps37
  go_wp2_with fail
  go_loopw [3] (fun v wx => v = .slice (some ⟨bk, 0, none⟩) 0 0 ∧ wx = w2) (fun _ _ => 0)
  case atStart => exact ⟨rfl, rfl⟩
  case round =>
    obtain ⟨rfl, rfl⟩ := hrel
    rename World => w2
    go_wp2_with fail
    refine (HS.out _).mono ?_
    rintro e w' ⟨rfl, rfl⟩
    go_wp2_with fail
    refine bodyPost_ret (results_tmp rfl _ _ _) rfl ?_
    exact ⟨_, _, rfl, HB.out⟩
end Go.Proofs.YtmmkekdfbnmemaaGreatDoor

/-
  The names of an empty scope. (Printed by wip/bin/gen_scp2.py.)
-/
namespace Go.Proofs.YtmmkekdfbnmemaaGreatDoor
open Go.RowKit
set_option maxHeartbeats 4000000
set_option maxRecDepth 100000
set_option linter.unusedVariables false

def frameNM (p : Nat) (xs : Nat → Value) : Act := { tmps := #[.pointer (some ⟨p, 0, none⟩), undef, xs 10, xs 11, .pointer (some ⟨p, 0, none⟩), .bool false, xs 0, xs 1, xs 2, xs 3, xs 4, xs 5, xs 6, xs 7, xs 8, xs 9], defers := [] }
def predNM (p m1 m2 : Nat) : Nat → World → Value → Prop
  | 0, w, v => v = .pointer (some ⟨p, 0, none⟩)
  | 1, w, v => v = .pointer (some ⟨p, 0, none⟩)
  | 2, w, v => v = .pointer (some ⟨p, 0, none⟩)
  | 3, w, v => v = .map (some m1)
  | 4, w, v => ∃ A c, v = .slice A 0 c
  | 5, w, v => v = .pointer (some ⟨p, 0, none⟩)
  | 6, w, v => v = .pointer (some ⟨p, 0, none⟩)
  | 7, w, v => v = .pointer (some ⟨p, 1, none⟩)
  | 8, w, v => v = .map (some m2)
  | 9, w, v => ∃ A c, v = .slice A 0 c
  | 10, w, v => ∃ A c, v = .slice A 0 c
  | _, w, v => ∃ A c, v = .slice A 0 c
theorem namesNone_any (p : Nat) (w : World) (h : NoneScope w p) :
    Calls Tryz.prog 16 #[.pointer (some ⟨p, 0, none⟩)] w fun e w' => ∃ A c A' c', e = .returned (.tuple #[.slice A 0 c, .slice A' 0 c']) ∧ Below w.heap.size w w' := by
  have HN := Lib.hid (noneNone_any p w h)
  obtain ⟨m1, m2, t, h1, h2, h3⟩ := h
  have HC0 : Hid (∀ wx, Below w.heap.size w wx → wx.cell? ⟨p, 0, none⟩ = some (.map (some m1))) := Lib.hid (fun wx hx => (hx.cell (p := ⟨p, 0, none⟩) (Array.getElem?_eq_some_iff.1 h1).1).trans (by simp [World.cell?, h1]))
  have HC1 : Hid (∀ wx, Below w.heap.size w wx → wx.cell? ⟨p, 1, none⟩ = some (.map (some m2))) := Lib.hid (fun wx hx => (hx.cell (p := ⟨p, 1, none⟩) (Array.getElem?_eq_some_iff.1 h1).1).trans (by simp [World.cell?, h1]))
  have HR1 := Lib.hid (fun wx (hx : Below w.heap.size w wx) => riseHeld_any m1 wx ((hx.block _ (Array.getElem?_eq_some_iff.1 h2).1).trans h2))
  have HR2 := Lib.hid (fun wx (hx : Below w.heap.size w wx) => riseFun_any m2 wx ((hx.block _ (Array.getElem?_eq_some_iff.1 h3).1).trans h3))
  clear h1 h2 h3
  go_enter Tryz.func16, Tryz.ntmps16
  go_upto_region 3 with (go_at_call 35; refine HN.out.mono ?_; rintro e w' ⟨rfl, rfl⟩)
  rename World => w
  refine wp_region_pred (frameNM p) w (predNM p m1 m2) (by kernel_rfl) ?_ (by kernel_rfl) (fun k => if 9 < k then .slice none 0 0 else undef) rfl (Below.refl _ _) ?_ ?_
  · intro i w1 w2 v hv hb
    match i with
    | 0 => exact hv
    | 1 => exact hv
    | 2 => exact hv
    | 3 => exact hv
    | 4 => exact hv
    | 5 => exact hv
    | 6 => exact hv
    | 7 => exact hv
    | 8 => exact hv
    | 9 => exact hv
    | 10 => exact hv
    | i + 11 => exact hv
  · intro i xs w1 hi hb hdep
    have hi6 : i < 12 := hi
    clear hi
    rcases (show i = 0 ∨ i = 1 ∨ i = 2 ∨ i = 3 ∨ i = 4 ∨ i = 5 ∨ i = 6 ∨ i = 7 ∨ i = 8 ∨ i = 9 ∨ i = 10 ∨ i = 11 by omega) with rfl | rfl | rfl | rfl | rfl | rfl | rfl | rfl | rfl | rfl | rfl | rfl
    · refine wpOp_at rfl rfl ?_
      unfold frameNM Oper.wp
      go_simp
      exact ⟨_, by simp only [frameNM, upd]; simp [Act.put], rfl, Below.refl _ _⟩
    · have h0 : xs 0 = .pointer (some ⟨p, 0, none⟩) := hdep 0 (by kernel_rfl)
      refine wpOp_at rfl rfl ?_
      unfold frameNM Oper.wp
      simp only [h0]
      go_simp
      exact ⟨_, by simp only [frameNM, upd]; simp [Act.put, h0], rfl, Below.refl _ _⟩
    · have h1 : xs 1 = .pointer (some ⟨p, 0, none⟩) := hdep 1 (by kernel_rfl)
      refine wpOp_at rfl rfl ?_
      unfold frameNM Oper.wp
      simp only [h1]
      go_simp
      exact ⟨_, by simp only [frameNM, upd]; simp [Act.put, h1], rfl, Below.refl _ _⟩
    · have h2 : xs 2 = .pointer (some ⟨p, 0, none⟩) := hdep 2 (by kernel_rfl)
      refine wpOp_at rfl rfl ?_
      have q := HC0.out w1 hb
      unfold frameNM Oper.wp
      simp only [h2]
      go_simp
      exact ⟨_, by simp only [frameNM, upd]; simp [Act.put, h2], rfl, Below.refl _ _⟩
    · have h3 : xs 3 = .map (some m1) := hdep 3 (by kernel_rfl)
      refine wpOp_at rfl rfl ?_
      unfold frameNM Oper.wp
      simp only [h3]
      go_simp
      refine (HR1.out w1 hb).mono ?_
      rintro e w2 ⟨A, c, rfl, hb2⟩
      exact ⟨_, by simp only [frameNM, upd]; simp [Act.put, h3], ⟨A, c, rfl⟩, hb2⟩
    · refine wpOp_at rfl rfl ?_
      unfold frameNM Oper.wp
      go_simp
      exact ⟨_, by simp only [frameNM, upd]; simp [Act.put], rfl, Below.refl _ _⟩
    · have h5 : xs 5 = .pointer (some ⟨p, 0, none⟩) := hdep 5 (by kernel_rfl)
      refine wpOp_at rfl rfl ?_
      unfold frameNM Oper.wp
      simp only [h5]
      go_simp
      exact ⟨_, by simp only [frameNM, upd]; simp [Act.put, h5], rfl, Below.refl _ _⟩
    · have h6 : xs 6 = .pointer (some ⟨p, 0, none⟩) := hdep 6 (by kernel_rfl)
      refine wpOp_at rfl rfl ?_
      unfold frameNM Oper.wp
      simp only [h6]
      go_simp
      exact ⟨_, by simp only [frameNM, upd]; simp [Act.put, h6], rfl, Below.refl _ _⟩
    · have h7 : xs 7 = .pointer (some ⟨p, 1, none⟩) := hdep 7 (by kernel_rfl)
      refine wpOp_at rfl rfl ?_
      have q := HC1.out w1 hb
      unfold frameNM Oper.wp
      simp only [h7]
      go_simp
      exact ⟨_, by simp only [frameNM, upd]; simp [Act.put, h7], rfl, Below.refl _ _⟩
    · have h8 : xs 8 = .map (some m2) := hdep 8 (by kernel_rfl)
      refine wpOp_at rfl rfl ?_
      unfold frameNM Oper.wp
      simp only [h8]
      go_simp
      refine (HR2.out w1 hb).mono ?_
      rintro e w2 ⟨A, c, rfl, hb2⟩
      exact ⟨_, by simp only [frameNM, upd]; simp [Act.put, h8], ⟨A, c, rfl⟩, hb2⟩
    · have r4 : ∃ A c, (xs 4) = .slice A 0 c := hdep 4 (by kernel_rfl)
      refine wpOp_at rfl rfl ?_
      obtain ⟨A, c, h4⟩ := r4
      unfold frameNM Oper.wp
      simp only [h4]
      go_simp
      exact ⟨_, by simp only [frameNM, upd]; simp [Act.put, h4], ⟨A, c, rfl⟩, Below.refl _ _⟩
    · have r9 : ∃ A c, (xs 9) = .slice A 0 c := hdep 9 (by kernel_rfl)
      refine wpOp_at rfl rfl ?_
      obtain ⟨A, c, h9⟩ := r9
      unfold frameNM Oper.wp
      simp only [h9]
      go_simp
      exact ⟨_, by simp only [frameNM, upd]; simp [Act.put, h9], ⟨A, c, rfl⟩, Below.refl _ _⟩
  · intro xs w1 hb hx
    obtain ⟨A, c, h10⟩ : ∃ A c, xs 10 = .slice A 0 c := hx 10 (by decide)
    obtain ⟨A', c', h11⟩ : ∃ A c, xs 11 = .slice A 0 c := hx 11 (by decide)
    unfold frameNM
    simp only [h10, h11]
    go_wp2_with fail
    go_ret2
    exact ⟨_, _, _, _, rfl, hb⟩
end Go.Proofs.YtmmkekdfbnmemaaGreatDoor

/-
  space.Save of an empty scope.
-/
namespace Go.Proofs.YtmmkekdfbnmemaaGreatDoor
open Go.RowKit
set_option maxHeartbeats 4000000
set_option maxRecDepth 100000
set_option linter.unusedVariables false

theorem head_net : Nw.net [115, 99, 114, 105, 109, 32, 49] = [55, 58, 115, 99, 114, 105, 109, 32, 49, 44] := by
  unfold Nw.net
  rw [show ([115, 99, 114, 105, 109, 32, 49] : List UInt8).length = 7 from rfl, Lib.decDigits_one (by decide)]
  rfl
theorem saveNone_any (p : Nat) (w : World) (h : NoneScope w p) (hT : Ten20 w) :
    Calls Tryz.prog 9 #[.pointer (some ⟨p, 0, none⟩)] w fun e w' => e = .returned (.tuple #[.string ⟨#[55, 58, 115, 99, 114, 105, 109, 32, 49, 44]⟩, .int .i64 0]) ∧ Below w.heap.size w w' := by
  obtain ⟨W, hW⟩ : ∃ W, W = w.alloc (.cells #[.pointer none, .slice none 0 0] 40) := ⟨_, rfl⟩
  have hb0 : Below w.heap.size w W := by rw [hW]; exact (Below.refl _ _).alloc (Nat.le_refl _) _
  have hs0 : W.heap.size = w.heap.size + 1 := by rw [hW]; simp
  have hbd0 := bldK_new w
  rw [← hW] at hbd0
  have HN := Lib.hid (net29_any [115, 99, 114, 105, 109, 32, 49] W (by decide) (hT.below hb0))
  rw [head_net] at HN
  have HW := Lib.hid hW
  clear hW
  obtain ⟨g, hg⟩ : ∃ g, g = w.heap.size := ⟨_, rfl⟩
  rw [← hg] at hbd0 hs0
  have HBD0 := Lib.hid hbd0
  have HB0 := Lib.hid hb0
  have HG := Lib.hid hg
  have HNS := Lib.hid h
  clear hbd0 hb0 h hT hg
  go_enter Tryz.func9, Tryz.ntmps9
  go_upto_region 2 with fail
  rw [← HW.out, ← HG.out]
  go_wp2_with fail
  refine HN.out.mono ?_
  rintro e W1 ⟨rfl, hb1⟩
  have hgW : g ≤ W.heap.size := by omega
  have hbd1 := bldK_below HBD0.out hb1
  have hbg1 : Below g W W1 := hb1.mono hgW
  have WS := Lib.hid (wsK_any g g [] [55, 58, 115, 99, 114, 105, 109, 32, 49, 44] W1 hbd1 (by decide) (by have := hb1.size; omega))
  clear hbd1
  go_upto_region 3 with (go_at_call 15; refine WS.out.mono ?_; rintro e W2 ⟨⟨v, rfl⟩, hbd2, hb2⟩)
  have hw2 : Below w.heap.size w W2 := HB0.out.trans (by rw [← HG.out]; exact hbg1.trans hb2)
  have NM := Lib.hid (namesNone_any p W2 (HNS.out.below hw2))
  replace hw2 := Lib.hid hw2
  have HBD2 := Lib.hid hbd2
  clear hbd2 hb2 hbg1 hb1
  go_wp2_with (go_at_call 16; refine NM.out.mono ?_; rintro e W3 ⟨A, c, A', c', rfl, hb3⟩)
  have HW3 : Hid (Below w.heap.size w W3) := Lib.hid (hw2.out.trans (hb3.mono hw2.out.size))
  have hbd3 := bldK_below HBD2.out hb3
  have BS := Lib.hid (Tryz.Builder_String_any_k g g _ W3 hbd3 (by rw [HG.out]; exact HW3.out.size))
  clear hbd3 hb3
  go_loop [32] (fun i => i = .int .i64 0) (fun _ => 0)
  case atStart => rfl
  case round =>
    subst hrel
    go_wp2_with fail
    go_loop [77] (fun i => i = .int .i64 0) (fun _ => 0)
    case atStart => rfl
    case round =>
      subst hrel
      go_wp2_with (go_at_call 28; refine BS.out.mono ?_; rintro e w7 ⟨rfl, _, hb7, _⟩)
      go_ret2
      exact ⟨rfl, HW3.out.trans (by rw [← HG.out]; exact hb7)⟩
end Go.Proofs.YtmmkekdfbnmemaaGreatDoor

/-
  The reader: its next net.
-/
namespace Go.Proofs.YtmmkekdfbnmemaaGreatDoor
open Go.RowKit
set_option maxHeartbeats 4000000
set_option maxRecDepth 100000
set_option linter.unusedVariables false

/-- A reader at a block: what is left. -/
def IsReader (w : World) (r : Nat) (s : List UInt8) : Prop := w.heap[r]? = some (.cells #[.string ⟨s.toArray⟩] 85 (0, 0))
theorem IsReader.lt {w : World} {r : Nat} {s : List UInt8} (h : IsReader w r s) : r < w.heap.size := (Array.getElem?_eq_some_iff.1 h).1
theorem IsReader.below {w w' : World} {r : Nat} {s : List UInt8} (h : IsReader w r s) (hb : Below w.heap.size w w') : IsReader w' r s := (hb.block r h.lt).trans h
theorem IsReader.cell {w : World} {r : Nat} {s : List UInt8} (h : IsReader w r s) : w.cell? ⟨r, 0, none⟩ = some (.string ⟨s.toArray⟩) := by unfold IsReader at h; simp [World.cell?, h]
theorem IsReader.frozen {w : World} {r : Nat} {s : List UInt8} (h : IsReader w r s) : w.frozen? ⟨r, 0, none⟩ = false := by unfold IsReader at h; simp [World.frozen?, h]
theorem IsReader.set {w : World} {r : Nat} {s : List UInt8} (h : IsReader w r s) (t : List UInt8) : IsReader (w.setCell ⟨r, 0, none⟩ (.string ⟨t.toArray⟩)) r t := by
  unfold IsReader at *
  show (w.heap.modify r _)[r]? = _
  rw [Array.getElem?_modify, if_pos rfl, h]
  rfl
theorem nextNone_any (s : List UInt8) (r : Nat) (w : World) (hs : s.length ≤ 1000000) (h : IsReader w r s) (hc : Nw.cut s = none) :
    Calls Tryz.prog 29 #[.pointer (some ⟨r, 0, none⟩)] w fun e w' => e = .returned (.tuple #[.string ⟨#[]⟩, .bool false]) ∧ Below w.heap.size w w' := by
  have hr := h.cell
  have C := cut29_any s w hs
  rw [hc] at C
  replace C := Lib.hid C
  clear hc h
  go_enter Tryz.func29, Tryz.ntmps29
  go_wp2_with fail
  refine C.out.mono ?_
  rintro e W1 ⟨rfl, hb1⟩
  unfold Nw.cutV
  go_wp2_with fail
  go_ret2
  exact ⟨rfl, hb1⟩
theorem nextSome_any (s a b : List UInt8) (r : Nat) (w : World) (hs : s.length ≤ 1000000) (h : IsReader w r s) (hc : Nw.cut s = some (a, b)) :
    Calls Tryz.prog 29 #[.pointer (some ⟨r, 0, none⟩)] w fun e w' => e = .returned (.tuple #[.string ⟨a.toArray⟩, .bool true]) ∧ ∃ w1, Below w.heap.size w w1 ∧ w' = w1.setCell ⟨r, 0, none⟩ (.string ⟨b.toArray⟩) := by
  have hr := h.cell
  have C := cut29_any s w hs
  rw [hc] at C
  replace C := Lib.hid C
  clear hc
  have HR := Lib.hid h
  clear h
  go_enter Tryz.func29, Tryz.ntmps29
  go_wp2_with fail
  refine C.out.mono ?_
  rintro e W1 ⟨rfl, hb1⟩
  unfold Nw.cutV
  have hr1 := (HR.out.below hb1).cell
  have hf1 := (HR.out.below hb1).frozen
  have HB1 := Lib.hid hb1
  clear hb1
  go_wp2_with fail
  go_ret2
  exact ⟨rfl, _, HB1.out, rfl⟩
end Go.Proofs.YtmmkekdfbnmemaaGreatDoor

/-
  Nets two by two: at a reader that is at its end there are none.
-/
namespace Go.Proofs.YtmmkekdfbnmemaaGreatDoor
open Go.RowKit
set_option maxHeartbeats 4000000
set_option maxRecDepth 100000
set_option linter.unusedVariables false

theorem pairs_any (fn : Fn) (bs cs : Array Value) (w : World) :
    Calls Tryz.prog 30 #[.func fn bs cs] w fun e w' => e = .returned (.func (.func 52) #[] #[.pointer (some ⟨w.heap.size, 0, none⟩)]) ∧ w' = w.alloc (.cells #[.func fn bs cs] 86) := by
  go_enter Tryz.func30, Tryz.ntmps30
  go_wp2_with fail
  go_ret
  exact ⟨rfl, rfl⟩
theorem cut_nil : Nw.cut [] = none := by unfold Nw.cut; split <;> rfl
theorem below_grownBy {w w' : World} (h : Below w.heap.size w w') : w.grownBy w' none := ⟨h.os, h.tape, h.output, h.size, fun k hk _ => h.block k hk⟩
theorem pairsNone_stops {α : Type} (n bx r : Nat) (encs : α → Array Value) (Kp : World → World → Prop) (w : World) (hb : bx < w.heap.size) (hbx : w.cell? ⟨bx, 0, none⟩ = some (.func (.func 29) #[.pointer (some ⟨r, 0, none⟩)] #[])) (h : IsReader w r []) :
    SeqStopsK Fence.wide n Tryz.prog 52 #[.pointer (some ⟨bx, 0, none⟩)] encs Kp (fun xs => xs = []) (fun _ => False) 0 w := by
  intro l J Jx W hW hJ hJx hY h0
  refine callsIn_wide.2 ?_
  have hc : W.cell? ⟨bx, 0, none⟩ = some (.func (.func 29) #[.pointer (some ⟨r, 0, none⟩)] #[]) := (hW.cell (p := ⟨bx, 0, none⟩) hb).trans hbx
  have HN := Lib.hid (nextNone_any [] r W (by decide) (h.below hW) cut_nil)
  have HJ : Hid (∀ w', Below W.heap.size W w' → J [] w') := Lib.hid (fun w' hb' => hJ _ _ _ none h0 (below_grownBy hb') (fun r e => by cases e))
  clear hJ hJx hY h0 hW hb hbx h
  go_enter Tryz.func52, Tryz.ntmps52
  go_wp2_with fail
  go_loopw [] (fun wx => wx = W) (fun _ => 0)
  case atStart => rfl
  case round =>
    subst hrel
    go_wp2_with fail
    refine HN.out.mono ?_
    rintro e W1 ⟨rfl, hb1⟩
    go_wp2_with fail
    refine bodyPost_ret (results_none rfl _ _ _) rfl ?_
    exact ⟨⟨_, rfl⟩, .inl ⟨[], rfl, HJ.out _ hb1⟩⟩
end Go.Proofs.YtmmkekdfbnmemaaGreatDoor

/-
  space.Load of the text of an empty scope.
-/
namespace Go.Proofs.YtmmkekdfbnmemaaGreatDoor
open Go.RowKit
set_option maxHeartbeats 4000000
set_option maxRecDepth 100000
set_option linter.unusedVariables false

theorem cut_head : Nw.cut [55, 58, 115, 99, 114, 105, 109, 32, 49, 44] = some ([115, 99, 114, 105, 109, 32, 49], []) := by
  have h := Nw.cut_net [115, 99, 114, 105, 109, 32, 49] []
  rw [head_net] at h
  exact h
/-- What space.Load holds while it reads: its two results' cells, the reader, the function that reads on. -/
structure LdAt (g : Nat) (w W : World) (s : List UInt8) : Prop where
  bel : Below g w W
  r2 : W.heap[g]? = some (.cells #[.pointer none] 30 (0, 0))
  r3 : W.heap[g + 1]? = some (.cells #[.int .i64 0] 27 (0, 0))
  rd : IsReader W (g + 1 + 1) s
  fn : W.heap[g + 3]? = some (.cells #[.func (.func 29) #[.pointer (some ⟨g + 1 + 1, 0, none⟩)] #[]] 86 (0, 0))
theorem LdAt.le {g : Nat} {w W : World} {s : List UInt8} (h : LdAt g w W s) : g + 3 < W.heap.size := (Array.getElem?_eq_some_iff.1 h.fn).1
theorem LdAt.below {g : Nat} {w W W' : World} {s : List UInt8} (h : LdAt g w W s) (hb : Below W.heap.size W W') : LdAt g w W' s := by
  have hl := h.le
  exact ⟨h.bel.trans (hb.mono (by omega)), (hb.block _ (by omega)).trans h.r2, (hb.block _ (by omega)).trans h.r3, h.rd.below hb, (hb.block _ (by omega)).trans h.fn⟩
theorem setCell_block {W : World} {a : Addr} {v : Value} {k : Nat} (h : k ≠ a.block) : (W.setCell a v).heap[k]? = W.heap[k]? := by
  show (W.heap.modify a.block _)[k]? = _
  rw [Array.getElem?_modify, if_neg (fun e => h e.symm)]
theorem LdAt.set {g : Nat} {w W : World} {s : List UInt8} (h : LdAt g w W s) (t : List UInt8) : LdAt g w (W.setCell ⟨g + 1 + 1, 0, none⟩ (.string ⟨t.toArray⟩)) t :=
  ⟨h.bel.setCell (p := ⟨g + 1 + 1, 0, none⟩) (by show g ≤ g + 1 + 1; omega) _, (setCell_block (by show g ≠ g + 1 + 1; omega)).trans h.r2, (setCell_block (by show g + 1 ≠ g + 1 + 1; omega)).trans h.r3, h.rd.set t, (setCell_block (by show g + 3 ≠ g + 1 + 1; omega)).trans h.fn⟩
theorem LdAt.cell {g : Nat} {w W : World} {s : List UInt8} (h : LdAt g w W s) : W.cell? ⟨g + 3, 0, none⟩ = some (.func (.func 29) #[.pointer (some ⟨g + 1 + 1, 0, none⟩)] #[]) := by simp [World.cell?, h.fn]
theorem ld_new (w : World) (s : List UInt8) (W2 : World) (h : W2 = ((w.alloc (.cells #[.pointer none] 30)).alloc (.cells #[.int .i64 0] 27)).alloc (.cells #[.string ⟨s.toArray⟩] 85)) :
    LdAt w.heap.size w (W2.alloc (.cells #[.func (.func 29) #[.pointer (some ⟨w.heap.size + 1 + 1, 0, none⟩)] #[]] 86)) s := by
  subst h
  refine ⟨?_, ?_, ?_, ?_, ?_⟩
  · exact ((((Below.refl _ _).alloc (Nat.le_refl _) _).alloc (by simp) _).alloc (by simp <;> omega) _).alloc (by simp <;> omega) _
  · rw [heap_alloc_old _ _ (by simp <;> omega), heap_alloc_old _ _ (by simp <;> omega), heap_alloc_old _ _ (by simp), heap_alloc_new]
  · rw [heap_alloc_old _ _ (by simp <;> omega), heap_alloc_old _ _ (by simp)]
    have := heap_alloc_new (w.alloc (.cells #[.pointer none] 30)) (.cells #[.int .i64 0] 27)
    simpa using this
  · unfold IsReader
    rw [heap_alloc_old _ _ (by simp)]
    have := heap_alloc_new ((w.alloc (.cells #[.pointer none] 30)).alloc (.cells #[.int .i64 0] 27)) (.cells #[.string ⟨s.toArray⟩] 85)
    simpa using this
  · have := heap_alloc_new (((w.alloc (.cells #[.pointer none] 30)).alloc (.cells #[.int .i64 0] 27)).alloc (.cells #[.string ⟨s.toArray⟩] 85)) (.cells #[.func (.func 29) #[.pointer (some ⟨w.heap.size + 1 + 1, 0, none⟩)] #[]] 86)
    simpa using this
theorem cell_row1 {W : World} {b : Nat} {v : Value} {t : TypeId} (h : W.heap[b]? = some (.cells #[v] t (0, 0))) : W.cell? ⟨b, 0, none⟩ = some v := by simp [World.cell?, h]
theorem frozen_row1 {W : World} {b : Nat} {v : Value} {t : TypeId} (h : W.heap[b]? = some (.cells #[v] t (0, 0))) : W.frozen? ⟨b, 0, none⟩ = false := by simp [World.frozen?, h]
theorem set_row1 {W : World} {b : Nat} {v : Value} {t : TypeId} (h : W.heap[b]? = some (.cells #[v] t (0, 0))) (v' : Value) : (W.setCell ⟨b, 0, none⟩ v').heap[b]? = some (.cells #[v'] t (0, 0)) := by
  show (W.heap.modify b _)[b]? = _
  rw [Array.getElem?_modify, if_pos rfl, h]
  rfl
theorem cell_new1 (W : World) (v : Value) (t : TypeId) : (W.alloc (.cells #[v] t)).cell? ⟨W.heap.size, 0, none⟩ = some v := cell_row1 (heap_alloc_new W _)
/-- .. and beside it the new scope, all of it below B. -/
structure LdIn (g : Nat) (w : World) (p b8 B : Nat) (W : World) : Prop where
  at_ : LdAt g w W []
  sc : ∃ m1 m2 t, p < B ∧ m1 < B ∧ m2 < B ∧ W.heap[p]? = some (.cells #[.map (some m1), .map (some m2), .int .i64 0] t (0, 0)) ∧ W.heap[m1]? = some (.map #[] 0) ∧ W.heap[m2]? = some (.map #[] 0)
  r8 : W.heap[b8]? = some (.cells #[.pointer (some ⟨p, 0, none⟩)] 30 (0, 0))
  l8 : b8 < B
  lg : g + 3 < B
  le : B ≤ W.heap.size
theorem ld_in {g : Nat} {w : World} {p b8 : Nat} {W : World} (h1 : LdAt g w W []) (h2 : NoneScope W p) (h3 : W.heap[b8]? = some (.cells #[.pointer (some ⟨p, 0, none⟩)] 30 (0, 0))) : LdIn g w p b8 W.heap.size W := by
  obtain ⟨m1, m2, t, e1, e2, e3⟩ := h2
  exact ⟨h1, ⟨m1, m2, t, (Array.getElem?_eq_some_iff.1 e1).1, (Array.getElem?_eq_some_iff.1 e2).1, (Array.getElem?_eq_some_iff.1 e3).1, e1, e2, e3⟩, h3, (Array.getElem?_eq_some_iff.1 h3).1, h1.le, Nat.le_refl _⟩
theorem LdIn.scope {g : Nat} {w : World} {p b8 B : Nat} {W : World} (h : LdIn g w p b8 B W) : NoneScope W p := by
  obtain ⟨m1, m2, t, -, -, -, e1, e2, e3⟩ := h.sc
  exact ⟨m1, m2, t, e1, e2, e3⟩
theorem LdIn.grown {g : Nat} {w : World} {p b8 B : Nat} {W W' : World} {row : Option Nat} (h : LdIn g w p b8 B W) (hg : W.grownBy W' row) (hr : ∀ r, row = some r → B ≤ r) : LdIn g w p b8 B W' := by
  have hk : ∀ k, k < B → W'.heap[k]? = W.heap[k]? := fun k hk => hg.block k (Nat.lt_of_lt_of_le hk h.le) (fun e => by have := hr k e.symm; omega)
  obtain ⟨⟨h1, h2, h3, h4, h5⟩, ⟨m1, m2, t, l0, l1, l2, e1, e2, e3⟩, h6, h7, h8, h9⟩ := h
  exact ⟨⟨h1.grown hg (by omega) (fun k e => by have := hr k e; omega), (hk _ (by omega)).trans h2, (hk _ (by omega)).trans h3, (hk _ (by omega)).trans h4, (hk _ (by omega)).trans h5⟩, ⟨m1, m2, t, l0, l1, l2, (hk _ l0).trans e1, (hk _ l1).trans e2, (hk _ l2).trans e3⟩, (hk _ h7).trans h6, h7, h8, Nat.le_trans h9 hg.size⟩
theorem LdIn.below {g : Nat} {w : World} {p b8 B : Nat} {W W' : World} (h : LdIn g w p b8 B W) (hb : Below W.heap.size W W') : LdIn g w p b8 B W' := h.grown (row := none) (below_grownBy hb) (fun r e => by cases e)
theorem loadHead_any (w : World) (hT : Ten20 w) :
    Calls Tryz.prog 11 #[.string ⟨#[55, 58, 115, 99, 114, 105, 109, 32, 49, 44]⟩] w fun e w' => (∃ p, e = .returned (.tuple #[.pointer (some p), .int .i64 0])) ∧ Below w.heap.size w w' := by
  obtain ⟨W2, hW2⟩ : ∃ W2, W2 = ((w.alloc (.cells #[.pointer none] 30)).alloc (.cells #[.int .i64 0] 27)).alloc (.cells #[.string ⟨#[55, 58, 115, 99, 114, 105, 109, 32, 49, 44]⟩] 85) := ⟨_, rfl⟩
  have hs2 : W2.heap.size = w.heap.size + 3 := by rw [hW2]; simp
  have hld := ld_new w [55, 58, 115, 99, 114, 105, 109, 32, 49, 44] W2 hW2
  have HW2 := Lib.hid hW2
  have HS2 := Lib.hid hs2
  obtain ⟨W3, hW3⟩ : ∃ W3, W3 = W2.alloc (.cells #[.func (.func 29) #[.pointer (some ⟨w.heap.size + 1 + 1, 0, none⟩)] #[]] 86) := ⟨_, rfl⟩
  rw [← hW3] at hld
  have HW3 := Lib.hid hW3
  have HLD := Lib.hid hld
  have NX := Lib.hid (nextSome_any _ _ _ _ W3 (by decide) hld.rd cut_head)
  have hc3 := hld.cell
  have HT := Lib.hid hT
  obtain ⟨g, hg⟩ : ∃ g, g = w.heap.size := ⟨_, rfl⟩
  have HG := Lib.hid hg
  clear hT
  refine (callsIn_wide (n := 9)).1 ?_
  refine callsIn_of_wp_marks Tryz.func11 rfl trivial ?_ rfl
  refine wpIn_wide.2 ?_
  simp only [Tryz.ntmps11, List.size_toArray, List.length_cons, List.length_nil, Nat.reduceAdd, Nat.reduceSub, Array.replicate_succ, Array.replicate_zero, List.push_toArray, List.append_toArray, List.nil_append, List.cons_append]
  clear hW2 hs2 hW3 hld
  go_upto_region 2 with fail
  rw [← HW2.out]
  go_upto_region 3 with fail
  rw [← HW3.out, HS2.out]
  rw [← hg] at HLD NX hc3 ⊢
  clear hg
  go_upto_region 4 with fail
  refine NX.out.mono ?_
  rintro e W4 ⟨rfl, w1, hb1, rfl⟩
  have HLD4 := Lib.hid ((HLD.out.below hb1).set [])
  generalize w1.setCell ⟨g + 1 + 1, 0, none⟩ (.string ⟨[].toArray⟩) = W4 at *
  clear NX HLD hc3 hb1
  have SN := Lib.hid (fun wx => newScope_any wx)
  go_upto_region 7 with (refine (SN.out _).mono ?_; rintro e W5 ⟨p, rfl, hns, hb5⟩)
  have hld6 := HLD4.out.below hb5
  have hld6' : LdAt g w (W5.alloc (.cells #[.pointer (some ⟨p, 0, none⟩)] 30)) [] := hld6.below ((Below.refl _ _).alloc (Nat.le_refl _) _)
  have hns6 : NoneScope (W5.alloc (.cells #[.pointer (some ⟨p, 0, none⟩)] 30)) p := hns.below ((Below.refl _ _).alloc (Nat.le_refl _) _)
  have hin6 := ld_in hld6' hns6 (heap_alloc_new W5 _)
  generalize W5.alloc (.cells #[.pointer (some ⟨p, 0, none⟩)] 30) = W6 at *
  generalize W5.heap.size = b8 at *
  have hc6 := hld6'.cell
  have PR := Lib.hid (pairs_any (.func 29) #[.pointer (some ⟨g + 1 + 1, 0, none⟩)] #[] W6)
  have HIN6 := Lib.hid hin6
  clear hld6 hld6' hns6 hin6 hns hb5 SN HLD4
  go_wp2_with (refine PR.out.mono ?_; rintro e W7 ⟨rfl, rfl⟩)
  have hin7 : LdIn g w p b8 W6.heap.size (W6.alloc (.cells #[.func (.func 29) #[.pointer (some ⟨g + 1 + 1, 0, none⟩)] #[]] 86)) := HIN6.out.below ((Below.refl _ _).alloc (Nat.le_refl _) _)
  have hcx := cell_new1 W6 (.func (.func 29) #[.pointer (some ⟨g + 1 + 1, 0, none⟩)] #[]) 86
  have hsx : W6.heap.size < (W6.alloc (.cells #[.func (.func 29) #[.pointer (some ⟨g + 1 + 1, 0, none⟩)] #[]] 86)).heap.size := by simp
  generalize W6.alloc (.cells #[.func (.func 29) #[.pointer (some ⟨g + 1 + 1, 0, none⟩)] #[]] 86) = W7 at *
  generalize W6.heap.size = bx at *
  have HIN7 := Lib.hid hin7
  clear hc6 PR HIN6
  refine (wpIn_wide (n := 9)).1 ?_
  refine wpIn_rangeFunc_ownF (F := Fence.wide) (α := Empty) rfl (by decide) (gf := 52) (lb := #[.pointer (some ⟨bx, 0, none⟩)]) rfl trivial (enters_of Tryz.func52 (by kernel_rfl) rfl)
    (pairsNone_stops (α := Empty) 8 bx (g + 1 + 1) (fun x => x.elim) (fun _ _ => True) W7 hsx hcx hin7.at_.rd) (fun _ _ => trivial) (fun _ _ _ _ _ _ _ _ => trivial) (Below.refl _ _) (fun x => x.elim)
    (fun _ W => LdIn g w p b8 bx W) (fun _ _ _ => False)
    (fun s W W' row hs hg hr => hs.grown hg (fun r e => by have := (hr r e).1; omega))
    (fun _ _ _ _ _ hs _ _ => hs)
    hin7 (fun x => x.elim) ?assign ?body ?done ?stop
  case assign =>
    intro l x
    exact x.elim
  case body =>
    intro l pre x
    exact x.elim
  case stop =>
    rintro D c pre W _ _ h _
    exact h.elim
  case done =>
    rintro D xs W hD - hin hK
    have hgD : g ≤ D := by have := hin7.lg; have := hin7.le; omega
    have hc8 := cell_row1 hin.r8
    have SV := Lib.hid (saveNone_any p W hin.scope (HT.out.below (by rw [← HG.out]; exact hin.at_.bel)))
    have HIN := Lib.hid hin
    have HK := Lib.hid hK
    clear hin hK HIN7 hin7 hcx hsx HW2 HS2 HW3
    go_upto_region 14 with fail
    go_upto_region 15 with (go_at_call 9; refine SV.out.mono ?_; rintro e W9 ⟨rfl, hb9⟩)
    have hin9 := HIN.out.below hb9
    have hk9 : W9.heap[D]? = some (.deferred (some [])) := (hb9.block _ (Array.getElem?_eq_some_iff.1 HK.out).1).trans HK.out
    have h8 := cell_row1 hin9.r8
    have h2 := cell_row1 hin9.at_.r2
    have f2 := frozen_row1 hin9.at_.r2
    have h3 := cell_row1 hin9.at_.r3
    have f3 := frozen_row1 hin9.at_.r3
    have HIN9 := Lib.hid hin9
    have HK9 := Lib.hid hk9
    clear hin9 hk9 HIN HK hc8 SV hb9
    go_wp2_with fail
    have hk10 : ((W9.setCell ⟨g, 0, none⟩ (.pointer (some ⟨p, 0, none⟩))).setCell ⟨g + 1, 0, none⟩ (.int .i64 0)).heap[D]? = some (.deferred (some [])) :=
      (KeepsOthers.setCell _ ⟨g + 1, 0, none⟩ _).same D _ ((KeepsOthers.setCell _ ⟨g, 0, none⟩ _).same D _ HK9.out rfl) rfl
    have hb10 : Below g w ((W9.setCell ⟨g, 0, none⟩ (.pointer (some ⟨p, 0, none⟩))).setCell ⟨g + 1, 0, none⟩ (.int .i64 0)) := (HIN9.out.at_.bel.setCell (p := ⟨g, 0, none⟩) (Nat.le_refl _) _).setCell (p := ⟨g + 1, 0, none⟩) (Nat.le_succ _) _
    have c2 : ((W9.setCell ⟨g, 0, none⟩ (.pointer (some ⟨p, 0, none⟩))).setCell ⟨g + 1, 0, none⟩ (.int .i64 0)).cell? ⟨g, 0, none⟩ = some (.pointer (some ⟨p, 0, none⟩)) := cell_row1 ((setCell_block (by show g ≠ g + 1; omega)).trans (set_row1 HIN9.out.at_.r2 _))
    have c3 : ((W9.setCell ⟨g, 0, none⟩ (.pointer (some ⟨p, 0, none⟩))).setCell ⟨g + 1, 0, none⟩ (.int .i64 0)).cell? ⟨g + 1, 0, none⟩ = some (.int .i64 0) := cell_row1 (set_row1 ((setCell_block (by show g + 1 ≠ g; omega)).trans HIN9.out.at_.r3) _)
    refine ⟨by simp, .inl ⟨_, _, rfl, run_takeDeferred hk10, ?_⟩⟩
    have d2 := cell_kept c2 (grownBy_putObj' _ D (.deferred none)) (fun r e => by cases e; exact ⟨_, hk10, rfl⟩)
    have d3 := cell_kept c3 (grownBy_putObj' _ D (.deferred none)) (fun r e => by cases e; exact ⟨_, hk10, rfl⟩)
    refine ⟨.tuple #[.pointer (some ⟨p, 0, none⟩), .int .i64 0], ?_, ⟨_, rfl⟩, ?_⟩
    · simp [results, Tryz.f11, go_sem, d2, d3]
    · rw [← HG.out]
      exact hb10.trans (belowK_b (w := w) (n₀ := g) (Nat.le_of_eq HG.out) _ D _ _ (by rw [← HG.out]; exact hgD) hk10 rfl rfl)
end Go.Proofs.YtmmkekdfbnmemaaGreatDoor

/-
  scrimlaw29.awake.
-/
namespace Go.Proofs.YtmmkekdfbnmemaaGreatDoor
open Go.RowKit
set_option maxHeartbeats 4000000
set_option maxRecDepth 100000
set_option linter.unusedVariables false

theorem awake29_any (w : World) (hT : Ten20 w) :
    Calls Tryz.prog 4 #[] w fun e w' => e = .returned (.bool true) ∧ Below w.heap.size w w' := by
  have SN := Lib.hid (newScope_any w)
  have SV := Lib.hid (fun (w1 : World) (hb : Below w.heap.size w w1) p (hn : NoneScope w1 p) => saveNone_any p w1 hn (hT.below hb))
  have LH := Lib.hid (fun (w1 : World) (hb : Below w.heap.size w w1) => loadHead_any w1 (hT.below hb))
  clear hT
  go_enter Tryz.func4, Tryz.ntmps4
  go_wp2_with fail
  refine SN.out.mono ?_
  rintro e w1 ⟨p, rfl, hn, hb1⟩
  go_wp2_with fail
  refine (SV.out _ hb1 _ hn).mono ?_
  rintro e w2 ⟨rfl, hb2⟩
  have hb2' := hb1.trans (hb2.mono hb1.size)
  go_wp2_with fail
  refine (LH.out _ hb2').mono ?_
  rintro e w3 ⟨⟨q, rfl⟩, hb3⟩
  have hb3' := hb2'.trans (hb3.mono hb2'.size)
  clear hb1 hb2 hb3 hb2' hn SV LH SN
  go_wp2_with fail
  go_ret
  exact ⟨rfl, hb3'⟩
end Go.Proofs.YtmmkekdfbnmemaaGreatDoor

/-
  scrimlaw29.SpaceNets.
-/
namespace Go.Proofs.YtmmkekdfbnmemaaGreatDoor
open Go.RowKit
set_option maxHeartbeats 4000000
set_option maxRecDepth 100000
set_option linter.unusedVariables false

theorem spaceNets_walk (s t : ByteArray) (w : World) (hs : s.size ≤ maxLen) (ht : t.size ≤ maxLen) (hT : Ten20 w) :
    Calls Tryz.prog 3 #[.string s, .string t] w fun e w' => e = .returned (.bool true) ∧ Below w.heap.size w w' := by
  have AW := Lib.hid (fun (w1 : World) (hb : Below w.heap.size w w1) => awake29_any w1 (hT.below hb))
  have hmax : (maxLen : Nat) = 9223372036854775807 := rfl
  by_cases hbig : 1500 < s.size
  · have AW0 := Lib.hid (AW.out w (Below.refl _ _))
    have qs : (1500 : Int) < (s.size : Int) := by omega
    clear hT AW
    go_enter Tryz.func3, Tryz.ntmps3
    go_wp2_with fail
    refine AW0.out.mono ?_
    rintro e w1 ⟨rfl, hb1⟩
    go_wp2_with fail
    go_ret
    exact ⟨rfl, hb1⟩
  · by_cases hbig2 : 1500 < t.size
    · have AW0 := Lib.hid (AW.out w (Below.refl _ _))
      have qs : ¬ (1500 : Int) < (s.size : Int) := by omega
      have qt : (1500 : Int) < (t.size : Int) := by omega
      clear hT AW
      go_enter Tryz.func3, Tryz.ntmps3
      go_wp2_with fail
      refine AW0.out.mono ?_
      rintro e w1 ⟨rfl, hb1⟩
      go_wp2_with fail
      go_ret
      exact ⟨rfl, hb1⟩
    · obtain ⟨S, rfl⟩ : ∃ S : List UInt8, s = ⟨S.toArray⟩ := ⟨s.data.toList, by simp⟩
      obtain ⟨T, rfl⟩ : ∃ T : List UInt8, t = ⟨T.toArray⟩ := ⟨t.data.toList, by simp⟩
      have hS : S.length ≤ 1500 := by simpa [ByteArray.size] using hbig
      have hT' : T.length ≤ 1500 := by simpa [ByteArray.size] using hbig2
      have hnl : (Nw.net S).length ≤ 20000 := by
        have := (Ten.dec_len (r := S.length) (k := 9) (by omega)).2
        unfold Nw.net
        simp only [List.length_append, List.length_cons, List.length_nil]
        omega
      have qs : ¬ (1500 : Int) < (S.length : Int) := by omega
      have qt : ¬ (1500 : Int) < (T.length : Int) := by omega
      have ql : ¬ 9223372036854775807 < (Nw.net S).length + T.length := by omega
      have ezs : (⟨S.toArray⟩ : ByteArray).size = S.length := rfl
      have ezt : (⟨T.toArray⟩ : ByteArray).size = T.length := rfl
      have ezn : (⟨(Nw.net S).toArray⟩ : ByteArray).size = (Nw.net S).length := rfl
      have N1 := Lib.hid (fun (w1 : World) (hb : Below w.heap.size w w1) => net29_any S w1 (by omega) (hT.below hb))
      have RN := Lib.hid (fun (w1 : World) => refNet_any S w1 (by omega))
      have C1 := fun (w1 : World) => cut29_any (Nw.net S ++ T) w1 (by rw [List.length_append]; omega)
      rw [Nw.cut_net, ← nw_app] at C1
      replace C1 := Lib.hid C1
      have C2 := Lib.hid (fun (w1 : World) => cut29_any S w1 (by omega))
      have RC := Lib.hid (fun (w1 : World) => refCut29_any S w1 (by omega))
      have HU := Lib.hid (show ∃ a b c, Nw.cutV (Nw.cut S) = .tuple #[.string a, .string b, .bool c] from by
        rcases Nw.cut S with - | ⟨a, b⟩
        · exact ⟨_, _, _, rfl⟩
        · exact ⟨_, _, _, rfl⟩)
      generalize Nw.cutV (Nw.cut S) = CV at *
      obtain ⟨a, b, c, hu⟩ := HU.out
      subst hu
      clear hT HU hnl hs ht hbig hbig2
      generalize Nw.net S = NS at *
      go_enter Tryz.func3, Tryz.ntmps3
      go_wp2_with fail
      refine (N1.out _ (Below.refl _ _)).mono ?_
      rintro e w1 ⟨rfl, hb1⟩
      go_wp2_with fail
      refine (C1.out _).mono ?_
      rintro e w2 ⟨rfl, hb2⟩
      have hb2' := hb1.trans (hb2.mono hb1.size)
      unfold Nw.cutV
      go_wp2_with fail
      refine (C2.out _).mono ?_
      rintro e w3 ⟨rfl, hb3⟩
      have hb3' := hb2'.trans (hb3.mono hb2'.size)
      go_wp2_with fail
      refine (RC.out _).mono ?_
      rintro e w4 ⟨rfl, hb4⟩
      have hb4' := hb3'.trans (hb4.mono hb3'.size)
      go_wp2_with fail
      refine (N1.out _ hb4').mono ?_
      rintro e w5 ⟨rfl, hb5⟩
      have hb5' := hb4'.trans (hb5.mono hb4'.size)
      go_wp2_with fail
      refine (RN.out _).mono ?_
      rintro e w6 ⟨rfl, rfl⟩
      clear hb1 hb2 hb2' hb3 hb3' hb4 hb4' hb5 N1 RN C1 C2 RC
      have e6 : (c == c) = true := beq_self_eq_true _
      go_wp2_with fail
      refine (AW.out _ hb5').mono ?_
      rintro e w7 ⟨rfl, hb7⟩
      go_wp2_with fail
      go_ret
      exact ⟨rfl, hb5'.trans (hb7.mono hb5'.size)⟩
end Go.Proofs.YtmmkekdfbnmemaaGreatDoor

/-
  From the rows' condition on listed variables (seven variables) to the fact that the walks ask; a world that meets it.
-/
namespace Go.Proofs.YtmmkekdfbnmemaaGreatDoor
open Go.ChangeShapes Go.WideShapes Go.ChangeAt Go.RowKit

theorem gPow : Tryz.prog.globalNamed "internal/strconv.uint64pow10" = some 1 := by kernel_rfl
theorem tPow : (Tryz.prog.globals[1]?).map (·.type) = some 199 := by kernel_rfl
theorem cPow : Tryz.prog.cellsOf 199 = 20 := by kernel_rfl
theorem cWord : Tryz.prog.cellsOf 48 = 1 := by kernel_rfl

def laidN : List (String × DataW Unit) := [("math/bits.deBruijn32tab", Rows.laid_math_bits_deBruijn32tab), ("math/bits.deBruijn64tab", Rows.laid_math_bits_deBruijn64tab), ("internal/strconv.uint64pow10", Rows.laid_internal_strconv_uint64pow10), ("unicode/utf8.acceptRanges", Rows.laid_unicode_utf8_acceptRanges), ("strconv.ErrRange", Rows.laid_strconv_ErrRange), ("strconv.ErrSyntax", Rows.laid_strconv_ErrSyntax), ("unicode/utf8.first", Rows.laid_unicode_utf8_first)]
theorem door_met (os : Os) (args : Array Value) : laidMetH Tryz.prog laidN ((World.laidAll Tryz.prog os laidN).forCall (fun _ _ => 0) ⟨#[], args, []⟩).memory := by
  rw [MakeChecks.laidMetH_plain _ _ _ (by kernel_rfl)]
  exact laidMet_laidAll _ (by kernel_rfl) (by kernel_rfl)
theorem of_laid {W : World} (h : laidMetH Tryz.prog laidN W) : Ten20 W := by
  rw [MakeChecks.laidMetH_plain _ _ _ (by kernel_rfl)] at h
  have h2 := h.tail.tail
  have hT := Lib.tabIs_of_head (k := .u64) (zs := Lib.pow10Tab) gPow tPow Tryz.underlying199 Tryz.underlying48 cWord cPow h2
  refine ⟨hT, fun g e => ?_⟩
  obtain rfl := Option.some.inj (gPow.symm.trans e)
  exact World.block_lt_of_cell? W _ (hT.cell gPow 0 (by decide))
end Go.Proofs.YtmmkekdfbnmemaaGreatDoor
