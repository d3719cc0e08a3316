/-
  What scrimref01.Tags computes; the walk of the law LabelTags.
-/
import Derived.Test.YtaaapjoopchgiaaDoorLabAwake
import Derived.Test.YtaaapjoopchgiaaDoorInts
namespace Go.Proofs.YtaaapjoopchgiaaDoor
open Go.RowKit
set_option maxHeartbeats 1000000
set_option maxRecDepth 100000
set_option linter.unusedVariables false

theorem refTags_any (l : Nat) (w : World) (hl : l < 18446744073709551616) :
    Calls Tryd.prog 33 #[.int .u64 (l : Int)] w fun e w' => ∃ v, e = .returned v ∧ w'.ownsRow w.heap.size 3 1 v (Lab.tags l).length ((Lab.tags l).map fun t : Nat => Value.int .i64 (t : Int)) ∧ Below w.heap.size w w' := by
  obtain ⟨i0, hi, hz0, hz1, hz2⟩ := info_parts int_info
  go_enter Tryd.func33, Tryd.ntmps33
  go_wp2_with fail
  go_loopw [3, 4] (fun v i wr => ∃ k : Nat, k ≤ 64 ∧ i = .int .i64 (k : Int) ∧ wr.ownsRow w.heap.size 3 1 v (((List.range k).filter fun t => l.testBit t).length) (((List.range k).filter fun t => l.testBit t).map fun t : Nat => Value.int .i64 (t : Int)) ∧ Below w.heap.size w wr) (fun _ i _ => 64 - (intOf i).toNat)
  case atStart => exact ⟨0, by omega, rfl, World.ownsRow_nil _ _ _ _, Below.refl _ _⟩
  case round =>
    obtain ⟨k, hk, rfl, hown, hbel⟩ := hrel
    have hsz := hbel.size
    have hfl : ((List.range k).filter fun t => l.testBit t).length ≤ k := by
      have := List.length_filter_le (fun t => l.testBit t) (List.range k)
      simpa using this
    by_cases hlt : k < 64
    · have HS : Hid ((List.range (k + 1)).filter (fun t => l.testBit t) = (List.range k).filter (fun t => l.testBit t) ++ if l.testBit k then [k] else []) := Lib.hid (by
        rw [List.range_succ, List.filter_append, List.filter_cons]
        simp)
      generalize ((List.range k).filter fun t => l.testBit t) = ds at hown hfl HS
      cases hb : l.testBit k
      · rw [hb, if_neg (by simp), List.append_nil] at HS
        go_wp2_with (go_at_call 45; refine (has_any _ _ _ hl (by omega)).mono ?_; rintro e w' ⟨rfl, rfl⟩)
        go_roundw
        case rel => exact ⟨k + 1, by omega, by go_num, by rw [HS.out]; exact hown, hbel⟩
        case measure => simp [intOf]; omega
      · rw [hb, if_pos rfl] at HS
        go_wp2_with (first
          | (go_at_call 45; refine (has_any _ _ _ hl (by omega)).mono ?_; rintro e w' ⟨rfl, rfl⟩)
          | (at_builtin; refine wpList_append_own _ rfl _ _ 47 rfl w.heap.size 3 i0 (.int .i64 0) 1 8 Tryd.underlying47 hi hz0 hz1 hz2 rfl (by decide) _ _ _ rfl (hown.alloc _) ⟨_, 0, none⟩ 1 1 [.int .i64 (k : Int)] rfl rfl (cell_one_new _ _ _) (by intro u hu; simp only [List.mem_singleton] at hu; subst hu; rfl) (by unfold maxLen; omega) (by omega) (by simp; omega) ?_; intro v1 w1 hown1 hgrow1 hnn1))
        have hbel1 : Below w.heap.size w w1 := (hbel.alloc hsz _).grown hgrow1 (by simp; omega) (fun k hk => (hown.lt k hk).1)
        clear hgrow1 hnn1
        go_roundw
        case rel => exact ⟨k + 1, by omega, by go_num, by rw [HS.out, List.length_append, List.map_append]; simpa using hown1, hbel1⟩
        case measure => simp [intOf]; omega
    · obtain rfl : k = 64 := by omega
      have HE : Hid (((List.range 64).filter fun t => l.testBit t) = Lab.tags l) := Lib.hid rfl
      generalize ((List.range 64).filter fun t => l.testBit t) = ds at hown hfl HE
      go_wp2_with fail
      go_ret
      exact ⟨_, rfl, by rw [← HE.out]; exact hown, hbel⟩

theorem wf_u64 {ns : List Int} (h : ∀ n ∈ ns, (Lit.int .u64 n).wf = true) : ∃ zs : List Nat, ns = zs.map (fun n : Nat => (n : Int)) ∧ ∀ n ∈ zs, n < 18446744073709551616 := by
  refine ⟨ns.map Int.toNat, ?_, ?_⟩
  · rw [List.map_map]
    have e : ns.map ((fun n : Nat => (n : Int)) ∘ Int.toNat) = ns.map id := List.map_congr_left fun x hx => by
      have := bounds_u64 (h x hx)
      simp; omega
    rw [e, List.map_id]
  · intro n hn
    obtain ⟨x, hx, rfl⟩ := List.mem_map.1 hn
    have := bounds_u64 (h x hx)
    omega

theorem labelTags_walk (l : Nat) (a1 : Option Addr) (len1 cap1 : Nat) (z1 : List Int) (a2 : Option Addr) (len2 cap2 : Nat) (z2 : List Int) (w : World) (hl : l < 18446744073709551616)
    (w1 : IsInts .i64 w a1 len1 cap1 z1) (w2 : IsInts .u64 w a2 len2 cap2 z2) (hT : Tab64 w) (hB : 1 < w.heap.size) :
    Calls Tryd.prog 9 #[.int .u64 (l : Int), .slice a1 len1 cap1, .slice a2 len2 cap2] w fun e w' => e = .returned (.bool true) ∧ Below w.heap.size w w' := by
  obtain ⟨hn1, hc1, hm1, hl1, _⟩ := w1
  obtain ⟨hn2, hc2, hm2, hl2, hw2⟩ := w2
  obtain ⟨zs, rfl, hzs⟩ := wf_u64 hw2
  rw [List.length_map] at hn2
  rw [List.map_map] at hl2
  subst hn1 hn2
  unfold maxLen at hm1 hm2
  have HT := Lib.hid hT
  have H1 := Lib.hid hl1
  have H2 : Hid (Lies w w.heap.size a2 (zs.map fun n : Nat => Value.int .u64 (n : Int))) := hl2
  have HZ := Lib.hid hzs
  clear hT hl1 hl2 hw2 hzs
  by_cases hbig : 300 < z1.length ∨ 100 < zs.length
  · by_cases h300 : 300 < z1.length
    all_goals
      go_enter Tryd.func9, Tryd.ntmps9
      go_wp2_with (go_at_call 27; refine (awake_any _ HT.out hB).mono ?_; rintro e w2 ⟨rfl, hbel⟩)
      go_ret
      exact ⟨rfl, hbel⟩
  · have h300 : z1.length ≤ 300 := by omega
    have h100 : zs.length ≤ 100 := by omega
    clear hbig
    have htl := Lab.tags_len l
    have HOK := Lib.hid (Lab.ok_tags l)
    have HOT := Lib.hid (Lab.orTags_tags hl)
    have HCN := Lib.hid (Ones.length_bits 64 l)
    go_enter Tryd.func9, Tryd.ntmps9
    go_wp2_with fail
    refine (tags_any l _ hl HT.out hB).mono ?_
    rintro e w1 ⟨v, rfl, hown1, hb1⟩
    obtain ⟨A, c, rfl, _, _⟩ := own_slice hown1
    have HL := Lib.hid (Lies.of_own hown1)
    clear hown1
    have hof := of_any A c w1.heap.size ((Lab.tags l).map fun t : Nat => (t : Int)) w1 (by rw [List.map_map]; exact HL.out) (by rw [List.length_map]; omega)
    rw [List.length_map, Lab.ofNum_good HOK.out, HOT.out, show Lab.ofOk ((Lab.tags l).map fun t : Nat => (t : Int)) = true from HOK.out] at hof
    have HOF := Lib.hid hof
    clear hof
    go_wp2_with fail
    refine HOF.out.mono ?_
    rintro e w' ⟨rfl, rfl⟩
    go_wp2_with fail
    refine (of_any a1 cap1 w.heap.size z1 _ (H1.out.below hb1) (by omega)).mono ?_
    rintro e w' ⟨rfl, rfl⟩
    go_wp2_with fail
    refine (refOf_any a1 cap1 w.heap.size z1 _ (H1.out.below hb1) (by omega)).mono ?_
    rintro e w' ⟨rfl, rfl⟩
    go_wp2_with fail
    have HL2 := Lib.hid (H2.out.below hb1)
    go_loop [14, 15] (fun x i => ∃ k n : Nat, k ≤ zs.length ∧ n < 18446744073709551616 ∧ i = .int .i64 (k : Int) ∧ x = .int .u64 (n : Int) ∧ Hid (n = (zs.take k).foldl Lab.join 0)) (fun _ i => zs.length - (intOf i).toNat)
    case atStart => exact ⟨0, 0, Nat.zero_le _, by omega, rfl, rfl, Lib.hid (by simp)⟩
    case round =>
      obtain ⟨k, n, hk, hn2, rfl, rfl, H⟩ := hrel
      by_cases hlt : k < zs.length
      · obtain ⟨b, off, rfl, _, hc⟩ := HL2.out.at_ (k := k) (by simpa using hlt)
        rw [List.getElem_map] at hc
        have hzk := HZ.out _ (List.getElem_mem hlt)
        have hs : Hid ((zs.take (k + 1)).foldl Lab.join 0 = Lab.join ((zs.take k).foldl Lab.join 0) zs[k]) := by
          rw [List.take_succ_eq_append_getElem hlt, List.foldl_append]; rfl
        generalize zs[k] = z at hc hzk hs
        go_wp2_with (go_at_call 23; refine (refJoin_any _ _ _ (by assumption) (by assumption)).mono ?_; rintro e w' ⟨rfl, rfl⟩)
        go_round
        case rel => exact ⟨k + 1, Lab.join n z, by omega, Lab.join_lt hn2 hzk, by go_num, rfl, Lib.hid (by rw [hs.out, ← H.out])⟩
        case measure => simp [intOf]; omega
      · obtain rfl : k = zs.length := by omega
        have HN : Hid (zs.foldl Lab.join 0 = n) := by have := H.out; rw [List.take_length] at this; exact this.symm
        clear H hlt
        go_wp2_with fail
        refine (refTags_any l _ hl).mono ?_
        rintro e w2 ⟨v2, rfl, hown2, hb2⟩
        obtain ⟨A2, c2, rfl, _, _⟩ := own_slice hown2
        have HL3 := Lib.hid (Lies.of_own hown2)
        clear hown2
        have hin := refInts_any A A2 c c2 w1.heap.size w2.heap.size ((Lab.tags l).map fun t : Nat => (t : Int)) ((Lab.tags l).map fun t : Nat => (t : Int)) w2 (by rw [List.map_map]; exact HL.out.below hb2) (by rw [List.map_map]; exact HL3.out) (by rw [List.length_map]; omega) (by rw [List.length_map]; omega)
        rw [List.length_map, beq_self_eq_true] at hin
        have HIN := Lib.hid hin
        clear hin
        go_wp2_with fail
        refine HIN.out.mono ?_
        rintro e w3 ⟨rfl, n3, rfl⟩
        have hcnt : (((Ones.cnt 64 l : Nat) : Int) == ((Lab.tags l).length : Int)) = true := by rw [← HCN.out]; simp [Lab.tags]
        have hbw : Below w.heap.size w (w2.drewN n3) := by
          have h := hb1.trans (hb2.mono hb1.size)
          exact ⟨h.os, h.tape, h.output, h.size, h.block⟩
        have HL4 := Lib.hid (H2.out.below hbw)
        have HT4 := Lib.hid (HT.out.below hB hbw)
        have hB4 : 1 < (w2.drewN n3).heap.size := Nat.lt_of_lt_of_le hB hbw.size
        go_wp2_with fail
        refine (size_any l _ hl).mono ?_
        rintro e w' ⟨rfl, rfl⟩
        go_wp2_with fail
        refine (all_any a2 cap2 w.heap.size zs _ HL4.out (by omega) HZ.out).mono ?_
        rintro e w' ⟨rfl, rfl⟩
        rw [HN.out]
        go_wp2_with fail
        refine (awake_any _ HT4.out hB4).mono ?_
        rintro e w5 ⟨rfl, hb5⟩
        go_wp2_with fail
        go_ret
        exact ⟨rfl, hbw.trans (hb5.mono hbw.size)⟩
end Go.Proofs.YtaaapjoopchgiaaDoor
