/-
  What scrimref01.Parse computes.
-/
import Derived.Test.YtaaapjoopchgiaaDoorLabParse4
namespace Go.Proofs.YtaaapjoopchgiaaDoor
open Go.RowKit
set_option maxHeartbeats 2000000
set_option maxRecDepth 100000
set_option linter.unusedVariables false

def RefParseTold (s : List UInt8) (w : World) (e : Ending) (w' : World) : Prop := w = w' ∧ ∃ (x : Nat) (ok : Bool), e = .returned (.tuple #[.int .u64 (x : Int), .bool ok]) ∧ Lab.Spec s x ok
theorem RefParseTold.no {s : List UInt8} {w : World} (h : Lab.Spec s 0 false) : RefParseTold s w (.returned (.tuple #[.int .u64 0, .bool false])) w := ⟨rfl, 0, false, rfl, h⟩
theorem RefParseTold.yes {s : List UInt8} {w : World} {x : Nat} (h : Lab.Spec s x true) : RefParseTold s w (.returned (.tuple #[.int .u64 (x : Int), .bool true])) w := ⟨rfl, x, true, rfl, h⟩
theorem dropComma_yes {s : List UInt8} {p : Nat} (hp : p < s.length) (h : s[p] = 44) : Lab.dropComma (s.drop p) = s.drop (p + 1) := by
  rw [List.drop_eq_getElem_cons hp, Lab.dropComma, if_pos h]
theorem dropComma_no {s : List UInt8} {p : Nat} (h : ∀ hp : p < s.length, s[p] ≠ 44) : Lab.dropComma (s.drop p) = s.drop p := by
  rcases Nat.lt_or_ge p s.length with hp | hp
  · rw [List.drop_eq_getElem_cons hp, Lab.dropComma, if_neg (h hp)]
  · rw [List.drop_eq_nil_of_le hp]; rfl
theorem refP_end {s : List UInt8} {f at_ acc : Nat} (h : f = 0 ∨ s.length ≤ at_ ∨ ∃ hp : at_ < s.length, s[at_] = 125) : Lab.refP f (s.drop at_) acc = some acc := by
  cases f with
  | zero => rfl
  | succ f =>
    rcases h with h | h | ⟨hp, h⟩
    · omega
    · rw [List.drop_eq_nil_of_le h]; rfl
    · rw [List.drop_eq_getElem_cons hp, Lab.refP, if_pos h]
theorem refP_go {s : List UInt8} {f at_ acc : Nat} (hp : at_ < s.length) (h : s[at_] ≠ 125) : Lab.refP (f + 1) (s.drop at_) acc = match Lab.refStep (s.drop at_) with | none => none | some x => Lab.refP f x.2 (Lab.join acc x.1) := by
  conv => lhs; rw [List.drop_eq_getElem_cons hp, Lab.refP, if_neg h]
  rw [← List.drop_eq_getElem_cons hp]
  cases Lab.refStep (s.drop at_) <;> rfl
/-- The step, where no dash stands behind the number. -/
theorem step_one {s : List UInt8} {at_ p : Nat} (hp : s.drop p = (Lab.numR (s.drop at_)).2) (h : ∀ h : p < s.length, s[p] ≠ 45) : Lab.refStep (s.drop at_) = (Lab.numR (s.drop at_)).1.map fun a => (Lab.bitsFrom a a, Lab.dropComma (s.drop p)) := by
  unfold Lab.refStep
  rw [← hp]
  rcases Nat.lt_or_ge p s.length with hl | hl
  · rw [List.drop_eq_getElem_cons hl]
    simp only [if_neg (h hl)]
  · rw [List.drop_eq_nil_of_le hl]; rfl
theorem step_two {s : List UInt8} {at_ p : Nat} (hp : s.drop p = (Lab.numR (s.drop at_)).2) (hl : p < s.length) (h : s[p] = 45) : Lab.refStep (s.drop at_) = match (Lab.numR (s.drop at_)).1, (Lab.numR (s.drop (p + 1))).1 with | some a, some c => some (Lab.bitsFrom a c, Lab.dropComma (Lab.numR (s.drop (p + 1))).2) | _, _ => none := by
  unfold Lab.refStep
  rw [← hp, List.drop_eq_getElem_cons hl]
  simp only [if_pos h]
  cases (Lab.numR (s.drop at_)).1 <;> cases (Lab.numR (s.drop (p + 1))).1 <;> rfl
theorem join_bits (acc a d : Nat) : Lab.join (Lab.join acc (Lab.bitsTo a d)) (Lab.bit (a + d)) = Lab.join acc (Lab.bitsTo a (d + 1)) := by
  unfold Lab.join Lab.bit
  rw [bitsTo_next, Nat.or_assoc]

theorem refParse_any (s : List UInt8) (w : World) (hs : s.length ≤ 1000) : Calls Tryd.prog 39 #[.string ⟨s.toArray⟩] w (RefParseTold s w) := by
  have HBAD := Lib.hid (Lab.Spec.refBad (s := s))
  have HOTH := Lib.hid (fun o => Lab.Spec.refOther (s := s) (o := o))
  go_enter Tryd.func39, Tryd.ntmps39
  go_wp2_with fail
  go_loop [4, 5, 6] (fun lv av kv => ∃ at_ acc k : Nat, k ≤ 64 ∧ at_ ≤ 1001 ∧ acc < 18446744073709551616 ∧ lv = .int .u64 (acc : Int) ∧ av = .int .i64 (at_ : Int) ∧ kv = .int .i64 (k : Int) ∧ Hid (Lab.refP (64 - k) (s.drop at_) acc = Lab.refP 64 (s.drop 1) 0)) (fun _ _ kv => 64 - (intOf kv).toNat)
  case atStart => exact ⟨1, 0, 0, by omega, by omega, by omega, rfl, rfl, rfl, Lib.hid rfl⟩
  case round =>
    obtain ⟨at_, acc, k, hk, hat, hacc, rfl, rfl, rfl, H⟩ := hrel
    have OUT : Hid (64 - k = 0 ∨ s.length ≤ at_ ∨ (∃ hp : at_ < s.length, s[at_] = 125) → Lab.refP 64 (s.drop 1) 0 = some acc) := Lib.hid (fun h => by rw [← H.out]; exact refP_end h)
    have END : Hid (Lab.refP 64 (s.drop 1) 0 = some acc → (Lab.text acc = s → RefParseTold s w (.returned (.tuple #[.int .u64 (acc : Int), .bool true])) w) ∧ (Lab.text acc ≠ s → RefParseTold s w (.returned (.tuple #[.int .u64 0, .bool false])) w)) := Lib.hid (fun h => ⟨fun e => .yes (.inl ⟨rfl, hacc, e.symm⟩), fun e => .no (HOTH.out acc h e)⟩)
    have TX := Lib.hid (refText_any acc w hacc)
    rw [strV] at TX
    by_cases hk64 : k < 64
    · by_cases hlt : at_ < s.length
      · obtain ⟨x, hx⟩ : ∃ x, x = s[at_].toNat := ⟨_, rfl⟩
        have hg : ((⟨s.toArray⟩ : ByteArray)[at_]'(show at_ < (⟨s.toArray⟩ : ByteArray).size from hlt)).toNat = x := hx.symm
        by_cases h125 : x = 125
        · have HE := Lib.hid (END.out (OUT.out (.inr (.inr ⟨hlt, UInt8.toNat_inj.1 (by rw [← hx, h125]; rfl)⟩))))
          have h125a : ((x : Int) != 125) = false := by simp [h125]
          clear h125 hx END OUT
          by_cases heq : Lab.text acc = s
          · have HY := Lib.hid (HE.out.1 heq)
            rw [heq] at TX
            clear heq HE
            go_wp2_with (go_at_call 38; refine TX.out.mono ?_; rintro e w' ⟨rfl, rfl⟩)
            go_ret2
            exact HY.out
          · have HY := Lib.hid (HE.out.2 heq)
            have hne : (Lab.text acc == s) = false := by simpa using heq
            generalize Lab.text acc = T at *
            clear heq HE
            go_wp2_with (go_at_call 38; refine TX.out.mono ?_; rintro e w' ⟨rfl, rfl⟩)
            go_ret2
            exact HY.out
        · have h125a : ((x : Int) != 125) = true := by simp; omega
          have GO := Lib.hid (refP_go (f := 64 - (k + 1)) (acc := acc) hlt (fun e => h125 (by rw [hx, e]; rfl)))
          have HST : Hid (Lab.refP (64 - (k + 1) + 1) (s.drop at_) acc = Lab.refP 64 (s.drop 1) 0) := Lib.hid (by rw [show 64 - (k + 1) + 1 = 64 - k by omega]; exact H.out)
          rw [GO.out] at HST
          have N1 := Lib.hid (number_any s at_ w hs (by omega))
          clear h125 hx END OUT TX GO H
          go_wp2_with fail
          refine N1.out.mono ?_
          rintro e w' ⟨rfl, to_, hto1, hto2, hto3, rfl⟩
          have HTO := Lib.hid hto3
          clear hto3
          cases ha : (Lab.numR (s.drop at_)).1 with
          | none =>
            rw [show numV none = -1 from rfl]
            by_cases hd : ∃ h : to_ < s.length, s[to_] = 45
            · obtain ⟨hl, h45⟩ := hd
              have hg2 : ((⟨s.toArray⟩ : ByteArray)[to_]'(show to_ < (⟨s.toArray⟩ : ByteArray).size from hl)).toNat = 45 := congrArg UInt8.toNat h45
              have HN : Hid (Lab.refP 64 (s.drop 1) 0 = none) := Lib.hid (by rw [← HST.out, step_two HTO.out hl h45, ha])
              have HY := Lib.hid (RefParseTold.no (w := w) (HBAD.out HN.out))
              have N2 := Lib.hid (number_any s (to_ + 1) w hs (by omega))
              clear h45 ha HST HTO
              go_wp2_with fail
              rw [show ((to_ : Int) + 1) = ((to_ + 1 : Nat) : Int) from rfl]
              refine N2.out.mono ?_
              rintro e w' ⟨rfl, to2, _, _, _, rfl⟩
              go_wp2_with fail
              go_ret2
              exact HY.out
            · have h45 : ∀ h : to_ < s.length, s[to_] ≠ 45 := fun h e => hd ⟨h, e⟩
              have HN : Hid (Lab.refP 64 (s.drop 1) 0 = none) := Lib.hid (by rw [← HST.out, step_one HTO.out h45, ha]; rfl)
              have HY := Lib.hid (RefParseTold.no (w := w) (HBAD.out HN.out))
              by_cases hl : to_ < s.length
              · obtain ⟨y, hy⟩ : ∃ y, y = s[to_].toNat := ⟨_, rfl⟩
                have hg2 : ((⟨s.toArray⟩ : ByteArray)[to_]'(show to_ < (⟨s.toArray⟩ : ByteArray).size from hl)).toNat = y := hy.symm
                have h45a : ((y : Int) == 45) = false := by
                  rw [beq_eq_false_iff_ne]; intro e
                  exact h45 hl (UInt8.toNat_inj.1 (by rw [← hy, show y = 45 by omega]; rfl))
                clear hd h45 ha HST HTO hy
                go_wp2_with fail
                go_ret2
                exact HY.out
              · clear hd h45 ha HST HTO
                go_wp2_with fail
                go_ret2
                exact HY.out
          | some a =>
            have ha64 := Lab.numR_lt ha
            rw [show numV (some a) = (a : Int) from rfl]
            by_cases hd : ∃ h : to_ < s.length, s[to_] = 45
            · obtain ⟨hl, h45⟩ := hd
              have hg2 : ((⟨s.toArray⟩ : ByteArray)[to_]'(show to_ < (⟨s.toArray⟩ : ByteArray).size from hl)).toNat = 45 := congrArg UInt8.toNat h45
              have HS2 := Lib.hid (step_two HTO.out hl h45)
              rw [ha] at HS2
              have N2 := Lib.hid (number_any s (to_ + 1) w hs (by omega))
              clear h45 ha
              go_wp2_with fail
              rw [show ((to_ : Int) + 1) = ((to_ + 1 : Nat) : Int) from rfl]
              refine N2.out.mono ?_
              rintro e w' ⟨rfl, to2, hb1, hb2, hb3, rfl⟩
              have HT2 := Lib.hid hb3
              clear hb3 N2
              cases hb : (Lab.numR (s.drop (to_ + 1))).1 with
              | none =>
                rw [show numV none = -1 from rfl]
                have HN : Hid (Lab.refP 64 (s.drop 1) 0 = none) := Lib.hid (by rw [← HST.out, HS2.out, hb])
                have HY := Lib.hid (RefParseTold.no (w := w) (HBAD.out HN.out))
                clear hb HST HTO HS2
                go_wp2_with fail
                go_ret2
                exact HY.out
              | some b =>
                rw [show numV (some b) = (b : Int) from rfl]
                have hb64 := Lab.numR_lt hb
                have HREF : Hid (Lab.refP (64 - (k + 1)) (Lab.dropComma (s.drop to2)) (Lab.join acc (Lab.bitsFrom a b)) = Lab.refP 64 (s.drop 1) 0) := Lib.hid (by rw [← HST.out, HS2.out, hb, HT2.out])
                clear hb HST HTO HS2 HT2
                go_wp2_with fail
                go_loop [4, 10] (fun lv tv => ∃ t m : Nat, a ≤ t ∧ t ≤ 64 ∧ m < 18446744073709551616 ∧ tv = .int .i64 (t : Int) ∧ lv = .int .u64 (m : Int) ∧ Hid (m = Lab.join acc (Lab.bitsTo a (t - a)) ∧ (t ≤ b + 1 ∨ t = a))) (fun _ tv => 128 - (intOf tv).toNat)
                case atStart => exact ⟨a, acc, Nat.le_refl _, by omega, hacc, rfl, rfl, Lib.hid ⟨by rw [Nat.sub_self]; simp [Lab.join, Lab.bitsTo], .inr rfl⟩⟩
                case round =>
                  obtain ⟨t, m, ht1, ht2, hm, rfl, rfl, HM⟩ := hrel
                  by_cases hle : t ≤ b
                  · have ht3 : t < 64 := by omega
                    have HS : Hid (Lab.join m (Lab.bit t) = Lab.join acc (Lab.bitsTo a (t + 1 - a))) := Lib.hid (by
                      have := join_bits acc a (t - a)
                      rw [show a + (t - a) = t by omega, ← HM.out.1] at this
                      rw [this, show t + 1 - a = (t - a) + 1 by omega])
                    have hbl : Lab.bit t < 18446744073709551616 := Lab.bit_lt ht3
                    have hjl := Lab.join_lt hm hbl
                    have BT := Lib.hid (bit_any t w ht3)
                    have JN := Lib.hid (refJoin_any m (Lab.bit t) w hm hbl)
                    generalize Lab.bit t = bt at *
                    go_wp2_with (first | (go_at_call 47; refine BT.out.mono ?_; rintro e w' ⟨rfl, rfl⟩) | (go_at_call 23; refine JN.out.mono ?_; rintro e w' ⟨rfl, rfl⟩))
                    refine ⟨⟨t + 1, _, by omega, by omega, hjl, by go_num, rfl, Lib.hid ⟨HS.out, .inl (by omega)⟩⟩, by simp [intOf]; omega⟩
                  · have HE : Hid (m = Lab.join acc (Lab.bitsFrom a b)) := Lib.hid (by
                      rw [HM.out.1, Lab.bitsFrom]
                      rcases HM.out.2 with h | h
                      · rw [show t - a = b + 1 - a by omega]
                      · rw [show t - a = 0 by omega, show b + 1 - a = 0 by omega])
                    rw [← HE.out] at HREF
                    clear HM
                    by_cases hpl : to2 < s.length
                    · obtain ⟨y, hy⟩ : ∃ y, y = s[to2].toNat := ⟨_, rfl⟩
                      have hgy : ((⟨s.toArray⟩ : ByteArray)[to2]'(show to2 < (⟨s.toArray⟩ : ByteArray).size from hpl)).toNat = y := hy.symm
                      by_cases h44 : y = 44
                      · have HREF2 : Hid (Lab.refP (64 - (k + 1)) (s.drop (to2 + 1)) m = Lab.refP 64 (s.drop 1) 0) := Lib.hid (by rw [← HREF.out, dropComma_yes hpl (UInt8.toNat_inj.1 (by rw [← hy, h44]; rfl))])
                        have h44a : ((y : Int) == 44) = true := by simp [h44]
                        clear h44 hy
                        go_wp2_with fail
                        exact ⟨⟨to2 + 1, m, k + 1, by omega, by omega, hm, rfl, by go_num, by go_num, HREF2⟩, by simp [intOf]; omega⟩
                      · have HREF2 : Hid (Lab.refP (64 - (k + 1)) (s.drop to2) m = Lab.refP 64 (s.drop 1) 0) := Lib.hid (by
                          rw [← HREF.out, dropComma_no (fun _ e => h44 (by rw [hy, e]; rfl))])
                        have h44a : ((y : Int) == 44) = false := by rw [beq_eq_false_iff_ne]; omega
                        clear h44 hy
                        go_wp2_with fail
                        exact ⟨⟨to2, m, k + 1, by omega, by omega, hm, rfl, rfl, by go_num, HREF2⟩, by simp [intOf]; omega⟩
                    · have HREF2 : Hid (Lab.refP (64 - (k + 1)) (s.drop to2) m = Lab.refP 64 (s.drop 1) 0) := Lib.hid (by
                        rw [← HREF.out, dropComma_no (fun h => absurd h hpl)])
                      go_wp2_with fail
                      exact ⟨⟨to2, m, k + 1, by omega, by omega, hm, rfl, rfl, by go_num, HREF2⟩, by simp [intOf]; omega⟩
            · have h45 : ∀ h : to_ < s.length, s[to_] ≠ 45 := fun h e => hd ⟨h, e⟩
              have HREF : Hid (Lab.refP (64 - (k + 1)) (Lab.dropComma (s.drop to_)) (Lab.join acc (Lab.bitsFrom a a)) = Lab.refP 64 (s.drop 1) 0) := Lib.hid (by rw [← HST.out, step_one HTO.out h45, ha]; rfl)
              by_cases hl : to_ < s.length
              · obtain ⟨y, hy⟩ : ∃ y, y = s[to_].toNat := ⟨_, rfl⟩
                have hg2 : ((⟨s.toArray⟩ : ByteArray)[to_]'(show to_ < (⟨s.toArray⟩ : ByteArray).size from hl)).toNat = y := hy.symm
                have h45a : ((y : Int) == 45) = false := by
                  rw [beq_eq_false_iff_ne]; intro e
                  exact h45 hl (UInt8.toNat_inj.1 (by rw [← hy, show y = 45 by omega]; rfl))
                clear hd h45 ha HST HTO hy
                go_wp2_with fail
                clear hg2 h45a
                go_loop [4, 10] (fun lv tv => ∃ t m : Nat, a ≤ t ∧ t ≤ 64 ∧ m < 18446744073709551616 ∧ tv = .int .i64 (t : Int) ∧ lv = .int .u64 (m : Int) ∧ Hid (m = Lab.join acc (Lab.bitsTo a (t - a)) ∧ (t ≤ a + 1 ∨ t = a))) (fun _ tv => 128 - (intOf tv).toNat)
                case atStart => exact ⟨a, acc, Nat.le_refl _, by omega, hacc, rfl, rfl, Lib.hid ⟨by rw [Nat.sub_self]; simp [Lab.join, Lab.bitsTo], .inr rfl⟩⟩
                case round =>
                  obtain ⟨t, m, ht1, ht2, hm, rfl, rfl, HM⟩ := hrel
                  by_cases hle : t ≤ a
                  · have ht3 : t < 64 := by omega
                    have HS : Hid (Lab.join m (Lab.bit t) = Lab.join acc (Lab.bitsTo a (t + 1 - a))) := Lib.hid (by
                      have := join_bits acc a (t - a)
                      rw [show a + (t - a) = t by omega, ← HM.out.1] at this
                      rw [this, show t + 1 - a = (t - a) + 1 by omega])
                    have hbl : Lab.bit t < 18446744073709551616 := Lab.bit_lt ht3
                    have hjl := Lab.join_lt hm hbl
                    have BT := Lib.hid (bit_any t w ht3)
                    have JN := Lib.hid (refJoin_any m (Lab.bit t) w hm hbl)
                    generalize Lab.bit t = bt at *
                    go_wp2_with (first | (go_at_call 47; refine BT.out.mono ?_; rintro e w' ⟨rfl, rfl⟩) | (go_at_call 23; refine JN.out.mono ?_; rintro e w' ⟨rfl, rfl⟩))
                    refine ⟨⟨t + 1, _, by omega, by omega, hjl, by go_num, rfl, Lib.hid ⟨HS.out, .inl (by omega)⟩⟩, by simp [intOf]; omega⟩
                  · have HE : Hid (m = Lab.join acc (Lab.bitsFrom a a)) := Lib.hid (by
                      rw [HM.out.1, Lab.bitsFrom]
                      rcases HM.out.2 with h | h
                      · rw [show t - a = a + 1 - a by omega]
                      · rw [show t - a = 0 by omega, show a + 1 - a = 0 by omega])
                    rw [← HE.out] at HREF
                    clear HM
                    have hpl := hl
                    obtain ⟨y, hy⟩ : ∃ y, y = s[to_].toNat := ⟨_, rfl⟩
                    have hgy : ((⟨s.toArray⟩ : ByteArray)[to_]'(show to_ < (⟨s.toArray⟩ : ByteArray).size from hpl)).toNat = y := hy.symm
                    by_cases h44 : y = 44
                    · have HREF2 : Hid (Lab.refP (64 - (k + 1)) (s.drop (to_ + 1)) m = Lab.refP 64 (s.drop 1) 0) := Lib.hid (by rw [← HREF.out, dropComma_yes hpl (UInt8.toNat_inj.1 (by rw [← hy, h44]; rfl))])
                      have h44a : ((y : Int) == 44) = true := by simp [h44]
                      clear h44 hy
                      go_wp2_with fail
                      exact ⟨⟨to_ + 1, m, k + 1, by omega, by omega, hm, rfl, by go_num, by go_num, HREF2⟩, by simp [intOf]; omega⟩
                    · have HREF2 : Hid (Lab.refP (64 - (k + 1)) (s.drop to_) m = Lab.refP 64 (s.drop 1) 0) := Lib.hid (by
                        rw [← HREF.out, dropComma_no (fun _ e => h44 (by rw [hy, e]; rfl))])
                      have h44a : ((y : Int) == 44) = false := by rw [beq_eq_false_iff_ne]; omega
                      clear h44 hy
                      go_wp2_with fail
                      exact ⟨⟨to_, m, k + 1, by omega, by omega, hm, rfl, rfl, by go_num, HREF2⟩, by simp [intOf]; omega⟩
              · clear hd h45 ha HST HTO
                go_wp2_with fail
                go_loop [4, 10] (fun lv tv => ∃ t m : Nat, a ≤ t ∧ t ≤ 64 ∧ m < 18446744073709551616 ∧ tv = .int .i64 (t : Int) ∧ lv = .int .u64 (m : Int) ∧ Hid (m = Lab.join acc (Lab.bitsTo a (t - a)) ∧ (t ≤ a + 1 ∨ t = a))) (fun _ tv => 128 - (intOf tv).toNat)
                case atStart => exact ⟨a, acc, Nat.le_refl _, by omega, hacc, rfl, rfl, Lib.hid ⟨by rw [Nat.sub_self]; simp [Lab.join, Lab.bitsTo], .inr rfl⟩⟩
                case round =>
                  obtain ⟨t, m, ht1, ht2, hm, rfl, rfl, HM⟩ := hrel
                  by_cases hle : t ≤ a
                  · have ht3 : t < 64 := by omega
                    have HS : Hid (Lab.join m (Lab.bit t) = Lab.join acc (Lab.bitsTo a (t + 1 - a))) := Lib.hid (by
                      have := join_bits acc a (t - a)
                      rw [show a + (t - a) = t by omega, ← HM.out.1] at this
                      rw [this, show t + 1 - a = (t - a) + 1 by omega])
                    have hbl : Lab.bit t < 18446744073709551616 := Lab.bit_lt ht3
                    have hjl := Lab.join_lt hm hbl
                    have BT := Lib.hid (bit_any t w ht3)
                    have JN := Lib.hid (refJoin_any m (Lab.bit t) w hm hbl)
                    generalize Lab.bit t = bt at *
                    go_wp2_with (first | (go_at_call 47; refine BT.out.mono ?_; rintro e w' ⟨rfl, rfl⟩) | (go_at_call 23; refine JN.out.mono ?_; rintro e w' ⟨rfl, rfl⟩))
                    refine ⟨⟨t + 1, _, by omega, by omega, hjl, by go_num, rfl, Lib.hid ⟨HS.out, .inl (by omega)⟩⟩, by simp [intOf]; omega⟩
                  · have HE : Hid (m = Lab.join acc (Lab.bitsFrom a a)) := Lib.hid (by
                      rw [HM.out.1, Lab.bitsFrom]
                      rcases HM.out.2 with h | h
                      · rw [show t - a = a + 1 - a by omega]
                      · rw [show t - a = 0 by omega, show a + 1 - a = 0 by omega])
                    rw [← HE.out] at HREF
                    clear HM
                    have hpl := hl
                    have HREF2 : Hid (Lab.refP (64 - (k + 1)) (s.drop to_) m = Lab.refP 64 (s.drop 1) 0) := Lib.hid (by
                      rw [← HREF.out, dropComma_no (fun h => absurd h hpl)])
                    go_wp2_with fail
                    exact ⟨⟨to_, m, k + 1, by omega, by omega, hm, rfl, rfl, by go_num, HREF2⟩, by simp [intOf]; omega⟩
      · have HE := Lib.hid (END.out (OUT.out (.inr (.inl (by omega)))))
        clear END OUT
        by_cases heq : Lab.text acc = s
        · have HY := Lib.hid (HE.out.1 heq)
          rw [heq] at TX
          clear heq HE
          go_wp2_with (go_at_call 38; refine TX.out.mono ?_; rintro e w' ⟨rfl, rfl⟩)
          go_ret2
          exact HY.out
        · have HY := Lib.hid (HE.out.2 heq)
          have hne : (Lab.text acc == s) = false := by simpa using heq
          generalize Lab.text acc = T at *
          clear heq HE
          go_wp2_with (go_at_call 38; refine TX.out.mono ?_; rintro e w' ⟨rfl, rfl⟩)
          go_ret2
          exact HY.out
    · have HE := Lib.hid (END.out (OUT.out (.inl (by omega))))
      clear END OUT
      by_cases heq : Lab.text acc = s
      · have HY := Lib.hid (HE.out.1 heq)
        rw [heq] at TX
        clear heq HE
        go_wp2_with (go_at_call 38; refine TX.out.mono ?_; rintro e w' ⟨rfl, rfl⟩)
        go_ret2
        exact HY.out
      · have HY := Lib.hid (HE.out.2 heq)
        have hne : (Lab.text acc == s) = false := by simpa using heq
        generalize Lab.text acc = T at *
        clear heq HE
        go_wp2_with (go_at_call 38; refine TX.out.mono ?_; rintro e w' ⟨rfl, rfl⟩)
        go_ret2
        exact HY.out
end Go.Proofs.YtaaapjoopchgiaaDoor
