/-
  What scrimref02.Mul and DivMod compute: the digits of the product; of the quotient and the rest.
-/
import Derived.Test.YtfiobbhicicchaaNat7
namespace Go.Proofs.Ytfiobbhicicchaa
open Go.RowKit
set_option maxHeartbeats 1000000
set_option linter.unusedVariables false

/-- twice, of a number that a call handed back. -/
theorem twice_res {w0 w : World} {v : Value} {x : Nat} (h : IsRes w v (Nt.digs x)) (hb : Below w0.heap.size w0 w) (hs : (Nt.digs x).length ≤ 8796093022208) (bit : Nat) (hbit : bit ≤ 1) :
    Calls Try.prog 63 #[v, .int .u32 (bit : Int)] w fun e w' => ∃ v', e = .returned v' ∧ IsRes w' v' (Nt.digs (2 * x + bit)) ∧ Below w0.heap.size w0 w' ∧ Below w.heap.size w w' := by
  obtain ⟨A, c, rfl, h1, h2, h3, h4⟩ := h
  refine (twice_any A c w.heap.size (Nt.digs x) bit w h4 (Nat.le_refl _) (Nt.ok_digs x) h1 h2 hs hbit).mono ?_
  rintro e w' ⟨v', rfl, hr, hb'⟩
  rw [Nt.val_digs] at hr
  exact ⟨v', rfl, hr, hb.trans (hb'.mono hb.size), hb'⟩

theorem refDivMod_any (A A' : Option Addr) (c c' B : Nat) (a b : List Nat) (w : World) (hx : Lies w B A (U a)) (hy : Lies w B A' (U b)) (hB : B ≤ w.heap.size) (ha : Nt.Ok a) (hb : Nt.Ok b)
    (hc : a.length ≤ c) (hc' : b.length ≤ c') (hm : c ≤ 9223372036854775807) (hm' : c' ≤ 9223372036854775807) (hA' : A' = none → c' = 0) (hs : a.length ≤ 1000000) (hs' : b.length ≤ 1000000) :
    Calls Try.prog 61 #[.slice A a.length c, .slice A' b.length c'] w fun e w' => ∃ v1 v2, e = .returned (.tuple #[v1, v2, .bool (decide (Nt.val b ≠ 0))]) ∧
      IsRes w' v1 (Nt.digs (Nt.quo (Nt.val a) (Nt.val b))) ∧ IsRes w' v2 (Nt.digs (Nt.rest (Nt.val a) (Nt.val b))) ∧ Below w.heap.size w w' := by
  have NB := Lib.hid (refNorm_any A' c' B b w hy hB hb hc' hm' hA' (by omega))
  have LN := Lib.hid (fun x h => Nt.len_le ha (x := x) h)
  have LB := Lib.hid (fun x h => Nt.len_le hb (x := x) h)
  have L2 := Lib.hid (fun (x : Nat) (h : x < 2 * Nt.val b) => show (Nt.digs x).length ≤ b.length + 1 from Nt.digs_len_lt (by
    have := Nt.val_lt hb
    rw [Nat.pow_succ]
    omega))
  have BT := Lib.hid (fun (i : Nat) (wr : World) (hi : i ≤ 9223372036854775807) (h : Below w.heap.size w wr) => refBit_any A c B a i wr (hx.below (h.mono hB)) ha hc hm hi)
  have SB := Lib.hid (fun (x : Nat) (v : Value) (wr : World) (h : Below w.heap.size w wr) (hr : IsRes wr v (Nt.digs x)) (hl : (Nt.digs x).length ≤ 8796093022208) => show Calls Try.prog 65 #[v, .slice A' b.length c'] wr fun e w' => ∃ v', e = .returned (.tuple #[v', .bool (decide (Nt.val b ≤ x))]) ∧ IsRes w' v' (Nt.digs (x - Nt.val b)) ∧ Below w.heap.size w w' ∧ Below wr.heap.size wr w' from by
    obtain ⟨A1, c1, rfl, h1, h2, h3, h4⟩ := hr
    have hyw := (hy.below (h.mono hB)).more (Nat.le_trans hB h.size)
    refine (refSub_any A1 A' c1 c' wr.heap.size (Nt.digs x) b wr h4 hyw (Nat.le_refl _) (Nt.ok_digs x) hb h1 hc' h2 hm' hl (by omega)).mono ?_
    rintro e w' ⟨v', rfl, hr', hb'⟩
    rw [Nt.val_digs] at hr' ⊢
    exact ⟨v', rfl, hr', h.trans (hb'.mono h.size), hb'⟩)
  have TZ := Lib.hid (Nt.top_zero ha)
  clear hx hy ha hb
  generalize Nt.val a = va at *
  generalize Nt.val b = vb at *
  by_cases h0 : vb = 0
  · subst h0
    have HZ : Hid ((Nt.digs 0).length = 0) := Lib.hid (by rw [Nt.digs_zero]; rfl)
    go_enter Try.func61, Try.ntmps61
    go_wp2_with fail
    refine NB.out.mono ?_
    rintro e w1 ⟨v1, rfl, ⟨A1, c1, rfl, h1, h2, h3, h4⟩, hb1⟩
    rw [HZ.out]
    go_wp2_with fail
    go_ret3
    refine ⟨_, _, rfl, ?_, ?_, hb1⟩
    · rw [Nt.quo_zero, Nt.digs_zero]; exact IsRes.none_ _
    · rw [Nt.rest_zero, Nt.digs_zero]; exact IsRes.none_ _
  · have hpos : 0 < vb := by omega
    have HP : Hid (decide (vb ≠ 0) = true) := Lib.hid (by simp; omega)
    have hlp : (Nt.digs vb).length ≠ 0 := fun h => h0 (Nt.digs_nil_iff.1 (List.eq_nil_of_length_eq_zero h))
    have hle : (((Nt.digs vb).length : Int) == 0) = false := by simp; intro h; exact hlp (by rw [h]; rfl)
    have HI1 : Hid (Nt.quo va vb = va / vb) := Lib.hid rfl
    have HI2 : Hid (Nt.rest va vb = va % vb) := Lib.hid (Nt.rest_pos h0)
    rw [HP.out]
    generalize Nt.quo va vb = Q at *
    generalize Nt.rest va vb = R at *
    clear h0 hlp
    go_enter Try.func61, Try.ntmps61
    go_wp2_with fail
    refine NB.out.mono ?_
    rintro e w1 ⟨v1, rfl, ⟨A1, c1, rfl, h1, h2, h3, h4⟩, hb1⟩
    clear h3 h4
    go_wp2_with fail
    go_loopw [7, 8, 9] (fun vq vr i wr => ∃ (k q r : Nat), k ≤ 32 * a.length ∧ i = .int .i64 ((k : Int) - 1) ∧ IsRes wr vq (Nt.digs q) ∧ IsRes wr vr (Nt.digs r) ∧ Below w.heap.size w wr ∧ Hid (q = va / 2 ^ k / vb ∧ r = va / 2 ^ k % vb)) (fun _ _ i _ => (intOf i + 1).toNat)
    case atStart => exact ⟨32 * a.length, 0, 0, Nat.le_refl _, by go_num, by rw [Nt.digs_zero]; exact IsRes.none_ _, by rw [Nt.digs_zero]; exact IsRes.none_ _, hb1, Lib.hid (by rw [TZ.out]; exact ⟨(Nat.zero_div _).symm, (Nat.zero_mod _).symm⟩)⟩
    case round =>
      obtain ⟨k, q, r, hk, rfl, hrq, hrr, hbel, H⟩ := hrel
      rcases k with _ | k
      · have HE : Hid (Q = q ∧ R = r) := Lib.hid (by
          have := H.out
          rw [Nat.pow_zero, Nat.div_one] at this
          rw [HI1.out, HI2.out, this.1, this.2]; exact ⟨rfl, rfl⟩)
        go_wp2_with fail
        go_ret3
        exact ⟨_, _, rfl, by rw [HE.out.1]; exact hrq, by rw [HE.out.2]; exact hrr, hbel⟩
      · have hk1 : ((k + 1 : Nat) : Int) - 1 = (k : Int) := by omega
        rw [hk1]
        clear hk1
        have hrb : r < vb := by rw [H.out.2]; exact Nat.mod_lt _ hpos
        have hqa : 2 * q + 1 ≤ 2 * va + 1 := by
          have : q ≤ va := by rw [H.out.1]; exact Nat.le_trans (Nat.div_le_self _ _) (Nat.div_le_self _ _)
          omega
        have Lr := LB.out r (by omega)
        have Lq := LN.out q (by omega)
        have DS := Lib.hid (fun bit hb => Nt.div_step (n := va / 2 ^ (k + 1)) (b := vb) (q := q) (r := r) (bit := bit) hpos H.out.1 H.out.2 hb)
        have HH := Lib.hid (Nt.half_step va k)
        go_wp2_with fail
        refine (BT.out k _ (by omega) hbel).mono ?_
        rintro e w' ⟨bit, rfl, hbit, HBIT, rfl⟩
        go_wp2_with fail
        refine (twice_res hrr hbel (by omega) bit hbit).mono ?_
        rintro e w2 ⟨v2, rfl, hr2, hb2, hbb2⟩
        have L2r := L2.out (2 * r + bit) (by omega)
        have hrq2 := hrq.below hbb2
        go_wp2_with fail
        refine (SB.out (2 * r + bit) v2 _ hb2 hr2 (by omega)).mono ?_
        rintro e w3 ⟨v3, rfl, hr3, hb3, hbb3⟩
        have hrq3 := hrq2.below hbb3
        have hr23 := hr2.below hbb3
        have HN : Hid (va / 2 ^ k = 2 * (va / 2 ^ (k + 1)) + bit) := Lib.hid (by rw [HBIT.out]; exact HH.out)
        by_cases hge : vb ≤ 2 * r + bit
        · have hD : decide (vb ≤ 2 * r + bit) = true := by simpa using hge
          have HDS := Lib.hid ((DS.out bit hbit).1 hge)
          rw [hD]
          clear hD
          go_wp2_with fail
          refine (twice_res hrq3 hb3 (by omega) 1 (by omega)).mono ?_
          rintro e w4 ⟨v4, rfl, hr4, hb4, hbb4⟩
          have hr34 := hr3.below hbb4
          go_wp2_with fail
          go_roundw
          case rel => exact ⟨k, 2 * q + 1, 2 * r + bit - vb, by omega, by go_num, hr4, hr34, hb4, Lib.hid (by rw [HN.out]; exact HDS.out)⟩
          case measure => first | (simp [intOf]; done) | (simp [intOf]; omega)
        · have hD : decide (vb ≤ 2 * r + bit) = false := by simpa using hge
          have HDS := Lib.hid ((DS.out bit hbit).2 hge)
          rw [hD]
          clear hD
          go_wp2_with fail
          refine (twice_res hrq3 hb3 (by omega) 0 (by omega)).mono ?_
          rintro e w4 ⟨v4, rfl, hr4, hb4, hbb4⟩
          have hr34 := hr23.below hbb4
          go_wp2_with fail
          go_roundw
          case rel => exact ⟨k, 2 * q + 0, 2 * r + bit, by omega, by go_num, hr4, hr34, hb4, Lib.hid (by rw [HN.out]; exact HDS.out)⟩
          case measure => first | (simp [intOf]; done) | (simp [intOf]; omega)
end Go.Proofs.Ytfiobbhicicchaa
