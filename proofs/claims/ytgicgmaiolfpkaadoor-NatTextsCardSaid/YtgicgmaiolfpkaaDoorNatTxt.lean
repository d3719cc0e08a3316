/-
  What scrimref02.Text computes.
-/
import Derived.Test.YtgicgmaiolfpkaaDoorNatPar2
namespace Nt
/-- Limbs divided from the top down, the quotient's put ahead of each other. -/
def DownAt (l : List Nat) (cur : List Nat) (k r : Nat) : Prop := cur.length + k = l.length ∧ Ok cur ∧ r < 10 ∧ val cur * 10 + r = val (l.drop k)
theorem down_start (l : List Nat) : DownAt l [] l.length 0 := ⟨by simp, ok_nil, by omega, by simp [val]⟩
theorem down_step {l cur : List Nat} {k r : Nat} (h : DownAt l cur (k + 1) r) (hk : k < l.length) (hl : Ok l) : DownAt l ((r * 4294967296 + l[k]) / 10 :: cur) k ((r * 4294967296 + l[k]) % 10) := by
  obtain ⟨h1, h2, h3, h4⟩ := h
  have hx := ok_get hl hk
  refine ⟨by simp; omega, fun d hd => ?_, by omega, ?_⟩
  · rcases List.mem_cons.1 hd with e | e
    · rw [e]; omega
    · exact h2 d e
  · rw [List.drop_eq_getElem_cons hk, val, val, ← h4]
    generalize l[k] = x at *
    generalize val cur = V at *
    omega
theorem down_end {l cur : List Nat} {r : Nat} (h : DownAt l cur 0 r) : val cur = val l / 10 ∧ r = val l % 10 := by
  obtain ⟨h1, h2, h3, h4⟩ := h
  rw [List.drop_zero] at h4
  omega
end Nt
namespace Go.Proofs.YtgicgmaiolfpkaaDoor
open Go.RowKit
set_option maxHeartbeats 1000000
set_option maxRecDepth 100000
set_option linter.unusedVariables false

def strLen : Value → Nat
  | .string b => b.size
  | _ => 0
theorem Lies.cells_ {w : World} {B : Nat} {ad : Addr} {xs : List Value} (h : Lies w B (some ad) xs) : ∀ j u, xs[j]? = some u → w.cell? (ad.add j) = some u := fun j u hj => by
  have hp : 0 < xs.length := by
    rcases Nat.lt_or_ge j xs.length with h' | h'
    · omega
    · rw [List.getElem?_eq_none h'] at hj; cases hj
  obtain ⟨ad', h1, h2⟩ := h.src hp
  injection h1 with h1
  subst h1
  exact h2 j u hj
theorem digit_cut {r : Nat} (h : r < 10) : (⟨#[48, 49, 50, 51, 52, 53, 54, 55, 56, 57]⟩ : ByteArray).extract r (r + 1) = ⟨#[Ten.dch r]⟩ := by
  match r, h with
  | 0, _ => decide
  | 1, _ => decide
  | 2, _ => decide
  | 3, _ => decide
  | 4, _ => decide
  | 5, _ => decide
  | 6, _ => decide
  | 7, _ => decide
  | 8, _ => decide
  | 9, _ => decide
def topE (k : Nat) : Nat := 10 ^ (10 * (k + 1))
theorem val_top (k : Nat) {l : List Nat} (ho : Nt.Ok l) (hs : l.length ≤ k + 1) : Nt.val l < topE k := by
  have h1 := Nt.val_lt ho
  have h2 : (4294967296 : Nat) ^ l.length ≤ 4294967296 ^ (k + 1) := Nat.pow_le_pow_right (by omega) hs
  have h3 : (4294967296 : Nat) ^ (k + 1) ≤ (10 ^ 10) ^ (k + 1) := Nat.pow_le_pow_left (by omega) (k + 1)
  rw [← Nat.pow_mul] at h3
  exact Nat.lt_of_lt_of_le h1 (Nat.le_trans h2 h3)
theorem dec_top (k : Nat) {n : Nat} (h : n < topE k) : (Lib.decDigits n).length ≤ 10 * (k + 1) := by
  have := (Ten.dec_len (k := 10 * k + 9) (r := n) (by rw [show 10 * k + 9 + 1 = 10 * (k + 1) by omega]; exact h)).2
  omega
theorem dec_bound {l : List Nat} (ho : Nt.Ok l) (hs : l.length ≤ 1000) : (Lib.decDigits (Nt.val l)).length ≤ 10000 := dec_top 999 (val_top 999 ho hs)
theorem OutAt_len {n y : Nat} {T : List UInt8} (h : Ten.OutAt n y T) : T.length ≤ (Lib.decDigits n).length ∧ (0 < y → T.length < (Lib.decDigits n).length) := by
  have hne := Ten.dec_ne y
  have : 0 < (Lib.decDigits y).length := List.length_pos_iff.2 hne
  rcases Nat.eq_zero_or_pos y with e | e
  · exact ⟨by rw [h.2 e]; exact Nat.le_refl _, fun h' => by omega⟩
  · have := h.1 e
    exact ⟨by rw [this, List.length_append]; omega, fun _ => by rw [this, List.length_append]; omega⟩

theorem refText_any (A : Option Addr) (c B : Nat) (l : List Nat) (w : World) (hl : Lies w B A (U l)) (hB : B ≤ w.heap.size) (ho : Nt.Ok l) (hc : l.length ≤ c) (hm : c ≤ 9223372036854775807) (hA : A = none → c = 0) (hs : l.length ≤ 1000) :
    Calls Tryd.prog 7 #[.slice A l.length c] w fun e w' => e = .returned (.string ⟨(Lib.decDigits (Nt.val l)).toArray⟩) ∧ Below w.heap.size w w' := by
  obtain ⟨i0, hi, hz0, hz1, hz2⟩ := info_parts u32_info
  have hdl := Nt.digs_len_le ho
  have hlen := dec_bound ho hs
  have RN := Lib.hid (refNorm_any A c B l w hl hB ho hc hm hA (by omega))
  clear hl ho
  generalize Nt.val l = n at *
  go_enter Tryd.func7, Tryd.ntmps7
  go_wp2_with fail
  refine RN.out.mono ?_
  rintro e w1 ⟨v, rfl, hres, hb1⟩
  obtain ⟨A1, c1, rfl, hc1, hc2, hc3, hlies⟩ := hres
  by_cases h0 : n = 0
  · subst h0
    rw [Nt.digs_zero]
    clear RN
    have HZ : Hid (Lib.decDigits 0 = [48]) := Lib.hid (Ten.dec_small (by omega))
    go_wp2_with fail
    go_ret
    rw [HZ.out]
    exact ⟨rfl, hb1⟩
  · have hne : (Nt.digs n).length ≠ 0 := fun e => h0 (Nt.digs_nil_iff.1 (List.eq_nil_of_length_eq_zero e))
    have hne2 : (((Nt.digs n).length : Int) == 0) = false := by rw [beq_eq_false_iff_ne]; omega
    clear RN
    go_wp2_with fail
    go_loopw [3, 4] (fun xv sv wr => ∃ (y : Nat) (T : List UInt8), (Nt.digs y).length ≤ 1000 ∧ T.length ≤ 10000 ∧ sv = .string ⟨T.toArray⟩ ∧ IsRes wr xv (Nt.digs y) ∧ Below w.heap.size w wr ∧ Hid (Ten.OutAt n y T)) (fun _ sv _ => 10001 - strLen sv)
    case atStart => exact ⟨n, [], by omega, by simp, rfl, ⟨A1, c1, rfl, hc1, hc2, hc3, hlies⟩, hb1, Lib.hid (Ten.OutAt.start (by omega))⟩
    case round =>
      clear hlies hc1 hc2 hc3 hb1 hne hne2
      obtain ⟨y, T, hyl, hT, rfl, ⟨A1, c1, rfl, hc1, hc2, hc3, hlies⟩, hbel, H⟩ := hrel
      have hsz := hbel.size
      by_cases hy0 : y = 0
      · subst hy0
        have HE := Lib.hid (H.out.2 rfl)
        rw [Nt.digs_zero]
        go_wp2_with fail
        go_ret
        rw [HE.out]
        exact ⟨rfl, hbel⟩
      · have hypos : 0 < (Nt.digs y).length := Nat.pos_of_ne_zero (fun e => hy0 (Nt.digs_nil_iff.1 (List.eq_nil_of_length_eq_zero e)))
        have hTl := (OutAt_len H.out).2 (by omega)
        have STEP := Lib.hid (H.out.step (by omega))
        have HDE : Hid (∀ cur r, Nt.DownAt (Nt.digs y) cur 0 r → Nt.val cur = y / 10 ∧ r = y % 10 ∧ Nt.Ok cur ∧ cur.length = (Nt.digs y).length) := Lib.hid (fun cur r h => by
          have := Nt.down_end h
          rw [Nt.val_digs] at this
          exact ⟨this.1, this.2, h.2.1, by have := h.1; omega⟩)
        have HYL : Hid ((Nt.digs (y / 10)).length ≤ 1000) := Lib.hid (Nat.le_trans (Nt.digs_len_le_of (Nat.div_le_self y 10)) hyl)
        have OX := Lib.hid (Nt.ok_digs y)
        have DS := Lib.hid (Nt.down_start (Nt.digs y))
        obtain ⟨dx, hdx⟩ : ∃ dx, dx = Nt.digs y := ⟨_, rfl⟩
        rw [← hdx] at hyl hc1 hlies hypos HDE OX DS ⊢
        clear hdx H
        rename World => W
        go_wp2_with fail
        go_loopw [5, 6, 7] (fun ov rv iv wq => ∃ (k r : Nat) (cur : List Nat), k ≤ dx.length ∧ r < 10 ∧ iv = .int .i64 ((k : Int) - 1) ∧ rv = .int .u64 (r : Int) ∧ IsRes wq ov cur ∧ Below W.heap.size W wq ∧ Hid (Nt.DownAt dx cur k r)) (fun _ _ iv _ => (intOf iv + 1).toNat)
        case atStart => exact ⟨dx.length, 0, [], Nat.le_refl _, by omega, by go_num, rfl, IsRes.none_ _, Below.refl _ _, DS⟩
        case round =>
          obtain ⟨k, r, cur, hk, hr, rfl, rfl, ⟨A2, c2, rfl, hd1, hd2, hd3, hl2⟩, hbq, HQ⟩ := hrel
          have hszq := hbq.size
          rcases k with _ | k
          · obtain ⟨hv1, hv2, hv3, hv4⟩ := HDE.out cur r HQ.out
            have RN := Lib.hid (refNorm_any A2 c2 _ cur wr hl2 (Nat.le_refl _) hv3 hd1 hd2 hd3 (by omega))
            rw [hv1] at RN
            rw [← hv2] at STEP
            have HDG := Lib.hid (digit_cut hr)
            have hcl : cur.length ≤ 1000 := by omega
            clear hv1 hv2 hv3 hv4 hl2 hd3 HDE DS OX
            go_wp2_with fail
            rw [HDG.out, show (⟨#[Ten.dch r]⟩ : ByteArray) ++ ⟨T.toArray⟩ = ⟨(Ten.dch r :: T).toArray⟩ from by
              apply ByteArray.ext; simp]
            refine RN.out.mono ?_
            rintro e w3 ⟨v3, rfl, hres3, hb3⟩
            have hyq : (Nt.digs (y / 10)).length ≤ 1000 := HYL.out
            go_wp2_with fail
            exact ⟨⟨y / 10, Ten.dch r :: T, hyq, by simp; omega, rfl, hres3, hbel.trans ((hbq.trans (hb3.mono hszq)).mono hsz), STEP⟩, by simp [strLen, ByteArray.size]; omega⟩
          · have hk1 : ((k + 1 : Nat) : Int) - 1 = (k : Int) := by omega
            rw [hk1]
            clear hk1
            have hkl : k < dx.length := by omega
            obtain ⟨b, off, rfl, hbb, hcell⟩ := (hlies.below hbq).limb hkl
            have hxb := Nt.ok_get OX.out hkl
            have ST := Lib.hid (Nt.down_step HQ.out hkl OX.out)
            have hcl : cur.length + (k + 1) = dx.length := HQ.out.1
            generalize dx[k] = x at hcell hxb ST
            obtain ⟨t, ht⟩ : ∃ t, t = r * 4294967296 + x := ⟨_, rfl⟩
            have hti : (r : Int) * 4294967296 + (x : Int) = (t : Int) := by omega
            have htb : t < 42949672960 := by omega
            rw [← ht] at ST
            clear ht
            obtain ⟨q, hq⟩ : ∃ q, q = t / 10 := ⟨_, rfl⟩
            have hqi : (t : Int) / 10 = (q : Int) := by omega
            have hqb : q < 4294967296 := by omega
            obtain ⟨r2, hr2⟩ : ∃ r2, r2 = t % 10 := ⟨_, rfl⟩
            have hri : (t : Int) % 10 = (r2 : Int) := by omega
            have hrb : r2 < 10 := by omega
            rw [← hq, ← hr2] at ST
            clear hq hr2
            have hown1 : (wr.alloc (.cells #[.int .u32 (q : Int)] 30)).ownsRow W.heap.size 30 1 (.slice (some ⟨wr.heap.size, 0, none⟩) 1 1) 1 [.int .u32 (q : Int)] := (Blk.new wr 30 [.int .u32 (q : Int)]).own_all hszq (by simp [maxLen])
            have hb4 := hbq.alloc hszq (.cells #[.int .u32 (q : Int)] 30)
            rcases A2 with _ | ad
            · have hc0 : c2 = 0 := hd3 rfl
              subst hc0
              obtain rfl : cur = [] := List.eq_nil_of_length_eq_zero (by omega)
              go_wp2_with (at_builtin; refine wpList_append_own_none rfl _ _ 22 rfl W.heap.size 30 i0 1 Tryd.underlying22 hi _ 1 _ rfl hown1 rfl ?_)
              refine ⟨⟨k, r2, [q], by omega, hrb, by go_num, congrArg (Value.int .u64) (by omega), IsRes.of_own (base := W.heap.size) hown1, hb4, ST⟩, ?_⟩
              first | (simp [intOf]; done) | (simp [intOf]; omega)
            · have hl3 : Lies (wr.alloc (.cells #[.int .u32 (q : Int)] 30)) wr.heap.size (some ad) (U cur) := Lies.below (show Lies wr wr.heap.size (some ad) (U cur) from hl2) ((Below.refl _ _).alloc (Nat.le_refl _) _)
              clear hd3
              go_wp2_with (at_builtin; refine wpList_append_own _ rfl _ _ 22 rfl W.heap.size 30 i0 (.int .u32 0) 1 4 Tryd.underlying22 hi hz0 hz1 hz2 rfl (by decide) _ 1 _ rfl hown1 ad cur.length c2 (U cur) rfl (by rw [U_len]; omega) (Lies.cells_ hl3) (U_one _) (by unfold maxLen; omega) (by omega) (by simp; omega) ?_; intro v3 w3 hown3 hgrow3 hnn3)
              have hb3 : Below W.heap.size W w3 := hb4.grown hgrow3 (by simp; omega) (fun k hk => by injection hk with hk; subst hk; exact hszq)
              refine ⟨⟨k, r2, q :: cur, by omega, hrb, by go_num, congrArg (Value.int .u64) (by omega), IsRes.of_own (base := W.heap.size) ?_, hb3, ST⟩, ?_⟩
              · rw [Nat.add_comm] at hown3; exact hown3
              · first | (simp [intOf]; done) | (simp [intOf]; omega)
end Go.Proofs.YtgicgmaiolfpkaaDoor
