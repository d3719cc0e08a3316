/-
  What nat.DivMod computes (by more than one limb: if long does what it says).
-/
import Derived.Test.YtgicgmaiolfpkaaDoorNat10
namespace Go.Proofs.YtgicgmaiolfpkaaDoor
open Go.RowKit
set_option maxHeartbeats 1000000
set_option linter.unusedVariables false

/-- What nat.long is to do. -/
def LongSaid : Prop := ∀ (A A' : Option Addr) (c c' B x y : Nat) (w : World), Lies w B A (U (Nt.digs x)) → Lies w B A' (U (Nt.digs y)) → B ≤ w.heap.size → (Nt.digs x).length ≤ c → (Nt.digs y).length ≤ c' → c ≤ 9223372036854775807 → c' ≤ 9223372036854775807 →
  (Nt.digs x).length ≤ 1000000 → 2 ≤ (Nt.digs y).length → y ≤ x →
  Calls Tryd.prog 29 #[.slice A (Nt.digs x).length c, .slice A' (Nt.digs y).length c'] w fun e w' => ∃ v1 v2, e = .returned (.tuple #[v1, v2]) ∧ IsRes w' v1 (Nt.digs (x / y)) ∧ IsRes w' v2 (Nt.digs (x % y)) ∧ Below w.heap.size w w'

theorem divMod_any (A A' : Option Addr) (c c' B : Nat) (a b : List Nat) (w : World) (hx : Lies w B A (U a)) (hy : Lies w B A' (U b)) (hB : B ≤ w.heap.size) (ha : Nt.Ok a) (hb : Nt.Ok b)
    (hc : a.length ≤ c) (hc' : b.length ≤ c') (hm : c ≤ 9223372036854775807) (hm' : c' ≤ 9223372036854775807) (hs : a.length ≤ 1000000) (hs' : b.length ≤ 1000000) (HLG : (Nt.digs (Nt.val b)).length ≤ 1 ∨ LongSaid) :
    Calls Tryd.prog 20 #[.slice A a.length c, .slice A' b.length c'] w fun e w' => ∃ v1 v2, e = .returned (.tuple #[v1, v2, .bool (decide (Nt.val b ≠ 0))]) ∧
      IsRes w' v1 (Nt.digs (Nt.quo (Nt.val a) (Nt.val b))) ∧ IsRes w' v2 (Nt.digs (Nt.rest (Nt.val a) (Nt.val b))) ∧ Below w.heap.size w w' := by
  have ha' := Nt.digs_len_le ha
  have hb' := Nt.digs_len_le hb
  have TA := Lib.hid (trim_any A c B a w hx ha hc hm)
  have TB := Lib.hid (trim_any A' c' B b w hy hb hc' hm')
  have LA := Lib.hid ((hx.digs ha).more hB)
  have LB := Lib.hid ((hy.digs hb).more hB)
  have OA := Lib.hid (Nt.ok_digs (Nt.val a))
  have OB := Lib.hid (Nt.ok_digs (Nt.val b))
  have VA := Lib.hid (Nt.val_digs (Nt.val a))
  have VB := Lib.hid (Nt.val_digs (Nt.val b))
  have ZB : Hid ((Nt.digs (Nt.val b)).length = 0 → Nt.val b = 0) := Lib.hid (fun h => Nt.digs_nil_iff.1 (List.eq_nil_of_length_eq_zero h))
  have hla : (Nt.digs (Nt.val a)).length ≤ 1000000 := by omega
  have hlb : (Nt.digs (Nt.val b)).length ≤ 1000000 := by omega
  clear hx hy ha hb
  generalize Nt.val a = x at *
  generalize Nt.val b = y at *
  by_cases h0 : y = 0
  · subst h0
    have HZ : Hid ((Nt.digs 0).length = 0) := Lib.hid (by rw [Nt.digs_zero]; rfl)
    go_enter Tryd.func20, Tryd.ntmps20
    go_wp2_with fail
    refine TA.out.mono ?_
    rintro e w' ⟨rfl, rfl⟩
    go_wp2_with fail
    refine TB.out.mono ?_
    rintro e w' ⟨rfl, rfl⟩
    rw [HZ.out]
    go_wp2_with fail
    go_ret3
    refine ⟨_, _, rfl, ?_, ?_, Below.refl _ _⟩
    · rw [Nt.quo_zero, Nt.digs_zero]; exact IsRes.none_ _
    · rw [Nt.rest_zero, Nt.digs_zero]; exact IsRes.none_ _
  · have HP : Hid (decide (y ≠ 0) = true) := Lib.hid (by simp; omega)
    have hlp : (Nt.digs y).length ≠ 0 := fun h => h0 (ZB.out h)
    have hle : (((Nt.digs y).length : Int) == 0) = false := by simp; intro h; exact hlp (by rw [h]; rfl)
    have HI1 : Hid (Nt.quo x y = x / y) := Lib.hid rfl
    have HI2 : Hid (Nt.rest x y = x % y) := Lib.hid (Nt.rest_pos h0)
    have CM := Lib.hid (cmp_any A A' (Nt.digs x).length (Nt.digs y).length w.heap.size (Nt.digs x) (Nt.digs y) w LA.out LB.out OA.out OB.out (Nat.le_refl _) (Nat.le_refl _) (by omega) (by omega))
    rw [VA.out, VB.out] at CM
    rw [HP.out, HI1.out, HI2.out]
    have hylp : 0 < y := by omega
    clear HI1 HI2
    by_cases hlt : x < y
    · have HE : Hid (Nt.cmp x y = -1) := Lib.hid (Nt.cmp_lt hlt)
      have HQ : Hid (x / y = 0) := Lib.hid (Nat.div_eq_of_lt hlt)
      have HR : Hid (x % y = x) := Lib.hid (Nat.mod_eq_of_lt hlt)
      have NA := Lib.hid (fun n => norm_any A (Nt.digs x).length w.heap.size (Nt.digs x) (w.drewN n) LA.out (Nat.le_refl _) OA.out (Nat.le_refl _) (by omega) (by omega))
      rw [VA.out] at NA
      rw [HQ.out, HR.out, Nt.digs_zero]
      go_enter Tryd.func20, Tryd.ntmps20
      go_wp2_with fail
      refine TA.out.mono ?_
      rintro e w' ⟨rfl, rfl⟩
      go_wp2_with fail
      refine TB.out.mono ?_
      rintro e w' ⟨rfl, rfl⟩
      go_wp2_with fail
      refine CM.out.mono ?_
      rintro e w' ⟨rfl, n1, rfl⟩
      rw [HE.out]
      go_wp2_with fail
      refine (NA.out n1).mono ?_
      rintro e w1 ⟨rfl, hblk1, hb1⟩
      go_wp2_with fail
      go_ret3
      refine ⟨_, _, rfl, IsRes.none_ _, ⟨_, _, rfl, Nat.le_refl _, by omega, (fun h => by cases h), hblk1.lies⟩, ?_⟩
      exact ⟨hb1.os, hb1.tape, hb1.output, hb1.size, hb1.block⟩
    · have hcmp : decide (Nt.cmp x y < 0) = false := by rw [decide_eq_false_iff_not, Nt.cmp_neg]; omega
      by_cases h1 : (Nt.digs y).length = 1
      · have hl1 : (((Nt.digs y).length : Int) == 1) = true := by simp [h1]
        have NA := Lib.hid (fun n => norm_any A (Nt.digs x).length w.heap.size (Nt.digs x) (w.drewN n) LA.out (Nat.le_refl _) OA.out (Nat.le_refl _) (by omega) (by omega))
        rw [VA.out] at NA
        have hy32 : y < 4294967296 := by
          have := Nt.val_lt OB.out
          rw [VB.out, h1] at this
          simpa using this
        have HY : Hid (Nt.digs y = [y]) := Lib.hid (by
          rw [Nt.digs_pos h0, Nat.mod_eq_of_lt hy32, Nat.div_eq_of_lt hy32, Nt.digs_zero])
        obtain ⟨bb, offb, rfl, hbb, HCB⟩ : ∃ b off, A' = some ⟨b, off, none⟩ ∧ b < w.heap.size ∧ Hid (∀ wx : World, Below w.heap.size w wx → wx.cell? ⟨b, off, none⟩ = some (.int .u32 (y : Int))) := by
          have := LB.out
          rw [HY.out] at this
          obtain ⟨b, off, h1, h2, h3⟩ := this.limb (k := 0) (by simp)
          exact ⟨b, off, h1, h2, Lib.hid (fun wx hwx => (hwx.cell (p := ⟨b, off, none⟩) h2).trans (by simpa using h3))⟩
        have hone : 1 ≤ (Nt.digs y).length := by omega
        clear h1
        go_enter Tryd.func20, Tryd.ntmps20
        go_wp2_with fail
        refine TA.out.mono ?_
        rintro e w' ⟨rfl, rfl⟩
        go_wp2_with fail
        refine TB.out.mono ?_
        rintro e w' ⟨rfl, rfl⟩
        go_wp2_with fail
        refine CM.out.mono ?_
        rintro e w' ⟨rfl, n1, rfl⟩
        go_wp2_with fail
        refine (NA.out n1).mono ?_
        rintro e w1 ⟨rfl, hblk1, hb1⟩
        have hb0 : Below w.heap.size w w1 := ⟨hb1.os, hb1.tape, hb1.output, hb1.size, hb1.block⟩
        have hblk0 : Blk w1 w.heap.size 30 (U (Nt.digs x) ++ []) := by rw [List.append_nil]; exact hblk1
        clear hb1 hblk1
        have hcell := HCB.out w1 hb0
        go_wp2_with fail
        refine (shorten_any w.heap.size (Nt.digs x).length y (Nt.digs x) [] w1 hblk0 OA.out hylp hy32 (by omega)).mono ?_
        rintro e w2 ⟨cur, rfl, hblk2, HC, hgr2⟩
        have hb2 : Below w.heap.size w w2 := hb0.grown hgr2 hb0.size (fun k hk => by injection hk with hk; omega)
        rw [List.append_nil] at hblk2
        have HTR := trim_any (some ⟨w.heap.size, 0, none⟩) (Nt.digs x).length w2.heap.size cur w2 hblk2.lies HC.out.2.1 (by rw [HC.out.1]; exact Nat.le_refl _) (by omega)
        rw [HC.out.1, HC.out.2.2, VA.out] at HTR
        have HTR2 := Lib.hid HTR
        have HQL : (Nt.digs (x / y)).length ≤ (Nt.digs x).length := by have := Nt.digs_len_le HC.out.2.1; rw [HC.out.1, HC.out.2.2, VA.out] at this; exact this
        have HQ : Hid (Lies w2 w2.heap.size (some ⟨w.heap.size, 0, none⟩) (U (Nt.digs (x / y)))) := Lib.hid (by have := hblk2.lies.digs HC.out.2.1; rw [HC.out.2.2, VA.out] at this; exact this)
        have hrl : x % y < 4294967296 := by have := Nat.mod_lt x hylp; omega
        rw [VA.out]
        generalize hrr : x % y = rr at *
        have HRR := Lib.hid hrr
        clear hrr HTR hblk2
        go_wp2_with fail
        refine HTR2.out.mono ?_
        rintro e w' ⟨rfl, rfl⟩
        have hsz2 := hb2.size
        have NR := Lib.hid (norm_any (some ⟨w2.heap.size, 0, none⟩) 1 (w2.heap.size + 1) [rr] (w2.alloc (.cells #[.int .u32 (rr : Int)] 30)) (Lies.new w2 [.int .u32 (rr : Int)] 30) (by simp) (fun d hd => by simp at hd; omega) (by simp) (by omega) (by simp))
        have HV1 : Hid (Nt.val [rr] = rr) := Lib.hid (by simp [Nt.val])
        rw [HV1.out] at NR
        go_wp2_with fail
        refine NR.out.mono ?_
        rintro e w3 ⟨rfl, hblk3, hb3⟩
        have hb23 : Below w2.heap.size w2 w3 := ((Below.refl _ _).alloc (Nat.le_refl _) _).trans (hb3.mono (by simp))
        have hrl2 : (Nt.digs rr).length ≤ 1 := Nt.digs_len_lt (by simpa using hrl)
        go_wp2_with fail
        go_ret3
        refine ⟨_, _, rfl, ⟨_, _, rfl, Nat.le_refl _, by omega, (fun h => by cases h), (HQ.out.below hb23).more hb23.size⟩, ?_, hb2.trans (hb23.mono hsz2)⟩
        rw [HRR.out]
        have hli := hblk3.lies
        rw [show (w2.alloc (.cells #[.int .u32 (rr : Int)] 30)).heap.size = w2.heap.size + 1 from by simp] at hli
        exact ⟨_, _, rfl, Nat.le_refl _, by omega, (fun h => by cases h), hli⟩
      · have hl1 : (((Nt.digs y).length : Int) == 1) = false := by simp; intro h; exact h1 (by omega)
        have hlong : LongSaid := by
          rcases HLG with h | h
          · exfalso; omega
          · exact h
        have LG := Lib.hid (fun n => hlong A A' (Nt.digs x).length (Nt.digs y).length w.heap.size x y (w.drewN n) LA.out LB.out (Nat.le_refl _) (Nat.le_refl _) (Nat.le_refl _) (by omega) (by omega) hla (by omega) (by omega))
        clear hlong h1 HLG
        go_enter Tryd.func20, Tryd.ntmps20
        go_wp2_with fail
        refine TA.out.mono ?_
        rintro e w' ⟨rfl, rfl⟩
        go_wp2_with fail
        refine TB.out.mono ?_
        rintro e w' ⟨rfl, rfl⟩
        go_wp2_with fail
        refine CM.out.mono ?_
        rintro e w' ⟨rfl, n1, rfl⟩
        go_wp2_with fail
        refine (LG.out n1).mono ?_
        rintro e w1 ⟨v1, v2, rfl, hr1, hr2, hb1⟩
        go_wp2_with fail
        go_ret3
        exact ⟨_, _, rfl, hr1, hr2, ⟨hb1.os, hb1.tape, hb1.output, hb1.size, hb1.block⟩⟩
end Go.Proofs.YtgicgmaiolfpkaaDoor
