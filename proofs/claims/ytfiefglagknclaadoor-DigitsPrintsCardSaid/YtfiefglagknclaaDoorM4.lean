/-
  Texts of this proof, joined (by wip/bin/bundle.py): Nat11, Nat9, Nat12, NatAwake, Ints, NatIn, NatSums, BldLaid, Dig9, ArrMath, Arr, Same1.
-/
import Derived.Test.YtfiefglagknclaaDoorM3
import Derived.Deep.QuietTactic
import Derived.BigQuiet
import Derived.ProofKit
import Derived.OpenShut
import Derived.ChangeOld
import Derived.Shelf.Lay
import Derived.Shelf.Strings.BuilderK
import Derived.Test.YtfiefglagknclaaDoorProg
import Derived.IntWalk
import Derived.LoopTactic
import Derived.Outline
/-
  What nat.DivMod computes (by more than one limb: if long does what it says).
-/
namespace Go.Proofs.YtfiefglagknclaaDoor
open Go.RowKit
set_option maxHeartbeats 1000000
set_option maxRecDepth 100000
set_option linter.unusedVariables false

/-- What nat.long is to do. -/
def LongSaid : Prop := ∀ (A A' : Option Addr) (c c' B x y : Nat) (w : World), Lies w B A (U (Nt.digs x)) → Lies w B A' (U (Nt.digs y)) → B ≤ w.heap.size → (Nt.digs x).length ≤ c → (Nt.digs y).length ≤ c' → c ≤ 9223372036854775807 → c' ≤ 9223372036854775807 →
  (Nt.digs x).length ≤ 1000000 → 2 ≤ (Nt.digs y).length → y ≤ x →
  Calls Tryd.prog 101 #[.slice A (Nt.digs x).length c, .slice A' (Nt.digs y).length c'] w fun e w' => ∃ v1 v2, e = .returned (.tuple #[v1, v2]) ∧ IsRes w' v1 (Nt.digs (x / y)) ∧ IsRes w' v2 (Nt.digs (x % y)) ∧ Below w.heap.size w w'

theorem divMod_any (A A' : Option Addr) (c c' B : Nat) (a b : List Nat) (w : World) (hx : Lies w B A (U a)) (hy : Lies w B A' (U b)) (hB : B ≤ w.heap.size) (ha : Nt.Ok a) (hb : Nt.Ok b)
    (hc : a.length ≤ c) (hc' : b.length ≤ c') (hm : c ≤ 9223372036854775807) (hm' : c' ≤ 9223372036854775807) (hs : a.length ≤ 1000000) (hs' : b.length ≤ 1000000) (HLG : (Nt.digs (Nt.val b)).length ≤ 1 ∨ LongSaid) :
    Calls Tryd.prog 68 #[.slice A a.length c, .slice A' b.length c'] w fun e w' => ∃ v1 v2, e = .returned (.tuple #[v1, v2, .bool (decide (Nt.val b ≠ 0))]) ∧
      IsRes w' v1 (Nt.digs (Nt.quo (Nt.val a) (Nt.val b))) ∧ IsRes w' v2 (Nt.digs (Nt.rest (Nt.val a) (Nt.val b))) ∧ Below w.heap.size w w' := by
  have ha' := Nt.digs_len_le ha
  have hb' := Nt.digs_len_le hb
  have TA := Lib.hid (trim_any A c B a w hx ha hc hm)
  have TB := Lib.hid (trim_any A' c' B b w hy hb hc' hm')
  have LA := Lib.hid ((hx.digs ha).more hB)
  have LB := Lib.hid ((hy.digs hb).more hB)
  have OA := Lib.hid (Nt.ok_digs (Nt.val a))
  have OB := Lib.hid (Nt.ok_digs (Nt.val b))
  have VA := Lib.hid (Nt.val_digs (Nt.val a))
  have VB := Lib.hid (Nt.val_digs (Nt.val b))
  have ZB : Hid ((Nt.digs (Nt.val b)).length = 0 → Nt.val b = 0) := Lib.hid (fun h => Nt.digs_nil_iff.1 (List.eq_nil_of_length_eq_zero h))
  have hla : (Nt.digs (Nt.val a)).length ≤ 1000000 := by omega
  have hlb : (Nt.digs (Nt.val b)).length ≤ 1000000 := by omega
  clear hx hy ha hb
  generalize Nt.val a = x at *
  generalize Nt.val b = y at *
  by_cases h0 : y = 0
  · subst h0
    have HZ : Hid ((Nt.digs 0).length = 0) := Lib.hid (by rw [Nt.digs_zero]; rfl)
    go_enter Tryd.func68, Tryd.ntmps68
    go_wp2_with fail
    refine TA.out.mono ?_
    rintro e w' ⟨rfl, rfl⟩
    go_wp2_with fail
    refine TB.out.mono ?_
    rintro e w' ⟨rfl, rfl⟩
    rw [HZ.out]
    go_wp2_with fail
    go_ret3
    refine ⟨_, _, rfl, ?_, ?_, Below.refl _ _⟩
    · rw [Nt.quo_zero, Nt.digs_zero]; exact IsRes.none_ _
    · rw [Nt.rest_zero, Nt.digs_zero]; exact IsRes.none_ _
  · have HP : Hid (decide (y ≠ 0) = true) := Lib.hid (by simp; omega)
    have hlp : (Nt.digs y).length ≠ 0 := fun h => h0 (ZB.out h)
    have hle : (((Nt.digs y).length : Int) == 0) = false := by simp; intro h; exact hlp (by rw [h]; rfl)
    have HI1 : Hid (Nt.quo x y = x / y) := Lib.hid rfl
    have HI2 : Hid (Nt.rest x y = x % y) := Lib.hid (Nt.rest_pos h0)
    have CM := Lib.hid (cmp_any A A' (Nt.digs x).length (Nt.digs y).length w.heap.size (Nt.digs x) (Nt.digs y) w LA.out LB.out OA.out OB.out (Nat.le_refl _) (Nat.le_refl _) (by omega) (by omega))
    rw [VA.out, VB.out] at CM
    rw [HP.out, HI1.out, HI2.out]
    have hylp : 0 < y := by omega
    clear HI1 HI2
    by_cases hlt : x < y
    · have HE : Hid (Nt.cmp x y = -1) := Lib.hid (Nt.cmp_lt hlt)
      have HQ : Hid (x / y = 0) := Lib.hid (Nat.div_eq_of_lt hlt)
      have HR : Hid (x % y = x) := Lib.hid (Nat.mod_eq_of_lt hlt)
      have NA := Lib.hid (fun n => norm_any A (Nt.digs x).length w.heap.size (Nt.digs x) (w.drewN n) LA.out (Nat.le_refl _) OA.out (Nat.le_refl _) (by omega) (by omega))
      rw [VA.out] at NA
      rw [HQ.out, HR.out, Nt.digs_zero]
      go_enter Tryd.func68, Tryd.ntmps68
      go_wp2_with fail
      refine TA.out.mono ?_
      rintro e w' ⟨rfl, rfl⟩
      go_wp2_with fail
      refine TB.out.mono ?_
      rintro e w' ⟨rfl, rfl⟩
      go_wp2_with fail
      refine CM.out.mono ?_
      rintro e w' ⟨rfl, n1, rfl⟩
      rw [HE.out]
      go_wp2_with fail
      refine (NA.out n1).mono ?_
      rintro e w1 ⟨rfl, hblk1, hb1⟩
      go_wp2_with fail
      go_ret3
      refine ⟨_, _, rfl, IsRes.none_ _, ⟨_, _, rfl, Nat.le_refl _, by omega, (fun h => by cases h), hblk1.lies⟩, ?_⟩
      exact ⟨hb1.os, hb1.tape, hb1.output, hb1.size, hb1.block⟩
    · have hcmp : decide (Nt.cmp x y < 0) = false := by rw [decide_eq_false_iff_not, Nt.cmp_neg]; omega
      by_cases h1 : (Nt.digs y).length = 1
      · have hl1 : (((Nt.digs y).length : Int) == 1) = true := by simp [h1]
        have NA := Lib.hid (fun n => norm_any A (Nt.digs x).length w.heap.size (Nt.digs x) (w.drewN n) LA.out (Nat.le_refl _) OA.out (Nat.le_refl _) (by omega) (by omega))
        rw [VA.out] at NA
        have hy32 : y < 4294967296 := by
          have := Nt.val_lt OB.out
          rw [VB.out, h1] at this
          simpa using this
        have HY : Hid (Nt.digs y = [y]) := Lib.hid (by
          rw [Nt.digs_pos h0, Nat.mod_eq_of_lt hy32, Nat.div_eq_of_lt hy32, Nt.digs_zero])
        obtain ⟨bb, offb, rfl, hbb, HCB⟩ : ∃ b off, A' = some ⟨b, off, none⟩ ∧ b < w.heap.size ∧ Hid (∀ wx : World, Below w.heap.size w wx → wx.cell? ⟨b, off, none⟩ = some (.int .u32 (y : Int))) := by
          have := LB.out
          rw [HY.out] at this
          obtain ⟨b, off, h1, h2, h3⟩ := this.limb (k := 0) (by simp)
          exact ⟨b, off, h1, h2, Lib.hid (fun wx hwx => (hwx.cell (p := ⟨b, off, none⟩) h2).trans (by simpa using h3))⟩
        have hone : 1 ≤ (Nt.digs y).length := by omega
        clear h1
        go_enter Tryd.func68, Tryd.ntmps68
        go_wp2_with fail
        refine TA.out.mono ?_
        rintro e w' ⟨rfl, rfl⟩
        go_wp2_with fail
        refine TB.out.mono ?_
        rintro e w' ⟨rfl, rfl⟩
        go_wp2_with fail
        refine CM.out.mono ?_
        rintro e w' ⟨rfl, n1, rfl⟩
        go_wp2_with fail
        refine (NA.out n1).mono ?_
        rintro e w1 ⟨rfl, hblk1, hb1⟩
        have hb0 : Below w.heap.size w w1 := ⟨hb1.os, hb1.tape, hb1.output, hb1.size, hb1.block⟩
        have hblk0 : Blk w1 w.heap.size 70 (U (Nt.digs x) ++ []) := by rw [List.append_nil]; exact hblk1
        clear hb1 hblk1
        have hcell := HCB.out w1 hb0
        go_wp2_with fail
        refine (shorten_any w.heap.size (Nt.digs x).length y (Nt.digs x) [] w1 hblk0 OA.out hylp hy32 (by omega)).mono ?_
        rintro e w2 ⟨cur, rfl, hblk2, HC, hgr2⟩
        have hb2 : Below w.heap.size w w2 := hb0.grown hgr2 hb0.size (fun k hk => by injection hk with hk; omega)
        rw [List.append_nil] at hblk2
        have HTR := trim_any (some ⟨w.heap.size, 0, none⟩) (Nt.digs x).length w2.heap.size cur w2 hblk2.lies HC.out.2.1 (by rw [HC.out.1]; exact Nat.le_refl _) (by omega)
        rw [HC.out.1, HC.out.2.2, VA.out] at HTR
        have HTR2 := Lib.hid HTR
        have HQL : (Nt.digs (x / y)).length ≤ (Nt.digs x).length := by have := Nt.digs_len_le HC.out.2.1; rw [HC.out.1, HC.out.2.2, VA.out] at this; exact this
        have HQ : Hid (Lies w2 w2.heap.size (some ⟨w.heap.size, 0, none⟩) (U (Nt.digs (x / y)))) := Lib.hid (by have := hblk2.lies.digs HC.out.2.1; rw [HC.out.2.2, VA.out] at this; exact this)
        have hrl : x % y < 4294967296 := by have := Nat.mod_lt x hylp; omega
        rw [VA.out]
        generalize hrr : x % y = rr at *
        have HRR := Lib.hid hrr
        clear hrr HTR hblk2
        go_wp2_with fail
        refine HTR2.out.mono ?_
        rintro e w' ⟨rfl, rfl⟩
        have hsz2 := hb2.size
        have NR := Lib.hid (norm_any (some ⟨w2.heap.size, 0, none⟩) 1 (w2.heap.size + 1) [rr] (w2.alloc (.cells #[.int .u32 (rr : Int)] 70)) (Lies.new w2 [.int .u32 (rr : Int)] 70) (by simp) (fun d hd => by simp at hd; omega) (by simp) (by omega) (by simp))
        have HV1 : Hid (Nt.val [rr] = rr) := Lib.hid (by simp [Nt.val])
        rw [HV1.out] at NR
        go_wp2_with fail
        refine NR.out.mono ?_
        rintro e w3 ⟨rfl, hblk3, hb3⟩
        have hb23 : Below w2.heap.size w2 w3 := ((Below.refl _ _).alloc (Nat.le_refl _) _).trans (hb3.mono (by simp))
        have hrl2 : (Nt.digs rr).length ≤ 1 := Nt.digs_len_lt (by simpa using hrl)
        go_wp2_with fail
        go_ret3
        refine ⟨_, _, rfl, ⟨_, _, rfl, Nat.le_refl _, by omega, (fun h => by cases h), (HQ.out.below hb23).more hb23.size⟩, ?_, hb2.trans (hb23.mono hsz2)⟩
        rw [HRR.out]
        have hli := hblk3.lies
        rw [show (w2.alloc (.cells #[.int .u32 (rr : Int)] 70)).heap.size = w2.heap.size + 1 from by simp] at hli
        exact ⟨_, _, rfl, Nat.le_refl _, by omega, (fun h => by cases h), hli⟩
      · have hl1 : (((Nt.digs y).length : Int) == 1) = false := by simp; intro h; exact h1 (by omega)
        have hlong : LongSaid := by
          rcases HLG with h | h
          · exfalso; omega
          · exact h
        have LG := Lib.hid (fun n => hlong A A' (Nt.digs x).length (Nt.digs y).length w.heap.size x y (w.drewN n) LA.out LB.out (Nat.le_refl _) (Nat.le_refl _) (Nat.le_refl _) (by omega) (by omega) hla (by omega) (by omega))
        clear hlong h1 HLG
        go_enter Tryd.func68, Tryd.ntmps68
        go_wp2_with fail
        refine TA.out.mono ?_
        rintro e w' ⟨rfl, rfl⟩
        go_wp2_with fail
        refine TB.out.mono ?_
        rintro e w' ⟨rfl, rfl⟩
        go_wp2_with fail
        refine CM.out.mono ?_
        rintro e w' ⟨rfl, n1, rfl⟩
        go_wp2_with fail
        refine (LG.out n1).mono ?_
        rintro e w1 ⟨v1, v2, rfl, hr1, hr2, hb1⟩
        go_wp2_with fail
        go_ret3
        exact ⟨_, _, rfl, hr1, hr2, ⟨hb1.os, hb1.tape, hb1.output, hb1.size, hb1.block⟩⟩
end Go.Proofs.YtfiefglagknclaaDoor

/-
  What nat.Mul computes: the digits of the product.
-/
namespace Go.Proofs.YtfiefglagknclaaDoor
open Go.RowKit
set_option maxHeartbeats 1000000
set_option maxRecDepth 100000
set_option linter.unusedVariables false

end Go.Proofs.YtfiefglagknclaaDoor

/-
  What nat.word, nat.small and nat.Gcd compute: the greatest number that divides both.
-/
namespace Go.Proofs.YtfiefglagknclaaDoor
open Go.RowKit
set_option maxHeartbeats 1000000
set_option maxRecDepth 100000
set_option linter.unusedVariables false

theorem word_any (A : Option Addr) (c B : Nat) (l : List Nat) (w : World) (hl : Lies w B A (U l)) (ho : Nt.Ok l) (h2 : l.length ≤ 2) :
    Calls Tryd.prog 99 #[.slice A l.length c] w fun e w' => e = .returned (.int .u64 (Nt.val l : Int)) ∧ w = w' := by
  have HL := Lib.hid hl
  have HO := Lib.hid ho
  clear hl ho
  go_enter Tryd.func99, Tryd.ntmps99
  go_wp2_with fail
  go_loop [3, 8] (fun v i => ∃ k n : Nat, k ≤ l.length ∧ n < 18446744073709551616 ∧ i = .int .i64 (k : Int) ∧ v = .int .u64 (n : Int) ∧ Hid (n = Nt.val (l.take k))) (fun _ i => l.length - (intOf i).toNat)
  case atStart => exact ⟨0, 0, Nat.zero_le _, by omega, rfl, rfl, Lib.hid (by simp [Nt.val])⟩
  case round =>
    obtain ⟨k, n, hk, hn, rfl, rfl, H⟩ := hrel
    by_cases hlt : k < l.length
    · obtain ⟨b, off, rfl, _, hcell⟩ := HL.out.limb hlt
      have hxb := Nt.ok_get HO.out hlt
      have ST := Lib.hid (Nt.val_take_succ hlt)
      have VL := Nt.val_lt (Nt.ok_take HO.out k)
      rw [← H.out, List.length_take, Nat.min_eq_left hk] at VL
      generalize l[k] = x at hcell hxb ST
      have hk2 : k = 0 ∨ k = 1 := by omega
      rcases hk2 with rfl | rfl
      · have hn0 : n = 0 := by simpa using VL
        subst hn0
        rw [Nat.add_zero] at hcell
        have hor : bits BinOp.or IntKind.u64 0 (x : Int) = (x : Int) := by
          have := u64_or_nat 0 x (by omega) (by omega)
          rw [Nat.zero_or] at this
          exact this
        go_wp2_with fail
        refine ⟨⟨1, x, by omega, by omega, rfl, ?_, Lib.hid (by rw [ST.out]; simp [Nt.val])⟩, by simp [intOf]; omega⟩
        rfl
      · have hn1 : n < 4294967296 := by simpa using VL
        have hor : bits BinOp.or IntKind.u64 (n : Int) ((x : Int) * 4294967296) = ((x * 4294967296 + n : Nat) : Int) := by
          have := u64_or_nat n (x * 4294967296) (by omega) (by omega)
          rw [Nat.or_comm, nat_join 32 (x * 4294967296) n (by omega) (by omega)] at this
          rw [← this, Int.natCast_mul]
          rfl
        go_wp2_with fail
        refine ⟨⟨2, x * 4294967296 + n, by omega, by omega, rfl, ?_, Lib.hid (by rw [ST.out, ← H.out]; omega)⟩, by simp [intOf]; omega⟩
        exact congrArg (Value.int .u64) (by omega)
    · go_wp2_with fail
      go_ret
      exact ⟨ret_int (by rw [H.out, List.take_of_length_le (by omega)]), rfl⟩

theorem two_limbs {x : Nat} (hx : x < 18446744073709551616) : Nt.val [x % 4294967296, x / 4294967296] = x := by simp [Nt.val]; omega

theorem small_any (a b : Nat) (w : World) (ha : a < 18446744073709551616) (hb : b < 18446744073709551616) :
    Calls Tryd.prog 98 #[.int .u64 (a : Int), .int .u64 (b : Int)] w fun e w' => ∃ v, e = .returned v ∧ IsRes w' v (Nt.digs (Nat.gcd a b)) ∧ Below w.heap.size w w' := by
  go_enter Tryd.func98, Tryd.ntmps98
  go_wp2_with fail
  go_loopw [0, 1] (fun xv yv wr => ∃ x y m : Nat, wr = w.drewN m ∧ x < 18446744073709551616 ∧ y < 18446744073709551616 ∧ xv = .int .u64 (x : Int) ∧ yv = .int .u64 (y : Int) ∧ Hid (Nat.gcd x y = Nat.gcd a b)) (fun _ yv _ => (intOf yv).toNat)
  case atStart => exact ⟨a, b, 0, rfl, ha, hb, rfl, rfl, Lib.hid rfl⟩
  case round =>
    obtain ⟨x, y, m, rfl, hx, hy, rfl, rfl, H⟩ := hrel
    by_cases h0 : y = 0
    · subst h0
      have HE : Hid (Nat.gcd a b = x) := Lib.hid (by rw [← H.out, Nat.gcd_zero_right])
      have NR := Lib.hid (norm_any (some ⟨w.heap.size, 0, none⟩) 2 (w.heap.size + 1) [x % 4294967296, x / 4294967296] ((w.drewN m).alloc (.cells #[.int .u32 ((x % 4294967296 : Nat) : Int), .int .u32 ((x / 4294967296 : Nat) : Int)] 70)) (Lies.new (w.drewN m) [.int .u32 ((x % 4294967296 : Nat) : Int), .int .u32 ((x / 4294967296 : Nat) : Int)] 70) (by simp) (fun d hd => by simp at hd; omega) (by simp) (by omega) (by simp))
      rw [two_limbs hx] at NR
      have e1 : ((x % 4294967296 : Nat) : Int) = (x : Int) % 4294967296 := by omega
      have e2 : ((x / 4294967296 : Nat) : Int) = (x : Int) / 4294967296 := by omega
      rw [e1, e2] at NR
      clear e1 e2
      go_wp2_with fail
      refine NR.out.mono ?_
      rintro e w1 ⟨rfl, hblk1, hb1⟩
      have hb0 : Below w.heap.size w w1 := by
        have h1 : Below w.heap.size w (w.drewN m) := ⟨rfl, rfl, rfl, Nat.le_refl _, fun _ _ => rfl⟩
        exact (h1.alloc (Nat.le_refl _) _).trans (hb1.mono (by simp))
      have hli := hblk1.lies
      have hl2 : (Nt.digs x).length ≤ 2 := Nt.digs_len_lt (by simpa using hx)
      go_wp2_with fail
      go_ret
      refine ⟨_, rfl, ?_, hb0⟩
      rw [HE.out]
      exact ⟨_, _, rfl, Nat.le_refl _, by omega, (fun h => by cases h), by simpa using hli⟩
    · have hne : ((y : Int) != 0) = true := by simp; omega
      have hy1 : (1 : Int) ≤ (y : Int) := by omega
      have hr2 : (x : Int) % (y : Int) = ((x % y : Nat) : Int) := (Int.natCast_emod x y).symm
      have hrl : x % y < y := Nat.mod_lt _ (by omega)
      have HG : Hid (Nat.gcd y (x % y) = Nat.gcd x y) := Lib.hid (by rw [Nat.gcd_comm x y, Nat.gcd_rec y x, Nat.gcd_comm])
      have HR2 := Lib.hid hr2
      generalize x % y = r at *
      have hdz : ((y : Int) == 0) = false := by simp; omega
      go_wp2_with fail
      go_quiet (fail)
      go_wp2_with fail
      refine ⟨⟨y, r, m + nq, World.drewN_drewN _ _ _, hy, by omega, rfl, congrArg (Value.int .u64) HR2.out, Lib.hid (by rw [HG.out]; exact H.out)⟩, ?_⟩
      rw [HR2.out]
      simp [intOf]; omega

/-- nat.Gcd where both are of at most two limbs, and the second is not 0. -/
theorem gcd_few (A A' : Option Addr) (c c' B : Nat) (a b : List Nat) (w : World) (hx : Lies w B A (U a)) (hy : Lies w B A' (U b)) (hB : B ≤ w.heap.size) (ha : Nt.Ok a) (hb : Nt.Ok b)
    (hc : a.length ≤ c) (hc' : b.length ≤ c') (hm : c ≤ 9223372036854775807) (hm' : c' ≤ 9223372036854775807) (h2 : (Nt.digs (Nt.val a)).length ≤ 2) (h2' : (Nt.digs (Nt.val b)).length ≤ 2) (h0 : Nt.val b ≠ 0) :
    Calls Tryd.prog 67 #[.slice A a.length c, .slice A' b.length c'] w fun e w' => ∃ v, e = .returned v ∧ IsRes w' v (Nt.digs (Nat.gcd (Nt.val a) (Nt.val b))) ∧ Below w.heap.size w w' := by
  have TA := Lib.hid (trim_any A c B a w hx ha hc hm)
  have TB := Lib.hid (trim_any A' c' B b w hy hb hc' hm')
  have WA := Lib.hid (word_any A (Nt.digs (Nt.val a)).length B (Nt.digs (Nt.val a)) w (hx.digs ha) (Nt.ok_digs _) h2)
  have WB := Lib.hid (word_any A' (Nt.digs (Nt.val b)).length B (Nt.digs (Nt.val b)) w (hy.digs hb) (Nt.ok_digs _) h2')
  rw [Nt.val_digs] at WA WB
  have hlb : (Nt.digs (Nt.val b)).length ≠ 0 := fun h => h0 (Nt.digs_nil_iff.1 (List.eq_nil_of_length_eq_zero h))
  have hxa : Nt.val a < 18446744073709551616 := by
    have h := Nt.val_lt (Nt.ok_digs (Nt.val a))
    rw [Nt.val_digs] at h
    exact Nat.lt_of_lt_of_le h (Nat.le_trans (Nat.pow_le_pow_right (by omega) h2) (by decide))
  have hxb : Nt.val b < 18446744073709551616 := by
    have h := Nt.val_lt (Nt.ok_digs (Nt.val b))
    rw [Nt.val_digs] at h
    exact Nat.lt_of_lt_of_le h (Nat.le_trans (Nat.pow_le_pow_right (by omega) h2') (by decide))
  clear hx hy ha hb h0
  generalize Nt.val a = x at *
  generalize Nt.val b = y at *
  generalize Nt.digs x = da at *
  generalize Nt.digs y = db at *
  have hpb : 0 < db.length := by omega
  go_enter Tryd.func67, Tryd.ntmps67
  go_wp2_with fail
  refine TA.out.mono ?_
  rintro e w' ⟨rfl, rfl⟩
  go_wp2_with fail
  refine TB.out.mono ?_
  rintro e w' ⟨rfl, rfl⟩
  go_wp2_with fail
  refine wp_loop_rounds 1 ?_
  rw [rounds_succ]
  go_wp2_with fail
  refine WA.out.mono ?_
  rintro e w' ⟨rfl, rfl⟩
  go_wp2_with fail
  refine WB.out.mono ?_
  rintro e w' ⟨rfl, rfl⟩
  go_wp2_with fail
  refine (small_any x y _ hxa hxb).mono ?_
  rintro e w1 ⟨v, rfl, hr, hb1⟩
  go_wp2_with fail
  go_ret
  exact ⟨_, rfl, hr, hb1⟩
end Go.Proofs.YtfiefglagknclaaDoor

/-
  Chapter 2's examples: scrimlaw02.awake returns true.
-/
namespace Go.Proofs.YtfiefglagknclaaDoor
open Go.RowKit
set_option maxHeartbeats 1000000
set_option maxRecDepth 100000
set_option linter.unusedVariables false

theorem digs_small {n : Nat} (h : n < 4294967296) (h0 : n ≠ 0) : Nt.digs n = [n] := by
  rw [Nt.digs_pos h0, Nat.mod_eq_of_lt h, Nat.div_eq_of_lt h, Nt.digs_zero]
theorem Lies.alloc {w : World} {B : Nat} {A : Option Addr} {vs : List Value} (h : Lies w B A vs) (hB : B ≤ w.heap.size) (o : Obj) : Lies (w.alloc o) B A vs := h.below ((Below.refl _ _).alloc hB o)
/-- A number of one limb that a call handed back, held against a literal. -/
theorem same_lit {w0 w : World} {v : Value} {n : Nat} (h : IsRes w v (Nt.digs n)) (hn : n < 4294967296) (h0 : n ≠ 0) (hb : Below w0.heap.size w0 w) :
    Calls Tryd.prog 36 #[v, .slice (some ⟨w.heap.size, 0, none⟩) 1 1] (w.alloc (.cells #[.int .u32 (n : Int)] 70)) fun e w' => e = .returned (.bool true) ∧ Below w0.heap.size w0 w' ∧ Below w.heap.size w w' := by
  rw [digs_small hn h0] at h
  obtain ⟨A, c, rfl, h1, h2, h3, h4⟩ := h
  refine (same_any A (some ⟨w.heap.size, 0, none⟩) c 1 w.heap.size (w.heap.size + 1) [n] [n] _ (h4.alloc (Nat.le_refl _) _) (Lies.new w [.int .u32 (n : Int)] 70) (by simp) (by simp)).mono ?_
  rintro e w' ⟨rfl, k, rfl⟩
  have hb1 : Below w.heap.size w ((w.alloc (.cells #[.int .u32 (n : Int)] 70)).drewN k) := by
    have := (Below.refl w.heap.size w).alloc (Nat.le_refl _) (.cells #[.int .u32 (n : Int)] 70)
    exact ⟨this.os, this.tape, this.output, this.size, this.block⟩
  exact ⟨by simp, hb.trans (hb1.mono hb.size), hb1⟩

end Go.Proofs.YtfiefglagknclaaDoor

/-
  A slice of integers that came in, opened: its elements as a list of numbers.
-/
namespace Go.Proofs.YtfiefglagknclaaDoor
open Go.ChangeShapes Go.WideShapes Go.ChangeAt Go.RowKit

/-- The elements (not the spare room) of a slice of integers. -/
def IsInts (k : IntKind) (w : World) (A : Option Addr) (len cap : Nat) (zs : List Int) : Prop :=
  zs.length = len ∧ len ≤ cap ∧ cap ≤ maxLen ∧ Lies w w.heap.size A (zs.map (Value.int k)) ∧ ∀ n ∈ zs, (Lit.int k n).wf = true

theorem lies_of_cells {w : World} {a : Addr} {vs : List Value} (h : ∀ i v, vs[i]? = some v → w.cell? (a.add i) = some v) : Lies w w.heap.size (some a) vs := by
  cases vs with
  | nil => exact .inl rfl
  | cons v r =>
    have h0 := h 0 v rfl
    obtain ⟨b, off, spot⟩ := a
    have hs : spot = none := by simpa [Addr.add] using World.cell?_spot h0
    subst hs
    refine .inr ⟨b, off, rfl, World.block_lt_of_cell? w _ (by simpa [Addr.add] using h0), fun i u hu => ?_⟩
    have := h i u hu
    unfold Addr.add at this
    split at this
    · rename_i e; subst e; simpa using this
    · simpa using this

theorem ints_of {H : Type} {enc : TypeId × Value → H} {P : Program} {W : World} {base : Nat} {sp : Nat → Bool} {held : Bool} {t e : TypeId} {k : IntKind} {a : Option Addr} {len cap : Nat} {d : DataW H} {p : List MemPlace}
    (ht : P.underlying t = some (.slice e)) (he : P.underlying e = some (.int k)) (hc : P.cellsOf e = 1) (h : DataW.Trod enc P W base sp held t (.slice a len cap) d p) : ∃ zs, IsInts k W a len cap zs := by
  obtain ⟨fuel, hf⟩ := h
  rcases open_ints ht he hc hf with ⟨hcs, _⟩ | ⟨x, l, c, zs, hcs, _, hl, hm, hz, _, hcell, hwz⟩
  · simp [Value.cells] at hcs
    obtain ⟨rfl, rfl, rfl⟩ := hcs
    exact ⟨[], rfl, Nat.le_refl _, Nat.zero_le _, .inl rfl, by simp⟩
  · simp [Value.cells] at hcs
    obtain ⟨rfl, rfl, rfl⟩ := hcs
    have hlz : len ≤ zs.length := by rw [hz]; split <;> omega
    refine ⟨zs.take len, by simp; omega, hl, hm, lies_of_cells fun i v hv => ?_, fun n hn => hwz n (List.mem_of_mem_take hn)⟩
    rw [List.getElem?_map, List.getElem?_take] at hv
    split at hv
    · rename_i hi
      have := hcell i (by omega)
      rw [List.getElem?_eq_getElem (by omega)] at hv
      rw [this]
      simp only [Option.map_some, Option.some.injEq] at hv
      rw [← hv, List.getD_eq_getElem?_getD, List.getElem?_eq_getElem (by omega)]
      rfl
    · cases hv
end Go.Proofs.YtfiefglagknclaaDoor

/-
  A slice of limbs that came in, opened.
-/
namespace Go.Proofs.YtfiefglagknclaaDoor
open Go.ChangeShapes Go.WideShapes Go.ChangeAt Go.RowKit

/-- The limbs (not the spare room) of a slice that came in. -/
def IsLimbs (w : World) (A : Option Addr) (len cap : Nat) (ns : List Nat) : Prop :=
  ns.length = len ∧ len ≤ cap ∧ cap ≤ 9223372036854775807 ∧ (A = none → cap = 0) ∧ Lies w w.heap.size A (U ns) ∧ Nt.Ok ns

theorem limbs_of {H : Type} {enc : TypeId × Value → H} {P : Program} {W : World} {base : Nat} {sp : Nat → Bool} {held : Bool} {t e : TypeId} {a : Option Addr} {len cap : Nat} {d : DataW H} {p : List MemPlace}
    (ht : P.underlying t = some (.slice e)) (he : P.underlying e = some (.int .u32)) (hc : P.cellsOf e = 1) (h : DataW.Trod enc P W base sp held t (.slice a len cap) d p) : ∃ ns, IsLimbs W a len cap ns := by
  have hnil : a = none → cap = 0 := by
    rintro rfl
    obtain ⟨fuel, hf⟩ := h
    rcases open_ints ht he hc hf with ⟨hcs, _⟩ | ⟨x, l, c, zs, hcs, _⟩
    · simp [Value.cells] at hcs
      exact hcs.2
    · simp [Value.cells] at hcs
  obtain ⟨zs, h1, h2, h3, h4, h5⟩ := ints_of ht he hc h
  have hz : ∃ ns : List Nat, zs = ns.map (fun n : Nat => (n : Int)) ∧ Nt.Ok ns := by
    refine ⟨zs.map Int.toNat, ?_, ?_⟩
    · rw [List.map_map]
      have e : zs.map ((fun n : Nat => (n : Int)) ∘ Int.toNat) = zs.map id := List.map_congr_left fun x hx => by
        have := bounds_u32 (h5 x hx)
        simp; omega
      rw [e, List.map_id]
    · intro n hn
      obtain ⟨x, hx, rfl⟩ := List.mem_map.1 hn
      have := bounds_u32 (h5 x hx)
      omega
  obtain ⟨ns, rfl, hok⟩ := hz
  refine ⟨ns, by simpa using h1, h2, by unfold maxLen at h3; omega, hnil, ?_, hok⟩
  rw [List.map_map] at h4
  exact h4
end Go.Proofs.YtfiefglagknclaaDoor

/-
  The walk of the law NatSums.
-/
namespace Go.Proofs.YtfiefglagknclaaDoor
open Go.RowKit
set_option maxHeartbeats 1000000
set_option maxRecDepth 100000
set_option linter.unusedVariables false

/-- Two numbers that calls handed back, the same ones. -/
theorem same_res {w0 w : World} {v1 v2 : Value} {n : Nat} (h1 : IsRes w v1 (Nt.digs n)) (h2 : IsRes w v2 (Nt.digs n)) (hb : Below w0.heap.size w0 w) :
    Calls Tryd.prog 36 #[v1, v2] w fun e w' => e = .returned (.bool true) ∧ Below w0.heap.size w0 w' ∧ Below w.heap.size w w' := by
  obtain ⟨A, c, rfl, a1, a2, a3, a4⟩ := h1
  obtain ⟨A', c', rfl, b1, b2, b3, b4⟩ := h2
  refine (same_any A A' c c' w.heap.size w.heap.size (Nt.digs n) (Nt.digs n) w a4 b4 (by omega) (by omega)).mono ?_
  rintro e w' ⟨rfl, k, rfl⟩
  have hb1 : Below w.heap.size w (w.drewN k) := ⟨rfl, rfl, rfl, Nat.le_refl _, fun _ _ => rfl⟩
  exact ⟨by simp, hb.trans (hb1.mono hb.size), hb1⟩

end Go.Proofs.YtfiefglagknclaaDoor

/-
  The library's contract of (*strings.Builder).WriteString, laid by hand: 'shelf_lay' did not find the string type in the bodies that it goes by.
-/
namespace Go.Proofs
open Go.Shelf
def YtfiefglagknclaaDoorRen : Go.Shelf.Ren := ⟨fun | 166 => 57 | 240 => 92 | 276 => 127 | n => n, fun | 70 => 93 | 3 => 3 | 0 => 0 | 4 => 4 | 9 => 9 | 20 => 20 | 72 => 96 | 37 => 94 | 164 => 164 | 5 => 5 | 75 => 99 | 80 => 102 | n => n, fun | n => n⟩
theorem YtfiefglagknclaaDoorLaid : Go.Proofs.Lays.n166 Tryd.prog YtfiefglagknclaaDoorRen := {
  mixed := by kernel_rfl
  f166 := Tryd.func57.trans (congrArg some (by kernel_rfl))
  f240 := Tryd.func92.trans (congrArg some (by kernel_rfl))
  f276 := Tryd.func127.trans (congrArg some (by kernel_rfl))
  t0 := Tryd.underlying0
  a0 := Tryd.isAgg0
  z0 := Tryd.sizeOf0
  v0 := Tryd.zeroValue0
  t3 := Tryd.underlying3
  a3 := Tryd.isAgg3
  z3 := Tryd.sizeOf3
  v3 := Tryd.zeroValue3
  t4 := Tryd.underlying4
  a4 := Tryd.isAgg4
  z4 := Tryd.sizeOf4
  v4 := Tryd.zeroValue4
  t9 := Tryd.underlying9
  a9 := Tryd.isAgg9
  z9 := Tryd.sizeOf9
  v9 := Tryd.zeroValue9
  t20 := Tryd.underlying20
  a20 := Tryd.isAgg20
  z20 := Tryd.sizeOf20
  v20 := Tryd.zeroValue20
  t37 := Tryd.underlying94
  a37 := Tryd.isAgg94
  z37 := Tryd.sizeOf94
  v37 := Tryd.zeroValue94
  t70 := Tryd.underlying93
  a70 := Tryd.isAgg93
  z70 := Tryd.sizeOf93
  v70 := Tryd.zeroValue93
  t72 := Tryd.underlying96
  a72 := Tryd.isAgg96
  z72 := Tryd.sizeOf96
  v72 := Tryd.zeroValue96
  t75 := Tryd.underlying99
  a75 := Tryd.isAgg99
  z75 := Tryd.sizeOf99
  v75 := Tryd.zeroValue99
  t164 := Tryd.underlying164
  a164 := Tryd.isAgg164
  z164 := Tryd.sizeOf164
  v164 := Tryd.zeroValue164 }
theorem YtfiefglagknclaaDoorExtra : Builder.Extra Tryd.prog YtfiefglagknclaaDoorRen := {
  sizeBuilder := by kernel_rfl
  liesBuilder := by kernel_rfl
  t5 := Tryd.underlying5
  a5 := Tryd.isAgg5
  z5 := Tryd.sizeOf5
  v5 := Tryd.zeroValue5
  infoByte := by kernel_rfl
  cellsByte := by kernel_rfl
  sizeByte := by kernel_rfl
  neB5 := by decide }
namespace YtfiefglagknclaaDoor
open Go.RowKit
theorem writeString_any (B b : Nat) (bs : List Value) (s : ByteArray) (w : World) (h : Lib.IsBuilder 96 5 B b bs w) (hlen : bs.length + s.size ≤ 140737488355328) (hBw : B ≤ w.heap.size) :
    Calls Tryd.prog 57 #[.pointer (some ⟨b, 0, none⟩), .string s] w fun e w' => e = .returned (.tuple #[.int .i64 s.size, .nilIface]) ∧ (Lib.BuilderAt 96 5 B b (.pointer (some ⟨b, 0, none⟩)) (bs ++ Lib.strCells s) w' ∧ Below B w w') := Any.Builder_WriteString YtfiefglagknclaaDoorLaid YtfiefglagknclaaDoorExtra B b bs s w h hlen hBw
end YtfiefglagknclaaDoor
end Go.Proofs

/-
  scrimref03.Of: a whole number of an int; scrimref02.Mul, Add of numbers that calls handed back.
-/
namespace Go.Proofs.YtfiefglagknclaaDoor
open Go.RowKit
set_option maxHeartbeats 2000000
set_option maxRecDepth 100000
set_option linter.unusedVariables false

theorem rMul_res {w : World} {v1 v2 : Value} {l1 l2 : List Nat} (h1 : IsRes w v1 l1) (h2 : IsRes w v2 l2) (o1 : Nt.Ok l1) (o2 : Nt.Ok l2) (s1 : l1.length ≤ 1000000) (s2 : l2.length ≤ 1000000) :
    Calls Tryd.prog 40 #[v1, v2] w fun e w' => ∃ v, e = .returned v ∧ IsRes w' v (Nt.digs (Nt.val l1 * Nt.val l2)) ∧ Below w.heap.size w w' := by
  obtain ⟨A, c, rfl, a1, a2, a3, a4⟩ := h1
  obtain ⟨A', c', rfl, b1, b2, b3, b4⟩ := h2
  exact refMul_any A A' c c' w.heap.size l1 l2 w a4 b4 (Nat.le_refl _) o1 o2 a1 b1 a2 b2 s1 s2
theorem rAdd_res {w : World} {v1 v2 : Value} {l1 l2 : List Nat} (h1 : IsRes w v1 l1) (h2 : IsRes w v2 l2) (o1 : Nt.Ok l1) (o2 : Nt.Ok l2) (s1 : l1.length ≤ 1000000) (s2 : l2.length ≤ 1000000) :
    Calls Tryd.prog 73 #[v1, v2] w fun e w' => ∃ v, e = .returned v ∧ IsRes w' v (Nt.digs (Nt.val l1 + Nt.val l2)) ∧ Below w.heap.size w w' := by
  obtain ⟨A, c, rfl, a1, a2, a3, a4⟩ := h1
  obtain ⟨A', c', rfl, b1, b2, b3, b4⟩ := h2
  exact refAdd_any A A' c c' w.heap.size l1 l2 w a4 b4 (Nat.le_refl _) o1 o2 a1 b1 a2 b2 (by omega) (by omega)
theorem isRes_new (w : World) (l : List Nat) (h : l.length ≤ 1000) : IsRes (w.alloc (.cells (U l).toArray 70)) (.slice (some ⟨w.heap.size, 0, none⟩) l.length l.length) l :=
  ⟨_, _, rfl, Nat.le_refl _, by omega, (fun h => by cases h), by
    have := Lies.new w (U l) 70
    exact this.more (by simp)⟩
theorem ok_two {a b : Nat} (h1 : a < 4294967296) (h2 : b < 4294967296) : Nt.Ok [a, b] := by
  intro d hd
  rcases List.mem_cons.1 hd with rfl | hd
  · exact h1
  · rw [List.mem_singleton] at hd; subst hd; exact h2
theorem val_two (n : Nat) : Nt.val [n % 4294967296, n / 4294967296] = n := by simp [Nt.val]; omega

theorem refOfInt_any (n : Int) (w : World) (h1 : -9223372036854775808 ≤ n) (h2 : n ≤ 9223372036854775807) :
    Calls Tryd.prog 39 #[.int .i64 n] w (Int3Out w (decide (n < 0)) (Nt.digs n.natAbs)) := by
  have HI2 : Hid (∀ (b : Bool) (A : Option Addr) (k c : Nat), (Tryd.prog.info? 55).map (·.size) = some (#[.bool b, .slice A k c] : Array Value).size) := Lib.hid (fun _ _ _ _ => int3_info)
  obtain ⟨w1, hw1⟩ : ∃ w1, w1 = w.alloc (.cells #[.bool false, .slice none 0 0] 55) := ⟨_, rfl⟩
  have hb1 : Below w.heap.size w w1 := by rw [hw1]; exact (Below.refl _ _).alloc (Nat.le_refl _) _
  have HG1 : Hid (w1.heap[w.heap.size]? = some (.cells #[.bool false, .slice none 0 0] 55 (0, 0))) := Lib.hid (by rw [hw1]; exact heap_alloc_new w _)
  have HW1 := Lib.hid hw1
  have HS1 : Hid (w1.heap.size = w.heap.size + 1) := Lib.hid (by rw [hw1]; simp)
  clear hw1
  by_cases hn : 0 ≤ n
  · obtain ⟨m, rfl⟩ : ∃ m : Nat, n = (m : Int) := ⟨n.toNat, by omega⟩
    have hm1 : m % 4294967296 < 4294967296 := by omega
    have hm2 : m / 4294967296 < 4294967296 := by omega
    obtain ⟨w2, hw2⟩ : ∃ w2, w2 = w1.alloc (.cells #[.int .u32 ((m % 4294967296 : Nat) : Int), .int .u32 ((m / 4294967296 : Nat) : Int)] 70) := ⟨_, rfl⟩
    have hr : IsRes w2 (.slice (some ⟨w1.heap.size, 0, none⟩) 2 2) [m % 4294967296, m / 4294967296] := by rw [hw2]; exact isRes_new w1 [m % 4294967296, m / 4294967296] (by simp)
    have NM := norm3_any false _ _ w2 ⟨hr, ok_two hm1 hm2, by show 2 ≤ 64; decide⟩
    rw [val_two] at NM
    have hnn : Rt.nrm false m = false := by unfold Rt.nrm; simp
    rw [hnn, HS1.out] at NM
    have HP : Hid (decide ((m : Int) < 0) = false) := Lib.hid (decide_eq_false (by omega))
    have HM : Hid ((m : Int).natAbs = m) := Lib.hid (by omega)
    have hb2 : Below w.heap.size w w2 := by rw [hw2]; exact hb1.alloc hb1.size _
    have HG2 : Hid (w2.heap[w.heap.size]? = some (.cells #[.bool false, .slice none 0 0] 55 (0, 0))) := Lib.hid (by rw [hw2]; exact (Below.heap_alloc _ _ _ (blk_lt HG1.out)).trans HG1.out)
    have HNM := Lib.hid NM
    have HW2 : Hid (w2 = w1.alloc (.cells #[.int .u32 ((m : Int) % 4294967296), .int .u32 ((m : Int) / 4294967296)] 70)) := Lib.hid (by rw [hw2]; simp)
    have e1 : (m : Int) % 4294967296 < 4294967296 := by omega
    have e2 : (m : Int) / 4294967296 < 4294967296 := by omega
    have e3 : 0 ≤ (m : Int) % 4294967296 := by omega
    have e4 : 0 ≤ (m : Int) / 4294967296 := by omega
    clear hw2 NM hnn hr hm1 hm2
    go_enter Tryd.func39, Tryd.ntmps39
    go_wp2_with fail
    rw [← HW1.out, ← HW2.out]
    (with_reducible refine HNM.out.mono ?_)
    rintro e w3 ⟨v3, rfl, hr3, hb3⟩
    have HG3 := Lib.hid ((hb3.block w.heap.size (blk_lt HG2.out)).trans HG2.out)
    have hbw3 := hb2.trans (hb3.mono hb2.size)
    have HR3 := Lib.hid (hr3.setRow HG3.out (two_no_int _ _ _ _) #[.bool false, v3])
    obtain ⟨⟨A3, c3, rfl, -⟩, -⟩ := hr3
    clear hb3 hb1 hb2 HNM
    go_wp2_with (with_reducible refine wpList_store_row rfl 55 (.tmp 2) (.tmp 14) rfl w.heap.size #[.bool false, .slice A3 (Nt.digs m).length c3] rfl rfl 55 #[.bool false, .slice none 0 0] HG3.out (HI2.out _ _ _ _) rfl (two_one _ _ _ _) ?_)
    refine bodyPost_ret (results_cell_row (by rfl) _ _ w.heap.size 55 #[.bool false, .slice A3 (Nt.digs m).length c3] (0, 0) _ (by rfl) (rheap_same HG3.out) Tryd.underlying55 rfl (HI2.out _ _ _ _)) rfl ⟨_, by rw [HP.out], by rw [HM.out]; exact HR3.out, rBelow.setRow hbw3 (Nat.le_refl _) _⟩
  · obtain ⟨m, hm⟩ : ∃ m : Nat, -1 - n = (m : Int) := ⟨(-1 - n).toNat, by omega⟩
    have hm63 : m ≤ 9223372036854775807 := by omega
    have hm1 : m % 4294967296 < 4294967296 := by omega
    have hm2 : m / 4294967296 < 4294967296 := by omega
    obtain ⟨w2, hw2⟩ : ∃ w2, w2 = (w1.alloc (.cells #[.int .u32 ((m % 4294967296 : Nat) : Int), .int .u32 ((m / 4294967296 : Nat) : Int)] 70)).alloc (.cells #[.int .u32 1] 70) := ⟨_, rfl⟩
    have hr : IsRes w2 (.slice (some ⟨w1.heap.size, 0, none⟩) 2 2) [m % 4294967296, m / 4294967296] := by
      rw [hw2]
      exact (isRes_new w1 [m % 4294967296, m / 4294967296] (by simp)).below ((Below.refl _ _).alloc (Nat.le_refl _) _)
    have hr' : IsRes w2 (.slice (some ⟨w1.heap.size + 1, 0, none⟩) 1 1) [1] := by
      have := isRes_new (w1.alloc (.cells #[.int .u32 ((m % 4294967296 : Nat) : Int), .int .u32 ((m / 4294967296 : Nat) : Int)] 70)) [1] (by decide)
      rw [show (w1.alloc (.cells #[.int .u32 ((m % 4294967296 : Nat) : Int), .int .u32 ((m / 4294967296 : Nat) : Int)] 70)).heap.size = w1.heap.size + 1 by simp] at this
      rw [hw2]; exact this
    have AD := rAdd_res hr hr' (ok_two hm1 hm2) (by intro d hd; rw [List.mem_singleton] at hd; subst hd; decide) (by simp) (by simp)
    rw [val_two, show Nt.val [1] = 1 from rfl, HS1.out] at AD
    have hnn : Rt.nrm true (m + 1) = true := by unfold Rt.nrm; simp
    have HP : Hid (decide (n < 0) = true) := Lib.hid (decide_eq_true (by omega))
    have HM : Hid (n.natAbs = m + 1) := Lib.hid (by omega)
    have hb2 : Below w.heap.size w w2 := by rw [hw2]; exact (hb1.alloc hb1.size _).alloc (by have := hb1.size; simp; omega) _
    have HG2 : Hid (w2.heap[w.heap.size]? = some (.cells #[.bool false, .slice none 0 0] 55 (0, 0))) := Lib.hid (by
      have hlt := blk_lt HG1.out
      rw [hw2]; exact (Below.heap_alloc _ _ _ (by simp; omega)).trans ((Below.heap_alloc _ _ _ hlt).trans HG1.out))
    have HAD := Lib.hid AD
    have HW2 : Hid (w2 = (w1.alloc (.cells #[.int .u32 ((m : Int) % 4294967296), .int .u32 ((m : Int) / 4294967296)] 70)).alloc (.cells #[.int .u32 1] 70)) := Lib.hid (by rw [hw2]; simp)
    have HNN := Lib.hid hnn
    have hdl : (Nt.digs (m + 1)).length ≤ 64 := by
      have := Nt.digs_len_lt (n := m + 1) (k := 2) (by omega)
      omega
    have e0 : IntKind.i64.wrap (-1 - n) = (m : Int) := by rw [hm]; exact IntWalk.i64_in _ (by omega)
    have e1 : (m : Int) % 4294967296 < 4294967296 := by omega
    have e2 : (m : Int) / 4294967296 < 4294967296 := by omega
    have e3 : 0 ≤ (m : Int) % 4294967296 := by omega
    have e4 : 0 ≤ (m : Int) / 4294967296 := by omega
    have hneg : decide (0 ≤ n) = false := decide_eq_false hn
    have e5 : wrap64 (-1 - n) = (m : Int) := IntWalk.wrap64_in _ (by omega) |>.trans hm
    clear hw2 AD hnn hr hr' hm1 hm2 hm63 h2 hn h1 hm
    go_enter Tryd.func39, Tryd.ntmps39
    go_wp2_with fail
    rw [← HW1.out, ← HW2.out]
    (with_reducible refine HAD.out.mono ?_)
    rintro e w3 ⟨v3, rfl, hr3, hb3⟩
    have HG3 := Lib.hid ((hb3.block w.heap.size (blk_lt HG2.out)).trans HG2.out)
    have hbw3 := hb2.trans (hb3.mono hb2.size)
    have NM := norm3_any true v3 _ w3 ⟨hr3, Nt.ok_digs _, hdl⟩
    rw [Nt.val_digs, HNN.out] at NM
    have HNM := Lib.hid NM
    obtain ⟨A3, c3, rfl, -⟩ := hr3
    clear hb3 hb1 hb2 HAD NM
    go_wp2_with fail
    (with_reducible refine HNM.out.mono ?_)
    rintro e w4 ⟨v4, rfl, hr4, hb4⟩
    have HG4 := Lib.hid ((hb4.block w.heap.size (blk_lt HG3.out)).trans HG3.out)
    have hbw4 := hbw3.trans (hb4.mono hbw3.size)
    have HR4 := Lib.hid (hr4.setRow HG4.out (two_no_int _ _ _ _) #[.bool true, v4])
    obtain ⟨⟨A4, c4, rfl, -⟩, -⟩ := hr4
    clear hb4 HNM
    go_wp2_with (with_reducible refine wpList_store_row rfl 55 (.tmp 2) (.tmp 27) rfl w.heap.size #[.bool true, .slice A4 (Nt.digs (m + 1)).length c4] rfl rfl 55 #[.bool false, .slice none 0 0] HG4.out (HI2.out _ _ _ _) rfl (two_one _ _ _ _) ?_)
    refine bodyPost_ret (results_cell_row (by rfl) _ _ w.heap.size 55 #[.bool true, .slice A4 (Nt.digs (m + 1)).length c4] (0, 0) _ (by rfl) (rheap_same HG4.out) Tryd.underlying55 rfl (HI2.out _ _ _ _)) rfl ⟨_, by rw [HP.out], by rw [HM.out]; exact HR4.out, rBelow.setRow hbw4 (Nat.le_refl _) _⟩
end Go.Proofs.YtfiefglagknclaaDoor

/-
  Arrays as trees, plain: no program in sight. Joins of labels, equality with labels and without, erasing.
-/
namespace Ar
mutual
inductive Arr where
  | mk (S : Nat) (shape : List Int) (cells : List Cel)
inductive Cel where
  | mk (L : Nat) (kind : Int) (neg : Bool) (top bot : List Nat) (c : Int) (ins : List Arr)
end

/-! ### The join of all labels, onto what was joined before -/
mutual
def tot : Arr → Nat
  | .mk S _ cells => totCels S cells
def totCels : Nat → List Cel → Nat
  | x, [] => x
  | x, c :: r => totCels (totCel x c) r
def totCel : Nat → Cel → Nat
  | x, .mk L _ _ _ _ _ ins => totArrs (x ||| L) ins
def totArrs : Nat → List Arr → Nat
  | x, [] => x
  | x, a :: r => totArrs (x ||| tot a) r
end

/-! ### The same, with labels or without -/
mutual
def same (lab : Bool) : Arr → Arr → Bool
  | .mk S sh cs, .mk S' sh' cs' => (!lab || S == S') && (sh == sh') && sameCels lab cs cs'
def sameCels (lab : Bool) : List Cel → List Cel → Bool
  | [], [] => true
  | c :: r, c' :: r' => sameCel lab c c' && sameCels lab r r'
  | _, _ => false
def sameCel (lab : Bool) : Cel → Cel → Bool
  | .mk L k n t b c ins, .mk L' k' n' t' b' c' ins' => (!lab || L == L') && (k == k') && (c == c') && (n == n' && t == t' && b == b') && sameArrs lab ins ins'
def sameArrs (lab : Bool) : List Arr → List Arr → Bool
  | [], [] => true
  | a :: r, a' :: r' => same lab a a' && sameArrs lab r r'
  | _, _ => false
end

/-! ### Without labels -/
mutual
def erase : Arr → Arr
  | .mk _ sh cs => .mk 0 sh (eraseCels cs)
def eraseCels : List Cel → List Cel
  | [] => []
  | c :: r => eraseCel c :: eraseCels r
def eraseCel : Cel → Cel
  | .mk _ k n t b c ins => .mk 0 k n t b c (eraseArrs ins)
def eraseArrs : List Arr → List Arr
  | [] => []
  | a :: r => erase a :: eraseArrs r
end

mutual
theorem same_erase : ∀ a b : Arr, same true (erase a) (erase b) = same false a b
  | .mk _ _ cs, .mk _ _ cs' => by simp [erase, same, same_eraseCels cs cs']
theorem same_eraseCels : ∀ a b : List Cel, sameCels true (eraseCels a) (eraseCels b) = sameCels false a b
  | [], [] => by simp [sameCels, eraseCels]
  | [], _ :: _ => by simp [sameCels, eraseCels]
  | _ :: _, [] => by simp [sameCels, eraseCels]
  | c :: r, c' :: r' => by simp [eraseCels, sameCels, same_eraseCel c c', same_eraseCels r r']
theorem same_eraseCel : ∀ a b : Cel, sameCel true (eraseCel a) (eraseCel b) = sameCel false a b
  | .mk _ _ _ _ _ _ ins, .mk _ _ _ _ _ _ ins' => by simp [eraseCel, sameCel, same_eraseArrs ins ins']
theorem same_eraseArrs : ∀ a b : List Arr, sameArrs true (eraseArrs a) (eraseArrs b) = sameArrs false a b
  | [], [] => by simp [sameArrs, eraseArrs]
  | [], _ :: _ => by simp [sameArrs, eraseArrs]
  | _ :: _, [] => by simp [sameArrs, eraseArrs]
  | a :: r, a' :: r' => by simp [eraseArrs, sameArrs, same_erase a a', same_eraseArrs r r']
end

mutual
theorem same_refl (lab : Bool) : ∀ a : Arr, same lab a a = true
  | .mk _ _ cs => by simp [same, sameCels_refl lab cs]
theorem sameCels_refl (lab : Bool) : ∀ a : List Cel, sameCels lab a a = true
  | [] => by simp [sameCels]
  | c :: r => by simp [sameCels, sameCel_refl lab c, sameCels_refl lab r]
theorem sameCel_refl (lab : Bool) : ∀ a : Cel, sameCel lab a a = true
  | .mk _ _ _ _ _ _ ins => by simp [sameCel, sameArrs_refl lab ins]
theorem sameArrs_refl (lab : Bool) : ∀ a : List Arr, sameArrs lab a a = true
  | [] => by simp [sameArrs]
  | a :: r => by simp [sameArrs, same_refl lab a, sameArrs_refl lab r]
end

mutual
theorem same_symm (lab : Bool) : ∀ a b : Arr, same lab a b = true → same lab b a = true
  | .mk _ _ cs, .mk _ _ cs', h => by
    simp only [same, Bool.and_eq_true, Bool.or_eq_true, Bool.not_eq_true', beq_iff_eq] at h ⊢
    exact ⟨⟨h.1.1.imp id Eq.symm, h.1.2.symm⟩, sameCels_symm lab cs cs' h.2⟩
theorem sameCels_symm (lab : Bool) : ∀ a b : List Cel, sameCels lab a b = true → sameCels lab b a = true
  | [], [], _ => by simp [sameCels]
  | [], _ :: _, h => by simp [sameCels] at h
  | _ :: _, [], h => by simp [sameCels] at h
  | c :: r, c' :: r', h => by
    simp only [sameCels, Bool.and_eq_true] at h ⊢
    exact ⟨sameCel_symm lab c c' h.1, sameCels_symm lab r r' h.2⟩
theorem sameCel_symm (lab : Bool) : ∀ a b : Cel, sameCel lab a b = true → sameCel lab b a = true
  | .mk _ _ _ _ _ _ ins, .mk _ _ _ _ _ _ ins', h => by
    simp only [sameCel, Bool.and_eq_true, Bool.or_eq_true, Bool.not_eq_true', beq_iff_eq] at h ⊢
    exact ⟨⟨⟨⟨h.1.1.1.1.imp id Eq.symm, h.1.1.1.2.symm⟩, h.1.1.2.symm⟩, ⟨h.1.2.1.1.symm, h.1.2.1.2.symm⟩, h.1.2.2.symm⟩, sameArrs_symm lab ins ins' h.2⟩
theorem sameArrs_symm (lab : Bool) : ∀ a b : List Arr, sameArrs lab a b = true → sameArrs lab b a = true
  | [], [], _ => by simp [sameArrs]
  | [], _ :: _, h => by simp [sameArrs] at h
  | _ :: _, [], h => by simp [sameArrs] at h
  | a :: r, a' :: r', h => by
    simp only [sameArrs, Bool.and_eq_true] at h ⊢
    exact ⟨same_symm lab a a' h.1, sameArrs_symm lab r r' h.2⟩
end

mutual
theorem same_trans (lab : Bool) : ∀ a b c : Arr, same lab a b = true → same lab b c = true → same lab a c = true
  | .mk _ _ cs, .mk _ _ cs', .mk _ _ cs'', h, h' => by
    simp only [same, Bool.and_eq_true, Bool.or_eq_true, Bool.not_eq_true', beq_iff_eq] at h h' ⊢
    refine ⟨⟨?_, h.1.2.trans h'.1.2⟩, sameCels_trans lab cs cs' cs'' h.2 h'.2⟩
    rcases h.1.1 with e | e
    · exact .inl e
    · rcases h'.1.1 with e' | e'
      · exact .inl e'
      · exact .inr (e.trans e')
theorem sameCels_trans (lab : Bool) : ∀ a b c : List Cel, sameCels lab a b = true → sameCels lab b c = true → sameCels lab a c = true
  | [], [], [], _, _ => by simp [sameCels]
  | [], _ :: _, _, h, _ => by simp [sameCels] at h
  | _ :: _, [], _, h, _ => by simp [sameCels] at h
  | [], [], _ :: _, _, h => by simp [sameCels] at h
  | _ :: _, _ :: _, [], _, h => by simp [sameCels] at h
  | c :: r, c' :: r', c'' :: r'', h, h' => by
    simp only [sameCels, Bool.and_eq_true] at h h' ⊢
    exact ⟨sameCel_trans lab c c' c'' h.1 h'.1, sameCels_trans lab r r' r'' h.2 h'.2⟩
theorem sameCel_trans (lab : Bool) : ∀ a b c : Cel, sameCel lab a b = true → sameCel lab b c = true → sameCel lab a c = true
  | .mk _ _ _ _ _ _ ins, .mk _ _ _ _ _ _ ins', .mk _ _ _ _ _ _ ins'', h, h' => by
    simp only [sameCel, Bool.and_eq_true, Bool.or_eq_true, Bool.not_eq_true', beq_iff_eq] at h h' ⊢
    refine ⟨⟨⟨⟨?_, h.1.1.1.2.trans h'.1.1.1.2⟩, h.1.1.2.trans h'.1.1.2⟩, ⟨h.1.2.1.1.trans h'.1.2.1.1, h.1.2.1.2.trans h'.1.2.1.2⟩, h.1.2.2.trans h'.1.2.2⟩, sameArrs_trans lab ins ins' ins'' h.2 h'.2⟩
    rcases h.1.1.1.1 with e | e
    · exact .inl e
    · rcases h'.1.1.1.1 with e' | e'
      · exact .inl e'
      · exact .inr (e.trans e')
theorem sameArrs_trans (lab : Bool) : ∀ a b c : List Arr, sameArrs lab a b = true → sameArrs lab b c = true → sameArrs lab a c = true
  | [], [], [], _, _ => by simp [sameArrs]
  | [], _ :: _, _, h, _ => by simp [sameArrs] at h
  | _ :: _, [], _, h, _ => by simp [sameArrs] at h
  | [], [], _ :: _, _, h => by simp [sameArrs] at h
  | _ :: _, _ :: _, [], _, h => by simp [sameArrs] at h
  | a :: r, a' :: r', a'' :: r'', h, h' => by
    simp only [sameArrs, Bool.and_eq_true] at h h' ⊢
    exact ⟨same_trans lab a a' a'' h.1 h'.1, sameArrs_trans lab r r' r'' h.2 h'.2⟩
end

theorem sameCels_len (lab : Bool) : ∀ {a b : List Cel}, sameCels lab a b = true → a.length = b.length
  | [], [], _ => rfl
  | [], _ :: _, h => by simp [sameCels] at h
  | _ :: _, [], h => by simp [sameCels] at h
  | c :: r, c' :: r', h => by
    simp only [sameCels, Bool.and_eq_true] at h
    simp [sameCels_len lab h.2]
theorem sameArrs_len (lab : Bool) : ∀ {a b : List Arr}, sameArrs lab a b = true → a.length = b.length
  | [], [], _ => rfl
  | [], _ :: _, h => by simp [sameArrs] at h
  | _ :: _, [], h => by simp [sameArrs] at h
  | c :: r, c' :: r', h => by
    simp only [sameArrs, Bool.and_eq_true] at h
    simp [sameArrs_len lab h.2]
theorem eraseCels_len : ∀ a : List Cel, (eraseCels a).length = a.length
  | [] => by simp [eraseCels]
  | _ :: r => by simp [eraseCels, eraseCels_len r]
theorem eraseArrs_len : ∀ a : List Arr, (eraseArrs a).length = a.length
  | [] => by simp [eraseArrs]
  | _ :: r => by simp [eraseArrs, eraseArrs_len r]
theorem totCels_drop {cs : List Cel} {k : Nat} (h : k < cs.length) (x : Nat) : totCels x (cs.drop k) = totCels (totCel x cs[k]) (cs.drop (k + 1)) := by
  rw [List.drop_eq_getElem_cons h, totCels]
theorem totArrs_drop {cs : List Arr} {k : Nat} (h : k < cs.length) (x : Nat) : totArrs x (cs.drop k) = totArrs (x ||| tot cs[k]) (cs.drop (k + 1)) := by
  rw [List.drop_eq_getElem_cons h, totArrs]
theorem sameCels_drop (lab : Bool) {cs cs' : List Cel} {k : Nat} (h : k < cs.length) (h' : k < cs'.length) : sameCels lab (cs.drop k) (cs'.drop k) = (sameCel lab cs[k] cs'[k] && sameCels lab (cs.drop (k + 1)) (cs'.drop (k + 1))) := by
  rw [List.drop_eq_getElem_cons h, List.drop_eq_getElem_cons h', sameCels]
theorem sameArrs_drop (lab : Bool) {cs cs' : List Arr} {k : Nat} (h : k < cs.length) (h' : k < cs'.length) : sameArrs lab (cs.drop k) (cs'.drop k) = (same lab cs[k] cs'[k] && sameArrs lab (cs.drop (k + 1)) (cs'.drop (k + 1))) := by
  rw [List.drop_eq_getElem_cons h, List.drop_eq_getElem_cons h', sameArrs]
theorem eraseCels_take {cs : List Cel} {k : Nat} (h : k < cs.length) : eraseCels (cs.take (k + 1)) = eraseCels (cs.take k) ++ [eraseCel cs[k]] := by
  rw [List.take_succ_eq_append_getElem h]
  generalize cs.take k = l
  induction l with
  | nil => rfl
  | cons a r ih => simp [eraseCels, ih]
theorem eraseArrs_take {cs : List Arr} {k : Nat} (h : k < cs.length) : eraseArrs (cs.take (k + 1)) = eraseArrs (cs.take k) ++ [erase cs[k]] := by
  rw [List.take_succ_eq_append_getElem h]
  generalize cs.take k = l
  induction l with
  | nil => rfl
  | cons a r ih => simp [eraseArrs, ih]
end Ar

/-
  Arrays in memory: what it is that cells hold a tree ('IsArr'), kept from world to world.
-/
namespace Go.Proofs.YtfiefglagknclaaDoor
open Go.RowKit Ar
set_option linter.unusedVariables false

/-- A slice value that holds n elements of so many bytes each. -/
def Fits (n c bytes : Nat) : Prop := n ≤ c ∧ n * bytes ≤ 140737488351232 ∧ c ≤ 9223372036854775807
theorem Fits.le {n c bytes : Nat} (h : Fits n c bytes) (hb : 1 ≤ bytes) : n ≤ c ∧ n ≤ 140737488351232 := by
  refine ⟨h.1, ?_⟩
  have h1 := Nat.mul_le_mul_left n hb
  have h2 := h.2.1
  omega
def Wf64 (l : List Int) : Prop := ∀ n ∈ l, -9223372036854775808 ≤ n ∧ n ≤ 9223372036854775807
def Wf32 (l : List Nat) : Prop := ∀ n ∈ l, n < 4294967296
def I64 (l : List Int) : List Value := l.map (Value.int .i64)
def U32 (l : List Nat) : List Value := l.map fun n : Nat => Value.int .u32 (n : Int)

mutual
/-- Three cells hold an array. -/
def IsArr (w : World) (B : Nat) : Arr → List Value → Prop
  | .mk S shape cells, vs => ∃ A c A' c' us, vs = [.int .u64 (S : Int), .slice A shape.length c, .slice A' cells.length c'] ∧ S < 18446744073709551616 ∧ Fits shape.length c 8 ∧ Fits cells.length c' 104 ∧ Wf64 shape ∧
      Lies w B A (I64 shape) ∧ Lies w B A' us ∧ IsCels w B cells us
def IsCels (w : World) (B : Nat) : List Cel → List Value → Prop
  | [], vs => vs = []
  | c :: r, vs => ∃ u t, vs = u ++ t ∧ IsCel w B c u ∧ IsCels w B r t
/-- Seven cells hold a cell. -/
def IsCel (w : World) (B : Nat) : Cel → List Value → Prop
  | .mk L kind neg top bot ch ins, vs => ∃ A c A' c' A'' c'' us, vs = [.int .u64 (L : Int), .int .i64 kind, .bool neg, .slice A top.length c, .slice A' bot.length c', .int .i64 ch, .slice A'' ins.length c''] ∧
      L < 18446744073709551616 ∧ Fits top.length c 4 ∧ Fits bot.length c' 4 ∧ Fits ins.length c'' 56 ∧ Wf64 [kind, ch] ∧ Wf32 top ∧ Wf32 bot ∧ Lies w B A (U32 top) ∧ Lies w B A' (U32 bot) ∧ Lies w B A'' us ∧ IsArrs w B ins us ∧ (A = none → c = 0) ∧ (A' = none → c' = 0)
def IsArrs (w : World) (B : Nat) : List Arr → List Value → Prop
  | [], vs => vs = []
  | a :: r, vs => ∃ u t, vs = u ++ t ∧ IsArr w B a u ∧ IsArrs w B r t
end

theorem IsArr.len {w : World} {B : Nat} {a : Arr} {vs : List Value} (h : IsArr w B a vs) : vs.length = 3 := by
  cases a; rw [IsArr] at h
  obtain ⟨A, c, A', c', us, rfl, _⟩ := h
  rfl
theorem IsCel.len {w : World} {B : Nat} {a : Cel} {vs : List Value} (h : IsCel w B a vs) : vs.length = 7 := by
  cases a; rw [IsCel] at h
  obtain ⟨A, c, A', c', A2, c2, us, rfl, _⟩ := h
  rfl

mutual
theorem IsArr.keep {w w' : World} {B B' : Nat} (hk : ∀ p : Addr, p.block < B → w'.cell? p = w.cell? p) (hB : B ≤ B') : ∀ (a : Arr) (vs : List Value), IsArr w B a vs → IsArr w' B' a vs
  | .mk S shape cells, vs, h => by
    rw [IsArr] at h ⊢
    obtain ⟨A, c, A', c', us, h1, h2, h3, h4, h5, h6, h7, h8⟩ := h
    exact ⟨A, c, A', c', us, h1, h2, h3, h4, h5, (h6.keep hk).more hB, (h7.keep hk).more hB, IsCels.keep hk hB cells us h8⟩
theorem IsCels.keep {w w' : World} {B B' : Nat} (hk : ∀ p : Addr, p.block < B → w'.cell? p = w.cell? p) (hB : B ≤ B') : ∀ (a : List Cel) (vs : List Value), IsCels w B a vs → IsCels w' B' a vs
  | [], vs, h => by rw [IsCels] at h ⊢; exact h
  | c :: r, vs, h => by
    rw [IsCels] at h ⊢
    obtain ⟨u, t, h1, h2, h3⟩ := h
    exact ⟨u, t, h1, IsCel.keep hk hB c u h2, IsCels.keep hk hB r t h3⟩
theorem IsCel.keep {w w' : World} {B B' : Nat} (hk : ∀ p : Addr, p.block < B → w'.cell? p = w.cell? p) (hB : B ≤ B') : ∀ (a : Cel) (vs : List Value), IsCel w B a vs → IsCel w' B' a vs
  | .mk L kind neg top bot ch ins, vs, h => by
    rw [IsCel] at h ⊢
    obtain ⟨A, c, A', c', A2, c2, us, h1, h2, h3, h4, h5, h6, h7, h8, h9, h10, h11, h12⟩ := h
    exact ⟨A, c, A', c', A2, c2, us, h1, h2, h3, h4, h5, h6, h7, h8, (h9.keep hk).more hB, (h10.keep hk).more hB, (h11.keep hk).more hB, IsArrs.keep hk hB ins us h12.1, h12.2⟩
theorem IsArrs.keep {w w' : World} {B B' : Nat} (hk : ∀ p : Addr, p.block < B → w'.cell? p = w.cell? p) (hB : B ≤ B') : ∀ (a : List Arr) (vs : List Value), IsArrs w B a vs → IsArrs w' B' a vs
  | [], vs, h => by rw [IsArrs] at h ⊢; exact h
  | c :: r, vs, h => by
    rw [IsArrs] at h ⊢
    obtain ⟨u, t, h1, h2, h3⟩ := h
    exact ⟨u, t, h1, IsArr.keep hk hB c u h2, IsArrs.keep hk hB r t h3⟩
end
theorem IsArr.below {w w' : World} {B : Nat} {a : Arr} {vs : List Value} (h : IsArr w B a vs) (hb : Below B w w') : IsArr w' B a vs := IsArr.keep (fun _ hp => hb.cell hp) (Nat.le_refl _) a vs h
theorem IsArr.more {w : World} {B B' : Nat} {a : Arr} {vs : List Value} (h : IsArr w B a vs) (hB : B ≤ B') : IsArr w B' a vs := IsArr.keep (fun _ _ => rfl) hB a vs h
theorem IsCel.below {w w' : World} {B : Nat} {a : Cel} {vs : List Value} (h : IsCel w B a vs) (hb : Below B w w') : IsCel w' B a vs := IsCel.keep (fun _ hp => hb.cell hp) (Nat.le_refl _) a vs h
theorem IsArrs.below {w w' : World} {B : Nat} {a : List Arr} {vs : List Value} (h : IsArrs w B a vs) (hb : Below B w w') : IsArrs w' B a vs := IsArrs.keep (fun _ hp => hb.cell hp) (Nat.le_refl _) a vs h
theorem IsCels.below {w w' : World} {B : Nat} {a : List Cel} {vs : List Value} (h : IsCels w B a vs) (hb : Below B w w') : IsCels w' B a vs := IsCels.keep (fun _ hp => hb.cell hp) (Nat.le_refl _) a vs h

theorem IsCels.at_ {w : World} {B : Nat} : ∀ {cs : List Cel} {vs : List Value} (h : IsCels w B cs vs) {k : Nat} (hk : k < cs.length), ∃ u, IsCel w B cs[k] u ∧ u = (vs.drop (7 * k)).take 7
  | [], _, _, _, hk => by simp at hk
  | c :: r, vs, h, 0, _ => by
    rw [IsCels] at h
    obtain ⟨u, t, rfl, h2, h3⟩ := h
    exact ⟨u, h2, by simp [h2.len]⟩
  | c :: r, vs, h, k + 1, hk => by
    rw [IsCels] at h
    obtain ⟨u, t, rfl, h2, h3⟩ := h
    obtain ⟨u', h4, h5⟩ := h3.at_ (k := k) (by simpa using hk)
    refine ⟨u', h4, h5.trans ?_⟩
    rw [show 7 * (k + 1) = u.length + 7 * k by rw [h2.len]; omega, List.drop_append, List.drop_eq_nil_of_le (Nat.le_add_right _ _), Nat.add_sub_cancel_left, List.nil_append]
theorem IsArrs.at_ {w : World} {B : Nat} : ∀ {cs : List Arr} {vs : List Value} (h : IsArrs w B cs vs) {k : Nat} (hk : k < cs.length), ∃ u, IsArr w B cs[k] u ∧ u = (vs.drop (3 * k)).take 3
  | [], _, _, _, hk => by simp at hk
  | c :: r, vs, h, 0, _ => by
    rw [IsArrs] at h
    obtain ⟨u, t, rfl, h2, h3⟩ := h
    exact ⟨u, h2, by simp [h2.len]⟩
  | c :: r, vs, h, k + 1, hk => by
    rw [IsArrs] at h
    obtain ⟨u, t, rfl, h2, h3⟩ := h
    obtain ⟨u', h4, h5⟩ := h3.at_ (k := k) (by simpa using hk)
    refine ⟨u', h4, h5.trans ?_⟩
    rw [show 3 * (k + 1) = u.length + 3 * k by rw [h2.len]; omega, List.drop_append, List.drop_eq_nil_of_le (Nat.le_add_right _ _), Nat.add_sub_cancel_left, List.nil_append]
theorem IsCels.len {w : World} {B : Nat} : ∀ {cs : List Cel} {vs : List Value} (h : IsCels w B cs vs), vs.length = 7 * cs.length
  | [], _, h => by rw [IsCels] at h; subst h; rfl
  | c :: r, vs, h => by
    rw [IsCels] at h
    obtain ⟨u, t, rfl, h2, h3⟩ := h
    rw [List.length_append, h2.len, h3.len, List.length_cons]; omega
theorem IsArrs.len {w : World} {B : Nat} : ∀ {cs : List Arr} {vs : List Value} (h : IsArrs w B cs vs), vs.length = 3 * cs.length
  | [], _, h => by rw [IsArrs] at h; subst h; rfl
  | c :: r, vs, h => by
    rw [IsArrs] at h
    obtain ⟨u, t, rfl, h2, h3⟩ := h
    rw [List.length_append, h2.len, h3.len, List.length_cons]; omega
theorem IsCels.snoc {w : World} {B : Nat} : ∀ {cs : List Cel} {vs : List Value} (h : IsCels w B cs vs) {c : Cel} {u : List Value} (hc : IsCel w B c u), IsCels w B (cs ++ [c]) (vs ++ u)
  | [], vs, h, c, u, hc => by
    rw [IsCels] at h; subst h
    show IsCels w B [c] _
    rw [IsCels]; exact ⟨u, [], by simp, hc, by rw [IsCels]⟩
  | x :: r, vs, h, c, u, hc => by
    rw [IsCels] at h
    obtain ⟨u', t, rfl, h2, h3⟩ := h
    show IsCels w B (x :: (r ++ [c])) _
    rw [IsCels]; exact ⟨u', t ++ u, by simp, h2, h3.snoc hc⟩
theorem IsArrs.snoc {w : World} {B : Nat} : ∀ {cs : List Arr} {vs : List Value} (h : IsArrs w B cs vs) {c : Arr} {u : List Value} (hc : IsArr w B c u), IsArrs w B (cs ++ [c]) (vs ++ u)
  | [], vs, h, c, u, hc => by
    rw [IsArrs] at h; subst h
    show IsArrs w B [c] _
    rw [IsArrs]; exact ⟨u, [], by simp, hc, by rw [IsArrs]⟩
  | x :: r, vs, h, c, u, hc => by
    rw [IsArrs] at h
    obtain ⟨u', t, rfl, h2, h3⟩ := h
    show IsArrs w B (x :: (r ++ [c])) _
    rw [IsArrs]; exact ⟨u', t ++ u, by simp, h2, h3.snoc hc⟩

/-- The cells of the k-th element of a row of elements of so many cells each. -/
theorem Lies.elem {w : World} {B : Nat} {A : Option Addr} {vs : List Value} (h : Lies w B A vs) {m k : Nat} {u : List Value} (hu : u = (vs.drop (m * k)).take m) (hn : u ≠ []) :
    ∃ b off, A = some ⟨b, off, none⟩ ∧ b < B ∧ ∀ j v, u[j]? = some v → w.cell? ⟨b, off + k * m + j, none⟩ = some v := by
  rcases h with h | ⟨b, off, hA, hb, hc⟩
  · subst h; simp at hu; exact absurd hu hn
  · refine ⟨b, off, hA, hb, fun j v hv => ?_⟩
    have := hc (k * m + j) v (by
      rw [hu, List.getElem?_take] at hv
      split at hv
      · rw [List.getElem?_drop] at hv; rw [← hv, Nat.mul_comm]
      · cases hv)
    rw [← this, Nat.add_assoc]

/-- What stands behind the slices of a cell. -/
structure CelIn (w : World) (B : Nat) (ce : Cel) (L : Nat) (kind : Int) (neg : Bool) (top bot : List Nat) (ch : Int) (ins : List Arr) (A1 A2 A3 : Option Addr) (c1 c2 c3 : Nat) (us : List Value) : Prop where
  eq : ce = .mk L kind neg top bot ch ins
  lt : Lies w B A1 (U32 top)
  lb : Lies w B A2 (U32 bot)
  li : Lies w B A3 us
  arrs : IsArrs w B ins us
  wt : Wf32 top
  wb : Wf32 bot
  wk : Wf64 [kind, ch]
  ft : Fits top.length c1 4
  fb : Fits bot.length c2 4
  fi : Fits ins.length c3 56
  nt : A1 = none → c1 = 0
  nb : A2 = none → c2 = 0
/-- The k-th cell of an array, read. -/
theorem cel_at {w wr : World} {B : Nat} {A : Option Addr} {cells : List Cel} {us : List Value} {k : Nat} (hcs : IsCels w B cells us) (hl : Lies w B A us) (hk : ∀ p : Addr, p.block < B → wr.cell? p = w.cell? p) (hlt : k < cells.length) :
    ∃ b off L kind neg top bot ch ins A1 c1 A2 c2 A3 c3 us3, A = some ⟨b, off, none⟩ ∧ b < B ∧ L < 18446744073709551616 ∧ Hid (CelIn w B cells[k] L kind neg top bot ch ins A1 A2 A3 c1 c2 c3 us3) ∧
      top.length ≤ c1 ∧ top.length ≤ 35184372088832 ∧ bot.length ≤ c2 ∧ bot.length ≤ 35184372088832 ∧ ins.length ≤ c3 ∧ ins.length ≤ 35184372088832 ∧
      wr.cell? ⟨b, off + k * 7, none⟩ = some (.int .u64 (L : Int)) ∧ wr.cell? ⟨b, off + k * 7 + 1, none⟩ = some (.int .i64 kind) ∧ wr.cell? ⟨b, off + k * 7 + 2, none⟩ = some (.bool neg) ∧
      wr.cell? ⟨b, off + k * 7 + 3, none⟩ = some (.slice A1 top.length c1) ∧ wr.cell? ⟨b, off + k * 7 + 4, none⟩ = some (.slice A2 bot.length c2) ∧ wr.cell? ⟨b, off + k * 7 + 5, none⟩ = some (.int .i64 ch) ∧
      wr.cell? ⟨b, off + k * 7 + 6, none⟩ = some (.slice A3 ins.length c3) := by
  obtain ⟨u, hu, hue⟩ := hcs.at_ hlt
  obtain ⟨b, off, rfl, hb, hcell⟩ := hl.elem hue (by intro h; have := hu.len; rw [h] at this; cases this)
  obtain ⟨ce, hce⟩ : ∃ ce, ce = cells[k] := ⟨_, rfl⟩
  rw [← hce] at hu ⊢
  obtain ⟨L, kind, neg, top, bot, ch, ins⟩ := ce
  rw [IsCel] at hu
  obtain ⟨A1, c1, A2, c2, A3, c3, us3, rfl, hL, hf1, hf2, hf3, hw1, hw2, hw3, hl1, hl2, hl3, hins, hnt, hnb⟩ := hu
  have hc : ∀ j v, [Value.int .u64 (L : Int), .int .i64 kind, .bool neg, .slice A1 top.length c1, .slice A2 bot.length c2, .int .i64 ch, .slice A3 ins.length c3][j]? = some v → wr.cell? ⟨b, off + k * 7 + j, none⟩ = some v := fun j v hv => (hk ⟨b, off + k * 7 + j, none⟩ hb).trans (hcell j v hv)
  have h1 := hf1.2
  have h2 := hf2.2
  have h3 := hf3.2
  exact ⟨b, off, L, kind, neg, top, bot, ch, ins, A1, c1, A2, c2, A3, c3, us3, rfl, hb, hL, Lib.hid ⟨rfl, hl1, hl2, hl3, hins, hw2, hw3, hw1, hf1, hf2, hf3, hnt, hnb⟩, hf1.1, by omega, hf2.1, by omega, hf3.1, by omega, hc 0 _ rfl, hc 1 _ rfl, hc 2 _ rfl, hc 3 _ rfl, hc 4 _ rfl, hc 5 _ rfl, hc 6 _ rfl⟩
/-- The form of an array's three cells. -/
theorem IsArr.form {w : World} {B : Nat} {a : Arr} {vs : List Value} (h : IsArr w B a vs) : ∃ (S : Nat) (A : Option Addr) (n c : Nat) (A' : Option Addr) (n' c' : Nat), vs = [.int .u64 (S : Int), .slice A n c, .slice A' n' c'] := by
  cases a; rw [IsArr] at h
  obtain ⟨A, c, A', c', us, rfl, _⟩ := h
  exact ⟨_, _, _, _, _, _, _, rfl⟩
/-- The k-th array of a list of arrays, read. -/
theorem arr_at {w wr : World} {B : Nat} {A : Option Addr} {arrs : List Arr} {us : List Value} {k : Nat} (hcs : IsArrs w B arrs us) (hl : Lies w B A us) (hk : ∀ p : Addr, p.block < B → wr.cell? p = w.cell? p) (hlt : k < arrs.length) :
    ∃ (b off S' : Nat) (X : Option Addr) (n c : Nat) (X' : Option Addr) (n' c' : Nat), A = some ⟨b, off, none⟩ ∧ b < B ∧ Hid (IsArr w B arrs[k] [.int .u64 (S' : Int), .slice X n c, .slice X' n' c']) ∧ wr.cell? ⟨b, off + k * 3, none⟩ = some (.int .u64 (S' : Int)) ∧ wr.cell? ⟨b, off + k * 3 + 1, none⟩ = some (.slice X n c) ∧ wr.cell? ⟨b, off + k * 3 + 2, none⟩ = some (.slice X' n' c') := by
  obtain ⟨u, hu, hue⟩ := hcs.at_ hlt
  obtain ⟨b, off, rfl, hb, hcell⟩ := hl.elem hue (by intro h; have := hu.len; rw [h] at this; cases this)
  obtain ⟨S, X, n, c, X', n', c', rfl⟩ := hu.form
  have hc : ∀ j v, [Value.int .u64 (S : Int), .slice X n c, .slice X' n' c'][j]? = some v → wr.cell? ⟨b, off + k * 3 + j, none⟩ = some v := fun j v hv => (hk ⟨b, off + k * 3 + j, none⟩ hb).trans (hcell j v hv)
  exact ⟨b, off, S, X, n, c, X', n', c', rfl, hb, Lib.hid hu, hc 0 _ rfl, hc 1 _ rfl, hc 2 _ rfl⟩
mutual
theorem tot_lt {w : World} {B : Nat} : ∀ (a : Arr) (vs : List Value), IsArr w B a vs → tot a < 18446744073709551616
  | .mk S shape cells, vs, h => by
    rw [IsArr] at h
    obtain ⟨A, c, A', c', us, h1, h2, h3, h4, h5, h6, h7, h8⟩ := h
    exact totCels_lt cells us S h8 h2
theorem totCels_lt {w : World} {B : Nat} : ∀ (a : List Cel) (vs : List Value) (x : Nat), IsCels w B a vs → x < 18446744073709551616 → totCels x a < 18446744073709551616
  | [], vs, x, h, hx => by rw [totCels]; exact hx
  | c :: r, vs, x, h, hx => by
    rw [IsCels] at h
    obtain ⟨u, t, h1, h2, h3⟩ := h
    rw [totCels]
    exact totCels_lt r t _ h3 (totCel_lt c u x h2 hx)
theorem totCel_lt {w : World} {B : Nat} : ∀ (a : Cel) (vs : List Value) (x : Nat), IsCel w B a vs → x < 18446744073709551616 → totCel x a < 18446744073709551616
  | .mk L kind neg top bot ch ins, vs, x, h, hx => by
    rw [IsCel] at h
    obtain ⟨A, c, A', c', A2, c2, us, h1, h2, h3, h4, h5, h6, h7, h8, h9, h10, h11, h12⟩ := h
    rw [totCel]
    exact totArrs_lt ins us _ h12.1 (Nat.or_lt_two_pow (n := 64) hx h2)
theorem totArrs_lt {w : World} {B : Nat} : ∀ (a : List Arr) (vs : List Value) (x : Nat), IsArrs w B a vs → x < 18446744073709551616 → totArrs x a < 18446744073709551616
  | [], vs, x, h, hx => by rw [totArrs]; exact hx
  | c :: r, vs, x, h, hx => by
    rw [IsArrs] at h
    obtain ⟨u, t, h1, h2, h3⟩ := h
    rw [totArrs]
    exact totArrs_lt r t _ h3 (Nat.or_lt_two_pow (n := 64) hx (tot_lt c u h2))
end
theorem size_ins {S : Nat} {shape : List Int} {cells : List Cel} {k : Nat} (hk : k < cells.length) {L : Nat} {kind : Int} {neg : Bool} {top bot : List Nat} {ch : Int} {ins : List Arr} (he : cells[k] = .mk L kind neg top bot ch ins) {i : Nat} (hi : i < ins.length) :
    SizeOf.sizeOf ins[i] < SizeOf.sizeOf (Arr.mk S shape cells) := by
  have h1 := List.sizeOf_lt_of_mem (List.getElem_mem hi)
  have h2 := List.sizeOf_lt_of_mem (List.getElem_mem hk)
  rw [he] at h2
  simp only [Arr.mk.sizeOf_spec, Cel.mk.sizeOf_spec] at *
  omega
end Go.Proofs.YtfiefglagknclaaDoor

/-
  Lists compared: slices.Equal, and the reference's. (Printed by wip/bin/gen_same1.py.)
-/
namespace Go.Proofs.YtfiefglagknclaaDoor
open Go.RowKit Ar
set_option maxHeartbeats 1000000
set_option linter.unusedVariables false

theorem beq_at {α : Type} [BEq α] [LawfulBEq α] {l l' : List α} {k : Nat} (h : k < l.length) (h' : k < l'.length) (hne : l[k] ≠ l'[k]) : (l == l') = false := by
  rw [beq_eq_false_iff_ne]
  rintro rfl
  exact hne rfl
theorem beq_take {α : Type} [BEq α] [LawfulBEq α] {l l' : List α} {k : Nat} (hl : l.length = l'.length) (hk : k = l.length) (h : l.take k = l'.take k) : (l == l') = true := by
  rw [beq_iff_eq]
  rwa [hk, List.take_length, hl, List.take_length] at h
theorem beq_len {α : Type} [BEq α] [LawfulBEq α] {l l' : List α} (h : l.length ≠ l'.length) : (l == l') = false := by
  rw [beq_eq_false_iff_ne]
  rintro rfl
  exact h rfl
theorem take_more {α : Type} {l l' : List α} {k : Nat} (h : k < l.length) (h' : k < l'.length) (he : l.take k = l'.take k) (hk : l[k] = l'[k]) : l.take (k + 1) = l'.take (k + 1) := by
  rw [List.take_succ_eq_append_getElem h, List.take_succ_eq_append_getElem h', he, hk]
theorem below_drewN' {B : Nat} {w w' : World} (h : Below B w w') (n : Nat) : Below B w (w'.drewN n) := ⟨h.os, h.tape, h.output, h.size, h.block⟩
theorem lies_i64 {w : World} {B : Nat} {A : Option Addr} {l : List Int} (h : Lies w B A (I64 l)) {k : Nat} (hk : k < l.length) : ∃ b off, A = some ⟨b, off, none⟩ ∧ b < B ∧ w.cell? ⟨b, off + k, none⟩ = some (.int .i64 l[k]) := by
  obtain ⟨b, off, h1, h2, h3⟩ := h.at_ (k := k) (by simpa [I64] using hk)
  exact ⟨b, off, h1, h2, by rw [h3]; simp [I64]⟩
theorem lies_u32 {w : World} {B : Nat} {A : Option Addr} {l : List Nat} (h : Lies w B A (U32 l)) {k : Nat} (hk : k < l.length) : ∃ b off, A = some ⟨b, off, none⟩ ∧ b < B ∧ w.cell? ⟨b, off + k, none⟩ = some (.int .u32 (l[k] : Int)) := by
  obtain ⟨b, off, h1, h2, h3⟩ := h.at_ (k := k) (by simpa [U32] using hk)
  exact ⟨b, off, h1, h2, by rw [h3]; simp [U32]⟩

theorem refInts_any (l l' : List Int) (A A' : Option Addr) (c c' : Nat) (w : World) (B : Nat) (hA : Lies w B A (I64 l)) (hA' : Lies w B A' (I64 l')) (hn : l.length ≤ 9223372036854775807) (hn' : l'.length ≤ 9223372036854775807) :
    Calls Tryd.prog 110 #[.slice A l.length c, .slice A' l'.length c'] w fun e w' => e = .returned (.bool (l == l')) ∧ Below w.heap.size w w' := by
  have HA := Lib.hid hA
  have HA' := Lib.hid hA'
  clear hA hA'
  by_cases hne : l.length = l'.length
  · have hd : (l.length != l'.length) = false := by simpa using hne
    have hln : l.length ≤ l'.length := by omega
    have HN := Lib.hid hne
    clear hne
    go_enter Tryd.func110, Tryd.ntmps110
    go_wp2_with fail
    go_loopw [5] (fun i wr => ∃ k n : Nat, k ≤ l.length ∧ i = .int .i64 k ∧ wr = w.drewN n ∧ Hid (l.take k = l'.take k)) (fun i _ => l.length - (intOf i).toNat)
    case atStart => exact ⟨0, 0, Nat.zero_le _, rfl, rfl, Lib.hid rfl⟩
    case round =>
      obtain ⟨k, n, hk, rfl, rfl, HT⟩ := hrel
      by_cases hlt : k < l.length
      · have hlt' : k < l'.length := by omega
        obtain ⟨b, off, rfl, hb, g0⟩ := lies_i64 HA.out hlt
        obtain ⟨b', off', rfl, hb', g1⟩ := lies_i64 HA'.out hlt'
        have HM := Lib.hid (take_more hlt hlt' HT.out)
        have HZ := Lib.hid (beq_at (l := l) (l' := l') hlt hlt')
        generalize l[k] = x at g0 HM HZ
        generalize l'[k] = y at g1 HM HZ
        have hk0 : (0 : Int) ≤ (k : Int) := by omega
        have hk1 : (k : Int) < (l.length : Int) := by omega
        have hk2 : (k : Int) < (l'.length : Int) := by omega
        by_cases hxy : x = y
        · subst hxy
          have e1 : (x != x) = false := by simp
          have HM2 := Lib.hid (HM.out rfl)
          clear HM HZ
          go_wp2_with fail
          go_quiet (fail)
          go_wp2_with fail
          go_roundw
          case rel => exact ⟨k + 1, n + nq, by omega, by go_num, rfl, HM2⟩
          case measure => simp [intOf]; omega
        · have e1 : (x != y) = true := by simpa using hxy
          have HZ2 := Lib.hid (HZ.out hxy)
          skip
          clear HM HZ hxy
          go_wp2_with fail
          go_quiet (fail)
          go_wp2_with fail
          go_ret
          exact ⟨ret_bool (by rw [HZ2.out]), below_drewN' (below_drewN' (Below.refl _ _) _) _⟩
      · have hke : k = l.length := by omega
        have HZ2 := Lib.hid (beq_take HN.out hke HT.out)
        clear hke HT
        go_wp2_with fail
        go_ret
        exact ⟨ret_bool (by rw [HZ2.out]), below_drewN' (Below.refl _ _) _⟩
  · have hd : (l.length != l'.length) = true := by simpa using hne
    have HZ2 := Lib.hid (beq_len hne)
    clear hne
    go_enter Tryd.func110, Tryd.ntmps110
    go_wp2_with fail
    go_ret
    exact ⟨ret_bool (by rw [HZ2.out]), Below.refl _ _⟩

theorem refSame2_any (l l' : List Nat) (A A' : Option Addr) (c c' : Nat) (w : World) (B : Nat) (hA : Lies w B A (U32 l)) (hA' : Lies w B A' (U32 l')) (hn : l.length ≤ 9223372036854775807) (hn' : l'.length ≤ 9223372036854775807) :
    Calls Tryd.prog 36 #[.slice A l.length c, .slice A' l'.length c'] w fun e w' => e = .returned (.bool (l == l')) ∧ Below w.heap.size w w' := by
  have HA := Lib.hid hA
  have HA' := Lib.hid hA'
  clear hA hA'
  by_cases hne : l.length = l'.length
  · have hd : (l.length != l'.length) = false := by simpa using hne
    have hln : l.length ≤ l'.length := by omega
    have HN := Lib.hid hne
    clear hne
    go_enter Tryd.func36, Tryd.ntmps36
    go_wp2_with fail
    go_loopw [5] (fun i wr => ∃ k n : Nat, k ≤ l.length ∧ i = .int .i64 k ∧ wr = w.drewN n ∧ Hid (l.take k = l'.take k)) (fun i _ => l.length - (intOf i).toNat)
    case atStart => exact ⟨0, 0, Nat.zero_le _, rfl, rfl, Lib.hid rfl⟩
    case round =>
      obtain ⟨k, n, hk, rfl, rfl, HT⟩ := hrel
      by_cases hlt : k < l.length
      · have hlt' : k < l'.length := by omega
        obtain ⟨b, off, rfl, hb, g0⟩ := lies_u32 HA.out hlt
        obtain ⟨b', off', rfl, hb', g1⟩ := lies_u32 HA'.out hlt'
        have HM := Lib.hid (take_more hlt hlt' HT.out)
        have HZ := Lib.hid (beq_at (l := l) (l' := l') hlt hlt')
        generalize l[k] = x at g0 HM HZ
        generalize l'[k] = y at g1 HM HZ
        have hk0 : (0 : Int) ≤ (k : Int) := by omega
        have hk1 : (k : Int) < (l.length : Int) := by omega
        have hk2 : (k : Int) < (l'.length : Int) := by omega
        by_cases hxy : x = y
        · subst hxy
          have e1 : (x != x) = false := by simp
          have HM2 := Lib.hid (HM.out rfl)
          clear HM HZ
          go_wp2_with fail
          go_quiet (fail)
          go_wp2_with fail
          go_roundw
          case rel => exact ⟨k + 1, n + nq, by omega, by go_num, rfl, HM2⟩
          case measure => simp [intOf]; omega
        · have e1 : (x != y) = true := by simpa using hxy
          have HZ2 := Lib.hid (HZ.out hxy)
          have e2 : ((x : Int) != (y : Int)) = true := by simp; omega
          clear HM HZ hxy
          go_wp2_with fail
          go_quiet (fail)
          go_wp2_with fail
          go_ret
          exact ⟨ret_bool (by rw [HZ2.out]), below_drewN' (below_drewN' (Below.refl _ _) _) _⟩
      · have hke : k = l.length := by omega
        have HZ2 := Lib.hid (beq_take HN.out hke HT.out)
        clear hke HT
        go_wp2_with fail
        go_ret
        exact ⟨ret_bool (by rw [HZ2.out]), below_drewN' (Below.refl _ _) _⟩
  · have hd : (l.length != l'.length) = true := by simpa using hne
    have HZ2 := Lib.hid (beq_len hne)
    clear hne
    go_enter Tryd.func36, Tryd.ntmps36
    go_wp2_with fail
    go_ret
    exact ⟨ret_bool (by rw [HZ2.out]), Below.refl _ _⟩
end Go.Proofs.YtfiefglagknclaaDoor
