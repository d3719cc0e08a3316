/-
  Texts of this proof, joined (by wip/bin/bundle.py): GcdMath, RatMath, Rat1, InClass, RegInv, Rat2, Dig9, RegPred, RegLast, Dig1, Dig2, Nat10.
-/
import Derived.Test.YtfiefglagknclaaGreatDoorM1
import Derived.Laws.Tables
import Derived.Deep.LoopGhost
import Derived.Deep.QuietTactic
import Derived.BigQuiet
import Derived.Laws.Rows
import Derived.IntWalk
import Derived.Laws.BitsAllLaws
set_option linter.unusedVariables false
namespace Nt
/-! ### Euclid's steps are few -/
def EucAt (M x y k : Nat) : Prop := (k = 0 ∧ x * y * 2 ≤ M) ∨ (y < x ∧ x * y * 2 ^ k ≤ M)
theorem euc_half {x y : Nat} (h : y < x) (hy : 0 < y) : y * (x % y) * 2 ≤ x * y := by
  have h1 : x % y + y ≤ x := by
    have e := Nat.div_add_mod x y
    have hq : 1 ≤ x / y := by rw [Nat.le_div_iff_mul_le hy]; omega
    have : y * 1 ≤ y * (x / y) := Nat.mul_le_mul_left _ hq
    omega
  have h2 : x % y < y := Nat.mod_lt _ hy
  have h3 : x % y * 2 ≤ x := by omega
  have h4 : y * (x % y * 2) ≤ y * x := Nat.mul_le_mul_left _ h3
  rw [Nat.mul_assoc, Nat.mul_comm x y]
  exact h4
theorem EucAt.step {M x y k : Nat} (h : EucAt M x y k) (hy : 0 < y) : EucAt M y (x % y) (k + 1) := by
  refine .inr ⟨Nat.mod_lt _ hy, ?_⟩
  rcases h with ⟨rfl, h⟩ | ⟨h1, h2⟩
  · have h3 : y * (x % y) ≤ y * x := Nat.mul_le_mul_left _ (Nat.mod_le _ _)
    rw [Nat.mul_comm x y] at h
    have h4 := Nat.mul_le_mul_right 2 h3
    simp only [Nat.zero_add, Nat.pow_one]
    omega
  · have h3 := euc_half h1 hy
    have h4 : y * (x % y) * 2 * 2 ^ k ≤ x * y * 2 ^ k := Nat.mul_le_mul_right _ h3
    rw [Nat.pow_succ, Nat.mul_comm (2 ^ k) 2, ← Nat.mul_assoc]
    omega
theorem EucAt.done {x y k n : Nat} (h : EucAt (2 ^ n) x y k) (hk : n < k) : y = 0 := by
  rcases h with ⟨rfl, h⟩ | ⟨h1, h2⟩
  · omega
  · rcases Nat.eq_zero_or_pos y with h0 | h0
    · exact h0
    · exfalso
      have h3 : 1 ≤ x * y := Nat.mul_pos (by omega) h0
      have h4 : 1 * 2 ^ k ≤ x * y * 2 ^ k := Nat.mul_le_mul_right _ h3
      have h5 : 2 ^ k ≤ 2 ^ n := by omega
      have h6 := (Nat.pow_le_pow_iff_right (a := 2) (by omega)).1 h5
      omega
theorem limbs_bits (n : Nat) : 4294967296 ^ n = 2 ^ (32 * n) := by rw [Nat.pow_mul, show 2 ^ 32 = 4294967296 from rfl]
theorem val_le_bits {a : List Nat} (ha : Ok a) {n : Nat} (la : a.length ≤ n) : val a ≤ 2 ^ (32 * n) := by
  have h1 := val_lt ha
  have h2 := Nat.pow_le_pow_right (n := 4294967296) (by omega) la
  rw [limbs_bits n] at h2
  exact Nat.le_of_lt (Nat.lt_of_lt_of_le h1 h2)
theorem euc_start {a b : List Nat} {n : Nat} (ha : Ok a) (hb : Ok b) (la : a.length ≤ n) (lb : b.length ≤ n) : EucAt (2 ^ (32 * n + 32 * n + 1)) (val a) (val b) 0 := by
  refine .inl ⟨rfl, ?_⟩
  have h3 := Nat.mul_le_mul_right 2 (Nat.mul_le_mul (val_le_bits ha la) (val_le_bits hb lb))
  rw [← Nat.pow_add, ← Nat.pow_succ] at h3
  exact h3
theorem gcd_step (x y : Nat) : Nat.gcd y (x % y) = Nat.gcd x y := by rw [Nat.gcd_comm x y, Nat.gcd_rec y x, Nat.gcd_comm]
theorem gcd_len {a b : List Nat} {n : Nat} (ha : Ok a) (hb : Ok b) (la : a.length ≤ n) (lb : b.length ≤ n) : (digs (Nat.gcd (val a) (val b))).length ≤ n := by
  rcases Nat.eq_zero_or_pos (val a) with h0 | h0
  · rw [h0, Nat.gcd_zero_left]
    exact Nat.le_trans (digs_len_le hb) lb
  · exact Nat.le_trans (len_le ha (Nat.gcd_le_left _ h0)) la
end Nt

/-
  Numbers as signs and limbs, plain: no program in sight. What Make and Right tell.
-/
namespace Rt
/-- A number as it is held. -/
structure Nm where
  neg : Bool
  top : List Nat
  bot : List Nat
deriving DecidableEq

def none_ : Nm := ⟨false, [], []⟩
/-- A sign, that is nothing to 0. -/
def nrm (n : Bool) (x : Nat) : Bool := n && !(x == 0)
/-- A number in lowest terms, or the error. -/
def mk (n1 n2 : Bool) (x y : Nat) : Nm × Int :=
  if y = 0 then (none_, 3)
  else if 32 < (Nt.digs (x / Nat.gcd x y)).length ∨ 32 < (Nt.digs (y / Nat.gcd x y)).length then (none_, 7)
  else (⟨!(x == 0) && (n1 != n2), Nt.digs (x / Nat.gcd x y), Nt.digs (y / Nat.gcd x y)⟩, 0)
/-- May a number be? -/
def right (a : Nm) : Bool := decide (a.top.length ≤ 32) && decide (a.bot.length ≤ 32) && ((mk a.neg false (Nt.val a.top) (Nt.val a.bot)).2 == 0) && decide ((mk a.neg false (Nt.val a.top) (Nt.val a.bot)).1 = a)
theorem mk_nrm (n1 n2 : Bool) (x y : Nat) : mk (nrm n1 x) (nrm n2 y) x y = mk n1 n2 x y := by
  unfold mk nrm
  by_cases hy : y = 0
  · rw [if_pos hy, if_pos hy]
  · rw [if_neg hy, if_neg hy]
    have e : (!(x == 0) && ((n1 && !(x == 0)) != (n2 && !(y == 0)))) = (!(x == 0) && (n1 != n2)) := by
      have h2 : (y == 0) = false := by simpa using hy
      rw [h2]
      cases (x == 0) <;> simp
    rw [e]
theorem div_gcd_zero {x y : Nat} (hy : y ≠ 0) : x / Nat.gcd x y = 0 ↔ x = 0 := by
  have hg : 0 < Nat.gcd x y := Nat.gcd_pos_of_pos_right _ (by omega)
  constructor
  · intro h
    rcases Nat.eq_zero_or_pos x with h0 | h0
    · exact h0
    · have h1 := Nat.le_of_dvd h0 (Nat.gcd_dvd_left x y)
      have h2 := Nat.div_pos h1 hg
      omega
  · rintro rfl; simp
/-- The parts of a number that may be. -/
theorem right_iff {a : Nm} (ho : Nt.Ok a.top) (ho' : Nt.Ok a.bot) : right a = true ↔ a.top.length ≤ 32 ∧ a.bot.length ≤ 32 ∧ Nt.Top a.top ∧ Nt.Top a.bot ∧ a.bot ≠ [] ∧ (a.top = [] → a.neg = false) ∧ Nat.gcd (Nt.val a.top) (Nt.val a.bot) = 1 := by
  obtain ⟨n, t, u⟩ := a
  unfold right
  simp only [Bool.and_eq_true, decide_eq_true_eq, beq_iff_eq]
  unfold mk
  dsimp only at ho ho' ⊢
  constructor
  · rintro ⟨⟨⟨h1, h2⟩, h3⟩, h4⟩
    by_cases hy : Nt.val u = 0
    · rw [if_pos hy] at h3; cases h3
    · rw [if_neg hy] at h3 h4
      by_cases hl : 32 < (Nt.digs (Nt.val t / Nat.gcd (Nt.val t) (Nt.val u))).length ∨ 32 < (Nt.digs (Nt.val u / Nat.gcd (Nt.val t) (Nt.val u))).length
      · rw [if_pos hl] at h3; cases h3
      · rw [if_neg hl] at h4
        injection h4 with e1 e2 e3
        have hg : 0 < Nat.gcd (Nt.val t) (Nt.val u) := Nat.gcd_pos_of_pos_right _ (by omega)
        have hu : Nt.val u / Nat.gcd (Nt.val t) (Nt.val u) = Nt.val u := by
          have := congrArg Nt.val e3
          rwa [Nt.val_digs] at this
        have hgcd : Nat.gcd (Nt.val t) (Nt.val u) = 1 := by
          have h5 := Nat.mul_div_cancel' (Nat.gcd_dvd_right (Nt.val t) (Nt.val u))
          rw [hu] at h5
          have h6 : Nat.gcd (Nt.val t) (Nt.val u) * Nt.val u = 1 * Nt.val u := by rw [h5, Nat.one_mul]
          exact Nat.eq_of_mul_eq_mul_right (by omega) h6
        refine ⟨h1, h2, ?_, ?_, ?_, ?_, hgcd⟩
        · rw [← e2]; exact Nt.top_digs _
        · rw [← e3]; exact Nt.top_digs _
        · rintro rfl; exact hy rfl
        · rintro rfl
          rw [← e1]; rfl
  · rintro ⟨h1, h2, h3, h4, h5, h6, h7⟩
    have hy : Nt.val u ≠ 0 := by
      intro h
      have := Nt.digs_val ho' h4
      rw [h, Nt.digs_zero] at this
      exact h5 this.symm
    rw [if_neg hy, h7, Nat.div_one, Nat.div_one, Nt.digs_val ho h3, Nt.digs_val ho' h4, if_neg (by omega)]
    refine ⟨⟨⟨h1, h2⟩, rfl⟩, ?_⟩
    congr 1
    cases hn : n
    · simp
    · by_cases ht : Nt.val t = 0
      · have := Nt.digs_val ho h3
        rw [ht, Nt.digs_zero] at this
        have := h6 this.symm
        rw [hn] at this; cases this
      · have : (Nt.val t == 0) = false := by simpa using ht
        rw [this]; rfl
end Rt

/-
  Numbers by the reference: scrimref02.Gcd of at most 64 limbs, scrimref03.Norm, scrimref04.Top, Bot.
-/
namespace Go.Proofs.YtfiefglagknclaaGreatDoor
open Go.RowKit
set_option maxHeartbeats 2000000
set_option maxRecDepth 100000
set_option linter.unusedVariables false

section
variable {w0 w : World} {v1 v2 : Value} {l1 l2 : List Nat}
theorem rDivMod_res (h1 : IsRes w v1 l1) (h2 : IsRes w v2 l2) (o1 : Nt.Ok l1) (o2 : Nt.Ok l2) (s1 : l1.length ≤ 1000000) (s2 : l2.length ≤ 1000000) (hb : Below w0.heap.size w0 w) :
    Calls Tryz.prog 55 #[v1, v2] w fun e w' => ∃ u1 u2, e = .returned (.tuple #[u1, u2, .bool (decide (Nt.val l2 ≠ 0))]) ∧ IsRes w' u1 (Nt.digs (Nt.quo (Nt.val l1) (Nt.val l2))) ∧ IsRes w' u2 (Nt.digs (Nt.rest (Nt.val l1) (Nt.val l2))) ∧ Below w0.heap.size w0 w' ∧ Below w.heap.size w w' := by
  obtain ⟨A, c, rfl, a1, a2, a3, a4⟩ := h1
  obtain ⟨A', c', rfl, b1, b2, b3, b4⟩ := h2
  refine (refDivMod_any A A' c c' w.heap.size l1 l2 w a4 b4 (Nat.le_refl _) o1 o2 a1 b1 a2 b2 b3 s1 s2).mono ?_
  rintro e w' ⟨u1, u2, rfl, r1, r2, hb'⟩
  exact ⟨u1, u2, rfl, r1, r2, hb.trans (hb'.mono hb.size), hb'⟩
theorem rNorm_res (h1 : IsRes w v1 l1) (o1 : Nt.Ok l1) (s1 : l1.length ≤ 1000000) (hb : Below w0.heap.size w0 w) :
    Calls Tryz.prog 38 #[v1] w fun e w' => ∃ v, e = .returned v ∧ IsRes w' v (Nt.digs (Nt.val l1)) ∧ Below w0.heap.size w0 w' ∧ Below w.heap.size w w' := by
  obtain ⟨A, c, rfl, a1, a2, a3, a4⟩ := h1
  refine (refNorm_any A c w.heap.size l1 w a4 (Nat.le_refl _) o1 a1 a2 a3 (by omega)).mono ?_
  rintro e w' ⟨v, rfl, r, hb'⟩
  exact ⟨v, rfl, r, hb.trans (hb'.mono hb.size), hb'⟩
end

theorem refGcd64_any (va vb : Value) (a b : List Nat) (w : World) (hx : IsRes w va a) (hy : IsRes w vb b) (ha : Nt.Ok a) (hb : Nt.Ok b) (hs : a.length ≤ 64) (hs' : b.length ≤ 64) :
    Calls Tryz.prog 54 #[va, vb] w fun e w' => ∃ v, e = .returned v ∧ IsRes w' v (Nt.digs (Nat.gcd (Nt.val a) (Nt.val b))) ∧ Below w.heap.size w w' := by
  have hda := Nt.digs_len_le ha
  have hdb := Nt.digs_len_le hb
  have NA := Lib.hid (rNorm_res hx ha (by omega) (Below.refl _ _))
  have NB := Lib.hid (fun (wx : World) (h : Below w.heap.size w wx) => rNorm_res (hy.below h) hb (by omega) h)
  have EU := Lib.hid (Nt.euc_start ha hb hs hs')
  obtain ⟨N, hN⟩ : ∃ N, N = 32 * 64 + 32 * 64 + 1 := ⟨_, rfl⟩
  rw [← hN] at EU
  have HN : Hid (N < 100000) := Lib.hid (by omega)
  clear hN
  have hla : (Nt.digs (Nt.val a)).length ≤ 1000000 := by omega
  have hlb : (Nt.digs (Nt.val b)).length ≤ 1000000 := by omega
  clear hx hy ha hb hs hs' hda hdb
  obtain ⟨x0, hx0⟩ : ∃ x, x = Nt.val a := ⟨_, rfl⟩
  obtain ⟨y0, hy0⟩ : ∃ y, y = Nt.val b := ⟨_, rfl⟩
  rw [← hx0] at NA EU hla ⊢
  rw [← hy0] at NB EU hlb ⊢
  clear hx0 hy0
  go_enter Tryz.func54, Tryz.ntmps54
  go_wp2_with fail
  refine NA.out.mono ?_
  rintro e w1 ⟨v1, rfl, hr1, hb1, _⟩
  go_wp2_with fail
  refine (NB.out w1 hb1).mono ?_
  rintro e w2 ⟨v2, rfl, hr2, hb2, hb12⟩
  have hr1' := hr1.below hb12
  obtain ⟨A, c, rfl, a1, a2, a3, a4⟩ := hr1'
  obtain ⟨A', c', rfl, b1, b2, b3, b4⟩ := hr2
  have HR0 : Hid (IsRes w2 (.slice A (Nt.digs x0).length c) (Nt.digs x0) ∧ IsRes w2 (.slice A' (Nt.digs y0).length c') (Nt.digs y0)) := Lib.hid ⟨⟨_, _, rfl, a1, a2, a3, a4⟩, ⟨_, _, rfl, b1, b2, b3, b4⟩⟩
  clear hr1 hb1 hb12 a1 a2 a3 a4 b1 b2 b3 b4 NA NB
  go_wp2_with fail
  go_loopg [5, 6, 7] 100000 (fun gk av bv kv wr => ∃ (A A' : Option Addr) (c c' x y k : Nat), av = .slice A (Nt.digs x).length c ∧ bv = .slice A' (Nt.digs y).length c' ∧ kv = .int .i64 (k : Int) ∧ Hid (k + gk = 100000) ∧ Hid (Nt.EucAt (2 ^ N) x y k) ∧ Hid (IsRes wr (.slice A (Nt.digs x).length c) (Nt.digs x) ∧ IsRes wr (.slice A' (Nt.digs y).length c') (Nt.digs y)) ∧ (Nt.digs x).length ≤ 1000000 ∧ (Nt.digs y).length ≤ 1000000 ∧ Hid (Nat.gcd x y = Nat.gcd x0 y0) ∧ Below w.heap.size w wr)
  case atStart => exact ⟨_, _, _, _, x0, y0, 0, rfl, rfl, rfl, Lib.hid (by omega), EU, HR0, hla, hlb, Lib.hid rfl, hb2⟩
  case round =>
    clear EU HR0 hla hlb hb2
    obtain ⟨P, P', k1, k2, x, y, k, rfl, rfl, rfl, HK, EU, HR, hlx, hly, HG, hbel⟩ := hrel
    by_cases h0 : y = 0
    · subst h0
      have HZ : Hid ((Nt.digs 0).length = 0) := Lib.hid (by rw [Nt.digs_zero]; rfl)
      have HE : Hid (Nat.gcd x0 y0 = x) := Lib.hid (by rw [← HG.out, Nat.gcd_zero_right])
      have HRX := Lib.hid HR.out.1
      rw [HZ.out]
      clear HG HR
      rcases Bool.eq_false_or_eq_true (decide ((k : Int) < 100000)) with hk2 | hk2
      · go_wp2_with fail
        go_ret
        exact ⟨_, rfl, by rw [HE.out]; exact HRX.out, hbel⟩
      · go_wp2_with fail
        go_ret
        exact ⟨_, rfl, by rw [HE.out]; exact HRX.out, hbel⟩
    · have hlp : 0 < (Nt.digs y).length := by
        rcases Nat.eq_zero_or_pos (Nt.digs y).length with h | h
        · exact absurd (Nt.digs_nil_iff.1 (List.eq_nil_of_length_eq_zero h)) h0
        · exact h
      have HK2 : Hid (k < 100000) := Lib.hid (by
        rcases Nat.lt_or_ge k 100000 with h | h
        · exact h
        · exact absurd (EU.out.done (by have := HN.out; omega)) h0)
      have hk2 : decide ((k : Int) < 100000) = true := by have := HK2.out; simp; omega
      have hkb : k < 1000000000 := by have := HK2.out; omega
      have DM := Lib.hid (rDivMod_res (w0 := w) HR.out.1 HR.out.2 (Nt.ok_digs x) (Nt.ok_digs y) hlx hly hbel)
      rw [Nt.val_digs, Nt.val_digs, Nt.rest_pos h0] at DM
      have hyp : x % y < y := Nat.mod_lt _ (by omega)
      have hlr : (Nt.digs (x % y)).length ≤ 1000000 := by
        have h := Nt.digs_len_le_of (Nat.le_of_lt hyp)
        omega
      have HG2 : Hid (Nat.gcd y (x % y) = Nat.gcd x0 y0) := Lib.hid (by rw [Nt.gcd_step]; exact HG.out)
      have EU2 := Lib.hid (EU.out.step (by omega))
      have HRY := Lib.hid HR.out.2
      clear HR HG h0 EU
      obtain ⟨r, hr⟩ : ∃ r, r = x % y := ⟨_, rfl⟩
      rw [← hr] at DM hyp hlr HG2 EU2
      clear hr
      go_wp2_with fail
      refine DM.out.mono ?_
      rintro e w1 ⟨u1, u2, rfl, hr1, hr2, hb1, hb01⟩
      have hry := HRY.out.below hb01
      obtain ⟨A2, c2, rfl, q1, q2, q3, q4⟩ := hr2
      have hr2' : IsRes w1 (.slice A2 (Nt.digs r).length c2) (Nt.digs r) := ⟨A2, c2, rfl, q1, q2, q3, q4⟩
      clear q1 q2 q3 q4 hr1 hb01 HRY DM
      have HRN := Lib.hid (And.intro hry hr2')
      clear hry hr2'
      go_wp2_with fail
      go_roundg (gk - 1)
      case measure => have := HK2.out; have := HK.out; omega
      case rel => exact ⟨_, _, _, _, y, r, k + 1, rfl, rfl, by go_num, Lib.hid (by have := HK2.out; have := HK.out; omega), EU2, HRN, hly, hlr, HG2, hb1⟩


/-- Limbs, at most 64. -/
def ResL (w : World) (v : Value) (l : List Nat) : Prop := IsRes w v l ∧ Nt.Ok l ∧ l.length ≤ 64
theorem ResL.below {w w' : World} {v : Value} {l : List Nat} (h : ResL w v l) (hb : Below w.heap.size w w') : ResL w' v l := ⟨h.1.below hb, h.2⟩
/-- A row of limbs does not lie where no limbs lie. -/
theorem IsRes.setRow {w : World} {v : Value} {l : List Nat} {g : Nat} {old : Array Value} {t : TypeId} (h : IsRes w v l) (hg : w.heap[g]? = some (.cells old t (0, 0))) (ho : ∀ (i : Nat) (k : IntKind) (n : Int), old[i]? ≠ some (Value.int k n)) (cs : Array Value) : IsRes (w.setRow g cs) v l := by
  obtain ⟨A, c, h1, h2, h3, h4, h5⟩ := h
  refine ⟨A, c, h1, h2, h3, h4, ?_⟩
  rcases h5 with h5 | ⟨b, off, e, hb, hc⟩
  · exact .inl h5
  · cases l with
    | nil => exact .inl rfl
    | cons x r =>
      have hne : b ≠ g := by
        rintro rfl
        have h0 := hc 0 _ rfl
        rw [cell_of_row w b (off + 0) old t (0, 0) hg] at h0
        exact ho _ _ _ h0
      refine .inr ⟨b, off, e, by rw [size_setRow]; exact hb, fun i u hu => ?_⟩
      rw [World.cell?_of_block (w := w) (by simp only [World.setRow, Array.getElem?_modify]; rw [if_neg (by omega)])]
      exact hc i u hu
theorem ResL.setRow {w : World} {v : Value} {l : List Nat} {g : Nat} {old : Array Value} {t : TypeId} (h : ResL w v l) (hg : w.heap[g]? = some (.cells old t (0, 0))) (ho : ∀ (i : Nat) (k : IntKind) (n : Int), old[i]? ≠ some (Value.int k n)) (cs : Array Value) : ResL (w.setRow g cs) v l := ⟨h.1.setRow hg ho cs, h.2⟩
theorem two_no_int (n : Bool) (A : Option Addr) (k c : Nat) : ∀ (i : Nat) (kk : IntKind) (m : Int), (#[.bool n, .slice A k c] : Array Value)[i]? ≠ some (Value.int kk m) := by
  intro i kk m h
  match i with
  | 0 => cases h
  | 1 => cases h
  | i + 2 => simp at h
theorem three_no_int (n : Bool) (A : Option Addr) (k c : Nat) (A' : Option Addr) (k' c' : Nat) : ∀ (i : Nat) (kk : IntKind) (m : Int), (#[.bool n, .slice A k c, .slice A' k' c'] : Array Value)[i]? ≠ some (Value.int kk m) := by
  intro i kk m h
  match i with
  | 0 => cases h
  | 1 => cases h
  | 2 => cases h
  | i + 3 => simp at h
theorem int3_info : (Tryz.prog.info? 49).map (·.size) = some 2 := by kernel_rfl
theorem num_info : (Tryz.prog.info? 26).map (·.size) = some 3 := by kernel_rfl
theorem two_one (n : Bool) (A : Option Addr) (k c : Nat) : (#[.bool n, .slice A k c] : Array Value).all (·.oneCell') = true := by simp [Value.oneCell']
theorem three_one (n : Bool) (A : Option Addr) (k c : Nat) (A' : Option Addr) (k' c' : Nat) : (#[.bool n, .slice A k c, .slice A' k' c'] : Array Value).all (·.oneCell') = true := by simp [Value.oneCell']
theorem rBelow.setRow {B : Nat} {a w : World} (h : Below B a w) {g : Nat} (hg : B ≤ g) (cs : Array Value) : Below B a (w.setRow g cs) :=
  ⟨h.os, h.tape, h.output, by rw [size_setRow]; exact h.size, fun k hk => by
    have e : (w.setRow g cs).heap[k]? = w.heap[k]? := by
      simp only [World.setRow, Array.getElem?_modify]
      rw [if_neg (by omega)]
    rw [e]; exact h.block k hk⟩
theorem rheap_same {w : World} {g : Nat} {old cs : Array Value} {t : TypeId} (h : w.heap[g]? = some (.cells old t (0, 0))) : (w.setRow g cs).heap[g]? = some (.cells cs t (0, 0)) := by
  simp [World.setRow, Array.getElem?_modify, h]

/-- A whole number, made anew. -/
def Int3Out (w : World) (n : Bool) (l : List Nat) (e : Ending) (w' : World) : Prop := ∃ v, e = .returned (.agg #[.bool n, v]) ∧ ResL w' v l ∧ Below w.heap.size w w'

theorem norm3_any (n : Bool) (v : Value) (l : List Nat) (w : World) (h : ResL w v l) :
    Calls Tryz.prog 39 #[.agg #[.bool n, v]] w (Int3Out w (Rt.nrm n (Nt.val l)) (Nt.digs (Nt.val l))) := by
  obtain ⟨hr, ho, hl⟩ := h
  have hb0 : ∀ o1 o2, Below w.heap.size w ((w.alloc o1).alloc o2) := fun o1 o2 => ((Below.refl _ _).alloc (Nat.le_refl _) _).alloc (by simp) _
  have HN := Lib.hid (fun o1 o2 => rNorm_res (hr.below (hb0 o1 o2)) ho (by omega) (hb0 o1 o2))
  have hd := Nt.digs_len_le ho
  have HO : Hid (Nt.Ok (Nt.digs (Nt.val l)) ∧ (Nt.digs (Nt.val l)).length ≤ 64) := Lib.hid ⟨Nt.ok_digs _, by omega⟩
  have HZ : Hid ((Nt.digs (Nt.val l)).length = 0 → Nt.digs (Nt.val l) = [] ∧ Rt.nrm n (Nt.val l) = false) := Lib.hid (fun e => by
    have e1 := List.eq_nil_of_length_eq_zero e
    have e2 := Nt.digs_nil_iff.1 e1
    exact ⟨e1, by rw [e2]; simp [Rt.nrm]⟩)
  have HY : Hid ((Nt.digs (Nt.val l)).length ≠ 0 → Rt.nrm n (Nt.val l) = n) := Lib.hid (fun e => by
    have e2 : Nt.val l ≠ 0 := fun e3 => e (by rw [e3, Nt.digs_zero]; rfl)
    have e3 : (Nt.val l == 0) = false := by simpa using e2
    simp [Rt.nrm, e3])
  have HB := Lib.hid hb0
  obtain ⟨A, c, rfl, -, -, -, -⟩ := hr
  clear ho hl hd hb0
  generalize Nt.digs (Nt.val l) = d at *
  generalize Rt.nrm n (Nt.val l) = N at *
  generalize l.length = ll at *
  have HI2 : Hid (∀ (b : Bool) (A : Option Addr) (k c : Nat), (Tryz.prog.info? 49).map (·.size) = some (#[.bool b, .slice A k c] : Array Value).size) := Lib.hid (fun _ _ _ _ => int3_info)
  go_enter Tryz.func39, Tryz.ntmps39
  go_wp2_with fail
  refine (HN.out _ _).mono ?_
  rintro e w2 ⟨v2, rfl, hr2, hb2, hb3⟩
  have hs2 := hb3.size
  have HG1 : Hid (w2.heap[w.heap.size + 1]? = some (.cells #[.bool false, .slice none 0 0] 49 (0, 0))) := Lib.hid ((hb3.block (w.heap.size + 1) (by simp)).trans (by
    have := heap_alloc_new (w.alloc (.cells #[.bool n, .slice A ll c] 49)) (.cells #[.bool false, .slice none 0 0] 49)
    rwa [show (w.alloc (.cells #[.bool n, .slice A ll c] 49)).heap.size = w.heap.size + 1 by simp] at this))
  have q0 : w2.cell? ⟨w.heap.size, 0, none⟩ = some (.bool n) := (hb3.cell (p := ⟨w.heap.size, 0, none⟩) (by show w.heap.size < _; simp; omega)).trans (by go_simp)
  obtain ⟨A2, c2, rfl, k1, k2, k3, k4⟩ := hr2
  have HR2 : Hid (IsRes w2 (.slice A2 d.length c2) d) := Lib.hid ⟨A2, c2, rfl, k1, k2, k3, k4⟩
  clear k3 k4 hb3
  by_cases h0 : d.length = 0
  · have hz : ((d.length : Int) == 0) = true := by rw [h0]; rfl
    have HD := Lib.hid (HZ.out h0)
    clear h0
    go_wp2_with (first
      | (with_reducible refine wpList_store_row rfl 49 (.tmp 2) (.tmp 10) rfl (w.heap.size + 1) #[.bool false, .slice none 0 0] rfl rfl 49 #[.bool false, .slice none 0 0] HG1.out (HI2.out _ _ _ _) rfl (two_one _ _ _ _) ?_))
    refine bodyPost_ret (results_cell_row (by rfl) _ _ (w.heap.size + 1) 49 #[.bool false, .slice none 0 0] (0, 0) _ (by rfl) (rheap_same HG1.out) Tryz.underlying49 rfl (HI2.out _ _ _ _)) rfl ⟨.slice none 0 0, by rw [HD.out.2], by rw [HD.out.1]; exact ⟨⟨none, 0, rfl, Nat.le_refl _, by omega, fun _ => rfl, .inl rfl⟩, (fun x h => by cases h), by simp⟩, rBelow.setRow hb2 (by omega) _⟩
  · have hz : ((d.length : Int) == 0) = false := beq_eq_false_iff_ne.2 (by omega)
    have HD := Lib.hid (HY.out h0)
    clear h0
    go_wp2_with (first
      | (with_reducible refine wpList_store_row rfl 49 (.tmp 2) (.tmp 14) rfl (w.heap.size + 1) #[.bool n, .slice A2 d.length c2] rfl rfl 49 #[.bool false, .slice none 0 0] HG1.out (HI2.out _ _ _ _) rfl (two_one _ _ _ _) ?_))
    refine bodyPost_ret (results_cell_row (by rfl) _ _ (w.heap.size + 1) 49 #[.bool n, .slice A2 d.length c2] (0, 0) _ (by rfl) (rheap_same HG1.out) Tryz.underlying49 rfl (HI2.out _ _ _ _)) rfl ⟨.slice A2 d.length c2, by rw [HD.out], ⟨HR2.out.setRow HG1.out (two_no_int _ _ _ _) _, HO.out⟩, rBelow.setRow hb2 (by omega) _⟩
end Go.Proofs.YtfiefglagknclaaGreatDoor

/-
  A region that draws its order and whose calls make memory, but yield one value wherever they are made: one walk of the text's order serves.
  The class of worlds: those that are as w0 was below its heap's size. By the kit's wp_region_quiet (Derived/Deep/Quiet), at this class.
-/
namespace Go.Proofs.YtfiefglagknclaaGreatDoor
open Go.RowKit
set_option linter.unusedVariables false

/-- A world that is as w0 was below the size of w0's heap. -/
structure Later (w0 : World) where
  w : World
  b : Below w0.heap.size w0 w
instance Later.nonempty (w0 : World) : Nonempty (Later w0) := ⟨⟨w0, Below.refl _ _⟩⟩
theorem wp_region_later (w0 : World) {P : Program} {id : Nat} {Q : Exit → Act → World → Prop} {a : Act} {w : World} {l : List Oper} (hm : P.follows .mixedOrders = true) (hB : Region.lexB .any l.toArray = true) (hC : Below w0.heap.size w0 w.drew)
    (h : wpQuiet P l.toArray (fun w' => ∃ x : Later w0, w' = x.w) (fun a' => ∀ w', (∃ x : Later w0, w' = x.w) → Q .normal a' w') l a) : (Code.region id l.toArray true).wp P Q a w :=
  wp_region_quiet (C := fun w' => ∃ x : Later w0, w' = x.w) hm hB ⟨⟨_, hC⟩, rfl⟩ (by simpa using h)
theorem Later.call {w0 : World} {P : Program} {f : FuncId} {args : Array Value} {x : Later w0} {v : Value}
    (h : Calls P f args x.w fun e w' => e = .returned v ∧ Below x.w.heap.size x.w w') : Calls P f args x.w fun e w'' => e = .returned v ∧ ∃ y : Later w0, w'' = y.w :=
  h.mono fun _ w' ⟨he, hb⟩ => ⟨he, ⟨w', x.b.trans (hb.mono x.b.size)⟩, rfl⟩
theorem Later.call_same {w0 : World} {P : Program} {f : FuncId} {args : Array Value} {x : Later w0} {v : Value}
    (h : Calls P f args x.w fun e w' => e = .returned v ∧ x.w = w') : Calls P f args x.w fun e w'' => e = .returned v ∧ ∃ y : Later w0, w'' = y.w :=
  h.mono fun _ w' ⟨he, hb⟩ => ⟨he, x, hb.symm⟩
/-- A whole variable is read, in a region that draws. -/
theorem wpQuiet_load_row {P : Program} {ops : Array Oper} {C : World → Prop} {Q : Act → Prop} {o : Oper} {rest : List Oper} {a : Act} (hw : Region.wanted o (yielded ops a.tmps) = true) (ty : TypeId) (x : Operand) (ho : o.op = .load ty x)
    (g : Nat) (hx : a.eval x = .pointer (some ⟨g, 0, none⟩)) (t : TypeId) (cs : Array Value) (fr : Nat × Nat) (d : TypeDesc) (hg : ∀ w, C w → w.heap[g]? = some (.cells cs t fr))
    (hu : P.underlying ty = some d) (hd : (match d with | .struct _ | .array _ _ => true | _ => false) = true) (hi : (P.info? ty).map (·.size) = some cs.size)
    (h : ∀ a', a' = a.put o.dst (.agg cs) → wpQuiet P ops C Q rest a') : wpQuiet P ops C Q (o :: rest) a := by
  replace h := h _ rfl
  rw [wpQuiet, if_pos hw]
  refine ⟨.agg cs, fun w hC => ?_, h⟩
  unfold Oper.quietAt execOp
  simp only [ho, hx, Instr.loadAt, Instr.sureAddr, Sem.run_bind, Sem.run_pure, Result.andThen_ok, run_loadVar_row w g t ty cs fr d (hg w hC) hu hd hi]
  exact ⟨rfl, rfl⟩
theorem Below.drew_self (w : World) : Below w.heap.size w w.drew := ⟨rfl, rfl, rfl, Nat.le_refl _, fun _ _ => rfl⟩
end Go.Proofs.YtfiefglagknclaaGreatDoor

/-
  A region that draws its order, by an invariant on what has come up: each operation is looked at once, in whatever state it comes up.
-/
namespace Go.Proofs.YtfiefglagknclaaGreatDoor
open Go.RowKit
set_option linter.unusedVariables false

section
variable {P : Program} {ops : Array Oper} {Q : Exit → Act → World → Prop} {md : Region.Mode}
theorem ready_mem {l : Array Bool} {i : Nat} (h : i ∈ Region.ready md ops l) : i < ops.size ∧ l.getD i true = false ∧ ((ops[i]?).map (·.after.all fun e => !Region.binds md e || l.getD e.on false)).getD false = true := by
  simp only [Region.ready, List.mem_filter, List.mem_range, Bool.and_eq_true, Bool.not_eq_true'] at h
  exact ⟨h.1, h.2.1, h.2.2⟩
theorem count_false_zero {l : Array Bool} (h : l.toList.count false = 0) (i : Nat) : l.getD i true = true := by
  rw [List.count_eq_zero] at h
  rw [Array.getD_eq_getD_getElem?]
  cases e : l[i]? with
  | none => rfl
  | some b =>
    cases b
    · exact absurd (by have := Array.mem_of_getElem? e; simpa using this) h
    · rfl
theorem count_set_true : ∀ (l : List Bool) (i : Nat), l[i]? = some false → (l.set i true).count false + 1 = l.count false
  | [], i, h => by simp at h
  | b :: r, 0, h => by
    simp at h; subst h; simp
  | b :: r, i + 1, h => by
    have := count_set_true r i (by simpa using h)
    cases b <;> simp <;> omega
theorem wpAny_inv (I : Array Bool → Act → World → Prop)
    (hI : ∀ l a w, I l a w → ∀ i, i ∈ Region.ready md ops l → wpOp P ops Q i (I (l.setIfInBounds i true)) a w)
    (hd : ∀ l a w, I l a w → Region.ready md ops l = [] → Q .normal a w) :
    ∀ n l a w, l.toList.count false ≤ n → I l a w → wpAny P md ops Q n l a w := by
  intro n
  induction n with
  | zero =>
    intro l a w hc h
    have hr : Region.ready md ops l = [] := by
      rw [List.eq_nil_iff_forall_not_mem]
      intro i hi
      have := (ready_mem hi).2.1
      rw [count_false_zero (by omega)] at this
      cases this
    exact ⟨hr, hd l a w h hr⟩
  | succ n ih =>
    intro l a w hc h
    refine ⟨hd l a w h, fun i hi => wpOp_mono (fun a' w' h' => ih _ a' w' ?_ h') (hI l a w h i hi)⟩
    have h1 := (ready_mem hi).2.1
    rw [Array.getD_eq_getD_getElem?] at h1
    have h2 : l.toList[i]? = some false := by
      cases e : l[i]? with
      | none => rw [e] at h1; cases h1
      | some b => rw [e] at h1; simp at h1; subst h1; simpa using e
    have h3 := count_set_true _ _ h2
    have h4 : (l.setIfInBounds i true).toList = l.toList.set i true := by simp
    rw [h4]; omega
theorem wpOp_at {i : Nat} {o : Oper} {K : Act → World → Prop} {a : Act} {w : World} (h : ops[i]? = some o) (hg : o.guard = none) (hw : o.wp P a w K Q) : wpOp P ops Q i K a w := by
  unfold wpOp; rw [h]
  have : Region.wanted o (yielded ops a.tmps) = true := by simp [Region.wanted, hg]
  simp only [this, if_true]
  exact .inl hw
end
end Go.Proofs.YtfiefglagknclaaGreatDoor

/-
  Numbers by the reference: scrimref04.Top, Bot, Make. (Printed by wip/bin/gen_rat2.py.)
-/
namespace Go.Proofs.YtfiefglagknclaaGreatDoor
open Go.RowKit
set_option maxHeartbeats 4000000
set_option maxRecDepth 100000
set_option linter.unusedVariables false

theorem top_any (n : Bool) (v1 v2 : Value) (l1 l2 : List Nat) (w : World) (h1 : ResL w v1 l1) (h2 : ResL w v2 l2) :
    Calls Tryz.prog 28 #[.agg #[.bool n, v1, v2]] w (Int3Out w (Rt.nrm n (Nt.val l1)) (Nt.digs (Nt.val l1))) := by
  have hb0 : ∀ o1 o2, Below w.heap.size w ((w.alloc o1).alloc o2) := fun o1 o2 => ((Below.refl _ _).alloc (Nat.le_refl _) _).alloc (by simp) _
  have HN := Lib.hid (fun o1 o2 => norm3_any n v1 _ _ (h1.below (hb0 o1 o2)))
  have HB := Lib.hid hb0
  obtain ⟨⟨A1, c1, rfl, -⟩, -⟩ := h1
  obtain ⟨⟨A2, c2, rfl, -⟩, -⟩ := h2
  clear hb0
  generalize Rt.nrm n (Nt.val l1) = n2 at *
  generalize Nt.digs (Nt.val l1) = d2 at *
  generalize l1.length = k1 at *
  generalize l2.length = k2 at *
  have HI2 : Hid (∀ (b : Bool) (A : Option Addr) (k c : Nat), (Tryz.prog.info? 49).map (·.size) = some (#[.bool b, .slice A k c] : Array Value).size) := Lib.hid (fun _ _ _ _ => int3_info)
  go_enter Tryz.func28, Tryz.ntmps28
  go_wp2_with fail
  refine (HN.out _ _).mono ?_
  rintro e w2 ⟨v3, rfl, hr2, hb2⟩
  have hb3 := (HB.out _ _).trans (hb2.mono (HB.out _ _).size)
  have HG1 : Hid (w2.heap[w.heap.size + 1]? = some (.cells #[.bool false, .slice none 0 0] 49 (0, 0))) := Lib.hid ((hb2.block (w.heap.size + 1) (by simp)).trans (by
    have := heap_alloc_new (w.alloc (.cells #[.bool n, .slice A1 k1 c1, .slice A2 k2 c2] 26)) (.cells #[.bool false, .slice none 0 0] 49)
    rwa [show (w.alloc (.cells #[.bool n, .slice A1 k1 c1, .slice A2 k2 c2] 26)).heap.size = w.heap.size + 1 by simp] at this))
  have HR2 := Lib.hid (hr2.setRow HG1.out (two_no_int _ _ _ _) #[.bool n2, v3])
  obtain ⟨⟨A3, c3, rfl, -⟩, -⟩ := hr2
  clear hb2
  generalize d2.length = k3 at *
  go_wp2_with (first
    | (with_reducible refine wpList_store_row rfl 49 (.tmp 2) (.tmp 8) rfl (w.heap.size + 1) #[.bool n2, .slice A3 k3 c3] rfl rfl 49 #[.bool false, .slice none 0 0] HG1.out (HI2.out _ _ _ _) rfl (two_one _ _ _ _) ?_))
  refine bodyPost_ret (results_cell_row (by rfl) _ _ (w.heap.size + 1) 49 #[.bool n2, .slice A3 k3 c3] (0, 0) _ (by rfl) (rheap_same HG1.out) Tryz.underlying49 rfl (HI2.out _ _ _ _)) rfl ⟨.slice A3 k3 c3, rfl, HR2.out, rBelow.setRow hb3 (by omega) _⟩

theorem bot_any (n : Bool) (v1 v2 : Value) (l1 l2 : List Nat) (w : World) (h1 : ResL w v1 l1) (h2 : ResL w v2 l2) :
    Calls Tryz.prog 29 #[.agg #[.bool n, v1, v2]] w (Int3Out w (Rt.nrm false (Nt.val l2)) (Nt.digs (Nt.val l2))) := by
  have hb0 : ∀ o1 o2, Below w.heap.size w ((w.alloc o1).alloc o2) := fun o1 o2 => ((Below.refl _ _).alloc (Nat.le_refl _) _).alloc (by simp) _
  have HN := Lib.hid (fun o1 o2 => norm3_any false v2 _ _ (h2.below (hb0 o1 o2)))
  have HB := Lib.hid hb0
  obtain ⟨⟨A1, c1, rfl, -⟩, -⟩ := h1
  obtain ⟨⟨A2, c2, rfl, -⟩, -⟩ := h2
  clear hb0
  generalize Rt.nrm false (Nt.val l2) = n2 at *
  generalize Nt.digs (Nt.val l2) = d2 at *
  generalize l1.length = k1 at *
  generalize l2.length = k2 at *
  have HI2 : Hid (∀ (b : Bool) (A : Option Addr) (k c : Nat), (Tryz.prog.info? 49).map (·.size) = some (#[.bool b, .slice A k c] : Array Value).size) := Lib.hid (fun _ _ _ _ => int3_info)
  go_enter Tryz.func29, Tryz.ntmps29
  go_wp2_with fail
  refine (HN.out _ _).mono ?_
  rintro e w2 ⟨v3, rfl, hr2, hb2⟩
  have hb3 := (HB.out _ _).trans (hb2.mono (HB.out _ _).size)
  have HG1 : Hid (w2.heap[w.heap.size + 1]? = some (.cells #[.bool false, .slice none 0 0] 49 (0, 0))) := Lib.hid ((hb2.block (w.heap.size + 1) (by simp)).trans (by
    have := heap_alloc_new (w.alloc (.cells #[.bool n, .slice A1 k1 c1, .slice A2 k2 c2] 26)) (.cells #[.bool false, .slice none 0 0] 49)
    rwa [show (w.alloc (.cells #[.bool n, .slice A1 k1 c1, .slice A2 k2 c2] 26)).heap.size = w.heap.size + 1 by simp] at this))
  have HR2 := Lib.hid (hr2.setRow HG1.out (two_no_int _ _ _ _) #[.bool n2, v3])
  obtain ⟨⟨A3, c3, rfl, -⟩, -⟩ := hr2
  clear hb2
  generalize d2.length = k3 at *
  go_wp2_with (first
    | (with_reducible refine wpList_store_row rfl 49 (.tmp 2) (.tmp 6) rfl (w.heap.size + 1) #[.bool n2, .slice A3 k3 c3] rfl rfl 49 #[.bool false, .slice none 0 0] HG1.out (HI2.out _ _ _ _) rfl (two_one _ _ _ _) ?_))
  refine bodyPost_ret (results_cell_row (by rfl) _ _ (w.heap.size + 1) 49 #[.bool n2, .slice A3 k3 c3] (0, 0) _ (by rfl) (rheap_same HG1.out) Tryz.underlying49 rfl (HI2.out _ _ _ _)) rfl ⟨.slice A3 k3 c3, rfl, HR2.out, rBelow.setRow hb3 (by omega) _⟩

/-- What holds while the operations of 'x, y := Norm(p), Norm(q)' come up. -/
structure MI (w : World) (P Q : Array Value) (N1 N2 : Bool) (D1 D2 : List Nat) (b0 b1 b2 b3 b4 b5 b6 b7 : Bool) (x15 x16 x17 x18 x6 x7 : Value) (wx : World) : Prop where
  below : Below w.heap.size w wx
  v15 : b0 = true → x15 = .agg P
  v16 : b1 = true → ∃ v, x16 = .agg #[.bool N1, v] ∧ ResL wx v D1
  v17 : b2 = true → x17 = .agg Q
  v18 : b3 = true → ∃ v, x18 = .agg #[.bool N2, v] ∧ ResL wx v D2
  v6 : b4 = true → ∃ g n A k c, x6 = .pointer (some ⟨g, 0, none⟩) ∧ w.heap.size ≤ g ∧ wx.heap[g]? = some (.cells #[.bool n, .slice A k c] 49 (0, 0)) ∧ (b6 = true → x16 = .agg #[.bool n, .slice A k c])
  v7 : b5 = true → ∃ g n A k c, x7 = .pointer (some ⟨g, 0, none⟩) ∧ w.heap.size ≤ g ∧ wx.heap[g]? = some (.cells #[.bool n, .slice A k c] 49 (0, 0)) ∧ (b7 = true → x18 = .agg #[.bool n, .slice A k c])
  o6 : b6 = true → b4 = true ∧ b1 = true
  o7 : b7 = true → b5 = true ∧ b3 = true
  ne : b4 = true → b5 = true → x6 ≠ x7
def frameM (g : Nat) (P Q : Array Value) (x15 x16 x17 x18 x6 x7 : Value) : Act := { tmps := #[.agg P, .agg Q, .pointer (some ⟨g, 0, none⟩), .pointer (some ⟨g + 1, 0, none⟩), .pointer (some ⟨g + 1 + 1, 0, none⟩), .int .i64 0, x6, x7, undef, undef, undef, undef, undef, undef, undef, x15, x16, x17, x18, undef, undef, undef, undef, undef, undef, undef, undef, undef, undef, undef, undef, undef, undef, undef, undef, undef, undef, undef, undef, undef, undef, undef, undef, undef, undef, undef, undef, undef, undef, undef, undef, undef, undef, undef, undef, undef, undef, undef, undef, undef, undef, undef, undef, undef, undef, undef, undef], defers := [] }
def MInv (w : World) (g : Nat) (P Q : Array Value) (N1 N2 : Bool) (D1 D2 : List Nat) (l : Array Bool) (a : Act) (wx : World) : Prop :=
  ∃ b0 b1 b2 b3 b4 b5 b6 b7 x15 x16 x17 x18 x6 x7, l = #[b0, b1, b2, b3, b4, b5, b6, b7] ∧ a = frameM g P Q x15 x16 x17 x18 x6 x7 ∧ MI w P Q N1 N2 D1 D2 b0 b1 b2 b3 b4 b5 b6 b7 x15 x16 x17 x18 x6 x7 wx
theorem rheap_far {w : World} {g g' : Nat} {cs : Array Value} (h : g ≠ g') : (w.setRow g cs).heap[g']? = w.heap[g']? := by
  simp only [World.setRow, Array.getElem?_modify]
  rw [if_neg (by omega)]
theorem blk_lt {w : World} {g : Nat} {o : Obj} (h : w.heap[g]? = some o) : g < w.heap.size := by
  rcases Nat.lt_or_ge g w.heap.size with hl | hl
  · exact hl
  · rw [Array.getElem?_eq_none hl] at h; cases h
theorem mem_ready' {md : Region.Mode} {ops : Array Oper} {l : Array Bool} {i : Nat} (h : i < ops.size) (h1 : l.getD i true = false) (h2 : ((ops[i]?).map (·.after.all fun e => !Region.binds md e || l.getD e.on false)).getD false = true) : i ∈ Region.ready md ops l := by
  simp only [Region.ready, List.mem_filter, List.mem_range, Bool.and_eq_true, Bool.not_eq_true']
  exact ⟨h, h1, h2⟩
theorem ready_nil' {md : Region.Mode} {ops : Array Oper} {l : Array Bool} (hr : Region.ready md ops l = []) (i : Nat) (h : i < ops.size) (h2 : ((ops[i]?).map (·.after.all fun e => !Region.binds md e || l.getD e.on false)).getD false = true) : l.getD i true = true := by
  cases e : l.getD i true
  · have := mem_ready' h e h2
    rw [hr] at this; cases this
  · rfl
theorem results_cell_row_tmp {P : Program} {fn : Func} {p u : Tmp} {ty : TypeId} (h : fn.results = #[.cell p ty, .tmp u]) (tmps : Array Value) (w : World) (g : Nat) (t : TypeId) (cs : Array Value) (fr : Nat × Nat) (d : TypeDesc) (x : Value)
    (hp : tmps.getD p undef = .pointer (some ⟨g, 0, none⟩)) (hx : tmps.getD u undef = x) (hg : w.heap[g]? = some (.cells cs t fr))
    (hu : P.underlying ty = some d) (hd : (match d with | .struct _ | .array _ _ => true | _ => false) = true) (hi : (P.info? ty).map (·.size) = some cs.size) :
    (results fn tmps).run P w = .ok (.tuple #[.agg cs, x]) w := by
  have hp' : tmps[p]?.getD undef = .pointer (some ⟨g, 0, none⟩) := by simpa using hp
  have hx' : tmps[u]?.getD undef = x := by simpa using hx
  simp [results, h, hp', hx', asAddr, run_loadVar_row w g t ty cs fr d hg hu hd hi]
theorem isRes_nil (w : World) : IsRes w (.slice none 0 0) [] := ⟨none, 0, rfl, Nat.le_refl _, by omega, fun _ => rfl, .inl rfl⟩
/-- A number, and the error. -/
def MakeOut (w : World) (r : Rt.Nm × Int) (e : Ending) (w' : World) : Prop := ∃ t u, e = .returned (.tuple #[.agg #[.bool r.1.neg, t, u], .int .i64 r.2]) ∧ IsRes w' t r.1.top ∧ IsRes w' u r.1.bot ∧ Below w.heap.size w w'
theorem MakeOut.of {w w' : World} {r : Rt.Nm × Int} {e : Ending} {b : Bool} {t u : Value} {l l' : List Nat} {er : Int} (hr : r = (⟨b, l, l'⟩, er)) (he : e = .returned (.tuple #[.agg #[.bool b, t, u], .int .i64 er])) (h1 : IsRes w' t l) (h2 : IsRes w' u l') (h3 : Below w.heap.size w w') : MakeOut w r e w' := by
  subst hr; exact ⟨t, u, he, h1, h2, h3⟩

theorem make_any (n1 n2 : Bool) (v1 v2 : Value) (l1 l2 : List Nat) (w : World) (h1 : ResL w v1 l1) (h2 : ResL w v2 l2) :
    Calls Tryz.prog 26 #[.agg #[.bool n1, v1], .agg #[.bool n2, v2]] w (MakeOut w (Rt.mk n1 n2 (Nt.val l1) (Nt.val l2))) := by
  obtain ⟨W, hW⟩ : ∃ W, W = ((w.alloc (.cells #[.bool n1, v1] 49)).alloc (.cells #[.bool n2, v2] 49)).alloc (.cells #[.bool false, .slice none 0 0, .slice none 0 0] 26) := ⟨_, rfl⟩
  have hWs : W.heap.size = w.heap.size + 1 + 1 + 1 := by rw [hW]; simp
  have hWb : Below w.heap.size w W := by rw [hW]; exact (((Below.refl _ _).alloc (Nat.le_refl _) _).alloc (by simp) _).alloc (by simp; omega) _
  have hW0 : W.heap[w.heap.size]? = some (.cells #[.bool n1, v1] 49 (0, 0)) := by rw [hW]; exact (Below.heap_alloc _ _ _ (by simp; omega)).trans (heap_alloc2_old _ _ _)
  have hW1 : W.heap[w.heap.size + 1]? = some (.cells #[.bool n2, v2] 49 (0, 0)) := by rw [hW]; exact (Below.heap_alloc _ _ _ (by simp)).trans (heap_alloc2_new _ _ _)
  have hW2 : W.heap[w.heap.size + 1 + 1]? = some (.cells #[.bool false, .slice none 0 0, .slice none 0 0] 26 (0, 0)) := by
    rw [hW]
    have := heap_alloc_new ((w.alloc (.cells #[.bool n1, v1] 49)).alloc (.cells #[.bool n2, v2] 49)) (.cells #[.bool false, .slice none 0 0, .slice none 0 0] 26)
    rwa [show ((w.alloc (.cells #[.bool n1, v1] 49)).alloc (.cells #[.bool n2, v2] 49)).heap.size = w.heap.size + 1 + 1 by simp] at this
  have HN1 := Lib.hid (fun (wx : World) (hx : Below W.heap.size W wx) => norm3_any n1 v1 _ wx ((h1.below hWb).below hx))
  have HN2 := Lib.hid (fun (wx : World) (hx : Below W.heap.size W wx) => norm3_any n2 v2 _ wx ((h2.below hWb).below hx))
  have HW := Lib.hid hW
  have HW0 := Lib.hid hW0
  have HW1 := Lib.hid hW1
  have HW2 := Lib.hid hW2
  rw [← Rt.mk_nrm]
  obtain ⟨⟨A1, c1, rfl, -⟩, -⟩ := h1
  obtain ⟨⟨A2, c2, rfl, -⟩, -⟩ := h2
  generalize Rt.nrm n1 (Nt.val l1) = N1 at *
  generalize Rt.nrm n2 (Nt.val l2) = N2 at *
  generalize Nt.val l1 = X at *
  generalize Nt.val l2 = Y at *
  generalize l1.length = z1 at *
  generalize l2.length = z2 at *
  clear hW hW0 hW1 hW2
  go_enter Tryz.func26, Tryz.ntmps26
  go_wp2_with fail
  rw [← HW.out]
  have hWl : w.heap.size + 1 + 1 < W.heap.size := by omega
  have HWS := Lib.hid hWs
  clear hWs
  refine wp_region_any (by kernel_rfl) ?_
  refine wpAny_inv (MInv W w.heap.size #[.bool n1, .slice A1 z1 c1] #[.bool n2, .slice A2 z2 c2] N1 N2 (Nt.digs X) (Nt.digs Y)) ?_ ?_ 8 _ _ _ (by decide) ⟨false, false, false, false, false, false, false, false, undef, undef, undef, undef, undef, undef, rfl, rfl, ⟨⟨rfl, rfl, rfl, Nat.le_refl _, fun _ _ => rfl⟩, nofun, nofun, nofun, nofun, nofun, nofun, nofun, nofun, nofun⟩⟩
  · rintro _ _ wx ⟨b0, b1, b2, b3, b4, b5, b6, b7, x15, x16, x17, x18, x6, x7, rfl, rfl, hJ⟩ i hi
    obtain ⟨h8, hl, ha⟩ := ready_mem hi
    have h8' : i < 8 := h8
    clear h8 hi
    have hsz := hJ.below.size
    rcases (show i = 0 ∨ i = 1 ∨ i = 2 ∨ i = 3 ∨ i = 4 ∨ i = 5 ∨ i = 6 ∨ i = 7 by omega) with rfl | rfl | rfl | rfl | rfl | rfl | rfl | rfl
    · refine wpOp_at rfl rfl ?_
      refine wp_load_row 49 (.tmp 2) rfl w.heap.size rfl 49 #[.bool n1, .slice A1 z1 c1] (0, 0) _ ((hJ.below.block w.heap.size (by omega)).trans HW0.out) Tryz.underlying49 rfl int3_info ?_
      exact ⟨true, b1, b2, b3, b4, b5, b6, b7, _, x16, x17, x18, x6, x7, rfl, rfl, { hJ with v15 := fun _ => rfl }⟩
    · have h0 : b0 = true := by simpa [Region.binds] using ha
      subst h0
      have hb1 : b1 = false := hl
      subst hb1
      have hb6 : b6 = false := by
        cases b6
        · rfl
        · exact absurd (hJ.o6 rfl).2 (by decide)
      subst hb6
      obtain rfl := hJ.v15 rfl
      refine wpOp_at rfl rfl ?_
      unfold frameM Oper.wp
      go_simp
      refine ((HN1.out _ hJ.below).mono ?_)
      rintro e w2 ⟨v3, rfl, hr3, hb2⟩
      exact ⟨true, true, b2, b3, b4, b5, false, b7, _, _, x17, x18, x6, x7, rfl, rfl, { hJ with
        below := hJ.below.trans (hb2.mono hsz)
        v16 := fun _ => ⟨v3, rfl, hr3⟩
        v18 := fun h => by obtain ⟨v, e, r⟩ := hJ.v18 h; exact ⟨v, e, r.below hb2⟩
        v6 := fun h => by obtain ⟨g, n, A, k, c, q1, q2, q3, q4⟩ := hJ.v6 h; exact ⟨g, n, A, k, c, q1, q2, (hb2.block g (blk_lt q3)).trans q3, nofun⟩
        v7 := fun h => by obtain ⟨g, n, A, k, c, q1, q2, q3, q4⟩ := hJ.v7 h; exact ⟨g, n, A, k, c, q1, q2, (hb2.block g (blk_lt q3)).trans q3, q4⟩
        o6 := nofun }⟩
    · refine wpOp_at rfl rfl ?_
      refine wp_load_row 49 (.tmp 3) rfl (w.heap.size + 1) rfl 49 #[.bool n2, .slice A2 z2 c2] (0, 0) _ ((hJ.below.block (w.heap.size + 1) (by omega)).trans HW1.out) Tryz.underlying49 rfl int3_info ?_
      exact ⟨b0, b1, true, b3, b4, b5, b6, b7, x15, x16, _, x18, x6, x7, rfl, rfl, { hJ with v17 := fun _ => rfl }⟩
    · have h0 : b2 = true ∧ b1 = true := by simpa [Region.binds] using ha
      obtain ⟨rfl, rfl⟩ := h0
      have hb3 : b3 = false := hl
      subst hb3
      have hb7 : b7 = false := by
        cases b7
        · rfl
        · exact absurd (hJ.o7 rfl).2 (by decide)
      subst hb7
      obtain rfl := hJ.v17 rfl
      refine wpOp_at rfl rfl ?_
      unfold frameM Oper.wp
      go_simp
      refine ((HN2.out _ hJ.below).mono ?_)
      rintro e w2 ⟨v3, rfl, hr3, hb2⟩
      exact ⟨b0, true, true, true, b4, b5, b6, false, x15, x16, _, _, x6, x7, rfl, rfl, { hJ with
        below := hJ.below.trans (hb2.mono hsz)
        v18 := fun _ => ⟨v3, rfl, hr3⟩
        v16 := fun h => by obtain ⟨v, e, r⟩ := hJ.v16 h; exact ⟨v, e, r.below hb2⟩
        v6 := fun h => by obtain ⟨g, n, A, k, c, q1, q2, q3, q4⟩ := hJ.v6 h; exact ⟨g, n, A, k, c, q1, q2, (hb2.block g (blk_lt q3)).trans q3, q4⟩
        v7 := fun h => by obtain ⟨g, n, A, k, c, q1, q2, q3, q4⟩ := hJ.v7 h; exact ⟨g, n, A, k, c, q1, q2, (hb2.block g (blk_lt q3)).trans q3, nofun⟩
        o7 := nofun }⟩
    · have hb4 : b4 = false := hl
      subst hb4
      have hb6 : b6 = false := by
        cases b6
        · rfl
        · exact absurd (hJ.o6 rfl).1 (by decide)
      subst hb6
      refine wpOp_at rfl rfl ?_
      unfold frameM Oper.wp
      go_simp
      have hba : Below wx.heap.size wx (wx.alloc (.cells #[.bool false, .slice none 0 0] 49)) := (Below.refl _ _).alloc (Nat.le_refl _) _
      exact ⟨b0, b1, b2, b3, true, b5, false, b7, x15, x16, x17, x18, _, x7, rfl, rfl, { hJ with
        below := hJ.below.alloc hsz _
        v16 := fun h => by obtain ⟨v, e, r⟩ := hJ.v16 h; exact ⟨v, e, r.below hba⟩
        v18 := fun h => by obtain ⟨v, e, r⟩ := hJ.v18 h; exact ⟨v, e, r.below hba⟩
        v6 := fun _ => ⟨wx.heap.size, false, none, 0, 0, rfl, hsz, heap_alloc_new _ _, nofun⟩
        v7 := fun h => by obtain ⟨g, n, A, k, c, q1, q2, q3, q4⟩ := hJ.v7 h; exact ⟨g, n, A, k, c, q1, q2, (hba.block g (blk_lt q3)).trans q3, q4⟩
        o6 := nofun
        ne := fun _ h => by
          obtain ⟨g, n, A, k, c, q1, q2, q3, q4⟩ := hJ.v7 h
          have := blk_lt q3
          rw [q1]; intro e; injection e with e; injection e with e; injection e with e; omega }⟩
    · have hb5 : b5 = false := hl
      subst hb5
      have hb7 : b7 = false := by
        cases b7
        · rfl
        · exact absurd (hJ.o7 rfl).1 (by decide)
      subst hb7
      refine wpOp_at rfl rfl ?_
      unfold frameM Oper.wp
      go_simp
      have hba : Below wx.heap.size wx (wx.alloc (.cells #[.bool false, .slice none 0 0] 49)) := (Below.refl _ _).alloc (Nat.le_refl _) _
      exact ⟨b0, b1, b2, b3, b4, true, b6, false, x15, x16, x17, x18, x6, _, rfl, rfl, { hJ with
        below := hJ.below.alloc hsz _
        v16 := fun h => by obtain ⟨v, e, r⟩ := hJ.v16 h; exact ⟨v, e, r.below hba⟩
        v18 := fun h => by obtain ⟨v, e, r⟩ := hJ.v18 h; exact ⟨v, e, r.below hba⟩
        v7 := fun _ => ⟨wx.heap.size, false, none, 0, 0, rfl, hsz, heap_alloc_new _ _, nofun⟩
        v6 := fun h => by obtain ⟨g, n, A, k, c, q1, q2, q3, q4⟩ := hJ.v6 h; exact ⟨g, n, A, k, c, q1, q2, (hba.block g (blk_lt q3)).trans q3, q4⟩
        o7 := nofun
        ne := fun h _ => by
          obtain ⟨g, n, A, k, c, q1, q2, q3, q4⟩ := hJ.v6 h
          have := blk_lt q3
          rw [q1]; intro e; injection e with e; injection e with e; injection e with e; omega }⟩
    · have h0 : b4 = true ∧ b1 = true ∧ b3 = true ∧ b0 = true ∧ b1 = true ∧ b4 = true ∧ b5 = true := by simpa [Region.binds] using ha
      obtain ⟨rfl, rfl, rfl, rfl, -, -, rfl⟩ := h0
      have hb6 : b6 = false := hl
      subst hb6
      obtain ⟨g, n, A, k, c, rfl, q2, q3, q4⟩ := hJ.v6 rfl
      obtain ⟨g', n', A', k', c', rfl, q2', q3', q4'⟩ := hJ.v7 rfl
      have hne : g ≠ g' := fun e => hJ.ne rfl rfl (by rw [e])
      obtain ⟨v, rfl, hr⟩ := hJ.v16 rfl
      obtain ⟨v', rfl, hr'⟩ := hJ.v18 rfl
      have hrs := hr.setRow q3 (two_no_int _ _ _ _) #[.bool N1, v]
      have hrs' := hr'.setRow q3 (two_no_int _ _ _ _) #[.bool N1, v]
      obtain ⟨⟨A3, c3, rfl, -⟩, -⟩ := hr
      refine wpOp_at rfl rfl ?_
      refine wp_store_row 49 (.tmp 6) (.tmp 16) rfl g #[.bool N1, .slice A3 (Nt.digs X).length c3] rfl rfl 49 _ q3 int3_info rfl (two_one _ _ _ _) ?_
      exact ⟨true, true, b2, true, true, true, true, b7, x15, _, x17, _, _, _, rfl, rfl, { hJ with
        below := rBelow.setRow hJ.below q2 _
        v16 := fun _ => ⟨_, rfl, hrs⟩
        v18 := fun _ => ⟨v', rfl, hrs'⟩
        v6 := fun _ => ⟨g, _, _, _, _, rfl, q2, rheap_same q3, fun _ => rfl⟩
        v7 := fun _ => ⟨g', n', A', k', c', rfl, q2', (rheap_far hne).trans q3', q4'⟩
        o6 := fun _ => ⟨rfl, rfl⟩ }⟩
    · have h0 : b5 = true ∧ b3 = true ∧ b6 = true ∧ b0 = true ∧ b1 = true ∧ b2 = true ∧ b3 = true ∧ b4 = true ∧ b5 = true ∧ b6 = true := by simpa [Region.binds] using ha
      obtain ⟨rfl, rfl, rfl, rfl, rfl, rfl, -, rfl, -, -⟩ := h0
      have hb7 : b7 = false := hl
      subst hb7
      obtain ⟨g, n, A, k, c, rfl, q2, q3, q4⟩ := hJ.v6 rfl
      obtain ⟨g', n', A', k', c', rfl, q2', q3', q4'⟩ := hJ.v7 rfl
      have hne : g' ≠ g := fun e => hJ.ne rfl rfl (by rw [e])
      obtain ⟨v, rfl, hr⟩ := hJ.v16 rfl
      obtain ⟨v', rfl, hr'⟩ := hJ.v18 rfl
      have hrs := hr.setRow q3' (two_no_int _ _ _ _) #[.bool N2, v']
      have hrs' := hr'.setRow q3' (two_no_int _ _ _ _) #[.bool N2, v']
      obtain ⟨⟨A3, c3, rfl, -⟩, -⟩ := hr'
      refine wpOp_at rfl rfl ?_
      refine wp_store_row 49 (.tmp 7) (.tmp 18) rfl g' #[.bool N2, .slice A3 (Nt.digs Y).length c3] rfl rfl 49 _ q3' int3_info rfl (two_one _ _ _ _) ?_
      exact ⟨true, true, true, true, true, true, true, true, x15, _, x17, _, _, _, rfl, rfl, { hJ with
        below := rBelow.setRow hJ.below q2' _
        v16 := fun _ => ⟨v, rfl, hrs⟩
        v18 := fun _ => ⟨_, rfl, hrs'⟩
        v7 := fun _ => ⟨g', _, _, _, _, rfl, q2', rheap_same q3', fun _ => rfl⟩
        v6 := fun _ => ⟨g, n, A, k, c, rfl, q2, (rheap_far hne).trans q3, q4⟩
        o7 := fun _ => ⟨rfl, rfl⟩ }⟩
  · rintro _ _ wx ⟨b0, b1, b2, b3, b4, b5, b6, b7, x15, x16, x17, x18, x6, x7, rfl, rfl, hJ⟩ hr
    have e0 : b0 = true := ready_nil' hr 0 (by decide) (by simp [Region.binds])
    subst e0
    have e1 : b1 = true := ready_nil' hr 1 (by decide) (by simp [Region.binds])
    subst e1
    have e2 : b2 = true := ready_nil' hr 2 (by decide) (by simp [Region.binds])
    subst e2
    have e3 : b3 = true := ready_nil' hr 3 (by decide) (by simp [Region.binds])
    subst e3
    have e4 : b4 = true := ready_nil' hr 4 (by decide) (by simp [Region.binds])
    subst e4
    have e5 : b5 = true := ready_nil' hr 5 (by decide) (by simp [Region.binds])
    subst e5
    have e6 : b6 = true := ready_nil' hr 6 (by decide) (by simp [Region.binds])
    subst e6
    have e7 : b7 = true := ready_nil' hr 7 (by decide) (by simp [Region.binds])
    subst e7
    clear hr
    obtain ⟨g, n, A, k, c, rfl, q2, q3, q4⟩ := hJ.v6 rfl
    obtain ⟨g', n', A', k', c', rfl, q2', q3', q4'⟩ := hJ.v7 rfl
    have hne : g ≠ g' := fun e => hJ.ne rfl rfl (by rw [e])
    obtain ⟨v, rfl, hr1⟩ := hJ.v16 rfl
    obtain ⟨v', rfl, hr2⟩ := hJ.v18 rfl
    have e := q4 rfl
    simp at e
    obtain ⟨e, rfl⟩ := e
    subst e
    have e := q4' rfl
    simp at e
    obtain ⟨e, rfl⟩ := e
    subst e
    have hxb := hJ.below
    have hxs := hxb.size
    have p0 : wx.cell? ⟨g, 0, none⟩ = some (.bool N1) := (cell_of_row wx g 0 _ _ _ q3).trans rfl
    have p1 : wx.cell? ⟨g, 1, none⟩ = some (.slice A k c) := (cell_of_row wx g 1 _ _ _ q3).trans rfl
    have p0' : wx.cell? ⟨g', 0, none⟩ = some (.bool N2) := (cell_of_row wx g' 0 _ _ _ q3').trans rfl
    have p1' : wx.cell? ⟨g', 1, none⟩ = some (.slice A' k' c') := (cell_of_row wx g' 1 _ _ _ q3').trans rfl
    have hgl := blk_lt q3
    have hgl' := blk_lt q3'
    have HR1 := Lib.hid hr1
    have HR2 := Lib.hid hr2
    clear hJ hr1 hr2 q3 q3' q4 q4' HN1 HN2
    obtain ⟨hd1, o1, s1⟩ := HR1.out
    obtain ⟨hd2, o2, s2⟩ := HR2.out
    have f1 : k = (Nt.digs X).length := by obtain ⟨_, _, e, _⟩ := hd1; injection e
    have f2 : k' = (Nt.digs Y).length := by obtain ⟨_, _, e, _⟩ := hd2; injection e
    have s1' : k ≤ 64 := by omega
    have s2' : k' ≤ 64 := by omega
    have HD1 := Lib.hid hd1
    have HD2 := Lib.hid hd2
    have HY0 : Hid (k' = 0 ↔ Y = 0) := Lib.hid (by rw [f2, List.length_eq_zero_iff, Nt.digs_nil_iff])
    have HF := Lib.hid (And.intro f1 f2)
    clear f1 f2 hd1 hd2
    unfold frameM
    have HI3 : Hid (∀ (b : Bool) (A : Option Addr) (k c : Nat) (A' : Option Addr) (k' c' : Nat), (Tryz.prog.info? 26).map (·.size) = some (#[.bool b, .slice A k c, .slice A' k' c'] : Array Value).size) := Lib.hid (fun _ _ _ _ _ _ _ => num_info)
    have hxw : Below w.heap.size w wx := hWb.trans (hxb.mono (by omega))
    have HGA := Lib.hid ((hxb.block (w.heap.size + 1 + 1) (by omega)).trans HW2.out)
    by_cases hk0 : k' = 0
    · have hz : ((k' : Int) == 0) = true := by rw [hk0]; rfl
      have HK0 := Lib.hid (HY0.out.1 hk0)
      clear hk0
      go_wp2_with (first
        | (with_reducible refine wpList_store_row rfl 26 (.tmp 4) (.tmp 23) rfl (w.heap.size + 1 + 1) #[.bool false, .slice none 0 0, .slice none 0 0] rfl rfl 26 #[.bool false, .slice none 0 0, .slice none 0 0] HGA.out (HI3.out _ _ _ _ _ _ _) rfl (three_one _ _ _ _ _ _ _) ?_))
      refine bodyPost_ret (results_cell_row_tmp (by rfl) _ _ (w.heap.size + 1 + 1) 26 #[.bool false, .slice none 0 0, .slice none 0 0] (0, 0) _ _ (by rfl) (by rfl) (rheap_same HGA.out) Tryz.underlying26 rfl (HI3.out _ _ _ _ _ _ _)) rfl (MakeOut.of (by unfold Rt.mk; rw [if_pos HK0.out]; rfl) rfl (isRes_nil _) (isRes_nil _) (rBelow.setRow hxw (by omega) _))
    · have hz : ((k' : Int) == 0) = false := beq_eq_false_iff_ne.2 (by omega)
      have HY1 : Hid (Y ≠ 0) := Lib.hid (fun h => hk0 (HY0.out.2 h))
      have hgl64 := Nt.gcd_len o1 o2 s1 s2
      have GC := Lib.hid (refGcd64_any (.slice A k c) (.slice A' k' c') (Nt.digs X) (Nt.digs Y) wx HD1.out HD2.out o1 o2 s1 s2)
      have HOG := Lib.hid (Nt.ok_digs (Nat.gcd (Nt.val (Nt.digs X)) (Nt.val (Nt.digs Y))))
      have HGV : Hid (Nt.val (Nt.digs (Nat.gcd (Nt.val (Nt.digs X)) (Nt.val (Nt.digs Y)))) = Nat.gcd X Y) := Lib.hid (by rw [Nt.val_digs, Nt.val_digs, Nt.val_digs])
      generalize Nt.digs (Nat.gcd (Nt.val (Nt.digs X)) (Nt.val (Nt.digs Y))) = gd at *
      clear hk0
      go_wp2_with fail
      refine GC.out.mono ?_
      rintro e w3 ⟨v3, rfl, hr3, hb3⟩
      have r0 : w3.cell? ⟨g, 0, none⟩ = some (.bool N1) := (hb3.cell (p := ⟨g, 0, none⟩) hgl).trans p0
      have r1 : w3.cell? ⟨g, 1, none⟩ = some (.slice A k c) := (hb3.cell (p := ⟨g, 1, none⟩) hgl).trans p1
      have r0' : w3.cell? ⟨g', 0, none⟩ = some (.bool N2) := (hb3.cell (p := ⟨g', 0, none⟩) hgl').trans p0'
      have r1' : w3.cell? ⟨g', 1, none⟩ = some (.slice A' k' c') := (hb3.cell (p := ⟨g', 1, none⟩) hgl').trans p1'
      have DM := Lib.hid (rDivMod_res (w0 := w3) (HD1.out.below hb3) hr3 o1 HOG.out (by omega) (by omega) (Below.refl _ _))
      clear p0 p1 p0' p1' GC
      go_wp2_with fail
      refine DM.out.mono ?_
      rintro e w4 ⟨u1, u2, rfl, t1, t2, hb4, -⟩
      have hs3 := hb3.size
      have r0 : w4.cell? ⟨g, 0, none⟩ = some (.bool N1) := (hb4.cell (p := ⟨g, 0, none⟩) (show g < _ by omega)).trans r0
      have r0' : w4.cell? ⟨g', 0, none⟩ = some (.bool N2) := (hb4.cell (p := ⟨g', 0, none⟩) (show g' < _ by omega)).trans r0'
      have r1' : w4.cell? ⟨g', 1, none⟩ = some (.slice A' k' c') := (hb4.cell (p := ⟨g', 1, none⟩) (show g' < _ by omega)).trans r1'
      have DN := Lib.hid (rDivMod_res (w0 := w4) ((HD2.out.below hb3).below hb4) (hr3.below hb4) o2 HOG.out (by omega) (by omega) (Below.refl _ _))
      clear DM
      go_wp2_with fail
      refine DN.out.mono ?_
      rintro e w5 ⟨u3, u4, rfl, t3, t4, hb5, -⟩
      have hs4 := hb4.size
      have hs5 := hb5.size
      have r0 : w5.cell? ⟨g, 0, none⟩ = some (.bool N1) := (hb5.cell (p := ⟨g, 0, none⟩) (show g < _ by omega)).trans r0
      have r0' : w5.cell? ⟨g', 0, none⟩ = some (.bool N2) := (hb5.cell (p := ⟨g', 0, none⟩) (show g' < _ by omega)).trans r0'
      have HGB := Lib.hid ((hb5.block (w.heap.size + 1 + 1) (by omega)).trans ((hb4.block (w.heap.size + 1 + 1) (by omega)).trans ((hb3.block (w.heap.size + 1 + 1) (by omega)).trans HGA.out)))
      have hbw : Below w.heap.size w w5 := ((hxw.trans (hb3.mono (by omega))).trans (hb4.mono (by omega))).trans (hb5.mono (by omega))
      have HT1 := Lib.hid (t1.below hb5)
      have HT3 := Lib.hid t3
      clear t1 t2 t3 t4 hr3 DN
      obtain ⟨e1, he1⟩ : ∃ e1, e1 = Nt.digs (Nt.quo (Nt.val (Nt.digs X)) (Nt.val gd)) := ⟨_, rfl⟩
      obtain ⟨e2, he2⟩ : ∃ e2, e2 = Nt.digs (Nt.quo (Nt.val (Nt.digs Y)) (Nt.val gd)) := ⟨_, rfl⟩
      rw [← he1] at HT1
      rw [← he2] at HT3
      rw [HGV.out, Nt.val_digs] at he1 he2
      have HE1 : Hid (e1 = Nt.digs (X / Nat.gcd X Y)) := Lib.hid he1
      have HE2 : Hid (e2 = Nt.digs (Y / Nat.gcd X Y)) := Lib.hid he2
      have HX0 : Hid (e1.length = 0 ↔ X = 0) := Lib.hid (by rw [he1, List.length_eq_zero_iff, Nt.digs_nil_iff]; exact Rt.div_gcd_zero HY1.out)
      clear he1 he2
      obtain ⟨B1, a1, rfl, y1, y2, -⟩ := HT1.out
      obtain ⟨B2, a2, rfl, y3, y4, -⟩ := HT3.out
      by_cases h32 : 32 < e1.length
      · have g1 : decide ((32 : Int) < (e1.length : Int)) = true := by simp; omega
        go_wp2_with (first
          | (with_reducible refine wpList_store_row rfl 26 (.tmp 4) (.tmp 53) rfl (w.heap.size + 1 + 1) #[.bool false, .slice none 0 0, .slice none 0 0] rfl rfl 26 #[.bool false, .slice none 0 0, .slice none 0 0] HGB.out (HI3.out _ _ _ _ _ _ _) rfl (three_one _ _ _ _ _ _ _) ?_))
        refine bodyPost_ret (results_cell_row_tmp (by rfl) _ _ (w.heap.size + 1 + 1) 26 #[.bool false, .slice none 0 0, .slice none 0 0] (0, 0) _ _ (by rfl) (by rfl) (rheap_same HGB.out) Tryz.underlying26 rfl (HI3.out _ _ _ _ _ _ _)) rfl (MakeOut.of (by unfold Rt.mk; rw [if_neg HY1.out, ← HE1.out, ← HE2.out, if_pos (by omega)]; rfl) rfl (isRes_nil _) (isRes_nil _) (rBelow.setRow hbw (by omega) _))
      · by_cases h33 : 32 < e2.length
        · have g1 : decide ((32 : Int) < (e1.length : Int)) = false := by simp; omega
          have g2 : decide ((32 : Int) < (e2.length : Int)) = true := by simp; omega
          go_wp2_with (first
            | (with_reducible refine wpList_store_row rfl 26 (.tmp 4) (.tmp 53) rfl (w.heap.size + 1 + 1) #[.bool false, .slice none 0 0, .slice none 0 0] rfl rfl 26 #[.bool false, .slice none 0 0, .slice none 0 0] HGB.out (HI3.out _ _ _ _ _ _ _) rfl (three_one _ _ _ _ _ _ _) ?_))
          refine bodyPost_ret (results_cell_row_tmp (by rfl) _ _ (w.heap.size + 1 + 1) 26 #[.bool false, .slice none 0 0, .slice none 0 0] (0, 0) _ _ (by rfl) (by rfl) (rheap_same HGB.out) Tryz.underlying26 rfl (HI3.out _ _ _ _ _ _ _)) rfl (MakeOut.of (by unfold Rt.mk; rw [if_neg HY1.out, ← HE1.out, ← HE2.out, if_pos (by omega)]; rfl) rfl (isRes_nil _) (isRes_nil _) (rBelow.setRow hbw (by omega) _))
        · have g1 : decide ((32 : Int) < (e1.length : Int)) = false := by simp; omega
          have g2 : decide ((32 : Int) < (e2.length : Int)) = false := by simp; omega
          by_cases h34 : 0 < e1.length
          · have g3 : decide ((0 : Int) < (e1.length : Int)) = true := decide_eq_true (by omega)
            have HXB : Hid ((X == 0) = false) := Lib.hid (by have := HX0.out; simp; omega)
            cases N1
            · cases N2
              · skip
                go_wp2_with (first
                  | (with_reducible refine wpList_store_row rfl 26 (.tmp 4) (.tmp 66) rfl (w.heap.size + 1 + 1) #[.bool false, .slice B1 e1.length a1, .slice B2 e2.length a2] rfl rfl 26 #[.bool false, .slice none 0 0, .slice none 0 0] HGB.out (HI3.out _ _ _ _ _ _ _) rfl (three_one _ _ _ _ _ _ _) ?_))
                refine bodyPost_ret (results_cell_row_tmp (by rfl) _ _ (w.heap.size + 1 + 1) 26 #[.bool false, .slice B1 e1.length a1, .slice B2 e2.length a2] (0, 0) _ _ (by rfl) (by rfl) (rheap_same HGB.out) Tryz.underlying26 rfl (HI3.out _ _ _ _ _ _ _)) rfl (MakeOut.of (by unfold Rt.mk; rw [if_neg HY1.out, ← HE1.out, ← HE2.out, if_neg (by omega), HXB.out]; rfl) rfl (HT1.out.setRow HGB.out (three_no_int _ _ _ _ _ _ _) _) (HT3.out.setRow HGB.out (three_no_int _ _ _ _ _ _ _) _) (rBelow.setRow hbw (by omega) _))
              · skip
                go_wp2_with (first
                  | (with_reducible refine wpList_store_row rfl 26 (.tmp 4) (.tmp 66) rfl (w.heap.size + 1 + 1) #[.bool true, .slice B1 e1.length a1, .slice B2 e2.length a2] rfl rfl 26 #[.bool false, .slice none 0 0, .slice none 0 0] HGB.out (HI3.out _ _ _ _ _ _ _) rfl (three_one _ _ _ _ _ _ _) ?_))
                refine bodyPost_ret (results_cell_row_tmp (by rfl) _ _ (w.heap.size + 1 + 1) 26 #[.bool true, .slice B1 e1.length a1, .slice B2 e2.length a2] (0, 0) _ _ (by rfl) (by rfl) (rheap_same HGB.out) Tryz.underlying26 rfl (HI3.out _ _ _ _ _ _ _)) rfl (MakeOut.of (by unfold Rt.mk; rw [if_neg HY1.out, ← HE1.out, ← HE2.out, if_neg (by omega), HXB.out]; rfl) rfl (HT1.out.setRow HGB.out (three_no_int _ _ _ _ _ _ _) _) (HT3.out.setRow HGB.out (three_no_int _ _ _ _ _ _ _) _) (rBelow.setRow hbw (by omega) _))
            · cases N2
              · skip
                go_wp2_with (first
                  | (with_reducible refine wpList_store_row rfl 26 (.tmp 4) (.tmp 66) rfl (w.heap.size + 1 + 1) #[.bool true, .slice B1 e1.length a1, .slice B2 e2.length a2] rfl rfl 26 #[.bool false, .slice none 0 0, .slice none 0 0] HGB.out (HI3.out _ _ _ _ _ _ _) rfl (three_one _ _ _ _ _ _ _) ?_))
                refine bodyPost_ret (results_cell_row_tmp (by rfl) _ _ (w.heap.size + 1 + 1) 26 #[.bool true, .slice B1 e1.length a1, .slice B2 e2.length a2] (0, 0) _ _ (by rfl) (by rfl) (rheap_same HGB.out) Tryz.underlying26 rfl (HI3.out _ _ _ _ _ _ _)) rfl (MakeOut.of (by unfold Rt.mk; rw [if_neg HY1.out, ← HE1.out, ← HE2.out, if_neg (by omega), HXB.out]; rfl) rfl (HT1.out.setRow HGB.out (three_no_int _ _ _ _ _ _ _) _) (HT3.out.setRow HGB.out (three_no_int _ _ _ _ _ _ _) _) (rBelow.setRow hbw (by omega) _))
              · skip
                go_wp2_with (first
                  | (with_reducible refine wpList_store_row rfl 26 (.tmp 4) (.tmp 66) rfl (w.heap.size + 1 + 1) #[.bool false, .slice B1 e1.length a1, .slice B2 e2.length a2] rfl rfl 26 #[.bool false, .slice none 0 0, .slice none 0 0] HGB.out (HI3.out _ _ _ _ _ _ _) rfl (three_one _ _ _ _ _ _ _) ?_))
                refine bodyPost_ret (results_cell_row_tmp (by rfl) _ _ (w.heap.size + 1 + 1) 26 #[.bool false, .slice B1 e1.length a1, .slice B2 e2.length a2] (0, 0) _ _ (by rfl) (by rfl) (rheap_same HGB.out) Tryz.underlying26 rfl (HI3.out _ _ _ _ _ _ _)) rfl (MakeOut.of (by unfold Rt.mk; rw [if_neg HY1.out, ← HE1.out, ← HE2.out, if_neg (by omega), HXB.out]; rfl) rfl (HT1.out.setRow HGB.out (three_no_int _ _ _ _ _ _ _) _) (HT3.out.setRow HGB.out (three_no_int _ _ _ _ _ _ _) _) (rBelow.setRow hbw (by omega) _))
          · have g3 : decide ((0 : Int) < (e1.length : Int)) = false := decide_eq_false (by omega)
            have HXB : Hid ((X == 0) = true) := Lib.hid (by have := HX0.out; simp; omega)
            go_wp2_with (first
              | (with_reducible refine wpList_store_row rfl 26 (.tmp 4) (.tmp 66) rfl (w.heap.size + 1 + 1) #[.bool false, .slice B1 e1.length a1, .slice B2 e2.length a2] rfl rfl 26 #[.bool false, .slice none 0 0, .slice none 0 0] HGB.out (HI3.out _ _ _ _ _ _ _) rfl (three_one _ _ _ _ _ _ _) ?_))
            refine bodyPost_ret (results_cell_row_tmp (by rfl) _ _ (w.heap.size + 1 + 1) 26 #[.bool false, .slice B1 e1.length a1, .slice B2 e2.length a2] (0, 0) _ _ (by rfl) (by rfl) (rheap_same HGB.out) Tryz.underlying26 rfl (HI3.out _ _ _ _ _ _ _)) rfl (MakeOut.of (by unfold Rt.mk; rw [if_neg HY1.out, ← HE1.out, ← HE2.out, if_neg (by omega), HXB.out]; rfl) rfl (HT1.out.setRow HGB.out (three_no_int _ _ _ _ _ _ _) _) (HT3.out.setRow HGB.out (three_no_int _ _ _ _ _ _ _) _) (rBelow.setRow hbw (by omega) _))
end Go.Proofs.YtfiefglagknclaaGreatDoor

/-
  scrimref03.Of: a whole number of an int; scrimref02.Mul, Add of numbers that calls handed back.
-/
namespace Go.Proofs.YtfiefglagknclaaGreatDoor
open Go.RowKit
set_option maxHeartbeats 2000000
set_option maxRecDepth 100000
set_option linter.unusedVariables false

theorem rMul_res {w : World} {v1 v2 : Value} {l1 l2 : List Nat} (h1 : IsRes w v1 l1) (h2 : IsRes w v2 l2) (o1 : Nt.Ok l1) (o2 : Nt.Ok l2) (s1 : l1.length ≤ 1000000) (s2 : l2.length ≤ 1000000) :
    Calls Tryz.prog 56 #[v1, v2] w fun e w' => ∃ v, e = .returned v ∧ IsRes w' v (Nt.digs (Nt.val l1 * Nt.val l2)) ∧ Below w.heap.size w w' := by
  obtain ⟨A, c, rfl, a1, a2, a3, a4⟩ := h1
  obtain ⟨A', c', rfl, b1, b2, b3, b4⟩ := h2
  exact refMul_any A A' c c' w.heap.size l1 l2 w a4 b4 (Nat.le_refl _) o1 o2 a1 b1 a2 b2 s1 s2
theorem rAdd_res {w : World} {v1 v2 : Value} {l1 l2 : List Nat} (h1 : IsRes w v1 l1) (h2 : IsRes w v2 l2) (o1 : Nt.Ok l1) (o2 : Nt.Ok l2) (s1 : l1.length ≤ 1000000) (s2 : l2.length ≤ 1000000) :
    Calls Tryz.prog 40 #[v1, v2] w fun e w' => ∃ v, e = .returned v ∧ IsRes w' v (Nt.digs (Nt.val l1 + Nt.val l2)) ∧ Below w.heap.size w w' := by
  obtain ⟨A, c, rfl, a1, a2, a3, a4⟩ := h1
  obtain ⟨A', c', rfl, b1, b2, b3, b4⟩ := h2
  exact refAdd_any A A' c c' w.heap.size l1 l2 w a4 b4 (Nat.le_refl _) o1 o2 a1 b1 a2 b2 (by omega) (by omega)
theorem isRes_new (w : World) (l : List Nat) (h : l.length ≤ 1000) : IsRes (w.alloc (.cells (U l).toArray 22)) (.slice (some ⟨w.heap.size, 0, none⟩) l.length l.length) l :=
  ⟨_, _, rfl, Nat.le_refl _, by omega, (fun h => by cases h), by
    have := Lies.new w (U l) 22
    exact this.more (by simp)⟩
theorem ok_two {a b : Nat} (h1 : a < 4294967296) (h2 : b < 4294967296) : Nt.Ok [a, b] := by
  intro d hd
  rcases List.mem_cons.1 hd with rfl | hd
  · exact h1
  · rw [List.mem_singleton] at hd; subst hd; exact h2
theorem val_two (n : Nat) : Nt.val [n % 4294967296, n / 4294967296] = n := by simp [Nt.val]; omega

theorem refOfInt_any (n : Int) (w : World) (h1 : -9223372036854775808 ≤ n) (h2 : n ≤ 9223372036854775807) :
    Calls Tryz.prog 20 #[.int .i64 n] w (Int3Out w (decide (n < 0)) (Nt.digs n.natAbs)) := by
  have HI2 : Hid (∀ (b : Bool) (A : Option Addr) (k c : Nat), (Tryz.prog.info? 49).map (·.size) = some (#[.bool b, .slice A k c] : Array Value).size) := Lib.hid (fun _ _ _ _ => int3_info)
  obtain ⟨w1, hw1⟩ : ∃ w1, w1 = w.alloc (.cells #[.bool false, .slice none 0 0] 49) := ⟨_, rfl⟩
  have hb1 : Below w.heap.size w w1 := by rw [hw1]; exact (Below.refl _ _).alloc (Nat.le_refl _) _
  have HG1 : Hid (w1.heap[w.heap.size]? = some (.cells #[.bool false, .slice none 0 0] 49 (0, 0))) := Lib.hid (by rw [hw1]; exact heap_alloc_new w _)
  have HW1 := Lib.hid hw1
  have HS1 : Hid (w1.heap.size = w.heap.size + 1) := Lib.hid (by rw [hw1]; simp)
  clear hw1
  by_cases hn : 0 ≤ n
  · obtain ⟨m, rfl⟩ : ∃ m : Nat, n = (m : Int) := ⟨n.toNat, by omega⟩
    have hm1 : m % 4294967296 < 4294967296 := by omega
    have hm2 : m / 4294967296 < 4294967296 := by omega
    obtain ⟨w2, hw2⟩ : ∃ w2, w2 = w1.alloc (.cells #[.int .u32 ((m % 4294967296 : Nat) : Int), .int .u32 ((m / 4294967296 : Nat) : Int)] 22) := ⟨_, rfl⟩
    have hr : IsRes w2 (.slice (some ⟨w1.heap.size, 0, none⟩) 2 2) [m % 4294967296, m / 4294967296] := by rw [hw2]; exact isRes_new w1 [m % 4294967296, m / 4294967296] (by simp)
    have NM := norm3_any false _ _ w2 ⟨hr, ok_two hm1 hm2, by show 2 ≤ 64; decide⟩
    rw [val_two] at NM
    have hnn : Rt.nrm false m = false := by unfold Rt.nrm; simp
    rw [hnn, HS1.out] at NM
    have HP : Hid (decide ((m : Int) < 0) = false) := Lib.hid (decide_eq_false (by omega))
    have HM : Hid ((m : Int).natAbs = m) := Lib.hid (by omega)
    have hb2 : Below w.heap.size w w2 := by rw [hw2]; exact hb1.alloc hb1.size _
    have HG2 : Hid (w2.heap[w.heap.size]? = some (.cells #[.bool false, .slice none 0 0] 49 (0, 0))) := Lib.hid (by rw [hw2]; exact (Below.heap_alloc _ _ _ (blk_lt HG1.out)).trans HG1.out)
    have HNM := Lib.hid NM
    have HW2 : Hid (w2 = w1.alloc (.cells #[.int .u32 ((m : Int) % 4294967296), .int .u32 ((m : Int) / 4294967296)] 22)) := Lib.hid (by rw [hw2]; simp)
    have e1 : (m : Int) % 4294967296 < 4294967296 := by omega
    have e2 : (m : Int) / 4294967296 < 4294967296 := by omega
    have e3 : 0 ≤ (m : Int) % 4294967296 := by omega
    have e4 : 0 ≤ (m : Int) / 4294967296 := by omega
    clear hw2 NM hnn hr hm1 hm2
    go_enter Tryz.func20, Tryz.ntmps20
    go_wp2_with fail
    rw [← HW1.out, ← HW2.out]
    (with_reducible refine HNM.out.mono ?_)
    rintro e w3 ⟨v3, rfl, hr3, hb3⟩
    have HG3 := Lib.hid ((hb3.block w.heap.size (blk_lt HG2.out)).trans HG2.out)
    have hbw3 := hb2.trans (hb3.mono hb2.size)
    have HR3 := Lib.hid (hr3.setRow HG3.out (two_no_int _ _ _ _) #[.bool false, v3])
    obtain ⟨⟨A3, c3, rfl, -⟩, -⟩ := hr3
    clear hb3 hb1 hb2 HNM
    go_wp2_with (with_reducible refine wpList_store_row rfl 49 (.tmp 2) (.tmp 14) rfl w.heap.size #[.bool false, .slice A3 (Nt.digs m).length c3] rfl rfl 49 #[.bool false, .slice none 0 0] HG3.out (HI2.out _ _ _ _) rfl (two_one _ _ _ _) ?_)
    refine bodyPost_ret (results_cell_row (by rfl) _ _ w.heap.size 49 #[.bool false, .slice A3 (Nt.digs m).length c3] (0, 0) _ (by rfl) (rheap_same HG3.out) Tryz.underlying49 rfl (HI2.out _ _ _ _)) rfl ⟨_, by rw [HP.out], by rw [HM.out]; exact HR3.out, rBelow.setRow hbw3 (Nat.le_refl _) _⟩
  · obtain ⟨m, hm⟩ : ∃ m : Nat, -1 - n = (m : Int) := ⟨(-1 - n).toNat, by omega⟩
    have hm63 : m ≤ 9223372036854775807 := by omega
    have hm1 : m % 4294967296 < 4294967296 := by omega
    have hm2 : m / 4294967296 < 4294967296 := by omega
    obtain ⟨w2, hw2⟩ : ∃ w2, w2 = (w1.alloc (.cells #[.int .u32 ((m % 4294967296 : Nat) : Int), .int .u32 ((m / 4294967296 : Nat) : Int)] 22)).alloc (.cells #[.int .u32 1] 22) := ⟨_, rfl⟩
    have hr : IsRes w2 (.slice (some ⟨w1.heap.size, 0, none⟩) 2 2) [m % 4294967296, m / 4294967296] := by
      rw [hw2]
      exact (isRes_new w1 [m % 4294967296, m / 4294967296] (by simp)).below ((Below.refl _ _).alloc (Nat.le_refl _) _)
    have hr' : IsRes w2 (.slice (some ⟨w1.heap.size + 1, 0, none⟩) 1 1) [1] := by
      have := isRes_new (w1.alloc (.cells #[.int .u32 ((m % 4294967296 : Nat) : Int), .int .u32 ((m / 4294967296 : Nat) : Int)] 22)) [1] (by decide)
      rw [show (w1.alloc (.cells #[.int .u32 ((m % 4294967296 : Nat) : Int), .int .u32 ((m / 4294967296 : Nat) : Int)] 22)).heap.size = w1.heap.size + 1 by simp] at this
      rw [hw2]; exact this
    have AD := rAdd_res hr hr' (ok_two hm1 hm2) (by intro d hd; rw [List.mem_singleton] at hd; subst hd; decide) (by simp) (by simp)
    rw [val_two, show Nt.val [1] = 1 from rfl, HS1.out] at AD
    have hnn : Rt.nrm true (m + 1) = true := by unfold Rt.nrm; simp
    have HP : Hid (decide (n < 0) = true) := Lib.hid (decide_eq_true (by omega))
    have HM : Hid (n.natAbs = m + 1) := Lib.hid (by omega)
    have hb2 : Below w.heap.size w w2 := by rw [hw2]; exact (hb1.alloc hb1.size _).alloc (by have := hb1.size; simp; omega) _
    have HG2 : Hid (w2.heap[w.heap.size]? = some (.cells #[.bool false, .slice none 0 0] 49 (0, 0))) := Lib.hid (by
      have hlt := blk_lt HG1.out
      rw [hw2]; exact (Below.heap_alloc _ _ _ (by simp; omega)).trans ((Below.heap_alloc _ _ _ hlt).trans HG1.out))
    have HAD := Lib.hid AD
    have HW2 : Hid (w2 = (w1.alloc (.cells #[.int .u32 ((m : Int) % 4294967296), .int .u32 ((m : Int) / 4294967296)] 22)).alloc (.cells #[.int .u32 1] 22)) := Lib.hid (by rw [hw2]; simp)
    have HNN := Lib.hid hnn
    have hdl : (Nt.digs (m + 1)).length ≤ 64 := by
      have := Nt.digs_len_lt (n := m + 1) (k := 2) (by omega)
      omega
    have e0 : IntKind.i64.wrap (-1 - n) = (m : Int) := by rw [hm]; exact IntWalk.i64_in _ (by omega)
    have e1 : (m : Int) % 4294967296 < 4294967296 := by omega
    have e2 : (m : Int) / 4294967296 < 4294967296 := by omega
    have e3 : 0 ≤ (m : Int) % 4294967296 := by omega
    have e4 : 0 ≤ (m : Int) / 4294967296 := by omega
    have hneg : decide (0 ≤ n) = false := decide_eq_false hn
    have e5 : wrap64 (-1 - n) = (m : Int) := IntWalk.wrap64_in _ (by omega) |>.trans hm
    clear hw2 AD hnn hr hr' hm1 hm2 hm63 h2 hn h1 hm
    go_enter Tryz.func20, Tryz.ntmps20
    go_wp2_with fail
    rw [← HW1.out, ← HW2.out]
    (with_reducible refine HAD.out.mono ?_)
    rintro e w3 ⟨v3, rfl, hr3, hb3⟩
    have HG3 := Lib.hid ((hb3.block w.heap.size (blk_lt HG2.out)).trans HG2.out)
    have hbw3 := hb2.trans (hb3.mono hb2.size)
    have NM := norm3_any true v3 _ w3 ⟨hr3, Nt.ok_digs _, hdl⟩
    rw [Nt.val_digs, HNN.out] at NM
    have HNM := Lib.hid NM
    obtain ⟨A3, c3, rfl, -⟩ := hr3
    clear hb3 hb1 hb2 HAD NM
    go_wp2_with fail
    (with_reducible refine HNM.out.mono ?_)
    rintro e w4 ⟨v4, rfl, hr4, hb4⟩
    have HG4 := Lib.hid ((hb4.block w.heap.size (blk_lt HG3.out)).trans HG3.out)
    have hbw4 := hbw3.trans (hb4.mono hbw3.size)
    have HR4 := Lib.hid (hr4.setRow HG4.out (two_no_int _ _ _ _) #[.bool true, v4])
    obtain ⟨⟨A4, c4, rfl, -⟩, -⟩ := hr4
    clear hb4 HNM
    go_wp2_with (with_reducible refine wpList_store_row rfl 49 (.tmp 2) (.tmp 27) rfl w.heap.size #[.bool true, .slice A4 (Nt.digs (m + 1)).length c4] rfl rfl 49 #[.bool false, .slice none 0 0] HG4.out (HI2.out _ _ _ _) rfl (two_one _ _ _ _) ?_)
    refine bodyPost_ret (results_cell_row (by rfl) _ _ w.heap.size 49 #[.bool true, .slice A4 (Nt.digs (m + 1)).length c4] (0, 0) _ (by rfl) (rheap_same HG4.out) Tryz.underlying49 rfl (HI2.out _ _ _ _)) rfl ⟨_, by rw [HP.out], by rw [HM.out]; exact HR4.out, rBelow.setRow hbw4 (Nat.le_refl _) _⟩
end Go.Proofs.YtfiefglagknclaaGreatDoor

/-
  A region that draws its order, and whose operations make memory but write none that was there: by a predicate for each operation's value, that stays in every later world.
-/
namespace Go.Proofs.YtfiefglagknclaaGreatDoor
open Go.RowKit
set_option linter.unusedVariables false

/-- One value more. -/
def upd (xs : Nat → Value) (i : Nat) (v : Value) : Nat → Value := fun j => if j = i then v else xs j
section
variable {P : Program} {ops : Array Oper} {Q : Exit → Act → World → Prop} {md : Region.Mode}
/-- Does an operation wait for another one? -/
def depB (md : Region.Mode) (ops : Array Oper) (i j : Nat) : Bool := match ops[i]? with
  | some o => o.after.toList.any fun e => e.on == j && Region.binds md e
  | none => false
/-- The operation yields such a value, and makes memory at the most. -/
def Yields (frame : (Nat → Value) → Act) (R : Nat → World → Value → Prop) (xs : Nat → Value) (i : Nat) (w : World) (a' : Act) (w' : World) : Prop := ∃ v, a' = frame (upd xs i v) ∧ R i w' v ∧ Below w.heap.size w w'
theorem wpAny_pred (frame : (Nat → Value) → Act) (w0 : World) (R : Nat → World → Value → Prop)
    (hR : ∀ i w w' v, R i w v → Below w.heap.size w w' → R i w' v)
    (step : ∀ i xs w, i < ops.size → Below w0.heap.size w0 w → (∀ j, depB md ops i j = true → R j w (xs j)) → wpOp P ops Q i (Yields frame R xs i w) (frame xs) w)
    (done : ∀ xs w, Below w0.heap.size w0 w → (∀ i, i < ops.size → R i w (xs i)) → Q .normal (frame xs) w)
    (hops : ∀ i, i < ops.size → ∀ o, ops[i]? = some o → ∀ e ∈ o.after, e.on < i)
    (xs0 : Nat → Value) (w1 : World) (hw1 : Below w0.heap.size w0 w1) : wpAny P md ops Q ops.size (Array.replicate ops.size false) (frame xs0) w1 := by
  refine wpAny_inv (fun l a w => l.size = ops.size ∧ Below w0.heap.size w0 w ∧ ∃ xs, a = frame xs ∧ ∀ i, i < ops.size → l[i]? = some true → R i w (xs i)) ?_ ?_ ops.size _ _ _ (by simp) ⟨by simp, hw1, xs0, rfl, fun i hi h => by simp [hi] at h⟩
  · rintro l a w ⟨hl, hb, xs, rfl, hx⟩ i hi
    obtain ⟨h1, h2, h3⟩ := ready_mem hi
    have hli : l[i]? = some false := by
      rw [Array.getD_eq_getD_getElem?] at h2
      rw [Array.getElem?_eq_getElem (by omega)] at h2 ⊢
      simp at h2; rw [h2]
    refine wpOp_mono ?_ (step i xs w h1 hb ?_)
    · rintro a' w' ⟨v, rfl, hv, hb'⟩
      refine ⟨by simpa using hl, hb.trans (hb'.mono hb.size), upd xs i v, rfl, fun j hj hlj => ?_⟩
      by_cases e : j = i
      · subst e; simp only [upd, if_true]; exact hv
      · simp only [upd, if_neg e]
        rw [Array.getElem?_setIfInBounds_ne (fun h => e h.symm)] at hlj
        exact hR j w w' _ (hx j hj hlj) hb'
    · intro j hj
      obtain ⟨o, ho⟩ : ∃ o, ops[i]? = some o := ⟨_, Array.getElem?_eq_getElem h1⟩
      unfold depB at hj
      rw [ho] at hj
      simp only [List.any_eq_true, Bool.and_eq_true, beq_iff_eq] at hj
      obtain ⟨e, he', rfl, hbe⟩ := hj
      have he : e ∈ o.after := by simpa using he'
      have hlt := hops i h1 o ho e he
      rw [ho] at h3
      simp only [Option.map_some, Option.getD_some, Array.all_eq_true_iff_forall_mem] at h3
      have h4 := h3 e he
      rw [hbe] at h4
      simp only [Bool.not_true, Bool.false_or] at h4
      refine hx e.on (by omega) ?_
      rw [Array.getD_eq_getD_getElem?, Array.getElem?_eq_getElem (by omega)] at h4
      rw [Array.getElem?_eq_getElem (by omega)]
      simp at h4; rw [h4]
  · rintro l a w ⟨hl, hb, xs, rfl, hx⟩ hr
    refine done xs w hb ?_
    -- all are listed, by the order of the text
    have hall : ∀ n i, i < n → i < ops.size → l[i]? = some true := by
      intro n
      induction n with
      | zero => intro i h; omega
      | succ n ih =>
        intro i hi his
        by_cases e : i < n
        · exact ih i e his
        · have hie : i = n := by omega
          subst hie
          cases h : l[i]? with
          | none => rw [Array.getElem?_eq_none_iff] at h; omega
          | some b =>
            cases b
            · exfalso
              have : i ∈ Region.ready md ops l := by
                simp only [Region.ready, List.mem_filter, List.mem_range, Bool.and_eq_true, Bool.not_eq_true']
                refine ⟨his, by rw [Array.getD_eq_getD_getElem?, h]; rfl, ?_⟩
                rw [Array.getElem?_eq_getElem his]
                simp only [Option.map_some, Option.getD_some, Array.all_eq_true_iff_forall_mem]
                intro e he
                have hlt := hops i his _ (Array.getElem?_eq_getElem his) e he
                rw [Array.getD_eq_getD_getElem?, ih e.on hlt (by omega)]
                simp
              rw [hr] at this; cases this
            · rfl
    intro i hi
    exact hx i hi (hall (i + 1) i (by omega) hi)
theorem wp_region_pred (frame : (Nat → Value) → Act) (w0 : World) (R : Nat → World → Value → Prop) {id : Nat} {a : Act} {w : World} (hm : P.follows .mixedOrders = true)
    (hR : ∀ i w w' v, R i w v → Below w.heap.size w w' → R i w' v)
    (hops : ops.toList.zipIdx.all (fun p => p.1.after.all fun e => decide (e.on < p.2)) = true)
    (xs0 : Nat → Value) (ha : a = frame xs0) (hw : Below w0.heap.size w0 w)
    (step : ∀ i xs w, i < ops.size → Below w0.heap.size w0 w → (∀ j, depB .any ops i j = true → R j w (xs j)) → wpOp P ops Q i (Yields frame R xs i w) (frame xs) w)
    (done : ∀ xs w, Below w0.heap.size w0 w → (∀ i, i < ops.size → R i w (xs i)) → Q .normal (frame xs) w) : (Code.region id ops true).wp P Q a w := by
  subst ha
  refine wp_region_any hm (wpAny_pred frame w0 R hR step done ?_ xs0 _ ?_)
  · intro i hi o ho e he
    rw [List.all_eq_true] at hops
    have h := hops (o, i) (by
      rw [List.mem_zipIdx_iff_getElem?]
      simpa using ho)
    rw [Array.all_eq_true_iff_forall_mem] at h
    simpa using h e he
  · exact ⟨hw.os, hw.tape, hw.output, hw.size, hw.block⟩
theorem wpOp_on {i : Nat} {o : Oper} {K : Act → World → Prop} {a : Act} {w : World} (h : ops[i]? = some o) (hg : Region.wanted o (yielded ops a.tmps) = true) (hw : o.wp P a w K Q) : wpOp P ops Q i K a w := by
  unfold wpOp; rw [h]
  simp only [hg, if_true]
  exact .inl hw
theorem wpOp_off {i : Nat} {o : Oper} {K : Act → World → Prop} {a : Act} {w : World} (h : ops[i]? = some o) (hg : Region.wanted o (yielded ops a.tmps) = false) (hk : K (a.put o.dst undef) w) : wpOp P ops Q i K a w := by
  unfold wpOp; rw [h]
  simp only [hg]
  exact hk
end
end Go.Proofs.YtfiefglagknclaaGreatDoor

/-
  As XRegPred, for a region whose last operation waits for all others (a store of what they made): the others by predicates, the last one by itself.
-/
namespace Go.Proofs.YtfiefglagknclaaGreatDoor
open Go.RowKit
set_option linter.unusedVariables false

section
variable {P : Program} {ops : Array Oper} {Q : Exit → Act → World → Prop} {md : Region.Mode}
theorem depB_listed {l : Array Bool} {i j : Nat} (h : ((ops[i]?).map (·.after.all fun e => !Region.binds md e || l.getD e.on false)).getD false = true) (hj : depB md ops i j = true) : l.getD j false = true := by
  unfold depB at hj
  cases ho : ops[i]? with
  | none => rw [ho] at hj; cases hj
  | some o =>
    rw [ho] at hj h
    simp only [List.any_eq_true, Bool.and_eq_true, beq_iff_eq] at hj
    obtain ⟨e, he', rfl, hbe⟩ := hj
    have he : e ∈ o.after := by simpa using he'
    simp only [Option.map_some, Option.getD_some, Array.all_eq_true_iff_forall_mem] at h
    have h4 := h e he
    rw [hbe] at h4
    simpa using h4
theorem getD_true {l : Array Bool} {i : Nat} (h : l.getD i false = true) : l[i]? = some true := by
  rw [Array.getD_eq_getD_getElem?] at h
  cases e : l[i]? with
  | none => rw [e] at h; cases h
  | some b => rw [e] at h; simp at h; rw [h]
theorem wpAny_last (frame : (Nat → Value) → Act) (w0 : World) (R : Nat → World → Value → Prop) (n : Nat) (hn : ops.size = n + 1)
    (hR : ∀ i w w' v, R i w v → Below w.heap.size w w' → R i w' v)
    (step : ∀ i xs w, i < n → Below w0.heap.size w0 w → (∀ j, depB md ops i j = true → R j w (xs j)) → wpOp P ops Q i (Yields frame R xs i w) (frame xs) w)
    (last : ∀ xs w, Below w0.heap.size w0 w → (∀ i, i < n → R i w (xs i)) → wpOp P ops Q n (fun a' w' => Q .normal a' w') (frame xs) w)
    (hops : ∀ i, i < ops.size → ∀ j, depB md ops i j = true → j < i) (hlast : ∀ j, j < n → depB md ops n j = true)
    (xs0 : Nat → Value) (w1 : World) (hw1 : Below w0.heap.size w0 w1) : wpAny P md ops Q ops.size (Array.replicate ops.size false) (frame xs0) w1 := by
  refine wpAny_inv (fun l a w => l.size = ops.size ∧ ((l[n]? = some false ∧ Below w0.heap.size w0 w ∧ ∃ xs, a = frame xs ∧ ∀ i, i < n → l[i]? = some true → R i w (xs i)) ∨ (l[n]? = some true ∧ Q .normal a w ∧ ∀ i, i < n → l[i]? = some true))) ?_ ?_ ops.size _ _ _ (by simp) ⟨by simp, .inl ⟨by simp [hn], hw1, xs0, rfl, fun i hi h => by simp [show i < ops.size by omega] at h⟩⟩
  · rintro l a w ⟨hl, hc⟩ i hi
    obtain ⟨h1, h2, h3⟩ := ready_mem hi
    have hli : l[i]? = some false := by
      rw [Array.getD_eq_getD_getElem?] at h2
      rw [Array.getElem?_eq_getElem (by omega)] at h2 ⊢
      simp at h2; rw [h2]
    rcases hc with ⟨hln, hb, xs, rfl, hx⟩ | ⟨hln, hQ, hall⟩
    · by_cases e : i = n
      · subst e
        have hall : ∀ j, j < i → l[j]? = some true := fun j hj => getD_true (depB_listed h3 (hlast j hj))
        refine wpOp_mono ?_ (last xs w hb (fun j hj => hx j hj (hall j hj)))
        intro a' w' hq
        refine ⟨by simpa using hl, .inr ⟨?_, hq, fun j hj => ?_⟩⟩
        · rw [Array.getElem?_setIfInBounds_self_of_lt (by omega)]
        · rw [Array.getElem?_setIfInBounds_ne (by omega)]; exact hall j hj
      · refine wpOp_mono ?_ (step i xs w (by omega) hb (fun j hj => hx j (by have := hops i h1 j hj; omega) (getD_true (depB_listed h3 hj))))
        rintro a' w' ⟨v, rfl, hv, hb'⟩
        refine ⟨by simpa using hl, .inl ⟨by rw [Array.getElem?_setIfInBounds_ne e]; exact hln, hb.trans (hb'.mono hb.size), upd xs i v, rfl, fun j hj hlj => ?_⟩⟩
        by_cases e' : j = i
        · subst e'; simp only [upd, if_true]; exact hv
        · simp only [upd, if_neg e']
          rw [Array.getElem?_setIfInBounds_ne (fun h => e' h.symm)] at hlj
          exact hR j w w' _ (hx j hj hlj) hb'
    · exfalso
      by_cases e : i = n
      · subst e; rw [hli] at hln; cases hln
      · rw [hall i (by omega)] at hli; cases hli
  · rintro l a w ⟨hl, hc⟩ hr
    rcases hc with ⟨hln, hb, xs, rfl, hx⟩ | ⟨_, hQ, _⟩
    · exfalso
      have hall : ∀ m i, i < m → i < ops.size → l[i]? = some true := by
        intro m
        induction m with
        | zero => intro i h; omega
        | succ m ih =>
          intro i hi his
          by_cases e : i < m
          · exact ih i e his
          · have hie : i = m := by omega
            subst hie
            cases h : l[i]? with
            | none => rw [Array.getElem?_eq_none_iff] at h; omega
            | some b =>
              cases b
              · exfalso
                have : i ∈ Region.ready md ops l := by
                  simp only [Region.ready, List.mem_filter, List.mem_range, Bool.and_eq_true, Bool.not_eq_true']
                  refine ⟨his, by rw [Array.getD_eq_getD_getElem?, h]; rfl, ?_⟩
                  rw [Array.getElem?_eq_getElem his]
                  simp only [Option.map_some, Option.getD_some, Array.all_eq_true_iff_forall_mem]
                  intro e he
                  cases hbe : Region.binds md e
                  · rfl
                  · have hd : depB md ops i e.on = true := by
                      unfold depB
                      rw [Array.getElem?_eq_getElem his]
                      simp only [List.any_eq_true, Bool.and_eq_true, beq_iff_eq]
                      exact ⟨e, by simpa using he, rfl, hbe⟩
                    have hlt := hops i his e.on hd
                    rw [Array.getD_eq_getD_getElem?, ih e.on hlt (by omega)]
                    simp
                rw [hr] at this; cases this
              · rfl
      rw [hall (n + 1) n (by omega) (by omega)] at hln; cases hln
    · exact hQ
theorem wp_region_last (frame : (Nat → Value) → Act) (w0 : World) (R : Nat → World → Value → Prop) (n : Nat) {id : Nat} {a : Act} {w : World} (hm : P.follows .mixedOrders = true) (hn : ops.size = n + 1)
    (hR : ∀ i w w' v, R i w v → Below w.heap.size w w' → R i w' v)
    (hops : ops.toList.zipIdx.all (fun p => p.1.after.all fun e => decide (e.on < p.2)) = true) (hlast : (List.range n).all (fun j => depB .any ops n j) = true)
    (xs0 : Nat → Value) (ha : a = frame xs0) (hw : Below w0.heap.size w0 w)
    (step : ∀ i xs w, i < n → Below w0.heap.size w0 w → (∀ j, depB .any ops i j = true → R j w (xs j)) → wpOp P ops Q i (Yields frame R xs i w) (frame xs) w)
    (last : ∀ xs w, Below w0.heap.size w0 w → (∀ i, i < n → R i w (xs i)) → wpOp P ops Q n (fun a' w' => Q .normal a' w') (frame xs) w) : (Code.region id ops true).wp P Q a w := by
  subst ha
  refine wp_region_any hm (wpAny_last frame w0 R n hn hR step last ?_ ?_ xs0 _ ?_)
  · intro i hi j hj
    unfold depB at hj
    rw [Array.getElem?_eq_getElem hi] at hj
    simp only [List.any_eq_true, Bool.and_eq_true, beq_iff_eq] at hj
    obtain ⟨e, he, rfl, _⟩ := hj
    rw [List.all_eq_true] at hops
    have h := hops (ops[i], i) (by
      rw [List.mem_zipIdx_iff_getElem?]
      simp)
    rw [Array.all_eq_true_iff_forall_mem] at h
    simpa using h e (by simpa using he)
  · intro j hj
    rw [List.all_eq_true] at hlast
    exact hlast j (by simpa using hj)
  · exact ⟨hw.os, hw.tape, hw.output, hw.size, hw.block⟩
end
end Go.Proofs.YtfiefglagknclaaGreatDoor

/-
  Whole numbers and ratios of the program: ratio.isOne, whole.signed, whole.Norm, ratio.top, ratio.Int. (Printed by wip/bin/gen_dig1.py.)
-/
namespace Go.Proofs.YtfiefglagknclaaGreatDoor
open Go.RowKit
set_option maxHeartbeats 4000000
set_option maxRecDepth 100000
set_option linter.unusedVariables false

theorem isOne_any (v : Value) (l : List Nat) (w : World) (h : IsRes w v l) :
    Calls Tryz.prog 49 #[v] w fun e w' => e = .returned (.bool (l == [1])) ∧ w = w' := by
  obtain ⟨A, c, rfl, h1, h2, h3, h4⟩ := h
  by_cases hl : l.length = 1
  · obtain ⟨x, rfl⟩ : ∃ x, l = [x] := by
      match l, hl with
      | [x], _ => exact ⟨x, rfl⟩
    obtain ⟨b, off, rfl, hb, g0⟩ := h4.at_ (k := 0) (by simp [U])
    have g1 : w.cell? ⟨b, off, none⟩ = some (.int .u32 (x : Int)) := by simpa [U] using g0
    have HQ : Hid (([x] == [1]) = (x == 1)) := Lib.hid (by simp [List.cons_beq_cons])
    have hlen : ([x] : List Nat).length = 1 := rfl
    clear g0 h4 h3 hl hlen
    by_cases hx : x = 1
    · subst hx
      go_enter Tryz.func49, Tryz.ntmps49
      go_wp2_with fail
      go_ret
      exact ⟨ret_bool (by rw [HQ.out]; rfl), rfl⟩
    · have q : ((x : Int) == 1) = false := beq_eq_false_iff_ne.2 (by omega)
      have HQ2 : Hid ((x == 1) = false) := Lib.hid (beq_eq_false_iff_ne.2 hx)
      clear hx
      go_enter Tryz.func49, Tryz.ntmps49
      go_wp2_with fail
      go_ret
      exact ⟨ret_bool (by rw [HQ.out, HQ2.out]), rfl⟩
  · have q : ((l.length : Int) == 1) = false := beq_eq_false_iff_ne.2 (by omega)
    have HQ : Hid ((l == [1]) = false) := Lib.hid (by
      rw [beq_eq_false_iff_ne]; rintro rfl; exact hl rfl)
    clear hl h4
    generalize l.length = n at *
    go_enter Tryz.func49, Tryz.ntmps49
    go_wp2_with fail
    go_ret
    exact ⟨ret_bool (by rw [HQ.out]), rfl⟩

/-- A whole number, made anew. -/
def WholeOut (w : World) (n : Bool) (l : List Nat) (e : Ending) (w' : World) : Prop := ∃ v, e = .returned (.agg #[.bool n, v]) ∧ IsRes w' v l ∧ Below w.heap.size w w'
theorem whole2_info : (Tryz.prog.info? 57).map (·.size) = some 2 := by kernel_rfl

theorem signed_any (n : Bool) (v : Value) (l : List Nat) (w : World) (h : IsRes w v l) :
    Calls Tryz.prog 120 #[.bool n, v] w (WholeOut w (n && !(l == [])) l) := by
  have HR := Lib.hid h
  obtain ⟨A, c, rfl, h1, h2, h3, h4⟩ := h
  have HI2 : Hid (∀ (b : Bool) (A : Option Addr) (k c : Nat), (Tryz.prog.info? 57).map (·.size) = some (#[.bool b, .slice A k c] : Array Value).size) := Lib.hid (fun _ _ _ _ => whole2_info)
  have HG1 : Hid (∀ o, (w.alloc o).heap[w.heap.size]? = some o) := Lib.hid (fun o => heap_alloc_new w o)
  have hb : ∀ o, Below w.heap.size w (w.alloc o) := fun o => (Below.refl _ _).alloc (Nat.le_refl _) _
  have HB := Lib.hid hb
  clear h3 h4 hb
  by_cases hl : l.length = 0
  · have q : ((l.length : Int) == 0) = true := beq_iff_eq.2 (by omega)
    have HL : Hid (l = []) := Lib.hid (List.eq_nil_of_length_eq_zero hl)
    clear hl
    go_enter Tryz.func120, Tryz.ntmps120
    go_wp2_with (with_reducible refine wpList_store_row rfl 57 (.tmp 4) (.tmp 8) rfl w.heap.size #[.bool false, .slice none 0 0] rfl rfl 57 #[.bool false, .slice none 0 0] (HG1.out _) (HI2.out _ _ _ _) rfl (two_one _ _ _ _) ?_)
    refine bodyPost_ret (results_cell_row (by rfl) _ _ w.heap.size 57 #[.bool false, .slice none 0 0] (0, 0) _ (by rfl) (rheap_same (HG1.out _)) Tryz.underlying57 rfl (HI2.out _ _ _ _)) rfl ⟨.slice none 0 0, by rw [HL.out]; simp, by rw [HL.out]; exact IsRes.none_ _, rBelow.setRow (HB.out _) (Nat.le_refl _) _⟩
  · have q : ((l.length : Int) == 0) = false := beq_eq_false_iff_ne.2 (by omega)
    have HL : Hid ((l == []) = false) := Lib.hid (by rw [beq_eq_false_iff_ne]; rintro rfl; exact hl rfl)
    clear hl
    go_enter Tryz.func120, Tryz.ntmps120
    go_wp2_with (with_reducible refine wpList_store_row rfl 57 (.tmp 4) (.tmp 11) rfl w.heap.size #[.bool n, .slice A l.length c] rfl rfl 57 #[.bool false, .slice none 0 0] (HG1.out _) (HI2.out _ _ _ _) rfl (two_one _ _ _ _) ?_)
    refine bodyPost_ret (results_cell_row (by rfl) _ _ w.heap.size 57 #[.bool n, .slice A l.length c] (0, 0) _ (by rfl) (rheap_same (HG1.out _)) Tryz.underlying57 rfl (HI2.out _ _ _ _)) rfl ⟨.slice A l.length c, by rw [HL.out]; simp, (HR.out.below (HB.out _)).setRow (HG1.out _) (two_no_int _ _ _ _) _, rBelow.setRow (HB.out _) (Nat.le_refl _) _⟩
end Go.Proofs.YtfiefglagknclaaGreatDoor

/-
  Whole numbers and ratios of the program: whole.Norm, ratio.top, ratio.Int. (Printed by wip/bin/gen_dig2.py.)
-/
namespace Go.Proofs.YtfiefglagknclaaGreatDoor
open Go.RowKit
set_option maxHeartbeats 4000000
set_option maxRecDepth 100000
set_option linter.unusedVariables false

theorem nrm_digs (n : Bool) (x : Nat) : (n && !(Nt.digs x == [])) = Rt.nrm n x := by
  unfold Rt.nrm
  congr 2
  rw [Bool.eq_iff_iff]
  simp only [beq_iff_eq]
  exact Nt.digs_nil_iff
theorem wNorm_res {w : World} {v : Value} {l : List Nat} (h1 : IsRes w v l) (o1 : Nt.Ok l) (s1 : l.length ≤ 1000000) :
    Calls Tryz.prog 48 #[v] w fun e w' => ∃ v, e = .returned v ∧ IsRes w' v (Nt.digs (Nt.val l)) ∧ Below w.heap.size w w' := by
  obtain ⟨A, c, rfl, a1, a2, a3, a4⟩ := h1
  have hd := Nt.digs_len_le o1
  refine (norm_any A c w.heap.size l w a4 (Nat.le_refl _) o1 a1 a2 (by omega)).mono ?_
  rintro e w' ⟨rfl, r, hb'⟩
  exact ⟨_, rfl, ⟨_, _, rfl, Nat.le_refl _, by omega, (fun h => by cases h), r.lies⟩, hb'⟩
def frameWN (g : Nat) (n : Bool) (V : Value) (xs : Nat → Value) : Act := { tmps := #[.agg #[.bool n, V], .pointer (some ⟨g, 0, none⟩), .pointer (some ⟨g + 1, 0, none⟩), xs 0, xs 1, xs 2, xs 3, xs 4, xs 5], defers := [] }
def predWN (g : Nat) (n : Bool) (V : Value) (l : List Nat) : Nat → World → Value → Prop
  | 0, w, v => v = .pointer (some ⟨g, 0, none⟩)
  | 1, w, v => v = .bool n
  | 2, w, v => v = .pointer (some ⟨g, 1, none⟩)
  | 3, w, v => v = V
  | 4, w, v => IsRes w v (Nt.digs (Nt.val l))
  | _, w, v => ∃ u, v = .agg #[.bool (Rt.nrm n (Nt.val l)), u] ∧ IsRes w u (Nt.digs (Nt.val l))

theorem wholeNorm_any (n : Bool) (v : Value) (l : List Nat) (w : World) (h : IsRes w v l) (ho : Nt.Ok l) (hs : l.length ≤ 1000000) :
    Calls Tryz.prog 98 #[.agg #[.bool n, v]] w (WholeOut w (Rt.nrm n (Nt.val l)) (Nt.digs (Nt.val l))) := by
  obtain ⟨g, hg⟩ : ∃ g, g = w.heap.size := ⟨_, rfl⟩
  obtain ⟨W, hW⟩ : ∃ W, W = (w.alloc (.cells #[.bool n, v] 57)).alloc (.cells #[.bool false, .slice none 0 0] 57) := ⟨_, rfl⟩
  have hWs : W.heap.size = g + 1 + 1 := by rw [hW, hg]; simp
  have hWb : Below g w W := by rw [hW, hg]; exact ((Below.refl _ _).alloc (Nat.le_refl _) _).alloc (by simp) _
  have hW0 : W.heap[g]? = some (.cells #[.bool n, v] 57 (0, 0)) := by rw [hW, hg]; exact heap_alloc2_old _ _ _
  have HW1 : Hid (W.heap[g + 1]? = some (.cells #[.bool false, .slice none 0 0] 57 (0, 0))) := Lib.hid (by rw [hW, hg]; exact heap_alloc2_new _ _ _)
  have HQ : Hid (∀ wx, Below W.heap.size W wx → wx.cell? ⟨g, 0, none⟩ = some (.bool n) ∧ wx.cell? ⟨g, 1, none⟩ = some v) := Lib.hid (fun wx hx => by
    have hb := (hx.block g (by omega)).trans hW0
    exact ⟨(cell_of_row wx g 0 _ _ _ hb).trans rfl, (cell_of_row wx g 1 _ _ _ hb).trans rfl⟩)
  have hrb : ∀ wx, Below W.heap.size W wx → IsRes wx v l := fun wx hx => (h.below (by rw [← hg]; exact hWb)).below hx
  have NN := Lib.hid (fun (wx : World) (hx : Below W.heap.size W wx) => wNorm_res (hrb wx hx) ho hs)
  have SG : Hid (∀ (wx : World) (u : Value), IsRes wx u (Nt.digs (Nt.val l)) → Calls Tryz.prog 120 #[.bool n, u] wx (WholeOut wx (Rt.nrm n (Nt.val l)) (Nt.digs (Nt.val l)))) := Lib.hid (fun wx u hu => by
    have := signed_any n u _ wx hu
    rwa [nrm_digs] at this)
  have HI2 : Hid (∀ (b : Bool) (A : Option Addr) (k c : Nat), (Tryz.prog.info? 57).map (·.size) = some (#[.bool b, .slice A k c] : Array Value).size) := Lib.hid (fun _ _ _ _ => whole2_info)
  have HW := Lib.hid hW
  have HG := Lib.hid hg
  have hgl : g + 1 < W.heap.size := by omega
  obtain ⟨A, c, rfl, -⟩ := h
  clear hW hW0 hrb hWs
  go_enter Tryz.func98, Tryz.ntmps98
  go_wp2_with fail
  rw [← HW.out, ← hg]
  clear hg
  refine wp_region_last (frameWN g n (.slice A l.length c)) W (predWN g n (.slice A l.length c) l) 6 (by kernel_rfl) (by rfl) ?_ (by kernel_rfl) (by kernel_rfl) (fun _ => undef) rfl (Below.refl _ _) ?_ ?_
  · intro i w1 w2 v hv hb
    match i with
    | 0 => exact hv
    | 1 => exact hv
    | 2 => exact hv
    | 3 => exact hv
    | 4 => exact hv.below hb
    | i + 5 => exact (by obtain ⟨u, e, r⟩ := hv; exact ⟨u, e, r.below hb⟩)
  · intro i xs w1 hi hb hdep
    have hi6 : i < 6 := hi
    clear hi
    rcases (show i = 0 ∨ i = 1 ∨ i = 2 ∨ i = 3 ∨ i = 4 ∨ i = 5 by omega) with rfl | rfl | rfl | rfl | rfl | rfl
    · refine wpOp_at rfl rfl ?_
      unfold frameWN Oper.wp
      go_simp
      exact ⟨_, by simp only [frameWN, upd]; simp [Act.put], rfl, Below.refl _ _⟩
    · have h0 : xs 0 = .pointer (some ⟨g, 0, none⟩) := hdep 0 (by kernel_rfl)
      refine wpOp_at rfl rfl ?_
      have q := (HQ.out w1 hb).1
      unfold frameWN Oper.wp
      simp only [h0]
      go_simp
      exact ⟨_, by simp only [frameWN, upd]; simp [Act.put, h0], rfl, Below.refl _ _⟩
    · refine wpOp_at rfl rfl ?_
      unfold frameWN Oper.wp
      go_simp
      exact ⟨_, by simp only [frameWN, upd]; simp [Act.put], rfl, Below.refl _ _⟩
    · have h2 : xs 2 = .pointer (some ⟨g, 1, none⟩) := hdep 2 (by kernel_rfl)
      refine wpOp_at rfl rfl ?_
      have q := (HQ.out w1 hb).2
      unfold frameWN Oper.wp
      simp only [h2]
      go_simp
      exact ⟨_, by simp only [frameWN, upd]; simp [Act.put, h2], rfl, Below.refl _ _⟩
    · have h3 : xs 3 = (.slice A l.length c) := hdep 3 (by kernel_rfl)
      refine wpOp_at rfl rfl ?_
      unfold frameWN Oper.wp
      simp only [h3]
      go_simp
      refine (NN.out w1 hb).mono ?_
      rintro e w2 ⟨v', rfl, hr, hb2⟩
      exact ⟨_, by simp only [frameWN, upd]; simp [Act.put, h3], hr, hb2⟩
    · have h1 : xs 1 = .bool n := hdep 1 (by kernel_rfl)
      have r4 : IsRes w1 (xs 4) (Nt.digs (Nt.val l)) := hdep 4 (by kernel_rfl)
      refine wpOp_at rfl rfl ?_
      unfold frameWN Oper.wp
      simp only [h1]
      go_simp
      refine (SG.out w1 _ r4).mono ?_
      rintro e w2 ⟨u, rfl, hr, hb2⟩
      exact ⟨_, by simp only [frameWN, upd]; simp [Act.put, h1], ⟨u, rfl, hr⟩, hb2⟩
  · intro xs w1 hb hx
    obtain ⟨u, h5, r5⟩ : ∃ u, xs 5 = .agg #[.bool (Rt.nrm n (Nt.val l)), u] ∧ IsRes w1 u (Nt.digs (Nt.val l)) := hx 5 (by decide)
    clear hx
    have HR := Lib.hid r5
    obtain ⟨A5, c5, rfl, -⟩ := r5
    have HG1 := Lib.hid ((hb.block (g + 1) (by omega)).trans HW1.out)
    refine wpOp_at rfl rfl ?_
    refine wp_store_row 57 (.tmp 2) (.tmp 8) rfl (g + 1) #[.bool (Rt.nrm n (Nt.val l)), .slice A5 (Nt.digs (Nt.val l)).length c5] rfl (by unfold frameWN; simp only [h5]; rfl) 57 #[.bool false, .slice none 0 0] HG1.out (HI2.out _ _ _ _) rfl (two_one _ _ _ _) ?_
    have hbf := rBelow.setRow (hWb.trans (hb.mono (by omega))) (show g ≤ g + 1 by omega) #[.bool (Rt.nrm n (Nt.val l)), .slice A5 (Nt.digs (Nt.val l)).length c5]
    unfold frameWN
    go_wp2_with fail
    refine bodyPost_ret (results_cell_row (by rfl) _ _ (g + 1) 57 #[.bool (Rt.nrm n (Nt.val l)), .slice A5 (Nt.digs (Nt.val l)).length c5] (0, 0) _ (by rfl) (rheap_same HG1.out) Tryz.underlying57 rfl (HI2.out _ _ _ _)) rfl ⟨_, rfl, HR.out.setRow HG1.out (two_no_int _ _ _ _) _, ?_⟩
    rw [← HG.out]; exact hbf
end Go.Proofs.YtfiefglagknclaaGreatDoor

/-
  What nat.shorten computes: limbs divided by one limb, in place; and nat.DivMod by one limb.
-/
namespace Go.Proofs.YtfiefglagknclaaGreatDoor
open Go.RowKit
set_option maxHeartbeats 1000000
set_option maxRecDepth 100000
set_option linter.unusedVariables false

theorem join32 {r x : Nat} (hr : r < 4294967296) (hx : x < 4294967296) : bits BinOp.or IntKind.u64 ((r : Int) * 4294967296) (x : Int) = ((r * 4294967296 + x : Nat) : Int) := by
  have h := u64_or_nat (r * 4294967296) x (by omega) (by omega)
  rw [nat_join 32 (r * 4294967296) x (by omega) (by omega)] at h
  rw [← h, Int.natCast_mul]
  rfl

theorem shorten_any (g c d : Nat) (l : List Nat) (rest : List Value) (w : World) (hblk : Blk w g 22 (U l ++ rest)) (ho : Nt.Ok l) (hd : 0 < d) (hd2 : d < 4294967296) (hm : l.length ≤ 9223372036854775807) :
    Calls Tryz.prog 87 #[.slice (some ⟨g, 0, none⟩) l.length c, .int .u32 (d : Int)] w fun e w' => ∃ cur : List Nat, e = .returned (.int .u32 ((Nt.val l % d : Nat) : Int)) ∧ Blk w' g 22 (U cur ++ rest) ∧ Hid (cur.length = l.length ∧ Nt.Ok cur ∧ Nt.val cur = Nt.val l / d) ∧ w.grownBy w' (some g) := by
  have HO := Lib.hid ho
  have hd1 : (1 : Int) ≤ (d : Int) := by omega
  clear ho
  go_enter Tryz.func87, Tryz.ntmps87
  go_wp2_with fail
  go_loopw [5, 6] (fun rv i wr => ∃ (k r : Nat) (cur : List Nat), k ≤ l.length ∧ r < d ∧ i = .int .i64 ((k : Int) - 1) ∧ rv = .int .u64 (r : Int) ∧ Blk wr g 22 (U cur ++ rest) ∧ w.grownBy wr (some g) ∧ Hid (Nt.ShortAt l d cur k r)) (fun _ i _ => (intOf i + 1).toNat)
  case atStart => exact ⟨l.length, 0, l, Nat.le_refl _, hd, by go_num, rfl, hblk, World.grownBy.refl _ _, Lib.hid (Nt.short_start HO.out hd)⟩
  case round =>
    clear hblk
    obtain ⟨k, r, cur, hk, hr, rfl, rfl, hblk, hgr, H⟩ := hrel
    rcases k with _ | k
    · have HE := Lib.hid (Nt.short_end H.out)
      have hrd : r < 4294967296 := by omega
      go_wp2_with fail
      go_ret
      refine ⟨cur, ret_int (by rw [← HE.out.2]), hblk, Lib.hid ⟨H.out.1, H.out.2.1, HE.out.1⟩, hgr⟩
    · have hk1 : ((k + 1 : Nat) : Int) - 1 = (k : Int) := by omega
      rw [hk1]
      clear hk1
      have hkl : k < l.length := by omega
      have hcl : cur.length = l.length := H.out.1
      have hget := Nt.short_get H.out hkl
      have hcell : wr.cell? ⟨g, k, none⟩ = some (.int .u32 ((l[k] : Nat) : Int)) := hblk.cell (by
        rw [List.getElem?_append_left (by rw [U_len]; omega), U, List.getElem?_map, hget]; rfl)
      have hfz := hblk.frozen k
      have hxb := Nt.ok_get HO.out hkl
      have ST := Lib.hid (Nt.short_step H.out hkl HO.out hd2)
      have BD := Nt.short_bounds hr hd2 hxb
      have BS : Hid (∀ s : Nat, Blk (wr.setCell ⟨g, k, none⟩ (.int .u32 (s : Int))) g 22 (U (cur.set k s) ++ rest)) := Lib.hid (fun s => by
        have := hblk.set_ k (.int .u32 (s : Int))
        rw [List.set_append_left _ _ (by rw [U_len]; omega), show (U cur).set k (.int .u32 (s : Int)) = U (cur.set k s) from List.map_set.symm] at this
        exact this)
      generalize l[k] = x at hcell hxb ST BD
      have hj := join32 (r := r) (by omega) hxb
      generalize ht : r * 4294967296 + x = t at ST BD hj
      have hq : (t : Int) / (d : Int) = ((t / d : Nat) : Int) := (Int.natCast_ediv t d).symm
      have hr2 : (t : Int) % (d : Int) = ((t % d : Nat) : Int) := (Int.natCast_emod t d).symm
      obtain ⟨hq1, ht1, hr1⟩ := BD
      generalize t / d = q at *
      generalize t % d = r' at *
      clear ht hblk hcl hget
      have hrl : r < 4294967296 := by omega
      have HR2 := Lib.hid hr2
      go_wp2_with fail
      refine ⟨⟨k, r', cur.set k q, by omega, hr1, by go_num, congrArg (Value.int .u64) HR2.out, BS.out q, grown_set hgr _ _, Lib.hid ST.out⟩, ?_⟩
      first | (simp [intOf]; done) | (simp [intOf]; omega)
end Go.Proofs.YtfiefglagknclaaGreatDoor
