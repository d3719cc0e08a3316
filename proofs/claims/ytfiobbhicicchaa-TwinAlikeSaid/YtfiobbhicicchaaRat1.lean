/-
  Numbers by the reference: scrimref02.Gcd of at most 64 limbs, scrimref03.Norm, scrimref04.Top, Bot.
-/
import Derived.Test.YtfiobbhicicchaaNat8
import Derived.Test.YtfiobbhicicchaaRatMath
import Derived.Test.YtfiobbhicicchaaBlk
import Derived.Laws.Tables
import Derived.Deep.LoopGhost
namespace Go.Proofs.Ytfiobbhicicchaa
open Go.RowKit
set_option maxHeartbeats 2000000
set_option maxRecDepth 100000
set_option linter.unusedVariables false

section
variable {w0 w : World} {v1 v2 : Value} {l1 l2 : List Nat}
theorem rDivMod_res (h1 : IsRes w v1 l1) (h2 : IsRes w v2 l2) (o1 : Nt.Ok l1) (o2 : Nt.Ok l2) (s1 : l1.length ≤ 1000000) (s2 : l2.length ≤ 1000000) (hb : Below w0.heap.size w0 w) :
    Calls Try.prog 61 #[v1, v2] w fun e w' => ∃ u1 u2, e = .returned (.tuple #[u1, u2, .bool (decide (Nt.val l2 ≠ 0))]) ∧ IsRes w' u1 (Nt.digs (Nt.quo (Nt.val l1) (Nt.val l2))) ∧ IsRes w' u2 (Nt.digs (Nt.rest (Nt.val l1) (Nt.val l2))) ∧ Below w0.heap.size w0 w' ∧ Below w.heap.size w w' := by
  obtain ⟨A, c, rfl, a1, a2, a3, a4⟩ := h1
  obtain ⟨A', c', rfl, b1, b2, b3, b4⟩ := h2
  refine (refDivMod_any A A' c c' w.heap.size l1 l2 w a4 b4 (Nat.le_refl _) o1 o2 a1 b1 a2 b2 b3 s1 s2).mono ?_
  rintro e w' ⟨u1, u2, rfl, r1, r2, hb'⟩
  exact ⟨u1, u2, rfl, r1, r2, hb.trans (hb'.mono hb.size), hb'⟩
theorem rNorm_res (h1 : IsRes w v1 l1) (o1 : Nt.Ok l1) (s1 : l1.length ≤ 1000000) (hb : Below w0.heap.size w0 w) :
    Calls Try.prog 62 #[v1] w fun e w' => ∃ v, e = .returned v ∧ IsRes w' v (Nt.digs (Nt.val l1)) ∧ Below w0.heap.size w0 w' ∧ Below w.heap.size w w' := by
  obtain ⟨A, c, rfl, a1, a2, a3, a4⟩ := h1
  refine (refNorm_any A c w.heap.size l1 w a4 (Nat.le_refl _) o1 a1 a2 a3 (by omega)).mono ?_
  rintro e w' ⟨v, rfl, r, hb'⟩
  exact ⟨v, rfl, r, hb.trans (hb'.mono hb.size), hb'⟩
end

theorem refGcd64_any (va vb : Value) (a b : List Nat) (w : World) (hx : IsRes w va a) (hy : IsRes w vb b) (ha : Nt.Ok a) (hb : Nt.Ok b) (hs : a.length ≤ 64) (hs' : b.length ≤ 64) :
    Calls Try.prog 60 #[va, vb] w fun e w' => ∃ v, e = .returned v ∧ IsRes w' v (Nt.digs (Nat.gcd (Nt.val a) (Nt.val b))) ∧ Below w.heap.size w w' := by
  have hda := Nt.digs_len_le ha
  have hdb := Nt.digs_len_le hb
  have NA := Lib.hid (rNorm_res hx ha (by omega) (Below.refl _ _))
  have NB := Lib.hid (fun (wx : World) (h : Below w.heap.size w wx) => rNorm_res (hy.below h) hb (by omega) h)
  have EU := Lib.hid (Nt.euc_start ha hb hs hs')
  obtain ⟨N, hN⟩ : ∃ N, N = 32 * 64 + 32 * 64 + 1 := ⟨_, rfl⟩
  rw [← hN] at EU
  have HN : Hid (N < 100000) := Lib.hid (by omega)
  clear hN
  have hla : (Nt.digs (Nt.val a)).length ≤ 1000000 := by omega
  have hlb : (Nt.digs (Nt.val b)).length ≤ 1000000 := by omega
  clear hx hy ha hb hs hs' hda hdb
  obtain ⟨x0, hx0⟩ : ∃ x, x = Nt.val a := ⟨_, rfl⟩
  obtain ⟨y0, hy0⟩ : ∃ y, y = Nt.val b := ⟨_, rfl⟩
  rw [← hx0] at NA EU hla ⊢
  rw [← hy0] at NB EU hlb ⊢
  clear hx0 hy0
  go_enter Try.func60, Try.ntmps60
  go_wp2_with fail
  refine NA.out.mono ?_
  rintro e w1 ⟨v1, rfl, hr1, hb1, _⟩
  go_wp2_with fail
  refine (NB.out w1 hb1).mono ?_
  rintro e w2 ⟨v2, rfl, hr2, hb2, hb12⟩
  have hr1' := hr1.below hb12
  obtain ⟨A, c, rfl, a1, a2, a3, a4⟩ := hr1'
  obtain ⟨A', c', rfl, b1, b2, b3, b4⟩ := hr2
  have HR0 : Hid (IsRes w2 (.slice A (Nt.digs x0).length c) (Nt.digs x0) ∧ IsRes w2 (.slice A' (Nt.digs y0).length c') (Nt.digs y0)) := Lib.hid ⟨⟨_, _, rfl, a1, a2, a3, a4⟩, ⟨_, _, rfl, b1, b2, b3, b4⟩⟩
  clear hr1 hb1 hb12 a1 a2 a3 a4 b1 b2 b3 b4 NA NB
  go_wp2_with fail
  go_loopg [5, 6, 7] 100000 (fun gk av bv kv wr => ∃ (A A' : Option Addr) (c c' x y k : Nat), av = .slice A (Nt.digs x).length c ∧ bv = .slice A' (Nt.digs y).length c' ∧ kv = .int .i64 (k : Int) ∧ Hid (k + gk = 100000) ∧ Hid (Nt.EucAt (2 ^ N) x y k) ∧ Hid (IsRes wr (.slice A (Nt.digs x).length c) (Nt.digs x) ∧ IsRes wr (.slice A' (Nt.digs y).length c') (Nt.digs y)) ∧ (Nt.digs x).length ≤ 1000000 ∧ (Nt.digs y).length ≤ 1000000 ∧ Hid (Nat.gcd x y = Nat.gcd x0 y0) ∧ Below w.heap.size w wr)
  case atStart => exact ⟨_, _, _, _, x0, y0, 0, rfl, rfl, rfl, Lib.hid (by omega), EU, HR0, hla, hlb, Lib.hid rfl, hb2⟩
  case round =>
    clear EU HR0 hla hlb hb2
    obtain ⟨P, P', k1, k2, x, y, k, rfl, rfl, rfl, HK, EU, HR, hlx, hly, HG, hbel⟩ := hrel
    by_cases h0 : y = 0
    · subst h0
      have HZ : Hid ((Nt.digs 0).length = 0) := Lib.hid (by rw [Nt.digs_zero]; rfl)
      have HE : Hid (Nat.gcd x0 y0 = x) := Lib.hid (by rw [← HG.out, Nat.gcd_zero_right])
      have HRX := Lib.hid HR.out.1
      rw [HZ.out]
      clear HG HR
      rcases Bool.eq_false_or_eq_true (decide ((k : Int) < 100000)) with hk2 | hk2
      · go_wp2_with fail
        go_ret
        exact ⟨_, rfl, by rw [HE.out]; exact HRX.out, hbel⟩
      · go_wp2_with fail
        go_ret
        exact ⟨_, rfl, by rw [HE.out]; exact HRX.out, hbel⟩
    · have hlp : 0 < (Nt.digs y).length := by
        rcases Nat.eq_zero_or_pos (Nt.digs y).length with h | h
        · exact absurd (Nt.digs_nil_iff.1 (List.eq_nil_of_length_eq_zero h)) h0
        · exact h
      have HK2 : Hid (k < 100000) := Lib.hid (by
        rcases Nat.lt_or_ge k 100000 with h | h
        · exact h
        · exact absurd (EU.out.done (by have := HN.out; omega)) h0)
      have hk2 : decide ((k : Int) < 100000) = true := by have := HK2.out; simp; omega
      have hkb : k < 1000000000 := by have := HK2.out; omega
      have DM := Lib.hid (rDivMod_res (w0 := w) HR.out.1 HR.out.2 (Nt.ok_digs x) (Nt.ok_digs y) hlx hly hbel)
      rw [Nt.val_digs, Nt.val_digs, Nt.rest_pos h0] at DM
      have hyp : x % y < y := Nat.mod_lt _ (by omega)
      have hlr : (Nt.digs (x % y)).length ≤ 1000000 := by
        have h := Nt.digs_len_le_of (Nat.le_of_lt hyp)
        omega
      have HG2 : Hid (Nat.gcd y (x % y) = Nat.gcd x0 y0) := Lib.hid (by rw [Nt.gcd_step]; exact HG.out)
      have EU2 := Lib.hid (EU.out.step (by omega))
      have HRY := Lib.hid HR.out.2
      clear HR HG h0 EU
      obtain ⟨r, hr⟩ : ∃ r, r = x % y := ⟨_, rfl⟩
      rw [← hr] at DM hyp hlr HG2 EU2
      clear hr
      go_wp2_with fail
      refine DM.out.mono ?_
      rintro e w1 ⟨u1, u2, rfl, hr1, hr2, hb1, hb01⟩
      have hry := HRY.out.below hb01
      obtain ⟨A2, c2, rfl, q1, q2, q3, q4⟩ := hr2
      have hr2' : IsRes w1 (.slice A2 (Nt.digs r).length c2) (Nt.digs r) := ⟨A2, c2, rfl, q1, q2, q3, q4⟩
      clear q1 q2 q3 q4 hr1 hb01 HRY DM
      have HRN := Lib.hid (And.intro hry hr2')
      clear hry hr2'
      go_wp2_with fail
      go_roundg (gk - 1)
      case measure => have := HK2.out; have := HK.out; omega
      case rel => exact ⟨_, _, _, _, y, r, k + 1, rfl, rfl, by go_num, Lib.hid (by have := HK2.out; have := HK.out; omega), EU2, HRN, hly, hlr, HG2, hb1⟩


/-- Limbs, at most 64. -/
def ResL (w : World) (v : Value) (l : List Nat) : Prop := IsRes w v l ∧ Nt.Ok l ∧ l.length ≤ 64
theorem ResL.below {w w' : World} {v : Value} {l : List Nat} (h : ResL w v l) (hb : Below w.heap.size w w') : ResL w' v l := ⟨h.1.below hb, h.2⟩
/-- A row of limbs does not lie where no limbs lie. -/
theorem IsRes.setRow {w : World} {v : Value} {l : List Nat} {g : Nat} {old : Array Value} {t : TypeId} (h : IsRes w v l) (hg : w.heap[g]? = some (.cells old t (0, 0))) (ho : ∀ (i : Nat) (k : IntKind) (n : Int), old[i]? ≠ some (Value.int k n)) (cs : Array Value) : IsRes (w.setRow g cs) v l := by
  obtain ⟨A, c, h1, h2, h3, h4, h5⟩ := h
  refine ⟨A, c, h1, h2, h3, h4, ?_⟩
  rcases h5 with h5 | ⟨b, off, e, hb, hc⟩
  · exact .inl h5
  · cases l with
    | nil => exact .inl rfl
    | cons x r =>
      have hne : b ≠ g := by
        rintro rfl
        have h0 := hc 0 _ rfl
        rw [cell_of_row w b (off + 0) old t (0, 0) hg] at h0
        exact ho _ _ _ h0
      refine .inr ⟨b, off, e, by rw [size_setRow]; exact hb, fun i u hu => ?_⟩
      rw [World.cell?_of_block (w := w) (by simp only [World.setRow, Array.getElem?_modify]; rw [if_neg (by omega)])]
      exact hc i u hu
theorem ResL.setRow {w : World} {v : Value} {l : List Nat} {g : Nat} {old : Array Value} {t : TypeId} (h : ResL w v l) (hg : w.heap[g]? = some (.cells old t (0, 0))) (ho : ∀ (i : Nat) (k : IntKind) (n : Int), old[i]? ≠ some (Value.int k n)) (cs : Array Value) : ResL (w.setRow g cs) v l := ⟨h.1.setRow hg ho cs, h.2⟩
theorem two_no_int (n : Bool) (A : Option Addr) (k c : Nat) : ∀ (i : Nat) (kk : IntKind) (m : Int), (#[.bool n, .slice A k c] : Array Value)[i]? ≠ some (Value.int kk m) := by
  intro i kk m h
  match i with
  | 0 => cases h
  | 1 => cases h
  | i + 2 => simp at h
theorem three_no_int (n : Bool) (A : Option Addr) (k c : Nat) (A' : Option Addr) (k' c' : Nat) : ∀ (i : Nat) (kk : IntKind) (m : Int), (#[.bool n, .slice A k c, .slice A' k' c'] : Array Value)[i]? ≠ some (Value.int kk m) := by
  intro i kk m h
  match i with
  | 0 => cases h
  | 1 => cases h
  | 2 => cases h
  | i + 3 => simp at h
theorem int3_info : (Try.prog.info? 79).map (·.size) = some 2 := by kernel_rfl
theorem num_info : (Try.prog.info? 58).map (·.size) = some 3 := by kernel_rfl
theorem two_one (n : Bool) (A : Option Addr) (k c : Nat) : (#[.bool n, .slice A k c] : Array Value).all (·.oneCell') = true := by simp [Value.oneCell']
theorem three_one (n : Bool) (A : Option Addr) (k c : Nat) (A' : Option Addr) (k' c' : Nat) : (#[.bool n, .slice A k c, .slice A' k' c'] : Array Value).all (·.oneCell') = true := by simp [Value.oneCell']
theorem rBelow.setRow {B : Nat} {a w : World} (h : Below B a w) {g : Nat} (hg : B ≤ g) (cs : Array Value) : Below B a (w.setRow g cs) :=
  ⟨h.os, h.tape, h.output, by rw [size_setRow]; exact h.size, fun k hk => by
    have e : (w.setRow g cs).heap[k]? = w.heap[k]? := by
      simp only [World.setRow, Array.getElem?_modify]
      rw [if_neg (by omega)]
    rw [e]; exact h.block k hk⟩
theorem rheap_same {w : World} {g : Nat} {old cs : Array Value} {t : TypeId} (h : w.heap[g]? = some (.cells old t (0, 0))) : (w.setRow g cs).heap[g]? = some (.cells cs t (0, 0)) := by
  simp [World.setRow, Array.getElem?_modify, h]

/-- A whole number, made anew. -/
def Int3Out (w : World) (n : Bool) (l : List Nat) (e : Ending) (w' : World) : Prop := ∃ v, e = .returned (.agg #[.bool n, v]) ∧ ResL w' v l ∧ Below w.heap.size w w'

theorem norm3_any (n : Bool) (v : Value) (l : List Nat) (w : World) (h : ResL w v l) :
    Calls Try.prog 59 #[.agg #[.bool n, v]] w (Int3Out w (Rt.nrm n (Nt.val l)) (Nt.digs (Nt.val l))) := by
  obtain ⟨hr, ho, hl⟩ := h
  have hb0 : ∀ o1 o2, Below w.heap.size w ((w.alloc o1).alloc o2) := fun o1 o2 => ((Below.refl _ _).alloc (Nat.le_refl _) _).alloc (by simp) _
  have HN := Lib.hid (fun o1 o2 => rNorm_res (hr.below (hb0 o1 o2)) ho (by omega) (hb0 o1 o2))
  have hd := Nt.digs_len_le ho
  have HO : Hid (Nt.Ok (Nt.digs (Nt.val l)) ∧ (Nt.digs (Nt.val l)).length ≤ 64) := Lib.hid ⟨Nt.ok_digs _, by omega⟩
  have HZ : Hid ((Nt.digs (Nt.val l)).length = 0 → Nt.digs (Nt.val l) = [] ∧ Rt.nrm n (Nt.val l) = false) := Lib.hid (fun e => by
    have e1 := List.eq_nil_of_length_eq_zero e
    have e2 := Nt.digs_nil_iff.1 e1
    exact ⟨e1, by rw [e2]; simp [Rt.nrm]⟩)
  have HY : Hid ((Nt.digs (Nt.val l)).length ≠ 0 → Rt.nrm n (Nt.val l) = n) := Lib.hid (fun e => by
    have e2 : Nt.val l ≠ 0 := fun e3 => e (by rw [e3, Nt.digs_zero]; rfl)
    have e3 : (Nt.val l == 0) = false := by simpa using e2
    simp [Rt.nrm, e3])
  have HB := Lib.hid hb0
  obtain ⟨A, c, rfl, -, -, -, -⟩ := hr
  clear ho hl hd hb0
  generalize Nt.digs (Nt.val l) = d at *
  generalize Rt.nrm n (Nt.val l) = N at *
  generalize l.length = ll at *
  have HI2 : Hid (∀ (b : Bool) (A : Option Addr) (k c : Nat), (Try.prog.info? 79).map (·.size) = some (#[.bool b, .slice A k c] : Array Value).size) := Lib.hid (fun _ _ _ _ => int3_info)
  go_enter Try.func59, Try.ntmps59
  go_wp2_with fail
  refine (HN.out _ _).mono ?_
  rintro e w2 ⟨v2, rfl, hr2, hb2, hb3⟩
  have hs2 := hb3.size
  have HG1 : Hid (w2.heap[w.heap.size + 1]? = some (.cells #[.bool false, .slice none 0 0] 79 (0, 0))) := Lib.hid ((hb3.block (w.heap.size + 1) (by simp)).trans (by
    have := heap_alloc_new (w.alloc (.cells #[.bool n, .slice A ll c] 79)) (.cells #[.bool false, .slice none 0 0] 79)
    rwa [show (w.alloc (.cells #[.bool n, .slice A ll c] 79)).heap.size = w.heap.size + 1 by simp] at this))
  have q0 : w2.cell? ⟨w.heap.size, 0, none⟩ = some (.bool n) := (hb3.cell (p := ⟨w.heap.size, 0, none⟩) (by show w.heap.size < _; simp; omega)).trans (by go_simp)
  obtain ⟨A2, c2, rfl, k1, k2, k3, k4⟩ := hr2
  have HR2 : Hid (IsRes w2 (.slice A2 d.length c2) d) := Lib.hid ⟨A2, c2, rfl, k1, k2, k3, k4⟩
  clear k3 k4 hb3
  by_cases h0 : d.length = 0
  · have hz : ((d.length : Int) == 0) = true := by rw [h0]; rfl
    have HD := Lib.hid (HZ.out h0)
    clear h0
    go_wp2_with (first
      | (with_reducible refine wpList_store_row rfl 79 (.tmp 2) (.tmp 10) rfl (w.heap.size + 1) #[.bool false, .slice none 0 0] rfl rfl 79 #[.bool false, .slice none 0 0] HG1.out (HI2.out _ _ _ _) rfl (two_one _ _ _ _) ?_))
    refine bodyPost_ret (results_cell_row (by rfl) _ _ (w.heap.size + 1) 79 #[.bool false, .slice none 0 0] (0, 0) _ (by rfl) (rheap_same HG1.out) Try.underlying79 rfl (HI2.out _ _ _ _)) rfl ⟨.slice none 0 0, by rw [HD.out.2], by rw [HD.out.1]; exact ⟨⟨none, 0, rfl, Nat.le_refl _, by omega, fun _ => rfl, .inl rfl⟩, (fun x h => by cases h), by simp⟩, rBelow.setRow hb2 (by omega) _⟩
  · have hz : ((d.length : Int) == 0) = false := beq_eq_false_iff_ne.2 (by omega)
    have HD := Lib.hid (HY.out h0)
    clear h0
    go_wp2_with (first
      | (with_reducible refine wpList_store_row rfl 79 (.tmp 2) (.tmp 14) rfl (w.heap.size + 1) #[.bool n, .slice A2 d.length c2] rfl rfl 79 #[.bool false, .slice none 0 0] HG1.out (HI2.out _ _ _ _) rfl (two_one _ _ _ _) ?_))
    refine bodyPost_ret (results_cell_row (by rfl) _ _ (w.heap.size + 1) 79 #[.bool n, .slice A2 d.length c2] (0, 0) _ (by rfl) (rheap_same HG1.out) Try.underlying79 rfl (HI2.out _ _ _ _)) rfl ⟨.slice A2 d.length c2, by rw [HD.out], ⟨HR2.out.setRow HG1.out (two_no_int _ _ _ _) _, HO.out⟩, rBelow.setRow hb2 (by omega) _⟩
end Go.Proofs.Ytfiobbhicicchaa
