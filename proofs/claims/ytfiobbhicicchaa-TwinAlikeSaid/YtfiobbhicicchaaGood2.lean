/-
  Which arrays may be, by the reference: scrimref08.zero, Simple, Cell, Right. (Printed by wip/bin/gen_good2.py.)
-/
import Derived.Test.YtfiobbhicicchaaGood1
import Derived.Test.YtfiobbhicicchaaRat3
namespace Go.Proofs.Ytfiobbhicicchaa
open Go.RowKit Ar
set_option maxHeartbeats 4000000
set_option maxRecDepth 100000
set_option linter.unusedVariables false

theorem empty_len {α : Type} {l : List α} (h : l.length = 0) : l.isEmpty = true := by rw [List.eq_nil_of_length_eq_zero h]; rfl
theorem not_empty_len {α : Type} {l : List α} (h : l.length ≠ 0) : l.isEmpty = false := by
  cases l
  · exact absurd rfl h
  · rfl
theorem simple_sh {S : Nat} {sh : List Int} {cells : List Cel} (h : sh.length ≠ 0) : simpleB (.mk S sh cells) = false := by
  have h0 := not_empty_len h
  unfold simpleB
  split
  · rename_i e; injection e with e1 e2 e3; subst e2; rw [h0]; rfl
  · rfl
theorem simple_len {S : Nat} {sh : List Int} {cells : List Cel} (h : cells.length ≠ 1) : simpleB (.mk S sh cells) = false := by
  unfold simpleB
  split
  · rename_i e; injection e with e1 e2 e3; subst e3; exact absurd rfl h
  · rfl
theorem simple_one {S L : Nat} {sh : List Int} {cells : List Cel} {k : Int} {n : Bool} {t b : List Nat} {c : Int} {ins : List Arr} (h0 : sh.length = 0) (h1 : cells.length = 1) (h : cells[0]'(by omega) = .mk L k n t b c ins) : simpleB (.mk S sh cells) = (k != 2) := by
  cases cells with
  | nil => cases h1
  | cons x r =>
    cases r with
    | cons y s => simp at h1
    | nil =>
      simp at h
      subst h
      show (sh.isEmpty && (k != 2)) = _
      rw [empty_len h0]; rfl

theorem refZero_any (n : Bool) (t b : List Nat) (A A' : Option Addr) (c c' : Nat) (w : World) (k1 : t.length ≤ 9223372036854775807) (k2 : b.length ≤ 9223372036854775807) :
    Calls Try.prog 49 #[.agg #[.bool n, .slice A t.length c, .slice A' b.length c']] w fun e w' => e = .returned (.bool (zeroB n t b)) ∧ Below w.heap.size w w' := by
  have HR : Hid (zeroB n t b = (!n && t.isEmpty && b.isEmpty)) := Lib.hid rfl
  generalize zeroB n t b = R at *
  have HT0 := Lib.hid (fun h => empty_len (l := t) h)
  have HT1 := Lib.hid (fun h => not_empty_len (l := t) h)
  have HB0 := Lib.hid (fun h => empty_len (l := b) h)
  have HB1 := Lib.hid (fun h => not_empty_len (l := b) h)
  generalize t.isEmpty = x at *
  generalize b.isEmpty = y at *
  generalize t.length = l1 at *
  generalize b.length = l2 at *
  cases n
  · by_cases ht : l1 = 0
    · have q1 : ((l1 : Int) == 0) = true := beq_iff_eq.2 (by omega)
      have HT := Lib.hid (HT0.out ht)
      clear ht HT0 HT1
      by_cases hb : l2 = 0
      · have q2 : ((l2 : Int) == 0) = true := beq_iff_eq.2 (by omega)
        have HB := Lib.hid (HB0.out hb)
        clear hb HB0 HB1
        go_enter Try.func49, Try.ntmps49
        go_wp2_with fail
        go_ret
        exact ⟨ret_bool (by rw [HR.out, HT.out, HB.out]; rfl), (Below.refl _ _).alloc (Nat.le_refl _) _⟩
      · have q2 : ((l2 : Int) == 0) = false := beq_eq_false_iff_ne.2 (by omega)
        have HB := Lib.hid (HB1.out hb)
        clear hb HB0 HB1
        go_enter Try.func49, Try.ntmps49
        go_wp2_with fail
        go_ret
        exact ⟨ret_bool (by rw [HR.out, HT.out, HB.out]; rfl), (Below.refl _ _).alloc (Nat.le_refl _) _⟩
    · have q1 : ((l1 : Int) == 0) = false := beq_eq_false_iff_ne.2 (by omega)
      have HT := Lib.hid (HT1.out ht)
      clear ht HT0 HT1
      go_enter Try.func49, Try.ntmps49
      go_wp2_with fail
      go_ret
      exact ⟨ret_bool (by rw [HR.out, HT.out]; rfl), (Below.refl _ _).alloc (Nat.le_refl _) _⟩
  · go_enter Try.func49, Try.ntmps49
    go_wp2_with fail
    go_ret
    exact ⟨ret_bool (by rw [HR.out]; rfl), (Below.refl _ _).alloc (Nat.le_refl _) _⟩

theorem refSimple_any (a : Arr) (vs : List Value) (w : World) (B : Nat) (h : IsArr w B a vs) (hB : B ≤ w.heap.size) :
    Calls Try.prog 51 #[.agg vs.toArray] w fun e w' => e = .returned (.bool (simpleB a)) ∧ Below w.heap.size w w' := by
  obtain ⟨S, shape, cells⟩ := a
  rw [IsArr] at h
  obtain ⟨A, c, A', c', us, rfl, hS, hf, hf', hw, hl, hl', hcs⟩ := h
  have hfl := (hf'.le (by omega))
  have hfs : shape.length ≤ 17592186044416 := by have h1 := hf.1; have h2 := hf.2; omega
  have H0 := Lib.hid (fun h => simple_sh (S := S) (sh := shape) (cells := cells) h)
  have H1 := Lib.hid (fun h => simple_len (S := S) (sh := shape) (cells := cells) h)
  by_cases h0 : shape.length = 0
  · have q1 : ((shape.length : Int) == 0) = true := beq_iff_eq.2 (by omega)
    by_cases h1 : cells.length = 1
    · have q2 : ((cells.length : Int) == 1) = true := beq_iff_eq.2 (by omega)
      obtain ⟨b, off, L, kind, neg, top, bot, ch, ins, A1, c1, A2, c2, A3, c3, us3, rfl, hb, hL, HX, t1, t2, t3, t4, t5, t6, g0, g1, g2, g3, g4, g5, g6⟩ := cel_at (k := 0) hcs hl' (wr := w.alloc (.cells #[.int .u64 (S : Int), .slice A shape.length c, .slice A' cells.length c'] 42)) (fun p hp => ((Below.refl w.heap.size w).alloc (Nat.le_refl _) _).cell (by omega)) (by omega)
      have HS := Lib.hid (simple_one (S := S) h0 h1 HX.out.eq)
      have hcl : (1 : Int) ≤ (cells.length : Int) := by omega
      simp only [Nat.zero_mul, Nat.add_zero] at g1
      clear HX H0 H1 h0 h1 hcs hl' hl hf hf' hw g0 g2 g3 g4 g5 g6
      generalize simpleB (.mk S shape cells) = R at *
      generalize shape.length = z1 at *
      generalize cells.length = z2 at *
      go_enter Try.func51, Try.ntmps51
      go_wp2_with fail
      go_ret
      exact ⟨ret_bool (by rw [HS.out]), (Below.refl _ _).alloc (Nat.le_refl _) _⟩
    · have q2 : ((cells.length : Int) == 1) = false := beq_eq_false_iff_ne.2 (by omega)
      have HS := Lib.hid (H1.out h1)
      clear H0 H1 h0 h1 hcs hl' hl hf hf' hw
      generalize simpleB (.mk S shape cells) = R at *
      generalize shape.length = z1 at *
      generalize cells.length = z2 at *
      go_enter Try.func51, Try.ntmps51
      go_wp2_with fail
      go_ret
      exact ⟨ret_bool (by rw [HS.out]), (Below.refl _ _).alloc (Nat.le_refl _) _⟩
  · have q1 : ((shape.length : Int) == 0) = false := beq_eq_false_iff_ne.2 (by omega)
    have HS := Lib.hid (H0.out h0)
    clear H0 H1 h0 hcs hl' hl hf hf' hw
    generalize simpleB (.mk S shape cells) = R at *
    generalize shape.length = z1 at *
    generalize cells.length = z2 at *
    go_enter Try.func51, Try.ntmps51
    go_wp2_with fail
    go_ret
    exact ⟨ret_bool (by rw [HS.out]), (Below.refl _ _).alloc (Nat.le_refl _) _⟩
end Go.Proofs.Ytfiobbhicicchaa
