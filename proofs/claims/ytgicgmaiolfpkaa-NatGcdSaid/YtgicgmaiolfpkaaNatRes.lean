/-
  The contracts of chapter 2's functions at numbers that calls handed back ('IsRes').
-/
import Derived.Test.YtgicgmaiolfpkaaLong5
import Derived.Test.YtgicgmaiolfpkaaNatSums
namespace Go.Proofs.Ytgicgmaiolfpkaa
open Go.RowKit
set_option maxHeartbeats 1000000
set_option linter.unusedVariables false

theorem IsRes.of_lies {w : World} {A : Option Addr} {c : Nat} {l : List Nat} (hl : Lies w w.heap.size A (U l)) (hc : l.length ≤ c) (hm : c ≤ 9223372036854775807) (hA : A = none → c = 0) : IsRes w (.slice A l.length c) l := ⟨A, c, rfl, hc, hm, hA, hl⟩

section
variable {w0 w : World} {v1 v2 : Value} {l1 l2 : List Nat}

theorem divMod_res (h1 : IsRes w v1 l1) (h2 : IsRes w v2 l2) (o1 : Nt.Ok l1) (o2 : Nt.Ok l2) (s1 : l1.length ≤ 1000000) (s2 : l2.length ≤ 1000000) (hb : Below w0.heap.size w0 w) :
    Calls Try.prog 8 #[v1, v2] w fun e w' => ∃ u1 u2, e = .returned (.tuple #[u1, u2, .bool (decide (Nt.val l2 ≠ 0))]) ∧ IsRes w' u1 (Nt.digs (Nt.quo (Nt.val l1) (Nt.val l2))) ∧ IsRes w' u2 (Nt.digs (Nt.rest (Nt.val l1) (Nt.val l2))) ∧ Below w0.heap.size w0 w' ∧ Below w.heap.size w w' := by
  obtain ⟨A, c, rfl, a1, a2, a3, a4⟩ := h1
  obtain ⟨A', c', rfl, b1, b2, b3, b4⟩ := h2
  refine (divMod_any A A' c c' w.heap.size l1 l2 w a4 b4 (Nat.le_refl _) o1 o2 a1 b1 a2 b2 s1 s2 (.inr long_any)).mono ?_
  rintro e w' ⟨u1, u2, rfl, r1, r2, hb'⟩
  exact ⟨u1, u2, rfl, r1, r2, hb.trans (hb'.mono hb.size), hb'⟩
theorem refDivMod_res (h1 : IsRes w v1 l1) (h2 : IsRes w v2 l2) (o1 : Nt.Ok l1) (o2 : Nt.Ok l2) (s1 : l1.length ≤ 1000000) (s2 : l2.length ≤ 1000000) (hb : Below w0.heap.size w0 w) :
    Calls Try.prog 9 #[v1, v2] w fun e w' => ∃ u1 u2, e = .returned (.tuple #[u1, u2, .bool (decide (Nt.val l2 ≠ 0))]) ∧ IsRes w' u1 (Nt.digs (Nt.quo (Nt.val l1) (Nt.val l2))) ∧ IsRes w' u2 (Nt.digs (Nt.rest (Nt.val l1) (Nt.val l2))) ∧ Below w0.heap.size w0 w' ∧ Below w.heap.size w w' := by
  obtain ⟨A, c, rfl, a1, a2, a3, a4⟩ := h1
  obtain ⟨A', c', rfl, b1, b2, b3, b4⟩ := h2
  refine (refDivMod_any A A' c c' w.heap.size l1 l2 w a4 b4 (Nat.le_refl _) o1 o2 a1 b1 a2 b2 b3 s1 s2).mono ?_
  rintro e w' ⟨u1, u2, rfl, r1, r2, hb'⟩
  exact ⟨u1, u2, rfl, r1, r2, hb.trans (hb'.mono hb.size), hb'⟩
theorem mul_res (h1 : IsRes w v1 l1) (h2 : IsRes w v2 l2) (o1 : Nt.Ok l1) (o2 : Nt.Ok l2) (s1 : l1.length ≤ 1000000) (s2 : l2.length ≤ 1000000) (hb : Below w0.heap.size w0 w) :
    Calls Try.prog 22 #[v1, v2] w fun e w' => ∃ v, e = .returned v ∧ IsRes w' v (Nt.digs (Nt.val l1 * Nt.val l2)) ∧ Below w0.heap.size w0 w' ∧ Below w.heap.size w w' := by
  obtain ⟨A, c, rfl, a1, a2, a3, a4⟩ := h1
  obtain ⟨A', c', rfl, b1, b2, b3, b4⟩ := h2
  refine (mul_any A A' c c' w.heap.size l1 l2 w a4 b4 (Nat.le_refl _) o1 o2 a1 b1 a2 b2 (by omega) (by omega)).mono ?_
  rintro e w' ⟨v, rfl, r, hb'⟩
  exact ⟨v, rfl, r, hb.trans (hb'.mono hb.size), hb'⟩
theorem add_res (h1 : IsRes w v1 l1) (h2 : IsRes w v2 l2) (o1 : Nt.Ok l1) (o2 : Nt.Ok l2) (s1 : l1.length ≤ 1000000) (s2 : l2.length ≤ 1000000) (hb : Below w0.heap.size w0 w) :
    Calls Try.prog 20 #[v1, v2] w fun e w' => ∃ v, e = .returned v ∧ IsRes w' v (Nt.digs (Nt.val l1 + Nt.val l2)) ∧ Below w0.heap.size w0 w' ∧ Below w.heap.size w w' := by
  obtain ⟨A, c, rfl, a1, a2, a3, a4⟩ := h1
  obtain ⟨A', c', rfl, b1, b2, b3, b4⟩ := h2
  refine (add_any A A' c c' w.heap.size l1 l2 w a4 b4 (Nat.le_refl _) o1 o2 a1 b1 a2 b2 (by omega) (by omega)).mono ?_
  rintro e w' ⟨v, rfl, r, hb'⟩
  exact ⟨v, rfl, IsRes.of_own r, hb.trans (hb'.mono hb.size), hb'⟩
theorem sub_res (h1 : IsRes w v1 l1) (h2 : IsRes w v2 l2) (o1 : Nt.Ok l1) (o2 : Nt.Ok l2) (s1 : l1.length ≤ 1000000) (s2 : l2.length ≤ 1000000) (hb : Below w0.heap.size w0 w) :
    Calls Try.prog 15 #[v1, v2] w fun e w' => ∃ v, e = .returned (.tuple #[v, .bool (decide (Nt.val l2 ≤ Nt.val l1))]) ∧ IsRes w' v (Nt.digs (Nt.val l1 - Nt.val l2)) ∧ Below w0.heap.size w0 w' ∧ Below w.heap.size w w' := by
  obtain ⟨A, c, rfl, a1, a2, a3, a4⟩ := h1
  obtain ⟨A', c', rfl, b1, b2, b3, b4⟩ := h2
  refine (sub_any A A' c c' w.heap.size l1 l2 w a4 b4 (Nat.le_refl _) o1 o2 a1 b1 a2 b2 (by omega) (by omega)).mono ?_
  rintro e w' ⟨v, rfl, r, hb'⟩
  exact ⟨v, rfl, r, hb.trans (hb'.mono hb.size), hb'⟩
theorem cmp_res (h1 : IsRes w v1 l1) (h2 : IsRes w v2 l2) (o1 : Nt.Ok l1) (o2 : Nt.Ok l2) (hb : Below w0.heap.size w0 w) :
    Calls Try.prog 17 #[v1, v2] w fun e w' => e = .returned (.int .i64 (Nt.cmp (Nt.val l1) (Nt.val l2))) ∧ Below w0.heap.size w0 w' ∧ Below w.heap.size w w' := by
  obtain ⟨A, c, rfl, a1, a2, a3, a4⟩ := h1
  obtain ⟨A', c', rfl, b1, b2, b3, b4⟩ := h2
  refine (cmp_any A A' c c' w.heap.size l1 l2 w a4 b4 o1 o2 a1 b1 a2 b2).mono ?_
  rintro e w' ⟨rfl, k, rfl⟩
  have hb1 : Below w.heap.size w (w.drewN k) := ⟨rfl, rfl, rfl, Nat.le_refl _, fun _ _ => rfl⟩
  exact ⟨rfl, hb.trans (hb1.mono hb.size), hb1⟩
theorem refNorm_res (h1 : IsRes w v1 l1) (o1 : Nt.Ok l1) (s1 : l1.length ≤ 1000000) (hb : Below w0.heap.size w0 w) :
    Calls Try.prog 14 #[v1] w fun e w' => ∃ v, e = .returned v ∧ IsRes w' v (Nt.digs (Nt.val l1)) ∧ Below w0.heap.size w0 w' ∧ Below w.heap.size w w' := by
  obtain ⟨A, c, rfl, a1, a2, a3, a4⟩ := h1
  refine (refNorm_any A c w.heap.size l1 w a4 (Nat.le_refl _) o1 a1 a2 a3 (by omega)).mono ?_
  rintro e w' ⟨v, rfl, r, hb'⟩
  exact ⟨v, rfl, r, hb.trans (hb'.mono hb.size), hb'⟩
theorem norm_res (h1 : IsRes w v1 l1) (o1 : Nt.Ok l1) (s1 : l1.length ≤ 1000000) (hb : Below w0.heap.size w0 w) :
    Calls Try.prog 19 #[v1] w fun e w' => ∃ v, e = .returned v ∧ IsRes w' v (Nt.digs (Nt.val l1)) ∧ Below w0.heap.size w0 w' ∧ Below w.heap.size w w' := by
  have hd := Nt.digs_len_le o1
  obtain ⟨A, c, rfl, a1, a2, a3, a4⟩ := h1
  refine (norm_any A c w.heap.size l1 w a4 (Nat.le_refl _) o1 a1 a2 (by omega)).mono ?_
  rintro e w' ⟨rfl, r, hb'⟩
  exact ⟨_, rfl, ⟨_, _, rfl, Nat.le_refl _, by omega, (fun h => by cases h), r.lies⟩, hb.trans (hb'.mono hb.size), hb'⟩
end

/-- The first 40 limbs of a slice that came in. -/
theorem few_res {w : World} {a : Option Addr} {len cap : Nat} {z : List Nat} (h : IsLimbs w a len cap z) : IsRes w (.slice a (z.take 40).length cap) (z.take 40) ∧ Nt.Ok (z.take 40) ∧ (z.take 40).length ≤ 40 ∧ ∀ wx : World, Calls Try.prog 7 #[.slice a len cap] wx fun e w' => e = .returned (.slice a (z.take 40).length cap) ∧ wx = w' := by
  obtain ⟨hn0, hc0, hm0, hA0, hl0, ho0⟩ := h
  subst hn0
  refine ⟨⟨a, cap, rfl, by rw [List.length_take]; omega, hm0, hA0, by rw [← U_take]; exact hl0.take 40⟩, Nt.ok_take ho0 40, by rw [List.length_take]; omega, fun wx => few_any a cap z wx hc0 hm0⟩
end Go.Proofs.Ytgicgmaiolfpkaa
