/-
  slices.Clone of arrays and of numbers; twin.Blind.
-/
import Derived.Test.YtfiobbhicicchaaTwin1
import Derived.Test.YtfiobbhicicchaaBlk
import Derived.Lib.SliceRun
namespace Go.Proofs.Ytfiobbhicicchaa
open Go.RowKit Ar
set_option maxHeartbeats 2000000
set_option maxRecDepth 100000
set_option linter.unusedVariables false

/-- A slice of so many elements whose cells are these. -/
def CloneOut (w : World) (n : Nat) (us : List Value) (e : Ending) (w' : World) : Prop := ∃ A' c', e = .returned (.slice A' n c') ∧ n ≤ c' ∧ c' ≤ 9223372036854775807 ∧ Lies w' w'.heap.size A' us ∧ (∀ b off, A' = some ⟨b, off, none⟩ → w.heap.size ≤ b) ∧ Below w.heap.size w w'
theorem arr_info : (Try.prog.info? 42).map (fun i => (i.zero, i.size, i.bytes)) = some (some (.agg #[.int .u64 0, .slice none 0 0, .slice none 0 0]), 3, 56) := by kernel_rfl
theorem int_info : (Try.prog.info? 3).map (fun i => (i.zero, i.size, i.bytes)) = some (some (.int .i64 0), 1, 8) := by kernel_rfl
theorem IsArrs.one {w : World} {B : Nat} : ∀ {l : List Arr} {us : List Value}, IsArrs w B l us → ∀ u ∈ us, u.oneCell' = true
  | [], us, h => by rw [IsArrs] at h; subst h; simp
  | a :: r, us, h => by
    rw [IsArrs] at h
    obtain ⟨u, t, rfl, h1, h2⟩ := h
    obtain ⟨S, X, n, c, Y, m, d, rfl⟩ := h1.form
    intro v hv
    rcases List.mem_append.1 hv with hv | hv
    · simp only [List.mem_cons, List.not_mem_nil, or_false] at hv
      rcases hv with rfl | rfl | rfl <;> rfl
    · exact h2.one v hv
theorem add_off (b off j : Nat) : (⟨b, off, none⟩ : Addr).add j = ⟨b, off + j, none⟩ := by
  unfold Addr.add; split <;> simp_all

theorem cloneArrs_any (n c : Nat) (us : List Value) (A : Option Addr) (w : World) (B : Nat) (h : Lies w B A us) (hlen : us.length = 3 * n) (h1 : ∀ u ∈ us, u.oneCell' = true) (hB : B ≤ w.heap.size) (hn : n ≤ c) (hc : c ≤ 9223372036854775807) (hnb : n * 56 ≤ 140737488351232) :
    Calls Try.prog 21 #[.slice A n c] w (CloneOut w n us) := by
  obtain ⟨i0, hi, hz0, hz1, hz2⟩ := info_parts arr_info
  have hnil := fun w => Lib.run_eql_slice_nil (P := Try.prog) w 24 42 A n c 0 0 Try.underlying24
  have HL := Lib.hid hlen
  have H1 := Lib.hid h1
  have HH := Lib.hid h
  clear hlen h1 h
  cases A with
  | none =>
    have hus : us = [] := by
      rcases HH.out with h | ⟨b, off, h, _⟩
      · exact h
      · cases h
    have hn0 : n = 0 := by have := HL.out; rw [hus] at this; simp at this; omega
    subst hus hn0
    clear HL H1 HH
    go_enter Try.func21, Try.ntmps21
    go_wp2_with fail
    go_ret
    exact ⟨none, 0, rfl, Nat.le_refl _, by omega, .inl rfl, nofun, Below.refl _ _⟩
  | some ad =>
    have hnews : Hid (∀ j u, us[j]? = some u → (w.alloc (.cells #[] 42)).cell? (ad.add j) = some u) := Lib.hid (by
      intro j u hu
      rcases HH.out with h | ⟨b, off, h, hb, hcell⟩
      · rw [h] at hu; cases hu
      · injection h with h
        subst h
        rw [add_off]
        exact (((Below.refl w.heap.size w).alloc (Nat.le_refl _) (Obj.cells #[] 42)).cell (p := ⟨b, off + j, none⟩) (show b < w.heap.size by omega)).trans (hcell j u hu))
    have hown : (w.alloc (.cells #[] 42)).ownsRow w.heap.size 42 3 (.slice (some ⟨w.heap.size, 0, none⟩) 0 0) 0 [] := ⟨by simp, .inr ⟨w.heap.size, 0, #[], rfl, Nat.le_refl _, heap_alloc_new _ _, Nat.le_refl _, Nat.zero_le _, by simp, by simp⟩⟩
    have hb0 : Below w.heap.size w (w.alloc (.cells #[] 42)) := (Below.refl _ _).alloc (Nat.le_refl _) _
    go_enter Try.func21, Try.ntmps21
    go_wp2_with (at_builtin; refine wpList_append_own _ rfl (.tmp 5) (.tmp 6) 24 rfl w.heap.size 42 i0 (.agg #[.int .u64 0, .slice none 0 0, .slice none 0 0]) 3 56 Try.underlying24 hi hz0 hz1 hz2 rfl (by decide) (.slice (some ⟨w.heap.size, 0, none⟩) 0 0) 0 [] rfl hown ad n c us rfl (by rw [HL.out, Nat.mul_comm]) hnews.out H1.out (by unfold maxLen; omega) (by omega) (by simp) ?_; intro v1 w1 hown1 hgrow1 hnn1; obtain ⟨A1, c1, rfl, hc1, hc2⟩ := own_slice hown1)
    go_ret
    simp only [Nat.zero_add, List.nil_append] at hown1 hc1
    exact ⟨A1, c1, by simp, hc1, hc2, Lies.of_own hown1, (fun b off e => (hown1.lt b (by rw [e]; rfl)).1), hb0.grown hgrow1 hb0.size (fun g hg => (hown.lt g hg).1)⟩

theorem cloneInts_any (n c : Nat) (us : List Value) (A : Option Addr) (w : World) (B : Nat) (h : Lies w B A us) (hlen : us.length = n) (h1 : ∀ u ∈ us, u.oneCell' = true) (hB : B ≤ w.heap.size) (hn : n ≤ c) (hc : c ≤ 9223372036854775807) (hnb : n * 8 ≤ 140737488351232) :
    Calls Try.prog 22 #[.slice A n c] w (CloneOut w n us) := by
  obtain ⟨i0, hi, hz0, hz1, hz2⟩ := info_parts int_info
  have hnil := fun w => Lib.run_eql_slice_nil (P := Try.prog) w 26 3 A n c 0 0 Try.underlying26
  have HL := Lib.hid hlen
  have H1 := Lib.hid h1
  have HH := Lib.hid h
  clear hlen h1 h
  cases A with
  | none =>
    have hus : us = [] := by
      rcases HH.out with h | ⟨b, off, h, _⟩
      · exact h
      · cases h
    have hn0 : n = 0 := by have := HL.out; rw [hus] at this; exact this.symm
    subst hus hn0
    clear HL H1 HH
    go_enter Try.func22, Try.ntmps22
    go_wp2_with fail
    go_ret
    exact ⟨none, 0, rfl, Nat.le_refl _, by omega, .inl rfl, nofun, Below.refl _ _⟩
  | some ad =>
    have hnews : Hid (∀ j u, us[j]? = some u → (w.alloc (.cells #[] 3)).cell? (ad.add j) = some u) := Lib.hid (by
      intro j u hu
      rcases HH.out with h | ⟨b, off, h, hb, hcell⟩
      · rw [h] at hu; cases hu
      · injection h with h
        subst h
        rw [add_off]
        exact (((Below.refl w.heap.size w).alloc (Nat.le_refl _) (Obj.cells #[] 3)).cell (p := ⟨b, off + j, none⟩) (show b < w.heap.size by omega)).trans (hcell j u hu))
    have hown : (w.alloc (.cells #[] 3)).ownsRow w.heap.size 3 1 (.slice (some ⟨w.heap.size, 0, none⟩) 0 0) 0 [] := ⟨by simp, .inr ⟨w.heap.size, 0, #[], rfl, Nat.le_refl _, heap_alloc_new _ _, Nat.le_refl _, Nat.zero_le _, by simp, by simp⟩⟩
    have hb0 : Below w.heap.size w (w.alloc (.cells #[] 3)) := (Below.refl _ _).alloc (Nat.le_refl _) _
    go_enter Try.func22, Try.ntmps22
    go_wp2_with (at_builtin; refine wpList_append_own _ rfl (.tmp 5) (.tmp 6) 26 rfl w.heap.size 3 i0 (.int .i64 0) 1 8 Try.underlying26 hi hz0 hz1 hz2 rfl (by decide) (.slice (some ⟨w.heap.size, 0, none⟩) 0 0) 0 [] rfl hown ad n c us rfl (by rw [HL.out]; simp) hnews.out H1.out (by unfold maxLen; omega) (by omega) (by simp) ?_; intro v1 w1 hown1 hgrow1 hnn1; obtain ⟨A1, c1, rfl, hc1, hc2⟩ := own_slice hown1)
    go_ret
    simp only [Nat.zero_add, List.nil_append] at hown1 hc1
    exact ⟨A1, c1, by simp, hc1, hc2, Lies.of_own hown1, (fun b off e => (hown1.lt b (by rw [e]; rfl)).1), hb0.grown hgrow1 hb0.size (fun g hg => (hown.lt g hg).1)⟩

theorem blind_any (l l' : List Rec) (us us' : List Value) (A A' : Option Addr) (c c' : Nat) (w : World) (B : Nat) (h : IsRecs w B l us) (h' : IsRecs w B l' us') (hl : Lies w B A us) (hl' : Lies w B A' us') (hB : B ≤ w.heap.size) (k1 : l.length ≤ 35184372088832) (k2 : l'.length ≤ 35184372088832) :
    Calls Try.prog 16 #[.slice A l.length c, .slice A' l'.length c'] w fun e w' => e = .returned (.bool (blindB l l')) ∧ Below w.heap.size w w' := by
  have AP := Lib.hid (apart_any l l' us us' A A' c c' w B h h' hl hl' hB k1 k2)
  have HS := Lib.hid h
  have HS' := Lib.hid h'
  have HL := Lib.hid hl
  have HL' := Lib.hid hl'
  clear h h' hl hl'
  rcases apartFrom_lt 0 l l' with ha | ⟨k, ha, hk1, hk2⟩
  · have HB : Hid (blindB l l' = true) := Lib.hid (by unfold blindB; rw [ha]; rfl)
    rw [ha] at AP
    clear ha
    go_enter Try.func16, Try.ntmps16
    go_wp2_with fail
    refine AP.out.mono ?_
    rintro e w2 ⟨rfl, hb2⟩
    go_wp2_with fail
    go_ret
    exact ⟨ret_bool (by rw [HB.out]), hb2⟩
  · rw [Nat.zero_add] at ha
    have HB : Hid (blindB l l' = ((l[k].kind == 2) && (l'[k].kind == 2) && (l[k].to == l'[k].to))) := Lib.hid (by
      unfold blindB blindAt
      rw [ha]
      simp [List.getElem?_eq_getElem hk1, List.getElem?_eq_getElem hk2]
      intro h; omega)
    rw [ha] at AP
    clear ha
    go_enter Try.func16, Try.ntmps16
    go_wp2_with fail
    refine AP.out.mono ?_
    rintro e w2 ⟨rfl, hb2⟩
    obtain ⟨b, off, r, S, X, xn, xc, Y, yn, yc, rfl, hb, HE, hr1, hr2, HA, g0, g1, g2, g3, g4, g5, g6, g7⟩ := rec_at HS.out HL.out (wr := w2) (fun p hp => hb2.cell (by omega)) hk1
    obtain ⟨b', off', r', S', X', xn', xc', Y', yn', yc', rfl, hb', HE', hr1', hr2', HA', g0', g1', g2', g3', g4', g5', g6', g7'⟩ := rec_at HS'.out HL'.out (wr := w2) (fun p hp => hb2.cell (by omega)) hk2
    rw [HE.out, HE'.out] at HB
    clear g1 g2 g4 g5 g6 g7 g1' g2' g4' g5' g6' g7' HE HE' HA HA' hr1 hr2 hr1' hr2'
    obtain ⟨kind, port, frm, to, cls, v⟩ := r
    obtain ⟨kind', port', frm', to', cls', v'⟩ := r'
    dsimp only at *
    have hk0 : (0 : Int) ≤ (k : Int) := by omega
    have hki : (k : Int) < (l.length : Int) := by omega
    have hki' : (k : Int) < (l'.length : Int) := by omega
    cases q1 : (kind == 2)
    · rw [q1] at HB
      go_wp2_with fail
      go_quiet (fail)
      go_wp2_with fail
      go_ret
      exact ⟨ret_bool (by rw [HB.out]; simp), below_drewN' hb2 _⟩
    · cases q2 : (kind' == 2)
      · rw [q1, q2] at HB
        go_wp2_with fail
        go_quiet (fail)
        go_wp2_with fail
        go_ret
        exact ⟨ret_bool (by rw [HB.out]; simp), below_drewN' hb2 _⟩
      · by_cases q3 : to = to'
        · subst q3
          rw [q1, q2] at HB
          go_wp2_with fail
          go_quiet (fail)
          go_wp2_with fail
          go_ret
          exact ⟨ret_bool (by rw [HB.out]; simp), below_drewN' hb2 _⟩
        · have q4 : ((to : Int) == (to' : Int)) = false := by simp; omega
          have q5 : (to == to') = false := by simpa using q3
          rw [q1, q2, q5] at HB
          go_wp2_with fail
          go_quiet (fail)
          go_wp2_with fail
          go_ret
          exact ⟨ret_bool (by rw [HB.out]; simp), below_drewN' hb2 _⟩
end Go.Proofs.Ytfiobbhicicchaa
