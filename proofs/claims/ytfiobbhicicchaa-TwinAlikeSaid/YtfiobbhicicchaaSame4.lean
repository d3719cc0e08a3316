/-
  Arrays compared: array.equal for all arrays. (Printed by wip/bin/gen_same4.py.)
-/
import Derived.Test.YtfiobbhicicchaaSame3
namespace Go.Proofs.Ytfiobbhicicchaa
open Go.RowKit Ar
set_option maxHeartbeats 2000000
set_option maxRecDepth 100000
set_option linter.unusedVariables false

theorem sameCel_mk (lab : Bool) (L L' : Nat) (k k' : Int) (n n' : Bool) (t t' b b' : List Nat) (c c' : Int) (ins ins' : List Arr) :
    sameCel lab (.mk L k n t b c ins) (.mk L' k' n' t' b' c' ins') = ((!lab || L == L') && (k == k') && (c == c') && sameNum n n' t t' b b' && sameArrs lab ins ins') := by
  rw [sameCel]; rfl

theorem c44_any {n : Nat} (ih : EqOK n) (x y : Cel) (vs vs' : List Value) (lab : Bool) (g : Nat) (w : World) (B : Nat) (hx : SizeOf.sizeOf x < n) (h : IsCel w B x vs) (h' : IsCel w B y vs') (hB : B ≤ w.heap.size) (hg : g < w.heap.size) (hc : w.cell? ⟨g, 0, none⟩ = some (.bool lab)) :
    Calls Try.prog 44 #[.agg vs.toArray, .agg vs'.toArray, .pointer (some ⟨g, 0, none⟩)] w fun e w' => e = .returned (.bool (sameCel lab x y)) ∧ Below w.heap.size w w' := by
  obtain ⟨L, kind, neg, top, bot, ch, ins⟩ := x
  obtain ⟨L', kind', neg', top', bot', ch', ins'⟩ := y
  rw [IsCel] at h h'
  obtain ⟨A1, c1, A2, c2, A3, c3, us, rfl, hL, hf1, hf2, hf3, hw1, hw2, hw3, hl1, hl2, hl3, hins, _⟩ := h
  obtain ⟨A1', c1', A2', c2', A3', c3', us', rfl, hL', hf1', hf2', hf3', hw1', hw2', hw3', hl1', hl2', hl3', hins', _⟩ := h'
  have HR := Lib.hid (sameCel_mk lab L L' kind kind' neg neg' top top' bot bot' ch ch' ins ins')
  have hb0 : ∀ o1 o2, Below w.heap.size w ((w.alloc o1).alloc o2) := fun o1 o2 => ((Below.refl _ _).alloc (Nat.le_refl _) _).alloc (by simp) _
  have HB := Lib.hid hb0
  have E1 := Lib.hid (fun (wx : World) (hx : Below w.heap.size w wx) => ratioSame_any neg neg' top top' bot bot' A1 A2 A1' A2' c1 c2 c1' c2' wx B (hl1.below (hx.mono hB)) (hl1'.below (hx.mono hB)) (hl2.below (hx.mono hB)) (hl2'.below (hx.mono hB)) (Nat.le_trans hB hx.size) (by have h1 := hf1.1; have h2 := hf1.2; omega) (by have h1 := hf1'.1; have h2 := hf1'.2; omega) (by have h1 := hf2.1; have h2 := hf2.2; omega) (by have h1 := hf2'.1; have h2 := hf2'.2; omega))
  have hsz : ∀ a ∈ ins, SizeOf.sizeOf a < n := fun a ha => by
    have h1 := List.sizeOf_lt_of_mem ha
    simp only [Cel.mk.sizeOf_spec] at hx
    omega
  have E2 := Lib.hid (fun (wx : World) (hx : Below w.heap.size w wx) => eqFuncArr_any ins ins' us us' A3 A3' c3 c3' lab g wx B (hins.below (hx.mono hB)) (hins'.below (hx.mono hB)) (hl3.below (hx.mono hB)) (hl3'.below (hx.mono hB)) (Nat.le_trans hB hx.size) (by have h1 := hf3.1; have h2 := hf3.2; omega) (by have h1 := hf3'.1; have h2 := hf3'.2; omega)
    (fun k hk hk' u u' wy hy hu hu' => c46_any ih ins[k] ins'[k] u u' lab g wy B (hsz _ (List.getElem_mem hk)) hu hu' (Nat.le_trans hB (Nat.le_trans hx.size hy.size)) (by have h1 := hx.size; have h2 := hy.size; omega) ((hy.cell (p := ⟨g, 0, none⟩) (show g < wx.heap.size by have h1 := hx.size; omega)).trans ((hx.cell (p := ⟨g, 0, none⟩) hg).trans hc))))
  clear hins hins' hl1 hl1' hl2 hl2' hl3 hl3' hf1 hf1' hf2 hf2' hf3 hf3' hw1 hw1' hw2 hw2' hw3 hw3' hb0 hx hsz ih
  generalize sameCel lab (.mk L kind neg top bot ch ins) (.mk L' kind' neg' top' bot' ch' ins') = R at *
  generalize sameNum neg neg' top top' bot bot' = P at *
  generalize sameArrs lab ins ins' = Q at *
  generalize top.length = l1 at *
  generalize bot.length = l2 at *
  generalize ins.length = l3 at *
  generalize top'.length = l1' at *
  generalize bot'.length = l2' at *
  generalize ins'.length = l3' at *
  cases lab
  · by_cases hk : kind = kind'
    · subst hk
      have q1 : (kind != kind) = false := by simp
      by_cases hch : ch = ch'
      · subst hch
        have q2 : (ch != ch) = false := by simp
        go_enter Try.func44, Try.ntmps44
        go_wp2_with fail
        refine (E1.out _ (HB.out _ _)).mono ?_
        rintro e w2 ⟨rfl, hb2⟩
        have hb3 := (HB.out _ _).trans (hb2.mono (HB.out _ _).size)
        have hc1 : (∀ o, w2.cell? ⟨w.heap.size, o, none⟩ = _) := fun o => hb2.cell (p := ⟨w.heap.size, o, none⟩) (by show w.heap.size < _; simp; omega)
        have hc2 : (∀ o, w2.cell? ⟨w.heap.size + 1, o, none⟩ = _) := fun o => hb2.cell (p := ⟨w.heap.size + 1, o, none⟩) (by show w.heap.size + 1 < _; simp)
        cases P
        · go_wp2_with fail
          go_ret
          exact ⟨ret_bool (by rw [HR.out]; simp), hb3⟩
        · go_wp2_with fail
          refine (E2.out _ hb3).mono ?_
          rintro e w3 ⟨rfl, hb4⟩
          clear hc1 hc2
          go_wp2_with fail
          go_ret
          exact ⟨ret_bool (by rw [HR.out]; simp), hb3.trans (hb4.mono hb3.size)⟩
      · have q2 : (ch != ch') = true := by simpa using hch
        go_enter Try.func44, Try.ntmps44
        go_wp2_with fail
        go_ret
        exact ⟨ret_bool (by rw [HR.out]; simp [hch]), HB.out _ _⟩
    · have q1 : (kind != kind') = true := by simpa using hk
      go_enter Try.func44, Try.ntmps44
      go_wp2_with fail
      go_ret
      exact ⟨ret_bool (by rw [HR.out]; simp [hk]), HB.out _ _⟩
  · by_cases hLL : L = L'
    · subst hLL
      have q0 : ((L : Int) != (L : Int)) = false := by simp
      by_cases hk : kind = kind'
      · subst hk
        have q1 : (kind != kind) = false := by simp
        by_cases hch : ch = ch'
        · subst hch
          have q2 : (ch != ch) = false := by simp
          go_enter Try.func44, Try.ntmps44
          go_wp2_with fail
          refine (E1.out _ (HB.out _ _)).mono ?_
          rintro e w2 ⟨rfl, hb2⟩
          have hb3 := (HB.out _ _).trans (hb2.mono (HB.out _ _).size)
          have hc1 : (∀ o, w2.cell? ⟨w.heap.size, o, none⟩ = _) := fun o => hb2.cell (p := ⟨w.heap.size, o, none⟩) (by show w.heap.size < _; simp; omega)
          have hc2 : (∀ o, w2.cell? ⟨w.heap.size + 1, o, none⟩ = _) := fun o => hb2.cell (p := ⟨w.heap.size + 1, o, none⟩) (by show w.heap.size + 1 < _; simp)
          cases P
          · go_wp2_with fail
            go_ret
            exact ⟨ret_bool (by rw [HR.out]; simp), hb3⟩
          · go_wp2_with fail
            refine (E2.out _ hb3).mono ?_
            rintro e w3 ⟨rfl, hb4⟩
            clear hc1 hc2
            go_wp2_with fail
            go_ret
            exact ⟨ret_bool (by rw [HR.out]; simp), hb3.trans (hb4.mono hb3.size)⟩
        · have q2 : (ch != ch') = true := by simpa using hch
          go_enter Try.func44, Try.ntmps44
          go_wp2_with fail
          go_ret
          exact ⟨ret_bool (by rw [HR.out]; simp [hch]), HB.out _ _⟩
      · have q1 : (kind != kind') = true := by simpa using hk
        go_enter Try.func44, Try.ntmps44
        go_wp2_with fail
        go_ret
        exact ⟨ret_bool (by rw [HR.out]; simp [hk]), HB.out _ _⟩
    · have q0 : ((L : Int) != (L' : Int)) = true := by simp; omega
      have q0' : (L != L') = true := by simpa using hLL
      go_enter Try.func44, Try.ntmps44
      go_wp2_with fail
      go_ret
      exact ⟨ret_bool (by rw [HR.out]; simp [hLL]), HB.out _ _⟩

theorem same_mk (lab : Bool) (S S' : Nat) (sh sh' : List Int) (cs cs' : List Cel) :
    same lab (.mk S sh cs) (.mk S' sh' cs') = ((!lab || S == S') && (sh == sh') && sameCels lab cs cs') := by rw [same]

theorem equal_step {n : Nat} (ih : EqOK n) : EqOK (n + 1) := by
  intro a b vs vs' lab w B hx h h' hB
  obtain ⟨S, sh, cs⟩ := a
  obtain ⟨S', sh', cs'⟩ := b
  rw [IsArr] at h h'
  obtain ⟨A1, c1, A2, c2, us, rfl, hS, hf1, hf2, hw1, hl1, hl2, hcs⟩ := h
  obtain ⟨A1', c1', A2', c2', us', rfl, hS', hf1', hf2', hw1', hl1', hl2', hcs'⟩ := h'
  have HR := Lib.hid (same_mk lab S S' sh sh' cs cs')
  have hb0 : ∀ o1 o2 o3, Below w.heap.size w (((w.alloc o1).alloc o2).alloc o3) := fun o1 o2 o3 => (((Below.refl _ _).alloc (Nat.le_refl _) _).alloc (by simp) _).alloc (by simp; omega) _
  have HB := Lib.hid hb0
  have E1 := Lib.hid (fun (wx : World) (hx : Below w.heap.size w wx) => eqInts_any sh sh' A1 A1' c1 c1' wx B (hl1.below (hx.mono hB)) (hl1'.below (hx.mono hB)) (by have h1 := hf1.1; have h2 := hf1.2; omega) (by have h1 := hf1'.1; have h2 := hf1'.2; omega))
  have hsz : ∀ a ∈ cs, SizeOf.sizeOf a < n := fun a ha => by
    have h1 := List.sizeOf_lt_of_mem ha
    simp only [Arr.mk.sizeOf_spec] at hx
    omega
  have E2 := Lib.hid (fun (wx : World) (hx : Below w.heap.size w wx) (hg : w.heap.size + 1 + 1 < wx.heap.size) (hc : wx.cell? ⟨w.heap.size + 1 + 1, 0, none⟩ = some (.bool lab)) => eqFuncCel_any cs cs' us us' A2 A2' c2 c2' lab (w.heap.size + 1 + 1) wx B (hcs.below (hx.mono hB)) (hcs'.below (hx.mono hB)) (hl2.below (hx.mono hB)) (hl2'.below (hx.mono hB)) (Nat.le_trans hB hx.size) (by have h1 := hf2.1; have h2 := hf2.2; omega) (by have h1 := hf2'.1; have h2 := hf2'.2; omega)
    (fun k hk hk' u u' wy hy hu hu' => c44_any ih cs[k] cs'[k] u u' lab (w.heap.size + 1 + 1) wy B (hsz _ (List.getElem_mem hk)) hu hu' (Nat.le_trans hB (Nat.le_trans hx.size hy.size)) (Nat.lt_of_lt_of_le hg hy.size) ((hy.cell (p := ⟨w.heap.size + 1 + 1, 0, none⟩) hg).trans hc)))
  clear hcs hcs' hl1 hl1' hl2 hl2' hf1 hf1' hf2 hf2' hw1 hw1' hb0 hx hsz ih
  generalize same lab (.mk S sh cs) (.mk S' sh' cs') = R at *
  generalize (sh == sh') = P at *
  generalize sameCels lab cs cs' = Q at *
  generalize sh.length = l1 at *
  generalize cs.length = l2 at *
  generalize sh'.length = l1' at *
  generalize cs'.length = l2' at *
  cases lab
  · go_enter Try.func36, Try.ntmps36
    go_wp2_with fail
    refine (E1.out _ (HB.out _ _ _)).mono ?_
    rintro e w2 ⟨rfl, hb2⟩
    have hb3 := (HB.out _ _ _).trans (hb2.mono (HB.out _ _ _).size)
    have hc1 : (∀ o, w2.cell? ⟨w.heap.size, o, none⟩ = _) := fun o => hb2.cell (p := ⟨w.heap.size, o, none⟩) (by show w.heap.size < _; simp; omega)
    have hc2 : (∀ o, w2.cell? ⟨w.heap.size + 1, o, none⟩ = _) := fun o => hb2.cell (p := ⟨w.heap.size + 1, o, none⟩) (by show w.heap.size + 1 < _; simp)
    have hc3 := hb2.cell (p := ⟨w.heap.size + 1 + 1, 0, none⟩) (by show w.heap.size + 1 + 1 < _; simp)
    have hg3 : w.heap.size + 1 + 1 < w2.heap.size := by have := hb2.size; simp at this; omega
    cases P
    · go_wp2_with fail
      go_ret
      exact ⟨ret_bool (by rw [HR.out]; simp), hb3⟩
    · have hc4 : w2.cell? ⟨w.heap.size + 1 + 1, 0, none⟩ = some (.bool false) := by rw [hc3]; go_simp
      clear hc3
      go_wp2_with fail
      refine (E2.out _ hb3 hg3 hc4).mono ?_
      rintro e w3 ⟨rfl, hb4⟩
      clear hc1 hc2 hc4
      go_wp2_with fail
      go_ret
      exact ⟨ret_bool (by rw [HR.out]; simp), hb3.trans (hb4.mono hb3.size)⟩
  · by_cases hSS : S = S'
    · subst hSS
      have q0 : ((S : Int) != (S : Int)) = false := by simp
      go_enter Try.func36, Try.ntmps36
      go_wp2_with fail
      refine (E1.out _ (HB.out _ _ _)).mono ?_
      rintro e w2 ⟨rfl, hb2⟩
      have hb3 := (HB.out _ _ _).trans (hb2.mono (HB.out _ _ _).size)
      have hc1 : (∀ o, w2.cell? ⟨w.heap.size, o, none⟩ = _) := fun o => hb2.cell (p := ⟨w.heap.size, o, none⟩) (by show w.heap.size < _; simp; omega)
      have hc2 : (∀ o, w2.cell? ⟨w.heap.size + 1, o, none⟩ = _) := fun o => hb2.cell (p := ⟨w.heap.size + 1, o, none⟩) (by show w.heap.size + 1 < _; simp)
      have hc3 := hb2.cell (p := ⟨w.heap.size + 1 + 1, 0, none⟩) (by show w.heap.size + 1 + 1 < _; simp)
      have hg3 : w.heap.size + 1 + 1 < w2.heap.size := by have := hb2.size; simp at this; omega
      cases P
      · go_wp2_with fail
        go_ret
        exact ⟨ret_bool (by rw [HR.out]; simp), hb3⟩
      · have hc4 : w2.cell? ⟨w.heap.size + 1 + 1, 0, none⟩ = some (.bool true) := by rw [hc3]; go_simp
        clear hc3
        go_wp2_with fail
        refine (E2.out _ hb3 hg3 hc4).mono ?_
        rintro e w3 ⟨rfl, hb4⟩
        clear hc1 hc2 hc4
        go_wp2_with fail
        go_ret
        exact ⟨ret_bool (by rw [HR.out]; simp), hb3.trans (hb4.mono hb3.size)⟩
    · have q0 : ((S : Int) != (S' : Int)) = true := by simp; omega
      have q0' : (S != S') = true := by simpa using hSS
      go_enter Try.func36, Try.ntmps36
      go_wp2_with fail
      go_ret
      exact ⟨ret_bool (by rw [HR.out]; simp [hSS]), HB.out _ _ _⟩

theorem equal_any : ∀ n, EqOK n
  | 0 => fun a b vs vs' lab w B h => by omega
  | n + 1 => equal_step (equal_any n)

theorem arrSame_any (a b : Arr) (vs vs' : List Value) (w : World) (B : Nat) (h : IsArr w B a vs) (h' : IsArr w B b vs') (hB : B ≤ w.heap.size) :
    Calls Try.prog 39 #[.agg vs.toArray, .agg vs'.toArray] w fun e w' => e = .returned (.bool (same true a b)) ∧ Below w.heap.size w w' := by
  obtain ⟨S, X, xn, xc, Y, yn, yc, rfl⟩ := h.form
  obtain ⟨S', X', xn', xc', Y', yn', yc', rfl⟩ := h'.form
  have hb0 : ∀ o1 o2, Below w.heap.size w ((w.alloc o1).alloc o2) := fun o1 o2 => ((Below.refl _ _).alloc (Nat.le_refl _) _).alloc (by simp) _
  have IH := Lib.hid (fun o1 o2 => equal_any (SizeOf.sizeOf a + 1) a b _ _ true ((w.alloc o1).alloc o2) B (by omega) (h.below ((hb0 _ _).mono hB)) (h'.below ((hb0 _ _).mono hB)) (by simp; omega))
  have HB := Lib.hid hb0
  clear hb0 h h'
  generalize same true a b = R at *
  go_enter Try.func39, Try.ntmps39
  go_wp2_with fail
  refine (IH.out _ _).mono ?_
  rintro e w2 ⟨rfl, hb2⟩
  go_wp2_with fail
  go_ret
  exact ⟨rfl, (HB.out _ _).trans (hb2.mono (by simp; omega))⟩

theorem arrMatch_any (a b : Arr) (vs vs' : List Value) (w : World) (B : Nat) (h : IsArr w B a vs) (h' : IsArr w B b vs') (hB : B ≤ w.heap.size) :
    Calls Try.prog 25 #[.agg vs.toArray, .agg vs'.toArray] w fun e w' => e = .returned (.bool (same false a b)) ∧ Below w.heap.size w w' := by
  obtain ⟨S, X, xn, xc, Y, yn, yc, rfl⟩ := h.form
  obtain ⟨S', X', xn', xc', Y', yn', yc', rfl⟩ := h'.form
  have hb0 : ∀ o1 o2, Below w.heap.size w ((w.alloc o1).alloc o2) := fun o1 o2 => ((Below.refl _ _).alloc (Nat.le_refl _) _).alloc (by simp) _
  have IH := Lib.hid (fun o1 o2 => equal_any (SizeOf.sizeOf a + 1) a b _ _ false ((w.alloc o1).alloc o2) B (by omega) (h.below ((hb0 _ _).mono hB)) (h'.below ((hb0 _ _).mono hB)) (by simp; omega))
  have HB := Lib.hid hb0
  clear hb0 h h'
  generalize same false a b = R at *
  go_enter Try.func25, Try.ntmps25
  go_wp2_with fail
  refine (IH.out _ _).mono ?_
  rintro e w2 ⟨rfl, hb2⟩
  go_wp2_with fail
  go_ret
  exact ⟨rfl, (HB.out _ _).trans (hb2.mono (by simp; omega))⟩
end Go.Proofs.Ytfiobbhicicchaa
