/-
  Texts of this proof, joined (by wip/bin/bundle.py): Unp6, Unp7, Dig13, Dig14, Dig15, TreeNew, UnpAwake, RTok3, RUnp1.
-/
import Derived.Test.YtceplkpjnebnfaaGreatDoorM13
/-
  unparse: what gives a name, or a channel, something.
-/
namespace Go.Proofs.YtceplkpjnebnfaaGreatDoor
open Go.RowKit Tr
set_option maxHeartbeats 8000000
set_option maxRecDepth 100000
set_option linter.unusedVariables false

theorem KeptB.setRow {B b q : Nat} {W w : World} (h : KeptB B b W w) (hq : W.heap.size ≤ q) (hB : B ≤ q) (cs : Array Value) : KeptB B b W (w.setRow q cs) :=
  ⟨below_setRow h.1 hB cs, fun k o hk hb ho => by
    have hlt : k < W.heap.size := (Array.getElem?_eq_some_iff.1 hk).1
    rw [setRow_other _ _ _ _ (by omega)]
    exact h.2 k o hk hb ho⟩
theorem IsBld.setRow {B b q : Nat} {l : List UInt8} {w : World} {old : Array Value} {T : TypeId} {fz : Nat × Nat} (h : IsBld B b l w) (hq : q ≠ b) (ho : w.heap[q]? = some (.cells old T fz)) (hT : T ≠ 5) (cs : Array Value) : IsBld B b l (w.setRow q cs) := by
  have one : ∀ {p : Value}, Lib.BuilderAtF 42 5 B b p (Lib.byteCells l) w → Lib.BuilderAtF 42 5 B b p (Lib.byteCells l) (w.setRow q cs) := fun {p} k => by
    obtain ⟨h1, v, h2, h3, h4⟩ := k
    refine ⟨h1, v, (setRow_other _ _ _ _ (Ne.symm hq)).trans h2, ⟨h3.1, ?_⟩, h4⟩
    rcases h3.2 with h0 | ⟨g, cap, cur, fz, e1, e2, e3, r⟩
    · exact .inl h0
    · refine .inr ⟨g, cap, cur, fz, e1, e2, (setRow_other _ _ _ _ ?_).trans e3, r⟩
      intro e
      rw [e, ho] at e3
      injection e3 with e3
      injection e3 with _ e3 _
      exact hT e3
  exact h.imp one one
theorem upGets_any (n : Nat) (hT : WrOk 21 shw n) (k o : Int) (m : List UInt8) (nm : Rt.Nm) (tx : List Int) (T : List Tree) (vs : List Value) (w : World) (Bt B b : Nat) (l : List UInt8) (hk : k = 13 ∨ k = 14 ∨ k = 15 ∨ k = 16 ∨ k = 27) (hn : ∀ a ∈ T, SizeOf.sizeOf a < n) (ha : all (.mk k o m nm tx T) = true)
    (h : IsTree w Bt (.mk k o m nm tx T) vs) (hB : Bt ≤ B) (hP : PowB B w) (hL : IsBld B b l w) (hM : l.length + (shw (.mk k o m nm tx T)).length ≤ 140737488355000) :
    Calls Tryz.prog 42 #[.pointer (some ⟨b, 0, none⟩), .agg vs.toArray] w (Wrote B b w (l ++ shw (.mk k o m nm tx T))) := by
  obtain ⟨W, hW⟩ : ∃ W, W = w.alloc (.cells vs.toArray 28) := ⟨_, rfl⟩
  have hIA := tree_infoA h
  obtain ⟨A1, A2, A3, A4, c1, c2, c3, c4, us, HX, HB0, hTl⟩ := boxed h hB hL hW
  have HPW := Lib.hid (hP.kept HX.out.kept.below)
  have HAL := Lib.hid (all_held ha)
  have HTT := Lib.hid (fun (i : Nat) (hi : i < T.length) => And.intro (hn _ (List.getElem_mem hi)) (alls_at HAL.out.2.2 hi))
  have CT := Lib.hid (fun (i : Nat) (hi : i < T.length) wx tv l' (hx : KeptB B b W wx) ht h3 h4 => hT (T[i]'hi) tv wx Bt B b l' (HTT.out i hi).1 (HTT.out i hi).2 ht hB (HPW.out.kept hx.below) h3 h4)
  have CI := Lib.hid (fun (i : Nat) (hi : i < T.length) wx tv l' (hx : KeptB B b W wx) ht h3 h4 => upItem_any n hT (T[i]'hi) tv wx Bt B b l' (HTT.out i hi).1 (HTT.out i hi).2 ht hB (HPW.out.kept hx.below) h3 h4)
  dsimp only at CI
  have CP : Hid (∀ b4 o4 (wx : World) (l' : List UInt8), A4 = some ⟨b4, o4, none⟩ → 0 < T.length → KeptB B b W wx → IsBld B b l' wx → l'.length + (places ((T.drop 1).map kd)).length ≤ 140737488355000 →
      Calls Tryz.prog 72 #[.pointer (some ⟨b, 0, none⟩), .slice (some ⟨b4, o4 + 8, none⟩) (T.length - 1) (c4 - 1)] wx (Wrote B b wx (l' ++ places ((T.drop 1).map kd)))) := Lib.hid (fun b4 o4 wx l' e h0 hx h3 h4 => by
    obtain ⟨us2, HL2, HC2⟩ := trees_tail HX.out.kids (by have := HX.out.lies; rwa [e] at this) h0
    have := upPlaces_any n hT (T.drop 1) us2 (some ⟨b4, o4 + 8, none⟩) (c4 - 1) wx Bt B b l' (fun a h => hn a (List.mem_of_mem_drop h)) (fun a h => by
      obtain ⟨i, hi, rfl⟩ := List.getElem_of_mem (List.mem_of_mem_drop h)
      exact (HTT.out i hi).2) (HL2.out.keep (HX.out.far wx hx)) (HC2.out.keep (HX.out.far wx hx) (Nat.le_refl _)) hB (HPW.out.kept hx.below) h3 (by rw [List.length_drop]; omega) h4
    rwa [List.length_drop] at this)
  have hcap : T.length ≤ c4 := HX.out.own.f4.1
  have HK0 := Lib.hid (KeptB.refl B b W)
  have HW := Lib.hid hW
  have HIA := Lib.hid hIA
  have ML := made_len HAL.out.2.1
  have HO := held_op HAL.out.1
  have hnl := held_name HAL.out.1
  have h0 : 0 < T.length := by
    rcases hk with rfl | rfl | rfl | rfl | rfl
    · have := ML.2.2.2 (by simp); omega
    · have := ML.1 (by simp); omega
    · have := ML.2.1 (by simp); omega
    · have := ML.2.2.2 (by simp); omega
    · have := ML.2.2.2 (by simp); omega
  have hq0 : (0 : Int) < (T.length : Int) := by omega
  obtain ⟨b4, o4, rfl⟩ : ∃ b4 o4, A4 = some ⟨b4, o4, none⟩ := by
    obtain ⟨b', off, _, e, _⟩ := HX.out.sub W HK0.out 0 (by omega)
    exact ⟨b', off, e⟩
  have HS : Hid (∀ wx, KeptB B b W wx → ∀ i (hi : i < T.length), ∃ tv, IsTree wx Bt T[i] tv ∧ wx.rangeAt b4 (o4 + i * 8) tv ∧ (Tryz.prog.info? 28).map (·.size) = some tv.length) := Lib.hid (fun wx hx i hi => by
    obtain ⟨b', off, tv, e, h1, h2, h3⟩ := HX.out.sub wx hx i hi
    injection e with e
    injection e with e1 e2
    subst e1 e2
    exact ⟨tv, h1, h2, h3⟩)
  have HON : Hid (∀ a vs w, IsTree w Bt a vs → vs.toArray.all (·.oneCell') = true) := Lib.hid (fun a vs w h => tree_one h)
  obtain ⟨tv0, ht0, hr0, hi0⟩ := HS.out W HK0.out 0 h0
  obtain ⟨WB, hWB⟩ : ∃ WB, WB = W.alloc (.cells tv0.toArray 28) := ⟨_, rfl⟩
  have hbw : Below W.heap.size W WB := by rw [hWB]; exact (Below.refl _ _).alloc (Nat.le_refl _) _
  have hlt := HB0.out.lt
  have HKB : Hid (KeptB B b W WB) := Lib.hid (KeptB.of hbw (by omega))
  have HBB := Lib.hid (HB0.out.later hbw)
  have HKR : Hid (∀ wx, KeptB B b WB wx → wx.heap[W.heap.size]? = some (.cells tv0.toArray 28 (0, 0))) := Lib.hid (fun wx hx => hx.row (by rw [hWB]; exact heap_alloc_new W _) (by omega) expr_ne_u8)
  have HJ0 := Lib.hid (KeptB.refl B b WB)
  have HT0 : Hid (∀ wx, KeptB B b W wx → IsTree wx Bt T[0] tv0) := Lib.hid (fun wx hx => ht0.keep (fun p hp => hx.below.cell (by omega)) (Nat.le_refl _))
  have HTI := Lib.hid (tree_info ht0)
  have HTA := Lib.hid (tree_infoA ht0)
  have HO1 := Lib.hid (HON.out _ _ _ ht0)
  have HR0 : Hid (W.rangeAt b4 o4 tv0) := Lib.hid (by simpa using hr0)
  have HWB := Lib.hid hWB
  have HBT := Lib.hid hB
  have HQB : Hid (W.heap.size ≠ b) := Lib.hid (by omega)
  have HBQ : Hid (B ≤ W.heap.size) := Lib.hid (by omega)
  clear hWB hbw hlt ht0 hr0 hi0
  replace CP := Lib.hid (CP.out b4 o4)
  rcases hk with rfl | rfl | rfl | rfl | rfl
  · have hlen := ML.2.2.2 (by simp)
    have HD := Lib.hid (shw13 (o := o) (m := m) (n := nm) (t := tx) hlen)
    rw [HD.out] at hM
    simp only [List.length_append, List.length_cons, List.length_nil] at hM
    generalize shw (.mk 13 o m nm tx T) = R at *
    clear CI ML HAL HO hnl hcap h hW hP hT hIA hL ha hn hB HTT HPW CP
    have h8 := HX.out.at8 _ HK0.out
    have q7 := h8.p7
    simp only [Nat.zero_add] at q7
    clear h8
    go_enter Tryz.func42, Tryz.ntmps42
    go_upto_region 1 with fail
    rw [← HW.out]
    go_upto_region 2 with (first
      | (with_reducible refine wpList_load_mid rfl 28 (.tmp 7) rfl b4 o4 rfl tv0 _ HR0.out Tryz.underlying28 rfl HTI.out ?_)
      | (refine wpList_store_row rfl 28 (.tmp 4) (.tmp 8) rfl W.heap.size tv0.toArray rfl rfl 28 _ (heap_alloc_new W _) HTA.out (by rw [← Option.some.injEq, ← HTA.out]; rfl) HO1.out ?_; rw [World.setRow_alloc_new]))
    rw [← HWB.out]
    clear q7
    have h8 := HX.out.at8 _ HKB.out
    have q0 := h8.p0
    have q2 := h8.p2
    simp only [Nat.zero_add] at q2
    clear h8
    go_wp2_with fail
    refine (ws_any B b _ m WB HBB.out (by (try simp only [List.length_append, List.length_cons, List.length_nil]); omega)).mono ?_
    rintro e w1 ⟨⟨v1, rfl⟩, hb1, hk1⟩
    replace hb1 := Lib.hid hb1
    have hj1 := Lib.hid (HJ0.out.trans hk1)
    replace hk1 := Lib.hid (HKB.out.trans hk1)
    clear q0 q2
    go_wp2_with fail
    refine (ws_any B b _ [226, 134, 144] w1 hb1.out (by (try simp only [List.length_append, List.length_cons, List.length_nil]); omega)).mono ?_
    rintro e w2 ⟨⟨v2, rfl⟩, hb2, hk2⟩
    replace hb2 := Lib.hid hb2
    have hj2 := Lib.hid (hj1.out.trans hk2)
    replace hk2 := Lib.hid (hk1.out.trans hk2)
    go_wp2_with (with_reducible refine wpList_load_row rfl 28 (.tmp 4) rfl W.heap.size rfl 28 tv0.toArray (0, 0) _ (HKR.out _ hj2.out) Tryz.underlying28 rfl HTA.out ?_)
    refine (CT.out 0 (by omega) w2 tv0 _ hk2.out (HT0.out _ hk2.out) hb2.out (by (try simp only [List.length_append, List.length_cons, List.length_nil]); omega)).mono ?_
    rintro e w3 ⟨⟨v3, rfl⟩, hb3, hk3⟩
    replace hb3 := Lib.hid hb3
    have hj3 := Lib.hid (hj2.out.trans hk3)
    replace hk3 := Lib.hid (hk2.out.trans hk3)
    go_wp2_with fail
    go_end0
    exact wrote_end HX.out.kept hk3.out hb3.out (by rw [HD.out] <;> (try simp only [List.append_assoc, List.cons_append, List.nil_append]))
  · have hlen := ML.1 (by simp)
    have HD := Lib.hid (shw14 (o := o) (m := m) (n := nm) (t := tx) hlen)
    rw [HD.out] at hM
    simp only [List.length_append, List.length_cons, List.length_nil] at hM
    generalize shw (.mk 14 o m nm tx T) = R at *
    have hc41 : 1 < c4 := by omega
    have hq1 : (1 : Int) ≤ (T.length : Int) := by omega
    clear CI ML HAL HO hnl hcap h hW hP hT hIA hL ha hn hB HTT HPW
    have h8 := HX.out.at8 _ HK0.out
    have q7 := h8.p7
    simp only [Nat.zero_add] at q7
    clear h8
    go_enter Tryz.func42, Tryz.ntmps42
    go_upto_region 1 with fail
    rw [← HW.out]
    go_upto_region 2 with (first
      | (with_reducible refine wpList_load_mid rfl 28 (.tmp 7) rfl b4 o4 rfl tv0 _ HR0.out Tryz.underlying28 rfl HTI.out ?_)
      | (refine wpList_store_row rfl 28 (.tmp 4) (.tmp 8) rfl W.heap.size tv0.toArray rfl rfl 28 _ (heap_alloc_new W _) HTA.out (by rw [← Option.some.injEq, ← HTA.out]; rfl) HO1.out ?_; rw [World.setRow_alloc_new]))
    rw [← HWB.out]
    clear q7
    have h8 := HX.out.at8 _ HKB.out
    have q0 := h8.p0
    have q2 := h8.p2
    simp only [Nat.zero_add] at q2
    clear h8
    go_wp2_with fail
    refine (ws_any B b _ m WB HBB.out (by (try simp only [List.length_append, List.length_cons, List.length_nil]); omega)).mono ?_
    rintro e w1 ⟨⟨v1, rfl⟩, hb1, hk1⟩
    replace hb1 := Lib.hid hb1
    have hj1 := Lib.hid (HJ0.out.trans hk1)
    replace hk1 := Lib.hid (HKB.out.trans hk1)
    clear q0 q2
    have h8 := HX.out.at8 _ hk1.out
    have q7 := h8.p7
    simp only [Nat.zero_add] at q7
    clear h8
    go_wp2_with fail
    refine (CP.out w1 _ (by first | rfl | trivial) (by omega) hk1.out hb1.out (by (try simp only [List.length_append, List.length_cons, List.length_nil]); omega)).mono ?_
    rintro e w2 ⟨⟨v2, rfl⟩, hb2, hk2⟩
    replace hb2 := Lib.hid hb2
    have hj2 := Lib.hid (hj1.out.trans hk2)
    replace hk2 := Lib.hid (hk1.out.trans hk2)
    clear q7
    go_wp2_with fail
    refine (ws_any B b _ [226, 134, 144] w2 hb2.out (by (try simp only [List.length_append, List.length_cons, List.length_nil]); omega)).mono ?_
    rintro e w3 ⟨⟨v3, rfl⟩, hb3, hk3⟩
    replace hb3 := Lib.hid hb3
    have hj3 := Lib.hid (hj2.out.trans hk3)
    replace hk3 := Lib.hid (hk2.out.trans hk3)
    go_wp2_with (with_reducible refine wpList_load_row rfl 28 (.tmp 4) rfl W.heap.size rfl 28 tv0.toArray (0, 0) _ (HKR.out _ hj3.out) Tryz.underlying28 rfl HTA.out ?_)
    refine (CT.out 0 (by omega) w3 tv0 _ hk3.out (HT0.out _ hk3.out) hb3.out (by (try simp only [List.length_append, List.length_cons, List.length_nil]); omega)).mono ?_
    rintro e w4 ⟨⟨v4, rfl⟩, hb4, hk4⟩
    replace hb4 := Lib.hid hb4
    have hj4 := Lib.hid (hj3.out.trans hk4)
    replace hk4 := Lib.hid (hk3.out.trans hk4)
    go_wp2_with fail
    go_end0
    exact wrote_end HX.out.kept hk4.out hb4.out (by rw [HD.out] <;> (try simp only [List.append_assoc, List.cons_append, List.nil_append]))
  · have hlen := ML.2.1 (by simp)
    have HD := Lib.hid (shw15 (o := o) (m := m) (n := nm) (t := tx) hlen)
    rw [HD.out] at hM
    simp only [List.length_append, List.length_cons, List.length_nil] at hM
    generalize shw (.mk 15 o m nm tx T) = R at *
    have hq1 : (1 : Int) < (T.length : Int) := by omega
    clear CI ML HAL HO hnl hcap h hW hP hT hIA hL ha hn hB HTT HPW CP
    have h8 := HX.out.at8 _ HK0.out
    have q7 := h8.p7
    simp only [Nat.zero_add] at q7
    clear h8
    go_enter Tryz.func42, Tryz.ntmps42
    go_upto_region 1 with fail
    rw [← HW.out]
    go_upto_region 2 with (first
      | (with_reducible refine wpList_load_mid rfl 28 (.tmp 7) rfl b4 o4 rfl tv0 _ HR0.out Tryz.underlying28 rfl HTI.out ?_)
      | (refine wpList_store_row rfl 28 (.tmp 4) (.tmp 8) rfl W.heap.size tv0.toArray rfl rfl 28 _ (heap_alloc_new W _) HTA.out (by rw [← Option.some.injEq, ← HTA.out]; rfl) HO1.out ?_; rw [World.setRow_alloc_new]))
    rw [← HWB.out]
    clear q7
    have h8 := HX.out.at8 _ HKB.out
    have q0 := h8.p0
    have q2 := h8.p2
    simp only [Nat.zero_add] at q2
    clear h8
    go_wp2_with fail
    refine (ws_any B b _ m WB HBB.out (by (try simp only [List.length_append, List.length_cons, List.length_nil]); omega)).mono ?_
    rintro e w1 ⟨⟨v1, rfl⟩, hb1, hk1⟩
    replace hb1 := Lib.hid hb1
    have hj1 := Lib.hid (HJ0.out.trans hk1)
    replace hk1 := Lib.hid (HKB.out.trans hk1)
    clear q0 q2
    go_wp2_with fail
    refine (ws_any B b _ [32] w1 hb1.out (by (try simp only [List.length_append, List.length_cons, List.length_nil]); omega)).mono ?_
    rintro e w2 ⟨⟨v2, rfl⟩, hb2, hk2⟩
    replace hb2 := Lib.hid hb2
    have hj2 := Lib.hid (hj1.out.trans hk2)
    replace hk2 := Lib.hid (hk1.out.trans hk2)
    have h8 := HX.out.at8 _ hk2.out
    have q7 := h8.p7
    simp only [Nat.zero_add] at q7
    clear h8
    obtain ⟨tv, ht, hr, hi⟩ := HS.out w2 hk2.out 0 (by omega)
    replace ht := Lib.hid ht
    replace hr := Lib.hid hr
    replace hi := Lib.hid hi
    go_wp2_with (with_reducible refine wpList_load_mid rfl 28 (.tmp 43) rfl b4 (o4) rfl tv _ (by have := hr.out; simpa using this) Tryz.underlying28 rfl hi.out ?_)
    refine (CT.out 0 (by omega) w2 tv _ hk2.out ht.out hb2.out (by (try simp only [List.length_append, List.length_cons, List.length_nil]); omega)).mono ?_
    clear ht hr hi
    rintro e w3 ⟨⟨v3, rfl⟩, hb3, hk3⟩
    replace hb3 := Lib.hid hb3
    have hj3 := Lib.hid (hj2.out.trans hk3)
    replace hk3 := Lib.hid (hk2.out.trans hk3)
    clear q7
    have h8 := HX.out.at8 _ hk3.out
    have q7 := h8.p7
    simp only [Nat.zero_add] at q7
    clear h8
    obtain ⟨tv1, ht1, hr1, hi1⟩ := HS.out w3 hk3.out 1 (by omega)
    have HTI1 := Lib.hid (tree_info ht1)
    have HTA1 := Lib.hid (tree_infoA ht1)
    have HO11 := Lib.hid (HON.out _ _ _ ht1)
    have HR1 : Hid (w3.rangeAt b4 (o4 + 8) tv1) := Lib.hid (by simpa using hr1)
    have HSE : Hid (tv0.toArray.size = tv1.toArray.size) := Lib.hid (by rw [← Option.some.injEq, ← HTA.out, ← HTA1.out])
    obtain ⟨WC, hWC⟩ : ∃ WC, WC = w3.setRow W.heap.size tv1.toArray := ⟨_, rfl⟩
    have HKC : Hid (KeptB B b W WC) := Lib.hid (by rw [hWC]; exact hk3.out.setRow (Nat.le_refl _) HBQ.out _)
    have HBC := Lib.hid (hb3.out.setRow HQB.out (HKR.out _ hj3.out) expr_ne_u8 tv1.toArray)
    rw [← hWC] at HBC
    have HCR : Hid (∀ wx, KeptB B b WC wx → wx.heap[W.heap.size]? = some (.cells tv1.toArray 28 (0, 0))) := Lib.hid (fun wx hx => hx.row (by rw [hWC]; exact setRow_heap _ _ _ _ _ _ (HKR.out _ hj3.out)) HQB.out expr_ne_u8)
    have HT1 : Hid (∀ wx, KeptB B b WC wx → IsTree wx Bt T[1] tv1) := Lib.hid (fun wx hx => ht1.keep (fun p hp => by
      have h1 := HBT.out
      have h2 := HBQ.out
      rw [hx.below.cell (by omega), hWC]
      exact cell_setRow_other _ _ _ _ (by omega)) (Nat.le_refl _))
    have HWC := Lib.hid hWC
    clear hWC ht1 hr1 hi1
    go_upto_region 14 with (first
      | (with_reducible refine wpList_load_mid rfl 28 (.tmp 48) rfl b4 (o4 + 8) rfl tv1 _ HR1.out Tryz.underlying28 rfl HTI1.out ?_)
      | (with_reducible refine wpList_store_row rfl 28 (.tmp 4) (.tmp 49) rfl W.heap.size tv1.toArray rfl rfl 28 _ (HKR.out _ hj3.out) HTA1.out HSE.out HO11.out ?_))
    rw [← HWC.out]
    have HJC := Lib.hid (KeptB.refl B b WC)
    go_wp2_with fail
    refine (ws_any B b _ [226, 134, 144] WC HBC.out (by (try simp only [List.length_append, List.length_cons, List.length_nil]); omega)).mono ?_
    rintro e w4 ⟨⟨v4, rfl⟩, hb4, hk4⟩
    replace hb4 := Lib.hid hb4
    have hj4 := Lib.hid (HJC.out.trans hk4)
    replace hk4 := Lib.hid (HKC.out.trans hk4)
    go_wp2_with (with_reducible refine wpList_load_row rfl 28 (.tmp 4) rfl W.heap.size rfl 28 tv1.toArray (0, 0) _ (HCR.out _ hj4.out) Tryz.underlying28 rfl HTA1.out ?_)
    refine (CT.out 1 (by omega) w4 tv1 _ hk4.out (HT1.out _ hj4.out) hb4.out (by (try simp only [List.length_append, List.length_cons, List.length_nil]); omega)).mono ?_
    rintro e w5 ⟨⟨v5, rfl⟩, hb5, hk5⟩
    replace hb5 := Lib.hid hb5
    have hj5 := Lib.hid (hj4.out.trans hk5)
    replace hk5 := Lib.hid (hk4.out.trans hk5)
    go_wp2_with fail
    go_end0
    exact wrote_end HX.out.kept hk5.out hb5.out (by rw [HD.out] <;> (try simp only [List.append_assoc, List.cons_append, List.nil_append]))
  · have hlen := ML.2.2.2 (by simp)
    have HD := Lib.hid (shw16 (o := o) (m := m) (n := nm) (t := tx) hlen)
    rw [HD.out] at hM
    simp only [List.length_append, List.length_cons, List.length_nil] at hM
    generalize shw (.mk 16 o m nm tx T) = R at *
    have HPO := Lib.hid (HO.2.2.2.1 (by simp))
    have hdl : (digitT o).length = 1 := rfl
    clear CI ML HAL HO hnl hcap h hW hP hT hIA hL ha hn hB HTT HPW CP
    have h8 := HX.out.at8 _ HK0.out
    have q7 := h8.p7
    simp only [Nat.zero_add] at q7
    clear h8
    go_enter Tryz.func42, Tryz.ntmps42
    go_upto_region 1 with fail
    rw [← HW.out]
    go_upto_region 2 with (first
      | (with_reducible refine wpList_load_mid rfl 28 (.tmp 7) rfl b4 o4 rfl tv0 _ HR0.out Tryz.underlying28 rfl HTI.out ?_)
      | (refine wpList_store_row rfl 28 (.tmp 4) (.tmp 8) rfl W.heap.size tv0.toArray rfl rfl 28 _ (heap_alloc_new W _) HTA.out (by rw [← Option.some.injEq, ← HTA.out]; rfl) HO1.out ?_; rw [World.setRow_alloc_new]))
    rw [← HWB.out]
    clear q7
    have h8 := HX.out.at8 _ HKB.out
    have q0 := h8.p0
    have q1 := h8.p1
    simp only [Nat.zero_add] at q1
    clear h8
    go_wp2_with fail
    refine (upPort_any [226, 142, 149] o WB B b _ HPO.out HBB.out (by (try simp only [List.length_append, List.length_cons, List.length_nil]); omega)).mono ?_
    rintro e w1 ⟨⟨v1, rfl⟩, hb1, hk1⟩
    replace hb1 := Lib.hid hb1
    have hj1 := Lib.hid (HJ0.out.trans hk1)
    replace hk1 := Lib.hid (HKB.out.trans hk1)
    clear q0 q1
    go_wp2_with fail
    refine (ws_any B b _ [226, 134, 144] w1 hb1.out (by (try simp only [List.length_append, List.length_cons, List.length_nil]); omega)).mono ?_
    rintro e w2 ⟨⟨v2, rfl⟩, hb2, hk2⟩
    replace hb2 := Lib.hid hb2
    have hj2 := Lib.hid (hj1.out.trans hk2)
    replace hk2 := Lib.hid (hk1.out.trans hk2)
    go_wp2_with (with_reducible refine wpList_load_row rfl 28 (.tmp 4) rfl W.heap.size rfl 28 tv0.toArray (0, 0) _ (HKR.out _ hj2.out) Tryz.underlying28 rfl HTA.out ?_)
    refine (CT.out 0 (by omega) w2 tv0 _ hk2.out (HT0.out _ hk2.out) hb2.out (by (try simp only [List.length_append, List.length_cons, List.length_nil]); omega)).mono ?_
    rintro e w3 ⟨⟨v3, rfl⟩, hb3, hk3⟩
    replace hb3 := Lib.hid hb3
    have hj3 := Lib.hid (hj2.out.trans hk3)
    replace hk3 := Lib.hid (hk2.out.trans hk3)
    go_wp2_with fail
    go_end0
    exact wrote_end HX.out.kept hk3.out hb3.out (by rw [HD.out] <;> (try simp only [List.append_assoc, List.cons_append, List.nil_append]))
  · have hlen := ML.2.2.2 (by simp)
    have HD := Lib.hid (shw27 (o := o) (m := m) (n := nm) (t := tx) hlen)
    rw [HD.out] at hM
    simp only [List.length_append, List.length_cons, List.length_nil] at hM
    generalize shw (.mk 27 o m nm tx T) = R at *
    clear CI ML HAL HO hnl hcap h hW hP hT hIA hL ha hn hB HTT HPW CP
    have h8 := HX.out.at8 _ HK0.out
    have q7 := h8.p7
    simp only [Nat.zero_add] at q7
    clear h8
    go_enter Tryz.func42, Tryz.ntmps42
    go_upto_region 1 with fail
    rw [← HW.out]
    go_upto_region 2 with (first
      | (with_reducible refine wpList_load_mid rfl 28 (.tmp 7) rfl b4 o4 rfl tv0 _ HR0.out Tryz.underlying28 rfl HTI.out ?_)
      | (refine wpList_store_row rfl 28 (.tmp 4) (.tmp 8) rfl W.heap.size tv0.toArray rfl rfl 28 _ (heap_alloc_new W _) HTA.out (by rw [← Option.some.injEq, ← HTA.out]; rfl) HO1.out ?_; rw [World.setRow_alloc_new]))
    rw [← HWB.out]
    clear q7
    have h8 := HX.out.at8 _ HKB.out
    have q0 := h8.p0
    have q2 := h8.p2
    simp only [Nat.zero_add] at q2
    clear h8
    go_wp2_with fail
    refine (ws_any B b _ m WB HBB.out (by (try simp only [List.length_append, List.length_cons, List.length_nil]); omega)).mono ?_
    rintro e w1 ⟨⟨v1, rfl⟩, hb1, hk1⟩
    replace hb1 := Lib.hid hb1
    have hj1 := Lib.hid (HJ0.out.trans hk1)
    replace hk1 := Lib.hid (HKB.out.trans hk1)
    clear q0 q2
    go_wp2_with fail
    refine (ws_any B b _ [226, 134, 144] w1 hb1.out (by (try simp only [List.length_append, List.length_cons, List.length_nil]); omega)).mono ?_
    rintro e w2 ⟨⟨v2, rfl⟩, hb2, hk2⟩
    replace hb2 := Lib.hid hb2
    have hj2 := Lib.hid (hj1.out.trans hk2)
    replace hk2 := Lib.hid (hk1.out.trans hk2)
    go_wp2_with (with_reducible refine wpList_load_row rfl 28 (.tmp 4) rfl W.heap.size rfl 28 tv0.toArray (0, 0) _ (HKR.out _ hj2.out) Tryz.underlying28 rfl HTA.out ?_)
    refine (CT.out 0 (by omega) w2 tv0 _ hk2.out (HT0.out _ hk2.out) hb2.out (by (try simp only [List.length_append, List.length_cons, List.length_nil]); omega)).mono ?_
    rintro e w3 ⟨⟨v3, rfl⟩, hb3, hk3⟩
    replace hb3 := Lib.hid hb3
    have hj3 := Lib.hid (hj2.out.trans hk3)
    replace hk3 := Lib.hid (hk2.out.trans hk3)
    go_wp2_with fail
    go_end0
    exact wrote_end HX.out.kept hk3.out hb3.out (by rw [HD.out] <;> (try simp only [List.append_assoc, List.cons_append, List.nil_append]))
end Go.Proofs.YtceplkpjnebnfaaGreatDoor

/-
  unparse: an expression.
-/
namespace Go.Proofs.YtceplkpjnebnfaaGreatDoor
open Go.RowKit Tr
set_option maxHeartbeats 8000000
set_option maxRecDepth 100000
set_option linter.unusedVariables false

theorem shwLeaf {k o : Int} {m : List UInt8} {n : Rt.Nm} {t : List Int} {l : List Tree} (hk : k = 1 ∨ k = 2 ∨ k = 3 ∨ k = 4 ∨ k = 5 ∨ k = 6 ∨ k = 7 ∨ k = 10 ∨ k = 17 ∨ k = 18 ∨ k = 19 ∨ k = 21) : shw (.mk k o m n t l) = leafT k o m n t := by
  show asmT k o m n t (kds l) = _
  unfold asmT
  rcases hk with rfl | rfl | rfl | rfl | rfl | rfl | rfl | rfl | rfl | rfl | rfl | rfl <;> simp (config := {decide := true}) only [if_false]
theorem made_kinds {k o : Int} {l : List Int} (h : made k o l = true) : 1 ≤ k ∧ k ≤ 28 := by
  by_cases h1 : 1 ≤ k ∧ k ≤ 28
  · exact h1
  · exfalso
    unfold made at h
    rw [if_neg (by omega), if_neg (by omega), if_neg (by omega), if_neg (by omega), if_neg (by omega), if_neg (by omega), if_neg (by omega), if_neg (by omega), if_neg (by omega), if_neg (by omega), if_neg (by omega), if_neg (by omega)] at h
    cases h
theorem own_numR {w wx : World} {Bt : Nat} {k o : Int} {m : List UInt8} {n : Rt.Nm} {t : List Int} {len : Nat} {A1 A2 A3 A4 : Option Addr} {c1 c2 c3 c4 : Nat} (h : Own w Bt k o m n t len A1 A2 A3 A4 c1 c2 c3 c4) (hr : Rt.right n = true) (hf : ∀ p : Addr, p.block < Bt → wx.cell? p = w.cell? p) (hB : Bt ≤ wx.heap.size) :
    NumR wx n (.slice A1 n.top.length c1) (.slice A2 n.bot.length c2) := by
  have ho := right_ok hr
  have hl := (Rt.right_iff ho.1 ho.2).1 hr
  exact ⟨⟨A1, c1, rfl, h.f1.1, h.f1.2.2, h.n1, (h.l1.keep hf).more hB⟩, ⟨A2, c2, rfl, h.f2.1, h.f2.2.2, h.n2, (h.l2.keep hf).more hB⟩, ho.1, ho.2, by have := hl.1; omega, by have := hl.2.1; omega⟩
theorem glyph_may {o : Int} (h : glyph o = true) : Gl.may o = true := Lx.may_gly (Lx.glyph_gly h)
theorem upText_step (n : Nat) (hT : WrOk 21 shw n) (k o : Int) (m : List UInt8) (nm : Rt.Nm) (tx : List Int) (T : List Tree) (vs : List Value) (w : World) (Bt B b : Nat) (l : List UInt8) (hn : ∀ a ∈ T, SizeOf.sizeOf a < n) (ha : all (.mk k o m nm tx T) = true)
    (h : IsTree w Bt (.mk k o m nm tx T) vs) (hB : Bt ≤ B) (hP : PowB B w) (hL : IsBld B b l w) (hM : l.length + (shw (.mk k o m nm tx T)).length ≤ 140737488355000) :
    Calls Tryz.prog 21 #[.pointer (some ⟨b, 0, none⟩), .agg vs.toArray] w (Wrote B b w (l ++ shw (.mk k o m nm tx T))) := by
  obtain ⟨W, hW⟩ : ∃ W, W = w.alloc (.cells vs.toArray 28) := ⟨_, rfl⟩
  have hIA := tree_infoA h
  obtain ⟨A1, A2, A3, A4, c1, c2, c3, c4, us, HX, HB0, hTl⟩ := boxed h hB hL hW
  have HPW := Lib.hid (hP.kept HX.out.kept.below)
  have HAL := Lib.hid (all_held ha)
  have HTT := Lib.hid (fun (i : Nat) (hi : i < T.length) => And.intro (hn _ (List.getElem_mem hi)) (alls_at HAL.out.2.2 hi))
  have CT := Lib.hid (fun (i : Nat) (hi : i < T.length) wx tv l' (hx : KeptB B b W wx) ht h3 h4 => hT (T[i]'hi) tv wx Bt B b l' (HTT.out i hi).1 (HTT.out i hi).2 ht hB (HPW.out.kept hx.below) h3 h4)
  have CI := Lib.hid (fun (i : Nat) (hi : i < T.length) wx tv l' (hx : KeptB B b W wx) ht h3 h4 => upItem_any n hT (T[i]'hi) tv wx Bt B b l' (HTT.out i hi).1 (HTT.out i hi).2 ht hB (HPW.out.kept hx.below) h3 h4)
  dsimp only at CI
  have AR := Lib.hid (fun hk => upArray_any n hT k o m nm tx T vs W Bt B b l hk hn ha (HX.out.tree _ (KeptB.refl _ _ _)) hB HPW.out HB0.out hM)
  have GE := Lib.hid (fun hk => upGets_any n hT k o m nm tx T vs W Bt B b l hk hn ha (HX.out.tree _ (KeptB.refl _ _ _)) hB HPW.out HB0.out hM)
  have OP := Lib.hid (fun hk => upOper_any n hT k o m nm tx T vs W Bt B b l hk hn ha (HX.out.tree _ (KeptB.refl _ _ _)) hB HPW.out HB0.out hM)
  have CLI : Hid (∀ F f, WrOk F f n → (∀ args w, (callFunc F args).run Tryz.prog w = .ok (.enter F args) w) → ∀ sep (wx : World) (l' : List UInt8), KeptB B b W wx → IsBld B b l' wx → l'.length + (join sep (T.map f)).length ≤ 140737488355000 →
      Calls Tryz.prog 44 #[.pointer (some ⟨b, 0, none⟩), .slice A4 T.length c4, .string ⟨sep.toArray⟩, .func (.func F) #[] #[]] wx (Wrote B b wx (l' ++ join sep (T.map f)))) := Lib.hid (fun F f hF hE sep wx l' hx h3 h4 =>
    upList_any F f n hF hE sep T us A4 c4 wx Bt B b l' hn (fun a h => by
      obtain ⟨i, hi, rfl⟩ := List.getElem_of_mem h
      exact (HTT.out i hi).2) (HX.out.lies.keep (HX.out.far wx hx)) (HX.out.kids.keep (HX.out.far wx hx) (Nat.le_refl _)) hB (HPW.out.kept hx.below) h3 hTl h4)
  have HK0 := Lib.hid (KeptB.refl B b W)
  have HW := Lib.hid hW
  have HIA := Lib.hid hIA
  have HO := held_op HAL.out.1
  have LT := Lib.hid (CLI.out _ _ hT enter_text)
  have PN : Hid (k = 1 → Calls Tryz.prog 37 #[.agg #[.bool nm.neg, .slice A1 nm.top.length c1, .slice A2 nm.bot.length c2]] W (StrOut W (Dg.print nm))) := Lib.hid (fun hk => by
    subst hk
    exact digPrint_any nm _ _ W (own_numR HX.out.own (held_num HAL.out.1) (HX.out.far _ HK0.out) (by have := HB0.out.lt; omega)) HPW.out.1)
  have QU : Hid (k = 2 → Calls Tryz.prog 38 #[.pointer (some ⟨b, 0, none⟩), .slice A3 tx.length c3] W (Wrote B b W (l ++ Tr.quoted tx))) := Lib.hid (fun hk => by
    subst hk
    have ht := held_text HAL.out.1
    exact upQuoted_any tx A3 c3 W Bt B b l (HX.out.own.l3.keep (HX.out.far _ HK0.out)) ht.2 hB HB0.out (by have := ht.1; omega) (by rw [shwLeaf (by simp)] at hM; exact hM))
  obtain ⟨q0, q1, q2, q3, q4, q5, q6, q7⟩ := HX.out.at8 W HK0.out
  simp only [Nat.zero_add] at q1 q2 q3 q4 q5 q6 q7
  have HMK := Lib.hid (made_kinds HAL.out.2.1)
  have hHN := Lib.hid (held_name HAL.out.1)
  have HEM : Hid (k = 10 → m = []) := Lib.hid (fun hk => by
    subst hk
    have h := HAL.out.1
    unfold held at h
    simp (config := {decide := true}) only [if_false, Bool.and_eq_true] at h
    have h3 := h.1.2
    cases m with
    | nil => rfl
    | cons _ _ => cases h3)
  by_cases k1 : k = 1
  · subst k1
    have HD : Hid (shw (.mk 1 o m nm tx T) = Dg.print nm) := Lib.hid (by rw [shwLeaf (by simp)]; rfl)
    rw [HD.out] at hM
    generalize shw (.mk 1 o m nm tx T) = R at *
    have PN2 := Lib.hid (PN.out rfl)
    clear CLI LT AR GE OP PN QU CT CI HAL HTT HPW hT hn ha h hP hL hW hIA hB
    go_enter Tryz.func21, Tryz.ntmps21
    go_upto_region 1 with fail
    rw [← HW.out]
    go_wp2_with fail
    refine PN2.out.mono ?_
    rintro e w1 ⟨rfl, hb1'⟩
    have hk1 := Lib.hid (KeptB.of (b := b) hb1' (by have := HB0.out.szB; omega))
    have hb1 := Lib.hid (HB0.out.later hb1')
    clear hb1' q0 q1 q2 q3 q4 q5 q6 q7
    go_wp2_with fail
    refine (ws_any B b _ (Dg.print nm) w1 hb1.out (by (try simp only [List.length_append, List.length_cons, List.length_nil]); omega)).mono ?_
    rintro e w2 ⟨⟨v2, rfl⟩, hb2, hk2⟩
    replace hb2 := Lib.hid hb2
    replace hk2 := Lib.hid (hk1.out.trans hk2)
    go_wp2_with fail
    go_end0
    exact wrote_end HX.out.kept hk2.out hb2.out (by rw [HD.out])
  by_cases k2 : k = 2
  · subst k2
    have HD : Hid (shw (.mk 2 o m nm tx T) = Tr.quoted tx) := Lib.hid (by rw [shwLeaf (by simp)]; rfl)
    rw [HD.out] at hM
    generalize shw (.mk 2 o m nm tx T) = R at *
    have QU2 := Lib.hid (QU.out rfl)
    clear CLI LT AR GE OP PN QU CT CI HAL HTT HPW hT hn ha h hP hL hW hIA hB
    go_enter Tryz.func21, Tryz.ntmps21
    go_upto_region 1 with fail
    rw [← HW.out]
    go_wp2_with fail
    refine QU2.out.mono ?_
    rintro e w1 ⟨⟨v1, rfl⟩, hb1, hk1⟩
    replace hb1 := Lib.hid hb1
    replace hk1 := Lib.hid (HK0.out.trans hk1)
    go_wp2_with fail
    go_end0
    exact wrote_end HX.out.kept hk1.out hb1.out (by rw [HD.out])
  by_cases k3 : k = 3
  · subst k3
    have HD : Hid (shw (.mk 3 o m nm tx T) = m) := Lib.hid (by rw [shwLeaf (by simp)]; rfl)
    rw [HD.out] at hM
    generalize shw (.mk 3 o m nm tx T) = R at *
    clear CLI LT AR GE OP PN QU CT CI HAL HTT HPW hT hn ha h hP hL hW hIA hB
    go_enter Tryz.func21, Tryz.ntmps21
    go_upto_region 1 with fail
    rw [← HW.out]
    go_wp2_with fail
    refine (ws_any B b _ m W HB0.out (by (try simp only [List.length_append, List.length_cons, List.length_nil]); omega)).mono ?_
    rintro e w1 ⟨⟨v1, rfl⟩, hb1, hk1⟩
    replace hb1 := Lib.hid hb1
    replace hk1 := Lib.hid (HK0.out.trans hk1)
    go_wp2_with fail
    go_end0
    exact wrote_end HX.out.kept hk1.out hb1.out (by rw [HD.out])
  by_cases k18 : k = 18
  · subst k18
    have HD : Hid (shw (.mk 18 o m nm tx T) = m) := Lib.hid (by rw [shwLeaf (by simp)]; rfl)
    rw [HD.out] at hM
    generalize shw (.mk 18 o m nm tx T) = R at *
    clear CLI LT AR GE OP PN QU CT CI HAL HTT HPW hT hn ha h hP hL hW hIA hB
    go_enter Tryz.func21, Tryz.ntmps21
    go_upto_region 1 with fail
    rw [← HW.out]
    go_wp2_with fail
    refine (ws_any B b _ m W HB0.out (by (try simp only [List.length_append, List.length_cons, List.length_nil]); omega)).mono ?_
    rintro e w1 ⟨⟨v1, rfl⟩, hb1, hk1⟩
    replace hb1 := Lib.hid hb1
    replace hk1 := Lib.hid (HK0.out.trans hk1)
    go_wp2_with fail
    go_end0
    exact wrote_end HX.out.kept hk1.out hb1.out (by rw [HD.out])
  by_cases k4 : k = 4
  · subst k4
    have HD : Hid (shw (.mk 4 o m nm tx T) = [226, 141, 186]) := Lib.hid (by rw [shwLeaf (by simp)]; rfl)
    rw [HD.out] at hM
    generalize shw (.mk 4 o m nm tx T) = R at *
    clear CLI LT AR GE OP PN QU CT CI HAL HTT HPW hT hn ha h hP hL hW hIA hB
    go_enter Tryz.func21, Tryz.ntmps21
    go_upto_region 1 with fail
    rw [← HW.out]
    go_wp2_with fail
    refine (ws_any B b _ [226, 141, 186] W HB0.out (by (try simp only [List.length_append, List.length_cons, List.length_nil]); omega)).mono ?_
    rintro e w1 ⟨⟨v1, rfl⟩, hb1, hk1⟩
    replace hb1 := Lib.hid hb1
    replace hk1 := Lib.hid (HK0.out.trans hk1)
    go_wp2_with fail
    go_end0
    exact wrote_end HX.out.kept hk1.out hb1.out (by rw [HD.out])
  by_cases k5 : k = 5
  · subst k5
    have HD : Hid (shw (.mk 5 o m nm tx T) = [226, 141, 181]) := Lib.hid (by rw [shwLeaf (by simp)]; rfl)
    rw [HD.out] at hM
    generalize shw (.mk 5 o m nm tx T) = R at *
    clear CLI LT AR GE OP PN QU CT CI HAL HTT HPW hT hn ha h hP hL hW hIA hB
    go_enter Tryz.func21, Tryz.ntmps21
    go_upto_region 1 with fail
    rw [← HW.out]
    go_wp2_with fail
    refine (ws_any B b _ [226, 141, 181] W HB0.out (by (try simp only [List.length_append, List.length_cons, List.length_nil]); omega)).mono ?_
    rintro e w1 ⟨⟨v1, rfl⟩, hb1, hk1⟩
    replace hb1 := Lib.hid hb1
    replace hk1 := Lib.hid (HK0.out.trans hk1)
    go_wp2_with fail
    go_end0
    exact wrote_end HX.out.kept hk1.out hb1.out (by rw [HD.out])
  by_cases k6 : k = 6
  · subst k6
    have HD : Hid (shw (.mk 6 o m nm tx T) = [226, 142, 149] ++ digitT o) := Lib.hid (by rw [shwLeaf (by simp)]; rfl)
    rw [HD.out] at hM
    generalize shw (.mk 6 o m nm tx T) = R at *
    have HPO := Lib.hid (HO.2.2.2.1 (by simp))
    clear CLI LT AR GE OP PN QU CT CI HAL HTT HPW hT hn ha h hP hL hW hIA hB
    go_enter Tryz.func21, Tryz.ntmps21
    go_upto_region 1 with fail
    rw [← HW.out]
    go_wp2_with fail
    refine (upPort_any [226, 142, 149] o W B b _ HPO.out HB0.out hM).mono ?_
    rintro e w1 ⟨⟨v1, rfl⟩, hb1, hk1⟩
    replace hb1 := Lib.hid hb1
    replace hk1 := Lib.hid (HK0.out.trans hk1)
    go_wp2_with fail
    go_end0
    exact wrote_end HX.out.kept hk1.out hb1.out (by rw [HD.out])
  by_cases k7 : k = 7
  · subst k7
    have HD : Hid (shw (.mk 7 o m nm tx T) = [226, 141, 158] ++ digitT o) := Lib.hid (by rw [shwLeaf (by simp)]; rfl)
    rw [HD.out] at hM
    generalize shw (.mk 7 o m nm tx T) = R at *
    have HPO := Lib.hid (HO.2.2.2.1 (by simp))
    clear CLI LT AR GE OP PN QU CT CI HAL HTT HPW hT hn ha h hP hL hW hIA hB
    go_enter Tryz.func21, Tryz.ntmps21
    go_upto_region 1 with fail
    rw [← HW.out]
    go_wp2_with fail
    refine (upPort_any [226, 141, 158] o W B b _ HPO.out HB0.out hM).mono ?_
    rintro e w1 ⟨⟨v1, rfl⟩, hb1, hk1⟩
    replace hb1 := Lib.hid hb1
    replace hk1 := Lib.hid (HK0.out.trans hk1)
    go_wp2_with fail
    go_end0
    exact wrote_end HX.out.kept hk1.out hb1.out (by rw [HD.out])
  by_cases k17 : k = 17
  · subst k17
    have HD : Hid (shw (.mk 17 o m nm tx T) = Tk.enc1 o) := Lib.hid (by rw [shwLeaf (by simp)]; rfl)
    rw [HD.out] at hM
    generalize shw (.mk 17 o m nm tx T) = R at *
    have hm17 := glyph_may (HO.2.2.1 rfl)
    obtain ⟨ho0, ho1⟩ := may_bounds hm17
    have hmay := Lib.hid hm17
    clear hm17
    clear CLI LT AR GE OP PN QU CT CI HAL HTT HPW hT hn ha h hP hL hW hIA hB
    go_enter Tryz.func21, Tryz.ntmps21
    go_upto_region 1 with fail
    rw [← HW.out]
    go_wp2_with fail
    refine (wr_any B b _ o W HB0.out hmay.out (by omega)).mono ?_
    rintro e w1 ⟨⟨v1, rfl⟩, hb1, hk1⟩
    replace hb1 := Lib.hid hb1
    replace hk1 := Lib.hid (HK0.out.trans hk1)
    go_wp2_with fail
    go_end0
    exact wrote_end HX.out.kept hk1.out hb1.out (by rw [HD.out])
  by_cases k19 : k = 19
  · subst k19
    have HD : Hid (shw (.mk 19 o m nm tx T) = [226, 136, 135]) := Lib.hid (by rw [shwLeaf (by simp)]; rfl)
    rw [HD.out] at hM
    generalize shw (.mk 19 o m nm tx T) = R at *
    clear CLI LT AR GE OP PN QU CT CI HAL HTT HPW hT hn ha h hP hL hW hIA hB
    go_enter Tryz.func21, Tryz.ntmps21
    go_upto_region 1 with fail
    rw [← HW.out]
    go_wp2_with fail
    refine (ws_any B b _ [226, 136, 135] W HB0.out (by (try simp only [List.length_append, List.length_cons, List.length_nil]); omega)).mono ?_
    rintro e w1 ⟨⟨v1, rfl⟩, hb1, hk1⟩
    replace hb1 := Lib.hid hb1
    replace hk1 := Lib.hid (HK0.out.trans hk1)
    go_wp2_with fail
    go_end0
    exact wrote_end HX.out.kept hk1.out hb1.out (by rw [HD.out])
  by_cases k21 : k = 21
  · subst k21
    have HD0 : Hid (shw (.mk 21 o m nm tx T) = [226, 142, 149] ++ (if o = 1 then [85, 80] else [68, 67])) := Lib.hid (by rw [shwLeaf (by simp)]; rfl)
    rw [HD0.out] at hM
    generalize shw (.mk 21 o m nm tx T) = R at *
    have ho := HO.2.2.2.2 rfl
    clear CLI LT AR GE OP PN QU CT CI HAL HTT HPW hT hn ha h hP hL hW hIA hB
    rcases ho with rfl | rfl
    · have HD : Hid (R = [226, 142, 149, 68, 67]) := HD0
      clear HD0
      go_enter Tryz.func21, Tryz.ntmps21
      go_upto_region 1 with fail
      rw [← HW.out]
      go_wp2_with fail
      refine (ws_any B b _ [226, 142, 149, 68, 67] W HB0.out (by simp at hM ⊢; omega)).mono ?_
      rintro e w1 ⟨⟨v1, rfl⟩, hb1, hk1⟩
      replace hb1 := Lib.hid hb1
      replace hk1 := Lib.hid (HK0.out.trans hk1)
      go_wp2_with fail
      go_end0
      exact wrote_end HX.out.kept hk1.out hb1.out (by rw [HD.out])
    · have HD : Hid (R = [226, 142, 149, 85, 80]) := HD0
      clear HD0
      go_enter Tryz.func21, Tryz.ntmps21
      go_upto_region 1 with fail
      rw [← HW.out]
      go_wp2_with fail
      refine (ws_any B b _ [226, 142, 149, 85, 80] W HB0.out (by simp at hM ⊢; omega)).mono ?_
      rintro e w1 ⟨⟨v1, rfl⟩, hb1, hk1⟩
      replace hb1 := Lib.hid hb1
      replace hk1 := Lib.hid (HK0.out.trans hk1)
      go_wp2_with fail
      go_end0
      exact wrote_end HX.out.kept hk1.out hb1.out (by rw [HD.out])
  by_cases k8 : k = 8
  · subst k8
    have CC := Lib.hid (AR.out (by simp))
    generalize shw (.mk 8 o m nm tx T) = R at *
    clear CLI LT AR GE OP PN QU CT CI HAL HTT HPW hT hn ha h hP hL hW hIA hB
    go_enter Tryz.func21, Tryz.ntmps21
    go_upto_region 1 with fail
    rw [← HW.out]
    go_wp2_with (with_reducible refine wpList_load_row rfl 28 (.tmp 3) rfl w.heap.size rfl 28 vs.toArray (0, 0) _ (HX.out.row _ HK0.out) Tryz.underlying28 rfl HIA.out ?_)
    refine CC.out.mono ?_
    rintro e w1 ⟨⟨v1, rfl⟩, hb1, hk1⟩
    replace hb1 := Lib.hid hb1
    replace hk1 := Lib.hid (HK0.out.trans hk1)
    go_wp2_with fail
    go_end0
    exact wrote_end HX.out.kept hk1.out hb1.out (rfl)
  by_cases k9 : k = 9
  · subst k9
    have CC := Lib.hid (AR.out (by simp))
    generalize shw (.mk 9 o m nm tx T) = R at *
    clear CLI LT AR GE OP PN QU CT CI HAL HTT HPW hT hn ha h hP hL hW hIA hB
    go_enter Tryz.func21, Tryz.ntmps21
    go_upto_region 1 with fail
    rw [← HW.out]
    go_wp2_with (with_reducible refine wpList_load_row rfl 28 (.tmp 3) rfl w.heap.size rfl 28 vs.toArray (0, 0) _ (HX.out.row _ HK0.out) Tryz.underlying28 rfl HIA.out ?_)
    refine CC.out.mono ?_
    rintro e w1 ⟨⟨v1, rfl⟩, hb1, hk1⟩
    replace hb1 := Lib.hid hb1
    replace hk1 := Lib.hid (HK0.out.trans hk1)
    go_wp2_with fail
    go_end0
    exact wrote_end HX.out.kept hk1.out hb1.out (rfl)
  by_cases k11 : k = 11
  · subst k11
    have CC := Lib.hid (AR.out (by simp))
    generalize shw (.mk 11 o m nm tx T) = R at *
    clear CLI LT AR GE OP PN QU CT CI HAL HTT HPW hT hn ha h hP hL hW hIA hB
    go_enter Tryz.func21, Tryz.ntmps21
    go_upto_region 1 with fail
    rw [← HW.out]
    go_wp2_with (with_reducible refine wpList_load_row rfl 28 (.tmp 3) rfl w.heap.size rfl 28 vs.toArray (0, 0) _ (HX.out.row _ HK0.out) Tryz.underlying28 rfl HIA.out ?_)
    refine CC.out.mono ?_
    rintro e w1 ⟨⟨v1, rfl⟩, hb1, hk1⟩
    replace hb1 := Lib.hid hb1
    replace hk1 := Lib.hid (HK0.out.trans hk1)
    go_wp2_with fail
    go_end0
    exact wrote_end HX.out.kept hk1.out hb1.out (rfl)
  by_cases k12 : k = 12
  · subst k12
    have CC := Lib.hid (AR.out (by simp))
    generalize shw (.mk 12 o m nm tx T) = R at *
    clear CLI LT AR GE OP PN QU CT CI HAL HTT HPW hT hn ha h hP hL hW hIA hB
    go_enter Tryz.func21, Tryz.ntmps21
    go_upto_region 1 with fail
    rw [← HW.out]
    go_wp2_with (with_reducible refine wpList_load_row rfl 28 (.tmp 3) rfl w.heap.size rfl 28 vs.toArray (0, 0) _ (HX.out.row _ HK0.out) Tryz.underlying28 rfl HIA.out ?_)
    refine CC.out.mono ?_
    rintro e w1 ⟨⟨v1, rfl⟩, hb1, hk1⟩
    replace hb1 := Lib.hid hb1
    replace hk1 := Lib.hid (HK0.out.trans hk1)
    go_wp2_with fail
    go_end0
    exact wrote_end HX.out.kept hk1.out hb1.out (rfl)
  by_cases k13 : k = 13
  · subst k13
    have CC := Lib.hid (GE.out (by simp))
    generalize shw (.mk 13 o m nm tx T) = R at *
    clear CLI LT AR GE OP PN QU CT CI HAL HTT HPW hT hn ha h hP hL hW hIA hB
    go_enter Tryz.func21, Tryz.ntmps21
    go_upto_region 1 with fail
    rw [← HW.out]
    go_wp2_with (with_reducible refine wpList_load_row rfl 28 (.tmp 3) rfl w.heap.size rfl 28 vs.toArray (0, 0) _ (HX.out.row _ HK0.out) Tryz.underlying28 rfl HIA.out ?_)
    refine CC.out.mono ?_
    rintro e w1 ⟨⟨v1, rfl⟩, hb1, hk1⟩
    replace hb1 := Lib.hid hb1
    replace hk1 := Lib.hid (HK0.out.trans hk1)
    go_wp2_with fail
    go_end0
    exact wrote_end HX.out.kept hk1.out hb1.out (rfl)
  by_cases k14 : k = 14
  · subst k14
    have CC := Lib.hid (GE.out (by simp))
    generalize shw (.mk 14 o m nm tx T) = R at *
    clear CLI LT AR GE OP PN QU CT CI HAL HTT HPW hT hn ha h hP hL hW hIA hB
    go_enter Tryz.func21, Tryz.ntmps21
    go_upto_region 1 with fail
    rw [← HW.out]
    go_wp2_with (with_reducible refine wpList_load_row rfl 28 (.tmp 3) rfl w.heap.size rfl 28 vs.toArray (0, 0) _ (HX.out.row _ HK0.out) Tryz.underlying28 rfl HIA.out ?_)
    refine CC.out.mono ?_
    rintro e w1 ⟨⟨v1, rfl⟩, hb1, hk1⟩
    replace hb1 := Lib.hid hb1
    replace hk1 := Lib.hid (HK0.out.trans hk1)
    go_wp2_with fail
    go_end0
    exact wrote_end HX.out.kept hk1.out hb1.out (rfl)
  by_cases k15 : k = 15
  · subst k15
    have CC := Lib.hid (GE.out (by simp))
    generalize shw (.mk 15 o m nm tx T) = R at *
    clear CLI LT AR GE OP PN QU CT CI HAL HTT HPW hT hn ha h hP hL hW hIA hB
    go_enter Tryz.func21, Tryz.ntmps21
    go_upto_region 1 with fail
    rw [← HW.out]
    go_wp2_with (with_reducible refine wpList_load_row rfl 28 (.tmp 3) rfl w.heap.size rfl 28 vs.toArray (0, 0) _ (HX.out.row _ HK0.out) Tryz.underlying28 rfl HIA.out ?_)
    refine CC.out.mono ?_
    rintro e w1 ⟨⟨v1, rfl⟩, hb1, hk1⟩
    replace hb1 := Lib.hid hb1
    replace hk1 := Lib.hid (HK0.out.trans hk1)
    go_wp2_with fail
    go_end0
    exact wrote_end HX.out.kept hk1.out hb1.out (rfl)
  by_cases k16 : k = 16
  · subst k16
    have CC := Lib.hid (GE.out (by simp))
    generalize shw (.mk 16 o m nm tx T) = R at *
    clear CLI LT AR GE OP PN QU CT CI HAL HTT HPW hT hn ha h hP hL hW hIA hB
    go_enter Tryz.func21, Tryz.ntmps21
    go_upto_region 1 with fail
    rw [← HW.out]
    go_wp2_with (with_reducible refine wpList_load_row rfl 28 (.tmp 3) rfl w.heap.size rfl 28 vs.toArray (0, 0) _ (HX.out.row _ HK0.out) Tryz.underlying28 rfl HIA.out ?_)
    refine CC.out.mono ?_
    rintro e w1 ⟨⟨v1, rfl⟩, hb1, hk1⟩
    replace hb1 := Lib.hid hb1
    replace hk1 := Lib.hid (HK0.out.trans hk1)
    go_wp2_with fail
    go_end0
    exact wrote_end HX.out.kept hk1.out hb1.out (rfl)
  by_cases k27 : k = 27
  · subst k27
    have CC := Lib.hid (GE.out (by simp))
    generalize shw (.mk 27 o m nm tx T) = R at *
    clear CLI LT AR GE OP PN QU CT CI HAL HTT HPW hT hn ha h hP hL hW hIA hB
    go_enter Tryz.func21, Tryz.ntmps21
    go_upto_region 1 with fail
    rw [← HW.out]
    go_wp2_with (with_reducible refine wpList_load_row rfl 28 (.tmp 3) rfl w.heap.size rfl 28 vs.toArray (0, 0) _ (HX.out.row _ HK0.out) Tryz.underlying28 rfl HIA.out ?_)
    refine CC.out.mono ?_
    rintro e w1 ⟨⟨v1, rfl⟩, hb1, hk1⟩
    replace hb1 := Lib.hid hb1
    replace hk1 := Lib.hid (HK0.out.trans hk1)
    go_wp2_with fail
    go_end0
    exact wrote_end HX.out.kept hk1.out hb1.out (rfl)
  by_cases k22 : k = 22
  · subst k22
    have CC := Lib.hid (OP.out (by simp))
    generalize shw (.mk 22 o m nm tx T) = R at *
    clear CLI LT AR GE OP PN QU CT CI HAL HTT HPW hT hn ha h hP hL hW hIA hB
    go_enter Tryz.func21, Tryz.ntmps21
    go_upto_region 1 with fail
    rw [← HW.out]
    go_wp2_with (with_reducible refine wpList_load_row rfl 28 (.tmp 3) rfl w.heap.size rfl 28 vs.toArray (0, 0) _ (HX.out.row _ HK0.out) Tryz.underlying28 rfl HIA.out ?_)
    refine CC.out.mono ?_
    rintro e w1 ⟨⟨v1, rfl⟩, hb1, hk1⟩
    replace hb1 := Lib.hid hb1
    replace hk1 := Lib.hid (HK0.out.trans hk1)
    go_wp2_with fail
    go_end0
    exact wrote_end HX.out.kept hk1.out hb1.out (rfl)
  by_cases k23 : k = 23
  · subst k23
    have CC := Lib.hid (OP.out (by simp))
    generalize shw (.mk 23 o m nm tx T) = R at *
    clear CLI LT AR GE OP PN QU CT CI HAL HTT HPW hT hn ha h hP hL hW hIA hB
    go_enter Tryz.func21, Tryz.ntmps21
    go_upto_region 1 with fail
    rw [← HW.out]
    go_wp2_with (with_reducible refine wpList_load_row rfl 28 (.tmp 3) rfl w.heap.size rfl 28 vs.toArray (0, 0) _ (HX.out.row _ HK0.out) Tryz.underlying28 rfl HIA.out ?_)
    refine CC.out.mono ?_
    rintro e w1 ⟨⟨v1, rfl⟩, hb1, hk1⟩
    replace hb1 := Lib.hid hb1
    replace hk1 := Lib.hid (HK0.out.trans hk1)
    go_wp2_with fail
    go_end0
    exact wrote_end HX.out.kept hk1.out hb1.out (rfl)
  by_cases k24 : k = 24
  · subst k24
    have CC := Lib.hid (OP.out (by simp))
    generalize shw (.mk 24 o m nm tx T) = R at *
    clear CLI LT AR GE OP PN QU CT CI HAL HTT HPW hT hn ha h hP hL hW hIA hB
    go_enter Tryz.func21, Tryz.ntmps21
    go_upto_region 1 with fail
    rw [← HW.out]
    go_wp2_with (with_reducible refine wpList_load_row rfl 28 (.tmp 3) rfl w.heap.size rfl 28 vs.toArray (0, 0) _ (HX.out.row _ HK0.out) Tryz.underlying28 rfl HIA.out ?_)
    refine CC.out.mono ?_
    rintro e w1 ⟨⟨v1, rfl⟩, hb1, hk1⟩
    replace hb1 := Lib.hid hb1
    replace hk1 := Lib.hid (HK0.out.trans hk1)
    go_wp2_with fail
    go_end0
    exact wrote_end HX.out.kept hk1.out hb1.out (rfl)
  by_cases k20 : k = 20
  · subst k20
    have HD := Lib.hid (shw20 (o := o) (m := m) (n := nm) (t := tx) (l := T))
    rw [HD.out] at hM
    generalize shw (.mk 20 o m nm tx T) = R at *
    (try simp only [List.length_append, List.length_cons, List.length_nil] at hM)
    clear CLI AR GE OP PN QU q1 q2 q3 q4 q5 q6 q7 CT CI HAL HTT HPW hT hn ha h hP hL hW hIA hB
    go_enter Tryz.func21, Tryz.ntmps21
    go_upto_region 1 with fail
    rw [← HW.out]
    clear q0
    have h8 := HX.out.at8 _ HK0.out
    have q0 := h8.p0
    skip
    clear h8
    go_wp2_with fail
    refine (ws_any B b _ [123] W HB0.out (by (try simp only [List.length_append, List.length_cons, List.length_nil]); omega)).mono ?_
    rintro e w1 ⟨⟨v1, rfl⟩, hb1, hk1⟩
    replace hb1 := Lib.hid hb1
    replace hk1 := Lib.hid (HK0.out.trans hk1)
    clear q0
    have h8 := HX.out.at8 _ hk1.out
    have q7 := h8.p7
    simp only [Nat.zero_add] at q7
    clear h8
    go_wp2_with fail
    refine (LT.out [226, 139, 132] w1 _ hk1.out hb1.out (by (try simp only [List.length_append, List.length_cons, List.length_nil]); omega)).mono ?_
    rintro e w2 ⟨⟨v2, rfl⟩, hb2, hk2⟩
    replace hb2 := Lib.hid hb2
    replace hk2 := Lib.hid (hk1.out.trans hk2)
    clear q7
    go_wp2_with fail
    refine (ws_any B b _ [125] w2 hb2.out (by (try simp only [List.length_append, List.length_cons, List.length_nil]); omega)).mono ?_
    rintro e w3 ⟨⟨v3, rfl⟩, hb3, hk3⟩
    replace hb3 := Lib.hid hb3
    replace hk3 := Lib.hid (hk2.out.trans hk3)
    go_wp2_with fail
    go_end0
    exact wrote_end HX.out.kept hk3.out hb3.out (by rw [HD.out] <;> (try simp only [List.append_assoc, List.cons_append, List.nil_append]))
  by_cases k25 : k = 25
  · subst k25
    have HD := Lib.hid (shw25 (o := o) (m := m) (n := nm) (t := tx) (l := T))
    rw [HD.out] at hM
    generalize shw (.mk 25 o m nm tx T) = R at *
    (try simp only [List.length_append, List.length_cons, List.length_nil] at hM)
    clear CLI AR GE OP PN QU q1 q2 q3 q4 q5 q6 q7 CT CI HAL HTT HPW hT hn ha h hP hL hW hIA hB
    go_enter Tryz.func21, Tryz.ntmps21
    go_upto_region 1 with fail
    rw [← HW.out]
    clear q0
    have h8 := HX.out.at8 _ HK0.out
    have q0 := h8.p0
    have q7 := h8.p7
    simp only [Nat.zero_add] at q7
    clear h8
    go_wp2_with fail
    refine (LT.out [58] W _ HK0.out HB0.out (by (try simp only [List.length_append, List.length_cons, List.length_nil]); omega)).mono ?_
    rintro e w1 ⟨⟨v1, rfl⟩, hb1, hk1⟩
    replace hb1 := Lib.hid hb1
    replace hk1 := Lib.hid (HK0.out.trans hk1)
    clear q0 q7
    go_wp2_with fail
    go_end0
    exact wrote_end HX.out.kept hk1.out hb1.out (by rw [HD.out] <;> (try simp only [List.append_assoc, List.cons_append, List.nil_append]))
  by_cases k26 : k = 26
  · subst k26
    have HD := Lib.hid (shw26 (o := o) (m := m) (n := nm) (t := tx) (l := T))
    rw [HD.out] at hM
    generalize shw (.mk 26 o m nm tx T) = R at *
    (try simp only [List.length_append, List.length_cons, List.length_nil] at hM)
    clear CLI AR GE OP PN QU q1 q2 q3 q4 q5 q6 q7 CT CI HAL HTT HPW hT hn ha h hP hL hW hIA hB
    go_enter Tryz.func21, Tryz.ntmps21
    go_upto_region 1 with fail
    rw [← HW.out]
    clear q0
    have h8 := HX.out.at8 _ HK0.out
    have q0 := h8.p0
    have q7 := h8.p7
    simp only [Nat.zero_add] at q7
    clear h8
    go_wp2_with fail
    refine (LT.out [58, 58] W _ HK0.out HB0.out (by (try simp only [List.length_append, List.length_cons, List.length_nil]); omega)).mono ?_
    rintro e w1 ⟨⟨v1, rfl⟩, hb1, hk1⟩
    replace hb1 := Lib.hid hb1
    replace hk1 := Lib.hid (HK0.out.trans hk1)
    clear q0 q7
    go_wp2_with fail
    go_end0
    exact wrote_end HX.out.kept hk1.out hb1.out (by rw [HD.out] <;> (try simp only [List.append_assoc, List.cons_append, List.nil_append]))
  by_cases k28 : k = 28
  · subst k28
    have HD := Lib.hid (shw28 (o := o) (m := m) (n := nm) (t := tx) (l := T))
    rw [HD.out] at hM
    generalize shw (.mk 28 o m nm tx T) = R at *
    (try simp only [List.length_append, List.length_cons, List.length_nil] at hM)
    clear CLI AR GE OP PN QU q1 q2 q3 q4 q5 q6 q7 CT CI HAL HTT HPW hT hn ha h hP hL hW hIA hB
    go_enter Tryz.func21, Tryz.ntmps21
    go_upto_region 1 with fail
    rw [← HW.out]
    clear q0
    have h8 := HX.out.at8 _ HK0.out
    have q0 := h8.p0
    have q7 := h8.p7
    simp only [Nat.zero_add] at q7
    clear h8
    go_wp2_with fail
    refine (LT.out [226, 139, 132] W _ HK0.out HB0.out (by (try simp only [List.length_append, List.length_cons, List.length_nil]); omega)).mono ?_
    rintro e w1 ⟨⟨v1, rfl⟩, hb1, hk1⟩
    replace hb1 := Lib.hid hb1
    replace hk1 := Lib.hid (HK0.out.trans hk1)
    clear q0 q7
    go_wp2_with fail
    go_end0
    exact wrote_end HX.out.kept hk1.out hb1.out (by rw [HD.out] <;> (try simp only [List.append_assoc, List.cons_append, List.nil_append]))
  have k10 : k = 10 := by have := HMK.out; omega
  subst k10
  have HD : Hid (shw (.mk 10 o m nm tx T) = []) := Lib.hid (by rw [shwLeaf (by simp)]; exact HEM.out rfl)
  generalize shw (.mk 10 o m nm tx T) = R at *
  clear CLI LT AR GE OP PN QU q1 q2 q3 q4 q5 q6 q7 CT CI HAL HTT HPW hT hn ha h hP hL hW hIA hB k1 k2 k3 k18 k4 k5 k6 k7 k17 k19 k21 k8 k9 k11 k12 k13 k14 k15 k16 k27 k22 k23 k24 k20 k25 k26 k28
  go_enter Tryz.func21, Tryz.ntmps21
  go_upto_region 1 with fail
  rw [← HW.out]
  go_wp2_with fail
  go_end0
  exact wrote_end HX.out.kept HK0.out HB0.out (by rw [HD.out]; simp)
theorem upText_any : ∀ n, WrOk 21 shw n := by
  intro n
  induction n with
  | zero => intro a vs w Bt B b l h; omega
  | succ n ih =>
    intro a vs w Bt B b l hn ha h hB hP hL hM
    obtain ⟨k, o, m, nm, tx, T⟩ := a
    exact upText_step n ih k o m nm tx T vs w Bt B b l (fun a h => by
      have := List.sizeOf_lt_of_mem h
      simp only [Tree.mk.sizeOf_spec] at hn
      omega) ha h hB hP hL hM
theorem upLine_any (a : Tree) (vs : List Value) (w : World) (B : Nat) (h : IsTree w B a vs) (hB : B ≤ w.heap.size) (hP : Pow10 w) (hM : right a = true → (shw a).length ≤ 140737488355000) :
    Calls Tryz.prog 9 #[.agg vs.toArray] w (StrOut w (line a)) := by
  obtain ⟨W, hW⟩ : ∃ W, W = w.alloc (.cells vs.toArray 28) := ⟨_, rfl⟩
  have hWb : Below w.heap.size w W := by rw [hW]; exact (Below.refl _ _).alloc (Nat.le_refl _) _
  have hWl : w.heap.size < W.heap.size := by rw [hW]; simp
  have HG : Hid (∀ wx, Below W.heap.size W wx → wx.heap[w.heap.size]? = some (.cells vs.toArray 28 (0, 0))) := Lib.hid (fun wx hx => (hx.block _ hWl).trans (by rw [hW]; exact heap_alloc_new w _))
  have HT : Hid (∀ wx, Below W.heap.size W wx → IsTree wx B a vs) := Lib.hid (fun wx hx => h.below ((hWb.trans (hx.mono (by omega))).mono hB))
  have RI := Lib.hid (rightE_any a vs W B (HT.out W (Below.refl _ _)) (by omega))
  have HIA := Lib.hid (tree_infoA h)
  have HL : Hid (line a = if right a then shw a else []) := Lib.hid rfl
  have HWB := Lib.hid hWb
  have HWS : Hid (w.heap.size ≤ W.heap.size) := Lib.hid (by omega)
  have HA : Hid (right a = true → all a = true) := Lib.hid (fun h => by unfold right at h; simp only [Bool.and_eq_true] at h; exact h.2)
  have TX : Hid (∀ w2, Below W.heap.size W w2 → right a = true → Calls Tryz.prog 21 #[.pointer (some ⟨w2.heap.size, 0, none⟩), .agg vs.toArray] (w2.alloc (.cells #[.pointer none, .slice none 0 0] 42)) (Wrote w2.heap.size w2.heap.size (w2.alloc (.cells #[.pointer none, .slice none 0 0] 42)) (shw a))) := Lib.hid (fun w2 hx hr => by
    have hb2 : Below w2.heap.size w2 (w2.alloc (.cells #[.pointer none, .slice none 0 0] 42)) := (Below.refl _ _).alloc (Nat.le_refl _) _
    have hs := hx.size
    have ht := (HT.out w2 hx).below (hb2.mono (by omega))
    have hp : PowB w2.heap.size w2 := ⟨hP.below (hWb.trans (hx.mono (by omega))), fun g e => by have := hP.lt g e; omega⟩
    have := upText_any _ a vs _ B w2.heap.size w2.heap.size [] (Nat.lt_succ_self _) (HA.out hr) ht (by omega) (hp.kept hb2) (bld_new w2) (by simpa using hM hr)
    simpa using this)
  have HW := Lib.hid hW
  have HBL := Lib.hid (Below.refl W.heap.size W)
  generalize shw a = S at *
  generalize line a = R at *
  generalize right a = x at *
  clear h hP hM hW hWb HA
  cases x
  · replace HL : Hid (R = []) := HL
    go_enter Tryz.func9, Tryz.ntmps9
    go_upto_region 1 with fail
    rw [← HW.out]
    go_wp2_with (with_reducible refine wpList_load_row rfl 28 (.tmp 1) rfl w.heap.size rfl 28 vs.toArray (0, 0) _ (HG.out _ HBL.out) Tryz.underlying28 rfl HIA.out ?_)
    refine RI.out.mono ?_
    rintro e w2 ⟨rfl, hb2⟩
    go_wp2_with fail
    go_ret
    exact ⟨by rw [HL.out]; rfl, HWB.out.trans (hb2.mono HWS.out)⟩
  · replace HL : Hid (R = S) := HL
    go_enter Tryz.func9, Tryz.ntmps9
    go_upto_region 1 with fail
    rw [← HW.out]
    go_wp2_with (with_reducible refine wpList_load_row rfl 28 (.tmp 1) rfl w.heap.size rfl 28 vs.toArray (0, 0) _ (HG.out _ HBL.out) Tryz.underlying28 rfl HIA.out ?_)
    refine RI.out.mono ?_
    rintro e w2 ⟨rfl, hb2⟩
    have HB2 := Lib.hid hb2
    have TX2 := Lib.hid (TX.out w2 hb2 (by first | rfl | trivial))
    have HG2 : Hid ((w2.alloc (.cells #[.pointer none, .slice none 0 0] 42)).heap[w.heap.size]? = some (.cells vs.toArray 28 (0, 0))) := Lib.hid (by
      have hlt : w.heap.size < w2.heap.size := (Array.getElem?_eq_some_iff.1 (HG.out w2 hb2)).1
      show (w2.heap.push _)[w.heap.size]? = _
      rw [Array.getElem?_push, if_neg (Nat.ne_of_lt hlt)]
      exact HG.out w2 hb2)
    clear hb2
    go_wp2_with (with_reducible refine wpList_load_row rfl 28 (.tmp 1) rfl w.heap.size rfl 28 vs.toArray (0, 0) _ HG2.out Tryz.underlying28 rfl HIA.out ?_)
    refine TX2.out.mono ?_
    rintro e w3 ⟨⟨v3, rfl⟩, hb3, hk3⟩
    have HB3 := Lib.hid hb3
    have HK3 := Lib.hid hk3
    clear hb3 hk3
    go_wp2_with fail
    refine (bld_string HB3.out).mono ?_
    rintro e w4 ⟨rfl, hb4⟩
    have HB4 := Lib.hid hb4
    clear hb4
    go_wp2_with fail
    go_ret
    refine ⟨by rw [HL.out]; rfl, ?_⟩
    have h2 := HB2.out.size
    have e1 : Below w2.heap.size w2 (w2.alloc (.cells #[.pointer none, .slice none 0 0] 42)) := (Below.refl _ _).alloc (Nat.le_refl _) _
    exact HWB.out.trans ((HB2.out.trans (((e1.trans HK3.out.below).trans HB4.out).mono h2)).mono HWS.out)
end Go.Proofs.YtceplkpjnebnfaaGreatDoor

/-
  By the reference: whole numbers multiplied (scrimref03.Mul); numbers multiplied and divided (scrimref04.Mul, Div), scrimref04.Whole, Of. (Printed by wip/bin/gen_dig13.py.)
-/
namespace Go.Proofs.YtceplkpjnebnfaaGreatDoor
open Go.RowKit
set_option maxHeartbeats 4000000
set_option maxRecDepth 100000
set_option linter.unusedVariables false

theorem res_slice {w : World} {v : Value} {l : List Nat} (h : IsRes w v l) : ∃ A c, v = .slice A l.length c := by obtain ⟨A, c, e, -⟩ := h; exact ⟨A, c, e⟩

end Go.Proofs.YtceplkpjnebnfaaGreatDoor

/-
  By the reference: numbers that are not below 0 multiplied and divided (scrimref04.Mul, Div). (Printed by wip/bin/gen_dig14.py.)
-/
namespace Go.Proofs.YtceplkpjnebnfaaGreatDoor
open Go.RowKit
set_option maxHeartbeats 4000000
set_option maxRecDepth 100000
set_option linter.unusedVariables false

/-- A whole number that is not below 0. -/
def Nat3 (w : World) (v : Value) (x : Nat) : Prop := ∃ u, v = .agg #[.bool false, u] ∧ ResL w u (Nt.digs x)
theorem Nat3.below {w w' : World} {v : Value} {x : Nat} (h : Nat3 w v x) (hb : Below w.heap.size w w') : Nat3 w' v x := by obtain ⟨u, e, r⟩ := h; exact ⟨u, e, r.below hb⟩
theorem Nat3.setRow {w : World} {v : Value} {x g : Nat} {old : Array Value} {t : TypeId} (h : Nat3 w v x) (hg : w.heap[g]? = some (.cells old t (0, 0))) (ho : ∀ (i : Nat) (k : IntKind) (n : Int), old[i]? ≠ some (Value.int k n)) (cs : Array Value) : Nat3 (w.setRow g cs) v x := by
  obtain ⟨u, e, r⟩ := h; exact ⟨u, e, r.setRow hg ho cs⟩
end Go.Proofs.YtceplkpjnebnfaaGreatDoor

/-
  scrimref04.Whole, Of: a number of a whole one, and of an int.
-/
namespace Go.Proofs.YtceplkpjnebnfaaGreatDoor
open Go.RowKit
set_option maxHeartbeats 4000000
set_option maxRecDepth 100000
set_option linter.unusedVariables false

/-- The call hands back a number. -/
def NumOut (w : World) (n : Rt.Nm) (e : Ending) (w' : World) : Prop := ∃ t u, e = .returned (.agg #[.bool n.neg, t, u]) ∧ IsRes w' t n.top ∧ IsRes w' u n.bot ∧ Below w.heap.size w w'
theorem whole4_any (b : Bool) (v : Value) (x : Nat) (w : World) (h : ResL w v (Nt.digs x)) :
    Calls Tryz.prog 33 #[.agg #[.bool b, v]] w (NumOut w ⟨Rt.nrm b x, Nt.digs x, [1]⟩) := by
  have hb0 : ∀ o1 o2, Below w.heap.size w ((w.alloc o1).alloc o2) := fun o1 o2 => ((Below.refl _ _).alloc (Nat.le_refl _) _).alloc (by simp) _
  have NM := fun o1 o2 => norm3_any b v _ _ (h.below (hb0 o1 o2))
  rw [Nt.val_digs] at NM
  have HNM := Lib.hid NM
  have HB := Lib.hid hb0
  have HG1 : Hid (∀ o1 o2, ((w.alloc o1).alloc o2).heap[w.heap.size + 1]? = some o2) := Lib.hid (fun o1 o2 => by
    have := heap_alloc_new (w.alloc o1) o2
    rwa [show (w.alloc o1).heap.size = w.heap.size + 1 by simp] at this)
  have HG0 : Hid (∀ o1 o2, ((w.alloc o1).alloc o2).heap[w.heap.size]? = some o1) := Lib.hid (fun o1 o2 => (Below.heap_alloc _ _ _ (by simp)).trans (heap_alloc_new w o1))
  have HI2 : Hid (∀ (b : Bool) (A : Option Addr) (k c : Nat), (Tryz.prog.info? 62).map (·.size) = some (#[.bool b, .slice A k c] : Array Value).size) := Lib.hid (fun _ _ _ _ => int3_info)
  have HI3 : Hid (∀ (b : Bool) (A : Option Addr) (k c : Nat) (A' : Option Addr) (k' c' : Nat), (Tryz.prog.info? 24).map (·.size) = some (#[.bool b, .slice A k c, .slice A' k' c'] : Array Value).size) := Lib.hid (fun _ _ _ _ _ _ _ => num_info)
  have HNEW : Hid (∀ wx : World, IsRes (wx.alloc (.cells #[.int .u32 1] 90)) (.slice (some ⟨wx.heap.size, 0, none⟩) 1 1) [1]) := Lib.hid (fun wx => isRes_new wx [1] (by decide))
  obtain ⟨A, c, rfl⟩ := res_slice h.1
  clear h NM hb0
  generalize Rt.nrm b x = b' at *
  generalize Nt.digs x = D at *
  go_enter Tryz.func33, Tryz.ntmps33
  go_wp2_with fail
  refine (HNM.out _ _).mono ?_
  rintro e w3 ⟨v3, rfl, hr3, hb3⟩
  have HG3 := Lib.hid ((hb3.block (w.heap.size + 1) (by simp)).trans (HG1.out _ _))
  have hbw3 := (HB.out _ _).trans (hb3.mono (HB.out _ _).size)
  have hlt3 := blk_lt HG3.out
  have HR3 := Lib.hid hr3.1
  obtain ⟨A3, c3, rfl⟩ := res_slice hr3.1
  clear hr3 hb3 HNM
  obtain ⟨w4, hw4⟩ : ∃ w4, w4 = (w3.alloc (.cells #[.bool b', .slice A3 D.length c3] 62)).alloc (.cells #[.int .u32 1] 90) := ⟨_, rfl⟩
  have hb34 : Below w3.heap.size w3 w4 := by rw [hw4]; exact ((Below.refl _ _).alloc (Nat.le_refl _) _).alloc (by simp) _
  have HG4 := Lib.hid ((hb34.block (w.heap.size + 1) hlt3).trans HG3.out)
  have hN : IsRes w4 (.slice (some ⟨w3.heap.size + 1, 0, none⟩) 1 1) [1] := by
    have := HNEW.out (w3.alloc (.cells #[.bool b', .slice A3 D.length c3] 62))
    rw [show (w3.alloc (.cells #[.bool b', .slice A3 D.length c3] 62)).heap.size = w3.heap.size + 1 by simp] at this
    rw [hw4]; exact this
  have HT := Lib.hid ((HR3.out.below hb34).setRow HG4.out (three_no_int _ _ _ _ _ _ _) #[.bool b', .slice A3 D.length c3, .slice (some ⟨w3.heap.size + 1, 0, none⟩) 1 1])
  have HU := Lib.hid (hN.setRow HG4.out (three_no_int _ _ _ _ _ _ _) #[.bool b', .slice A3 D.length c3, .slice (some ⟨w3.heap.size + 1, 0, none⟩) 1 1])
  have hbw4 := hbw3.trans (hb34.mono hbw3.size)
  have HF := Lib.hid (rBelow.setRow hbw4 (show w.heap.size ≤ w.heap.size + 1 by omega) #[.bool b', .slice A3 D.length c3, .slice (some ⟨w3.heap.size + 1, 0, none⟩) 1 1])
  have HG5 := Lib.hid (rheap_same (cs := #[.bool b', .slice A3 D.length c3, .slice (some ⟨w3.heap.size + 1, 0, none⟩) 1 1]) HG4.out)
  rw [hw4] at HG4 HT HU HF HG5
  clear hw4 hb34 hN hbw4 hbw3 HR3
  go_wp2_with (with_reducible refine wpList_store_row rfl 24 (.tmp 2) (.tmp 11) rfl (w.heap.size + 1) #[.bool b', .slice A3 D.length c3, .slice (some ⟨w3.heap.size + 1, 0, none⟩) 1 1] rfl rfl 24 #[.bool false, .slice none 0 0, .slice none 0 0] HG4.out (HI3.out _ _ _ _ _ _ _) rfl (three_one _ _ _ _ _ _ _) ?_)
  refine bodyPost_ret (results_cell_row (by rfl) _ _ (w.heap.size + 1) 24 #[.bool b', .slice A3 D.length c3, .slice (some ⟨w3.heap.size + 1, 0, none⟩) 1 1] (0, 0) _ (by rfl) HG5.out Tryz.underlying24 rfl (HI3.out _ _ _ _ _ _ _)) rfl ⟨_, _, rfl, HT.out, HU.out, HF.out⟩

theorem ofInt4_any (n : Int) (w : World) (h1 : -9223372036854775808 ≤ n) (h2 : n ≤ 9223372036854775807) :
    Calls Tryz.prog 19 #[.int .i64 n] w (NumOut w ⟨decide (n < 0), Nt.digs n.natAbs, [1]⟩) := by
  have hnr : Rt.nrm (decide (n < 0)) n.natAbs = decide (n < 0) := by
    unfold Rt.nrm
    by_cases h : n < 0
    · have : (n.natAbs == 0) = false := by rw [beq_eq_false_iff_ne]; omega
      rw [this]; simp
    · rw [decide_eq_false h]; simp
  have HO := Lib.hid (fun o => refOfInt_any n (w.alloc o) h1 h2)
  have HWH := Lib.hid (fun (wx : World) (v : Value) (h : ResL wx v (Nt.digs n.natAbs)) => by
    have := whole4_any (decide (n < 0)) v n.natAbs wx h
    rw [hnr] at this
    exact this)
  have HB : Hid (∀ o, Below w.heap.size w (w.alloc o)) := Lib.hid (fun o => (Below.refl _ _).alloc (Nat.le_refl _) _)
  have HG : Hid (∀ o, (w.alloc o).heap[w.heap.size]? = some o) := Lib.hid (fun o => heap_alloc_new w o)
  have HI3 : Hid (∀ (b : Bool) (A : Option Addr) (k c : Nat) (A' : Option Addr) (k' c' : Nat), (Tryz.prog.info? 24).map (·.size) = some (#[.bool b, .slice A k c, .slice A' k' c'] : Array Value).size) := Lib.hid (fun _ _ _ _ _ _ _ => num_info)
  clear hnr h1 h2
  generalize decide (n < 0) = bn at *
  generalize Nt.digs n.natAbs = D at *
  go_enter Tryz.func19, Tryz.ntmps19
  go_wp2_with fail
  refine (HO.out _).mono ?_
  rintro e w2 ⟨v2, rfl, hr2, hb2⟩
  have HG2 := Lib.hid ((hb2.block w.heap.size (by simp)).trans (HG.out _))
  have hbw2 := (HB.out _).trans (hb2.mono (HB.out _).size)
  have HW2 := Lib.hid (HWH.out w2 v2 hr2)
  clear hr2 hb2 HO HWH
  go_wp2_with fail
  refine HW2.out.mono ?_
  rintro e w3 ⟨t, u, rfl, ht, hu, hb3⟩
  have HG3 := Lib.hid ((hb3.block w.heap.size (blk_lt HG2.out)).trans HG2.out)
  have hbw3 := hbw2.trans (hb3.mono hbw2.size)
  dsimp only at ht hu ⊢
  have HT := Lib.hid (ht.setRow HG3.out (three_no_int _ _ _ _ _ _ _) #[.bool bn, t, u])
  have HU := Lib.hid (hu.setRow HG3.out (three_no_int _ _ _ _ _ _ _) #[.bool bn, t, u])
  obtain ⟨A3, c3, rfl⟩ := res_slice ht
  obtain ⟨A4, c4, rfl⟩ := res_slice hu
  clear ht hu hb3 HW2 hbw2
  have HF := Lib.hid (rBelow.setRow hbw3 (Nat.le_refl _) #[.bool bn, .slice A3 D.length c3, .slice A4 ([1] : List Nat).length c4])
  go_wp2_with (with_reducible refine wpList_store_row rfl 24 (.tmp 2) (.tmp 5) rfl w.heap.size #[.bool bn, .slice A3 D.length c3, .slice A4 ([1] : List Nat).length c4] rfl rfl 24 #[.bool false, .slice none 0 0, .slice none 0 0] HG3.out (HI3.out _ _ _ _ _ _ _) rfl (three_one _ _ _ _ _ _ _) ?_)
  refine bodyPost_ret (results_cell_row (by rfl) _ _ w.heap.size 24 #[.bool bn, .slice A3 D.length c3, .slice A4 ([1] : List Nat).length c4] (0, 0) _ (by rfl) (rheap_same HG3.out) Tryz.underlying24 rfl (HI3.out _ _ _ _ _ _ _)) rfl ⟨_, _, rfl, HT.out, HU.out, HF.out⟩
end Go.Proofs.YtceplkpjnebnfaaGreatDoor

/-
  Expressions that are made: a row of them in a new block; a node over it.
-/
namespace Go.Proofs.YtceplkpjnebnfaaGreatDoor
open Go.RowKit Tr
set_option linter.unusedVariables false

theorem fits_nil (b : Nat) : Fits 0 0 b := ⟨Nat.le_refl _, by omega, by omega⟩
theorem wf64_pair {k o : Int} (hk : -9223372036854775808 ≤ k ∧ k ≤ 9223372036854775807) (ho : -9223372036854775808 ≤ o ∧ o ≤ 9223372036854775807) : Wf64 [k, o] := by
  intro n hn
  rcases List.mem_cons.1 hn with rfl | hn
  · exact hk
  · rw [List.mem_singleton.1 hn]; exact ho
/-- What is of one's own in a node that has no number and no text. -/
theorem own_node {w : World} {B : Nat} {k o : Int} {m : List UInt8} {len c : Nat} {A : Option Addr} (hk : Wf64 [k, o]) (hm : m.length ≤ 140737488355328) (hf : Fits len c 136) : Own w B k o m Rt.none_ [] len none none none A 0 0 0 c :=
  ⟨hk, hm, fits_nil _, fits_nil _, fits_nil _, hf, (fun _ h => by cases h), (fun _ h => by cases h), (fun _ h => by cases h), .inl rfl, .inl rfl, .inl rfl, fun _ => rfl, fun _ => rfl⟩
theorem isTree_node {w : World} {B : Nat} {k o : Int} {m : List UInt8} {l : List Tree} {us : List Value} {c : Nat} {A : Option Addr} (hk : Wf64 [k, o]) (hm : m.length ≤ 140737488355328) (hf : Fits l.length c 136) (hl : Lies w B A us) (hc : IsTrees w B l us) :
    IsTree w B (Pr.node k o m l) (treeCells k o m Rt.none_ [] l.length none none none A 0 0 0 c) := by
  unfold Pr.node
  rw [IsTree]
  exact ⟨none, none, none, A, 0, 0, 0, c, us, rfl, own_node hk hm hf, hl, hc⟩
theorem isTree_leaf {w : World} {B : Nat} {k o : Int} {m : List UInt8} (hk : Wf64 [k, o]) (hm : m.length ≤ 140737488355328) : IsTree w B (Pr.node k o m []) (treeCells k o m Rt.none_ [] 0 none none none none 0 0 0 0) :=
  isTree_node (l := []) hk hm (fits_nil _) (.inl rfl) (by rw [IsTrees])
theorem trees_alloc {w : World} {B : Nat} {l : List Tree} {us : List Value} {T : TypeId} (h : IsTrees w B l us) (hB : B ≤ w.heap.size) :
    IsTrees (w.alloc (.cells us.toArray T)) (w.alloc (.cells us.toArray T)).heap.size l us ∧ Lies (w.alloc (.cells us.toArray T)) (w.alloc (.cells us.toArray T)).heap.size (some ⟨w.heap.size, 0, none⟩) us := by
  have hb : Below w.heap.size w (w.alloc (.cells us.toArray T)) := (Below.refl _ _).alloc (Nat.le_refl _) _
  exact ⟨(h.below (hb.mono hB)).more (Nat.le_trans hB hb.size), lies_row⟩
theorem trees_one {w : World} {B : Nat} {a : Tree} {vs : List Value} (h : IsTree w B a vs) : IsTrees w B [a] vs := by rw [IsTrees]; exact ⟨vs, [], by simp, h, by rw [IsTrees]⟩
theorem trees_cons {w : World} {B : Nat} {a : Tree} {l : List Tree} {vs us : List Value} (h : IsTree w B a vs) (hl : IsTrees w B l us) : IsTrees w B (a :: l) (vs ++ us) := by rw [IsTrees]; exact ⟨vs, us, rfl, h, hl⟩
end Go.Proofs.YtceplkpjnebnfaaGreatDoor

/-
  Chapter 23's example.
-/
namespace Go.Proofs.YtceplkpjnebnfaaGreatDoor
open Go.RowKit Tr
set_option maxHeartbeats 4000000
set_option maxRecDepth 100000
set_option linter.unusedVariables false

theorem ofOne (w : World) : Calls Tryz.prog 19 #[.int .i64 1] w (NumOut w ⟨false, [1], [1]⟩) := by
  have := ofInt4_any 1 w (by omega) (by omega)
  rwa [show decide ((1 : Int) < 0) = false from rfl, show (1 : Int).natAbs = 1 from rfl, digs_one] at this
def tOne : Tree := .mk 1 0 [] ⟨false, [1], [1]⟩ [] []
def tSign (c : Int) : Tree := Pr.node 17 c [] []
def tTwo : Tree := Pr.node 12 0 [] [tOne, tSign 43, tOne]
def tAll : Tree := Pr.node 12 0 [] [tTwo, tSign 45, tOne]
theorem ok_one : Nt.Ok [1] := fun x h => by rw [List.mem_singleton.1 h]; decide
theorem right_one : Rt.right ⟨false, [1], [1]⟩ = true := (Rt.right_iff ok_one ok_one).2 ⟨by decide, by decide, fun _ => by simp, fun _ => by simp, by simp, (fun h => by cases h), by decide⟩
theorem print_one : Dg.print ⟨false, [1], [1]⟩ = [49] := by
  unfold Dg.print
  rw [show Nt.val [1] = 1 from rfl, Ten.dec_small (show 1 < 10 by decide)]
  rfl
theorem one_tOne : one tOne = true := by
  unfold tOne one held
  simp (config := {decide := true}) only [if_true, if_false, right_one]
theorem all_tOne : all tOne = true := by
  have h := one_tOne
  unfold tOne at h ⊢
  rw [all, h]; rfl
theorem all_sign {c : Int} (h : c = 43 ∨ c = 45) : all (tSign c) = true := by rcases h with rfl | rfl <;> decide
theorem all_tTwo : all tTwo = true := by
  unfold tTwo Pr.node
  rw [all, alls, alls, alls, alls, all_tOne, all_sign (.inl rfl)]
  decide
theorem all_tAll : all tAll = true := by
  unfold tAll Pr.node
  rw [all, alls, alls, alls, alls, all_tOne, all_sign (.inr rfl), all_tTwo]
  decide
theorem right_tAll : right tAll = true := by
  unfold right
  rw [all_tAll]
  decide
theorem shw_tOne : shw tOne = [49] := (shwLeaf (by simp)).trans print_one
theorem shw_sign {c : Int} (h : c = 43 ∨ c = 45) : shw (tSign c) = [UInt8.ofNat c.toNat] := by rcases h with rfl | rfl <;> decide
theorem item_tOne : itemT (kd tOne) = [49] := by
  unfold itemT
  rw [kd_kind]
  exact shw_tOne
theorem last_tOne : lastT tOne = [32, 49] := by
  unfold lastT Tr.behind
  rw [show (kd tOne).wrap = false from rfl]
  show [32] ++ shw tOne = _
  rw [shw_tOne]; rfl
theorem shw_tTwo : shw tTwo = [49, 32, 43, 32, 49] := by
  unfold tTwo Pr.node
  rw [shw12 rfl]
  show (if kind tOne = 8 then shw tOne else itemT (kd tOne)) ++ ([32] ++ (shw (tSign 43) ++ lastT tOne)) = _
  rw [if_neg (by decide), item_tOne, shw_sign (.inl rfl), last_tOne]; rfl
theorem shw_tAll : shw tAll = [40, 49, 32, 43, 32, 49, 41, 32, 45, 32, 49] := by
  unfold tAll Pr.node
  rw [shw12 rfl]
  show (if kind tTwo = 8 then shw tTwo else itemT (kd tTwo)) ++ ([32] ++ (shw (tSign 45) ++ lastT tOne)) = _
  have e : itemT (kd tTwo) = inner (shw tTwo) := by unfold itemT; rw [kd_kind]; rfl
  rw [if_neg (by decide), e, shw_sign (.inr rfl), last_tOne, shw_tTwo]; rfl
theorem wf_small {k o : Int} (h : 0 ≤ k ∧ k ≤ 1000 ∧ 0 ≤ o ∧ o ≤ 1000) : Wf64 [k, o] := wf64_pair (by omega) (by omega)
theorem awake23_any (w : World) (hp : Pow10 w) :
    Calls Tryz.prog 8 #[] w fun e w' => e = .returned (.bool true) ∧ Below w.heap.size w w' := by
  have HP := Lib.hid hp
  clear hp
  go_enter Tryz.func8, Tryz.ntmps8
  go_wp2_with fail
  refine (ofOne w).mono ?_
  rintro e w1 ⟨t, u, rfl, ht, hu, hb1⟩
  obtain ⟨A1, c1, rfl, h11, h12, h13, h14⟩ := ht
  obtain ⟨A2, c2, rfl, h21, h22, h23, h24⟩ := hu
  have hlen : ([1] : List Nat).length = 1 := rfl
  rw [hlen] at h11 h21
  -- the cells
  obtain ⟨V1, hV1⟩ : ∃ V1, V1 = treeCells 1 0 [] ⟨false, [1], [1]⟩ [] 0 A1 A2 none none c1 c2 0 0 := ⟨_, rfl⟩
  obtain ⟨VP, hVP⟩ : ∃ VP : Int → List Value, VP = fun c => treeCells 17 c [] Rt.none_ [] 0 none none none none 0 0 0 0 := ⟨_, rfl⟩
  have T1 : ∀ wx B, Lies wx B A1 (U [1]) → Lies wx B A2 (U [1]) → IsTree wx B tOne V1 := fun wx B k1 k2 => by
    rw [hV1]; unfold tOne; rw [IsTree]
    exact ⟨A1, A2, none, none, c1, c2, 0, 0, [], rfl, ⟨wf_small (by omega), by decide, ⟨h11, by decide, h12⟩, ⟨h21, by decide, h22⟩, fits_nil _, fits_nil _, ok_one, ok_one, (fun _ h => by cases h), k1, k2, .inl rfl, h13, h23⟩, .inl rfl, by rw [IsTrees]⟩
  have TP : ∀ wx B (c : Int), 0 ≤ c ∧ c ≤ 1000 → IsTree wx B (tSign c) (VP c) := fun wx B c h => by rw [hVP]; exact isTree_leaf (wf_small (by omega)) (by decide)
  obtain ⟨Wa, hWa⟩ : ∃ Wa, Wa = w1.alloc (.cells V1.toArray 28) := ⟨_, rfl⟩
  have ba : Below w1.heap.size w1 Wa := by rw [hWa]; exact (Below.refl _ _).alloc (Nat.le_refl _) _
  have za : Wa.heap.size = w1.heap.size + 1 := by rw [hWa]; simp
  obtain ⟨U2, hU2⟩ : ∃ U2, U2 = V1 ++ (VP 43 ++ V1) := ⟨_, rfl⟩
  obtain ⟨Wb, hWb⟩ : ∃ Wb, Wb = Wa.alloc (.cells U2.toArray 28) := ⟨_, rfl⟩
  have bb : Below Wa.heap.size Wa Wb := by rw [hWb]; exact (Below.refl _ _).alloc (Nat.le_refl _) _
  have zb : Wb.heap.size = Wa.heap.size + 1 := by rw [hWb]; simp
  have t1a : IsTree Wa Wa.heap.size tOne V1 := T1 _ _ ((h14.below ba).more (by omega)) ((h24.below ba).more (by omega))
  have K2 := trees_alloc (T := 28) (trees_cons t1a (trees_cons (TP Wa Wa.heap.size 43 (by omega)) (trees_one t1a))) (Nat.le_refl _)
  rw [← hU2, ← hWb] at K2
  obtain ⟨V2, hV2⟩ : ∃ V2, V2 = treeCells 12 0 [] Rt.none_ [] 3 none none none (some ⟨Wa.heap.size, 0, none⟩) 0 0 0 3 := ⟨_, rfl⟩
  have t2b : IsTree Wb Wb.heap.size tTwo V2 := by
    rw [hV2]
    exact isTree_node (l := [tOne, tSign 43, tOne]) (wf_small (by omega)) (by decide) ⟨by decide, by decide, by decide⟩ K2.2 K2.1
  obtain ⟨Wc, hWc⟩ : ∃ Wc, Wc = Wb.alloc (.cells V2.toArray 28) := ⟨_, rfl⟩
  have bc : Below Wb.heap.size Wb Wc := by rw [hWc]; exact (Below.refl _ _).alloc (Nat.le_refl _) _
  have zc : Wc.heap.size = Wb.heap.size + 1 := by rw [hWc]; simp
  obtain ⟨U3, hU3⟩ : ∃ U3, U3 = V2 ++ (VP 45 ++ V1) := ⟨_, rfl⟩
  obtain ⟨Wd, hWd⟩ : ∃ Wd, Wd = Wc.alloc (.cells U3.toArray 28) := ⟨_, rfl⟩
  have bd : Below Wc.heap.size Wc Wd := by rw [hWd]; exact (Below.refl _ _).alloc (Nat.le_refl _) _
  have t2c : IsTree Wc Wc.heap.size tTwo V2 := (t2b.below bc).more (by omega)
  have t1c : IsTree Wc Wc.heap.size tOne V1 := (t1a.below (bb.trans (bc.mono (by omega)))).more (by omega)
  have K3 := trees_alloc (T := 28) (trees_cons t2c (trees_cons (TP Wc Wc.heap.size 45 (by omega)) (trees_one t1c))) (Nat.le_refl _)
  rw [← hU3, ← hWd] at K3
  have t3 : IsTree Wd Wd.heap.size tAll (treeCells 12 0 [] Rt.none_ [] 3 none none none (some ⟨Wc.heap.size, 0, none⟩) 0 0 0 3) :=
    isTree_node (l := [tTwo, tSign 45, tOne]) (wf_small (by omega)) (by decide) ⟨by decide, by decide, by decide⟩ K3.2 K3.1
  have hbd : Below w.heap.size w Wd := hb1.trans ((ba.trans ((bb.trans ((bc.trans (bd.mono (by omega))).mono (by omega))).mono (by omega))).mono hb1.size)
  have LN := upLine_any tAll _ Wd Wd.heap.size t3 (Nat.le_refl _) (HP.out.below hbd) (fun _ => by rw [shw_tAll]; decide)
  have hline : line tAll = [40, 49, 32, 43, 32, 49, 41, 32, 45, 32, 49] := by unfold line; rw [right_tAll, if_pos rfl, shw_tAll]
  rw [hline] at LN
  rw [show Wc.heap.size = w1.heap.size + 1 + 1 + 1 by omega] at LN
  rw [hV2, show Wa.heap.size = w1.heap.size + 1 by omega] at hU3 hWc
  rw [hVP, hV1] at hU2 hU3
  rw [hV1] at hWa
  rw [hWa] at hWb
  rw [hU2] at hWb
  rw [hWb] at hWc
  rw [hWc, hU3] at hWd
  have HWD := Lib.hid hWd
  have LN2 := Lib.hid LN
  have HBD := Lib.hid hbd
  clear LN hline hbd t3 K3 t1c t2c hWd hWc hWb hWa hU2 hU3 hV1 hV2 hVP t2b K2 t1a T1 TP ba bb bc bd za zb zc hb1 h14 h24 h11 h12 h13 h21 h22 h23 hlen
  go_wp2_with fail
  refine (show Calls _ _ _ _ _ from by
    have h := LN2.out
    rw [HWD.out] at h
    exact h).mono ?_
  rintro e w3 ⟨rfl, hb3⟩
  rw [← HWD.out] at hb3
  go_wp2_with fail
  go_ret
  exact ⟨rfl, HBD.out.trans (hb3.mono HBD.out.size)⟩
end Go.Proofs.YtceplkpjnebnfaaGreatDoor

/-
  scrimref06: one, Encode.
-/
namespace Go.Proofs.YtceplkpjnebnfaaGreatDoor
open Go.RowKit
set_option maxHeartbeats 4000000
set_option maxRecDepth 100000
set_option linter.unusedVariables false

theorem own_of_new (w : World) (xs : List Value) (t : TypeId) (h : xs.length ≤ maxLen) : (w.alloc (.cells xs.toArray t)).ownsRow w.heap.size t 1 (.slice (some ⟨w.heap.size, 0, none⟩) xs.length xs.length) xs.length xs :=
  ⟨by simp, .inr ⟨w.heap.size, xs.length, xs.toArray, rfl, Nat.le_refl _, heap_alloc_new w _, Nat.le_refl _, h, by simp, by simp⟩⟩
theorem refOne_any (x : Nat) (w : World) (hx : x ≤ 1114111) :
    Calls Tryz.prog 60 #[.int .i64 (x : Int)] w fun e w' => ∃ v, e = .returned v ∧ w'.ownsRow w.heap.size 5 1 v (Tk.enc1 (x : Int)).length (Lib.byteCells (Tk.enc1 (x : Int))) ∧ Below w.heap.size w w' := by
  have E : Hid (Tk.enc1 (x : Int) = (Gl.one x).map UInt8.ofNat) := Lib.hid rfl
  by_cases h1 : x < 128
  · have E1 : Hid (Lib.byteCells (Tk.enc1 (x : Int)) = [.int .u8 (x : Int)]) := Lib.hid (by
      rw [E.out]; unfold Gl.one Lib.byteCells; rw [if_pos h1]; simp; omega)
    go_enter Tryz.func60, Tryz.ntmps60
    go_wp2_with fail
    go_ret
    refine ⟨_, rfl, ?_, (Below.refl _ _).alloc (Nat.le_refl _) _⟩
    rw [← Lib.byteCells_length (Tk.enc1 (x : Int)), E1.out]
    exact own_of_new w [_] _ (by simp [maxLen])
  · by_cases h2 : x < 2048
    · have E1 : Hid (Lib.byteCells (Tk.enc1 (x : Int)) = [.int .u8 (192 + (x : Int) / 64), .int .u8 (128 + (x : Int) % 64)]) := Lib.hid (by
        rw [E.out]; unfold Gl.one Lib.byteCells; rw [if_neg h1, if_pos h2]; simp; omega)
      go_enter Tryz.func60, Tryz.ntmps60
      go_wp2_with fail
      go_ret
      refine ⟨_, rfl, ?_, (Below.refl _ _).alloc (Nat.le_refl _) _⟩
      rw [← Lib.byteCells_length (Tk.enc1 (x : Int)), E1.out]
      exact own_of_new w [_, _] _ (by simp [maxLen])
    · have q1 : decide ((x : Int) < 128) = false := decide_eq_false (by omega)
      have q2 : decide ((x : Int) < 2048) = false := decide_eq_false (by omega)
      by_cases h3 : x < 65536
      · have q3 : decide ((x : Int) < 65536) = true := decide_eq_true (by omega)
        have E1 : Hid (Lib.byteCells (Tk.enc1 (x : Int)) = [.int .u8 (224 + (x : Int) / 4096), .int .u8 (128 + (x : Int) / 64 % 64), .int .u8 (128 + (x : Int) % 64)]) := Lib.hid (by
          rw [E.out]; unfold Gl.one Lib.byteCells; rw [if_neg h1, if_neg h2, if_pos h3]; simp; omega)
        have b1 : (x : Int) / 4096 < 16 := by omega
        clear h1 h2 h3
        go_enter Tryz.func60, Tryz.ntmps60
        go_wp2_with fail
        go_ret
        refine ⟨_, rfl, ?_, (Below.refl _ _).alloc (Nat.le_refl _) _⟩
        rw [← Lib.byteCells_length (Tk.enc1 (x : Int)), E1.out]
        exact own_of_new w [_, _, _] _ (by simp [maxLen])
      · have q3 : decide ((x : Int) < 65536) = false := decide_eq_false (by omega)
        have E1 : Hid (Lib.byteCells (Tk.enc1 (x : Int)) = [.int .u8 (240 + (x : Int) / 262144), .int .u8 (128 + (x : Int) / 4096 % 64), .int .u8 (128 + (x : Int) / 64 % 64), .int .u8 (128 + (x : Int) % 64)]) := Lib.hid (by
          rw [E.out]; unfold Gl.one Lib.byteCells; rw [if_neg h1, if_neg h2, if_neg h3]; simp; omega)
        have b1 : (x : Int) / 262144 < 16 := by omega
        clear h1 h2 h3
        go_enter Tryz.func60, Tryz.ntmps60
        go_wp2_with fail
        go_ret
        refine ⟨_, rfl, ?_, (Below.refl _ _).alloc (Nat.le_refl _) _⟩
        rw [← Lib.byteCells_length (Tk.enc1 (x : Int)), E1.out]
        exact own_of_new w [_, _, _, _] _ (by simp [maxLen])
theorem own_below3 {w w' : World} {base : Nat} {e : TypeId} {size n : Nat} {v : Value} {xs : List Value} (h : w.ownsRow base e size v n xs) (hb : Below w.heap.size w w') : w'.ownsRow base e size v n xs := by
  refine ⟨h.1, ?_⟩
  rcases h.2 with h0 | ⟨g, cap, cur, hv, hbs, hg, r⟩
  · exact .inl h0
  · exact .inr ⟨g, cap, cur, hv, hbs, (hb.block g (Array.getElem?_eq_some_iff.1 hg).1).trans hg, r⟩
theorem own_some {w : World} {base : Nat} {e : TypeId} {size n : Nat} {v : Value} {xs : List Value} (h : w.ownsRow base e size v n xs) (hn : 0 < n) : ∃ g cap, v = .slice (some ⟨g, 0, none⟩) n cap ∧ n ≤ cap ∧ g < w.heap.size := by
  rcases h.2 with ⟨_, h0⟩ | ⟨g, cap, cur, hv, _, hh, hc, _⟩
  · omega
  · exact ⟨g, cap, hv, hc, (Array.getElem?_eq_some_iff.1 hh).1⟩
theorem enc1_pos (x : Int) : 0 < (Tk.enc1 x).length := by unfold Tk.enc1; rw [List.length_map, Gl.one_len]; unfold Gl.wide; split <;> (try omega); split <;> (try omega); split <;> omega
theorem byteCells_one (t : List UInt8) : ∀ u ∈ Lib.byteCells t, u.oneCell' = true := by
  intro u hu
  unfold Lib.byteCells at hu
  simp only [List.mem_map] at hu
  obtain ⟨b, _, rfl⟩ := hu
  rfl
theorem refEncode_any (A : Option Addr) (c : Nat) (l : List Int) (w : World) (hl : Lies w w.heap.size A (I64 l)) (hn : l.length ≤ 1000000) (hm : ∀ x ∈ l, Gl.may x = true) :
    Calls Tryz.prog 75 #[.slice A l.length c] w fun e w' => e = .returned (.tuple #[.string ⟨(Tk.enc l).toArray⟩, .bool true]) ∧ Below w.heap.size w w' := by
  obtain ⟨i0, hi, hz0, hz1, hz2⟩ := info_parts u8_info
  have HL := Lib.hid hl
  have HM := Lib.hid hm
  clear hl hm
  go_enter Tryz.func75, Tryz.ntmps75
  go_wp2_with fail
  go_loopw [4, 5] (fun ov iv wr => ∃ i : Nat, i ≤ l.length ∧ iv = .int .i64 (i : Int) ∧ Hid (wr.ownsRow w.heap.size 5 1 ov (Tk.enc (l.take i)).length (Lib.byteCells (Tk.enc (l.take i)))) ∧ Hid (Below w.heap.size w wr)) (fun _ iv _ => l.length - (intOf iv).toNat)
  case atStart => exact ⟨0, Nat.zero_le _, rfl, Lib.hid (World.ownsRow_nil _ _ _ _), Lib.hid (Below.refl _ _)⟩
  case round =>
    obtain ⟨i, hil, rfl, HOW, HB⟩ := hrel
    by_cases hlt : i < l.length
    · obtain ⟨b, off, rfl, hb, g0⟩ := lies_i64 (HL.out.below HB.out) hlt
      have hmx := HM.out l[i] (List.getElem_mem hlt)
      have HT : Hid (Tk.enc (l.take (i + 1)) = Tk.enc (l.take i) ++ Tk.enc1 l[i]) := Lib.hid (by rw [List.take_succ_eq_append_getElem hlt, enc_snoc])
      have hel := enc_len (l.take i)
      have htl : (l.take i).length ≤ i := List.length_take_le _ _
      obtain ⟨x, hx⟩ : ∃ x, x = l[i] := ⟨_, rfl⟩
      rw [← hx] at g0 hmx HT
      have hx2 : 0 ≤ x ∧ x ≤ 1114111 := by
        unfold Gl.may at hmx
        simp at hmx
        omega
      obtain ⟨m, rfl⟩ : ∃ m : Nat, x = (m : Int) := ⟨x.toNat, by omega⟩
      have MY := refMay_any (m : Int) wr
      rw [hmx] at MY
      have HMY := Lib.hid MY
      have ON := Lib.hid (refOne_any m wr (by omega))
      obtain ⟨T, hT⟩ : ∃ T, T = Tk.enc (l.take i) := ⟨_, rfl⟩
      rw [← hT] at HOW HT hel
      obtain ⟨S, hS⟩ : ∃ S, S = Tk.enc1 (m : Int) := ⟨_, rfl⟩
      have hS0 : 0 < S.length := by rw [hS]; exact enc1_pos _
      have hS4 : S.length ≤ 4 := by rw [hS]; exact enc1_len _
      rw [← hS] at HT ON
      have hTn : T.length ≤ 4000000 := by omega
      have HB0 : Hid (b < wr.heap.size) := Lib.hid (Nat.lt_of_lt_of_le hb HB.out.size)
      clear hx MY hmx hT hS hx2 htl hel hb
      go_wp2_with fail
      refine HMY.out.mono ?_
      rintro e w' ⟨rfl, rfl⟩
      go_wp2_with fail
      refine ON.out.mono ?_
      rintro e w3 ⟨v3, rfl, hown3, hb3⟩
      obtain ⟨g, cap, rfl, hcap, hg⟩ := own_some hown3 hS0
      have HC3 := Lib.hid (hown3.cells (g := g) rfl)
      have HO3 := Lib.hid (own_below3 HOW.out hb3)
      have HB3 := Lib.hid (HB.out.trans (hb3.mono HB.out.size))
      have HS3 : Hid (w.heap.size ≤ w3.heap.size) := Lib.hid HB3.out.size
      clear hown3 hb3 hcap hg
      go_wp2_with (at_builtin; refine wpList_append_own _ rfl (.tmp 18) (.tmp 23) 40 rfl w.heap.size 5 i0 (.int .u8 0) 1 1 Tryz.underlying40 hi hz0 hz1 hz2 rfl (by decide) _ T.length (Lib.byteCells T) rfl HO3.out ⟨g, 0, none⟩ S.length cap (Lib.byteCells S) rfl (by rw [Lib.byteCells_length, Nat.mul_one]) HC3.out (byteCells_one S) (by unfold maxLen; omega) (by omega) HS3.out ?_; intro v' w4 hown4 hgr hnil)
      have HB4 : Hid (Below w.heap.size w w4) := Lib.hid (HB3.out.grown hgr HS3.out (fun k hk => (HO3.out.lt k hk).1))
      have HO4 : Hid (w4.ownsRow w.heap.size 5 1 v' (Tk.enc (l.take (i + 1))).length (Lib.byteCells (Tk.enc (l.take (i + 1))))) := Lib.hid (by
        rw [HT.out, List.length_append, Lib.byteCells_append]
        exact hown4)
      clear hown4 hgr hnil
      go_wp2_with fail
      go_round
      case rel => exact ⟨i + 1, hlt, by go_num, HO4, HB4⟩
      case measure => simp [intOf]; omega
    · have e : l.take i = l := List.take_of_length_le (by omega)
      rw [e] at HOW
      have hcv := conv_own HOW.out
      obtain ⟨A2, C2, rfl, hC1, hC2⟩ := own_slice HOW.out
      clear e
      go_wp2_with fail
      go_ret2
      exact ⟨rfl, HB.out⟩
end Go.Proofs.YtceplkpjnebnfaaGreatDoor

/-
  The document's text of an expression: a character's; quoted; whether a function begins as an operator does; items; rows.
-/
namespace Go.Proofs.YtceplkpjnebnfaaGreatDoor
open Go.RowKit Tr
set_option maxHeartbeats 4000000
set_option maxRecDepth 100000
set_option linter.unusedVariables false

theorem charText_any (x : Int) (w : World) (hx : Gl.may x = true) : Calls Tryz.prog 45 #[.int .i64 x] w (StrOut w (Tk.enc1 x)) := by
  have EN := Lib.hid (refEncode_any (some ⟨w.heap.size, 0, none⟩) 1 [x] (w.alloc (.cells (I64 [x]).toArray 3)) lies_row (by simp) (by simpa using hx))
  have HE : Hid (Tk.enc [x] = Tk.enc1 x) := Lib.hid (by unfold Tk.enc; simp)
  rw [HE.out] at EN
  generalize Tk.enc1 x = T at *
  clear hx HE
  go_enter Tryz.func45, Tryz.ntmps45
  go_wp2_with fail
  refine EN.out.mono ?_
  rintro e w2 ⟨rfl, hb2⟩
  go_wp2_with fail
  go_ret
  exact ⟨rfl, ((Below.refl _ _).alloc (Nat.le_refl _) _).trans (hb2.mono (by simp))⟩
/-- A function that tells an expression. -/
def StOk (F : FuncId) (f : Tree → List UInt8) (n : Nat) : Prop :=
  ∀ (a : Tree) (vs : List Value) (w : World) (B : Nat), SizeOf.sizeOf a < n → all a = true → IsTree w B a vs → B ≤ w.heap.size → (f a).length ≤ 140737488355000 → Calls Tryz.prog F #[.agg vs.toArray] w (StrOut w (f a))
theorem refQuoted_any (t : List Int) (A : Option Addr) (c : Nat) (w : World) (hl : Lies w w.heap.size A (I64 t)) (hm : ∀ x ∈ t, Gl.may x = true) (hT : t.length ≤ 1000000) :
    Calls Tryz.prog 79 #[.slice A t.length c] w (StrOut w (Tr.quoted t)) := by
  have HA := Lib.hid hl
  have HM := Lib.hid (fun i (hi : i < t.length) => hm t[i] (List.getElem_mem hi))
  have FN := Lib.hid (fun j (h : j < t.length) => flat_next h)
  have HFL := Lib.hid (fun j => (Nat.le_trans (flat_le (t.take j)) (by rw [List.length_take]; omega) : (flat (t.take j)).length ≤ 5 * t.length))
  have HQ : Hid (Tr.quoted t = [39] ++ (flat t ++ [39])) := Lib.hid rfl
  have EN := Lib.hid (fun x (hx : Gl.may x = true) wx => charText_any x wx hx)
  have HE : Hid (∀ x, Tk.enc [x] = Tk.enc1 x) := Lib.hid (fun x => by unfold Tk.enc; simp)
  have HEL := Lib.hid (fun x => Tr.enc1_len x)
  generalize Tr.quoted t = R at *
  clear hl hm
  go_enter Tryz.func79, Tryz.ntmps79
  go_wp2_with fail
  go_loopw [3, 4] (fun sv iv wr => ∃ j : Nat, j ≤ t.length ∧ iv = .int .i64 (j : Int) ∧ sv = .string ⟨([39] ++ flat (t.take j)).toArray⟩ ∧ Hid (Below w.heap.size w wr)) (fun _ iv _ => t.length - (intOf iv).toNat)
  case atStart => exact ⟨0, Nat.zero_le _, rfl, rfl, Lib.hid (Below.refl _ _)⟩
  case round =>
    obtain ⟨j, hj, rfl, rfl, HB⟩ := hrel
    have hFL := HFL.out j
    by_cases hlt : j < t.length
    · obtain ⟨b', off, rfl, hb, g0⟩ := lies_i64 (HA.out.keep (fun p hp => HB.out.cell hp)) hlt
      have hmx := HM.out j hlt
      have HNX := Lib.hid (FN.out j hlt)
      have hq0 : (0 : Int) ≤ (j : Int) := by omega
      have hq1 : (j : Int) < (t.length : Int) := by omega
      obtain ⟨x, hx⟩ : ∃ x, x = t[j] := ⟨_, rfl⟩
      rw [← hx] at g0 hmx HNX
      have EN2 := Lib.hid (EN.out x hmx)
      rw [HE.out x] at HNX
      have hEL := HEL.out x
      generalize flat (t.take j) = J at *
      generalize Tk.enc1 x = E at *
      clear hx hmx
      by_cases hc : x = 39
      · subst hc
        rw [if_pos rfl] at HNX
        have HLL : ([39] ++ J).length ≤ 6000000 := by simp; omega
        go_wp2_with fail
        refine (EN2.out _).mono ?_
        rintro e w2 ⟨rfl, hb2⟩
        have HB2 := Lib.hid (HB.out.trans (hb2.mono HB.out.size))
        clear hb2
        go_wp2_with fail
        go_roundw
        case rel => exact ⟨j + 1, by omega, by go_num, by rw [HNX.out] <;> (congr 1 <;> exact ByteArray.ext (by simp)), HB2⟩
        case measure => simp [intOf]; omega
      · have qc : (x == 39) = false := by simpa using hc
        rw [if_neg hc] at HNX
        clear hc
        go_wp2_with fail
        refine (EN2.out _).mono ?_
        rintro e w2 ⟨rfl, hb2⟩
        have HB2 := Lib.hid (HB.out.trans (hb2.mono HB.out.size))
        clear hb2
        go_wp2_with fail
        go_roundw
        case rel => exact ⟨j + 1, by omega, by go_num, by rw [HNX.out] <;> (congr 1 <;> exact ByteArray.ext (by simp)), HB2⟩
        case measure => simp [intOf]; omega
    · have e : t.take j = t := List.take_of_length_le (by omega)
      rw [e] at hFL ⊢
      clear e
      go_wp2_with fail
      go_ret
      exact ⟨by rw [HQ.out]; exact ret_str (by simp), HB.out⟩
theorem refHead_any (n : Nat) : ∀ (a : Tree) (vs : List Value) (w : World) (B : Nat), SizeOf.sizeOf a < n → all a = true → IsTree w B a vs → B ≤ w.heap.size → Calls Tryz.prog 77 #[.agg vs.toArray] w (BoolOut w (kd a).first) := by
  induction n with
  | zero => intro a vs w B h; omega
  | succ n ih =>
    intro a vs w B hn ha h hB
    obtain ⟨k, o, m, nm, t, l⟩ := a
    obtain ⟨W, hW⟩ : ∃ W, W = w.alloc (.cells vs.toArray 28) := ⟨_, rfl⟩
    obtain ⟨A1, A2, A3, A4, c1, c2, c3, c4, us, HO, HL, HC, hW8, HG, hWl, hWb⟩ := tree_box h hW
    obtain ⟨q0, q1, q2, q3, q4, q5, q6, q7⟩ := hW8
    simp only [Nat.zero_add] at q1 q7
    have HSZ := Lib.hid (fun i (hi : i < l.length) => (by have := size_kid (k := k) (o := o) (m := m) (n := nm) (t := t) hi; omega : SizeOf.sizeOf (l[i]'hi) < n))
    have HWB := Lib.hid hWb
    have HWS : Hid (w.heap.size ≤ W.heap.size) := Lib.hid (by omega)
    have HW := Lib.hid hW
    by_cases hk : k = 22 ∨ k = 23
    · have h0 : 0 < l.length := by
        have := kids_mondyo ha
        rcases hk with h | h
        · have := this.1 h; omega
        · have := this.2 h; omega
      have HF := Lib.hid (first_kid (o := o) (m := m) (n := nm) (t := t) hk h0)
      have hq0 : (0 : Int) < (l.length : Int) := by omega
      obtain ⟨b', off, tv, rfl, hbb, HTR, HR⟩ := tree_row HC.out HL.out (fun p hp => hWb.cell (by omega)) h0
      have HTI := Lib.hid (tree_info HTR.out)
      have IH := Lib.hid (ih l[0] tv W B (HSZ.out 0 h0) (alls_at (all_held ha).2.2 h0) (HTR.out.keep (fun p hp => hWb.cell (by omega)) (Nat.le_refl _)) (by omega))
      generalize (kd (.mk k o m nm t l)).first = R at *
      generalize (kd l[0]).first = r at *
      clear hW hWb h ha ih hn HTR q2 q3 q4 q5 q6 HO HL HC HG HSZ
      rcases hk with rfl | rfl
      all_goals
        go_enter Tryz.func77, Tryz.ntmps77
        go_upto_region 1 with fail
        rw [← HW.out]
        go_wp2_with (with_reducible refine wpList_load_mid rfl 28 (.tmp 13) rfl b' off rfl tv _ (by have := HR.out; simpa using this) Tryz.underlying28 rfl HTI.out ?_)
        refine IH.out.mono ?_
        rintro e w2 ⟨rfl, hb2⟩
        go_wp2_with fail
        go_ret
        exact ⟨ret_bool (by rw [HF.out]), HWB.out.trans (hb2.mono HWS.out)⟩
    · have HF := Lib.hid (first_leaf (o := o) (m := m) (n := nm) (t := t) (l := l) hk)
      have n22 : (k == 22) = false := by simp; omega
      have n23 : (k == 23) = false := by simp; omega
      generalize (kd (.mk k o m nm t l)).first = R at *
      clear hW hWb h ha ih hn q2 q3 q4 q5 q6 HO HL HC HG HSZ hk
      by_cases k24 : k = 24
      · subst k24
        go_enter Tryz.func77, Tryz.ntmps77
        go_upto_region 1 with fail
        rw [← HW.out]
        go_wp2_with fail
        go_ret
        exact ⟨ret_bool (by rw [HF.out]; rfl), HWB.out⟩
      · have n24 : (k == 24) = false := by simpa using k24
        by_cases k17 : k = 17
        · subst k17
          have IN := Lib.hid (refIn_any (some ⟨W.heap.size, 0, none⟩) 4 heads o (W.alloc (.cells (I64 heads).toArray 3)) lies_row (by decide))
          have HF2 : Hid (R = decide (o ∈ heads)) := Lib.hid (by rw [HF.out, n24]; simp [List.contains_eq_mem])
          generalize decide (o ∈ heads) = r at *
          clear HF k24
          go_enter Tryz.func77, Tryz.ntmps77
          go_upto_region 1 with fail
          rw [← HW.out]
          go_wp2_with fail
          refine IN.out.mono ?_
          rintro e w2 ⟨rfl, rfl⟩
          go_wp2_with fail
          go_ret
          exact ⟨ret_bool (by rw [HF2.out]), HWB.out.trans (((Below.refl _ _).alloc (Nat.le_refl _) _).mono HWS.out)⟩
        · have n17 : (k == 17) = false := by simpa using k17
          have HF2 : Hid (R = false) := Lib.hid (by rw [HF.out, n24, n17]; rfl)
          clear HF k24 k17
          go_enter Tryz.func77, Tryz.ntmps77
          go_upto_region 1 with fail
          rw [← HW.out]
          go_wp2_with fail
          go_ret
          exact ⟨ret_bool (by rw [HF2.out]), HWB.out⟩
theorem refItem_any (n : Nat) (hS : StOk 23 shw n) : StOk 47 (fun a => itemT (kd a)) n := by
  intro a vs w B hn ha h hB hM
  dsimp only at hM ⊢
  obtain ⟨W, hW⟩ : ∃ W, W = w.alloc (.cells vs.toArray 28) := ⟨_, rfl⟩
  have hIA := tree_infoA h
  have HI : Hid (itemT (kd a) = if item (kind a) then shw a else inner (shw a)) := Lib.hid (by unfold itemT; rw [kd_kind]; rfl)
  have hle : (shw a).length ≤ 140737488355000 := by
    rw [HI.out] at hM
    split at hM
    · exact hM
    · rw [inner_len] at hM; omega
  obtain ⟨k, o, m, nm, t, l⟩ := a
  obtain ⟨A1, A2, A3, A4, c1, c2, c3, c4, us, HO, HL, HC, hW8, HG, hWl, hWb⟩ := tree_box h hW
  have q0 : W.cell? ⟨w.heap.size, 0, none⟩ = some (.int .i64 k) := hW8.p0
  have SH := Lib.hid (hS _ vs W B hn ha (h.below (hWb.mono hB)) (by omega) hle)
  have IT := Lib.hid (fun wx => item21_any k wx)
  have HWB := Lib.hid hWb
  have HWS : Hid (w.heap.size ≤ W.heap.size) := Lib.hid (by omega)
  have HW := Lib.hid hW
  have HIA := Lib.hid hIA
  have HK : Hid (kind (.mk k o m nm t l) = k) := Lib.hid rfl
  rw [HK.out] at HI
  generalize itemT (kd (.mk k o m nm t l)) = R at *
  generalize shw (.mk k o m nm t l) = S at *
  generalize item k = x at *
  clear h hW hW8 HO HL HC hWb hIA hS ha
  cases x
  · obtain rfl : R = inner S := HI.out
    clear HI
    rw [inner_len] at hM
    go_enter Tryz.func47, Tryz.ntmps47
    go_upto_region 1 with fail
    rw [← HW.out]
    go_wp2_with fail
    refine (IT.out _).mono ?_
    rintro e w' ⟨rfl, rfl⟩
    go_wp2_with (with_reducible refine wpList_load_row rfl 28 (.tmp 1) rfl w.heap.size rfl 28 vs.toArray (0, 0) _ HG.out Tryz.underlying28 rfl HIA.out ?_)
    refine SH.out.mono ?_
    rintro e w2 ⟨rfl, hb2⟩
    go_wp2_with fail
    go_ret
    exact ⟨ret_str (by simp [inner]), HWB.out.trans (hb2.mono HWS.out)⟩
  · obtain rfl : R = S := HI.out
    clear HI
    go_enter Tryz.func47, Tryz.ntmps47
    go_upto_region 1 with fail
    rw [← HW.out]
    go_wp2_with fail
    refine (IT.out _).mono ?_
    rintro e w' ⟨rfl, rfl⟩
    go_wp2_with (with_reducible refine wpList_load_row rfl 28 (.tmp 1) rfl w.heap.size rfl 28 vs.toArray (0, 0) _ HG.out Tryz.underlying28 rfl HIA.out ?_)
    refine SH.out.mono ?_
    rintro e w2 ⟨rfl, hb2⟩
    go_wp2_with fail
    go_ret
    exact ⟨rfl, HWB.out.trans (hb2.mono HWS.out)⟩
theorem refRow_any (n : Nat) (hS : StOk 23 shw n) (items : Bool) (f : Tree → List UInt8) (hf : f = if items then fun a => itemT (kd a) else shw) (sep : List UInt8) (T : List Tree) (us : List Value) (A : Option Addr) (c : Nat)
    (w : World) (B : Nat) (hn : ∀ a ∈ T, SizeOf.sizeOf a < n) (ha : ∀ a ∈ T, all a = true) (hl : Lies w B A us) (hc : IsTrees w B T us) (hB : B ≤ w.heap.size) (hT : T.length ≤ 1100000000000)
    (hM : (join sep (T.map f)).length ≤ 140737488355000) :
    Calls Tryz.prog 46 #[.slice A T.length c, .bool items, .string ⟨sep.toArray⟩] w (StrOut w (join sep (T.map f))) := by
  have HA := Lib.hid hl
  have HC := Lib.hid hc
  have HN := Lib.hid (fun i (hi : i < T.length) => And.intro (hn T[i] (List.getElem_mem hi)) (ha T[i] (List.getElem_mem hi)))
  have HF : Hid (StOk (if items then 47 else 23) f n) := Lib.hid (by
    subst hf
    cases items
    · exact hS
    · exact refItem_any n hS)
  have JN := Lib.hid (fun j (h : j < (T.map f).length) => join_next sep (T.map f) h)
  have JL := Lib.hid (fun j (h : j ≤ (T.map f).length) => join_le sep (T.map f) ((T.map f).length - j) j (by omega))
  have HML : Hid ((T.map f).length = T.length) := Lib.hid (by simp)
  have HMG : Hid (∀ j (h : j < T.length), (T.map f)[j]'(by simpa using h) = f T[j]) := Lib.hid (fun j h => by simp)
  clear hl hc hn ha hS hf
  go_enter Tryz.func46, Tryz.ntmps46
  go_wp2_with fail
  go_loopw [7, 8] (fun sv iv wr => ∃ j : Nat, j ≤ T.length ∧ iv = .int .i64 (j : Int) ∧ sv = .string ⟨(join sep ((T.map f).take j)).toArray⟩ ∧ Hid (Below w.heap.size w wr)) (fun _ iv _ => T.length - (intOf iv).toNat)
  case atStart => exact ⟨0, Nat.zero_le _, rfl, by rw [List.take_zero]; rfl, Lib.hid (Below.refl _ _)⟩
  case round =>
    obtain ⟨j, hj, rfl, rfl, HK⟩ := hrel
    by_cases hlt : j < T.length
    · obtain ⟨b', off, tv, rfl, hb, HTR, HR⟩ := tree_row HC.out HA.out (wr := wr) (fun p hp => HK.out.cell (by omega)) hlt
      have HTI := Lib.hid (tree_info HTR.out)
      have hj0 : (0 : Int) ≤ (j : Int) := by omega
      have hj1 : (j : Int) < (T.length : Int) := by omega
      have HNX : Hid (join sep ((T.map f).take (j + 1)) = join sep ((T.map f).take j) ++ ((if j = 0 then [] else sep) ++ f T[j])) := Lib.hid (by rw [JN.out j (by rw [HML.out]; exact hlt), HMG.out j hlt])
      have hJL := JL.out (j + 1) (by rw [HML.out]; omega)
      rw [HNX.out, List.length_append, List.length_append] at hJL
      have FX := Lib.hid (HF.out (T[j]'hlt) tv wr B (HN.out j hlt).1 (HN.out j hlt).2 (HTR.out.keep (fun p hp => HK.out.cell (by omega)) (Nat.le_refl _)) (by have := HK.out.size; omega) (by omega))
      generalize join sep ((T.map f).take j) = J at *
      generalize f T[j] = ft at *
      clear HTR JN
      by_cases h0j : j = 0
      · have q0 : ¬ ((0 : Int) < (j : Int)) := by omega
        rw [if_pos h0j] at HNX hJL
        rw [List.length_nil] at hJL
        clear h0j
        cases items
        all_goals
          simp (config := {decide := true}) only [if_true, if_false] at FX
          go_wp2_with (first
            | (with_reducible refine wpList_load_mid rfl 28 (.tmp 24) rfl b' (off + j * 8) rfl tv _ HR.out Tryz.underlying28 rfl HTI.out ?_)
            | (with_reducible refine wpList_load_mid rfl 28 (.tmp 31) rfl b' (off + j * 8) rfl tv _ HR.out Tryz.underlying28 rfl HTI.out ?_))
          refine FX.out.mono ?_
          rintro e w2 ⟨rfl, hb2⟩
          have HB2 := Lib.hid (HK.out.trans (hb2.mono HK.out.size))
          clear hb2
          go_wp2_with fail
          go_roundw
          case rel => exact ⟨j + 1, by omega, by go_num, by rw [HNX.out] <;> (congr 1 <;> exact ByteArray.ext (by simp)), HB2⟩
          case measure => simp [intOf]; omega
      · have q0 : (0 : Int) < (j : Int) := by omega
        rw [if_neg h0j] at HNX hJL
        clear h0j
        cases items
        all_goals
          simp (config := {decide := true}) only [if_true, if_false] at FX
          go_wp2_with (first
            | (with_reducible refine wpList_load_mid rfl 28 (.tmp 24) rfl b' (off + j * 8) rfl tv _ HR.out Tryz.underlying28 rfl HTI.out ?_)
            | (with_reducible refine wpList_load_mid rfl 28 (.tmp 31) rfl b' (off + j * 8) rfl tv _ HR.out Tryz.underlying28 rfl HTI.out ?_))
          refine FX.out.mono ?_
          rintro e w2 ⟨rfl, hb2⟩
          have HB2 := Lib.hid (HK.out.trans (hb2.mono HK.out.size))
          clear hb2
          go_wp2_with fail
          go_roundw
          case rel => exact ⟨j + 1, by omega, by go_num, by rw [HNX.out] <;> (congr 1 <;> exact ByteArray.ext (by simp)), HB2⟩
          case measure => simp [intOf]; omega
    · have e : (T.map f).take j = T.map f := List.take_of_length_le (by rw [HML.out]; omega)
      rw [e]
      clear e
      go_wp2_with fail
      go_ret
      exact ⟨rfl, HK.out⟩
end Go.Proofs.YtceplkpjnebnfaaGreatDoor
