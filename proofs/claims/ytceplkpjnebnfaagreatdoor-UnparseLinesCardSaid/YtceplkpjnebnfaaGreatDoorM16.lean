/-
  Texts of this proof, joined (by wip/bin/bundle.py): Tree15, RUnp3, UnpLines, NatLaid.
-/
import Derived.Test.YtceplkpjnebnfaaGreatDoorM15
import Derived.Test.YtceplkpjnebnfaaGreatDoorRows
import Derived.Lib.LaidTab
import Derived.LaidMore
import Derived.Stop.LaidErr
import Derived.MakeChecks
import Derived.OpenShut
import Derived.ProofKit
import Derived.ChangeOld
/-
  The document: may an expression be?
-/
namespace Go.Proofs.YtceplkpjnebnfaaGreatDoor
open Go.RowKit Tr
set_option maxHeartbeats 4000000
set_option maxRecDepth 100000
set_option linter.unusedVariables false

theorem alls_bad : ∀ {l : List Tree} {i : Nat} (h : i < l.length), all l[i] = false → alls l = false
  | [], _, h, _ => by simp at h
  | t :: r, 0, _, h => by unfold alls; rw [show all t = false from h]; rfl
  | t :: r, i + 1, h, ha => by unfold alls; rw [alls_bad (l := r) (i := i) (by simpa using h) ha, Bool.and_false]
theorem alls_good : ∀ {l : List Tree}, (∀ i (h : i < l.length), all l[i] = true) → alls l = true
  | [], _ => rfl
  | t :: r, h => by unfold alls; rw [show all t = true from h 0 (by simp), alls_good (l := r) (fun i hi => h (i + 1) (by simpa using hi))]; rfl
theorem one21t_any (a : Tree) (vs : List Value) (w : World) (B : Nat) (h : IsTree w B a vs) (hB : B ≤ w.heap.size) : Calls Tryz.prog 56 #[.agg vs.toArray] w (BoolOut w (one a)) := by
  have := one21_any a vs w B h hB
  obtain ⟨k, o, m, nm, t, l⟩ := a
  rwa [show oneR (kind (.mk k o m nm t l)) (op (.mk k o m nm t l)) (name (.mk k o m nm t l)) (num (.mk k o m nm t l)) (text (.mk k o m nm t l)) ((kids (.mk k o m nm t l)).map kind) = one (.mk k o m nm t l) from by rw [one_eq]; rfl] at this
theorem all21_any (n : Nat) : ∀ (a : Tree) (vs : List Value) (w : World) (B : Nat), SizeOf.sizeOf a < n → IsTree w B a vs → B ≤ w.heap.size →
    Calls Tryz.prog 29 #[.agg vs.toArray] w (BoolOut w (all a)) := by
  induction n with
  | zero => intro a vs w B h; omega
  | succ n ih =>
    intro a vs w B hn h hB
    have O1 := fun wx hx hy => one21t_any a vs wx B hx hy
    have hIA := tree_infoA h
    have h' := h
    obtain ⟨k, o, m, nm, t, l⟩ := a
    obtain ⟨W, hW⟩ : ∃ W, W = w.alloc (.cells vs.toArray 28) := ⟨_, rfl⟩
    obtain ⟨A1, A2, A3, A4, c1, c2, c3, c4, us, HO, HL, HC, hW8, HG, hWl, hWb⟩ := tree_box h hW
    have hf4 := HO.out.f4.le (by omega)
    have HSZ : ∀ (i : Nat) (hi : i < l.length), SizeOf.sizeOf l[i] < n := fun i hi => by have := size_kid (k := k) (o := o) (m := m) (n := nm) (t := t) hi; omega
    replace HSZ := Lib.hid HSZ
    have HR : Hid (all (.mk k o m nm t l) = (one (.mk k o m nm t l) && alls l)) := Lib.hid (by rw [all])
    have AB : Hid (∀ i (hi : i < l.length), all l[i] = false → alls l = false) := Lib.hid (fun i hi h => alls_bad hi h)
    have AG := Lib.hid (@alls_good l)
    have O2 := Lib.hid (O1 W (h'.below (hWb.mono hB)) (by omega))
    generalize one (.mk k o m nm t l) = x at *
    generalize all (.mk k o m nm t l) = R at *
    generalize alls l = Y at *
    have HQ : Hid (∀ wx, Below W.heap.size W wx → wx.cell? ⟨w.heap.size, 7, none⟩ = some (.slice A4 l.length c4)) := Lib.hid (fun wx hx => (hx.cell (p := ⟨w.heap.size, 7, none⟩) hWl).trans hW8.p7)
    have HKB : Hid (∀ wx, Below W.heap.size W wx → ∀ p : Addr, p.block < B → wx.cell? p = w.cell? p) := Lib.hid (fun wx hx p hp => by rw [hx.cell (by omega), hWb.cell (by omega)])
    have HWB := Lib.hid hWb
    have HWS : Hid (w.heap.size ≤ W.heap.size) := Lib.hid (by omega)
    have HW := Lib.hid hW
    have HIA := Lib.hid hIA
    clear hW8 HO hWb hW h hn h' O1 hIA
    go_enter Tryz.func29, Tryz.ntmps29
    go_upto_region 1 with fail
    rw [← HW.out]
    go_wp2_with (with_reducible refine wpList_load_row rfl 28 (.tmp 1) rfl w.heap.size rfl 28 vs.toArray (0, 0) _ HG.out Tryz.underlying28 rfl HIA.out ?_)
    refine O2.out.mono ?_
    rintro e w2 ⟨rfl, hb2⟩
    cases x
    · have HZ : Hid (R = false) := Lib.hid (by rw [HR.out]; rfl)
      go_wp2_with fail
      go_ret
      exact ⟨ret_bool (by rw [HZ.out]), HWB.out.trans (hb2.mono HWS.out)⟩
    · have HRY : Hid (R = Y) := Lib.hid (by rw [HR.out]; rfl)
      clear HR
      have q7 := HQ.out w2 hb2
      go_wp2_with fail
      go_loopw [3] (fun i wr => ∃ (j : Nat), j ≤ l.length ∧ i = .int .i64 j ∧ Hid (∀ i (hi : i < l.length), i < j → all l[i] = true) ∧ Below W.heap.size W wr) (fun i _ => l.length - (intOf i).toNat)
      case atStart => exact ⟨0, Nat.zero_le _, rfl, Lib.hid (fun i hi h => by omega), hb2⟩
      case round =>
        clear q7
        obtain ⟨j, hj, rfl, HI, hbel⟩ := hrel
        have q7 := HQ.out wr hbel
        by_cases hlt : j < l.length
        · obtain ⟨b, off, tv, rfl, hb, HT, HR2⟩ := tree_row HC.out HL.out (HKB.out wr hbel) hlt
          have IH := Lib.hid (ih l[j] _ wr B (HSZ.out j hlt) (HT.out.keep (HKB.out wr hbel) (Nat.le_refl _)) (by have := hbel.size; omega))
          have HI2 := Lib.hid (tree_info HT.out)
          have HS : Hid (all l[j] = true → ∀ i (hi : i < l.length), i < j + 1 → all l[i] = true) := Lib.hid (fun h i hi hij => by
            by_cases e : i = j
            · subst e; exact h
            · exact HI.out i hi (by omega))
          have HF := Lib.hid (AB.out j hlt)
          generalize all l[j] = z at *
          clear HT
          cases z
          · have HZ : Hid (R = false) := Lib.hid (by rw [HRY.out]; exact HF.out rfl)
            go_wp2_with (with_reducible refine wpList_load_mid rfl 28 (.tmp 17) rfl b (off + j * 8) rfl tv _ HR2.out Tryz.underlying28 rfl HI2.out ?_)
            refine IH.out.mono ?_
            rintro e w3 ⟨rfl, hb3⟩
            go_wp2_with fail
            go_ret
            exact ⟨ret_bool (by rw [HZ.out]), HWB.out.trans ((hbel.trans (hb3.mono hbel.size)).mono HWS.out)⟩
          · have HN := Lib.hid (HS.out rfl)
            go_wp2_with (with_reducible refine wpList_load_mid rfl 28 (.tmp 17) rfl b (off + j * 8) rfl tv _ HR2.out Tryz.underlying28 rfl HI2.out ?_)
            refine IH.out.mono ?_
            rintro e w3 ⟨rfl, hb3⟩
            go_wp2_with fail
            go_roundw
            case rel => exact ⟨j + 1, by omega, by go_num, HN, hbel.trans (hb3.mono hbel.size)⟩
            case measure => simp [intOf]; omega
        · have HZ : Hid (R = true) := Lib.hid (by rw [HRY.out]; exact AG.out (fun i hi => HI.out i hi (by omega)))
          go_wp2_with fail
          go_ret
          exact ⟨ret_bool (by rw [HZ.out]), HWB.out.trans (hbel.mono HWS.out)⟩
theorem right21_any (a : Tree) (vs : List Value) (w : World) (B : Nat) (h : IsTree w B a vs) (hB : B ≤ w.heap.size) (hc : count a ≤ 1000000) :
    Calls Tryz.prog 13 #[.agg vs.toArray] w (BoolOut w (right a)) := by
  obtain ⟨W, hW⟩ : ∃ W, W = w.alloc (.cells vs.toArray 28) := ⟨_, rfl⟩
  have hWb : Below w.heap.size w W := by rw [hW]; exact (Below.refl _ _).alloc (Nat.le_refl _) _
  have hWl : w.heap.size < W.heap.size := by rw [hW]; simp
  have HG : Hid (∀ wx, Below W.heap.size W wx → wx.heap[w.heap.size]? = some (.cells vs.toArray 28 (0, 0))) := Lib.hid (fun wx hx => (hx.block _ hWl).trans (by rw [hW]; exact heap_alloc_new w _))
  have hk : ∀ wx, Below W.heap.size W wx → IsTree wx B a vs ∧ B ≤ wx.heap.size := fun wx hx => ⟨h.below ((hWb.trans (hx.mono (by omega))).mono hB), by have := hx.size; omega⟩
  have D1 := Lib.hid (depth21_any _ a vs W B (Nat.lt_succ_self _) (hk W (Below.refl _ _)).1 (hk W (Below.refl _ _)).2 hc)
  have C1 := Lib.hid (fun wx hx => count21_any _ a vs wx B (Nat.lt_succ_self _) (hk wx hx).1 (hk wx hx).2 hc)
  have L1 := Lib.hid (fun wx hx => all21_any _ a vs wx B (Nat.lt_succ_self _) (hk wx hx).1 (hk wx hx).2)
  have HR : Hid (right a = (decide (depth a ≤ 40) && decide (count a ≤ 2048) && all a)) := Lib.hid rfl
  have HIA := Lib.hid (tree_infoA h)
  have hdc := depth_count a
  generalize depth a = d at *
  generalize count a = c at *
  generalize all a = x at *
  generalize right a = R at *
  have HWB := Lib.hid hWb
  have HWS : Hid (w.heap.size ≤ W.heap.size) := Lib.hid (by omega)
  have HW := Lib.hid hW
  clear h hk hW hWb
  have hbl : Below W.heap.size W W := Below.refl _ _
  have HBL := Lib.hid hbl
  go_enter Tryz.func13, Tryz.ntmps13
  go_upto_region 1 with fail
  rw [← HW.out]
  go_wp2_with (with_reducible refine wpList_load_row rfl 28 (.tmp 1) rfl w.heap.size rfl 28 vs.toArray (0, 0) _ (HG.out _ hbl) Tryz.underlying28 rfl HIA.out ?_)
  refine D1.out.mono ?_
  rintro e w2 ⟨rfl, hb2⟩
  by_cases h1 : d ≤ 40
  · have q1 : (d : Int) ≤ 40 := by omega
    go_wp2_with (refine tload_rowG rfl 28 (.tmp 1) rfl w.heap.size rfl 28 vs.toArray (0, 0) _ (HG.out _ hb2) Tryz.underlying28 rfl HIA.out ?_)
    refine (C1.out w2 hb2).mono ?_
    rintro e w3 ⟨rfl, hb3'⟩
    have hb3 := hb2.trans (hb3'.mono hb2.size)
    by_cases h2 : c ≤ 2048
    · have q2 : (c : Int) ≤ 2048 := by omega
      have HZ : Hid (R = x) := Lib.hid (by rw [HR.out, decide_eq_true h1, decide_eq_true h2]; rfl)
      go_wp2_with (refine tload_rowG rfl 28 (.tmp 1) rfl w.heap.size rfl 28 vs.toArray (0, 0) _ (HG.out _ hb3) Tryz.underlying28 rfl HIA.out ?_)
      refine (L1.out w3 hb3).mono ?_
      rintro e w4 ⟨rfl, hb4⟩
      go_wp2_with fail
      go_ret
      exact ⟨ret_bool (by rw [HZ.out]), HWB.out.trans ((hb3.trans (hb4.mono hb3.size)).mono HWS.out)⟩
    · have q2 : ¬ (c : Int) ≤ 2048 := by omega
      have HZ : Hid (R = false) := Lib.hid (by rw [HR.out, decide_eq_false h2]; simp)
      go_wp2_with fail
      go_ret
      exact ⟨ret_bool (by rw [HZ.out]), HWB.out.trans (hb3.mono HWS.out)⟩
  · have q1 : ¬ (d : Int) ≤ 40 := by omega
    have HZ : Hid (R = false) := Lib.hid (by rw [HR.out, decide_eq_false h1]; simp)
    go_wp2_with fail
    go_ret
    exact ⟨ret_bool (by rw [HZ.out]), HWB.out.trans (hb2.mono HWS.out)⟩
end Go.Proofs.YtceplkpjnebnfaaGreatDoor

/-
  The document's text of an expression: of any.
-/
namespace Go.Proofs.YtceplkpjnebnfaaGreatDoor
open Go.RowKit Tr
set_option maxHeartbeats 2000000
set_option maxRecDepth 100000
set_option linter.unusedVariables false

theorem shw25b {o : Int} {m : List UInt8} {n : Rt.Nm} {t : List Int} {l : List Tree} (h : l.length = 2) : shw (.mk 25 o m n t l) = shw (l[0]'(by omega)) ++ (([58] : List UInt8) ++ shw (l[1]'(by omega))) := by
  match l, h with
  | [a, b], _ => rw [shw25]; simp [join]
theorem shw26b {o : Int} {m : List UInt8} {n : Rt.Nm} {t : List Int} {l : List Tree} (h : l.length = 2) : shw (.mk 26 o m n t l) = shw (l[0]'(by omega)) ++ (([58, 58] : List UInt8) ++ shw (l[1]'(by omega))) := by
  match l, h with
  | [a, b], _ => rw [shw26]; simp [join]
theorem refShow_step (n : Nat) (hS : StOk 23 shw n) (k o : Int) (m : List UInt8) (nm : Rt.Nm) (tx : List Int) (T : List Tree) (vs : List Value) (w : World) (B : Nat) (hn : ∀ a ∈ T, SizeOf.sizeOf a < n) (ha : all (.mk k o m nm tx T) = true)
    (h : IsTree w B (.mk k o m nm tx T) vs) (hB : B ≤ w.heap.size) (hM : (shw (.mk k o m nm tx T)).length ≤ 140737488355000) : Calls Tryz.prog 23 #[.agg vs.toArray] w (StrOut w (shw (.mk k o m nm tx T))) := by
  obtain ⟨W, hW⟩ : ∃ W, W = w.alloc (.cells vs.toArray 28) := ⟨_, rfl⟩
  have HIA := Lib.hid (tree_infoA h)
  have HAL := Lib.hid (all_held ha)
  have HTT := Lib.hid (fun (i : Nat) (hi : i < T.length) => And.intro (hn _ (List.getElem_mem hi)) (alls_at HAL.out.2.2 hi))
  obtain ⟨A1, A2, A3, A4, c1, c2, c3, c4, us, HO, HL, HC, hW8, HG, hWl, hWb⟩ := tree_box h hW
  have hTl : T.length ≤ 1100000000000 := by have := HO.out.f4.2.1; omega
  have hcap : T.length ≤ c4 := HO.out.f4.1
  have HFAR : Hid (∀ wx, Below W.heap.size W wx → ∀ p : Addr, p.block < B → wx.cell? p = w.cell? p) := Lib.hid (fun wx hx p hp => by rw [hx.cell (by omega), hWb.cell (by omega)])
  have H8 : Hid (∀ wx, Below W.heap.size W wx → At8 wx w.heap.size 0 k o m nm tx T.length A1 A2 A3 A4 c1 c2 c3 c4) := Lib.hid (fun wx hx => hW8.keep (fun q => hx.cell (p := ⟨w.heap.size, q, none⟩) hWl))
  have HRW : Hid (∀ wx, Below W.heap.size W wx → wx.heap[w.heap.size]? = some (.cells vs.toArray 28 (0, 0))) := Lib.hid (fun wx hx => (hx.block _ hWl).trans HG.out)
  have HSB : Hid (∀ wx, Below W.heap.size W wx → B ≤ wx.heap.size) := Lib.hid (fun wx hx => by have := hx.size; omega)
  have CH := Lib.hid (fun wx c (hc : Gl.may c = true) => charText_any c wx hc)
  have SH := Lib.hid (fun (i : Nat) (hi : i < T.length) tv wx (hx : Below W.heap.size W wx) (ht : IsTree wx B T[i] tv) hm => hS (T[i]'hi) tv wx B (HTT.out i hi).1 (HTT.out i hi).2 ht (HSB.out wx hx) hm)
  have IT := Lib.hid (fun (i : Nat) (hi : i < T.length) tv wx (hx : Below W.heap.size W wx) (ht : IsTree wx B T[i] tv) hm => refItem_any n hS (T[i]'hi) tv wx B (HTT.out i hi).1 (HTT.out i hi).2 ht (HSB.out wx hx) hm)
  have BE := Lib.hid (fun (i : Nat) (hi : i < T.length) tv wx (hx : Below W.heap.size W wx) (ht : IsTree wx B T[i] tv) hm => refBehind_any n hS (T[i]'hi) tv wx B (HTT.out i hi).1 (HTT.out i hi).2 ht (HSB.out wx hx) hm)
  dsimp only at IT BE
  have RO : Hid (∀ (items : Bool) (f : Tree → List UInt8), (f = if items then fun a => itemT (kd a) else shw) → ∀ (sep : List UInt8) (wx : World), Below W.heap.size W wx → (join sep (T.map f)).length ≤ 140737488355000 →
      Calls Tryz.prog 46 #[.slice A4 T.length c4, .bool items, .string ⟨sep.toArray⟩] wx (StrOut wx (join sep (T.map f)))) := Lib.hid (fun items f hf sep wx hx hm =>
    refRow_any n hS items f hf sep T us A4 c4 wx B hn (fun a h => by
      obtain ⟨i, hi, rfl⟩ := List.getElem_of_mem h
      exact (HTT.out i hi).2) (HL.out.keep (HFAR.out wx hx)) (HC.out.keep (HFAR.out wx hx) (Nat.le_refl _)) (HSB.out wx hx) hTl hm)
  have RT : Hid (∀ b4 o4 (wx : World), A4 = some ⟨b4, o4, none⟩ → 0 < T.length → Below W.heap.size W wx → (join [59] ((T.drop 1).map shw)).length ≤ 140737488355000 →
      Calls Tryz.prog 46 #[.slice (some ⟨b4, o4 + 8, none⟩) (T.length - 1) (c4 - 1), .bool false, .string ⟨[59].toArray⟩] wx (StrOut wx (join [59] ((T.drop 1).map shw)))) := Lib.hid (fun b4 o4 wx e h0 hx hm => by
    obtain ⟨us2, HL2, HC2⟩ := trees_tail HC.out (by have := HL.out; rwa [e] at this) h0
    have := refRow_any n hS false shw rfl [59] (T.drop 1) us2 (some ⟨b4, o4 + 8, none⟩) (c4 - 1) wx B (fun a h => hn a (List.mem_of_mem_drop h)) (fun a h => by
      obtain ⟨i, hi, rfl⟩ := List.getElem_of_mem (List.mem_of_mem_drop h)
      exact (HTT.out i hi).2) (HL2.out.keep (HFAR.out wx hx)) (HC2.out.keep (HFAR.out wx hx) (Nat.le_refl _)) (HSB.out wx hx) (by rw [List.length_drop]; omega) hm
    rwa [List.length_drop] at this)
  have LE : Hid (∀ wx, Below W.heap.size W wx → (k = 1 ∨ k = 2 ∨ k = 3 ∨ k = 4 ∨ k = 5 ∨ k = 6 ∨ k = 7 ∨ k = 10 ∨ k = 17 ∨ k = 18 ∨ k = 19 ∨ k = 21) → Calls Tryz.prog 50 #[.agg vs.toArray] wx (StrOut wx (leafT k o m nm tx))) := Lib.hid (fun wx hx hk =>
    refLeaf_any k o m nm tx T vs wx B hk ha (h.keep (HFAR.out wx hx) (Nat.le_refl _)) (HSB.out wx hx))
  have MID : Hid (∀ b4 o4, A4 = some ⟨b4, o4, none⟩ → ∀ i (hi : i < T.length), ∃ tv, (∀ wx, Below W.heap.size W wx → IsTree wx B T[i] tv ∧ wx.rangeAt b4 (o4 + i * 8) tv) ∧ (Tryz.prog.info? 28).map (·.size) = some tv.length) := Lib.hid (fun b4 o4 e i hi => by
    obtain ⟨b', off, tv, e', hb, HTR, HR⟩ := tree_row HC.out HL.out (fun _ _ => rfl) hi
    rw [e] at e'
    injection e' with e'
    injection e' with e1 e2
    subst e1 e2
    exact ⟨tv, fun wx hx => ⟨HTR.out.keep (HFAR.out wx hx) (Nat.le_refl _), fun j v hv => (HFAR.out wx hx ⟨b4, o4 + i * 8 + j, none⟩ hb).trans (HR.out j v hv)⟩, tree_info HTR.out⟩)
  have A4E : Hid (0 < T.length → ∃ b4 o4, A4 = some ⟨b4, o4, none⟩) := Lib.hid (fun h0 => by
    obtain ⟨b', off, tv, e', hb, HTR, HR⟩ := tree_row HC.out HL.out (fun _ _ => rfl) h0
    exact ⟨b', off, e'⟩)
  have HOP := Lib.hid (held_op HAL.out.1)
  have HMK := Lib.hid (made_kinds HAL.out.2.1)
  have HML := Lib.hid (made_len HAL.out.2.1)
  have hhn := held_name HAL.out.1
  have HWB := Lib.hid hWb
  have HWS : Hid (w.heap.size ≤ W.heap.size) := Lib.hid (by omega)
  have HW := Lib.hid hW
  obtain ⟨q0, q1, q2, q3, q4, q5, q6, q7⟩ := H8.out W (Below.refl _ _)
  simp only [Nat.zero_add] at q1 q2 q3 q4 q5 q6 q7
  have EAR : Hid (Tk.enc1 8592 = [226, 134, 144]) := Lib.hid enc_arrow
  have CHR := Lib.hid (CH.out W 8592 (by decide))
  rw [EAR.out] at CHR
  clear h hW hWb HO HL HC HG ha hB hn hS hW8 HTT HAL EAR q1 q2 q3 q4 q5 q6
  go_enter Tryz.func23, Tryz.ntmps23
  go_upto_region 1 with fail
  rw [← HW.out]
  go_wp2_with fail
  refine CHR.out.mono ?_
  rintro e w1 ⟨rfl, hb1⟩
  have HB1 := Lib.hid hb1
  have HZ : Hid (∀ wx, Below w1.heap.size w1 wx → Below W.heap.size W wx) := Lib.hid (fun wx hx => hb1.trans (hx.mono hb1.size))
  obtain ⟨r0, r1, r2, r3, r4, r5, r6, r7⟩ := H8.out w1 hb1
  simp only [Nat.zero_add] at r1 r2 r3 r4 r5 r6 r7
  clear hb1 CHR q0 q7 HW r1 r2 r3 r4 r5 r6
  go_upto_region 4 with fail
  by_cases k8 : k = 8
  · subst k8
    have HD := Lib.hid (shw8 (o := o) (m := m) (n := nm) (t := tx) (l := T))
    rw [HD.out] at hM
    have RC := Lib.hid (RO.out true _ (by first | rfl | trivial) [32] w1 HB1.out hM)
    generalize shw (.mk 8 o m nm tx T) = R at *
    clear SH IT BE RO RT MID A4E LE HSB HRW HIA
    go_wp2_with fail
    refine RC.out.mono ?_
    rintro e w4 ⟨rfl, hb4⟩
    have HB4 := Lib.hid hb4
    clear hb4
    go_wp2_with fail
    go_ret
    exact ⟨ret_str (by rw [HD.out] <;> (try simp)), HWB.out.trans ((HB1.out.trans (HB4.out.mono HB1.out.size)).mono HWS.out)⟩
  by_cases k9 : k = 9
  · subst k9
    go_wp2_with fail
    have hlen := HML.out.1 (by simp)
    have HD := Lib.hid (shw9 (o := o) (m := m) (n := nm) (t := tx) hlen)
    have HPL : Hid (places ((T.drop 1).map kd) = [91] ++ (join [59] ((T.drop 1).map shw) ++ [93])) := Lib.hid (by unfold places; rw [List.map_map]; rfl)
    rw [HPL.out] at HD
    rw [HD.out] at hM
    (try simp only [List.length_append, List.length_cons, List.length_nil] at hM)
    have hq1 : (1 : Int) ≤ (T.length : Int) := by omega
    have hc41 : 1 < c4 := by omega
    obtain ⟨b4, o4, rfl⟩ := A4E.out (by omega)
    obtain ⟨tv0, hv0, hi0⟩ := MID.out b4 o4 (by first | rfl | trivial) 0 (by omega)
    replace hi0 := Lib.hid hi0
    have hq0 : (0 : Int) < (T.length : Int) := by omega
    have K0 : Hid (∀ x : Later w1, Calls Tryz.prog 47 #[.agg tv0.toArray] x.w (StrOut x.w (itemT (kd T[0])))) := Lib.hid (fun x => IT.out 0 (by omega) tv0 x.w (HZ.out _ x.b) (hv0 x.w (HZ.out _ x.b)).1 (by omega))
    have HV0 : Hid (∀ w', (∃ x : Later w1, w' = x.w) → w'.rangeAt b4 (o4 + 0 * 8) tv0) := Lib.hid (fun w' ⟨x, hx⟩ => by rw [hx]; exact (hv0 x.w (HZ.out _ x.b)).2)
    have KR : Hid (∀ x : Later w1, Calls Tryz.prog 46 #[.slice (some ⟨b4, o4 + 8, none⟩) (T.length - 1) (c4 - 1), .bool false, .string ⟨[59].toArray⟩] x.w (StrOut x.w (join [59] ((T.drop 1).map shw)))) := Lib.hid (fun x => RT.out b4 o4 x.w (by first | rfl | trivial) (by omega) (HZ.out _ x.b) (by omega))
    generalize join [59] ((T.drop 1).map shw) = J at *
    clear RT HPL SH IT BE RO MID A4E LE HSB HRW HIA hv0
    generalize itemT (kd T[0]) = X0 at *
    generalize shw (.mk 9 o m nm tx T) = R at *
    refine wp_region_later w1 (by kernel_rfl) (by kernel_rfl) (Below.drew_self w1) ?_
    iterate 2 (go_big_quiet_step (first | (go_at_call 47; with_reducible exact Later.str (K0.out _)) | (go_at_call 46; with_reducible exact Later.str (KR.out _))))
    refine wpQuiet_load_mid rfl 28 (.tmp 17) rfl b4 (o4) rfl tv0 _ (by have := HV0.out; simpa using this) Tryz.underlying28 rfl hi0.out ?_
    intro a' ha'
    simp [Act.put] at ha'
    subst ha'
    repeat (go_big_quiet_step (first | (go_at_call 47; with_reducible exact Later.str (K0.out _)) | (go_at_call 46; with_reducible exact Later.str (KR.out _))))
    refine wpQuiet_nil ?_
    rintro w4 ⟨⟨w4', hb4⟩, hw4⟩
    obtain rfl : w4 = w4' := hw4
    have HB4 := Lib.hid hb4
    clear hb4
    go_wp2_with fail
    go_ret
    exact ⟨ret_str (by rw [HD.out] <;> (try simp)), HWB.out.trans ((HB1.out.trans (HB4.out.mono HB1.out.size)).mono HWS.out)⟩
  by_cases k11 : k = 11
  · subst k11
    go_wp2_with fail
    have hlen := HML.out.2.1 (by simp)
    have HD := Lib.hid (shw11 (o := o) (m := m) (n := nm) (t := tx) hlen)
    unfold lastT at HD
    rw [HD.out] at hM
    (try simp only [List.length_append, List.length_cons, List.length_nil] at hM)
    obtain ⟨b4, o4, rfl⟩ := A4E.out (by omega)
    obtain ⟨tv0, hv0, hi0⟩ := MID.out b4 o4 (by first | rfl | trivial) 0 (by omega)
    replace hi0 := Lib.hid hi0
    have hq0 : (0 : Int) < (T.length : Int) := by omega
    obtain ⟨tv1, hv1, hi1⟩ := MID.out b4 o4 (by first | rfl | trivial) 1 (by omega)
    replace hi1 := Lib.hid hi1
    have hq1 : (1 : Int) < (T.length : Int) := by omega
    have K0 : Hid (∀ x : Later w1, Calls Tryz.prog 23 #[.agg tv0.toArray] x.w (StrOut x.w (shw T[0]))) := Lib.hid (fun x => SH.out 0 (by omega) tv0 x.w (HZ.out _ x.b) (hv0 x.w (HZ.out _ x.b)).1 (by omega))
    have K1 : Hid (∀ x : Later w1, Calls Tryz.prog 48 #[.agg tv1.toArray] x.w (StrOut x.w (Tr.behind (kd T[1])))) := Lib.hid (fun x => BE.out 1 (by omega) tv1 x.w (HZ.out _ x.b) (hv1 x.w (HZ.out _ x.b)).1 (by omega))
    have HV0 : Hid (∀ w', (∃ x : Later w1, w' = x.w) → w'.rangeAt b4 (o4 + 0 * 8) tv0) := Lib.hid (fun w' ⟨x, hx⟩ => by rw [hx]; exact (hv0 x.w (HZ.out _ x.b)).2)
    have HV1 : Hid (∀ w', (∃ x : Later w1, w' = x.w) → w'.rangeAt b4 (o4 + 1 * 8) tv1) := Lib.hid (fun w' ⟨x, hx⟩ => by rw [hx]; exact (hv1 x.w (HZ.out _ x.b)).2)
    clear SH IT BE RO MID A4E LE HSB HRW HIA hv0 hv1
    generalize shw T[0] = X0 at *
    generalize Tr.behind (kd T[1]) = X1 at *
    generalize shw (.mk 11 o m nm tx T) = R at *
    refine wp_region_later w1 (by kernel_rfl) (by kernel_rfl) (Below.drew_self w1) ?_
    iterate 2 (go_big_quiet_step (first | (go_at_call 23; with_reducible exact Later.str (K0.out _)) | (go_at_call 48; with_reducible exact Later.str (K1.out _))))
    refine wpQuiet_load_mid rfl 28 (.tmp 29) rfl b4 (o4) rfl tv0 _ (by have := HV0.out; simpa using this) Tryz.underlying28 rfl hi0.out ?_
    intro a' ha'
    simp [Act.put] at ha'
    subst ha'
    iterate 4 (go_big_quiet_step (first | (go_at_call 23; with_reducible exact Later.str (K0.out _)) | (go_at_call 48; with_reducible exact Later.str (K1.out _))))
    refine wpQuiet_load_mid rfl 28 (.tmp 34) rfl b4 (o4 + 8) rfl tv1 _ (by have := HV1.out; simpa using this) Tryz.underlying28 rfl hi1.out ?_
    intro a' ha'
    simp [Act.put] at ha'
    subst ha'
    repeat (go_big_quiet_step (first | (go_at_call 23; with_reducible exact Later.str (K0.out _)) | (go_at_call 48; with_reducible exact Later.str (K1.out _))))
    refine wpQuiet_nil ?_
    rintro w4 ⟨⟨w4', hb4⟩, hw4⟩
    obtain rfl : w4 = w4' := hw4
    have HB4 := Lib.hid hb4
    clear hb4
    go_wp2_with fail
    go_ret
    exact ⟨ret_str (by rw [HD.out] <;> (try simp)), HWB.out.trans ((HB1.out.trans (HB4.out.mono HB1.out.size)).mono HWS.out)⟩
  by_cases k12 : k = 12
  · subst k12
    have hlen := HML.out.2.2.1 (by simp)
    have HD0 := Lib.hid (shw12 (o := o) (m := m) (n := nm) (t := tx) hlen)
    unfold lastT at HD0
    have HKQ : Hid (∀ b4 o4, A4 = some ⟨b4, o4, none⟩ → w1.cell? ⟨b4, o4, none⟩ = some (.int .i64 (kind T[0]))) := Lib.hid (fun b4 o4 e => by
      obtain ⟨tv, hv, _⟩ := MID.out b4 o4 e 0 (by omega)
      obtain ⟨h1, h2⟩ := hv w1 HB1.out
      obtain ⟨e1, e2, e3, e4, e5, e6, e7, e8, rfl⟩ := h1.form
      have := h2 0 _ rfl
      simpa using this)
    obtain ⟨b4, o4, hbq⟩ := A4E.out (by omega)
    subst hbq
    have kq := HKQ.out b4 o4 (by first | rfl | trivial)
    obtain ⟨k0, hk0⟩ : ∃ x, x = kind T[0] := ⟨_, rfl⟩
    rw [← hk0] at kq HD0
    have hq00 : (0 : Int) < (T.length : Int) := by omega
    clear HKQ hk0
    by_cases h8k : k0 = 8
    · have HD := HD0
      clear HD0
      rw [if_pos h8k] at HD
      subst h8k
      go_wp2_with fail
      rw [HD.out] at hM
      (try simp only [List.length_append, List.length_cons, List.length_nil] at hM)
      obtain ⟨tv0, hv0, hi0⟩ := MID.out b4 o4 (by first | rfl | trivial) 0 (by omega)
      replace hi0 := Lib.hid hi0
      have hq0 : (0 : Int) < (T.length : Int) := by omega
      obtain ⟨tv1, hv1, hi1⟩ := MID.out b4 o4 (by first | rfl | trivial) 1 (by omega)
      replace hi1 := Lib.hid hi1
      have hq1 : (1 : Int) < (T.length : Int) := by omega
      obtain ⟨tv2, hv2, hi2⟩ := MID.out b4 o4 (by first | rfl | trivial) 2 (by omega)
      replace hi2 := Lib.hid hi2
      have hq2 : (2 : Int) < (T.length : Int) := by omega
      have K0 : Hid (∀ x : Later w1, Calls Tryz.prog 23 #[.agg tv0.toArray] x.w (StrOut x.w (shw T[0]))) := Lib.hid (fun x => SH.out 0 (by omega) tv0 x.w (HZ.out _ x.b) (hv0 x.w (HZ.out _ x.b)).1 (by omega))
      have K1 : Hid (∀ x : Later w1, Calls Tryz.prog 23 #[.agg tv1.toArray] x.w (StrOut x.w (shw T[1]))) := Lib.hid (fun x => SH.out 1 (by omega) tv1 x.w (HZ.out _ x.b) (hv1 x.w (HZ.out _ x.b)).1 (by omega))
      have K2 : Hid (∀ x : Later w1, Calls Tryz.prog 48 #[.agg tv2.toArray] x.w (StrOut x.w (Tr.behind (kd T[2])))) := Lib.hid (fun x => BE.out 2 (by omega) tv2 x.w (HZ.out _ x.b) (hv2 x.w (HZ.out _ x.b)).1 (by omega))
      have HV0 : Hid (∀ w', (∃ x : Later w1, w' = x.w) → w'.rangeAt b4 (o4 + 0 * 8) tv0) := Lib.hid (fun w' ⟨x, hx⟩ => by rw [hx]; exact (hv0 x.w (HZ.out _ x.b)).2)
      have HV1 : Hid (∀ w', (∃ x : Later w1, w' = x.w) → w'.rangeAt b4 (o4 + 1 * 8) tv1) := Lib.hid (fun w' ⟨x, hx⟩ => by rw [hx]; exact (hv1 x.w (HZ.out _ x.b)).2)
      have HV2 : Hid (∀ w', (∃ x : Later w1, w' = x.w) → w'.rangeAt b4 (o4 + 2 * 8) tv2) := Lib.hid (fun w' ⟨x, hx⟩ => by rw [hx]; exact (hv2 x.w (HZ.out _ x.b)).2)
      clear SH IT BE RO MID A4E LE HSB HRW HIA hv0 hv1 hv2
      generalize shw T[0] = X0 at *
      generalize shw T[1] = X1 at *
      generalize Tr.behind (kd T[2]) = X2 at *
      generalize shw (.mk 12 o m nm tx T) = R at *
      refine wp_region_later w1 (by kernel_rfl) (by kernel_rfl) (Below.drew_self w1) ?_
      iterate 2 (go_big_quiet_step (first | (go_at_call 23; with_reducible exact Later.str (K0.out _)) | (go_at_call 23; with_reducible exact Later.str (K1.out _)) | (go_at_call 48; with_reducible exact Later.str (K2.out _))))
      refine wpQuiet_load_mid rfl 28 (.tmp 46) rfl b4 (o4) rfl tv0 _ (by have := HV0.out; simpa using this) Tryz.underlying28 rfl hi0.out ?_
      intro a' ha'
      simp [Act.put] at ha'
      subst ha'
      iterate 4 (go_big_quiet_step (first | (go_at_call 23; with_reducible exact Later.str (K0.out _)) | (go_at_call 23; with_reducible exact Later.str (K1.out _)) | (go_at_call 48; with_reducible exact Later.str (K2.out _))))
      refine wpQuiet_load_mid rfl 28 (.tmp 51) rfl b4 (o4 + 8) rfl tv1 _ (by have := HV1.out; simpa using this) Tryz.underlying28 rfl hi1.out ?_
      intro a' ha'
      simp [Act.put] at ha'
      subst ha'
      iterate 5 (go_big_quiet_step (first | (go_at_call 23; with_reducible exact Later.str (K0.out _)) | (go_at_call 23; with_reducible exact Later.str (K1.out _)) | (go_at_call 48; with_reducible exact Later.str (K2.out _))))
      refine wpQuiet_load_mid rfl 28 (.tmp 57) rfl b4 (o4 + 16) rfl tv2 _ (by have := HV2.out; simpa using this) Tryz.underlying28 rfl hi2.out ?_
      intro a' ha'
      simp [Act.put] at ha'
      subst ha'
      repeat (go_big_quiet_step (first | (go_at_call 23; with_reducible exact Later.str (K0.out _)) | (go_at_call 23; with_reducible exact Later.str (K1.out _)) | (go_at_call 48; with_reducible exact Later.str (K2.out _))))
      refine wpQuiet_nil ?_
      rintro w4 ⟨⟨w4', hb4⟩, hw4⟩
      obtain rfl : w4 = w4' := hw4
      have HB4 := Lib.hid hb4
      clear hb4
      go_wp2_with fail
      go_ret
      exact ⟨ret_str (by rw [HD.out] <;> (try simp)), HWB.out.trans ((HB1.out.trans (HB4.out.mono HB1.out.size)).mono HWS.out)⟩
    · have HD := HD0
      clear HD0
      rw [if_neg h8k] at HD
      have n8 : (k0 == 8) = false := by simpa using h8k
      clear h8k
      go_wp2_with fail
      rw [HD.out] at hM
      (try simp only [List.length_append, List.length_cons, List.length_nil] at hM)
      obtain ⟨tv0, hv0, hi0⟩ := MID.out b4 o4 (by first | rfl | trivial) 0 (by omega)
      replace hi0 := Lib.hid hi0
      have hq0 : (0 : Int) < (T.length : Int) := by omega
      obtain ⟨tv1, hv1, hi1⟩ := MID.out b4 o4 (by first | rfl | trivial) 1 (by omega)
      replace hi1 := Lib.hid hi1
      have hq1 : (1 : Int) < (T.length : Int) := by omega
      obtain ⟨tv2, hv2, hi2⟩ := MID.out b4 o4 (by first | rfl | trivial) 2 (by omega)
      replace hi2 := Lib.hid hi2
      have hq2 : (2 : Int) < (T.length : Int) := by omega
      have K0 : Hid (∀ x : Later w1, Calls Tryz.prog 47 #[.agg tv0.toArray] x.w (StrOut x.w (itemT (kd T[0])))) := Lib.hid (fun x => IT.out 0 (by omega) tv0 x.w (HZ.out _ x.b) (hv0 x.w (HZ.out _ x.b)).1 (by omega))
      have K1 : Hid (∀ x : Later w1, Calls Tryz.prog 23 #[.agg tv1.toArray] x.w (StrOut x.w (shw T[1]))) := Lib.hid (fun x => SH.out 1 (by omega) tv1 x.w (HZ.out _ x.b) (hv1 x.w (HZ.out _ x.b)).1 (by omega))
      have K2 : Hid (∀ x : Later w1, Calls Tryz.prog 48 #[.agg tv2.toArray] x.w (StrOut x.w (Tr.behind (kd T[2])))) := Lib.hid (fun x => BE.out 2 (by omega) tv2 x.w (HZ.out _ x.b) (hv2 x.w (HZ.out _ x.b)).1 (by omega))
      have HV0 : Hid (∀ w', (∃ x : Later w1, w' = x.w) → w'.rangeAt b4 (o4 + 0 * 8) tv0) := Lib.hid (fun w' ⟨x, hx⟩ => by rw [hx]; exact (hv0 x.w (HZ.out _ x.b)).2)
      have HV1 : Hid (∀ w', (∃ x : Later w1, w' = x.w) → w'.rangeAt b4 (o4 + 1 * 8) tv1) := Lib.hid (fun w' ⟨x, hx⟩ => by rw [hx]; exact (hv1 x.w (HZ.out _ x.b)).2)
      have HV2 : Hid (∀ w', (∃ x : Later w1, w' = x.w) → w'.rangeAt b4 (o4 + 2 * 8) tv2) := Lib.hid (fun w' ⟨x, hx⟩ => by rw [hx]; exact (hv2 x.w (HZ.out _ x.b)).2)
      clear SH IT BE RO MID A4E LE HSB HRW HIA hv0 hv1 hv2
      generalize itemT (kd T[0]) = X0 at *
      generalize shw T[1] = X1 at *
      generalize Tr.behind (kd T[2]) = X2 at *
      generalize shw (.mk 12 o m nm tx T) = R at *
      refine wp_region_later w1 (by kernel_rfl) (by kernel_rfl) (Below.drew_self w1) ?_
      iterate 2 (go_big_quiet_step (first | (go_at_call 47; with_reducible exact Later.str (K0.out _)) | (go_at_call 23; with_reducible exact Later.str (K1.out _)) | (go_at_call 48; with_reducible exact Later.str (K2.out _))))
      refine wpQuiet_load_mid rfl 28 (.tmp 62) rfl b4 (o4) rfl tv0 _ (by have := HV0.out; simpa using this) Tryz.underlying28 rfl hi0.out ?_
      intro a' ha'
      simp [Act.put] at ha'
      subst ha'
      iterate 4 (go_big_quiet_step (first | (go_at_call 47; with_reducible exact Later.str (K0.out _)) | (go_at_call 23; with_reducible exact Later.str (K1.out _)) | (go_at_call 48; with_reducible exact Later.str (K2.out _))))
      refine wpQuiet_load_mid rfl 28 (.tmp 67) rfl b4 (o4 + 8) rfl tv1 _ (by have := HV1.out; simpa using this) Tryz.underlying28 rfl hi1.out ?_
      intro a' ha'
      simp [Act.put] at ha'
      subst ha'
      iterate 5 (go_big_quiet_step (first | (go_at_call 47; with_reducible exact Later.str (K0.out _)) | (go_at_call 23; with_reducible exact Later.str (K1.out _)) | (go_at_call 48; with_reducible exact Later.str (K2.out _))))
      refine wpQuiet_load_mid rfl 28 (.tmp 73) rfl b4 (o4 + 16) rfl tv2 _ (by have := HV2.out; simpa using this) Tryz.underlying28 rfl hi2.out ?_
      intro a' ha'
      simp [Act.put] at ha'
      subst ha'
      repeat (go_big_quiet_step (first | (go_at_call 47; with_reducible exact Later.str (K0.out _)) | (go_at_call 23; with_reducible exact Later.str (K1.out _)) | (go_at_call 48; with_reducible exact Later.str (K2.out _))))
      refine wpQuiet_nil ?_
      rintro w4 ⟨⟨w4', hb4⟩, hw4⟩
      obtain rfl : w4 = w4' := hw4
      have HB4 := Lib.hid hb4
      clear hb4
      go_wp2_with fail
      go_ret
      exact ⟨ret_str (by rw [HD.out] <;> (try simp)), HWB.out.trans ((HB1.out.trans (HB4.out.mono HB1.out.size)).mono HWS.out)⟩
  by_cases k13 : k = 13
  · subst k13
    go_wp2_with fail
    have hlen := HML.out.2.2.2 (by simp)
    have HD := Lib.hid (shw13 (o := o) (m := m) (n := nm) (t := tx) hlen)
    rw [HD.out] at hM
    (try simp only [List.length_append, List.length_cons, List.length_nil] at hM)
    have hr2 : ∀ x : Later w1, x.w.cell? ⟨w.heap.size, 2, none⟩ = some (.string ⟨m.toArray⟩) := fun x => by
      have := (H8.out x.w (HZ.out _ x.b)).p2
      simpa using this
    obtain ⟨b4, o4, rfl⟩ := A4E.out (by omega)
    obtain ⟨tv0, hv0, hi0⟩ := MID.out b4 o4 (by first | rfl | trivial) 0 (by omega)
    replace hi0 := Lib.hid hi0
    have hq0 : (0 : Int) < (T.length : Int) := by omega
    have K0 : Hid (∀ x : Later w1, Calls Tryz.prog 23 #[.agg tv0.toArray] x.w (StrOut x.w (shw T[0]))) := Lib.hid (fun x => SH.out 0 (by omega) tv0 x.w (HZ.out _ x.b) (hv0 x.w (HZ.out _ x.b)).1 (by omega))
    have HV0 : Hid (∀ w', (∃ x : Later w1, w' = x.w) → w'.rangeAt b4 (o4 + 0 * 8) tv0) := Lib.hid (fun w' ⟨x, hx⟩ => by rw [hx]; exact (hv0 x.w (HZ.out _ x.b)).2)
    clear SH IT BE RO MID A4E LE HSB HRW HIA hv0
    generalize shw T[0] = X0 at *
    generalize shw (.mk 13 o m nm tx T) = R at *
    refine wp_region_later w1 (by kernel_rfl) (by kernel_rfl) (Below.drew_self w1) ?_
    iterate 6 (go_big_quiet_step ((go_at_call 23; with_reducible exact Later.str (K0.out _))))
    refine wpQuiet_load_mid rfl 28 (.tmp 85) rfl b4 (o4) rfl tv0 _ (by have := HV0.out; simpa using this) Tryz.underlying28 rfl hi0.out ?_
    intro a' ha'
    simp [Act.put] at ha'
    subst ha'
    repeat (go_big_quiet_step ((go_at_call 23; with_reducible exact Later.str (K0.out _))))
    refine wpQuiet_nil ?_
    rintro w4 ⟨⟨w4', hb4⟩, hw4⟩
    obtain rfl : w4 = w4' := hw4
    have HB4 := Lib.hid hb4
    clear hb4
    go_wp2_with fail
    go_ret
    exact ⟨ret_str (by rw [HD.out] <;> (try simp)), HWB.out.trans ((HB1.out.trans (HB4.out.mono HB1.out.size)).mono HWS.out)⟩
  by_cases k27 : k = 27
  · subst k27
    go_wp2_with fail
    have hlen := HML.out.2.2.2 (by simp)
    have HD := Lib.hid (shw27 (o := o) (m := m) (n := nm) (t := tx) hlen)
    rw [HD.out] at hM
    (try simp only [List.length_append, List.length_cons, List.length_nil] at hM)
    have hr2 : ∀ x : Later w1, x.w.cell? ⟨w.heap.size, 2, none⟩ = some (.string ⟨m.toArray⟩) := fun x => by
      have := (H8.out x.w (HZ.out _ x.b)).p2
      simpa using this
    obtain ⟨b4, o4, rfl⟩ := A4E.out (by omega)
    obtain ⟨tv0, hv0, hi0⟩ := MID.out b4 o4 (by first | rfl | trivial) 0 (by omega)
    replace hi0 := Lib.hid hi0
    have hq0 : (0 : Int) < (T.length : Int) := by omega
    have K0 : Hid (∀ x : Later w1, Calls Tryz.prog 23 #[.agg tv0.toArray] x.w (StrOut x.w (shw T[0]))) := Lib.hid (fun x => SH.out 0 (by omega) tv0 x.w (HZ.out _ x.b) (hv0 x.w (HZ.out _ x.b)).1 (by omega))
    have HV0 : Hid (∀ w', (∃ x : Later w1, w' = x.w) → w'.rangeAt b4 (o4 + 0 * 8) tv0) := Lib.hid (fun w' ⟨x, hx⟩ => by rw [hx]; exact (hv0 x.w (HZ.out _ x.b)).2)
    clear SH IT BE RO MID A4E LE HSB HRW HIA hv0
    generalize shw T[0] = X0 at *
    generalize shw (.mk 27 o m nm tx T) = R at *
    refine wp_region_later w1 (by kernel_rfl) (by kernel_rfl) (Below.drew_self w1) ?_
    iterate 6 (go_big_quiet_step ((go_at_call 23; with_reducible exact Later.str (K0.out _))))
    refine wpQuiet_load_mid rfl 28 (.tmp 85) rfl b4 (o4) rfl tv0 _ (by have := HV0.out; simpa using this) Tryz.underlying28 rfl hi0.out ?_
    intro a' ha'
    simp [Act.put] at ha'
    subst ha'
    repeat (go_big_quiet_step ((go_at_call 23; with_reducible exact Later.str (K0.out _))))
    refine wpQuiet_nil ?_
    rintro w4 ⟨⟨w4', hb4⟩, hw4⟩
    obtain rfl : w4 = w4' := hw4
    have HB4 := Lib.hid hb4
    clear hb4
    go_wp2_with fail
    go_ret
    exact ⟨ret_str (by rw [HD.out] <;> (try simp)), HWB.out.trans ((HB1.out.trans (HB4.out.mono HB1.out.size)).mono HWS.out)⟩
  by_cases k14 : k = 14
  · subst k14
    go_wp2_with fail
    have hlen := HML.out.1 (by simp)
    have HD := Lib.hid (shw14 (o := o) (m := m) (n := nm) (t := tx) hlen)
    have HPL : Hid (places ((T.drop 1).map kd) = [91] ++ (join [59] ((T.drop 1).map shw) ++ [93])) := Lib.hid (by unfold places; rw [List.map_map]; rfl)
    rw [HPL.out] at HD
    rw [HD.out] at hM
    (try simp only [List.length_append, List.length_cons, List.length_nil] at hM)
    have hq1 : (1 : Int) ≤ (T.length : Int) := by omega
    have hc41 : 1 < c4 := by omega
    have hr2 : ∀ x : Later w1, x.w.cell? ⟨w.heap.size, 2, none⟩ = some (.string ⟨m.toArray⟩) := fun x => by
      have := (H8.out x.w (HZ.out _ x.b)).p2
      simpa using this
    obtain ⟨b4, o4, rfl⟩ := A4E.out (by omega)
    obtain ⟨tv0, hv0, hi0⟩ := MID.out b4 o4 (by first | rfl | trivial) 0 (by omega)
    replace hi0 := Lib.hid hi0
    have hq0 : (0 : Int) < (T.length : Int) := by omega
    have K0 : Hid (∀ x : Later w1, Calls Tryz.prog 23 #[.agg tv0.toArray] x.w (StrOut x.w (shw T[0]))) := Lib.hid (fun x => SH.out 0 (by omega) tv0 x.w (HZ.out _ x.b) (hv0 x.w (HZ.out _ x.b)).1 (by omega))
    have HV0 : Hid (∀ w', (∃ x : Later w1, w' = x.w) → w'.rangeAt b4 (o4 + 0 * 8) tv0) := Lib.hid (fun w' ⟨x, hx⟩ => by rw [hx]; exact (hv0 x.w (HZ.out _ x.b)).2)
    have KR : Hid (∀ x : Later w1, Calls Tryz.prog 46 #[.slice (some ⟨b4, o4 + 8, none⟩) (T.length - 1) (c4 - 1), .bool false, .string ⟨[59].toArray⟩] x.w (StrOut x.w (join [59] ((T.drop 1).map shw)))) := Lib.hid (fun x => RT.out b4 o4 x.w (by first | rfl | trivial) (by omega) (HZ.out _ x.b) (by omega))
    generalize join [59] ((T.drop 1).map shw) = J at *
    clear RT HPL SH IT BE RO MID A4E LE HSB HRW HIA hv0
    generalize shw T[0] = X0 at *
    generalize shw (.mk 14 o m nm tx T) = R at *
    refine wp_region_later w1 (by kernel_rfl) (by kernel_rfl) (Below.drew_self w1) ?_
    iterate 12 (go_big_quiet_step (first | (go_at_call 23; with_reducible exact Later.str (K0.out _)) | (go_at_call 46; with_reducible exact Later.str (KR.out _))))
    refine wpQuiet_load_mid rfl 28 (.tmp 102) rfl b4 (o4) rfl tv0 _ (by have := HV0.out; simpa using this) Tryz.underlying28 rfl hi0.out ?_
    intro a' ha'
    simp [Act.put] at ha'
    subst ha'
    repeat (go_big_quiet_step (first | (go_at_call 23; with_reducible exact Later.str (K0.out _)) | (go_at_call 46; with_reducible exact Later.str (KR.out _))))
    refine wpQuiet_nil ?_
    rintro w4 ⟨⟨w4', hb4⟩, hw4⟩
    obtain rfl : w4 = w4' := hw4
    have HB4 := Lib.hid hb4
    clear hb4
    go_wp2_with fail
    go_ret
    exact ⟨ret_str (by rw [HD.out] <;> (try simp)), HWB.out.trans ((HB1.out.trans (HB4.out.mono HB1.out.size)).mono HWS.out)⟩
  by_cases k15 : k = 15
  · subst k15
    go_wp2_with fail
    have hlen := HML.out.2.1 (by simp)
    have HD := Lib.hid (shw15 (o := o) (m := m) (n := nm) (t := tx) hlen)
    rw [HD.out] at hM
    (try simp only [List.length_append, List.length_cons, List.length_nil] at hM)
    have hr2 : ∀ x : Later w1, x.w.cell? ⟨w.heap.size, 2, none⟩ = some (.string ⟨m.toArray⟩) := fun x => by
      have := (H8.out x.w (HZ.out _ x.b)).p2
      simpa using this
    obtain ⟨b4, o4, rfl⟩ := A4E.out (by omega)
    obtain ⟨tv0, hv0, hi0⟩ := MID.out b4 o4 (by first | rfl | trivial) 0 (by omega)
    replace hi0 := Lib.hid hi0
    have hq0 : (0 : Int) < (T.length : Int) := by omega
    obtain ⟨tv1, hv1, hi1⟩ := MID.out b4 o4 (by first | rfl | trivial) 1 (by omega)
    replace hi1 := Lib.hid hi1
    have hq1 : (1 : Int) < (T.length : Int) := by omega
    have K0 : Hid (∀ x : Later w1, Calls Tryz.prog 23 #[.agg tv0.toArray] x.w (StrOut x.w (shw T[0]))) := Lib.hid (fun x => SH.out 0 (by omega) tv0 x.w (HZ.out _ x.b) (hv0 x.w (HZ.out _ x.b)).1 (by omega))
    have K1 : Hid (∀ x : Later w1, Calls Tryz.prog 23 #[.agg tv1.toArray] x.w (StrOut x.w (shw T[1]))) := Lib.hid (fun x => SH.out 1 (by omega) tv1 x.w (HZ.out _ x.b) (hv1 x.w (HZ.out _ x.b)).1 (by omega))
    have HV0 : Hid (∀ w', (∃ x : Later w1, w' = x.w) → w'.rangeAt b4 (o4 + 0 * 8) tv0) := Lib.hid (fun w' ⟨x, hx⟩ => by rw [hx]; exact (hv0 x.w (HZ.out _ x.b)).2)
    have HV1 : Hid (∀ w', (∃ x : Later w1, w' = x.w) → w'.rangeAt b4 (o4 + 1 * 8) tv1) := Lib.hid (fun w' ⟨x, hx⟩ => by rw [hx]; exact (hv1 x.w (HZ.out _ x.b)).2)
    clear SH IT BE RO MID A4E LE HSB HRW HIA hv0 hv1
    generalize shw T[0] = X0 at *
    generalize shw T[1] = X1 at *
    generalize shw (.mk 15 o m nm tx T) = R at *
    refine wp_region_later w1 (by kernel_rfl) (by kernel_rfl) (Below.drew_self w1) ?_
    iterate 5 (go_big_quiet_step (first | (go_at_call 23; with_reducible exact Later.str (K0.out _)) | (go_at_call 23; with_reducible exact Later.str (K1.out _))))
    refine wpQuiet_load_mid rfl 28 (.tmp 112) rfl b4 (o4) rfl tv0 _ (by have := HV0.out; simpa using this) Tryz.underlying28 rfl hi0.out ?_
    intro a' ha'
    simp [Act.put] at ha'
    subst ha'
    iterate 6 (go_big_quiet_step (first | (go_at_call 23; with_reducible exact Later.str (K0.out _)) | (go_at_call 23; with_reducible exact Later.str (K1.out _))))
    refine wpQuiet_load_mid rfl 28 (.tmp 119) rfl b4 (o4 + 8) rfl tv1 _ (by have := HV1.out; simpa using this) Tryz.underlying28 rfl hi1.out ?_
    intro a' ha'
    simp [Act.put] at ha'
    subst ha'
    repeat (go_big_quiet_step (first | (go_at_call 23; with_reducible exact Later.str (K0.out _)) | (go_at_call 23; with_reducible exact Later.str (K1.out _))))
    refine wpQuiet_nil ?_
    rintro w4 ⟨⟨w4', hb4⟩, hw4⟩
    obtain rfl : w4 = w4' := hw4
    have HB4 := Lib.hid hb4
    clear hb4
    go_wp2_with fail
    go_ret
    exact ⟨ret_str (by rw [HD.out] <;> (try simp)), HWB.out.trans ((HB1.out.trans (HB4.out.mono HB1.out.size)).mono HWS.out)⟩
  by_cases k16 : k = 16
  · subst k16
    go_wp2_with fail
    have hlen := HML.out.2.2.2 (by simp)
    have HD := Lib.hid (shw16 (o := o) (m := m) (n := nm) (t := tx) hlen)
    rw [HD.out] at hM
    (try simp only [List.length_append, List.length_cons, List.length_nil] at hM)
    have hr1 : ∀ x : Later w1, x.w.cell? ⟨w.heap.size, 1, none⟩ = some (.int .i64 o) := fun x => by
      have := (H8.out x.w (HZ.out _ x.b)).p1
      simpa using this
    have hpo := HOP.out.2.2.2.1 (by simp)
    have hpp : 0 ≤ o ∧ o < 8 := by unfold port at hpo; simp at hpo; exact hpo
    obtain ⟨hp0, hp1⟩ := hpp
    have KA : Hid (∀ x : Later w1, Calls Tryz.prog 45 #[.int .i64 9109] x.w (StrOut x.w [226, 142, 149])) := Lib.hid (fun x => CH.out x.w 9109 (by decide))
    have KB : Hid (∀ x : Later w1, Calls Tryz.prog 45 #[.int .i64 (48 + o)] x.w (StrOut x.w (digitT o))) := Lib.hid (fun x => by
      have := CH.out x.w (48 + o) (Lx.port_may hpo)
      rwa [enc_small hpo] at this)
    have hdl : (digitT o).length = 1 := rfl
    have hwr : IntKind.i64.wrap (48 + o) = 48 + o := IntWalk.i64_in _ (by omega)
    generalize digitT o = D at *
    clear hpo
    obtain ⟨b4, o4, rfl⟩ := A4E.out (by omega)
    obtain ⟨tv0, hv0, hi0⟩ := MID.out b4 o4 (by first | rfl | trivial) 0 (by omega)
    replace hi0 := Lib.hid hi0
    have hq0 : (0 : Int) < (T.length : Int) := by omega
    have K0 : Hid (∀ x : Later w1, Calls Tryz.prog 23 #[.agg tv0.toArray] x.w (StrOut x.w (shw T[0]))) := Lib.hid (fun x => SH.out 0 (by omega) tv0 x.w (HZ.out _ x.b) (hv0 x.w (HZ.out _ x.b)).1 (by omega))
    have HV0 : Hid (∀ w', (∃ x : Later w1, w' = x.w) → w'.rangeAt b4 (o4 + 0 * 8) tv0) := Lib.hid (fun w' ⟨x, hx⟩ => by rw [hx]; exact (hv0 x.w (HZ.out _ x.b)).2)
    clear SH IT BE RO MID A4E LE HSB HRW HIA hv0
    generalize shw T[0] = X0 at *
    generalize shw (.mk 16 o m nm tx T) = R at *
    refine wp_region_later w1 (by kernel_rfl) (by kernel_rfl) (Below.drew_self w1) ?_
    iterate 10 (go_big_quiet_step (first | (go_at_call 23; with_reducible exact Later.str (K0.out _)) | (go_at_call 45; with_reducible exact Later.str (KA.out _)) | (go_at_call 45; with_reducible exact Later.str (KB.out _))))
    refine wpQuiet_load_mid rfl 28 (.tmp 134) rfl b4 (o4) rfl tv0 _ (by have := HV0.out; simpa using this) Tryz.underlying28 rfl hi0.out ?_
    intro a' ha'
    simp [Act.put] at ha'
    subst ha'
    repeat (go_big_quiet_step (first | (go_at_call 23; with_reducible exact Later.str (K0.out _)) | (go_at_call 45; with_reducible exact Later.str (KA.out _)) | (go_at_call 45; with_reducible exact Later.str (KB.out _))))
    refine wpQuiet_nil ?_
    rintro w4 ⟨⟨w4', hb4⟩, hw4⟩
    obtain rfl : w4 = w4' := hw4
    have HB4 := Lib.hid hb4
    clear hb4
    go_wp2_with fail
    go_ret
    exact ⟨ret_str (by rw [HD.out] <;> (try simp)), HWB.out.trans ((HB1.out.trans (HB4.out.mono HB1.out.size)).mono HWS.out)⟩
  by_cases k20 : k = 20
  · subst k20
    have HD := Lib.hid (shw20 (o := o) (m := m) (n := nm) (t := tx) (l := T))
    rw [HD.out] at hM
    (try simp only [List.length_append, List.length_cons, List.length_nil] at hM)
    have RC := Lib.hid (fun wx hx => RO.out false shw (by first | rfl | trivial) [226, 139, 132] wx hx (by omega))
    have CD : Hid (Calls Tryz.prog 45 #[.int .i64 8900] w1 (StrOut w1 [226, 139, 132])) := Lib.hid (CH.out w1 8900 (by decide))
    generalize shw (.mk 20 o m nm tx T) = R at *
    clear SH IT BE RO RT MID A4E LE HSB HRW HIA
    go_wp2_with fail
    refine CD.out.mono ?_
    rintro e w2 ⟨rfl, hb2⟩
    have HB2 := Lib.hid (HB1.out.trans (hb2.mono HB1.out.size))
    have HB2' := Lib.hid hb2
    clear hb2
    go_wp2_with fail
    refine (RC.out w2 HB2.out).mono ?_
    rintro e w4 ⟨rfl, hb4⟩
    have HB4 := Lib.hid (HB2'.out.trans (hb4.mono HB2'.out.size))
    clear hb4
    go_wp2_with fail
    go_ret
    exact ⟨ret_str (by rw [HD.out] <;> (try simp)), HWB.out.trans ((HB1.out.trans (HB4.out.mono HB1.out.size)).mono HWS.out)⟩
  by_cases k22 : k = 22
  · subst k22
    go_wp2_with fail
    have hlen := HML.out.2.2.2 (by simp)
    have HD := Lib.hid (shw22 (o := o) (m := m) (n := nm) (t := tx) hlen)
    rw [HD.out] at hM
    (try simp only [List.length_append, List.length_cons, List.length_nil] at hM)
    have hr1 : ∀ x : Later w1, x.w.cell? ⟨w.heap.size, 1, none⟩ = some (.int .i64 o) := fun x => by
      have := (H8.out x.w (HZ.out _ x.b)).p1
      simpa using this
    have hmay := mon_may (HOP.out.1 (by simp))
    obtain ⟨ho0, ho1⟩ := may_bounds hmay
    have KO : Hid (∀ x : Later w1, Calls Tryz.prog 45 #[.int .i64 o] x.w (StrOut x.w (Tk.enc1 o))) := Lib.hid (fun x => CH.out x.w o hmay)
    generalize Tk.enc1 o = E at *
    clear hmay
    obtain ⟨b4, o4, rfl⟩ := A4E.out (by omega)
    obtain ⟨tv0, hv0, hi0⟩ := MID.out b4 o4 (by first | rfl | trivial) 0 (by omega)
    replace hi0 := Lib.hid hi0
    have hq0 : (0 : Int) < (T.length : Int) := by omega
    have K0 : Hid (∀ x : Later w1, Calls Tryz.prog 23 #[.agg tv0.toArray] x.w (StrOut x.w (shw T[0]))) := Lib.hid (fun x => SH.out 0 (by omega) tv0 x.w (HZ.out _ x.b) (hv0 x.w (HZ.out _ x.b)).1 (by omega))
    have HV0 : Hid (∀ w', (∃ x : Later w1, w' = x.w) → w'.rangeAt b4 (o4 + 0 * 8) tv0) := Lib.hid (fun w' ⟨x, hx⟩ => by rw [hx]; exact (hv0 x.w (HZ.out _ x.b)).2)
    clear SH IT BE RO MID A4E LE HSB HRW HIA hv0
    generalize shw T[0] = X0 at *
    generalize shw (.mk 22 o m nm tx T) = R at *
    refine wp_region_later w1 (by kernel_rfl) (by kernel_rfl) (Below.drew_self w1) ?_
    iterate 2 (go_big_quiet_step (first | (go_at_call 23; with_reducible exact Later.str (K0.out _)) | (go_at_call 45; with_reducible exact Later.str (KO.out _))))
    refine wpQuiet_load_mid rfl 28 (.tmp 148) rfl b4 (o4) rfl tv0 _ (by have := HV0.out; simpa using this) Tryz.underlying28 rfl hi0.out ?_
    intro a' ha'
    simp [Act.put] at ha'
    subst ha'
    repeat (go_big_quiet_step (first | (go_at_call 23; with_reducible exact Later.str (K0.out _)) | (go_at_call 45; with_reducible exact Later.str (KO.out _))))
    refine wpQuiet_nil ?_
    rintro w4 ⟨⟨w4', hb4⟩, hw4⟩
    obtain rfl : w4 = w4' := hw4
    have HB4 := Lib.hid hb4
    clear hb4
    go_wp2_with fail
    go_ret
    exact ⟨ret_str (by rw [HD.out] <;> (try simp)), HWB.out.trans ((HB1.out.trans (HB4.out.mono HB1.out.size)).mono HWS.out)⟩
  by_cases k23 : k = 23
  · subst k23
    have hlen := HML.out.2.1 (by simp)
    have HD0 := Lib.hid (shw23 (o := o) (m := m) (n := nm) (t := tx) hlen)
    have HKQ : Hid (∀ b4 o4, A4 = some ⟨b4, o4, none⟩ → w1.cell? ⟨b4, o4 + 8, none⟩ = some (.int .i64 (kind T[1]))) := Lib.hid (fun b4 o4 e => by
      obtain ⟨tv, hv, _⟩ := MID.out b4 o4 e 1 (by omega)
      obtain ⟨h1, h2⟩ := hv w1 HB1.out
      obtain ⟨e1, e2, e3, e4, e5, e6, e7, e8, rfl⟩ := h1.form
      have := h2 0 _ rfl
      simpa using this)
    obtain ⟨b4, o4, hbq⟩ := A4E.out (by omega)
    subst hbq
    have kq := HKQ.out b4 o4 (by first | rfl | trivial)
    obtain ⟨k1, hk1⟩ : ∃ x, x = kind T[1] := ⟨_, rfl⟩
    rw [← hk1] at kq HD0
    have hq10 : (1 : Int) < (T.length : Int) := by omega
    have AR := Lib.hid (array21_any k1 w1)
    clear HKQ hk1
    cases hx1 : array k1
    · have HD := HD0
      clear HD0
      rw [hx1] at HD AR
      replace HD : Hid (shw (.mk 23 o m nm tx T) = shw T[0] ++ (Tk.enc1 o ++ shw T[1])) := HD
      go_wp2_with fail
      refine AR.out.mono ?_
      rintro e w' ⟨rfl, rfl⟩
      go_wp2_with fail
      rw [HD.out] at hM
      (try simp only [List.length_append, List.length_cons, List.length_nil] at hM)
      have hr1 : ∀ x : Later w1, x.w.cell? ⟨w.heap.size, 1, none⟩ = some (.int .i64 o) := fun x => by
        have := (H8.out x.w (HZ.out _ x.b)).p1
        simpa using this
      have hmay := dy_may (HOP.out.2.1 (by simp))
      obtain ⟨ho0, ho1⟩ := may_bounds hmay
      have KO : Hid (∀ x : Later w1, Calls Tryz.prog 45 #[.int .i64 o] x.w (StrOut x.w (Tk.enc1 o))) := Lib.hid (fun x => CH.out x.w o hmay)
      generalize Tk.enc1 o = E at *
      clear hmay
      obtain ⟨tv0, hv0, hi0⟩ := MID.out b4 o4 (by first | rfl | trivial) 0 (by omega)
      replace hi0 := Lib.hid hi0
      have hq0 : (0 : Int) < (T.length : Int) := by omega
      obtain ⟨tv1, hv1, hi1⟩ := MID.out b4 o4 (by first | rfl | trivial) 1 (by omega)
      replace hi1 := Lib.hid hi1
      have hq1 : (1 : Int) < (T.length : Int) := by omega
      have K0 : Hid (∀ x : Later w1, Calls Tryz.prog 23 #[.agg tv0.toArray] x.w (StrOut x.w (shw T[0]))) := Lib.hid (fun x => SH.out 0 (by omega) tv0 x.w (HZ.out _ x.b) (hv0 x.w (HZ.out _ x.b)).1 (by omega))
      have K1 : Hid (∀ x : Later w1, Calls Tryz.prog 23 #[.agg tv1.toArray] x.w (StrOut x.w (shw T[1]))) := Lib.hid (fun x => SH.out 1 (by omega) tv1 x.w (HZ.out _ x.b) (hv1 x.w (HZ.out _ x.b)).1 (by omega))
      have HV0 : Hid (∀ w', (∃ x : Later w1, w' = x.w) → w'.rangeAt b4 (o4 + 0 * 8) tv0) := Lib.hid (fun w' ⟨x, hx⟩ => by rw [hx]; exact (hv0 x.w (HZ.out _ x.b)).2)
      have HV1 : Hid (∀ w', (∃ x : Later w1, w' = x.w) → w'.rangeAt b4 (o4 + 1 * 8) tv1) := Lib.hid (fun w' ⟨x, hx⟩ => by rw [hx]; exact (hv1 x.w (HZ.out _ x.b)).2)
      clear SH IT BE RO MID A4E LE HSB HRW HIA hv0 hv1
      generalize shw T[0] = X0 at *
      generalize shw T[1] = X1 at *
      generalize shw (.mk 23 o m nm tx T) = R at *
      refine wp_region_later w1 (by kernel_rfl) (by kernel_rfl) (Below.drew_self w1) ?_
      iterate 2 (go_big_quiet_step (first | (go_at_call 23; with_reducible exact Later.str (K0.out _)) | (go_at_call 23; with_reducible exact Later.str (K1.out _)) | (go_at_call 45; with_reducible exact Later.str (KO.out _))))
      refine wpQuiet_load_mid rfl 28 (.tmp 176) rfl b4 (o4) rfl tv0 _ (by have := HV0.out; simpa using this) Tryz.underlying28 rfl hi0.out ?_
      intro a' ha'
      simp [Act.put] at ha'
      subst ha'
      iterate 7 (go_big_quiet_step (first | (go_at_call 23; with_reducible exact Later.str (K0.out _)) | (go_at_call 23; with_reducible exact Later.str (K1.out _)) | (go_at_call 45; with_reducible exact Later.str (KO.out _))))
      refine wpQuiet_load_mid rfl 28 (.tmp 184) rfl b4 (o4 + 8) rfl tv1 _ (by have := HV1.out; simpa using this) Tryz.underlying28 rfl hi1.out ?_
      intro a' ha'
      simp [Act.put] at ha'
      subst ha'
      repeat (go_big_quiet_step (first | (go_at_call 23; with_reducible exact Later.str (K0.out _)) | (go_at_call 23; with_reducible exact Later.str (K1.out _)) | (go_at_call 45; with_reducible exact Later.str (KO.out _))))
      refine wpQuiet_nil ?_
      rintro w4 ⟨⟨w4', hb4⟩, hw4⟩
      obtain rfl : w4 = w4' := hw4
      have HB4 := Lib.hid hb4
      clear hb4
      go_wp2_with fail
      go_ret
      exact ⟨ret_str (by rw [HD.out] <;> (try simp)), HWB.out.trans ((HB1.out.trans (HB4.out.mono HB1.out.size)).mono HWS.out)⟩
    · have HD := HD0
      clear HD0
      rw [hx1] at HD AR
      replace HD : Hid (shw (.mk 23 o m nm tx T) = shw T[0] ++ (Tk.enc1 o ++ itemT (kd T[1]))) := HD
      go_wp2_with fail
      refine AR.out.mono ?_
      rintro e w' ⟨rfl, rfl⟩
      go_wp2_with fail
      rw [HD.out] at hM
      (try simp only [List.length_append, List.length_cons, List.length_nil] at hM)
      have hr1 : ∀ x : Later w1, x.w.cell? ⟨w.heap.size, 1, none⟩ = some (.int .i64 o) := fun x => by
        have := (H8.out x.w (HZ.out _ x.b)).p1
        simpa using this
      have hmay := dy_may (HOP.out.2.1 (by simp))
      obtain ⟨ho0, ho1⟩ := may_bounds hmay
      have KO : Hid (∀ x : Later w1, Calls Tryz.prog 45 #[.int .i64 o] x.w (StrOut x.w (Tk.enc1 o))) := Lib.hid (fun x => CH.out x.w o hmay)
      generalize Tk.enc1 o = E at *
      clear hmay
      obtain ⟨tv0, hv0, hi0⟩ := MID.out b4 o4 (by first | rfl | trivial) 0 (by omega)
      replace hi0 := Lib.hid hi0
      have hq0 : (0 : Int) < (T.length : Int) := by omega
      obtain ⟨tv1, hv1, hi1⟩ := MID.out b4 o4 (by first | rfl | trivial) 1 (by omega)
      replace hi1 := Lib.hid hi1
      have hq1 : (1 : Int) < (T.length : Int) := by omega
      have K0 : Hid (∀ x : Later w1, Calls Tryz.prog 23 #[.agg tv0.toArray] x.w (StrOut x.w (shw T[0]))) := Lib.hid (fun x => SH.out 0 (by omega) tv0 x.w (HZ.out _ x.b) (hv0 x.w (HZ.out _ x.b)).1 (by omega))
      have K1 : Hid (∀ x : Later w1, Calls Tryz.prog 47 #[.agg tv1.toArray] x.w (StrOut x.w (itemT (kd T[1])))) := Lib.hid (fun x => IT.out 1 (by omega) tv1 x.w (HZ.out _ x.b) (hv1 x.w (HZ.out _ x.b)).1 (by omega))
      have HV0 : Hid (∀ w', (∃ x : Later w1, w' = x.w) → w'.rangeAt b4 (o4 + 0 * 8) tv0) := Lib.hid (fun w' ⟨x, hx⟩ => by rw [hx]; exact (hv0 x.w (HZ.out _ x.b)).2)
      have HV1 : Hid (∀ w', (∃ x : Later w1, w' = x.w) → w'.rangeAt b4 (o4 + 1 * 8) tv1) := Lib.hid (fun w' ⟨x, hx⟩ => by rw [hx]; exact (hv1 x.w (HZ.out _ x.b)).2)
      clear SH IT BE RO MID A4E LE HSB HRW HIA hv0 hv1
      generalize shw T[0] = X0 at *
      generalize itemT (kd T[1]) = X1 at *
      generalize shw (.mk 23 o m nm tx T) = R at *
      refine wp_region_later w1 (by kernel_rfl) (by kernel_rfl) (Below.drew_self w1) ?_
      iterate 2 (go_big_quiet_step (first | (go_at_call 23; with_reducible exact Later.str (K0.out _)) | (go_at_call 47; with_reducible exact Later.str (K1.out _)) | (go_at_call 45; with_reducible exact Later.str (KO.out _))))
      refine wpQuiet_load_mid rfl 28 (.tmp 163) rfl b4 (o4) rfl tv0 _ (by have := HV0.out; simpa using this) Tryz.underlying28 rfl hi0.out ?_
      intro a' ha'
      simp [Act.put] at ha'
      subst ha'
      iterate 7 (go_big_quiet_step (first | (go_at_call 23; with_reducible exact Later.str (K0.out _)) | (go_at_call 47; with_reducible exact Later.str (K1.out _)) | (go_at_call 45; with_reducible exact Later.str (KO.out _))))
      refine wpQuiet_load_mid rfl 28 (.tmp 171) rfl b4 (o4 + 8) rfl tv1 _ (by have := HV1.out; simpa using this) Tryz.underlying28 rfl hi1.out ?_
      intro a' ha'
      simp [Act.put] at ha'
      subst ha'
      repeat (go_big_quiet_step (first | (go_at_call 23; with_reducible exact Later.str (K0.out _)) | (go_at_call 47; with_reducible exact Later.str (K1.out _)) | (go_at_call 45; with_reducible exact Later.str (KO.out _))))
      refine wpQuiet_nil ?_
      rintro w4 ⟨⟨w4', hb4⟩, hw4⟩
      obtain rfl : w4 = w4' := hw4
      have HB4 := Lib.hid hb4
      clear hb4
      go_wp2_with fail
      go_ret
      exact ⟨ret_str (by rw [HD.out] <;> (try simp)), HWB.out.trans ((HB1.out.trans (HB4.out.mono HB1.out.size)).mono HWS.out)⟩
  by_cases k24 : k = 24
  · subst k24
    go_wp2_with fail
    have hlen := HML.out.2.2.2 (by simp)
    have HD := Lib.hid (shw24 (o := o) (m := m) (n := nm) (t := tx) hlen)
    rw [HD.out] at hM
    (try simp only [List.length_append, List.length_cons, List.length_nil] at hM)
    have KJ : Hid (∀ x : Later w1, Calls Tryz.prog 45 #[.int .i64 8728] x.w (StrOut x.w [226, 136, 152])) := Lib.hid (fun x => CH.out x.w 8728 (by decide))
    obtain ⟨b4, o4, rfl⟩ := A4E.out (by omega)
    obtain ⟨tv0, hv0, hi0⟩ := MID.out b4 o4 (by first | rfl | trivial) 0 (by omega)
    replace hi0 := Lib.hid hi0
    have hq0 : (0 : Int) < (T.length : Int) := by omega
    have K0 : Hid (∀ x : Later w1, Calls Tryz.prog 23 #[.agg tv0.toArray] x.w (StrOut x.w (shw T[0]))) := Lib.hid (fun x => SH.out 0 (by omega) tv0 x.w (HZ.out _ x.b) (hv0 x.w (HZ.out _ x.b)).1 (by omega))
    have HV0 : Hid (∀ w', (∃ x : Later w1, w' = x.w) → w'.rangeAt b4 (o4 + 0 * 8) tv0) := Lib.hid (fun w' ⟨x, hx⟩ => by rw [hx]; exact (hv0 x.w (HZ.out _ x.b)).2)
    clear SH IT BE RO MID A4E LE HSB HRW HIA hv0
    generalize shw T[0] = X0 at *
    generalize shw (.mk 24 o m nm tx T) = R at *
    refine wp_region_later w1 (by kernel_rfl) (by kernel_rfl) (Below.drew_self w1) ?_
    iterate 4 (go_big_quiet_step (first | (go_at_call 23; with_reducible exact Later.str (K0.out _)) | (go_at_call 45; with_reducible exact Later.str (KJ.out _))))
    refine wpQuiet_load_mid rfl 28 (.tmp 193) rfl b4 (o4) rfl tv0 _ (by have := HV0.out; simpa using this) Tryz.underlying28 rfl hi0.out ?_
    intro a' ha'
    simp [Act.put] at ha'
    subst ha'
    repeat (go_big_quiet_step (first | (go_at_call 23; with_reducible exact Later.str (K0.out _)) | (go_at_call 45; with_reducible exact Later.str (KJ.out _))))
    refine wpQuiet_nil ?_
    rintro w4 ⟨⟨w4', hb4⟩, hw4⟩
    obtain rfl : w4 = w4' := hw4
    have HB4 := Lib.hid hb4
    clear hb4
    go_wp2_with fail
    go_ret
    exact ⟨ret_str (by rw [HD.out] <;> (try simp)), HWB.out.trans ((HB1.out.trans (HB4.out.mono HB1.out.size)).mono HWS.out)⟩
  by_cases k25 : k = 25
  · subst k25
    go_wp2_with fail
    have hlen := HML.out.2.1 (by simp)
    have HD := Lib.hid (shw25b (o := o) (m := m) (n := nm) (t := tx) hlen)
    rw [HD.out] at hM
    (try simp only [List.length_append, List.length_cons, List.length_nil] at hM)
    obtain ⟨b4, o4, rfl⟩ := A4E.out (by omega)
    obtain ⟨tv0, hv0, hi0⟩ := MID.out b4 o4 (by first | rfl | trivial) 0 (by omega)
    replace hi0 := Lib.hid hi0
    have hq0 : (0 : Int) < (T.length : Int) := by omega
    obtain ⟨tv1, hv1, hi1⟩ := MID.out b4 o4 (by first | rfl | trivial) 1 (by omega)
    replace hi1 := Lib.hid hi1
    have hq1 : (1 : Int) < (T.length : Int) := by omega
    have K0 : Hid (∀ x : Later w1, Calls Tryz.prog 23 #[.agg tv0.toArray] x.w (StrOut x.w (shw T[0]))) := Lib.hid (fun x => SH.out 0 (by omega) tv0 x.w (HZ.out _ x.b) (hv0 x.w (HZ.out _ x.b)).1 (by omega))
    have K1 : Hid (∀ x : Later w1, Calls Tryz.prog 23 #[.agg tv1.toArray] x.w (StrOut x.w (shw T[1]))) := Lib.hid (fun x => SH.out 1 (by omega) tv1 x.w (HZ.out _ x.b) (hv1 x.w (HZ.out _ x.b)).1 (by omega))
    have HV0 : Hid (∀ w', (∃ x : Later w1, w' = x.w) → w'.rangeAt b4 (o4 + 0 * 8) tv0) := Lib.hid (fun w' ⟨x, hx⟩ => by rw [hx]; exact (hv0 x.w (HZ.out _ x.b)).2)
    have HV1 : Hid (∀ w', (∃ x : Later w1, w' = x.w) → w'.rangeAt b4 (o4 + 1 * 8) tv1) := Lib.hid (fun w' ⟨x, hx⟩ => by rw [hx]; exact (hv1 x.w (HZ.out _ x.b)).2)
    clear SH IT BE RO MID A4E LE HSB HRW HIA hv0 hv1
    generalize shw T[0] = X0 at *
    generalize shw T[1] = X1 at *
    generalize shw (.mk 25 o m nm tx T) = R at *
    refine wp_region_later w1 (by kernel_rfl) (by kernel_rfl) (Below.drew_self w1) ?_
    iterate 2 (go_big_quiet_step (first | (go_at_call 23; with_reducible exact Later.str (K0.out _)) | (go_at_call 23; with_reducible exact Later.str (K1.out _))))
    refine wpQuiet_load_mid rfl 28 (.tmp 200) rfl b4 (o4) rfl tv0 _ (by have := HV0.out; simpa using this) Tryz.underlying28 rfl hi0.out ?_
    intro a' ha'
    simp [Act.put] at ha'
    subst ha'
    iterate 4 (go_big_quiet_step (first | (go_at_call 23; with_reducible exact Later.str (K0.out _)) | (go_at_call 23; with_reducible exact Later.str (K1.out _))))
    refine wpQuiet_load_mid rfl 28 (.tmp 205) rfl b4 (o4 + 8) rfl tv1 _ (by have := HV1.out; simpa using this) Tryz.underlying28 rfl hi1.out ?_
    intro a' ha'
    simp [Act.put] at ha'
    subst ha'
    repeat (go_big_quiet_step (first | (go_at_call 23; with_reducible exact Later.str (K0.out _)) | (go_at_call 23; with_reducible exact Later.str (K1.out _))))
    refine wpQuiet_nil ?_
    rintro w4 ⟨⟨w4', hb4⟩, hw4⟩
    obtain rfl : w4 = w4' := hw4
    have HB4 := Lib.hid hb4
    clear hb4
    go_wp2_with fail
    go_ret
    exact ⟨ret_str (by rw [HD.out] <;> (try simp)), HWB.out.trans ((HB1.out.trans (HB4.out.mono HB1.out.size)).mono HWS.out)⟩
  by_cases k26 : k = 26
  · subst k26
    go_wp2_with fail
    have hlen := HML.out.2.1 (by simp)
    have HD := Lib.hid (shw26b (o := o) (m := m) (n := nm) (t := tx) hlen)
    rw [HD.out] at hM
    (try simp only [List.length_append, List.length_cons, List.length_nil] at hM)
    obtain ⟨b4, o4, rfl⟩ := A4E.out (by omega)
    obtain ⟨tv0, hv0, hi0⟩ := MID.out b4 o4 (by first | rfl | trivial) 0 (by omega)
    replace hi0 := Lib.hid hi0
    have hq0 : (0 : Int) < (T.length : Int) := by omega
    obtain ⟨tv1, hv1, hi1⟩ := MID.out b4 o4 (by first | rfl | trivial) 1 (by omega)
    replace hi1 := Lib.hid hi1
    have hq1 : (1 : Int) < (T.length : Int) := by omega
    have K0 : Hid (∀ x : Later w1, Calls Tryz.prog 23 #[.agg tv0.toArray] x.w (StrOut x.w (shw T[0]))) := Lib.hid (fun x => SH.out 0 (by omega) tv0 x.w (HZ.out _ x.b) (hv0 x.w (HZ.out _ x.b)).1 (by omega))
    have K1 : Hid (∀ x : Later w1, Calls Tryz.prog 23 #[.agg tv1.toArray] x.w (StrOut x.w (shw T[1]))) := Lib.hid (fun x => SH.out 1 (by omega) tv1 x.w (HZ.out _ x.b) (hv1 x.w (HZ.out _ x.b)).1 (by omega))
    have HV0 : Hid (∀ w', (∃ x : Later w1, w' = x.w) → w'.rangeAt b4 (o4 + 0 * 8) tv0) := Lib.hid (fun w' ⟨x, hx⟩ => by rw [hx]; exact (hv0 x.w (HZ.out _ x.b)).2)
    have HV1 : Hid (∀ w', (∃ x : Later w1, w' = x.w) → w'.rangeAt b4 (o4 + 1 * 8) tv1) := Lib.hid (fun w' ⟨x, hx⟩ => by rw [hx]; exact (hv1 x.w (HZ.out _ x.b)).2)
    clear SH IT BE RO MID A4E LE HSB HRW HIA hv0 hv1
    generalize shw T[0] = X0 at *
    generalize shw T[1] = X1 at *
    generalize shw (.mk 26 o m nm tx T) = R at *
    refine wp_region_later w1 (by kernel_rfl) (by kernel_rfl) (Below.drew_self w1) ?_
    iterate 2 (go_big_quiet_step (first | (go_at_call 23; with_reducible exact Later.str (K0.out _)) | (go_at_call 23; with_reducible exact Later.str (K1.out _))))
    refine wpQuiet_load_mid rfl 28 (.tmp 212) rfl b4 (o4) rfl tv0 _ (by have := HV0.out; simpa using this) Tryz.underlying28 rfl hi0.out ?_
    intro a' ha'
    simp [Act.put] at ha'
    subst ha'
    iterate 4 (go_big_quiet_step (first | (go_at_call 23; with_reducible exact Later.str (K0.out _)) | (go_at_call 23; with_reducible exact Later.str (K1.out _))))
    refine wpQuiet_load_mid rfl 28 (.tmp 217) rfl b4 (o4 + 8) rfl tv1 _ (by have := HV1.out; simpa using this) Tryz.underlying28 rfl hi1.out ?_
    intro a' ha'
    simp [Act.put] at ha'
    subst ha'
    repeat (go_big_quiet_step (first | (go_at_call 23; with_reducible exact Later.str (K0.out _)) | (go_at_call 23; with_reducible exact Later.str (K1.out _))))
    refine wpQuiet_nil ?_
    rintro w4 ⟨⟨w4', hb4⟩, hw4⟩
    obtain rfl : w4 = w4' := hw4
    have HB4 := Lib.hid hb4
    clear hb4
    go_wp2_with fail
    go_ret
    exact ⟨ret_str (by rw [HD.out] <;> (try simp)), HWB.out.trans ((HB1.out.trans (HB4.out.mono HB1.out.size)).mono HWS.out)⟩
  by_cases k28 : k = 28
  · subst k28
    have HD := Lib.hid (shw28 (o := o) (m := m) (n := nm) (t := tx) (l := T))
    rw [HD.out] at hM
    (try simp only [List.length_append, List.length_cons, List.length_nil] at hM)
    have RC := Lib.hid (fun wx hx => RO.out false shw (by first | rfl | trivial) [226, 139, 132] wx hx (by omega))
    have CD : Hid (Calls Tryz.prog 45 #[.int .i64 8900] w1 (StrOut w1 [226, 139, 132])) := Lib.hid (CH.out w1 8900 (by decide))
    generalize shw (.mk 28 o m nm tx T) = R at *
    clear SH IT BE RO RT MID A4E LE HSB HRW HIA
    go_wp2_with fail
    refine CD.out.mono ?_
    rintro e w2 ⟨rfl, hb2⟩
    have HB2 := Lib.hid (HB1.out.trans (hb2.mono HB1.out.size))
    have HB2' := Lib.hid hb2
    clear hb2
    go_wp2_with fail
    refine (RC.out w2 HB2.out).mono ?_
    rintro e w4 ⟨rfl, hb4⟩
    have HB4 := Lib.hid (HB2'.out.trans (hb4.mono HB2'.out.size))
    clear hb4
    go_wp2_with fail
    go_ret
    exact ⟨ret_str (by rw [HD.out] <;> (try simp)), HWB.out.trans ((HB1.out.trans (HB4.out.mono HB1.out.size)).mono HWS.out)⟩
  have hlk : k = 1 ∨ k = 2 ∨ k = 3 ∨ k = 4 ∨ k = 5 ∨ k = 6 ∨ k = 7 ∨ k = 10 ∨ k = 17 ∨ k = 18 ∨ k = 19 ∨ k = 21 := by have := HMK.out; omega
  have HD := Lib.hid (shwLeaf (o := o) (m := m) (n := nm) (t := tx) (l := T) hlk)
  have LC := Lib.hid (LE.out w1 HB1.out hlk)
  generalize shw (.mk k o m nm tx T) = R at *
  generalize leafT k o m nm tx = Z at *
  clear SH IT BE RO RT MID A4E LE HSB HML HMK HOP hlk
  have n8 : (k == 8) = false := beq_eq_false_iff_ne.2 k8
  have n9 : (k == 9) = false := beq_eq_false_iff_ne.2 k9
  have n11 : (k == 11) = false := beq_eq_false_iff_ne.2 k11
  have n12 : (k == 12) = false := beq_eq_false_iff_ne.2 k12
  have n13 : (k == 13) = false := beq_eq_false_iff_ne.2 k13
  have n27 : (k == 27) = false := beq_eq_false_iff_ne.2 k27
  have n14 : (k == 14) = false := beq_eq_false_iff_ne.2 k14
  have n15 : (k == 15) = false := beq_eq_false_iff_ne.2 k15
  have n16 : (k == 16) = false := beq_eq_false_iff_ne.2 k16
  have n20 : (k == 20) = false := beq_eq_false_iff_ne.2 k20
  have n22 : (k == 22) = false := beq_eq_false_iff_ne.2 k22
  have n23 : (k == 23) = false := beq_eq_false_iff_ne.2 k23
  have n24 : (k == 24) = false := beq_eq_false_iff_ne.2 k24
  have n25 : (k == 25) = false := beq_eq_false_iff_ne.2 k25
  have n26 : (k == 26) = false := beq_eq_false_iff_ne.2 k26
  have n28 : (k == 28) = false := beq_eq_false_iff_ne.2 k28
  clear k8 k9 k11 k12 k13 k27 k14 k15 k16 k20 k22 k23 k24 k25 k26 k28
  go_wp2_with (with_reducible refine wpList_load_row rfl 28 (.tmp 1) rfl w.heap.size rfl 28 vs.toArray (0, 0) _ (HRW.out _ HB1.out) Tryz.underlying28 rfl HIA.out ?_)
  refine LC.out.mono ?_
  rintro e w4 ⟨rfl, hb4⟩
  have HB4 := Lib.hid hb4
  clear hb4
  go_wp2_with fail
  go_ret
  exact ⟨ret_str (by rw [HD.out] <;> (try simp)), HWB.out.trans ((HB1.out.trans (HB4.out.mono HB1.out.size)).mono HWS.out)⟩
theorem refShow_any : ∀ n, StOk 23 shw n := by
  intro n
  induction n with
  | zero => intro a vs w B h; omega
  | succ n ih =>
    intro a vs w B hn ha h hB hM
    obtain ⟨k, o, m, nm, tx, T⟩ := a
    exact refShow_step n ih k o m nm tx T vs w B (fun a h => by
      have := List.sizeOf_lt_of_mem h
      simp only [Tree.mk.sizeOf_spec] at hn
      omega) ha h hB hM
theorem refLine_any (a : Tree) (vs : List Value) (w : World) (B : Nat) (h : IsTree w B a vs) (hB : B ≤ w.heap.size) (hc : count a ≤ 1000000) (hM : right a = true → (shw a).length ≤ 140737488355000) :
    Calls Tryz.prog 10 #[.agg vs.toArray] w (StrOut w (line a)) := by
  obtain ⟨W, hW⟩ : ∃ W, W = w.alloc (.cells vs.toArray 28) := ⟨_, rfl⟩
  have hWb : Below w.heap.size w W := by rw [hW]; exact (Below.refl _ _).alloc (Nat.le_refl _) _
  have hWl : w.heap.size < W.heap.size := by rw [hW]; simp
  have HG : Hid (∀ wx, Below W.heap.size W wx → wx.heap[w.heap.size]? = some (.cells vs.toArray 28 (0, 0))) := Lib.hid (fun wx hx => (hx.block _ hWl).trans (by rw [hW]; exact heap_alloc_new w _))
  have HT : Hid (∀ wx, Below W.heap.size W wx → IsTree wx B a vs) := Lib.hid (fun wx hx => h.below ((hWb.trans (hx.mono (by omega))).mono hB))
  have RI := Lib.hid (right21_any a vs W B (HT.out W (Below.refl _ _)) (by omega) hc)
  have HIA := Lib.hid (tree_infoA h)
  have HL : Hid (line a = if right a then shw a else []) := Lib.hid rfl
  have HWB := Lib.hid hWb
  have HWS : Hid (w.heap.size ≤ W.heap.size) := Lib.hid (by omega)
  have HA : Hid (right a = true → all a = true) := Lib.hid (fun h => by unfold right at h; simp only [Bool.and_eq_true] at h; exact h.2)
  have TX : Hid (∀ w2, Below W.heap.size W w2 → right a = true → Calls Tryz.prog 23 #[.agg vs.toArray] w2 (StrOut w2 (shw a))) := Lib.hid (fun w2 hx hr => refShow_any _ a vs w2 B (Nat.lt_succ_self _) (HA.out hr) (HT.out w2 hx) (by have := hx.size; omega) (hM hr))
  have HW := Lib.hid hW
  have HBL := Lib.hid (Below.refl W.heap.size W)
  generalize shw a = S at *
  generalize line a = R at *
  generalize right a = x at *
  clear h hM hW hWb HA
  cases x
  · replace HL : Hid (R = []) := HL
    go_enter Tryz.func10, Tryz.ntmps10
    go_upto_region 1 with fail
    rw [← HW.out]
    go_wp2_with (with_reducible refine wpList_load_row rfl 28 (.tmp 1) rfl w.heap.size rfl 28 vs.toArray (0, 0) _ (HG.out _ HBL.out) Tryz.underlying28 rfl HIA.out ?_)
    refine RI.out.mono ?_
    rintro e w2 ⟨rfl, hb2⟩
    go_wp2_with fail
    go_ret
    exact ⟨by rw [HL.out]; rfl, HWB.out.trans (hb2.mono HWS.out)⟩
  · replace HL : Hid (R = S) := HL
    go_enter Tryz.func10, Tryz.ntmps10
    go_upto_region 1 with fail
    rw [← HW.out]
    go_wp2_with (with_reducible refine wpList_load_row rfl 28 (.tmp 1) rfl w.heap.size rfl 28 vs.toArray (0, 0) _ (HG.out _ HBL.out) Tryz.underlying28 rfl HIA.out ?_)
    refine RI.out.mono ?_
    rintro e w2 ⟨rfl, hb2⟩
    have HB2 := Lib.hid hb2
    have TX2 := Lib.hid (TX.out w2 hb2 (by first | rfl | trivial))
    clear hb2
    go_wp2_with (with_reducible refine wpList_load_row rfl 28 (.tmp 1) rfl w.heap.size rfl 28 vs.toArray (0, 0) _ (HG.out _ HB2.out) Tryz.underlying28 rfl HIA.out ?_)
    refine TX2.out.mono ?_
    rintro e w3 ⟨rfl, hb3⟩
    go_wp2_with fail
    go_ret
    exact ⟨by rw [HL.out]; rfl, HWB.out.trans ((HB2.out.trans (hb3.mono HB2.out.size)).mono HWS.out)⟩
end Go.Proofs.YtceplkpjnebnfaaGreatDoor

/-
  scrimlaw23.UnparseLines returns true.
-/
namespace Go.Proofs.YtceplkpjnebnfaaGreatDoor
open Go.RowKit Tr
set_option maxHeartbeats 4000000
set_option maxRecDepth 100000
set_option linter.unusedVariables false

theorem dec_ok : Dec := fun l ho hl => by
  have := dec_bound ho (show l.length ≤ 1000 by omega)
  omega
theorem shw_small {a : Tree} (hf : few a = true) (hr : right a = true) : (shw a).length ≤ 140737488355000 := by
  have h1 := (few_small hf).2
  have h2 : all a = true := by unfold right at hr; simp only [Bool.and_eq_true] at hr; exact hr.2
  have h3 := shw_len dec_ok a h2
  unfold Size at h3
  have h4 := Nat.mul_le_mul_left 30000 h1
  omega
theorem unparseLines_walk (a : Tree) (C : Array Value) (w : World) (h : IsTree w w.heap.size a C.toList) (hp : Pow10 w) :
    Calls Tryz.prog 3 #[.agg C] w fun e w' => e = .returned (.bool true) ∧ Below w.heap.size w w' := by
  obtain ⟨vs, rfl⟩ : ∃ vs : List Value, C = vs.toArray := ⟨C.toList, by simp⟩
  rw [show vs.toArray.toList = vs from rfl] at h
  obtain ⟨W, hW⟩ : ∃ W, W = w.alloc (.cells vs.toArray 28) := ⟨_, rfl⟩
  have hWb : Below w.heap.size w W := by rw [hW]; exact (Below.refl _ _).alloc (Nat.le_refl _) _
  have hWl : w.heap.size < W.heap.size := by rw [hW]; simp
  have HG : Hid (∀ wx, Below W.heap.size W wx → wx.heap[w.heap.size]? = some (.cells vs.toArray 28 (0, 0))) := Lib.hid (fun wx hx => (hx.block _ hWl).trans (by rw [hW]; exact heap_alloc_new w _))
  have HT : Hid (∀ wx, Below W.heap.size W wx → IsTree wx w.heap.size a vs) := Lib.hid (fun wx hx => h.below (hWb.trans (hx.mono (by omega))))
  have HPW : Hid (∀ wx, Below W.heap.size W wx → Pow10 wx) := Lib.hid (fun wx hx => hp.below (hWb.trans (hx.mono (by omega))))
  have FE := Lib.hid (few21_any a vs W w.heap.size (HT.out W (Below.refl _ _)) (by omega))
  have HIA := Lib.hid (tree_infoA h)
  have AW := Lib.hid (fun wx hx => awake23_any wx (HPW.out wx hx))
  have UL := Lib.hid (fun wx (hx : Below W.heap.size W wx) (hf : few a = true) => upLine_any a vs wx w.heap.size (HT.out wx hx) (by have := hx.size; omega) (HPW.out wx hx) (fun hr => shw_small hf hr))
  have RL := Lib.hid (fun wx (hx : Below W.heap.size W wx) (hf : few a = true) => refLine_any a vs wx w.heap.size (HT.out wx hx) (by have := hx.size; omega) (by have := (few_small hf).2; omega) (fun hr => shw_small hf hr))
  have HWB := Lib.hid hWb
  have HWS : Hid (w.heap.size ≤ W.heap.size) := Lib.hid (by omega)
  have HW := Lib.hid hW
  have HBL := Lib.hid (Below.refl W.heap.size W)
  generalize line a = R at *
  generalize few a = x at *
  clear h hp hW hWb
  cases x
  · go_enter Tryz.func3, Tryz.ntmps3
    go_upto_region 1 with fail
    rw [← HW.out]
    go_wp2_with (with_reducible refine wpList_load_row rfl 28 (.tmp 1) rfl w.heap.size rfl 28 vs.toArray (0, 0) _ (HG.out _ HBL.out) Tryz.underlying28 rfl HIA.out ?_)
    refine FE.out.mono ?_
    rintro e w2 ⟨rfl, hb2⟩
    have HB2 := Lib.hid hb2
    clear hb2
    go_wp2_with fail
    refine (AW.out _ HB2.out).mono ?_
    rintro e w3 ⟨rfl, hb3⟩
    go_wp2_with fail
    go_ret
    exact ⟨rfl, HWB.out.trans ((HB2.out.trans (hb3.mono HB2.out.size)).mono HWS.out)⟩
  · go_enter Tryz.func3, Tryz.ntmps3
    go_upto_region 1 with fail
    rw [← HW.out]
    go_wp2_with (with_reducible refine wpList_load_row rfl 28 (.tmp 1) rfl w.heap.size rfl 28 vs.toArray (0, 0) _ (HG.out _ HBL.out) Tryz.underlying28 rfl HIA.out ?_)
    refine FE.out.mono ?_
    rintro e w2 ⟨rfl, hb2⟩
    have HB2 := Lib.hid hb2
    have HZ : Hid (∀ x : Later w2, Below W.heap.size W x.w) := Lib.hid (fun x => hb2.trans (x.b.mono hb2.size))
    have HG2 : Hid (∀ w', (∃ x : Later w2, w' = x.w) → w'.heap[w.heap.size]? = some (.cells vs.toArray 28 (0, 0))) := Lib.hid (fun w' ⟨x, hx⟩ => by rw [hx]; exact HG.out _ (HZ.out x))
    have UL2 := Lib.hid (fun x : Later w2 => UL.out x.w (HZ.out x) (by first | rfl | trivial))
    have RL2 := Lib.hid (fun x : Later w2 => RL.out x.w (HZ.out x) (by first | rfl | trivial))
    have AW2 := Lib.hid (fun x : Later w2 => AW.out x.w (HZ.out x))
    clear hb2 UL RL AW
    go_wp2_with fail
    refine wp_region_later w2 (by kernel_rfl) (by kernel_rfl) (Below.drew_self w2) ?_
    refine wpQuiet_load_row rfl 28 (.tmp 1) rfl w.heap.size rfl 28 vs.toArray (0, 0) _ HG2.out Tryz.underlying28 rfl HIA.out ?_
    intro a' ha'
    simp [Act.put] at ha'
    subst ha'
    iterate 1 (go_big_quiet_step ((go_at_call 9; with_reducible exact Later.str (UL2.out _))))
    refine wpQuiet_load_row rfl 28 (.tmp 1) rfl w.heap.size rfl 28 vs.toArray (0, 0) _ HG2.out Tryz.underlying28 rfl HIA.out ?_
    intro a' ha'
    simp [Act.put] at ha'
    subst ha'
    repeat (go_big_quiet_step (first | (go_at_call 10; with_reducible exact Later.str (RL2.out _)) | (go_at_call 8; exact Later.call (AW2.out _))))
    refine wpQuiet_nil ?_
    rintro w4 ⟨⟨w4', hb4⟩, hw4⟩
    obtain rfl : w4 = w4' := hw4
    have HB4 := Lib.hid hb4
    clear hb4
    go_wp2_with fail
    go_ret
    exact ⟨rfl, HWB.out.trans ((HB2.out.trans (HB4.out.mono HB2.out.size)).mono HWS.out)⟩
end Go.Proofs.YtceplkpjnebnfaaGreatDoor

/-
  From the row's condition on listed variables to the facts that the walk of NatTexts asks; a world that meets it.
-/
namespace Go.Proofs.YtceplkpjnebnfaaGreatDoor
open Go.ChangeShapes Go.WideShapes Go.ChangeAt Go.RowKit

theorem gPow : Tryz.prog.globalNamed "internal/strconv.uint64pow10" = some 0 := by kernel_rfl
theorem tPow : (Tryz.prog.globals[0]?).map (·.type) = some 167 := by kernel_rfl
theorem cPow : Tryz.prog.cellsOf 167 = 20 := by kernel_rfl
theorem cWord : Tryz.prog.cellsOf 107 = 1 := by kernel_rfl

def laid3 : List (String × DataW Unit) := [("math/bits.deBruijn32tab", Rows.laid_math_bits_deBruijn32tab), ("math/bits.deBruijn64tab", Rows.laid_math_bits_deBruijn64tab), ("internal/strconv.uint64pow10", Rows.laid_internal_strconv_uint64pow10)]
theorem door_met (os : Os) (args : Array Value) : laidMetH Tryz.prog laid3 ((World.doorLaid Tryz.prog 400 os).forCall (fun _ _ => 0) ⟨#[], args, []⟩).memory :=
  laidMetH_of_parts3 (fuel := 8) (laidMet_of_run' 8 (by kernel_rfl) (by kernel_rfl)) (by kernel_rfl) (by kernel_rfl)
theorem of_laid {W : World} (h : laidMetH Tryz.prog laid3 W) : Lib.TabIs Tryz.prog W "internal/strconv.uint64pow10" .u64 Lib.pow10Tab ∧ (∀ g, Tryz.prog.globalNamed "internal/strconv.uint64pow10" = some g → g < W.heap.size) := by
  rw [MakeChecks.laidMetH_plain _ _ _ (by kernel_rfl)] at h
  have h2 := h.tail.tail
  have hT := Lib.tabIs_of_head (k := .u64) (zs := Lib.pow10Tab) gPow tPow Tryz.underlying167 Tryz.underlying107 cWord cPow h2
  refine ⟨hT, fun g e => ?_⟩
  obtain rfl := Option.some.inj (gPow.symm.trans e)
  exact World.block_lt_of_cell? W _ (hT.cell gPow 0 (by decide))
end Go.Proofs.YtceplkpjnebnfaaGreatDoor
