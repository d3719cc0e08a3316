/-
  Texts of this proof, joined (by wip/bin/bundle.py): Tree17, Unp1, Unp2, Unp3, Unp4, Unp5.
-/
import Derived.Test.YtceplkpjnebnfaaGreatDoorM12
import Derived.Deep.WholeRow
import Derived.Laws.Tables
import Derived.Laws.CopyOwn
/-
  The program: may an expression be?
-/
namespace Go.Proofs.YtceplkpjnebnfaaGreatDoor
open Go.RowKit Tr
set_option maxHeartbeats 8000000
set_option maxRecDepth 100000
set_option linter.unusedVariables false

def IntBox (w : World) (q n : Nat) : Prop := w.heap[q]? = some (.cells #[.int .i64 (n : Int)] 3 (0, 0))
theorem IntBox.cell {w : World} {q n : Nat} (h : IntBox w q n) : w.cell? ⟨q, 0, none⟩ = some (.int .i64 (n : Int)) := by unfold IntBox at h; simp [World.cell?, h]
theorem IntBox.frozen {w : World} {q n : Nat} (h : IntBox w q n) : w.frozen? ⟨q, 0, none⟩ = false := by unfold IntBox at h; simp [World.frozen?, h]
theorem IntBox.set {w : World} {q n : Nat} (h : IntBox w q n) (m : Nat) : IntBox (w.setCell ⟨q, 0, none⟩ (.int .i64 (m : Int))) q m := by
  unfold IntBox at *
  show (w.heap.modify q _)[q]? = _
  rw [Array.getElem?_modify, if_pos rfl, h]
  rfl
theorem tg_trans {a b c : World} {r : Nat} (h : a.grownBy b (some r)) (k : b.grownBy c (some r)) : a.grownBy c (some r) :=
  ⟨k.os.trans h.os, k.tape.trans h.tape, k.output.trans h.output, Nat.le_trans h.size k.size, fun i hi hr => (k.block i (Nat.lt_of_lt_of_le hi h.size) hr).trans (h.block i hi hr)⟩
theorem tg_below {a b : World} (r : Nat) (h : Below a.heap.size a b) : a.grownBy b (some r) := ⟨h.os, h.tape, h.output, h.size, fun k hk _ => h.block k hk⟩
theorem tg_set {a b : World} {r : Nat} (h : a.grownBy b (some r)) (v : Value) : a.grownBy (b.setCell ⟨r, 0, none⟩ v) (some r) :=
  ⟨h.os, h.tape, h.output, by simpa using h.size, fun k hk hr => by
    rw [← h.block k hk hr]
    show (b.heap.modify r _)[k]? = _
    rw [Array.getElem?_modify, if_neg (fun e => hr (by rw [e]))]⟩
theorem tg_cell {a b : World} {r : Nat} (h : a.grownBy b (some r)) {p : Addr} (hp : p.block < a.heap.size) (hr : p.block ≠ r) : b.cell? p = a.cell? p := by
  unfold World.cell?
  rw [h.block _ hp (fun e => hr (by injection e))]
theorem IntBox.below {w w' : World} {q n : Nat} (h : IntBox w q n) (hq : q < w.heap.size) (hb : Below w.heap.size w w') : IntBox w' q n := (hb.block q hq).trans h
theorem gos_drop {l : List Tree} {j : Nat} (h : j < l.length) (d q : Nat) : gos (l.drop j) d q = if (go l[j] d q).1 then gos (l.drop (j + 1)) d (go l[j] d q).2 else (false, (go l[j] d q).2) := by
  rw [List.drop_eq_getElem_cons h, gos]
def RightOut (w : World) (q : Nat) (r : Bool × Nat) (e : Ending) (w' : World) : Prop := e = .returned (.bool r.1) ∧ IntBox w' q r.2 ∧ w.grownBy w' (some q)
theorem go_zero {a : Tree} {d q : Nat} (h : d = 0 ∨ q = 0) : go a d q = (false, q) := by cases a; rw [go, if_pos h]
theorem go_bad {k o : Int} {m : List UInt8} {n : Rt.Nm} {t : List Int} {l : List Tree} {d q : Nat} (h : ¬(d = 0 ∨ q = 0)) (h1 : one (.mk k o m n t l) = false) : go (.mk k o m n t l) d q = (false, q - 1) := by rw [go, if_neg h, if_neg (by rw [h1]; simp)]
theorem go_good {k o : Int} {m : List UInt8} {n : Rt.Nm} {t : List Int} {l : List Tree} {d q : Nat} (h : ¬(d = 0 ∨ q = 0)) (h1 : one (.mk k o m n t l) = true) : go (.mk k o m n t l) d q = gos l (d - 1) (q - 1) := by rw [go, if_neg h, if_pos h1]
mutual
theorem go_small : ∀ (a : Tree) (d q : Nat), (go a d q).2 ≤ q
  | .mk k o m n t l, d, q => by
    unfold go
    split
    · exact Nat.le_refl _
    · split
      · exact Nat.le_trans (gos_small l _ _) (Nat.sub_le _ _)
      · exact Nat.sub_le _ _
theorem gos_small : ∀ (l : List Tree) (d q : Nat), (gos l d q).2 ≤ q
  | [], d, q => by unfold gos; exact Nat.le_refl _
  | t :: r, d, q => by
    unfold gos
    split
    · exact Nat.le_trans (gos_small r _ _) (go_small t _ _)
    · exact go_small t _ _
end
theorem rightT_any (n : Nat) : ∀ (a : Tree) (vs : List Value) (d q c : Nat) (w : World) (B : Nat), SizeOf.sizeOf a < n → IsTree w B a vs → B ≤ q → q < w.heap.size → IntBox w q c → d ≤ 40 → c ≤ 2048 →
    Calls Tryz.prog 35 #[.agg vs.toArray, .int .i64 (d : Int), .pointer (some ⟨q, 0, none⟩)] w (RightOut w q (go a d c)) := by
  induction n with
  | zero => intro a vs d q c w B h; omega
  | succ n ih =>
    intro a vs d q c w B hn h hBq hq hc hd hc2
    have HEa := held_any a vs
    have MDa := made_any a vs
    have hIA := tree_infoA h
    have h' := h
    obtain ⟨k, o, m, nm, t, l⟩ := a
    obtain ⟨W, hW⟩ : ∃ W, W = w.alloc (.cells vs.toArray 28) := ⟨_, rfl⟩
    obtain ⟨A1, A2, A3, A4, c1, c2, c3, c4, us, HO, HL, HC, hW8, HG, hWl, hWb⟩ := tree_box h hW
    have hf4 := HO.out.f4.le (by omega)
    have HWB := Lib.hid hWb
    have hcW := hc.below hq hWb
    have b0 := hcW.cell
    have z0 := hcW.frozen
    have HW := Lib.hid hW
    by_cases h0 : d = 0 ∨ c = 0
    · have HZ : Hid (go (.mk k o m nm t l) d c = (false, c)) := Lib.hid (go_zero h0)
      have HCW := Lib.hid hcW
      by_cases hd0 : d = 0
      · have qd : ((d : Int) == 0) = true := beq_iff_eq.2 (by omega)
        clear h hW hWb hn HEa MDa h' hIA hW8 HO h0 hd0
        go_enter Tryz.func35, Tryz.ntmps35
        go_upto_region 1 with fail
        rw [← HW.out]
        go_wp2_with fail
        go_ret
        exact ⟨by rw [HZ.out]; rfl, by rw [HZ.out]; exact HCW.out, tg_below q HWB.out⟩
      · have qd : ((d : Int) == 0) = false := beq_eq_false_iff_ne.2 (by omega)
        have qc : ((c : Int) == 0) = true := beq_iff_eq.2 (by rcases h0 with h | h; exact absurd h hd0; omega)
        clear h hW hWb hn HEa MDa h' hIA hW8 HO h0 hd0
        go_enter Tryz.func35, Tryz.ntmps35
        go_upto_region 1 with fail
        rw [← HW.out]
        go_wp2_with fail
        go_ret
        exact ⟨by rw [HZ.out]; rfl, by rw [HZ.out]; exact HCW.out, tg_below q HWB.out⟩
    · have qd : ((d : Int) == 0) = false := beq_eq_false_iff_ne.2 (by omega)
      have qc : ((c : Int) == 0) = false := beq_eq_false_iff_ne.2 (by omega)
      obtain ⟨c', rfl⟩ : ∃ c', c = c' + 1 := ⟨c - 1, by omega⟩
      obtain ⟨W2, hW2⟩ : ∃ W2, W2 = W.setCell ⟨q, 0, none⟩ (.int .i64 (c' : Int)) := ⟨_, rfl⟩
      have hg2 : w.grownBy W2 (some q) := by rw [hW2]; exact tg_set (tg_below q hWb) _
      have hc2' : IntBox W2 q c' := by rw [hW2]; exact hcW.set c'
      have hs2 : w.heap.size < W2.heap.size := by rw [hW2]; simpa using hWl
      have hq2 : q < W2.heap.size := by omega
      have hgb : ∀ wx, W2.grownBy wx (some q) → (∀ p : Addr, p.block < B → wx.cell? p = w.cell? p) := fun wx hx p hp => tg_cell (tg_trans hg2 hx) (by omega) (by omega)
      have HT2 : Hid (∀ wx, W2.grownBy wx (some q) → IsTree wx B (.mk k o m nm t l) vs) := Lib.hid (fun wx hx => h'.keep (hgb wx hx) (Nat.le_refl _))
      have HGB : Hid (∀ wx, W2.grownBy wx (some q) → ∀ p : Addr, p.block < B → wx.cell? p = w.cell? p) := Lib.hid hgb
      have HROW : Hid (∀ wx, W2.grownBy wx (some q) → wx.heap[w.heap.size]? = some (.cells vs.toArray 28 (0, 0))) := Lib.hid (fun wx hx => by
        rw [hx.block _ hs2 (fun e => by injection e with e; omega)]
        rw [hW2]
        show (W.heap.modify q _)[w.heap.size]? = _
        rw [Array.getElem?_modify, if_neg (by omega)]
        exact HG.out)
      have HQ7 : Hid (∀ wx, W2.grownBy wx (some q) → wx.cell? ⟨w.heap.size, 7, none⟩ = some (.slice A4 l.length c4)) := Lib.hid (fun wx hx => by
        have e := HROW.out wx hx
        have e2 := hW8.p7
        have e1 := HG.out
        rw [← e2]
        simp only [World.cell?, e, e1])
      have HSZ : Hid (∀ (i : Nat) (hi : i < l.length), SizeOf.sizeOf l[i] < n) := Lib.hid (fun i hi => by have := size_kid (k := k) (o := o) (m := m) (n := nm) (t := t) hi; omega)
      have HE1 := Lib.hid (fun (wx : World) (hx : W2.grownBy wx (some q)) => HEa wx B (HT2.out wx hx) (by have := hx.size; omega))
      have HM1 := Lib.hid (fun (wx : World) (hx : W2.grownBy wx (some q)) => MDa wx B (HT2.out wx hx) (by have := hx.size; omega))
      have HW2 := Lib.hid hW2
      have HG2 := Lib.hid hg2
      have HC2 := Lib.hid hc2'
      have HIA := Lib.hid hIA
      clear hW hW2 hg2 hc2' hgb HEa MDa hIA h' h hW8 HO
      go_enter Tryz.func35, Tryz.ntmps35
      go_upto_region 1 with fail
      rw [← HW.out]
      go_upto_region 4 with fail
      rw [← HW2.out]
      have hgr : W2.grownBy W2 (some q) := ⟨rfl, rfl, rfl, Nat.le_refl _, fun _ _ _ => rfl⟩
      have HGR := Lib.hid hgr
      have HONE : Hid (one (.mk k o m nm t l) = (held k o m nm t && made k o (l.map kind))) := Lib.hid rfl
      have HGD := Lib.hid (@go_good k o m nm t l d (c' + 1) h0)
      have HBD := Lib.hid (@go_bad k o m nm t l d (c' + 1) h0)
      generalize one (.mk k o m nm t l) = on at *
      generalize go (.mk k o m nm t l) d (c' + 1) = R at *
      have H1 : Hid (Calls Tryz.prog 63 #[.agg vs.toArray] W2 (BoolOut W2 (held k o m nm t))) := Lib.hid (HE1.out W2 hgr)
      have H2 : Hid (∀ wx, W2.grownBy wx (some q) → Calls Tryz.prog 64 #[.agg vs.toArray] wx (BoolOut wx (made k o (l.map kind)))) := Lib.hid (fun wx hx => HM1.out wx hx)
      generalize held k o m nm t = he at *
      generalize made k o (l.map kind) = md at *
      clear HE1 HM1 hgr
      go_wp2_with (with_reducible refine wpList_load_row rfl 28 (.tmp 3) rfl w.heap.size rfl 28 vs.toArray (0, 0) _ (HROW.out _ HGR.out) Tryz.underlying28 rfl HIA.out ?_)
      refine H1.out.mono ?_
      rintro e w3 ⟨rfl, hb3⟩
      have hg3 := tg_below q hb3
      cases he
      · have HZ : Hid (R = (false, c')) := Lib.hid (by rw [HBD.out (by rw [HONE.out]; rfl)]; rfl)
        have HC3 := Lib.hid (HC2.out.below hq2 hb3)
        go_wp2_with fail
        go_ret
        exact ⟨by rw [HZ.out]; rfl, by rw [HZ.out]; exact HC3.out, tg_trans HG2.out hg3⟩
      · go_wp2_with (refine tload_rowG rfl 28 (.tmp 3) rfl w.heap.size rfl 28 vs.toArray (0, 0) _ (HROW.out _ hg3) Tryz.underlying28 rfl HIA.out ?_)
        refine (H2.out _ hg3).mono ?_
        rintro e w4 ⟨rfl, hb4⟩
        have hb5 := hb3.trans (hb4.mono hb3.size)
        have hg4 := tg_below q hb5
        have HC4 := Lib.hid (HC2.out.below hq2 hb5)
        cases md
        · have HZ : Hid (R = (false, c')) := Lib.hid (by rw [HBD.out (by rw [HONE.out]; rfl)]; rfl)
          go_wp2_with fail
          go_ret
          exact ⟨by rw [HZ.out]; rfl, by rw [HZ.out]; exact HC4.out, tg_trans HG2.out hg4⟩
        · have HZ : Hid (R = gos l (d - 1) c') := Lib.hid (by rw [HGD.out (by rw [HONE.out]; rfl)]; rfl)
          have q7 := HQ7.out w4 hg4
          have hd1 : 1 ≤ d := by omega
          have HGW := Lib.hid hg4
          clear H1 H2 HONE HGD HBD qc z0 b0
          go_wp2_with fail
          go_loopw [33] (fun i wr => ∃ (j cc : Nat), j ≤ l.length ∧ i = .int .i64 j ∧ cc ≤ 2048 ∧ Hid (gos (l.drop j) (d - 1) cc = R) ∧ Hid (IntBox wr q cc) ∧ Hid (W2.grownBy wr (some q))) (fun i _ => l.length - (intOf i).toNat)
          case atStart => exact ⟨0, c', Nat.zero_le _, rfl, by omega, Lib.hid HZ.out.symm, HC4, HGW⟩
          case round =>
            clear q7 HC4 HGW hg4 hb5 hb4 hb3 hg3
            obtain ⟨j, cc, hj, rfl, hcc, HI, HCB, HGW⟩ := hrel
            by_cases hlt : j < l.length
            · obtain ⟨b, off, tv, rfl, hb, HTR, HR⟩ := tree_row HC.out HL.out (wr := wr) (HGB.out wr HGW.out) hlt
              obtain ⟨WB, hWB⟩ : ∃ W, W = wr.alloc (.cells tv.toArray 28) := ⟨_, rfl⟩
              have hwb : Below wr.heap.size wr WB := by rw [hWB]; exact (Below.refl _ _).alloc (Nat.le_refl _) _
              have hqr : q < wr.heap.size := Nat.lt_of_lt_of_le hq2 HGW.out.size
              have HGB2 : Hid (W2.grownBy WB (some q)) := Lib.hid (tg_trans HGW.out (tg_below q hwb))
              have HROWB : Hid (WB.heap[wr.heap.size]? = some (.cells tv.toArray 28 (0, 0))) := Lib.hid (by rw [hWB]; exact heap_alloc_new wr _)
              have HIB := Lib.hid (tree_infoA HTR.out)
              have HIL := Lib.hid (tree_info HTR.out)
              have HS8 : Hid (tv.toArray.size = 8) := Lib.hid (by rw [List.size_toArray, HTR.out.len])
              have HON := Lib.hid (tree_one HTR.out)
              have q9 : IntKind.i64.wrap ((d : Int) - 1) = ((d - 1 : Nat) : Int) := by rw [show (d : Int) - 1 = ((d - 1 : Nat) : Int) by omega]; exact IntWalk.i64_in _ (by omega)
              have IH := Lib.hid (ih l[j] tv (d - 1) q cc WB B (HSZ.out j hlt) (HTR.out.keep (HGB.out WB HGB2.out) (Nat.le_refl _)) hBq (Nat.lt_of_lt_of_le hqr hwb.size) (HCB.out.below hqr hwb) (by omega) hcc)
              have HGD := Lib.hid (gos_drop hlt (d - 1) cc)
              have HSM := Lib.hid (go_small l[j] (d - 1) cc)
              have HWBB := Lib.hid hWB
              generalize go l[j] (d - 1) cc = r at *
              obtain ⟨r1, r2⟩ := r
              clear hWB hwb HTR
              go_upto_region 9 with (first
                | (with_reducible refine wpList_load_mid rfl 28 (.tmp 35) rfl b (off + j * 8) rfl tv _ HR.out Tryz.underlying28 rfl HIL.out ?_)
                | (refine wpList_store_row rfl 28 (.tmp 8) (.tmp 36) rfl wr.heap.size tv.toArray rfl rfl 28 _ (heap_alloc_new wr _) HIB.out HS8.out.symm HON.out ?_; rw [World.setRow_alloc_new]))
              rw [← HWBB.out]
              go_wp2_with (with_reducible refine wpList_load_row rfl 28 (.tmp 8) rfl wr.heap.size rfl 28 tv.toArray (0, 0) _ HROWB.out Tryz.underlying28 rfl HIB.out ?_)
              refine IH.out.mono ?_
              rintro e w6 ⟨rfl, hc6, hg6⟩
              have HC6 := Lib.hid hc6
              have HG6 := Lib.hid (tg_trans HGB2.out hg6)
              have hr2 : r2 ≤ 2048 := Nat.le_trans HSM.out hcc
              clear hc6 hg6
              cases r1
              · have HE : Hid (R = (false, r2)) := Lib.hid (by rw [← HI.out, HGD.out]; rfl)
                go_wp2_with fail
                go_ret
                exact ⟨by rw [HE.out]; rfl, by rw [HE.out]; exact HC6.out, tg_trans HG2.out HG6.out⟩
              · have HE : Hid (gos (l.drop (j + 1)) (d - 1) r2 = R) := Lib.hid (by rw [← HI.out, HGD.out]; rfl)
                go_wp2_with fail
                go_roundw
                case rel => first
                  | exact ⟨j + 1, r2, by omega, by go_num, hr2, HE, HC6, HG6⟩
                  | exact ⟨_, _, ⟨j + 1, r2, by omega, rfl, hr2, HE, HC6, HG6⟩, rfl, by go_num⟩
                case measure => simp [intOf]; omega
            · have HE : Hid (R = (true, cc)) := Lib.hid (by rw [← HI.out, List.drop_eq_nil_of_le (by omega), gos])
              go_wp2_with fail
              go_ret
              exact ⟨by rw [HE.out]; rfl, by rw [HE.out]; exact HCB.out, tg_trans HG2.out HGW.out⟩
theorem rightE_any (a : Tree) (vs : List Value) (w : World) (B : Nat) (h : IsTree w B a vs) (hB : B ≤ w.heap.size) :
    Calls Tryz.prog 20 #[.agg vs.toArray] w (BoolOut w (right a)) := by
  obtain ⟨W, hW⟩ : ∃ W, W = (w.alloc (.cells vs.toArray 28)).alloc (.cells #[.int .i64 2048] 3) := ⟨_, rfl⟩
  have hWb : Below w.heap.size w W := by rw [hW]; exact ((Below.refl _ _).alloc (Nat.le_refl _) _).alloc (by simp) _
  have hWs : W.heap.size = w.heap.size + 1 + 1 := by rw [hW]; simp
  have HG : Hid (W.heap[w.heap.size]? = some (.cells vs.toArray 28 (0, 0))) := Lib.hid (by rw [hW]; exact heap_alloc2_old _ _ _)
  have hbx : IntBox W (w.heap.size + 1) 2048 := by unfold IntBox; rw [hW]; exact heap_alloc2_new _ _ _
  have RT := Lib.hid (rightT_any _ a vs 40 (w.heap.size + 1) 2048 W B (Nat.lt_succ_self _) (h.below (hWb.mono hB)) (by omega) (by omega) hbx (by omega) (by omega))
  have HR := Lib.hid (go_right a)
  have HIA := Lib.hid (tree_infoA h)
  have HWB := Lib.hid hWb
  have HWS := Lib.hid hWs
  generalize go a 40 2048 = r at *
  obtain ⟨r1, r2⟩ := r
  have HW := Lib.hid hW
  clear hW hWb hWs hbx h
  go_enter Tryz.func20, Tryz.ntmps20
  go_upto_region 2 with fail
  rw [← HW.out]
  go_wp2_with (with_reducible refine wpList_load_row rfl 28 (.tmp 1) rfl w.heap.size rfl 28 vs.toArray (0, 0) _ HG.out Tryz.underlying28 rfl HIA.out ?_)
  refine RT.out.mono ?_
  rintro e w2 ⟨rfl, _, hg⟩
  have HGG := Lib.hid hg
  clear hg
  go_wp2_with fail
  go_ret
  refine ⟨ret_bool HR.out, ⟨HGG.out.os.trans HWB.out.os, HGG.out.tape.trans HWB.out.tape, HGG.out.output.trans HWB.out.output, Nat.le_trans HWB.out.size HGG.out.size, fun k hk => ?_⟩⟩
  rw [HGG.out.block k (by have := HWS.out; omega) (fun e => by injection e with e; omega)]
  exact HWB.out.block k hk
end Go.Proofs.YtceplkpjnebnfaaGreatDoor

/-
  Writing into a strings.Builder: what is kept beside it; a text, a byte, a rune.
-/
namespace Go.Proofs.YtceplkpjnebnfaaGreatDoor
open Go.RowKit Tr
set_option linter.unusedVariables false

/-- A builder in block b, all of its own at B or above, that holds a text. -/
def IsBld (B b : Nat) (l : List UInt8) (w : World) : Prop := Lib.IsBuilderF 42 5 B b (Lib.byteCells l) w
theorem IsBld.lt {B b : Nat} {l : List UInt8} {w : World} (h : IsBld B b l w) : B ≤ b ∧ b < w.heap.size := by
  rcases h with ⟨h1, v, h2, _⟩ | ⟨h1, v, h2, _⟩
  · exact ⟨h1, (Array.getElem?_eq_some_iff.1 h2).1⟩
  · exact ⟨h1, (Array.getElem?_eq_some_iff.1 h2).1⟩
theorem IsBld.szB {B b : Nat} {l : List UInt8} {w : World} (h : IsBld B b l w) : B ≤ w.heap.size := by have := h.lt; omega
/-- What stands below B, and what is neither the builder nor bytes, stands. -/
def KeptB (B b : Nat) (w w' : World) : Prop := Below B w w' ∧ Lib.OthersKept 5 (some b) w w'
theorem KeptB.refl (B b : Nat) (w : World) : KeptB B b w w := ⟨Below.refl _ _, Lib.OthersKept.refl _ _ _⟩
theorem KeptB.trans {B b : Nat} {w w' w'' : World} (h : KeptB B b w w') (k : KeptB B b w' w'') : KeptB B b w w'' := ⟨h.1.trans k.1, h.2.trans k.2⟩
theorem KeptB.of {B b : Nat} {w w' : World} (h : Below w.heap.size w w') (hB : B ≤ w.heap.size) : KeptB B b w w' :=
  ⟨h.mono hB, fun k o hk _ _ => (h.block k (Array.getElem?_eq_some_iff.1 hk).1).trans hk⟩
theorem KeptB.size {B b : Nat} {w w' : World} (h : KeptB B b w w') : w.heap.size ≤ w'.heap.size := h.1.size
theorem KeptB.below {B b : Nat} {w w' : World} (h : KeptB B b w w') : Below B w w' := h.1
theorem KeptB.block {B b k : Nat} {w w' : World} {o : Obj} (h : KeptB B b w w') (hk : w.heap[k]? = some o) (hb : k ≠ b) (ho : ∀ c fz, o ≠ .cells c 5 fz) : w'.heap[k]? = some o :=
  h.2 k o hk (fun e => hb (by injection e)) ho
/-- Cells of a row that is no row of bytes. -/
theorem KeptB.row {B b k : Nat} {w w' : World} {cs : Array Value} {T : TypeId} {fz : Nat × Nat} (h : KeptB B b w w') (hk : w.heap[k]? = some (.cells cs T fz)) (hb : k ≠ b) (hT : T ≠ 5) : w'.heap[k]? = some (.cells cs T fz) :=
  h.block hk hb (fun c f e => hT (by injection e))
def Wrote (B b : Nat) (w : World) (l : List UInt8) (e : Ending) (w' : World) : Prop := (∃ v, e = .returned v) ∧ IsBld B b l w' ∧ KeptB B b w w'
theorem ws_any (B b : Nat) (l s : List UInt8) (w : World) (h : IsBld B b l w) (hlen : l.length + s.length ≤ 140737488355328) :
    Calls Tryz.prog 36 #[.pointer (some ⟨b, 0, none⟩), .string ⟨s.toArray⟩] w (Wrote B b w (l ++ s)) := by
  refine (Any.Builder_WriteString_k YtceplkpjnebnfaaGreatDoorLaid YtceplkpjnebnfaaGreatDoorExtra B b _ ⟨s.toArray⟩ w h (by rw [Lib.byteCells_length]; exact hlen) h.szB).mono ?_
  rintro e w' ⟨he, hbd, hb, hk⟩
  exact ⟨⟨_, he⟩, .inr (by rw [Lib.byteCells_append]; exact hbd), hb, hk⟩
theorem wb_any (B b : Nat) (l : List UInt8) (c : Nat) (w : World) (h : IsBld B b l w) (hc : c < 256) (hlen : l.length + 1 ≤ 140737488355328) :
    Calls Tryz.prog 69 #[.pointer (some ⟨b, 0, none⟩), .int .u8 c] w (Wrote B b w (l ++ [UInt8.ofNat c])) := by
  refine (Any.Builder_WriteByte_k YtceplkpjnebnfaaGreatDoorLaidB YtceplkpjnebnfaaGreatDoorExtraB B b _ c w h (by rw [Lib.byteCells_length]; exact hlen) h.szB).mono ?_
  rintro e w' ⟨he, hbd, hb, hk⟩
  have e1 : Lib.byteCells [UInt8.ofNat c] = [.int .u8 (c : Int)] := by
    unfold Lib.byteCells
    simp
    omega
  exact ⟨⟨_, he⟩, .inr (by rw [Lib.byteCells_append, e1]; exact hbd), hb, hk⟩
theorem wr_any (B b : Nat) (l : List UInt8) (x : Int) (w : World) (h : IsBld B b l w) (hx : Gl.may x = true) (hlen : l.length + 4 ≤ 140737488355328) :
    Calls Tryz.prog 40 #[.pointer (some ⟨b, 0, none⟩), .int .i32 x] w (Wrote B b w (l ++ Tk.enc1 x)) := by
  have hx0 : -2147483648 ≤ x := by unfold Gl.may at hx; simp at hx; omega
  have hx1 : x ≤ 2147483647 := by unfold Gl.may at hx; simp at hx; omega
  refine (Any.Builder_WriteRune_k YtceplkpjnebnfaaGreatDoorLaidR YtceplkpjnebnfaaGreatDoorExtraR B b _ x hx0 hx1 w h (by rw [Lib.byteCells_length]; exact hlen) h.szB).mono ?_
  rintro e w' ⟨he, hbd, hb, hk⟩
  exact ⟨⟨_, he⟩, .inr (by rw [Lib.byteCells_append, ← runeCells_one hx]; exact hbd), hb, hk⟩
theorem IsBld.later {B b : Nat} {l : List UInt8} {w w' : World} (h : IsBld B b l w) (hb : Below w.heap.size w w') : IsBld B b l w' := bldK_below h hb
theorem bld_new (w : World) : IsBld w.heap.size w.heap.size [] (w.alloc (.cells #[.pointer none, .slice none 0 0] 42)) := bldK_new w
theorem bld_string {B b : Nat} {l : List UInt8} {w : World} (h : IsBld B b l w) :
    Calls Tryz.prog 22 #[.pointer (some ⟨b, 0, none⟩)] w fun e w' => e = .returned (.string ⟨l.toArray⟩) ∧ Below B w w' := by
  refine (Tryz.Builder_String_any_k B b l w h h.szB).mono ?_
  rintro e w' ⟨he, _, hb, _⟩
  exact ⟨he, hb⟩
/-- The table of strconv's, below B. -/
def PowB (B : Nat) (w : World) : Prop := Pow10 w ∧ ∀ g, Tryz.prog.globalNamed "internal/strconv.uint64pow10" = some g → g < B
theorem PowB.kept {B : Nat} {w w' : World} (h : PowB B w) (hb : Below B w w') : PowB B w' := ⟨⟨tabIs_below h.1.tab hb h.2, fun g e => Nat.lt_of_lt_of_le (h.1.lt g e) hb.size⟩, h.2⟩
end Go.Proofs.YtceplkpjnebnfaaGreatDoor

/-
  unparse: an expression in its box, while a builder is written; brackets, items, lists, places, ports, quoted characters.
-/
namespace Go.Proofs.YtceplkpjnebnfaaGreatDoor
open Go.RowKit Tr
set_option maxHeartbeats 4000000
set_option maxRecDepth 100000
set_option linter.unusedVariables false

/-- The eight cells of a block that holds an expression. -/
theorem at8_of {w : World} {q : Nat} {T : TypeId} {k o : Int} {m : List UInt8} {n : Rt.Nm} {t : List Int} {len : Nat} {A1 A2 A3 A4 : Option Addr} {c1 c2 c3 c4 : Nat} (h : w.heap[q]? = some (.cells (treeCells k o m n t len A1 A2 A3 A4 c1 c2 c3 c4).toArray T (0, 0))) :
    At8 w q 0 k o m n t len A1 A2 A3 A4 c1 c2 c3 c4 := by
  have hc : ∀ j v, (treeCells k o m n t len A1 A2 A3 A4 c1 c2 c3 c4)[j]? = some v → w.cell? ⟨q, 0 + j, none⟩ = some v := fun j v hv => by
    rw [Nat.zero_add]
    refine (cell_of_row _ q j _ _ _ h).trans ?_
    rw [List.getElem?_toArray]; exact hv
  exact ⟨hc 0 _ rfl, hc 1 _ rfl, hc 2 _ rfl, hc 3 _ rfl, hc 4 _ rfl, hc 5 _ rfl, hc 6 _ rfl, hc 7 _ rfl⟩
theorem expr_ne_u8 : 28 ≠ 5 := by decide
/-- An expression in its box, beside a builder. -/
structure Boxed (B b Bt : Nat) (w W : World) (k o : Int) (m : List UInt8) (n : Rt.Nm) (t : List Int) (l : List Tree) (vs : List Value) (A1 A2 A3 A4 : Option Addr) (c1 c2 c3 c4 : Nat) (us : List Value) : Prop where
  own : Own w Bt k o m n t l.length A1 A2 A3 A4 c1 c2 c3 c4
  lies : Lies w Bt A4 us
  kids : IsTrees w Bt l us
  row : ∀ wx, KeptB B b W wx → wx.heap[w.heap.size]? = some (.cells vs.toArray 28 (0, 0))
  at8 : ∀ wx, KeptB B b W wx → At8 wx w.heap.size 0 k o m n t l.length A1 A2 A3 A4 c1 c2 c3 c4
  far : ∀ wx, KeptB B b W wx → ∀ p : Addr, p.block < Bt → wx.cell? p = w.cell? p
  kept : KeptB B b w W
  tree : ∀ wx, KeptB B b W wx → IsTree wx Bt (.mk k o m n t l) vs
  sub : ∀ wx, KeptB B b W wx → ∀ i (hi : i < l.length), ∃ b' off tv, A4 = some ⟨b', off, none⟩ ∧ IsTree wx Bt l[i] tv ∧ wx.rangeAt b' (off + i * 8) tv ∧ (Tryz.prog.info? 28).map (·.size) = some tv.length
theorem boxed {w W : World} {B b Bt : Nat} {l0 : List UInt8} {k o : Int} {m : List UInt8} {n : Rt.Nm} {t : List Int} {l : List Tree} {vs : List Value} (h : IsTree w Bt (.mk k o m n t l) vs) (hB : Bt ≤ B) (hL : IsBld B b l0 w) (hW : W = w.alloc (.cells vs.toArray 28)) :
    ∃ A1 A2 A3 A4 c1 c2 c3 c4 us, Hid (Boxed B b Bt w W k o m n t l vs A1 A2 A3 A4 c1 c2 c3 c4 us) ∧ Hid (IsBld B b l0 W) ∧ l.length ≤ 1100000000000 := by
  have h' := h
  obtain ⟨A1, A2, A3, A4, c1, c2, c3, c4, us, rfl, HO, HL, HC⟩ := h.open_
  have hb := hL.lt
  have hWb : Below w.heap.size w W := by rw [hW]; exact (Below.refl _ _).alloc (Nat.le_refl _) _
  have hWl : w.heap.size < W.heap.size := by rw [hW]; simp
  have hG : W.heap[w.heap.size]? = some (.cells (treeCells k o m n t l.length A1 A2 A3 A4 c1 c2 c3 c4).toArray 28 (0, 0)) := by rw [hW]; exact heap_alloc_new w _
  have hrow : ∀ wx, KeptB B b W wx → wx.heap[w.heap.size]? = some (.cells (treeCells k o m n t l.length A1 A2 A3 A4 c1 c2 c3 c4).toArray 28 (0, 0)) := fun wx hx => hx.row hG (by omega) expr_ne_u8
  have hfar : ∀ wx, KeptB B b W wx → ∀ p : Addr, p.block < Bt → wx.cell? p = w.cell? p := fun wx hx p hp => by rw [hx.below.cell (by omega), hWb.cell (by omega)]
  refine ⟨A1, A2, A3, A4, c1, c2, c3, c4, us, Lib.hid ⟨HO.out, HL.out, HC.out, hrow, fun wx hx => at8_of (hrow wx hx), hfar, KeptB.of hWb (by omega), fun wx hx => h'.keep (hfar wx hx) (Nat.le_refl _), fun wx hx i hi => ?_⟩, Lib.hid (hL.later hWb), ?_⟩
  · obtain ⟨b', off, tv, e1, e2, e3, e4⟩ := tree_row HC.out HL.out (hfar wx hx) hi
    exact ⟨b', off, tv, e1, e3.out.keep (hfar wx hx) (Nat.le_refl _), e4.out, tree_info e3.out⟩
  · have := HO.out.f4.2.1
    omega
/-- A function that writes an expression. -/
def WrOk (F : FuncId) (f : Tree → List UInt8) (n : Nat) : Prop :=
  ∀ (a : Tree) (vs : List Value) (w : World) (Bt B b : Nat) (l : List UInt8), SizeOf.sizeOf a < n → all a = true → IsTree w Bt a vs → Bt ≤ B → PowB B w → IsBld B b l w → l.length + (f a).length ≤ 140737488355000 →
    Calls Tryz.prog F #[.pointer (some ⟨b, 0, none⟩), .agg vs.toArray] w (Wrote B b w (l ++ f a))
theorem wrote_end {B b : Nat} {w W w' : World} {l l' : List UInt8} {v : Value} (hk : KeptB B b w W) (h' : KeptB B b W w') (hl : IsBld B b l w') (e : l = l') : Wrote B b w l' (.returned v) w' := ⟨⟨v, rfl⟩, by rw [← e]; exact hl, hk.trans h'⟩
theorem brackets_any (n : Nat) (hT : WrOk 21 shw n) : WrOk 130 (fun a => inner (shw a)) n := by
  intro a vs w Bt B b l hn ha h hB hP hL hM
  obtain ⟨W, hW⟩ : ∃ W, W = w.alloc (.cells vs.toArray 28) := ⟨_, rfl⟩
  have hIA := tree_infoA h
  have T1 := Lib.hid (fun wx l' h1 h2 h3 h4 => hT a vs wx Bt B b l' hn ha h1 hB h2 h3 h4)
  have hs : (inner (shw a)).length = (shw a).length + 2 := inner_len _
  obtain ⟨k, o, m, nm, t, kd⟩ := a
  obtain ⟨A1, A2, A3, A4, c1, c2, c3, c4, us, HX, HB0, -⟩ := boxed h hB hL hW
  have hPW := hP.kept HX.out.kept.below
  have HPW := Lib.hid hPW
  have HI : Hid (inner (shw (.mk k o m nm t kd)) = [40] ++ (shw (.mk k o m nm t kd) ++ [41])) := Lib.hid rfl
  have HW := Lib.hid hW
  have HIA := Lib.hid hIA
  dsimp only at hM
  rw [hs] at hM
  show Calls _ _ _ _ (Wrote B b w (l ++ inner (shw (.mk k o m nm t kd))))
  generalize shw (.mk k o m nm t kd) = S at *
  generalize inner S = R at *
  clear h hW hP hPW hT hs hIA hL ha
  go_enter Tryz.func130, Tryz.ntmps130
  go_upto_region 1 with fail
  rw [← HW.out]
  go_wp2_with fail
  refine (ws_any B b l [40] W HB0.out (by simp; omega)).mono ?_
  rintro e w1 ⟨⟨v1, rfl⟩, hb1, hk1⟩
  replace hb1 := Lib.hid hb1
  go_wp2_with (with_reducible refine wpList_load_row rfl 28 (.tmp 3) rfl w.heap.size rfl 28 vs.toArray (0, 0) _ (HX.out.row _ hk1) Tryz.underlying28 rfl HIA.out ?_)
  refine (T1.out w1 _ (HX.out.tree _ hk1) (HPW.out.kept hk1.below) hb1.out (by simp; omega)).mono ?_
  rintro e w2 ⟨⟨v2, rfl⟩, hb2, hk2⟩
  replace hb2 := Lib.hid hb2
  go_wp2_with fail
  refine (ws_any B b _ [41] w2 hb2.out (by simp; omega)).mono ?_
  rintro e w3 ⟨⟨v3, rfl⟩, hb3, hk3⟩
  replace hb3 := Lib.hid hb3
  go_wp2_with fail
  go_end0
  exact wrote_end HX.out.kept ((hk1.trans hk2).trans hk3) hb3.out (by rw [HI.out]; simp)
theorem upItem_any (n : Nat) (hT : WrOk 21 shw n) : WrOk 71 (fun a => itemT (kd a)) n := by
  intro a vs w Bt B b l hn ha h hB hP hL hM
  obtain ⟨W, hW⟩ : ∃ W, W = w.alloc (.cells vs.toArray 28) := ⟨_, rfl⟩
  have hIA := tree_infoA h
  have T1 := Lib.hid (fun wx l' h1 h2 h3 h4 => hT a vs wx Bt B b l' hn ha h1 hB h2 h3 h4)
  have T2 := Lib.hid (fun wx l' h1 h2 h3 h4 => brackets_any n hT a vs wx Bt B b l' hn ha h1 hB h2 h3 h4)
  dsimp only at T2
  have HI : Hid (itemT (kd a) = if item (kind a) then shw a else inner (shw a)) := Lib.hid (by unfold itemT; rw [kd_kind]; rfl)
  obtain ⟨k, o, m, nm, t, ks⟩ := a
  obtain ⟨A1, A2, A3, A4, c1, c2, c3, c4, us, HX, HB0, -⟩ := boxed h hB hL hW
  have HPW := Lib.hid (hP.kept HX.out.kept.below)
  have HIT := Lib.hid (fun wx => item_any k wx)
  have q0 := (HX.out.at8 W (KeptB.refl _ _ _)).p0
  have HW := Lib.hid hW
  have HIA := Lib.hid hIA
  have HK : Hid (kind (.mk k o m nm t ks) = k) := Lib.hid rfl
  rw [HK.out] at HI
  show Calls _ _ _ _ (Wrote B b w (l ++ itemT (kd (.mk k o m nm t ks))))
  dsimp only at hM
  generalize itemT (kd (.mk k o m nm t ks)) = R at *
  generalize shw (.mk k o m nm t ks) = S at *
  generalize item k = x at *
  clear h hW hP hT hIA hL ha
  cases x
  · obtain rfl : R = inner S := HI.out
    clear HI
    go_enter Tryz.func71, Tryz.ntmps71
    go_upto_region 1 with fail
    rw [← HW.out]
    go_wp2_with fail
    refine (HIT.out _).mono ?_
    rintro e w' ⟨rfl, rfl⟩
    go_wp2_with (with_reducible refine wpList_load_row rfl 28 (.tmp 3) rfl w.heap.size rfl 28 vs.toArray (0, 0) _ (HX.out.row _ (KeptB.refl _ _ _)) Tryz.underlying28 rfl HIA.out ?_)
    refine (T2.out W _ (HX.out.tree _ (KeptB.refl _ _ _)) HPW.out HB0.out hM).mono ?_
    rintro e w1 ⟨⟨v1, rfl⟩, hb1, hk1⟩
    replace hb1 := Lib.hid hb1
    go_wp2_with fail
    go_end0
    exact wrote_end HX.out.kept hk1 hb1.out rfl
  · obtain rfl : R = S := HI.out
    clear HI
    go_enter Tryz.func71, Tryz.ntmps71
    go_upto_region 1 with fail
    rw [← HW.out]
    go_wp2_with fail
    refine (HIT.out _).mono ?_
    rintro e w' ⟨rfl, rfl⟩
    go_wp2_with (with_reducible refine wpList_load_row rfl 28 (.tmp 3) rfl w.heap.size rfl 28 vs.toArray (0, 0) _ (HX.out.row _ (KeptB.refl _ _ _)) Tryz.underlying28 rfl HIA.out ?_)
    refine (T1.out W _ (HX.out.tree _ (KeptB.refl _ _ _)) HPW.out HB0.out hM).mono ?_
    rintro e w1 ⟨⟨v1, rfl⟩, hb1, hk1⟩
    replace hb1 := Lib.hid hb1
    go_wp2_with fail
    go_end0
    exact wrote_end HX.out.kept hk1 hb1.out rfl
end Go.Proofs.YtceplkpjnebnfaaGreatDoor

/-
  unparse: rows of expressions; places; ports; quoted characters.
-/
namespace Go.Proofs.YtceplkpjnebnfaaGreatDoor
open Go.RowKit Tr
set_option maxHeartbeats 4000000
set_option maxRecDepth 100000
set_option linter.unusedVariables false

theorem join_next (s : List UInt8) (L : List (List UInt8)) {j : Nat} (h : j < L.length) : join s (L.take (j + 1)) = join s (L.take j) ++ ((if j = 0 then [] else s) ++ L[j]) := by
  rw [List.take_succ_eq_append_getElem h]
  by_cases h0 : j = 0
  · subst h0; simp [join]
  · rw [join_snoc _ _ _ (by
      intro e
      have := congrArg List.length e
      rw [List.length_take, List.length_nil] at this
      omega), if_neg h0, List.append_assoc]
theorem join_le (s : List UInt8) (L : List (List UInt8)) : ∀ (d j : Nat), j + d = L.length → (join s (L.take j)).length ≤ (join s L).length
  | 0, j, h => by rw [List.take_of_length_le (by omega)]; exact Nat.le_refl _
  | d + 1, j, h => by
    refine Nat.le_trans ?_ (join_le s L d (j + 1) (by omega))
    rw [join_next s L (by omega), List.length_append]; omega
theorem upList_any (F : FuncId) (f : Tree → List UInt8) (n : Nat) (hF : WrOk F f n) (hE : ∀ args w, (callFunc F args).run Tryz.prog w = .ok (.enter F args) w) (sep : List UInt8) (T : List Tree) (us : List Value) (A : Option Addr) (c : Nat)
    (w : World) (Bt B b : Nat) (l : List UInt8) (hn : ∀ a ∈ T, SizeOf.sizeOf a < n) (ha : ∀ a ∈ T, all a = true) (hl : Lies w Bt A us) (hc : IsTrees w Bt T us) (hB : Bt ≤ B) (hP : PowB B w) (hL : IsBld B b l w) (hT : T.length ≤ 1100000000000)
    (hM : l.length + (join sep (T.map f)).length ≤ 140737488355000) :
    Calls Tryz.prog 44 #[.pointer (some ⟨b, 0, none⟩), .slice A T.length c, .string ⟨sep.toArray⟩, .func (.func F) #[] #[]] w (Wrote B b w (l ++ join sep (T.map f))) := by
  have HA := Lib.hid hl
  have HC := Lib.hid hc
  have HP := Lib.hid hP
  have HN := Lib.hid (fun i (hi : i < T.length) => And.intro (hn T[i] (List.getElem_mem hi)) (ha T[i] (List.getElem_mem hi)))
  have HF := Lib.hid hF
  have HL := Lib.hid hL
  have HON : Hid (∀ a vs w, IsTree w Bt a vs → vs.toArray.all (·.oneCell') = true) := Lib.hid (fun a vs w h => tree_one h)
  have JN := Lib.hid (fun j (h : j < (T.map f).length) => join_next sep (T.map f) h)
  have JL := Lib.hid (fun j (h : j ≤ (T.map f).length) => join_le sep (T.map f) ((T.map f).length - j) j (by omega))
  have HML : Hid ((T.map f).length = T.length) := Lib.hid (by simp)
  have HMG : Hid (∀ j (h : j < T.length), (T.map f)[j]'(by simpa using h) = f T[j]) := Lib.hid (fun j h => by simp)
  have h0 := hL.lt
  clear hl hc hP hn ha hF hL
  go_enter Tryz.func44, Tryz.ntmps44
  go_wp2_with fail
  go_loopw [12] (fun iv wr => ∃ j : Nat, j ≤ T.length ∧ iv = .int .i64 (j : Int) ∧ Hid (IsBld B b (l ++ join sep ((T.map f).take j)) wr) ∧ Hid (KeptB B b w wr)) (fun iv _ => T.length - (intOf iv).toNat)
  case atStart => exact ⟨0, Nat.zero_le _, rfl, Lib.hid (by rw [List.take_zero]; simpa [join] using HL.out), Lib.hid (KeptB.refl _ _ _)⟩
  case round =>
    obtain ⟨j, hj, rfl, HBD, HK⟩ := hrel
    by_cases hlt : j < T.length
    · obtain ⟨b', off, tv, rfl, hb, HTR, HR⟩ := tree_row HC.out HA.out (wr := wr) (fun p hp => HK.out.below.cell (by omega)) hlt
      have HTI := Lib.hid (tree_info HTR.out)
      have HTA := Lib.hid (tree_infoA HTR.out)
      have HO1 := Lib.hid (HON.out _ _ _ HTR.out)
      have hj0 : (0 : Int) ≤ (j : Int) := by omega
      have hj1 : (j : Int) < (T.length : Int) := by omega
      obtain ⟨WB, hWB⟩ : ∃ WB, WB = wr.alloc (.cells tv.toArray 28) := ⟨_, rfl⟩
      have hbw : Below wr.heap.size wr WB := by rw [hWB]; exact (Below.refl _ _).alloc (Nat.le_refl _) _
      have hbB := HBD.out.lt
      have HK2 : Hid (KeptB B b wr WB) := Lib.hid (KeptB.of hbw (by omega))
      have HG : Hid (∀ wx, KeptB B b WB wx → wx.heap[wr.heap.size]? = some (.cells tv.toArray 28 (0, 0))) := Lib.hid (fun wx hx => hx.row (by rw [hWB]; exact heap_alloc_new wr _) (by omega) expr_ne_u8)
      have HB2 := Lib.hid (HBD.out.later hbw)
      have HNX : Hid (join sep ((T.map f).take (j + 1)) = join sep ((T.map f).take j) ++ ((if j = 0 then [] else sep) ++ f T[j])) := Lib.hid (by rw [JN.out j (by rw [HML.out]; exact hlt), HMG.out j hlt])
      have hJL := JL.out (j + 1) (by rw [HML.out]; omega)
      rw [HNX.out] at hJL
      have FX := Lib.hid (fun wx l' (hx : KeptB B b WB wx) h3 h4 => HF.out (T[j]'hlt) tv wx Bt B b l' (HN.out j hlt).1 (HN.out j hlt).2 (HTR.out.keep (fun p hp => by rw [hx.below.cell (by omega), hbw.cell (by have := HK.out.size; omega), HK.out.below.cell (by omega)]) (Nat.le_refl _)) hB (HP.out.kept (HK.out.below.trans (HK2.out.below.trans hx.below))) h3 h4)
      have HWB := Lib.hid hWB
      generalize join sep ((T.map f).take j) = J at *
      generalize f T[j] = ft at *
      rw [List.length_append, List.length_append] at hJL
      clear hWB hbw HTR JN
      by_cases h0j : j = 0
      · have q0 : ¬ ((0 : Int) < (j : Int)) := by omega
        rw [if_pos h0j] at HNX
        rw [if_pos h0j] at hJL
        clear h0j
        go_upto_region 3 with (first
          | (with_reducible refine wpList_load_mid rfl 28 (.tmp 15) rfl b' (off + j * 8) rfl tv _ HR.out Tryz.underlying28 rfl HTI.out ?_)
          | (refine wpList_store_row rfl 28 (.tmp 9) (.tmp 16) rfl wr.heap.size tv.toArray rfl rfl 28 _ (heap_alloc_new wr _) HTA.out (by rw [← Option.some.injEq, ← HTA.out]; rfl) HO1.out ?_; rw [World.setRow_alloc_new]))
        rw [← HWB.out]
        go_wp2_with (with_reducible refine wpList_load_row rfl 28 (.tmp 9) rfl wr.heap.size rfl 28 tv.toArray (0, 0) _ (HG.out _ (KeptB.refl _ _ _)) Tryz.underlying28 rfl HTA.out ?_)
        refine (FX.out _ _ (KeptB.refl _ _ _) HB2.out (by simp at hJL ⊢; omega)).mono ?_
        rintro e w2 ⟨⟨v2, rfl⟩, hb2, hk2⟩
        replace hb2 := Lib.hid hb2
        replace hk2 := Lib.hid hk2
        go_wp2_with fail
        go_roundw
        case rel => exact ⟨j + 1, by omega, by go_num, Lib.hid (by rw [HNX.out]; have := hb2.out; rwa [List.append_assoc] at this), Lib.hid (HK.out.trans (HK2.out.trans hk2.out))⟩
        case measure => simp [intOf]; omega
      · have q0 : (0 : Int) < (j : Int) := by omega
        rw [if_neg h0j] at HNX
        rw [if_neg h0j] at hJL
        clear h0j
        go_upto_region 3 with (first
          | (with_reducible refine wpList_load_mid rfl 28 (.tmp 15) rfl b' (off + j * 8) rfl tv _ HR.out Tryz.underlying28 rfl HTI.out ?_)
          | (refine wpList_store_row rfl 28 (.tmp 9) (.tmp 16) rfl wr.heap.size tv.toArray rfl rfl 28 _ (heap_alloc_new wr _) HTA.out (by rw [← Option.some.injEq, ← HTA.out]; rfl) HO1.out ?_; rw [World.setRow_alloc_new]))
        rw [← HWB.out]
        go_wp2_with fail
        refine (ws_any B b _ sep WB HB2.out (by simp at hJL ⊢; omega)).mono ?_
        rintro e w1 ⟨⟨v1, rfl⟩, hb1, hk1⟩
        replace hb1 := Lib.hid hb1
        replace hk1 := Lib.hid hk1
        go_wp2_with (with_reducible refine wpList_load_row rfl 28 (.tmp 9) rfl wr.heap.size rfl 28 tv.toArray (0, 0) _ (HG.out _ hk1.out) Tryz.underlying28 rfl HTA.out ?_)
        refine (FX.out _ _ hk1.out hb1.out (by simp at hJL ⊢; omega)).mono ?_
        rintro e w2 ⟨⟨v2, rfl⟩, hb2, hk2⟩
        replace hb2 := Lib.hid hb2
        replace hk2 := Lib.hid hk2
        go_wp2_with fail
        go_roundw
        case rel => exact ⟨j + 1, by omega, by go_num, Lib.hid (by rw [HNX.out]; have := hb2.out; rwa [List.append_assoc, List.append_assoc] at this), Lib.hid (HK.out.trans (HK2.out.trans (hk1.out.trans hk2.out)))⟩
        case measure => simp [intOf]; omega
    · have e : (T.map f).take j = T.map f := List.take_of_length_le (by rw [HML.out]; omega)
      rw [e] at HBD
      clear e
      go_wp2_with fail
      go_end0
      exact wrote_end (KeptB.refl _ _ _) HK.out HBD.out rfl
theorem enter_text : ∀ args w, (callFunc 21 args).run Tryz.prog w = .ok (.enter 21 args) w := enters_of Tryz.func21 (by kernel_rfl) rfl
theorem enter_item : ∀ args w, (callFunc 71 args).run Tryz.prog w = .ok (.enter 71 args) w := enters_of Tryz.func71 (by kernel_rfl) rfl
theorem upPlaces_any (n : Nat) (hF : WrOk 21 shw n) (T : List Tree) (us : List Value) (A : Option Addr) (c : Nat)
    (w : World) (Bt B b : Nat) (l : List UInt8) (hn : ∀ a ∈ T, SizeOf.sizeOf a < n) (ha : ∀ a ∈ T, all a = true) (hl : Lies w Bt A us) (hc : IsTrees w Bt T us) (hB : Bt ≤ B) (hP : PowB B w) (hL : IsBld B b l w) (hT : T.length ≤ 1100000000000)
    (hM : l.length + (places (T.map kd)).length ≤ 140737488355000) :
    Calls Tryz.prog 72 #[.pointer (some ⟨b, 0, none⟩), .slice A T.length c] w (Wrote B b w (l ++ places (T.map kd))) := by
  have HX : Hid (places (T.map kd) = [91] ++ (join [59] (T.map shw) ++ [93])) := Lib.hid (by unfold places; rw [List.map_map]; rfl)
  have HLI := Lib.hid (fun wx l' (hx : KeptB B b w wx) h3 h4 => upList_any _ _ n hF enter_text [59] T us A c wx Bt B b l' hn ha (hl.keep (fun p hp => hx.below.cell (by omega))) (hc.keep (fun p hp => hx.below.cell (by omega)) (Nat.le_refl _)) hB (hP.kept hx.below) h3 hT h4)
  rw [HX.out] at hM
  generalize places (T.map kd) = R at *
  generalize join [59] (T.map shw) = J at *
  generalize T.length = tn at *
  simp only [List.length_append, List.length_cons, List.length_nil] at hM
  have HL := Lib.hid hL
  clear hF hn ha hl hc hP hL
  go_enter Tryz.func72, Tryz.ntmps72
  go_wp2_with fail
  refine (ws_any B b l [91] w HL.out (by simp; omega)).mono ?_
  rintro e w1 ⟨⟨v1, rfl⟩, hb1, hk1⟩
  replace hb1 := Lib.hid hb1
  go_wp2_with fail
  refine (HLI.out _ _ hk1 hb1.out (by simp; omega)).mono ?_
  rintro e w2 ⟨⟨v2, rfl⟩, hb2, hk2⟩
  replace hb2 := Lib.hid hb2
  go_wp2_with fail
  refine (ws_any B b _ [93] w2 hb2.out (by simp; omega)).mono ?_
  rintro e w3 ⟨⟨v3, rfl⟩, hb3, hk3⟩
  replace hb3 := Lib.hid hb3
  go_wp2_with fail
  go_end0
  exact wrote_end (KeptB.refl _ _ _) ((hk1.trans hk2).trans hk3) hb3.out (by rw [HX.out]; simp)
theorem upPort_any (sign : List UInt8) (o : Int) (w : World) (B b : Nat) (l : List UInt8) (ho : port o = true) (hL : IsBld B b l w) (hM : l.length + (sign ++ digitT o).length ≤ 140737488355000) :
    Calls Tryz.prog 39 #[.pointer (some ⟨b, 0, none⟩), .string ⟨sign.toArray⟩, .int .i64 o] w (Wrote B b w (l ++ (sign ++ digitT o))) := by
  have ho1 : 0 ≤ o ∧ o < 8 := by unfold port at ho; simp at ho; exact ho
  have hd : (digitT o).length = 1 := rfl
  rw [List.length_append, hd] at hM
  have HL := Lib.hid hL
  clear hL ho hd
  rcases (show o = 0 ∨ o = 1 ∨ o = 2 ∨ o = 3 ∨ o = 4 ∨ o = 5 ∨ o = 6 ∨ o = 7 by omega) with rfl | rfl | rfl | rfl | rfl | rfl | rfl | rfl
  all_goals
    clear ho1
    go_enter Tryz.func39, Tryz.ntmps39
    go_wp2_with fail
    refine (ws_any B b l sign w HL.out (by omega)).mono ?_
    rintro e w1 ⟨⟨v1, rfl⟩, hb1, hk1⟩
    replace hb1 := Lib.hid hb1
    go_wp2_with fail
    refine (wb_any B b _ _ w1 hb1.out (by decide) (by rw [List.length_append]; omega)).mono ?_
    rintro e w2 ⟨⟨v2, rfl⟩, hb2, hk2⟩
    replace hb2 := Lib.hid hb2
    go_wp2_with fail
    go_end0
    exact wrote_end (KeptB.refl _ _ _) (hk1.trans hk2) hb2.out (by rw [List.append_assoc]; rfl)
end Go.Proofs.YtceplkpjnebnfaaGreatDoor

/-
  unparse: quoted characters; whether a function begins as an operator does; the array behind a function.
-/
namespace Go.Proofs.YtceplkpjnebnfaaGreatDoor
open Go.RowKit Tr
set_option maxHeartbeats 4000000
set_option maxRecDepth 100000
set_option linter.unusedVariables false

def flat (t : List Int) : List UInt8 := t.flatMap fun c => if c = 39 then 39 :: Tk.enc1 c else Tk.enc1 c
theorem flat_next {t : List Int} {j : Nat} (h : j < t.length) : flat (t.take (j + 1)) = flat (t.take j) ++ ((if t[j] = 39 then [39] else []) ++ Tk.enc [t[j]]) := by
  unfold flat Tk.enc
  rw [List.take_succ_eq_append_getElem h, List.flatMap_append]
  congr 1
  simp only [List.flatMap_cons, List.flatMap_nil, List.append_nil]
  by_cases hc : t[j] = 39
  · rw [if_pos hc, if_pos hc]; rfl
  · rw [if_neg hc, if_neg hc]; rfl
theorem flat_le (t : List Int) : (flat t).length ≤ 5 * t.length := flat_len t
theorem upQuoted_any (t : List Int) (A : Option Addr) (c : Nat) (w : World) (Bt B b : Nat) (l : List UInt8) (hl : Lies w Bt A (I64 t)) (hm : ∀ x ∈ t, Gl.may x = true) (hB : Bt ≤ B) (hL : IsBld B b l w) (hT : t.length ≤ 1000000)
    (hM : l.length + (Tr.quoted t).length ≤ 140737488355000) :
    Calls Tryz.prog 38 #[.pointer (some ⟨b, 0, none⟩), .slice A t.length c] w (Wrote B b w (l ++ Tr.quoted t)) := by
  have HQ : Hid (Tr.quoted t = [39] ++ (flat t ++ [39])) := Lib.hid rfl
  have hM2 : l.length ≤ 140737488355000 - 2 - (flat t).length := by rw [HQ.out] at hM; simp at hM; omega
  have HA := Lib.hid hl
  have HM := Lib.hid (fun i (hi : i < t.length) => hm t[i] (List.getElem_mem hi))
  have HL := Lib.hid hL
  have FN := Lib.hid (fun j (h : j < t.length) => flat_next h)
  have hFL : ∀ j, (flat (t.take j)).length ≤ 5 * t.length := fun j => Nat.le_trans (flat_le _) (by rw [List.length_take]; omega)
  have HFL := Lib.hid hFL
  have hlb : l.length ≤ 140737488355000 := by omega
  have HLB : Hid (l.length + (flat t).length + 2 ≤ 140737488355000) := Lib.hid (by rw [HQ.out] at hM; simp at hM; omega)
  have HLT := Lib.hid hL.lt
  have HJ : Hid (∀ j, j ≤ t.length → (flat (t.take j)).length ≤ (flat t).length) := Lib.hid (fun j _ => by
    have : flat t = flat (t.take j) ++ flat (t.drop j) := by unfold flat; rw [← List.flatMap_append, List.take_append_drop]
    rw [this, List.length_append]; omega)
  clear hl hm hL hM hM2 hFL
  go_enter Tryz.func38, Tryz.ntmps38
  go_wp2_with fail
  refine (ws_any B b l [39] w HL.out (by have := HLB.out; simp; omega)).mono ?_
  rintro e w1 ⟨⟨v1, rfl⟩, hb1, hk1⟩
  replace hb1 := Lib.hid hb1
  replace hk1 := Lib.hid hk1
  go_wp2_with fail
  go_loopw [12] (fun iv wr => ∃ j : Nat, j ≤ t.length ∧ iv = .int .i64 (j : Int) ∧ Hid (IsBld B b (l ++ [39] ++ flat (t.take j)) wr) ∧ Hid (KeptB B b w wr)) (fun iv _ => t.length - (intOf iv).toNat)
  case atStart => exact ⟨0, Nat.zero_le _, rfl, Lib.hid (by rw [List.take_zero]; simpa [flat] using hb1.out), hk1⟩
  case round =>
    clear hb1 hk1
    obtain ⟨j, hj, rfl, HBD, HK⟩ := hrel
    by_cases hlt : j < t.length
    · obtain ⟨b', off, rfl, hb, g0⟩ := lies_i64 (HA.out.keep (fun p hp => HK.out.below.cell (by omega))) hlt
      have hmx := HM.out j hlt
      have HNX := Lib.hid (FN.out j hlt)
      have hJ1 := HJ.out (j + 1) (by omega)
      rw [HNX.out, List.length_append, List.length_append] at hJ1
      obtain ⟨x, hx⟩ : ∃ x, x = t[j] := ⟨_, rfl⟩
      rw [← hx] at g0 hmx HNX hJ1
      have EN := Lib.hid (fun (wx : World) => encode_any (some ⟨wx.heap.size, 0, none⟩) 1 [x] (wx.alloc (.cells (I64 [x]).toArray 3)) lies_row (by simp) (by simpa using hmx))
      have hLB := HLB.out
      have HLT2 := HBD.out.lt
      generalize flat (t.take j) = J at *
      generalize Tk.enc [x] = E at *
      generalize (flat t).length = FT at *
      clear hx hmx
      by_cases hc : x = 39
      · subst hc
        rw [if_pos rfl] at HNX hJ1
        go_wp2_with fail
        refine (ws_any B b _ [39] wr HBD.out (by simp at hJ1 ⊢; omega)).mono ?_
        rintro e w2 ⟨⟨v2, rfl⟩, hb2, hk2⟩
        replace hb2 := Lib.hid hb2
        replace hk2 := Lib.hid hk2
        go_wp2_with fail
        refine (EN.out _).mono ?_
        rintro e w3 ⟨rfl, hb3⟩
        have hb3' : Below w2.heap.size w2 w3 := ((Below.refl _ _).alloc (Nat.le_refl _) _).trans (hb3.mono (by simp))
        have hk3 := Lib.hid (KeptB.of (b := b) hb3' (by have := hb2.out.szB; omega))
        have hd3 := Lib.hid (hb2.out.later hb3')
        clear hb3 hb3'
        go_wp2_with fail
        refine (ws_any B b _ E w3 hd3.out (by simp at hJ1 ⊢; omega)).mono ?_
        rintro e w4 ⟨⟨v4, rfl⟩, hb4, hk4⟩
        replace hb4 := Lib.hid hb4
        replace hk4 := Lib.hid hk4
        go_wp2_with fail
        go_roundw
        case rel => exact ⟨j + 1, by omega, by go_num, Lib.hid (by rw [HNX.out]; have := hb4.out; simpa using this), Lib.hid (((HK.out.trans hk2.out).trans hk3.out).trans hk4.out)⟩
        case measure => simp [intOf]; omega
      · have qc : (x == 39) = false := by simpa using hc
        rw [if_neg hc] at HNX hJ1
        clear hc
        go_wp2_with fail
        refine (EN.out _).mono ?_
        rintro e w3 ⟨rfl, hb3⟩
        have hb3' : Below wr.heap.size wr w3 := ((Below.refl _ _).alloc (Nat.le_refl _) _).trans (hb3.mono (by simp))
        have hk3 := Lib.hid (KeptB.of (B := B) (b := b) hb3' (by omega))
        have hd3 := Lib.hid (HBD.out.later hb3')
        clear hb3 hb3'
        go_wp2_with fail
        refine (ws_any B b _ E w3 hd3.out (by simp at hJ1 ⊢; omega)).mono ?_
        rintro e w4 ⟨⟨v4, rfl⟩, hb4, hk4⟩
        replace hb4 := Lib.hid hb4
        replace hk4 := Lib.hid hk4
        go_wp2_with fail
        go_roundw
        case rel => exact ⟨j + 1, by omega, by go_num, Lib.hid (by rw [HNX.out]; have := hb4.out; simpa using this), Lib.hid ((HK.out.trans hk3.out).trans hk4.out)⟩
        case measure => simp [intOf]; omega
    · have e : t.take j = t := List.take_of_length_le (by omega)
      rw [e] at HBD
      clear e
      go_wp2_with fail
      refine (ws_any B b _ [39] wr HBD.out (by have := HLB.out; simp; omega)).mono ?_
      rintro e w4 ⟨⟨v4, rfl⟩, hb4, hk4⟩
      replace hb4 := Lib.hid hb4
      replace hk4 := Lib.hid hk4
      go_wp2_with fail
      go_end0
      exact wrote_end (KeptB.refl _ _ _) (HK.out.trans hk4.out) hb4.out (by rw [HQ.out]; simp)
theorem first_kid {k o : Int} {m : List UInt8} {n : Rt.Nm} {t : List Int} {l : List Tree} (hk : k = 22 ∨ k = 23) (h0 : 0 < l.length) : (kd (.mk k o m n t l)).first = (kd l[0]).first := by
  rw [kd, asm]
  show (if k = 22 ∨ k = 23 then (nth (kds l) 0).first else _) = _
  rw [if_pos hk, nth_kds h0]
theorem first_leaf {k o : Int} {m : List UInt8} {n : Rt.Nm} {t : List Int} {l : List Tree} (hk : ¬(k = 22 ∨ k = 23)) : (kd (.mk k o m n t l)).first = ((k == 24) || ((k == 17) && heads.contains o)) := by
  rw [kd, asm]
  show (if k = 22 ∨ k = 23 then (nth (kds l) 0).first else _) = _
  rw [if_neg hk]
theorem parts_length : ∀ {l : List Int} {fs : List (Int → Bool)}, parts l fs = true → l.length = fs.length
  | [], [], _ => rfl
  | [], _ :: _, h => by cases h
  | _ :: _, [], h => by cases h
  | a :: l, f :: fs, h => by
    rw [parts] at h
    simp only [Bool.and_eq_true] at h
    rw [List.length_cons, List.length_cons, parts_length h.2]
theorem kids_mondyo {k o : Int} {m : List UInt8} {n : Rt.Nm} {t : List Int} {l : List Tree} (h : all (.mk k o m n t l) = true) : (k = 22 → l.length = 1) ∧ (k = 23 → l.length = 2) := by
  have h2 := (all_held h).2.1
  constructor
  · rintro rfl
    have := parts_length (show parts (l.map kind) [func] = true from h2)
    simpa using this
  · rintro rfl
    have := parts_length (show parts (l.map kind) [func, fun x => (plain x && !(o == 0x2364)) || (array x && ((o == 0x2364) || (o == 0x2363)))] = true from h2)
    simpa using this
def BindAt (w : World) (Bt : Nat) (r : Bool) (gk : Nat) (wr : World) : Prop :=
  ∃ (a : Tree) (vs : List Value), (kd a).first = r ∧ SizeOf.sizeOf a ≤ gk ∧ all a = true ∧ IsTree w Bt a vs ∧ wr.heap[w.heap.size]? = some (.cells vs.toArray 28 (0, 0)) ∧ Below w.heap.size w wr
theorem binds_any (a : Tree) (vs : List Value) (w : World) (Bt : Nat) (h : IsTree w Bt a vs) (hB : Bt ≤ w.heap.size) (ha : all a = true) :
    Calls Tryz.prog 131 #[.agg vs.toArray] w (BoolOut w (kd a).first) := by
  obtain ⟨W, hW⟩ : ∃ W, W = w.alloc (.cells vs.toArray 28) := ⟨_, rfl⟩
  have HREL : Hid (BindAt w Bt (kd a).first (SizeOf.sizeOf a) W) := Lib.hid ⟨a, vs, rfl, Nat.le_refl _, ha, h, by rw [hW]; exact heap_alloc_new w _, by rw [hW]; exact (Below.refl _ _).alloc (Nat.le_refl _) _⟩
  have HW := Lib.hid hW
  generalize (kd a).first = r at *
  generalize SizeOf.sizeOf a = n0 at *
  clear h ha hW
  go_enter Tryz.func131, Tryz.ntmps131
  go_upto_region 1 with fail
  rw [← HW.out]
  go_loopg [4] n0 (fun gk kv wr => Hid (BindAt w Bt r gk wr))
  case atStart => exact HREL
  case round =>
    clear HREL
    obtain ⟨a, vs, hr, hn, ha, ht, hg, hb⟩ := hrel.out
    have HON : Hid (∀ a vs, IsTree w Bt a vs → vs.toArray.all (·.oneCell') = true) := Lib.hid (fun a vs h => tree_one h)
    have HIV := Lib.hid (tree_infoA ht)
    obtain ⟨k, o, m, nm, t, l⟩ := a
    obtain ⟨A1, A2, A3, A4, c1, c2, c3, c4, us, rfl, HO, HL, HC⟩ := ht.open_
    have h8 := at8_of hg
    have q0 := h8.p0
    have q1 := h8.p1
    have q7 := h8.p7
    simp only [Nat.zero_add] at q0 q1 q7
    have HB := Lib.hid hb
    have HG := Lib.hid hg
    clear h8 hrel
    by_cases hk : k = 22 ∨ k = 23
    · have h0 : 0 < l.length := by
        have := kids_mondyo ha
        rcases hk with h | h
        · have := this.1 h; omega
        · have := this.2 h; omega
      have HF := Lib.hid ((first_kid hk h0).symm.trans hr)
      obtain ⟨b', off, tv, rfl, hbb, HTR, HR⟩ := tree_row HC.out HL.out (fun p hp => hb.cell (by omega)) h0
      have HTI := Lib.hid (tree_info HTR.out)
      have HTA := Lib.hid (tree_infoA HTR.out)
      have HO1 := Lib.hid (HON.out _ _ HTR.out)
      have hsz := size_kid (k := k) (o := o) (m := m) (n := nm) (t := t) h0
      have HA0 := Lib.hid (alls_at (all_held ha).2.2 h0)
      have HNEW : Hid (BindAt w Bt r (gk - 1) (wr.setRow w.heap.size tv.toArray)) := Lib.hid ⟨l[0], tv, HF.out, by omega, HA0.out, HTR.out, setRow_heap _ _ _ _ _ _ HG.out, below_setRow hb (Nat.le_refl _) _⟩
      have hgk : 0 < gk := by omega
      have HSE : Hid ((treeCells k o m nm t l.length A1 A2 A3 (some ⟨b', off, none⟩) c1 c2 c3 c4).toArray.size = tv.toArray.size) := Lib.hid (by rw [← Option.some.injEq, ← HIV.out, ← HTA.out])
      clear hb hg hr ha ht hsz hn
      rcases hk with rfl | rfl
      all_goals
        go_wp2_with (first
          | (with_reducible refine wpList_load_mid rfl 28 (.tmp 13) rfl b' off rfl tv _ (by have := HR.out; simpa using this) Tryz.underlying28 rfl HTI.out ?_)
          | (with_reducible refine wpList_store_row rfl 28 (.tmp 1) (.tmp 14) rfl w.heap.size tv.toArray rfl rfl 28 _ HG.out HTA.out HSE.out HO1.out ?_))
        go_roundg (gk - 1)
        case rel => exact HNEW
        case measure => omega
    · have HF := Lib.hid ((first_leaf hk).symm.trans hr)
      have n22 : (k == 22) = false := by simp; omega
      have n23 : (k == 23) = false := by simp; omega
      clear hb hg hr ha ht hn hk
      by_cases k17 : k = 17
      · subst k17
        by_cases o1 : o = 47
        · subst o1
          go_wp2_with fail
          go_ret
          exact ⟨ret_bool (by rw [← HF.out]; decide), HB.out⟩
        by_cases o2 : o = 9023
        · subst o2
          go_wp2_with fail
          go_ret
          exact ⟨ret_bool (by rw [← HF.out]; decide), HB.out⟩
        by_cases o3 : o = 92
        · subst o3
          go_wp2_with fail
          go_ret
          exact ⟨ret_bool (by rw [← HF.out]; decide), HB.out⟩
        by_cases o4 : o = 9024
        · subst o4
          go_wp2_with fail
          go_ret
          exact ⟨ret_bool (by rw [← HF.out]; decide), HB.out⟩
        have HFF : Hid (r = false) := Lib.hid (by rw [← HF.out]; unfold heads; simp; omega)
        have m1 : (o == 47) = false := by simpa using o1
        have m2 : (o == 9023) = false := by simpa using o2
        have m3 : (o == 92) = false := by simpa using o3
        have m4 : (o == 9024) = false := by simpa using o4
        clear o1 o2 o3 o4
        go_wp2_with fail
        go_ret
        exact ⟨ret_bool (by rw [HFF.out]), HB.out⟩
      · have n17 : (k == 17) = false := by simpa using k17
        have HFF : Hid (r = (k == 24)) := Lib.hid (by rw [← HF.out, n17]; simp)
        clear k17
        go_wp2_with fail
        go_ret
        exact ⟨ret_bool (by rw [HFF.out]), HB.out⟩
end Go.Proofs.YtceplkpjnebnfaaGreatDoor

/-
  unparse: the array behind a function; arrays; what gives a name something; operators.
-/
namespace Go.Proofs.YtceplkpjnebnfaaGreatDoor
open Go.RowKit Tr
set_option maxHeartbeats 8000000
set_option maxRecDepth 100000
set_option linter.unusedVariables false

def lastT (a : Tree) : List UInt8 := [32] ++ behind (kd a)
theorem shw8 {o : Int} {m : List UInt8} {n : Rt.Nm} {t : List Int} {l : List Tree} : shw (.mk 8 o m n t l) = join ([32] : List UInt8) (l.map fun a => itemT (kd a)) := by
  show asmT 8 o m n t (kds l) = _
  unfold asmT
  rw [if_pos (by decide), kds_map, List.map_map]; rfl
theorem shw9 {o : Int} {m : List UInt8} {n : Rt.Nm} {t : List Int} {l : List Tree} (h : 2 ≤ l.length) : shw (.mk 9 o m n t l) = itemT (kd (l[0]'(by omega))) ++ places ((l.drop 1).map kd) := by
  show asmT 9 o m n t (kds l) = _
  unfold asmT
  rw [if_neg (by decide), if_pos (by decide), nth_kds (show 0 < l.length by omega), kds_map, List.map_drop]
theorem shw11 {o : Int} {m : List UInt8} {n : Rt.Nm} {t : List Int} {l : List Tree} (h : l.length = 2) : shw (.mk 11 o m n t l) = shw (l[0]'(by omega)) ++ lastT (l[1]'(by omega)) := by
  show asmT 11 o m n t (kds l) = _
  unfold asmT
  rw [if_neg (by decide), if_neg (by decide), if_pos (by decide), nth_kds (show 0 < l.length by omega), nth_kds (show 1 < l.length by omega)]; unfold lastT shw; simp only [List.append_assoc]
theorem shw12 {o : Int} {m : List UInt8} {n : Rt.Nm} {t : List Int} {l : List Tree} (h : l.length = 3) : shw (.mk 12 o m n t l) = (if kind (l[0]'(by omega)) = 8 then shw (l[0]'(by omega)) else itemT (kd (l[0]'(by omega)))) ++ (([32] : List UInt8) ++ (shw (l[1]'(by omega)) ++ lastT (l[2]'(by omega)))) := by
  show asmT 12 o m n t (kds l) = _
  unfold asmT
  rw [if_neg (by decide), if_neg (by decide), if_neg (by decide), if_pos (by decide), nth_kds (show 0 < l.length by omega), nth_kds (show 1 < l.length by omega), nth_kds (show 2 < l.length by omega), kd_kind]; unfold lastT shw; simp only [List.append_assoc]
theorem shw13 {o : Int} {m : List UInt8} {n : Rt.Nm} {t : List Int} {l : List Tree} (h : l.length = 1) : shw (.mk 13 o m n t l) = m ++ (([226, 134, 144] : List UInt8) ++ shw (l[0]'(by omega))) := by
  show asmT 13 o m n t (kds l) = _
  unfold asmT
  rw [if_neg (by decide), if_neg (by decide), if_neg (by decide), if_neg (by decide), if_pos (by decide), nth_kds (show 0 < l.length by omega)]; unfold arrow shw; simp only [List.append_assoc]
theorem shw27 {o : Int} {m : List UInt8} {n : Rt.Nm} {t : List Int} {l : List Tree} (h : l.length = 1) : shw (.mk 27 o m n t l) = m ++ (([226, 134, 144] : List UInt8) ++ shw (l[0]'(by omega))) := by
  show asmT 27 o m n t (kds l) = _
  unfold asmT
  rw [if_neg (by decide), if_neg (by decide), if_neg (by decide), if_neg (by decide), if_pos (by decide), nth_kds (show 0 < l.length by omega)]; unfold arrow shw; simp only [List.append_assoc]
theorem shw14 {o : Int} {m : List UInt8} {n : Rt.Nm} {t : List Int} {l : List Tree} (h : 2 ≤ l.length) : shw (.mk 14 o m n t l) = m ++ (places ((l.drop 1).map kd) ++ (([226, 134, 144] : List UInt8) ++ shw (l[0]'(by omega)))) := by
  show asmT 14 o m n t (kds l) = _
  unfold asmT
  rw [if_neg (by decide), if_neg (by decide), if_neg (by decide), if_neg (by decide), if_neg (by decide), if_pos (by decide), nth_kds (show 0 < l.length by omega), kds_map, List.map_drop]; unfold arrow shw; simp only [List.append_assoc]
theorem shw15 {o : Int} {m : List UInt8} {n : Rt.Nm} {t : List Int} {l : List Tree} (h : l.length = 2) : shw (.mk 15 o m n t l) = m ++ (([32] : List UInt8) ++ (shw (l[0]'(by omega)) ++ (([226, 134, 144] : List UInt8) ++ shw (l[1]'(by omega))))) := by
  show asmT 15 o m n t (kds l) = _
  unfold asmT
  rw [if_neg (by decide), if_neg (by decide), if_neg (by decide), if_neg (by decide), if_neg (by decide), if_neg (by decide), if_pos (by decide), nth_kds (show 0 < l.length by omega), nth_kds (show 1 < l.length by omega)]; unfold arrow shw; simp only [List.append_assoc]
theorem shw16 {o : Int} {m : List UInt8} {n : Rt.Nm} {t : List Int} {l : List Tree} (h : l.length = 1) : shw (.mk 16 o m n t l) = (([226, 142, 149] : List UInt8) ++ digitT o) ++ (([226, 134, 144] : List UInt8) ++ shw (l[0]'(by omega))) := by
  show asmT 16 o m n t (kds l) = _
  unfold asmT
  rw [if_neg (by decide), if_neg (by decide), if_neg (by decide), if_neg (by decide), if_neg (by decide), if_neg (by decide), if_neg (by decide), if_pos (by decide), nth_kds (show 0 < l.length by omega)]; unfold arrow quad shw; simp only [List.append_assoc]
theorem shw20 {o : Int} {m : List UInt8} {n : Rt.Nm} {t : List Int} {l : List Tree} : shw (.mk 20 o m n t l) = ([123] : List UInt8) ++ (join ([226, 139, 132] : List UInt8) (l.map shw) ++ ([125] : List UInt8)) := by
  show asmT 20 o m n t (kds l) = _
  unfold asmT
  rw [if_neg (by decide), if_neg (by decide), if_neg (by decide), if_neg (by decide), if_neg (by decide), if_neg (by decide), if_neg (by decide), if_neg (by decide), if_pos (by decide), kds_map, List.map_map]; rfl
theorem shw22 {o : Int} {m : List UInt8} {n : Rt.Nm} {t : List Int} {l : List Tree} (h : l.length = 1) : shw (.mk 22 o m n t l) = shw (l[0]'(by omega)) ++ Tk.enc1 o := by
  show asmT 22 o m n t (kds l) = _
  unfold asmT
  rw [if_neg (by decide), if_neg (by decide), if_neg (by decide), if_neg (by decide), if_neg (by decide), if_neg (by decide), if_neg (by decide), if_neg (by decide), if_neg (by decide), if_pos (by decide), nth_kds (show 0 < l.length by omega)]; rfl
theorem shw23 {o : Int} {m : List UInt8} {n : Rt.Nm} {t : List Int} {l : List Tree} (h : l.length = 2) : shw (.mk 23 o m n t l) = shw (l[0]'(by omega)) ++ (Tk.enc1 o ++ (if array (kind (l[1]'(by omega))) then itemT (kd (l[1]'(by omega))) else shw (l[1]'(by omega)))) := by
  show asmT 23 o m n t (kds l) = _
  unfold asmT
  rw [if_neg (by decide), if_neg (by decide), if_neg (by decide), if_neg (by decide), if_neg (by decide), if_neg (by decide), if_neg (by decide), if_neg (by decide), if_neg (by decide), if_neg (by decide), if_pos (by decide), nth_kds (show 0 < l.length by omega), nth_kds (show 1 < l.length by omega), kd_kind]; unfold shw; simp only [List.append_assoc]
theorem shw24 {o : Int} {m : List UInt8} {n : Rt.Nm} {t : List Int} {l : List Tree} (h : l.length = 1) : shw (.mk 24 o m n t l) = ([226, 136, 152, 46] : List UInt8) ++ shw (l[0]'(by omega)) := by
  show asmT 24 o m n t (kds l) = _
  unfold asmT
  rw [if_neg (by decide), if_neg (by decide), if_neg (by decide), if_neg (by decide), if_neg (by decide), if_neg (by decide), if_neg (by decide), if_neg (by decide), if_neg (by decide), if_neg (by decide), if_neg (by decide), if_pos (by decide), nth_kds (show 0 < l.length by omega)]; rfl
theorem shw25 {o : Int} {m : List UInt8} {n : Rt.Nm} {t : List Int} {l : List Tree} : shw (.mk 25 o m n t l) = join ([58] : List UInt8) (l.map shw) := by
  show asmT 25 o m n t (kds l) = _
  unfold asmT
  rw [if_neg (by decide), if_neg (by decide), if_neg (by decide), if_neg (by decide), if_neg (by decide), if_neg (by decide), if_neg (by decide), if_neg (by decide), if_neg (by decide), if_neg (by decide), if_neg (by decide), if_neg (by decide), if_pos (by decide), kds_map, List.map_map]; rfl
theorem shw26 {o : Int} {m : List UInt8} {n : Rt.Nm} {t : List Int} {l : List Tree} : shw (.mk 26 o m n t l) = join ([58, 58] : List UInt8) (l.map shw) := by
  show asmT 26 o m n t (kds l) = _
  unfold asmT
  rw [if_neg (by decide), if_neg (by decide), if_neg (by decide), if_neg (by decide), if_neg (by decide), if_neg (by decide), if_neg (by decide), if_neg (by decide), if_neg (by decide), if_neg (by decide), if_neg (by decide), if_neg (by decide), if_neg (by decide), if_pos (by decide), kds_map, List.map_map]; rfl
theorem shw28 {o : Int} {m : List UInt8} {n : Rt.Nm} {t : List Int} {l : List Tree} : shw (.mk 28 o m n t l) = join ([226, 139, 132] : List UInt8) (l.map shw) := by
  show asmT 28 o m n t (kds l) = _
  unfold asmT
  rw [if_neg (by decide), if_neg (by decide), if_neg (by decide), if_neg (by decide), if_neg (by decide), if_neg (by decide), if_neg (by decide), if_neg (by decide), if_neg (by decide), if_neg (by decide), if_neg (by decide), if_neg (by decide), if_neg (by decide), if_neg (by decide), if_pos (by decide), kds_map, List.map_map]; rfl
theorem made_len {k o : Int} {l : List Tree} (h : made k o (l.map kind) = true) : (k = 9 ∨ k = 14 → 2 ≤ l.length) ∧ (k = 11 ∨ k = 15 ∨ k = 25 ∨ k = 26 ∨ k = 23 → l.length = 2) ∧ (k = 12 → l.length = 3) ∧ (k = 13 ∨ k = 16 ∨ k = 27 ∨ k = 22 ∨ k = 24 → l.length = 1) := by
  have hm : (l.map kind).length = l.length := by simp
  refine ⟨?_, ?_, ?_, ?_⟩
  · rintro (rfl | rfl)
    all_goals
      unfold made at h
      simp (config := {decide := true}) only [if_true, if_false, Bool.and_eq_true, decide_eq_true_eq] at h
      omega
  · rintro (rfl | rfl | rfl | rfl | rfl)
    all_goals
      unfold made at h
      simp (config := {decide := true}) only [if_true, if_false] at h
      have := parts_length h
      simp only [List.length_cons, List.length_nil] at this
      omega
  · rintro rfl
    unfold made at h
    simp (config := {decide := true}) only [if_true, if_false] at h
    have := parts_length h
    simp only [List.length_cons, List.length_nil] at this
    omega
  · rintro (rfl | rfl | rfl | rfl | rfl)
    all_goals
      unfold made at h
      simp (config := {decide := true}) only [if_true, if_false] at h
      have := parts_length h
      simp only [List.length_cons, List.length_nil] at this
      omega
theorem wrap_mk {k o : Int} {m : List UInt8} {n : Rt.Nm} {t : List Int} {l : List Tree} : (kd (.mk k o m n t l)).wrap = ((k == 11) && (nth (kds l) 0).first) := by rw [kd, asm]
theorem load_midG {P : Program} {ops : Array Oper} {rest : List Oper} {o : Oper} {a : Act} {w : World} {Q : Exit → Act → World → Prop} (hw : Region.wanted o (yielded ops a.tmps) = true) (ty : TypeId) (x : Operand) (ho : o.op = .load ty x)
    (b off : Nat) (hx : a.eval x = .pointer (some ⟨b, off, none⟩)) (cs : List Value) (d : TypeDesc) (hc : w.rangeAt b off cs)
    (hu : P.underlying ty = some d) (hd : d.isRow = true) (hi : (P.info? ty).map (·.size) = some cs.length)
    (h : wpList P ops Q rest (a.put o.dst (.agg cs.toArray)) w) : wpList P ops Q (o :: rest) a w :=
  BigFrame.wpList_want hw fun _ hK => wp_load_mid ty x ho b off hx cs d hc hu hd hi (hK _ _ h)
theorem upLast_mk (n : Nat) (hT : WrOk 21 shw n) (hT1 : WrOk 21 shw (n + 1)) (k o : Int) (m : List UInt8) (nm : Rt.Nm) (tx : List Int) (T : List Tree) (vs : List Value) (w : World) (Bt B b : Nat) (l : List UInt8) (hsz : SizeOf.sizeOf (Tree.mk k o m nm tx T) < n + 1) (hn : ∀ a ∈ T, SizeOf.sizeOf a < n) (ha : all (.mk k o m nm tx T) = true)
    (h : IsTree w Bt (.mk k o m nm tx T) vs) (hB : Bt ≤ B) (hP : PowB B w) (hL : IsBld B b l w) (hM : l.length + (lastT (.mk k o m nm tx T)).length ≤ 140737488355000) :
    Calls Tryz.prog 73 #[.pointer (some ⟨b, 0, none⟩), .agg vs.toArray] w (Wrote B b w (l ++ lastT (.mk k o m nm tx T))) := by
  obtain ⟨W, hW⟩ : ∃ W, W = w.alloc (.cells vs.toArray 28) := ⟨_, rfl⟩
  have hIA := tree_infoA h
  obtain ⟨A1, A2, A3, A4, c1, c2, c3, c4, us, HX, HB0, hTl⟩ := boxed h hB hL hW
  have HPW := Lib.hid (hP.kept HX.out.kept.below)
  have HAL := Lib.hid (all_held ha)
  have HTT := Lib.hid (fun (i : Nat) (hi : i < T.length) => And.intro (hn _ (List.getElem_mem hi)) (alls_at HAL.out.2.2 hi))
  have CT := Lib.hid (fun (i : Nat) (hi : i < T.length) wx tv l' (hx : KeptB B b W wx) ht h3 h4 => hT (T[i]'hi) tv wx Bt B b l' (HTT.out i hi).1 (HTT.out i hi).2 ht hB (HPW.out.kept hx.below) h3 h4)
  have BR := Lib.hid (fun wx l' (hx : KeptB B b W wx) ht h3 h4 => brackets_any (n + 1) hT1 (.mk k o m nm tx T) vs wx Bt B b l' hsz ha ht hB (HPW.out.kept hx.below) h3 h4)
  have TX := Lib.hid (fun wx l' (hx : KeptB B b W wx) ht h3 h4 => hT1 (.mk k o m nm tx T) vs wx Bt B b l' hsz ha ht hB (HPW.out.kept hx.below) h3 h4)
  dsimp only at BR
  have CI := Lib.hid (fun (i : Nat) (hi : i < T.length) wx tv l' (hx : KeptB B b W wx) ht h3 h4 => upItem_any n hT (T[i]'hi) tv wx Bt B b l' (HTT.out i hi).1 (HTT.out i hi).2 ht hB (HPW.out.kept hx.below) h3 h4)
  dsimp only at CI
  have HK0 := Lib.hid (KeptB.refl B b W)
  have HW := Lib.hid hW
  have HIA := Lib.hid hIA
  have HD : Hid (lastT (.mk k o m nm tx T) = [32] ++ if (k == 11) && (nth (kds T) 0).first then inner (shw (.mk k o m nm tx T)) else shw (.mk k o m nm tx T)) := Lib.hid (by unfold lastT behind; rw [wrap_mk]; rfl)
  generalize lastT (.mk k o m nm tx T) = R at *
  have hin : ∀ s, (inner s).length = s.length + 2 := inner_len
  by_cases k11 : k = 11
  · subst k11
    have hlen := (made_len HAL.out.2.1).2.1 (.inl rfl)
    have h0 : 0 < T.length := by omega
    have HFI : Hid ((nth (kds T) 0).first = (kd T[0]).first) := Lib.hid (by rw [nth_kds h0])
    rw [HFI.out] at HD
    have HBI := Lib.hid (fun wx tv (hx : KeptB B b W wx) (ht : IsTree wx Bt T[0] tv) => binds_any T[0] tv wx Bt ht (by have := hx.size; have := HX.out.kept.size; have := hL.szB; omega) (HTT.out 0 h0).2)
    have hq0 : (0 : Int) < (T.length : Int) := by omega
    obtain ⟨b4, o4, rfl⟩ : ∃ b4 o4, A4 = some ⟨b4, o4, none⟩ := by
      obtain ⟨b', off, _, e, _⟩ := HX.out.sub W HK0.out 0 (by omega)
      exact ⟨b', off, e⟩
    have HS : Hid (∀ wx, KeptB B b W wx → ∀ i (hi : i < T.length), ∃ tv, IsTree wx Bt T[i] tv ∧ wx.rangeAt b4 (o4 + i * 8) tv ∧ (Tryz.prog.info? 28).map (·.size) = some tv.length) := Lib.hid (fun wx hx i hi => by
      obtain ⟨b', off, tv, e, h1, h2, h3⟩ := HX.out.sub wx hx i hi
      injection e with e
      injection e with e1 e2
      subst e1 e2
      exact ⟨tv, h1, h2, h3⟩)
    generalize shw (.mk 11 o m nm tx T) = Z at *
    clear CT CI HAL
    cases hf : (kd T[0]).first
    · rw [hf] at HD HBI
      replace HD : Hid (R = [32] ++ Z) := HD
      rw [HD.out, List.length_append, List.length_cons, List.length_nil] at hM
      clear h hW hP hT hIA hL ha hn hB hf HTT HFI hlen HPW hT1 hsz hin
      go_enter Tryz.func73, Tryz.ntmps73
      go_upto_region 1 with fail
      rw [← HW.out]
      go_wp2_with fail
      refine (ws_any B b _ [32] W HB0.out (by (try simp only [List.length_append, List.length_cons, List.length_nil]); omega)).mono ?_
      rintro e w1 ⟨⟨v1, rfl⟩, hb1, hk1⟩
      replace hb1 := Lib.hid hb1
      replace hk1 := Lib.hid (HK0.out.trans hk1)
      have h8 := HX.out.at8 _ hk1.out
      have q0 := h8.p0
      have q7 := h8.p7
      simp only [Nat.zero_add] at q7
      clear h8
      obtain ⟨tv, ht, hr, hi⟩ := HS.out w1 hk1.out 0 (by omega)
      replace ht := Lib.hid ht
      replace hr := Lib.hid hr
      replace hi := Lib.hid hi
      go_wp2_with (refine load_midG rfl 28 (.tmp 12) rfl b4 o4 rfl tv _ (by have := hr.out; simpa using this) Tryz.underlying28 rfl hi.out ?_)
      refine (HBI.out w1 tv hk1.out ht.out).mono ?_
      rintro e w2 ⟨rfl, hb2'⟩
      have hk2 := Lib.hid (hk1.out.trans (KeptB.of (b := b) hb2' (by have := hb1.out.szB; omega)))
      have hb2 := Lib.hid (hb1.out.later hb2')
      clear hb2' ht hr hi
      clear q0 q7
      go_wp2_with (with_reducible refine wpList_load_row rfl 28 (.tmp 3) rfl w.heap.size rfl 28 vs.toArray (0, 0) _ (HX.out.row _ hk2.out) Tryz.underlying28 rfl HIA.out ?_)
      refine (TX.out w2 _ hk2.out (HX.out.tree _ hk2.out) hb2.out (by (try simp only [List.length_append, List.length_cons, List.length_nil]); omega)).mono ?_
      rintro e w3 ⟨⟨v3, rfl⟩, hb3, hk3⟩
      replace hb3 := Lib.hid hb3
      replace hk3 := Lib.hid (hk2.out.trans hk3)
      go_wp2_with fail
      go_end0
      exact wrote_end HX.out.kept hk3.out hb3.out (by rw [HD.out] <;> (try simp only [List.append_assoc, List.cons_append, List.nil_append]))
    · rw [hf] at HD HBI
      replace HD : Hid (R = [32] ++ inner Z) := HD
      rw [HD.out, List.length_append, List.length_cons, List.length_nil, hin] at hM
      have hin2 := hin Z
      generalize inner Z = IZ at *
      clear h hW hP hT hIA hL ha hn hB hf HTT HFI hlen HPW hT1 hsz hin
      go_enter Tryz.func73, Tryz.ntmps73
      go_upto_region 1 with fail
      rw [← HW.out]
      go_wp2_with fail
      refine (ws_any B b _ [32] W HB0.out (by (try simp only [List.length_append, List.length_cons, List.length_nil]); omega)).mono ?_
      rintro e w1 ⟨⟨v1, rfl⟩, hb1, hk1⟩
      replace hb1 := Lib.hid hb1
      replace hk1 := Lib.hid (HK0.out.trans hk1)
      have h8 := HX.out.at8 _ hk1.out
      have q0 := h8.p0
      have q7 := h8.p7
      simp only [Nat.zero_add] at q7
      clear h8
      obtain ⟨tv, ht, hr, hi⟩ := HS.out w1 hk1.out 0 (by omega)
      replace ht := Lib.hid ht
      replace hr := Lib.hid hr
      replace hi := Lib.hid hi
      go_wp2_with (refine load_midG rfl 28 (.tmp 12) rfl b4 o4 rfl tv _ (by have := hr.out; simpa using this) Tryz.underlying28 rfl hi.out ?_)
      refine (HBI.out w1 tv hk1.out ht.out).mono ?_
      rintro e w2 ⟨rfl, hb2'⟩
      have hk2 := Lib.hid (hk1.out.trans (KeptB.of (b := b) hb2' (by have := hb1.out.szB; omega)))
      have hb2 := Lib.hid (hb1.out.later hb2')
      clear hb2' ht hr hi
      clear q0 q7
      go_wp2_with (with_reducible refine wpList_load_row rfl 28 (.tmp 3) rfl w.heap.size rfl 28 vs.toArray (0, 0) _ (HX.out.row _ hk2.out) Tryz.underlying28 rfl HIA.out ?_)
      refine (BR.out w2 _ hk2.out (HX.out.tree _ hk2.out) hb2.out (by (try simp only [List.length_append, List.length_cons, List.length_nil]); omega)).mono ?_
      rintro e w3 ⟨⟨v3, rfl⟩, hb3, hk3⟩
      replace hb3 := Lib.hid hb3
      replace hk3 := Lib.hid (hk2.out.trans hk3)
      go_wp2_with fail
      go_end0
      exact wrote_end HX.out.kept hk3.out hb3.out (by rw [HD.out] <;> (try simp only [List.append_assoc, List.cons_append, List.nil_append]))
  · have e11 : (k == 11) = false := by simpa using k11
    rw [e11] at HD
    replace HD : Hid (R = [32] ++ shw (.mk k o m nm tx T)) := HD
    generalize shw (.mk k o m nm tx T) = Z at *
    rw [HD.out, List.length_append, List.length_cons, List.length_nil] at hM
    clear CT CI HAL h hW hP hT hIA hL ha hn hB HTT HPW hT1 hsz hin k11
    go_enter Tryz.func73, Tryz.ntmps73
    go_upto_region 1 with fail
    rw [← HW.out]
    go_wp2_with fail
    refine (ws_any B b _ [32] W HB0.out (by (try simp only [List.length_append, List.length_cons, List.length_nil]); omega)).mono ?_
    rintro e w1 ⟨⟨v1, rfl⟩, hb1, hk1⟩
    replace hb1 := Lib.hid hb1
    replace hk1 := Lib.hid (HK0.out.trans hk1)
    have h8 := HX.out.at8 _ hk1.out
    have q0 := h8.p0
    skip
    clear h8
    go_wp2_with (with_reducible refine wpList_load_row rfl 28 (.tmp 3) rfl w.heap.size rfl 28 vs.toArray (0, 0) _ (HX.out.row _ hk1.out) Tryz.underlying28 rfl HIA.out ?_)
    refine (TX.out w1 _ hk1.out (HX.out.tree _ hk1.out) hb1.out (by (try simp only [List.length_append, List.length_cons, List.length_nil]); omega)).mono ?_
    rintro e w2 ⟨⟨v2, rfl⟩, hb2, hk2⟩
    replace hb2 := Lib.hid hb2
    replace hk2 := Lib.hid (hk1.out.trans hk2)
    go_wp2_with fail
    go_end0
    exact wrote_end HX.out.kept hk2.out hb2.out (by rw [HD.out] <;> (try simp only [List.append_assoc, List.cons_append, List.nil_append]))
theorem upLast_any (n : Nat) (hT : WrOk 21 shw n) : WrOk 73 lastT n := by
  intro a vs w Bt B b l hn ha h hB hP hL hM
  obtain ⟨n', rfl⟩ : ∃ n', n = n' + 1 := ⟨n - 1, by omega⟩
  obtain ⟨k, o, m, nm, tx, T⟩ := a
  exact upLast_mk n' (fun a vs w Bt B b l hn => hT a vs w Bt B b l (by omega)) hT k o m nm tx T vs w Bt B b l hn (fun a h => by
    have := List.sizeOf_lt_of_mem h
    simp only [Tree.mk.sizeOf_spec] at hn
    omega) ha h hB hP hL hM
theorem WrOk.le {F : FuncId} {f : Tree → List UInt8} {n n' : Nat} (h : WrOk F f n) (hn : n' ≤ n) : WrOk F f n' := fun a vs w Bt B b l h1 => h a vs w Bt B b l (by omega)
theorem upArray_any (n : Nat) (hT : WrOk 21 shw n) (k o : Int) (m : List UInt8) (nm : Rt.Nm) (tx : List Int) (T : List Tree) (vs : List Value) (w : World) (Bt B b : Nat) (l : List UInt8) (hk : k = 8 ∨ k = 9 ∨ k = 11 ∨ k = 12) (hn : ∀ a ∈ T, SizeOf.sizeOf a < n) (ha : all (.mk k o m nm tx T) = true)
    (h : IsTree w Bt (.mk k o m nm tx T) vs) (hB : Bt ≤ B) (hP : PowB B w) (hL : IsBld B b l w) (hM : l.length + (shw (.mk k o m nm tx T)).length ≤ 140737488355000) :
    Calls Tryz.prog 41 #[.pointer (some ⟨b, 0, none⟩), .agg vs.toArray] w (Wrote B b w (l ++ shw (.mk k o m nm tx T))) := by
  obtain ⟨W, hW⟩ : ∃ W, W = w.alloc (.cells vs.toArray 28) := ⟨_, rfl⟩
  have hIA := tree_infoA h
  obtain ⟨A1, A2, A3, A4, c1, c2, c3, c4, us, HX, HB0, hTl⟩ := boxed h hB hL hW
  have HPW := Lib.hid (hP.kept HX.out.kept.below)
  have HAL := Lib.hid (all_held ha)
  have HTT := Lib.hid (fun (i : Nat) (hi : i < T.length) => And.intro (hn _ (List.getElem_mem hi)) (alls_at HAL.out.2.2 hi))
  have CT := Lib.hid (fun (i : Nat) (hi : i < T.length) wx tv l' (hx : KeptB B b W wx) ht h3 h4 => hT (T[i]'hi) tv wx Bt B b l' (HTT.out i hi).1 (HTT.out i hi).2 ht hB (HPW.out.kept hx.below) h3 h4)
  have CI := Lib.hid (fun (i : Nat) (hi : i < T.length) wx tv l' (hx : KeptB B b W wx) ht h3 h4 => upItem_any n hT (T[i]'hi) tv wx Bt B b l' (HTT.out i hi).1 (HTT.out i hi).2 ht hB (HPW.out.kept hx.below) h3 h4)
  dsimp only at CI
  have CL := Lib.hid (fun (i : Nat) (hi : i < T.length) wx tv l' (hx : KeptB B b W wx) ht h3 h4 => upLast_any n hT (T[i]'hi) tv wx Bt B b l' (HTT.out i hi).1 (HTT.out i hi).2 ht hB (HPW.out.kept hx.below) h3 h4)
  have CP : Hid (∀ b4 o4 (wx : World) (l' : List UInt8), A4 = some ⟨b4, o4, none⟩ → 0 < T.length → KeptB B b W wx → IsBld B b l' wx → l'.length + (places ((T.drop 1).map kd)).length ≤ 140737488355000 →
      Calls Tryz.prog 72 #[.pointer (some ⟨b, 0, none⟩), .slice (some ⟨b4, o4 + 8, none⟩) (T.length - 1) (c4 - 1)] wx (Wrote B b wx (l' ++ places ((T.drop 1).map kd)))) := Lib.hid (fun b4 o4 wx l' e h0 hx h3 h4 => by
    obtain ⟨us2, HL2, HC2⟩ := trees_tail HX.out.kids (by have := HX.out.lies; rwa [e] at this) h0
    have := upPlaces_any n hT (T.drop 1) us2 (some ⟨b4, o4 + 8, none⟩) (c4 - 1) wx Bt B b l' (fun a h => hn a (List.mem_of_mem_drop h)) (fun a h => by
      obtain ⟨i, hi, rfl⟩ := List.getElem_of_mem (List.mem_of_mem_drop h)
      exact (HTT.out i hi).2) (HL2.out.keep (HX.out.far wx hx)) (HC2.out.keep (HX.out.far wx hx) (Nat.le_refl _)) hB (HPW.out.kept hx.below) h3 (by rw [List.length_drop]; omega) h4
    rwa [List.length_drop] at this)
  have CLI : Hid (∀ F f, WrOk F f n → (∀ args w, (callFunc F args).run Tryz.prog w = .ok (.enter F args) w) → ∀ sep (wx : World) (l' : List UInt8), KeptB B b W wx → IsBld B b l' wx → l'.length + (join sep (T.map f)).length ≤ 140737488355000 →
      Calls Tryz.prog 44 #[.pointer (some ⟨b, 0, none⟩), .slice A4 T.length c4, .string ⟨sep.toArray⟩, .func (.func F) #[] #[]] wx (Wrote B b wx (l' ++ join sep (T.map f)))) := Lib.hid (fun F f hF hE sep wx l' hx h3 h4 =>
    upList_any F f n hF hE sep T us A4 c4 wx Bt B b l' hn (fun a h => by
      obtain ⟨i, hi, rfl⟩ := List.getElem_of_mem h
      exact (HTT.out i hi).2) (HX.out.lies.keep (HX.out.far wx hx)) (HX.out.kids.keep (HX.out.far wx hx) (Nat.le_refl _)) hB (HPW.out.kept hx.below) h3 hTl h4)
  have hcap : T.length ≤ c4 := HX.out.own.f4.1
  have HK0 := Lib.hid (KeptB.refl B b W)
  have HW := Lib.hid hW
  have HIA := Lib.hid hIA
  have LI := Lib.hid (CLI.out _ _ (upItem_any n hT) enter_item)
  have ML := made_len HAL.out.2.1
  rcases hk with rfl | rfl | rfl | rfl
  · have HD := Lib.hid (shw8 (o := o) (m := m) (n := nm) (t := tx) (l := T))
    rw [HD.out] at hM
    generalize shw (.mk 8 o m nm tx T) = R at *
    clear CLI CP CL CT CI ML HAL hcap h hW hP hT hIA hL ha hn hB HTT HPW
    go_enter Tryz.func41, Tryz.ntmps41
    go_upto_region 1 with fail
    rw [← HW.out]
    have h8 := HX.out.at8 _ HK0.out
    have q0 := h8.p0
    have q7 := h8.p7
    simp only [Nat.zero_add] at q7
    clear h8
    go_wp2_with fail
    refine (LI.out [32] W _ HK0.out HB0.out hM).mono ?_
    rintro e w1 ⟨⟨v1, rfl⟩, hb1, hk1⟩
    replace hb1 := Lib.hid hb1
    replace hk1 := Lib.hid (HK0.out.trans hk1)
    go_wp2_with fail
    go_end0
    exact wrote_end HX.out.kept hk1.out hb1.out (by rw [HD.out] <;> (try simp only [List.append_assoc, List.cons_append, List.nil_append]))
  · have hlen := ML.1 (.inl rfl)
    have HD := Lib.hid (shw9 (o := o) (m := m) (n := nm) (t := tx) hlen)
    rw [HD.out, List.length_append] at hM
    have hq0 : (0 : Int) < (T.length : Int) := by omega
    have hq1 : (1 : Int) ≤ (T.length : Int) := by omega
    have hc41 : 1 < c4 := by omega
    obtain ⟨b4, o4, rfl⟩ : ∃ b4 o4, A4 = some ⟨b4, o4, none⟩ := by
      obtain ⟨b', off, _, e, _⟩ := HX.out.sub W HK0.out 0 (by omega)
      exact ⟨b', off, e⟩
    have HS : Hid (∀ wx, KeptB B b W wx → ∀ i (hi : i < T.length), ∃ tv, IsTree wx Bt T[i] tv ∧ wx.rangeAt b4 (o4 + i * 8) tv ∧ (Tryz.prog.info? 28).map (·.size) = some tv.length) := Lib.hid (fun wx hx i hi => by
      obtain ⟨b', off, tv, e, h1, h2, h3⟩ := HX.out.sub wx hx i hi
      injection e with e
      injection e with e1 e2
      subst e1 e2
      exact ⟨tv, h1, h2, h3⟩)
    generalize shw (.mk 9 o m nm tx T) = R at *
    replace CP := Lib.hid (CP.out b4 o4)
    clear CLI LI CL CT ML HAL h hW hP hT hIA hL ha hn hB HTT HPW
    go_enter Tryz.func41, Tryz.ntmps41
    go_upto_region 1 with fail
    rw [← HW.out]
    have h8 := HX.out.at8 _ HK0.out
    have q0 := h8.p0
    have q7 := h8.p7
    simp only [Nat.zero_add] at q7
    clear h8
    obtain ⟨tv, ht, hr, hi⟩ := HS.out W HK0.out 0 (by omega)
    replace ht := Lib.hid ht
    replace hr := Lib.hid hr
    replace hi := Lib.hid hi
    go_wp2_with (with_reducible refine wpList_load_mid rfl 28 (.tmp 17) rfl b4 (o4) rfl tv _ (by have := hr.out; simpa using this) Tryz.underlying28 rfl hi.out ?_)
    refine (CI.out 0 (by omega) W tv _ HK0.out ht.out HB0.out (by (try simp only [List.length_append, List.length_cons, List.length_nil]); omega)).mono ?_
    clear ht hr hi
    rintro e w1 ⟨⟨v1, rfl⟩, hb1, hk1⟩
    replace hb1 := Lib.hid hb1
    replace hk1 := Lib.hid (HK0.out.trans hk1)
    clear q0 q7
    have h8 := HX.out.at8 _ hk1.out
    have q7 := h8.p7
    simp only [Nat.zero_add] at q7
    clear h8
    go_wp2_with fail
    refine (CP.out w1 _ (by first | rfl | trivial) (by omega) hk1.out hb1.out (by (try simp only [List.length_append, List.length_cons, List.length_nil]); omega)).mono ?_
    rintro e w2 ⟨⟨v2, rfl⟩, hb2, hk2⟩
    replace hb2 := Lib.hid hb2
    replace hk2 := Lib.hid (hk1.out.trans hk2)
    go_wp2_with fail
    go_end0
    exact wrote_end HX.out.kept hk2.out hb2.out (by rw [HD.out] <;> (try simp only [List.append_assoc, List.cons_append, List.nil_append]))
  · have hlen := ML.2.1 (.inl rfl)
    have HD := Lib.hid (shw11 (o := o) (m := m) (n := nm) (t := tx) hlen)
    rw [HD.out, List.length_append] at hM
    have hq0 : (0 : Int) < (T.length : Int) := by omega
    have hq1 : (1 : Int) < (T.length : Int) := by omega
    obtain ⟨b4, o4, rfl⟩ : ∃ b4 o4, A4 = some ⟨b4, o4, none⟩ := by
      obtain ⟨b', off, _, e, _⟩ := HX.out.sub W HK0.out 0 (by omega)
      exact ⟨b', off, e⟩
    have HS : Hid (∀ wx, KeptB B b W wx → ∀ i (hi : i < T.length), ∃ tv, IsTree wx Bt T[i] tv ∧ wx.rangeAt b4 (o4 + i * 8) tv ∧ (Tryz.prog.info? 28).map (·.size) = some tv.length) := Lib.hid (fun wx hx i hi => by
      obtain ⟨b', off, tv, e, h1, h2, h3⟩ := HX.out.sub wx hx i hi
      injection e with e
      injection e with e1 e2
      subst e1 e2
      exact ⟨tv, h1, h2, h3⟩)
    generalize shw (.mk 11 o m nm tx T) = R at *
    clear CLI LI CP CI ML HAL hcap h hW hP hT hIA hL ha hn hB HTT HPW
    go_enter Tryz.func41, Tryz.ntmps41
    go_upto_region 1 with fail
    rw [← HW.out]
    have h8 := HX.out.at8 _ HK0.out
    have q0 := h8.p0
    have q7 := h8.p7
    simp only [Nat.zero_add] at q7
    clear h8
    obtain ⟨tv, ht, hr, hi⟩ := HS.out W HK0.out 0 (by omega)
    replace ht := Lib.hid ht
    replace hr := Lib.hid hr
    replace hi := Lib.hid hi
    go_wp2_with (with_reducible refine wpList_load_mid rfl 28 (.tmp 30) rfl b4 (o4) rfl tv _ (by have := hr.out; simpa using this) Tryz.underlying28 rfl hi.out ?_)
    refine (CT.out 0 (by omega) W tv _ HK0.out ht.out HB0.out (by (try simp only [List.length_append, List.length_cons, List.length_nil]); omega)).mono ?_
    clear ht hr hi
    rintro e w1 ⟨⟨v1, rfl⟩, hb1, hk1⟩
    replace hb1 := Lib.hid hb1
    replace hk1 := Lib.hid (HK0.out.trans hk1)
    clear q0 q7
    have h8 := HX.out.at8 _ hk1.out
    have q7 := h8.p7
    simp only [Nat.zero_add] at q7
    clear h8
    obtain ⟨tv, ht, hr, hi⟩ := HS.out w1 hk1.out 1 (by omega)
    replace ht := Lib.hid ht
    replace hr := Lib.hid hr
    replace hi := Lib.hid hi
    go_wp2_with (with_reducible refine wpList_load_mid rfl 28 (.tmp 36) rfl b4 (o4 + 8) rfl tv _ (by have := hr.out; simpa using this) Tryz.underlying28 rfl hi.out ?_)
    refine (CL.out 1 (by omega) w1 tv _ hk1.out ht.out hb1.out (by (try simp only [List.length_append, List.length_cons, List.length_nil]); omega)).mono ?_
    clear ht hr hi
    rintro e w2 ⟨⟨v2, rfl⟩, hb2, hk2⟩
    replace hb2 := Lib.hid hb2
    replace hk2 := Lib.hid (hk1.out.trans hk2)
    go_wp2_with fail
    go_end0
    exact wrote_end HX.out.kept hk2.out hb2.out (by rw [HD.out] <;> (try simp only [List.append_assoc, List.cons_append, List.nil_append]))
  · have hlen := ML.2.2.1 rfl
    have HD := Lib.hid (shw12 (o := o) (m := m) (n := nm) (t := tx) hlen)
    have hq0 : (0 : Int) < (T.length : Int) := by omega
    have hq1 : (1 : Int) < (T.length : Int) := by omega
    have hq2 : (2 : Int) < (T.length : Int) := by omega
    obtain ⟨b4, o4, rfl⟩ : ∃ b4 o4, A4 = some ⟨b4, o4, none⟩ := by
      obtain ⟨b', off, _, e, _⟩ := HX.out.sub W HK0.out 0 (by omega)
      exact ⟨b', off, e⟩
    have HS : Hid (∀ wx, KeptB B b W wx → ∀ i (hi : i < T.length), ∃ tv, IsTree wx Bt T[i] tv ∧ wx.rangeAt b4 (o4 + i * 8) tv ∧ (Tryz.prog.info? 28).map (·.size) = some tv.length) := Lib.hid (fun wx hx i hi => by
      obtain ⟨b', off, tv, e, h1, h2, h3⟩ := HX.out.sub wx hx i hi
      injection e with e
      injection e with e1 e2
      subst e1 e2
      exact ⟨tv, h1, h2, h3⟩)
    generalize shw (.mk 12 o m nm tx T) = R at *
    obtain ⟨tv0, ht0, hr0, hi0⟩ := HS.out W HK0.out 0 (by omega)
    obtain ⟨e1, e2, e3, e4, e5, e6, e7, e8, rfl⟩ := ht0.form
    have kq : W.cell? ⟨b4, o4, none⟩ = some (.int .i64 (kind T[0])) := by have := hr0 0 _ rfl; simpa using this
    clear ht0 hr0 hi0
    obtain ⟨k0, hk0⟩ : ∃ x, x = kind T[0] := ⟨_, rfl⟩
    rw [← hk0] at kq HD
    clear CLI LI CP ML HAL hcap h hW hP hT hIA hL ha hn hB HTT HPW hk0
    by_cases h8k : k0 = 8
    · rw [if_pos h8k] at HD
      rw [HD.out] at hM
      simp only [List.length_append, List.length_cons, List.length_nil] at hM
      subst h8k
      go_enter Tryz.func41, Tryz.ntmps41
      go_upto_region 1 with fail
      rw [← HW.out]
      have h8 := HX.out.at8 _ HK0.out
      have q0 := h8.p0
      have q7 := h8.p7
      simp only [Nat.zero_add] at q7
      clear h8
      obtain ⟨tv, ht, hr, hi⟩ := HS.out W HK0.out 0 (by omega)
      replace ht := Lib.hid ht
      replace hr := Lib.hid hr
      replace hi := Lib.hid hi
      go_wp2_with (with_reducible refine wpList_load_mid rfl 28 (.tmp 50) rfl b4 (o4) rfl tv _ (by have := hr.out; simpa using this) Tryz.underlying28 rfl hi.out ?_)
      refine (CT.out 0 (by omega) W tv _ HK0.out ht.out HB0.out (by (try simp only [List.length_append, List.length_cons, List.length_nil]); omega)).mono ?_
      clear ht hr hi
      rintro e w1 ⟨⟨v1, rfl⟩, hb1, hk1⟩
      replace hb1 := Lib.hid hb1
      replace hk1 := Lib.hid (HK0.out.trans hk1)
      clear q0 q7
      go_wp2_with fail
      refine (ws_any B b _ [32] w1 hb1.out (by (try simp only [List.length_append, List.length_cons, List.length_nil]); omega)).mono ?_
      rintro e w2 ⟨⟨v2, rfl⟩, hb2, hk2⟩
      replace hb2 := Lib.hid hb2
      replace hk2 := Lib.hid (hk1.out.trans hk2)
      have h8 := HX.out.at8 _ hk2.out
      have q7 := h8.p7
      simp only [Nat.zero_add] at q7
      clear h8
      obtain ⟨tv, ht, hr, hi⟩ := HS.out w2 hk2.out 1 (by omega)
      replace ht := Lib.hid ht
      replace hr := Lib.hid hr
      replace hi := Lib.hid hi
      go_wp2_with (with_reducible refine wpList_load_mid rfl 28 (.tmp 64) rfl b4 (o4 + 8) rfl tv _ (by have := hr.out; simpa using this) Tryz.underlying28 rfl hi.out ?_)
      refine (CT.out 1 (by omega) w2 tv _ hk2.out ht.out hb2.out (by (try simp only [List.length_append, List.length_cons, List.length_nil]); omega)).mono ?_
      clear ht hr hi
      rintro e w3 ⟨⟨v3, rfl⟩, hb3, hk3⟩
      replace hb3 := Lib.hid hb3
      replace hk3 := Lib.hid (hk2.out.trans hk3)
      clear q7
      have h8 := HX.out.at8 _ hk3.out
      have q7 := h8.p7
      simp only [Nat.zero_add] at q7
      clear h8
      obtain ⟨tv, ht, hr, hi⟩ := HS.out w3 hk3.out 2 (by omega)
      replace ht := Lib.hid ht
      replace hr := Lib.hid hr
      replace hi := Lib.hid hi
      go_wp2_with (with_reducible refine wpList_load_mid rfl 28 (.tmp 70) rfl b4 (o4 + 16) rfl tv _ (by have := hr.out; simpa using this) Tryz.underlying28 rfl hi.out ?_)
      refine (CL.out 2 (by omega) w3 tv _ hk3.out ht.out hb3.out (by (try simp only [List.length_append, List.length_cons, List.length_nil]); omega)).mono ?_
      clear ht hr hi
      rintro e w4 ⟨⟨v4, rfl⟩, hb4, hk4⟩
      replace hb4 := Lib.hid hb4
      replace hk4 := Lib.hid (hk3.out.trans hk4)
      go_wp2_with fail
      go_end0
      exact wrote_end HX.out.kept hk4.out hb4.out (by rw [HD.out] <;> (try simp only [List.append_assoc, List.cons_append, List.nil_append]))
    · rw [if_neg h8k] at HD
      rw [HD.out] at hM
      simp only [List.length_append, List.length_cons, List.length_nil] at hM
      have n8 : (k0 == 8) = false := by simpa using h8k
      clear h8k
      go_enter Tryz.func41, Tryz.ntmps41
      go_upto_region 1 with fail
      rw [← HW.out]
      have h8 := HX.out.at8 _ HK0.out
      have q0 := h8.p0
      have q7 := h8.p7
      simp only [Nat.zero_add] at q7
      clear h8
      obtain ⟨tv, ht, hr, hi⟩ := HS.out W HK0.out 0 (by omega)
      replace ht := Lib.hid ht
      replace hr := Lib.hid hr
      replace hi := Lib.hid hi
      go_wp2_with (with_reducible refine wpList_load_mid rfl 28 (.tmp 56) rfl b4 (o4) rfl tv _ (by have := hr.out; simpa using this) Tryz.underlying28 rfl hi.out ?_)
      refine (CI.out 0 (by omega) W tv _ HK0.out ht.out HB0.out (by (try simp only [List.length_append, List.length_cons, List.length_nil]); omega)).mono ?_
      clear ht hr hi
      rintro e w1 ⟨⟨v1, rfl⟩, hb1, hk1⟩
      replace hb1 := Lib.hid hb1
      replace hk1 := Lib.hid (HK0.out.trans hk1)
      clear q0 q7
      go_wp2_with fail
      refine (ws_any B b _ [32] w1 hb1.out (by (try simp only [List.length_append, List.length_cons, List.length_nil]); omega)).mono ?_
      rintro e w2 ⟨⟨v2, rfl⟩, hb2, hk2⟩
      replace hb2 := Lib.hid hb2
      replace hk2 := Lib.hid (hk1.out.trans hk2)
      have h8 := HX.out.at8 _ hk2.out
      have q7 := h8.p7
      simp only [Nat.zero_add] at q7
      clear h8
      obtain ⟨tv, ht, hr, hi⟩ := HS.out w2 hk2.out 1 (by omega)
      replace ht := Lib.hid ht
      replace hr := Lib.hid hr
      replace hi := Lib.hid hi
      go_wp2_with (with_reducible refine wpList_load_mid rfl 28 (.tmp 64) rfl b4 (o4 + 8) rfl tv _ (by have := hr.out; simpa using this) Tryz.underlying28 rfl hi.out ?_)
      refine (CT.out 1 (by omega) w2 tv _ hk2.out ht.out hb2.out (by (try simp only [List.length_append, List.length_cons, List.length_nil]); omega)).mono ?_
      clear ht hr hi
      rintro e w3 ⟨⟨v3, rfl⟩, hb3, hk3⟩
      replace hb3 := Lib.hid hb3
      replace hk3 := Lib.hid (hk2.out.trans hk3)
      clear q7
      have h8 := HX.out.at8 _ hk3.out
      have q7 := h8.p7
      simp only [Nat.zero_add] at q7
      clear h8
      obtain ⟨tv, ht, hr, hi⟩ := HS.out w3 hk3.out 2 (by omega)
      replace ht := Lib.hid ht
      replace hr := Lib.hid hr
      replace hi := Lib.hid hi
      go_wp2_with (with_reducible refine wpList_load_mid rfl 28 (.tmp 70) rfl b4 (o4 + 16) rfl tv _ (by have := hr.out; simpa using this) Tryz.underlying28 rfl hi.out ?_)
      refine (CL.out 2 (by omega) w3 tv _ hk3.out ht.out hb3.out (by (try simp only [List.length_append, List.length_cons, List.length_nil]); omega)).mono ?_
      clear ht hr hi
      rintro e w4 ⟨⟨v4, rfl⟩, hb4, hk4⟩
      replace hb4 := Lib.hid hb4
      replace hk4 := Lib.hid (hk3.out.trans hk4)
      go_wp2_with fail
      go_end0
      exact wrote_end HX.out.kept hk4.out hb4.out (by rw [HD.out] <;> (try simp only [List.append_assoc, List.cons_append, List.nil_append]))
theorem mon_may {o : Int} (h : monops.contains o = true) : Gl.may o = true := by
  have : o = 0x2F ∨ o = 0x233F ∨ o = 0x5C ∨ o = 0x2340 ∨ o = 0xA8 ∨ o = 0x2368 := by unfold monops at h; simpa using h
  rcases this with rfl | rfl | rfl | rfl | rfl | rfl <;> decide
theorem dy_may {o : Int} (h : dyops.contains o = true) : Gl.may o = true := by
  have : o = 0x2E ∨ o = 0x2218 ∨ o = 0x2364 ∨ o = 0x2363 := by unfold dyops at h; simpa using h
  rcases this with rfl | rfl | rfl | rfl <;> decide
theorem held_op {k o : Int} {m : List UInt8} {n : Rt.Nm} {t : List Int} (h : held k o m n t = true) : (k = 22 → monops.contains o = true) ∧ (k = 23 → dyops.contains o = true) ∧ (k = 17 → glyph o = true) ∧ (k = 6 ∨ k = 7 ∨ k = 16 → port o = true) ∧ (k = 21 → o = 0 ∨ o = 1) := by
  unfold held at h
  simp only [Bool.and_eq_true] at h
  have h4 := h.2
  refine ⟨?_, ?_, ?_, ?_, ?_⟩
  · rintro rfl; simpa (config := {decide := true}) only [if_true, if_false] using h4
  · rintro rfl; simpa (config := {decide := true}) only [if_true, if_false] using h4
  · rintro rfl; simpa (config := {decide := true}) only [if_true, if_false] using h4
  · rintro (rfl | rfl | rfl) <;> simpa (config := {decide := true}) only [if_true, if_false] using h4
  · rintro rfl
    have h5 : ((o == 0) || (o == 1)) = true := by simpa (config := {decide := true}) only [if_true, if_false] using h4
    simpa using h5
theorem may_bounds {o : Int} (h : Gl.may o = true) : 0 ≤ o ∧ o ≤ 1114111 := by unfold Gl.may at h; simp at h; omega
theorem upOper_any (n : Nat) (hT : WrOk 21 shw n) (k o : Int) (m : List UInt8) (nm : Rt.Nm) (tx : List Int) (T : List Tree) (vs : List Value) (w : World) (Bt B b : Nat) (l : List UInt8) (hk : k = 22 ∨ k = 23 ∨ k = 24) (hn : ∀ a ∈ T, SizeOf.sizeOf a < n) (ha : all (.mk k o m nm tx T) = true)
    (h : IsTree w Bt (.mk k o m nm tx T) vs) (hB : Bt ≤ B) (hP : PowB B w) (hL : IsBld B b l w) (hM : l.length + (shw (.mk k o m nm tx T)).length ≤ 140737488355000) :
    Calls Tryz.prog 43 #[.pointer (some ⟨b, 0, none⟩), .agg vs.toArray] w (Wrote B b w (l ++ shw (.mk k o m nm tx T))) := by
  obtain ⟨W, hW⟩ : ∃ W, W = w.alloc (.cells vs.toArray 28) := ⟨_, rfl⟩
  have hIA := tree_infoA h
  obtain ⟨A1, A2, A3, A4, c1, c2, c3, c4, us, HX, HB0, hTl⟩ := boxed h hB hL hW
  have HPW := Lib.hid (hP.kept HX.out.kept.below)
  have HAL := Lib.hid (all_held ha)
  have HTT := Lib.hid (fun (i : Nat) (hi : i < T.length) => And.intro (hn _ (List.getElem_mem hi)) (alls_at HAL.out.2.2 hi))
  have CT := Lib.hid (fun (i : Nat) (hi : i < T.length) wx tv l' (hx : KeptB B b W wx) ht h3 h4 => hT (T[i]'hi) tv wx Bt B b l' (HTT.out i hi).1 (HTT.out i hi).2 ht hB (HPW.out.kept hx.below) h3 h4)
  have CI := Lib.hid (fun (i : Nat) (hi : i < T.length) wx tv l' (hx : KeptB B b W wx) ht h3 h4 => upItem_any n hT (T[i]'hi) tv wx Bt B b l' (HTT.out i hi).1 (HTT.out i hi).2 ht hB (HPW.out.kept hx.below) h3 h4)
  dsimp only at CI
  have HK0 := Lib.hid (KeptB.refl B b W)
  have HW := Lib.hid hW
  have HIA := Lib.hid hIA
  have ML := made_len HAL.out.2.1
  have HO := held_op HAL.out.1
  have HAR := Lib.hid (fun k wx => array_any k wx)
  rcases hk with rfl | rfl | rfl
  · have hlen := ML.2.2.2 (by simp)
    have HD := Lib.hid (shw22 (o := o) (m := m) (n := nm) (t := tx) hlen)
    rw [HD.out, List.length_append] at hM
    have hq0 : (0 : Int) < (T.length : Int) := by omega
    have hmay := mon_may (HO.1 rfl)
    have hob := may_bounds hmay
    obtain ⟨ho0, ho1⟩ := hob
    obtain ⟨b4, o4, rfl⟩ : ∃ b4 o4, A4 = some ⟨b4, o4, none⟩ := by
      obtain ⟨b', off, _, e, _⟩ := HX.out.sub W HK0.out 0 (by omega)
      exact ⟨b', off, e⟩
    have HS : Hid (∀ wx, KeptB B b W wx → ∀ i (hi : i < T.length), ∃ tv, IsTree wx Bt T[i] tv ∧ wx.rangeAt b4 (o4 + i * 8) tv ∧ (Tryz.prog.info? 28).map (·.size) = some tv.length) := Lib.hid (fun wx hx i hi => by
      obtain ⟨b', off, tv, e, h1, h2, h3⟩ := HX.out.sub wx hx i hi
      injection e with e
      injection e with e1 e2
      subst e1 e2
      exact ⟨tv, h1, h2, h3⟩)
    generalize shw (.mk 22 o m nm tx T) = R at *
    clear CI ML HAL HO h hW hP hT hIA hL ha hn hB HTT HPW
    replace hmay := Lib.hid hmay
    go_enter Tryz.func43, Tryz.ntmps43
    go_upto_region 1 with fail
    rw [← HW.out]
    have h8 := HX.out.at8 _ HK0.out
    have q0 := h8.p0
    have q7 := h8.p7
    simp only [Nat.zero_add] at q7
    clear h8
    obtain ⟨tv, ht, hr, hi⟩ := HS.out W HK0.out 0 (by omega)
    replace ht := Lib.hid ht
    replace hr := Lib.hid hr
    replace hi := Lib.hid hi
    go_wp2_with (with_reducible refine wpList_load_mid rfl 28 (.tmp 18) rfl b4 (o4) rfl tv _ (by have := hr.out; simpa using this) Tryz.underlying28 rfl hi.out ?_)
    refine (CT.out 0 (by omega) W tv _ HK0.out ht.out HB0.out (by (try simp only [List.length_append, List.length_cons, List.length_nil]); omega)).mono ?_
    clear ht hr hi
    rintro e w1 ⟨⟨v1, rfl⟩, hb1, hk1⟩
    replace hb1 := Lib.hid hb1
    replace hk1 := Lib.hid (HK0.out.trans hk1)
    clear q0 q7
    have h8 := HX.out.at8 _ hk1.out
    have q0 := h8.p0
    have q1 := h8.p1
    simp only [Nat.zero_add] at q1
    clear h8
    go_wp2_with fail
    refine (wr_any B b _ o w1 hb1.out hmay.out (by (try simp only [List.length_append, List.length_cons, List.length_nil]); omega)).mono ?_
    rintro e w2 ⟨⟨v2, rfl⟩, hb2, hk2⟩
    replace hb2 := Lib.hid hb2
    replace hk2 := Lib.hid (hk1.out.trans hk2)
    clear q0 q1
    have h8 := HX.out.at8 _ hk2.out
    have q0 := h8.p0
    skip
    clear h8
    go_wp2_with fail
    go_end0
    exact wrote_end HX.out.kept hk2.out hb2.out (by rw [HD.out] <;> (try simp only [List.append_assoc, List.cons_append, List.nil_append]))
  · have hlen := ML.2.1 (by simp)
    have HD := Lib.hid (shw23 (o := o) (m := m) (n := nm) (t := tx) hlen)
    have hq0 : (0 : Int) < (T.length : Int) := by omega
    have hq1 : (1 : Int) < (T.length : Int) := by omega
    have hmay := dy_may (HO.2.1 rfl)
    obtain ⟨ho0, ho1⟩ := may_bounds hmay
    obtain ⟨b4, o4, rfl⟩ : ∃ b4 o4, A4 = some ⟨b4, o4, none⟩ := by
      obtain ⟨b', off, _, e, _⟩ := HX.out.sub W HK0.out 0 (by omega)
      exact ⟨b', off, e⟩
    have HS : Hid (∀ wx, KeptB B b W wx → ∀ i (hi : i < T.length), ∃ tv, IsTree wx Bt T[i] tv ∧ wx.rangeAt b4 (o4 + i * 8) tv ∧ (Tryz.prog.info? 28).map (·.size) = some tv.length) := Lib.hid (fun wx hx i hi => by
      obtain ⟨b', off, tv, e, h1, h2, h3⟩ := HX.out.sub wx hx i hi
      injection e with e
      injection e with e1 e2
      subst e1 e2
      exact ⟨tv, h1, h2, h3⟩)
    generalize shw (.mk 23 o m nm tx T) = R at *
    have HKK : Hid (∀ wx, KeptB B b W wx → wx.cell? ⟨b4, o4 + 8, none⟩ = some (.int .i64 (kind T[1]))) := Lib.hid (fun wx hx => by
      obtain ⟨tv0, ht0, hr0, hi0⟩ := HS.out wx hx 1 (by omega)
      obtain ⟨e1, e2, e3, e4, e5, e6, e7, e8, rfl⟩ := ht0.form
      have := hr0 0 _ rfl; simpa using this)
    obtain ⟨k1, hk1⟩ : ∃ x, x = kind T[1] := ⟨_, rfl⟩
    rw [← hk1] at HKK HD
    clear ML HAL HO h hW hP hT hIA hL ha hn hB HTT HPW hk1
    replace hmay := Lib.hid hmay
    cases hx1 : array k1
    · rw [hx1] at HD
      replace HD : Hid (R = shw T[0] ++ (Tk.enc1 o ++ shw T[1])) := HD
      rw [HD.out] at hM
      simp only [List.length_append] at hM
      go_enter Tryz.func43, Tryz.ntmps43
      go_upto_region 1 with fail
      rw [← HW.out]
      have h8 := HX.out.at8 _ HK0.out
      have q0 := h8.p0
      have q7 := h8.p7
      simp only [Nat.zero_add] at q7
      clear h8
      obtain ⟨tv, ht, hr, hi⟩ := HS.out W HK0.out 0 (by omega)
      replace ht := Lib.hid ht
      replace hr := Lib.hid hr
      replace hi := Lib.hid hi
      go_wp2_with (with_reducible refine wpList_load_mid rfl 28 (.tmp 18) rfl b4 (o4) rfl tv _ (by have := hr.out; simpa using this) Tryz.underlying28 rfl hi.out ?_)
      refine (CT.out 0 (by omega) W tv _ HK0.out ht.out HB0.out (by (try simp only [List.length_append, List.length_cons, List.length_nil]); omega)).mono ?_
      clear ht hr hi
      rintro e w1 ⟨⟨v1, rfl⟩, hb1, hk1⟩
      replace hb1 := Lib.hid hb1
      replace hk1 := Lib.hid (HK0.out.trans hk1)
      clear q0 q7
      have h8 := HX.out.at8 _ hk1.out
      have q0 := h8.p0
      have q1 := h8.p1
      simp only [Nat.zero_add] at q1
      clear h8
      go_wp2_with fail
      refine (wr_any B b _ o w1 hb1.out hmay.out (by (try simp only [List.length_append, List.length_cons, List.length_nil]); omega)).mono ?_
      rintro e w2 ⟨⟨v2, rfl⟩, hb2, hk2⟩
      replace hb2 := Lib.hid hb2
      replace hk2 := Lib.hid (hk1.out.trans hk2)
      clear q0 q1
      have h8 := HX.out.at8 _ hk2.out
      have q0 := h8.p0
      have q7 := h8.p7
      simp only [Nat.zero_add] at q7
      clear h8
      have kq := HKK.out _ hk2.out
      go_wp2_with fail
      refine (HAR.out k1 _).mono ?_
      rintro e w' ⟨rfl, rfl⟩
      rw [hx1]
      clear q0 q7
      have h8 := HX.out.at8 _ hk2.out
      have q7 := h8.p7
      simp only [Nat.zero_add] at q7
      clear h8
      obtain ⟨tv, ht, hr, hi⟩ := HS.out w2 hk2.out 1 (by omega)
      replace ht := Lib.hid ht
      replace hr := Lib.hid hr
      replace hi := Lib.hid hi
      go_wp2_with (with_reducible refine wpList_load_mid rfl 28 (.tmp 44) rfl b4 (o4 + 8) rfl tv _ (by have := hr.out; simpa using this) Tryz.underlying28 rfl hi.out ?_)
      refine (CT.out 1 (by omega) w2 tv _ hk2.out ht.out hb2.out (by (try simp only [List.length_append, List.length_cons, List.length_nil]); omega)).mono ?_
      clear ht hr hi
      rintro e w3 ⟨⟨v3, rfl⟩, hb3, hk3⟩
      replace hb3 := Lib.hid hb3
      replace hk3 := Lib.hid (hk2.out.trans hk3)
      go_wp2_with fail
      go_end0
      exact wrote_end HX.out.kept hk3.out hb3.out (by rw [HD.out] <;> (try simp only [List.append_assoc, List.cons_append, List.nil_append]))
    · rw [hx1] at HD
      replace HD : Hid (R = shw T[0] ++ (Tk.enc1 o ++ itemT (kd T[1]))) := HD
      rw [HD.out] at hM
      simp only [List.length_append] at hM
      go_enter Tryz.func43, Tryz.ntmps43
      go_upto_region 1 with fail
      rw [← HW.out]
      have h8 := HX.out.at8 _ HK0.out
      have q0 := h8.p0
      have q7 := h8.p7
      simp only [Nat.zero_add] at q7
      clear h8
      obtain ⟨tv, ht, hr, hi⟩ := HS.out W HK0.out 0 (by omega)
      replace ht := Lib.hid ht
      replace hr := Lib.hid hr
      replace hi := Lib.hid hi
      go_wp2_with (with_reducible refine wpList_load_mid rfl 28 (.tmp 18) rfl b4 (o4) rfl tv _ (by have := hr.out; simpa using this) Tryz.underlying28 rfl hi.out ?_)
      refine (CT.out 0 (by omega) W tv _ HK0.out ht.out HB0.out (by (try simp only [List.length_append, List.length_cons, List.length_nil]); omega)).mono ?_
      clear ht hr hi
      rintro e w1 ⟨⟨v1, rfl⟩, hb1, hk1⟩
      replace hb1 := Lib.hid hb1
      replace hk1 := Lib.hid (HK0.out.trans hk1)
      clear q0 q7
      have h8 := HX.out.at8 _ hk1.out
      have q0 := h8.p0
      have q1 := h8.p1
      simp only [Nat.zero_add] at q1
      clear h8
      go_wp2_with fail
      refine (wr_any B b _ o w1 hb1.out hmay.out (by (try simp only [List.length_append, List.length_cons, List.length_nil]); omega)).mono ?_
      rintro e w2 ⟨⟨v2, rfl⟩, hb2, hk2⟩
      replace hb2 := Lib.hid hb2
      replace hk2 := Lib.hid (hk1.out.trans hk2)
      clear q0 q1
      have h8 := HX.out.at8 _ hk2.out
      have q0 := h8.p0
      have q7 := h8.p7
      simp only [Nat.zero_add] at q7
      clear h8
      have kq := HKK.out _ hk2.out
      go_wp2_with fail
      refine (HAR.out k1 _).mono ?_
      rintro e w' ⟨rfl, rfl⟩
      rw [hx1]
      clear q0 q7
      have h8 := HX.out.at8 _ hk2.out
      have q7 := h8.p7
      simp only [Nat.zero_add] at q7
      clear h8
      obtain ⟨tv, ht, hr, hi⟩ := HS.out w2 hk2.out 1 (by omega)
      replace ht := Lib.hid ht
      replace hr := Lib.hid hr
      replace hi := Lib.hid hi
      go_wp2_with (with_reducible refine wpList_load_mid rfl 28 (.tmp 38) rfl b4 (o4 + 8) rfl tv _ (by have := hr.out; simpa using this) Tryz.underlying28 rfl hi.out ?_)
      refine (CI.out 1 (by omega) w2 tv _ hk2.out ht.out hb2.out (by (try simp only [List.length_append, List.length_cons, List.length_nil]); omega)).mono ?_
      clear ht hr hi
      rintro e w3 ⟨⟨v3, rfl⟩, hb3, hk3⟩
      replace hb3 := Lib.hid hb3
      replace hk3 := Lib.hid (hk2.out.trans hk3)
      go_wp2_with fail
      go_end0
      exact wrote_end HX.out.kept hk3.out hb3.out (by rw [HD.out] <;> (try simp only [List.append_assoc, List.cons_append, List.nil_append]))
  · have hlen := ML.2.2.2 (by simp)
    have HD := Lib.hid (shw24 (o := o) (m := m) (n := nm) (t := tx) hlen)
    rw [HD.out] at hM
    simp only [List.length_append, List.length_cons, List.length_nil] at hM
    have hq0 : (0 : Int) < (T.length : Int) := by omega
    obtain ⟨b4, o4, rfl⟩ : ∃ b4 o4, A4 = some ⟨b4, o4, none⟩ := by
      obtain ⟨b', off, _, e, _⟩ := HX.out.sub W HK0.out 0 (by omega)
      exact ⟨b', off, e⟩
    have HS : Hid (∀ wx, KeptB B b W wx → ∀ i (hi : i < T.length), ∃ tv, IsTree wx Bt T[i] tv ∧ wx.rangeAt b4 (o4 + i * 8) tv ∧ (Tryz.prog.info? 28).map (·.size) = some tv.length) := Lib.hid (fun wx hx i hi => by
      obtain ⟨b', off, tv, e, h1, h2, h3⟩ := HX.out.sub wx hx i hi
      injection e with e
      injection e with e1 e2
      subst e1 e2
      exact ⟨tv, h1, h2, h3⟩)
    generalize shw (.mk 24 o m nm tx T) = R at *
    clear CI ML HAL HO h hW hP hT hIA hL ha hn hB HTT HPW
    go_enter Tryz.func43, Tryz.ntmps43
    go_upto_region 1 with fail
    rw [← HW.out]
    have h8 := HX.out.at8 _ HK0.out
    have q0 := h8.p0
    skip
    clear h8
    go_wp2_with fail
    refine (ws_any B b _ [226, 136, 152, 46] W HB0.out (by (try simp only [List.length_append, List.length_cons, List.length_nil]); omega)).mono ?_
    rintro e w1 ⟨⟨v1, rfl⟩, hb1, hk1⟩
    replace hb1 := Lib.hid hb1
    replace hk1 := Lib.hid (HK0.out.trans hk1)
    clear q0
    have h8 := HX.out.at8 _ hk1.out
    have q7 := h8.p7
    simp only [Nat.zero_add] at q7
    clear h8
    obtain ⟨tv, ht, hr, hi⟩ := HS.out w1 hk1.out 0 (by omega)
    replace ht := Lib.hid ht
    replace hr := Lib.hid hr
    replace hi := Lib.hid hi
    go_wp2_with (with_reducible refine wpList_load_mid rfl 28 (.tmp 12) rfl b4 (o4) rfl tv _ (by have := hr.out; simpa using this) Tryz.underlying28 rfl hi.out ?_)
    refine (CT.out 0 (by omega) w1 tv _ hk1.out ht.out hb1.out (by (try simp only [List.length_append, List.length_cons, List.length_nil]); omega)).mono ?_
    clear ht hr hi
    rintro e w2 ⟨⟨v2, rfl⟩, hb2, hk2⟩
    replace hb2 := Lib.hid hb2
    replace hk2 := Lib.hid (hk1.out.trans hk2)
    go_wp2_with fail
    go_end0
    exact wrote_end HX.out.kept hk2.out hb2.out (by rw [HD.out] <;> (try simp only [List.append_assoc, List.cons_append, List.nil_append]))
end Go.Proofs.YtceplkpjnebnfaaGreatDoor
