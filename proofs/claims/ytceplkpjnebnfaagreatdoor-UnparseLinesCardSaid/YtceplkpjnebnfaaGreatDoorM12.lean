/-
  Texts of this proof, joined (by wip/bin/bundle.py): Tree14, RatR, Tree10, Tree16.
-/
import Derived.Test.YtceplkpjnebnfaaGreatDoorM11
import Derived.Deep.CutBlock
import Derived.Deep.RegionWith
/-
  The program's look at what an expression is made of. (Printed by wip/bin/gen_tree14.py.)
-/
namespace Go.Proofs.YtceplkpjnebnfaaGreatDoor
open Go.RowKit Tr
set_option maxHeartbeats 80000000
set_option maxRecDepth 100000
set_option linter.unusedVariables false

def dyoP (o : Int) (x : Int) : Bool := (plain x && !(o == 0x2364)) || (array x && ((o == 0x2364) || (o == 0x2363)))
theorem made1_any (g : Nat) (o : Int) (a : Tree) (vs : List Value) (w : World) (B : Nat) (h : IsTree w B a vs) (hg : w.cell? ⟨g, 1, none⟩ = some (.int .i64 o)) (hgl : g < w.heap.size) :
    Calls Tryz.prog 115 #[.agg vs.toArray, .pointer (some ⟨g, 0, none⟩)] w (BoolOut w (dyoP o (kind a))) := by
  obtain ⟨k, o', m, nm, t, l⟩ := a
  show Calls _ _ _ _ (BoolOut w (dyoP o k))
  obtain ⟨W, hW⟩ : ∃ W, W = w.alloc (.cells vs.toArray 28) := ⟨_, rfl⟩
  obtain ⟨A1, A2, A3, A4, c1, c2, c3, c4, us, HO, HL, HC, hW8, HG, hWl, hWb⟩ := tree_box h hW
  have q0 : W.cell? ⟨w.heap.size, 0, none⟩ = some (.int .i64 k) := hW8.p0
  have q1 : W.cell? ⟨g, 1, none⟩ = some (.int .i64 o) := (hWb.cell (p := ⟨g, 1, none⟩) hgl).trans hg
  have HWB := Lib.hid hWb
  have HW := Lib.hid hW
  have AR := Lib.hid (fun wx => array_any k wx)
  have PL := Lib.hid (fun wx => plain_any k wx)
  have HE : Hid (dyoP o k = ((plain k && !(o == 0x2364)) || (array k && ((o == 0x2364) || (o == 0x2363))))) := Lib.hid rfl
  generalize dyoP o k = R at *
  generalize array k = x at *
  generalize plain k = y at *
  clear h hW hW8 HO HL HC HG hWb hg
  have n1 : (o != 9060) = !(o == 9060) := rfl
  cases e1 : (o == 9060)
  · rw [e1] at n1 HE
    rw [Bool.not_false] at n1
    cases y
    · cases x
      · have HE2 : Hid (R = false) := Lib.hid (by rw [HE.out]; rfl)
        clear HE
        have HE := HE2
        clear HE2
        go_enter Tryz.func115, Tryz.ntmps115
        go_upto_region 1 with fail
        rw [← HW.out]
        go_wp2_with fail
        refine (PL.out _).mono ?_
        rintro e w1 ⟨rfl, rfl⟩
        go_wp2_with fail
        refine (AR.out _).mono ?_
        rintro e w1 ⟨rfl, rfl⟩
        go_wp2_with fail
        go_ret
        exact ⟨ret_bool (by rw [HE.out] <;> rfl), HWB.out⟩
      · cases e2 : (o == 9059)
        all_goals
          rw [e2] at HE
          go_enter Tryz.func115, Tryz.ntmps115
          go_upto_region 1 with fail
          rw [← HW.out]
          go_wp2_with fail
          refine (PL.out _).mono ?_
          rintro e w1 ⟨rfl, rfl⟩
          go_wp2_with fail
          refine (AR.out _).mono ?_
          rintro e w1 ⟨rfl, rfl⟩
          go_wp2_with fail
          go_ret
          exact ⟨ret_bool (by rw [HE.out] <;> rfl), HWB.out⟩
    · have HE2 : Hid (R = true) := Lib.hid (by rw [HE.out]; rfl)
      clear HE
      have HE := HE2
      clear HE2
      go_enter Tryz.func115, Tryz.ntmps115
      go_upto_region 1 with fail
      rw [← HW.out]
      go_wp2_with fail
      refine (PL.out _).mono ?_
      rintro e w1 ⟨rfl, rfl⟩
      go_wp2_with fail
      go_ret
      exact ⟨ret_bool (by rw [HE.out] <;> rfl), HWB.out⟩
  · rw [e1] at n1 HE
    rw [Bool.not_true] at n1
    cases y
    all_goals
      cases x
      all_goals
        have HE2 := HE.out
        simp only [Bool.not_true, Bool.and_false, Bool.false_or, Bool.true_or, Bool.and_true, Bool.true_and, Bool.false_and] at HE2
        have HE3 := Lib.hid HE2
        clear HE HE2
        have HE := HE3
        clear HE3
        go_enter Tryz.func115, Tryz.ntmps115
        go_upto_region 1 with fail
        rw [← HW.out]
        go_wp2_with fail
        refine (PL.out _).mono ?_
        rintro e w1 ⟨rfl, rfl⟩
        go_wp2_with fail
        refine (AR.out _).mono ?_
        rintro e w1 ⟨rfl, rfl⟩
        go_wp2_with fail
        go_ret
        exact ⟨ret_bool (by rw [HE.out] <;> rfl), HWB.out⟩
def stmtP (k : Int) (x : Int) : Bool := if x = 27 then true else if x = 25 ∨ x = 26 then k == 20 else array x
theorem made2_any (g : Nat) (k : Int) (a : Tree) (vs : List Value) (w : World) (B : Nat) (h : IsTree w B a vs) (hg : w.cell? ⟨g, 0, none⟩ = some (.int .i64 k)) (hgl : g < w.heap.size) :
    Calls Tryz.prog 118 #[.agg vs.toArray, .pointer (some ⟨g, 0, none⟩)] w (BoolOut w (stmtP k (kind a))) := by
  obtain ⟨x, o', m, nm, t, l⟩ := a
  show Calls _ _ _ _ (BoolOut w (stmtP k x))
  obtain ⟨W, hW⟩ : ∃ W, W = w.alloc (.cells vs.toArray 28) := ⟨_, rfl⟩
  obtain ⟨A1, A2, A3, A4, c1, c2, c3, c4, us, HO, HL, HC, hW8, HG, hWl, hWb⟩ := tree_box h hW
  have q0 : W.cell? ⟨w.heap.size, 0, none⟩ = some (.int .i64 x) := hW8.p0
  have q1 : W.cell? ⟨g, 0, none⟩ = some (.int .i64 k) := (hWb.cell (p := ⟨g, 0, none⟩) hgl).trans hg
  have HWB := Lib.hid hWb
  have HW := Lib.hid hW
  have AR := Lib.hid (fun wx => array_any x wx)
  have HE : Hid (stmtP k x = if x = 27 then true else if x = 25 ∨ x = 26 then k == 20 else array x) := Lib.hid rfl
  generalize stmtP k x = R at *
  clear h hW hW8 HO HL HC HG hWb hg
  by_cases h27 : x = 27
  · have HZ : Hid (R = true) := Lib.hid (by rw [HE.out, if_pos h27])
    subst h27
    go_enter Tryz.func118, Tryz.ntmps118
    go_upto_region 1 with fail
    rw [← HW.out]
    go_wp2_with fail
    go_ret
    exact ⟨ret_bool (by rw [HZ.out]), HWB.out⟩
  · by_cases h25 : x = 25
    · have HZ : Hid (R = (k == 20)) := Lib.hid (by rw [HE.out, if_neg h27, if_pos (.inl h25)])
      subst h25
      generalize hk : (k == 20) = b at *
      clear h27 HE
      cases b
      all_goals
        go_enter Tryz.func118, Tryz.ntmps118
        go_upto_region 1 with fail
        rw [← HW.out]
        go_wp2_with fail
        go_ret
        exact ⟨ret_bool (by rw [HZ.out]), HWB.out⟩
    · by_cases h26 : x = 26
      · have HZ : Hid (R = (k == 20)) := Lib.hid (by rw [HE.out, if_neg h27, if_pos (.inr h26)])
        subst h26
        generalize hk : (k == 20) = b at *
        clear h27 HE h25
        cases b
        all_goals
          go_enter Tryz.func118, Tryz.ntmps118
          go_upto_region 1 with fail
          rw [← HW.out]
          go_wp2_with fail
          go_ret
          exact ⟨ret_bool (by rw [HZ.out]), HWB.out⟩
      · have HZ : Hid (R = array x) := Lib.hid (by rw [HE.out, if_neg h27, if_neg (by rintro (h | h); exact h25 h; exact h26 h)])
        have n27 : (x == 27) = false := beq_eq_false_iff_ne.2 h27
        have n25 : (x == 25) = false := beq_eq_false_iff_ne.2 h25
        have n26 : (x == 26) = false := beq_eq_false_iff_ne.2 h26
        clear h27 h25 h26 HE
        generalize array x = r at *
        go_enter Tryz.func118, Tryz.ntmps118
        go_upto_region 1 with fail
        rw [← HW.out]
        go_wp2_with fail
        refine (AR.out _).mono ?_
        rintro e w1 ⟨rfl, rfl⟩
        go_wp2_with fail
        go_ret
        exact ⟨ret_bool (by rw [HZ.out]), HWB.out⟩
/-- The functions that are asked of parts. -/
def fA : FnP := ⟨112, #[], array⟩
def fF : FnP := ⟨114, #[], func⟩
def fL : FnP := ⟨117, #[], plain⟩
def fD (g : Nat) (o : Int) : FnP := ⟨115, #[.pointer (some ⟨g, 0, none⟩)], dyoP o⟩
theorem parts_new (fs : List FnP) (A : Option Addr) (c : Nat) (l : List Tree) (us : List Value) (w : World) (B : Nat) (hl : Lies w B A us) (hc : IsTrees w B l us) (hB : B ≤ w.heap.size) (hn : l.length ≤ 1100000000000) (hn' : fs.length ≤ 1000)
    (hF : ∀ wx, Below w.heap.size w wx → ∀ f ∈ fs, FunK wx B f.F f.caps f.p) (n : Nat) (T : TypeId) (cs : Array Value) (hcs : cs = (fs.map FnP.val).toArray) (hnn : n = fs.length) :
    Calls Tryz.prog 110 #[.slice A l.length c, .slice (some ⟨w.heap.size, 0, none⟩) n n] (w.alloc (.cells cs T)) (BoolOut w (parts (l.map kind) (fs.map FnP.p))) := by
  subst hcs hnn
  have hb : Below w.heap.size w (w.alloc (.cells (fs.map FnP.val).toArray T)) := (Below.refl _ _).alloc (Nat.le_refl _) _
  refine (parts_any fs (some ⟨w.heap.size, 0, none⟩) fs.length A c l us _ B (hl.below (hb.mono hB)) (hc.below (hb.mono hB)) (by simp; omega) hn hn' (.inr ⟨w.heap.size, 0, rfl, by simp, fun j v hv => ?_⟩) (hF _ hb)).mono ?_
  · rw [Nat.zero_add, cell_of_row _ w.heap.size j _ _ _ (heap_alloc_new w _), List.getElem?_toArray]; exact hv
  · rintro e w' ⟨rfl, hb2⟩
    exact ⟨rfl, hb.trans (hb2.mono (by simp))⟩
theorem trees_tail {w : World} {B : Nat} {l : List Tree} {us : List Value} {b off : Nat} (hc : IsTrees w B l us) (hl : Lies w B (some ⟨b, off, none⟩) us) (h0 : 0 < l.length) : ∃ us2, Hid (Lies w B (some ⟨b, off + 8, none⟩) us2) ∧ Hid (IsTrees w B (l.drop 1) us2) := by
  cases l with
  | nil => simp at h0
  | cons a r =>
    rw [IsTrees] at hc
    obtain ⟨u, t, rfl, h1, h2⟩ := hc
    refine ⟨t, Lib.hid ?_, Lib.hid h2⟩
    cases ht : t with
    | nil => exact .inl rfl
    | cons x y =>
      rcases hl with h | ⟨b', off', e, hb, hcell⟩
      · rw [ht] at h; simp at h
      · injection e with e
        injection e with e1 e2
        subst e1 e2
        refine .inr ⟨b, off + 8, rfl, hb, fun j v hv => ?_⟩
        have := hcell (8 + j) v (by rw [List.getElem?_append_right (by rw [h1.len]; omega), h1.len, Nat.add_sub_cancel_left, ht]; exact hv)
        rwa [← Nat.add_assoc] at this
theorem tload_midG {P : Program} {ops : Array Oper} {rest : List Oper} {o : Oper} {a : Act} {w : World} {Q : Exit → Act → World → Prop} (hw : Region.wanted o (yielded ops a.tmps) = true) (ty : TypeId) (x : Operand) (ho : o.op = .load ty x)
    (b off : Nat) (hx : a.eval x = .pointer (some ⟨b, off, none⟩)) (cs : List Value) (d : TypeDesc) (hc : w.rangeAt b off cs)
    (hu : P.underlying ty = some d) (hd : d.isRow = true) (hi : (P.info? ty).map (·.size) = some cs.length)
    (h : wpList P ops Q rest (a.put o.dst (.agg cs.toArray)) w) : wpList P ops Q (o :: rest) a w :=
  BigFrame.wpList_want hw fun _ hK => wp_load_mid ty x ho b off hx cs d hc hu hd hi (hK _ _ h)
theorem made_any (a : Tree) (vs : List Value) (w : World) (B : Nat) (h : IsTree w B a vs) (hB : B ≤ w.heap.size) :
    Calls Tryz.prog 64 #[.agg vs.toArray] w (BoolOut w (made (kind a) (op a) ((kids a).map kind))) := by
  obtain ⟨k, o, m, nm, t, l⟩ := a
  show Calls _ _ _ _ (BoolOut w (made k o (l.map kind)))
  obtain ⟨W, hW⟩ : ∃ W, W = w.alloc (.cells vs.toArray 28) := ⟨_, rfl⟩
  obtain ⟨A1, A2, A3, A4, c1, c2, c3, c4, us, HO, HL, HC, hW8, HG, hWl, hWb⟩ := tree_box h hW
  have hf4 := HO.out.f4.le (by omega)
  have hf4b := HO.out.f4.2.1
  have q0 : W.cell? ⟨w.heap.size, 0, none⟩ = some (.int .i64 k) := hW8.p0
  have q7 : W.cell? ⟨w.heap.size, 7, none⟩ = some (.slice A4 l.length c4) := hW8.p7
  have HLW : Hid (Lies W B A4 us) := Lib.hid (HL.out.below (hWb.mono hB))
  have HCW : Hid (IsTrees W B l us) := Lib.hid (HC.out.below (hWb.mono hB))
  have HBW : Hid (B ≤ W.heap.size) := Lib.hid (by omega)
  have hln : l.length ≤ 1100000000000 := by omega
  have HQ0 : Hid (∀ wx, Below W.heap.size W wx → wx.cell? ⟨w.heap.size, 0, none⟩ = some (.int .i64 k) ∧ wx.cell? ⟨w.heap.size, 1, none⟩ = some (.int .i64 o) ∧ w.heap.size < wx.heap.size) := Lib.hid (fun wx hx => ⟨(hx.cell (p := ⟨w.heap.size, 0, none⟩) hWl).trans hW8.p0, (hx.cell (p := ⟨w.heap.size, 1, none⟩) hWl).trans hW8.p1, Nat.lt_of_lt_of_le hWl hx.size⟩)
  have FA : Hid (∀ wx, FunK wx B fA.F fA.caps fA.p) := Lib.hid (fun wx => funArray wx B)
  have FF : Hid (∀ wx, FunK wx B fF.F fF.caps fF.p) := Lib.hid (fun wx => funFunc wx B)
  have FL : Hid (∀ wx, FunK wx B fL.F fL.caps fL.p) := Lib.hid (fun wx => funPlain wx B)
  have FD : Hid (∀ wx, Below W.heap.size W wx → FunK wx B (fD w.heap.size o).F (fD w.heap.size o).caps (fD w.heap.size o).p) := Lib.hid (fun wx hx => ⟨enters_of Tryz.func115 (by kernel_rfl) rfl, fun a vs wy hy ht => made1_any w.heap.size o a vs wy B ht (HQ0.out wy (hx.trans (hy.mono hx.size))).2.1 (HQ0.out wy (hx.trans (hy.mono hx.size))).2.2⟩)
  have FS : Hid (FunK W B 118 #[.pointer (some ⟨w.heap.size, 0, none⟩)] (stmtP k)) := Lib.hid ⟨enters_of Tryz.func118 (by kernel_rfl) rfl, fun a vs wy hy ht => made2_any w.heap.size k a vs wy B ht (HQ0.out wy hy).1 (HQ0.out wy hy).2.2⟩
  have PN := fun (fs : List FnP) (hn' : fs.length ≤ 1000) (hF : ∀ wx, Below W.heap.size W wx → ∀ f ∈ fs, FunK wx B f.F f.caps f.p) n T cs hcs hnn => parts_new fs A4 c4 l us W B HLW.out HCW.out HBW.out hln hn' hF n T cs hcs hnn
  replace PN := Lib.hid PN
  have P0 : Hid (Calls Tryz.prog 110 #[.slice A4 l.length c4, .slice none 0 0] W (BoolOut W (parts (l.map kind) []))) := Lib.hid (parts_any [] none 0 A4 c4 l us W B HLW.out HCW.out HBW.out hln (by decide) (.inl rfl) (fun f hf => by cases hf))
  have EA := Lib.hid (each_any _ _ _ A4 c4 l us W B HLW.out HCW.out HBW.out hln (funArray W B))
  have ES := Lib.hid (each_any _ _ _ A4 c4 l us W B HLW.out HCW.out HBW.out hln FS.out)
  have HWB := Lib.hid hWb
  have HWS : Hid (w.heap.size ≤ W.heap.size) := Lib.hid (by omega)
  have HW := Lib.hid hW
  obtain ⟨R, hR⟩ : ∃ R, R = made k o (l.map kind) := ⟨_, rfl⟩
  rw [← hR]
  have HDEF := Lib.hid hR
  clear h hW hW8 HO HG hWb hR hf4b
  have HKB : Hid (∀ wx, Below W.heap.size W wx → ∀ p : Addr, p.block < B → wx.cell? p = W.cell? p) := Lib.hid (fun wx hx p hp => hx.cell (by have := HBW.out; omega))
  go_enter Tryz.func64, Tryz.ntmps64
  go_upto_region 1 with fail
  rw [← HW.out]
  by_cases k1 : k = 1
  · subst k1
    have HZ : Hid (R = parts (l.map kind) []) := Lib.hid (by rw [HDEF.out]; unfold made; rw [if_neg (by decide), if_neg (by decide), if_neg (by decide), if_neg (by decide), if_neg (by decide), if_neg (by decide), if_neg (by decide), if_neg (by decide), if_neg (by decide), if_neg (by decide), if_neg (by decide), if_pos (by decide)]; cases l <;> rfl)
    generalize parts (l.map kind) [] = r at *
    clear HDEF
    go_wp2_with fail
    refine (P0.out).mono ?_
    rintro e w2 ⟨rfl, hb2⟩
    go_wp2_with fail
    go_ret
    exact ⟨ret_bool (by rw [HZ.out]), HWB.out.trans (hb2.mono HWS.out)⟩
  by_cases k2 : k = 2
  · subst k2
    have HZ : Hid (R = parts (l.map kind) []) := Lib.hid (by rw [HDEF.out]; unfold made; rw [if_neg (by decide), if_neg (by decide), if_neg (by decide), if_neg (by decide), if_neg (by decide), if_neg (by decide), if_neg (by decide), if_neg (by decide), if_neg (by decide), if_neg (by decide), if_neg (by decide), if_pos (by decide)]; cases l <;> rfl)
    generalize parts (l.map kind) [] = r at *
    clear HDEF
    go_wp2_with fail
    refine (P0.out).mono ?_
    rintro e w2 ⟨rfl, hb2⟩
    go_wp2_with fail
    go_ret
    exact ⟨ret_bool (by rw [HZ.out]), HWB.out.trans (hb2.mono HWS.out)⟩
  by_cases k3 : k = 3
  · subst k3
    have HZ : Hid (R = parts (l.map kind) []) := Lib.hid (by rw [HDEF.out]; unfold made; rw [if_neg (by decide), if_neg (by decide), if_neg (by decide), if_neg (by decide), if_neg (by decide), if_neg (by decide), if_neg (by decide), if_neg (by decide), if_neg (by decide), if_neg (by decide), if_neg (by decide), if_pos (by decide)]; cases l <;> rfl)
    generalize parts (l.map kind) [] = r at *
    clear HDEF
    go_wp2_with fail
    refine (P0.out).mono ?_
    rintro e w2 ⟨rfl, hb2⟩
    go_wp2_with fail
    go_ret
    exact ⟨ret_bool (by rw [HZ.out]), HWB.out.trans (hb2.mono HWS.out)⟩
  by_cases k4 : k = 4
  · subst k4
    have HZ : Hid (R = parts (l.map kind) []) := Lib.hid (by rw [HDEF.out]; unfold made; rw [if_neg (by decide), if_neg (by decide), if_neg (by decide), if_neg (by decide), if_neg (by decide), if_neg (by decide), if_neg (by decide), if_neg (by decide), if_neg (by decide), if_neg (by decide), if_neg (by decide), if_pos (by decide)]; cases l <;> rfl)
    generalize parts (l.map kind) [] = r at *
    clear HDEF
    go_wp2_with fail
    refine (P0.out).mono ?_
    rintro e w2 ⟨rfl, hb2⟩
    go_wp2_with fail
    go_ret
    exact ⟨ret_bool (by rw [HZ.out]), HWB.out.trans (hb2.mono HWS.out)⟩
  by_cases k5 : k = 5
  · subst k5
    have HZ : Hid (R = parts (l.map kind) []) := Lib.hid (by rw [HDEF.out]; unfold made; rw [if_neg (by decide), if_neg (by decide), if_neg (by decide), if_neg (by decide), if_neg (by decide), if_neg (by decide), if_neg (by decide), if_neg (by decide), if_neg (by decide), if_neg (by decide), if_neg (by decide), if_pos (by decide)]; cases l <;> rfl)
    generalize parts (l.map kind) [] = r at *
    clear HDEF
    go_wp2_with fail
    refine (P0.out).mono ?_
    rintro e w2 ⟨rfl, hb2⟩
    go_wp2_with fail
    go_ret
    exact ⟨ret_bool (by rw [HZ.out]), HWB.out.trans (hb2.mono HWS.out)⟩
  by_cases k6 : k = 6
  · subst k6
    have HZ : Hid (R = parts (l.map kind) []) := Lib.hid (by rw [HDEF.out]; unfold made; rw [if_neg (by decide), if_neg (by decide), if_neg (by decide), if_neg (by decide), if_neg (by decide), if_neg (by decide), if_neg (by decide), if_neg (by decide), if_neg (by decide), if_neg (by decide), if_neg (by decide), if_pos (by decide)]; cases l <;> rfl)
    generalize parts (l.map kind) [] = r at *
    clear HDEF
    go_wp2_with fail
    refine (P0.out).mono ?_
    rintro e w2 ⟨rfl, hb2⟩
    go_wp2_with fail
    go_ret
    exact ⟨ret_bool (by rw [HZ.out]), HWB.out.trans (hb2.mono HWS.out)⟩
  by_cases k7 : k = 7
  · subst k7
    have HZ : Hid (R = parts (l.map kind) []) := Lib.hid (by rw [HDEF.out]; unfold made; rw [if_neg (by decide), if_neg (by decide), if_neg (by decide), if_neg (by decide), if_neg (by decide), if_neg (by decide), if_neg (by decide), if_neg (by decide), if_neg (by decide), if_neg (by decide), if_neg (by decide), if_pos (by decide)]; cases l <;> rfl)
    generalize parts (l.map kind) [] = r at *
    clear HDEF
    go_wp2_with fail
    refine (P0.out).mono ?_
    rintro e w2 ⟨rfl, hb2⟩
    go_wp2_with fail
    go_ret
    exact ⟨ret_bool (by rw [HZ.out]), HWB.out.trans (hb2.mono HWS.out)⟩
  by_cases k10 : k = 10
  · subst k10
    have HZ : Hid (R = parts (l.map kind) []) := Lib.hid (by rw [HDEF.out]; unfold made; rw [if_neg (by decide), if_neg (by decide), if_neg (by decide), if_neg (by decide), if_neg (by decide), if_neg (by decide), if_neg (by decide), if_neg (by decide), if_neg (by decide), if_neg (by decide), if_neg (by decide), if_pos (by decide)]; cases l <;> rfl)
    generalize parts (l.map kind) [] = r at *
    clear HDEF
    go_wp2_with fail
    refine (P0.out).mono ?_
    rintro e w2 ⟨rfl, hb2⟩
    go_wp2_with fail
    go_ret
    exact ⟨ret_bool (by rw [HZ.out]), HWB.out.trans (hb2.mono HWS.out)⟩
  by_cases k17 : k = 17
  · subst k17
    have HZ : Hid (R = parts (l.map kind) []) := Lib.hid (by rw [HDEF.out]; unfold made; rw [if_neg (by decide), if_neg (by decide), if_neg (by decide), if_neg (by decide), if_neg (by decide), if_neg (by decide), if_neg (by decide), if_neg (by decide), if_neg (by decide), if_neg (by decide), if_neg (by decide), if_pos (by decide)]; cases l <;> rfl)
    generalize parts (l.map kind) [] = r at *
    clear HDEF
    go_wp2_with fail
    refine (P0.out).mono ?_
    rintro e w2 ⟨rfl, hb2⟩
    go_wp2_with fail
    go_ret
    exact ⟨ret_bool (by rw [HZ.out]), HWB.out.trans (hb2.mono HWS.out)⟩
  by_cases k18 : k = 18
  · subst k18
    have HZ : Hid (R = parts (l.map kind) []) := Lib.hid (by rw [HDEF.out]; unfold made; rw [if_neg (by decide), if_neg (by decide), if_neg (by decide), if_neg (by decide), if_neg (by decide), if_neg (by decide), if_neg (by decide), if_neg (by decide), if_neg (by decide), if_neg (by decide), if_neg (by decide), if_pos (by decide)]; cases l <;> rfl)
    generalize parts (l.map kind) [] = r at *
    clear HDEF
    go_wp2_with fail
    refine (P0.out).mono ?_
    rintro e w2 ⟨rfl, hb2⟩
    go_wp2_with fail
    go_ret
    exact ⟨ret_bool (by rw [HZ.out]), HWB.out.trans (hb2.mono HWS.out)⟩
  by_cases k19 : k = 19
  · subst k19
    have HZ : Hid (R = parts (l.map kind) []) := Lib.hid (by rw [HDEF.out]; unfold made; rw [if_neg (by decide), if_neg (by decide), if_neg (by decide), if_neg (by decide), if_neg (by decide), if_neg (by decide), if_neg (by decide), if_neg (by decide), if_neg (by decide), if_neg (by decide), if_neg (by decide), if_pos (by decide)]; cases l <;> rfl)
    generalize parts (l.map kind) [] = r at *
    clear HDEF
    go_wp2_with fail
    refine (P0.out).mono ?_
    rintro e w2 ⟨rfl, hb2⟩
    go_wp2_with fail
    go_ret
    exact ⟨ret_bool (by rw [HZ.out]), HWB.out.trans (hb2.mono HWS.out)⟩
  by_cases k21 : k = 21
  · subst k21
    have HZ : Hid (R = parts (l.map kind) []) := Lib.hid (by rw [HDEF.out]; unfold made; rw [if_neg (by decide), if_neg (by decide), if_neg (by decide), if_neg (by decide), if_neg (by decide), if_neg (by decide), if_neg (by decide), if_neg (by decide), if_neg (by decide), if_neg (by decide), if_neg (by decide), if_pos (by decide)]; cases l <;> rfl)
    generalize parts (l.map kind) [] = r at *
    clear HDEF
    go_wp2_with fail
    refine (P0.out).mono ?_
    rintro e w2 ⟨rfl, hb2⟩
    go_wp2_with fail
    go_ret
    exact ⟨ret_bool (by rw [HZ.out]), HWB.out.trans (hb2.mono HWS.out)⟩
  by_cases k11 : k = 11
  · subst k11
    have HZ : Hid (R = parts (l.map kind) ([fF, fA].map FnP.p)) := Lib.hid (by rw [HDEF.out]; unfold made; rw [if_neg (by decide), if_neg (by decide), if_pos (by decide)]; rfl)
    have P1 := Lib.hid (PN.out [fF, fA] (by simp) (fun wx hx f hf => by
      simp only [List.mem_cons, List.not_mem_nil, or_false] at hf
      rcases hf with rfl | rfl
      · exact FF.out wx
      · exact FA.out wx) 2 29 _ rfl rfl)
    generalize parts (l.map kind) ([fF, fA].map FnP.p) = r at *
    clear HDEF
    go_wp2_with fail
    refine (P1.out).mono ?_
    rintro e w2 ⟨rfl, hb2⟩
    go_wp2_with fail
    go_ret
    exact ⟨ret_bool (by rw [HZ.out]), HWB.out.trans (hb2.mono HWS.out)⟩
  by_cases k15 : k = 15
  · subst k15
    have HZ : Hid (R = parts (l.map kind) ([fF, fA].map FnP.p)) := Lib.hid (by rw [HDEF.out]; unfold made; rw [if_neg (by decide), if_neg (by decide), if_pos (by decide)]; rfl)
    have P1 := Lib.hid (PN.out [fF, fA] (by simp) (fun wx hx f hf => by
      simp only [List.mem_cons, List.not_mem_nil, or_false] at hf
      rcases hf with rfl | rfl
      · exact FF.out wx
      · exact FA.out wx) 2 29 _ rfl rfl)
    generalize parts (l.map kind) ([fF, fA].map FnP.p) = r at *
    clear HDEF
    go_wp2_with fail
    refine (P1.out).mono ?_
    rintro e w2 ⟨rfl, hb2⟩
    go_wp2_with fail
    go_ret
    exact ⟨ret_bool (by rw [HZ.out]), HWB.out.trans (hb2.mono HWS.out)⟩
  by_cases k12 : k = 12
  · subst k12
    have HZ : Hid (R = parts (l.map kind) ([fA, fF, fA].map FnP.p)) := Lib.hid (by rw [HDEF.out]; unfold made; rw [if_neg (by decide), if_neg (by decide), if_neg (by decide), if_pos (by decide)]; rfl)
    have P1 := Lib.hid (PN.out [fA, fF, fA] (by simp) (fun wx hx f hf => by
      simp only [List.mem_cons, List.not_mem_nil, or_false] at hf
      rcases hf with rfl | rfl | rfl
      · exact FA.out wx
      · exact FF.out wx
      · exact FA.out wx) 3 29 _ rfl rfl)
    generalize parts (l.map kind) ([fA, fF, fA].map FnP.p) = r at *
    clear HDEF
    go_wp2_with fail
    refine (P1.out).mono ?_
    rintro e w2 ⟨rfl, hb2⟩
    go_wp2_with fail
    go_ret
    exact ⟨ret_bool (by rw [HZ.out]), HWB.out.trans (hb2.mono HWS.out)⟩
  by_cases k13 : k = 13
  · subst k13
    have HZ : Hid (R = parts (l.map kind) ([fA].map FnP.p)) := Lib.hid (by rw [HDEF.out]; unfold made; rw [if_neg (by decide), if_neg (by decide), if_neg (by decide), if_neg (by decide), if_pos (by decide)]; rfl)
    have P1 := Lib.hid (PN.out [fA] (by simp) (fun wx hx f hf => by
      simp only [List.mem_cons, List.not_mem_nil, or_false] at hf
      subst hf
      exact FA.out wx) 1 29 _ rfl rfl)
    generalize parts (l.map kind) ([fA].map FnP.p) = r at *
    clear HDEF
    go_wp2_with fail
    refine (P1.out).mono ?_
    rintro e w2 ⟨rfl, hb2⟩
    go_wp2_with fail
    go_ret
    exact ⟨ret_bool (by rw [HZ.out]), HWB.out.trans (hb2.mono HWS.out)⟩
  by_cases k16 : k = 16
  · subst k16
    have HZ : Hid (R = parts (l.map kind) ([fA].map FnP.p)) := Lib.hid (by rw [HDEF.out]; unfold made; rw [if_neg (by decide), if_neg (by decide), if_neg (by decide), if_neg (by decide), if_pos (by decide)]; rfl)
    have P1 := Lib.hid (PN.out [fA] (by simp) (fun wx hx f hf => by
      simp only [List.mem_cons, List.not_mem_nil, or_false] at hf
      subst hf
      exact FA.out wx) 1 29 _ rfl rfl)
    generalize parts (l.map kind) ([fA].map FnP.p) = r at *
    clear HDEF
    go_wp2_with fail
    refine (P1.out).mono ?_
    rintro e w2 ⟨rfl, hb2⟩
    go_wp2_with fail
    go_ret
    exact ⟨ret_bool (by rw [HZ.out]), HWB.out.trans (hb2.mono HWS.out)⟩
  by_cases k22 : k = 22
  · subst k22
    have HZ : Hid (R = parts (l.map kind) ([fF].map FnP.p)) := Lib.hid (by rw [HDEF.out]; unfold made; rw [if_neg (by decide), if_neg (by decide), if_neg (by decide), if_neg (by decide), if_neg (by decide), if_pos (by decide)]; rfl)
    have P1 := Lib.hid (PN.out [fF] (by simp) (fun wx hx f hf => by
      simp only [List.mem_cons, List.not_mem_nil, or_false] at hf
      subst hf
      exact FF.out wx) 1 29 _ rfl rfl)
    generalize parts (l.map kind) ([fF].map FnP.p) = r at *
    clear HDEF
    go_wp2_with fail
    refine (P1.out).mono ?_
    rintro e w2 ⟨rfl, hb2⟩
    go_wp2_with fail
    go_ret
    exact ⟨ret_bool (by rw [HZ.out]), HWB.out.trans (hb2.mono HWS.out)⟩
  by_cases k27 : k = 27
  · subst k27
    have HZ : Hid (R = parts (l.map kind) ([fF].map FnP.p)) := Lib.hid (by rw [HDEF.out]; unfold made; rw [if_neg (by decide), if_neg (by decide), if_neg (by decide), if_neg (by decide), if_neg (by decide), if_pos (by decide)]; rfl)
    have P1 := Lib.hid (PN.out [fF] (by simp) (fun wx hx f hf => by
      simp only [List.mem_cons, List.not_mem_nil, or_false] at hf
      subst hf
      exact FF.out wx) 1 29 _ rfl rfl)
    generalize parts (l.map kind) ([fF].map FnP.p) = r at *
    clear HDEF
    go_wp2_with fail
    refine (P1.out).mono ?_
    rintro e w2 ⟨rfl, hb2⟩
    go_wp2_with fail
    go_ret
    exact ⟨ret_bool (by rw [HZ.out]), HWB.out.trans (hb2.mono HWS.out)⟩
  by_cases k23 : k = 23
  · subst k23
    have HZ : Hid (R = parts (l.map kind) ([fF, fD w.heap.size o].map FnP.p)) := Lib.hid (by rw [HDEF.out]; unfold made; rw [if_neg (by decide), if_neg (by decide), if_neg (by decide), if_neg (by decide), if_neg (by decide), if_neg (by decide), if_pos (by decide)]; rfl)
    have P1 := Lib.hid (PN.out [fF, fD w.heap.size o] (by simp) (fun wx hx f hf => by
      simp only [List.mem_cons, List.not_mem_nil, or_false] at hf
      rcases hf with rfl | rfl
      · exact FF.out wx
      · exact FD.out wx hx) 2 29 _ rfl rfl)
    generalize parts (l.map kind) ([fF, fD w.heap.size o].map FnP.p) = r at *
    clear HDEF
    go_wp2_with fail
    refine (P1.out).mono ?_
    rintro e w2 ⟨rfl, hb2⟩
    go_wp2_with fail
    go_ret
    exact ⟨ret_bool (by rw [HZ.out]), HWB.out.trans (hb2.mono HWS.out)⟩
  by_cases k24 : k = 24
  · subst k24
    have HZ : Hid (R = parts (l.map kind) ([fL].map FnP.p)) := Lib.hid (by rw [HDEF.out]; unfold made; rw [if_neg (by decide), if_neg (by decide), if_neg (by decide), if_neg (by decide), if_neg (by decide), if_neg (by decide), if_neg (by decide), if_pos (by decide)]; rfl)
    have P1 := Lib.hid (PN.out [fL] (by simp) (fun wx hx f hf => by
      simp only [List.mem_cons, List.not_mem_nil, or_false] at hf
      subst hf
      exact FL.out wx) 1 29 _ rfl rfl)
    generalize parts (l.map kind) ([fL].map FnP.p) = r at *
    clear HDEF
    go_wp2_with fail
    refine (P1.out).mono ?_
    rintro e w2 ⟨rfl, hb2⟩
    go_wp2_with fail
    go_ret
    exact ⟨ret_bool (by rw [HZ.out]), HWB.out.trans (hb2.mono HWS.out)⟩
  by_cases k25 : k = 25
  · subst k25
    have HZ : Hid (R = parts (l.map kind) ([fA, fA].map FnP.p)) := Lib.hid (by rw [HDEF.out]; unfold made; rw [if_neg (by decide), if_neg (by decide), if_neg (by decide), if_neg (by decide), if_neg (by decide), if_neg (by decide), if_neg (by decide), if_neg (by decide), if_pos (by decide)]; rfl)
    have P1 := Lib.hid (PN.out [fA, fA] (by simp) (fun wx hx f hf => by
      simp only [List.mem_cons, List.not_mem_nil, or_false] at hf
      rcases hf with rfl | rfl
      · exact FA.out wx
      · exact FA.out wx) 2 29 _ rfl rfl)
    generalize parts (l.map kind) ([fA, fA].map FnP.p) = r at *
    clear HDEF
    go_wp2_with fail
    refine (P1.out).mono ?_
    rintro e w2 ⟨rfl, hb2⟩
    go_wp2_with fail
    go_ret
    exact ⟨ret_bool (by rw [HZ.out]), HWB.out.trans (hb2.mono HWS.out)⟩
  by_cases k26 : k = 26
  · subst k26
    have HZ : Hid (R = parts (l.map kind) ([fA, fA].map FnP.p)) := Lib.hid (by rw [HDEF.out]; unfold made; rw [if_neg (by decide), if_neg (by decide), if_neg (by decide), if_neg (by decide), if_neg (by decide), if_neg (by decide), if_neg (by decide), if_neg (by decide), if_pos (by decide)]; rfl)
    have P1 := Lib.hid (PN.out [fA, fA] (by simp) (fun wx hx f hf => by
      simp only [List.mem_cons, List.not_mem_nil, or_false] at hf
      rcases hf with rfl | rfl
      · exact FA.out wx
      · exact FA.out wx) 2 29 _ rfl rfl)
    generalize parts (l.map kind) ([fA, fA].map FnP.p) = r at *
    clear HDEF
    go_wp2_with fail
    refine (P1.out).mono ?_
    rintro e w2 ⟨rfl, hb2⟩
    go_wp2_with fail
    go_ret
    exact ⟨ret_bool (by rw [HZ.out]), HWB.out.trans (hb2.mono HWS.out)⟩
  by_cases k8 : k = 8
  · subst k8
    have HZ : Hid (R = (decide (2 ≤ l.length) && (l.map kind).all array)) := Lib.hid (by rw [HDEF.out]; unfold made; rw [if_pos rfl, List.length_map])
    generalize (l.map kind).all array = r at *
    clear HDEF
    by_cases h2 : 2 ≤ l.length
    · rw [decide_eq_true h2, Bool.true_and] at HZ
      have q2 : (2 : Int) ≤ (l.length : Int) := by omega
      go_wp2_with fail
      refine (EA.out).mono ?_
      rintro e w2 ⟨rfl, hb2⟩
      go_wp2_with fail
      go_ret
      exact ⟨ret_bool (by rw [HZ.out]), HWB.out.trans (hb2.mono HWS.out)⟩
    · rw [decide_eq_false h2, Bool.false_and] at HZ
      have q2 : ¬ (2 : Int) ≤ (l.length : Int) := by omega
      go_wp2_with fail
      go_ret
      exact ⟨ret_bool (by rw [HZ.out]), HWB.out⟩
  by_cases k20 : k = 20
  · subst k20
    have HZ : Hid (R = (decide (0 < l.length) && (l.map kind).all (stmtP 20))) := Lib.hid (by
      rw [HDEF.out]
      unfold made
      rw [if_neg (by decide), if_neg (by decide), if_neg (by decide), if_neg (by decide), if_neg (by decide), if_neg (by decide), if_neg (by decide), if_neg (by decide), if_neg (by decide), if_pos rfl]
      congr 1
      · cases l <;> simp
      · congr 1
        funext x
        unfold stmtP
        by_cases h27 : x = 27
        · subst h27; rfl
        · by_cases h25 : x = 25
          · subst h25; rfl
          · by_cases h26 : x = 26
            · subst h26; rfl
            · rw [if_neg h27, if_neg (by rintro (h | h); exact h25 h; exact h26 h)]
              have e27 : (x == 27) = false := by simpa using h27
              have e25 : (x == 25) = false := by simpa using h25
              have e26 : (x == 26) = false := by simpa using h26
              simp [e27, e25, e26])
    generalize (l.map kind).all (stmtP 20) = r at *
    clear HDEF
    by_cases h2 : 0 < l.length
    · rw [decide_eq_true h2, Bool.true_and] at HZ
      have q2 : (0 : Int) < (l.length : Int) := by omega
      go_wp2_with fail
      refine (ES.out).mono ?_
      rintro e w2 ⟨rfl, hb2⟩
      go_wp2_with fail
      go_ret
      exact ⟨ret_bool (by rw [HZ.out]), HWB.out.trans (hb2.mono HWS.out)⟩
    · rw [decide_eq_false h2, Bool.false_and] at HZ
      have q2 : ¬ (0 : Int) < (l.length : Int) := by omega
      go_wp2_with fail
      go_ret
      exact ⟨ret_bool (by rw [HZ.out]), HWB.out⟩
  by_cases k28 : k = 28
  · subst k28
    have HZ : Hid (R = (decide (0 < l.length) && (l.map kind).all (stmtP 28))) := Lib.hid (by
      rw [HDEF.out]
      unfold made
      rw [if_neg (by decide), if_neg (by decide), if_neg (by decide), if_neg (by decide), if_neg (by decide), if_neg (by decide), if_neg (by decide), if_neg (by decide), if_neg (by decide), if_neg (by decide), if_pos rfl]
      congr 1
      · cases l <;> simp
      · congr 1
        funext x
        unfold stmtP
        by_cases h27 : x = 27
        · subst h27; rfl
        · by_cases h25 : x = 25
          · subst h25; rfl
          · by_cases h26 : x = 26
            · subst h26; rfl
            · rw [if_neg h27, if_neg (by rintro (h | h); exact h25 h; exact h26 h)]
              have e27 : (x == 27) = false := by simpa using h27
              have e25 : (x == 25) = false := by simpa using h25
              have e26 : (x == 26) = false := by simpa using h26
              simp [e27, e25, e26])
    generalize (l.map kind).all (stmtP 28) = r at *
    clear HDEF
    by_cases h2 : 0 < l.length
    · rw [decide_eq_true h2, Bool.true_and] at HZ
      have q2 : (0 : Int) < (l.length : Int) := by omega
      go_wp2_with fail
      refine (ES.out).mono ?_
      rintro e w2 ⟨rfl, hb2⟩
      go_wp2_with fail
      go_ret
      exact ⟨ret_bool (by rw [HZ.out]), HWB.out.trans (hb2.mono HWS.out)⟩
    · rw [decide_eq_false h2, Bool.false_and] at HZ
      have q2 : ¬ (0 : Int) < (l.length : Int) := by omega
      go_wp2_with fail
      go_ret
      exact ⟨ret_bool (by rw [HZ.out]), HWB.out⟩
  by_cases k9 : k = 9
  · subst k9
    have HZ : Hid (R = (decide (2 ≤ l.length) && array ((l.map kind).getD 0 0) && ((l.map kind).drop 1).all place)) := Lib.hid (by rw [HDEF.out]; unfold made; rw [if_neg (by decide), if_pos (by decide), List.length_map])
    clear HDEF
    by_cases h2 : 2 ≤ l.length
    · rw [decide_eq_true h2, Bool.true_and] at HZ
      have q2 : (2 : Int) ≤ (l.length : Int) := by omega
      have hl0 : 0 < l.length := by omega
      have e0 : (l.map kind).getD 0 0 = kind l[0] := by rw [List.getD_eq_getElem?_getD, List.getElem?_map, List.getElem?_eq_getElem hl0]; rfl
      obtain ⟨b, off, tv, rfl, hb, HT, HRR⟩ := tree_row HCW.out HLW.out (HKB.out W (Below.refl _ _)) hl0
      have K1 := Lib.hid (anArray_any l[0] tv W B HT.out)
      have HI := Lib.hid (tree_info HT.out)
      have HDR : Hid ((l.map kind).drop 1 = (l.drop 1).map kind) := Lib.hid (by rw [List.map_drop])
      rw [e0, HDR.out] at HZ
      obtain ⟨us2, HL2, HC2⟩ := trees_tail HCW.out HLW.out hl0
      have hlen1 : (l.drop 1).length = l.length - 1 := by simp
      have EP : Hid (∀ wx, Below W.heap.size W wx → Calls Tryz.prog 111 #[.slice (some ⟨b, off + 8, none⟩) (l.length - 1) (c4 - 1), .func (.func 113) #[] #[]] wx (BoolOut wx (((l.drop 1).map kind).all place))) := Lib.hid (fun wx hx => by
        have := each_any _ _ _ (some ⟨b, off + 8, none⟩) (c4 - 1) (l.drop 1) us2 wx B (HL2.out.below (hx.mono HBW.out)) (HC2.out.below (hx.mono HBW.out)) (Nat.le_trans HBW.out hx.size) (by rw [hlen1]; omega) (funPlace wx B)
        rwa [hlen1] at this)
      generalize ((l.drop 1).map kind).all place = r2 at *
      generalize array (kind l[0]) = r1 at *
      clear e0 HT HL2 HC2 hlen1
      cases r1
      · rw [Bool.false_and] at HZ
        go_wp2_with (refine tload_midG rfl 28 (.tmp 42) rfl b off rfl tv _ (by have := HRR.out; simpa using this) Tryz.underlying28 rfl HI.out ?_)
        refine K1.out.mono ?_
        rintro e w2 ⟨rfl, hb2⟩
        go_wp2_with fail
        go_ret
        exact ⟨ret_bool (by rw [HZ.out]), HWB.out.trans (hb2.mono HWS.out)⟩
      · rw [Bool.true_and] at HZ
        go_wp2_with (refine tload_midG rfl 28 (.tmp 42) rfl b off rfl tv _ (by have := HRR.out; simpa using this) Tryz.underlying28 rfl HI.out ?_)
        refine K1.out.mono ?_
        rintro e w2 ⟨rfl, hb2⟩
        have r7 : w2.cell? ⟨w.heap.size, 7, none⟩ = some (.slice (some ⟨b, off, none⟩) l.length c4) := (hb2.cell (p := ⟨w.heap.size, 7, none⟩) hWl).trans q7
        clear q7
        have q7 := r7
        clear r7
        have hc41 : 1 ≤ c4 := by omega
        go_wp2_with fail
        refine (EP.out _ hb2).mono ?_
        rintro e w3 ⟨rfl, hb3⟩
        go_wp2_with fail
        go_ret
        exact ⟨ret_bool (by rw [HZ.out]), HWB.out.trans ((hb2.trans (hb3.mono hb2.size)).mono HWS.out)⟩
    · rw [decide_eq_false h2, Bool.false_and, Bool.false_and] at HZ
      have q2 : ¬ (2 : Int) ≤ (l.length : Int) := by omega
      go_wp2_with fail
      go_ret
      exact ⟨ret_bool (by rw [HZ.out]), HWB.out⟩
  by_cases k14 : k = 14
  · subst k14
    have HZ : Hid (R = (decide (2 ≤ l.length) && array ((l.map kind).getD 0 0) && ((l.map kind).drop 1).all place)) := Lib.hid (by rw [HDEF.out]; unfold made; rw [if_neg (by decide), if_pos (by decide), List.length_map])
    clear HDEF
    by_cases h2 : 2 ≤ l.length
    · rw [decide_eq_true h2, Bool.true_and] at HZ
      have q2 : (2 : Int) ≤ (l.length : Int) := by omega
      have hl0 : 0 < l.length := by omega
      have e0 : (l.map kind).getD 0 0 = kind l[0] := by rw [List.getD_eq_getElem?_getD, List.getElem?_map, List.getElem?_eq_getElem hl0]; rfl
      obtain ⟨b, off, tv, rfl, hb, HT, HRR⟩ := tree_row HCW.out HLW.out (HKB.out W (Below.refl _ _)) hl0
      have K1 := Lib.hid (anArray_any l[0] tv W B HT.out)
      have HI := Lib.hid (tree_info HT.out)
      have HDR : Hid ((l.map kind).drop 1 = (l.drop 1).map kind) := Lib.hid (by rw [List.map_drop])
      rw [e0, HDR.out] at HZ
      obtain ⟨us2, HL2, HC2⟩ := trees_tail HCW.out HLW.out hl0
      have hlen1 : (l.drop 1).length = l.length - 1 := by simp
      have EP : Hid (∀ wx, Below W.heap.size W wx → Calls Tryz.prog 111 #[.slice (some ⟨b, off + 8, none⟩) (l.length - 1) (c4 - 1), .func (.func 113) #[] #[]] wx (BoolOut wx (((l.drop 1).map kind).all place))) := Lib.hid (fun wx hx => by
        have := each_any _ _ _ (some ⟨b, off + 8, none⟩) (c4 - 1) (l.drop 1) us2 wx B (HL2.out.below (hx.mono HBW.out)) (HC2.out.below (hx.mono HBW.out)) (Nat.le_trans HBW.out hx.size) (by rw [hlen1]; omega) (funPlace wx B)
        rwa [hlen1] at this)
      generalize ((l.drop 1).map kind).all place = r2 at *
      generalize array (kind l[0]) = r1 at *
      clear e0 HT HL2 HC2 hlen1
      cases r1
      · rw [Bool.false_and] at HZ
        go_wp2_with (refine tload_midG rfl 28 (.tmp 42) rfl b off rfl tv _ (by have := HRR.out; simpa using this) Tryz.underlying28 rfl HI.out ?_)
        refine K1.out.mono ?_
        rintro e w2 ⟨rfl, hb2⟩
        go_wp2_with fail
        go_ret
        exact ⟨ret_bool (by rw [HZ.out]), HWB.out.trans (hb2.mono HWS.out)⟩
      · rw [Bool.true_and] at HZ
        go_wp2_with (refine tload_midG rfl 28 (.tmp 42) rfl b off rfl tv _ (by have := HRR.out; simpa using this) Tryz.underlying28 rfl HI.out ?_)
        refine K1.out.mono ?_
        rintro e w2 ⟨rfl, hb2⟩
        have r7 : w2.cell? ⟨w.heap.size, 7, none⟩ = some (.slice (some ⟨b, off, none⟩) l.length c4) := (hb2.cell (p := ⟨w.heap.size, 7, none⟩) hWl).trans q7
        clear q7
        have q7 := r7
        clear r7
        have hc41 : 1 ≤ c4 := by omega
        go_wp2_with fail
        refine (EP.out _ hb2).mono ?_
        rintro e w3 ⟨rfl, hb3⟩
        go_wp2_with fail
        go_ret
        exact ⟨ret_bool (by rw [HZ.out]), HWB.out.trans ((hb2.trans (hb3.mono hb2.size)).mono HWS.out)⟩
    · rw [decide_eq_false h2, Bool.false_and, Bool.false_and] at HZ
      have q2 : ¬ (2 : Int) ≤ (l.length : Int) := by omega
      go_wp2_with fail
      go_ret
      exact ⟨ret_bool (by rw [HZ.out]), HWB.out⟩
  have HZ : Hid (R = false) := Lib.hid (by rw [HDEF.out]; unfold made; simp only [k1, k2, k3, k4, k5, k6, k7, k10, k17, k18, k19, k21, k11, k15, k12, k13, k16, k22, k27, k23, k24, k25, k26, k8, k20, k28, k9, k14, or_self, if_false]; rw [if_neg (by omega)])
  clear HDEF
  have n1 : (k == 1) = false := beq_eq_false_iff_ne.2 k1
  have n2 : (k == 2) = false := beq_eq_false_iff_ne.2 k2
  have n3 : (k == 3) = false := beq_eq_false_iff_ne.2 k3
  have n4 : (k == 4) = false := beq_eq_false_iff_ne.2 k4
  have n5 : (k == 5) = false := beq_eq_false_iff_ne.2 k5
  have n6 : (k == 6) = false := beq_eq_false_iff_ne.2 k6
  have n7 : (k == 7) = false := beq_eq_false_iff_ne.2 k7
  have n10 : (k == 10) = false := beq_eq_false_iff_ne.2 k10
  have n17 : (k == 17) = false := beq_eq_false_iff_ne.2 k17
  have n18 : (k == 18) = false := beq_eq_false_iff_ne.2 k18
  have n19 : (k == 19) = false := beq_eq_false_iff_ne.2 k19
  have n21 : (k == 21) = false := beq_eq_false_iff_ne.2 k21
  have n11 : (k == 11) = false := beq_eq_false_iff_ne.2 k11
  have n15 : (k == 15) = false := beq_eq_false_iff_ne.2 k15
  have n12 : (k == 12) = false := beq_eq_false_iff_ne.2 k12
  have n13 : (k == 13) = false := beq_eq_false_iff_ne.2 k13
  have n16 : (k == 16) = false := beq_eq_false_iff_ne.2 k16
  have n22 : (k == 22) = false := beq_eq_false_iff_ne.2 k22
  have n27 : (k == 27) = false := beq_eq_false_iff_ne.2 k27
  have n23 : (k == 23) = false := beq_eq_false_iff_ne.2 k23
  have n24 : (k == 24) = false := beq_eq_false_iff_ne.2 k24
  have n25 : (k == 25) = false := beq_eq_false_iff_ne.2 k25
  have n26 : (k == 26) = false := beq_eq_false_iff_ne.2 k26
  have n8 : (k == 8) = false := beq_eq_false_iff_ne.2 k8
  have n20 : (k == 20) = false := beq_eq_false_iff_ne.2 k20
  have n28 : (k == 28) = false := beq_eq_false_iff_ne.2 k28
  have n9 : (k == 9) = false := beq_eq_false_iff_ne.2 k9
  have n14 : (k == 14) = false := beq_eq_false_iff_ne.2 k14
  clear k1 k2 k3 k4 k5 k6 k7 k10 k17 k18 k19 k21 k11 k15 k12 k13 k16 k22 k27 k23 k24 k25 k26 k8 k20 k28 k9 k14
  go_wp2_with fail
  go_ret
  exact ⟨ret_bool (by rw [HZ.out]), HWB.out⟩
end Go.Proofs.YtceplkpjnebnfaaGreatDoor

/-
  ratio.trimmed, ratio.Right.
-/
namespace Go.Proofs.YtceplkpjnebnfaaGreatDoor
open Go.RowKit
set_option maxHeartbeats 4000000
set_option maxRecDepth 100000
set_option linter.unusedVariables false

theorem trimmed_big {l : List Nat} (h : ¬ l.length ≤ 32) : Tr.trimmed l = false := by unfold Tr.trimmed; rw [decide_eq_false h]; rfl
theorem trimmed_nil : Tr.trimmed [] = true := rfl
theorem trimmed_last {l : List Nat} (h : l.length ≤ 32) (h0 : l.length ≠ 0) : Tr.trimmed l = !(l[l.length - 1]'(by omega) == 0) := by
  unfold Tr.trimmed
  rw [decide_eq_true h]
  have h1 : l ≠ [] := by rintro rfl; exact h0 rfl
  rw [List.getLastD_eq_getLast?, List.getLast?_eq_some_getLast h1, List.getLast_eq_getElem]
  cases l with
  | nil => exact absurd rfl h1
  | cons a r => rfl
theorem trimmed_any (v : Value) (l : List Nat) (w : World) (h : IsRes w v l) :
    Calls Tryz.prog 152 #[v] w fun e w' => e = .returned (.bool (Tr.trimmed l)) ∧ w = w' := by
  obtain ⟨A, c, rfl, h1, h2, h3, h4⟩ := h
  by_cases hl : l.length ≤ 32
  · have q1 : decide ((l.length : Int) ≤ 32) = true := decide_eq_true (by omega)
    by_cases h0 : l.length = 0
    · have q2 : ((l.length : Int) == 0) = true := beq_iff_eq.2 (by omega)
      obtain rfl := List.eq_nil_of_length_eq_zero h0
      have HR := Lib.hid trimmed_nil
      clear h4 hl h0 h1 h2 h3
      go_enter Tryz.func152, Tryz.ntmps152
      go_wp2_with fail
      go_ret
      exact ⟨ret_bool (by rw [HR.out]), rfl⟩
    · have q2 : ((l.length : Int) == 0) = false := beq_eq_false_iff_ne.2 (by omega)
      have HR := Lib.hid (trimmed_last hl h0)
      obtain ⟨b, off, rfl, hb, g0⟩ := h4.at_ (k := l.length - 1) (by simp [U]; omega)
      have g1 : w.cell? ⟨b, off + (l.length - 1), none⟩ = some (.int .u32 ((l[l.length - 1]'(by omega) : Nat) : Int)) := by simpa [U] using g0
      have i0 : (0 : Int) ≤ (l.length : Int) - 1 := by omega
      have i1 : (l.length : Int) - 1 < (l.length : Int) := by omega
      have i2 : ((l.length : Int) - 1).toNat = l.length - 1 := by omega
      clear g0 h4 h3
      generalize l[l.length - 1]'(by omega) = x at *
      generalize Tr.trimmed l = R at *
      have q3 : ((x : Int) != 0) = !(x == 0) := by
        by_cases e : x = 0
        · subst e; rfl
        · have e1 : ((x : Int) != 0) = true := bne_iff_ne.2 (by omega)
          have e2 : (x == 0) = false := beq_eq_false_iff_ne.2 e
          rw [e1, e2]; rfl
      rw [← q3] at HR
      clear q3
      generalize l.length = n at *
      cases q4 : ((x : Int) != 0)
      all_goals
        rw [q4] at HR
        go_enter Tryz.func152, Tryz.ntmps152
        go_wp2_with fail
        go_ret
        exact ⟨ret_bool (by rw [HR.out]), rfl⟩
  · have q1 : decide ((l.length : Int) ≤ 32) = false := decide_eq_false (by omega)
    have HR := Lib.hid (trimmed_big hl)
    clear hl h4 h3
    generalize l.length = n at *
    go_enter Tryz.func152, Tryz.ntmps152
    go_wp2_with fail
    go_ret
    exact ⟨ret_bool (by rw [HR.out]), rfl⟩

theorem ratio_parts (n : Bool) (t b : List Nat) (d : List Nat) (hd : d = Nt.digs (Nat.gcd (Nt.val t) (Nt.val b))) : Tr.ratio ⟨n, t, b⟩ = (Tr.trimmed t && (Tr.trimmed b && (!b.isEmpty && (!(t.isEmpty && n) && ((b == [1]) || (d == [1])))))) := by
  subst hd
  unfold Tr.ratio Tr.isOne
  cases Tr.trimmed t <;> cases Tr.trimmed b <;> cases b.isEmpty <;> cases t.isEmpty <;> cases n <;> simp
theorem ratioRight_any (n : Bool) (A1 : Option Addr) (t : List Nat) (c1 : Nat) (A2 : Option Addr) (b : List Nat) (c2 : Nat) (w : World) (h1 : IsRes w (.slice A1 t.length c1) t) (h2 : IsRes w (.slice A2 b.length c2) b) (o1 : Nt.Ok t) (o2 : Nt.Ok b) :
    Calls Tryz.prog 101 #[.agg #[.bool n, .slice A1 t.length c1, .slice A2 b.length c2]] w fun e w' => e = .returned (.bool (Rt.right ⟨n, t, b⟩)) ∧ Below w.heap.size w w' := by
  have hrr := Tr.ratio_right (n := ⟨n, t, b⟩) o1 o2
  obtain ⟨d, hd⟩ : ∃ d, d = Nt.digs (Nat.gcd (Nt.val t) (Nt.val b)) := ⟨_, rfl⟩
  rw [ratio_parts n t b d hd] at hrr
  have HR := Lib.hid hrr
  obtain ⟨W, hW⟩ : ∃ W, W = w.alloc (.cells #[.bool n, .slice A1 t.length c1, .slice A2 b.length c2] 24) := ⟨_, rfl⟩
  have hWs : W.heap.size = w.heap.size + 1 := by rw [hW]; simp
  have hWb : Below w.heap.size w W := by rw [hW]; exact (Below.refl _ _).alloc (Nat.le_refl _) _
  have HQ : Hid (W.cell? ⟨w.heap.size, 0, none⟩ = some (.bool n) ∧ W.cell? ⟨w.heap.size, 1, none⟩ = some (.slice A1 t.length c1) ∧ W.cell? ⟨w.heap.size, 2, none⟩ = some (.slice A2 b.length c2)) := Lib.hid (by rw [hW]; exact ⟨by go_simp, by go_simp, by go_simp⟩)
  have HW := Lib.hid hW
  have hWl : w.heap.size < W.heap.size := by omega
  have r1 := h1.below hWb
  have r2 := h2.below hWb
  have T1 := Lib.hid (trimmed_any _ _ W r1)
  have T2 := Lib.hid (trimmed_any _ _ W r2)
  have I2 := Lib.hid (isOne_any _ _ W r2)
  have GC := fun (s1 : t.length ≤ 1000000) (s2 : b.length ≤ 1000000) => gcd_any A1 A2 c1 c2 t b W r1 r2 o1 o2 s1 s2
  rw [← hd] at GC
  replace GC := Lib.hid GC
  have ON := Lib.hid (fun v (wx : World) (h : IsRes wx v d) => isOne_any v d wx h)
  have TB : Hid (Tr.trimmed t = true → t.length ≤ 1000000) := Lib.hid (fun h => by have := ((Tr.trimmed_iff t).1 h).1; omega)
  have TB2 : Hid (Tr.trimmed b = true → b.length ≤ 1000000) := Lib.hid (fun h => by have := ((Tr.trimmed_iff b).1 h).1; omega)
  have HE : Hid (b.isEmpty = decide (b.length = 0)) := Lib.hid (by cases b <;> simp)
  have HE' : Hid (t.isEmpty = decide (t.length = 0)) := Lib.hid (by cases t <;> simp)
  clear hrr hd h1 h2 o1 o2 r1 r2
  generalize Rt.right ⟨n, t, b⟩ = R at *
  generalize Tr.trimmed t = X at *
  generalize Tr.trimmed b = Y at *
  generalize b.isEmpty = BE at *
  generalize t.isEmpty = TE at *
  generalize (b == [1]) = BO at *
  generalize (d == [1]) = DO at *
  obtain ⟨p0, p1, p2⟩ := HQ.out
  clear hW
  cases X
  · go_enter Tryz.func101, Tryz.ntmps101
    go_wp2_with fail
    rw [← HW.out]
    refine T1.out.mono ?_
    rintro e w' ⟨rfl, rfl⟩
    go_wp2_with fail
    go_ret
    exact ⟨ret_bool (by rw [← HR.out]; rfl), hWb⟩
  · cases Y
    · go_enter Tryz.func101, Tryz.ntmps101
      go_wp2_with fail
      rw [← HW.out]
      refine T1.out.mono ?_
      rintro e w' ⟨rfl, rfl⟩
      go_wp2_with fail
      refine T2.out.mono ?_
      rintro e w' ⟨rfl, rfl⟩
      go_wp2_with fail
      go_ret
      exact ⟨ret_bool (by rw [← HR.out]; rfl), hWb⟩
    · have s1 := TB.out rfl
      have s2 := TB2.out rfl
      have GC2 := Lib.hid (GC.out s1 s2)
      clear GC TB TB2
      generalize t.length = l1 at *
      generalize b.length = l2 at *
      by_cases z : l2 = 0
      · subst z
        have HE2 : Hid (BE = true) := Lib.hid (by rw [HE.out]; rfl)
        clear HE
        go_enter Tryz.func101, Tryz.ntmps101
        go_wp2_with fail
        rw [← HW.out]
        refine T1.out.mono ?_
        rintro e w' ⟨rfl, rfl⟩
        go_wp2_with fail
        refine T2.out.mono ?_
        rintro e w' ⟨rfl, rfl⟩
        go_wp2_with fail
        go_ret
        exact ⟨ret_bool (by rw [← HR.out, HE2.out]; simp), hWb⟩
      · have qb : ((l2 : Int) == 0) = false := beq_eq_false_iff_ne.2 (by omega)
        have HE2 : Hid (BE = false) := Lib.hid (by rw [HE.out]; exact decide_eq_false z)
        clear HE z
        have key : (TE && n) = true ∨ (TE && n) = false := by cases (TE && n) <;> simp
        by_cases z1 : l1 = 0
        · subst z1
          have HT2 : Hid (TE = true) := Lib.hid (by rw [HE'.out]; rfl)
          clear HE'
          cases n
          · cases BO
            · go_enter Tryz.func101, Tryz.ntmps101
              go_wp2_with fail
              rw [← HW.out]
              refine T1.out.mono ?_
              rintro e w' ⟨rfl, rfl⟩
              go_wp2_with fail
              refine T2.out.mono ?_
              rintro e w' ⟨rfl, rfl⟩
              go_wp2_with fail
              refine I2.out.mono ?_
              rintro e w' ⟨rfl, rfl⟩
              go_wp2_with fail
              refine GC2.out.mono ?_
              rintro e w2 ⟨v, rfl, hv, hb2⟩
              have O2 := Lib.hid (ON.out _ _ hv)
              clear hv p0 p1 p2
              go_wp2_with fail
              refine O2.out.mono ?_
              rintro e w3 ⟨rfl, rfl⟩
              go_wp2_with fail
              go_ret
              exact ⟨ret_bool (by rw [← HR.out, HE2.out, HT2.out]; simp), hWb.trans (hb2.mono (by omega))⟩
            · go_enter Tryz.func101, Tryz.ntmps101
              go_wp2_with fail
              rw [← HW.out]
              refine T1.out.mono ?_
              rintro e w' ⟨rfl, rfl⟩
              go_wp2_with fail
              refine T2.out.mono ?_
              rintro e w' ⟨rfl, rfl⟩
              go_wp2_with fail
              refine I2.out.mono ?_
              rintro e w' ⟨rfl, rfl⟩
              go_wp2_with fail
              go_ret
              exact ⟨ret_bool (by rw [← HR.out, HE2.out, HT2.out]; simp), hWb⟩
          · go_enter Tryz.func101, Tryz.ntmps101
            go_wp2_with fail
            rw [← HW.out]
            refine T1.out.mono ?_
            rintro e w' ⟨rfl, rfl⟩
            go_wp2_with fail
            refine T2.out.mono ?_
            rintro e w' ⟨rfl, rfl⟩
            go_wp2_with fail
            go_ret
            exact ⟨ret_bool (by rw [← HR.out, HT2.out]; simp), hWb⟩
        · have qt : ((l1 : Int) == 0) = false := beq_eq_false_iff_ne.2 (by omega)
          have HT2 : Hid (TE = false) := Lib.hid (by rw [HE'.out]; exact decide_eq_false z1)
          clear HE' z1
          cases BO
          · go_enter Tryz.func101, Tryz.ntmps101
            go_wp2_with fail
            rw [← HW.out]
            refine T1.out.mono ?_
            rintro e w' ⟨rfl, rfl⟩
            go_wp2_with fail
            refine T2.out.mono ?_
            rintro e w' ⟨rfl, rfl⟩
            go_wp2_with fail
            refine I2.out.mono ?_
            rintro e w' ⟨rfl, rfl⟩
            go_wp2_with fail
            refine GC2.out.mono ?_
            rintro e w2 ⟨v, rfl, hv, hb2⟩
            have O2 := Lib.hid (ON.out _ _ hv)
            clear hv p0 p1 p2
            go_wp2_with fail
            refine O2.out.mono ?_
            rintro e w3 ⟨rfl, rfl⟩
            go_wp2_with fail
            go_ret
            exact ⟨ret_bool (by rw [← HR.out, HE2.out, HT2.out]; simp), hWb.trans (hb2.mono (by omega))⟩
          · go_enter Tryz.func101, Tryz.ntmps101
            go_wp2_with fail
            rw [← HW.out]
            refine T1.out.mono ?_
            rintro e w' ⟨rfl, rfl⟩
            go_wp2_with fail
            refine T2.out.mono ?_
            rintro e w' ⟨rfl, rfl⟩
            go_wp2_with fail
            refine I2.out.mono ?_
            rintro e w' ⟨rfl, rfl⟩
            go_wp2_with fail
            go_ret
            exact ⟨ret_bool (by rw [← HR.out, HE2.out, HT2.out]; simp), hWb⟩
end Go.Proofs.YtceplkpjnebnfaaGreatDoor

/-
  The document's looks at a leaf, and at an expression but for its parts. (Printed by wip/bin/gen_tree10.py.)
-/
namespace Go.Proofs.YtceplkpjnebnfaaGreatDoor
open Go.RowKit Tr
set_option maxHeartbeats 80000000
set_option maxRecDepth 100000
set_option linter.unusedVariables false

theorem own_res1 {w : World} {k o : Int} {m : List UInt8} {n : Rt.Nm} {t : List Int} {len : Nat} {A1 A2 A3 A4 : Option Addr} {c1 c2 c3 c4 : Nat} (h : Own w w.heap.size k o m n t len A1 A2 A3 A4 c1 c2 c3 c4) : IsRes w (.slice A1 n.top.length c1) n.top :=
  ⟨A1, c1, rfl, h.f1.1, h.f1.2.2, h.n1, h.l1⟩
theorem own_res2 {w : World} {k o : Int} {m : List UInt8} {n : Rt.Nm} {t : List Int} {len : Nat} {A1 A2 A3 A4 : Option Addr} {c1 c2 c3 c4 : Nat} (h : Own w w.heap.size k o m n t len A1 A2 A3 A4 c1 c2 c3 c4) : IsRes w (.slice A2 n.bot.length c2) n.bot :=
  ⟨A2, c2, rfl, h.f2.1, h.f2.2.2, h.n2, h.l2⟩
theorem tload_rowG {P : Program} {ops : Array Oper} {rest : List Oper} {o : Oper} {a : Act} {w : World} {Q : Exit → Act → World → Prop} (hw : Region.wanted o (yielded ops a.tmps) = true) (ty : TypeId) (x : Operand) (ho : o.op = .load ty x)
    (g : Nat) (hx : a.eval x = .pointer (some ⟨g, 0, none⟩)) (t : TypeId) (cs : Array Value) (fr : Nat × Nat) (d : TypeDesc) (hg : w.heap[g]? = some (.cells cs t fr))
    (hu : P.underlying ty = some d) (hd : (match d with | .struct _ | .array _ _ => true | _ => false) = true) (hi : (P.info? ty).map (·.size) = some cs.size)
    (h : wpList P ops Q rest (a.put o.dst (.agg cs)) w) : wpList P ops Q (o :: rest) a w :=
  BigFrame.wpList_want hw fun _ hK => wp_load_row ty x ho g hx t cs fr d hg hu hd hi (hK _ _ h)
theorem funs_cls (c : Int) : Tk.funs.contains c = (Tk.cls c == 4) := by
  rw [Bool.eq_iff_iff, List.contains_iff_mem, beq_iff_eq]
  constructor
  · intro h; exact (show ∀ x ∈ Tk.funs, Tk.cls x = 4 by decide) c h
  · intro h
    unfold Tk.cls at h
    split at h
    · cases h
    · split at h
      · cases h
      · split at h
        · cases h
        · split at h
          · assumption
          · split at h
            · cases h
            · split at h <;> cases h
theorem glyph21_any (c : Int) (w : World) : Calls Tryz.prog 150 #[.int .i64 c] w (BoolOut w (glyph c)) := by
  have HE : Hid (glyph c = (Tk.funs.contains c || heads.contains c)) := Lib.hid (by rw [funs_cls]; rfl)
  have FU := Lib.hid (refFunctions_any w)
  generalize glyph c = R at *
  have I1 := Lib.hid (fun (A : Option Addr) (w1 : World) (h : Lies w1 w1.heap.size A (I64 Tk.funs)) => refInC_any A 39 Tk.funs c w1 h (by decide))
  have I2 := Lib.hid (fun (w1 : World) => refInC_any (some ⟨w1.heap.size, 0, none⟩) 4 heads c (w1.alloc (.cells #[.int .i64 47, .int .i64 9023, .int .i64 92, .int .i64 9024] 3)) (.inr ⟨w1.heap.size, 0, rfl, by simp, fun j v hv => by
    rw [Nat.zero_add, cell_of_row _ w1.heap.size j _ _ _ (heap_alloc_new w1 _), List.getElem?_toArray]; exact hv⟩) (by decide))
  generalize Tk.funs.contains c = x at *
  generalize heads.contains c = y at *
  cases x
  · go_enter Tryz.func150, Tryz.ntmps150
    go_wp2_with fail
    refine FU.out.mono ?_
    rintro e w1 ⟨A, rfl, hA, hb1⟩
    have J1 := Lib.hid (I1.out A w1 hA)
    go_wp2_with fail
    refine J1.out.mono ?_
    rintro e w2 ⟨rfl, rfl⟩
    go_wp2_with fail
    refine (I2.out w1).mono ?_
    rintro e w2 ⟨rfl, rfl⟩
    go_wp2_with fail
    go_ret
    exact ⟨ret_bool (by rw [HE.out]; rfl), hb1.alloc hb1.size _⟩
  · go_enter Tryz.func150, Tryz.ntmps150
    go_wp2_with fail
    refine FU.out.mono ?_
    rintro e w1 ⟨A, rfl, hA, hb1⟩
    have J1 := Lib.hid (I1.out A w1 hA)
    go_wp2_with fail
    refine J1.out.mono ?_
    rintro e w2 ⟨rfl, rfl⟩
    go_wp2_with fail
    go_ret
    exact ⟨ret_bool (by rw [HE.out]; rfl), hb1⟩
theorem leaf21_any (a : Tree) (vs : List Value) (w : World) (B : Nat) (h : IsTree w B a vs) (hB : B ≤ w.heap.size) :
    Calls Tryz.prog 96 #[.agg vs.toArray] w (BoolOut w (leafR (kind a) (op a) (name a) (num a) (text a) ((kids a).map kind))) := by
  have hal := tree_infoA h
  have FD0 := fields21_any a vs
  have h' := h
  obtain ⟨k, o, m, nm, t, l⟩ := a
  show Calls _ _ _ _ (BoolOut w (leafR k o m nm t (l.map kind)))
  obtain ⟨W0, hW⟩ : ∃ W, W = w.alloc (.cells vs.toArray 28) := ⟨_, rfl⟩
  obtain ⟨A1, A2, A3, A4, c1, c2, c3, c4, us, HO, HL, HC, hW8, HG, hWl, hWb⟩ := tree_box h hW
  have hf3 := HO.out.f3.le (by omega)
  have hf4 := HO.out.f4.le (by omega)
  have hms := HO.out.ms
  have hfi : fields o m nm t ≤ 15 ∧ 0 ≤ fields o m nm t := by
    unfold fields
    constructor <;> split <;> split <;> split <;> split <;> omega
  have HW := Lib.hid hW
  have HIA := Lib.hid hal
  have hkb : ∀ wx, Below W0.heap.size W0 wx → IsTree wx B (.mk k o m nm t l) vs ∧ B ≤ wx.heap.size := fun wx hx => ⟨h'.below ((hWb.trans (hx.mono (by omega))).mono hB), by have := hx.size; omega⟩
  have FD := Lib.hid (FD0 W0 B (hkb W0 (Below.refl _ _)).1 (hkb W0 (Below.refl _ _)).2)
  replace FD : Hid (Calls Tryz.prog 90 #[.agg vs.toArray] W0 (IntOut W0 (fields o m nm t))) := FD
  have HGB : Hid (∀ wx, Below W0.heap.size W0 wx → wx.heap[w.heap.size]? = some (.cells vs.toArray 28 (0, 0))) := Lib.hid (fun wx hx => (hx.block _ hWl).trans HG.out)
  have H8 : Hid (∀ wx, Below W0.heap.size W0 wx → At8 wx w.heap.size 0 k o m nm t l.length A1 A2 A3 A4 c1 c2 c3 c4) := Lib.hid (fun wx hx => hW8.keep (fun q => hx.cell (p := ⟨w.heap.size, q, none⟩) hWl))
  have HWB := Lib.hid hWb
  have HWS : Hid (w.heap.size ≤ W0.heap.size) := Lib.hid (by omega)
  have RR : Hid (∀ wx, Below W0.heap.size W0 wx → Calls Tryz.prog 148 #[.agg #[.bool nm.neg, .slice A1 nm.top.length c1, .slice A2 nm.bot.length c2]] wx (BoolOut wx (Rt.right nm))) := Lib.hid (fun wx hx => rright_any nm.neg A1 nm.top c1 A2 nm.bot c2 wx (own_res1 (HO.out.keep (fun p hp => by rw [hx.cell (by omega), hWb.cell (by omega)]) (Nat.le_trans hB (by have := hx.size; omega)))) (own_res2 (HO.out.keep (fun p hp => by rw [hx.cell (by omega), hWb.cell (by omega)]) (Nat.le_trans hB (by have := hx.size; omega)))) HO.out.o1 HO.out.o2)
  have NMf := Lib.hid (fun wx => name21_any m false wx hms)
  have NMt := Lib.hid (fun wx => name21_any m true wx hms)
  have PT := Lib.hid (fun wx => port21_any o wx)
  have GL := Lib.hid (fun wx => glyph21_any o wx)
  have CHx : Hid (∀ wx, Below W0.heap.size W0 wx → Calls Tryz.prog 149 #[.slice A3 t.length c3] wx (Pure wx (t.all Gl.may))) := Lib.hid (fun wx hx => chars21_any A3 c3 t wx B (HO.out.l3.keep (fun p hp => by rw [hx.cell (by omega), hWb.cell (by omega)])) (by have := HO.out.f3.2.1; omega))
  generalize hf : fields o m nm t = f at *
  obtain ⟨R, hR⟩ : ∃ R, R = leafR k o m nm t (l.map kind) := ⟨_, rfl⟩
  rw [← hR]
  have HRR : Hid (R = leafR k o m nm t (l.map kind)) := Lib.hid hR
  have HFF : Hid (fields o m nm t = f) := Lib.hid hf
  clear hR hf hW hW8 HO HG hWb h h' hal FD0 hkb HC HL
  obtain ⟨g, hg⟩ : ∃ g, g = w.heap.size := ⟨_, rfl⟩
  rw [← hg] at HGB H8 HWB HWS hWl
  have HGG := Lib.hid hg
  by_cases hl : l.length = 0
  · have hl2 : l.map kind = [] := by rw [List.eq_nil_of_length_eq_zero hl]; rfl
    have ql : ¬ (0 : Int) < (l.length : Int) := by omega
    have HRL : Hid (R = leafR k o m nm t []) := Lib.hid (by rw [HRR.out, hl2])
    clear HRR hl2 hl
    go_enter Tryz.func96, Tryz.ntmps96
    go_upto_region 1 with fail
    rw [← HW.out]
    rw [← hg]
    clear hg
    go_wp2_with (with_reducible refine wpList_load_row rfl 28 (.tmp 1) rfl g rfl 28 vs.toArray (0, 0) _ (HGB.out _ (Below.refl _ _)) Tryz.underlying28 rfl HIA.out ?_)
    refine FD.out.mono ?_
    rintro e w2 ⟨rfl, hb2⟩
    have q0 := (H8.out w2 hb2).p0
    have q1 := (H8.out w2 hb2).p1
    have q2 := (H8.out w2 hb2).p2
    have q3 := (H8.out w2 hb2).p3
    have q4 := (H8.out w2 hb2).p4
    have q5 := (H8.out w2 hb2).p5
    have q6 := (H8.out w2 hb2).p6
    have q7 := (H8.out w2 hb2).p7
    go_upto_region 4 with fail
    generalize hrt : Rt.right nm = rt at *
    generalize hnf : named m false = nf at *
    generalize hnt : named m true = nt at *
    generalize hpt : port o = pt at *
    generalize hgl : glyph o = gl at *
    generalize hch : t.all Gl.may = ch at *
    have HDEF : Hid (R = (if k = 1 then ((f == 4) || (f == 0)) && rt
      else if k = 2 then ((f == 8) || (f == 0)) && decide (t.length ≤ 2048) && ch
      else if k = 3 then (f == 2) && nf
      else if k = 4 ∨ k = 5 ∨ k = 10 ∨ k = 19 then f == 0
      else if k = 6 ∨ k = 7 then ((f == 0) || (f == 1)) && pt
      else if k = 17 then (f == 1) && gl
      else if k = 18 then (f == 2) && nt
      else if k = 21 then ((f == 0) || (f == 1)) && ((o == 0) || (o == 1))
      else false)) := Lib.hid (by rw [HRL.out, leafR, if_pos rfl, HFF.out, hrt, hnf, hnt, hpt, hgl, hch])
    clear HRL HFF hrt hnf hnt hpt hgl hch
    by_cases k1 : k = 1
    · subst k1
      have HOP : Hid (R = (((f == 4) || (f == 0)) && rt)) := Lib.hid HDEF.out
      clear HDEF
      cases qf : (f == 4)
      · cases qg : (f == 0)
        · have HZ : Hid (R = false) := Lib.hid (by rw [HOP.out]; simp [qf, qg])
          go_wp2_with fail
          go_ret
          exact ⟨ret_bool (by rw [HZ.out]), by rw [← HGG.out]; exact HWB.out.trans (hb2.mono HWS.out)⟩
        · cases rt
          · have HZ : Hid (R = false) := Lib.hid (by rw [HOP.out]; simp [qf, qg])
            go_wp2_with fail
            refine (RR.out w2 hb2).mono ?_
            rintro e w3 ⟨rfl, hb3'⟩
            have hb3 := hb2.trans (hb3'.mono hb2.size)
            have r0 := (H8.out w3 hb3).p0
            have r1 := (H8.out w3 hb3).p1
            have r2 := (H8.out w3 hb3).p2
            have r3 := (H8.out w3 hb3).p3
            have r4 := (H8.out w3 hb3).p4
            have r5 := (H8.out w3 hb3).p5
            have r6 := (H8.out w3 hb3).p6
            have r7 := (H8.out w3 hb3).p7
            clear q0 q1 q2 q3 q4 q5 q6 q7
            have q0 := r0
            have q1 := r1
            have q2 := r2
            have q3 := r3
            have q4 := r4
            have q5 := r5
            have q6 := r6
            have q7 := r7
            clear r0 r1 r2 r3 r4 r5 r6 r7
            go_wp2_with fail
            go_ret
            exact ⟨ret_bool (by rw [HZ.out]), by rw [← HGG.out]; exact HWB.out.trans (hb3.mono HWS.out)⟩
          · have HZ : Hid (R = true) := Lib.hid (by rw [HOP.out]; simp [qf, qg])
            go_wp2_with fail
            refine (RR.out w2 hb2).mono ?_
            rintro e w3 ⟨rfl, hb3'⟩
            have hb3 := hb2.trans (hb3'.mono hb2.size)
            have r0 := (H8.out w3 hb3).p0
            have r1 := (H8.out w3 hb3).p1
            have r2 := (H8.out w3 hb3).p2
            have r3 := (H8.out w3 hb3).p3
            have r4 := (H8.out w3 hb3).p4
            have r5 := (H8.out w3 hb3).p5
            have r6 := (H8.out w3 hb3).p6
            have r7 := (H8.out w3 hb3).p7
            clear q0 q1 q2 q3 q4 q5 q6 q7
            have q0 := r0
            have q1 := r1
            have q2 := r2
            have q3 := r3
            have q4 := r4
            have q5 := r5
            have q6 := r6
            have q7 := r7
            clear r0 r1 r2 r3 r4 r5 r6 r7
            go_wp2_with fail
            go_ret
            exact ⟨ret_bool (by rw [HZ.out]), by rw [← HGG.out]; exact HWB.out.trans (hb3.mono HWS.out)⟩
      · cases rt
        · have HZ : Hid (R = false) := Lib.hid (by rw [HOP.out]; simp [qf])
          go_wp2_with fail
          refine (RR.out w2 hb2).mono ?_
          rintro e w3 ⟨rfl, hb3'⟩
          have hb3 := hb2.trans (hb3'.mono hb2.size)
          have r0 := (H8.out w3 hb3).p0
          have r1 := (H8.out w3 hb3).p1
          have r2 := (H8.out w3 hb3).p2
          have r3 := (H8.out w3 hb3).p3
          have r4 := (H8.out w3 hb3).p4
          have r5 := (H8.out w3 hb3).p5
          have r6 := (H8.out w3 hb3).p6
          have r7 := (H8.out w3 hb3).p7
          clear q0 q1 q2 q3 q4 q5 q6 q7
          have q0 := r0
          have q1 := r1
          have q2 := r2
          have q3 := r3
          have q4 := r4
          have q5 := r5
          have q6 := r6
          have q7 := r7
          clear r0 r1 r2 r3 r4 r5 r6 r7
          go_wp2_with fail
          go_ret
          exact ⟨ret_bool (by rw [HZ.out]), by rw [← HGG.out]; exact HWB.out.trans (hb3.mono HWS.out)⟩
        · have HZ : Hid (R = true) := Lib.hid (by rw [HOP.out]; simp [qf])
          go_wp2_with fail
          refine (RR.out w2 hb2).mono ?_
          rintro e w3 ⟨rfl, hb3'⟩
          have hb3 := hb2.trans (hb3'.mono hb2.size)
          have r0 := (H8.out w3 hb3).p0
          have r1 := (H8.out w3 hb3).p1
          have r2 := (H8.out w3 hb3).p2
          have r3 := (H8.out w3 hb3).p3
          have r4 := (H8.out w3 hb3).p4
          have r5 := (H8.out w3 hb3).p5
          have r6 := (H8.out w3 hb3).p6
          have r7 := (H8.out w3 hb3).p7
          clear q0 q1 q2 q3 q4 q5 q6 q7
          have q0 := r0
          have q1 := r1
          have q2 := r2
          have q3 := r3
          have q4 := r4
          have q5 := r5
          have q6 := r6
          have q7 := r7
          clear r0 r1 r2 r3 r4 r5 r6 r7
          go_wp2_with fail
          go_ret
          exact ⟨ret_bool (by rw [HZ.out]), by rw [← HGG.out]; exact HWB.out.trans (hb3.mono HWS.out)⟩
    by_cases k2 : k = 2
    · subst k2
      have HOP : Hid (R = (((f == 8) || (f == 0)) && decide (t.length ≤ 2048) && ch)) := Lib.hid HDEF.out
      clear HDEF
      cases qf : (f == 8)
      · cases qg : (f == 0)
        · have HZ : Hid (R = false) := Lib.hid (by rw [HOP.out]; simp [qf, qg])
          go_wp2_with fail
          go_ret
          exact ⟨ret_bool (by rw [HZ.out]), by rw [← HGG.out]; exact HWB.out.trans (hb2.mono HWS.out)⟩
        · by_cases hlen : t.length ≤ 2048
          · have qlen : (t.length : Int) ≤ 2048 := by omega
            cases ch
            · have HZ : Hid (R = false) := Lib.hid (by rw [HOP.out]; simp [qf, qg, hlen])
              go_wp2_with fail
              refine (CHx.out w2 hb2).mono ?_
              rintro e w3 ⟨rfl, rfl⟩
              go_wp2_with fail
              go_ret
              exact ⟨ret_bool (by rw [HZ.out]), by rw [← HGG.out]; exact HWB.out.trans (hb2.mono HWS.out)⟩
            · have HZ : Hid (R = true) := Lib.hid (by rw [HOP.out]; simp [qf, qg, hlen])
              go_wp2_with fail
              refine (CHx.out w2 hb2).mono ?_
              rintro e w3 ⟨rfl, rfl⟩
              go_wp2_with fail
              go_ret
              exact ⟨ret_bool (by rw [HZ.out]), by rw [← HGG.out]; exact HWB.out.trans (hb2.mono HWS.out)⟩
          · have qlen : ¬ (t.length : Int) ≤ 2048 := by omega
            have HZ : Hid (R = false) := Lib.hid (by rw [HOP.out]; simp [qf, qg, hlen])
            go_wp2_with fail
            go_ret
            exact ⟨ret_bool (by rw [HZ.out]), by rw [← HGG.out]; exact HWB.out.trans (hb2.mono HWS.out)⟩
      · by_cases hlen : t.length ≤ 2048
        · have qlen : (t.length : Int) ≤ 2048 := by omega
          cases ch
          · have HZ : Hid (R = false) := Lib.hid (by rw [HOP.out]; simp [qf, hlen])
            go_wp2_with fail
            refine (CHx.out w2 hb2).mono ?_
            rintro e w3 ⟨rfl, rfl⟩
            go_wp2_with fail
            go_ret
            exact ⟨ret_bool (by rw [HZ.out]), by rw [← HGG.out]; exact HWB.out.trans (hb2.mono HWS.out)⟩
          · have HZ : Hid (R = true) := Lib.hid (by rw [HOP.out]; simp [qf, hlen])
            go_wp2_with fail
            refine (CHx.out w2 hb2).mono ?_
            rintro e w3 ⟨rfl, rfl⟩
            go_wp2_with fail
            go_ret
            exact ⟨ret_bool (by rw [HZ.out]), by rw [← HGG.out]; exact HWB.out.trans (hb2.mono HWS.out)⟩
        · have qlen : ¬ (t.length : Int) ≤ 2048 := by omega
          have HZ : Hid (R = false) := Lib.hid (by rw [HOP.out]; simp [qf, hlen])
          go_wp2_with fail
          go_ret
          exact ⟨ret_bool (by rw [HZ.out]), by rw [← HGG.out]; exact HWB.out.trans (hb2.mono HWS.out)⟩
    by_cases k3 : k = 3
    · subst k3
      have HOP : Hid (R = ((f == 2) && nf)) := Lib.hid HDEF.out
      clear HDEF
      cases qf : (f == 2)
      · have HZ : Hid (R = false) := Lib.hid (by rw [HOP.out]; simp [qf])
        go_wp2_with fail
        go_ret
        exact ⟨ret_bool (by rw [HZ.out]), by rw [← HGG.out]; exact HWB.out.trans (hb2.mono HWS.out)⟩
      · cases nf
        · have HZ : Hid (R = false) := Lib.hid (by rw [HOP.out]; simp [qf])
          go_wp2_with fail
          refine (NMf.out w2).mono ?_
          rintro e w3 ⟨rfl, hb3'⟩
          have hb3 := hb2.trans (hb3'.mono hb2.size)
          have r0 := (H8.out w3 hb3).p0
          have r1 := (H8.out w3 hb3).p1
          have r2 := (H8.out w3 hb3).p2
          have r3 := (H8.out w3 hb3).p3
          have r4 := (H8.out w3 hb3).p4
          have r5 := (H8.out w3 hb3).p5
          have r6 := (H8.out w3 hb3).p6
          have r7 := (H8.out w3 hb3).p7
          clear q0 q1 q2 q3 q4 q5 q6 q7
          have q0 := r0
          have q1 := r1
          have q2 := r2
          have q3 := r3
          have q4 := r4
          have q5 := r5
          have q6 := r6
          have q7 := r7
          clear r0 r1 r2 r3 r4 r5 r6 r7
          go_wp2_with fail
          go_ret
          exact ⟨ret_bool (by rw [HZ.out]), by rw [← HGG.out]; exact HWB.out.trans (hb3.mono HWS.out)⟩
        · have HZ : Hid (R = true) := Lib.hid (by rw [HOP.out]; simp [qf])
          go_wp2_with fail
          refine (NMf.out w2).mono ?_
          rintro e w3 ⟨rfl, hb3'⟩
          have hb3 := hb2.trans (hb3'.mono hb2.size)
          have r0 := (H8.out w3 hb3).p0
          have r1 := (H8.out w3 hb3).p1
          have r2 := (H8.out w3 hb3).p2
          have r3 := (H8.out w3 hb3).p3
          have r4 := (H8.out w3 hb3).p4
          have r5 := (H8.out w3 hb3).p5
          have r6 := (H8.out w3 hb3).p6
          have r7 := (H8.out w3 hb3).p7
          clear q0 q1 q2 q3 q4 q5 q6 q7
          have q0 := r0
          have q1 := r1
          have q2 := r2
          have q3 := r3
          have q4 := r4
          have q5 := r5
          have q6 := r6
          have q7 := r7
          clear r0 r1 r2 r3 r4 r5 r6 r7
          go_wp2_with fail
          go_ret
          exact ⟨ret_bool (by rw [HZ.out]), by rw [← HGG.out]; exact HWB.out.trans (hb3.mono HWS.out)⟩
    by_cases k4 : k = 4
    · subst k4
      have HOP : Hid (R = (f == 0)) := Lib.hid HDEF.out
      clear HDEF
      cases qf : (f == 0)
      · have HZ : Hid (R = false) := Lib.hid (by rw [HOP.out]; simp [qf])
        go_wp2_with fail
        go_ret
        exact ⟨ret_bool (by rw [HZ.out]), by rw [← HGG.out]; exact HWB.out.trans (hb2.mono HWS.out)⟩
      · have HZ : Hid (R = true) := Lib.hid (by rw [HOP.out]; simp [qf])
        go_wp2_with fail
        go_ret
        exact ⟨ret_bool (by rw [HZ.out]), by rw [← HGG.out]; exact HWB.out.trans (hb2.mono HWS.out)⟩
    by_cases k5 : k = 5
    · subst k5
      have HOP : Hid (R = (f == 0)) := Lib.hid HDEF.out
      clear HDEF
      cases qf : (f == 0)
      · have HZ : Hid (R = false) := Lib.hid (by rw [HOP.out]; simp [qf])
        go_wp2_with fail
        go_ret
        exact ⟨ret_bool (by rw [HZ.out]), by rw [← HGG.out]; exact HWB.out.trans (hb2.mono HWS.out)⟩
      · have HZ : Hid (R = true) := Lib.hid (by rw [HOP.out]; simp [qf])
        go_wp2_with fail
        go_ret
        exact ⟨ret_bool (by rw [HZ.out]), by rw [← HGG.out]; exact HWB.out.trans (hb2.mono HWS.out)⟩
    by_cases k10 : k = 10
    · subst k10
      have HOP : Hid (R = (f == 0)) := Lib.hid HDEF.out
      clear HDEF
      cases qf : (f == 0)
      · have HZ : Hid (R = false) := Lib.hid (by rw [HOP.out]; simp [qf])
        go_wp2_with fail
        go_ret
        exact ⟨ret_bool (by rw [HZ.out]), by rw [← HGG.out]; exact HWB.out.trans (hb2.mono HWS.out)⟩
      · have HZ : Hid (R = true) := Lib.hid (by rw [HOP.out]; simp [qf])
        go_wp2_with fail
        go_ret
        exact ⟨ret_bool (by rw [HZ.out]), by rw [← HGG.out]; exact HWB.out.trans (hb2.mono HWS.out)⟩
    by_cases k19 : k = 19
    · subst k19
      have HOP : Hid (R = (f == 0)) := Lib.hid HDEF.out
      clear HDEF
      cases qf : (f == 0)
      · have HZ : Hid (R = false) := Lib.hid (by rw [HOP.out]; simp [qf])
        go_wp2_with fail
        go_ret
        exact ⟨ret_bool (by rw [HZ.out]), by rw [← HGG.out]; exact HWB.out.trans (hb2.mono HWS.out)⟩
      · have HZ : Hid (R = true) := Lib.hid (by rw [HOP.out]; simp [qf])
        go_wp2_with fail
        go_ret
        exact ⟨ret_bool (by rw [HZ.out]), by rw [← HGG.out]; exact HWB.out.trans (hb2.mono HWS.out)⟩
    by_cases k6 : k = 6
    · subst k6
      have HOP : Hid (R = (((f == 0) || (f == 1)) && pt)) := Lib.hid HDEF.out
      clear HDEF
      cases qf : (f == 0)
      · cases qg : (f == 1)
        · have HZ : Hid (R = false) := Lib.hid (by rw [HOP.out]; simp [qf, qg])
          go_wp2_with fail
          go_ret
          exact ⟨ret_bool (by rw [HZ.out]), by rw [← HGG.out]; exact HWB.out.trans (hb2.mono HWS.out)⟩
        · cases pt
          · have HZ : Hid (R = false) := Lib.hid (by rw [HOP.out]; simp [qf, qg])
            go_wp2_with fail
            refine (PT.out w2).mono ?_
            rintro e w3 ⟨rfl, rfl⟩
            go_wp2_with fail
            go_ret
            exact ⟨ret_bool (by rw [HZ.out]), by rw [← HGG.out]; exact HWB.out.trans (hb2.mono HWS.out)⟩
          · have HZ : Hid (R = true) := Lib.hid (by rw [HOP.out]; simp [qf, qg])
            go_wp2_with fail
            refine (PT.out w2).mono ?_
            rintro e w3 ⟨rfl, rfl⟩
            go_wp2_with fail
            go_ret
            exact ⟨ret_bool (by rw [HZ.out]), by rw [← HGG.out]; exact HWB.out.trans (hb2.mono HWS.out)⟩
      · cases pt
        · have HZ : Hid (R = false) := Lib.hid (by rw [HOP.out]; simp [qf])
          go_wp2_with fail
          refine (PT.out w2).mono ?_
          rintro e w3 ⟨rfl, rfl⟩
          go_wp2_with fail
          go_ret
          exact ⟨ret_bool (by rw [HZ.out]), by rw [← HGG.out]; exact HWB.out.trans (hb2.mono HWS.out)⟩
        · have HZ : Hid (R = true) := Lib.hid (by rw [HOP.out]; simp [qf])
          go_wp2_with fail
          refine (PT.out w2).mono ?_
          rintro e w3 ⟨rfl, rfl⟩
          go_wp2_with fail
          go_ret
          exact ⟨ret_bool (by rw [HZ.out]), by rw [← HGG.out]; exact HWB.out.trans (hb2.mono HWS.out)⟩
    by_cases k7 : k = 7
    · subst k7
      have HOP : Hid (R = (((f == 0) || (f == 1)) && pt)) := Lib.hid HDEF.out
      clear HDEF
      cases qf : (f == 0)
      · cases qg : (f == 1)
        · have HZ : Hid (R = false) := Lib.hid (by rw [HOP.out]; simp [qf, qg])
          go_wp2_with fail
          go_ret
          exact ⟨ret_bool (by rw [HZ.out]), by rw [← HGG.out]; exact HWB.out.trans (hb2.mono HWS.out)⟩
        · cases pt
          · have HZ : Hid (R = false) := Lib.hid (by rw [HOP.out]; simp [qf, qg])
            go_wp2_with fail
            refine (PT.out w2).mono ?_
            rintro e w3 ⟨rfl, rfl⟩
            go_wp2_with fail
            go_ret
            exact ⟨ret_bool (by rw [HZ.out]), by rw [← HGG.out]; exact HWB.out.trans (hb2.mono HWS.out)⟩
          · have HZ : Hid (R = true) := Lib.hid (by rw [HOP.out]; simp [qf, qg])
            go_wp2_with fail
            refine (PT.out w2).mono ?_
            rintro e w3 ⟨rfl, rfl⟩
            go_wp2_with fail
            go_ret
            exact ⟨ret_bool (by rw [HZ.out]), by rw [← HGG.out]; exact HWB.out.trans (hb2.mono HWS.out)⟩
      · cases pt
        · have HZ : Hid (R = false) := Lib.hid (by rw [HOP.out]; simp [qf])
          go_wp2_with fail
          refine (PT.out w2).mono ?_
          rintro e w3 ⟨rfl, rfl⟩
          go_wp2_with fail
          go_ret
          exact ⟨ret_bool (by rw [HZ.out]), by rw [← HGG.out]; exact HWB.out.trans (hb2.mono HWS.out)⟩
        · have HZ : Hid (R = true) := Lib.hid (by rw [HOP.out]; simp [qf])
          go_wp2_with fail
          refine (PT.out w2).mono ?_
          rintro e w3 ⟨rfl, rfl⟩
          go_wp2_with fail
          go_ret
          exact ⟨ret_bool (by rw [HZ.out]), by rw [← HGG.out]; exact HWB.out.trans (hb2.mono HWS.out)⟩
    by_cases k17 : k = 17
    · subst k17
      have HOP : Hid (R = ((f == 1) && gl)) := Lib.hid HDEF.out
      clear HDEF
      cases qf : (f == 1)
      · have HZ : Hid (R = false) := Lib.hid (by rw [HOP.out]; simp [qf])
        go_wp2_with fail
        go_ret
        exact ⟨ret_bool (by rw [HZ.out]), by rw [← HGG.out]; exact HWB.out.trans (hb2.mono HWS.out)⟩
      · cases gl
        · have HZ : Hid (R = false) := Lib.hid (by rw [HOP.out]; simp [qf])
          go_wp2_with fail
          refine (GL.out w2).mono ?_
          rintro e w3 ⟨rfl, hb3'⟩
          have hb3 := hb2.trans (hb3'.mono hb2.size)
          have r0 := (H8.out w3 hb3).p0
          have r1 := (H8.out w3 hb3).p1
          have r2 := (H8.out w3 hb3).p2
          have r3 := (H8.out w3 hb3).p3
          have r4 := (H8.out w3 hb3).p4
          have r5 := (H8.out w3 hb3).p5
          have r6 := (H8.out w3 hb3).p6
          have r7 := (H8.out w3 hb3).p7
          clear q0 q1 q2 q3 q4 q5 q6 q7
          have q0 := r0
          have q1 := r1
          have q2 := r2
          have q3 := r3
          have q4 := r4
          have q5 := r5
          have q6 := r6
          have q7 := r7
          clear r0 r1 r2 r3 r4 r5 r6 r7
          go_wp2_with fail
          go_ret
          exact ⟨ret_bool (by rw [HZ.out]), by rw [← HGG.out]; exact HWB.out.trans (hb3.mono HWS.out)⟩
        · have HZ : Hid (R = true) := Lib.hid (by rw [HOP.out]; simp [qf])
          go_wp2_with fail
          refine (GL.out w2).mono ?_
          rintro e w3 ⟨rfl, hb3'⟩
          have hb3 := hb2.trans (hb3'.mono hb2.size)
          have r0 := (H8.out w3 hb3).p0
          have r1 := (H8.out w3 hb3).p1
          have r2 := (H8.out w3 hb3).p2
          have r3 := (H8.out w3 hb3).p3
          have r4 := (H8.out w3 hb3).p4
          have r5 := (H8.out w3 hb3).p5
          have r6 := (H8.out w3 hb3).p6
          have r7 := (H8.out w3 hb3).p7
          clear q0 q1 q2 q3 q4 q5 q6 q7
          have q0 := r0
          have q1 := r1
          have q2 := r2
          have q3 := r3
          have q4 := r4
          have q5 := r5
          have q6 := r6
          have q7 := r7
          clear r0 r1 r2 r3 r4 r5 r6 r7
          go_wp2_with fail
          go_ret
          exact ⟨ret_bool (by rw [HZ.out]), by rw [← HGG.out]; exact HWB.out.trans (hb3.mono HWS.out)⟩
    by_cases k18 : k = 18
    · subst k18
      have HOP : Hid (R = ((f == 2) && nt)) := Lib.hid HDEF.out
      clear HDEF
      cases qf : (f == 2)
      · have HZ : Hid (R = false) := Lib.hid (by rw [HOP.out]; simp [qf])
        go_wp2_with fail
        go_ret
        exact ⟨ret_bool (by rw [HZ.out]), by rw [← HGG.out]; exact HWB.out.trans (hb2.mono HWS.out)⟩
      · cases nt
        · have HZ : Hid (R = false) := Lib.hid (by rw [HOP.out]; simp [qf])
          go_wp2_with fail
          refine (NMt.out w2).mono ?_
          rintro e w3 ⟨rfl, hb3'⟩
          have hb3 := hb2.trans (hb3'.mono hb2.size)
          have r0 := (H8.out w3 hb3).p0
          have r1 := (H8.out w3 hb3).p1
          have r2 := (H8.out w3 hb3).p2
          have r3 := (H8.out w3 hb3).p3
          have r4 := (H8.out w3 hb3).p4
          have r5 := (H8.out w3 hb3).p5
          have r6 := (H8.out w3 hb3).p6
          have r7 := (H8.out w3 hb3).p7
          clear q0 q1 q2 q3 q4 q5 q6 q7
          have q0 := r0
          have q1 := r1
          have q2 := r2
          have q3 := r3
          have q4 := r4
          have q5 := r5
          have q6 := r6
          have q7 := r7
          clear r0 r1 r2 r3 r4 r5 r6 r7
          go_wp2_with fail
          go_ret
          exact ⟨ret_bool (by rw [HZ.out]), by rw [← HGG.out]; exact HWB.out.trans (hb3.mono HWS.out)⟩
        · have HZ : Hid (R = true) := Lib.hid (by rw [HOP.out]; simp [qf])
          go_wp2_with fail
          refine (NMt.out w2).mono ?_
          rintro e w3 ⟨rfl, hb3'⟩
          have hb3 := hb2.trans (hb3'.mono hb2.size)
          have r0 := (H8.out w3 hb3).p0
          have r1 := (H8.out w3 hb3).p1
          have r2 := (H8.out w3 hb3).p2
          have r3 := (H8.out w3 hb3).p3
          have r4 := (H8.out w3 hb3).p4
          have r5 := (H8.out w3 hb3).p5
          have r6 := (H8.out w3 hb3).p6
          have r7 := (H8.out w3 hb3).p7
          clear q0 q1 q2 q3 q4 q5 q6 q7
          have q0 := r0
          have q1 := r1
          have q2 := r2
          have q3 := r3
          have q4 := r4
          have q5 := r5
          have q6 := r6
          have q7 := r7
          clear r0 r1 r2 r3 r4 r5 r6 r7
          go_wp2_with fail
          go_ret
          exact ⟨ret_bool (by rw [HZ.out]), by rw [← HGG.out]; exact HWB.out.trans (hb3.mono HWS.out)⟩
    by_cases k21 : k = 21
    · subst k21
      have HOP : Hid (R = (((f == 0) || (f == 1)) && ((o == 0) || (o == 1)))) := Lib.hid HDEF.out
      clear HDEF
      cases qf : (f == 0)
      · cases qg : (f == 1)
        · have HZ : Hid (R = false) := Lib.hid (by rw [HOP.out]; simp [qf, qg])
          go_wp2_with fail
          go_ret
          exact ⟨ret_bool (by rw [HZ.out]), by rw [← HGG.out]; exact HWB.out.trans (hb2.mono HWS.out)⟩
        · cases qo : (o == 0)
          · cases qp : (o == 1)
            · have HZ : Hid (R = false) := Lib.hid (by rw [HOP.out]; simp [qf, qg, qo, qp])
              go_wp2_with fail
              go_ret
              exact ⟨ret_bool (by rw [HZ.out]), by rw [← HGG.out]; exact HWB.out.trans (hb2.mono HWS.out)⟩
            · have HZ : Hid (R = true) := Lib.hid (by rw [HOP.out]; simp [qf, qg, qo, qp])
              go_wp2_with fail
              go_ret
              exact ⟨ret_bool (by rw [HZ.out]), by rw [← HGG.out]; exact HWB.out.trans (hb2.mono HWS.out)⟩
          · have HZ : Hid (R = true) := Lib.hid (by rw [HOP.out]; simp [qf, qg, qo])
            go_wp2_with fail
            go_ret
            exact ⟨ret_bool (by rw [HZ.out]), by rw [← HGG.out]; exact HWB.out.trans (hb2.mono HWS.out)⟩
      · cases qo : (o == 0)
        · cases qp : (o == 1)
          · have HZ : Hid (R = false) := Lib.hid (by rw [HOP.out]; simp [qf, qo, qp])
            go_wp2_with fail
            go_ret
            exact ⟨ret_bool (by rw [HZ.out]), by rw [← HGG.out]; exact HWB.out.trans (hb2.mono HWS.out)⟩
          · have HZ : Hid (R = true) := Lib.hid (by rw [HOP.out]; simp [qf, qo, qp])
            go_wp2_with fail
            go_ret
            exact ⟨ret_bool (by rw [HZ.out]), by rw [← HGG.out]; exact HWB.out.trans (hb2.mono HWS.out)⟩
        · have HZ : Hid (R = true) := Lib.hid (by rw [HOP.out]; simp [qf, qo])
          go_wp2_with fail
          go_ret
          exact ⟨ret_bool (by rw [HZ.out]), by rw [← HGG.out]; exact HWB.out.trans (hb2.mono HWS.out)⟩
    have HZ : Hid (R = false) := Lib.hid (by rw [HDEF.out]; simp [k1, k2, k3, k4, k5, k10, k19, k6, k7, k17, k18, k21])
    clear HDEF
    have n1 : (k == 1) = false := beq_eq_false_iff_ne.2 k1
    have n2 : (k == 2) = false := beq_eq_false_iff_ne.2 k2
    have n3 : (k == 3) = false := beq_eq_false_iff_ne.2 k3
    have n4 : (k == 4) = false := beq_eq_false_iff_ne.2 k4
    have n5 : (k == 5) = false := beq_eq_false_iff_ne.2 k5
    have n10 : (k == 10) = false := beq_eq_false_iff_ne.2 k10
    have n19 : (k == 19) = false := beq_eq_false_iff_ne.2 k19
    have n6 : (k == 6) = false := beq_eq_false_iff_ne.2 k6
    have n7 : (k == 7) = false := beq_eq_false_iff_ne.2 k7
    have n17 : (k == 17) = false := beq_eq_false_iff_ne.2 k17
    have n18 : (k == 18) = false := beq_eq_false_iff_ne.2 k18
    have n21 : (k == 21) = false := beq_eq_false_iff_ne.2 k21
    clear k1 k2 k3 k4 k5 k10 k19 k6 k7 k17 k18 k21
    go_wp2_with fail
    go_ret
    exact ⟨ret_bool (by rw [HZ.out]), by rw [← HGG.out]; exact HWB.out.trans (hb2.mono HWS.out)⟩
  · have hl2 : l.map kind ≠ [] := by intro e; exact hl (by have := congrArg List.length e; simpa using this)
    have ql : (0 : Int) < (l.length : Int) := by omega
    have HZ : Hid (R = false) := Lib.hid (by rw [HRR.out, leafR, if_neg hl2])
    clear HRR hl2 hl
    go_enter Tryz.func96, Tryz.ntmps96
    go_upto_region 1 with fail
    rw [← HW.out]
    rw [← hg]
    clear hg
    go_wp2_with (with_reducible refine wpList_load_row rfl 28 (.tmp 1) rfl g rfl 28 vs.toArray (0, 0) _ (HGB.out _ (Below.refl _ _)) Tryz.underlying28 rfl HIA.out ?_)
    refine FD.out.mono ?_
    rintro e w2 ⟨rfl, hb2⟩
    have q0 := (H8.out w2 hb2).p0
    have q1 := (H8.out w2 hb2).p1
    have q2 := (H8.out w2 hb2).p2
    have q3 := (H8.out w2 hb2).p3
    have q4 := (H8.out w2 hb2).p4
    have q5 := (H8.out w2 hb2).p5
    have q6 := (H8.out w2 hb2).p6
    have q7 := (H8.out w2 hb2).p7
    go_wp2_with fail
    go_ret
    exact ⟨ret_bool (by rw [HZ.out]), by rw [← HGG.out]; exact HWB.out.trans (hb2.mono HWS.out)⟩
end Go.Proofs.YtceplkpjnebnfaaGreatDoor

/-
  The program's look at which fields an expression has. (Printed by wip/bin/gen_tree16.py.)
-/
namespace Go.Proofs.YtceplkpjnebnfaaGreatDoor
open Go.RowKit Tr
set_option maxHeartbeats 80000000
set_option maxRecDepth 100000
set_option linter.unusedVariables false

theorem below_dr {B : Nat} {w w1 : World} (h : Below B w w1) : Below B w w1.drew := ⟨h.os, h.tape, h.output, h.size, h.block⟩
theorem any_contains (l : List Int) (y : Int) : l.any (· == y) = l.contains y := by
  rw [Bool.eq_iff_iff, List.any_eq_true, List.contains_iff_mem]
  constructor
  · rintro ⟨x, hx, h⟩; rw [beq_iff_eq] at h; subst h; exact hx
  · intro h; exact ⟨y, h, beq_self_eq_true y⟩
theorem lies_row {w : World} {T : TypeId} {vs : List Value} : Lies (w.alloc (.cells vs.toArray T)) (w.alloc (.cells vs.toArray T)).heap.size (some ⟨w.heap.size, 0, none⟩) vs :=
  .inr ⟨w.heap.size, 0, rfl, by simp, fun j v hv => by rw [Nat.zero_add, cell_of_row _ w.heap.size j _ _ _ (heap_alloc_new w _), List.getElem?_toArray]; exact hv⟩
theorem monopsW_any (w : World) : Calls Tryz.prog 108 #[] w fun e w' => e = .returned (.slice (some ⟨w.heap.size, 0, none⟩) 6 6) ∧ w' = w.alloc (.cells (I64 monops).toArray 3) := by
  go_enter Tryz.func108, Tryz.ntmps108
  go_wp2_with fail
  go_ret
  exact ⟨rfl, rfl⟩
theorem dyopsW_any (w : World) : Calls Tryz.prog 109 #[] w fun e w' => e = .returned (.slice (some ⟨w.heap.size, 0, none⟩) 4 4) ∧ w' = w.alloc (.cells (I64 dyops).toArray 3) := by
  go_enter Tryz.func109, Tryz.ntmps109
  go_wp2_with fail
  go_ret
  exact ⟨rfl, rfl⟩
theorem contC_any (l : List Int) (n m : Nat) (hm : m = l.length) (y : Int) (w : World) (A : Option Addr) (hl : Lies w w.heap.size A (I64 l)) (hn : l.length ≤ 1000) : Calls Tryz.prog 107 #[.slice A m n, .int .i64 y] w (Pure w (l.contains y)) := by
  subst hm
  rw [← any_contains]
  exact contains_any A n l y w w.heap.size hl (by omega)
theorem glyphP_any (c : Int) (w : World) : Calls Tryz.prog 106 #[.int .i64 c] w (BoolOut w (glyph c)) := by
  have HE : Hid (glyph c = ((Tk.cls c == 4) || heads.contains c)) := Lib.hid rfl
  have CL := Lib.hid (class_any c w)
  have MO := Lib.hid (monopsW_any w)
  have IN := Lib.hid (contC_any heads 6 4 rfl c (w.alloc (.cells (I64 monops).toArray 3)) (some ⟨w.heap.size, 0, none⟩) (by
    have := lies_row (w := w) (T := 3) (vs := I64 monops)
    rcases this with h | ⟨b, off, e, hb, hc⟩
    · cases h
    · exact .inr ⟨b, off, e, hb, fun j v hv => hc j v (by
        have hj : j < 4 := by
          rcases Nat.lt_or_ge j 4 with h | h
          · exact h
          · rw [List.getElem?_eq_none (by simpa [I64, heads] using h)] at hv; cases hv
        rw [show I64 heads = (I64 monops).take 4 from rfl, List.getElem?_take, if_pos hj] at hv
        exact hv)⟩) (by decide))
  generalize glyph c = R at *
  generalize heads.contains c = y at *
  generalize Tk.cls c = cv at *
  cases q : (cv == 4)
  all_goals rw [q] at HE
  · go_enter Tryz.func106, Tryz.ntmps106
    go_wp2_with fail
    refine CL.out.mono ?_
    rintro e w1 ⟨rfl, rfl⟩
    go_wp2_with fail
    refine MO.out.mono ?_
    rintro e w2 ⟨rfl, rfl⟩
    go_wp2_with fail
    refine IN.out.mono ?_
    rintro e w2 ⟨rfl, rfl⟩
    go_wp2_with fail
    go_ret
    exact ⟨ret_bool (by rw [HE.out] <;> rfl), (Below.refl _ _).alloc (Nat.le_refl _) _⟩
  · go_enter Tryz.func106, Tryz.ntmps106
    go_wp2_with fail
    refine CL.out.mono ?_
    rintro e w1 ⟨rfl, rfl⟩
    go_wp2_with fail
    go_ret
    exact ⟨ret_bool (by rw [HE.out] <;> rfl), Below.refl _ _⟩
theorem held1_any (x : Int) (w : World) : Calls Tryz.prog 103 #[.int .i64 x] w fun e w' => e = .returned (.bool (!Gl.may x)) ∧ w = w' := by
  have M := Lib.hid (may_any x w)
  generalize Gl.may x = r at *
  go_enter Tryz.func103, Tryz.ntmps103
  go_wp2_with fail
  refine M.out.mono ?_
  rintro e w1 ⟨rfl, rfl⟩
  go_wp2_with fail
  go_ret
  exact ⟨rfl, rfl⟩
theorem chars_cont (A : Option Addr) (c : Nat) (l : List Int) (w : World) (B : Nat) (hl : Lies w B A (I64 l)) (hn : l.length ≤ 17592186044416) :
    Calls Tryz.prog 102 #[.slice A l.length c, .func (.func 103) #[] #[]] w (Pure w (!l.all Gl.may)) := by
  have h := contFunc_any 103 (enters_of Tryz.func103 (by kernel_rfl) rfl) (fun x => !Gl.may x) A c l w B hl (by omega) (fun x => held1_any x w)
  rwa [show l.any (fun x => !Gl.may x) = !l.all Gl.may from by rw [List.all_eq_not_any_not]; simp] at h
theorem held_any (a : Tree) (vs : List Value) (w : World) (B : Nat) (h : IsTree w B a vs) (hB : B ≤ w.heap.size) :
    Calls Tryz.prog 63 #[.agg vs.toArray] w (BoolOut w (held (kind a) (op a) (name a) (num a) (text a))) := by
  obtain ⟨k, o, m, nm, t, l⟩ := a
  show Calls _ _ _ _ (BoolOut w (held k o m nm t))
  obtain ⟨W0, hW⟩ : ∃ W, W = w.alloc (.cells vs.toArray 28) := ⟨_, rfl⟩
  obtain ⟨A1, A2, A3, A4, c1, c2, c3, c4, us, HO, HL, HC, hW8, HG, hWl, hWb⟩ := tree_box h hW
  have hf3 := HO.out.f3.le (by omega)
  have hms := HO.out.ms
  have hko : ∀ wx, Below W0.heap.size W0 wx → Own wx wx.heap.size k o m nm t l.length A1 A2 A3 A4 c1 c2 c3 c4 := fun wx hx => HO.out.keep (fun p hp => by rw [hx.cell (by omega), hWb.cell (by omega)]) (Nat.le_trans hB (by have := hx.size; omega))
  have H8 : Hid (∀ wx, Below W0.heap.size W0 wx → At8 wx w.heap.size 0 k o m nm t l.length A1 A2 A3 A4 c1 c2 c3 c4) := Lib.hid (fun wx hx => hW8.keep (fun q => hx.cell (p := ⟨w.heap.size, q, none⟩) hWl))
  have SM : Hid (Calls Tryz.prog 100 #[.agg #[.bool nm.neg, .slice A1 nm.top.length c1, .slice A2 nm.bot.length c2], .agg #[.bool false, .slice none 0 0, .slice none 0 0]] W0 (BoolOut W0 (zero nm))) := Lib.hid (by
    have h1 := hko W0 (Below.refl _ _)
    have := ratioSame_any nm.neg false nm.top [] nm.bot [] A1 A2 none none c1 c2 0 0 W0 W0.heap.size h1.l1 (.inl rfl) h1.l2 (.inl rfl) (Nat.le_refl _) (by have := h1.f1.le (by omega); omega) (by decide) (by have := h1.f2.le (by omega); omega) (by decide)
    rwa [show sameNum nm.neg false nm.top [] nm.bot [] = zero nm from by unfold sameNum zero; cases nm.neg <;> cases nm.top <;> cases nm.bot <;> rfl] at this)
  have RR : Hid (∀ wx, Below W0.heap.size W0 wx → Calls Tryz.prog 101 #[.agg #[.bool nm.neg, .slice A1 nm.top.length c1, .slice A2 nm.bot.length c2]] wx (BoolOut wx (Rt.right nm))) := Lib.hid (fun wx hx => ratioRight_any nm.neg A1 nm.top c1 A2 nm.bot c2 wx (own_res1 (hko wx hx)) (own_res2 (hko wx hx)) HO.out.o1 HO.out.o2)
  have CH : Hid (∀ wx, Below W0.heap.size W0 wx → Calls Tryz.prog 102 #[.slice A3 t.length c3, .func (.func 103) #[] #[]] wx (Pure wx (!t.all Gl.may))) := Lib.hid (fun wx hx => chars_cont A3 c3 t wx wx.heap.size (hko wx hx).l3 (by have := HO.out.f3.2.1; omega))
  have NMf := Lib.hid (fun wx => named_any m false wx hms)
  have NMt := Lib.hid (fun wx => named_any m true wx hms)
  have GL := Lib.hid (fun wx => glyphP_any o wx)
  have MO := Lib.hid (fun wx => monopsW_any wx)
  have DY := Lib.hid (fun wx => dyopsW_any wx)
  have CM := Lib.hid (fun (wx : World) => contC_any monops 6 6 rfl o (wx.alloc (.cells (I64 monops).toArray 3)) (some ⟨wx.heap.size, 0, none⟩) lies_row (by decide))
  have CM2 := Lib.hid (fun (wx : World) => contC_any monops 6 6 rfl o (wx.alloc (.cells (I64 monops).toArray 3)).drew (some ⟨wx.heap.size, 0, none⟩) (show Lies (wx.alloc (.cells (I64 monops).toArray 3)).drew (wx.alloc (.cells (I64 monops).toArray 3)).heap.size _ _ from lies_row.keep (fun _ _ => rfl)) (by decide))
  have CD2 := Lib.hid (fun (wx : World) => contC_any dyops 4 4 rfl o (wx.alloc (.cells (I64 dyops).toArray 3)).drew (some ⟨wx.heap.size, 0, none⟩) (show Lies (wx.alloc (.cells (I64 dyops).toArray 3)).drew (wx.alloc (.cells (I64 dyops).toArray 3)).heap.size _ _ from lies_row.keep (fun _ _ => rfl)) (by decide))
  have CD := Lib.hid (fun (wx : World) => contC_any dyops 4 4 rfl o (wx.alloc (.cells (I64 dyops).toArray 3)) (some ⟨wx.heap.size, 0, none⟩) lies_row (by decide))
  have HDEF : Hid (held k o m nm t = ((if k = 1 then Rt.right nm else zero nm) && (if k = 2 then decide (t.length ≤ 2048) && t.all Gl.may else t.isEmpty) &&
    (if k = 3 ∨ k = 13 ∨ k = 14 ∨ k = 15 then named m false else if k = 18 ∨ k = 27 then named m true else m.isEmpty) &&
    (if k = 6 ∨ k = 7 ∨ k = 16 then port o else if k = 17 then glyph o else if k = 21 then (o == 0) || (o == 1) else if k = 22 then monops.contains o else if k = 23 then dyops.contains o else o == 0))) := Lib.hid rfl
  have HPO := Lib.hid (port_dec o)
  have HT0 : Hid (((t.length : Int) == 0) = t.isEmpty) := Lib.hid (by cases t <;> rfl)
  obtain ⟨me, hme⟩ : ∃ b, b = m.isEmpty := ⟨_, rfl⟩
  rw [← hme] at HDEF
  have HM0 : Hid (m.isEmpty = me) := Lib.hid hme.symm
  clear hme
  obtain ⟨b0, hb0⟩ : ∃ b, (o == 0) = b := ⟨_, rfl⟩
  rw [hb0] at HDEF
  generalize held k o m nm t = R at *
  generalize Rt.right nm = rr at *
  generalize zero nm = zz at *
  generalize t.all Gl.may = ch at *
  generalize named m false = nf at *
  generalize named m true = nt at *
  generalize port o = po at *
  generalize glyph o = gl at *
  generalize monops.contains o = mo at *
  generalize dyops.contains o = dy at *
  generalize t.isEmpty = te at *
  have HWB := Lib.hid hWb
  have HWS : Hid (w.heap.size ≤ W0.heap.size) := Lib.hid (by omega)
  have HW := Lib.hid hW
  obtain ⟨q0, q1, q2, q3, q4, q5, q6, q7⟩ := H8.out W0 (Below.refl _ _)
  simp only [Nat.zero_add] at q0 q1 q2 q3 q4 q5 q6 q7
  clear h hW hW8 HO HL HC HG hWb hko
  go_enter Tryz.func63, Tryz.ntmps63
  go_upto_region 1 with fail
  rw [← HW.out]
  go_wp2_with fail
  refine SM.out.mono ?_
  rintro e w2 ⟨rfl, hb2⟩
  obtain ⟨r0, r1, r2, r3, r4, r5, r6, r7⟩ := H8.out w2 hb2
  simp only [Nat.zero_add] at r0 r1 r2 r3 r4 r5 r6 r7
  have hwl2 : w.heap.size < w2.heap.size := Nat.lt_of_lt_of_le hWl hb2.size
  clear q0 q1 q2 q3 q4 q5 q6 q7
  go_upto_block 0 with fail
  go_cut [3, 4, 5, 6] from 21 to 92 (fun x3 x4 x5 x6 wx => ∃ a b c d : Bool, x3 = .bool a ∧ x4 = .bool b ∧ x5 = .bool c ∧ x6 = .bool d ∧ Hid (R = (a && b && c && d)) ∧ Below W0.heap.size W0 wx)
  case rest =>
    obtain ⟨a, b, c, d, rfl, rfl, rfl, rfl, HZ, hb⟩ := hcut
    clear r0 r1 r2 r3 r4 r5 r6 r7
    cases a
    · go_wp2_with fail
      go_ret
      exact ⟨ret_bool (by rw [HZ.out]; rfl), HWB.out.trans (hb.mono HWS.out)⟩
    · cases b
      · go_wp2_with fail
        go_ret
        exact ⟨ret_bool (by rw [HZ.out]; rfl), HWB.out.trans (hb.mono HWS.out)⟩
      · cases c
        · go_wp2_with fail
          go_ret
          exact ⟨ret_bool (by rw [HZ.out]; rfl), HWB.out.trans (hb.mono HWS.out)⟩
        · cases d
          all_goals
            go_wp2_with fail
            go_ret
            exact ⟨ret_bool (by rw [HZ.out]; rfl), HWB.out.trans (hb.mono HWS.out)⟩
  case first =>
    by_cases k1 : k = 1
    · subst k1
      go_wp2_with fail
      refine (RR.out w2 hb2).mono ?_
      rintro e w3 ⟨rfl, hb3'⟩
      have hb3 := hb2.trans (hb3'.mono hb2.size)
      go_wp2_with fail
      go_meet
      exact ⟨_, _, _, _, rfl, rfl, rfl, rfl, Lib.hid (by have e := HDEF.out; simp (config := {decide := true}) only [if_true, if_false] at e; rw [e]; (try rw [HT0.out]); (try rw [HM0.out])), hb3⟩
    by_cases k2 : k = 2
    · subst k2
      by_cases hlen : t.length ≤ 2048
      · have qlen : (t.length : Int) ≤ 2048 := by omega
        go_wp2_with fail
        refine (CH.out w2 hb2).mono ?_
        rintro e w3 ⟨rfl, rfl⟩
        go_wp2_with fail
        go_meet
        exact ⟨_, _, _, _, rfl, rfl, rfl, rfl, Lib.hid (by have e := HDEF.out; simp (config := {decide := true}) only [if_true, if_false] at e; rw [e]; (try rw [HT0.out]); (try rw [HM0.out]); rw [decide_eq_true hlen]; (try simp)), hb2⟩
      · have qlen : ¬ (t.length : Int) ≤ 2048 := by omega
        go_wp2_with fail
        go_meet
        exact ⟨_, _, _, _, rfl, rfl, rfl, rfl, Lib.hid (by have e := HDEF.out; simp (config := {decide := true}) only [if_true, if_false] at e; rw [e]; (try rw [HT0.out]); (try rw [HM0.out]); rw [decide_eq_false hlen]; (try simp)), hb2⟩
    by_cases k3 : k = 3
    · subst k3
      go_wp2_with fail
      refine (NMf.out w2).mono ?_
      rintro e w3 ⟨rfl, rfl⟩
      go_wp2_with fail
      go_meet
      exact ⟨_, _, _, _, rfl, rfl, rfl, rfl, Lib.hid (by have e := HDEF.out; simp (config := {decide := true}) only [if_true, if_false] at e; rw [e]; (try rw [HT0.out]); (try rw [HM0.out])), hb2⟩
    by_cases k13 : k = 13
    · subst k13
      go_wp2_with fail
      refine (NMf.out w2).mono ?_
      rintro e w3 ⟨rfl, rfl⟩
      go_wp2_with fail
      go_meet
      exact ⟨_, _, _, _, rfl, rfl, rfl, rfl, Lib.hid (by have e := HDEF.out; simp (config := {decide := true}) only [if_true, if_false] at e; rw [e]; (try rw [HT0.out]); (try rw [HM0.out])), hb2⟩
    by_cases k14 : k = 14
    · subst k14
      go_wp2_with fail
      refine (NMf.out w2).mono ?_
      rintro e w3 ⟨rfl, rfl⟩
      go_wp2_with fail
      go_meet
      exact ⟨_, _, _, _, rfl, rfl, rfl, rfl, Lib.hid (by have e := HDEF.out; simp (config := {decide := true}) only [if_true, if_false] at e; rw [e]; (try rw [HT0.out]); (try rw [HM0.out])), hb2⟩
    by_cases k15 : k = 15
    · subst k15
      go_wp2_with fail
      refine (NMf.out w2).mono ?_
      rintro e w3 ⟨rfl, rfl⟩
      go_wp2_with fail
      go_meet
      exact ⟨_, _, _, _, rfl, rfl, rfl, rfl, Lib.hid (by have e := HDEF.out; simp (config := {decide := true}) only [if_true, if_false] at e; rw [e]; (try rw [HT0.out]); (try rw [HM0.out])), hb2⟩
    by_cases k18 : k = 18
    · subst k18
      go_wp2_with fail
      refine (NMt.out w2).mono ?_
      rintro e w3 ⟨rfl, rfl⟩
      go_wp2_with fail
      go_meet
      exact ⟨_, _, _, _, rfl, rfl, rfl, rfl, Lib.hid (by have e := HDEF.out; simp (config := {decide := true}) only [if_true, if_false] at e; rw [e]; (try rw [HT0.out]); (try rw [HM0.out])), hb2⟩
    by_cases k27 : k = 27
    · subst k27
      go_wp2_with fail
      refine (NMt.out w2).mono ?_
      rintro e w3 ⟨rfl, rfl⟩
      go_wp2_with fail
      go_meet
      exact ⟨_, _, _, _, rfl, rfl, rfl, rfl, Lib.hid (by have e := HDEF.out; simp (config := {decide := true}) only [if_true, if_false] at e; rw [e]; (try rw [HT0.out]); (try rw [HM0.out])), hb2⟩
    by_cases k6 : k = 6
    · subst k6
      by_cases h1 : 0 ≤ o
      · by_cases h2 : o < 8
        · have HP2 : Hid (po = true) := Lib.hid (by rw [HPO.out]; exact decide_eq_true ⟨h1, h2⟩)
          go_wp2_with fail
          go_meet
          exact ⟨_, _, _, _, rfl, rfl, rfl, rfl, Lib.hid (by have e := HDEF.out; simp (config := {decide := true}) only [if_true, if_false] at e; rw [e]; (try rw [HT0.out]); (try rw [HM0.out]); rw [HP2.out]), hb2⟩
        · have HP2 : Hid (po = false) := Lib.hid (by rw [HPO.out]; exact decide_eq_false (fun h => h2 h.2))
          go_wp2_with fail
          go_meet
          exact ⟨_, _, _, _, rfl, rfl, rfl, rfl, Lib.hid (by have e := HDEF.out; simp (config := {decide := true}) only [if_true, if_false] at e; rw [e]; (try rw [HT0.out]); (try rw [HM0.out]); rw [HP2.out]), hb2⟩
      · have HP2 : Hid (po = false) := Lib.hid (by rw [HPO.out]; exact decide_eq_false (fun h => h1 h.1))
        go_wp2_with fail
        go_meet
        exact ⟨_, _, _, _, rfl, rfl, rfl, rfl, Lib.hid (by have e := HDEF.out; simp (config := {decide := true}) only [if_true, if_false] at e; rw [e]; (try rw [HT0.out]); (try rw [HM0.out]); rw [HP2.out]), hb2⟩
    by_cases k7 : k = 7
    · subst k7
      by_cases h1 : 0 ≤ o
      · by_cases h2 : o < 8
        · have HP2 : Hid (po = true) := Lib.hid (by rw [HPO.out]; exact decide_eq_true ⟨h1, h2⟩)
          go_wp2_with fail
          go_meet
          exact ⟨_, _, _, _, rfl, rfl, rfl, rfl, Lib.hid (by have e := HDEF.out; simp (config := {decide := true}) only [if_true, if_false] at e; rw [e]; (try rw [HT0.out]); (try rw [HM0.out]); rw [HP2.out]), hb2⟩
        · have HP2 : Hid (po = false) := Lib.hid (by rw [HPO.out]; exact decide_eq_false (fun h => h2 h.2))
          go_wp2_with fail
          go_meet
          exact ⟨_, _, _, _, rfl, rfl, rfl, rfl, Lib.hid (by have e := HDEF.out; simp (config := {decide := true}) only [if_true, if_false] at e; rw [e]; (try rw [HT0.out]); (try rw [HM0.out]); rw [HP2.out]), hb2⟩
      · have HP2 : Hid (po = false) := Lib.hid (by rw [HPO.out]; exact decide_eq_false (fun h => h1 h.1))
        go_wp2_with fail
        go_meet
        exact ⟨_, _, _, _, rfl, rfl, rfl, rfl, Lib.hid (by have e := HDEF.out; simp (config := {decide := true}) only [if_true, if_false] at e; rw [e]; (try rw [HT0.out]); (try rw [HM0.out]); rw [HP2.out]), hb2⟩
    by_cases k16 : k = 16
    · subst k16
      by_cases h1 : 0 ≤ o
      · by_cases h2 : o < 8
        · have HP2 : Hid (po = true) := Lib.hid (by rw [HPO.out]; exact decide_eq_true ⟨h1, h2⟩)
          go_wp2_with fail
          go_meet
          exact ⟨_, _, _, _, rfl, rfl, rfl, rfl, Lib.hid (by have e := HDEF.out; simp (config := {decide := true}) only [if_true, if_false] at e; rw [e]; (try rw [HT0.out]); (try rw [HM0.out]); rw [HP2.out]), hb2⟩
        · have HP2 : Hid (po = false) := Lib.hid (by rw [HPO.out]; exact decide_eq_false (fun h => h2 h.2))
          go_wp2_with fail
          go_meet
          exact ⟨_, _, _, _, rfl, rfl, rfl, rfl, Lib.hid (by have e := HDEF.out; simp (config := {decide := true}) only [if_true, if_false] at e; rw [e]; (try rw [HT0.out]); (try rw [HM0.out]); rw [HP2.out]), hb2⟩
      · have HP2 : Hid (po = false) := Lib.hid (by rw [HPO.out]; exact decide_eq_false (fun h => h1 h.1))
        go_wp2_with fail
        go_meet
        exact ⟨_, _, _, _, rfl, rfl, rfl, rfl, Lib.hid (by have e := HDEF.out; simp (config := {decide := true}) only [if_true, if_false] at e; rw [e]; (try rw [HT0.out]); (try rw [HM0.out]); rw [HP2.out]), hb2⟩
    by_cases k17 : k = 17
    · subst k17
      go_wp2_with fail
      refine (GL.out w2).mono ?_
      rintro e w3 ⟨rfl, hb3'⟩
      have hb3 := hb2.trans (hb3'.mono hb2.size)
      go_wp2_with fail
      go_meet
      exact ⟨_, _, _, _, rfl, rfl, rfl, rfl, Lib.hid (by have e := HDEF.out; simp (config := {decide := true}) only [if_true, if_false] at e; rw [e]; (try rw [HT0.out]); (try rw [HM0.out])), hb3⟩
    by_cases k21 : k = 21
    · subst k21
      cases b0
      · cases e2 : (o == 1)
        all_goals
          go_wp2_with fail
          go_meet
          exact ⟨_, _, _, _, rfl, rfl, rfl, rfl, Lib.hid (by have e := HDEF.out; simp (config := {decide := true}) only [if_true, if_false] at e; rw [e]; (try rw [HT0.out]); (try rw [HM0.out]); rw [e2]; (try simp)), hb2⟩
      · go_wp2_with fail
        go_meet
        exact ⟨_, _, _, _, rfl, rfl, rfl, rfl, Lib.hid (by have e := HDEF.out; simp (config := {decide := true}) only [if_true, if_false] at e; rw [e]; (try rw [HT0.out]); (try rw [HM0.out]); (try simp)), hb2⟩
    by_cases k22 : k = 22
    · subst k22
      go_wp2_with fail
      go_region_with (first | (go_at_call 108; refine (MO.out _).mono ?_; rintro e w3 ⟨rfl, rfl⟩) | (go_at_call 107; refine (CM.out _).mono ?_; rintro e w4 ⟨rfl, rfl⟩) | (go_at_call 107; refine (CM2.out _).mono ?_; rintro e w4 ⟨rfl, rfl⟩))
      all_goals
        go_wp2_with fail
        go_meet
        exact ⟨_, _, _, _, rfl, rfl, rfl, rfl, Lib.hid (by have e := HDEF.out; simp (config := {decide := true}) only [if_true, if_false] at e; rw [e]; (try rw [HT0.out]); (try rw [HM0.out])), (by first | exact hb2.alloc hb2.size _ | exact below_dr (hb2.alloc hb2.size _) | exact below_dr (below_dr (hb2.alloc hb2.size _)))⟩
    by_cases k23 : k = 23
    · subst k23
      go_wp2_with fail
      go_region_with (first | (go_at_call 109; refine (DY.out _).mono ?_; rintro e w3 ⟨rfl, rfl⟩) | (go_at_call 107; refine (CD.out _).mono ?_; rintro e w4 ⟨rfl, rfl⟩) | (go_at_call 107; refine (CD2.out _).mono ?_; rintro e w4 ⟨rfl, rfl⟩))
      all_goals
        go_wp2_with fail
        go_meet
        exact ⟨_, _, _, _, rfl, rfl, rfl, rfl, Lib.hid (by have e := HDEF.out; simp (config := {decide := true}) only [if_true, if_false] at e; rw [e]; (try rw [HT0.out]); (try rw [HM0.out])), (by first | exact hb2.alloc hb2.size _ | exact below_dr (hb2.alloc hb2.size _) | exact below_dr (below_dr (hb2.alloc hb2.size _)))⟩
    have n1 : (k == 1) = false := beq_eq_false_iff_ne.2 k1
    have n2 : (k == 2) = false := beq_eq_false_iff_ne.2 k2
    have n3 : (k == 3) = false := beq_eq_false_iff_ne.2 k3
    have n13 : (k == 13) = false := beq_eq_false_iff_ne.2 k13
    have n14 : (k == 14) = false := beq_eq_false_iff_ne.2 k14
    have n15 : (k == 15) = false := beq_eq_false_iff_ne.2 k15
    have n18 : (k == 18) = false := beq_eq_false_iff_ne.2 k18
    have n27 : (k == 27) = false := beq_eq_false_iff_ne.2 k27
    have n6 : (k == 6) = false := beq_eq_false_iff_ne.2 k6
    have n7 : (k == 7) = false := beq_eq_false_iff_ne.2 k7
    have n16 : (k == 16) = false := beq_eq_false_iff_ne.2 k16
    have n17 : (k == 17) = false := beq_eq_false_iff_ne.2 k17
    have n21 : (k == 21) = false := beq_eq_false_iff_ne.2 k21
    have n22 : (k == 22) = false := beq_eq_false_iff_ne.2 k22
    have n23 : (k == 23) = false := beq_eq_false_iff_ne.2 k23
    have HZ : Hid (R = (zz && te && me && b0)) := Lib.hid (by rw [HDEF.out]; simp only [k1, k2, k3, k13, k14, k15, k18, k27, k6, k7, k16, k17, k21, k22, k23, or_self, if_false])
    clear k1 k2 k3 k13 k14 k15 k18 k27 k6 k7 k16 k17 k21 k22 k23
    go_wp2_with fail
    go_meet
    exact ⟨_, _, _, _, rfl, rfl, rfl, rfl, Lib.hid (by rw [HZ.out]; (try rw [HT0.out]); (try rw [HM0.out])), hb2⟩
end Go.Proofs.YtceplkpjnebnfaaGreatDoor
