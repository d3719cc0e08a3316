/-
  Texts of this proof, joined (by wip/bin/bundle.py): Dig7, Dig8, Dig10, Dig11, Dig12, DigLaid.
-/
import Derived.Test.YtfiefglagknclaaDoorM7
import Derived.Deep.QuietTactic
import Derived.BigQuiet
import Derived.IntWalk
import Derived.Deep.Cut
import Derived.Deep.RegionHeld3
import Derived.Test.YtfiefglagknclaaDoorRows
import Derived.Lib.LaidTab
import Derived.LaidMore
import Derived.Stop.LaidErr
import Derived.MakeChecks
import Derived.OpenShut
import Derived.ProofKit
import Derived.ChangeOld
import Derived.Lay
/-
  digits.Print, scrimref05.Print: a number's text; scrimref04.IsWhole.
-/
namespace Go.Proofs.YtfiefglagknclaaDoor
open Go.RowKit
set_option maxHeartbeats 2000000
set_option maxRecDepth 100000
set_option linter.unusedVariables false

theorem isWhole_any (n : Bool) (v1 v2 : Value) (l1 l2 : List Nat) (w : World) (h1 : IsRes w v1 l1) (h2 : IsRes w v2 l2) :
    Calls Tryd.prog 35 #[.agg #[.bool n, v1, v2]] w fun e w' => e = .returned (.bool (l2 == [1])) ∧ Below w.heap.size w w' := by
  have HB : Hid (∀ o1, Below w.heap.size w (w.alloc o1)) := Lib.hid (fun o1 => (Below.refl _ _).alloc (Nat.le_refl _) _)
  obtain ⟨A1, c1, rfl, -⟩ := h1
  obtain ⟨A2, c2, rfl, k1, k2, k3, k4⟩ := h2
  by_cases hl : l2.length = 1
  · obtain ⟨x, rfl⟩ : ∃ x, l2 = [x] := by
      match l2, hl with
      | [x], _ => exact ⟨x, rfl⟩
    obtain ⟨b, off, rfl, hb, g0⟩ := k4.at_ (k := 0) (by simp [U])
    have g1 : w.cell? ⟨b, off, none⟩ = some (.int .u32 (x : Int)) := by simpa [U] using g0
    have HQ : Hid (([x] == [1]) = (x == 1)) := Lib.hid (by simp [List.cons_beq_cons])
    clear g0 k4 k3 hl
    by_cases hx : x = 1
    · subst hx
      go_enter Tryd.func35, Tryd.ntmps35
      go_wp2_with fail
      go_ret
      exact ⟨ret_bool (by rw [HQ.out]; rfl), HB.out _⟩
    · have q : ((x : Int) == 1) = false := beq_eq_false_iff_ne.2 (by omega)
      have HQ2 : Hid ((x == 1) = false) := Lib.hid (beq_eq_false_iff_ne.2 hx)
      clear hx
      go_enter Tryd.func35, Tryd.ntmps35
      go_wp2_with fail
      go_ret
      exact ⟨ret_bool (by rw [HQ.out, HQ2.out]), HB.out _⟩
  · have q : ((l2.length : Int) == 1) = false := beq_eq_false_iff_ne.2 (by omega)
    have HQ : Hid ((l2 == [1]) = false) := Lib.hid (by
      rw [beq_eq_false_iff_ne]; rintro rfl; exact hl rfl)
    clear hl k4 k3
    generalize l2.length = m at *
    go_enter Tryd.func35, Tryd.ntmps35
    go_wp2_with fail
    go_ret
    exact ⟨ret_bool (by rw [HQ.out]), HB.out _⟩

/-- The table of strconv's, in whatever world behind. -/
structure Pow10 (w : World) : Prop where
  tab : Lib.TabIs Tryd.prog w "internal/strconv.uint64pow10" .u64 Lib.pow10Tab
  lt : ∀ g, Tryd.prog.globalNamed "internal/strconv.uint64pow10" = some g → g < w.heap.size
theorem Pow10.below {w w' : World} (h : Pow10 w) (hb : Below w.heap.size w w') : Pow10 w' := ⟨tabIs_below h.tab hb h.lt, fun g e => Nat.lt_of_lt_of_le (h.lt g e) hb.size⟩
/-- A text is handed back. -/
def StrOut (w : World) (s : List UInt8) (e : Ending) (w' : World) : Prop := e = .returned (.string ⟨s.toArray⟩) ∧ Below w.heap.size w w'
theorem textR_any {w : World} {v : Value} {l : List Nat} (h : IsRes w v l) (ho : Nt.Ok l) (hs : l.length ≤ 1000) (hp : Pow10 w) :
    Calls Tryd.prog 27 #[v] w (StrOut w (Lib.decDigits (Nt.val l))) := by
  obtain ⟨A, c, rfl, k1, k2, k3, k4⟩ := h
  exact text_any A c w.heap.size l w k4 (Nat.le_refl _) ho k1 k2 hs hp.tab hp.lt
theorem refTextR_any {w : World} {v : Value} {l : List Nat} (h : IsRes w v l) (ho : Nt.Ok l) (hs : l.length ≤ 1000) :
    Calls Tryd.prog 34 #[v] w (StrOut w (Lib.decDigits (Nt.val l))) := by
  obtain ⟨A, c, rfl, k1, k2, k3, k4⟩ := h
  exact refText_any A c w.heap.size l w k4 (Nat.le_refl _) ho k1 k2 k3 hs
theorem ret_str {a b : ByteArray} (h : a.data.toList = b.data.toList) : Ending.returned (.string a) = .returned (.string b) := by
  have : a = b := ByteArray.ext (Array.toList_inj.1 h)
  rw [this]

/-- A number that may be, in memory. -/
structure NumR (w : World) (n : Rt.Nm) (v1 v2 : Value) : Prop where
  r1 : IsRes w v1 n.top
  r2 : IsRes w v2 n.bot
  o1 : Nt.Ok n.top
  o2 : Nt.Ok n.bot
  s1 : n.top.length ≤ 1000
  s2 : n.bot.length ≤ 1000
theorem NumR.below {w w' : World} {n : Rt.Nm} {v1 v2 : Value} (h : NumR w n v1 v2) (hb : Below w.heap.size w w') : NumR w' n v1 v2 := ⟨h.r1.below hb, h.r2.below hb, h.o1, h.o2, h.s1, h.s2⟩

theorem refPrint_any (n : Rt.Nm) (v1 v2 : Value) (w : World) (h : NumR w n v1 v2) :
    Calls Tryd.prog 12 #[.agg #[.bool n.neg, v1, v2]] w (StrOut w (Dg.print n)) := by
  have TX := Lib.hid (fun (wx : World) (hb : Below w.heap.size w wx) => refTextR_any (h.below hb).r1 h.o1 h.s1)
  have TY := Lib.hid (fun (wx : World) (hb : Below w.heap.size w wx) => refTextR_any (h.below hb).r2 h.o2 h.s2)
  have IW := Lib.hid (fun (wx : World) (hb : Below w.heap.size w wx) => isWhole_any n.neg v1 v2 n.top n.bot wx (h.below hb).r1 (h.below hb).r2)
  have HB : Hid (∀ o1, Below w.heap.size w (w.alloc o1)) := Lib.hid (fun o1 => (Below.refl _ _).alloc (Nat.le_refl _) _)
  have HP : Hid (Dg.print n = (if n.neg then [194, 175] else []) ++ (Lib.decDigits (Nt.val n.top) ++ if n.bot = [1] then [] else 114 :: Lib.decDigits (Nt.val n.bot))) := Lib.hid rfl
  have HI3 : Hid ((Tryd.prog.info? 24).map (·.size) = some (#[.bool n.neg, v1, v2] : Array Value).size) := Lib.hid num_info
  have hTl := dec_bound h.o1 h.s1
  have hBl := dec_bound h.o2 h.s2
  clear h
  obtain ⟨neg, top, bot⟩ := n
  dsimp only at TX TY IW HP HI3 hTl hBl ⊢
  generalize Dg.print ⟨neg, top, bot⟩ = R at *
  generalize Lib.decDigits (Nt.val top) = T at *
  generalize Lib.decDigits (Nt.val bot) = B at *
  go_enter Tryd.func12, Tryd.ntmps12
  go_wp2_with fail
  refine (TX.out _ (HB.out _)).mono ?_
  rintro e w2 ⟨rfl, hb2⟩
  have hbw2 := (HB.out (.cells #[.bool neg, v1, v2] 24)).trans (hb2.mono (HB.out _).size)
  have HG := Lib.hid ((hb2.block w.heap.size (by simp)).trans (heap_alloc_new w (.cells #[.bool neg, v1, v2] 24)))
  have hs2 := hb2.size
  have hlt : w.heap.size < w2.heap.size := by simp at hs2; omega
  clear hb2 hs2
  go_wp2_with (with_reducible refine wpList_load_row rfl 24 (.tmp 1) rfl w.heap.size rfl 24 #[.bool neg, v1, v2] (0, 0) _ HG.out Tryd.underlying24 rfl HI3.out ?_)
  refine (IW.out w2 hbw2).mono ?_
  rintro e w3 ⟨rfl, hb3⟩
  have hbw3 := hbw2.trans (hb3.mono hbw2.size)
  have HG3 := Lib.hid ((hb3.block w.heap.size hlt).trans HG.out)
  have hlt3 : w.heap.size < w3.heap.size := Nat.lt_of_lt_of_le hlt hb3.size
  clear hb3 hbw2 hlt
  have p0 : w3.cell? ⟨w.heap.size, 0, none⟩ = some (.bool neg) := (cell_of_row w3 w.heap.size 0 _ _ _ HG3.out).trans rfl
  have p2 : w3.cell? ⟨w.heap.size, 2, none⟩ = some v2 := (cell_of_row w3 w.heap.size 2 _ _ _ HG3.out).trans rfl
  by_cases hone : bot = [1]
  · have HO := Lib.hid hone
    have e1 : (bot == [1]) = true := by rw [hone]; rfl
    clear hone TX TY IW
    cases neg
    · go_wp2_with fail
      go_ret
      exact ⟨ret_str (by rw [HP.out, if_pos HO.out]; simp), hbw3⟩
    · go_wp2_with fail
      go_ret
      exact ⟨ret_str (by rw [HP.out, if_pos HO.out]; simp), hbw3⟩
  · have HO := Lib.hid hone
    have e1 : (bot == [1]) = false := beq_eq_false_iff_ne.2 hone
    clear hone TX IW
    have HTY := Lib.hid (TY.out w3 hbw3)
    clear TY
    go_wp2_with fail
    refine HTY.out.mono ?_
    rintro e w4 ⟨rfl, hb4⟩
    have hbw4 := hbw3.trans (hb4.mono hbw3.size)
    have p04 : w4.cell? ⟨w.heap.size, 0, none⟩ = some (.bool neg) := (hb4.cell (p := ⟨w.heap.size, 0, none⟩) hlt3).trans p0
    clear hb4 p0 p2 HTY hbw3
    cases neg
    · go_wp2_with fail
      go_ret
      exact ⟨ret_str (by rw [HP.out, if_neg HO.out]; simp), hbw4⟩
    · go_wp2_with fail
      go_ret
      exact ⟨ret_str (by rw [HP.out, if_neg HO.out]; simp), hbw4⟩

theorem digPrint_any (n : Rt.Nm) (v1 v2 : Value) (w : World) (h : NumR w n v1 v2) (hp : Pow10 w) :
    Calls Tryd.prog 10 #[.agg #[.bool n.neg, v1, v2]] w (StrOut w (Dg.print n)) := by
  have TX := Lib.hid (fun (wx : World) (hb : Below w.heap.size w wx) => textR_any (h.below hb).r1 h.o1 h.s1 (hp.below hb))
  have TY := Lib.hid (fun (wx : World) (hb : Below w.heap.size w wx) => textR_any (h.below hb).r2 h.o2 h.s2 (hp.below hb))
  have IW := Lib.hid (fun (wx : World) (hb : Below w.heap.size w wx) => ratioInt_any n.neg v1 v2 n.top n.bot wx (h.below hb).r1 (h.below hb).r2 h.o1 (by have := h.s1; omega))
  have HB : Hid (∀ o1, Below w.heap.size w (w.alloc o1)) := Lib.hid (fun o1 => (Below.refl _ _).alloc (Nat.le_refl _) _)
  have HP : Hid (Dg.print n = (if n.neg then [194, 175] else []) ++ (Lib.decDigits (Nt.val n.top) ++ if n.bot = [1] then [] else 114 :: Lib.decDigits (Nt.val n.bot))) := Lib.hid rfl
  have HI3 : Hid ((Tryd.prog.info? 24).map (·.size) = some (#[.bool n.neg, v1, v2] : Array Value).size) := Lib.hid num_info
  have HI2 : Hid (∀ (b : Bool) (A : Option Addr) (k c : Nat), (Tryd.prog.info? 58).map (·.size) = some (#[.bool b, .slice A k c] : Array Value).size) := Lib.hid (fun _ _ _ _ => whole2_info)
  have hTl := dec_bound h.o1 h.s1
  have hBl := dec_bound h.o2 h.s2
  clear h hp
  obtain ⟨neg, top, bot⟩ := n
  dsimp only at TX TY IW HP HI3 hTl hBl ⊢
  generalize Dg.print ⟨neg, top, bot⟩ = R at *
  generalize Lib.decDigits (Nt.val top) = T at *
  generalize Lib.decDigits (Nt.val bot) = B at *
  go_enter Tryd.func10, Tryd.ntmps10
  go_wp2_with fail
  refine (TX.out _ (HB.out _)).mono ?_
  rintro e w2 ⟨rfl, hb2⟩
  have hbw2 := (HB.out (.cells #[.bool neg, v1, v2] 24)).trans (hb2.mono (HB.out _).size)
  have HG := Lib.hid ((hb2.block w.heap.size (by simp)).trans (heap_alloc_new w (.cells #[.bool neg, v1, v2] 24)))
  have hs2 := hb2.size
  have hlt : w.heap.size < w2.heap.size := by simp at hs2; omega
  have p0 : w2.cell? ⟨w.heap.size, 0, none⟩ = some (.bool neg) := (cell_of_row w2 w.heap.size 0 _ _ _ HG.out).trans rfl
  clear hb2 hs2 TX
  obtain ⟨N, hN⟩ : ∃ N : List UInt8, N = if neg then [194, 175] else [] := ⟨_, rfl⟩
  rw [← hN] at HP
  have hN2 := Lib.hid hN
  clear hN
  cases neg
  all_goals
    go_wp2_with (with_reducible refine wpList_load_row rfl 24 (.tmp 1) rfl w.heap.size rfl 24 #[.bool _, v1, v2] (0, 0) _ HG.out Tryd.underlying24 rfl HI3.out ?_)
    refine (IW.out w2 hbw2).mono ?_
    rintro e w3 ⟨u, rfl, hu, hb3⟩
    dsimp only at hu
    have hbw3 := hbw2.trans (hb3.mono hbw2.size)
    have HG3 := Lib.hid ((hb3.block w.heap.size hlt).trans HG.out)
    have hlt3 : w.heap.size < w3.heap.size := Nat.lt_of_lt_of_le hlt hb3.size
    obtain ⟨A3, c3, rfl, -⟩ := hu
    clear hb3 hbw2 hlt p0
    have p2 : w3.cell? ⟨w.heap.size, 2, none⟩ = some v2 := (cell_of_row w3 w.heap.size 2 _ _ _ HG3.out).trans rfl
    have HG4 : Hid (∀ o, (w3.alloc o).heap[w3.heap.size]? = some o) := Lib.hid (fun o => heap_alloc_new w3 o)
    by_cases hone : bot = [1]
    · have HO := Lib.hid hone
      have e1 : (bot == [1]) = true := by rw [hone]; rfl
      simp only [e1, if_pos hone]
      clear hone TY IW e1
      go_wp2_with fail
      go_ret
      exact ⟨ret_str (by rw [HP.out, if_pos HO.out, hN2.out]; simp), hbw3.alloc hbw3.size _⟩
    · have HO := Lib.hid hone
      have e1 : (bot == [1]) = false := beq_eq_false_iff_ne.2 hone
      simp only [e1, if_neg hone]
      clear hone IW e1
      have HTY := Lib.hid (fun o => TY.out (w3.alloc o) (hbw3.alloc hbw3.size _))
      clear TY
      go_wp2_with fail
      refine (HTY.out _).mono ?_
      rintro e w4 ⟨rfl, hb4⟩
      have hbw4 := (hbw3.alloc hbw3.size (.cells #[.bool false, .slice A3 ([] : List Nat).length c3] 58)).trans (hb4.mono (by simp; omega))
      clear hb4 HTY hbw3 p2
      go_wp2_with fail
      go_ret
      exact ⟨ret_str (by rw [HP.out, if_neg HO.out, hN2.out]; simp), hbw4⟩
end Go.Proofs.YtfiefglagknclaaDoor

/-
  digits.Parse: the number of a text. (Printed by wip/bin/gen_dig8.py.)
-/
namespace Go.Proofs.YtfiefglagknclaaDoor
open Go.RowKit
set_option maxHeartbeats 4000000
set_option maxRecDepth 100000
set_option linter.unusedVariables false

theorem bDrewN {B : Nat} {w w' : World} (h : Below B w w') (n : Nat) : Below B w (w'.drewN n) := ⟨h.os, h.tape, h.output, h.size, h.block⟩
theorem parse_cut (s : List UInt8) : Dg.parse s = Dg.body (Lib.hasPrefix s [194, 175]) (Lib.trimPrefix s [194, 175]) := by
  unfold Lib.trimPrefix Lib.hasPrefix
  match s with
  | [] => rfl
  | [a] =>
    have h : List.isPrefixOf [194, 175] [a] = false := by simp [List.isPrefixOf]
    rw [h]
    unfold Dg.parse
    split
    · next h2 => cases h2
    · rfl
  | a :: b :: t =>
    by_cases h : a = 194 ∧ b = 175
    · obtain ⟨rfl, rfl⟩ := h
      rfl
    · have h2 : List.isPrefixOf [194, 175] (a :: b :: t) = false := by
        simp [List.isPrefixOf]
        intro e1 e2
        exact h ⟨e1.symm, e2.symm⟩
      rw [h2]
      unfold Dg.parse
      split
      · next h3 => injection h3 with e1 h3; injection h3 with e2 h3; exact absurd ⟨e1, e2⟩ h
      · rfl
theorem numOf_one : Ten.numOf [49] = 1 := rfl
theorem cut_len (s p : List UInt8) : (Lib.trimPrefix s p).length ≤ s.length := by
  unfold Lib.trimPrefix
  split
  · rw [List.length_drop]; omega
  · exact Nat.le_refl _
theorem lim_digs {t : List UInt8} (hd : ∀ b ∈ t, Ten.isDig b) (h : t.length ≤ 1000) : (Nt.digs (Ten.numOf t)).length ≤ 1000000 := by
  have := Dg.limbs_le hd 112 (by omega)
  omega
/-- The last statement's calls. -/
theorem makeOf_any (neg : Bool) (v1 v2 : Value) (a b : List UInt8) (w : World) (h1 : IsRes w v1 (Nt.digs (Ten.numOf a))) (h2 : IsRes w v2 (Nt.digs (Ten.numOf b))) (d1 : ∀ x ∈ a, Ten.isDig x) (d2 : ∀ x ∈ b, Ten.isDig x) (s1 : a.length ≤ 1000) (s2 : b.length ≤ 1000) :
    Calls Tryd.prog 32 #[.agg #[.bool neg, v1], .agg #[.bool false, v2]] w (MakeOut w (Rt.mk neg false (Ten.numOf a) (Ten.numOf b))) := by
  have := ratioMake_any neg false v1 v2 _ _ w h1 h2 (Nt.ok_digs _) (Nt.ok_digs _) (lim_digs d1 s1) (lim_digs d2 s2)
  rwa [Nt.val_digs, Nt.val_digs] at this

theorem digParse_any (s : List UInt8) (w : World) (hs : s.length ≤ 100000) :
    Calls Tryd.prog 11 #[.string ⟨s.toArray⟩] w (MakeOut w (Dg.parse s)) := by
  have CP := fun wx => Tryd.strings_CutPrefix ⟨s.toArray⟩ ⟨#[194, 175]⟩ wx
  rw [show (⟨s.toArray⟩ : ByteArray).data.toList = s from rfl, show (⟨#[194, 175]⟩ : ByteArray).data.toList = [194, 175] from rfl] at CP
  have hcl := cut_len s [194, 175]
  rw [parse_cut]
  have HI3 : Hid (∀ (b : Bool) (A : Option Addr) (k c : Nat) (A' : Option Addr) (k' c' : Nat), (Tryd.prog.info? 24).map (·.size) = some (#[.bool b, .slice A k c, .slice A' k' c'] : Array Value).size) := Lib.hid (fun _ _ _ _ _ _ _ => num_info)
  have HGA : Hid ((w.alloc (.cells #[.bool false, .slice none 0 0, .slice none 0 0] 24)).heap[w.heap.size]? = some (.cells #[.bool false, .slice none 0 0, .slice none 0 0] 24 (0, 0))) := Lib.hid (heap_alloc_new w _)
  have hb0 : Below w.heap.size w (w.alloc (.cells #[.bool false, .slice none 0 0, .slice none 0 0] 24)) := (Below.refl _ _).alloc (Nat.le_refl _) _
  generalize Lib.trimPrefix s [194, 175] = t at *
  generalize Lib.hasPrefix s [194, 175] = neg at *
  have HCP := Lib.hid CP
  have htl : t.length ≤ 100000 := by omega
  clear CP hcl
  obtain ⟨W, hW⟩ : ∃ W, W = w.alloc (.cells #[.bool false, .slice none 0 0, .slice none 0 0] 24) := ⟨_, rfl⟩
  rw [← hW] at HGA hb0
  have HW := Lib.hid hW
  clear hW
  have hsz : (⟨t.toArray⟩ : ByteArray).size = t.length := rfl
  have HSZ := Lib.hid hsz
  clear hsz
  go_enter Tryd.func11, Tryd.ntmps11
  go_wp2_with fail
  rw [← HW.out]
  refine (HCP.out _).mono ?_
  rintro e w' ⟨rfl, rfl⟩
  clear HCP
  by_cases h400 : 400 < t.length
  · have HE : Hid (400 < t.length) := Lib.hid h400
    go_wp2_with (with_reducible refine wpList_store_row rfl 24 (.tmp 2) (.tmp 18) rfl w.heap.size #[.bool false, .slice none 0 0, .slice none 0 0] rfl rfl 24 #[.bool false, .slice none 0 0, .slice none 0 0] HGA.out (HI3.out _ _ _ _ _ _ _) rfl (three_one _ _ _ _ _ _ _) ?_)
    refine bodyPost_ret (results_cell_row_tmp (by rfl) _ _ w.heap.size 24 #[.bool false, .slice none 0 0, .slice none 0 0] (0, 0) _ _ (by rfl) (by rfl) (rheap_same HGA.out) Tryd.underlying24 rfl (HI3.out _ _ _ _ _ _ _)) rfl (MakeOut.of (by unfold Dg.body; rw [if_pos HE.out]; rfl) rfl (isRes_nil _) (isRes_nil _) (rBelow.setRow hb0 (by omega) _))
  · have H400 : Hid (¬ 400 < t.length) := Lib.hid h400
    obtain ⟨n, hn⟩ : ∃ n, n = Dg.lead t := ⟨_, rfl⟩
    have LD := fun (wx : World) => leading_any t wx (by omega)
    have hll := Dg.lead_le t
    rw [← hn] at LD hll
    have LD := Lib.hid LD
    have HN := Lib.hid hn
    clear hn
    go_wp2_with fail
    refine (LD.out _).mono ?_
    rintro e w' ⟨rfl, rfl⟩
    clear LD
    by_cases hl0 : n = 0
    · have hz : ((n : Int) == 0) = true := by rw [hl0]; rfl
      have HE : Hid (Dg.lead t = 0) := Lib.hid (by rw [← HN.out]; exact hl0)
      clear hl0
      go_wp2_with (with_reducible refine wpList_store_row rfl 24 (.tmp 2) (.tmp 23) rfl w.heap.size #[.bool false, .slice none 0 0, .slice none 0 0] rfl rfl 24 #[.bool false, .slice none 0 0, .slice none 0 0] HGA.out (HI3.out _ _ _ _ _ _ _) rfl (three_one _ _ _ _ _ _ _) ?_)
      refine bodyPost_ret (results_cell_row_tmp (by rfl) _ _ w.heap.size 24 #[.bool false, .slice none 0 0, .slice none 0 0] (0, 0) _ _ (by rfl) (by rfl) (rheap_same HGA.out) Tryd.underlying24 rfl (HI3.out _ _ _ _ _ _ _)) rfl (MakeOut.of (by unfold Dg.body; rw [if_neg H400.out, if_pos HE.out]; rfl) rfl (isRes_nil _) (isRes_nil _) (rBelow.setRow hb0 (by omega) _))
    · have hz : ((n : Int) == 0) = false := beq_eq_false_iff_ne.2 (by omega)
      have HL0 : Hid (¬ Dg.lead t = 0) := Lib.hid (by rw [← HN.out]; exact hl0)
      by_cases hlt : n < t.length
      · obtain ⟨y, hy⟩ : ∃ y, y = t[n].toNat := ⟨_, rfl⟩
        have hgy : ((⟨t.toArray⟩ : ByteArray)[n]'(show n < (⟨t.toArray⟩ : ByteArray).size from hlt)).toNat = y := hy.symm
        have HY : Hid (y = (t.getD n 0).toNat) := Lib.hid (by rw [hy, List.getD_eq_getElem?_getD, List.getElem?_eq_getElem hlt]; rfl)
        clear hy
        obtain ⟨ov, hov⟩ : ∃ ov, ov = t.take n := ⟨_, rfl⟩
        obtain ⟨bh, hbh⟩ : ∃ bh, bh = t.drop (n + 1) := ⟨_, rfl⟩
        have hovl : ov.length = n := by rw [hov, List.length_take]; omega
        have hbhl : bh.length = t.length - (n + 1) := by rw [hbh, List.length_drop]
        have hovl2 : ov.length ≤ 400 := by omega
        have hbhl2 : bh.length ≤ 400 := by omega
        have SU : Hid ((⟨t.toArray⟩ : ByteArray).extract 0 n = ⟨ov.toArray⟩) := Lib.hid (by rw [str_upto t n (by omega), hov])
        have SF : Hid ((⟨t.toArray⟩ : ByteArray).extract (n + 1) t.length = ⟨bh.toArray⟩) := Lib.hid (by rw [str_from, hbh])
        have HOV : Hid (ov = t.take (Dg.lead t)) := Lib.hid (by rw [← HN.out]; exact hov)
        have HBH : Hid (bh = t.drop (Dg.lead t + 1)) := Lib.hid (by rw [← HN.out]; exact hbh)
        have HBL : Hid (bh.length = t.length - (Dg.lead t + 1)) := Lib.hid (by rw [← HN.out]; exact hbhl)
        have HNE : Hid (¬ Dg.lead t = t.length) := Lib.hid (by rw [← HN.out]; omega)
        have HO : Hid (ov.length ≤ 1000 ∧ ∀ b ∈ ov, Ten.isDig b) := Lib.hid ⟨by omega, by rw [HOV.out]; exact Dg.lead_take⟩
        have HEQ0 : Hid (Dg.body neg t = if bh.length = 0 ∨ Dg.lead bh < bh.length then (Rt.none_, 1) else if t.getD n 0 = 114 then Rt.mk neg false (Ten.numOf ov) (Ten.numOf bh) else if t.getD n 0 = 46 then Rt.mk neg false (Ten.numOf (ov ++ bh)) (10 ^ bh.length) else (Rt.none_, 1)) := Lib.hid (by
          unfold Dg.body
          rw [if_neg H400.out, if_neg HL0.out, if_neg HNE.out, ← HBL.out, ← HBH.out, ← HOV.out, ← HN.out]
          have e : (t.length = n + 1) = (bh.length = 0) := by rw [eq_iff_iff]; omega
          simp only [e])
        have hw1 : IntKind.i64.wrap ((n : Int) + 1) = (n : Int) + 1 := IntWalk.i64_in _ (by omega)
        have hw2 : (0 : Int) ≤ (n : Int) + 1 := by omega
        have hw3 : (n : Int) + 1 ≤ (t.length : Int) := by omega
        have hw4 : ((n : Int) + 1).toNat = n + 1 := by omega
        have hw5 : (0 : Int) ≤ (n : Int) := by omega
        have hw6 : (n : Int) < (t.length : Int) := by omega
        clear hov hbh hovl hbhl
        go_wp2_with fail
        go_quiet (fail)
        clear hw1 hw2 hw3 hw4 hw5 hw6
        simp only [SU.out, SF.out]
        have hbq : Below w.heap.size w (w'.drewN nq) := bDrewN hb0 nq
        have HGQ : Hid ((w'.drewN nq).heap[w.heap.size]? = some (.cells #[.bool false, .slice none 0 0, .slice none 0 0] 24 (0, 0))) := Lib.hid HGA.out
        generalize w'.drewN nq = wq at *
        by_cases hbe : bh = []
        · have hemp : bh.isEmpty = true := by rw [hbe]; rfl
          have HE : Hid (bh.length = 0) := Lib.hid (by rw [hbe]; rfl)
          subst hbe
          clear SU SF HGA hb0
          go_wp2_with (with_reducible refine wpList_store_row rfl 24 (.tmp 2) (.tmp 47) rfl w.heap.size #[.bool false, .slice none 0 0, .slice none 0 0] rfl rfl 24 #[.bool false, .slice none 0 0, .slice none 0 0] HGQ.out (HI3.out _ _ _ _ _ _ _) rfl (three_one _ _ _ _ _ _ _) ?_)
          refine bodyPost_ret (results_cell_row_tmp (by rfl) _ _ w.heap.size 24 #[.bool false, .slice none 0 0, .slice none 0 0] (0, 0) _ _ (by rfl) (by rfl) (rheap_same HGQ.out) Tryd.underlying24 rfl (HI3.out _ _ _ _ _ _ _)) rfl (MakeOut.of (by rw [HEQ0.out, if_pos (.inl HE.out)]; rfl) rfl (isRes_nil _) (isRes_nil _) (rBelow.setRow hbq (by omega) _))
        · have hemp : bh.isEmpty = false := by cases bh with | nil => exact absurd rfl hbe | cons a r => rfl
          have HBE : Hid (¬ bh.length = 0) := Lib.hid (by cases bh with | nil => exact absurd rfl hbe | cons a r => simp)
          have LB := Lib.hid (fun (wx : World) => leading_any bh wx (by omega))
          clear SU SF HGA hb0
          go_wp2_with fail
          refine (LB.out _).mono ?_
          rintro e w'' ⟨rfl, rfl⟩
          have hlb := Dg.lead_le bh
          by_cases hm : Dg.lead bh < bh.length
          · have HM := Lib.hid hm
            have g1 : decide (Dg.lead bh < bh.length) = true := decide_eq_true hm
            go_wp2_with (with_reducible refine wpList_store_row rfl 24 (.tmp 2) (.tmp 47) rfl w.heap.size #[.bool false, .slice none 0 0, .slice none 0 0] rfl rfl 24 #[.bool false, .slice none 0 0, .slice none 0 0] HGQ.out (HI3.out _ _ _ _ _ _ _) rfl (three_one _ _ _ _ _ _ _) ?_)
            refine bodyPost_ret (results_cell_row_tmp (by rfl) _ _ w.heap.size 24 #[.bool false, .slice none 0 0, .slice none 0 0] (0, 0) _ _ (by rfl) (by rfl) (rheap_same HGQ.out) Tryd.underlying24 rfl (HI3.out _ _ _ _ _ _ _)) rfl (MakeOut.of (by rw [HEQ0.out, if_pos (.inr HM.out)]; rfl) rfl (isRes_nil _) (isRes_nil _) (rBelow.setRow hbq (by omega) _))
          · have g1 : decide (Dg.lead bh < bh.length) = false := decide_eq_false hm
            have HM : Hid (¬ (bh.length = 0 ∨ Dg.lead bh < bh.length)) := Lib.hid (fun h => h.elim HBE.out hm)
            have HBD : Hid (∀ b ∈ bh, Ten.isDig b) := Lib.hid (Dg.lead_full (by omega))
            clear LB hlb
            have HY114 : Hid (y = 114 → t.getD n 0 = 114) := Lib.hid (fun h => UInt8.toNat_inj.1 (by rw [← HY.out, h]; rfl))
            have HY46 : Hid (y = 46 → t.getD n 0 = 46) := Lib.hid (fun h => UInt8.toNat_inj.1 (by rw [← HY.out, h]; rfl))
            have HYN : Hid (∀ b : UInt8, t.getD n 0 = b → y = b.toNat) := Lib.hid (fun b h => by rw [HY.out, h])
            by_cases h114 : y = 114
            · have HD := Lib.hid (HY114.out h114)
              have q114 : ((y : Int) == 114) = true := by rw [h114]; rfl
              have HU : Hid (bh.length ≤ 1000 ∧ ∀ b ∈ bh, Ten.isDig b) := Lib.hid ⟨by omega, HBD.out⟩
              clear h114
              have NO := Lib.hid (fun (wx : World) => number_any ov wx HO.out.1 HO.out.2)
              have NU := Lib.hid (fun (wx : World) => number_any bh wx HU.out.1 HU.out.2)
              go_wp2_with fail
              refine (NO.out _).mono ?_
              rintro e w2 ⟨v1, rfl, hr1, hb2⟩
              have HR1 := Lib.hid hr1
              have HG2 := Lib.hid ((hb2.block w.heap.size (blk_lt HGQ.out)).trans HGQ.out)
              have hbw2 := hbq.trans (hb2.mono hbq.size)
              obtain ⟨A1, c1, rfl, -⟩ := hr1
              go_wp2_with fail
              refine (NU.out _).mono ?_
              rintro e w3 ⟨v2, rfl, hr2, hb3⟩
              have MK := Lib.hid (makeOf_any neg _ _ ov bh w3 (HR1.out.below hb3) hr2 HO.out.2 HU.out.2 HO.out.1 HU.out.1)
              have HG3 := Lib.hid ((hb3.block w.heap.size (blk_lt HG2.out)).trans HG2.out)
              have hbw3 := hbw2.trans (hb3.mono hbw2.size)
              obtain ⟨A2, c2, rfl, -⟩ := hr2
              clear hb2 hb3 HG2 hbw2 HR1
              go_wp2_with fail
              refine MK.out.mono ?_
              rintro e w4 ⟨r1, r2, rfl, hr3, hr4, hb4⟩
              have HG4 := Lib.hid ((hb4.block w.heap.size (blk_lt HG3.out)).trans HG3.out)
              have hbw4 := hbw3.trans (hb4.mono hbw3.size)
              have HR3 := Lib.hid (hr3.setRow HG4.out (three_no_int _ _ _ _ _ _ _) #[.bool (Rt.mk neg false (Ten.numOf ov) (Ten.numOf bh)).1.neg, r1, r2])
              have HR4 := Lib.hid (hr4.setRow HG4.out (three_no_int _ _ _ _ _ _ _) #[.bool (Rt.mk neg false (Ten.numOf ov) (Ten.numOf bh)).1.neg, r1, r2])
              have HEQ := Lib.hid (show Dg.body neg t = Rt.mk neg false (Ten.numOf ov) (Ten.numOf bh) by rw [HEQ0.out, if_neg HM.out, if_pos HD.out])
              obtain ⟨A3, c3, rfl, -⟩ := hr3
              obtain ⟨A4, c4, rfl, -⟩ := hr4
              clear MK hb4 HG3 hbw3
              generalize Rt.mk neg false (Ten.numOf ov) (Ten.numOf bh) = R at *
              obtain ⟨⟨rn, rt, rb⟩, re⟩ := R
              dsimp only at HR3 HR4 HEQ ⊢
              go_wp2_with (with_reducible refine wpList_store_row rfl 24 (.tmp 2) (.tmp 71) rfl w.heap.size #[.bool rn, .slice A3 rt.length c3, .slice A4 rb.length c4] rfl rfl 24 #[.bool false, .slice none 0 0, .slice none 0 0] HG4.out (HI3.out _ _ _ _ _ _ _) rfl (three_one _ _ _ _ _ _ _) ?_)
              refine bodyPost_ret (results_cell_row_tmp (by rfl) _ _ w.heap.size 24 #[.bool rn, .slice A3 rt.length c3, .slice A4 rb.length c4] (0, 0) _ _ (by rfl) (by rfl) (rheap_same HG4.out) Tryd.underlying24 rfl (HI3.out _ _ _ _ _ _ _)) rfl (MakeOut.of HEQ.out rfl HR3.out HR4.out (rBelow.setRow hbw4 (by omega) _))
            · have q114 : ((y : Int) == 114) = false := beq_eq_false_iff_ne.2 (by omega)
              have HD1 : Hid (¬ t.getD n 0 = 114) := Lib.hid (fun h => h114 (HYN.out _ h))
              clear h114
              by_cases h46 : y = 46
              · have HD := Lib.hid (HY46.out h46)
                have q46 : ((y : Int) == 46) = true := by rw [h46]; rfl
                have RP := Tryd.strings_Repeat ⟨#[48]⟩ bh.length wq (by omega) (by show 1 * bh.length ≤ _; omega)
                rw [show (⟨#[48]⟩ : ByteArray).data.toList = [48] from rfl, rep_eq] at RP
                obtain ⟨ZR, hZR⟩ : ∃ ZR, ZR = List.replicate bh.length (48 : UInt8) := ⟨_, rfl⟩
                obtain ⟨o2, ho2⟩ : ∃ o2, o2 = ov ++ bh := ⟨_, rfl⟩
                obtain ⟨u2, hu2⟩ : ∃ u2, u2 = (49 : UInt8) :: ZR := ⟨_, rfl⟩
                rw [← hZR] at RP
                have hZl : ZR.length = bh.length := by rw [hZR, List.length_replicate]
                have hZl2 : ZR.length ≤ 400 := by omega
                have HN2 : Hid (Ten.numOf u2 = 10 ^ bh.length) := Lib.hid (by rw [hu2, hZR]; exact Dg.numOf_zeros _)
                have SO2 : Hid ((⟨ov.toArray⟩ : ByteArray) ++ ⟨bh.toArray⟩ = ⟨o2.toArray⟩) := Lib.hid (by apply ByteArray.ext; rw [ho2]; simp)
                have SU2 : Hid ((⟨#[49]⟩ : ByteArray) ++ ⟨ZR.toArray⟩ = ⟨u2.toArray⟩) := Lib.hid (by apply ByteArray.ext; rw [hu2]; simp)
                have HO2 : Hid (o2.length ≤ 1000 ∧ ∀ b ∈ o2, Ten.isDig b) := Lib.hid ⟨by rw [ho2, List.length_append]; omega, by
                  intro b hb; rw [ho2] at hb; rcases List.mem_append.1 hb with hb | hb
                  · exact HO.out.2 b hb
                  · exact HBD.out b hb⟩
                have HU : Hid (u2.length ≤ 1000 ∧ ∀ b ∈ u2, Ten.isDig b) := Lib.hid ⟨by rw [hu2, List.length_cons]; omega, by
                  intro b hb; rw [hu2, hZR] at hb; rcases List.mem_cons.1 hb with rfl | hb
                  · exact ⟨by decide, by decide⟩
                  · rw [List.eq_of_mem_replicate hb]; exact ⟨by decide, by decide⟩⟩
                have HEV : Hid (Dg.body neg t = Rt.mk neg false (Ten.numOf o2) (Ten.numOf u2)) := Lib.hid (by rw [HEQ0.out, if_neg HM.out, if_neg HD1.out, if_pos HD.out, HN2.out, ho2])
                have HRP := Lib.hid RP
                clear h46 hZR ho2 hu2 RP hZl HO
                have HO := HO2
                clear HO2
                go_wp2_with fail
                refine HRP.out.mono ?_
                rintro e w7 ⟨rfl, hb7⟩
                have HG7 := Lib.hid ((hb7.block w.heap.size (blk_lt HGQ.out)).trans HGQ.out)
                have hbw7 := hbq.trans (hb7.mono hbq.size)
                clear hb7 HRP hbq HGQ
                simp only [SO2.out]
                have NO := Lib.hid (fun (wx : World) => number_any o2 wx HO.out.1 HO.out.2)
                have NU := Lib.hid (fun (wx : World) => number_any u2 wx HU.out.1 HU.out.2)
                go_wp2_with fail
                simp only [SU2.out, SO2.out]
                refine (NO.out _).mono ?_
                rintro e w2 ⟨v1, rfl, hr1, hb2⟩
                have HR1 := Lib.hid hr1
                have HG2 := Lib.hid ((hb2.block w.heap.size (blk_lt HG7.out)).trans HG7.out)
                have hbw2 := hbw7.trans (hb2.mono hbw7.size)
                obtain ⟨A1, c1, rfl, -⟩ := hr1
                go_wp2_with fail
                refine (NU.out _).mono ?_
                rintro e w3 ⟨v2, rfl, hr2, hb3⟩
                have MK := Lib.hid (makeOf_any neg _ _ o2 u2 w3 (HR1.out.below hb3) hr2 HO.out.2 HU.out.2 HO.out.1 HU.out.1)
                have HG3 := Lib.hid ((hb3.block w.heap.size (blk_lt HG2.out)).trans HG2.out)
                have hbw3 := hbw2.trans (hb3.mono hbw2.size)
                obtain ⟨A2, c2, rfl, -⟩ := hr2
                clear hb2 hb3 HG2 hbw2 HR1
                go_wp2_with fail
                refine MK.out.mono ?_
                rintro e w4 ⟨r1, r2, rfl, hr3, hr4, hb4⟩
                have HG4 := Lib.hid ((hb4.block w.heap.size (blk_lt HG3.out)).trans HG3.out)
                have hbw4 := hbw3.trans (hb4.mono hbw3.size)
                have HR3 := Lib.hid (hr3.setRow HG4.out (three_no_int _ _ _ _ _ _ _) #[.bool (Rt.mk neg false (Ten.numOf o2) (Ten.numOf u2)).1.neg, r1, r2])
                have HR4 := Lib.hid (hr4.setRow HG4.out (three_no_int _ _ _ _ _ _ _) #[.bool (Rt.mk neg false (Ten.numOf o2) (Ten.numOf u2)).1.neg, r1, r2])
                have HEQ := Lib.hid (show Dg.body neg t = Rt.mk neg false (Ten.numOf o2) (Ten.numOf u2) by exact HEV.out)
                obtain ⟨A3, c3, rfl, -⟩ := hr3
                obtain ⟨A4, c4, rfl, -⟩ := hr4
                clear MK hb4 HG3 hbw3
                generalize Rt.mk neg false (Ten.numOf o2) (Ten.numOf u2) = R at *
                obtain ⟨⟨rn, rt, rb⟩, re⟩ := R
                dsimp only at HR3 HR4 HEQ ⊢
                go_wp2_with (with_reducible refine wpList_store_row rfl 24 (.tmp 2) (.tmp 71) rfl w.heap.size #[.bool rn, .slice A3 rt.length c3, .slice A4 rb.length c4] rfl rfl 24 #[.bool false, .slice none 0 0, .slice none 0 0] HG4.out (HI3.out _ _ _ _ _ _ _) rfl (three_one _ _ _ _ _ _ _) ?_)
                refine bodyPost_ret (results_cell_row_tmp (by rfl) _ _ w.heap.size 24 #[.bool rn, .slice A3 rt.length c3, .slice A4 rb.length c4] (0, 0) _ _ (by rfl) (by rfl) (rheap_same HG4.out) Tryd.underlying24 rfl (HI3.out _ _ _ _ _ _ _)) rfl (MakeOut.of HEQ.out rfl HR3.out HR4.out (rBelow.setRow hbw4 (by omega) _))
              · have q46 : ((y : Int) == 46) = false := beq_eq_false_iff_ne.2 (by omega)
                have HD2 : Hid (¬ t.getD n 0 = 46) := Lib.hid (fun h => h46 (HYN.out _ h))
                clear h46
                go_wp2_with (with_reducible refine wpList_store_row rfl 24 (.tmp 2) (.tmp 49) rfl w.heap.size #[.bool false, .slice none 0 0, .slice none 0 0] rfl rfl 24 #[.bool false, .slice none 0 0, .slice none 0 0] HGQ.out (HI3.out _ _ _ _ _ _ _) rfl (three_one _ _ _ _ _ _ _) ?_)
                refine bodyPost_ret (results_cell_row_tmp (by rfl) _ _ w.heap.size 24 #[.bool false, .slice none 0 0, .slice none 0 0] (0, 0) _ _ (by rfl) (by rfl) (rheap_same HGQ.out) Tryd.underlying24 rfl (HI3.out _ _ _ _ _ _ _)) rfl (MakeOut.of (by rw [HEQ0.out, if_neg HM.out, if_neg HD1.out, if_neg HD2.out]; rfl) rfl (isRes_nil _) (isRes_nil _) (rBelow.setRow hbq (by omega) _))
      · have HO : Hid (t.length ≤ 1000 ∧ ∀ b ∈ t, Ten.isDig b) := Lib.hid ⟨by omega, Dg.lead_full (by rw [← HN.out]; omega)⟩
        have HU : Hid (([49] : List UInt8).length ≤ 1000 ∧ ∀ b ∈ ([49] : List UInt8), Ten.isDig b) := Lib.hid ⟨by decide, by intro b hb; rw [List.mem_singleton] at hb; subst hb; exact ⟨by decide, by decide⟩⟩
        have HLE : Hid (n = t.length) := Lib.hid (by omega)
        have hst : (⟨t.toArray⟩ : ByteArray).extract 0 n = ⟨t.toArray⟩ := by rw [str_upto t n (by omega), HLE.out, List.take_length]
        have HST := Lib.hid hst
        clear hst
        go_wp2_with fail
        rw [HST.out]
        have NO := Lib.hid (fun (wx : World) => number_any t wx HO.out.1 HO.out.2)
        have NU := Lib.hid (fun (wx : World) => number_any [49] wx HU.out.1 HU.out.2)
        go_wp2_with fail
        refine (NO.out _).mono ?_
        rintro e w2 ⟨v1, rfl, hr1, hb2⟩
        have HR1 := Lib.hid hr1
        have HG2 := Lib.hid ((hb2.block w.heap.size (blk_lt HGA.out)).trans HGA.out)
        have hbw2 := hb0.trans (hb2.mono hb0.size)
        obtain ⟨A1, c1, rfl, -⟩ := hr1
        go_wp2_with fail
        refine (NU.out _).mono ?_
        rintro e w3 ⟨v2, rfl, hr2, hb3⟩
        have MK := Lib.hid (makeOf_any neg _ _ t [49] w3 (HR1.out.below hb3) hr2 HO.out.2 HU.out.2 HO.out.1 HU.out.1)
        have HG3 := Lib.hid ((hb3.block w.heap.size (blk_lt HG2.out)).trans HG2.out)
        have hbw3 := hbw2.trans (hb3.mono hbw2.size)
        obtain ⟨A2, c2, rfl, -⟩ := hr2
        clear hb2 hb3 HG2 hbw2 HR1
        go_wp2_with fail
        refine MK.out.mono ?_
        rintro e w4 ⟨r1, r2, rfl, hr3, hr4, hb4⟩
        have HG4 := Lib.hid ((hb4.block w.heap.size (blk_lt HG3.out)).trans HG3.out)
        have hbw4 := hbw3.trans (hb4.mono hbw3.size)
        have HR3 := Lib.hid (hr3.setRow HG4.out (three_no_int _ _ _ _ _ _ _) #[.bool (Rt.mk neg false (Ten.numOf t) (Ten.numOf [49])).1.neg, r1, r2])
        have HR4 := Lib.hid (hr4.setRow HG4.out (three_no_int _ _ _ _ _ _ _) #[.bool (Rt.mk neg false (Ten.numOf t) (Ten.numOf [49])).1.neg, r1, r2])
        have HEQ := Lib.hid (show Dg.body neg t = Rt.mk neg false (Ten.numOf t) (Ten.numOf [49]) by unfold Dg.body; rw [if_neg H400.out, if_neg HL0.out, if_pos (by rw [← HN.out]; exact HLE.out), numOf_one])
        obtain ⟨A3, c3, rfl, -⟩ := hr3
        obtain ⟨A4, c4, rfl, -⟩ := hr4
        clear MK hb4 HG3 hbw3
        generalize Rt.mk neg false (Ten.numOf t) (Ten.numOf [49]) = R at *
        obtain ⟨⟨rn, rt, rb⟩, re⟩ := R
        dsimp only at HR3 HR4 HEQ ⊢
        go_wp2_with (with_reducible refine wpList_store_row rfl 24 (.tmp 2) (.tmp 71) rfl w.heap.size #[.bool rn, .slice A3 rt.length c3, .slice A4 rb.length c4] rfl rfl 24 #[.bool false, .slice none 0 0, .slice none 0 0] HG4.out (HI3.out _ _ _ _ _ _ _) rfl (three_one _ _ _ _ _ _ _) ?_)
        refine bodyPost_ret (results_cell_row_tmp (by rfl) _ _ w.heap.size 24 #[.bool rn, .slice A3 rt.length c3, .slice A4 rb.length c4] (0, 0) _ _ (by rfl) (by rfl) (rheap_same HG4.out) Tryd.underlying24 rfl (HI3.out _ _ _ _ _ _ _)) rfl (MakeOut.of HEQ.out rfl HR3.out HR4.out (rBelow.setRow hbw4 (by omega) _))
end Go.Proofs.YtfiefglagknclaaDoor

/-
  scrimref05.Parse: the document's number of a text. (Printed by wip/bin/gen_dig10.py.)
-/
namespace Go.Proofs.YtfiefglagknclaaDoor
open Go.RowKit
set_option maxHeartbeats 4000000
set_option maxRecDepth 100000
set_option linter.unusedVariables false

theorem cut_yes {s : List UInt8} (h : 2 ≤ s.length) (h0 : s[0].toNat = 194) (h1 : s[1].toNat = 175) : Lib.hasPrefix s [194, 175] = true ∧ Lib.trimPrefix s [194, 175] = s.drop 2 := by
  match s, h with
  | a :: b :: t, _ =>
    simp at h0 h1
    have e0 : a = 194 := UInt8.toNat_inj.1 h0
    have e1 : b = 175 := UInt8.toNat_inj.1 h1
    subst e0 e1
    exact ⟨rfl, rfl⟩
theorem cut_no {s : List UInt8} (h : ∀ h : 2 ≤ s.length, ¬ (s[0].toNat = 194 ∧ s[1].toNat = 175)) : Lib.hasPrefix s [194, 175] = false ∧ Lib.trimPrefix s [194, 175] = s := by
  have hp : Lib.hasPrefix s [194, 175] = false := by
    unfold Lib.hasPrefix
    match s, h with
    | [], _ => rfl
    | [a], _ => simp [List.isPrefixOf]
    | a :: b :: t, h =>
      simp [List.isPrefixOf]
      intro e0 e1
      exact h (by simp) ⟨by simp [← e0], by simp [← e1]⟩
  refine ⟨hp, ?_⟩
  unfold Lib.trimPrefix
  rw [hp]; rfl
theorem resL_num {w : World} {v : Value} {t : List UInt8} (h : IsRes w v (Nt.digs (Ten.numOf t))) (hd : ∀ b ∈ t, Ten.isDig b) (hs : t.length ≤ 500) : ResL w v (Nt.digs (Ten.numOf t)) := ⟨h, Nt.ok_digs _, by have := Dg.limbs_le hd 56 (by omega); omega⟩
theorem rmake_any (neg : Bool) (v1 v2 : Value) (x y : Nat) (w : World) (h1 : ResL w v1 (Nt.digs x)) (h2 : ResL w v2 (Nt.digs y)) :
    Calls Tryd.prog 24 #[.agg #[.bool neg, v1], .agg #[.bool false, v2]] w (MakeOut w (Rt.mk neg false x y)) := by
  have := make_any neg false v1 v2 _ _ w h1 h2
  rwa [Nt.val_digs, Nt.val_digs] at this

theorem setRow3 {w : World} {g : Nat} {t : TypeId} {x y z : Value} (h : w.heap[g]? = some (.cells #[x, y, z] t (0, 0))) (a b c : Value) : ((w.setCell ⟨g, 0, none⟩ a).setCell ⟨g, 1, none⟩ b).setCell ⟨g, 2, none⟩ c = w.setRow g #[a, b, c] := by
  obtain ⟨heap, os, tape, output, drawn⟩ := w
  simp only [World.setCell, World.setRow] at h ⊢
  congr 1
  apply Array.ext_getElem?
  intro i
  simp only [Array.getElem?_modify]
  by_cases e : g = i
  · subst e
    simp [h]
  · simp [e]
theorem refParse5_any (s : List UInt8) (w : World) (hs : s.length ≤ 100000) :
    Calls Tryd.prog 14 #[.string ⟨s.toArray⟩] w (MakeOut w (Dg.parse s)) := by
  rw [parse_cut]
  have hcl := cut_len s [194, 175]
  have HI3 : Hid (∀ (b : Bool) (A : Option Addr) (k c : Nat) (A' : Option Addr) (k' c' : Nat), (Tryd.prog.info? 24).map (·.size) = some (#[.bool b, .slice A k c, .slice A' k' c'] : Array Value).size) := Lib.hid (fun _ _ _ _ _ _ _ => num_info)
  have HGA : Hid ((w.alloc (.cells #[.bool false, .slice none 0 0, .slice none 0 0] 24)).heap[w.heap.size]? = some (.cells #[.bool false, .slice none 0 0, .slice none 0 0] 24 (0, 0))) := Lib.hid (heap_alloc_new w _)
  have hb0 : Below w.heap.size w (w.alloc (.cells #[.bool false, .slice none 0 0, .slice none 0 0] 24)) := (Below.refl _ _).alloc (Nat.le_refl _) _
  have HYES := Lib.hid (fun h h0 h1 => cut_yes (s := s) h h0 h1)
  have HNO := Lib.hid (fun h => cut_no (s := s) h)
  have HSF := Lib.hid (str_from s 2)
  generalize Lib.trimPrefix s [194, 175] = t at *
  generalize Lib.hasPrefix s [194, 175] = neg at *
  have htl : t.length ≤ 100000 := by omega
  clear hcl
  obtain ⟨W, hW⟩ : ∃ W, W = w.alloc (.cells #[.bool false, .slice none 0 0, .slice none 0 0] 24) := ⟨_, rfl⟩
  rw [← hW] at HGA hb0
  have HW := Lib.hid hW
  clear hW
  have hsz : (⟨t.toArray⟩ : ByteArray).size = t.length := rfl
  have HSZ := Lib.hid hsz
  clear hsz
  go_enter Tryd.func14, Tryd.ntmps14
  go_upto_region 1 with fail
  rw [← HW.out]
  go_cut [4] from 9 (fun n wx => n = .bool neg ∧ wx = W ∧ Hid ((neg = true → t = s.drop 2 ∧ 2 ≤ s.length) ∧ (neg = false → t = s)))
  case first =>
    by_cases h2 : 2 ≤ s.length
    · obtain ⟨x0, hx0⟩ : ∃ x, x = s[0].toNat := ⟨_, rfl⟩
      obtain ⟨x1, hx1⟩ : ∃ x, x = s[1].toNat := ⟨_, rfl⟩
      have g0 : ((⟨s.toArray⟩ : ByteArray)[0]'(show 0 < (⟨s.toArray⟩ : ByteArray).size from by show 0 < s.length; omega)).toNat = x0 := hx0.symm
      have g1 : ((⟨s.toArray⟩ : ByteArray)[1]'(show 1 < (⟨s.toArray⟩ : ByteArray).size from by show 1 < s.length; omega)).toNat = x1 := hx1.symm
      have i0 : 0 < s.length := by omega
      have i1 : 1 < s.length := by omega
      have HX0 := Lib.hid hx0
      have HX1 := Lib.hid hx1
      clear hx0 hx1
      by_cases e0 : x0 = 194
      · have q0 : ((x0 : Int) == 194) = true := by rw [e0]; rfl
        by_cases e1 : x1 = 175
        · have q1 : ((x1 : Int) == 175) = true := by rw [e1]; rfl
          have HP := Lib.hid (HYES.out h2 (by rw [← HX0.out]; exact e0) (by rw [← HX1.out]; exact e1))
          have HH2 := Lib.hid h2
          clear e0 e1
          go_wp2_with fail
          go_meet
          exact ⟨by rw [HP.out.1], rfl, Lib.hid ⟨fun _ => ⟨HP.out.2, HH2.out⟩, (fun h => by rw [HP.out.1] at h; cases h)⟩⟩
        · have q1 : ((x1 : Int) == 175) = false := beq_eq_false_iff_ne.2 (by omega)
          have HP := Lib.hid (HNO.out (fun _ h => e1 (by rw [HX1.out]; exact h.2)))
          clear e0 e1
          go_wp2_with fail
          go_meet
          exact ⟨by rw [HP.out.1], rfl, Lib.hid ⟨(fun h => by rw [HP.out.1] at h; cases h), fun _ => HP.out.2⟩⟩
      · have q0 : ((x0 : Int) == 194) = false := beq_eq_false_iff_ne.2 (by omega)
        have HP := Lib.hid (HNO.out (fun _ h => e0 (by rw [HX0.out]; exact h.1)))
        clear e0
        go_wp2_with fail
        go_meet
        exact ⟨by rw [HP.out.1], rfl, Lib.hid ⟨(fun h => by rw [HP.out.1] at h; cases h), fun _ => HP.out.2⟩⟩
    · have HP := Lib.hid (HNO.out (fun h _ => h2 h))
      go_wp2_with fail
      go_meet
      exact ⟨by rw [HP.out.1], rfl, Lib.hid ⟨(fun h => by rw [HP.out.1] at h; cases h), fun _ => HP.out.2⟩⟩
  case rest =>
    obtain ⟨rfl, rfl, HC⟩ := hcut
    rename World => W
    go_upto_if 22 with fail
    go_cut [0] from 9 (fun x wx => x = .string ⟨t.toArray⟩ ∧ wx = W)
    case first =>
      cases neg
      · have HT := Lib.hid (HC.out.2 rfl)
        go_wp2_with fail
        go_meet
        exact ⟨by rw [HT.out], rfl⟩
      · have HT := Lib.hid (HC.out.1 rfl)
        have h2 : 2 ≤ s.length := HT.out.2
        go_wp2_with fail
        go_meet
        exact ⟨by rw [HSF.out, HT.out.1], rfl⟩
    case rest =>
      obtain ⟨rfl, rfl⟩ := hcut
      rename World => W
      clear HC HSF HYES HNO
      by_cases h400 : 400 < t.length
      · have HE : Hid (400 < t.length) := Lib.hid h400
        go_wp2_with (with_reducible refine wpList_store_row rfl 24 (.tmp 2) (.tmp 28) rfl w.heap.size #[.bool false, .slice none 0 0, .slice none 0 0] rfl rfl 24 #[.bool false, .slice none 0 0, .slice none 0 0] HGA.out (HI3.out _ _ _ _ _ _ _) rfl (three_one _ _ _ _ _ _ _) ?_)
        refine bodyPost_ret (results_cell_row_tmp (by rfl) _ _ w.heap.size 24 #[.bool false, .slice none 0 0, .slice none 0 0] (0, 0) _ _ (by rfl) (by rfl) (rheap_same HGA.out) Tryd.underlying24 rfl (HI3.out _ _ _ _ _ _ _)) rfl (MakeOut.of (by unfold Dg.body; rw [if_pos HE.out]; rfl) rfl (isRes_nil _) (isRes_nil _) (rBelow.setRow hb0 (by omega) _))
      · have H400 : Hid (¬ 400 < t.length) := Lib.hid h400
        obtain ⟨n, hn⟩ : ∃ n, n = Dg.lead t := ⟨_, rfl⟩
        have LD := fun (wx : World) => refDigits_any t 0 wx (by omega) (by omega)
        rw [List.drop_zero] at LD
        have hll := Dg.lead_le t
        rw [← hn] at LD hll
        have LD : Hid (∀ wx : World, Calls Tryd.prog 37 #[.string ⟨t.toArray⟩, .int .i64 0] wx fun e w' => e = .returned (.int .i64 (n : Int)) ∧ wx = w') := Lib.hid LD
        have HN := Lib.hid hn
        clear hn
        go_wp2_with fail
        refine (LD.out _).mono ?_
        rintro e w' ⟨rfl, rfl⟩
        clear LD
        by_cases hl0 : n = 0
        · have hz : ((n : Int) == 0) = true := by rw [hl0]; rfl
          have HE : Hid (Dg.lead t = 0) := Lib.hid (by rw [← HN.out]; exact hl0)
          clear hl0
          go_wp2_with (with_reducible refine wpList_store_row rfl 24 (.tmp 2) (.tmp 33) rfl w.heap.size #[.bool false, .slice none 0 0, .slice none 0 0] rfl rfl 24 #[.bool false, .slice none 0 0, .slice none 0 0] HGA.out (HI3.out _ _ _ _ _ _ _) rfl (three_one _ _ _ _ _ _ _) ?_)
          refine bodyPost_ret (results_cell_row_tmp (by rfl) _ _ w.heap.size 24 #[.bool false, .slice none 0 0, .slice none 0 0] (0, 0) _ _ (by rfl) (by rfl) (rheap_same HGA.out) Tryd.underlying24 rfl (HI3.out _ _ _ _ _ _ _)) rfl (MakeOut.of (by unfold Dg.body; rw [if_neg H400.out, if_pos HE.out]; rfl) rfl (isRes_nil _) (isRes_nil _) (rBelow.setRow hb0 (by omega) _))
        · have hz : ((n : Int) == 0) = false := beq_eq_false_iff_ne.2 (by omega)
          have HL0 : Hid (¬ Dg.lead t = 0) := Lib.hid (by rw [← HN.out]; exact hl0)
          by_cases hlt : n < t.length
          · obtain ⟨y, hy⟩ : ∃ y, y = t[n].toNat := ⟨_, rfl⟩
            have hgy : ((⟨t.toArray⟩ : ByteArray)[n]'(show n < (⟨t.toArray⟩ : ByteArray).size from hlt)).toNat = y := hy.symm
            have HY : Hid (y = (t.getD n 0).toNat) := Lib.hid (by rw [hy, List.getD_eq_getElem?_getD, List.getElem?_eq_getElem hlt]; rfl)
            clear hy
            obtain ⟨ov, hov⟩ : ∃ ov, ov = t.take n := ⟨_, rfl⟩
            obtain ⟨bh, hbh⟩ : ∃ bh, bh = t.drop (n + 1) := ⟨_, rfl⟩
            have hovl : ov.length = n := by rw [hov, List.length_take]; omega
            have hbhl : bh.length = t.length - (n + 1) := by rw [hbh, List.length_drop]
            have HOL := Lib.hid hovl
            have hovl2 : ov.length ≤ 400 := by omega
            have hov0 : 0 < ov.length := by omega
            have hbhl2 : bh.length ≤ 400 := by omega
            have SU : Hid ((⟨t.toArray⟩ : ByteArray).extract 0 n = ⟨ov.toArray⟩) := Lib.hid (by rw [str_upto t n (by omega), hov])
            have SF : Hid ((⟨t.toArray⟩ : ByteArray).extract (n + 1) t.length = ⟨bh.toArray⟩) := Lib.hid (by rw [str_from, hbh])
            have HOV : Hid (ov = t.take (Dg.lead t)) := Lib.hid (by rw [← HN.out]; exact hov)
            have HBH : Hid (bh = t.drop (Dg.lead t + 1)) := Lib.hid (by rw [← HN.out]; exact hbh)
            have HBL : Hid (bh.length = t.length - (Dg.lead t + 1)) := Lib.hid (by rw [← HN.out]; exact hbhl)
            have HNE : Hid (¬ Dg.lead t = t.length) := Lib.hid (by rw [← HN.out]; omega)
            have HO : Hid (ov.length ≤ 500 ∧ ∀ b ∈ ov, Ten.isDig b) := Lib.hid ⟨by omega, by rw [HOV.out]; exact Dg.lead_take⟩
            have LB := fun (wx : World) => refDigits_any t (n + 1) wx (by omega) (by omega)
            rw [← hbh] at LB
            obtain ⟨m, hm⟩ : ∃ m, m = Dg.lead bh := ⟨_, rfl⟩
            have hml := Dg.lead_le bh
            rw [← hm] at LB hml
            have LB := Lib.hid LB
            have HM0 := Lib.hid hm
            have HEQ0 : Hid (Dg.body neg t = if m = 0 ∨ m < bh.length then (Rt.none_, 1) else if t.getD n 0 = 114 then Rt.mk neg false (Ten.numOf ov) (Ten.numOf bh) else if t.getD n 0 = 46 then Rt.mk neg false (Ten.numOf (ov ++ bh)) (10 ^ bh.length) else (Rt.none_, 1)) := Lib.hid (by
              unfold Dg.body
              rw [if_neg H400.out, if_neg HL0.out, if_neg HNE.out, ← HBL.out, ← HBH.out, ← HOV.out, ← HN.out, ← hm]
              have e : (t.length = n + 1 ∨ m < bh.length) = (m = 0 ∨ m < bh.length) := by rw [eq_iff_iff]; omega
              simp only [e])
            have HTL : Hid (n + 1 + bh.length = t.length) := Lib.hid (by omega)
            have hw5 : (n : Int) + 1 ≤ (t.length : Int) := by omega
            have q : ((n : Int) == (t.length : Int)) = false := beq_eq_false_iff_ne.2 (by omega)
            have hn0 : n ≤ 400 := by omega
            have hm0 : m ≤ 400 := by omega
            clear hov hbh hovl hbhl hm
            go_wp2_with fail
            refine (LB.out _).mono ?_
            rintro e w'' ⟨rfl, rfl⟩
            clear LB
            by_cases hmz : m = 0
            · have HM : Hid (m = 0 ∨ m < bh.length) := Lib.hid (.inl hmz)
              have q1 : ((m : Int) == 0) = true := by rw [hmz]; rfl
              clear hmz
              go_wp2_with (with_reducible refine wpList_store_row rfl 24 (.tmp 2) (.tmp 73) rfl w.heap.size #[.bool false, .slice none 0 0, .slice none 0 0] rfl rfl 24 #[.bool false, .slice none 0 0, .slice none 0 0] HGA.out (HI3.out _ _ _ _ _ _ _) rfl (three_one _ _ _ _ _ _ _) ?_)
              refine bodyPost_ret (results_cell_row_tmp (by rfl) _ _ w.heap.size 24 #[.bool false, .slice none 0 0, .slice none 0 0] (0, 0) _ _ (by rfl) (by rfl) (rheap_same HGA.out) Tryd.underlying24 rfl (HI3.out _ _ _ _ _ _ _)) rfl (MakeOut.of (by rw [HEQ0.out, if_pos HM.out]; rfl) rfl (isRes_nil _) (isRes_nil _) (rBelow.setRow hb0 (by omega) _))
            · have q1 : ((m : Int) == 0) = false := beq_eq_false_iff_ne.2 (by omega)
              by_cases hmb : m < bh.length
              · have HM : Hid (m = 0 ∨ m < bh.length) := Lib.hid (.inr hmb)
                have q2 : ((n : Int) + 1 + (m : Int) != (t.length : Int)) = true := by have := HTL.out; simp; omega
                clear hmz hmb
                go_wp2_with (with_reducible refine wpList_store_row rfl 24 (.tmp 2) (.tmp 73) rfl w.heap.size #[.bool false, .slice none 0 0, .slice none 0 0] rfl rfl 24 #[.bool false, .slice none 0 0, .slice none 0 0] HGA.out (HI3.out _ _ _ _ _ _ _) rfl (three_one _ _ _ _ _ _ _) ?_)
                refine bodyPost_ret (results_cell_row_tmp (by rfl) _ _ w.heap.size 24 #[.bool false, .slice none 0 0, .slice none 0 0] (0, 0) _ _ (by rfl) (by rfl) (rheap_same HGA.out) Tryd.underlying24 rfl (HI3.out _ _ _ _ _ _ _)) rfl (MakeOut.of (by rw [HEQ0.out, if_pos HM.out]; rfl) rfl (isRes_nil _) (isRes_nil _) (rBelow.setRow hb0 (by omega) _))
              · have HM : Hid (¬ (m = 0 ∨ m < bh.length)) := Lib.hid (fun h => h.elim hmz hmb)
                have HMB : Hid (m = bh.length) := Lib.hid (by omega)
                have q2 : ((n : Int) + 1 + (m : Int) != (t.length : Int)) = false := by have := HTL.out; simp; omega
                have hbh0 : 0 < bh.length := by omega
                have HBD : Hid (∀ b ∈ bh, Ten.isDig b) := Lib.hid (Dg.lead_full (by rw [← HM0.out]; omega))
                have HY114 : Hid (y = 114 → t.getD n 0 = 114) := Lib.hid (fun h => UInt8.toNat_inj.1 (by rw [← HY.out, h]; rfl))
                have HY46 : Hid (y = 46 → t.getD n 0 = 46) := Lib.hid (fun h => UInt8.toNat_inj.1 (by rw [← HY.out, h]; rfl))
                have HYN : Hid (∀ b : UInt8, t.getD n 0 = b → y = b.toNat) := Lib.hid (fun b h => by rw [HY.out, h])
                clear hmz hmb
                by_cases h114 : y = 114
                · have HD := Lib.hid (HY114.out h114)
                  have q114 : ((y : Int) == 114) = true := by rw [h114]; rfl
                  have q114' : ((y : Int) != 114) = false := by rw [h114]; rfl
                  clear h114
                  have HU : Hid (bh.length ≤ 500 ∧ ∀ b ∈ bh, Ten.isDig b) := Lib.hid ⟨by omega, HBD.out⟩
                  have HEQ : Hid (Dg.body neg t = Rt.mk neg false (Ten.numOf ov) (Ten.numOf bh)) := Lib.hid (by rw [HEQ0.out, if_neg HM.out, if_pos HD.out])
                  have NO := Lib.hid (fun (wx : World) => value_any ov wx (by omega) hov0 HO.out.2)
                  have NU := Lib.hid (fun (wx : World) => value_any bh wx (by omega) hbh0 HU.out.2)
                  have RO := Lib.hid (fun (wx : World) (v : Value) (h : IsRes wx v (Nt.digs (Ten.numOf ov))) => resL_num h HO.out.2 HO.out.1)
                  have RU := Lib.hid (fun (wx : World) (v : Value) (h : IsRes wx v (Nt.digs (Ten.numOf bh))) => resL_num h HU.out.2 HU.out.1)
                  obtain ⟨X, hX⟩ : ∃ X, X = Ten.numOf ov := ⟨_, rfl⟩
                  obtain ⟨Y, hY⟩ : ∃ Y, Y = Ten.numOf bh := ⟨_, rfl⟩
                  rw [← hX] at NO HEQ RO
                  rw [← hY] at NU HEQ RU
                  have MK := Lib.hid (fun (wx : World) v1 v2 h1 h2 => rmake_any neg v1 v2 X Y wx h1 h2)
                  rw [← SU.out] at NO
                  rw [← SF.out] at NU
                  have hw1 : IntKind.i64.wrap ((n : Int) + 1) = (n : Int) + 1 := IntWalk.i64_in _ (by omega)
                  have hw2 : (0 : Int) ≤ (n : Int) + 1 := by omega
                  have hw4 : ((n : Int) + 1).toNat = n + 1 := by omega
                  have hw6 : (0 : Int) ≤ (n : Int) := by omega
                  have hw7 : (n : Int) ≤ (t.length : Int) := by omega
                  have hbd : Below w.heap.size w W.drew := ⟨hb0.os, hb0.tape, hb0.output, hb0.size, hb0.block⟩
                  have HGD : Hid (W.drew.heap[w.heap.size]? = some (.cells #[.bool false, .slice none 0 0, .slice none 0 0] 24 (0, 0))) := Lib.hid HGA.out
                  clear hX hY
                  go_wp2_with fail
                  go_region_held3 (fun w' => True) (trivial)
                    (first
                      | ((with_reducible refine (NO.out _).mono ?_)
                         rintro e wo ⟨v1, rfl, hr1, hbO⟩
                         have HRO := Lib.hid (RO.out _ _ hr1)
                         have HG2 := Lib.hid ((hbO.block w.heap.size (blk_lt HGD.out)).trans HGD.out)
                         have hbw2 := hbd.trans (hbO.mono hbd.size)
                         obtain ⟨A1, c1, rfl, -⟩ := hr1
                         clear hbO)
                      | ((with_reducible refine (NU.out _).mono ?_)
                         rintro e wu ⟨v2, rfl, hr2, hbU⟩
                         have HRU := Lib.hid (RU.out _ _ hr2)
                         have HRO2 := Lib.hid (HRO.out.below hbU)
                         have HG3 := Lib.hid ((hbU.block w.heap.size (blk_lt HG2.out)).trans HG2.out)
                         have hbw3 := hbw2.trans (hbU.mono hbw2.size)
                         obtain ⟨A2, c2, rfl, -⟩ := hr2
                         clear hbU)
                      | ((with_reducible refine (MK.out _ _ _ HRO2.out HRU.out).mono ?_)
                         rintro e w4 ⟨r1, r2, rfl, hr3, hr4, hb4⟩
                         have HG4 := Lib.hid ((hb4.block w.heap.size (blk_lt HG3.out)).trans HG3.out)
                         have hbw4 := hbw3.trans (hb4.mono hbw3.size)
                         have HR3 := Lib.hid (hr3.setRow HG4.out (three_no_int _ _ _ _ _ _ _) #[.bool (Rt.mk neg false X Y).1.neg, r1, r2])
                         have HR4 := Lib.hid (hr4.setRow HG4.out (three_no_int _ _ _ _ _ _ _) #[.bool (Rt.mk neg false X Y).1.neg, r1, r2])
                         obtain ⟨A3, c3, rfl, -⟩ := hr3
                         obtain ⟨A4, c4, rfl, -⟩ := hr4
                         clear hb4 HG3 hbw3
                         generalize Rt.mk neg false X Y = R at *
                         obtain ⟨⟨rn, rt, rb⟩, re⟩ := R
                         dsimp only at HR3 HR4 HEQ ⊢
                         have c0 : w4.cell? ⟨w.heap.size, 0, none⟩ = some (.bool false) := (cell_of_row w4 w.heap.size 0 _ _ _ HG4.out).trans rfl
                         have c1 : w4.cell? ⟨w.heap.size, 1, none⟩ = some (.slice none 0 0) := (cell_of_row w4 w.heap.size 1 _ _ _ HG4.out).trans rfl
                         have c2 : w4.cell? ⟨w.heap.size, 2, none⟩ = some (.slice none 0 0) := (cell_of_row w4 w.heap.size 2 _ _ _ HG4.out).trans rfl
                         have z0 := Blk.frozen (vs := [.bool false, .slice none 0 0, .slice none 0 0]) HG4.out 0
                         have z1 := Blk.frozen (vs := [.bool false, .slice none 0 0, .slice none 0 0]) HG4.out 1
                         have z2 := Blk.frozen (vs := [.bool false, .slice none 0 0, .slice none 0 0]) HG4.out 2)
                      | fail)
                  go_wp2_with fail
                  rw [setRow3 HG4.out]
                  refine bodyPost_ret (results_cell_row_tmp (by rfl) _ _ w.heap.size 24 #[.bool rn, .slice A3 rt.length c3, .slice A4 rb.length c4] (0, 0) _ _ (by rfl) (by rfl) (rheap_same HG4.out) Tryd.underlying24 rfl (HI3.out _ _ _ _ _ _ _)) rfl (MakeOut.of HEQ.out rfl HR3.out HR4.out (rBelow.setRow hbw4 (by omega) _))
                · have q114 : ((y : Int) == 114) = false := beq_eq_false_iff_ne.2 (by omega)
                  have q114' : ((y : Int) != 114) = true := by simp; omega
                  have HD1 : Hid (¬ t.getD n 0 = 114) := Lib.hid (fun h => h114 (HYN.out _ h))
                  clear h114
                  by_cases h46 : y = 46
                  · have HD := Lib.hid (HY46.out h46)
                    have q46 : ((y : Int) != 46) = false := by rw [h46]; rfl
                    clear h46
                    obtain ⟨o2, ho2⟩ : ∃ o2, o2 = ov ++ bh := ⟨_, rfl⟩
                    have SO2 : Hid ((⟨t.toArray⟩ : ByteArray).extract 0 n ++ (⟨t.toArray⟩ : ByteArray).extract (n + 1) t.length = ⟨o2.toArray⟩) := Lib.hid (by rw [SU.out, SF.out]; apply ByteArray.ext; rw [ho2]; simp)
                    have HO2 : Hid (o2.length ≤ 500 ∧ ∀ b ∈ o2, Ten.isDig b) := Lib.hid ⟨by rw [ho2, List.length_append]; have := HTL.out; have := HOL.out; omega, by
                      intro b hb; rw [ho2] at hb; rcases List.mem_append.1 hb with hb | hb
                      · exact HO.out.2 b hb
                      · exact HBD.out b hb⟩
                    have hpos2 : 0 < o2.length := by rw [ho2, List.length_append]; omega
                    have HEQ : Hid (Dg.body neg t = Rt.mk neg false (Ten.numOf o2) (10 ^ m)) := Lib.hid (by rw [HEQ0.out, if_neg HM.out, if_neg HD1.out, if_pos HD.out, HMB.out, ho2])
                    have NO := Lib.hid (fun (wx : World) => value_any o2 wx (by have := HO2.out.1; omega) hpos2 HO2.out.2)
                    have RO := Lib.hid (fun (wx : World) (v : Value) (h : IsRes wx v (Nt.digs (Ten.numOf o2))) => resL_num h HO2.out.2 HO2.out.1)
                    obtain ⟨X, hX⟩ : ∃ X, X = Ten.numOf o2 := ⟨_, rfl⟩
                    rw [← hX] at NO HEQ RO
                    rw [← SO2.out] at NO
                    have HLT : Hid (∀ i, i ≤ m → (Nt.digs (10 ^ i)).length ≤ 64) := Lib.hid (fun i hi => by have := Dg.limbs_ten (k := i) 45 (by omega); omega)
                    have HST : Hid (∀ wx : World, IsRes (wx.alloc (.cells #[.int .u32 1] 70)) (.slice (some ⟨wx.heap.size, 0, none⟩) 1 1) (Nt.digs (10 ^ 0))) := Lib.hid (fun wx => by rw [Nat.pow_zero, digs_one]; exact isRes_new wx [1] (by decide))
                    have HMU : Hid (∀ (wx : World) (v : Value) (i : Nat), i ≤ m → IsRes wx v (Nt.digs (10 ^ i)) → Calls Tryd.prog 40 #[v, .slice (some ⟨wx.heap.size, 0, none⟩) 1 1] (wx.alloc (.cells #[.int .u32 10] 70)) fun e w' => ∃ v', e = .returned v' ∧ IsRes w' v' (Nt.digs (10 ^ (i + 1))) ∧ Below wx.heap.size wx w') := Lib.hid (fun wx v i hi hv => by
                      have hba : Below wx.heap.size wx (wx.alloc (.cells #[.int .u32 10] 70)) := (Below.refl _ _).alloc (Nat.le_refl _) _
                      have := rMul_res (hv.below hba) (isRes_new wx [10] (by decide)) (Nt.ok_digs _) (by intro d hd; rw [List.mem_singleton] at hd; subst hd; decide) (by have := HLT.out i hi; omega) (by decide)
                      rw [Nt.val_digs, show Nt.val [10] = 10 from rfl, ← Nat.pow_succ] at this
                      refine this.mono ?_
                      rintro e w' ⟨v', rfl, hr, hb⟩
                      exact ⟨v', rfl, hr, hba.trans (hb.mono hba.size)⟩)
                    have hw1 : IntKind.i64.wrap ((n : Int) + 1) = (n : Int) + 1 := IntWalk.i64_in _ (by omega)
                    have HW1 := Lib.hid hw1
                    have hbW : Below W.heap.size W (W.alloc (.cells #[.int .u32 1] 70)) := (Below.refl _ _).alloc (Nat.le_refl _) _
                    have HBW := Lib.hid hbW
                    clear hX hw1 ho2 hbW
                    go_wp2_with fail
                    go_loopw [7, 8] (fun bv iv wr => ∃ (i : Nat), i ≤ m ∧ iv = .int .i64 (i : Int) ∧ Hid (IsRes wr bv (Nt.digs (10 ^ i))) ∧ Below W.heap.size W wr) (fun _ iv _ => m - (intOf iv).toNat)
                    case atStart => exact ⟨0, Nat.zero_le _, rfl, Lib.hid (HST.out W), HBW.out⟩
                    case round =>
                      obtain ⟨i, him, rfl, HR, hbr⟩ := hrel
                      have hsr := hbr.size
                      by_cases hi : i < m
                      · have HMU2 := Lib.hid (HMU.out wr u7 i him HR.out)
                        go_wp2_with fail
                        refine HMU2.out.mono ?_
                        rintro e w5 ⟨v', rfl, hr5, hb5⟩
                        have HR5 := Lib.hid hr5
                        have hb6 := hbr.trans (hb5.mono hsr)
                        clear hr5 hb5 HMU2
                        go_wp2_with fail
                        go_roundw
                        case rel => exact ⟨i + 1, by omega, by go_num, HR5, hb6⟩
                        case measure => simp [intOf]; omega
                      · obtain rfl : i = m := by omega
                        have HRL : Hid (ResL wr u7 (Nt.digs (10 ^ i))) := Lib.hid ⟨HR.out, Nt.ok_digs _, HLT.out i (Nat.le_refl _)⟩
                        obtain ⟨A2, c2, rfl, -⟩ := HR.out
                        obtain ⟨Y, hY⟩ : ∃ Y, Y = 10 ^ i := ⟨_, rfl⟩
                        rw [← hY] at HRL HEQ HR ⊢
                        have MK := Lib.hid (fun (wx : World) v1 v2 h1 h2 => rmake_any neg v1 v2 X Y wx h1 h2)
                        have hbd : Below w.heap.size w wr.drew := by
                          have := hb0.trans (hbr.mono hb0.size)
                          exact ⟨this.os, this.tape, this.output, this.size, this.block⟩
                        have HGD : Hid (wr.drew.heap[w.heap.size]? = some (.cells #[.bool false, .slice none 0 0, .slice none 0 0] 24 (0, 0))) := Lib.hid ((hbr.block w.heap.size (blk_lt HGA.out)).trans HGA.out)
                        have HRD : Hid (ResL wr.drew (.slice A2 (Nt.digs Y).length c2) (Nt.digs Y)) := Lib.hid (HRL.out.below ⟨rfl, rfl, rfl, Nat.le_refl _, fun _ _ => rfl⟩)
                        have hw1 := HW1.out
                        have hw2 : (0 : Int) ≤ (n : Int) + 1 := by omega
                        have hw4 : ((n : Int) + 1).toNat = n + 1 := by omega
                        have hw6 : (0 : Int) ≤ (n : Int) := by omega
                        have hw7 : (n : Int) ≤ (t.length : Int) := by omega
                        have hcc : ¬ 9223372036854775807 < n + (t.length - (n + 1)) := by omega
                        clear hY HMU HST HLT HR HRL hi him HEQ0
                        go_wp2_with fail
                        go_region_held3 (fun w' => True) (trivial)
                          (first
                            | ((with_reducible refine (NO.out _).mono ?_)
                               rintro e wo ⟨v1, rfl, hr1, hbO⟩
                               have HRO := Lib.hid (RO.out _ _ hr1)
                               have HRU := Lib.hid (HRD.out.below hbO)
                               have HG3 := Lib.hid ((hbO.block w.heap.size (blk_lt HGD.out)).trans HGD.out)
                               have hbw3 := hbd.trans (hbO.mono hbd.size)
                               obtain ⟨A1, c1, rfl, -⟩ := hr1
                               clear hbO)
                            | ((with_reducible refine (MK.out _ _ _ HRO.out HRU.out).mono ?_)
                               rintro e w4 ⟨r1, r2, rfl, hr3, hr4, hb4⟩
                               have HG4 := Lib.hid ((hb4.block w.heap.size (blk_lt HG3.out)).trans HG3.out)
                               have hbw4 := hbw3.trans (hb4.mono hbw3.size)
                               have HR3 := Lib.hid (hr3.setRow HG4.out (three_no_int _ _ _ _ _ _ _) #[.bool (Rt.mk neg false X Y).1.neg, r1, r2])
                               have HR4 := Lib.hid (hr4.setRow HG4.out (three_no_int _ _ _ _ _ _ _) #[.bool (Rt.mk neg false X Y).1.neg, r1, r2])
                               obtain ⟨A3, c3, rfl, -⟩ := hr3
                               obtain ⟨A4, c4, rfl, -⟩ := hr4
                               clear hb4 HG3 hbw3
                               generalize Rt.mk neg false X Y = R at *
                               obtain ⟨⟨rn, rt, rb⟩, re⟩ := R
                               dsimp only at HR3 HR4 HEQ ⊢
                               have c0 : w4.cell? ⟨w.heap.size, 0, none⟩ = some (.bool false) := (cell_of_row w4 w.heap.size 0 _ _ _ HG4.out).trans rfl
                               have c1 : w4.cell? ⟨w.heap.size, 1, none⟩ = some (.slice none 0 0) := (cell_of_row w4 w.heap.size 1 _ _ _ HG4.out).trans rfl
                               have c2 : w4.cell? ⟨w.heap.size, 2, none⟩ = some (.slice none 0 0) := (cell_of_row w4 w.heap.size 2 _ _ _ HG4.out).trans rfl
                               have z0 := Blk.frozen (vs := [.bool false, .slice none 0 0, .slice none 0 0]) HG4.out 0
                               have z1 := Blk.frozen (vs := [.bool false, .slice none 0 0, .slice none 0 0]) HG4.out 1
                               have z2 := Blk.frozen (vs := [.bool false, .slice none 0 0, .slice none 0 0]) HG4.out 2)
                            | fail)
                        go_wp2_with fail
                        rw [setRow3 HG4.out]
                        refine bodyPost_ret (results_cell_row_tmp (by rfl) _ _ w.heap.size 24 #[.bool rn, .slice A3 rt.length c3, .slice A4 rb.length c4] (0, 0) _ _ (by rfl) (by rfl) (rheap_same HG4.out) Tryd.underlying24 rfl (HI3.out _ _ _ _ _ _ _)) rfl (MakeOut.of HEQ.out rfl HR3.out HR4.out (rBelow.setRow hbw4 (by omega) _))
                  · have q46 : ((y : Int) != 46) = true := by simp; omega
                    have HD2 : Hid (¬ t.getD n 0 = 46) := Lib.hid (fun h => h46 (HYN.out _ h))
                    clear h46
                    go_wp2_with (with_reducible refine wpList_store_row rfl 24 (.tmp 2) (.tmp 73) rfl w.heap.size #[.bool false, .slice none 0 0, .slice none 0 0] rfl rfl 24 #[.bool false, .slice none 0 0, .slice none 0 0] HGA.out (HI3.out _ _ _ _ _ _ _) rfl (three_one _ _ _ _ _ _ _) ?_)
                    refine bodyPost_ret (results_cell_row_tmp (by rfl) _ _ w.heap.size 24 #[.bool false, .slice none 0 0, .slice none 0 0] (0, 0) _ _ (by rfl) (by rfl) (rheap_same HGA.out) Tryd.underlying24 rfl (HI3.out _ _ _ _ _ _ _)) rfl (MakeOut.of (by rw [HEQ0.out, if_neg HM.out, if_neg HD1.out, if_neg HD2.out]; rfl) rfl (isRes_nil _) (isRes_nil _) (rBelow.setRow hb0 (by omega) _))
          · have HO : Hid (t.length ≤ 500 ∧ ∀ b ∈ t, Ten.isDig b) := Lib.hid ⟨by omega, Dg.lead_full (by rw [← HN.out]; omega)⟩
            have hpos : 0 < t.length := by omega
            have NO := Lib.hid (fun (wx : World) => value_any t wx (by omega) hpos HO.out.2)
            have HLE : Hid (n = t.length) := Lib.hid (by omega)
            have q : ((n : Int) == (t.length : Int)) = true := by rw [HLE.out]; simp
            have HEQ : Hid (Dg.body neg t = Rt.mk neg false (Ten.numOf t) 1) := Lib.hid (by unfold Dg.body; rw [if_neg H400.out, if_neg HL0.out, if_pos (by rw [← HN.out]; exact HLE.out)])
            obtain ⟨X, hX⟩ : ∃ X, X = Ten.numOf t := ⟨_, rfl⟩
            have RL := Lib.hid (fun (wx : World) (v : Value) (h : IsRes wx v (Nt.digs (Ten.numOf t))) => resL_num h HO.out.2 HO.out.1)
            rw [← hX] at NO HEQ RL
            clear hX
            go_wp2_with fail
            refine (NO.out _).mono ?_
            rintro e w2 ⟨v1, rfl, hr1, hb2⟩
            have HR1 := Lib.hid (RL.out _ _ hr1)
            have HG2 := Lib.hid ((hb2.block w.heap.size (blk_lt HGA.out)).trans HGA.out)
            have hbw2 := hb0.trans (hb2.mono hb0.size)
            obtain ⟨A1, c1, rfl, -⟩ := hr1
            have OF := Lib.hid (refOfInt_any 1 w2 (by decide) (by decide))
            clear hb2 NO RL
            go_wp2_with fail
            refine OF.out.mono ?_
            rintro e w3 ⟨v2, rfl, hr2, hb3⟩
            have MK := Lib.hid (rmake_any neg _ _ X 1 w3 (HR1.out.below hb3) hr2)
            have HG3 := Lib.hid ((hb3.block w.heap.size (blk_lt HG2.out)).trans HG2.out)
            have hbw3 := hbw2.trans (hb3.mono hbw2.size)
            obtain ⟨⟨A2, c2, rfl, -⟩, -⟩ := hr2
            clear hb3 HG2 hbw2 HR1 OF
            rw [show decide ((1 : Int) < 0) = false from rfl]
            obtain ⟨Y, hY⟩ : ∃ Y, Y = (1 : Nat) := ⟨_, rfl⟩
            have HY : Hid ((1 : Nat) = Y) := Lib.hid hY.symm
            rw [HY.out] at MK HEQ
            clear hY
            go_wp2_with fail
            refine MK.out.mono ?_
            rintro e w4 ⟨r1, r2, rfl, hr3, hr4, hb4⟩
            clear MK
            have HG4 := Lib.hid ((hb4.block w.heap.size (blk_lt HG3.out)).trans HG3.out)
            have hbw4 := hbw3.trans (hb4.mono hbw3.size)
            have HR3 := Lib.hid (hr3.setRow HG4.out (three_no_int _ _ _ _ _ _ _) #[.bool (Rt.mk neg false X Y).1.neg, r1, r2])
            have HR4 := Lib.hid (hr4.setRow HG4.out (three_no_int _ _ _ _ _ _ _) #[.bool (Rt.mk neg false X Y).1.neg, r1, r2])
            obtain ⟨A3, c3, rfl, -⟩ := hr3
            obtain ⟨A4, c4, rfl, -⟩ := hr4
            clear hb4 HG3 hbw3
            generalize Rt.mk neg false X Y = R at *
            obtain ⟨⟨rn, rt, rb⟩, re⟩ := R
            dsimp only at HR3 HR4 HEQ ⊢
            go_wp2_with (with_reducible refine wpList_store_row rfl 24 (.tmp 2) (.tmp 44) rfl w.heap.size #[.bool rn, .slice A3 rt.length c3, .slice A4 rb.length c4] rfl rfl 24 #[.bool false, .slice none 0 0, .slice none 0 0] HG4.out (HI3.out _ _ _ _ _ _ _) rfl (three_one _ _ _ _ _ _ _) ?_)
            refine bodyPost_ret (results_cell_row_tmp (by rfl) _ _ w.heap.size 24 #[.bool rn, .slice A3 rt.length c3, .slice A4 rb.length c4] (0, 0) _ _ (by rfl) (by rfl) (rheap_same HG4.out) Tryd.underlying24 rfl (HI3.out _ _ _ _ _ _ _)) rfl (MakeOut.of HEQ.out rfl HR3.out HR4.out (rBelow.setRow hbw4 (by omega) _))
end Go.Proofs.YtfiefglagknclaaDoor

/-
  Chapter 5's example: scrimlaw05.awake returns true; numbers compared.
-/
namespace Go.Proofs.YtfiefglagknclaaDoor
open Go.RowKit
set_option maxHeartbeats 2000000
set_option maxRecDepth 100000
set_option linter.unusedVariables false

theorem sameR_any (n n' : Rt.Nm) (v1 v2 v1' v2' : Value) (w : World) (h1 : IsRes w v1 n.top) (h2 : IsRes w v2 n.bot) (h1' : IsRes w v1' n'.top) (h2' : IsRes w v2' n'.bot) :
    Calls Tryd.prog 13 #[.agg #[.bool n.neg, v1, v2], .agg #[.bool n'.neg, v1', v2']] w fun e w' => e = .returned (.bool (decide (n = n'))) ∧ Below w.heap.size w w' := by
  obtain ⟨A1, c1, rfl, a1, a2, a3, a4⟩ := h1
  obtain ⟨A2, c2, rfl, b1, b2, b3, b4⟩ := h2
  obtain ⟨A3, c3, rfl, d1, d2, d3, d4⟩ := h1'
  obtain ⟨A4, c4, rfl, e1, e2, e3, e4⟩ := h2'
  have := refRatioSame_any n.neg n'.neg n.top n'.top n.bot n'.bot A1 A2 A3 A4 c1 c2 c3 c4 w w.heap.size a4 d4 b4 e4 (Nat.le_refl _) (by omega) (by omega) (by omega) (by omega)
  have e : sameNum n.neg n'.neg n.top n'.top n.bot n'.bot = decide (n = n') := by
    unfold sameNum
    obtain ⟨x, y, z⟩ := n
    obtain ⟨x', y', z'⟩ := n'
    rw [Bool.eq_iff_iff]
    simp [and_assoc]
  rwa [e] at this

theorem body_a : Dg.parse [194, 175, 51, 114, 50] = (⟨true, [3], [2]⟩, 0) := by
  show Dg.body true [51, 114, 50] = _
  have h : Dg.body true [51, 114, 50] = Rt.mk true false 3 2 := by decide +kernel
  rw [h]
  unfold Rt.mk
  rw [if_neg (by decide), show Nat.gcd 3 2 = 1 from by decide, Nat.div_one, Nat.div_one, digs_small (n := 3) (by decide) (by decide), digs_small (n := 2) (by decide) (by decide), if_neg (by decide)]
  rfl
theorem body_b : Dg.parse [194, 175, 49, 46, 53] = (⟨true, [3], [2]⟩, 0) := by
  show Dg.body true [49, 46, 53] = _
  have h : Dg.body true [49, 46, 53] = Rt.mk true false 15 10 := by decide +kernel
  rw [h]
  unfold Rt.mk
  rw [if_neg (by decide), show Nat.gcd 15 10 = 5 from by decide, show 15 / 5 = 3 from rfl, show 10 / 5 = 2 from rfl, digs_small (n := 3) (by decide) (by decide), digs_small (n := 2) (by decide) (by decide), if_neg (by decide)]
  rfl
theorem body_c : Dg.parse [49, 114, 48] = (Rt.none_, 3) := by
  show Dg.body false [49, 114, 48] = _
  have h : Dg.body false [49, 114, 48] = Rt.mk false false 1 0 := by decide +kernel
  rw [h]
  unfold Rt.mk
  rw [if_pos rfl]
theorem print_a : Dg.print ⟨true, [3], [2]⟩ = [194, 175, 51, 114, 50] := by
  unfold Dg.print
  rw [show Nt.val [3] = 3 from rfl, show Nt.val [2] = 2 from rfl, Ten.dec_small (show 3 < 10 by decide), Ten.dec_small (show 2 < 10 by decide)]
  rfl

theorem awake5_any (w : World) (hp : Pow10 w) :
    Calls Tryd.prog 9 #[] w fun e w' => e = .returned (.bool true) ∧ Below w.heap.size w w' := by
  have PA := fun (wx : World) => digParse_any [194, 175, 51, 114, 50] wx (by decide)
  have PB := fun (wx : World) => digParse_any [194, 175, 49, 46, 53] wx (by decide)
  have PC := fun (wx : World) => digParse_any [49, 114, 48] wx (by decide)
  rw [body_a] at PA
  rw [body_b] at PB
  rw [body_c] at PC
  have HPA := Lib.hid PA
  have HPB := Lib.hid PB
  have HPC := Lib.hid PC
  have HP := Lib.hid (fun (wx : World) (h : Below w.heap.size w wx) => hp.below h)
  have HI3 : Hid (∀ (b : Bool) (A : Option Addr) (k c : Nat) (A' : Option Addr) (k' c' : Nat), (Tryd.prog.info? 24).map (·.size) = some (#[.bool b, .slice A k c, .slice A' k' c'] : Array Value).size) := Lib.hid (fun _ _ _ _ _ _ _ => num_info)
  clear PA PB PC hp
  go_enter Tryd.func9, Tryd.ntmps9
  go_wp2_with fail
  refine (HPA.out _).mono ?_
  rintro e w1 ⟨t1, u1, rfl, ht1, hu1, hb1⟩
  dsimp only at ht1 hu1
  have HT1 := Lib.hid ht1
  have HU1 := Lib.hid hu1
  obtain ⟨A1, c1, rfl, -⟩ := ht1
  obtain ⟨A1', c1', rfl, -⟩ := hu1
  have HT1 : Hid (IsRes w1 (.slice A1 1 c1) [3]) := HT1
  have HU1 : Hid (IsRes w1 (.slice A1' 1 c1') [2]) := HU1
  obtain ⟨W1, hW1⟩ : ∃ W1, W1 = w1.alloc (.cells #[.bool true, .slice A1 1 c1, .slice A1' 1 c1'] 24) := ⟨_, rfl⟩
  have hbw1 : Below w.heap.size w W1 := by rw [hW1]; exact hb1.alloc hb1.size _
  have hb1' : Below w1.heap.size w1 W1 := by rw [hW1]; exact (Below.refl _ _).alloc (Nat.le_refl _) _
  have hs1 : W1.heap.size = w1.heap.size + 1 := by rw [hW1]; simp
  have HG1 : Hid (W1.heap[w1.heap.size]? = some (.cells #[.bool true, .slice A1 1 c1, .slice A1' 1 c1'] 24 (0, 0))) := Lib.hid (by rw [hW1]; exact heap_alloc_new _ _)
  have HW1 := Lib.hid hW1
  have HT1 := Lib.hid (HT1.out.below hb1')
  have HU1 := Lib.hid (HU1.out.below hb1')
  clear hW1 hb1 hb1' HPA
  go_wp2_with fail
  rw [← HW1.out]
  refine (HPB.out _).mono ?_
  rintro e w2 ⟨t2, u2, rfl, ht2, hu2, hb2⟩
  dsimp only at ht2 hu2
  have HT2 := Lib.hid ht2
  have HU2 := Lib.hid hu2
  obtain ⟨A2, c2, rfl, -⟩ := ht2
  obtain ⟨A2', c2', rfl, -⟩ := hu2
  have HT2 : Hid (IsRes w2 (.slice A2 1 c2) [3]) := HT2
  have HU2 : Hid (IsRes w2 (.slice A2' 1 c2') [2]) := HU2
  obtain ⟨W2, hW2⟩ : ∃ W2, W2 = w2.alloc (.cells #[.bool true, .slice A2 1 c2, .slice A2' 1 c2'] 24) := ⟨_, rfl⟩
  have hb2' : Below w2.heap.size w2 W2 := by rw [hW2]; exact (Below.refl _ _).alloc (Nat.le_refl _) _
  have hb12 : Below W1.heap.size W1 W2 := hb2.trans (hb2'.mono hb2.size)
  have hs2 : W2.heap.size = w2.heap.size + 1 := by rw [hW2]; simp
  have hbw2 : Below w.heap.size w W2 := hbw1.trans (hb12.mono hbw1.size)
  have HG12 := Lib.hid ((hb12.block w1.heap.size (by omega)).trans HG1.out)
  have HG2 : Hid (W2.heap[w2.heap.size]? = some (.cells #[.bool true, .slice A2 1 c2, .slice A2' 1 c2'] 24 (0, 0))) := Lib.hid (by rw [hW2]; exact heap_alloc_new _ _)
  have HW2 := Lib.hid hW2
  have HT12 := Lib.hid (HT1.out.below hb12)
  have HU12 := Lib.hid (HU1.out.below hb12)
  have HT2 := Lib.hid (HT2.out.below hb2')
  have HU2 := Lib.hid (HU2.out.below hb2')
  have hs12 := hb12.size
  clear hW2 hb2 hb2' hb12 HPB HG1 HT1 HU1 hbw1
  go_wp2_with fail
  rw [← HW2.out]
  refine (HPC.out _).mono ?_
  rintro e w3 ⟨t3, u3, rfl, ht3, hu3, hb3⟩
  dsimp only [Rt.none_] at ht3 hu3 ⊢
  obtain ⟨A3, c3, rfl, -⟩ := ht3
  obtain ⟨A3', c3', rfl, -⟩ := hu3
  obtain ⟨W3, hW3⟩ : ∃ W3, W3 = w3.alloc (.cells #[.bool false, .slice A3 0 c3, .slice A3' 0 c3'] 24) := ⟨_, rfl⟩
  have hb23 : Below W2.heap.size W2 W3 := by rw [hW3]; exact hb3.alloc hb3.size _
  have hbw3 : Below w.heap.size w W3 := hbw2.trans (hb23.mono hbw2.size)
  have HG1 := Lib.hid ((hb23.block w1.heap.size (by omega)).trans HG12.out)
  have HG2' := Lib.hid ((hb23.block w2.heap.size (by omega)).trans HG2.out)
  have HT1 := Lib.hid (HT12.out.below hb23)
  have HU1 := Lib.hid (HU12.out.below hb23)
  have HT2' := Lib.hid (HT2.out.below hb23)
  have HU2' := Lib.hid (HU2.out.below hb23)
  have HW3 := Lib.hid hW3
  have p0 : W3.cell? ⟨w1.heap.size, 0, none⟩ = some (.bool true) := (cell_of_row W3 w1.heap.size 0 _ _ _ HG1.out).trans rfl
  have p1 : W3.cell? ⟨w1.heap.size, 1, none⟩ = some (.slice A1 1 c1) := (cell_of_row W3 w1.heap.size 1 _ _ _ HG1.out).trans rfl
  have p2 : W3.cell? ⟨w1.heap.size, 2, none⟩ = some (.slice A1' 1 c1') := (cell_of_row W3 w1.heap.size 2 _ _ _ HG1.out).trans rfl
  have q0 : W3.cell? ⟨w2.heap.size, 0, none⟩ = some (.bool true) := (cell_of_row W3 w2.heap.size 0 _ _ _ HG2'.out).trans rfl
  have q1 : W3.cell? ⟨w2.heap.size, 1, none⟩ = some (.slice A2 1 c2) := (cell_of_row W3 w2.heap.size 1 _ _ _ HG2'.out).trans rfl
  have q2 : W3.cell? ⟨w2.heap.size, 2, none⟩ = some (.slice A2' 1 c2') := (cell_of_row W3 w2.heap.size 2 _ _ _ HG2'.out).trans rfl
  have SM := sameR_any ⟨true, [3], [2]⟩ ⟨true, [3], [2]⟩ _ _ _ _ W3 HT1.out HU1.out HT2'.out HU2'.out
  rw [decide_eq_true rfl] at SM
  have HSM := Lib.hid SM
  have hlt1 : w1.heap.size < W3.heap.size := by have := hb23.size; omega
  clear SM hW3 hb3 HPC HG12 HG2 HT12 HU12 HT2 HU2 hb23 hbw2
  have hT1 := HT1.out
  have hU1 := HU1.out
  have L1 : ∀ wx, Below W3.heap.size W3 wx → NumR wx ⟨true, [3], [2]⟩ (.slice A1 1 c1) (.slice A1' 1 c1') := fun wx hx => ⟨hT1.below hx, hU1.below hx, (by intro d hd; rw [List.mem_singleton] at hd; subst hd; decide), (by intro d hd; rw [List.mem_singleton] at hd; subst hd; decide), by decide, by decide⟩
  have PR := Lib.hid (fun (wx : World) (hx : Below W3.heap.size W3 wx) => digPrint_any ⟨true, [3], [2]⟩ _ _ wx (L1 wx hx) (HP.out wx (hbw3.trans (hx.mono hbw3.size))))
  rw [print_a] at PR
  clear hT1 hU1 L1 HT1 HU1 HT2' HU2' HP
  go_upto_region 4 with fail
  rw [← HW3.out]
  go_wp2_with fail
  refine HSM.out.mono ?_
  rintro e w4 ⟨rfl, hb4⟩
  have HG14 := Lib.hid ((hb4.block w1.heap.size hlt1).trans HG1.out)
  have PR4 := Lib.hid (PR.out w4 hb4)
  have hbw4 := hbw3.trans (hb4.mono hbw3.size)
  have r0 : w4.cell? ⟨w1.heap.size, 0, none⟩ = some (.bool true) := (cell_of_row w4 w1.heap.size 0 _ _ _ HG14.out).trans rfl
  have r1 : w4.cell? ⟨w1.heap.size, 1, none⟩ = some (.slice A1 1 c1) := (cell_of_row w4 w1.heap.size 1 _ _ _ HG14.out).trans rfl
  have r2 : w4.cell? ⟨w1.heap.size, 2, none⟩ = some (.slice A1' 1 c1') := (cell_of_row w4 w1.heap.size 2 _ _ _ HG14.out).trans rfl
  clear hb4 HSM PR HG1 HG2' p0 p1 p2 q0 q1 q2 HW3
  go_wp2_with fail
  refine PR4.out.mono ?_
  rintro e w5 ⟨rfl, hb5⟩
  have hbw5 := hbw4.trans (hb5.mono hbw4.size)
  clear hb5 PR4
  go_wp2_with fail
  go_ret
  exact ⟨rfl, hbw5⟩
end Go.Proofs.YtfiefglagknclaaDoor

/-
  The walks of the laws DigitsParses and DigitsPrints.
-/
namespace Go.Proofs.YtfiefglagknclaaDoor
open Go.RowKit
set_option maxHeartbeats 2000000
set_option maxRecDepth 100000
set_option linter.unusedVariables false

theorem digitsParses_list (s : List UInt8) (w : World) (hs : s.length ≤ maxLen) (hp : Pow10 w) :
    Calls Tryd.prog 4 #[.string ⟨s.toArray⟩] w fun e w' => e = .returned (.bool true) ∧ Below w.heap.size w w' := by
  unfold maxLen at hs
  have hsz : (⟨s.toArray⟩ : ByteArray).size = s.length := rfl
  have HSZ := Lib.hid hsz
  clear hsz
  obtain ⟨S, hS⟩ : ∃ S, S = s.take 450 := ⟨_, rfl⟩
  have hSl : S.length ≤ 450 := by rw [hS, List.length_take]; omega
  have HS := Lib.hid hS
  have PA := Lib.hid (fun (wx : World) => digParse_any S wx (by omega))
  have PB := Lib.hid (fun (wx : World) => refParse5_any S wx (by omega))
  have AW := Lib.hid (fun (wx : World) (h : Below w.heap.size w wx) => awake5_any wx (hp.below h))
  clear hS hp
  generalize Dg.parse S = R at *
  obtain ⟨n, er⟩ := R
  go_enter Tryd.func4, Tryd.ntmps4
  go_upto_if 9 with fail
  go_cut [0] from 7 (fun x wx => x = .string ⟨S.toArray⟩ ∧ wx = w)
  case first =>
    by_cases h450 : 450 < s.length
    · have SU := Lib.hid (str_upto s 450 (by omega))
      go_wp2_with fail
      go_meet
      exact ⟨by rw [SU.out, HS.out], rfl⟩
    · have HE : Hid (S = s) := Lib.hid (by rw [HS.out, List.take_of_length_le (by omega)])
      go_wp2_with fail
      go_meet
      exact ⟨by rw [HE.out], rfl⟩
  case rest =>
    obtain ⟨rfl, rfl⟩ := hcut
    rename World => w
    go_wp2_with fail
    refine (PA.out _).mono ?_
    rintro e w1 ⟨t1, u1, rfl, ht1, hu1, hb1⟩
    dsimp only at ht1 hu1 ⊢
    have HT1 := Lib.hid ht1
    have HU1 := Lib.hid hu1
    obtain ⟨A1, c1, rfl, -⟩ := ht1
    obtain ⟨A1', c1', rfl, -⟩ := hu1
    obtain ⟨W1, hW1⟩ : ∃ W1, W1 = w1.alloc (.cells #[.bool n.neg, .slice A1 n.top.length c1, .slice A1' n.bot.length c1'] 24) := ⟨_, rfl⟩
    have hbw1 : Below w.heap.size w W1 := by rw [hW1]; exact hb1.alloc hb1.size _
    have hb1' : Below w1.heap.size w1 W1 := by rw [hW1]; exact (Below.refl _ _).alloc (Nat.le_refl _) _
    have hs1 : W1.heap.size = w1.heap.size + 1 := by rw [hW1]; simp
    have HG1 : Hid (W1.heap[w1.heap.size]? = some (.cells #[.bool n.neg, .slice A1 n.top.length c1, .slice A1' n.bot.length c1'] 24 (0, 0))) := Lib.hid (by rw [hW1]; exact heap_alloc_new _ _)
    have HW1 := Lib.hid hW1
    have HT1 := Lib.hid (HT1.out.below hb1')
    have HU1 := Lib.hid (HU1.out.below hb1')
    clear hW1 hb1 hb1' PA
    go_wp2_with fail
    rw [← HW1.out]
    refine (PB.out _).mono ?_
    rintro e w2 ⟨t2, u2, rfl, ht2, hu2, hb2⟩
    dsimp only at ht2 hu2 ⊢
    have HT2 := Lib.hid ht2
    have HU2 := Lib.hid hu2
    obtain ⟨A2, c2, rfl, -⟩ := ht2
    obtain ⟨A2', c2', rfl, -⟩ := hu2
    obtain ⟨W2, hW2⟩ : ∃ W2, W2 = w2.alloc (.cells #[.bool n.neg, .slice A2 n.top.length c2, .slice A2' n.bot.length c2'] 24) := ⟨_, rfl⟩
    have hb2' : Below w2.heap.size w2 W2 := by rw [hW2]; exact (Below.refl _ _).alloc (Nat.le_refl _) _
    have hb12 : Below W1.heap.size W1 W2 := hb2.trans (hb2'.mono hb2.size)
    have hbw2 : Below w.heap.size w W2 := hbw1.trans (hb12.mono hbw1.size)
    have HG12 := Lib.hid ((hb12.block w1.heap.size (by omega)).trans HG1.out)
    have HG2 : Hid (W2.heap[w2.heap.size]? = some (.cells #[.bool n.neg, .slice A2 n.top.length c2, .slice A2' n.bot.length c2'] 24 (0, 0))) := Lib.hid (by rw [hW2]; exact heap_alloc_new _ _)
    have HW2 := Lib.hid hW2
    have SM := sameR_any n n _ _ _ _ W2 (HT1.out.below hb12) (HU1.out.below hb12) (HT2.out.below hb2') (HU2.out.below hb2')
    rw [decide_eq_true rfl] at SM
    have HSM := Lib.hid SM
    have hz : (er == er) = true := by simp
    have p0 : W2.cell? ⟨w1.heap.size, 0, none⟩ = some (.bool n.neg) := (cell_of_row W2 w1.heap.size 0 _ _ _ HG12.out).trans rfl
    have p1 : W2.cell? ⟨w1.heap.size, 1, none⟩ = some (.slice A1 n.top.length c1) := (cell_of_row W2 w1.heap.size 1 _ _ _ HG12.out).trans rfl
    have p2 : W2.cell? ⟨w1.heap.size, 2, none⟩ = some (.slice A1' n.bot.length c1') := (cell_of_row W2 w1.heap.size 2 _ _ _ HG12.out).trans rfl
    have q0 : W2.cell? ⟨w2.heap.size, 0, none⟩ = some (.bool n.neg) := (cell_of_row W2 w2.heap.size 0 _ _ _ HG2.out).trans rfl
    have q1 : W2.cell? ⟨w2.heap.size, 1, none⟩ = some (.slice A2 n.top.length c2) := (cell_of_row W2 w2.heap.size 1 _ _ _ HG2.out).trans rfl
    have q2 : W2.cell? ⟨w2.heap.size, 2, none⟩ = some (.slice A2' n.bot.length c2') := (cell_of_row W2 w2.heap.size 2 _ _ _ HG2.out).trans rfl
    clear SM hW2 hb2 hb2' hb12 PB HG1 HT1 HU1 HT2 HU2 hbw1 HG12 HG2
    go_upto_region 5 with fail
    rw [← HW2.out]
    clear HW1 HW2
    go_wp2_with fail
    refine HSM.out.mono ?_
    rintro e w3 ⟨rfl, hb3⟩
    have hbw3 := hbw2.trans (hb3.mono hbw2.size)
    have AW3 := Lib.hid (AW.out w3 hbw3)
    clear hb3 HSM AW p0 p1 p2 q0 q1 q2
    go_wp2_with fail
    refine AW3.out.mono ?_
    rintro e w4 ⟨rfl, hb4⟩
    have hbw4 := hbw3.trans (hb4.mono hbw3.size)
    clear hb4 AW3
    go_wp2_with fail
    go_ret
    exact ⟨rfl, hbw4⟩
theorem digitsParses_walk (a : ByteArray) (w : World) (ha : a.size ≤ maxLen) (hp : Pow10 w) :
    Calls Tryd.prog 4 #[.string a] w fun e w' => e = .returned (.bool true) ∧ Below w.heap.size w w' := by
  have := digitsParses_list a.data.toList w ha hp
  rwa [show (⟨a.data.toList.toArray⟩ : ByteArray) = a from rfl] at this

theorem digitsPrints_walk (n : Rt.Nm) (C : Array Value) (w : World) (hn : IsNum w n C) (hp : Pow10 w) :
    Calls Tryd.prog 3 #[.agg C] w fun e w' => e = .returned (.bool true) ∧ Below w.heap.size w w' := by
  obtain ⟨v1, v2, rfl, h1, h2, o1, o2, s1, s2⟩ := hn
  have HR1 := Lib.hid h1
  have HR2 := Lib.hid h2
  obtain ⟨A1, c1, rfl, -⟩ := h1
  obtain ⟨A2, c2, rfl, -⟩ := h2
  obtain ⟨W, hW⟩ : ∃ W, W = w.alloc (.cells #[.bool n.neg, .slice A1 n.top.length c1, .slice A2 n.bot.length c2] 24) := ⟨_, rfl⟩
  have hbW : Below w.heap.size w W := by rw [hW]; exact (Below.refl _ _).alloc (Nat.le_refl _) _
  have HGW : Hid (W.heap[w.heap.size]? = some (.cells #[.bool n.neg, .slice A1 n.top.length c1, .slice A2 n.bot.length c2] 24 (0, 0))) := Lib.hid (by rw [hW]; exact heap_alloc_new _ _)
  have hltW : w.heap.size < W.heap.size := by rw [hW]; simp
  have HC : Hid (∀ wx, Below W.heap.size W wx → wx.cell? ⟨w.heap.size, 0, none⟩ = some (.bool n.neg) ∧ wx.cell? ⟨w.heap.size, 1, none⟩ = some (.slice A1 n.top.length c1) ∧ wx.cell? ⟨w.heap.size, 2, none⟩ = some (.slice A2 n.bot.length c2)) := Lib.hid (fun wx hx => by
    have hg := (hx.block w.heap.size hltW).trans HGW.out
    exact ⟨(cell_of_row wx w.heap.size 0 _ _ _ hg).trans rfl, (cell_of_row wx w.heap.size 1 _ _ _ hg).trans rfl, (cell_of_row wx w.heap.size 2 _ _ _ hg).trans rfl⟩)
  have RT := rright_any n.neg A1 n.top c1 A2 n.bot c2 W (HR1.out.below hbW) (HR2.out.below hbW) o1 o2
  have HRI := Lib.hid (fun h => (Rt.right_iff o1 o2 (a := n)).1 h)
  have HO := Lib.hid (And.intro o1 o2)
  have AW := Lib.hid (fun (wx : World) (h : Below w.heap.size w wx) => awake5_any wx (hp.below h))
  have HP := Lib.hid (fun (wx : World) (h : Below w.heap.size w wx) => hp.below h)
  have HW := Lib.hid hW
  have hq := HC.out W (Below.refl _ _)
  obtain ⟨p0, p1, p2⟩ := hq
  clear hW o1 o2 s1 s2 hp
  cases hr : Rt.right n
  · rw [show Rt.right ⟨n.neg, n.top, n.bot⟩ = false from hr] at RT
    have HRT := Lib.hid RT
    clear RT hr HRI
    go_enter Tryd.func3, Tryd.ntmps3
    go_upto_region 1 with fail
    rw [← HW.out]
    go_wp2_with fail
    refine HRT.out.mono ?_
    rintro e w2 ⟨rfl, hb2⟩
    have hbw2 := hbW.trans (hb2.mono hbW.size)
    have AW3 := Lib.hid (AW.out w2 hbw2)
    clear hb2 HRT AW p0 p1 p2
    go_wp2_with fail
    refine AW3.out.mono ?_
    rintro e w4 ⟨rfl, hb4⟩
    have hbw4 := hbw2.trans (hb4.mono hbw2.size)
    clear hb4 AW3
    go_wp2_with fail
    go_ret
    exact ⟨rfl, hbw4⟩
  · rw [show Rt.right ⟨n.neg, n.top, n.bot⟩ = true from hr] at RT
    have HRT := Lib.hid RT
    have HRR := Lib.hid hr
    have hri := HRI.out hr
    have HNR : Hid (∀ wx, Below w.heap.size w wx → NumR wx n (.slice A1 n.top.length c1) (.slice A2 n.bot.length c2)) := Lib.hid (fun wx hx => ⟨HR1.out.below hx, HR2.out.below hx, HO.out.1, HO.out.2, by omega, by omega⟩)
    have hpl : (Dg.print n).length ≤ 30000 := by
      have h1 := dec_bound HO.out.1 (show n.top.length ≤ 1000 by omega)
      have h2 := dec_bound HO.out.2 (show n.bot.length ≤ 1000 by omega)
      unfold Dg.print
      split <;> split <;> simp <;> omega
    have HPP := Lib.hid (fun h => Dg.parse_print (n := n) HRR.out h)
    have PR := Lib.hid (fun (wx : World) (hx : Below w.heap.size w wx) => digPrint_any n _ _ wx (HNR.out wx hx) (HP.out wx hx))
    have PQ := Lib.hid (fun (wx : World) (hx : Below w.heap.size w wx) => refPrint_any n _ _ wx (HNR.out wx hx))
    have PA := Lib.hid (fun (wx : World) => digParse_any (Dg.print n) wx (by omega))
    clear RT hr HRI hri HP
    obtain ⟨s, hs⟩ : ∃ s, s = Dg.print n := ⟨_, rfl⟩
    rw [← hs] at hpl HPP PR PQ PA
    clear hs
    have hsz : (⟨s.toArray⟩ : ByteArray).size = s.length := rfl
    have HSZ := Lib.hid hsz
    clear hsz
    go_enter Tryd.func3, Tryd.ntmps3
    go_upto_region 1 with fail
    rw [← HW.out]
    go_wp2_with fail
    refine HRT.out.mono ?_
    rintro e w2 ⟨rfl, hb2⟩
    have hbw2 := hbW.trans (hb2.mono hbW.size)
    have HPR := Lib.hid (PR.out w2 hbw2)
    obtain ⟨r0, r1, r2⟩ := HC.out w2 hb2
    clear HRT PR p0 p1 p2
    go_wp2_with fail
    refine HPR.out.mono ?_
    rintro e w3 ⟨rfl, hb3⟩
    have hb23 := hb2.trans (hb3.mono hb2.size)
    have hbw3 := hbw2.trans (hb3.mono hbw2.size)
    clear hb2 hb3 hbw2 HPR r0 r1 r2
    go_wp2_with fail
    refine (PA.out w3).mono ?_
    rintro e w4 ⟨t1, u1, rfl, ht1, hu1, hb4⟩
    obtain ⟨m, hm⟩ : ∃ m, m = Dg.parse s := ⟨_, rfl⟩
    rw [← hm] at ht1 hu1 HPP ⊢
    clear hm
    obtain ⟨m, er⟩ := m
    dsimp only at ht1 hu1 ⊢
    have HT1 := Lib.hid ht1
    have HU1 := Lib.hid hu1
    obtain ⟨A3, c3, rfl, -⟩ := ht1
    obtain ⟨A4, c4, rfl, -⟩ := hu1
    obtain ⟨W1, hW1⟩ : ∃ W1, W1 = w4.alloc (.cells #[.bool m.neg, .slice A3 m.top.length c3, .slice A4 m.bot.length c4] 24) := ⟨_, rfl⟩
    have hb41 : Below w4.heap.size w4 W1 := by rw [hW1]; exact (Below.refl _ _).alloc (Nat.le_refl _) _
    have hb31 : Below w3.heap.size w3 W1 := hb4.trans (hb41.mono hb4.size)
    have hbW1 := hb23.trans (hb31.mono hb23.size)
    have hbw1 := hbw3.trans (hb31.mono hbw3.size)
    have hs1 : W1.heap.size = w4.heap.size + 1 := by rw [hW1]; simp
    have HG1 : Hid (W1.heap[w4.heap.size]? = some (.cells #[.bool m.neg, .slice A3 m.top.length c3, .slice A4 m.bot.length c4] 24 (0, 0))) := Lib.hid (by rw [hW1]; exact heap_alloc_new _ _)
    have HW1 := Lib.hid hW1
    have HT1 := Lib.hid (HT1.out.below hb41)
    have HU1 := Lib.hid (HU1.out.below hb41)
    have HPQ := Lib.hid (PQ.out W1 hbw1)
    obtain ⟨r0, r1, r2⟩ := HC.out W1 hbW1
    have hltw4 : w4.heap.size < W1.heap.size := by omega
    clear hW1 hb4 hb41 hb31 hb23 hbw3 PA PQ hs1
    by_cases h400 : 400 < s.length
    · go_upto_if 19 with fail
      rw [← HW1.out]
      clear HW1
      go_wp2_with fail
      refine HPQ.out.mono ?_
      rintro e w5 ⟨rfl, hb5⟩
      have hbw5 := hbw1.trans (hb5.mono hbw1.size)
      have AW3 := Lib.hid (AW.out w5 hbw5)
      clear hb5 HPQ AW r0 r1 r2
      go_wp2_with fail
      refine AW3.out.mono ?_
      rintro e w6 ⟨rfl, hb6⟩
      have hbw6 := hbw5.trans (hb6.mono hbw5.size)
      clear hb6 AW3
      go_wp2_with fail
      go_ret
      exact ⟨rfl, hbw6⟩
    · have hpp := HPP.out (by omega)
      obtain ⟨rfl, rfl⟩ := Prod.mk.inj hpp
      clear hpp HPP
      go_upto_if 19 with fail
      rw [← HW1.out]
      clear HW1
      go_wp2_with fail
      refine HPQ.out.mono ?_
      rintro e w5 ⟨rfl, hb5⟩
      have hbw5 := hbw1.trans (hb5.mono hbw1.size)
      have hbW5 := hbW1.trans (hb5.mono hbW1.size)
      have HG5 := Lib.hid ((hb5.block w4.heap.size hltw4).trans HG1.out)
      have SM := sameR_any m m _ _ _ _ w5 (HT1.out.below hb5) (HU1.out.below hb5) (HR1.out.below hbw5) (HR2.out.below hbw5)
      rw [decide_eq_true rfl] at SM
      have HSM := Lib.hid SM
      obtain ⟨k0, k1, k2⟩ := HC.out w5 hbW5
      have q0 : w5.cell? ⟨w4.heap.size, 0, none⟩ = some (.bool m.neg) := (cell_of_row w5 w4.heap.size 0 _ _ _ HG5.out).trans rfl
      have q1 : w5.cell? ⟨w4.heap.size, 1, none⟩ = some (.slice A3 m.top.length c3) := (cell_of_row w5 w4.heap.size 1 _ _ _ HG5.out).trans rfl
      have q2 : w5.cell? ⟨w4.heap.size, 2, none⟩ = some (.slice A4 m.bot.length c4) := (cell_of_row w5 w4.heap.size 2 _ _ _ HG5.out).trans rfl
      clear hb5 HPQ r0 r1 r2 SM HG5 HG1 HT1 HU1
      go_wp2_with fail
      refine HSM.out.mono ?_
      rintro e w6 ⟨rfl, hb6⟩
      have hbw6 := hbw5.trans (hb6.mono hbw5.size)
      have AW3 := Lib.hid (AW.out w6 hbw6)
      clear hb6 HSM AW k0 k1 k2 q0 q1 q2
      go_wp2_with fail
      refine AW3.out.mono ?_
      rintro e w7 ⟨rfl, hb7⟩
      have hbw7 := hbw6.trans (hb7.mono hbw6.size)
      clear hb7 AW3
      go_wp2_with fail
      go_ret
      exact ⟨rfl, hbw7⟩
end Go.Proofs.YtfiefglagknclaaDoor

/-
  From the rows' condition on listed variables (five tables) to the fact that the walks ask; a world that meets it.
-/
namespace Go.Proofs.YtfiefglagknclaaDoor
open Go.ChangeShapes Go.WideShapes Go.ChangeAt Go.RowKit

theorem gPow : Tryd.prog.globalNamed "internal/strconv.uint64pow10" = some 0 := by kernel_rfl
theorem tPow : (Tryd.prog.globals[0]?).map (·.type) = some 179 := by kernel_rfl
theorem cPow : Tryd.prog.cellsOf 179 = 20 := by kernel_rfl
theorem cWord : Tryd.prog.cellsOf 37 = 1 := by kernel_rfl

def laid5 : List (String × DataW Unit) := [("math/bits.deBruijn32tab", Rows.laid_math_bits_deBruijn32tab), ("math/bits.deBruijn64tab", Rows.laid_math_bits_deBruijn64tab), ("internal/strconv.uint64pow10", Rows.laid_internal_strconv_uint64pow10), ("unicode/utf8.acceptRanges", Rows.laid_unicode_utf8_acceptRanges), ("unicode/utf8.first", Rows.laid_unicode_utf8_first)]
theorem door_met (os : Os) (args : Array Value) : laidMetH Tryd.prog laid5 ((World.laidAll Tryd.prog os laid5).forCall (fun _ _ => 0) ⟨#[], args, []⟩).memory := by
  rw [MakeChecks.laidMetH_plain _ _ _ (by kernel_rfl)]
  exact laidMet_laidAll _ (by kernel_rfl) (by kernel_rfl)
theorem of_laid {W : World} (h : laidMetH Tryd.prog laid5 W) : Pow10 W := by
  rw [MakeChecks.laidMetH_plain _ _ _ (by kernel_rfl)] at h
  have h2 := h.tail.tail
  have hT := Lib.tabIs_of_head (k := .u64) (zs := Lib.pow10Tab) gPow tPow Tryd.underlying179 Tryd.underlying37 cWord cPow h2
  refine ⟨hT, fun g e => ?_⟩
  obtain rfl := Option.some.inj (gPow.symm.trans e)
  exact World.block_lt_of_cell? W _ (hT.cell gPow 0 (by decide))
end Go.Proofs.YtfiefglagknclaaDoor
