/-
  Texts of this proof, joined (by wip/bin/bundle.py): Dig6, Dig7, Tok3, Tok4, Tree2, Tree3, Tree4, RTok1, Tree5, Tree6, Tree7, Tok5.
-/
import Derived.Test.YtceplkpjnebnfaaGreatDoorM9
import Derived.Lib.OthersKept
import Derived.Lib.RuneBytes
import Derived.Laws.BytesString
import Derived.Laws.IdiomStrings
import Derived.Deep.QuietTactic
import Derived.BigQuiet
import Derived.Deep.CutRange
import Derived.Laws.Rows
import Derived.LoopTactic
import Derived.Deep.Cut
/-
  ratio.top, ratio.Int; scrimref04.IsWhole; digits.Print, scrimref05.Print.
-/
namespace Go.Proofs.YtceplkpjnebnfaaGreatDoor
open Go.RowKit
set_option maxHeartbeats 2000000
set_option maxRecDepth 100000
set_option linter.unusedVariables false

theorem ratioTop_any (n : Bool) (v1 v2 : Value) (l1 l2 : List Nat) (w : World) (h1 : IsRes w v1 l1) (h2 : IsRes w v2 l2) :
    Calls Tryz.prog 127 #[.agg #[.bool n, v1, v2]] w (WholeOut w n l1) := by
  have HR := Lib.hid h1
  obtain ⟨A1, c1, rfl, -⟩ := h1
  obtain ⟨A2, c2, rfl, -⟩ := h2
  have HI2 : Hid (∀ (b : Bool) (A : Option Addr) (k c : Nat), (Tryz.prog.info? 93).map (·.size) = some (#[.bool b, .slice A k c] : Array Value).size) := Lib.hid (fun _ _ _ _ => whole2_info)
  have HG1 : Hid (∀ o1 o2, ((w.alloc o1).alloc o2).heap[w.heap.size + 1]? = some o2) := Lib.hid (fun o1 o2 => by
    have := heap_alloc_new (w.alloc o1) o2
    rwa [show (w.alloc o1).heap.size = w.heap.size + 1 by simp] at this)
  have HB : Hid (∀ o1 o2, Below w.heap.size w ((w.alloc o1).alloc o2)) := Lib.hid (fun o1 o2 => ((Below.refl _ _).alloc (Nat.le_refl _) _).alloc (by simp) _)
  generalize l2.length = k2 at *
  go_enter Tryz.func127, Tryz.ntmps127
  go_wp2_with (with_reducible refine wpList_store_row rfl 93 (.tmp 2) (.tmp 7) rfl (w.heap.size + 1) #[.bool n, .slice A1 l1.length c1] rfl rfl 93 #[.bool false, .slice none 0 0] (HG1.out _ _) (HI2.out _ _ _ _) rfl (two_one _ _ _ _) ?_)
  refine bodyPost_ret (results_cell_row (by rfl) _ _ (w.heap.size + 1) 93 #[.bool n, .slice A1 l1.length c1] (0, 0) _ (by rfl) (rheap_same (HG1.out _ _)) Tryz.underlying93 rfl (HI2.out _ _ _ _)) rfl ⟨.slice A1 l1.length c1, rfl, (HR.out.below (HB.out _ _)).setRow (HG1.out _ _) (two_no_int _ _ _ _) _, rBelow.setRow (HB.out _ _) (by omega) _⟩

/-- A number as a whole one, or none. -/
def IntOutN (w : World) (n : Rt.Nm) (e : Ending) (w' : World) : Prop := ∃ u, e = .returned (.tuple #[.agg #[.bool (if n.bot = [1] then Rt.nrm n.neg (Nt.val n.top) else false), u], .bool (n.bot == [1])]) ∧ IsRes w' u (if n.bot = [1] then Nt.digs (Nt.val n.top) else []) ∧ Below w.heap.size w w'
theorem ratioInt_any (n : Bool) (v1 v2 : Value) (l1 l2 : List Nat) (w : World) (h1 : IsRes w v1 l1) (h2 : IsRes w v2 l2) (o1 : Nt.Ok l1) (s1 : l1.length ≤ 1000000) :
    Calls Tryz.prog 67 #[.agg #[.bool n, v1, v2]] w (IntOutN w ⟨n, l1, l2⟩) := by
  have hb0 : ∀ o1 o2, Below w.heap.size w ((w.alloc o1).alloc o2) := fun o1 o2 => ((Below.refl _ _).alloc (Nat.le_refl _) _).alloc (by simp) _
  have I1 := Lib.hid (fun o1 o2 => isOne_any v2 l2 _ (h2.below (hb0 o1 o2)))
  have T1 := Lib.hid (fun o1 o2 => ratioTop_any n v1 v2 l1 l2 _ (h1.below (hb0 o1 o2)) (h2.below (hb0 o1 o2)))
  have NW := Lib.hid (fun (wx : World) (u : Value) (hu : IsRes wx u l1) => wholeNorm_any n u l1 wx hu o1 s1)
  have HI2 : Hid (∀ (b : Bool) (A : Option Addr) (k c : Nat), (Tryz.prog.info? 93).map (·.size) = some (#[.bool b, .slice A k c] : Array Value).size) := Lib.hid (fun _ _ _ _ => whole2_info)
  have HG1 : Hid (∀ o1 o2, ((w.alloc o1).alloc o2).heap[w.heap.size + 1]? = some o2) := Lib.hid (fun o1 o2 => by
    have := heap_alloc_new (w.alloc o1) o2
    rwa [show (w.alloc o1).heap.size = w.heap.size + 1 by simp] at this)
  have HB := Lib.hid hb0
  obtain ⟨A1, c1, rfl, -⟩ := h1
  obtain ⟨A2, c2, rfl, -⟩ := h2
  clear hb0 o1
  by_cases hone : l2 = [1]
  · have HE : Hid ((l2 == [1]) = true) := Lib.hid (by rw [hone]; rfl)
    have HO := Lib.hid hone
    have HP : Hid (∀ u w', IsRes w' u (Nt.digs (Nt.val l1)) → Below w.heap.size w w' → IntOutN w ⟨n, l1, l2⟩ (.returned (.tuple #[.agg #[.bool (Rt.nrm n (Nt.val l1)), u], .bool true])) w') := Lib.hid (fun u w' hu hb => ⟨u, by simp only [HO.out, if_true]; rfl, by simp only [HO.out, if_true]; exact hu, hb⟩)
    have I1' := Lib.hid (fun o1 o2 => by have := I1.out o1 o2; rw [HE.out] at this; exact this)
    clear hone I1
    generalize l2.length = k2 at *
    go_enter Tryz.func67, Tryz.ntmps67
    go_wp2_with fail
    refine (I1'.out _ _).mono ?_
    rintro e w' ⟨rfl, rfl⟩
    go_wp2_with fail
    refine (T1.out _ _).mono ?_
    rintro e w2 ⟨v3, rfl, hr2, hb2⟩
    have NW2 := Lib.hid (NW.out w2 v3 hr2)
    have HG2 := Lib.hid ((hb2.block (w.heap.size + 1) (by simp)).trans (HG1.out _ _))
    have hbw2 := (HB.out _ _).trans (hb2.mono (HB.out _ _).size)
    clear hr2 hb2 T1 I1' NW
    go_wp2_with fail
    refine NW2.out.mono ?_
    rintro e w3 ⟨v4, rfl, hr3, hb3⟩
    have hl3 := blk_lt HG2.out
    have HG3 := Lib.hid ((hb3.block (w.heap.size + 1) hl3).trans HG2.out)
    have hbw3 := hbw2.trans (hb3.mono hbw2.size)
    have HR3 := Lib.hid (hr3.setRow HG3.out (two_no_int _ _ _ _) #[.bool (Rt.nrm n (Nt.val l1)), v4])
    obtain ⟨A3, c3, rfl, -⟩ := hr3
    clear hb3 NW2 hbw2
    go_wp2_with (with_reducible refine wpList_store_row rfl 93 (.tmp 2) (.tmp 11) rfl (w.heap.size + 1) #[.bool (Rt.nrm n (Nt.val l1)), .slice A3 (Nt.digs (Nt.val l1)).length c3] rfl rfl 93 #[.bool false, .slice none 0 0] HG3.out (HI2.out _ _ _ _) rfl (two_one _ _ _ _) ?_)
    refine bodyPost_ret (results_cell_row_tmp (by rfl) _ _ (w.heap.size + 1) 93 #[.bool (Rt.nrm n (Nt.val l1)), .slice A3 (Nt.digs (Nt.val l1)).length c3] (0, 0) _ _ (by rfl) (by rfl) (rheap_same HG3.out) Tryz.underlying93 rfl (HI2.out _ _ _ _)) rfl (HP.out _ _ HR3.out (rBelow.setRow hbw3 (by omega) _))
  · have HE : Hid ((l2 == [1]) = false) := Lib.hid (beq_eq_false_iff_ne.2 hone)
    have HO := Lib.hid hone
    have HP : Hid (∀ w', Below w.heap.size w w' → IntOutN w ⟨n, l1, l2⟩ (.returned (.tuple #[.agg #[.bool false, .slice none 0 0], .bool false])) w') := Lib.hid (fun w' hb => ⟨.slice none 0 0, by simp only [HO.out, if_false, HE.out], by simp only [HO.out, if_false]; exact IsRes.none_ _, hb⟩)
    have I1' := Lib.hid (fun o1 o2 => by have := I1.out o1 o2; rw [HE.out] at this; exact this)
    clear hone I1
    generalize l2.length = k2 at *
    go_enter Tryz.func67, Tryz.ntmps67
    go_wp2_with fail
    refine (I1'.out _ _).mono ?_
    rintro e w' ⟨rfl, rfl⟩
    clear T1 NW
    go_wp2_with (with_reducible refine wpList_store_row rfl 93 (.tmp 2) (.tmp 8) rfl (w.heap.size + 1) #[.bool false, .slice none 0 0] rfl rfl 93 #[.bool false, .slice none 0 0] (HG1.out _ _) (HI2.out _ _ _ _) rfl (two_one _ _ _ _) ?_)
    refine bodyPost_ret (results_cell_row_tmp (by rfl) _ _ (w.heap.size + 1) 93 #[.bool false, .slice none 0 0] (0, 0) _ _ (by rfl) (by rfl) (rheap_same (HG1.out _ _)) Tryz.underlying93 rfl (HI2.out _ _ _ _)) rfl (HP.out _ (rBelow.setRow (HB.out _ _) (by omega) _))
end Go.Proofs.YtceplkpjnebnfaaGreatDoor

/-
  digits.Print, scrimref05.Print: a number's text; scrimref04.IsWhole.
-/
namespace Go.Proofs.YtceplkpjnebnfaaGreatDoor
open Go.RowKit
set_option maxHeartbeats 2000000
set_option maxRecDepth 100000
set_option linter.unusedVariables false

theorem isWhole_any (n : Bool) (v1 v2 : Value) (l1 l2 : List Nat) (w : World) (h1 : IsRes w v1 l1) (h2 : IsRes w v2 l2) :
    Calls Tryz.prog 134 #[.agg #[.bool n, v1, v2]] w fun e w' => e = .returned (.bool (l2 == [1])) ∧ Below w.heap.size w w' := by
  have HB : Hid (∀ o1, Below w.heap.size w (w.alloc o1)) := Lib.hid (fun o1 => (Below.refl _ _).alloc (Nat.le_refl _) _)
  obtain ⟨A1, c1, rfl, -⟩ := h1
  obtain ⟨A2, c2, rfl, k1, k2, k3, k4⟩ := h2
  by_cases hl : l2.length = 1
  · obtain ⟨x, rfl⟩ : ∃ x, l2 = [x] := by
      match l2, hl with
      | [x], _ => exact ⟨x, rfl⟩
    obtain ⟨b, off, rfl, hb, g0⟩ := k4.at_ (k := 0) (by simp [U])
    have g1 : w.cell? ⟨b, off, none⟩ = some (.int .u32 (x : Int)) := by simpa [U] using g0
    have HQ : Hid (([x] == [1]) = (x == 1)) := Lib.hid (by simp [List.cons_beq_cons])
    clear g0 k4 k3 hl
    by_cases hx : x = 1
    · subst hx
      go_enter Tryz.func134, Tryz.ntmps134
      go_wp2_with fail
      go_ret
      exact ⟨ret_bool (by rw [HQ.out]; rfl), HB.out _⟩
    · have q : ((x : Int) == 1) = false := beq_eq_false_iff_ne.2 (by omega)
      have HQ2 : Hid ((x == 1) = false) := Lib.hid (beq_eq_false_iff_ne.2 hx)
      clear hx
      go_enter Tryz.func134, Tryz.ntmps134
      go_wp2_with fail
      go_ret
      exact ⟨ret_bool (by rw [HQ.out, HQ2.out]), HB.out _⟩
  · have q : ((l2.length : Int) == 1) = false := beq_eq_false_iff_ne.2 (by omega)
    have HQ : Hid ((l2 == [1]) = false) := Lib.hid (by
      rw [beq_eq_false_iff_ne]; rintro rfl; exact hl rfl)
    clear hl k4 k3
    generalize l2.length = m at *
    go_enter Tryz.func134, Tryz.ntmps134
    go_wp2_with fail
    go_ret
    exact ⟨ret_bool (by rw [HQ.out]), HB.out _⟩

/-- The table of strconv's, in whatever world behind. -/
structure Pow10 (w : World) : Prop where
  tab : Lib.TabIs Tryz.prog w "internal/strconv.uint64pow10" .u64 Lib.pow10Tab
  lt : ∀ g, Tryz.prog.globalNamed "internal/strconv.uint64pow10" = some g → g < w.heap.size
theorem Pow10.below {w w' : World} (h : Pow10 w) (hb : Below w.heap.size w w') : Pow10 w' := ⟨tabIs_below h.tab hb h.lt, fun g e => Nat.lt_of_lt_of_le (h.lt g e) hb.size⟩
/-- A text is handed back. -/
def StrOut (w : World) (s : List UInt8) (e : Ending) (w' : World) : Prop := e = .returned (.string ⟨s.toArray⟩) ∧ Below w.heap.size w w'
theorem textR_any {w : World} {v : Value} {l : List Nat} (h : IsRes w v l) (ho : Nt.Ok l) (hs : l.length ≤ 1000) (hp : Pow10 w) :
    Calls Tryz.prog 66 #[v] w (StrOut w (Lib.decDigits (Nt.val l))) := by
  obtain ⟨A, c, rfl, k1, k2, k3, k4⟩ := h
  exact text_any A c w.heap.size l w k4 (Nat.le_refl _) ho k1 k2 hs hp.tab hp.lt
theorem refTextR_any {w : World} {v : Value} {l : List Nat} (h : IsRes w v l) (ho : Nt.Ok l) (hs : l.length ≤ 1000) :
    Calls Tryz.prog 133 #[v] w (StrOut w (Lib.decDigits (Nt.val l))) := by
  obtain ⟨A, c, rfl, k1, k2, k3, k4⟩ := h
  exact refText_any A c w.heap.size l w k4 (Nat.le_refl _) ho k1 k2 k3 hs
theorem ret_str {a b : ByteArray} (h : a.data.toList = b.data.toList) : Ending.returned (.string a) = .returned (.string b) := by
  have : a = b := ByteArray.ext (Array.toList_inj.1 h)
  rw [this]

/-- A number that may be, in memory. -/
structure NumR (w : World) (n : Rt.Nm) (v1 v2 : Value) : Prop where
  r1 : IsRes w v1 n.top
  r2 : IsRes w v2 n.bot
  o1 : Nt.Ok n.top
  o2 : Nt.Ok n.bot
  s1 : n.top.length ≤ 1000
  s2 : n.bot.length ≤ 1000
theorem NumR.below {w w' : World} {n : Rt.Nm} {v1 v2 : Value} (h : NumR w n v1 v2) (hb : Below w.heap.size w w') : NumR w' n v1 v2 := ⟨h.r1.below hb, h.r2.below hb, h.o1, h.o2, h.s1, h.s2⟩

theorem refPrint_any (n : Rt.Nm) (v1 v2 : Value) (w : World) (h : NumR w n v1 v2) :
    Calls Tryz.prog 78 #[.agg #[.bool n.neg, v1, v2]] w (StrOut w (Dg.print n)) := by
  have TX := Lib.hid (fun (wx : World) (hb : Below w.heap.size w wx) => refTextR_any (h.below hb).r1 h.o1 h.s1)
  have TY := Lib.hid (fun (wx : World) (hb : Below w.heap.size w wx) => refTextR_any (h.below hb).r2 h.o2 h.s2)
  have IW := Lib.hid (fun (wx : World) (hb : Below w.heap.size w wx) => isWhole_any n.neg v1 v2 n.top n.bot wx (h.below hb).r1 (h.below hb).r2)
  have HB : Hid (∀ o1, Below w.heap.size w (w.alloc o1)) := Lib.hid (fun o1 => (Below.refl _ _).alloc (Nat.le_refl _) _)
  have HP : Hid (Dg.print n = (if n.neg then [194, 175] else []) ++ (Lib.decDigits (Nt.val n.top) ++ if n.bot = [1] then [] else 114 :: Lib.decDigits (Nt.val n.bot))) := Lib.hid rfl
  have HI3 : Hid ((Tryz.prog.info? 24).map (·.size) = some (#[.bool n.neg, v1, v2] : Array Value).size) := Lib.hid num_info
  have hTl := dec_bound h.o1 h.s1
  have hBl := dec_bound h.o2 h.s2
  clear h
  obtain ⟨neg, top, bot⟩ := n
  dsimp only at TX TY IW HP HI3 hTl hBl ⊢
  generalize Dg.print ⟨neg, top, bot⟩ = R at *
  generalize Lib.decDigits (Nt.val top) = T at *
  generalize Lib.decDigits (Nt.val bot) = B at *
  go_enter Tryz.func78, Tryz.ntmps78
  go_wp2_with fail
  refine (TX.out _ (HB.out _)).mono ?_
  rintro e w2 ⟨rfl, hb2⟩
  have hbw2 := (HB.out (.cells #[.bool neg, v1, v2] 24)).trans (hb2.mono (HB.out _).size)
  have HG := Lib.hid ((hb2.block w.heap.size (by simp)).trans (heap_alloc_new w (.cells #[.bool neg, v1, v2] 24)))
  have hs2 := hb2.size
  have hlt : w.heap.size < w2.heap.size := by simp at hs2; omega
  clear hb2 hs2
  go_wp2_with (with_reducible refine wpList_load_row rfl 24 (.tmp 1) rfl w.heap.size rfl 24 #[.bool neg, v1, v2] (0, 0) _ HG.out Tryz.underlying24 rfl HI3.out ?_)
  refine (IW.out w2 hbw2).mono ?_
  rintro e w3 ⟨rfl, hb3⟩
  have hbw3 := hbw2.trans (hb3.mono hbw2.size)
  have HG3 := Lib.hid ((hb3.block w.heap.size hlt).trans HG.out)
  have hlt3 : w.heap.size < w3.heap.size := Nat.lt_of_lt_of_le hlt hb3.size
  clear hb3 hbw2 hlt
  have p0 : w3.cell? ⟨w.heap.size, 0, none⟩ = some (.bool neg) := (cell_of_row w3 w.heap.size 0 _ _ _ HG3.out).trans rfl
  have p2 : w3.cell? ⟨w.heap.size, 2, none⟩ = some v2 := (cell_of_row w3 w.heap.size 2 _ _ _ HG3.out).trans rfl
  by_cases hone : bot = [1]
  · have HO := Lib.hid hone
    have e1 : (bot == [1]) = true := by rw [hone]; rfl
    clear hone TX TY IW
    cases neg
    · go_wp2_with fail
      go_ret
      exact ⟨ret_str (by rw [HP.out, if_pos HO.out]; simp), hbw3⟩
    · go_wp2_with fail
      go_ret
      exact ⟨ret_str (by rw [HP.out, if_pos HO.out]; simp), hbw3⟩
  · have HO := Lib.hid hone
    have e1 : (bot == [1]) = false := beq_eq_false_iff_ne.2 hone
    clear hone TX IW
    have HTY := Lib.hid (TY.out w3 hbw3)
    clear TY
    go_wp2_with fail
    refine HTY.out.mono ?_
    rintro e w4 ⟨rfl, hb4⟩
    have hbw4 := hbw3.trans (hb4.mono hbw3.size)
    have p04 : w4.cell? ⟨w.heap.size, 0, none⟩ = some (.bool neg) := (hb4.cell (p := ⟨w.heap.size, 0, none⟩) hlt3).trans p0
    clear hb4 p0 p2 HTY hbw3
    cases neg
    · go_wp2_with fail
      go_ret
      exact ⟨ret_str (by rw [HP.out, if_neg HO.out]; simp), hbw4⟩
    · go_wp2_with fail
      go_ret
      exact ⟨ret_str (by rw [HP.out, if_neg HO.out]; simp), hbw4⟩

theorem digPrint_any (n : Rt.Nm) (v1 v2 : Value) (w : World) (h : NumR w n v1 v2) (hp : Pow10 w) :
    Calls Tryz.prog 37 #[.agg #[.bool n.neg, v1, v2]] w (StrOut w (Dg.print n)) := by
  have TX := Lib.hid (fun (wx : World) (hb : Below w.heap.size w wx) => textR_any (h.below hb).r1 h.o1 h.s1 (hp.below hb))
  have TY := Lib.hid (fun (wx : World) (hb : Below w.heap.size w wx) => textR_any (h.below hb).r2 h.o2 h.s2 (hp.below hb))
  have IW := Lib.hid (fun (wx : World) (hb : Below w.heap.size w wx) => ratioInt_any n.neg v1 v2 n.top n.bot wx (h.below hb).r1 (h.below hb).r2 h.o1 (by have := h.s1; omega))
  have HB : Hid (∀ o1, Below w.heap.size w (w.alloc o1)) := Lib.hid (fun o1 => (Below.refl _ _).alloc (Nat.le_refl _) _)
  have HP : Hid (Dg.print n = (if n.neg then [194, 175] else []) ++ (Lib.decDigits (Nt.val n.top) ++ if n.bot = [1] then [] else 114 :: Lib.decDigits (Nt.val n.bot))) := Lib.hid rfl
  have HI3 : Hid ((Tryz.prog.info? 24).map (·.size) = some (#[.bool n.neg, v1, v2] : Array Value).size) := Lib.hid num_info
  have HI2 : Hid (∀ (b : Bool) (A : Option Addr) (k c : Nat), (Tryz.prog.info? 93).map (·.size) = some (#[.bool b, .slice A k c] : Array Value).size) := Lib.hid (fun _ _ _ _ => whole2_info)
  have hTl := dec_bound h.o1 h.s1
  have hBl := dec_bound h.o2 h.s2
  clear h hp
  obtain ⟨neg, top, bot⟩ := n
  dsimp only at TX TY IW HP HI3 hTl hBl ⊢
  generalize Dg.print ⟨neg, top, bot⟩ = R at *
  generalize Lib.decDigits (Nt.val top) = T at *
  generalize Lib.decDigits (Nt.val bot) = B at *
  go_enter Tryz.func37, Tryz.ntmps37
  go_wp2_with fail
  refine (TX.out _ (HB.out _)).mono ?_
  rintro e w2 ⟨rfl, hb2⟩
  have hbw2 := (HB.out (.cells #[.bool neg, v1, v2] 24)).trans (hb2.mono (HB.out _).size)
  have HG := Lib.hid ((hb2.block w.heap.size (by simp)).trans (heap_alloc_new w (.cells #[.bool neg, v1, v2] 24)))
  have hs2 := hb2.size
  have hlt : w.heap.size < w2.heap.size := by simp at hs2; omega
  have p0 : w2.cell? ⟨w.heap.size, 0, none⟩ = some (.bool neg) := (cell_of_row w2 w.heap.size 0 _ _ _ HG.out).trans rfl
  clear hb2 hs2 TX
  obtain ⟨N, hN⟩ : ∃ N : List UInt8, N = if neg then [194, 175] else [] := ⟨_, rfl⟩
  rw [← hN] at HP
  have hN2 := Lib.hid hN
  clear hN
  cases neg
  all_goals
    go_wp2_with (with_reducible refine wpList_load_row rfl 24 (.tmp 1) rfl w.heap.size rfl 24 #[.bool _, v1, v2] (0, 0) _ HG.out Tryz.underlying24 rfl HI3.out ?_)
    refine (IW.out w2 hbw2).mono ?_
    rintro e w3 ⟨u, rfl, hu, hb3⟩
    dsimp only at hu
    have hbw3 := hbw2.trans (hb3.mono hbw2.size)
    have HG3 := Lib.hid ((hb3.block w.heap.size hlt).trans HG.out)
    have hlt3 : w.heap.size < w3.heap.size := Nat.lt_of_lt_of_le hlt hb3.size
    obtain ⟨A3, c3, rfl, -⟩ := hu
    clear hb3 hbw2 hlt p0
    have p2 : w3.cell? ⟨w.heap.size, 2, none⟩ = some v2 := (cell_of_row w3 w.heap.size 2 _ _ _ HG3.out).trans rfl
    have HG4 : Hid (∀ o, (w3.alloc o).heap[w3.heap.size]? = some o) := Lib.hid (fun o => heap_alloc_new w3 o)
    by_cases hone : bot = [1]
    · have HO := Lib.hid hone
      have e1 : (bot == [1]) = true := by rw [hone]; rfl
      simp only [e1, if_pos hone]
      clear hone TY IW e1
      go_wp2_with fail
      go_ret
      exact ⟨ret_str (by rw [HP.out, if_pos HO.out, hN2.out]; simp), hbw3.alloc hbw3.size _⟩
    · have HO := Lib.hid hone
      have e1 : (bot == [1]) = false := beq_eq_false_iff_ne.2 hone
      simp only [e1, if_neg hone]
      clear hone IW e1
      have HTY := Lib.hid (fun o => TY.out (w3.alloc o) (hbw3.alloc hbw3.size _))
      clear TY
      go_wp2_with fail
      refine (HTY.out _).mono ?_
      rintro e w4 ⟨rfl, hb4⟩
      have hbw4 := (hbw3.alloc hbw3.size (.cells #[.bool false, .slice A3 ([] : List Nat).length c3] 93)).trans (hb4.mono (by simp; omega))
      clear hb4 HTY hbw3 p2
      go_wp2_with fail
      go_ret
      exact ⟨ret_str (by rw [HP.out, if_neg HO.out, hN2.out]; simp), hbw4⟩
end Go.Proofs.YtceplkpjnebnfaaGreatDoor

/-
  glyph.Decode: the characters of bytes.
-/
namespace Go.Proofs.YtceplkpjnebnfaaGreatDoor
open Go.RowKit
set_option maxHeartbeats 2000000
set_option maxRecDepth 100000
set_option linter.unusedVariables false

/-- Characters in memory. -/
def IsCh (w : World) (v : Value) (l : List Int) : Prop := ∃ A c, v = .slice A l.length c ∧ l.length ≤ c ∧ c ≤ 9223372036854775807 ∧ Lies w w.heap.size A (I64 l)
theorem IsCh.below {w w' : World} {v : Value} {l : List Int} (h : IsCh w v l) (hb : Below w.heap.size w w') : IsCh w' v l := by
  obtain ⟨A, c, h1, h2, h3, h5⟩ := h
  exact ⟨A, c, h1, h2, h3, (h5.below hb).more hb.size⟩
theorem IsCh.of_own {w : World} {base : Nat} {v : Value} {l : List Int} (h : w.ownsRow base 3 1 v l.length (I64 l)) : IsCh w v l := by
  obtain ⟨A, c, rfl, h1, h2⟩ := own_slice h
  exact ⟨A, c, rfl, h1, h2, Lies.of_own h⟩
end Go.Proofs.YtceplkpjnebnfaaGreatDoor

/-
  glyph.Encode: the bytes of characters that may be.
-/
namespace Go.Proofs.YtceplkpjnebnfaaGreatDoor
open Go.RowKit
set_option maxHeartbeats 2000000
set_option maxRecDepth 100000
set_option linter.unusedVariables false

/-- A character's bytes, as cells. -/
theorem runeCells_one {x : Int} (h : Gl.may x = true) : Lib.runeCells x = Lib.byteCells (Tk.enc1 x) := by
  unfold Gl.may at h
  simp only [Bool.and_eq_true, Bool.or_eq_true, decide_eq_true_eq] at h
  obtain ⟨⟨h0, h1⟩, h2⟩ := h
  obtain ⟨n, rfl⟩ : ∃ n : Nat, x = (n : Int) := ⟨x.toNat, by omega⟩
  unfold Lib.runeCells Lib.byteCells Tk.enc1 Gl.one
  rw [Int.toNat_natCast]
  by_cases a : n < 128
  · rw [if_pos a, Lib.encodeRuneZ_one (by omega) (by omega)]
    simp
    omega
  · rw [if_neg a]
    by_cases b : n < 2048
    · rw [if_pos b, Lib.encodeRuneZ_two (by omega) (by omega)]
      simp
      omega
    · rw [if_neg b]
      by_cases c : n < 65536
      · rw [if_pos c, Lib.encodeRuneZ_three (by omega)]
        simp
        omega
      · rw [if_neg c, Lib.encodeRuneZ_four (by omega) (by omega)]
        simp
        omega
theorem enc_snoc (l : List Int) (x : Int) : Tk.enc (l ++ [x]) = Tk.enc l ++ Tk.enc1 x := by unfold Tk.enc; simp
theorem enc1_len (x : Int) : (Tk.enc1 x).length ≤ 4 := by unfold Tk.enc1; rw [List.length_map, Gl.one_len]; unfold Gl.wide; split <;> (try omega); split <;> (try omega); split <;> omega
theorem enc_len : ∀ l : List Int, (Tk.enc l).length ≤ 4 * l.length
  | [] => by simp [Tk.enc]
  | a :: r => by
    have h1 := enc1_len a
    have h2 := enc_len r
    unfold Tk.enc at h2 ⊢
    rw [List.flatMap_cons, List.length_append, List.length_cons]
    omega
theorem u8_info : (Tryz.prog.info? 5).map (fun i => (i.zero, i.size, i.bytes)) = some (some (.int .u8 0), 1, 1) := by kernel_rfl

/-- 'string(b)' of bytes that a call owns. -/
theorem conv_own {w : World} {base : Nat} {v : Value} {t : List UInt8} (h : w.ownsRow base 5 1 v t.length (Lib.byteCells t)) : (convert 40 9 v).run Tryz.prog w = .ok (.string ⟨t.toArray⟩) w := by
  obtain ⟨A, C, rfl, hC1, hC2⟩ := own_slice h
  have hl := Lies.of_own h
  by_cases h0 : t = []
  · subst h0
    cases A with
    | none => rw [run_convert_bytes_string w 40 9 5 none _ _ Tryz.underlying40 Tryz.underlying5 Tryz.underlying9]; rfl
    | some a => exact run_convert_bytes_back w 40 9 5 a C [] Tryz.underlying40 Tryz.underlying5 Tryz.underlying9 (fun j hj => by cases hj)
  · have hp : 0 < t.length := List.length_pos_iff.2 h0
    obtain ⟨b, off, hA, hb, g0⟩ := hl.at_ (k := 0) (by rw [Lib.byteCells_length]; exact hp)
    subst hA
    refine run_convert_bytes_back w 40 9 5 _ C t Tryz.underlying40 Tryz.underlying5 Tryz.underlying9 (fun j hj => ?_)
    obtain ⟨b', off', hA', hb', g'⟩ := hl.at_ (k := j) (by rw [Lib.byteCells_length]; exact hj)
    injection hA' with hA'
    injection hA' with e1 e2
    subst e1 e2
    rw [Addr.add_lit, g']
    simp [Lib.byteCells]

theorem encode_any (A : Option Addr) (c : Nat) (l : List Int) (w : World) (hl : Lies w w.heap.size A (I64 l)) (hn : l.length ≤ 1000000) (hm : ∀ x ∈ l, Gl.may x = true) :
    Calls Tryz.prog 68 #[.slice A l.length c] w fun e w' => e = .returned (.tuple #[.string ⟨(Tk.enc l).toArray⟩, .bool true]) ∧ Below w.heap.size w w' := by
  obtain ⟨i0, hi, hz0, hz1, hz2⟩ := info_parts u8_info
  have HL := Lib.hid hl
  have HM := Lib.hid hm
  clear hl hm
  go_enter Tryz.func68, Tryz.ntmps68
  go_wp2_with (at_make; refine wpList_make_blk _ rfl _ _ 40 rfl 5 i0 (.int .u8 0) Tryz.underlying40 hi hz0 hz1 rfl .i64 .i64 _ _ 0 l.length rfl rfl rfl rfl (by omega) (by rw [hz2]; omega) (by omega) w.heap.size w (Below.refl _ _) (Nat.le_refl _) ?_; intro w2 hblk2 hb2 hb2' hlt2)
  have hown2 : w2.ownsRow w.heap.size 5 1 (.slice (some ⟨w.heap.size, 0, none⟩) 0 l.length) 0 [] := by
    have := hblk2.own (base := w.heap.size) (n := 0) (Nat.le_refl _) (by omega) (by simp [maxLen]; omega)
    simpa using this
  clear hblk2 hb2' hlt2
  go_loopw [4, 12] (fun ov iv wr => ∃ i : Nat, i ≤ l.length ∧ iv = .int .i64 (i : Int) ∧ wr.ownsRow w.heap.size 5 1 ov (Tk.enc (l.take i)).length (Lib.byteCells (Tk.enc (l.take i))) ∧ Below w.heap.size w wr) (fun _ iv _ => l.length - (intOf iv).toNat)
  case atStart => exact ⟨0, Nat.zero_le _, rfl, hown2, hb2⟩
  case round =>
    clear hown2 hb2
    obtain ⟨i, hil, rfl, hown, hbel⟩ := hrel
    have hsz := hbel.size
    by_cases hlt : i < l.length
    · obtain ⟨b, off, rfl, hb, g0⟩ := lies_i64 (HL.out.below hbel) hlt
      have hmx := HM.out l[i] (List.getElem_mem hlt)
      have HT : Hid (Tk.enc (l.take (i + 1)) = Tk.enc (l.take i) ++ Tk.enc1 l[i]) := Lib.hid (by rw [List.take_succ_eq_append_getElem hlt, enc_snoc])
      have HRC := Lib.hid (runeCells_one hmx)
      have hel := enc_len (l.take i)
      have htl : (l.take i).length ≤ i := List.length_take_le _ _
      obtain ⟨x, hx⟩ : ∃ x, x = l[i] := ⟨_, rfl⟩
      rw [← hx] at g0 hmx HT HRC
      have MY := may_any x
      rw [hmx] at MY
      have HMY := Lib.hid MY
      have hx0 : 0 ≤ x := by unfold Gl.may at hmx; simp at hmx; omega
      have hx1 : x ≤ 1114111 := by unfold Gl.may at hmx; simp at hmx; omega
      obtain ⟨T, hT⟩ : ∃ T, T = Tk.enc (l.take i) := ⟨_, rfl⟩
      rw [← hT] at hown HT hel
      have AR := Lib.hid (fun (h : wr.ownsRow w.heap.size 5 1 u4 T.length (Lib.byteCells T)) => Tryz.utf8_AppendRune_plain w.heap.size u4 T.length (Lib.byteCells T) x (by omega) (by omega) wr h (by omega) hsz)
      have AR2 := Lib.hid (AR.out hown)
      have HOW := Lib.hid hown
      obtain ⟨A2, C2, rfl, hC1, hC2⟩ := own_slice hown
      clear hx MY hmx hT AR hown
      go_wp2_with fail
      refine (HMY.out _).mono ?_
      rintro e w' ⟨rfl, rfl⟩
      go_wp2_with fail
      refine AR2.out.mono ?_
      rintro e w3 ⟨v3, rfl, hown3, o, hgr⟩
      have hbel3 : Below w.heap.size w w3 := (hbel.alloc hsz o).grown hgr (by simp; omega) (fun k hk => (HOW.out.lt k hk).1)
      have hown4 : w3.ownsRow w.heap.size 5 1 v3 (Tk.enc (l.take (i + 1))).length (Lib.byteCells (Tk.enc (l.take (i + 1)))) := by
        rw [HT.out, List.length_append, Lib.byteCells_append, ← HRC.out, ← Lib.byteCells_length (Tk.enc1 x), ← HRC.out]
        exact hown3
      clear hown3 hgr AR2
      go_wp2_with fail
      go_roundw
      case rel => exact ⟨i + 1, by omega, by go_num, hown4, hbel3⟩
      case measure => simp [intOf]; omega
    · have e : l.take i = l := List.take_of_length_le (by omega)
      rw [e] at hown
      have hcv := conv_own hown
      obtain ⟨A2, C2, rfl, hC1, hC2⟩ := own_slice hown
      clear hown e
      go_wp2_with fail
      go_ret2
      exact ⟨rfl, hbel⟩
end Go.Proofs.YtceplkpjnebnfaaGreatDoor

/-
  The document's Few, Depth and Count of an expression.
-/
namespace Go.Proofs.YtceplkpjnebnfaaGreatDoor
open Go.RowKit Tr
set_option maxHeartbeats 1000000
set_option linter.unusedVariables false

def IntOut (w : World) (r : Int) (e : Ending) (w' : World) : Prop := e = .returned (.int .i64 r) ∧ Below w.heap.size w w'
def BoolOut (w : World) (r : Bool) (e : Ending) (w' : World) : Prop := e = .returned (.bool r) ∧ Below w.heap.size w w'

mutual
theorem left_up : ∀ (t : Tree) (d : Nat) (n : Int), 0 ≤ n → left t d n ≤ n
  | .mk k o m nm t l, d, n, h => by
    unfold left
    by_cases hd : d = 0
    · rw [if_pos hd]; omega
    · rw [if_neg hd]
      have := lefts_up l (d - 1) (n - 1 - ((t.length / 8 : Nat) : Int))
      omega
theorem lefts_up : ∀ (l : List Tree) (d : Nat) (n : Int), lefts l d n ≤ n
  | [], d, n => by unfold lefts; exact Int.le_refl _
  | t :: r, d, n => by
    unfold lefts
    by_cases hn : n < 0
    · rw [if_pos hn]; exact Int.le_refl _
    · rw [if_neg hn]
      have h1 := left_up t d n (by omega)
      have h2 := lefts_up r d (left t d n)
      omega
end
theorem left21_any (n : Nat) : ∀ (a : Tree) (vs : List Value) (d : Nat) (x : Int) (w : World) (B : Nat), SizeOf.sizeOf a < n → IsTree w B a vs → B ≤ w.heap.size → d ≤ 60 → 0 ≤ x → x ≤ 3000 →
    Calls Tryz.prog 18 #[.agg vs.toArray, .int .i64 (d : Int), .int .i64 x] w (IntOut w (left a d x)) := by
  induction n with
  | zero => intro a vs d x w B h; omega
  | succ n ih =>
    intro a vs d x w B hn h hB hd hx0 hx1
    obtain ⟨k, o, m, nm, t, l⟩ := a
    obtain ⟨W, hW⟩ : ∃ W, W = w.alloc (.cells vs.toArray 28) := ⟨_, rfl⟩
    obtain ⟨A1, A2, A3, A4, c1, c2, c3, c4, us, HO, HL, HC, hW8, HG, hWl, hWb⟩ := tree_box h hW
    have hf3 := HO.out.f3.le (by omega)
    have hf4 := HO.out.f4.le (by omega)
    have HSZ : ∀ (i : Nat) (hi : i < l.length), SizeOf.sizeOf l[i] < n := fun i hi => by have := size_kid (k := k) (o := o) (m := m) (n := nm) (t := t) hi; omega
    replace HSZ := Lib.hid HSZ
    have HR : Hid (d ≠ 0 → left (.mk k o m nm t l) d x = lefts l (d - 1) (x - 1 - ((t.length / 8 : Nat) : Int))) := Lib.hid (fun h0 => by rw [left, if_neg h0])
    have HR0 : Hid (d = 0 → left (.mk k o m nm t l) d x = -1) := Lib.hid (fun h0 => by rw [left, if_pos h0])
    generalize left (.mk k o m nm t l) d x = R at *
    clear h hn
    have q6 : W.cell? ⟨w.heap.size, 6, none⟩ = some (.slice A3 t.length c3) := hW8.p6
    have q7 : W.cell? ⟨w.heap.size, 7, none⟩ = some (.slice A4 l.length c4) := hW8.p7
    have HQ := Lib.hid q7
    have HKB : Hid (∀ wx, Below W.heap.size W wx → ∀ p : Addr, p.block < B → wx.cell? p = w.cell? p) := Lib.hid (fun wx hx p hp => by rw [hx.cell (by omega), hWb.cell (by omega)])
    have HWB := Lib.hid hWb
    have HWS : Hid (w.heap.size ≤ W.heap.size) := Lib.hid (by omega)
    have HW := Lib.hid hW
    clear hW8 HO hWb hW
    by_cases hd0 : d = 0
    · have HZ := Lib.hid (HR0.out hd0)
      subst hd0
      go_enter Tryz.func18, Tryz.ntmps18
      go_upto_region 1 with fail
      rw [← HW.out]
      go_wp2_with fail
      go_ret
      exact ⟨ret_int (by rw [HZ.out]), HWB.out⟩
    · have HZ := Lib.hid (HR.out hd0)
      clear HR HR0
      have q1 : ((d : Int) == 0) = false := beq_eq_false_iff_ne.2 (by omega)
      obtain ⟨m0, hm0⟩ : ∃ m0 : Int, m0 = x - 1 - (t.length : Int) / 8 := ⟨_, rfl⟩
      rw [show ((t.length / 8 : Nat) : Int) = (t.length : Int) / 8 from rfl, ← hm0] at HZ
      have hm1 : m0 ≤ 3000 := by omega
      have q2 : IntKind.i64.wrap ((d : Int) - 1) = ((d - 1 : Nat) : Int) := by rw [show (d : Int) - 1 = ((d - 1 : Nat) : Int) by omega]; exact IntWalk.i64_in _ (by omega)
      go_enter Tryz.func18, Tryz.ntmps18
      go_upto_region 1 with fail
      rw [← HW.out]
      go_wp2_with fail
      go_loopw [7, 2] (fun i m wr => ∃ (j : Nat) (y : Int), j ≤ l.length ∧ i = .int .i64 j ∧ m = .int .i64 y ∧ y ≤ 3000 ∧ Hid (R = lefts (l.drop j) (d - 1) y) ∧ Below W.heap.size W wr) (fun i _ _ => l.length - (intOf i).toNat)
      case atStart => exact ⟨0, m0, Nat.zero_le _, rfl, by rw [hm0], hm1, HZ, Below.refl _ _⟩
      case round =>
        clear HZ hm0 q6
        obtain ⟨j, y, hj, rfl, rfl, hy, HY, hbel⟩ := hrel
        have hbox : wr.cell? ⟨w.heap.size, 7, none⟩ = some (.slice A4 l.length c4) := (hbel.cell (p := ⟨w.heap.size, 7, none⟩) hWl).trans HQ.out
        by_cases hy0 : y < 0
        · have HE : Hid (R = y) := Lib.hid (HY.out.trans (lefts_neg _ _ _ hy0))
          have g1 : ¬ (0 : Int) ≤ y := by omega
          clear hy0
          by_cases hlt : j < l.length
          all_goals
            go_wp2_with fail
            go_ret
            exact ⟨ret_int (by rw [HE.out]), HWB.out.trans (hbel.mono HWS.out)⟩
        · have g1 : (0 : Int) ≤ y := by omega
          by_cases hlt : j < l.length
          · obtain ⟨b, off, tv, rfl, hb, HT, HR⟩ := tree_row HC.out HL.out (HKB.out wr hbel) hlt
            have HN : Hid (R = lefts (l.drop (j + 1)) (d - 1) (left l[j] (d - 1) y)) := Lib.hid (HY.out.trans (lefts_drop hlt _ _ (by omega)))
            have hup := left_up l[j] (d - 1) y (by omega)
            have IH := Lib.hid (ih l[j] _ (d - 1) y wr B (HSZ.out j hlt) (HT.out.keep (HKB.out wr hbel) (Nat.le_refl _)) (by have := hbel.size; omega) (by omega) (by omega) hy)
            have HI := Lib.hid (tree_info HT.out)
            generalize left l[j] (d - 1) y = z at *
            clear HY HT
            go_wp2_with (with_reducible refine wpList_load_mid rfl 28 (.tmp 31) rfl b (off + j * 8) rfl tv _ HR.out Tryz.underlying28 rfl HI.out ?_)
            refine IH.out.mono ?_
            rintro e w2 ⟨rfl, hb2⟩
            have hb3 := hbel.trans (hb2.mono hbel.size)
            go_wp2_with fail
            go_roundw
            case rel => exact ⟨j + 1, z, by omega, by go_num, rfl, by omega, HN, hb3⟩
            case measure => simp [intOf]; omega
          · have HE : Hid (R = y) := Lib.hid (by rw [HY.out, List.drop_eq_nil_of_le (by omega), lefts])
            go_wp2_with fail
            go_ret
            exact ⟨ret_int (by rw [HE.out]), HWB.out.trans (hbel.mono HWS.out)⟩
theorem few21_any (a : Tree) (vs : List Value) (w : World) (B : Nat) (h : IsTree w B a vs) (hB : B ≤ w.heap.size) :
    Calls Tryz.prog 7 #[.agg vs.toArray] w (BoolOut w (few a)) := by
  have L := Lib.hid (left21_any _ a vs 60 3000 (w.alloc (.cells vs.toArray 28)) B (Nat.lt_succ_self _) (h.below (((Below.refl _ _).alloc (Nat.le_refl _) _).mono hB)) (by simp; omega) (by omega) (by omega) (by omega))
  have HR : Hid (few a = decide (0 ≤ left a 60 3000)) := Lib.hid rfl
  have HI := Lib.hid (tree_infoA h)
  generalize left a 60 3000 = z at *
  generalize few a = R at *
  have HG := Lib.hid (heap_alloc_new w (.cells vs.toArray 28))
  clear h
  go_enter Tryz.func7, Tryz.ntmps7
  go_wp2_with (with_reducible refine wpList_load_row rfl 28 (.tmp 1) rfl w.heap.size rfl 28 vs.toArray (0, 0) _ HG.out Tryz.underlying28 rfl HI.out ?_)
  refine L.out.mono ?_
  rintro e w2 ⟨rfl, hb2⟩
  go_wp2_with fail
  go_ret
  exact ⟨ret_bool HR.out.symm, ((Below.refl _ _).alloc (Nat.le_refl _) _).trans (hb2.mono (by simp))⟩
end Go.Proofs.YtceplkpjnebnfaaGreatDoor

/-
  The document's Depth and Count of an expression.
-/
namespace Go.Proofs.YtceplkpjnebnfaaGreatDoor
open Go.RowKit Tr
set_option maxHeartbeats 2000000
set_option maxRecDepth 100000
set_option linter.unusedVariables false

mutual
theorem depth_count : ∀ t : Tree, depth t ≤ count t
  | .mk k o m n t l => by unfold depth count; have := depths_counts l; omega
theorem depths_counts : ∀ l : List Tree, depths l ≤ counts l
  | [] => by unfold depths counts; omega
  | t :: r => by unfold depths counts; have := depth_count t; have := depths_counts r; omega
end
theorem counts_take : ∀ (l : List Tree) (k : Nat), counts (l.take k) ≤ counts l
  | [], k => by simp [counts]
  | t :: r, 0 => by simp [counts]
  | t :: r, k + 1 => by rw [List.take_succ_cons, counts, counts]; have := counts_take r k; omega
theorem depths_take : ∀ (l : List Tree) (k : Nat), depths (l.take k) ≤ depths l
  | [], k => by simp [depths]
  | t :: r, 0 => by simp [depths]
  | t :: r, k + 1 => by rw [List.take_succ_cons, depths, depths]; have := depths_take r k; omega
theorem depths_snoc : ∀ (l : List Tree) (t : Tree), depths (l ++ [t]) = max (depths l) (depth t)
  | [], t => by simp [depths]
  | a :: r, t => by rw [List.cons_append, depths, depths, depths_snoc r t]; omega
theorem counts_snoc : ∀ (l : List Tree) (t : Tree), counts (l ++ [t]) = counts l + count t
  | [], t => by simp [counts]
  | a :: r, t => by rw [List.cons_append, counts, counts, counts_snoc r t]; omega
theorem depths_next {l : List Tree} {k : Nat} (h : k < l.length) : depths (l.take (k + 1)) = max (depths (l.take k)) (depth l[k]) := by rw [List.take_succ_eq_append_getElem h, depths_snoc]
theorem counts_next {l : List Tree} {k : Nat} (h : k < l.length) : counts (l.take (k + 1)) = counts (l.take k) + count l[k] := by rw [List.take_succ_eq_append_getElem h, counts_snoc]

theorem depth21_any (n : Nat) : ∀ (a : Tree) (vs : List Value) (w : World) (B : Nat), SizeOf.sizeOf a < n → IsTree w B a vs → B ≤ w.heap.size → count a ≤ 1000000 →
    Calls Tryz.prog 27 #[.agg vs.toArray] w (IntOut w (depth a : Int)) := by
  induction n with
  | zero => intro a vs w B h; omega
  | succ n ih =>
    intro a vs w B hn h hB hct
    obtain ⟨k, o, m, nm, t, l⟩ := a
    obtain ⟨W, hW⟩ : ∃ W, W = w.alloc (.cells vs.toArray 28) := ⟨_, rfl⟩
    obtain ⟨A1, A2, A3, A4, c1, c2, c3, c4, us, HO, HL, HC, hW8, HG, hWl, hWb⟩ := tree_box h hW
    have hf4 := HO.out.f4.le (by omega)
    have HSZ : ∀ (i : Nat) (hi : i < l.length), SizeOf.sizeOf l[i] < n ∧ count l[i] ≤ 1000000 := fun i hi => ⟨by have := size_kid (k := k) (o := o) (m := m) (n := nm) (t := t) hi; omega, by have := count_kid (k := k) (o := o) (m := m) (n := nm) (t := t) hi; omega⟩
    replace HSZ := Lib.hid HSZ
    have HR : Hid (depth (.mk k o m nm t l) = depths l + 1) := Lib.hid (by rw [depth])
    have HDB : ∀ j, depths (l.take j) ≤ 1000000 := fun j => by have h1 := depths_take l j; have h2 := depth_count (.mk k o m nm t l); rw [depth] at h2; omega
    replace HDB := Lib.hid HDB
    generalize depth (.mk k o m nm t l) = R at *
    have q7 : W.cell? ⟨w.heap.size, 7, none⟩ = some (.slice A4 l.length c4) := hW8.p7
    have HQ := Lib.hid q7
    have HKB : Hid (∀ wx, Below W.heap.size W wx → ∀ p : Addr, p.block < B → wx.cell? p = w.cell? p) := Lib.hid (fun wx hx p hp => by rw [hx.cell (by omega), hWb.cell (by omega)])
    have HWB := Lib.hid hWb
    have HWS : Hid (w.heap.size ≤ W.heap.size) := Lib.hid (by omega)
    have HW := Lib.hid hW
    clear hW8 HO hWb hW h hn q7 hct
    go_enter Tryz.func27, Tryz.ntmps27
    go_upto_region 1 with fail
    rw [← HW.out]
    go_wp2_with fail
    go_loopw [4, 3] (fun i m wr => ∃ (j d : Nat), j ≤ l.length ∧ i = .int .i64 j ∧ m = .int .i64 d ∧ Hid (d = depths (l.take j)) ∧ Below W.heap.size W wr) (fun i _ _ => l.length - (intOf i).toNat)
    case atStart => exact ⟨0, 0, Nat.zero_le _, rfl, rfl, Lib.hid (by simp [depths]), Below.refl _ _⟩
    case round =>
      obtain ⟨j, d, hj, rfl, rfl, HD, hbel⟩ := hrel
      have hbox : wr.cell? ⟨w.heap.size, 7, none⟩ = some (.slice A4 l.length c4) := (hbel.cell (p := ⟨w.heap.size, 7, none⟩) hWl).trans HQ.out
      have hd1 : d ≤ 1000000 := by rw [HD.out]; exact HDB.out j
      by_cases hlt : j < l.length
      · obtain ⟨b, off, tv, rfl, hb, HT, HR2⟩ := tree_row HC.out HL.out (HKB.out wr hbel) hlt
        have HN : Hid (depths (l.take (j + 1)) = max d (depth l[j])) := Lib.hid (by rw [HD.out]; exact depths_next hlt)
        have IH := Lib.hid (ih l[j] _ wr B (HSZ.out j hlt).1 (HT.out.keep (HKB.out wr hbel) (Nat.le_refl _)) (by have := hbel.size; omega) (HSZ.out j hlt).2)
        have HI := Lib.hid (tree_info HT.out)
        generalize depth l[j] = z at *
        clear HT HD
        go_wp2_with (with_reducible refine wpList_load_mid rfl 28 (.tmp 16) rfl b (off + j * 8) rfl tv _ HR2.out Tryz.underlying28 rfl HI.out ?_)
        refine IH.out.mono ?_
        rintro e w2 ⟨rfl, hb2⟩
        have hb3 := hbel.trans (hb2.mono hbel.size)
        by_cases hgt : d < z
        · go_wp2_with fail
          go_roundw
          case rel => exact ⟨j + 1, z, by omega, by go_num, rfl, Lib.hid (by rw [HN.out]; omega), hb3⟩
          case measure => simp [intOf]; omega
        · go_wp2_with fail
          go_roundw
          case rel => exact ⟨j + 1, d, by omega, by go_num, rfl, Lib.hid (by rw [HN.out]; omega), hb3⟩
          case measure => simp [intOf]; omega
      · have HE : Hid (R = d + 1) := Lib.hid (by rw [HR.out, HD.out, List.take_of_length_le (by omega)])
        go_wp2_with fail
        go_ret
        exact ⟨ret_int (by rw [HE.out]; omega), HWB.out.trans (hbel.mono HWS.out)⟩
theorem count21_any (n : Nat) : ∀ (a : Tree) (vs : List Value) (w : World) (B : Nat), SizeOf.sizeOf a < n → IsTree w B a vs → B ≤ w.heap.size → count a ≤ 1000000 →
    Calls Tryz.prog 28 #[.agg vs.toArray] w (IntOut w (count a : Int)) := by
  induction n with
  | zero => intro a vs w B h; omega
  | succ n ih =>
    intro a vs w B hn h hB hct
    obtain ⟨k, o, m, nm, t, l⟩ := a
    obtain ⟨W, hW⟩ : ∃ W, W = w.alloc (.cells vs.toArray 28) := ⟨_, rfl⟩
    obtain ⟨A1, A2, A3, A4, c1, c2, c3, c4, us, HO, HL, HC, hW8, HG, hWl, hWb⟩ := tree_box h hW
    have hf4 := HO.out.f4.le (by omega)
    have HSZ : ∀ (i : Nat) (hi : i < l.length), SizeOf.sizeOf l[i] < n ∧ count l[i] ≤ 1000000 := fun i hi => ⟨by have := size_kid (k := k) (o := o) (m := m) (n := nm) (t := t) hi; omega, by have := count_kid (k := k) (o := o) (m := m) (n := nm) (t := t) hi; omega⟩
    replace HSZ := Lib.hid HSZ
    have HR : Hid (count (.mk k o m nm t l) = counts l + 1) := Lib.hid (by rw [count])
    have hcl : count (.mk k o m nm t l) = counts l + 1 := by rw [count]
    have HDB : ∀ j, counts (l.take j) ≤ 1000000 := fun j => by have h1 := counts_take l j; omega
    replace HDB := Lib.hid HDB
    clear hcl
    generalize count (.mk k o m nm t l) = R at *
    have q7 : W.cell? ⟨w.heap.size, 7, none⟩ = some (.slice A4 l.length c4) := hW8.p7
    have HQ := Lib.hid q7
    have HKB : Hid (∀ wx, Below W.heap.size W wx → ∀ p : Addr, p.block < B → wx.cell? p = w.cell? p) := Lib.hid (fun wx hx p hp => by rw [hx.cell (by omega), hWb.cell (by omega)])
    have HWB := Lib.hid hWb
    have HWS : Hid (w.heap.size ≤ W.heap.size) := Lib.hid (by omega)
    have HW := Lib.hid hW
    clear hW8 HO hWb hW h hn q7 hct
    go_enter Tryz.func28, Tryz.ntmps28
    go_upto_region 1 with fail
    rw [← HW.out]
    go_wp2_with fail
    go_loopw [4, 3] (fun i m wr => ∃ (j d : Nat), j ≤ l.length ∧ i = .int .i64 j ∧ m = .int .i64 ((d : Int) + 1) ∧ Hid (d = counts (l.take j)) ∧ Below W.heap.size W wr) (fun i _ _ => l.length - (intOf i).toNat)
    case atStart => exact ⟨0, 0, Nat.zero_le _, rfl, rfl, Lib.hid (by simp [counts]), Below.refl _ _⟩
    case round =>
      obtain ⟨j, d, hj, rfl, rfl, HD, hbel⟩ := hrel
      have hbox : wr.cell? ⟨w.heap.size, 7, none⟩ = some (.slice A4 l.length c4) := (hbel.cell (p := ⟨w.heap.size, 7, none⟩) hWl).trans HQ.out
      have hd1 : d ≤ 1000000 := by rw [HD.out]; exact HDB.out j
      by_cases hlt : j < l.length
      · obtain ⟨b, off, tv, rfl, hb, HT, HR2⟩ := tree_row HC.out HL.out (HKB.out wr hbel) hlt
        have HN : Hid (counts (l.take (j + 1)) = d + count l[j]) := Lib.hid (by rw [HD.out]; exact counts_next hlt)
        have IH := Lib.hid (ih l[j] _ wr B (HSZ.out j hlt).1 (HT.out.keep (HKB.out wr hbel) (Nat.le_refl _)) (by have := hbel.size; omega) (HSZ.out j hlt).2)
        have hz1 := (HSZ.out j hlt).2
        have HI := Lib.hid (tree_info HT.out)
        generalize count l[j] = z at *
        clear HT HD
        go_wp2_with (with_reducible refine wpList_load_mid rfl 28 (.tmp 16) rfl b (off + j * 8) rfl tv _ HR2.out Tryz.underlying28 rfl HI.out ?_)
        refine IH.out.mono ?_
        rintro e w2 ⟨rfl, hb2⟩
        have hb3 := hbel.trans (hb2.mono hbel.size)
        go_wp2_with fail
        go_roundw
        case rel => exact ⟨j + 1, d + z, by omega, by go_num, by congr 1; omega, Lib.hid (by rw [HN.out]), hb3⟩
        case measure => simp [intOf]; omega
      · have HE : Hid (R = d + 1) := Lib.hid (by rw [HR.out, HD.out, List.take_of_length_le (by omega)])
        go_wp2_with fail
        go_ret
        exact ⟨ret_int (by rw [HE.out]; omega), HWB.out.trans (hbel.mono HWS.out)⟩
end Go.Proofs.YtceplkpjnebnfaaGreatDoor

/-
  Kinds of expressions: the program's look at them, and the document's. (Printed by wip/bin/gen_tree4.py.)
-/
namespace Go.Proofs.YtceplkpjnebnfaaGreatDoor
open Go.RowKit Tr
set_option maxHeartbeats 2000000
set_option maxRecDepth 100000
set_option linter.unusedVariables false

def Pure (w : World) (r : Bool) (e : Ending) (w' : World) : Prop := e = .returned (.bool r) ∧ w = w'
theorem array_dec (k : Int) : array k = decide (1 ≤ k ∧ k ≤ 16 ∧ k ≠ 10) := by unfold array; rw [Bool.eq_iff_iff]; simp; omega
theorem item_dec (k : Int) : item k = decide (1 ≤ k ∧ k ≤ 9 ∧ k ≠ 8) := by unfold item; rw [Bool.eq_iff_iff]; simp; omega
theorem func_dec (k : Int) : func k = decide (17 ≤ k ∧ k ≤ 24) := by unfold func; rw [Bool.eq_iff_iff]; simp
theorem plain_dec (k : Int) : plain k = decide (17 ≤ k ∧ k ≤ 21) := by unfold plain; rw [Bool.eq_iff_iff]; simp
theorem port_dec (k : Int) : port k = decide (0 ≤ k ∧ k < 8) := by unfold port; rw [Bool.eq_iff_iff]; simp
theorem array21_any (k : Int) (w : World) : Calls Tryz.prog 49 #[.int .i64 k] w (Pure w (array k)) := by
  have HE := Lib.hid (array_dec k)
  generalize array k = R at *
  by_cases h0 : 1 ≤ k
  · by_cases h1 : k ≤ 16
    · by_cases h2 : k = 10
      · have HF : Hid (R = false) := Lib.hid (by rw [HE.out]; exact decide_eq_false (by omega))
        subst h2
        go_enter Tryz.func49, Tryz.ntmps49
        go_wp2_with fail
        go_ret
        exact ⟨ret_bool (by rw [HF.out]), rfl⟩
      · have q2 : (k != 10) = true := bne_iff_ne.2 h2
        have HF : Hid (R = true) := Lib.hid (by rw [HE.out]; exact decide_eq_true (by omega))
        go_enter Tryz.func49, Tryz.ntmps49
        go_wp2_with fail
        go_ret
        exact ⟨ret_bool (by rw [HF.out]), rfl⟩
    · have HF : Hid (R = false) := Lib.hid (by rw [HE.out]; exact decide_eq_false (by omega))
      go_enter Tryz.func49, Tryz.ntmps49
      go_wp2_with fail
      go_ret
      exact ⟨ret_bool (by rw [HF.out]), rfl⟩
  · have HF : Hid (R = false) := Lib.hid (by rw [HE.out]; exact decide_eq_false (by omega))
    go_enter Tryz.func49, Tryz.ntmps49
    go_wp2_with fail
    go_ret
    exact ⟨ret_bool (by rw [HF.out]), rfl⟩
theorem array_any (k : Int) (w : World) : Calls Tryz.prog 74 #[.int .i64 k] w (Pure w (array k)) := by
  have HE := Lib.hid (array_dec k)
  generalize array k = R at *
  by_cases h0 : 1 ≤ k
  · by_cases h1 : k ≤ 16
    · by_cases h2 : k = 10
      · have HF : Hid (R = false) := Lib.hid (by rw [HE.out]; exact decide_eq_false (by omega))
        subst h2
        go_enter Tryz.func74, Tryz.ntmps74
        go_wp2_with fail
        go_ret
        exact ⟨ret_bool (by rw [HF.out]), rfl⟩
      · have q2 : (k != 10) = true := bne_iff_ne.2 h2
        have HF : Hid (R = true) := Lib.hid (by rw [HE.out]; exact decide_eq_true (by omega))
        go_enter Tryz.func74, Tryz.ntmps74
        go_wp2_with fail
        go_ret
        exact ⟨ret_bool (by rw [HF.out]), rfl⟩
    · have HF : Hid (R = false) := Lib.hid (by rw [HE.out]; exact decide_eq_false (by omega))
      go_enter Tryz.func74, Tryz.ntmps74
      go_wp2_with fail
      go_ret
      exact ⟨ret_bool (by rw [HF.out]), rfl⟩
  · have HF : Hid (R = false) := Lib.hid (by rw [HE.out]; exact decide_eq_false (by omega))
    go_enter Tryz.func74, Tryz.ntmps74
    go_wp2_with fail
    go_ret
    exact ⟨ret_bool (by rw [HF.out]), rfl⟩
theorem item_any (k : Int) (w : World) : Calls Tryz.prog 129 #[.int .i64 k] w (Pure w (item k)) := by
  have HE := Lib.hid (item_dec k)
  generalize item k = R at *
  by_cases h0 : 1 ≤ k
  · by_cases h1 : k ≤ 9
    · by_cases h2 : k = 8
      · have HF : Hid (R = false) := Lib.hid (by rw [HE.out]; exact decide_eq_false (by omega))
        subst h2
        go_enter Tryz.func129, Tryz.ntmps129
        go_wp2_with fail
        go_ret
        exact ⟨ret_bool (by rw [HF.out]), rfl⟩
      · have q2 : (k != 8) = true := bne_iff_ne.2 h2
        have HF : Hid (R = true) := Lib.hid (by rw [HE.out]; exact decide_eq_true (by omega))
        go_enter Tryz.func129, Tryz.ntmps129
        go_wp2_with fail
        go_ret
        exact ⟨ret_bool (by rw [HF.out]), rfl⟩
    · have HF : Hid (R = false) := Lib.hid (by rw [HE.out]; exact decide_eq_false (by omega))
      go_enter Tryz.func129, Tryz.ntmps129
      go_wp2_with fail
      go_ret
      exact ⟨ret_bool (by rw [HF.out]), rfl⟩
  · have HF : Hid (R = false) := Lib.hid (by rw [HE.out]; exact decide_eq_false (by omega))
    go_enter Tryz.func129, Tryz.ntmps129
    go_wp2_with fail
    go_ret
    exact ⟨ret_bool (by rw [HF.out]), rfl⟩
theorem func21_any (k : Int) (w : World) : Calls Tryz.prog 146 #[.int .i64 k] w (Pure w (func k)) := by
  have HE := Lib.hid (func_dec k)
  generalize func k = R at *
  by_cases h0 : 17 ≤ k
  · by_cases h1 : k ≤ 24
    · have HF : Hid (R = true) := Lib.hid (by rw [HE.out]; exact decide_eq_true (by omega))
      go_enter Tryz.func146, Tryz.ntmps146
      go_wp2_with fail
      go_ret
      exact ⟨ret_bool (by rw [HF.out]), rfl⟩
    · have HF : Hid (R = false) := Lib.hid (by rw [HE.out]; exact decide_eq_false (by omega))
      go_enter Tryz.func146, Tryz.ntmps146
      go_wp2_with fail
      go_ret
      exact ⟨ret_bool (by rw [HF.out]), rfl⟩
  · have HF : Hid (R = false) := Lib.hid (by rw [HE.out]; exact decide_eq_false (by omega))
    go_enter Tryz.func146, Tryz.ntmps146
    go_wp2_with fail
    go_ret
    exact ⟨ret_bool (by rw [HF.out]), rfl⟩
theorem func_any (k : Int) (w : World) : Calls Tryz.prog 158 #[.int .i64 k] w (Pure w (func k)) := by
  have HE := Lib.hid (func_dec k)
  generalize func k = R at *
  by_cases h0 : 17 ≤ k
  · by_cases h1 : k ≤ 24
    · have HF : Hid (R = true) := Lib.hid (by rw [HE.out]; exact decide_eq_true (by omega))
      go_enter Tryz.func158, Tryz.ntmps158
      go_wp2_with fail
      go_ret
      exact ⟨ret_bool (by rw [HF.out]), rfl⟩
    · have HF : Hid (R = false) := Lib.hid (by rw [HE.out]; exact decide_eq_false (by omega))
      go_enter Tryz.func158, Tryz.ntmps158
      go_wp2_with fail
      go_ret
      exact ⟨ret_bool (by rw [HF.out]), rfl⟩
  · have HF : Hid (R = false) := Lib.hid (by rw [HE.out]; exact decide_eq_false (by omega))
    go_enter Tryz.func158, Tryz.ntmps158
    go_wp2_with fail
    go_ret
    exact ⟨ret_bool (by rw [HF.out]), rfl⟩
theorem plain21_any (k : Int) (w : World) : Calls Tryz.prog 147 #[.int .i64 k] w (Pure w (plain k)) := by
  have HE := Lib.hid (plain_dec k)
  generalize plain k = R at *
  by_cases h0 : 17 ≤ k
  · by_cases h1 : k ≤ 21
    · have HF : Hid (R = true) := Lib.hid (by rw [HE.out]; exact decide_eq_true (by omega))
      go_enter Tryz.func147, Tryz.ntmps147
      go_wp2_with fail
      go_ret
      exact ⟨ret_bool (by rw [HF.out]), rfl⟩
    · have HF : Hid (R = false) := Lib.hid (by rw [HE.out]; exact decide_eq_false (by omega))
      go_enter Tryz.func147, Tryz.ntmps147
      go_wp2_with fail
      go_ret
      exact ⟨ret_bool (by rw [HF.out]), rfl⟩
  · have HF : Hid (R = false) := Lib.hid (by rw [HE.out]; exact decide_eq_false (by omega))
    go_enter Tryz.func147, Tryz.ntmps147
    go_wp2_with fail
    go_ret
    exact ⟨ret_bool (by rw [HF.out]), rfl⟩
theorem plain_any (k : Int) (w : World) : Calls Tryz.prog 116 #[.int .i64 k] w (Pure w (plain k)) := by
  have HE := Lib.hid (plain_dec k)
  generalize plain k = R at *
  by_cases h0 : 17 ≤ k
  · by_cases h1 : k ≤ 21
    · have HF : Hid (R = true) := Lib.hid (by rw [HE.out]; exact decide_eq_true (by omega))
      go_enter Tryz.func116, Tryz.ntmps116
      go_wp2_with fail
      go_ret
      exact ⟨ret_bool (by rw [HF.out]), rfl⟩
    · have HF : Hid (R = false) := Lib.hid (by rw [HE.out]; exact decide_eq_false (by omega))
      go_enter Tryz.func116, Tryz.ntmps116
      go_wp2_with fail
      go_ret
      exact ⟨ret_bool (by rw [HF.out]), rfl⟩
  · have HF : Hid (R = false) := Lib.hid (by rw [HE.out]; exact decide_eq_false (by omega))
    go_enter Tryz.func116, Tryz.ntmps116
    go_wp2_with fail
    go_ret
    exact ⟨ret_bool (by rw [HF.out]), rfl⟩
theorem port21_any (k : Int) (w : World) : Calls Tryz.prog 93 #[.int .i64 k] w (Pure w (port k)) := by
  have HE := Lib.hid (port_dec k)
  generalize port k = R at *
  by_cases h0 : 0 ≤ k
  · by_cases h1 : k ≤ 7
    · have HF : Hid (R = true) := Lib.hid (by rw [HE.out]; exact decide_eq_true (by omega))
      go_enter Tryz.func93, Tryz.ntmps93
      go_wp2_with fail
      go_ret
      exact ⟨ret_bool (by rw [HF.out]), rfl⟩
    · have HF : Hid (R = false) := Lib.hid (by rw [HE.out]; exact decide_eq_false (by omega))
      go_enter Tryz.func93, Tryz.ntmps93
      go_wp2_with fail
      go_ret
      exact ⟨ret_bool (by rw [HF.out]), rfl⟩
  · have HF : Hid (R = false) := Lib.hid (by rw [HE.out]; exact decide_eq_false (by omega))
    go_enter Tryz.func93, Tryz.ntmps93
    go_wp2_with fail
    go_ret
    exact ⟨ret_bool (by rw [HF.out]), rfl⟩
theorem item21_any (k : Int) (w : World) : Calls Tryz.prog 76 #[.int .i64 k] w (Pure w (item k)) := by
  have HE := Lib.hid (item_dec k)
  generalize item k = R at *
  by_cases h9 : k = 9
  · have HF : Hid (R = true) := Lib.hid (by rw [HE.out]; exact decide_eq_true (by omega))
    subst h9
    go_enter Tryz.func76, Tryz.ntmps76
    go_wp2_with fail
    go_ret
    exact ⟨ret_bool (by rw [HF.out]), rfl⟩
  · have q9 : (k == 9) = false := beq_eq_false_iff_ne.2 h9
    by_cases h1 : 1 ≤ k
    · by_cases h2 : k ≤ 7
      · have HF : Hid (R = true) := Lib.hid (by rw [HE.out]; exact decide_eq_true (by omega))
        go_enter Tryz.func76, Tryz.ntmps76
        go_wp2_with fail
        go_ret
        exact ⟨ret_bool (by rw [HF.out]), rfl⟩
      · have HF : Hid (R = false) := Lib.hid (by rw [HE.out]; exact decide_eq_false (by omega))
        go_enter Tryz.func76, Tryz.ntmps76
        go_wp2_with fail
        go_ret
        exact ⟨ret_bool (by rw [HF.out]), rfl⟩
    · have HF : Hid (R = false) := Lib.hid (by rw [HE.out]; exact decide_eq_false (by omega))
      go_enter Tryz.func76, Tryz.ntmps76
      go_wp2_with fail
      go_ret
      exact ⟨ret_bool (by rw [HF.out]), rfl⟩
/-- Which part may stand where a letter stands. -/
theorem kid21_any (k : Int) (c : UInt8) (w : World) (hc : c = 97 ∨ c = 102 ∨ c = 112 ∨ c = 120) : Calls Tryz.prog 142 #[.int .i64 k, .int .u8 (c.toNat : Int)] w (Pure w (letters c k)) := by
  have AR := Lib.hid (fun wx => array21_any k wx)
  have FU := Lib.hid (fun wx => func21_any k wx)
  have PL := Lib.hid (fun wx => plain21_any k wx)
  rcases hc with rfl | rfl | rfl | rfl
  · rw [letters_a]
    have hn : ((97 : UInt8).toNat : Int) = 97 := rfl
    rw [hn]
    go_enter Tryz.func142, Tryz.ntmps142
    go_wp2_with fail
    refine (AR.out _).mono ?_
    rintro e w1 ⟨rfl, rfl⟩
    go_wp2_with fail
    go_ret
    exact ⟨rfl, rfl⟩
  · rw [letters_f]
    have hn : ((102 : UInt8).toNat : Int) = 102 := rfl
    rw [hn]
    go_enter Tryz.func142, Tryz.ntmps142
    go_wp2_with fail
    refine (FU.out _).mono ?_
    rintro e w1 ⟨rfl, rfl⟩
    go_wp2_with fail
    go_ret
    exact ⟨rfl, rfl⟩
  · rw [letters_p]
    have hn : ((112 : UInt8).toNat : Int) = 112 := rfl
    rw [hn]
    go_enter Tryz.func142, Tryz.ntmps142
    go_wp2_with fail
    refine (PL.out _).mono ?_
    rintro e w1 ⟨rfl, rfl⟩
    go_wp2_with fail
    go_ret
    exact ⟨rfl, rfl⟩
  · rw [letters_x]
    have HE : Hid (place k = (array k || (k == 10))) := Lib.hid rfl
    have hn : ((120 : UInt8).toNat : Int) = 120 := rfl
    rw [hn]
    generalize place k = R at *
    generalize array k = x at *
    cases x
    all_goals
      cases q : (k == 10)
      all_goals
        rw [q] at HE
        go_enter Tryz.func142, Tryz.ntmps142
        go_wp2_with fail
        refine (AR.out _).mono ?_
        rintro e w1 ⟨rfl, rfl⟩
        go_wp2_with fail
        go_ret
        exact ⟨ret_bool (by rw [HE.out]; rfl), rfl⟩
end Go.Proofs.YtceplkpjnebnfaaGreatDoor

/-
  scrimref06: In, Functions, Operators, Marks, Class, May. (Printed by wip/bin/gen_rtok1.py.)
-/
namespace Go.Proofs.YtceplkpjnebnfaaGreatDoor
open Go.RowKit
set_option maxHeartbeats 4000000
set_option maxRecDepth 100000
set_option linter.unusedVariables false

theorem refIn_any (A : Option Addr) (c : Nat) (l : List Int) (x : Int) (w : World) (hl : Lies w w.heap.size A (I64 l)) (hn : l.length ≤ 1000000) :
    Calls Tryz.prog 132 #[.slice A l.length c, .int .i64 x] w fun e w' => e = .returned (.bool (decide (x ∈ l))) ∧ w = w' := by
  have HL := Lib.hid hl
  clear hl
  go_enter Tryz.func132, Tryz.ntmps132
  go_wp2_with fail
  go_loop [5] (fun iv => ∃ j : Nat, iv = .int .i64 (j : Int) ∧ j ≤ l.length ∧ Hid (x ∉ l.take j)) (fun iv => l.length - (intOf iv).toNat)
  case atStart => exact ⟨0, by go_num, Nat.zero_le _, Lib.hid (by simp)⟩
  case round =>
    obtain ⟨j, rfl, hj, HN⟩ := hrel
    by_cases hlt : j < l.length
    · obtain ⟨b, off, rfl, hb, g0⟩ := lies_i64 HL.out hlt
      by_cases e : l[j] = x
      · have E : Hid (decide (x ∈ l) = true) := Lib.hid (decide_eq_true (by rw [← e]; exact List.getElem_mem hlt))
        rw [e] at g0
        have q : (x == x) = true := beq_self_eq_true x
        go_wp2_with fail
        go_ret
        exact ⟨ret_bool E.out.symm, rfl⟩
      · have HN2 : Hid (x ∉ l.take (j + 1)) := Lib.hid (by
          rw [List.take_add_one, List.getElem?_eq_getElem hlt]
          simp only [Option.toList_some, List.mem_append, List.mem_singleton]
          rintro (h | h)
          · exact HN.out h
          · exact e h.symm)
        generalize l[j] = y at *
        have q : (y == x) = false := beq_eq_false_iff_ne.2 e
        clear e
        go_wp2_with fail
        go_round
        case rel => exact ⟨j + 1, by go_num, hlt, HN2⟩
        case measure => simp [intOf]; omega
    · have hme : j = l.length := by omega
      have E : Hid (decide (x ∈ l) = false) := Lib.hid (decide_eq_false (by have h := HN.out; rw [hme, List.take_length] at h; exact h))
      go_wp2_with fail
      go_ret
      exact ⟨ret_bool E.out.symm, rfl⟩

theorem refFunctions_any (w : World) :
    Calls Tryz.prog 174 #[] w fun e w' => ∃ A, e = .returned (.slice A (Tk.funs).length 39) ∧ Lies w' w'.heap.size A (I64 Tk.funs) ∧ Below w.heap.size w w' := by
  go_enter Tryz.func174, Tryz.ntmps174
  go_wp2_with fail
  go_ret
  refine ⟨_, rfl, .inr ⟨w.heap.size, 0, rfl, by simp, fun j v hv => ?_⟩, (Below.refl _ _).alloc (Nat.le_refl _) _⟩
  rw [Nat.zero_add]
  rw [cell_of_row _ w.heap.size j _ _ _ (heap_alloc_new w _)]
  rw [List.getElem?_toArray]
  exact hv
theorem refOperators_any (w : World) :
    Calls Tryz.prog 175 #[] w fun e w' => ∃ A, e = .returned (.slice A (Tk.opers).length 10) ∧ Lies w' w'.heap.size A (I64 Tk.opers) ∧ Below w.heap.size w w' := by
  go_enter Tryz.func175, Tryz.ntmps175
  go_wp2_with fail
  go_ret
  refine ⟨_, rfl, .inr ⟨w.heap.size, 0, rfl, by simp, fun j v hv => ?_⟩, (Below.refl _ _).alloc (Nat.le_refl _) _⟩
  rw [Nat.zero_add]
  rw [cell_of_row _ w.heap.size j _ _ _ (heap_alloc_new w _)]
  rw [List.getElem?_toArray]
  exact hv
theorem refMarks_any (w : World) :
    Calls Tryz.prog 176 #[] w fun e w' => ∃ A, e = .returned (.slice A (Tk.marks).length 17) ∧ Lies w' w'.heap.size A (I64 Tk.marks) ∧ Below w.heap.size w w' := by
  go_enter Tryz.func176, Tryz.ntmps176
  go_wp2_with fail
  go_ret
  refine ⟨_, rfl, .inr ⟨w.heap.size, 0, rfl, by simp, fun j v hv => ?_⟩, (Below.refl _ _).alloc (Nat.le_refl _) _⟩
  rw [Nat.zero_add]
  rw [cell_of_row _ w.heap.size j _ _ _ (heap_alloc_new w _)]
  rw [List.getElem?_toArray]
  exact hv

/-- A list that is made, and whether a number is in it. -/
theorem ref06_in (l : List Int) (x : Int) (A : Option Addr) (cc : Nat) (w w1 : World) (hl : Lies w1 w1.heap.size A (I64 l)) (hn : l.length ≤ 1000000) (r : Bool) (hr : decide (x ∈ l) = r) :
    Calls Tryz.prog 132 #[.slice A l.length cc, .int .i64 x] w1 fun e w' => e = .returned (.bool r) ∧ w1 = w' := by
  subst hr
  exact refIn_any A cc l x w1 hl hn
theorem refClass_any (c : Int) (w : World) :
    Calls Tryz.prog 143 #[.int .i64 c] w fun e w' => e = .returned (.int .i64 (Tk.cls c)) ∧ Below w.heap.size w w' := by
  have FF := Lib.hid (fun wx => refFunctions_any wx)
  have FO := Lib.hid (fun wx => refOperators_any wx)
  have FM := Lib.hid (fun wx => refMarks_any wx)
  by_cases h1 : c = 32 ∨ c = 9
  · have E : Hid (Tk.cls c = 1) := Lib.hid (by unfold Tk.cls; rw [if_pos h1])
    rcases h1 with rfl | rfl
    all_goals
      go_enter Tryz.func143, Tryz.ntmps143
      go_wp2_with fail
      go_ret
      exact ⟨ret_int E.out.symm, Below.refl _ _⟩

  · have HN1 : Hid (¬ (c = 32 ∨ c = 9)) := Lib.hid h1
    have q32 : (c == 32) = false := beq_eq_false_iff_ne.2 (by omega)
    have q9 : (c == 9) = false := beq_eq_false_iff_ne.2 (by omega)
    by_cases h2 : 97 ≤ c ∧ c ≤ 122 ∨ 65 ≤ c ∧ c ≤ 90 ∨ c = 95
    · have E : Hid (Tk.cls c = 2) := Lib.hid (by unfold Tk.cls; rw [if_neg h1, if_pos h2])
      clear h1
      by_cases k1 : 97 ≤ c ∧ c ≤ 122
      · obtain ⟨a1, a2⟩ := k1
        clear h2
        go_enter Tryz.func143, Tryz.ntmps143
        go_wp2_with fail
        go_ret
        exact ⟨ret_int E.out.symm, Below.refl _ _⟩

      · by_cases k2 : 65 ≤ c ∧ c ≤ 90
        · obtain ⟨a1, a2⟩ := k2
          have a3 : decide (97 ≤ c) = false := decide_eq_false (by omega)
          clear h2 k1
          go_enter Tryz.func143, Tryz.ntmps143
          go_wp2_with fail
          go_ret
          exact ⟨ret_int E.out.symm, Below.refl _ _⟩

        · obtain rfl : c = 95 := by omega
          clear h2 k1 k2
          go_enter Tryz.func143, Tryz.ntmps143
          go_wp2_with fail
          go_ret
          exact ⟨ret_int E.out.symm, Below.refl _ _⟩

    · have HL : Hid (¬ (97 ≤ c ∧ c ≤ 122 ∨ 65 ≤ c ∧ c ≤ 90 ∨ c = 95)) := Lib.hid h2
      by_cases h3 : 48 ≤ c ∧ c ≤ 57 ∨ c = 175
      · have E : Hid (Tk.cls c = 3) := Lib.hid (by unfold Tk.cls; rw [if_neg h1, if_neg h2, if_pos h3])
        clear h1
        by_cases k1 : c = 175
        · subst k1
          clear h2 h3
          go_enter Tryz.func143, Tryz.ntmps143
          go_wp2_with fail
          go_ret
          exact ⟨ret_int E.out.symm, Below.refl _ _⟩

        · obtain ⟨a1, a2⟩ : 48 ≤ c ∧ c ≤ 57 := by omega
          have a3 : decide (97 ≤ c) = false := decide_eq_false (by omega)
          have a4 : decide (65 ≤ c) = false := decide_eq_false (by omega)
          have a5 : (c == 95) = false := beq_eq_false_iff_ne.2 (by omega)
          clear h2 h3 k1
          go_enter Tryz.func143, Tryz.ntmps143
          go_wp2_with fail
          go_ret
          exact ⟨ret_int E.out.symm, Below.refl _ _⟩

      · have HN3 : Hid (¬ (48 ≤ c ∧ c ≤ 57 ∨ c = 175)) := Lib.hid h3
        have a5 : (c == 95) = false := beq_eq_false_iff_ne.2 (by omega)
        have a6 : (c == 175) = false := beq_eq_false_iff_ne.2 (by omega)
        obtain ⟨b1, b2, b3, b4, b5, b6, H0⟩ : ∃ b1 b2 b3 b4 b5 b6 : Bool, decide (97 ≤ c) = b1 ∧ decide (c ≤ 122) = b2 ∧ decide (65 ≤ c) = b3 ∧ decide (c ≤ 90) = b4 ∧ decide (48 ≤ c) = b5 ∧ decide (c ≤ 57) = b6 := ⟨_, _, _, _, _, _, rfl, rfl, rfl, rfl, rfl, rfl⟩
        have HB : Hid ((b1 && b2) = false ∧ (b3 && b4) = false ∧ (b5 && b6) = false) := Lib.hid (by
          obtain ⟨e1, e2, e3, e4, e5, e6⟩ := H0
          rw [← e1, ← e2, ← e3, ← e4, ← e5, ← e6]
          simp only [← Bool.not_eq_true, Bool.and_eq_true, decide_eq_true_eq]
          omega)
        obtain ⟨e1, e2, e3, e4, e5, e6⟩ := H0
        clear h1 h2 h3
        go_enter Tryz.func143, Tryz.ntmps143
        go_upto_region 3 with fail
        go_cut [26] from 9 (fun x26 wx => wx = w ∧ x26 = .bool false)
        case first =>
          obtain ⟨z1, z2, z3⟩ := HB.out
          cases b1 <;> cases b2 <;> (try cases z1) <;> cases b3 <;> cases b4 <;> (try cases z2)
          all_goals
            go_wp2_with fail
            go_meet
            exact ⟨rfl, rfl⟩
        case rest =>
          obtain ⟨hwx, rfl⟩ := hcut
          rw [hwx]
          clear hwx
          go_upto_region 5 with fail
          go_cut [36] from 27 (fun x36 wx => wx = w ∧ x36 = .bool false)
          case first =>
            obtain ⟨z1, z2, z3⟩ := HB.out
            cases b5 <;> cases b6 <;> (try cases z3)
            all_goals
              go_wp2_with fail
              go_meet
              exact ⟨rfl, rfl⟩
          case rest =>
            obtain ⟨hwx, rfl⟩ := hcut
            rw [hwx]
            clear hwx e1 e2 e3 e4 e5 e6 a5 a6 q32 q9
            have K0 : Hid (Tk.cls c = if c ∈ Tk.funs then 4 else if c ∈ Tk.opers then 5 else if c ∈ Tk.marks then 6 else 0) := Lib.hid (by unfold Tk.cls; rw [if_neg HN1.out, if_neg HL.out, if_neg HN3.out])
            obtain ⟨p1, hp1⟩ : ∃ p, decide (c ∈ Tk.funs) = p := ⟨_, rfl⟩
            obtain ⟨p2, hp2⟩ : ∃ p, decide (c ∈ Tk.opers) = p := ⟨_, rfl⟩
            obtain ⟨p3, hp3⟩ : ∃ p, decide (c ∈ Tk.marks) = p := ⟨_, rfl⟩
            have K1 : Hid (Tk.cls c = if p1 then 4 else if p2 then 5 else if p3 then 6 else 0) := Lib.hid (by rw [K0.out, ← hp1, ← hp2, ← hp3]; simp only [decide_eq_true_eq])
            have P1 := Lib.hid hp1
            have P2 := Lib.hid hp2
            have P3 := Lib.hid hp3
            clear hp1 hp2 hp3
            go_wp2_with fail
            refine (FF.out _).mono ?_
            rintro e w1 ⟨A1, rfl, l1, hb1⟩
            have I1 := Lib.hid (ref06_in Tk.funs c A1 39 w w1 l1 (by decide) p1 P1.out)
            have B1 := Lib.hid hb1
            clear l1 hb1
            go_wp2_with fail
            refine I1.out.mono ?_
            rintro e w' ⟨rfl, rfl⟩
            cases p1
            · go_wp2_with fail
              refine (FO.out _).mono ?_
              rintro e w2 ⟨A2, rfl, l2, hb2⟩
              have I2 := Lib.hid (ref06_in Tk.opers c A2 10 w w2 l2 (by decide) p2 P2.out)
              have B2 := Lib.hid (B1.out.trans (hb2.mono B1.out.size))
              clear l2 hb2
              go_wp2_with fail
              refine I2.out.mono ?_
              rintro e w' ⟨rfl, rfl⟩
              cases p2
              · go_wp2_with fail
                refine (FM.out _).mono ?_
                rintro e w3 ⟨A3, rfl, l3, hb3⟩
                have I3 := Lib.hid (ref06_in Tk.marks c A3 17 w w3 l3 (by decide) p3 P3.out)
                have B3 := Lib.hid (B2.out.trans (hb3.mono B2.out.size))
                clear l3 hb3
                go_wp2_with fail
                refine I3.out.mono ?_
                rintro e w' ⟨rfl, rfl⟩
                cases p3
                · go_wp2_with fail
                  go_ret
                  exact ⟨ret_int K1.out.symm, B3.out⟩
                · go_wp2_with fail
                  go_ret
                  exact ⟨ret_int K1.out.symm, B3.out⟩
              · go_wp2_with fail
                go_ret
                exact ⟨ret_int K1.out.symm, B2.out⟩
            · go_wp2_with fail
              go_ret
              exact ⟨ret_int K1.out.symm, B1.out⟩

theorem refMay_any (x : Int) (w : World) :
    Calls Tryz.prog 59 #[.int .i64 x] w fun e w' => e = .returned (.bool (Gl.may x)) ∧ w = w' := by
  obtain ⟨b1, hb1⟩ : ∃ b, decide (0 ≤ x) = b := ⟨_, rfl⟩
  obtain ⟨b2, hb2⟩ : ∃ b, decide (x ≤ 1114111) = b := ⟨_, rfl⟩
  obtain ⟨b3, hb3⟩ : ∃ b, decide (x < 55296) = b := ⟨_, rfl⟩
  obtain ⟨b4, hb4⟩ : ∃ b, decide (57343 < x) = b := ⟨_, rfl⟩
  have E : Hid (Gl.may x = (b1 && b2 && (b3 || b4))) := Lib.hid (by unfold Gl.may; rw [hb1, hb2, hb3, hb4])
  go_enter Tryz.func59, Tryz.ntmps59
  cases b1 <;> cases b2 <;> cases b3 <;> cases b4
  all_goals
    go_wp2_with fail
    go_ret
    exact ⟨ret_bool E.out.symm, rfl⟩
end Go.Proofs.YtceplkpjnebnfaaGreatDoor

/-
  Names of expressions: the document's look at them, and the program's.
-/
namespace Go.Proofs.YtceplkpjnebnfaaGreatDoor
open Go.RowKit Tr
set_option maxHeartbeats 2000000
set_option maxRecDepth 100000
set_option linter.unusedVariables false

/-- May a byte stand in a name, at a place? -/
def nameAt (s : List UInt8) (i : Nat) : Bool := letter (s.getD i 0) || (digit (s.getD i 0) && !(i == 0))
theorem named_loop {s : List UInt8} {b : Bool} (h0 : 0 < s.length) (h1 : s.length ≤ 16) : named s b = ((List.range s.length).all (nameAt s) && (great s == b)) := by
  have e0 : s.isEmpty = false := by cases s with
    | nil => simp at h0
    | cons _ _ => rfl
  unfold named
  rw [e0, decide_eq_true h1, Bool.not_false, Bool.true_and, Bool.true_and]
  congr 1
  rw [Bool.eq_iff_iff, Bool.and_eq_true, List.all_eq_true, List.all_eq_true]
  constructor
  · rintro ⟨h2, h3⟩ i hi
    have hi : i < s.length := by simpa using hi
    unfold nameAt
    have h4 := h3 s[i] (List.getElem_mem hi)
    rw [List.getD_eq_getElem?_getD, List.getElem?_eq_getElem hi, Option.getD_some]
    by_cases hz : i = 0
    · subst hz
      rw [List.getD_eq_getElem?_getD, List.getElem?_eq_getElem hi, Option.getD_some] at h2
      rw [h2]; rfl
    · rw [show (i == 0) = false by simpa using hz, Bool.not_false, Bool.and_true]; exact h4
  · intro h2
    refine ⟨?_, fun x hx => ?_⟩
    · have := h2 0 (by simpa using h0)
      unfold nameAt at this
      simpa using this
    · obtain ⟨i, hi, rfl⟩ := List.mem_iff_getElem.1 hx
      have := h2 i (by simpa using hi)
      unfold nameAt at this
      rw [List.getD_eq_getElem?_getD, List.getElem?_eq_getElem hi, Option.getD_some] at this
      revert this
      cases letter s[i] <;> cases digit s[i] <;> simp
theorem named_empty {s : List UInt8} {b : Bool} (h : s.length = 0) : named s b = false := by
  obtain rfl := List.eq_nil_of_length_eq_zero h
  rfl
theorem named_long {s : List UInt8} {b : Bool} (h : ¬ s.length ≤ 16) : named s b = false := by
  unfold named; rw [decide_eq_false h]; simp
theorem named_bad {s : List UInt8} {b : Bool} (h0 : 0 < s.length) (h1 : s.length ≤ 16) {i : Nat} (hi : i < s.length) (h : nameAt s i = false) : named s b = false := by
  rw [named_loop h0 h1, List.all_eq_false.2 ⟨i, by simpa using hi, by rw [h]; simp⟩]; rfl
theorem named_good {s : List UInt8} {b : Bool} (h0 : 0 < s.length) (h1 : s.length ≤ 16) (h : ∀ i, i < s.length → nameAt s i = true) : named s b = (great s == b) := by
  rw [named_loop h0 h1, List.all_eq_true.2 (fun i hi => h i (by simpa using hi))]; rfl
/-- What stands at a place, by its number. -/
theorem name_cases {s : List UInt8} {j : Nat} (hj : j < s.length) : ∃ y : Nat, s[j].toNat = y ∧ y < 256 ∧ nameAt s j = ((Tk.cls (y : Int) == 2) || (decide (48 ≤ y) && decide (y ≤ 57) && !(j == 0))) := by
  refine ⟨s[j].toNat, rfl, UInt8.toNat_lt _, ?_⟩
  unfold nameAt letter digit
  rw [List.getD_eq_getElem?_getD, List.getElem?_eq_getElem hj, Option.getD_some]
theorem great_cases {s : List UInt8} (h : 0 < s.length) : ∃ y : Nat, (s[0]).toNat = y ∧ great s = (decide (65 ≤ y) && decide (y ≤ 90)) := by
  refine ⟨s[0].toNat, rfl, ?_⟩
  unfold great
  rw [List.getD_eq_getElem?_getD, List.getElem?_eq_getElem h, Option.getD_some]
theorem name21_any (s : List UInt8) (b : Bool) (w : World) (hs : s.length ≤ 140737488355328) : Calls Tryz.prog 92 #[.string ⟨s.toArray⟩, .bool b] w (BoolOut w (named s b)) := by
  have hsz : (⟨s.toArray⟩ : ByteArray).size = s.length := rfl
  have CL := Lib.hid (fun (c : Int) (wx : World) => refClass_any c wx)
  by_cases h0 : s.length = 0
  · have HE := Lib.hid (named_empty (b := b) h0)
    generalize named s b = R at *
    have q0 : ((s.length : Int) == 0) = true := beq_iff_eq.2 (by omega)
    clear h0
    go_enter Tryz.func92, Tryz.ntmps92
    go_wp2_with fail
    go_ret
    exact ⟨ret_bool (by rw [HE.out]), Below.refl _ _⟩
  · have q0 : ((s.length : Int) == 0) = false := beq_eq_false_iff_ne.2 (by omega)
    by_cases h1 : s.length ≤ 16
    · have q1 : ¬ (16 : Int) < (s.length : Int) := by omega
      have NB : Hid (∀ i, i < s.length → nameAt s i = false → named s b = false) := Lib.hid (fun i hi h => named_bad (by omega) h1 hi h)
      have NG : Hid ((∀ i, i < s.length → nameAt s i = true) → named s b = (great s == b)) := Lib.hid (fun h => named_good (by omega) h1 h)
      have NC : Hid (∀ j (hj : j < s.length), ∃ y : Nat, s[j].toNat = y ∧ y < 256 ∧ nameAt s j = ((Tk.cls (y : Int) == 2) || (decide (48 ≤ y) && decide (y ≤ 57) && !(j == 0)))) := Lib.hid (fun j hj => name_cases hj)
      have hpos : 0 < s.length := by omega
      have NGR := Lib.hid (great_cases hpos)
      generalize named s b = R at *
      generalize great s = G at *
      have HB0 : Hid (Below w.heap.size w w) := Lib.hid (Below.refl _ _)
      go_enter Tryz.func92, Tryz.ntmps92
      go_wp2_with fail
      go_loopw [5] (fun i wr => ∃ j : Nat, j ≤ s.length ∧ i = .int .i64 j ∧ Hid (∀ i, i < j → nameAt s i = true) ∧ Below w.heap.size w wr) (fun i _ => s.length - (intOf i).toNat)
      case atStart => exact ⟨0, Nat.zero_le _, rfl, Lib.hid (fun i hi => by omega), HB0.out⟩
      case round =>
        obtain ⟨j, hj, rfl, HI, hbel⟩ := hrel
        by_cases hlt : j < s.length
        · obtain ⟨y, hy, hy2, hn⟩ := NC.out j hlt
          have hgy : ((⟨s.toArray⟩ : ByteArray)[j]'(show j < (⟨s.toArray⟩ : ByteArray).size from hlt)).toNat = y := hy
          have C1 := Lib.hid (CL.out (y : Int) wr)
          have HN := Lib.hid hn
          have HS : Hid (nameAt s j = true → ∀ i, i < j + 1 → nameAt s i = true) := Lib.hid (fun h i hi => by
            by_cases e : i = j
            · subst e; exact h
            · exact HI.out i (by omega))
          have HF : Hid (nameAt s j = false → R = false) := Lib.hid (NB.out j hlt)
          generalize nameAt s j = nj at *
          generalize Tk.cls (y : Int) = cv at *
          clear hy hn NB NC
          by_cases hc : cv = 2
          · have HN2 := Lib.hid (HS.out (by rw [HN.out, show (cv == 2) = true by simpa using hc]; rfl))
            subst hc
            by_cases g1 : 48 ≤ y
            · by_cases g2 : y ≤ 57
              all_goals
                go_wp2_with fail
                refine C1.out.mono ?_
                rintro e w2 ⟨rfl, hb2⟩
                go_wp2_with fail
                go_roundw
                case rel => exact ⟨j + 1, by omega, by go_num, HN2, hbel.trans (hb2.mono hbel.size)⟩
                case measure => simp [intOf]; omega
            · go_wp2_with fail
              refine C1.out.mono ?_
              rintro e w2 ⟨rfl, hb2⟩
              go_wp2_with fail
              go_roundw
              case rel => exact ⟨j + 1, by omega, by go_num, HN2, hbel.trans (hb2.mono hbel.size)⟩
              case measure => simp [intOf]; omega
          · have hc2 : (cv != 2) = true := bne_iff_ne.2 hc
            have hc3 : (cv == 2) = false := beq_eq_false_iff_ne.2 hc
            rw [hc3] at HN
            by_cases g1 : 48 ≤ y
            · by_cases g2 : y ≤ 57
              · by_cases hj0 : j = 0
                · have HZ := Lib.hid (HF.out (by rw [HN.out, hj0]; simp))
                  have qj : ((j : Int) == 0) = true := beq_iff_eq.2 (by omega)
                  clear hj0
                  go_wp2_with fail
                  refine C1.out.mono ?_
                  rintro e w2 ⟨rfl, hb2⟩
                  go_wp2_with fail
                  go_ret
                  exact ⟨ret_bool (by rw [HZ.out]), hbel.trans (hb2.mono hbel.size)⟩
                · have HN2 := Lib.hid (HS.out (by rw [HN.out, decide_eq_true g1, decide_eq_true g2, show (j == 0) = false by simpa using hj0]; rfl))
                  have qj : ((j : Int) == 0) = false := beq_eq_false_iff_ne.2 (by omega)
                  go_wp2_with fail
                  refine C1.out.mono ?_
                  rintro e w2 ⟨rfl, hb2⟩
                  go_wp2_with fail
                  go_roundw
                  case rel => exact ⟨j + 1, by omega, by go_num, HN2, hbel.trans (hb2.mono hbel.size)⟩
                  case measure => simp [intOf]; omega
              · have HZ := Lib.hid (HF.out (by rw [HN.out, decide_eq_false g2]; simp))
                go_wp2_with fail
                refine C1.out.mono ?_
                rintro e w2 ⟨rfl, hb2⟩
                go_wp2_with fail
                go_ret
                exact ⟨ret_bool (by rw [HZ.out]), hbel.trans (hb2.mono hbel.size)⟩
            · have HZ := Lib.hid (HF.out (by rw [HN.out, decide_eq_false g1]; simp))
              go_wp2_with fail
              refine C1.out.mono ?_
              rintro e w2 ⟨rfl, hb2⟩
              go_wp2_with fail
              go_ret
              exact ⟨ret_bool (by rw [HZ.out]), hbel.trans (hb2.mono hbel.size)⟩
        · have HZ := Lib.hid (NG.out (fun i hi => HI.out i (by omega)))
          obtain ⟨y, hy, hgr⟩ := NGR.out
          have hgy : ((⟨s.toArray⟩ : ByteArray)[0]'(show 0 < (⟨s.toArray⟩ : ByteArray).size from hpos)).toNat = y := hy
          have HGR := Lib.hid hgr
          clear hy hgr NG NB NC CL HI NGR
          by_cases g1 : 65 ≤ y
          · by_cases g2 : y ≤ 90
            all_goals
              cases b
              all_goals
                go_wp2_with fail
                go_ret
                exact ⟨ret_bool (by rw [HZ.out, HGR.out]; simp [*] <;> omega), hbel⟩
          · cases b
            all_goals
              go_wp2_with fail
              go_ret
              exact ⟨ret_bool (by rw [HZ.out, HGR.out]; simp [*] <;> omega), hbel⟩
    · have HE := Lib.hid (named_long (b := b) h1)
      generalize named s b = R at *
      have q1 : (16 : Int) < (s.length : Int) := by omega
      go_enter Tryz.func92, Tryz.ntmps92
      go_wp2_with fail
      go_ret
      exact ⟨ret_bool (by rw [HE.out]), Below.refl _ _⟩

theorem named_head {s : List UInt8} {b : Bool} (h0 : 0 < s.length) (h : letter (s[0]'h0) = false) : named s b = false := by
  unfold named
  rw [show s.getD 0 0 = s[0]'h0 by rw [List.getD_eq_getElem?_getD, List.getElem?_eq_getElem h0, Option.getD_some], h]; simp
theorem named_bad2 {s : List UInt8} {b : Bool} {i : Nat} (hi : i < s.length) (h : letter s[i] = false) (h' : digit s[i] = false) : named s b = false := by
  unfold named
  rw [show s.all (fun b => letter b || digit b) = false from List.all_eq_false.2 ⟨s[i], List.getElem_mem hi, by rw [h, h']; simp⟩]; simp
theorem named_good2 {s : List UInt8} {b : Bool} (h0 : 0 < s.length) (h1 : s.length ≤ 16) (h2 : letter (s[0]'h0) = true) (h : ∀ i (hi : i < s.length), (letter s[i] || digit s[i]) = true) : named s b = (great s == b) := by
  unfold named
  rw [show s.getD 0 0 = s[0]'h0 by rw [List.getD_eq_getElem?_getD, List.getElem?_eq_getElem h0, Option.getD_some], h2, decide_eq_true h1,
    show s.all (fun b => letter b || digit b) = true from List.all_eq_true.2 (fun x hx => by obtain ⟨i, hi, rfl⟩ := List.mem_iff_getElem.1 hx; exact h i hi),
    show s.isEmpty = false by cases s with
      | nil => simp at h0
      | cons _ _ => rfl]
  rfl
theorem byte_cases (x : UInt8) : ∃ y : Nat, x.toNat = y ∧ y < 256 ∧ letter x = (Tk.cls (y : Int) == 2) ∧ digit x = (decide (48 ≤ y) && decide (y ≤ 57)) := ⟨_, rfl, UInt8.toNat_lt _, rfl, rfl⟩
theorem named_any (s : List UInt8) (b : Bool) (w : World) (hs : s.length ≤ 140737488355328) : Calls Tryz.prog 105 #[.string ⟨s.toArray⟩, .bool b] w (Pure w (named s b)) := by
  have hsz : (⟨s.toArray⟩ : ByteArray).size = s.length := rfl
  have CL := Lib.hid (fun (c : Int) (wx : World) => class_any c wx)
  by_cases h0 : s.length = 0
  · have HE := Lib.hid (named_empty (b := b) h0)
    obtain rfl := List.eq_nil_of_length_eq_zero h0
    generalize named [] b = R at *
    clear h0 hsz hs
    go_enter Tryz.func105, Tryz.ntmps105
    go_wp2_with fail
    go_ret
    exact ⟨ret_bool (by rw [HE.out]), rfl⟩
  · have q0 : (s == ([] : List UInt8)) = false := by cases s with
      | nil => exact absurd rfl h0
      | cons _ _ => rfl
    by_cases h1 : s.length ≤ 16
    · have q1 : ¬ (16 : Int) < (s.length : Int) := by omega
      have hpos : 0 < s.length := by omega
      have NB : Hid (∀ i (hi : i < s.length), letter s[i] = false → digit s[i] = false → named s b = false) := Lib.hid (fun i hi h h' => named_bad2 hi h h')
      have NH : Hid (letter (s[0]'hpos) = false → named s b = false) := Lib.hid (fun h => named_head hpos h)
      have NG : Hid (letter (s[0]'hpos) = true → (∀ i (hi : i < s.length), (letter s[i] || digit s[i]) = true) → named s b = (great s == b)) := Lib.hid (fun h2 h => named_good2 hpos h1 h2 h)
      have NGR := Lib.hid (great_cases hpos)
      have NC : Hid (∀ j (hj : j < s.length), ∃ y : Nat, s[j].toNat = y ∧ y < 256 ∧ letter s[j] = (Tk.cls (y : Int) == 2) ∧ digit s[j] = (decide (48 ≤ y) && decide (y ≤ 57))) := Lib.hid (fun j hj => byte_cases s[j])
      generalize named s b = R at *
      generalize great s = G at *
      obtain ⟨y0, hy0, hy02, hl0, _⟩ := NC.out 0 hpos
      have hgy0 : ((⟨s.toArray⟩ : ByteArray)[0]'(show 0 < (⟨s.toArray⟩ : ByteArray).size from hpos)).toNat = y0 := hy0
      have C0 := Lib.hid (CL.out (y0 : Int) w)
      have HL0 := Lib.hid hl0
      generalize Tk.cls (y0 : Int) = cv0 at *
      clear hy0 hl0
      by_cases hc0 : cv0 = 2
      · have hc1 : (cv0 != 2) = false := by rw [hc0]; rfl
        have NG2 := Lib.hid (NG.out (by rw [HL0.out, show (cv0 == 2) = true by simpa using hc0]))
        clear hc0 NG NH
        go_enter Tryz.func105, Tryz.ntmps105
        go_wp2_with fail
        refine C0.out.mono ?_
        rintro e w2 ⟨rfl, rfl⟩
        go_wp2_with fail
        clear hgy0 C0 HL0
        go_loopw [23] (fun i wr => ∃ j : Nat, j ≤ s.length ∧ i = .int .i64 j ∧ Hid (∀ i (hi : i < s.length), i < j → (letter s[i] || digit s[i]) = true) ∧ w = wr) (fun i _ => s.length - (intOf i).toNat)
        case atStart => exact ⟨0, Nat.zero_le _, rfl, Lib.hid (fun i hi h => by omega), rfl⟩
        case round =>
          obtain ⟨j, hj, rfl, HI, rfl⟩ := hrel
          by_cases hlt : j < s.length
          · obtain ⟨y, hy, hy2, hl, hd⟩ := NC.out j hlt
            have hgy : ((⟨s.toArray⟩ : ByteArray)[j]'(show j < (⟨s.toArray⟩ : ByteArray).size from hlt)).toNat = y := hy
            have C1 := Lib.hid (CL.out (y : Int) w)
            have HS : Hid ((letter s[j] || digit s[j]) = true → ∀ i (hi : i < s.length), i < j + 1 → (letter s[i] || digit s[i]) = true) := Lib.hid (fun h i hi hij => by
              by_cases e : i = j
              · subst e; exact h
              · exact HI.out i hi (by omega))
            have HF : Hid (letter s[j] = false → digit s[j] = false → R = false) := Lib.hid (NB.out j hlt)
            have HL := Lib.hid hl
            have HD := Lib.hid hd
            generalize letter s[j] = lj at *
            generalize digit s[j] = dj at *
            generalize Tk.cls (y : Int) = cv at *
            clear hy hl hd NB NC
            by_cases hc : cv = 2
            · have HN2 := Lib.hid (HS.out (by rw [HL.out, show (cv == 2) = true by simpa using hc]; rfl))
              subst hc
              go_wp2_with fail
              refine C1.out.mono ?_
              rintro e w2 ⟨rfl, rfl⟩
              go_wp2_with fail
              go_roundw
              case rel => exact ⟨j + 1, by omega, by go_num, HN2, by first | rfl | trivial⟩
              case measure => simp [intOf]; omega
            · have hc2 : (cv != 2) = true := bne_iff_ne.2 hc
              have hc3 : (cv == 2) = false := beq_eq_false_iff_ne.2 hc
              rw [hc3] at HL
              by_cases g1 : y < 48
              · have HZ := Lib.hid (HF.out HL.out (by rw [HD.out, decide_eq_false (by omega : ¬ 48 ≤ y)]; rfl))
                go_wp2_with fail
                refine C1.out.mono ?_
                rintro e w2 ⟨rfl, rfl⟩
                go_wp2_with fail
                go_ret
                exact ⟨ret_bool (by rw [HZ.out]), rfl⟩
              · by_cases g2 : 57 < y
                · have HZ := Lib.hid (HF.out HL.out (by rw [HD.out, decide_eq_false (by omega : ¬ y ≤ 57)]; simp))
                  go_wp2_with fail
                  refine C1.out.mono ?_
                  rintro e w2 ⟨rfl, rfl⟩
                  go_wp2_with fail
                  go_ret
                  exact ⟨ret_bool (by rw [HZ.out]), rfl⟩
                · have HN2 := Lib.hid (HS.out (by rw [HD.out, decide_eq_true (by omega : 48 ≤ y), decide_eq_true (by omega : y ≤ 57)]; simp))
                  go_wp2_with fail
                  refine C1.out.mono ?_
                  rintro e w2 ⟨rfl, rfl⟩
                  go_wp2_with fail
                  go_roundw
                  case rel => exact ⟨j + 1, by omega, by go_num, HN2, by first | rfl | trivial⟩
                  case measure => simp [intOf]; omega
          · have HZ := Lib.hid (NG2.out (fun i hi => HI.out i hi (by omega)))
            obtain ⟨y, hy, hgr⟩ := NGR.out
            have hgy : ((⟨s.toArray⟩ : ByteArray)[0]'(show 0 < (⟨s.toArray⟩ : ByteArray).size from hpos)).toNat = y := hy
            have HGR := Lib.hid hgr
            clear hy hgr NG2 NB NC CL HI NGR
            by_cases g1 : 65 ≤ y
            · by_cases g2 : y ≤ 90
              all_goals
                cases b
                all_goals
                  go_wp2_with fail
                  go_ret
                  exact ⟨ret_bool (by rw [HZ.out, HGR.out]; simp [*] <;> omega), rfl⟩
            · cases b
              all_goals
                go_wp2_with fail
                go_ret
                exact ⟨ret_bool (by rw [HZ.out, HGR.out]; simp [*] <;> omega), rfl⟩
      · have hc1 : (cv0 != 2) = true := bne_iff_ne.2 hc0
        have HZ := Lib.hid (NH.out (by rw [HL0.out]; exact beq_eq_false_iff_ne.2 hc0))
        go_enter Tryz.func105, Tryz.ntmps105
        go_wp2_with fail
        refine C0.out.mono ?_
        rintro e w2 ⟨rfl, rfl⟩
        go_wp2_with fail
        go_ret
        exact ⟨ret_bool (by rw [HZ.out]), rfl⟩
    · have HE := Lib.hid (named_long (b := b) h1)
      generalize named s b = R at *
      have q1 : (16 : Int) < (s.length : Int) := by omega
      go_enter Tryz.func105, Tryz.ntmps105
      go_wp2_with fail
      go_ret
      exact ⟨ret_bool (by rw [HE.out]), rfl⟩
end Go.Proofs.YtceplkpjnebnfaaGreatDoor

/-
  The document's looks at an expression: which fields it has, its parts by letters, its statements, its characters.
-/
namespace Go.Proofs.YtceplkpjnebnfaaGreatDoor
open Go.RowKit Tr
set_option maxHeartbeats 4000000
set_option maxRecDepth 100000
set_option linter.unusedVariables false

theorem fields_eq (o : Int) (m : List UInt8) (n : Rt.Nm) (t : List Int) (a b c d : Bool) (h1 : decide (o = 0) = a) (h2 : decide (m = []) = b) (h3 : zero n = c) (h4 : decide (t = []) = d) :
    fields o m n t = (if a then 0 else 1) + (if b then 0 else 2) + (if c then 0 else 4) + (if d then 0 else 8) := by
  subst h1 h2 h3 h4
  unfold fields
  simp only [decide_eq_true_eq]
theorem zero_len (n : Rt.Nm) (h1 : n.neg = false) (h2 : n.top.length = 0) (h3 : n.bot.length = 0) : zero n = true := by
  unfold zero; rw [h1, List.eq_nil_of_length_eq_zero h2, List.eq_nil_of_length_eq_zero h3]; rfl
theorem zero_neg (n : Rt.Nm) (h1 : n.neg = true) : zero n = false := by unfold zero; rw [h1]; rfl
theorem zero_top (n : Rt.Nm) (h : 0 < n.top.length + n.bot.length) : zero n = false := by
  unfold zero
  cases ht : n.top with
  | nil =>
    cases hb : n.bot with
    | nil => rw [ht, hb] at h; simp at h
    | cons _ _ => simp
  | cons _ _ => simp
theorem fields21_any (a : Tree) (vs : List Value) (w : World) (B : Nat) (h : IsTree w B a vs) (hB : B ≤ w.heap.size) :
    Calls Tryz.prog 90 #[.agg vs.toArray] w (IntOut w (fields (op a) (name a) (num a) (text a))) := by
  obtain ⟨k, o, m, nm, t, l⟩ := a
  obtain ⟨W, hW⟩ : ∃ W, W = w.alloc (.cells vs.toArray 28) := ⟨_, rfl⟩
  obtain ⟨A1, A2, A3, A4, c1, c2, c3, c4, us, HO, HL, HC, hW8, HG, hWl, hWb⟩ := tree_box h hW
  have hf1 := HO.out.f1.le (by omega)
  have hf2 := HO.out.f2.le (by omega)
  have hf3 := HO.out.f3.le (by omega)
  have hms := HO.out.ms
  have q1 : W.cell? ⟨w.heap.size, 1, none⟩ = some (.int .i64 o) := hW8.p1
  have q2 : W.cell? ⟨w.heap.size, 2, none⟩ = some (.string ⟨m.toArray⟩) := hW8.p2
  have q3 : W.cell? ⟨w.heap.size, 3, none⟩ = some (.bool nm.neg) := hW8.p3
  have q4 : W.cell? ⟨w.heap.size, 4, none⟩ = some (.slice A1 nm.top.length c1) := hW8.p4
  have q5 : W.cell? ⟨w.heap.size, 5, none⟩ = some (.slice A2 nm.bot.length c2) := hW8.p5
  have q6 : W.cell? ⟨w.heap.size, 6, none⟩ = some (.slice A3 t.length c3) := hW8.p6
  have HWB := Lib.hid hWb
  have HW := Lib.hid hW
  have HF := Lib.hid (fields_eq o m nm t)
  have Z1 := Lib.hid (zero_len nm)
  have Z2 := Lib.hid (zero_neg nm)
  have Z3 := Lib.hid (zero_top nm)
  show Calls _ _ _ _ (IntOut w (fields o m nm t))
  obtain ⟨ng, tp, bt⟩ := nm
  dsimp only at *
  generalize fields o m ⟨ng, tp, bt⟩ t = R at *
  clear h hW hW8 HO HL HC HG hWb
  have e1 : ∀ b : Bool, decide (o = 0) = b → (o != 0) = !b := fun b hb => by subst hb; by_cases h : o = 0 <;> simp [h]
  have e4 : ∀ b : Bool, decide (t = []) = b → decide ((0 : Int) < (t.length : Int)) = !b := fun b hb => by subst hb; cases t <;> simp
  cases ha : decide (o = 0)
  all_goals
    have p1 := e1 _ ha
    cases hd : decide (t = [])
    all_goals
      have p4 := e4 _ hd
      cases hb : decide (m = [])
      all_goals
        have p2 : (m == ([] : List UInt8)) = decide (m = []) := by cases m <;> rfl
        rw [hb] at p2
        have p3 : (m != ([] : List UInt8)) = !decide (m = []) := by cases m <;> rfl
        rw [hb] at p3
        simp only [Bool.not_true, Bool.not_false, decide_eq_true_eq, decide_eq_false_iff_not] at p1 p4
        cases ng
        · by_cases hz : 0 < tp.length + bt.length
          · have HR := Lib.hid (HF.out _ _ _ _ ha hb (Z3.out hz) hd)
            have hz2 : (0 : Int) < (tp.length : Int) + (bt.length : Int) := by omega
            clear e1 e4
            go_enter Tryz.func90, Tryz.ntmps90
            go_upto_region 1 with fail
            rw [← HW.out]
            go_wp2_with fail
            go_ret
            exact ⟨ret_int (by rw [HR.out]; rfl), HWB.out⟩
          · have HR := Lib.hid (HF.out _ _ _ _ ha hb (Z1.out rfl (by omega) (by omega)) hd)
            have hz2 : ¬ (0 : Int) < (tp.length : Int) + (bt.length : Int) := by omega
            clear e1 e4
            go_enter Tryz.func90, Tryz.ntmps90
            go_upto_region 1 with fail
            rw [← HW.out]
            go_wp2_with fail
            go_ret
            exact ⟨ret_int (by rw [HR.out]; rfl), HWB.out⟩
        · have HR := Lib.hid (HF.out _ _ _ _ ha hb (Z2.out rfl) hd)
          clear e1 e4
          go_enter Tryz.func90, Tryz.ntmps90
          go_upto_region 1 with fail
          rw [← HW.out]
          go_wp2_with fail
          go_ret
          exact ⟨ret_int (by rw [HR.out]; rfl), HWB.out⟩
end Go.Proofs.YtceplkpjnebnfaaGreatDoor

/-
  The document's looks at an expression's parts, by letters; at statements; at characters; the lists of operators.
-/
namespace Go.Proofs.YtceplkpjnebnfaaGreatDoor
open Go.RowKit Tr
set_option maxHeartbeats 4000000
set_option maxRecDepth 100000
set_option linter.unusedVariables false

theorem kidsR_bad {l : List Tree} {s : List UInt8} {more : Bool} {i : Nat} (hi : i < l.length) (h : letters (at_ s i) (kind l[i]) = false) : kidsR (l.map kind) s more = false := by
  unfold kidsR
  split
  · rfl
  · refine List.all_eq_false.2 ⟨i, by simpa using hi, ?_⟩
    rw [List.getD_eq_getElem?_getD, List.getElem?_map, List.getElem?_eq_getElem hi]
    show ¬ letters (at_ s i) (kind l[i]) = true
    rw [h]; simp
theorem kidsR_good {l : List Tree} {s : List UInt8} {more : Bool} (hl : ¬ (l.length < s.length ∨ (s.length < l.length ∧ more = false))) (h : ∀ i (hi : i < l.length), letters (at_ s i) (kind l[i]) = true) : kidsR (l.map kind) s more = true := by
  unfold kidsR
  rw [List.length_map, if_neg hl]
  refine List.all_eq_true.2 fun i hi => ?_
  have hi : i < l.length := by simpa using hi
  rw [List.getD_eq_getElem?_getD, List.getElem?_map, List.getElem?_eq_getElem hi]
  exact h i hi
theorem kidsR_len {l : List Tree} {s : List UInt8} {more : Bool} (hl : l.length < s.length ∨ (s.length < l.length ∧ more = false)) : kidsR (l.map kind) s more = false := by
  unfold kidsR
  rw [List.length_map, if_pos hl]
theorem at_mem {s : List UInt8} (hs : 0 < s.length) (i : Nat) : at_ s i ∈ s := by
  unfold at_
  split
  · next h => rw [List.getD_eq_getElem?_getD, List.getElem?_eq_getElem h]; exact List.getElem_mem h
  · rw [List.getD_eq_getElem?_getD, List.getElem?_eq_getElem (by omega)]; exact List.getElem_mem _
theorem kids21_any (a : Tree) (vs : List Value) (s : List UInt8) (more : Bool) (w : World) (B : Nat) (h : IsTree w B a vs) (hB : B ≤ w.heap.size) (h0 : 0 < s.length) (h3 : s.length ≤ 3) (hm : ∀ c ∈ s, c = 97 ∨ c = 102 ∨ c = 112 ∨ c = 120) :
    Calls Tryz.prog 91 #[.agg vs.toArray, .string ⟨s.toArray⟩, .bool more] w (BoolOut w (kidsR ((kids a).map kind) s more)) := by
  obtain ⟨k, o, m, nm, t, l⟩ := a
  show Calls _ _ _ _ (BoolOut w (kidsR (l.map kind) s more))
  obtain ⟨W, hW⟩ : ∃ W, W = w.alloc (.cells vs.toArray 28) := ⟨_, rfl⟩
  obtain ⟨A1, A2, A3, A4, c1, c2, c3, c4, us, HO, HL, HC, hW8, HG, hWl, hWb⟩ := tree_box h hW
  have hf4 := HO.out.f4.le (by omega)
  have q7 : W.cell? ⟨w.heap.size, 7, none⟩ = some (.slice A4 l.length c4) := hW8.p7
  have HQ := Lib.hid q7
  have HKB : Hid (∀ wx, Below W.heap.size W wx → ∀ p : Addr, p.block < B → wx.cell? p = w.cell? p) := Lib.hid (fun wx hx p hp => by rw [hx.cell (by omega), hWb.cell (by omega)])
  have HWB := Lib.hid hWb
  have HWS : Hid (w.heap.size ≤ W.heap.size) := Lib.hid (by omega)
  have HW := Lib.hid hW
  have hsz : (⟨s.toArray⟩ : ByteArray).size = s.length := rfl
  have KL := Lib.hid (@kidsR_len l s more)
  have KB : Hid (∀ i (hi : i < l.length), letters (at_ s i) (kind l[i]) = false → kidsR (l.map kind) s more = false) := Lib.hid (fun i hi h => kidsR_bad hi h)
  have KG := Lib.hid (@kidsR_good l s more)
  have HAM : Hid (∀ i, at_ s i = 97 ∨ at_ s i = 102 ∨ at_ s i = 112 ∨ at_ s i = 120) := Lib.hid (fun i => hm _ (at_mem h0 i))
  have HA1 : Hid (∀ i (hi : i < s.length), (s[i]).toNat = (at_ s i).toNat) := Lib.hid (fun i hi => by unfold at_; rw [if_pos hi, List.getD_eq_getElem?_getD, List.getElem?_eq_getElem hi]; rfl)
  have HA2 : Hid (∀ i, ¬ i < s.length → (s[s.length - 1]'(by omega)).toNat = (at_ s i).toNat) := Lib.hid (fun i hi => by unfold at_; rw [if_neg hi, List.getD_eq_getElem?_getD, List.getElem?_eq_getElem (by omega)]; rfl)
  have KID := Lib.hid (fun (k : Int) (c : UInt8) (wx : World) hc => kid21_any k c wx hc)
  generalize kidsR (l.map kind) s more = R at *
  clear h hW hW8 HO HG hWb hm
  by_cases hb : l.length < s.length
  · have HZ := Lib.hid (KL.out (.inl hb))
    clear HQ HKB HAM HA1 HA2 KID KB KG KL
    go_enter Tryz.func91, Tryz.ntmps91
    go_upto_region 1 with fail
    rw [← HW.out]
    go_wp2_with fail
    go_ret
    exact ⟨ret_bool (by rw [HZ.out]), HWB.out⟩
  · by_cases hb2 : s.length < l.length ∧ more = false
    · have HZ := Lib.hid (KL.out (.inr hb2))
      obtain ⟨hb3, rfl⟩ := hb2
      clear HQ HKB HAM HA1 HA2 KID KB KG KL
      go_enter Tryz.func91, Tryz.ntmps91
      go_upto_region 1 with fail
      rw [← HW.out]
      go_wp2_with fail
      go_ret
      exact ⟨ret_bool (by rw [HZ.out]), HWB.out⟩
    · have KG2 := Lib.hid (KG.out (fun h => h.elim hb hb2))
      clear KG KL
      have hp1 : (0 : Int) ≤ (s.length : Int) - 1 := by omega
      have hp2 : (s.length : Int) - 1 < (s.length : Int) := by omega
      have hp3 : ((s.length : Int) - 1).toNat = s.length - 1 := by omega
      have hx : (s.length < l.length ∧ more = true) ∨ ¬ s.length < l.length := by
        cases more
        · exact .inr (fun h => hb2 ⟨h, rfl⟩)
        · by_cases h : s.length < l.length
          · exact .inl ⟨h, rfl⟩
          · exact .inr h
      have go : ∀ (mo : Bool), (s.length < l.length ∧ mo = true) ∨ ¬ s.length < l.length → Calls Tryz.prog 91 #[.agg vs.toArray, .string ⟨s.toArray⟩, .bool mo] w (BoolOut w R) := by
        intro mo hmo
        rcases hmo with ⟨h1, rfl⟩ | h1
        all_goals
          go_enter Tryz.func91, Tryz.ntmps91
          go_upto_region 1 with fail
          rw [← HW.out]
          go_wp2_with fail
          go_loopw [7] (fun i wr => ∃ (j : Nat), j ≤ l.length ∧ i = .int .i64 j ∧ Hid (∀ i (hi : i < l.length), i < j → letters (at_ s i) (kind l[i]) = true) ∧ Below W.heap.size W wr) (fun i _ => l.length - (intOf i).toNat)
          case atStart => exact ⟨0, Nat.zero_le _, rfl, Lib.hid (fun i hi h => by omega), Below.refl _ _⟩
          case round =>
            obtain ⟨j, hj, rfl, HI, hbel⟩ := hrel
            have hbox : wr.cell? ⟨w.heap.size, 7, none⟩ = some (.slice A4 l.length c4) := (hbel.cell (p := ⟨w.heap.size, 7, none⟩) hWl).trans HQ.out
            by_cases hlt : j < l.length
            · obtain ⟨b, off, B1, B2, B3, B4, e1, e2, e3, e4, rfl, hb, HT, h8⟩ := tree_at HC.out HL.out (HKB.out wr hbel) hlt
              have g0 : wr.cell? ⟨b, off + j * 8, none⟩ = some (.int .i64 (kind l[j])) := h8.p0
              have K1 := Lib.hid (KID.out (kind l[j]) (at_ s j) wr (HAM.out j))
              have HS : Hid (letters (at_ s j) (kind l[j]) = true → ∀ i (hi : i < l.length), i < j + 1 → letters (at_ s i) (kind l[i]) = true) := Lib.hid (fun h i hi hij => by
                by_cases e : i = j
                · subst e; exact h
                · exact HI.out i hi (by omega))
              have HF := Lib.hid (KB.out j hlt)
              have hlast : ((⟨s.toArray⟩ : ByteArray)[s.length - 1]'(show s.length - 1 < (⟨s.toArray⟩ : ByteArray).size from (by omega : s.length - 1 < s.length))).toNat = (s[s.length - 1]'(by omega)).toNat := rfl
              clear h8 HT
              generalize letters (at_ s j) (kind l[j]) = r at *
              generalize kind l[j] = kj at *
              by_cases hjs : j < s.length
              · have hgy : ((⟨s.toArray⟩ : ByteArray)[j]'(show j < (⟨s.toArray⟩ : ByteArray).size from hjs)).toNat = (at_ s j).toNat := HA1.out j hjs
                generalize (s[s.length - 1]'(by omega)).toNat = z at *
                generalize (at_ s j).toNat = y2 at *
                cases r
                · have HZ := Lib.hid (HF.out rfl)
                  go_wp2_with fail
                  refine K1.out.mono ?_
                  rintro e w2 ⟨rfl, rfl⟩
                  go_wp2_with fail
                  go_ret
                  exact ⟨ret_bool (by rw [HZ.out]), HWB.out.trans (hbel.mono HWS.out)⟩
                · have HN := Lib.hid (HS.out rfl)
                  go_wp2_with fail
                  refine K1.out.mono ?_
                  rintro e w2 ⟨rfl, rfl⟩
                  go_wp2_with fail
                  go_roundw
                  case rel => exact ⟨j + 1, by omega, by go_num, HN, hbel⟩
                  case measure => simp [intOf]; omega
              · have hcon : s.length < l.length := by omega
                first
                  | exact absurd hcon h1
                  | (
                      have hgz : (s[s.length - 1]'(by omega)).toNat = (at_ s j).toNat := HA2.out j hjs
                      rw [hgz] at hlast
                      clear hgz
                      generalize (at_ s j).toNat = y2 at *
                      cases r
                      · have HZ := Lib.hid (HF.out rfl)
                        go_wp2_with fail
                        refine K1.out.mono ?_
                        rintro e w2 ⟨rfl, rfl⟩
                        go_wp2_with fail
                        go_ret
                        exact ⟨ret_bool (by rw [HZ.out]), HWB.out.trans (hbel.mono HWS.out)⟩
                      · have HN := Lib.hid (HS.out rfl)
                        go_wp2_with fail
                        refine K1.out.mono ?_
                        rintro e w2 ⟨rfl, rfl⟩
                        go_wp2_with fail
                        go_roundw
                        case rel => exact ⟨j + 1, by omega, by go_num, HN, hbel⟩
                        case measure => simp [intOf]; omega)
            · have HZ := Lib.hid (KG2.out (fun i hi => HI.out i hi (by omega)))
              go_wp2_with fail
              go_ret
              exact ⟨ret_bool (by rw [HZ.out]), HWB.out.trans (hbel.mono HWS.out)⟩
      exact go more hx
end Go.Proofs.YtceplkpjnebnfaaGreatDoor

/-
  token.name: the token of a name.
-/
namespace Go.Proofs.YtceplkpjnebnfaaGreatDoor
open Go.RowKit
set_option maxHeartbeats 4000000
set_option maxRecDepth 100000
set_option linter.unusedVariables false

end Go.Proofs.YtceplkpjnebnfaaGreatDoor
