/-
  Texts of this proof, joined (by wip/bin/bundle.py): RTok6, RTok7, RTok8, RTok9, RTok4.
-/
import Derived.Test.YtfiefglagknclaaGreatDoorM11
import Derived.Deep.CutRange
/-
  scrimref20.number: the number that begins at a place. (Printed by wip/bin/exp.py of wip/tpl/rtok6.main.)
-/
namespace Go.Proofs.YtfiefglagknclaaGreatDoor
open Go.RowKit
set_option maxHeartbeats 4000000
set_option maxRecDepth 100000
set_option linter.unusedVariables false

theorem rtok_infoR (x0 x1 x2 x3 x4 x5 x6 x7 : Value) : (Tryz.prog.info? 70).map (·.size) = some (#[x0, x1, x2, x3, x4, x5, x6, x7] : Array Value).size := rtok_info
theorem rtok_one (k c a : Int) (neg : Bool) (a1 a2 a3 : Option Addr) (m1 c1 m2 c2 m3 c3 : Nat) (s : ByteArray) : (#[.int .i64 k, .bool neg, .slice a1 m1 c1, .slice a2 m2 c2, .slice a3 m3 c3, .string s, .int .i64 c, .int .i64 a] : Array Value).all (·.oneCell') = true := tok_one _ _ _ _ _ _ _ _ _ _ _ _ _ _
/-- What the document reads: with no error the token and how many characters it has. -/
def RTokOut (w : World) (r : Tk.Tok × Nat × Int) (e : Ending) (w' : World) : Prop :=
  ∃ (t : Tk.Tok) (n : Nat) (n1 n2 lv : Value), e = .returned (.tuple #[.agg (tokCells t.kind t.n.neg n1 n2 lv t.s t.c t.at_).toArray, .int .i64 (n : Int), .int .i64 r.2.2]) ∧ IsRes w' n1 t.n.top ∧ IsRes w' n2 t.n.bot ∧ w'.ownsRow 0 3 1 lv t.l.length (I64 t.l) ∧ Below w.heap.size w w' ∧ (r.2.2 = 0 → t = r.1 ∧ n = r.2.1)
theorem numLen_rel {l : List Int} {i nn k f E : Nat} (hn : nn = if l.getD i (-1) = 175 then 1 else 0) (hk : k = Tk.figures l (i + nn)) (hf : f = Tk.figures l (i + (nn + k) + 1))
    (hE : E = if (l.getD (i + (nn + k)) (-1) = 114 ∨ l.getD (i + (nn + k)) (-1) = 46) ∧ 0 < f then nn + k + 1 + f else nn + k) :
    Tk.numLen l i = if k = 0 then none else if Tk.word (l.getD (i + E) (-1)) = true ∨ l.getD (i + E) (-1) = 175 then none else some E := by
  unfold Tk.numLen
  simp only
  rw [← hn, ← hk, ← hf, ← hE]
theorem refNumber_any (A : Option Addr) (c : Nat) (l : List Int) (i : Nat) (w : World) (hl : Lies w w.heap.size A (I64 l)) (hn : l.length ≤ 25000) (hcap : l.length ≤ c) (hm : ∀ x ∈ l, Gl.may x = true) (hi : i < l.length) (hc : Tk.cls (l.getD i (-1)) = 3) :
    Calls Tryz.prog 71 #[.slice A l.length c, .int .i64 (i : Int)] w (RTokOut w (Tk.read l i)) := by
  have HR : Hid (∀ r e w', Tk.read l i = r → RTokOut w r e w' → RTokOut w (Tk.read l i) e w') := Lib.hid (fun r e w' h h2 => by subst h; exact h2)
  obtain ⟨W, hW⟩ : ∃ W, W = w.alloc (.cells #[.int .i64 0, .bool false, .slice none 0 0, .slice none 0 0, .slice none 0 0, .string ⟨#[]⟩, .int .i64 0, .int .i64 0] 70) := ⟨_, rfl⟩
  have hb0 : Below w.heap.size w W := by rw [hW]; exact (Below.refl _ _).alloc (Nat.le_refl _) _
  have HGA : Hid (W.heap[w.heap.size]? = some (.cells #[.int .i64 0, .bool false, .slice none 0 0, .slice none 0 0, .slice none 0 0, .string ⟨#[]⟩, .int .i64 0, .int .i64 0] 70 (0, 0))) := Lib.hid (by rw [hW]; exact heap_alloc_new w _)
  have HWS : Hid (W.heap.size = w.heap.size + 1) := Lib.hid (by rw [hW]; simp)
  have hlW : Lies W W.heap.size A (I64 l) := (hl.below hb0).more hb0.size
  have AT := Lib.hid (fun (wx : World) (h : Below W.heap.size W wx) (m : Nat) (hm : m ≤ 1000000) => refAt_any A c l m wx ((hlW.below h).more h.size) (by omega) hm)
  have FG := Lib.hid (fun (m : Nat) (hm : m ≤ 500000) => refFigures_any A c l m W hlW (by omega) hm)
  have WD := Lib.hid (fun (x : Int) (wx : World) => refWord_any x wx)
  obtain ⟨nn, hnn⟩ : ∃ nn : Nat, nn = if l.getD i (-1) = 175 then 1 else 0 := ⟨_, rfl⟩
  obtain ⟨k, hk⟩ : ∃ k, k = Tk.figures l (i + nn) := ⟨_, rfl⟩
  obtain ⟨f, hf⟩ : ∃ f, f = Tk.figures l (i + (nn + k) + 1) := ⟨_, rfl⟩
  obtain ⟨y, hy⟩ : ∃ y, y = l.getD (i + (nn + k)) (-1) := ⟨_, rfl⟩
  obtain ⟨E, hE⟩ : ∃ E, E = if (y = 114 ∨ y = 46) ∧ 0 < f then nn + k + 1 + f else nn + k := ⟨_, rfl⟩
  have HNL := Lib.hid (numLen_rel (E := E) hnn hk hf (by rw [← hy]; exact hE))
  have hkl := Tk.figures_le l (i + nn)
  have hfl := Tk.figures_le l (i + (nn + k) + 1)
  rw [← hk] at hkl
  rw [← hf] at hfl
  have hnn1 : nn ≤ 1 := by rw [hnn]; split <;> omega
  have FG1 := Lib.hid (FG.out (i + nn) (by omega))
  rw [← hk] at FG1
  have FG2 := Lib.hid (FG.out (i + (nn + k) + 1) (by omega))
  rw [← hf] at FG2
  have AT1 := Lib.hid (AT.out W (Below.refl _ _) (i + (nn + k)) (by omega))
  rw [← hy] at AT1
  have hnk : i + (nn + k) ≤ l.length + 1 := by omega
  have HNK : Hid (1 ≤ k → i + (nn + k) ≤ l.length) := Lib.hid (by omega)
  have HFL : Hid (1 ≤ f → i + (nn + k) + 1 + f ≤ l.length) := Lib.hid (by omega)
  have hf4 : f ≤ 25000 := by omega
  have hk4 : k ≤ 25000 := by omega
  have HNN := Lib.hid hnn
  have HE := Lib.hid hE
  have HL := Lib.hid hlW
  have HM := Lib.hid hm
  have HC := Lib.hid hc
  have HW : Hid (W = w.alloc (.cells #[.int .i64 0, .bool false, .slice none 0 0, .slice none 0 0, .slice none 0 0, .string ⟨#[]⟩, .int .i64 0, .int .i64 0] 70)) := Lib.hid hW
  obtain ⟨b, off, rfl, hb, g0⟩ := lies_i64 hlW hi
  obtain ⟨x, hx⟩ : ∃ x, x = l.getD i (-1) := ⟨_, rfl⟩
  rw [← Tk.getD_in hi, ← hx] at g0
  rw [← hx] at HNN
  clear hl hlW hm hc hW hnn hk hf hy hE hx hkl hfl FG
  go_enter Tryz.func71, Tryz.ntmps71
  go_upto_region 1 with fail
  rw [← HW.out]
  go_upto_if 17 with fail
  go_cut [7] from 13 (fun x7 wx => x7 = .int .i64 (nn : Int) ∧ wx = W)
  case first =>
    by_cases h175 : x = 175
    · have q0 : (x == 175) = true := by rw [h175]; rfl
      have hn1 : nn = 1 := by rw [HNN.out, if_pos h175]
      clear h175
      go_wp2_with fail
      go_meet
      exact ⟨by rw [hn1]; rfl, rfl⟩
    · have q0 : (x == 175) = false := beq_eq_false_iff_ne.2 h175
      have hn1 : nn = 0 := by rw [HNN.out, if_neg h175]
      clear h175
      go_wp2_with fail
      go_meet
      exact ⟨by rw [hn1]; rfl, rfl⟩
  case rest =>
    obtain ⟨rfl, hwx⟩ := hcut
    rw [hwx]
    clear hwx g0
    by_cases hk0 : k = 0
    · have HRE : Hid (Tk.read l i = (Tk.none_, 0, 1)) := Lib.hid (read_num_none HC.out (by rw [HNL.out, if_pos hk0]))
      subst hk0
      go_wp2_with fail
      refine FG1.out.mono ?_
      rintro e w' ⟨rfl, rfl⟩
      go_wp2_with (with_reducible refine wpList_store_row rfl 70 (.tmp 4) (.tmp 25) rfl w.heap.size #[.int .i64 0, .bool false, .slice none 0 0, .slice none 0 0, .slice none 0 0, .string ⟨#[]⟩, .int .i64 0, .int .i64 0] rfl rfl 70 #[.int .i64 0, .bool false, .slice none 0 0, .slice none 0 0, .slice none 0 0, .string ⟨#[]⟩, .int .i64 0, .int .i64 0] HGA.out (rtok_infoR _ _ _ _ _ _ _ _) rfl (rtok_one _ _ _ _ _ _ _ _ _ _ _ _ _ _) ?_)
      refine bodyPost_ret (results_cell_row_tmp2 (by rfl) _ _ w.heap.size 70 #[.int .i64 0, .bool false, .slice none 0 0, .slice none 0 0, .slice none 0 0, .string ⟨#[]⟩, .int .i64 0, .int .i64 0] (0, 0) _ _ _ (by rfl) (by rfl) (by rfl) (rheap_same HGA.out) Tryz.underlying70 rfl (rtok_infoR _ _ _ _ _ _ _ _)) rfl ?_
      refine HR.out _ _ _ HRE.out ?_
      exact ⟨Tk.none_, 0, _, _, _, rfl, isRes_nil _, isRes_nil _, World.ownsRow_nil _ _ _ _, rBelow.setRow hb0 (Nat.le_refl _) _, fun h => by cases h⟩
    · rw [if_neg hk0] at HNL
      have hkn : ((k : Int) == 0) = false := beq_eq_false_iff_ne.2 (by omega)
      have hik := HNK.out (by omega)
      clear hnk
      go_wp2_with fail
      refine FG1.out.mono ?_
      rintro e w' ⟨rfl, rfl⟩
      go_upto_region 8 with fail
      obtain ⟨bb, hbb⟩ : ∃ bb : Bool, bb = true ↔ (y = 114 ∨ y = 46) := ⟨decide (y = 114 ∨ y = 46), by simp⟩
      have HBB := Lib.hid hbb
      clear hbb
      go_cut [42] from 29 (fun x42 wx => x42 = .bool bb ∧ wx = W)
      case first =>
        by_cases y1 : y = 114
        · have q1 : (y == 114) = true := by rw [y1]; rfl
          have hd : bb = true := HBB.out.2 (.inl y1)
          clear y1
          go_wp2_with fail
          refine AT1.out.mono ?_
          rintro e w' ⟨rfl, rfl⟩
          go_wp2_with fail
          go_meet
          exact ⟨by rw [hd], rfl⟩
        · have q1 : (y == 114) = false := beq_eq_false_iff_ne.2 y1
          by_cases y2 : y = 46
          · have q2 : (y == 46) = true := by rw [y2]; rfl
            have hd : bb = true := HBB.out.2 (.inr y2)
            clear y1 y2
            go_wp2_with fail
            refine AT1.out.mono ?_
            rintro e w' ⟨rfl, rfl⟩
            go_wp2_with fail
            refine AT1.out.mono ?_
            rintro e w' ⟨rfl, rfl⟩
            go_wp2_with fail
            go_meet
            exact ⟨by rw [hd], rfl⟩
          · have q2 : (y == 46) = false := beq_eq_false_iff_ne.2 y2
            have hd : bb = false := by rw [Bool.eq_false_iff]; intro h; exact (HBB.out.1 h).elim y1 y2
            clear y1 y2
            go_wp2_with fail
            refine AT1.out.mono ?_
            rintro e w' ⟨rfl, rfl⟩
            go_wp2_with fail
            refine AT1.out.mono ?_
            rintro e w' ⟨rfl, rfl⟩
            go_wp2_with fail
            go_meet
            exact ⟨by rw [hd], rfl⟩
      case rest =>
        obtain ⟨rfl, hwx⟩ := hcut
        rw [hwx]
        clear hwx
        have HEL : Hid (E ≤ 50002 ∧ i + E ≤ l.length) := Lib.hid (by
          have h1 := HE.out
          have h2 := HFL.out
          split at h1 <;> omega)
        go_upto_if 42 with fail
        go_cut [7, 8] from 43 (fun x7 x8 wx => x7 = .int .i64 (E : Int) ∧ wx = W)
        case first =>
          cases bb
          · have hE : nn + k = E := by rw [HE.out, if_neg (fun h => by cases HBB.out.2 h.1)]
            go_wp2_with fail
            go_meet
            exact ⟨by rw [← hE]; go_num, rfl⟩
          · have hy := HBB.out.1 rfl
            by_cases hf0 : 0 < f
            · have hE : Hid (nn + k + 1 + f = E) := Lib.hid (by rw [HE.out, if_pos ⟨hy, hf0⟩])
              clear hy
              go_wp2_with fail
              refine FG2.out.mono ?_
              rintro e w' ⟨rfl, rfl⟩
              go_wp2_with fail
              go_meet
              exact ⟨by rw [← hE.out]; go_num, rfl⟩
            · have hE : Hid (nn + k = E) := Lib.hid (by rw [HE.out, if_neg (fun h => hf0 h.2)])
              obtain rfl : f = 0 := by omega
              clear hy
              go_wp2_with fail
              refine FG2.out.mono ?_
              rintro e w' ⟨rfl, rfl⟩
              go_wp2_with fail
              go_meet
              exact ⟨by rw [← hE.out]; go_num, rfl⟩
        case rest =>
          obtain ⟨rfl, hwx⟩ := hcut
          rw [hwx]
          clear hwx HE AT1 FG1 FG2 HNK HFL HBB hf4 hik hnn1 HNN hkn
          obtain ⟨hE5, hiE⟩ := HEL.out
          obtain ⟨z, hz⟩ : ∃ z, z = l.getD (i + E) (-1) := ⟨_, rfl⟩
          have AT2 := Lib.hid (fun wx h => AT.out wx h (i + E) (by omega))
          rw [← hz] at AT2 HNL
          have WD2 := Lib.hid (fun wx => WD.out z wx)
          obtain ⟨wz, hwz⟩ : ∃ wz, wz = Tk.word z := ⟨_, rfl⟩
          rw [← hwz] at WD2 HNL
          clear hz hwz AT WD
          obtain ⟨b6, hb6⟩ : ∃ b6 : Bool, b6 = true ↔ (wz = true ∨ z = 175) := ⟨decide (wz = true ∨ z = 175), by simp⟩
          have HB6 := Lib.hid hb6
          clear hb6
          go_upto_region 12 with fail
          go_cut [68] from 55 (fun x68 wx => x68 = .bool b6 ∧ Hid (Below W.heap.size W wx))
          case first =>
            have A2 := Lib.hid (AT2.out W (Below.refl _ _))
            cases wz
            · by_cases z1 : z = 175
              · have q1 : (z == 175) = true := by rw [z1]; rfl
                have hd : b6 = true := HB6.out.2 (.inr z1)
                clear z1
                go_wp2_with fail
                refine A2.out.mono ?_
                rintro e w' ⟨rfl, rfl⟩
                go_wp2_with fail
                refine (WD2.out _).mono ?_
                rintro e w' ⟨rfl, hb⟩
                have A3 := Lib.hid (AT2.out w' hb)
                have HBW := Lib.hid hb
                clear hb
                go_wp2_with fail
                refine A3.out.mono ?_
                rintro e w' ⟨rfl, rfl⟩
                go_wp2_with fail
                go_meet
                exact ⟨by rw [hd], HBW⟩
              · have q1 : (z == 175) = false := beq_eq_false_iff_ne.2 z1
                have hd : b6 = false := by rw [Bool.eq_false_iff]; intro h; exact (HB6.out.1 h).elim (fun h => by cases h) z1
                clear z1
                go_wp2_with fail
                refine A2.out.mono ?_
                rintro e w' ⟨rfl, rfl⟩
                go_wp2_with fail
                refine (WD2.out _).mono ?_
                rintro e w' ⟨rfl, hb⟩
                have A3 := Lib.hid (AT2.out w' hb)
                have HBW := Lib.hid hb
                clear hb
                go_wp2_with fail
                refine A3.out.mono ?_
                rintro e w' ⟨rfl, rfl⟩
                go_wp2_with fail
                go_meet
                exact ⟨by rw [hd], HBW⟩
            · have hd : b6 = true := HB6.out.2 (.inl rfl)
              go_wp2_with fail
              refine A2.out.mono ?_
              rintro e w' ⟨rfl, rfl⟩
              go_wp2_with fail
              refine (WD2.out _).mono ?_
              rintro e w' ⟨rfl, hb⟩
              have HBW := Lib.hid hb
              clear hb
              go_wp2_with fail
              go_meet
              exact ⟨by rw [hd], HBW⟩
          case rest =>
            obtain ⟨rfl, HBC⟩ := hcut
            have HGC : Hid (wc.heap[w.heap.size]? = some (.cells #[.int .i64 0, .bool false, .slice none 0 0, .slice none 0 0, .slice none 0 0, .string ⟨#[]⟩, .int .i64 0, .int .i64 0] 70 (0, 0))) := Lib.hid ((HBC.out.block w.heap.size (by rw [HWS.out]; omega)).trans HGA.out)
            have HB0C : Hid (Below w.heap.size w wc) := Lib.hid (hb0.trans (HBC.out.mono hb0.size))
            clear AT2 WD2
            cases b6
            · rw [if_neg (fun h => by cases HB6.out.2 h)] at HNL
              have HER := Lib.hid (read_num_err HC.out HNL.out)
              have HOK := Lib.hid (read_num_ok HC.out HNL.out)
              have HL2 : Hid (Lies W W.heap.size (some ⟨b, off + i, none⟩) (I64 ((l.drop i).take E))) := Lib.hid (lies_cut HL.out i E hiE _ (fun b' off' e => by injection e with e; injection e with e1 e2; subst e1 e2; rfl))
              have EN := Lib.hid (fun (c' : Nat) => refEncode_any (some ⟨b, off + i, none⟩) c' ((l.drop i).take E) wc ((HL2.out.below HBC.out).more HBC.out.size) (by simp; omega) (fun y hy => HM.out y (List.mem_of_mem_drop (List.mem_of_mem_take hy))))
              have hlen : ((l.drop i).take E).length = E := by simp; omega
              have hsl := tk_enc_len ((l.drop i).take E)
              rw [hlen] at EN hsl
              have PA := Lib.hid (fun wx => refParse5_any (Tk.enc ((l.drop i).take E)) wx (by omega))
              clear hsl hlen HL2 HB6 HNL HM
              generalize Dg.parse (Tk.enc ((l.drop i).take E)) = R at *
              generalize Tk.enc ((l.drop i).take E) = S at *
              go_wp2_with fail
              refine (EN.out _).mono ?_
              rintro e' w3 ⟨rfl, hb3⟩
              go_wp2_with fail
              refine (PA.out w3).mono ?_
              rintro e' w4 ⟨t, u, rfl, h1, h2, hb4⟩
              obtain ⟨⟨rn, rt, rb⟩, re⟩ := R
              simp only at h1 h2 HER HOK ⊢
              have h1' := Lib.hid h1
              have h2' := Lib.hid h2
              obtain ⟨A1, c1, rfl, p1, p2, p3, p4⟩ := h1
              obtain ⟨A2, c2, rfl, p5, p6, p7, p8⟩ := h2
              clear p1 p2 p3 p4 p5 p6 p7 p8
              have hb5 : Below W.heap.size W w4 := (HBC.out.trans (hb3.mono HBC.out.size)).trans (hb4.mono (Nat.le_trans HBC.out.size hb3.size))
              have HGN : Hid ((w4.alloc (.cells #[.bool false, .slice none 0 0, .slice none 0 0] 26)).heap[w4.heap.size]? = some (.cells #[.bool false, .slice none 0 0, .slice none 0 0] 26 (0, 0))) := Lib.hid (heap_alloc_new w4 _)
              have HGN6 : Hid (((w4.alloc (.cells #[.bool false, .slice none 0 0, .slice none 0 0] 26)).setRow w4.heap.size #[.bool rn, .slice A1 rt.length c1, .slice A2 rb.length c2]).heap[w4.heap.size]? = some (.cells #[.bool rn, .slice A1 rt.length c1, .slice A2 rb.length c2] 26 (0, 0))) := Lib.hid (rheap_same HGN.out)
              have hb6 : Below W.heap.size W ((w4.alloc (.cells #[.bool false, .slice none 0 0, .slice none 0 0] 26)).setRow w4.heap.size #[.bool rn, .slice A1 rt.length c1, .slice A2 rb.length c2]) := rBelow.setRow (hb5.alloc hb5.size _) hb5.size _
              have HG6 : Hid (((w4.alloc (.cells #[.bool false, .slice none 0 0, .slice none 0 0] 26)).setRow w4.heap.size #[.bool rn, .slice A1 rt.length c1, .slice A2 rb.length c2]).heap[w.heap.size]? = some (.cells #[.int .i64 0, .bool false, .slice none 0 0, .slice none 0 0, .slice none 0 0, .string ⟨#[]⟩, .int .i64 0, .int .i64 0] 70 (0, 0))) := Lib.hid ((hb6.block w.heap.size (by rw [HWS.out]; omega)).trans HGA.out)
              have R1 : Hid (IsRes (((w4.alloc (.cells #[.bool false, .slice none 0 0, .slice none 0 0] 26)).setRow w4.heap.size #[.bool rn, .slice A1 rt.length c1, .slice A2 rb.length c2])) (.slice A1 rt.length c1) rt) := Lib.hid ((h1'.out.below ((Below.refl _ _).alloc (Nat.le_refl _) _)).setRowU HGN.out num_noU _)
              have R2 : Hid (IsRes (((w4.alloc (.cells #[.bool false, .slice none 0 0, .slice none 0 0] 26)).setRow w4.heap.size #[.bool rn, .slice A1 rt.length c1, .slice A2 rb.length c2])) (.slice A2 rb.length c2) rb) := Lib.hid ((h2'.out.below ((Below.refl _ _).alloc (Nat.le_refl _) _)).setRowU HGN.out num_noU _)
              have HB6' := Lib.hid hb6
              clear hb3 hb4 hb5 hb6 h1' h2' PA EN
              have HRE2 : Hid ((Tk.read l i).2.2 = re) := Lib.hid (by
                by_cases hre : re = 0
                · rw [HOK.out hre, hre]
                · rw [HER.out hre])
              have HRE3 : Hid ((Tk.read l i).2.2 = 0 → (⟨0, ⟨rn, rt, rb⟩, [], [], 0, i⟩ : Tk.Tok) = (Tk.read l i).1 ∧ E = (Tk.read l i).2.1) := Lib.hid (by
                intro h
                rw [HRE2.out] at h
                rw [HOK.out h]
                exact ⟨rfl, rfl⟩)
              go_wp2_with (first | (with_reducible refine wpList_store_row rfl 26 (.tmp 11) (.tmp 83) rfl w4.heap.size #[.bool rn, .slice A1 rt.length c1, .slice A2 rb.length c2] rfl rfl 26 #[.bool false, .slice none 0 0, .slice none 0 0] HGN.out (num_infoR _ _ _) rfl (three_one _ _ _ _ _ _ _) ?_) | (with_reducible refine wpList_load_row rfl 26 (.tmp 11) rfl w4.heap.size rfl 26 #[.bool rn, .slice A1 rt.length c1, .slice A2 rb.length c2] (0, 0) _ HGN6.out Tryz.underlying26 rfl (num_infoR _ _ _) ?_) | (with_reducible refine wpList_store_row rfl 70 (.tmp 4) (.tmp 87) rfl w.heap.size #[.int .i64 0, .bool rn, .slice A1 rt.length c1, .slice A2 rb.length c2, .slice none 0 0, .string ⟨#[]⟩, .int .i64 0, .int .i64 (i : Int)] rfl rfl 70 #[.int .i64 0, .bool false, .slice none 0 0, .slice none 0 0, .slice none 0 0, .string ⟨#[]⟩, .int .i64 0, .int .i64 0] HG6.out (rtok_infoR _ _ _ _ _ _ _ _) rfl (rtok_one _ _ _ _ _ _ _ _ _ _ _ _ _ _) ?_))
              refine bodyPost_ret (results_cell_row_tmp2 (by rfl) _ _ w.heap.size 70 #[.int .i64 0, .bool rn, .slice A1 rt.length c1, .slice A2 rb.length c2, .slice none 0 0, .string ⟨#[]⟩, .int .i64 0, .int .i64 (i : Int)] (0, 0) _ _ _ (by rfl) (by rfl) (by rfl) (rheap_same HG6.out) Tryz.underlying70 rfl (rtok_infoR _ _ _ _ _ _ _ _)) rfl ?_
              refine ⟨⟨0, ⟨rn, rt, rb⟩, [], [], 0, i⟩, E, _, _, _, ?_, R1.out.setRowU HG6.out tok_noU _, R2.out.setRowU HG6.out tok_noU _, World.ownsRow_nil _ _ _ _, rBelow.setRow (hb0.trans (HB6'.out.mono (by rw [HWS.out]; omega))) (Nat.le_refl _) _, HRE3.out⟩
              rw [HRE2.out]
              rfl
            · rw [if_pos (HB6.out.1 rfl)] at HNL
              have HRE : Hid (Tk.read l i = (Tk.none_, 0, 1)) := Lib.hid (read_num_none HC.out HNL.out)
              go_wp2_with (with_reducible refine wpList_store_row rfl 70 (.tmp 4) (.tmp 69) rfl w.heap.size #[.int .i64 0, .bool false, .slice none 0 0, .slice none 0 0, .slice none 0 0, .string ⟨#[]⟩, .int .i64 0, .int .i64 0] rfl rfl 70 #[.int .i64 0, .bool false, .slice none 0 0, .slice none 0 0, .slice none 0 0, .string ⟨#[]⟩, .int .i64 0, .int .i64 0] HGC.out (rtok_infoR _ _ _ _ _ _ _ _) rfl (rtok_one _ _ _ _ _ _ _ _ _ _ _ _ _ _) ?_)
              refine bodyPost_ret (results_cell_row_tmp2 (by rfl) _ _ w.heap.size 70 #[.int .i64 0, .bool false, .slice none 0 0, .slice none 0 0, .slice none 0 0, .string ⟨#[]⟩, .int .i64 0, .int .i64 0] (0, 0) _ _ _ (by rfl) (by rfl) (by rfl) (rheap_same HGC.out) Tryz.underlying70 rfl (rtok_infoR _ _ _ _ _ _ _ _)) rfl ?_
              refine HR.out _ _ _ HRE.out ?_
              exact ⟨Tk.none_, 0, _, _, _, rfl, isRes_nil _, isRes_nil _, World.ownsRow_nil _ _ _ _, rBelow.setRow HB0C.out (Nat.le_refl _) _, fun h => by cases h⟩
end Go.Proofs.YtfiefglagknclaaGreatDoor

/-
  scrimref20.port: what begins with a quad. (Printed by wip/bin/exp.py of wip/tpl/rtok7.main.)
-/
namespace Go.Proofs.YtfiefglagknclaaGreatDoor
open Go.RowKit
set_option maxHeartbeats 4000000
set_option maxRecDepth 100000
set_option linter.unusedVariables false

theorem refPort_any (A : Option Addr) (c : Nat) (l : List Int) (i : Nat) (w : World) (hl : Lies w w.heap.size A (I64 l)) (hn : l.length ≤ 25000) (hcap : l.length ≤ c) (hm : ∀ x ∈ l, Gl.may x = true) (hi : i < l.length) (hc : l.getD i (-1) = 9109 ∨ l.getD i (-1) = 9054) :
    Calls Tryz.prog 75 #[.slice A l.length c, .int .i64 (i : Int)] w (RTokOut w (Tk.read l i)) := by
  have HR : Hid (∀ r e w', Tk.read l i = r → RTokOut w r e w' → RTokOut w (Tk.read l i) e w') := Lib.hid (fun r e w' h h2 => by subst h; exact h2)
  obtain ⟨cc, rfl⟩ : ∃ cc : Nat → Nat, c = cc 0 := ⟨fun _ => c, rfl⟩
  have HPD := Tk.port_doc hc
  obtain ⟨W, hW⟩ : ∃ W, W = w.alloc (.cells #[.int .i64 0, .bool false, .slice none 0 0, .slice none 0 0, .slice none 0 0, .string ⟨#[]⟩, .int .i64 0, .int .i64 0] 70) := ⟨_, rfl⟩
  have hb0 : Below w.heap.size w W := by rw [hW]; exact (Below.refl _ _).alloc (Nat.le_refl _) _
  have HGA : Hid (W.heap[w.heap.size]? = some (.cells #[.int .i64 0, .bool false, .slice none 0 0, .slice none 0 0, .slice none 0 0, .string ⟨#[]⟩, .int .i64 0, .int .i64 0] 70 (0, 0))) := Lib.hid (by rw [hW]; exact heap_alloc_new w _)
  have HWS : Hid (W.heap.size = w.heap.size + 1) := Lib.hid (by rw [hW]; simp)
  have hlW : Lies W W.heap.size A (I64 l) := (hl.below hb0).more hb0.size
  have hwl := Tk.words_le l (i + 1)
  have WO := Lib.hid (refWords_any A (cc 0) l (i + 1) W hlW (by omega) (by omega))
  have HE1 : Hid (Tk.words l (i + 1) = 1 → Tk.enc ((l.drop (i + 1)).take (Tk.words l (i + 1))) = [UInt8.ofNat (l.getD (i + 1) (-1)).toNat]) := Lib.hid Tk.enc_one
  have HDR : Hid (Tk.words l (i + 1) = 1 → 48 ≤ l.getD (i + 1) (-1) ∧ l.getD (i + 1) (-1) ≤ 122) := Lib.hid (fun h => by
    have hh := Tk.words_all l (i + 1)
    have hg := Tk.take_getD (l := l) (i := i + 1) (n := Tk.words l (i + 1)) (j := 0) (by omega)
    have hlen := Tk.take_len l (i + 1)
    obtain ⟨m, hm⟩ : ∃ m, m = (l.drop (i + 1)).take (Tk.words l (i + 1)) := ⟨_, rfl⟩
    rw [← hm] at hh hg hlen
    match m, hlen with
    | [], hlen => rw [h] at hlen; cases hlen
    | x :: r, _ =>
      have hg : x = l.getD (i + 1) (-1) := hg
      rw [← hg]
      exact Tk.word_range (hh x (List.mem_cons_self ..)))
  obtain ⟨n, hnw⟩ : ∃ n, n = Tk.words l (i + 1) := ⟨_, rfl⟩
  rw [← hnw] at WO HPD hwl HE1 HDR
  have ENL : ∀ (A' : Option Addr), (n = 0 ∨ ∀ b off, A = some ⟨b, off, none⟩ → A' = some ⟨b, off + (i + 1), none⟩) → Lies W W.heap.size A' (I64 ((l.drop (i + 1)).take n)) := by
    rintro A' (rfl | h)
    · exact .inl rfl
    · exact lies_cut hlW (i + 1) n (by omega) A' h
  have EN := Lib.hid (fun (A' : Option Addr) (h : n = 0 ∨ ∀ b off, A = some ⟨b, off, none⟩ → A' = some ⟨b, off + (i + 1), none⟩) (c' : Nat) (wx : World) (hx : Below W.heap.size W wx) => refEncode_any A' c' ((l.drop (i + 1)).take n) wx (((ENL A' h).below hx).more hx.size) (by simp; omega) (fun y hy => hm y (List.mem_of_mem_drop (List.mem_of_mem_take hy))))
  have hlen : ((l.drop (i + 1)).take n).length = n := by simp; omega
  rw [hlen] at EN
  obtain ⟨S, hS⟩ : ∃ S, S = Tk.enc ((l.drop (i + 1)).take n) := ⟨_, rfl⟩
  rw [← hS] at EN HPD HE1
  obtain ⟨d, hd⟩ : ∃ d, d = l.getD (i + 1) (-1) := ⟨_, rfl⟩
  rw [← hd] at HPD HE1 HDR
  obtain ⟨b, off, rfl, hb, g0⟩ := lies_i64 hlW hi
  obtain ⟨x, hx⟩ : ∃ x, x = l.getD i (-1) := ⟨_, rfl⟩
  rw [← Tk.getD_in hi, ← hx] at g0
  rw [← hx] at HPD hc
  replace HPD := Lib.hid HPD
  have HC := Lib.hid hc
  have G0 : Hid (∀ wx, Below W.heap.size W wx → wx.cell? ⟨b, off + i, none⟩ = some (.int .i64 x)) := Lib.hid (fun wx h => (h.cell hb).trans g0)
  have hin : i + 1 + n ≤ l.length := by omega
  have HW : Hid (W = w.alloc (.cells #[.int .i64 0, .bool false, .slice none 0 0, .slice none 0 0, .slice none 0 0, .string ⟨#[]⟩, .int .i64 0, .int .i64 0] 70)) := Lib.hid hW
  clear hl hlW hm hW hnw hwl hlen hS hd hx g0 hb hc ENL
  go_enter Tryz.func75, Tryz.ntmps75
  go_upto_region 1 with fail
  rw [← HW.out]
  go_wp2_with fail
  refine WO.out.mono ?_
  rintro e w1 ⟨rfl, hb1⟩
  have HB1 := Lib.hid hb1
  clear hb1
  go_upto_region 2 with fail
  go_cut [8, 9] from 15 (fun x8 x9 wx => x8 = .string ⟨S.toArray⟩ ∧ Hid (Below W.heap.size W wx))
  case first =>
    go_wp2_with fail
    · refine (EN.out _ (.inl (by omega)) _ w1 HB1.out).mono ?_
      rintro e w2 ⟨rfl, hb2⟩
      have HB2 : Hid (Below W.heap.size W w2) := Lib.hid (HB1.out.trans (hb2.mono HB1.out.size))
      clear hb2
      go_wp2_with fail
      rw [show i + 1 = cc 0 by omega]
      go_meet
      exact ⟨rfl, HB2⟩
    · refine (EN.out _ (.inr (fun b' off' e => by injection e with e; injection e with e1 e2; subst e1 e2; rfl)) _ w1 HB1.out).mono ?_
      rintro e w2 ⟨rfl, hb2⟩
      have HB2 : Hid (Below W.heap.size W w2) := Lib.hid (HB1.out.trans (hb2.mono HB1.out.size))
      clear hb2
      go_wp2_with fail
      go_meet
      exact ⟨rfl, HB2⟩
  case rest =>
    obtain ⟨rfl, HB2⟩ := hcut
    rename World => w2
    have HG2 : Hid (w2.heap[w.heap.size]? = some (.cells #[.int .i64 0, .bool false, .slice none 0 0, .slice none 0 0, .slice none 0 0, .string ⟨#[]⟩, .int .i64 0, .int .i64 0] 70 (0, 0))) := Lib.hid ((HB2.out.block w.heap.size (by rw [HWS.out]; omega)).trans HGA.out)
    have HB02 : Hid (Below w.heap.size w w2) := Lib.hid (hb0.trans (HB2.out.mono hb0.size))
    clear WO EN HB1
    go_upto_region 3 with fail
    obtain ⟨B1, hB1⟩ : ∃ B1 : Bool, B1 = true ↔ (n = 1 ∧ 48 ≤ d ∧ d ≤ 55) := ⟨decide (n = 1 ∧ 48 ≤ d ∧ d ≤ 55), by simp⟩
    have HB1 := Lib.hid hB1
    clear hB1
    go_cut [38] from 27 (fun x38 wx => wx = w2 ∧ x38 = .bool B1)
    case first =>
      by_cases n1 : n = 1
      · have hS := HE1.out n1
        obtain ⟨hd1, hd2⟩ := HDR.out n1
        have hn1 : ((n : Int) == 1) = true := by rw [n1]; rfl
        obtain ⟨m, rfl⟩ : ∃ m : Nat, d = (m : Int) := ⟨d.toNat, by omega⟩
        have hn2 : n = 1 := n1
        rw [Int.toNat_natCast] at hS
        subst hS
        have e0 : ((⟨#[UInt8.ofNat m]⟩ : ByteArray)[0]'(by show 0 < 1; omega)).toNat = m := by
          show (UInt8.ofNat m).toNat = m
          simp
          omega
        clear n1
        have HN2 := Lib.hid hn2
        clear hn2
        by_cases h5 : m ≤ 55
        · have hd : B1 = true := HB1.out.2 ⟨HN2.out, by omega, by omega⟩
          go_wp2_with fail
          go_meet
          exact ⟨rfl, by rw [hd, decide_eq_true (by omega)]⟩
        · have hd : B1 = false := by rw [Bool.eq_false_iff]; intro h; have := (HB1.out.1 h).2.2; omega
          go_wp2_with fail
          go_meet
          exact ⟨rfl, by rw [hd, decide_eq_false (by omega)]⟩
      · have hn1 : ((n : Int) == 1) = false := beq_eq_false_iff_ne.2 (by omega)
        have hd : B1 = false := by rw [Bool.eq_false_iff]; intro h; exact n1 (HB1.out.1 h).1
        clear n1
        go_wp2_with fail
        go_meet
        exact ⟨rfl, by rw [hd]⟩
    case rest =>
      obtain ⟨hwx, rfl⟩ := hcut
      rw [hwx]
      clear hwx
      cases B1
      · rw [if_neg (fun h => by cases HB1.out.2 h)] at HPD
        obtain ⟨D2, hD2⟩ : ∃ B : Bool, B = true ↔ (x = 9109 ∧ S = [68, 67]) := ⟨decide (x = 9109 ∧ S = [68, 67]), by simp⟩
        have HD2 := Lib.hid hD2
        clear hD2
        go_upto_region 8 with fail
        have g0 := G0.out w2 HB2.out
        go_cut [60] from 52 (fun xx wx => wx = w2 ∧ xx = .bool D2)
        case first =>
          by_cases x9 : x = 9109
          · have q1 : (x == 9109) = true := by rw [x9]; rfl
            have q2 : (S == [68, 67]) = D2 := by
              rw [Bool.eq_iff_iff, beq_iff_eq, HD2.out]
              exact ⟨fun h => ⟨x9, h⟩, fun h => h.2⟩
            clear x9
            go_wp2_with fail
            go_meet
            exact ⟨rfl, rfl⟩
          · have q1 : (x == 9109) = false := beq_eq_false_iff_ne.2 x9
            have hd : D2 = false := by rw [Bool.eq_false_iff]; intro h; exact x9 (HD2.out.1 h).1
            clear x9
            go_wp2_with fail
            go_meet
            exact ⟨rfl, by rw [hd]⟩
        case rest =>
          obtain ⟨hwx, rfl⟩ := hcut
          rw [hwx]
          clear hwx g0
          cases D2
          · rw [if_neg (fun h => by cases HD2.out.2 h)] at HPD
            obtain ⟨D3, hD3⟩ : ∃ B : Bool, B = true ↔ (x = 9109 ∧ S = [85, 80]) := ⟨decide (x = 9109 ∧ S = [85, 80]), by simp⟩
            have HD3 := Lib.hid hD3
            clear hD3
            go_upto_region 10 with fail
            have g0 := G0.out w2 HB2.out
            go_cut [71] from 63 (fun xx wx => wx = w2 ∧ xx = .bool D3)
            case first =>
              by_cases x9 : x = 9109
              · have q1 : (x == 9109) = true := by rw [x9]; rfl
                have q2 : (S == [85, 80]) = D3 := by
                  rw [Bool.eq_iff_iff, beq_iff_eq, HD3.out]
                  exact ⟨fun h => ⟨x9, h⟩, fun h => h.2⟩
                clear x9
                go_wp2_with fail
                go_meet
                exact ⟨rfl, rfl⟩
              · have q1 : (x == 9109) = false := beq_eq_false_iff_ne.2 x9
                have hd : D3 = false := by rw [Bool.eq_false_iff]; intro h; exact x9 (HD3.out.1 h).1
                clear x9
                go_wp2_with fail
                go_meet
                exact ⟨rfl, by rw [hd]⟩
            case rest =>
              obtain ⟨hwx, rfl⟩ := hcut
              rw [hwx]
              clear hwx g0
              cases D3
              · rw [if_neg (fun h => by cases HD3.out.2 h)] at HPD
                have HRE : Hid (Tk.read l i = (Tk.none_, 0, 1)) := HPD
                go_wp2_with (with_reducible refine wpList_store_row rfl 70 (.tmp 4) (.tmp 74) rfl w.heap.size #[.int .i64 0, .bool false, .slice none 0 0, .slice none 0 0, .slice none 0 0, .string ⟨#[]⟩, .int .i64 0, .int .i64 0] rfl rfl 70 #[.int .i64 0, .bool false, .slice none 0 0, .slice none 0 0, .slice none 0 0, .string ⟨#[]⟩, .int .i64 0, .int .i64 0] HG2.out (rtok_infoR _ _ _ _ _ _ _ _) rfl (rtok_one _ _ _ _ _ _ _ _ _ _ _ _ _ _) ?_)
                refine bodyPost_ret (results_cell_row_tmp2 (by rfl) _ _ w.heap.size 70 #[.int .i64 0, .bool false, .slice none 0 0, .slice none 0 0, .slice none 0 0, .string ⟨#[]⟩, .int .i64 0, .int .i64 0] (0, 0) _ _ _ (by rfl) (by rfl) (by rfl) (rheap_same HG2.out) Tryz.underlying70 rfl (rtok_infoR _ _ _ _ _ _ _ _)) rfl ?_
                refine HR.out _ _ _ HRE.out ?_
                exact ⟨Tk.none_, 0, _, _, _, rfl, isRes_nil _, isRes_nil _, World.ownsRow_nil _ _ _ _, rBelow.setRow HB02.out (Nat.le_refl _) _, fun h => by cases h⟩
              · have HRE : Hid (Tk.read l i = (⟨6, Rt.none_, [], [], 1, i⟩, 3, 0)) := Lib.hid (by rw [HPD.out, if_pos (HD3.out.1 rfl)])
                go_wp2_with (with_reducible refine wpList_store_row rfl 70 (.tmp 4) (.tmp 73) rfl w.heap.size #[.int .i64 6, .bool false, .slice none 0 0, .slice none 0 0, .slice none 0 0, .string ⟨#[]⟩, .int .i64 1, .int .i64 (i : Int)] rfl rfl 70 #[.int .i64 0, .bool false, .slice none 0 0, .slice none 0 0, .slice none 0 0, .string ⟨#[]⟩, .int .i64 0, .int .i64 0] HG2.out (rtok_infoR _ _ _ _ _ _ _ _) rfl (rtok_one _ _ _ _ _ _ _ _ _ _ _ _ _ _) ?_)
                refine bodyPost_ret (results_cell_row_tmp2 (by rfl) _ _ w.heap.size 70 #[.int .i64 6, .bool false, .slice none 0 0, .slice none 0 0, .slice none 0 0, .string ⟨#[]⟩, .int .i64 1, .int .i64 (i : Int)] (0, 0) _ _ _ (by rfl) (by rfl) (by rfl) (rheap_same HG2.out) Tryz.underlying70 rfl (rtok_infoR _ _ _ _ _ _ _ _)) rfl ?_
                refine HR.out _ _ _ HRE.out ?_
                exact ⟨⟨6, Rt.none_, [], [], 1, i⟩, 3, _, _, _, rfl, isRes_nil _, isRes_nil _, World.ownsRow_nil _ _ _ _, rBelow.setRow HB02.out (Nat.le_refl _) _, fun h => ⟨rfl, rfl⟩⟩
          · have HRE : Hid (Tk.read l i = (⟨6, Rt.none_, [], [], 0, i⟩, 3, 0)) := Lib.hid (by rw [HPD.out, if_pos (HD2.out.1 rfl)])
            go_wp2_with (with_reducible refine wpList_store_row rfl 70 (.tmp 4) (.tmp 62) rfl w.heap.size #[.int .i64 6, .bool false, .slice none 0 0, .slice none 0 0, .slice none 0 0, .string ⟨#[]⟩, .int .i64 0, .int .i64 (i : Int)] rfl rfl 70 #[.int .i64 0, .bool false, .slice none 0 0, .slice none 0 0, .slice none 0 0, .string ⟨#[]⟩, .int .i64 0, .int .i64 0] HG2.out (rtok_infoR _ _ _ _ _ _ _ _) rfl (rtok_one _ _ _ _ _ _ _ _ _ _ _ _ _ _) ?_)
            refine bodyPost_ret (results_cell_row_tmp2 (by rfl) _ _ w.heap.size 70 #[.int .i64 6, .bool false, .slice none 0 0, .slice none 0 0, .slice none 0 0, .string ⟨#[]⟩, .int .i64 0, .int .i64 (i : Int)] (0, 0) _ _ _ (by rfl) (by rfl) (by rfl) (rheap_same HG2.out) Tryz.underlying70 rfl (rtok_infoR _ _ _ _ _ _ _ _)) rfl ?_
            refine HR.out _ _ _ HRE.out ?_
            exact ⟨⟨6, Rt.none_, [], [], 0, i⟩, 3, _, _, _, rfl, isRes_nil _, isRes_nil _, World.ownsRow_nil _ _ _ _, rBelow.setRow HB02.out (Nat.le_refl _) _, fun h => ⟨rfl, rfl⟩⟩
      · have hyes := HB1.out.1 rfl
        rw [if_pos hyes] at HPD
        obtain ⟨hn1, hd1, hd2⟩ := hyes
        have hS := HE1.out hn1
        obtain ⟨m, rfl⟩ : ∃ m : Nat, d = (m : Int) := ⟨d.toNat, by omega⟩
        rw [Int.toNat_natCast] at hS
        subst hS
        have e0 : ((⟨#[UInt8.ofNat m]⟩ : ByteArray)[0]'(by show 0 < 1; omega)).toNat = m := by
          show (UInt8.ofNat m).toNat = m
          simp
          omega
        obtain ⟨W4, hW4⟩ : ∃ W4, W4 = w2.alloc (.cells #[.int .i64 4, .bool false, .slice none 0 0, .slice none 0 0, .slice none 0 0, .string ⟨#[]⟩, .int .i64 ((m : Int) - 48), .int .i64 (i : Int)] 70) := ⟨_, rfl⟩
        have HW4 := Lib.hid hW4
        have HBK4 : Hid (Blk W4 w2.heap.size 70 [.int .i64 4, .bool false, .slice none 0 0, .slice none 0 0, .slice none 0 0, .string ⟨#[]⟩, .int .i64 ((m : Int) - 48), .int .i64 (i : Int)]) := Lib.hid (by rw [hW4]; exact Blk.new w2 _ _)
        have HB24 : Hid (Below w2.heap.size w2 W4) := Lib.hid (by rw [hW4]; exact (Below.refl _ _).alloc (Nat.le_refl _) _)
        have HWW : Hid (W.heap.size ≤ w2.heap.size) := Lib.hid HB2.out.size
        have HB04 : Hid (Below w.heap.size w W4) := Lib.hid (HB02.out.trans (HB24.out.mono HB02.out.size))
        have HGR4 : Hid (W4.heap[w.heap.size]? = some (.cells #[.int .i64 0, .bool false, .slice none 0 0, .slice none 0 0, .slice none 0 0, .string ⟨#[]⟩, .int .i64 0, .int .i64 0] 70 (0, 0))) := Lib.hid ((HB24.out.block w.heap.size (blk_lt HG2.out)).trans HG2.out)
        have hlt2 : w.heap.size < w2.heap.size := blk_lt HG2.out
        have HLT2 := Lib.hid hlt2
        have g0 := G0.out W4 (HB2.out.trans (HB24.out.mono HB2.out.size))
        clear hW4 hlt2
        go_upto_region 5 with fail
        rw [← HW4.out]
        by_cases x9 : x = 9054
        · have q1 : (x == 9054) = true := by rw [x9]; rfl
          have HRE : Hid (Tk.read l i = (⟨5, Rt.none_, [], [], (m : Int) - 48, i⟩, 2, 0)) := Lib.hid (by rw [HPD.out, if_pos x9])
          have hc0 : W4.cell? ⟨w2.heap.size, 0, none⟩ = some (.int .i64 4) := HBK4.out.cell rfl
          have hf0 : W4.frozen? ⟨w2.heap.size, 0, none⟩ = false := HBK4.out.frozen 0
          have HBK : Hid ((W4.setCell ⟨w2.heap.size, 0, none⟩ (.int .i64 5)).heap[w2.heap.size]? = some (.cells #[.int .i64 5, .bool false, .slice none 0 0, .slice none 0 0, .slice none 0 0, .string ⟨#[]⟩, .int .i64 ((m : Int) - 48), .int .i64 (i : Int)] 70 (0, 0))) := Lib.hid (HBK4.out.set_ 0 _)
          have HGR5 : Hid ((W4.setCell ⟨w2.heap.size, 0, none⟩ (.int .i64 5)).heap[w.heap.size]? = some (.cells #[.int .i64 0, .bool false, .slice none 0 0, .slice none 0 0, .slice none 0 0, .string ⟨#[]⟩, .int .i64 0, .int .i64 0] 70 (0, 0))) := Lib.hid ((heap_setCell_other W4 _ w.heap.size _ (by have := HLT2.out; simp only; omega)).trans HGR4.out)
          have HB05 : Hid (Below w.heap.size w (W4.setCell ⟨w2.heap.size, 0, none⟩ (.int .i64 5))) := Lib.hid (HB04.out.setCell (by have := HLT2.out; simp only; omega) _)
          clear x9
          go_wp2_with (first | (with_reducible refine wpList_load_row rfl 70 (.tmp 10) rfl w2.heap.size rfl 70 #[.int .i64 5, .bool false, .slice none 0 0, .slice none 0 0, .slice none 0 0, .string ⟨#[]⟩, .int .i64 ((m : Int) - 48), .int .i64 (i : Int)] (0, 0) _ HBK.out Tryz.underlying70 rfl (rtok_infoR _ _ _ _ _ _ _ _) ?_) | (with_reducible refine wpList_store_row rfl 70 (.tmp 4) (.tmp 51) rfl w.heap.size #[.int .i64 5, .bool false, .slice none 0 0, .slice none 0 0, .slice none 0 0, .string ⟨#[]⟩, .int .i64 ((m : Int) - 48), .int .i64 (i : Int)] rfl rfl 70 #[.int .i64 0, .bool false, .slice none 0 0, .slice none 0 0, .slice none 0 0, .string ⟨#[]⟩, .int .i64 0, .int .i64 0] HGR5.out (rtok_infoR _ _ _ _ _ _ _ _) rfl (rtok_one _ _ _ _ _ _ _ _ _ _ _ _ _ _) ?_))
          refine bodyPost_ret (results_cell_row_tmp2 (by rfl) _ _ w.heap.size 70 #[.int .i64 5, .bool false, .slice none 0 0, .slice none 0 0, .slice none 0 0, .string ⟨#[]⟩, .int .i64 ((m : Int) - 48), .int .i64 (i : Int)] (0, 0) _ _ _ (by rfl) (by rfl) (by rfl) (rheap_same HGR5.out) Tryz.underlying70 rfl (rtok_infoR _ _ _ _ _ _ _ _)) rfl ?_
          refine HR.out _ _ _ HRE.out ?_
          exact ⟨⟨5, Rt.none_, [], [], (m : Int) - 48, i⟩, 2, _, _, _, rfl, isRes_nil _, isRes_nil _, World.ownsRow_nil _ _ _ _, rBelow.setRow HB05.out (Nat.le_refl _) _, fun h => ⟨rfl, rfl⟩⟩
        · have q1 : (x == 9054) = false := beq_eq_false_iff_ne.2 x9
          have HRE : Hid (Tk.read l i = (⟨4, Rt.none_, [], [], (m : Int) - 48, i⟩, 2, 0)) := Lib.hid (by rw [HPD.out, if_neg x9])
          have HBK : Hid (W4.heap[w2.heap.size]? = some (.cells #[.int .i64 4, .bool false, .slice none 0 0, .slice none 0 0, .slice none 0 0, .string ⟨#[]⟩, .int .i64 ((m : Int) - 48), .int .i64 (i : Int)] 70 (0, 0))) := Lib.hid HBK4.out
          clear x9
          go_wp2_with (first | (with_reducible refine wpList_load_row rfl 70 (.tmp 10) rfl w2.heap.size rfl 70 #[.int .i64 4, .bool false, .slice none 0 0, .slice none 0 0, .slice none 0 0, .string ⟨#[]⟩, .int .i64 ((m : Int) - 48), .int .i64 (i : Int)] (0, 0) _ HBK.out Tryz.underlying70 rfl (rtok_infoR _ _ _ _ _ _ _ _) ?_) | (with_reducible refine wpList_store_row rfl 70 (.tmp 4) (.tmp 51) rfl w.heap.size #[.int .i64 4, .bool false, .slice none 0 0, .slice none 0 0, .slice none 0 0, .string ⟨#[]⟩, .int .i64 ((m : Int) - 48), .int .i64 (i : Int)] rfl rfl 70 #[.int .i64 0, .bool false, .slice none 0 0, .slice none 0 0, .slice none 0 0, .string ⟨#[]⟩, .int .i64 0, .int .i64 0] HGR4.out (rtok_infoR _ _ _ _ _ _ _ _) rfl (rtok_one _ _ _ _ _ _ _ _ _ _ _ _ _ _) ?_))
          refine bodyPost_ret (results_cell_row_tmp2 (by rfl) _ _ w.heap.size 70 #[.int .i64 4, .bool false, .slice none 0 0, .slice none 0 0, .slice none 0 0, .string ⟨#[]⟩, .int .i64 ((m : Int) - 48), .int .i64 (i : Int)] (0, 0) _ _ _ (by rfl) (by rfl) (by rfl) (rheap_same HGR4.out) Tryz.underlying70 rfl (rtok_infoR _ _ _ _ _ _ _ _)) rfl ?_
          refine HR.out _ _ _ HRE.out ?_
          exact ⟨⟨4, Rt.none_, [], [], (m : Int) - 48, i⟩, 2, _, _, _, rfl, isRes_nil _, isRes_nil _, World.ownsRow_nil _ _ _ _, rBelow.setRow HB04.out (Nat.le_refl _) _, fun h => ⟨rfl, rfl⟩⟩

end Go.Proofs.YtfiefglagknclaaGreatDoor

/-
  scrimref20.text: the text that begins at a place. (Printed by wip/bin/exp.py of wip/tpl/rtok8.main.)
-/
namespace Go.Proofs.YtfiefglagknclaaGreatDoor
open Go.RowKit
set_option maxHeartbeats 4000000
set_option maxRecDepth 100000
set_option linter.unusedVariables false

/-- Where the loop stands: what it has, and what is left to tell. -/
structure RTextAt (l : List Int) (i : Nat) (W wr : World) (m : Nat) (out : List Int) (lv : Value) : Prop where
  lo : i + 1 ≤ m
  hi : m ≤ l.length + 1
  blk : wr.heap[W.heap.size]? = some (.cells #[.int .i64 1, .bool false, .slice none 0 0, .slice none 0 0, lv, .string ⟨#[]⟩, .int .i64 0, .int .i64 (i : Int)] 70 (0, 0))
  own : wr.ownsRow (W.heap.size + 1) 3 1 lv out.length (I64 out)
  below : Below W.heap.size W wr
  more : W.heap.size + 1 ≤ wr.heap.size
  len : out.length + (i + 1) ≤ m
  told : ∃ f, l.length + 1 ≤ f + m ∧ Tk.quote l (l.length + 1) (i + 1) [] = Tk.quote l f m out
def frameRx (V0 vi p4 p7 v8 : Value) (u xs : Nat → Value) : Act := { tmps := #[V0, vi, undef, undef, p4, u 5, u 6, p7, v8, u 9, u 10, u 11, u 12, u 13, u 14, u 15, u 16, u 17, u 18, u 19, u 20, u 21, xs 0, xs 1, xs 2, xs 3, xs 4, xs 5, xs 6, u 29, u 30, u 31, u 32, u 33, u 34, u 35, u 36, u 37, u 38, u 39, u 40, u 41, u 42, u 43, u 44, u 45, u 46, u 47, u 48, u 49, u 50], defers := [] }
/-- One character more: the world and the row behind the append and the store. -/
theorem rtext_next {l : List Int} {i m m' : Nat} {W wr w1 w2 : World} {out : List Int} {AL : Option Addr} {cL : Nat} (HT : RTextAt l i W wr m out (.slice AL out.length cL)) (hb : Below wr.heap.size wr w1) {x : Int} {A2 : Option Addr} {n2 c2 : Nat}
    (hown2 : w2.ownsRow (W.heap.size + 1) 3 1 (.slice A2 n2 c2) (out.length + 1) (I64 out ++ [.int .i64 x])) (hgr : w1.grownBy w2 (Value.slice AL out.length cL).ownBlock) (hm : m < m') (hm2 : m' ≤ l.length + 1)
    (told : ∃ f, l.length + 1 ≤ f + m' ∧ Tk.quote l (l.length + 1) (i + 1) [] = Tk.quote l f m' (out ++ [x])) :
    w2.heap[W.heap.size]? = some (.cells #[.int .i64 1, .bool false, .slice none 0 0, .slice none 0 0, .slice AL out.length cL, .string ⟨#[]⟩, .int .i64 0, .int .i64 (i : Int)] 70 (0, 0)) ∧ RTextAt l i W (w2.setCell ⟨W.heap.size, 4, none⟩ (.slice A2 n2 c2)) m' (out ++ [x]) (.slice A2 n2 c2) := by
  have hgl : W.heap.size < wr.heap.size := by have := HT.more; omega
  have hne : some W.heap.size ≠ (Value.slice AL out.length cL).ownBlock := by
    rcases HT.own.2 with ⟨hv, _⟩ | ⟨g', cap, cur, hv, hbs, _⟩
    · injection hv with e1
      subst e1
      simp [Value.ownBlock]
    · injection hv with e1
      rw [e1]
      simp only [Value.ownBlock]
      intro h
      injection h with h
      omega
  have hBK2 := (hgr.block W.heap.size (by have := hb.size; omega) hne).trans ((hb.block W.heap.size hgl).trans HT.blk)
  refine ⟨hBK2, ?_⟩
  exact
    { lo := by have := HT.lo; omega
      hi := hm2
      blk := Blk.set_ (w := w2) (g := W.heap.size) (vs := [.int .i64 1, .bool false, .slice none 0 0, .slice none 0 0, .slice AL out.length cL, .string ⟨#[]⟩, .int .i64 0, .int .i64 (i : Int)]) hBK2 4 _
      own := by
        have h := own_setCell hown2 (a := ⟨W.heap.size, 4, none⟩) (Nat.lt_succ_self _) (.slice A2 n2 c2)
        have e1 : I64 (out ++ [x]) = I64 out ++ [.int .i64 x] := by simp [I64]
        have e2 : (out ++ [x]).length = out.length + 1 := by simp
        rw [e1, e2]
        exact h
      below := by
        have h1 := (HT.below.trans (hb.mono (Nat.le_of_lt hgl))).grown hgr (by have := hb.size; omega) (by
          intro k hk
          rcases HT.own.2 with ⟨hv, _⟩ | ⟨g', cap, cur, hv, hbs, _⟩
          · injection hv with e1
            subst e1
            cases hk
          · injection hv with e1
            subst e1
            injection hk with hk
            have hk : g' = k := hk
            omega)
        exact h1.setCell (Nat.le_refl _) _
      more := by
        have h1 := hgr.size
        have h2 := hb.size
        have h3 := HT.more
        simp only [World.setCell, Array.size_modify]
        omega
      len := by have := HT.len; simp; omega
      told := told }

theorem tokRefText_any (A : Option Addr) (c : Nat) (l : List Int) (i : Nat) (w : World) (hl : Lies w w.heap.size A (I64 l)) (hn : l.length ≤ 25000) (hcap : l.length ≤ c) (hi : i < l.length) (hc : l.getD i (-1) = 39) :
    Calls Tryz.prog 74 #[.slice A l.length c, .int .i64 (i : Int)] w (RTokOut w (Tk.read l i)) := by
  have HR : Hid (∀ r e w', Tk.read l i = r → RTokOut w r e w' → RTokOut w (Tk.read l i) e w') := Lib.hid (fun r e w' h h2 => by subst h; exact h2)
  obtain ⟨i0, hi0, hz0, hz1, hz2⟩ := info_parts i64_info
  obtain ⟨W, hW⟩ : ∃ W, W = w.alloc (.cells #[.int .i64 0, .bool false, .slice none 0 0, .slice none 0 0, .slice none 0 0, .string ⟨#[]⟩, .int .i64 0, .int .i64 0] 70) := ⟨_, rfl⟩
  have hb0 : Below w.heap.size w W := by rw [hW]; exact (Below.refl _ _).alloc (Nat.le_refl _) _
  have HGA : Hid (W.heap[w.heap.size]? = some (.cells #[.int .i64 0, .bool false, .slice none 0 0, .slice none 0 0, .slice none 0 0, .string ⟨#[]⟩, .int .i64 0, .int .i64 0] 70 (0, 0))) := Lib.hid (by rw [hW]; exact heap_alloc_new w _)
  have HWS : Hid (W.heap.size = w.heap.size + 1) := Lib.hid (by rw [hW]; simp)
  have hlW : Lies W W.heap.size A (I64 l) := (hl.below hb0).more hb0.size
  have AT := Lib.hid (fun (wx : World) (h : Below W.heap.size W wx) (m : Nat) (hm : m ≤ 1000000) => refAt_any A c l m wx ((hlW.below h).more h.size) (by omega) hm)
  obtain ⟨W2, hW2⟩ : ∃ W2, W2 = W.alloc (.cells #[.int .i64 1, .bool false, .slice none 0 0, .slice none 0 0, .slice none 0 0, .string ⟨#[]⟩, .int .i64 0, .int .i64 (i : Int)] 70) := ⟨_, rfl⟩
  have H0 : Hid (RTextAt l i W W2 (i + 1) [] (.slice none 0 0)) := Lib.hid
    { lo := Nat.le_refl _
      hi := by omega
      blk := by rw [hW2]; exact heap_alloc_new W _
      own := World.ownsRow_nil _ _ _ _
      below := by rw [hW2]; exact (Below.refl _ _).alloc (Nat.le_refl _) _
      more := by rw [hW2]; simp
      len := by simp
      told := ⟨l.length + 1, by omega, rfl⟩ }
  have HL := Lib.hid hlW
  have HC := Lib.hid hc
  have HW : Hid (W = w.alloc (.cells #[.int .i64 0, .bool false, .slice none 0 0, .slice none 0 0, .slice none 0 0, .string ⟨#[]⟩, .int .i64 0, .int .i64 0] 70)) := Lib.hid hW
  have HW2 : Hid (W2 = W.alloc (.cells #[.int .i64 1, .bool false, .slice none 0 0, .slice none 0 0, .slice none 0 0, .string ⟨#[]⟩, .int .i64 0, .int .i64 (i : Int)] 70)) := Lib.hid hW2
  obtain ⟨b, off, rfl, hb, g0⟩ := lies_i64 hlW hi
  clear hl hlW hc hW hW2 g0
  go_enter Tryz.func74, Tryz.ntmps74
  go_upto_region 1 with fail
  rw [← HW.out]
  go_upto_region 2 with fail
  rw [← HW2.out]
  go_wp2_with fail
  go_loopw [8] (fun iv wr => ∃ (m : Nat) (out : List Int) (lv : Value), iv = .int .i64 (m : Int) ∧ Hid (RTextAt l i W wr m out lv)) (fun iv _ => l.length + 2 - (intOf iv).toNat)
  case atStart => exact ⟨i + 1, [], _, by go_num, H0⟩
  case round =>
    clear H0 HW HW2
    obtain ⟨m, out, lv, rfl, HT⟩ := hrel
    have hm1 := HT.out.lo
    have hm2 := HT.out.hi
    have HGR : Hid (wr.heap[w.heap.size]? = some (.cells #[.int .i64 0, .bool false, .slice none 0 0, .slice none 0 0, .slice none 0 0, .string ⟨#[]⟩, .int .i64 0, .int .i64 0] 70 (0, 0))) := Lib.hid ((HT.out.below.block w.heap.size (by rw [HWS.out]; omega)).trans HGA.out)
    obtain ⟨AL, cL, rfl, hL1, hL2⟩ := own_slice HT.out.own
    have HBK := Lib.hid HT.out.blk
    by_cases hlt : m < l.length
    · have hbl := HT.out.below
      obtain ⟨b', off', e1, hb', g1⟩ := lies_i64 (HL.out.below hbl) hlt
      injection e1 with e1
      injection e1 with e1 e2
      subst e1 e2
      obtain ⟨y, hy⟩ : ∃ y, y = l.getD m (-1) := ⟨_, rfl⟩
      rw [← Tk.getD_in hlt, ← hy] at g1
      have HY := Lib.hid hy
      have hgl : W.heap.size < wr.heap.size := by have := HT.out.more; omega
      have hc4 : wr.cell? ⟨W.heap.size, 4, none⟩ = some (.slice AL out.length cL) := (cell_of_row wr W.heap.size 4 _ _ _ HT.out.blk).trans rfl
      have hol : out.length + (i + 1) ≤ m := HT.out.len
      clear hy hL1 hL2
      by_cases y1 : y = 39
      · have q1 : (y != 39) = false := by rw [y1]; rfl
        obtain ⟨z, hz⟩ : ∃ z, z = l.getD (m + 1) (-1) := ⟨_, rfl⟩
        have A2 := AT.out wr hbl (m + 1) (by omega)
        rw [← hz] at A2
        have A2 := Lib.hid A2
        have HZ := Lib.hid hz
        clear hz
        by_cases z1 : z = 39
        · have q2 : (z != 39) = false := by rw [z1]; rfl
          have HQ : Hid (∃ f, l.length + 1 ≤ f + (m + 2) ∧ Tk.quote l (l.length + 1) (i + 1) [] = Tk.quote l f (m + 2) (out ++ [39])) := Lib.hid (by
            obtain ⟨f, hf, hq⟩ := HT.out.told
            obtain ⟨f, rfl⟩ : ∃ f', f = f' + 1 := ⟨f - 1, by omega⟩
            exact ⟨f, by omega, by rw [hq, quote_two hlt (by rw [← HY.out]; exact y1) (by rw [← HZ.out]; exact z1)]⟩)
          have hbA : Below wr.heap.size wr (wr.alloc (.cells #[.int .i64 39] 3)) := (Below.refl _ _).alloc (Nat.le_refl _) _
          have HBA := Lib.hid hbA
          have HSA : Hid (W.heap.size + 1 ≤ (wr.alloc (.cells #[.int .i64 39] 3)).heap.size) := Lib.hid (Nat.le_trans HT.out.more hbA.size)
          have hmm : m + 2 ≤ l.length + 1 := by omega
          clear y1 z1 hb' hbl hbA
          go_wp2_with fail
          refine A2.out.mono ?_
          rintro e w' ⟨rfl, rfl⟩
          go_wp2_with (at_builtin; refine wpList_append_own _ rfl _ _ 62 rfl (W.heap.size + 1) 3 i0 (.int .i64 0) 1 8 Tryz.underlying62 hi0 hz0 hz1 hz2 rfl (by decide) _ _ _ rfl (HT.out.own.alloc _) ⟨_, 0, none⟩ 1 1 [.int .i64 39] rfl rfl (cell_one_new _ _ _) (by intro u hu; simp only [List.mem_singleton] at hu; subst hu; rfl) (by unfold maxLen; omega) (by omega) HSA.out ?_; intro v3 w3 hown3 hgr3 hnn3; obtain ⟨A3, c3, rfl, k1, k2⟩ := own_slice hown3; have HNX := Lib.hid (rtext_next HT.out HBA.out hown3 hgr3 (show m < m + 2 by omega) hmm HQ.out); have hd4 : w3.cell? ⟨W.heap.size, 4, none⟩ = some (.slice AL out.length cL) := (cell_of_row w3 W.heap.size 4 _ _ _ HNX.out.1).trans rfl; have hf4 : w3.frozen? ⟨W.heap.size, 4, none⟩ = false := frozen_of_row _ _ _ _ _ HNX.out.1; clear hown3 hgr3 hnn3)
          go_round
          case rel => exact ⟨m + 2, out ++ [39], _, by go_num, Lib.hid HNX.out.2⟩
          case measure => simp [intOf]; omega
        · have q2 : (z != 39) = true := by rw [bne_iff_ne]; exact z1
          have HRE : Hid (Tk.read l i = (⟨1, Rt.none_, out, [], 0, i⟩, m + 1 - i, 0)) := Lib.hid (read_text_some HC.out (by obtain ⟨f, hf, hq⟩ := HT.out.told; obtain ⟨f, rfl⟩ : ∃ f', f = f' + 1 := ⟨f - 1, by omega⟩; rw [hq, quote_stop hlt (by rw [← HY.out]; exact y1) (by rw [← HZ.out]; exact z1)]))
          have HBL := Lib.hid hbl
          have hcast : ((m + 1 - i : Nat) : Int) = (m : Int) + 1 - (i : Int) := by omega
          have HCA := Lib.hid hcast
          clear y1 z1 hb' hbl hcast
          go_wp2_with fail
          refine A2.out.mono ?_
          rintro e w' ⟨rfl, rfl⟩
          go_wp2_with (first | (with_reducible refine wpList_load_row rfl 70 (.tmp 7) rfl W.heap.size rfl 70 #[.int .i64 1, .bool false, .slice none 0 0, .slice none 0 0, .slice AL out.length cL, .string ⟨#[]⟩, .int .i64 0, .int .i64 (i : Int)] (0, 0) _ HBK.out Tryz.underlying70 rfl (rtok_infoR _ _ _ _ _ _ _ _) ?_) | (with_reducible refine wpList_store_row rfl 70 (.tmp 4) (.tmp 38) rfl w.heap.size #[.int .i64 1, .bool false, .slice none 0 0, .slice none 0 0, .slice AL out.length cL, .string ⟨#[]⟩, .int .i64 0, .int .i64 (i : Int)] rfl rfl 70 #[.int .i64 0, .bool false, .slice none 0 0, .slice none 0 0, .slice none 0 0, .string ⟨#[]⟩, .int .i64 0, .int .i64 0] HGR.out (rtok_infoR _ _ _ _ _ _ _ _) rfl (rtok_one _ _ _ _ _ _ _ _ _ _ _ _ _ _) ?_))
          refine bodyPost_ret (results_cell_row_tmp2 (by rfl) _ _ w.heap.size 70 #[.int .i64 1, .bool false, .slice none 0 0, .slice none 0 0, .slice AL out.length cL, .string ⟨#[]⟩, .int .i64 0, .int .i64 (i : Int)] (0, 0) _ _ _ (by rfl) (by rfl) (by rfl) (rheap_same HGR.out) Tryz.underlying70 rfl (rtok_infoR _ _ _ _ _ _ _ _)) rfl ?_
          refine HR.out _ _ _ HRE.out ?_
          exact ⟨⟨1, Rt.none_, out, [], 0, i⟩, m + 1 - i, _, _, _, by rw [HCA.out]; rfl, isRes_nil _, isRes_nil _, (own_setRow HT.out.own (by rw [HWS.out]; omega) _).mono_ (Nat.zero_le _), rBelow.setRow (hb0.trans (HBL.out.mono (by rw [HWS.out]; omega))) (Nat.le_refl _) _, fun h => ⟨rfl, rfl⟩⟩
      · have q1 : (y != 39) = true := by rw [bne_iff_ne]; exact y1
        have HQ : Hid (∃ f, l.length + 1 ≤ f + (m + 1) ∧ Tk.quote l (l.length + 1) (i + 1) [] = Tk.quote l f (m + 1) (out ++ [y])) := Lib.hid (by
          obtain ⟨f, hf, hq⟩ := HT.out.told
          obtain ⟨f, rfl⟩ : ∃ f', f = f' + 1 := ⟨f - 1, by omega⟩
          exact ⟨f, by omega, by rw [hq, quote_on hlt (by rw [← HY.out]; exact y1), HY.out]⟩)
        have HQ1 : Hid (∀ w1, Below wr.heap.size wr w1 → w1.cell? ⟨W.heap.size, 4, none⟩ = some (.slice AL out.length cL)) := Lib.hid (fun w1 h => (h.cell hgl).trans hc4)
        have hbw : b < wr.heap.size := by omega
        have HQ2 : Hid (∀ w1, Below wr.heap.size wr w1 → w1.cell? ⟨b, off + m, none⟩ = some (.int .i64 y)) := Lib.hid (fun w1 h => (h.cell hbw).trans g1)
        clear y1
        go_upto_region 5 with fail
        refine wp_region_tail (frameRx (.slice (some ⟨b, off, none⟩) l.length c) (.int .i64 (i : Int)) (.pointer (some ⟨w.heap.size, 0, none⟩)) (.pointer (some ⟨W.heap.size, 0, none⟩)) (.int .i64 (m : Int)) (fun k => [undef, undef, undef, undef, undef, u5, u6, undef, undef, .int .i64 (i : Int), .agg #[.int .i64 1, .bool false, .slice none 0 0, .slice none 0 0, .slice none 0 0, .string ⟨#[]⟩, .int .i64 0, .int .i64 (i : Int)], .int .i64 (i : Int), .int .i64 ((i : Int) + 1), .int .i64 (m : Int), .slice (some ⟨b, off, none⟩) l.length c, .int .i64 (l.length : Int), .bool true, .slice (some ⟨b, off, none⟩) l.length c, .int .i64 (m : Int), .pointer (some ⟨b, off + m, none⟩), .int .i64 y, .bool true, undef, undef, undef, undef, undef, undef, undef, u29, u30, u31, u32, u33, u34, u35, u36, u37, u38, u39, u40, u41, u42, u43, u44, u45, u46, u47, u48, u49, undef].getD k undef)) wr (predTx (.slice (some ⟨b, off, none⟩) l.length c) W.heap.size b (off + m) (m : Int) y (.slice AL out.length cL)) 7 (by kernel_rfl) (by decide) ?_ (by kernel_rfl) 5 (by kernel_rfl) (fun k => [u22, u23, u24, u25, u26, u27, u28].getD k undef) rfl (Below.refl _ _) ?_ ?_
        · intro i w1 w2 v hv hb
          match i with
          | 0 => exact hv
          | 1 => exact hv
          | 2 => exact hv
          | 3 => exact hv
          | 4 => exact hv
          | 5 => exact hv
          | i + 6 => exact (by
              obtain ⟨g, e, r⟩ := hv
              have hg : g < w1.heap.size := by
                rcases Nat.lt_or_ge g w1.heap.size with h | h
                · exact h
                · rw [Array.getElem?_eq_none h] at r; cases r
              exact ⟨g, e, (hb.block g hg).trans r⟩)
        · intro k xs w1 hk hb hdep
          rcases (show k = 0 ∨ k = 1 ∨ k = 2 ∨ k = 3 ∨ k = 4 ∨ k = 5 ∨ k = 6 by omega) with rfl | rfl | rfl | rfl | rfl | rfl | rfl
          · refine wpOp_at rfl rfl ?_
            unfold frameRx Oper.wp
            go_simp
            exact ⟨_, by simp only [frameRx, upd]; simp [Act.put], rfl, Below.refl _ _⟩
          · have h0 : xs 0 = .pointer (some ⟨W.heap.size, 4, none⟩) := hdep 0 (by kernel_rfl)
            have hq := HQ1.out w1 hb
            refine wpOp_at rfl rfl ?_
            unfold frameRx Oper.wp
            simp only [h0]
            go_simp
            exact ⟨_, by simp only [frameRx, upd]; simp [Act.put, h0], rfl, Below.refl _ _⟩
          · refine wpOp_at rfl rfl ?_
            unfold frameRx Oper.wp
            go_simp
            exact ⟨_, by simp only [frameRx, upd]; simp [Act.put], rfl, Below.refl _ _⟩
          · refine wpOp_at rfl rfl ?_
            unfold frameRx Oper.wp
            go_simp
            exact ⟨_, by simp only [frameRx, upd]; simp [Act.put], rfl, Below.refl _ _⟩
          · have h2 : xs 2 = (.slice (some ⟨b, off, none⟩) l.length c) := hdep 2 (by kernel_rfl)
            have h3 : xs 3 = .int .i64 (m : Int) := hdep 3 (by kernel_rfl)
            refine wpOp_at rfl rfl ?_
            unfold frameRx Oper.wp
            simp only [h2, h3]
            go_simp
            exact ⟨_, by simp only [frameRx, upd]; simp [Act.put, h2, h3], rfl, Below.refl _ _⟩
          · have h4 : xs 4 = .pointer (some ⟨b, off + m, none⟩) := hdep 4 (by kernel_rfl)
            have hq := HQ2.out w1 hb
            refine wpOp_at rfl rfl ?_
            unfold frameRx Oper.wp
            simp only [h4]
            go_simp
            exact ⟨_, by simp only [frameRx, upd]; simp [Act.put, h4], rfl, Below.refl _ _⟩
          · have h5 : xs 5 = .int .i64 y := hdep 5 (by kernel_rfl)
            refine wpOp_at rfl rfl ?_
            refine wp_buildSlice 62 3 1 #[(0, .tmp 27)] rfl #[.int .i64 y] i0 (.int .i64 0) Tryz.underlying62 hi0 hz0 (by rw [hz1]; decide) (by rw [hz1]; decide) (by
              rw [hz1]
              have h5' : (frameRx (.slice (some ⟨b, off, none⟩) l.length c) (.int .i64 (i : Int)) (.pointer (some ⟨w.heap.size, 0, none⟩)) (.pointer (some ⟨W.heap.size, 0, none⟩)) (.int .i64 (m : Int)) (fun k => [undef, undef, undef, undef, undef, u5, u6, undef, undef, .int .i64 (i : Int), .agg #[.int .i64 1, .bool false, .slice none 0 0, .slice none 0 0, .slice none 0 0, .string ⟨#[]⟩, .int .i64 0, .int .i64 (i : Int)], .int .i64 (i : Int), .int .i64 ((i : Int) + 1), .int .i64 (m : Int), .slice (some ⟨b, off, none⟩) l.length c, .int .i64 (l.length : Int), .bool true, .slice (some ⟨b, off, none⟩) l.length c, .int .i64 (m : Int), .pointer (some ⟨b, off + m, none⟩), .int .i64 y, .bool true, undef, undef, undef, undef, undef, undef, undef, u29, u30, u31, u32, u33, u34, u35, u36, u37, u38, u39, u40, u41, u42, u43, u44, u45, u46, u47, u48, u49, undef].getD k undef) xs).eval (.tmp 27) = .int .i64 y := h5
              simp only [List.map_toArray, List.map_cons, List.map_nil, h5']
              exact fill_one y) ?_
            exact ⟨_, by simp only [frameRx, upd]; simp [Act.put], ⟨w1.heap.size, rfl, heap_alloc_new w1 _⟩, (Below.refl _ _).alloc (Nat.le_refl _) _⟩
        · intro xs w1 hb hR
          have h0 : xs 0 = .pointer (some ⟨W.heap.size, 4, none⟩) := hR 0 (by decide)
          have h1 : xs 1 = .slice AL out.length cL := hR 1 (by decide)
          obtain ⟨g, h6, hg6⟩ : ∃ g, xs 6 = .slice (some ⟨g, 0, none⟩) 1 1 ∧ w1.heap[g]? = some (.cells #[.int .i64 y] 3 (0, 0)) := hR 6 (by decide)
          have hown1 := own_below_ HT.out.own hb
          have hlen := HT.out.len
          have hmax : (maxLen : Nat) = 9223372036854775807 := rfl
          show Tail _ _ _ 3 7 _ w1
          refine wpOp_at rfl rfl ?_
          refine wp_append_own w1 (.tmp 23) (.tmp 28) 62 rfl (W.heap.size + 1) 3 i0 (.int .i64 0) 1 8 Tryz.underlying62 hi0 hz0 hz1 hz2 rfl (by decide) (.slice AL out.length cL) out.length (I64 out) h1 hown1 ⟨g, 0, none⟩ 1 1 [.int .i64 y] h6 rfl ?_ ?_ (by omega) (by omega) (by have := HT.out.more; have := hb.size; omega) ?_
          · intro j u hu
            cases j with
            | zero =>
              injection hu with hu
              subst hu
              exact (cell_of_row w1 g 0 _ _ _ hg6).trans rfl
            | succ j => cases hu
          · intro u hu
            rw [List.mem_singleton] at hu
            subst hu
            rfl
          · intro v' w2 hown2 hgr hiff
            obtain ⟨A2, c2, rfl, k1, k2⟩ := own_slice hown2
            have HNX := Lib.hid (rtext_next HT.out hb hown2 hgr (show m < m + 1 by omega) (by omega) HQ.out)
            have hc4 : w2.cell? ⟨W.heap.size, 4, none⟩ = some (.slice AL out.length cL) := (cell_of_row w2 W.heap.size 4 _ _ _ HNX.out.1).trans rfl
            have hf4 : w2.frozen? ⟨W.heap.size, 4, none⟩ = false := frozen_of_row _ _ _ _ _ HNX.out.1
            refine wpOp_at rfl rfl ?_
            unfold frameRx Oper.wp
            go_simp
            refine wpOp_at rfl rfl ?_
            unfold Oper.wp
            go_simp
            clear hc4 hf4 hown2 hown1 hgr hiff hR
            unfold Tail
            go_wp2_with fail
            go_round
            case rel => exact ⟨m + 1, out ++ [y], _, by go_num, Lib.hid HNX.out.2⟩
            case measure => simp [intOf]; omega
    · have hme : l.length ≤ m := by omega
      have HRE : Hid (Tk.read l i = (Tk.none_, 0, 1)) := Lib.hid (read_text_none HC.out (by obtain ⟨f, _, hq⟩ := HT.out.told; rw [hq, quote_end (by omega)]))
      have HBL := Lib.hid HT.out.below
      clear hL1 hL2
      go_wp2_with (with_reducible refine wpList_store_row rfl 70 (.tmp 4) (.tmp 50) rfl w.heap.size #[.int .i64 0, .bool false, .slice none 0 0, .slice none 0 0, .slice none 0 0, .string ⟨#[]⟩, .int .i64 0, .int .i64 0] rfl rfl 70 #[.int .i64 0, .bool false, .slice none 0 0, .slice none 0 0, .slice none 0 0, .string ⟨#[]⟩, .int .i64 0, .int .i64 0] HGR.out (rtok_infoR _ _ _ _ _ _ _ _) rfl (rtok_one _ _ _ _ _ _ _ _ _ _ _ _ _ _) ?_)
      refine bodyPost_ret (results_cell_row_tmp2 (by rfl) _ _ w.heap.size 70 #[.int .i64 0, .bool false, .slice none 0 0, .slice none 0 0, .slice none 0 0, .string ⟨#[]⟩, .int .i64 0, .int .i64 0] (0, 0) _ _ _ (by rfl) (by rfl) (by rfl) (rheap_same HGR.out) Tryz.underlying70 rfl (rtok_infoR _ _ _ _ _ _ _ _)) rfl ?_
      refine HR.out _ _ _ HRE.out ?_
      exact ⟨Tk.none_, 0, _, _, _, rfl, isRes_nil _, isRes_nil _, World.ownsRow_nil _ _ _ _, rBelow.setRow (hb0.trans (HBL.out.mono (by rw [HWS.out]; omega))) (Nat.le_refl _) _, fun h => by cases h⟩
end Go.Proofs.YtfiefglagknclaaGreatDoor

/-
  scrimref20.read: what one token is. (Printed by wip/bin/exp.py of wip/tpl/rtok9.main.)
-/
namespace Go.Proofs.YtfiefglagknclaaGreatDoor
open Go.RowKit
set_option maxHeartbeats 4000000
set_option maxRecDepth 100000
set_option linter.unusedVariables false

theorem refRead_any (A : Option Addr) (c : Nat) (l : List Int) (i : Nat) (w : World) (hl : Lies w w.heap.size A (I64 l)) (hn : l.length ≤ 25000) (hcap : l.length ≤ c) (hm : ∀ x ∈ l, Gl.may x = true) (hi : i < l.length) :
    Calls Tryz.prog 37 #[.slice A l.length c, .int .i64 (i : Int)] w (RTokOut w (Tk.read l i)) := by
  have HR : Hid (∀ r e w', Tk.read l i = r → RTokOut w r e w' → RTokOut w (Tk.read l i) e w') := Lib.hid (fun r e w' h h2 => by subst h; exact h2)
  obtain ⟨W, hW⟩ : ∃ W, W = w.alloc (.cells #[.int .i64 0, .bool false, .slice none 0 0, .slice none 0 0, .slice none 0 0, .string ⟨#[]⟩, .int .i64 0, .int .i64 0] 70) := ⟨_, rfl⟩
  have hb0 : Below w.heap.size w W := by rw [hW]; exact (Below.refl _ _).alloc (Nat.le_refl _) _
  have HGA : Hid (W.heap[w.heap.size]? = some (.cells #[.int .i64 0, .bool false, .slice none 0 0, .slice none 0 0, .slice none 0 0, .string ⟨#[]⟩, .int .i64 0, .int .i64 0] 70 (0, 0))) := Lib.hid (by rw [hW]; exact heap_alloc_new w _)
  have HWS : Hid (W.heap.size = w.heap.size + 1) := Lib.hid (by rw [hW]; simp)
  have hlW : Lies W W.heap.size A (I64 l) := (hl.below hb0).more hb0.size
  have HGX : Hid (∀ wx, Below W.heap.size W wx → wx.heap[w.heap.size]? = some (.cells #[.int .i64 0, .bool false, .slice none 0 0, .slice none 0 0, .slice none 0 0, .string ⟨#[]⟩, .int .i64 0, .int .i64 0] 70 (0, 0))) := Lib.hid (fun wx h => (h.block w.heap.size (by rw [HWS.out]; omega)).trans HGA.out)
  have HBX : Hid (∀ wx, Below W.heap.size W wx → Below w.heap.size w wx) := Lib.hid (fun wx h => hb0.trans (h.mono hb0.size))
  have NUM := Lib.hid (fun (wx : World) (h : Below W.heap.size W wx) (hc : Tk.cls (l.getD i (-1)) = 3) => refNumber_any A c l i wx ((hlW.below h).more h.size) hn hcap hm hi hc)
  have TXT := Lib.hid (fun (wx : World) (h : Below W.heap.size W wx) (hc : l.getD i (-1) = 39) => tokRefText_any A c l i wx ((hlW.below h).more h.size) hn hcap hi hc)
  have PRT := Lib.hid (fun (wx : World) (h : Below W.heap.size W wx) (hc : l.getD i (-1) = 9109 ∨ l.getD i (-1) = 9054) => refPort_any A c l i wx ((hlW.below h).more h.size) hn hcap hm hi hc)
  have WOR := Lib.hid (fun (wx : World) (h : Below W.heap.size W wx) => refWords_any A c l i wx ((hlW.below h).more h.size) (by omega) (by omega))
  have hwl := Tk.words_le l i
  have ENC := Lib.hid (fun (A' : Option Addr) (h' : ∀ b off, A = some ⟨b, off, none⟩ → A' = some ⟨b, off + i, none⟩) (c' : Nat) (wx : World) (h : Below W.heap.size W wx) => refEncode_any A' c' ((l.drop i).take (Tk.words l i)) wx (((lies_cut hlW i (Tk.words l i) (by omega) A' h').below h).more h.size) (by simp; omega) (fun y hy => hm y (List.mem_of_mem_drop (List.mem_of_mem_take hy))))
  have hlen : ((l.drop i).take (Tk.words l i)).length = Tk.words l i := by simp; omega
  rw [hlen] at ENC
  have HRN := Lib.hid (fun (h : Tk.cls (l.getD i (-1)) = 2) => read_name (l := l) (i := i) h)
  have HW2 : Hid (Tk.cls (l.getD i (-1)) = 2 → 1 ≤ Tk.words l i) := Lib.hid (fun h => Tk.words_pos hi (by unfold Tk.word; rw [h]; simp))
  obtain ⟨x, hx⟩ : ∃ x, x = l.getD i (-1) := ⟨_, rfl⟩
  obtain ⟨b, off, rfl, hb, g0⟩ := lies_i64 hlW hi
  rw [← Tk.getD_in hi, ← hx] at g0
  rw [← hx] at NUM TXT PRT HRN HW2
  obtain ⟨k, hk⟩ : ∃ k, k = Tk.cls x := ⟨_, rfl⟩
  have CLS := Lib.hid (fun wx => refClass_any x wx)
  rw [← hk] at CLS NUM HRN HW2
  have HRZ : Hid (¬ k = 3 → ¬ k = 2 → ¬ x = 39 → ¬ (x = 9109 ∨ x = 9054) → k = 0 → Tk.read l i = (Tk.none_, 0, 1)) := Lib.hid (by
    intro h1 h2 h3 h4 h5
    unfold Tk.read
    rw [← hx]
    dsimp only
    rw [← hk, if_neg h1, if_neg h2, if_neg h3, if_neg h4, if_pos h5])
  have HR7 : Hid (¬ k = 3 → ¬ k = 2 → ¬ x = 39 → ¬ (x = 9109 ∨ x = 9054) → ¬ k = 0 → Tk.read l i = (⟨7, Rt.none_, [], [], x, i⟩, 1, 0)) := Lib.hid (by
    intro h1 h2 h3 h4 h5
    unfold Tk.read
    rw [← hx]
    dsimp only
    rw [← hk, if_neg h1, if_neg h2, if_neg h3, if_neg h4, if_neg h5])
  have HKX : Hid (k = Tk.cls x) := Lib.hid hk
  obtain ⟨n, hnw⟩ : ∃ n, n = Tk.words l i := ⟨_, rfl⟩
  rw [← hnw] at WOR ENC HRN HW2 hwl
  obtain ⟨S, hS⟩ : ∃ S, S = Tk.enc ((l.drop i).take n) := ⟨_, rfl⟩
  rw [← hS] at ENC HRN
  have hin : i + n ≤ l.length := by omega
  have HW : Hid (W = w.alloc (.cells #[.int .i64 0, .bool false, .slice none 0 0, .slice none 0 0, .slice none 0 0, .string ⟨#[]⟩, .int .i64 0, .int .i64 0] 70)) := Lib.hid hW
  clear hl hlW hm hW hx hk hnw hS hb hlen hwl
  go_enter Tryz.func37, Tryz.ntmps37
  go_upto_region 1 with fail
  rw [← HW.out]
  go_upto_region 2 with fail
  go_wp2_with fail
  refine (CLS.out _).mono ?_
  rintro e w1 ⟨rfl, hb1⟩
  have HB1 := Lib.hid hb1
  clear hb1
  by_cases k3 : k = 3
  · have q3 : (k == 3) = true := by rw [k3]; rfl
    have HCA := Lib.hid (NUM.out w1 HB1.out k3)
    obtain ⟨R, hR⟩ : ∃ R, R = Tk.read l i := ⟨_, rfl⟩
    rw [← hR] at HCA
    have HRR := Lib.hid hR.symm
    clear NUM TXT PRT WOR ENC HRN HW2 HRZ HR7 hR
    go_wp2_with fail
    refine HCA.out.mono ?_
    intro e w5 h
    obtain ⟨t, n, n1, n2, lv, he, h1, h2, h3, h4, h5⟩ := h
    have he : e = .returned (.tuple #[.agg #[.int .i64 t.kind, .bool t.n.neg, n1, n2, lv, .string ⟨t.s.toArray⟩, .int .i64 t.c, .int .i64 (t.at_ : Int)], .int .i64 (n : Int), .int .i64 R.2.2]) := he
    subst he
    have h1' := h1
    have h2' := h2
    obtain ⟨A1, c1, rfl, _⟩ := h1'
    obtain ⟨A2, c2, rfl, _⟩ := h2'
    obtain ⟨A3, c3, rfl, _, _⟩ := own_slice h3
    have HB5 : Hid (Below W.heap.size W w5) := Lib.hid (HB1.out.trans (h4.mono HB1.out.size))
    have HG5 := Lib.hid (HGX.out w5 HB5.out)
    have H1 := Lib.hid h1
    have H2 := Lib.hid h2
    have H3 := Lib.hid h3
    have H5 := Lib.hid h5
    clear h1 h2 h3 h4 h5 HCA
    go_wp2_with (with_reducible refine wpList_store_row rfl 70 (.tmp 4) (.tmp 22) rfl w.heap.size #[.int .i64 t.kind, .bool t.n.neg, .slice A1 t.n.top.length c1, .slice A2 t.n.bot.length c2, .slice A3 t.l.length c3, .string ⟨t.s.toArray⟩, .int .i64 t.c, .int .i64 (t.at_ : Int)] rfl rfl 70 #[.int .i64 0, .bool false, .slice none 0 0, .slice none 0 0, .slice none 0 0, .string ⟨#[]⟩, .int .i64 0, .int .i64 0] HG5.out (rtok_infoR _ _ _ _ _ _ _ _) rfl (rtok_one _ _ _ _ _ _ _ _ _ _ _ _ _ _) ?_)
    refine bodyPost_ret (results_cell_row_tmp2 (by rfl) _ _ w.heap.size 70 #[.int .i64 t.kind, .bool t.n.neg, .slice A1 t.n.top.length c1, .slice A2 t.n.bot.length c2, .slice A3 t.l.length c3, .string ⟨t.s.toArray⟩, .int .i64 t.c, .int .i64 (t.at_ : Int)] (0, 0) _ _ _ (by rfl) (by rfl) (by rfl) (rheap_same HG5.out) Tryz.underlying70 rfl (rtok_infoR _ _ _ _ _ _ _ _)) rfl ?_
    refine HR.out _ _ _ HRR.out ?_
    exact ⟨t, n, _, _, _, rfl, H1.out.setRowU HG5.out tok_noU _, H2.out.setRowU HG5.out tok_noU _, own_setRow_t H3.out HG5.out (by decide) _, rBelow.setRow (HBX.out _ HB5.out) (Nat.le_refl _) _, H5.out⟩
  · have q3 : (k == 3) = false := beq_eq_false_iff_ne.2 k3
    go_wp2_with fail
    refine (CLS.out _).mono ?_
    rintro e w2 ⟨rfl, hb2⟩
    have HB2 : Hid (Below W.heap.size W w2) := Lib.hid (HB1.out.trans (hb2.mono HB1.out.size))
    clear hb2
    by_cases k2 : k = 2
    · have q2 : (k == 2) = true := by rw [k2]; rfl
      have HRE0 := Lib.hid (HRN.out k2)
      have hn1 := HW2.out k2
      clear NUM TXT PRT HRN HRZ HR7 HW2 k3 k2
      have WO := Lib.hid (WOR.out w2 HB2.out)
      go_wp2_with fail
      refine WO.out.mono ?_
      rintro e w3 ⟨rfl, hb3⟩
      have HB3 : Hid (Below W.heap.size W w3) := Lib.hid (HB2.out.trans (hb3.mono HB2.out.size))
      clear hb3 WO
      go_wp2_with fail
      refine (ENC.out _ (fun b' off' e => by injection e with e; injection e with e1 e2; subst e1 e2; rfl) _ w3 HB3.out).mono ?_
      rintro e w4 ⟨rfl, hb4⟩
      have HB4 : Hid (Below W.heap.size W w4) := Lib.hid (HB3.out.trans (hb4.mono HB3.out.size))
      have HG4 := Lib.hid (HGX.out w4 HB4.out)
      clear hb4 ENC WOR
      by_cases h16 : 16 < n
      · have q16 : decide (16 < (n : Int)) = true := decide_eq_true (by omega)
        have HRE : Hid (Tk.read l i = (Tk.none_, 0, 1)) := Lib.hid (by rw [HRE0.out, if_pos h16])
        go_wp2_with (with_reducible refine wpList_store_row rfl 70 (.tmp 4) (.tmp 44) rfl w.heap.size #[.int .i64 0, .bool false, .slice none 0 0, .slice none 0 0, .slice none 0 0, .string ⟨#[]⟩, .int .i64 0, .int .i64 0] rfl rfl 70 #[.int .i64 0, .bool false, .slice none 0 0, .slice none 0 0, .slice none 0 0, .string ⟨#[]⟩, .int .i64 0, .int .i64 0] HG4.out (rtok_infoR _ _ _ _ _ _ _ _) rfl (rtok_one _ _ _ _ _ _ _ _ _ _ _ _ _ _) ?_)
        refine bodyPost_ret (results_cell_row_tmp2 (by rfl) _ _ w.heap.size 70 #[.int .i64 0, .bool false, .slice none 0 0, .slice none 0 0, .slice none 0 0, .string ⟨#[]⟩, .int .i64 0, .int .i64 0] (0, 0) _ _ _ (by rfl) (by rfl) (by rfl) (rheap_same HG4.out) Tryz.underlying70 rfl (rtok_infoR _ _ _ _ _ _ _ _)) rfl ?_
        refine HR.out _ _ _ HRE.out ?_
        exact ⟨Tk.none_, 0, _, _, _, rfl, isRes_nil _, isRes_nil _, World.ownsRow_nil _ _ _ _, rBelow.setRow (HBX.out _ HB4.out) (Nat.le_refl _) _, fun h => by cases h⟩
      · have q16 : decide (16 < (n : Int)) = false := decide_eq_false (by omega)
        by_cases h90 : x ≤ 90
        · have HRE : Hid (Tk.read l i = (⟨3, Rt.none_, [], S, 0, i⟩, n, 0)) := Lib.hid (by rw [HRE0.out, if_neg h16, if_pos h90])
          have q90 : decide (x ≤ 90) = true := decide_eq_true h90
          go_wp2_with (with_reducible refine wpList_store_row rfl 70 (.tmp 4) (.tmp 49) rfl w.heap.size #[.int .i64 3, .bool false, .slice none 0 0, .slice none 0 0, .slice none 0 0, .string ⟨S.toArray⟩, .int .i64 0, .int .i64 (i : Int)] rfl rfl 70 #[.int .i64 0, .bool false, .slice none 0 0, .slice none 0 0, .slice none 0 0, .string ⟨#[]⟩, .int .i64 0, .int .i64 0] HG4.out (rtok_infoR _ _ _ _ _ _ _ _) rfl (rtok_one _ _ _ _ _ _ _ _ _ _ _ _ _ _) ?_)
          refine bodyPost_ret (results_cell_row_tmp2 (by rfl) _ _ w.heap.size 70 #[.int .i64 3, .bool false, .slice none 0 0, .slice none 0 0, .slice none 0 0, .string ⟨S.toArray⟩, .int .i64 0, .int .i64 (i : Int)] (0, 0) _ _ _ (by rfl) (by rfl) (by rfl) (rheap_same HG4.out) Tryz.underlying70 rfl (rtok_infoR _ _ _ _ _ _ _ _)) rfl ?_
          refine HR.out _ _ _ HRE.out ?_
          exact ⟨⟨3, Rt.none_, [], S, 0, i⟩, n, _, _, _, rfl, isRes_nil _, isRes_nil _, World.ownsRow_nil _ _ _ _, rBelow.setRow (HBX.out _ HB4.out) (Nat.le_refl _) _, fun h => ⟨rfl, rfl⟩⟩
        · have HRE : Hid (Tk.read l i = (⟨2, Rt.none_, [], S, 0, i⟩, n, 0)) := Lib.hid (by rw [HRE0.out, if_neg h16, if_neg h90])
          have q90 : decide (x ≤ 90) = false := decide_eq_false h90
          go_wp2_with (with_reducible refine wpList_store_row rfl 70 (.tmp 4) (.tmp 53) rfl w.heap.size #[.int .i64 2, .bool false, .slice none 0 0, .slice none 0 0, .slice none 0 0, .string ⟨S.toArray⟩, .int .i64 0, .int .i64 (i : Int)] rfl rfl 70 #[.int .i64 0, .bool false, .slice none 0 0, .slice none 0 0, .slice none 0 0, .string ⟨#[]⟩, .int .i64 0, .int .i64 0] HG4.out (rtok_infoR _ _ _ _ _ _ _ _) rfl (rtok_one _ _ _ _ _ _ _ _ _ _ _ _ _ _) ?_)
          refine bodyPost_ret (results_cell_row_tmp2 (by rfl) _ _ w.heap.size 70 #[.int .i64 2, .bool false, .slice none 0 0, .slice none 0 0, .slice none 0 0, .string ⟨S.toArray⟩, .int .i64 0, .int .i64 (i : Int)] (0, 0) _ _ _ (by rfl) (by rfl) (by rfl) (rheap_same HG4.out) Tryz.underlying70 rfl (rtok_infoR _ _ _ _ _ _ _ _)) rfl ?_
          refine HR.out _ _ _ HRE.out ?_
          exact ⟨⟨2, Rt.none_, [], S, 0, i⟩, n, _, _, _, rfl, isRes_nil _, isRes_nil _, World.ownsRow_nil _ _ _ _, rBelow.setRow (HBX.out _ HB4.out) (Nat.le_refl _) _, fun h => ⟨rfl, rfl⟩⟩
    · have q2 : (k == 2) = false := beq_eq_false_iff_ne.2 k2
      by_cases x39 : x = 39
      · have q39 : (x == 39) = true := by rw [x39]; rfl
        have HCA := Lib.hid (TXT.out w2 HB2.out x39)
        obtain ⟨R, hR⟩ : ∃ R, R = Tk.read l i := ⟨_, rfl⟩
        rw [← hR] at HCA
        have HRR := Lib.hid hR.symm
        clear NUM TXT PRT WOR ENC HRN HW2 HRZ HR7 hR
        go_wp2_with fail
        refine HCA.out.mono ?_
        intro e w5 h
        obtain ⟨t, n, n1, n2, lv, he, h1, h2, h3, h4, h5⟩ := h
        have he : e = .returned (.tuple #[.agg #[.int .i64 t.kind, .bool t.n.neg, n1, n2, lv, .string ⟨t.s.toArray⟩, .int .i64 t.c, .int .i64 (t.at_ : Int)], .int .i64 (n : Int), .int .i64 R.2.2]) := he
        subst he
        have h1' := h1
        have h2' := h2
        obtain ⟨A1, c1, rfl, _⟩ := h1'
        obtain ⟨A2, c2, rfl, _⟩ := h2'
        obtain ⟨A3, c3, rfl, _, _⟩ := own_slice h3
        have HB5 : Hid (Below W.heap.size W w5) := Lib.hid (HB2.out.trans (h4.mono HB2.out.size))
        have HG5 := Lib.hid (HGX.out w5 HB5.out)
        have H1 := Lib.hid h1
        have H2 := Lib.hid h2
        have H3 := Lib.hid h3
        have H5 := Lib.hid h5
        clear h1 h2 h3 h4 h5 HCA
        go_wp2_with (with_reducible refine wpList_store_row rfl 70 (.tmp 4) (.tmp 61) rfl w.heap.size #[.int .i64 t.kind, .bool t.n.neg, .slice A1 t.n.top.length c1, .slice A2 t.n.bot.length c2, .slice A3 t.l.length c3, .string ⟨t.s.toArray⟩, .int .i64 t.c, .int .i64 (t.at_ : Int)] rfl rfl 70 #[.int .i64 0, .bool false, .slice none 0 0, .slice none 0 0, .slice none 0 0, .string ⟨#[]⟩, .int .i64 0, .int .i64 0] HG5.out (rtok_infoR _ _ _ _ _ _ _ _) rfl (rtok_one _ _ _ _ _ _ _ _ _ _ _ _ _ _) ?_)
        refine bodyPost_ret (results_cell_row_tmp2 (by rfl) _ _ w.heap.size 70 #[.int .i64 t.kind, .bool t.n.neg, .slice A1 t.n.top.length c1, .slice A2 t.n.bot.length c2, .slice A3 t.l.length c3, .string ⟨t.s.toArray⟩, .int .i64 t.c, .int .i64 (t.at_ : Int)] (0, 0) _ _ _ (by rfl) (by rfl) (by rfl) (rheap_same HG5.out) Tryz.underlying70 rfl (rtok_infoR _ _ _ _ _ _ _ _)) rfl ?_
        refine HR.out _ _ _ HRR.out ?_
        exact ⟨t, n, _, _, _, rfl, H1.out.setRowU HG5.out tok_noU _, H2.out.setRowU HG5.out tok_noU _, own_setRow_t H3.out HG5.out (by decide) _, rBelow.setRow (HBX.out _ HB5.out) (Nat.le_refl _) _, H5.out⟩
      · have q39 : (x == 39) = false := beq_eq_false_iff_ne.2 x39
        by_cases x9 : x = 9109 ∨ x = 9054
        · have HPR := Lib.hid (PRT.out w2 HB2.out x9)
          by_cases x95 : x = 9109
          · have q9 : (x == 9109) = true := by rw [x95]; rfl
            clear x9 x95
            have HCA := Lib.hid (HPR.out)
            obtain ⟨R, hR⟩ : ∃ R, R = Tk.read l i := ⟨_, rfl⟩
            rw [← hR] at HCA
            have HRR := Lib.hid hR.symm
            clear NUM TXT PRT WOR ENC HRN HW2 HRZ HR7 hR
            go_wp2_with fail
            refine HCA.out.mono ?_
            intro e w5 h
            obtain ⟨t, n, n1, n2, lv, he, h1, h2, h3, h4, h5⟩ := h
            have he : e = .returned (.tuple #[.agg #[.int .i64 t.kind, .bool t.n.neg, n1, n2, lv, .string ⟨t.s.toArray⟩, .int .i64 t.c, .int .i64 (t.at_ : Int)], .int .i64 (n : Int), .int .i64 R.2.2]) := he
            subst he
            have h1' := h1
            have h2' := h2
            obtain ⟨A1, c1, rfl, _⟩ := h1'
            obtain ⟨A2, c2, rfl, _⟩ := h2'
            obtain ⟨A3, c3, rfl, _, _⟩ := own_slice h3
            have HB5 : Hid (Below W.heap.size W w5) := Lib.hid (HB2.out.trans (h4.mono HB2.out.size))
            have HG5 := Lib.hid (HGX.out w5 HB5.out)
            have H1 := Lib.hid h1
            have H2 := Lib.hid h2
            have H3 := Lib.hid h3
            have H5 := Lib.hid h5
            clear h1 h2 h3 h4 h5 HCA
            go_wp2_with (with_reducible refine wpList_store_row rfl 70 (.tmp 4) (.tmp 74) rfl w.heap.size #[.int .i64 t.kind, .bool t.n.neg, .slice A1 t.n.top.length c1, .slice A2 t.n.bot.length c2, .slice A3 t.l.length c3, .string ⟨t.s.toArray⟩, .int .i64 t.c, .int .i64 (t.at_ : Int)] rfl rfl 70 #[.int .i64 0, .bool false, .slice none 0 0, .slice none 0 0, .slice none 0 0, .string ⟨#[]⟩, .int .i64 0, .int .i64 0] HG5.out (rtok_infoR _ _ _ _ _ _ _ _) rfl (rtok_one _ _ _ _ _ _ _ _ _ _ _ _ _ _) ?_)
            refine bodyPost_ret (results_cell_row_tmp2 (by rfl) _ _ w.heap.size 70 #[.int .i64 t.kind, .bool t.n.neg, .slice A1 t.n.top.length c1, .slice A2 t.n.bot.length c2, .slice A3 t.l.length c3, .string ⟨t.s.toArray⟩, .int .i64 t.c, .int .i64 (t.at_ : Int)] (0, 0) _ _ _ (by rfl) (by rfl) (by rfl) (rheap_same HG5.out) Tryz.underlying70 rfl (rtok_infoR _ _ _ _ _ _ _ _)) rfl ?_
            refine HR.out _ _ _ HRR.out ?_
            exact ⟨t, n, _, _, _, rfl, H1.out.setRowU HG5.out tok_noU _, H2.out.setRowU HG5.out tok_noU _, own_setRow_t H3.out HG5.out (by decide) _, rBelow.setRow (HBX.out _ HB5.out) (Nat.le_refl _) _, H5.out⟩
          · have q9 : (x == 9109) = false := beq_eq_false_iff_ne.2 x95
            have q94 : (x == 9054) = true := by rw [beq_iff_eq]; omega
            clear x9 x95
            have HCA := Lib.hid (HPR.out)
            obtain ⟨R, hR⟩ : ∃ R, R = Tk.read l i := ⟨_, rfl⟩
            rw [← hR] at HCA
            have HRR := Lib.hid hR.symm
            clear NUM TXT PRT WOR ENC HRN HW2 HRZ HR7 hR
            go_wp2_with fail
            refine HCA.out.mono ?_
            intro e w5 h
            obtain ⟨t, n, n1, n2, lv, he, h1, h2, h3, h4, h5⟩ := h
            have he : e = .returned (.tuple #[.agg #[.int .i64 t.kind, .bool t.n.neg, n1, n2, lv, .string ⟨t.s.toArray⟩, .int .i64 t.c, .int .i64 (t.at_ : Int)], .int .i64 (n : Int), .int .i64 R.2.2]) := he
            subst he
            have h1' := h1
            have h2' := h2
            obtain ⟨A1, c1, rfl, _⟩ := h1'
            obtain ⟨A2, c2, rfl, _⟩ := h2'
            obtain ⟨A3, c3, rfl, _, _⟩ := own_slice h3
            have HB5 : Hid (Below W.heap.size W w5) := Lib.hid (HB2.out.trans (h4.mono HB2.out.size))
            have HG5 := Lib.hid (HGX.out w5 HB5.out)
            have H1 := Lib.hid h1
            have H2 := Lib.hid h2
            have H3 := Lib.hid h3
            have H5 := Lib.hid h5
            clear h1 h2 h3 h4 h5 HCA
            go_wp2_with (with_reducible refine wpList_store_row rfl 70 (.tmp 4) (.tmp 74) rfl w.heap.size #[.int .i64 t.kind, .bool t.n.neg, .slice A1 t.n.top.length c1, .slice A2 t.n.bot.length c2, .slice A3 t.l.length c3, .string ⟨t.s.toArray⟩, .int .i64 t.c, .int .i64 (t.at_ : Int)] rfl rfl 70 #[.int .i64 0, .bool false, .slice none 0 0, .slice none 0 0, .slice none 0 0, .string ⟨#[]⟩, .int .i64 0, .int .i64 0] HG5.out (rtok_infoR _ _ _ _ _ _ _ _) rfl (rtok_one _ _ _ _ _ _ _ _ _ _ _ _ _ _) ?_)
            refine bodyPost_ret (results_cell_row_tmp2 (by rfl) _ _ w.heap.size 70 #[.int .i64 t.kind, .bool t.n.neg, .slice A1 t.n.top.length c1, .slice A2 t.n.bot.length c2, .slice A3 t.l.length c3, .string ⟨t.s.toArray⟩, .int .i64 t.c, .int .i64 (t.at_ : Int)] (0, 0) _ _ _ (by rfl) (by rfl) (by rfl) (rheap_same HG5.out) Tryz.underlying70 rfl (rtok_infoR _ _ _ _ _ _ _ _)) rfl ?_
            refine HR.out _ _ _ HRR.out ?_
            exact ⟨t, n, _, _, _, rfl, H1.out.setRowU HG5.out tok_noU _, H2.out.setRowU HG5.out tok_noU _, own_setRow_t H3.out HG5.out (by decide) _, rBelow.setRow (HBX.out _ HB5.out) (Nat.le_refl _) _, H5.out⟩
        · have q9 : (x == 9109) = false := beq_eq_false_iff_ne.2 (fun h => x9 (.inl h))
          have q94 : (x == 9054) = false := beq_eq_false_iff_ne.2 (fun h => x9 (.inr h))
          go_wp2_with fail
          refine (CLS.out _).mono ?_
          rintro e w3 ⟨rfl, hb3⟩
          have HB3 : Hid (Below W.heap.size W w3) := Lib.hid (HB2.out.trans (hb3.mono HB2.out.size))
          have HG3 := Lib.hid (HGX.out w3 HB3.out)
          clear hb3
          by_cases k0 : k = 0
          · have q0 : (k == 0) = true := by rw [k0]; rfl
            have HRE : Hid (Tk.read l i = (Tk.none_, 0, 1)) := Lib.hid (HRZ.out k3 k2 x39 x9 k0)
            clear k0 k3 k2 x39 x9
            go_wp2_with (with_reducible refine wpList_store_row rfl 70 (.tmp 4) (.tmp 81) rfl w.heap.size #[.int .i64 0, .bool false, .slice none 0 0, .slice none 0 0, .slice none 0 0, .string ⟨#[]⟩, .int .i64 0, .int .i64 0] rfl rfl 70 #[.int .i64 0, .bool false, .slice none 0 0, .slice none 0 0, .slice none 0 0, .string ⟨#[]⟩, .int .i64 0, .int .i64 0] HG3.out (rtok_infoR _ _ _ _ _ _ _ _) rfl (rtok_one _ _ _ _ _ _ _ _ _ _ _ _ _ _) ?_)
            refine bodyPost_ret (results_cell_row_tmp2 (by rfl) _ _ w.heap.size 70 #[.int .i64 0, .bool false, .slice none 0 0, .slice none 0 0, .slice none 0 0, .string ⟨#[]⟩, .int .i64 0, .int .i64 0] (0, 0) _ _ _ (by rfl) (by rfl) (by rfl) (rheap_same HG3.out) Tryz.underlying70 rfl (rtok_infoR _ _ _ _ _ _ _ _)) rfl ?_
            refine HR.out _ _ _ HRE.out ?_
            exact ⟨Tk.none_, 0, _, _, _, rfl, isRes_nil _, isRes_nil _, World.ownsRow_nil _ _ _ _, rBelow.setRow (HBX.out _ HB3.out) (Nat.le_refl _) _, fun h => by cases h⟩
          · have q0 : (k == 0) = false := beq_eq_false_iff_ne.2 k0
            have HRE : Hid (Tk.read l i = (⟨7, Rt.none_, [], [], x, i⟩, 1, 0)) := Lib.hid (HR7.out k3 k2 x39 x9 k0)
            clear k0 k3 k2 x39 x9
            go_wp2_with (with_reducible refine wpList_store_row rfl 70 (.tmp 4) (.tmp 84) rfl w.heap.size #[.int .i64 7, .bool false, .slice none 0 0, .slice none 0 0, .slice none 0 0, .string ⟨#[]⟩, .int .i64 x, .int .i64 (i : Int)] rfl rfl 70 #[.int .i64 0, .bool false, .slice none 0 0, .slice none 0 0, .slice none 0 0, .string ⟨#[]⟩, .int .i64 0, .int .i64 0] HG3.out (rtok_infoR _ _ _ _ _ _ _ _) rfl (rtok_one _ _ _ _ _ _ _ _ _ _ _ _ _ _) ?_)
            refine bodyPost_ret (results_cell_row_tmp2 (by rfl) _ _ w.heap.size 70 #[.int .i64 7, .bool false, .slice none 0 0, .slice none 0 0, .slice none 0 0, .string ⟨#[]⟩, .int .i64 x, .int .i64 (i : Int)] (0, 0) _ _ _ (by rfl) (by rfl) (by rfl) (rheap_same HG3.out) Tryz.underlying70 rfl (rtok_infoR _ _ _ _ _ _ _ _)) rfl ?_
            refine HR.out _ _ _ HRE.out ?_
            exact ⟨⟨7, Rt.none_, [], [], x, i⟩, 1, _, _, _, rfl, isRes_nil _, isRes_nil _, World.ownsRow_nil _ _ _ _, rBelow.setRow (HBX.out _ HB3.out) (Nat.le_refl _) _, fun h => ⟨rfl, rfl⟩⟩
end Go.Proofs.YtfiefglagknclaaGreatDoor

/-
  scrimref06.guess: the character whose bytes may stand at a place.
-/
namespace Go.Proofs.YtfiefglagknclaaGreatDoor
open Go.RowKit
set_option maxHeartbeats 4000000
set_option maxRecDepth 100000
set_option linter.unusedVariables false

/-- What is guessed, as two numbers. -/
def guessed : Option (Nat × Nat) → Nat × Nat
  | none => (0, 0)
  | some p => p
theorem by_at {s : ByteArray} {i : Nat} (h : i < s.size) : s[i].toNat = Gl.by_ s i := by unfold Gl.by_; rw [Gl.get_at h]
theorem first_bd {b c n : Nat} (hb : b < 256) (h : Gl.first b = some (c, n)) : c < 128 ∧ 1 ≤ n ∧ n ≤ 4 := by
  unfold Gl.first at h
  repeat' split at h
  all_goals (first | (cases h; omega) | cases h)
theorem bnd_step {c k b : Nat} (h : c < 128 * 64 ^ (k - 1)) (hk : 1 ≤ k) (hb : b ≤ 191) : 64 * c + b - 128 < 128 * 64 ^ (k + 1 - 1) := by
  obtain ⟨m, rfl⟩ : ∃ m, k = m + 1 := ⟨k - 1, by omega⟩
  rw [Nat.add_sub_cancel] at h
  rw [show m + 1 + 1 - 1 = m + 1 by omega, Nat.pow_succ]
  omega
theorem bnd_3 {c k : Nat} (h : c < 128 * 64 ^ (k - 1)) (hk : 1 ≤ k) (h3 : k ≤ 3) : c < 524288 := by
  rcases (show k = 1 ∨ k = 2 ∨ k = 3 by omega) with rfl | rfl | rfl
  all_goals (simp at h; omega)
theorem refGuess_any (s : ByteArray) (i : Nat) (w : World) (hi : i < s.size) (hs : s.size ≤ 100000) :
    Calls Tryz.prog 64 #[.string s, .int .i64 (i : Int)] w fun e w' => e = .returned (.tuple #[.int .i64 ((guessed (Gl.guess s i)).1 : Int), .int .i64 ((guessed (Gl.guess s i)).2 : Int)]) ∧ w = w' := by
  have HG : Hid (Gl.guess s i = match Gl.first (Gl.by_ s i) with
    | none => none
    | some (c, n) => if s.size - i < n then none else (Gl.more s c (i + 1) (n - 1)).map fun c => (c, n)) := Lib.hid rfl
  have hb0 := Gl.by_lt s i
  have hb1 := by_at hi
  obtain ⟨b, hb⟩ : ∃ b, b = Gl.by_ s i := ⟨_, rfl⟩
  rw [← hb] at HG hb0 hb1
  have E0 : Hid (wrap64 (s[i].toNat : Int) = (b : Int)) := Lib.hid (by rw [hb1]; exact IntWalk.wrap64_in _ (by omega))
  obtain ⟨G, hG⟩ : ∃ G, G = Gl.guess s i := ⟨_, rfl⟩
  rw [← hG] at HG ⊢
  clear hb hb1 hG
  go_enter Tryz.func64, Tryz.ntmps64
  go_upto_region 3 with fail
  rw [E0.out]
  go_upto_if 14 with fail
  go_cut [6, 7] from 15 (fun x6 x7 wx => wx = w ∧ ∃ c n : Nat, x6 = .int .i64 (c : Int) ∧ x7 = .int .i64 (n : Int) ∧ Hid (Gl.first b = some (c, n)))
  case first =>
    by_cases h1 : 240 ≤ b
    · go_wp2_with fail
      go_meet
      exact ⟨rfl, b - 240, 4, congrArg (Value.int .i64) (by omega), rfl, Lib.hid (Gl.first_4 h1)⟩
    · have q1 : decide (240 ≤ (b : Int)) = false := decide_eq_false (by omega)
      by_cases h2 : 224 ≤ b
      · have H := Lib.hid (Gl.first_3 h2 (by omega))
        go_wp2_with fail
        go_meet
        exact ⟨rfl, b - 224, 3, congrArg (Value.int .i64) (by omega), rfl, H⟩
      · have q2 : decide (224 ≤ (b : Int)) = false := decide_eq_false (by omega)
        by_cases h3 : 192 ≤ b
        · have H := Lib.hid (Gl.first_2 h3 (by omega))
          go_wp2_with fail
          go_meet
          exact ⟨rfl, b - 192, 2, congrArg (Value.int .i64) (by omega), rfl, H⟩
        · have q3 : decide (192 ≤ (b : Int)) = false := decide_eq_false (by omega)
          by_cases h4 : 128 ≤ b
          · have H := Lib.hid (Gl.first_mid h4 (by omega))
            have HE : Hid (G = none) := Lib.hid (by rw [HG.out, H.out])
            go_wp2_with fail
            go_ret2
            exact ⟨by rw [HE.out]; rfl, rfl⟩
          · have q4 : decide (128 ≤ (b : Int)) = false := decide_eq_false (by omega)
            have H := Lib.hid (Gl.first_lt (show b < 128 by omega))
            go_wp2_with fail
            go_meet
            exact ⟨rfl, b, 1, rfl, rfl, H⟩
  case rest =>
    obtain ⟨hwx, c, n, rfl, rfl, HF⟩ := hcut
    rw [hwx]
    clear hwx
    obtain ⟨hc, hn1, hn4⟩ := first_bd hb0 HF.out
    have HG2 : Hid (G = if s.size - i < n then none else (Gl.more s c (i + 1) (n - 1)).map fun c => (c, n)) := Lib.hid (by rw [HG.out, HF.out])
    clear HG HF E0
    by_cases hlen : s.size - i < n
    · have HE : Hid (G = none) := Lib.hid (by rw [HG2.out, if_pos hlen])
      have hlen' : (s.size : Int) - (i : Int) < (n : Int) := by omega
      clear hlen
      go_wp2_with fail
      go_ret2
      exact ⟨by rw [HE.out]; rfl, rfl⟩
    · have HE : Hid (G = (Gl.more s c (i + 1) (n - 1)).map fun c => (c, n)) := Lib.hid (by rw [HG2.out, if_neg hlen])
      have hlen' : decide ((s.size : Int) - (i : Int) < (n : Int)) = false := decide_eq_false (by omega)
      have hin : i + n ≤ s.size := by omega
      clear hlen HG2
      go_wp2_with fail
      go_loop [6, 8] (fun cv kv => ∃ c' k : Nat, cv = .int .i64 (c' : Int) ∧ kv = .int .i64 (k : Int) ∧ 1 ≤ k ∧ k ≤ n ∧ Hid (c' < 128 * 64 ^ (k - 1)) ∧ Hid (Gl.more s c (i + 1) (n - 1) = Gl.more s c' (i + k) (n - k))) (fun _ kv => n - (intOf kv).toNat)
      case atStart => exact ⟨c, 1, rfl, rfl, Nat.le_refl _, hn1, Lib.hid (by simpa using hc), Lib.hid rfl⟩
      case round =>
        clear hlen'
        obtain ⟨c', k, rfl, rfl, hk1, hkn, HB, HM⟩ := hrel
        by_cases hlt : k < n
        · have hc3 := bnd_3 HB.out hk1 (by omega)
          have hik : i + k < s.size := by omega
          have hby := by_at hik
          have hb3 := Gl.by_lt s (i + k)
          obtain ⟨b', hb'⟩ : ∃ b', b' = Gl.by_ s (i + k) := ⟨_, rfl⟩
          rw [← hb'] at hby hb3
          have HMS : Hid (Gl.more s c' (i + k) (n - k) = if b' < 128 ∨ 191 < b' then none else Gl.more s (64 * c' + b' - 128) (i + (k + 1)) (n - (k + 1))) := Lib.hid (by
            rw [show n - k = (n - (k + 1)) + 1 by omega, hb']
            rfl)
          have HBY := Lib.hid hby
          have e2 : wrap64 (s[i + k].toNat : Int) = (s[i + k].toNat : Int) := IntWalk.wrap64_in _ (by rw [hby]; omega)
          clear hb' hby
          by_cases h1 : b' < 128
          · have q1 : decide ((s[i + k].toNat : Int) < 128) = true := decide_eq_true (by rw [HBY.out]; omega)
            have HE2 : Hid (G = none) := Lib.hid (by rw [HE.out, HM.out, HMS.out, if_pos (.inl h1)]; rfl)
            go_wp2_with fail
            go_ret2
            exact ⟨by rw [HE2.out]; rfl, rfl⟩
          · have q1 : decide ((s[i + k].toNat : Int) < 128) = false := decide_eq_false (by rw [HBY.out]; omega)
            by_cases h2 : 191 < b'
            · have q2 : decide (191 < (s[i + k].toNat : Int)) = true := decide_eq_true (by rw [HBY.out]; omega)
              have HE2 : Hid (G = none) := Lib.hid (by rw [HE.out, HM.out, HMS.out, if_pos (.inr h2)]; rfl)
              go_wp2_with fail
              go_ret2
              exact ⟨by rw [HE2.out]; rfl, rfl⟩
            · have q2 : decide (191 < (s[i + k].toNat : Int)) = false := decide_eq_false (by rw [HBY.out]; omega)
              have HM2 : Hid (Gl.more s c (i + 1) (n - 1) = Gl.more s (64 * c' + b' - 128) (i + (k + 1)) (n - (k + 1))) := Lib.hid (by rw [HM.out, HMS.out, if_neg (by omega)])
              have HB2 : Hid (64 * c' + b' - 128 < 128 * 64 ^ (k + 1 - 1)) := Lib.hid (bnd_step HB.out hk1 (by omega))
              have hbb : (s[i + k].toNat : Int) < 256 := by rw [HBY.out]; omega
              have hv : Hid ((64 * (c' : Int) + (s[i + k].toNat : Int) - 128) = ((64 * c' + b' - 128 : Nat) : Int)) := Lib.hid (by rw [HBY.out]; omega)
              go_wp2_with fail
              go_round
              case rel => exact ⟨64 * c' + b' - 128, k + 1, congrArg (Value.int .i64) hv.out, by go_num, by omega, by omega, HB2, HM2⟩
              case measure => simp [intOf]; omega
        · obtain rfl : k = n := by omega
          have HE2 : Hid (G = some (c', k)) := Lib.hid (by rw [HE.out, HM.out, Nat.sub_self]; rfl)
          go_wp2_with fail
          go_ret2
          exact ⟨by rw [HE2.out]; rfl, rfl⟩
end Go.Proofs.YtfiefglagknclaaGreatDoor
