/-
  Texts of this proof, joined (by wip/bin/bundle.py): Tok7, Tok8, Tok9, Tok10, Toks.
-/
import Derived.Test.YtfiefglagknclaaGreatDoorM10
import Derived.Deep.CutRange
import Derived.Great.BuildSlice
import Derived.Deep.CutBlock
import Derived.Deep.RegionHeld3
import Derived.Laws.Cover4
/-
  token.number: the number that begins at a place.
-/
namespace Go.Proofs.YtfiefglagknclaaGreatDoor
open Go.RowKit
set_option maxHeartbeats 4000000
set_option maxRecDepth 100000
set_option linter.unusedVariables false

theorem numLen_eq {l : List Int} {i nn k e : Nat} (hn : nn = if l.getD i (-1) = 175 then 1 else 0) (hk : k = Tk.figures l (i + nn))
    (he : e = if (l.getD (i + nn + k) (-1) = 114 ∨ l.getD (i + nn + k) (-1) = 46) ∧ 0 < Tk.figures l (i + nn + k + 1) then i + nn + k + 1 + Tk.figures l (i + nn + k + 1) else i + nn + k) :
    Tk.numLen l i = if k = 0 then none else if Tk.word (l.getD e (-1)) = true ∨ l.getD e (-1) = 175 then none else some (e - i) := by
  unfold Tk.numLen
  simp only
  rw [← hn, ← hk, show i + (nn + k) = i + nn + k by omega]
  by_cases h0 : k = 0
  · rw [if_pos h0, if_pos h0]
  · rw [if_neg h0, if_neg h0]
    by_cases hc : (l.getD (i + nn + k) (-1) = 114 ∨ l.getD (i + nn + k) (-1) = 46) ∧ 0 < Tk.figures l (i + nn + k + 1)
    · rw [if_pos hc] at he ⊢
      rw [show i + (nn + k + 1 + Tk.figures l (i + nn + k + 1)) = e by omega, show nn + k + 1 + Tk.figures l (i + nn + k + 1) = e - i by omega]
    · rw [if_neg hc] at he ⊢
      rw [show i + (nn + k) = e by omega, show nn + k = e - i by omega]
theorem read_num_none {l : List Int} {i : Nat} (hc : Tk.cls (l.getD i (-1)) = 3) (h : Tk.numLen l i = none) : Tk.read l i = (Tk.none_, 0, 1) := by
  unfold Tk.read
  simp only
  rw [if_pos hc, h]
theorem read_num_err {l : List Int} {i n : Nat} (hc : Tk.cls (l.getD i (-1)) = 3) (h : Tk.numLen l i = some n) (h2 : (Dg.parse (Tk.enc ((l.drop i).take n))).2 ≠ 0) : Tk.read l i = (Tk.none_, 0, (Dg.parse (Tk.enc ((l.drop i).take n))).2) := by
  unfold Tk.read
  simp only
  rw [if_pos hc, h]
  simp only
  rw [if_neg h2]
theorem read_num_ok {l : List Int} {i n : Nat} (hc : Tk.cls (l.getD i (-1)) = 3) (h : Tk.numLen l i = some n) (h2 : (Dg.parse (Tk.enc ((l.drop i).take n))).2 = 0) : Tk.read l i = (⟨0, (Dg.parse (Tk.enc ((l.drop i).take n))).1, [], [], 0, i⟩, n, 0) := by
  unfold Tk.read
  simp only
  rw [if_pos hc, h]
  simp only
  rw [if_pos h2]
theorem gl_one_len (c : Nat) : (Gl.one c).length ≤ 4 := by
  unfold Gl.one
  repeat' split
  all_goals simp
theorem tk_enc_len : ∀ l : List Int, (Tk.enc l).length ≤ 4 * l.length
  | [] => by simp [Tk.enc]
  | a :: r => by
    have h1 := tk_enc_len r
    have h2 := gl_one_len a.toNat
    unfold Tk.enc at h1 ⊢
    rw [List.flatMap_cons, List.length_append]
    have : (Tk.enc1 a).length ≤ 4 := by unfold Tk.enc1; simpa using h2
    simp only [List.length_cons]
    omega

theorem IsRes.setRowU {w : World} {v : Value} {l : List Nat} {g : Nat} {old : Array Value} {t : TypeId} (h : IsRes w v l) (hg : w.heap[g]? = some (.cells old t (0, 0))) (ho : ∀ (i : Nat) (n : Int), old[i]? ≠ some (Value.int .u32 n)) (cs : Array Value) : IsRes (w.setRow g cs) v l := by
  obtain ⟨A, c, h1, h2, h3, h4, h5⟩ := h
  refine ⟨A, c, h1, h2, h3, h4, ?_⟩
  rcases h5 with h5 | ⟨b, off, e, hb, hc⟩
  · exact .inl h5
  · cases l with
    | nil => exact .inl rfl
    | cons x r =>
      have hne : b ≠ g := by
        rintro rfl
        have h0 := hc 0 _ rfl
        rw [cell_of_row w b (off + 0) old t (0, 0) hg] at h0
        exact ho _ _ h0
      refine .inr ⟨b, off, e, by rw [size_setRow]; exact hb, fun i u hu => ?_⟩
      rw [World.cell?_of_block (w := w) (by simp only [World.setRow, Array.getElem?_modify]; rw [if_neg (by omega)])]
      exact hc i u hu
theorem tok_noU : ∀ (i : Nat) (n : Int), (#[.int .i64 0, .bool false, .slice none 0 0, .slice none 0 0, .slice none 0 0, .string ⟨#[]⟩, .int .i64 0, .int .i64 0] : Array Value)[i]? ≠ some (Value.int .u32 n) := by
  intro i n h
  rcases i with _ | _ | _ | _ | _ | _ | _ | _ | i <;> simp at h
theorem num_noU : ∀ (i : Nat) (n : Int), (#[.bool false, .slice none 0 0, .slice none 0 0] : Array Value)[i]? ≠ some (Value.int .u32 n) := by
  intro i n h
  rcases i with _ | _ | _ | i <;> simp at h

theorem num_infoR (x0 x1 x2 : Value) : (Tryz.prog.info? 26).map (·.size) = some (#[x0, x1, x2] : Array Value).size := num_info
theorem tokNumber_any (A : Option Addr) (c : Nat) (l : List Int) (i : Nat) (w : World) (hl : Lies w w.heap.size A (I64 l)) (hn : l.length ≤ 25000) (hcap : l.length ≤ c) (hm : ∀ x ∈ l, Gl.may x = true) (hi : i < l.length) (hc : Tk.cls (l.getD i (-1)) = 3) :
    Calls Tryz.prog 60 #[.slice A l.length c, .int .i64 (i : Int)] w (ReadOut w l i) := by
  have HR : Hid (∀ e w', TokOut w (Tk.read l i).1 (if (Tk.read l i).2.2 = 0 then i + (Tk.read l i).2.1 else 0) (Tk.read l i).2.2 e w' → ReadOut w l i e w') := Lib.hid (fun e w' h => h)
  obtain ⟨W, hW⟩ : ∃ W, W = w.alloc (.cells #[.int .i64 0, .bool false, .slice none 0 0, .slice none 0 0, .slice none 0 0, .string ⟨#[]⟩, .int .i64 0, .int .i64 0] 67) := ⟨_, rfl⟩
  have hb0 : Below w.heap.size w W := by rw [hW]; exact (Below.refl _ _).alloc (Nat.le_refl _) _
  have HGA : Hid (W.heap[w.heap.size]? = some (.cells #[.int .i64 0, .bool false, .slice none 0 0, .slice none 0 0, .slice none 0 0, .string ⟨#[]⟩, .int .i64 0, .int .i64 0] 67 (0, 0))) := Lib.hid (by rw [hW]; exact heap_alloc_new w _)
  have HWS : Hid (W.heap.size = w.heap.size + 1) := Lib.hid (by rw [hW]; simp)
  have hlW : Lies W W.heap.size A (I64 l) := (hl.below hb0).more hb0.size
  have LT := Lib.hid (fun (m : Nat) (h : m ≤ 1000000) => letter_any A c l m W hlW (by omega) h)
  have DG := Lib.hid (fun (m : Nat) (h : m ≤ 1000000) => digit_any A c l m W hlW (by omega) h)
  obtain ⟨nn, hnn⟩ : ∃ nn : Nat, nn = if l.getD i (-1) = 175 then 1 else 0 := ⟨_, rfl⟩
  obtain ⟨k, hk⟩ : ∃ k, k = Tk.figures l (i + nn) := ⟨_, rfl⟩
  obtain ⟨f, hf⟩ : ∃ f, f = Tk.figures l (i + nn + k + 1) := ⟨_, rfl⟩
  obtain ⟨j, hj⟩ : ∃ j, j = i + nn + k := ⟨_, rfl⟩
  obtain ⟨e, he⟩ : ∃ e, e = if (l.getD (i + nn + k) (-1) = 114 ∨ l.getD (i + nn + k) (-1) = 46) ∧ 0 < Tk.figures l (i + nn + k + 1) then i + nn + k + 1 + Tk.figures l (i + nn + k + 1) else i + nn + k := ⟨_, rfl⟩
  have HNL := Lib.hid (numLen_eq hnn hk he)
  have F1 := Lib.hid (fun (q : Nat) (h : q ≤ k) => (by rw [hk] at h ⊢; exact figures_at h : Tk.digit (l.getD (i + nn + q) (-1)) = true ↔ q < k))
  have F2 := Lib.hid (fun (q : Nat) (h : q ≤ f) => (by rw [hf] at h ⊢; exact figures_at h : Tk.digit (l.getD (i + nn + k + 1 + q) (-1)) = true ↔ q < f))
  have hkl := Tk.figures_le l (i + nn)
  have hfl := Tk.figures_le l (i + nn + k + 1)
  rw [← hk] at hkl
  rw [← hf] at hfl he
  rw [← hj] at he F2 hfl
  have hnn1 : nn ≤ 1 := by rw [hnn]; split <;> omega
  have hnn0 : nn = 0 ∨ (nn = 1) := by omega
  have hjl : j ≤ l.length := by omega
  have HNN := Lib.hid hnn
  have HE := Lib.hid he
  have HJ := Lib.hid hj
  have HL := Lib.hid hlW
  have HM := Lib.hid hm
  have HC := Lib.hid hc
  have HW : Hid (W = w.alloc (.cells #[.int .i64 0, .bool false, .slice none 0 0, .slice none 0 0, .slice none 0 0, .string ⟨#[]⟩, .int .i64 0, .int .i64 0] 67)) := Lib.hid hW
  obtain ⟨b, off, rfl, hb, g0⟩ := lies_i64 hlW hi
  obtain ⟨x, hx⟩ : ∃ x, x = l.getD i (-1) := ⟨_, rfl⟩
  rw [← Tk.getD_in hi, ← hx] at g0
  rw [← hx] at HNN
  clear hl hlW hm hc hW hnn hk hf hj he hx hkl hnn0
  go_enter Tryz.func60, Tryz.ntmps60
  go_upto_region 1 with fail
  rw [← HW.out]
  go_upto_if 17 with fail
  go_cut [7] from 12 (fun x7 wx => x7 = .int .i64 ((i + nn : Nat) : Int) ∧ wx = W)
  case first =>
    by_cases h175 : x = 175
    · have q0 : (x == 175) = true := by rw [h175]; rfl
      have hn1 : nn = 1 := by rw [HNN.out, if_pos h175]
      clear h175
      go_wp2_with fail
      go_meet
      exact ⟨by rw [hn1]; go_num, rfl⟩
    · have q0 : (x == 175) = false := beq_eq_false_iff_ne.2 h175
      have hn1 : nn = 0 := by rw [HNN.out, if_neg h175]
      clear h175
      go_wp2_with fail
      go_meet
      exact ⟨by rw [hn1]; rfl, rfl⟩
  case rest =>
    obtain ⟨rfl, rfl⟩ := hcut
    rename World => W
    have DG0 := DG.out (i + nn) (by omega)
    have FD := F1.out 0 (by omega)
    rw [Nat.add_zero] at FD
    generalize hd0 : Tk.digit (l.getD (i + nn) (-1)) = d0 at DG0 FD
    have HDG0 := Lib.hid DG0
    clear DG0 hd0
    by_cases hk0 : k = 0
    · have hd : d0 = false := by rw [Bool.eq_false_iff]; intro h; have := FD.1 h; omega
      subst hd
      have HRE : Hid (Tk.read l i = (Tk.none_, 0, 1)) := Lib.hid (read_num_none HC.out (by rw [HNL.out, if_pos hk0]))
      clear FD
      go_wp2_with fail
      refine HDG0.out.mono ?_
      rintro e w' ⟨rfl, rfl⟩
      go_wp2_with (with_reducible refine wpList_store_row rfl 67 (.tmp 4) (.tmp 24) rfl w.heap.size #[.int .i64 0, .bool false, .slice none 0 0, .slice none 0 0, .slice none 0 0, .string ⟨#[]⟩, .int .i64 0, .int .i64 0] rfl rfl 67 #[.int .i64 0, .bool false, .slice none 0 0, .slice none 0 0, .slice none 0 0, .string ⟨#[]⟩, .int .i64 0, .int .i64 0] HGA.out (tok_infoR _ _ _ _ _ _ _ _) rfl (tok_one _ _ _ _ _ _ _ _ _ _ _ _ _ _) ?_)
      refine bodyPost_ret (results_cell_row_tmp2 (by rfl) _ _ w.heap.size 67 #[.int .i64 0, .bool false, .slice none 0 0, .slice none 0 0, .slice none 0 0, .string ⟨#[]⟩, .int .i64 0, .int .i64 0] (0, 0) _ _ _ (by rfl) (by rfl) (by rfl) (rheap_same HGA.out) Tryz.underlying67 rfl (tok_infoR _ _ _ _ _ _ _ _)) rfl (HR.out _ _ ?_)
      rw [HRE.out]
      exact ⟨_, _, _, rfl, isRes_nil _, isRes_nil _, World.ownsRow_nil _ _ _ _, rBelow.setRow hb0 (Nat.le_refl _) _⟩
    · have hd : d0 = true := FD.2 (by omega)
      subst hd
      rw [if_neg hk0] at HNL
      clear FD
      go_wp2_with fail
      refine HDG0.out.mono ?_
      rintro e w' ⟨rfl, rfl⟩
      go_wp2_with fail
      go_loop [7] (fun ev => ∃ m : Nat, i + nn ≤ m ∧ m ≤ j ∧ ev = .int .i64 (m : Int)) (fun ev => j - (intOf ev).toNat)
      case atStart => exact ⟨i + nn, Nat.le_refl _, by rw [HJ.out]; omega, rfl⟩
      case round =>
        obtain ⟨m, hm1, hm2, rfl⟩ := hrel
        have DG2 := DG.out m (by omega)
        have FD := F1.out (m - (i + nn)) (by rw [HJ.out] at hm2; omega)
        rw [show i + nn + (m - (i + nn)) = m by omega] at FD
        generalize Tk.digit (l.getD m (-1)) = d1 at *
        have HDG2 := Lib.hid DG2
        clear DG2
        have hjj := HJ.out
        by_cases hlt : m < j
        · have hd : d1 = true := FD.2 (by omega)
          subst hd
          clear FD hjj
          go_wp2_with fail
          refine HDG2.out.mono ?_
          rintro e w' ⟨rfl, rfl⟩
          go_wp2_with fail
          go_round
          case rel => exact ⟨m + 1, by omega, by omega, by go_num⟩
          case measure => simp [intOf]; omega
        · have hd : d1 = false := by rw [Bool.eq_false_iff]; intro h; have := FD.1 h; omega
          subst hd
          have hmj : j = m := by omega
          subst hmj
          clear FD hjj hm1 hm2 hlt
          go_wp2_with fail
          refine HDG2.out.mono ?_
          rintro e w' ⟨rfl, rfl⟩
          go_upto_region 8 with fail
          obtain ⟨y, hy⟩ : ∃ y, y = l.getD j (-1) := ⟨_, rfl⟩
          obtain ⟨bb, hbb⟩ : ∃ bb : Bool, bb = true ↔ ((y = 114 ∨ y = 46) ∧ 0 < f) := ⟨decide ((y = 114 ∨ y = 46) ∧ 0 < f), by simp⟩
          have HBB := Lib.hid hbb
          have HY := Lib.hid hy
          clear hbb hy
          go_cut [7, 53] from 54 (fun x7 x53 wx => x7 = .int .i64 (j : Int) ∧ x53 = .bool bb ∧ wx = W)
          case first =>
            have hj1 : ((j + 1 : Nat) : Int) = (j : Int) + 1 := by omega
            have DG2 := DG.out (j + 1) (by omega)
            have FD := F2.out 0 (by omega)
            rw [Nat.add_zero] at FD
            generalize Tk.digit (l.getD (j + 1) (-1)) = d2 at *
            rw [hj1] at DG2
            have HDG2 := Lib.hid DG2
            have HFD := Lib.hid FD
            clear DG2 FD hj1
            by_cases hlt : j < l.length
            · obtain ⟨b', off', e1, hb', g1⟩ := lies_i64 HL.out hlt
              injection e1 with e1
              injection e1 with e1 e2
              subst e1 e2
              rw [← Tk.getD_in hlt, ← HY.out] at g1
              by_cases y1 : y = 114
              · have q1 : (y == 114) = true := by rw [y1]; rfl
                have hd : bb = d2 := Bool.eq_iff_iff.2 (by rw [HBB.out, HFD.out]; exact ⟨fun h => h.2, fun h => ⟨.inl y1, h⟩⟩)
                clear y1
                go_wp2_with fail
                refine HDG2.out.mono ?_
                rintro e w' ⟨rfl, rfl⟩
                go_wp2_with fail
                go_meet
                exact ⟨rfl, by rw [hd], rfl⟩
              · have q1 : (y == 114) = false := beq_eq_false_iff_ne.2 y1
                by_cases y2 : y = 46
                · have q2 : (y == 46) = true := by rw [y2]; rfl
                  have hd : bb = d2 := Bool.eq_iff_iff.2 (by rw [HBB.out, HFD.out]; exact ⟨fun h => h.2, fun h => ⟨.inr y2, h⟩⟩)
                  clear y1 y2
                  go_wp2_with fail
                  refine HDG2.out.mono ?_
                  rintro e w' ⟨rfl, rfl⟩
                  go_wp2_with fail
                  go_meet
                  exact ⟨rfl, by rw [hd], rfl⟩
                · have q2 : (y == 46) = false := beq_eq_false_iff_ne.2 y2
                  have hd : bb = false := by rw [Bool.eq_false_iff]; intro h; exact (HBB.out.1 h).1.elim y1 y2
                  clear y1 y2
                  go_wp2_with fail
                  go_meet
                  exact ⟨rfl, by rw [hd], rfl⟩
            · have hy1 : y = -1 := by rw [HY.out, List.getD_eq_getElem?_getD, List.getElem?_eq_none (by omega)]; rfl
              have hd : bb = false := by rw [Bool.eq_false_iff]; intro h; rcases (HBB.out.1 h).1 with h | h <;> omega
              clear hy1
              go_wp2_with fail
              go_meet
              exact ⟨rfl, by rw [hd], rfl⟩
          case rest =>
            obtain ⟨rfl, rfl, rfl⟩ := hcut
            rename World => W
            rw [← HY.out] at HE
            have hel : j ≤ e ∧ e ≤ l.length := by
              rw [HE.out]; split <;> omega
            go_upto_if 53 with fail
            go_cut [7] from 12 (fun x7 wx => x7 = .int .i64 (e : Int) ∧ wx = W)
            case first =>
              cases bb
              · have hej : e = j := by rw [HE.out, if_neg (fun h => by cases HBB.out.2 h)]
                go_wp2_with fail
                go_meet
                exact ⟨by rw [hej], rfl⟩
              · have hej : e = j + 1 + f := by rw [HE.out, if_pos (HBB.out.1 rfl)]
                have HEJ := Lib.hid hej
                clear hej
                go_wp2_with fail
                go_loop [7] (fun ev => ∃ m : Nat, j + 1 ≤ m ∧ m ≤ e ∧ ev = .int .i64 (m : Int)) (fun ev => e - (intOf ev).toNat)
                case atStart => exact ⟨j + 1, Nat.le_refl _, by rw [HEJ.out]; omega, by go_num⟩
                case round =>
                  obtain ⟨m, hm1, hm2, rfl⟩ := hrel
                  have DG2 := DG.out m (by omega)
                  have hee := HEJ.out
                  have FD := F2.out (m - (j + 1)) (by omega)
                  rw [show j + 1 + (m - (j + 1)) = m by omega] at FD
                  generalize Tk.digit (l.getD m (-1)) = d1 at *
                  have HDG2 := Lib.hid DG2
                  clear DG2
                  by_cases hlt : m < e
                  · have hd : d1 = true := FD.2 (by omega)
                    subst hd
                    clear FD hee
                    go_wp2_with fail
                    refine HDG2.out.mono ?_
                    rintro e w' ⟨rfl, rfl⟩
                    go_wp2_with fail
                    go_round
                    case rel => exact ⟨m + 1, by omega, by omega, by go_num⟩
                    case measure => simp [intOf]; omega
                  · have hd : d1 = false := by rw [Bool.eq_false_iff]; intro h; have := FD.1 h; omega
                    subst hd
                    have hmj : e = m := by omega
                    clear FD hee hm1 hm2 hlt
                    go_wp2_with fail
                    refine HDG2.out.mono ?_
                    rintro e' w' ⟨rfl, rfl⟩
                    go_wp2_with fail
                    go_meet
                    exact ⟨by rw [hmj], rfl⟩
            case rest =>
              obtain ⟨rfl, rfl⟩ := hcut
              rename World => W
              have hdz : Tk.digit (l.getD e (-1)) = false := by
                rw [Bool.eq_false_iff]
                intro h
                cases hbe : bb
                · have hej : e = j := by rw [HE.out, if_neg (fun h => by have := HBB.out.2 h; rw [hbe] at this; cases this)]
                  have := F1.out k (Nat.le_refl _)
                  rw [← HJ.out, ← hej] at this
                  exact Nat.lt_irrefl _ (this.1 h)
                · have hej : e = j + 1 + f := by rw [HE.out, if_pos (HBB.out.1 hbe)]
                  have := F2.out f (Nat.le_refl _)
                  rw [← hej] at this
                  exact Nat.lt_irrefl _ (this.1 h)
              obtain ⟨z, hz⟩ : ∃ z, z = l.getD e (-1) := ⟨_, rfl⟩
              obtain ⟨b6, hb6⟩ : ∃ b6 : Bool, b6 = true ↔ (Tk.word z = true ∨ z = 175) := ⟨decide (Tk.word z = true ∨ z = 175), by simp⟩
              rw [← hz] at HNL hdz
              have LT2 := LT.out e (by omega)
              rw [← hz] at LT2
              have hw : (Tk.word z = true) ↔ ((Tk.cls z == 2) = true) := by unfold Tk.word; rw [hdz]; simp
              have hie : i ≤ e := by have := HJ.out; omega
              have HZ := Lib.hid hz
              have HB6 := Lib.hid hb6
              clear hz hb6 hdz LT DG F1 F2 HBB HY HE
              generalize (Tk.cls z == 2) = d3 at *
              have HWD := Lib.hid hw
              have HLT2 := Lib.hid LT2
              clear hw LT2
              go_upto_region 12 with fail
              go_cut [7, 76] from 77 (fun x7 x76 wx => x7 = .int .i64 (e : Int) ∧ x76 = .bool b6 ∧ wx = W)
              case first =>
                cases d3
                · by_cases hlt : e < l.length
                  · obtain ⟨b', off', e1, hb', g1⟩ := lies_i64 HL.out hlt
                    injection e1 with e1
                    injection e1 with e1 e2
                    subst e1 e2
                    rw [← Tk.getD_in hlt, ← HZ.out] at g1
                    by_cases z1 : z = 175
                    · have q1 : (z == 175) = true := by rw [z1]; rfl
                      have hd : b6 = true := HB6.out.2 (.inr z1)
                      clear z1
                      go_wp2_with fail
                      refine HLT2.out.mono ?_
                      rintro e' w' ⟨rfl, rfl⟩
                      go_wp2_with fail
                      go_meet
                      exact ⟨rfl, by rw [hd], rfl⟩
                    · have q1 : (z == 175) = false := beq_eq_false_iff_ne.2 z1
                      have hd : b6 = false := by rw [Bool.eq_false_iff]; intro h; exact (HB6.out.1 h).elim (fun h => by cases HWD.out.1 h) z1
                      clear z1
                      go_wp2_with fail
                      refine HLT2.out.mono ?_
                      rintro e' w' ⟨rfl, rfl⟩
                      go_wp2_with fail
                      go_meet
                      exact ⟨rfl, by rw [hd], rfl⟩
                  · have hz1 : z = -1 := by rw [HZ.out, List.getD_eq_getElem?_getD, List.getElem?_eq_none (by omega)]; rfl
                    have hd : b6 = false := by rw [Bool.eq_false_iff]; intro h; exact (HB6.out.1 h).elim (fun h => by cases HWD.out.1 h) (fun h => by omega)
                    clear hz1
                    go_wp2_with fail
                    refine HLT2.out.mono ?_
                    rintro e' w' ⟨rfl, rfl⟩
                    go_wp2_with fail
                    go_meet
                    exact ⟨rfl, by rw [hd], rfl⟩
                · have hd : b6 = true := HB6.out.2 (.inl (HWD.out.2 rfl))
                  go_wp2_with fail
                  refine HLT2.out.mono ?_
                  rintro e' w' ⟨rfl, rfl⟩
                  go_wp2_with fail
                  go_meet
                  exact ⟨rfl, by rw [hd], rfl⟩
              case rest =>
                obtain ⟨rfl, rfl, rfl⟩ := hcut
                rename World => W
                cases b6
                · rw [if_neg (fun h => by cases HB6.out.2 h)] at HNL
                  have HER := Lib.hid (read_num_err HC.out HNL.out)
                  have HOK := Lib.hid (read_num_ok HC.out HNL.out)
                  have HL2 : Hid (Lies W W.heap.size (some ⟨b, off + i, none⟩) (I64 ((l.drop i).take (e - i)))) := Lib.hid (lies_cut HL.out i (e - i) (by omega) _ (fun b' off' e => by injection e with e; injection e with e1 e2; subst e1 e2; rfl))
                  have EN := Lib.hid (fun (c' : Nat) => encode_any (some ⟨b, off + i, none⟩) c' ((l.drop i).take (e - i)) W HL2.out (by simp; omega) (fun y hy => HM.out y (List.mem_of_mem_drop (List.mem_of_mem_take hy))))
                  have hlen : ((l.drop i).take (e - i)).length = e - i := by simp; omega
                  have hsl := tk_enc_len ((l.drop i).take (e - i))
                  rw [hlen] at EN hsl
                  have PA := Lib.hid (fun wx => digParse_any (Tk.enc ((l.drop i).take (e - i))) wx (by omega))
                  have HEN : Hid (e = i + (e - i)) := Lib.hid (by omega)
                  clear hsl hlen HL2 HLT2 HWD HB6 HZ HNL
                  generalize Dg.parse (Tk.enc ((l.drop i).take (e - i))) = R at *
                  go_wp2_with fail
                  refine (EN.out _).mono ?_
                  rintro e' w3 ⟨rfl, hb3⟩
                  go_wp2_with fail
                  refine (PA.out w3).mono ?_
                  rintro e' w4 ⟨t, u, rfl, h1, h2, hb4⟩
                  obtain ⟨⟨rn, rt, rb⟩, re⟩ := R
                  simp only at h1 h2 HER HOK ⊢
                  have h1' := Lib.hid h1
                  have h2' := Lib.hid h2
                  obtain ⟨A1, c1, rfl, p1, p2, p3, p4⟩ := h1
                  obtain ⟨A2, c2, rfl, p5, p6, p7, p8⟩ := h2
                  clear p1 p2 p3 p4 p5 p6 p7 p8
                  have hb5 : Below W.heap.size W w4 := hb3.trans (hb4.mono hb3.size)
                  have HGN : Hid ((w4.alloc (.cells #[.bool false, .slice none 0 0, .slice none 0 0] 26)).heap[w4.heap.size]? = some (.cells #[.bool false, .slice none 0 0, .slice none 0 0] 26 (0, 0))) := Lib.hid (heap_alloc_new w4 _)
                  have HGN6 : Hid (((w4.alloc (.cells #[.bool false, .slice none 0 0, .slice none 0 0] 26)).setRow w4.heap.size #[.bool rn, .slice A1 rt.length c1, .slice A2 rb.length c2]).heap[w4.heap.size]? = some (.cells #[.bool rn, .slice A1 rt.length c1, .slice A2 rb.length c2] 26 (0, 0))) := Lib.hid (rheap_same HGN.out)
                  have hb6 : Below W.heap.size W ((w4.alloc (.cells #[.bool false, .slice none 0 0, .slice none 0 0] 26)).setRow w4.heap.size #[.bool rn, .slice A1 rt.length c1, .slice A2 rb.length c2]) := rBelow.setRow (hb5.alloc hb5.size _) hb5.size _
                  have HG6 : Hid (((w4.alloc (.cells #[.bool false, .slice none 0 0, .slice none 0 0] 26)).setRow w4.heap.size #[.bool rn, .slice A1 rt.length c1, .slice A2 rb.length c2]).heap[w.heap.size]? = some (.cells #[.int .i64 0, .bool false, .slice none 0 0, .slice none 0 0, .slice none 0 0, .string ⟨#[]⟩, .int .i64 0, .int .i64 0] 67 (0, 0))) := Lib.hid ((hb6.block w.heap.size (by rw [HWS.out]; omega)).trans HGA.out)
                  have R1 : Hid (IsRes (((w4.alloc (.cells #[.bool false, .slice none 0 0, .slice none 0 0] 26)).setRow w4.heap.size #[.bool rn, .slice A1 rt.length c1, .slice A2 rb.length c2])) (.slice A1 rt.length c1) rt) := Lib.hid ((h1'.out.below ((Below.refl _ _).alloc (Nat.le_refl _) _)).setRowU HGN.out num_noU _)
                  have R2 : Hid (IsRes (((w4.alloc (.cells #[.bool false, .slice none 0 0, .slice none 0 0] 26)).setRow w4.heap.size #[.bool rn, .slice A1 rt.length c1, .slice A2 rb.length c2])) (.slice A2 rb.length c2) rb) := Lib.hid ((h2'.out.below ((Below.refl _ _).alloc (Nat.le_refl _) _)).setRowU HGN.out num_noU _)
                  have HB6' := Lib.hid hb6
                  clear hb3 hb4 hb5 hb6 h1' h2' PA EN
                  by_cases hre : re = 0
                  · subst hre
                    have HRE : Hid (Tk.read l i = (⟨0, ⟨rn, rt, rb⟩, [], [], 0, i⟩, e - i, 0)) := Lib.hid (HOK.out rfl)
                    go_wp2_with (first | (with_reducible refine wpList_store_row rfl 26 (.tmp 10) (.tmp 89) rfl w4.heap.size #[.bool rn, .slice A1 rt.length c1, .slice A2 rb.length c2] rfl rfl 26 #[.bool false, .slice none 0 0, .slice none 0 0] HGN.out (num_infoR _ _ _) rfl (three_one _ _ _ _ _ _ _) ?_) | (with_reducible refine wpList_load_row rfl 26 (.tmp 10) rfl w4.heap.size rfl 26 #[.bool rn, .slice A1 rt.length c1, .slice A2 rb.length c2] (0, 0) _ HGN6.out Tryz.underlying26 rfl (num_infoR _ _ _) ?_) | (with_reducible refine wpList_store_row rfl 67 (.tmp 4) (.tmp 96) rfl w.heap.size #[.int .i64 0, .bool rn, .slice A1 rt.length c1, .slice A2 rb.length c2, .slice none 0 0, .string ⟨#[]⟩, .int .i64 0, .int .i64 0] rfl rfl 67 #[.int .i64 0, .bool false, .slice none 0 0, .slice none 0 0, .slice none 0 0, .string ⟨#[]⟩, .int .i64 0, .int .i64 0] HG6.out (tok_infoR _ _ _ _ _ _ _ _) rfl (tok_one _ _ _ _ _ _ _ _ _ _ _ _ _ _) ?_))
                    refine bodyPost_ret (results_cell_row_tmp2 (by rfl) _ _ w.heap.size 67 #[.int .i64 0, .bool rn, .slice A1 rt.length c1, .slice A2 rb.length c2, .slice none 0 0, .string ⟨#[]⟩, .int .i64 0, .int .i64 0] (0, 0) _ _ _ (by rfl) (by rfl) (by rfl) (rheap_same HG6.out) Tryz.underlying67 rfl (tok_infoR _ _ _ _ _ _ _ _)) rfl (HR.out _ _ ?_)
                    rw [HRE.out]
                    show TokOut w _ (i + (e - i)) 0 _ _
                    rw [← HEN.out]
                    exact ⟨_, _, _, rfl, R1.out.setRowU HG6.out tok_noU _, R2.out.setRowU HG6.out tok_noU _, World.ownsRow_nil _ _ _ _, rBelow.setRow (hb0.trans (HB6'.out.mono (by rw [HWS.out]; omega))) (Nat.le_refl _) _⟩
                  · have HRE : Hid (Tk.read l i = (Tk.none_, 0, re)) := Lib.hid (HER.out hre)
                    have HRE0 := Lib.hid hre
                    have q1 : (re == 0) = false := beq_eq_false_iff_ne.2 hre
                    have q2 : (re != 0) = true := by rw [bne, q1]; rfl
                    clear hre
                    go_wp2_with (first | (with_reducible refine wpList_store_row rfl 26 (.tmp 10) (.tmp 89) rfl w4.heap.size #[.bool rn, .slice A1 rt.length c1, .slice A2 rb.length c2] rfl rfl 26 #[.bool false, .slice none 0 0, .slice none 0 0] HGN.out (num_infoR _ _ _) rfl (three_one _ _ _ _ _ _ _) ?_) | (with_reducible refine wpList_store_row rfl 67 (.tmp 4) (.tmp 93) rfl w.heap.size #[.int .i64 0, .bool false, .slice none 0 0, .slice none 0 0, .slice none 0 0, .string ⟨#[]⟩, .int .i64 0, .int .i64 0] rfl rfl 67 #[.int .i64 0, .bool false, .slice none 0 0, .slice none 0 0, .slice none 0 0, .string ⟨#[]⟩, .int .i64 0, .int .i64 0] HG6.out (tok_infoR _ _ _ _ _ _ _ _) rfl (tok_one _ _ _ _ _ _ _ _ _ _ _ _ _ _) ?_))
                    refine bodyPost_ret (results_cell_row_tmp2 (by rfl) _ _ w.heap.size 67 #[.int .i64 0, .bool false, .slice none 0 0, .slice none 0 0, .slice none 0 0, .string ⟨#[]⟩, .int .i64 0, .int .i64 0] (0, 0) _ _ _ (by rfl) (by rfl) (by rfl) (rheap_same HG6.out) Tryz.underlying67 rfl (tok_infoR _ _ _ _ _ _ _ _)) rfl (HR.out _ _ ?_)
                    rw [HRE.out]
                    show TokOut w _ (if re = 0 then _ else 0) _ _ _
                    rw [if_neg HRE0.out]
                    exact ⟨_, _, _, rfl, isRes_nil _, isRes_nil _, World.ownsRow_nil _ _ _ _, rBelow.setRow (hb0.trans (HB6'.out.mono (by rw [HWS.out]; omega))) (Nat.le_refl _) _⟩
                · have HRE : Hid (Tk.read l i = (Tk.none_, 0, 1)) := Lib.hid (read_num_none HC.out (by rw [HNL.out, if_pos (HB6.out.1 rfl)]))
                  go_wp2_with (with_reducible refine wpList_store_row rfl 67 (.tmp 4) (.tmp 77) rfl w.heap.size #[.int .i64 0, .bool false, .slice none 0 0, .slice none 0 0, .slice none 0 0, .string ⟨#[]⟩, .int .i64 0, .int .i64 0] rfl rfl 67 #[.int .i64 0, .bool false, .slice none 0 0, .slice none 0 0, .slice none 0 0, .string ⟨#[]⟩, .int .i64 0, .int .i64 0] HGA.out (tok_infoR _ _ _ _ _ _ _ _) rfl (tok_one _ _ _ _ _ _ _ _ _ _ _ _ _ _) ?_)
                  refine bodyPost_ret (results_cell_row_tmp2 (by rfl) _ _ w.heap.size 67 #[.int .i64 0, .bool false, .slice none 0 0, .slice none 0 0, .slice none 0 0, .string ⟨#[]⟩, .int .i64 0, .int .i64 0] (0, 0) _ _ _ (by rfl) (by rfl) (by rfl) (rheap_same HGA.out) Tryz.underlying67 rfl (tok_infoR _ _ _ _ _ _ _ _)) rfl (HR.out _ _ ?_)
                  rw [HRE.out]
                  exact ⟨_, _, _, rfl, isRes_nil _, isRes_nil _, World.ownsRow_nil _ _ _ _, rBelow.setRow hb0 (Nat.le_refl _) _⟩
end Go.Proofs.YtfiefglagknclaaGreatDoor

/-
  token.text: the text that begins at a place.
-/
namespace Go.Proofs.YtfiefglagknclaaGreatDoor
open Go.RowKit
set_option maxHeartbeats 4000000
set_option maxRecDepth 100000
set_option linter.unusedVariables false

theorem read_text_none {l : List Int} {i : Nat} (hc : l.getD i (-1) = 39) (h : Tk.quote l (l.length + 1) (i + 1) [] = none) : Tk.read l i = (Tk.none_, 0, 1) := by
  unfold Tk.read
  simp only
  rw [if_neg (by rw [hc]; decide), if_neg (by rw [hc]; decide), if_pos hc, h]
theorem read_text_some {l : List Int} {i e : Nat} {t : List Int} (hc : l.getD i (-1) = 39) (h : Tk.quote l (l.length + 1) (i + 1) [] = some (t, e)) : Tk.read l i = (⟨1, Rt.none_, t, [], 0, i⟩, e - i, 0) := by
  unfold Tk.read
  simp only
  rw [if_neg (by rw [hc]; decide), if_neg (by rw [hc]; decide), if_pos hc, h]
theorem quote_end {l : List Int} {f k : Nat} {out : List Int} (h : l.length ≤ k) : Tk.quote l f k out = none := by
  cases f with
  | zero => rfl
  | succ f => unfold Tk.quote; rw [if_pos h]
theorem quote_on {l : List Int} {f k : Nat} {out : List Int} (h : k < l.length) (h2 : l.getD k (-1) ≠ 39) : Tk.quote l (f + 1) k out = Tk.quote l f (k + 1) (out ++ [l.getD k (-1)]) := by
  rw [Tk.quote, if_neg (by omega), if_pos h2]
theorem quote_stop {l : List Int} {f k : Nat} {out : List Int} (h : k < l.length) (h2 : l.getD k (-1) = 39) (h3 : l.getD (k + 1) (-1) ≠ 39) : Tk.quote l (f + 1) k out = some (out, k + 1) := by
  rw [Tk.quote, if_neg (by omega), if_neg (fun n => n h2), if_pos h3]
theorem quote_two {l : List Int} {f k : Nat} {out : List Int} (h : k < l.length) (h2 : l.getD k (-1) = 39) (h3 : l.getD (k + 1) (-1) = 39) : Tk.quote l (f + 1) k out = Tk.quote l f (k + 2) (out ++ [39]) := by
  rw [Tk.quote, if_neg (by omega), if_neg (fun n => n h2), if_neg (fun n => n h3)]

theorem own_setRow {w : World} {base : Nat} {e : TypeId} {size n : Nat} {v : Value} {xs : List Value} (h : w.ownsRow base e size v n xs) {g' : Nat} (hg : g' < base) (cs : Array Value) : (w.setRow g' cs).ownsRow base e size v n xs := by
  obtain ⟨h1, h2⟩ := h
  refine ⟨h1, ?_⟩
  rcases h2 with h2 | ⟨g, cap, cur, hv, hb, hh, r⟩
  · exact .inl h2
  · exact .inr ⟨g, cap, cur, hv, hb, by rw [← hh]; simp only [World.setRow, Array.getElem?_modify]; rw [if_neg (by omega)], r⟩

theorem own_below_ {w w' : World} {base : Nat} {e : TypeId} {size n : Nat} {v : Value} {xs : List Value} (h : w.ownsRow base e size v n xs) (hb : Below w.heap.size w w') : w'.ownsRow base e size v n xs := by
  obtain ⟨h1, h2⟩ := h
  refine ⟨h1, ?_⟩
  rcases h2 with h2 | ⟨g, cap, cur, hv, hbs, hh, r⟩
  · exact .inl h2
  · have hg : g < w.heap.size := by
      rcases Nat.lt_or_ge g w.heap.size with h | h
      · exact h
      · rw [Array.getElem?_eq_none h] at hh; cases hh
    exact .inr ⟨g, cap, cur, hv, hbs, (hb.block g hg).trans hh, r⟩

theorem own_setCell {w : World} {base : Nat} {e : TypeId} {size n : Nat} {v : Value} {xs : List Value} (h : w.ownsRow base e size v n xs) {a : Addr} (hg : a.block < base) (u : Value) : (w.setCell a u).ownsRow base e size v n xs := by
  obtain ⟨h1, h2⟩ := h
  refine ⟨h1, ?_⟩
  rcases h2 with h2 | ⟨g, cap, cur, hv, hb, hh, r⟩
  · exact .inl h2
  · exact .inr ⟨g, cap, cur, hv, hb, (Below.heap_setCell w a u g (by omega)).trans hh, r⟩

/-- Where the loop stands: what it has, and what is left to tell. -/
structure TextAt (l : List Int) (i : Nat) (W wr : World) (m : Nat) (out : List Int) (lv : Value) : Prop where
  lo : i + 1 ≤ m
  hi : m ≤ l.length
  blk : wr.heap[W.heap.size]? = some (.cells #[.int .i64 1, .bool false, .slice none 0 0, .slice none 0 0, lv, .string ⟨#[]⟩, .int .i64 0, .int .i64 0] 67 (0, 0))
  own : wr.ownsRow (W.heap.size + 1) 3 1 lv out.length (I64 out)
  below : Below W.heap.size W wr
  more : W.heap.size + 1 ≤ wr.heap.size
  len : out.length + (i + 1) ≤ m
  told : ∃ f, l.length + 1 ≤ f + m ∧ Tk.quote l (l.length + 1) (i + 1) [] = Tk.quote l f m out

theorem fill_one (x : Int) : Instr.fill (fun i => some (i * 1, 1)) ((Array.range (1 * 1)).map fun k => (Value.int IntKind.i64 0).cells[k % (Value.int IntKind.i64 0).cells.size]!) [(0, Value.int IntKind.i64 x)] = some #[Value.int IntKind.i64 x] := by kernel_rfl
def frameTx (V0 vi p4 p7 v8 : Value) (u xs : Nat → Value) : Act := { tmps := #[V0, vi, undef, undef, p4, u 5, u 6, p7, v8, u 9, u 10, u 11, u 12, u 13, u 14, u 15, u 16, u 17, u 18, u 19, u 20, u 21, u 22, u 23, u 24, u 25, u 26, u 27, u 28, u 29, u 30, u 31, u 32, u 33, u 34, u 35, u 36, u 37, u 38, u 39, u 40, xs 0, xs 1, xs 2, xs 3, xs 4, xs 5, xs 6, u 48, u 49, u 50], defers := [] }
def predTx (V0 : Value) (g1 b o : Nat) (m x : Int) (lv : Value) : Nat → World → Value → Prop
  | 0, w, v => v = .pointer (some ⟨g1, 4, none⟩)
  | 1, w, v => v = lv
  | 2, w, v => v = V0
  | 3, w, v => v = .int .i64 m
  | 4, w, v => v = .pointer (some ⟨b, o, none⟩)
  | 5, w, v => v = .int .i64 x
  | _, w, v => ∃ g, v = .slice (some ⟨g, 0, none⟩) 1 1 ∧ w.heap[g]? = some (.cells #[.int .i64 x] 3 (0, 0))

theorem tokText_any (A : Option Addr) (c : Nat) (l : List Int) (i : Nat) (w : World) (hl : Lies w w.heap.size A (I64 l)) (hn : l.length ≤ 25000) (hcap : l.length ≤ c) (hi : i < l.length) (hc : l.getD i (-1) = 39) :
    Calls Tryz.prog 62 #[.slice A l.length c, .int .i64 (i : Int)] w (ReadOut w l i) := by
  have HR : Hid (∀ e w', TokOut w (Tk.read l i).1 (if (Tk.read l i).2.2 = 0 then i + (Tk.read l i).2.1 else 0) (Tk.read l i).2.2 e w' → ReadOut w l i e w') := Lib.hid (fun e w' h => h)
  obtain ⟨W, hW⟩ : ∃ W, W = w.alloc (.cells #[.int .i64 0, .bool false, .slice none 0 0, .slice none 0 0, .slice none 0 0, .string ⟨#[]⟩, .int .i64 0, .int .i64 0] 67) := ⟨_, rfl⟩
  have hb0 : Below w.heap.size w W := by rw [hW]; exact (Below.refl _ _).alloc (Nat.le_refl _) _
  have HGA : Hid (W.heap[w.heap.size]? = some (.cells #[.int .i64 0, .bool false, .slice none 0 0, .slice none 0 0, .slice none 0 0, .string ⟨#[]⟩, .int .i64 0, .int .i64 0] 67 (0, 0))) := Lib.hid (by rw [hW]; exact heap_alloc_new w _)
  have HWS : Hid (W.heap.size = w.heap.size + 1) := Lib.hid (by rw [hW]; simp)
  have hlW : Lies W W.heap.size A (I64 l) := (hl.below hb0).more hb0.size
  obtain ⟨W2, hW2⟩ : ∃ W2, W2 = W.alloc (.cells #[.int .i64 1, .bool false, .slice none 0 0, .slice none 0 0, .slice none 0 0, .string ⟨#[]⟩, .int .i64 0, .int .i64 0] 67) := ⟨_, rfl⟩
  have H0 : Hid (TextAt l i W W2 (i + 1) [] (.slice none 0 0)) := Lib.hid
    { lo := Nat.le_refl _
      hi := hi
      blk := by rw [hW2]; exact heap_alloc_new W _
      own := World.ownsRow_nil _ _ _ _
      below := by rw [hW2]; exact (Below.refl _ _).alloc (Nat.le_refl _) _
      more := by rw [hW2]; simp
      len := by simp
      told := ⟨l.length + 1, by omega, rfl⟩ }
  have HL := Lib.hid hlW
  have HC := Lib.hid hc
  have HW : Hid (W = w.alloc (.cells #[.int .i64 0, .bool false, .slice none 0 0, .slice none 0 0, .slice none 0 0, .string ⟨#[]⟩, .int .i64 0, .int .i64 0] 67)) := Lib.hid hW
  have HW2 : Hid (W2 = W.alloc (.cells #[.int .i64 1, .bool false, .slice none 0 0, .slice none 0 0, .slice none 0 0, .string ⟨#[]⟩, .int .i64 0, .int .i64 0] 67)) := Lib.hid hW2
  obtain ⟨b, off, rfl, hb, g0⟩ := lies_i64 hlW hi
  clear hl hlW hc hW hW2 g0
  go_enter Tryz.func62, Tryz.ntmps62
  go_upto_region 1 with fail
  rw [← HW.out]
  go_upto_region 2 with fail
  rw [← HW2.out]
  go_wp2_with fail
  go_loopw [8] (fun iv wr => ∃ (m : Nat) (out : List Int) (lv : Value), iv = .int .i64 (m : Int) ∧ Hid (TextAt l i W wr m out lv)) (fun iv _ => l.length - (intOf iv).toNat)
  case atStart => exact ⟨i + 1, [], _, by go_num, H0⟩
  case round =>
    clear H0 HW HW2
    obtain ⟨m, out, lv, rfl, HT⟩ := hrel
    have hm1 := HT.out.lo
    have hm2 := HT.out.hi
    have HGR : Hid (wr.heap[w.heap.size]? = some (.cells #[.int .i64 0, .bool false, .slice none 0 0, .slice none 0 0, .slice none 0 0, .string ⟨#[]⟩, .int .i64 0, .int .i64 0] 67 (0, 0))) := Lib.hid ((HT.out.below.block w.heap.size (by rw [HWS.out]; omega)).trans HGA.out)
    obtain ⟨AL, cL, rfl, hL1, hL2⟩ := own_slice HT.out.own
    have HBK := Lib.hid HT.out.blk
    by_cases hlt : m < l.length
    · have hbl := HT.out.below
      obtain ⟨b', off', e1, hb', g1⟩ := lies_i64 (HL.out.below hbl) hlt
      injection e1 with e1
      injection e1 with e1 e2
      subst e1 e2
      obtain ⟨y, hy⟩ : ∃ y, y = l.getD m (-1) := ⟨_, rfl⟩
      rw [← Tk.getD_in hlt, ← hy] at g1
      have HY := Lib.hid hy
      clear hy hL1 hL2
      go_upto_if 22 with fail
      go_cut [8] from 12 to 49 (fun x8 wx => wx = wr ∧ ∃ m' : Nat, x8 = .int .i64 (m' : Int) ∧ m' < l.length ∧ m ≤ m' ∧ Hid (∃ f, l.length + 1 ≤ f + (m' + 1) ∧ Tk.quote l (l.length + 1) (i + 1) [] = Tk.quote l f (m' + 1) (out ++ [l.getD m' (-1)])))
      case first =>
        by_cases y1 : y = 39
        · have q1 : (y == 39) = true := by rw [y1]; rfl
          by_cases hend : m + 1 = l.length
          · have q2 : ((m : Int) + 1 == (l.length : Int)) = true := by rw [beq_iff_eq]; omega
            have HRE : Hid (Tk.read l i = (⟨1, Rt.none_, out, [], 0, i⟩, m + 1 - i, 0)) := Lib.hid (read_text_some HC.out (by obtain ⟨f, hf, hq⟩ := HT.out.told; obtain ⟨f, rfl⟩ : ∃ f', f = f' + 1 := ⟨f - 1, by omega⟩; rw [hq, quote_stop hlt (by rw [← HY.out]; exact y1) (by rw [List.getD_eq_getElem?_getD, List.getElem?_eq_none (by omega)]; simp)]))
            clear y1 hbl hb' hend
            go_wp2_with (first | (with_reducible refine wpList_load_row rfl 67 (.tmp 7) rfl W.heap.size rfl 67 #[.int .i64 1, .bool false, .slice none 0 0, .slice none 0 0, .slice AL out.length cL, .string ⟨#[]⟩, .int .i64 0, .int .i64 0] (0, 0) _ HBK.out Tryz.underlying67 rfl (tok_infoR _ _ _ _ _ _ _ _) ?_) | (with_reducible refine wpList_store_row rfl 67 (.tmp 4) (.tmp 36) rfl w.heap.size #[.int .i64 1, .bool false, .slice none 0 0, .slice none 0 0, .slice AL out.length cL, .string ⟨#[]⟩, .int .i64 0, .int .i64 0] rfl rfl 67 #[.int .i64 0, .bool false, .slice none 0 0, .slice none 0 0, .slice none 0 0, .string ⟨#[]⟩, .int .i64 0, .int .i64 0] HGR.out (tok_infoR _ _ _ _ _ _ _ _) rfl (tok_one _ _ _ _ _ _ _ _ _ _ _ _ _ _) ?_))
            refine bodyPost_ret (results_cell_row_tmp2 (by rfl) _ _ w.heap.size 67 #[.int .i64 1, .bool false, .slice none 0 0, .slice none 0 0, .slice AL out.length cL, .string ⟨#[]⟩, .int .i64 0, .int .i64 0] (0, 0) _ _ _ (by rfl) (by rfl) (by rfl) (rheap_same HGR.out) Tryz.underlying67 rfl (tok_infoR _ _ _ _ _ _ _ _)) rfl (HR.out _ _ ?_)
            rw [HRE.out]
            show TokOut w _ (i + (m + 1 - i)) 0 _ _
            rw [show i + (m + 1 - i) = m + 1 by omega]
            exact ⟨_, _, _, rfl, isRes_nil _, isRes_nil _, (own_setRow HT.out.own (by rw [HWS.out]; omega) _).mono_ (Nat.zero_le _), rBelow.setRow (hb0.trans (HT.out.below.mono (by rw [HWS.out]; omega))) (Nat.le_refl _) _⟩
          · have q2 : ((m : Int) + 1 == (l.length : Int)) = false := beq_eq_false_iff_ne.2 (by omega)
            have hlt2 : m + 1 < l.length := by omega
            obtain ⟨b', off', e1, hb2, g2⟩ := lies_i64 (HL.out.below hbl) hlt2
            injection e1 with e1
            injection e1 with e1 e2
            subst e1 e2
            obtain ⟨z, hz⟩ : ∃ z, z = l.getD (m + 1) (-1) := ⟨_, rfl⟩
            rw [← Tk.getD_in hlt2, ← hz] at g2
            have HZ := Lib.hid hz
            clear hz
            by_cases z1 : z = 39
            · have q3 : (z == 39) = true := by rw [z1]; rfl
              have q4 : (z != 39) = false := by rw [bne, q3]; rfl
              have HQ : Hid (∃ f, l.length + 1 ≤ f + (m + 1 + 1) ∧ Tk.quote l (l.length + 1) (i + 1) [] = Tk.quote l f (m + 1 + 1) (out ++ [l.getD (m + 1) (-1)])) := Lib.hid (by
                obtain ⟨f, hf, hq⟩ := HT.out.told
                obtain ⟨f, rfl⟩ : ∃ f', f = f' + 1 := ⟨f - 1, by omega⟩
                exact ⟨f, by omega, by rw [hq, quote_two hlt (by rw [← HY.out]; exact y1) (by rw [← HZ.out]; exact z1), ← HZ.out, z1]⟩)
              clear y1 z1 hbl hb' hb2 hend
              go_wp2_with fail
              go_meet
              exact ⟨rfl, m + 1, by go_num, hlt2, by omega, HQ⟩
            · have q3 : (z == 39) = false := beq_eq_false_iff_ne.2 z1
              have q4 : (z != 39) = true := by rw [bne, q3]; rfl
              have HRE : Hid (Tk.read l i = (⟨1, Rt.none_, out, [], 0, i⟩, m + 1 - i, 0)) := Lib.hid (read_text_some HC.out (by obtain ⟨f, hf, hq⟩ := HT.out.told; obtain ⟨f, rfl⟩ : ∃ f', f = f' + 1 := ⟨f - 1, by omega⟩; rw [hq, quote_stop hlt (by rw [← HY.out]; exact y1) (by rw [← HZ.out]; exact z1)]))
              clear y1 z1 hbl hb' hb2 hend
              go_wp2_with (first | (with_reducible refine wpList_load_row rfl 67 (.tmp 7) rfl W.heap.size rfl 67 #[.int .i64 1, .bool false, .slice none 0 0, .slice none 0 0, .slice AL out.length cL, .string ⟨#[]⟩, .int .i64 0, .int .i64 0] (0, 0) _ HBK.out Tryz.underlying67 rfl (tok_infoR _ _ _ _ _ _ _ _) ?_) | (with_reducible refine wpList_store_row rfl 67 (.tmp 4) (.tmp 36) rfl w.heap.size #[.int .i64 1, .bool false, .slice none 0 0, .slice none 0 0, .slice AL out.length cL, .string ⟨#[]⟩, .int .i64 0, .int .i64 0] rfl rfl 67 #[.int .i64 0, .bool false, .slice none 0 0, .slice none 0 0, .slice none 0 0, .string ⟨#[]⟩, .int .i64 0, .int .i64 0] HGR.out (tok_infoR _ _ _ _ _ _ _ _) rfl (tok_one _ _ _ _ _ _ _ _ _ _ _ _ _ _) ?_))
              refine bodyPost_ret (results_cell_row_tmp2 (by rfl) _ _ w.heap.size 67 #[.int .i64 1, .bool false, .slice none 0 0, .slice none 0 0, .slice AL out.length cL, .string ⟨#[]⟩, .int .i64 0, .int .i64 0] (0, 0) _ _ _ (by rfl) (by rfl) (by rfl) (rheap_same HGR.out) Tryz.underlying67 rfl (tok_infoR _ _ _ _ _ _ _ _)) rfl (HR.out _ _ ?_)
              rw [HRE.out]
              show TokOut w _ (i + (m + 1 - i)) 0 _ _
              rw [show i + (m + 1 - i) = m + 1 by omega]
              exact ⟨_, _, _, rfl, isRes_nil _, isRes_nil _, (own_setRow HT.out.own (by rw [HWS.out]; omega) _).mono_ (Nat.zero_le _), rBelow.setRow (hb0.trans (HT.out.below.mono (by rw [HWS.out]; omega))) (Nat.le_refl _) _⟩
        · have q1 : (y == 39) = false := beq_eq_false_iff_ne.2 y1
          have HQ : Hid (∃ f, l.length + 1 ≤ f + (m + 1) ∧ Tk.quote l (l.length + 1) (i + 1) [] = Tk.quote l f (m + 1) (out ++ [l.getD m (-1)])) := Lib.hid (by
            obtain ⟨f, hf, hq⟩ := HT.out.told
            obtain ⟨f, rfl⟩ : ∃ f', f = f' + 1 := ⟨f - 1, by omega⟩
            exact ⟨f, by omega, by rw [hq, quote_on hlt (by rw [← HY.out]; exact y1)]⟩)
          clear y1 hbl hb'
          go_wp2_with fail
          go_meet
          exact ⟨rfl, m, rfl, hlt, Nat.le_refl _, HQ⟩
      case rest =>
        obtain ⟨hwx, m', rfl, hm3, hm4, HQ⟩ := hcut
        rw [hwx]
        clear hwx
        obtain ⟨b', off', e1, hb2, g2⟩ := lies_i64 (HL.out.below hbl) hm3
        injection e1 with e1
        injection e1 with e1 e2
        subst e1 e2
        obtain ⟨x, hx⟩ : ∃ x, x = l.getD m' (-1) := ⟨_, rfl⟩
        rw [← Tk.getD_in hm3, ← hx] at g2
        have HX := Lib.hid hx
        have hgl : W.heap.size < wr.heap.size := by have := HT.out.more; omega
        have hc4 : wr.cell? ⟨W.heap.size, 4, none⟩ = some (.slice AL out.length cL) := (cell_of_row wr W.heap.size 4 _ _ _ HT.out.blk).trans rfl
        have HQ1 : Hid (∀ w1, Below wr.heap.size wr w1 → w1.cell? ⟨W.heap.size, 4, none⟩ = some (.slice AL out.length cL)) := Lib.hid (fun w1 h => (h.cell hgl).trans hc4)
        have hbw : b < wr.heap.size := by omega
        have HQ2 : Hid (∀ w1, Below wr.heap.size wr w1 → w1.cell? ⟨b, off + m', none⟩ = some (.int .i64 x)) := Lib.hid (fun w1 h => (h.cell hbw).trans g2)
        clear hx hc4 g1 g2 hbl hb' hb2
        go_upto_region 9 with fail
        refine wp_region_tail (frameTx (.slice (some ⟨b, off, none⟩) l.length c) (.int .i64 (i : Int)) (.pointer (some ⟨w.heap.size, 0, none⟩)) (.pointer (some ⟨W.heap.size, 0, none⟩)) (.int .i64 (m' : Int)) (fun k => [undef, undef, undef, undef, undef, u5, u6, undef, undef, .agg #[.int .i64 1, .bool false, .slice none 0 0, .slice none 0 0, .slice none 0 0, .string ⟨#[]⟩, .int .i64 0, .int .i64 0], .int .i64 (i : Int), .int .i64 ((i : Int) + 1), u12, u13, u14, u15, u16, u17, u18, u19, u20, u21, u22, u23, u24, u25, u26, u27, u28, u29, u30, u31, u32, u33, u34, u35, u36, u37, u38, u39, u40, u41, u42, u43, u44, u45, u46, u47, u48, u49, undef].getD k undef)) wr (predTx (.slice (some ⟨b, off, none⟩) l.length c) W.heap.size b (off + m') (m' : Int) x (.slice AL out.length cL)) 7 (by kernel_rfl) (by decide) ?_ (by kernel_rfl) 5 (by kernel_rfl) (fun k => [u41, u42, u43, u44, u45, u46, u47].getD k undef) rfl (Below.refl _ _) ?_ ?_
        · intro i w1 w2 v hv hb
          match i with
          | 0 => exact hv
          | 1 => exact hv
          | 2 => exact hv
          | 3 => exact hv
          | 4 => exact hv
          | 5 => exact hv
          | i + 6 => exact (by
              obtain ⟨g, e, r⟩ := hv
              have hg : g < w1.heap.size := by
                rcases Nat.lt_or_ge g w1.heap.size with h | h
                · exact h
                · rw [Array.getElem?_eq_none h] at r; cases r
              exact ⟨g, e, (hb.block g hg).trans r⟩)
        · intro k xs w1 hk hb hdep
          rcases (show k = 0 ∨ k = 1 ∨ k = 2 ∨ k = 3 ∨ k = 4 ∨ k = 5 ∨ k = 6 by omega) with rfl | rfl | rfl | rfl | rfl | rfl | rfl
          · refine wpOp_at rfl rfl ?_
            unfold frameTx Oper.wp
            go_simp
            exact ⟨_, by simp only [frameTx, upd]; simp [Act.put], rfl, Below.refl _ _⟩
          · have h0 : xs 0 = .pointer (some ⟨W.heap.size, 4, none⟩) := hdep 0 (by kernel_rfl)
            have hq := HQ1.out w1 hb
            refine wpOp_at rfl rfl ?_
            unfold frameTx Oper.wp
            simp only [h0]
            go_simp
            exact ⟨_, by simp only [frameTx, upd]; simp [Act.put, h0], rfl, Below.refl _ _⟩
          · refine wpOp_at rfl rfl ?_
            unfold frameTx Oper.wp
            go_simp
            exact ⟨_, by simp only [frameTx, upd]; simp [Act.put], rfl, Below.refl _ _⟩
          · refine wpOp_at rfl rfl ?_
            unfold frameTx Oper.wp
            go_simp
            exact ⟨_, by simp only [frameTx, upd]; simp [Act.put], rfl, Below.refl _ _⟩
          · have h2 : xs 2 = (.slice (some ⟨b, off, none⟩) l.length c) := hdep 2 (by kernel_rfl)
            have h3 : xs 3 = .int .i64 (m' : Int) := hdep 3 (by kernel_rfl)
            refine wpOp_at rfl rfl ?_
            unfold frameTx Oper.wp
            simp only [h2, h3]
            go_simp
            exact ⟨_, by simp only [frameTx, upd]; simp [Act.put, h2, h3], rfl, Below.refl _ _⟩
          · have h4 : xs 4 = .pointer (some ⟨b, off + m', none⟩) := hdep 4 (by kernel_rfl)
            have hq := HQ2.out w1 hb
            refine wpOp_at rfl rfl ?_
            unfold frameTx Oper.wp
            simp only [h4]
            go_simp
            exact ⟨_, by simp only [frameTx, upd]; simp [Act.put, h4], rfl, Below.refl _ _⟩
          · have h5 : xs 5 = .int .i64 x := hdep 5 (by kernel_rfl)
            obtain ⟨i0, hi0, hz0, hz1, hz2⟩ := info_parts i64_info
            refine wpOp_at rfl rfl ?_
            refine wp_buildSlice 62 3 1 #[(0, .tmp 46)] rfl #[.int .i64 x] i0 (.int .i64 0) Tryz.underlying62 hi0 hz0 (by rw [hz1]; decide) (by rw [hz1]; decide) (by
              rw [hz1]
              have h5' : (frameTx (.slice (some ⟨b, off, none⟩) l.length c) (.int .i64 (i : Int)) (.pointer (some ⟨w.heap.size, 0, none⟩)) (.pointer (some ⟨W.heap.size, 0, none⟩)) (.int .i64 (m' : Int)) (fun k => [undef, undef, undef, undef, undef, u5, u6, undef, undef, .agg #[.int .i64 1, .bool false, .slice none 0 0, .slice none 0 0, .slice none 0 0, .string ⟨#[]⟩, .int .i64 0, .int .i64 0], .int .i64 (i : Int), .int .i64 ((i : Int) + 1), u12, u13, u14, u15, u16, u17, u18, u19, u20, u21, u22, u23, u24, u25, u26, u27, u28, u29, u30, u31, u32, u33, u34, u35, u36, u37, u38, u39, u40, u41, u42, u43, u44, u45, u46, u47, u48, u49, undef].getD k undef) xs).eval (.tmp 46) = .int .i64 x := h5
              simp only [List.map_toArray, List.map_cons, List.map_nil, h5']
              exact fill_one x) ?_
            exact ⟨_, by simp only [frameTx, upd]; simp [Act.put], ⟨w1.heap.size, rfl, heap_alloc_new w1 _⟩, (Below.refl _ _).alloc (Nat.le_refl _) _⟩
        · intro xs w1 hb hR
          have h0 : xs 0 = .pointer (some ⟨W.heap.size, 4, none⟩) := hR 0 (by decide)
          have h1 : xs 1 = .slice AL out.length cL := hR 1 (by decide)
          obtain ⟨g, h6, hg6⟩ : ∃ g, xs 6 = .slice (some ⟨g, 0, none⟩) 1 1 ∧ w1.heap[g]? = some (.cells #[.int .i64 x] 3 (0, 0)) := hR 6 (by decide)
          obtain ⟨i0, hi0, hz0, hz1, hz2⟩ := info_parts i64_info
          have hown1 := own_below_ HT.out.own hb
          have hlen := HT.out.len
          have hmax : (maxLen : Nat) = 9223372036854775807 := rfl
          show Tail _ _ _ 3 7 _ w1
          refine wpOp_at rfl rfl ?_
          refine wp_append_own w1 (.tmp 42) (.tmp 47) 62 rfl (W.heap.size + 1) 3 i0 (.int .i64 0) 1 8 Tryz.underlying62 hi0 hz0 hz1 hz2 rfl (by decide) (.slice AL out.length cL) out.length (I64 out) h1 hown1 ⟨g, 0, none⟩ 1 1 [.int .i64 x] h6 rfl ?_ ?_ (by omega) (by omega) (by have := HT.out.more; have := hb.size; omega) ?_
          · intro j u hu
            cases j with
            | zero =>
              injection hu with hu
              subst hu
              exact (cell_of_row w1 g 0 _ _ _ hg6).trans rfl
            | succ j => cases hu
          · intro u hu
            rw [List.mem_singleton] at hu
            subst hu
            rfl
          · intro v' w2 hown2 hgr hiff
            have hne : some W.heap.size ≠ (Value.slice AL out.length cL).ownBlock := by
              rcases HT.out.own.2 with ⟨hv, _⟩ | ⟨g', cap, cur, hv, hbs, _⟩
              · injection hv with e1
                subst e1
                simp [Value.ownBlock]
              · injection hv with e1
                rw [e1]
                simp only [Value.ownBlock]
                intro h
                injection h with h
                omega
            have hBK2 := (hgr.block W.heap.size (by have := hb.size; omega) hne).trans ((hb.block W.heap.size hgl).trans HT.out.blk)
            have hc4 : w2.cell? ⟨W.heap.size, 4, none⟩ = some (.slice AL out.length cL) := (cell_of_row w2 W.heap.size 4 _ _ _ hBK2).trans rfl
            have hf4 : w2.frozen? ⟨W.heap.size, 4, none⟩ = false := by simp [World.frozen?, hBK2]
            obtain ⟨A2, c2, rfl, k1, k2⟩ := own_slice hown2
            refine wpOp_at rfl rfl ?_
            unfold frameTx Oper.wp
            go_simp
            refine wpOp_at rfl rfl ?_
            unfold Oper.wp
            go_simp
            have HN : Hid (TextAt l i W (w2.setCell ⟨W.heap.size, 4, none⟩ (.slice A2 (out.length + 1) c2)) (m' + 1) (out ++ [x]) (.slice A2 (out.length + 1) c2)) := Lib.hid
              { lo := by omega
                hi := by omega
                blk := Blk.set_ (w := w2) (g := W.heap.size) (vs := [.int .i64 1, .bool false, .slice none 0 0, .slice none 0 0, .slice AL out.length cL, .string ⟨#[]⟩, .int .i64 0, .int .i64 0]) hBK2 4 _
                own := by
                  have h := own_setCell hown2 (a := ⟨W.heap.size, 4, none⟩) (Nat.lt_succ_self _) (.slice A2 (out.length + 1) c2)
                  have e1 : I64 (out ++ [x]) = I64 out ++ [.int .i64 x] := by simp [I64]
                  have e2 : (out ++ [x]).length = out.length + 1 := by simp
                  rw [e1, e2]
                  exact h
                below := by
                  have h1 := (HT.out.below.trans (hb.mono (Nat.le_of_lt hgl))).grown hgr (by have := hb.size; omega) (by
                    intro k hk
                    rcases HT.out.own.2 with ⟨hv, _⟩ | ⟨g', cap, cur, hv, hbs, _⟩
                    · injection hv with e1
                      subst e1
                      cases hk
                    · injection hv with e1
                      subst e1
                      injection hk with hk
                      have hk : g' = k := hk
                      omega)
                  exact h1.setCell (Nat.le_refl _) _
                more := by
                  have h1 := hgr.size
                  have h2 := hb.size
                  have h3 := HT.out.more
                  simp only [World.setCell, Array.size_modify]
                  omega
                len := by simp; omega
                told := by rw [HX.out]; exact HQ.out }
            clear hBK2 hc4 hf4 hown2 hown1 hgr hiff hne hR
            unfold Tail
            go_wp2_with fail
            go_round
            case rel =>
              exact ⟨m' + 1, out ++ [x], .slice A2 (out.length + 1) c2, by go_num, HN⟩
            case measure => simp [intOf]; omega
    · have hme : m = l.length := by omega
      have HRE : Hid (Tk.read l i = (Tk.none_, 0, 1)) := Lib.hid (read_text_none HC.out (by obtain ⟨f, _, hq⟩ := HT.out.told; rw [hq, quote_end (by omega)]))
      have HBL := Lib.hid HT.out.below
      clear hL1 hL2
      go_wp2_with (with_reducible refine wpList_store_row rfl 67 (.tmp 4) (.tmp 50) rfl w.heap.size #[.int .i64 0, .bool false, .slice none 0 0, .slice none 0 0, .slice none 0 0, .string ⟨#[]⟩, .int .i64 0, .int .i64 0] rfl rfl 67 #[.int .i64 0, .bool false, .slice none 0 0, .slice none 0 0, .slice none 0 0, .string ⟨#[]⟩, .int .i64 0, .int .i64 0] HGR.out (tok_infoR _ _ _ _ _ _ _ _) rfl (tok_one _ _ _ _ _ _ _ _ _ _ _ _ _ _) ?_)
      refine bodyPost_ret (results_cell_row_tmp2 (by rfl) _ _ w.heap.size 67 #[.int .i64 0, .bool false, .slice none 0 0, .slice none 0 0, .slice none 0 0, .string ⟨#[]⟩, .int .i64 0, .int .i64 0] (0, 0) _ _ _ (by rfl) (by rfl) (by rfl) (rheap_same HGR.out) Tryz.underlying67 rfl (tok_infoR _ _ _ _ _ _ _ _)) rfl (HR.out _ _ ?_)
      rw [HRE.out]
      exact ⟨_, _, _, rfl, isRes_nil _, isRes_nil _, World.ownsRow_nil _ _ _ _, rBelow.setRow (hb0.trans (HBL.out.mono (by rw [HWS.out]; omega))) (Nat.le_refl _) _⟩
end Go.Proofs.YtfiefglagknclaaGreatDoor

/-
  token.port: the channel, the source or the system function that begins at a place.
-/
namespace Go.Proofs.YtfiefglagknclaaGreatDoor
open Go.RowKit
set_option maxHeartbeats 4000000
set_option maxRecDepth 100000
set_option linter.unusedVariables false

theorem encode_ascii {d : Int} (h1 : 0 ≤ d) (h2 : d ≤ 122) : Utf8.encode d = ⟨#[UInt8.ofNat d.toNat]⟩ := by
  have hv : Utf8.valid d = true := by unfold Utf8.valid; simp; omega
  unfold Utf8.encode
  simp only [hv, if_true]
  rw [if_pos (by omega)]
theorem runes_two {d e : Int} (h1 : 0 ≤ d) (h2 : d ≤ 122) (h3 : 0 ≤ e) (h4 : e ≤ 122) : runesBytes [d, e] = ⟨#[UInt8.ofNat d.toNat, UInt8.ofNat e.toNat]⟩ := by
  unfold runesBytes
  simp only [List.foldl_cons, List.foldl_nil]
  rw [encode_ascii h1 h2, encode_ascii h3 h4]
  rfl
theorem runes_is {d e : Int} {a b : Nat} (h1 : 0 ≤ d) (h2 : d ≤ 122) (h3 : 0 ≤ e) (h4 : e ≤ 122) (ha : a ≤ 122) (hb : b ≤ 122) : runesBytes [d, e] = ⟨#[UInt8.ofNat a, UInt8.ofNat b]⟩ ↔ d = (a : Int) ∧ e = (b : Int) := by
  rw [runes_two h1 h2 h3 h4]
  constructor
  · intro h
    injection h with h
    have h5 : UInt8.ofNat d.toNat = UInt8.ofNat a := Option.some.inj (congrArg (fun x : Array UInt8 => x[0]?) h)
    have h6 : UInt8.ofNat e.toNat = UInt8.ofNat b := Option.some.inj (congrArg (fun x : Array UInt8 => x[1]?) h)
    have h5 := congrArg UInt8.toNat h5
    have h6 := congrArg UInt8.toNat h6
    simp only [UInt8.toNat_ofNat'] at h5 h6
    omega
  · rintro ⟨rfl, rfl⟩
    rfl

theorem two_toList (x y : UInt8) : ByteArray.toList ⟨#[x, y]⟩ = [x, y] := by
  have h2 : (ByteArray.mk #[x, y]).size = 2 := rfl
  unfold ByteArray.toList
  rw [ByteArray.toList.loop.eq_1]
  rw [if_pos (by rw [h2]; omega)]
  rw [ByteArray.toList.loop.eq_1]
  rw [if_pos (by rw [h2]; omega)]
  rw [ByteArray.toList.loop.eq_1]
  rw [if_neg (by rw [h2]; omega)]
  rfl
theorem bytes_eq {S : ByteArray} {x y : UInt8} (h : S = ⟨#[x, y]⟩) : (S.toList == [x, y]) = true := by
  rw [h, two_toList]
  simp
theorem bytes_ne {S : ByteArray} {x y u v : UInt8} (hS : S = ⟨#[u, v]⟩) (h : ¬ S = ⟨#[x, y]⟩) : (S.toList == [x, y]) = false := by
  rw [hS, two_toList]
  refine beq_eq_false_iff_ne.2 (fun e => h ?_)
  injection e with e1 e
  injection e with e2 _
  rw [hS, e1, e2]

/-- Where the switch has come to: the token as it is so far, and where it ends. -/
structure PortAt (l : List Int) (i : Nat) (W wx : World) (k cc : Int) (en : Nat) : Prop where
  lo : i + 2 ≤ en
  hi : en ≤ i + 3
  blk : wx.heap[W.heap.size]? = some (.cells #[.int .i64 k, .bool false, .slice none 0 0, .slice none 0 0, .slice none 0 0, .string ⟨#[]⟩, .int .i64 cc, .int .i64 0] 67 (0, 0))
  below : Below W.heap.size W wx
  more : W.heap.size + 1 ≤ wx.heap.size
  told : Tk.read l i = if Tk.word (l.getD en (-1)) = true then (Tk.none_, 0, 1) else (⟨k, Rt.none_, [], [], cc, i⟩, en - i, 0)

theorem port_any (A : Option Addr) (c : Nat) (l : List Int) (i : Nat) (w : World) (hl : Lies w w.heap.size A (I64 l)) (hn : l.length ≤ 25000) (hcap : l.length ≤ c) (hi : i < l.length) (hc : l.getD i (-1) = 9109 ∨ l.getD i (-1) = 9054) :
    Calls Tryz.prog 63 #[.slice A l.length c, .int .i64 (i : Int)] w (ReadOut w l i) := by
  have HR : Hid (∀ e w', TokOut w (Tk.read l i).1 (if (Tk.read l i).2.2 = 0 then i + (Tk.read l i).2.1 else 0) (Tk.read l i).2.2 e w' → ReadOut w l i e w') := Lib.hid (fun e w' h => h)
  obtain ⟨W, hW⟩ : ∃ W, W = w.alloc (.cells #[.int .i64 0, .bool false, .slice none 0 0, .slice none 0 0, .slice none 0 0, .string ⟨#[]⟩, .int .i64 0, .int .i64 0] 67) := ⟨_, rfl⟩
  have hb0 : Below w.heap.size w W := by rw [hW]; exact (Below.refl _ _).alloc (Nat.le_refl _) _
  have HGA : Hid (W.heap[w.heap.size]? = some (.cells #[.int .i64 0, .bool false, .slice none 0 0, .slice none 0 0, .slice none 0 0, .string ⟨#[]⟩, .int .i64 0, .int .i64 0] 67 (0, 0))) := Lib.hid (by rw [hW]; exact heap_alloc_new w _)
  have HWS : Hid (W.heap.size = w.heap.size + 1) := Lib.hid (by rw [hW]; simp)
  have hlW : Lies W W.heap.size A (I64 l) := (hl.below hb0).more hb0.size
  obtain ⟨W2, hW2⟩ : ∃ W2, W2 = W.alloc (.cells #[.int .i64 0, .bool false, .slice none 0 0, .slice none 0 0, .slice none 0 0, .string ⟨#[]⟩, .int .i64 0, .int .i64 0] 67) := ⟨_, rfl⟩
  have hb2 : Below W.heap.size W W2 := by rw [hW2]; exact (Below.refl _ _).alloc (Nat.le_refl _) _
  have HB2 := Lib.hid hb2
  have HG2 : Hid (W2.heap[W.heap.size]? = some (.cells #[.int .i64 0, .bool false, .slice none 0 0, .slice none 0 0, .slice none 0 0, .string ⟨#[]⟩, .int .i64 0, .int .i64 0] 67 (0, 0))) := Lib.hid (by rw [hW2]; exact heap_alloc_new W _)
  have HS2 : Hid (W2.heap.size = W.heap.size + 1) := Lib.hid (by rw [hW2]; simp)
  have HL := Lib.hid hlW
  have LT := Lib.hid (fun (wx : World) (h : Below W.heap.size W wx) (m : Nat) (hm : m ≤ 1000000) => letter_any A c l m wx ((hlW.below h).more h.size) (by omega) hm)
  have DG := Lib.hid (fun (wx : World) (h : Below W.heap.size W wx) (m : Nat) (hm : m ≤ 1000000) => digit_any A c l m wx ((hlW.below h).more h.size) (by omega) hm)
  have HC := Lib.hid hc
  have HW : Hid (W = w.alloc (.cells #[.int .i64 0, .bool false, .slice none 0 0, .slice none 0 0, .slice none 0 0, .string ⟨#[]⟩, .int .i64 0, .int .i64 0] 67)) := Lib.hid hW
  have HW2 : Hid (W2 = W.alloc (.cells #[.int .i64 0, .bool false, .slice none 0 0, .slice none 0 0, .slice none 0 0, .string ⟨#[]⟩, .int .i64 0, .int .i64 0] 67)) := Lib.hid hW2
  obtain ⟨q, hq⟩ : ∃ q, q = l.getD i (-1) := ⟨_, rfl⟩
  obtain ⟨d, hd⟩ : ∃ d, d = l.getD (i + 1) (-1) := ⟨_, rfl⟩
  obtain ⟨d2, hd2⟩ : ∃ d2, d2 = l.getD (i + 2) (-1) := ⟨_, rfl⟩
  obtain ⟨b, off, rfl, hb, g0⟩ := lies_i64 hlW hi
  have hb' : b < W.heap.size := hb
  rw [← Tk.getD_in hi, ← hq] at g0
  have HQ := Lib.hid hq
  have HD := Lib.hid hd
  have HD2 := Lib.hid hd2
  have hq2 : q = 9109 ∨ q = 9054 := by rw [hq]; exact hc
  have G0 : Hid (∀ wx, Below W.heap.size W wx → wx.cell? ⟨b, off + i, none⟩ = some (.int .i64 q)) := Lib.hid (fun wx h => (h.cell hb').trans g0)
  have G1 : Hid (i + 1 < l.length → ∀ wx, Below W.heap.size W wx → wx.cell? ⟨b, off + (i + 1), none⟩ = some (.int .i64 d)) := Lib.hid (by
    intro h1 wx h
    obtain ⟨b1, off1, e1, _, g1⟩ := lies_i64 hlW h1
    injection e1 with e1
    injection e1 with e1 e2
    subst e1 e2
    rw [h.cell hb', g1, hd, Tk.getD_in h1])
  have G2 : Hid (i + 2 < l.length → ∀ wx, Below W.heap.size W wx → wx.cell? ⟨b, off + (i + 2), none⟩ = some (.int .i64 d2)) := Lib.hid (by
    intro h1 wx h
    obtain ⟨b1, off1, e1, _, g1⟩ := lies_i64 hlW h1
    injection e1 with e1
    injection e1 with e1 e2
    subst e1 e2
    rw [h.cell hb', g1, hd2, Tk.getD_in h1])
  clear hl hlW hc hW hW2 g0 hq hd hd2 hb2
  go_enter Tryz.func63, Tryz.ntmps63
  go_upto_region 1 with fail
  rw [← HW.out]
  go_upto_region 2 with fail
  rw [← HW2.out]
  go_upto_block 0 with fail
  go_cut [8] from 9 (fun x8 wx => ∃ (k cc : Int) (en : Nat), x8 = .int .i64 (en : Int) ∧ Hid (PortAt l i W wx k cc en))
  case first =>
    go_upto_region 4 with fail
    obtain ⟨B4, hB4⟩ : ∃ B4, B4 = (Tk.digit d && decide (d ≤ 55)) := ⟨_, rfl⟩
    go_cut [12] from 13 (fun x12 wx => wx = W2 ∧ x12 = .bool B4)
    case first =>
      have h := DG.out W2 HB2.out (i + 1) (by omega)
      rw [← HD.out] at h
      have h := Lib.hid h
      by_cases h1 : Tk.digit d = true
      · have hlt : i + 1 < l.length := by
          rcases Nat.lt_or_ge (i + 1) l.length with h | h
          · exact h
          · rw [HD.out, Tk.getD_out h] at h1; cases h1
        have g1 := G1.out hlt W2 HB2.out
        rw [h1] at hB4 h
        rw [Bool.true_and] at hB4
        go_wp2_with fail
        refine h.out.mono ?_
        rintro e w' ⟨rfl, rfl⟩
        go_wp2_with fail
        go_meet
        exact ⟨rfl, by rw [hB4]⟩
      · have h1 : Tk.digit d = false := by simpa using h1
        rw [h1] at hB4 h
        rw [Bool.false_and] at hB4
        go_wp2_with fail
        refine h.out.mono ?_
        rintro e w' ⟨rfl, rfl⟩
        go_wp2_with fail
        go_meet
        exact ⟨rfl, by rw [hB4]⟩
    case rest =>
      obtain ⟨hwx, rfl⟩ := hcut
      rw [hwx]
      clear hwx
      have HGR2 : Hid (W2.heap[w.heap.size]? = some (.cells #[.int .i64 0, .bool false, .slice none 0 0, .slice none 0 0, .slice none 0 0, .string ⟨#[]⟩, .int .i64 0, .int .i64 0] 67 (0, 0))) := Lib.hid ((HB2.out.block w.heap.size (by rw [HWS.out]; omega)).trans HGA.out)
      cases B4
      · have HP1 : Hid (¬ (Tk.digit d = true ∧ d ≤ 55)) := Lib.hid (by
          rintro ⟨p1, p2⟩
          rw [p1, decide_eq_true p2] at hB4
          cases hB4)
        clear hB4
        go_upto_region 8 with fail
        obtain ⟨B8, hB8⟩ : ∃ B8, B8 = (decide (q = 9109) && (Tk.cls d == 2) && (Tk.cls d2 == 2)) := ⟨_, rfl⟩
        have g0 := G0.out W2 HB2.out
        go_cut [38] from 39 (fun x38 wx => wx = W2 ∧ x38 = .bool B8)
        case first =>
          have h := LT.out W2 HB2.out (i + 1) (by omega)
          rw [← HD.out] at h
          have h := Lib.hid h
          have h2 := LT.out W2 HB2.out (i + 2) (by omega)
          rw [← HD2.out] at h2
          have h2 := Lib.hid h2
          generalize (Tk.cls d == 2) = b1 at *
          generalize (Tk.cls d2 == 2) = b2 at *
          rcases hq2 with rfl | rfl
          · rw [decide_eq_true rfl, Bool.true_and] at hB8
            cases b1
            · rw [Bool.false_and] at hB8
              go_wp2_with fail
              refine h.out.mono ?_
              rintro e w' ⟨rfl, rfl⟩
              go_wp2_with fail
              go_meet
              exact ⟨rfl, by rw [hB8]⟩
            · rw [Bool.true_and] at hB8
              go_wp2_with fail
              refine h.out.mono ?_
              rintro e w' ⟨rfl, rfl⟩
              go_wp2_with fail
              refine h2.out.mono ?_
              rintro e w' ⟨rfl, rfl⟩
              go_wp2_with fail
              go_meet
              exact ⟨rfl, by rw [hB8]⟩
          · have hB8 : B8 = false := by rw [hB8]; rfl
            go_wp2_with fail
            go_meet
            exact ⟨rfl, by rw [hB8]⟩
        case rest =>
          obtain ⟨hwx, rfl⟩ := hcut
          rw [hwx]
          clear hwx
          cases B8
          · have HRE : Hid (Tk.read l i = (Tk.none_, 0, 1)) := Lib.hid (Tk.port_none HC.out (by rw [← HD.out]; exact HP1.out) (by
              rintro ⟨p1, p2, p3⟩
              rw [← HQ.out] at p1
              rw [← HD.out] at p2
              rw [← HD2.out] at p3
              rw [p1, p2, p3] at hB8
              cases hB8))
            clear hB8 g0
            go_wp2_with (with_reducible refine wpList_store_row rfl 67 (.tmp 4) (.tmp 11) rfl w.heap.size #[.int .i64 0, .bool false, .slice none 0 0, .slice none 0 0, .slice none 0 0, .string ⟨#[]⟩, .int .i64 0, .int .i64 0] rfl rfl 67 #[.int .i64 0, .bool false, .slice none 0 0, .slice none 0 0, .slice none 0 0, .string ⟨#[]⟩, .int .i64 0, .int .i64 0] HGR2.out (tok_infoR _ _ _ _ _ _ _ _) rfl (tok_one _ _ _ _ _ _ _ _ _ _ _ _ _ _) ?_)
            refine bodyPost_ret (results_cell_row_tmp2 (by rfl) _ _ w.heap.size 67 #[.int .i64 0, .bool false, .slice none 0 0, .slice none 0 0, .slice none 0 0, .string ⟨#[]⟩, .int .i64 0, .int .i64 0] (0, 0) _ _ _ (by rfl) (by rfl) (by rfl) (rheap_same HGR2.out) Tryz.underlying67 rfl (tok_infoR _ _ _ _ _ _ _ _)) rfl (HR.out _ _ ?_)
            rw [HRE.out]
            exact ⟨_, _, _, rfl, isRes_nil _, isRes_nil _, World.ownsRow_nil _ _ _ _, rBelow.setRow (hb0.trans (HB2.out.mono (by rw [HWS.out]; omega))) (Nat.le_refl _) _⟩
          · have hbb : (q = 9109 ∧ (Tk.cls d == 2) = true) ∧ (Tk.cls d2 == 2) = true := by
              have h := hB8.symm
              rw [Bool.and_eq_true, Bool.and_eq_true, decide_eq_true_eq] at h
              exact h
            have hr1 := Tk.letter_range hbb.1.2
            have hr2 := Tk.letter_range hbb.2
            have hlt : i + 2 < l.length := by
              rcases Nat.lt_or_ge (i + 2) l.length with h | h
              · exact h
              · have h1 := hr2.1
                rw [HD2.out, Tk.getD_out h] at h1; omega
            have g1 := G1.out (by omega) W2 HB2.out
            have g2 := G2.out hlt W2 HB2.out
            have HPD := Lib.hid (Tk.port_two (by rw [← HQ.out]; exact hbb.1.1) (by rw [← HD.out]; exact hbb.1.2) (by rw [← HD2.out]; exact hbb.2))
            rw [← HD2.out, ← HD.out] at HPD
            have h65 := hr1.1
            have h122 := hr1.2
            have k65 := hr2.1
            have k122 := hr2.2
            clear hbb hr1 hr2 hB8 g0 hq2
            obtain ⟨S, hS⟩ : ∃ S, S = runesBytes [d, d2] := ⟨_, rfl⟩
            have hcv : (convert 134 9 (.slice (some ⟨W2.heap.size, 0, none⟩) 2 2)).run Tryz.prog (W2.alloc (.cells #[.int .i32 d, .int .i32 d2] 21)).drew = .ok (.string S) (W2.alloc (.cells #[.int .i32 d, .int .i32 d2] 21)).drew := by
              rw [hS]
              exact run_convert_runes _ _ _ 21 ⟨W2.heap.size, 0, none⟩ 2 2 [d, d2] (Nat.le_refl _) Tryz.underlying134 Tryz.underlying21 Tryz.underlying9 (by
                intro j hj
                match j with
                | 0 => exact (cell_of_row _ W2.heap.size 0 _ _ _ (heap_alloc_new W2 _)).trans rfl
                | 1 => exact (cell_of_row _ W2.heap.size 1 _ _ _ (heap_alloc_new W2 _)).trans rfl
                | j + 2 => exact absurd hj (by simp))
            have HSS := Lib.hid hS
            clear hS
            obtain ⟨W4, hW4⟩ : ∃ W4, W4 = (W2.alloc (.cells #[.int .i32 d, .int .i32 d2] 21)).drew := ⟨_, rfl⟩
            have HW4 := Lib.hid hW4
            clear hW4
            go_upto_region 10 with fail
            go_region
            rw [← HW4.out]
            have HB4 : Hid (Below W.heap.size W W4) := Lib.hid (by rw [HW4.out]; exact (HB2.out.alloc (by rw [HS2.out]; omega) _).drew)
            have HG4 : Hid (W4.heap[W.heap.size]? = some (.cells #[.int .i64 0, .bool false, .slice none 0 0, .slice none 0 0, .slice none 0 0, .string ⟨#[]⟩, .int .i64 0, .int .i64 0] 67 (0, 0))) := Lib.hid (by rw [HW4.out]; exact (Below.heap_alloc W2 _ W.heap.size (by rw [HS2.out]; omega)).trans HG2.out)
            have HS4 : Hid (W.heap.size + 1 ≤ W4.heap.size) := Lib.hid (by rw [HW4.out]; show _ ≤ (W2.alloc _).heap.size; simp; rw [HS2.out]; omega)
            have hDC := runes_is (d := d) (e := d2) (a := 68) (b := 67) (by omega) (by omega) (by omega) (by omega) (by omega) (by omega)
            have hUP := runes_is (d := d) (e := d2) (a := 85) (b := 80) (by omega) (by omega) (by omega) (by omega) (by omega) (by omega)
            rw [← HSS.out] at hDC hUP
            have hS2 := HSS.out.trans (runes_two (d := d) (e := d2) (by omega) (by omega) (by omega) (by omega))
            have hDC : S = ⟨#[68, 67]⟩ ↔ d = 68 ∧ d2 = 67 := hDC
            have hUP : S = ⟨#[85, 80]⟩ ↔ d = 85 ∧ d2 = 80 := hUP
            by_cases e1 : d = 68 ∧ d2 = 67
            · have q1 : (S.toList == [68, 67]) = true := bytes_eq (hDC.2 e1)
              have HP : Hid (PortAt l i W (W4.setRow W.heap.size #[.int .i64 6, .bool false, .slice none 0 0, .slice none 0 0, .slice none 0 0, .string ⟨#[]⟩, .int .i64 0, .int .i64 0]) 6 0 (i + 3)) := Lib.hid ⟨by omega, Nat.le_refl _, setRow_heap W4 W.heap.size _ _ _ _ HG4.out, rBelow.setRow HB4.out (Nat.le_refl _) _, by rw [size_setRow]; exact HS4.out, by
                rw [HPD.out, if_pos e1, show i + 3 - i = 3 by omega]⟩
              clear hDC hUP e1 hS2
              go_wp2_with (with_reducible refine wpList_store_row rfl 67 (.tmp 7) (.tmp 75) rfl W.heap.size #[.int .i64 6, .bool false, .slice none 0 0, .slice none 0 0, .slice none 0 0, .string ⟨#[]⟩, .int .i64 0, .int .i64 0] rfl rfl 67 #[.int .i64 0, .bool false, .slice none 0 0, .slice none 0 0, .slice none 0 0, .string ⟨#[]⟩, .int .i64 0, .int .i64 0] HG4.out (tok_infoR _ _ _ _ _ _ _ _) rfl (tok_one _ _ _ _ _ _ _ _ _ _ _ _ _ _) ?_)
              go_meet
              exact ⟨6, 0, i + 3, by go_num, HP⟩
            · have q1 : (S.toList == [68, 67]) = false := bytes_ne hS2 (fun h => e1 (hDC.1 h))
              by_cases e2 : d = 85 ∧ d2 = 80
              · have q2 : (S.toList == [85, 80]) = true := bytes_eq (hUP.2 e2)
                have HP : Hid (PortAt l i W (W4.setRow W.heap.size #[.int .i64 6, .bool false, .slice none 0 0, .slice none 0 0, .slice none 0 0, .string ⟨#[]⟩, .int .i64 1, .int .i64 0]) 6 1 (i + 3)) := Lib.hid ⟨by omega, Nat.le_refl _, setRow_heap W4 W.heap.size _ _ _ _ HG4.out, rBelow.setRow HB4.out (Nat.le_refl _) _, by rw [size_setRow]; exact HS4.out, by
                rw [HPD.out, if_neg e1, if_pos e2, show i + 3 - i = 3 by omega]⟩
                clear hDC hUP e1 e2 hS2
                go_wp2_with (with_reducible refine wpList_store_row rfl 67 (.tmp 7) (.tmp 78) rfl W.heap.size #[.int .i64 6, .bool false, .slice none 0 0, .slice none 0 0, .slice none 0 0, .string ⟨#[]⟩, .int .i64 1, .int .i64 0] rfl rfl 67 #[.int .i64 0, .bool false, .slice none 0 0, .slice none 0 0, .slice none 0 0, .string ⟨#[]⟩, .int .i64 0, .int .i64 0] HG4.out (tok_infoR _ _ _ _ _ _ _ _) rfl (tok_one _ _ _ _ _ _ _ _ _ _ _ _ _ _) ?_)
                go_meet
                exact ⟨6, 1, i + 3, by go_num, HP⟩
              · have q2 : (S.toList == [85, 80]) = false := bytes_ne hS2 (fun h => e2 (hUP.1 h))
                clear hDC hUP hS2
                have HRE : Hid (Tk.read l i = (Tk.none_, 0, 1)) := Lib.hid (by rw [HPD.out, if_neg e1, if_neg e2])
                have HGR4 : Hid (W4.heap[w.heap.size]? = some (.cells #[.int .i64 0, .bool false, .slice none 0 0, .slice none 0 0, .slice none 0 0, .string ⟨#[]⟩, .int .i64 0, .int .i64 0] 67 (0, 0))) := Lib.hid ((HB4.out.block w.heap.size (by rw [HWS.out]; omega)).trans HGA.out)
                go_wp2_with (with_reducible refine wpList_store_row rfl 67 (.tmp 4) (.tmp 72) rfl w.heap.size #[.int .i64 0, .bool false, .slice none 0 0, .slice none 0 0, .slice none 0 0, .string ⟨#[]⟩, .int .i64 0, .int .i64 0] rfl rfl 67 #[.int .i64 0, .bool false, .slice none 0 0, .slice none 0 0, .slice none 0 0, .string ⟨#[]⟩, .int .i64 0, .int .i64 0] HGR4.out (tok_infoR _ _ _ _ _ _ _ _) rfl (tok_one _ _ _ _ _ _ _ _ _ _ _ _ _ _) ?_)
                refine bodyPost_ret (results_cell_row_tmp2 (by rfl) _ _ w.heap.size 67 #[.int .i64 0, .bool false, .slice none 0 0, .slice none 0 0, .slice none 0 0, .string ⟨#[]⟩, .int .i64 0, .int .i64 0] (0, 0) _ _ _ (by rfl) (by rfl) (by rfl) (rheap_same HGR4.out) Tryz.underlying67 rfl (tok_infoR _ _ _ _ _ _ _ _)) rfl (HR.out _ _ ?_)
                rw [HRE.out]
                exact ⟨_, _, _, rfl, isRes_nil _, isRes_nil _, World.ownsRow_nil _ _ _ _, rBelow.setRow (hb0.trans (HB4.out.mono (by rw [HWS.out]; omega))) (Nat.le_refl _) _⟩
      · have hdd : Tk.digit d = true ∧ d ≤ 55 := by
          have h := hB4.symm
          rw [Bool.and_eq_true, decide_eq_true_eq] at h
          exact h
        have h48 : 48 ≤ d := by
          have h := hdd.1
          unfold Tk.digit at h
          rw [Bool.and_eq_true, decide_eq_true_eq, decide_eq_true_eq] at h
          exact h.1
        have h55 := hdd.2
        have hlt : i + 1 < l.length := by
          rcases Nat.lt_or_ge (i + 1) l.length with h | h
          · exact h
          · have h1 := hdd.1
            rw [HD.out, Tk.getD_out h] at h1; cases h1
        have g1 := G1.out hlt W2 HB2.out
        have HPD := Lib.hid (Tk.port_digit HC.out (by rw [← HD.out]; exact hdd.1) (by rw [← HD.out]; exact hdd.2))
        rw [← HQ.out, ← HD.out] at HPD
        obtain ⟨W3, hW3⟩ : ∃ W3, W3 = W2.setRow W.heap.size #[.int .i64 4, .bool false, .slice none 0 0, .slice none 0 0, .slice none 0 0, .string ⟨#[]⟩, .int .i64 (d - 48), .int .i64 0] := ⟨_, rfl⟩
        have hb3 : Below W.heap.size W W3 := by rw [hW3]; exact rBelow.setRow HB2.out (Nat.le_refl _) _
        have g0 := G0.out W3 hb3
        have hG3 : W3.heap[W.heap.size]? = some (.cells #[.int .i64 4, .bool false, .slice none 0 0, .slice none 0 0, .slice none 0 0, .string ⟨#[]⟩, .int .i64 (d - 48), .int .i64 0] 67 (0, 0)) := by rw [hW3]; exact setRow_heap W2 W.heap.size _ _ _ _ HG2.out
        have hS3 : W.heap.size + 1 ≤ W3.heap.size := by rw [hW3, size_setRow, HS2.out]; exact Nat.le_refl _
        have HW3 := Lib.hid hW3
        clear hdd hB4 hW3
        rcases hq2 with rfl | rfl
        · have HP : Hid (PortAt l i W W3 4 (d - 48) (i + 2)) := Lib.hid ⟨Nat.le_refl _, by omega, hG3, hb3, hS3, by
            rw [HPD.out, if_neg (show ¬ ((9109 : Int) = 9054) by decide), show i + 2 - i = 2 by omega]⟩
          clear hb3 hG3 hS3
          go_upto_region 6 with (with_reducible refine wpList_store_row rfl 67 (.tmp 7) (.tmp 31) rfl W.heap.size #[.int .i64 4, .bool false, .slice none 0 0, .slice none 0 0, .slice none 0 0, .string ⟨#[]⟩, .int .i64 (d - 48), .int .i64 0] rfl rfl 67 #[.int .i64 0, .bool false, .slice none 0 0, .slice none 0 0, .slice none 0 0, .string ⟨#[]⟩, .int .i64 0, .int .i64 0] HG2.out (tok_infoR _ _ _ _ _ _ _ _) rfl (tok_one _ _ _ _ _ _ _ _ _ _ _ _ _ _) ?_)
          rw [← HW3.out]
          go_wp2_with fail
          go_meet
          exact ⟨4, d - 48, i + 2, by go_num, HP⟩
        · have hc0 : W3.cell? ⟨W.heap.size, 0, none⟩ = some (.int .i64 4) := (cell_of_row W3 W.heap.size 0 _ _ _ hG3).trans rfl
          have hf0 : W3.frozen? ⟨W.heap.size, 0, none⟩ = false := by simp [World.frozen?, hG3]
          have HP : Hid (PortAt l i W (W3.setCell ⟨W.heap.size, 0, none⟩ (.int .i64 5)) 5 (d - 48) (i + 2)) := Lib.hid ⟨Nat.le_refl _, by omega, Blk.set_ (w := W3) (g := W.heap.size) (vs := [.int .i64 4, .bool false, .slice none 0 0, .slice none 0 0, .slice none 0 0, .string ⟨#[]⟩, .int .i64 (d - 48), .int .i64 0]) hG3 0 _, hb3.setCell (Nat.le_refl _) _, by simp only [World.setCell, Array.size_modify]; exact hS3, by
            rw [HPD.out, if_pos rfl, show i + 2 - i = 2 by omega]⟩
          clear hb3 hG3 hS3
          go_upto_region 6 with (with_reducible refine wpList_store_row rfl 67 (.tmp 7) (.tmp 31) rfl W.heap.size #[.int .i64 4, .bool false, .slice none 0 0, .slice none 0 0, .slice none 0 0, .string ⟨#[]⟩, .int .i64 (d - 48), .int .i64 0] rfl rfl 67 #[.int .i64 0, .bool false, .slice none 0 0, .slice none 0 0, .slice none 0 0, .string ⟨#[]⟩, .int .i64 0, .int .i64 0] HG2.out (tok_infoR _ _ _ _ _ _ _ _) rfl (tok_one _ _ _ _ _ _ _ _ _ _ _ _ _ _) ?_)
          rw [← HW3.out]
          go_wp2_with fail
          go_meet
          exact ⟨5, d - 48, i + 2, by go_num, HP⟩
  case rest =>
    obtain ⟨k, cc, en, rfl, HP⟩ := hcut
    have HGC : Hid (wc.heap[w.heap.size]? = some (.cells #[.int .i64 0, .bool false, .slice none 0 0, .slice none 0 0, .slice none 0 0, .string ⟨#[]⟩, .int .i64 0, .int .i64 0] 67 (0, 0))) := Lib.hid ((HP.out.below.block w.heap.size (by rw [HWS.out]; omega)).trans HGA.out)
    have HBK := Lib.hid HP.out.blk
    have hen := HP.out.hi
    have hen2 := HP.out.lo
    have h := LT.out wc HP.out.below en (by omega)
    have h := Lib.hid h
    have h2 := DG.out wc HP.out.below en (by omega)
    have h2 := Lib.hid h2
    have hwd : Hid (Tk.word (l.getD en (-1)) = (Tk.digit (l.getD en (-1)) || (Tk.cls (l.getD en (-1)) == 2))) := Lib.hid rfl
    have HTD := Lib.hid HP.out.told
    generalize Tk.word (l.getD en (-1)) = bw at *
    generalize (Tk.cls (l.getD en (-1)) == 2) = b1 at *
    generalize Tk.digit (l.getD en (-1)) = b2 at *
    obtain ⟨b3, hb3⟩ : ∃ b3, b3 = (b1 || b2) := ⟨_, rfl⟩
    have hbw : bw = b3 := by rw [hwd.out, hb3, Bool.or_comm]
    clear hwd LT DG G0 G1 G2
    go_upto_region 16 with fail
    go_cut [86] from 87 (fun x86 wx => wx = wc ∧ x86 = .bool b3)
    case first =>
      cases b1
      · go_wp2_with fail
        refine h.out.mono ?_
        rintro e w' ⟨rfl, rfl⟩
        go_wp2_with fail
        refine h2.out.mono ?_
        rintro e w' ⟨rfl, rfl⟩
        go_wp2_with fail
        go_meet
        exact ⟨rfl, by rw [hb3]; rfl⟩
      · go_wp2_with fail
        refine h.out.mono ?_
        rintro e w' ⟨rfl, rfl⟩
        go_wp2_with fail
        go_meet
        exact ⟨rfl, by rw [hb3]; rfl⟩
    case rest =>
      obtain ⟨hwx, rfl⟩ := hcut
      rw [hwx]
      clear hwx hb3
      subst hbw
      cases bw
      · have HRE : Hid (Tk.read l i = (⟨k, Rt.none_, [], [], cc, i⟩, en - i, 0)) := Lib.hid (by rw [HTD.out]; rfl)
        go_wp2_with (first | (with_reducible refine wpList_load_row rfl 67 (.tmp 7) rfl W.heap.size rfl 67 #[.int .i64 k, .bool false, .slice none 0 0, .slice none 0 0, .slice none 0 0, .string ⟨#[]⟩, .int .i64 cc, .int .i64 0] (0, 0) _ HBK.out Tryz.underlying67 rfl (tok_infoR _ _ _ _ _ _ _ _) ?_) | (with_reducible refine wpList_store_row rfl 67 (.tmp 4) (.tmp 88) rfl w.heap.size #[.int .i64 k, .bool false, .slice none 0 0, .slice none 0 0, .slice none 0 0, .string ⟨#[]⟩, .int .i64 cc, .int .i64 0] rfl rfl 67 #[.int .i64 0, .bool false, .slice none 0 0, .slice none 0 0, .slice none 0 0, .string ⟨#[]⟩, .int .i64 0, .int .i64 0] HGC.out (tok_infoR _ _ _ _ _ _ _ _) rfl (tok_one _ _ _ _ _ _ _ _ _ _ _ _ _ _) ?_))
        refine bodyPost_ret (results_cell_row_tmp2 (by rfl) _ _ w.heap.size 67 #[.int .i64 k, .bool false, .slice none 0 0, .slice none 0 0, .slice none 0 0, .string ⟨#[]⟩, .int .i64 cc, .int .i64 0] (0, 0) _ _ _ (by rfl) (by rfl) (by rfl) (rheap_same HGC.out) Tryz.underlying67 rfl (tok_infoR _ _ _ _ _ _ _ _)) rfl (HR.out _ _ ?_)
        rw [HRE.out]
        show TokOut w _ (i + (en - i)) 0 _ _
        rw [show i + (en - i) = en by omega]
        exact ⟨_, _, _, rfl, isRes_nil _, isRes_nil _, World.ownsRow_nil _ _ _ _, rBelow.setRow (hb0.trans (HP.out.below.mono (by rw [HWS.out]; omega))) (Nat.le_refl _) _⟩
      · have HRE : Hid (Tk.read l i = (Tk.none_, 0, 1)) := Lib.hid (by rw [HTD.out]; rfl)
        go_wp2_with (with_reducible refine wpList_store_row rfl 67 (.tmp 4) (.tmp 87) rfl w.heap.size #[.int .i64 0, .bool false, .slice none 0 0, .slice none 0 0, .slice none 0 0, .string ⟨#[]⟩, .int .i64 0, .int .i64 0] rfl rfl 67 #[.int .i64 0, .bool false, .slice none 0 0, .slice none 0 0, .slice none 0 0, .string ⟨#[]⟩, .int .i64 0, .int .i64 0] HGC.out (tok_infoR _ _ _ _ _ _ _ _) rfl (tok_one _ _ _ _ _ _ _ _ _ _ _ _ _ _) ?_)
        refine bodyPost_ret (results_cell_row_tmp2 (by rfl) _ _ w.heap.size 67 #[.int .i64 0, .bool false, .slice none 0 0, .slice none 0 0, .slice none 0 0, .string ⟨#[]⟩, .int .i64 0, .int .i64 0] (0, 0) _ _ _ (by rfl) (by rfl) (by rfl) (rheap_same HGC.out) Tryz.underlying67 rfl (tok_infoR _ _ _ _ _ _ _ _)) rfl (HR.out _ _ ?_)
        rw [HRE.out]
        exact ⟨_, _, _, rfl, isRes_nil _, isRes_nil _, World.ownsRow_nil _ _ _ _, rBelow.setRow (hb0.trans (HP.out.below.mono (by rw [HWS.out]; omega))) (Nat.le_refl _) _⟩
end Go.Proofs.YtfiefglagknclaaGreatDoor

/-
  token.next: the token that begins at a place.
-/
namespace Go.Proofs.YtfiefglagknclaaGreatDoor
open Go.RowKit
set_option maxHeartbeats 4000000
set_option maxRecDepth 100000
set_option linter.unusedVariables false

/-- A row of another type stands when a row is stored. -/
theorem own_setRow_t {w : World} {base : Nat} {e t : TypeId} {size n : Nat} {v : Value} {xs : List Value} (h : w.ownsRow base e size v n xs) {g : Nat} {old : Array Value} (hg : w.heap[g]? = some (.cells old t (0, 0))) (hne : t ≠ e) (cs : Array Value) : (w.setRow g cs).ownsRow base e size v n xs := by
  obtain ⟨h1, h2⟩ := h
  refine ⟨h1, ?_⟩
  rcases h2 with h2 | ⟨g', cap, cur, hv, hb, hh, r⟩
  · exact .inl h2
  · have hgg : g ≠ g' := by
      rintro rfl
      rw [hg] at hh
      injection hh with hh
      injection hh with _ e2
      exact hne e2
    exact .inr ⟨g', cap, cur, hv, hb, by rw [← hh]; simp only [World.setRow, Array.getElem?_modify]; rw [if_neg hgg], r⟩
theorem tok_moved {w w' : World} (t : Tk.Tok) {en : Nat} {er : Int} {n1 n2 lv : Value} {cs : Array Value} (hg : w'.heap[w.heap.size]? = some (.cells #[.int .i64 0, .bool false, .slice none 0 0, .slice none 0 0, .slice none 0 0, .string ⟨#[]⟩, .int .i64 0, .int .i64 0] 67 (0, 0)))
    (h1 : IsRes w' n1 t.n.top) (h2 : IsRes w' n2 t.n.bot) (h3 : w'.ownsRow 0 3 1 lv t.l.length (I64 t.l)) (hb : Below w.heap.size w w') :
    TokOut w t en er (.returned (.tuple #[.agg #[.int .i64 t.kind, .bool t.n.neg, n1, n2, lv, .string ⟨t.s.toArray⟩, .int .i64 t.c, .int .i64 0], .int .i64 (en : Int), .int .i64 er])) (w'.setRow w.heap.size cs) :=
  ⟨n1, n2, lv, rfl, h1.setRowU hg tok_noU _, h2.setRowU hg tok_noU _, own_setRow_t h3 hg (by decide) _, rBelow.setRow hb (Nat.le_refl _) _⟩

theorem next_any (A : Option Addr) (c : Nat) (l : List Int) (i : Nat) (w : World) (hl : Lies w w.heap.size A (I64 l)) (hn : l.length ≤ 25000) (hcap : l.length ≤ c) (hm : ∀ x ∈ l, Gl.may x = true) (hi : i < l.length) (hb1 : Tk.cls (l.getD i (-1)) ≠ 1) :
    Calls Tryz.prog 34 #[.slice A l.length c, .int .i64 (i : Int)] w (ReadOut w l i) := by
  obtain ⟨r, hr⟩ : ∃ r, r = Tk.read l i := ⟨_, rfl⟩
  obtain ⟨t, n, er⟩ := r
  obtain ⟨en, hen⟩ : ∃ en, en = (if er = 0 then i + n else 0) := ⟨_, rfl⟩
  have HR : Hid (∀ e w', TokOut w t en er e w' → ReadOut w l i e w') := Lib.hid (fun e w' h => by unfold ReadOut; rw [← hr]; dsimp only; rw [← hen]; exact h)
  have HRD := Lib.hid hr
  have HEN := Lib.hid hen
  obtain ⟨W, hW⟩ : ∃ W, W = w.alloc (.cells #[.int .i64 0, .bool false, .slice none 0 0, .slice none 0 0, .slice none 0 0, .string ⟨#[]⟩, .int .i64 0, .int .i64 0] 67) := ⟨_, rfl⟩
  have hb0 : Below w.heap.size w W := by rw [hW]; exact (Below.refl _ _).alloc (Nat.le_refl _) _
  have HGA : Hid (W.heap[w.heap.size]? = some (.cells #[.int .i64 0, .bool false, .slice none 0 0, .slice none 0 0, .slice none 0 0, .string ⟨#[]⟩, .int .i64 0, .int .i64 0] 67 (0, 0))) := Lib.hid (by rw [hW]; exact heap_alloc_new w _)
  have HWS : Hid (W.heap.size = w.heap.size + 1) := Lib.hid (by rw [hW]; simp)
  have hlW : Lies W W.heap.size A (I64 l) := (hl.below hb0).more hb0.size
  obtain ⟨x, hx⟩ : ∃ x, x = l.getD i (-1) := ⟨_, rfl⟩
  rw [← hx] at hb1
  have HX := Lib.hid hx
  have CA := Lib.hid (fun wx => class_any x wx)
  have NUM := Lib.hid (fun h => tokNumber_any A c l i W hlW hn hcap hm hi h)
  have NAM := Lib.hid (fun h => name_any A c l i W hlW (by omega) hcap hm hi h)
  have TXT := Lib.hid (fun h => tokText_any A c l i W hlW hn hcap hi h)
  have PRT := Lib.hid (fun h => port_any A c l i W hlW hn hcap hi h)
  rw [← hx] at NUM NAM TXT PRT
  have HW : Hid (W = w.alloc (.cells #[.int .i64 0, .bool false, .slice none 0 0, .slice none 0 0, .slice none 0 0, .string ⟨#[]⟩, .int .i64 0, .int .i64 0] 67)) := Lib.hid hW
  obtain ⟨b, off, rfl, hb, g0⟩ := lies_i64 hlW hi
  rw [← Tk.getD_in hi, ← hx] at g0
  obtain ⟨k, hk⟩ : ∃ k, k = Tk.cls x := ⟨_, rfl⟩
  rw [← hk] at CA hb1 NUM NAM
  have HK := Lib.hid hk
  clear hl hlW hm hW hr hen hx hk
  go_enter Tryz.func34, Tryz.ntmps34
  go_upto_region 1 with fail
  rw [← HW.out]
  go_upto_region 2 with fail
  go_wp2_with fail
  refine (CA.out _).mono ?_
  rintro e w' ⟨rfl, rfl⟩
  by_cases k3 : k = 3
  · have q3 : (k == 3) = true := by rw [k3]; rfl
    have HCA := Lib.hid (NUM.out k3)
    unfold ReadOut at HCA
    rw [← HRD.out] at HCA
    dsimp only at HCA
    rw [← HEN.out] at HCA
    clear NAM TXT PRT NUM hb1 k3
    go_wp2_with fail
    refine HCA.out.mono ?_
    intro e w' h
    obtain ⟨n1, n2, lv, he, h1, h2, h3, h4⟩ := h
    have he : e = .returned (.tuple #[.agg #[.int .i64 t.kind, .bool t.n.neg, n1, n2, lv, .string ⟨t.s.toArray⟩, .int .i64 t.c, .int .i64 0], .int .i64 (en : Int), .int .i64 er]) := he
    subst he
    have h1' := h1
    have h2' := h2
    obtain ⟨A1, c1, rfl, _⟩ := h1'
    obtain ⟨A2, c2, rfl, _⟩ := h2'
    obtain ⟨A3, c3, rfl, _, _⟩ := own_slice h3
    have HGX : Hid (w'.heap[w.heap.size]? = some (.cells #[.int .i64 0, .bool false, .slice none 0 0, .slice none 0 0, .slice none 0 0, .string ⟨#[]⟩, .int .i64 0, .int .i64 0] 67 (0, 0))) := Lib.hid ((h4.block w.heap.size (by rw [HWS.out]; omega)).trans HGA.out)
    have H1 := Lib.hid h1
    have H2 := Lib.hid h2
    have H3 := Lib.hid h3
    have H4 := Lib.hid h4
    clear h1 h2 h3 h4
    go_wp2_with (with_reducible refine wpList_store_row rfl 67 (.tmp 4) (.tmp 19) rfl w.heap.size #[.int .i64 t.kind, .bool t.n.neg, .slice A1 t.n.top.length c1, .slice A2 t.n.bot.length c2, .slice A3 t.l.length c3, .string ⟨t.s.toArray⟩, .int .i64 t.c, .int .i64 0] rfl rfl 67 #[.int .i64 0, .bool false, .slice none 0 0, .slice none 0 0, .slice none 0 0, .string ⟨#[]⟩, .int .i64 0, .int .i64 0] HGX.out (tok_infoR _ _ _ _ _ _ _ _) rfl (tok_one _ _ _ _ _ _ _ _ _ _ _ _ _ _) ?_)
    refine bodyPost_ret (results_cell_row_tmp2 (by rfl) _ _ w.heap.size 67 #[.int .i64 t.kind, .bool t.n.neg, .slice A1 t.n.top.length c1, .slice A2 t.n.bot.length c2, .slice A3 t.l.length c3, .string ⟨t.s.toArray⟩, .int .i64 t.c, .int .i64 0] (0, 0) _ _ _ (by rfl) (by rfl) (by rfl) (rheap_same HGX.out) Tryz.underlying67 rfl (tok_infoR _ _ _ _ _ _ _ _)) rfl (HR.out _ _ ?_)
    exact tok_moved t (HGX.out) H1.out H2.out H3.out (hb0.trans (H4.out.mono (by rw [HWS.out]; omega)))
  · have q3 : (k == 3) = false := beq_eq_false_iff_ne.2 k3
    by_cases k2 : k = 2
    · have q2 : (k == 2) = true := by rw [k2]; rfl
      have HCA := Lib.hid (NAM.out k2)
      unfold ReadOut at HCA
      rw [← HRD.out] at HCA
      dsimp only at HCA
      rw [← HEN.out] at HCA
      clear NAM TXT PRT NUM hb1 k3 k2
      go_wp2_with fail
      refine HCA.out.mono ?_
      intro e w' h
      obtain ⟨n1, n2, lv, he, h1, h2, h3, h4⟩ := h
      have he : e = .returned (.tuple #[.agg #[.int .i64 t.kind, .bool t.n.neg, n1, n2, lv, .string ⟨t.s.toArray⟩, .int .i64 t.c, .int .i64 0], .int .i64 (en : Int), .int .i64 er]) := he
      subst he
      have h1' := h1
      have h2' := h2
      obtain ⟨A1, c1, rfl, _⟩ := h1'
      obtain ⟨A2, c2, rfl, _⟩ := h2'
      obtain ⟨A3, c3, rfl, _, _⟩ := own_slice h3
      have HGX : Hid (w'.heap[w.heap.size]? = some (.cells #[.int .i64 0, .bool false, .slice none 0 0, .slice none 0 0, .slice none 0 0, .string ⟨#[]⟩, .int .i64 0, .int .i64 0] 67 (0, 0))) := Lib.hid ((h4.block w.heap.size (by rw [HWS.out]; omega)).trans HGA.out)
      have H1 := Lib.hid h1
      have H2 := Lib.hid h2
      have H3 := Lib.hid h3
      have H4 := Lib.hid h4
      clear h1 h2 h3 h4
      go_wp2_with (with_reducible refine wpList_store_row rfl 67 (.tmp 4) (.tmp 27) rfl w.heap.size #[.int .i64 t.kind, .bool t.n.neg, .slice A1 t.n.top.length c1, .slice A2 t.n.bot.length c2, .slice A3 t.l.length c3, .string ⟨t.s.toArray⟩, .int .i64 t.c, .int .i64 0] rfl rfl 67 #[.int .i64 0, .bool false, .slice none 0 0, .slice none 0 0, .slice none 0 0, .string ⟨#[]⟩, .int .i64 0, .int .i64 0] HGX.out (tok_infoR _ _ _ _ _ _ _ _) rfl (tok_one _ _ _ _ _ _ _ _ _ _ _ _ _ _) ?_)
      refine bodyPost_ret (results_cell_row_tmp2 (by rfl) _ _ w.heap.size 67 #[.int .i64 t.kind, .bool t.n.neg, .slice A1 t.n.top.length c1, .slice A2 t.n.bot.length c2, .slice A3 t.l.length c3, .string ⟨t.s.toArray⟩, .int .i64 t.c, .int .i64 0] (0, 0) _ _ _ (by rfl) (by rfl) (by rfl) (rheap_same HGX.out) Tryz.underlying67 rfl (tok_infoR _ _ _ _ _ _ _ _)) rfl (HR.out _ _ ?_)
      exact tok_moved t (HGX.out) H1.out H2.out H3.out (hb0.trans (H4.out.mono (by rw [HWS.out]; omega)))
    · have q2 : (k == 2) = false := beq_eq_false_iff_ne.2 k2
      by_cases k0 : k = 0
      · have q0 : (k == 0) = true := by rw [k0]; rfl
        have HRE : Hid (t = Tk.none_ ∧ en = 0 ∧ er = 1) := Lib.hid (by
          have h := HRD.out
          unfold Tk.read at h
          rw [← HX.out] at h
          dsimp only at h
          rw [← HK.out, if_neg k3, if_neg k2, if_neg (fun e => by have h' := HK.out; rw [e, k0] at h'; exact absurd h' (by decide)), if_neg (fun e => by have h' := HK.out; rcases e with e | e <;> (rw [e, k0] at h'; exact absurd h' (by decide))), if_pos k0] at h
          have e1 := congrArg (fun p => p.1) h
          have e2 := congrArg (fun p => p.2.2) h
          dsimp only at e1 e2
          exact ⟨e1, by rw [HEN.out, e2]; rfl, e2⟩)
        clear hb1 k0 k2 k3
        go_wp2_with (with_reducible refine wpList_store_row rfl 67 (.tmp 4) (.tmp 32) rfl w.heap.size #[.int .i64 0, .bool false, .slice none 0 0, .slice none 0 0, .slice none 0 0, .string ⟨#[]⟩, .int .i64 0, .int .i64 0] rfl rfl 67 #[.int .i64 0, .bool false, .slice none 0 0, .slice none 0 0, .slice none 0 0, .string ⟨#[]⟩, .int .i64 0, .int .i64 0] HGA.out (tok_infoR _ _ _ _ _ _ _ _) rfl (tok_one _ _ _ _ _ _ _ _ _ _ _ _ _ _) ?_)
        refine bodyPost_ret (results_cell_row_tmp2 (by rfl) _ _ w.heap.size 67 #[.int .i64 0, .bool false, .slice none 0 0, .slice none 0 0, .slice none 0 0, .string ⟨#[]⟩, .int .i64 0, .int .i64 0] (0, 0) _ _ _ (by rfl) (by rfl) (by rfl) (rheap_same HGA.out) Tryz.underlying67 rfl (tok_infoR _ _ _ _ _ _ _ _)) rfl (HR.out _ _ ?_)
        obtain ⟨r1, r2, r3⟩ := HRE.out
        rw [r1, r2, r3]
        exact ⟨_, _, _, rfl, isRes_nil _, isRes_nil _, World.ownsRow_nil _ _ _ _, rBelow.setRow hb0 (Nat.le_refl _) _⟩
      · have q0 : (k == 0) = false := beq_eq_false_iff_ne.2 k0
        by_cases x39 : x = 39
        · have y39 : (x == 39) = true := by rw [x39]; rfl
          have HCA := Lib.hid (TXT.out x39)
          unfold ReadOut at HCA
          rw [← HRD.out] at HCA
          dsimp only at HCA
          rw [← HEN.out] at HCA
          clear NAM TXT PRT NUM hb1 k3 k2 k0 x39
          go_wp2_with fail
          refine HCA.out.mono ?_
          intro e w' h
          obtain ⟨n1, n2, lv, he, h1, h2, h3, h4⟩ := h
          have he : e = .returned (.tuple #[.agg #[.int .i64 t.kind, .bool t.n.neg, n1, n2, lv, .string ⟨t.s.toArray⟩, .int .i64 t.c, .int .i64 0], .int .i64 (en : Int), .int .i64 er]) := he
          subst he
          have h1' := h1
          have h2' := h2
          obtain ⟨A1, c1, rfl, _⟩ := h1'
          obtain ⟨A2, c2, rfl, _⟩ := h2'
          obtain ⟨A3, c3, rfl, _, _⟩ := own_slice h3
          have HGX : Hid (w'.heap[w.heap.size]? = some (.cells #[.int .i64 0, .bool false, .slice none 0 0, .slice none 0 0, .slice none 0 0, .string ⟨#[]⟩, .int .i64 0, .int .i64 0] 67 (0, 0))) := Lib.hid ((h4.block w.heap.size (by rw [HWS.out]; omega)).trans HGA.out)
          have H1 := Lib.hid h1
          have H2 := Lib.hid h2
          have H3 := Lib.hid h3
          have H4 := Lib.hid h4
          clear h1 h2 h3 h4
          go_wp2_with (with_reducible refine wpList_store_row rfl 67 (.tmp 4) (.tmp 39) rfl w.heap.size #[.int .i64 t.kind, .bool t.n.neg, .slice A1 t.n.top.length c1, .slice A2 t.n.bot.length c2, .slice A3 t.l.length c3, .string ⟨t.s.toArray⟩, .int .i64 t.c, .int .i64 0] rfl rfl 67 #[.int .i64 0, .bool false, .slice none 0 0, .slice none 0 0, .slice none 0 0, .string ⟨#[]⟩, .int .i64 0, .int .i64 0] HGX.out (tok_infoR _ _ _ _ _ _ _ _) rfl (tok_one _ _ _ _ _ _ _ _ _ _ _ _ _ _) ?_)
          refine bodyPost_ret (results_cell_row_tmp2 (by rfl) _ _ w.heap.size 67 #[.int .i64 t.kind, .bool t.n.neg, .slice A1 t.n.top.length c1, .slice A2 t.n.bot.length c2, .slice A3 t.l.length c3, .string ⟨t.s.toArray⟩, .int .i64 t.c, .int .i64 0] (0, 0) _ _ _ (by rfl) (by rfl) (by rfl) (rheap_same HGX.out) Tryz.underlying67 rfl (tok_infoR _ _ _ _ _ _ _ _)) rfl (HR.out _ _ ?_)
          exact tok_moved t (HGX.out) H1.out H2.out H3.out (hb0.trans (H4.out.mono (by rw [HWS.out]; omega)))
        · have y39 : (x == 39) = false := beq_eq_false_iff_ne.2 x39
          by_cases xp : x = 9109 ∨ x = 9054
          · rcases xp with xq | xq
            · have y1 : (x == 9109) = true := by rw [xq]; rfl
              have HCA := Lib.hid (PRT.out (.inl xq))
              unfold ReadOut at HCA
              rw [← HRD.out] at HCA
              dsimp only at HCA
              rw [← HEN.out] at HCA
              clear NAM TXT PRT NUM hb1 k3 k2 k0 x39 xq
              go_wp2_with fail
              refine HCA.out.mono ?_
              intro e w' h
              obtain ⟨n1, n2, lv, he, h1, h2, h3, h4⟩ := h
              have he : e = .returned (.tuple #[.agg #[.int .i64 t.kind, .bool t.n.neg, n1, n2, lv, .string ⟨t.s.toArray⟩, .int .i64 t.c, .int .i64 0], .int .i64 (en : Int), .int .i64 er]) := he
              subst he
              have h1' := h1
              have h2' := h2
              obtain ⟨A1, c1, rfl, _⟩ := h1'
              obtain ⟨A2, c2, rfl, _⟩ := h2'
              obtain ⟨A3, c3, rfl, _, _⟩ := own_slice h3
              have HGX : Hid (w'.heap[w.heap.size]? = some (.cells #[.int .i64 0, .bool false, .slice none 0 0, .slice none 0 0, .slice none 0 0, .string ⟨#[]⟩, .int .i64 0, .int .i64 0] 67 (0, 0))) := Lib.hid ((h4.block w.heap.size (by rw [HWS.out]; omega)).trans HGA.out)
              have H1 := Lib.hid h1
              have H2 := Lib.hid h2
              have H3 := Lib.hid h3
              have H4 := Lib.hid h4
              clear h1 h2 h3 h4
              go_wp2_with (with_reducible refine wpList_store_row rfl 67 (.tmp 4) (.tmp 48) rfl w.heap.size #[.int .i64 t.kind, .bool t.n.neg, .slice A1 t.n.top.length c1, .slice A2 t.n.bot.length c2, .slice A3 t.l.length c3, .string ⟨t.s.toArray⟩, .int .i64 t.c, .int .i64 0] rfl rfl 67 #[.int .i64 0, .bool false, .slice none 0 0, .slice none 0 0, .slice none 0 0, .string ⟨#[]⟩, .int .i64 0, .int .i64 0] HGX.out (tok_infoR _ _ _ _ _ _ _ _) rfl (tok_one _ _ _ _ _ _ _ _ _ _ _ _ _ _) ?_)
              refine bodyPost_ret (results_cell_row_tmp2 (by rfl) _ _ w.heap.size 67 #[.int .i64 t.kind, .bool t.n.neg, .slice A1 t.n.top.length c1, .slice A2 t.n.bot.length c2, .slice A3 t.l.length c3, .string ⟨t.s.toArray⟩, .int .i64 t.c, .int .i64 0] (0, 0) _ _ _ (by rfl) (by rfl) (by rfl) (rheap_same HGX.out) Tryz.underlying67 rfl (tok_infoR _ _ _ _ _ _ _ _)) rfl (HR.out _ _ ?_)
              exact tok_moved t (HGX.out) H1.out H2.out H3.out (hb0.trans (H4.out.mono (by rw [HWS.out]; omega)))
            · have y1 : (x == 9109) = false := by rw [xq]; rfl
              have y2 : (x == 9054) = true := by rw [xq]; rfl
              have HCA := Lib.hid (PRT.out (.inr xq))
              unfold ReadOut at HCA
              rw [← HRD.out] at HCA
              dsimp only at HCA
              rw [← HEN.out] at HCA
              clear NAM TXT PRT NUM hb1 k3 k2 k0 x39 xq
              go_wp2_with fail
              refine HCA.out.mono ?_
              intro e w' h
              obtain ⟨n1, n2, lv, he, h1, h2, h3, h4⟩ := h
              have he : e = .returned (.tuple #[.agg #[.int .i64 t.kind, .bool t.n.neg, n1, n2, lv, .string ⟨t.s.toArray⟩, .int .i64 t.c, .int .i64 0], .int .i64 (en : Int), .int .i64 er]) := he
              subst he
              have h1' := h1
              have h2' := h2
              obtain ⟨A1, c1, rfl, _⟩ := h1'
              obtain ⟨A2, c2, rfl, _⟩ := h2'
              obtain ⟨A3, c3, rfl, _, _⟩ := own_slice h3
              have HGX : Hid (w'.heap[w.heap.size]? = some (.cells #[.int .i64 0, .bool false, .slice none 0 0, .slice none 0 0, .slice none 0 0, .string ⟨#[]⟩, .int .i64 0, .int .i64 0] 67 (0, 0))) := Lib.hid ((h4.block w.heap.size (by rw [HWS.out]; omega)).trans HGA.out)
              have H1 := Lib.hid h1
              have H2 := Lib.hid h2
              have H3 := Lib.hid h3
              have H4 := Lib.hid h4
              clear h1 h2 h3 h4
              go_wp2_with (with_reducible refine wpList_store_row rfl 67 (.tmp 4) (.tmp 48) rfl w.heap.size #[.int .i64 t.kind, .bool t.n.neg, .slice A1 t.n.top.length c1, .slice A2 t.n.bot.length c2, .slice A3 t.l.length c3, .string ⟨t.s.toArray⟩, .int .i64 t.c, .int .i64 0] rfl rfl 67 #[.int .i64 0, .bool false, .slice none 0 0, .slice none 0 0, .slice none 0 0, .string ⟨#[]⟩, .int .i64 0, .int .i64 0] HGX.out (tok_infoR _ _ _ _ _ _ _ _) rfl (tok_one _ _ _ _ _ _ _ _ _ _ _ _ _ _) ?_)
              refine bodyPost_ret (results_cell_row_tmp2 (by rfl) _ _ w.heap.size 67 #[.int .i64 t.kind, .bool t.n.neg, .slice A1 t.n.top.length c1, .slice A2 t.n.bot.length c2, .slice A3 t.l.length c3, .string ⟨t.s.toArray⟩, .int .i64 t.c, .int .i64 0] (0, 0) _ _ _ (by rfl) (by rfl) (by rfl) (rheap_same HGX.out) Tryz.underlying67 rfl (tok_infoR _ _ _ _ _ _ _ _)) rfl (HR.out _ _ ?_)
              exact tok_moved t (HGX.out) H1.out H2.out H3.out (hb0.trans (H4.out.mono (by rw [HWS.out]; omega)))
          · have y1 : (x == 9109) = false := beq_eq_false_iff_ne.2 (fun h => xp (.inl h))
            have y2 : (x == 9054) = false := beq_eq_false_iff_ne.2 (fun h => xp (.inr h))
            have HRE : Hid (t = ⟨7, Rt.none_, [], [], x, i⟩ ∧ en = i + 1 ∧ er = 0) := Lib.hid (by
              have h := HRD.out
              unfold Tk.read at h
              rw [← HX.out] at h
              dsimp only at h
              rw [← HK.out, if_neg k3, if_neg k2, if_neg x39, if_neg xp, if_neg k0] at h
              have e1 := congrArg (fun p => p.1) h
              have e2 := congrArg (fun p => p.2.2) h
              have e3 := congrArg (fun p => p.2.1) h
              dsimp only at e1 e2 e3
              exact ⟨e1, by rw [HEN.out, e2, e3]; rfl, e2⟩)
            clear hb1 k0 k2 k3 x39 xp
            go_wp2_with (with_reducible refine wpList_store_row rfl 67 (.tmp 4) (.tmp 52) rfl w.heap.size #[.int .i64 7, .bool false, .slice none 0 0, .slice none 0 0, .slice none 0 0, .string ⟨#[]⟩, .int .i64 x, .int .i64 0] rfl rfl 67 #[.int .i64 0, .bool false, .slice none 0 0, .slice none 0 0, .slice none 0 0, .string ⟨#[]⟩, .int .i64 0, .int .i64 0] HGA.out (tok_infoR _ _ _ _ _ _ _ _) rfl (tok_one _ _ _ _ _ _ _ _ _ _ _ _ _ _) ?_)
            refine bodyPost_ret (results_cell_row_tmp2 (by rfl) _ _ w.heap.size 67 #[.int .i64 7, .bool false, .slice none 0 0, .slice none 0 0, .slice none 0 0, .string ⟨#[]⟩, .int .i64 x, .int .i64 0] (0, 0) _ _ _ (by rfl) (by rfl) (by rfl) (rheap_same HGA.out) Tryz.underlying67 rfl (tok_infoR _ _ _ _ _ _ _ _)) rfl (HR.out _ _ ?_)
            obtain ⟨r1, r2, r3⟩ := HRE.out
            rw [r1, r2, r3]
            exact ⟨_, _, _, rfl, isRes_nil _, isRes_nil _, World.ownsRow_nil _ _ _ _, rBelow.setRow hb0 (Nat.le_refl _) _⟩
end Go.Proofs.YtfiefglagknclaaGreatDoor

/-
  Rows of tokens: what a slice of tokens holds, and that it stands when the row grows.
-/
namespace Go.Proofs.YtfiefglagknclaaGreatDoor
open Go.RowKit
set_option maxHeartbeats 4000000
set_option maxRecDepth 100000
set_option linter.unusedVariables false

/-- No limb of a number. -/
def NoU (u : Value) : Prop := ∀ n : Int, u ≠ .int .u32 n
theorem IsRes.grownQ {w w' : World} {v : Value} {ds : List Nat} (h : IsRes w v ds) {base : Nat} {e : TypeId} {size n : Nat} {r : Value} {xs : List Value} (ho : w.ownsQ NoU base e size r n xs) (hg : w.grownBy w' r.ownBlock) : IsRes w' v ds := by
  obtain ⟨A, c, h1, h2, h3, h4, h5⟩ := h
  refine ⟨A, c, h1, h2, h3, h4, ?_⟩
  rcases h5 with h5 | ⟨b, off, e, hb, hc⟩
  · exact .inl h5
  · cases ds with
    | nil => exact .inl rfl
    | cons x l =>
      have hne : r.ownBlock ≠ some b := ho.apart (hc 0 _ rfl) (fun hq => hq _ rfl)
      refine .inr ⟨b, off, e, Nat.lt_of_lt_of_le hb hg.size, fun i u hu => ?_⟩
      rw [World.cell?_of_block (w := w) (hg.block b hb (fun e => hne e.symm))]
      exact hc i u hu
theorem IsRes.below_ {w w' : World} {v : Value} {ds : List Nat} (h : IsRes w v ds) (hb : Below w.heap.size w w') : IsRes w' v ds := by
  obtain ⟨A, c, h1, h2, h3, h4, h5⟩ := h
  exact ⟨A, c, h1, h2, h3, h4, (h5.below hb).more hb.size⟩
theorem own_grown_t {w w' : World} {base base' : Nat} {e t : TypeId} {q : Value → Prop} {size size' n n' : Nat} {v r : Value} {xs xs' : List Value} (h : w.ownsRow base e size v n xs) (ho : w.ownsQ q base' t size' r n' xs') (hne : t ≠ e) (hg : w.grownBy w' r.ownBlock) : w'.ownsRow base e size v n xs := by
  refine h.kept hg ?_
  rcases h.2 with ⟨rfl, _⟩ | ⟨g, cap, cur, rfl, hb, hh, _⟩
  · exact .inl rfl
  · right
    rcases ho.2 with ⟨rfl, _⟩ | ⟨g', cap', cur', rfl, hb', hh', _⟩
    · simp [Value.ownBlock]
    · intro e1
      simp only [Value.ownBlock] at e1
      injection e1 with e1
      have e1 : g = g' := e1
      subst e1
      rw [hh] at hh'
      injection hh' with hh'
      injection hh' with _ e2
      exact hne e2.symm
/-- The cells of a row of tokens. -/
def TokRows (w : World) : List Tk.Tok → List Value → Prop
  | [], xs => xs = []
  | t :: ts, xs => ∃ n1 n2 lv r, xs = tokCells t.kind t.n.neg n1 n2 lv t.s t.c t.at_ ++ r ∧ IsRes w n1 t.n.top ∧ IsRes w n2 t.n.bot ∧ w.ownsRow 0 3 1 lv t.l.length (I64 t.l) ∧ TokRows w ts r
theorem TokRows.len {w : World} : ∀ {ts : List Tk.Tok} {xs : List Value}, TokRows w ts xs → xs.length = ts.length * 8
  | [], xs, h => by have h : xs = [] := h; subst h; rfl
  | t :: ts, xs, h => by
    obtain ⟨n1, n2, lv, r, rfl, _, _, _, hr⟩ := h
    rw [List.length_append, hr.len, List.length_cons, Nat.succ_mul]
    show 8 + _ = _
    omega
theorem TokRows.snoc {w : World} {t : Tk.Tok} {n1 n2 lv : Value} (h1 : IsRes w n1 t.n.top) (h2 : IsRes w n2 t.n.bot) (h3 : w.ownsRow 0 3 1 lv t.l.length (I64 t.l)) : ∀ {ts : List Tk.Tok} {xs : List Value}, TokRows w ts xs → TokRows w (ts ++ [t]) (xs ++ tokCells t.kind t.n.neg n1 n2 lv t.s t.c t.at_)
  | [], xs, h => by
    have h : xs = [] := h
    subst h
    exact ⟨n1, n2, lv, [], by simp, h1, h2, h3, rfl⟩
  | u :: ts, xs, h => by
    obtain ⟨m1, m2, mv, r, rfl, k1, k2, k3, hr⟩ := h
    exact ⟨m1, m2, mv, _, by rw [List.append_assoc], k1, k2, k3, TokRows.snoc h1 h2 h3 hr⟩
theorem TokRows.map {w w' : World} (h1 : ∀ v ds, IsRes w v ds → IsRes w' v ds) (h2 : ∀ v l, w.ownsRow 0 3 1 v l (I64 []) → True) (h3 : ∀ v (l : List Int), w.ownsRow 0 3 1 v l.length (I64 l) → w'.ownsRow 0 3 1 v l.length (I64 l)) : ∀ {ts : List Tk.Tok} {xs : List Value}, TokRows w ts xs → TokRows w' ts xs
  | [], xs, h => h
  | u :: ts, xs, h => by
    obtain ⟨m1, m2, mv, r, e, k1, k2, k3, hr⟩ := h
    exact ⟨m1, m2, mv, r, e, h1 _ _ k1, h1 _ _ k2, h3 _ _ k3, TokRows.map h1 h2 h3 hr⟩
theorem TokRows.below {w w' : World} {ts : List Tk.Tok} {xs : List Value} (h : TokRows w ts xs) (hb : Below w.heap.size w w') : TokRows w' ts xs :=
  TokRows.map (fun _ _ k => k.below_ hb) (fun _ _ _ => trivial) (fun _ _ k => own_below_ k hb) h
theorem TokRows.grown {w w' : World} {ts : List Tk.Tok} {xs : List Value} (h : TokRows w ts xs) {base : Nat} {t : TypeId} {size n : Nat} {r : Value} {ys : List Value} (ho : w.ownsQ NoU base t size r n ys) (hne : t ≠ 3) (hg : w.grownBy w' r.ownBlock) : TokRows w' ts xs :=
  TokRows.map (fun _ _ k => k.grownQ ho hg) (fun _ _ _ => trivial) (fun _ _ k => own_grown_t k ho hne hg) h
/-- A slice of tokens. -/
def IsToks (w : World) (base : Nat) (v : Value) (ts : List Tk.Tok) : Prop := ∃ xs, w.ownsQ NoU base 67 8 v ts.length xs ∧ TokRows w ts xs
theorem IsToks.nil (w : World) (base : Nat) : IsToks w base (.slice none 0 0) [] := ⟨[], World.ownsQ_nil _ _ _ _ _, rfl⟩
theorem ownsQ_below {w w' : World} {q : Value → Prop} {base : Nat} {e : TypeId} {size n : Nat} {v : Value} {xs : List Value} (h : w.ownsQ q base e size v n xs) (hb : Below w.heap.size w w') : w'.ownsQ q base e size v n xs := by
  obtain ⟨h1, h2⟩ := h
  refine ⟨h1, ?_⟩
  rcases h2 with h2 | ⟨g, cap, cur, hv, hbs, hh, r⟩
  · exact .inl h2
  · have hg : g < w.heap.size := by
      rcases Nat.lt_or_ge g w.heap.size with h | h
      · exact h
      · rw [Array.getElem?_eq_none h] at hh; cases hh
    exact .inr ⟨g, cap, cur, hv, hbs, (hb.block g hg).trans hh, r⟩
theorem IsToks.below {w w' : World} {base : Nat} {v : Value} {ts : List Tk.Tok} (h : IsToks w base v ts) (hb : Below w.heap.size w w') : IsToks w' base v ts := by
  obtain ⟨xs, h1, h2⟩ := h
  exact ⟨xs, ownsQ_below h1 hb, h2.below hb⟩
theorem tokCells_noU (k : Int) (neg : Bool) {n1 n2 lv : Value} (h1 : NoU n1) (h2 : NoU n2) (h3 : NoU lv) (s : List UInt8) (c a : Int) : ∀ u ∈ tokCells k neg n1 n2 lv s c a, NoU u := by
  intro u hu n e
  subst e
  unfold tokCells at hu
  simp only [List.mem_cons, List.not_mem_nil, or_false] at hu
  rcases hu with hu | hu | hu | hu | hu | hu | hu | hu
  · injection hu with e1; cases e1
  · cases hu
  · exact h1 n hu.symm
  · exact h2 n hu.symm
  · exact h3 n hu.symm
  · cases hu
  · injection hu with e1; cases e1
  · injection hu with e1; cases e1
theorem IsRes.noU {w : World} {v : Value} {ds : List Nat} (h : IsRes w v ds) : NoU v := by
  obtain ⟨A, c, rfl, _⟩ := h
  intro n e; cases e
theorem own_noU {w : World} {base : Nat} {e : TypeId} {size n : Nat} {v : Value} {xs : List Value} (h : w.ownsRow base e size v n xs) : NoU v := by
  obtain ⟨A, c, rfl, _, _⟩ := own_slice h
  intro n e; cases e
theorem token_info : (Tryz.prog.info? 67).map (fun i => (i.zero, i.size, i.bytes)) = some (some (.agg #[.int .i64 0, .bool false, .slice none 0 0, .slice none 0 0, .slice none 0 0, .string ⟨#[]⟩, .int .i64 0, .int .i64 0]), 8, 120) := by kernel_rfl
end Go.Proofs.YtfiefglagknclaaGreatDoor
