/-
  Texts of this proof, joined (by wip/bin/bundle.py): RTok2, Tree8, Tree9, Tree12, Tree13.
-/
import Derived.Test.YtceplkpjnebnfaaGreatDoorM10
import Derived.Laws.EntriesVeiled
import Derived.Deep.WholeRow
/-
  scrimref20: at, digit, word, words, figures.
-/
namespace Go.Proofs.YtceplkpjnebnfaaGreatDoor
open Go.RowKit
set_option maxHeartbeats 4000000
set_option maxRecDepth 100000
set_option linter.unusedVariables false

end Go.Proofs.YtceplkpjnebnfaaGreatDoor

/-
  The document's looks at statements and at characters; the lists of operators; which characters are functions.
-/
namespace Go.Proofs.YtceplkpjnebnfaaGreatDoor
open Go.RowKit Tr
set_option maxHeartbeats 4000000
set_option maxRecDepth 100000
set_option linter.unusedVariables false

def stmtOk (b : Bool) (k : Int) : Bool := array k || (k == 27) || (b && ((k == 25) || (k == 26)))
theorem statements_bad {l : List Tree} {b : Bool} {i : Nat} (hi : i < l.length) (h : stmtOk b (kind l[i]) = false) : statements (l.map kind) b = false := by
  unfold statements
  rw [show (l.map kind).all (fun x => array x || (x == 27) || (b && ((x == 25) || (x == 26)))) = false from List.all_eq_false.2 ⟨kind l[i], List.mem_map_of_mem (List.getElem_mem hi), by rw [show (array (kind l[i]) || (kind l[i] == 27) || (b && ((kind l[i] == 25) || (kind l[i] == 26)))) = false from h]; simp⟩]
  rfl
theorem statements_good {l : List Tree} {b : Bool} (h : ∀ i (hi : i < l.length), stmtOk b (kind l[i]) = true) : statements (l.map kind) b = decide (0 < l.length) := by
  unfold statements
  rw [show (l.map kind).all (fun x => array x || (x == 27) || (b && ((x == 25) || (x == 26)))) = true from List.all_eq_true.2 (fun x hx => by
    obtain ⟨a, ha, rfl⟩ := List.mem_map.1 hx
    obtain ⟨i, hi, rfl⟩ := List.mem_iff_getElem.1 ha
    exact h i hi)]
  cases l <;> simp
theorem statements21_any (a : Tree) (vs : List Value) (br : Bool) (w : World) (B : Nat) (h : IsTree w B a vs) (hB : B ≤ w.heap.size) :
    Calls Tryz.prog 94 #[.agg vs.toArray, .bool br] w (BoolOut w (statements ((kids a).map kind) br)) := by
  obtain ⟨k, o, m, nm, t, l⟩ := a
  show Calls _ _ _ _ (BoolOut w (statements (l.map kind) br))
  obtain ⟨W, hW⟩ : ∃ W, W = w.alloc (.cells vs.toArray 28) := ⟨_, rfl⟩
  obtain ⟨A1, A2, A3, A4, c1, c2, c3, c4, us, HO, HL, HC, hW8, HG, hWl, hWb⟩ := tree_box h hW
  have hf4 := HO.out.f4.le (by omega)
  have q7 : W.cell? ⟨w.heap.size, 7, none⟩ = some (.slice A4 l.length c4) := hW8.p7
  have HQ := Lib.hid q7
  have HKB : Hid (∀ wx, Below W.heap.size W wx → ∀ p : Addr, p.block < B → wx.cell? p = w.cell? p) := Lib.hid (fun wx hx p hp => by rw [hx.cell (by omega), hWb.cell (by omega)])
  have HWB := Lib.hid hWb
  have HWS : Hid (w.heap.size ≤ W.heap.size) := Lib.hid (by omega)
  have HW := Lib.hid hW
  have KB : Hid (∀ i (hi : i < l.length), stmtOk br (kind l[i]) = false → statements (l.map kind) br = false) := Lib.hid (fun i hi h => statements_bad hi h)
  have KG := Lib.hid (@statements_good l br)
  have AR := Lib.hid (fun (k : Int) (wx : World) => array21_any k wx)
  generalize statements (l.map kind) br = R at *
  clear h hW hW8 HO HG hWb
  go_enter Tryz.func94, Tryz.ntmps94
  go_upto_region 1 with fail
  rw [← HW.out]
  go_wp2_with fail
  go_loopw [5] (fun i wr => ∃ (j : Nat), j ≤ l.length ∧ i = .int .i64 j ∧ Hid (∀ i (hi : i < l.length), i < j → stmtOk br (kind l[i]) = true) ∧ Below W.heap.size W wr) (fun i _ => l.length - (intOf i).toNat)
  case atStart => exact ⟨0, Nat.zero_le _, rfl, Lib.hid (fun i hi h => by omega), Below.refl _ _⟩
  case round =>
    obtain ⟨j, hj, rfl, HI, hbel⟩ := hrel
    have hbox : wr.cell? ⟨w.heap.size, 7, none⟩ = some (.slice A4 l.length c4) := (hbel.cell (p := ⟨w.heap.size, 7, none⟩) hWl).trans HQ.out
    by_cases hlt : j < l.length
    · obtain ⟨b, off, B1, B2, B3, B4, e1, e2, e3, e4, rfl, hb, HT, h8⟩ := tree_at HC.out HL.out (HKB.out wr hbel) hlt
      have g0 : wr.cell? ⟨b, off + j * 8, none⟩ = some (.int .i64 (kind l[j])) := h8.p0
      have K1 := Lib.hid (AR.out (kind l[j]) wr)
      have HS : Hid (stmtOk br (kind l[j]) = true → ∀ i (hi : i < l.length), i < j + 1 → stmtOk br (kind l[i]) = true) := Lib.hid (fun h i hi hij => by
        by_cases e : i = j
        · subst e; exact h
        · exact HI.out i hi (by omega))
      have HF := Lib.hid (KB.out j hlt)
      have HE : Hid (stmtOk br (kind l[j]) = (array (kind l[j]) || (kind l[j] == 27) || (br && ((kind l[j] == 25) || (kind l[j] == 26))))) := Lib.hid rfl
      clear h8 HT
      generalize stmtOk br (kind l[j]) = r at *
      generalize array (kind l[j]) = x at *
      generalize kind l[j] = kj at *
      have hcase : r = true ∨ r = false := by cases r <;> simp
      have q27 : (kj != 27) = !(kj == 27) := rfl
      cases x
      · by_cases h27 : kj = 27
        · have HN := Lib.hid (HS.out (by rw [HE.out, show (kj == 27) = true by simpa using h27]; simp))
          rw [show (kj == 27) = true by simpa using h27, Bool.not_true] at q27
          clear h27
          go_wp2_with fail
          refine K1.out.mono ?_
          rintro e w2 ⟨rfl, rfl⟩
          go_wp2_with fail
          go_roundw
          case rel => exact ⟨j + 1, by omega, by go_num, HN, hbel⟩
          case measure => simp [intOf]; omega
        · have p27 : (kj == 27) = false := by simpa using h27
          rw [p27] at HE
          rw [p27, Bool.not_false] at q27
          cases br
          · have HZ := Lib.hid (HF.out (by rw [HE.out]; rfl))
            go_wp2_with fail
            refine K1.out.mono ?_
            rintro e w2 ⟨rfl, rfl⟩
            go_wp2_with fail
            go_ret
            exact ⟨ret_bool (by rw [HZ.out]), HWB.out.trans (hbel.mono HWS.out)⟩
          · cases h25 : (kj == 25)
            · cases h26 : (kj == 26)
              · have HZ := Lib.hid (HF.out (by rw [HE.out, h25, h26]; rfl))
                go_wp2_with fail
                refine K1.out.mono ?_
                rintro e w2 ⟨rfl, rfl⟩
                go_wp2_with fail
                go_ret
                exact ⟨ret_bool (by rw [HZ.out]), HWB.out.trans (hbel.mono HWS.out)⟩
              · have HN := Lib.hid (HS.out (by rw [HE.out, h25, h26]; rfl))
                go_wp2_with fail
                refine K1.out.mono ?_
                rintro e w2 ⟨rfl, rfl⟩
                go_wp2_with fail
                go_roundw
                case rel => exact ⟨j + 1, by omega, by go_num, HN, hbel⟩
                case measure => simp [intOf]; omega
            · have HN := Lib.hid (HS.out (by rw [HE.out, h25]; rfl))
              go_wp2_with fail
              refine K1.out.mono ?_
              rintro e w2 ⟨rfl, rfl⟩
              go_wp2_with fail
              go_roundw
              case rel => exact ⟨j + 1, by omega, by go_num, HN, hbel⟩
              case measure => simp [intOf]; omega
      · have HN := Lib.hid (HS.out (by rw [HE.out]; simp))
        go_wp2_with fail
        refine K1.out.mono ?_
        rintro e w2 ⟨rfl, rfl⟩
        go_wp2_with fail
        go_roundw
        case rel => exact ⟨j + 1, by omega, by go_num, HN, hbel⟩
        case measure => simp [intOf]; omega
    · have HZ := Lib.hid (KG.out (fun i hi => HI.out i hi (by omega)))
      by_cases hl0 : 0 < l.length
      · have ql : (0 : Int) < (l.length : Int) := by omega
        go_wp2_with fail
        go_ret
        exact ⟨ret_bool (by rw [HZ.out, decide_eq_true hl0]), HWB.out.trans (hbel.mono HWS.out)⟩
      · have ql : ¬ (0 : Int) < (l.length : Int) := by omega
        go_wp2_with fail
        go_ret
        exact ⟨ret_bool (by rw [HZ.out, decide_eq_false hl0]), HWB.out.trans (hbel.mono HWS.out)⟩
theorem chars21_any (A : Option Addr) (c : Nat) (l : List Int) (w : World) (B : Nat) (hl : Lies w B A (I64 l)) (hn : l.length ≤ 17592186044416) :
    Calls Tryz.prog 149 #[.slice A l.length c] w (Pure w (l.all Gl.may)) := by
  have HL := Lib.hid hl
  have MY := Lib.hid (fun (x : Int) (wx : World) => refMay_any x wx)
  have KB : Hid (∀ i (hi : i < l.length), Gl.may l[i] = false → l.all Gl.may = false) := Lib.hid (fun i hi h => List.all_eq_false.2 ⟨l[i], List.getElem_mem hi, by rw [h]; simp⟩)
  have KG : Hid ((∀ i (hi : i < l.length), Gl.may l[i] = true) → l.all Gl.may = true) := Lib.hid (fun h => List.all_eq_true.2 (fun x hx => by obtain ⟨i, hi, rfl⟩ := List.mem_iff_getElem.1 hx; exact h i hi))
  generalize l.all Gl.may = R at *
  clear hl
  go_enter Tryz.func149, Tryz.ntmps149
  go_wp2_with fail
  go_loopw [3] (fun i wr => ∃ (j : Nat), j ≤ l.length ∧ i = .int .i64 j ∧ Hid (∀ i (hi : i < l.length), i < j → Gl.may l[i] = true) ∧ w = wr) (fun i _ => l.length - (intOf i).toNat)
  case atStart => exact ⟨0, Nat.zero_le _, rfl, Lib.hid (fun i hi h => by omega), rfl⟩
  case round =>
    obtain ⟨j, hj, rfl, HI, rfl⟩ := hrel
    by_cases hlt : j < l.length
    · obtain ⟨b, off, rfl, hb, g0⟩ := lies_i64 HL.out hlt
      have M1 := Lib.hid (MY.out l[j] w)
      have HS : Hid (Gl.may l[j] = true → ∀ i (hi : i < l.length), i < j + 1 → Gl.may l[i] = true) := Lib.hid (fun h i hi hij => by
        by_cases e : i = j
        · subst e; exact h
        · exact HI.out i hi (by omega))
      have HF := Lib.hid (KB.out j hlt)
      generalize Gl.may l[j] = r at *
      generalize l[j] = x at *
      cases r
      · have HZ := Lib.hid (HF.out rfl)
        go_wp2_with fail
        refine M1.out.mono ?_
        rintro e w2 ⟨rfl, rfl⟩
        go_wp2_with fail
        go_ret
        exact ⟨ret_bool (by rw [HZ.out]), rfl⟩
      · have HN := Lib.hid (HS.out rfl)
        go_wp2_with fail
        refine M1.out.mono ?_
        rintro e w2 ⟨rfl, rfl⟩
        go_wp2_with fail
        go_roundw
        case rel => exact ⟨j + 1, by omega, by go_num, HN, by first | rfl | trivial⟩
        case measure => simp [intOf]; omega
    · have HZ := Lib.hid (KG.out (fun i hi => HI.out i hi (by omega)))
      go_wp2_with fail
      go_ret
      exact ⟨ret_bool (by rw [HZ.out]), rfl⟩
/-- A list that is made. -/
def NewList (w : World) (l : List Int) (n : Nat) (e : Ending) (w' : World) : Prop := ∃ A, e = .returned (.slice A l.length n) ∧ Lies w' w'.heap.size A (I64 l) ∧ Below w.heap.size w w'
theorem refMonops_any (w : World) : Calls Tryz.prog 144 #[] w (NewList w monops 6) := by
  go_enter Tryz.func144, Tryz.ntmps144
  go_wp2_with fail
  go_ret
  refine ⟨_, rfl, .inr ⟨w.heap.size, 0, rfl, by simp, fun j v hv => ?_⟩, (Below.refl _ _).alloc (Nat.le_refl _) _⟩
  rw [Nat.zero_add]
  rw [cell_of_row _ w.heap.size j _ _ _ (heap_alloc_new w _)]
  rw [List.getElem?_toArray]
  exact hv
theorem refDyops_any (w : World) : Calls Tryz.prog 145 #[] w (NewList w dyops 4) := by
  go_enter Tryz.func145, Tryz.ntmps145
  go_wp2_with fail
  go_ret
  refine ⟨_, rfl, .inr ⟨w.heap.size, 0, rfl, by simp, fun j v hv => ?_⟩, (Below.refl _ _).alloc (Nat.le_refl _) _⟩
  rw [Nat.zero_add]
  rw [cell_of_row _ w.heap.size j _ _ _ (heap_alloc_new w _)]
  rw [List.getElem?_toArray]
  exact hv
end Go.Proofs.YtceplkpjnebnfaaGreatDoor

/-
  The document's looks at an expression with an operator, and which characters are functions. (Printed by wip/bin/gen_tree9.py.)
-/
namespace Go.Proofs.YtceplkpjnebnfaaGreatDoor
open Go.RowKit Tr
set_option maxHeartbeats 4000000
set_option maxRecDepth 100000
set_option linter.unusedVariables false

namespace T9
def slotsL : List Value → Nat → Value
  | [], _ => undef
  | v :: _, 0 => v
  | _ :: l, n + 1 => slotsL l n
end T9
open T9
theorem in_dec (l : List Int) (x : Int) : decide (x ∈ l) = l.contains x := by rw [Bool.eq_iff_iff, decide_eq_true_eq, List.contains_iff_mem]
theorem lies_later {w w' : World} {A : Option Addr} {vs : List Value} (h : Lies w w.heap.size A vs) (hb : Below w.heap.size w w') : Lies w' w'.heap.size A vs := (h.keep (fun _ hp => hb.cell hp)).more hb.size
theorem refInC_any (A : Option Addr) (n : Nat) (l : List Int) (x : Int) (w : World) (hl : Lies w w.heap.size A (I64 l)) (hn : l.length ≤ 1000000) :
    Calls Tryz.prog 132 #[.slice A l.length n, .int .i64 x] w (Pure w (l.contains x)) := by
  rw [← in_dec]; exact refIn_any A n l x w hl hn
def frameO4t (s0 s1 s3 s4 s5 s6 s7 s8 s9 s18 s19 s20 s21 s22 s23 s24 s25 s26 s27 s28 s29 s30 s31 s32 s33 s34 s35 s36 s37 s38 s39 s40 s41 s42 s43 s44 s45 s46 s47 s48 s49 s50 s51 s52 s53 s54 s55 s56 s57 s58 : Value) (xs : Nat → Value) : Act := { tmps := #[s0, s1, xs 8, s3, s4, s5, s6, s7, s8, s9, xs 0, xs 1, xs 2, xs 3, xs 4, xs 5, xs 6, xs 7, s18, s19, s20, s21, s22, s23, s24, s25, s26, s27, s28, s29, s30, s31, s32, s33, s34, s35, s36, s37, s38, s39, s40, s41, s42, s43, s44, s45, s46, s47, s48, s49, s50, s51, s52, s53, s54, s55, s56, s57, s58], defers := [] }
def predO4t (g : Nat) (k o : Int) (vs : List Value) (A4 : Option Addr) (n4 c4 : Nat) (K : Bool) (k0 : Int) (F : Bool) : Nat → World → Value → Prop
  | 0, w, v => ∃ A, v = .slice A monops.length 6 ∧ Lies w w.heap.size A (I64 monops)
  | 1, w, v => v = .pointer (some ⟨g, 1, none⟩)
  | 2, w, v => v = .int .i64 o
  | 3, w, v => v = .bool true
  | 4, w, v => v = .bool true
  | 5, w, v => v = .agg vs.toArray
  | 6, w, v => v = .bool K
  | 7, w, v => v = .bool K
  | _, w, v => v = .bool K
def frameO4f (s0 s1 s3 s4 s5 s6 s7 s8 s9 s18 s19 s20 s21 s22 s23 s24 s25 s26 s27 s28 s29 s30 s31 s32 s33 s34 s35 s36 s37 s38 s39 s40 s41 s42 s43 s44 s45 s46 s47 s48 s49 s50 s51 s52 s53 s54 s55 s56 s57 s58 : Value) (xs : Nat → Value) : Act := { tmps := #[s0, s1, xs 8, s3, s4, s5, s6, s7, s8, s9, xs 0, xs 1, xs 2, xs 3, xs 4, xs 5, xs 6, xs 7, s18, s19, s20, s21, s22, s23, s24, s25, s26, s27, s28, s29, s30, s31, s32, s33, s34, s35, s36, s37, s38, s39, s40, s41, s42, s43, s44, s45, s46, s47, s48, s49, s50, s51, s52, s53, s54, s55, s56, s57, s58], defers := [] }
def predO4f (g : Nat) (k o : Int) (vs : List Value) (A4 : Option Addr) (n4 c4 : Nat) (K : Bool) (k0 : Int) (F : Bool) : Nat → World → Value → Prop
  | 0, w, v => ∃ A, v = .slice A monops.length 6 ∧ Lies w w.heap.size A (I64 monops)
  | 1, w, v => v = .pointer (some ⟨g, 1, none⟩)
  | 2, w, v => v = .int .i64 o
  | 3, w, v => v = .bool false
  | 4, w, v => v = .bool false
  | 5, w, v => v = undef
  | 6, w, v => v = undef
  | 7, w, v => v = .bool false
  | _, w, v => v = .bool false
def frameO5a (s0 s1 s2 s3 s4 s5 s6 s7 s8 s9 s10 s11 s12 s13 s14 s15 s16 s17 s38 s39 s40 s41 s42 s43 s44 s45 s46 s47 s48 s49 s50 s51 s52 s53 s54 s55 s56 s57 s58 : Value) (xs : Nat → Value) : Act := { tmps := #[s0, s1, s2, s3, s4, s5, s6, s7, s8, s9, s10, s11, s12, s13, s14, s15, s16, s17, xs 0, xs 1, xs 2, xs 3, xs 4, xs 5, xs 6, xs 7, xs 8, xs 9, xs 10, xs 11, xs 12, xs 13, xs 14, xs 15, xs 16, xs 17, xs 18, xs 19, s38, s39, s40, s41, s42, s43, s44, s45, s46, s47, s48, s49, s50, s51, s52, s53, s54, s55, s56, s57, s58], defers := [] }
def predO5a (g : Nat) (k o : Int) (vs : List Value) (A4 : Option Addr) (n4 c4 : Nat) (K : Bool) (k0 : Int) (F : Bool) : Nat → World → Value → Prop
  | 0, w, v => ∃ A, v = .slice A dyops.length 4 ∧ Lies w w.heap.size A (I64 dyops)
  | 1, w, v => v = .pointer (some ⟨g, 1, none⟩)
  | 2, w, v => v = .int .i64 o
  | 3, w, v => v = .bool false
  | 4, w, v => v = .bool true
  | 5, w, v => v = .bool true
  | 6, w, v => v = undef
  | 7, w, v => v = undef
  | 8, w, v => v = undef
  | 9, w, v => v = undef
  | 10, w, v => v = .bool true
  | 11, w, v => v = .bool true
  | 12, w, v => v = undef
  | 13, w, v => v = undef
  | 14, w, v => v = undef
  | 15, w, v => v = undef
  | 16, w, v => v = undef
  | 17, w, v => v = undef
  | 18, w, v => v = undef
  | _, w, v => v = .bool true
def frameO5b (s0 s1 s2 s3 s4 s5 s6 s7 s8 s9 s10 s11 s12 s13 s14 s15 s16 s17 s38 s39 s40 s41 s42 s43 s44 s45 s46 s47 s48 s49 s50 s51 s52 s53 s54 s55 s56 s57 s58 : Value) (xs : Nat → Value) : Act := { tmps := #[s0, s1, s2, s3, s4, s5, s6, s7, s8, s9, s10, s11, s12, s13, s14, s15, s16, s17, xs 0, xs 1, xs 2, xs 3, xs 4, xs 5, xs 6, xs 7, xs 8, xs 9, xs 10, xs 11, xs 12, xs 13, xs 14, xs 15, xs 16, xs 17, xs 18, xs 19, s38, s39, s40, s41, s42, s43, s44, s45, s46, s47, s48, s49, s50, s51, s52, s53, s54, s55, s56, s57, s58], defers := [] }
def predO5b (g : Nat) (k o : Int) (vs : List Value) (A4 : Option Addr) (n4 c4 : Nat) (K : Bool) (k0 : Int) (F : Bool) : Nat → World → Value → Prop
  | 0, w, v => ∃ A, v = .slice A dyops.length 4 ∧ Lies w w.heap.size A (I64 dyops)
  | 1, w, v => v = .pointer (some ⟨g, 1, none⟩)
  | 2, w, v => v = .int .i64 o
  | 3, w, v => v = .bool true
  | 4, w, v => v = .bool false
  | 5, w, v => v = .bool false
  | 6, w, v => v = .pointer (some ⟨g, 7, none⟩)
  | 7, w, v => v = .slice A4 n4 c4
  | 8, w, v => v = .int .i64 (n4 : Int)
  | 9, w, v => v = .bool true
  | 10, w, v => v = .bool true
  | 11, w, v => v = .bool true
  | 12, w, v => v = undef
  | 13, w, v => v = undef
  | 14, w, v => v = undef
  | 15, w, v => v = undef
  | 16, w, v => v = undef
  | 17, w, v => v = undef
  | 18, w, v => v = undef
  | _, w, v => v = .bool true
def frameO5c (s0 s1 s2 s3 s4 s5 s6 s7 s8 s9 s10 s11 s12 s13 s14 s15 s16 s17 s38 s39 s40 s41 s42 s43 s44 s45 s46 s47 s48 s49 s50 s51 s52 s53 s54 s55 s56 s57 s58 : Value) (xs : Nat → Value) : Act := { tmps := #[s0, s1, s2, s3, s4, s5, s6, s7, s8, s9, s10, s11, s12, s13, s14, s15, s16, s17, xs 0, xs 1, xs 2, xs 3, xs 4, xs 5, xs 6, xs 7, xs 8, xs 9, xs 10, xs 11, xs 12, xs 13, xs 14, xs 15, xs 16, xs 17, xs 18, xs 19, s38, s39, s40, s41, s42, s43, s44, s45, s46, s47, s48, s49, s50, s51, s52, s53, s54, s55, s56, s57, s58], defers := [] }
def predO5c (g : Nat) (k o : Int) (vs : List Value) (A4 : Option Addr) (n4 c4 : Nat) (K : Bool) (k0 : Int) (F : Bool) : Nat → World → Value → Prop
  | 0, w, v => ∃ A, v = .slice A dyops.length 4 ∧ Lies w w.heap.size A (I64 dyops)
  | 1, w, v => v = .pointer (some ⟨g, 1, none⟩)
  | 2, w, v => v = .int .i64 o
  | 3, w, v => v = .bool true
  | 4, w, v => v = .bool false
  | 5, w, v => v = .bool false
  | 6, w, v => v = .pointer (some ⟨g, 7, none⟩)
  | 7, w, v => v = .slice A4 n4 c4
  | 8, w, v => v = .int .i64 (n4 : Int)
  | 9, w, v => v = .bool false
  | 10, w, v => v = .bool false
  | 11, w, v => v = .bool false
  | 12, w, v => v = .pointer (some ⟨g, 7, none⟩)
  | 13, w, v => v = .slice A4 n4 c4
  | 14, w, v => ∃ b off, v = .pointer (some ⟨b, off, none⟩) ∧ A4 = some ⟨b, off, none⟩
  | 15, w, v => ∃ b off, v = .pointer (some ⟨b, off, none⟩) ∧ A4 = some ⟨b, off, none⟩
  | 16, w, v => v = .int .i64 k0
  | 17, w, v => v = .bool F
  | 18, w, v => v = .bool (!F)
  | _, w, v => v = .bool (!F)

theorem operators21_any (a : Tree) (vs : List Value) (w : World) (B : Nat) (h : IsTree w B a vs) (hB : B ≤ w.heap.size) :
    Calls Tryz.prog 95 #[.agg vs.toArray] w (BoolOut w (operators (kind a) (op a) (fields (op a) (name a) (num a) (text a)) ((kids a).map kind))) := by
  have FDa := fields21_any a vs
  have KDa := kids21_any a vs [102] false
  have hal := tree_infoA h
  have h' := h
  obtain ⟨k, o, m, nm, t, l⟩ := a
  show Calls _ _ _ _ (BoolOut w (operators k o (fields o m nm t) (l.map kind)))
  obtain ⟨W0, hW⟩ : ∃ W, W = w.alloc (.cells vs.toArray 28) := ⟨_, rfl⟩
  obtain ⟨A1, A2, A3, A4, c1, c2, c3, c4, us, HO, HL, HC, hW8, HG, hWl, hWb⟩ := tree_box h hW
  have hf4 := HO.out.f4.le (by omega)
  have hfi : fields o m nm t ≤ 15 ∧ 0 ≤ fields o m nm t := by
    unfold fields
    constructor <;> split <;> split <;> split <;> split <;> omega
  have q0 : W0.cell? ⟨w.heap.size, 0, none⟩ = some (.int .i64 k) := hW8.p0
  have HW := Lib.hid hW
  have HIA := Lib.hid hal
  have hkb : ∀ wx, Below W0.heap.size W0 wx → IsTree wx B (.mk k o m nm t l) vs ∧ B ≤ wx.heap.size := fun wx hx => ⟨h'.below ((hWb.trans (hx.mono (by omega))).mono hB), by have := hx.size; omega⟩
  have FD := Lib.hid (FDa W0 B (hkb W0 (Below.refl _ _)).1 (hkb W0 (Below.refl _ _)).2)
  replace FD : Hid (Calls Tryz.prog 90 #[.agg vs.toArray] W0 (IntOut W0 (fields o m nm t))) := FD
  have KDx : Hid (∀ wx, Below W0.heap.size W0 wx → Calls Tryz.prog 91 #[.agg vs.toArray, .string ⟨#[102]⟩, .bool false] wx (BoolOut wx (kidsR (l.map kind) [102] false))) := Lib.hid (fun wx hx => KDa wx B (hkb wx hx).1 (hkb wx hx).2 (by decide) (by decide) (by decide))
  have HGB0 : Hid (∀ wx, Below W0.heap.size W0 wx → wx.heap[w.heap.size]? = some (.cells vs.toArray 28 (0, 0))) := Lib.hid (fun wx hx => (hx.block _ hWl).trans HG.out)
  have HCC : ∀ wx, Below W0.heap.size W0 wx → At8 wx w.heap.size 0 k o m nm t l.length A1 A2 A3 A4 c1 c2 c3 c4 := fun wx hx => hW8.keep (fun q => hx.cell (p := ⟨w.heap.size, q, none⟩) hWl)
  have HC1x : Hid (∀ wx, Below W0.heap.size W0 wx → wx.cell? ⟨w.heap.size, 1, none⟩ = some (.int .i64 o)) := Lib.hid (fun wx hx => (HCC wx hx).p1)
  have HC7x : Hid (∀ wx, Below W0.heap.size W0 wx → wx.cell? ⟨w.heap.size, 7, none⟩ = some (.slice A4 l.length c4)) := Lib.hid (fun wx hx => (HCC wx hx).p7)
  have HC0x : Hid (∀ wx, Below W0.heap.size W0 wx → wx.cell? ⟨w.heap.size, 0, none⟩ = some (.int .i64 k)) := Lib.hid (fun wx hx => (HCC wx hx).p0)
  have HWB0 := Lib.hid hWb
  have HWS0 : Hid (w.heap.size ≤ W0.heap.size) := Lib.hid (by omega)
  have HKB : Hid (∀ wx, Below W0.heap.size W0 wx → ∀ p : Addr, p.block < B → wx.cell? p = w.cell? p) := Lib.hid (fun wx hx p hp => by rw [hx.cell (by omega), hWb.cell (by omega)])
  have HR : Hid (operators k o (fields o m nm t) (l.map kind) = operators k o (fields o m nm t) (l.map kind)) := Lib.hid rfl
  generalize hf : fields o m nm t = f at *
  clear hW hW8 HO HG hWb h h' hal FDa KDa HCC hkb hf
  have HQ0 := Lib.hid q0
  clear q0
  obtain ⟨R, hR⟩ : ∃ R, R = operators k o f (l.map kind) := ⟨_, rfl⟩
  rw [← hR]
  have HRR := Lib.hid hR
  clear HR hR
  obtain ⟨g, hg⟩ : ∃ g, g = w.heap.size := ⟨_, rfl⟩
  rw [← hg] at HGB0 HC1x HC7x HC0x HWB0 HWS0 hWl HQ0
  have HGG := Lib.hid hg
  by_cases hf1 : f = 1
  · by_cases hk : k = 22
    · have HOP : Hid (R = (monops.contains o && kidsR (l.map kind) [102] false)) := Lib.hid (by rw [HRR.out, operators, if_pos hf1, if_pos hk])
      subst hf1 hk
      clear HRR
      generalize kidsR (l.map kind) [102] false = K at *
      obtain ⟨T, hT⟩ : ∃ T, T = monops.contains o := ⟨_, rfl⟩
      rw [← hT] at HOP
      have HIN := Lib.hid hT.symm
      clear hT
      go_enter Tryz.func95, Tryz.ntmps95
      go_upto_region 1 with fail
      rw [← HW.out]
      rw [← hg]
      clear hg
      go_wp2_with (with_reducible refine wpList_load_row rfl 28 (.tmp 1) rfl g rfl 28 vs.toArray (0, 0) _ (HGB0.out _ (Below.refl _ _)) Tryz.underlying28 rfl HIA.out ?_)
      refine FD.out.mono ?_
      rintro e w2 ⟨rfl, hb2⟩
      have HB2 := Lib.hid hb2
      have q0 := HC0x.out w2 hb2
      have HC1 : Hid (∀ w1, Below w2.heap.size w2 w1 → w1.cell? ⟨g, 1, none⟩ = some (.int .i64 o)) := Lib.hid (fun w1 hb => HC1x.out w1 (hb2.trans (hb.mono hb2.size)))
      have HGB : Hid (∀ w1, Below w2.heap.size w2 w1 → w1.heap[g]? = some (.cells vs.toArray 28 (0, 0))) := Lib.hid (fun w1 hb => HGB0.out w1 (hb2.trans (hb.mono hb2.size)))
      have KD : Hid (∀ wx, Below w2.heap.size w2 wx → Calls Tryz.prog 91 #[.agg vs.toArray, .string ⟨#[102]⟩, .bool false] wx (BoolOut wx K)) := Lib.hid (fun w1 hb => KDx.out w1 (hb2.trans (hb.mono hb2.size)))
      have HWB : Hid (Below g w w2) := Lib.hid (HWB0.out.trans (hb2.mono HWS0.out))
      have HWS : Hid (g ≤ w2.heap.size) := Lib.hid (Nat.le_trans HWS0.out hb2.size)
      clear hb2 HC1x HC7x HC0x HGB0 KDx FD HWB0 HWS0 HQ0
      go_upto_region 4 with fail
      cases T
      · have HZ : Hid (R = false) := Lib.hid (by rw [HOP.out]; rfl)
        refine wp_region_pred (frameO4f _ _ _ _ _ _ _ _ _ _ _ _ _ _ _ _ _ _ _ _ _ _ _ _ _ _ _ _ _ _ _ _ _ _ _ _ _ _ _ _ _ _ _ _ _ _ _ _ _ _) w2 (predO4f g 22 o vs A4 l.length c4 true 0 true) (by kernel_rfl) ?_ (by kernel_rfl) (slotsL [_, _, _, _, _, _, _, _, _]) rfl (Below.refl _ _) ?_ ?_
        · intro i w1 w2 v hv hb
          match i with
          | 0 => exact (by obtain ⟨A, e, h⟩ := hv; exact ⟨A, e, lies_later h hb⟩)
          | 1 => exact hv
          | 2 => exact hv
          | 3 => exact hv
          | 4 => exact hv
          | 5 => exact hv
          | 6 => exact hv
          | 7 => exact hv
          | i + 8 => exact hv
        · intro i xs w1 hi hb hdep
          have hi6 : i < 9 := hi
          clear hi
          rcases (show i = 0 ∨ i = 1 ∨ i = 2 ∨ i = 3 ∨ i = 4 ∨ i = 5 ∨ i = 6 ∨ i = 7 ∨ i = 8 by omega) with rfl | rfl | rfl | rfl | rfl | rfl | rfl | rfl | rfl
          · refine wpOp_at rfl rfl ?_
            unfold frameO4f Oper.wp
            go_simp
            refine (refMonops_any w1).mono ?_
            rintro e w2 ⟨A, rfl, hA, hb2⟩
            exact ⟨_, by simp only [upd]; simp, ⟨A, rfl, hA⟩, hb2⟩
          · refine wpOp_at rfl rfl ?_
            unfold frameO4f Oper.wp
            go_simp
            exact ⟨_, by simp only [upd]; simp, rfl, Below.refl _ _⟩
          · have h1 : xs 1 = .pointer (some ⟨g, 1, none⟩) := hdep 1 (by kernel_rfl)
            refine wpOp_at rfl rfl ?_
            have c1 : w1.cell? ⟨g, 1, none⟩ = some (.int .i64 o) := HC1.out w1 hb
            unfold frameO4f Oper.wp
            simp only [h1]
            go_simp
            exact ⟨_, by simp only [upd]; simp [h1], rfl, Below.refl _ _⟩
          · have r0 : ∃ A, (xs 0) = .slice A monops.length 6 ∧ Lies w1 w1.heap.size A (I64 monops) := hdep 0 (by kernel_rfl)
            have h2 : xs 2 = .int .i64 o := hdep 2 (by kernel_rfl)
            refine wpOp_at rfl rfl ?_
            obtain ⟨A, h0, hA⟩ := r0
            have IN := refInC_any A 6 monops o w1 hA (by decide)
            rw [HIN.out] at IN
            unfold frameO4f Oper.wp
            simp only [h0, h2]
            go_simp
            refine IN.mono ?_
            rintro e w2 ⟨rfl, rfl⟩
            exact ⟨_, by simp only [upd]; simp [h0, h2], rfl, Below.refl _ _⟩
          · have h3 : xs 3 = .bool false := hdep 3 (by kernel_rfl)
            refine wpOp_at rfl rfl ?_
            unfold frameO4f Oper.wp
            simp only [h3]
            go_simp
            exact ⟨_, by simp only [upd]; simp [h3], rfl, Below.refl _ _⟩
          · have h4 : xs 4 = .bool false := hdep 4 (by kernel_rfl)
            refine wpOp_off rfl (by unfold frameO4f; simp [Region.wanted, yielded, h4]) ?_
            exact ⟨_, by simp only [frameO4f, upd]; simp [Act.put], rfl, Below.refl _ _⟩
          · have h4 : xs 4 = .bool false := hdep 4 (by kernel_rfl)
            refine wpOp_off rfl (by unfold frameO4f; simp [Region.wanted, yielded, h4]) ?_
            exact ⟨_, by simp only [frameO4f, upd]; simp [Act.put], rfl, Below.refl _ _⟩
          · have h4 : xs 4 = .bool false := hdep 4 (by kernel_rfl)
            have h6 : xs 6 = undef := hdep 6 (by kernel_rfl)
            refine wpOp_at rfl rfl ?_
            unfold frameO4f Oper.wp
            simp only [h4, h6]
            go_simp
            exact ⟨_, by simp only [upd]; simp [h4, h6], rfl, Below.refl _ _⟩
          · have h7 : xs 7 = .bool false := hdep 7 (by kernel_rfl)
            refine wpOp_at rfl rfl ?_
            unfold frameO4f Oper.wp
            simp only [h7]
            go_simp
            exact ⟨_, by simp only [upd]; simp [h7], rfl, Below.refl _ _⟩
        · intro xs w1 hb hx
          have h8 : xs 8 = .bool false := hx 8 (by decide)
          clear hx
          unfold frameO4f
          simp only [h8]
          go_wp2_with fail
          go_ret
          exact ⟨ret_bool (by rw [HZ.out]), by rw [← HGG.out]; exact HWB.out.trans (hb.mono HWS.out)⟩
      · have HZ : Hid (R = K) := Lib.hid (by rw [HOP.out]; rfl)
        refine wp_region_pred (frameO4t _ _ _ _ _ _ _ _ _ _ _ _ _ _ _ _ _ _ _ _ _ _ _ _ _ _ _ _ _ _ _ _ _ _ _ _ _ _ _ _ _ _ _ _ _ _ _ _ _ _) w2 (predO4t g 22 o vs A4 l.length c4 K 0 true) (by kernel_rfl) ?_ (by kernel_rfl) (slotsL [_, _, _, _, _, _, _, _, _]) rfl (Below.refl _ _) ?_ ?_
        · intro i w1 w2 v hv hb
          match i with
          | 0 => exact (by obtain ⟨A, e, h⟩ := hv; exact ⟨A, e, lies_later h hb⟩)
          | 1 => exact hv
          | 2 => exact hv
          | 3 => exact hv
          | 4 => exact hv
          | 5 => exact hv
          | 6 => exact hv
          | 7 => exact hv
          | i + 8 => exact hv
        · intro i xs w1 hi hb hdep
          have hi6 : i < 9 := hi
          clear hi
          rcases (show i = 0 ∨ i = 1 ∨ i = 2 ∨ i = 3 ∨ i = 4 ∨ i = 5 ∨ i = 6 ∨ i = 7 ∨ i = 8 by omega) with rfl | rfl | rfl | rfl | rfl | rfl | rfl | rfl | rfl
          · refine wpOp_at rfl rfl ?_
            unfold frameO4t Oper.wp
            go_simp
            refine (refMonops_any w1).mono ?_
            rintro e w2 ⟨A, rfl, hA, hb2⟩
            exact ⟨_, by simp only [upd]; simp, ⟨A, rfl, hA⟩, hb2⟩
          · refine wpOp_at rfl rfl ?_
            unfold frameO4t Oper.wp
            go_simp
            exact ⟨_, by simp only [upd]; simp, rfl, Below.refl _ _⟩
          · have h1 : xs 1 = .pointer (some ⟨g, 1, none⟩) := hdep 1 (by kernel_rfl)
            refine wpOp_at rfl rfl ?_
            have c1 : w1.cell? ⟨g, 1, none⟩ = some (.int .i64 o) := HC1.out w1 hb
            unfold frameO4t Oper.wp
            simp only [h1]
            go_simp
            exact ⟨_, by simp only [upd]; simp [h1], rfl, Below.refl _ _⟩
          · have r0 : ∃ A, (xs 0) = .slice A monops.length 6 ∧ Lies w1 w1.heap.size A (I64 monops) := hdep 0 (by kernel_rfl)
            have h2 : xs 2 = .int .i64 o := hdep 2 (by kernel_rfl)
            refine wpOp_at rfl rfl ?_
            obtain ⟨A, h0, hA⟩ := r0
            have IN := refInC_any A 6 monops o w1 hA (by decide)
            rw [HIN.out] at IN
            unfold frameO4t Oper.wp
            simp only [h0, h2]
            go_simp
            refine IN.mono ?_
            rintro e w2 ⟨rfl, rfl⟩
            exact ⟨_, by simp only [upd]; simp [h0, h2], rfl, Below.refl _ _⟩
          · have h3 : xs 3 = .bool true := hdep 3 (by kernel_rfl)
            refine wpOp_at rfl rfl ?_
            unfold frameO4t Oper.wp
            simp only [h3]
            go_simp
            exact ⟨_, by simp only [upd]; simp [h3], rfl, Below.refl _ _⟩
          · have h4 : xs 4 = .bool true := hdep 4 (by kernel_rfl)
            refine wpOp_on rfl (by unfold frameO4t; simp [Region.wanted, yielded, h4]) ?_
            refine wp_load_row 28 (.tmp 1) rfl g rfl 28 vs.toArray (0, 0) _ (HGB.out w1 hb) Tryz.underlying28 rfl HIA.out ?_
            exact ⟨_, by simp only [frameO4t, upd]; simp [Act.put, h4], rfl, Below.refl _ _⟩
          · have h5 : xs 5 = .agg vs.toArray := hdep 5 (by kernel_rfl)
            have h4 : xs 4 = .bool true := hdep 4 (by kernel_rfl)
            refine wpOp_on rfl (by unfold frameO4t; simp [Region.wanted, yielded, h4]) ?_
            unfold frameO4t Oper.wp
            simp only [h5, h4]
            go_simp
            refine (KD.out w1 hb).mono ?_
            rintro e w2 ⟨rfl, hb2⟩
            exact ⟨_, by simp only [upd]; simp [h5, h4], rfl, hb2⟩
          · have h4 : xs 4 = .bool true := hdep 4 (by kernel_rfl)
            have h6 : xs 6 = .bool K := hdep 6 (by kernel_rfl)
            refine wpOp_at rfl rfl ?_
            unfold frameO4t Oper.wp
            simp only [h4, h6]
            go_simp
            exact ⟨_, by simp only [upd]; simp [h4, h6], rfl, Below.refl _ _⟩
          · have h7 : xs 7 = .bool K := hdep 7 (by kernel_rfl)
            refine wpOp_at rfl rfl ?_
            unfold frameO4t Oper.wp
            simp only [h7]
            go_simp
            exact ⟨_, by simp only [upd]; simp [h7], rfl, Below.refl _ _⟩
        · intro xs w1 hb hx
          have h8 : xs 8 = .bool K := hx 8 (by decide)
          clear hx
          unfold frameO4t
          simp only [h8]
          go_wp2_with fail
          go_ret
          exact ⟨ret_bool (by rw [HZ.out]), by rw [← HGG.out]; exact HWB.out.trans (hb.mono HWS.out)⟩
    · have hk2 : (k == 22) = false := beq_eq_false_iff_ne.2 hk
      have HOP : Hid (R = if dyops.contains o = false ∨ (l.map kind).length ≠ 2 ∨ func ((l.map kind).getD 0 0) = false then false else if o = 0x2364 then array ((l.map kind).getD 1 0) else plain ((l.map kind).getD 1 0) || ((o == 0x2363) && array ((l.map kind).getD 1 0))) := Lib.hid (by rw [HRR.out, operators, if_pos hf1, if_neg hk])
      subst hf1
      clear HRR hk
      obtain ⟨T, hT⟩ : ∃ T, T = dyops.contains o := ⟨_, rfl⟩
      rw [← hT] at HOP
      have HIN := Lib.hid hT.symm
      clear hT
      go_enter Tryz.func95, Tryz.ntmps95
      go_upto_region 1 with fail
      rw [← HW.out]
      rw [← hg]
      clear hg
      go_wp2_with (with_reducible refine wpList_load_row rfl 28 (.tmp 1) rfl g rfl 28 vs.toArray (0, 0) _ (HGB0.out _ (Below.refl _ _)) Tryz.underlying28 rfl HIA.out ?_)
      refine FD.out.mono ?_
      rintro e w2 ⟨rfl, hb2⟩
      have q0 := HC0x.out w2 hb2
      have HC1 : Hid (∀ w1, Below w2.heap.size w2 w1 → w1.cell? ⟨g, 1, none⟩ = some (.int .i64 o)) := Lib.hid (fun w1 hb => HC1x.out w1 (hb2.trans (hb.mono hb2.size)))
      have HC7 : Hid (∀ w1, Below w2.heap.size w2 w1 → w1.cell? ⟨g, 7, none⟩ = some (.slice A4 l.length c4)) := Lib.hid (fun w1 hb => HC7x.out w1 (hb2.trans (hb.mono hb2.size)))
      have HWB : Hid (Below g w w2) := Lib.hid (HWB0.out.trans (hb2.mono HWS0.out))
      have HWS : Hid (g ≤ w2.heap.size) := Lib.hid (Nat.le_trans HWS0.out hb2.size)
      have HKB2 : Hid (∀ wx, Below w2.heap.size w2 wx → ∀ p : Addr, p.block < B → wx.cell? p = w.cell? p) := Lib.hid (fun w1 hb => HKB.out w1 (hb2.trans (hb.mono hb2.size)))
      clear hb2 HC1x HC7x HC0x HGB0 KDx FD HWB0 HWS0 HQ0 HKB
      go_upto_region 5 with fail
      cases T
      · have HZ : Hid (R = false) := Lib.hid (by rw [HOP.out, if_pos (.inl rfl)])
        refine wp_region_pred (frameO5a _ _ _ _ _ _ _ _ _ _ _ _ _ _ _ _ _ _ _ _ _ _ _ _ _ _ _ _ _ _ _ _ _ _ _ _ _ _ _) w2 (predO5a g k o vs A4 l.length c4 true 0 true) (by kernel_rfl) ?_ (by kernel_rfl) (slotsL [_, _, _, _, _, _, _, _, _, _, _, _, _, _, _, _, _, _, _, _]) rfl (Below.refl _ _) ?_ ?_
        · intro i w1 w2 v hv hb
          match i with
          | 0 => exact (by obtain ⟨A, e, h⟩ := hv; exact ⟨A, e, lies_later h hb⟩)
          | 1 => exact hv
          | 2 => exact hv
          | 3 => exact hv
          | 4 => exact hv
          | 5 => exact hv
          | 6 => exact hv
          | 7 => exact hv
          | 8 => exact hv
          | 9 => exact hv
          | 10 => exact hv
          | 11 => exact hv
          | 12 => exact hv
          | 13 => exact hv
          | 14 => exact hv
          | 15 => exact hv
          | 16 => exact hv
          | 17 => exact hv
          | 18 => exact hv
          | i + 19 => exact hv
        · intro i xs w1 hi hb hdep
          have hi6 : i < 20 := hi
          clear hi
          rcases (show i = 0 ∨ i = 1 ∨ i = 2 ∨ i = 3 ∨ i = 4 ∨ i = 5 ∨ i = 6 ∨ i = 7 ∨ i = 8 ∨ i = 9 ∨ i = 10 ∨ i = 11 ∨ i = 12 ∨ i = 13 ∨ i = 14 ∨ i = 15 ∨ i = 16 ∨ i = 17 ∨ i = 18 ∨ i = 19 by omega) with rfl | rfl | rfl | rfl | rfl | rfl | rfl | rfl | rfl | rfl | rfl | rfl | rfl | rfl | rfl | rfl | rfl | rfl | rfl | rfl
          · refine wpOp_at rfl rfl ?_
            unfold frameO5a Oper.wp
            go_simp
            refine (refDyops_any w1).mono ?_
            rintro e w2 ⟨A, rfl, hA, hb2⟩
            exact ⟨_, by simp only [upd]; simp, ⟨A, rfl, hA⟩, hb2⟩
          · refine wpOp_at rfl rfl ?_
            unfold frameO5a Oper.wp
            go_simp
            exact ⟨_, by simp only [upd]; simp, rfl, Below.refl _ _⟩
          · have h1 : xs 1 = .pointer (some ⟨g, 1, none⟩) := hdep 1 (by kernel_rfl)
            refine wpOp_at rfl rfl ?_
            have c1 : w1.cell? ⟨g, 1, none⟩ = some (.int .i64 o) := HC1.out w1 hb
            unfold frameO5a Oper.wp
            simp only [h1]
            go_simp
            exact ⟨_, by simp only [upd]; simp [h1], rfl, Below.refl _ _⟩
          · have r0 : ∃ A, (xs 0) = .slice A dyops.length 4 ∧ Lies w1 w1.heap.size A (I64 dyops) := hdep 0 (by kernel_rfl)
            have h2 : xs 2 = .int .i64 o := hdep 2 (by kernel_rfl)
            refine wpOp_at rfl rfl ?_
            obtain ⟨A, h0, hA⟩ := r0
            have IN := refInC_any A 4 dyops o w1 hA (by decide)
            rw [HIN.out] at IN
            unfold frameO5a Oper.wp
            simp only [h0, h2]
            go_simp
            refine IN.mono ?_
            rintro e w2 ⟨rfl, rfl⟩
            exact ⟨_, by simp only [upd]; simp [h0, h2], rfl, Below.refl _ _⟩
          · have h3 : xs 3 = .bool false := hdep 3 (by kernel_rfl)
            refine wpOp_at rfl rfl ?_
            unfold frameO5a Oper.wp
            simp only [h3]
            go_simp
            exact ⟨_, by simp only [upd]; simp [h3], rfl, Below.refl _ _⟩
          · have h4 : xs 4 = .bool true := hdep 4 (by kernel_rfl)
            refine wpOp_at rfl rfl ?_
            unfold frameO5a Oper.wp
            simp only [h4]
            go_simp
            exact ⟨_, by simp only [upd]; simp [h4], rfl, Below.refl _ _⟩
          · have h5 : xs 5 = .bool true := hdep 5 (by kernel_rfl)
            refine wpOp_off rfl (by unfold frameO5a; simp [Region.wanted, yielded, h5]) ?_
            exact ⟨_, by simp only [frameO5a, upd]; simp [Act.put], rfl, Below.refl _ _⟩
          · have h5 : xs 5 = .bool true := hdep 5 (by kernel_rfl)
            refine wpOp_off rfl (by unfold frameO5a; simp [Region.wanted, yielded, h5]) ?_
            exact ⟨_, by simp only [frameO5a, upd]; simp [Act.put], rfl, Below.refl _ _⟩
          · have h5 : xs 5 = .bool true := hdep 5 (by kernel_rfl)
            refine wpOp_off rfl (by unfold frameO5a; simp [Region.wanted, yielded, h5]) ?_
            exact ⟨_, by simp only [frameO5a, upd]; simp [Act.put], rfl, Below.refl _ _⟩
          · have h5 : xs 5 = .bool true := hdep 5 (by kernel_rfl)
            refine wpOp_off rfl (by unfold frameO5a; simp [Region.wanted, yielded, h5]) ?_
            exact ⟨_, by simp only [frameO5a, upd]; simp [Act.put], rfl, Below.refl _ _⟩
          · have h5 : xs 5 = .bool true := hdep 5 (by kernel_rfl)
            have h9 : xs 9 = undef := hdep 9 (by kernel_rfl)
            refine wpOp_at rfl rfl ?_
            unfold frameO5a Oper.wp
            simp only [h5, h9]
            go_simp
            exact ⟨_, by simp only [upd]; simp [h5, h9], rfl, Below.refl _ _⟩
          · have h10 : xs 10 = .bool true := hdep 10 (by kernel_rfl)
            refine wpOp_at rfl rfl ?_
            unfold frameO5a Oper.wp
            simp only [h10]
            go_simp
            exact ⟨_, by simp only [upd]; simp [h10], rfl, Below.refl _ _⟩
          · have h11 : xs 11 = .bool true := hdep 11 (by kernel_rfl)
            refine wpOp_off rfl (by unfold frameO5a; simp [Region.wanted, yielded, h11]) ?_
            exact ⟨_, by simp only [frameO5a, upd]; simp [Act.put], rfl, Below.refl _ _⟩
          · have h11 : xs 11 = .bool true := hdep 11 (by kernel_rfl)
            refine wpOp_off rfl (by unfold frameO5a; simp [Region.wanted, yielded, h11]) ?_
            exact ⟨_, by simp only [frameO5a, upd]; simp [Act.put], rfl, Below.refl _ _⟩
          · have h11 : xs 11 = .bool true := hdep 11 (by kernel_rfl)
            refine wpOp_off rfl (by unfold frameO5a; simp [Region.wanted, yielded, h11]) ?_
            exact ⟨_, by simp only [frameO5a, upd]; simp [Act.put], rfl, Below.refl _ _⟩
          · have h11 : xs 11 = .bool true := hdep 11 (by kernel_rfl)
            refine wpOp_off rfl (by unfold frameO5a; simp [Region.wanted, yielded, h11]) ?_
            exact ⟨_, by simp only [frameO5a, upd]; simp [Act.put], rfl, Below.refl _ _⟩
          · have h11 : xs 11 = .bool true := hdep 11 (by kernel_rfl)
            refine wpOp_off rfl (by unfold frameO5a; simp [Region.wanted, yielded, h11]) ?_
            exact ⟨_, by simp only [frameO5a, upd]; simp [Act.put], rfl, Below.refl _ _⟩
          · have h11 : xs 11 = .bool true := hdep 11 (by kernel_rfl)
            refine wpOp_off rfl (by unfold frameO5a; simp [Region.wanted, yielded, h11]) ?_
            exact ⟨_, by simp only [frameO5a, upd]; simp [Act.put], rfl, Below.refl _ _⟩
          · have h11 : xs 11 = .bool true := hdep 11 (by kernel_rfl)
            refine wpOp_off rfl (by unfold frameO5a; simp [Region.wanted, yielded, h11]) ?_
            exact ⟨_, by simp only [frameO5a, upd]; simp [Act.put], rfl, Below.refl _ _⟩
          · have h11 : xs 11 = .bool true := hdep 11 (by kernel_rfl)
            have h18 : xs 18 = undef := hdep 18 (by kernel_rfl)
            refine wpOp_at rfl rfl ?_
            unfold frameO5a Oper.wp
            simp only [h11, h18]
            go_simp
            exact ⟨_, by simp only [upd]; simp [h11, h18], rfl, Below.refl _ _⟩
        · intro xs w1 hb hx
          have h19 : xs 19 = .bool true := hx 19 (by decide)
          clear hx
          unfold frameO5a
          simp only [h19]
          go_wp2_with fail
          go_ret
          exact ⟨ret_bool (by rw [HZ.out]), by rw [← HGG.out]; exact HWB.out.trans (hb.mono HWS.out)⟩
      · by_cases h2 : l.length = 2
        · have HN4 : Hid (((l.length : Int) != 2) = false) := Lib.hid (by rw [h2]; rfl)
          have HNP : Hid ((0 : Int) < (l.length : Int)) := Lib.hid (by omega)
          have FN := Lib.hid (fun wx => func21_any (kind (l[0]'(by omega))) wx)
          have AR := Lib.hid (fun wx => array21_any (kind (l[1]'(by omega))) wx)
          have PL := Lib.hid (fun wx => plain21_any (kind (l[1]'(by omega))) wx)
          have HK0 : Hid (∃ b off, A4 = some ⟨b, off, none⟩ ∧ b < B) := Lib.hid (by
            obtain ⟨b, off, tv, e, hb, _⟩ := tree_row HC.out HL.out (wr := w2) (HKB2.out w2 (Below.refl _ _)) (i := 0) (by omega)
            exact ⟨b, off, e, hb⟩)
          have hkind : ∀ (i : Nat) (hi : i < l.length) (w1 : World), Below w2.heap.size w2 w1 → ∀ b off, A4 = some ⟨b, off, none⟩ → w1.cell? ⟨b, off + i * 8, none⟩ = some (.int .i64 (kind l[i])) := fun i hi w1 hb b off eA => by
            obtain ⟨b', off', B1, B2, B3, B4, e1, e2, e3, e4, e, hb', HT, h8⟩ := tree_at HC.out HL.out (HKB2.out w1 hb) hi
            have e := eA.symm.trans e
            injection e with e
            injection e with e1 e2
            subst e1 e2
            exact h8.p0
          have HK1 : Hid (∀ w1, Below w2.heap.size w2 w1 → ∀ b off, A4 = some ⟨b, off, none⟩ → w1.cell? ⟨b, off, none⟩ = some (.int .i64 (kind (l[0]'(by omega))))) := Lib.hid (fun w1 hb b off eA => by have := hkind 0 (by omega) w1 hb b off eA; simpa using this)
          have HK2 : Hid (∀ w1, Below w2.heap.size w2 w1 → ∀ b off, A4 = some ⟨b, off, none⟩ → w1.cell? ⟨b, off + 8, none⟩ = some (.int .i64 (kind (l[1]'(by omega))))) := Lib.hid (fun w1 hb b off eA => by have := hkind 1 (by omega) w1 hb b off eA; simpa using this)
          have HOP2 : Hid (func (kind (l[0]'(by omega))) = true → R = if o = 0x2364 then array (kind (l[1]'(by omega))) else plain (kind (l[1]'(by omega))) || ((o == 0x2363) && array (kind (l[1]'(by omega))))) := Lib.hid (fun hF => by
            have e0 : (l.map kind).getD 0 0 = kind (l[0]'(by omega)) := by rw [List.getD_eq_getElem?_getD, List.getElem?_map, List.getElem?_eq_getElem (by omega)]; rfl
            have e1 : (l.map kind).getD 1 0 = kind (l[1]'(by omega)) := by rw [List.getD_eq_getElem?_getD, List.getElem?_map, List.getElem?_eq_getElem (by omega)]; rfl
            rw [HOP.out, e0, e1, hF, if_neg (by simp [h2])])
          have HOP3 : Hid (func (kind (l[0]'(by omega))) = false → R = false) := Lib.hid (fun hF => by
            have e0 : (l.map kind).getD 0 0 = kind (l[0]'(by omega)) := by rw [List.getD_eq_getElem?_getD, List.getElem?_map, List.getElem?_eq_getElem (by omega)]; rfl
            rw [HOP.out, e0, if_pos (.inr (.inr hF))])
          clear HOP hkind HKB2 HC HL
          have hn42 : (1 : Int) < (l.length : Int) := by omega
          have hf4' := Lib.hid hf4
          clear hf4
          generalize array (kind (l[1]'(by omega))) = X1 at *
          generalize plain (kind (l[1]'(by omega))) = P1 at *
          generalize func (kind (l[0]'(by omega))) = F at *
          generalize kind (l[0]'(by omega)) = k0 at *
          generalize kind (l[1]'(by omega)) = k1 at *
          clear h2
          refine wp_region_pred (frameO5c _ _ _ _ _ _ _ _ _ _ _ _ _ _ _ _ _ _ _ _ _ _ _ _ _ _ _ _ _ _ _ _ _ _ _ _ _ _ _) w2 (predO5c g k o vs A4 l.length c4 true k0 F) (by kernel_rfl) ?_ (by kernel_rfl) (slotsL [_, _, _, _, _, _, _, _, _, _, _, _, _, _, _, _, _, _, _, _]) rfl (Below.refl _ _) ?_ ?_
          · intro i w1 w2 v hv hb
            match i with
            | 0 => exact (by obtain ⟨A, e, h⟩ := hv; exact ⟨A, e, lies_later h hb⟩)
            | 1 => exact hv
            | 2 => exact hv
            | 3 => exact hv
            | 4 => exact hv
            | 5 => exact hv
            | 6 => exact hv
            | 7 => exact hv
            | 8 => exact hv
            | 9 => exact hv
            | 10 => exact hv
            | 11 => exact hv
            | 12 => exact hv
            | 13 => exact hv
            | 14 => exact hv
            | 15 => exact hv
            | 16 => exact hv
            | 17 => exact hv
            | 18 => exact hv
            | i + 19 => exact hv
          · intro i xs w1 hi hb hdep
            have hi6 : i < 20 := hi
            clear hi
            rcases (show i = 0 ∨ i = 1 ∨ i = 2 ∨ i = 3 ∨ i = 4 ∨ i = 5 ∨ i = 6 ∨ i = 7 ∨ i = 8 ∨ i = 9 ∨ i = 10 ∨ i = 11 ∨ i = 12 ∨ i = 13 ∨ i = 14 ∨ i = 15 ∨ i = 16 ∨ i = 17 ∨ i = 18 ∨ i = 19 by omega) with rfl | rfl | rfl | rfl | rfl | rfl | rfl | rfl | rfl | rfl | rfl | rfl | rfl | rfl | rfl | rfl | rfl | rfl | rfl | rfl
            · refine wpOp_at rfl rfl ?_
              unfold frameO5c Oper.wp
              go_simp
              refine (refDyops_any w1).mono ?_
              rintro e w2 ⟨A, rfl, hA, hb2⟩
              exact ⟨_, by simp only [upd]; simp, ⟨A, rfl, hA⟩, hb2⟩
            · refine wpOp_at rfl rfl ?_
              unfold frameO5c Oper.wp
              go_simp
              exact ⟨_, by simp only [upd]; simp, rfl, Below.refl _ _⟩
            · have h1 : xs 1 = .pointer (some ⟨g, 1, none⟩) := hdep 1 (by kernel_rfl)
              refine wpOp_at rfl rfl ?_
              have c1 : w1.cell? ⟨g, 1, none⟩ = some (.int .i64 o) := HC1.out w1 hb
              unfold frameO5c Oper.wp
              simp only [h1]
              go_simp
              exact ⟨_, by simp only [upd]; simp [h1], rfl, Below.refl _ _⟩
            · have r0 : ∃ A, (xs 0) = .slice A dyops.length 4 ∧ Lies w1 w1.heap.size A (I64 dyops) := hdep 0 (by kernel_rfl)
              have h2 : xs 2 = .int .i64 o := hdep 2 (by kernel_rfl)
              refine wpOp_at rfl rfl ?_
              obtain ⟨A, h0, hA⟩ := r0
              have IN := refInC_any A 4 dyops o w1 hA (by decide)
              rw [HIN.out] at IN
              unfold frameO5c Oper.wp
              simp only [h0, h2]
              go_simp
              refine IN.mono ?_
              rintro e w2 ⟨rfl, rfl⟩
              exact ⟨_, by simp only [upd]; simp [h0, h2], rfl, Below.refl _ _⟩
            · have h3 : xs 3 = .bool true := hdep 3 (by kernel_rfl)
              refine wpOp_at rfl rfl ?_
              unfold frameO5c Oper.wp
              simp only [h3]
              go_simp
              exact ⟨_, by simp only [upd]; simp [h3], rfl, Below.refl _ _⟩
            · have h4 : xs 4 = .bool false := hdep 4 (by kernel_rfl)
              refine wpOp_at rfl rfl ?_
              unfold frameO5c Oper.wp
              simp only [h4]
              go_simp
              exact ⟨_, by simp only [upd]; simp [h4], rfl, Below.refl _ _⟩
            · have h5 : xs 5 = .bool false := hdep 5 (by kernel_rfl)
              refine wpOp_on rfl (by unfold frameO5c; simp [Region.wanted, yielded, h5]) ?_
              unfold frameO5c Oper.wp
              simp only [h5]
              go_simp
              exact ⟨_, by simp only [upd]; simp [h5], rfl, Below.refl _ _⟩
            · have h6 : xs 6 = .pointer (some ⟨g, 7, none⟩) := hdep 6 (by kernel_rfl)
              have h5 : xs 5 = .bool false := hdep 5 (by kernel_rfl)
              refine wpOp_on rfl (by unfold frameO5c; simp [Region.wanted, yielded, h5]) ?_
              have c7 : w1.cell? ⟨g, 7, none⟩ = some (.slice A4 l.length c4) := HC7.out w1 hb
              unfold frameO5c Oper.wp
              simp only [h6, h5]
              go_simp
              exact ⟨_, by simp only [upd]; simp [h6, h5], rfl, Below.refl _ _⟩
            · have h7 : xs 7 = .slice A4 l.length c4 := hdep 7 (by kernel_rfl)
              have h5 : xs 5 = .bool false := hdep 5 (by kernel_rfl)
              refine wpOp_on rfl (by unfold frameO5c; simp [Region.wanted, yielded, h5]) ?_
              unfold frameO5c Oper.wp
              simp only [h7, h5]
              go_simp
              exact ⟨_, by simp only [upd]; simp [h7, h5], rfl, Below.refl _ _⟩
            · have h8 : xs 8 = .int .i64 (l.length : Int) := hdep 8 (by kernel_rfl)
              have h5 : xs 5 = .bool false := hdep 5 (by kernel_rfl)
              refine wpOp_on rfl (by unfold frameO5c; simp [Region.wanted, yielded, h5]) ?_
              have q8 : ((l.length : Int) != 2) = false := HN4.out
              unfold frameO5c Oper.wp
              simp only [h8, h5]
              go_simp
              exact ⟨_, by simp only [upd]; simp [h8, h5], rfl, Below.refl _ _⟩
            · have h5 : xs 5 = .bool false := hdep 5 (by kernel_rfl)
              have h9 : xs 9 = .bool false := hdep 9 (by kernel_rfl)
              refine wpOp_at rfl rfl ?_
              unfold frameO5c Oper.wp
              simp only [h5, h9]
              go_simp
              exact ⟨_, by simp only [upd]; simp [h5, h9], rfl, Below.refl _ _⟩
            · have h10 : xs 10 = .bool false := hdep 10 (by kernel_rfl)
              refine wpOp_at rfl rfl ?_
              unfold frameO5c Oper.wp
              simp only [h10]
              go_simp
              exact ⟨_, by simp only [upd]; simp [h10], rfl, Below.refl _ _⟩
            · have h11 : xs 11 = .bool false := hdep 11 (by kernel_rfl)
              refine wpOp_on rfl (by unfold frameO5c; simp [Region.wanted, yielded, h11]) ?_
              unfold frameO5c Oper.wp
              simp only [h11]
              go_simp
              exact ⟨_, by simp only [upd]; simp [h11], rfl, Below.refl _ _⟩
            · have h12 : xs 12 = .pointer (some ⟨g, 7, none⟩) := hdep 12 (by kernel_rfl)
              have h11 : xs 11 = .bool false := hdep 11 (by kernel_rfl)
              refine wpOp_on rfl (by unfold frameO5c; simp [Region.wanted, yielded, h11]) ?_
              have c7 : w1.cell? ⟨g, 7, none⟩ = some (.slice A4 l.length c4) := HC7.out w1 hb
              unfold frameO5c Oper.wp
              simp only [h12, h11]
              go_simp
              exact ⟨_, by simp only [upd]; simp [h12, h11], rfl, Below.refl _ _⟩
            · have h13 : xs 13 = .slice A4 l.length c4 := hdep 13 (by kernel_rfl)
              have h11 : xs 11 = .bool false := hdep 11 (by kernel_rfl)
              refine wpOp_on rfl (by unfold frameO5c; simp [Region.wanted, yielded, h11]) ?_
              obtain ⟨b, off, eA, hk⟩ := HK0.out
              subst eA
              have hn4 : (0 : Int) < (l.length : Int) := HNP.out
              have hn5 : 0 < l.length := by have := HNP.out; omega
              unfold frameO5c Oper.wp
              simp only [h13, h11]
              go_simp
              exact ⟨_, by simp only [upd]; simp [h13, h11], ⟨b, off, rfl, rfl⟩, Below.refl _ _⟩
            · have r14 : ∃ b off, (xs 14) = .pointer (some ⟨b, off, none⟩) ∧ A4 = some ⟨b, off, none⟩ := hdep 14 (by kernel_rfl)
              have h11 : xs 11 = .bool false := hdep 11 (by kernel_rfl)
              refine wpOp_on rfl (by unfold frameO5c; simp [Region.wanted, yielded, h11]) ?_
              obtain ⟨b, off, h14, eA⟩ := r14
              unfold frameO5c Oper.wp
              simp only [h14, h11]
              go_simp
              exact ⟨_, by simp only [upd]; simp [h14, h11], ⟨b, off, rfl, by first | exact eA | rfl⟩, Below.refl _ _⟩
            · have r15 : ∃ b off, (xs 15) = .pointer (some ⟨b, off, none⟩) ∧ A4 = some ⟨b, off, none⟩ := hdep 15 (by kernel_rfl)
              have h11 : xs 11 = .bool false := hdep 11 (by kernel_rfl)
              refine wpOp_on rfl (by unfold frameO5c; simp [Region.wanted, yielded, h11]) ?_
              obtain ⟨b, off, h15, eA⟩ := r15
              have c0 : w1.cell? ⟨b, off, none⟩ = some (.int .i64 k0) := HK1.out w1 hb b off eA
              unfold frameO5c Oper.wp
              simp only [h15, h11]
              go_simp
              exact ⟨_, by simp only [upd]; simp [h15, h11], rfl, Below.refl _ _⟩
            · have h16 : xs 16 = .int .i64 k0 := hdep 16 (by kernel_rfl)
              have h11 : xs 11 = .bool false := hdep 11 (by kernel_rfl)
              refine wpOp_on rfl (by unfold frameO5c; simp [Region.wanted, yielded, h11]) ?_
              unfold frameO5c Oper.wp
              simp only [h16, h11]
              go_simp
              refine (FN.out w1).mono ?_
              rintro e w2 ⟨rfl, rfl⟩
              exact ⟨_, by simp only [upd]; simp [h16, h11], rfl, (Below.refl _ _)⟩
            · have h17 : xs 17 = .bool F := hdep 17 (by kernel_rfl)
              have h11 : xs 11 = .bool false := hdep 11 (by kernel_rfl)
              refine wpOp_on rfl (by unfold frameO5c; simp [Region.wanted, yielded, h11]) ?_
              unfold frameO5c Oper.wp
              simp only [h17, h11]
              go_simp
              exact ⟨_, by simp only [upd]; simp [h17, h11], rfl, Below.refl _ _⟩
            · have h11 : xs 11 = .bool false := hdep 11 (by kernel_rfl)
              have h18 : xs 18 = .bool (!F) := hdep 18 (by kernel_rfl)
              refine wpOp_at rfl rfl ?_
              unfold frameO5c Oper.wp
              simp only [h11, h18]
              go_simp
              exact ⟨_, by simp only [upd]; simp [h11, h18], rfl, Below.refl _ _⟩
          · intro xs w1 hb hx
            have h19 : xs 19 = .bool (!F) := hx 19 (by decide)
            clear hx
            have HBX := Lib.hid hb
            obtain ⟨b, off, eA, hk⟩ := HK0.out
            have c7 : w1.cell? ⟨g, 7, none⟩ = some (.slice A4 l.length c4) := HC7.out w1 hb
            have c1' : w1.cell? ⟨g, 1, none⟩ = some (.int .i64 o) := HC1.out w1 hb
            have c8 : w1.cell? ⟨b, off + 8, none⟩ = some (.int .i64 k1) := HK2.out w1 hb b off eA
            have hf4 := hf4'.out
            subst eA
            unfold frameO5c
            simp only [h19]
            clear HC1 HC7 HK0 HK1 HK2 HIN h19
            cases F
            · have HZ := Lib.hid (HOP3.out rfl)
              go_wp2_with fail
              go_ret
              exact ⟨ret_bool (by rw [HZ.out]), by rw [← HGG.out]; exact HWB.out.trans (HBX.out.mono HWS.out)⟩
            · have HZ := Lib.hid (HOP2.out rfl)
              by_cases ho : o = 9060
              · have HZ2 : Hid (R = X1) := Lib.hid (by rw [HZ.out, if_pos ho])
                subst ho
                go_wp2_with fail
                refine (AR.out _).mono ?_
                rintro e w4 ⟨rfl, rfl⟩
                go_wp2_with fail
                go_ret
                exact ⟨ret_bool (by rw [HZ2.out]), by rw [← HGG.out]; exact HWB.out.trans (HBX.out.mono HWS.out)⟩
              · have HZ2 : Hid (R = (P1 || ((o == 9059) && X1))) := Lib.hid (by rw [HZ.out, if_neg ho])
                have ho2 : (o == 9060) = false := beq_eq_false_iff_ne.2 ho
                clear ho HZ
                cases P1
                · cases ho3 : (o == 9059)
                  · rw [ho3] at HZ2
                    go_wp2_with fail
                    refine (PL.out _).mono ?_
                    rintro e w4 ⟨rfl, rfl⟩
                    go_wp2_with fail
                    go_ret
                    exact ⟨ret_bool (by rw [HZ2.out]; rfl), by rw [← HGG.out]; exact HWB.out.trans (HBX.out.mono HWS.out)⟩
                  · rw [ho3] at HZ2
                    go_wp2_with fail
                    refine (PL.out _).mono ?_
                    rintro e w4 ⟨rfl, rfl⟩
                    go_wp2_with fail
                    refine (AR.out _).mono ?_
                    rintro e w4 ⟨rfl, rfl⟩
                    go_wp2_with fail
                    go_ret
                    exact ⟨ret_bool (by rw [HZ2.out]; rfl), by rw [← HGG.out]; exact HWB.out.trans (HBX.out.mono HWS.out)⟩
                · go_wp2_with fail
                  refine (PL.out _).mono ?_
                  rintro e w4 ⟨rfl, rfl⟩
                  go_wp2_with fail
                  go_ret
                  exact ⟨ret_bool (by rw [HZ2.out]; rfl), by rw [← HGG.out]; exact HWB.out.trans (HBX.out.mono HWS.out)⟩
        · have HZ : Hid (R = false) := Lib.hid (by rw [HOP.out, if_pos (.inr (.inl (by rw [List.length_map]; exact h2)))])
          have HN4 : Hid (((l.length : Int) != 2) = true) := Lib.hid (bne_iff_ne.2 (by omega))
          clear HOP
          refine wp_region_pred (frameO5b _ _ _ _ _ _ _ _ _ _ _ _ _ _ _ _ _ _ _ _ _ _ _ _ _ _ _ _ _ _ _ _ _ _ _ _ _ _ _) w2 (predO5b g k o vs A4 l.length c4 true 0 true) (by kernel_rfl) ?_ (by kernel_rfl) (slotsL [_, _, _, _, _, _, _, _, _, _, _, _, _, _, _, _, _, _, _, _]) rfl (Below.refl _ _) ?_ ?_
          · intro i w1 w2 v hv hb
            match i with
            | 0 => exact (by obtain ⟨A, e, h⟩ := hv; exact ⟨A, e, lies_later h hb⟩)
            | 1 => exact hv
            | 2 => exact hv
            | 3 => exact hv
            | 4 => exact hv
            | 5 => exact hv
            | 6 => exact hv
            | 7 => exact hv
            | 8 => exact hv
            | 9 => exact hv
            | 10 => exact hv
            | 11 => exact hv
            | 12 => exact hv
            | 13 => exact hv
            | 14 => exact hv
            | 15 => exact hv
            | 16 => exact hv
            | 17 => exact hv
            | 18 => exact hv
            | i + 19 => exact hv
          · intro i xs w1 hi hb hdep
            have hi6 : i < 20 := hi
            clear hi
            rcases (show i = 0 ∨ i = 1 ∨ i = 2 ∨ i = 3 ∨ i = 4 ∨ i = 5 ∨ i = 6 ∨ i = 7 ∨ i = 8 ∨ i = 9 ∨ i = 10 ∨ i = 11 ∨ i = 12 ∨ i = 13 ∨ i = 14 ∨ i = 15 ∨ i = 16 ∨ i = 17 ∨ i = 18 ∨ i = 19 by omega) with rfl | rfl | rfl | rfl | rfl | rfl | rfl | rfl | rfl | rfl | rfl | rfl | rfl | rfl | rfl | rfl | rfl | rfl | rfl | rfl
            · refine wpOp_at rfl rfl ?_
              unfold frameO5b Oper.wp
              go_simp
              refine (refDyops_any w1).mono ?_
              rintro e w2 ⟨A, rfl, hA, hb2⟩
              exact ⟨_, by simp only [upd]; simp, ⟨A, rfl, hA⟩, hb2⟩
            · refine wpOp_at rfl rfl ?_
              unfold frameO5b Oper.wp
              go_simp
              exact ⟨_, by simp only [upd]; simp, rfl, Below.refl _ _⟩
            · have h1 : xs 1 = .pointer (some ⟨g, 1, none⟩) := hdep 1 (by kernel_rfl)
              refine wpOp_at rfl rfl ?_
              have c1 : w1.cell? ⟨g, 1, none⟩ = some (.int .i64 o) := HC1.out w1 hb
              unfold frameO5b Oper.wp
              simp only [h1]
              go_simp
              exact ⟨_, by simp only [upd]; simp [h1], rfl, Below.refl _ _⟩
            · have r0 : ∃ A, (xs 0) = .slice A dyops.length 4 ∧ Lies w1 w1.heap.size A (I64 dyops) := hdep 0 (by kernel_rfl)
              have h2 : xs 2 = .int .i64 o := hdep 2 (by kernel_rfl)
              refine wpOp_at rfl rfl ?_
              obtain ⟨A, h0, hA⟩ := r0
              have IN := refInC_any A 4 dyops o w1 hA (by decide)
              rw [HIN.out] at IN
              unfold frameO5b Oper.wp
              simp only [h0, h2]
              go_simp
              refine IN.mono ?_
              rintro e w2 ⟨rfl, rfl⟩
              exact ⟨_, by simp only [upd]; simp [h0, h2], rfl, Below.refl _ _⟩
            · have h3 : xs 3 = .bool true := hdep 3 (by kernel_rfl)
              refine wpOp_at rfl rfl ?_
              unfold frameO5b Oper.wp
              simp only [h3]
              go_simp
              exact ⟨_, by simp only [upd]; simp [h3], rfl, Below.refl _ _⟩
            · have h4 : xs 4 = .bool false := hdep 4 (by kernel_rfl)
              refine wpOp_at rfl rfl ?_
              unfold frameO5b Oper.wp
              simp only [h4]
              go_simp
              exact ⟨_, by simp only [upd]; simp [h4], rfl, Below.refl _ _⟩
            · have h5 : xs 5 = .bool false := hdep 5 (by kernel_rfl)
              refine wpOp_on rfl (by unfold frameO5b; simp [Region.wanted, yielded, h5]) ?_
              unfold frameO5b Oper.wp
              simp only [h5]
              go_simp
              exact ⟨_, by simp only [upd]; simp [h5], rfl, Below.refl _ _⟩
            · have h6 : xs 6 = .pointer (some ⟨g, 7, none⟩) := hdep 6 (by kernel_rfl)
              have h5 : xs 5 = .bool false := hdep 5 (by kernel_rfl)
              refine wpOp_on rfl (by unfold frameO5b; simp [Region.wanted, yielded, h5]) ?_
              have c7 : w1.cell? ⟨g, 7, none⟩ = some (.slice A4 l.length c4) := HC7.out w1 hb
              unfold frameO5b Oper.wp
              simp only [h6, h5]
              go_simp
              exact ⟨_, by simp only [upd]; simp [h6, h5], rfl, Below.refl _ _⟩
            · have h7 : xs 7 = .slice A4 l.length c4 := hdep 7 (by kernel_rfl)
              have h5 : xs 5 = .bool false := hdep 5 (by kernel_rfl)
              refine wpOp_on rfl (by unfold frameO5b; simp [Region.wanted, yielded, h5]) ?_
              unfold frameO5b Oper.wp
              simp only [h7, h5]
              go_simp
              exact ⟨_, by simp only [upd]; simp [h7, h5], rfl, Below.refl _ _⟩
            · have h8 : xs 8 = .int .i64 (l.length : Int) := hdep 8 (by kernel_rfl)
              have h5 : xs 5 = .bool false := hdep 5 (by kernel_rfl)
              refine wpOp_on rfl (by unfold frameO5b; simp [Region.wanted, yielded, h5]) ?_
              have q8 : ((l.length : Int) != 2) = true := HN4.out
              unfold frameO5b Oper.wp
              simp only [h8, h5]
              go_simp
              exact ⟨_, by simp only [upd]; simp [h8, h5], rfl, Below.refl _ _⟩
            · have h5 : xs 5 = .bool false := hdep 5 (by kernel_rfl)
              have h9 : xs 9 = .bool true := hdep 9 (by kernel_rfl)
              refine wpOp_at rfl rfl ?_
              unfold frameO5b Oper.wp
              simp only [h5, h9]
              go_simp
              exact ⟨_, by simp only [upd]; simp [h5, h9], rfl, Below.refl _ _⟩
            · have h10 : xs 10 = .bool true := hdep 10 (by kernel_rfl)
              refine wpOp_at rfl rfl ?_
              unfold frameO5b Oper.wp
              simp only [h10]
              go_simp
              exact ⟨_, by simp only [upd]; simp [h10], rfl, Below.refl _ _⟩
            · have h11 : xs 11 = .bool true := hdep 11 (by kernel_rfl)
              refine wpOp_off rfl (by unfold frameO5b; simp [Region.wanted, yielded, h11]) ?_
              exact ⟨_, by simp only [frameO5b, upd]; simp [Act.put], rfl, Below.refl _ _⟩
            · have h11 : xs 11 = .bool true := hdep 11 (by kernel_rfl)
              refine wpOp_off rfl (by unfold frameO5b; simp [Region.wanted, yielded, h11]) ?_
              exact ⟨_, by simp only [frameO5b, upd]; simp [Act.put], rfl, Below.refl _ _⟩
            · have h11 : xs 11 = .bool true := hdep 11 (by kernel_rfl)
              refine wpOp_off rfl (by unfold frameO5b; simp [Region.wanted, yielded, h11]) ?_
              exact ⟨_, by simp only [frameO5b, upd]; simp [Act.put], rfl, Below.refl _ _⟩
            · have h11 : xs 11 = .bool true := hdep 11 (by kernel_rfl)
              refine wpOp_off rfl (by unfold frameO5b; simp [Region.wanted, yielded, h11]) ?_
              exact ⟨_, by simp only [frameO5b, upd]; simp [Act.put], rfl, Below.refl _ _⟩
            · have h11 : xs 11 = .bool true := hdep 11 (by kernel_rfl)
              refine wpOp_off rfl (by unfold frameO5b; simp [Region.wanted, yielded, h11]) ?_
              exact ⟨_, by simp only [frameO5b, upd]; simp [Act.put], rfl, Below.refl _ _⟩
            · have h11 : xs 11 = .bool true := hdep 11 (by kernel_rfl)
              refine wpOp_off rfl (by unfold frameO5b; simp [Region.wanted, yielded, h11]) ?_
              exact ⟨_, by simp only [frameO5b, upd]; simp [Act.put], rfl, Below.refl _ _⟩
            · have h11 : xs 11 = .bool true := hdep 11 (by kernel_rfl)
              refine wpOp_off rfl (by unfold frameO5b; simp [Region.wanted, yielded, h11]) ?_
              exact ⟨_, by simp only [frameO5b, upd]; simp [Act.put], rfl, Below.refl _ _⟩
            · have h11 : xs 11 = .bool true := hdep 11 (by kernel_rfl)
              have h18 : xs 18 = undef := hdep 18 (by kernel_rfl)
              refine wpOp_at rfl rfl ?_
              unfold frameO5b Oper.wp
              simp only [h11, h18]
              go_simp
              exact ⟨_, by simp only [upd]; simp [h11, h18], rfl, Below.refl _ _⟩
          · intro xs w1 hb hx
            have h19 : xs 19 = .bool true := hx 19 (by decide)
            clear hx
            unfold frameO5b
            simp only [h19]
            go_wp2_with fail
            go_ret
            exact ⟨ret_bool (by rw [HZ.out]), by rw [← HGG.out]; exact HWB.out.trans (hb.mono HWS.out)⟩
  · have HZ : Hid (R = false) := Lib.hid (by rw [HRR.out, operators, if_neg hf1])
    have q1 : (f != 1) = true := bne_iff_ne.2 hf1
    go_enter Tryz.func95, Tryz.ntmps95
    go_upto_region 1 with fail
    rw [← HW.out]
    rw [← hg]
    clear hg
    go_wp2_with (with_reducible refine wpList_load_row rfl 28 (.tmp 1) rfl g rfl 28 vs.toArray (0, 0) _ (HGB0.out _ (Below.refl _ _)) Tryz.underlying28 rfl HIA.out ?_)
    refine FD.out.mono ?_
    rintro e w2 ⟨rfl, hb2⟩
    go_wp2_with fail
    go_ret
    exact ⟨ret_bool (by rw [HZ.out]), by rw [← HGG.out]; exact HWB0.out.trans (hb2.mono HWS0.out)⟩
end Go.Proofs.YtceplkpjnebnfaaGreatDoor

/-
  What the program asks of parts: functions of expressions; each of them; one of them.
-/
namespace Go.Proofs.YtceplkpjnebnfaaGreatDoor
open Go.RowKit Tr
set_option maxHeartbeats 8000000
set_option maxRecDepth 100000
set_option linter.unusedVariables false

/-- A function of expressions that looks at the kind alone, from a world on. -/
structure FunK (w : World) (B : Nat) (F : FuncId) (caps : Array Value) (p : Int → Bool) : Prop where
  enter : ∀ args w, (callFunc F args).run Tryz.prog w = .ok (.enter F args) w
  run : ∀ (a : Tree) (vs : List Value) (wx : World), Below w.heap.size w wx → IsTree wx B a vs → Calls Tryz.prog F (#[.agg vs.toArray] ++ caps) wx (BoolOut wx (p (kind a)))
theorem FunK.later {w w' : World} {B : Nat} {F : FuncId} {caps : Array Value} {p : Int → Bool} (h : FunK w B F caps p) (hb : Below w.heap.size w w') : FunK w' B F caps p :=
  ⟨h.enter, fun a vs wx hx ht => h.run a vs wx (hb.trans (hx.mono hb.size)) ht⟩
theorem anArray_any (a : Tree) (vs : List Value) (w : World) (B : Nat) (h : IsTree w B a vs) : Calls Tryz.prog 112 #[.agg vs.toArray] w (BoolOut w (array (kind a))) := by
  obtain ⟨k, o, m, nm, t, l⟩ := a
  show Calls _ _ _ _ (BoolOut w (array k))
  obtain ⟨W, hW⟩ : ∃ W, W = w.alloc (.cells vs.toArray 28) := ⟨_, rfl⟩
  obtain ⟨A1, A2, A3, A4, c1, c2, c3, c4, us, HO, HL, HC, hW8, HG, hWl, hWb⟩ := tree_box h hW
  have q0 : W.cell? ⟨w.heap.size, 0, none⟩ = some (.int .i64 k) := hW8.p0
  have HWB := Lib.hid hWb
  have HW := Lib.hid hW
  have AR := Lib.hid (fun wx => array_any k wx)
  generalize array k = x at *
  clear h hW hW8 HO HL HC HG hWb
  go_enter Tryz.func112, Tryz.ntmps112
  go_upto_region 1 with fail
  rw [← HW.out]
  go_wp2_with fail
  refine (AR.out _).mono ?_
  rintro e w1 ⟨rfl, rfl⟩
  go_wp2_with fail
  go_ret
  exact ⟨rfl, HWB.out⟩
theorem aFunction_any (a : Tree) (vs : List Value) (w : World) (B : Nat) (h : IsTree w B a vs) : Calls Tryz.prog 114 #[.agg vs.toArray] w (BoolOut w (func (kind a))) := by
  obtain ⟨k, o, m, nm, t, l⟩ := a
  show Calls _ _ _ _ (BoolOut w (func k))
  obtain ⟨W, hW⟩ : ∃ W, W = w.alloc (.cells vs.toArray 28) := ⟨_, rfl⟩
  obtain ⟨A1, A2, A3, A4, c1, c2, c3, c4, us, HO, HL, HC, hW8, HG, hWl, hWb⟩ := tree_box h hW
  have q0 : W.cell? ⟨w.heap.size, 0, none⟩ = some (.int .i64 k) := hW8.p0
  have HWB := Lib.hid hWb
  have HW := Lib.hid hW
  have AR := Lib.hid (fun wx => func_any k wx)
  generalize func k = x at *
  clear h hW hW8 HO HL HC HG hWb
  go_enter Tryz.func114, Tryz.ntmps114
  go_upto_region 1 with fail
  rw [← HW.out]
  go_wp2_with fail
  refine (AR.out _).mono ?_
  rintro e w1 ⟨rfl, rfl⟩
  go_wp2_with fail
  go_ret
  exact ⟨rfl, HWB.out⟩
theorem aPlain_any (a : Tree) (vs : List Value) (w : World) (B : Nat) (h : IsTree w B a vs) : Calls Tryz.prog 117 #[.agg vs.toArray] w (BoolOut w (plain (kind a))) := by
  obtain ⟨k, o, m, nm, t, l⟩ := a
  show Calls _ _ _ _ (BoolOut w (plain k))
  obtain ⟨W, hW⟩ : ∃ W, W = w.alloc (.cells vs.toArray 28) := ⟨_, rfl⟩
  obtain ⟨A1, A2, A3, A4, c1, c2, c3, c4, us, HO, HL, HC, hW8, HG, hWl, hWb⟩ := tree_box h hW
  have q0 : W.cell? ⟨w.heap.size, 0, none⟩ = some (.int .i64 k) := hW8.p0
  have HWB := Lib.hid hWb
  have HW := Lib.hid hW
  have AR := Lib.hid (fun wx => plain_any k wx)
  generalize plain k = x at *
  clear h hW hW8 HO HL HC HG hWb
  go_enter Tryz.func117, Tryz.ntmps117
  go_upto_region 1 with fail
  rw [← HW.out]
  go_wp2_with fail
  refine (AR.out _).mono ?_
  rintro e w1 ⟨rfl, rfl⟩
  go_wp2_with fail
  go_ret
  exact ⟨rfl, HWB.out⟩
theorem aPlace_any (a : Tree) (vs : List Value) (w : World) (B : Nat) (h : IsTree w B a vs) : Calls Tryz.prog 113 #[.agg vs.toArray] w (BoolOut w (place (kind a))) := by
  obtain ⟨k, o, m, nm, t, l⟩ := a
  show Calls _ _ _ _ (BoolOut w (place k))
  obtain ⟨W, hW⟩ : ∃ W, W = w.alloc (.cells vs.toArray 28) := ⟨_, rfl⟩
  obtain ⟨A1, A2, A3, A4, c1, c2, c3, c4, us, HO, HL, HC, hW8, HG, hWl, hWb⟩ := tree_box h hW
  have q0 : W.cell? ⟨w.heap.size, 0, none⟩ = some (.int .i64 k) := hW8.p0
  have HWB := Lib.hid hWb
  have HW := Lib.hid hW
  have AR := Lib.hid (fun wx => array_any k wx)
  have HE : Hid (place k = (array k || (k == 10))) := Lib.hid rfl
  generalize place k = R at *
  generalize array k = x at *
  clear h hW hW8 HO HL HC HG hWb
  cases x
  all_goals
    cases q : (k == 10)
    all_goals
      rw [q] at HE
      go_enter Tryz.func113, Tryz.ntmps113
      go_upto_region 1 with fail
      rw [← HW.out]
      go_wp2_with fail
      refine (AR.out _).mono ?_
      rintro e w1 ⟨rfl, rfl⟩
      go_wp2_with fail
      go_ret
      exact ⟨ret_bool (by rw [HE.out]; rfl), HWB.out⟩
theorem funArray (w : World) (B : Nat) : FunK w B 112 #[] array := ⟨enters_of Tryz.func112 (by kernel_rfl) rfl, fun a vs wx _ h => anArray_any a vs wx B h⟩
theorem funPlace (w : World) (B : Nat) : FunK w B 113 #[] place := ⟨enters_of Tryz.func113 (by kernel_rfl) rfl, fun a vs wx _ h => aPlace_any a vs wx B h⟩
theorem funFunc (w : World) (B : Nat) : FunK w B 114 #[] func := ⟨enters_of Tryz.func114 (by kernel_rfl) rfl, fun a vs wx _ h => aFunction_any a vs wx B h⟩
theorem funPlain (w : World) (B : Nat) : FunK w B 117 #[] plain := ⟨enters_of Tryz.func117 (by kernel_rfl) rfl, fun a vs wx _ h => aPlain_any a vs wx B h⟩
def IndexOutK (r : Bool) (w : World) (e : Ending) (w' : World) : Prop := ∃ i : Int, e = .returned (.int .i64 i) ∧ decide (0 ≤ i) = r ∧ Below w.heap.size w w'
theorem any_next {l : List Tree} {p : Int → Bool} {j : Nat} (h : j < l.length) : (l.take (j + 1)).any (fun a => p (kind a)) = ((l.take j).any (fun a => p (kind a)) || p (kind l[j])) := by
  rw [List.take_succ_eq_append_getElem h, List.any_append]; simp
theorem any_hit {l : List Tree} {p : Int → Bool} {j : Nat} (h : j < l.length) (hp : p (kind l[j]) = true) : l.any (fun a => p (kind a)) = true := List.any_eq_true.2 ⟨l[j], List.getElem_mem h, hp⟩
theorem indexFuncT_any (F : FuncId) (caps : Array Value) (p : Int → Bool) (A : Option Addr) (c : Nat) (l : List Tree) (us : List Value) (w : World) (B : Nat) (hl : Lies w B A us) (hc : IsTrees w B l us) (hB : B ≤ w.heap.size) (hn : l.length ≤ 1100000000000) (hF : FunK w B F caps p) :
    Calls Tryz.prog 183 #[.slice A l.length c, .func (.func F) #[] caps] w (IndexOutK (l.any (fun a => p (kind a))) w) := by
  have HA := Lib.hid hl
  have HC := Lib.hid hc
  have HF := Lib.hid hF
  have HE := hF.enter
  have HBS := Lib.hid hB
  clear hl hF hc
  go_enter Tryz.func183, Tryz.ntmps183
  go_wp2_with fail
  go_loopw [8] (fun iv wr => ∃ i : Nat, i ≤ l.length ∧ iv = .int .i64 (i : Int) ∧ Hid ((l.take i).any (fun a => p (kind a)) = false) ∧ Below w.heap.size w wr) (fun iv _ => l.length - (intOf iv).toNat)
  case atStart => exact ⟨0, Nat.zero_le _, rfl, Lib.hid rfl, Below.refl _ _⟩
  case round =>
    obtain ⟨k, hk, rfl, HT, hbel⟩ := hrel
    by_cases hlt : k < l.length
    · obtain ⟨b, off, tv, rfl, hb, HTR, HR⟩ := tree_row HC.out HA.out (wr := wr) (fun q hq => hbel.cell (by omega)) hlt
      have H1 := Lib.hid (any_next (p := p) hlt)
      have H2 := Lib.hid (any_hit (p := p) hlt)
      have FX := Lib.hid (HF.out.run l[k] tv wr hbel (HTR.out.below (hbel.mono hB)))
      have HI := Lib.hid (tree_info HTR.out)
      clear HTR
      generalize p (kind l[k]) = r at *
      have hk0 : (0 : Int) ≤ (k : Int) := by omega
      have hk1 : (k : Int) < (l.length : Int) := by omega
      cases r
      · have H3 : Hid ((l.take (k + 1)).any (fun a => p (kind a)) = false) := Lib.hid (by rw [H1.out, HT.out]; rfl)
        go_wp2_with (with_reducible refine wpList_load_mid rfl 28 (.tmp 14) rfl b (off + k * 8) rfl tv _ HR.out Tryz.underlying28 rfl HI.out ?_)
        refine FX.out.mono ?_
        rintro e w' ⟨rfl, hb2⟩
        go_wp2_with fail
        go_roundw
        case rel => exact ⟨k + 1, by omega, by go_num, H3, hbel.trans (hb2.mono hbel.size)⟩
        case measure => simp [intOf]; omega
      · have H3 := Lib.hid (H2.out rfl)
        go_wp2_with (with_reducible refine wpList_load_mid rfl 28 (.tmp 14) rfl b (off + k * 8) rfl tv _ HR.out Tryz.underlying28 rfl HI.out ?_)
        refine FX.out.mono ?_
        rintro e w' ⟨rfl, hb2⟩
        go_wp2_with fail
        go_ret
        exact ⟨_, rfl, by rw [H3.out]; exact decide_eq_true (by omega), hbel.trans (hb2.mono hbel.size)⟩
    · have H3 : Hid (l.any (fun a => p (kind a)) = false) := Lib.hid (by have := HT.out; rwa [List.take_of_length_le (by omega)] at this)
      go_wp2_with fail
      go_ret
      exact ⟨_, rfl, by rw [H3.out]; rfl, hbel⟩
theorem contFuncT_any (F : FuncId) (caps : Array Value) (p : Int → Bool) (A : Option Addr) (c : Nat) (l : List Tree) (us : List Value) (w : World) (B : Nat) (hl : Lies w B A us) (hc : IsTrees w B l us) (hB : B ≤ w.heap.size) (hn : l.length ≤ 1100000000000) (hF : FunK w B F caps p) :
    Calls Tryz.prog 156 #[.slice A l.length c, .func (.func F) #[] caps] w (BoolOut w (l.any (fun a => p (kind a)))) := by
  have IX := Lib.hid (indexFuncT_any F caps p A c l us w B hl hc hB hn hF)
  clear hl hF hc
  generalize l.any (fun a => p (kind a)) = r at *
  generalize l.length = n at *
  go_enter Tryz.func156, Tryz.ntmps156
  go_wp2_with fail
  refine IX.out.mono ?_
  rintro e w' ⟨i, rfl, hr, hb⟩
  go_wp2_with fail
  go_ret
  exact ⟨ret_bool (by first | exact hr | rfl), hb⟩
end Go.Proofs.YtceplkpjnebnfaaGreatDoor

/-
  What the program asks of parts: each of them; so many as functions; the closures.
-/
namespace Go.Proofs.YtceplkpjnebnfaaGreatDoor
open Go.RowKit Tr
set_option maxHeartbeats 8000000
set_option maxRecDepth 100000
set_option linter.unusedVariables false

theorem tree_one {w : World} {B : Nat} {a : Tree} {vs : List Value} (h : IsTree w B a vs) : vs.toArray.all (·.oneCell') = true := by
  obtain ⟨A1, A2, A3, A4, c1, c2, c3, c4, rfl⟩ := h.form
  simp [treeCells, Value.oneCell']
theorem each1_any (F : FuncId) (caps : Array Value) (p : Int → Bool) (g : Nat) (a : Tree) (vs : List Value) (w : World) (B : Nat) (h : IsTree w B a vs) (hB : B ≤ w.heap.size) (hg : w.cell? ⟨g, 0, none⟩ = some (.func (.func F) #[] caps)) (hgl : g < w.heap.size) (hF : FunK w B F caps p) :
    Calls Tryz.prog 157 #[.agg vs.toArray, .pointer (some ⟨g, 0, none⟩)] w (BoolOut w (!p (kind a))) := by
  obtain ⟨W, hW⟩ : ∃ W, W = w.alloc (.cells vs.toArray 28) := ⟨_, rfl⟩
  have hWb : Below w.heap.size w W := by rw [hW]; exact (Below.refl _ _).alloc (Nat.le_refl _) _
  have HG : Hid (W.heap[w.heap.size]? = some (.cells vs.toArray 28 (0, 0))) := Lib.hid (by rw [hW]; exact heap_alloc_new w _)
  have HIA := Lib.hid (tree_infoA h)
  have FX := Lib.hid (hF.run a vs W hWb (h.below (hWb.mono hB)))
  have q0 : W.cell? ⟨g, 0, none⟩ = some (.func (.func F) #[] caps) := (hWb.cell (p := ⟨g, 0, none⟩) hgl).trans hg
  have HE := hF.enter
  have HWB := Lib.hid hWb
  have HWS : Hid (w.heap.size ≤ W.heap.size) := Lib.hid (by rw [hW]; simp)
  have HW := Lib.hid hW
  generalize p (kind a) = r at *
  clear h hW hWb hF hg
  go_enter Tryz.func157, Tryz.ntmps157
  go_upto_region 1 with fail
  rw [← HW.out]
  go_wp2_with (with_reducible refine wpList_load_row rfl 28 (.tmp 2) rfl w.heap.size rfl 28 vs.toArray (0, 0) _ HG.out Tryz.underlying28 rfl HIA.out ?_)
  refine FX.out.mono ?_
  rintro e w2 ⟨rfl, hb2⟩
  go_wp2_with fail
  go_ret
  exact ⟨rfl, HWB.out.trans (hb2.mono HWS.out)⟩
theorem each_any (F : FuncId) (caps : Array Value) (p : Int → Bool) (A : Option Addr) (c : Nat) (l : List Tree) (us : List Value) (w : World) (B : Nat) (hl : Lies w B A us) (hc : IsTrees w B l us) (hB : B ≤ w.heap.size) (hn : l.length ≤ 1100000000000) (hF : FunK w B F caps p) :
    Calls Tryz.prog 111 #[.slice A l.length c, .func (.func F) #[] caps] w (BoolOut w ((l.map kind).all p)) := by
  obtain ⟨W, hW⟩ : ∃ W, W = w.alloc (.cells #[.func (.func F) #[] caps] 29) := ⟨_, rfl⟩
  have hWb : Below w.heap.size w W := by rw [hW]; exact (Below.refl _ _).alloc (Nat.le_refl _) _
  have hWl : w.heap.size < W.heap.size := by rw [hW]; simp
  have hg : W.cell? ⟨w.heap.size, 0, none⟩ = some (.func (.func F) #[] caps) := by rw [hW]; go_simp
  have FK : FunK W B 157 #[.pointer (some ⟨w.heap.size, 0, none⟩)] (fun k => !p k) := ⟨enters_of Tryz.func157 (by kernel_rfl) rfl, fun a vs wx hx ht =>
    each1_any F caps p w.heap.size a vs wx B ht (by have := hx.size; omega) ((hx.cell (p := ⟨w.heap.size, 0, none⟩) hWl).trans hg) (by have := hx.size; omega) ((hF.later hWb).later hx)⟩
  have CF := Lib.hid (contFuncT_any _ _ _ A c l us W B (hl.below (hWb.mono hB)) (hc.below (hWb.mono hB)) (by omega) hn FK)
  have HE : Hid ((l.map kind).all p = !l.any (fun a => !p (kind a))) := Lib.hid (by
    rw [List.all_map, List.any_eq_not_all_not]; simp only [Bool.not_not]; rfl)
  have HWB := Lib.hid hWb
  have HWS : Hid (w.heap.size ≤ W.heap.size) := Lib.hid (by omega)
  have HW := Lib.hid hW
  generalize l.any (fun a => !p (kind a)) = r at *
  generalize (l.map kind).all p = R at *
  generalize l.length = n at *
  clear hl hc hF FK hW hWb hg
  go_enter Tryz.func111, Tryz.ntmps111
  go_upto_region 1 with fail
  rw [← HW.out]
  go_wp2_with fail
  refine CF.out.mono ?_
  rintro e w2 ⟨rfl, hb2⟩
  go_wp2_with fail
  go_ret
  exact ⟨ret_bool (by rw [HE.out]), HWB.out.trans (hb2.mono HWS.out)⟩

/-- A function value, and what it is true of. -/
structure FnP where
  F : FuncId
  caps : Array Value
  p : Int → Bool
def FnP.val (f : FnP) : Value := .func (.func f.F) #[] f.caps
theorem parts_bad {l : List Tree} : ∀ {fs : List FnP} {i : Nat} (h : l.length = fs.length) (hi : i < l.length) (hp : (fs[i]'(by omega)).p (kind l[i]) = false), parts (l.map kind) (fs.map FnP.p) = false := by
  induction l with
  | nil => intro fs i _ hi; simp at hi
  | cons a r ih =>
    intro fs i h hi hp
    cases fs with
    | nil => simp at h
    | cons f fs =>
      rw [List.map_cons, List.map_cons, parts]
      cases i with
      | zero => rw [show f.p (kind a) = false from hp]; rfl
      | succ i => rw [ih (fs := fs) (i := i) (by simpa using h) (by simpa using hi) hp, Bool.and_false]
theorem parts_good {l : List Tree} : ∀ {fs : List FnP} (h : l.length = fs.length) (hp : ∀ i (hi : i < l.length), (fs[i]'(by omega)).p (kind l[i]) = true), parts (l.map kind) (fs.map FnP.p) = true := by
  induction l with
  | nil =>
    intro fs h _
    cases fs with
    | nil => rfl
    | cons _ _ => simp at h
  | cons a r ih =>
    intro fs h hp
    cases fs with
    | nil => simp at h
    | cons f fs =>
      rw [List.map_cons, List.map_cons, parts, show f.p (kind a) = true from hp 0 (by simp), ih (fs := fs) (by simpa using h) (fun i hi => hp (i + 1) (by simpa using hi))]; rfl
theorem parts_len {l : List Tree} : ∀ {fs : List FnP} (h : l.length ≠ fs.length), parts (l.map kind) (fs.map FnP.p) = false := by
  induction l with
  | nil =>
    intro fs h
    cases fs with
    | nil => simp at h
    | cons _ _ => rfl
  | cons a r ih =>
    intro fs h
    cases fs with
    | nil => rfl
    | cons f fs => rw [List.map_cons, List.map_cons, parts, ih (fs := fs) (by simpa using h), Bool.and_false]
namespace T13
def slotsL : List Value → Nat → Value
  | [], _ => undef
  | v :: _, 0 => v
  | _ :: l, n + 1 => slotsL l n
end T13
open T13
def framePts (s0 s1 s2 s3 s4 s5 s6 s7 s8 s9 s10 s11 s12 s13 s14 s15 s16 s17 s18 s26 : Value) (xs : Nat → Value) : Act := { tmps := #[s0, s1, s2, s3, s4, s5, s6, s7, s8, s9, s10, s11, s12, s13, s14, s15, s16, s17, s18, xs 0, xs 1, xs 2, xs 3, xs 4, xs 5, xs 6, s26], defers := [] }
def predPts (n2 c2 j b2 off2 : Nat) (F : FuncId) (caps : Array Value) (gb : Nat) (tv : List Value) (r : Bool) : Nat → World → Value → Prop
  | 0, w, v => v = .slice (some ⟨b2, off2, none⟩) n2 c2
  | 1, w, v => v = .int .i64 (j : Int)
  | 2, w, v => v = .pointer (some ⟨b2, off2 + j, none⟩)
  | 3, w, v => v = .func (.func F) #[] caps
  | 4, w, v => v = .agg tv.toArray
  | 5, w, v => v = .bool r
  | _, w, v => v = .bool (!r)
theorem parts_any (fs : List FnP) (A' : Option Addr) (c' : Nat) (A : Option Addr) (c : Nat) (l : List Tree) (us : List Value) (w : World) (B : Nat) (hl : Lies w B A us) (hc : IsTrees w B l us) (hB : B ≤ w.heap.size) (hn : l.length ≤ 1100000000000) (hn' : fs.length ≤ 1000)
    (hfl : Lies w w.heap.size A' (fs.map FnP.val)) (hF : ∀ f ∈ fs, FunK w B f.F f.caps f.p) :
    Calls Tryz.prog 110 #[.slice A l.length c, .slice A' fs.length c'] w (BoolOut w (parts (l.map kind) (fs.map FnP.p))) := by
  by_cases hlen : l.length = fs.length
  · have HA := Lib.hid hl
    have HC := Lib.hid hc
    have HFL := Lib.hid hfl
    have HF : Hid (∀ i (hi : i < fs.length), FunK w B fs[i].F fs[i].caps fs[i].p) := Lib.hid (fun i hi => hF _ (List.getElem_mem hi))
    have PB : Hid (∀ i (hi : i < l.length), (fs[i]'(by omega)).p (kind l[i]) = false → parts (l.map kind) (fs.map FnP.p) = false) := Lib.hid (fun i hi h => parts_bad hlen hi h)
    have PG := Lib.hid (@parts_good l fs hlen)
    have ql : ((l.length : Int) != (fs.length : Int)) = false := by rw [hlen]; simp
    have hli : (fs.length : Int) = (l.length : Int) := by rw [hlen]
    have HL := Lib.hid hlen
    generalize parts (l.map kind) (fs.map FnP.p) = R at *
    clear hl hc hfl hF
    go_enter Tryz.func110, Tryz.ntmps110
    go_wp2_with fail
    go_loopw [14] (fun i wr => ∃ (j : Nat), j ≤ l.length ∧ i = .int .i64 j ∧ Hid (∀ i (hi : i < l.length), i < j → (fs[i]'(by omega)).p (kind l[i]) = true) ∧ Below w.heap.size w wr) (fun i _ => l.length - (intOf i).toNat)
    case atStart => exact ⟨0, Nat.zero_le _, rfl, Lib.hid (fun i hi h => by omega), Below.refl _ _⟩
    case round =>
      obtain ⟨j, hj, rfl, HI, hbel⟩ := hrel
      by_cases hlt : j < l.length
      · have hj2 : j < fs.length := by omega
        obtain ⟨b, off, tv, rfl, hb, HTR, HR⟩ := tree_row HC.out HA.out (wr := wr) (fun q hq => hbel.cell (by omega)) hlt
        obtain ⟨b2, off2, rfl, hb2, g2⟩ := HFL.out.at_ (k := j) (by simpa using hj2)
        obtain ⟨WB, hWB⟩ : ∃ W, W = wr.alloc (.cells tv.toArray 28) := ⟨_, rfl⟩
        have hwb : Below wr.heap.size wr WB := by rw [hWB]; exact (Below.refl _ _).alloc (Nat.le_refl _) _
        have hwl : wr.heap.size < WB.heap.size := by rw [hWB]; simp
        have HBE : Hid (Below w.heap.size w WB) := Lib.hid (hbel.trans (hwb.mono hbel.size))
        have HBS : Hid (w.heap.size ≤ WB.heap.size) := Lib.hid (Nat.le_trans hbel.size (Nat.le_of_lt hwl))
        have HFC : Hid (∀ w1, Below WB.heap.size WB w1 → w1.cell? ⟨b2, off2 + j, none⟩ = some (.func (.func (fs[j]'hj2).F) #[] (fs[j]'hj2).caps)) := Lib.hid (fun w1 hx => by
          rw [hx.cell (p := ⟨b2, off2 + j, none⟩) (Nat.lt_of_lt_of_le hb2 HBS.out), HBE.out.cell (p := ⟨b2, off2 + j, none⟩) hb2, g2]
          simp [FnP.val])
        have HGB : Hid (∀ w1, Below WB.heap.size WB w1 → w1.heap[wr.heap.size]? = some (.cells tv.toArray 28 (0, 0))) := Lib.hid (fun w1 hx => (hx.block _ hwl).trans (by rw [hWB]; exact heap_alloc_new wr _))
        have HIA := Lib.hid (tree_infoA HTR.out)
        have HIL := Lib.hid (tree_info HTR.out)
        have HSZ : Hid (tv.toArray.size = 8) := Lib.hid (by rw [List.size_toArray, HTR.out.len])
        have HON := Lib.hid (tree_one HTR.out)
        have HEN := Lib.hid (HF.out j hj2).enter
        have FX : Hid (∀ w1, Below WB.heap.size WB w1 → Calls Tryz.prog (fs[j]'hj2).F (#[.agg tv.toArray] ++ (fs[j]'hj2).caps) w1 (BoolOut w1 ((fs[j]'hj2).p (kind l[j])))) := Lib.hid (fun w1 hx => (HF.out j hj2).run l[j] tv w1 (HBE.out.trans (hx.mono HBS.out)) (HTR.out.below ((HBE.out.trans (hx.mono HBS.out)).mono hB)))
        have HS1 : Hid ((fs[j]'hj2).p (kind l[j]) = true → ∀ i (hi : i < l.length), i < j + 1 → (fs[i]'(by omega)).p (kind l[i]) = true) := Lib.hid (fun h i hi hij => by
          by_cases e : i = j
          · subst e; exact h
          · exact HI.out i hi (by omega))
        have HF1 := Lib.hid (PB.out j hlt)
        have HJ0 : Hid ((0 : Int) ≤ (j : Int)) := Lib.hid (by omega)
        have HJ1 : Hid ((j : Int) < (fs.length : Int)) := Lib.hid (by omega)
        generalize (fs[j]'hj2).p (kind l[j]) = r at *
        have HWB := Lib.hid hWB
        clear HTR PB PG g2 hwb hWB
        go_upto_region 6 with (first
          | (with_reducible refine wpList_load_mid rfl 28 (.tmp 17) rfl b (off + j * 8) rfl tv _ HR.out Tryz.underlying28 rfl HIL.out ?_)
          | (refine wpList_store_row rfl 28 (.tmp 6) (.tmp 18) rfl wr.heap.size tv.toArray rfl rfl 28 _ (heap_alloc_new wr _) HIA.out HSZ.out.symm HON.out ?_; rw [World.setRow_alloc_new]))
        rw [← HWB.out]
        refine wp_region_pred (framePts _ _ _ _ _ _ _ _ _ _ _ _ _ _ _ _ _ _ _ _) WB (predPts fs.length c' j b2 off2 (fs[j]'hj2).F (fs[j]'hj2).caps wr.heap.size tv r) (by kernel_rfl) ?_ (by kernel_rfl) (slotsL [_, _, _, _, _, _, _]) rfl (Below.refl _ _) ?_ ?_
        · intro i w1 w2 v hv hb
          match i with
          | 0 => exact hv
          | 1 => exact hv
          | 2 => exact hv
          | 3 => exact hv
          | 4 => exact hv
          | 5 => exact hv
          | i + 6 => exact hv
        · intro i xs w1 hi hb hdep
          have hi6 : i < 7 := hi
          clear hi
          rcases (show i = 0 ∨ i = 1 ∨ i = 2 ∨ i = 3 ∨ i = 4 ∨ i = 5 ∨ i = 6 by omega) with rfl | rfl | rfl | rfl | rfl | rfl | rfl
          · refine wpOp_at rfl rfl ?_
            unfold framePts Oper.wp
            go_simp
            exact ⟨_, by simp only [framePts, upd]; simp [Act.put], rfl, Below.refl _ _⟩
          · refine wpOp_at rfl rfl ?_
            unfold framePts Oper.wp
            go_simp
            exact ⟨_, by simp only [framePts, upd]; simp [Act.put], rfl, Below.refl _ _⟩
          · have h0 : xs 0 = .slice (some ⟨b2, off2, none⟩) fs.length c' := hdep 0 (by kernel_rfl)
            have h1 : xs 1 = .int .i64 (j : Int) := hdep 1 (by kernel_rfl)
            refine wpOp_at rfl rfl ?_
            have i0 : (0 : Int) ≤ (j : Int) := HJ0.out
            have i1 : (j : Int) < (fs.length : Int) := HJ1.out
            have i2 : ((j : Int)).toNat = j := rfl
            unfold framePts Oper.wp
            simp only [h0, h1]
            go_simp
            exact ⟨_, by simp only [framePts, upd]; simp [Act.put, h0, h1], rfl, Below.refl _ _⟩
          · have h2 : xs 2 = .pointer (some ⟨b2, off2 + j, none⟩) := hdep 2 (by kernel_rfl)
            refine wpOp_at rfl rfl ?_
            have c3 : w1.cell? ⟨b2, off2 + j, none⟩ = some (.func (.func (fs[j]'hj2).F) #[] (fs[j]'hj2).caps) := HFC.out w1 hb
            unfold framePts Oper.wp
            simp only [h2]
            go_simp
            exact ⟨_, by simp only [framePts, upd]; simp [Act.put, h2], rfl, Below.refl _ _⟩
          · refine wpOp_at rfl rfl ?_
            refine wp_load_row 28 (.tmp 6) rfl wr.heap.size rfl 28 tv.toArray (0, 0) _ (HGB.out w1 hb) Tryz.underlying28 rfl HIA.out ?_
            exact ⟨_, by simp only [framePts, upd]; simp [Act.put], rfl, Below.refl _ _⟩
          · have h3 : xs 3 = .func (.func (fs[j]'hj2).F) #[] (fs[j]'hj2).caps := hdep 3 (by kernel_rfl)
            have h4 : xs 4 = .agg tv.toArray := hdep 4 (by kernel_rfl)
            refine wpOp_at rfl rfl ?_
            have HE := HEN.out
            unfold framePts Oper.wp
            simp only [h3, h4]
            go_simp
            refine (FX.out w1 hb).mono ?_
            rintro e w2 ⟨rfl, hb2⟩
            exact ⟨_, by simp only [framePts, upd]; simp [Act.put, h3, h4], rfl, hb2⟩
          · have h5 : xs 5 = .bool r := hdep 5 (by kernel_rfl)
            refine wpOp_at rfl rfl ?_
            unfold framePts Oper.wp
            simp only [h5]
            go_simp
            exact ⟨_, by simp only [framePts, upd]; simp [Act.put, h5], rfl, Below.refl _ _⟩
        · intro xs w1 hb hx
          have h6 : xs 6 = .bool (!r) := hx 6 (by decide)
          clear hx
          have HBX := Lib.hid hb
          unfold framePts
          simp only [h6]
          clear h6 hb
          cases r
          · have HZ := Lib.hid (HF1.out rfl)
            go_wp2_with fail
            go_ret
            exact ⟨ret_bool (by rw [HZ.out]), HBE.out.trans (HBX.out.mono HBS.out)⟩
          · have HN := Lib.hid (HS1.out rfl)
            go_wp2_with fail
            go_roundw
            case rel => exact ⟨_, _, _, _, ⟨j + 1, by omega, rfl, Lib.hid (fun i hi hij => HN.out i (by have := HL.out; omega) hij), HBE.out.trans (HBX.out.mono HBS.out)⟩, rfl, rfl, rfl, by go_num⟩
            case measure => simp [intOf]; omega
      · have HZ := Lib.hid (PG.out (fun i hi => HI.out i hi (by omega)))
        go_wp2_with fail
        go_ret
        exact ⟨ret_bool (by rw [HZ.out]), hbel⟩
  · have HZ := Lib.hid (parts_len hlen)
    generalize parts (l.map kind) (fs.map FnP.p) = R at *
    have ql : ((l.length : Int) != (fs.length : Int)) = true := bne_iff_ne.2 (by omega)
    clear hl hc hfl hF
    go_enter Tryz.func110, Tryz.ntmps110
    go_wp2_with fail
    go_ret
    exact ⟨ret_bool (by rw [HZ.out]), Below.refl _ _⟩
end Go.Proofs.YtceplkpjnebnfaaGreatDoor
