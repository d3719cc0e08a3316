/-
  Texts of this proof, joined (by wip/bin/bundle.py): Dig16, DigLaid.
-/
import Derived.Test.YtfiefglagknclaaGreatDoorM12
import Derived.Deep.RegionHeld3
import Derived.Deep.Cut
import Derived.Test.YtfiefglagknclaaGreatDoorRows
import Derived.Lib.LaidTab
import Derived.LaidMore
import Derived.Stop.LaidErr
import Derived.MakeChecks
import Derived.OpenShut
import Derived.ProofKit
import Derived.ChangeOld
import Derived.Lay
/-
  The walk of the law DigitsPoint.
-/
namespace Go.Proofs.YtfiefglagknclaaGreatDoor
open Go.RowKit
set_option maxHeartbeats 4000000
set_option maxRecDepth 100000
set_option linter.unusedVariables false
set_option linter.unusedSimpArgs false

/-- A number's digits, with noughts ahead. -/
structure Padded (n : Nat) (T : List UInt8) : Prop where
  num : Ten.numOf T = n
  dig : ∀ b ∈ T, Ten.isDig b
  ne : 0 < T.length
theorem padded_start (n : Nat) : Padded n (Lib.decDigits n) := ⟨(Ten.dec_valid n).2, (Ten.dec_valid n).1.2.2, Dg.dec_pos n⟩
theorem Padded.cons {n : Nat} {T : List UInt8} (h : Padded n T) : Padded n (48 :: T) := ⟨by rw [Dg.numOf_zero]; exact h.num, fun b hb => by
  rcases List.mem_cons.1 hb with rfl | hb
  · exact ⟨by decide, by decide⟩
  · exact h.dig b hb, by simp⟩
/-- Digits with a point among them. -/
theorem point_parse {n k : Nat} {T : List UInt8} (h : Padded n T) (hk : k < T.length) (h0 : 0 < k) (hl : T.length ≤ 100) : Dg.parse (T.take (T.length - k) ++ 46 :: T.drop (T.length - k)) = Rt.mk false false n (10 ^ k) := by
  obtain ⟨m, hm⟩ : ∃ m, m = T.length - k := ⟨_, rfl⟩
  rw [← hm]
  have hml : (T.take m).length = m := by rw [List.length_take]; omega
  have hdl : (T.drop m).length = k := by rw [List.length_drop]; omega
  have hlen : (T.take m ++ 46 :: T.drop m).length = T.length + 1 := by rw [List.length_append, List.length_cons, hml, hdl]; omega
  have hd1 : ∀ i (hi : i < T.length), Dg.dB T[i] = true := fun i hi => Dg.dB_iff.2 (h.dig _ (List.getElem_mem hi))
  have hlead : Dg.lead (T.take m ++ 46 :: T.drop m) = m := by
    have := Dg.lead_at (s := T.take m ++ 46 :: T.drop m) (k := m) (by omega) (fun i hi hik => by
      rw [List.getElem_append_left (by omega), List.getElem_take]; exact hd1 i (by omega)) (by
      rw [List.getElem_append_right (by omega)]; simp [hml]; decide)
    exact this
  have hlead2 : Dg.lead (T.drop m) = k := by
    have := Dg.lead_all (s := T.drop m) (fun i hi => by rw [List.getElem_drop]; exact hd1 _ _)
    rw [this, hdl]
  have hdrop : (T.take m ++ 46 :: T.drop m).drop (m + 1) = T.drop m := by
    rw [List.drop_append, List.drop_eq_nil_of_le (by omega), hml, List.nil_append, Nat.add_sub_cancel_left]; rfl
  have htake : (T.take m ++ 46 :: T.drop m).take m = T.take m := by rw [List.take_append_of_le_length (by omega), List.take_of_length_le (by omega)]
  have hget : (T.take m ++ 46 :: T.drop m).getD m 0 = 46 := by
    rw [List.getD_eq_getElem?_getD, List.getElem?_append_right (by omega), hml]; simp
  rw [Dg.parse_body]
  · unfold Dg.body
    rw [hlead, hlen, hdrop, htake, hget, hlead2, if_neg (by omega), if_neg (by omega), if_neg (by omega), if_neg (by omega), if_neg (by decide), if_pos rfl, List.take_append_drop, h.num]
    rw [show T.length + 1 - (m + 1) = k by omega]
  · obtain ⟨b, hb⟩ : ∃ b, (T.take m ++ 46 :: T.drop m).head? = some b ∧ b ∈ T := by
      cases T with
      | nil => simp at hk
      | cons a r =>
        obtain ⟨j, rfl⟩ : ∃ j, m = j + 1 := ⟨m - 1, by omega⟩
        exact ⟨a, by simp, by simp⟩
    rw [hb.1]
    intro e
    injection e with e
    have := h.dig b hb.2
    rw [e] at this
    exact absurd this (by unfold Ten.isDig; decide)
theorem print_whole (n : Nat) : Dg.print ⟨false, Nt.digs n, [1]⟩ = Lib.decDigits n := by
  unfold Dg.print
  simp [Nt.val_digs]
theorem mk_whole {x : Nat} (h : (Nt.digs x).length ≤ 32) : Rt.mk false false x 1 = (⟨false, Nt.digs x, [1]⟩, 0) := by
  unfold Rt.mk
  rw [if_neg (by decide), Nat.gcd_one_right, Nat.div_one, Nat.div_one, digs_one, if_neg (by simp; omega)]
  simp
theorem mk_point {n k : Nat} (hn : n < 4294967296) (hk : k ≤ 9) : (Rt.mk false false n (10 ^ k)).2 = 0 := by
  unfold Rt.mk
  have hp : 0 < 10 ^ k := Nat.pow_pos (by decide)
  rw [if_neg (by omega), if_neg]
  have h1 := Nt.digs_len_lt (n := n / Nat.gcd n (10 ^ k)) (k := 1) (Nat.lt_of_le_of_lt (Nat.div_le_self _ _) (by omega))
  have h2 := Dg.limbs_ten (k := k) 2 (by omega)
  have h3 := Nt.digs_len_le_of (Nat.div_le_self (10 ^ k) (Nat.gcd n (10 ^ k)))
  omega

/-- A region's slots, as they lay ahead of it. -/
def slotsL : List Value → Nat → Value
  | [], _ => undef
  | a :: _, 0 => a
  | _ :: l, n + 1 => slotsL l n
/-- A number in its cell. -/
def NumIn (r : Rt.Nm) (g : Nat) (w : World) : Prop := ∃ A c A' c', w.heap[g]? = some (.cells #[.bool r.neg, .slice A r.top.length c, .slice A' r.bot.length c'] 26 (0, 0)) ∧ IsRes w (.slice A r.top.length c) r.top ∧ IsRes w (.slice A' r.bot.length c') r.bot
theorem NumIn.below {r : Rt.Nm} {g : Nat} {w w' : World} (h : NumIn r g w) (hb : Below w.heap.size w w') : NumIn r g w' := by
  obtain ⟨A, c, A', c', h1, h2, h3⟩ := h
  exact ⟨A, c, A', c', (hb.block g (blk_lt h1)).trans h1, h2.below hb, h3.below hb⟩
theorem NumIn.setRow {r : Rt.Nm} {g g' : Nat} {w : World} {b : Bool} {A : Option Addr} {k c : Nat} {A' : Option Addr} {k' c' : Nat} {t : TypeId} (h : NumIn r g w) (hg : w.heap[g']? = some (.cells #[.bool b, .slice A k c, .slice A' k' c'] t (0, 0))) (hne : g ≠ g') (cs : Array Value) : NumIn r g (w.setRow g' cs) := by
  obtain ⟨A, c, A', c', h1, h2, h3⟩ := h
  exact ⟨A, c, A', c', (rheap_far (fun e => hne e.symm)).trans h1, h2.setRow hg (three_no_int _ _ _ _ _ _ _) _, h3.setRow hg (three_no_int _ _ _ _ _ _ _) _⟩
theorem num_info3 {b : Bool} {A : Option Addr} {k c : Nat} {A' : Option Addr} {k' c' : Nat} : (Tryz.prog.info? 26).map (·.size) = some (#[.bool b, .slice A k c, .slice A' k' c'] : Array Value).size := num_info
def frameD5 (s0 s1 s2 s3 s4 s5 s6 s9 s10 s11 s12 s13 s14 s15 s16 s17 s18 s19 s20 s21 s22 s23 s24 s25 s26 s27 s28 s47 s48 s49 s50 s51 s52 s53 s54 s55 s56 s57 s58 s59 s60 s61 s62 s63 s64 s65 s66 s67 s68 s69 s70 s71 s72 s73 s74 s75 s76 s77 s78 s79 s80 s81 s82 s83 : Value) (xs : Nat → Value) : Act := { tmps := #[s0, s1, s2, s3, s4, s5, s6, xs 18, xs 20, s9, s10, s11, s12, s13, s14, s15, s16, s17, s18, s19, s20, s21, s22, s23, s24, s25, s26, s27, s28, xs 15, xs 0, xs 1, xs 2, xs 3, xs 4, xs 5, xs 6, xs 7, xs 8, xs 9, xs 10, xs 11, xs 12, xs 13, xs 14, xs 16, xs 17, s47, s48, s49, s50, s51, s52, s53, s54, s55, s56, s57, s58, s59, s60, s61, s62, s63, s64, s65, s66, s67, s68, s69, s70, s71, s72, s73, s74, s75, s76, s77, s78, s79, s80, s81, s82, s83], defers := [] }
def predD5 (B k m : Nat) (T ov bh : List UInt8) (r : Rt.Nm × Int) : Nat → World → Value → Prop
  | 0, w, v => v = .string ⟨T.toArray⟩
  | 1, w, v => v = .string ⟨T.toArray⟩
  | 2, w, v => v = .int .i64 (T.length : Int)
  | 3, w, v => v = .int .i64 (k : Int)
  | 4, w, v => v = .int .i64 (m : Int)
  | 5, w, v => v = .string ((⟨T.toArray⟩ : ByteArray).extract 0 m)
  | 6, w, v => v = .string ((⟨T.toArray⟩ : ByteArray).extract 0 m ++ ⟨#[46]⟩)
  | 7, w, v => v = .string ⟨T.toArray⟩
  | 8, w, v => v = .string ⟨T.toArray⟩
  | 9, w, v => v = .int .i64 (T.length : Int)
  | 10, w, v => v = .int .i64 (k : Int)
  | 11, w, v => v = .int .i64 (m : Int)
  | 12, w, v => v = .string ((⟨T.toArray⟩ : ByteArray).extract m T.length)
  | 13, w, v => v = .string (((⟨T.toArray⟩ : ByteArray).extract 0 m ++ ⟨#[46]⟩) ++ (⟨T.toArray⟩ : ByteArray).extract m T.length)
  | 14, w, v => ∃ t u, v = .tuple #[.agg #[.bool r.1.neg, t, u], .int .i64 r.2] ∧ IsRes w t r.1.top ∧ IsRes w u r.1.bot
  | 15, w, v => ∃ t u, v = .tuple #[.agg #[.bool r.1.neg, t, u], .int .i64 r.2] ∧ IsRes w t r.1.top ∧ IsRes w u r.1.bot
  | 16, w, v => ∃ t u, v = .agg #[.bool r.1.neg, t, u] ∧ IsRes w t r.1.top ∧ IsRes w u r.1.bot
  | 17, w, v => v = .int .i64 r.2
  | 18, w, v => ∃ g, v = .pointer (some ⟨g, 0, none⟩) ∧ B ≤ g ∧ w.heap[g]? = some (.cells #[.bool false, .slice none 0 0, .slice none 0 0] 26 (0, 0))
  | 19, w, v => True
  | 20, w, v => v = .int .i64 r.2
  | _, w, v => True
def pred2D5 (B k m : Nat) (T ov bh : List UInt8) (r : Rt.Nm × Int) : Nat → World → Value → Prop
  | 15, w, v => ∃ t u, v = .tuple #[.agg #[.bool r.1.neg, t, u], .int .i64 r.2] ∧ True
  | 17, w, v => v = .int .i64 r.2
  | 18, w, v => ∃ g, v = .pointer (some ⟨g, 0, none⟩) ∧ B ≤ g ∧ NumIn r.1 g w
  | 20, w, v => v = .int .i64 r.2
  | _, w, v => True
def frameD10 (s0 s1 s2 s3 s4 s5 s6 s7 s8 s9 s10 s13 s14 s15 s16 s17 s18 s19 s20 s21 s22 s23 s24 s25 s26 s27 s28 s29 s30 s31 s32 s33 s34 s35 s36 s37 s38 s39 s40 s41 s42 s43 s44 s45 s46 s47 s48 s49 s50 s51 s52 s59 s60 s61 s62 s63 s64 s65 s66 s67 s68 s69 s70 s71 s72 s73 s74 s75 s76 s77 s78 s79 s80 s81 s82 s83 : Value) (xs : Nat → Value) : Act := { tmps := #[s0, s1, s2, s3, s4, s5, s6, s7, s8, s9, s10, xs 6, xs 8, s13, s14, s15, s16, s17, s18, s19, s20, s21, s22, s23, s24, s25, s26, s27, s28, s29, s30, s31, s32, s33, s34, s35, s36, s37, s38, s39, s40, s41, s42, s43, s44, s45, s46, s47, s48, s49, s50, s51, s52, xs 3, xs 0, xs 1, xs 2, xs 4, xs 5, s59, s60, s61, s62, s63, s64, s65, s66, s67, s68, s69, s70, s71, s72, s73, s74, s75, s76, s77, s78, s79, s80, s81, s82, s83], defers := [] }
def predD10 (B : Nat) (A9 B9 : Option Addr) (c9 d9 : Nat) (l : List Nat) (q : Rt.Nm × Int) : Nat → World → Value → Prop
  | 0, w, v => v = .agg #[.bool false, .slice A9 l.length c9, .slice B9 1 d9]
  | 1, w, v => ∃ t u, v = .agg #[.bool false, t, u] ∧ IsRes w t (Nt.digs 10) ∧ IsRes w u [1]
  | 2, w, v => ∃ t u, v = .tuple #[.agg #[.bool q.1.neg, t, u], .int .i64 q.2] ∧ IsRes w t q.1.top ∧ IsRes w u q.1.bot
  | 3, w, v => ∃ t u, v = .tuple #[.agg #[.bool q.1.neg, t, u], .int .i64 q.2] ∧ IsRes w t q.1.top ∧ IsRes w u q.1.bot
  | 4, w, v => ∃ t u, v = .agg #[.bool q.1.neg, t, u] ∧ IsRes w t q.1.top ∧ IsRes w u q.1.bot
  | 5, w, v => v = .int .i64 q.2
  | 6, w, v => ∃ g, v = .pointer (some ⟨g, 0, none⟩) ∧ B ≤ g ∧ w.heap[g]? = some (.cells #[.bool false, .slice none 0 0, .slice none 0 0] 26 (0, 0))
  | 7, w, v => True
  | 8, w, v => v = .int .i64 q.2
  | _, w, v => True
def pred2D10 (B : Nat) (A9 B9 : Option Addr) (c9 d9 : Nat) (l : List Nat) (q : Rt.Nm × Int) : Nat → World → Value → Prop
  | 3, w, v => ∃ t u, v = .tuple #[.agg #[.bool q.1.neg, t, u], .int .i64 q.2] ∧ True
  | 5, w, v => v = .int .i64 q.2
  | 6, w, v => ∃ g, v = .pointer (some ⟨g, 0, none⟩) ∧ B ≤ g ∧ NumIn q.1 g w
  | 8, w, v => v = .int .i64 q.2
  | _, w, v => True
def frameD14 (s0 s1 s2 s3 s4 s5 s6 s7 s8 s9 s10 s11 s12 s15 s16 s17 s18 s19 s20 s21 s22 s23 s24 s25 s26 s27 s28 s29 s30 s31 s32 s33 s34 s35 s36 s37 s38 s39 s40 s41 s42 s43 s44 s45 s46 s47 s48 s49 s50 s51 s52 s53 s54 s55 s56 s57 s58 s59 s60 s61 s70 s71 s72 s73 s74 s75 s76 s77 s78 s79 s80 s81 s82 s83 : Value) (xs : Nat → Value) : Act := { tmps := #[s0, s1, s2, s3, s4, s5, s6, s7, s8, s9, s10, s11, s12, xs 8, xs 10, s15, s16, s17, s18, s19, s20, s21, s22, s23, s24, s25, s26, s27, s28, s29, s30, s31, s32, s33, s34, s35, s36, s37, s38, s39, s40, s41, s42, s43, s44, s45, s46, s47, s48, s49, s50, s51, s52, s53, s54, s55, s56, s57, s58, s59, s60, s61, xs 5, xs 0, xs 1, xs 2, xs 3, xs 4, xs 6, xs 7, s70, s71, s72, s73, s74, s75, s76, s77, s78, s79, s80, s81, s82, s83], defers := [] }
def predD14 (B n : Nat) (A9 B9 : Option Addr) (c9 d9 : Nat) (l : List Nat) (r : Rt.Nm × Int) : Nat → World → Value → Prop
  | 0, w, v => v = .int .u32 (n : Int)
  | 1, w, v => v = .int .i64 (n : Int)
  | 2, w, v => ∃ t u, v = .agg #[.bool false, t, u] ∧ IsRes w t (Nt.digs n) ∧ IsRes w u [1]
  | 3, w, v => v = .agg #[.bool false, .slice A9 l.length c9, .slice B9 1 d9]
  | 4, w, v => ∃ t u, v = .tuple #[.agg #[.bool r.1.neg, t, u], .int .i64 r.2] ∧ IsRes w t r.1.top ∧ IsRes w u r.1.bot
  | 5, w, v => ∃ t u, v = .tuple #[.agg #[.bool r.1.neg, t, u], .int .i64 r.2] ∧ IsRes w t r.1.top ∧ IsRes w u r.1.bot
  | 6, w, v => ∃ t u, v = .agg #[.bool r.1.neg, t, u] ∧ IsRes w t r.1.top ∧ IsRes w u r.1.bot
  | 7, w, v => v = .int .i64 r.2
  | 8, w, v => ∃ g, v = .pointer (some ⟨g, 0, none⟩) ∧ B ≤ g ∧ w.heap[g]? = some (.cells #[.bool false, .slice none 0 0, .slice none 0 0] 26 (0, 0))
  | 9, w, v => True
  | 10, w, v => v = .int .i64 r.2
  | _, w, v => True
def pred2D14 (B n : Nat) (A9 B9 : Option Addr) (c9 d9 : Nat) (l : List Nat) (r : Rt.Nm × Int) : Nat → World → Value → Prop
  | 5, w, v => ∃ t u, v = .tuple #[.agg #[.bool r.1.neg, t, u], .int .i64 r.2] ∧ True
  | 7, w, v => v = .int .i64 r.2
  | 8, w, v => ∃ g, v = .pointer (some ⟨g, 0, none⟩) ∧ B ≤ g ∧ NumIn r.1 g w
  | 10, w, v => v = .int .i64 r.2
  | _, w, v => True
theorem of_one (w : World) : Calls Tryz.prog 6 #[.int .i64 1] w (NumOut w ⟨false, [1], [1]⟩) := by
  have := ofInt4_any 1 w (by omega) (by omega)
  rwa [show decide ((1 : Int) < 0) = false from rfl, show (1 : Int).natAbs = 1 from rfl, digs_one] at this
theorem of_ten (w : World) : Calls Tryz.prog 6 #[.int .i64 10] w (NumOut w ⟨false, Nt.digs 10, [1]⟩) := by
  have := ofInt4_any 10 w (by omega) (by omega)
  rwa [show decide ((10 : Int) < 0) = false from rfl, show (10 : Int).natAbs = 10 from rfl] at this
theorem ok_one : Nt.Ok [1] := by intro d hd; rw [List.mem_singleton] at hd; subst hd; decide
theorem mul_ten (i : Nat) (hi : i < 9) (w : World) (v1 v2 v3 v4 : Value) (h1 : IsRes w v1 (Nt.digs (10 ^ i))) (h2 : IsRes w v2 [1]) (h3 : IsRes w v3 (Nt.digs 10)) (h4 : IsRes w v4 [1]) :
    Calls Tryz.prog 8 #[.agg #[.bool false, v1, v2], .agg #[.bool false, v3, v4]] w (MakeOut w (⟨false, Nt.digs (10 ^ (i + 1)), [1]⟩, 0)) := by
  have d1 := Dg.limbs_ten (k := i) 2 (by omega)
  have d2 := Dg.limbs_ten (k := i + 1) 2 (by omega)
  have d3 : (Nt.digs 10).length ≤ 1 := Nt.digs_len_lt (by decide)
  have := rmul_any v1 v2 v3 v4 _ _ _ _ w ⟨h1, Nt.ok_digs _, by omega⟩ ⟨h2, ok_one, by decide⟩ ⟨h3, Nt.ok_digs _, by omega⟩ ⟨h4, ok_one, by decide⟩ (by omega) (by decide) (by omega) (by decide)
  rwa [Nt.val_digs, Nt.val_digs, show Nt.val [1] * Nt.val [1] = 1 from by decide, ← Nat.pow_succ, mk_whole (by rw [Nat.succ_eq_add_one]; omega)] at this
theorem div_ten (n k : Nat) (hn : n < 4294967296) (hk : k ≤ 9) (w : World) (v1 v2 v3 v4 : Value) (h1 : IsRes w v1 (Nt.digs n)) (h2 : IsRes w v2 [1]) (h3 : IsRes w v3 (Nt.digs (10 ^ k))) (h4 : IsRes w v4 [1]) :
    Calls Tryz.prog 9 #[.agg #[.bool false, v1, v2], .agg #[.bool false, v3, v4]] w (MakeOut w (Rt.mk false false n (10 ^ k))) := by
  have d1 : (Nt.digs n).length ≤ 1 := Nt.digs_len_lt (by omega)
  have d2 := Dg.limbs_ten (k := k) 2 (by omega)
  have := rdiv_any v1 v2 v3 v4 _ _ _ _ w ⟨h1, Nt.ok_digs _, by omega⟩ ⟨h2, ok_one, by decide⟩ ⟨h3, Nt.ok_digs _, by omega⟩ ⟨h4, ok_one, by decide⟩ (by omega) (by decide) (by omega) (by decide)
  rwa [Nt.val_digs, Nt.val_digs, show Nt.val [1] = 1 from by decide, Nat.mul_one, Nat.one_mul] at this

theorem digitsPoint_walk (n p : Nat) (w : World) (hn : n < 4294967296) (hp : p < 256) (hP : Pow10 w) :
    Calls Tryz.prog 3 #[.int .u32 (n : Int), .int .u8 (p : Int)] w fun e w' => e = .returned (.bool true) ∧ Below w.heap.size w w' := by
  obtain ⟨k, hk⟩ : ∃ k, k = p % 9 + 1 := ⟨_, rfl⟩
  have hk9 : k ≤ 9 := by omega
  have hk1 : 0 < k := by omega
  obtain ⟨m9, hm9⟩ : ∃ m9 : Nat, (p : Int) % 9 = (m9 : Int) := ⟨p % 9, by omega⟩
  have hm8 : m9 ≤ 8 := by omega
  have HK : Hid (k = m9 + 1) := Lib.hid (by omega)
  clear hk
  have hdl : (Nt.digs n).length ≤ 1 := Nt.digs_len_lt (by omega)
  have OF := fun (wx : World) => ofInt4_any (n : Int) wx (by omega) (by omega)
  rw [show decide ((n : Int) < 0) = false from decide_eq_false (by omega), show ((n : Int)).natAbs = n by omega] at OF
  have HOF := Lib.hid OF
  have PR : Hid (∀ (wx : World) (t u : Value), IsRes wx t (Nt.digs n) → IsRes wx u [1] → Calls Tryz.prog 5 #[.agg #[.bool false, t, u]] wx (StrOut wx (Lib.decDigits n))) := Lib.hid (fun wx t u ht hu => by
    have := refPrint_any ⟨false, Nt.digs n, [1]⟩ t u wx ⟨ht, hu, Nt.ok_digs _, (by intro d hd; rw [List.mem_singleton] at hd; subst hd; decide), by show (Nt.digs n).length ≤ 1000; omega, by show 1 ≤ 1000; decide⟩
    rwa [print_whole] at this)
  have hd10 : (Lib.decDigits n).length ≤ 10 := (Ten.dec_len (r := n) (k := 9) (by omega)).2
  have HPT := Lib.hid (fun T (h : Padded n T) hk' hl => point_parse (n := n) (k := k) h hk' hk1 hl)
  have HS := Lib.hid (padded_start n)
  have HMP := Lib.hid (mk_point hn hk9)
  clear OF hdl
  generalize Lib.decDigits n = T0 at *
  go_enter Tryz.func3, Tryz.ntmps3
  go_upto_region 1 with fail
  go_cut [5] from 15 (fun x wx => x = .int .i64 (k : Int) ∧ wx = w)
  case first =>
    go_wp2_with fail
    go_meet
    exact ⟨congrArg (Value.int .i64) (by have := HK.out; omega), rfl⟩
  obtain ⟨rfl, rfl⟩ := hcut
  rename World => w
  clear hm9 hm8
  go_wp2_with fail
  refine (HOF.out _).mono ?_
  rintro e w1 ⟨t1, u1, rfl, ht1, hu1, hb1⟩
  have PR1 := Lib.hid (PR.out w1 t1 u1 ht1 hu1)
  clear ht1 hu1 PR
  go_wp2_with fail
  refine PR1.out.mono ?_
  rintro e w2 ⟨rfl, hb2⟩
  have hbw2 := hb1.trans (hb2.mono hb1.size)
  clear hb1 hb2 PR1
  go_wp2_with fail
  go_loop [6] (fun sv => ∃ T : List UInt8, T.length ≤ 10 ∧ sv = .string ⟨T.toArray⟩ ∧ Hid (Padded n T)) (fun sv => 20 - strLen sv)
  case atStart => exact ⟨T0, hd10, rfl, HS⟩
  case round =>
    obtain ⟨T, hTl, rfl, HT⟩ := hrel
    have hsz : (⟨T.toArray⟩ : ByteArray).size = T.length := rfl
    have HSZ := Lib.hid hsz
    clear hsz
    by_cases hle : T.length ≤ k
    · have HC := Lib.hid HT.out.cons
      go_wp2_with fail
      go_round
      case rel => exact ⟨48 :: T, by simp; omega, congrArg Value.string (by apply ByteArray.ext; simp), HC⟩
      case measure => simp [strLen, ByteArray.size]; omega
    · have hk' : k < T.length := by omega
      have HPAR := Lib.hid (HPT.out T HT.out hk' (by omega))
      obtain ⟨ov, hov⟩ : ∃ ov, ov = T.take (T.length - k) := ⟨_, rfl⟩
      obtain ⟨bh, hbh⟩ : ∃ bh, bh = T.drop (T.length - k) := ⟨_, rfl⟩
      obtain ⟨m, hm⟩ : ∃ m, m = T.length - k := ⟨_, rfl⟩
      have SC : Hid (((⟨T.toArray⟩ : ByteArray).extract 0 m ++ ⟨#[46]⟩) ++ (⟨T.toArray⟩ : ByteArray).extract m T.length = ⟨(ov ++ 46 :: bh).toArray⟩) := Lib.hid (by
        rw [str_upto T m (by omega), str_from]
        apply ByteArray.ext
        rw [hov, hbh, hm]; simp)
      have hlen : (ov ++ 46 :: bh).length ≤ 100 := by rw [hov, hbh]; simp; omega
      have PA := fun (wx : World) => digParse_any (ov ++ 46 :: bh) wx (by omega)
      rw [← hov, ← hbh] at HPAR
      rw [← SC.out, HPAR.out] at PA
      have HPA := Lib.hid PA
      have hmI : (T.length : Int) - (k : Int) = (m : Int) := by omega
      have hw1 : IntKind.i64.wrap ((T.length : Int) - (k : Int)) = (m : Int) := by rw [hmI]; exact IntWalk.i64_in _ (by omega)
      have hm0 : (0 : Int) ≤ (m : Int) := by omega
      have HWM : Hid (IntKind.i64.wrap (m : Int) = (m : Int)) := Lib.hid (IntWalk.i64_in _ (by omega))
      have hm1 : (m : Int) ≤ (T.length : Int) := by omega
      have hm2 : m ≤ T.length := by omega
      have hcc : ¬ 9223372036854775807 < m + 1 := by omega
      have hcd : ¬ 9223372036854775807 < m + 1 + (T.length - m) := by omega
      have hbd : Below w.heap.size w w2.drew := ⟨hbw2.os, hbw2.tape, hbw2.output, hbw2.size, hbw2.block⟩
      clear PA hov hbh hm
      obtain ⟨r, hr⟩ : ∃ r, r = Rt.mk false false n (10 ^ k) := ⟨_, rfl⟩
      rw [← hr] at HPA HMP
      have HR := Lib.hid hr
      clear hr
      go_upto_region 5 with fail
      go_cut [7, 8] from 29 (fun x y wx => y = .int .i64 0 ∧ ∃ g, x = .pointer (some ⟨g, 0, none⟩) ∧ w2.heap.size ≤ g ∧ NumIn r.1 g wx ∧ Below w2.heap.size w2 wx)
      case first =>
        obtain ⟨B, hB0⟩ : ∃ B, B = w2.heap.size := ⟨_, rfl⟩
        have hBe := Lib.hid hB0.symm
        clear hB0
        refine wp_region_make (frameD5 _ _ _ _ _ _ _ _ _ _ _ _ _ _ _ _ _ _ _ _ _ _ _ _ _ _ _ _ _ _ _ _ _ _ _ _ _ _ _ _ _ _ _ _ _ _ _ _ _ _ _ _ _ _ _ _ _ _ _ _ _ _ _ _) w2 (predD5 B k m T ov bh r) (pred2D5 B k m T ov bh r) 19 (by kernel_rfl) (by kernel_rfl) (by kernel_rfl) ?_ ?_ ?_ (slotsL [_, _, _, _, _, _, _, _, _, _, _, _, _, _, _, _, _, _, _, undef, _]) rfl (Below.refl _ _) ?_ ?_ ?_ ?_
        · intro i w1 w2 v hv hb
          match i with
          | 0 => exact hv
          | 1 => exact hv
          | 2 => exact hv
          | 3 => exact hv
          | 4 => exact hv
          | 5 => exact hv
          | 6 => exact hv
          | 7 => exact hv
          | 8 => exact hv
          | 9 => exact hv
          | 10 => exact hv
          | 11 => exact hv
          | 12 => exact hv
          | 13 => exact hv
          | 14 => exact (by obtain ⟨t, u, e, ht, hu⟩ := hv; exact ⟨t, u, e, ht.below hb, hu.below hb⟩)
          | 15 => exact (by obtain ⟨t, u, e, ht, hu⟩ := hv; exact ⟨t, u, e, ht.below hb, hu.below hb⟩)
          | 16 => exact (by obtain ⟨t, u, e, ht, hu⟩ := hv; exact ⟨t, u, e, ht.below hb, hu.below hb⟩)
          | 17 => exact hv
          | 18 => exact (by obtain ⟨g, e, h1, h2⟩ := hv; exact ⟨g, e, h1, (hb.block g (blk_lt h2)).trans h2⟩)
          | 19 => exact trivial
          | 20 => exact hv
          | i + 21 => trivial
        · intro i w1 w2 v hv hb
          match i with
          | 0 => exact trivial
          | 1 => exact trivial
          | 2 => exact trivial
          | 3 => exact trivial
          | 4 => exact trivial
          | 5 => exact trivial
          | 6 => exact trivial
          | 7 => exact trivial
          | 8 => exact trivial
          | 9 => exact trivial
          | 10 => exact trivial
          | 11 => exact trivial
          | 12 => exact trivial
          | 13 => exact trivial
          | 14 => exact trivial
          | 15 => exact hv
          | 16 => exact trivial
          | 17 => exact hv
          | 18 => exact (by obtain ⟨g, e, h1, h2⟩ := hv; exact ⟨g, e, h1, h2.below hb⟩)
          | 19 => exact trivial
          | 20 => exact hv
          | i + 21 => trivial
        · intro i w1 w2 v hi hd hv
          match i with
          | 0 => exact trivial
          | 1 => exact trivial
          | 2 => exact trivial
          | 3 => exact trivial
          | 4 => exact trivial
          | 5 => exact trivial
          | 6 => exact trivial
          | 7 => exact trivial
          | 8 => exact trivial
          | 9 => exact trivial
          | 10 => exact trivial
          | 11 => exact trivial
          | 12 => exact trivial
          | 13 => exact trivial
          | 14 => exact trivial
          | 15 => exact absurd hd (by decide)
          | 16 => exact trivial
          | 17 => exact hv
          | 18 => exact absurd hd (by decide)
          | 19 => exact trivial
          | 20 => exact hv
          | i + 21 => trivial
        · intro i xs w1 hi hne hb hdep
          have hi6 : i < 21 := hi
          clear hi
          rcases (show i = 0 ∨ i = 1 ∨ i = 2 ∨ i = 3 ∨ i = 4 ∨ i = 5 ∨ i = 6 ∨ i = 7 ∨ i = 8 ∨ i = 9 ∨ i = 10 ∨ i = 11 ∨ i = 12 ∨ i = 13 ∨ i = 14 ∨ i = 15 ∨ i = 16 ∨ i = 17 ∨ i = 18 ∨ i = 20 by omega) with rfl | rfl | rfl | rfl | rfl | rfl | rfl | rfl | rfl | rfl | rfl | rfl | rfl | rfl | rfl | rfl | rfl | rfl | rfl | rfl
          · refine wpOp_at rfl rfl ?_
            unfold frameD5 Oper.wp
            go_simp
            exact ⟨_, by simp only [frameD5, upd]; simp [Act.put], rfl, Below.refl _ _⟩
          · refine wpOp_at rfl rfl ?_
            unfold frameD5 Oper.wp
            go_simp
            exact ⟨_, by simp only [frameD5, upd]; simp [Act.put], rfl, Below.refl _ _⟩
          · have h1 : xs 1 = .string ⟨T.toArray⟩ := hdep 1 (by decide) (by kernel_rfl)
            refine wpOp_at rfl rfl ?_
            unfold frameD5 Oper.wp
            simp only [h1]
            go_simp
            exact ⟨_, by simp only [frameD5, upd]; simp [Act.put, h1], rfl, Below.refl _ _⟩
          · refine wpOp_at rfl rfl ?_
            unfold frameD5 Oper.wp
            go_simp
            exact ⟨_, by simp only [frameD5, upd]; simp [Act.put], rfl, Below.refl _ _⟩
          · have h2 : xs 2 = .int .i64 (T.length : Int) := hdep 2 (by decide) (by kernel_rfl)
            have h3 : xs 3 = .int .i64 (k : Int) := hdep 3 (by decide) (by kernel_rfl)
            refine wpOp_at rfl rfl ?_
            unfold frameD5 Oper.wp
            simp only [h2, h3]
            go_simp
            exact ⟨_, by simp only [frameD5, upd]; simp [Act.put, h2, h3, hw1, HWM.out], rfl, Below.refl _ _⟩
          · have h0 : xs 0 = .string ⟨T.toArray⟩ := hdep 0 (by decide) (by kernel_rfl)
            have h4 : xs 4 = .int .i64 (m : Int) := hdep 4 (by decide) (by kernel_rfl)
            refine wpOp_at rfl rfl ?_
            unfold frameD5 Oper.wp
            simp only [h0, h4]
            go_simp
            exact ⟨_, by simp only [frameD5, upd]; simp [Act.put, h0, h4], rfl, Below.refl _ _⟩
          · have h5 : xs 5 = .string ((⟨T.toArray⟩ : ByteArray).extract 0 m) := hdep 5 (by decide) (by kernel_rfl)
            refine wpOp_at rfl rfl ?_
            unfold frameD5 Oper.wp
            simp only [h5]
            go_simp
            exact ⟨_, by simp only [frameD5, upd]; simp [Act.put, h5], rfl, Below.refl _ _⟩
          · refine wpOp_at rfl rfl ?_
            unfold frameD5 Oper.wp
            go_simp
            exact ⟨_, by simp only [frameD5, upd]; simp [Act.put], rfl, Below.refl _ _⟩
          · refine wpOp_at rfl rfl ?_
            unfold frameD5 Oper.wp
            go_simp
            exact ⟨_, by simp only [frameD5, upd]; simp [Act.put], rfl, Below.refl _ _⟩
          · have h8 : xs 8 = .string ⟨T.toArray⟩ := hdep 8 (by decide) (by kernel_rfl)
            refine wpOp_at rfl rfl ?_
            unfold frameD5 Oper.wp
            simp only [h8]
            go_simp
            exact ⟨_, by simp only [frameD5, upd]; simp [Act.put, h8], rfl, Below.refl _ _⟩
          · refine wpOp_at rfl rfl ?_
            unfold frameD5 Oper.wp
            go_simp
            exact ⟨_, by simp only [frameD5, upd]; simp [Act.put], rfl, Below.refl _ _⟩
          · have h9 : xs 9 = .int .i64 (T.length : Int) := hdep 9 (by decide) (by kernel_rfl)
            have h10 : xs 10 = .int .i64 (k : Int) := hdep 10 (by decide) (by kernel_rfl)
            refine wpOp_at rfl rfl ?_
            unfold frameD5 Oper.wp
            simp only [h9, h10]
            go_simp
            exact ⟨_, by simp only [frameD5, upd]; simp [Act.put, h9, h10, hw1, HWM.out], rfl, Below.refl _ _⟩
          · have h7 : xs 7 = .string ⟨T.toArray⟩ := hdep 7 (by decide) (by kernel_rfl)
            have h11 : xs 11 = .int .i64 (m : Int) := hdep 11 (by decide) (by kernel_rfl)
            refine wpOp_at rfl rfl ?_
            unfold frameD5 Oper.wp
            simp only [h7, h11]
            go_simp
            exact ⟨_, by simp only [frameD5, upd]; simp [Act.put, h7, h11], rfl, Below.refl _ _⟩
          · have h6 : xs 6 = .string ((⟨T.toArray⟩ : ByteArray).extract 0 m ++ ⟨#[46]⟩) := hdep 6 (by decide) (by kernel_rfl)
            have h12 : xs 12 = .string ((⟨T.toArray⟩ : ByteArray).extract m T.length) := hdep 12 (by decide) (by kernel_rfl)
            refine wpOp_at rfl rfl ?_
            unfold frameD5 Oper.wp
            simp only [h6, h12]
            go_simp
            exact ⟨_, by simp only [frameD5, upd]; simp [Act.put, h6, h12], rfl, Below.refl _ _⟩
          · have h13 : xs 13 = .string (((⟨T.toArray⟩ : ByteArray).extract 0 m ++ ⟨#[46]⟩) ++ (⟨T.toArray⟩ : ByteArray).extract m T.length) := hdep 13 (by decide) (by kernel_rfl)
            refine wpOp_at rfl rfl ?_
            unfold frameD5 Oper.wp
            simp only [h13]
            go_simp
            refine (HPA.out w1).mono ?_
            rintro e w2 ⟨t, u, rfl, ht, hu, hb2⟩
            exact ⟨_, by simp only [frameD5, upd]; simp [Act.put, h13], ⟨t, u, rfl, ht, hu⟩, hb2⟩
          · have r14 : ∃ t u, (xs 14) = .tuple #[.agg #[.bool r.1.neg, t, u], .int .i64 r.2] ∧ IsRes w1 t r.1.top ∧ IsRes w1 u r.1.bot := hdep 14 (by decide) (by kernel_rfl)
            refine wpOp_at rfl rfl ?_
            obtain ⟨t, u, h14, hq⟩ := r14
            unfold frameD5 Oper.wp
            simp only [h14]
            go_simp
            exact ⟨_, by simp only [frameD5, upd]; simp [Act.put, h14], ⟨t, u, rfl, hq⟩, Below.refl _ _⟩
          · have r15 : ∃ t u, (xs 15) = .tuple #[.agg #[.bool r.1.neg, t, u], .int .i64 r.2] ∧ IsRes w1 t r.1.top ∧ IsRes w1 u r.1.bot := hdep 15 (by decide) (by kernel_rfl)
            refine wpOp_at rfl rfl ?_
            obtain ⟨t, u, h15, hq⟩ := r15
            unfold frameD5 Oper.wp
            simp only [h15]
            go_simp
            exact ⟨_, by simp only [frameD5, upd]; simp [Act.put, h15], ⟨t, u, rfl, hq⟩, Below.refl _ _⟩
          · have r15 : ∃ t u, (xs 15) = .tuple #[.agg #[.bool r.1.neg, t, u], .int .i64 r.2] ∧ IsRes w1 t r.1.top ∧ IsRes w1 u r.1.bot := hdep 15 (by decide) (by kernel_rfl)
            refine wpOp_at rfl rfl ?_
            obtain ⟨t, u, h15, hq⟩ := r15
            unfold frameD5 Oper.wp
            simp only [h15]
            go_simp
            exact ⟨_, by simp only [frameD5, upd]; simp [Act.put, h15], rfl, Below.refl _ _⟩
          · refine wpOp_at rfl rfl ?_
            unfold frameD5 Oper.wp
            go_simp
            exact ⟨_, by simp only [frameD5, upd]; simp [Act.put], ⟨w1.heap.size, rfl, Nat.le_trans (Nat.le_of_eq hBe.out.symm) hb.size, heap_alloc_new w1 _⟩, (Below.refl _ _).alloc (Nat.le_refl _) _⟩
          · have h17 : xs 17 = .int .i64 r.2 := hdep 17 (by decide) (by kernel_rfl)
            refine wpOp_at rfl rfl ?_
            unfold frameD5 Oper.wp
            simp only [h17]
            go_simp
            exact ⟨_, by simp only [frameD5, upd]; simp [Act.put, h17], rfl, Below.refl _ _⟩
        · intro i xs w1 hi hne hd hb hdep
          have hi6 : i < 21 := hi
          clear hi
          have hlt : i = 17 ∨ i = 20 := by
            rcases (show i = 0 ∨ i = 1 ∨ i = 2 ∨ i = 3 ∨ i = 4 ∨ i = 5 ∨ i = 6 ∨ i = 7 ∨ i = 8 ∨ i = 9 ∨ i = 10 ∨ i = 11 ∨ i = 12 ∨ i = 13 ∨ i = 14 ∨ i = 15 ∨ i = 16 ∨ i = 17 ∨ i = 18 ∨ i = 20 by omega) with rfl | rfl | rfl | rfl | rfl | rfl | rfl | rfl | rfl | rfl | rfl | rfl | rfl | rfl | rfl | rfl | rfl | rfl | rfl | rfl
            all_goals first | omega | exact absurd hd (by decide)
          clear hi6 hd
          rcases (show i = 17 ∨ i = 20 by omega) with rfl | rfl
          · have r15 : ∃ t u, (xs 15) = .tuple #[.agg #[.bool r.1.neg, t, u], .int .i64 r.2] ∧ True := hdep 15 (by decide) (by kernel_rfl)
            refine wpOp_at rfl rfl ?_
            obtain ⟨t, u, h15, hq⟩ := r15
            unfold frameD5 Oper.wp
            simp only [h15]
            go_simp
            exact ⟨_, by simp only [frameD5, upd]; simp [Act.put, h15], rfl, Below.refl _ _⟩
          · have h17 : xs 17 = .int .i64 r.2 := hdep 17 (by decide) (by kernel_rfl)
            refine wpOp_at rfl rfl ?_
            unfold frameD5 Oper.wp
            simp only [h17]
            go_simp
            exact ⟨_, by simp only [frameD5, upd]; simp [Act.put, h17], rfl, Below.refl _ _⟩
        · intro xs w1 hb hx
          have r16 : ∃ t u, xs 16 = .agg #[.bool r.1.neg, t, u] ∧ IsRes w1 t r.1.top ∧ IsRes w1 u r.1.bot := hx 16 (by kernel_rfl)
          have r15 : ∃ t u, xs 15 = .tuple #[.agg #[.bool r.1.neg, t, u], .int .i64 r.2] ∧ IsRes w1 t r.1.top ∧ IsRes w1 u r.1.bot := hx 15 (by kernel_rfl)
          have r18 : ∃ g, xs 18 = .pointer (some ⟨g, 0, none⟩) ∧ B ≤ g ∧ w1.heap[g]? = some (.cells #[.bool false, .slice none 0 0, .slice none 0 0] 26 (0, 0)) := hx 18 (by kernel_rfl)
          clear hx
          obtain ⟨t, u, ha, ht, hu⟩ := r16
          obtain ⟨t', u', htp, -, -⟩ := r15
          obtain ⟨g, hp, hg1, hg2⟩ := r18
          obtain ⟨A1, c1, rfl⟩ := res_slice ht
          obtain ⟨A2, c2, rfl⟩ := res_slice hu
          refine wpOp_at rfl rfl ?_
          refine wp_store_row 26 (.tmp 7) (.tmp 45) rfl g #[.bool r.1.neg, .slice A1 r.1.top.length c1, .slice A2 r.1.bot.length c2] (by unfold frameD5; simp only [hp]; rfl) (by unfold frameD5; simp only [ha]; rfl) 26 #[.bool false, .slice none 0 0, .slice none 0 0] hg2 num_info3 rfl (three_one _ _ _ _ _ _ _) ?_
          refine ⟨rfl, rBelow.setRow hb (Nat.le_trans (Nat.le_of_eq hBe.out) hg1) _, fun j hd => ?_⟩
          match j with
          | 0 => trivial
          | 1 => trivial
          | 2 => trivial
          | 3 => trivial
          | 4 => trivial
          | 5 => trivial
          | 6 => trivial
          | 7 => trivial
          | 8 => trivial
          | 9 => trivial
          | 10 => trivial
          | 11 => trivial
          | 12 => trivial
          | 13 => trivial
          | 14 => trivial
          | 15 => exact ⟨t', u', htp, trivial⟩
          | 16 => trivial
          | 17 => exact absurd hd (by decide)
          | 18 => exact ⟨g, hp, hg1, A1, c1, A2, c2, rheap_same hg2, ht.setRow hg2 (three_no_int _ _ _ _ _ _ _) _, hu.setRow hg2 (three_no_int _ _ _ _ _ _ _) _⟩
          | 19 => trivial
          | 20 => exact absurd hd (by decide)
          | i + 21 => trivial
        · intro xs w1 hb hx
          have r18 : ∃ g, xs 18 = .pointer (some ⟨g, 0, none⟩) ∧ B ≤ g ∧ NumIn r.1 g w1 := hx 18 (by decide) (by decide)
          have h20 : xs 20 = .int .i64 r.2 := hx 20 (by decide) (by decide)
          clear hx
          obtain ⟨g, hp, hg1, hg2⟩ := r18
          unfold frameD5
          simp only [hp, h20]
          go_wp2_with fail
          go_meet
          exact ⟨congrArg (Value.int .i64) HMP.out, g, rfl, Nat.le_trans (Nat.le_of_eq hBe.out) hg1, hg2, hb⟩
      obtain ⟨rfl, g7, rfl, hg7, hn7, hbc⟩ := hcut
      have hbx := hbw2.trans (hbc.mono hbw2.size)
      have HG7 : Hid (w.heap.size ≤ g7) := Lib.hid (Nat.le_trans hbw2.size hg7)
      have HN7 := Lib.hid hn7
      clear hbc hg7 hn7 hbw2 hbd HPA SC HPAR hmI hw1 hm0 hm1 hm2 hcc hcd HWM hlen HT HSZ hle hk' hTl HPT HS hd10
      rename World => w3
      generalize T.length = tl at *
      go_wp2_with fail
      refine (of_one _).mono ?_
      rintro e w4 ⟨t4, u4, rfl, ht4, hu4, hb4⟩
      obtain ⟨A4, c4, rfl⟩ := res_slice ht4
      obtain ⟨B4, d4, rfl⟩ := res_slice hu4
      have HT4 : Hid (IsRes w4 (.slice A4 1 c4) [1]) := Lib.hid ht4
      have HU4 : Hid (IsRes w4 (.slice B4 1 d4) [1]) := Lib.hid hu4
      clear ht4 hu4
      obtain ⟨w5, hw5⟩ : ∃ w5, w5 = w4.alloc (.cells #[.bool false, .slice A4 1 c4, .slice B4 1 d4] 26) := ⟨_, rfl⟩
      have hb5 : Below w4.heap.size w4 w5 := by rw [hw5]; exact (Below.refl _ _).alloc (Nat.le_refl _) _
      have hb35 := hb4.trans (hb5.mono hb4.size)
      have H75 := Lib.hid (HN7.out.below hb35)
      have hb05 := Lib.hid (hbx.trans (hb35.mono hbx.size))
      have H95 : Hid (NumIn ⟨false, [1], [1]⟩ w4.heap.size w5) := Lib.hid ⟨A4, c4, B4, d4, by rw [hw5]; exact heap_alloc_new _ _, HT4.out.below hb5, HU4.out.below hb5⟩
      have H97 : Hid (g7 ≠ w4.heap.size) := Lib.hid (by
        obtain ⟨A, c, A', c', h, -⟩ := HN7.out.below hb4
        have := blk_lt h
        omega)
      have HW5 := Lib.hid hw5.symm
      have hle4 : Hid (w.heap.size ≤ w4.heap.size) := Lib.hid (hbx.trans (hb4.mono hbx.size)).size
      clear hw5 hb4 hb5 hb35 hbx HT4 HU4 HN7
      go_wp2_with fail
      rw [HW5.out]
      go_loopw [10] (fun i wr => ∃ j : Nat, j ≤ k ∧ i = .int .i64 (j : Int) ∧ Hid (NumIn ⟨false, Nt.digs (10 ^ j), [1]⟩ w4.heap.size wr) ∧ Hid (NumIn r.1 g7 wr) ∧ Hid (Below w.heap.size w wr)) (fun i _ => k - (intOf i).toNat)
      case atStart => exact ⟨0, Nat.zero_le _, rfl, Lib.hid (by rw [Nat.pow_zero, digs_one]; exact H95.out), H75, hb05⟩
      case round =>
        obtain ⟨j, hjk, rfl, H9, H7, hbr⟩ := hrel
        rename World => wr
        by_cases hj : j < k
        · obtain ⟨A9, c9, B9, d9, g9', i1, i2⟩ := H9.out
          obtain ⟨l, hl⟩ : ∃ l, l = Nt.digs (10 ^ j) := ⟨_, rfl⟩
          obtain ⟨q, hq⟩ : ∃ q : Rt.Nm × Int, q = (⟨false, Nt.digs (10 ^ (j + 1)), [1]⟩, 0) := ⟨_, rfl⟩
          have MU := mul_ten j (by omega)
          rw [← hl, ← hq] at MU
          have HMU := Lib.hid MU
          have HQ := Lib.hid hq
          have HQ2 : Hid (q.2 = 0) := Lib.hid (by rw [hq])
          dsimp only at g9' i1 i2
          rw [← hl] at g9' i1
          have G9 : Hid (wr.heap[w4.heap.size]? = some (.cells #[.bool false, .slice A9 l.length c9, .slice B9 1 d9] 26 (0, 0))) := Lib.hid g9'
          have I1 := Lib.hid i1
          have I2 : Hid (IsRes wr (.slice B9 1 d9) [1]) := Lib.hid i2
          have hlt9 := blk_lt g9'
          clear MU hq hl g9' i1 i2
          go_upto_region 10 with fail
          go_cut [11, 12] from 53 to 61 (fun x y wx => y = .int .i64 0 ∧ ∃ g, x = .pointer (some ⟨g, 0, none⟩) ∧ wr.heap.size ≤ g ∧ NumIn q.1 g wx ∧ Below wr.heap.size wr wx)
          case first =>
            obtain ⟨B, hB0⟩ : ∃ B, B = wr.heap.size := ⟨_, rfl⟩
            have hBe := Lib.hid hB0.symm
            clear hB0
            refine wp_region_make (frameD10 _ _ _ _ _ _ _ _ _ _ _ _ _ _ _ _ _ _ _ _ _ _ _ _ _ _ _ _ _ _ _ _ _ _ _ _ _ _ _ _ _ _ _ _ _ _ _ _ _ _ _ _ _ _ _ _ _ _ _ _ _ _ _ _ _ _ _ _ _ _ _ _ _ _ _ _) wr (predD10 B A9 B9 c9 d9 l q) (pred2D10 B A9 B9 c9 d9 l q) 7 (by kernel_rfl) (by kernel_rfl) (by kernel_rfl) ?_ ?_ ?_ (slotsL [_, _, _, _, _, _, _, undef, _]) rfl (Below.refl _ _) ?_ ?_ ?_ ?_
            · intro i w1 w2 v hv hb
              match i with
              | 0 => exact hv
              | 1 => exact (by obtain ⟨t, u, e, ht, hu⟩ := hv; exact ⟨t, u, e, ht.below hb, hu.below hb⟩)
              | 2 => exact (by obtain ⟨t, u, e, ht, hu⟩ := hv; exact ⟨t, u, e, ht.below hb, hu.below hb⟩)
              | 3 => exact (by obtain ⟨t, u, e, ht, hu⟩ := hv; exact ⟨t, u, e, ht.below hb, hu.below hb⟩)
              | 4 => exact (by obtain ⟨t, u, e, ht, hu⟩ := hv; exact ⟨t, u, e, ht.below hb, hu.below hb⟩)
              | 5 => exact hv
              | 6 => exact (by obtain ⟨g, e, h1, h2⟩ := hv; exact ⟨g, e, h1, (hb.block g (blk_lt h2)).trans h2⟩)
              | 7 => exact trivial
              | 8 => exact hv
              | i + 9 => trivial
            · intro i w1 w2 v hv hb
              match i with
              | 0 => exact trivial
              | 1 => exact trivial
              | 2 => exact trivial
              | 3 => exact hv
              | 4 => exact trivial
              | 5 => exact hv
              | 6 => exact (by obtain ⟨g, e, h1, h2⟩ := hv; exact ⟨g, e, h1, h2.below hb⟩)
              | 7 => exact trivial
              | 8 => exact hv
              | i + 9 => trivial
            · intro i w1 w2 v hi hd hv
              match i with
              | 0 => exact trivial
              | 1 => exact trivial
              | 2 => exact trivial
              | 3 => exact absurd hd (by decide)
              | 4 => exact trivial
              | 5 => exact hv
              | 6 => exact absurd hd (by decide)
              | 7 => exact trivial
              | 8 => exact hv
              | i + 9 => trivial
            · intro i xs w1 hi hne hb hdep
              have hi6 : i < 9 := hi
              clear hi
              rcases (show i = 0 ∨ i = 1 ∨ i = 2 ∨ i = 3 ∨ i = 4 ∨ i = 5 ∨ i = 6 ∨ i = 8 by omega) with rfl | rfl | rfl | rfl | rfl | rfl | rfl | rfl
              · refine wpOp_at rfl rfl ?_
                refine wp_load_row 26 (.tmp 9) rfl w4.heap.size rfl 26 #[.bool false, .slice A9 l.length c9, .slice B9 1 d9] (0, 0) _ ((hb.block w4.heap.size hlt9).trans G9.out) Tryz.underlying26 rfl num_info3 ?_
                exact ⟨_, by simp only [frameD10, upd]; simp [Act.put], rfl, Below.refl _ _⟩
              · refine wpOp_at rfl rfl ?_
                unfold frameD10 Oper.wp
                go_simp
                refine (of_ten w1).mono ?_
                rintro e w2 ⟨t, u, rfl, ht, hu, hb2⟩
                exact ⟨_, by simp only [frameD10, upd]; simp [Act.put], ⟨t, u, rfl, ht, hu⟩, hb2⟩
              · have h0 : xs 0 = .agg #[.bool false, .slice A9 l.length c9, .slice B9 1 d9] := hdep 0 (by decide) (by kernel_rfl)
                have r1 : ∃ t u, (xs 1) = .agg #[.bool false, t, u] ∧ IsRes w1 t (Nt.digs 10) ∧ IsRes w1 u [1] := hdep 1 (by decide) (by kernel_rfl)
                refine wpOp_at rfl rfl ?_
                obtain ⟨t1, u1, h1, ht1, hu1⟩ := r1
                unfold frameD10 Oper.wp
                simp only [h0, h1]
                go_simp
                refine (HMU.out w1 _ _ _ _ (I1.out.below hb) (I2.out.below hb) ht1 hu1).mono ?_
                rintro e w2 ⟨t, u, rfl, ht, hu, hb2⟩
                exact ⟨_, by simp only [frameD10, upd]; simp [Act.put, h0, h1], ⟨t, u, rfl, ht, hu⟩, hb2⟩
              · have r2 : ∃ t u, (xs 2) = .tuple #[.agg #[.bool q.1.neg, t, u], .int .i64 q.2] ∧ IsRes w1 t q.1.top ∧ IsRes w1 u q.1.bot := hdep 2 (by decide) (by kernel_rfl)
                refine wpOp_at rfl rfl ?_
                obtain ⟨t, u, h2, hq⟩ := r2
                unfold frameD10 Oper.wp
                simp only [h2]
                go_simp
                exact ⟨_, by simp only [frameD10, upd]; simp [Act.put, h2], ⟨t, u, rfl, hq⟩, Below.refl _ _⟩
              · have r3 : ∃ t u, (xs 3) = .tuple #[.agg #[.bool q.1.neg, t, u], .int .i64 q.2] ∧ IsRes w1 t q.1.top ∧ IsRes w1 u q.1.bot := hdep 3 (by decide) (by kernel_rfl)
                refine wpOp_at rfl rfl ?_
                obtain ⟨t, u, h3, hq⟩ := r3
                unfold frameD10 Oper.wp
                simp only [h3]
                go_simp
                exact ⟨_, by simp only [frameD10, upd]; simp [Act.put, h3], ⟨t, u, rfl, hq⟩, Below.refl _ _⟩
              · have r3 : ∃ t u, (xs 3) = .tuple #[.agg #[.bool q.1.neg, t, u], .int .i64 q.2] ∧ IsRes w1 t q.1.top ∧ IsRes w1 u q.1.bot := hdep 3 (by decide) (by kernel_rfl)
                refine wpOp_at rfl rfl ?_
                obtain ⟨t, u, h3, hq⟩ := r3
                unfold frameD10 Oper.wp
                simp only [h3]
                go_simp
                exact ⟨_, by simp only [frameD10, upd]; simp [Act.put, h3], rfl, Below.refl _ _⟩
              · refine wpOp_at rfl rfl ?_
                unfold frameD10 Oper.wp
                go_simp
                exact ⟨_, by simp only [frameD10, upd]; simp [Act.put], ⟨w1.heap.size, rfl, Nat.le_trans (Nat.le_of_eq hBe.out.symm) hb.size, heap_alloc_new w1 _⟩, (Below.refl _ _).alloc (Nat.le_refl _) _⟩
              · have h5 : xs 5 = .int .i64 q.2 := hdep 5 (by decide) (by kernel_rfl)
                refine wpOp_at rfl rfl ?_
                unfold frameD10 Oper.wp
                simp only [h5]
                go_simp
                exact ⟨_, by simp only [frameD10, upd]; simp [Act.put, h5], rfl, Below.refl _ _⟩
            · intro i xs w1 hi hne hd hb hdep
              have hi6 : i < 9 := hi
              clear hi
              have hlt : i = 5 ∨ i = 8 := by
                rcases (show i = 0 ∨ i = 1 ∨ i = 2 ∨ i = 3 ∨ i = 4 ∨ i = 5 ∨ i = 6 ∨ i = 8 by omega) with rfl | rfl | rfl | rfl | rfl | rfl | rfl | rfl
                all_goals first | omega | exact absurd hd (by decide)
              clear hi6 hd
              rcases (show i = 5 ∨ i = 8 by omega) with rfl | rfl
              · have r3 : ∃ t u, (xs 3) = .tuple #[.agg #[.bool q.1.neg, t, u], .int .i64 q.2] ∧ True := hdep 3 (by decide) (by kernel_rfl)
                refine wpOp_at rfl rfl ?_
                obtain ⟨t, u, h3, hq⟩ := r3
                unfold frameD10 Oper.wp
                simp only [h3]
                go_simp
                exact ⟨_, by simp only [frameD10, upd]; simp [Act.put, h3], rfl, Below.refl _ _⟩
              · have h5 : xs 5 = .int .i64 q.2 := hdep 5 (by decide) (by kernel_rfl)
                refine wpOp_at rfl rfl ?_
                unfold frameD10 Oper.wp
                simp only [h5]
                go_simp
                exact ⟨_, by simp only [frameD10, upd]; simp [Act.put, h5], rfl, Below.refl _ _⟩
            · intro xs w1 hb hx
              have r4 : ∃ t u, xs 4 = .agg #[.bool q.1.neg, t, u] ∧ IsRes w1 t q.1.top ∧ IsRes w1 u q.1.bot := hx 4 (by kernel_rfl)
              have r3 : ∃ t u, xs 3 = .tuple #[.agg #[.bool q.1.neg, t, u], .int .i64 q.2] ∧ IsRes w1 t q.1.top ∧ IsRes w1 u q.1.bot := hx 3 (by kernel_rfl)
              have r6 : ∃ g, xs 6 = .pointer (some ⟨g, 0, none⟩) ∧ B ≤ g ∧ w1.heap[g]? = some (.cells #[.bool false, .slice none 0 0, .slice none 0 0] 26 (0, 0)) := hx 6 (by kernel_rfl)
              clear hx
              obtain ⟨t, u, ha, ht, hu⟩ := r4
              obtain ⟨t', u', htp, -, -⟩ := r3
              obtain ⟨g, hp, hg1, hg2⟩ := r6
              obtain ⟨A1, c1, rfl⟩ := res_slice ht
              obtain ⟨A2, c2, rfl⟩ := res_slice hu
              refine wpOp_at rfl rfl ?_
              refine wp_store_row 26 (.tmp 11) (.tmp 57) rfl g #[.bool q.1.neg, .slice A1 q.1.top.length c1, .slice A2 q.1.bot.length c2] (by unfold frameD10; simp only [hp]; rfl) (by unfold frameD10; simp only [ha]; rfl) 26 #[.bool false, .slice none 0 0, .slice none 0 0] hg2 num_info3 rfl (three_one _ _ _ _ _ _ _) ?_
              refine ⟨rfl, rBelow.setRow hb (Nat.le_trans (Nat.le_of_eq hBe.out) hg1) _, fun j hd => ?_⟩
              match j with
              | 0 => trivial
              | 1 => trivial
              | 2 => trivial
              | 3 => exact ⟨t', u', htp, trivial⟩
              | 4 => trivial
              | 5 => exact absurd hd (by decide)
              | 6 => exact ⟨g, hp, hg1, A1, c1, A2, c2, rheap_same hg2, ht.setRow hg2 (three_no_int _ _ _ _ _ _ _) _, hu.setRow hg2 (three_no_int _ _ _ _ _ _ _) _⟩
              | 7 => trivial
              | 8 => exact absurd hd (by decide)
              | i + 9 => trivial
            · intro xs w1 hb hx
              have r6 : ∃ g, xs 6 = .pointer (some ⟨g, 0, none⟩) ∧ B ≤ g ∧ NumIn q.1 g w1 := hx 6 (by decide) (by decide)
              have h8 : xs 8 = .int .i64 q.2 := hx 8 (by decide) (by decide)
              clear hx
              obtain ⟨g, hp, hg1, hg2⟩ := r6
              unfold frameD10
              simp only [hp, h8]
              go_wp2_with fail
              go_meet
              exact ⟨congrArg (Value.int .i64) HQ2.out, g, rfl, Nat.le_trans (Nat.le_of_eq hBe.out) hg1, hg2, hb⟩
          obtain ⟨rfl, g11, rfl, hg11, hn11, hbc⟩ := hcut
          rename World => w6
          rw [HQ.out] at hn11
          obtain ⟨A11, c11, B11, d11, g11', j1, j2⟩ := hn11
          obtain ⟨l', hl'⟩ : ∃ l', l' = Nt.digs (10 ^ (j + 1)) := ⟨_, rfl⟩
          dsimp only at g11' j1 j2
          rw [← hl'] at g11' j1
          have HL' := Lib.hid hl'
          have G11 : Hid (w6.heap[g11]? = some (.cells #[.bool false, .slice A11 l'.length c11, .slice B11 1 d11] 26 (0, 0))) := Lib.hid g11'
          have J1 := Lib.hid j1
          have J2 : Hid (IsRes w6 (.slice B11 1 d11) [1]) := Lib.hid j2
          have G9' := Lib.hid ((hbc.block _ hlt9).trans G9.out)
          have H7' := Lib.hid (H7.out.below hbc)
          have HB' := Lib.hid (hbr.out.trans (hbc.mono hbr.out.size))
          clear hbc g11' j1 j2 hl' hg11 HMU HQ HQ2 I1 I2 G9 H9 H7 hbr
          go_wp2_with (first | (with_reducible refine wpList_store_row rfl 26 (.tmp 9) (.tmp 61) rfl w4.heap.size #[.bool false, .slice A11 l'.length c11, .slice B11 1 d11] rfl rfl 26 #[.bool false, .slice A9 l.length c9, .slice B9 1 d9] G9'.out num_info3 rfl (three_one _ _ _ _ _ _ _) ?_) | (with_reducible refine wpList_load_row rfl 26 (.tmp 11) rfl g11 rfl 26 #[.bool false, .slice A11 l'.length c11, .slice B11 1 d11] (0, 0) _ G11.out Tryz.underlying26 rfl num_info3 ?_))
          go_round
          case rel => exact ⟨j + 1, hj, congrArg (Value.int .i64) (by omega), Lib.hid (by rw [← HL'.out]; exact ⟨A11, c11, B11, d11, rheap_same G9'.out, J1.out.setRow G9'.out (three_no_int _ _ _ _ _ _ _) _, J2.out.setRow G9'.out (three_no_int _ _ _ _ _ _ _) _⟩), Lib.hid (H7'.out.setRow G9'.out H97.out _), Lib.hid (rBelow.setRow HB'.out hle4.out _)⟩
          case measure =>
            show k - ((j : Int) + 1).toNat < k - ((j : Int)).toNat
            omega
        · obtain rfl : k = j := by omega
          obtain ⟨A9, c9, B9, d9, g9', i1, i2⟩ := H9.out
          obtain ⟨l, hl⟩ : ∃ l, l = Nt.digs (10 ^ k) := ⟨_, rfl⟩
          have DV := div_ten n k hn hk9
          rw [← hl, ← HR.out] at DV
          have HDV := Lib.hid DV
          dsimp only at g9' i1 i2
          rw [← hl] at g9' i1
          have G9 : Hid (wr.heap[w4.heap.size]? = some (.cells #[.bool false, .slice A9 l.length c9, .slice B9 1 d9] 26 (0, 0))) := Lib.hid g9'
          have I1 := Lib.hid i1
          have I2 : Hid (IsRes wr (.slice B9 1 d9) [1]) := Lib.hid i2
          have hlt9 := blk_lt g9'
          have HWN : Hid (IntKind.i64.wrap (n : Int) = (n : Int)) := Lib.hid (IntWalk.i64_in _ (by omega))
          clear DV hl g9' i1 i2 H9
          go_upto_region 14 with fail
          go_cut [13, 14] from 62 (fun x y wx => y = .int .i64 0 ∧ ∃ g, x = .pointer (some ⟨g, 0, none⟩) ∧ wr.heap.size ≤ g ∧ NumIn r.1 g wx ∧ Below wr.heap.size wr wx)
          case first =>
            obtain ⟨B, hB0⟩ : ∃ B, B = wr.heap.size := ⟨_, rfl⟩
            have hBe := Lib.hid hB0.symm
            clear hB0
            refine wp_region_make (frameD14 _ _ _ _ _ _ _ _ _ _ _ _ _ _ _ _ _ _ _ _ _ _ _ _ _ _ _ _ _ _ _ _ _ _ _ _ _ _ _ _ _ _ _ _ _ _ _ _ _ _ _ _ _ _ _ _ _ _ _ _ _ _ _ _ _ _ _ _ _ _ _ _ _ _) wr (predD14 B n A9 B9 c9 d9 l r) (pred2D14 B n A9 B9 c9 d9 l r) 9 (by kernel_rfl) (by kernel_rfl) (by kernel_rfl) ?_ ?_ ?_ (slotsL [_, _, _, _, _, _, _, _, _, undef, _]) rfl (Below.refl _ _) ?_ ?_ ?_ ?_
            · intro i w1 w2 v hv hb
              match i with
              | 0 => exact hv
              | 1 => exact hv
              | 2 => exact (by obtain ⟨t, u, e, ht, hu⟩ := hv; exact ⟨t, u, e, ht.below hb, hu.below hb⟩)
              | 3 => exact hv
              | 4 => exact (by obtain ⟨t, u, e, ht, hu⟩ := hv; exact ⟨t, u, e, ht.below hb, hu.below hb⟩)
              | 5 => exact (by obtain ⟨t, u, e, ht, hu⟩ := hv; exact ⟨t, u, e, ht.below hb, hu.below hb⟩)
              | 6 => exact (by obtain ⟨t, u, e, ht, hu⟩ := hv; exact ⟨t, u, e, ht.below hb, hu.below hb⟩)
              | 7 => exact hv
              | 8 => exact (by obtain ⟨g, e, h1, h2⟩ := hv; exact ⟨g, e, h1, (hb.block g (blk_lt h2)).trans h2⟩)
              | 9 => exact trivial
              | 10 => exact hv
              | i + 11 => trivial
            · intro i w1 w2 v hv hb
              match i with
              | 0 => exact trivial
              | 1 => exact trivial
              | 2 => exact trivial
              | 3 => exact trivial
              | 4 => exact trivial
              | 5 => exact hv
              | 6 => exact trivial
              | 7 => exact hv
              | 8 => exact (by obtain ⟨g, e, h1, h2⟩ := hv; exact ⟨g, e, h1, h2.below hb⟩)
              | 9 => exact trivial
              | 10 => exact hv
              | i + 11 => trivial
            · intro i w1 w2 v hi hd hv
              match i with
              | 0 => exact trivial
              | 1 => exact trivial
              | 2 => exact trivial
              | 3 => exact trivial
              | 4 => exact trivial
              | 5 => exact absurd hd (by decide)
              | 6 => exact trivial
              | 7 => exact hv
              | 8 => exact absurd hd (by decide)
              | 9 => exact trivial
              | 10 => exact hv
              | i + 11 => trivial
            · intro i xs w1 hi hne hb hdep
              have hi6 : i < 11 := hi
              clear hi
              rcases (show i = 0 ∨ i = 1 ∨ i = 2 ∨ i = 3 ∨ i = 4 ∨ i = 5 ∨ i = 6 ∨ i = 7 ∨ i = 8 ∨ i = 10 by omega) with rfl | rfl | rfl | rfl | rfl | rfl | rfl | rfl | rfl | rfl
              · refine wpOp_at rfl rfl ?_
                unfold frameD14 Oper.wp
                go_simp
                exact ⟨_, by simp only [frameD14, upd]; simp [Act.put], rfl, Below.refl _ _⟩
              · have h0 : xs 0 = .int .u32 (n : Int) := hdep 0 (by decide) (by kernel_rfl)
                refine wpOp_at rfl rfl ?_
                unfold frameD14 Oper.wp
                simp only [h0]
                go_simp
                exact ⟨_, by simp only [frameD14, upd]; simp [Act.put, h0, HWN.out], rfl, Below.refl _ _⟩
              · have h1 : xs 1 = .int .i64 (n : Int) := hdep 1 (by decide) (by kernel_rfl)
                refine wpOp_at rfl rfl ?_
                unfold frameD14 Oper.wp
                simp only [h1]
                go_simp
                refine (HOF.out w1).mono ?_
                rintro e w2 ⟨t, u, rfl, ht, hu, hb2⟩
                exact ⟨_, by simp only [frameD14, upd]; simp [Act.put, h1], ⟨t, u, rfl, ht, hu⟩, hb2⟩
              · refine wpOp_at rfl rfl ?_
                refine wp_load_row 26 (.tmp 9) rfl w4.heap.size rfl 26 #[.bool false, .slice A9 l.length c9, .slice B9 1 d9] (0, 0) _ ((hb.block w4.heap.size hlt9).trans G9.out) Tryz.underlying26 rfl num_info3 ?_
                exact ⟨_, by simp only [frameD14, upd]; simp [Act.put], rfl, Below.refl _ _⟩
              · have r2 : ∃ t u, (xs 2) = .agg #[.bool false, t, u] ∧ IsRes w1 t (Nt.digs n) ∧ IsRes w1 u [1] := hdep 2 (by decide) (by kernel_rfl)
                have h3 : xs 3 = .agg #[.bool false, .slice A9 l.length c9, .slice B9 1 d9] := hdep 3 (by decide) (by kernel_rfl)
                refine wpOp_at rfl rfl ?_
                obtain ⟨t1, u1, h2, ht1, hu1⟩ := r2
                unfold frameD14 Oper.wp
                simp only [h3, h2]
                go_simp
                refine (HDV.out w1 _ _ _ _ ht1 hu1 (I1.out.below hb) (I2.out.below hb)).mono ?_
                rintro e w2 ⟨t, u, rfl, ht, hu, hb2⟩
                exact ⟨_, by simp only [frameD14, upd]; simp [Act.put, h3, h2], ⟨t, u, rfl, ht, hu⟩, hb2⟩
              · have r4 : ∃ t u, (xs 4) = .tuple #[.agg #[.bool r.1.neg, t, u], .int .i64 r.2] ∧ IsRes w1 t r.1.top ∧ IsRes w1 u r.1.bot := hdep 4 (by decide) (by kernel_rfl)
                refine wpOp_at rfl rfl ?_
                obtain ⟨t, u, h4, hq⟩ := r4
                unfold frameD14 Oper.wp
                simp only [h4]
                go_simp
                exact ⟨_, by simp only [frameD14, upd]; simp [Act.put, h4], ⟨t, u, rfl, hq⟩, Below.refl _ _⟩
              · have r5 : ∃ t u, (xs 5) = .tuple #[.agg #[.bool r.1.neg, t, u], .int .i64 r.2] ∧ IsRes w1 t r.1.top ∧ IsRes w1 u r.1.bot := hdep 5 (by decide) (by kernel_rfl)
                refine wpOp_at rfl rfl ?_
                obtain ⟨t, u, h5, hq⟩ := r5
                unfold frameD14 Oper.wp
                simp only [h5]
                go_simp
                exact ⟨_, by simp only [frameD14, upd]; simp [Act.put, h5], ⟨t, u, rfl, hq⟩, Below.refl _ _⟩
              · have r5 : ∃ t u, (xs 5) = .tuple #[.agg #[.bool r.1.neg, t, u], .int .i64 r.2] ∧ IsRes w1 t r.1.top ∧ IsRes w1 u r.1.bot := hdep 5 (by decide) (by kernel_rfl)
                refine wpOp_at rfl rfl ?_
                obtain ⟨t, u, h5, hq⟩ := r5
                unfold frameD14 Oper.wp
                simp only [h5]
                go_simp
                exact ⟨_, by simp only [frameD14, upd]; simp [Act.put, h5], rfl, Below.refl _ _⟩
              · refine wpOp_at rfl rfl ?_
                unfold frameD14 Oper.wp
                go_simp
                exact ⟨_, by simp only [frameD14, upd]; simp [Act.put], ⟨w1.heap.size, rfl, Nat.le_trans (Nat.le_of_eq hBe.out.symm) hb.size, heap_alloc_new w1 _⟩, (Below.refl _ _).alloc (Nat.le_refl _) _⟩
              · have h7 : xs 7 = .int .i64 r.2 := hdep 7 (by decide) (by kernel_rfl)
                refine wpOp_at rfl rfl ?_
                unfold frameD14 Oper.wp
                simp only [h7]
                go_simp
                exact ⟨_, by simp only [frameD14, upd]; simp [Act.put, h7], rfl, Below.refl _ _⟩
            · intro i xs w1 hi hne hd hb hdep
              have hi6 : i < 11 := hi
              clear hi
              have hlt : i = 7 ∨ i = 10 := by
                rcases (show i = 0 ∨ i = 1 ∨ i = 2 ∨ i = 3 ∨ i = 4 ∨ i = 5 ∨ i = 6 ∨ i = 7 ∨ i = 8 ∨ i = 10 by omega) with rfl | rfl | rfl | rfl | rfl | rfl | rfl | rfl | rfl | rfl
                all_goals first | omega | exact absurd hd (by decide)
              clear hi6 hd
              rcases (show i = 7 ∨ i = 10 by omega) with rfl | rfl
              · have r5 : ∃ t u, (xs 5) = .tuple #[.agg #[.bool r.1.neg, t, u], .int .i64 r.2] ∧ True := hdep 5 (by decide) (by kernel_rfl)
                refine wpOp_at rfl rfl ?_
                obtain ⟨t, u, h5, hq⟩ := r5
                unfold frameD14 Oper.wp
                simp only [h5]
                go_simp
                exact ⟨_, by simp only [frameD14, upd]; simp [Act.put, h5], rfl, Below.refl _ _⟩
              · have h7 : xs 7 = .int .i64 r.2 := hdep 7 (by decide) (by kernel_rfl)
                refine wpOp_at rfl rfl ?_
                unfold frameD14 Oper.wp
                simp only [h7]
                go_simp
                exact ⟨_, by simp only [frameD14, upd]; simp [Act.put, h7], rfl, Below.refl _ _⟩
            · intro xs w1 hb hx
              have r6 : ∃ t u, xs 6 = .agg #[.bool r.1.neg, t, u] ∧ IsRes w1 t r.1.top ∧ IsRes w1 u r.1.bot := hx 6 (by kernel_rfl)
              have r5 : ∃ t u, xs 5 = .tuple #[.agg #[.bool r.1.neg, t, u], .int .i64 r.2] ∧ IsRes w1 t r.1.top ∧ IsRes w1 u r.1.bot := hx 5 (by kernel_rfl)
              have r8 : ∃ g, xs 8 = .pointer (some ⟨g, 0, none⟩) ∧ B ≤ g ∧ w1.heap[g]? = some (.cells #[.bool false, .slice none 0 0, .slice none 0 0] 26 (0, 0)) := hx 8 (by kernel_rfl)
              clear hx
              obtain ⟨t, u, ha, ht, hu⟩ := r6
              obtain ⟨t', u', htp, -, -⟩ := r5
              obtain ⟨g, hp, hg1, hg2⟩ := r8
              obtain ⟨A1, c1, rfl⟩ := res_slice ht
              obtain ⟨A2, c2, rfl⟩ := res_slice hu
              refine wpOp_at rfl rfl ?_
              refine wp_store_row 26 (.tmp 13) (.tmp 68) rfl g #[.bool r.1.neg, .slice A1 r.1.top.length c1, .slice A2 r.1.bot.length c2] (by unfold frameD14; simp only [hp]; rfl) (by unfold frameD14; simp only [ha]; rfl) 26 #[.bool false, .slice none 0 0, .slice none 0 0] hg2 num_info3 rfl (three_one _ _ _ _ _ _ _) ?_
              refine ⟨rfl, rBelow.setRow hb (Nat.le_trans (Nat.le_of_eq hBe.out) hg1) _, fun j hd => ?_⟩
              match j with
              | 0 => trivial
              | 1 => trivial
              | 2 => trivial
              | 3 => trivial
              | 4 => trivial
              | 5 => exact ⟨t', u', htp, trivial⟩
              | 6 => trivial
              | 7 => exact absurd hd (by decide)
              | 8 => exact ⟨g, hp, hg1, A1, c1, A2, c2, rheap_same hg2, ht.setRow hg2 (three_no_int _ _ _ _ _ _ _) _, hu.setRow hg2 (three_no_int _ _ _ _ _ _ _) _⟩
              | 9 => trivial
              | 10 => exact absurd hd (by decide)
              | i + 11 => trivial
            · intro xs w1 hb hx
              have r8 : ∃ g, xs 8 = .pointer (some ⟨g, 0, none⟩) ∧ B ≤ g ∧ NumIn r.1 g w1 := hx 8 (by decide) (by decide)
              have h10 : xs 10 = .int .i64 r.2 := hx 10 (by decide) (by decide)
              clear hx
              obtain ⟨g, hp, hg1, hg2⟩ := r8
              unfold frameD14
              simp only [hp, h10]
              go_wp2_with fail
              go_meet
              exact ⟨congrArg (Value.int .i64) HMP.out, g, rfl, Nat.le_trans (Nat.le_of_eq hBe.out) hg1, hg2, hb⟩
          obtain ⟨rfl, g13, rfl, hg13, hn13, hbc⟩ := hcut
          rename World => w7
          obtain ⟨A7, c7, B7, d7, g7', a1, a2⟩ := H7.out.below hbc
          obtain ⟨A13, c13, B13, d13, g13', b1, b2⟩ := hn13
          have hb7 := hbr.out.trans (hbc.mono hbr.out.size)
          have p0 : w7.cell? ⟨g7, 0, none⟩ = some (.bool r.1.neg) := (cell_of_row w7 g7 0 _ _ _ g7').trans rfl
          have p1 : w7.cell? ⟨g7, 1, none⟩ = some (.slice A7 r.1.top.length c7) := (cell_of_row w7 g7 1 _ _ _ g7').trans rfl
          have p2 : w7.cell? ⟨g7, 2, none⟩ = some (.slice B7 r.1.bot.length d7) := (cell_of_row w7 g7 2 _ _ _ g7').trans rfl
          have q0 : w7.cell? ⟨g13, 0, none⟩ = some (.bool r.1.neg) := (cell_of_row w7 g13 0 _ _ _ g13').trans rfl
          have q1 : w7.cell? ⟨g13, 1, none⟩ = some (.slice A13 r.1.top.length c13) := (cell_of_row w7 g13 1 _ _ _ g13').trans rfl
          have q2 : w7.cell? ⟨g13, 2, none⟩ = some (.slice B13 r.1.bot.length d13) := (cell_of_row w7 g13 2 _ _ _ g13').trans rfl
          have SM := numSame_any r.1 r.1 _ _ _ _ w7 a1 a2 b1 b2
          rw [decide_eq_true rfl] at SM
          have HSM := Lib.hid SM
          have HP7 := Lib.hid (fun (wx : World) (hx : Below w7.heap.size w7 wx) => awake5_any wx ((hP.below hb7).below hx))
          have HB7 := Lib.hid hb7
          clear SM hb7 hbc hg13 g7' g13' a1 a2 b1 b2 H7 hbr HDV HWN I1 I2 G9 hP
          go_wp2_with fail
          refine HSM.out.mono ?_
          rintro e w8 ⟨rfl, hb8⟩
          go_wp2_with fail
          refine (HP7.out w8 hb8).mono ?_
          rintro e w9 ⟨rfl, hb9⟩
          go_wp2_with fail
          go_ret
          exact ⟨rfl, HB7.out.trans ((hb8.trans (hb9.mono hb8.size)).mono HB7.out.size)⟩
end Go.Proofs.YtfiefglagknclaaGreatDoor

/-
  From the rows' condition on listed variables (five tables) to the fact that the walks ask; a world that meets it.
-/
namespace Go.Proofs.YtfiefglagknclaaGreatDoor
open Go.ChangeShapes Go.WideShapes Go.ChangeAt Go.RowKit

theorem gPow : Tryz.prog.globalNamed "internal/strconv.uint64pow10" = some 3 := by kernel_rfl
theorem tPow : (Tryz.prog.globals[3]?).map (·.type) = some 166 := by kernel_rfl
theorem cPow : Tryz.prog.cellsOf 166 = 20 := by kernel_rfl
theorem cWord : Tryz.prog.cellsOf 74 = 1 := by kernel_rfl

def laid5 : List (String × DataW Unit) := [("math/bits.deBruijn32tab", Rows.laid_math_bits_deBruijn32tab), ("math/bits.deBruijn64tab", Rows.laid_math_bits_deBruijn64tab), ("internal/strconv.uint64pow10", Rows.laid_internal_strconv_uint64pow10), ("unicode/utf8.acceptRanges", Rows.laid_unicode_utf8_acceptRanges), ("unicode/utf8.first", Rows.laid_unicode_utf8_first)]
theorem door_met (os : Os) (args : Array Value) : laidMetH Tryz.prog laid5 ((World.laidAll Tryz.prog os laid5).forCall (fun _ _ => 0) ⟨#[], args, []⟩).memory := by
  rw [MakeChecks.laidMetH_plain _ _ _ (by kernel_rfl)]
  exact laidMet_laidAll _ (by kernel_rfl) (by kernel_rfl)
theorem of_laid {W : World} (h : laidMetH Tryz.prog laid5 W) : Pow10 W := by
  rw [MakeChecks.laidMetH_plain _ _ _ (by kernel_rfl)] at h
  have h2 := h.tail.tail
  have hT := Lib.tabIs_of_head (k := .u64) (zs := Lib.pow10Tab) gPow tPow Tryz.underlying166 Tryz.underlying74 cWord cPow h2
  refine ⟨hT, fun g e => ?_⟩
  obtain rfl := Option.some.inj (gPow.symm.trans e)
  exact World.block_lt_of_cell? W _ (hT.cell gPow 0 (by decide))
end Go.Proofs.YtfiefglagknclaaGreatDoor
