/-
  Texts of this proof, joined (by wip/bin/bundle.py): Good2, Same3, Good3, Rec, Chan, ArrRef, Same4, Same5, NetMath.
-/
import Derived.Test.YtmiccalfamepdaaGreatDoorM5
import Derived.Laws.Tables
import Derived.Laws.StructEq
import Derived.Deep.QuietTactic
import Derived.BigQuiet
/-
  Which arrays may be, by the reference: scrimref08.zero, Simple, Cell, Right. (Printed by wip/bin/gen_good2.py.)
-/
namespace Go.Proofs.YtmiccalfamepdaaGreatDoor
open Go.RowKit Ar
set_option maxHeartbeats 4000000
set_option maxRecDepth 100000
set_option linter.unusedVariables false

theorem empty_len {α : Type} {l : List α} (h : l.length = 0) : l.isEmpty = true := by rw [List.eq_nil_of_length_eq_zero h]; rfl
theorem not_empty_len {α : Type} {l : List α} (h : l.length ≠ 0) : l.isEmpty = false := by
  cases l
  · exact absurd rfl h
  · rfl
theorem simple_sh {S : Nat} {sh : List Int} {cells : List Cel} (h : sh.length ≠ 0) : simpleB (.mk S sh cells) = false := by
  have h0 := not_empty_len h
  unfold simpleB
  split
  · rename_i e; injection e with e1 e2 e3; subst e2; rw [h0]; rfl
  · rfl
theorem simple_len {S : Nat} {sh : List Int} {cells : List Cel} (h : cells.length ≠ 1) : simpleB (.mk S sh cells) = false := by
  unfold simpleB
  split
  · rename_i e; injection e with e1 e2 e3; subst e3; exact absurd rfl h
  · rfl
theorem simple_one {S L : Nat} {sh : List Int} {cells : List Cel} {k : Int} {n : Bool} {t b : List Nat} {c : Int} {ins : List Arr} (h0 : sh.length = 0) (h1 : cells.length = 1) (h : cells[0]'(by omega) = .mk L k n t b c ins) : simpleB (.mk S sh cells) = (k != 2) := by
  cases cells with
  | nil => cases h1
  | cons x r =>
    cases r with
    | cons y s => simp at h1
    | nil =>
      simp at h
      subst h
      show (sh.isEmpty && (k != 2)) = _
      rw [empty_len h0]; rfl

theorem refZero_any (n : Bool) (t b : List Nat) (A A' : Option Addr) (c c' : Nat) (w : World) (k1 : t.length ≤ 9223372036854775807) (k2 : b.length ≤ 9223372036854775807) :
    Calls Tryz.prog 76 #[.agg #[.bool n, .slice A t.length c, .slice A' b.length c']] w fun e w' => e = .returned (.bool (zeroB n t b)) ∧ Below w.heap.size w w' := by
  have HR : Hid (zeroB n t b = (!n && t.isEmpty && b.isEmpty)) := Lib.hid rfl
  generalize zeroB n t b = R at *
  have HT0 := Lib.hid (fun h => empty_len (l := t) h)
  have HT1 := Lib.hid (fun h => not_empty_len (l := t) h)
  have HB0 := Lib.hid (fun h => empty_len (l := b) h)
  have HB1 := Lib.hid (fun h => not_empty_len (l := b) h)
  generalize t.isEmpty = x at *
  generalize b.isEmpty = y at *
  generalize t.length = l1 at *
  generalize b.length = l2 at *
  cases n
  · by_cases ht : l1 = 0
    · have q1 : ((l1 : Int) == 0) = true := beq_iff_eq.2 (by omega)
      have HT := Lib.hid (HT0.out ht)
      clear ht HT0 HT1
      by_cases hb : l2 = 0
      · have q2 : ((l2 : Int) == 0) = true := beq_iff_eq.2 (by omega)
        have HB := Lib.hid (HB0.out hb)
        clear hb HB0 HB1
        go_enter Tryz.func76, Tryz.ntmps76
        go_wp2_with fail
        go_ret
        exact ⟨ret_bool (by rw [HR.out, HT.out, HB.out]; rfl), (Below.refl _ _).alloc (Nat.le_refl _) _⟩
      · have q2 : ((l2 : Int) == 0) = false := beq_eq_false_iff_ne.2 (by omega)
        have HB := Lib.hid (HB1.out hb)
        clear hb HB0 HB1
        go_enter Tryz.func76, Tryz.ntmps76
        go_wp2_with fail
        go_ret
        exact ⟨ret_bool (by rw [HR.out, HT.out, HB.out]; rfl), (Below.refl _ _).alloc (Nat.le_refl _) _⟩
    · have q1 : ((l1 : Int) == 0) = false := beq_eq_false_iff_ne.2 (by omega)
      have HT := Lib.hid (HT1.out ht)
      clear ht HT0 HT1
      go_enter Tryz.func76, Tryz.ntmps76
      go_wp2_with fail
      go_ret
      exact ⟨ret_bool (by rw [HR.out, HT.out]; rfl), (Below.refl _ _).alloc (Nat.le_refl _) _⟩
  · go_enter Tryz.func76, Tryz.ntmps76
    go_wp2_with fail
    go_ret
    exact ⟨ret_bool (by rw [HR.out]; rfl), (Below.refl _ _).alloc (Nat.le_refl _) _⟩

theorem refSimple_any (a : Arr) (vs : List Value) (w : World) (B : Nat) (h : IsArr w B a vs) (hB : B ≤ w.heap.size) :
    Calls Tryz.prog 78 #[.agg vs.toArray] w fun e w' => e = .returned (.bool (simpleB a)) ∧ Below w.heap.size w w' := by
  obtain ⟨S, shape, cells⟩ := a
  rw [IsArr] at h
  obtain ⟨A, c, A', c', us, rfl, hS, hf, hf', hw, hl, hl', hcs⟩ := h
  have hfl := (hf'.le (by omega))
  have hfs : shape.length ≤ 17592186044416 := by have h1 := hf.1; have h2 := hf.2; omega
  have H0 := Lib.hid (fun h => simple_sh (S := S) (sh := shape) (cells := cells) h)
  have H1 := Lib.hid (fun h => simple_len (S := S) (sh := shape) (cells := cells) h)
  by_cases h0 : shape.length = 0
  · have q1 : ((shape.length : Int) == 0) = true := beq_iff_eq.2 (by omega)
    by_cases h1 : cells.length = 1
    · have q2 : ((cells.length : Int) == 1) = true := beq_iff_eq.2 (by omega)
      obtain ⟨b, off, L, kind, neg, top, bot, ch, ins, A1, c1, A2, c2, A3, c3, us3, rfl, hb, hL, HX, t1, t2, t3, t4, t5, t6, g0, g1, g2, g3, g4, g5, g6⟩ := cel_at (k := 0) hcs hl' (wr := w.alloc (.cells #[.int .u64 (S : Int), .slice A shape.length c, .slice A' cells.length c'] 43)) (fun p hp => ((Below.refl w.heap.size w).alloc (Nat.le_refl _) _).cell (by omega)) (by omega)
      have HS := Lib.hid (simple_one (S := S) h0 h1 HX.out.eq)
      have hcl : (1 : Int) ≤ (cells.length : Int) := by omega
      simp only [Nat.zero_mul, Nat.add_zero] at g1
      clear HX H0 H1 h0 h1 hcs hl' hl hf hf' hw g0 g2 g3 g4 g5 g6
      generalize simpleB (.mk S shape cells) = R at *
      generalize shape.length = z1 at *
      generalize cells.length = z2 at *
      go_enter Tryz.func78, Tryz.ntmps78
      go_wp2_with fail
      go_ret
      exact ⟨ret_bool (by rw [HS.out]), (Below.refl _ _).alloc (Nat.le_refl _) _⟩
    · have q2 : ((cells.length : Int) == 1) = false := beq_eq_false_iff_ne.2 (by omega)
      have HS := Lib.hid (H1.out h1)
      clear H0 H1 h0 h1 hcs hl' hl hf hf' hw
      generalize simpleB (.mk S shape cells) = R at *
      generalize shape.length = z1 at *
      generalize cells.length = z2 at *
      go_enter Tryz.func78, Tryz.ntmps78
      go_wp2_with fail
      go_ret
      exact ⟨ret_bool (by rw [HS.out]), (Below.refl _ _).alloc (Nat.le_refl _) _⟩
  · have q1 : ((shape.length : Int) == 0) = false := beq_eq_false_iff_ne.2 (by omega)
    have HS := Lib.hid (H0.out h0)
    clear H0 H1 h0 hcs hl' hl hf hf' hw
    generalize simpleB (.mk S shape cells) = R at *
    generalize shape.length = z1 at *
    generalize cells.length = z2 at *
    go_enter Tryz.func78, Tryz.ntmps78
    go_wp2_with fail
    go_ret
    exact ⟨ret_bool (by rw [HS.out]), (Below.refl _ _).alloc (Nat.le_refl _) _⟩
end Go.Proofs.YtmiccalfamepdaaGreatDoor

/-
  Arrays compared: array.equal, its closures, slices.EqualFunc.
-/
namespace Go.Proofs.YtmiccalfamepdaaGreatDoor
open Go.RowKit Ar
set_option maxHeartbeats 2000000
set_option linter.unusedVariables false

/-- A cell's cells, made whole again. -/
theorem CelIn.is {w : World} {B : Nat} {ce : Cel} {L : Nat} {kind : Int} {neg : Bool} {top bot : List Nat} {ch : Int} {ins : List Arr} {A1 A2 A3 : Option Addr} {c1 c2 c3 : Nat} {us : List Value} (h : CelIn w B ce L kind neg top bot ch ins A1 A2 A3 c1 c2 c3 us) (hL : L < 18446744073709551616) :
    IsCel w B ce [.int .u64 (L : Int), .int .i64 kind, .bool neg, .slice A1 top.length c1, .slice A2 bot.length c2, .int .i64 ch, .slice A3 ins.length c3] := by
  rw [h.eq, IsCel]
  exact ⟨A1, c1, A2, c2, A3, c3, us, rfl, hL, h.ft, h.fb, h.fi, h.wk, h.wt, h.wb, h.lt, h.lb, h.li, h.arrs, h.nt, h.nb⟩

/-- What array.equal answers, for arrays of less than a size. -/
def EqOK (n : Nat) : Prop := ∀ (a b : Arr) (vs vs' : List Value) (lab : Bool) (w : World) (B : Nat), SizeOf.sizeOf a < n → IsArr w B a vs → IsArr w B b vs' → B ≤ w.heap.size →
    Calls Tryz.prog 52 #[.agg vs.toArray, .agg vs'.toArray, .bool lab] w fun e w' => e = .returned (.bool (same lab a b)) ∧ Below w.heap.size w w'

theorem c46_any {n : Nat} (ih : EqOK n) (a b : Arr) (vs vs' : List Value) (lab : Bool) (g : Nat) (w : World) (B : Nat) (ha : SizeOf.sizeOf a < n) (h : IsArr w B a vs) (h' : IsArr w B b vs') (hB : B ≤ w.heap.size) (hg : g < w.heap.size) (hc : w.cell? ⟨g, 0, none⟩ = some (.bool lab)) :
    Calls Tryz.prog 82 #[.agg vs.toArray, .agg vs'.toArray, .pointer (some ⟨g, 0, none⟩)] w fun e w' => e = .returned (.bool (same lab a b)) ∧ Below w.heap.size w w' := by
  obtain ⟨S, X, xn, xc, Y, yn, yc, rfl⟩ := h.form
  obtain ⟨S', X', xn', xc', Y', yn', yc', rfl⟩ := h'.form
  have hb0 : ∀ o1 o2, Below w.heap.size w ((w.alloc o1).alloc o2) := fun o1 o2 => ((Below.refl _ _).alloc (Nat.le_refl _) _).alloc (by simp) _
  have IH := Lib.hid (fun o1 o2 => ih a b _ _ lab ((w.alloc o1).alloc o2) B ha (h.below ((hb0 _ _).mono hB)) (h'.below ((hb0 _ _).mono hB)) (by simp; omega))
  have HB := Lib.hid hb0
  clear hb0 h h' ih
  generalize same lab a b = R at *
  go_enter Tryz.func82, Tryz.ntmps82
  go_wp2_with fail
  refine (IH.out _ _).mono ?_
  rintro e w2 ⟨rfl, hb2⟩
  go_wp2_with fail
  go_ret
  exact ⟨rfl, (HB.out _ _).trans (hb2.mono (by simp; omega))⟩

theorem eqFuncArr_any (l l' : List Arr) (us us' : List Value) (A A' : Option Addr) (c c' : Nat) (lab : Bool) (g : Nat) (w : World) (B : Nat) (h : IsArrs w B l us) (h' : IsArrs w B l' us') (hl : Lies w B A us) (hl' : Lies w B A' us') (hB : B ≤ w.heap.size)
    (k1 : l.length ≤ 35184372088832) (k2 : l'.length ≤ 35184372088832)
    (hf : ∀ (k : Nat) (hk : k < l.length) (hk' : k < l'.length) (u u' : List Value) (wx : World), Below w.heap.size w wx → IsArr wx B l[k] u → IsArr wx B l'[k] u' →
      Calls Tryz.prog 82 #[.agg u.toArray, .agg u'.toArray, .pointer (some ⟨g, 0, none⟩)] wx fun e w' => e = .returned (.bool (same lab l[k] l'[k])) ∧ Below wx.heap.size wx w') :
    Calls Tryz.prog 22 #[.slice A l.length c, .slice A' l'.length c', .func (.func 82) #[] #[.pointer (some ⟨g, 0, none⟩)]] w fun e w' => e = .returned (.bool (sameArrs lab l l')) ∧ Below w.heap.size w w' := by
  have HS := Lib.hid h
  have HS' := Lib.hid h'
  have HL := Lib.hid hl
  have HL' := Lib.hid hl'
  have HF := Lib.hid hf
  clear h h' hl hl' hf
  by_cases hne : l.length = l'.length
  · have hd : ((l.length : Int) != (l'.length : Int)) = false := by simp; omega
    have hln : l.length ≤ l'.length := by omega
    have HN := Lib.hid hne
    clear hne
    go_enter Tryz.func22, Tryz.ntmps22
    go_wp2_with fail
    go_loopw [7, 17] (fun u i wr => ∃ k : Nat, k ≤ l.length ∧ i = .int .i64 k ∧ Hid (sameArrs lab (l.drop k) (l'.drop k) = sameArrs lab l l') ∧ Below w.heap.size w wr) (fun _ i _ => l.length - (intOf i).toNat)
    case atStart => exact ⟨0, Nat.zero_le _, rfl, Lib.hid rfl, Below.refl _ _⟩
    case round =>
      obtain ⟨k, hk, rfl, HT, hbel⟩ := hrel
      have hsz := hbel.size
      by_cases hlt : k < l.length
      · have hlt' : k < l'.length := by omega
        obtain ⟨b, off, S, X, xn, xc, Y, yn, yc, rfl, hb, HA, g0, g1, g2⟩ := arr_at HS.out HL.out (wr := wr) (fun p hp => hbel.cell (by omega)) hlt
        obtain ⟨b', off', S', X', xn', xc', Y', yn', yc', rfl, hb', HA', g0', g1', g2'⟩ := arr_at HS'.out HL'.out (wr := wr) (fun p hp => hbel.cell (by omega)) hlt'
        have hbw : b < wr.heap.size := by omega
        have hbw' : b' < wr.heap.size := by omega
        have hST : Hid (sameArrs lab (l.drop k) (l'.drop k) = (same lab l[k] l'[k] && sameArrs lab (l.drop (k + 1)) (l'.drop (k + 1)))) := Lib.hid (sameArrs_drop lab hlt hlt')
        have hb1 := (hbel.alloc (by omega) (Obj.cells #[.int .u64 (S : Int), .slice X xn xc, .slice Y yn yc] 43)).alloc (by simp; omega) (Obj.cells #[.int .u64 (S' : Int), .slice X' xn' xc', .slice Y' yn' yc'] 43)
        have FC := Lib.hid (HF.out k hlt hlt' [.int .u64 (S : Int), .slice X xn xc, .slice Y yn yc] [.int .u64 (S' : Int), .slice X' xn' xc', .slice Y' yn' yc'] _ hb1 (HA.out.below (hb1.mono hB)) (HA'.out.below (hb1.mono hB)))
        generalize same lab l[k] l'[k] = R at FC hST
        go_wp2_with fail
        refine FC.out.mono ?_
        rintro e w2 ⟨rfl, hb2⟩
        have hb3 := hb1.trans (hb2.mono hb1.size)
        cases R
        · have HZ : Hid (sameArrs lab l l' = false) := Lib.hid (by rw [← HT.out, hST.out]; rfl)
          go_wp2_with fail
          go_ret
          exact ⟨ret_bool (by rw [HZ.out]), hb3⟩
        · have HZ : Hid (sameArrs lab (l.drop (k + 1)) (l'.drop (k + 1)) = sameArrs lab l l') := Lib.hid (by rw [← HT.out, hST.out]; rfl)
          go_wp2_with fail
          go_roundw
          case rel => exact ⟨k + 1, by omega, by go_num, HZ, hb3⟩
          case measure => simp [intOf]; omega
      · have hke : k = l.length := by omega
        have HZ2 : Hid (sameArrs lab l l' = true) := Lib.hid (by rw [← HT.out, hke, List.drop_length, HN.out, List.drop_length, sameArrs])
        clear hke HT
        go_wp2_with fail
        go_ret
        exact ⟨ret_bool (by rw [HZ2.out]), hbel⟩
  · have hd : (l.length != l'.length) = true := by simpa using hne
    have HZ2 : Hid (sameArrs lab l l' = false) := Lib.hid (by
      cases e : sameArrs lab l l'
      · rfl
      · exact absurd (sameArrs_len lab e) hne)
    clear hne
    go_enter Tryz.func22, Tryz.ntmps22
    go_wp2_with fail
    go_ret
    exact ⟨ret_bool (by rw [HZ2.out]), Below.refl _ _⟩

theorem eqFuncCel_any (l l' : List Cel) (us us' : List Value) (A A' : Option Addr) (c c' : Nat) (lab : Bool) (g : Nat) (w : World) (B : Nat) (h : IsCels w B l us) (h' : IsCels w B l' us') (hl : Lies w B A us) (hl' : Lies w B A' us') (hB : B ≤ w.heap.size)
    (k1 : l.length ≤ 35184372088832) (k2 : l'.length ≤ 35184372088832)
    (hf : ∀ (k : Nat) (hk : k < l.length) (hk' : k < l'.length) (u u' : List Value) (wx : World), Below w.heap.size w wx → IsCel wx B l[k] u → IsCel wx B l'[k] u' →
      Calls Tryz.prog 80 #[.agg u.toArray, .agg u'.toArray, .pointer (some ⟨g, 0, none⟩)] wx fun e w' => e = .returned (.bool (sameCel lab l[k] l'[k])) ∧ Below wx.heap.size wx w') :
    Calls Tryz.prog 79 #[.slice A l.length c, .slice A' l'.length c', .func (.func 80) #[] #[.pointer (some ⟨g, 0, none⟩)]] w fun e w' => e = .returned (.bool (sameCels lab l l')) ∧ Below w.heap.size w w' := by
  have HS := Lib.hid h
  have HS' := Lib.hid h'
  have HL := Lib.hid hl
  have HL' := Lib.hid hl'
  have HF := Lib.hid hf
  clear h h' hl hl' hf
  by_cases hne : l.length = l'.length
  · have hd : ((l.length : Int) != (l'.length : Int)) = false := by simp; omega
    have hln : l.length ≤ l'.length := by omega
    have HN := Lib.hid hne
    clear hne
    go_enter Tryz.func79, Tryz.ntmps79
    go_wp2_with fail
    go_loopw [7, 17] (fun u i wr => ∃ k : Nat, k ≤ l.length ∧ i = .int .i64 k ∧ Hid (sameCels lab (l.drop k) (l'.drop k) = sameCels lab l l') ∧ Below w.heap.size w wr) (fun _ i _ => l.length - (intOf i).toNat)
    case atStart => exact ⟨0, Nat.zero_le _, rfl, Lib.hid rfl, Below.refl _ _⟩
    case round =>
      obtain ⟨k, hk, rfl, HT, hbel⟩ := hrel
      have hsz := hbel.size
      by_cases hlt : k < l.length
      · have hlt' : k < l'.length := by omega
        obtain ⟨b, off, L, kind, neg, top, bot, ch, ins, A1, c1, A2, c2, A3, c3, us3, rfl, hb, hL, HX, t1, t2, t3, t4, t5, t6, g0, g1, g2, g3, g4, g5, g6⟩ := cel_at HS.out HL.out (wr := wr) (fun p hp => hbel.cell (by omega)) hlt
        obtain ⟨b', off', L', kind', neg', top', bot', ch', ins', A1', c1', A2', c2', A3', c3', us3', rfl, hb', hL', HX', t1', t2', t3', t4', t5', t6', g0', g1', g2', g3', g4', g5', g6'⟩ := cel_at HS'.out HL'.out (wr := wr) (fun p hp => hbel.cell (by omega)) hlt'
        have hbw : b < wr.heap.size := by omega
        have hbw' : b' < wr.heap.size := by omega
        have hST : Hid (sameCels lab (l.drop k) (l'.drop k) = (sameCel lab l[k] l'[k] && sameCels lab (l.drop (k + 1)) (l'.drop (k + 1)))) := Lib.hid (sameCels_drop lab hlt hlt')
        have hb1 := (hbel.alloc (by omega) (Obj.cells #[.int .u64 (L : Int), .int .i64 kind, .bool neg, .slice A1 top.length c1, .slice A2 bot.length c2, .int .i64 ch, .slice A3 ins.length c3] 85)).alloc (by simp; omega) (Obj.cells #[.int .u64 (L' : Int), .int .i64 kind', .bool neg', .slice A1' top'.length c1', .slice A2' bot'.length c2', .int .i64 ch', .slice A3' ins'.length c3'] 85)
        have FC := Lib.hid (HF.out k hlt hlt' [.int .u64 (L : Int), .int .i64 kind, .bool neg, .slice A1 top.length c1, .slice A2 bot.length c2, .int .i64 ch, .slice A3 ins.length c3] [.int .u64 (L' : Int), .int .i64 kind', .bool neg', .slice A1' top'.length c1', .slice A2' bot'.length c2', .int .i64 ch', .slice A3' ins'.length c3'] _ hb1 ((HX.out.is hL).below (hb1.mono hB)) ((HX'.out.is hL').below (hb1.mono hB)))
        generalize sameCel lab l[k] l'[k] = R at FC hST
        go_wp2_with fail
        refine FC.out.mono ?_
        rintro e w2 ⟨rfl, hb2⟩
        have hb3 := hb1.trans (hb2.mono hb1.size)
        cases R
        · have HZ : Hid (sameCels lab l l' = false) := Lib.hid (by rw [← HT.out, hST.out]; rfl)
          go_wp2_with fail
          go_ret
          exact ⟨ret_bool (by rw [HZ.out]), hb3⟩
        · have HZ : Hid (sameCels lab (l.drop (k + 1)) (l'.drop (k + 1)) = sameCels lab l l') := Lib.hid (by rw [← HT.out, hST.out]; rfl)
          go_wp2_with fail
          go_roundw
          case rel => exact ⟨k + 1, by omega, by go_num, HZ, hb3⟩
          case measure => simp [intOf]; omega
      · have hke : k = l.length := by omega
        have HZ2 : Hid (sameCels lab l l' = true) := Lib.hid (by rw [← HT.out, hke, List.drop_length, HN.out, List.drop_length, sameCels])
        clear hke HT
        go_wp2_with fail
        go_ret
        exact ⟨ret_bool (by rw [HZ2.out]), hbel⟩
  · have hd : (l.length != l'.length) = true := by simpa using hne
    have HZ2 : Hid (sameCels lab l l' = false) := Lib.hid (by
      cases e : sameCels lab l l'
      · rfl
      · exact absurd (sameCels_len lab e) hne)
    clear hne
    go_enter Tryz.func79, Tryz.ntmps79
    go_wp2_with fail
    go_ret
    exact ⟨ret_bool (by rw [HZ2.out]), Below.refl _ _⟩

end Go.Proofs.YtmiccalfamepdaaGreatDoor

/-
  Which arrays may be, by the reference: scrimref08.Cell, Right. (Printed by wip/bin/gen_good2.py.)
-/
namespace Go.Proofs.YtmiccalfamepdaaGreatDoor
open Go.RowKit Ar
set_option maxHeartbeats 4000000
set_option maxRecDepth 100000
set_option linter.unusedVariables false

/-- What scrimref08.Right answers, for arrays of less than a size. -/
def RightOK (n : Nat) : Prop := ∀ (a : Arr) (vs : List Value) (d : Nat) (w : World) (B : Nat), SizeOf.sizeOf a < n → IsArr w B a vs → B ≤ w.heap.size → d ≤ 100 →
    Calls Tryz.prog 20 #[.agg vs.toArray, .int .i64 (d : Int)] w fun e w' => e = .returned (.bool (rightA d a)) ∧ Below w.heap.size w w'
theorem rightCel_0 {d L : Nat} {n : Bool} {t b : List Nat} {c : Int} {ins : List Arr} : rightCel d (.mk L 0 n t b c ins) = ((c == 0) && ins.isEmpty && Rt.right ⟨n, t, b⟩) := by rw [rightCel, if_pos rfl]
theorem rightCel_1 {d L : Nat} {n : Bool} {t b : List Nat} {c : Int} {ins : List Arr} : rightCel d (.mk L 1 n t b c ins) = (zeroB n t b && ins.isEmpty && mayB c) := by rw [rightCel, if_neg (by decide), if_pos rfl]
theorem rightCel_2 {d L : Nat} {n : Bool} {t b : List Nat} {c : Int} {ins : List Arr} : rightCel d (.mk L 2 n t b c ins) = (zeroB n t b && (c == 0) && decide (0 < d) && rightIns d ins) := by rw [rightCel, if_neg (by decide), if_neg (by decide)]; rfl
theorem rightCel_x {d L : Nat} {k : Int} {n : Bool} {t b : List Nat} {c : Int} {ins : List Arr} (h0 : k ≠ 0) (h1 : k ≠ 1) (h2 : (k == 2) = false) : rightCel d (.mk L k n t b c ins) = false := by rw [rightCel, if_neg h0, if_neg h1, h2]; rfl
theorem rightIns_len {d : Nat} {ins : List Arr} (h : ins.length ≠ 1) : rightIns d ins = false := by
  match ins with
  | [] => rw [rightIns]; rintro a h; cases h
  | [a] => exact absurd rfl h
  | a :: b :: r => rw [rightIns]; rintro a h; cases h
theorem rightIns_one {d : Nat} {ins : List Arr} (h : ins.length = 1) : rightIns d ins = (!simpleB (ins[0]'(by omega)) && rightA (d - 1) (ins[0]'(by omega))) := by
  match ins with
  | [] => cases h
  | [a] => rw [rightIns]; rfl
  | a :: b :: r => simp at h

theorem rightCell_any {n : Nat} (ih : RightOK n) (x : Cel) (vs : List Value) (d : Nat) (w : World) (B : Nat) (hx : SizeOf.sizeOf x < n) (h : IsCel w B x vs) (hB : B ≤ w.heap.size) (hd : d ≤ 100) :
    Calls Tryz.prog 50 #[.agg vs.toArray, .int .i64 (d : Int)] w fun e w' => e = .returned (.bool (rightCel d x)) ∧ Below w.heap.size w w' := by
  obtain ⟨L, kind, neg, top, bot, ch, ins⟩ := x
  rw [IsCel] at h
  obtain ⟨A1, c1, A2, c2, A3, c3, us, rfl, hL, hf1, hf2, hf3, hw1, hw2, hw3, hl1, hl2, hl3, hins, hnt, hnb⟩ := h
  obtain ⟨W, hW⟩ : ∃ W, W = w.alloc (.cells #[.int .u64 (L : Int), .int .i64 kind, .bool neg, .slice A1 top.length c1, .slice A2 bot.length c2, .int .i64 ch, .slice A3 ins.length c3] 85) := ⟨_, rfl⟩
  have hWs : W.heap.size = w.heap.size + 1 := by rw [hW]; simp
  have hWb : Below w.heap.size w W := by rw [hW]; exact (Below.refl _ _).alloc (Nat.le_refl _) _
  have HQ5 : Hid (W.cell? ⟨w.heap.size, 5, none⟩ = some (.int .i64 ch)) := Lib.hid (by rw [hW]; go_simp)
  have HQ6 : Hid (W.cell? ⟨w.heap.size, 6, none⟩ = some (.slice A3 ins.length c3)) := Lib.hid (by rw [hW]; go_simp)
  have HW := Lib.hid hW
  have hWl : w.heap.size < W.heap.size := by omega
  have m1 : top.length ≤ 35184372088832 := by have h1 := hf1.1; have h2 := hf1.2; omega
  have m2 : bot.length ≤ 35184372088832 := by have h1 := hf2.1; have h2 := hf2.2; omega
  have m3 : ins.length ≤ 35184372088832 := by have h1 := hf3.1; have h2 := hf3.2; omega
  have hch : -9223372036854775808 ≤ ch ∧ ch ≤ 9223372036854775807 := hw1 ch (by simp)
  have ZR := Lib.hid (refZero_any neg top bot A1 A2 c1 c2 W (by omega) (by omega))
  have MY := Lib.hid (fun (wx : World) => refMay6_any ch wx hch.1 hch.2)
  have RR := Lib.hid (rright_any neg A1 top c1 A2 bot c2 W ⟨A1, c1, rfl, hf1.1, hf1.2.2, hnt, (hl1.below (hWb.mono hB)).more (by omega)⟩ ⟨A2, c2, rfl, hf2.1, hf2.2.2, hnb, (hl2.below (hWb.mono hB)).more (by omega)⟩ hw2 hw3)
  have hsz0 : ∀ a ∈ ins, SizeOf.sizeOf a < n := fun a ha => by
    have h1 := List.sizeOf_lt_of_mem ha
    simp only [Cel.mk.sizeOf_spec] at hx
    omega
  have HS := Lib.hid hins
  have HL := Lib.hid hl3
  have HE0 := Lib.hid (fun h => empty_len (l := ins) h)
  have HE1 := Lib.hid (fun h => not_empty_len (l := ins) h)
  have R0 := Lib.hid (rightCel_0 (d := d) (L := L) (n := neg) (t := top) (b := bot) (c := ch) (ins := ins))
  have R1 := Lib.hid (rightCel_1 (d := d) (L := L) (n := neg) (t := top) (b := bot) (c := ch) (ins := ins))
  have R2 := Lib.hid (rightCel_2 (d := d) (L := L) (n := neg) (t := top) (b := bot) (c := ch) (ins := ins))
  have RX := Lib.hid (fun h0 h1 h2 => rightCel_x (d := d) (L := L) (k := kind) (n := neg) (t := top) (b := bot) (c := ch) (ins := ins) h0 h1 h2)
  have RI1 := Lib.hid (fun h => rightIns_len (d := d) (ins := ins) h)
  have RI2 := Lib.hid (fun h => rightIns_one (d := d) (ins := ins) h)
  clear hins hl1 hl2 hl3 hf1 hf2 hf3 hw1 hw2 hw3 hnt hnb hx hW hch
  generalize top.length = l1 at *
  generalize bot.length = l2 at *
  generalize Rt.right ⟨neg, top, bot⟩ = RT at *
  generalize zeroB neg top bot = Z at *
  generalize mayB ch = MB at *
  generalize ins.isEmpty = IE at *
  by_cases k0 : kind = 0
  · subst k0
    have HR := Lib.hid R0.out
    clear R0 R1 R2 RX RI1 RI2 ZR MY
    generalize rightCel d (.mk L 0 neg top bot ch ins) = R at *
    cases q1 : (ch == 0)
    · rw [q1] at HR
      go_enter Tryz.func50, Tryz.ntmps50
      go_wp2_with fail
      go_ret
      exact ⟨ret_bool (by rw [HR.out]; rfl), by rw [HW.out] at hWb; exact hWb⟩
    · rw [q1] at HR
      by_cases h0 : ins.length = 0
      · have q2 : ((ins.length : Int) == 0) = true := beq_iff_eq.2 (by omega)
        have HE := Lib.hid (HE0.out h0)
        clear h0 HE0 HE1
        generalize ins.length = l3 at *
        go_enter Tryz.func50, Tryz.ntmps50
        go_wp2_with fail
        rw [← HW.out]
        refine RR.out.mono ?_
        rintro e w2 ⟨rfl, hb2⟩
        go_wp2_with fail
        go_ret
        exact ⟨ret_bool (by rw [HR.out, HE.out]; simp), hWb.trans (hb2.mono (by omega))⟩
      · have q2 : ((ins.length : Int) == 0) = false := beq_eq_false_iff_ne.2 (by omega)
        have HE := Lib.hid (HE1.out h0)
        clear h0 HE0 HE1
        generalize ins.length = l3 at *
        go_enter Tryz.func50, Tryz.ntmps50
        go_wp2_with fail
        go_ret
        exact ⟨ret_bool (by rw [HR.out, HE.out]; simp), by rw [HW.out] at hWb; exact hWb⟩
  · by_cases k1 : kind = 1
    · subst k1
      have HR := Lib.hid R1.out
      clear R0 R1 R2 RX RI1 RI2 RR k0
      generalize rightCel d (.mk L 1 neg top bot ch ins) = R at *
      go_enter Tryz.func50, Tryz.ntmps50
      go_wp2_with fail
      rw [← HW.out]
      refine ZR.out.mono ?_
      rintro e w2 ⟨rfl, hb2⟩
      have r5 : w2.cell? ⟨w.heap.size, 5, none⟩ = some (.int .i64 ch) := (hb2.cell (p := ⟨w.heap.size, 5, none⟩) hWl).trans HQ5.out
      have r6 : w2.cell? ⟨w.heap.size, 6, none⟩ = some (.slice A3 ins.length c3) := (hb2.cell (p := ⟨w.heap.size, 6, none⟩) hWl).trans HQ6.out
      cases Z
      · go_wp2_with fail
        go_ret
        exact ⟨ret_bool (by rw [HR.out]; rfl), hWb.trans (hb2.mono (by omega))⟩
      · by_cases h0 : ins.length = 0
        · have q2 : ((ins.length : Int) == 0) = true := beq_iff_eq.2 (by omega)
          have HE := Lib.hid (HE0.out h0)
          clear h0 HE0 HE1
          generalize ins.length = l3 at *
          go_wp2_with fail
          refine (MY.out _).mono ?_
          rintro e w3 ⟨rfl, rfl⟩
          go_wp2_with fail
          go_ret
          exact ⟨ret_bool (by rw [HR.out, HE.out]; simp), hWb.trans (hb2.mono (by omega))⟩
        · have q2 : ((ins.length : Int) == 0) = false := beq_eq_false_iff_ne.2 (by omega)
          have HE := Lib.hid (HE1.out h0)
          clear h0 HE0 HE1
          generalize ins.length = l3 at *
          go_wp2_with fail
          go_ret
          exact ⟨ret_bool (by rw [HR.out, HE.out]; simp), hWb.trans (hb2.mono (by omega))⟩
    · have p0 : (kind == 0) = false := by simpa using k0
      have p1 : (kind == 1) = false := by simpa using k1
      cases p2 : (kind == 2)
      · have HR := Lib.hid (RX.out k0 k1 p2)
        clear R0 R1 R2 RX RI1 RI2 RR k0 k1
        generalize rightCel d (.mk L kind neg top bot ch ins) = R at *
        go_enter Tryz.func50, Tryz.ntmps50
        go_wp2_with fail
        go_ret
        exact ⟨ret_bool (by rw [HR.out]), by rw [HW.out] at hWb; exact hWb⟩
      · obtain rfl : kind = 2 := by simpa using p2
        have HR := Lib.hid R2.out
        clear R0 R1 R2 RX RR k0 k1 p0 p1 p2
        generalize rightCel d (.mk L 2 neg top bot ch ins) = R at *
        go_enter Tryz.func50, Tryz.ntmps50
        go_wp2_with fail
        rw [← HW.out]
        refine ZR.out.mono ?_
        rintro e w2 ⟨rfl, hb2⟩
        have r5 : w2.cell? ⟨w.heap.size, 5, none⟩ = some (.int .i64 ch) := (hb2.cell (p := ⟨w.heap.size, 5, none⟩) hWl).trans HQ5.out
        have r6 : w2.cell? ⟨w.heap.size, 6, none⟩ = some (.slice A3 ins.length c3) := (hb2.cell (p := ⟨w.heap.size, 6, none⟩) hWl).trans HQ6.out
        have hb3 := hWb.trans (hb2.mono (by omega))
        cases Z
        · go_wp2_with fail
          go_ret
          exact ⟨ret_bool (by rw [HR.out]; rfl), hb3⟩
        · cases q1 : (ch == 0)
          · rw [q1] at HR
            go_wp2_with fail
            go_ret
            exact ⟨ret_bool (by rw [HR.out]; rfl), hb3⟩
          · rw [q1] at HR
            by_cases h1 : ins.length = 1
            · have q2 : ((ins.length : Int) == 1) = true := beq_iff_eq.2 (by omega)
              obtain ⟨a0, ha0⟩ : ∃ a, a = ins[0]'(by omega) := ⟨_, rfl⟩
              have hi := RI2.out h1
              rw [← ha0] at hi
              have HI := Lib.hid hi
              clear hi
              by_cases h2 : 0 < d
              · have q3 : decide ((0 : Int) < (d : Int)) = true := decide_eq_true (by omega)
                have HD : Hid (decide (0 < d) = true) := Lib.hid (decide_eq_true h2)
                obtain ⟨b, off, S, X, xn, xc, Y, yn, yc, rfl, hb, HA, g0, g1, g2⟩ := arr_at (k := 0) HS.out HL.out (wr := w2) (fun p hp => hb3.cell (by omega)) (by omega)
                simp only [Nat.zero_mul, Nat.add_zero] at g0 g1 g2
                rw [← ha0] at HA
                have hsa : SizeOf.sizeOf a0 < n := by rw [ha0]; exact hsz0 _ (List.getElem_mem _)
                have SP := Lib.hid (refSimple_any a0 _ w2 B (HA.out.below (hb3.mono hB)) (by have := hb3.size; omega))
                have HG : Hid (w2.cell? ⟨b, off, none⟩ = some (.int .u64 (S : Int)) ∧ w2.cell? ⟨b, off + 1, none⟩ = some (.slice X xn xc) ∧ w2.cell? ⟨b, off + 2, none⟩ = some (.slice Y yn yc)) := Lib.hid ⟨g0, g1, g2⟩
                have hcl : (1 : Int) ≤ (ins.length : Int) := by omega
                have hbl : b < w2.heap.size := by have := hb3.size; omega
                have IH := Lib.hid (fun (wx : World) (hx : Below w2.heap.size w2 wx) => ih a0 _ (d - 1) wx B hsa (HA.out.below ((hb3.trans (hx.mono hb3.size)).mono hB)) (by have := hb3.size; have := hx.size; omega) (by omega))
                have hdd : ((d - 1 : Nat) : Int) = (d : Int) - 1 := by omega
                rw [hdd] at IH
                clear ha0
                clear hdd h1 RI1 RI2 HE0 HE1
                have q3' : decide (0 < d) = true := decide_eq_true h2
                generalize simpleB a0 = SB at *
                generalize rightA (d - 1) a0 = RA at *
                generalize rightIns d ins = RI at *
                generalize ins.length = l3 at *
                go_wp2_with fail
                refine SP.out.mono ?_
                rintro e w3 ⟨rfl, hb4⟩
                have r6' : w3.cell? ⟨w.heap.size, 6, none⟩ = some (.slice (some ⟨b, off, none⟩) l3 c3) := (hb4.cell (p := ⟨w.heap.size, 6, none⟩) (show w.heap.size < _ by have := hb2.size; omega)).trans r6
                have g0' : w3.cell? ⟨b, off, none⟩ = some (.int .u64 (S : Int)) := (hb4.cell (p := ⟨b, off, none⟩) hbl).trans HG.out.1
                have g1' : w3.cell? ⟨b, off + 1, none⟩ = some (.slice X xn xc) := (hb4.cell (p := ⟨b, off + 1, none⟩) hbl).trans HG.out.2.1
                have g2' : w3.cell? ⟨b, off + 2, none⟩ = some (.slice Y yn yc) := (hb4.cell (p := ⟨b, off + 2, none⟩) hbl).trans HG.out.2.2
                have hb5 := hb3.trans (hb4.mono hb3.size)
                clear r5 r6 g0 g1 g2
                cases SB
                · go_wp2_with fail
                  refine (IH.out _ hb4).mono ?_
                  rintro e w4 ⟨rfl, hb6⟩
                  go_wp2_with fail
                  go_ret
                  exact ⟨ret_bool (by rw [HR.out, HD.out, HI.out]; simp), hb5.trans (hb6.mono hb5.size)⟩
                · go_wp2_with fail
                  go_ret
                  exact ⟨ret_bool (by rw [HR.out, HD.out, HI.out]; simp), hb5⟩
              · have q3 : decide ((0 : Int) < (d : Int)) = false := decide_eq_false (by omega)
                have HD : Hid (decide (0 < d) = false) := Lib.hid (decide_eq_false h2)
                have q3' : decide (0 < d) = false := decide_eq_false h2
                clear ha0 HI
                clear h1 h2 RI1 RI2 HE0 HE1
                generalize ins.length = l3 at *
                go_wp2_with fail
                go_ret
                exact ⟨ret_bool (by rw [HR.out, HD.out]; simp), hb3⟩
            · have q2 : ((ins.length : Int) == 1) = false := beq_eq_false_iff_ne.2 (by omega)
              have HI := Lib.hid (RI1.out h1)
              clear h1 RI1 RI2 HE0 HE1
              generalize ins.length = l3 at *
              go_wp2_with fail
              go_ret
              exact ⟨ret_bool (by rw [HR.out, HI.out]; simp), hb3⟩

theorem rightA_mk {d S : Nat} {sh : List Int} {cells : List Cel} : rightA d (.mk S sh cells) = (((cnt sh).2 == 0) && ((cnt sh).1 == (cells.length : Int)) && rightCels d cells) := by rw [rightA]
theorem right_step {n : Nat} (ih : RightOK n) : RightOK (n + 1) := by
  intro a vs d w B hx h hB hd
  obtain ⟨S, shape, cells⟩ := a
  rw [IsArr] at h
  obtain ⟨A, c, A', c', us, rfl, hS, hf, hf', hw, hl, hl', hcs⟩ := h
  obtain ⟨W, hW⟩ : ∃ W, W = w.alloc (.cells #[.int .u64 (S : Int), .slice A shape.length c, .slice A' cells.length c'] 43) := ⟨_, rfl⟩
  have hWs : W.heap.size = w.heap.size + 1 := by rw [hW]; simp
  have hWb : Below w.heap.size w W := by rw [hW]; exact (Below.refl _ _).alloc (Nat.le_refl _) _
  have HQ2 : Hid (W.cell? ⟨w.heap.size, 2, none⟩ = some (.slice A' cells.length c')) := Lib.hid (by rw [hW]; go_simp)
  have HW := Lib.hid hW
  have hWl : w.heap.size < W.heap.size := by omega
  have CT := Lib.hid (refCount_any shape A c W B (hl.below (hWb.mono hB)) (by have h1 := hf.1; have h2 := hf.2; omega))
  have HR := Lib.hid (rightA_mk (d := d) (S := S) (sh := shape) (cells := cells))
  have hbd := cnt_bd shape
  have hfl := (hf'.le (by omega))
  have hsz0 : ∀ a ∈ cells, SizeOf.sizeOf a < n := fun a ha => by
    have h1 := List.sizeOf_lt_of_mem ha
    simp only [Arr.mk.sizeOf_spec] at hx
    omega
  have HC := Lib.hid hcs
  have HL := Lib.hid hl'
  have CE := Lib.hid (fun (k : Nat) (hk : k < cells.length) (u : List Value) (wx : World) (hu : IsCel wx B cells[k] u) (hbx : B ≤ wx.heap.size) => rightCell_any ih cells[k] u d wx B (hsz0 _ (List.getElem_mem hk)) hu hbx hd)
  clear hcs hl' hl hf hf' hw hsz0 hx hW
  generalize rightA d (.mk S shape cells) = R at *
  generalize (cnt shape).1 = N at *
  generalize (cnt shape).2 = E at *
  generalize shape.length = l1 at *
  have go1 : ∀ (x : Bool), (E == 0) = x → True := fun _ _ => trivial
  clear go1
  cases q1 : (E == 0)
  · rw [q1] at HR
    have q2 : (E != 0) = true := by simpa using q1
    go_enter Tryz.func20, Tryz.ntmps20
    go_wp2_with fail
    rw [← HW.out]
    refine CT.out.mono ?_
    rintro e w2 ⟨rfl, hb2⟩
    go_wp2_with fail
    go_ret
    exact ⟨ret_bool (by rw [HR.out]; rfl), hWb.trans (hb2.mono (by omega))⟩
  · rw [q1] at HR
    have q2 : (E != 0) = false := by simpa using q1
    by_cases hN : N = (cells.length : Int)
    · subst hN
      have q3 : ((cells.length : Int) != (cells.length : Int)) = false := by simp
      have HR2 : Hid (R = rightCels d cells) := Lib.hid (by rw [HR.out]; simp)
      clear HR
      go_enter Tryz.func20, Tryz.ntmps20
      go_wp2_with fail
      rw [← HW.out]
      refine CT.out.mono ?_
      rintro e w2 ⟨rfl, hb2⟩
      have r2 : w2.cell? ⟨w.heap.size, 2, none⟩ = some (.slice A' cells.length c') := (hb2.cell (p := ⟨w.heap.size, 2, none⟩) hWl).trans HQ2.out
      go_wp2_with fail
      clear r2
      go_loopw [7] (fun i wr => ∃ k : Nat, k ≤ cells.length ∧ i = .int .i64 k ∧ Hid (rightCels d (cells.drop k) = rightCels d cells) ∧ Below W.heap.size W wr) (fun i _ => cells.length - (intOf i).toNat)
      case atStart => exact ⟨0, Nat.zero_le _, rfl, Lib.hid rfl, hb2⟩
      case round =>
        clear hb2
        obtain ⟨k, hk, rfl, HT, hbel⟩ := hrel
        have hsz := hbel.size
        have hb0 := hWb.trans (hbel.mono (by omega))
        by_cases hlt : k < cells.length
        · have r2 : wr.cell? ⟨w.heap.size, 2, none⟩ = some (.slice A' cells.length c') := (hbel.cell (p := ⟨w.heap.size, 2, none⟩) hWl).trans HQ2.out
          obtain ⟨b, off, L, kind, neg, top, bot, ch, ins, A1, c1, A2, c2, A3, c3, us3, rfl, hb, hL, HX, t1, t2, t3, t4, t5, t6, g0, g1, g2, g3, g4, g5, g6⟩ := cel_at HC.out HL.out (wr := wr) (fun p hp => hb0.cell (by omega)) hlt
          have CK := Lib.hid (CE.out k hlt _ wr ((HX.out.is hL).below (hb0.mono hB)) (by omega))
          have HST := Lib.hid (rightCels_drop (d := d) hlt)
          generalize rightCel d cells[k] = RC at *
          have hk0 : (0 : Int) ≤ (k : Int) := by omega
          have hk1 : (k : Int) < (cells.length : Int) := by omega
          go_wp2_with fail
          refine CK.out.mono ?_
          rintro e w3 ⟨rfl, hb3⟩
          have hb4 := hbel.trans (hb3.mono hsz)
          clear r2 g0 g1 g2 g3 g4 g5 g6
          cases RC
          · have HZ : Hid (R = false) := Lib.hid (by rw [HR2.out, ← HT.out, HST.out]; rfl)
            go_wp2_with fail
            go_ret
            exact ⟨ret_bool (by rw [HZ.out]), hWb.trans (hb4.mono (by omega))⟩
          · have HZ : Hid (rightCels d (cells.drop (k + 1)) = rightCels d cells) := Lib.hid (by rw [← HT.out, HST.out]; rfl)
            go_wp2_with fail
            go_roundw
            case rel => exact ⟨k + 1, by omega, by go_num, HZ, hb4⟩
            case measure => simp [intOf]; omega
        · have HZ : Hid (R = true) := Lib.hid (by rw [HR2.out, ← HT.out]; exact rightCels_end (by omega))
          go_wp2_with fail
          go_ret
          exact ⟨ret_bool (by rw [HZ.out]), hb0⟩
    · have q3 : (N != (cells.length : Int)) = true := by simpa using hN
      have HR2 : Hid (R = false) := Lib.hid (by rw [HR.out, show (N == (cells.length : Int)) = false by simpa using hN]; rfl)
      clear hN HR
      go_enter Tryz.func20, Tryz.ntmps20
      go_wp2_with fail
      rw [← HW.out]
      refine CT.out.mono ?_
      rintro e w2 ⟨rfl, hb2⟩
      have r2 : w2.cell? ⟨w.heap.size, 2, none⟩ = some (.slice A' cells.length c') := (hb2.cell (p := ⟨w.heap.size, 2, none⟩) hWl).trans HQ2.out
      go_wp2_with fail
      go_ret
      exact ⟨ret_bool (by rw [HR2.out]), hWb.trans (hb2.mono (by omega))⟩
theorem refRight_any : ∀ n, RightOK n
  | 0 => fun a vs d w B h => by omega
  | n + 1 => right_step (refRight_any n)
end Go.Proofs.YtmiccalfamepdaaGreatDoor

/-
  Records and configurations in memory.
-/
namespace Go.Proofs.YtmiccalfamepdaaGreatDoor
open Go.RowKit Ar
set_option linter.unusedVariables false

structure Rec where
  kind : Int
  port : Int
  frm : Nat
  to : Nat
  cls : Int
  v : Arr
def recV (r : Rec) (S' : Nat) (X : Option Addr) (n c : Nat) (X' : Option Addr) (n' c' : Nat) : List Value :=
  [.int .i64 r.kind, .int .i64 r.port, .int .u64 (r.frm : Int), .int .u64 (r.to : Int), .int .i64 r.cls, .int .u64 (S' : Int), .slice X n c, .slice X' n' c']
def IsRec (w : World) (B : Nat) (r : Rec) (vs : List Value) : Prop :=
  ∃ S' X n c X' n' c', vs = recV r S' X n c X' n' c' ∧ IsArr w B r.v [.int .u64 (S' : Int), .slice X n c, .slice X' n' c'] ∧ r.frm < 18446744073709551616 ∧ r.to < 18446744073709551616 ∧ Wf64 [r.kind, r.port, r.cls]
def IsRecs (w : World) (B : Nat) : List Rec → List Value → Prop
  | [], vs => vs = []
  | c :: r, vs => ∃ u t, vs = u ++ t ∧ IsRec w B c u ∧ IsRecs w B r t
theorem IsRec.len {w : World} {B : Nat} {r : Rec} {vs : List Value} (h : IsRec w B r vs) : vs.length = 8 := by
  obtain ⟨_, _, _, _, _, _, _, rfl, _⟩ := h; rfl
theorem IsRec.keep {w w' : World} {B B' : Nat} (hk : ∀ p : Addr, p.block < B → w'.cell? p = w.cell? p) (hB : B ≤ B') {r : Rec} {vs : List Value} (h : IsRec w B r vs) : IsRec w' B' r vs := by
  obtain ⟨S', X, n, c, X', n', c', h1, h2, h3⟩ := h
  exact ⟨S', X, n, c, X', n', c', h1, IsArr.keep hk hB _ _ h2, h3⟩
theorem IsRecs.keep {w w' : World} {B B' : Nat} (hk : ∀ p : Addr, p.block < B → w'.cell? p = w.cell? p) (hB : B ≤ B') : ∀ {rs : List Rec} {vs : List Value}, IsRecs w B rs vs → IsRecs w' B' rs vs
  | [], _, h => h
  | _ :: _, _, ⟨u, t, h1, h2, h3⟩ => ⟨u, t, h1, h2.keep hk hB, h3.keep hk hB⟩
theorem IsRecs.below {w w' : World} {B : Nat} {rs : List Rec} {vs : List Value} (h : IsRecs w B rs vs) (hb : Below B w w') : IsRecs w' B rs vs := h.keep (fun _ hp => hb.cell hp) (Nat.le_refl _)
theorem IsRecs.len {w : World} {B : Nat} : ∀ {rs : List Rec} {vs : List Value} (h : IsRecs w B rs vs), vs.length = 8 * rs.length
  | [], _, h => by rw [IsRecs] at h; subst h; rfl
  | c :: r, vs, h => by
    rw [IsRecs] at h
    obtain ⟨u, t, rfl, h2, h3⟩ := h
    rw [List.length_append, h2.len, h3.len, List.length_cons]; omega
theorem IsRecs.at_ {w : World} {B : Nat} : ∀ {rs : List Rec} {vs : List Value} (h : IsRecs w B rs vs) {k : Nat} (hk : k < rs.length), ∃ u, IsRec w B rs[k] u ∧ u = (vs.drop (8 * k)).take 8
  | [], _, _, _, hk => by simp at hk
  | c :: r, vs, h, 0, _ => by
    rw [IsRecs] at h
    obtain ⟨u, t, rfl, h2, h3⟩ := h
    exact ⟨u, h2, by simp [h2.len]⟩
  | c :: r, vs, h, k + 1, hk => by
    rw [IsRecs] at h
    obtain ⟨u, t, rfl, h2, h3⟩ := h
    obtain ⟨u', h4, h5⟩ := h3.at_ (k := k) (by simpa using hk)
    refine ⟨u', h4, h5.trans ?_⟩
    rw [show 8 * (k + 1) = u.length + 8 * k by rw [h2.len]; omega, List.drop_append, List.drop_eq_nil_of_le (Nat.le_add_right _ _), Nat.add_sub_cancel_left, List.nil_append]
theorem IsRecs.snoc {w : World} {B : Nat} : ∀ {cs : List Rec} {vs : List Value} (h : IsRecs w B cs vs) {c : Rec} {u : List Value} (hc : IsRec w B c u), IsRecs w B (cs ++ [c]) (vs ++ u)
  | [], vs, h, c, u, hc => by
    rw [IsRecs] at h; subst h
    exact ⟨u, [], by simp, hc, rfl⟩
  | x :: r, vs, h, c, u, hc => by
    rw [IsRecs] at h
    obtain ⟨u', t, rfl, h2, h3⟩ := h
    exact ⟨u', t ++ u, by simp, h2, h3.snoc hc⟩
/-- The k-th record, read. -/
theorem rec_at {w wr : World} {B : Nat} {A : Option Addr} {rs : List Rec} {us : List Value} {k : Nat} (hcs : IsRecs w B rs us) (hl : Lies w B A us) (hk : ∀ p : Addr, p.block < B → wr.cell? p = w.cell? p) (hlt : k < rs.length) :
    ∃ (b off : Nat) (r : Rec) (S' : Nat) (X : Option Addr) (n c : Nat) (X' : Option Addr) (n' c' : Nat), A = some ⟨b, off, none⟩ ∧ b < B ∧ Hid (rs[k] = r) ∧ r.frm < 18446744073709551616 ∧ r.to < 18446744073709551616 ∧ Hid (IsArr w B r.v [.int .u64 (S' : Int), .slice X n c, .slice X' n' c'] ∧ Wf64 [r.kind, r.port, r.cls]) ∧
      wr.cell? ⟨b, off + k * 8, none⟩ = some (.int .i64 r.kind) ∧ wr.cell? ⟨b, off + k * 8 + 1, none⟩ = some (.int .i64 r.port) ∧ wr.cell? ⟨b, off + k * 8 + 2, none⟩ = some (.int .u64 (r.frm : Int)) ∧ wr.cell? ⟨b, off + k * 8 + 3, none⟩ = some (.int .u64 (r.to : Int)) ∧ wr.cell? ⟨b, off + k * 8 + 4, none⟩ = some (.int .i64 r.cls) ∧
      wr.cell? ⟨b, off + k * 8 + 5, none⟩ = some (.int .u64 (S' : Int)) ∧ wr.cell? ⟨b, off + k * 8 + 6, none⟩ = some (.slice X n c) ∧ wr.cell? ⟨b, off + k * 8 + 7, none⟩ = some (.slice X' n' c') := by
  obtain ⟨u, hu, hue⟩ := hcs.at_ hlt
  obtain ⟨b, off, rfl, hb, hcell⟩ := hl.elem hue (by intro h; have := hu.len; rw [h] at this; cases this)
  obtain ⟨S', X, n, c, X', n', c', rfl, h1, h2, h3, h4⟩ := hu
  have hc : ∀ j v, (recV rs[k] S' X n c X' n' c')[j]? = some v → wr.cell? ⟨b, off + k * 8 + j, none⟩ = some v := fun j v hv => (hk ⟨b, off + k * 8 + j, none⟩ hb).trans (hcell j v hv)
  exact ⟨b, off, rs[k], S', X, n, c, X', n', c', rfl, hb, Lib.hid rfl, h2, h3, Lib.hid ⟨h1, h4⟩, hc 0 _ rfl, hc 1 _ rfl, hc 2 _ rfl, hc 3 _ rfl, hc 4 _ rfl, hc 5 _ rfl, hc 6 _ rfl, hc 7 _ rfl⟩

/-- The plain part of a configuration: what it lets, and what it brings. -/
structure Cfg where
  clear : Nat → Nat
  label : Nat → Nat
  ins : Nat → List Arr
  draws : Nat → List Int
  auth : Nat
  fuel : Int
  quota : Int
  depth : Int
/-- Thirty-six cells hold a configuration. -/
structure IsCfg (w : World) (B : Nat) (c : Cfg) (C : Array Value) : Prop where
  size : C.size = 36
  clear : ∀ k, k < 8 → C[k]? = some (.int .u64 (c.clear k : Int)) ∧ c.clear k < 18446744073709551616
  ins : ∀ k, k < 8 → ∃ A cp us, C[8 + k]? = some (.slice A (c.ins k).length cp) ∧ Fits (c.ins k).length cp 56 ∧ Lies w B A us ∧ IsArrs w B (c.ins k) us
  label : ∀ k, k < 8 → C[16 + k]? = some (.int .u64 (c.label k : Int)) ∧ c.label k < 18446744073709551616
  draws : ∀ k, k < 8 → ∃ A cp, C[24 + k]? = some (.slice A (c.draws k).length cp) ∧ Fits (c.draws k).length cp 8 ∧ Wf64 (c.draws k) ∧ Lies w B A (I64 (c.draws k))
  auth : C[32]? = some (.int .u64 (c.auth : Int))
  authLt : c.auth < 18446744073709551616
  fuel : C[33]? = some (.int .i64 c.fuel)
  quota : C[34]? = some (.int .i64 c.quota)
  depth : C[35]? = some (.int .i64 c.depth)
  wf : Wf64 [c.fuel, c.quota, c.depth]
theorem IsCfg.keep {w w' : World} {B B' : Nat} {c : Cfg} {C : Array Value} (h : IsCfg w B c C) (hk : ∀ p : Addr, p.block < B → w'.cell? p = w.cell? p) (hB : B ≤ B') : IsCfg w' B' c C :=
  { h with
    ins := fun k hk8 => by
      obtain ⟨A, cp, us, h1, h2, h3, h4⟩ := h.ins k hk8
      exact ⟨A, cp, us, h1, h2, (h3.keep hk).more hB, IsArrs.keep hk hB _ _ h4⟩
    draws := fun k hk8 => by
      obtain ⟨A, cp, h1, h2, h3, h4⟩ := h.draws k hk8
      exact ⟨A, cp, h1, h2, h3, (h4.keep hk).more hB⟩ }
theorem IsCfg.below {w w' : World} {B : Nat} {c : Cfg} {C : Array Value} (h : IsCfg w B c C) (hb : Below B w w') : IsCfg w' B c C := h.keep (fun _ hp => hb.cell hp) (Nat.le_refl _)
theorem IsCfg.one {w : World} {B : Nat} {c : Cfg} {C : Array Value} (h : IsCfg w B c C) : C.all (·.oneCell') = true := by
  rw [Array.all_eq_true]
  intro i hi
  have hs := h.size
  have hx : C[i]? = some C[i] := by simp [hi]
  have key : ∀ v, C[i]? = some v → v.oneCell' = true → C[i].oneCell' = true := fun v hv ho => by
    rw [hx] at hv; injection hv with hv; rw [hv]; exact ho
  by_cases h1 : i < 8
  · exact key _ (h.clear i h1).1 rfl
  · by_cases h2 : i < 16
    · obtain ⟨A, cp, us, e, _⟩ := h.ins (i - 8) (by omega)
      rw [show 8 + (i - 8) = i by omega] at e
      exact key _ e rfl
    · by_cases h3 : i < 24
      · have e := (h.label (i - 16) (by omega)).1
        rw [show 16 + (i - 16) = i by omega] at e
        exact key _ e rfl
      · by_cases h4 : i < 32
        · obtain ⟨A, cp, e, _⟩ := h.draws (i - 24) (by omega)
          rw [show 24 + (i - 24) = i by omega] at e
          exact key _ e rfl
        · rcases (show i = 32 ∨ i = 33 ∨ i = 34 ∨ i = 35 by omega) with rfl | rfl | rfl | rfl
          · exact key _ h.auth rfl
          · exact key _ h.fuel rfl
          · exact key _ h.quota rfl
          · exact key _ h.depth rfl
end Go.Proofs.YtmiccalfamepdaaGreatDoor

/-
  Configurations: arrays of labels compared; the cells of one channel of two; which may be, and which are the same, plain.
-/
namespace Go.Proofs.YtmiccalfamepdaaGreatDoor
open Go.RowKit Ar
set_option maxHeartbeats 4000000
set_option maxRecDepth 100000
set_option linter.unusedVariables false

def U64 (l : List Nat) : List Value := l.map fun n : Nat => Value.int .u64 (n : Int)
theorem all_range_nat : ∀ (xs ys : List Nat), xs.length = ys.length → ((List.range xs.length).all fun i => xs.getD i 0 == ys.getD i 0) = (xs == ys)
  | [], [], _ => rfl
  | x :: xs, y :: ys, h => by
    have ih := all_range_nat xs ys (by simpa using h)
    rw [List.length_cons, List.range_succ_eq_map, List.all_cons, List.all_map]
    simp only [List.getD_cons_zero, Function.comp_def, List.getD_cons_succ, ih]
    simp [List.cons_beq_cons]
  | [], _ :: _, h => by simp at h
  | _ :: _, [], h => by simp at h
theorem run_equalIn_u64 {P : Program} (w : World) (d : Nat) (t e : TypeId) (n : Nat) (ht : P.underlying t = some (.array n e)) (he : P.underlying e = some (.int .u64)) (hsz : ∀ w, (Go.sizeOf e).run P w = .ok 1 w)
    (xs ys : List Nat) (hx : xs.length = n) (hy : ys.length = n) :
    (Op.equalIn (d + 2) t (.agg (U64 xs).toArray) (.agg (U64 ys).toArray)).run P w = .ok (xs == ys) w := by
  rw [← all_range_nat xs ys (hx.trans hy.symm), hx, List.range_eq_range', Op.equalIn]
  simp only [Sem.run_bind, run_underlying ht, Result.andThen_ok, hsz, Std.Legacy.Range.forIn_eq_forIn_range', Std.Legacy.Range.size, Nat.sub_zero, Nat.add_sub_cancel, Nat.div_one]
  have hl : ∀ i ∈ List.range' 0 n 1, i < n := fun i hi => by simpa using (List.mem_range'_1.1 hi).2
  generalize List.range' 0 n 1 = l at hl ⊢
  induction l with
  | nil => simp
  | cons i l ih =>
    have hi : i < n := hl i (by simp)
    have px : (part e (U64 xs).toArray (i * 1)).run P w = .ok (.int .u64 ((xs.getD i 0 : Nat) : Int)) w := by
      simp [U64, part, isAgg, run_underlying he, List.getD, List.getElem?_eq_getElem (show i < xs.length by omega)]
    have py : (part e (U64 ys).toArray (i * 1)).run P w = .ok (.int .u64 ((ys.getD i 0 : Nat) : Int)) w := by
      simp [U64, part, isAgg, run_underlying he, List.getD, List.getElem?_eq_getElem (show i < ys.length by omega)]
    have pe : (Op.equalIn (d + 1) e (.int .u64 ((xs.getD i 0 : Nat) : Int)) (.int .u64 ((ys.getD i 0 : Nat) : Int))).run P w = .ok (xs.getD i 0 == ys.getD i 0) w := by
      rw [run_equalIn_int w d e .u64 .u64 _ _ he]
      congr 1
      rw [Bool.eq_iff_iff]
      simp
      omega
    simp only [List.forIn_cons, Sem.run_bind, px, py, pe, Result.andThen_ok, List.all_cons]
    cases hb : (xs.getD i 0 == ys.getD i 0)
    · simp
    · simp only [Bool.not_true, Bool.false_eq_true, if_false, Sem.run_pure, Result.andThen_ok, Bool.true_and]
      exact ih fun j hj => hl j (by simp [hj])

def l8 (f : Nat → Nat) : List Nat := [f 0, f 1, f 2, f 3, f 4, f 5, f 6, f 7]
/-! ### Which may be -/
def arrOk (a : Arr) : Bool := rightA 8 a && (tot a == 0)
def boundB (c : Cfg) : Bool := decide (0 ≤ c.fuel) && decide (c.fuel ≤ 100000) && (decide (0 ≤ c.quota) && decide (c.quota ≤ 65536)) && (decide (0 ≤ c.depth) && decide (c.depth ≤ 64))
def rowR (c : Cfg) (k : Nat) : Bool := decide ((c.ins k).length ≤ 200) && decide ((c.draws k).length ≤ 200) && (c.ins k).all arrOk
def rowsR (c : Cfg) (k : Nat) : Bool := ((List.range 8).drop k).all (rowR c)
theorem rowsR_step {c : Cfg} {k : Nat} (h : k < 8) : rowsR c k = (rowR c k && rowsR c (k + 1)) := by
  unfold rowsR
  rw [List.drop_eq_getElem_cons (by simpa using h), List.all_cons]
  simp
theorem rowsR_end {c : Cfg} : rowsR c 8 = true := by unfold rowsR; rw [List.drop_eq_nil_of_le (by simp)]; rfl
def rightC (c : Cfg) : Bool := boundB c && rowsR c 0
theorem oks_drop {l : List Arr} {k : Nat} (h : k < l.length) : (l.drop k).all arrOk = ((rightA 8 l[k] && (tot l[k] == 0)) && (l.drop (k + 1)).all arrOk) := by
  rw [List.drop_eq_getElem_cons h, List.all_cons]; rfl
theorem oks_end {l : List Arr} {k : Nat} (h : l.length ≤ k) : (l.drop k).all arrOk = true := by
  rw [List.drop_eq_nil_of_le h]; rfl
/-! ### Which are the same -/
def sameRow (c d : Cfg) (k : Nat) : Bool := sameArrs true (c.ins k) (d.ins k) && (c.draws k == d.draws k)
def sameRows (c d : Cfg) (k : Nat) : Bool := ((List.range 8).drop k).all (sameRow c d)
theorem sameRows_step {c d : Cfg} {k : Nat} (h : k < 8) : sameRows c d k = (sameRow c d k && sameRows c d (k + 1)) := by
  unfold sameRows
  rw [List.drop_eq_getElem_cons (by simpa using h), List.all_cons]
  simp
theorem sameRows_end {c d : Cfg} : sameRows c d 8 = true := by unfold sameRows; rw [List.drop_eq_nil_of_le (by simp)]; rfl
def sameC (c d : Cfg) : Bool := (l8 c.clear == l8 d.clear) && (l8 c.label == l8 d.label) && (c.auth == d.auth) && ((c.fuel == d.fuel) && (c.quota == d.quota) && (c.depth == d.depth)) && sameRows c d 0
def sameChan (c d : Cfg) (k : Nat) : Bool := (c.clear k == d.clear k) && (c.label k == d.label k) && (c.draws k == d.draws k) && sameArrs true (c.ins k) (d.ins k)
def sameChans (c d : Cfg) (k : Nat) : Bool := ((List.range 8).drop k).all (sameChan c d)
theorem sameChans_step {c d : Cfg} {k : Nat} (h : k < 8) : sameChans c d k = (sameChan c d k && sameChans c d (k + 1)) := by
  unfold sameChans
  rw [List.drop_eq_getElem_cons (by simpa using h), List.all_cons]
  simp
theorem sameChans_end {c d : Cfg} : sameChans c d 8 = true := by unfold sameChans; rw [List.drop_eq_nil_of_le (by simp)]; rfl
theorem sameC_chans (c d : Cfg) : sameC c d = ((c.auth == d.auth) && (c.fuel == d.fuel) && (c.quota == d.quota) && (c.depth == d.depth) && sameChans c d 0) := by
  have e : ∀ p : Nat → Bool, ((List.range 8).drop 0).all p = (p 0 && (p 1 && (p 2 && (p 3 && (p 4 && (p 5 && (p 6 && (p 7)))))))) := fun p => by simp [List.range, List.range.loop]
  rw [Bool.eq_iff_iff]
  unfold sameC sameChans sameRows
  rw [e, e]
  simp only [sameRow, sameChan, Bool.and_eq_true, beq_iff_eq, l8, List.cons.injEq, and_true]
  constructor
  · rintro ⟨⟨⟨⟨⟨c0, c1, c2, c3, c4, c5, c6, c7⟩, l0, l1, l2, l3, l4, l5, l6, l7⟩, ha⟩, ⟨hf, hq⟩, hd⟩, r0, r1, r2, r3, r4, r5, r6, r7⟩
    exact ⟨⟨⟨⟨ha, hf⟩, hq⟩, hd⟩, ⟨⟨⟨c0, l0⟩, r0.2⟩, r0.1⟩, ⟨⟨⟨c1, l1⟩, r1.2⟩, r1.1⟩, ⟨⟨⟨c2, l2⟩, r2.2⟩, r2.1⟩, ⟨⟨⟨c3, l3⟩, r3.2⟩, r3.1⟩, ⟨⟨⟨c4, l4⟩, r4.2⟩, r4.1⟩, ⟨⟨⟨c5, l5⟩, r5.2⟩, r5.1⟩, ⟨⟨⟨c6, l6⟩, r6.2⟩, r6.1⟩, ⟨⟨⟨c7, l7⟩, r7.2⟩, r7.1⟩⟩
  · rintro ⟨⟨⟨⟨ha, hf⟩, hq⟩, hd⟩, h⟩
    obtain ⟨⟨⟨⟨c0, l0⟩, a0⟩, b0⟩, ⟨⟨⟨c1, l1⟩, a1⟩, b1⟩, ⟨⟨⟨c2, l2⟩, a2⟩, b2⟩, ⟨⟨⟨c3, l3⟩, a3⟩, b3⟩, ⟨⟨⟨c4, l4⟩, a4⟩, b4⟩, ⟨⟨⟨c5, l5⟩, a5⟩, b5⟩, ⟨⟨⟨c6, l6⟩, a6⟩, b6⟩, ⟨⟨⟨c7, l7⟩, a7⟩, b7⟩⟩ := h
    exact ⟨⟨⟨⟨⟨c0, c1, c2, c3, c4, c5, c6, c7⟩, l0, l1, l2, l3, l4, l5, l6, l7⟩, ha⟩, ⟨hf, hq⟩, hd⟩, ⟨b0, a0⟩, ⟨b1, a1⟩, ⟨b2, a2⟩, ⟨b3, a3⟩, ⟨b4, a4⟩, ⟨b5, a5⟩, ⟨b6, a6⟩, ⟨b7, a7⟩⟩
theorem sameC_refl (c : Cfg) : sameC c c = true := by
  have e : ∀ k, sameChan c c k = true := fun k => by simp [sameChan, sameArrs_refl]
  have e2 : sameChans c c 0 = true := by unfold sameChans; rw [List.all_eq_true]; exact fun k _ => e k
  rw [sameC_chans, e2]; simp

/-- The cells of one channel of two configurations, in whatever later world. -/
structure ChanAt (w W : World) (B g : Nat) (cf df : Cfg) (k : Nat) (A1 A2 A3 A4 : Option Addr) (c1 c2 c3 c4 : Nat) (us1 us2 : List Value) : Prop where
  c : ∀ wx, Below W.heap.size W wx → wx.cell? ⟨g, k, none⟩ = some (.int .u64 (cf.clear k : Int)) ∧ wx.cell? ⟨g + 1, k, none⟩ = some (.int .u64 (df.clear k : Int))
  l : ∀ wx, Below W.heap.size W wx → wx.cell? ⟨g, 16 + k, none⟩ = some (.int .u64 (cf.label k : Int)) ∧ wx.cell? ⟨g + 1, 16 + k, none⟩ = some (.int .u64 (df.label k : Int))
  i : ∀ wx, Below W.heap.size W wx → wx.cell? ⟨g, 8 + k, none⟩ = some (.slice A1 (cf.ins k).length c1) ∧ wx.cell? ⟨g + 1, 8 + k, none⟩ = some (.slice A2 (df.ins k).length c2)
  d : ∀ wx, Below W.heap.size W wx → wx.cell? ⟨g, 24 + k, none⟩ = some (.slice A3 (cf.draws k).length c3) ∧ wx.cell? ⟨g + 1, 24 + k, none⟩ = some (.slice A4 (df.draws k).length c4)
  li : Lies w B A1 us1 ∧ IsArrs w B (cf.ins k) us1
  li' : Lies w B A2 us2 ∧ IsArrs w B (df.ins k) us2
  ld : Lies w B A3 (I64 (cf.draws k))
  ld' : Lies w B A4 (I64 (df.draws k))
  b1 : cf.clear k < 18446744073709551616 ∧ df.clear k < 18446744073709551616
  b2 : cf.label k < 18446744073709551616 ∧ df.label k < 18446744073709551616
  f1 : (cf.ins k).length ≤ 35184372088832 ∧ (df.ins k).length ≤ 35184372088832
  f2 : (cf.draws k).length ≤ 35184372088832 ∧ (df.draws k).length ≤ 35184372088832
theorem chan_at {w W : World} {B g : Nat} {cf df : Cfg} {C D : Array Value} (hC : IsCfg w B cf C) (hD : IsCfg w B df D) (h0 : W.heap[g]? = some (.cells C 29 (0, 0))) (h1 : W.heap[g + 1]? = some (.cells D 29 (0, 0))) (hg : g + 1 < W.heap.size) {k : Nat} (hk : k < 8) :
    ∃ A1 A2 A3 A4 c1 c2 c3 c4 us1 us2, ChanAt w W B g cf df k A1 A2 A3 A4 c1 c2 c3 c4 us1 us2 := by
  obtain ⟨A1, c1, us1, i1, i2, i3, i4⟩ := hC.ins k hk
  obtain ⟨A2, c2, us2, j1, j2, j3, j4⟩ := hD.ins k hk
  obtain ⟨A3, c3, d1, d2, d3, d4⟩ := hC.draws k hk
  obtain ⟨A4, c4, e1, e2, e3, e4⟩ := hD.draws k hk
  have q0 : ∀ wx, Below W.heap.size W wx → ∀ i v, C[i]? = some v → wx.cell? ⟨g, i, none⟩ = some v := fun wx hx i v hv => (cell_of_row wx g i _ _ _ ((hx.block g (by omega)).trans h0)).trans hv
  have q1 : ∀ wx, Below W.heap.size W wx → ∀ i v, D[i]? = some v → wx.cell? ⟨g + 1, i, none⟩ = some v := fun wx hx i v hv => (cell_of_row wx (g + 1) i _ _ _ ((hx.block (g + 1) (by omega)).trans h1)).trans hv
  have b1 := i2.1
  have b2 := i2.2.1
  have b3 := j2.1
  have b4 := j2.2.1
  have b5 := d2.1
  have b6 := d2.2.1
  have b7 := e2.1
  have b8 := e2.2.1
  exact ⟨A1, A2, A3, A4, c1, c2, c3, c4, us1, us2, { c := fun wx hx => ⟨q0 wx hx _ _ (hC.clear k hk).1, q1 wx hx _ _ (hD.clear k hk).1⟩, l := fun wx hx => ⟨q0 wx hx _ _ (hC.label k hk).1, q1 wx hx _ _ (hD.label k hk).1⟩, i := fun wx hx => ⟨q0 wx hx _ _ i1, q1 wx hx _ _ j1⟩, d := fun wx hx => ⟨q0 wx hx _ _ d1, q1 wx hx _ _ e1⟩, li := ⟨i3, i4⟩, li' := ⟨j3, j4⟩, ld := d4, ld' := e4, b1 := ⟨(hC.clear k hk).2, (hD.clear k hk).2⟩, b2 := ⟨(hC.label k hk).2, (hD.label k hk).2⟩, f1 := by omega, f2 := by omega }⟩
end Go.Proofs.YtmiccalfamepdaaGreatDoor

/-
  The reference's Total of an array; its Few: some answer.
-/
namespace Go.Proofs.YtmiccalfamepdaaGreatDoor
open Go.RowKit Ar
set_option maxHeartbeats 1000000
set_option linter.unusedVariables false

theorem refTotal_any (n : Nat) : ∀ (a : Arr) (vs : List Value) (w : World) (B : Nat), SizeOf.sizeOf a < n → IsArr w B a vs → B ≤ w.heap.size →
    Calls Tryz.prog 21 #[.agg vs.toArray] w fun e w' => e = .returned (.int .u64 (tot a : Int)) ∧ Below w.heap.size w w' := by
  induction n with
  | zero => intro a vs w B h; omega
  | succ n ih =>
    intro a vs w B hn h hB
    obtain ⟨S, shape, cells⟩ := a
    rw [IsArr] at h
    obtain ⟨A, c, A', c', us, rfl, hS, hf, hf', hw, hl, hl', hcs⟩ := h
    have HC := Lib.hid hcs
    have HL := Lib.hid hl'
    have hfl := (hf'.le (by omega))
    have hn' : SizeOf.sizeOf (Arr.mk S shape cells) ≤ n := by omega
    have HN := Lib.hid hn'
    clear hcs hl' hl hf hw hn hn'
    obtain ⟨W, hW⟩ : ∃ W, W = w.alloc (.cells #[.int .u64 (S : Int), .slice A shape.length c, .slice A' cells.length c'] 43) := ⟨_, rfl⟩
    have hWs : W.heap.size = w.heap.size + 1 := by rw [hW]; simp
    have hWb : Below w.heap.size w W := by rw [hW]; exact (Below.refl _ _).alloc (Nat.le_refl _) _
    have hWc : W.cell? ⟨w.heap.size, 2, none⟩ = some (.slice A' cells.length c') := by rw [hW]; simp [go_sem]
    have HW := Lib.hid hW
    have HWs := Lib.hid hWs
    have HWc := Lib.hid hWc
    have hWl : w.heap.size < W.heap.size := by omega
    go_enter Tryz.func21, Tryz.ntmps21
    clear hW hWs hWc
    go_wp2_with fail
    rw [← HW.out]
    go_loopw [3, 4] (fun x i wr => ∃ k m : Nat, k ≤ cells.length ∧ i = .int .i64 k ∧ x = .int .u64 (m : Int) ∧ m < 18446744073709551616 ∧ Hid (totCels m (cells.drop k) = tot (.mk S shape cells)) ∧ Below W.heap.size W wr) (fun _ i _ => cells.length - (intOf i).toNat)
    case atStart => exact ⟨0, S, Nat.zero_le _, rfl, rfl, hS, Lib.hid (by simp [tot]), Below.refl _ _⟩
    case round =>
      obtain ⟨k, m, hk, rfl, rfl, hm, HT, hbel⟩ := hrel
      have hbox : wr.cell? ⟨w.heap.size, 2, none⟩ = some (.slice A' cells.length c') := (hbel.cell (p := ⟨w.heap.size, 2, none⟩) hWl).trans HWc.out
      by_cases hlt : k < cells.length
      · obtain ⟨b, off, L, kind, neg, top, bot, ch, ins, A1, c1, A2, c2, A3, c3, us3, rfl, hb, hL, HX, t1, t2, t3, t4, t5, t6, g0, g1, g2, g3, g4, g5, g6⟩ := cel_at HC.out HL.out (wr := wr) (fun p hp => (hbel.cell (by omega)).trans (hWb.cell (by omega))) hlt
        have HG6 := Lib.hid ((hbel.cell (p := ⟨b, off + k * 7 + 6, none⟩) (show b < W.heap.size by omega)).symm.trans g6)
        clear g1 g2 g3 g4 g5 g6
        go_wp2_with fail
        refine (refJoin_any _ _ _ hm hL).mono ?_
        rintro e w' ⟨rfl, rfl⟩
        go_wp2_with fail
        have hjl : Lab.join m L < 18446744073709551616 := Lab.join_lt hm hL
        clear g0 hbox
        obtain ⟨wo, hwo⟩ : ∃ wo : World, wo = wr := ⟨_, rfl⟩
        rw [← hwo] at hbel ⊢
        clear hwo
        go_loopw [3, 5] (fun x j wr => ∃ i m' : Nat, i ≤ ins.length ∧ j = .int .i64 i ∧ x = .int .u64 (m' : Int) ∧ m' < 18446744073709551616 ∧ Hid (totArrs m' (ins.drop i) = totCel m cells[k]) ∧ Below W.heap.size W wr) (fun _ j _ => ins.length - (intOf j).toNat)
        case atStart => exact ⟨0, _, Nat.zero_le _, rfl, rfl, hjl, Lib.hid (by rw [HX.out.eq]; rfl), hbel⟩
        case round =>
          clear hbel
          obtain ⟨i, m', hi, rfl, rfl, hm', HT', hbel⟩ := hrel
          have hsz := hbel.size
          have hbox : wr.cell? ⟨w.heap.size, 2, none⟩ = some (.slice (some ⟨b, off, none⟩) cells.length c') := (hbel.cell (p := ⟨w.heap.size, 2, none⟩) hWl).trans HWc.out
          have g6 : wr.cell? ⟨b, off + k * 7 + 6, none⟩ = some (.slice A3 ins.length c3) := (hbel.cell (p := ⟨b, off + k * 7 + 6, none⟩) (show b < W.heap.size by omega)).trans HG6.out
          by_cases hlt' : i < ins.length
          · obtain ⟨b', off', S', X, xn, xc, X', xn', xc', rfl, hb', HA, e0, e1, e2⟩ := arr_at HX.out.arrs HX.out.li (wr := wr) (fun p hp => (hbel.cell (by omega)).trans (hWb.cell (by omega))) hlt'
            have IH := Lib.hid (ih ins[i] [.int .u64 (S' : Int), .slice X xn xc, .slice X' xn' xc'] wr B (by have := size_ins (S := S) (shape := shape) hlt HX.out.eq hlt'; have := HN.out; omega) (HA.out.below ((hWb.mono (by omega)).trans (hbel.mono (by omega)))) (by omega))
            go_wp2_with fail
            refine IH.out.mono ?_
            rintro e w2 ⟨rfl, hb2⟩
            have hb3 := hbel.trans (hb2.mono (by omega))
            have htl : tot ins[i] < 18446744073709551616 := tot_lt _ _ HA.out
            go_wp2_with fail
            refine (refJoin_any _ _ _ hm' htl).mono ?_
            rintro e w' ⟨rfl, rfl⟩
            go_wp2_with fail
            go_roundw
            case rel => exact ⟨i + 1, Lab.join m' (tot ins[i]), by omega, by go_num, rfl, Lab.join_lt hm' htl, Lib.hid (by rw [← HT'.out, totArrs_drop hlt']; rfl), hb3⟩
            case measure => simp [intOf]; omega
          · have hie : i = ins.length := by omega
            have HT2 : Hid (m' = totCel m cells[k]) := Lib.hid (by have := HT'.out; rw [hie, List.drop_length, totArrs] at this; exact this)
            clear HT' hie
            go_wp2_with fail
            go_roundw
            case rel => exact ⟨k + 1, m', by omega, by go_num, rfl, hm', Lib.hid (by rw [HT2.out, ← totCels_drop hlt]; exact HT.out), hbel⟩
            case measure => simp [intOf]; omega
      · have hke : k = cells.length := by omega
        have HT2 : Hid (m = tot (.mk S shape cells)) := Lib.hid (by have := HT.out; rw [hke, List.drop_length, totCels] at this; exact this)
        clear HT hke
        go_wp2_with fail
        go_ret
        exact ⟨ret_int (by rw [HT2.out]), hWb.trans (hbel.mono (by omega))⟩
end Go.Proofs.YtmiccalfamepdaaGreatDoor

/-
  Arrays compared: array.equal for all arrays. (Printed by wip/bin/gen_same4.py.)
-/
namespace Go.Proofs.YtmiccalfamepdaaGreatDoor
open Go.RowKit Ar
set_option maxHeartbeats 2000000
set_option maxRecDepth 100000
set_option linter.unusedVariables false

theorem sameCel_mk (lab : Bool) (L L' : Nat) (k k' : Int) (n n' : Bool) (t t' b b' : List Nat) (c c' : Int) (ins ins' : List Arr) :
    sameCel lab (.mk L k n t b c ins) (.mk L' k' n' t' b' c' ins') = ((!lab || L == L') && (k == k') && (c == c') && sameNum n n' t t' b b' && sameArrs lab ins ins') := by
  rw [sameCel]; rfl

theorem c44_any {n : Nat} (ih : EqOK n) (x y : Cel) (vs vs' : List Value) (lab : Bool) (g : Nat) (w : World) (B : Nat) (hx : SizeOf.sizeOf x < n) (h : IsCel w B x vs) (h' : IsCel w B y vs') (hB : B ≤ w.heap.size) (hg : g < w.heap.size) (hc : w.cell? ⟨g, 0, none⟩ = some (.bool lab)) :
    Calls Tryz.prog 80 #[.agg vs.toArray, .agg vs'.toArray, .pointer (some ⟨g, 0, none⟩)] w fun e w' => e = .returned (.bool (sameCel lab x y)) ∧ Below w.heap.size w w' := by
  obtain ⟨L, kind, neg, top, bot, ch, ins⟩ := x
  obtain ⟨L', kind', neg', top', bot', ch', ins'⟩ := y
  rw [IsCel] at h h'
  obtain ⟨A1, c1, A2, c2, A3, c3, us, rfl, hL, hf1, hf2, hf3, hw1, hw2, hw3, hl1, hl2, hl3, hins, _⟩ := h
  obtain ⟨A1', c1', A2', c2', A3', c3', us', rfl, hL', hf1', hf2', hf3', hw1', hw2', hw3', hl1', hl2', hl3', hins', _⟩ := h'
  have HR := Lib.hid (sameCel_mk lab L L' kind kind' neg neg' top top' bot bot' ch ch' ins ins')
  have hb0 : ∀ o1 o2, Below w.heap.size w ((w.alloc o1).alloc o2) := fun o1 o2 => ((Below.refl _ _).alloc (Nat.le_refl _) _).alloc (by simp) _
  have HB := Lib.hid hb0
  have E1 := Lib.hid (fun (wx : World) (hx : Below w.heap.size w wx) => ratioSame_any neg neg' top top' bot bot' A1 A2 A1' A2' c1 c2 c1' c2' wx B (hl1.below (hx.mono hB)) (hl1'.below (hx.mono hB)) (hl2.below (hx.mono hB)) (hl2'.below (hx.mono hB)) (Nat.le_trans hB hx.size) (by have h1 := hf1.1; have h2 := hf1.2; omega) (by have h1 := hf1'.1; have h2 := hf1'.2; omega) (by have h1 := hf2.1; have h2 := hf2.2; omega) (by have h1 := hf2'.1; have h2 := hf2'.2; omega))
  have hsz : ∀ a ∈ ins, SizeOf.sizeOf a < n := fun a ha => by
    have h1 := List.sizeOf_lt_of_mem ha
    simp only [Cel.mk.sizeOf_spec] at hx
    omega
  have E2 := Lib.hid (fun (wx : World) (hx : Below w.heap.size w wx) => eqFuncArr_any ins ins' us us' A3 A3' c3 c3' lab g wx B (hins.below (hx.mono hB)) (hins'.below (hx.mono hB)) (hl3.below (hx.mono hB)) (hl3'.below (hx.mono hB)) (Nat.le_trans hB hx.size) (by have h1 := hf3.1; have h2 := hf3.2; omega) (by have h1 := hf3'.1; have h2 := hf3'.2; omega)
    (fun k hk hk' u u' wy hy hu hu' => c46_any ih ins[k] ins'[k] u u' lab g wy B (hsz _ (List.getElem_mem hk)) hu hu' (Nat.le_trans hB (Nat.le_trans hx.size hy.size)) (by have h1 := hx.size; have h2 := hy.size; omega) ((hy.cell (p := ⟨g, 0, none⟩) (show g < wx.heap.size by have h1 := hx.size; omega)).trans ((hx.cell (p := ⟨g, 0, none⟩) hg).trans hc))))
  clear hins hins' hl1 hl1' hl2 hl2' hl3 hl3' hf1 hf1' hf2 hf2' hf3 hf3' hw1 hw1' hw2 hw2' hw3 hw3' hb0 hx hsz ih
  generalize sameCel lab (.mk L kind neg top bot ch ins) (.mk L' kind' neg' top' bot' ch' ins') = R at *
  generalize sameNum neg neg' top top' bot bot' = P at *
  generalize sameArrs lab ins ins' = Q at *
  generalize top.length = l1 at *
  generalize bot.length = l2 at *
  generalize ins.length = l3 at *
  generalize top'.length = l1' at *
  generalize bot'.length = l2' at *
  generalize ins'.length = l3' at *
  cases lab
  · by_cases hk : kind = kind'
    · subst hk
      have q1 : (kind != kind) = false := by simp
      by_cases hch : ch = ch'
      · subst hch
        have q2 : (ch != ch) = false := by simp
        go_enter Tryz.func80, Tryz.ntmps80
        go_wp2_with fail
        refine (E1.out _ (HB.out _ _)).mono ?_
        rintro e w2 ⟨rfl, hb2⟩
        have hb3 := (HB.out _ _).trans (hb2.mono (HB.out _ _).size)
        have hc1 : (∀ o, w2.cell? ⟨w.heap.size, o, none⟩ = _) := fun o => hb2.cell (p := ⟨w.heap.size, o, none⟩) (by show w.heap.size < _; simp; omega)
        have hc2 : (∀ o, w2.cell? ⟨w.heap.size + 1, o, none⟩ = _) := fun o => hb2.cell (p := ⟨w.heap.size + 1, o, none⟩) (by show w.heap.size + 1 < _; simp)
        cases P
        · go_wp2_with fail
          go_ret
          exact ⟨ret_bool (by rw [HR.out]; simp), hb3⟩
        · go_wp2_with fail
          refine (E2.out _ hb3).mono ?_
          rintro e w3 ⟨rfl, hb4⟩
          clear hc1 hc2
          go_wp2_with fail
          go_ret
          exact ⟨ret_bool (by rw [HR.out]; simp), hb3.trans (hb4.mono hb3.size)⟩
      · have q2 : (ch != ch') = true := by simpa using hch
        go_enter Tryz.func80, Tryz.ntmps80
        go_wp2_with fail
        go_ret
        exact ⟨ret_bool (by rw [HR.out]; simp [hch]), HB.out _ _⟩
    · have q1 : (kind != kind') = true := by simpa using hk
      go_enter Tryz.func80, Tryz.ntmps80
      go_wp2_with fail
      go_ret
      exact ⟨ret_bool (by rw [HR.out]; simp [hk]), HB.out _ _⟩
  · by_cases hLL : L = L'
    · subst hLL
      have q0 : ((L : Int) != (L : Int)) = false := by simp
      by_cases hk : kind = kind'
      · subst hk
        have q1 : (kind != kind) = false := by simp
        by_cases hch : ch = ch'
        · subst hch
          have q2 : (ch != ch) = false := by simp
          go_enter Tryz.func80, Tryz.ntmps80
          go_wp2_with fail
          refine (E1.out _ (HB.out _ _)).mono ?_
          rintro e w2 ⟨rfl, hb2⟩
          have hb3 := (HB.out _ _).trans (hb2.mono (HB.out _ _).size)
          have hc1 : (∀ o, w2.cell? ⟨w.heap.size, o, none⟩ = _) := fun o => hb2.cell (p := ⟨w.heap.size, o, none⟩) (by show w.heap.size < _; simp; omega)
          have hc2 : (∀ o, w2.cell? ⟨w.heap.size + 1, o, none⟩ = _) := fun o => hb2.cell (p := ⟨w.heap.size + 1, o, none⟩) (by show w.heap.size + 1 < _; simp)
          cases P
          · go_wp2_with fail
            go_ret
            exact ⟨ret_bool (by rw [HR.out]; simp), hb3⟩
          · go_wp2_with fail
            refine (E2.out _ hb3).mono ?_
            rintro e w3 ⟨rfl, hb4⟩
            clear hc1 hc2
            go_wp2_with fail
            go_ret
            exact ⟨ret_bool (by rw [HR.out]; simp), hb3.trans (hb4.mono hb3.size)⟩
        · have q2 : (ch != ch') = true := by simpa using hch
          go_enter Tryz.func80, Tryz.ntmps80
          go_wp2_with fail
          go_ret
          exact ⟨ret_bool (by rw [HR.out]; simp [hch]), HB.out _ _⟩
      · have q1 : (kind != kind') = true := by simpa using hk
        go_enter Tryz.func80, Tryz.ntmps80
        go_wp2_with fail
        go_ret
        exact ⟨ret_bool (by rw [HR.out]; simp [hk]), HB.out _ _⟩
    · have q0 : ((L : Int) != (L' : Int)) = true := by simp; omega
      have q0' : (L != L') = true := by simpa using hLL
      go_enter Tryz.func80, Tryz.ntmps80
      go_wp2_with fail
      go_ret
      exact ⟨ret_bool (by rw [HR.out]; simp [hLL]), HB.out _ _⟩

theorem same_mk (lab : Bool) (S S' : Nat) (sh sh' : List Int) (cs cs' : List Cel) :
    same lab (.mk S sh cs) (.mk S' sh' cs') = ((!lab || S == S') && (sh == sh') && sameCels lab cs cs') := by rw [same]

theorem equal_step {n : Nat} (ih : EqOK n) : EqOK (n + 1) := by
  intro a b vs vs' lab w B hx h h' hB
  obtain ⟨S, sh, cs⟩ := a
  obtain ⟨S', sh', cs'⟩ := b
  rw [IsArr] at h h'
  obtain ⟨A1, c1, A2, c2, us, rfl, hS, hf1, hf2, hw1, hl1, hl2, hcs⟩ := h
  obtain ⟨A1', c1', A2', c2', us', rfl, hS', hf1', hf2', hw1', hl1', hl2', hcs'⟩ := h'
  have HR := Lib.hid (same_mk lab S S' sh sh' cs cs')
  have hb0 : ∀ o1 o2 o3, Below w.heap.size w (((w.alloc o1).alloc o2).alloc o3) := fun o1 o2 o3 => (((Below.refl _ _).alloc (Nat.le_refl _) _).alloc (by simp) _).alloc (by simp; omega) _
  have HB := Lib.hid hb0
  have E1 := Lib.hid (fun (wx : World) (hx : Below w.heap.size w wx) => eqInts_any sh sh' A1 A1' c1 c1' wx B (hl1.below (hx.mono hB)) (hl1'.below (hx.mono hB)) (by have h1 := hf1.1; have h2 := hf1.2; omega) (by have h1 := hf1'.1; have h2 := hf1'.2; omega))
  have hsz : ∀ a ∈ cs, SizeOf.sizeOf a < n := fun a ha => by
    have h1 := List.sizeOf_lt_of_mem ha
    simp only [Arr.mk.sizeOf_spec] at hx
    omega
  have E2 := Lib.hid (fun (wx : World) (hx : Below w.heap.size w wx) (hg : w.heap.size + 1 + 1 < wx.heap.size) (hc : wx.cell? ⟨w.heap.size + 1 + 1, 0, none⟩ = some (.bool lab)) => eqFuncCel_any cs cs' us us' A2 A2' c2 c2' lab (w.heap.size + 1 + 1) wx B (hcs.below (hx.mono hB)) (hcs'.below (hx.mono hB)) (hl2.below (hx.mono hB)) (hl2'.below (hx.mono hB)) (Nat.le_trans hB hx.size) (by have h1 := hf2.1; have h2 := hf2.2; omega) (by have h1 := hf2'.1; have h2 := hf2'.2; omega)
    (fun k hk hk' u u' wy hy hu hu' => c44_any ih cs[k] cs'[k] u u' lab (w.heap.size + 1 + 1) wy B (hsz _ (List.getElem_mem hk)) hu hu' (Nat.le_trans hB (Nat.le_trans hx.size hy.size)) (Nat.lt_of_lt_of_le hg hy.size) ((hy.cell (p := ⟨w.heap.size + 1 + 1, 0, none⟩) hg).trans hc)))
  clear hcs hcs' hl1 hl1' hl2 hl2' hf1 hf1' hf2 hf2' hw1 hw1' hb0 hx hsz ih
  generalize same lab (.mk S sh cs) (.mk S' sh' cs') = R at *
  generalize (sh == sh') = P at *
  generalize sameCels lab cs cs' = Q at *
  generalize sh.length = l1 at *
  generalize cs.length = l2 at *
  generalize sh'.length = l1' at *
  generalize cs'.length = l2' at *
  cases lab
  · go_enter Tryz.func52, Tryz.ntmps52
    go_wp2_with fail
    refine (E1.out _ (HB.out _ _ _)).mono ?_
    rintro e w2 ⟨rfl, hb2⟩
    have hb3 := (HB.out _ _ _).trans (hb2.mono (HB.out _ _ _).size)
    have hc1 : (∀ o, w2.cell? ⟨w.heap.size, o, none⟩ = _) := fun o => hb2.cell (p := ⟨w.heap.size, o, none⟩) (by show w.heap.size < _; simp; omega)
    have hc2 : (∀ o, w2.cell? ⟨w.heap.size + 1, o, none⟩ = _) := fun o => hb2.cell (p := ⟨w.heap.size + 1, o, none⟩) (by show w.heap.size + 1 < _; simp)
    have hc3 := hb2.cell (p := ⟨w.heap.size + 1 + 1, 0, none⟩) (by show w.heap.size + 1 + 1 < _; simp)
    have hg3 : w.heap.size + 1 + 1 < w2.heap.size := by have := hb2.size; simp at this; omega
    cases P
    · go_wp2_with fail
      go_ret
      exact ⟨ret_bool (by rw [HR.out]; simp), hb3⟩
    · have hc4 : w2.cell? ⟨w.heap.size + 1 + 1, 0, none⟩ = some (.bool false) := by rw [hc3]; go_simp
      clear hc3
      go_wp2_with fail
      refine (E2.out _ hb3 hg3 hc4).mono ?_
      rintro e w3 ⟨rfl, hb4⟩
      clear hc1 hc2 hc4
      go_wp2_with fail
      go_ret
      exact ⟨ret_bool (by rw [HR.out]; simp), hb3.trans (hb4.mono hb3.size)⟩
  · by_cases hSS : S = S'
    · subst hSS
      have q0 : ((S : Int) != (S : Int)) = false := by simp
      go_enter Tryz.func52, Tryz.ntmps52
      go_wp2_with fail
      refine (E1.out _ (HB.out _ _ _)).mono ?_
      rintro e w2 ⟨rfl, hb2⟩
      have hb3 := (HB.out _ _ _).trans (hb2.mono (HB.out _ _ _).size)
      have hc1 : (∀ o, w2.cell? ⟨w.heap.size, o, none⟩ = _) := fun o => hb2.cell (p := ⟨w.heap.size, o, none⟩) (by show w.heap.size < _; simp; omega)
      have hc2 : (∀ o, w2.cell? ⟨w.heap.size + 1, o, none⟩ = _) := fun o => hb2.cell (p := ⟨w.heap.size + 1, o, none⟩) (by show w.heap.size + 1 < _; simp)
      have hc3 := hb2.cell (p := ⟨w.heap.size + 1 + 1, 0, none⟩) (by show w.heap.size + 1 + 1 < _; simp)
      have hg3 : w.heap.size + 1 + 1 < w2.heap.size := by have := hb2.size; simp at this; omega
      cases P
      · go_wp2_with fail
        go_ret
        exact ⟨ret_bool (by rw [HR.out]; simp), hb3⟩
      · have hc4 : w2.cell? ⟨w.heap.size + 1 + 1, 0, none⟩ = some (.bool true) := by rw [hc3]; go_simp
        clear hc3
        go_wp2_with fail
        refine (E2.out _ hb3 hg3 hc4).mono ?_
        rintro e w3 ⟨rfl, hb4⟩
        clear hc1 hc2 hc4
        go_wp2_with fail
        go_ret
        exact ⟨ret_bool (by rw [HR.out]; simp), hb3.trans (hb4.mono hb3.size)⟩
    · have q0 : ((S : Int) != (S' : Int)) = true := by simp; omega
      have q0' : (S != S') = true := by simpa using hSS
      go_enter Tryz.func52, Tryz.ntmps52
      go_wp2_with fail
      go_ret
      exact ⟨ret_bool (by rw [HR.out]; simp [hSS]), HB.out _ _ _⟩

theorem equal_any : ∀ n, EqOK n
  | 0 => fun a b vs vs' lab w B h => by omega
  | n + 1 => equal_step (equal_any n)

theorem arrSame_any (a b : Arr) (vs vs' : List Value) (w : World) (B : Nat) (h : IsArr w B a vs) (h' : IsArr w B b vs') (hB : B ≤ w.heap.size) :
    Calls Tryz.prog 23 #[.agg vs.toArray, .agg vs'.toArray] w fun e w' => e = .returned (.bool (same true a b)) ∧ Below w.heap.size w w' := by
  obtain ⟨S, X, xn, xc, Y, yn, yc, rfl⟩ := h.form
  obtain ⟨S', X', xn', xc', Y', yn', yc', rfl⟩ := h'.form
  have hb0 : ∀ o1 o2, Below w.heap.size w ((w.alloc o1).alloc o2) := fun o1 o2 => ((Below.refl _ _).alloc (Nat.le_refl _) _).alloc (by simp) _
  have IH := Lib.hid (fun o1 o2 => equal_any (SizeOf.sizeOf a + 1) a b _ _ true ((w.alloc o1).alloc o2) B (by omega) (h.below ((hb0 _ _).mono hB)) (h'.below ((hb0 _ _).mono hB)) (by simp; omega))
  have HB := Lib.hid hb0
  clear hb0 h h'
  generalize same true a b = R at *
  go_enter Tryz.func23, Tryz.ntmps23
  go_wp2_with fail
  refine (IH.out _ _).mono ?_
  rintro e w2 ⟨rfl, hb2⟩
  go_wp2_with fail
  go_ret
  exact ⟨rfl, (HB.out _ _).trans (hb2.mono (by simp; omega))⟩

end Go.Proofs.YtmiccalfamepdaaGreatDoor

/-
  Arrays compared by the reference: scrimref08.Same, SameCell. (Printed by wip/bin/gen_same5.py.)
-/
namespace Go.Proofs.YtmiccalfamepdaaGreatDoor
open Go.RowKit Ar
set_option maxHeartbeats 4000000
set_option maxRecDepth 100000
set_option linter.unusedVariables false

/-- What scrimref08.Same answers, for arrays of less than a size. -/
def RefOK (n : Nat) : Prop := ∀ (a b : Arr) (vs vs' : List Value) (w : World) (B : Nat), SizeOf.sizeOf a < n → IsArr w B a vs → IsArr w B b vs' → B ≤ w.heap.size →
    Calls Tryz.prog 26 #[.agg vs.toArray, .agg vs'.toArray] w fun e w' => e = .returned (.bool (same true a b)) ∧ Below w.heap.size w w'

theorem refCell_any {n : Nat} (ih : RefOK n) (x y : Cel) (vs vs' : List Value) (w : World) (B : Nat) (hx : SizeOf.sizeOf x < n) (h : IsCel w B x vs) (h' : IsCel w B y vs') (hB : B ≤ w.heap.size) :
    Calls Tryz.prog 53 #[.agg vs.toArray, .agg vs'.toArray] w fun e w' => e = .returned (.bool (sameCel true x y)) ∧ Below w.heap.size w w' := by
  obtain ⟨L, kind, neg, top, bot, ch, ins⟩ := x
  obtain ⟨L', kind', neg', top', bot', ch', ins'⟩ := y
  rw [IsCel] at h h'
  obtain ⟨A1, c1, A2, c2, A3, c3, us, rfl, hL, hf1, hf2, hf3, hw1, hw2, hw3, hl1, hl2, hl3, hins, _⟩ := h
  obtain ⟨A1', c1', A2', c2', A3', c3', us', rfl, hL', hf1', hf2', hf3', hw1', hw2', hw3', hl1', hl2', hl3', hins', _⟩ := h'
  have HR := Lib.hid (sameCel_mk true L L' kind kind' neg neg' top top' bot bot' ch ch' ins ins')
  obtain ⟨W, hW⟩ : ∃ W, W = (w.alloc (.cells #[.int .u64 (L : Int), .int .i64 kind, .bool neg, .slice A1 top.length c1, .slice A2 bot.length c2, .int .i64 ch, .slice A3 ins.length c3] 85)).alloc (.cells #[.int .u64 (L' : Int), .int .i64 kind', .bool neg', .slice A1' top'.length c1', .slice A2' bot'.length c2', .int .i64 ch', .slice A3' ins'.length c3'] 85) := ⟨_, rfl⟩
  have hWs : W.heap.size = w.heap.size + 1 + 1 := by rw [hW]; simp
  have hWb : Below w.heap.size w W := by rw [hW]; exact ((Below.refl _ _).alloc (Nat.le_refl _) _).alloc (by simp) _
  have HQ : Hid (W.cell? ⟨w.heap.size, 6, none⟩ = some (.slice A3 ins.length c3) ∧ W.cell? ⟨w.heap.size + 1, 6, none⟩ = some (.slice A3' ins'.length c3')) := Lib.hid (by rw [hW]; exact ⟨by go_simp, by go_simp⟩)
  have HW := Lib.hid hW
  have E1 := Lib.hid (refRatioSame_any neg neg' top top' bot bot' A1 A2 A1' A2' c1 c2 c1' c2' W B (hl1.below (hWb.mono hB)) (hl1'.below (hWb.mono hB)) (hl2.below (hWb.mono hB)) (hl2'.below (hWb.mono hB)) (by omega) (by have h1 := hf1.1; have h2 := hf1.2; omega) (by have h1 := hf1'.1; have h2 := hf1'.2; omega) (by have h1 := hf2.1; have h2 := hf2.2; omega) (by have h1 := hf2'.1; have h2 := hf2'.2; omega))
  have hsz0 : ∀ a ∈ ins, SizeOf.sizeOf a < n := fun a ha => by
    have h1 := List.sizeOf_lt_of_mem ha
    simp only [Cel.mk.sizeOf_spec] at hx
    omega
  have HS := Lib.hid hins
  have HS' := Lib.hid hins'
  have HL := Lib.hid hl3
  have HL' := Lib.hid hl3'
  have m1 : ins.length ≤ 35184372088832 := by have h1 := hf3.1; have h2 := hf3.2; omega
  have m2 : ins'.length ≤ 35184372088832 := by have h1 := hf3'.1; have h2 := hf3'.2; omega
  clear hins hins' hl1 hl1' hl2 hl2' hl3 hl3' hf1 hf1' hf2 hf2' hf3 hf3' hw1 hw1' hw2 hw2' hw3 hw3' hx hW
  generalize sameCel true (.mk L kind neg top bot ch ins) (.mk L' kind' neg' top' bot' ch' ins') = R at *
  generalize sameNum neg neg' top top' bot bot' = P at *
  generalize top.length = l1 at *
  generalize bot.length = l2 at *
  generalize top'.length = l1' at *
  generalize bot'.length = l2' at *
  by_cases hLL : L = L'
  · subst hLL
    have q0 : ((L : Int) != (L : Int)) = false := by simp
    by_cases hk : kind = kind'
    · subst hk
      have q1 : (kind != kind) = false := by simp
      by_cases hch : ch = ch'
      · subst hch
        have q2 : (ch != ch) = false := by simp
        go_enter Tryz.func53, Tryz.ntmps53
        go_wp2_with fail
        rw [← HW.out]
        refine E1.out.mono ?_
        rintro e w2 ⟨rfl, hb2⟩
        have hb3 := hWb.trans (hb2.mono (by omega))
        have r1 : w2.cell? ⟨w.heap.size, 6, none⟩ = some (.slice A3 ins.length c3) := (hb2.cell (p := ⟨w.heap.size, 6, none⟩) (show w.heap.size < _ by omega)).trans HQ.out.1
        have r2 : w2.cell? ⟨w.heap.size + 1, 6, none⟩ = some (.slice A3' ins'.length c3') := (hb2.cell (p := ⟨w.heap.size + 1, 6, none⟩) (show w.heap.size + 1 < _ by omega)).trans HQ.out.2
        cases P
        · go_wp2_with fail
          go_ret
          exact ⟨ret_bool (by rw [HR.out]; simp), hb3⟩
        · by_cases hne : ins.length = ins'.length
          · have hd : ((ins.length : Int) != (ins'.length : Int)) = false := by simp; omega
            have hln : ins.length ≤ ins'.length := by omega
            have HN := Lib.hid hne
            clear hne
            go_wp2_with fail
            clear r1 r2 hd hb3
            have hWl : w.heap.size + 1 < W.heap.size := by omega
            go_loopw [5] (fun i wr => ∃ k : Nat, k ≤ ins.length ∧ i = .int .i64 k ∧ Hid (sameArrs true (ins.drop k) (ins'.drop k) = sameArrs true ins ins') ∧ Below W.heap.size W wr) (fun i _ => ins.length - (intOf i).toNat)
            case atStart => exact ⟨0, Nat.zero_le _, rfl, Lib.hid rfl, hb2⟩
            case round =>
              clear hb2
              obtain ⟨k, hk, rfl, HT, hbel⟩ := hrel
              have hsz := hbel.size
              have hb0 := hWb.trans (hbel.mono (by omega))
              have r1 : wr.cell? ⟨w.heap.size, 6, none⟩ = some (.slice A3 ins.length c3) := (hbel.cell (p := ⟨w.heap.size, 6, none⟩) (show w.heap.size < _ by omega)).trans HQ.out.1
              have r2 : wr.cell? ⟨w.heap.size + 1, 6, none⟩ = some (.slice A3' ins'.length c3') := (hbel.cell (p := ⟨w.heap.size + 1, 6, none⟩) hWl).trans HQ.out.2
              by_cases hlt : k < ins.length
              · have hlt' : k < ins'.length := by omega
                obtain ⟨b, off, S, X, xn, xc, Y, yn, yc, rfl, hb, HA, g0, g1, g2⟩ := arr_at HS.out HL.out (wr := wr) (fun p hp => hb0.cell (by omega)) hlt
                obtain ⟨b', off', S', X', xn', xc', Y', yn', yc', rfl, hb', HA', g0', g1', g2'⟩ := arr_at HS'.out HL'.out (wr := wr) (fun p hp => hb0.cell (by omega)) hlt'
                have hbw : b < wr.heap.size := by omega
                have hbw' : b' < wr.heap.size := by omega
                have HK : ∀ (x : Later wr) (o : Nat), x.w.cell? ⟨b, o, none⟩ = wr.cell? ⟨b, o, none⟩ := fun x o => x.b.cell (p := ⟨b, o, none⟩) hbw
                have HK' : ∀ (x : Later wr) (o : Nat), x.w.cell? ⟨b', o, none⟩ = wr.cell? ⟨b', o, none⟩ := fun x o => x.b.cell (p := ⟨b', o, none⟩) hbw'
                have HK1 : ∀ (x : Later wr) (o : Nat), x.w.cell? ⟨w.heap.size, o, none⟩ = wr.cell? ⟨w.heap.size, o, none⟩ := fun x o => x.b.cell (p := ⟨w.heap.size, o, none⟩) (show w.heap.size < _ by omega)
                have HK2 : ∀ (x : Later wr) (o : Nat), x.w.cell? ⟨w.heap.size + 1, o, none⟩ = wr.cell? ⟨w.heap.size + 1, o, none⟩ := fun x o => x.b.cell (p := ⟨w.heap.size + 1, o, none⟩) (show w.heap.size + 1 < _ by omega)
                have hST : Hid (sameArrs true (ins.drop k) (ins'.drop k) = (same true ins[k] ins'[k] && sameArrs true (ins.drop (k + 1)) (ins'.drop (k + 1)))) := Lib.hid (sameArrs_drop true hlt hlt')
                have FC := Lib.hid (fun (x : Later wr) => ih ins[k] ins'[k] _ _ x.w B (hsz0 _ (List.getElem_mem hlt)) (HA.out.below ((hb0.trans (x.b.mono (by omega))).mono hB)) (HA'.out.below ((hb0.trans (x.b.mono (by omega))).mono hB)) (by have := x.b.size; omega))
                generalize same true ins[k] ins'[k] = RR at FC hST
                go_wp2_with fail
                refine wp_region_later wr (by kernel_rfl) (by kernel_rfl) (Below.drew_self wr) ?_
                repeat (go_big_quiet_step ((go_at_call 26; exact Later.call (FC.out _))))
                refine wpQuiet_nil ?_
                rintro _ ⟨⟨w4, hb4⟩, rfl⟩
                clear HK HK' HK1 HK2 g0 g1 g2 g0' g1' g2' r1 r2
                have hb3 := hbel.trans (hb4.mono (by omega))
                cases RR
                · have HZ : Hid (sameArrs true ins ins' = false) := Lib.hid (by rw [← HT.out, hST.out]; rfl)
                  (first | rw [Bool.not_false] | rw [Bool.not_true])
                  go_wp2_with fail
                  go_ret
                  exact ⟨ret_bool (by rw [HR.out, HZ.out]; simp), hWb.trans (hb3.mono (by omega))⟩
                · have HZ : Hid (sameArrs true (ins.drop (k + 1)) (ins'.drop (k + 1)) = sameArrs true ins ins') := Lib.hid (by rw [← HT.out, hST.out]; rfl)
                  (first | rw [Bool.not_false] | rw [Bool.not_true])
                  go_wp2_with fail
                  go_roundw
                  case rel => exact ⟨k + 1, by omega, by go_num, HZ, hb3⟩
                  case measure => simp [intOf]; omega
              · have hke : k = ins.length := by omega
                have HZ2 : Hid (sameArrs true ins ins' = true) := Lib.hid (by rw [← HT.out, hke, List.drop_length, HN.out, List.drop_length, sameArrs])
                clear hke HT
                go_wp2_with fail
                go_ret
                exact ⟨ret_bool (by rw [HR.out, HZ2.out]; simp), hb0⟩
          · have hd : ((ins.length : Int) != (ins'.length : Int)) = true := by simp; omega
            have HZ2 : Hid (sameArrs true ins ins' = false) := Lib.hid (by
              cases e : sameArrs true ins ins'
              · rfl
              · exact absurd (sameArrs_len true e) hne)
            clear hne
            go_wp2_with fail
            go_ret
            exact ⟨ret_bool (by rw [HR.out, HZ2.out]; simp), hb3⟩
      · have q2 : (ch != ch') = true := by simpa using hch
        go_enter Tryz.func53, Tryz.ntmps53
        go_wp2_with fail
        go_ret
        exact ⟨ret_bool (by rw [HR.out]; simp [hch]), by rw [HW.out] at hWb; exact hWb⟩
    · have q1 : (kind != kind') = true := by simpa using hk
      go_enter Tryz.func53, Tryz.ntmps53
      go_wp2_with fail
      go_ret
      exact ⟨ret_bool (by rw [HR.out]; simp [hk]), by rw [HW.out] at hWb; exact hWb⟩
  · have q0 : ((L : Int) != (L' : Int)) = true := by simp; omega
    have q0' : (L != L') = true := by simpa using hLL
    go_enter Tryz.func53, Tryz.ntmps53
    go_wp2_with fail
    go_ret
    exact ⟨ret_bool (by rw [HR.out]; simp [hLL]), by rw [HW.out] at hWb; exact hWb⟩

theorem refSame_step {n : Nat} (ih : RefOK n) : RefOK (n + 1) := by
  intro a b vs vs' w B hx h h' hB
  obtain ⟨S, sh, cs⟩ := a
  obtain ⟨S', sh', cs'⟩ := b
  rw [IsArr] at h h'
  obtain ⟨A1, c1, A2, c2, us, rfl, hS, hf1, hf2, hw1, hl1, hl2, hcs⟩ := h
  obtain ⟨A1', c1', A2', c2', us', rfl, hS', hf1', hf2', hw1', hl1', hl2', hcs'⟩ := h'
  have HR := Lib.hid (same_mk true S S' sh sh' cs cs')
  obtain ⟨W, hW⟩ : ∃ W, W = (w.alloc (.cells #[.int .u64 (S : Int), .slice A1 sh.length c1, .slice A2 cs.length c2] 43)).alloc (.cells #[.int .u64 (S' : Int), .slice A1' sh'.length c1', .slice A2' cs'.length c2'] 43) := ⟨_, rfl⟩
  have hWs : W.heap.size = w.heap.size + 1 + 1 := by rw [hW]; simp
  have hWb : Below w.heap.size w W := by rw [hW]; exact ((Below.refl _ _).alloc (Nat.le_refl _) _).alloc (by simp) _
  have HQ : Hid (W.cell? ⟨w.heap.size, 2, none⟩ = some (.slice A2 cs.length c2) ∧ W.cell? ⟨w.heap.size + 1, 2, none⟩ = some (.slice A2' cs'.length c2')) := Lib.hid (by rw [hW]; exact ⟨by go_simp, by go_simp⟩)
  have HW := Lib.hid hW
  have E1 := Lib.hid (refInts_any sh sh' A1 A1' c1 c1' W B (hl1.below (hWb.mono hB)) (hl1'.below (hWb.mono hB)) (by have h1 := hf1.1; have h2 := hf1.2; omega) (by have h1 := hf1'.1; have h2 := hf1'.2; omega))
  have hsz0 : ∀ a ∈ cs, SizeOf.sizeOf a < n := fun a ha => by
    have h1 := List.sizeOf_lt_of_mem ha
    simp only [Arr.mk.sizeOf_spec] at hx
    omega
  have HS := Lib.hid hcs
  have HS' := Lib.hid hcs'
  have HL := Lib.hid hl2
  have HL' := Lib.hid hl2'
  have m1 : cs.length ≤ 35184372088832 := by have h1 := hf2.1; have h2 := hf2.2; omega
  have m2 : cs'.length ≤ 35184372088832 := by have h1 := hf2'.1; have h2 := hf2'.2; omega
  clear hcs hcs' hl1 hl1' hl2 hl2' hf1 hf1' hf2 hf2' hw1 hw1' hx hW
  generalize same true (.mk S sh cs) (.mk S' sh' cs') = R at *
  generalize (sh == sh') = P at *
  generalize sh.length = l1 at *
  generalize sh'.length = l1' at *
  by_cases hSS : S = S'
  · subst hSS
    have q0 : ((S : Int) != (S : Int)) = false := by simp
    go_enter Tryz.func26, Tryz.ntmps26
    go_wp2_with fail
    rw [← HW.out]
    refine E1.out.mono ?_
    rintro e w2 ⟨rfl, hb2⟩
    have hb3 := hWb.trans (hb2.mono (by omega))
    have r1 : w2.cell? ⟨w.heap.size, 2, none⟩ = some (.slice A2 cs.length c2) := (hb2.cell (p := ⟨w.heap.size, 2, none⟩) (show w.heap.size < _ by omega)).trans HQ.out.1
    have r2 : w2.cell? ⟨w.heap.size + 1, 2, none⟩ = some (.slice A2' cs'.length c2') := (hb2.cell (p := ⟨w.heap.size + 1, 2, none⟩) (show w.heap.size + 1 < _ by omega)).trans HQ.out.2
    cases P
    · go_wp2_with fail
      go_ret
      exact ⟨ret_bool (by rw [HR.out]; simp), hb3⟩
    · by_cases hne : cs.length = cs'.length
      · have hd : ((cs.length : Int) != (cs'.length : Int)) = false := by simp; omega
        have hln : cs.length ≤ cs'.length := by omega
        have HN := Lib.hid hne
        clear hne
        go_wp2_with fail
        clear r1 r2 hd hb3
        have hWl : w.heap.size + 1 < W.heap.size := by omega
        go_loopw [5] (fun i wr => ∃ k : Nat, k ≤ cs.length ∧ i = .int .i64 k ∧ Hid (sameCels true (cs.drop k) (cs'.drop k) = sameCels true cs cs') ∧ Below W.heap.size W wr) (fun i _ => cs.length - (intOf i).toNat)
        case atStart => exact ⟨0, Nat.zero_le _, rfl, Lib.hid rfl, hb2⟩
        case round =>
          clear hb2
          obtain ⟨k, hk, rfl, HT, hbel⟩ := hrel
          have hsz := hbel.size
          have hb0 := hWb.trans (hbel.mono (by omega))
          have r1 : wr.cell? ⟨w.heap.size, 2, none⟩ = some (.slice A2 cs.length c2) := (hbel.cell (p := ⟨w.heap.size, 2, none⟩) (show w.heap.size < _ by omega)).trans HQ.out.1
          have r2 : wr.cell? ⟨w.heap.size + 1, 2, none⟩ = some (.slice A2' cs'.length c2') := (hbel.cell (p := ⟨w.heap.size + 1, 2, none⟩) hWl).trans HQ.out.2
          by_cases hlt : k < cs.length
          · have hlt' : k < cs'.length := by omega
            obtain ⟨b, off, L, kind, neg, top, bot, ch, ins, A3, c3, A4, c4, A5, c5, us3, rfl, hb, hL, HX, t1, t2, t3, t4, t5, t6, g0, g1, g2, g3, g4, g5, g6⟩ := cel_at HS.out HL.out (wr := wr) (fun p hp => hb0.cell (by omega)) hlt
            obtain ⟨b', off', L', kind', neg', top', bot', ch', ins', A3', c3', A4', c4', A5', c5', us3', rfl, hb', hL', HX', t1', t2', t3', t4', t5', t6', g0', g1', g2', g3', g4', g5', g6'⟩ := cel_at HS'.out HL'.out (wr := wr) (fun p hp => hb0.cell (by omega)) hlt'
            have hbw : b < wr.heap.size := by omega
            have hbw' : b' < wr.heap.size := by omega
            have HK : ∀ (x : Later wr) (o : Nat), x.w.cell? ⟨b, o, none⟩ = wr.cell? ⟨b, o, none⟩ := fun x o => x.b.cell (p := ⟨b, o, none⟩) hbw
            have HK' : ∀ (x : Later wr) (o : Nat), x.w.cell? ⟨b', o, none⟩ = wr.cell? ⟨b', o, none⟩ := fun x o => x.b.cell (p := ⟨b', o, none⟩) hbw'
            have HK1 : ∀ (x : Later wr) (o : Nat), x.w.cell? ⟨w.heap.size, o, none⟩ = wr.cell? ⟨w.heap.size, o, none⟩ := fun x o => x.b.cell (p := ⟨w.heap.size, o, none⟩) (show w.heap.size < _ by omega)
            have HK2 : ∀ (x : Later wr) (o : Nat), x.w.cell? ⟨w.heap.size + 1, o, none⟩ = wr.cell? ⟨w.heap.size + 1, o, none⟩ := fun x o => x.b.cell (p := ⟨w.heap.size + 1, o, none⟩) (show w.heap.size + 1 < _ by omega)
            have hST : Hid (sameCels true (cs.drop k) (cs'.drop k) = (sameCel true cs[k] cs'[k] && sameCels true (cs.drop (k + 1)) (cs'.drop (k + 1)))) := Lib.hid (sameCels_drop true hlt hlt')
            have FC := Lib.hid (fun (x : Later wr) => refCell_any ih cs[k] cs'[k] _ _ x.w B (hsz0 _ (List.getElem_mem hlt)) ((HX.out.is hL).below ((hb0.trans (x.b.mono (by omega))).mono hB)) ((HX'.out.is hL').below ((hb0.trans (x.b.mono (by omega))).mono hB)) (by have := x.b.size; omega))
            generalize sameCel true cs[k] cs'[k] = RR at FC hST
            go_wp2_with fail
            refine wp_region_later wr (by kernel_rfl) (by kernel_rfl) (Below.drew_self wr) ?_
            repeat (go_big_quiet_step ((go_at_call 53; exact Later.call (FC.out _))))
            refine wpQuiet_nil ?_
            rintro _ ⟨⟨w4, hb4⟩, rfl⟩
            clear HK HK' HK1 HK2 g0 g1 g2 g3 g4 g5 g6 g0' g1' g2' g3' g4' g5' g6' r1 r2
            have hb3 := hbel.trans (hb4.mono (by omega))
            cases RR
            · have HZ : Hid (sameCels true cs cs' = false) := Lib.hid (by rw [← HT.out, hST.out]; rfl)
              (first | rw [Bool.not_false] | rw [Bool.not_true])
              go_wp2_with fail
              go_ret
              exact ⟨ret_bool (by rw [HR.out, HZ.out]; simp), hWb.trans (hb3.mono (by omega))⟩
            · have HZ : Hid (sameCels true (cs.drop (k + 1)) (cs'.drop (k + 1)) = sameCels true cs cs') := Lib.hid (by rw [← HT.out, hST.out]; rfl)
              (first | rw [Bool.not_false] | rw [Bool.not_true])
              go_wp2_with fail
              go_roundw
              case rel => exact ⟨k + 1, by omega, by go_num, HZ, hb3⟩
              case measure => simp [intOf]; omega
          · have hke : k = cs.length := by omega
            have HZ2 : Hid (sameCels true cs cs' = true) := Lib.hid (by rw [← HT.out, hke, List.drop_length, HN.out, List.drop_length, sameCels])
            clear hke HT
            go_wp2_with fail
            go_ret
            exact ⟨ret_bool (by rw [HR.out, HZ2.out]; simp), hb0⟩
      · have hd : ((cs.length : Int) != (cs'.length : Int)) = true := by simp; omega
        have HZ2 : Hid (sameCels true cs cs' = false) := Lib.hid (by
          cases e : sameCels true cs cs'
          · rfl
          · exact absurd (sameCels_len true e) hne)
        clear hne
        go_wp2_with fail
        go_ret
        exact ⟨ret_bool (by rw [HR.out, HZ2.out]; simp), hb3⟩
  · have q0 : ((S : Int) != (S' : Int)) = true := by simp; omega
    have q0' : (S != S') = true := by simpa using hSS
    go_enter Tryz.func26, Tryz.ntmps26
    go_wp2_with fail
    go_ret
    exact ⟨ret_bool (by rw [HR.out]; simp [hSS]), by rw [HW.out] at hWb; exact hWb⟩

theorem refSame_any : ∀ n, RefOK n
  | 0 => fun a b vs vs' w B h => by omega
  | n + 1 => refSame_step (refSame_any n)
end Go.Proofs.YtmiccalfamepdaaGreatDoor

/-
  A text behind its length, plain: what is told, and what is taken off again.
-/
namespace Go.Proofs.YtmiccalfamepdaaGreatDoor
namespace Nw
open Ten Dg

/-- A text behind its length. -/
def net (s : List UInt8) : List UInt8 := Lib.decDigits s.length ++ (58 :: (s ++ [44]))
/-- Behind the number: the text of so many bytes, and the rest. -/
def after (s : List UInt8) (k n : Nat) : Option (List UInt8 × List UInt8) :=
  if k = 0 then none else if s.length ≤ k then none else if s.getD k 0 ≠ 58 then none else if s.length - (k + 1) ≤ n then none else if s.getD (k + 1 + n) 0 ≠ 44 then none else
    some ((s.drop (k + 1)).take n, s.drop (k + 1 + n + 1))
/-- The first text, and the rest. -/
def cut (s : List UInt8) : Option (List UInt8 × List UInt8) := if Lib.decDigits (numOf (s.take (lead s))) = s.take (lead s) then after s (lead s) (numOf (s.take (lead s))) else none

theorem after_T {s : List UInt8} {k n : Nat} (h0 : k ≠ 0) (hk : k < s.length) (h : s.getD k 0 = 58) : after s k n = if (s.drop (k + 1)).length ≤ n then none else if (s.drop (k + 1)).getD n 0 ≠ 44 then none else some ((s.drop (k + 1)).take n, (s.drop (k + 1)).drop (n + 1)) := by
  unfold after
  rw [if_neg h0, if_neg (by omega), if_neg (fun e => e h), List.length_drop, List.drop_drop]
  have e : (s.drop (k + 1)).getD n 0 = s.getD (k + 1 + n) 0 := by rw [List.getD_eq_getElem?_getD, List.getElem?_drop, List.getD_eq_getElem?_getD]
  rw [e]
  rfl

theorem dig_take {s : List UInt8} {k : Nat} (h : k ≤ lead s) : ∀ b ∈ s.take k, isDig b := fun b hb => lead_take b (List.mem_of_mem_take (show b ∈ (s.take (lead s)).take k by rwa [List.take_take, Nat.min_eq_left h]))
theorem take_succ_num {s : List UInt8} {k : Nat} (hk : k < s.length) : numOf (s.take (k + 1)) = 10 * numOf (s.take k) + (s[k].toNat - 48) := by
  rw [List.take_succ_eq_append_getElem hk, numOf_snoc]
theorem numOf_mono_take {s : List UInt8} : ∀ {j k : Nat}, j ≤ k → numOf (s.take j) ≤ numOf (s.take k) := by
  intro j k h
  induction k with
  | zero =>
    have : j = 0 := by omega
    rw [this]; exact Nat.le_refl _
  | succ k ih =>
    by_cases e : j = k + 1
    · subst e; exact Nat.le_refl _
    · have := ih (by omega)
      by_cases hk : k < s.length
      · rw [take_succ_num hk]; omega
      · rw [List.take_of_length_le (by omega : s.length ≤ k + 1)]
        rwa [List.take_of_length_le (by omega : s.length ≤ k)] at this
/-- A number greater than the text is long is none's length. -/
theorem cut_big {s : List UInt8} {k : Nat} (hk : k ≤ lead s) (h : s.length < numOf (s.take k)) : cut s = none := by
  unfold cut
  split
  · have := numOf_mono_take (s := s) hk
    unfold after
    split <;> first | rfl | skip
    split <;> first | rfl | skip
    split <;> first | rfl | skip
    rw [if_pos (by omega)]
  · rfl
/-- A nought ahead of other digits. -/
theorem cut_zero {s : List UInt8} {k : Nat} (hk : k ≤ lead s) (h1 : 1 < k) (h : numOf (s.take k) < 10) : cut s = none := by
  unfold cut
  rw [if_neg]
  intro e
  have hl := lead_le s
  have hv : Valid (s.take (lead s)) := by rw [← e]; exact (dec_valid _).1
  have h48 := hv.2.1 (by rw [List.length_take]; omega)
  obtain ⟨b, r, hbr⟩ : ∃ b r, s = b :: r := by
    cases s with
    | nil => simp at hl; omega
    | cons b r => exact ⟨b, r, rfl⟩
  have hb : b ≠ 48 := by
    intro e'
    apply h48
    rw [hbr, e', show lead (48 :: r) = (lead (48 :: r) - 1) + 1 by rw [← e', ← hbr]; omega]
    rfl
  have hd := dig_take hk b (by rw [hbr, show k = (k - 1) + 1 by omega]; exact List.mem_cons_self)
  have h2 : numOf (s.take 2) ≤ numOf (s.take k) := numOf_mono_take (by omega)
  have h3 : numOf (s.take 1) = b.toNat - 48 := by rw [hbr]; simp [numOf]
  have h4 := take_succ_num (s := s) (k := 1) (by omega)
  rw [h3] at h4
  have hd1 := hd.1
  have : b.toNat ≠ 48 := fun e' => hb (UInt8.toNat_inj.1 e')
  have h5 : numOf (s.take (1 + 1)) = numOf (s.take 2) := rfl
  omega
/-- The whole number read, and no nought too many. -/
theorem cut_read {s : List UInt8} (hz : 1 < lead s → 10 ≤ numOf (s.take 2)) : cut s = after s (lead s) (numOf (s.take (lead s))) := by
  by_cases h0 : lead s = 0
  · unfold cut after
    rw [if_pos h0]; split <;> rfl
  · unfold cut
    rw [if_pos]
    have hl := lead_le s
    refine parse_text ⟨?_, ?_, lead_take⟩
    · intro e; rw [List.take_eq_nil_iff] at e; rcases e with e | e
      · exact h0 e
      · subst e; simp at hl; exact h0 hl
    · intro h1 h48
      rw [List.length_take, Nat.min_eq_left hl] at h1
      have h10 := hz h1
      have h4 := take_succ_num (s := s) (k := 1) (by omega)
      have h5 : numOf (s.take (1 + 1)) = numOf (s.take 2) := rfl
      have hd := dig_take (s := s) (k := 2) (by omega) s[1] (by rw [List.mem_take_iff_getElem]; exact ⟨1, by omega, rfl⟩)
      have hd2 := hd.2
      have h6 : numOf (s.take 1) = 0 := by
        cases hs : s with
        | nil => simp [numOf]
        | cons b r =>
          rw [hs] at h48 h1
          rw [show lead (b :: r) = (lead (b :: r) - 1) + 1 by omega] at h48
          simp at h48
          subst h48
          simp [numOf]
      omega
/-- What is told is taken off again, whatever stands behind. -/
theorem cut_net (s t : List UInt8) : cut (net s ++ t) = some (s, t) := by
  obtain ⟨D, hD⟩ : ∃ D, D = Lib.decDigits s.length := ⟨_, rfl⟩
  have hnum : numOf D = s.length := by rw [hD]; exact (dec_valid _).2
  have hdig : ∀ i (hi : i < D.length), dB D[i] = true := by subst hD; exact fun i hi => dec_dB _ i hi
  have hpos : 0 < D.length := by rw [hD]; exact dec_pos _
  have he : net s ++ t = D ++ 58 :: (s ++ 44 :: t) := by unfold net; rw [← hD]; simp
  have hlead : lead (net s ++ t) = D.length := by
    rw [he]
    refine lead_at (by simp) (fun i hi hk => ?_) ?_
    · rw [List.getElem_append_left hk]; exact hdig i hk
    · rw [List.getElem_append_right (Nat.le_refl _)]; simp; decide
  have htake : (net s ++ t).take D.length = D := by rw [he, List.take_append_of_le_length (Nat.le_refl _), List.take_length]
  unfold cut
  rw [hlead, htake, hnum, if_pos hD.symm]
  unfold after
  have hlen : (net s ++ t).length = D.length + (1 + (s.length + (1 + t.length))) := by rw [he]; simp; omega
  have hg1 : (net s ++ t).getD D.length 0 = 58 := by rw [he, List.getD_eq_getElem?_getD, List.getElem?_append_right (Nat.le_refl _)]; simp
  have hdrop : (net s ++ t).drop (D.length + 1) = s ++ 44 :: t := by
    rw [he, List.drop_append, List.drop_eq_nil_of_le (by omega), List.nil_append, Nat.add_sub_cancel_left]; rfl
  have hg2 : (net s ++ t).getD (D.length + 1 + s.length) 0 = 44 := by
    have : ((net s ++ t).drop (D.length + 1))[s.length]? = some 44 := by rw [hdrop, List.getElem?_append_right (Nat.le_refl _)]; simp
    rw [List.getElem?_drop] at this
    rw [List.getD_eq_getElem?_getD, this]; rfl
  rw [if_neg (by omega), if_neg (by omega), if_neg (by rw [hg1]; decide), if_neg (by omega), if_neg (by rw [hg2]; decide)]
  have hd2 : (net s ++ t).drop (D.length + 1 + s.length + 1) = t := by
    rw [Nat.add_assoc (D.length + 1), ← List.drop_drop, hdrop, List.drop_append, List.drop_eq_nil_of_le (by omega), List.nil_append, Nat.add_sub_cancel_left]; rfl
  rw [hd2, hdrop, List.take_append_of_le_length (Nat.le_refl _), List.take_length]
/-- At most seven digits are read. -/
theorem cut_seven {s : List UInt8} (h : s.length < 1000000) (hl : 7 < lead s) : cut s = none := by
  by_cases h10 : numOf (s.take 2) < 10
  · exact cut_zero (k := 2) (by omega) (by omega) h10
  · have hll := lead_le s
    have hs : ∀ k, k + 2 ≤ s.length → 10 ^ (k + 1) ≤ numOf (s.take (k + 2)) := by
      intro k
      induction k with
      | zero => intro _; simpa using Nat.not_lt.1 h10
      | succ k ih =>
        intro hk
        have h1 := ih (by omega)
        have h2 := take_succ_num (s := s) (k := k + 2) (by omega)
        rw [show k + 1 + 2 = k + 2 + 1 by omega, h2, Nat.pow_succ]
        omega
    have h7 : 10 ^ (5 + 1) ≤ numOf (s.take 7) := hs 5 (by omega)
    have h8 : (10 : Nat) ^ (5 + 1) = 1000000 := by decide
    rw [h8] at h7
    exact cut_big (k := 7) (by omega) (by omega)
end Nw
end Go.Proofs.YtmiccalfamepdaaGreatDoor
