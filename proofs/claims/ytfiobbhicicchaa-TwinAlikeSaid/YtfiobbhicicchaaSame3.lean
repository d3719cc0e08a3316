/-
  Arrays compared: array.equal, its closures, slices.EqualFunc.
-/
import Derived.Test.YtfiobbhicicchaaSame2
namespace Go.Proofs.Ytfiobbhicicchaa
open Go.RowKit Ar
set_option maxHeartbeats 2000000
set_option linter.unusedVariables false

/-- A cell's cells, made whole again. -/
theorem CelIn.is {w : World} {B : Nat} {ce : Cel} {L : Nat} {kind : Int} {neg : Bool} {top bot : List Nat} {ch : Int} {ins : List Arr} {A1 A2 A3 : Option Addr} {c1 c2 c3 : Nat} {us : List Value} (h : CelIn w B ce L kind neg top bot ch ins A1 A2 A3 c1 c2 c3 us) (hL : L < 18446744073709551616) :
    IsCel w B ce [.int .u64 (L : Int), .int .i64 kind, .bool neg, .slice A1 top.length c1, .slice A2 bot.length c2, .int .i64 ch, .slice A3 ins.length c3] := by
  rw [h.eq, IsCel]
  exact ⟨A1, c1, A2, c2, A3, c3, us, rfl, hL, h.ft, h.fb, h.fi, h.wk, h.wt, h.wb, h.lt, h.lb, h.li, h.arrs, h.nt, h.nb⟩

/-- What array.equal answers, for arrays of less than a size. -/
def EqOK (n : Nat) : Prop := ∀ (a b : Arr) (vs vs' : List Value) (lab : Bool) (w : World) (B : Nat), SizeOf.sizeOf a < n → IsArr w B a vs → IsArr w B b vs' → B ≤ w.heap.size →
    Calls Try.prog 36 #[.agg vs.toArray, .agg vs'.toArray, .bool lab] w fun e w' => e = .returned (.bool (same lab a b)) ∧ Below w.heap.size w w'

theorem c46_any {n : Nat} (ih : EqOK n) (a b : Arr) (vs vs' : List Value) (lab : Bool) (g : Nat) (w : World) (B : Nat) (ha : SizeOf.sizeOf a < n) (h : IsArr w B a vs) (h' : IsArr w B b vs') (hB : B ≤ w.heap.size) (hg : g < w.heap.size) (hc : w.cell? ⟨g, 0, none⟩ = some (.bool lab)) :
    Calls Try.prog 46 #[.agg vs.toArray, .agg vs'.toArray, .pointer (some ⟨g, 0, none⟩)] w fun e w' => e = .returned (.bool (same lab a b)) ∧ Below w.heap.size w w' := by
  obtain ⟨S, X, xn, xc, Y, yn, yc, rfl⟩ := h.form
  obtain ⟨S', X', xn', xc', Y', yn', yc', rfl⟩ := h'.form
  have hb0 : ∀ o1 o2, Below w.heap.size w ((w.alloc o1).alloc o2) := fun o1 o2 => ((Below.refl _ _).alloc (Nat.le_refl _) _).alloc (by simp) _
  have IH := Lib.hid (fun o1 o2 => ih a b _ _ lab ((w.alloc o1).alloc o2) B ha (h.below ((hb0 _ _).mono hB)) (h'.below ((hb0 _ _).mono hB)) (by simp; omega))
  have HB := Lib.hid hb0
  clear hb0 h h' ih
  generalize same lab a b = R at *
  go_enter Try.func46, Try.ntmps46
  go_wp2_with fail
  refine (IH.out _ _).mono ?_
  rintro e w2 ⟨rfl, hb2⟩
  go_wp2_with fail
  go_ret
  exact ⟨rfl, (HB.out _ _).trans (hb2.mono (by simp; omega))⟩

theorem eqFuncArr_any (l l' : List Arr) (us us' : List Value) (A A' : Option Addr) (c c' : Nat) (lab : Bool) (g : Nat) (w : World) (B : Nat) (h : IsArrs w B l us) (h' : IsArrs w B l' us') (hl : Lies w B A us) (hl' : Lies w B A' us') (hB : B ≤ w.heap.size)
    (k1 : l.length ≤ 35184372088832) (k2 : l'.length ≤ 35184372088832)
    (hf : ∀ (k : Nat) (hk : k < l.length) (hk' : k < l'.length) (u u' : List Value) (wx : World), Below w.heap.size w wx → IsArr wx B l[k] u → IsArr wx B l'[k] u' →
      Calls Try.prog 46 #[.agg u.toArray, .agg u'.toArray, .pointer (some ⟨g, 0, none⟩)] wx fun e w' => e = .returned (.bool (same lab l[k] l'[k])) ∧ Below wx.heap.size wx w') :
    Calls Try.prog 24 #[.slice A l.length c, .slice A' l'.length c', .func (.func 46) #[] #[.pointer (some ⟨g, 0, none⟩)]] w fun e w' => e = .returned (.bool (sameArrs lab l l')) ∧ Below w.heap.size w w' := by
  have HS := Lib.hid h
  have HS' := Lib.hid h'
  have HL := Lib.hid hl
  have HL' := Lib.hid hl'
  have HF := Lib.hid hf
  clear h h' hl hl' hf
  by_cases hne : l.length = l'.length
  · have hd : ((l.length : Int) != (l'.length : Int)) = false := by simp; omega
    have hln : l.length ≤ l'.length := by omega
    have HN := Lib.hid hne
    clear hne
    go_enter Try.func24, Try.ntmps24
    go_wp2_with fail
    go_loopw [7, 17] (fun u i wr => ∃ k : Nat, k ≤ l.length ∧ i = .int .i64 k ∧ Hid (sameArrs lab (l.drop k) (l'.drop k) = sameArrs lab l l') ∧ Below w.heap.size w wr) (fun _ i _ => l.length - (intOf i).toNat)
    case atStart => exact ⟨0, Nat.zero_le _, rfl, Lib.hid rfl, Below.refl _ _⟩
    case round =>
      obtain ⟨k, hk, rfl, HT, hbel⟩ := hrel
      have hsz := hbel.size
      by_cases hlt : k < l.length
      · have hlt' : k < l'.length := by omega
        obtain ⟨b, off, S, X, xn, xc, Y, yn, yc, rfl, hb, HA, g0, g1, g2⟩ := arr_at HS.out HL.out (wr := wr) (fun p hp => hbel.cell (by omega)) hlt
        obtain ⟨b', off', S', X', xn', xc', Y', yn', yc', rfl, hb', HA', g0', g1', g2'⟩ := arr_at HS'.out HL'.out (wr := wr) (fun p hp => hbel.cell (by omega)) hlt'
        have hbw : b < wr.heap.size := by omega
        have hbw' : b' < wr.heap.size := by omega
        have hST : Hid (sameArrs lab (l.drop k) (l'.drop k) = (same lab l[k] l'[k] && sameArrs lab (l.drop (k + 1)) (l'.drop (k + 1)))) := Lib.hid (sameArrs_drop lab hlt hlt')
        have hb1 := (hbel.alloc (by omega) (Obj.cells #[.int .u64 (S : Int), .slice X xn xc, .slice Y yn yc] 42)).alloc (by simp; omega) (Obj.cells #[.int .u64 (S' : Int), .slice X' xn' xc', .slice Y' yn' yc'] 42)
        have FC := Lib.hid (HF.out k hlt hlt' [.int .u64 (S : Int), .slice X xn xc, .slice Y yn yc] [.int .u64 (S' : Int), .slice X' xn' xc', .slice Y' yn' yc'] _ hb1 (HA.out.below (hb1.mono hB)) (HA'.out.below (hb1.mono hB)))
        generalize same lab l[k] l'[k] = R at FC hST
        go_wp2_with fail
        refine FC.out.mono ?_
        rintro e w2 ⟨rfl, hb2⟩
        have hb3 := hb1.trans (hb2.mono hb1.size)
        cases R
        · have HZ : Hid (sameArrs lab l l' = false) := Lib.hid (by rw [← HT.out, hST.out]; rfl)
          go_wp2_with fail
          go_ret
          exact ⟨ret_bool (by rw [HZ.out]), hb3⟩
        · have HZ : Hid (sameArrs lab (l.drop (k + 1)) (l'.drop (k + 1)) = sameArrs lab l l') := Lib.hid (by rw [← HT.out, hST.out]; rfl)
          go_wp2_with fail
          go_roundw
          case rel => exact ⟨k + 1, by omega, by go_num, HZ, hb3⟩
          case measure => simp [intOf]; omega
      · have hke : k = l.length := by omega
        have HZ2 : Hid (sameArrs lab l l' = true) := Lib.hid (by rw [← HT.out, hke, List.drop_length, HN.out, List.drop_length, sameArrs])
        clear hke HT
        go_wp2_with fail
        go_ret
        exact ⟨ret_bool (by rw [HZ2.out]), hbel⟩
  · have hd : (l.length != l'.length) = true := by simpa using hne
    have HZ2 : Hid (sameArrs lab l l' = false) := Lib.hid (by
      cases e : sameArrs lab l l'
      · rfl
      · exact absurd (sameArrs_len lab e) hne)
    clear hne
    go_enter Try.func24, Try.ntmps24
    go_wp2_with fail
    go_ret
    exact ⟨ret_bool (by rw [HZ2.out]), Below.refl _ _⟩

theorem eqFuncMatch_any (l l' : List Arr) (us us' : List Value) (A A' : Option Addr) (c c' : Nat) (lab : Bool) (w : World) (B : Nat) (h : IsArrs w B l us) (h' : IsArrs w B l' us') (hl : Lies w B A us) (hl' : Lies w B A' us') (hB : B ≤ w.heap.size)
    (k1 : l.length ≤ 35184372088832) (k2 : l'.length ≤ 35184372088832)
    (hf : ∀ (k : Nat) (hk : k < l.length) (hk' : k < l'.length) (u u' : List Value) (wx : World), Below w.heap.size w wx → IsArr wx B l[k] u → IsArr wx B l'[k] u' →
      Calls Try.prog 25 #[.agg u.toArray, .agg u'.toArray] wx fun e w' => e = .returned (.bool (same lab l[k] l'[k])) ∧ Below wx.heap.size wx w') :
    Calls Try.prog 24 #[.slice A l.length c, .slice A' l'.length c', .func (.func 25) #[] #[]] w fun e w' => e = .returned (.bool (sameArrs lab l l')) ∧ Below w.heap.size w w' := by
  have HS := Lib.hid h
  have HS' := Lib.hid h'
  have HL := Lib.hid hl
  have HL' := Lib.hid hl'
  have HF := Lib.hid hf
  clear h h' hl hl' hf
  by_cases hne : l.length = l'.length
  · have hd : ((l.length : Int) != (l'.length : Int)) = false := by simp; omega
    have hln : l.length ≤ l'.length := by omega
    have HN := Lib.hid hne
    clear hne
    go_enter Try.func24, Try.ntmps24
    go_wp2_with fail
    go_loopw [7, 17] (fun u i wr => ∃ k : Nat, k ≤ l.length ∧ i = .int .i64 k ∧ Hid (sameArrs lab (l.drop k) (l'.drop k) = sameArrs lab l l') ∧ Below w.heap.size w wr) (fun _ i _ => l.length - (intOf i).toNat)
    case atStart => exact ⟨0, Nat.zero_le _, rfl, Lib.hid rfl, Below.refl _ _⟩
    case round =>
      obtain ⟨k, hk, rfl, HT, hbel⟩ := hrel
      have hsz := hbel.size
      by_cases hlt : k < l.length
      · have hlt' : k < l'.length := by omega
        obtain ⟨b, off, S, X, xn, xc, Y, yn, yc, rfl, hb, HA, g0, g1, g2⟩ := arr_at HS.out HL.out (wr := wr) (fun p hp => hbel.cell (by omega)) hlt
        obtain ⟨b', off', S', X', xn', xc', Y', yn', yc', rfl, hb', HA', g0', g1', g2'⟩ := arr_at HS'.out HL'.out (wr := wr) (fun p hp => hbel.cell (by omega)) hlt'
        have hbw : b < wr.heap.size := by omega
        have hbw' : b' < wr.heap.size := by omega
        have hST : Hid (sameArrs lab (l.drop k) (l'.drop k) = (same lab l[k] l'[k] && sameArrs lab (l.drop (k + 1)) (l'.drop (k + 1)))) := Lib.hid (sameArrs_drop lab hlt hlt')
        have hb1 := (hbel.alloc (by omega) (Obj.cells #[.int .u64 (S : Int), .slice X xn xc, .slice Y yn yc] 42)).alloc (by simp; omega) (Obj.cells #[.int .u64 (S' : Int), .slice X' xn' xc', .slice Y' yn' yc'] 42)
        have FC := Lib.hid (HF.out k hlt hlt' [.int .u64 (S : Int), .slice X xn xc, .slice Y yn yc] [.int .u64 (S' : Int), .slice X' xn' xc', .slice Y' yn' yc'] _ hb1 (HA.out.below (hb1.mono hB)) (HA'.out.below (hb1.mono hB)))
        generalize same lab l[k] l'[k] = R at FC hST
        go_wp2_with fail
        refine FC.out.mono ?_
        rintro e w2 ⟨rfl, hb2⟩
        have hb3 := hb1.trans (hb2.mono hb1.size)
        cases R
        · have HZ : Hid (sameArrs lab l l' = false) := Lib.hid (by rw [← HT.out, hST.out]; rfl)
          go_wp2_with fail
          go_ret
          exact ⟨ret_bool (by rw [HZ.out]), hb3⟩
        · have HZ : Hid (sameArrs lab (l.drop (k + 1)) (l'.drop (k + 1)) = sameArrs lab l l') := Lib.hid (by rw [← HT.out, hST.out]; rfl)
          go_wp2_with fail
          go_roundw
          case rel => exact ⟨k + 1, by omega, by go_num, HZ, hb3⟩
          case measure => simp [intOf]; omega
      · have hke : k = l.length := by omega
        have HZ2 : Hid (sameArrs lab l l' = true) := Lib.hid (by rw [← HT.out, hke, List.drop_length, HN.out, List.drop_length, sameArrs])
        clear hke HT
        go_wp2_with fail
        go_ret
        exact ⟨ret_bool (by rw [HZ2.out]), hbel⟩
  · have hd : (l.length != l'.length) = true := by simpa using hne
    have HZ2 : Hid (sameArrs lab l l' = false) := Lib.hid (by
      cases e : sameArrs lab l l'
      · rfl
      · exact absurd (sameArrs_len lab e) hne)
    clear hne
    go_enter Try.func24, Try.ntmps24
    go_wp2_with fail
    go_ret
    exact ⟨ret_bool (by rw [HZ2.out]), Below.refl _ _⟩

theorem eqFuncCel_any (l l' : List Cel) (us us' : List Value) (A A' : Option Addr) (c c' : Nat) (lab : Bool) (g : Nat) (w : World) (B : Nat) (h : IsCels w B l us) (h' : IsCels w B l' us') (hl : Lies w B A us) (hl' : Lies w B A' us') (hB : B ≤ w.heap.size)
    (k1 : l.length ≤ 35184372088832) (k2 : l'.length ≤ 35184372088832)
    (hf : ∀ (k : Nat) (hk : k < l.length) (hk' : k < l'.length) (u u' : List Value) (wx : World), Below w.heap.size w wx → IsCel wx B l[k] u → IsCel wx B l'[k] u' →
      Calls Try.prog 44 #[.agg u.toArray, .agg u'.toArray, .pointer (some ⟨g, 0, none⟩)] wx fun e w' => e = .returned (.bool (sameCel lab l[k] l'[k])) ∧ Below wx.heap.size wx w') :
    Calls Try.prog 43 #[.slice A l.length c, .slice A' l'.length c', .func (.func 44) #[] #[.pointer (some ⟨g, 0, none⟩)]] w fun e w' => e = .returned (.bool (sameCels lab l l')) ∧ Below w.heap.size w w' := by
  have HS := Lib.hid h
  have HS' := Lib.hid h'
  have HL := Lib.hid hl
  have HL' := Lib.hid hl'
  have HF := Lib.hid hf
  clear h h' hl hl' hf
  by_cases hne : l.length = l'.length
  · have hd : ((l.length : Int) != (l'.length : Int)) = false := by simp; omega
    have hln : l.length ≤ l'.length := by omega
    have HN := Lib.hid hne
    clear hne
    go_enter Try.func43, Try.ntmps43
    go_wp2_with fail
    go_loopw [7, 17] (fun u i wr => ∃ k : Nat, k ≤ l.length ∧ i = .int .i64 k ∧ Hid (sameCels lab (l.drop k) (l'.drop k) = sameCels lab l l') ∧ Below w.heap.size w wr) (fun _ i _ => l.length - (intOf i).toNat)
    case atStart => exact ⟨0, Nat.zero_le _, rfl, Lib.hid rfl, Below.refl _ _⟩
    case round =>
      obtain ⟨k, hk, rfl, HT, hbel⟩ := hrel
      have hsz := hbel.size
      by_cases hlt : k < l.length
      · have hlt' : k < l'.length := by omega
        obtain ⟨b, off, L, kind, neg, top, bot, ch, ins, A1, c1, A2, c2, A3, c3, us3, rfl, hb, hL, HX, t1, t2, t3, t4, t5, t6, g0, g1, g2, g3, g4, g5, g6⟩ := cel_at HS.out HL.out (wr := wr) (fun p hp => hbel.cell (by omega)) hlt
        obtain ⟨b', off', L', kind', neg', top', bot', ch', ins', A1', c1', A2', c2', A3', c3', us3', rfl, hb', hL', HX', t1', t2', t3', t4', t5', t6', g0', g1', g2', g3', g4', g5', g6'⟩ := cel_at HS'.out HL'.out (wr := wr) (fun p hp => hbel.cell (by omega)) hlt'
        have hbw : b < wr.heap.size := by omega
        have hbw' : b' < wr.heap.size := by omega
        have hST : Hid (sameCels lab (l.drop k) (l'.drop k) = (sameCel lab l[k] l'[k] && sameCels lab (l.drop (k + 1)) (l'.drop (k + 1)))) := Lib.hid (sameCels_drop lab hlt hlt')
        have hb1 := (hbel.alloc (by omega) (Obj.cells #[.int .u64 (L : Int), .int .i64 kind, .bool neg, .slice A1 top.length c1, .slice A2 bot.length c2, .int .i64 ch, .slice A3 ins.length c3] 60)).alloc (by simp; omega) (Obj.cells #[.int .u64 (L' : Int), .int .i64 kind', .bool neg', .slice A1' top'.length c1', .slice A2' bot'.length c2', .int .i64 ch', .slice A3' ins'.length c3'] 60)
        have FC := Lib.hid (HF.out k hlt hlt' [.int .u64 (L : Int), .int .i64 kind, .bool neg, .slice A1 top.length c1, .slice A2 bot.length c2, .int .i64 ch, .slice A3 ins.length c3] [.int .u64 (L' : Int), .int .i64 kind', .bool neg', .slice A1' top'.length c1', .slice A2' bot'.length c2', .int .i64 ch', .slice A3' ins'.length c3'] _ hb1 ((HX.out.is hL).below (hb1.mono hB)) ((HX'.out.is hL').below (hb1.mono hB)))
        generalize sameCel lab l[k] l'[k] = R at FC hST
        go_wp2_with fail
        refine FC.out.mono ?_
        rintro e w2 ⟨rfl, hb2⟩
        have hb3 := hb1.trans (hb2.mono hb1.size)
        cases R
        · have HZ : Hid (sameCels lab l l' = false) := Lib.hid (by rw [← HT.out, hST.out]; rfl)
          go_wp2_with fail
          go_ret
          exact ⟨ret_bool (by rw [HZ.out]), hb3⟩
        · have HZ : Hid (sameCels lab (l.drop (k + 1)) (l'.drop (k + 1)) = sameCels lab l l') := Lib.hid (by rw [← HT.out, hST.out]; rfl)
          go_wp2_with fail
          go_roundw
          case rel => exact ⟨k + 1, by omega, by go_num, HZ, hb3⟩
          case measure => simp [intOf]; omega
      · have hke : k = l.length := by omega
        have HZ2 : Hid (sameCels lab l l' = true) := Lib.hid (by rw [← HT.out, hke, List.drop_length, HN.out, List.drop_length, sameCels])
        clear hke HT
        go_wp2_with fail
        go_ret
        exact ⟨ret_bool (by rw [HZ2.out]), hbel⟩
  · have hd : (l.length != l'.length) = true := by simpa using hne
    have HZ2 : Hid (sameCels lab l l' = false) := Lib.hid (by
      cases e : sameCels lab l l'
      · rfl
      · exact absurd (sameCels_len lab e) hne)
    clear hne
    go_enter Try.func43, Try.ntmps43
    go_wp2_with fail
    go_ret
    exact ⟨ret_bool (by rw [HZ2.out]), Below.refl _ _⟩

end Go.Proofs.Ytfiobbhicicchaa
