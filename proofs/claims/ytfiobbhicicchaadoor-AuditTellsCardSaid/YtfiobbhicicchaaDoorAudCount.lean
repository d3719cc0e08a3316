/-
  How many records an observer sees, and what was given to it: audit.Counts, Given, and the reference's.
-/
import Derived.Test.YtfiobbhicicchaaDoorAudSeen2
namespace Go.Proofs.YtfiobbhicicchaaDoor
open Go.RowKit Ar
set_option maxHeartbeats 2000000
set_option maxRecDepth 100000
set_option linter.unusedVariables false

def cnt (kd : Int) (rs : List Rec) : Nat := (rs.filter fun r => r.kind == kd).length
theorem cnt_take {kd : Int} {k : Nat} {rs : List Rec} (h : k < rs.length) : cnt kd (rs.take (k + 1)) = cnt kd (rs.take k) + (if rs[k].kind == kd then 1 else 0) := by
  rw [List.take_succ_eq_append_getElem h, cnt, List.filter_append, List.length_append]
  congr 1
  cases e : (rs[k].kind == kd) <;> simp [e]
theorem cnt_le (kd : Int) (k : Nat) (rs : List Rec) : cnt kd (rs.take k) ≤ k := Nat.le_trans (List.length_filter_le _ _) (List.length_take_le _ _)
def given (o : Nat) : Nat → List Rec → Nat
  | x, [] => x
  | x, r :: t => given o (if r.kind == 2 && Lab.flows r.to o then Lab.join x r.frm else x) t
theorem given_drop {o k : Nat} {rs : List Rec} (h : k < rs.length) (x : Nat) : given o x (rs.drop k) = given o (if rs[k].kind == 2 && Lab.flows rs[k].to o then Lab.join x rs[k].frm else x) (rs.drop (k + 1)) := by
  rw [List.drop_eq_getElem_cons h, given]
theorem ret_three {a b c a' b' c' : Value} (h : a = a') (h' : b = b') (h2 : c = c') : Ending.returned (.tuple #[a, b, c]) = .returned (.tuple #[a', b', c']) := by rw [h, h', h2]

theorem counts_any (cf : Cfg) (C : Array Value) (A : Option Addr) (cp : Nat) (rs : List Rec) (us : List Value) (o : Nat) (w : World) (B : Nat) (hC : IsCfg w B cf C) (hl : Lies w B A us) (hrs : IsRecs w B rs us) (hB : B ≤ w.heap.size) (hn : rs.length * 96 ≤ 140737488351232) (ho : o < 18446744073709551616) :
    Calls Tryd.prog 15 #[.agg C, .slice A rs.length cp, .int .u64 (o : Int)] w fun e w' => e = .returned (.tuple #[.int .i64 (cnt 1 (seen cf.clear o rs) : Int), .int .i64 (cnt 2 (seen cf.clear o rs) : Int), .int .i64 (cnt 3 (seen cf.clear o rs) : Int)]) ∧ Below w.heap.size w w' := by
  have HI : Hid ((Tryd.prog.info? 29).map (·.size) = some C.size) := Lib.hid (by rw [hC.size]; exact cfg_info)
  have hb0 : ∀ ob, Below w.heap.size w (w.alloc ob) := fun ob => (Below.refl _ _).alloc (Nat.le_refl _) _
  have HB0 := Lib.hid hb0
  have SN := Lib.hid (seen_any cf C A cp rs us o (w.alloc (.cells C 29)) B (hC.below ((hb0 _).mono hB)) (hl.below ((hb0 _).mono hB)) (hrs.below ((hb0 _).mono hB)) (by simp; omega) hn ho)
  have hsl : (seen cf.clear o rs).length ≤ rs.length := List.length_filter_le _ _
  clear hC hl hrs hb0
  generalize seen cf.clear o rs = ss at *
  go_enter Tryd.func15, Tryd.ntmps15
  go_wp2_with (with_reducible refine wpList_load_row rfl 29 (.tmp 3) rfl w.heap.size rfl 29 C (0, 0) _ (heap_alloc_new _ _) Tryd.underlying29 rfl HI.out ?_)
  refine SN.out.mono ?_
  rintro e w2 ⟨A2, c2, us2, rfl, hl2, hrs2, hb2⟩
  have HL := Lib.hid hl2
  have HR := Lib.hid hrs2
  have hb3 := (HB0.out _).trans (hb2.mono (by simp))
  have hsz2 := hb3.size
  clear hl2 hrs2 hb2 SN
  go_wp2_with fail
  go_loopw [9, 10, 11, 19] (fun a b c i wr => ∃ k x y z : Nat, k ≤ ss.length ∧ i = .int .i64 k ∧ a = .int .i64 (x : Int) ∧ b = .int .i64 (y : Int) ∧ c = .int .i64 (z : Int) ∧ x ≤ k ∧ y ≤ k ∧ z ≤ k ∧ Hid (x = cnt 1 (ss.take k) ∧ y = cnt 2 (ss.take k) ∧ z = cnt 3 (ss.take k)) ∧ Below w2.heap.size w2 wr) (fun _ _ _ i _ => ss.length - (intOf i).toNat)
  case atStart => exact ⟨0, 0, 0, 0, Nat.zero_le _, rfl, rfl, rfl, rfl, Nat.le_refl _, Nat.le_refl _, Nat.le_refl _, Lib.hid ⟨rfl, rfl, rfl⟩, Below.refl _ _⟩
  case round =>
    obtain ⟨k, x, y, z, hk, rfl, rfl, rfl, rfl, hx, hy, hz, HX, hbel⟩ := hrel
    have hsz := hbel.size
    by_cases hlt : k < ss.length
    · obtain ⟨b, off, r, S', X, xn, xc, X', xn', xc', rfl, hb, HE, hr1, hr2, HA, g0, g1, g2, g3, g4, g5, g6, g7⟩ := rec_at HR.out HL.out (wr := wr) (fun p hp => hbel.cell hp) hlt
      have hbw : b < wr.heap.size := by omega
      have C1 := Lib.hid (cnt_take (kd := 1) hlt)
      have C2 := Lib.hid (cnt_take (kd := 2) hlt)
      have C3 := Lib.hid (cnt_take (kd := 3) hlt)
      rw [HE.out, ← HX.out.1] at C1
      rw [HE.out, ← HX.out.2.1] at C2
      rw [HE.out, ← HX.out.2.2] at C3
      obtain ⟨kind, port, frm, to, cls, v⟩ := r
      dsimp only [recV] at *
      by_cases h1 : kind = 1
      · subst h1
        go_wp2_with fail
        go_roundw
        case rel => exact ⟨k + 1, x + 1, y, z, by omega, by go_num, by go_num, rfl, rfl, by omega, by omega, by omega, Lib.hid ⟨by rw [C1.out]; rfl, by rw [C2.out]; rfl, by rw [C3.out]; rfl⟩, hbel.alloc hsz _⟩
        case measure => simp [intOf]; omega
      · by_cases h2 : kind = 2
        · subst h2
          clear h1
          go_wp2_with fail
          go_roundw
          case rel => exact ⟨k + 1, x, y + 1, z, by omega, by go_num, rfl, by go_num, rfl, by omega, by omega, by omega, Lib.hid ⟨by rw [C1.out]; rfl, by rw [C2.out]; rfl, by rw [C3.out]; rfl⟩, hbel.alloc hsz _⟩
          case measure => simp [intOf]; omega
        · by_cases h3 : kind = 3
          · subst h3
            clear h1 h2
            go_wp2_with fail
            go_roundw
            case rel => exact ⟨k + 1, x, y, z + 1, by omega, by go_num, rfl, rfl, by go_num, by omega, by omega, by omega, Lib.hid ⟨by rw [C1.out]; rfl, by rw [C2.out]; rfl, by rw [C3.out]; rfl⟩, hbel.alloc hsz _⟩
            case measure => simp [intOf]; omega
          · have k1 : (kind == 1) = false := by simpa using h1
            have k2 : (kind == 2) = false := by simpa using h2
            have k3 : (kind == 3) = false := by simpa using h3
            rw [k1] at C1
            rw [k2] at C2
            rw [k3] at C3
            clear h1 h2 h3
            go_wp2_with fail
            go_roundw
            case rel => exact ⟨k + 1, x, y, z, by omega, by go_num, rfl, rfl, rfl, by omega, by omega, by omega, Lib.hid ⟨by rw [C1.out]; rfl, by rw [C2.out]; rfl, by rw [C3.out]; rfl⟩, hbel.alloc hsz _⟩
            case measure => simp [intOf]; omega
    · have hke : k = ss.length := by omega
      have HX2 : Hid (x = cnt 1 ss ∧ y = cnt 2 ss ∧ z = cnt 3 ss) := Lib.hid (by have := HX.out; rwa [hke, List.take_length] at this)
      clear HX hke
      go_wp2_with fail
      go_ret3
      exact ⟨ret_three (show Value.int .i64 (x : Int) = _ by rw [HX2.out.1]) (show Value.int .i64 (y : Int) = _ by rw [HX2.out.2.1]) (show Value.int .i64 (z : Int) = _ by rw [HX2.out.2.2]), hb3.trans (hbel.mono hsz2)⟩

theorem refCount_any (kd : Nat) (cf : Cfg) (C : Array Value) (A : Option Addr) (cp : Nat) (rs : List Rec) (us : List Value) (o : Nat) (w : World) (B : Nat) (hC : IsCfg w B cf C) (hl : Lies w B A us) (hrs : IsRecs w B rs us) (hB : B ≤ w.heap.size) (hn : rs.length * 96 ≤ 140737488351232) (ho : o < 18446744073709551616) :
    Calls Tryd.prog 16 #[.agg C, .slice A rs.length cp, .int .u64 (o : Int), .int .i64 (kd : Int)] w fun e w' => e = .returned (.int .i64 (cnt kd (seen cf.clear o rs) : Int)) ∧ Below w.heap.size w w' := by
  have HI : Hid ((Tryd.prog.info? 29).map (·.size) = some C.size) := Lib.hid (by rw [hC.size]; exact cfg_info)
  have hb0 : ∀ ob, Below w.heap.size w (w.alloc ob) := fun ob => (Below.refl _ _).alloc (Nat.le_refl _) _
  have HB0 := Lib.hid hb0
  have SN := Lib.hid (refSeen_any cf C A cp rs us o (w.alloc (.cells C 29)) B (hC.below ((hb0 _).mono hB)) (hl.below ((hb0 _).mono hB)) (hrs.below ((hb0 _).mono hB)) (by simp; omega) hn ho)
  have hsl : (seen cf.clear o rs).length ≤ rs.length := List.length_filter_le _ _
  clear hC hl hrs hb0
  generalize seen cf.clear o rs = ss at *
  go_enter Tryd.func16, Tryd.ntmps16
  go_wp2_with (with_reducible refine wpList_load_row rfl 29 (.tmp 4) rfl w.heap.size rfl 29 C (0, 0) _ (heap_alloc_new _ _) Tryd.underlying29 rfl HI.out ?_)
  refine SN.out.mono ?_
  rintro e w2 ⟨A2, c2, us2, rfl, hl2, hrs2, hb2⟩
  have HL := Lib.hid hl2
  have HR := Lib.hid hrs2
  have hb3 := (HB0.out _).trans (hb2.mono (by simp))
  have hsz2 := hb3.size
  clear hl2 hrs2 hb2 SN
  go_wp2_with fail
  go_loop [9, 11] (fun a i => ∃ k x : Nat, k ≤ ss.length ∧ i = .int .i64 k ∧ a = .int .i64 (x : Int) ∧ x ≤ k ∧ Hid (x = cnt kd (ss.take k))) (fun _ i => ss.length - (intOf i).toNat)
  case atStart => exact ⟨0, 0, Nat.zero_le _, rfl, rfl, Nat.le_refl _, Lib.hid rfl⟩
  case round =>
    obtain ⟨k, x, hk, rfl, rfl, hx, HX⟩ := hrel
    by_cases hlt : k < ss.length
    · obtain ⟨b, off, r, S', X, xn, xc, X', xn', xc', rfl, hb, HE, hr1, hr2, HA, g0, g1, g2, g3, g4, g5, g6, g7⟩ := rec_at HR.out HL.out (wr := w2) (fun p hp => rfl) hlt
      have C1 := Lib.hid (cnt_take (kd := kd) hlt)
      rw [HE.out, ← HX.out] at C1
      cases hq : (r.kind == (kd : Int))
      · rw [hq] at C1
        go_wp2_with fail
        go_round
        case rel => exact ⟨k + 1, x, by omega, by go_num, rfl, by omega, Lib.hid (by rw [C1.out]; rfl)⟩
        case measure => simp [intOf]; omega
      · rw [hq] at C1
        go_wp2_with fail
        go_round
        case rel => exact ⟨k + 1, x + 1, by omega, by go_num, by go_num, by omega, Lib.hid (by rw [C1.out]; rfl)⟩
        case measure => simp [intOf]; omega
    · have hke : k = ss.length := by omega
      have HX2 : Hid (x = cnt kd ss) := Lib.hid (by have := HX.out; rwa [hke, List.take_length] at this)
      clear HX hke
      go_wp2_with fail
      go_ret
      exact ⟨ret_int (by rw [HX2.out]), hb3⟩

theorem given_any (A : Option Addr) (cp : Nat) (rs : List Rec) (us : List Value) (o : Nat) (w : World) (B : Nat) (hl : Lies w B A us) (hrs : IsRecs w B rs us) (hB : B ≤ w.heap.size) (hn : rs.length * 96 ≤ 140737488351232) (ho : o < 18446744073709551616) :
    Calls Tryd.prog 17 #[.slice A rs.length cp, .int .u64 (o : Int)] w fun e w' => e = .returned (.int .u64 (given o 0 rs : Int)) ∧ Below w.heap.size w w' := by
  have HL := Lib.hid hl
  have HR := Lib.hid hrs
  have FL := Lib.hid (fun (t : Nat) (ht : t < 18446744073709551616) (wx : World) => flows_any t o wx ht ho)
  clear hl hrs
  go_enter Tryd.func17, Tryd.ntmps17
  go_wp2_with fail
  go_loopw [5, 10] (fun x i wr => ∃ k m : Nat, k ≤ rs.length ∧ i = .int .i64 k ∧ x = .int .u64 (m : Int) ∧ m < 18446744073709551616 ∧ Hid (given o m (rs.drop k) = given o 0 rs) ∧ Below w.heap.size w wr) (fun _ i _ => rs.length - (intOf i).toNat)
  case atStart => exact ⟨0, 0, Nat.zero_le _, rfl, rfl, by omega, Lib.hid rfl, Below.refl _ _⟩
  case round =>
    obtain ⟨k, m, hk, rfl, rfl, hm, HG, hbel⟩ := hrel
    have hsz := hbel.size
    by_cases hlt : k < rs.length
    · obtain ⟨b, off, r, S', X, xn, xc, X', xn', xc', rfl, hb, HE, hr1, hr2, HA, g0, g1, g2, g3, g4, g5, g6, g7⟩ := rec_at HR.out HL.out (wr := wr) (fun p hp => hbel.cell (by omega)) hlt
      have hbw : b < wr.heap.size := by omega
      have G1 := Lib.hid ((given_drop (o := o) hlt m).symm.trans HG.out)
      rw [HE.out] at G1
      clear HG HE
      obtain ⟨kind, port, frm, to, cls, v⟩ := r
      dsimp only [recV] at *
      cases hq : (kind == 2)
      · rw [hq, Bool.false_and] at G1
        go_wp2_with fail
        go_roundw
        case rel => exact ⟨k + 1, m, by omega, by go_num, rfl, hm, Lib.hid (by rw [← G1.out]; rfl), hbel.alloc hsz _⟩
        case measure => simp [intOf]; omega
      · rw [hq, Bool.true_and] at G1
        go_wp2_with fail
        refine (FL.out to hr2 _).mono ?_
        rintro e w' ⟨rfl, rfl⟩
        cases hf : Lab.flows to o
        · rw [hf] at G1
          go_wp2_with fail
          go_roundw
          case rel => exact ⟨k + 1, m, by omega, by go_num, rfl, hm, Lib.hid (by rw [← G1.out]; rfl), hbel.alloc hsz _⟩
          case measure => simp [intOf]; omega
        · rw [hf] at G1
          go_wp2_with fail
          refine (join_any _ _ _ hm hr1).mono ?_
          rintro e w' ⟨rfl, rfl⟩
          go_wp2_with fail
          go_roundw
          case rel => exact ⟨k + 1, Lab.join m frm, by omega, by go_num, rfl, Lab.join_lt hm hr1, Lib.hid (by rw [← G1.out]; rfl), hbel.alloc hsz _⟩
          case measure => simp [intOf]; omega
    · have hke : k = rs.length := by omega
      have HX2 : Hid (m = given o 0 rs) := Lib.hid (by have := HG.out; rwa [hke, List.drop_length, given] at this)
      clear HG hke
      go_wp2_with fail
      go_ret
      exact ⟨ret_int (by rw [HX2.out]), hbel⟩

theorem refGiven_any (A : Option Addr) (cp : Nat) (rs : List Rec) (us : List Value) (o : Nat) (w : World) (B : Nat) (hl : Lies w B A us) (hrs : IsRecs w B rs us) (hB : B ≤ w.heap.size) (hn : rs.length * 96 ≤ 140737488351232) (ho : o < 18446744073709551616) :
    Calls Tryd.prog 18 #[.slice A rs.length cp, .int .u64 (o : Int)] w fun e w' => (e = .returned (.int .u64 (given o 0 rs : Int)) ∧ given o 0 rs < 18446744073709551616) ∧ w = w' := by
  have HL := Lib.hid hl
  have HR := Lib.hid hrs
  have FL := Lib.hid (fun (t : Nat) (ht : t < 18446744073709551616) (wx : World) => refFlows_any t o wx ht ho)
  clear hl hrs
  go_enter Tryd.func18, Tryd.ntmps18
  go_wp2_with fail
  go_loop [5, 6] (fun x i => ∃ k m : Nat, k ≤ rs.length ∧ i = .int .i64 k ∧ x = .int .u64 (m : Int) ∧ m < 18446744073709551616 ∧ Hid (given o m (rs.drop k) = given o 0 rs)) (fun _ i => rs.length - (intOf i).toNat)
  case atStart => exact ⟨0, 0, Nat.zero_le _, rfl, rfl, by omega, Lib.hid rfl⟩
  case round =>
    obtain ⟨k, m, hk, rfl, rfl, hm, HG⟩ := hrel
    by_cases hlt : k < rs.length
    · obtain ⟨b, off, r, S', X, xn, xc, X', xn', xc', rfl, hb, HE, hr1, hr2, HA, g0, g1, g2, g3, g4, g5, g6, g7⟩ := rec_at HR.out HL.out (wr := w) (fun p hp => rfl) hlt
      have G1 := Lib.hid ((given_drop (o := o) hlt m).symm.trans HG.out)
      rw [HE.out] at G1
      clear HG HE
      obtain ⟨kind, port, frm, to, cls, v⟩ := r
      dsimp only [recV] at *
      cases hq : (kind == 2)
      · rw [hq, Bool.false_and] at G1
        go_wp2_with fail
        go_round
        case rel => exact ⟨k + 1, m, by omega, by go_num, rfl, hm, Lib.hid (by rw [← G1.out]; rfl)⟩
        case measure => simp [intOf]; omega
      · rw [hq, Bool.true_and] at G1
        go_wp2_with fail
        refine (FL.out to hr2 _).mono ?_
        rintro e w' ⟨rfl, rfl⟩
        cases hf : Lab.flows to o
        · rw [hf] at G1
          go_wp2_with fail
          go_round
          case rel => exact ⟨k + 1, m, by omega, by go_num, rfl, hm, Lib.hid (by rw [← G1.out]; rfl)⟩
          case measure => simp [intOf]; omega
        · rw [hf] at G1
          go_wp2_with fail
          refine (refJoin_any _ _ _ hm hr1).mono ?_
          rintro e w' ⟨rfl, rfl⟩
          go_wp2_with fail
          go_round
          case rel => exact ⟨k + 1, Lab.join m frm, by omega, by go_num, rfl, Lab.join_lt hm hr1, Lib.hid (by rw [← G1.out]; rfl)⟩
          case measure => simp [intOf]; omega
    · have hke : k = rs.length := by omega
      have HX2 : Hid (m = given o 0 rs) := Lib.hid (by have := HG.out; rwa [hke, List.drop_length, given] at this)
      clear HG hke
      go_wp2_with fail
      go_ret
      exact ⟨⟨ret_int (by rw [HX2.out]), by rw [← HX2.out]; exact hm⟩, rfl⟩
end Go.Proofs.YtfiobbhicicchaaDoor
