/-
  Records compared: flow.Same, and the reference's; where two rows of records are first not the same: Apart, Blind. (Printed by wip/bin/gen_twin1.py.)
-/
import Derived.Test.YtfiobbhicicchaaSame5
import Derived.Test.YtfiobbhicicchaaRec
namespace Go.Proofs.Ytfiobbhicicchaa
open Go.RowKit Ar
set_option maxHeartbeats 4000000
set_option maxRecDepth 100000
set_option linter.unusedVariables false

def recSame (r r' : Rec) : Bool := (r.kind == r'.kind) && (r.port == r'.port) && (r.frm == r'.frm) && (r.to == r'.to) && (r.cls == r'.cls) && same true r.v r'.v
def apartFrom : Nat → List Rec → List Rec → Int
  | i, r :: t, r' :: t' => if recSame r r' then apartFrom (i + 1) t t' else (i : Int)
  | _, _, _ => -1
theorem apartFrom_drop {k : Nat} {l l' : List Rec} (h : k < l.length) (h' : k < l'.length) : apartFrom k (l.drop k) (l'.drop k) = if recSame l[k] l'[k] then apartFrom (k + 1) (l.drop (k + 1)) (l'.drop (k + 1)) else (k : Int) := by
  rw [List.drop_eq_getElem_cons h, List.drop_eq_getElem_cons h', apartFrom]
theorem apartFrom_end {k : Nat} {l l' : List Rec} (h : l.length ≤ k ∨ l'.length ≤ k) : apartFrom k (l.drop k) (l'.drop k) = -1 := by
  rcases h with h | h
  · rw [List.drop_eq_nil_of_le h]; simp [apartFrom]
  · rw [List.drop_eq_nil_of_le h]
    cases l.drop k <;> simp [apartFrom]
/-- Where they are first apart, if they are. -/
theorem apartFrom_lt : ∀ (i : Nat) (l l' : List Rec), apartFrom i l l' = -1 ∨ ∃ k : Nat, apartFrom i l l' = ((i + k : Nat) : Int) ∧ k < l.length ∧ k < l'.length
  | i, [], l' => .inl (by simp [apartFrom])
  | i, r :: t, [] => .inl (by simp [apartFrom])
  | i, r :: t, r' :: t' => by
    rw [apartFrom]
    cases e : recSame r r'
    · exact .inr ⟨0, by simp, by simp, by simp⟩
    · rcases apartFrom_lt (i + 1) t t' with h | ⟨k, h1, h2, h3⟩
      · exact .inl (by simpa using h)
      · refine .inr ⟨k + 1, ?_, by simp; omega, by simp; omega⟩
        rw [if_pos rfl, h1]; congr 1; omega
/-- What Blind answers. -/
def blindAt (l l' : List Rec) (k : Nat) : Bool := match l[k]?, l'[k]? with
  | some r, some r' => (r.kind == 2) && (r'.kind == 2) && (r.to == r'.to)
  | _, _ => false
def blindB (l l' : List Rec) : Bool := decide (apartFrom 0 l l' < 0) || blindAt l l' (apartFrom 0 l l').toNat

theorem recSame_any (r r' : Rec) (S : Nat) (X : Option Addr) (n c : Nat) (Y : Option Addr) (m d : Nat) (S' : Nat) (X' : Option Addr) (n' c' : Nat) (Y' : Option Addr) (m' d' : Nat) (w : World) (B : Nat) (h : IsArr w B r.v [.int .u64 (S : Int), .slice X n c, .slice Y m d]) (h' : IsArr w B r'.v [.int .u64 (S' : Int), .slice X' n' c', .slice Y' m' d']) (hB : B ≤ w.heap.size) :
    Calls Try.prog 31 #[.agg (recV r S X n c Y m d).toArray, .agg (recV r' S' X' n' c' Y' m' d').toArray] w fun e w' => e = .returned (.bool (recSame r r')) ∧ Below w.heap.size w w' := by
  have hb0 : ∀ o1 o2, Below w.heap.size w ((w.alloc o1).alloc o2) := fun o1 o2 => ((Below.refl _ _).alloc (Nat.le_refl _) _).alloc (by simp) _
  have HB := Lib.hid hb0
  have E := Lib.hid (fun o1 o2 => arrSame_any r.v r'.v _ _ ((w.alloc o1).alloc o2) B (h.below ((hb0 _ _).mono hB)) (h'.below ((hb0 _ _).mono hB)) (by simp; omega))
  have HR : Hid (recSame r r' = ((r.kind == r'.kind) && (r.port == r'.port) && (r.frm == r'.frm) && (r.to == r'.to) && (r.cls == r'.cls) && same true r.v r'.v)) := Lib.hid rfl
  clear hb0 h h'
  generalize recSame r r' = R at *
  obtain ⟨kind, port, frm, to, cls, v⟩ := r
  obtain ⟨kind', port', frm', to', cls', v'⟩ := r'
  dsimp only [recV] at *
  generalize same true v v' = Q at *
  by_cases h_kind : kind = kind'
  · subst h_kind
    have q_kind : (kind == kind) = true := by simp
    by_cases h_port : port = port'
    · subst h_port
      have q_port : (port == port) = true := by simp
      by_cases h_frm : frm = frm'
      · subst h_frm
        have q_frm : ((frm : Int) == (frm : Int)) = true := by simp
        by_cases h_to : to = to'
        · subst h_to
          have q_to : ((to : Int) == (to : Int)) = true := by simp
          by_cases h_cls : cls = cls'
          · subst h_cls
            have q_cls : (cls == cls) = true := by simp
            go_enter Try.func31, Try.ntmps31
            go_wp2_with fail
            refine (E.out _ _).mono ?_
            rintro e w2 ⟨rfl, hb2⟩
            go_wp2_with fail
            go_ret
            exact ⟨ret_bool (by rw [HR.out]; simp), (HB.out _ _).trans (hb2.mono (HB.out _ _).size)⟩
          · have q_cls : (cls == cls') = false := by simpa using h_cls
            go_enter Try.func31, Try.ntmps31
            go_wp2_with fail
            go_ret
            exact ⟨ret_bool (by rw [HR.out]; simp [h_cls]), HB.out _ _⟩
        · have q_to : ((to : Int) == (to' : Int)) = false := by simp; omega
          have p_to : (to == to') = false := by simpa using h_to
          go_enter Try.func31, Try.ntmps31
          go_wp2_with fail
          go_ret
          exact ⟨ret_bool (by rw [HR.out]; simp [h_to]), HB.out _ _⟩
      · have q_frm : ((frm : Int) == (frm' : Int)) = false := by simp; omega
        have p_frm : (frm == frm') = false := by simpa using h_frm
        go_enter Try.func31, Try.ntmps31
        go_wp2_with fail
        go_ret
        exact ⟨ret_bool (by rw [HR.out]; simp [h_frm]), HB.out _ _⟩
    · have q_port : (port == port') = false := by simpa using h_port
      go_enter Try.func31, Try.ntmps31
      go_wp2_with fail
      go_ret
      exact ⟨ret_bool (by rw [HR.out]; simp [h_port]), HB.out _ _⟩
  · have q_kind : (kind == kind') = false := by simpa using h_kind
    go_enter Try.func31, Try.ntmps31
    go_wp2_with fail
    go_ret
    exact ⟨ret_bool (by rw [HR.out]; simp [h_kind]), HB.out _ _⟩

theorem refRecSame_any (r r' : Rec) (S : Nat) (X : Option Addr) (n c : Nat) (Y : Option Addr) (m d : Nat) (S' : Nat) (X' : Option Addr) (n' c' : Nat) (Y' : Option Addr) (m' d' : Nat) (w : World) (B : Nat) (h : IsArr w B r.v [.int .u64 (S : Int), .slice X n c, .slice Y m d]) (h' : IsArr w B r'.v [.int .u64 (S' : Int), .slice X' n' c', .slice Y' m' d']) (hB : B ≤ w.heap.size) :
    Calls Try.prog 30 #[.agg (recV r S X n c Y m d).toArray, .agg (recV r' S' X' n' c' Y' m' d').toArray] w fun e w' => e = .returned (.bool (recSame r r')) ∧ Below w.heap.size w w' := by
  have hb0 : ∀ o1 o2, Below w.heap.size w ((w.alloc o1).alloc o2) := fun o1 o2 => ((Below.refl _ _).alloc (Nat.le_refl _) _).alloc (by simp) _
  have HB := Lib.hid hb0
  have E := Lib.hid (fun o1 o2 => refSame_any (SizeOf.sizeOf r.v + 1) r.v r'.v _ _ ((w.alloc o1).alloc o2) B (by omega) (h.below ((hb0 _ _).mono hB)) (h'.below ((hb0 _ _).mono hB)) (by simp; omega))
  have HR : Hid (recSame r r' = ((r.kind == r'.kind) && (r.port == r'.port) && (r.frm == r'.frm) && (r.to == r'.to) && (r.cls == r'.cls) && same true r.v r'.v)) := Lib.hid rfl
  clear hb0 h h'
  generalize recSame r r' = R at *
  obtain ⟨kind, port, frm, to, cls, v⟩ := r
  obtain ⟨kind', port', frm', to', cls', v'⟩ := r'
  dsimp only [recV] at *
  generalize same true v v' = Q at *
  by_cases h_kind : kind = kind'
  · subst h_kind
    have q_kind : (kind == kind) = true := by simp
    by_cases h_port : port = port'
    · subst h_port
      have q_port : (port == port) = true := by simp
      by_cases h_frm : frm = frm'
      · subst h_frm
        have q_frm : ((frm : Int) == (frm : Int)) = true := by simp
        by_cases h_to : to = to'
        · subst h_to
          have q_to : ((to : Int) == (to : Int)) = true := by simp
          by_cases h_cls : cls = cls'
          · subst h_cls
            have q_cls : (cls == cls) = true := by simp
            go_enter Try.func30, Try.ntmps30
            go_wp2_with fail
            refine (E.out _ _).mono ?_
            rintro e w2 ⟨rfl, hb2⟩
            go_wp2_with fail
            go_ret
            exact ⟨ret_bool (by rw [HR.out]; simp), (HB.out _ _).trans (hb2.mono (HB.out _ _).size)⟩
          · have q_cls : (cls == cls') = false := by simpa using h_cls
            go_enter Try.func30, Try.ntmps30
            go_wp2_with fail
            go_ret
            exact ⟨ret_bool (by rw [HR.out]; simp [h_cls]), HB.out _ _⟩
        · have q_to : ((to : Int) == (to' : Int)) = false := by simp; omega
          have p_to : (to == to') = false := by simpa using h_to
          go_enter Try.func30, Try.ntmps30
          go_wp2_with fail
          go_ret
          exact ⟨ret_bool (by rw [HR.out]; simp [h_to]), HB.out _ _⟩
      · have q_frm : ((frm : Int) == (frm' : Int)) = false := by simp; omega
        have p_frm : (frm == frm') = false := by simpa using h_frm
        go_enter Try.func30, Try.ntmps30
        go_wp2_with fail
        go_ret
        exact ⟨ret_bool (by rw [HR.out]; simp [h_frm]), HB.out _ _⟩
    · have q_port : (port == port') = false := by simpa using h_port
      go_enter Try.func30, Try.ntmps30
      go_wp2_with fail
      go_ret
      exact ⟨ret_bool (by rw [HR.out]; simp [h_port]), HB.out _ _⟩
  · have q_kind : (kind == kind') = false := by simpa using h_kind
    go_enter Try.func30, Try.ntmps30
    go_wp2_with fail
    go_ret
    exact ⟨ret_bool (by rw [HR.out]; simp [h_kind]), HB.out _ _⟩

theorem refApart_any (l l' : List Rec) (us us' : List Value) (A A' : Option Addr) (c c' : Nat) (w : World) (B : Nat) (h : IsRecs w B l us) (h' : IsRecs w B l' us') (hl : Lies w B A us) (hl' : Lies w B A' us') (hB : B ≤ w.heap.size) (k1 : l.length ≤ 35184372088832) (k2 : l'.length ≤ 35184372088832) :
    Calls Try.prog 14 #[.slice A l.length c, .slice A' l'.length c'] w fun e w' => e = .returned (.int .i64 (apartFrom 0 l l')) ∧ Below w.heap.size w w' := by
  have HS := Lib.hid h
  have HS' := Lib.hid h'
  have HL := Lib.hid hl
  have HL' := Lib.hid hl'
  clear h h' hl hl'
  skip
  go_enter Try.func14, Try.ntmps14
  go_wp2_with fail
  skip
  go_loopw [5] (fun i wr => ∃ k : Nat, k ≤ l.length ∧ k ≤ l'.length ∧ i = .int .i64 k ∧ Hid (apartFrom k (l.drop k) (l'.drop k) = apartFrom 0 l l') ∧ Below w.heap.size w wr) (fun i _ => l.length - (intOf i).toNat)
  case atStart => exact ⟨0, Nat.zero_le _, Nat.zero_le _, rfl, Lib.hid rfl, Below.refl _ _⟩
  case round =>
    obtain ⟨k, hk, hk', rfl, HT, hbel⟩ := hrel
    have hsz := hbel.size
    by_cases hlt : k < l.length
    · by_cases hlt' : k < l'.length
      · obtain ⟨b, off, r, S, X, xn, xc, Y, yn, yc, rfl, hb, HE, hr1, hr2, HA, g0, g1, g2, g3, g4, g5, g6, g7⟩ := rec_at HS.out HL.out (wr := wr) (fun p hp => hbel.cell (by omega)) hlt
        obtain ⟨b', off', r', S', X', xn', xc', Y', yn', yc', rfl, hb', HE', hr1', hr2', HA', g0', g1', g2', g3', g4', g5', g6', g7'⟩ := rec_at HS'.out HL'.out (wr := wr) (fun p hp => hbel.cell (by omega)) hlt'
        have hbw : b < wr.heap.size := by omega
        have hbw' : b' < wr.heap.size := by omega
        have HK : ∀ (x : Later wr) (o : Nat), x.w.cell? ⟨b, o, none⟩ = wr.cell? ⟨b, o, none⟩ := fun x o => x.b.cell (p := ⟨b, o, none⟩) hbw
        have HK' : ∀ (x : Later wr) (o : Nat), x.w.cell? ⟨b', o, none⟩ = wr.cell? ⟨b', o, none⟩ := fun x o => x.b.cell (p := ⟨b', o, none⟩) hbw'
        have hST : Hid (apartFrom k (l.drop k) (l'.drop k) = if recSame r r' then apartFrom (k + 1) (l.drop (k + 1)) (l'.drop (k + 1)) else (k : Int)) := Lib.hid (by rw [apartFrom_drop hlt hlt', HE.out, HE'.out])
        have FC := Lib.hid (fun (x : Later wr) => refRecSame_any r r' S X xn xc Y yn yc S' X' xn' xc' Y' yn' yc' x.w B (HA.out.1.below ((hbel.trans (x.b.mono (by omega))).mono hB)) (HA'.out.1.below ((hbel.trans (x.b.mono (by omega))).mono hB)) (by have := x.b.size; omega))
        generalize recSame r r' = RR at FC hST
        dsimp only [recV] at FC
        go_wp2_with fail
        refine wp_region_later wr (by kernel_rfl) (by kernel_rfl) (Below.drew_self wr) ?_
        repeat (go_big_quiet_step ((go_at_call 30; exact Later.call (FC.out _))))
        refine wpQuiet_nil ?_
        rintro _ ⟨⟨w4, hb4⟩, rfl⟩
        clear HK HK' g0 g1 g2 g3 g4 g5 g6 g7 g0' g1' g2' g3' g4' g5' g6' g7'
        have hb3 := hbel.trans (hb4.mono (by omega))
        cases RR
        · have HZ : Hid (apartFrom 0 l l' = (k : Int)) := Lib.hid (by rw [← HT.out, hST.out]; rfl)
          (first | rw [Bool.not_false] | rw [Bool.not_true])
          go_wp2_with fail
          go_ret
          exact ⟨ret_int (by rw [HZ.out]), hb3⟩
        · have HZ : Hid (apartFrom (k + 1) (l.drop (k + 1)) (l'.drop (k + 1)) = apartFrom 0 l l') := Lib.hid (by rw [← HT.out, hST.out]; rfl)
          (first | rw [Bool.not_false] | rw [Bool.not_true])
          go_wp2_with fail
          go_roundw
          case rel => exact ⟨k + 1, by omega, by omega, by go_num, HZ, hb3⟩
          case measure => simp [intOf]; omega
      · have HZ : Hid (apartFrom 0 l l' = -1) := Lib.hid (by rw [← HT.out, apartFrom_end (.inr (by omega))])
        (first | (exfalso; omega) | (go_wp2_with fail; go_ret; exact ⟨ret_int (by rw [HZ.out]), hbel⟩))
    · have HZ : Hid (apartFrom 0 l l' = -1) := Lib.hid (by rw [← HT.out, apartFrom_end (.inl (by omega))])
      (first | (exfalso; omega) | (go_wp2_with fail; go_ret; exact ⟨ret_int (by rw [HZ.out]), hbel⟩))

theorem apart_any (l l' : List Rec) (us us' : List Value) (A A' : Option Addr) (c c' : Nat) (w : World) (B : Nat) (h : IsRecs w B l us) (h' : IsRecs w B l' us') (hl : Lies w B A us) (hl' : Lies w B A' us') (hB : B ≤ w.heap.size) (k1 : l.length ≤ 35184372088832) (k2 : l'.length ≤ 35184372088832) :
    Calls Try.prog 15 #[.slice A l.length c, .slice A' l'.length c'] w fun e w' => e = .returned (.int .i64 (apartFrom 0 l l')) ∧ Below w.heap.size w w' := by
  have HS := Lib.hid h
  have HS' := Lib.hid h'
  have HL := Lib.hid hl
  have HL' := Lib.hid hl'
  clear h h' hl hl'
  rcases Nat.lt_or_ge l'.length l.length with hmin | hmin
  all_goals
    skip
    go_enter Try.func15, Try.ntmps15
    go_wp2_with fail
    skip
    go_loopw [5, 11] (fun _ i wr => ∃ k : Nat, k ≤ l.length ∧ k ≤ l'.length ∧ i = .int .i64 k ∧ Hid (apartFrom k (l.drop k) (l'.drop k) = apartFrom 0 l l') ∧ Below w.heap.size w wr) (fun _ i _ => l.length - (intOf i).toNat)
    case atStart => exact ⟨0, Nat.zero_le _, Nat.zero_le _, rfl, Lib.hid rfl, Below.refl _ _⟩
    case round =>
      obtain ⟨k, hk, hk', rfl, HT, hbel⟩ := hrel
      have hsz := hbel.size
      by_cases hlt : k < l.length
      · by_cases hlt' : k < l'.length
        · obtain ⟨b, off, r, S, X, xn, xc, Y, yn, yc, rfl, hb, HE, hr1, hr2, HA, g0, g1, g2, g3, g4, g5, g6, g7⟩ := rec_at HS.out HL.out (wr := wr) (fun p hp => hbel.cell (by omega)) hlt
          obtain ⟨b', off', r', S', X', xn', xc', Y', yn', yc', rfl, hb', HE', hr1', hr2', HA', g0', g1', g2', g3', g4', g5', g6', g7'⟩ := rec_at HS'.out HL'.out (wr := wr) (fun p hp => hbel.cell (by omega)) hlt'
          have hbw : b < wr.heap.size := by omega
          have hbw' : b' < wr.heap.size := by omega
          have HK : ∀ (x : Later wr) (o : Nat), x.w.cell? ⟨b, o, none⟩ = wr.cell? ⟨b, o, none⟩ := fun x o => x.b.cell (p := ⟨b, o, none⟩) hbw
          have HK' : ∀ (x : Later wr) (o : Nat), x.w.cell? ⟨b', o, none⟩ = wr.cell? ⟨b', o, none⟩ := fun x o => x.b.cell (p := ⟨b', o, none⟩) hbw'
          have hST : Hid (apartFrom k (l.drop k) (l'.drop k) = if recSame r r' then apartFrom (k + 1) (l.drop (k + 1)) (l'.drop (k + 1)) else (k : Int)) := Lib.hid (by rw [apartFrom_drop hlt hlt', HE.out, HE'.out])
          have FC := Lib.hid (fun (x : Later wr) => recSame_any r r' S X xn xc Y yn yc S' X' xn' xc' Y' yn' yc' x.w B (HA.out.1.below ((hbel.trans (x.b.mono (by omega))).mono hB)) (HA'.out.1.below ((hbel.trans (x.b.mono (by omega))).mono hB)) (by have := x.b.size; omega))
          generalize recSame r r' = RR at FC hST
          dsimp only [recV] at FC
          go_wp2_with fail
          refine wp_region_later wr (by kernel_rfl) (by kernel_rfl) (Below.drew_self wr) ?_
          repeat (go_big_quiet_step ((go_at_call 31; exact Later.call (FC.out _))))
          refine wpQuiet_nil ?_
          rintro _ ⟨⟨w4, hb4⟩, rfl⟩
          clear HK HK' g0 g1 g2 g3 g4 g5 g6 g7 g0' g1' g2' g3' g4' g5' g6' g7'
          have hb3 := hbel.trans (hb4.mono (by omega))
          cases RR
          · have HZ : Hid (apartFrom 0 l l' = (k : Int)) := Lib.hid (by rw [← HT.out, hST.out]; rfl)
            (first | rw [Bool.not_false] | rw [Bool.not_true])
            go_wp2_with fail
            go_ret
            exact ⟨ret_int (by rw [HZ.out]), hb3⟩
          · have HZ : Hid (apartFrom (k + 1) (l.drop (k + 1)) (l'.drop (k + 1)) = apartFrom 0 l l') := Lib.hid (by rw [← HT.out, hST.out]; rfl)
            (first | rw [Bool.not_false] | rw [Bool.not_true])
            go_wp2_with fail
            go_roundw
            case rel => exact ⟨k + 1, by omega, by omega, by go_num, HZ, hb3⟩
            case measure => simp [intOf]; omega
        · have HZ : Hid (apartFrom 0 l l' = -1) := Lib.hid (by rw [← HT.out, apartFrom_end (.inr (by omega))])
          (first | (exfalso; omega) | (go_wp2_with fail; go_ret; exact ⟨ret_int (by rw [HZ.out]), hbel⟩))
      · have HZ : Hid (apartFrom 0 l l' = -1) := Lib.hid (by rw [← HT.out, apartFrom_end (.inl (by omega))])
        (first | (exfalso; omega) | (go_wp2_with fail; go_ret; exact ⟨ret_int (by rw [HZ.out]), hbel⟩))

end Go.Proofs.Ytfiobbhicicchaa
