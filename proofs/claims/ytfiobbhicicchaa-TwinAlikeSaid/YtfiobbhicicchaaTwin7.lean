/-
  few, chapter 34's example, and the walk of scrimlaw34.TwinApart.
-/
import Derived.Test.YtfiobbhicicchaaTwin6
import Derived.Test.YtfiobbhicicchaaArrFew
import Derived.Deep.DeepCutAuto
import Derived.BigFrame
import Derived.Laws.Tables
namespace Go.Proofs.Ytfiobbhicicchaa
open Go.RowKit Ar
set_option maxHeartbeats 4000000
set_option maxRecDepth 100000
set_option linter.unusedVariables false

theorem few34_any (A : Option Addr) (cp : Nat) (rs : List Rec) (us : List Value) (w : World) (B : Nat) (hl : Lies w B A us) (hrs : IsRecs w B rs us) (hB : B ≤ w.heap.size) (hn : rs.length ≤ 9223372036854775807) :
    Calls Try.prog 13 #[.slice A rs.length cp] w (SomeBool w) := by
  have HL := Lib.hid hl
  have HR := Lib.hid hrs
  clear hl hrs
  by_cases h60 : rs.length ≤ 60
  · go_enter Try.func13, Try.ntmps13
    go_wp2_with fail
    go_loopw [3] (fun i wr => ∃ k : Nat, k ≤ rs.length ∧ i = .int .i64 k ∧ Below w.heap.size w wr) (fun i _ => rs.length - (intOf i).toNat)
    case atStart => exact ⟨0, Nat.zero_le _, rfl, Below.refl _ _⟩
    case round =>
      obtain ⟨k, hk, rfl, hbel⟩ := hrel
      have hsz := hbel.size
      by_cases hlt : k < rs.length
      · obtain ⟨b, off, r, S', X, xn, xc, X', xn', xc', rfl, hb, HE, hr1, hr2, HA, g0, g1, g2, g3, g4, g5, g6, g7⟩ := rec_at HR.out HL.out (wr := wr) (fun p hp => hbel.cell (by omega)) hlt
        have FW := Lib.hid (fewArr_any r.v _ wr B (HA.out.1.below (hbel.mono hB)) (by omega))
        go_wp2_with fail
        refine FW.out.mono ?_
        rintro e w2 ⟨rb, rfl, hb2⟩
        have hb3 := hbel.trans (hb2.mono (by omega))
        cases rb
        · go_wp2_with fail
          go_ret
          exact ⟨false, rfl, hb3⟩
        · go_wp2_with fail
          go_roundw
          case rel => exact ⟨k + 1, by omega, by go_num, hb3⟩
          case measure => simp [intOf]; omega
      · go_wp2_with fail
        go_ret
        exact ⟨true, rfl, hbel⟩
  · have h60' : 60 < rs.length := by omega
    go_enter Try.func13, Try.ntmps13
    go_wp2_with fail
    go_ret
    exact ⟨false, rfl, Below.refl _ _⟩

def cfgE : Cfg := { clear := fun k => if k = 2 then 2 else 0, label := fun _ => 0, ins := fun _ => [], draws := fun _ => [], auth := 0, fuel := 0, quota := 0, depth := 0 }
def cfgF : Cfg := { cfgE with ins := fun k => if k = 2 then [.mk 0 [] []] else [] }
theorem alikeE1 : alikeB 1 cfgE cfgF = true := by
  simp [alikeB, l8, rowsFrom, rowB, hideCfg, cfgE, cfgF, sameArrs, List.range, List.range.loop, Lab.flows, Lab.join]
theorem alikeE3 : alikeB 3 cfgE cfgF = false := by
  simp [alikeB, l8, rowsFrom, rowB, hideCfg, cfgE, cfgF, sameArrs, List.range, List.range.loop, Lab.flows, Lab.join]
theorem blindE : blindB [] [] = true := by simp [blindB, apartFrom]
def arrE : Array Value := #[.int .u64 0, .int .u64 0, .int .u64 2, .int .u64 0, .int .u64 0, .int .u64 0, .int .u64 0, .int .u64 0, .slice none 0 0, .slice none 0 0, .slice none 0 0, .slice none 0 0, .slice none 0 0, .slice none 0 0, .slice none 0 0, .slice none 0 0, .int .u64 0, .int .u64 0, .int .u64 0, .int .u64 0, .int .u64 0, .int .u64 0, .int .u64 0, .int .u64 0, .slice none 0 0, .slice none 0 0, .slice none 0 0, .slice none 0 0, .slice none 0 0, .slice none 0 0, .slice none 0 0, .slice none 0 0, .int .u64 0, .int .i64 0, .int .i64 0, .int .i64 0]
def arrF (b : Nat) : Array Value := #[.int .u64 0, .int .u64 0, .int .u64 2, .int .u64 0, .int .u64 0, .int .u64 0, .int .u64 0, .int .u64 0, .slice none 0 0, .slice none 0 0, .slice (some ⟨b, 0, none⟩) 1 1, .slice none 0 0, .slice none 0 0, .slice none 0 0, .slice none 0 0, .slice none 0 0, .int .u64 0, .int .u64 0, .int .u64 0, .int .u64 0, .int .u64 0, .int .u64 0, .int .u64 0, .int .u64 0, .slice none 0 0, .slice none 0 0, .slice none 0 0, .slice none 0 0, .slice none 0 0, .slice none 0 0, .slice none 0 0, .slice none 0 0, .int .u64 0, .int .i64 0, .int .i64 0, .int .i64 0]
theorem eight {p : Nat → Prop} (h : p 0 ∧ p 1 ∧ p 2 ∧ p 3 ∧ p 4 ∧ p 5 ∧ p 6 ∧ p 7) : ∀ k, k < 8 → p k := fun k hk => by
  obtain ⟨h0, h1, h2, h3, h4, h5, h6, h7⟩ := h
  rcases (show k = 0 ∨ k = 1 ∨ k = 2 ∨ k = 3 ∨ k = 4 ∨ k = 5 ∨ k = 6 ∨ k = 7 by omega) with rfl | rfl | rfl | rfl | rfl | rfl | rfl | rfl <;> assumption
theorem noIns {w : World} {B : Nat} {v : Option Value} (h : v = some (.slice none 0 0)) : ∃ A cp us, v = some (.slice A ([] : List Arr).length cp) ∧ Fits ([] : List Arr).length cp 56 ∧ Lies w B A us ∧ IsArrs w B [] us := ⟨none, 0, [], h, ⟨Nat.le_refl _, by simp, by omega⟩, .inl rfl, by rw [IsArrs]⟩
theorem noDraws {w : World} {B : Nat} {v : Option Value} (h : v = some (.slice none 0 0)) : ∃ A cp, v = some (.slice A ([] : List Int).length cp) ∧ Fits ([] : List Int).length cp 8 ∧ Wf64 [] ∧ Lies w B A (I64 []) := ⟨none, 0, h, ⟨Nat.le_refl _, by simp, by omega⟩, (fun n h => by cases h), .inl rfl⟩
theorem wf000 : Wf64 [0, 0, 0] := fun n h => by
  have : n = 0 := by simpa using h
  subst this; omega
theorem isE (w : World) (B : Nat) : IsCfg w B cfgE arrE where
  size := rfl
  clear := eight ⟨⟨rfl, by decide⟩, ⟨rfl, by decide⟩, ⟨rfl, by decide⟩, ⟨rfl, by decide⟩, ⟨rfl, by decide⟩, ⟨rfl, by decide⟩, ⟨rfl, by decide⟩, ⟨rfl, by decide⟩⟩
  label := eight ⟨⟨rfl, by decide⟩, ⟨rfl, by decide⟩, ⟨rfl, by decide⟩, ⟨rfl, by decide⟩, ⟨rfl, by decide⟩, ⟨rfl, by decide⟩, ⟨rfl, by decide⟩, ⟨rfl, by decide⟩⟩
  ins := eight ⟨noIns rfl, noIns rfl, noIns rfl, noIns rfl, noIns rfl, noIns rfl, noIns rfl, noIns rfl⟩
  draws := eight ⟨noDraws rfl, noDraws rfl, noDraws rfl, noDraws rfl, noDraws rfl, noDraws rfl, noDraws rfl, noDraws rfl⟩
  auth := rfl
  authLt := by decide
  fuel := rfl
  quota := rfl
  depth := rfl
  wf := wf000
theorem isF (w : World) (B b : Nat) (hl : Lies w B (some ⟨b, 0, none⟩) [.int .u64 0, .slice none 0 0, .slice none 0 0]) : IsCfg w B cfgF (arrF b) where
  size := rfl
  clear := eight ⟨⟨rfl, by decide⟩, ⟨rfl, by decide⟩, ⟨rfl, by decide⟩, ⟨rfl, by decide⟩, ⟨rfl, by decide⟩, ⟨rfl, by decide⟩, ⟨rfl, by decide⟩, ⟨rfl, by decide⟩⟩
  label := eight ⟨⟨rfl, by decide⟩, ⟨rfl, by decide⟩, ⟨rfl, by decide⟩, ⟨rfl, by decide⟩, ⟨rfl, by decide⟩, ⟨rfl, by decide⟩, ⟨rfl, by decide⟩, ⟨rfl, by decide⟩⟩
  ins := eight ⟨noIns rfl, noIns rfl, ⟨some ⟨b, 0, none⟩, 1, [.int .u64 0, .slice none 0 0, .slice none 0 0], rfl, ⟨by decide, by decide, by omega⟩, hl, by
      show IsArrs w B [.mk 0 [] []] _
      rw [IsArrs]
      refine ⟨[.int .u64 0, .slice none 0 0, .slice none 0 0], [], rfl, ?_, by rw [IsArrs]⟩
      rw [IsArr]
      exact ⟨none, 0, none, 0, [], rfl, by decide, ⟨Nat.le_refl _, by decide, by omega⟩, ⟨Nat.le_refl _, by decide, by omega⟩, (fun n h => by cases h), .inl rfl, .inl rfl, by rw [IsCels]⟩⟩, noIns rfl, noIns rfl, noIns rfl, noIns rfl, noIns rfl⟩
  draws := eight ⟨noDraws rfl, noDraws rfl, noDraws rfl, noDraws rfl, noDraws rfl, noDraws rfl, noDraws rfl, noDraws rfl⟩
  auth := rfl
  authLt := by decide
  fuel := rfl
  quota := rfl
  depth := rfl
  wf := wf000

/-- A whole variable is read, behind a guard that holds. -/
theorem wpList_load_rowG {P : Program} {ops : Array Oper} {rest : List Oper} {o : Oper} {a : Act} {w : World} {Q : Exit → Act → World → Prop} (hw : Region.wanted o (yielded ops a.tmps) = true) (ty : TypeId) (x : Operand) (ho : o.op = .load ty x)
    (g : Nat) (hx : a.eval x = .pointer (some ⟨g, 0, none⟩)) (t : TypeId) (cs : Array Value) (fr : Nat × Nat) (d : TypeDesc) (hg : w.heap[g]? = some (.cells cs t fr))
    (hu : P.underlying ty = some d) (hd : (match d with | .struct _ | .array _ _ => true | _ => false) = true) (hi : (P.info? ty).map (·.size) = some cs.size)
    (h : wpList P ops Q rest (a.put o.dst (.agg cs)) w) : wpList P ops Q (o :: rest) a w :=
  BigFrame.wpList_want hw fun _ hK => wp_load_row ty x ho g hx t cs fr d hg hu hd hi (hK _ _ h)
theorem Blk.setRow_ {w : World} {g : Nat} {t : TypeId} {vs : List Value} (h : Blk w g t vs) (cs : Array Value) : Blk (w.setRow g cs) g t cs.toList := heap_setRow_same h
theorem one_zeroC : zeroC.all (·.oneCell') = true := by kernel_rfl
theorem one_arrE : arrE.all (·.oneCell') = true := by kernel_rfl

theorem awake34_any (w : World) :
    Calls Try.prog 7 #[] w fun e w' => e = .returned (.bool true) ∧ Below w.heap.size w w' := by
  have HZI : Hid ((Try.prog.info? 29).map (·.size) = some zeroC.size) := Lib.hid cfg_info
  have HEI : Hid ((Try.prog.info? 29).map (·.size) = some arrE.size) := Lib.hid cfg_info
  have HFI : Hid (∀ b, (Try.prog.info? 29).map (·.size) = some (arrF b).size) := Lib.hid (fun _ => cfg_info)
  have HBU : Hid ((Try.prog.built 29 []).getD #[] = zeroC) := Lib.hid (by kernel_rfl)
  have HAN := Lib.hid (fun (wx : World) (ob : Obj) => heap_alloc_new wx ob)
  go_enter Try.func7, Try.ntmps7
  go_upto_region 2 with (first
    | (refine wpList_build rfl 29 #[] rfl (by kernel_rfl) ?_; rw [show ((#[] : Array (Nat × Operand)).map _).toList = [] from rfl, HBU.out])
    | (refine wpList_store_row rfl 29 (.tmp 1) (.tmp 3) rfl w.heap.size zeroC rfl rfl 29 zeroC (HAN.out _ _) HZI.out rfl one_zeroC ?_))
  refine code_world ?_
  intro W1 hW1
  have hs1 : W1.heap.size = w.heap.size + 1 := by rw [hW1, size_setRow]; simp
  have hb1 : Below w.heap.size w W1 := by rw [hW1]; exact Below.setRow' ((Below.refl _ _).alloc (Nat.le_refl _) _) (Nat.le_refl _) _
  have hB1 : Blk W1 w.heap.size 29 zeroC.toList := by rw [hW1]; exact heap_setRow_same (heap_alloc_new _ _)
  clear hW1
  have q1 : W1.cell? ⟨w.heap.size, 2, none⟩ = some (.int .u64 0) := hB1.cell rfl
  have f1 := hB1.frozen 2
  have HB2 : Hid (Blk (W1.setCell ⟨w.heap.size, 2, none⟩ (.int .u64 2)) w.heap.size 29 arrE.toList) := Lib.hid (hB1.set_ 2 (.int .u64 2))
  have hb2 : Below w.heap.size w (W1.setCell ⟨w.heap.size, 2, none⟩ (.int .u64 2)) := hb1.setCell (Nat.le_refl _) _
  have hs2 : (W1.setCell ⟨w.heap.size, 2, none⟩ (.int .u64 2)).heap.size = w.heap.size + 1 := by simpa using hs1
  go_upto_region 3 with fail
  clear q1 f1 hB1 hb1 hs1
  generalize W1.setCell ⟨w.heap.size, 2, none⟩ (.int .u64 2) = W2 at HB2 hb2 hs2 ⊢
  have HR2 : Hid (W2.heap[w.heap.size]? = some (.cells arrE 29 (0, 0))) := Lib.hid HB2.out
  have hs2' : w.heap.size < W2.heap.size := by omega
  clear hs2
  go_upto_region 4 with (first
    | (refine wpList_load_row rfl 29 (.tmp 1) rfl w.heap.size rfl 29 arrE (0, 0) _ HR2.out Try.underlying29 rfl HEI.out ?_)
    | (refine wpList_store_row rfl 29 (.tmp 2) (.tmp 6) rfl W2.heap.size arrE rfl rfl 29 zeroC (HAN.out _ _) HEI.out rfl one_arrE ?_))
  refine code_world ?_
  intro W3 hW3
  have hs3 : W3.heap.size = W2.heap.size + 1 := by rw [hW3, size_setRow]; simp
  have hb3 : Below w.heap.size w W3 := by rw [hW3]; exact Below.setRow' (hb2.alloc hb2.size _) hb2.size _
  have hB3 : Blk W3 W2.heap.size 29 arrE.toList := by rw [hW3]; exact heap_setRow_same (heap_alloc_new _ _)
  have hR3 : W3.heap[w.heap.size]? = some (.cells arrE 29 (0, 0)) := by rw [hW3, heap_setRow_far (by omega)]; exact (Below.heap_alloc _ _ _ hs2').trans HR2.out
  clear hW3 HR2 HB2 hb2
  generalize W2.heap.size = h at *
  have hx1 : ∀ ob, (W3.alloc ob).cell? ⟨h, 10, none⟩ = some (.slice none 0 0) := fun ob => (hB3.alloc ob).cell rfl
  have hx2 : ∀ ob, (W3.alloc ob).frozen? ⟨h, 10, none⟩ = false := fun ob => (hB3.alloc ob).frozen 10
  have HS3 := Lib.hid hs3
  have hs3' : h < W3.heap.size := by omega
  clear hs3
  go_upto_region 5 with fail
  refine code_world ?_
  intro W4 hW4
  have hs4 : W4.heap.size = h + 1 + 1 := by rw [hW4]; simp; exact HS3.out
  have hb4 : Below w.heap.size w W4 := by rw [hW4]; exact (hb3.setCell (p := ⟨h, 10, none⟩) (show w.heap.size ≤ h by omega) _).alloc (by simpa using hb3.size) _
  have hB4 : Blk W4 h 29 (arrF W3.heap.size).toList := by rw [hW4]; exact (hB3.set_ 10 (.slice (some ⟨W3.heap.size, 0, none⟩) 1 1)).alloc _
  have hR4 : W4.heap[w.heap.size]? = some (.cells arrE 29 (0, 0)) := by
    rw [hW4, Below.heap_alloc _ _ _ (by simp; omega), Below.heap_setCell W3 ⟨h, 10, none⟩ _ w.heap.size (show w.heap.size ≠ h by omega)]; exact hR3
  have hL4 : Lies W4 W4.heap.size (some ⟨W3.heap.size, 0, none⟩) [.int .u64 0, .slice none 0 0, .slice none 0 0] := by
    have h0 := Lies.new (W3.setCell ⟨h, 10, none⟩ (.slice (some ⟨W3.heap.size, 0, none⟩) 1 1)) [.int .u64 0, .slice none 0 0, .slice none 0 0] 42
    rw [show (W3.setCell ⟨h, 10, none⟩ (.slice (some ⟨W3.heap.size, 0, none⟩) 1 1)).heap.size = W3.heap.size by simp] at h0
    rw [hs4, hW4, ← HS3.out]
    exact h0
  clear hW4
  have HR4 := Lib.hid hR4
  have HF4 : Hid (W4.heap[h]? = some (.cells (arrF W3.heap.size) 29 (0, 0))) := Lib.hid hB4
  have A1 := Lib.hid (fun (wx : World) (hx : Below W4.heap.size W4 wx) => alike_any cfgE cfgF arrE (arrF W3.heap.size) 1 wx W4.heap.size (isE _ _) (isF _ _ _ (hL4.below hx)) hx.size (by decide))
  have A3 := Lib.hid (fun (wx : World) (hx : Below W4.heap.size W4 wx) => alike_any cfgE cfgF arrE (arrF W3.heap.size) 3 wx W4.heap.size (isE _ _) (isF _ _ _ (hL4.below hx)) hx.size (by decide))
  have BL := Lib.hid (fun (wx : World) => blind_any [] [] [] [] none none 0 0 wx 0 rfl rfl (.inl rfl) (.inl rfl) (Nat.zero_le _) (by simp) (by simp))
  rw [alikeE1] at A1
  rw [alikeE3] at A3
  rw [blindE] at BL
  have hs4' : w.heap.size < W4.heap.size := by omega
  have hs4'' : h < W4.heap.size := by omega
  clear hL4 hB4 hR4 hR3 hB3 hx1 hx2 hs4 HS3 hb3
  generalize hX : arrF W3.heap.size = X at *
  have HXI : Hid ((Try.prog.info? 29).map (·.size) = some X.size) := Lib.hid (by rw [← hX]; exact cfg_info)
  clear hX
  go_wp2_with (first
    | (with_reducible refine wpList_load_row rfl 29 (.tmp 1) rfl w.heap.size rfl 29 arrE (0, 0) _ HR4.out Try.underlying29 rfl HEI.out ?_)
    | (with_reducible refine wpList_load_row rfl 29 (.tmp 2) rfl h rfl 29 X (0, 0) _ HF4.out Try.underlying29 rfl HXI.out ?_))
  refine (A1.out _ (Below.refl _ _)).mono ?_
  rintro e w5 ⟨rfl, hb5⟩
  have HR5 := Lib.hid ((hb5.block w.heap.size hs4').trans HR4.out)
  have HF5 := Lib.hid ((hb5.block h hs4'').trans HF4.out)
  go_wp2_with (first
    | (refine wpList_load_rowG rfl 29 (.tmp 1) rfl w.heap.size rfl 29 arrE (0, 0) _ HR5.out Try.underlying29 rfl HEI.out ?_)
    | (refine wpList_load_rowG rfl 29 (.tmp 2) rfl h rfl 29 X (0, 0) _ HF5.out Try.underlying29 rfl HXI.out ?_))
  refine (A3.out _ hb5).mono ?_
  rintro e w6 ⟨rfl, hb6⟩
  have hb7 := hb5.trans (hb6.mono hb5.size)
  go_wp2_with fail
  refine (BL.out _).mono ?_
  rintro e w7 ⟨rfl, hb8⟩
  go_wp2_with fail
  go_ret
  exact ⟨rfl, (hb4.trans (hb7.mono (by omega))).trans (hb8.mono (Nat.le_trans hb4.size hb7.size))⟩

theorem wantB (l l' : List Rec) (k : Nat) (hk1 : k < l.length) (hk2 : k < l'.length) (ha : apartFrom 0 l l' = (k : Int)) : blindB l l' = ((l[k].kind == 2) && (l'[k].kind == 2) && (l[k].to == l'[k].to)) := by
  unfold blindB blindAt
  rw [ha]
  simp [List.getElem?_eq_getElem hk1, List.getElem?_eq_getElem hk2]
  intro h; omega

theorem twinApart_walk (A : Option Addr) (c : Nat) (l : List Rec) (us : List Value) (A' : Option Addr) (c' : Nat) (l' : List Rec) (us' : List Value) (w : World) (hf : Fits l.length c 96) (hl : Lies w w.heap.size A us) (h : IsRecs w w.heap.size l us) (hf' : Fits l'.length c' 96) (hl' : Lies w w.heap.size A' us') (h' : IsRecs w w.heap.size l' us') :
    Calls Try.prog 5 #[.slice A l.length c, .slice A' l'.length c'] w fun e w' => e = .returned (.bool true) ∧ Below w.heap.size w w' := by
  have k1 : l.length ≤ 35184372088832 := by have := hf.2.1; omega
  have k2 : l'.length ≤ 35184372088832 := by have := hf'.2.1; omega
  have hc1 : l.length ≤ c ∧ c ≤ 9223372036854775807 := ⟨hf.1, hf.2.2⟩
  have hc2 : l'.length ≤ c' ∧ c' ≤ 9223372036854775807 := ⟨hf'.1, hf'.2.2⟩
  have F1 := Lib.hid (fun (wx : World) (hx : Below w.heap.size w wx) => few34_any A c l us wx w.heap.size (hl.below hx) (h.below hx) hx.size (by omega))
  have F2 := Lib.hid (fun (wx : World) (hx : Below w.heap.size w wx) => few34_any A' c' l' us' wx w.heap.size (hl'.below hx) (h'.below hx) hx.size (by omega))
  have RA := Lib.hid (fun (wx : World) (hx : Below w.heap.size w wx) => refApart_any l l' us us' A A' c c' wx w.heap.size (h.below hx) (h'.below hx) (hl.below hx) (hl'.below hx) hx.size k1 k2)
  have TA := Lib.hid (fun (wx : World) (hx : Below w.heap.size w wx) => apart_any l l' us us' A A' c c' wx w.heap.size (h.below hx) (h'.below hx) (hl.below hx) (hl'.below hx) hx.size k1 k2)
  have TB := Lib.hid (fun (wx : World) (hx : Below w.heap.size w wx) => blind_any l l' us us' A A' c c' wx w.heap.size (h.below hx) (h'.below hx) (hl.below hx) (hl'.below hx) hx.size k1 k2)
  have AW := Lib.hid awake34_any
  have HS := Lib.hid h
  have HS' := Lib.hid h'
  have HL := Lib.hid hl
  have HL' := Lib.hid hl'
  clear h h' hl hl' hf hf'
  rcases apartFrom_lt 0 l l' with ha | ⟨k, ha, hk1, hk2⟩
  · have hbb : blindB l l' = true := by unfold blindB; rw [ha]; rfl
    rw [ha] at RA TA
    rw [hbb] at TB
    clear ha hbb
    go_enter Try.func5, Try.ntmps5
    go_wp2_with fail
    refine (F1.out _ (Below.refl _ _)).mono ?_
    rintro e w1 ⟨r1, rfl, hb1⟩
    cases r1
    · go_wp2_with fail
      refine (AW.out _).mono ?_
      rintro e w2 ⟨rfl, hb2⟩
      go_wp2_with fail
      go_ret
      exact ⟨rfl, hb1.trans (hb2.mono hb1.size)⟩
    · go_wp2_with fail
      refine (F2.out _ hb1).mono ?_
      rintro e w2 ⟨r2, rfl, hb2⟩
      have hb3 := hb1.trans (hb2.mono hb1.size)
      clear hb1 hb2
      cases r2
      · go_wp2_with fail
        refine (AW.out _).mono ?_
        rintro e w4 ⟨rfl, hb4⟩
        go_wp2_with fail
        go_ret
        exact ⟨rfl, hb3.trans (hb4.mono hb3.size)⟩
      · go_wp2_with fail
        refine (RA.out _ hb3).mono ?_
        rintro e w4 ⟨rfl, hb4⟩
        have hb5 := hb3.trans (hb4.mono hb3.size)
        clear hb3 hb4
        go_wp2_with fail
        go_quiet (fail)
        have hb6 := below_drewN' hb5 nq
        go_wp2_with fail
        refine (TA.out _ hb6).mono ?_
        rintro e w6 ⟨rfl, hb7⟩
        have hb8 := hb6.trans (hb7.mono hb6.size)
        clear hb5 hb6 hb7
        go_wp2_with fail
        refine (TB.out _ hb8).mono ?_
        rintro e w7 ⟨rfl, hb9⟩
        have hb10 := hb8.trans (hb9.mono hb8.size)
        go_wp2_with fail
        refine (AW.out _).mono ?_
        rintro e w8 ⟨rfl, hb11⟩
        go_wp2_with fail
        go_ret
        exact ⟨rfl, hb10.trans (hb11.mono hb10.size)⟩
  · rw [Nat.zero_add] at ha
    have hbb := wantB l l' k hk1 hk2 ha
    rw [ha] at RA TA
    rw [hbb] at TB
    clear ha hbb
    have hk0 : (0 : Int) ≤ (k : Int) := by omega
    have hki : (k : Int) < (l.length : Int) := by omega
    have hki' : (k : Int) < (l'.length : Int) := by omega
    have hneg : decide ((k : Int) < 0) = false := by simp
    obtain ⟨kd, hkd⟩ : ∃ r, r = l[k] := ⟨_, rfl⟩
    obtain ⟨kd', hkd'⟩ : ∃ r, r = l'[k] := ⟨_, rfl⟩
    rw [← hkd, ← hkd'] at TB
    have HE1 := Lib.hid hkd
    have HE2 := Lib.hid hkd'
    clear hkd hkd'
    have HC : Hid (∀ (wx : World) (hx : Below w.heap.size w wx), ∃ b off b' off', A = some ⟨b, off, none⟩ ∧ A' = some ⟨b', off', none⟩ ∧ wx.cell? ⟨b, off + k * 8, none⟩ = some (.int .i64 kd.kind) ∧ wx.cell? ⟨b', off' + k * 8, none⟩ = some (.int .i64 kd'.kind) ∧ wx.cell? ⟨b, off + k * 8 + 3, none⟩ = some (.int .u64 (kd.to : Int)) ∧ wx.cell? ⟨b', off' + k * 8 + 3, none⟩ = some (.int .u64 (kd'.to : Int))) := Lib.hid (fun wx hx => by
      obtain ⟨b, off, r, S, X, xn, xc, Y, yn, yc, e1, hb, HE, hr1, hr2, HA, g0, g1, g2, g3, g4, g5, g6, g7⟩ := rec_at HS.out HL.out (wr := wx) (fun p hp => hx.cell hp) hk1
      obtain ⟨b', off', r', S', X', xn', xc', Y', yn', yc', e1', hb', HE', hr1', hr2', HA', g0', g1', g2', g3', g4', g5', g6', g7'⟩ := rec_at HS'.out HL'.out (wr := wx) (fun p hp => hx.cell hp) hk2
      have q1 : r = kd := by rw [HE1.out, HE.out]
      have q2 : r' = kd' := by rw [HE2.out, HE'.out]
      subst q1 q2
      exact ⟨b, off, b', off', e1, e1', g0, g0', g3, g3'⟩)
    obtain ⟨b, off, b', off', rfl, rfl, _⟩ := HC.out w (Below.refl _ _)
    have HC2 : Hid (∀ (wx : World) (hx : Below w.heap.size w wx), wx.cell? ⟨b, off + k * 8, none⟩ = some (.int .i64 kd.kind) ∧ wx.cell? ⟨b', off' + k * 8, none⟩ = some (.int .i64 kd'.kind) ∧ wx.cell? ⟨b, off + k * 8 + 3, none⟩ = some (.int .u64 (kd.to : Int)) ∧ wx.cell? ⟨b', off' + k * 8 + 3, none⟩ = some (.int .u64 (kd'.to : Int))) := Lib.hid (fun wx hx => by
      obtain ⟨b1, off1, b1', off1', e1, e2, h1⟩ := HC.out wx hx
      injection e1 with e1
      injection e1 with e1 e3
      injection e2 with e2
      injection e2 with e2 e4
      subst e1 e2 e3 e4
      exact h1)
    clear HC HE1 HE2 HS HS' HL HL'
    generalize kd.kind = kn at *
    generalize kd'.kind = kn' at *
    generalize kd.to = tn at *
    generalize kd'.to = tn' at *
    rename_i hdrop
    clear hdrop
    have hkk : ((k : Int) == (k : Int)) = true := by simp
    go_enter Try.func5, Try.ntmps5
    go_wp2_with fail
    refine (F1.out _ (Below.refl _ _)).mono ?_
    rintro e w1 ⟨r1, rfl, hb1⟩
    cases r1
    · go_wp2_with fail
      refine (AW.out _).mono ?_
      rintro e w2 ⟨rfl, hb2⟩
      go_wp2_with fail
      go_ret
      exact ⟨rfl, hb1.trans (hb2.mono hb1.size)⟩
    · go_wp2_with fail
      refine (F2.out _ hb1).mono ?_
      rintro e w2 ⟨r2, rfl, hb2⟩
      have hb3 := hb1.trans (hb2.mono hb1.size)
      clear hb1 hb2
      cases r2
      · go_wp2_with fail
        refine (AW.out _).mono ?_
        rintro e w4 ⟨rfl, hb4⟩
        go_wp2_with fail
        go_ret
        exact ⟨rfl, hb3.trans (hb4.mono hb3.size)⟩
      · go_wp2_with fail
        refine (RA.out _ hb3).mono ?_
        rintro e w4 ⟨rfl, hb4⟩
        have hb5 := hb3.trans (hb4.mono hb3.size)
        clear hb3 hb4
        obtain ⟨g0, g0', g3, g3'⟩ := HC2.out w4 hb5
        obtain ⟨bb, hbb⟩ : ∃ bb, bb = ((kn == 2) && (kn' == 2) && (tn == tn')) := ⟨_, rfl⟩
        rw [← hbb] at TB
        have hcut : (kn == 2) = false ∧ bb = false ∨ (kn == 2) = true ∧ (kn' == 2) = false ∧ bb = false ∨ (kn == 2) = true ∧ (kn' == 2) = true ∧ tn ≠ tn' ∧ bb = false ∨ (kn == 2) = true ∧ (kn' == 2) = true ∧ tn = tn' ∧ bb = true := by
          rw [hbb]
          cases (kn == 2) <;> cases (kn' == 2) <;> simp
          omega
        clear hbb
        rcases hcut with ⟨q1, rfl⟩ | ⟨q1, q2, rfl⟩ | ⟨q1, q2, q3, rfl⟩ | ⟨q1, q2, q3, rfl⟩
        · go_wp2_with fail
          go_quiet (fail)
          have hb6 := below_drewN' hb5 nq
          go_wp2_with fail
          refine (TA.out _ hb6).mono ?_
          rintro e w6 ⟨rfl, hb7⟩
          have hb8 := hb6.trans (hb7.mono hb6.size)
          clear hb5 hb6 hb7 g0 g0' g3 g3'
          go_wp2_with fail
          refine (TB.out _ hb8).mono ?_
          rintro e w7 ⟨rfl, hb9⟩
          have hb10 := hb8.trans (hb9.mono hb8.size)
          go_wp2_with fail
          refine (AW.out _).mono ?_
          rintro e w8 ⟨rfl, hb11⟩
          go_wp2_with fail
          go_ret
          exact ⟨rfl, hb10.trans (hb11.mono hb10.size)⟩
        · go_wp2_with fail
          go_quiet (fail)
          have hb6 := below_drewN' hb5 nq
          go_wp2_with fail
          refine (TA.out _ hb6).mono ?_
          rintro e w6 ⟨rfl, hb7⟩
          have hb8 := hb6.trans (hb7.mono hb6.size)
          clear hb5 hb6 hb7 g0 g0' g3 g3'
          go_wp2_with fail
          refine (TB.out _ hb8).mono ?_
          rintro e w7 ⟨rfl, hb9⟩
          have hb10 := hb8.trans (hb9.mono hb8.size)
          go_wp2_with fail
          refine (AW.out _).mono ?_
          rintro e w8 ⟨rfl, hb11⟩
          go_wp2_with fail
          go_ret
          exact ⟨rfl, hb10.trans (hb11.mono hb10.size)⟩
        · have q4 : ((tn : Int) == (tn' : Int)) = false := by simp; omega
          have q5 : (tn == tn') = false := by simpa using q3
          clear q3
          go_wp2_with fail
          go_quiet (fail)
          have hb6 := below_drewN' hb5 nq
          go_wp2_with fail
          refine (TA.out _ hb6).mono ?_
          rintro e w6 ⟨rfl, hb7⟩
          have hb8 := hb6.trans (hb7.mono hb6.size)
          clear hb5 hb6 hb7 g0 g0' g3 g3'
          go_wp2_with fail
          refine (TB.out _ hb8).mono ?_
          rintro e w7 ⟨rfl, hb9⟩
          have hb10 := hb8.trans (hb9.mono hb8.size)
          go_wp2_with fail
          refine (AW.out _).mono ?_
          rintro e w8 ⟨rfl, hb11⟩
          go_wp2_with fail
          go_ret
          exact ⟨rfl, hb10.trans (hb11.mono hb10.size)⟩
        · subst q3
          have q4 : ((tn : Int) == (tn : Int)) = true := by simp
          go_wp2_with fail
          go_quiet (fail)
          have hb6 := below_drewN' hb5 nq
          go_wp2_with fail
          refine (TA.out _ hb6).mono ?_
          rintro e w6 ⟨rfl, hb7⟩
          have hb8 := hb6.trans (hb7.mono hb6.size)
          clear hb5 hb6 hb7 g0 g0' g3 g3'
          go_wp2_with fail
          refine (TB.out _ hb8).mono ?_
          rintro e w7 ⟨rfl, hb9⟩
          have hb10 := hb8.trans (hb9.mono hb8.size)
          go_wp2_with fail
          refine (AW.out _).mono ?_
          rintro e w8 ⟨rfl, hb11⟩
          go_wp2_with fail
          go_ret
          exact ⟨rfl, hb10.trans (hb11.mono hb10.size)⟩
end Go.Proofs.Ytfiobbhicicchaa
