/-
  The reference's Hide; arrays of eight labels compared.
-/
import Derived.Test.YtfiobbhicicchaaTwin3
namespace Go.Proofs.Ytfiobbhicicchaa
open Go.RowKit Ar
set_option maxHeartbeats 4000000
set_option maxRecDepth 100000
set_option linter.unusedVariables false

/-- A configuration of which the first k channels have been hidden, by the reference. -/
structure RHide (cf : Cfg) (o k : Nat) (C : Array Value) (D : List Value) : Prop where
  len : D.length = 36
  same : ∀ i, (i < 8 ∨ 16 ≤ i ∧ i < 24 ∨ 32 ≤ i) → D[i]? = C[i]?
  ins : ∀ j, j < 8 → D[8 + j]? = if j < k ∧ Lab.flows (cf.clear j) o = false then some (.slice none 0 0) else C[8 + j]?
  draws : ∀ j, j < 8 → D[24 + j]? = if j < k ∧ Lab.flows (cf.label j) o = false then some (.slice none 0 0) else C[24 + j]?
theorem RHide.next {cf : Cfg} {o k : Nat} {C : Array Value} {D D' : List Value} (h : RHide cf o k C D) (hk : k < 8) (hl : D'.length = 36)
    (h1 : ∀ i, i ≠ 8 + k → i ≠ 24 + k → D'[i]? = D[i]?) (h2 : D'[8 + k]? = if Lab.flows (cf.clear k) o = false then some (.slice none 0 0) else D[8 + k]?) (h3 : D'[24 + k]? = if Lab.flows (cf.label k) o = false then some (.slice none 0 0) else D[24 + k]?) : RHide cf o (k + 1) C D' where
  len := hl
  same := fun i hi => by rw [h1 i (by omega) (by omega)]; exact h.same i hi
  ins := fun j hj => by
    by_cases e : j = k
    · subst e
      rw [h2]
      by_cases f : Lab.flows (cf.clear j) o = false
      · rw [if_pos f, if_pos ⟨by omega, f⟩]
      · rw [if_neg f, if_neg (fun x => f x.2), h.ins j hj, if_neg (fun x => f x.2)]
    · rw [h1 _ (by omega) (by omega), h.ins j hj]
      by_cases f : j < k ∧ Lab.flows (cf.clear j) o = false
      · rw [if_pos f, if_pos ⟨by omega, f.2⟩]
      · rw [if_neg f, if_neg (fun x => f ⟨by omega, x.2⟩)]
  draws := fun j hj => by
    by_cases e : j = k
    · subst e
      rw [h3]
      by_cases f : Lab.flows (cf.label j) o = false
      · rw [if_pos f, if_pos ⟨by omega, f⟩]
      · rw [if_neg f, if_neg (fun x => f x.2), h.draws j hj, if_neg (fun x => f x.2)]
    · rw [h1 _ (by omega) (by omega), h.draws j hj]
      by_cases f : j < k ∧ Lab.flows (cf.label j) o = false
      · rw [if_pos f, if_pos ⟨by omega, f.2⟩]
      · rw [if_neg f, if_neg (fun x => f ⟨by omega, x.2⟩)]
theorem RHide.done {w : World} {B : Nat} {cf : Cfg} {o : Nat} {C : Array Value} {D : List Value} (hC : IsCfg w B cf C) (h : RHide cf o 8 C D) : IsCfg w B (hideCfg o cf) D.toArray where
  size := by simpa using h.len
  clear := fun k hk => ⟨by rw [List.getElem?_toArray, h.same k (by omega)]; exact (hC.clear k hk).1, (hC.clear k hk).2⟩
  label := fun k hk => ⟨by rw [List.getElem?_toArray, h.same (16 + k) (by omega)]; exact (hC.label k hk).1, (hC.label k hk).2⟩
  ins := fun k hk => by
    obtain ⟨A, cp, us, h1, h2, h3, h4⟩ := hC.ins k hk
    have e := h.ins k hk
    cases f : Lab.flows (cf.clear k) o
    · rw [if_pos ⟨hk, f⟩] at e
      have hv : (hideCfg o cf).ins k = [] := by show (if _ then _ else _) = _; rw [f]; rfl
      rw [hv]
      exact ⟨none, 0, [], by rw [List.getElem?_toArray, e]; rfl, ⟨Nat.le_refl _, by simp, by omega⟩, .inl rfl, by rw [IsArrs]⟩
    · rw [if_neg (fun x => by rw [f] at x; cases x.2)] at e
      have hv : (hideCfg o cf).ins k = cf.ins k := by show (if _ then _ else _) = _; rw [f]; rfl
      rw [hv]
      exact ⟨A, cp, us, by rw [List.getElem?_toArray, e]; exact h1, h2, h3, h4⟩
  draws := fun k hk => by
    obtain ⟨A, cp, h1, h2, h3, h4⟩ := hC.draws k hk
    have e := h.draws k hk
    cases f : Lab.flows (cf.label k) o
    · rw [if_pos ⟨hk, f⟩] at e
      have hv : (hideCfg o cf).draws k = [] := by show (if _ then _ else _) = _; rw [f]; rfl
      rw [hv]
      exact ⟨none, 0, by rw [List.getElem?_toArray, e]; rfl, ⟨Nat.le_refl _, by simp, by omega⟩, (fun n h => by cases h), .inl rfl⟩
    · rw [if_neg (fun x => by rw [f] at x; cases x.2)] at e
      have hv : (hideCfg o cf).draws k = cf.draws k := by show (if _ then _ else _) = _; rw [f]; rfl
      rw [hv]
      exact ⟨A, cp, by rw [List.getElem?_toArray, e]; exact h1, h2, h3, h4⟩
  auth := by rw [List.getElem?_toArray, h.same 32 (by omega)]; exact hC.auth
  authLt := hC.authLt
  fuel := by rw [List.getElem?_toArray, h.same 33 (by omega)]; exact hC.fuel
  quota := by rw [List.getElem?_toArray, h.same 34 (by omega)]; exact hC.quota
  depth := by rw [List.getElem?_toArray, h.same 35 (by omega)]; exact hC.depth
  wf := hC.wf

theorem heap3c (w : World) (a b c : Obj) : (((w.alloc a).alloc b).alloc c).heap[w.heap.size + 1 + 1]? = some c := by
  have := heap_alloc_new ((w.alloc a).alloc b) c
  rwa [show ((w.alloc a).alloc b).heap.size = w.heap.size + 1 + 1 from by simp] at this
def RefCfgOut (w : World) (B : Nat) (c : Cfg) (e : Ending) (w' : World) : Prop := ∃ D, e = .returned (.agg D) ∧ IsCfg w' B c D ∧ Below w.heap.size w w'

theorem refHide_any (cf : Cfg) (C : Array Value) (o : Nat) (w : World) (B : Nat) (hC : IsCfg w B cf C) (hB : B ≤ w.heap.size) (ho : o < 18446744073709551616) :
    Calls Try.prog 10 #[.agg C, .int .u64 (o : Int)] w (RefCfgOut w B (hideCfg o cf)) := by
  have HC := Lib.hid hC
  have HIC : Hid ((Try.prog.info? 29).map (·.size) = some C.size) := Lib.hid (by rw [hC.size]; exact cfg_info)
  have HCZ : Hid (zeroC.size = C.size) := Lib.hid (by rw [hC.size]; rfl)
  have FL := Lib.hid (fun (t : Nat) (ht : t < 18446744073709551616) (wx : World) => refFlows_any t o wx ht ho)
  go_enter Try.func10, Try.ntmps10
  have HL0 := Lib.hid (fun (a b : Obj) => heap_alloc2_old w a b)
  have HL2 := Lib.hid (heap3c w)
  have HONE := Lib.hid hC.one
  go_wp2_with (first
    | (refine wpList_load_row rfl 29 (.tmp 2) rfl w.heap.size rfl 29 C (0, 0) _ (HL0.out _ _) Try.underlying29 rfl HIC.out ?_)
    | (refine wpList_store_row rfl 29 (.tmp 5) (.tmp 7) rfl (w.heap.size + 1 + 1) C rfl rfl 29 zeroC (HL2.out _ _ _) HIC.out HCZ.out HONE.out ?_))
  refine code_world ?_
  intro W hW
  have hb3 : ∀ a b c, Below w.heap.size w (((w.alloc a).alloc b).alloc c) := fun a b c => (((Below.refl _ _).alloc (Nat.le_refl _) _).alloc (by simp) _).alloc (by simp; omega) _
  have hWs : W.heap.size = w.heap.size + 1 + 1 + 1 := by rw [hW, size_setRow]; simp
  have hWb : Below w.heap.size w W := by rw [hW]; exact Below.setRow' (hb3 _ _ _) (by omega) _
  have hW0 : W.heap[w.heap.size]? = some (.cells C 29 (0, 0)) := by rw [hW, heap_setRow_far (by omega)]; exact (Below.heap_alloc _ _ _ (by simp; omega)).trans (heap_alloc2_old _ _ _)
  have hW1 : W.heap[w.heap.size + 1]? = some (.cells zeroC 29 (0, 0)) := by rw [hW, heap_setRow_far (by omega)]; exact (Below.heap_alloc _ _ _ (by simp)).trans (heap_alloc2_new _ _ _)
  have hW2 : Blk W (w.heap.size + 1 + 1) 29 C.toList := by rw [hW]; exact heap_setRow_same (heap3c w _ _ _)
  clear hW hb3 HL0 HL2
  have HW0 := Lib.hid hW0
  have HW1 := Lib.hid hW1
  have HW2 := Lib.hid hW2
  have HR0 : Hid (RHide cf o 0 C C.toList) := Lib.hid ⟨by simpa using hC.size, fun i _ => by simp, fun j hj => by simp, fun j hj => by simp⟩
  clear hW0 hW1 hW2 hC
  generalize hgg : w.heap.size = g at *
  have hgl : g + 1 + 1 < W.heap.size := by omega
  have HGG := Lib.hid hgg
  clear hgg hWs
  go_loopw [6] (fun i wr => ∃ (k : Nat) (D : List Value), k ≤ 8 ∧ i = .int .i64 k ∧ Hid (RHide cf o k C D) ∧ Hid (Blk wr (g + 1 + 1) 29 D) ∧ Below (g + 1 + 1) W wr) (fun i _ => 8 - (intOf i).toNat)
  case atStart => exact ⟨0, C.toList, Nat.zero_le _, rfl, HR0, HW2, Below.refl _ _⟩
  case round =>
    clear HR0 HW2
    obtain ⟨k, D, hk, rfl, HA, HD, hbel⟩ := hrel
    have HLN := Lib.hid HA.out.len
    by_cases hlt : k < 8
    · have q0 : wr.cell? ⟨g, k, none⟩ = some (.int .u64 (cf.clear k : Int)) := by
        rw [cell_of_row wr g k C 29 (0, 0) ((hbel.block g (by omega)).trans HW0.out)]; exact (HC.out.clear k hlt).1
      have q1 : wr.cell? ⟨g, 16 + k, none⟩ = some (.int .u64 (cf.label k : Int)) := by
        rw [cell_of_row wr g (16 + k) C 29 (0, 0) ((hbel.block g (by omega)).trans HW0.out)]; exact (HC.out.label k hlt).1
      obtain ⟨v1, hv1⟩ : ∃ v1, D[8 + k]? = some v1 := ⟨_, List.getElem?_eq_getElem (by rw [HLN.out]; omega)⟩
      obtain ⟨v2, hv2⟩ : ∃ v2, D[24 + k]? = some v2 := ⟨_, List.getElem?_eq_getElem (by rw [HLN.out]; omega)⟩
      have q2 : wr.cell? ⟨g + 1 + 1, 8 + k, none⟩ = some v1 := HD.out.cell hv1
      have q3 : wr.cell? ⟨g + 1 + 1, 24 + k, none⟩ = some v2 := HD.out.cell hv2
      have f2 := HD.out.frozen (8 + k)
      have f3 := HD.out.frozen (24 + k)
      have HV1 := Lib.hid hv1
      have HV2 := Lib.hid hv2
      clear hv1 hv2
      have hcl := (HC.out.clear k hlt).2
      have hla := (HC.out.label k hlt).2
      have hk0 : (0 : Int) ≤ (k : Int) := by omega
      have hk8 : (k : Int) < 8 := by omega
      have hdk : decide ((k : Int) < 8) = true := by simp; omega
      go_wp2_with fail
      refine (FL.out _ hcl _).mono ?_
      rintro e w' ⟨rfl, rfl⟩
      cases hf1 : Lab.flows (cf.clear k) o
      · go_wp2_with fail
        refine (FL.out _ hla _).mono ?_
        rintro e w' ⟨rfl, rfl⟩
        cases hf2 : Lab.flows (cf.label k) o
        · go_wp2_with fail
          go_roundw
          case rel => exact ⟨k + 1, _, by omega, by go_num, Lib.hid (HA.out.next hlt (D' := (D.set (8 + k) (.slice none 0 0)).set (24 + k) (.slice none 0 0)) (by simpa using HLN.out) (fun i h1 h2 => by rw [List.getElem?_set_ne (by omega), List.getElem?_set_ne (by omega)]) (by rw [if_pos hf1, List.getElem?_set_ne (by omega), List.getElem?_set_self (by rw [HLN.out]; omega)]) (by rw [if_pos hf2, List.getElem?_set_self (by rw [List.length_set, HLN.out]; omega)])), Lib.hid ((HD.out.set_ _ _).set_ _ _), (hbel.setCell (Nat.le_refl _) _).setCell (Nat.le_refl _) _⟩
          case measure => simp [intOf]; omega
        · go_wp2_with fail
          go_roundw
          case rel => exact ⟨k + 1, _, by omega, by go_num, Lib.hid (HA.out.next hlt (D' := D.set (8 + k) (.slice none 0 0)) (by simpa using HLN.out) (fun i h1 h2 => by rw [List.getElem?_set_ne (by omega)]) (by rw [if_pos hf1, List.getElem?_set_self (by rw [HLN.out]; omega)]) (by rw [if_neg (by rw [hf2]; decide), List.getElem?_set_ne (by omega)])), Lib.hid (HD.out.set_ _ _), hbel.setCell (Nat.le_refl _) _⟩
          case measure => simp [intOf]; omega
      · go_wp2_with fail
        refine (FL.out _ hla _).mono ?_
        rintro e w' ⟨rfl, rfl⟩
        cases hf2 : Lab.flows (cf.label k) o
        · go_wp2_with fail
          go_roundw
          case rel => exact ⟨k + 1, _, by omega, by go_num, Lib.hid (HA.out.next hlt (D' := D.set (24 + k) (.slice none 0 0)) (by simpa using HLN.out) (fun i h1 h2 => by rw [List.getElem?_set_ne (by omega)]) (by rw [if_neg (by rw [hf1]; decide), List.getElem?_set_ne (by omega)]) (by rw [if_pos hf2, List.getElem?_set_self (by rw [HLN.out]; omega)])), Lib.hid (HD.out.set_ _ _), hbel.setCell (Nat.le_refl _) _⟩
          case measure => simp [intOf]; omega
        · go_wp2_with fail
          go_roundw
          case rel => exact ⟨k + 1, _, by omega, by go_num, Lib.hid (HA.out.next hlt (D' := D) HLN.out (fun i h1 h2 => rfl) (by rw [if_neg (by rw [hf1]; decide)]) (by rw [if_neg (by rw [hf2]; decide)])), HD, hbel⟩
          case measure => simp [intOf]; omega
    · obtain rfl : k = 8 := by omega
      have HB0 := Lib.hid (show wr.heap[g + 1 + 1]? = some (.cells D.toArray 29 (0, 0)) from HD.out)
      have HB1 := Lib.hid ((hbel.block (g + 1) (by omega)).trans HW1.out)
      have HSZ : Hid (D.toArray.size = 36) := Lib.hid (by simpa using HA.out.len)
      have HIS : Hid ((Try.prog.info? 29).map (·.size) = some D.toArray.size) := Lib.hid (by rw [HSZ.out]; exact cfg_info)
      have HFN := Lib.hid (HA.out.done HC.out)
      have HZS : Hid (zeroC.size = D.toArray.size) := Lib.hid (Eq.trans (by rfl) HSZ.out.symm)
      go_wp2_with (first
        | (with_reducible refine wpList_load_row rfl 29 (.tmp 5) rfl (g + 1 + 1) rfl 29 D.toArray (0, 0) _ HB0.out Try.underlying29 rfl HIS.out ?_)
        | (with_reducible refine wpList_store_row rfl 29 (.tmp 4) (.tmp 32) rfl (g + 1) D.toArray rfl rfl 29 zeroC HB1.out HIS.out HZS.out HFN.out.one ?_))
      have hbf : Below g w (wr.setRow (g + 1) D.toArray) := Below.setRow' (hWb.trans (hbel.mono (by omega))) (by omega) _
      refine bodyPost_ret (results_cell_row (by rfl) _ _ (g + 1) 29 D.toArray (0, 0) _ (by rfl) (heap_setRow_same HB1.out) Try.underlying29 rfl HIS.out) rfl ⟨D.toArray, rfl, HFN.out.below (hbf.mono hB), ?_⟩
      rw [HGG.out]; exact hbf
end Go.Proofs.Ytfiobbhicicchaa
