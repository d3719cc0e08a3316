/-
  To be alike turns round and goes on; the walk of scrimlaw34.TwinGoes. (Printed by wip/bin/gen_twin11.py.)
-/
import Derived.Test.YtfiobbhicicchaaTwin9
import Derived.Test.YtfiobbhicicchaaTwin10
import Derived.Test.YtfiobbhicicchaaTwin7
import Derived.Test.YtfiobbhicicchaaGood4
namespace Go.Proofs.Ytfiobbhicicchaa
open Go.RowKit Ar
set_option maxHeartbeats 8000000
set_option maxRecDepth 100000
set_option linter.unusedVariables false

theorem all8 {p : Nat → Bool} (h : ∀ k, k < 8 → p k = true) : ((List.range 8).drop 0).all p = true := by
  rw [List.drop_zero, List.all_eq_true]
  intro k hk
  exact h k (by simpa using hk)
theorem of_all8 {p : Nat → Bool} (h : ((List.range 8).drop 0).all p = true) : ∀ k, k < 8 → p k = true := by
  intro k hk
  rw [List.drop_zero, List.all_eq_true] at h
  exact h k (by simpa using hk)
theorem chan_iff (o : Nat) (c d : Cfg) (k : Nat) : chanB o c d k = true ↔ c.clear k = d.clear k ∧ c.label k = d.label k ∧ (Lab.flows (c.label k) o = true → c.draws k = d.draws k) ∧ (Lab.flows (c.clear k) o = true → sameArrs false (c.ins k) (d.ins k) = true) := by
  unfold chanB
  simp only [Bool.and_eq_true, beq_iff_eq, Bool.or_eq_true, Bool.not_eq_true']
  cases Lab.flows (c.label k) o <;> cases Lab.flows (c.clear k) o <;> simp [and_assoc]
theorem alike_iff (o : Nat) (c d : Cfg) : alikeB o c d = true ↔ c.auth = d.auth ∧ c.depth = d.depth ∧ ∀ k, k < 8 → chanB o c d k = true := by
  rw [alike_chans]
  simp only [Bool.and_eq_true, beq_iff_eq, chansFrom]
  constructor
  · rintro ⟨⟨h1, h2⟩, h3⟩; exact ⟨h1, h2, of_all8 h3⟩
  · rintro ⟨h1, h2, h3⟩; exact ⟨⟨h1, h2⟩, all8 h3⟩
theorem alike_refl (o : Nat) (c : Cfg) : alikeB o c c = true := by
  rw [alike_iff]
  exact ⟨rfl, rfl, fun k _ => (chan_iff o c c k).2 ⟨rfl, rfl, fun _ => rfl, fun _ => sameArrs_refl false _⟩⟩
theorem alike_symm_of {o : Nat} {c d : Cfg} (h : alikeB o c d = true) : alikeB o d c = true := by
  rw [alike_iff] at h ⊢
  refine ⟨h.1.symm, h.2.1.symm, fun k hk => ?_⟩
  obtain ⟨a, b, e, f⟩ := (chan_iff o c d k).1 (h.2.2 k hk)
  refine (chan_iff o d c k).2 ⟨a.symm, b.symm, fun g => (e (by rw [b]; exact g)).symm, fun g => sameArrs_symm false _ _ (f (by rw [a]; exact g))⟩
theorem alike_symm (o : Nat) (c d : Cfg) : alikeB o d c = alikeB o c d := by
  rw [Bool.eq_iff_iff]; exact ⟨alike_symm_of, alike_symm_of⟩
theorem alike_trans {o : Nat} {c d e : Cfg} (h : alikeB o c d = true) (h' : alikeB o d e = true) : alikeB o c e = true := by
  rw [alike_iff] at h h' ⊢
  refine ⟨h.1.trans h'.1, h.2.1.trans h'.2.1, fun k hk => ?_⟩
  obtain ⟨a, b, x, y⟩ := (chan_iff o c d k).1 (h.2.2 k hk)
  obtain ⟨a', b', x', y'⟩ := (chan_iff o d e k).1 (h'.2.2 k hk)
  exact (chan_iff o c e k).2 ⟨a.trans a', b.trans b', fun g => (x g).trans (x' (by rw [← b]; exact g)), fun g => sameArrs_trans false _ _ _ (y g) (y' (by rw [← a]; exact g))⟩
theorem alike_hide (o : Nat) (c : Cfg) : alikeB o c (hideCfg o c) = true := by
  rw [alike_iff]
  refine ⟨rfl, rfl, fun k _ => (chan_iff o c _ k).2 ⟨rfl, rfl, fun g => ?_, fun g => ?_⟩⟩
  · show c.draws k = if Lab.flows (c.label k) o then c.draws k else []
    rw [g]; rfl
  · show sameArrs false (c.ins k) (if Lab.flows (c.clear k) o then c.ins k else []) = true
    rw [g]; exact sameArrs_refl false _

theorem heap_alloc3_2 (w : World) (a b c : Obj) : (((w.alloc a).alloc b).alloc c).heap[w.heap.size + 1 + 1]? = some c := heap3c w a b c

theorem twinGoes_walk (cf : Cfg) (C : Array Value) (df : Cfg) (D : Array Value) (ef : Cfg) (E : Array Value) (o : Nat) (w : World) (hC : IsCfg w w.heap.size cf C) (hD : IsCfg w w.heap.size df D) (hE : IsCfg w w.heap.size ef E) (ho : o < 18446744073709551616) :
    Calls Try.prog 4 #[.agg C, .agg D, .agg E, .int .u64 (o : Int)] w fun e w' => e = .returned (.bool true) ∧ Below w.heap.size w w' := by
  obtain ⟨W, hW⟩ : ∃ W, W = ((w.alloc (.cells C 29)).alloc (.cells D 29)).alloc (.cells E 29) := ⟨_, rfl⟩
  have hWs : W.heap.size = w.heap.size + 1 + 1 + 1 := by rw [hW]; simp
  have hWb : Below w.heap.size w W := by rw [hW]; exact (((Below.refl _ _).alloc (Nat.le_refl _) _).alloc (by simp) _).alloc (by simp; omega) _
  have HG0 : Hid (∀ wx, Below W.heap.size W wx → wx.heap[w.heap.size]? = some (.cells C 29 (0, 0))) := Lib.hid (fun wx hx => (hx.block _ (by omega)).trans (by rw [hW]; exact heap_alloc3_0 _ _ _ _))
  have HG1 : Hid (∀ wx, Below W.heap.size W wx → wx.heap[w.heap.size + 1]? = some (.cells D 29 (0, 0))) := Lib.hid (fun wx hx => (hx.block _ (by omega)).trans (by rw [hW]; exact heap_alloc3_1 _ _ _ _))
  have HG2 : Hid (∀ wx, Below W.heap.size W wx → wx.heap[w.heap.size + 1 + 1]? = some (.cells E 29 (0, 0))) := Lib.hid (fun wx hx => (hx.block _ (by omega)).trans (by rw [hW]; exact heap_alloc3_2 _ _ _ _))
  have HI0 : Hid ((Try.prog.info? 29).map (·.size) = some C.size) := Lib.hid (by rw [hC.size]; exact cfg_info)
  have HI1 : Hid ((Try.prog.info? 29).map (·.size) = some D.size) := Lib.hid (by rw [hD.size]; exact cfg_info)
  have HI2 : Hid ((Try.prog.info? 29).map (·.size) = some E.size) := Lib.hid (by rw [hE.size]; exact cfg_info)
  have hsW : ∀ wx, Below W.heap.size W wx → w.heap.size ≤ wx.heap.size := fun wx hx => Nat.le_trans hWb.size hx.size
  have F0 := Lib.hid (fun (wx : World) (hx : Below W.heap.size W wx) => fewCfg_any cf C wx w.heap.size (hC.below (hWb.trans (hx.mono hWb.size))) (hsW wx hx))
  have F1 := Lib.hid (fun (wx : World) (hx : Below W.heap.size W wx) => fewCfg_any df D wx w.heap.size (hD.below (hWb.trans (hx.mono hWb.size))) (hsW wx hx))
  have F2 := Lib.hid (fun (wx : World) (hx : Below W.heap.size W wx) => fewCfg_any ef E wx w.heap.size (hE.below (hWb.trans (hx.mono hWb.size))) (hsW wx hx))
  have ACD := Lib.hid (fun (wx : World) (hx : Below W.heap.size W wx) => alike_any cf df C D o wx w.heap.size (hC.below (hWb.trans (hx.mono hWb.size))) (hD.below (hWb.trans (hx.mono hWb.size))) (hsW wx hx) ho)
  have ADE := Lib.hid (fun (wx : World) (hx : Below W.heap.size W wx) => alike_any df ef D E o wx w.heap.size (hD.below (hWb.trans (hx.mono hWb.size))) (hE.below (hWb.trans (hx.mono hWb.size))) (hsW wx hx) ho)
  have ACC := Lib.hid (fun (wx : World) (hx : Below W.heap.size W wx) => alike_any cf cf C C o wx w.heap.size (hC.below (hWb.trans (hx.mono hWb.size))) (hC.below (hWb.trans (hx.mono hWb.size))) (hsW wx hx) ho)
  have ADC := Lib.hid (fun (wx : World) (hx : Below W.heap.size W wx) => alike_any df cf D C o wx w.heap.size (hD.below (hWb.trans (hx.mono hWb.size))) (hC.below (hWb.trans (hx.mono hWb.size))) (hsW wx hx) ho)
  have ACE := Lib.hid (fun (wx : World) (hx : Below W.heap.size W wx) => alike_any cf ef C E o wx w.heap.size (hC.below (hWb.trans (hx.mono hWb.size))) (hE.below (hWb.trans (hx.mono hWb.size))) (hsW wx hx) ho)
  have AW := Lib.hid awake34_any
  rw [alike_refl] at ACC
  rw [alike_symm] at ADC
  have HT : Hid (alikeB o cf df = true → alikeB o df ef = true → alikeB o cf ef = true) := Lib.hid alike_trans
  have HW := Lib.hid hW
  have HWS := Lib.hid hWs
  have hgl : w.heap.size + 1 + 1 < W.heap.size := by omega
  clear hC hD hE hW hWs hsW
  generalize alikeB o cf df = x at *
  generalize alikeB o df ef = y at *
  generalize alikeB o cf ef = z at *
  go_enter Try.func4, Try.ntmps4
  go_upto_region 1 with fail
  rw [← HW.out]
  have hbl : Below W.heap.size W W := Below.refl _ _
  go_wp2_with (with_reducible refine wpList_load_row rfl 29 (.tmp 4) rfl w.heap.size rfl 29 C (0, 0) _ (HG0.out _ hbl) Try.underlying29 rfl HI0.out ?_)
  refine (F0.out _ hbl).mono ?_
  rintro e w1 ⟨r, rfl, hb1⟩
  cases r
  · go_wp2_with fail
    refine (AW.out _).mono ?_
    rintro e w9 ⟨rfl, hb9⟩
    go_wp2_with fail
    go_ret
    exact ⟨rfl, (hWb.trans (hb1.mono hWb.size)).trans (hb9.mono (Nat.le_trans hWb.size hb1.size))⟩
  · go_wp2_with (refine wpList_load_rowG rfl 29 (.tmp 5) rfl (w.heap.size + 1) rfl 29 D (0, 0) _ (HG1.out _ hb1) Try.underlying29 rfl HI1.out ?_)
    refine (F1.out _ hb1).mono ?_
    rintro e w2 ⟨r, rfl, hb2'⟩
    have hb2 := hb1.trans (hb2'.mono hb1.size)
    clear hb2' hb1
    cases r
    · go_wp2_with fail
      refine (AW.out _).mono ?_
      rintro e w9 ⟨rfl, hb9⟩
      go_wp2_with fail
      go_ret
      exact ⟨rfl, (hWb.trans (hb2.mono hWb.size)).trans (hb9.mono (Nat.le_trans hWb.size hb2.size))⟩
    · go_wp2_with (refine wpList_load_rowG rfl 29 (.tmp 6) rfl (w.heap.size + 1 + 1) rfl 29 E (0, 0) _ (HG2.out _ hb2) Try.underlying29 rfl HI2.out ?_)
      refine (F2.out _ hb2).mono ?_
      rintro e w3 ⟨r, rfl, hb3'⟩
      have hb3 := hb2.trans (hb3'.mono hb2.size)
      clear hb3' hb2
      cases r
      · go_wp2_with fail
        refine (AW.out _).mono ?_
        rintro e w9 ⟨rfl, hb9⟩
        go_wp2_with fail
        go_ret
        exact ⟨rfl, (hWb.trans (hb3.mono hWb.size)).trans (hb9.mono (Nat.le_trans hWb.size hb3.size))⟩
      · go_wp2_with fail
        refine wp_region_later w3 (by kernel_rfl) (by kernel_rfl) (Below.drew_self w3) ?_
        have hq : ∀ wx, (∃ v : Later w3, wx = v.w) → Below W.heap.size W wx := by
          rintro _ ⟨v, rfl⟩; exact hb3.trans (v.b.mono hb3.size)
        have HQ0 : Hid (∀ wx, (∃ v : Later w3, wx = v.w) → wx.heap[w.heap.size]? = some (.cells C 29 (0, 0))) := Lib.hid (fun wx h => HG0.out _ (hq wx h))
        have HQ1 : Hid (∀ wx, (∃ v : Later w3, wx = v.w) → wx.heap[w.heap.size + 1]? = some (.cells D 29 (0, 0))) := Lib.hid (fun wx h => HG1.out _ (hq wx h))
        have HQ2 : Hid (∀ wx, (∃ v : Later w3, wx = v.w) → wx.heap[w.heap.size + 1 + 1]? = some (.cells E 29 (0, 0))) := Lib.hid (fun wx h => HG2.out _ (hq wx h))
        have B1 := Lib.hid (fun (v : Later w3) => ACD.out v.w (hq _ ⟨v, rfl⟩))
        have B2 := Lib.hid (fun (v : Later w3) => ADE.out v.w (hq _ ⟨v, rfl⟩))
        clear hq
        refine wpQuiet_load_row rfl 29 (.tmp 4) rfl w.heap.size rfl 29 C (0, 0) _ HQ0.out Try.underlying29 rfl HI0.out ?_
        intro a' ha'
        simp [Act.put] at ha'
        subst ha'
        refine wpQuiet_load_row rfl 29 (.tmp 5) rfl (w.heap.size + 1) rfl 29 D (0, 0) _ HQ1.out Try.underlying29 rfl HI1.out ?_
        intro a' ha'
        simp [Act.put] at ha'
        subst ha'
        iterate 2 (go_big_quiet_step ((go_at_call 11; exact Later.call (B1.out _))))
        refine wpQuiet_load_row rfl 29 (.tmp 5) rfl (w.heap.size + 1) rfl 29 D (0, 0) _ HQ1.out Try.underlying29 rfl HI1.out ?_
        intro a' ha'
        simp [Act.put] at ha'
        subst ha'
        refine wpQuiet_load_row rfl 29 (.tmp 6) rfl (w.heap.size + 1 + 1) rfl 29 E (0, 0) _ HQ2.out Try.underlying29 rfl HI2.out ?_
        intro a' ha'
        simp [Act.put] at ha'
        subst ha'
        repeat (go_big_quiet_step ((go_at_call 11; exact Later.call (B2.out _))))
        refine wpQuiet_nil ?_
        rintro w4 ⟨⟨w4', hb4'⟩, hw4⟩
        obtain rfl : w4 = w4' := hw4
        have hb4 := hb3.trans (hb4'.mono hb3.size)
        clear hb4' hb3 HQ0 HQ1 HQ2 B1 B2
        go_wp2_with (with_reducible refine wpList_load_row rfl 29 (.tmp 4) rfl w.heap.size rfl 29 C (0, 0) _ (HG0.out _ hb4) Try.underlying29 rfl HI0.out ?_)
        refine (ACC.out _ hb4).mono ?_
        rintro e w5 ⟨rfl, hb5'⟩
        have hb5 := hb4.trans (hb5'.mono hb4.size)
        clear hb5' hb4
        go_wp2_with (first
          | (refine wpList_load_rowG rfl 29 (.tmp 5) rfl (w.heap.size + 1) rfl 29 D (0, 0) _ (HG1.out _ hb5) Try.underlying29 rfl HI1.out ?_)
          | (refine wpList_load_rowG rfl 29 (.tmp 4) rfl w.heap.size rfl 29 C (0, 0) _ (HG0.out _ hb5) Try.underlying29 rfl HI0.out ?_))
        refine (ADC.out _ hb5).mono ?_
        rintro e w6 ⟨rfl, hb6'⟩
        have hb6 := hb5.trans (hb6'.mono hb5.size)
        clear hb6' hb5
        cases x
        · skip
          go_wp2_with fail
          refine (AW.out _).mono ?_
          rintro e w9 ⟨rfl, hb9⟩
          go_wp2_with fail
          go_ret
          exact ⟨rfl, (hWb.trans (hb6.mono hWb.size)).trans (hb9.mono (Nat.le_trans hWb.size hb6.size))⟩
        · cases y
          · skip
            go_wp2_with fail
            refine (AW.out _).mono ?_
            rintro e w9 ⟨rfl, hb9⟩
            go_wp2_with fail
            go_ret
            exact ⟨rfl, (hWb.trans (hb6.mono hWb.size)).trans (hb9.mono (Nat.le_trans hWb.size hb6.size))⟩
          · have hz : z = true := HT.out rfl rfl
            subst hz
            go_wp2_with (first
              | (refine wpList_load_rowG rfl 29 (.tmp 6) rfl (w.heap.size + 1 + 1) rfl 29 E (0, 0) _ (HG2.out _ hb6) Try.underlying29 rfl HI2.out ?_)
              | (refine wpList_load_rowG rfl 29 (.tmp 4) rfl w.heap.size rfl 29 C (0, 0) _ (HG0.out _ hb6) Try.underlying29 rfl HI0.out ?_))
            refine (ACE.out _ hb6).mono ?_
            rintro e w7 ⟨rfl, hb7'⟩
            have hb7 := hb6.trans (hb7'.mono hb6.size)
            clear hb7' hb6
            go_wp2_with fail
            refine (AW.out _).mono ?_
            rintro e w9 ⟨rfl, hb9⟩
            go_wp2_with fail
            go_ret
            exact ⟨rfl, (hWb.trans (hb7.mono hWb.size)).trans (hb9.mono (Nat.le_trans hWb.size hb7.size))⟩
end Go.Proofs.Ytfiobbhicicchaa
