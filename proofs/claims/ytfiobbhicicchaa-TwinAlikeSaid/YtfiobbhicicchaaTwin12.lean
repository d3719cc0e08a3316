/-
  The walk of scrimlaw34.TwinAlike. (Printed by wip/bin/gen_twin12.py.)
-/
import Derived.Test.YtfiobbhicicchaaTwin9
import Derived.Test.YtfiobbhicicchaaTwin10
import Derived.Test.YtfiobbhicicchaaTwin7
import Derived.Test.YtfiobbhicicchaaGood4
namespace Go.Proofs.Ytfiobbhicicchaa
open Go.RowKit Ar
set_option maxHeartbeats 8000000
set_option maxRecDepth 100000
set_option linter.unusedVariables false

theorem all8 {p : Nat → Bool} (h : ∀ k, k < 8 → p k = true) : ((List.range 8).drop 0).all p = true := by
  rw [List.drop_zero, List.all_eq_true]
  intro k hk
  exact h k (by simpa using hk)
theorem of_all8 {p : Nat → Bool} (h : ((List.range 8).drop 0).all p = true) : ∀ k, k < 8 → p k = true := by
  intro k hk
  rw [List.drop_zero, List.all_eq_true] at h
  exact h k (by simpa using hk)
theorem chan_iff (o : Nat) (c d : Cfg) (k : Nat) : chanB o c d k = true ↔ c.clear k = d.clear k ∧ c.label k = d.label k ∧ (Lab.flows (c.label k) o = true → c.draws k = d.draws k) ∧ (Lab.flows (c.clear k) o = true → sameArrs false (c.ins k) (d.ins k) = true) := by
  unfold chanB
  simp only [Bool.and_eq_true, beq_iff_eq, Bool.or_eq_true, Bool.not_eq_true']
  cases Lab.flows (c.label k) o <;> cases Lab.flows (c.clear k) o <;> simp [and_assoc]
theorem alike_iff (o : Nat) (c d : Cfg) : alikeB o c d = true ↔ c.auth = d.auth ∧ c.depth = d.depth ∧ ∀ k, k < 8 → chanB o c d k = true := by
  rw [alike_chans]
  simp only [Bool.and_eq_true, beq_iff_eq, chansFrom]
  constructor
  · rintro ⟨⟨h1, h2⟩, h3⟩; exact ⟨h1, h2, of_all8 h3⟩
  · rintro ⟨h1, h2, h3⟩; exact ⟨⟨h1, h2⟩, all8 h3⟩
theorem alike_refl (o : Nat) (c : Cfg) : alikeB o c c = true := by
  rw [alike_iff]
  exact ⟨rfl, rfl, fun k _ => (chan_iff o c c k).2 ⟨rfl, rfl, fun _ => rfl, fun _ => sameArrs_refl false _⟩⟩
theorem alike_symm_of {o : Nat} {c d : Cfg} (h : alikeB o c d = true) : alikeB o d c = true := by
  rw [alike_iff] at h ⊢
  refine ⟨h.1.symm, h.2.1.symm, fun k hk => ?_⟩
  obtain ⟨a, b, e, f⟩ := (chan_iff o c d k).1 (h.2.2 k hk)
  refine (chan_iff o d c k).2 ⟨a.symm, b.symm, fun g => (e (by rw [b]; exact g)).symm, fun g => sameArrs_symm false _ _ (f (by rw [a]; exact g))⟩
theorem alike_symm (o : Nat) (c d : Cfg) : alikeB o d c = alikeB o c d := by
  rw [Bool.eq_iff_iff]; exact ⟨alike_symm_of, alike_symm_of⟩
theorem alike_trans {o : Nat} {c d e : Cfg} (h : alikeB o c d = true) (h' : alikeB o d e = true) : alikeB o c e = true := by
  rw [alike_iff] at h h' ⊢
  refine ⟨h.1.trans h'.1, h.2.1.trans h'.2.1, fun k hk => ?_⟩
  obtain ⟨a, b, x, y⟩ := (chan_iff o c d k).1 (h.2.2 k hk)
  obtain ⟨a', b', x', y'⟩ := (chan_iff o d e k).1 (h'.2.2 k hk)
  exact (chan_iff o c e k).2 ⟨a.trans a', b.trans b', fun g => (x g).trans (x' (by rw [← b]; exact g)), fun g => sameArrs_trans false _ _ _ (y g) (y' (by rw [← a]; exact g))⟩
theorem alike_hide (o : Nat) (c : Cfg) : alikeB o c (hideCfg o c) = true := by
  rw [alike_iff]
  refine ⟨rfl, rfl, fun k _ => (chan_iff o c _ k).2 ⟨rfl, rfl, fun g => ?_, fun g => ?_⟩⟩
  · show c.draws k = if Lab.flows (c.label k) o then c.draws k else []
    rw [g]; rfl
  · show sameArrs false (c.ins k) (if Lab.flows (c.clear k) o then c.ins k else []) = true
    rw [g]; exact sameArrs_refl false _


def frameTA (C D : Array Value) (o g : Nat) (xs : Nat → Value) : Act := { tmps := #[.agg C, .agg D, .int .u64 (o : Int), .pointer (some ⟨g, 0, none⟩), .pointer (some ⟨g + 1, 0, none⟩), undef, xs 29, .agg C, .bool true, .bool false, .bool false, .agg D, .bool true, .bool false, .bool false, undef, xs 0, xs 1, xs 2, xs 3, xs 4, xs 5, xs 6, xs 7, xs 8, xs 9, xs 10, xs 11, xs 12, xs 13, xs 14, xs 15, xs 16, xs 17, xs 18, xs 19, xs 20, xs 21, xs 22, xs 23, xs 24, xs 25, xs 26, xs 27, xs 28], defers := [] }
def predTA (cf df : Cfg) (C D : Array Value) (o : Nat) : Nat → World → Value → Prop
  | 0, w, v => v = .agg C
  | 1, w, v => v = .int .u64 (o : Int)
  | 2, w, v => ∃ X, v = .agg X ∧ IsCfg w w.heap.size (hideCfg o cf) X
  | 3, w, v => v = .agg C
  | 4, w, v => v = .int .u64 (o : Int)
  | 5, w, v => ∃ X, v = .agg X ∧ IsCfg w w.heap.size (hideCfg o cf) X
  | 6, w, v => v = .bool true
  | 7, w, v => v = .bool true
  | 8, w, v => v = .agg C
  | 9, w, v => v = .agg D
  | 10, w, v => v = .int .u64 (o : Int)
  | 11, w, v => v = .bool (alikeB o cf df)
  | 12, w, v => v = .agg C
  | 13, w, v => v = .agg D
  | 14, w, v => v = .int .u64 (o : Int)
  | 15, w, v => v = .bool (alikeB o cf df)
  | 16, w, v => v = .bool true
  | 17, w, v => v = .bool true
  | 18, w, v => v = .bool true
  | 19, w, v => v = .agg C
  | 20, w, v => v = .agg C
  | 21, w, v => v = .int .u64 (o : Int)
  | 22, w, v => ∃ X, v = .agg X ∧ IsCfg w w.heap.size (hideCfg o cf) X
  | 23, w, v => v = .int .u64 (o : Int)
  | 24, w, v => v = .bool true
  | 25, w, v => v = .bool true
  | 26, w, v => v = .bool true
  | 27, w, v => v = .bool true
  | 28, w, v => v = .bool true
  | _, w, v => v = .bool true

theorem IsCfg.later {w w' : World} {c : Cfg} {C : Array Value} (h : IsCfg w w.heap.size c C) (hb : Below w.heap.size w w') : IsCfg w' w'.heap.size c C := h.keep (fun _ hp => hb.cell hp) hb.size
theorem twinAlike_walk (cf : Cfg) (C : Array Value) (df : Cfg) (D : Array Value) (o : Nat) (w : World) (hC : IsCfg w w.heap.size cf C) (hD : IsCfg w w.heap.size df D) (ho : o < 18446744073709551616) :
    Calls Try.prog 3 #[.agg C, .agg D, .int .u64 (o : Int)] w fun e w' => e = .returned (.bool true) ∧ Below w.heap.size w w' := by
  obtain ⟨W, hW⟩ : ∃ W, W = (w.alloc (.cells C 29)).alloc (.cells D 29) := ⟨_, rfl⟩
  obtain ⟨g, hg⟩ : ∃ g, g = w.heap.size := ⟨_, rfl⟩
  have hWs : W.heap.size = g + 1 + 1 := by rw [hW, hg]; simp
  have hWb : Below g w W := by rw [hW, hg]; exact ((Below.refl _ _).alloc (Nat.le_refl _) _).alloc (by simp) _
  have HG0 : Hid (∀ wx, Below W.heap.size W wx → wx.heap[g]? = some (.cells C 29 (0, 0))) := Lib.hid (fun wx hx => (hx.block _ (by omega)).trans (by rw [hW, hg]; exact heap_alloc2_old _ _ _))
  have HG1 : Hid (∀ wx, Below W.heap.size W wx → wx.heap[g + 1]? = some (.cells D 29 (0, 0))) := Lib.hid (fun wx hx => (hx.block _ (by omega)).trans (by rw [hW, hg]; exact heap_alloc2_new _ _ _))
  have HI0 : Hid ((Try.prog.info? 29).map (·.size) = some C.size) := Lib.hid (by rw [hC.size]; exact cfg_info)
  have HI1 : Hid ((Try.prog.info? 29).map (·.size) = some D.size) := Lib.hid (by rw [hD.size]; exact cfg_info)
  rw [← hg] at hC hD
  have hsW : ∀ wx, Below W.heap.size W wx → g ≤ wx.heap.size := fun wx hx => Nat.le_trans (by omega) hx.size
  have hCx : ∀ wx, Below W.heap.size W wx → IsCfg wx g cf C := fun wx hx => hC.below (hWb.trans (hx.mono (by omega)))
  have hDx : ∀ wx, Below W.heap.size W wx → IsCfg wx g df D := fun wx hx => hD.below (hWb.trans (hx.mono (by omega)))
  have F0 := Lib.hid (fun (wx : World) (hx : Below W.heap.size W wx) => fewCfg_any cf C wx g (hCx wx hx) (hsW wx hx))
  have F1 := Lib.hid (fun (wx : World) (hx : Below W.heap.size W wx) => fewCfg_any df D wx g (hDx wx hx) (hsW wx hx))
  have A1 := Lib.hid (fun (wx : World) (hx : Below W.heap.size W wx) => alike_any cf df C D o wx g (hCx wx hx) (hDx wx hx) (hsW wx hx) ho)
  have A2 := Lib.hid (fun (wx : World) (hx : Below W.heap.size W wx) => refAlike_any cf df C D o wx g (hCx wx hx) (hDx wx hx) (hsW wx hx) ho)
  have H1 : Hid (∀ (wx : World) (hx : Below W.heap.size W wx), Calls Try.prog 9 #[.agg C, .int .u64 (o : Int)] wx fun e w' => ∃ X, e = .returned (.agg X) ∧ IsCfg w' w'.heap.size (hideCfg o cf) X ∧ Below wx.heap.size wx w') := Lib.hid (fun wx hx => (hide_any cf C o wx g (hCx wx hx) (hsW wx hx) ho).mono (by
    rintro e w' ⟨X, rfl, hX, hb⟩
    exact ⟨X, rfl, hX.is (fun p hp => hb.cell (Nat.lt_of_lt_of_le hp (hsW wx hx))) (Nat.le_trans (hsW wx hx) hb.size), hb⟩))
  have H2 : Hid (∀ (wx : World) (hx : Below W.heap.size W wx), Calls Try.prog 10 #[.agg C, .int .u64 (o : Int)] wx fun e w' => ∃ X, e = .returned (.agg X) ∧ IsCfg w' w'.heap.size (hideCfg o cf) X ∧ Below wx.heap.size wx w') := Lib.hid (fun wx hx => (refHide_any cf C o wx g (hCx wx hx) (hsW wx hx) ho).mono (by
    rintro e w' ⟨X, rfl, hX, hb⟩
    exact ⟨X, rfl, hX.keep (fun _ _ => rfl) (Nat.le_trans (hsW wx hx) hb.size), hb⟩))
  have SM : Hid (∀ (wx : World) (X Y : Array Value), IsCfg wx wx.heap.size (hideCfg o cf) X → IsCfg wx wx.heap.size (hideCfg o cf) Y → Calls Try.prog 8 #[.agg X, .agg Y] wx fun e w' => e = .returned (.bool true) ∧ Below wx.heap.size wx w') := Lib.hid (fun wx X Y hX hY => by
    have := cfgSame_any _ _ X Y wx wx.heap.size hX hY (Nat.le_refl _)
    rwa [cfgSame_refl] at this)
  have A3 : Hid (∀ (wx : World) (X : Array Value) (hx : Below W.heap.size W wx), IsCfg wx wx.heap.size (hideCfg o cf) X → Calls Try.prog 11 #[.agg C, .agg X, .int .u64 (o : Int)] wx fun e w' => e = .returned (.bool true) ∧ Below wx.heap.size wx w') := Lib.hid (fun wx X hx hX => by
    have := alike_any cf (hideCfg o cf) C X o wx wx.heap.size ((hCx wx hx).keep (fun _ _ => rfl) (hsW wx hx)) hX (Nat.le_refl _) ho
    rwa [alike_hide] at this)
  have AW := Lib.hid awake34_any
  have HW := Lib.hid hW
  have HWS := Lib.hid hWs
  have hgl : g + 1 < W.heap.size := by omega
  clear hC hD hW hWs hsW hCx hDx
  have HG := Lib.hid hg
  go_enter Try.func3, Try.ntmps3
  go_upto_region 1 with fail
  rw [← HW.out]
  rw [← hg]
  clear hg
  have hbl : Below W.heap.size W W := Below.refl _ _
  go_wp2_with (with_reducible refine wpList_load_row rfl 29 (.tmp 3) rfl g rfl 29 C (0, 0) _ (HG0.out _ hbl) Try.underlying29 rfl HI0.out ?_)
  refine (F0.out _ hbl).mono ?_
  rintro e w1 ⟨r, rfl, hb1⟩
  cases r
  · go_wp2_with fail
    refine (AW.out _).mono ?_
    rintro e w9 ⟨rfl, hb9⟩
    go_wp2_with fail
    go_ret
    exact ⟨rfl, by rw [← HG.out]; exact (hWb.trans (hb1.mono (by omega))).trans (hb9.mono (Nat.le_trans (by omega) hb1.size))⟩
  · go_wp2_with (refine wpList_load_rowG rfl 29 (.tmp 4) rfl (g + 1) rfl 29 D (0, 0) _ (HG1.out _ hb1) Try.underlying29 rfl HI1.out ?_)
    refine (F1.out _ hb1).mono ?_
    rintro e w2 ⟨r, rfl, hb2'⟩
    have hb2 := hb1.trans (hb2'.mono hb1.size)
    clear hb2' hb1
    cases r
    · go_wp2_with fail
      refine (AW.out _).mono ?_
      rintro e w9 ⟨rfl, hb9⟩
      go_wp2_with fail
      go_ret
      exact ⟨rfl, by rw [← HG.out]; exact (hWb.trans (hb2.mono (by omega))).trans (hb9.mono (Nat.le_trans (by omega) hb2.size))⟩
    · go_wp2_with fail
      refine wp_region_pred (frameTA C D o g) W (predTA cf df C D o) (by kernel_rfl) ?_ (by kernel_rfl) (fun i => if i = 29 then .bool false else undef) rfl hb2 ?_ ?_
      · intro i w1 w2 v hv hb
        match i with
        | 0 => exact hv
        | 1 => exact hv
        | 2 => obtain ⟨X, e, hI⟩ := hv; exact ⟨X, e, hI.later hb⟩
        | 3 => exact hv
        | 4 => exact hv
        | 5 => obtain ⟨X, e, hI⟩ := hv; exact ⟨X, e, hI.later hb⟩
        | 6 => exact hv
        | 7 => exact hv
        | 8 => exact hv
        | 9 => exact hv
        | 10 => exact hv
        | 11 => exact hv
        | 12 => exact hv
        | 13 => exact hv
        | 14 => exact hv
        | 15 => exact hv
        | 16 => exact hv
        | 17 => exact hv
        | 18 => exact hv
        | 19 => exact hv
        | 20 => exact hv
        | 21 => exact hv
        | 22 => obtain ⟨X, e, hI⟩ := hv; exact ⟨X, e, hI.later hb⟩
        | 23 => exact hv
        | 24 => exact hv
        | 25 => exact hv
        | 26 => exact hv
        | 27 => exact hv
        | 28 => exact hv
        | i + 29 => exact hv
      · intro i xs w1 hi hb hdep
        have hi6 : i < 30 := hi
        clear hi hb2
        rcases (show i = 0 ∨ i = 1 ∨ i = 2 ∨ i = 3 ∨ i = 4 ∨ i = 5 ∨ i = 6 ∨ i = 7 ∨ i = 8 ∨ i = 9 ∨ i = 10 ∨ i = 11 ∨ i = 12 ∨ i = 13 ∨ i = 14 ∨ i = 15 ∨ i = 16 ∨ i = 17 ∨ i = 18 ∨ i = 19 ∨ i = 20 ∨ i = 21 ∨ i = 22 ∨ i = 23 ∨ i = 24 ∨ i = 25 ∨ i = 26 ∨ i = 27 ∨ i = 28 ∨ i = 29 by omega) with rfl | rfl | rfl | rfl | rfl | rfl | rfl | rfl | rfl | rfl | rfl | rfl | rfl | rfl | rfl | rfl | rfl | rfl | rfl | rfl | rfl | rfl | rfl | rfl | rfl | rfl | rfl | rfl | rfl | rfl
        · refine wpOp_at rfl rfl ?_
          refine wp_load_row 29 (.tmp 3) rfl g rfl 29 C (0, 0) _ (HG0.out _ hb) Try.underlying29 rfl HI0.out ?_
          exact ⟨_, by simp only [frameTA, upd]; simp [Act.put], rfl, Below.refl _ _⟩
        · refine wpOp_at rfl rfl ?_
          unfold frameTA Oper.wp
          go_simp
          exact ⟨_, by simp only [frameTA, upd]; simp [Act.put], rfl, Below.refl _ _⟩
        · have h0 : xs 0 = .agg C := hdep 0 (by kernel_rfl)
          have h1 : xs 1 = .int .u64 (o : Int) := hdep 1 (by kernel_rfl)
          refine wpOp_at rfl rfl ?_
          unfold frameTA Oper.wp
          simp only [h0, h1]
          go_simp
          refine (H1.out _ hb).mono ?_
          rintro e w2 ⟨X', rfl, hP, hb2⟩
          exact ⟨_, by simp only [frameTA, upd]; simp [Act.put, h0, h1], ⟨X', rfl, hP⟩, hb2⟩
        · refine wpOp_at rfl rfl ?_
          refine wp_load_row 29 (.tmp 3) rfl g rfl 29 C (0, 0) _ (HG0.out _ hb) Try.underlying29 rfl HI0.out ?_
          exact ⟨_, by simp only [frameTA, upd]; simp [Act.put], rfl, Below.refl _ _⟩
        · refine wpOp_at rfl rfl ?_
          unfold frameTA Oper.wp
          go_simp
          exact ⟨_, by simp only [frameTA, upd]; simp [Act.put], rfl, Below.refl _ _⟩
        · have h3 : xs 3 = .agg C := hdep 3 (by kernel_rfl)
          have h4 : xs 4 = .int .u64 (o : Int) := hdep 4 (by kernel_rfl)
          refine wpOp_at rfl rfl ?_
          unfold frameTA Oper.wp
          simp only [h3, h4]
          go_simp
          refine (H2.out _ hb).mono ?_
          rintro e w2 ⟨X', rfl, hP, hb2⟩
          exact ⟨_, by simp only [frameTA, upd]; simp [Act.put, h3, h4], ⟨X', rfl, hP⟩, hb2⟩
        · obtain ⟨X2, h2, hI2⟩ : ∃ X, xs 2 = .agg X ∧ IsCfg w1 w1.heap.size (hideCfg o cf) X := hdep 2 (by kernel_rfl)
          obtain ⟨X5, h5, hI5⟩ : ∃ X, xs 5 = .agg X ∧ IsCfg w1 w1.heap.size (hideCfg o cf) X := hdep 5 (by kernel_rfl)
          refine wpOp_at rfl rfl ?_
          unfold frameTA Oper.wp
          simp only [h2, h5]
          go_simp
          refine (SM.out w1 X2 X5 hI2 hI5).mono ?_
          rintro e w2 ⟨rfl, hb2⟩
          exact ⟨_, by simp only [frameTA, upd]; simp [Act.put, h2, h5], rfl, hb2⟩
        · have h6 : xs 6 = .bool true := hdep 6 (by kernel_rfl)
          refine wpOp_at rfl rfl ?_
          unfold frameTA Oper.wp
          simp only [h6]
          go_simp
          exact ⟨_, by simp only [frameTA, upd]; simp [Act.put, h6], rfl, Below.refl _ _⟩
        · have h7 : xs 7 = .bool true := hdep 7 (by kernel_rfl)
          refine wpOp_on rfl (by unfold frameTA; simp [Region.wanted, yielded, h7]) ?_
          refine wp_load_row 29 (.tmp 3) rfl g rfl 29 C (0, 0) _ (HG0.out _ hb) Try.underlying29 rfl HI0.out ?_
          exact ⟨_, by simp only [frameTA, upd]; simp [Act.put, h7], rfl, Below.refl _ _⟩
        · have h7 : xs 7 = .bool true := hdep 7 (by kernel_rfl)
          refine wpOp_on rfl (by unfold frameTA; simp [Region.wanted, yielded, h7]) ?_
          refine wp_load_row 29 (.tmp 4) rfl (g + 1) rfl 29 D (0, 0) _ (HG1.out _ hb) Try.underlying29 rfl HI1.out ?_
          exact ⟨_, by simp only [frameTA, upd]; simp [Act.put, h7], rfl, Below.refl _ _⟩
        · have h7 : xs 7 = .bool true := hdep 7 (by kernel_rfl)
          refine wpOp_on rfl (by unfold frameTA; simp [Region.wanted, yielded, h7]) ?_
          unfold frameTA Oper.wp
          simp only [h7]
          go_simp
          exact ⟨_, by simp only [frameTA, upd]; simp [Act.put, h7], rfl, Below.refl _ _⟩
        · have h8 : xs 8 = .agg C := hdep 8 (by kernel_rfl)
          have h9 : xs 9 = .agg D := hdep 9 (by kernel_rfl)
          have h10 : xs 10 = .int .u64 (o : Int) := hdep 10 (by kernel_rfl)
          have h7 : xs 7 = .bool true := hdep 7 (by kernel_rfl)
          refine wpOp_on rfl (by unfold frameTA; simp [Region.wanted, yielded, h7]) ?_
          unfold frameTA Oper.wp
          simp only [h8, h9, h10, h7]
          go_simp
          refine (A1.out _ hb).mono ?_
          rintro e w2 ⟨rfl, hb2⟩
          exact ⟨_, by simp only [frameTA, upd]; simp [Act.put, h8, h9, h10, h7], rfl, hb2⟩
        · have h7 : xs 7 = .bool true := hdep 7 (by kernel_rfl)
          refine wpOp_on rfl (by unfold frameTA; simp [Region.wanted, yielded, h7]) ?_
          refine wp_load_row 29 (.tmp 3) rfl g rfl 29 C (0, 0) _ (HG0.out _ hb) Try.underlying29 rfl HI0.out ?_
          exact ⟨_, by simp only [frameTA, upd]; simp [Act.put, h7], rfl, Below.refl _ _⟩
        · have h7 : xs 7 = .bool true := hdep 7 (by kernel_rfl)
          refine wpOp_on rfl (by unfold frameTA; simp [Region.wanted, yielded, h7]) ?_
          refine wp_load_row 29 (.tmp 4) rfl (g + 1) rfl 29 D (0, 0) _ (HG1.out _ hb) Try.underlying29 rfl HI1.out ?_
          exact ⟨_, by simp only [frameTA, upd]; simp [Act.put, h7], rfl, Below.refl _ _⟩
        · have h7 : xs 7 = .bool true := hdep 7 (by kernel_rfl)
          refine wpOp_on rfl (by unfold frameTA; simp [Region.wanted, yielded, h7]) ?_
          unfold frameTA Oper.wp
          simp only [h7]
          go_simp
          exact ⟨_, by simp only [frameTA, upd]; simp [Act.put, h7], rfl, Below.refl _ _⟩
        · have h12 : xs 12 = .agg C := hdep 12 (by kernel_rfl)
          have h13 : xs 13 = .agg D := hdep 13 (by kernel_rfl)
          have h14 : xs 14 = .int .u64 (o : Int) := hdep 14 (by kernel_rfl)
          have h7 : xs 7 = .bool true := hdep 7 (by kernel_rfl)
          refine wpOp_on rfl (by unfold frameTA; simp [Region.wanted, yielded, h7]) ?_
          unfold frameTA Oper.wp
          simp only [h12, h13, h14, h7]
          go_simp
          refine (A2.out _ hb).mono ?_
          rintro e w2 ⟨rfl, hb2⟩
          exact ⟨_, by simp only [frameTA, upd]; simp [Act.put, h12, h13, h14, h7], rfl, hb2⟩
        · have h11 : xs 11 = .bool (alikeB o cf df) := hdep 11 (by kernel_rfl)
          have h15 : xs 15 = .bool (alikeB o cf df) := hdep 15 (by kernel_rfl)
          have h7 : xs 7 = .bool true := hdep 7 (by kernel_rfl)
          refine wpOp_on rfl (by unfold frameTA; simp [Region.wanted, yielded, h7]) ?_
          unfold frameTA Oper.wp
          simp only [h11, h15, h7]
          go_simp
          exact ⟨_, by simp only [frameTA, upd]; simp [Act.put, h11, h15, h7], rfl, Below.refl _ _⟩
        · have h7 : xs 7 = .bool true := hdep 7 (by kernel_rfl)
          have h16 : xs 16 = .bool true := hdep 16 (by kernel_rfl)
          refine wpOp_at rfl rfl ?_
          unfold frameTA Oper.wp
          simp only [h7, h16]
          go_simp
          exact ⟨_, by simp only [frameTA, upd]; simp [Act.put, h7, h16], rfl, Below.refl _ _⟩
        · have h17 : xs 17 = .bool true := hdep 17 (by kernel_rfl)
          refine wpOp_at rfl rfl ?_
          unfold frameTA Oper.wp
          simp only [h17]
          go_simp
          exact ⟨_, by simp only [frameTA, upd]; simp [Act.put, h17], rfl, Below.refl _ _⟩
        · have h18 : xs 18 = .bool true := hdep 18 (by kernel_rfl)
          refine wpOp_on rfl (by unfold frameTA; simp [Region.wanted, yielded, h18]) ?_
          refine wp_load_row 29 (.tmp 3) rfl g rfl 29 C (0, 0) _ (HG0.out _ hb) Try.underlying29 rfl HI0.out ?_
          exact ⟨_, by simp only [frameTA, upd]; simp [Act.put, h18], rfl, Below.refl _ _⟩
        · have h18 : xs 18 = .bool true := hdep 18 (by kernel_rfl)
          refine wpOp_on rfl (by unfold frameTA; simp [Region.wanted, yielded, h18]) ?_
          refine wp_load_row 29 (.tmp 3) rfl g rfl 29 C (0, 0) _ (HG0.out _ hb) Try.underlying29 rfl HI0.out ?_
          exact ⟨_, by simp only [frameTA, upd]; simp [Act.put, h18], rfl, Below.refl _ _⟩
        · have h18 : xs 18 = .bool true := hdep 18 (by kernel_rfl)
          refine wpOp_on rfl (by unfold frameTA; simp [Region.wanted, yielded, h18]) ?_
          unfold frameTA Oper.wp
          simp only [h18]
          go_simp
          exact ⟨_, by simp only [frameTA, upd]; simp [Act.put, h18], rfl, Below.refl _ _⟩
        · have h20 : xs 20 = .agg C := hdep 20 (by kernel_rfl)
          have h21 : xs 21 = .int .u64 (o : Int) := hdep 21 (by kernel_rfl)
          have h18 : xs 18 = .bool true := hdep 18 (by kernel_rfl)
          refine wpOp_on rfl (by unfold frameTA; simp [Region.wanted, yielded, h18]) ?_
          unfold frameTA Oper.wp
          simp only [h20, h21, h18]
          go_simp
          refine (H1.out _ hb).mono ?_
          rintro e w2 ⟨X', rfl, hP, hb2⟩
          exact ⟨_, by simp only [frameTA, upd]; simp [Act.put, h20, h21, h18], ⟨X', rfl, hP⟩, hb2⟩
        · have h18 : xs 18 = .bool true := hdep 18 (by kernel_rfl)
          refine wpOp_on rfl (by unfold frameTA; simp [Region.wanted, yielded, h18]) ?_
          unfold frameTA Oper.wp
          simp only [h18]
          go_simp
          exact ⟨_, by simp only [frameTA, upd]; simp [Act.put, h18], rfl, Below.refl _ _⟩
        · have h19 : xs 19 = .agg C := hdep 19 (by kernel_rfl)
          obtain ⟨X22, h22, hI22⟩ : ∃ X, xs 22 = .agg X ∧ IsCfg w1 w1.heap.size (hideCfg o cf) X := hdep 22 (by kernel_rfl)
          have h23 : xs 23 = .int .u64 (o : Int) := hdep 23 (by kernel_rfl)
          have h18 : xs 18 = .bool true := hdep 18 (by kernel_rfl)
          refine wpOp_on rfl (by unfold frameTA; simp [Region.wanted, yielded, h18]) ?_
          unfold frameTA Oper.wp
          simp only [h19, h22, h23, h18]
          go_simp
          refine (A3.out w1 X22 hb hI22).mono ?_
          rintro e w2 ⟨rfl, hb2⟩
          exact ⟨_, by simp only [frameTA, upd]; simp [Act.put, h19, h22, h23, h18], rfl, hb2⟩
        · have h18 : xs 18 = .bool true := hdep 18 (by kernel_rfl)
          have h24 : xs 24 = .bool true := hdep 24 (by kernel_rfl)
          refine wpOp_at rfl rfl ?_
          unfold frameTA Oper.wp
          simp only [h18, h24]
          go_simp
          exact ⟨_, by simp only [frameTA, upd]; simp [Act.put, h18, h24], rfl, Below.refl _ _⟩
        · have h25 : xs 25 = .bool true := hdep 25 (by kernel_rfl)
          refine wpOp_at rfl rfl ?_
          unfold frameTA Oper.wp
          simp only [h25]
          go_simp
          exact ⟨_, by simp only [frameTA, upd]; simp [Act.put, h25], rfl, Below.refl _ _⟩
        · have h26 : xs 26 = .bool true := hdep 26 (by kernel_rfl)
          refine wpOp_on rfl (by unfold frameTA; simp [Region.wanted, yielded, h26]) ?_
          unfold frameTA Oper.wp
          simp only [h26]
          go_simp
          refine (AW.out _).mono ?_
          rintro e w2 ⟨rfl, hb2⟩
          exact ⟨_, by simp only [frameTA, upd]; simp [Act.put, h26], rfl, hb2⟩
        · have h26 : xs 26 = .bool true := hdep 26 (by kernel_rfl)
          have h27 : xs 27 = .bool true := hdep 27 (by kernel_rfl)
          refine wpOp_at rfl rfl ?_
          unfold frameTA Oper.wp
          simp only [h26, h27]
          go_simp
          exact ⟨_, by simp only [frameTA, upd]; simp [Act.put, h26, h27], rfl, Below.refl _ _⟩
        · have h28 : xs 28 = .bool true := hdep 28 (by kernel_rfl)
          refine wpOp_at rfl rfl ?_
          unfold frameTA Oper.wp
          simp only [h28]
          go_simp
          exact ⟨_, by simp only [frameTA, upd]; simp [Act.put, h28], rfl, Below.refl _ _⟩
      · intro xs w3 hb3 hx
        have h29 : xs 29 = .bool true := hx 29 (by decide)
        clear hx
        unfold frameTA
        simp only [h29]
        go_wp2_with fail
        go_ret
        exact ⟨rfl, by rw [← HG.out]; exact hWb.trans (hb3.mono (by omega))⟩
end Go.Proofs.Ytfiobbhicicchaa
