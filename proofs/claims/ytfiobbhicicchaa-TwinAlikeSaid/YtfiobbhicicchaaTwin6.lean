/-
  twin.Alike. (Printed by wip/bin/gen_twin6.py.)
-/
import Derived.Test.YtfiobbhicicchaaTwin5
namespace Go.Proofs.Ytfiobbhicicchaa
open Go.RowKit Ar
set_option maxHeartbeats 8000000
set_option maxRecDepth 100000
set_option linter.unusedVariables false

def l8 (f : Nat → Nat) : List Nat := [f 0, f 1, f 2, f 3, f 4, f 5, f 6, f 7]
def rowB (c d : Cfg) (k : Nat) : Bool := sameArrs false (c.ins k) (d.ins k) && (c.draws k == d.draws k)
def rowsFrom (c d : Cfg) (k : Nat) : Bool := ((List.range 8).drop k).all (rowB c d)
theorem rowsFrom_step {c d : Cfg} {k : Nat} (h : k < 8) : rowsFrom c d k = (rowB c d k && rowsFrom c d (k + 1)) := by
  unfold rowsFrom
  rw [List.drop_eq_getElem_cons (by simpa using h), List.all_cons]
  simp
theorem rowsFrom_end {c d : Cfg} : rowsFrom c d 8 = true := by unfold rowsFrom; rw [List.drop_eq_nil_of_le (by simp)]; rfl
/-- Whether two configurations are alike to an observer. -/
def alikeB (o : Nat) (c d : Cfg) : Bool := (l8 c.clear == l8 d.clear) && (l8 c.label == l8 d.label) && (c.auth == d.auth) && (c.depth == d.depth) && rowsFrom (hideCfg o c) (hideCfg o d) 0

theorem CfgAt.base {w w' V : World} {B lo : Nat} {c : Cfg} {D : Array Value} (h : CfgAt w B V lo c D) (hw : ∀ p : Addr, p.block < B → w'.cell? p = w.cell? p) : CfgAt w' B V lo c D :=
  { h with ins := fun j hj => by obtain ⟨A, cp, us, h1, h2, h3, h4⟩ := h.ins j hj; exact ⟨A, cp, us, h1, h2, h3, IsArrs.keep hw (Nat.le_refl _) _ _ h4⟩ }
theorem CfgAt.setRow {w0 V : World} {B lo g : Nat} {c : Cfg} {D : Array Value} (h : CfgAt w0 B V lo c D) (hg : g < lo) (cs : Array Value) : CfgAt w0 B (V.setRow g cs) lo c D :=
  h.mapW fun A us h => by
    rcases h with h | ⟨b, off, h1, h2, h3, h4⟩
    · exact .inl h
    · refine .inr ⟨b, off, h1, h2, by rw [size_setRow]; exact h3, fun j u hu => ?_⟩
      rw [World.cell?_of_block (heap_setRow_far (w := V) (g := g) (g' := b) (cs := cs) (by omega))]
      exact h4 j u hu
theorem mem_ready {md : Region.Mode} {ops : Array Oper} {l : Array Bool} {i : Nat} (h : i < ops.size) (h1 : l.getD i true = false) (h2 : ((ops[i]?).map (·.after.all fun e => !Region.binds md e || l.getD e.on false)).getD false = true) : i ∈ Region.ready md ops l := by
  simp only [Region.ready, List.mem_filter, List.mem_range, Bool.and_eq_true, Bool.not_eq_true']
  exact ⟨h, h1, h2⟩
theorem ready_nil {md : Region.Mode} {ops : Array Oper} {l : Array Bool} (hr : Region.ready md ops l = []) (i : Nat) (h : i < ops.size) (h2 : ((ops[i]?).map (·.after.all fun e => !Region.binds md e || l.getD e.on false)).getD false = true) : l.getD i true = true := by
  cases e : l.getD i true
  · have := mem_ready h e h2
    rw [hr] at this; cases this
  · rfl
/-- A block of a configuration's cells. -/
def CB (w : World) (g : Nat) (L : Array Value) : Prop := w.heap[g]? = some (.cells L 29 (0, 0))
theorem CB.keep {w w' : World} {g : Nat} {L : Array Value} (h : CB w g L) (hb : Below w.heap.size w w') : CB w' g L := by
  have hl : g < w.heap.size := Blk.lt (t := 29) (vs := L.toList) h
  exact (hb.block g hl).trans h
/-- What holds while the operations of 'c, d = Hide(c, observer), Hide(d, observer)' come up. -/
structure AI (w : World) (B g o : Nat) (cf df : Cfg) (C D : Array Value) (b0 b1 b2 b3 b4 b5 b6 b7 : Bool) (x34 x35 x36 x37 x38 x39 : Value) (wx : World) : Prop where
  below : Below g w wx
  size : g + 1 < wx.heap.size
  v34 : b0 = true → x34 = .agg C
  v35 : b1 = true → x35 = .int .u64 (o : Int)
  v36 : b2 = true → ∃ C', x36 = .agg C' ∧ CfgAt w B wx (g + 1 + 1) (hideCfg o cf) C'
  v37 : b3 = true → x37 = .agg D
  v38 : b4 = true → x38 = .int .u64 (o : Int)
  v39 : b5 = true → ∃ D', x39 = .agg D' ∧ CfgAt w B wx (g + 1 + 1) (hideCfg o df) D'
  bg : ∃ L, CB wx g L ∧ (b6 = false → L = C) ∧ (b6 = true → x36 = .agg L)
  bh : ∃ L, CB wx (g + 1) L ∧ (b7 = false → L = D) ∧ (b7 = true → x39 = .agg L)
  o6 : b6 = true → b0 = true ∧ b2 = true
  o7 : b7 = true → b3 = true ∧ b5 = true
def frameA (g o : Nat) (cf df : Cfg) (C D : Array Value) (x34 x35 x36 x37 x38 x39 : Value) : Act := { tmps := #[.agg C, .agg D, .int .u64 (o : Int), .pointer (some ⟨g, 0, none⟩), .pointer (some ⟨g + 1, 0, none⟩), undef, .bool false, undef, .pointer (some ⟨g, 0, none⟩), .agg #[.int .u64 (cf.clear 0 : Int), .int .u64 (cf.clear 1 : Int), .int .u64 (cf.clear 2 : Int), .int .u64 (cf.clear 3 : Int), .int .u64 (cf.clear 4 : Int), .int .u64 (cf.clear 5 : Int), .int .u64 (cf.clear 6 : Int), .int .u64 (cf.clear 7 : Int)], .pointer (some ⟨g + 1, 0, none⟩), .agg #[.int .u64 (df.clear 0 : Int), .int .u64 (df.clear 1 : Int), .int .u64 (df.clear 2 : Int), .int .u64 (df.clear 3 : Int), .int .u64 (df.clear 4 : Int), .int .u64 (df.clear 5 : Int), .int .u64 (df.clear 6 : Int), .int .u64 (df.clear 7 : Int)], .bool false, .bool false, .pointer (some ⟨g, 16, none⟩), .agg #[.int .u64 (cf.label 0 : Int), .int .u64 (cf.label 1 : Int), .int .u64 (cf.label 2 : Int), .int .u64 (cf.label 3 : Int), .int .u64 (cf.label 4 : Int), .int .u64 (cf.label 5 : Int), .int .u64 (cf.label 6 : Int), .int .u64 (cf.label 7 : Int)], .pointer (some ⟨g + 1, 16, none⟩), .agg #[.int .u64 (df.label 0 : Int), .int .u64 (df.label 1 : Int), .int .u64 (df.label 2 : Int), .int .u64 (df.label 3 : Int), .int .u64 (df.label 4 : Int), .int .u64 (df.label 5 : Int), .int .u64 (df.label 6 : Int), .int .u64 (df.label 7 : Int)], .bool false, .bool false, .bool false, .pointer (some ⟨g, 32, none⟩), .int .u64 (cf.auth : Int), .pointer (some ⟨g + 1, 32, none⟩), .int .u64 (df.auth : Int), .bool false, .bool false, .bool false, .pointer (some ⟨g, 35, none⟩), .int .i64 cf.depth, .pointer (some ⟨g + 1, 35, none⟩), .int .i64 df.depth, .bool false, .bool false, x34, x35, x36, x37, x38, x39, undef, undef, undef, undef, undef, undef, undef, undef, undef, undef, undef, undef, undef, undef, undef, undef, undef, undef, undef, undef, undef, undef, undef, undef, undef, undef], defers := [] }
def AInv (w : World) (B g o : Nat) (cf df : Cfg) (C D : Array Value) (l : Array Bool) (a : Act) (wx : World) : Prop :=
  ∃ b0 b1 b2 b3 b4 b5 b6 b7 x34 x35 x36 x37 x38 x39, l = #[b0, b1, b2, b3, b4, b5, b6, b7] ∧ a = frameA g o cf df C D x34 x35 x36 x37 x38 x39 ∧ AI w B g o cf df C D b0 b1 b2 b3 b4 b5 b6 b7 x34 x35 x36 x37 x38 x39 wx

theorem alike_any (cf df : Cfg) (C D : Array Value) (o : Nat) (w : World) (B : Nat) (hC : IsCfg w B cf C) (hD : IsCfg w B df D) (hB : B ≤ w.heap.size) (ho : o < 18446744073709551616) :
    Calls Try.prog 11 #[.agg C, .agg D, .int .u64 (o : Int)] w fun e w' => e = .returned (.bool (alikeB o cf df)) ∧ Below w.heap.size w w' := by
  have HC := Lib.hid hC
  have HD := Lib.hid hD
  obtain ⟨W, hW⟩ : ∃ W, W = (w.alloc (.cells C 29)).alloc (.cells D 29) := ⟨_, rfl⟩
  have hWs : W.heap.size = w.heap.size + 1 + 1 := by rw [hW]; simp
  have hWb : Below w.heap.size w W := by rw [hW]; exact ((Below.refl _ _).alloc (Nat.le_refl _) _).alloc (by simp) _
  have hW0 : CB W w.heap.size C := by rw [hW]; exact heap_alloc2_old _ _ _
  have hW1 : CB W (w.heap.size + 1) D := by rw [hW]; exact heap_alloc2_new _ _ _
  have c0 : ∀ i v, C[i]? = some v → W.cell? ⟨w.heap.size, i, none⟩ = some v := fun i v hv => (cell_of_row W _ i _ _ _ hW0).trans hv
  have c1 : ∀ i v, D[i]? = some v → W.cell? ⟨w.heap.size + 1, i, none⟩ = some v := fun i v hv => (cell_of_row W _ i _ _ _ hW1).trans hv
  have p0 := (hC.clear 0 (by omega)).1
  have r0 := (hD.clear 0 (by omega)).1
  have s0 := (hC.label 0 (by omega)).1
  have t0 := (hD.label 0 (by omega)).1
  have p1 := (hC.clear 1 (by omega)).1
  have r1 := (hD.clear 1 (by omega)).1
  have s1 := (hC.label 1 (by omega)).1
  have t1 := (hD.label 1 (by omega)).1
  have p2 := (hC.clear 2 (by omega)).1
  have r2 := (hD.clear 2 (by omega)).1
  have s2 := (hC.label 2 (by omega)).1
  have t2 := (hD.label 2 (by omega)).1
  have p3 := (hC.clear 3 (by omega)).1
  have r3 := (hD.clear 3 (by omega)).1
  have s3 := (hC.label 3 (by omega)).1
  have t3 := (hD.label 3 (by omega)).1
  have p4 := (hC.clear 4 (by omega)).1
  have r4 := (hD.clear 4 (by omega)).1
  have s4 := (hC.label 4 (by omega)).1
  have t4 := (hD.label 4 (by omega)).1
  have p5 := (hC.clear 5 (by omega)).1
  have r5 := (hD.clear 5 (by omega)).1
  have s5 := (hC.label 5 (by omega)).1
  have t5 := (hD.label 5 (by omega)).1
  have p6 := (hC.clear 6 (by omega)).1
  have r6 := (hD.clear 6 (by omega)).1
  have s6 := (hC.label 6 (by omega)).1
  have t6 := (hD.label 6 (by omega)).1
  have p7 := (hC.clear 7 (by omega)).1
  have r7 := (hD.clear 7 (by omega)).1
  have s7 := (hC.label 7 (by omega)).1
  have t7 := (hD.label 7 (by omega)).1
  simp only [Nat.reduceAdd] at s0 s1 s2 s3 s4 s5 s6 s7 t0 t1 t2 t3 t4 t5 t6 t7
  have p32 := hC.auth
  have r32 := hD.auth
  have p35 := hC.depth
  have r35 := hD.depth
  have n1 := fun wx => run_equalIn_u64 (P := Try.prog) wx 9998 23 22 8 Try.underlying23 Try.underlying22 (fun _ => by kernel_rfl) (l8 cf.clear) (l8 df.clear) rfl rfl
  have n2 := fun wx => run_equalIn_u64 (P := Try.prog) wx 9998 23 22 8 Try.underlying23 Try.underlying22 (fun _ => by kernel_rfl) (l8 cf.label) (l8 df.label) rfl rfl
  have HR : Hid (alikeB o cf df = ((l8 cf.clear == l8 df.clear) && (l8 cf.label == l8 df.label) && (cf.auth == df.auth) && (cf.depth == df.depth) && rowsFrom (hideCfg o cf) (hideCfg o df) 0)) := Lib.hid rfl
  have HW := Lib.hid hW
  have HW0 := Lib.hid hW0
  have HW1 := Lib.hid hW1
  clear hC hD hW hW0 hW1 c0 c1
  generalize alikeB o cf df = R at *
  generalize (l8 cf.clear == l8 df.clear) = e1 at *
  generalize (l8 cf.label == l8 df.label) = e2 at *
  simp only [U64, l8, List.map_cons, List.map_nil] at n1 n2
  simp only [Nat.reduceAdd] at n1 n2
  cases e1
  · go_enter Try.func11, Try.ntmps11
    go_wp2_with fail
    go_ret
    exact ⟨ret_bool (by rw [HR.out]; simp), by rw [HW.out] at hWb; exact hWb⟩
  · cases e2
    · go_enter Try.func11, Try.ntmps11
      go_wp2_with fail
      go_ret
      exact ⟨ret_bool (by rw [HR.out]; simp), by rw [HW.out] at hWb; exact hWb⟩
    · by_cases ha : cf.auth = df.auth
      · have q3 : ((cf.auth : Int) != (df.auth : Int)) = false := by simp; omega
        by_cases hd : cf.depth = df.depth
        · have q4 : (cf.depth != df.depth) = false := by simpa using hd
          have HAD := Lib.hid (And.intro ha hd)
          clear ha hd
          go_enter Try.func11, Try.ntmps11
          go_wp2_with fail
          rw [← HW.out]
          clear p0 p1 p2 p3 p4 p5 p6 p7 r0 r1 r2 r3 r4 r5 r6 r7 s0 s1 s2 s3 s4 s5 s6 s7 t0 t1 t2 t3 t4 t5 t6 t7 p32 p35 r32 r35 n1 n2
          have HGS := Lib.hid hWs
          generalize hgg : w.heap.size = g at *
          have HGG := Lib.hid hgg
          clear hgg hWs
          refine wp_region_any (by kernel_rfl) ?_
          refine wpAny_inv (AInv w B g o cf df C D) ?_ ?_ 8 _ _ _ (by decide) ⟨false, false, false, false, false, false, false, false, undef, undef, undef, undef, undef, undef, rfl, rfl, ⟨below_drewN' hWb 1, by show g + 1 < W.heap.size; rw [HGS.out]; omega, nofun, nofun, nofun, nofun, nofun, nofun, ⟨C, HW0.out, fun _ => rfl, nofun⟩, ⟨D, HW1.out, fun _ => rfl, nofun⟩, nofun, nofun⟩⟩
          · rintro _ _ wx ⟨b0, b1, b2, b3, b4, b5, b6, b7, x34, x35, x36, x37, x38, x39, rfl, rfl, hJ⟩ i hi
            obtain ⟨h8, hl, ha⟩ := ready_mem hi
            have h8' : i < 8 := h8
            clear h8 hi
            have hsz := hJ.size
            rcases (show i = 0 ∨ i = 1 ∨ i = 2 ∨ i = 3 ∨ i = 4 ∨ i = 5 ∨ i = 6 ∨ i = 7 by omega) with rfl | rfl | rfl | rfl | rfl | rfl | rfl | rfl
            · have hb0 : b0 = false := hl
              subst hb0
              have hb6 : b6 = false := by
                cases b6
                · rfl
                · exact absurd (hJ.o6 rfl).1 (by decide)
              subst hb6
              obtain ⟨L, hL, hLe, _⟩ := hJ.bg
              obtain rfl := hLe rfl
              refine wpOp_at rfl rfl ?_
              refine wp_load_row 29 (.tmp 3) rfl g rfl 29 L (0, 0) _ hL Try.underlying29 rfl (by rw [HC.out.size]; exact cfg_info) ?_
              exact ⟨true, b1, b2, b3, b4, b5, false, b7, _, x35, x36, x37, x38, x39, rfl, rfl, { hJ with v34 := fun _ => rfl, o6 := nofun }⟩
            · refine wpOp_at rfl rfl ?_
              unfold frameA Oper.wp
              go_simp
              exact ⟨b0, true, b2, b3, b4, b5, b6, b7, x34, _, x36, x37, x38, x39, rfl, rfl, { hJ with v35 := fun _ => rfl }⟩
            · have h0 : b0 = true ∧ b1 = true := by simpa [Region.binds] using ha
              obtain ⟨rfl, rfl⟩ := h0
              have hb2 : b2 = false := hl
              subst hb2
              have hb6 : b6 = false := by
                cases b6
                · rfl
                · exact absurd (hJ.o6 rfl).2 (by decide)
              subst hb6
              obtain rfl := hJ.v34 rfl
              obtain rfl := hJ.v35 rfl
              have HH := hide_any cf C o wx B (HC.out.below (hJ.below.mono hB)) (by omega) ho
              refine wpOp_at rfl rfl ?_
              unfold frameA Oper.wp
              go_simp
              refine HH.mono ?_
              rintro e w2 ⟨C', rfl, hC', hb2⟩
              have hkeep : ∀ p : Addr, p.block < B → w.cell? p = wx.cell? p := fun p hp => (hJ.below.cell (by omega)).symm
              exact ⟨true, true, true, b3, b4, b5, false, b7, _, _, _, x37, x38, x39, rfl, rfl, { hJ with
                below := hJ.below.trans (hb2.mono (by omega))
                size := Nat.lt_of_lt_of_le hJ.size hb2.size
                v36 := fun _ => ⟨C', rfl, (hC'.base hkeep).mono (by omega)⟩
                v39 := fun h => by obtain ⟨D', e, k⟩ := hJ.v39 h; exact ⟨D', e, k.later hb2⟩
                bg := by obtain ⟨L, k1, k2, k3⟩ := hJ.bg; exact ⟨L, k1.keep hb2, k2, nofun⟩
                bh := by obtain ⟨L, k1, k2, k3⟩ := hJ.bh; exact ⟨L, k1.keep hb2, k2, k3⟩
                o6 := nofun }⟩
            · have hb3 : b3 = false := hl
              subst hb3
              have hb7 : b7 = false := by
                cases b7
                · rfl
                · exact absurd (hJ.o7 rfl).1 (by decide)
              subst hb7
              obtain ⟨L, hL, hLe, _⟩ := hJ.bh
              obtain rfl := hLe rfl
              refine wpOp_at rfl rfl ?_
              refine wp_load_row 29 (.tmp 4) rfl (g + 1) rfl 29 L (0, 0) _ hL Try.underlying29 rfl (by rw [HD.out.size]; exact cfg_info) ?_
              exact ⟨b0, b1, b2, true, b4, b5, b6, false, x34, x35, x36, _, x38, x39, rfl, rfl, { hJ with v37 := fun _ => rfl, o7 := nofun }⟩
            · refine wpOp_at rfl rfl ?_
              unfold frameA Oper.wp
              go_simp
              exact ⟨b0, b1, b2, b3, true, b5, b6, b7, x34, x35, x36, x37, _, x39, rfl, rfl, { hJ with v38 := fun _ => rfl }⟩
            · have h0 : b3 = true ∧ b4 = true ∧ b2 = true := by simpa [Region.binds] using ha
              obtain ⟨rfl, rfl, rfl⟩ := h0
              have hb5 : b5 = false := hl
              subst hb5
              have hb7 : b7 = false := by
                cases b7
                · rfl
                · exact absurd (hJ.o7 rfl).2 (by decide)
              subst hb7
              obtain rfl := hJ.v37 rfl
              obtain rfl := hJ.v38 rfl
              have HH := hide_any df D o wx B (HD.out.below (hJ.below.mono hB)) (by omega) ho
              refine wpOp_at rfl rfl ?_
              unfold frameA Oper.wp
              go_simp
              refine HH.mono ?_
              rintro e w2 ⟨D', rfl, hD', hb2⟩
              have hkeep : ∀ p : Addr, p.block < B → w.cell? p = wx.cell? p := fun p hp => (hJ.below.cell (by omega)).symm
              exact ⟨b0, b1, true, true, true, true, b6, false, x34, x35, x36, _, _, _, rfl, rfl, { hJ with
                below := hJ.below.trans (hb2.mono (by omega))
                size := Nat.lt_of_lt_of_le hJ.size hb2.size
                v39 := fun _ => ⟨D', rfl, (hD'.base hkeep).mono (by omega)⟩
                v36 := fun h => by obtain ⟨C', e, k⟩ := hJ.v36 h; exact ⟨C', e, k.later hb2⟩
                bg := by obtain ⟨L, k1, k2, k3⟩ := hJ.bg; exact ⟨L, k1.keep hb2, k2, k3⟩
                bh := by obtain ⟨L, k1, k2, k3⟩ := hJ.bh; exact ⟨L, k1.keep hb2, k2, nofun⟩
                o7 := nofun }⟩
            · have h0 : b2 = true ∧ b5 = true ∧ b0 = true ∧ b1 = true ∧ b2 = true := by simpa [Region.binds] using ha
              obtain ⟨rfl, rfl, rfl, rfl, -⟩ := h0
              have hb6 : b6 = false := hl
              subst hb6
              obtain ⟨L, hL, hLe, _⟩ := hJ.bg
              obtain rfl := hLe rfl
              obtain ⟨C', rfl, hC'⟩ := hJ.v36 rfl
              refine wpOp_at rfl rfl ?_
              refine wp_store_row 29 (.tmp 3) (.tmp 36) rfl g C' rfl rfl 29 L hL (by rw [hC'.size]; exact cfg_info) (by rw [hC'.size, HC.out.size]) (hC'.is (fun p hp => hJ.below.cell (by omega)) (by omega)).one ?_
              exact ⟨true, true, true, b3, b4, true, true, b7, x34, x35, _, x37, x38, x39, rfl, rfl, { hJ with
                below := Below.setRow' hJ.below (Nat.le_refl _) _
                size := by rw [size_setRow]; exact hJ.size
                v36 := fun _ => ⟨C', rfl, hC'.setRow (by omega) _⟩
                v39 := fun h => by obtain ⟨D', e, k⟩ := hJ.v39 h; exact ⟨D', e, k.setRow (by omega) _⟩
                bg := ⟨C', heap_setRow_same hL, nofun, fun _ => rfl⟩
                bh := by obtain ⟨L', k1, k2, k3⟩ := hJ.bh; exact ⟨L', (heap_setRow_far (by omega)).trans k1, k2, k3⟩
                o6 := fun _ => ⟨rfl, rfl⟩ }⟩
            · have h0 : b5 = true ∧ b6 = true ∧ b0 = true ∧ b1 = true ∧ b2 = true ∧ b3 = true ∧ b4 = true ∧ b5 = true ∧ b6 = true := by simpa [Region.binds] using ha
              obtain ⟨rfl, rfl, rfl, rfl, rfl, rfl, rfl, -, -⟩ := h0
              have hb7 : b7 = false := hl
              subst hb7
              obtain ⟨L, hL, hLe, _⟩ := hJ.bh
              obtain rfl := hLe rfl
              obtain ⟨D', rfl, hD'⟩ := hJ.v39 rfl
              refine wpOp_at rfl rfl ?_
              refine wp_store_row 29 (.tmp 4) (.tmp 39) rfl (g + 1) D' rfl rfl 29 L hL (by rw [hD'.size]; exact cfg_info) (by rw [hD'.size, HD.out.size]) (hD'.is (fun p hp => hJ.below.cell (by omega)) (by omega)).one ?_
              exact ⟨true, true, true, true, true, true, true, true, x34, x35, x36, x37, x38, _, rfl, rfl, { hJ with
                below := Below.setRow' hJ.below (by omega) _
                size := by rw [size_setRow]; exact hJ.size
                v36 := fun h => by obtain ⟨C', e, k⟩ := hJ.v36 h; exact ⟨C', e, k.setRow (by omega) _⟩
                v39 := fun _ => ⟨D', rfl, hD'.setRow (by omega) _⟩
                bg := by obtain ⟨L', k1, k2, k3⟩ := hJ.bg; exact ⟨L', (heap_setRow_far (by omega)).trans k1, k2, k3⟩
                bh := ⟨D', heap_setRow_same hL, nofun, fun _ => rfl⟩
                o7 := fun _ => ⟨rfl, rfl⟩ }⟩
          · rintro _ _ wx ⟨b0, b1, b2, b3, b4, b5, b6, b7, x34, x35, x36, x37, x38, x39, rfl, rfl, hJ⟩ hr
            have e0 : b0 = true := ready_nil hr 0 (by decide) (by simp [Region.binds])
            subst e0
            have e1 : b1 = true := ready_nil hr 1 (by decide) (by simp [Region.binds])
            subst e1
            have e2 : b2 = true := ready_nil hr 2 (by decide) (by simp [Region.binds])
            subst e2
            have e3 : b3 = true := ready_nil hr 3 (by decide) (by simp [Region.binds])
            subst e3
            have e4 : b4 = true := ready_nil hr 4 (by decide) (by simp [Region.binds])
            subst e4
            have e5 : b5 = true := ready_nil hr 5 (by decide) (by simp [Region.binds])
            subst e5
            have e6 : b6 = true := ready_nil hr 6 (by decide) (by simp [Region.binds])
            subst e6
            have e7 : b7 = true := ready_nil hr 7 (by decide) (by simp [Region.binds])
            subst e7
            clear hr
            obtain ⟨C', rfl, hC'⟩ := hJ.v36 rfl
            obtain ⟨D', rfl, hD'⟩ := hJ.v39 rfl
            obtain ⟨L, hL, _, hLe⟩ := hJ.bg
            have e := hLe rfl
            injection e with e
            subst e
            obtain ⟨L', hL', _, hLe'⟩ := hJ.bh
            have e := hLe' rfl
            injection e with e
            subst e
            have hxb := hJ.below
            have hxs := hJ.size
            have HC2 := Lib.hid (hC'.is (fun p hp => hxb.cell (by omega)) (by omega))
            have HD2 := Lib.hid (hD'.is (fun p hp => hxb.cell (by omega)) (by omega))
            have HL := Lib.hid hL
            have HL' := Lib.hid hL'
            clear hJ hC' hD' hL hL' hLe hLe' HC HD HW HW0 HW1 hWb
            generalize hideCfg o cf = hc at *
            generalize hideCfg o df = hd at *
            unfold frameA
            go_wp2_with fail
            go_loopw [7, 40] (fun _ i wr => ∃ k : Nat, k ≤ 8 ∧ i = .int .i64 k ∧ Hid (rowsFrom hc hd k = rowsFrom hc hd 0) ∧ Below wx.heap.size wx wr) (fun _ i _ => 8 - (intOf i).toNat)
            case atStart => exact ⟨0, Nat.zero_le _, rfl, Lib.hid rfl, Below.refl _ _⟩
            case round =>
              obtain ⟨k, hk, rfl, HT, hbel⟩ := hrel
              have hsz := hbel.size
              by_cases hlt : k < 8
              · obtain ⟨A1, cp1, us1, i1, i2, i3, i4⟩ := HC2.out.ins k hlt
                obtain ⟨A2, cp2, us2, j1, j2, j3, j4⟩ := HD2.out.ins k hlt
                obtain ⟨A3, cp3, d1, d2, d3, d4⟩ := HC2.out.draws k hlt
                obtain ⟨A4, cp4, f1, f2, f3, f4⟩ := HD2.out.draws k hlt
                have q1 : wr.cell? ⟨g, 8 + k, none⟩ = some (.slice A1 (hc.ins k).length cp1) := by rw [hbel.cell (p := ⟨g, 8 + k, none⟩) (show g < wx.heap.size by omega), cell_of_row wx g (8 + k) _ _ _ HL.out]; exact i1
                have q2 : wr.cell? ⟨g + 1, 8 + k, none⟩ = some (.slice A2 (hd.ins k).length cp2) := by rw [hbel.cell (p := ⟨g + 1, 8 + k, none⟩) (show g + 1 < wx.heap.size by omega), cell_of_row wx (g + 1) (8 + k) _ _ _ HL'.out]; exact j1
                have q3 : wr.cell? ⟨g, 24 + k, none⟩ = some (.slice A3 (hc.draws k).length cp3) := by rw [hbel.cell (p := ⟨g, 24 + k, none⟩) (show g < wx.heap.size by omega), cell_of_row wx g (24 + k) _ _ _ HL.out]; exact d1
                have q4 : wr.cell? ⟨g + 1, 24 + k, none⟩ = some (.slice A4 (hd.draws k).length cp4) := by rw [hbel.cell (p := ⟨g + 1, 24 + k, none⟩) (show g + 1 < wx.heap.size by omega), cell_of_row wx (g + 1) (24 + k) _ _ _ HL'.out]; exact f1
                have E1 := Lib.hid (fun (x : Later wr) => eqFuncMatch_any (hc.ins k) (hd.ins k) us1 us2 A1 A2 cp1 cp2 false x.w wx.heap.size (i4.below (hbel.trans (x.b.mono hsz))) (j4.below (hbel.trans (x.b.mono hsz))) (i3.below (hbel.trans (x.b.mono hsz))) (j3.below (hbel.trans (x.b.mono hsz))) (Nat.le_trans hsz x.b.size) (by have := i2.2.1; omega) (by have := j2.2.1; omega) (fun k' _ _ u u' wy hy hu hu' => arrMatch_any _ _ u u' wy wx.heap.size hu hu' (Nat.le_trans hsz (Nat.le_trans x.b.size hy.size))))
                have E2 := Lib.hid (fun (x : Later wr) => eqInts_any (hc.draws k) (hd.draws k) A3 A4 cp3 cp4 x.w wx.heap.size (d4.below (hbel.trans (x.b.mono hsz))) (f4.below (hbel.trans (x.b.mono hsz))) (by have := d2.2.1; omega) (by have := f2.2.1; omega))
                have HST := Lib.hid (rowsFrom_step (c := hc) (d := hd) hlt)
                have HRB : Hid (rowB hc hd k = (sameArrs false (hc.ins k) (hd.ins k) && (hc.draws k == hd.draws k))) := Lib.hid rfl
                clear i1 i2 i3 i4 j1 j2 j3 j4 d1 d2 d3 d4 f1 f2 f3 f4
                generalize sameArrs false (hc.ins k) (hd.ins k) = m1 at *
                generalize (hc.draws k == hd.draws k) = m2 at *
                generalize (hc.ins k).length = z1 at *
                generalize (hd.ins k).length = z2 at *
                generalize (hc.draws k).length = z3 at *
                generalize (hd.draws k).length = z4 at *
                have hgw : g < wr.heap.size := by omega
                have HK : ∀ (x : Later wr) (o : Nat), x.w.cell? ⟨g, o, none⟩ = wr.cell? ⟨g, o, none⟩ := fun x o => x.b.cell (p := ⟨g, o, none⟩) hgw
                have HK' : ∀ (x : Later wr) (o : Nat), x.w.cell? ⟨g + 1, o, none⟩ = wr.cell? ⟨g + 1, o, none⟩ := fun x o => x.b.cell (p := ⟨g + 1, o, none⟩) (show g + 1 < wr.heap.size by omega)
                have hk0 : (0 : Int) ≤ (k : Int) := by omega
                have hk8 : (k : Int) < 8 := by omega
                cases m1
                · have HZ : Hid (rowsFrom hc hd 0 = false) := Lib.hid (by rw [← HT.out, HST.out, HRB.out]; rfl)
                  go_wp2_with fail
                  refine wp_region_later wr (by kernel_rfl) (by kernel_rfl) (Below.drew_self wr) ?_
                  repeat (go_big_quiet_step ((go_at_call 24; exact Later.call (E1.out _))))
                  refine wpQuiet_nil ?_
                  rintro _ ⟨⟨w4, hb4⟩, rfl⟩
                  clear HK HK' q1 q2 q3 q4
                  go_wp2_with fail
                  go_ret
                  exact ⟨ret_bool (by rw [HR.out, HZ.out]; simp), by rw [HGG.out]; exact (hxb.trans (hbel.mono (by omega))).trans (hb4.mono (by omega))⟩
                · cases m2
                  · have HZ : Hid (rowsFrom hc hd 0 = false) := Lib.hid (by rw [← HT.out, HST.out, HRB.out]; rfl)
                    go_wp2_with fail
                    refine wp_region_later wr (by kernel_rfl) (by kernel_rfl) (Below.drew_self wr) ?_
                    repeat (go_big_quiet_step (first | (go_at_call 24; exact Later.call (E1.out _)) | (go_at_call 26; exact Later.call (E2.out _))))
                    refine wpQuiet_nil ?_
                    rintro _ ⟨⟨w4, hb4⟩, rfl⟩
                    clear HK HK' q1 q2 q3 q4
                    go_wp2_with fail
                    go_ret
                    exact ⟨ret_bool (by rw [HR.out, HZ.out]; simp), by rw [HGG.out]; exact (hxb.trans (hbel.mono (by omega))).trans (hb4.mono (by omega))⟩
                  · have HZ : Hid (rowsFrom hc hd (k + 1) = rowsFrom hc hd 0) := Lib.hid (by rw [← HT.out, HST.out, HRB.out]; rfl)
                    go_wp2_with fail
                    refine wp_region_later wr (by kernel_rfl) (by kernel_rfl) (Below.drew_self wr) ?_
                    repeat (go_big_quiet_step (first | (go_at_call 24; exact Later.call (E1.out _)) | (go_at_call 26; exact Later.call (E2.out _))))
                    refine wpQuiet_nil ?_
                    rintro _ ⟨⟨w4, hb4⟩, rfl⟩
                    clear HK HK' q1 q2 q3 q4
                    go_wp2_with fail
                    go_roundw
                    case rel => exact ⟨k + 1, by omega, by go_num, HZ, hbel.trans (hb4.mono hsz)⟩
                    case measure => simp [intOf]; omega
              · obtain rfl : k = 8 := by omega
                have HZ : Hid (rowsFrom hc hd 0 = true) := Lib.hid (by rw [← HT.out]; exact rowsFrom_end)
                go_wp2_with fail
                go_ret
                exact ⟨ret_bool (by rw [HR.out, HZ.out, HAD.out.1, HAD.out.2]; simp), by rw [HGG.out]; exact hxb.trans (hbel.mono (by omega))⟩
        · have q4 : (cf.depth != df.depth) = true := by simpa using hd
          go_enter Try.func11, Try.ntmps11
          go_wp2_with fail
          go_ret
          exact ⟨ret_bool (by rw [HR.out]; simp [hd]), by rw [HW.out] at hWb; exact hWb⟩
      · have q3 : ((cf.auth : Int) != (df.auth : Int)) = true := by simp; omega
        have q3' : (cf.auth != df.auth) = true := by simpa using ha
        go_enter Try.func11, Try.ntmps11
        go_wp2_with fail
        go_ret
        exact ⟨ret_bool (by rw [HR.out]; simp [ha]), by rw [HW.out] at hWb; exact hWb⟩
end Go.Proofs.Ytfiobbhicicchaa
