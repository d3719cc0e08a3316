/-
  Numbers by the reference: scrimref04.Top, Bot, Make. (Printed by wip/bin/gen_rat2.py.)
-/
import Derived.Test.YtfiobbhicicchaaRat1
import Derived.Test.YtfiobbhicicchaaRegInv
namespace Go.Proofs.Ytfiobbhicicchaa
open Go.RowKit
set_option maxHeartbeats 4000000
set_option maxRecDepth 100000
set_option linter.unusedVariables false

theorem top_any (n : Bool) (v1 v2 : Value) (l1 l2 : List Nat) (w : World) (h1 : ResL w v1 l1) (h2 : ResL w v2 l2) :
    Calls Try.prog 56 #[.agg #[.bool n, v1, v2]] w (Int3Out w (Rt.nrm n (Nt.val l1)) (Nt.digs (Nt.val l1))) := by
  have hb0 : ∀ o1 o2, Below w.heap.size w ((w.alloc o1).alloc o2) := fun o1 o2 => ((Below.refl _ _).alloc (Nat.le_refl _) _).alloc (by simp) _
  have HN := Lib.hid (fun o1 o2 => norm3_any n v1 _ _ (h1.below (hb0 o1 o2)))
  have HB := Lib.hid hb0
  obtain ⟨⟨A1, c1, rfl, -⟩, -⟩ := h1
  obtain ⟨⟨A2, c2, rfl, -⟩, -⟩ := h2
  clear hb0
  generalize Rt.nrm n (Nt.val l1) = n2 at *
  generalize Nt.digs (Nt.val l1) = d2 at *
  generalize l1.length = k1 at *
  generalize l2.length = k2 at *
  have HI2 : Hid (∀ (b : Bool) (A : Option Addr) (k c : Nat), (Try.prog.info? 79).map (·.size) = some (#[.bool b, .slice A k c] : Array Value).size) := Lib.hid (fun _ _ _ _ => int3_info)
  go_enter Try.func56, Try.ntmps56
  go_wp2_with fail
  refine (HN.out _ _).mono ?_
  rintro e w2 ⟨v3, rfl, hr2, hb2⟩
  have hb3 := (HB.out _ _).trans (hb2.mono (HB.out _ _).size)
  have HG1 : Hid (w2.heap[w.heap.size + 1]? = some (.cells #[.bool false, .slice none 0 0] 79 (0, 0))) := Lib.hid ((hb2.block (w.heap.size + 1) (by simp)).trans (by
    have := heap_alloc_new (w.alloc (.cells #[.bool n, .slice A1 k1 c1, .slice A2 k2 c2] 58)) (.cells #[.bool false, .slice none 0 0] 79)
    rwa [show (w.alloc (.cells #[.bool n, .slice A1 k1 c1, .slice A2 k2 c2] 58)).heap.size = w.heap.size + 1 by simp] at this))
  have HR2 := Lib.hid (hr2.setRow HG1.out (two_no_int _ _ _ _) #[.bool n2, v3])
  obtain ⟨⟨A3, c3, rfl, -⟩, -⟩ := hr2
  clear hb2
  generalize d2.length = k3 at *
  go_wp2_with (first
    | (with_reducible refine wpList_store_row rfl 79 (.tmp 2) (.tmp 8) rfl (w.heap.size + 1) #[.bool n2, .slice A3 k3 c3] rfl rfl 79 #[.bool false, .slice none 0 0] HG1.out (HI2.out _ _ _ _) rfl (two_one _ _ _ _) ?_))
  refine bodyPost_ret (results_cell_row (by rfl) _ _ (w.heap.size + 1) 79 #[.bool n2, .slice A3 k3 c3] (0, 0) _ (by rfl) (rheap_same HG1.out) Try.underlying79 rfl (HI2.out _ _ _ _)) rfl ⟨.slice A3 k3 c3, rfl, HR2.out, rBelow.setRow hb3 (by omega) _⟩

theorem bot_any (n : Bool) (v1 v2 : Value) (l1 l2 : List Nat) (w : World) (h1 : ResL w v1 l1) (h2 : ResL w v2 l2) :
    Calls Try.prog 57 #[.agg #[.bool n, v1, v2]] w (Int3Out w (Rt.nrm false (Nt.val l2)) (Nt.digs (Nt.val l2))) := by
  have hb0 : ∀ o1 o2, Below w.heap.size w ((w.alloc o1).alloc o2) := fun o1 o2 => ((Below.refl _ _).alloc (Nat.le_refl _) _).alloc (by simp) _
  have HN := Lib.hid (fun o1 o2 => norm3_any false v2 _ _ (h2.below (hb0 o1 o2)))
  have HB := Lib.hid hb0
  obtain ⟨⟨A1, c1, rfl, -⟩, -⟩ := h1
  obtain ⟨⟨A2, c2, rfl, -⟩, -⟩ := h2
  clear hb0
  generalize Rt.nrm false (Nt.val l2) = n2 at *
  generalize Nt.digs (Nt.val l2) = d2 at *
  generalize l1.length = k1 at *
  generalize l2.length = k2 at *
  have HI2 : Hid (∀ (b : Bool) (A : Option Addr) (k c : Nat), (Try.prog.info? 79).map (·.size) = some (#[.bool b, .slice A k c] : Array Value).size) := Lib.hid (fun _ _ _ _ => int3_info)
  go_enter Try.func57, Try.ntmps57
  go_wp2_with fail
  refine (HN.out _ _).mono ?_
  rintro e w2 ⟨v3, rfl, hr2, hb2⟩
  have hb3 := (HB.out _ _).trans (hb2.mono (HB.out _ _).size)
  have HG1 : Hid (w2.heap[w.heap.size + 1]? = some (.cells #[.bool false, .slice none 0 0] 79 (0, 0))) := Lib.hid ((hb2.block (w.heap.size + 1) (by simp)).trans (by
    have := heap_alloc_new (w.alloc (.cells #[.bool n, .slice A1 k1 c1, .slice A2 k2 c2] 58)) (.cells #[.bool false, .slice none 0 0] 79)
    rwa [show (w.alloc (.cells #[.bool n, .slice A1 k1 c1, .slice A2 k2 c2] 58)).heap.size = w.heap.size + 1 by simp] at this))
  have HR2 := Lib.hid (hr2.setRow HG1.out (two_no_int _ _ _ _) #[.bool n2, v3])
  obtain ⟨⟨A3, c3, rfl, -⟩, -⟩ := hr2
  clear hb2
  generalize d2.length = k3 at *
  go_wp2_with (first
    | (with_reducible refine wpList_store_row rfl 79 (.tmp 2) (.tmp 6) rfl (w.heap.size + 1) #[.bool n2, .slice A3 k3 c3] rfl rfl 79 #[.bool false, .slice none 0 0] HG1.out (HI2.out _ _ _ _) rfl (two_one _ _ _ _) ?_))
  refine bodyPost_ret (results_cell_row (by rfl) _ _ (w.heap.size + 1) 79 #[.bool n2, .slice A3 k3 c3] (0, 0) _ (by rfl) (rheap_same HG1.out) Try.underlying79 rfl (HI2.out _ _ _ _)) rfl ⟨.slice A3 k3 c3, rfl, HR2.out, rBelow.setRow hb3 (by omega) _⟩

/-- What holds while the operations of 'x, y := Norm(p), Norm(q)' come up. -/
structure MI (w : World) (P Q : Array Value) (N1 N2 : Bool) (D1 D2 : List Nat) (b0 b1 b2 b3 b4 b5 b6 b7 : Bool) (x15 x16 x17 x18 x6 x7 : Value) (wx : World) : Prop where
  below : Below w.heap.size w wx
  v15 : b0 = true → x15 = .agg P
  v16 : b1 = true → ∃ v, x16 = .agg #[.bool N1, v] ∧ ResL wx v D1
  v17 : b2 = true → x17 = .agg Q
  v18 : b3 = true → ∃ v, x18 = .agg #[.bool N2, v] ∧ ResL wx v D2
  v6 : b4 = true → ∃ g n A k c, x6 = .pointer (some ⟨g, 0, none⟩) ∧ w.heap.size ≤ g ∧ wx.heap[g]? = some (.cells #[.bool n, .slice A k c] 79 (0, 0)) ∧ (b6 = true → x16 = .agg #[.bool n, .slice A k c])
  v7 : b5 = true → ∃ g n A k c, x7 = .pointer (some ⟨g, 0, none⟩) ∧ w.heap.size ≤ g ∧ wx.heap[g]? = some (.cells #[.bool n, .slice A k c] 79 (0, 0)) ∧ (b7 = true → x18 = .agg #[.bool n, .slice A k c])
  o6 : b6 = true → b4 = true ∧ b1 = true
  o7 : b7 = true → b5 = true ∧ b3 = true
  ne : b4 = true → b5 = true → x6 ≠ x7
def frameM (g : Nat) (P Q : Array Value) (x15 x16 x17 x18 x6 x7 : Value) : Act := { tmps := #[.agg P, .agg Q, .pointer (some ⟨g, 0, none⟩), .pointer (some ⟨g + 1, 0, none⟩), .pointer (some ⟨g + 1 + 1, 0, none⟩), .int .i64 0, x6, x7, undef, undef, undef, undef, undef, undef, undef, x15, x16, x17, x18, undef, undef, undef, undef, undef, undef, undef, undef, undef, undef, undef, undef, undef, undef, undef, undef, undef, undef, undef, undef, undef, undef, undef, undef, undef, undef, undef, undef, undef, undef, undef, undef, undef, undef, undef, undef, undef, undef, undef, undef, undef, undef, undef, undef, undef, undef, undef, undef], defers := [] }
def MInv (w : World) (g : Nat) (P Q : Array Value) (N1 N2 : Bool) (D1 D2 : List Nat) (l : Array Bool) (a : Act) (wx : World) : Prop :=
  ∃ b0 b1 b2 b3 b4 b5 b6 b7 x15 x16 x17 x18 x6 x7, l = #[b0, b1, b2, b3, b4, b5, b6, b7] ∧ a = frameM g P Q x15 x16 x17 x18 x6 x7 ∧ MI w P Q N1 N2 D1 D2 b0 b1 b2 b3 b4 b5 b6 b7 x15 x16 x17 x18 x6 x7 wx
theorem rheap_far {w : World} {g g' : Nat} {cs : Array Value} (h : g ≠ g') : (w.setRow g cs).heap[g']? = w.heap[g']? := by
  simp only [World.setRow, Array.getElem?_modify]
  rw [if_neg (by omega)]
theorem blk_lt {w : World} {g : Nat} {o : Obj} (h : w.heap[g]? = some o) : g < w.heap.size := by
  rcases Nat.lt_or_ge g w.heap.size with hl | hl
  · exact hl
  · rw [Array.getElem?_eq_none hl] at h; cases h
theorem mem_ready' {md : Region.Mode} {ops : Array Oper} {l : Array Bool} {i : Nat} (h : i < ops.size) (h1 : l.getD i true = false) (h2 : ((ops[i]?).map (·.after.all fun e => !Region.binds md e || l.getD e.on false)).getD false = true) : i ∈ Region.ready md ops l := by
  simp only [Region.ready, List.mem_filter, List.mem_range, Bool.and_eq_true, Bool.not_eq_true']
  exact ⟨h, h1, h2⟩
theorem ready_nil' {md : Region.Mode} {ops : Array Oper} {l : Array Bool} (hr : Region.ready md ops l = []) (i : Nat) (h : i < ops.size) (h2 : ((ops[i]?).map (·.after.all fun e => !Region.binds md e || l.getD e.on false)).getD false = true) : l.getD i true = true := by
  cases e : l.getD i true
  · have := mem_ready' h e h2
    rw [hr] at this; cases this
  · rfl
theorem results_cell_row_tmp {P : Program} {fn : Func} {p u : Tmp} {ty : TypeId} (h : fn.results = #[.cell p ty, .tmp u]) (tmps : Array Value) (w : World) (g : Nat) (t : TypeId) (cs : Array Value) (fr : Nat × Nat) (d : TypeDesc) (x : Value)
    (hp : tmps.getD p undef = .pointer (some ⟨g, 0, none⟩)) (hx : tmps.getD u undef = x) (hg : w.heap[g]? = some (.cells cs t fr))
    (hu : P.underlying ty = some d) (hd : (match d with | .struct _ | .array _ _ => true | _ => false) = true) (hi : (P.info? ty).map (·.size) = some cs.size) :
    (results fn tmps).run P w = .ok (.tuple #[.agg cs, x]) w := by
  have hp' : tmps[p]?.getD undef = .pointer (some ⟨g, 0, none⟩) := by simpa using hp
  have hx' : tmps[u]?.getD undef = x := by simpa using hx
  simp [results, h, hp', hx', asAddr, run_loadVar_row w g t ty cs fr d hg hu hd hi]
theorem isRes_nil (w : World) : IsRes w (.slice none 0 0) [] := ⟨none, 0, rfl, Nat.le_refl _, by omega, fun _ => rfl, .inl rfl⟩
/-- A number, and the error. -/
def MakeOut (w : World) (r : Rt.Nm × Int) (e : Ending) (w' : World) : Prop := ∃ t u, e = .returned (.tuple #[.agg #[.bool r.1.neg, t, u], .int .i64 r.2]) ∧ IsRes w' t r.1.top ∧ IsRes w' u r.1.bot ∧ Below w.heap.size w w'
theorem MakeOut.of {w w' : World} {r : Rt.Nm × Int} {e : Ending} {b : Bool} {t u : Value} {l l' : List Nat} {er : Int} (hr : r = (⟨b, l, l'⟩, er)) (he : e = .returned (.tuple #[.agg #[.bool b, t, u], .int .i64 er])) (h1 : IsRes w' t l) (h2 : IsRes w' u l') (h3 : Below w.heap.size w w') : MakeOut w r e w' := by
  subst hr; exact ⟨t, u, he, h1, h2, h3⟩

theorem make_any (n1 n2 : Bool) (v1 v2 : Value) (l1 l2 : List Nat) (w : World) (h1 : ResL w v1 l1) (h2 : ResL w v2 l2) :
    Calls Try.prog 55 #[.agg #[.bool n1, v1], .agg #[.bool n2, v2]] w (MakeOut w (Rt.mk n1 n2 (Nt.val l1) (Nt.val l2))) := by
  obtain ⟨W, hW⟩ : ∃ W, W = ((w.alloc (.cells #[.bool n1, v1] 79)).alloc (.cells #[.bool n2, v2] 79)).alloc (.cells #[.bool false, .slice none 0 0, .slice none 0 0] 58) := ⟨_, rfl⟩
  have hWs : W.heap.size = w.heap.size + 1 + 1 + 1 := by rw [hW]; simp
  have hWb : Below w.heap.size w W := by rw [hW]; exact (((Below.refl _ _).alloc (Nat.le_refl _) _).alloc (by simp) _).alloc (by simp; omega) _
  have hW0 : W.heap[w.heap.size]? = some (.cells #[.bool n1, v1] 79 (0, 0)) := by rw [hW]; exact (Below.heap_alloc _ _ _ (by simp; omega)).trans (heap_alloc2_old _ _ _)
  have hW1 : W.heap[w.heap.size + 1]? = some (.cells #[.bool n2, v2] 79 (0, 0)) := by rw [hW]; exact (Below.heap_alloc _ _ _ (by simp)).trans (heap_alloc2_new _ _ _)
  have hW2 : W.heap[w.heap.size + 1 + 1]? = some (.cells #[.bool false, .slice none 0 0, .slice none 0 0] 58 (0, 0)) := by
    rw [hW]
    have := heap_alloc_new ((w.alloc (.cells #[.bool n1, v1] 79)).alloc (.cells #[.bool n2, v2] 79)) (.cells #[.bool false, .slice none 0 0, .slice none 0 0] 58)
    rwa [show ((w.alloc (.cells #[.bool n1, v1] 79)).alloc (.cells #[.bool n2, v2] 79)).heap.size = w.heap.size + 1 + 1 by simp] at this
  have HN1 := Lib.hid (fun (wx : World) (hx : Below W.heap.size W wx) => norm3_any n1 v1 _ wx ((h1.below hWb).below hx))
  have HN2 := Lib.hid (fun (wx : World) (hx : Below W.heap.size W wx) => norm3_any n2 v2 _ wx ((h2.below hWb).below hx))
  have HW := Lib.hid hW
  have HW0 := Lib.hid hW0
  have HW1 := Lib.hid hW1
  have HW2 := Lib.hid hW2
  rw [← Rt.mk_nrm]
  obtain ⟨⟨A1, c1, rfl, -⟩, -⟩ := h1
  obtain ⟨⟨A2, c2, rfl, -⟩, -⟩ := h2
  generalize Rt.nrm n1 (Nt.val l1) = N1 at *
  generalize Rt.nrm n2 (Nt.val l2) = N2 at *
  generalize Nt.val l1 = X at *
  generalize Nt.val l2 = Y at *
  generalize l1.length = z1 at *
  generalize l2.length = z2 at *
  clear hW hW0 hW1 hW2
  go_enter Try.func55, Try.ntmps55
  go_wp2_with fail
  rw [← HW.out]
  have hWl : w.heap.size + 1 + 1 < W.heap.size := by omega
  have HWS := Lib.hid hWs
  clear hWs
  refine wp_region_any (by kernel_rfl) ?_
  refine wpAny_inv (MInv W w.heap.size #[.bool n1, .slice A1 z1 c1] #[.bool n2, .slice A2 z2 c2] N1 N2 (Nt.digs X) (Nt.digs Y)) ?_ ?_ 8 _ _ _ (by decide) ⟨false, false, false, false, false, false, false, false, undef, undef, undef, undef, undef, undef, rfl, rfl, ⟨⟨rfl, rfl, rfl, Nat.le_refl _, fun _ _ => rfl⟩, nofun, nofun, nofun, nofun, nofun, nofun, nofun, nofun, nofun⟩⟩
  · rintro _ _ wx ⟨b0, b1, b2, b3, b4, b5, b6, b7, x15, x16, x17, x18, x6, x7, rfl, rfl, hJ⟩ i hi
    obtain ⟨h8, hl, ha⟩ := ready_mem hi
    have h8' : i < 8 := h8
    clear h8 hi
    have hsz := hJ.below.size
    rcases (show i = 0 ∨ i = 1 ∨ i = 2 ∨ i = 3 ∨ i = 4 ∨ i = 5 ∨ i = 6 ∨ i = 7 by omega) with rfl | rfl | rfl | rfl | rfl | rfl | rfl | rfl
    · refine wpOp_at rfl rfl ?_
      refine wp_load_row 79 (.tmp 2) rfl w.heap.size rfl 79 #[.bool n1, .slice A1 z1 c1] (0, 0) _ ((hJ.below.block w.heap.size (by omega)).trans HW0.out) Try.underlying79 rfl int3_info ?_
      exact ⟨true, b1, b2, b3, b4, b5, b6, b7, _, x16, x17, x18, x6, x7, rfl, rfl, { hJ with v15 := fun _ => rfl }⟩
    · have h0 : b0 = true := by simpa [Region.binds] using ha
      subst h0
      have hb1 : b1 = false := hl
      subst hb1
      have hb6 : b6 = false := by
        cases b6
        · rfl
        · exact absurd (hJ.o6 rfl).2 (by decide)
      subst hb6
      obtain rfl := hJ.v15 rfl
      refine wpOp_at rfl rfl ?_
      unfold frameM Oper.wp
      go_simp
      refine ((HN1.out _ hJ.below).mono ?_)
      rintro e w2 ⟨v3, rfl, hr3, hb2⟩
      exact ⟨true, true, b2, b3, b4, b5, false, b7, _, _, x17, x18, x6, x7, rfl, rfl, { hJ with
        below := hJ.below.trans (hb2.mono hsz)
        v16 := fun _ => ⟨v3, rfl, hr3⟩
        v18 := fun h => by obtain ⟨v, e, r⟩ := hJ.v18 h; exact ⟨v, e, r.below hb2⟩
        v6 := fun h => by obtain ⟨g, n, A, k, c, q1, q2, q3, q4⟩ := hJ.v6 h; exact ⟨g, n, A, k, c, q1, q2, (hb2.block g (blk_lt q3)).trans q3, nofun⟩
        v7 := fun h => by obtain ⟨g, n, A, k, c, q1, q2, q3, q4⟩ := hJ.v7 h; exact ⟨g, n, A, k, c, q1, q2, (hb2.block g (blk_lt q3)).trans q3, q4⟩
        o6 := nofun }⟩
    · refine wpOp_at rfl rfl ?_
      refine wp_load_row 79 (.tmp 3) rfl (w.heap.size + 1) rfl 79 #[.bool n2, .slice A2 z2 c2] (0, 0) _ ((hJ.below.block (w.heap.size + 1) (by omega)).trans HW1.out) Try.underlying79 rfl int3_info ?_
      exact ⟨b0, b1, true, b3, b4, b5, b6, b7, x15, x16, _, x18, x6, x7, rfl, rfl, { hJ with v17 := fun _ => rfl }⟩
    · have h0 : b2 = true ∧ b1 = true := by simpa [Region.binds] using ha
      obtain ⟨rfl, rfl⟩ := h0
      have hb3 : b3 = false := hl
      subst hb3
      have hb7 : b7 = false := by
        cases b7
        · rfl
        · exact absurd (hJ.o7 rfl).2 (by decide)
      subst hb7
      obtain rfl := hJ.v17 rfl
      refine wpOp_at rfl rfl ?_
      unfold frameM Oper.wp
      go_simp
      refine ((HN2.out _ hJ.below).mono ?_)
      rintro e w2 ⟨v3, rfl, hr3, hb2⟩
      exact ⟨b0, true, true, true, b4, b5, b6, false, x15, x16, _, _, x6, x7, rfl, rfl, { hJ with
        below := hJ.below.trans (hb2.mono hsz)
        v18 := fun _ => ⟨v3, rfl, hr3⟩
        v16 := fun h => by obtain ⟨v, e, r⟩ := hJ.v16 h; exact ⟨v, e, r.below hb2⟩
        v6 := fun h => by obtain ⟨g, n, A, k, c, q1, q2, q3, q4⟩ := hJ.v6 h; exact ⟨g, n, A, k, c, q1, q2, (hb2.block g (blk_lt q3)).trans q3, q4⟩
        v7 := fun h => by obtain ⟨g, n, A, k, c, q1, q2, q3, q4⟩ := hJ.v7 h; exact ⟨g, n, A, k, c, q1, q2, (hb2.block g (blk_lt q3)).trans q3, nofun⟩
        o7 := nofun }⟩
    · have hb4 : b4 = false := hl
      subst hb4
      have hb6 : b6 = false := by
        cases b6
        · rfl
        · exact absurd (hJ.o6 rfl).1 (by decide)
      subst hb6
      refine wpOp_at rfl rfl ?_
      unfold frameM Oper.wp
      go_simp
      have hba : Below wx.heap.size wx (wx.alloc (.cells #[.bool false, .slice none 0 0] 79)) := (Below.refl _ _).alloc (Nat.le_refl _) _
      exact ⟨b0, b1, b2, b3, true, b5, false, b7, x15, x16, x17, x18, _, x7, rfl, rfl, { hJ with
        below := hJ.below.alloc hsz _
        v16 := fun h => by obtain ⟨v, e, r⟩ := hJ.v16 h; exact ⟨v, e, r.below hba⟩
        v18 := fun h => by obtain ⟨v, e, r⟩ := hJ.v18 h; exact ⟨v, e, r.below hba⟩
        v6 := fun _ => ⟨wx.heap.size, false, none, 0, 0, rfl, hsz, heap_alloc_new _ _, nofun⟩
        v7 := fun h => by obtain ⟨g, n, A, k, c, q1, q2, q3, q4⟩ := hJ.v7 h; exact ⟨g, n, A, k, c, q1, q2, (hba.block g (blk_lt q3)).trans q3, q4⟩
        o6 := nofun
        ne := fun _ h => by
          obtain ⟨g, n, A, k, c, q1, q2, q3, q4⟩ := hJ.v7 h
          have := blk_lt q3
          rw [q1]; intro e; injection e with e; injection e with e; injection e with e; omega }⟩
    · have hb5 : b5 = false := hl
      subst hb5
      have hb7 : b7 = false := by
        cases b7
        · rfl
        · exact absurd (hJ.o7 rfl).1 (by decide)
      subst hb7
      refine wpOp_at rfl rfl ?_
      unfold frameM Oper.wp
      go_simp
      have hba : Below wx.heap.size wx (wx.alloc (.cells #[.bool false, .slice none 0 0] 79)) := (Below.refl _ _).alloc (Nat.le_refl _) _
      exact ⟨b0, b1, b2, b3, b4, true, b6, false, x15, x16, x17, x18, x6, _, rfl, rfl, { hJ with
        below := hJ.below.alloc hsz _
        v16 := fun h => by obtain ⟨v, e, r⟩ := hJ.v16 h; exact ⟨v, e, r.below hba⟩
        v18 := fun h => by obtain ⟨v, e, r⟩ := hJ.v18 h; exact ⟨v, e, r.below hba⟩
        v7 := fun _ => ⟨wx.heap.size, false, none, 0, 0, rfl, hsz, heap_alloc_new _ _, nofun⟩
        v6 := fun h => by obtain ⟨g, n, A, k, c, q1, q2, q3, q4⟩ := hJ.v6 h; exact ⟨g, n, A, k, c, q1, q2, (hba.block g (blk_lt q3)).trans q3, q4⟩
        o7 := nofun
        ne := fun h _ => by
          obtain ⟨g, n, A, k, c, q1, q2, q3, q4⟩ := hJ.v6 h
          have := blk_lt q3
          rw [q1]; intro e; injection e with e; injection e with e; injection e with e; omega }⟩
    · have h0 : b4 = true ∧ b1 = true ∧ b3 = true ∧ b0 = true ∧ b1 = true ∧ b4 = true ∧ b5 = true := by simpa [Region.binds] using ha
      obtain ⟨rfl, rfl, rfl, rfl, -, -, rfl⟩ := h0
      have hb6 : b6 = false := hl
      subst hb6
      obtain ⟨g, n, A, k, c, rfl, q2, q3, q4⟩ := hJ.v6 rfl
      obtain ⟨g', n', A', k', c', rfl, q2', q3', q4'⟩ := hJ.v7 rfl
      have hne : g ≠ g' := fun e => hJ.ne rfl rfl (by rw [e])
      obtain ⟨v, rfl, hr⟩ := hJ.v16 rfl
      obtain ⟨v', rfl, hr'⟩ := hJ.v18 rfl
      have hrs := hr.setRow q3 (two_no_int _ _ _ _) #[.bool N1, v]
      have hrs' := hr'.setRow q3 (two_no_int _ _ _ _) #[.bool N1, v]
      obtain ⟨⟨A3, c3, rfl, -⟩, -⟩ := hr
      refine wpOp_at rfl rfl ?_
      refine wp_store_row 79 (.tmp 6) (.tmp 16) rfl g #[.bool N1, .slice A3 (Nt.digs X).length c3] rfl rfl 79 _ q3 int3_info rfl (two_one _ _ _ _) ?_
      exact ⟨true, true, b2, true, true, true, true, b7, x15, _, x17, _, _, _, rfl, rfl, { hJ with
        below := rBelow.setRow hJ.below q2 _
        v16 := fun _ => ⟨_, rfl, hrs⟩
        v18 := fun _ => ⟨v', rfl, hrs'⟩
        v6 := fun _ => ⟨g, _, _, _, _, rfl, q2, rheap_same q3, fun _ => rfl⟩
        v7 := fun _ => ⟨g', n', A', k', c', rfl, q2', (rheap_far hne).trans q3', q4'⟩
        o6 := fun _ => ⟨rfl, rfl⟩ }⟩
    · have h0 : b5 = true ∧ b3 = true ∧ b6 = true ∧ b0 = true ∧ b1 = true ∧ b2 = true ∧ b3 = true ∧ b4 = true ∧ b5 = true ∧ b6 = true := by simpa [Region.binds] using ha
      obtain ⟨rfl, rfl, rfl, rfl, rfl, rfl, -, rfl, -, -⟩ := h0
      have hb7 : b7 = false := hl
      subst hb7
      obtain ⟨g, n, A, k, c, rfl, q2, q3, q4⟩ := hJ.v6 rfl
      obtain ⟨g', n', A', k', c', rfl, q2', q3', q4'⟩ := hJ.v7 rfl
      have hne : g' ≠ g := fun e => hJ.ne rfl rfl (by rw [e])
      obtain ⟨v, rfl, hr⟩ := hJ.v16 rfl
      obtain ⟨v', rfl, hr'⟩ := hJ.v18 rfl
      have hrs := hr.setRow q3' (two_no_int _ _ _ _) #[.bool N2, v']
      have hrs' := hr'.setRow q3' (two_no_int _ _ _ _) #[.bool N2, v']
      obtain ⟨⟨A3, c3, rfl, -⟩, -⟩ := hr'
      refine wpOp_at rfl rfl ?_
      refine wp_store_row 79 (.tmp 7) (.tmp 18) rfl g' #[.bool N2, .slice A3 (Nt.digs Y).length c3] rfl rfl 79 _ q3' int3_info rfl (two_one _ _ _ _) ?_
      exact ⟨true, true, true, true, true, true, true, true, x15, _, x17, _, _, _, rfl, rfl, { hJ with
        below := rBelow.setRow hJ.below q2' _
        v16 := fun _ => ⟨v, rfl, hrs⟩
        v18 := fun _ => ⟨_, rfl, hrs'⟩
        v7 := fun _ => ⟨g', _, _, _, _, rfl, q2', rheap_same q3', fun _ => rfl⟩
        v6 := fun _ => ⟨g, n, A, k, c, rfl, q2, (rheap_far hne).trans q3, q4⟩
        o7 := fun _ => ⟨rfl, rfl⟩ }⟩
  · rintro _ _ wx ⟨b0, b1, b2, b3, b4, b5, b6, b7, x15, x16, x17, x18, x6, x7, rfl, rfl, hJ⟩ hr
    have e0 : b0 = true := ready_nil' hr 0 (by decide) (by simp [Region.binds])
    subst e0
    have e1 : b1 = true := ready_nil' hr 1 (by decide) (by simp [Region.binds])
    subst e1
    have e2 : b2 = true := ready_nil' hr 2 (by decide) (by simp [Region.binds])
    subst e2
    have e3 : b3 = true := ready_nil' hr 3 (by decide) (by simp [Region.binds])
    subst e3
    have e4 : b4 = true := ready_nil' hr 4 (by decide) (by simp [Region.binds])
    subst e4
    have e5 : b5 = true := ready_nil' hr 5 (by decide) (by simp [Region.binds])
    subst e5
    have e6 : b6 = true := ready_nil' hr 6 (by decide) (by simp [Region.binds])
    subst e6
    have e7 : b7 = true := ready_nil' hr 7 (by decide) (by simp [Region.binds])
    subst e7
    clear hr
    obtain ⟨g, n, A, k, c, rfl, q2, q3, q4⟩ := hJ.v6 rfl
    obtain ⟨g', n', A', k', c', rfl, q2', q3', q4'⟩ := hJ.v7 rfl
    have hne : g ≠ g' := fun e => hJ.ne rfl rfl (by rw [e])
    obtain ⟨v, rfl, hr1⟩ := hJ.v16 rfl
    obtain ⟨v', rfl, hr2⟩ := hJ.v18 rfl
    have e := q4 rfl
    simp at e
    obtain ⟨e, rfl⟩ := e
    subst e
    have e := q4' rfl
    simp at e
    obtain ⟨e, rfl⟩ := e
    subst e
    have hxb := hJ.below
    have hxs := hxb.size
    have p0 : wx.cell? ⟨g, 0, none⟩ = some (.bool N1) := (cell_of_row wx g 0 _ _ _ q3).trans rfl
    have p1 : wx.cell? ⟨g, 1, none⟩ = some (.slice A k c) := (cell_of_row wx g 1 _ _ _ q3).trans rfl
    have p0' : wx.cell? ⟨g', 0, none⟩ = some (.bool N2) := (cell_of_row wx g' 0 _ _ _ q3').trans rfl
    have p1' : wx.cell? ⟨g', 1, none⟩ = some (.slice A' k' c') := (cell_of_row wx g' 1 _ _ _ q3').trans rfl
    have hgl := blk_lt q3
    have hgl' := blk_lt q3'
    have HR1 := Lib.hid hr1
    have HR2 := Lib.hid hr2
    clear hJ hr1 hr2 q3 q3' q4 q4' HN1 HN2
    obtain ⟨hd1, o1, s1⟩ := HR1.out
    obtain ⟨hd2, o2, s2⟩ := HR2.out
    have f1 : k = (Nt.digs X).length := by obtain ⟨_, _, e, _⟩ := hd1; injection e
    have f2 : k' = (Nt.digs Y).length := by obtain ⟨_, _, e, _⟩ := hd2; injection e
    have s1' : k ≤ 64 := by omega
    have s2' : k' ≤ 64 := by omega
    have HD1 := Lib.hid hd1
    have HD2 := Lib.hid hd2
    have HY0 : Hid (k' = 0 ↔ Y = 0) := Lib.hid (by rw [f2, List.length_eq_zero_iff, Nt.digs_nil_iff])
    have HF := Lib.hid (And.intro f1 f2)
    clear f1 f2 hd1 hd2
    unfold frameM
    have HI3 : Hid (∀ (b : Bool) (A : Option Addr) (k c : Nat) (A' : Option Addr) (k' c' : Nat), (Try.prog.info? 58).map (·.size) = some (#[.bool b, .slice A k c, .slice A' k' c'] : Array Value).size) := Lib.hid (fun _ _ _ _ _ _ _ => num_info)
    have hxw : Below w.heap.size w wx := hWb.trans (hxb.mono (by omega))
    have HGA := Lib.hid ((hxb.block (w.heap.size + 1 + 1) (by omega)).trans HW2.out)
    by_cases hk0 : k' = 0
    · have hz : ((k' : Int) == 0) = true := by rw [hk0]; rfl
      have HK0 := Lib.hid (HY0.out.1 hk0)
      clear hk0
      go_wp2_with (first
        | (with_reducible refine wpList_store_row rfl 58 (.tmp 4) (.tmp 23) rfl (w.heap.size + 1 + 1) #[.bool false, .slice none 0 0, .slice none 0 0] rfl rfl 58 #[.bool false, .slice none 0 0, .slice none 0 0] HGA.out (HI3.out _ _ _ _ _ _ _) rfl (three_one _ _ _ _ _ _ _) ?_))
      refine bodyPost_ret (results_cell_row_tmp (by rfl) _ _ (w.heap.size + 1 + 1) 58 #[.bool false, .slice none 0 0, .slice none 0 0] (0, 0) _ _ (by rfl) (by rfl) (rheap_same HGA.out) Try.underlying58 rfl (HI3.out _ _ _ _ _ _ _)) rfl (MakeOut.of (by unfold Rt.mk; rw [if_pos HK0.out]; rfl) rfl (isRes_nil _) (isRes_nil _) (rBelow.setRow hxw (by omega) _))
    · have hz : ((k' : Int) == 0) = false := beq_eq_false_iff_ne.2 (by omega)
      have HY1 : Hid (Y ≠ 0) := Lib.hid (fun h => hk0 (HY0.out.2 h))
      have hgl64 := Nt.gcd_len o1 o2 s1 s2
      have GC := Lib.hid (refGcd64_any (.slice A k c) (.slice A' k' c') (Nt.digs X) (Nt.digs Y) wx HD1.out HD2.out o1 o2 s1 s2)
      have HOG := Lib.hid (Nt.ok_digs (Nat.gcd (Nt.val (Nt.digs X)) (Nt.val (Nt.digs Y))))
      have HGV : Hid (Nt.val (Nt.digs (Nat.gcd (Nt.val (Nt.digs X)) (Nt.val (Nt.digs Y)))) = Nat.gcd X Y) := Lib.hid (by rw [Nt.val_digs, Nt.val_digs, Nt.val_digs])
      generalize Nt.digs (Nat.gcd (Nt.val (Nt.digs X)) (Nt.val (Nt.digs Y))) = gd at *
      clear hk0
      go_wp2_with fail
      refine GC.out.mono ?_
      rintro e w3 ⟨v3, rfl, hr3, hb3⟩
      have r0 : w3.cell? ⟨g, 0, none⟩ = some (.bool N1) := (hb3.cell (p := ⟨g, 0, none⟩) hgl).trans p0
      have r1 : w3.cell? ⟨g, 1, none⟩ = some (.slice A k c) := (hb3.cell (p := ⟨g, 1, none⟩) hgl).trans p1
      have r0' : w3.cell? ⟨g', 0, none⟩ = some (.bool N2) := (hb3.cell (p := ⟨g', 0, none⟩) hgl').trans p0'
      have r1' : w3.cell? ⟨g', 1, none⟩ = some (.slice A' k' c') := (hb3.cell (p := ⟨g', 1, none⟩) hgl').trans p1'
      have DM := Lib.hid (rDivMod_res (w0 := w3) (HD1.out.below hb3) hr3 o1 HOG.out (by omega) (by omega) (Below.refl _ _))
      clear p0 p1 p0' p1' GC
      go_wp2_with fail
      refine DM.out.mono ?_
      rintro e w4 ⟨u1, u2, rfl, t1, t2, hb4, -⟩
      have hs3 := hb3.size
      have r0 : w4.cell? ⟨g, 0, none⟩ = some (.bool N1) := (hb4.cell (p := ⟨g, 0, none⟩) (show g < _ by omega)).trans r0
      have r0' : w4.cell? ⟨g', 0, none⟩ = some (.bool N2) := (hb4.cell (p := ⟨g', 0, none⟩) (show g' < _ by omega)).trans r0'
      have r1' : w4.cell? ⟨g', 1, none⟩ = some (.slice A' k' c') := (hb4.cell (p := ⟨g', 1, none⟩) (show g' < _ by omega)).trans r1'
      have DN := Lib.hid (rDivMod_res (w0 := w4) ((HD2.out.below hb3).below hb4) (hr3.below hb4) o2 HOG.out (by omega) (by omega) (Below.refl _ _))
      clear DM
      go_wp2_with fail
      refine DN.out.mono ?_
      rintro e w5 ⟨u3, u4, rfl, t3, t4, hb5, -⟩
      have hs4 := hb4.size
      have hs5 := hb5.size
      have r0 : w5.cell? ⟨g, 0, none⟩ = some (.bool N1) := (hb5.cell (p := ⟨g, 0, none⟩) (show g < _ by omega)).trans r0
      have r0' : w5.cell? ⟨g', 0, none⟩ = some (.bool N2) := (hb5.cell (p := ⟨g', 0, none⟩) (show g' < _ by omega)).trans r0'
      have HGB := Lib.hid ((hb5.block (w.heap.size + 1 + 1) (by omega)).trans ((hb4.block (w.heap.size + 1 + 1) (by omega)).trans ((hb3.block (w.heap.size + 1 + 1) (by omega)).trans HGA.out)))
      have hbw : Below w.heap.size w w5 := ((hxw.trans (hb3.mono (by omega))).trans (hb4.mono (by omega))).trans (hb5.mono (by omega))
      have HT1 := Lib.hid (t1.below hb5)
      have HT3 := Lib.hid t3
      clear t1 t2 t3 t4 hr3 DN
      obtain ⟨e1, he1⟩ : ∃ e1, e1 = Nt.digs (Nt.quo (Nt.val (Nt.digs X)) (Nt.val gd)) := ⟨_, rfl⟩
      obtain ⟨e2, he2⟩ : ∃ e2, e2 = Nt.digs (Nt.quo (Nt.val (Nt.digs Y)) (Nt.val gd)) := ⟨_, rfl⟩
      rw [← he1] at HT1
      rw [← he2] at HT3
      rw [HGV.out, Nt.val_digs] at he1 he2
      have HE1 : Hid (e1 = Nt.digs (X / Nat.gcd X Y)) := Lib.hid he1
      have HE2 : Hid (e2 = Nt.digs (Y / Nat.gcd X Y)) := Lib.hid he2
      have HX0 : Hid (e1.length = 0 ↔ X = 0) := Lib.hid (by rw [he1, List.length_eq_zero_iff, Nt.digs_nil_iff]; exact Rt.div_gcd_zero HY1.out)
      clear he1 he2
      obtain ⟨B1, a1, rfl, y1, y2, -⟩ := HT1.out
      obtain ⟨B2, a2, rfl, y3, y4, -⟩ := HT3.out
      by_cases h32 : 32 < e1.length
      · have g1 : decide ((32 : Int) < (e1.length : Int)) = true := by simp; omega
        go_wp2_with (first
          | (with_reducible refine wpList_store_row rfl 58 (.tmp 4) (.tmp 53) rfl (w.heap.size + 1 + 1) #[.bool false, .slice none 0 0, .slice none 0 0] rfl rfl 58 #[.bool false, .slice none 0 0, .slice none 0 0] HGB.out (HI3.out _ _ _ _ _ _ _) rfl (three_one _ _ _ _ _ _ _) ?_))
        refine bodyPost_ret (results_cell_row_tmp (by rfl) _ _ (w.heap.size + 1 + 1) 58 #[.bool false, .slice none 0 0, .slice none 0 0] (0, 0) _ _ (by rfl) (by rfl) (rheap_same HGB.out) Try.underlying58 rfl (HI3.out _ _ _ _ _ _ _)) rfl (MakeOut.of (by unfold Rt.mk; rw [if_neg HY1.out, ← HE1.out, ← HE2.out, if_pos (by omega)]; rfl) rfl (isRes_nil _) (isRes_nil _) (rBelow.setRow hbw (by omega) _))
      · by_cases h33 : 32 < e2.length
        · have g1 : decide ((32 : Int) < (e1.length : Int)) = false := by simp; omega
          have g2 : decide ((32 : Int) < (e2.length : Int)) = true := by simp; omega
          go_wp2_with (first
            | (with_reducible refine wpList_store_row rfl 58 (.tmp 4) (.tmp 53) rfl (w.heap.size + 1 + 1) #[.bool false, .slice none 0 0, .slice none 0 0] rfl rfl 58 #[.bool false, .slice none 0 0, .slice none 0 0] HGB.out (HI3.out _ _ _ _ _ _ _) rfl (three_one _ _ _ _ _ _ _) ?_))
          refine bodyPost_ret (results_cell_row_tmp (by rfl) _ _ (w.heap.size + 1 + 1) 58 #[.bool false, .slice none 0 0, .slice none 0 0] (0, 0) _ _ (by rfl) (by rfl) (rheap_same HGB.out) Try.underlying58 rfl (HI3.out _ _ _ _ _ _ _)) rfl (MakeOut.of (by unfold Rt.mk; rw [if_neg HY1.out, ← HE1.out, ← HE2.out, if_pos (by omega)]; rfl) rfl (isRes_nil _) (isRes_nil _) (rBelow.setRow hbw (by omega) _))
        · have g1 : decide ((32 : Int) < (e1.length : Int)) = false := by simp; omega
          have g2 : decide ((32 : Int) < (e2.length : Int)) = false := by simp; omega
          by_cases h34 : 0 < e1.length
          · have g3 : decide ((0 : Int) < (e1.length : Int)) = true := decide_eq_true (by omega)
            have HXB : Hid ((X == 0) = false) := Lib.hid (by have := HX0.out; simp; omega)
            cases N1
            · cases N2
              · skip
                go_wp2_with (first
                  | (with_reducible refine wpList_store_row rfl 58 (.tmp 4) (.tmp 66) rfl (w.heap.size + 1 + 1) #[.bool false, .slice B1 e1.length a1, .slice B2 e2.length a2] rfl rfl 58 #[.bool false, .slice none 0 0, .slice none 0 0] HGB.out (HI3.out _ _ _ _ _ _ _) rfl (three_one _ _ _ _ _ _ _) ?_))
                refine bodyPost_ret (results_cell_row_tmp (by rfl) _ _ (w.heap.size + 1 + 1) 58 #[.bool false, .slice B1 e1.length a1, .slice B2 e2.length a2] (0, 0) _ _ (by rfl) (by rfl) (rheap_same HGB.out) Try.underlying58 rfl (HI3.out _ _ _ _ _ _ _)) rfl (MakeOut.of (by unfold Rt.mk; rw [if_neg HY1.out, ← HE1.out, ← HE2.out, if_neg (by omega), HXB.out]; rfl) rfl (HT1.out.setRow HGB.out (three_no_int _ _ _ _ _ _ _) _) (HT3.out.setRow HGB.out (three_no_int _ _ _ _ _ _ _) _) (rBelow.setRow hbw (by omega) _))
              · skip
                go_wp2_with (first
                  | (with_reducible refine wpList_store_row rfl 58 (.tmp 4) (.tmp 66) rfl (w.heap.size + 1 + 1) #[.bool true, .slice B1 e1.length a1, .slice B2 e2.length a2] rfl rfl 58 #[.bool false, .slice none 0 0, .slice none 0 0] HGB.out (HI3.out _ _ _ _ _ _ _) rfl (three_one _ _ _ _ _ _ _) ?_))
                refine bodyPost_ret (results_cell_row_tmp (by rfl) _ _ (w.heap.size + 1 + 1) 58 #[.bool true, .slice B1 e1.length a1, .slice B2 e2.length a2] (0, 0) _ _ (by rfl) (by rfl) (rheap_same HGB.out) Try.underlying58 rfl (HI3.out _ _ _ _ _ _ _)) rfl (MakeOut.of (by unfold Rt.mk; rw [if_neg HY1.out, ← HE1.out, ← HE2.out, if_neg (by omega), HXB.out]; rfl) rfl (HT1.out.setRow HGB.out (three_no_int _ _ _ _ _ _ _) _) (HT3.out.setRow HGB.out (three_no_int _ _ _ _ _ _ _) _) (rBelow.setRow hbw (by omega) _))
            · cases N2
              · skip
                go_wp2_with (first
                  | (with_reducible refine wpList_store_row rfl 58 (.tmp 4) (.tmp 66) rfl (w.heap.size + 1 + 1) #[.bool true, .slice B1 e1.length a1, .slice B2 e2.length a2] rfl rfl 58 #[.bool false, .slice none 0 0, .slice none 0 0] HGB.out (HI3.out _ _ _ _ _ _ _) rfl (three_one _ _ _ _ _ _ _) ?_))
                refine bodyPost_ret (results_cell_row_tmp (by rfl) _ _ (w.heap.size + 1 + 1) 58 #[.bool true, .slice B1 e1.length a1, .slice B2 e2.length a2] (0, 0) _ _ (by rfl) (by rfl) (rheap_same HGB.out) Try.underlying58 rfl (HI3.out _ _ _ _ _ _ _)) rfl (MakeOut.of (by unfold Rt.mk; rw [if_neg HY1.out, ← HE1.out, ← HE2.out, if_neg (by omega), HXB.out]; rfl) rfl (HT1.out.setRow HGB.out (three_no_int _ _ _ _ _ _ _) _) (HT3.out.setRow HGB.out (three_no_int _ _ _ _ _ _ _) _) (rBelow.setRow hbw (by omega) _))
              · skip
                go_wp2_with (first
                  | (with_reducible refine wpList_store_row rfl 58 (.tmp 4) (.tmp 66) rfl (w.heap.size + 1 + 1) #[.bool false, .slice B1 e1.length a1, .slice B2 e2.length a2] rfl rfl 58 #[.bool false, .slice none 0 0, .slice none 0 0] HGB.out (HI3.out _ _ _ _ _ _ _) rfl (three_one _ _ _ _ _ _ _) ?_))
                refine bodyPost_ret (results_cell_row_tmp (by rfl) _ _ (w.heap.size + 1 + 1) 58 #[.bool false, .slice B1 e1.length a1, .slice B2 e2.length a2] (0, 0) _ _ (by rfl) (by rfl) (rheap_same HGB.out) Try.underlying58 rfl (HI3.out _ _ _ _ _ _ _)) rfl (MakeOut.of (by unfold Rt.mk; rw [if_neg HY1.out, ← HE1.out, ← HE2.out, if_neg (by omega), HXB.out]; rfl) rfl (HT1.out.setRow HGB.out (three_no_int _ _ _ _ _ _ _) _) (HT3.out.setRow HGB.out (three_no_int _ _ _ _ _ _ _) _) (rBelow.setRow hbw (by omega) _))
          · have g3 : decide ((0 : Int) < (e1.length : Int)) = false := decide_eq_false (by omega)
            have HXB : Hid ((X == 0) = true) := Lib.hid (by have := HX0.out; simp; omega)
            go_wp2_with (first
              | (with_reducible refine wpList_store_row rfl 58 (.tmp 4) (.tmp 66) rfl (w.heap.size + 1 + 1) #[.bool false, .slice B1 e1.length a1, .slice B2 e2.length a2] rfl rfl 58 #[.bool false, .slice none 0 0, .slice none 0 0] HGB.out (HI3.out _ _ _ _ _ _ _) rfl (three_one _ _ _ _ _ _ _) ?_))
            refine bodyPost_ret (results_cell_row_tmp (by rfl) _ _ (w.heap.size + 1 + 1) 58 #[.bool false, .slice B1 e1.length a1, .slice B2 e2.length a2] (0, 0) _ _ (by rfl) (by rfl) (rheap_same HGB.out) Try.underlying58 rfl (HI3.out _ _ _ _ _ _ _)) rfl (MakeOut.of (by unfold Rt.mk; rw [if_neg HY1.out, ← HE1.out, ← HE2.out, if_neg (by omega), HXB.out]; rfl) rfl (HT1.out.setRow HGB.out (three_no_int _ _ _ _ _ _ _) _) (HT3.out.setRow HGB.out (three_no_int _ _ _ _ _ _ _) _) (rBelow.setRow hbw (by omega) _))
end Go.Proofs.Ytfiobbhicicchaa
