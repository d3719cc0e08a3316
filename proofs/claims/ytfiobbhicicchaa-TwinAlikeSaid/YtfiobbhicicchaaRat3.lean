/-
  Numbers by the reference: scrimref04.Right. (Printed by wip/bin/gen_rat3.py.)
-/
import Derived.Test.YtfiobbhicicchaaRat2
import Derived.Test.YtfiobbhicicchaaSame2
import Derived.Test.YtfiobbhicicchaaArrFew
namespace Go.Proofs.Ytfiobbhicicchaa
open Go.RowKit Ar
set_option maxHeartbeats 4000000
set_option maxRecDepth 100000
set_option linter.unusedVariables false

def IntOK (n : Bool) (l : List Nat) (w : World) (x : Value) : Prop := ∃ v, x = .agg #[.bool n, v] ∧ ResL w v l
def TupOK (r : Rt.Nm × Int) (w : World) (x : Value) : Prop := ∃ t u, x = .tuple #[.agg #[.bool r.1.neg, t, u], .int .i64 r.2] ∧ IsRes w t r.1.top ∧ IsRes w u r.1.bot
def AggOK (r : Rt.Nm × Int) (w : World) (x : Value) : Prop := ∃ t u, x = .agg #[.bool r.1.neg, t, u] ∧ IsRes w t r.1.top ∧ IsRes w u r.1.bot
def ErOK (er : Int) (x : Value) : Prop := x = .int .i64 er
/-- A block of a number's three cells; with limbs behind them, if it is said. -/
def CellOK (r : Rt.Nm × Int) (lo : Nat) (said : Bool) (w : World) (x : Value) : Prop := ∃ g b A k c A' k' c', x = .pointer (some ⟨g, 0, none⟩) ∧ lo ≤ g ∧ w.heap[g]? = some (.cells #[.bool b, .slice A k c, .slice A' k' c'] 58 (0, 0)) ∧ (said = true → b = r.1.neg ∧ IsRes w (.slice A k c) r.1.top ∧ IsRes w (.slice A' k' c') r.1.bot)
theorem IntOK.below {n : Bool} {l : List Nat} {w w' : World} {x : Value} (h : IntOK n l w x) (hb : Below w.heap.size w w') : IntOK n l w' x := by
  obtain ⟨v, e, r⟩ := h; exact ⟨v, e, r.below hb⟩
theorem TupOK.below {r0 : Rt.Nm × Int} {w w' : World} {x : Value} (h : TupOK r0 w x) (hb : Below w.heap.size w w') : TupOK r0 w' x := by
  obtain ⟨t, u, e, r, r'⟩ := h; exact ⟨t, u, e, r.below hb, r'.below hb⟩
theorem AggOK.below {r0 : Rt.Nm × Int} {w w' : World} {x : Value} (h : AggOK r0 w x) (hb : Below w.heap.size w w') : AggOK r0 w' x := by
  obtain ⟨t, u, e, r, r'⟩ := h; exact ⟨t, u, e, r.below hb, r'.below hb⟩
theorem CellOK.below {r0 : Rt.Nm × Int} {lo : Nat} {said : Bool} {w w' : World} {x : Value} (h : CellOK r0 lo said w x) (hb : Below w.heap.size w w') : CellOK r0 lo said w' x := by
  obtain ⟨g, b, A, k, c, A', k', c', e, h1, h2, h3⟩ := h
  exact ⟨g, b, A, k, c, A', k', c', e, h1, (hb.block g (blk_lt h2)).trans h2, fun hs => by obtain ⟨e, r, r'⟩ := h3 hs; exact ⟨e, r.below hb, r'.below hb⟩⟩
theorem IntOK.setRow {n : Bool} {l : List Nat} {w : World} {x : Value} {g : Nat} {old : Array Value} {t : TypeId} (h : IntOK n l w x) (hg : w.heap[g]? = some (.cells old t (0, 0))) (ho : ∀ (i : Nat) (k : IntKind) (n : Int), old[i]? ≠ some (Value.int k n)) (cs : Array Value) : IntOK n l (w.setRow g cs) x := by
  obtain ⟨v, e, r⟩ := h; exact ⟨v, e, r.setRow hg ho cs⟩
theorem TupOK.setRow {r0 : Rt.Nm × Int} {w : World} {x : Value} {g : Nat} {old : Array Value} {t : TypeId} (h : TupOK r0 w x) (hg : w.heap[g]? = some (.cells old t (0, 0))) (ho : ∀ (i : Nat) (k : IntKind) (n : Int), old[i]? ≠ some (Value.int k n)) (cs : Array Value) : TupOK r0 (w.setRow g cs) x := by
  obtain ⟨t, u, e, r, r'⟩ := h; exact ⟨t, u, e, r.setRow hg ho cs, r'.setRow hg ho cs⟩
theorem AggOK.setRow {r0 : Rt.Nm × Int} {w : World} {x : Value} {g : Nat} {old : Array Value} {t : TypeId} (h : AggOK r0 w x) (hg : w.heap[g]? = some (.cells old t (0, 0))) (ho : ∀ (i : Nat) (k : IntKind) (n : Int), old[i]? ≠ some (Value.int k n)) (cs : Array Value) : AggOK r0 (w.setRow g cs) x := by
  obtain ⟨t, u, e, r, r'⟩ := h; exact ⟨t, u, e, r.setRow hg ho cs, r'.setRow hg ho cs⟩
/-- What holds while the operations of 'm, e := Make(Top(a), Bot(a))' come up. -/
structure GI (w : World) (N : Array Value) (N1 N2 : Bool) (D1 D2 : List Nat) (R : Rt.Nm × Int) (b0 b1 b2 b3 b4 b5 b6 b7 b8 b9 b10 : Bool) (x16 x17 x18 x19 x20 x15 x21 x22 x3 x4 : Value) (wx : World) : Prop where
  below : Below w.heap.size w wx
  v16 : b0 = true → x16 = .agg N
  v17 : b1 = true → IntOK N1 D1 wx x17
  v18 : b2 = true → x18 = .agg N
  v19 : b3 = true → IntOK N2 D2 wx x19
  v20 : b4 = true → TupOK R wx x20
  v15 : b5 = true → TupOK R wx x15
  v21 : b6 = true → AggOK R wx x21
  v22 : b7 = true → ErOK R.2 x22
  v3 : b8 = true → CellOK R w.heap.size b9 wx x3
  v4 : b10 = true → ErOK R.2 x4
  o9 : b9 = true → b8 = true
def frameG (g : Nat) (N : Array Value) (A : Option Addr) (k c : Nat) (A' : Option Addr) (k' c' : Nat) (x16 x17 x18 x19 x20 x15 x21 x22 x3 x4 : Value) : Act := { tmps := #[.agg N, .pointer (some ⟨g, 0, none⟩), .bool false, x3, x4, .pointer (some ⟨g, 1, none⟩), .slice A k c, .int .i64 (k : Int), .bool false, .bool false, .pointer (some ⟨g, 2, none⟩), .slice A' k' c', .int .i64 (k' : Int), .bool false, .bool false, x15, x16, x17, x18, x19, x20, x21, x22, undef, undef, undef, undef, undef, undef, undef], defers := [] }
def GInv (w : World) (g : Nat) (N : Array Value) (A : Option Addr) (k c : Nat) (A' : Option Addr) (k' c' : Nat) (N1 N2 : Bool) (D1 D2 : List Nat) (R : Rt.Nm × Int) (l : Array Bool) (a : Act) (wx : World) : Prop :=
  ∃ b0 b1 b2 b3 b4 b5 b6 b7 b8 b9 b10 x16 x17 x18 x19 x20 x15 x21 x22 x3 x4, l = #[b0, b1, b2, b3, b4, b5, b6, b7, b8, b9, b10] ∧ a = frameG g N A k c A' k' c' x16 x17 x18 x19 x20 x15 x21 x22 x3 x4 ∧ GI w N N1 N2 D1 D2 R b0 b1 b2 b3 b4 b5 b6 b7 b8 b9 b10 x16 x17 x18 x19 x20 x15 x21 x22 x3 x4 wx

theorem right_same (n : Bool) (t u : List Nat) (h1 : t.length ≤ 32) (h2 : u.length ≤ 32) : Rt.right ⟨n, t, u⟩ = (((Rt.mk n false (Nt.val t) (Nt.val u)).2 == 0) && sameNum n (Rt.mk n false (Nt.val t) (Nt.val u)).1.neg t (Rt.mk n false (Nt.val t) (Nt.val u)).1.top u (Rt.mk n false (Nt.val t) (Nt.val u)).1.bot) := by
  unfold Rt.right
  dsimp only
  rw [decide_eq_true h1, decide_eq_true h2, Bool.true_and, Bool.true_and]
  congr 1
  obtain ⟨⟨b, l, l'⟩, er⟩ := Rt.mk n false (Nt.val t) (Nt.val u)
  rw [Bool.eq_iff_iff]
  simp only [decide_eq_true_eq, sameNum, Bool.and_eq_true, beq_iff_eq, Rt.Nm.mk.injEq]
  constructor
  · rintro ⟨rfl, rfl, rfl⟩; exact ⟨⟨rfl, rfl⟩, rfl⟩
  · rintro ⟨⟨rfl, rfl⟩, rfl⟩; exact ⟨rfl, rfl, rfl⟩

theorem rright_any (n : Bool) (A : Option Addr) (t : List Nat) (c : Nat) (A' : Option Addr) (u : List Nat) (c' : Nat) (w : World) (h1 : IsRes w (.slice A t.length c) t) (h2 : IsRes w (.slice A' u.length c') u) (o1 : Nt.Ok t) (o2 : Nt.Ok u) :
    Calls Try.prog 48 #[.agg #[.bool n, .slice A t.length c, .slice A' u.length c']] w fun e w' => e = .returned (.bool (Rt.right ⟨n, t, u⟩)) ∧ Below w.heap.size w w' := by
  obtain ⟨W, hW⟩ : ∃ W, W = w.alloc (.cells #[.bool n, .slice A t.length c, .slice A' u.length c'] 58) := ⟨_, rfl⟩
  have hWs : W.heap.size = w.heap.size + 1 := by rw [hW]; simp
  have hWb : Below w.heap.size w W := by rw [hW]; exact (Below.refl _ _).alloc (Nat.le_refl _) _
  have hW0 : W.heap[w.heap.size]? = some (.cells #[.bool n, .slice A t.length c, .slice A' u.length c'] 58 (0, 0)) := by rw [hW]; exact heap_alloc_new _ _
  have HW := Lib.hid hW
  have HW0 := Lib.hid hW0
  have HR1 := Lib.hid h1
  have HR2 := Lib.hid h2
  clear hW hW0
  by_cases k1 : 32 < t.length
  · clear h1 h2
    go_enter Try.func48, Try.ntmps48
    go_wp2_with fail
    go_ret
    exact ⟨ret_bool (by unfold Rt.right; rw [show decide (t.length ≤ 32) = false from decide_eq_false (by omega)]; rfl), by rw [HW.out] at hWb; exact hWb⟩
  · by_cases k2 : 32 < u.length
    · clear h1 h2
      go_enter Try.func48, Try.ntmps48
      go_wp2_with fail
      go_ret
      exact ⟨ret_bool (by unfold Rt.right; rw [show decide (u.length ≤ 32) = false from decide_eq_false (by omega)]; simp), by rw [HW.out] at hWb; exact hWb⟩
    · have q1 : ResL w (.slice A t.length c) t := ⟨h1, o1, by omega⟩
      have q2 : ResL w (.slice A' u.length c') u := ⟨h2, o2, by omega⟩
      have TP := Lib.hid (fun (wx : World) (hx : Below W.heap.size W wx) => top_any n _ _ _ _ wx ((q1.below hWb).below hx) ((q2.below hWb).below hx))
      have BT := Lib.hid (fun (wx : World) (hx : Below W.heap.size W wx) => bot_any n _ _ _ _ wx ((q1.below hWb).below hx) ((q2.below hWb).below hx))
      have hd1 : decide ((32 : Int) < (t.length : Int)) = false := decide_eq_false (by omega)
      have hd2 : decide ((32 : Int) < (u.length : Int)) = false := decide_eq_false (by omega)
      have hWl : w.heap.size < W.heap.size := by omega
      have HRT : Hid (Rt.right ⟨n, t, u⟩ = (((Rt.mk n false (Nt.val t) (Nt.val u)).2 == 0) && sameNum n (Rt.mk n false (Nt.val t) (Nt.val u)).1.neg t (Rt.mk n false (Nt.val t) (Nt.val u)).1.top u (Rt.mk n false (Nt.val t) (Nt.val u)).1.bot)) := Lib.hid (right_same n t u (by omega) (by omega))
      have hMK : Rt.mk (Rt.nrm n (Nt.val t)) (Rt.nrm false (Nt.val u)) (Nt.val (Nt.digs (Nt.val t))) (Nt.val (Nt.digs (Nt.val u))) = Rt.mk n false (Nt.val t) (Nt.val u) := by rw [Nt.val_digs, Nt.val_digs, Rt.mk_nrm]
      generalize Rt.right ⟨n, t, u⟩ = RT at *
      generalize Rt.mk n false (Nt.val t) (Nt.val u) = R at *
      have HMK := Lib.hid hMK
      clear hMK
      clear h1 h2 q1 q2 hWs
      go_enter Try.func48, Try.ntmps48
      go_wp2_with fail
      rw [← HW.out]
      refine wp_region_any (by kernel_rfl) ?_
      refine wpAny_inv (GInv W w.heap.size #[.bool n, .slice A t.length c, .slice A' u.length c'] A t.length c A' u.length c' (Rt.nrm n (Nt.val t)) (Rt.nrm false (Nt.val u)) (Nt.digs (Nt.val t)) (Nt.digs (Nt.val u)) R) ?_ ?_ 11 _ _ _ (by decide) ⟨false, false, false, false, false, false, false, false, false, false, false, undef, undef, undef, undef, undef, undef, undef, undef, undef, undef, rfl, rfl, ⟨⟨rfl, rfl, rfl, Nat.le_refl _, fun _ _ => rfl⟩, nofun, nofun, nofun, nofun, nofun, nofun, nofun, nofun, nofun, nofun, nofun⟩⟩
      · rintro _ _ wx ⟨b0, b1, b2, b3, b4, b5, b6, b7, b8, b9, b10, x16, x17, x18, x19, x20, x15, x21, x22, x3, x4, rfl, rfl, hJ⟩ i hi
        obtain ⟨h8, hl, ha⟩ := ready_mem hi
        have h8' : i < 11 := h8
        clear h8 hi
        have hsz := hJ.below.size
        rcases (show i = 0 ∨ i = 1 ∨ i = 2 ∨ i = 3 ∨ i = 4 ∨ i = 5 ∨ i = 6 ∨ i = 7 ∨ i = 8 ∨ i = 9 ∨ i = 10 by omega) with rfl | rfl | rfl | rfl | rfl | rfl | rfl | rfl | rfl | rfl | rfl
        · refine wpOp_at rfl rfl ?_
          refine wp_load_row 58 (.tmp 1) rfl w.heap.size rfl 58 #[.bool n, .slice A t.length c, .slice A' u.length c'] (0, 0) _ ((hJ.below.block w.heap.size hWl).trans HW0.out) Try.underlying58 rfl num_info ?_
          exact ⟨true, b1, b2, b3, b4, b5, b6, b7, b8, b9, b10, _, x17, x18, x19, x20, x15, x21, x22, x3, x4, rfl, rfl, { hJ with v16 := fun _ => rfl }⟩
        · have h0 : b0 = true := by simpa [Region.binds] using ha
          subst h0
          obtain rfl := hJ.v16 rfl
          refine wpOp_at rfl rfl ?_
          unfold frameG Oper.wp
          go_simp
          refine ((TP.out _ hJ.below).mono ?_)
          rintro e w2 ⟨v3, rfl, hr3, hb2⟩
          exact ⟨true, true, b2, b3, b4, b5, b6, b7, b8, b9, b10, _, _, x18, x19, x20, x15, x21, x22, x3, x4, rfl, rfl, { hJ with
            below := hJ.below.trans (hb2.mono hsz)
            v17 := fun _ => ⟨v3, rfl, hr3⟩
            v19 := fun h => (hJ.v19 h).below hb2
            v20 := fun h => (hJ.v20 h).below hb2
            v15 := fun h => (hJ.v15 h).below hb2
            v21 := fun h => (hJ.v21 h).below hb2
            v3 := fun h => (hJ.v3 h).below hb2 }⟩
        · refine wpOp_at rfl rfl ?_
          refine wp_load_row 58 (.tmp 1) rfl w.heap.size rfl 58 #[.bool n, .slice A t.length c, .slice A' u.length c'] (0, 0) _ ((hJ.below.block w.heap.size hWl).trans HW0.out) Try.underlying58 rfl num_info ?_
          exact ⟨b0, b1, true, b3, b4, b5, b6, b7, b8, b9, b10, x16, x17, _, x19, x20, x15, x21, x22, x3, x4, rfl, rfl, { hJ with v18 := fun _ => rfl }⟩
        · have h0 : b2 = true ∧ b1 = true := by simpa [Region.binds] using ha
          obtain ⟨rfl, rfl⟩ := h0
          obtain rfl := hJ.v18 rfl
          refine wpOp_at rfl rfl ?_
          unfold frameG Oper.wp
          go_simp
          refine ((BT.out _ hJ.below).mono ?_)
          rintro e w2 ⟨v3, rfl, hr3, hb2⟩
          exact ⟨b0, true, true, true, b4, b5, b6, b7, b8, b9, b10, x16, x17, _, _, x20, x15, x21, x22, x3, x4, rfl, rfl, { hJ with
            below := hJ.below.trans (hb2.mono hsz)
            v19 := fun _ => ⟨v3, rfl, hr3⟩
            v17 := fun h => (hJ.v17 h).below hb2
            v20 := fun h => (hJ.v20 h).below hb2
            v15 := fun h => (hJ.v15 h).below hb2
            v21 := fun h => (hJ.v21 h).below hb2
            v3 := fun h => (hJ.v3 h).below hb2 }⟩
        · have h0 : b1 = true ∧ b3 = true := by simpa [Region.binds] using ha
          obtain ⟨rfl, rfl⟩ := h0
          obtain ⟨v1, rfl, r1⟩ := hJ.v17 rfl
          obtain ⟨v2, rfl, r2⟩ := hJ.v19 rfl
          have MK := make_any (Rt.nrm n (Nt.val t)) (Rt.nrm false (Nt.val u)) v1 v2 _ _ wx r1 r2
          rw [HMK.out] at MK
          refine wpOp_at rfl rfl ?_
          unfold frameG Oper.wp
          go_simp
          refine (MK.mono ?_)
          rintro e w2 ⟨t1, u1, rfl, k1, k2, hb2⟩
          exact ⟨b0, true, b2, true, true, b5, b6, b7, b8, b9, b10, x16, _, x18, _, _, x15, x21, x22, x3, x4, rfl, rfl, { hJ with
            below := hJ.below.trans (hb2.mono hsz)
            v20 := fun _ => ⟨t1, u1, rfl, k1, k2⟩
            v17 := fun h => (hJ.v17 h).below hb2
            v19 := fun h => (hJ.v19 h).below hb2
            v15 := fun h => (hJ.v15 h).below hb2
            v21 := fun h => (hJ.v21 h).below hb2
            v3 := fun h => (hJ.v3 h).below hb2 }⟩
        · have h0 : b4 = true := by simpa [Region.binds] using ha
          subst h0
          have hv := hJ.v20 rfl
          refine wpOp_at rfl rfl ?_
          unfold frameG Oper.wp
          go_simp
          exact ⟨b0, b1, b2, b3, true, true, b6, b7, b8, b9, b10, x16, x17, x18, x19, x20, _, x21, x22, x3, x4, rfl, rfl, { hJ with v15 := fun _ => hv }⟩
        · have h0 : b5 = true := by simpa [Region.binds] using ha
          subst h0
          obtain ⟨t1, u1, rfl, k1, k2⟩ := hJ.v15 rfl
          refine wpOp_at rfl rfl ?_
          unfold frameG Oper.wp
          go_simp
          exact ⟨b0, b1, b2, b3, b4, true, true, b7, b8, b9, b10, x16, x17, x18, x19, x20, _, _, x22, x3, x4, rfl, rfl, { hJ with v21 := fun _ => ⟨t1, u1, rfl, k1, k2⟩ }⟩
        · have h0 : b5 = true := by simpa [Region.binds] using ha
          subst h0
          obtain ⟨t1, u1, rfl, k1, k2⟩ := hJ.v15 rfl
          refine wpOp_at rfl rfl ?_
          unfold frameG Oper.wp
          go_simp
          exact ⟨b0, b1, b2, b3, b4, true, b6, true, b8, b9, b10, x16, x17, x18, x19, x20, _, x21, _, x3, x4, rfl, rfl, { hJ with v22 := fun _ => rfl }⟩
        · have hb8 : b8 = false := hl
          subst hb8
          have hb9 : b9 = false := by
            cases b9
            · rfl
            · exact absurd (hJ.o9 rfl) (by decide)
          subst hb9
          refine wpOp_at rfl rfl ?_
          unfold frameG Oper.wp
          go_simp
          have hba : Below wx.heap.size wx (wx.alloc (.cells #[.bool false, .slice none 0 0, .slice none 0 0] 58)) := (Below.refl _ _).alloc (Nat.le_refl _) _
          exact ⟨b0, b1, b2, b3, b4, b5, b6, b7, true, false, b10, x16, x17, x18, x19, x20, x15, x21, x22, _, x4, rfl, rfl, { hJ with
            below := hJ.below.alloc hsz _
            v3 := fun _ => ⟨wx.heap.size, false, none, 0, 0, none, 0, 0, rfl, hsz, heap_alloc_new _ _, nofun⟩
            v17 := fun h => (hJ.v17 h).below hba
            v19 := fun h => (hJ.v19 h).below hba
            v20 := fun h => (hJ.v20 h).below hba
            v15 := fun h => (hJ.v15 h).below hba
            v21 := fun h => (hJ.v21 h).below hba
            o9 := nofun }⟩
        · simp [Region.binds] at ha
          obtain ⟨rfl, rfl, rfl, rfl, rfl, rfl, rfl, -, rfl, -, -⟩ := ha
          have hb9 : b9 = false := hl
          subst hb9
          obtain ⟨g, b, A3, k3, c3, A4, k4, c4, rfl, q1, q2, q3⟩ := hJ.v3 rfl
          obtain ⟨t1, u1, rfl, r1, r2⟩ := hJ.v21 rfl
          have s17 := (hJ.v17 rfl).setRow q2 (three_no_int _ _ _ _ _ _ _) #[.bool R.1.neg, t1, u1]
          have s19 := (hJ.v19 rfl).setRow q2 (three_no_int _ _ _ _ _ _ _) #[.bool R.1.neg, t1, u1]
          have s20 := (hJ.v20 rfl).setRow q2 (three_no_int _ _ _ _ _ _ _) #[.bool R.1.neg, t1, u1]
          have s15 := (hJ.v15 rfl).setRow q2 (three_no_int _ _ _ _ _ _ _) #[.bool R.1.neg, t1, u1]
          have s21 := (hJ.v21 rfl).setRow q2 (three_no_int _ _ _ _ _ _ _) #[.bool R.1.neg, t1, u1]
          have r1' := r1.setRow q2 (three_no_int _ _ _ _ _ _ _) #[.bool R.1.neg, t1, u1]
          have r2' := r2.setRow q2 (three_no_int _ _ _ _ _ _ _) #[.bool R.1.neg, t1, u1]
          obtain ⟨A5, c5, rfl, -⟩ := r1
          obtain ⟨A6, c6, rfl, -⟩ := r2
          refine wpOp_at rfl rfl ?_
          refine wp_store_row 58 (.tmp 3) (.tmp 21) rfl g #[.bool R.1.neg, .slice A5 R.1.top.length c5, .slice A6 R.1.bot.length c6] rfl rfl 58 _ q2 num_info rfl (three_one _ _ _ _ _ _ _) ?_
          exact ⟨true, true, true, true, true, true, true, b7, true, true, b10, x16, x17, x18, x19, x20, x15, _, x22, _, x4, rfl, rfl, { hJ with
            below := rBelow.setRow hJ.below q1 _
            v17 := fun _ => s17
            v19 := fun _ => s19
            v20 := fun _ => s20
            v15 := fun _ => s15
            v21 := fun _ => s21
            v3 := fun _ => ⟨g, _, _, _, _, _, _, _, rfl, q1, rheap_same q2, fun _ => ⟨rfl, r1', r2'⟩⟩
            o9 := fun _ => rfl }⟩
        · simp [Region.binds] at ha
          have h7 : b7 = true := ha.1
          subst h7
          clear ha
          have hv := hJ.v22 rfl
          refine wpOp_at rfl rfl ?_
          unfold frameG Oper.wp
          go_simp
          exact ⟨b0, b1, b2, b3, b4, b5, b6, true, b8, b9, true, x16, x17, x18, x19, x20, x15, x21, x22, x3, _, rfl, rfl, { hJ with v4 := fun _ => hv }⟩
      · rintro _ _ wx ⟨b0, b1, b2, b3, b4, b5, b6, b7, b8, b9, b10, x16, x17, x18, x19, x20, x15, x21, x22, x3, x4, rfl, rfl, hJ⟩ hr
        have e0 : b0 = true := ready_nil' hr 0 (by decide) (by simp [Region.binds])
        subst e0
        have e1 : b1 = true := ready_nil' hr 1 (by decide) (by simp [Region.binds])
        subst e1
        have e2 : b2 = true := ready_nil' hr 2 (by decide) (by simp [Region.binds])
        subst e2
        have e3 : b3 = true := ready_nil' hr 3 (by decide) (by simp [Region.binds])
        subst e3
        have e4 : b4 = true := ready_nil' hr 4 (by decide) (by simp [Region.binds])
        subst e4
        have e5 : b5 = true := ready_nil' hr 5 (by decide) (by simp [Region.binds])
        subst e5
        have e6 : b6 = true := ready_nil' hr 6 (by decide) (by simp [Region.binds])
        subst e6
        have e7 : b7 = true := ready_nil' hr 7 (by decide) (by simp [Region.binds])
        subst e7
        have e8 : b8 = true := ready_nil' hr 8 (by decide) (by simp [Region.binds])
        subst e8
        have e9 : b9 = true := ready_nil' hr 9 (by decide) (by simp [Region.binds])
        subst e9
        have e10 : b10 = true := ready_nil' hr 10 (by decide) (by simp [Region.binds])
        subst e10
        clear hr
        obtain ⟨g, b, A3, k3, c3, A4, k4, c4, rfl, q1, q2, q3⟩ := hJ.v3 rfl
        obtain ⟨hbe, r1, r2⟩ := q3 rfl
        subst hbe
        obtain ⟨⟨b, l, l'⟩, er⟩ := R
        dsimp only at r1 r2 HRT
        obtain rfl := hJ.v4 rfl
        have hxb := hJ.below
        have hxs := hxb.size
        have hxw := hWb.trans (hxb.mono (by omega))
        have hw0 := (hxb.block w.heap.size hWl).trans HW0.out
        have hgl := blk_lt q2
        have i1 : k3 = l.length := by obtain ⟨_, _, e, _⟩ := r1; injection e
        have i2 : k4 = l'.length := by obtain ⟨_, _, e, _⟩ := r2; injection e
        subst i1 i2
        have p0 : wx.cell? ⟨g, 0, none⟩ = some (.bool b) := (cell_of_row wx g 0 _ _ _ q2).trans rfl
        have p1 : wx.cell? ⟨g, 1, none⟩ = some (.slice A3 l.length c3) := (cell_of_row wx g 1 _ _ _ q2).trans rfl
        have p2 : wx.cell? ⟨g, 2, none⟩ = some (.slice A4 l'.length c4) := (cell_of_row wx g 2 _ _ _ q2).trans rfl
        have z0 : wx.cell? ⟨w.heap.size, 0, none⟩ = some (.bool n) := (cell_of_row wx w.heap.size 0 _ _ _ hw0).trans rfl
        have z1 : wx.cell? ⟨w.heap.size, 1, none⟩ = some (.slice A t.length c) := (cell_of_row wx w.heap.size 1 _ _ _ hw0).trans rfl
        have z2 : wx.cell? ⟨w.heap.size, 2, none⟩ = some (.slice A' u.length c') := (cell_of_row wx w.heap.size 2 _ _ _ hw0).trans rfl
        have SM : Hid (Calls Try.prog 42 #[.agg #[.bool n, .slice A t.length c, .slice A' u.length c'], .agg #[.bool b, .slice A3 l.length c3, .slice A4 l'.length c4]] wx fun e w' => e = .returned (.bool (sameNum n b t l u l')) ∧ Below wx.heap.size wx w') := Lib.hid (by
          obtain ⟨_, _, e, y1, y2, y3, y4⟩ := HR1.out
          injection e with e1 e2 e3
          subst e1 e3
          obtain ⟨_, _, e, y5, y6, y7, y8⟩ := HR2.out
          injection e with e1 e2 e3
          subst e1 e3
          obtain ⟨_, _, e, x1, x2, x3, x4⟩ := r1
          injection e with e1 e2 e3
          subst e1 e3
          obtain ⟨_, _, e, x5, x6, x7, x8⟩ := r2
          injection e with e1 e2 e3
          subst e1 e3
          exact refRatioSame_any n b t l u l' A A' A3 A4 c c' c3 c4 wx wx.heap.size ((y4.below hxw).more hxw.size) x4 ((y8.below hxw).more hxw.size) x8 (Nat.le_refl _) (by omega) (by omega) (by omega) (by omega))
        generalize sameNum n b t l u l' = SN at SM HRT
        clear hJ q2 q3 r1 r2 hw0
        unfold frameG
        cases he : (er == 0)
        · rw [he] at HRT
          go_wp2_with fail
          go_ret
          exact ⟨ret_bool (by rw [HRT.out]; rfl), hxw⟩
        · rw [he] at HRT
          go_wp2_with fail
          refine SM.out.mono ?_
          rintro e w2 ⟨rfl, hb2⟩
          go_wp2_with fail
          go_ret
          exact ⟨ret_bool (by rw [HRT.out]; rfl), hxw.trans (hb2.mono hxw.size)⟩
end Go.Proofs.Ytfiobbhicicchaa
