/-
  Texts of this proof, joined (by wip/bin/bundle.py): InClass, RegInv, Rat2, RegPred, RegLast, RegStore, OwnQ, Dig4, Dig1, Dig2, LongMath.
-/
import Derived.Test.YtfiefglagknclaaGreatDoorM3
import Derived.Deep.QuietTactic
import Derived.BigQuiet
import Derived.Laws.Rows
import Derived.Laws.Tables
import Derived.Laws.AppendOwn
import Derived.Maps.AppendAt
import Derived.Below
/-
  A region that draws its order and whose calls make memory, but yield one value wherever they are made: one walk of the text's order serves.
  The class of worlds: those that are as w0 was below its heap's size. By the kit's wp_region_quiet (Derived/Deep/Quiet), at this class.
-/
namespace Go.Proofs.YtfiefglagknclaaGreatDoor
open Go.RowKit
set_option linter.unusedVariables false

/-- A world that is as w0 was below the size of w0's heap. -/
structure Later (w0 : World) where
  w : World
  b : Below w0.heap.size w0 w
instance Later.nonempty (w0 : World) : Nonempty (Later w0) := ⟨⟨w0, Below.refl _ _⟩⟩
theorem wp_region_later (w0 : World) {P : Program} {id : Nat} {Q : Exit → Act → World → Prop} {a : Act} {w : World} {l : List Oper} (hm : P.follows .mixedOrders = true) (hB : Region.lexB .any l.toArray = true) (hC : Below w0.heap.size w0 w.drew)
    (h : wpQuiet P l.toArray (fun w' => ∃ x : Later w0, w' = x.w) (fun a' => ∀ w', (∃ x : Later w0, w' = x.w) → Q .normal a' w') l a) : (Code.region id l.toArray true).wp P Q a w :=
  wp_region_quiet (C := fun w' => ∃ x : Later w0, w' = x.w) hm hB ⟨⟨_, hC⟩, rfl⟩ (by simpa using h)
theorem Later.call {w0 : World} {P : Program} {f : FuncId} {args : Array Value} {x : Later w0} {v : Value}
    (h : Calls P f args x.w fun e w' => e = .returned v ∧ Below x.w.heap.size x.w w') : Calls P f args x.w fun e w'' => e = .returned v ∧ ∃ y : Later w0, w'' = y.w :=
  h.mono fun _ w' ⟨he, hb⟩ => ⟨he, ⟨w', x.b.trans (hb.mono x.b.size)⟩, rfl⟩
theorem Later.call_same {w0 : World} {P : Program} {f : FuncId} {args : Array Value} {x : Later w0} {v : Value}
    (h : Calls P f args x.w fun e w' => e = .returned v ∧ x.w = w') : Calls P f args x.w fun e w'' => e = .returned v ∧ ∃ y : Later w0, w'' = y.w :=
  h.mono fun _ w' ⟨he, hb⟩ => ⟨he, x, hb.symm⟩
/-- A whole variable is read, in a region that draws. -/
theorem wpQuiet_load_row {P : Program} {ops : Array Oper} {C : World → Prop} {Q : Act → Prop} {o : Oper} {rest : List Oper} {a : Act} (hw : Region.wanted o (yielded ops a.tmps) = true) (ty : TypeId) (x : Operand) (ho : o.op = .load ty x)
    (g : Nat) (hx : a.eval x = .pointer (some ⟨g, 0, none⟩)) (t : TypeId) (cs : Array Value) (fr : Nat × Nat) (d : TypeDesc) (hg : ∀ w, C w → w.heap[g]? = some (.cells cs t fr))
    (hu : P.underlying ty = some d) (hd : (match d with | .struct _ | .array _ _ => true | _ => false) = true) (hi : (P.info? ty).map (·.size) = some cs.size)
    (h : ∀ a', a' = a.put o.dst (.agg cs) → wpQuiet P ops C Q rest a') : wpQuiet P ops C Q (o :: rest) a := by
  replace h := h _ rfl
  rw [wpQuiet, if_pos hw]
  refine ⟨.agg cs, fun w hC => ?_, h⟩
  unfold Oper.quietAt execOp
  simp only [ho, hx, Instr.loadAt, Instr.sureAddr, Sem.run_bind, Sem.run_pure, Result.andThen_ok, run_loadVar_row w g t ty cs fr d (hg w hC) hu hd hi]
  exact ⟨rfl, rfl⟩
theorem Below.drew_self (w : World) : Below w.heap.size w w.drew := ⟨rfl, rfl, rfl, Nat.le_refl _, fun _ _ => rfl⟩
end Go.Proofs.YtfiefglagknclaaGreatDoor

/-
  A region that draws its order, by an invariant on what has come up: each operation is looked at once, in whatever state it comes up.
-/
namespace Go.Proofs.YtfiefglagknclaaGreatDoor
open Go.RowKit
set_option linter.unusedVariables false

section
variable {P : Program} {ops : Array Oper} {Q : Exit → Act → World → Prop} {md : Region.Mode}
theorem ready_mem {l : Array Bool} {i : Nat} (h : i ∈ Region.ready md ops l) : i < ops.size ∧ l.getD i true = false ∧ ((ops[i]?).map (·.after.all fun e => !Region.binds md e || l.getD e.on false)).getD false = true := by
  simp only [Region.ready, List.mem_filter, List.mem_range, Bool.and_eq_true, Bool.not_eq_true'] at h
  exact ⟨h.1, h.2.1, h.2.2⟩
theorem count_false_zero {l : Array Bool} (h : l.toList.count false = 0) (i : Nat) : l.getD i true = true := by
  rw [List.count_eq_zero] at h
  rw [Array.getD_eq_getD_getElem?]
  cases e : l[i]? with
  | none => rfl
  | some b =>
    cases b
    · exact absurd (by have := Array.mem_of_getElem? e; simpa using this) h
    · rfl
theorem count_set_true : ∀ (l : List Bool) (i : Nat), l[i]? = some false → (l.set i true).count false + 1 = l.count false
  | [], i, h => by simp at h
  | b :: r, 0, h => by
    simp at h; subst h; simp
  | b :: r, i + 1, h => by
    have := count_set_true r i (by simpa using h)
    cases b <;> simp <;> omega
theorem wpAny_inv (I : Array Bool → Act → World → Prop)
    (hI : ∀ l a w, I l a w → ∀ i, i ∈ Region.ready md ops l → wpOp P ops Q i (I (l.setIfInBounds i true)) a w)
    (hd : ∀ l a w, I l a w → Region.ready md ops l = [] → Q .normal a w) :
    ∀ n l a w, l.toList.count false ≤ n → I l a w → wpAny P md ops Q n l a w := by
  intro n
  induction n with
  | zero =>
    intro l a w hc h
    have hr : Region.ready md ops l = [] := by
      rw [List.eq_nil_iff_forall_not_mem]
      intro i hi
      have := (ready_mem hi).2.1
      rw [count_false_zero (by omega)] at this
      cases this
    exact ⟨hr, hd l a w h hr⟩
  | succ n ih =>
    intro l a w hc h
    refine ⟨hd l a w h, fun i hi => wpOp_mono (fun a' w' h' => ih _ a' w' ?_ h') (hI l a w h i hi)⟩
    have h1 := (ready_mem hi).2.1
    rw [Array.getD_eq_getD_getElem?] at h1
    have h2 : l.toList[i]? = some false := by
      cases e : l[i]? with
      | none => rw [e] at h1; cases h1
      | some b => rw [e] at h1; simp at h1; subst h1; simpa using e
    have h3 := count_set_true _ _ h2
    have h4 : (l.setIfInBounds i true).toList = l.toList.set i true := by simp
    rw [h4]; omega
theorem wpOp_at {i : Nat} {o : Oper} {K : Act → World → Prop} {a : Act} {w : World} (h : ops[i]? = some o) (hg : o.guard = none) (hw : o.wp P a w K Q) : wpOp P ops Q i K a w := by
  unfold wpOp; rw [h]
  have : Region.wanted o (yielded ops a.tmps) = true := by simp [Region.wanted, hg]
  simp only [this, if_true]
  exact .inl hw
end
end Go.Proofs.YtfiefglagknclaaGreatDoor

/-
  Numbers by the reference: scrimref04.Top, Bot, Make. (Printed by wip/bin/gen_rat2.py.)
-/
namespace Go.Proofs.YtfiefglagknclaaGreatDoor
open Go.RowKit
set_option maxHeartbeats 4000000
set_option maxRecDepth 100000
set_option linter.unusedVariables false

theorem top_any (n : Bool) (v1 v2 : Value) (l1 l2 : List Nat) (w : World) (h1 : ResL w v1 l1) (h2 : ResL w v2 l2) :
    Calls Tryz.prog 28 #[.agg #[.bool n, v1, v2]] w (Int3Out w (Rt.nrm n (Nt.val l1)) (Nt.digs (Nt.val l1))) := by
  have hb0 : ∀ o1 o2, Below w.heap.size w ((w.alloc o1).alloc o2) := fun o1 o2 => ((Below.refl _ _).alloc (Nat.le_refl _) _).alloc (by simp) _
  have HN := Lib.hid (fun o1 o2 => norm3_any n v1 _ _ (h1.below (hb0 o1 o2)))
  have HB := Lib.hid hb0
  obtain ⟨⟨A1, c1, rfl, -⟩, -⟩ := h1
  obtain ⟨⟨A2, c2, rfl, -⟩, -⟩ := h2
  clear hb0
  generalize Rt.nrm n (Nt.val l1) = n2 at *
  generalize Nt.digs (Nt.val l1) = d2 at *
  generalize l1.length = k1 at *
  generalize l2.length = k2 at *
  have HI2 : Hid (∀ (b : Bool) (A : Option Addr) (k c : Nat), (Tryz.prog.info? 49).map (·.size) = some (#[.bool b, .slice A k c] : Array Value).size) := Lib.hid (fun _ _ _ _ => int3_info)
  go_enter Tryz.func28, Tryz.ntmps28
  go_wp2_with fail
  refine (HN.out _ _).mono ?_
  rintro e w2 ⟨v3, rfl, hr2, hb2⟩
  have hb3 := (HB.out _ _).trans (hb2.mono (HB.out _ _).size)
  have HG1 : Hid (w2.heap[w.heap.size + 1]? = some (.cells #[.bool false, .slice none 0 0] 49 (0, 0))) := Lib.hid ((hb2.block (w.heap.size + 1) (by simp)).trans (by
    have := heap_alloc_new (w.alloc (.cells #[.bool n, .slice A1 k1 c1, .slice A2 k2 c2] 26)) (.cells #[.bool false, .slice none 0 0] 49)
    rwa [show (w.alloc (.cells #[.bool n, .slice A1 k1 c1, .slice A2 k2 c2] 26)).heap.size = w.heap.size + 1 by simp] at this))
  have HR2 := Lib.hid (hr2.setRow HG1.out (two_no_int _ _ _ _) #[.bool n2, v3])
  obtain ⟨⟨A3, c3, rfl, -⟩, -⟩ := hr2
  clear hb2
  generalize d2.length = k3 at *
  go_wp2_with (first
    | (with_reducible refine wpList_store_row rfl 49 (.tmp 2) (.tmp 8) rfl (w.heap.size + 1) #[.bool n2, .slice A3 k3 c3] rfl rfl 49 #[.bool false, .slice none 0 0] HG1.out (HI2.out _ _ _ _) rfl (two_one _ _ _ _) ?_))
  refine bodyPost_ret (results_cell_row (by rfl) _ _ (w.heap.size + 1) 49 #[.bool n2, .slice A3 k3 c3] (0, 0) _ (by rfl) (rheap_same HG1.out) Tryz.underlying49 rfl (HI2.out _ _ _ _)) rfl ⟨.slice A3 k3 c3, rfl, HR2.out, rBelow.setRow hb3 (by omega) _⟩

theorem bot_any (n : Bool) (v1 v2 : Value) (l1 l2 : List Nat) (w : World) (h1 : ResL w v1 l1) (h2 : ResL w v2 l2) :
    Calls Tryz.prog 29 #[.agg #[.bool n, v1, v2]] w (Int3Out w (Rt.nrm false (Nt.val l2)) (Nt.digs (Nt.val l2))) := by
  have hb0 : ∀ o1 o2, Below w.heap.size w ((w.alloc o1).alloc o2) := fun o1 o2 => ((Below.refl _ _).alloc (Nat.le_refl _) _).alloc (by simp) _
  have HN := Lib.hid (fun o1 o2 => norm3_any false v2 _ _ (h2.below (hb0 o1 o2)))
  have HB := Lib.hid hb0
  obtain ⟨⟨A1, c1, rfl, -⟩, -⟩ := h1
  obtain ⟨⟨A2, c2, rfl, -⟩, -⟩ := h2
  clear hb0
  generalize Rt.nrm false (Nt.val l2) = n2 at *
  generalize Nt.digs (Nt.val l2) = d2 at *
  generalize l1.length = k1 at *
  generalize l2.length = k2 at *
  have HI2 : Hid (∀ (b : Bool) (A : Option Addr) (k c : Nat), (Tryz.prog.info? 49).map (·.size) = some (#[.bool b, .slice A k c] : Array Value).size) := Lib.hid (fun _ _ _ _ => int3_info)
  go_enter Tryz.func29, Tryz.ntmps29
  go_wp2_with fail
  refine (HN.out _ _).mono ?_
  rintro e w2 ⟨v3, rfl, hr2, hb2⟩
  have hb3 := (HB.out _ _).trans (hb2.mono (HB.out _ _).size)
  have HG1 : Hid (w2.heap[w.heap.size + 1]? = some (.cells #[.bool false, .slice none 0 0] 49 (0, 0))) := Lib.hid ((hb2.block (w.heap.size + 1) (by simp)).trans (by
    have := heap_alloc_new (w.alloc (.cells #[.bool n, .slice A1 k1 c1, .slice A2 k2 c2] 26)) (.cells #[.bool false, .slice none 0 0] 49)
    rwa [show (w.alloc (.cells #[.bool n, .slice A1 k1 c1, .slice A2 k2 c2] 26)).heap.size = w.heap.size + 1 by simp] at this))
  have HR2 := Lib.hid (hr2.setRow HG1.out (two_no_int _ _ _ _) #[.bool n2, v3])
  obtain ⟨⟨A3, c3, rfl, -⟩, -⟩ := hr2
  clear hb2
  generalize d2.length = k3 at *
  go_wp2_with (first
    | (with_reducible refine wpList_store_row rfl 49 (.tmp 2) (.tmp 6) rfl (w.heap.size + 1) #[.bool n2, .slice A3 k3 c3] rfl rfl 49 #[.bool false, .slice none 0 0] HG1.out (HI2.out _ _ _ _) rfl (two_one _ _ _ _) ?_))
  refine bodyPost_ret (results_cell_row (by rfl) _ _ (w.heap.size + 1) 49 #[.bool n2, .slice A3 k3 c3] (0, 0) _ (by rfl) (rheap_same HG1.out) Tryz.underlying49 rfl (HI2.out _ _ _ _)) rfl ⟨.slice A3 k3 c3, rfl, HR2.out, rBelow.setRow hb3 (by omega) _⟩

/-- What holds while the operations of 'x, y := Norm(p), Norm(q)' come up. -/
structure MI (w : World) (P Q : Array Value) (N1 N2 : Bool) (D1 D2 : List Nat) (b0 b1 b2 b3 b4 b5 b6 b7 : Bool) (x15 x16 x17 x18 x6 x7 : Value) (wx : World) : Prop where
  below : Below w.heap.size w wx
  v15 : b0 = true → x15 = .agg P
  v16 : b1 = true → ∃ v, x16 = .agg #[.bool N1, v] ∧ ResL wx v D1
  v17 : b2 = true → x17 = .agg Q
  v18 : b3 = true → ∃ v, x18 = .agg #[.bool N2, v] ∧ ResL wx v D2
  v6 : b4 = true → ∃ g n A k c, x6 = .pointer (some ⟨g, 0, none⟩) ∧ w.heap.size ≤ g ∧ wx.heap[g]? = some (.cells #[.bool n, .slice A k c] 49 (0, 0)) ∧ (b6 = true → x16 = .agg #[.bool n, .slice A k c])
  v7 : b5 = true → ∃ g n A k c, x7 = .pointer (some ⟨g, 0, none⟩) ∧ w.heap.size ≤ g ∧ wx.heap[g]? = some (.cells #[.bool n, .slice A k c] 49 (0, 0)) ∧ (b7 = true → x18 = .agg #[.bool n, .slice A k c])
  o6 : b6 = true → b4 = true ∧ b1 = true
  o7 : b7 = true → b5 = true ∧ b3 = true
  ne : b4 = true → b5 = true → x6 ≠ x7
def frameM (g : Nat) (P Q : Array Value) (x15 x16 x17 x18 x6 x7 : Value) : Act := { tmps := #[.agg P, .agg Q, .pointer (some ⟨g, 0, none⟩), .pointer (some ⟨g + 1, 0, none⟩), .pointer (some ⟨g + 1 + 1, 0, none⟩), .int .i64 0, x6, x7, undef, undef, undef, undef, undef, undef, undef, x15, x16, x17, x18, undef, undef, undef, undef, undef, undef, undef, undef, undef, undef, undef, undef, undef, undef, undef, undef, undef, undef, undef, undef, undef, undef, undef, undef, undef, undef, undef, undef, undef, undef, undef, undef, undef, undef, undef, undef, undef, undef, undef, undef, undef, undef, undef, undef, undef, undef, undef, undef], defers := [] }
def MInv (w : World) (g : Nat) (P Q : Array Value) (N1 N2 : Bool) (D1 D2 : List Nat) (l : Array Bool) (a : Act) (wx : World) : Prop :=
  ∃ b0 b1 b2 b3 b4 b5 b6 b7 x15 x16 x17 x18 x6 x7, l = #[b0, b1, b2, b3, b4, b5, b6, b7] ∧ a = frameM g P Q x15 x16 x17 x18 x6 x7 ∧ MI w P Q N1 N2 D1 D2 b0 b1 b2 b3 b4 b5 b6 b7 x15 x16 x17 x18 x6 x7 wx
theorem rheap_far {w : World} {g g' : Nat} {cs : Array Value} (h : g ≠ g') : (w.setRow g cs).heap[g']? = w.heap[g']? := by
  simp only [World.setRow, Array.getElem?_modify]
  rw [if_neg (by omega)]
theorem blk_lt {w : World} {g : Nat} {o : Obj} (h : w.heap[g]? = some o) : g < w.heap.size := by
  rcases Nat.lt_or_ge g w.heap.size with hl | hl
  · exact hl
  · rw [Array.getElem?_eq_none hl] at h; cases h
theorem mem_ready' {md : Region.Mode} {ops : Array Oper} {l : Array Bool} {i : Nat} (h : i < ops.size) (h1 : l.getD i true = false) (h2 : ((ops[i]?).map (·.after.all fun e => !Region.binds md e || l.getD e.on false)).getD false = true) : i ∈ Region.ready md ops l := by
  simp only [Region.ready, List.mem_filter, List.mem_range, Bool.and_eq_true, Bool.not_eq_true']
  exact ⟨h, h1, h2⟩
theorem ready_nil' {md : Region.Mode} {ops : Array Oper} {l : Array Bool} (hr : Region.ready md ops l = []) (i : Nat) (h : i < ops.size) (h2 : ((ops[i]?).map (·.after.all fun e => !Region.binds md e || l.getD e.on false)).getD false = true) : l.getD i true = true := by
  cases e : l.getD i true
  · have := mem_ready' h e h2
    rw [hr] at this; cases this
  · rfl
theorem results_cell_row_tmp {P : Program} {fn : Func} {p u : Tmp} {ty : TypeId} (h : fn.results = #[.cell p ty, .tmp u]) (tmps : Array Value) (w : World) (g : Nat) (t : TypeId) (cs : Array Value) (fr : Nat × Nat) (d : TypeDesc) (x : Value)
    (hp : tmps.getD p undef = .pointer (some ⟨g, 0, none⟩)) (hx : tmps.getD u undef = x) (hg : w.heap[g]? = some (.cells cs t fr))
    (hu : P.underlying ty = some d) (hd : (match d with | .struct _ | .array _ _ => true | _ => false) = true) (hi : (P.info? ty).map (·.size) = some cs.size) :
    (results fn tmps).run P w = .ok (.tuple #[.agg cs, x]) w := by
  have hp' : tmps[p]?.getD undef = .pointer (some ⟨g, 0, none⟩) := by simpa using hp
  have hx' : tmps[u]?.getD undef = x := by simpa using hx
  simp [results, h, hp', hx', asAddr, run_loadVar_row w g t ty cs fr d hg hu hd hi]
theorem isRes_nil (w : World) : IsRes w (.slice none 0 0) [] := ⟨none, 0, rfl, Nat.le_refl _, by omega, fun _ => rfl, .inl rfl⟩
/-- A number, and the error. -/
def MakeOut (w : World) (r : Rt.Nm × Int) (e : Ending) (w' : World) : Prop := ∃ t u, e = .returned (.tuple #[.agg #[.bool r.1.neg, t, u], .int .i64 r.2]) ∧ IsRes w' t r.1.top ∧ IsRes w' u r.1.bot ∧ Below w.heap.size w w'
theorem MakeOut.of {w w' : World} {r : Rt.Nm × Int} {e : Ending} {b : Bool} {t u : Value} {l l' : List Nat} {er : Int} (hr : r = (⟨b, l, l'⟩, er)) (he : e = .returned (.tuple #[.agg #[.bool b, t, u], .int .i64 er])) (h1 : IsRes w' t l) (h2 : IsRes w' u l') (h3 : Below w.heap.size w w') : MakeOut w r e w' := by
  subst hr; exact ⟨t, u, he, h1, h2, h3⟩

theorem make_any (n1 n2 : Bool) (v1 v2 : Value) (l1 l2 : List Nat) (w : World) (h1 : ResL w v1 l1) (h2 : ResL w v2 l2) :
    Calls Tryz.prog 26 #[.agg #[.bool n1, v1], .agg #[.bool n2, v2]] w (MakeOut w (Rt.mk n1 n2 (Nt.val l1) (Nt.val l2))) := by
  obtain ⟨W, hW⟩ : ∃ W, W = ((w.alloc (.cells #[.bool n1, v1] 49)).alloc (.cells #[.bool n2, v2] 49)).alloc (.cells #[.bool false, .slice none 0 0, .slice none 0 0] 26) := ⟨_, rfl⟩
  have hWs : W.heap.size = w.heap.size + 1 + 1 + 1 := by rw [hW]; simp
  have hWb : Below w.heap.size w W := by rw [hW]; exact (((Below.refl _ _).alloc (Nat.le_refl _) _).alloc (by simp) _).alloc (by simp; omega) _
  have hW0 : W.heap[w.heap.size]? = some (.cells #[.bool n1, v1] 49 (0, 0)) := by rw [hW]; exact (Below.heap_alloc _ _ _ (by simp; omega)).trans (heap_alloc2_old _ _ _)
  have hW1 : W.heap[w.heap.size + 1]? = some (.cells #[.bool n2, v2] 49 (0, 0)) := by rw [hW]; exact (Below.heap_alloc _ _ _ (by simp)).trans (heap_alloc2_new _ _ _)
  have hW2 : W.heap[w.heap.size + 1 + 1]? = some (.cells #[.bool false, .slice none 0 0, .slice none 0 0] 26 (0, 0)) := by
    rw [hW]
    have := heap_alloc_new ((w.alloc (.cells #[.bool n1, v1] 49)).alloc (.cells #[.bool n2, v2] 49)) (.cells #[.bool false, .slice none 0 0, .slice none 0 0] 26)
    rwa [show ((w.alloc (.cells #[.bool n1, v1] 49)).alloc (.cells #[.bool n2, v2] 49)).heap.size = w.heap.size + 1 + 1 by simp] at this
  have HN1 := Lib.hid (fun (wx : World) (hx : Below W.heap.size W wx) => norm3_any n1 v1 _ wx ((h1.below hWb).below hx))
  have HN2 := Lib.hid (fun (wx : World) (hx : Below W.heap.size W wx) => norm3_any n2 v2 _ wx ((h2.below hWb).below hx))
  have HW := Lib.hid hW
  have HW0 := Lib.hid hW0
  have HW1 := Lib.hid hW1
  have HW2 := Lib.hid hW2
  rw [← Rt.mk_nrm]
  obtain ⟨⟨A1, c1, rfl, -⟩, -⟩ := h1
  obtain ⟨⟨A2, c2, rfl, -⟩, -⟩ := h2
  generalize Rt.nrm n1 (Nt.val l1) = N1 at *
  generalize Rt.nrm n2 (Nt.val l2) = N2 at *
  generalize Nt.val l1 = X at *
  generalize Nt.val l2 = Y at *
  generalize l1.length = z1 at *
  generalize l2.length = z2 at *
  clear hW hW0 hW1 hW2
  go_enter Tryz.func26, Tryz.ntmps26
  go_wp2_with fail
  rw [← HW.out]
  have hWl : w.heap.size + 1 + 1 < W.heap.size := by omega
  have HWS := Lib.hid hWs
  clear hWs
  refine wp_region_any (by kernel_rfl) ?_
  refine wpAny_inv (MInv W w.heap.size #[.bool n1, .slice A1 z1 c1] #[.bool n2, .slice A2 z2 c2] N1 N2 (Nt.digs X) (Nt.digs Y)) ?_ ?_ 8 _ _ _ (by decide) ⟨false, false, false, false, false, false, false, false, undef, undef, undef, undef, undef, undef, rfl, rfl, ⟨⟨rfl, rfl, rfl, Nat.le_refl _, fun _ _ => rfl⟩, nofun, nofun, nofun, nofun, nofun, nofun, nofun, nofun, nofun⟩⟩
  · rintro _ _ wx ⟨b0, b1, b2, b3, b4, b5, b6, b7, x15, x16, x17, x18, x6, x7, rfl, rfl, hJ⟩ i hi
    obtain ⟨h8, hl, ha⟩ := ready_mem hi
    have h8' : i < 8 := h8
    clear h8 hi
    have hsz := hJ.below.size
    rcases (show i = 0 ∨ i = 1 ∨ i = 2 ∨ i = 3 ∨ i = 4 ∨ i = 5 ∨ i = 6 ∨ i = 7 by omega) with rfl | rfl | rfl | rfl | rfl | rfl | rfl | rfl
    · refine wpOp_at rfl rfl ?_
      refine wp_load_row 49 (.tmp 2) rfl w.heap.size rfl 49 #[.bool n1, .slice A1 z1 c1] (0, 0) _ ((hJ.below.block w.heap.size (by omega)).trans HW0.out) Tryz.underlying49 rfl int3_info ?_
      exact ⟨true, b1, b2, b3, b4, b5, b6, b7, _, x16, x17, x18, x6, x7, rfl, rfl, { hJ with v15 := fun _ => rfl }⟩
    · have h0 : b0 = true := by simpa [Region.binds] using ha
      subst h0
      have hb1 : b1 = false := hl
      subst hb1
      have hb6 : b6 = false := by
        cases b6
        · rfl
        · exact absurd (hJ.o6 rfl).2 (by decide)
      subst hb6
      obtain rfl := hJ.v15 rfl
      refine wpOp_at rfl rfl ?_
      unfold frameM Oper.wp
      go_simp
      refine ((HN1.out _ hJ.below).mono ?_)
      rintro e w2 ⟨v3, rfl, hr3, hb2⟩
      exact ⟨true, true, b2, b3, b4, b5, false, b7, _, _, x17, x18, x6, x7, rfl, rfl, { hJ with
        below := hJ.below.trans (hb2.mono hsz)
        v16 := fun _ => ⟨v3, rfl, hr3⟩
        v18 := fun h => by obtain ⟨v, e, r⟩ := hJ.v18 h; exact ⟨v, e, r.below hb2⟩
        v6 := fun h => by obtain ⟨g, n, A, k, c, q1, q2, q3, q4⟩ := hJ.v6 h; exact ⟨g, n, A, k, c, q1, q2, (hb2.block g (blk_lt q3)).trans q3, nofun⟩
        v7 := fun h => by obtain ⟨g, n, A, k, c, q1, q2, q3, q4⟩ := hJ.v7 h; exact ⟨g, n, A, k, c, q1, q2, (hb2.block g (blk_lt q3)).trans q3, q4⟩
        o6 := nofun }⟩
    · refine wpOp_at rfl rfl ?_
      refine wp_load_row 49 (.tmp 3) rfl (w.heap.size + 1) rfl 49 #[.bool n2, .slice A2 z2 c2] (0, 0) _ ((hJ.below.block (w.heap.size + 1) (by omega)).trans HW1.out) Tryz.underlying49 rfl int3_info ?_
      exact ⟨b0, b1, true, b3, b4, b5, b6, b7, x15, x16, _, x18, x6, x7, rfl, rfl, { hJ with v17 := fun _ => rfl }⟩
    · have h0 : b2 = true ∧ b1 = true := by simpa [Region.binds] using ha
      obtain ⟨rfl, rfl⟩ := h0
      have hb3 : b3 = false := hl
      subst hb3
      have hb7 : b7 = false := by
        cases b7
        · rfl
        · exact absurd (hJ.o7 rfl).2 (by decide)
      subst hb7
      obtain rfl := hJ.v17 rfl
      refine wpOp_at rfl rfl ?_
      unfold frameM Oper.wp
      go_simp
      refine ((HN2.out _ hJ.below).mono ?_)
      rintro e w2 ⟨v3, rfl, hr3, hb2⟩
      exact ⟨b0, true, true, true, b4, b5, b6, false, x15, x16, _, _, x6, x7, rfl, rfl, { hJ with
        below := hJ.below.trans (hb2.mono hsz)
        v18 := fun _ => ⟨v3, rfl, hr3⟩
        v16 := fun h => by obtain ⟨v, e, r⟩ := hJ.v16 h; exact ⟨v, e, r.below hb2⟩
        v6 := fun h => by obtain ⟨g, n, A, k, c, q1, q2, q3, q4⟩ := hJ.v6 h; exact ⟨g, n, A, k, c, q1, q2, (hb2.block g (blk_lt q3)).trans q3, q4⟩
        v7 := fun h => by obtain ⟨g, n, A, k, c, q1, q2, q3, q4⟩ := hJ.v7 h; exact ⟨g, n, A, k, c, q1, q2, (hb2.block g (blk_lt q3)).trans q3, nofun⟩
        o7 := nofun }⟩
    · have hb4 : b4 = false := hl
      subst hb4
      have hb6 : b6 = false := by
        cases b6
        · rfl
        · exact absurd (hJ.o6 rfl).1 (by decide)
      subst hb6
      refine wpOp_at rfl rfl ?_
      unfold frameM Oper.wp
      go_simp
      have hba : Below wx.heap.size wx (wx.alloc (.cells #[.bool false, .slice none 0 0] 49)) := (Below.refl _ _).alloc (Nat.le_refl _) _
      exact ⟨b0, b1, b2, b3, true, b5, false, b7, x15, x16, x17, x18, _, x7, rfl, rfl, { hJ with
        below := hJ.below.alloc hsz _
        v16 := fun h => by obtain ⟨v, e, r⟩ := hJ.v16 h; exact ⟨v, e, r.below hba⟩
        v18 := fun h => by obtain ⟨v, e, r⟩ := hJ.v18 h; exact ⟨v, e, r.below hba⟩
        v6 := fun _ => ⟨wx.heap.size, false, none, 0, 0, rfl, hsz, heap_alloc_new _ _, nofun⟩
        v7 := fun h => by obtain ⟨g, n, A, k, c, q1, q2, q3, q4⟩ := hJ.v7 h; exact ⟨g, n, A, k, c, q1, q2, (hba.block g (blk_lt q3)).trans q3, q4⟩
        o6 := nofun
        ne := fun _ h => by
          obtain ⟨g, n, A, k, c, q1, q2, q3, q4⟩ := hJ.v7 h
          have := blk_lt q3
          rw [q1]; intro e; injection e with e; injection e with e; injection e with e; omega }⟩
    · have hb5 : b5 = false := hl
      subst hb5
      have hb7 : b7 = false := by
        cases b7
        · rfl
        · exact absurd (hJ.o7 rfl).1 (by decide)
      subst hb7
      refine wpOp_at rfl rfl ?_
      unfold frameM Oper.wp
      go_simp
      have hba : Below wx.heap.size wx (wx.alloc (.cells #[.bool false, .slice none 0 0] 49)) := (Below.refl _ _).alloc (Nat.le_refl _) _
      exact ⟨b0, b1, b2, b3, b4, true, b6, false, x15, x16, x17, x18, x6, _, rfl, rfl, { hJ with
        below := hJ.below.alloc hsz _
        v16 := fun h => by obtain ⟨v, e, r⟩ := hJ.v16 h; exact ⟨v, e, r.below hba⟩
        v18 := fun h => by obtain ⟨v, e, r⟩ := hJ.v18 h; exact ⟨v, e, r.below hba⟩
        v7 := fun _ => ⟨wx.heap.size, false, none, 0, 0, rfl, hsz, heap_alloc_new _ _, nofun⟩
        v6 := fun h => by obtain ⟨g, n, A, k, c, q1, q2, q3, q4⟩ := hJ.v6 h; exact ⟨g, n, A, k, c, q1, q2, (hba.block g (blk_lt q3)).trans q3, q4⟩
        o7 := nofun
        ne := fun h _ => by
          obtain ⟨g, n, A, k, c, q1, q2, q3, q4⟩ := hJ.v6 h
          have := blk_lt q3
          rw [q1]; intro e; injection e with e; injection e with e; injection e with e; omega }⟩
    · have h0 : b4 = true ∧ b1 = true ∧ b3 = true ∧ b0 = true ∧ b1 = true ∧ b4 = true ∧ b5 = true := by simpa [Region.binds] using ha
      obtain ⟨rfl, rfl, rfl, rfl, -, -, rfl⟩ := h0
      have hb6 : b6 = false := hl
      subst hb6
      obtain ⟨g, n, A, k, c, rfl, q2, q3, q4⟩ := hJ.v6 rfl
      obtain ⟨g', n', A', k', c', rfl, q2', q3', q4'⟩ := hJ.v7 rfl
      have hne : g ≠ g' := fun e => hJ.ne rfl rfl (by rw [e])
      obtain ⟨v, rfl, hr⟩ := hJ.v16 rfl
      obtain ⟨v', rfl, hr'⟩ := hJ.v18 rfl
      have hrs := hr.setRow q3 (two_no_int _ _ _ _) #[.bool N1, v]
      have hrs' := hr'.setRow q3 (two_no_int _ _ _ _) #[.bool N1, v]
      obtain ⟨⟨A3, c3, rfl, -⟩, -⟩ := hr
      refine wpOp_at rfl rfl ?_
      refine wp_store_row 49 (.tmp 6) (.tmp 16) rfl g #[.bool N1, .slice A3 (Nt.digs X).length c3] rfl rfl 49 _ q3 int3_info rfl (two_one _ _ _ _) ?_
      exact ⟨true, true, b2, true, true, true, true, b7, x15, _, x17, _, _, _, rfl, rfl, { hJ with
        below := rBelow.setRow hJ.below q2 _
        v16 := fun _ => ⟨_, rfl, hrs⟩
        v18 := fun _ => ⟨v', rfl, hrs'⟩
        v6 := fun _ => ⟨g, _, _, _, _, rfl, q2, rheap_same q3, fun _ => rfl⟩
        v7 := fun _ => ⟨g', n', A', k', c', rfl, q2', (rheap_far hne).trans q3', q4'⟩
        o6 := fun _ => ⟨rfl, rfl⟩ }⟩
    · have h0 : b5 = true ∧ b3 = true ∧ b6 = true ∧ b0 = true ∧ b1 = true ∧ b2 = true ∧ b3 = true ∧ b4 = true ∧ b5 = true ∧ b6 = true := by simpa [Region.binds] using ha
      obtain ⟨rfl, rfl, rfl, rfl, rfl, rfl, -, rfl, -, -⟩ := h0
      have hb7 : b7 = false := hl
      subst hb7
      obtain ⟨g, n, A, k, c, rfl, q2, q3, q4⟩ := hJ.v6 rfl
      obtain ⟨g', n', A', k', c', rfl, q2', q3', q4'⟩ := hJ.v7 rfl
      have hne : g' ≠ g := fun e => hJ.ne rfl rfl (by rw [e])
      obtain ⟨v, rfl, hr⟩ := hJ.v16 rfl
      obtain ⟨v', rfl, hr'⟩ := hJ.v18 rfl
      have hrs := hr.setRow q3' (two_no_int _ _ _ _) #[.bool N2, v']
      have hrs' := hr'.setRow q3' (two_no_int _ _ _ _) #[.bool N2, v']
      obtain ⟨⟨A3, c3, rfl, -⟩, -⟩ := hr'
      refine wpOp_at rfl rfl ?_
      refine wp_store_row 49 (.tmp 7) (.tmp 18) rfl g' #[.bool N2, .slice A3 (Nt.digs Y).length c3] rfl rfl 49 _ q3' int3_info rfl (two_one _ _ _ _) ?_
      exact ⟨true, true, true, true, true, true, true, true, x15, _, x17, _, _, _, rfl, rfl, { hJ with
        below := rBelow.setRow hJ.below q2' _
        v16 := fun _ => ⟨v, rfl, hrs⟩
        v18 := fun _ => ⟨_, rfl, hrs'⟩
        v7 := fun _ => ⟨g', _, _, _, _, rfl, q2', rheap_same q3', fun _ => rfl⟩
        v6 := fun _ => ⟨g, n, A, k, c, rfl, q2, (rheap_far hne).trans q3, q4⟩
        o7 := fun _ => ⟨rfl, rfl⟩ }⟩
  · rintro _ _ wx ⟨b0, b1, b2, b3, b4, b5, b6, b7, x15, x16, x17, x18, x6, x7, rfl, rfl, hJ⟩ hr
    have e0 : b0 = true := ready_nil' hr 0 (by decide) (by simp [Region.binds])
    subst e0
    have e1 : b1 = true := ready_nil' hr 1 (by decide) (by simp [Region.binds])
    subst e1
    have e2 : b2 = true := ready_nil' hr 2 (by decide) (by simp [Region.binds])
    subst e2
    have e3 : b3 = true := ready_nil' hr 3 (by decide) (by simp [Region.binds])
    subst e3
    have e4 : b4 = true := ready_nil' hr 4 (by decide) (by simp [Region.binds])
    subst e4
    have e5 : b5 = true := ready_nil' hr 5 (by decide) (by simp [Region.binds])
    subst e5
    have e6 : b6 = true := ready_nil' hr 6 (by decide) (by simp [Region.binds])
    subst e6
    have e7 : b7 = true := ready_nil' hr 7 (by decide) (by simp [Region.binds])
    subst e7
    clear hr
    obtain ⟨g, n, A, k, c, rfl, q2, q3, q4⟩ := hJ.v6 rfl
    obtain ⟨g', n', A', k', c', rfl, q2', q3', q4'⟩ := hJ.v7 rfl
    have hne : g ≠ g' := fun e => hJ.ne rfl rfl (by rw [e])
    obtain ⟨v, rfl, hr1⟩ := hJ.v16 rfl
    obtain ⟨v', rfl, hr2⟩ := hJ.v18 rfl
    have e := q4 rfl
    simp at e
    obtain ⟨e, rfl⟩ := e
    subst e
    have e := q4' rfl
    simp at e
    obtain ⟨e, rfl⟩ := e
    subst e
    have hxb := hJ.below
    have hxs := hxb.size
    have p0 : wx.cell? ⟨g, 0, none⟩ = some (.bool N1) := (cell_of_row wx g 0 _ _ _ q3).trans rfl
    have p1 : wx.cell? ⟨g, 1, none⟩ = some (.slice A k c) := (cell_of_row wx g 1 _ _ _ q3).trans rfl
    have p0' : wx.cell? ⟨g', 0, none⟩ = some (.bool N2) := (cell_of_row wx g' 0 _ _ _ q3').trans rfl
    have p1' : wx.cell? ⟨g', 1, none⟩ = some (.slice A' k' c') := (cell_of_row wx g' 1 _ _ _ q3').trans rfl
    have hgl := blk_lt q3
    have hgl' := blk_lt q3'
    have HR1 := Lib.hid hr1
    have HR2 := Lib.hid hr2
    clear hJ hr1 hr2 q3 q3' q4 q4' HN1 HN2
    obtain ⟨hd1, o1, s1⟩ := HR1.out
    obtain ⟨hd2, o2, s2⟩ := HR2.out
    have f1 : k = (Nt.digs X).length := by obtain ⟨_, _, e, _⟩ := hd1; injection e
    have f2 : k' = (Nt.digs Y).length := by obtain ⟨_, _, e, _⟩ := hd2; injection e
    have s1' : k ≤ 64 := by omega
    have s2' : k' ≤ 64 := by omega
    have HD1 := Lib.hid hd1
    have HD2 := Lib.hid hd2
    have HY0 : Hid (k' = 0 ↔ Y = 0) := Lib.hid (by rw [f2, List.length_eq_zero_iff, Nt.digs_nil_iff])
    have HF := Lib.hid (And.intro f1 f2)
    clear f1 f2 hd1 hd2
    unfold frameM
    have HI3 : Hid (∀ (b : Bool) (A : Option Addr) (k c : Nat) (A' : Option Addr) (k' c' : Nat), (Tryz.prog.info? 26).map (·.size) = some (#[.bool b, .slice A k c, .slice A' k' c'] : Array Value).size) := Lib.hid (fun _ _ _ _ _ _ _ => num_info)
    have hxw : Below w.heap.size w wx := hWb.trans (hxb.mono (by omega))
    have HGA := Lib.hid ((hxb.block (w.heap.size + 1 + 1) (by omega)).trans HW2.out)
    by_cases hk0 : k' = 0
    · have hz : ((k' : Int) == 0) = true := by rw [hk0]; rfl
      have HK0 := Lib.hid (HY0.out.1 hk0)
      clear hk0
      go_wp2_with (first
        | (with_reducible refine wpList_store_row rfl 26 (.tmp 4) (.tmp 23) rfl (w.heap.size + 1 + 1) #[.bool false, .slice none 0 0, .slice none 0 0] rfl rfl 26 #[.bool false, .slice none 0 0, .slice none 0 0] HGA.out (HI3.out _ _ _ _ _ _ _) rfl (three_one _ _ _ _ _ _ _) ?_))
      refine bodyPost_ret (results_cell_row_tmp (by rfl) _ _ (w.heap.size + 1 + 1) 26 #[.bool false, .slice none 0 0, .slice none 0 0] (0, 0) _ _ (by rfl) (by rfl) (rheap_same HGA.out) Tryz.underlying26 rfl (HI3.out _ _ _ _ _ _ _)) rfl (MakeOut.of (by unfold Rt.mk; rw [if_pos HK0.out]; rfl) rfl (isRes_nil _) (isRes_nil _) (rBelow.setRow hxw (by omega) _))
    · have hz : ((k' : Int) == 0) = false := beq_eq_false_iff_ne.2 (by omega)
      have HY1 : Hid (Y ≠ 0) := Lib.hid (fun h => hk0 (HY0.out.2 h))
      have hgl64 := Nt.gcd_len o1 o2 s1 s2
      have GC := Lib.hid (refGcd64_any (.slice A k c) (.slice A' k' c') (Nt.digs X) (Nt.digs Y) wx HD1.out HD2.out o1 o2 s1 s2)
      have HOG := Lib.hid (Nt.ok_digs (Nat.gcd (Nt.val (Nt.digs X)) (Nt.val (Nt.digs Y))))
      have HGV : Hid (Nt.val (Nt.digs (Nat.gcd (Nt.val (Nt.digs X)) (Nt.val (Nt.digs Y)))) = Nat.gcd X Y) := Lib.hid (by rw [Nt.val_digs, Nt.val_digs, Nt.val_digs])
      generalize Nt.digs (Nat.gcd (Nt.val (Nt.digs X)) (Nt.val (Nt.digs Y))) = gd at *
      clear hk0
      go_wp2_with fail
      refine GC.out.mono ?_
      rintro e w3 ⟨v3, rfl, hr3, hb3⟩
      have r0 : w3.cell? ⟨g, 0, none⟩ = some (.bool N1) := (hb3.cell (p := ⟨g, 0, none⟩) hgl).trans p0
      have r1 : w3.cell? ⟨g, 1, none⟩ = some (.slice A k c) := (hb3.cell (p := ⟨g, 1, none⟩) hgl).trans p1
      have r0' : w3.cell? ⟨g', 0, none⟩ = some (.bool N2) := (hb3.cell (p := ⟨g', 0, none⟩) hgl').trans p0'
      have r1' : w3.cell? ⟨g', 1, none⟩ = some (.slice A' k' c') := (hb3.cell (p := ⟨g', 1, none⟩) hgl').trans p1'
      have DM := Lib.hid (rDivMod_res (w0 := w3) (HD1.out.below hb3) hr3 o1 HOG.out (by omega) (by omega) (Below.refl _ _))
      clear p0 p1 p0' p1' GC
      go_wp2_with fail
      refine DM.out.mono ?_
      rintro e w4 ⟨u1, u2, rfl, t1, t2, hb4, -⟩
      have hs3 := hb3.size
      have r0 : w4.cell? ⟨g, 0, none⟩ = some (.bool N1) := (hb4.cell (p := ⟨g, 0, none⟩) (show g < _ by omega)).trans r0
      have r0' : w4.cell? ⟨g', 0, none⟩ = some (.bool N2) := (hb4.cell (p := ⟨g', 0, none⟩) (show g' < _ by omega)).trans r0'
      have r1' : w4.cell? ⟨g', 1, none⟩ = some (.slice A' k' c') := (hb4.cell (p := ⟨g', 1, none⟩) (show g' < _ by omega)).trans r1'
      have DN := Lib.hid (rDivMod_res (w0 := w4) ((HD2.out.below hb3).below hb4) (hr3.below hb4) o2 HOG.out (by omega) (by omega) (Below.refl _ _))
      clear DM
      go_wp2_with fail
      refine DN.out.mono ?_
      rintro e w5 ⟨u3, u4, rfl, t3, t4, hb5, -⟩
      have hs4 := hb4.size
      have hs5 := hb5.size
      have r0 : w5.cell? ⟨g, 0, none⟩ = some (.bool N1) := (hb5.cell (p := ⟨g, 0, none⟩) (show g < _ by omega)).trans r0
      have r0' : w5.cell? ⟨g', 0, none⟩ = some (.bool N2) := (hb5.cell (p := ⟨g', 0, none⟩) (show g' < _ by omega)).trans r0'
      have HGB := Lib.hid ((hb5.block (w.heap.size + 1 + 1) (by omega)).trans ((hb4.block (w.heap.size + 1 + 1) (by omega)).trans ((hb3.block (w.heap.size + 1 + 1) (by omega)).trans HGA.out)))
      have hbw : Below w.heap.size w w5 := ((hxw.trans (hb3.mono (by omega))).trans (hb4.mono (by omega))).trans (hb5.mono (by omega))
      have HT1 := Lib.hid (t1.below hb5)
      have HT3 := Lib.hid t3
      clear t1 t2 t3 t4 hr3 DN
      obtain ⟨e1, he1⟩ : ∃ e1, e1 = Nt.digs (Nt.quo (Nt.val (Nt.digs X)) (Nt.val gd)) := ⟨_, rfl⟩
      obtain ⟨e2, he2⟩ : ∃ e2, e2 = Nt.digs (Nt.quo (Nt.val (Nt.digs Y)) (Nt.val gd)) := ⟨_, rfl⟩
      rw [← he1] at HT1
      rw [← he2] at HT3
      rw [HGV.out, Nt.val_digs] at he1 he2
      have HE1 : Hid (e1 = Nt.digs (X / Nat.gcd X Y)) := Lib.hid he1
      have HE2 : Hid (e2 = Nt.digs (Y / Nat.gcd X Y)) := Lib.hid he2
      have HX0 : Hid (e1.length = 0 ↔ X = 0) := Lib.hid (by rw [he1, List.length_eq_zero_iff, Nt.digs_nil_iff]; exact Rt.div_gcd_zero HY1.out)
      clear he1 he2
      obtain ⟨B1, a1, rfl, y1, y2, -⟩ := HT1.out
      obtain ⟨B2, a2, rfl, y3, y4, -⟩ := HT3.out
      by_cases h32 : 32 < e1.length
      · have g1 : decide ((32 : Int) < (e1.length : Int)) = true := by simp; omega
        go_wp2_with (first
          | (with_reducible refine wpList_store_row rfl 26 (.tmp 4) (.tmp 53) rfl (w.heap.size + 1 + 1) #[.bool false, .slice none 0 0, .slice none 0 0] rfl rfl 26 #[.bool false, .slice none 0 0, .slice none 0 0] HGB.out (HI3.out _ _ _ _ _ _ _) rfl (three_one _ _ _ _ _ _ _) ?_))
        refine bodyPost_ret (results_cell_row_tmp (by rfl) _ _ (w.heap.size + 1 + 1) 26 #[.bool false, .slice none 0 0, .slice none 0 0] (0, 0) _ _ (by rfl) (by rfl) (rheap_same HGB.out) Tryz.underlying26 rfl (HI3.out _ _ _ _ _ _ _)) rfl (MakeOut.of (by unfold Rt.mk; rw [if_neg HY1.out, ← HE1.out, ← HE2.out, if_pos (by omega)]; rfl) rfl (isRes_nil _) (isRes_nil _) (rBelow.setRow hbw (by omega) _))
      · by_cases h33 : 32 < e2.length
        · have g1 : decide ((32 : Int) < (e1.length : Int)) = false := by simp; omega
          have g2 : decide ((32 : Int) < (e2.length : Int)) = true := by simp; omega
          go_wp2_with (first
            | (with_reducible refine wpList_store_row rfl 26 (.tmp 4) (.tmp 53) rfl (w.heap.size + 1 + 1) #[.bool false, .slice none 0 0, .slice none 0 0] rfl rfl 26 #[.bool false, .slice none 0 0, .slice none 0 0] HGB.out (HI3.out _ _ _ _ _ _ _) rfl (three_one _ _ _ _ _ _ _) ?_))
          refine bodyPost_ret (results_cell_row_tmp (by rfl) _ _ (w.heap.size + 1 + 1) 26 #[.bool false, .slice none 0 0, .slice none 0 0] (0, 0) _ _ (by rfl) (by rfl) (rheap_same HGB.out) Tryz.underlying26 rfl (HI3.out _ _ _ _ _ _ _)) rfl (MakeOut.of (by unfold Rt.mk; rw [if_neg HY1.out, ← HE1.out, ← HE2.out, if_pos (by omega)]; rfl) rfl (isRes_nil _) (isRes_nil _) (rBelow.setRow hbw (by omega) _))
        · have g1 : decide ((32 : Int) < (e1.length : Int)) = false := by simp; omega
          have g2 : decide ((32 : Int) < (e2.length : Int)) = false := by simp; omega
          by_cases h34 : 0 < e1.length
          · have g3 : decide ((0 : Int) < (e1.length : Int)) = true := decide_eq_true (by omega)
            have HXB : Hid ((X == 0) = false) := Lib.hid (by have := HX0.out; simp; omega)
            cases N1
            · cases N2
              · skip
                go_wp2_with (first
                  | (with_reducible refine wpList_store_row rfl 26 (.tmp 4) (.tmp 66) rfl (w.heap.size + 1 + 1) #[.bool false, .slice B1 e1.length a1, .slice B2 e2.length a2] rfl rfl 26 #[.bool false, .slice none 0 0, .slice none 0 0] HGB.out (HI3.out _ _ _ _ _ _ _) rfl (three_one _ _ _ _ _ _ _) ?_))
                refine bodyPost_ret (results_cell_row_tmp (by rfl) _ _ (w.heap.size + 1 + 1) 26 #[.bool false, .slice B1 e1.length a1, .slice B2 e2.length a2] (0, 0) _ _ (by rfl) (by rfl) (rheap_same HGB.out) Tryz.underlying26 rfl (HI3.out _ _ _ _ _ _ _)) rfl (MakeOut.of (by unfold Rt.mk; rw [if_neg HY1.out, ← HE1.out, ← HE2.out, if_neg (by omega), HXB.out]; rfl) rfl (HT1.out.setRow HGB.out (three_no_int _ _ _ _ _ _ _) _) (HT3.out.setRow HGB.out (three_no_int _ _ _ _ _ _ _) _) (rBelow.setRow hbw (by omega) _))
              · skip
                go_wp2_with (first
                  | (with_reducible refine wpList_store_row rfl 26 (.tmp 4) (.tmp 66) rfl (w.heap.size + 1 + 1) #[.bool true, .slice B1 e1.length a1, .slice B2 e2.length a2] rfl rfl 26 #[.bool false, .slice none 0 0, .slice none 0 0] HGB.out (HI3.out _ _ _ _ _ _ _) rfl (three_one _ _ _ _ _ _ _) ?_))
                refine bodyPost_ret (results_cell_row_tmp (by rfl) _ _ (w.heap.size + 1 + 1) 26 #[.bool true, .slice B1 e1.length a1, .slice B2 e2.length a2] (0, 0) _ _ (by rfl) (by rfl) (rheap_same HGB.out) Tryz.underlying26 rfl (HI3.out _ _ _ _ _ _ _)) rfl (MakeOut.of (by unfold Rt.mk; rw [if_neg HY1.out, ← HE1.out, ← HE2.out, if_neg (by omega), HXB.out]; rfl) rfl (HT1.out.setRow HGB.out (three_no_int _ _ _ _ _ _ _) _) (HT3.out.setRow HGB.out (three_no_int _ _ _ _ _ _ _) _) (rBelow.setRow hbw (by omega) _))
            · cases N2
              · skip
                go_wp2_with (first
                  | (with_reducible refine wpList_store_row rfl 26 (.tmp 4) (.tmp 66) rfl (w.heap.size + 1 + 1) #[.bool true, .slice B1 e1.length a1, .slice B2 e2.length a2] rfl rfl 26 #[.bool false, .slice none 0 0, .slice none 0 0] HGB.out (HI3.out _ _ _ _ _ _ _) rfl (three_one _ _ _ _ _ _ _) ?_))
                refine bodyPost_ret (results_cell_row_tmp (by rfl) _ _ (w.heap.size + 1 + 1) 26 #[.bool true, .slice B1 e1.length a1, .slice B2 e2.length a2] (0, 0) _ _ (by rfl) (by rfl) (rheap_same HGB.out) Tryz.underlying26 rfl (HI3.out _ _ _ _ _ _ _)) rfl (MakeOut.of (by unfold Rt.mk; rw [if_neg HY1.out, ← HE1.out, ← HE2.out, if_neg (by omega), HXB.out]; rfl) rfl (HT1.out.setRow HGB.out (three_no_int _ _ _ _ _ _ _) _) (HT3.out.setRow HGB.out (three_no_int _ _ _ _ _ _ _) _) (rBelow.setRow hbw (by omega) _))
              · skip
                go_wp2_with (first
                  | (with_reducible refine wpList_store_row rfl 26 (.tmp 4) (.tmp 66) rfl (w.heap.size + 1 + 1) #[.bool false, .slice B1 e1.length a1, .slice B2 e2.length a2] rfl rfl 26 #[.bool false, .slice none 0 0, .slice none 0 0] HGB.out (HI3.out _ _ _ _ _ _ _) rfl (three_one _ _ _ _ _ _ _) ?_))
                refine bodyPost_ret (results_cell_row_tmp (by rfl) _ _ (w.heap.size + 1 + 1) 26 #[.bool false, .slice B1 e1.length a1, .slice B2 e2.length a2] (0, 0) _ _ (by rfl) (by rfl) (rheap_same HGB.out) Tryz.underlying26 rfl (HI3.out _ _ _ _ _ _ _)) rfl (MakeOut.of (by unfold Rt.mk; rw [if_neg HY1.out, ← HE1.out, ← HE2.out, if_neg (by omega), HXB.out]; rfl) rfl (HT1.out.setRow HGB.out (three_no_int _ _ _ _ _ _ _) _) (HT3.out.setRow HGB.out (three_no_int _ _ _ _ _ _ _) _) (rBelow.setRow hbw (by omega) _))
          · have g3 : decide ((0 : Int) < (e1.length : Int)) = false := decide_eq_false (by omega)
            have HXB : Hid ((X == 0) = true) := Lib.hid (by have := HX0.out; simp; omega)
            go_wp2_with (first
              | (with_reducible refine wpList_store_row rfl 26 (.tmp 4) (.tmp 66) rfl (w.heap.size + 1 + 1) #[.bool false, .slice B1 e1.length a1, .slice B2 e2.length a2] rfl rfl 26 #[.bool false, .slice none 0 0, .slice none 0 0] HGB.out (HI3.out _ _ _ _ _ _ _) rfl (three_one _ _ _ _ _ _ _) ?_))
            refine bodyPost_ret (results_cell_row_tmp (by rfl) _ _ (w.heap.size + 1 + 1) 26 #[.bool false, .slice B1 e1.length a1, .slice B2 e2.length a2] (0, 0) _ _ (by rfl) (by rfl) (rheap_same HGB.out) Tryz.underlying26 rfl (HI3.out _ _ _ _ _ _ _)) rfl (MakeOut.of (by unfold Rt.mk; rw [if_neg HY1.out, ← HE1.out, ← HE2.out, if_neg (by omega), HXB.out]; rfl) rfl (HT1.out.setRow HGB.out (three_no_int _ _ _ _ _ _ _) _) (HT3.out.setRow HGB.out (three_no_int _ _ _ _ _ _ _) _) (rBelow.setRow hbw (by omega) _))
end Go.Proofs.YtfiefglagknclaaGreatDoor

/-
  A region that draws its order, and whose operations make memory but write none that was there: by a predicate for each operation's value, that stays in every later world.
-/
namespace Go.Proofs.YtfiefglagknclaaGreatDoor
open Go.RowKit
set_option linter.unusedVariables false

/-- One value more. -/
def upd (xs : Nat → Value) (i : Nat) (v : Value) : Nat → Value := fun j => if j = i then v else xs j
section
variable {P : Program} {ops : Array Oper} {Q : Exit → Act → World → Prop} {md : Region.Mode}
/-- Does an operation wait for another one? -/
def depB (md : Region.Mode) (ops : Array Oper) (i j : Nat) : Bool := match ops[i]? with
  | some o => o.after.toList.any fun e => e.on == j && Region.binds md e
  | none => false
/-- The operation yields such a value, and makes memory at the most. -/
def Yields (frame : (Nat → Value) → Act) (R : Nat → World → Value → Prop) (xs : Nat → Value) (i : Nat) (w : World) (a' : Act) (w' : World) : Prop := ∃ v, a' = frame (upd xs i v) ∧ R i w' v ∧ Below w.heap.size w w'
theorem wpAny_pred (frame : (Nat → Value) → Act) (w0 : World) (R : Nat → World → Value → Prop)
    (hR : ∀ i w w' v, R i w v → Below w.heap.size w w' → R i w' v)
    (step : ∀ i xs w, i < ops.size → Below w0.heap.size w0 w → (∀ j, depB md ops i j = true → R j w (xs j)) → wpOp P ops Q i (Yields frame R xs i w) (frame xs) w)
    (done : ∀ xs w, Below w0.heap.size w0 w → (∀ i, i < ops.size → R i w (xs i)) → Q .normal (frame xs) w)
    (hops : ∀ i, i < ops.size → ∀ o, ops[i]? = some o → ∀ e ∈ o.after, e.on < i)
    (xs0 : Nat → Value) (w1 : World) (hw1 : Below w0.heap.size w0 w1) : wpAny P md ops Q ops.size (Array.replicate ops.size false) (frame xs0) w1 := by
  refine wpAny_inv (fun l a w => l.size = ops.size ∧ Below w0.heap.size w0 w ∧ ∃ xs, a = frame xs ∧ ∀ i, i < ops.size → l[i]? = some true → R i w (xs i)) ?_ ?_ ops.size _ _ _ (by simp) ⟨by simp, hw1, xs0, rfl, fun i hi h => by simp [hi] at h⟩
  · rintro l a w ⟨hl, hb, xs, rfl, hx⟩ i hi
    obtain ⟨h1, h2, h3⟩ := ready_mem hi
    have hli : l[i]? = some false := by
      rw [Array.getD_eq_getD_getElem?] at h2
      rw [Array.getElem?_eq_getElem (by omega)] at h2 ⊢
      simp at h2; rw [h2]
    refine wpOp_mono ?_ (step i xs w h1 hb ?_)
    · rintro a' w' ⟨v, rfl, hv, hb'⟩
      refine ⟨by simpa using hl, hb.trans (hb'.mono hb.size), upd xs i v, rfl, fun j hj hlj => ?_⟩
      by_cases e : j = i
      · subst e; simp only [upd, if_true]; exact hv
      · simp only [upd, if_neg e]
        rw [Array.getElem?_setIfInBounds_ne (fun h => e h.symm)] at hlj
        exact hR j w w' _ (hx j hj hlj) hb'
    · intro j hj
      obtain ⟨o, ho⟩ : ∃ o, ops[i]? = some o := ⟨_, Array.getElem?_eq_getElem h1⟩
      unfold depB at hj
      rw [ho] at hj
      simp only [List.any_eq_true, Bool.and_eq_true, beq_iff_eq] at hj
      obtain ⟨e, he', rfl, hbe⟩ := hj
      have he : e ∈ o.after := by simpa using he'
      have hlt := hops i h1 o ho e he
      rw [ho] at h3
      simp only [Option.map_some, Option.getD_some, Array.all_eq_true_iff_forall_mem] at h3
      have h4 := h3 e he
      rw [hbe] at h4
      simp only [Bool.not_true, Bool.false_or] at h4
      refine hx e.on (by omega) ?_
      rw [Array.getD_eq_getD_getElem?, Array.getElem?_eq_getElem (by omega)] at h4
      rw [Array.getElem?_eq_getElem (by omega)]
      simp at h4; rw [h4]
  · rintro l a w ⟨hl, hb, xs, rfl, hx⟩ hr
    refine done xs w hb ?_
    -- all are listed, by the order of the text
    have hall : ∀ n i, i < n → i < ops.size → l[i]? = some true := by
      intro n
      induction n with
      | zero => intro i h; omega
      | succ n ih =>
        intro i hi his
        by_cases e : i < n
        · exact ih i e his
        · have hie : i = n := by omega
          subst hie
          cases h : l[i]? with
          | none => rw [Array.getElem?_eq_none_iff] at h; omega
          | some b =>
            cases b
            · exfalso
              have : i ∈ Region.ready md ops l := by
                simp only [Region.ready, List.mem_filter, List.mem_range, Bool.and_eq_true, Bool.not_eq_true']
                refine ⟨his, by rw [Array.getD_eq_getD_getElem?, h]; rfl, ?_⟩
                rw [Array.getElem?_eq_getElem his]
                simp only [Option.map_some, Option.getD_some, Array.all_eq_true_iff_forall_mem]
                intro e he
                have hlt := hops i his _ (Array.getElem?_eq_getElem his) e he
                rw [Array.getD_eq_getD_getElem?, ih e.on hlt (by omega)]
                simp
              rw [hr] at this; cases this
            · rfl
    intro i hi
    exact hx i hi (hall (i + 1) i (by omega) hi)
theorem wp_region_pred (frame : (Nat → Value) → Act) (w0 : World) (R : Nat → World → Value → Prop) {id : Nat} {a : Act} {w : World} (hm : P.follows .mixedOrders = true)
    (hR : ∀ i w w' v, R i w v → Below w.heap.size w w' → R i w' v)
    (hops : ops.toList.zipIdx.all (fun p => p.1.after.all fun e => decide (e.on < p.2)) = true)
    (xs0 : Nat → Value) (ha : a = frame xs0) (hw : Below w0.heap.size w0 w)
    (step : ∀ i xs w, i < ops.size → Below w0.heap.size w0 w → (∀ j, depB .any ops i j = true → R j w (xs j)) → wpOp P ops Q i (Yields frame R xs i w) (frame xs) w)
    (done : ∀ xs w, Below w0.heap.size w0 w → (∀ i, i < ops.size → R i w (xs i)) → Q .normal (frame xs) w) : (Code.region id ops true).wp P Q a w := by
  subst ha
  refine wp_region_any hm (wpAny_pred frame w0 R hR step done ?_ xs0 _ ?_)
  · intro i hi o ho e he
    rw [List.all_eq_true] at hops
    have h := hops (o, i) (by
      rw [List.mem_zipIdx_iff_getElem?]
      simpa using ho)
    rw [Array.all_eq_true_iff_forall_mem] at h
    simpa using h e he
  · exact ⟨hw.os, hw.tape, hw.output, hw.size, hw.block⟩
theorem wpOp_on {i : Nat} {o : Oper} {K : Act → World → Prop} {a : Act} {w : World} (h : ops[i]? = some o) (hg : Region.wanted o (yielded ops a.tmps) = true) (hw : o.wp P a w K Q) : wpOp P ops Q i K a w := by
  unfold wpOp; rw [h]
  simp only [hg, if_true]
  exact .inl hw
theorem wpOp_off {i : Nat} {o : Oper} {K : Act → World → Prop} {a : Act} {w : World} (h : ops[i]? = some o) (hg : Region.wanted o (yielded ops a.tmps) = false) (hk : K (a.put o.dst undef) w) : wpOp P ops Q i K a w := by
  unfold wpOp; rw [h]
  simp only [hg]
  exact hk
end
end Go.Proofs.YtfiefglagknclaaGreatDoor

/-
  As XRegPred, for a region whose last operation waits for all others (a store of what they made): the others by predicates, the last one by itself.
-/
namespace Go.Proofs.YtfiefglagknclaaGreatDoor
open Go.RowKit
set_option linter.unusedVariables false

section
variable {P : Program} {ops : Array Oper} {Q : Exit → Act → World → Prop} {md : Region.Mode}
theorem depB_listed {l : Array Bool} {i j : Nat} (h : ((ops[i]?).map (·.after.all fun e => !Region.binds md e || l.getD e.on false)).getD false = true) (hj : depB md ops i j = true) : l.getD j false = true := by
  unfold depB at hj
  cases ho : ops[i]? with
  | none => rw [ho] at hj; cases hj
  | some o =>
    rw [ho] at hj h
    simp only [List.any_eq_true, Bool.and_eq_true, beq_iff_eq] at hj
    obtain ⟨e, he', rfl, hbe⟩ := hj
    have he : e ∈ o.after := by simpa using he'
    simp only [Option.map_some, Option.getD_some, Array.all_eq_true_iff_forall_mem] at h
    have h4 := h e he
    rw [hbe] at h4
    simpa using h4
theorem getD_true {l : Array Bool} {i : Nat} (h : l.getD i false = true) : l[i]? = some true := by
  rw [Array.getD_eq_getD_getElem?] at h
  cases e : l[i]? with
  | none => rw [e] at h; cases h
  | some b => rw [e] at h; simp at h; rw [h]
theorem wpAny_last (frame : (Nat → Value) → Act) (w0 : World) (R : Nat → World → Value → Prop) (n : Nat) (hn : ops.size = n + 1)
    (hR : ∀ i w w' v, R i w v → Below w.heap.size w w' → R i w' v)
    (step : ∀ i xs w, i < n → Below w0.heap.size w0 w → (∀ j, depB md ops i j = true → R j w (xs j)) → wpOp P ops Q i (Yields frame R xs i w) (frame xs) w)
    (last : ∀ xs w, Below w0.heap.size w0 w → (∀ i, i < n → R i w (xs i)) → wpOp P ops Q n (fun a' w' => Q .normal a' w') (frame xs) w)
    (hops : ∀ i, i < ops.size → ∀ j, depB md ops i j = true → j < i) (hlast : ∀ j, j < n → depB md ops n j = true)
    (xs0 : Nat → Value) (w1 : World) (hw1 : Below w0.heap.size w0 w1) : wpAny P md ops Q ops.size (Array.replicate ops.size false) (frame xs0) w1 := by
  refine wpAny_inv (fun l a w => l.size = ops.size ∧ ((l[n]? = some false ∧ Below w0.heap.size w0 w ∧ ∃ xs, a = frame xs ∧ ∀ i, i < n → l[i]? = some true → R i w (xs i)) ∨ (l[n]? = some true ∧ Q .normal a w ∧ ∀ i, i < n → l[i]? = some true))) ?_ ?_ ops.size _ _ _ (by simp) ⟨by simp, .inl ⟨by simp [hn], hw1, xs0, rfl, fun i hi h => by simp [show i < ops.size by omega] at h⟩⟩
  · rintro l a w ⟨hl, hc⟩ i hi
    obtain ⟨h1, h2, h3⟩ := ready_mem hi
    have hli : l[i]? = some false := by
      rw [Array.getD_eq_getD_getElem?] at h2
      rw [Array.getElem?_eq_getElem (by omega)] at h2 ⊢
      simp at h2; rw [h2]
    rcases hc with ⟨hln, hb, xs, rfl, hx⟩ | ⟨hln, hQ, hall⟩
    · by_cases e : i = n
      · subst e
        have hall : ∀ j, j < i → l[j]? = some true := fun j hj => getD_true (depB_listed h3 (hlast j hj))
        refine wpOp_mono ?_ (last xs w hb (fun j hj => hx j hj (hall j hj)))
        intro a' w' hq
        refine ⟨by simpa using hl, .inr ⟨?_, hq, fun j hj => ?_⟩⟩
        · rw [Array.getElem?_setIfInBounds_self_of_lt (by omega)]
        · rw [Array.getElem?_setIfInBounds_ne (by omega)]; exact hall j hj
      · refine wpOp_mono ?_ (step i xs w (by omega) hb (fun j hj => hx j (by have := hops i h1 j hj; omega) (getD_true (depB_listed h3 hj))))
        rintro a' w' ⟨v, rfl, hv, hb'⟩
        refine ⟨by simpa using hl, .inl ⟨by rw [Array.getElem?_setIfInBounds_ne e]; exact hln, hb.trans (hb'.mono hb.size), upd xs i v, rfl, fun j hj hlj => ?_⟩⟩
        by_cases e' : j = i
        · subst e'; simp only [upd, if_true]; exact hv
        · simp only [upd, if_neg e']
          rw [Array.getElem?_setIfInBounds_ne (fun h => e' h.symm)] at hlj
          exact hR j w w' _ (hx j hj hlj) hb'
    · exfalso
      by_cases e : i = n
      · subst e; rw [hli] at hln; cases hln
      · rw [hall i (by omega)] at hli; cases hli
  · rintro l a w ⟨hl, hc⟩ hr
    rcases hc with ⟨hln, hb, xs, rfl, hx⟩ | ⟨_, hQ, _⟩
    · exfalso
      have hall : ∀ m i, i < m → i < ops.size → l[i]? = some true := by
        intro m
        induction m with
        | zero => intro i h; omega
        | succ m ih =>
          intro i hi his
          by_cases e : i < m
          · exact ih i e his
          · have hie : i = m := by omega
            subst hie
            cases h : l[i]? with
            | none => rw [Array.getElem?_eq_none_iff] at h; omega
            | some b =>
              cases b
              · exfalso
                have : i ∈ Region.ready md ops l := by
                  simp only [Region.ready, List.mem_filter, List.mem_range, Bool.and_eq_true, Bool.not_eq_true']
                  refine ⟨his, by rw [Array.getD_eq_getD_getElem?, h]; rfl, ?_⟩
                  rw [Array.getElem?_eq_getElem his]
                  simp only [Option.map_some, Option.getD_some, Array.all_eq_true_iff_forall_mem]
                  intro e he
                  cases hbe : Region.binds md e
                  · rfl
                  · have hd : depB md ops i e.on = true := by
                      unfold depB
                      rw [Array.getElem?_eq_getElem his]
                      simp only [List.any_eq_true, Bool.and_eq_true, beq_iff_eq]
                      exact ⟨e, by simpa using he, rfl, hbe⟩
                    have hlt := hops i his e.on hd
                    rw [Array.getD_eq_getD_getElem?, ih e.on hlt (by omega)]
                    simp
                rw [hr] at this; cases this
              · rfl
      rw [hall (n + 1) n (by omega) (by omega)] at hln; cases hln
    · exact hQ
theorem wp_region_last (frame : (Nat → Value) → Act) (w0 : World) (R : Nat → World → Value → Prop) (n : Nat) {id : Nat} {a : Act} {w : World} (hm : P.follows .mixedOrders = true) (hn : ops.size = n + 1)
    (hR : ∀ i w w' v, R i w v → Below w.heap.size w w' → R i w' v)
    (hops : ops.toList.zipIdx.all (fun p => p.1.after.all fun e => decide (e.on < p.2)) = true) (hlast : (List.range n).all (fun j => depB .any ops n j) = true)
    (xs0 : Nat → Value) (ha : a = frame xs0) (hw : Below w0.heap.size w0 w)
    (step : ∀ i xs w, i < n → Below w0.heap.size w0 w → (∀ j, depB .any ops i j = true → R j w (xs j)) → wpOp P ops Q i (Yields frame R xs i w) (frame xs) w)
    (last : ∀ xs w, Below w0.heap.size w0 w → (∀ i, i < n → R i w (xs i)) → wpOp P ops Q n (fun a' w' => Q .normal a' w') (frame xs) w) : (Code.region id ops true).wp P Q a w := by
  subst ha
  refine wp_region_any hm (wpAny_last frame w0 R n hn hR step last ?_ ?_ xs0 _ ?_)
  · intro i hi j hj
    unfold depB at hj
    rw [Array.getElem?_eq_getElem hi] at hj
    simp only [List.any_eq_true, Bool.and_eq_true, beq_iff_eq] at hj
    obtain ⟨e, he, rfl, _⟩ := hj
    rw [List.all_eq_true] at hops
    have h := hops (ops[i], i) (by
      rw [List.mem_zipIdx_iff_getElem?]
      simp)
    rw [Array.all_eq_true_iff_forall_mem] at h
    simpa using h e (by simpa using he)
  · intro j hj
    rw [List.all_eq_true] at hlast
    exact hlast j (by simpa using hj)
  · exact ⟨hw.os, hw.tape, hw.output, hw.size, hw.block⟩
end
end Go.Proofs.YtfiefglagknclaaGreatDoor

/-
  As XRegPred, for a region with one store into a block that was there (a result's cell, say): all other operations read and make memory, and say nothing of that block.
-/
namespace Go.Proofs.YtfiefglagknclaaGreatDoor
open Go.RowKit
set_option linter.unusedVariables false

theorem below_grown {w w' : World} {g : Nat} (h : Below w.heap.size w w') : w.grownBy w' (some g) := ⟨h.os, h.tape, h.output, h.size, fun k hk _ => h.block k hk⟩
theorem grown_trans {a b c : World} {g : Nat} (h : a.grownBy b (some g)) (h' : b.grownBy c (some g)) : a.grownBy c (some g) :=
  ⟨h'.os.trans h.os, h'.tape.trans h.tape, h'.output.trans h.output, Nat.le_trans h.size h'.size, fun k hk hne => (h'.block k (Nat.lt_of_lt_of_le hk h.size) hne).trans (h.block k hk hne)⟩
section
variable {P : Program} {ops : Array Oper} {Q : Exit → Act → World → Prop} {md : Region.Mode}
/-- The store's outcome. -/
def Stored (frame : (Nat → Value) → Act) (R : Nat → World → Value → Prop) (s : Nat) (RS : World → Prop) (g : Nat) (xs : Nat → Value) (w : World) (a' : Act) (w' : World) : Prop := a' = frame xs ∧ w.grownBy w' (some g) ∧ RS w' ∧ ∀ i v, i ≠ s → R i w v → R i w' v
theorem wpAny_store (frame : (Nat → Value) → Act) (w0 : World) (R : Nat → World → Value → Prop) (g s : Nat) (RS : World → Prop) (hg : g < w0.heap.size)
    (hR : ∀ i w w' v, R i w v → Below w.heap.size w w' → R i w' v)
    (hS : ∀ w w', RS w → Below w.heap.size w w' → RS w')
    (step : ∀ i xs w, i < s → Below w0.heap.size w0 w → (∀ j, j ≠ s → depB md ops i j = true → R j w (xs j)) → wpOp P ops Q i (Yields frame R xs i w) (frame xs) w)
    (step2 : ∀ i xs w, i < ops.size → s < i → (∀ j, j ≠ s → depB md ops i j = true → R j w (xs j)) → wpOp P ops Q i (Yields frame R xs i w) (frame xs) w)
    (store : ∀ xs w, Below w0.heap.size w0 w → (∀ j, j < s → R j w (xs j)) → wpOp P ops Q s (Stored frame R s RS g xs w) (frame xs) w)
    (done : ∀ xs w, w0.grownBy w (some g) → RS w → (∀ i, i < ops.size → i ≠ s → R i w (xs i)) → Q .normal (frame xs) w)
    (hs : s < ops.size) (hlast : ∀ j, j < s → depB md ops s j = true) (hops : ∀ i, i < ops.size → ∀ o, ops[i]? = some o → ∀ e ∈ o.after, e.on < i)
    (xs0 : Nat → Value) (w1 : World) (hw1 : Below w0.heap.size w0 w1) : wpAny P md ops Q ops.size (Array.replicate ops.size false) (frame xs0) w1 := by
  refine wpAny_inv (fun l a w => l.size = ops.size ∧ (l[s]? = some false → Below w0.heap.size w0 w) ∧ (l[s]? = some true → w0.grownBy w (some g) ∧ RS w ∧ ∀ j, j < s → l[j]? = some true) ∧ ∃ xs, a = frame xs ∧ ∀ i, i < ops.size → i ≠ s → l[i]? = some true → R i w (xs i)) ?_ ?_ ops.size _ _ _ (by simp)
    ⟨by simp, fun _ => hw1, fun h => by simp [hs] at h, xs0, rfl, fun i hi _ h => by simp [hi] at h⟩
  · rintro l a w ⟨hl, hf, ht, xs, rfl, hx⟩ i hi
    obtain ⟨h1, h2, h3⟩ := ready_mem hi
    have hli : l[i]? = some false := by
      rw [Array.getD_eq_getD_getElem?] at h2
      rw [Array.getElem?_eq_getElem (by omega)] at h2 ⊢
      simp at h2; rw [h2]
    have hlt : ∀ j, depB md ops i j = true → j < i := by
      intro j hj
      unfold depB at hj
      rw [Array.getElem?_eq_getElem h1] at hj
      simp only [List.any_eq_true, Bool.and_eq_true, beq_iff_eq] at hj
      obtain ⟨e, he', rfl, _⟩ := hj
      exact hops i h1 _ (Array.getElem?_eq_getElem h1) e (by simpa using he')
    have hdep : ∀ j, j ≠ s → depB md ops i j = true → R j w (xs j) := fun j hjs hj => hx j (by have := hlt j hj; omega) hjs (getD_true (depB_listed h3 hj))
    by_cases e : i = s
    · subst e
      have hall : ∀ j, j < i → l[j]? = some true := fun j hj => getD_true (depB_listed h3 (hlast j hj))
      have hb := hf hli
      refine wpOp_mono ?_ (store xs w hb (fun j hj => hx j (by omega) (by omega) (hall j hj)))
      rintro a' w' ⟨rfl, hgr, hrs, hkeep⟩
      refine ⟨by simpa using hl, fun h => ?_, fun _ => ⟨grown_trans (below_grown hb) hgr, hrs, fun j hj => ?_⟩, xs, rfl, fun j hj hjs hlj => ?_⟩
      · rw [Array.getElem?_setIfInBounds_self_of_lt (by omega)] at h; cases h
      · rw [Array.getElem?_setIfInBounds_ne (by omega)]; exact hall j hj
      · rw [Array.getElem?_setIfInBounds_ne (fun h => hjs h.symm)] at hlj
        exact hkeep j _ hjs (hx j hj hjs hlj)
    · have key : wpOp P ops Q i (Yields frame R xs i w) (frame xs) w := by
        by_cases his : i < s
        · refine step i xs w his ?_ hdep
          cases hls : l[s]? with
          | none => rw [Array.getElem?_eq_none_iff] at hls; omega
          | some b =>
            cases b
            · exact hf hls
            · have := (ht hls).2.2 i his
              rw [hli] at this; cases this
        · exact step2 i xs w h1 (by omega) hdep
      refine wpOp_mono ?_ key
      rintro a' w' ⟨v, rfl, hv, hb'⟩
      refine ⟨by simpa using hl, fun h => ?_, fun h => ?_, upd xs i v, rfl, fun j hj hjs hlj => ?_⟩
      · rw [Array.getElem?_setIfInBounds_ne e] at h
        have hb := hf h
        exact hb.trans (hb'.mono hb.size)
      · rw [Array.getElem?_setIfInBounds_ne e] at h
        obtain ⟨k1, k2, k3⟩ := ht h
        refine ⟨grown_trans k1 (below_grown hb'), hS w w' k2 hb', fun j hj => ?_⟩
        by_cases e' : i = j
        · subst e'; rw [Array.getElem?_setIfInBounds_self_of_lt (by omega)]
        · rw [Array.getElem?_setIfInBounds_ne e']; exact k3 j hj
      · by_cases e' : j = i
        · subst e'; simp only [upd, if_true]; exact hv
        · simp only [upd, if_neg e']
          rw [Array.getElem?_setIfInBounds_ne (fun h => e' h.symm)] at hlj
          exact hR j w w' _ (hx j hj hjs hlj) hb'
  · rintro l a w ⟨hl, hf, ht, xs, rfl, hx⟩ hr
    have hall : ∀ n i, i < n → i < ops.size → l[i]? = some true := by
      intro n
      induction n with
      | zero => intro i h; omega
      | succ n ih =>
        intro i hi his
        by_cases e : i < n
        · exact ih i e his
        · have hie : i = n := by omega
          subst hie
          cases h : l[i]? with
          | none => rw [Array.getElem?_eq_none_iff] at h; omega
          | some b =>
            cases b
            · exfalso
              have : i ∈ Region.ready md ops l := by
                simp only [Region.ready, List.mem_filter, List.mem_range, Bool.and_eq_true, Bool.not_eq_true']
                refine ⟨his, by rw [Array.getD_eq_getD_getElem?, h]; rfl, ?_⟩
                rw [Array.getElem?_eq_getElem his]
                simp only [Option.map_some, Option.getD_some, Array.all_eq_true_iff_forall_mem]
                intro e he
                have hlt := hops i his _ (Array.getElem?_eq_getElem his) e he
                rw [Array.getD_eq_getD_getElem?, ih e.on hlt (by omega)]
                simp
              rw [hr] at this; cases this
            · rfl
    obtain ⟨k1, k2, _⟩ := ht (hall (s + 1) s (by omega) hs)
    exact done xs w k1 k2 (fun i hi hne => hx i hi hne (hall (i + 1) i (by omega) hi))
theorem wp_region_store (frame : (Nat → Value) → Act) (w0 : World) (R : Nat → World → Value → Prop) (g s : Nat) (RS : World → Prop) {id : Nat} {a : Act} {w : World} (hm : P.follows .mixedOrders = true) (hg : g < w0.heap.size) (hs : decide (s < ops.size) = true)
    (hlast : (List.range s).all (fun j => depB .any ops s j) = true)
    (hops : ops.toList.zipIdx.all (fun p => p.1.after.all fun e => decide (e.on < p.2)) = true)
    (hR : ∀ i w w' v, R i w v → Below w.heap.size w w' → R i w' v)
    (hS : ∀ w w', RS w → Below w.heap.size w w' → RS w')
    (xs0 : Nat → Value) (ha : a = frame xs0) (hw : Below w0.heap.size w0 w)
    (step : ∀ i xs w, i < s → Below w0.heap.size w0 w → (∀ j, j ≠ s → depB .any ops i j = true → R j w (xs j)) → wpOp P ops Q i (Yields frame R xs i w) (frame xs) w)
    (step2 : ∀ i xs w, i < ops.size → s < i → (∀ j, j ≠ s → depB .any ops i j = true → R j w (xs j)) → wpOp P ops Q i (Yields frame R xs i w) (frame xs) w)
    (store : ∀ xs w, Below w0.heap.size w0 w → (∀ j, j < s → R j w (xs j)) → wpOp P ops Q s (Stored frame R s RS g xs w) (frame xs) w)
    (done : ∀ xs w, w0.grownBy w (some g) → RS w → (∀ i, i < ops.size → i ≠ s → R i w (xs i)) → Q .normal (frame xs) w) : (Code.region id ops true).wp P Q a w := by
  subst ha
  refine wp_region_any hm (wpAny_store frame w0 R g s RS hg hR hS step step2 store done (of_decide_eq_true hs) ?_ ?_ xs0 _ ?_)
  · intro j hj
    rw [List.all_eq_true] at hlast
    exact hlast j (by simpa using hj)
  · intro i hi o ho e he
    rw [List.all_eq_true] at hops
    have h := hops (o, i) (by
      rw [List.mem_zipIdx_iff_getElem?]
      simpa using ho)
    rw [Array.all_eq_true_iff_forall_mem] at h
    simpa using h e he
  · exact ⟨hw.os, hw.tape, hw.output, hw.size, hw.block⟩
end
end Go.Proofs.YtfiefglagknclaaGreatDoor

/-
  append onto a slice that the call owns, with a property of every cell of its row, the spare ones too: what holds of the old cells, of the new ones and of the zero holds of all (the library's run_append_own_at says nothing of the spare cells).
  So a slice of other cells (numbers' limbs) never lies in such a row, and stands when the row grows.
-/
namespace Go

/-- v owns the n elements xs, and every cell of its row is as q says. -/
def World.ownsQ (w : World) (q : Value → Prop) (base : Nat) (e : TypeId) (size : Nat) (v : Value) (n : Nat) (xs : List Value) : Prop :=
  xs.length = n * size ∧
  ((v = .slice none 0 0 ∧ n = 0) ∨
   ∃ g cap cur, v = .slice (some ⟨g, 0, none⟩) n cap ∧ base ≤ g ∧ w.heap[g]? = some (.cells cur e (0, 0)) ∧ n ≤ cap ∧ cap ≤ maxLen ∧ cur.size = cap * size ∧ cur.toList.take (n * size) = xs ∧ ∀ u ∈ cur.toList, q u)

section
variable {w : World} {q : Value → Prop} {base : Nat} {e : TypeId} {size : Nat} {v : Value} {n : Nat} {xs : List Value}
theorem World.ownsQ.own (h : w.ownsQ q base e size v n xs) : w.ownsRow base e size v n xs := by
  refine ⟨h.1, ?_⟩
  rcases h.2 with hn | ⟨g, cap, cur, hv, hb, hg, h1, h2, h3, h4, _⟩
  · exact .inl hn
  · exact .inr ⟨g, cap, cur, hv, hb, hg, h1, h2, h3, h4⟩
theorem World.ownsQ_nil (w : World) (q : Value → Prop) (base : Nat) (e : TypeId) (size : Nat) : w.ownsQ q base e size (.slice none 0 0) 0 [] := ⟨by simp, .inl ⟨rfl, rfl⟩⟩
theorem World.ownsQ.kept {w' : World} {row : Option Nat} (h : w.ownsQ q base e size v n xs) (hg : w.grownBy w' row) (hne : v.ownBlock = none ∨ v.ownBlock ≠ row) : w'.ownsQ q base e size v n xs := by
  refine ⟨h.1, ?_⟩
  rcases h.2 with hn | ⟨g, cap, cur, rfl, hb, hgg, rest⟩
  · exact .inl hn
  · refine .inr ⟨g, cap, cur, rfl, hb, ?_, rest⟩
    rw [hg.block g (Array.getElem?_eq_some_iff.1 hgg).1 (by simpa [Value.ownBlock] using hne)]
    exact hgg
theorem World.ownsQ.mono {base' : Nat} (h : w.ownsQ q base e size v n xs) (hb : base' ≤ base) : w.ownsQ q base' e size v n xs := by
  refine ⟨h.1, ?_⟩
  rcases h.2 with hn | ⟨g, cap, cur, hv, h1, rest⟩
  · exact .inl hn
  · exact .inr ⟨g, cap, cur, hv, by omega, rest⟩
theorem World.ownsRow.mono_ {base' : Nat} (h : w.ownsRow base e size v n xs) (hb : base' ≤ base) : w.ownsRow base' e size v n xs := by
  refine ⟨h.1, ?_⟩
  rcases h.2 with hn | ⟨g, cap, cur, hv, h1, rest⟩
  · exact .inl hn
  · exact .inr ⟨g, cap, cur, hv, by omega, rest⟩
/-- No cell of another kind lies in the row. -/
theorem World.ownsQ.apart (h : w.ownsQ q base e size v n xs) {a : Addr} {u : Value} (hc : w.cell? a = some u) (hu : ¬ q u) (hr : a.spot = none := by rfl) : v.ownBlock ≠ some a.block := by
  rcases h.2 with ⟨rfl, _⟩ | ⟨g, cap, cur, rfl, hb, hg, h1, h2, h3, h4, hq⟩
  · simp [Value.ownBlock]
  · intro he
    simp only [Value.ownBlock] at he
    injection he with he
    obtain ⟨b, off, r⟩ := a
    simp only at he hr
    subst he hr
    rw [cell_of_row w _ off cur e (0, 0) hg] at hc
    exact hu (hq u (Array.mem_toList_iff.2 (Array.mem_of_getElem? hc)))
end

section
variable {P : Program} (w : World)
theorem mem_zeroCells {z : Array Value} {n : Nat} {u : Value} (h : u ∈ (Builtin.zeroCells z n).toList) : u ∈ z.toList := by
  unfold Builtin.zeroCells at h
  simp only [Array.toList_map, Array.toList_range, List.mem_map, List.mem_range] at h
  obtain ⟨i, hi, rfl⟩ := h
  have hz : 0 < z.size := by
    rcases Nat.eq_zero_or_pos z.size with h0 | h0
    · rw [h0] at hi; simp at hi
    · exact h0
  have hlt : i % z.size < z.size := Nat.mod_lt _ hz
  rw [getElem!_pos z _ hlt]
  simp
theorem run_append_ownQ (q : Value → Prop) (base : Nat) (t ty e : TypeId) (i : TypeInfo) (z : Value) (size bytes : Nat) (ht : P.underlying t = some (.slice e)) (hi : P.info? e = some i) (hz : i.zero = some z)
    (hsize : i.size = size) (hby : i.bytes = bytes) (hzs : z.cells.size = size) (hsz : 0 < size) (hzq : ∀ u ∈ z.cells.toList, q u)
    (v : Value) (n : Nat) (xs : List Value) (hown : w.ownsQ q base e size v n xs)
    (a : Addr) (m c : Nat) (news : List Value) (hl : news.length = m * size) (hnews : ∀ j u, news[j]? = some u → w.cell? (a.add j) = some u) (h1 : ∀ u ∈ news, u.oneCell' = true) (hq : ∀ u ∈ news, q u)
    (h63 : n + m ≤ maxLen) (hbytes : (n + m) * bytes ≤ 140737488355328) (hbase : base ≤ w.heap.size) :
    ∃ v' w', (Builtin.append_ #[t, t] ty #[v, .slice (some a) m c]).run P w = .ok v' w' ∧ w'.ownsQ q base e size v' (n + m) (xs ++ news) ∧ w.grownBy w' v.ownBlock ∧
      (v' = .slice none 0 0 ↔ v = .slice none 0 0 ∧ m = 0) ∧ (v'.ownBlock = v.ownBlock ∨ v'.ownBlock = some w.heap.size) := by
  subst hsize
  subst hby
  have hsmall : n + m ≤ 9223372036854775807 := by simp only [maxLen] at h63; omega
  have hlen : (xs ++ news).length = (n + m) * i.size := by rw [List.length_append, hown.1, hl, Nat.add_mul]
  have grown : (∀ u ∈ xs, q u) → ∀ (old : Nat), old < n + m → ∀ (row : Option Nat),
      (w.drew.alloc (.cells (xs.toArray ++ news.toArray ++ Builtin.zeroCells z.cells (grownCap w (n + m) old e - (n + m))) e)).ownsQ q base e i.size
        (.slice (some ⟨w.heap.size, 0, none⟩) (n + m) (grownCap w (n + m) old e)) (n + m) (xs ++ news) ∧
      w.grownBy (w.drew.alloc (.cells (xs.toArray ++ news.toArray ++ Builtin.zeroCells z.cells (grownCap w (n + m) old e - (n + m))) e)) row := by
    intro hxq old ho row
    have hge := grownCap_ge w (n + m) old e
    have hcm : grownCap w (n + m) old e ≤ maxLen := grownCap_le_maxLen w (n + m) old e h63
    refine ⟨⟨hlen, .inr ⟨w.heap.size, _, _, rfl, hbase, heap_alloc_new w.drew _, hge, hcm, ?_, ?_, ?_⟩⟩, ⟨rfl, rfl, rfl, by simp, fun k hk _ => RowKit.Below.heap_alloc w.drew _ k hk⟩⟩
    · simp only [Array.size_append, List.size_toArray, size_zeroCells, hzs, hown.1, hl, ← Nat.add_mul]
      congr 1
      omega
    · simp only [Array.toList_append, List.append_assoc]
      rw [← List.append_assoc, ← hlen]
      exact List.take_left
    · intro u hu
      simp only [Array.toList_append, List.mem_append] at hu
      rcases hu with (hu | hu) | hu
      · exact hxq u hu
      · exact hq u hu
      · exact hzq u (mem_zeroCells hu)
  rcases hown.2 with ⟨rfl, rfl⟩ | ⟨g, cap, cur, rfl, hbg, hg, hnc, hcm, hcs, htake, hcq⟩
  · have hx : xs = [] := List.eq_nil_of_length_eq_zero (by simpa using hown.1)
    subst hx
    by_cases hm : m = 0
    · subst hm
      have hn : news = [] := List.eq_nil_of_length_eq_zero (by simpa using hl)
      subst hn
      refine ⟨.slice none 0 0, w, ?_, World.ownsQ_nil w q base e i.size, ⟨rfl, rfl, rfl, Nat.le_refl _, fun _ _ _ => rfl⟩, by simp, Or.inl rfl⟩
      simp [Builtin.append_, run_underlying ht, sizeOf, typeInfo, hi, Builtin.lenOf, Builtin.firstCells, loadCells, loadCellsFrom]
    · have hr := run_append_nil (P := P) w t ty e i z ht hi hz a m c news hl hnews (by omega) (by omega) (by have hb := hbytes; simp only [Nat.zero_add] at hb; omega)
      have hgr := grown (by simp) 0 (by omega) (Value.ownBlock (.slice none 0 0))
      simp only [Nat.zero_add, List.nil_append, Array.empty_append] at hgr ⊢
      exact ⟨_, _, hr, hgr.1, hgr.2, by simp [hm], Or.inr rfl⟩
  · by_cases hroom : n + m ≤ cap
    · have hfit : n * i.size + news.length ≤ cur.size := by rw [hl, hcs, ← Nat.add_mul]; exact Nat.mul_le_mul_right _ hroom
      have hr := run_append_room (P := P) w t ty e i ht hi g n cap cur hg a m c news hl hnews h1 hroom hfit
      refine ⟨_, _, hr, ⟨hlen, .inr ⟨g, cap, _, rfl, hbg, setRow_heap w g cur _ e _ hg, hroom, hcm, ?_, ?_, ?_⟩⟩, ⟨rfl, rfl, rfl, by simp, fun k _ hk => setRow_other w g k _ (fun e => hk (by simp [Value.ownBlock, e]))⟩, by simp, Or.inl rfl⟩
      · simp only [List.size_toArray, List.length_append, List.length_take, List.length_drop, Array.length_toList]
        omega
      · rw [htake, ← hlen]
        exact List.take_left
      · intro u hu
        simp only [List.mem_append] at hu
        rcases hu with (hu | hu) | hu
        · exact hcq u (List.mem_of_mem_take hu)
        · exact hq u hu
        · exact hcq u (List.mem_of_mem_drop hu)
    · have holds : ∀ j u, xs[j]? = some u → w.cell? ((⟨g, 0, none⟩ : Addr).add j) = some u := hown.own.cells (g := g) rfl
      have hr := run_append_grow (P := P) w t ty e i z ht hi hz ⟨g, 0, none⟩ n cap xs hown.1 holds a m c news hl hnews (by omega) (by omega) (growslice_fits (by omega) hbytes)
      have hgr := grown (fun u hu => hcq u (List.mem_of_mem_take (by rw [htake]; exact hu))) cap (by omega) (Value.ownBlock (.slice (some ⟨g, 0, none⟩) n cap))
      exact ⟨_, _, hr, hgr.1, hgr.2, by simp, Or.inr rfl⟩

theorem wp_append_ownQ {o : Oper} {a : Act} {K : Act → World → Prop} {Q : Exit → Act → World → Prop} (s x : Operand) (t : TypeId)
    (ho : o.op = .call { callee := .builtin .append, args := #[s, x], argTypes := #[t, t] })
    (q : Value → Prop) (base : Nat) (e : TypeId) (i : TypeInfo) (z : Value) (size bytes : Nat) (ht : P.underlying t = some (.slice e)) (hi : P.info? e = some i) (hz : i.zero = some z)
    (hsize : i.size = size) (hby : i.bytes = bytes) (hzs : z.cells.size = size) (hsz : 0 < size) (hzq : ∀ u ∈ z.cells.toList, q u)
    (v : Value) (n : Nat) (xs : List Value) (hs : a.eval s = v) (hown : w.ownsQ q base e size v n xs)
    (ad : Addr) (m c : Nat) (news : List Value) (hx : a.eval x = .slice (some ad) m c) (hl : news.length = m * size) (hnews : ∀ j u, news[j]? = some u → w.cell? (ad.add j) = some u) (h1 : ∀ u ∈ news, u.oneCell' = true) (hq : ∀ u ∈ news, q u)
    (h63 : n + m ≤ maxLen) (hbytes : (n + m) * bytes ≤ 140737488355328) (hbase : base ≤ w.heap.size)
    (h : ∀ v' w', w'.ownsQ q base e size v' (n + m) (xs ++ news) → w.grownBy w' v.ownBlock → (v' = .slice none 0 0 ↔ v = .slice none 0 0 ∧ m = 0) → (v'.ownBlock = v.ownBlock ∨ v'.ownBlock = some w.heap.size) → K (a.put o.dst v') w') : o.wp P a w K Q := by
  obtain ⟨v', w', hr, h2, h3, h4, h5⟩ := run_append_ownQ (P := P) w q base t o.type e i z size bytes ht hi hz hsize hby hzs hsz hzq v n xs hown ad m c news hl hnews h1 hq h63 hbytes hbase
  unfold Oper.wp execOp
  simp only [ho, resolve, invoke, builtin, Sem.run_bind, Sem.run_pure, Result.andThen_ok, List.map_toArray, List.map_cons, List.map_nil, hs, hx, hr]
  exact h v' w' h2 h3 h4 h5
theorem wpList_append_ownQ {ops : Array Oper} {rest : List Oper} {o : Oper} {a : Act} {Q : Exit → Act → World → Prop} (hgd : o.guard = none) (s x : Operand) (t : TypeId)
    (ho : o.op = .call { callee := .builtin .append, args := #[s, x], argTypes := #[t, t] })
    (q : Value → Prop) (base : Nat) (e : TypeId) (i : TypeInfo) (z : Value) (size bytes : Nat) (ht : P.underlying t = some (.slice e)) (hi : P.info? e = some i) (hz : i.zero = some z)
    (hsize : i.size = size) (hby : i.bytes = bytes) (hzs : z.cells.size = size) (hsz : 0 < size) (hzq : ∀ u ∈ z.cells.toList, q u)
    (v : Value) (n : Nat) (xs : List Value) (hs : a.eval s = v) (hown : w.ownsQ q base e size v n xs)
    (ad : Addr) (m c : Nat) (news : List Value) (hx : a.eval x = .slice (some ad) m c) (hl : news.length = m * size) (hnews : ∀ j u, news[j]? = some u → w.cell? (ad.add j) = some u) (h1 : ∀ u ∈ news, u.oneCell' = true) (hq : ∀ u ∈ news, q u)
    (h63 : n + m ≤ maxLen) (hbytes : (n + m) * bytes ≤ 140737488355328) (hbase : base ≤ w.heap.size)
    (h : ∀ v' w', w'.ownsQ q base e size v' (n + m) (xs ++ news) → w.grownBy w' v.ownBlock → (v' = .slice none 0 0 ↔ v = .slice none 0 0 ∧ m = 0) → (v'.ownBlock = v.ownBlock ∨ v'.ownBlock = some w.heap.size) → wpList P ops Q rest (a.put o.dst v') w') : wpList P ops Q (o :: rest) a w :=
  wpList_plain hgd fun _ hK => wp_append_ownQ w s x t ho q base e i z size bytes ht hi hz hsize hby hzs hsz hzq v n xs hs hown ad m c news hx hl hnews h1 hq h63 hbytes hbase fun v' w' h2 h3 h4 h5 => hK _ _ (h v' w' h2 h3 h4 h5)
end
end Go

/-
  digits.leading and scrimref05.digits: how many digits stand at a text's beginning, or from a place on.
-/
namespace Go.Proofs.YtfiefglagknclaaGreatDoor
open Go.RowKit
set_option maxHeartbeats 1000000
set_option maxRecDepth 100000
set_option linter.unusedVariables false

theorem lead_step {s : List UInt8} {k : Nat} (hl : k ≤ Dg.lead s) (h : k < s.length) (hd : Dg.dB s[k] = true) : k + 1 ≤ Dg.lead s := by
  rcases Nat.lt_or_ge k (Dg.lead s) with h1 | h1
  · omega
  · have e : Dg.lead s = k := by omega
    have := Dg.lead_not (s := s) (by omega)
    simp only [e] at this
    rw [hd] at this; cases this
theorem lead_stop {s : List UInt8} {k : Nat} (hl : k ≤ Dg.lead s) (h : k < s.length) (hd : Dg.dB s[k] = false) : Dg.lead s = k := by
  rcases Nat.lt_or_ge k (Dg.lead s) with h1 | h1
  · obtain ⟨h2, h3⟩ := Dg.lead_dig h1
    rw [hd] at h3; cases h3
  · omega
theorem dB_nat {b : UInt8} {y : Nat} (h : y = b.toNat) : Dg.dB b = decide (48 ≤ y ∧ y ≤ 57) := by unfold Dg.dB; rw [h]

theorem leading_any (s : List UInt8) (w : World) (hs : s.length ≤ 1000000) :
    Calls Tryz.prog 22 #[.string ⟨s.toArray⟩] w fun e w' => e = .returned (.int .i64 (Dg.lead s : Int)) ∧ w = w' := by
  have hsz : (⟨s.toArray⟩ : ByteArray).size = s.length := rfl
  have HSZ := Lib.hid hsz
  go_enter Tryz.func22, Tryz.ntmps22
  go_wp2
  go_loop [3] (fun i => ∃ k : Nat, k ≤ s.length ∧ i = .int .i64 (k : Int) ∧ Hid (k ≤ Dg.lead s)) (fun i => s.length - (intOf i).toNat)
  case atStart => exact ⟨0, Nat.zero_le _, rfl, Lib.hid (Nat.zero_le _)⟩
  case round =>
    obtain ⟨k, hk, rfl, H⟩ := hrel
    by_cases hlt : k < s.length
    · obtain ⟨y, hy⟩ : ∃ y, y = s[k].toNat := ⟨_, rfl⟩
      have hgy : ((⟨s.toArray⟩ : ByteArray)[k]'(show k < (⟨s.toArray⟩ : ByteArray).size from hlt)).toNat = y := hy.symm
      have HD := Lib.hid (dB_nat hy)
      have H1 := Lib.hid (fun h => lead_step H.out hlt h)
      have H2 := Lib.hid (fun h => lead_stop H.out hlt h)
      clear hy
      by_cases h1 : 48 ≤ y
      · by_cases h2 : y ≤ 57
        · go_wp2
          go_round
          case rel => exact ⟨k + 1, by omega, by go_num, Lib.hid (H1.out (by rw [HD.out]; exact decide_eq_true ⟨h1, h2⟩))⟩
          case measure => simp [intOf]; omega
        · go_wp2
          go_ret
          exact ⟨ret_int (by rw [H2.out (by rw [HD.out]; exact decide_eq_false (by omega))]), rfl⟩
      · go_wp2
        go_ret
        exact ⟨ret_int (by rw [H2.out (by rw [HD.out]; exact decide_eq_false (by omega))]), rfl⟩
    · have e : k = s.length := by omega
      have HE := Lib.hid (show Dg.lead s = k by have := Dg.lead_le s; have := H.out; omega)
      clear e
      go_wp2
      go_ret
      exact ⟨ret_int (by rw [HE.out]), rfl⟩

theorem lead_drop_at {s : List UInt8} {a k : Nat} (h : a + k < s.length) : (s.drop a)[k]'(by rw [List.length_drop]; omega) = s[a + k] := by rw [List.getElem_drop]
theorem refDigits_any (s : List UInt8) (a : Nat) (w : World) (hs : s.length ≤ 1000000) (ha : a ≤ s.length) :
    Calls Tryz.prog 124 #[.string ⟨s.toArray⟩, .int .i64 (a : Int)] w fun e w' => e = .returned (.int .i64 (Dg.lead (s.drop a) : Int)) ∧ w = w' := by
  have hsz : (⟨s.toArray⟩ : ByteArray).size = s.length := rfl
  have HSZ := Lib.hid hsz
  go_enter Tryz.func124, Tryz.ntmps124
  go_wp2
  go_loop [5] (fun i => ∃ k : Nat, a + k ≤ s.length ∧ i = .int .i64 (k : Int) ∧ Hid (k ≤ Dg.lead (s.drop a))) (fun i => s.length - (intOf i).toNat)
  case atStart => exact ⟨0, ha, rfl, Lib.hid (Nat.zero_le _)⟩
  case round =>
    obtain ⟨k, hk, rfl, H⟩ := hrel
    by_cases hlt : a + k < s.length
    · obtain ⟨y, hy⟩ : ∃ y, y = s[a + k].toNat := ⟨_, rfl⟩
      have hgy : ((⟨s.toArray⟩ : ByteArray)[a + k]'(show a + k < (⟨s.toArray⟩ : ByteArray).size from hlt)).toNat = y := hy.symm
      have hld : k < (s.drop a).length := by rw [List.length_drop]; omega
      have hy2 : y = ((s.drop a)[k]).toNat := by rw [lead_drop_at hlt]; exact hy
      have HD := Lib.hid (dB_nat hy2)
      have H1 := Lib.hid (fun h => lead_step H.out hld h)
      have H2 := Lib.hid (fun h => lead_stop H.out hld h)
      clear hy hy2
      by_cases h1 : 48 ≤ y
      · by_cases h2 : y ≤ 57
        · go_wp2
          go_round
          case rel => exact ⟨k + 1, by omega, by go_num, Lib.hid (H1.out (by rw [HD.out]; exact decide_eq_true ⟨h1, h2⟩))⟩
          case measure => simp [intOf]; omega
        · go_wp2
          go_ret
          exact ⟨ret_int (by rw [H2.out (by rw [HD.out]; exact decide_eq_false (by omega))]), rfl⟩
      · go_wp2
        go_ret
        exact ⟨ret_int (by rw [H2.out (by rw [HD.out]; exact decide_eq_false (by omega))]), rfl⟩
    · have HE := Lib.hid (show Dg.lead (s.drop a) = k by have := Dg.lead_le (s.drop a); have := H.out; rw [List.length_drop] at *; omega)
      go_wp2
      go_ret
      exact ⟨ret_int (by rw [HE.out]), rfl⟩
end Go.Proofs.YtfiefglagknclaaGreatDoor

/-
  Whole numbers and ratios of the program: ratio.isOne, whole.signed, whole.Norm, ratio.top, ratio.Int. (Printed by wip/bin/gen_dig1.py.)
-/
namespace Go.Proofs.YtfiefglagknclaaGreatDoor
open Go.RowKit
set_option maxHeartbeats 4000000
set_option maxRecDepth 100000
set_option linter.unusedVariables false

theorem isOne_any (v : Value) (l : List Nat) (w : World) (h : IsRes w v l) :
    Calls Tryz.prog 49 #[v] w fun e w' => e = .returned (.bool (l == [1])) ∧ w = w' := by
  obtain ⟨A, c, rfl, h1, h2, h3, h4⟩ := h
  by_cases hl : l.length = 1
  · obtain ⟨x, rfl⟩ : ∃ x, l = [x] := by
      match l, hl with
      | [x], _ => exact ⟨x, rfl⟩
    obtain ⟨b, off, rfl, hb, g0⟩ := h4.at_ (k := 0) (by simp [U])
    have g1 : w.cell? ⟨b, off, none⟩ = some (.int .u32 (x : Int)) := by simpa [U] using g0
    have HQ : Hid (([x] == [1]) = (x == 1)) := Lib.hid (by simp [List.cons_beq_cons])
    have hlen : ([x] : List Nat).length = 1 := rfl
    clear g0 h4 h3 hl hlen
    by_cases hx : x = 1
    · subst hx
      go_enter Tryz.func49, Tryz.ntmps49
      go_wp2_with fail
      go_ret
      exact ⟨ret_bool (by rw [HQ.out]; rfl), rfl⟩
    · have q : ((x : Int) == 1) = false := beq_eq_false_iff_ne.2 (by omega)
      have HQ2 : Hid ((x == 1) = false) := Lib.hid (beq_eq_false_iff_ne.2 hx)
      clear hx
      go_enter Tryz.func49, Tryz.ntmps49
      go_wp2_with fail
      go_ret
      exact ⟨ret_bool (by rw [HQ.out, HQ2.out]), rfl⟩
  · have q : ((l.length : Int) == 1) = false := beq_eq_false_iff_ne.2 (by omega)
    have HQ : Hid ((l == [1]) = false) := Lib.hid (by
      rw [beq_eq_false_iff_ne]; rintro rfl; exact hl rfl)
    clear hl h4
    generalize l.length = n at *
    go_enter Tryz.func49, Tryz.ntmps49
    go_wp2_with fail
    go_ret
    exact ⟨ret_bool (by rw [HQ.out]), rfl⟩

/-- A whole number, made anew. -/
def WholeOut (w : World) (n : Bool) (l : List Nat) (e : Ending) (w' : World) : Prop := ∃ v, e = .returned (.agg #[.bool n, v]) ∧ IsRes w' v l ∧ Below w.heap.size w w'
theorem whole2_info : (Tryz.prog.info? 57).map (·.size) = some 2 := by kernel_rfl

theorem signed_any (n : Bool) (v : Value) (l : List Nat) (w : World) (h : IsRes w v l) :
    Calls Tryz.prog 120 #[.bool n, v] w (WholeOut w (n && !(l == [])) l) := by
  have HR := Lib.hid h
  obtain ⟨A, c, rfl, h1, h2, h3, h4⟩ := h
  have HI2 : Hid (∀ (b : Bool) (A : Option Addr) (k c : Nat), (Tryz.prog.info? 57).map (·.size) = some (#[.bool b, .slice A k c] : Array Value).size) := Lib.hid (fun _ _ _ _ => whole2_info)
  have HG1 : Hid (∀ o, (w.alloc o).heap[w.heap.size]? = some o) := Lib.hid (fun o => heap_alloc_new w o)
  have hb : ∀ o, Below w.heap.size w (w.alloc o) := fun o => (Below.refl _ _).alloc (Nat.le_refl _) _
  have HB := Lib.hid hb
  clear h3 h4 hb
  by_cases hl : l.length = 0
  · have q : ((l.length : Int) == 0) = true := beq_iff_eq.2 (by omega)
    have HL : Hid (l = []) := Lib.hid (List.eq_nil_of_length_eq_zero hl)
    clear hl
    go_enter Tryz.func120, Tryz.ntmps120
    go_wp2_with (with_reducible refine wpList_store_row rfl 57 (.tmp 4) (.tmp 8) rfl w.heap.size #[.bool false, .slice none 0 0] rfl rfl 57 #[.bool false, .slice none 0 0] (HG1.out _) (HI2.out _ _ _ _) rfl (two_one _ _ _ _) ?_)
    refine bodyPost_ret (results_cell_row (by rfl) _ _ w.heap.size 57 #[.bool false, .slice none 0 0] (0, 0) _ (by rfl) (rheap_same (HG1.out _)) Tryz.underlying57 rfl (HI2.out _ _ _ _)) rfl ⟨.slice none 0 0, by rw [HL.out]; simp, by rw [HL.out]; exact IsRes.none_ _, rBelow.setRow (HB.out _) (Nat.le_refl _) _⟩
  · have q : ((l.length : Int) == 0) = false := beq_eq_false_iff_ne.2 (by omega)
    have HL : Hid ((l == []) = false) := Lib.hid (by rw [beq_eq_false_iff_ne]; rintro rfl; exact hl rfl)
    clear hl
    go_enter Tryz.func120, Tryz.ntmps120
    go_wp2_with (with_reducible refine wpList_store_row rfl 57 (.tmp 4) (.tmp 11) rfl w.heap.size #[.bool n, .slice A l.length c] rfl rfl 57 #[.bool false, .slice none 0 0] (HG1.out _) (HI2.out _ _ _ _) rfl (two_one _ _ _ _) ?_)
    refine bodyPost_ret (results_cell_row (by rfl) _ _ w.heap.size 57 #[.bool n, .slice A l.length c] (0, 0) _ (by rfl) (rheap_same (HG1.out _)) Tryz.underlying57 rfl (HI2.out _ _ _ _)) rfl ⟨.slice A l.length c, by rw [HL.out]; simp, (HR.out.below (HB.out _)).setRow (HG1.out _) (two_no_int _ _ _ _) _, rBelow.setRow (HB.out _) (Nat.le_refl _) _⟩
end Go.Proofs.YtfiefglagknclaaGreatDoor

/-
  Whole numbers and ratios of the program: whole.Norm, ratio.top, ratio.Int. (Printed by wip/bin/gen_dig2.py.)
-/
namespace Go.Proofs.YtfiefglagknclaaGreatDoor
open Go.RowKit
set_option maxHeartbeats 4000000
set_option maxRecDepth 100000
set_option linter.unusedVariables false

theorem nrm_digs (n : Bool) (x : Nat) : (n && !(Nt.digs x == [])) = Rt.nrm n x := by
  unfold Rt.nrm
  congr 2
  rw [Bool.eq_iff_iff]
  simp only [beq_iff_eq]
  exact Nt.digs_nil_iff
theorem wNorm_res {w : World} {v : Value} {l : List Nat} (h1 : IsRes w v l) (o1 : Nt.Ok l) (s1 : l.length ≤ 1000000) :
    Calls Tryz.prog 48 #[v] w fun e w' => ∃ v, e = .returned v ∧ IsRes w' v (Nt.digs (Nt.val l)) ∧ Below w.heap.size w w' := by
  obtain ⟨A, c, rfl, a1, a2, a3, a4⟩ := h1
  have hd := Nt.digs_len_le o1
  refine (norm_any A c w.heap.size l w a4 (Nat.le_refl _) o1 a1 a2 (by omega)).mono ?_
  rintro e w' ⟨rfl, r, hb'⟩
  exact ⟨_, rfl, ⟨_, _, rfl, Nat.le_refl _, by omega, (fun h => by cases h), r.lies⟩, hb'⟩
def frameWN (g : Nat) (n : Bool) (V : Value) (xs : Nat → Value) : Act := { tmps := #[.agg #[.bool n, V], .pointer (some ⟨g, 0, none⟩), .pointer (some ⟨g + 1, 0, none⟩), xs 0, xs 1, xs 2, xs 3, xs 4, xs 5], defers := [] }
def predWN (g : Nat) (n : Bool) (V : Value) (l : List Nat) : Nat → World → Value → Prop
  | 0, w, v => v = .pointer (some ⟨g, 0, none⟩)
  | 1, w, v => v = .bool n
  | 2, w, v => v = .pointer (some ⟨g, 1, none⟩)
  | 3, w, v => v = V
  | 4, w, v => IsRes w v (Nt.digs (Nt.val l))
  | _, w, v => ∃ u, v = .agg #[.bool (Rt.nrm n (Nt.val l)), u] ∧ IsRes w u (Nt.digs (Nt.val l))

theorem wholeNorm_any (n : Bool) (v : Value) (l : List Nat) (w : World) (h : IsRes w v l) (ho : Nt.Ok l) (hs : l.length ≤ 1000000) :
    Calls Tryz.prog 98 #[.agg #[.bool n, v]] w (WholeOut w (Rt.nrm n (Nt.val l)) (Nt.digs (Nt.val l))) := by
  obtain ⟨g, hg⟩ : ∃ g, g = w.heap.size := ⟨_, rfl⟩
  obtain ⟨W, hW⟩ : ∃ W, W = (w.alloc (.cells #[.bool n, v] 57)).alloc (.cells #[.bool false, .slice none 0 0] 57) := ⟨_, rfl⟩
  have hWs : W.heap.size = g + 1 + 1 := by rw [hW, hg]; simp
  have hWb : Below g w W := by rw [hW, hg]; exact ((Below.refl _ _).alloc (Nat.le_refl _) _).alloc (by simp) _
  have hW0 : W.heap[g]? = some (.cells #[.bool n, v] 57 (0, 0)) := by rw [hW, hg]; exact heap_alloc2_old _ _ _
  have HW1 : Hid (W.heap[g + 1]? = some (.cells #[.bool false, .slice none 0 0] 57 (0, 0))) := Lib.hid (by rw [hW, hg]; exact heap_alloc2_new _ _ _)
  have HQ : Hid (∀ wx, Below W.heap.size W wx → wx.cell? ⟨g, 0, none⟩ = some (.bool n) ∧ wx.cell? ⟨g, 1, none⟩ = some v) := Lib.hid (fun wx hx => by
    have hb := (hx.block g (by omega)).trans hW0
    exact ⟨(cell_of_row wx g 0 _ _ _ hb).trans rfl, (cell_of_row wx g 1 _ _ _ hb).trans rfl⟩)
  have hrb : ∀ wx, Below W.heap.size W wx → IsRes wx v l := fun wx hx => (h.below (by rw [← hg]; exact hWb)).below hx
  have NN := Lib.hid (fun (wx : World) (hx : Below W.heap.size W wx) => wNorm_res (hrb wx hx) ho hs)
  have SG : Hid (∀ (wx : World) (u : Value), IsRes wx u (Nt.digs (Nt.val l)) → Calls Tryz.prog 120 #[.bool n, u] wx (WholeOut wx (Rt.nrm n (Nt.val l)) (Nt.digs (Nt.val l)))) := Lib.hid (fun wx u hu => by
    have := signed_any n u _ wx hu
    rwa [nrm_digs] at this)
  have HI2 : Hid (∀ (b : Bool) (A : Option Addr) (k c : Nat), (Tryz.prog.info? 57).map (·.size) = some (#[.bool b, .slice A k c] : Array Value).size) := Lib.hid (fun _ _ _ _ => whole2_info)
  have HW := Lib.hid hW
  have HG := Lib.hid hg
  have hgl : g + 1 < W.heap.size := by omega
  obtain ⟨A, c, rfl, -⟩ := h
  clear hW hW0 hrb hWs
  go_enter Tryz.func98, Tryz.ntmps98
  go_wp2_with fail
  rw [← HW.out, ← hg]
  clear hg
  refine wp_region_last (frameWN g n (.slice A l.length c)) W (predWN g n (.slice A l.length c) l) 6 (by kernel_rfl) (by rfl) ?_ (by kernel_rfl) (by kernel_rfl) (fun _ => undef) rfl (Below.refl _ _) ?_ ?_
  · intro i w1 w2 v hv hb
    match i with
    | 0 => exact hv
    | 1 => exact hv
    | 2 => exact hv
    | 3 => exact hv
    | 4 => exact hv.below hb
    | i + 5 => exact (by obtain ⟨u, e, r⟩ := hv; exact ⟨u, e, r.below hb⟩)
  · intro i xs w1 hi hb hdep
    have hi6 : i < 6 := hi
    clear hi
    rcases (show i = 0 ∨ i = 1 ∨ i = 2 ∨ i = 3 ∨ i = 4 ∨ i = 5 by omega) with rfl | rfl | rfl | rfl | rfl | rfl
    · refine wpOp_at rfl rfl ?_
      unfold frameWN Oper.wp
      go_simp
      exact ⟨_, by simp only [frameWN, upd]; simp [Act.put], rfl, Below.refl _ _⟩
    · have h0 : xs 0 = .pointer (some ⟨g, 0, none⟩) := hdep 0 (by kernel_rfl)
      refine wpOp_at rfl rfl ?_
      have q := (HQ.out w1 hb).1
      unfold frameWN Oper.wp
      simp only [h0]
      go_simp
      exact ⟨_, by simp only [frameWN, upd]; simp [Act.put, h0], rfl, Below.refl _ _⟩
    · refine wpOp_at rfl rfl ?_
      unfold frameWN Oper.wp
      go_simp
      exact ⟨_, by simp only [frameWN, upd]; simp [Act.put], rfl, Below.refl _ _⟩
    · have h2 : xs 2 = .pointer (some ⟨g, 1, none⟩) := hdep 2 (by kernel_rfl)
      refine wpOp_at rfl rfl ?_
      have q := (HQ.out w1 hb).2
      unfold frameWN Oper.wp
      simp only [h2]
      go_simp
      exact ⟨_, by simp only [frameWN, upd]; simp [Act.put, h2], rfl, Below.refl _ _⟩
    · have h3 : xs 3 = (.slice A l.length c) := hdep 3 (by kernel_rfl)
      refine wpOp_at rfl rfl ?_
      unfold frameWN Oper.wp
      simp only [h3]
      go_simp
      refine (NN.out w1 hb).mono ?_
      rintro e w2 ⟨v', rfl, hr, hb2⟩
      exact ⟨_, by simp only [frameWN, upd]; simp [Act.put, h3], hr, hb2⟩
    · have h1 : xs 1 = .bool n := hdep 1 (by kernel_rfl)
      have r4 : IsRes w1 (xs 4) (Nt.digs (Nt.val l)) := hdep 4 (by kernel_rfl)
      refine wpOp_at rfl rfl ?_
      unfold frameWN Oper.wp
      simp only [h1]
      go_simp
      refine (SG.out w1 _ r4).mono ?_
      rintro e w2 ⟨u, rfl, hr, hb2⟩
      exact ⟨_, by simp only [frameWN, upd]; simp [Act.put, h1], ⟨u, rfl, hr⟩, hb2⟩
  · intro xs w1 hb hx
    obtain ⟨u, h5, r5⟩ : ∃ u, xs 5 = .agg #[.bool (Rt.nrm n (Nt.val l)), u] ∧ IsRes w1 u (Nt.digs (Nt.val l)) := hx 5 (by decide)
    clear hx
    have HR := Lib.hid r5
    obtain ⟨A5, c5, rfl, -⟩ := r5
    have HG1 := Lib.hid ((hb.block (g + 1) (by omega)).trans HW1.out)
    refine wpOp_at rfl rfl ?_
    refine wp_store_row 57 (.tmp 2) (.tmp 8) rfl (g + 1) #[.bool (Rt.nrm n (Nt.val l)), .slice A5 (Nt.digs (Nt.val l)).length c5] rfl (by unfold frameWN; simp only [h5]; rfl) 57 #[.bool false, .slice none 0 0] HG1.out (HI2.out _ _ _ _) rfl (two_one _ _ _ _) ?_
    have hbf := rBelow.setRow (hWb.trans (hb.mono (by omega))) (show g ≤ g + 1 by omega) #[.bool (Rt.nrm n (Nt.val l)), .slice A5 (Nt.digs (Nt.val l)).length c5]
    unfold frameWN
    go_wp2_with fail
    refine bodyPost_ret (results_cell_row (by rfl) _ _ (g + 1) 57 #[.bool (Rt.nrm n (Nt.val l)), .slice A5 (Nt.digs (Nt.val l)).length c5] (0, 0) _ (by rfl) (rheap_same HG1.out) Tryz.underlying57 rfl (HI2.out _ _ _ _)) rfl ⟨_, rfl, HR.out.setRow HG1.out (two_no_int _ _ _ _) _, ?_⟩
    rw [← HG.out]; exact hbf
end Go.Proofs.YtfiefglagknclaaGreatDoor

namespace Nt
/-! ### The estimate of a quotient's limb -/
/-- The parts of a number and of a divisor that the estimate looks at: V = v1 B + v2 on top of D, H B + u2 on top of R. -/
structure Est (R D p v1 v2 u0 u1 u2 : Nat) : Prop where
  d : ∃ r, r < p ∧ D = (v1 * 4294967296 + v2) * p + r
  r : ∃ s, s < p ∧ R = ((u0 * 4294967296 + u1) * 4294967296 + u2) * p + s
  v1lo : 2147483648 ≤ v1
  v1hi : v1 < 4294967296
  v2hi : v2 < 4294967296
  u1hi : u1 < 4294967296
  u2hi : u2 < 4294967296
  lt : R < 4294967296 * D
theorem Est.ppos {R D p v1 v2 u0 u1 u2 : Nat} (h : Est R D p v1 v2 u0 u1 u2) : 0 < p := by
  obtain ⟨r, hr, _⟩ := h.d; omega
theorem Est.dpos {R D p v1 v2 u0 u1 u2 : Nat} (h : Est R D p v1 v2 u0 u1 u2) : 0 < D := by
  have := h.lt; omega
theorem mul_lt_cancel {a b p : Nat} (h : a * p < b * p) : a < b := Nat.lt_of_mul_lt_mul_right h
/-- u0 is not above v1. -/
theorem Est.u0 {R D p v1 v2 u0 u1 u2 : Nat} (h : Est R D p v1 v2 u0 u1 u2) : u0 * 4294967296 + u1 ≤ v1 * 4294967296 + 4294967295 := by
  obtain ⟨r, hr, hD⟩ := h.d
  obtain ⟨s, hs, hR⟩ := h.r
  have h1 := h.lt
  have h2 : ((u0 * 4294967296 + u1) * 4294967296 + u2) * p < (4294967296 * (v1 * 4294967296 + v2) + 4294967296) * p := by
    have : (4294967296 * (v1 * 4294967296 + v2) + 4294967296) * p = 4294967296 * ((v1 * 4294967296 + v2) * p) + 4294967296 * p := by grind
    omega
  have h3 := mul_lt_cancel h2
  have := h.v2hi
  omega
/-- The quotient is below the base. -/
theorem Est.q {R D p v1 v2 u0 u1 u2 : Nat} (h : Est R D p v1 v2 u0 u1 u2) : R / D < 4294967296 := by
  rw [Nat.div_lt_iff_lt_mul h.dpos]; exact h.lt
/-- No quotient is above the first guess. -/
theorem Est.first {R D p v1 v2 u0 u1 u2 : Nat} (h : Est R D p v1 v2 u0 u1 u2) : R / D ≤ (u0 * 4294967296 + u1) / v1 := by
  obtain ⟨r, hr, hD⟩ := h.d
  obtain ⟨s, hs, hR⟩ := h.r
  have hv := h.v1lo
  rw [Nat.le_div_iff_mul_le (by omega)]
  have h1 : R / D * D ≤ R := Nat.div_mul_le_self _ _
  generalize R / D = q at *
  have hu2 := h.u2hi
  have h2 : q * v1 * (4294967296 * p) < (u0 * 4294967296 + u1 + 1) * (4294967296 * p) := by
    have e1 : q * v1 * (4294967296 * p) ≤ q * D := by
      have : q * D = q * v1 * (4294967296 * p) + q * (v2 * p + r) := by rw [hD]; grind
      omega
    have e2 : (u0 * 4294967296 + u1 + 1) * (4294967296 * p) = (u0 * 4294967296 + u1) * 4294967296 * p + 4294967296 * p := by grind
    have e3 : ((u0 * 4294967296 + u1) * 4294967296 + u2) * p = (u0 * 4294967296 + u1) * 4294967296 * p + u2 * p := by grind
    have e4 : u2 * p + p ≤ 4294967296 * p := by
      have : (u2 + 1) * p ≤ 4294967296 * p := Nat.mul_le_mul_right _ hu2
      rw [Nat.succ_mul] at this
      exact this
    omega
  have := mul_lt_cancel h2
  omega
/-- Where the test says too great, it is. -/
theorem Est.less {R D p v1 v2 u0 u1 u2 g t : Nat} (h : Est R D p v1 v2 u0 u1 u2) (hg : g * v1 + t = u0 * 4294967296 + u1) (hge : R / D ≤ g) (htest : 4294967296 ≤ g ∨ t * 4294967296 + u2 < g * v2) : R / D + 1 ≤ g := by
  rcases htest with h1 | h1
  · have := h.q; omega
  · rcases Nat.lt_or_ge (R / D) g with h2 | h2
    · exact h2
    · exfalso
      have e : R / D = g := by omega
      obtain ⟨r, hr, hD⟩ := h.d
      obtain ⟨s, hs, hR⟩ := h.r
      have h3 : g * D ≤ R := by rw [← e]; exact Nat.div_mul_le_self _ _
      have h4 : g * (v1 * 4294967296 + v2) * p < ((u0 * 4294967296 + u1) * 4294967296 + u2 + 1) * p := by
        have e1 : g * D = g * (v1 * 4294967296 + v2) * p + g * r := by rw [hD]; grind
        have e2 : ((u0 * 4294967296 + u1) * 4294967296 + u2 + 1) * p = ((u0 * 4294967296 + u1) * 4294967296 + u2) * p + p := Nat.succ_mul _ _
        omega
      have h5 := mul_lt_cancel h4
      have e3 : g * (v1 * 4294967296 + v2) = (g * v1) * 4294967296 + g * v2 := by grind
      omega
/-- Where the test says no, the guess is at most one too great. -/
theorem Est.near {R D p v1 v2 u0 u1 u2 g t : Nat} (h : Est R D p v1 v2 u0 u1 u2) (hg : g * v1 + t = u0 * 4294967296 + u1) (hlt : g < 4294967296) (htest : g * v2 ≤ t * 4294967296 + u2) : g ≤ R / D + 1 := by
  obtain ⟨r, hr, hD⟩ := h.d
  obtain ⟨s, hs, hR⟩ := h.r
  have hv := h.v1lo
  have h1 : g * (v1 * 4294967296 + v2) * p ≤ R := by
    have e3 : g * (v1 * 4294967296 + v2) = (g * v1) * 4294967296 + g * v2 := by grind
    have h2 : g * (v1 * 4294967296 + v2) ≤ (u0 * 4294967296 + u1) * 4294967296 + u2 := by omega
    have := Nat.mul_le_mul_right p h2
    omega
  have h2 : g * r ≤ 4294967295 * p := Nat.mul_le_mul (by omega) (by omega)
  have h3 : 4294967295 * p < D := by
    have : 4294967296 * p ≤ (v1 * 4294967296 + v2) * p := Nat.mul_le_mul_right _ (by omega)
    have hp := h.ppos
    omega
  have e1 : g * D = g * (v1 * 4294967296 + v2) * p + g * r := by rw [hD]; grind
  have h4 : g * D < R + D := by omega
  rcases Nat.eq_zero_or_pos g with h0 | h0
  · rw [h0]; exact Nat.zero_le _
  · have h5 : (g - 1) * D ≤ R := by
      have : g * D = (g - 1) * D + D := by
        obtain ⟨m, rfl⟩ : ∃ m, g = m + 1 := ⟨g - 1, by omega⟩
        rw [Nat.add_sub_cancel, Nat.succ_mul]
      omega
    have := (Nat.le_div_iff_mul_le h.dpos).2 h5
    omega

/-! ### So many times a divisor taken off limbs -/
/-- What holds when k limbs are done: cy what is carried of the product, b what is borrowed. -/
def TakeAt (a d : List Nat) (g : Nat) (cur : List Nat) (k cy b : Nat) : Prop :=
  cur.length = a.length ∧ Ok cur ∧ val (cur.take k) + g * val (d.take k) = val (a.take k) + (cy + b) * 4294967296 ^ k ∧ cur.drop k = a.drop k
theorem take_start {a d : List Nat} {g : Nat} (h : Ok a) : TakeAt a d g a 0 0 0 := ⟨rfl, h, by simp [val], rfl⟩
theorem take_get {a d cur : List Nat} {g k cy b : Nat} (h : TakeAt a d g cur k cy b) (hk : k < a.length) : cur[k]? = some a[k] := by
  have : (cur.drop k)[0]? = (a.drop k)[0]? := by rw [h.2.2.2]
  rw [List.getElem?_drop, List.getElem?_drop, Nat.add_zero, List.getElem?_eq_getElem hk] at this
  exact this
theorem take_step {a d cur : List Nat} {g k cy b s cy' b' t : Nat} (h : TakeAt a d g cur k cy b) (hk : k < a.length) (hd : k < d.length) (hs : s < 4294967296) (e1 : g * d[k] + cy = t + 4294967296 * cy') (e2 : a[k] + 4294967296 * b' = s + t + b) : TakeAt a d g (cur.set k s) (k + 1) cy' b' := by
  obtain ⟨h1, h2, h3, h4⟩ := h
  refine ⟨by simpa using h1, ok_set h2 hs, ?_, ?_⟩
  · rw [set_take (by omega), val_take_succ hk, val_take_succ hd, Nat.pow_succ]
    generalize 4294967296 ^ k = p at *
    generalize a[k] = x at *
    generalize d[k] = y at *
    generalize val (cur.take k) = V at *
    generalize val (d.take k) = D at *
    grind
  · rw [drop_set]
    have := congrArg (List.drop 1) h4
    rw [List.drop_drop, List.drop_drop] at this
    exact this
/-- The last limb: what was carried goes off it. -/
theorem take_end {a d cur : List Nat} {g cy b s b' : Nat} (h : TakeAt a d g cur d.length cy b) (hl : a.length = d.length + 1) (hs : s < 4294967296) (e2 : a[d.length] + 4294967296 * b' = s + cy + b) :
    (cur.set d.length s).length = a.length ∧ Ok (cur.set d.length s) ∧ val (cur.set d.length s) + g * val d = val a + b' * 4294967296 ^ (d.length + 1) := by
  obtain ⟨h1, h2, h3, h4⟩ := h
  refine ⟨by simpa using h1, ok_set h2 hs, ?_⟩
  have hc : d.length < cur.length := by omega
  have e : (cur.set d.length s).take (d.length + 1) = cur.set d.length s := List.take_of_length_le (by rw [List.length_set]; omega)
  have f : a.take (d.length + 1) = a := List.take_of_length_le (by omega)
  have k1 := set_take (x := s) hc
  rw [e] at k1
  have k2 := val_take_succ (l := a) (i := d.length) (by omega)
  rw [f] at k2
  rw [List.take_length] at h3
  rw [k1, k2, Nat.pow_succ]
  generalize 4294967296 ^ d.length = p at *
  generalize a[d.length] = x at *
  generalize val (cur.take d.length) = V at *
  grind
end Nt
