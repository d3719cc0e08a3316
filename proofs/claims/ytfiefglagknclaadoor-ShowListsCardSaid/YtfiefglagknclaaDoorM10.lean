/-
  Texts of this proof, joined (by wip/bin/bundle.py): Show1, Show2, Show3, Show4, Show5, Show6, Show7.
-/
import Derived.Test.YtfiefglagknclaaDoorM9
import Derived.Deep.MidRow
import Derived.Lib.SliceRun
/-
  Cells of small numbers in memory; scrimref08.Int: a number's cell.
-/
namespace Go.Proofs.YtfiefglagknclaaDoor
open Go.RowKit
set_option maxHeartbeats 4000000
set_option maxRecDepth 100000
set_option linter.unusedVariables false

/-- A small number, as the program keeps it. -/
def numZ (z : Int) : Rt.Nm := ⟨decide (z < 0), Nt.digs z.natAbs, [1]⟩
def cellVals (neg : Bool) (n1 n2 : Value) : List Value := [.int .u64 0, .int .i64 0, .bool neg, n1, n2, .int .i64 0, .slice none 0 0]
/-- The cells of a row of numbers. -/
def CellRows (w : World) : List Int → List Value → Prop
  | [], xs => xs = []
  | z :: zs, xs => ∃ n1 n2 r, xs = cellVals (numZ z).neg n1 n2 ++ r ∧ IsRes w n1 (numZ z).top ∧ IsRes w n2 (numZ z).bot ∧ CellRows w zs r
theorem CellRows.len {w : World} : ∀ {zs : List Int} {xs : List Value}, CellRows w zs xs → xs.length = zs.length * 7
  | [], xs, h => by have h : xs = [] := h; subst h; rfl
  | z :: zs, xs, h => by
    obtain ⟨n1, n2, r, rfl, _, _, hr⟩ := h
    rw [List.length_append, hr.len, List.length_cons, Nat.succ_mul]
    show 7 + _ = _
    omega
theorem CellRows.snoc {w : World} {z : Int} {n1 n2 : Value} (h1 : IsRes w n1 (numZ z).top) (h2 : IsRes w n2 (numZ z).bot) : ∀ {zs : List Int} {xs : List Value}, CellRows w zs xs → CellRows w (zs ++ [z]) (xs ++ cellVals (numZ z).neg n1 n2)
  | [], xs, h => by
    have h : xs = [] := h
    subst h
    exact ⟨n1, n2, [], by simp, h1, h2, rfl⟩
  | u :: zs, xs, h => by
    obtain ⟨m1, m2, r, rfl, k1, k2, hr⟩ := h
    exact ⟨m1, m2, _, by rw [List.append_assoc], k1, k2, CellRows.snoc h1 h2 hr⟩
theorem CellRows.map {w w' : World} (h1 : ∀ v ds, IsRes w v ds → IsRes w' v ds) : ∀ {zs : List Int} {xs : List Value}, CellRows w zs xs → CellRows w' zs xs
  | [], xs, h => h
  | u :: zs, xs, h => by
    obtain ⟨m1, m2, r, e, k1, k2, hr⟩ := h
    exact ⟨m1, m2, r, e, h1 _ _ k1, h1 _ _ k2, CellRows.map h1 hr⟩
theorem CellRows.below {w w' : World} {zs : List Int} {xs : List Value} (h : CellRows w zs xs) (hb : Below w.heap.size w w') : CellRows w' zs xs := h.map fun _ _ k => k.below_ hb
theorem CellRows.grown {w w' : World} {zs : List Int} {xs : List Value} (h : CellRows w zs xs) {base : Nat} {t : TypeId} {size n : Nat} {r : Value} {ys : List Value} (ho : w.ownsQ NoU base t size r n ys) (hg : w.grownBy w' r.ownBlock) : CellRows w' zs xs := h.map fun _ _ k => k.grownQ ho hg
theorem CellRows.get {w : World} : ∀ {zs : List Int} {xs : List Value}, CellRows w zs xs → ∀ (j : Nat) (hj : j < zs.length), ∃ n1 n2 pre post, xs = pre ++ (cellVals (numZ zs[j]).neg n1 n2 ++ post) ∧ pre.length = j * 7 ∧ IsRes w n1 (numZ zs[j]).top ∧ IsRes w n2 (numZ zs[j]).bot
  | [], xs, h, j, hj => absurd hj (Nat.not_lt_zero _)
  | z :: zs, xs, h, 0, hj => by
    obtain ⟨n1, n2, r, rfl, h1, h2, hr⟩ := h
    exact ⟨n1, n2, [], r, rfl, rfl, h1, h2⟩
  | z :: zs, xs, h, j + 1, hj => by
    obtain ⟨n1, n2, r, rfl, h1, h2, hr⟩ := h
    obtain ⟨m1, m2, pre, post, rfl, hp, k1, k2⟩ := hr.get j (by simpa using hj)
    refine ⟨m1, m2, cellVals (numZ z).neg n1 n2 ++ pre, post, by simp only [List.append_assoc, List.getElem_cons_succ], ?_, k1, k2⟩
    rw [List.length_append, hp]
    show 7 + _ = _
    omega
/-- A slice of numbers' cells. -/
def IsCells (w : World) (base : Nat) (v : Value) (zs : List Int) : Prop := ∃ xs, w.ownsQ NoU base 76 7 v zs.length xs ∧ CellRows w zs xs
theorem IsCells.nil (w : World) (base : Nat) : IsCells w base (.slice none 0 0) [] := ⟨[], World.ownsQ_nil _ _ _ _ _, rfl⟩
theorem IsCells.below {w w' : World} {base : Nat} {v : Value} {zs : List Int} (h : IsCells w base v zs) (hb : Below w.heap.size w w') : IsCells w' base v zs := by
  obtain ⟨xs, h1, h2⟩ := h
  exact ⟨xs, ownsQ_below h1 hb, h2.below hb⟩
theorem cellVals_noU (neg : Bool) {n1 n2 : Value} (h1 : NoU n1) (h2 : NoU n2) : ∀ u ∈ cellVals neg n1 n2, NoU u := by
  intro u hu n e
  subst e
  unfold cellVals at hu
  simp only [List.mem_cons, List.not_mem_nil, or_false] at hu
  rcases hu with hu | hu | hu | hu | hu | hu | hu
  · injection hu with e1; cases e1
  · injection hu with e1; cases e1
  · cases hu
  · exact h1 n hu.symm
  · exact h2 n hu.symm
  · injection hu with e1; cases e1
  · cases hu
/-- The cells at their places. -/
theorem IsCells.open_ {w : World} {base : Nat} {v : Value} {zs : List Int} (h : IsCells w base v zs) : ∃ A c, v = .slice A zs.length c ∧ zs.length ≤ c ∧ c ≤ maxLen ∧
    ∀ (j : Nat) (hj : j < zs.length), ∃ g n1 n2, A = some ⟨g, 0, none⟩ ∧ g < w.heap.size ∧ base ≤ g ∧ w.rangeAt g (j * 7) (cellVals (numZ zs[j]).neg n1 n2) ∧ IsRes w n1 (numZ zs[j]).top ∧ IsRes w n2 (numZ zs[j]).bot := by
  obtain ⟨xs, ho, hr⟩ := h
  obtain ⟨A, c, hv, hc1, hc2⟩ := own_slice ho.own
  refine ⟨A, c, hv, hc1, hc2, fun j hj => ?_⟩
  obtain ⟨n1, n2, pre, post, hx, hp, k1, k2⟩ := hr.get j hj
  rcases ho.own.2 with ⟨hv', h0⟩ | ⟨g, cap, cur, hv', hb, hg, _⟩
  · omega
  · rw [hv] at hv'
    injection hv' with e1 _ _
    refine ⟨g, n1, n2, e1, (Array.getElem?_eq_some_iff.1 hg).1, hb, fun k u hu => ?_, k1, k2⟩
    have hc := ho.own.cells (g := g) (by rw [hv, e1]; rfl) (j * 7 + k) u (by
      rw [hx, List.getElem?_append_right (by omega), hp, show j * 7 + k - j * 7 = k by omega]
      rw [List.getElem?_append_left (List.getElem?_eq_some_iff.1 hu).1]
      exact hu)
    rw [Addr.add_mid] at hc
    rw [Nat.zero_add] at hc
    exact hc
theorem cell_info : (Tryd.prog.info? 76).map (·.size) = some 7 := by kernel_rfl
theorem cell_infoR (x0 x1 x2 x3 x4 x5 x6 : Value) : (Tryd.prog.info? 76).map (·.size) = some (#[x0, x1, x2, x3, x4, x5, x6] : Array Value).size := cell_info
theorem cell_infoL (x0 x1 x2 x3 x4 x5 x6 : Value) : (Tryd.prog.info? 76).map (·.size) = some [x0, x1, x2, x3, x4, x5, x6].length := cell_info
theorem cell_one7 (l k c : Int) (neg : Bool) (a1 a2 a3 : Option Addr) (m1 c1 m2 c2 m3 c3 : Nat) : (#[.int .u64 l, .int .i64 k, .bool neg, .slice a1 m1 c1, .slice a2 m2 c2, .int .i64 c, .slice a3 m3 c3] : Array Value).all (·.oneCell') = true := by
  simp [Value.oneCell']
theorem cell_noU0 : ∀ (i : Nat) (n : Int), (#[.int .u64 0, .int .i64 0, .bool false, .slice none 0 0, .slice none 0 0, .int .i64 0, .slice none 0 0] : Array Value)[i]? ≠ some (Value.int .u32 n) := by
  intro i n h
  rcases i with _ | _ | _ | _ | _ | _ | _ | i <;> simp at h
theorem refInt8_any (z : Int) (w : World) (h1 : -9223372036854775808 ≤ z) (h2 : z ≤ 9223372036854775807) :
    Calls Tryd.prog 43 #[.int .i64 z] w fun e w' => ∃ n1 n2, e = .returned (.agg (cellVals (numZ z).neg n1 n2).toArray) ∧ IsRes w' n1 (numZ z).top ∧ IsRes w' n2 (numZ z).bot ∧ Below w.heap.size w w' := by
  obtain ⟨W, hW⟩ : ∃ W, W = w.alloc (.cells #[.int .u64 0, .int .i64 0, .bool false, .slice none 0 0, .slice none 0 0, .int .i64 0, .slice none 0 0] 76) := ⟨_, rfl⟩
  have hb0 : Below w.heap.size w W := by rw [hW]; exact (Below.refl _ _).alloc (Nat.le_refl _) _
  have HGA : Hid (W.heap[w.heap.size]? = some (.cells #[.int .u64 0, .int .i64 0, .bool false, .slice none 0 0, .slice none 0 0, .int .i64 0, .slice none 0 0] 76 (0, 0))) := Lib.hid (by rw [hW]; exact heap_alloc_new w _)
  have HWS : Hid (W.heap.size = w.heap.size + 1) := Lib.hid (by rw [hW]; simp)
  have OF := Lib.hid (ofInt4_any z W h1 h2)
  have HW := Lib.hid hW
  clear hW
  go_enter Tryd.func43, Tryd.ntmps43
  go_upto_region 1 with fail
  rw [← HW.out]
  go_wp2_with fail
  refine OF.out.mono ?_
  rintro e w1 ⟨t, u, rfl, k1, k2, hb1⟩
  have HB1 := Lib.hid hb1
  have HG1 : Hid (w1.heap[w.heap.size]? = some (.cells #[.int .u64 0, .int .i64 0, .bool false, .slice none 0 0, .slice none 0 0, .int .i64 0, .slice none 0 0] 76 (0, 0))) := Lib.hid ((hb1.block w.heap.size (by rw [HWS.out]; omega)).trans HGA.out)
  have K1 := Lib.hid k1
  have K2 := Lib.hid k2
  obtain ⟨A1, c1, rfl, _⟩ := k1
  obtain ⟨A2, c2, rfl, _⟩ := k2
  dsimp only at K1 K2 ⊢
  obtain ⟨ng, hng⟩ : ∃ ng, ng = decide (z < 0) := ⟨_, rfl⟩
  rw [← hng]
  have HNG := Lib.hid hng
  clear hng
  clear hb1
  go_wp2_with (with_reducible refine wpList_store_row rfl 76 (.tmp 2) (.tmp 5) rfl w.heap.size #[.int .u64 0, .int .i64 0, .bool ng, .slice A1 (Nt.digs z.natAbs).length c1, .slice A2 [1].length c2, .int .i64 0, .slice none 0 0] rfl rfl 76 #[.int .u64 0, .int .i64 0, .bool false, .slice none 0 0, .slice none 0 0, .int .i64 0, .slice none 0 0] HG1.out (cell_infoR _ _ _ _ _ _ _) rfl (cell_one7 _ _ _ _ _ _ _ _ _ _ _ _ _) ?_)
  refine bodyPost_ret (results_cell_row (by rfl) _ _ w.heap.size 76 #[.int .u64 0, .int .i64 0, .bool ng, .slice A1 (Nt.digs z.natAbs).length c1, .slice A2 [1].length c2, .int .i64 0, .slice none 0 0] (0, 0) _ (by rfl) (rheap_same HG1.out) Tryd.underlying76 rfl (cell_infoR _ _ _ _ _ _ _)) rfl ?_
  exact ⟨_, _, by rw [HNG.out]; rfl, K1.out.setRowU HG1.out cell_noU0 _, K2.out.setRowU HG1.out cell_noU0 _, rBelow.setRow (hb0.trans (HB1.out.mono hb0.size)) (Nat.le_refl _) _⟩
end Go.Proofs.YtfiefglagknclaaDoor

/-
  scrimref11.Vector, Alone: arrays of small numbers.
-/
namespace Go.Proofs.YtfiefglagknclaaDoor
open Go.RowKit
set_option maxHeartbeats 4000000
set_option maxRecDepth 100000
set_option linter.unusedVariables false

theorem arr_info : (Tryd.prog.info? 40).map (·.size) = some 3 := by kernel_rfl
theorem arr_infoR (x0 x1 x2 : Value) : (Tryd.prog.info? 40).map (·.size) = some (#[x0, x1, x2] : Array Value).size := arr_info
theorem arr_one3 (l : Int) (a1 a2 : Option Addr) (m1 c1 m2 c2 : Nat) : (#[.int .u64 l, .slice a1 m1 c1, .slice a2 m2 c2] : Array Value).all (·.oneCell') = true := by
  simp [Value.oneCell']
theorem cells_info : (Tryd.prog.info? 76).map (fun i => (i.zero, i.size, i.bytes)) = some (some (.agg #[.int .u64 0, .int .i64 0, .bool false, .slice none 0 0, .slice none 0 0, .int .i64 0, .slice none 0 0]), 7, 104) := by kernel_rfl
theorem cellZ_noU : ∀ u ∈ (Value.agg #[.int .u64 0, .int .i64 0, .bool false, .slice none 0 0, .slice none 0 0, .int .i64 0, .slice none 0 0]).cells.toList, NoU u := by
  intro u hu
  exact cellVals_noU false (n1 := .slice none 0 0) (n2 := .slice none 0 0) (fun n e => by cases e) (fun n e => by cases e) u hu
theorem fill_cell (x : Value) (a0 a1 a2 a3 a4 a5 a6 : Value) : Instr.fill (fun i => some (i * 7, 7)) ((Array.range (1 * 7)).map fun k => (Value.agg #[.int .u64 0, .int .i64 0, .bool false, .slice none 0 0, .slice none 0 0, .int .i64 0, .slice none 0 0]).cells[k % (Value.agg #[.int .u64 0, .int .i64 0, .bool false, .slice none 0 0, .slice none 0 0, .int .i64 0, .slice none 0 0]).cells.size]!) [(0, Value.agg #[a0, a1, a2, a3, a4, a5, a6])] = some #[a0, a1, a2, a3, a4, a5, a6] := by kernel_rfl
/-- An array along so many axes, of small numbers. -/
def ArrOut (w : World) (s : Int) (sh : List Int) (zs : List Int) (e : Ending) (w' : World) : Prop := ∃ sv v, e = .returned (.agg #[.int .u64 s, sv, v]) ∧ w'.ownsRow 0 3 1 sv sh.length (I64 sh) ∧ IsCells w' 0 v zs ∧ Below w.heap.size w w'
/-- Where Vector's loop stands. -/
structure VecAt (l : List Int) (s : Int) (W wr : World) (i : Nat) (lv : Value) (xs : List Value) : Prop where
  hi : i ≤ l.length
  shp : wr.heap[W.heap.size]? = some (.cells #[.int .i64 (l.length : Int)] 3 (0, 0))
  arr : wr.heap[W.heap.size + 1]? = some (.cells #[.int .u64 s, .slice (some ⟨W.heap.size, 0, none⟩) 1 1, lv] 40 (0, 0))
  own : wr.ownsQ NoU (W.heap.size + 2) 76 7 lv i xs
  rows : CellRows wr (l.take i) xs
  below : Below W.heap.size W wr
  more : W.heap.size + 2 ≤ wr.heap.size
def frameVc (V0 vs p4 p5 v6 : Value) (u xs : Nat → Value) : Act := { tmps := #[V0, vs, undef, undef, p4, p5, v6, u 7, u 8, u 9, u 10, u 11, u 12, u 13, u 14, u 15, u 16, u 17, xs 0, xs 1, xs 2, xs 3, xs 4, xs 5, xs 6, xs 7, u 26, u 27, u 28], defers := [] }
def predVc (V0 : Value) (g5 b o : Nat) (i z : Int) (lv : Value) : Nat → World → Value → Prop
  | 0, w, v => v = .pointer (some ⟨g5, 2, none⟩)
  | 1, w, v => v = lv
  | 2, w, v => v = V0
  | 3, w, v => v = .int .i64 i
  | 4, w, v => v = .pointer (some ⟨b, o, none⟩)
  | 5, w, v => v = .int .i64 z
  | 6, w, v => ∃ n1 n2, v = .agg (cellVals (numZ z).neg n1 n2).toArray ∧ IsRes w n1 (numZ z).top ∧ IsRes w n2 (numZ z).bot
  | _, w, v => ∃ g n1 n2, v = .slice (some ⟨g, 0, none⟩) 1 1 ∧ w.heap[g]? = some (.cells (cellVals (numZ z).neg n1 n2).toArray 76 (0, 0)) ∧ IsRes w n1 (numZ z).top ∧ IsRes w n2 (numZ z).bot
theorem vec_next {l : List Int} {s : Int} {W wr w1 w2 : World} {i : Nat} {lv v2 : Value} {xs : List Value} (HT : VecAt l s W wr i lv xs) (hb : Below wr.heap.size wr w1) (hi : i < l.length) {n1 n2 : Value}
    (k1 : IsRes w1 n1 (numZ l[i]).top) (k2 : IsRes w1 n2 (numZ l[i]).bot)
    (hown2 : w2.ownsQ NoU (W.heap.size + 2) 76 7 v2 (i + 1) (xs ++ cellVals (numZ l[i]).neg n1 n2)) (hgr : w1.grownBy w2 lv.ownBlock) :
    w2.heap[W.heap.size + 1]? = some (.cells #[.int .u64 s, .slice (some ⟨W.heap.size, 0, none⟩) 1 1, lv] 40 (0, 0)) ∧ VecAt l s W (w2.setCell ⟨W.heap.size + 1, 2, none⟩ v2) (i + 1) v2 (xs ++ cellVals (numZ l[i]).neg n1 n2) := by
  have hm := HT.more
  have hms := hb.size
  have hgs := hgr.size
  have hne : ∀ k, k < W.heap.size + 2 → some k ≠ lv.ownBlock := by
    intro k hk
    rcases HT.own.2 with ⟨rfl, _⟩ | ⟨g', cap, cur, rfl, hbs, _⟩
    · simp [Value.ownBlock]
    · simp only [Value.ownBlock]
      intro h
      injection h with h
      have h : k = g' := h
      omega
  have hA := (hgr.block (W.heap.size + 1) (by omega) (hne _ (by omega))).trans ((hb.block (W.heap.size + 1) (by omega)).trans HT.arr)
  have hS := (hgr.block W.heap.size (by omega) (hne _ (by omega))).trans ((hb.block W.heap.size (by omega)).trans HT.shp)
  have hown1 := ownsQ_below HT.own hb
  have hB1 := (HT.below.trans (hb.mono HT.below.size)).grown hgr (by omega) (by
    intro k hk
    rcases HT.own.2 with ⟨rfl, _⟩ | ⟨g', cap, cur, rfl, hbs, _⟩
    · cases hk
    · injection hk with hk
      have hk : g' = k := hk
      omega)
  -- the cells that the numbers lie in are another block
  have hres : ∀ v ds, IsRes w2 v ds → IsRes (w2.setCell ⟨W.heap.size + 1, 2, none⟩ v2) v ds := by
    intro v ds h
    obtain ⟨A, c, e1, e2, e3, e4, h5⟩ := h
    refine ⟨A, c, e1, e2, e3, e4, ?_⟩
    rcases h5 with h5 | ⟨b, off, e, hb, hc⟩
    · exact .inl h5
    · cases ds with
      | nil => exact .inl rfl
      | cons d r =>
        have hbn : b ≠ W.heap.size + 1 := by
          rintro rfl
          have h0 := hc 0 _ rfl
          rw [cell_of_row w2 _ (off + 0) _ _ (0, 0) hA] at h0
          have : ∀ (j : Nat) (n : Int), (#[.int .u64 s, .slice (some ⟨W.heap.size, 0, none⟩) 1 1, lv] : Array Value)[j]? ≠ some (Value.int .u32 n) := by
            intro j n h
            rcases j with _ | _ | _ | j
            · simp at h
            · simp at h
            · obtain ⟨A, c, rfl, _⟩ := own_slice HT.own.own
              simp at h
            · simp at h
          exact this _ _ h0
        refine .inr ⟨b, off, e, by simp only [World.setCell, Array.size_modify]; exact hb, fun i u hu => ?_⟩
        rw [World.cell?_of_block (w := w2) (heap_setCell_other w2 _ b v2 hbn)]
        exact hc i u hu
  refine ⟨hA, ?_⟩
  exact
    { hi := hi
      shp := (heap_setCell_other w2 _ W.heap.size v2 (by show W.heap.size ≠ W.heap.size + 1; omega)).trans hS
      arr := Blk.set_ (w := w2) (g := W.heap.size + 1) (vs := [.int .u64 s, .slice (some ⟨W.heap.size, 0, none⟩) 1 1, lv]) hA 2 _
      own := by
        obtain ⟨e1, e2⟩ := hown2
        refine ⟨e1, ?_⟩
        rcases e2 with e2 | ⟨g, cap, cur, hv, hbs, hh, r⟩
        · exact .inl e2
        · exact .inr ⟨g, cap, cur, hv, hbs, (heap_setCell_other w2 _ g v2 (by show g ≠ W.heap.size + 1; omega)).trans hh, r⟩
      rows := by
        rw [List.take_add_one, List.getElem?_eq_getElem hi]
        exact CellRows.map hres (CellRows.snoc (k1.grownQ hown1 hgr) (k2.grownQ hown1 hgr) ((HT.rows.below hb).grown hown1 hgr))
      below := hB1.setCell (by show W.heap.size ≤ W.heap.size + 1; omega) _
      more := by simp only [World.setCell, Array.size_modify]; omega }
theorem ownsQ_setRow_t {w : World} {q : Value → Prop} {base : Nat} {e t : TypeId} {size n : Nat} {v : Value} {xs : List Value} (h : w.ownsQ q base e size v n xs) {g : Nat} {old : Array Value} (hg : w.heap[g]? = some (.cells old t (0, 0))) (hne : t ≠ e) (cs : Array Value) : (w.setRow g cs).ownsQ q base e size v n xs := by
  obtain ⟨h1, h2⟩ := h
  refine ⟨h1, ?_⟩
  rcases h2 with h2 | ⟨g', cap, cur, hv, hb, hh, r⟩
  · exact .inl h2
  · have hgg : g ≠ g' := by
      rintro rfl
      rw [hg] at hh
      injection hh with hh
      injection hh with _ e2
      exact hne e2
    exact .inr ⟨g', cap, cur, hv, hb, by rw [← hh]; simp only [World.setRow, Array.getElem?_modify]; rw [if_neg hgg], r⟩
theorem IsCells.setRow {w : World} {base : Nat} {v : Value} {zs : List Int} (h : IsCells w base v zs) {g : Nat} {old : Array Value} {t : TypeId} (hg : w.heap[g]? = some (.cells old t (0, 0))) (hne : t ≠ 76) (ho : ∀ (i : Nat) (n : Int), old[i]? ≠ some (Value.int .u32 n)) (cs : Array Value) : IsCells (w.setRow g cs) base v zs := by
  obtain ⟨xs, h1, h2⟩ := h
  exact ⟨xs, ownsQ_setRow_t h1 hg hne cs, h2.map fun _ _ k => k.setRowU hg ho cs⟩
theorem own_setRow_o {w : World} {base : Nat} {e t : TypeId} {size n : Nat} {v : Value} {xs : List Value} (h : w.ownsRow base e size v n xs) {g : Nat} {old : Array Value} (hg : w.heap[g]? = some (.cells old t (0, 0))) (hne : t ≠ e) (cs : Array Value) : (w.setRow g cs).ownsRow base e size v n xs := by
  obtain ⟨h1, h2⟩ := h
  refine ⟨h1, ?_⟩
  rcases h2 with h2 | ⟨g', cap, cur, hv, hb, hh, r⟩
  · exact .inl h2
  · have hgg : g ≠ g' := by
      rintro rfl
      rw [hg] at hh
      injection hh with hh
      injection hh with _ e2
      exact hne e2
    exact .inr ⟨g', cap, cur, hv, hb, by rw [← hh]; simp only [World.setRow, Array.getElem?_modify]; rw [if_neg hgg], r⟩
theorem arr_noU0 : ∀ (i : Nat) (n : Int), (#[.int .u64 0, .slice none 0 0, .slice none 0 0] : Array Value)[i]? ≠ some (Value.int .u32 n) := by
  intro i n h
  rcases i with _ | _ | _ | i <;> simp at h
theorem own_one {w : World} {g : Nat} {x : Value} {t : TypeId} (h : w.heap[g]? = some (.cells #[x] t (0, 0))) : w.ownsRow 0 t 1 (.slice (some ⟨g, 0, none⟩) 1 1) 1 [x] :=
  ⟨rfl, .inr ⟨g, 1, #[x], rfl, Nat.zero_le _, h, Nat.le_refl _, by decide, rfl, rfl⟩⟩
theorem refVector_any (A : Option Addr) (c : Nat) (l : List Int) (s : Int) (w : World) (hl : Lies w w.heap.size A (I64 l)) (hn : l.length ≤ 1000) (hz : ∀ z ∈ l, -9223372036854775808 ≤ z ∧ z ≤ 9223372036854775807) :
    Calls Tryd.prog 19 #[.slice A l.length c, .int .u64 s] w (ArrOut w s [(l.length : Int)] l) := by
  obtain ⟨i0, hi0, hz0, hz1, hz2⟩ := info_parts cells_info
  obtain ⟨W, hW⟩ : ∃ W, W = w.alloc (.cells #[.int .u64 0, .slice none 0 0, .slice none 0 0] 40) := ⟨_, rfl⟩
  have hb0 : Below w.heap.size w W := by rw [hW]; exact (Below.refl _ _).alloc (Nat.le_refl _) _
  have HGA : Hid (W.heap[w.heap.size]? = some (.cells #[.int .u64 0, .slice none 0 0, .slice none 0 0] 40 (0, 0))) := Lib.hid (by rw [hW]; exact heap_alloc_new w _)
  have HWS : Hid (W.heap.size = w.heap.size + 1) := Lib.hid (by rw [hW]; simp)
  have hlW : Lies W W.heap.size A (I64 l) := (hl.below hb0).more hb0.size
  obtain ⟨W3, hW3⟩ : ∃ W3, W3 = (W.alloc (.cells #[.int .i64 (l.length : Int)] 3)).alloc (.cells #[.int .u64 s, .slice (some ⟨W.heap.size, 0, none⟩) 1 1, .slice none 0 0] 40) := ⟨_, rfl⟩
  have hs1 : (W.alloc (.cells #[.int .i64 (l.length : Int)] 3)).heap.size = W.heap.size + 1 := by simp
  have H0 : Hid (VecAt l s W W3 0 (.slice none 0 0) []) := Lib.hid
    { hi := Nat.zero_le _
      shp := by rw [hW3]; exact (Below.heap_alloc _ _ _ (by rw [hs1]; omega)).trans (heap_alloc_new W _)
      arr := by rw [hW3]; have := heap_alloc_new (W.alloc (.cells #[.int .i64 (l.length : Int)] 3)) (.cells #[.int .u64 s, .slice (some ⟨W.heap.size, 0, none⟩) 1 1, .slice none 0 0] 40); rwa [hs1] at this
      own := World.ownsQ_nil _ _ _ _ _
      rows := rfl
      below := by rw [hW3]; exact ((Below.refl _ _).alloc (Nat.le_refl _) _).alloc (by rw [hs1]; omega) _
      more := by rw [hW3]; simp }
  have HL := Lib.hid hlW
  have HZ := Lib.hid hz
  have HW := Lib.hid hW
  have HW3 := Lib.hid hW3
  have IN := Lib.hid (fun (z : Int) (h : -9223372036854775808 ≤ z ∧ z ≤ 9223372036854775807) wx => refInt8_any z wx h.1 h.2)
  clear hW hW3 hs1 hlW hl hz
  go_enter Tryd.func19, Tryd.ntmps19
  go_upto_region 1 with fail
  rw [← HW.out]
  go_upto_region 2 with fail
  rw [← HW3.out]
  go_wp2_with fail
  go_loopw [6] (fun iv wr => ∃ (i : Nat) (lv : Value) (xs : List Value), iv = .int .i64 (i : Int) ∧ Hid (VecAt l s W wr i lv xs)) (fun iv _ => l.length - (intOf iv).toNat)
  case atStart => exact ⟨0, _, [], by go_num, H0⟩
  case round =>
    clear H0 HW3 HW
    obtain ⟨i, lv, xs, rfl, HT⟩ := hrel
    have hil := HT.out.hi
    have HGR : Hid (wr.heap[w.heap.size]? = some (.cells #[.int .u64 0, .slice none 0 0, .slice none 0 0] 40 (0, 0))) := Lib.hid ((HT.out.below.block w.heap.size (by rw [HWS.out]; omega)).trans HGA.out)
    obtain ⟨AL, cL, hLv, hL1, hL2⟩ := own_slice HT.out.own.own
    by_cases hlt : i < l.length
    · obtain ⟨b, off, rfl, hb, g1⟩ := lies_i64 (HL.out.below HT.out.below) hlt
      have ZB := Lib.hid (HZ.out l[i] (List.getElem_mem hlt))
      have HTO := Lib.hid (fun (w1 w2 : World) (v2 : Value) (hb : Below wr.heap.size wr w1) (n1 n2 : Value) => vec_next (w1 := w1) (w2 := w2) (v2 := v2) (n1 := n1) (n2 := n2) HT.out hb hlt)
      obtain ⟨z, hzz⟩ : ∃ z, z = l[i] := ⟨_, rfl⟩
      rw [← hzz] at g1 ZB HTO
      have HZZ := Lib.hid hzz
      have hg5 : W.heap.size + 1 < wr.heap.size := by have := HT.out.more; omega
      have hc2 : wr.cell? ⟨W.heap.size + 1, 2, none⟩ = some lv := (cell_of_row wr (W.heap.size + 1) 2 _ _ _ HT.out.arr).trans rfl
      have HQ1 : Hid (∀ w1, Below wr.heap.size wr w1 → w1.cell? ⟨W.heap.size + 1, 2, none⟩ = some lv) := Lib.hid (fun w1 h => (h.cell hg5).trans hc2)
      have hbw : b < wr.heap.size := by have := HT.out.below.size; omega
      have HQ2 : Hid (∀ w1, Below wr.heap.size wr w1 → w1.cell? ⟨b, off + i, none⟩ = some (.int .i64 z)) := Lib.hid (fun w1 h => (h.cell hbw).trans g1)
      have INZ := Lib.hid (fun wx => IN.out z ZB.out wx)
      clear hzz hc2 g1 hb
      go_upto_region 5 with fail
      refine wp_region_tail (frameVc (.slice (some ⟨b, off, none⟩) l.length c) (.int .u64 s) (.pointer (some ⟨w.heap.size, 0, none⟩)) (.pointer (some ⟨W.heap.size + 1, 0, none⟩)) (.int .i64 (i : Int)) (fun k => [undef, undef, undef, undef, undef, undef, undef, .int .u64 s, .slice (some ⟨b, off, none⟩) l.length c, .int .i64 (l.length : Int), .slice (some ⟨W.heap.size, 0, none⟩) 1 1, .agg #[.int .u64 s, .slice (some ⟨W.heap.size, 0, none⟩) 1 1, .slice none 0 0], .int .i64 (i : Int), .slice (some ⟨b, off, none⟩) l.length c, .int .i64 (l.length : Int), .bool true, u16, u17, undef, undef, undef, undef, undef, undef, undef, undef, u26, u27, undef].getD k undef)) wr (predVc (.slice (some ⟨b, off, none⟩) l.length c) (W.heap.size + 1) b (off + i) (i : Int) z lv) 8 (by kernel_rfl) (by decide) ?_ (by kernel_rfl) 6 (by kernel_rfl) (fun k => [u18, u19, u20, u21, u22, u23, u24, u25].getD k undef) rfl (Below.refl _ _) ?_ ?_
      · intro i w1 w2 v hv hb
        match i with
        | 0 => exact hv
        | 1 => exact hv
        | 2 => exact hv
        | 3 => exact hv
        | 4 => exact hv
        | 5 => exact hv
        | 6 => exact (by
            obtain ⟨n1, n2, e, k1, k2⟩ := hv
            exact ⟨n1, n2, e, k1.below_ hb, k2.below_ hb⟩)
        | i + 7 => exact (by
            obtain ⟨g, n1, n2, e, r, k1, k2⟩ := hv
            exact ⟨g, n1, n2, e, (hb.block g (Array.getElem?_eq_some_iff.1 r).1).trans r, k1.below_ hb, k2.below_ hb⟩)
      · intro k xs w1 hk hb hdep
        rcases (show k = 0 ∨ k = 1 ∨ k = 2 ∨ k = 3 ∨ k = 4 ∨ k = 5 ∨ k = 6 ∨ k = 7 by omega) with rfl | rfl | rfl | rfl | rfl | rfl | rfl | rfl
        · refine wpOp_at rfl rfl ?_
          unfold frameVc Oper.wp
          go_simp
          exact ⟨_, by simp only [frameVc, upd]; simp [Act.put], rfl, Below.refl _ _⟩
        · have h0 : xs 0 = .pointer (some ⟨W.heap.size + 1, 2, none⟩) := hdep 0 (by kernel_rfl)
          have hq := HQ1.out w1 hb
          refine wpOp_at rfl rfl ?_
          unfold frameVc Oper.wp
          simp only [h0]
          go_simp
          exact ⟨_, by simp only [frameVc, upd]; simp [Act.put, h0], rfl, Below.refl _ _⟩
        · refine wpOp_at rfl rfl ?_
          unfold frameVc Oper.wp
          go_simp
          exact ⟨_, by simp only [frameVc, upd]; simp [Act.put], rfl, Below.refl _ _⟩
        · refine wpOp_at rfl rfl ?_
          unfold frameVc Oper.wp
          go_simp
          exact ⟨_, by simp only [frameVc, upd]; simp [Act.put], rfl, Below.refl _ _⟩
        · have h2 : xs 2 = (.slice (some ⟨b, off, none⟩) l.length c) := hdep 2 (by kernel_rfl)
          have h3 : xs 3 = .int .i64 (i : Int) := hdep 3 (by kernel_rfl)
          refine wpOp_at rfl rfl ?_
          unfold frameVc Oper.wp
          simp only [h2, h3]
          go_simp
          exact ⟨_, by simp only [frameVc, upd]; simp [Act.put, h2, h3], rfl, Below.refl _ _⟩
        · have h4 : xs 4 = .pointer (some ⟨b, off + i, none⟩) := hdep 4 (by kernel_rfl)
          have hq := HQ2.out w1 hb
          refine wpOp_at rfl rfl ?_
          unfold frameVc Oper.wp
          simp only [h4]
          go_simp
          exact ⟨_, by simp only [frameVc, upd]; simp [Act.put, h4], rfl, Below.refl _ _⟩
        · have h5 : xs 5 = .int .i64 z := hdep 5 (by kernel_rfl)
          refine wpOp_at rfl rfl ?_
          unfold frameVc Oper.wp
          simp only [h5]
          go_simp
          refine (INZ.out _).mono ?_
          rintro e w2 ⟨n1, n2, rfl, k1, k2, hb2⟩
          exact ⟨_, by simp only [frameVc, upd]; simp [Act.put, h5], ⟨n1, n2, rfl, k1, k2⟩, hb2⟩
        · obtain ⟨n1, n2, h6, k1, k2⟩ : ∃ n1 n2, xs 6 = .agg (cellVals (numZ z).neg n1 n2).toArray ∧ IsRes w1 n1 (numZ z).top ∧ IsRes w1 n2 (numZ z).bot := hdep 6 (by kernel_rfl)
          refine wpOp_at rfl rfl ?_
          refine wp_buildSlice 38 76 1 #[(0, .tmp 24)] rfl (cellVals (numZ z).neg n1 n2).toArray i0 (.agg #[.int .u64 0, .int .i64 0, .bool false, .slice none 0 0, .slice none 0 0, .int .i64 0, .slice none 0 0]) Tryd.underlying38 hi0 hz0 (by rw [hz1]; decide) (by rw [hz1]; decide) (by
            rw [hz1]
            have h6' : (frameVc (.slice (some ⟨b, off, none⟩) l.length c) (.int .u64 s) (.pointer (some ⟨w.heap.size, 0, none⟩)) (.pointer (some ⟨W.heap.size + 1, 0, none⟩)) (.int .i64 (i : Int)) (fun k => [undef, undef, undef, undef, undef, undef, undef, .int .u64 s, .slice (some ⟨b, off, none⟩) l.length c, .int .i64 (l.length : Int), .slice (some ⟨W.heap.size, 0, none⟩) 1 1, .agg #[.int .u64 s, .slice (some ⟨W.heap.size, 0, none⟩) 1 1, .slice none 0 0], .int .i64 (i : Int), .slice (some ⟨b, off, none⟩) l.length c, .int .i64 (l.length : Int), .bool true, u16, u17, undef, undef, undef, undef, undef, undef, undef, undef, u26, u27, undef].getD k undef) xs).eval (.tmp 24) = .agg (cellVals (numZ z).neg n1 n2).toArray := h6
            simp only [List.map_toArray, List.map_cons, List.map_nil, h6']
            exact fill_cell undef _ _ _ _ _ _ _) ?_
          exact ⟨_, by simp only [frameVc, upd]; simp [Act.put], ⟨w1.heap.size, n1, n2, rfl, heap_alloc_new w1 _, k1.below_ ((Below.refl _ _).alloc (Nat.le_refl _) _), k2.below_ ((Below.refl _ _).alloc (Nat.le_refl _) _)⟩, (Below.refl _ _).alloc (Nat.le_refl _) _⟩
      · intro xs' w1 hb hR
        have h0 : xs' 0 = .pointer (some ⟨W.heap.size + 1, 2, none⟩) := hR 0 (by decide)
        have h1 : xs' 1 = lv := hR 1 (by decide)
        obtain ⟨g, n1, n2, h7, hg7, k1, k2⟩ : ∃ g n1 n2, xs' 7 = .slice (some ⟨g, 0, none⟩) 1 1 ∧ w1.heap[g]? = some (.cells (cellVals (numZ z).neg n1 n2).toArray 76 (0, 0)) ∧ IsRes w1 n1 (numZ z).top ∧ IsRes w1 n2 (numZ z).bot := hR 7 (by decide)
        have hown1 := ownsQ_below HT.out.own hb
        have hmax : (maxLen : Nat) = 9223372036854775807 := rfl
        have hsz : W.heap.size + 2 ≤ w1.heap.size := by have := HT.out.more; have := hb.size; omega
        have k1' := k1
        have k2' := k2
        obtain ⟨B1, d1, rfl, _⟩ := k1'
        obtain ⟨B2, d2, rfl, _⟩ := k2'
        show Tail _ _ _ 3 8 _ w1
        refine wpOp_at rfl rfl ?_
        refine wp_append_ownQ w1 (.tmp 19) (.tmp 25) 38 rfl NoU (W.heap.size + 2) 76 i0 _ 7 104 Tryd.underlying38 hi0 hz0 hz1 hz2 rfl (by decide) cellZ_noU lv i xs h1 hown1 ⟨g, 0, none⟩ 1 1 (cellVals (numZ z).neg (.slice B1 (numZ z).top.length d1) (.slice B2 (numZ z).bot.length d2)) h7 rfl ?_ ?_ (cellVals_noU _ k1.noU k2.noU) (by omega) (by omega) hsz ?_
        · intro j u hu
          rw [show ((⟨g, 0, none⟩ : Addr).add j) = ⟨g, j, none⟩ by unfold Addr.add; split <;> simp_all]
          rw [cell_of_row w1 g j _ _ _ hg7, List.getElem?_toArray]
          exact hu
        · intro u hu
          unfold cellVals at hu
          simp only [List.mem_cons, List.not_mem_nil, or_false] at hu
          rcases hu with rfl | rfl | rfl | rfl | rfl | rfl | rfl <;> rfl
        · intro v' w2 hown2 hgr hiff hat
          have HNX := Lib.hid (HTO.out w1 w2 v' hb _ _ k1 k2 hown2 hgr)
          obtain ⟨A2, c2, rfl, _, _⟩ := own_slice hown2.own
          have hd2 : w2.cell? ⟨W.heap.size + 1, 2, none⟩ = some lv := (cell_of_row w2 (W.heap.size + 1) 2 _ _ _ HNX.out.1).trans rfl
          have hf2 : w2.frozen? ⟨W.heap.size + 1, 2, none⟩ = false := frozen_of_row _ _ _ _ _ HNX.out.1
          subst hLv
          refine wpOp_at rfl rfl ?_
          unfold frameVc Oper.wp
          go_simp
          refine wpOp_at rfl rfl ?_
          unfold Oper.wp
          go_simp
          clear hd2 hf2 hown2 hown1 hgr hiff hat hR
          unfold Tail
          go_wp2_with fail
          go_round
          case rel => exact ⟨i + 1, _, _, by go_num, Lib.hid HNX.out.2⟩
          case measure => simp [intOf]; omega
    · have hme : i = l.length := by omega
      have HRES : Hid (VecAt l s W wr l.length lv xs) := Lib.hid (by rw [← hme]; exact HT.out)
      have HAR := Lib.hid HT.out.arr
      subst hLv
      clear hL1 hL2
      go_wp2_with (first | (with_reducible refine wpList_load_row rfl 40 (.tmp 5) rfl (W.heap.size + 1) rfl 40 #[.int .u64 s, .slice (some ⟨W.heap.size, 0, none⟩) 1 1, .slice AL i cL] (0, 0) _ HAR.out Tryd.underlying40 rfl (arr_infoR _ _ _) ?_) | (with_reducible refine wpList_store_row rfl 40 (.tmp 4) (.tmp 28) rfl w.heap.size #[.int .u64 s, .slice (some ⟨W.heap.size, 0, none⟩) 1 1, .slice AL i cL] rfl rfl 40 #[.int .u64 0, .slice none 0 0, .slice none 0 0] HGR.out (arr_infoR _ _ _) rfl (arr_one3 _ _ _ _ _ _ _) ?_))
      refine bodyPost_ret (results_cell_row (by rfl) _ _ w.heap.size 40 #[.int .u64 s, .slice (some ⟨W.heap.size, 0, none⟩) 1 1, .slice AL i cL] (0, 0) _ (by rfl) (rheap_same HGR.out) Tryd.underlying40 rfl (arr_infoR _ _ _)) rfl ?_
      have HI : Hid (IsCells wr 0 (.slice AL i cL) l) := Lib.hid ⟨xs, by have h := HRES.out.own; rw [← hme] at h ⊢; exact h.mono (Nat.zero_le _), by have h := HRES.out.rows; rw [List.take_length] at h; exact h⟩
      exact ⟨_, _, rfl, own_setRow_o (own_one HRES.out.shp) HGR.out (by decide) _, HI.out.setRow HGR.out (by decide) arr_noU0 _, rBelow.setRow (hb0.trans (HRES.out.below.mono hb0.size)) (Nat.le_refl _) _⟩
end Go.Proofs.YtfiefglagknclaaDoor

/-
  scrimref11.Alone; a number's cell as text: scrimref28.cell, show.cell.
-/
namespace Go.Proofs.YtfiefglagknclaaDoor
open Go.RowKit
set_option maxHeartbeats 4000000
set_option maxRecDepth 100000
set_option linter.unusedVariables false

theorem ownsQ_new {q : Value → Prop} (w : World) (xs : List Value) (t : TypeId) (size : Nat) (hl : xs.length = size) (hq : ∀ u ∈ xs, q u) : (w.alloc (.cells xs.toArray t)).ownsQ q w.heap.size t size (.slice (some ⟨w.heap.size, 0, none⟩) 1 1) 1 xs := by
  subst hl
  exact ⟨by simp, .inr ⟨w.heap.size, 1, xs.toArray, rfl, Nat.le_refl _, heap_alloc_new w _, Nat.le_refl _, by decide, by simp, by simp, fun u hu => hq u (by simpa using hu)⟩⟩
theorem refAlone_any (z s : Int) (w : World) (h1 : -9223372036854775808 ≤ z ∧ z ≤ 9223372036854775807) :
    Calls Tryd.prog 17 #[.int .i64 z, .int .u64 s] w (ArrOut w s [] [z]) := by
  obtain ⟨W, hW⟩ : ∃ W, W = w.alloc (.cells #[.int .u64 0, .slice none 0 0, .slice none 0 0] 40) := ⟨_, rfl⟩
  have hb0 : Below w.heap.size w W := by rw [hW]; exact (Below.refl _ _).alloc (Nat.le_refl _) _
  have HGA : Hid (W.heap[w.heap.size]? = some (.cells #[.int .u64 0, .slice none 0 0, .slice none 0 0] 40 (0, 0))) := Lib.hid (by rw [hW]; exact heap_alloc_new w _)
  have HWS : Hid (W.heap.size = w.heap.size + 1) := Lib.hid (by rw [hW]; simp)
  have IN := Lib.hid (refInt8_any z W h1.1 h1.2)
  have HW := Lib.hid hW
  clear hW
  go_enter Tryd.func17, Tryd.ntmps17
  go_upto_region 1 with fail
  rw [← HW.out]
  go_wp2_with fail
  refine IN.out.mono ?_
  rintro e w1 ⟨n1, n2, rfl, k1, k2, hb1⟩
  have HB1 := Lib.hid hb1
  obtain ⟨w2, hw2⟩ : ∃ w2, w2 = w1.alloc (.cells (cellVals (numZ z).neg n1 n2).toArray 76) := ⟨_, rfl⟩
  have HB2 : Hid (Below W.heap.size W w2) := Lib.hid (by rw [hw2]; exact hb1.alloc hb1.size _)
  have HG2 : Hid (w2.heap[w.heap.size]? = some (.cells #[.int .u64 0, .slice none 0 0, .slice none 0 0] 40 (0, 0))) := Lib.hid ((HB2.out.block w.heap.size (by rw [HWS.out]; omega)).trans HGA.out)
  have HC2 : Hid (IsCells w2 0 (.slice (some ⟨w1.heap.size, 0, none⟩) 1 1) [z]) := Lib.hid (by
    have hbb : Below w1.heap.size w1 w2 := by rw [hw2]; exact (Below.refl _ _).alloc (Nat.le_refl _) _
    refine ⟨cellVals (numZ z).neg n1 n2, ?_, ⟨n1, n2, [], by simp, k1.below_ hbb, k2.below_ hbb, rfl⟩⟩
    rw [hw2]
    exact (ownsQ_new w1 _ _ 7 rfl (cellVals_noU _ k1.noU k2.noU)).mono (Nat.zero_le _))
  rw [hw2] at HB2 HG2 HC2
  obtain ⟨A1, c1, rfl, _⟩ := k1
  obtain ⟨A2, c2, rfl, _⟩ := k2
  unfold cellVals at HB2 HG2 HC2 ⊢
  generalize (numZ z).neg = ng at *
  clear hb1 hw2
  dsimp only
  go_wp2_with (with_reducible refine wpList_store_row rfl 40 (.tmp 4) (.tmp 9) rfl w.heap.size #[.int .u64 s, .slice none 0 0, .slice (some ⟨w1.heap.size, 0, none⟩) 1 1] rfl rfl 40 #[.int .u64 0, .slice none 0 0, .slice none 0 0] HG2.out (arr_infoR _ _ _) rfl (arr_one3 _ _ _ _ _ _ _) ?_)
  refine bodyPost_ret (results_cell_row (by rfl) _ _ w.heap.size 40 #[.int .u64 s, .slice none 0 0, .slice (some ⟨w1.heap.size, 0, none⟩) 1 1] (0, 0) _ (by rfl) (rheap_same HG2.out) Tryd.underlying40 rfl (arr_infoR _ _ _)) rfl ?_
  exact ⟨_, _, rfl, World.ownsRow_nil _ _ _ _, HC2.out.setRow HG2.out (by decide) arr_noU0 _, rBelow.setRow (hb0.trans (HB2.out.mono hb0.size)) (Nat.le_refl _) _⟩
theorem numZ_r {w : World} {z : Int} {n1 n2 : Value} (k1 : IsRes w n1 (numZ z).top) (k2 : IsRes w n2 (numZ z).bot) (hz : -9223372036854775808 ≤ z ∧ z ≤ 9223372036854775807) : NumR w (numZ z) n1 n2 := by
  have hl : (Nt.digs z.natAbs).length ≤ 3 := Nt.digs_len_lt (k := 3) (by omega)
  exact ⟨k1, k2, Nt.ok_digs _, (by intro d hd; have hd : d ∈ [1] := hd; rw [List.mem_singleton] at hd; subst hd; decide), by show (Nt.digs z.natAbs).length ≤ 1000; omega, by show ([1] : List Nat).length ≤ 1000; decide⟩
theorem num_infoL (x0 x1 x2 : Value) : (Tryd.prog.info? 24).map (·.size) = some [x0, x1, x2].length := num_info
theorem range_of_row {w : World} {g : Nat} {cs : Array Value} {t : TypeId} (h : w.heap[g]? = some (.cells cs t (0, 0))) (o : Nat) (xs : List Value) (hx : ∀ j u, xs[j]? = some u → cs[o + j]? = some u) : w.rangeAt g o xs := by
  intro j u hu
  rw [cell_of_row w g (o + j) _ _ _ h]
  exact hx j u hu
theorem refCell28_any (z : Int) (n1 n2 : Value) (w : World) (k1 : IsRes w n1 (numZ z).top) (k2 : IsRes w n2 (numZ z).bot) (hz : -9223372036854775808 ≤ z ∧ z ≤ 9223372036854775807) :
    Calls Tryd.prog 42 #[.agg (cellVals (numZ z).neg n1 n2).toArray] w (StrOut w (Dg.print (numZ z))) := by
  obtain ⟨W, hW⟩ : ∃ W, W = w.alloc (.cells (cellVals (numZ z).neg n1 n2).toArray 76) := ⟨_, rfl⟩
  have hb0 : Below w.heap.size w W := by rw [hW]; exact (Below.refl _ _).alloc (Nat.le_refl _) _
  have HG : Hid (W.heap[w.heap.size]? = some (.cells (cellVals (numZ z).neg n1 n2).toArray 76 (0, 0))) := Lib.hid (by rw [hW]; exact heap_alloc_new w _)
  have PR := Lib.hid (refPrint_any (numZ z) n1 n2 W (numZ_r (k1.below_ hb0) (k2.below_ hb0) hz))
  have hk : W.cell? ⟨w.heap.size, 1, none⟩ = some (.int .i64 0) := (cell_of_row W w.heap.size 1 _ _ _ HG.out).trans rfl
  have HR : Hid (W.rangeAt w.heap.size 2 [.bool (numZ z).neg, n1, n2]) := Lib.hid (range_of_row HG.out 2 _ (by
    intro j u hu
    match j with
    | 0 => exact hu
    | 1 => exact hu
    | 2 => exact hu
    | j + 3 => cases hu))
  have HW := Lib.hid hW
  obtain ⟨A1, c1, rfl, _⟩ := k1
  obtain ⟨A2, c2, rfl, _⟩ := k2
  unfold cellVals at HW HG ⊢
  generalize Dg.print (numZ z) = S at *
  clear hW
  go_enter Tryd.func42, Tryd.ntmps42
  go_upto_region 1 with fail
  rw [← HW.out]
  go_wp2_with (with_reducible refine wpList_load_mid rfl 24 (.tmp 26) rfl w.heap.size 2 rfl [.bool (numZ z).neg, .slice A1 (numZ z).top.length c1, .slice A2 (numZ z).bot.length c2] _ HR.out Tryd.underlying24 rfl (num_infoL _ _ _) ?_)
  refine PR.out.mono ?_
  rintro e w2 ⟨rfl, hb2⟩
  go_wp2_with fail
  go_ret
  exact ⟨rfl, hb0.trans (hb2.mono hb0.size)⟩
theorem showCell_any (z : Int) (n1 n2 : Value) (w : World) (k1 : IsRes w n1 (numZ z).top) (k2 : IsRes w n2 (numZ z).bot) (hz : -9223372036854775808 ≤ z ∧ z ≤ 9223372036854775807) (hP : Pow10 w) :
    Calls Tryd.prog 81 #[.agg (cellVals (numZ z).neg n1 n2).toArray] w (StrOut w (Dg.print (numZ z))) := by
  obtain ⟨W, hW⟩ : ∃ W, W = w.alloc (.cells (cellVals (numZ z).neg n1 n2).toArray 76) := ⟨_, rfl⟩
  have hb0 : Below w.heap.size w W := by rw [hW]; exact (Below.refl _ _).alloc (Nat.le_refl _) _
  have HG : Hid (W.heap[w.heap.size]? = some (.cells (cellVals (numZ z).neg n1 n2).toArray 76 (0, 0))) := Lib.hid (by rw [hW]; exact heap_alloc_new w _)
  have PR := Lib.hid (digPrint_any (numZ z) n1 n2 W (numZ_r (k1.below_ hb0) (k2.below_ hb0) hz) (hP.below hb0))
  have hk : W.cell? ⟨w.heap.size, 1, none⟩ = some (.int .i64 0) := (cell_of_row W w.heap.size 1 _ _ _ HG.out).trans rfl
  have HR : Hid (W.rangeAt w.heap.size 2 [.bool (numZ z).neg, n1, n2]) := Lib.hid (range_of_row HG.out 2 _ (by
    intro j u hu
    match j with
    | 0 => exact hu
    | 1 => exact hu
    | 2 => exact hu
    | j + 3 => cases hu))
  have HW := Lib.hid hW
  obtain ⟨A1, c1, rfl, _⟩ := k1
  obtain ⟨A2, c2, rfl, _⟩ := k2
  unfold cellVals at HW HG ⊢
  generalize Dg.print (numZ z) = S at *
  clear hW hP
  go_enter Tryd.func81, Tryd.ntmps81
  go_upto_region 1 with fail
  rw [← HW.out]
  go_wp2_with (with_reducible refine wpList_load_mid rfl 24 (.tmp 9) rfl w.heap.size 2 rfl [.bool (numZ z).neg, .slice A1 (numZ z).top.length c1, .slice A2 (numZ z).bot.length c2] _ HR.out Tryd.underlying24 rfl (num_infoL _ _ _) ?_)
  refine PR.out.mono ?_
  rintro e w2 ⟨rfl, hb2⟩
  go_wp2_with fail
  go_ret
  exact ⟨rfl, hb0.trans (hb2.mono hb0.size)⟩
end Go.Proofs.YtfiefglagknclaaDoor

/-
  show.row: numbers' cells, told along one axis. (Printed by wip/bin/gen_show4.py.)
-/
namespace Go.Proofs.YtfiefglagknclaaDoor
open Go.RowKit
set_option maxHeartbeats 4000000
set_option maxRecDepth 100000
set_option linter.unusedVariables false

/-- The first so many numbers, with blanks between. -/
def rowTxt (zs : List Int) : Nat → List UInt8
  | 0 => []
  | i + 1 => rowTxt zs i ++ ((if 0 < i then [32] else []) ++ Dg.print (numZ (zs.getD i 0)))
theorem print_len (z : Int) (h : -9223372036854775808 ≤ z ∧ z ≤ 9223372036854775807) : (Dg.print (numZ z)).length ≤ 25 := by
  have hd : (Lib.decDigits z.natAbs).length ≤ 20 := (Ten.dec_len (r := z.natAbs) (k := 19) (by omega)).2
  unfold Dg.print numZ
  simp only [Nt.val_digs, if_pos, List.append_nil, List.length_append]
  split <;> simp <;> omega
theorem rowTxt_len (zs : List Int) (h : ∀ z ∈ zs, -9223372036854775808 ≤ z ∧ z ≤ 9223372036854775807) : ∀ i, i ≤ zs.length → (rowTxt zs i).length ≤ 26 * i
  | 0, _ => Nat.zero_le _
  | i + 1, hi => by
    have h1 := rowTxt_len zs h i (by omega)
    have h2 : (Dg.print (numZ (zs.getD i 0))).length ≤ 25 := by
      rw [List.getD_eq_getElem?_getD, List.getElem?_eq_getElem (by omega)]
      exact print_len _ (h _ (List.getElem_mem _))
    unfold rowTxt
    generalize Dg.print (numZ (zs.getD i 0)) = P at *
    rw [List.length_append, List.length_append]
    split <;> simp <;> omega
theorem rangeAt_belowS {B : Nat} {w w' : World} (h : Below B w w') {g o : Nat} {cs : List Value} (hg : g < B) (hr : w.rangeAt g o cs) : w'.rangeAt g o cs := fun j v hv => (h.cell hg).trans (hr j v hv)
theorem writeStringK_any (B b : Nat) (bs : List Value) (s : ByteArray) (w : World) (h : Lib.IsBuilderF 96 5 B b bs w) (hlen : bs.length + s.size ≤ 140737488355328) (hBw : B ≤ w.heap.size) :
    Calls Tryd.prog 57 #[.pointer (some ⟨b, 0, none⟩), .string s] w fun e w' => e = .returned (.tuple #[.int .i64 s.size, .nilIface]) ∧ (Lib.BuilderAtF 96 5 B b (.pointer (some ⟨b, 0, none⟩)) (bs ++ Lib.strCells s) w' ∧ Below B w w' ∧ Lib.OthersKept 5 (some b) w w') := Any.Builder_WriteString_k YtfiefglagknclaaDoorLaid YtfiefglagknclaaDoorExtra B b bs s w h hlen hBw
theorem builderF_below {w w' : World} {T e : TypeId} {B b : Nat} {bs : List Value} (h : Lib.IsBuilderF T e B b bs w) (hb : Below w.heap.size w w') : Lib.IsBuilderF T e B b bs w' := by
  have one : ∀ {p : Value}, Lib.BuilderAtF T e B b p bs w → Lib.BuilderAtF T e B b p bs w' := fun {p} k => by
    obtain ⟨h1, v, h2, h3, h4⟩ := k
    refine ⟨h1, v, (hb.block b (Array.getElem?_eq_some_iff.1 h2).1).trans h2, ⟨h3.1, ?_⟩, h4⟩
    rcases h3.2 with h0 | ⟨g, cap, cur, fz, e1, e2, e3, r⟩
    · exact .inl h0
    · exact .inr ⟨g, cap, cur, fz, e1, e2, (hb.block g (Array.getElem?_eq_some_iff.1 e3).1).trans e3, r⟩
  exact h.imp one one
theorem showRow_any (v : Value) (zs : List Int) (base : Nat) (w : World) (h : IsCells w base v zs) (hn : zs.length ≤ 1000) (hz : ∀ z ∈ zs, -9223372036854775808 ≤ z ∧ z ≤ 9223372036854775807) (hP : Pow10 w) :
    Calls Tryd.prog 44 #[v] w (StrOut w (rowTxt zs zs.length)) := by
  obtain ⟨A, c, rfl, hc1, hc2, hat⟩ := h.open_
  have HAT := Lib.hid hat
  have HZ := Lib.hid hz
  have HP := Lib.hid hP
  have HLEN := Lib.hid (fun i (hi : i ≤ zs.length) => rowTxt_len zs hz i hi)
  clear h hat hz hP
  go_enter Tryd.func44, Tryd.ntmps44
  go_wp2_with fail
  go_loopw [4, 15] (fun bv iv wr => ∃ j : Nat, iv = .int .i64 (j : Int) ∧ j ≤ zs.length ∧ bv = .bool (decide (0 < zs.length) && decide (j = 0)) ∧ Hid (Below w.heap.size w wr)) (fun _ iv _ => zs.length - (intOf iv).toNat)
  case atStart => exact ⟨0, by go_num, Nat.zero_le _, by simp, Lib.hid (Below.refl _ _)⟩
  case round =>
    obtain ⟨j, rfl, hj, rfl, HB⟩ := hrel
    by_cases hlt : j < zs.length
    · obtain ⟨g, n1, n2, hA, hg, _, hr, i1, i2⟩ := HAT.out j hlt
      have HR := Lib.hid (rangeAt_belowS HB.out hg hr)
      have HZJ := Lib.hid (HZ.out zs[j] (List.getElem_mem hlt))
      have hgd : zs.getD j 0 = zs[j] := by rw [List.getD_eq_getElem?_getD, List.getElem?_eq_getElem hlt]; rfl
      obtain ⟨z, hz⟩ : ∃ z, z = zs[j] := ⟨_, rfl⟩
      rw [← hz] at HR HZJ i1 i2 hgd
      have J1 := Lib.hid i1
      have J2 := Lib.hid i2
      obtain ⟨A1, c1, rfl, _⟩ := i1
      obtain ⟨A2, c2, rfl, _⟩ := i2
      unfold cellVals at HR
      obtain ⟨W7, hW7⟩ : ∃ W7, W7 = (wr.alloc (.cells #[.int .u64 0, .int .i64 0, .bool false, .slice none 0 0, .slice none 0 0, .int .i64 0, .slice none 0 0] 76)).setRow wr.heap.size #[.int .u64 0, .int .i64 0, .bool (numZ z).neg, .slice A1 (numZ z).top.length c1, .slice A2 (numZ z).bot.length c2, .int .i64 0, .slice none 0 0] := ⟨_, rfl⟩
      have HG6 : Hid ((wr.alloc (.cells #[.int .u64 0, .int .i64 0, .bool false, .slice none 0 0, .slice none 0 0, .int .i64 0, .slice none 0 0] 76)).heap[wr.heap.size]? = some (.cells #[.int .u64 0, .int .i64 0, .bool false, .slice none 0 0, .slice none 0 0, .int .i64 0, .slice none 0 0] 76 (0, 0))) := Lib.hid (heap_alloc_new wr _)
      have HB7 : Hid (Below wr.heap.size wr W7) := Lib.hid (by rw [hW7]; exact rBelow.setRow ((Below.refl _ _).alloc (Nat.le_refl _) _) (Nat.le_refl _) _)
      have HG7 : Hid (W7.heap[wr.heap.size]? = some (.cells #[.int .u64 0, .int .i64 0, .bool (numZ z).neg, .slice A1 (numZ z).top.length c1, .slice A2 (numZ z).bot.length c2, .int .i64 0, .slice none 0 0] 76 (0, 0))) := Lib.hid (by rw [hW7]; exact rheap_same HG6.out)
      have HW7 := Lib.hid hW7
      have HGD := Lib.hid hgd
      clear hW7 hz hr hg hgd

      have HBN : Hid (Below w.heap.size w W7) := Lib.hid (HB.out.trans (HB7.out.mono HB.out.size))
      subst hA
      by_cases hj0 : j = 0
      · have hbv : (decide (0 < zs.length) && decide (j = 0)) = true := by rw [decide_eq_true (by omega), decide_eq_true hj0]; rfl
        rw [hbv]
        have hk : W7.cell? ⟨wr.heap.size, 1, none⟩ = some (.int .i64 0) := (cell_of_row W7 wr.heap.size 1 _ _ _ HG7.out).trans rfl
        have hbv2 : (decide (0 < zs.length) && decide (j + 1 = 0)) = false := by rw [decide_eq_false (show ¬ j + 1 = 0 by omega), Bool.and_false]
        clear hbv hj0
        go_upto_region 5 with (first | (with_reducible refine wpList_load_mid rfl 76 (.tmp 17) rfl g (j * 7) rfl [.int .u64 0, .int .i64 0, .bool (numZ z).neg, .slice A1 (numZ z).top.length c1, .slice A2 (numZ z).bot.length c2, .int .i64 0, .slice none 0 0] _ HR.out Tryd.underlying76 rfl (cell_infoL _ _ _ _ _ _ _) ?_) | (with_reducible refine wpList_store_row rfl 76 (.tmp 6) (.tmp 18) rfl wr.heap.size #[.int .u64 0, .int .i64 0, .bool (numZ z).neg, .slice A1 (numZ z).top.length c1, .slice A2 (numZ z).bot.length c2, .int .i64 0, .slice none 0 0] rfl rfl 76 #[.int .u64 0, .int .i64 0, .bool false, .slice none 0 0, .slice none 0 0, .int .i64 0, .slice none 0 0] HG6.out (cell_infoR _ _ _ _ _ _ _) rfl (cell_one7 _ _ _ _ _ _ _ _ _ _ _ _ _) ?_))
        rw [← HW7.out]
        dsimp only [Act.put]
        go_wp2_with fail
        go_round
        case rel => exact ⟨j + 1, by go_num, hlt, by rw [hbv2], HBN⟩
        case measure => simp [intOf]; omega
      · have hbv : (decide (0 < zs.length) && decide (j = 0)) = false := by rw [decide_eq_false hj0, Bool.and_false]
        rw [hbv]
        have hbv2 : (decide (0 < zs.length) && decide (j + 1 = 0)) = false := by rw [decide_eq_false (show ¬ j + 1 = 0 by omega), Bool.and_false]
        clear hbv
        go_upto_region 5 with (first | (with_reducible refine wpList_load_mid rfl 76 (.tmp 17) rfl g (j * 7) rfl [.int .u64 0, .int .i64 0, .bool (numZ z).neg, .slice A1 (numZ z).top.length c1, .slice A2 (numZ z).bot.length c2, .int .i64 0, .slice none 0 0] _ HR.out Tryd.underlying76 rfl (cell_infoL _ _ _ _ _ _ _) ?_) | (with_reducible refine wpList_store_row rfl 76 (.tmp 6) (.tmp 18) rfl wr.heap.size #[.int .u64 0, .int .i64 0, .bool (numZ z).neg, .slice A1 (numZ z).top.length c1, .slice A2 (numZ z).bot.length c2, .int .i64 0, .slice none 0 0] rfl rfl 76 #[.int .u64 0, .int .i64 0, .bool false, .slice none 0 0, .slice none 0 0, .int .i64 0, .slice none 0 0] HG6.out (cell_infoR _ _ _ _ _ _ _) rfl (cell_one7 _ _ _ _ _ _ _ _ _ _ _ _ _) ?_))
        rw [← HW7.out]
        dsimp only [Act.put]
        go_wp2_with fail
        go_round
        case rel => exact ⟨j + 1, by go_num, hlt, by rw [hbv2], HBN⟩
        case measure => simp [intOf]; omega
    · obtain rfl : j = zs.length := by omega
      have hbv : (decide (0 < zs.length) && decide (zs.length = 0)) = false := by
        by_cases h0 : zs.length = 0
        · rw [h0]; rfl
        · rw [decide_eq_false h0, Bool.and_false]
      rw [hbv]
      clear hbv
      have hbld0 : Lib.IsBuilderF 96 5 wr.heap.size wr.heap.size (Lib.byteCells (rowTxt zs 0)) (wr.alloc (.cells #[.pointer none, .slice none 0 0] 96)) := Lib.IsBuilderF.of (.inl ⟨Nat.le_refl _, .slice none 0 0, heap_alloc_new wr _, World.ownsRow_nil _ _ _ _, by simp [Value.ownBlock]⟩)
      have HBLD0 := Lib.hid hbld0
      have HBQ0 : Hid (Below wr.heap.size wr (wr.alloc (.cells #[.pointer none, .slice none 0 0] 96))) := Lib.hid ((Below.refl _ _).alloc (Nat.le_refl _) _)
      clear hbld0
      have HBO := Lib.hid HB.out
      clear HB
      go_wp2_with fail
      rename World => W
      go_loopw [30] (fun iv wr => ∃ j : Nat, iv = .int .i64 (j : Int) ∧ j ≤ zs.length ∧ Hid (Lib.IsBuilderF 96 5 W.heap.size W.heap.size (Lib.byteCells (rowTxt zs j)) wr) ∧ Hid (W.heap.size < wr.heap.size) ∧ Hid (Below W.heap.size W wr)) (fun iv _ => zs.length - (intOf iv).toNat)
      case atStart => exact ⟨0, by go_num, Nat.zero_le _, HBLD0, Lib.hid (by simp), HBQ0⟩
      case round =>
        clear HBLD0 HBQ0
        obtain ⟨j, rfl, hj, HBD, HLB, HBW⟩ := hrel
        have HB : Hid (Below w.heap.size w wr) := Lib.hid (HBO.out.trans (HBW.out.mono HBO.out.size))
        by_cases hlt : j < zs.length
        · have HNX : Hid (∀ z, zs.getD j 0 = z → rowTxt zs (j + 1) = rowTxt zs j ++ ((if 0 < j then [32] else []) ++ Dg.print (numZ z))) := Lib.hid (fun z h => by rw [← h]; rfl)
          obtain ⟨g, n1, n2, hA, hg, _, hr, i1, i2⟩ := HAT.out j hlt
          have HR := Lib.hid (rangeAt_belowS HB.out hg hr)
          have HZJ := Lib.hid (HZ.out zs[j] (List.getElem_mem hlt))
          have hgd : zs.getD j 0 = zs[j] := by rw [List.getD_eq_getElem?_getD, List.getElem?_eq_getElem hlt]; rfl
          obtain ⟨z, hz⟩ : ∃ z, z = zs[j] := ⟨_, rfl⟩
          rw [← hz] at HR HZJ i1 i2 hgd
          have J1 := Lib.hid i1
          have J2 := Lib.hid i2
          obtain ⟨A1, c1, rfl, _⟩ := i1
          obtain ⟨A2, c2, rfl, _⟩ := i2
          unfold cellVals at HR
          obtain ⟨W7, hW7⟩ : ∃ W7, W7 = (wr.alloc (.cells #[.int .u64 0, .int .i64 0, .bool false, .slice none 0 0, .slice none 0 0, .int .i64 0, .slice none 0 0] 76)).setRow wr.heap.size #[.int .u64 0, .int .i64 0, .bool (numZ z).neg, .slice A1 (numZ z).top.length c1, .slice A2 (numZ z).bot.length c2, .int .i64 0, .slice none 0 0] := ⟨_, rfl⟩
          have HG6 : Hid ((wr.alloc (.cells #[.int .u64 0, .int .i64 0, .bool false, .slice none 0 0, .slice none 0 0, .int .i64 0, .slice none 0 0] 76)).heap[wr.heap.size]? = some (.cells #[.int .u64 0, .int .i64 0, .bool false, .slice none 0 0, .slice none 0 0, .int .i64 0, .slice none 0 0] 76 (0, 0))) := Lib.hid (heap_alloc_new wr _)
          have HB7 : Hid (Below wr.heap.size wr W7) := Lib.hid (by rw [hW7]; exact rBelow.setRow ((Below.refl _ _).alloc (Nat.le_refl _) _) (Nat.le_refl _) _)
          have HG7 : Hid (W7.heap[wr.heap.size]? = some (.cells #[.int .u64 0, .int .i64 0, .bool (numZ z).neg, .slice A1 (numZ z).top.length c1, .slice A2 (numZ z).bot.length c2, .int .i64 0, .slice none 0 0] 76 (0, 0))) := Lib.hid (by rw [hW7]; exact rheap_same HG6.out)
          have HW7 := Lib.hid hW7
          have HGD := Lib.hid hgd
          clear hW7 hz hr hg hgd
          have HNX : Hid (rowTxt zs (j + 1) = rowTxt zs j ++ ((if 0 < j then [32] else []) ++ Dg.print (numZ z))) := Lib.hid (HNX.out z HGD.out)
          have HTL0 := Lib.hid (HLEN.out j hj)
          have HPL := Lib.hid (print_len z HZJ.out)
          have SC := Lib.hid (fun (wx : World) (h : Below w.heap.size w wx) => showCell_any z (.slice A1 (numZ z).top.length c1) (.slice A2 (numZ z).bot.length c2) wx (J1.out.below_ h) (J2.out.below_ h) HZJ.out (HP.out.below h))
          unfold cellVals at SC
          subst hA
          have HBD7 : Hid (Lib.IsBuilderF 96 5 W.heap.size W.heap.size (Lib.byteCells (rowTxt zs j)) W7) := Lib.hid (builderF_below HBD.out HB7.out)
          have HBW7 : Hid (Below W.heap.size W W7) := Lib.hid (HBW.out.trans (HB7.out.mono HBW.out.size))
          clear HBD HLEN HAT HZ
          go_upto_region 13 with (first | (with_reducible refine wpList_load_mid rfl 76 (.tmp 33) rfl g (j * 7) rfl [.int .u64 0, .int .i64 0, .bool (numZ z).neg, .slice A1 (numZ z).top.length c1, .slice A2 (numZ z).bot.length c2, .int .i64 0, .slice none 0 0] _ HR.out Tryd.underlying76 rfl (cell_infoL _ _ _ _ _ _ _) ?_) | (with_reducible refine wpList_store_row rfl 76 (.tmp 9) (.tmp 34) rfl wr.heap.size #[.int .u64 0, .int .i64 0, .bool (numZ z).neg, .slice A1 (numZ z).top.length c1, .slice A2 (numZ z).bot.length c2, .int .i64 0, .slice none 0 0] rfl rfl 76 #[.int .u64 0, .int .i64 0, .bool false, .slice none 0 0, .slice none 0 0, .int .i64 0, .slice none 0 0] HG6.out (cell_infoR _ _ _ _ _ _ _) rfl (cell_one7 _ _ _ _ _ _ _ _ _ _ _ _ _) ?_))
          rw [← HW7.out]
          dsimp only [Act.put]
          by_cases hj0 : 0 < j
          · have WS1 := Lib.hid (writeStringK_any W.heap.size W.heap.size (Lib.byteCells (rowTxt zs j)) ⟨#[32]⟩ W7 HBD7.out (by rw [Lib.byteCells_length]; show (rowTxt zs j).length + 1 ≤ _; have := HTL0.out; omega) HBW7.out.size)
            rw [if_pos hj0] at HNX
            obtain ⟨T, hT⟩ : ∃ T, T = rowTxt zs j ++ [32] := ⟨_, rfl⟩
            have HNT : Hid (rowTxt zs (j + 1) = T ++ Dg.print (numZ z)) := Lib.hid (by rw [HNX.out, hT, List.append_assoc])
            have HTE := Lib.hid hT
            have HTL : Hid (T.length ≤ 26027) := Lib.hid (by have := HTL0.out; rw [hT, List.length_append]; simp only [List.length_cons, List.length_nil]; omega)
            clear hT
            go_upto_region 15 with (go_at_call 57; refine WS1.out.mono ?_; rintro e w8 ⟨rfl, hbd8, hb8, hk8⟩)
            have BD8 : Hid (Lib.IsBuilderF 96 5 W.heap.size W.heap.size (Lib.byteCells T) w8) := Lib.hid (.inr (by rw [HTE.out, Lib.byteCells_append]; exact hbd8))
            have HG8 : Hid (w8.heap[wr.heap.size]? = some (.cells #[.int .u64 0, .int .i64 0, .bool (numZ z).neg, .slice A1 (numZ z).top.length c1, .slice A2 (numZ z).bot.length c2, .int .i64 0, .slice none 0 0] 76 (0, 0))) := Lib.hid (hk8 _ _ HG7.out (fun e => by injection e with e; have := HLB.out; omega) (fun c fz e => by injection e with _ e2; exact absurd e2 (by decide)))
            have HB8 : Hid (Below W.heap.size W w8) := Lib.hid (HBW7.out.trans hb8)
            clear hbd8 hb8 hk8
            have HBS := Lib.hid (HBO.out.trans (HB8.out.mono HBO.out.size))
            go_wp2_with (with_reducible refine wpList_load_row rfl 76 (.tmp 9) rfl wr.heap.size rfl 76 #[.int .u64 0, .int .i64 0, .bool (numZ z).neg, .slice A1 (numZ z).top.length c1, .slice A2 (numZ z).bot.length c2, .int .i64 0, .slice none 0 0] (0, 0) _ HG8.out Tryd.underlying76 rfl (cell_infoR _ _ _ _ _ _ _) ?_)
            refine (SC.out _ HBS.out).mono ?_
            rintro e w9 ⟨rfl, hb9⟩
            have WS2 := Lib.hid (writeStringK_any W.heap.size W.heap.size (Lib.byteCells T) ⟨(Dg.print (numZ z)).toArray⟩ w9 (builderF_below BD8.out hb9) (by rw [Lib.byteCells_length]; show T.length + (Dg.print (numZ z)).length ≤ _; have := HTL.out; have := HPL.out; omega) (Nat.le_trans HB8.out.size hb9.size))
            have HB9 : Hid (Below W.heap.size W w9) := Lib.hid (HB8.out.trans (hb9.mono HB8.out.size))
            clear hb9
            go_wp2_with (go_at_call 57; refine WS2.out.mono ?_; rintro e w10 ⟨rfl, hbd10, hb10, hk10⟩)
            have HBLD : Hid (Lib.IsBuilderF 96 5 W.heap.size W.heap.size (Lib.byteCells (rowTxt zs (j + 1))) w10) := Lib.hid (.inr (by
              rw [HNT.out, Lib.byteCells_append]
              exact hbd10))
            have HBZ : Hid (Below W.heap.size W w10) := Lib.hid (HB9.out.trans hb10)
            have HLZ : Hid (W.heap.size < w10.heap.size) := Lib.hid (by obtain ⟨_, _, h2, _⟩ := hbd10; exact (Array.getElem?_eq_some_iff.1 h2).1)
            clear hbd10 hb10 hk10
            go_round
            case rel => exact ⟨j + 1, by go_num, hlt, HBLD, HLZ, HBZ⟩
            case measure => simp [intOf]; omega
          · rw [if_neg hj0] at HNX
            obtain ⟨T, hT⟩ : ∃ T, T = rowTxt zs j := ⟨_, rfl⟩
            have HNT : Hid (rowTxt zs (j + 1) = T ++ Dg.print (numZ z)) := Lib.hid (by rw [HNX.out, hT, List.nil_append])
            have HTL : Hid (T.length ≤ 26027) := Lib.hid (by have := HTL0.out; rw [hT]; omega)
            have BD8 : Hid (Lib.IsBuilderF 96 5 W.heap.size W.heap.size (Lib.byteCells T) W7) := Lib.hid (by rw [hT]; exact HBD7.out)
            have HG8 := HG7
            have HB8 := HBW7
            clear hT
            go_upto_region 15 with fail
            have HBS := Lib.hid (HBO.out.trans (HB8.out.mono HBO.out.size))
            go_wp2_with (with_reducible refine wpList_load_row rfl 76 (.tmp 9) rfl wr.heap.size rfl 76 #[.int .u64 0, .int .i64 0, .bool (numZ z).neg, .slice A1 (numZ z).top.length c1, .slice A2 (numZ z).bot.length c2, .int .i64 0, .slice none 0 0] (0, 0) _ HG8.out Tryd.underlying76 rfl (cell_infoR _ _ _ _ _ _ _) ?_)
            refine (SC.out _ HBS.out).mono ?_
            rintro e w9 ⟨rfl, hb9⟩
            have WS2 := Lib.hid (writeStringK_any W.heap.size W.heap.size (Lib.byteCells T) ⟨(Dg.print (numZ z)).toArray⟩ w9 (builderF_below BD8.out hb9) (by rw [Lib.byteCells_length]; show T.length + (Dg.print (numZ z)).length ≤ _; have := HTL.out; have := HPL.out; omega) (Nat.le_trans HB8.out.size hb9.size))
            have HB9 : Hid (Below W.heap.size W w9) := Lib.hid (HB8.out.trans (hb9.mono HB8.out.size))
            clear hb9
            go_wp2_with (go_at_call 57; refine WS2.out.mono ?_; rintro e w10 ⟨rfl, hbd10, hb10, hk10⟩)
            have HBLD : Hid (Lib.IsBuilderF 96 5 W.heap.size W.heap.size (Lib.byteCells (rowTxt zs (j + 1))) w10) := Lib.hid (.inr (by
              rw [HNT.out, Lib.byteCells_append]
              exact hbd10))
            have HBZ : Hid (Below W.heap.size W w10) := Lib.hid (HB9.out.trans hb10)
            have HLZ : Hid (W.heap.size < w10.heap.size) := Lib.hid (by obtain ⟨_, _, h2, _⟩ := hbd10; exact (Array.getElem?_eq_some_iff.1 h2).1)
            clear hbd10 hb10 hk10
            go_round
            case rel => exact ⟨j + 1, by go_num, hlt, HBLD, HLZ, HBZ⟩
            case measure => simp [intOf]; omega
        · obtain rfl : j = zs.length := by omega
          have BS := Lib.hid (Tryd.Builder_String_any_k W.heap.size W.heap.size (rowTxt zs zs.length) wr HBD.out HBW.out.size)
          clear HBD HLEN HAT HZ
          go_wp2_with (go_at_call 58; refine BS.out.mono ?_; rintro e w7 ⟨rfl, _, hb7, _⟩)
          go_ret
          exact ⟨rfl, HBO.out.trans ((HBW.out.trans hb7).mono HBO.out.size)⟩
end Go.Proofs.YtfiefglagknclaaDoor

/-
  show.Text and scrimref28.Text of numbers along one axis, or alone.
-/
namespace Go.Proofs.YtfiefglagknclaaDoor
open Go.RowKit
set_option maxHeartbeats 4000000
set_option maxRecDepth 100000
set_option linter.unusedVariables false

theorem showText1_any (s : Int) (sv v : Value) (sh zs : List Int) (base : Nat) (w : World) (hs : w.ownsRow 0 3 1 sv sh.length (I64 sh)) (hv : IsCells w base v zs) (hsh : sh.length ≤ 1) (hn : zs.length ≤ 1000) (hz : ∀ z ∈ zs, -9223372036854775808 ≤ z ∧ z ≤ 9223372036854775807) (hP : Pow10 w) :
    Calls Tryd.prog 18 #[.agg #[.int .u64 s, sv, v]] w (StrOut w (rowTxt zs zs.length)) := by
  obtain ⟨W, hW⟩ : ∃ W, W = w.alloc (.cells #[.int .u64 s, sv, v] 40) := ⟨_, rfl⟩
  have hb0 : Below w.heap.size w W := by rw [hW]; exact (Below.refl _ _).alloc (Nat.le_refl _) _
  have HG : Hid (W.heap[w.heap.size]? = some (.cells #[.int .u64 s, sv, v] 40 (0, 0))) := Lib.hid (by rw [hW]; exact heap_alloc_new w _)
  have RW := Lib.hid (showRow_any v zs base W (hv.below hb0) hn hz (hP.below hb0))
  have hc1 : W.cell? ⟨w.heap.size, 1, none⟩ = some sv := (cell_of_row W w.heap.size 1 _ _ _ HG.out).trans rfl
  have hc2 : W.cell? ⟨w.heap.size, 2, none⟩ = some v := (cell_of_row W w.heap.size 2 _ _ _ HG.out).trans rfl
  obtain ⟨A1, c1, rfl, _, _⟩ := own_slice hs
  obtain ⟨A2, c2, rfl, _⟩ := hv.open_
  have HW := Lib.hid hW
  have hlt : ¬ (1 : Int) ≤ (sh.length : Int) - 1 := by omega
  clear hW hs hv hP hz
  go_enter Tryd.func18, Tryd.ntmps18
  go_upto_region 1 with fail
  rw [← HW.out]
  go_wp2_with fail
  refine RW.out.mono ?_
  rintro e w2 ⟨rfl, hb2⟩
  go_wp2_with fail
  go_ret
  exact ⟨rfl, hb0.trans (hb2.mono hb0.size)⟩
theorem refText28_any (s : Int) (sv v : Value) (sh zs : List Int) (base : Nat) (w : World) (hs : w.ownsRow 0 3 1 sv sh.length (I64 sh)) (hv : IsCells w base v zs) (hsh : sh.length ≤ 1) (hn : zs.length ≤ 1000) (hz : ∀ z ∈ zs, -9223372036854775808 ≤ z ∧ z ≤ 9223372036854775807) :
    Calls Tryd.prog 16 #[.agg #[.int .u64 s, sv, v]] w (StrOut w (rowTxt zs zs.length)) := by
  obtain ⟨W, hW⟩ : ∃ W, W = w.alloc (.cells #[.int .u64 s, sv, v] 40) := ⟨_, rfl⟩
  have hb0 : Below w.heap.size w W := by rw [hW]; exact (Below.refl _ _).alloc (Nat.le_refl _) _
  have HG : Hid (W.heap[w.heap.size]? = some (.cells #[.int .u64 s, sv, v] 40 (0, 0))) := Lib.hid (by rw [hW]; exact heap_alloc_new w _)
  have HWS : Hid (w.heap.size < W.heap.size) := Lib.hid (by rw [hW]; simp)
  have hvW := hv.below hb0
  obtain ⟨A1, c1, rfl, _, _⟩ := own_slice hs
  obtain ⟨A2, c2, rfl, hcc1, hcc2, hat⟩ := hvW.open_
  have HAT := Lib.hid hat
  have HZ := Lib.hid hz
  have HLEN := Lib.hid (fun i (hi : i ≤ zs.length) => rowTxt_len zs hz i hi)
  have HC : Hid (∀ wx, Below W.heap.size W wx → wx.cell? ⟨w.heap.size, 1, none⟩ = some (.slice A1 sh.length c1) ∧ wx.cell? ⟨w.heap.size, 2, none⟩ = some (.slice A2 zs.length c2)) := Lib.hid (fun wx h => ⟨(h.cell HWS.out).trans ((cell_of_row W w.heap.size 1 _ _ _ HG.out).trans rfl), (h.cell HWS.out).trans ((cell_of_row W w.heap.size 2 _ _ _ HG.out).trans rfl)⟩)
  obtain ⟨hc1, hc2⟩ := HC.out W (Below.refl _ _)
  have HW := Lib.hid hW
  have hlt : ¬ (1 : Int) < (sh.length : Int) := by omega
  clear hW hs hv hz hvW hat
  go_enter Tryd.func16, Tryd.ntmps16
  go_upto_region 1 with fail
  rw [← HW.out]
  go_wp2_with fail
  go_loop [8, 9] (fun bv iv => ∃ i : Nat, iv = .int .i64 (i : Int) ∧ i ≤ zs.length ∧ bv = .string (if i = 0 then ⟨#[]⟩ else ⟨#[32]⟩)) (fun _ iv => zs.length - (intOf iv).toNat)
  case atStart => exact ⟨0, by go_num, Nat.zero_le _, rfl⟩
  case round =>
    obtain ⟨i, rfl, hi, rfl⟩ := hrel
    by_cases hlt2 : i < zs.length
    · obtain ⟨g, n1, n2, hA, hg, _, hr, i1, i2⟩ := HAT.out i hlt2
      subst hA
      have hk : W.cell? ⟨g, i * 7 + 1, none⟩ = some (.int .i64 0) := hr 1 _ rfl
      clear hr i1 i2 hg
      go_wp2_with fail
      go_round
      case rel => exact ⟨i + 1, by go_num, hlt2, by rw [if_neg (by omega)]⟩
      case measure => simp [intOf]; omega
    · obtain rfl : i = zs.length := by omega
      clear hlt2
      obtain ⟨bl, hbl⟩ : ∃ bl : ByteArray, bl = (if zs.length = 0 then ⟨#[]⟩ else ⟨#[32]⟩) := ⟨_, rfl⟩
      rw [← hbl]
      have HBL : Hid (0 < zs.length → bl = ⟨#[32]⟩) := Lib.hid (fun h => by rw [hbl, if_neg (by omega)])
      clear hbl
      go_wp2_with fail
      go_loopw [3, 10] (fun tv iv wr => ∃ j : Nat, iv = .int .i64 (j : Int) ∧ j ≤ zs.length ∧ tv = .string ⟨(rowTxt zs j).toArray⟩ ∧ Hid (Below W.heap.size W wr)) (fun _ iv _ => zs.length - (intOf iv).toNat)
      case atStart => exact ⟨0, by go_num, Nat.zero_le _, rfl, Lib.hid (Below.refl _ _)⟩
      case round =>
        clear hc1 hc2
        obtain ⟨j, rfl, hj, rfl, HB⟩ := hrel
        obtain ⟨hc1, hc2⟩ := HC.out wr HB.out
        have hTL := HLEN.out j hj
        by_cases hlt3 : j < zs.length
        · obtain ⟨g, n1, n2, hA, hg, _, hr, i1, i2⟩ := HAT.out j hlt3
          subst hA
          have HR := Lib.hid (rangeAt_belowS HB.out hg hr)
          have HZJ := Lib.hid (HZ.out zs[j] (List.getElem_mem hlt3))
          have hgd : zs.getD j 0 = zs[j] := by rw [List.getD_eq_getElem?_getD, List.getElem?_eq_getElem hlt3]; rfl
          have HNX : Hid (rowTxt zs (j + 1) = rowTxt zs j ++ ((if 0 < j then [32] else []) ++ Dg.print (numZ zs[j]))) := Lib.hid (by rw [← hgd]; rfl)
          have SC := Lib.hid (refCell28_any zs[j] n1 n2 wr (i1.below_ HB.out) (i2.below_ HB.out) HZJ.out)
          have hPL := print_len zs[j] HZJ.out
          have hbl : bl = ⟨#[32]⟩ := HBL.out (by omega)
          subst hbl
          generalize zs[j] = z at *
          obtain ⟨A3, c3, rfl, _⟩ := i1
          obtain ⟨A4, c4, rfl, _⟩ := i2
          unfold cellVals at HR SC
          obtain ⟨P, hPP⟩ : ∃ P, P = Dg.print (numZ z) := ⟨_, rfl⟩
          rw [← hPP] at SC HNX hPL
          obtain ⟨T, hT⟩ : ∃ T, T = rowTxt zs j := ⟨_, rfl⟩
          rw [← hT] at HNX hTL ⊢
          have hTs : (⟨T.toArray⟩ : ByteArray).size = T.length := rfl
          have hPs : (⟨P.toArray⟩ : ByteArray).size = P.length := rfl
          have hbs : (⟨#[32]⟩ : ByteArray).size = 1 := rfl
          clear hr hgd hPP hT hg
          by_cases hj0 : 0 < j
          · rw [if_pos hj0] at HNX
            have HST : Hid ((⟨T.toArray⟩ : ByteArray) ++ ⟨#[32]⟩ ++ ⟨P.toArray⟩ = ⟨(rowTxt zs (j + 1)).toArray⟩) := Lib.hid (by rw [HNX.out]; apply ByteArray.ext; simp)
            go_wp2_with (with_reducible refine wpList_load_mid rfl 76 (.tmp 81) rfl g (j * 7) rfl [.int .u64 0, .int .i64 0, .bool (numZ z).neg, .slice A3 (numZ z).top.length c3, .slice A4 (numZ z).bot.length c4, .int .i64 0, .slice none 0 0] _ HR.out Tryd.underlying76 rfl (cell_infoL _ _ _ _ _ _ _) ?_)
            refine SC.out.mono ?_
            rintro e w8 ⟨rfl, hb8⟩
            have HB8 : Hid (Below W.heap.size W w8) := Lib.hid (HB.out.trans (hb8.mono HB.out.size))
            clear hb8
            go_wp2_with fail
            go_round
            case rel => exact ⟨j + 1, by go_num, hlt3, by rw [← HST.out], HB8⟩
            case measure => simp [intOf]; omega
          · rw [if_neg hj0] at HNX
            have HST : Hid ((⟨T.toArray⟩ : ByteArray) ++ ⟨P.toArray⟩ = ⟨(rowTxt zs (j + 1)).toArray⟩) := Lib.hid (by rw [HNX.out]; apply ByteArray.ext; simp)
            go_wp2_with (with_reducible refine wpList_load_mid rfl 76 (.tmp 81) rfl g (j * 7) rfl [.int .u64 0, .int .i64 0, .bool (numZ z).neg, .slice A3 (numZ z).top.length c3, .slice A4 (numZ z).bot.length c4, .int .i64 0, .slice none 0 0] _ HR.out Tryd.underlying76 rfl (cell_infoL _ _ _ _ _ _ _) ?_)
            refine SC.out.mono ?_
            rintro e w8 ⟨rfl, hb8⟩
            have HB8 : Hid (Below W.heap.size W w8) := Lib.hid (HB.out.trans (hb8.mono HB.out.size))
            clear hb8
            go_wp2_with fail
            go_round
            case rel => exact ⟨j + 1, by go_num, hlt3, by rw [← HST.out], HB8⟩
            case measure => simp [intOf]; omega
        · obtain rfl : j = zs.length := by omega
          clear hlt3
          go_wp2_with fail
          go_ret
          exact ⟨rfl, hb0.trans (HB.out.mono hb0.size)⟩
end Go.Proofs.YtfiefglagknclaaDoor

/-
  shape.Count of one axis; slices.Clone of numbers' cells.
-/
namespace Go.Proofs.YtfiefglagknclaaDoor
open Go.RowKit
set_option maxHeartbeats 4000000
set_option maxRecDepth 100000
set_option linter.unusedVariables false

theorem count1_any (x : Int) (w : World) (hx : 0 < x) : Calls Tryd.prog 116 #[.int .i64 x] w fun e w' => e = .returned (.bool false) ∧ w = w' := by
  have q : decide (x < 0) = false := decide_eq_false (by omega)
  go_enter Tryd.func116, Tryd.ntmps116
  go_wp2_with fail
  go_ret
  exact ⟨rfl, rfl⟩
theorem count2_any (x : Int) (w : World) (hx : x ≤ 2048) : Calls Tryd.prog 117 #[.int .i64 x] w fun e w' => e = .returned (.bool false) ∧ w = w' := by
  have q : decide (2048 < x) = false := decide_eq_false (by omega)
  go_enter Tryd.func117, Tryd.ntmps117
  go_wp2_with fail
  go_ret
  exact ⟨rfl, rfl⟩
theorem indexFunc1_any (F : FuncId) (hE : ∀ args w, (callFunc F args).run Tryd.prog w = .ok (.enter F args) w) (A : Option Addr) (c : Nat) (x : Int) (w : World) (hl : Lies w w.heap.size A (I64 [x])) (hF : Calls Tryd.prog F #[.int .i64 x] w fun e w' => e = .returned (.bool false) ∧ w = w') :
    Calls Tryd.prog 140 #[.slice A 1 c, .func (.func F) #[] #[]] w fun e w' => e = .returned (.int .i64 (-1)) ∧ w = w' := by
  obtain ⟨b, off, rfl, hb, g0⟩ := lies_i64 hl (k := 0) (Nat.succ_pos 0)
  have g1 : w.cell? ⟨b, off, none⟩ = some (.int .i64 x) := g0
  have HF := Lib.hid hF
  clear hl g0 hF
  go_enter Tryd.func140, Tryd.ntmps140
  go_wp2_with fail
  go_loop [8] (fun iv => ∃ i : Nat, iv = .int .i64 (i : Int) ∧ i ≤ 1) (fun iv => 1 - (intOf iv).toNat)
  case atStart => exact ⟨0, by go_num, Nat.zero_le _⟩
  case round =>
    obtain ⟨i, rfl, hi⟩ := hrel
    rcases (show i = 0 ∨ i = 1 by omega) with rfl | rfl
    · go_wp2_with fail
      refine HF.out.mono ?_
      rintro e w' ⟨rfl, rfl⟩
      go_wp2_with fail
      go_round
      case rel => exact ⟨1, by go_num, Nat.le_refl _⟩
      case measure => simp [intOf]
    · go_wp2_with fail
      go_ret
      exact ⟨rfl, rfl⟩
theorem contFunc1_any (F : FuncId) (hE : ∀ args w, (callFunc F args).run Tryd.prog w = .ok (.enter F args) w) (A : Option Addr) (c : Nat) (x : Int) (w : World) (hl : Lies w w.heap.size A (I64 [x])) (hF : Calls Tryd.prog F #[.int .i64 x] w fun e w' => e = .returned (.bool false) ∧ w = w') :
    Calls Tryd.prog 115 #[.slice A 1 c, .func (.func F) #[] #[]] w fun e w' => e = .returned (.bool false) ∧ w = w' := by
  have IX := Lib.hid (indexFunc1_any F hE A c x w hl hF)
  clear hE
  clear hl hF
  go_enter Tryd.func115, Tryd.ntmps115
  go_wp2_with fail
  refine IX.out.mono ?_
  rintro e w' ⟨rfl, rfl⟩
  go_wp2_with fail
  go_ret
  exact ⟨rfl, rfl⟩
theorem index1_any (A : Option Addr) (c : Nat) (x : Int) (w : World) (hl : Lies w w.heap.size A (I64 [x])) (hx : 0 < x) :
    Calls Tryd.prog 141 #[.slice A 1 c, .int .i64 0] w fun e w' => e = .returned (.int .i64 (-1)) ∧ w = w' := by
  obtain ⟨b, off, rfl, hb, g0⟩ := lies_i64 hl (k := 0) (Nat.succ_pos 0)
  have g1 : w.cell? ⟨b, off, none⟩ = some (.int .i64 x) := g0
  have q : ((0 : Int) == x) = false := beq_eq_false_iff_ne.2 (by omega)
  clear hl g0
  go_enter Tryd.func141, Tryd.ntmps141
  go_wp2_with fail
  go_loop [8] (fun iv => ∃ i : Nat, iv = .int .i64 (i : Int) ∧ i ≤ 1) (fun iv => 1 - (intOf iv).toNat)
  case atStart => exact ⟨0, by go_num, Nat.zero_le _⟩
  case round =>
    obtain ⟨i, rfl, hi⟩ := hrel
    rcases (show i = 0 ∨ i = 1 by omega) with rfl | rfl
    · go_wp2_with fail
      go_round
      case rel => exact ⟨1, by go_num, Nat.le_refl _⟩
      case measure => simp [intOf]
    · go_wp2_with fail
      go_ret
      exact ⟨rfl, rfl⟩
theorem contains1_any (A : Option Addr) (c : Nat) (x : Int) (w : World) (hl : Lies w w.heap.size A (I64 [x])) (hx : 0 < x) :
    Calls Tryd.prog 118 #[.slice A 1 c, .int .i64 0] w fun e w' => e = .returned (.bool false) ∧ w = w' := by
  have IX := Lib.hid (index1_any A c x w hl hx)
  clear hl
  go_enter Tryd.func118, Tryd.ntmps118
  go_wp2_with fail
  refine IX.out.mono ?_
  rintro e w' ⟨rfl, rfl⟩
  go_wp2_with fail
  go_ret
  exact ⟨rfl, rfl⟩
theorem product1_any (A : Option Addr) (c : Nat) (x : Int) (w : World) (hl : Lies w w.heap.size A (I64 [x])) (hx : 0 < x) (hx2 : x ≤ 2048) :
    Calls Tryd.prog 119 #[.slice A 1 c] w fun e w' => e = .returned (.int .i64 x) ∧ w = w' := by
  obtain ⟨b, off, rfl, hb, g0⟩ := lies_i64 hl (k := 0) (Nat.succ_pos 0)
  have g1 : w.cell? ⟨b, off, none⟩ = some (.int .i64 x) := g0
  clear hl g0
  go_enter Tryd.func119, Tryd.ntmps119
  go_wp2_with fail
  go_loop [3, 8] (fun pv iv => ∃ i : Nat, iv = .int .i64 (i : Int) ∧ i ≤ 1 ∧ pv = .int .i64 (if i = 0 then 1 else x)) (fun _ iv => 1 - (intOf iv).toNat)
  case atStart => exact ⟨0, by go_num, Nat.zero_le _, rfl⟩
  case round =>
    obtain ⟨i, rfl, hi, rfl⟩ := hrel
    rcases (show i = 0 ∨ i = 1 by omega) with rfl | rfl
    · go_wp2_with fail
      go_round
      case rel => exact ⟨1, by go_num, Nat.le_refl _, by simp⟩
      case measure => simp [intOf]
    · go_wp2_with fail
      go_ret
      exact ⟨rfl, rfl⟩
theorem shapeCount1_any (A : Option Addr) (c : Nat) (x : Int) (w : World) (hl : Lies w w.heap.size A (I64 [x])) (hx : 0 < x) (hx2 : x ≤ 2048) :
    Calls Tryd.prog 82 #[.slice A 1 c] w fun e w' => e = .returned (.tuple #[.int .i64 x, .int .i64 0]) ∧ w = w' := by
  have C1 := Lib.hid (contFunc1_any 116 (enters_of Tryd.func116 (by kernel_rfl) rfl) A c x w hl (count1_any x w hx))
  have C2 := Lib.hid (contFunc1_any 117 (enters_of Tryd.func117 (by kernel_rfl) rfl) A c x w hl (count2_any x w hx2))
  have C3 := Lib.hid (contains1_any A c x w hl hx)
  have C4 := Lib.hid (product1_any A c x w hl hx hx2)
  have q : (x == 0) = false := beq_eq_false_iff_ne.2 (by omega)
  clear hl
  go_enter Tryd.func82, Tryd.ntmps82
  go_wp2_with fail
  refine C1.out.mono ?_
  rintro e w' ⟨rfl, rfl⟩
  go_wp2_with fail
  refine C2.out.mono ?_
  rintro e w' ⟨rfl, rfl⟩
  go_wp2_with fail
  refine C3.out.mono ?_
  rintro e w' ⟨rfl, rfl⟩
  go_wp2_with fail
  refine C4.out.mono ?_
  rintro e w' ⟨rfl, rfl⟩
  go_wp2_with fail
  go_ret2
  exact ⟨rfl, rfl⟩
end Go.Proofs.YtfiefglagknclaaDoor

/-
  slices.Clone of one number, and of numbers' cells.
-/
namespace Go.Proofs.YtfiefglagknclaaDoor
open Go.RowKit
set_option maxHeartbeats 4000000
set_option maxRecDepth 100000
set_option linter.unusedVariables false

theorem own_empty (w : World) (t : TypeId) (size : Nat) : (w.alloc (.cells #[] t)).ownsRow w.heap.size t size (.slice (some ⟨w.heap.size, 0, none⟩) 0 0) 0 [] :=
  ⟨by simp, .inr ⟨w.heap.size, 0, #[], rfl, Nat.le_refl _, heap_alloc_new w _, Nat.le_refl _, Nat.zero_le _, by simp, by simp⟩⟩
theorem ownQ_empty (w : World) (q : Value → Prop) (t : TypeId) (size : Nat) : (w.alloc (.cells #[] t)).ownsQ q w.heap.size t size (.slice (some ⟨w.heap.size, 0, none⟩) 0 0) 0 [] :=
  ⟨by simp, .inr ⟨w.heap.size, 0, #[], rfl, Nat.le_refl _, heap_alloc_new w _, Nat.le_refl _, Nat.zero_le _, by simp, by simp, by simp⟩⟩
theorem cloneInt1_any (A : Option Addr) (c : Nat) (x : Int) (w : World) (hl : Lies w w.heap.size A (I64 [x])) :
    Calls Tryd.prog 83 #[.slice A 1 c] w fun e w' => ∃ v, e = .returned v ∧ w'.ownsRow w.heap.size 3 1 v 1 (I64 [x]) ∧ Below w.heap.size w w' := by
  obtain ⟨i0, hi0, hz0, hz1, hz2⟩ := info_parts i64_info
  obtain ⟨b, off, rfl, hb, g0⟩ := lies_i64 hl (k := 0) (Nat.succ_pos 0)
  have g1 : w.cell? ⟨b, off, none⟩ = some (.int .i64 x) := g0
  have hq : ∀ wx, (binOp .eql 35 (.slice (some ⟨b, off, none⟩) 1 c) (.slice none 0 0)).run Tryd.prog wx = .ok (.bool false) wx := fun wx => Lib.run_eql_slice_nil wx 35 3 _ _ _ _ _ Tryd.underlying35
  have hb1 : Below w.heap.size w (w.alloc (.cells #[] 3)) := (Below.refl _ _).alloc (Nat.le_refl _) _
  have HB1 := Lib.hid hb1
  have HC : Hid (∀ j u, (I64 [x])[j]? = some u → (w.alloc (.cells #[] 3)).cell? ((⟨b, off, none⟩ : Addr).add j) = some u) := Lib.hid (by
    intro j u hu
    match j with
    | 0 =>
      rw [Addr.add_lit, Nat.add_zero, hb1.cell hb, g1]
      exact hu
    | j + 1 => cases hu)
  clear hl g0 hb1
  go_enter Tryd.func83, Tryd.ntmps83
  go_wp2_with (at_builtin; refine wpList_append_own _ rfl _ _ 35 rfl w.heap.size 3 i0 (.int .i64 0) 1 8 Tryd.underlying35 hi0 hz0 hz1 hz2 rfl (by decide) _ 0 [] rfl (own_empty w _ _) ⟨b, off, none⟩ 1 c (I64 [x]) rfl rfl HC.out (by intro u hu; have hu : u ∈ [Value.int .i64 x] := hu; rw [List.mem_singleton] at hu; subst hu; rfl) (by decide) (by decide) HB1.out.size ?_; intro v3 w3 hown3 hgr3 hnn3)
  have HB3 := HB1.out.grown hgr3 HB1.out.size (fun k hk => by injection hk with hk; have hk : w.heap.size = k := hk; omega)
  go_ret
  exact ⟨_, rfl, by simpa using hown3, HB3⟩
theorem cloneCells_any (b off : Nat) (c : Nat) (zs : List Int) (xs : List Value) (w : World) (hb : b < w.heap.size) (hr : w.rangeAt b off xs) (hx : CellRows w zs xs) (hn : zs.length ≤ 1000) (hq : ∀ u ∈ xs, NoU u) (h1 : ∀ u ∈ xs, u.oneCell' = true) :
    Calls Tryd.prog 84 #[.slice (some ⟨b, off, none⟩) zs.length c] w fun e w' => ∃ v, e = .returned v ∧ w'.ownsQ NoU w.heap.size 76 7 v zs.length xs ∧ Below w.heap.size w w' := by
  obtain ⟨i0, hi0, hz0, hz1, hz2⟩ := info_parts cells_info
  have hq0 : ∀ wx, (binOp .eql 38 (.slice (some ⟨b, off, none⟩) zs.length c) (.slice none 0 0)).run Tryd.prog wx = .ok (.bool false) wx := fun wx => Lib.run_eql_slice_nil wx 38 76 _ _ _ _ _ Tryd.underlying38
  have hb1 : Below w.heap.size w (w.alloc (.cells #[] 76)) := (Below.refl _ _).alloc (Nat.le_refl _) _
  have HB1 := Lib.hid hb1
  have HC : Hid (∀ j u, xs[j]? = some u → (w.alloc (.cells #[] 76)).cell? ((⟨b, off, none⟩ : Addr).add j) = some u) := Lib.hid (by
    intro j u hu
    rw [Addr.add_lit, hb1.cell (show (⟨b, off + j, none⟩ : Addr).block < _ from hb)]
    exact hr j u hu)
  have HXL := Lib.hid hx.len
  have HQ := Lib.hid hq
  have H1 := Lib.hid h1
  clear hr hb1 hx hq h1
  go_enter Tryd.func84, Tryd.ntmps84
  go_wp2_with (at_builtin; refine wpList_append_ownQ _ rfl _ _ 38 rfl NoU w.heap.size 76 i0 _ 7 104 Tryd.underlying38 hi0 hz0 hz1 hz2 rfl (by decide) cellZ_noU _ 0 [] rfl (ownQ_empty w _ _ _) ⟨b, off, none⟩ zs.length c xs rfl HXL.out HC.out H1.out HQ.out (by unfold maxLen; omega) (by omega) HB1.out.size ?_; intro v3 w3 hown3 hgr3 hnn3 hat3)
  have HB3 := HB1.out.grown hgr3 HB1.out.size (fun k hk => by injection hk with hk; have hk : w.heap.size = k := hk; omega)
  go_ret
  exact ⟨_, rfl, by simpa using hown3, HB3⟩
end Go.Proofs.YtfiefglagknclaaDoor
