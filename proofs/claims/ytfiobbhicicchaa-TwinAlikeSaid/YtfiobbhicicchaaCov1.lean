/-
  Arrays without labels, by the reference: scrimref08.Cover (of 0, erased), Erase, Match.
-/
import Derived.Test.YtfiobbhicicchaaArrP
import Derived.Test.YtfiobbhicicchaaSame5
import Derived.Test.YtfiobbhicicchaaTwin4
import Derived.Deep.AppendLies
import Derived.Deep.DeepCutAuto
namespace Go.Proofs.Ytfiobbhicicchaa
open Go.RowKit Ar
set_option maxHeartbeats 4000000
set_option maxRecDepth 100000
set_option linter.unusedVariables false

/-- An array, made anew over what lies below B. -/
def CovOut (w : World) (B : Nat) (a : Arr) (e : Ending) (w' : World) : Prop := ∃ vs, e = .returned (.agg vs.toArray) ∧ IsArrP w' (fun b => b < B ∨ (w.heap.size ≤ b ∧ b < w'.heap.size)) a vs ∧ Below w.heap.size w w'
def CovOK (n : Nat) : Prop := ∀ (a : Arr) (vs : List Value) (w : World) (B : Nat), SizeOf.sizeOf a < n → IsArr w B a vs → B ≤ w.heap.size →
    Calls Try.prog 47 #[.agg vs.toArray, .int .u64 0, .bool true] w (CovOut w B (erase a))
theorem arr3_infoC : (Try.prog.info? 42).map (·.size) = some 3 := by kernel_rfl
theorem cel7_info : (Try.prog.info? 60).map (·.size) = some 7 := by kernel_rfl
theorem arr_zero : (Try.prog.info? 42).map (fun i => (i.zero, i.size, i.bytes)) = some (some (.agg #[.int .u64 0, .slice none 0 0, .slice none 0 0]), 3, 56) := by kernel_rfl
theorem cel_zero : (Try.prog.info? 60).map (fun i => (i.zero, i.size, i.bytes)) = some (some (.agg #[.int .u64 0, .int .i64 0, .bool false, .slice none 0 0, .slice none 0 0, .int .i64 0, .slice none 0 0]), 7, 104) := by kernel_rfl
theorem heap_alloc3_0 (w : World) (a b c : Obj) : (((w.alloc a).alloc b).alloc c).heap[w.heap.size]? = some a := (Below.heap_alloc _ _ _ (by simp; omega)).trans (heap_alloc2_old _ _ _)
theorem heap_alloc3_1 (w : World) (a b c : Obj) : (((w.alloc a).alloc b).alloc c).heap[w.heap.size + 1]? = some b := (Below.heap_alloc _ _ _ (by simp)).trans (heap_alloc2_new _ _ _)

theorem cover_step {n : Nat} (ih : CovOK n) : CovOK (n + 1) := by
  intro a vs w B hx h hB
  obtain ⟨S, shape, cells⟩ := a
  rw [IsArr] at h
  obtain ⟨A, c, A', c', us, rfl, hS, hf, hf', hw, hl, hl', hcs⟩ := h
  obtain ⟨iC, hiC, hzC0, hzC1, hzC2⟩ := info_parts cel_zero
  obtain ⟨iA, hiA, hzA0, hzA1, hzA2⟩ := info_parts arr_zero
  have hfl := (hf'.le (by omega))
  have hfs : cells.length * 104 ≤ 140737488351232 := hf'.2.1
  have HC := Lib.hid hcs
  have HL := Lib.hid hl'
  have HSH := Lib.hid (And.intro hf (And.intro hw hl))
  have hsz0 : ∀ (k : Nat) (hk : k < cells.length) (L : Nat) (kind : Int) (neg : Bool) (top bot : List Nat) (ch : Int) (ins : List Arr), cells[k] = .mk L kind neg top bot ch ins → ∀ i (hi : i < ins.length), SizeOf.sizeOf ins[i] < n := fun k hk L kind neg top bot ch ins he i hi => by
    have := size_ins (S := S) (shape := shape) hk he hi
    omega
  have HZ := Lib.hid hsz0
  clear hcs hl' hl hf hf' hw hsz0 hx
  have HAN := Lib.hid (fun (a b c : Obj) => heap3c w a b c)
  have HI3 : Hid (∀ (x : Nat) (A : Option Addr) (n c : Nat) (V : Value), (Try.prog.info? 42).map (·.size) = some (#[.int .u64 (x : Int), .slice A n c, V] : Array Value).size) := Lib.hid (fun _ _ _ _ _ => arr3_infoC)
  have HO3 : Hid (∀ (x : Nat) (A : Option Addr) (n c : Nat) (A' : Option Addr) (n' c' : Nat), (#[.int .u64 (x : Int), .slice A n c, .slice A' n' c'] : Array Value).all (·.oneCell') = true) := Lib.hid (fun _ _ _ _ _ _ _ => by simp [Value.oneCell'])
  go_enter Try.func47, Try.ntmps47
  go_wp2_with (first
    | (with_reducible refine wpList_store_row rfl 42 (.tmp 7) (.tmp 15) rfl (w.heap.size + 1 + 1) #[.int .u64 0, .slice A shape.length c, .slice none 0 0] rfl rfl 42 #[.int .u64 0, .slice none 0 0, .slice none 0 0] (HAN.out _ _ _) (HI3.out 0 _ _ _ _) rfl (HO3.out 0 _ _ _ _ _ _) ?_))
  refine code_world ?_
  intro W hW
  have hb3 : ∀ a b c, Below w.heap.size w (((w.alloc a).alloc b).alloc c) := fun a b c => (((Below.refl _ _).alloc (Nat.le_refl _) _).alloc (by simp) _).alloc (by simp; omega) _
  have hWs : W.heap.size = w.heap.size + 1 + 1 + 1 := by rw [hW, size_setRow]; simp
  have hWb : Below w.heap.size w W := by rw [hW]; exact Below.setRow' (hb3 _ _ _) (by omega) _
  have HW0 : Hid (W.heap[w.heap.size]? = some (.cells #[.int .u64 (S : Int), .slice A shape.length c, .slice A' cells.length c'] 42 (0, 0))) := Lib.hid (by rw [hW, heap_setRow_far (by omega)]; exact heap_alloc3_0 _ _ _ _)
  have HW1 : Hid (W.heap[w.heap.size + 1]? = some (.cells #[.int .u64 0, .slice none 0 0, .slice none 0 0] 42 (0, 0))) := Lib.hid (by rw [hW, heap_setRow_far (by omega)]; exact heap_alloc3_1 _ _ _ _)
  have HW2 : Hid (Blk W (w.heap.size + 1 + 1) 42 [.int .u64 0, .slice A shape.length c, .slice none 0 0]) := Lib.hid (by rw [hW]; exact heap_setRow_same (heap3c w _ _ _))
  clear hW hb3 HAN
  have HWS := Lib.hid hWs
  have hgl : w.heap.size + 1 + 1 < W.heap.size := by omega
  clear hWs
  obtain ⟨g, hg⟩ : ∃ g, g = w.heap.size := ⟨_, rfl⟩
  rw [← hg] at hB hWb HW0 HW1 HW2 HWS hgl ⊢
  have HG := Lib.hid hg
  clear hg
  go_loopw [8] (fun i wr => ∃ (k : Nat) (V : Value) (xs : List Value), k ≤ cells.length ∧ i = .int .i64 k ∧ Hid (Blk wr (g + 1 + 1) 42 [.int .u64 0, .slice A shape.length c, V]) ∧ Hid (wr.ownsRow W.heap.size 60 7 V k xs) ∧ Hid (IsCelsP wr (POut B W.heap.size wr V) (eraseCels (cells.take k)) xs) ∧ Below (g + 1 + 1) W wr ∧ W.heap.size ≤ wr.heap.size) (fun i _ => cells.length - (intOf i).toNat)
  case atStart => exact ⟨0, .slice none 0 0, [], Nat.zero_le _, rfl, HW2, Lib.hid (World.ownsRow_nil _ _ _ _), Lib.hid (by rw [List.take_zero, eraseCels, IsCelsP]), Below.refl _ _, Nat.le_refl _⟩
  case round =>
    clear HW2
    obtain ⟨w1, rfl⟩ : ∃ x, x = wr := ⟨_, rfl⟩
    obtain ⟨k, V, xs, hk, rfl, HK, HOW, HXS, hbel, hsz⟩ := hrel
    have hb0 : w1.cell? ⟨g, 2, none⟩ = some (.slice A' cells.length c') := (cell_of_row w1 g 2 _ _ _ ((hbel.block g (by omega)).trans HW0.out)).trans rfl
    by_cases hlt : k < cells.length
    · obtain ⟨b, off, L, kind, neg, top, bot, ch, ins, A1, c1, A2, c2, A3, c3, us3, rfl, hb, hL, HX, t1, t2, t3, t4, t5, t6, g0, g1, g2, g3, g4, g5, g6⟩ := cel_at HC.out HL.out (wr := w1) (fun p hp => (hbel.cell (by omega)).trans (hWb.cell (by omega))) hlt
      have hk0 : (0 : Int) ≤ (k : Int) := by omega
      have hk1 : (k : Int) < (cells.length : Int) := by omega
      have HI7 : Hid (∀ (a : Nat) (b : Int) (d : Bool) (A : Option Addr) (n c : Nat) (A' : Option Addr) (n' c' : Nat) (e : Int) (A2 : Option Addr) (n2 c2 : Nat), (Try.prog.info? 60).map (·.size) = some (#[.int .u64 (a : Int), .int .i64 b, .bool d, .slice A n c, .slice A' n' c', .int .i64 e, .slice A2 n2 c2] : Array Value).size) := Lib.hid (fun _ _ _ _ _ _ _ _ _ _ _ _ _ => cel7_info)
      have HO7 : Hid (∀ (a : Nat) (b : Int) (d : Bool) (A : Option Addr) (n c : Nat) (A' : Option Addr) (n' c' : Nat) (e : Int) (A2 : Option Addr) (n2 c2 : Nat), (#[.int .u64 (a : Int), .int .i64 b, .bool d, .slice A n c, .slice A' n' c', .int .i64 e, .slice A2 n2 c2] : Array Value).all (·.oneCell') = true) := Lib.hid (fun _ _ _ _ _ _ _ _ _ _ _ _ _ => by simp [Value.oneCell'])
      have HAN := Lib.hid (fun (ob : Obj) => heap_alloc_new w1 ob)
      go_upto_region 8 with (first
        | (with_reducible refine wpList_store_row rfl 60 (.tmp 9) (.tmp 34) rfl w1.heap.size #[.int .u64 (L : Int), .int .i64 kind, .bool neg, .slice A1 top.length c1, .slice A2 bot.length c2, .int .i64 ch, .slice A3 ins.length c3] rfl rfl 60 #[.int .u64 0, .int .i64 0, .bool false, .slice none 0 0, .slice none 0 0, .int .i64 0, .slice none 0 0] (HAN.out _) (HI7.out _ _ _ _ _ _ _ _ _ _ _ _ _) rfl (HO7.out _ _ _ _ _ _ _ _ _ _ _ _ _) ?_))
      refine code_world ?_
      intro X hX
      have hXs : X.heap.size = w1.heap.size + 1 := by rw [hX, size_setRow]; simp
      have hXb : Below w1.heap.size w1 X := by rw [hX]; exact Below.setRow' ((Below.refl _ _).alloc (Nat.le_refl _) _) (Nat.le_refl _) _
      have hBX : Blk X w1.heap.size 60 [.int .u64 (L : Int), .int .i64 kind, .bool neg, .slice A1 top.length c1, .slice A2 bot.length c2, .int .i64 ch, .slice A3 ins.length c3] := by rw [hX]; exact heap_setRow_same (heap_alloc_new _ _)
      clear hX HAN HI7 HO7 g0 g1 g2 g3 g4 g5 g6 hb0
      have q0 : X.cell? ⟨w1.heap.size, 0, none⟩ = some (.int .u64 (L : Int)) := hBX.cell rfl
      have f0 := hBX.frozen 0
      have HBX := Lib.hid (hBX.set_ 0 (.int .u64 0))
      have hXb' : Below w1.heap.size w1 (X.setCell ⟨w1.heap.size, 0, none⟩ (.int .u64 0)) := hXb.setCell (Nat.le_refl _) _
      have hXs' : (X.setCell ⟨w1.heap.size, 0, none⟩ (.int .u64 0)).heap.size = w1.heap.size + 1 := by simpa using hXs
      clear hBX hXb hXs
      go_wp2_with fail
      clear q0 f0
      generalize X.setCell ⟨w1.heap.size, 0, none⟩ (.int .u64 0) = Y at *
      clear X
      have HXS' := Lib.hid hXs'
      have hYs : w1.heap.size + 1 ≤ Y.heap.size := by omega
      clear hXs'
      obtain ⟨h, hh⟩ : ∃ h, h = w1.heap.size := ⟨_, rfl⟩
      rw [← hh] at hXb' hYs HBX HXS' hsz ⊢
      have HH := Lib.hid hh
      clear hh
      have hgh : g + 1 + 1 < h := by omega
      have HKB : Hid (∀ wy, Below (h + 1) Y wy → ∀ p : Addr, p.block < B → wy.cell? p = w.cell? p) := Lib.hid (fun wy hy p hp => by
        rw [hy.cell (show p.block < h + 1 by omega), hXb'.cell (show p.block < h by omega), hbel.cell (by omega), hWb.cell (by omega)])
      have hfi := HX.out.fi.2.1
      go_loopw [10, 11] (fun v j wr => ∃ (i : Nat) (Vi : Value) (ys : List Value), i ≤ ins.length ∧ j = .int .i64 i ∧ v = Vi ∧ Hid (wr.ownsRow (h + 1) 42 3 Vi i ys) ∧ Hid (IsArrsP wr (POut B (h + 1) wr Vi) (eraseArrs (ins.take i)) ys) ∧ Below (h + 1) Y wr ∧ h + 1 ≤ wr.heap.size) (fun _ j _ => ins.length - (intOf j).toNat)
      case atStart => exact ⟨0, .slice none 0 0, [], Nat.zero_le _, rfl, rfl, Lib.hid (World.ownsRow_nil _ _ _ _), Lib.hid (by rw [List.take_zero, eraseArrs, IsArrsP]), Below.refl _ _, hYs⟩
      case round =>
        obtain ⟨wy, rfl⟩ : ∃ x, x = wr := ⟨_, rfl⟩
        obtain ⟨i, Vi, ys, hi, rfl, hvv, HOI, HYS, hbel2, hys⟩ := hrel
        obtain rfl := hvv.symm
        have r6 : wy.cell? ⟨h, 6, none⟩ = some (.slice A3 ins.length c3) := (hbel2.cell (p := ⟨h, 6, none⟩) (show h < h + 1 by omega)).trans (HBX.out.cell rfl)
        by_cases hlt' : i < ins.length
        · obtain ⟨b', off', S', X1, xn, xc, X2, xn', xc', rfl, hb', HA, e0, e1, e2⟩ := arr_at HX.out.arrs HX.out.li (wr := wy) (HKB.out wy hbel2) hlt'
          have hi0 : (0 : Int) ≤ (i : Int) := by omega
          have hi1 : (i : Int) < (ins.length : Int) := by omega
          have IH := Lib.hid (ih ins[i] _ wy B (HZ.out k hlt L kind neg top bot ch ins HX.out.eq i hlt') (IsArr.keep (HKB.out wy hbel2) (Nat.le_refl _) _ _ HA.out) (by omega))
          have HTK := Lib.hid (eraseArrs_take hlt')
          go_wp2_with fail
          refine IH.out.mono ?_
          rintro e w2 ⟨vs', rfl, hP, hb2⟩
          obtain ⟨S2, Y1, yn, yc, Y2, yn', yc', rfl⟩ := hP.form
          have HP := Lib.hid hP
          have hs2 := hb2.size
          clear hP e0 e1 e2 r6
          have hown2 := own_below HOI.out hb2
          go_wp2_with (at_builtin; refine wpList_append_lies _ rfl (.tmp 50) (.tmp 59) 24 rfl (h + 1) 42 iA (.agg #[.int .u64 0, .slice none 0 0, .slice none 0 0]) 3 56 Try.underlying24 hiA hzA0 hzA1 hzA2 rfl (by decide) Vi i ys rfl (hown2.alloc _) ⟨w2.heap.size, 0, none⟩ 1 1 [.int .u64 (S2 : Int), .slice Y1 yn yc, .slice Y2 yn' yc'] rfl rfl (fun j u hu => cells_at w2 _ _ j u hu) (by simp [Value.oneCell']) (by decide) (by unfold maxLen; omega) (by omega) (by simp; omega) (w2.heap.size + 1) (by simp) ?_; intro g' cap w3 hown3 hgrow3 hat3 hlt3)
          have hown1 := HOI.out
          have hfr : ∀ b, b < wy.heap.size → Vi.ownBlock ≠ some b → w3.heap[b]? = wy.heap[b]? := fun b hb hne => by
            rw [hgrow3.block b (by simp; omega) (fun e => hne e.symm), Below.heap_alloc _ _ _ (by omega), hb2.block b hb]
          have hfr2 : ∀ b, b < w2.heap.size → Vi.ownBlock ≠ some b → w3.heap[b]? = w2.heap[b]? := fun b hb hne => by
            rw [hgrow3.block b (by simp; omega) (fun e => hne e.symm), Below.heap_alloc _ _ _ (by omega)]
          have hown0 : ∀ x, Vi.ownBlock = some x → h + 1 ≤ x ∧ x < wy.heap.size := fun x hx => hown1.lt x hx
          have hs3 : w2.heap.size + 1 ≤ w3.heap.size := by have := hgrow3.size; simp at this; omega
          have HYS3 : Hid (IsArrsP w3 (POut B (h + 1) w3 (.slice (some ⟨g', 0, none⟩) (i + 1) cap)) (eraseArrs (ins.take i)) ys) := Lib.hid (IsArrsP.keep (fun p hp => World.cell?_of_block (by
              rcases hp with hp | ⟨hp1, hp2, hp3⟩
              · exact hfr _ (by omega) (fun e => by have := (hown0 _ e).1; omega)
              · exact hfr _ hp2 hp3)) (fun b hb => hb.step (by omega) hat3 (by omega)) _ _ HYS.out)
          have HNW : Hid (IsArrP w3 (POut B (h + 1) w3 (.slice (some ⟨g', 0, none⟩) (i + 1) cap)) (erase ins[i]) [.int .u64 (S2 : Int), .slice Y1 yn yc, .slice Y2 yn' yc']) := Lib.hid (IsArrP.keep (fun p hp => World.cell?_of_block (by
              rcases hp with hp | ⟨hp1, hp2⟩
              · exact hfr2 _ (by omega) (fun e => by have := (hown0 _ e).1; omega)
              · exact hfr2 _ hp2 (fun e => by have := (hown0 _ e).2; omega))) (fun b hb => POut.new hys (by omega) hat3 (by omega) (fun x hx => (hown0 x hx).2) hb) _ _ HP.out)
          have HOW3 := Lib.hid hown3
          have hb5 : Below (h + 1) Y w3 := ((hbel2.trans (hb2.mono hys)).alloc (by omega) (Obj.cells #[.int .u64 (S2 : Int), .slice Y1 yn yc, .slice Y2 yn' yc'] 42)).grown hgrow3 (by simp; omega) (fun x hx => (hown0 x hx).1)
          clear hown1 hown2 hown3 hgrow3 hat3 hlt3 hfr hfr2 hown0
          go_roundw
          case rel => exact ⟨i + 1, _, ys ++ [.int .u64 (S2 : Int), .slice Y1 yn yc, .slice Y2 yn' yc'], by omega, by go_num, rfl, HOW3, Lib.hid (by rw [HTK.out]; exact HYS3.out.snoc HNW.out), hb5, by omega⟩
          case measure => simp [intOf]; omega
        · have hie : i = ins.length := by omega
          have hYS : IsArrsP wy (POut B (h + 1) wy Vi) (eraseArrs ins) ys := by have := HYS.out; rwa [hie, List.take_length] at this
          have hOI := HOI.out
          rw [hie] at hOI
          obtain ⟨Ai, ci, rfl, hci1, hci2⟩ := own_slice hOI
          have HYS2 : Hid (IsArrsP wy (fun b => b < B ∨ (h + 1 ≤ b ∧ b < wy.heap.size)) (eraseArrs ins) ys) := Lib.hid (IsArrsP.keep (fun _ _ => rfl) (fun b hb => by
            rcases hb with hb | ⟨hb1, hb2, _⟩
            · exact .inl hb
            · exact .inr ⟨hb1, hb2⟩) _ _ hYS)
          have HLI : Hid (LiesP wy (fun b => b < B ∨ (h + 1 ≤ b ∧ b < wy.heap.size)) Ai ys) := Lib.hid ((LiesP.of_own hOI).keep (fun _ _ => rfl) (fun b hb => .inr hb))
          have hBy : Blk wy h 60 [.int .u64 0, .int .i64 kind, .bool neg, .slice A1 top.length c1, .slice A2 bot.length c2, .int .i64 ch, .slice A3 ins.length c3] := HBX.out.keep hbel2 (by omega)
          have f6 := hBy.frozen 6
          have HBy := Lib.hid hBy
          have hnle : ¬ i < ins.length := by omega
          clear hie hYS hOI hBy HYS HOI hi hlt'
          go_upto_region 17 with fail
          clear r6 f6
          refine code_world ?_
          intro Z hZ
          have HZS : Hid (Z.heap.size = wy.heap.size) := Lib.hid (by rw [hZ]; simp)
          have hzl : Z.heap.size ≤ wy.heap.size := Nat.le_of_eq HZS.out
          have hzr : wy.heap.size ≤ Z.heap.size := Nat.le_of_eq HZS.out.symm
          have hBZ : Blk Z h 60 [.int .u64 0, .int .i64 kind, .bool neg, .slice A1 top.length c1, .slice A2 bot.length c2, .int .i64 ch, .slice Ai ins.length ci] := by rw [hZ]; exact HBy.out.set_ 6 (.slice Ai ins.length ci)
          have hZf : ∀ b, b ≠ h → Z.heap[b]? = wy.heap[b]? := fun b hb => by rw [hZ]; exact Below.heap_setCell _ _ _ _ hb
          have hZb : Below h Y Z := by rw [hZ]; exact Below.setCell (p := ⟨h, 6, none⟩) (hbel2.mono (show h ≤ h + 1 by omega)) (Nat.le_refl h) _
          clear hZ
          have hHH := HH.out
          have hZw : Below h w1 Z := hXb'.trans hZb
          have hBO : Blk Z (g + 1 + 1) 42 [.int .u64 0, .slice A shape.length c, V] := HK.out.keep hZw (by omega)
          have HBZ := Lib.hid (show Z.heap[h]? = some (.cells #[.int .u64 0, .int .i64 kind, .bool neg, .slice A1 top.length c1, .slice A2 bot.length c2, .int .i64 ch, .slice Ai ins.length ci] 60 (0, 0)) from hBZ)
          have p2 : Z.cell? ⟨g + 1 + 1, 2, none⟩ = some V := hBO.cell rfl
          have HOZ := Lib.hid (own_below HOW.out (show Below w1.heap.size w1 Z by rw [← hHH]; exact hZw))
          have HBO := Lib.hid hBO
          have HI7 : Hid ((Try.prog.info? 60).map (·.size) = some (#[.int .u64 0, .int .i64 kind, .bool neg, .slice A1 top.length c1, .slice A2 bot.length c2, .int .i64 ch, .slice Ai ins.length ci] : Array Value).size) := Lib.hid cel7_info
          have HTK := Lib.hid (eraseCels_take hlt)
          have HVO : Hid (∀ x, V.ownBlock = some x → W.heap.size ≤ x ∧ x < h) := Lib.hid (fun x hx => by have := HOW.out.lt x hx; rw [← hHH] at this; exact this)
          clear hBZ hBO hHH
          go_wp2_with (first
            | (with_reducible refine wpList_load_row rfl 60 (.tmp 9) rfl h rfl 60 #[.int .u64 0, .int .i64 kind, .bool neg, .slice A1 top.length c1, .slice A2 bot.length c2, .int .i64 ch, .slice Ai ins.length ci] (0, 0) _ HBZ.out Try.underlying60 rfl HI7.out ?_)
            | (at_builtin; refine wpList_append_lies _ rfl (.tmp 64) (.tmp 66) 40 rfl W.heap.size 60 iC (.agg #[.int .u64 0, .int .i64 0, .bool false, .slice none 0 0, .slice none 0 0, .int .i64 0, .slice none 0 0]) 7 104 Try.underlying40 hiC hzC0 hzC1 hzC2 rfl (by decide) V k xs rfl (HOZ.out.alloc _) ⟨Z.heap.size, 0, none⟩ 1 1 [.int .u64 0, .int .i64 kind, .bool neg, .slice A1 top.length c1, .slice A2 bot.length c2, .int .i64 ch, .slice Ai ins.length ci] rfl rfl (fun j u hu => cells_at Z _ _ j u hu) (by simp [Value.oneCell']) (by decide) (by unfold maxLen; omega) (by omega) (by simp; omega) (Z.heap.size + 1) (by simp) ?_; intro g' cap w3 hown3 hgrow3 hat3 hlt3; have hB3 : Blk w3 (g + 1 + 1) 42 [.int .u64 0, .slice A shape.length c, V] := (hgrow3.block _ (by simp; omega) (fun e => by have := (HVO.out _ e.symm).1; omega)).trans (HBO.out.alloc _); have s2 := hB3.cell (i := 2) (v := V) rfl; have sf := hB3.frozen 2))
          have hsg : wy.heap.size + 1 ≤ w3.heap.size := by have := hgrow3.size; simp at this; omega
          have hfr : ∀ b, b < h → b ≠ g + 1 + 1 → V.ownBlock ≠ some b → (w3.setCell ⟨g + 1 + 1, 2, none⟩ (.slice (some ⟨g', 0, none⟩) (k + 1) cap)).heap[b]? = w1.heap[b]? := fun b hb hg hne => by
            rw [Below.heap_setCell _ _ _ _ hg, hgrow3.block b (by simp; omega) (fun e => hne e.symm), Below.heap_alloc _ _ _ (by omega), hZw.block b hb]
          have hfr2 : ∀ b, b ≠ h → b < wy.heap.size → b ≠ g + 1 + 1 → V.ownBlock ≠ some b → (w3.setCell ⟨g + 1 + 1, 2, none⟩ (.slice (some ⟨g', 0, none⟩) (k + 1) cap)).heap[b]? = wy.heap[b]? := fun b hbh hb hg hne => by
            rw [Below.heap_setCell _ _ _ _ hg, hgrow3.block b (by simp; omega) (fun e => hne e.symm), Below.heap_alloc _ _ _ (by omega), hZf b hbh]
          have HXS6 : Hid (IsCelsP (w3.setCell ⟨g + 1 + 1, 2, none⟩ (.slice (some ⟨g', 0, none⟩) (k + 1) cap)) (POut B W.heap.size (w3.setCell ⟨g + 1 + 1, 2, none⟩ (.slice (some ⟨g', 0, none⟩) (k + 1) cap)) (.slice (some ⟨g', 0, none⟩) (k + 1) cap)) (eraseCels (cells.take k)) xs) := Lib.hid (IsCelsP.keep (fun p hp => World.cell?_of_block (by
              have hHH := HH.out
              rcases hp with hp | ⟨hp1, hp2, hp3⟩
              · exact hfr _ (by omega) (by omega) (fun e => by have := (HVO.out _ e).1; omega)
              · exact hfr _ (by omega) (by omega) hp3)) (fun b hb => hb.step (by have hHH := HH.out; simp; omega) hat3 (by have hHH := HH.out; omega)) _ _ HXS.out)
          have hPN : ∀ b, (b < B ∨ (h + 1 ≤ b ∧ b < wy.heap.size)) → POut B W.heap.size (w3.setCell ⟨g + 1 + 1, 2, none⟩ (.slice (some ⟨g', 0, none⟩) (k + 1) cap)) (.slice (some ⟨g', 0, none⟩) (k + 1) cap) b := fun b hb => by
            have hHH := HH.out
            exact POut.new (w := w1) (s2 := wy.heap.size) (by omega) (by simp; omega) hat3 (by omega) (fun x hx => by have := (HVO.out x hx).2; omega) (by
              rcases hb with hb | ⟨hb1, hb2⟩
              · exact .inl hb
              · exact .inr ⟨by omega, hb2⟩)
          have hKN : ∀ p : Addr, (p.block < B ∨ (h + 1 ≤ p.block ∧ p.block < wy.heap.size)) → (w3.setCell ⟨g + 1 + 1, 2, none⟩ (.slice (some ⟨g', 0, none⟩) (k + 1) cap)).cell? p = wy.cell? p := fun p hp => World.cell?_of_block (by
            rcases hp with hp | ⟨hp1, hp2⟩
            · exact hfr2 _ (by omega) (by omega) (by omega) (fun e => by have := (HVO.out _ e).1; omega)
            · exact hfr2 _ (by omega) hp2 (by omega) (fun e => by have := (HVO.out _ e).2; omega))
          have hKB2 : ∀ p : Addr, p.block < B → (w3.setCell ⟨g + 1 + 1, 2, none⟩ (.slice (some ⟨g', 0, none⟩) (k + 1) cap)).cell? p = w.cell? p := fun p hp => (hKN p (.inl hp)).trans (HKB.out wy hbel2 p hp)
          have HCE : Hid (IsCelP (w3.setCell ⟨g + 1 + 1, 2, none⟩ (.slice (some ⟨g', 0, none⟩) (k + 1) cap)) (POut B W.heap.size (w3.setCell ⟨g + 1 + 1, 2, none⟩ (.slice (some ⟨g', 0, none⟩) (k + 1) cap)) (.slice (some ⟨g', 0, none⟩) (k + 1) cap)) (eraseCel cells[k]) [.int .u64 0, .int .i64 kind, .bool neg, .slice A1 top.length c1, .slice A2 bot.length c2, .int .i64 ch, .slice Ai ins.length ci]) := Lib.hid (by
            rw [HX.out.eq, eraseCel, IsCelP, eraseArrs_len]
            exact ⟨A1, c1, A2, c2, Ai, ci, ys, rfl, by decide, HX.out.ft, HX.out.fb, ⟨hci1, hfi, by unfold maxLen at hci2; omega⟩, HX.out.wk, HX.out.wt, HX.out.wb, (HX.out.lt.p).keep hKB2 (fun b hb => .inl hb), (HX.out.lb.p).keep hKB2 (fun b hb => .inl hb), HLI.out.keep hKN hPN, IsArrsP.keep hKN hPN _ _ HYS2.out, HX.out.nt, HX.out.nb⟩)
          have hgo : g' ≠ g + 1 + 1 := by
            rcases hat3 with h4 | h4
            · have := (HVO.out _ h4).1; omega
            · omega
          have HOW6 : Hid ((w3.setCell ⟨g + 1 + 1, 2, none⟩ (.slice (some ⟨g', 0, none⟩) (k + 1) cap)).ownsRow W.heap.size 60 7 (.slice (some ⟨g', 0, none⟩) (k + 1) cap) (k + 1) (xs ++ [.int .u64 0, .int .i64 kind, .bool neg, .slice A1 top.length c1, .slice A2 bot.length c2, .int .i64 ch, .slice Ai ins.length ci])) := Lib.hid (hown3.kept (row := some (g + 1 + 1)) ⟨rfl, rfl, rfl, by simp, fun b _ hb => Below.heap_setCell _ _ _ _ (fun e => hb (by rw [e]))⟩ (.inr (fun e => hgo (by injection e))))
          have HBL6 : Hid (Blk (w3.setCell ⟨g + 1 + 1, 2, none⟩ (.slice (some ⟨g', 0, none⟩) (k + 1) cap)) (g + 1 + 1) 42 [.int .u64 0, .slice A shape.length c, .slice (some ⟨g', 0, none⟩) (k + 1) cap]) := Lib.hid (hB3.set_ 2 _)
          have hb6 : Below (g + 1 + 1) W (w3.setCell ⟨g + 1 + 1, 2, none⟩ (.slice (some ⟨g', 0, none⟩) (k + 1) cap)) := by
            have hHH := HH.out
            exact Below.setCell (p := ⟨g + 1 + 1, 2, none⟩) (((hbel.trans (hZw.mono (by omega))).alloc (by omega) _).grown hgrow3 (by simp; omega) (fun x hx => by have := (HVO.out x hx).1; omega)) (Nat.le_refl _) _
          have hsz6 : W.heap.size ≤ (w3.setCell ⟨g + 1 + 1, 2, none⟩ (.slice (some ⟨g', 0, none⟩) (k + 1) cap)).heap.size := by simp; omega
          clear hfr hfr2 hPN hKN hKB2 hgo hown3 hgrow3 hat3 hlt3 s2 sf hB3
          generalize w3.setCell ⟨g + 1 + 1, 2, none⟩ (.slice (some ⟨g', 0, none⟩) (k + 1) cap) = w6 at *
          go_roundw
          case rel => exact ⟨k + 1, _, xs ++ [.int .u64 0, .int .i64 kind, .bool neg, .slice A1 top.length c1, .slice A2 bot.length c2, .int .i64 ch, .slice Ai ins.length ci], by omega, by go_num, HBL6, HOW6, Lib.hid (by rw [HTK.out]; exact HXS6.out.snoc HCE.out), hb6, hsz6⟩
          case measure => simp [intOf]; omega
    · have hke : k = cells.length := by omega
      have hXC : IsCelsP w1 (POut B W.heap.size w1 V) (eraseCels cells) xs := by have := HXS.out; rwa [hke, List.take_length] at this
      have hOC := HOW.out
      rw [hke] at hOC
      obtain ⟨Av, cv, rfl, hcv1, hcv2⟩ := own_slice hOC
      have HRES : Hid (∀ w', (∀ b, b ≠ g + 1 → w'.heap[b]? = w1.heap[b]?) → w1.heap.size ≤ w'.heap.size → IsArrP w' (fun b => b < B ∨ (g ≤ b ∧ b < w'.heap.size)) (erase (.mk S shape cells)) [.int .u64 0, .slice A shape.length c, .slice Av cells.length cv]) := Lib.hid (fun w' hw' hws => by
        rw [erase, IsArrP, eraseCels_len]
        refine ⟨A, c, Av, cv, xs, rfl, by decide, HSH.out.1, ⟨hcv1, hfs, by unfold maxLen at hcv2; omega⟩, HSH.out.2.1, ?_, ?_, ?_⟩
        · exact (HSH.out.2.2.p).keep (fun p hp => by rw [World.cell?_of_block (hw' p.block (by have : p.block < B := hp; omega)), hbel.cell (show p.block < g + 1 + 1 by have : p.block < B := hp; omega), hWb.cell (show p.block < g by have : p.block < B := hp; omega)]) (fun b hb => .inl hb)
        · exact (LiesP.of_own hOC).keep (fun p hp => World.cell?_of_block (hw' p.block (by have := hp.1; omega))) (fun b hb => .inr ⟨by omega, by omega⟩)
        · exact IsCelsP.keep (fun p hp => by
            rcases hp with hp | ⟨hp1, hp2, _⟩
            · exact World.cell?_of_block (hw' p.block (by omega))
            · exact World.cell?_of_block (hw' p.block (by omega))) (fun b hb => by
            rcases hb with hb | ⟨hb1, hb2, _⟩
            · exact .inl hb
            · exact .inr ⟨by omega, by omega⟩) _ _ hXC)
      have HB0 := Lib.hid (show w1.heap[g + 1 + 1]? = some (.cells #[.int .u64 0, .slice A shape.length c, .slice Av cells.length cv] 42 (0, 0)) from HK.out)
      have HB1 := Lib.hid ((hbel.block (g + 1) (by omega)).trans HW1.out)
      have hnle : ¬ k < cells.length := by omega
      clear hke hXC hOC HXS HOW HK hk hlt
      go_wp2_with (first
        | (with_reducible refine wpList_load_row rfl 42 (.tmp 7) rfl (g + 1 + 1) rfl 42 #[.int .u64 0, .slice A shape.length c, .slice Av cells.length cv] (0, 0) _ HB0.out Try.underlying42 rfl (HI3.out 0 _ _ _ _) ?_)
        | (with_reducible refine wpList_store_row rfl 42 (.tmp 6) (.tmp 69) rfl (g + 1) #[.int .u64 0, .slice A shape.length c, .slice Av cells.length cv] rfl rfl 42 #[.int .u64 0, .slice none 0 0, .slice none 0 0] HB1.out (HI3.out 0 _ _ _ _) rfl (HO3.out 0 _ _ _ _ _ _) ?_))
      have hbf : Below (g + 1) W (w1.setRow (g + 1) #[.int .u64 0, .slice A shape.length c, .slice Av cells.length cv]) := Below.setRow' (hbel.mono (by omega)) (Nat.le_refl _) _
      refine bodyPost_ret (results_cell_row (by rfl) _ _ (g + 1) 42 #[.int .u64 0, .slice A shape.length c, .slice Av cells.length cv] (0, 0) _ (by rfl) (heap_setRow_same HB1.out) Try.underlying42 rfl (HI3.out 0 _ _ _ _)) rfl ⟨[.int .u64 0, .slice A shape.length c, .slice Av cells.length cv], rfl, ?_, ?_⟩
      · rw [← HG.out]
        exact HRES.out _ (fun b hb => heap_setRow_far (fun e => hb e.symm)) (by rw [size_setRow]; omega)
      · rw [← HG.out]
        exact hWb.trans (hbf.mono (by omega))
theorem cover_any : ∀ n, CovOK n
  | 0 => fun a vs w B h => by omega
  | n + 1 => cover_step (cover_any n)

theorem erase_any (a : Arr) (vs : List Value) (w : World) (B : Nat) (h : IsArr w B a vs) (hB : B ≤ w.heap.size) :
    Calls Try.prog 37 #[.agg vs.toArray] w fun e w' => ∃ vs', e = .returned (.agg vs'.toArray) ∧ IsArr w' w'.heap.size (erase a) vs' ∧ Below w.heap.size w w' := by
  have CV := Lib.hid (fun (wx : World) (hx : Below w.heap.size w wx) => cover_any _ a vs wx B (Nat.lt_succ_self _) (h.below (hx.mono hB)) (Nat.le_trans hB hx.size))
  have hb0 : ∀ o1 o2, Below w.heap.size w ((w.alloc o1).alloc o2) := fun o1 o2 => ((Below.refl _ _).alloc (Nat.le_refl _) _).alloc (by simp) _
  have HB0 := Lib.hid hb0
  have HN := Lib.hid (fun (a b : Obj) => heap_alloc2_new w a b)
  have HI3 : Hid (∀ (x : Nat) (A : Option Addr) (n c : Nat) (A' : Option Addr) (n' c' : Nat), (Try.prog.info? 42).map (·.size) = some (#[.int .u64 (x : Int), .slice A n c, .slice A' n' c'] : Array Value).size) := Lib.hid (fun _ _ _ _ _ _ _ => arr3_infoC)
  have HO3 : Hid (∀ (x : Nat) (A : Option Addr) (n c : Nat) (A' : Option Addr) (n' c' : Nat), (#[.int .u64 (x : Int), .slice A n c, .slice A' n' c'] : Array Value).all (·.oneCell') = true) := Lib.hid (fun _ _ _ _ _ _ _ => by simp [Value.oneCell'])
  obtain ⟨S, A, n, c, A', n', c', rfl⟩ := h.form
  clear h hb0
  go_enter Try.func37, Try.ntmps37
  go_wp2_with fail
  refine (CV.out _ (HB0.out _ _)).mono ?_
  rintro e w2 ⟨vs', rfl, hP, hb2⟩
  obtain ⟨S2, Y1, yn, yc, Y2, yn', yc', rfl⟩ := hP.form
  have hs2 := hb2.size
  have HG1 : Hid (w2.heap[w.heap.size + 1]? = some (.cells #[.int .u64 0, .slice none 0 0, .slice none 0 0] 42 (0, 0))) := Lib.hid ((hb2.block (w.heap.size + 1) (by simp)).trans (HN.out _ _))
  have HP := Lib.hid hP
  have hbw : Below w.heap.size w w2 := (HB0.out _ _).trans (hb2.mono (HB0.out _ _).size)
  clear hP
  go_wp2_with (first
    | (with_reducible refine wpList_store_row rfl 42 (.tmp 2) (.tmp 4) rfl (w.heap.size + 1) #[.int .u64 (S2 : Int), .slice Y1 yn yc, .slice Y2 yn' yc'] rfl rfl 42 #[.int .u64 0, .slice none 0 0, .slice none 0 0] HG1.out (HI3.out S2 _ _ _ _ _ _) rfl (HO3.out S2 _ _ _ _ _ _) ?_))
  refine bodyPost_ret (results_cell_row (by rfl) _ _ (w.heap.size + 1) 42 #[.int .u64 (S2 : Int), .slice Y1 yn yc, .slice Y2 yn' yc'] (0, 0) _ (by rfl) (heap_setRow_same HG1.out) Try.underlying42 rfl (HI3.out S2 _ _ _ _ _ _)) rfl ⟨[.int .u64 (S2 : Int), .slice Y1 yn yc, .slice Y2 yn' yc'], rfl, ?_, Below.setRow' hbw (by omega) _⟩
  refine IsArrP.is (P := fun b => b < B ∨ (w.heap.size + 1 + 1 ≤ b ∧ b < w2.heap.size)) (fun b hb => by rw [size_setRow]; simp at hs2; omega) _ _ (IsArrP.keep (fun p hp => World.cell?_of_block (heap_setRow_far (by simp at hp; omega))) (fun b hb => by simpa using hb) _ _ HP.out)
end Go.Proofs.Ytfiobbhicicchaa
