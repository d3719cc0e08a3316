/-
  A fault and those that it is about, the one behind the other; what fault.chain tells of it.
-/
import Derived.Test.YtaaapjoopchgiaaDoorFltClass
import Derived.Test.YtaaapjoopchgiaaDoorPtrMap
import Derived.Deep.LoopGhost
namespace Go.Proofs.YtaaapjoopchgiaaDoor
open Go.RowKit
set_option maxHeartbeats 1000000
set_option linter.unusedVariables false
set_option maxRecDepth 100000

def ptrV (b : Nat) : Value := .pointer (some ⟨b, 0, none⟩)
/-- An error that is a fault of class c about a fault about .. : the blocks and labels, the last one that was raised first. -/
def Chain (w : World) (c : Int) : Value → List (Nat × Nat) → Prop
  | e, [] => e = .nilIface
  | e, (b, l) :: r => e = .iface 63 (ptrV b) ∧ ∃ o, Blk w b 67 [.int .i64 c, .int .u64 (l : Int), o] ∧ Chain w c o r ∧ ∀ x ∈ r, x.1 < b
theorem Chain.lt {w : World} {c : Int} : ∀ {fs : List (Nat × Nat)} {e : Value}, Chain w c e fs → ∀ x ∈ fs, x.1 < w.heap.size
  | [], _, _, x, hx => by cases hx
  | (b, l) :: r, e, ⟨_, o, hb, hr, _⟩, x, hx => by
    rcases List.mem_cons.1 hx with rfl | hx
    · exact hb.lt
    · exact Chain.lt hr x hx
theorem Chain.keep {w w' : World} {c : Int} {B : Nat} (hb : Below B w w') : ∀ {fs : List (Nat × Nat)} {e : Value}, Chain w c e fs → (∀ x ∈ fs, x.1 < B) → Chain w' c e fs
  | [], _, h, _ => h
  | (b, l) :: r, e, ⟨he, o, hk, hr, hl⟩, hB => ⟨he, o, hk.keep hb (hB _ List.mem_cons_self), Chain.keep hb hr (fun x hx => hB x (List.mem_cons_of_mem _ hx)), hl⟩
theorem Chain.below {w w' : World} {c : Int} {fs : List (Nat × Nat)} {e : Value} (h : Chain w c e fs) (hb : Below w.heap.size w w') : Chain w' c e fs := h.keep hb h.lt
theorem Blk.whole {w : World} {g : Nat} {t : TypeId} {vs : List Value} (h : Blk w g t vs) : Whole w g := ⟨_, _, h⟩
theorem Whole.keep {w w' : World} {B b : Nat} (h : Whole w b) (hb : Below B w w') (hB : b < B) : Whole w' b := by
  obtain ⟨cs, t, h⟩ := h
  exact ⟨cs, t, (hb.block b hB).trans h⟩
theorem Chain.whole {w : World} {c : Int} : ∀ {fs : List (Nat × Nat)} {e : Value}, Chain w c e fs → ∀ b ∈ fs.map Prod.fst, Whole w b
  | [], _, _, b, hb => by simp at hb
  | (b0, l) :: r, e, ⟨_, o, hk, hr, _⟩, b, hb => by
    rcases List.mem_cons.1 hb with rfl | hb
    · exact hk.whole
    · exact Chain.whole hr b hb
/-- The blocks are apart. -/
theorem Chain.nodup {w : World} {c : Int} : ∀ {fs : List (Nat × Nat)} {e : Value}, Chain w c e fs → (fs.map Prod.fst).Nodup
  | [], _, _ => List.nodup_nil
  | (b0, l) :: r, e, ⟨_, o, hk, hr, hl⟩ => by
    rw [List.map_cons, List.nodup_cons]
    refine ⟨fun hm => ?_, Chain.nodup hr⟩
    obtain ⟨x, hx, e⟩ := List.mem_map.1 hm
    have := hl x hx
    simp only at e
    omega
theorem PMap.grown {w w' : World} {B : Nat} {ks : List Nat} {row : Option Nat} (h : PMap w B ks) (hg : w.grownBy w' row) (hB : B < w.heap.size) (hne : some B ≠ row) : PMap w' B ks := by
  obtain ⟨es, cl, hb, hk⟩ := h
  exact ⟨es, cl, (hg.block B hB hne).trans hb, hk⟩
theorem PMap.lt {w : World} {B : Nat} {ks : List Nat} (h : PMap w B ks) : B < w.heap.size := by
  obtain ⟨es, cl, hb, hk⟩ := h
  rcases Nat.lt_or_ge B w.heap.size with h | h
  · exact h
  · rw [Array.getElem?_eq_none h] at hb; cases hb
theorem fptr_info : (Tryd.prog.info? 63).map (fun i => (i.zero, i.size, i.bytes)) = some (some (.pointer none), 1, 8) := by kernel_rfl
theorem fault_info : ∃ j, Tryd.prog.info? 67 = some j ∧ j.size ≠ 0 := by
  have h : (Tryd.prog.info? 67).map (·.size) = some 3 := by kernel_rfl
  obtain ⟨j, hj, hs⟩ := Option.map_eq_some_iff.1 h
  exact ⟨j, hj, by rw [hs]; decide⟩
theorem int_zero (w : World) : (zeroValue 3).run Tryd.prog w = .ok (.int .i64 0) w := by kernel_rfl

theorem ta_some (b : Nat) (w : World) : (Instr.typeAssert (.iface 63 (.pointer (some ⟨b, 0, none⟩))) 25 63 true).run Tryd.prog w = .ok (.tuple #[.pointer (some ⟨b, 0, none⟩), .bool true]) w := by kernel_rfl
theorem ta_nil (w : World) : (Instr.typeAssert .nilIface 25 63 true).run Tryd.prog w = .ok (.tuple #[.pointer none, .bool false]) w := by kernel_rfl
theorem chain_any (c : Int) (e : Value) (fs : List (Nat × Nat)) (w : World) (h : Chain w c e fs) (hs : fs.length ≤ 1000) :
    Calls Tryd.prog 44 #[e] w fun ev w' => ∃ A cp, ev = .returned (.tuple #[.slice A fs.length cp, .nilIface]) ∧ Lies w' w'.heap.size A (fs.map fun x => ptrV x.1) ∧ Below w.heap.size w w' := by
  obtain ⟨i0, hi, hz0, hz1, hz2⟩ := info_parts fptr_info
  obtain ⟨jf, hjf, hjs⟩ := fault_info
  have hmm := @run_makeMap Tryd.prog
  have hta := ta_some
  have htn := ta_nil
  have HN := Lib.hid h.nodup
  have HW := Lib.hid h.whole
  have HLT := Lib.hid h.lt
  go_enter Tryd.func44, Tryd.ntmps44
  go_wp2_with fail
  go_loopg [0, 4] fs.length (fun gk ev lv wr => ∃ (done rest : List (Nat × Nat)), Hid (fs = done ++ rest ∧ Chain w c ev rest) ∧ rest.length ≤ gk ∧ done.length ≤ 1000 ∧
      Hid (wr.ownsRow (w.heap.size + 1) 63 1 lv done.length (done.map fun x => ptrV x.1)) ∧ Hid (PMap wr w.heap.size (done.map Prod.fst)) ∧ Below w.heap.size w wr)
  case atStart => exact ⟨[], fs, Lib.hid ⟨rfl, h⟩, Nat.le_refl _, by simp, Lib.hid ⟨by simp, .inl ⟨rfl, rfl⟩⟩, Lib.hid ⟨#[], 0, heap_alloc_new w _, rfl⟩, (Below.refl _ _).alloc (Nat.le_refl _) _⟩
  case round =>
    clear h
    obtain ⟨done, rest, HC, hgk, hdl, HO, HM, hbel⟩ := hrel
    obtain ⟨hfs, hch⟩ := HC.out
    clear HC
    have hMlt := HM.out.lt
    rcases rest with _ | ⟨⟨b, l⟩, r⟩
    · have he : u0 = .nilIface := hch
      subst he
      obtain ⟨A, cp, rfl, _, _⟩ := own_slice HO.out
      have HL := Lib.hid (Lies.of_own HO.out)
      have HF : Hid (fs = done) := Lib.hid (by rw [hfs, List.append_nil])
      clear hch hfs HO HM
      go_wp2_with fail
      go_ret2
      refine ⟨A, cp, by rw [HF.out]; rfl, by rw [HF.out]; exact HL.out, hbel⟩
    · obtain ⟨he, o, hblk, hr, hlt⟩ := hch
      subst he
      have HFS := Lib.hid hfs
      have hbw := hblk.lt
      have hcell := (hblk.keep hbel hbw).cell (i := 2) rfl
      have HBK := Lib.hid (fun (wx : World) (hx : Below w.heap.size w wx) => (hblk.keep hx hbw).cell (i := 2) rfl)
      have HR := Lib.hid hr
      have hnd : b ∉ done.map Prod.fst := by
        have h1 := HN.out
        rw [HFS.out, List.map_append, List.nodup_append] at h1
        intro hm
        exact h1.2.2 b hm b (by simp) rfl
      have HNI := Lib.hid hnd
      have hwb : Whole w b := hblk.whole
      have hwd : ∀ k ∈ done.map Prod.fst, Whole w k ∧ k < w.heap.size := fun k hk => by
        have hk2 : k ∈ fs.map Prod.fst := by rw [HFS.out, List.map_append]; exact List.mem_append_left _ hk
        refine ⟨HW.out k hk2, ?_⟩
        obtain ⟨x, hx, rfl⟩ := List.mem_map.1 hk2
        exact HLT.out x hx
      have LK := lookup_none (P := Tryd.prog) (w := wr) Tryd.underlying97 Tryd.underlying63 hjf hjs int_zero HM.out (hwb.keep hbel hbw) hnd (fun k hk => (hwd k hk).1.keep hbel (hwd k hk).2)
      have UP := Lib.hid (fun (wx : World) (hx : Below w.heap.size w wx) (hm : PMap wx w.heap.size (done.map Prod.fst)) (v : Value) => mapUpdate_new (P := Tryd.prog) (w := wx) v Tryd.underlying97 Tryd.underlying63 hjf hjs hm (hwb.keep hx hbw) HNI.out (fun k hk => (hwd k hk).1.keep hx (hwd k hk).2))
      have STEP : Hid (∀ (w2 : World) (v2 : Value), w2.ownsRow (w.heap.size + 1) 63 1 v2 (done.length + 1) ((done.map fun x => ptrV x.1) ++ [ptrV b]) → (wr.alloc (.cells #[.pointer (some ⟨b, 0, none⟩)] 63)).grownBy w2 u4.ownBlock → ∃ w3, (Instr.mapUpdate 97 (.map (some w.heap.size)) (.pointer (some ⟨b, 0, none⟩)) (.int .i64 ((done.length : Int) + 1))).run Tryd.prog w2 = .ok () w3 ∧
          Hid (Hid (w3.ownsRow (w.heap.size + 1) 63 1 v2 (done ++ [(b, l)]).length ((done ++ [(b, l)]).map fun x => ptrV x.1)) ∧ Hid (PMap w3 w.heap.size ((done ++ [(b, l)]).map Prod.fst)) ∧ Below w.heap.size w w3) ∧ w3.cell? ⟨b, 2, none⟩ = some o) := Lib.hid (fun w2 v2 hown2 hgrow2 => by
        have hb2 : Below w.heap.size w w2 := (hbel.alloc hbel.size _).grown hgrow2 (by have := hbel.size; simp; omega) (fun k hk => Nat.le_of_lt (HO.out.lt k hk).1)
        have hm1 : PMap (wr.alloc (.cells #[.pointer (some ⟨b, 0, none⟩)] 63)) w.heap.size (done.map Prod.fst) := by
          obtain ⟨es, cl, hb, hk⟩ := HM.out
          exact ⟨es, cl, (Below.heap_alloc wr _ _ HM.out.lt).trans hb, hk⟩
        have hm2 := hm1.grown hgrow2 hm1.lt (fun e => by have := (HO.out.lt _ e.symm).1; omega)
        obtain ⟨w3, hup, hm3, hg3⟩ := UP.out w2 hb2 hm2 (.int .i64 ((done.length : Int) + 1))
        have hb3 : Below w.heap.size w w3 := hb2.grown hg3 hb2.size (fun k hk => by injection hk with hk; omega)
        refine ⟨w3, hup, Lib.hid ⟨Lib.hid ?_, Lib.hid (by simpa using hm3), hb3⟩, HBK.out w3 hb3⟩
        have := hown2.kept hg3 (.inr (by intro e; have := (hown2.lt _ e).1; omega))
        simpa using this)
      clear hnd hwb hwd hblk hr hlt hfs
      have hsz := hbel.size
      rw [ptrV]
      go_wp2_with (at_builtin; refine wpList_append_own _ rfl (.tmp 27) (.tmp 29) 69 rfl (w.heap.size + 1) 63 i0 (.pointer none) 1 8 Tryd.underlying69 hi hz0 hz1 hz2 rfl (by decide) _ _ _ rfl (HO.out.alloc _) ⟨_, 0, none⟩ 1 1 [ptrV b] rfl rfl (cell_one_new _ _ _) (by intro u hu; simp only [List.mem_singleton] at hu; subst hu; rfl) (by unfold maxLen; omega) (by omega) (by simp; omega) ?_; intro v2 w2 hown2 hgrow2 hnn2; obtain ⟨A2, c2, rfl, _, _⟩ := own_slice hown2; obtain ⟨w3, hup, H3, hcell3⟩ := STEP.out w2 _ hown2 hgrow2; clear hgrow2 hnn2 hown2)
      go_roundg r.length
      case measure => simp at hgk; omega
      case rel => exact ⟨done ++ [(b, l)], r, Lib.hid ⟨by rw [HFS.out]; simp, HR.out⟩, Nat.le_refl _, by simp; have := congrArg List.length HFS.out; simp at this; omega, H3.out.1, H3.out.2.1, H3.out.2.2⟩
end Go.Proofs.YtaaapjoopchgiaaDoor
