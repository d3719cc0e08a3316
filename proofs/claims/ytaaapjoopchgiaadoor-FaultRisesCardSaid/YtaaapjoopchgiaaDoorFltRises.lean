/-
  The walk of the law FaultRises.
-/
import Derived.Test.YtaaapjoopchgiaaDoorFltLaws
namespace Go.Proofs.YtaaapjoopchgiaaDoor
open Go.RowKit
set_option maxHeartbeats 1000000
set_option linter.unusedVariables false

theorem flows_join_left (a b : Nat) : Lab.flows a (Lab.join a b) = true := by
  rw [Lab.flows_iff]; intro i h; rw [Lab.join, Nat.testBit_or, h]; rfl
theorem flows_join_right (a b : Nat) : Lab.flows b (Lab.join a b) = true := by
  rw [Lab.flows_iff]; intro i h; rw [Lab.join, Nat.testBit_or, h, Bool.or_true]
theorem jn_cons (m : Nat) (ls : List Nat) : jn (m :: ls) = Lab.join (jn ls) m := by
  rw [← jn_reverse, List.reverse_cons, jn_snoc, jn_reverse]

theorem faultRises_walk (c : Int) (l : Nat) (A0 : Option Addr) (cap : Nat) (zs : List Nat) (top : Nat) (w : World) (hl : l < 18446744073709551616) (hz : Lies w w.heap.size A0 (L64 zs)) (hzb : ∀ z ∈ zs, z < 18446744073709551616) (hn : zs.length ≤ 9223372036854775807) (ht : top < 18446744073709551616) (hE : ErrType w) :
    Calls Tryd.prog 4 #[.int .i64 c, .int .u64 (l : Int), .slice A0 zs.length cap, .int .u64 (top : Int)] w fun e w' => e = .returned (.bool true) ∧ Below w.heap.size w w' := by
  have MA := Lib.hid (made_any c l A0 cap zs w hl hz hzb hn hE)
  have HE := Lib.hid hE
  have hlt := hE.lt
  clear hz hzb hE
  go_enter Tryd.func4, Tryd.ntmps4
  go_wp2_with fail
  refine MA.out.mono ?_
  rintro ev w1 ⟨e, fs, A, cp, rfl, HB, hfl, hb1⟩
  have hba : Below w1.heap.size w1 (w1.alloc (.cells #[.int .i64 c, .slice A fs.length cp] 27)) := (Below.refl _ _).alloc (Nat.le_refl _) _
  have hb1a : Below w.heap.size w (w1.alloc (.cells #[.int .i64 c, .slice A fs.length cp] 27)) := hb1.trans (hba.mono hb1.size)
  have RA := Lib.hid (raise_any c e fs top (w1.alloc (.cells #[.int .i64 c, .slice A fs.length cp] 27)) (HB.out.chain.below hba) HB.out.zero (HE.out.below hb1a hlt))
  clear MA hb1
  go_wp2_with fail
  refine RA.out.mono ?_
  rintro ev w2 ⟨e', fs', rfl, hch', HF, hb2⟩
  have hb02 : Below w.heap.size w w2 := hb1a.trans (hb2.mono (by simpa using hb1a.size))
  have hch2 : Chain w2 c e fs := (HB.out.chain.below hba).below hb2
  rcases fs with _ | ⟨⟨b, lb⟩, r⟩
  · have he : e = .nilIface := hch2
    have hf' := HF.out.1 rfl
    subst he hf'
    have he' : e' = .nilIface := hch'
    subst he'
    have hq := eql_nil_nil
    clear hch2 hch' hb2 hba RA
    go_wp2_with fail
    refine (awake18 w2 (HE.out.below hb02 hlt)).mono ?_
    rintro ev w3 ⟨rfl, hb3⟩
    go_wp2_with fail
    go_ret
    exact ⟨rfl, hb02.trans (hb3.mono hb02.size)⟩
  · obtain ⟨g, hg⟩ := HF.out.2 (by simp)
    subst hg
    have hz1 : c = 0 ↔ (b, lb) :: r = [] := HB.out.zero
    have hz2 : c = 0 ↔ (g, top) :: (b, lb) :: r = [] := by
      constructor
      · intro h; have := hz1.1 h; cases this
      · intro h; cases h
    have hlt2 : ∀ x ∈ (g, top) :: (b, lb) :: r, x.2 < 18446744073709551616 := fun x hx => by
      rcases List.mem_cons.1 hx with rfl | hx
      · exact ht
      · exact HB.out.lt x hx
    have HCE := Lib.hid (fun (wx : World) (hx : Below w2.heap.size w2 wx) => class_any c e _ wx (hch2.below hx) hz1 (HE.out.below (hb02.trans (hx.mono hb02.size)) hlt))
    have HCX := Lib.hid (fun (wx : World) (hx : Below w2.heap.size w2 wx) => class_any c e' _ wx (hch'.below hx) hz2 (HE.out.below (hb02.trans (hx.mono hb02.size)) hlt))
    have HLE := Lib.hid (fun (wx : World) (hx : Below w2.heap.size w2 wx) => faultLabel_any c e _ wx (hch2.below hx) (by omega) HB.out.lt)
    have HLX := Lib.hid (fun (wx : World) (hx : Below w2.heap.size w2 wx) => faultLabel_any c e' _ wx (hch'.below hx) (by simp at hfl ⊢; omega) hlt2)
    have HNE := Lib.hid (fun (wx : World) (hx : Below w2.heap.size w2 wx) => faultLong_any c e _ wx (hch2.below hx) (by omega))
    have HNX := Lib.hid (fun (wx : World) (hx : Below w2.heap.size w2 wx) => faultLong_any c e' _ wx (hch'.below hx) (by simp at hfl ⊢; omega))
    have hjl : jn (((b, lb) :: r).map Prod.snd) < 18446744073709551616 := jn_lt (fun l' hl' => by obtain ⟨x, hx, rfl⟩ := List.mem_map.1 hl'; exact HB.out.lt x hx)
    rw [List.map_cons, jn_cons] at HLX
    rw [show ((g, top) :: (b, lb) :: r).length = ((b, lb) :: r).length + 1 from rfl] at HNX
    have hee := hch2.1
    have hee' := hch'.1
    subst hee hee'
    rw [ptrV] at HCE HLE HNE
    rw [ptrV] at HCX HLX HNX
    clear hch2 hch' hb2 hba RA HB HF hz1 hz2 hlt2
    generalize jn (((b, lb) :: r).map Prod.snd) = J at *
    generalize ((b, lb) :: r).length = n at *
    have hjx : Lab.join J top < 18446744073709551616 := Lab.join_lt hjl ht
    have F1 := flows_join_left J top
    have F2 := flows_join_right J top
    have HF1 := Lib.hid F1
    have HF2 := Lib.hid F2
    generalize Lab.join J top = JX at *
    clear F1 F2
    have hq := eql_fault_nil
    have hq2 := neq_fault_nil
    have T : ∀ {a b : World}, Below w2.heap.size w2 a → Below a.heap.size a b → Below w2.heap.size w2 b := fun h h' => h.trans (h'.mono h.size)
    have HT := Lib.hid (fun (a b : World) => @T a b)
    clear T
    rw [ptrV, ptrV]
    go_wp2_with fail
    refine (HCX.out w2 (Below.refl _ _)).mono ?_
    rintro ev w3 ⟨rfl, hb3⟩
    go_wp2_with fail
    refine (HCE.out w3 hb3).mono ?_
    rintro ev w4 ⟨rfl, hb34⟩
    have hb4 := HT.out _ _ hb3 hb34
    clear hb3 hb34
    go_wp2_with fail
    refine (HLE.out w4 hb4).mono ?_
    rintro ev w5 ⟨rfl, hb45⟩
    have hb5 := HT.out _ _ hb4 hb45
    clear hb4 hb45
    go_wp2_with fail
    refine (HLX.out w5 hb5).mono ?_
    rintro ev w6 ⟨rfl, hb56⟩
    have hb6 := HT.out _ _ hb5 hb56
    clear hb5 hb56
    go_wp2_with fail
    refine (refFlows_any J JX w6 hjl hjx).mono ?_
    rintro ev w' ⟨rfl, rfl⟩
    rw [HF1.out]
    go_wp2_with fail
    refine (HLX.out w6 hb6).mono ?_
    rintro ev w7 ⟨rfl, hb67⟩
    have hb7 := HT.out _ _ hb6 hb67
    clear hb6 hb67
    go_wp2_with fail
    refine (refFlows_any top JX w7 ht hjx).mono ?_
    rintro ev w' ⟨rfl, rfl⟩
    rw [HF2.out]
    go_wp2_with fail
    refine (HNX.out w7 hb7).mono ?_
    rintro ev w8 ⟨rfl, hb78⟩
    have hb8 := HT.out _ _ hb7 hb78
    clear hb7 hb78
    go_wp2_with fail
    refine (HNE.out w8 hb8).mono ?_
    rintro ev w9 ⟨rfl, hb89⟩
    have hb9 := HT.out _ _ hb8 hb89
    clear hb8 hb89
    have hb09 : Below w.heap.size w w9 := hb02.trans (hb9.mono hb02.size)
    go_wp2_with fail
    refine (awake18 w9 (HE.out.below hb09 hlt)).mono ?_
    rintro ev w10 ⟨rfl, hb10⟩
    go_wp2_with fail
    go_ret
    exact ⟨rfl, hb09.trans (hb10.mono hb09.size)⟩
end Go.Proofs.YtaaapjoopchgiaaDoor
