/-
  scrimlaw18.made: a fault, raised as often as there are labels; and the document's.
-/
import Derived.Test.YtaaapjoopchgiaaDoorFltMade2
namespace Go.Proofs.YtaaapjoopchgiaaDoor
open Go.RowKit
set_option maxHeartbeats 1000000
set_option linter.unusedVariables false

/-- A chain, and the document's fault beside it. -/
structure Both (w : World) (c : Int) (e : Value) (fs : List (Nat × Nat)) (A : Option Addr) : Prop where
  chain : Chain w c e fs
  zero : c = 0 ↔ fs = []
  lies : Lies w w.heap.size A (L64 (fs.map Prod.snd).reverse)
  lt : ∀ x ∈ fs, x.2 < 18446744073709551616
theorem Both.below {w w' : World} {c : Int} {e : Value} {fs : List (Nat × Nat)} {A : Option Addr} (h : Both w c e fs A) (hb : Below w.heap.size w w') : Both w' c e fs A :=
  ⟨h.chain.below hb, h.zero, (h.lies.below hb).more hb.size, h.lt⟩

theorem Lies.set_other {w : World} {B : Nat} {A : Option Addr} {vs : List Value} (h : Lies w B A vs) {p : Addr} {u : Value} (hp : w.cell? p = some u) (hu : u ∉ vs) (v : Value) : Lies (w.setCell p v) B A vs := by
  rcases h with h | ⟨b, off, hA, hb, hc⟩
  · exact .inl h
  · refine .inr ⟨b, off, hA, hb, fun i x hx => ?_⟩
    have h1 := hc i x hx
    rw [World.cell?_setCell_other _ _ _ _ (fun e => ?_)]
    · exact h1
    · subst e
      rw [hp] at h1
      injection h1 with h1
      subst h1
      exact hu (List.mem_of_getElem? hx)
theorem Blk.ne {w : World} {g g' : Nat} {t t' : TypeId} {vs vs' : List Value} (h : Blk w g t vs) (h' : Blk w g' t' vs') (hne : t ≠ t') : g ≠ g' := by
  rintro rfl
  unfold Blk at h h'
  rw [h] at h'
  injection h' with h'
  injection h' with _ ht
  exact hne ht
theorem Chain.set {w : World} {c : Int} {g : Nat} {t : TypeId} {vs : List Value} (hg : Blk w g t vs) (ht : 67 ≠ t) (i : Nat) (v : Value) : ∀ {fs : List (Nat × Nat)} {e : Value}, Chain w c e fs → Chain (w.setCell ⟨g, i, none⟩ v) c e fs
  | [], _, h => h
  | (b, l) :: r, e, ⟨he, o, hk, hr, hl⟩ => ⟨he, o, hk.far (p := ⟨g, i, none⟩) (hk.ne hg ht) v, Chain.set hg ht i v hr, hl⟩
theorem both_step {wr w3 w4 : World} {c : Int} {e e' : Value} {fs fs' : List (Nat × Nat)} {A A4 : Option Addr} {ls4 : List Nat} {m FB cp cp4 : Nat} (h : Both wr c e fs A) (hch : Chain w3 c e' fs') (H3 : (fs = [] → fs' = []) ∧ (fs ≠ [] → ∃ g, fs' = (g, m) :: fs)) (hb4 : Below w3.heap.size w3 w4) (hl4 : Lies w4 w4.heap.size A4 (L64 ls4))
    (H4 : ((fs.map Prod.snd).reverse = [] → ls4 = []) ∧ ((fs.map Prod.snd).reverse ≠ [] → ls4 = (fs.map Prod.snd).reverse ++ [m])) (hbx : Blk w4 FB 27 [.int .i64 c, .slice A fs.length cp]) (hm : m < 18446744073709551616) :
    Both ((w4.setCell ⟨FB, 0, none⟩ (.int .i64 c)).setCell ⟨FB, 1, none⟩ (.slice A4 ls4.length cp4)) c e' fs' A4 ∧ ls4.length = fs'.length ∧ fs'.length ≤ fs.length + 1 := by
  have hls : ls4 = (fs'.map Prod.snd).reverse := by
    by_cases h0 : fs = []
    · rw [H3.1 h0, H4.1 (by rw [h0]; rfl)]; rfl
    · obtain ⟨g, e1⟩ := H3.2 h0
      rw [H4.2 (by simpa using h0), e1]; simp
  have hlen : fs'.length ≤ fs.length + 1 := by
    by_cases h0 : fs = []
    · rw [H3.1 h0]; simp
    · obtain ⟨g, e1⟩ := H3.2 h0
      rw [e1]; simp
  refine ⟨⟨?_, ?_, ?_, ?_⟩, by rw [hls]; simp, hlen⟩
  · exact (((hch.below hb4).set hbx (by decide) 0 (.int .i64 c)).set (hbx.set_ 0 (.int .i64 c)) (by decide) 1 _)
  · rw [h.zero]
    constructor
    · exact H3.1
    · intro h'
      by_cases h0 : fs = []
      · exact h0
      · obtain ⟨g, e1⟩ := H3.2 h0
        rw [e1] at h'; cases h'
  · rw [← hls]
    have n1 : Value.int IntKind.i64 c ∉ L64 ls4 := by
      intro hm; obtain ⟨n, _, e⟩ := List.mem_map.1 hm; cases e
    have n2 : Value.slice A fs.length cp ∉ L64 ls4 := by
      intro hm; obtain ⟨n, _, e⟩ := List.mem_map.1 hm; cases e
    have l1 := hl4.set_other (hbx.cell (i := 0) rfl) n1 (.int .i64 c)
    have l2 := l1.set_other ((hbx.set_ 0 (.int .i64 c)).cell (i := 1) rfl) n2 (.slice A4 ls4.length cp4)
    exact l2.more (by simp [World.setCell])
  · intro x hx
    by_cases h0 : fs = []
    · rw [H3.1 h0] at hx; cases hx
    · obtain ⟨g, e1⟩ := H3.2 h0
      rw [e1] at hx
      rcases List.mem_cons.1 hx with rfl | hx
      · exact hm
      · exact h.lt x hx

theorem both_end {wr : World} {c : Int} {e : Value} {fs : List (Nat × Nat)} {A : Option Addr} {RB cp : Nat} (h : Both wr c e fs A) (hr : Blk wr RB 27 [.int .i64 0, .slice none 0 0]) :
    Both ((wr.setCell ⟨RB, 0, none⟩ (.int .i64 c)).setCell ⟨RB, 1, none⟩ (.slice A fs.length cp)).drew c e fs A := by
  have hB : Both ((wr.setCell ⟨RB, 0, none⟩ (.int .i64 c)).setCell ⟨RB, 1, none⟩ (.slice A fs.length cp)) c e fs A := by
    refine ⟨(h.chain.set hr (by decide) 0 (.int .i64 c)).set (hr.set_ 0 (.int .i64 c)) (by decide) 1 _, h.zero, ?_, h.lt⟩
    have n1 : Value.int IntKind.i64 0 ∉ L64 (fs.map Prod.snd).reverse := by
      intro hm; obtain ⟨n, _, e⟩ := List.mem_map.1 hm; cases e
    have n2 : Value.slice none 0 0 ∉ L64 (fs.map Prod.snd).reverse := by
      intro hm; obtain ⟨n, _, e⟩ := List.mem_map.1 hm; cases e
    have l1 := h.lies.set_other (hr.cell (i := 0) rfl) n1 (.int .i64 c)
    have l2 := l1.set_other ((hr.set_ 0 (.int .i64 c)).cell (i := 1) rfl) n2 (.slice A fs.length cp)
    exact l2.more (by simp [World.setCell])
  have hd : Below ((wr.setCell ⟨RB, 0, none⟩ (.int .i64 c)).setCell ⟨RB, 1, none⟩ (.slice A fs.length cp)).heap.size ((wr.setCell ⟨RB, 0, none⟩ (.int .i64 c)).setCell ⟨RB, 1, none⟩ (.slice A fs.length cp)) ((wr.setCell ⟨RB, 0, none⟩ (.int .i64 c)).setCell ⟨RB, 1, none⟩ (.slice A fs.length cp)).drew := ⟨rfl, rfl, rfl, Nat.le_refl _, fun _ _ => rfl⟩
  exact hB.below hd

theorem made_any (c : Int) (l : Nat) (A0 : Option Addr) (cap : Nat) (zs : List Nat) (w : World) (hl : l < 18446744073709551616) (hz : Lies w w.heap.size A0 (L64 zs)) (hzb : ∀ z ∈ zs, z < 18446744073709551616) (hn : zs.length ≤ 9223372036854775807) (hE : ErrType w) :
    Calls Tryd.prog 11 #[.int .i64 c, .int .u64 (l : Int), .slice A0 zs.length cap] w fun ev w' => ∃ e fs A cp, ev = .returned (.tuple #[e, .agg #[.int .i64 c, .slice A fs.length cp]]) ∧ Hid (Both w' c e fs A) ∧ fs.length ≤ 41 ∧ Below w.heap.size w w' := by
  have HZ := Lib.hid hz
  have HZB := Lib.hid hzb
  have HE := Lib.hid hE
  have hElt := hE.lt
  clear hz hzb hE
  go_enter Tryd.func11, Tryd.ntmps11
  go_wp2_with fail
  refine (new_any c l _).mono ?_
  rintro ev w1 ⟨v1, fs1, rfl, hch1, HF1, hb1⟩
  have hb01 : Below w.heap.size w w1 := ((Below.refl _ _).alloc (Nat.le_refl _) _).trans (hb1.mono (by simp))
  have hres1 : Blk w1 w.heap.size 27 [.int .i64 0, .slice none 0 0] := (Blk.new w _ _).keep hb1 (by simp)
  clear hb1
  go_wp2_with fail
  refine (refNew_any c l w1).mono ?_
  rintro ev w2 ⟨A2, cp2, ls2, rfl, hl2, HF2, hb2⟩
  have hb02 : Below w.heap.size w w2 := hb01.trans (hb2.mono hb01.size)
  have hres2 := hres1.keep hb2 hres1.lt
  have HB0 : Hid (ls2.length = fs1.length ∧ Both w2 c v1 fs1 A2 ∧ fs1.length ≤ 1) := Lib.hid (by
    by_cases h0 : c = 0
    · have e1 := HF1.out.1 h0
      have e2 := HF2.out.1 h0
      subst e1 e2
      exact ⟨rfl, ⟨hch1.below hb2, ⟨fun _ => rfl, fun _ => h0⟩, .inl rfl, (fun x hx => by cases hx)⟩, by simp⟩
    · obtain ⟨g, e1⟩ := HF1.out.2 h0
      have e2 := HF2.out.2 h0
      subst e1 e2
      exact ⟨rfl, ⟨hch1.below hb2, ⟨fun h => absurd h h0, (fun h => by cases h)⟩, hl2, (fun x hx => by simp at hx; subst hx; exact hl)⟩, by simp⟩)
  obtain ⟨hlen2, _, _⟩ := HB0.out
  have HLEN := Lib.hid hlen2
  clear hch1 hl2 hres1 hb2 HF1 HF2 hb01 hlen2
  rw [HLEN.out]
  go_wp2_with fail
  have hbox0 : Blk (w2.alloc (.cells #[.int .i64 c, .slice A2 fs1.length cp2] 27)) w2.heap.size 27 [.int .i64 c, .slice A2 fs1.length cp2] := Blk.new w2 _ _
  have hba : Below w2.heap.size w2 (w2.alloc (.cells #[.int .i64 c, .slice A2 fs1.length cp2] 27)) := (Below.refl _ _).alloc (Nat.le_refl _) _
  have hs02 := hb02.size
  go_loopw [8, 10] (fun ev iv wr => ∃ (k : Nat) (fs : List (Nat × Nat)) (A : Option Addr) (cp : Nat), k ≤ zs.length ∧ k ≤ 40 ∧ iv = .int .i64 (k : Int) ∧ Hid (Blk wr w2.heap.size 27 [.int .i64 c, .slice A fs.length cp]) ∧ Hid (Blk wr w.heap.size 27 [.int .i64 0, .slice none 0 0]) ∧ Hid (Both wr c ev fs A) ∧ fs.length ≤ k + 1 ∧ Below w.heap.size w wr) (fun _ iv _ => zs.length - (intOf iv).toNat)
  case atStart => exact ⟨0, fs1, A2, cp2, Nat.zero_le _, by omega, rfl, Lib.hid hbox0, Lib.hid (hres2.alloc _), Lib.hid (HB0.out.2.1.below hba), by have := HB0.out.2.2; omega, hb02.trans (hba.mono hs02)⟩
  case round =>
    have hrl := hres2.lt
    clear hbox0 hba hres2 HB0
    obtain ⟨k, fs, A, cp, hk, hk40, rfl, HBX, HRS, HBO, hfl, hbel⟩ := hrel
    have hltb := HBX.out.lt
    have hsz := hbel.size
    by_cases hlt : k < zs.length
    · by_cases h40 : k < 40
      · obtain ⟨b, off, rfl, hbb, hcell⟩ := HZ.out.at_ (k := k) (by rw [L64_len]; exact hlt)
        rw [show (L64 zs)[k]'(by rw [L64_len]; exact hlt) = .int .u64 ((zs[k] : Nat) : Int) by simp [L64]] at hcell
        have HCM := Lib.hid (fun (wx : World) (hx : Below w.heap.size w wx) => (hx.cell (p := ⟨b, off + k, none⟩) hbb).trans hcell)
        have hcell0 := HCM.out wr hbel
        have hzl := HZB.out zs[k] (List.getElem_mem hlt)
        have RA := Lib.hid (raise_any c u8 fs zs[k] wr HBO.out.chain HBO.out.zero (HE.out.below hbel hElt))
        have RR := Lib.hid (fun (wx : World) (hx : Below wr.heap.size wr wx) => refRaise_any c zs[k] A cp (fs.map Prod.snd).reverse wx (((HBO.out.lies.below hx).more hx.size)) (by rw [HBO.out.zero]; simp) (by simp; omega))
        rw [show (fs.map Prod.snd).reverse.length = fs.length by simp] at RR
        generalize zs[k] = m at *
        clear hcell
        go_wp2_with fail
        refine RA.out.mono ?_
        rintro ev w3 ⟨e', fs', rfl, hch3, HF3, hb3⟩
        have hb03 : Below w.heap.size w w3 := hbel.trans (hb3.mono hsz)
        have hcell3 := HCM.out w3 hb03
        have hbx3 := HBX.out.keep hb3 hltb
        have c30 := hbx3.cell (i := 0) rfl
        have c31 := hbx3.cell (i := 1) rfl
        have RRx := Lib.hid (RR.out w3.drew ⟨hb3.os, hb3.tape, hb3.output, hb3.size, hb3.block⟩)
        have HX3 := Lib.hid hbx3
        have HB3 := Lib.hid (And.intro hb3 hb03)
        clear hbx3 RA hcell0 hb3 hb03
        go_wp2_with fail
        go_region_with (go_at_call 42; refine RRx.out.mono ?_; rintro ev w4 ⟨A4, cp4, ls4, rfl, hl4, HF4, hb4'⟩; have hb4 : Below w3.heap.size w3 w4 := ⟨hb4'.os, hb4'.tape, hb4'.output, hb4'.size, hb4'.block⟩; clear hb4'; have hbx4 := HX3.out.keep hb4 HX3.out.lt; have d0 := hbx4.cell (i := 0) rfl; have d1 := hbx4.cell (i := 1) rfl; have z0 := hbx4.frozen 0; have z1 := hbx4.frozen 1; have HX4 := Lib.hid hbx4; clear hbx4)
        all_goals
          obtain ⟨BN, hln, hfn⟩ := both_step (cp4 := cp4) HBO.out hch3 HF3.out hb4 hl4 HF4.out HX4.out hzl
          have HBN := Lib.hid BN
          have HXN := Lib.hid ((HX4.out.set_ 0 (.int .i64 c)).set_ 1 (.slice A4 ls4.length cp4))
          have hb05 : Below w.heap.size w w4 := HB3.out.2.trans (hb4.mono (by have := HB3.out.2.size; omega))
          have HRN := Lib.hid ((((HRS.out.keep HB3.out.1 (by omega)).keep hb4 (by have := HB3.out.1.size; omega)).far (p := ⟨w2.heap.size, 0, none⟩) (by show w.heap.size ≠ w2.heap.size; omega) (.int .i64 c)).far (p := ⟨w2.heap.size, 1, none⟩) (by show w.heap.size ≠ w2.heap.size; omega) (.slice A4 ls4.length cp4))
          have HLN := Lib.hid hln
          clear BN hch3 hl4 hb4 hln
          go_wp2_with fail
          refine ⟨⟨k + 1, fs', A4, cp4, by omega, by omega, by go_num, ?_, HRN, HBN, by omega, (hb05.setCell (by show w.heap.size ≤ w2.heap.size; omega) _).setCell (by show w.heap.size ≤ w2.heap.size; omega) _⟩, by simp [intOf]; omega⟩
          rw [← HLN.out]; exact HXN
      · have d0 := HBX.out.cell (i := 0) rfl
        have d1 := HBX.out.cell (i := 1) rfl
        have e0 := HRS.out.cell (i := 0) rfl
        have e1 := HRS.out.cell (i := 1) rfl
        have z0 := HRS.out.frozen 0
        have z1 := HRS.out.frozen 1
        have HEND := Lib.hid (both_end (cp := cp) HBO.out HRS.out)
        have HRE := Lib.hid ((HRS.out.set_ 0 (.int .i64 c)).set_ 1 (.slice A fs.length cp))
        have hbe : Below w.heap.size w ((wr.setCell ⟨w.heap.size, 0, none⟩ (.int .i64 c)).setCell ⟨w.heap.size, 1, none⟩ (.slice A fs.length cp)).drew := by
          have := (hbel.setCell (p := ⟨w.heap.size, 0, none⟩) (Nat.le_refl _) (.int .i64 c)).setCell (p := ⟨w.heap.size, 1, none⟩) (Nat.le_refl _) (.slice A fs.length cp)
          exact ⟨this.os, this.tape, this.output, this.size, this.block⟩
        go_wp2_with fail
        go_region
        go_wp2_with fail
        have f0 := HRE.out.cell (i := 0) rfl
        have f1 := HRE.out.cell (i := 1) rfl
        refine bodyPost_ret (v := .tuple #[u8, .agg #[.int .i64 c, .slice A fs.length cp]]) (by simp [results, Tryd.results11, go_sem, f0, f1]) rfl ⟨u8, fs, A, cp, rfl, HEND, by omega, hbe⟩
    · have d0 := HBX.out.cell (i := 0) rfl
      have d1 := HBX.out.cell (i := 1) rfl
      have e0 := HRS.out.cell (i := 0) rfl
      have e1 := HRS.out.cell (i := 1) rfl
      have z0 := HRS.out.frozen 0
      have z1 := HRS.out.frozen 1
      have HEND := Lib.hid (both_end (cp := cp) HBO.out HRS.out)
      have HRE := Lib.hid ((HRS.out.set_ 0 (.int .i64 c)).set_ 1 (.slice A fs.length cp))
      have hbe : Below w.heap.size w ((wr.setCell ⟨w.heap.size, 0, none⟩ (.int .i64 c)).setCell ⟨w.heap.size, 1, none⟩ (.slice A fs.length cp)).drew := by
        have := (hbel.setCell (p := ⟨w.heap.size, 0, none⟩) (Nat.le_refl _) (.int .i64 c)).setCell (p := ⟨w.heap.size, 1, none⟩) (Nat.le_refl _) (.slice A fs.length cp)
        exact ⟨this.os, this.tape, this.output, this.size, this.block⟩
      go_wp2_with fail
      go_region
      go_wp2_with fail
      have f0 := HRE.out.cell (i := 0) rfl
      have f1 := HRE.out.cell (i := 1) rfl
      refine bodyPost_ret (v := .tuple #[u8, .agg #[.int .i64 c, .slice A fs.length cp]]) (by simp [results, Tryd.results11, go_sem, f0, f1]) rfl ⟨u8, fs, A, cp, rfl, HEND, by omega, hbe⟩
end Go.Proofs.YtaaapjoopchgiaaDoor
