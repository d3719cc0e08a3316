/-
  Texts of this proof, joined (by wip/bin/bundle.py): Tok11, Tok12, TokRises.
-/
import Derived.Test.YtfiefglagknclaaDoorM10
import Derived.Deep.RegionWith
import Derived.Scope
import Derived.WalkMore
import Derived.Deep.MidRow
import Derived.BigQuiet
import Derived.Deep.CutRange
/-
  token.Cut: all tokens of a line.
-/
namespace Go.Proofs.YtfiefglagknclaaDoor
open Go.RowKit
set_option maxHeartbeats 4000000
set_option maxRecDepth 100000
set_option linter.unusedVariables false

theorem goF_end {l : List Int} {f i : Nat} {out : List Tk.Tok} (h : l.length ≤ i ∨ l.getD i (-1) = 9053) (hf : 1 ≤ f) : Tk.goF l f i out = (out, 0, 0) := by
  obtain ⟨f, rfl⟩ : ∃ g, f = g + 1 := ⟨f - 1, by omega⟩
  unfold Tk.goF; rw [if_pos h]
theorem goF_blank {l : List Int} {f i : Nat} {out : List Tk.Tok} (h : i < l.length) (hx : l.getD i (-1) ≠ 9053) (hb : Tk.cls (l.getD i (-1)) = 1) : Tk.goF l (f + 1) i out = Tk.goF l f (i + 1) out := by
  rw [Tk.goF, if_neg (by rintro (h1 | h1); omega; exact hx h1), if_pos hb]
theorem goF_bad {l : List Int} {f i : Nat} {out : List Tk.Tok} (h : i < l.length) (hx : l.getD i (-1) ≠ 9053) (hb : Tk.cls (l.getD i (-1)) ≠ 1) (he : (Tk.read l i).2.2 ≠ 0) (hf : 1 ≤ f) : Tk.goF l f i out = ([], i, (Tk.read l i).2.2) := by
  obtain ⟨f, rfl⟩ : ∃ g, f = g + 1 := ⟨f - 1, by omega⟩
  rw [Tk.goF, if_neg (by rintro (h1 | h1); omega; exact hx h1), if_neg hb, if_pos he]
theorem goF_next {l : List Int} {f i : Nat} {out : List Tk.Tok} (h : i < l.length) (hx : l.getD i (-1) ≠ 9053) (hb : Tk.cls (l.getD i (-1)) ≠ 1) (he : (Tk.read l i).2.2 = 0) : Tk.goF l (f + 1) i out = Tk.goF l f (i + (Tk.read l i).2.1) (out ++ [(Tk.read l i).1]) := by
  rw [Tk.goF, if_neg (by rintro (h1 | h1); omega; exact hx h1), if_neg hb, if_neg (by rw [he]; simp)]
theorem tokens_info : (Tryd.prog.info? 48).map (fun i => (i.zero, i.size, i.bytes)) = some (some (.agg #[.int .i64 0, .bool false, .slice none 0 0, .slice none 0 0, .slice none 0 0, .string ⟨#[]⟩, .int .i64 0, .int .i64 0]), 8, 120) := token_info
theorem cells_new (w : World) (xs : List Value) (t : TypeId) : ∀ j u, xs[j]? = some u → (w.alloc (.cells xs.toArray t)).cell? ((⟨w.heap.size, 0, none⟩ : Addr).add j) = some u := by
  intro j u hj
  have hadd : (⟨w.heap.size, 0, none⟩ : Addr).add j = ⟨w.heap.size, j, none⟩ := by unfold Addr.add; split <;> simp_all
  rw [hadd, cell_of_row _ w.heap.size j _ _ _ (heap_alloc_new w _)]
  simpa using hj
theorem tokZ_noU : ∀ u ∈ (Value.agg #[.int .i64 0, .bool false, .slice none 0 0, .slice none 0 0, .slice none 0 0, .string ⟨#[]⟩, .int .i64 0, .int .i64 0]).cells.toList, NoU u := by
  intro u hu
  refine tokCells_noU 0 false (n1 := .slice none 0 0) (n2 := .slice none 0 0) (lv := .slice none 0 0) (fun n e => by cases e) (fun n e => by cases e) (fun n e => by cases e) [] 0 0 u hu
theorem results_tmp3 {P : Program} {fn : Func} {p q r : Tmp} (h : fn.results = #[.tmp p, .tmp q, .tmp r]) (tmps : Array Value) (w : World) (x u v : Value)
    (hp : tmps.getD p undef = x) (hq : tmps.getD q undef = u) (hr : tmps.getD r undef = v) :
    (results fn tmps).run P w = .ok (.tuple #[x, u, v]) w := by
  have hp' : tmps[p]?.getD undef = x := by simpa using hp
  have hq' : tmps[q]?.getD undef = u := by simpa using hq
  have hr' : tmps[r]?.getD undef = v := by simpa using hr
  simp [results, h, hp', hq', hr']
/-- The tokens, the place, the error. -/
def CutOut (w : World) (r : List Tk.Tok × Nat × Int) (e : Ending) (w' : World) : Prop := ∃ v, e = .returned (.tuple #[v, .int .i64 (r.2.1 : Int), .int .i64 r.2.2]) ∧ IsToks w' w.heap.size v r.1 ∧ Below w.heap.size w w'
/-- Where the loop stands. -/
structure CutAt (l : List Int) (w0 wr : World) (i : Nat) (out : List Tk.Tok) (v : Value) : Prop where
  hi : i ≤ l.length
  len : out.length ≤ i
  toks : IsToks wr w0.heap.size v out
  below : Below w0.heap.size w0 wr
  told : ∃ f, l.length + 1 ≤ f + i ∧ Tk.goF l (l.length + 1) 0 [] = Tk.goF l f i out
/-- Where it has come to its end. -/
structure CutEnd (l : List Int) (w0 wr : World) (out : List Tk.Tok) (v : Value) : Prop where
  toks : IsToks wr w0.heap.size v out
  below : Below w0.heap.size w0 wr
  told : Tk.goF l (l.length + 1) 0 [] = (out, 0, 0)

theorem tokCut_any (s : ByteArray) (w : World) (hs : s.size ≤ 10000) :
    Calls Tryd.prog 20 #[.string s] w (CutOut w (Tk.cut s)) := by
  have DEC := Lib.hid (decode_any s w (by omega))
  have hmay : ∀ x ∈ Gl.ints (Gl.dec s 0).1, Gl.may x = true := by
    intro x hx
    unfold Gl.ints at hx
    rw [List.mem_map] at hx
    obtain ⟨n, hn, rfl⟩ := hx
    exact Gl.dec_may (s.size + 1) 0 (by omega) n hn
  have hlen : (Gl.ints (Gl.dec s 0).1).length ≤ 10000 := by
    unfold Gl.ints
    rw [List.length_map]
    have := Gl.dec_len (s := s) (s.size + 1) 0 (by omega)
    omega
  have HR : Hid (∀ e w', CutOut w (Tk.cutL (Gl.ints (Gl.dec s 0).1) (Gl.dec s 0).2) e w' → CutOut w (Tk.cut s) e w') := Lib.hid (fun e w' h => h)
  have hbad : Hid (Gl.badI (Gl.dec s 0).2 = match (Gl.dec s 0).2 with | none => -1 | some i => (i : Int)) := Lib.hid (by cases (Gl.dec s 0).2 <;> rfl)
  generalize Gl.ints (Gl.dec s 0).1 = l at *
  obtain ⟨ob, hob⟩ : ∃ ob, ob = (Gl.dec s 0).2 := ⟨_, rfl⟩
  rw [← hob] at DEC HR hbad
  obtain ⟨bad, hbd⟩ : ∃ bad, bad = Gl.badI ob := ⟨_, rfl⟩
  rw [← hbd] at DEC hbad
  clear hob hbd
  have HM := Lib.hid hmay
  clear hmay
  obtain ⟨i0, hi0, hz0, hz1, hz2⟩ := info_parts tokens_info
  have CA := Lib.hid (fun x wx => class_any x wx)
  go_enter Tryd.func20, Tryd.ntmps20
  go_upto_region 1 with fail
  go_step3
  go_wp2_with fail
  refine DEC.out.mono ?_
  rintro e w1 ⟨lv, rfl, ⟨A, c, rfl, hc1, hc2, hl⟩, hbw⟩
  have HL := Lib.hid hl
  have HBW := Lib.hid hbw
  clear hl hbw
  by_cases hbig : 2000 < l.length
  · have HRE : Hid (Tk.cutL l ob = ([], 0, 7)) := Lib.hid (by unfold Tk.cutL; rw [if_pos hbig])
    have hbig' : (2000 : Int) < (l.length : Int) := by omega
    go_wp2_with fail
    rw [Exit.noGoto_ret]
    refine bodyPost_ret (results_tmp3 (by rfl) _ _ _ _ _ (by rfl) (by rfl) (by rfl)) rfl (HR.out _ _ ?_)
    rw [HRE.out]
    exact ⟨_, rfl, IsToks.nil _ _, HBW.out⟩
  · have hbig' : ¬ (2000 : Int) < (l.length : Int) := by omega
    have H0 : Hid (CutAt l w1 w1 0 [] (.slice none 0 0)) := Lib.hid ⟨Nat.zero_le _, Nat.le_refl _, IsToks.nil _ _, Below.refl _ _, l.length + 1, by omega, rfl⟩
    go_wp2_with fail
    go_step3
    go_upto_block 0 with fail
    go_cut [7, 8] from 9 (fun x7 x8 wx => ∃ out, Hid (CutEnd l w1 wx out x7))
    case first =>
      go_wp2_with fail
      go_loopw [7, 8] (fun v iv wr => ∃ (i : Nat) (out : List Tk.Tok), iv = .int .i64 (i : Int) ∧ Hid (CutAt l w1 wr i out v)) (fun _ iv _ => l.length - (intOf iv).toNat)
      case atStart => exact ⟨0, [], by go_num, H0⟩
      case round =>
        clear H0
        obtain ⟨i, out, rfl, HT⟩ := hrel
        have hil := HT.out.hi
        by_cases hlt : i < l.length
        · have hbl := HT.out.below
          obtain ⟨b, off, rfl, hb, g1⟩ := lies_i64 (HL.out.below hbl) hlt
          obtain ⟨x, hx⟩ : ∃ x, x = l.getD i (-1) := ⟨_, rfl⟩
          rw [← Tk.getD_in hlt, ← hx] at g1
          have HX := Lib.hid hx
          obtain ⟨k, hk⟩ : ∃ k, k = Tk.cls x := ⟨_, rfl⟩
          have C1 := Lib.hid (CA.out x wr)
          rw [← hk] at C1
          have HK := Lib.hid hk
          clear hx hk hb
          by_cases k1 : k = 1
          · have q1 : (k == 1) = true := by rw [k1]; rfl
            have HN : Hid (CutAt l w1 wr (i + 1) out u7) := Lib.hid ⟨hlt, by have := HT.out.len; omega, HT.out.toks, hbl, by
              obtain ⟨f, hf, ht⟩ := HT.out.told
              obtain ⟨f, rfl⟩ : ∃ g, f = g + 1 := ⟨f - 1, by omega⟩
              have hcl : Tk.cls (l.getD i (-1)) = 1 := by rw [← HX.out, ← HK.out]; exact k1
              exact ⟨f, by omega, by rw [ht, goF_blank hlt (by intro h; rw [h] at hcl; exact absurd hcl (by decide)) hcl]⟩⟩
            clear k1 hbl
            go_wp2_with fail
            refine C1.out.mono ?_
            rintro e w' ⟨rfl, rfl⟩
            go_wp2_with fail
            go_round
            case rel => exact ⟨i + 1, out, by go_num, HN⟩
            case measure => simp [intOf]; omega
          · have q1 : (k == 1) = false := beq_eq_false_iff_ne.2 k1
            by_cases x9 : x = 9053
            · have q2 : (x == 9053) = true := by rw [x9]; rfl
              have HE : Hid (CutEnd l w1 wr out u7) := Lib.hid ⟨HT.out.toks, hbl, by
                obtain ⟨f, hf, ht⟩ := HT.out.told
                rw [ht, goF_end (.inr (by rw [← HX.out]; exact x9)) (by omega)]⟩
              clear k1 hbl x9
              go_wp2_with fail
              refine C1.out.mono ?_
              rintro e w' ⟨rfl, rfl⟩
              go_wp2_with fail
              go_meet
              exact ⟨out, HE⟩
            · have q2 : (x == 9053) = false := beq_eq_false_iff_ne.2 x9
              have hcl : Tk.cls (l.getD i (-1)) ≠ 1 := by rw [← HX.out, ← HK.out]; exact k1
              have hx9 : l.getD i (-1) ≠ 9053 := by rw [← HX.out]; exact x9
              have NX := Lib.hid (next_any (some ⟨b, off, none⟩) c l i wr ((HL.out.below hbl).more hbl.size) (by omega) hc1 HM.out hlt hcl)
              have HBL := Lib.hid hbl
              have HCL := Lib.hid hcl
              have HX9 := Lib.hid hx9
              clear k1 x9 hbl hcl hx9
              go_wp2_with fail
              refine C1.out.mono ?_
              rintro e w' ⟨rfl, rfl⟩
              go_wp2_with fail
              refine NX.out.mono ?_
              intro e w5 h
              obtain ⟨r, hr⟩ : ∃ r, r = Tk.read l i := ⟨_, rfl⟩
              unfold ReadOut at h
              rw [← hr] at h
              obtain ⟨t, n, er⟩ := r
              dsimp only at h
              obtain ⟨en, hen⟩ : ∃ en, en = (if er = 0 then i + n else 0) := ⟨_, rfl⟩
              rw [← hen] at h
              obtain ⟨n1, n2, lv, he, h1, h2, h3, h4⟩ := h
              have he : e = .returned (.tuple #[.agg #[.int .i64 t.kind, .bool t.n.neg, n1, n2, lv, .string ⟨t.s.toArray⟩, .int .i64 t.c, .int .i64 0], .int .i64 (en : Int), .int .i64 er]) := he
              subst he
              have h1' := h1
              have h2' := h2
              obtain ⟨A1, c1, rfl, _⟩ := h1'
              obtain ⟨A2, c2, rfl, _⟩ := h2'
              obtain ⟨A3, c3, rfl, _, _⟩ := own_slice h3
              have HG6 : Hid ((w5.alloc (.cells #[.int .i64 0, .bool false, .slice none 0 0, .slice none 0 0, .slice none 0 0, .string ⟨#[]⟩, .int .i64 0, .int .i64 0] 48)).heap[w5.heap.size]? = some (.cells #[.int .i64 0, .bool false, .slice none 0 0, .slice none 0 0, .slice none 0 0, .string ⟨#[]⟩, .int .i64 0, .int .i64 0] 48 (0, 0))) := Lib.hid (heap_alloc_new w5 _)
              obtain ⟨W7, hW7⟩ : ∃ W7, W7 = (w5.alloc (.cells #[.int .i64 0, .bool false, .slice none 0 0, .slice none 0 0, .slice none 0 0, .string ⟨#[]⟩, .int .i64 0, .int .i64 0] 48)).setRow w5.heap.size #[.int .i64 t.kind, .bool t.n.neg, .slice A1 t.n.top.length c1, .slice A2 t.n.bot.length c2, .slice A3 t.l.length c3, .string ⟨t.s.toArray⟩, .int .i64 t.c, .int .i64 0] := ⟨_, rfl⟩
              have hb7 : Below w5.heap.size w5 W7 := by rw [hW7]; exact rBelow.setRow ((Below.refl _ _).alloc (Nat.le_refl _) _) (Nat.le_refl _) _
              have hG7 : W7.heap[w5.heap.size]? = some (.cells #[.int .i64 t.kind, .bool t.n.neg, .slice A1 t.n.top.length c1, .slice A2 t.n.bot.length c2, .slice A3 t.l.length c3, .string ⟨t.s.toArray⟩, .int .i64 t.c, .int .i64 0] 48 (0, 0)) := by rw [hW7]; exact rheap_same HG6.out
              have hS7 : w5.heap.size + 1 ≤ W7.heap.size := by rw [hW7, size_setRow]; simp
              have HB7 := Lib.hid hb7
              have HG7 := Lib.hid hG7
              have HS7 := Lib.hid hS7
              have HW7 := Lib.hid hW7
              clear hb7 hG7 hS7 hW7
              have HRD := Lib.hid hr
              have HEN := Lib.hid hen
              have H1 := Lib.hid h1
              have H2 := Lib.hid h2
              have H3 := Lib.hid h3
              have H4 := Lib.hid h4
              clear hr hen h1 h2 h3 h4
              go_upto_region 11 with (with_reducible refine wpList_store_row rfl 48 (.tmp 9) (.tmp 43) rfl w5.heap.size #[.int .i64 t.kind, .bool t.n.neg, .slice A1 t.n.top.length c1, .slice A2 t.n.bot.length c2, .slice A3 t.l.length c3, .string ⟨t.s.toArray⟩, .int .i64 t.c, .int .i64 0] rfl rfl 48 #[.int .i64 0, .bool false, .slice none 0 0, .slice none 0 0, .slice none 0 0, .string ⟨#[]⟩, .int .i64 0, .int .i64 0] HG6.out (tok_infoR _ _ _ _ _ _ _ _) rfl (tok_one _ _ _ _ _ _ _ _ _ _ _ _ _ _) ?_)
              rw [← HW7.out]
              by_cases e0 : er = 0
              · subst e0
                have hc7 : W7.cell? ⟨w5.heap.size, 7, none⟩ = some (.int .i64 0) := (cell_of_row W7 w5.heap.size 7 _ _ _ HG7.out).trans rfl
                have hf7 : W7.frozen? ⟨w5.heap.size, 7, none⟩ = false := by simp [World.frozen?, HG7.out]
                obtain ⟨W8, hW8⟩ : ∃ W8, W8 = W7.setCell ⟨w5.heap.size, 7, none⟩ (.int .i64 (i : Int)) := ⟨_, rfl⟩
                have HG8 : Hid (W8.heap[w5.heap.size]? = some (.cells #[.int .i64 t.kind, .bool t.n.neg, .slice A1 t.n.top.length c1, .slice A2 t.n.bot.length c2, .slice A3 t.l.length c3, .string ⟨t.s.toArray⟩, .int .i64 t.c, .int .i64 (i : Int)] 48 (0, 0))) := Lib.hid (by rw [hW8]; exact Blk.set_ (w := W7) (g := w5.heap.size) (vs := [.int .i64 t.kind, .bool t.n.neg, .slice A1 t.n.top.length c1, .slice A2 t.n.bot.length c2, .slice A3 t.l.length c3, .string ⟨t.s.toArray⟩, .int .i64 t.c, .int .i64 0]) HG7.out 7 _)
                have HB8 : Hid (Below w5.heap.size w5 W8) := Lib.hid (by rw [hW8]; exact HB7.out.setCell (Nat.le_refl _) _)
                have HW8 := Lib.hid hW8
                clear hW8
                go_upto_region 14 with fail
                rw [← HW8.out]
                have HAT : Hid (t.at_ = i) := Lib.hid (by
                  have h := (Tk.read_ok (l := l) (i := i) (by rw [← HRD.out])).2
                  rw [← HRD.out] at h
                  exact h)
                have HEN2 : Hid (en = i + n ∧ 1 ≤ n ∧ i + n ≤ l.length) := Lib.hid (by
                  have h := Tk.read_len (l := l) (i := i) hlt (by rw [← HRD.out])
                  rw [← HRD.out] at h
                  exact ⟨by rw [HEN.out, if_pos rfl], h⟩)
                obtain ⟨xs, t1, t2⟩ := HT.out.toks
                have hown9 : (W8.alloc (.cells #[.int .i64 t.kind, .bool t.n.neg, .slice A1 t.n.top.length c1, .slice A2 t.n.bot.length c2, .slice A3 t.l.length c3, .string ⟨t.s.toArray⟩, .int .i64 t.c, .int .i64 (i : Int)] 48)).ownsQ NoU w1.heap.size 48 8 u7 out.length xs := ownsQ_below (ownsQ_below (ownsQ_below t1 H4.out) HB8.out) ((Below.refl _ _).alloc (Nat.le_refl _) _)
                have r9 : TokRows (W8.alloc (.cells #[.int .i64 t.kind, .bool t.n.neg, .slice A1 t.n.top.length c1, .slice A2 t.n.bot.length c2, .slice A3 t.l.length c3, .string ⟨t.s.toArray⟩, .int .i64 t.c, .int .i64 (i : Int)] 48)) out xs := ((t2.below H4.out).below HB8.out).below ((Below.refl _ _).alloc (Nat.le_refl _) _)
                have b9 : Below w1.heap.size w1 (W8.alloc (.cells #[.int .i64 t.kind, .bool t.n.neg, .slice A1 t.n.top.length c1, .slice A2 t.n.bot.length c2, .slice A3 t.l.length c3, .string ⟨t.s.toArray⟩, .int .i64 t.c, .int .i64 (i : Int)] 48)) := ((HBL.out.trans (H4.out.mono HBL.out.size)).trans (HB8.out.mono (Nat.le_trans HBL.out.size H4.out.size))).alloc (Nat.le_trans HBL.out.size (Nat.le_trans H4.out.size HB8.out.size)) _
                have k1 := (H1.out.below_ HB8.out).below_ (w' := W8.alloc (.cells #[.int .i64 t.kind, .bool t.n.neg, .slice A1 t.n.top.length c1, .slice A2 t.n.bot.length c2, .slice A3 t.l.length c3, .string ⟨t.s.toArray⟩, .int .i64 t.c, .int .i64 (i : Int)] 48)) ((Below.refl _ _).alloc (Nat.le_refl _) _)
                have k2 := (H2.out.below_ HB8.out).below_ (w' := W8.alloc (.cells #[.int .i64 t.kind, .bool t.n.neg, .slice A1 t.n.top.length c1, .slice A2 t.n.bot.length c2, .slice A3 t.l.length c3, .string ⟨t.s.toArray⟩, .int .i64 t.c, .int .i64 (i : Int)] 48)) ((Below.refl _ _).alloc (Nat.le_refl _) _)
                have k3 := own_below_ (own_below_ H3.out HB8.out) (w' := W8.alloc (.cells #[.int .i64 t.kind, .bool t.n.neg, .slice A1 t.n.top.length c1, .slice A2 t.n.bot.length c2, .slice A3 t.l.length c3, .string ⟨t.s.toArray⟩, .int .i64 t.c, .int .i64 (i : Int)] 48)) ((Below.refl _ _).alloc (Nat.le_refl _) _)
                have OWN9 := Lib.hid hown9
                have R9 := Lib.hid r9
                have B9 := Lib.hid b9
                have K1 := Lib.hid k1
                have K2 := Lib.hid k2
                have K3 := Lib.hid k3
                have hol := HT.out.len
                clear t1 t2 hown9 r9 b9 k1 k2 k3
                go_wp2_with (first | (with_reducible refine wpList_load_row rfl 48 (.tmp 9) rfl w5.heap.size rfl 48 #[.int .i64 t.kind, .bool t.n.neg, .slice A1 t.n.top.length c1, .slice A2 t.n.bot.length c2, .slice A3 t.l.length c3, .string ⟨t.s.toArray⟩, .int .i64 t.c, .int .i64 (i : Int)] (0, 0) _ HG8.out Tryd.underlying48 rfl (tok_infoR _ _ _ _ _ _ _ _) ?_) | (at_builtin; refine wpList_append_ownQ _ rfl _ _ 44 rfl NoU w1.heap.size 48 i0 _ 8 120 Tryd.underlying44 hi0 hz0 hz1 hz2 rfl (by decide) tokZ_noU _ _ xs rfl OWN9.out ⟨_, 0, none⟩ 1 1 (tokCells t.kind t.n.neg (.slice A1 t.n.top.length c1) (.slice A2 t.n.bot.length c2) (.slice A3 t.l.length c3) t.s t.c (i : Int)) rfl rfl (cells_new _ _ _) (by intro u hu; unfold tokCells at hu; simp only [List.mem_cons, List.not_mem_nil, or_false] at hu; rcases hu with rfl | rfl | rfl | rfl | rfl | rfl | rfl | rfl <;> rfl) (tokCells_noU _ _ K1.out.noU K2.out.noU (own_noU K3.out) _ _ _) (by unfold maxLen; omega) (by omega) B9.out.size ?_; intro v' w10 hown' hgr hnil hat))
                have hk1 := K1.out.grownQ OWN9.out hgr
                have hk2 := K2.out.grownQ OWN9.out hgr
                have hk3 := own_grown_t K3.out OWN9.out (by decide) hgr
                have hr1 := R9.out.grown OWN9.out (by decide) hgr
                have hb1 := B9.out.grown hgr B9.out.size (fun k hk => (OWN9.out.own.lt k hk).1)
                have hsn := TokRows.snoc hk1 hk2 hk3 hr1
                have HN : Hid (CutAt l w1 w10 en (out ++ [t]) v') := Lib.hid
                  { hi := by rw [HEN2.out.1]; exact HEN2.out.2.2
                    len := by rw [List.length_append, HEN2.out.1]; have := HEN2.out.2.1; simp only [List.length_cons, List.length_nil]; omega
                    toks := ⟨_, by
                      have h := hown'
                      rw [List.length_append]
                      exact h, by
                      have h := hsn
                      rw [HAT.out] at h
                      exact h⟩
                    below := hb1
                    told := by
                      obtain ⟨f, hf, ht⟩ := HT.out.told
                      obtain ⟨f, rfl⟩ : ∃ g, f = g + 1 := ⟨f - 1, by omega⟩
                      refine ⟨f, by rw [HEN2.out.1]; have := HEN2.out.2.1; omega, ?_⟩
                      rw [ht, goF_next hlt HX9.out HCL.out (by rw [← HRD.out]), ← HRD.out, HEN2.out.1] }
                have hme : i < en ∧ en ≤ l.length := by rw [HEN2.out.1]; have := HEN2.out.2; omega
                clear hk1 hk2 hk3 hr1 hb1 hsn hown' hgr hnil hat
                go_wp2_with fail
                go_round
                case rel => exact ⟨en, out ++ [t], rfl, HN⟩
                case measure => simp [intOf]; omega
              · have q3 : (er != 0) = true := by rw [bne_iff_ne]; exact e0
                have HRE : Hid (Tk.cutL l ob = ([], i, er)) := Lib.hid (by
                  obtain ⟨f, hf, ht⟩ := HT.out.told
                  rw [goF_bad hlt HX9.out HCL.out (by rw [← HRD.out]; exact e0) (by omega), ← HRD.out] at ht
                  unfold Tk.cutL
                  rw [if_neg hbig, ht, if_pos e0])
                clear e0
                go_wp2_with fail
                rw [Exit.noGoto_ret]
                refine bodyPost_ret (results_tmp3 (by rfl) _ _ _ _ _ (by rfl) (by rfl) (by rfl)) rfl (HR.out _ _ ?_)
                rw [HRE.out]
                exact ⟨_, rfl, IsToks.nil _ _, ((HBW.out.trans (HBL.out.mono HBW.out.size)).trans (H4.out.mono (Nat.le_trans HBW.out.size HBL.out.size))).trans (HB7.out.mono (Nat.le_trans HBW.out.size (Nat.le_trans HBL.out.size H4.out.size)))⟩
        · have HE : Hid (CutEnd l w1 wr out u7) := Lib.hid ⟨HT.out.toks, HT.out.below, by
            obtain ⟨f, hf, ht⟩ := HT.out.told
            rw [ht, goF_end (.inl (by omega)) (by omega)]⟩
          have hme : ¬ ((i : Int) < (l.length : Int)) := by omega
          go_wp2_with fail
          go_meet
          exact ⟨out, HE⟩
    case rest =>
      obtain ⟨out, HE⟩ := hcut
      cases ob with
      | none =>
        have hbad' : bad = -1 := hbad.out
        subst hbad'
        have HRE : Hid (Tk.cutL l none = (out, 0, 0)) := Lib.hid (by
          unfold Tk.cutL
          rw [if_neg hbig, HE.out.told]
          rfl)
        go_wp2_with fail
        refine bodyPost_ret (results_tmp3 (by rfl) _ _ _ _ _ (by rfl) (by rfl) (by rfl)) rfl (HR.out _ _ ?_)
        rw [HRE.out]
        obtain ⟨xs, t1, t2⟩ := HE.out.toks
        exact ⟨_, rfl, ⟨xs, t1.mono HBW.out.size, t2⟩, HBW.out.trans (HE.out.below.mono HBW.out.size)⟩
      | some p =>
        have hbad' : bad = (p : Int) := hbad.out
        subst hbad'
        have HRE : Hid (Tk.cutL l (some p) = ([], l.length, 1)) := Lib.hid (by
          unfold Tk.cutL
          rw [if_neg hbig, HE.out.told]
          rfl)
        have hp : (0 : Int) ≤ (p : Int) := by omega
        go_wp2_with fail
        refine bodyPost_ret (results_tmp3 (by rfl) _ _ _ _ _ (by rfl) (by rfl) (by rfl)) rfl (HR.out _ _ ?_)
        rw [HRE.out]
        exact ⟨_, rfl, IsToks.nil _ _, HBW.out.trans (HE.out.below.mono HBW.out.size)⟩
end Go.Proofs.YtfiefglagknclaaDoor

/-
  Tokens at their places; scrimlaw20.awake.
-/
namespace Go.Proofs.YtfiefglagknclaaDoor
open Go.RowKit
set_option maxHeartbeats 4000000
set_option maxRecDepth 100000
set_option linter.unusedVariables false

theorem TokRows.get {w : World} : ∀ {ts : List Tk.Tok} {xs : List Value}, TokRows w ts xs → ∀ (j : Nat) (hj : j < ts.length), ∃ n1 n2 lv pre post, xs = pre ++ (tokCells ts[j].kind ts[j].n.neg n1 n2 lv ts[j].s ts[j].c ts[j].at_ ++ post) ∧ pre.length = j * 8 ∧ IsRes w n1 ts[j].n.top ∧ IsRes w n2 ts[j].n.bot ∧ w.ownsRow 0 3 1 lv ts[j].l.length (I64 ts[j].l)
  | [], xs, h, j, hj => absurd hj (Nat.not_lt_zero _)
  | t :: ts, xs, h, 0, hj => by
    obtain ⟨n1, n2, lv, r, rfl, h1, h2, h3, hr⟩ := h
    exact ⟨n1, n2, lv, [], r, rfl, rfl, h1, h2, h3⟩
  | t :: ts, xs, h, j + 1, hj => by
    obtain ⟨n1, n2, lv, r, rfl, h1, h2, h3, hr⟩ := h
    obtain ⟨m1, m2, mv, pre, post, rfl, hp, k1, k2, k3⟩ := hr.get j (by simpa using hj)
    refine ⟨m1, m2, mv, tokCells t.kind t.n.neg n1 n2 lv t.s t.c t.at_ ++ pre, post, by simp only [List.append_assoc, List.getElem_cons_succ], ?_, k1, k2, k3⟩
    rw [List.length_append, hp]
    show 8 + _ = _
    omega
theorem IsToks.open_ {w : World} {base : Nat} {v : Value} {ts : List Tk.Tok} (h : IsToks w base v ts) : ∃ A c, v = .slice A ts.length c ∧ ts.length ≤ c ∧ c ≤ maxLen ∧
    ∀ (j : Nat) (hj : j < ts.length), ∃ g n1 n2 lv, A = some ⟨g, 0, none⟩ ∧ g < w.heap.size ∧ base ≤ g ∧ w.rangeAt g (j * 8) (tokCells ts[j].kind ts[j].n.neg n1 n2 lv ts[j].s ts[j].c ts[j].at_) ∧ IsRes w n1 ts[j].n.top ∧ IsRes w n2 ts[j].n.bot ∧ w.ownsRow 0 3 1 lv ts[j].l.length (I64 ts[j].l) := by
  obtain ⟨xs, ho, hr⟩ := h
  obtain ⟨A, c, hv, hc1, hc2⟩ := own_slice ho.own
  refine ⟨A, c, hv, hc1, hc2, fun j hj => ?_⟩
  obtain ⟨n1, n2, lv, pre, post, hx, hp, k1, k2, k3⟩ := hr.get j hj
  rcases ho.own.2 with ⟨hv', h0⟩ | ⟨g, cap, cur, hv', hb, hg, _⟩
  · omega
  · rw [hv] at hv'
    injection hv' with e1 _ _
    refine ⟨g, n1, n2, lv, e1, (Array.getElem?_eq_some_iff.1 hg).1, hb, fun k u hu => ?_, k1, k2, k3⟩
    have hc := ho.own.cells (g := g) (by rw [hv, e1]; rfl) (j * 8 + k) u (by
      rw [hx, List.getElem?_append_right (by omega), hp, show j * 8 + k - j * 8 = k by omega]
      rw [List.getElem?_append_left (List.getElem?_eq_some_iff.1 hu).1]
      exact hu)
    rw [Addr.add_mid] at hc
    rw [Nat.zero_add] at hc
    exact hc
theorem awake_cut : (Tk.cut ⟨#[120, 226, 134, 144, 51, 114, 52, 43, 226, 142, 149, 49, 32, 226, 141, 157, 32, 110, 111]⟩).1.map (fun t => (t.kind, t.c)) = [(2, 0), (7, 8592), (0, 0), (7, 43), (4, 1)] ∧ (Tk.cut ⟨#[120, 226, 134, 144, 51, 114, 52, 43, 226, 142, 149, 49, 32, 226, 141, 157, 32, 110, 111]⟩).2 = (0, 0) := by
  constructor <;> kernel_rfl
theorem awake20_any (w : World) : Calls Tryd.prog 21 #[] w fun e w' => e = .returned (.bool true) ∧ Below w.heap.size w w' := by
  have CUT := Lib.hid (tokCut_any ⟨#[120, 226, 134, 144, 51, 114, 52, 43, 226, 142, 149, 49, 32, 226, 141, 157, 32, 110, 111]⟩ w (by decide))
  obtain ⟨r, hr⟩ : ∃ r, r = Tk.cut ⟨#[120, 226, 134, 144, 51, 114, 52, 43, 226, 142, 149, 49, 32, 226, 141, 157, 32, 110, 111]⟩ := ⟨_, rfl⟩
  obtain ⟨h1, h2⟩ := awake_cut
  rw [← hr] at CUT h1 h2
  obtain ⟨ts, p⟩ := r
  dsimp only at h1 h2
  subst h2
  have h5 : ts.length = 5 := by have := congrArg List.length h1; simpa using this
  have hk : ∀ (j : Nat) (hj : j < ts.length) (hj' : j < 5), (ts[j].kind, ts[j].c) = [(2, 0), (7, 8592), (0, 0), (7, 43), ((4 : Int), (1 : Int))][j] := by
    intro j hj hj'
    have h := congrArg (fun l => l[j]?) h1
    simp only [List.getElem?_map, List.getElem?_eq_getElem hj, Option.map_some] at h
    rw [List.getElem?_eq_getElem (by simpa using hj')] at h
    exact Option.some.inj h
  have HK := Lib.hid hk
  have H5 := Lib.hid h5
  clear hr h1 h5 hk
  go_enter Tryd.func21, Tryd.ntmps21
  go_wp2_with fail
  refine CUT.out.mono ?_
  rintro e w' ⟨v, rfl, ht, hb⟩
  obtain ⟨A, c, rfl, hc1, hc2, hat⟩ := ht.open_
  obtain ⟨g, n1, n2, lv, rfl, hg, _, r0, _⟩ := hat 0 (by rw [H5.out]; omega)
  obtain ⟨g', m1, m2, mv, e2, _, _, r2, _⟩ := hat 2 (by rw [H5.out]; omega)
  obtain ⟨g'', o1, o2, ov, e4, _, _, r4, _⟩ := hat 4 (by rw [H5.out]; omega)
  injection e2 with e2
  injection e2 with e2
  injection e4 with e4
  injection e4 with e4
  subst e2 e4
  have k0 := HK.out 0 (by rw [H5.out]; omega) (by omega)
  have k2 := HK.out 2 (by rw [H5.out]; omega) (by omega)
  have k4 := HK.out 4 (by rw [H5.out]; omega) (by omega)
  injection k0 with k0 k0'
  injection k2 with k2 k2'
  injection k4 with k4 k4'
  have c0 : w'.cell? ⟨g, 0, none⟩ = some (.int .i64 2) := by have h := r0 0 _ rfl; rw [k0] at h; exact h
  have c2 : w'.cell? ⟨g, 16, none⟩ = some (.int .i64 0) := by have h := r2 0 _ rfl; rw [k2] at h; exact h
  have c4 : w'.cell? ⟨g, 32, none⟩ = some (.int .i64 4) := by have h := r4 0 _ rfl; rw [k4] at h; exact h
  have c6 : w'.cell? ⟨g, 38, none⟩ = some (.int .i64 1) := by have h := r4 6 _ rfl; rw [k4'] at h; exact h
  have hlen : (ts.length : Int) = 5 := by rw [H5.out]; rfl
  have HB := Lib.hid hb
  clear r0 r2 r4 hat ht k0 k0' k2 k2' k4 k4' hc1 hb
  rw [H5.out]
  go_wp2_with fail
  go_ret
  exact ⟨rfl, HB.out⟩
end Go.Proofs.YtfiefglagknclaaDoor

/-
  scrimlaw20.TokenRises: tokens rise, and their fields are their kind's.
-/
namespace Go.Proofs.YtfiefglagknclaaDoor
open Go.RowKit
set_option maxHeartbeats 4000000
set_option maxRecDepth 100000
set_option linter.unusedVariables false

theorem cut_err_nil {t : ByteArray} (h : (Tk.cut t).2.2 ≠ 0) : (Tk.cut t).1 = [] := Tk.cutL_err h
theorem tok_loaded (k : Int) (neg : Bool) (n1 n2 lv : Value) (s : List UInt8) (c a : Int) : (Tryd.prog.info? 48).map (·.size) = some (tokCells k neg n1 n2 lv s c a).length := tok_info

theorem tok_infoL (x0 x1 x2 x3 x4 x5 x6 x7 : Value) : (Tryd.prog.info? 48).map (·.size) = some [x0, x1, x2, x3, x4, x5, x6, x7].length := tok_info
theorem rangeAt_below {B : Nat} {w w' : World} (h : Below B w w') {g o : Nat} {cs : List Value} (hg : g < B) (hr : w.rangeAt g o cs) : w'.rangeAt g o cs := fun j v hv => (h.cell hg).trans (hr j v hv)
theorem tokenRises_walk (s : ByteArray) (w : World) (hs : s.size ≤ maxLen) (_ : True) :
    Calls Tryd.prog 6 #[.string s] w fun e w' => e = .returned (.bool true) ∧ Below w.heap.size w w' := by
  have AW := Lib.hid (fun wx => awake20_any wx)
  have CUT := Lib.hid (fun (t : ByteArray) (h : t.size ≤ 10000) wx => tokCut_any t wx h)
  have hmax : (maxLen : Nat) = 9223372036854775807 := rfl
  go_enter Tryd.func6, Tryd.ntmps6
  go_upto_if 10 with fail
  go_cut [0] from 11 (fun x0 wx => wx = w ∧ ∃ t : ByteArray, x0 = .string t ∧ t.size ≤ 2100)
  case first =>
    by_cases hbig : 2100 < s.size
    · go_wp2_with fail
      go_meet
      refine ⟨rfl, _, rfl, ?_⟩
      rw [ByteArray.size_extract]
      omega
    · go_wp2_with fail
      go_meet
      exact ⟨rfl, s, rfl, by omega⟩
  case rest =>
    obtain ⟨hwx, t, rfl, ht⟩ := hcut
    rw [hwx]
    clear hwx
    have CT := Lib.hid (CUT.out t (by omega) w)
    have HUP : Hid ((Tk.cut t).2.2 = 0 → ∃ J, Tk.Up (Tk.cut t).1 J) := Lib.hid (fun h => Tk.cutL_up h)
    have HER : Hid ((Tk.cut t).2.2 ≠ 0 → (Tk.cut t).1 = []) := Lib.hid (fun h => cut_err_nil h)
    obtain ⟨r, hr⟩ : ∃ r, r = Tk.cut t := ⟨_, rfl⟩
    rw [← hr] at CT HUP HER
    obtain ⟨ts, at_, er⟩ := r
    dsimp only at HUP HER
    clear hr
    go_wp2_with fail
    refine CT.out.mono ?_
    rintro e w1 ⟨v, rfl, hts, hb1⟩
    have HTS := Lib.hid hts
    obtain ⟨A, c, rfl, hc1, hc2, hat⟩ := hts.open_
    have HAT := Lib.hid hat
    have HB1 := Lib.hid hb1
    clear hts hat hb1
    dsimp only
    by_cases e0 : er = 0
    · subst e0
      obtain ⟨J, hup1, hup2⟩ := HUP.out rfl
      have HU1 := Lib.hid hup1
      have HU2 := Lib.hid hup2
      clear hup1 hup2 CUT CT HER HUP
      go_upto_region 6 with fail
      go_wp2_with fail
      go_loopw [6] (fun iv wr => ∃ j : Nat, iv = .int .i64 (j : Int) ∧ j ≤ ts.length ∧ Hid (Below w1.heap.size w1 wr)) (fun iv _ => ts.length - (intOf iv).toNat)
      case atStart => exact ⟨0, by go_num, Nat.zero_le _, Lib.hid (Below.refl _ _)⟩
      case round =>
        obtain ⟨j, rfl, hj, HB⟩ := hrel
        by_cases hlt : j < ts.length
        · obtain ⟨g, n1, n2, lv, rfl, hg, _, hr, i1, i2, i3⟩ := HAT.out j hlt
          have HR := Lib.hid (rangeAt_below HB.out hg hr)
          have hrw : Hid (∀ i (hi : i < ts.length), wr.cell? ⟨g, i * 8 + 7, none⟩ = some (.int .i64 (ts[i].at_ : Int))) := Lib.hid (by
            intro i hi
            obtain ⟨g', m1, m2, mv, e1, hg', _, hr', _⟩ := HAT.out i hi
            injection e1 with e1
            injection e1 with e1
            subst e1
            rw [HB.out.cell hg']
            exact hr' 7 _ rfl)
          have hok := (HU1.out ts[j] (List.getElem_mem hlt)).1
          have hlast : Hid (∀ m, j = m + 1 → ∀ (hm : m < ts.length), ts[m].at_ < ts[j].at_) := Lib.hid (by
            intro m hm hml
            exact List.pairwise_iff_getElem.1 HU2.out m j hml hlt (by omega))
          have i1' := i1
          have i2' := i2
          obtain ⟨A1, c1, rfl, _⟩ := i1'
          obtain ⟨A2, c2, rfl, _⟩ := i2'
          obtain ⟨A3, c3, rfl, _, _⟩ := own_slice i3
          obtain ⟨k, hk⟩ : ∃ k, k = ts[j].kind := ⟨_, rfl⟩
          obtain ⟨cc, hcc⟩ : ∃ k, k = ts[j].c := ⟨_, rfl⟩
          obtain ⟨ng, hng⟩ : ∃ k, k = ts[j].n.neg := ⟨_, rfl⟩
          obtain ⟨m1, hm1⟩ : ∃ k, k = ts[j].n.top.length := ⟨_, rfl⟩
          obtain ⟨m2, hm2⟩ : ∃ k, k = ts[j].n.bot.length := ⟨_, rfl⟩
          obtain ⟨m3, hm3⟩ : ∃ k, k = ts[j].l.length := ⟨_, rfl⟩
          obtain ⟨sb, hsb⟩ : ∃ k, k = ts[j].s.toArray := ⟨_, rfl⟩
          obtain ⟨at0, hat0⟩ : ∃ k, k = ts[j].at_ := ⟨_, rfl⟩
          have q1 : 0 ≤ k := by rw [hk]; exact hok.k0
          have q2 : k ≤ 7 := by rw [hk]; exact hok.k7
          have q3 : Hid (k ≠ 1 → m3 = 0) := Lib.hid (by rw [hk, hm3]; intro h; rw [hok.l h]; rfl)
          have q4 : Hid (k ≠ 2 → k ≠ 3 → sb = #[]) := Lib.hid (by rw [hk, hsb]; intro h h'; rw [hok.s h h'])
          have q5 : Hid (k ≤ 3 → cc = 0) := Lib.hid (by rw [hk, hcc]; exact hok.c)
          unfold tokCells at HR
          rw [← hk, ← hcc, ← hng, ← hm1, ← hm2, ← hm3, ← hsb, ← hat0] at HR
          rw [← hat0] at hlast
          obtain ⟨W7, hW7⟩ : ∃ W7, W7 = (wr.alloc (.cells #[.int .i64 0, .bool false, .slice none 0 0, .slice none 0 0, .slice none 0 0, .string ⟨#[]⟩, .int .i64 0, .int .i64 0] 48)).setRow wr.heap.size #[.int .i64 k, .bool ng, .slice A1 m1 c1, .slice A2 m2 c2, .slice A3 m3 c3, .string ⟨sb⟩, .int .i64 cc, .int .i64 (at0 : Int)] := ⟨_, rfl⟩
          have HG6 : Hid ((wr.alloc (.cells #[.int .i64 0, .bool false, .slice none 0 0, .slice none 0 0, .slice none 0 0, .string ⟨#[]⟩, .int .i64 0, .int .i64 0] 48)).heap[wr.heap.size]? = some (.cells #[.int .i64 0, .bool false, .slice none 0 0, .slice none 0 0, .slice none 0 0, .string ⟨#[]⟩, .int .i64 0, .int .i64 0] 48 (0, 0))) := Lib.hid (heap_alloc_new wr _)
          have HB7 : Hid (Below wr.heap.size wr W7) := Lib.hid (by rw [hW7]; exact rBelow.setRow ((Below.refl _ _).alloc (Nat.le_refl _) _) (Nat.le_refl _) _)
          have HG7 : Hid (W7.heap[wr.heap.size]? = some (.cells #[.int .i64 k, .bool ng, .slice A1 m1 c1, .slice A2 m2 c2, .slice A3 m3 c3, .string ⟨sb⟩, .int .i64 cc, .int .i64 (at0 : Int)] 48 (0, 0))) := Lib.hid (by rw [hW7]; exact rheap_same HG6.out)
          have HW7 := Lib.hid hW7
          clear hW7 hk hcc hng hm1 hm2 hm3 hsb hat0 hok hr i1 i2 i3
          go_upto_region 10 with (first | (with_reducible refine wpList_load_mid rfl 48 (.tmp 35) rfl g (j * 8) rfl [.int .i64 k, .bool ng, .slice A1 m1 c1, .slice A2 m2 c2, .slice A3 m3 c3, .string ⟨sb⟩, .int .i64 cc, .int .i64 (at0 : Int)] _ HR.out Tryd.underlying48 rfl (tok_infoL _ _ _ _ _ _ _ _) ?_) | (with_reducible refine wpList_store_row rfl 48 (.tmp 7) (.tmp 36) rfl wr.heap.size #[.int .i64 k, .bool ng, .slice A1 m1 c1, .slice A2 m2 c2, .slice A3 m3 c3, .string ⟨sb⟩, .int .i64 cc, .int .i64 (at0 : Int)] rfl rfl 48 #[.int .i64 0, .bool false, .slice none 0 0, .slice none 0 0, .slice none 0 0, .string ⟨#[]⟩, .int .i64 0, .int .i64 0] HG6.out (tok_infoR _ _ _ _ _ _ _ _) rfl (tok_one _ _ _ _ _ _ _ _ _ _ _ _ _ _) ?_))
          rw [← HW7.out]
          dsimp only [Act.put]
          have z0 : W7.cell? ⟨wr.heap.size, 0, none⟩ = some (.int .i64 k) := (cell_of_row W7 wr.heap.size 0 _ _ _ HG7.out).trans rfl
          have z7 : W7.cell? ⟨wr.heap.size, 7, none⟩ = some (.int .i64 (at0 : Int)) := (cell_of_row W7 wr.heap.size 7 _ _ _ HG7.out).trans rfl
          have d1 : decide (k < 0) = false := decide_eq_false (by omega)
          have d2 : decide (7 < k) = false := decide_eq_false (by omega)
          go_cut [59] from 27 to 93 (fun x59 wx => x59 = .bool false ∧ Hid (Below wr.heap.size wr wx) ∧ Hid (wx.heap[wr.heap.size]? = some (.cells #[.int .i64 k, .bool ng, .slice A1 m1 c1, .slice A2 m2 c2, .slice A3 m3 c3, .string ⟨sb⟩, .int .i64 cc, .int .i64 (at0 : Int)] 48 (0, 0))))
          case first =>
            cases j with
            | zero =>
              have d3 : decide ((0 : Int) < ((0 : Nat) : Int)) = false := rfl
              go_quiet (fail)
              go_wp2_with fail
              go_meet
              refine ⟨rfl, Lib.hid ?_, Lib.hid ?_⟩
              · exact HB7.out.trans ⟨rfl, rfl, rfl, Nat.le_refl _, fun _ _ => rfl⟩
              · exact HG7.out
            | succ m =>
              have am := hlast.out m rfl (by omega)
              obtain ⟨a0, ha0⟩ : ∃ a, a = ts[m].at_ := ⟨_, rfl⟩
              have z1 : W7.cell? ⟨g, m * 8 + 7, none⟩ = some (.int .i64 (a0 : Int)) := by rw [HB7.out.cell (Nat.lt_of_lt_of_le hg HB.out.size), hrw.out m (by omega), ha0]
              rw [← ha0] at am
              have d3 : decide ((0 : Int) < (m : Int) + 1) = true := decide_eq_true (by omega)
              have d6 : m < ts.length := by omega
              have d4 : decide ((at0 : Int) ≤ (a0 : Int)) = false := decide_eq_false (by omega)
              have d5 : (m : Int) + 1 - 1 = (m : Int) := by omega
              have d7 : IntKind.i64.wrap (m : Int) = (m : Int) := wrap_small _ (by omega) (by omega)
              have d8 : decide (at0 ≤ a0) = false := decide_eq_false (by omega)
              have d9 : ¬ at0 ≤ a0 := by omega
              clear am ha0
              go_quiet (fail)
              go_wp2_with fail
              go_meet
              refine ⟨rfl, Lib.hid ?_, Lib.hid ?_⟩
              · exact HB7.out.trans ⟨rfl, rfl, rfl, Nat.le_refl _, fun _ _ => rfl⟩
              · exact HG7.out
          case rest =>
            obtain ⟨rfl, HBx, HGx⟩ := hcut
            clear z0 z7 d1 d2 HW7 HB7 HG7 HG6 hlast hrw HR
            have z0 : wc.cell? ⟨wr.heap.size, 0, none⟩ = some (.int .i64 k) := (cell_of_row wc wr.heap.size 0 _ _ _ HGx.out).trans rfl
            have z4 : wc.cell? ⟨wr.heap.size, 4, none⟩ = some (.slice A3 m3 c3) := (cell_of_row wc wr.heap.size 4 _ _ _ HGx.out).trans rfl
            have z5 : wc.cell? ⟨wr.heap.size, 5, none⟩ = some (.string ⟨sb⟩) := (cell_of_row wc wr.heap.size 5 _ _ _ HGx.out).trans rfl
            have z6 : wc.cell? ⟨wr.heap.size, 6, none⟩ = some (.int .i64 cc) := (cell_of_row wc wr.heap.size 6 _ _ _ HGx.out).trans rfl
            go_upto_region 12 with fail
            go_cut [93] from 60 to 93 (fun x93 wx => wx = wc ∧ x93 = .bool false)
            case first =>
              by_cases k1 : k = 1
              · have e2 := q4.out (by omega) (by omega)
                have e3 := q5.out (by omega)
                subst k1 e2 e3
                go_wp2_with fail
                go_meet
                exact ⟨rfl, rfl⟩
              · have e1 := q3.out k1
                subst e1
                have b1 : (k != 1) = true := by rw [bne_iff_ne]; exact k1
                by_cases k2 : k = 2
                · have e3 := q5.out (by omega)
                  subst k2 e3
                  go_wp2_with fail
                  go_meet
                  exact ⟨rfl, rfl⟩
                · have b2 : (k != 2) = true := by rw [bne_iff_ne]; exact k2
                  by_cases k3 : k = 3
                  · have e3 := q5.out (by omega)
                    subst k3 e3
                    go_wp2_with fail
                    go_meet
                    exact ⟨rfl, rfl⟩
                  · have b3 : (k != 3) = true := by rw [bne_iff_ne]; exact k3
                    have e2 := q4.out k2 k3
                    subst e2
                    by_cases k4 : k ≤ 3
                    · have e3 := q5.out k4
                      subst e3
                      have b4 : decide (k ≤ 3) = true := decide_eq_true k4
                      clear k1 k2 k3 k4
                      go_wp2_with fail
                      go_meet
                      exact ⟨rfl, rfl⟩
                    · have b4 : decide (k ≤ 3) = false := decide_eq_false k4
                      clear k1 k2 k3 k4
                      go_wp2_with fail
                      go_meet
                      exact ⟨rfl, rfl⟩
            case rest =>
              obtain ⟨hwx, rfl⟩ := hcut
              rw [hwx]
              clear hwx z0 z4 z5 z6 q1 q2 q3 q4 q5
              go_wp2_with fail
              go_round
              case rel => exact ⟨j + 1, by go_num, hlt, Lib.hid (HB.out.trans (HBx.out.mono HB.out.size))⟩
              case measure => simp [intOf]; omega
        · have hme : j = ts.length := by omega
          go_wp2_with fail
          refine (AW.out _).mono ?_
          rintro e w' ⟨rfl, hb⟩
          go_wp2_with fail
          go_ret
          exact ⟨rfl, (HB1.out.trans (HB.out.mono HB1.out.size)).trans (hb.mono (Nat.le_trans HB1.out.size HB.out.size))⟩
    · have q0 : (er != 0) = true := by rw [bne_iff_ne]; exact e0
      have hnil := HER.out e0
      subst hnil
      clear e0
      go_wp2_with fail
      refine (AW.out _).mono ?_
      rintro e w' ⟨rfl, hb⟩
      go_wp2_with fail
      go_ret
      exact ⟨rfl, HB1.out.trans (hb.mono HB1.out.size)⟩
end Go.Proofs.YtfiefglagknclaaDoor
