/-
  Texts of this proof, joined (by wip/bin/bundle.py): Tok11, Tok12, TokTheirs, TokSame.
-/
import Derived.Test.YtfiefglagknclaaGreatDoorM11
import Derived.Deep.RegionWith
import Derived.Scope
import Derived.WalkMore
import Derived.Deep.MidRow
import Derived.BigQuiet
import Derived.Deep.CutRange
/-
  token.Cut: all tokens of a line.
-/
namespace Go.Proofs.YtfiefglagknclaaGreatDoor
open Go.RowKit
set_option maxHeartbeats 4000000
set_option maxRecDepth 100000
set_option linter.unusedVariables false

theorem goF_end {l : List Int} {f i : Nat} {out : List Tk.Tok} (h : l.length ≤ i ∨ l.getD i (-1) = 9053) (hf : 1 ≤ f) : Tk.goF l f i out = (out, 0, 0) := by
  obtain ⟨f, rfl⟩ : ∃ g, f = g + 1 := ⟨f - 1, by omega⟩
  unfold Tk.goF; rw [if_pos h]
theorem goF_blank {l : List Int} {f i : Nat} {out : List Tk.Tok} (h : i < l.length) (hx : l.getD i (-1) ≠ 9053) (hb : Tk.cls (l.getD i (-1)) = 1) : Tk.goF l (f + 1) i out = Tk.goF l f (i + 1) out := by
  rw [Tk.goF, if_neg (by rintro (h1 | h1); omega; exact hx h1), if_pos hb]
theorem goF_bad {l : List Int} {f i : Nat} {out : List Tk.Tok} (h : i < l.length) (hx : l.getD i (-1) ≠ 9053) (hb : Tk.cls (l.getD i (-1)) ≠ 1) (he : (Tk.read l i).2.2 ≠ 0) (hf : 1 ≤ f) : Tk.goF l f i out = ([], i, (Tk.read l i).2.2) := by
  obtain ⟨f, rfl⟩ : ∃ g, f = g + 1 := ⟨f - 1, by omega⟩
  rw [Tk.goF, if_neg (by rintro (h1 | h1); omega; exact hx h1), if_neg hb, if_pos he]
theorem goF_next {l : List Int} {f i : Nat} {out : List Tk.Tok} (h : i < l.length) (hx : l.getD i (-1) ≠ 9053) (hb : Tk.cls (l.getD i (-1)) ≠ 1) (he : (Tk.read l i).2.2 = 0) : Tk.goF l (f + 1) i out = Tk.goF l f (i + (Tk.read l i).2.1) (out ++ [(Tk.read l i).1]) := by
  rw [Tk.goF, if_neg (by rintro (h1 | h1); omega; exact hx h1), if_neg hb, if_neg (by rw [he]; simp)]
theorem tokens_info : (Tryz.prog.info? 67).map (fun i => (i.zero, i.size, i.bytes)) = some (some (.agg #[.int .i64 0, .bool false, .slice none 0 0, .slice none 0 0, .slice none 0 0, .string ⟨#[]⟩, .int .i64 0, .int .i64 0]), 8, 120) := token_info
theorem cells_new (w : World) (xs : List Value) (t : TypeId) : ∀ j u, xs[j]? = some u → (w.alloc (.cells xs.toArray t)).cell? ((⟨w.heap.size, 0, none⟩ : Addr).add j) = some u := by
  intro j u hj
  have hadd : (⟨w.heap.size, 0, none⟩ : Addr).add j = ⟨w.heap.size, j, none⟩ := by unfold Addr.add; split <;> simp_all
  rw [hadd, cell_of_row _ w.heap.size j _ _ _ (heap_alloc_new w _)]
  simpa using hj
theorem tokZ_noU : ∀ u ∈ (Value.agg #[.int .i64 0, .bool false, .slice none 0 0, .slice none 0 0, .slice none 0 0, .string ⟨#[]⟩, .int .i64 0, .int .i64 0]).cells.toList, NoU u := by
  intro u hu
  refine tokCells_noU 0 false (n1 := .slice none 0 0) (n2 := .slice none 0 0) (lv := .slice none 0 0) (fun n e => by cases e) (fun n e => by cases e) (fun n e => by cases e) [] 0 0 u hu
theorem results_tmp3 {P : Program} {fn : Func} {p q r : Tmp} (h : fn.results = #[.tmp p, .tmp q, .tmp r]) (tmps : Array Value) (w : World) (x u v : Value)
    (hp : tmps.getD p undef = x) (hq : tmps.getD q undef = u) (hr : tmps.getD r undef = v) :
    (results fn tmps).run P w = .ok (.tuple #[x, u, v]) w := by
  have hp' : tmps[p]?.getD undef = x := by simpa using hp
  have hq' : tmps[q]?.getD undef = u := by simpa using hq
  have hr' : tmps[r]?.getD undef = v := by simpa using hr
  simp [results, h, hp', hq', hr']
/-- The tokens, the place, the error. -/
def CutOut (w : World) (r : List Tk.Tok × Nat × Int) (e : Ending) (w' : World) : Prop := ∃ v, e = .returned (.tuple #[v, .int .i64 (r.2.1 : Int), .int .i64 r.2.2]) ∧ IsToks w' w.heap.size v r.1 ∧ Below w.heap.size w w'
/-- Where the loop stands. -/
structure CutAt (l : List Int) (w0 wr : World) (i : Nat) (out : List Tk.Tok) (v : Value) : Prop where
  hi : i ≤ l.length
  len : out.length ≤ i
  toks : IsToks wr w0.heap.size v out
  below : Below w0.heap.size w0 wr
  told : ∃ f, l.length + 1 ≤ f + i ∧ Tk.goF l (l.length + 1) 0 [] = Tk.goF l f i out
/-- Where it has come to its end. -/
structure CutEnd (l : List Int) (w0 wr : World) (out : List Tk.Tok) (v : Value) : Prop where
  toks : IsToks wr w0.heap.size v out
  below : Below w0.heap.size w0 wr
  told : Tk.goF l (l.length + 1) 0 [] = (out, 0, 0)

theorem tokCut_any (s : ByteArray) (w : World) (hs : s.size ≤ 10000) :
    Calls Tryz.prog 12 #[.string s] w (CutOut w (Tk.cut s)) := by
  have DEC := Lib.hid (decode_any s w (by omega))
  have hmay : ∀ x ∈ Gl.ints (Gl.dec s 0).1, Gl.may x = true := by
    intro x hx
    unfold Gl.ints at hx
    rw [List.mem_map] at hx
    obtain ⟨n, hn, rfl⟩ := hx
    exact Gl.dec_may (s.size + 1) 0 (by omega) n hn
  have hlen : (Gl.ints (Gl.dec s 0).1).length ≤ 10000 := by
    unfold Gl.ints
    rw [List.length_map]
    have := Gl.dec_len (s := s) (s.size + 1) 0 (by omega)
    omega
  have HR : Hid (∀ e w', CutOut w (Tk.cutL (Gl.ints (Gl.dec s 0).1) (Gl.dec s 0).2) e w' → CutOut w (Tk.cut s) e w') := Lib.hid (fun e w' h => h)
  have hbad : Hid (Gl.badI (Gl.dec s 0).2 = match (Gl.dec s 0).2 with | none => -1 | some i => (i : Int)) := Lib.hid (by cases (Gl.dec s 0).2 <;> rfl)
  generalize Gl.ints (Gl.dec s 0).1 = l at *
  obtain ⟨ob, hob⟩ : ∃ ob, ob = (Gl.dec s 0).2 := ⟨_, rfl⟩
  rw [← hob] at DEC HR hbad
  obtain ⟨bad, hbd⟩ : ∃ bad, bad = Gl.badI ob := ⟨_, rfl⟩
  rw [← hbd] at DEC hbad
  clear hob hbd
  have HM := Lib.hid hmay
  clear hmay
  obtain ⟨i0, hi0, hz0, hz1, hz2⟩ := info_parts tokens_info
  have CA := Lib.hid (fun x wx => class_any x wx)
  go_enter Tryz.func12, Tryz.ntmps12
  go_upto_region 1 with fail
  go_step3
  go_wp2_with fail
  refine DEC.out.mono ?_
  rintro e w1 ⟨lv, rfl, ⟨A, c, rfl, hc1, hc2, hl⟩, hbw⟩
  have HL := Lib.hid hl
  have HBW := Lib.hid hbw
  clear hl hbw
  by_cases hbig : 2000 < l.length
  · have HRE : Hid (Tk.cutL l ob = ([], 0, 7)) := Lib.hid (by unfold Tk.cutL; rw [if_pos hbig])
    have hbig' : (2000 : Int) < (l.length : Int) := by omega
    go_wp2_with fail
    rw [Exit.noGoto_ret]
    refine bodyPost_ret (results_tmp3 (by rfl) _ _ _ _ _ (by rfl) (by rfl) (by rfl)) rfl (HR.out _ _ ?_)
    rw [HRE.out]
    exact ⟨_, rfl, IsToks.nil _ _, HBW.out⟩
  · have hbig' : ¬ (2000 : Int) < (l.length : Int) := by omega
    have H0 : Hid (CutAt l w1 w1 0 [] (.slice none 0 0)) := Lib.hid ⟨Nat.zero_le _, Nat.le_refl _, IsToks.nil _ _, Below.refl _ _, l.length + 1, by omega, rfl⟩
    go_wp2_with fail
    go_step3
    go_upto_block 0 with fail
    go_cut [7, 8] from 9 (fun x7 x8 wx => ∃ out, Hid (CutEnd l w1 wx out x7))
    case first =>
      go_wp2_with fail
      go_loopw [7, 8] (fun v iv wr => ∃ (i : Nat) (out : List Tk.Tok), iv = .int .i64 (i : Int) ∧ Hid (CutAt l w1 wr i out v)) (fun _ iv _ => l.length - (intOf iv).toNat)
      case atStart => exact ⟨0, [], by go_num, H0⟩
      case round =>
        clear H0
        obtain ⟨i, out, rfl, HT⟩ := hrel
        have hil := HT.out.hi
        by_cases hlt : i < l.length
        · have hbl := HT.out.below
          obtain ⟨b, off, rfl, hb, g1⟩ := lies_i64 (HL.out.below hbl) hlt
          obtain ⟨x, hx⟩ : ∃ x, x = l.getD i (-1) := ⟨_, rfl⟩
          rw [← Tk.getD_in hlt, ← hx] at g1
          have HX := Lib.hid hx
          obtain ⟨k, hk⟩ : ∃ k, k = Tk.cls x := ⟨_, rfl⟩
          have C1 := Lib.hid (CA.out x wr)
          rw [← hk] at C1
          have HK := Lib.hid hk
          clear hx hk hb
          by_cases k1 : k = 1
          · have q1 : (k == 1) = true := by rw [k1]; rfl
            have HN : Hid (CutAt l w1 wr (i + 1) out u7) := Lib.hid ⟨hlt, by have := HT.out.len; omega, HT.out.toks, hbl, by
              obtain ⟨f, hf, ht⟩ := HT.out.told
              obtain ⟨f, rfl⟩ : ∃ g, f = g + 1 := ⟨f - 1, by omega⟩
              have hcl : Tk.cls (l.getD i (-1)) = 1 := by rw [← HX.out, ← HK.out]; exact k1
              exact ⟨f, by omega, by rw [ht, goF_blank hlt (by intro h; rw [h] at hcl; exact absurd hcl (by decide)) hcl]⟩⟩
            clear k1 hbl
            go_wp2_with fail
            refine C1.out.mono ?_
            rintro e w' ⟨rfl, rfl⟩
            go_wp2_with fail
            go_round
            case rel => exact ⟨i + 1, out, by go_num, HN⟩
            case measure => simp [intOf]; omega
          · have q1 : (k == 1) = false := beq_eq_false_iff_ne.2 k1
            by_cases x9 : x = 9053
            · have q2 : (x == 9053) = true := by rw [x9]; rfl
              have HE : Hid (CutEnd l w1 wr out u7) := Lib.hid ⟨HT.out.toks, hbl, by
                obtain ⟨f, hf, ht⟩ := HT.out.told
                rw [ht, goF_end (.inr (by rw [← HX.out]; exact x9)) (by omega)]⟩
              clear k1 hbl x9
              go_wp2_with fail
              refine C1.out.mono ?_
              rintro e w' ⟨rfl, rfl⟩
              go_wp2_with fail
              go_meet
              exact ⟨out, HE⟩
            · have q2 : (x == 9053) = false := beq_eq_false_iff_ne.2 x9
              have hcl : Tk.cls (l.getD i (-1)) ≠ 1 := by rw [← HX.out, ← HK.out]; exact k1
              have hx9 : l.getD i (-1) ≠ 9053 := by rw [← HX.out]; exact x9
              have NX := Lib.hid (next_any (some ⟨b, off, none⟩) c l i wr ((HL.out.below hbl).more hbl.size) (by omega) hc1 HM.out hlt hcl)
              have HBL := Lib.hid hbl
              have HCL := Lib.hid hcl
              have HX9 := Lib.hid hx9
              clear k1 x9 hbl hcl hx9
              go_wp2_with fail
              refine C1.out.mono ?_
              rintro e w' ⟨rfl, rfl⟩
              go_wp2_with fail
              refine NX.out.mono ?_
              intro e w5 h
              obtain ⟨r, hr⟩ : ∃ r, r = Tk.read l i := ⟨_, rfl⟩
              unfold ReadOut at h
              rw [← hr] at h
              obtain ⟨t, n, er⟩ := r
              dsimp only at h
              obtain ⟨en, hen⟩ : ∃ en, en = (if er = 0 then i + n else 0) := ⟨_, rfl⟩
              rw [← hen] at h
              obtain ⟨n1, n2, lv, he, h1, h2, h3, h4⟩ := h
              have he : e = .returned (.tuple #[.agg #[.int .i64 t.kind, .bool t.n.neg, n1, n2, lv, .string ⟨t.s.toArray⟩, .int .i64 t.c, .int .i64 0], .int .i64 (en : Int), .int .i64 er]) := he
              subst he
              have h1' := h1
              have h2' := h2
              obtain ⟨A1, c1, rfl, _⟩ := h1'
              obtain ⟨A2, c2, rfl, _⟩ := h2'
              obtain ⟨A3, c3, rfl, _, _⟩ := own_slice h3
              have HG6 : Hid ((w5.alloc (.cells #[.int .i64 0, .bool false, .slice none 0 0, .slice none 0 0, .slice none 0 0, .string ⟨#[]⟩, .int .i64 0, .int .i64 0] 67)).heap[w5.heap.size]? = some (.cells #[.int .i64 0, .bool false, .slice none 0 0, .slice none 0 0, .slice none 0 0, .string ⟨#[]⟩, .int .i64 0, .int .i64 0] 67 (0, 0))) := Lib.hid (heap_alloc_new w5 _)
              obtain ⟨W7, hW7⟩ : ∃ W7, W7 = (w5.alloc (.cells #[.int .i64 0, .bool false, .slice none 0 0, .slice none 0 0, .slice none 0 0, .string ⟨#[]⟩, .int .i64 0, .int .i64 0] 67)).setRow w5.heap.size #[.int .i64 t.kind, .bool t.n.neg, .slice A1 t.n.top.length c1, .slice A2 t.n.bot.length c2, .slice A3 t.l.length c3, .string ⟨t.s.toArray⟩, .int .i64 t.c, .int .i64 0] := ⟨_, rfl⟩
              have hb7 : Below w5.heap.size w5 W7 := by rw [hW7]; exact rBelow.setRow ((Below.refl _ _).alloc (Nat.le_refl _) _) (Nat.le_refl _) _
              have hG7 : W7.heap[w5.heap.size]? = some (.cells #[.int .i64 t.kind, .bool t.n.neg, .slice A1 t.n.top.length c1, .slice A2 t.n.bot.length c2, .slice A3 t.l.length c3, .string ⟨t.s.toArray⟩, .int .i64 t.c, .int .i64 0] 67 (0, 0)) := by rw [hW7]; exact rheap_same HG6.out
              have hS7 : w5.heap.size + 1 ≤ W7.heap.size := by rw [hW7, size_setRow]; simp
              have HB7 := Lib.hid hb7
              have HG7 := Lib.hid hG7
              have HS7 := Lib.hid hS7
              have HW7 := Lib.hid hW7
              clear hb7 hG7 hS7 hW7
              have HRD := Lib.hid hr
              have HEN := Lib.hid hen
              have H1 := Lib.hid h1
              have H2 := Lib.hid h2
              have H3 := Lib.hid h3
              have H4 := Lib.hid h4
              clear hr hen h1 h2 h3 h4
              go_upto_region 11 with (with_reducible refine wpList_store_row rfl 67 (.tmp 9) (.tmp 43) rfl w5.heap.size #[.int .i64 t.kind, .bool t.n.neg, .slice A1 t.n.top.length c1, .slice A2 t.n.bot.length c2, .slice A3 t.l.length c3, .string ⟨t.s.toArray⟩, .int .i64 t.c, .int .i64 0] rfl rfl 67 #[.int .i64 0, .bool false, .slice none 0 0, .slice none 0 0, .slice none 0 0, .string ⟨#[]⟩, .int .i64 0, .int .i64 0] HG6.out (tok_infoR _ _ _ _ _ _ _ _) rfl (tok_one _ _ _ _ _ _ _ _ _ _ _ _ _ _) ?_)
              rw [← HW7.out]
              by_cases e0 : er = 0
              · subst e0
                have hc7 : W7.cell? ⟨w5.heap.size, 7, none⟩ = some (.int .i64 0) := (cell_of_row W7 w5.heap.size 7 _ _ _ HG7.out).trans rfl
                have hf7 : W7.frozen? ⟨w5.heap.size, 7, none⟩ = false := by simp [World.frozen?, HG7.out]
                obtain ⟨W8, hW8⟩ : ∃ W8, W8 = W7.setCell ⟨w5.heap.size, 7, none⟩ (.int .i64 (i : Int)) := ⟨_, rfl⟩
                have HG8 : Hid (W8.heap[w5.heap.size]? = some (.cells #[.int .i64 t.kind, .bool t.n.neg, .slice A1 t.n.top.length c1, .slice A2 t.n.bot.length c2, .slice A3 t.l.length c3, .string ⟨t.s.toArray⟩, .int .i64 t.c, .int .i64 (i : Int)] 67 (0, 0))) := Lib.hid (by rw [hW8]; exact Blk.set_ (w := W7) (g := w5.heap.size) (vs := [.int .i64 t.kind, .bool t.n.neg, .slice A1 t.n.top.length c1, .slice A2 t.n.bot.length c2, .slice A3 t.l.length c3, .string ⟨t.s.toArray⟩, .int .i64 t.c, .int .i64 0]) HG7.out 7 _)
                have HB8 : Hid (Below w5.heap.size w5 W8) := Lib.hid (by rw [hW8]; exact HB7.out.setCell (Nat.le_refl _) _)
                have HW8 := Lib.hid hW8
                clear hW8
                go_upto_region 14 with fail
                rw [← HW8.out]
                have HAT : Hid (t.at_ = i) := Lib.hid (by
                  have h := (Tk.read_ok (l := l) (i := i) (by rw [← HRD.out])).2
                  rw [← HRD.out] at h
                  exact h)
                have HEN2 : Hid (en = i + n ∧ 1 ≤ n ∧ i + n ≤ l.length) := Lib.hid (by
                  have h := Tk.read_len (l := l) (i := i) hlt (by rw [← HRD.out])
                  rw [← HRD.out] at h
                  exact ⟨by rw [HEN.out, if_pos rfl], h⟩)
                obtain ⟨xs, t1, t2⟩ := HT.out.toks
                have hown9 : (W8.alloc (.cells #[.int .i64 t.kind, .bool t.n.neg, .slice A1 t.n.top.length c1, .slice A2 t.n.bot.length c2, .slice A3 t.l.length c3, .string ⟨t.s.toArray⟩, .int .i64 t.c, .int .i64 (i : Int)] 67)).ownsQ NoU w1.heap.size 67 8 u7 out.length xs := ownsQ_below (ownsQ_below (ownsQ_below t1 H4.out) HB8.out) ((Below.refl _ _).alloc (Nat.le_refl _) _)
                have r9 : TokRows (W8.alloc (.cells #[.int .i64 t.kind, .bool t.n.neg, .slice A1 t.n.top.length c1, .slice A2 t.n.bot.length c2, .slice A3 t.l.length c3, .string ⟨t.s.toArray⟩, .int .i64 t.c, .int .i64 (i : Int)] 67)) out xs := ((t2.below H4.out).below HB8.out).below ((Below.refl _ _).alloc (Nat.le_refl _) _)
                have b9 : Below w1.heap.size w1 (W8.alloc (.cells #[.int .i64 t.kind, .bool t.n.neg, .slice A1 t.n.top.length c1, .slice A2 t.n.bot.length c2, .slice A3 t.l.length c3, .string ⟨t.s.toArray⟩, .int .i64 t.c, .int .i64 (i : Int)] 67)) := ((HBL.out.trans (H4.out.mono HBL.out.size)).trans (HB8.out.mono (Nat.le_trans HBL.out.size H4.out.size))).alloc (Nat.le_trans HBL.out.size (Nat.le_trans H4.out.size HB8.out.size)) _
                have k1 := (H1.out.below_ HB8.out).below_ (w' := W8.alloc (.cells #[.int .i64 t.kind, .bool t.n.neg, .slice A1 t.n.top.length c1, .slice A2 t.n.bot.length c2, .slice A3 t.l.length c3, .string ⟨t.s.toArray⟩, .int .i64 t.c, .int .i64 (i : Int)] 67)) ((Below.refl _ _).alloc (Nat.le_refl _) _)
                have k2 := (H2.out.below_ HB8.out).below_ (w' := W8.alloc (.cells #[.int .i64 t.kind, .bool t.n.neg, .slice A1 t.n.top.length c1, .slice A2 t.n.bot.length c2, .slice A3 t.l.length c3, .string ⟨t.s.toArray⟩, .int .i64 t.c, .int .i64 (i : Int)] 67)) ((Below.refl _ _).alloc (Nat.le_refl _) _)
                have k3 := own_below_ (own_below_ H3.out HB8.out) (w' := W8.alloc (.cells #[.int .i64 t.kind, .bool t.n.neg, .slice A1 t.n.top.length c1, .slice A2 t.n.bot.length c2, .slice A3 t.l.length c3, .string ⟨t.s.toArray⟩, .int .i64 t.c, .int .i64 (i : Int)] 67)) ((Below.refl _ _).alloc (Nat.le_refl _) _)
                have OWN9 := Lib.hid hown9
                have R9 := Lib.hid r9
                have B9 := Lib.hid b9
                have K1 := Lib.hid k1
                have K2 := Lib.hid k2
                have K3 := Lib.hid k3
                have hol := HT.out.len
                clear t1 t2 hown9 r9 b9 k1 k2 k3
                go_wp2_with (first | (with_reducible refine wpList_load_row rfl 67 (.tmp 9) rfl w5.heap.size rfl 67 #[.int .i64 t.kind, .bool t.n.neg, .slice A1 t.n.top.length c1, .slice A2 t.n.bot.length c2, .slice A3 t.l.length c3, .string ⟨t.s.toArray⟩, .int .i64 t.c, .int .i64 (i : Int)] (0, 0) _ HG8.out Tryz.underlying67 rfl (tok_infoR _ _ _ _ _ _ _ _) ?_) | (at_builtin; refine wpList_append_ownQ _ rfl _ _ 36 rfl NoU w1.heap.size 67 i0 _ 8 120 Tryz.underlying36 hi0 hz0 hz1 hz2 rfl (by decide) tokZ_noU _ _ xs rfl OWN9.out ⟨_, 0, none⟩ 1 1 (tokCells t.kind t.n.neg (.slice A1 t.n.top.length c1) (.slice A2 t.n.bot.length c2) (.slice A3 t.l.length c3) t.s t.c (i : Int)) rfl rfl (cells_new _ _ _) (by intro u hu; unfold tokCells at hu; simp only [List.mem_cons, List.not_mem_nil, or_false] at hu; rcases hu with rfl | rfl | rfl | rfl | rfl | rfl | rfl | rfl <;> rfl) (tokCells_noU _ _ K1.out.noU K2.out.noU (own_noU K3.out) _ _ _) (by unfold maxLen; omega) (by omega) B9.out.size ?_; intro v' w10 hown' hgr hnil hat))
                have hk1 := K1.out.grownQ OWN9.out hgr
                have hk2 := K2.out.grownQ OWN9.out hgr
                have hk3 := own_grown_t K3.out OWN9.out (by decide) hgr
                have hr1 := R9.out.grown OWN9.out (by decide) hgr
                have hb1 := B9.out.grown hgr B9.out.size (fun k hk => (OWN9.out.own.lt k hk).1)
                have hsn := TokRows.snoc hk1 hk2 hk3 hr1
                have HN : Hid (CutAt l w1 w10 en (out ++ [t]) v') := Lib.hid
                  { hi := by rw [HEN2.out.1]; exact HEN2.out.2.2
                    len := by rw [List.length_append, HEN2.out.1]; have := HEN2.out.2.1; simp only [List.length_cons, List.length_nil]; omega
                    toks := ⟨_, by
                      have h := hown'
                      rw [List.length_append]
                      exact h, by
                      have h := hsn
                      rw [HAT.out] at h
                      exact h⟩
                    below := hb1
                    told := by
                      obtain ⟨f, hf, ht⟩ := HT.out.told
                      obtain ⟨f, rfl⟩ : ∃ g, f = g + 1 := ⟨f - 1, by omega⟩
                      refine ⟨f, by rw [HEN2.out.1]; have := HEN2.out.2.1; omega, ?_⟩
                      rw [ht, goF_next hlt HX9.out HCL.out (by rw [← HRD.out]), ← HRD.out, HEN2.out.1] }
                have hme : i < en ∧ en ≤ l.length := by rw [HEN2.out.1]; have := HEN2.out.2; omega
                clear hk1 hk2 hk3 hr1 hb1 hsn hown' hgr hnil hat
                go_wp2_with fail
                go_round
                case rel => exact ⟨en, out ++ [t], rfl, HN⟩
                case measure => simp [intOf]; omega
              · have q3 : (er != 0) = true := by rw [bne_iff_ne]; exact e0
                have HRE : Hid (Tk.cutL l ob = ([], i, er)) := Lib.hid (by
                  obtain ⟨f, hf, ht⟩ := HT.out.told
                  rw [goF_bad hlt HX9.out HCL.out (by rw [← HRD.out]; exact e0) (by omega), ← HRD.out] at ht
                  unfold Tk.cutL
                  rw [if_neg hbig, ht, if_pos e0])
                clear e0
                go_wp2_with fail
                rw [Exit.noGoto_ret]
                refine bodyPost_ret (results_tmp3 (by rfl) _ _ _ _ _ (by rfl) (by rfl) (by rfl)) rfl (HR.out _ _ ?_)
                rw [HRE.out]
                exact ⟨_, rfl, IsToks.nil _ _, ((HBW.out.trans (HBL.out.mono HBW.out.size)).trans (H4.out.mono (Nat.le_trans HBW.out.size HBL.out.size))).trans (HB7.out.mono (Nat.le_trans HBW.out.size (Nat.le_trans HBL.out.size H4.out.size)))⟩
        · have HE : Hid (CutEnd l w1 wr out u7) := Lib.hid ⟨HT.out.toks, HT.out.below, by
            obtain ⟨f, hf, ht⟩ := HT.out.told
            rw [ht, goF_end (.inl (by omega)) (by omega)]⟩
          have hme : ¬ ((i : Int) < (l.length : Int)) := by omega
          go_wp2_with fail
          go_meet
          exact ⟨out, HE⟩
    case rest =>
      obtain ⟨out, HE⟩ := hcut
      cases ob with
      | none =>
        have hbad' : bad = -1 := hbad.out
        subst hbad'
        have HRE : Hid (Tk.cutL l none = (out, 0, 0)) := Lib.hid (by
          unfold Tk.cutL
          rw [if_neg hbig, HE.out.told]
          rfl)
        go_wp2_with fail
        refine bodyPost_ret (results_tmp3 (by rfl) _ _ _ _ _ (by rfl) (by rfl) (by rfl)) rfl (HR.out _ _ ?_)
        rw [HRE.out]
        obtain ⟨xs, t1, t2⟩ := HE.out.toks
        exact ⟨_, rfl, ⟨xs, t1.mono HBW.out.size, t2⟩, HBW.out.trans (HE.out.below.mono HBW.out.size)⟩
      | some p =>
        have hbad' : bad = (p : Int) := hbad.out
        subst hbad'
        have HRE : Hid (Tk.cutL l (some p) = ([], l.length, 1)) := Lib.hid (by
          unfold Tk.cutL
          rw [if_neg hbig, HE.out.told]
          rfl)
        have hp : (0 : Int) ≤ (p : Int) := by omega
        go_wp2_with fail
        refine bodyPost_ret (results_tmp3 (by rfl) _ _ _ _ _ (by rfl) (by rfl) (by rfl)) rfl (HR.out _ _ ?_)
        rw [HRE.out]
        exact ⟨_, rfl, IsToks.nil _ _, HBW.out.trans (HE.out.below.mono HBW.out.size)⟩
end Go.Proofs.YtfiefglagknclaaGreatDoor

/-
  Tokens at their places; scrimlaw20.awake.
-/
namespace Go.Proofs.YtfiefglagknclaaGreatDoor
open Go.RowKit
set_option maxHeartbeats 4000000
set_option maxRecDepth 100000
set_option linter.unusedVariables false

theorem TokRows.get {w : World} : ∀ {ts : List Tk.Tok} {xs : List Value}, TokRows w ts xs → ∀ (j : Nat) (hj : j < ts.length), ∃ n1 n2 lv pre post, xs = pre ++ (tokCells ts[j].kind ts[j].n.neg n1 n2 lv ts[j].s ts[j].c ts[j].at_ ++ post) ∧ pre.length = j * 8 ∧ IsRes w n1 ts[j].n.top ∧ IsRes w n2 ts[j].n.bot ∧ w.ownsRow 0 3 1 lv ts[j].l.length (I64 ts[j].l)
  | [], xs, h, j, hj => absurd hj (Nat.not_lt_zero _)
  | t :: ts, xs, h, 0, hj => by
    obtain ⟨n1, n2, lv, r, rfl, h1, h2, h3, hr⟩ := h
    exact ⟨n1, n2, lv, [], r, rfl, rfl, h1, h2, h3⟩
  | t :: ts, xs, h, j + 1, hj => by
    obtain ⟨n1, n2, lv, r, rfl, h1, h2, h3, hr⟩ := h
    obtain ⟨m1, m2, mv, pre, post, rfl, hp, k1, k2, k3⟩ := hr.get j (by simpa using hj)
    refine ⟨m1, m2, mv, tokCells t.kind t.n.neg n1 n2 lv t.s t.c t.at_ ++ pre, post, by simp only [List.append_assoc, List.getElem_cons_succ], ?_, k1, k2, k3⟩
    rw [List.length_append, hp]
    show 8 + _ = _
    omega
theorem IsToks.open_ {w : World} {base : Nat} {v : Value} {ts : List Tk.Tok} (h : IsToks w base v ts) : ∃ A c, v = .slice A ts.length c ∧ ts.length ≤ c ∧ c ≤ maxLen ∧
    ∀ (j : Nat) (hj : j < ts.length), ∃ g n1 n2 lv, A = some ⟨g, 0, none⟩ ∧ g < w.heap.size ∧ base ≤ g ∧ w.rangeAt g (j * 8) (tokCells ts[j].kind ts[j].n.neg n1 n2 lv ts[j].s ts[j].c ts[j].at_) ∧ IsRes w n1 ts[j].n.top ∧ IsRes w n2 ts[j].n.bot ∧ w.ownsRow 0 3 1 lv ts[j].l.length (I64 ts[j].l) := by
  obtain ⟨xs, ho, hr⟩ := h
  obtain ⟨A, c, hv, hc1, hc2⟩ := own_slice ho.own
  refine ⟨A, c, hv, hc1, hc2, fun j hj => ?_⟩
  obtain ⟨n1, n2, lv, pre, post, hx, hp, k1, k2, k3⟩ := hr.get j hj
  rcases ho.own.2 with ⟨hv', h0⟩ | ⟨g, cap, cur, hv', hb, hg, _⟩
  · omega
  · rw [hv] at hv'
    injection hv' with e1 _ _
    refine ⟨g, n1, n2, lv, e1, (Array.getElem?_eq_some_iff.1 hg).1, hb, fun k u hu => ?_, k1, k2, k3⟩
    have hc := ho.own.cells (g := g) (by rw [hv, e1]; rfl) (j * 8 + k) u (by
      rw [hx, List.getElem?_append_right (by omega), hp, show j * 8 + k - j * 8 = k by omega]
      rw [List.getElem?_append_left (List.getElem?_eq_some_iff.1 hu).1]
      exact hu)
    rw [Addr.add_mid] at hc
    rw [Nat.zero_add] at hc
    exact hc
theorem awake_cut : (Tk.cut ⟨#[120, 226, 134, 144, 51, 114, 52, 43, 226, 142, 149, 49, 32, 226, 141, 157, 32, 110, 111]⟩).1.map (fun t => (t.kind, t.c)) = [(2, 0), (7, 8592), (0, 0), (7, 43), (4, 1)] ∧ (Tk.cut ⟨#[120, 226, 134, 144, 51, 114, 52, 43, 226, 142, 149, 49, 32, 226, 141, 157, 32, 110, 111]⟩).2 = (0, 0) := by
  constructor <;> kernel_rfl
theorem awake20_any (w : World) : Calls Tryz.prog 16 #[] w fun e w' => e = .returned (.bool true) ∧ Below w.heap.size w w' := by
  have CUT := Lib.hid (tokCut_any ⟨#[120, 226, 134, 144, 51, 114, 52, 43, 226, 142, 149, 49, 32, 226, 141, 157, 32, 110, 111]⟩ w (by decide))
  obtain ⟨r, hr⟩ : ∃ r, r = Tk.cut ⟨#[120, 226, 134, 144, 51, 114, 52, 43, 226, 142, 149, 49, 32, 226, 141, 157, 32, 110, 111]⟩ := ⟨_, rfl⟩
  obtain ⟨h1, h2⟩ := awake_cut
  rw [← hr] at CUT h1 h2
  obtain ⟨ts, p⟩ := r
  dsimp only at h1 h2
  subst h2
  have h5 : ts.length = 5 := by have := congrArg List.length h1; simpa using this
  have hk : ∀ (j : Nat) (hj : j < ts.length) (hj' : j < 5), (ts[j].kind, ts[j].c) = [(2, 0), (7, 8592), (0, 0), (7, 43), ((4 : Int), (1 : Int))][j] := by
    intro j hj hj'
    have h := congrArg (fun l => l[j]?) h1
    simp only [List.getElem?_map, List.getElem?_eq_getElem hj, Option.map_some] at h
    rw [List.getElem?_eq_getElem (by simpa using hj')] at h
    exact Option.some.inj h
  have HK := Lib.hid hk
  have H5 := Lib.hid h5
  clear hr h1 h5 hk
  go_enter Tryz.func16, Tryz.ntmps16
  go_wp2_with fail
  refine CUT.out.mono ?_
  rintro e w' ⟨v, rfl, ht, hb⟩
  obtain ⟨A, c, rfl, hc1, hc2, hat⟩ := ht.open_
  obtain ⟨g, n1, n2, lv, rfl, hg, _, r0, _⟩ := hat 0 (by rw [H5.out]; omega)
  obtain ⟨g', m1, m2, mv, e2, _, _, r2, _⟩ := hat 2 (by rw [H5.out]; omega)
  obtain ⟨g'', o1, o2, ov, e4, _, _, r4, _⟩ := hat 4 (by rw [H5.out]; omega)
  injection e2 with e2
  injection e2 with e2
  injection e4 with e4
  injection e4 with e4
  subst e2 e4
  have k0 := HK.out 0 (by rw [H5.out]; omega) (by omega)
  have k2 := HK.out 2 (by rw [H5.out]; omega) (by omega)
  have k4 := HK.out 4 (by rw [H5.out]; omega) (by omega)
  injection k0 with k0 k0'
  injection k2 with k2 k2'
  injection k4 with k4 k4'
  have c0 : w'.cell? ⟨g, 0, none⟩ = some (.int .i64 2) := by have h := r0 0 _ rfl; rw [k0] at h; exact h
  have c2 : w'.cell? ⟨g, 16, none⟩ = some (.int .i64 0) := by have h := r2 0 _ rfl; rw [k2] at h; exact h
  have c4 : w'.cell? ⟨g, 32, none⟩ = some (.int .i64 4) := by have h := r4 0 _ rfl; rw [k4] at h; exact h
  have c6 : w'.cell? ⟨g, 38, none⟩ = some (.int .i64 1) := by have h := r4 6 _ rfl; rw [k4'] at h; exact h
  have hlen : (ts.length : Int) = 5 := by rw [H5.out]; rfl
  have HB := Lib.hid hb
  clear r0 r2 r4 hat ht k0 k0' k2 k2' k4 k4' hc1 hb
  rw [H5.out]
  go_wp2_with fail
  go_ret
  exact ⟨rfl, HB.out⟩
end Go.Proofs.YtfiefglagknclaaGreatDoor

/-
  scrimlaw20.theirs: the tokens, as the document's.
-/
namespace Go.Proofs.YtfiefglagknclaaGreatDoor
open Go.RowKit
set_option maxHeartbeats 4000000
set_option maxRecDepth 100000
set_option linter.unusedVariables false

/-- A slice of tokens, of whatever type's name. -/
def IsToksT (T : TypeId) (w : World) (base : Nat) (v : Value) (ts : List Tk.Tok) : Prop := ∃ xs, w.ownsQ NoU base T 8 v ts.length xs ∧ TokRows w ts xs
theorem IsToks.t {w : World} {base : Nat} {v : Value} {ts : List Tk.Tok} (h : IsToks w base v ts) : IsToksT 67 w base v ts := h
theorem IsToksT.nil (T : TypeId) (w : World) (base : Nat) : IsToksT T w base (.slice none 0 0) [] := ⟨[], World.ownsQ_nil _ _ _ _ _, rfl⟩
theorem IsToksT.below {T : TypeId} {w w' : World} {base : Nat} {v : Value} {ts : List Tk.Tok} (h : IsToksT T w base v ts) (hb : Below w.heap.size w w') : IsToksT T w' base v ts := by
  obtain ⟨xs, h1, h2⟩ := h
  exact ⟨xs, ownsQ_below h1 hb, h2.below hb⟩
theorem IsToksT.open_ {T : TypeId} {w : World} {base : Nat} {v : Value} {ts : List Tk.Tok} (h : IsToksT T w base v ts) : ∃ A c, v = .slice A ts.length c ∧ ts.length ≤ c ∧ c ≤ maxLen ∧
    ∀ (j : Nat) (hj : j < ts.length), ∃ g n1 n2 lv, A = some ⟨g, 0, none⟩ ∧ g < w.heap.size ∧ base ≤ g ∧ w.rangeAt g (j * 8) (tokCells ts[j].kind ts[j].n.neg n1 n2 lv ts[j].s ts[j].c ts[j].at_) ∧ IsRes w n1 ts[j].n.top ∧ IsRes w n2 ts[j].n.bot ∧ w.ownsRow 0 3 1 lv ts[j].l.length (I64 ts[j].l) := by
  obtain ⟨xs, ho, hr⟩ := h
  obtain ⟨A, c, hv, hc1, hc2⟩ := own_slice ho.own
  refine ⟨A, c, hv, hc1, hc2, fun j hj => ?_⟩
  obtain ⟨n1, n2, lv, pre, post, hx, hp, k1, k2, k3⟩ := hr.get j hj
  rcases ho.own.2 with ⟨hv', h0⟩ | ⟨g, cap, cur, hv', hb, hg, _⟩
  · omega
  · rw [hv] at hv'
    injection hv' with e1 _ _
    refine ⟨g, n1, n2, lv, e1, (Array.getElem?_eq_some_iff.1 hg).1, hb, fun k u hu => ?_, k1, k2, k3⟩
    have hc := ho.own.cells (g := g) (by rw [hv, e1]; rfl) (j * 8 + k) u (by
      rw [hx, List.getElem?_append_right (by omega), hp, show j * 8 + k - j * 8 = k by omega]
      rw [List.getElem?_append_left (List.getElem?_eq_some_iff.1 hu).1]
      exact hu)
    rw [Addr.add_mid] at hc
    rw [Nat.zero_add] at hc
    exact hc
theorem tok_infoL (x0 x1 x2 x3 x4 x5 x6 x7 : Value) : (Tryz.prog.info? 67).map (·.size) = some [x0, x1, x2, x3, x4, x5, x6, x7].length := tok_info
theorem rtok_info : (Tryz.prog.info? 70).map (·.size) = some 8 := by kernel_rfl
theorem rtok_infoL (x0 x1 x2 x3 x4 x5 x6 x7 : Value) : (Tryz.prog.info? 70).map (·.size) = some [x0, x1, x2, x3, x4, x5, x6, x7].length := rtok_info
theorem rtoken_info : (Tryz.prog.info? 70).map (fun i => (i.zero, i.size, i.bytes)) = some (some (.agg #[.int .i64 0, .bool false, .slice none 0 0, .slice none 0 0, .slice none 0 0, .string ⟨#[]⟩, .int .i64 0, .int .i64 0]), 8, 120) := by kernel_rfl
theorem rangeAt_below {B : Nat} {w w' : World} (h : Below B w w') {g o : Nat} {cs : List Value} (hg : g < B) (hr : w.rangeAt g o cs) : w'.rangeAt g o cs := fun j v hv => (h.cell hg).trans (hr j v hv)

theorem theirs_any (v : Value) (ts : List Tk.Tok) (w : World) (base : Nat) (h : IsToks w base v ts) (hn : ts.length ≤ 100000) :
    Calls Tryz.prog 15 #[v] w fun e w' => ∃ v', e = .returned v' ∧ IsToksT 70 w' w.heap.size v' ts ∧ Below w.heap.size w w' := by
  obtain ⟨i0, hi0, hz0, hz1, hz2⟩ := info_parts rtoken_info
  obtain ⟨A, c, rfl, hc1, hc2, hat⟩ := h.open_
  have HAT := Lib.hid hat
  clear h hat
  go_enter Tryz.func15, Tryz.ntmps15
  go_wp2_with fail
  go_loopw [3, 4] (fun lv iv wr => ∃ j : Nat, iv = .int .i64 (j : Int) ∧ j ≤ ts.length ∧ Hid (Below w.heap.size w wr) ∧ Hid (IsToksT 70 wr w.heap.size lv (ts.take j))) (fun _ iv _ => ts.length - (intOf iv).toNat)
  case atStart => exact ⟨0, by go_num, Nat.zero_le _, Lib.hid (Below.refl _ _), Lib.hid (IsToksT.nil _ _ _)⟩
  case round =>
    obtain ⟨j, rfl, hj, HB, HT⟩ := hrel
    by_cases hlt : j < ts.length
    · obtain ⟨g, n1, n2, lv, rfl, hg, _, hr, i1, i2, i3⟩ := HAT.out j hlt
      have HR := Lib.hid (rangeAt_below HB.out hg hr)
      have htk : Hid (ts.take (j + 1) = ts.take j ++ [ts[j]]) := Lib.hid (by rw [List.take_add_one, List.getElem?_eq_getElem hlt]; rfl)
      have htl : Hid ((ts.take j).length = j) := Lib.hid (by rw [List.length_take]; omega)
      obtain ⟨t, ht⟩ : ∃ t, t = ts[j] := ⟨_, rfl⟩
      rw [← ht] at HR i1 i2 i3 htk
      clear hr ht
      have i1' := i1
      have i2' := i2
      obtain ⟨A1, c1, rfl, _⟩ := i1'
      obtain ⟨A2, c2, rfl, _⟩ := i2'
      obtain ⟨A3, c3, rfl, _, _⟩ := own_slice i3
      unfold tokCells at HR
      obtain ⟨W7, hW7⟩ : ∃ W7, W7 = (wr.alloc (.cells #[.int .i64 0, .bool false, .slice none 0 0, .slice none 0 0, .slice none 0 0, .string ⟨#[]⟩, .int .i64 0, .int .i64 0] 67)).setRow wr.heap.size #[.int .i64 t.kind, .bool t.n.neg, .slice A1 t.n.top.length c1, .slice A2 t.n.bot.length c2, .slice A3 t.l.length c3, .string ⟨t.s.toArray⟩, .int .i64 t.c, .int .i64 (t.at_ : Int)] := ⟨_, rfl⟩
      have HG6 : Hid ((wr.alloc (.cells #[.int .i64 0, .bool false, .slice none 0 0, .slice none 0 0, .slice none 0 0, .string ⟨#[]⟩, .int .i64 0, .int .i64 0] 67)).heap[wr.heap.size]? = some (.cells #[.int .i64 0, .bool false, .slice none 0 0, .slice none 0 0, .slice none 0 0, .string ⟨#[]⟩, .int .i64 0, .int .i64 0] 67 (0, 0))) := Lib.hid (heap_alloc_new wr _)
      have HB7 : Hid (Below wr.heap.size wr W7) := Lib.hid (by rw [hW7]; exact rBelow.setRow ((Below.refl _ _).alloc (Nat.le_refl _) _) (Nat.le_refl _) _)
      have hG7 : W7.heap[wr.heap.size]? = some (.cells #[.int .i64 t.kind, .bool t.n.neg, .slice A1 t.n.top.length c1, .slice A2 t.n.bot.length c2, .slice A3 t.l.length c3, .string ⟨t.s.toArray⟩, .int .i64 t.c, .int .i64 (t.at_ : Int)] 67 (0, 0)) := by rw [hW7]; exact rheap_same HG6.out
      have HW7 := Lib.hid hW7
      have z0 : W7.cell? ⟨wr.heap.size, 0, none⟩ = some (.int .i64 t.kind) := (cell_of_row W7 wr.heap.size 0 _ _ _ hG7).trans rfl
      have z1 : W7.cell? ⟨wr.heap.size, 1, none⟩ = some (.bool t.n.neg) := (cell_of_row W7 wr.heap.size 1 _ _ _ hG7).trans rfl
      have z2 : W7.cell? ⟨wr.heap.size, 2, none⟩ = some (.slice A1 t.n.top.length c1) := (cell_of_row W7 wr.heap.size 2 _ _ _ hG7).trans rfl
      have z3 : W7.cell? ⟨wr.heap.size, 3, none⟩ = some (.slice A2 t.n.bot.length c2) := (cell_of_row W7 wr.heap.size 3 _ _ _ hG7).trans rfl
      have z4 : W7.cell? ⟨wr.heap.size, 4, none⟩ = some (.slice A3 t.l.length c3) := (cell_of_row W7 wr.heap.size 4 _ _ _ hG7).trans rfl
      have z5 : W7.cell? ⟨wr.heap.size, 5, none⟩ = some (.string ⟨t.s.toArray⟩) := (cell_of_row W7 wr.heap.size 5 _ _ _ hG7).trans rfl
      have z6 : W7.cell? ⟨wr.heap.size, 6, none⟩ = some (.int .i64 t.c) := (cell_of_row W7 wr.heap.size 6 _ _ _ hG7).trans rfl
      have z7 : W7.cell? ⟨wr.heap.size, 7, none⟩ = some (.int .i64 (t.at_ : Int)) := (cell_of_row W7 wr.heap.size 7 _ _ _ hG7).trans rfl
      have HS7 : Hid (wr.heap.size ≤ W7.heap.size) := Lib.hid HB7.out.size
      obtain ⟨xs, t1, t2⟩ := HT.out
      have OWN9 : Hid ((W7.alloc (.cells #[.int .i64 t.kind, .bool t.n.neg, .slice A1 t.n.top.length c1, .slice A2 t.n.bot.length c2, .slice A3 t.l.length c3, .string ⟨t.s.toArray⟩, .int .i64 t.c, .int .i64 (t.at_ : Int)] 70)).ownsQ NoU w.heap.size 70 8 u3 j xs) := Lib.hid (by
        have h := ownsQ_below (ownsQ_below t1 HB7.out) (w' := W7.alloc (.cells #[.int .i64 t.kind, .bool t.n.neg, .slice A1 t.n.top.length c1, .slice A2 t.n.bot.length c2, .slice A3 t.l.length c3, .string ⟨t.s.toArray⟩, .int .i64 t.c, .int .i64 (t.at_ : Int)] 70)) ((Below.refl _ _).alloc (Nat.le_refl _) _)
        rw [htl.out] at h
        exact h)
      have R9 := Lib.hid ((t2.below HB7.out).below (w' := W7.alloc (.cells #[.int .i64 t.kind, .bool t.n.neg, .slice A1 t.n.top.length c1, .slice A2 t.n.bot.length c2, .slice A3 t.l.length c3, .string ⟨t.s.toArray⟩, .int .i64 t.c, .int .i64 (t.at_ : Int)] 70)) ((Below.refl _ _).alloc (Nat.le_refl _) _))
      have B9 : Hid (Below w.heap.size w (W7.alloc (.cells #[.int .i64 t.kind, .bool t.n.neg, .slice A1 t.n.top.length c1, .slice A2 t.n.bot.length c2, .slice A3 t.l.length c3, .string ⟨t.s.toArray⟩, .int .i64 t.c, .int .i64 (t.at_ : Int)] 70))) := Lib.hid ((HB.out.trans (HB7.out.mono HB.out.size)).alloc (Nat.le_trans HB.out.size HB7.out.size) _)
      have K1 := Lib.hid (i1.below_ B9.out)
      have K2 := Lib.hid (i2.below_ B9.out)
      have K3 := Lib.hid (own_below_ i3 B9.out)
      clear hW7 hG7 i1 i2 i3 t1 t2
      go_upto_region 6 with (first | (with_reducible refine wpList_load_mid rfl 67 (.tmp 14) rfl g (j * 8) rfl [.int .i64 t.kind, .bool t.n.neg, .slice A1 t.n.top.length c1, .slice A2 t.n.bot.length c2, .slice A3 t.l.length c3, .string ⟨t.s.toArray⟩, .int .i64 t.c, .int .i64 (t.at_ : Int)] _ HR.out Tryz.underlying67 rfl (tok_infoL _ _ _ _ _ _ _ _) ?_) | (with_reducible refine wpList_store_row rfl 67 (.tmp 5) (.tmp 15) rfl wr.heap.size #[.int .i64 t.kind, .bool t.n.neg, .slice A1 t.n.top.length c1, .slice A2 t.n.bot.length c2, .slice A3 t.l.length c3, .string ⟨t.s.toArray⟩, .int .i64 t.c, .int .i64 (t.at_ : Int)] rfl rfl 67 #[.int .i64 0, .bool false, .slice none 0 0, .slice none 0 0, .slice none 0 0, .string ⟨#[]⟩, .int .i64 0, .int .i64 0] HG6.out (tok_infoR _ _ _ _ _ _ _ _) rfl (tok_one _ _ _ _ _ _ _ _ _ _ _ _ _ _) ?_))
      rw [← HW7.out]
      dsimp only [Act.put]
      go_wp2_with (at_builtin; refine wpList_append_ownQ _ rfl _ _ 39 rfl NoU w.heap.size 70 i0 _ 8 120 Tryz.underlying39 hi0 hz0 hz1 hz2 rfl (by decide) tokZ_noU _ _ xs rfl OWN9.out ⟨_, 0, none⟩ 1 1 (tokCells t.kind t.n.neg (.slice A1 t.n.top.length c1) (.slice A2 t.n.bot.length c2) (.slice A3 t.l.length c3) t.s t.c (t.at_ : Int)) rfl rfl (cells_new _ _ _) (by intro u hu; unfold tokCells at hu; simp only [List.mem_cons, List.not_mem_nil, or_false] at hu; rcases hu with rfl | rfl | rfl | rfl | rfl | rfl | rfl | rfl <;> rfl) (tokCells_noU _ _ K1.out.noU K2.out.noU (own_noU K3.out) _ _ _) (by unfold maxLen; omega) (by omega) B9.out.size ?_; intro v' w10 hown' hgr hnil hat)
      refine ⟨⟨j + 1, by go_num, hlt, Lib.hid (B9.out.grown hgr B9.out.size (fun k hk => (OWN9.out.own.lt k hk).1)), Lib.hid ?_⟩, by simp [intOf]; omega⟩
      rw [htk.out]
      exact ⟨_, by rw [List.length_append, htl.out]; exact hown', TokRows.snoc (K1.out.grownQ OWN9.out hgr) (K2.out.grownQ OWN9.out hgr) (own_grown_t K3.out OWN9.out (by decide) hgr) (R9.out.grown OWN9.out (by decide) hgr)⟩
    · have hme : j = ts.length := by omega
      have HTE := Lib.hid HT.out
      rw [hme, List.take_length] at HTE
      go_wp2_with fail
      go_ret
      exact ⟨_, rfl, HTE.out, HB.out⟩
end Go.Proofs.YtfiefglagknclaaGreatDoor

/-
  scrimref20.Same: the same tokens are the same.
-/
namespace Go.Proofs.YtfiefglagknclaaGreatDoor
open Go.RowKit
set_option maxHeartbeats 4000000
set_option maxRecDepth 100000
set_option linter.unusedVariables false

theorem numSame_any (n n' : Rt.Nm) (v1 v2 v1' v2' : Value) (w : World) (h1 : IsRes w v1 n.top) (h2 : IsRes w v2 n.bot) (h1' : IsRes w v1' n'.top) (h2' : IsRes w v2' n'.bot) :
    Calls Tryz.prog 10 #[.agg #[.bool n.neg, v1, v2], .agg #[.bool n'.neg, v1', v2']] w fun e w' => e = .returned (.bool (decide (n = n'))) ∧ Below w.heap.size w w' := by
  obtain ⟨A1, c1, rfl, a1, a2, a3, a4⟩ := h1
  obtain ⟨A2, c2, rfl, b1, b2, b3, b4⟩ := h2
  obtain ⟨A3, c3, rfl, d1, d2, d3, d4⟩ := h1'
  obtain ⟨A4, c4, rfl, e1, e2, e3, e4⟩ := h2'
  have := refRatioSame_any n.neg n'.neg n.top n'.top n.bot n'.bot A1 A2 A3 A4 c1 c2 c3 c4 w w.heap.size a4 d4 b4 e4 (Nat.le_refl _) (by omega) (by omega) (by omega) (by omega)
  have e : sameNum n.neg n'.neg n.top n'.top n.bot n'.bot = decide (n = n') := by
    unfold sameNum
    obtain ⟨x, y, z⟩ := n
    obtain ⟨x', y', z'⟩ := n'
    rw [Bool.eq_iff_iff]
    simp [and_assoc]
  rwa [e] at this

theorem sameToks_any (v1 v2 : Value) (ts : List Tk.Tok) (w : World) (base1 base2 : Nat) (h1 : IsToksT 70 w base1 v1 ts) (h2 : IsToksT 70 w base2 v2 ts) (hn : ts.length ≤ 100000) (hln : ∀ t ∈ ts, t.l.length ≤ 1000000) :
    Calls Tryz.prog 14 #[v1, v2] w fun e w' => e = .returned (.bool true) ∧ Below w.heap.size w w' := by
  obtain ⟨A, c, rfl, hc1, hc2, hatA⟩ := h1.open_
  obtain ⟨B, d, rfl, hd1, hd2, hatB⟩ := h2.open_
  have HATA := Lib.hid hatA
  have HATB := Lib.hid hatB
  have HLN := Lib.hid hln
  clear h1 h2 hatA hatB hln
  have q0 : ((ts.length : Int) != (ts.length : Int)) = false := by simp
  go_enter Tryz.func14, Tryz.ntmps14
  go_wp2_with fail
  go_loopw [5] (fun iv wr => ∃ j : Nat, iv = .int .i64 (j : Int) ∧ j ≤ ts.length ∧ Hid (Below w.heap.size w wr)) (fun iv _ => ts.length - (intOf iv).toNat)
  case atStart => exact ⟨0, by go_num, Nat.zero_le _, Lib.hid (Below.refl _ _)⟩
  case round =>
    obtain ⟨j, rfl, hj, HB⟩ := hrel
    by_cases hlt : j < ts.length
    · obtain ⟨ga, n1, n2, lv, rfl, hga, _, hra, i1, i2, i3⟩ := HATA.out j hlt
      obtain ⟨gb, o1, o2, ov, rfl, hgb, _, hrb, k1, k2, k3⟩ := HATB.out j hlt
      have HRA := Lib.hid (rangeAt_below HB.out hga hra)
      have HRB := Lib.hid (rangeAt_below HB.out hgb hrb)
      have HTL := Lib.hid (HLN.out ts[j] (List.getElem_mem hlt))
      obtain ⟨t, ht⟩ : ∃ t, t = ts[j] := ⟨_, rfl⟩
      rw [← ht] at HRA HRB i1 i2 i3 k1 k2 k3 HTL
      clear hra hrb ht
      have I1 := Lib.hid i1
      have I2 := Lib.hid i2
      have I3 := Lib.hid i3
      have K1 := Lib.hid k1
      have K2 := Lib.hid k2
      have K3 := Lib.hid k3
      obtain ⟨A1, Ac1, rfl, _⟩ := i1
      obtain ⟨A2, Ac2, rfl, _⟩ := i2
      obtain ⟨A3, Ac3, rfl, _, _⟩ := own_slice i3
      obtain ⟨B1, Bc1, rfl, _⟩ := k1
      obtain ⟨B2, Bc2, rfl, _⟩ := k2
      obtain ⟨B3, Bc3, rfl, _, _⟩ := own_slice k3
      unfold tokCells at HRA HRB
      have hgaw : ga < wr.heap.size := Nat.lt_of_lt_of_le hga HB.out.size
      have hgbw : gb < wr.heap.size := Nat.lt_of_lt_of_le hgb HB.out.size
      have e1 : Below wr.heap.size wr (wr.alloc (.cells #[.int .i64 0, .bool false, .slice none 0 0, .slice none 0 0, .slice none 0 0, .string ⟨#[]⟩, .int .i64 0, .int .i64 0] 70)) := (Below.refl _ _).alloc (Nat.le_refl _) _
      have e2 : Below wr.heap.size wr ((wr.alloc (.cells #[.int .i64 0, .bool false, .slice none 0 0, .slice none 0 0, .slice none 0 0, .string ⟨#[]⟩, .int .i64 0, .int .i64 0] 70)).alloc (.cells #[.int .i64 0, .bool false, .slice none 0 0, .slice none 0 0, .slice none 0 0, .string ⟨#[]⟩, .int .i64 0, .int .i64 0] 70)) := e1.alloc e1.size _
      have a0 : wr.cell? ⟨ga, j * 8, none⟩ = some (.int .i64 t.kind) := HRA.out 0 _ rfl
      have a1 : wr.cell? ⟨ga, j * 8 + 1, none⟩ = some (.bool t.n.neg) := HRA.out 1 _ rfl
      have a2 : wr.cell? ⟨ga, j * 8 + 2, none⟩ = some (.slice A1 t.n.top.length Ac1) := HRA.out 2 _ rfl
      have a3 : wr.cell? ⟨ga, j * 8 + 3, none⟩ = some (.slice A2 t.n.bot.length Ac2) := HRA.out 3 _ rfl
      have a4 : wr.cell? ⟨ga, j * 8 + 4, none⟩ = some (.slice A3 t.l.length Ac3) := HRA.out 4 _ rfl
      have a5 : wr.cell? ⟨ga, j * 8 + 5, none⟩ = some (.string ⟨t.s.toArray⟩) := HRA.out 5 _ rfl
      have a6 : wr.cell? ⟨ga, j * 8 + 6, none⟩ = some (.int .i64 t.c) := HRA.out 6 _ rfl
      have a7 : wr.cell? ⟨ga, j * 8 + 7, none⟩ = some (.int .i64 (t.at_ : Int)) := HRA.out 7 _ rfl
      have b0 : wr.cell? ⟨gb, j * 8, none⟩ = some (.int .i64 t.kind) := HRB.out 0 _ rfl
      have b1 : wr.cell? ⟨gb, j * 8 + 1, none⟩ = some (.bool t.n.neg) := HRB.out 1 _ rfl
      have b2 : wr.cell? ⟨gb, j * 8 + 2, none⟩ = some (.slice B1 t.n.top.length Bc1) := HRB.out 2 _ rfl
      have b3 : wr.cell? ⟨gb, j * 8 + 3, none⟩ = some (.slice B2 t.n.bot.length Bc2) := HRB.out 3 _ rfl
      have b4 : wr.cell? ⟨gb, j * 8 + 4, none⟩ = some (.slice B3 t.l.length Bc3) := HRB.out 4 _ rfl
      have b5 : wr.cell? ⟨gb, j * 8 + 5, none⟩ = some (.string ⟨t.s.toArray⟩) := HRB.out 5 _ rfl
      have b6 : wr.cell? ⟨gb, j * 8 + 6, none⟩ = some (.int .i64 t.c) := HRB.out 6 _ rfl
      have b7 : wr.cell? ⟨gb, j * 8 + 7, none⟩ = some (.int .i64 (t.at_ : Int)) := HRB.out 7 _ rfl
      have xa0 : (wr.alloc (.cells #[.int .i64 0, .bool false, .slice none 0 0, .slice none 0 0, .slice none 0 0, .string ⟨#[]⟩, .int .i64 0, .int .i64 0] 70)).cell? ⟨ga, j * 8, none⟩ = some (.int .i64 t.kind) := (e1.cell (p := ⟨ga, j * 8, none⟩) hgaw).trans a0
      have xa1 : (wr.alloc (.cells #[.int .i64 0, .bool false, .slice none 0 0, .slice none 0 0, .slice none 0 0, .string ⟨#[]⟩, .int .i64 0, .int .i64 0] 70)).cell? ⟨ga, j * 8 + 1, none⟩ = some (.bool t.n.neg) := (e1.cell (p := ⟨ga, j * 8 + 1, none⟩) hgaw).trans a1
      have xa2 : (wr.alloc (.cells #[.int .i64 0, .bool false, .slice none 0 0, .slice none 0 0, .slice none 0 0, .string ⟨#[]⟩, .int .i64 0, .int .i64 0] 70)).cell? ⟨ga, j * 8 + 2, none⟩ = some (.slice A1 t.n.top.length Ac1) := (e1.cell (p := ⟨ga, j * 8 + 2, none⟩) hgaw).trans a2
      have xa3 : (wr.alloc (.cells #[.int .i64 0, .bool false, .slice none 0 0, .slice none 0 0, .slice none 0 0, .string ⟨#[]⟩, .int .i64 0, .int .i64 0] 70)).cell? ⟨ga, j * 8 + 3, none⟩ = some (.slice A2 t.n.bot.length Ac2) := (e1.cell (p := ⟨ga, j * 8 + 3, none⟩) hgaw).trans a3
      have xa4 : (wr.alloc (.cells #[.int .i64 0, .bool false, .slice none 0 0, .slice none 0 0, .slice none 0 0, .string ⟨#[]⟩, .int .i64 0, .int .i64 0] 70)).cell? ⟨ga, j * 8 + 4, none⟩ = some (.slice A3 t.l.length Ac3) := (e1.cell (p := ⟨ga, j * 8 + 4, none⟩) hgaw).trans a4
      have xa5 : (wr.alloc (.cells #[.int .i64 0, .bool false, .slice none 0 0, .slice none 0 0, .slice none 0 0, .string ⟨#[]⟩, .int .i64 0, .int .i64 0] 70)).cell? ⟨ga, j * 8 + 5, none⟩ = some (.string ⟨t.s.toArray⟩) := (e1.cell (p := ⟨ga, j * 8 + 5, none⟩) hgaw).trans a5
      have xa6 : (wr.alloc (.cells #[.int .i64 0, .bool false, .slice none 0 0, .slice none 0 0, .slice none 0 0, .string ⟨#[]⟩, .int .i64 0, .int .i64 0] 70)).cell? ⟨ga, j * 8 + 6, none⟩ = some (.int .i64 t.c) := (e1.cell (p := ⟨ga, j * 8 + 6, none⟩) hgaw).trans a6
      have xa7 : (wr.alloc (.cells #[.int .i64 0, .bool false, .slice none 0 0, .slice none 0 0, .slice none 0 0, .string ⟨#[]⟩, .int .i64 0, .int .i64 0] 70)).cell? ⟨ga, j * 8 + 7, none⟩ = some (.int .i64 (t.at_ : Int)) := (e1.cell (p := ⟨ga, j * 8 + 7, none⟩) hgaw).trans a7
      have xb0 : (wr.alloc (.cells #[.int .i64 0, .bool false, .slice none 0 0, .slice none 0 0, .slice none 0 0, .string ⟨#[]⟩, .int .i64 0, .int .i64 0] 70)).cell? ⟨gb, j * 8, none⟩ = some (.int .i64 t.kind) := (e1.cell (p := ⟨gb, j * 8, none⟩) hgbw).trans b0
      have xb1 : (wr.alloc (.cells #[.int .i64 0, .bool false, .slice none 0 0, .slice none 0 0, .slice none 0 0, .string ⟨#[]⟩, .int .i64 0, .int .i64 0] 70)).cell? ⟨gb, j * 8 + 1, none⟩ = some (.bool t.n.neg) := (e1.cell (p := ⟨gb, j * 8 + 1, none⟩) hgbw).trans b1
      have xb2 : (wr.alloc (.cells #[.int .i64 0, .bool false, .slice none 0 0, .slice none 0 0, .slice none 0 0, .string ⟨#[]⟩, .int .i64 0, .int .i64 0] 70)).cell? ⟨gb, j * 8 + 2, none⟩ = some (.slice B1 t.n.top.length Bc1) := (e1.cell (p := ⟨gb, j * 8 + 2, none⟩) hgbw).trans b2
      have xb3 : (wr.alloc (.cells #[.int .i64 0, .bool false, .slice none 0 0, .slice none 0 0, .slice none 0 0, .string ⟨#[]⟩, .int .i64 0, .int .i64 0] 70)).cell? ⟨gb, j * 8 + 3, none⟩ = some (.slice B2 t.n.bot.length Bc2) := (e1.cell (p := ⟨gb, j * 8 + 3, none⟩) hgbw).trans b3
      have xb4 : (wr.alloc (.cells #[.int .i64 0, .bool false, .slice none 0 0, .slice none 0 0, .slice none 0 0, .string ⟨#[]⟩, .int .i64 0, .int .i64 0] 70)).cell? ⟨gb, j * 8 + 4, none⟩ = some (.slice B3 t.l.length Bc3) := (e1.cell (p := ⟨gb, j * 8 + 4, none⟩) hgbw).trans b4
      have xb5 : (wr.alloc (.cells #[.int .i64 0, .bool false, .slice none 0 0, .slice none 0 0, .slice none 0 0, .string ⟨#[]⟩, .int .i64 0, .int .i64 0] 70)).cell? ⟨gb, j * 8 + 5, none⟩ = some (.string ⟨t.s.toArray⟩) := (e1.cell (p := ⟨gb, j * 8 + 5, none⟩) hgbw).trans b5
      have xb6 : (wr.alloc (.cells #[.int .i64 0, .bool false, .slice none 0 0, .slice none 0 0, .slice none 0 0, .string ⟨#[]⟩, .int .i64 0, .int .i64 0] 70)).cell? ⟨gb, j * 8 + 6, none⟩ = some (.int .i64 t.c) := (e1.cell (p := ⟨gb, j * 8 + 6, none⟩) hgbw).trans b6
      have xb7 : (wr.alloc (.cells #[.int .i64 0, .bool false, .slice none 0 0, .slice none 0 0, .slice none 0 0, .string ⟨#[]⟩, .int .i64 0, .int .i64 0] 70)).cell? ⟨gb, j * 8 + 7, none⟩ = some (.int .i64 (t.at_ : Int)) := (e1.cell (p := ⟨gb, j * 8 + 7, none⟩) hgbw).trans b7
      have ya0 : ((wr.alloc (.cells #[.int .i64 0, .bool false, .slice none 0 0, .slice none 0 0, .slice none 0 0, .string ⟨#[]⟩, .int .i64 0, .int .i64 0] 70)).alloc (.cells #[.int .i64 0, .bool false, .slice none 0 0, .slice none 0 0, .slice none 0 0, .string ⟨#[]⟩, .int .i64 0, .int .i64 0] 70)).cell? ⟨ga, j * 8, none⟩ = some (.int .i64 t.kind) := (e2.cell (p := ⟨ga, j * 8, none⟩) hgaw).trans a0
      have ya1 : ((wr.alloc (.cells #[.int .i64 0, .bool false, .slice none 0 0, .slice none 0 0, .slice none 0 0, .string ⟨#[]⟩, .int .i64 0, .int .i64 0] 70)).alloc (.cells #[.int .i64 0, .bool false, .slice none 0 0, .slice none 0 0, .slice none 0 0, .string ⟨#[]⟩, .int .i64 0, .int .i64 0] 70)).cell? ⟨ga, j * 8 + 1, none⟩ = some (.bool t.n.neg) := (e2.cell (p := ⟨ga, j * 8 + 1, none⟩) hgaw).trans a1
      have ya2 : ((wr.alloc (.cells #[.int .i64 0, .bool false, .slice none 0 0, .slice none 0 0, .slice none 0 0, .string ⟨#[]⟩, .int .i64 0, .int .i64 0] 70)).alloc (.cells #[.int .i64 0, .bool false, .slice none 0 0, .slice none 0 0, .slice none 0 0, .string ⟨#[]⟩, .int .i64 0, .int .i64 0] 70)).cell? ⟨ga, j * 8 + 2, none⟩ = some (.slice A1 t.n.top.length Ac1) := (e2.cell (p := ⟨ga, j * 8 + 2, none⟩) hgaw).trans a2
      have ya3 : ((wr.alloc (.cells #[.int .i64 0, .bool false, .slice none 0 0, .slice none 0 0, .slice none 0 0, .string ⟨#[]⟩, .int .i64 0, .int .i64 0] 70)).alloc (.cells #[.int .i64 0, .bool false, .slice none 0 0, .slice none 0 0, .slice none 0 0, .string ⟨#[]⟩, .int .i64 0, .int .i64 0] 70)).cell? ⟨ga, j * 8 + 3, none⟩ = some (.slice A2 t.n.bot.length Ac2) := (e2.cell (p := ⟨ga, j * 8 + 3, none⟩) hgaw).trans a3
      have ya4 : ((wr.alloc (.cells #[.int .i64 0, .bool false, .slice none 0 0, .slice none 0 0, .slice none 0 0, .string ⟨#[]⟩, .int .i64 0, .int .i64 0] 70)).alloc (.cells #[.int .i64 0, .bool false, .slice none 0 0, .slice none 0 0, .slice none 0 0, .string ⟨#[]⟩, .int .i64 0, .int .i64 0] 70)).cell? ⟨ga, j * 8 + 4, none⟩ = some (.slice A3 t.l.length Ac3) := (e2.cell (p := ⟨ga, j * 8 + 4, none⟩) hgaw).trans a4
      have ya5 : ((wr.alloc (.cells #[.int .i64 0, .bool false, .slice none 0 0, .slice none 0 0, .slice none 0 0, .string ⟨#[]⟩, .int .i64 0, .int .i64 0] 70)).alloc (.cells #[.int .i64 0, .bool false, .slice none 0 0, .slice none 0 0, .slice none 0 0, .string ⟨#[]⟩, .int .i64 0, .int .i64 0] 70)).cell? ⟨ga, j * 8 + 5, none⟩ = some (.string ⟨t.s.toArray⟩) := (e2.cell (p := ⟨ga, j * 8 + 5, none⟩) hgaw).trans a5
      have ya6 : ((wr.alloc (.cells #[.int .i64 0, .bool false, .slice none 0 0, .slice none 0 0, .slice none 0 0, .string ⟨#[]⟩, .int .i64 0, .int .i64 0] 70)).alloc (.cells #[.int .i64 0, .bool false, .slice none 0 0, .slice none 0 0, .slice none 0 0, .string ⟨#[]⟩, .int .i64 0, .int .i64 0] 70)).cell? ⟨ga, j * 8 + 6, none⟩ = some (.int .i64 t.c) := (e2.cell (p := ⟨ga, j * 8 + 6, none⟩) hgaw).trans a6
      have ya7 : ((wr.alloc (.cells #[.int .i64 0, .bool false, .slice none 0 0, .slice none 0 0, .slice none 0 0, .string ⟨#[]⟩, .int .i64 0, .int .i64 0] 70)).alloc (.cells #[.int .i64 0, .bool false, .slice none 0 0, .slice none 0 0, .slice none 0 0, .string ⟨#[]⟩, .int .i64 0, .int .i64 0] 70)).cell? ⟨ga, j * 8 + 7, none⟩ = some (.int .i64 (t.at_ : Int)) := (e2.cell (p := ⟨ga, j * 8 + 7, none⟩) hgaw).trans a7
      have yb0 : ((wr.alloc (.cells #[.int .i64 0, .bool false, .slice none 0 0, .slice none 0 0, .slice none 0 0, .string ⟨#[]⟩, .int .i64 0, .int .i64 0] 70)).alloc (.cells #[.int .i64 0, .bool false, .slice none 0 0, .slice none 0 0, .slice none 0 0, .string ⟨#[]⟩, .int .i64 0, .int .i64 0] 70)).cell? ⟨gb, j * 8, none⟩ = some (.int .i64 t.kind) := (e2.cell (p := ⟨gb, j * 8, none⟩) hgbw).trans b0
      have yb1 : ((wr.alloc (.cells #[.int .i64 0, .bool false, .slice none 0 0, .slice none 0 0, .slice none 0 0, .string ⟨#[]⟩, .int .i64 0, .int .i64 0] 70)).alloc (.cells #[.int .i64 0, .bool false, .slice none 0 0, .slice none 0 0, .slice none 0 0, .string ⟨#[]⟩, .int .i64 0, .int .i64 0] 70)).cell? ⟨gb, j * 8 + 1, none⟩ = some (.bool t.n.neg) := (e2.cell (p := ⟨gb, j * 8 + 1, none⟩) hgbw).trans b1
      have yb2 : ((wr.alloc (.cells #[.int .i64 0, .bool false, .slice none 0 0, .slice none 0 0, .slice none 0 0, .string ⟨#[]⟩, .int .i64 0, .int .i64 0] 70)).alloc (.cells #[.int .i64 0, .bool false, .slice none 0 0, .slice none 0 0, .slice none 0 0, .string ⟨#[]⟩, .int .i64 0, .int .i64 0] 70)).cell? ⟨gb, j * 8 + 2, none⟩ = some (.slice B1 t.n.top.length Bc1) := (e2.cell (p := ⟨gb, j * 8 + 2, none⟩) hgbw).trans b2
      have yb3 : ((wr.alloc (.cells #[.int .i64 0, .bool false, .slice none 0 0, .slice none 0 0, .slice none 0 0, .string ⟨#[]⟩, .int .i64 0, .int .i64 0] 70)).alloc (.cells #[.int .i64 0, .bool false, .slice none 0 0, .slice none 0 0, .slice none 0 0, .string ⟨#[]⟩, .int .i64 0, .int .i64 0] 70)).cell? ⟨gb, j * 8 + 3, none⟩ = some (.slice B2 t.n.bot.length Bc2) := (e2.cell (p := ⟨gb, j * 8 + 3, none⟩) hgbw).trans b3
      have yb4 : ((wr.alloc (.cells #[.int .i64 0, .bool false, .slice none 0 0, .slice none 0 0, .slice none 0 0, .string ⟨#[]⟩, .int .i64 0, .int .i64 0] 70)).alloc (.cells #[.int .i64 0, .bool false, .slice none 0 0, .slice none 0 0, .slice none 0 0, .string ⟨#[]⟩, .int .i64 0, .int .i64 0] 70)).cell? ⟨gb, j * 8 + 4, none⟩ = some (.slice B3 t.l.length Bc3) := (e2.cell (p := ⟨gb, j * 8 + 4, none⟩) hgbw).trans b4
      have yb5 : ((wr.alloc (.cells #[.int .i64 0, .bool false, .slice none 0 0, .slice none 0 0, .slice none 0 0, .string ⟨#[]⟩, .int .i64 0, .int .i64 0] 70)).alloc (.cells #[.int .i64 0, .bool false, .slice none 0 0, .slice none 0 0, .slice none 0 0, .string ⟨#[]⟩, .int .i64 0, .int .i64 0] 70)).cell? ⟨gb, j * 8 + 5, none⟩ = some (.string ⟨t.s.toArray⟩) := (e2.cell (p := ⟨gb, j * 8 + 5, none⟩) hgbw).trans b5
      have yb6 : ((wr.alloc (.cells #[.int .i64 0, .bool false, .slice none 0 0, .slice none 0 0, .slice none 0 0, .string ⟨#[]⟩, .int .i64 0, .int .i64 0] 70)).alloc (.cells #[.int .i64 0, .bool false, .slice none 0 0, .slice none 0 0, .slice none 0 0, .string ⟨#[]⟩, .int .i64 0, .int .i64 0] 70)).cell? ⟨gb, j * 8 + 6, none⟩ = some (.int .i64 t.c) := (e2.cell (p := ⟨gb, j * 8 + 6, none⟩) hgbw).trans b6
      have yb7 : ((wr.alloc (.cells #[.int .i64 0, .bool false, .slice none 0 0, .slice none 0 0, .slice none 0 0, .string ⟨#[]⟩, .int .i64 0, .int .i64 0] 70)).alloc (.cells #[.int .i64 0, .bool false, .slice none 0 0, .slice none 0 0, .slice none 0 0, .string ⟨#[]⟩, .int .i64 0, .int .i64 0] 70)).cell? ⟨gb, j * 8 + 7, none⟩ = some (.int .i64 (t.at_ : Int)) := (e2.cell (p := ⟨gb, j * 8 + 7, none⟩) hgbw).trans b7
      clear e1 e2
      clear HRA HRB i3 k3
      go_upto_region 6 with fail
      go_cut [6, 7] from 20 to 88 (fun x6 x7 wx => ∃ p q, x6 = .pointer (some ⟨p, 0, none⟩) ∧ x7 = .pointer (some ⟨q, 0, none⟩) ∧ Hid (Below wr.heap.size wr wx) ∧ Hid (wx.heap[p]? = some (.cells #[.int .i64 t.kind, .bool t.n.neg, .slice A1 t.n.top.length Ac1, .slice A2 t.n.bot.length Ac2, .slice A3 t.l.length Ac3, .string ⟨t.s.toArray⟩, .int .i64 t.c, .int .i64 (t.at_ : Int)] 70 (0, 0))) ∧ Hid (wx.heap[q]? = some (.cells #[.int .i64 t.kind, .bool t.n.neg, .slice B1 t.n.top.length Bc1, .slice B2 t.n.bot.length Bc2, .slice B3 t.l.length Bc3, .string ⟨t.s.toArray⟩, .int .i64 t.c, .int .i64 (t.at_ : Int)] 70 (0, 0))))
      case first =>
        go_region
        · go_wp2_with fail
          go_meet
          refine ⟨wr.heap.size, wr.heap.size + 1, rfl, rfl, Lib.hid ?_, Lib.hid ?_, Lib.hid ?_⟩
          · exact (((Below.refl _ _).alloc (Nat.le_refl _) _).alloc (by simp) _).drew
          · exact (Below.heap_alloc _ _ wr.heap.size (by simp)).trans (heap_alloc_new wr _)
          · have h := heap_alloc_new (wr.alloc (.cells #[.int .i64 t.kind, .bool t.n.neg, .slice A1 t.n.top.length Ac1, .slice A2 t.n.bot.length Ac2, .slice A3 t.l.length Ac3, .string ⟨t.s.toArray⟩, .int .i64 t.c, .int .i64 (t.at_ : Int)] 70)) (.cells #[.int .i64 t.kind, .bool t.n.neg, .slice B1 t.n.top.length Bc1, .slice B2 t.n.bot.length Bc2, .slice B3 t.l.length Bc3, .string ⟨t.s.toArray⟩, .int .i64 t.c, .int .i64 (t.at_ : Int)] 70)
            rw [show (wr.alloc (.cells #[.int .i64 t.kind, .bool t.n.neg, .slice A1 t.n.top.length Ac1, .slice A2 t.n.bot.length Ac2, .slice A3 t.l.length Ac3, .string ⟨t.s.toArray⟩, .int .i64 t.c, .int .i64 (t.at_ : Int)] 70)).heap.size = wr.heap.size + 1 by simp] at h
            exact h
        · go_wp2_with fail
          go_meet
          refine ⟨wr.heap.size + 1, wr.heap.size, rfl, rfl, Lib.hid ?_, Lib.hid ?_, Lib.hid ?_⟩
          · exact (((Below.refl _ _).alloc (Nat.le_refl _) _).alloc (by simp) _).drew
          · have h := heap_alloc_new (wr.alloc (.cells #[.int .i64 t.kind, .bool t.n.neg, .slice B1 t.n.top.length Bc1, .slice B2 t.n.bot.length Bc2, .slice B3 t.l.length Bc3, .string ⟨t.s.toArray⟩, .int .i64 t.c, .int .i64 (t.at_ : Int)] 70)) (.cells #[.int .i64 t.kind, .bool t.n.neg, .slice A1 t.n.top.length Ac1, .slice A2 t.n.bot.length Ac2, .slice A3 t.l.length Ac3, .string ⟨t.s.toArray⟩, .int .i64 t.c, .int .i64 (t.at_ : Int)] 70)
            rw [show (wr.alloc (.cells #[.int .i64 t.kind, .bool t.n.neg, .slice B1 t.n.top.length Bc1, .slice B2 t.n.bot.length Bc2, .slice B3 t.l.length Bc3, .string ⟨t.s.toArray⟩, .int .i64 t.c, .int .i64 (t.at_ : Int)] 70)).heap.size = wr.heap.size + 1 by simp] at h
            exact h
          · exact (Below.heap_alloc _ _ wr.heap.size (by simp)).trans (heap_alloc_new wr _)
      case rest =>
        obtain ⟨p, q, rfl, rfl, HBX, HPX, HQX⟩ := hcut
        clear a0 a1 a2 a3 a4 a5 a6 a7 b0 b1 b2 b3 b4 b5 b6 b7 xa0 xa1 xa2 xa3 xa4 xa5 xa6 xa7 xb0 xb1 xb2 xb3 xb4 xb5 xb6 xb7 ya0 ya1 ya2 ya3 ya4 ya5 ya6 ya7 yb0 yb1 yb2 yb3 yb4 yb5 yb6 yb7
        have HBW : Hid (Below w.heap.size w wc) := Lib.hid (HB.out.trans (HBX.out.mono HB.out.size))
        have NS := Lib.hid (numSame_any t.n t.n _ _ _ _ wc (I1.out.below_ HBW.out) (I2.out.below_ HBW.out) (K1.out.below_ HBW.out) (K2.out.below_ HBW.out))
        rw [decide_eq_true rfl] at NS
        have a0 : wc.cell? ⟨p, 0, none⟩ = some (.int .i64 t.kind) := (cell_of_row wc p 0 _ _ _ HPX.out).trans rfl
        have a1 : wc.cell? ⟨p, 1, none⟩ = some (.bool t.n.neg) := (cell_of_row wc p 1 _ _ _ HPX.out).trans rfl
        have a2 : wc.cell? ⟨p, 2, none⟩ = some (.slice A1 t.n.top.length Ac1) := (cell_of_row wc p 2 _ _ _ HPX.out).trans rfl
        have a3 : wc.cell? ⟨p, 3, none⟩ = some (.slice A2 t.n.bot.length Ac2) := (cell_of_row wc p 3 _ _ _ HPX.out).trans rfl
        have a4 : wc.cell? ⟨p, 4, none⟩ = some (.slice A3 t.l.length Ac3) := (cell_of_row wc p 4 _ _ _ HPX.out).trans rfl
        have a5 : wc.cell? ⟨p, 5, none⟩ = some (.string ⟨t.s.toArray⟩) := (cell_of_row wc p 5 _ _ _ HPX.out).trans rfl
        have a6 : wc.cell? ⟨p, 6, none⟩ = some (.int .i64 t.c) := (cell_of_row wc p 6 _ _ _ HPX.out).trans rfl
        have a7 : wc.cell? ⟨p, 7, none⟩ = some (.int .i64 (t.at_ : Int)) := (cell_of_row wc p 7 _ _ _ HPX.out).trans rfl
        have b0 : wc.cell? ⟨q, 0, none⟩ = some (.int .i64 t.kind) := (cell_of_row wc q 0 _ _ _ HQX.out).trans rfl
        have b1 : wc.cell? ⟨q, 1, none⟩ = some (.bool t.n.neg) := (cell_of_row wc q 1 _ _ _ HQX.out).trans rfl
        have b2 : wc.cell? ⟨q, 2, none⟩ = some (.slice B1 t.n.top.length Bc1) := (cell_of_row wc q 2 _ _ _ HQX.out).trans rfl
        have b3 : wc.cell? ⟨q, 3, none⟩ = some (.slice B2 t.n.bot.length Bc2) := (cell_of_row wc q 3 _ _ _ HQX.out).trans rfl
        have b4 : wc.cell? ⟨q, 4, none⟩ = some (.slice B3 t.l.length Bc3) := (cell_of_row wc q 4 _ _ _ HQX.out).trans rfl
        have b5 : wc.cell? ⟨q, 5, none⟩ = some (.string ⟨t.s.toArray⟩) := (cell_of_row wc q 5 _ _ _ HQX.out).trans rfl
        have b6 : wc.cell? ⟨q, 6, none⟩ = some (.int .i64 t.c) := (cell_of_row wc q 6 _ _ _ HQX.out).trans rfl
        have b7 : wc.cell? ⟨q, 7, none⟩ = some (.int .i64 (t.at_ : Int)) := (cell_of_row wc q 7 _ _ _ HQX.out).trans rfl
        have q1 : (t.kind != t.kind) = false := by simp
        have q2 : (t.c != t.c) = false := by simp
        have q3 : ((t.at_ : Int) != (t.at_ : Int)) = false := by simp
        have q4 : ((t.l.length : Int) != (t.l.length : Int)) = false := by simp
        go_wp2_with fail
        refine NS.out.mono ?_
        rintro e w5 ⟨rfl, hb5⟩
        have hp5 := (hb5.block p (blk_lt HPX.out)).trans HPX.out
        have hq5 := (hb5.block q (blk_lt HQX.out)).trans HQX.out
        have HP5 := Lib.hid hp5
        have HQ5 := Lib.hid hq5
        have HB5 : Hid (Below w.heap.size w w5) := Lib.hid (HBW.out.trans (hb5.mono HBW.out.size))
        clear a0 a1 a2 a3 a4 a5 a6 a7 b0 b1 b2 b3 b4 b5 b6 b7
        have a4 : w5.cell? ⟨p, 4, none⟩ = some (.slice A3 t.l.length Ac3) := (cell_of_row w5 p 4 _ _ _ hp5).trans rfl
        have b4 : w5.cell? ⟨q, 4, none⟩ = some (.slice B3 t.l.length Bc3) := (cell_of_row w5 q 4 _ _ _ hq5).trans rfl
        clear hp5 hq5 hb5
        go_wp2_with fail
        go_loopw [8] (fun iv wx => ∃ i : Nat, iv = .int .i64 (i : Int) ∧ i ≤ t.l.length ∧ Hid (Below w5.heap.size w5 wx)) (fun iv _ => t.l.length - (intOf iv).toNat)
        case atStart => exact ⟨0, by go_num, Nat.zero_le _, Lib.hid (Below.refl _ _)⟩
        case round =>
          clear a4 b4
          obtain ⟨i, rfl, hi, HB6⟩ := hrel
          have hp6 := (HB6.out.block p (blk_lt HP5.out)).trans HP5.out
          have hq6 := (HB6.out.block q (blk_lt HQ5.out)).trans HQ5.out
          have a4 : wr.cell? ⟨p, 4, none⟩ = some (.slice A3 t.l.length Ac3) := (cell_of_row _ p 4 _ _ _ hp6).trans rfl
          have b4 : wr.cell? ⟨q, 4, none⟩ = some (.slice B3 t.l.length Bc3) := (cell_of_row _ q 4 _ _ _ hq6).trans rfl
          clear hp6 hq6
          by_cases hil : i < t.l.length
          · obtain ⟨X, cx, ex, _, _, lx⟩ := IsCh.of_own I3.out
            injection ex with ex _ _
            subst ex
            obtain ⟨Y, cy, ey, _, _, ly⟩ := IsCh.of_own K3.out
            injection ey with ey _ _
            subst ey
            have hb56 : Below w.heap.size w wr := HB5.out.trans (HB6.out.mono HB5.out.size)
            obtain ⟨x1, y1, rfl, hx1, g1⟩ := lies_i64 (lx.below hb56) hil
            obtain ⟨x2, y2, rfl, hx2, g2⟩ := lies_i64 (ly.below hb56) hil
            obtain ⟨x, hx⟩ : ∃ x, x = t.l[i] := ⟨_, rfl⟩
            rw [← hx] at g1 g2
            have q5 : (x != x) = false := by simp
            clear hx lx ly hb56
            go_upto_region 12 with fail
            go_quiet (fail)
            go_wp2_with fail
            go_round
            case rel => exact ⟨i + 1, by go_num, hil, Lib.hid (HB6.out.trans ⟨rfl, rfl, rfl, Nat.le_refl _, fun _ _ => rfl⟩)⟩
            case measure => simp [intOf]; omega
          · have hme : i = t.l.length := by omega
            go_wp2_with fail
            go_round
            case rel => exact ⟨j + 1, by go_num, hlt, Lib.hid (HB5.out.trans (HB6.out.mono HB5.out.size))⟩
            case measure => simp [intOf]; omega
    · have hme : j = ts.length := by omega
      go_wp2_with fail
      go_ret
      exact ⟨rfl, HB.out⟩
end Go.Proofs.YtfiefglagknclaaGreatDoor
