/-
  Texts of this proof, joined (by wip/bin/bundle.py): RUnp2, Tree11.
-/
import Derived.Test.YtceplkpjnebnfaaGreatDoorM14
import Derived.IntWalk
/-
  The document's text of an expression: of one without parts; behind a function.
-/
namespace Go.Proofs.YtceplkpjnebnfaaGreatDoor
open Go.RowKit Tr
set_option maxHeartbeats 2000000
set_option maxRecDepth 100000
set_option linter.unusedVariables false

theorem wpQuiet_load_mid {P : Program} {ops : Array Oper} {C : World → Prop} {Q : Act → Prop} {o : Oper} {rest : List Oper} {a : Act} (hw : Region.wanted o (yielded ops a.tmps) = true) (ty : TypeId) (x : Operand) (ho : o.op = .load ty x)
    (b off : Nat) (hx : a.eval x = .pointer (some ⟨b, off, none⟩)) (cs : List Value) (d : TypeDesc) (hg : ∀ w, C w → w.rangeAt b off cs)
    (hu : P.underlying ty = some d) (hd : d.isRow = true) (hi : (P.info? ty).map (·.size) = some cs.length)
    (h : ∀ a', a' = a.put o.dst (.agg cs.toArray) → wpQuiet P ops C Q rest a') : wpQuiet P ops C Q (o :: rest) a := by
  replace h := h _ rfl
  rw [wpQuiet, if_pos hw]
  refine ⟨.agg cs.toArray, fun w hC => ?_, h⟩
  unfold Oper.quietAt execOp
  simp only [ho, hx, Instr.loadAt, Instr.sureAddr, Sem.run_bind, Sem.run_pure, Result.andThen_ok, run_loadVar_mid w b off ty cs d (hg w hC) hu hd hi]
  exact ⟨rfl, rfl⟩
theorem Later.str {w0 : World} {P : Program} {f : FuncId} {args : Array Value} {x : Later w0} {s : List UInt8} (h : Calls P f args x.w (StrOut x.w s)) : Calls P f args x.w fun e w'' => e = .returned (.string ⟨s.toArray⟩) ∧ ∃ y : Later w0, w'' = y.w := Later.call h
theorem refLeaf_any (k o : Int) (m : List UInt8) (nm : Rt.Nm) (tx : List Int) (T : List Tree) (vs : List Value) (w : World) (B : Nat) (hk : k = 1 ∨ k = 2 ∨ k = 3 ∨ k = 4 ∨ k = 5 ∨ k = 6 ∨ k = 7 ∨ k = 10 ∨ k = 17 ∨ k = 18 ∨ k = 19 ∨ k = 21) (ha : all (.mk k o m nm tx T) = true)
    (h : IsTree w B (.mk k o m nm tx T) vs) (hB : B ≤ w.heap.size) : Calls Tryz.prog 50 #[.agg vs.toArray] w (StrOut w (leafT k o m nm tx)) := by
  obtain ⟨W, hW⟩ : ∃ W, W = w.alloc (.cells vs.toArray 28) := ⟨_, rfl⟩
  have HAL := Lib.hid (all_held ha)
  obtain ⟨A1, A2, A3, A4, c1, c2, c3, c4, us, HO, HL, HC, hW8, HG, hWl, hWb⟩ := tree_box h hW
  obtain ⟨q0, q1, q2, q3, q4, q5, q6, q7⟩ := hW8
  simp only [Nat.zero_add] at q1 q2 q3 q4 q5 q6 q7
  have HOP := held_op HAL.out.1
  have HWB := Lib.hid hWb
  have HWS : Hid (w.heap.size ≤ W.heap.size) := Lib.hid (by omega)
  have HW := Lib.hid hW
  have CH := Lib.hid (fun wx c (hc : Gl.may c = true) => charText_any c wx hc)
  have PN : Hid (k = 1 → Calls Tryz.prog 78 #[.agg #[.bool nm.neg, .slice A1 nm.top.length c1, .slice A2 nm.bot.length c2]] W (StrOut W (Dg.print nm))) := Lib.hid (fun hk => by
    subst hk
    exact refPrint_any nm _ _ W (own_numR HO.out (held_num HAL.out.1) (fun p hp => hWb.cell (by omega)) (by omega)))
  have QU : Hid (k = 2 → Calls Tryz.prog 79 #[.slice A3 tx.length c3] W (StrOut W (Tr.quoted tx))) := Lib.hid (fun hk => by
    subst hk
    have ht := held_text HAL.out.1
    exact refQuoted_any tx A3 c3 W ((HO.out.l3.keep (fun p hp => hWb.cell (by omega))).more (by omega)) ht.2 (by have := ht.1; omega))
  have HQ1 : Hid (∀ x : Later W, x.w.cell? ⟨w.heap.size, 1, none⟩ = some (.int .i64 o)) := Lib.hid (fun x => (x.b.cell (p := ⟨w.heap.size, 1, none⟩) hWl).trans q1)
  clear h hW hWb HO HL HC HG ha
  rcases hk with rfl | rfl | rfl | rfl | rfl | rfl | rfl | rfl | rfl | rfl | rfl | rfl
  · have HD : Hid (leafT 1 o m nm tx = Dg.print nm) := Lib.hid rfl
    generalize leafT 1 o m nm tx = R at *
    have P1 := Lib.hid (PN.out rfl)
    clear HOP HAL
    go_enter Tryz.func50, Tryz.ntmps50
    go_upto_region 1 with fail
    rw [← HW.out]
    go_wp2_with fail
    refine P1.out.mono ?_
    rintro e w2 ⟨rfl, hb2⟩
    go_wp2_with fail
    go_ret
    exact ⟨ret_str (by rw [HD.out]), HWB.out.trans (hb2.mono HWS.out)⟩
  · have HD : Hid (leafT 2 o m nm tx = Tr.quoted tx) := Lib.hid rfl
    generalize leafT 2 o m nm tx = R at *
    have P1 := Lib.hid (QU.out rfl)
    clear HOP HAL
    go_enter Tryz.func50, Tryz.ntmps50
    go_upto_region 1 with fail
    rw [← HW.out]
    go_wp2_with fail
    refine P1.out.mono ?_
    rintro e w2 ⟨rfl, hb2⟩
    go_wp2_with fail
    go_ret
    exact ⟨ret_str (by rw [HD.out]), HWB.out.trans (hb2.mono HWS.out)⟩
  · have HD : Hid (leafT 3 o m nm tx = m) := Lib.hid rfl
    generalize leafT 3 o m nm tx = R at *
    clear HOP HAL
    go_enter Tryz.func50, Tryz.ntmps50
    go_upto_region 1 with fail
    rw [← HW.out]
    go_wp2_with fail
    go_ret
    exact ⟨ret_str (by rw [HD.out]; try rfl), HWB.out⟩
  · have HD : Hid (leafT 4 o m nm tx = alpha) := Lib.hid rfl
    generalize leafT 4 o m nm tx = R at *
    clear HOP HAL
    go_enter Tryz.func50, Tryz.ntmps50
    go_upto_region 1 with fail
    rw [← HW.out]
    go_wp2_with fail
    refine (CH.out W 9082 (by decide)).mono ?_
    rintro e w2 ⟨rfl, hb2⟩
    go_wp2_with fail
    go_ret
    exact ⟨ret_str (by rw [HD.out]; try rfl), HWB.out.trans (hb2.mono HWS.out)⟩
  · have HD : Hid (leafT 5 o m nm tx = omega_) := Lib.hid rfl
    generalize leafT 5 o m nm tx = R at *
    clear HOP HAL
    go_enter Tryz.func50, Tryz.ntmps50
    go_upto_region 1 with fail
    rw [← HW.out]
    go_wp2_with fail
    refine (CH.out W 9077 (by decide)).mono ?_
    rintro e w2 ⟨rfl, hb2⟩
    go_wp2_with fail
    go_ret
    exact ⟨ret_str (by rw [HD.out]; try rfl), HWB.out.trans (hb2.mono HWS.out)⟩
  · have HD : Hid (leafT 6 o m nm tx = quad ++ digitT o) := Lib.hid rfl
    generalize leafT 6 o m nm tx = R at *
    have hpo := HOP.2.2.2.1 (by simp)
    have hpp : 0 ≤ o ∧ o < 8 := by unfold port at hpo; simp at hpo; exact hpo
    obtain ⟨hp0, hp1⟩ := hpp
    have CHA : Hid (∀ x : Later W, Calls Tryz.prog 45 #[.int .i64 9109] x.w (StrOut x.w quad)) := Lib.hid (fun x => CH.out x.w 9109 (by decide))
    have CHB : Hid (∀ x : Later W, Calls Tryz.prog 45 #[.int .i64 (48 + o)] x.w (StrOut x.w (digitT o))) := Lib.hid (fun x => by
      have := CH.out x.w (48 + o) (Lx.port_may hpo)
      rwa [enc_small hpo] at this)
    have hdl : ¬ 9223372036854775807 < (quad).length + (digitT o).length := by show ¬ 9223372036854775807 < 3 + 1; decide
    have hwr : IntKind.i64.wrap (48 + o) = 48 + o := IntWalk.i64_in _ (by omega)
    have hq1 := HQ1.out
    generalize digitT o = D at *
    clear hpo HOP HAL CH PN QU q2 q3 q4 q5 q6 q7
    go_enter Tryz.func50, Tryz.ntmps50
    go_upto_region 1 with fail
    rw [← HW.out]
    go_wp2_with fail
    refine wp_region_later W (by kernel_rfl) (by kernel_rfl) (Below.drew_self W) ?_
    repeat (go_big_quiet_step (first | (go_at_call 45; with_reducible exact Later.str (CHA.out _)) | (go_at_call 45; with_reducible exact Later.str (CHB.out _))))
    refine wpQuiet_nil ?_
    rintro w4 ⟨⟨w4', hb4⟩, hw4⟩
    obtain rfl : w4 = w4' := hw4
    have HB4 := Lib.hid hb4
    clear hb4
    go_wp2_with fail
    go_ret
    exact ⟨ret_str (by rw [HD.out]; simp), HWB.out.trans (HB4.out.mono HWS.out)⟩
  · have HD : Hid (leafT 7 o m nm tx = quote_ ++ digitT o) := Lib.hid rfl
    generalize leafT 7 o m nm tx = R at *
    have hpo := HOP.2.2.2.1 (by simp)
    have hpp : 0 ≤ o ∧ o < 8 := by unfold port at hpo; simp at hpo; exact hpo
    obtain ⟨hp0, hp1⟩ := hpp
    have CHA : Hid (∀ x : Later W, Calls Tryz.prog 45 #[.int .i64 9054] x.w (StrOut x.w quote_)) := Lib.hid (fun x => CH.out x.w 9054 (by decide))
    have CHB : Hid (∀ x : Later W, Calls Tryz.prog 45 #[.int .i64 (48 + o)] x.w (StrOut x.w (digitT o))) := Lib.hid (fun x => by
      have := CH.out x.w (48 + o) (Lx.port_may hpo)
      rwa [enc_small hpo] at this)
    have hdl : ¬ 9223372036854775807 < (quote_).length + (digitT o).length := by show ¬ 9223372036854775807 < 3 + 1; decide
    have hwr : IntKind.i64.wrap (48 + o) = 48 + o := IntWalk.i64_in _ (by omega)
    have hq1 := HQ1.out
    generalize digitT o = D at *
    clear hpo HOP HAL CH PN QU q2 q3 q4 q5 q6 q7
    go_enter Tryz.func50, Tryz.ntmps50
    go_upto_region 1 with fail
    rw [← HW.out]
    go_wp2_with fail
    refine wp_region_later W (by kernel_rfl) (by kernel_rfl) (Below.drew_self W) ?_
    repeat (go_big_quiet_step (first | (go_at_call 45; with_reducible exact Later.str (CHA.out _)) | (go_at_call 45; with_reducible exact Later.str (CHB.out _))))
    refine wpQuiet_nil ?_
    rintro w4 ⟨⟨w4', hb4⟩, hw4⟩
    obtain rfl : w4 = w4' := hw4
    have HB4 := Lib.hid hb4
    clear hb4
    go_wp2_with fail
    go_ret
    exact ⟨ret_str (by rw [HD.out]; simp), HWB.out.trans (HB4.out.mono HWS.out)⟩
  · have HD : Hid (leafT 10 o m nm tx = m) := Lib.hid rfl
    generalize leafT 10 o m nm tx = R at *
    clear HOP HAL
    go_enter Tryz.func50, Tryz.ntmps50
    go_upto_region 1 with fail
    rw [← HW.out]
    go_wp2_with fail
    go_ret
    exact ⟨ret_str (by rw [HD.out]; try rfl), HWB.out⟩
  · have HD : Hid (leafT 17 o m nm tx = Tk.enc1 o) := Lib.hid rfl
    generalize leafT 17 o m nm tx = R at *
    have hmay := glyph_may (HOP.2.2.1 rfl)
    obtain ⟨ho0, ho1⟩ := may_bounds hmay
    replace hmay := Lib.hid hmay
    clear HOP HAL
    go_enter Tryz.func50, Tryz.ntmps50
    go_upto_region 1 with fail
    rw [← HW.out]
    go_wp2_with fail
    refine (CH.out W o hmay.out).mono ?_
    rintro e w2 ⟨rfl, hb2⟩
    go_wp2_with fail
    go_ret
    exact ⟨ret_str (by rw [HD.out]), HWB.out.trans (hb2.mono HWS.out)⟩
  · have HD : Hid (leafT 18 o m nm tx = m) := Lib.hid rfl
    generalize leafT 18 o m nm tx = R at *
    clear HOP HAL
    go_enter Tryz.func50, Tryz.ntmps50
    go_upto_region 1 with fail
    rw [← HW.out]
    go_wp2_with fail
    go_ret
    exact ⟨ret_str (by rw [HD.out]; try rfl), HWB.out⟩
  · have HD : Hid (leafT 19 o m nm tx = del) := Lib.hid rfl
    generalize leafT 19 o m nm tx = R at *
    clear HOP HAL
    go_enter Tryz.func50, Tryz.ntmps50
    go_upto_region 1 with fail
    rw [← HW.out]
    go_wp2_with fail
    refine (CH.out W 8711 (by decide)).mono ?_
    rintro e w2 ⟨rfl, hb2⟩
    go_wp2_with fail
    go_ret
    exact ⟨ret_str (by rw [HD.out]; try rfl), HWB.out.trans (hb2.mono HWS.out)⟩
  · have ho := HOP.2.2.2.2 rfl
    have HD0 : Hid (leafT 21 o m nm tx = quad ++ (if o = 1 then [85, 80] else [68, 67])) := Lib.hid rfl
    generalize leafT 21 o m nm tx = R at *
    clear HOP HAL
    rcases ho with rfl | rfl
    · have HD : Hid (R = quad ++ [68, 67]) := HD0
      clear HD0
      go_enter Tryz.func50, Tryz.ntmps50
      go_upto_region 1 with fail
      rw [← HW.out]
      go_wp2_with fail
      refine (CH.out W 9109 (by decide)).mono ?_
      rintro e w2 ⟨rfl, hb2⟩
      go_wp2_with fail
      go_ret
      exact ⟨ret_str (by rw [HD.out]; rfl), HWB.out.trans (hb2.mono HWS.out)⟩
    · have HD : Hid (R = quad ++ [85, 80]) := HD0
      clear HD0
      go_enter Tryz.func50, Tryz.ntmps50
      go_upto_region 1 with fail
      rw [← HW.out]
      go_wp2_with fail
      refine (CH.out W 9109 (by decide)).mono ?_
      rintro e w2 ⟨rfl, hb2⟩
      go_wp2_with fail
      go_ret
      exact ⟨ret_str (by rw [HD.out]; rfl), HWB.out.trans (hb2.mono HWS.out)⟩
theorem refBehind_any (n : Nat) (hS : StOk 23 shw n) : StOk 48 (fun a => Tr.behind (kd a)) n := by
  intro a vs w B hn ha h hB hM
  dsimp only at hM ⊢
  obtain ⟨W, hW⟩ : ∃ W, W = w.alloc (.cells vs.toArray 28) := ⟨_, rfl⟩
  have hIA := tree_infoA h
  obtain ⟨k, o, m, nm, t, T⟩ := a
  have HD : Hid (Tr.behind (kd (.mk k o m nm t T)) = if (k == 11) && (nth (kds T) 0).first then inner (shw (.mk k o m nm t T)) else shw (.mk k o m nm t T)) := Lib.hid (by unfold Tr.behind; rw [wrap_mk]; rfl)
  have hle : (shw (.mk k o m nm t T)).length ≤ 140737488355000 := by
    rw [HD.out] at hM
    split at hM
    · rw [inner_len] at hM; omega
    · exact hM
  have HAL := Lib.hid (all_held ha)
  obtain ⟨A1, A2, A3, A4, c1, c2, c3, c4, us, HO, HL, HC, hW8, HG, hWl, hWb⟩ := tree_box h hW
  obtain ⟨q0, q1, q2, q3, q4, q5, q6, q7⟩ := hW8
  simp only [Nat.zero_add] at q7
  have SH := Lib.hid (fun wx (hx : Below W.heap.size W wx) => hS _ vs wx B hn ha (h.below ((hWb.trans (hx.mono (by omega))).mono hB)) (by have := hx.size; omega) hle)
  have HRW : Hid (∀ wx, Below W.heap.size W wx → wx.heap[w.heap.size]? = some (.cells vs.toArray 28 (0, 0))) := Lib.hid (fun wx hx => (hx.block _ hWl).trans HG.out)
  have HWB := Lib.hid hWb
  have HWS : Hid (w.heap.size ≤ W.heap.size) := Lib.hid (by omega)
  have HW := Lib.hid hW
  have HIA := Lib.hid hIA
  generalize Tr.behind (kd (.mk k o m nm t T)) = R at *
  by_cases k11 : k = 11
  · subst k11
    have hlen := (made_len HAL.out.2.1).2.1 (.inl rfl)
    have h0 : 0 < T.length := by omega
    have HFI : Hid ((nth (kds T) 0).first = (kd T[0]).first) := Lib.hid (by rw [nth_kds h0])
    rw [HFI.out] at HD
    have hq0 : (0 : Int) < (T.length : Int) := by omega
    obtain ⟨b', off, tv, rfl, hbb, HTR, HR⟩ := tree_row HC.out HL.out (fun p hp => hWb.cell (by omega)) h0
    have HTI := Lib.hid (tree_info HTR.out)
    have HBI := Lib.hid (refHead_any _ T[0] tv W B (Nat.lt_succ_self _) (alls_at HAL.out.2.2 h0) (HTR.out.keep (fun p hp => hWb.cell (by omega)) (Nat.le_refl _)) (by omega))
    generalize shw (.mk 11 o m nm t T) = Z at *
    clear HAL h hW hS hIA ha hn hWb HTR HFI q1 q2 q3 q4 q5 q6 HO HL HC HG
    cases hf : (kd T[0]).first
    · rw [hf] at HD HBI
      replace HD : Hid (R = Z) := HD
      clear hf
      go_enter Tryz.func48, Tryz.ntmps48
      go_upto_region 1 with fail
      rw [← HW.out]
      go_wp2_with (refine load_midG rfl 28 (.tmp 9) rfl b' off rfl tv _ (by have := HR.out; simpa using this) Tryz.underlying28 rfl HTI.out ?_)
      refine HBI.out.mono ?_
      rintro e w2 ⟨rfl, hb2⟩
      have HB2 := Lib.hid hb2
      clear hb2
      go_wp2_with (with_reducible refine wpList_load_row rfl 28 (.tmp 1) rfl w.heap.size rfl 28 vs.toArray (0, 0) _ (HRW.out _ HB2.out) Tryz.underlying28 rfl HIA.out ?_)
      refine (SH.out w2 HB2.out).mono ?_
      rintro e w3 ⟨rfl, hb3⟩
      have HB3 := Lib.hid hb3
      clear hb3
      go_wp2_with fail
      go_ret
      exact ⟨ret_str (by rw [HD.out]), HWB.out.trans ((HB2.out.trans (HB3.out.mono HB2.out.size)).mono HWS.out)⟩
    · rw [hf] at HD HBI
      replace HD : Hid (R = inner Z) := HD
      rw [HD.out, inner_len] at hM
      clear hf
      go_enter Tryz.func48, Tryz.ntmps48
      go_upto_region 1 with fail
      rw [← HW.out]
      go_wp2_with (refine load_midG rfl 28 (.tmp 9) rfl b' off rfl tv _ (by have := HR.out; simpa using this) Tryz.underlying28 rfl HTI.out ?_)
      refine HBI.out.mono ?_
      rintro e w2 ⟨rfl, hb2⟩
      have HB2 := Lib.hid hb2
      clear hb2
      go_wp2_with (with_reducible refine wpList_load_row rfl 28 (.tmp 1) rfl w.heap.size rfl 28 vs.toArray (0, 0) _ (HRW.out _ HB2.out) Tryz.underlying28 rfl HIA.out ?_)
      refine (SH.out w2 HB2.out).mono ?_
      rintro e w3 ⟨rfl, hb3⟩
      have HB3 := Lib.hid hb3
      clear hb3
      go_wp2_with fail
      go_ret
      exact ⟨ret_str (by rw [HD.out]; simp [inner]), HWB.out.trans ((HB2.out.trans (HB3.out.mono HB2.out.size)).mono HWS.out)⟩
  · have e11 : (k == 11) = false := by simpa using k11
    rw [e11] at HD
    replace HD : Hid (R = shw (.mk k o m nm t T)) := HD
    generalize shw (.mk k o m nm t T) = Z at *
    clear HAL h hW hS hIA ha hn hWb q1 q2 q3 q4 q5 q6 HO HL HC HG k11
    have HB1 := Lib.hid (Below.refl W.heap.size W)
    go_enter Tryz.func48, Tryz.ntmps48
    go_upto_region 1 with fail
    rw [← HW.out]
    go_wp2_with (with_reducible refine wpList_load_row rfl 28 (.tmp 1) rfl w.heap.size rfl 28 vs.toArray (0, 0) _ (HRW.out _ HB1.out) Tryz.underlying28 rfl HIA.out ?_)
    refine (SH.out W HB1.out).mono ?_
    rintro e w3 ⟨rfl, hb3⟩
    have HB3 := Lib.hid hb3
    clear hb3
    go_wp2_with fail
    go_ret
    exact ⟨ret_str (by rw [HD.out]), HWB.out.trans ((HB1.out.trans (HB3.out.mono HB1.out.size)).mono HWS.out)⟩
end Go.Proofs.YtceplkpjnebnfaaGreatDoor

/-
  The document's look at an expression, but for its parts. (Printed by wip/bin/gen_tree11.py.)
-/
namespace Go.Proofs.YtceplkpjnebnfaaGreatDoor
open Go.RowKit Tr
set_option maxHeartbeats 80000000
set_option maxRecDepth 100000
set_option linter.unusedVariables false

theorem one21_any (a : Tree) (vs : List Value) (w : World) (B : Nat) (h : IsTree w B a vs) (hB : B ≤ w.heap.size) :
    Calls Tryz.prog 56 #[.agg vs.toArray] w (BoolOut w (oneR (kind a) (op a) (name a) (num a) (text a) ((kids a).map kind))) := by
  have hal := tree_infoA h
  have Kaa10 := kids21_any a vs [97, 97] true
  have Kax10 := kids21_any a vs [97, 120] true
  have Kfa00 := kids21_any a vs [102, 97] false
  have Kafa00 := kids21_any a vs [97, 102, 97] false
  have Ka00 := kids21_any a vs [97] false
  have Kp00 := kids21_any a vs [112] false
  have Kaa00 := kids21_any a vs [97, 97] false
  have Kf00 := kids21_any a vs [102] false
  have S10 := statements21_any a vs true
  have S00 := statements21_any a vs false
  have OP0 := operators21_any a vs
  have LF0 := leaf21_any a vs
  have FD0 := fields21_any a vs
  have h' := h
  obtain ⟨k, o, m, nm, t, l⟩ := a
  show Calls _ _ _ _ (BoolOut w (oneR k o m nm t (l.map kind)))
  obtain ⟨W0, hW⟩ : ∃ W, W = w.alloc (.cells vs.toArray 28) := ⟨_, rfl⟩
  obtain ⟨A1, A2, A3, A4, c1, c2, c3, c4, us, HO, HL, HC, hW8, HG, hWl, hWb⟩ := tree_box h hW
  have hf3 := HO.out.f3.le (by omega)
  have hf4 := HO.out.f4.le (by omega)
  have hms := HO.out.ms
  have hfi : fields o m nm t ≤ 15 ∧ 0 ≤ fields o m nm t := by
    unfold fields
    constructor <;> split <;> split <;> split <;> split <;> omega
  have HW := Lib.hid hW
  have HIA := Lib.hid hal
  have hkb : ∀ wx, Below W0.heap.size W0 wx → IsTree wx B (.mk k o m nm t l) vs ∧ B ≤ wx.heap.size := fun wx hx => ⟨h'.below ((hWb.trans (hx.mono (by omega))).mono hB), by have := hx.size; omega⟩
  have FD := Lib.hid (FD0 W0 B (hkb W0 (Below.refl _ _)).1 (hkb W0 (Below.refl _ _)).2)
  replace FD : Hid (Calls Tryz.prog 90 #[.agg vs.toArray] W0 (IntOut W0 (fields o m nm t))) := FD
  have HGB : Hid (∀ wx, Below W0.heap.size W0 wx → wx.heap[w.heap.size]? = some (.cells vs.toArray 28 (0, 0))) := Lib.hid (fun wx hx => (hx.block _ hWl).trans HG.out)
  have H8 : Hid (∀ wx, Below W0.heap.size W0 wx → At8 wx w.heap.size 0 k o m nm t l.length A1 A2 A3 A4 c1 c2 c3 c4) := Lib.hid (fun wx hx => hW8.keep (fun q => hx.cell (p := ⟨w.heap.size, q, none⟩) hWl))
  have HWB := Lib.hid hWb
  have HWS : Hid (w.heap.size ≤ W0.heap.size) := Lib.hid (by omega)
  have Kaa1 : Hid (∀ wx, Below W0.heap.size W0 wx → Calls Tryz.prog 91 #[.agg vs.toArray, .string ⟨#[97, 97]⟩, .bool true] wx (BoolOut wx (kidsR (l.map kind) [97, 97] true))) := Lib.hid (fun wx hx => Kaa10 wx B (hkb wx hx).1 (hkb wx hx).2 (by decide) (by decide) (by decide))
  have Kax1 : Hid (∀ wx, Below W0.heap.size W0 wx → Calls Tryz.prog 91 #[.agg vs.toArray, .string ⟨#[97, 120]⟩, .bool true] wx (BoolOut wx (kidsR (l.map kind) [97, 120] true))) := Lib.hid (fun wx hx => Kax10 wx B (hkb wx hx).1 (hkb wx hx).2 (by decide) (by decide) (by decide))
  have Kfa0 : Hid (∀ wx, Below W0.heap.size W0 wx → Calls Tryz.prog 91 #[.agg vs.toArray, .string ⟨#[102, 97]⟩, .bool false] wx (BoolOut wx (kidsR (l.map kind) [102, 97] false))) := Lib.hid (fun wx hx => Kfa00 wx B (hkb wx hx).1 (hkb wx hx).2 (by decide) (by decide) (by decide))
  have Kafa0 : Hid (∀ wx, Below W0.heap.size W0 wx → Calls Tryz.prog 91 #[.agg vs.toArray, .string ⟨#[97, 102, 97]⟩, .bool false] wx (BoolOut wx (kidsR (l.map kind) [97, 102, 97] false))) := Lib.hid (fun wx hx => Kafa00 wx B (hkb wx hx).1 (hkb wx hx).2 (by decide) (by decide) (by decide))
  have Ka0 : Hid (∀ wx, Below W0.heap.size W0 wx → Calls Tryz.prog 91 #[.agg vs.toArray, .string ⟨#[97]⟩, .bool false] wx (BoolOut wx (kidsR (l.map kind) [97] false))) := Lib.hid (fun wx hx => Ka00 wx B (hkb wx hx).1 (hkb wx hx).2 (by decide) (by decide) (by decide))
  have Kp0 : Hid (∀ wx, Below W0.heap.size W0 wx → Calls Tryz.prog 91 #[.agg vs.toArray, .string ⟨#[112]⟩, .bool false] wx (BoolOut wx (kidsR (l.map kind) [112] false))) := Lib.hid (fun wx hx => Kp00 wx B (hkb wx hx).1 (hkb wx hx).2 (by decide) (by decide) (by decide))
  have Kaa0 : Hid (∀ wx, Below W0.heap.size W0 wx → Calls Tryz.prog 91 #[.agg vs.toArray, .string ⟨#[97, 97]⟩, .bool false] wx (BoolOut wx (kidsR (l.map kind) [97, 97] false))) := Lib.hid (fun wx hx => Kaa00 wx B (hkb wx hx).1 (hkb wx hx).2 (by decide) (by decide) (by decide))
  have Kf0 : Hid (∀ wx, Below W0.heap.size W0 wx → Calls Tryz.prog 91 #[.agg vs.toArray, .string ⟨#[102]⟩, .bool false] wx (BoolOut wx (kidsR (l.map kind) [102] false))) := Lib.hid (fun wx hx => Kf00 wx B (hkb wx hx).1 (hkb wx hx).2 (by decide) (by decide) (by decide))
  have S1 : Hid (∀ wx, Below W0.heap.size W0 wx → Calls Tryz.prog 94 #[.agg vs.toArray, .bool true] wx (BoolOut wx (statements (l.map kind) true))) := Lib.hid (fun wx hx => S10 wx B (hkb wx hx).1 (hkb wx hx).2)
  have S0 : Hid (∀ wx, Below W0.heap.size W0 wx → Calls Tryz.prog 94 #[.agg vs.toArray, .bool false] wx (BoolOut wx (statements (l.map kind) false))) := Lib.hid (fun wx hx => S00 wx B (hkb wx hx).1 (hkb wx hx).2)
  have OP : Hid (∀ wx, Below W0.heap.size W0 wx → Calls Tryz.prog 95 #[.agg vs.toArray] wx (BoolOut wx (operators k o (fields o m nm t) (l.map kind)))) := Lib.hid (fun wx hx => OP0 wx B (hkb wx hx).1 (hkb wx hx).2)
  have LF : Hid (∀ wx, Below W0.heap.size W0 wx → Calls Tryz.prog 96 #[.agg vs.toArray] wx (BoolOut wx (leafR k o m nm t (l.map kind)))) := Lib.hid (fun wx hx => LF0 wx B (hkb wx hx).1 (hkb wx hx).2)
  have NMf := Lib.hid (fun wx => name21_any m false wx hms)
  have NMt := Lib.hid (fun wx => name21_any m true wx hms)
  have PT := Lib.hid (fun wx => port21_any o wx)
  generalize hf : fields o m nm t = f at *
  generalize h_kaa1 : kidsR (l.map kind) [97, 97] true = kaa1 at *
  generalize h_kax1 : kidsR (l.map kind) [97, 120] true = kax1 at *
  generalize h_kfa0 : kidsR (l.map kind) [102, 97] false = kfa0 at *
  generalize h_kafa0 : kidsR (l.map kind) [97, 102, 97] false = kafa0 at *
  generalize h_ka0 : kidsR (l.map kind) [97] false = ka0 at *
  generalize h_kp0 : kidsR (l.map kind) [112] false = kp0 at *
  generalize h_kaa0 : kidsR (l.map kind) [97, 97] false = kaa0 at *
  generalize h_kf0 : kidsR (l.map kind) [102] false = kf0 at *
  generalize h_s1 : statements (l.map kind) true = s1 at *
  generalize h_s0 : statements (l.map kind) false = s0 at *
  generalize h_lf : leafR k o m nm t (l.map kind) = lf at *
  generalize h_nf : named m false = nf at *
  generalize h_nt : named m true = nt at *
  generalize h_pt : port o = pt at *
  generalize h_ops : operators k o f (l.map kind) = ops at *
  obtain ⟨R, hR⟩ : ∃ R, R = oneR k o m nm t (l.map kind) := ⟨_, rfl⟩
  rw [← hR]
  have HDEF : Hid (R = (if k = 8 then (f == 0) && kaa1
    else if k = 9 then (f == 0) && kax1
    else if k = 11 then (f == 0) && kfa0
    else if k = 12 then (f == 0) && kafa0
    else if k = 13 then (f == 2) && nf && ka0
    else if k = 14 then (f == 2) && nf && kax1
    else if k = 15 then (f == 2) && nf && kfa0
    else if k = 16 then ((f == 0) || (f == 1)) && pt && ka0
    else if k = 20 then (f == 0) && s1
    else if k = 22 ∨ k = 23 then ops
    else if k = 24 then (f == 0) && kp0
    else if k = 25 ∨ k = 26 then (f == 0) && kaa0
    else if k = 27 then (f == 2) && nt && kf0
    else if k = 28 then (f == 0) && s0
    else lf)) := Lib.hid (by rw [hR, oneR, hf, h_kaa1, h_kax1, h_kfa0, h_kafa0, h_ka0, h_kp0, h_kaa0, h_kf0, h_s1, h_s0, h_lf, h_nf, h_nt, h_pt, h_ops])
  clear hR hf h_kaa1 h_kax1 h_kfa0 h_kafa0 h_ka0 h_kp0 h_kaa0 h_kf0 h_s1 h_s0 h_lf h_nf h_nt h_pt h_ops hW hW8 HO HG hWb h h' hal FD0 hkb HC HL Kaa10 Kax10 Kfa00 Kafa00 Ka00 Kp00 Kaa00 Kf00 S10 S00 OP0 LF0
  obtain ⟨g, hg⟩ : ∃ g, g = w.heap.size := ⟨_, rfl⟩
  rw [← hg] at HGB H8 HWB HWS hWl
  have HGG := Lib.hid hg
  go_enter Tryz.func56, Tryz.ntmps56
  go_upto_region 1 with fail
  rw [← HW.out]
  rw [← hg]
  clear hg
  go_wp2_with (with_reducible refine wpList_load_row rfl 28 (.tmp 1) rfl g rfl 28 vs.toArray (0, 0) _ (HGB.out _ (Below.refl _ _)) Tryz.underlying28 rfl HIA.out ?_)
  refine FD.out.mono ?_
  rintro e w2 ⟨rfl, hb2⟩
  have q0 := (H8.out w2 hb2).p0
  have q1 := (H8.out w2 hb2).p1
  have q2 := (H8.out w2 hb2).p2
  have q3 := (H8.out w2 hb2).p3
  have q4 := (H8.out w2 hb2).p4
  have q5 := (H8.out w2 hb2).p5
  have q6 := (H8.out w2 hb2).p6
  have q7 := (H8.out w2 hb2).p7
  go_upto_region 2 with fail
  by_cases k8 : k = 8
  · subst k8
    have HOP : Hid (R = ((f == 0) && kaa1)) := Lib.hid HDEF.out
    clear HDEF
    cases qf : (f == 0)
    · have HZ : Hid (R = false) := Lib.hid (by rw [HOP.out] <;> simp [qf])
      go_wp2_with (first | (refine tload_rowG rfl 28 (.tmp 1) rfl g rfl 28 vs.toArray (0, 0) _ (HGB.out _ hb2) Tryz.underlying28 rfl HIA.out ?_) | (with_reducible refine wpList_load_row rfl 28 (.tmp 1) rfl g rfl 28 vs.toArray (0, 0) _ (HGB.out _ hb2) Tryz.underlying28 rfl HIA.out ?_))
      go_ret
      exact ⟨ret_bool (by rw [HZ.out]), by rw [← HGG.out]; exact HWB.out.trans (hb2.mono HWS.out)⟩
    · cases kaa1
      · have HZ : Hid (R = false) := Lib.hid (by rw [HOP.out] <;> simp [qf])
        go_wp2_with (first | (refine tload_rowG rfl 28 (.tmp 1) rfl g rfl 28 vs.toArray (0, 0) _ (HGB.out _ hb2) Tryz.underlying28 rfl HIA.out ?_) | (with_reducible refine wpList_load_row rfl 28 (.tmp 1) rfl g rfl 28 vs.toArray (0, 0) _ (HGB.out _ hb2) Tryz.underlying28 rfl HIA.out ?_))
        refine (Kaa1.out w2 hb2).mono ?_
        rintro e w3 ⟨rfl, hb3'⟩
        have hb3 := hb2.trans (hb3'.mono hb2.size)
        have r0 := (H8.out w3 hb3).p0
        have r1 := (H8.out w3 hb3).p1
        have r2 := (H8.out w3 hb3).p2
        have r3 := (H8.out w3 hb3).p3
        have r4 := (H8.out w3 hb3).p4
        have r5 := (H8.out w3 hb3).p5
        have r6 := (H8.out w3 hb3).p6
        have r7 := (H8.out w3 hb3).p7
        clear q0 q1 q2 q3 q4 q5 q6 q7
        have q0 := r0
        have q1 := r1
        have q2 := r2
        have q3 := r3
        have q4 := r4
        have q5 := r5
        have q6 := r6
        have q7 := r7
        clear r0 r1 r2 r3 r4 r5 r6 r7
        go_wp2_with (first | (refine tload_rowG rfl 28 (.tmp 1) rfl g rfl 28 vs.toArray (0, 0) _ (HGB.out _ hb3) Tryz.underlying28 rfl HIA.out ?_) | (with_reducible refine wpList_load_row rfl 28 (.tmp 1) rfl g rfl 28 vs.toArray (0, 0) _ (HGB.out _ hb3) Tryz.underlying28 rfl HIA.out ?_))
        go_ret
        exact ⟨ret_bool (by rw [HZ.out]), by rw [← HGG.out]; exact HWB.out.trans (hb3.mono HWS.out)⟩
      · have HZ : Hid (R = true) := Lib.hid (by rw [HOP.out] <;> simp [qf])
        go_wp2_with (first | (refine tload_rowG rfl 28 (.tmp 1) rfl g rfl 28 vs.toArray (0, 0) _ (HGB.out _ hb2) Tryz.underlying28 rfl HIA.out ?_) | (with_reducible refine wpList_load_row rfl 28 (.tmp 1) rfl g rfl 28 vs.toArray (0, 0) _ (HGB.out _ hb2) Tryz.underlying28 rfl HIA.out ?_))
        refine (Kaa1.out w2 hb2).mono ?_
        rintro e w3 ⟨rfl, hb3'⟩
        have hb3 := hb2.trans (hb3'.mono hb2.size)
        have r0 := (H8.out w3 hb3).p0
        have r1 := (H8.out w3 hb3).p1
        have r2 := (H8.out w3 hb3).p2
        have r3 := (H8.out w3 hb3).p3
        have r4 := (H8.out w3 hb3).p4
        have r5 := (H8.out w3 hb3).p5
        have r6 := (H8.out w3 hb3).p6
        have r7 := (H8.out w3 hb3).p7
        clear q0 q1 q2 q3 q4 q5 q6 q7
        have q0 := r0
        have q1 := r1
        have q2 := r2
        have q3 := r3
        have q4 := r4
        have q5 := r5
        have q6 := r6
        have q7 := r7
        clear r0 r1 r2 r3 r4 r5 r6 r7
        go_wp2_with (first | (refine tload_rowG rfl 28 (.tmp 1) rfl g rfl 28 vs.toArray (0, 0) _ (HGB.out _ hb3) Tryz.underlying28 rfl HIA.out ?_) | (with_reducible refine wpList_load_row rfl 28 (.tmp 1) rfl g rfl 28 vs.toArray (0, 0) _ (HGB.out _ hb3) Tryz.underlying28 rfl HIA.out ?_))
        go_ret
        exact ⟨ret_bool (by rw [HZ.out]), by rw [← HGG.out]; exact HWB.out.trans (hb3.mono HWS.out)⟩
  by_cases k9 : k = 9
  · subst k9
    have HOP : Hid (R = ((f == 0) && kax1)) := Lib.hid HDEF.out
    clear HDEF
    cases qf : (f == 0)
    · have HZ : Hid (R = false) := Lib.hid (by rw [HOP.out] <;> simp [qf])
      go_wp2_with (first | (refine tload_rowG rfl 28 (.tmp 1) rfl g rfl 28 vs.toArray (0, 0) _ (HGB.out _ hb2) Tryz.underlying28 rfl HIA.out ?_) | (with_reducible refine wpList_load_row rfl 28 (.tmp 1) rfl g rfl 28 vs.toArray (0, 0) _ (HGB.out _ hb2) Tryz.underlying28 rfl HIA.out ?_))
      go_ret
      exact ⟨ret_bool (by rw [HZ.out]), by rw [← HGG.out]; exact HWB.out.trans (hb2.mono HWS.out)⟩
    · cases kax1
      · have HZ : Hid (R = false) := Lib.hid (by rw [HOP.out] <;> simp [qf])
        go_wp2_with (first | (refine tload_rowG rfl 28 (.tmp 1) rfl g rfl 28 vs.toArray (0, 0) _ (HGB.out _ hb2) Tryz.underlying28 rfl HIA.out ?_) | (with_reducible refine wpList_load_row rfl 28 (.tmp 1) rfl g rfl 28 vs.toArray (0, 0) _ (HGB.out _ hb2) Tryz.underlying28 rfl HIA.out ?_))
        refine (Kax1.out w2 hb2).mono ?_
        rintro e w3 ⟨rfl, hb3'⟩
        have hb3 := hb2.trans (hb3'.mono hb2.size)
        have r0 := (H8.out w3 hb3).p0
        have r1 := (H8.out w3 hb3).p1
        have r2 := (H8.out w3 hb3).p2
        have r3 := (H8.out w3 hb3).p3
        have r4 := (H8.out w3 hb3).p4
        have r5 := (H8.out w3 hb3).p5
        have r6 := (H8.out w3 hb3).p6
        have r7 := (H8.out w3 hb3).p7
        clear q0 q1 q2 q3 q4 q5 q6 q7
        have q0 := r0
        have q1 := r1
        have q2 := r2
        have q3 := r3
        have q4 := r4
        have q5 := r5
        have q6 := r6
        have q7 := r7
        clear r0 r1 r2 r3 r4 r5 r6 r7
        go_wp2_with (first | (refine tload_rowG rfl 28 (.tmp 1) rfl g rfl 28 vs.toArray (0, 0) _ (HGB.out _ hb3) Tryz.underlying28 rfl HIA.out ?_) | (with_reducible refine wpList_load_row rfl 28 (.tmp 1) rfl g rfl 28 vs.toArray (0, 0) _ (HGB.out _ hb3) Tryz.underlying28 rfl HIA.out ?_))
        go_ret
        exact ⟨ret_bool (by rw [HZ.out]), by rw [← HGG.out]; exact HWB.out.trans (hb3.mono HWS.out)⟩
      · have HZ : Hid (R = true) := Lib.hid (by rw [HOP.out] <;> simp [qf])
        go_wp2_with (first | (refine tload_rowG rfl 28 (.tmp 1) rfl g rfl 28 vs.toArray (0, 0) _ (HGB.out _ hb2) Tryz.underlying28 rfl HIA.out ?_) | (with_reducible refine wpList_load_row rfl 28 (.tmp 1) rfl g rfl 28 vs.toArray (0, 0) _ (HGB.out _ hb2) Tryz.underlying28 rfl HIA.out ?_))
        refine (Kax1.out w2 hb2).mono ?_
        rintro e w3 ⟨rfl, hb3'⟩
        have hb3 := hb2.trans (hb3'.mono hb2.size)
        have r0 := (H8.out w3 hb3).p0
        have r1 := (H8.out w3 hb3).p1
        have r2 := (H8.out w3 hb3).p2
        have r3 := (H8.out w3 hb3).p3
        have r4 := (H8.out w3 hb3).p4
        have r5 := (H8.out w3 hb3).p5
        have r6 := (H8.out w3 hb3).p6
        have r7 := (H8.out w3 hb3).p7
        clear q0 q1 q2 q3 q4 q5 q6 q7
        have q0 := r0
        have q1 := r1
        have q2 := r2
        have q3 := r3
        have q4 := r4
        have q5 := r5
        have q6 := r6
        have q7 := r7
        clear r0 r1 r2 r3 r4 r5 r6 r7
        go_wp2_with (first | (refine tload_rowG rfl 28 (.tmp 1) rfl g rfl 28 vs.toArray (0, 0) _ (HGB.out _ hb3) Tryz.underlying28 rfl HIA.out ?_) | (with_reducible refine wpList_load_row rfl 28 (.tmp 1) rfl g rfl 28 vs.toArray (0, 0) _ (HGB.out _ hb3) Tryz.underlying28 rfl HIA.out ?_))
        go_ret
        exact ⟨ret_bool (by rw [HZ.out]), by rw [← HGG.out]; exact HWB.out.trans (hb3.mono HWS.out)⟩
  by_cases k11 : k = 11
  · subst k11
    have HOP : Hid (R = ((f == 0) && kfa0)) := Lib.hid HDEF.out
    clear HDEF
    cases qf : (f == 0)
    · have HZ : Hid (R = false) := Lib.hid (by rw [HOP.out] <;> simp [qf])
      go_wp2_with (first | (refine tload_rowG rfl 28 (.tmp 1) rfl g rfl 28 vs.toArray (0, 0) _ (HGB.out _ hb2) Tryz.underlying28 rfl HIA.out ?_) | (with_reducible refine wpList_load_row rfl 28 (.tmp 1) rfl g rfl 28 vs.toArray (0, 0) _ (HGB.out _ hb2) Tryz.underlying28 rfl HIA.out ?_))
      go_ret
      exact ⟨ret_bool (by rw [HZ.out]), by rw [← HGG.out]; exact HWB.out.trans (hb2.mono HWS.out)⟩
    · cases kfa0
      · have HZ : Hid (R = false) := Lib.hid (by rw [HOP.out] <;> simp [qf])
        go_wp2_with (first | (refine tload_rowG rfl 28 (.tmp 1) rfl g rfl 28 vs.toArray (0, 0) _ (HGB.out _ hb2) Tryz.underlying28 rfl HIA.out ?_) | (with_reducible refine wpList_load_row rfl 28 (.tmp 1) rfl g rfl 28 vs.toArray (0, 0) _ (HGB.out _ hb2) Tryz.underlying28 rfl HIA.out ?_))
        refine (Kfa0.out w2 hb2).mono ?_
        rintro e w3 ⟨rfl, hb3'⟩
        have hb3 := hb2.trans (hb3'.mono hb2.size)
        have r0 := (H8.out w3 hb3).p0
        have r1 := (H8.out w3 hb3).p1
        have r2 := (H8.out w3 hb3).p2
        have r3 := (H8.out w3 hb3).p3
        have r4 := (H8.out w3 hb3).p4
        have r5 := (H8.out w3 hb3).p5
        have r6 := (H8.out w3 hb3).p6
        have r7 := (H8.out w3 hb3).p7
        clear q0 q1 q2 q3 q4 q5 q6 q7
        have q0 := r0
        have q1 := r1
        have q2 := r2
        have q3 := r3
        have q4 := r4
        have q5 := r5
        have q6 := r6
        have q7 := r7
        clear r0 r1 r2 r3 r4 r5 r6 r7
        go_wp2_with (first | (refine tload_rowG rfl 28 (.tmp 1) rfl g rfl 28 vs.toArray (0, 0) _ (HGB.out _ hb3) Tryz.underlying28 rfl HIA.out ?_) | (with_reducible refine wpList_load_row rfl 28 (.tmp 1) rfl g rfl 28 vs.toArray (0, 0) _ (HGB.out _ hb3) Tryz.underlying28 rfl HIA.out ?_))
        go_ret
        exact ⟨ret_bool (by rw [HZ.out]), by rw [← HGG.out]; exact HWB.out.trans (hb3.mono HWS.out)⟩
      · have HZ : Hid (R = true) := Lib.hid (by rw [HOP.out] <;> simp [qf])
        go_wp2_with (first | (refine tload_rowG rfl 28 (.tmp 1) rfl g rfl 28 vs.toArray (0, 0) _ (HGB.out _ hb2) Tryz.underlying28 rfl HIA.out ?_) | (with_reducible refine wpList_load_row rfl 28 (.tmp 1) rfl g rfl 28 vs.toArray (0, 0) _ (HGB.out _ hb2) Tryz.underlying28 rfl HIA.out ?_))
        refine (Kfa0.out w2 hb2).mono ?_
        rintro e w3 ⟨rfl, hb3'⟩
        have hb3 := hb2.trans (hb3'.mono hb2.size)
        have r0 := (H8.out w3 hb3).p0
        have r1 := (H8.out w3 hb3).p1
        have r2 := (H8.out w3 hb3).p2
        have r3 := (H8.out w3 hb3).p3
        have r4 := (H8.out w3 hb3).p4
        have r5 := (H8.out w3 hb3).p5
        have r6 := (H8.out w3 hb3).p6
        have r7 := (H8.out w3 hb3).p7
        clear q0 q1 q2 q3 q4 q5 q6 q7
        have q0 := r0
        have q1 := r1
        have q2 := r2
        have q3 := r3
        have q4 := r4
        have q5 := r5
        have q6 := r6
        have q7 := r7
        clear r0 r1 r2 r3 r4 r5 r6 r7
        go_wp2_with (first | (refine tload_rowG rfl 28 (.tmp 1) rfl g rfl 28 vs.toArray (0, 0) _ (HGB.out _ hb3) Tryz.underlying28 rfl HIA.out ?_) | (with_reducible refine wpList_load_row rfl 28 (.tmp 1) rfl g rfl 28 vs.toArray (0, 0) _ (HGB.out _ hb3) Tryz.underlying28 rfl HIA.out ?_))
        go_ret
        exact ⟨ret_bool (by rw [HZ.out]), by rw [← HGG.out]; exact HWB.out.trans (hb3.mono HWS.out)⟩
  by_cases k12 : k = 12
  · subst k12
    have HOP : Hid (R = ((f == 0) && kafa0)) := Lib.hid HDEF.out
    clear HDEF
    cases qf : (f == 0)
    · have HZ : Hid (R = false) := Lib.hid (by rw [HOP.out] <;> simp [qf])
      go_wp2_with (first | (refine tload_rowG rfl 28 (.tmp 1) rfl g rfl 28 vs.toArray (0, 0) _ (HGB.out _ hb2) Tryz.underlying28 rfl HIA.out ?_) | (with_reducible refine wpList_load_row rfl 28 (.tmp 1) rfl g rfl 28 vs.toArray (0, 0) _ (HGB.out _ hb2) Tryz.underlying28 rfl HIA.out ?_))
      go_ret
      exact ⟨ret_bool (by rw [HZ.out]), by rw [← HGG.out]; exact HWB.out.trans (hb2.mono HWS.out)⟩
    · cases kafa0
      · have HZ : Hid (R = false) := Lib.hid (by rw [HOP.out] <;> simp [qf])
        go_wp2_with (first | (refine tload_rowG rfl 28 (.tmp 1) rfl g rfl 28 vs.toArray (0, 0) _ (HGB.out _ hb2) Tryz.underlying28 rfl HIA.out ?_) | (with_reducible refine wpList_load_row rfl 28 (.tmp 1) rfl g rfl 28 vs.toArray (0, 0) _ (HGB.out _ hb2) Tryz.underlying28 rfl HIA.out ?_))
        refine (Kafa0.out w2 hb2).mono ?_
        rintro e w3 ⟨rfl, hb3'⟩
        have hb3 := hb2.trans (hb3'.mono hb2.size)
        have r0 := (H8.out w3 hb3).p0
        have r1 := (H8.out w3 hb3).p1
        have r2 := (H8.out w3 hb3).p2
        have r3 := (H8.out w3 hb3).p3
        have r4 := (H8.out w3 hb3).p4
        have r5 := (H8.out w3 hb3).p5
        have r6 := (H8.out w3 hb3).p6
        have r7 := (H8.out w3 hb3).p7
        clear q0 q1 q2 q3 q4 q5 q6 q7
        have q0 := r0
        have q1 := r1
        have q2 := r2
        have q3 := r3
        have q4 := r4
        have q5 := r5
        have q6 := r6
        have q7 := r7
        clear r0 r1 r2 r3 r4 r5 r6 r7
        go_wp2_with (first | (refine tload_rowG rfl 28 (.tmp 1) rfl g rfl 28 vs.toArray (0, 0) _ (HGB.out _ hb3) Tryz.underlying28 rfl HIA.out ?_) | (with_reducible refine wpList_load_row rfl 28 (.tmp 1) rfl g rfl 28 vs.toArray (0, 0) _ (HGB.out _ hb3) Tryz.underlying28 rfl HIA.out ?_))
        go_ret
        exact ⟨ret_bool (by rw [HZ.out]), by rw [← HGG.out]; exact HWB.out.trans (hb3.mono HWS.out)⟩
      · have HZ : Hid (R = true) := Lib.hid (by rw [HOP.out] <;> simp [qf])
        go_wp2_with (first | (refine tload_rowG rfl 28 (.tmp 1) rfl g rfl 28 vs.toArray (0, 0) _ (HGB.out _ hb2) Tryz.underlying28 rfl HIA.out ?_) | (with_reducible refine wpList_load_row rfl 28 (.tmp 1) rfl g rfl 28 vs.toArray (0, 0) _ (HGB.out _ hb2) Tryz.underlying28 rfl HIA.out ?_))
        refine (Kafa0.out w2 hb2).mono ?_
        rintro e w3 ⟨rfl, hb3'⟩
        have hb3 := hb2.trans (hb3'.mono hb2.size)
        have r0 := (H8.out w3 hb3).p0
        have r1 := (H8.out w3 hb3).p1
        have r2 := (H8.out w3 hb3).p2
        have r3 := (H8.out w3 hb3).p3
        have r4 := (H8.out w3 hb3).p4
        have r5 := (H8.out w3 hb3).p5
        have r6 := (H8.out w3 hb3).p6
        have r7 := (H8.out w3 hb3).p7
        clear q0 q1 q2 q3 q4 q5 q6 q7
        have q0 := r0
        have q1 := r1
        have q2 := r2
        have q3 := r3
        have q4 := r4
        have q5 := r5
        have q6 := r6
        have q7 := r7
        clear r0 r1 r2 r3 r4 r5 r6 r7
        go_wp2_with (first | (refine tload_rowG rfl 28 (.tmp 1) rfl g rfl 28 vs.toArray (0, 0) _ (HGB.out _ hb3) Tryz.underlying28 rfl HIA.out ?_) | (with_reducible refine wpList_load_row rfl 28 (.tmp 1) rfl g rfl 28 vs.toArray (0, 0) _ (HGB.out _ hb3) Tryz.underlying28 rfl HIA.out ?_))
        go_ret
        exact ⟨ret_bool (by rw [HZ.out]), by rw [← HGG.out]; exact HWB.out.trans (hb3.mono HWS.out)⟩
  by_cases k13 : k = 13
  · subst k13
    have HOP : Hid (R = ((f == 2) && nf && ka0)) := Lib.hid HDEF.out
    clear HDEF
    cases qf : (f == 2)
    · have HZ : Hid (R = false) := Lib.hid (by rw [HOP.out] <;> simp [qf])
      go_wp2_with (first | (refine tload_rowG rfl 28 (.tmp 1) rfl g rfl 28 vs.toArray (0, 0) _ (HGB.out _ hb2) Tryz.underlying28 rfl HIA.out ?_) | (with_reducible refine wpList_load_row rfl 28 (.tmp 1) rfl g rfl 28 vs.toArray (0, 0) _ (HGB.out _ hb2) Tryz.underlying28 rfl HIA.out ?_))
      go_ret
      exact ⟨ret_bool (by rw [HZ.out]), by rw [← HGG.out]; exact HWB.out.trans (hb2.mono HWS.out)⟩
    · cases nf
      · have HZ : Hid (R = false) := Lib.hid (by rw [HOP.out] <;> simp [qf])
        go_wp2_with (first | (refine tload_rowG rfl 28 (.tmp 1) rfl g rfl 28 vs.toArray (0, 0) _ (HGB.out _ hb2) Tryz.underlying28 rfl HIA.out ?_) | (with_reducible refine wpList_load_row rfl 28 (.tmp 1) rfl g rfl 28 vs.toArray (0, 0) _ (HGB.out _ hb2) Tryz.underlying28 rfl HIA.out ?_))
        refine (NMf.out w2).mono ?_
        rintro e w3 ⟨rfl, hb3'⟩
        have hb3 := hb2.trans (hb3'.mono hb2.size)
        have r0 := (H8.out w3 hb3).p0
        have r1 := (H8.out w3 hb3).p1
        have r2 := (H8.out w3 hb3).p2
        have r3 := (H8.out w3 hb3).p3
        have r4 := (H8.out w3 hb3).p4
        have r5 := (H8.out w3 hb3).p5
        have r6 := (H8.out w3 hb3).p6
        have r7 := (H8.out w3 hb3).p7
        clear q0 q1 q2 q3 q4 q5 q6 q7
        have q0 := r0
        have q1 := r1
        have q2 := r2
        have q3 := r3
        have q4 := r4
        have q5 := r5
        have q6 := r6
        have q7 := r7
        clear r0 r1 r2 r3 r4 r5 r6 r7
        go_wp2_with (first | (refine tload_rowG rfl 28 (.tmp 1) rfl g rfl 28 vs.toArray (0, 0) _ (HGB.out _ hb3) Tryz.underlying28 rfl HIA.out ?_) | (with_reducible refine wpList_load_row rfl 28 (.tmp 1) rfl g rfl 28 vs.toArray (0, 0) _ (HGB.out _ hb3) Tryz.underlying28 rfl HIA.out ?_))
        go_ret
        exact ⟨ret_bool (by rw [HZ.out]), by rw [← HGG.out]; exact HWB.out.trans (hb3.mono HWS.out)⟩
      · cases ka0
        · have HZ : Hid (R = false) := Lib.hid (by rw [HOP.out] <;> simp [qf])
          go_wp2_with (first | (refine tload_rowG rfl 28 (.tmp 1) rfl g rfl 28 vs.toArray (0, 0) _ (HGB.out _ hb2) Tryz.underlying28 rfl HIA.out ?_) | (with_reducible refine wpList_load_row rfl 28 (.tmp 1) rfl g rfl 28 vs.toArray (0, 0) _ (HGB.out _ hb2) Tryz.underlying28 rfl HIA.out ?_))
          refine (NMf.out w2).mono ?_
          rintro e w3 ⟨rfl, hb3'⟩
          have hb3 := hb2.trans (hb3'.mono hb2.size)
          have r0 := (H8.out w3 hb3).p0
          have r1 := (H8.out w3 hb3).p1
          have r2 := (H8.out w3 hb3).p2
          have r3 := (H8.out w3 hb3).p3
          have r4 := (H8.out w3 hb3).p4
          have r5 := (H8.out w3 hb3).p5
          have r6 := (H8.out w3 hb3).p6
          have r7 := (H8.out w3 hb3).p7
          clear q0 q1 q2 q3 q4 q5 q6 q7
          have q0 := r0
          have q1 := r1
          have q2 := r2
          have q3 := r3
          have q4 := r4
          have q5 := r5
          have q6 := r6
          have q7 := r7
          clear r0 r1 r2 r3 r4 r5 r6 r7
          go_wp2_with (first | (refine tload_rowG rfl 28 (.tmp 1) rfl g rfl 28 vs.toArray (0, 0) _ (HGB.out _ hb3) Tryz.underlying28 rfl HIA.out ?_) | (with_reducible refine wpList_load_row rfl 28 (.tmp 1) rfl g rfl 28 vs.toArray (0, 0) _ (HGB.out _ hb3) Tryz.underlying28 rfl HIA.out ?_))
          refine (Ka0.out w3 hb3).mono ?_
          rintro e w4 ⟨rfl, hb4'⟩
          have hb4 := hb3.trans (hb4'.mono hb3.size)
          have r0 := (H8.out w4 hb4).p0
          have r1 := (H8.out w4 hb4).p1
          have r2 := (H8.out w4 hb4).p2
          have r3 := (H8.out w4 hb4).p3
          have r4 := (H8.out w4 hb4).p4
          have r5 := (H8.out w4 hb4).p5
          have r6 := (H8.out w4 hb4).p6
          have r7 := (H8.out w4 hb4).p7
          clear q0 q1 q2 q3 q4 q5 q6 q7
          have q0 := r0
          have q1 := r1
          have q2 := r2
          have q3 := r3
          have q4 := r4
          have q5 := r5
          have q6 := r6
          have q7 := r7
          clear r0 r1 r2 r3 r4 r5 r6 r7
          go_wp2_with (first | (refine tload_rowG rfl 28 (.tmp 1) rfl g rfl 28 vs.toArray (0, 0) _ (HGB.out _ hb4) Tryz.underlying28 rfl HIA.out ?_) | (with_reducible refine wpList_load_row rfl 28 (.tmp 1) rfl g rfl 28 vs.toArray (0, 0) _ (HGB.out _ hb4) Tryz.underlying28 rfl HIA.out ?_))
          go_ret
          exact ⟨ret_bool (by rw [HZ.out]), by rw [← HGG.out]; exact HWB.out.trans (hb4.mono HWS.out)⟩
        · have HZ : Hid (R = true) := Lib.hid (by rw [HOP.out] <;> simp [qf])
          go_wp2_with (first | (refine tload_rowG rfl 28 (.tmp 1) rfl g rfl 28 vs.toArray (0, 0) _ (HGB.out _ hb2) Tryz.underlying28 rfl HIA.out ?_) | (with_reducible refine wpList_load_row rfl 28 (.tmp 1) rfl g rfl 28 vs.toArray (0, 0) _ (HGB.out _ hb2) Tryz.underlying28 rfl HIA.out ?_))
          refine (NMf.out w2).mono ?_
          rintro e w3 ⟨rfl, hb3'⟩
          have hb3 := hb2.trans (hb3'.mono hb2.size)
          have r0 := (H8.out w3 hb3).p0
          have r1 := (H8.out w3 hb3).p1
          have r2 := (H8.out w3 hb3).p2
          have r3 := (H8.out w3 hb3).p3
          have r4 := (H8.out w3 hb3).p4
          have r5 := (H8.out w3 hb3).p5
          have r6 := (H8.out w3 hb3).p6
          have r7 := (H8.out w3 hb3).p7
          clear q0 q1 q2 q3 q4 q5 q6 q7
          have q0 := r0
          have q1 := r1
          have q2 := r2
          have q3 := r3
          have q4 := r4
          have q5 := r5
          have q6 := r6
          have q7 := r7
          clear r0 r1 r2 r3 r4 r5 r6 r7
          go_wp2_with (first | (refine tload_rowG rfl 28 (.tmp 1) rfl g rfl 28 vs.toArray (0, 0) _ (HGB.out _ hb3) Tryz.underlying28 rfl HIA.out ?_) | (with_reducible refine wpList_load_row rfl 28 (.tmp 1) rfl g rfl 28 vs.toArray (0, 0) _ (HGB.out _ hb3) Tryz.underlying28 rfl HIA.out ?_))
          refine (Ka0.out w3 hb3).mono ?_
          rintro e w4 ⟨rfl, hb4'⟩
          have hb4 := hb3.trans (hb4'.mono hb3.size)
          have r0 := (H8.out w4 hb4).p0
          have r1 := (H8.out w4 hb4).p1
          have r2 := (H8.out w4 hb4).p2
          have r3 := (H8.out w4 hb4).p3
          have r4 := (H8.out w4 hb4).p4
          have r5 := (H8.out w4 hb4).p5
          have r6 := (H8.out w4 hb4).p6
          have r7 := (H8.out w4 hb4).p7
          clear q0 q1 q2 q3 q4 q5 q6 q7
          have q0 := r0
          have q1 := r1
          have q2 := r2
          have q3 := r3
          have q4 := r4
          have q5 := r5
          have q6 := r6
          have q7 := r7
          clear r0 r1 r2 r3 r4 r5 r6 r7
          go_wp2_with (first | (refine tload_rowG rfl 28 (.tmp 1) rfl g rfl 28 vs.toArray (0, 0) _ (HGB.out _ hb4) Tryz.underlying28 rfl HIA.out ?_) | (with_reducible refine wpList_load_row rfl 28 (.tmp 1) rfl g rfl 28 vs.toArray (0, 0) _ (HGB.out _ hb4) Tryz.underlying28 rfl HIA.out ?_))
          go_ret
          exact ⟨ret_bool (by rw [HZ.out]), by rw [← HGG.out]; exact HWB.out.trans (hb4.mono HWS.out)⟩
  by_cases k14 : k = 14
  · subst k14
    have HOP : Hid (R = ((f == 2) && nf && kax1)) := Lib.hid HDEF.out
    clear HDEF
    cases qf : (f == 2)
    · have HZ : Hid (R = false) := Lib.hid (by rw [HOP.out] <;> simp [qf])
      go_wp2_with (first | (refine tload_rowG rfl 28 (.tmp 1) rfl g rfl 28 vs.toArray (0, 0) _ (HGB.out _ hb2) Tryz.underlying28 rfl HIA.out ?_) | (with_reducible refine wpList_load_row rfl 28 (.tmp 1) rfl g rfl 28 vs.toArray (0, 0) _ (HGB.out _ hb2) Tryz.underlying28 rfl HIA.out ?_))
      go_ret
      exact ⟨ret_bool (by rw [HZ.out]), by rw [← HGG.out]; exact HWB.out.trans (hb2.mono HWS.out)⟩
    · cases nf
      · have HZ : Hid (R = false) := Lib.hid (by rw [HOP.out] <;> simp [qf])
        go_wp2_with (first | (refine tload_rowG rfl 28 (.tmp 1) rfl g rfl 28 vs.toArray (0, 0) _ (HGB.out _ hb2) Tryz.underlying28 rfl HIA.out ?_) | (with_reducible refine wpList_load_row rfl 28 (.tmp 1) rfl g rfl 28 vs.toArray (0, 0) _ (HGB.out _ hb2) Tryz.underlying28 rfl HIA.out ?_))
        refine (NMf.out w2).mono ?_
        rintro e w3 ⟨rfl, hb3'⟩
        have hb3 := hb2.trans (hb3'.mono hb2.size)
        have r0 := (H8.out w3 hb3).p0
        have r1 := (H8.out w3 hb3).p1
        have r2 := (H8.out w3 hb3).p2
        have r3 := (H8.out w3 hb3).p3
        have r4 := (H8.out w3 hb3).p4
        have r5 := (H8.out w3 hb3).p5
        have r6 := (H8.out w3 hb3).p6
        have r7 := (H8.out w3 hb3).p7
        clear q0 q1 q2 q3 q4 q5 q6 q7
        have q0 := r0
        have q1 := r1
        have q2 := r2
        have q3 := r3
        have q4 := r4
        have q5 := r5
        have q6 := r6
        have q7 := r7
        clear r0 r1 r2 r3 r4 r5 r6 r7
        go_wp2_with (first | (refine tload_rowG rfl 28 (.tmp 1) rfl g rfl 28 vs.toArray (0, 0) _ (HGB.out _ hb3) Tryz.underlying28 rfl HIA.out ?_) | (with_reducible refine wpList_load_row rfl 28 (.tmp 1) rfl g rfl 28 vs.toArray (0, 0) _ (HGB.out _ hb3) Tryz.underlying28 rfl HIA.out ?_))
        go_ret
        exact ⟨ret_bool (by rw [HZ.out]), by rw [← HGG.out]; exact HWB.out.trans (hb3.mono HWS.out)⟩
      · cases kax1
        · have HZ : Hid (R = false) := Lib.hid (by rw [HOP.out] <;> simp [qf])
          go_wp2_with (first | (refine tload_rowG rfl 28 (.tmp 1) rfl g rfl 28 vs.toArray (0, 0) _ (HGB.out _ hb2) Tryz.underlying28 rfl HIA.out ?_) | (with_reducible refine wpList_load_row rfl 28 (.tmp 1) rfl g rfl 28 vs.toArray (0, 0) _ (HGB.out _ hb2) Tryz.underlying28 rfl HIA.out ?_))
          refine (NMf.out w2).mono ?_
          rintro e w3 ⟨rfl, hb3'⟩
          have hb3 := hb2.trans (hb3'.mono hb2.size)
          have r0 := (H8.out w3 hb3).p0
          have r1 := (H8.out w3 hb3).p1
          have r2 := (H8.out w3 hb3).p2
          have r3 := (H8.out w3 hb3).p3
          have r4 := (H8.out w3 hb3).p4
          have r5 := (H8.out w3 hb3).p5
          have r6 := (H8.out w3 hb3).p6
          have r7 := (H8.out w3 hb3).p7
          clear q0 q1 q2 q3 q4 q5 q6 q7
          have q0 := r0
          have q1 := r1
          have q2 := r2
          have q3 := r3
          have q4 := r4
          have q5 := r5
          have q6 := r6
          have q7 := r7
          clear r0 r1 r2 r3 r4 r5 r6 r7
          go_wp2_with (first | (refine tload_rowG rfl 28 (.tmp 1) rfl g rfl 28 vs.toArray (0, 0) _ (HGB.out _ hb3) Tryz.underlying28 rfl HIA.out ?_) | (with_reducible refine wpList_load_row rfl 28 (.tmp 1) rfl g rfl 28 vs.toArray (0, 0) _ (HGB.out _ hb3) Tryz.underlying28 rfl HIA.out ?_))
          refine (Kax1.out w3 hb3).mono ?_
          rintro e w4 ⟨rfl, hb4'⟩
          have hb4 := hb3.trans (hb4'.mono hb3.size)
          have r0 := (H8.out w4 hb4).p0
          have r1 := (H8.out w4 hb4).p1
          have r2 := (H8.out w4 hb4).p2
          have r3 := (H8.out w4 hb4).p3
          have r4 := (H8.out w4 hb4).p4
          have r5 := (H8.out w4 hb4).p5
          have r6 := (H8.out w4 hb4).p6
          have r7 := (H8.out w4 hb4).p7
          clear q0 q1 q2 q3 q4 q5 q6 q7
          have q0 := r0
          have q1 := r1
          have q2 := r2
          have q3 := r3
          have q4 := r4
          have q5 := r5
          have q6 := r6
          have q7 := r7
          clear r0 r1 r2 r3 r4 r5 r6 r7
          go_wp2_with (first | (refine tload_rowG rfl 28 (.tmp 1) rfl g rfl 28 vs.toArray (0, 0) _ (HGB.out _ hb4) Tryz.underlying28 rfl HIA.out ?_) | (with_reducible refine wpList_load_row rfl 28 (.tmp 1) rfl g rfl 28 vs.toArray (0, 0) _ (HGB.out _ hb4) Tryz.underlying28 rfl HIA.out ?_))
          go_ret
          exact ⟨ret_bool (by rw [HZ.out]), by rw [← HGG.out]; exact HWB.out.trans (hb4.mono HWS.out)⟩
        · have HZ : Hid (R = true) := Lib.hid (by rw [HOP.out] <;> simp [qf])
          go_wp2_with (first | (refine tload_rowG rfl 28 (.tmp 1) rfl g rfl 28 vs.toArray (0, 0) _ (HGB.out _ hb2) Tryz.underlying28 rfl HIA.out ?_) | (with_reducible refine wpList_load_row rfl 28 (.tmp 1) rfl g rfl 28 vs.toArray (0, 0) _ (HGB.out _ hb2) Tryz.underlying28 rfl HIA.out ?_))
          refine (NMf.out w2).mono ?_
          rintro e w3 ⟨rfl, hb3'⟩
          have hb3 := hb2.trans (hb3'.mono hb2.size)
          have r0 := (H8.out w3 hb3).p0
          have r1 := (H8.out w3 hb3).p1
          have r2 := (H8.out w3 hb3).p2
          have r3 := (H8.out w3 hb3).p3
          have r4 := (H8.out w3 hb3).p4
          have r5 := (H8.out w3 hb3).p5
          have r6 := (H8.out w3 hb3).p6
          have r7 := (H8.out w3 hb3).p7
          clear q0 q1 q2 q3 q4 q5 q6 q7
          have q0 := r0
          have q1 := r1
          have q2 := r2
          have q3 := r3
          have q4 := r4
          have q5 := r5
          have q6 := r6
          have q7 := r7
          clear r0 r1 r2 r3 r4 r5 r6 r7
          go_wp2_with (first | (refine tload_rowG rfl 28 (.tmp 1) rfl g rfl 28 vs.toArray (0, 0) _ (HGB.out _ hb3) Tryz.underlying28 rfl HIA.out ?_) | (with_reducible refine wpList_load_row rfl 28 (.tmp 1) rfl g rfl 28 vs.toArray (0, 0) _ (HGB.out _ hb3) Tryz.underlying28 rfl HIA.out ?_))
          refine (Kax1.out w3 hb3).mono ?_
          rintro e w4 ⟨rfl, hb4'⟩
          have hb4 := hb3.trans (hb4'.mono hb3.size)
          have r0 := (H8.out w4 hb4).p0
          have r1 := (H8.out w4 hb4).p1
          have r2 := (H8.out w4 hb4).p2
          have r3 := (H8.out w4 hb4).p3
          have r4 := (H8.out w4 hb4).p4
          have r5 := (H8.out w4 hb4).p5
          have r6 := (H8.out w4 hb4).p6
          have r7 := (H8.out w4 hb4).p7
          clear q0 q1 q2 q3 q4 q5 q6 q7
          have q0 := r0
          have q1 := r1
          have q2 := r2
          have q3 := r3
          have q4 := r4
          have q5 := r5
          have q6 := r6
          have q7 := r7
          clear r0 r1 r2 r3 r4 r5 r6 r7
          go_wp2_with (first | (refine tload_rowG rfl 28 (.tmp 1) rfl g rfl 28 vs.toArray (0, 0) _ (HGB.out _ hb4) Tryz.underlying28 rfl HIA.out ?_) | (with_reducible refine wpList_load_row rfl 28 (.tmp 1) rfl g rfl 28 vs.toArray (0, 0) _ (HGB.out _ hb4) Tryz.underlying28 rfl HIA.out ?_))
          go_ret
          exact ⟨ret_bool (by rw [HZ.out]), by rw [← HGG.out]; exact HWB.out.trans (hb4.mono HWS.out)⟩
  by_cases k15 : k = 15
  · subst k15
    have HOP : Hid (R = ((f == 2) && nf && kfa0)) := Lib.hid HDEF.out
    clear HDEF
    cases qf : (f == 2)
    · have HZ : Hid (R = false) := Lib.hid (by rw [HOP.out] <;> simp [qf])
      go_wp2_with (first | (refine tload_rowG rfl 28 (.tmp 1) rfl g rfl 28 vs.toArray (0, 0) _ (HGB.out _ hb2) Tryz.underlying28 rfl HIA.out ?_) | (with_reducible refine wpList_load_row rfl 28 (.tmp 1) rfl g rfl 28 vs.toArray (0, 0) _ (HGB.out _ hb2) Tryz.underlying28 rfl HIA.out ?_))
      go_ret
      exact ⟨ret_bool (by rw [HZ.out]), by rw [← HGG.out]; exact HWB.out.trans (hb2.mono HWS.out)⟩
    · cases nf
      · have HZ : Hid (R = false) := Lib.hid (by rw [HOP.out] <;> simp [qf])
        go_wp2_with (first | (refine tload_rowG rfl 28 (.tmp 1) rfl g rfl 28 vs.toArray (0, 0) _ (HGB.out _ hb2) Tryz.underlying28 rfl HIA.out ?_) | (with_reducible refine wpList_load_row rfl 28 (.tmp 1) rfl g rfl 28 vs.toArray (0, 0) _ (HGB.out _ hb2) Tryz.underlying28 rfl HIA.out ?_))
        refine (NMf.out w2).mono ?_
        rintro e w3 ⟨rfl, hb3'⟩
        have hb3 := hb2.trans (hb3'.mono hb2.size)
        have r0 := (H8.out w3 hb3).p0
        have r1 := (H8.out w3 hb3).p1
        have r2 := (H8.out w3 hb3).p2
        have r3 := (H8.out w3 hb3).p3
        have r4 := (H8.out w3 hb3).p4
        have r5 := (H8.out w3 hb3).p5
        have r6 := (H8.out w3 hb3).p6
        have r7 := (H8.out w3 hb3).p7
        clear q0 q1 q2 q3 q4 q5 q6 q7
        have q0 := r0
        have q1 := r1
        have q2 := r2
        have q3 := r3
        have q4 := r4
        have q5 := r5
        have q6 := r6
        have q7 := r7
        clear r0 r1 r2 r3 r4 r5 r6 r7
        go_wp2_with (first | (refine tload_rowG rfl 28 (.tmp 1) rfl g rfl 28 vs.toArray (0, 0) _ (HGB.out _ hb3) Tryz.underlying28 rfl HIA.out ?_) | (with_reducible refine wpList_load_row rfl 28 (.tmp 1) rfl g rfl 28 vs.toArray (0, 0) _ (HGB.out _ hb3) Tryz.underlying28 rfl HIA.out ?_))
        go_ret
        exact ⟨ret_bool (by rw [HZ.out]), by rw [← HGG.out]; exact HWB.out.trans (hb3.mono HWS.out)⟩
      · cases kfa0
        · have HZ : Hid (R = false) := Lib.hid (by rw [HOP.out] <;> simp [qf])
          go_wp2_with (first | (refine tload_rowG rfl 28 (.tmp 1) rfl g rfl 28 vs.toArray (0, 0) _ (HGB.out _ hb2) Tryz.underlying28 rfl HIA.out ?_) | (with_reducible refine wpList_load_row rfl 28 (.tmp 1) rfl g rfl 28 vs.toArray (0, 0) _ (HGB.out _ hb2) Tryz.underlying28 rfl HIA.out ?_))
          refine (NMf.out w2).mono ?_
          rintro e w3 ⟨rfl, hb3'⟩
          have hb3 := hb2.trans (hb3'.mono hb2.size)
          have r0 := (H8.out w3 hb3).p0
          have r1 := (H8.out w3 hb3).p1
          have r2 := (H8.out w3 hb3).p2
          have r3 := (H8.out w3 hb3).p3
          have r4 := (H8.out w3 hb3).p4
          have r5 := (H8.out w3 hb3).p5
          have r6 := (H8.out w3 hb3).p6
          have r7 := (H8.out w3 hb3).p7
          clear q0 q1 q2 q3 q4 q5 q6 q7
          have q0 := r0
          have q1 := r1
          have q2 := r2
          have q3 := r3
          have q4 := r4
          have q5 := r5
          have q6 := r6
          have q7 := r7
          clear r0 r1 r2 r3 r4 r5 r6 r7
          go_wp2_with (first | (refine tload_rowG rfl 28 (.tmp 1) rfl g rfl 28 vs.toArray (0, 0) _ (HGB.out _ hb3) Tryz.underlying28 rfl HIA.out ?_) | (with_reducible refine wpList_load_row rfl 28 (.tmp 1) rfl g rfl 28 vs.toArray (0, 0) _ (HGB.out _ hb3) Tryz.underlying28 rfl HIA.out ?_))
          refine (Kfa0.out w3 hb3).mono ?_
          rintro e w4 ⟨rfl, hb4'⟩
          have hb4 := hb3.trans (hb4'.mono hb3.size)
          have r0 := (H8.out w4 hb4).p0
          have r1 := (H8.out w4 hb4).p1
          have r2 := (H8.out w4 hb4).p2
          have r3 := (H8.out w4 hb4).p3
          have r4 := (H8.out w4 hb4).p4
          have r5 := (H8.out w4 hb4).p5
          have r6 := (H8.out w4 hb4).p6
          have r7 := (H8.out w4 hb4).p7
          clear q0 q1 q2 q3 q4 q5 q6 q7
          have q0 := r0
          have q1 := r1
          have q2 := r2
          have q3 := r3
          have q4 := r4
          have q5 := r5
          have q6 := r6
          have q7 := r7
          clear r0 r1 r2 r3 r4 r5 r6 r7
          go_wp2_with (first | (refine tload_rowG rfl 28 (.tmp 1) rfl g rfl 28 vs.toArray (0, 0) _ (HGB.out _ hb4) Tryz.underlying28 rfl HIA.out ?_) | (with_reducible refine wpList_load_row rfl 28 (.tmp 1) rfl g rfl 28 vs.toArray (0, 0) _ (HGB.out _ hb4) Tryz.underlying28 rfl HIA.out ?_))
          go_ret
          exact ⟨ret_bool (by rw [HZ.out]), by rw [← HGG.out]; exact HWB.out.trans (hb4.mono HWS.out)⟩
        · have HZ : Hid (R = true) := Lib.hid (by rw [HOP.out] <;> simp [qf])
          go_wp2_with (first | (refine tload_rowG rfl 28 (.tmp 1) rfl g rfl 28 vs.toArray (0, 0) _ (HGB.out _ hb2) Tryz.underlying28 rfl HIA.out ?_) | (with_reducible refine wpList_load_row rfl 28 (.tmp 1) rfl g rfl 28 vs.toArray (0, 0) _ (HGB.out _ hb2) Tryz.underlying28 rfl HIA.out ?_))
          refine (NMf.out w2).mono ?_
          rintro e w3 ⟨rfl, hb3'⟩
          have hb3 := hb2.trans (hb3'.mono hb2.size)
          have r0 := (H8.out w3 hb3).p0
          have r1 := (H8.out w3 hb3).p1
          have r2 := (H8.out w3 hb3).p2
          have r3 := (H8.out w3 hb3).p3
          have r4 := (H8.out w3 hb3).p4
          have r5 := (H8.out w3 hb3).p5
          have r6 := (H8.out w3 hb3).p6
          have r7 := (H8.out w3 hb3).p7
          clear q0 q1 q2 q3 q4 q5 q6 q7
          have q0 := r0
          have q1 := r1
          have q2 := r2
          have q3 := r3
          have q4 := r4
          have q5 := r5
          have q6 := r6
          have q7 := r7
          clear r0 r1 r2 r3 r4 r5 r6 r7
          go_wp2_with (first | (refine tload_rowG rfl 28 (.tmp 1) rfl g rfl 28 vs.toArray (0, 0) _ (HGB.out _ hb3) Tryz.underlying28 rfl HIA.out ?_) | (with_reducible refine wpList_load_row rfl 28 (.tmp 1) rfl g rfl 28 vs.toArray (0, 0) _ (HGB.out _ hb3) Tryz.underlying28 rfl HIA.out ?_))
          refine (Kfa0.out w3 hb3).mono ?_
          rintro e w4 ⟨rfl, hb4'⟩
          have hb4 := hb3.trans (hb4'.mono hb3.size)
          have r0 := (H8.out w4 hb4).p0
          have r1 := (H8.out w4 hb4).p1
          have r2 := (H8.out w4 hb4).p2
          have r3 := (H8.out w4 hb4).p3
          have r4 := (H8.out w4 hb4).p4
          have r5 := (H8.out w4 hb4).p5
          have r6 := (H8.out w4 hb4).p6
          have r7 := (H8.out w4 hb4).p7
          clear q0 q1 q2 q3 q4 q5 q6 q7
          have q0 := r0
          have q1 := r1
          have q2 := r2
          have q3 := r3
          have q4 := r4
          have q5 := r5
          have q6 := r6
          have q7 := r7
          clear r0 r1 r2 r3 r4 r5 r6 r7
          go_wp2_with (first | (refine tload_rowG rfl 28 (.tmp 1) rfl g rfl 28 vs.toArray (0, 0) _ (HGB.out _ hb4) Tryz.underlying28 rfl HIA.out ?_) | (with_reducible refine wpList_load_row rfl 28 (.tmp 1) rfl g rfl 28 vs.toArray (0, 0) _ (HGB.out _ hb4) Tryz.underlying28 rfl HIA.out ?_))
          go_ret
          exact ⟨ret_bool (by rw [HZ.out]), by rw [← HGG.out]; exact HWB.out.trans (hb4.mono HWS.out)⟩
  by_cases k16 : k = 16
  · subst k16
    have HOP : Hid (R = (((f == 0) || (f == 1)) && pt && ka0)) := Lib.hid HDEF.out
    clear HDEF
    cases qf : (f == 0)
    · cases qg : (f == 1)
      · have HZ : Hid (R = false) := Lib.hid (by rw [HOP.out] <;> simp [qf, qg])
        go_wp2_with (first | (refine tload_rowG rfl 28 (.tmp 1) rfl g rfl 28 vs.toArray (0, 0) _ (HGB.out _ hb2) Tryz.underlying28 rfl HIA.out ?_) | (with_reducible refine wpList_load_row rfl 28 (.tmp 1) rfl g rfl 28 vs.toArray (0, 0) _ (HGB.out _ hb2) Tryz.underlying28 rfl HIA.out ?_))
        go_ret
        exact ⟨ret_bool (by rw [HZ.out]), by rw [← HGG.out]; exact HWB.out.trans (hb2.mono HWS.out)⟩
      · cases pt
        · have HZ : Hid (R = false) := Lib.hid (by rw [HOP.out] <;> simp [qf, qg])
          go_wp2_with (first | (refine tload_rowG rfl 28 (.tmp 1) rfl g rfl 28 vs.toArray (0, 0) _ (HGB.out _ hb2) Tryz.underlying28 rfl HIA.out ?_) | (with_reducible refine wpList_load_row rfl 28 (.tmp 1) rfl g rfl 28 vs.toArray (0, 0) _ (HGB.out _ hb2) Tryz.underlying28 rfl HIA.out ?_))
          refine (PT.out w2).mono ?_
          rintro e w3 ⟨rfl, rfl⟩
          go_wp2_with (first | (refine tload_rowG rfl 28 (.tmp 1) rfl g rfl 28 vs.toArray (0, 0) _ (HGB.out _ hb2) Tryz.underlying28 rfl HIA.out ?_) | (with_reducible refine wpList_load_row rfl 28 (.tmp 1) rfl g rfl 28 vs.toArray (0, 0) _ (HGB.out _ hb2) Tryz.underlying28 rfl HIA.out ?_))
          go_ret
          exact ⟨ret_bool (by rw [HZ.out]), by rw [← HGG.out]; exact HWB.out.trans (hb2.mono HWS.out)⟩
        · cases ka0
          · have HZ : Hid (R = false) := Lib.hid (by rw [HOP.out] <;> simp [qf, qg])
            go_wp2_with (first | (refine tload_rowG rfl 28 (.tmp 1) rfl g rfl 28 vs.toArray (0, 0) _ (HGB.out _ hb2) Tryz.underlying28 rfl HIA.out ?_) | (with_reducible refine wpList_load_row rfl 28 (.tmp 1) rfl g rfl 28 vs.toArray (0, 0) _ (HGB.out _ hb2) Tryz.underlying28 rfl HIA.out ?_))
            refine (PT.out w2).mono ?_
            rintro e w3 ⟨rfl, rfl⟩
            go_wp2_with (first | (refine tload_rowG rfl 28 (.tmp 1) rfl g rfl 28 vs.toArray (0, 0) _ (HGB.out _ hb2) Tryz.underlying28 rfl HIA.out ?_) | (with_reducible refine wpList_load_row rfl 28 (.tmp 1) rfl g rfl 28 vs.toArray (0, 0) _ (HGB.out _ hb2) Tryz.underlying28 rfl HIA.out ?_))
            refine (Ka0.out w2 hb2).mono ?_
            rintro e w4 ⟨rfl, hb4'⟩
            have hb4 := hb2.trans (hb4'.mono hb2.size)
            have r0 := (H8.out w4 hb4).p0
            have r1 := (H8.out w4 hb4).p1
            have r2 := (H8.out w4 hb4).p2
            have r3 := (H8.out w4 hb4).p3
            have r4 := (H8.out w4 hb4).p4
            have r5 := (H8.out w4 hb4).p5
            have r6 := (H8.out w4 hb4).p6
            have r7 := (H8.out w4 hb4).p7
            clear q0 q1 q2 q3 q4 q5 q6 q7
            have q0 := r0
            have q1 := r1
            have q2 := r2
            have q3 := r3
            have q4 := r4
            have q5 := r5
            have q6 := r6
            have q7 := r7
            clear r0 r1 r2 r3 r4 r5 r6 r7
            go_wp2_with (first | (refine tload_rowG rfl 28 (.tmp 1) rfl g rfl 28 vs.toArray (0, 0) _ (HGB.out _ hb4) Tryz.underlying28 rfl HIA.out ?_) | (with_reducible refine wpList_load_row rfl 28 (.tmp 1) rfl g rfl 28 vs.toArray (0, 0) _ (HGB.out _ hb4) Tryz.underlying28 rfl HIA.out ?_))
            go_ret
            exact ⟨ret_bool (by rw [HZ.out]), by rw [← HGG.out]; exact HWB.out.trans (hb4.mono HWS.out)⟩
          · have HZ : Hid (R = true) := Lib.hid (by rw [HOP.out] <;> simp [qf, qg])
            go_wp2_with (first | (refine tload_rowG rfl 28 (.tmp 1) rfl g rfl 28 vs.toArray (0, 0) _ (HGB.out _ hb2) Tryz.underlying28 rfl HIA.out ?_) | (with_reducible refine wpList_load_row rfl 28 (.tmp 1) rfl g rfl 28 vs.toArray (0, 0) _ (HGB.out _ hb2) Tryz.underlying28 rfl HIA.out ?_))
            refine (PT.out w2).mono ?_
            rintro e w3 ⟨rfl, rfl⟩
            go_wp2_with (first | (refine tload_rowG rfl 28 (.tmp 1) rfl g rfl 28 vs.toArray (0, 0) _ (HGB.out _ hb2) Tryz.underlying28 rfl HIA.out ?_) | (with_reducible refine wpList_load_row rfl 28 (.tmp 1) rfl g rfl 28 vs.toArray (0, 0) _ (HGB.out _ hb2) Tryz.underlying28 rfl HIA.out ?_))
            refine (Ka0.out w2 hb2).mono ?_
            rintro e w4 ⟨rfl, hb4'⟩
            have hb4 := hb2.trans (hb4'.mono hb2.size)
            have r0 := (H8.out w4 hb4).p0
            have r1 := (H8.out w4 hb4).p1
            have r2 := (H8.out w4 hb4).p2
            have r3 := (H8.out w4 hb4).p3
            have r4 := (H8.out w4 hb4).p4
            have r5 := (H8.out w4 hb4).p5
            have r6 := (H8.out w4 hb4).p6
            have r7 := (H8.out w4 hb4).p7
            clear q0 q1 q2 q3 q4 q5 q6 q7
            have q0 := r0
            have q1 := r1
            have q2 := r2
            have q3 := r3
            have q4 := r4
            have q5 := r5
            have q6 := r6
            have q7 := r7
            clear r0 r1 r2 r3 r4 r5 r6 r7
            go_wp2_with (first | (refine tload_rowG rfl 28 (.tmp 1) rfl g rfl 28 vs.toArray (0, 0) _ (HGB.out _ hb4) Tryz.underlying28 rfl HIA.out ?_) | (with_reducible refine wpList_load_row rfl 28 (.tmp 1) rfl g rfl 28 vs.toArray (0, 0) _ (HGB.out _ hb4) Tryz.underlying28 rfl HIA.out ?_))
            go_ret
            exact ⟨ret_bool (by rw [HZ.out]), by rw [← HGG.out]; exact HWB.out.trans (hb4.mono HWS.out)⟩
    · cases pt
      · have HZ : Hid (R = false) := Lib.hid (by rw [HOP.out] <;> simp [qf])
        go_wp2_with (first | (refine tload_rowG rfl 28 (.tmp 1) rfl g rfl 28 vs.toArray (0, 0) _ (HGB.out _ hb2) Tryz.underlying28 rfl HIA.out ?_) | (with_reducible refine wpList_load_row rfl 28 (.tmp 1) rfl g rfl 28 vs.toArray (0, 0) _ (HGB.out _ hb2) Tryz.underlying28 rfl HIA.out ?_))
        refine (PT.out w2).mono ?_
        rintro e w3 ⟨rfl, rfl⟩
        go_wp2_with (first | (refine tload_rowG rfl 28 (.tmp 1) rfl g rfl 28 vs.toArray (0, 0) _ (HGB.out _ hb2) Tryz.underlying28 rfl HIA.out ?_) | (with_reducible refine wpList_load_row rfl 28 (.tmp 1) rfl g rfl 28 vs.toArray (0, 0) _ (HGB.out _ hb2) Tryz.underlying28 rfl HIA.out ?_))
        go_ret
        exact ⟨ret_bool (by rw [HZ.out]), by rw [← HGG.out]; exact HWB.out.trans (hb2.mono HWS.out)⟩
      · cases ka0
        · have HZ : Hid (R = false) := Lib.hid (by rw [HOP.out] <;> simp [qf])
          go_wp2_with (first | (refine tload_rowG rfl 28 (.tmp 1) rfl g rfl 28 vs.toArray (0, 0) _ (HGB.out _ hb2) Tryz.underlying28 rfl HIA.out ?_) | (with_reducible refine wpList_load_row rfl 28 (.tmp 1) rfl g rfl 28 vs.toArray (0, 0) _ (HGB.out _ hb2) Tryz.underlying28 rfl HIA.out ?_))
          refine (PT.out w2).mono ?_
          rintro e w3 ⟨rfl, rfl⟩
          go_wp2_with (first | (refine tload_rowG rfl 28 (.tmp 1) rfl g rfl 28 vs.toArray (0, 0) _ (HGB.out _ hb2) Tryz.underlying28 rfl HIA.out ?_) | (with_reducible refine wpList_load_row rfl 28 (.tmp 1) rfl g rfl 28 vs.toArray (0, 0) _ (HGB.out _ hb2) Tryz.underlying28 rfl HIA.out ?_))
          refine (Ka0.out w2 hb2).mono ?_
          rintro e w4 ⟨rfl, hb4'⟩
          have hb4 := hb2.trans (hb4'.mono hb2.size)
          have r0 := (H8.out w4 hb4).p0
          have r1 := (H8.out w4 hb4).p1
          have r2 := (H8.out w4 hb4).p2
          have r3 := (H8.out w4 hb4).p3
          have r4 := (H8.out w4 hb4).p4
          have r5 := (H8.out w4 hb4).p5
          have r6 := (H8.out w4 hb4).p6
          have r7 := (H8.out w4 hb4).p7
          clear q0 q1 q2 q3 q4 q5 q6 q7
          have q0 := r0
          have q1 := r1
          have q2 := r2
          have q3 := r3
          have q4 := r4
          have q5 := r5
          have q6 := r6
          have q7 := r7
          clear r0 r1 r2 r3 r4 r5 r6 r7
          go_wp2_with (first | (refine tload_rowG rfl 28 (.tmp 1) rfl g rfl 28 vs.toArray (0, 0) _ (HGB.out _ hb4) Tryz.underlying28 rfl HIA.out ?_) | (with_reducible refine wpList_load_row rfl 28 (.tmp 1) rfl g rfl 28 vs.toArray (0, 0) _ (HGB.out _ hb4) Tryz.underlying28 rfl HIA.out ?_))
          go_ret
          exact ⟨ret_bool (by rw [HZ.out]), by rw [← HGG.out]; exact HWB.out.trans (hb4.mono HWS.out)⟩
        · have HZ : Hid (R = true) := Lib.hid (by rw [HOP.out] <;> simp [qf])
          go_wp2_with (first | (refine tload_rowG rfl 28 (.tmp 1) rfl g rfl 28 vs.toArray (0, 0) _ (HGB.out _ hb2) Tryz.underlying28 rfl HIA.out ?_) | (with_reducible refine wpList_load_row rfl 28 (.tmp 1) rfl g rfl 28 vs.toArray (0, 0) _ (HGB.out _ hb2) Tryz.underlying28 rfl HIA.out ?_))
          refine (PT.out w2).mono ?_
          rintro e w3 ⟨rfl, rfl⟩
          go_wp2_with (first | (refine tload_rowG rfl 28 (.tmp 1) rfl g rfl 28 vs.toArray (0, 0) _ (HGB.out _ hb2) Tryz.underlying28 rfl HIA.out ?_) | (with_reducible refine wpList_load_row rfl 28 (.tmp 1) rfl g rfl 28 vs.toArray (0, 0) _ (HGB.out _ hb2) Tryz.underlying28 rfl HIA.out ?_))
          refine (Ka0.out w2 hb2).mono ?_
          rintro e w4 ⟨rfl, hb4'⟩
          have hb4 := hb2.trans (hb4'.mono hb2.size)
          have r0 := (H8.out w4 hb4).p0
          have r1 := (H8.out w4 hb4).p1
          have r2 := (H8.out w4 hb4).p2
          have r3 := (H8.out w4 hb4).p3
          have r4 := (H8.out w4 hb4).p4
          have r5 := (H8.out w4 hb4).p5
          have r6 := (H8.out w4 hb4).p6
          have r7 := (H8.out w4 hb4).p7
          clear q0 q1 q2 q3 q4 q5 q6 q7
          have q0 := r0
          have q1 := r1
          have q2 := r2
          have q3 := r3
          have q4 := r4
          have q5 := r5
          have q6 := r6
          have q7 := r7
          clear r0 r1 r2 r3 r4 r5 r6 r7
          go_wp2_with (first | (refine tload_rowG rfl 28 (.tmp 1) rfl g rfl 28 vs.toArray (0, 0) _ (HGB.out _ hb4) Tryz.underlying28 rfl HIA.out ?_) | (with_reducible refine wpList_load_row rfl 28 (.tmp 1) rfl g rfl 28 vs.toArray (0, 0) _ (HGB.out _ hb4) Tryz.underlying28 rfl HIA.out ?_))
          go_ret
          exact ⟨ret_bool (by rw [HZ.out]), by rw [← HGG.out]; exact HWB.out.trans (hb4.mono HWS.out)⟩
  by_cases k20 : k = 20
  · subst k20
    have HOP : Hid (R = ((f == 0) && s1)) := Lib.hid HDEF.out
    clear HDEF
    cases qf : (f == 0)
    · have HZ : Hid (R = false) := Lib.hid (by rw [HOP.out] <;> simp [qf])
      go_wp2_with (first | (refine tload_rowG rfl 28 (.tmp 1) rfl g rfl 28 vs.toArray (0, 0) _ (HGB.out _ hb2) Tryz.underlying28 rfl HIA.out ?_) | (with_reducible refine wpList_load_row rfl 28 (.tmp 1) rfl g rfl 28 vs.toArray (0, 0) _ (HGB.out _ hb2) Tryz.underlying28 rfl HIA.out ?_))
      go_ret
      exact ⟨ret_bool (by rw [HZ.out]), by rw [← HGG.out]; exact HWB.out.trans (hb2.mono HWS.out)⟩
    · cases s1
      · have HZ : Hid (R = false) := Lib.hid (by rw [HOP.out] <;> simp [qf])
        go_wp2_with (first | (refine tload_rowG rfl 28 (.tmp 1) rfl g rfl 28 vs.toArray (0, 0) _ (HGB.out _ hb2) Tryz.underlying28 rfl HIA.out ?_) | (with_reducible refine wpList_load_row rfl 28 (.tmp 1) rfl g rfl 28 vs.toArray (0, 0) _ (HGB.out _ hb2) Tryz.underlying28 rfl HIA.out ?_))
        refine (S1.out w2 hb2).mono ?_
        rintro e w3 ⟨rfl, hb3'⟩
        have hb3 := hb2.trans (hb3'.mono hb2.size)
        have r0 := (H8.out w3 hb3).p0
        have r1 := (H8.out w3 hb3).p1
        have r2 := (H8.out w3 hb3).p2
        have r3 := (H8.out w3 hb3).p3
        have r4 := (H8.out w3 hb3).p4
        have r5 := (H8.out w3 hb3).p5
        have r6 := (H8.out w3 hb3).p6
        have r7 := (H8.out w3 hb3).p7
        clear q0 q1 q2 q3 q4 q5 q6 q7
        have q0 := r0
        have q1 := r1
        have q2 := r2
        have q3 := r3
        have q4 := r4
        have q5 := r5
        have q6 := r6
        have q7 := r7
        clear r0 r1 r2 r3 r4 r5 r6 r7
        go_wp2_with (first | (refine tload_rowG rfl 28 (.tmp 1) rfl g rfl 28 vs.toArray (0, 0) _ (HGB.out _ hb3) Tryz.underlying28 rfl HIA.out ?_) | (with_reducible refine wpList_load_row rfl 28 (.tmp 1) rfl g rfl 28 vs.toArray (0, 0) _ (HGB.out _ hb3) Tryz.underlying28 rfl HIA.out ?_))
        go_ret
        exact ⟨ret_bool (by rw [HZ.out]), by rw [← HGG.out]; exact HWB.out.trans (hb3.mono HWS.out)⟩
      · have HZ : Hid (R = true) := Lib.hid (by rw [HOP.out] <;> simp [qf])
        go_wp2_with (first | (refine tload_rowG rfl 28 (.tmp 1) rfl g rfl 28 vs.toArray (0, 0) _ (HGB.out _ hb2) Tryz.underlying28 rfl HIA.out ?_) | (with_reducible refine wpList_load_row rfl 28 (.tmp 1) rfl g rfl 28 vs.toArray (0, 0) _ (HGB.out _ hb2) Tryz.underlying28 rfl HIA.out ?_))
        refine (S1.out w2 hb2).mono ?_
        rintro e w3 ⟨rfl, hb3'⟩
        have hb3 := hb2.trans (hb3'.mono hb2.size)
        have r0 := (H8.out w3 hb3).p0
        have r1 := (H8.out w3 hb3).p1
        have r2 := (H8.out w3 hb3).p2
        have r3 := (H8.out w3 hb3).p3
        have r4 := (H8.out w3 hb3).p4
        have r5 := (H8.out w3 hb3).p5
        have r6 := (H8.out w3 hb3).p6
        have r7 := (H8.out w3 hb3).p7
        clear q0 q1 q2 q3 q4 q5 q6 q7
        have q0 := r0
        have q1 := r1
        have q2 := r2
        have q3 := r3
        have q4 := r4
        have q5 := r5
        have q6 := r6
        have q7 := r7
        clear r0 r1 r2 r3 r4 r5 r6 r7
        go_wp2_with (first | (refine tload_rowG rfl 28 (.tmp 1) rfl g rfl 28 vs.toArray (0, 0) _ (HGB.out _ hb3) Tryz.underlying28 rfl HIA.out ?_) | (with_reducible refine wpList_load_row rfl 28 (.tmp 1) rfl g rfl 28 vs.toArray (0, 0) _ (HGB.out _ hb3) Tryz.underlying28 rfl HIA.out ?_))
        go_ret
        exact ⟨ret_bool (by rw [HZ.out]), by rw [← HGG.out]; exact HWB.out.trans (hb3.mono HWS.out)⟩
  by_cases k22 : k = 22
  · subst k22
    have HOP : Hid (R = (ops)) := Lib.hid HDEF.out
    clear HDEF
    cases ops
    · have HZ : Hid (R = false) := Lib.hid (by rw [HOP.out] <;> simp [])
      go_wp2_with (first | (refine tload_rowG rfl 28 (.tmp 1) rfl g rfl 28 vs.toArray (0, 0) _ (HGB.out _ hb2) Tryz.underlying28 rfl HIA.out ?_) | (with_reducible refine wpList_load_row rfl 28 (.tmp 1) rfl g rfl 28 vs.toArray (0, 0) _ (HGB.out _ hb2) Tryz.underlying28 rfl HIA.out ?_))
      refine (OP.out w2 hb2).mono ?_
      rintro e w3 ⟨rfl, hb3'⟩
      have hb3 := hb2.trans (hb3'.mono hb2.size)
      have r0 := (H8.out w3 hb3).p0
      have r1 := (H8.out w3 hb3).p1
      have r2 := (H8.out w3 hb3).p2
      have r3 := (H8.out w3 hb3).p3
      have r4 := (H8.out w3 hb3).p4
      have r5 := (H8.out w3 hb3).p5
      have r6 := (H8.out w3 hb3).p6
      have r7 := (H8.out w3 hb3).p7
      clear q0 q1 q2 q3 q4 q5 q6 q7
      have q0 := r0
      have q1 := r1
      have q2 := r2
      have q3 := r3
      have q4 := r4
      have q5 := r5
      have q6 := r6
      have q7 := r7
      clear r0 r1 r2 r3 r4 r5 r6 r7
      go_wp2_with (first | (refine tload_rowG rfl 28 (.tmp 1) rfl g rfl 28 vs.toArray (0, 0) _ (HGB.out _ hb3) Tryz.underlying28 rfl HIA.out ?_) | (with_reducible refine wpList_load_row rfl 28 (.tmp 1) rfl g rfl 28 vs.toArray (0, 0) _ (HGB.out _ hb3) Tryz.underlying28 rfl HIA.out ?_))
      go_ret
      exact ⟨ret_bool (by rw [HZ.out]), by rw [← HGG.out]; exact HWB.out.trans (hb3.mono HWS.out)⟩
    · have HZ : Hid (R = true) := Lib.hid (by rw [HOP.out] <;> simp [])
      go_wp2_with (first | (refine tload_rowG rfl 28 (.tmp 1) rfl g rfl 28 vs.toArray (0, 0) _ (HGB.out _ hb2) Tryz.underlying28 rfl HIA.out ?_) | (with_reducible refine wpList_load_row rfl 28 (.tmp 1) rfl g rfl 28 vs.toArray (0, 0) _ (HGB.out _ hb2) Tryz.underlying28 rfl HIA.out ?_))
      refine (OP.out w2 hb2).mono ?_
      rintro e w3 ⟨rfl, hb3'⟩
      have hb3 := hb2.trans (hb3'.mono hb2.size)
      have r0 := (H8.out w3 hb3).p0
      have r1 := (H8.out w3 hb3).p1
      have r2 := (H8.out w3 hb3).p2
      have r3 := (H8.out w3 hb3).p3
      have r4 := (H8.out w3 hb3).p4
      have r5 := (H8.out w3 hb3).p5
      have r6 := (H8.out w3 hb3).p6
      have r7 := (H8.out w3 hb3).p7
      clear q0 q1 q2 q3 q4 q5 q6 q7
      have q0 := r0
      have q1 := r1
      have q2 := r2
      have q3 := r3
      have q4 := r4
      have q5 := r5
      have q6 := r6
      have q7 := r7
      clear r0 r1 r2 r3 r4 r5 r6 r7
      go_wp2_with (first | (refine tload_rowG rfl 28 (.tmp 1) rfl g rfl 28 vs.toArray (0, 0) _ (HGB.out _ hb3) Tryz.underlying28 rfl HIA.out ?_) | (with_reducible refine wpList_load_row rfl 28 (.tmp 1) rfl g rfl 28 vs.toArray (0, 0) _ (HGB.out _ hb3) Tryz.underlying28 rfl HIA.out ?_))
      go_ret
      exact ⟨ret_bool (by rw [HZ.out]), by rw [← HGG.out]; exact HWB.out.trans (hb3.mono HWS.out)⟩
  by_cases k23 : k = 23
  · subst k23
    have HOP : Hid (R = (ops)) := Lib.hid HDEF.out
    clear HDEF
    cases ops
    · have HZ : Hid (R = false) := Lib.hid (by rw [HOP.out] <;> simp [])
      go_wp2_with (first | (refine tload_rowG rfl 28 (.tmp 1) rfl g rfl 28 vs.toArray (0, 0) _ (HGB.out _ hb2) Tryz.underlying28 rfl HIA.out ?_) | (with_reducible refine wpList_load_row rfl 28 (.tmp 1) rfl g rfl 28 vs.toArray (0, 0) _ (HGB.out _ hb2) Tryz.underlying28 rfl HIA.out ?_))
      refine (OP.out w2 hb2).mono ?_
      rintro e w3 ⟨rfl, hb3'⟩
      have hb3 := hb2.trans (hb3'.mono hb2.size)
      have r0 := (H8.out w3 hb3).p0
      have r1 := (H8.out w3 hb3).p1
      have r2 := (H8.out w3 hb3).p2
      have r3 := (H8.out w3 hb3).p3
      have r4 := (H8.out w3 hb3).p4
      have r5 := (H8.out w3 hb3).p5
      have r6 := (H8.out w3 hb3).p6
      have r7 := (H8.out w3 hb3).p7
      clear q0 q1 q2 q3 q4 q5 q6 q7
      have q0 := r0
      have q1 := r1
      have q2 := r2
      have q3 := r3
      have q4 := r4
      have q5 := r5
      have q6 := r6
      have q7 := r7
      clear r0 r1 r2 r3 r4 r5 r6 r7
      go_wp2_with (first | (refine tload_rowG rfl 28 (.tmp 1) rfl g rfl 28 vs.toArray (0, 0) _ (HGB.out _ hb3) Tryz.underlying28 rfl HIA.out ?_) | (with_reducible refine wpList_load_row rfl 28 (.tmp 1) rfl g rfl 28 vs.toArray (0, 0) _ (HGB.out _ hb3) Tryz.underlying28 rfl HIA.out ?_))
      go_ret
      exact ⟨ret_bool (by rw [HZ.out]), by rw [← HGG.out]; exact HWB.out.trans (hb3.mono HWS.out)⟩
    · have HZ : Hid (R = true) := Lib.hid (by rw [HOP.out] <;> simp [])
      go_wp2_with (first | (refine tload_rowG rfl 28 (.tmp 1) rfl g rfl 28 vs.toArray (0, 0) _ (HGB.out _ hb2) Tryz.underlying28 rfl HIA.out ?_) | (with_reducible refine wpList_load_row rfl 28 (.tmp 1) rfl g rfl 28 vs.toArray (0, 0) _ (HGB.out _ hb2) Tryz.underlying28 rfl HIA.out ?_))
      refine (OP.out w2 hb2).mono ?_
      rintro e w3 ⟨rfl, hb3'⟩
      have hb3 := hb2.trans (hb3'.mono hb2.size)
      have r0 := (H8.out w3 hb3).p0
      have r1 := (H8.out w3 hb3).p1
      have r2 := (H8.out w3 hb3).p2
      have r3 := (H8.out w3 hb3).p3
      have r4 := (H8.out w3 hb3).p4
      have r5 := (H8.out w3 hb3).p5
      have r6 := (H8.out w3 hb3).p6
      have r7 := (H8.out w3 hb3).p7
      clear q0 q1 q2 q3 q4 q5 q6 q7
      have q0 := r0
      have q1 := r1
      have q2 := r2
      have q3 := r3
      have q4 := r4
      have q5 := r5
      have q6 := r6
      have q7 := r7
      clear r0 r1 r2 r3 r4 r5 r6 r7
      go_wp2_with (first | (refine tload_rowG rfl 28 (.tmp 1) rfl g rfl 28 vs.toArray (0, 0) _ (HGB.out _ hb3) Tryz.underlying28 rfl HIA.out ?_) | (with_reducible refine wpList_load_row rfl 28 (.tmp 1) rfl g rfl 28 vs.toArray (0, 0) _ (HGB.out _ hb3) Tryz.underlying28 rfl HIA.out ?_))
      go_ret
      exact ⟨ret_bool (by rw [HZ.out]), by rw [← HGG.out]; exact HWB.out.trans (hb3.mono HWS.out)⟩
  by_cases k24 : k = 24
  · subst k24
    have HOP : Hid (R = ((f == 0) && kp0)) := Lib.hid HDEF.out
    clear HDEF
    cases qf : (f == 0)
    · have HZ : Hid (R = false) := Lib.hid (by rw [HOP.out] <;> simp [qf])
      go_wp2_with (first | (refine tload_rowG rfl 28 (.tmp 1) rfl g rfl 28 vs.toArray (0, 0) _ (HGB.out _ hb2) Tryz.underlying28 rfl HIA.out ?_) | (with_reducible refine wpList_load_row rfl 28 (.tmp 1) rfl g rfl 28 vs.toArray (0, 0) _ (HGB.out _ hb2) Tryz.underlying28 rfl HIA.out ?_))
      go_ret
      exact ⟨ret_bool (by rw [HZ.out]), by rw [← HGG.out]; exact HWB.out.trans (hb2.mono HWS.out)⟩
    · cases kp0
      · have HZ : Hid (R = false) := Lib.hid (by rw [HOP.out] <;> simp [qf])
        go_wp2_with (first | (refine tload_rowG rfl 28 (.tmp 1) rfl g rfl 28 vs.toArray (0, 0) _ (HGB.out _ hb2) Tryz.underlying28 rfl HIA.out ?_) | (with_reducible refine wpList_load_row rfl 28 (.tmp 1) rfl g rfl 28 vs.toArray (0, 0) _ (HGB.out _ hb2) Tryz.underlying28 rfl HIA.out ?_))
        refine (Kp0.out w2 hb2).mono ?_
        rintro e w3 ⟨rfl, hb3'⟩
        have hb3 := hb2.trans (hb3'.mono hb2.size)
        have r0 := (H8.out w3 hb3).p0
        have r1 := (H8.out w3 hb3).p1
        have r2 := (H8.out w3 hb3).p2
        have r3 := (H8.out w3 hb3).p3
        have r4 := (H8.out w3 hb3).p4
        have r5 := (H8.out w3 hb3).p5
        have r6 := (H8.out w3 hb3).p6
        have r7 := (H8.out w3 hb3).p7
        clear q0 q1 q2 q3 q4 q5 q6 q7
        have q0 := r0
        have q1 := r1
        have q2 := r2
        have q3 := r3
        have q4 := r4
        have q5 := r5
        have q6 := r6
        have q7 := r7
        clear r0 r1 r2 r3 r4 r5 r6 r7
        go_wp2_with (first | (refine tload_rowG rfl 28 (.tmp 1) rfl g rfl 28 vs.toArray (0, 0) _ (HGB.out _ hb3) Tryz.underlying28 rfl HIA.out ?_) | (with_reducible refine wpList_load_row rfl 28 (.tmp 1) rfl g rfl 28 vs.toArray (0, 0) _ (HGB.out _ hb3) Tryz.underlying28 rfl HIA.out ?_))
        go_ret
        exact ⟨ret_bool (by rw [HZ.out]), by rw [← HGG.out]; exact HWB.out.trans (hb3.mono HWS.out)⟩
      · have HZ : Hid (R = true) := Lib.hid (by rw [HOP.out] <;> simp [qf])
        go_wp2_with (first | (refine tload_rowG rfl 28 (.tmp 1) rfl g rfl 28 vs.toArray (0, 0) _ (HGB.out _ hb2) Tryz.underlying28 rfl HIA.out ?_) | (with_reducible refine wpList_load_row rfl 28 (.tmp 1) rfl g rfl 28 vs.toArray (0, 0) _ (HGB.out _ hb2) Tryz.underlying28 rfl HIA.out ?_))
        refine (Kp0.out w2 hb2).mono ?_
        rintro e w3 ⟨rfl, hb3'⟩
        have hb3 := hb2.trans (hb3'.mono hb2.size)
        have r0 := (H8.out w3 hb3).p0
        have r1 := (H8.out w3 hb3).p1
        have r2 := (H8.out w3 hb3).p2
        have r3 := (H8.out w3 hb3).p3
        have r4 := (H8.out w3 hb3).p4
        have r5 := (H8.out w3 hb3).p5
        have r6 := (H8.out w3 hb3).p6
        have r7 := (H8.out w3 hb3).p7
        clear q0 q1 q2 q3 q4 q5 q6 q7
        have q0 := r0
        have q1 := r1
        have q2 := r2
        have q3 := r3
        have q4 := r4
        have q5 := r5
        have q6 := r6
        have q7 := r7
        clear r0 r1 r2 r3 r4 r5 r6 r7
        go_wp2_with (first | (refine tload_rowG rfl 28 (.tmp 1) rfl g rfl 28 vs.toArray (0, 0) _ (HGB.out _ hb3) Tryz.underlying28 rfl HIA.out ?_) | (with_reducible refine wpList_load_row rfl 28 (.tmp 1) rfl g rfl 28 vs.toArray (0, 0) _ (HGB.out _ hb3) Tryz.underlying28 rfl HIA.out ?_))
        go_ret
        exact ⟨ret_bool (by rw [HZ.out]), by rw [← HGG.out]; exact HWB.out.trans (hb3.mono HWS.out)⟩
  by_cases k25 : k = 25
  · subst k25
    have HOP : Hid (R = ((f == 0) && kaa0)) := Lib.hid HDEF.out
    clear HDEF
    cases qf : (f == 0)
    · have HZ : Hid (R = false) := Lib.hid (by rw [HOP.out] <;> simp [qf])
      go_wp2_with (first | (refine tload_rowG rfl 28 (.tmp 1) rfl g rfl 28 vs.toArray (0, 0) _ (HGB.out _ hb2) Tryz.underlying28 rfl HIA.out ?_) | (with_reducible refine wpList_load_row rfl 28 (.tmp 1) rfl g rfl 28 vs.toArray (0, 0) _ (HGB.out _ hb2) Tryz.underlying28 rfl HIA.out ?_))
      go_ret
      exact ⟨ret_bool (by rw [HZ.out]), by rw [← HGG.out]; exact HWB.out.trans (hb2.mono HWS.out)⟩
    · cases kaa0
      · have HZ : Hid (R = false) := Lib.hid (by rw [HOP.out] <;> simp [qf])
        go_wp2_with (first | (refine tload_rowG rfl 28 (.tmp 1) rfl g rfl 28 vs.toArray (0, 0) _ (HGB.out _ hb2) Tryz.underlying28 rfl HIA.out ?_) | (with_reducible refine wpList_load_row rfl 28 (.tmp 1) rfl g rfl 28 vs.toArray (0, 0) _ (HGB.out _ hb2) Tryz.underlying28 rfl HIA.out ?_))
        refine (Kaa0.out w2 hb2).mono ?_
        rintro e w3 ⟨rfl, hb3'⟩
        have hb3 := hb2.trans (hb3'.mono hb2.size)
        have r0 := (H8.out w3 hb3).p0
        have r1 := (H8.out w3 hb3).p1
        have r2 := (H8.out w3 hb3).p2
        have r3 := (H8.out w3 hb3).p3
        have r4 := (H8.out w3 hb3).p4
        have r5 := (H8.out w3 hb3).p5
        have r6 := (H8.out w3 hb3).p6
        have r7 := (H8.out w3 hb3).p7
        clear q0 q1 q2 q3 q4 q5 q6 q7
        have q0 := r0
        have q1 := r1
        have q2 := r2
        have q3 := r3
        have q4 := r4
        have q5 := r5
        have q6 := r6
        have q7 := r7
        clear r0 r1 r2 r3 r4 r5 r6 r7
        go_wp2_with (first | (refine tload_rowG rfl 28 (.tmp 1) rfl g rfl 28 vs.toArray (0, 0) _ (HGB.out _ hb3) Tryz.underlying28 rfl HIA.out ?_) | (with_reducible refine wpList_load_row rfl 28 (.tmp 1) rfl g rfl 28 vs.toArray (0, 0) _ (HGB.out _ hb3) Tryz.underlying28 rfl HIA.out ?_))
        go_ret
        exact ⟨ret_bool (by rw [HZ.out]), by rw [← HGG.out]; exact HWB.out.trans (hb3.mono HWS.out)⟩
      · have HZ : Hid (R = true) := Lib.hid (by rw [HOP.out] <;> simp [qf])
        go_wp2_with (first | (refine tload_rowG rfl 28 (.tmp 1) rfl g rfl 28 vs.toArray (0, 0) _ (HGB.out _ hb2) Tryz.underlying28 rfl HIA.out ?_) | (with_reducible refine wpList_load_row rfl 28 (.tmp 1) rfl g rfl 28 vs.toArray (0, 0) _ (HGB.out _ hb2) Tryz.underlying28 rfl HIA.out ?_))
        refine (Kaa0.out w2 hb2).mono ?_
        rintro e w3 ⟨rfl, hb3'⟩
        have hb3 := hb2.trans (hb3'.mono hb2.size)
        have r0 := (H8.out w3 hb3).p0
        have r1 := (H8.out w3 hb3).p1
        have r2 := (H8.out w3 hb3).p2
        have r3 := (H8.out w3 hb3).p3
        have r4 := (H8.out w3 hb3).p4
        have r5 := (H8.out w3 hb3).p5
        have r6 := (H8.out w3 hb3).p6
        have r7 := (H8.out w3 hb3).p7
        clear q0 q1 q2 q3 q4 q5 q6 q7
        have q0 := r0
        have q1 := r1
        have q2 := r2
        have q3 := r3
        have q4 := r4
        have q5 := r5
        have q6 := r6
        have q7 := r7
        clear r0 r1 r2 r3 r4 r5 r6 r7
        go_wp2_with (first | (refine tload_rowG rfl 28 (.tmp 1) rfl g rfl 28 vs.toArray (0, 0) _ (HGB.out _ hb3) Tryz.underlying28 rfl HIA.out ?_) | (with_reducible refine wpList_load_row rfl 28 (.tmp 1) rfl g rfl 28 vs.toArray (0, 0) _ (HGB.out _ hb3) Tryz.underlying28 rfl HIA.out ?_))
        go_ret
        exact ⟨ret_bool (by rw [HZ.out]), by rw [← HGG.out]; exact HWB.out.trans (hb3.mono HWS.out)⟩
  by_cases k26 : k = 26
  · subst k26
    have HOP : Hid (R = ((f == 0) && kaa0)) := Lib.hid HDEF.out
    clear HDEF
    cases qf : (f == 0)
    · have HZ : Hid (R = false) := Lib.hid (by rw [HOP.out] <;> simp [qf])
      go_wp2_with (first | (refine tload_rowG rfl 28 (.tmp 1) rfl g rfl 28 vs.toArray (0, 0) _ (HGB.out _ hb2) Tryz.underlying28 rfl HIA.out ?_) | (with_reducible refine wpList_load_row rfl 28 (.tmp 1) rfl g rfl 28 vs.toArray (0, 0) _ (HGB.out _ hb2) Tryz.underlying28 rfl HIA.out ?_))
      go_ret
      exact ⟨ret_bool (by rw [HZ.out]), by rw [← HGG.out]; exact HWB.out.trans (hb2.mono HWS.out)⟩
    · cases kaa0
      · have HZ : Hid (R = false) := Lib.hid (by rw [HOP.out] <;> simp [qf])
        go_wp2_with (first | (refine tload_rowG rfl 28 (.tmp 1) rfl g rfl 28 vs.toArray (0, 0) _ (HGB.out _ hb2) Tryz.underlying28 rfl HIA.out ?_) | (with_reducible refine wpList_load_row rfl 28 (.tmp 1) rfl g rfl 28 vs.toArray (0, 0) _ (HGB.out _ hb2) Tryz.underlying28 rfl HIA.out ?_))
        refine (Kaa0.out w2 hb2).mono ?_
        rintro e w3 ⟨rfl, hb3'⟩
        have hb3 := hb2.trans (hb3'.mono hb2.size)
        have r0 := (H8.out w3 hb3).p0
        have r1 := (H8.out w3 hb3).p1
        have r2 := (H8.out w3 hb3).p2
        have r3 := (H8.out w3 hb3).p3
        have r4 := (H8.out w3 hb3).p4
        have r5 := (H8.out w3 hb3).p5
        have r6 := (H8.out w3 hb3).p6
        have r7 := (H8.out w3 hb3).p7
        clear q0 q1 q2 q3 q4 q5 q6 q7
        have q0 := r0
        have q1 := r1
        have q2 := r2
        have q3 := r3
        have q4 := r4
        have q5 := r5
        have q6 := r6
        have q7 := r7
        clear r0 r1 r2 r3 r4 r5 r6 r7
        go_wp2_with (first | (refine tload_rowG rfl 28 (.tmp 1) rfl g rfl 28 vs.toArray (0, 0) _ (HGB.out _ hb3) Tryz.underlying28 rfl HIA.out ?_) | (with_reducible refine wpList_load_row rfl 28 (.tmp 1) rfl g rfl 28 vs.toArray (0, 0) _ (HGB.out _ hb3) Tryz.underlying28 rfl HIA.out ?_))
        go_ret
        exact ⟨ret_bool (by rw [HZ.out]), by rw [← HGG.out]; exact HWB.out.trans (hb3.mono HWS.out)⟩
      · have HZ : Hid (R = true) := Lib.hid (by rw [HOP.out] <;> simp [qf])
        go_wp2_with (first | (refine tload_rowG rfl 28 (.tmp 1) rfl g rfl 28 vs.toArray (0, 0) _ (HGB.out _ hb2) Tryz.underlying28 rfl HIA.out ?_) | (with_reducible refine wpList_load_row rfl 28 (.tmp 1) rfl g rfl 28 vs.toArray (0, 0) _ (HGB.out _ hb2) Tryz.underlying28 rfl HIA.out ?_))
        refine (Kaa0.out w2 hb2).mono ?_
        rintro e w3 ⟨rfl, hb3'⟩
        have hb3 := hb2.trans (hb3'.mono hb2.size)
        have r0 := (H8.out w3 hb3).p0
        have r1 := (H8.out w3 hb3).p1
        have r2 := (H8.out w3 hb3).p2
        have r3 := (H8.out w3 hb3).p3
        have r4 := (H8.out w3 hb3).p4
        have r5 := (H8.out w3 hb3).p5
        have r6 := (H8.out w3 hb3).p6
        have r7 := (H8.out w3 hb3).p7
        clear q0 q1 q2 q3 q4 q5 q6 q7
        have q0 := r0
        have q1 := r1
        have q2 := r2
        have q3 := r3
        have q4 := r4
        have q5 := r5
        have q6 := r6
        have q7 := r7
        clear r0 r1 r2 r3 r4 r5 r6 r7
        go_wp2_with (first | (refine tload_rowG rfl 28 (.tmp 1) rfl g rfl 28 vs.toArray (0, 0) _ (HGB.out _ hb3) Tryz.underlying28 rfl HIA.out ?_) | (with_reducible refine wpList_load_row rfl 28 (.tmp 1) rfl g rfl 28 vs.toArray (0, 0) _ (HGB.out _ hb3) Tryz.underlying28 rfl HIA.out ?_))
        go_ret
        exact ⟨ret_bool (by rw [HZ.out]), by rw [← HGG.out]; exact HWB.out.trans (hb3.mono HWS.out)⟩
  by_cases k27 : k = 27
  · subst k27
    have HOP : Hid (R = ((f == 2) && nt && kf0)) := Lib.hid HDEF.out
    clear HDEF
    cases qf : (f == 2)
    · have HZ : Hid (R = false) := Lib.hid (by rw [HOP.out] <;> simp [qf])
      go_wp2_with (first | (refine tload_rowG rfl 28 (.tmp 1) rfl g rfl 28 vs.toArray (0, 0) _ (HGB.out _ hb2) Tryz.underlying28 rfl HIA.out ?_) | (with_reducible refine wpList_load_row rfl 28 (.tmp 1) rfl g rfl 28 vs.toArray (0, 0) _ (HGB.out _ hb2) Tryz.underlying28 rfl HIA.out ?_))
      go_ret
      exact ⟨ret_bool (by rw [HZ.out]), by rw [← HGG.out]; exact HWB.out.trans (hb2.mono HWS.out)⟩
    · cases nt
      · have HZ : Hid (R = false) := Lib.hid (by rw [HOP.out] <;> simp [qf])
        go_wp2_with (first | (refine tload_rowG rfl 28 (.tmp 1) rfl g rfl 28 vs.toArray (0, 0) _ (HGB.out _ hb2) Tryz.underlying28 rfl HIA.out ?_) | (with_reducible refine wpList_load_row rfl 28 (.tmp 1) rfl g rfl 28 vs.toArray (0, 0) _ (HGB.out _ hb2) Tryz.underlying28 rfl HIA.out ?_))
        refine (NMt.out w2).mono ?_
        rintro e w3 ⟨rfl, hb3'⟩
        have hb3 := hb2.trans (hb3'.mono hb2.size)
        have r0 := (H8.out w3 hb3).p0
        have r1 := (H8.out w3 hb3).p1
        have r2 := (H8.out w3 hb3).p2
        have r3 := (H8.out w3 hb3).p3
        have r4 := (H8.out w3 hb3).p4
        have r5 := (H8.out w3 hb3).p5
        have r6 := (H8.out w3 hb3).p6
        have r7 := (H8.out w3 hb3).p7
        clear q0 q1 q2 q3 q4 q5 q6 q7
        have q0 := r0
        have q1 := r1
        have q2 := r2
        have q3 := r3
        have q4 := r4
        have q5 := r5
        have q6 := r6
        have q7 := r7
        clear r0 r1 r2 r3 r4 r5 r6 r7
        go_wp2_with (first | (refine tload_rowG rfl 28 (.tmp 1) rfl g rfl 28 vs.toArray (0, 0) _ (HGB.out _ hb3) Tryz.underlying28 rfl HIA.out ?_) | (with_reducible refine wpList_load_row rfl 28 (.tmp 1) rfl g rfl 28 vs.toArray (0, 0) _ (HGB.out _ hb3) Tryz.underlying28 rfl HIA.out ?_))
        go_ret
        exact ⟨ret_bool (by rw [HZ.out]), by rw [← HGG.out]; exact HWB.out.trans (hb3.mono HWS.out)⟩
      · cases kf0
        · have HZ : Hid (R = false) := Lib.hid (by rw [HOP.out] <;> simp [qf])
          go_wp2_with (first | (refine tload_rowG rfl 28 (.tmp 1) rfl g rfl 28 vs.toArray (0, 0) _ (HGB.out _ hb2) Tryz.underlying28 rfl HIA.out ?_) | (with_reducible refine wpList_load_row rfl 28 (.tmp 1) rfl g rfl 28 vs.toArray (0, 0) _ (HGB.out _ hb2) Tryz.underlying28 rfl HIA.out ?_))
          refine (NMt.out w2).mono ?_
          rintro e w3 ⟨rfl, hb3'⟩
          have hb3 := hb2.trans (hb3'.mono hb2.size)
          have r0 := (H8.out w3 hb3).p0
          have r1 := (H8.out w3 hb3).p1
          have r2 := (H8.out w3 hb3).p2
          have r3 := (H8.out w3 hb3).p3
          have r4 := (H8.out w3 hb3).p4
          have r5 := (H8.out w3 hb3).p5
          have r6 := (H8.out w3 hb3).p6
          have r7 := (H8.out w3 hb3).p7
          clear q0 q1 q2 q3 q4 q5 q6 q7
          have q0 := r0
          have q1 := r1
          have q2 := r2
          have q3 := r3
          have q4 := r4
          have q5 := r5
          have q6 := r6
          have q7 := r7
          clear r0 r1 r2 r3 r4 r5 r6 r7
          go_wp2_with (first | (refine tload_rowG rfl 28 (.tmp 1) rfl g rfl 28 vs.toArray (0, 0) _ (HGB.out _ hb3) Tryz.underlying28 rfl HIA.out ?_) | (with_reducible refine wpList_load_row rfl 28 (.tmp 1) rfl g rfl 28 vs.toArray (0, 0) _ (HGB.out _ hb3) Tryz.underlying28 rfl HIA.out ?_))
          refine (Kf0.out w3 hb3).mono ?_
          rintro e w4 ⟨rfl, hb4'⟩
          have hb4 := hb3.trans (hb4'.mono hb3.size)
          have r0 := (H8.out w4 hb4).p0
          have r1 := (H8.out w4 hb4).p1
          have r2 := (H8.out w4 hb4).p2
          have r3 := (H8.out w4 hb4).p3
          have r4 := (H8.out w4 hb4).p4
          have r5 := (H8.out w4 hb4).p5
          have r6 := (H8.out w4 hb4).p6
          have r7 := (H8.out w4 hb4).p7
          clear q0 q1 q2 q3 q4 q5 q6 q7
          have q0 := r0
          have q1 := r1
          have q2 := r2
          have q3 := r3
          have q4 := r4
          have q5 := r5
          have q6 := r6
          have q7 := r7
          clear r0 r1 r2 r3 r4 r5 r6 r7
          go_wp2_with (first | (refine tload_rowG rfl 28 (.tmp 1) rfl g rfl 28 vs.toArray (0, 0) _ (HGB.out _ hb4) Tryz.underlying28 rfl HIA.out ?_) | (with_reducible refine wpList_load_row rfl 28 (.tmp 1) rfl g rfl 28 vs.toArray (0, 0) _ (HGB.out _ hb4) Tryz.underlying28 rfl HIA.out ?_))
          go_ret
          exact ⟨ret_bool (by rw [HZ.out]), by rw [← HGG.out]; exact HWB.out.trans (hb4.mono HWS.out)⟩
        · have HZ : Hid (R = true) := Lib.hid (by rw [HOP.out] <;> simp [qf])
          go_wp2_with (first | (refine tload_rowG rfl 28 (.tmp 1) rfl g rfl 28 vs.toArray (0, 0) _ (HGB.out _ hb2) Tryz.underlying28 rfl HIA.out ?_) | (with_reducible refine wpList_load_row rfl 28 (.tmp 1) rfl g rfl 28 vs.toArray (0, 0) _ (HGB.out _ hb2) Tryz.underlying28 rfl HIA.out ?_))
          refine (NMt.out w2).mono ?_
          rintro e w3 ⟨rfl, hb3'⟩
          have hb3 := hb2.trans (hb3'.mono hb2.size)
          have r0 := (H8.out w3 hb3).p0
          have r1 := (H8.out w3 hb3).p1
          have r2 := (H8.out w3 hb3).p2
          have r3 := (H8.out w3 hb3).p3
          have r4 := (H8.out w3 hb3).p4
          have r5 := (H8.out w3 hb3).p5
          have r6 := (H8.out w3 hb3).p6
          have r7 := (H8.out w3 hb3).p7
          clear q0 q1 q2 q3 q4 q5 q6 q7
          have q0 := r0
          have q1 := r1
          have q2 := r2
          have q3 := r3
          have q4 := r4
          have q5 := r5
          have q6 := r6
          have q7 := r7
          clear r0 r1 r2 r3 r4 r5 r6 r7
          go_wp2_with (first | (refine tload_rowG rfl 28 (.tmp 1) rfl g rfl 28 vs.toArray (0, 0) _ (HGB.out _ hb3) Tryz.underlying28 rfl HIA.out ?_) | (with_reducible refine wpList_load_row rfl 28 (.tmp 1) rfl g rfl 28 vs.toArray (0, 0) _ (HGB.out _ hb3) Tryz.underlying28 rfl HIA.out ?_))
          refine (Kf0.out w3 hb3).mono ?_
          rintro e w4 ⟨rfl, hb4'⟩
          have hb4 := hb3.trans (hb4'.mono hb3.size)
          have r0 := (H8.out w4 hb4).p0
          have r1 := (H8.out w4 hb4).p1
          have r2 := (H8.out w4 hb4).p2
          have r3 := (H8.out w4 hb4).p3
          have r4 := (H8.out w4 hb4).p4
          have r5 := (H8.out w4 hb4).p5
          have r6 := (H8.out w4 hb4).p6
          have r7 := (H8.out w4 hb4).p7
          clear q0 q1 q2 q3 q4 q5 q6 q7
          have q0 := r0
          have q1 := r1
          have q2 := r2
          have q3 := r3
          have q4 := r4
          have q5 := r5
          have q6 := r6
          have q7 := r7
          clear r0 r1 r2 r3 r4 r5 r6 r7
          go_wp2_with (first | (refine tload_rowG rfl 28 (.tmp 1) rfl g rfl 28 vs.toArray (0, 0) _ (HGB.out _ hb4) Tryz.underlying28 rfl HIA.out ?_) | (with_reducible refine wpList_load_row rfl 28 (.tmp 1) rfl g rfl 28 vs.toArray (0, 0) _ (HGB.out _ hb4) Tryz.underlying28 rfl HIA.out ?_))
          go_ret
          exact ⟨ret_bool (by rw [HZ.out]), by rw [← HGG.out]; exact HWB.out.trans (hb4.mono HWS.out)⟩
  by_cases k28 : k = 28
  · subst k28
    have HOP : Hid (R = ((f == 0) && s0)) := Lib.hid HDEF.out
    clear HDEF
    cases qf : (f == 0)
    · have HZ : Hid (R = false) := Lib.hid (by rw [HOP.out] <;> simp [qf])
      go_wp2_with (first | (refine tload_rowG rfl 28 (.tmp 1) rfl g rfl 28 vs.toArray (0, 0) _ (HGB.out _ hb2) Tryz.underlying28 rfl HIA.out ?_) | (with_reducible refine wpList_load_row rfl 28 (.tmp 1) rfl g rfl 28 vs.toArray (0, 0) _ (HGB.out _ hb2) Tryz.underlying28 rfl HIA.out ?_))
      go_ret
      exact ⟨ret_bool (by rw [HZ.out]), by rw [← HGG.out]; exact HWB.out.trans (hb2.mono HWS.out)⟩
    · cases s0
      · have HZ : Hid (R = false) := Lib.hid (by rw [HOP.out] <;> simp [qf])
        go_wp2_with (first | (refine tload_rowG rfl 28 (.tmp 1) rfl g rfl 28 vs.toArray (0, 0) _ (HGB.out _ hb2) Tryz.underlying28 rfl HIA.out ?_) | (with_reducible refine wpList_load_row rfl 28 (.tmp 1) rfl g rfl 28 vs.toArray (0, 0) _ (HGB.out _ hb2) Tryz.underlying28 rfl HIA.out ?_))
        refine (S0.out w2 hb2).mono ?_
        rintro e w3 ⟨rfl, hb3'⟩
        have hb3 := hb2.trans (hb3'.mono hb2.size)
        have r0 := (H8.out w3 hb3).p0
        have r1 := (H8.out w3 hb3).p1
        have r2 := (H8.out w3 hb3).p2
        have r3 := (H8.out w3 hb3).p3
        have r4 := (H8.out w3 hb3).p4
        have r5 := (H8.out w3 hb3).p5
        have r6 := (H8.out w3 hb3).p6
        have r7 := (H8.out w3 hb3).p7
        clear q0 q1 q2 q3 q4 q5 q6 q7
        have q0 := r0
        have q1 := r1
        have q2 := r2
        have q3 := r3
        have q4 := r4
        have q5 := r5
        have q6 := r6
        have q7 := r7
        clear r0 r1 r2 r3 r4 r5 r6 r7
        go_wp2_with (first | (refine tload_rowG rfl 28 (.tmp 1) rfl g rfl 28 vs.toArray (0, 0) _ (HGB.out _ hb3) Tryz.underlying28 rfl HIA.out ?_) | (with_reducible refine wpList_load_row rfl 28 (.tmp 1) rfl g rfl 28 vs.toArray (0, 0) _ (HGB.out _ hb3) Tryz.underlying28 rfl HIA.out ?_))
        go_ret
        exact ⟨ret_bool (by rw [HZ.out]), by rw [← HGG.out]; exact HWB.out.trans (hb3.mono HWS.out)⟩
      · have HZ : Hid (R = true) := Lib.hid (by rw [HOP.out] <;> simp [qf])
        go_wp2_with (first | (refine tload_rowG rfl 28 (.tmp 1) rfl g rfl 28 vs.toArray (0, 0) _ (HGB.out _ hb2) Tryz.underlying28 rfl HIA.out ?_) | (with_reducible refine wpList_load_row rfl 28 (.tmp 1) rfl g rfl 28 vs.toArray (0, 0) _ (HGB.out _ hb2) Tryz.underlying28 rfl HIA.out ?_))
        refine (S0.out w2 hb2).mono ?_
        rintro e w3 ⟨rfl, hb3'⟩
        have hb3 := hb2.trans (hb3'.mono hb2.size)
        have r0 := (H8.out w3 hb3).p0
        have r1 := (H8.out w3 hb3).p1
        have r2 := (H8.out w3 hb3).p2
        have r3 := (H8.out w3 hb3).p3
        have r4 := (H8.out w3 hb3).p4
        have r5 := (H8.out w3 hb3).p5
        have r6 := (H8.out w3 hb3).p6
        have r7 := (H8.out w3 hb3).p7
        clear q0 q1 q2 q3 q4 q5 q6 q7
        have q0 := r0
        have q1 := r1
        have q2 := r2
        have q3 := r3
        have q4 := r4
        have q5 := r5
        have q6 := r6
        have q7 := r7
        clear r0 r1 r2 r3 r4 r5 r6 r7
        go_wp2_with (first | (refine tload_rowG rfl 28 (.tmp 1) rfl g rfl 28 vs.toArray (0, 0) _ (HGB.out _ hb3) Tryz.underlying28 rfl HIA.out ?_) | (with_reducible refine wpList_load_row rfl 28 (.tmp 1) rfl g rfl 28 vs.toArray (0, 0) _ (HGB.out _ hb3) Tryz.underlying28 rfl HIA.out ?_))
        go_ret
        exact ⟨ret_bool (by rw [HZ.out]), by rw [← HGG.out]; exact HWB.out.trans (hb3.mono HWS.out)⟩
  have HZ : Hid (R = lf) := Lib.hid (by rw [HDEF.out]; simp [k8, k9, k11, k12, k13, k14, k15, k16, k20, k22, k23, k24, k25, k26, k27, k28])
  clear HDEF
  have n8 : (k == 8) = false := beq_eq_false_iff_ne.2 k8
  have n9 : (k == 9) = false := beq_eq_false_iff_ne.2 k9
  have n11 : (k == 11) = false := beq_eq_false_iff_ne.2 k11
  have n12 : (k == 12) = false := beq_eq_false_iff_ne.2 k12
  have n13 : (k == 13) = false := beq_eq_false_iff_ne.2 k13
  have n14 : (k == 14) = false := beq_eq_false_iff_ne.2 k14
  have n15 : (k == 15) = false := beq_eq_false_iff_ne.2 k15
  have n16 : (k == 16) = false := beq_eq_false_iff_ne.2 k16
  have n20 : (k == 20) = false := beq_eq_false_iff_ne.2 k20
  have n22 : (k == 22) = false := beq_eq_false_iff_ne.2 k22
  have n23 : (k == 23) = false := beq_eq_false_iff_ne.2 k23
  have n24 : (k == 24) = false := beq_eq_false_iff_ne.2 k24
  have n25 : (k == 25) = false := beq_eq_false_iff_ne.2 k25
  have n26 : (k == 26) = false := beq_eq_false_iff_ne.2 k26
  have n27 : (k == 27) = false := beq_eq_false_iff_ne.2 k27
  have n28 : (k == 28) = false := beq_eq_false_iff_ne.2 k28
  clear k8 k9 k11 k12 k13 k14 k15 k16 k20 k22 k23 k24 k25 k26 k27 k28
  go_wp2_with (first | (refine tload_rowG rfl 28 (.tmp 1) rfl g rfl 28 vs.toArray (0, 0) _ (HGB.out _ hb2) Tryz.underlying28 rfl HIA.out ?_) | (with_reducible refine wpList_load_row rfl 28 (.tmp 1) rfl g rfl 28 vs.toArray (0, 0) _ (HGB.out _ hb2) Tryz.underlying28 rfl HIA.out ?_))
  refine (LF.out w2 hb2).mono ?_
  rintro e w3 ⟨rfl, hb3'⟩
  have hb3 := hb2.trans (hb3'.mono hb2.size)
  have r0 := (H8.out w3 hb3).p0
  have r1 := (H8.out w3 hb3).p1
  have r2 := (H8.out w3 hb3).p2
  have r3 := (H8.out w3 hb3).p3
  have r4 := (H8.out w3 hb3).p4
  have r5 := (H8.out w3 hb3).p5
  have r6 := (H8.out w3 hb3).p6
  have r7 := (H8.out w3 hb3).p7
  clear q0 q1 q2 q3 q4 q5 q6 q7
  have q0 := r0
  have q1 := r1
  have q2 := r2
  have q3 := r3
  have q4 := r4
  have q5 := r5
  have q6 := r6
  have q7 := r7
  clear r0 r1 r2 r3 r4 r5 r6 r7
  go_wp2_with (first | (refine tload_rowG rfl 28 (.tmp 1) rfl g rfl 28 vs.toArray (0, 0) _ (HGB.out _ hb3) Tryz.underlying28 rfl HIA.out ?_) | (with_reducible refine wpList_load_row rfl 28 (.tmp 1) rfl g rfl 28 vs.toArray (0, 0) _ (HGB.out _ hb3) Tryz.underlying28 rfl HIA.out ?_))
  go_ret
  exact ⟨ret_bool (by rw [HZ.out]), by rw [← HGG.out]; exact HWB.out.trans (hb3.mono HWS.out)⟩
end Go.Proofs.YtceplkpjnebnfaaGreatDoor
