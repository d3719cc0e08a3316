/-
  The walk of scrimlaw33.AuditTells.
-/
import Derived.Test.YtfiobbhicicchaaDoorAudWake
import Derived.Test.YtfiobbhicicchaaDoorAudCount
import Derived.Test.YtfiobbhicicchaaDoorLabText3
namespace Go.Proofs.YtfiobbhicicchaaDoor
open Go.RowKit Ar
set_option maxHeartbeats 4000000
set_option maxRecDepth 100000
set_option linter.unusedVariables false

/-- Some answer; yes only of few. -/
def FewBool (n : Nat) (w : World) (e : Ending) (w' : World) : Prop := ∃ b, e = .returned (.bool b) ∧ (b = true → n ≤ 60) ∧ Below w.heap.size w w'
theorem fewRecs_any2 (A : Option Addr) (cp : Nat) (rs : List Rec) (us : List Value) (w : World) (B : Nat) (hl : Lies w B A us) (hrs : IsRecs w B rs us) (hB : B ≤ w.heap.size) (hn : rs.length ≤ 9223372036854775807) :
    Calls Tryd.prog 6 #[.slice A rs.length cp] w (FewBool rs.length w) := by
  by_cases h60 : rs.length ≤ 60
  · exact (fewRecs_any A cp rs us w B hl hrs hB hn).mono fun _ _ ⟨b, h1, h2⟩ => ⟨b, h1, fun _ => h60, h2⟩
  · have h60' : 60 < rs.length := by omega
    clear hl hrs h60
    go_enter Tryd.func6, Tryd.ntmps6
    go_wp2_with fail
    go_ret
    exact ⟨false, rfl, nofun, Below.refl _ _⟩

theorem given_lt {w : World} {B o : Nat} : ∀ {rs : List Rec} {us : List Value} (h : IsRecs w B rs us) {x : Nat} (hx : x < 18446744073709551616), given o x rs < 18446744073709551616
  | [], _, _, _, hx => hx
  | r :: t, us, h, x, hx => by
    obtain ⟨u, v, rfl, ⟨_, _, _, _, _, _, _, _, _, h1, h2, _⟩, h3⟩ := h
    rw [given]
    refine given_lt h3 ?_
    split
    · exact Lab.join_lt hx h1
    · exact hx

theorem refText33_any (C : Array Value) (A : Option Addr) (n cp o a b c g : Nat) (w : World) (hC : C.size = 36) (ho : o < 18446744073709551616) (hg : g < 18446744073709551616) (ha : a < 100) (hb : b < 100) (hc : c < 100)
    (h1 : ∀ wx, Below w.heap.size w wx → Calls Tryd.prog 16 #[.agg C, .slice A n cp, .int .u64 (o : Int), .int .i64 1] wx fun e w' => e = .returned (.int .i64 (a : Int)) ∧ Below wx.heap.size wx w')
    (h2 : ∀ wx, Below w.heap.size w wx → Calls Tryd.prog 16 #[.agg C, .slice A n cp, .int .u64 (o : Int), .int .i64 2] wx fun e w' => e = .returned (.int .i64 (b : Int)) ∧ Below wx.heap.size wx w')
    (h3 : ∀ wx, Below w.heap.size w wx → Calls Tryd.prog 16 #[.agg C, .slice A n cp, .int .u64 (o : Int), .int .i64 3] wx fun e w' => e = .returned (.int .i64 (c : Int)) ∧ Below wx.heap.size wx w')
    (h4 : ∀ wx, Below w.heap.size w wx → Calls Tryd.prog 18 #[.slice A n cp, .int .u64 (o : Int)] wx fun e w' => e = .returned (.int .u64 (g : Int)) ∧ Below wx.heap.size wx w') :
    Calls Tryd.prog 20 #[.agg C, .slice A n cp, .int .u64 (o : Int)] w fun e w' => e = .returned (strV (aText o a b c g)) ∧ Below w.heap.size w w' := by
  have HI : Hid ((Tryd.prog.info? 29).map (·.size) = some C.size) := Lib.hid (by rw [hC]; exact cfg_info)
  have l1 := labText_len ho
  have l2 := labText_len hg
  have d1 := dec100 ha
  have d2 := dec100 hb
  have d3 := dec100 hc
  have HR : Hid (aText o a b c g = Lab.text o ++ 32 :: (Lib.decDigits a ++ 32 :: (Lib.decDigits b ++ 32 :: (Lib.decDigits c ++ 32 :: Lab.text g)))) := Lib.hid rfl
  obtain ⟨W, hW⟩ : ∃ W, W = w.alloc (.cells C 29) := ⟨_, rfl⟩
  have hWs : W.heap.size = w.heap.size + 1 := by rw [hW]; simp
  have hWb : Below w.heap.size w W := by rw [hW]; exact (Below.refl _ _).alloc (Nat.le_refl _) _
  have hWc : W.heap[w.heap.size]? = some (.cells C 29 (0, 0)) := by rw [hW]; exact heap_alloc_new _ _
  have HW := Lib.hid hW
  have hWl : w.heap.size < W.heap.size := by omega
  have HG : Hid (∀ w', (∃ x : Later W, w' = x.w) → w'.heap[w.heap.size]? = some (.cells C 29 (0, 0))) := Lib.hid (fun w' ⟨x, hx⟩ => by rw [hx]; exact (x.b.block w.heap.size (by omega)).trans hWc)
  have X1 := Lib.hid (fun (x : Later W) => refText_any o x.w ho)
  have X2 := Lib.hid (fun (x : Later W) => refText_any g x.w hg)
  have D1 := Lib.hid (fun (x : Later W) => decimal_any a x.w ha)
  have D2 := Lib.hid (fun (x : Later W) => decimal_any b x.w hb)
  have D3 := Lib.hid (fun (x : Later W) => decimal_any c x.w hc)
  have H1 := Lib.hid (fun (x : Later W) => h1 x.w (hWb.trans (x.b.mono (by omega))))
  have H2 := Lib.hid (fun (x : Later W) => h2 x.w (hWb.trans (x.b.mono (by omega))))
  have H3 := Lib.hid (fun (x : Later W) => h3 x.w (hWb.trans (x.b.mono (by omega))))
  have H4 := Lib.hid (fun (x : Later W) => h4 x.w (hWb.trans (x.b.mono (by omega))))
  clear h1 h2 h3 h4 hC hW hWs hWc
  generalize aText o a b c g = R at *
  unfold strV at *
  generalize Lab.text o = x1 at *
  generalize Lab.text g = x2 at *
  generalize Lib.decDigits a = y1 at *
  generalize Lib.decDigits b = y2 at *
  generalize Lib.decDigits c = y3 at *
  go_enter Tryd.func20, Tryd.ntmps20
  go_wp2_with fail
  rw [← HW.out]
  refine wp_region_later W (by kernel_rfl) (by kernel_rfl) (Below.drew_self W) ?_
  have n1 : (9223372036854775807 < x1.length + 1) = False := by simp; omega
  have n2 : (9223372036854775807 < x1.length + 1 + y1.length) = False := by simp; omega
  have n3 : (9223372036854775807 < x1.length + 1 + y1.length + 1) = False := by simp; omega
  have n4 : (9223372036854775807 < x1.length + 1 + y1.length + 1 + y2.length) = False := by simp; omega
  have n5 : (9223372036854775807 < x1.length + 1 + y1.length + 1 + y2.length + 1) = False := by simp; omega
  have n6 : (9223372036854775807 < x1.length + 1 + y1.length + 1 + y2.length + 1 + y3.length) = False := by simp; omega
  have n7 : (9223372036854775807 < x1.length + 1 + y1.length + 1 + y2.length + 1 + y3.length + 1) = False := by simp; omega
  have n8 : (9223372036854775807 < x1.length + 1 + y1.length + 1 + y2.length + 1 + y3.length + 1 + x2.length) = False := by simp; omega
  iterate 3 (go_big_quiet_step ((go_at_call 33; exact Later.call_same (X1.out _))))
  refine wpQuiet_load_row rfl 29 (.tmp 3) rfl w.heap.size rfl 29 C (0, 0) _ HG.out Tryd.underlying29 rfl HI.out ?_
  intro a' ha'
  simp [Act.put] at ha'
  subst ha'
  iterate 6 (go_big_quiet_step ((first | (go_at_call 16; exact Later.call (H1.out _)) | (go_at_call 34; exact Later.call_same (D1.out _)))))
  refine wpQuiet_load_row rfl 29 (.tmp 3) rfl w.heap.size rfl 29 C (0, 0) _ HG.out Tryd.underlying29 rfl HI.out ?_
  intro a' ha'
  simp [Act.put] at ha'
  subst ha'
  iterate 6 (go_big_quiet_step ((first | (go_at_call 16; exact Later.call (H2.out _)) | (go_at_call 34; exact Later.call_same (D2.out _)))))
  refine wpQuiet_load_row rfl 29 (.tmp 3) rfl w.heap.size rfl 29 C (0, 0) _ HG.out Tryd.underlying29 rfl HI.out ?_
  intro a' ha'
  simp [Act.put] at ha'
  subst ha'
  iterate 6 (go_big_quiet_step ((first | (go_at_call 16; exact Later.call (H3.out _)) | (go_at_call 34; exact Later.call_same (D3.out _)))))
  repeat (go_big_quiet_step ((first | (go_at_call 18; exact Later.call (H4.out _)) | (go_at_call 33; exact Later.call_same (X2.out _)))))
  refine wpQuiet_nil ?_
  rintro _ ⟨⟨w4, hb4⟩, rfl⟩
  go_wp2_with fail
  go_ret
  refine ⟨?_, hWb.trans (hb4.mono (by omega))⟩
  show Ending.returned (.string _) = _
  congr 2
  apply ByteArray.ext
  rw [HR.out]
  simp

theorem auditTells_walk (cf : Cfg) (C : Array Value) (A : Option Addr) (cp : Nat) (rs : List Rec) (us : List Value) (o : Nat) (w : World) (hC : IsCfg w w.heap.size cf C) (hf : Fits rs.length cp 96) (hl : Lies w w.heap.size A us) (hrs : IsRecs w w.heap.size rs us) (ho : o < 18446744073709551616) (hT : Tab64 w) (hB : 0 < w.heap.size) :
    Calls Tryd.prog 5 #[.agg C, .slice A rs.length cp, .int .u64 (o : Int)] w fun e w' => e = .returned (.bool true) ∧ Below w.heap.size w w' := by
  have hn : rs.length ≤ 9223372036854775807 := by have h1 := hf.1; have h2 := hf.2; omega
  have hn0 : rs.length * 96 ≤ 140737488351232 := by have h1 := hf.1; have h2 := hf.2; omega
  have hn1 : rs.length ≤ cp := hf.1
  have hn2 : cp ≤ 9223372036854775807 := by have h2 := hf.2; omega
  obtain ⟨W, hW⟩ : ∃ W, W = w.alloc (.cells C 29) := ⟨_, rfl⟩
  have hWs : W.heap.size = w.heap.size + 1 := by rw [hW]; simp
  have hWb : Below w.heap.size w W := by rw [hW]; exact (Below.refl _ _).alloc (Nat.le_refl _) _
  have hWc : W.heap[w.heap.size]? = some (.cells C 29 (0, 0)) := by rw [hW]; exact heap_alloc_new _ _
  have HW := Lib.hid hW
  have HWc := Lib.hid hWc
  have hWl : w.heap.size < W.heap.size := by omega
  have HI : Hid ((Tryd.prog.info? 29).map (·.size) = some C.size) := Lib.hid (by rw [hC.size]; exact cfg_info)
  have hsl : (seen cf.clear o rs).length ≤ rs.length := List.length_filter_le _ _
  have hcl : ∀ kd, cnt kd (seen cf.clear o rs) ≤ rs.length := fun kd => Nat.le_trans (List.length_filter_le _ _) hsl
  have a1 := hcl 1
  have a2 := hcl 2
  have a3 := hcl 3
  have FW := Lib.hid (fun (wx : World) (hx : Below w.heap.size w wx) => fewRecs_any2 A cp rs us wx w.heap.size (hl.below hx) (hrs.below hx) hx.size hn)
  have HAW := Lib.hid (fun (wx : World) (hx : Below w.heap.size w wx) => awake33_any wx (hT.below hB hx) (Nat.lt_of_lt_of_le hB hx.size))
  have HCN := Lib.hid (fun (wx : World) (hx : Below w.heap.size w wx) => counts_any cf C A cp rs us o wx w.heap.size (hC.below hx) (hl.below hx) (hrs.below hx) hx.size hn0 ho)
  have HC1 := Lib.hid (fun (wx : World) (hx : Below w.heap.size w wx) => refCount_any 1 cf C A cp rs us o wx w.heap.size (hC.below hx) (hl.below hx) (hrs.below hx) hx.size hn0 ho)
  have HC2 := Lib.hid (fun (wx : World) (hx : Below w.heap.size w wx) => refCount_any 2 cf C A cp rs us o wx w.heap.size (hC.below hx) (hl.below hx) (hrs.below hx) hx.size hn0 ho)
  have HC3 := Lib.hid (fun (wx : World) (hx : Below w.heap.size w wx) => refCount_any 3 cf C A cp rs us o wx w.heap.size (hC.below hx) (hl.below hx) (hrs.below hx) hx.size hn0 ho)
  have HGV := Lib.hid (fun (wx : World) (hx : Below w.heap.size w wx) => given_any A cp rs us o wx w.heap.size (hl.below hx) (hrs.below hx) hx.size hn0 ho)
  have hgl : given o 0 rs < 18446744073709551616 := given_lt hrs (by omega)
  have HGR := Lib.hid (fun (wx : World) (hx : Below w.heap.size w wx) => (refGiven_any A cp rs us o wx w.heap.size (hl.below hx) (hrs.below hx) hx.size hn0 ho).mono (R' := fun e w' => e = .returned (.int .u64 (given o 0 rs : Int)) ∧ Below wx.heap.size wx w') fun _ _ h => ⟨h.1.1, by rw [← h.2]; exact Below.refl _ _⟩)
  have hCs := hC.size
  have HTX := Lib.hid (fun (h60 : rs.length ≤ 60) (wx : World) (hx : Below w.heap.size w wx) => atext_of C A rs.length cp o _ _ _ _ wx hCs ho hgl (Nat.lt_of_le_of_lt a1 (by omega)) (Nat.lt_of_le_of_lt a2 (by omega)) (Nat.lt_of_le_of_lt a3 (by omega)) (hT.below hB hx) (Nat.lt_of_lt_of_le hB hx.size) (fun wy hy => HCN.out wy (hx.trans (hy.mono hx.size))) (fun wy hy => HGV.out wy (hx.trans (hy.mono hx.size))))
  have HTR := Lib.hid (fun (h60 : rs.length ≤ 60) (wx : World) (hx : Below w.heap.size w wx) => refText33_any C A rs.length cp o _ _ _ _ wx hCs ho hgl (Nat.lt_of_le_of_lt a1 (by omega)) (Nat.lt_of_le_of_lt a2 (by omega)) (Nat.lt_of_le_of_lt a3 (by omega)) (fun wy hy => HC1.out wy (hx.trans (hy.mono hx.size))) (fun wy hy => HC2.out wy (hx.trans (hy.mono hx.size))) (fun wy hy => HC3.out wy (hx.trans (hy.mono hx.size))) (fun wy hy => HGR.out wy (hx.trans (hy.mono hx.size))))
  clear hl hrs hC hW hWs hWc hT hf hcl hCs
  rw [show ((1 : Nat) : Int) = 1 from rfl] at HC1
  rw [show ((2 : Nat) : Int) = 2 from rfl] at HC2
  rw [show ((3 : Nat) : Int) = 3 from rfl] at HC3
  generalize cnt 1 (seen cf.clear o rs) = n1 at *
  generalize cnt 2 (seen cf.clear o rs) = n2 at *
  generalize cnt 3 (seen cf.clear o rs) = n3 at *
  generalize given o 0 rs = gv at *
  unfold strV at HTX HTR
  generalize aText o n1 n2 n3 gv = R at *
  have e1 : (n1 == n1) = true := by simp
  have e2 : (n2 == n2) = true := by simp
  have e3 : (n3 == n3) = true := by simp
  have e4 : (gv == gv) = true := by simp
  have e5 : (R == R) = true := by simp
  have E := Lib.hid e5
  clear e5
  go_enter Tryd.func5, Tryd.ntmps5
  go_wp2_with fail
  rw [← HW.out]
  refine (FW.out _ hWb).mono ?_
  rintro e w1 ⟨rb, rfl, h60, hb1⟩
  have hbw1 := hWb.trans (hb1.mono (by omega))
  cases rb
  · clear h60
    go_wp2_with fail
    refine (HAW.out _ hbw1).mono ?_
    rintro e w2 ⟨rfl, hb2⟩
    go_wp2_with fail
    go_ret
    exact ⟨rfl, hbw1.trans (hb2.mono hbw1.size)⟩
  · replace h60 := h60 rfl
    have HG1 := Lib.hid ((hb1.block w.heap.size hWl).trans HWc.out)
    go_wp2_with (with_reducible refine wpList_load_row rfl 29 (.tmp 3) rfl w.heap.size rfl 29 C (0, 0) _ HG1.out Tryd.underlying29 rfl HI.out ?_)
    refine (HCN.out _ hbw1).mono ?_
    rintro e w2 ⟨rfl, hb2⟩
    have hbw2 := hbw1.trans (hb2.mono hbw1.size)
    have hs1 := hb1.size
    have hs2 := hb2.size
    have HG : Hid (∀ w', (∃ x : Later w2, w' = x.w) → w'.heap[w.heap.size]? = some (.cells C 29 (0, 0))) := Lib.hid (fun w' ⟨x, hx⟩ => by rw [hx]; exact (x.b.block w.heap.size (by omega)).trans ((hb2.block w.heap.size (by omega)).trans HG1.out))
    have XC1 := Lib.hid (fun (x : Later w2) => HC1.out x.w (hbw2.trans (x.b.mono (by omega))))
    have XC2 := Lib.hid (fun (x : Later w2) => HC2.out x.w (hbw2.trans (x.b.mono (by omega))))
    have XC3 := Lib.hid (fun (x : Later w2) => HC3.out x.w (hbw2.trans (x.b.mono (by omega))))
    have XGV := Lib.hid (fun (x : Later w2) => HGV.out x.w (hbw2.trans (x.b.mono (by omega))))
    have XGR := Lib.hid (fun (x : Later w2) => HGR.out x.w (hbw2.trans (x.b.mono (by omega))))
    have XTX := Lib.hid (fun (x : Later w2) => HTX.out h60 x.w (hbw2.trans (x.b.mono (by omega))))
    have XTR := Lib.hid (fun (x : Later w2) => HTR.out h60 x.w (hbw2.trans (x.b.mono (by omega))))
    have XAW := Lib.hid (fun (x : Later w2) => HAW.out x.w (hbw2.trans (x.b.mono (by omega))))
    have e5 := E.out
    go_wp2_with fail
    refine wp_region_later w2 (by kernel_rfl) (by kernel_rfl) (Below.drew_self w2) ?_
    go_big_quiet_step (fail)
    refine wpQuiet_load_row rfl 29 (.tmp 3) rfl w.heap.size rfl 29 C (0, 0) _ HG.out Tryd.underlying29 rfl HI.out ?_
    intro a' ha'
    simp [Act.put] at ha'
    subst ha'
    iterate 6 (go_big_quiet_step ((go_at_call 16; exact Later.call (XC1.out _))))
    refine wpQuiet_load_row rfl 29 (.tmp 3) rfl w.heap.size rfl 29 C (0, 0) _ HG.out Tryd.underlying29 rfl HI.out ?_
    intro a' ha'
    simp [Act.put] at ha'
    subst ha'
    iterate 7 (go_big_quiet_step ((go_at_call 16; exact Later.call (XC2.out _))))
    refine wpQuiet_load_row rfl 29 (.tmp 3) rfl w.heap.size rfl 29 C (0, 0) _ HG.out Tryd.underlying29 rfl HI.out ?_
    intro a' ha'
    simp [Act.put] at ha'
    subst ha'
    iterate 15 (go_big_quiet_step ((first | (go_at_call 16; exact Later.call (XC3.out _)) | (go_at_call 17; exact Later.call (XGV.out _)) | (go_at_call 18; exact Later.call (XGR.out _)))))
    refine wpQuiet_load_row rfl 29 (.tmp 3) rfl w.heap.size rfl 29 C (0, 0) _ HG.out Tryd.underlying29 rfl HI.out ?_
    intro a' ha'
    simp [Act.put] at ha'
    subst ha'
    iterate 3 (go_big_quiet_step ((go_at_call 19; exact Later.call (XTX.out _))))
    refine wpQuiet_load_row rfl 29 (.tmp 3) rfl w.heap.size rfl 29 C (0, 0) _ HG.out Tryd.underlying29 rfl HI.out ?_
    intro a' ha'
    simp [Act.put] at ha'
    subst ha'
    repeat (go_big_quiet_step ((first | (go_at_call 20; exact Later.call (XTR.out _)) | (go_at_call 7; exact Later.call (XAW.out _)))))
    refine wpQuiet_nil ?_
    rintro _ ⟨⟨w4, hb4⟩, rfl⟩
    go_wp2_with fail
    go_ret
    exact ⟨rfl, hbw2.trans (hb4.mono (by omega))⟩
end Go.Proofs.YtfiobbhicicchaaDoor
