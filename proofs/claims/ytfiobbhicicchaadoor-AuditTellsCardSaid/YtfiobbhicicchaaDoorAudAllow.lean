/-
  Could a record be told: audit.Allowed, and the reference's.
-/
import Derived.Test.YtfiobbhicicchaaDoorRec
import Derived.Test.YtfiobbhicicchaaDoorArrRef
import Derived.Test.YtfiobbhicicchaaDoorArrFew
import Derived.Test.YtfiobbhicicchaaDoorInClass
namespace Go.Proofs.YtfiobbhicicchaaDoor
open Go.RowKit Ar
set_option maxHeartbeats 1000000
set_option linter.unusedVariables false

def allowedB (auth : Nat) (r : Rec) : Bool :=
  if r.kind = 1 then decide (0 ≤ r.port) && decide (r.port < 8) && (tot r.v == 0)
  else if r.kind = 2 then Lab.flows r.frm (Lab.join r.to auth) && (tot r.v == 0)
  else if r.kind = 3 then decide (1 ≤ r.cls) && decide (r.cls ≤ 8) else false

theorem u64_zero (n : Nat) : ((n : Int) == 0) = (n == 0) := by
  rw [Bool.eq_iff_iff]; simp

theorem allowed_any (cf : Cfg) (C : Array Value) (r : Rec) (S' : Nat) (X : Option Addr) (n c : Nat) (X' : Option Addr) (n' c' : Nat) (w : World) (B : Nat) (hC : IsCfg w B cf C) (hr : IsArr w B r.v [.int .u64 (S' : Int), .slice X n c, .slice X' n' c']) (h1 : r.frm < 18446744073709551616) (h2 : r.to < 18446744073709551616) (hB : B ≤ w.heap.size) :
    Calls Tryd.prog 8 #[.agg C, .agg #[.int .i64 r.kind, .int .i64 r.port, .int .u64 (r.frm : Int), .int .u64 (r.to : Int), .int .i64 r.cls, .int .u64 (S' : Int), .slice X n c, .slice X' n' c']] w fun e w' => e = .returned (.bool (allowedB cf.auth r)) ∧ Below w.heap.size w w' := by
  have TT := Lib.hid (fun (wx : World) (hx : Below w.heap.size w wx) => total_any _ r.v _ wx B (Nat.lt_succ_self _) (hr.below (hx.mono hB)) (Nat.le_trans hB hx.size))
  have ha := hC.auth
  have hal := hC.authLt
  obtain ⟨kind, port, frm, to, cls, v⟩ := r
  dsimp only at *
  have HU := Lib.hid (u64_zero (tot v))
  clear hr hC
  have hbb : ∀ o o' : Obj, Below w.heap.size w ((w.alloc o).alloc o') := fun o o' => ((Below.refl _ _).alloc (Nat.le_refl _) _).alloc (by simp) _
  have HB := Lib.hid hbb
  clear hbb
  by_cases k1 : kind = 1
  · subst k1
    by_cases p0 : 0 ≤ port
    · by_cases p8 : port < 8
      · have HR : Hid (allowedB cf.auth ⟨1, port, frm, to, cls, v⟩ = (tot v == 0)) := Lib.hid (by simp [allowedB, p0, p8])
        go_enter Tryd.func8, Tryd.ntmps8
        go_wp2_with fail
        refine (TT.out _ (HB.out _ _)).mono ?_
        rintro e w2 ⟨rfl, hb2⟩
        go_wp2_with fail
        go_ret
        exact ⟨ret_bool (by rw [HR.out, ← HU.out]), (HB.out _ _).trans (hb2.mono (by simp; omega))⟩
      · have HR : Hid (allowedB cf.auth ⟨1, port, frm, to, cls, v⟩ = false) := Lib.hid (by simp [allowedB, p8])
        go_enter Tryd.func8, Tryd.ntmps8
        go_wp2_with fail
        go_ret
        exact ⟨ret_bool (by rw [HR.out]), HB.out _ _⟩
    · have HR : Hid (allowedB cf.auth ⟨1, port, frm, to, cls, v⟩ = false) := Lib.hid (by simp [allowedB, p0])
      go_enter Tryd.func8, Tryd.ntmps8
      go_wp2_with fail
      go_ret
      exact ⟨ret_bool (by rw [HR.out]), HB.out _ _⟩
  · have k1' : (kind == 1) = false := by simpa using k1
    by_cases k2 : kind = 2
    · subst k2
      clear k1 k1'
      have HF := Lib.hid (may_any frm to cf.auth)
      cases hf : Lab.flows frm (Lab.join to cf.auth)
      · have HR : Hid (allowedB cf.auth ⟨2, port, frm, to, cls, v⟩ = false) := Lib.hid (by simp [allowedB, hf])
        have Hf := Lib.hid hf
        clear hf
        go_enter Tryd.func8, Tryd.ntmps8
        go_wp2_with fail
        refine (HF.out _ h1 h2 hal).mono ?_
        rintro e w' ⟨rfl, rfl⟩
        rw [Hf.out]
        go_wp2_with fail
        go_ret
        exact ⟨ret_bool (by rw [HR.out]), HB.out _ _⟩
      · have HR : Hid (allowedB cf.auth ⟨2, port, frm, to, cls, v⟩ = (tot v == 0)) := Lib.hid (by simp [allowedB, hf])
        have Hf := Lib.hid hf
        clear hf
        go_enter Tryd.func8, Tryd.ntmps8
        go_wp2_with fail
        refine (HF.out _ h1 h2 hal).mono ?_
        rintro e w' ⟨rfl, rfl⟩
        rw [Hf.out]
        go_wp2_with fail
        refine (TT.out _ (HB.out _ _)).mono ?_
        rintro e w2 ⟨rfl, hb2⟩
        go_wp2_with fail
        go_ret
        exact ⟨ret_bool (by rw [HR.out, ← HU.out]), (HB.out _ _).trans (hb2.mono (by simp; omega))⟩
    · have k2' : (kind == 2) = false := by simpa using k2
      by_cases k3 : kind = 3
      · subst k3
        clear k1 k1' k2 k2'
        by_cases c1 : 1 ≤ cls
        · by_cases c8 : cls ≤ 8
          · have HR : Hid (allowedB cf.auth ⟨3, port, frm, to, cls, v⟩ = true) := Lib.hid (by simp [allowedB, c1, c8])
            go_enter Tryd.func8, Tryd.ntmps8
            go_wp2_with fail
            go_ret
            exact ⟨ret_bool (by rw [HR.out]), HB.out _ _⟩
          · have HR : Hid (allowedB cf.auth ⟨3, port, frm, to, cls, v⟩ = false) := Lib.hid (by simp [allowedB, c8])
            go_enter Tryd.func8, Tryd.ntmps8
            go_wp2_with fail
            go_ret
            exact ⟨ret_bool (by rw [HR.out]), HB.out _ _⟩
        · have HR : Hid (allowedB cf.auth ⟨3, port, frm, to, cls, v⟩ = false) := Lib.hid (by simp [allowedB, c1])
          go_enter Tryd.func8, Tryd.ntmps8
          go_wp2_with fail
          go_ret
          exact ⟨ret_bool (by rw [HR.out]), HB.out _ _⟩
      · have k3' : (kind == 3) = false := by simpa using k3
        have HR : Hid (allowedB cf.auth ⟨kind, port, frm, to, cls, v⟩ = false) := Lib.hid (by simp [allowedB, k1, k2, k3])
        clear k1 k2 k3
        go_enter Tryd.func8, Tryd.ntmps8
        go_wp2_with fail
        go_ret
        exact ⟨ret_bool (by rw [HR.out]), HB.out _ _⟩

theorem refAllowed_any (cf : Cfg) (C : Array Value) (r : Rec) (S' : Nat) (X : Option Addr) (n c : Nat) (X' : Option Addr) (n' c' : Nat) (w : World) (B : Nat) (hC : IsCfg w B cf C) (hr : IsArr w B r.v [.int .u64 (S' : Int), .slice X n c, .slice X' n' c']) (h1 : r.frm < 18446744073709551616) (h2 : r.to < 18446744073709551616) (hB : B ≤ w.heap.size) :
    Calls Tryd.prog 9 #[.agg C, .agg #[.int .i64 r.kind, .int .i64 r.port, .int .u64 (r.frm : Int), .int .u64 (r.to : Int), .int .i64 r.cls, .int .u64 (S' : Int), .slice X n c, .slice X' n' c']] w fun e w' => e = .returned (.bool (allowedB cf.auth r)) ∧ Below w.heap.size w w' := by
  have TT := Lib.hid (fun (wx : World) (hx : Below w.heap.size w wx) => refTotal_any _ r.v _ wx B (Nat.lt_succ_self _) (hr.below (hx.mono hB)) (Nat.le_trans hB hx.size))
  have ha := hC.auth
  have hal := hC.authLt
  obtain ⟨kind, port, frm, to, cls, v⟩ := r
  dsimp only at *
  have HU := Lib.hid (u64_zero (tot v))
  clear hr hC
  have hbb : ∀ o o' : Obj, Below w.heap.size w ((w.alloc o).alloc o') := fun o o' => ((Below.refl _ _).alloc (Nat.le_refl _) _).alloc (by simp) _
  have HB := Lib.hid hbb
  clear hbb
  by_cases k1 : kind = 1
  · subst k1
    by_cases p0 : 0 ≤ port
    · by_cases p8 : port < 8
      · have HR : Hid (allowedB cf.auth ⟨1, port, frm, to, cls, v⟩ = (tot v == 0)) := Lib.hid (by simp [allowedB, p0, p8])
        have p7 : port ≤ 7 := by omega
        go_enter Tryd.func9, Tryd.ntmps9
        go_wp2_with fail
        refine (TT.out _ (HB.out _ _)).mono ?_
        rintro e w2 ⟨rfl, hb2⟩
        go_wp2_with fail
        go_ret
        exact ⟨ret_bool (by rw [HR.out, ← HU.out]), (HB.out _ _).trans (hb2.mono (by simp; omega))⟩
      · have HR : Hid (allowedB cf.auth ⟨1, port, frm, to, cls, v⟩ = false) := Lib.hid (by simp [allowedB, p8])
        have p7 : ¬ port ≤ 7 := by omega
        go_enter Tryd.func9, Tryd.ntmps9
        go_wp2_with fail
        go_ret
        exact ⟨ret_bool (by rw [HR.out]), HB.out _ _⟩
    · have HR : Hid (allowedB cf.auth ⟨1, port, frm, to, cls, v⟩ = false) := Lib.hid (by simp [allowedB, p0])
      go_enter Tryd.func9, Tryd.ntmps9
      go_wp2_with fail
      go_ret
      exact ⟨ret_bool (by rw [HR.out]), HB.out _ _⟩
  · have k1' : (kind == 1) = false := by simpa using k1
    by_cases k2 : kind = 2
    · subst k2
      clear k1 k1'
      have HJ := Lib.hid (refJoin_any to cf.auth)
      have HF := Lib.hid (refFlows_any frm (Lab.join to cf.auth))
      have hjl := Lab.join_lt h2 hal
      have HR : Hid (allowedB cf.auth ⟨2, port, frm, to, cls, v⟩ = (Lab.flows frm (Lab.join to cf.auth) && (tot v == 0))) := Lib.hid (by simp [allowedB])
      generalize Lab.join to cf.auth = J at *
      cases hf : Lab.flows frm J
      all_goals
        have Hf := Lib.hid hf
        rw [hf] at HR HF
        clear hf
        go_enter Tryd.func9, Tryd.ntmps9
        go_wp2_with fail
        obtain ⟨w0, hw0⟩ : ∃ w0 : World, w0 = (w.alloc (.cells C 29)).alloc (.cells #[.int .i64 2, .int .i64 port, .int .u64 (frm : Int), .int .u64 (to : Int), .int .i64 cls, .int .u64 (S' : Int), .slice X n c, .slice X' n' c'] 39) := ⟨_, rfl⟩
        have hb0 : Below w.heap.size w w0 := by rw [hw0]; exact HB.out _ _
        have hs0 : w0.heap.size = w.heap.size + 2 := by rw [hw0]; simp
        have kA : ∀ x : Later w0, x.w.cell? ⟨w.heap.size, 32, none⟩ = some (.int .u64 (cf.auth : Int)) := fun x => (x.b.cell (p := ⟨w.heap.size, 32, none⟩) (show w.heap.size < w0.heap.size by omega)).trans (by rw [hw0]; simp [go_sem, ha])
        have kR : ∀ j v, [Value.int .i64 2, .int .i64 port, .int .u64 (frm : Int), .int .u64 (to : Int), .int .i64 cls, .int .u64 (S' : Int), .slice X n c, .slice X' n' c'][j]? = some v → ∀ x : Later w0, x.w.cell? ⟨w.heap.size + 1, j, none⟩ = some v := fun j v hv x => (x.b.cell (p := ⟨w.heap.size + 1, j, none⟩) (show w.heap.size + 1 < w0.heap.size by omega)).trans (by rw [hw0, cell_of_row _ _ _ _ _ _ (heap_alloc2_new w _ _)]; simpa using hv)
        have k2 := kR 2 _ rfl
        have k3 := kR 3 _ rfl
        have k5 := kR 5 _ rfl
        have k6 := kR 6 _ rfl
        have k7 := kR 7 _ rfl
        have HB0 := Lib.hid hb0
        have HT := Lib.hid (fun (x : Later w0) => TT.out x.w (hb0.trans (x.b.mono hb0.size)))
        rw [← hw0]
        clear kR hw0 hb0 hs0 TT
        refine wp_region_later w0 (by kernel_rfl) (by kernel_rfl) (Below.drew_self w0) ?_
        repeat (go_big_quiet_step (first | (go_at_call 14; exact Later.call_same (HJ.out _ h2 hal)) | (go_at_call 13; exact Later.call_same (HF.out _ h1 hjl)) | (go_at_call 24; exact Later.call (HT.out _))))
        refine wpQuiet_nil ?_
        rintro _ ⟨⟨w4, hb4⟩, rfl⟩
        go_wp2_with fail
        go_ret
        exact ⟨ret_bool (by rw [HR.out]; simp [← HU.out]), HB0.out.trans (hb4.mono HB0.out.size)⟩
    · have k2' : (kind == 2) = false := by simpa using k2
      by_cases k3 : kind = 3
      · subst k3
        clear k1 k1' k2 k2'
        by_cases c1 : 1 ≤ cls
        · by_cases c8 : cls ≤ 8
          · have HR : Hid (allowedB cf.auth ⟨3, port, frm, to, cls, v⟩ = true) := Lib.hid (by simp [allowedB, c1, c8])
            go_enter Tryd.func9, Tryd.ntmps9
            go_wp2_with fail
            go_ret
            exact ⟨ret_bool (by rw [HR.out]), HB.out _ _⟩
          · have HR : Hid (allowedB cf.auth ⟨3, port, frm, to, cls, v⟩ = false) := Lib.hid (by simp [allowedB, c8])
            go_enter Tryd.func9, Tryd.ntmps9
            go_wp2_with fail
            go_ret
            exact ⟨ret_bool (by rw [HR.out]), HB.out _ _⟩
        · have HR : Hid (allowedB cf.auth ⟨3, port, frm, to, cls, v⟩ = false) := Lib.hid (by simp [allowedB, c1])
          go_enter Tryd.func9, Tryd.ntmps9
          go_wp2_with fail
          go_ret
          exact ⟨ret_bool (by rw [HR.out]), HB.out _ _⟩
      · have k3' : (kind == 3) = false := by simpa using k3
        have HR : Hid (allowedB cf.auth ⟨kind, port, frm, to, cls, v⟩ = false) := Lib.hid (by simp [allowedB, k1, k2, k3])
        clear k1 k2 k3
        go_enter Tryd.func9, Tryd.ntmps9
        go_wp2_with fail
        go_ret
        exact ⟨ret_bool (by rw [HR.out]), HB.out _ _⟩
end Go.Proofs.YtfiobbhicicchaaDoor
