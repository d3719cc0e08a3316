/-
  Texts of this proof, joined (by wip/bin/bundle.py): LexMath5, Dig9, Rec, ArrIn, FieldIn, NumIn, TreeIn.
-/
import Derived.Test.YtceplkpjnebnfaaGreatDoorM7
import Derived.IntWalk
import Derived.Laws.Tables
import Derived.SizedLaws
import Derived.ProofKit
import Derived.OpenShut
import Derived.ChangeOld
/-
  Lines, plain: what is told of a line is cut into its tokens.
-/
namespace Lx
open Tr Tk Go
set_option maxHeartbeats 2000000

def B (l : List UInt8) : ByteArray := ⟨l.toArray⟩
theorem may_small {c : Int} (h : 0 ≤ c ∧ c < 55296) : Gl.may c = true := by unfold Gl.may; simp; omega
theorem may_gly {c : Int} (h : gly c = true) : Gl.may c = true := by
  have h1 : cls c = 4 ∨ cls c = 5 ∨ cls c = 6 := (gly_cls h).1
  by_cases hc : 0 ≤ c ∧ c < 55296
  · exact may_small hc
  · exfalso
    have : cls c = 0 := by
      unfold cls
      have n1 : c ∉ funs := by unfold funs; simp only [List.mem_cons, List.not_mem_nil, or_false]; omega
      have n2 : c ∉ opers := by unfold opers; simp only [List.mem_cons, List.not_mem_nil, or_false]; omega
      have n3 : c ∉ marks := by unfold marks; simp only [List.mem_cons, List.not_mem_nil, or_false]; omega
      repeat (first | rfl | rw [if_neg n1] | rw [if_neg n2] | rw [if_neg n3] | rw [if_neg (by first | omega | (simp; omega))])
    omega
theorem port_may {o : Int} (h : Tr.port o = true) : Gl.may (48 + o) = true := may_small (by have := port_d h; omega)
end Lx

/-
  scrimref03.Of: a whole number of an int; scrimref02.Mul, Add of numbers that calls handed back.
-/
namespace Go.Proofs.YtceplkpjnebnfaaGreatDoor
open Go.RowKit
set_option maxHeartbeats 2000000
set_option maxRecDepth 100000
set_option linter.unusedVariables false

theorem rAdd_res {w : World} {v1 v2 : Value} {l1 l2 : List Nat} (h1 : IsRes w v1 l1) (h2 : IsRes w v2 l2) (o1 : Nt.Ok l1) (o2 : Nt.Ok l2) (s1 : l1.length ≤ 1000000) (s2 : l2.length ≤ 1000000) :
    Calls Tryz.prog 62 #[v1, v2] w fun e w' => ∃ v, e = .returned v ∧ IsRes w' v (Nt.digs (Nt.val l1 + Nt.val l2)) ∧ Below w.heap.size w w' := by
  obtain ⟨A, c, rfl, a1, a2, a3, a4⟩ := h1
  obtain ⟨A', c', rfl, b1, b2, b3, b4⟩ := h2
  exact refAdd_any A A' c c' w.heap.size l1 l2 w a4 b4 (Nat.le_refl _) o1 o2 a1 b1 a2 b2 (by omega) (by omega)
theorem isRes_new (w : World) (l : List Nat) (h : l.length ≤ 1000) : IsRes (w.alloc (.cells (U l).toArray 90)) (.slice (some ⟨w.heap.size, 0, none⟩) l.length l.length) l :=
  ⟨_, _, rfl, Nat.le_refl _, by omega, (fun h => by cases h), by
    have := Lies.new w (U l) 90
    exact this.more (by simp)⟩
theorem ok_two {a b : Nat} (h1 : a < 4294967296) (h2 : b < 4294967296) : Nt.Ok [a, b] := by
  intro d hd
  rcases List.mem_cons.1 hd with rfl | hd
  · exact h1
  · rw [List.mem_singleton] at hd; subst hd; exact h2
theorem val_two (n : Nat) : Nt.val [n % 4294967296, n / 4294967296] = n := by simp [Nt.val]; omega

theorem refOfInt_any (n : Int) (w : World) (h1 : -9223372036854775808 ≤ n) (h2 : n ≤ 9223372036854775807) :
    Calls Tryz.prog 34 #[.int .i64 n] w (Int3Out w (decide (n < 0)) (Nt.digs n.natAbs)) := by
  have HI2 : Hid (∀ (b : Bool) (A : Option Addr) (k c : Nat), (Tryz.prog.info? 62).map (·.size) = some (#[.bool b, .slice A k c] : Array Value).size) := Lib.hid (fun _ _ _ _ => int3_info)
  obtain ⟨w1, hw1⟩ : ∃ w1, w1 = w.alloc (.cells #[.bool false, .slice none 0 0] 62) := ⟨_, rfl⟩
  have hb1 : Below w.heap.size w w1 := by rw [hw1]; exact (Below.refl _ _).alloc (Nat.le_refl _) _
  have HG1 : Hid (w1.heap[w.heap.size]? = some (.cells #[.bool false, .slice none 0 0] 62 (0, 0))) := Lib.hid (by rw [hw1]; exact heap_alloc_new w _)
  have HW1 := Lib.hid hw1
  have HS1 : Hid (w1.heap.size = w.heap.size + 1) := Lib.hid (by rw [hw1]; simp)
  clear hw1
  by_cases hn : 0 ≤ n
  · obtain ⟨m, rfl⟩ : ∃ m : Nat, n = (m : Int) := ⟨n.toNat, by omega⟩
    have hm1 : m % 4294967296 < 4294967296 := by omega
    have hm2 : m / 4294967296 < 4294967296 := by omega
    obtain ⟨w2, hw2⟩ : ∃ w2, w2 = w1.alloc (.cells #[.int .u32 ((m % 4294967296 : Nat) : Int), .int .u32 ((m / 4294967296 : Nat) : Int)] 90) := ⟨_, rfl⟩
    have hr : IsRes w2 (.slice (some ⟨w1.heap.size, 0, none⟩) 2 2) [m % 4294967296, m / 4294967296] := by rw [hw2]; exact isRes_new w1 [m % 4294967296, m / 4294967296] (by simp)
    have NM := norm3_any false _ _ w2 ⟨hr, ok_two hm1 hm2, by show 2 ≤ 64; decide⟩
    rw [val_two] at NM
    have hnn : Rt.nrm false m = false := by unfold Rt.nrm; simp
    rw [hnn, HS1.out] at NM
    have HP : Hid (decide ((m : Int) < 0) = false) := Lib.hid (decide_eq_false (by omega))
    have HM : Hid ((m : Int).natAbs = m) := Lib.hid (by omega)
    have hb2 : Below w.heap.size w w2 := by rw [hw2]; exact hb1.alloc hb1.size _
    have HG2 : Hid (w2.heap[w.heap.size]? = some (.cells #[.bool false, .slice none 0 0] 62 (0, 0))) := Lib.hid (by rw [hw2]; exact (Below.heap_alloc _ _ _ (blk_lt HG1.out)).trans HG1.out)
    have HNM := Lib.hid NM
    have HW2 : Hid (w2 = w1.alloc (.cells #[.int .u32 ((m : Int) % 4294967296), .int .u32 ((m : Int) / 4294967296)] 90)) := Lib.hid (by rw [hw2]; simp)
    have e1 : (m : Int) % 4294967296 < 4294967296 := by omega
    have e2 : (m : Int) / 4294967296 < 4294967296 := by omega
    have e3 : 0 ≤ (m : Int) % 4294967296 := by omega
    have e4 : 0 ≤ (m : Int) / 4294967296 := by omega
    clear hw2 NM hnn hr hm1 hm2
    go_enter Tryz.func34, Tryz.ntmps34
    go_wp2_with fail
    rw [← HW1.out, ← HW2.out]
    (with_reducible refine HNM.out.mono ?_)
    rintro e w3 ⟨v3, rfl, hr3, hb3⟩
    have HG3 := Lib.hid ((hb3.block w.heap.size (blk_lt HG2.out)).trans HG2.out)
    have hbw3 := hb2.trans (hb3.mono hb2.size)
    have HR3 := Lib.hid (hr3.setRow HG3.out (two_no_int _ _ _ _) #[.bool false, v3])
    obtain ⟨⟨A3, c3, rfl, -⟩, -⟩ := hr3
    clear hb3 hb1 hb2 HNM
    go_wp2_with (with_reducible refine wpList_store_row rfl 62 (.tmp 2) (.tmp 14) rfl w.heap.size #[.bool false, .slice A3 (Nt.digs m).length c3] rfl rfl 62 #[.bool false, .slice none 0 0] HG3.out (HI2.out _ _ _ _) rfl (two_one _ _ _ _) ?_)
    refine bodyPost_ret (results_cell_row (by rfl) _ _ w.heap.size 62 #[.bool false, .slice A3 (Nt.digs m).length c3] (0, 0) _ (by rfl) (rheap_same HG3.out) Tryz.underlying62 rfl (HI2.out _ _ _ _)) rfl ⟨_, by rw [HP.out], by rw [HM.out]; exact HR3.out, rBelow.setRow hbw3 (Nat.le_refl _) _⟩
  · obtain ⟨m, hm⟩ : ∃ m : Nat, -1 - n = (m : Int) := ⟨(-1 - n).toNat, by omega⟩
    have hm63 : m ≤ 9223372036854775807 := by omega
    have hm1 : m % 4294967296 < 4294967296 := by omega
    have hm2 : m / 4294967296 < 4294967296 := by omega
    obtain ⟨w2, hw2⟩ : ∃ w2, w2 = (w1.alloc (.cells #[.int .u32 ((m % 4294967296 : Nat) : Int), .int .u32 ((m / 4294967296 : Nat) : Int)] 90)).alloc (.cells #[.int .u32 1] 90) := ⟨_, rfl⟩
    have hr : IsRes w2 (.slice (some ⟨w1.heap.size, 0, none⟩) 2 2) [m % 4294967296, m / 4294967296] := by
      rw [hw2]
      exact (isRes_new w1 [m % 4294967296, m / 4294967296] (by simp)).below ((Below.refl _ _).alloc (Nat.le_refl _) _)
    have hr' : IsRes w2 (.slice (some ⟨w1.heap.size + 1, 0, none⟩) 1 1) [1] := by
      have := isRes_new (w1.alloc (.cells #[.int .u32 ((m % 4294967296 : Nat) : Int), .int .u32 ((m / 4294967296 : Nat) : Int)] 90)) [1] (by decide)
      rw [show (w1.alloc (.cells #[.int .u32 ((m % 4294967296 : Nat) : Int), .int .u32 ((m / 4294967296 : Nat) : Int)] 90)).heap.size = w1.heap.size + 1 by simp] at this
      rw [hw2]; exact this
    have AD := rAdd_res hr hr' (ok_two hm1 hm2) (by intro d hd; rw [List.mem_singleton] at hd; subst hd; decide) (by simp) (by simp)
    rw [val_two, show Nt.val [1] = 1 from rfl, HS1.out] at AD
    have hnn : Rt.nrm true (m + 1) = true := by unfold Rt.nrm; simp
    have HP : Hid (decide (n < 0) = true) := Lib.hid (decide_eq_true (by omega))
    have HM : Hid (n.natAbs = m + 1) := Lib.hid (by omega)
    have hb2 : Below w.heap.size w w2 := by rw [hw2]; exact (hb1.alloc hb1.size _).alloc (by have := hb1.size; simp; omega) _
    have HG2 : Hid (w2.heap[w.heap.size]? = some (.cells #[.bool false, .slice none 0 0] 62 (0, 0))) := Lib.hid (by
      have hlt := blk_lt HG1.out
      rw [hw2]; exact (Below.heap_alloc _ _ _ (by simp; omega)).trans ((Below.heap_alloc _ _ _ hlt).trans HG1.out))
    have HAD := Lib.hid AD
    have HW2 : Hid (w2 = (w1.alloc (.cells #[.int .u32 ((m : Int) % 4294967296), .int .u32 ((m : Int) / 4294967296)] 90)).alloc (.cells #[.int .u32 1] 90)) := Lib.hid (by rw [hw2]; simp)
    have HNN := Lib.hid hnn
    have hdl : (Nt.digs (m + 1)).length ≤ 64 := by
      have := Nt.digs_len_lt (n := m + 1) (k := 2) (by omega)
      omega
    have e0 : IntKind.i64.wrap (-1 - n) = (m : Int) := by rw [hm]; exact IntWalk.i64_in _ (by omega)
    have e1 : (m : Int) % 4294967296 < 4294967296 := by omega
    have e2 : (m : Int) / 4294967296 < 4294967296 := by omega
    have e3 : 0 ≤ (m : Int) % 4294967296 := by omega
    have e4 : 0 ≤ (m : Int) / 4294967296 := by omega
    have hneg : decide (0 ≤ n) = false := decide_eq_false hn
    have e5 : wrap64 (-1 - n) = (m : Int) := IntWalk.wrap64_in _ (by omega) |>.trans hm
    clear hw2 AD hnn hr hr' hm1 hm2 hm63 h2 hn h1 hm
    go_enter Tryz.func34, Tryz.ntmps34
    go_wp2_with fail
    rw [← HW1.out, ← HW2.out]
    (with_reducible refine HAD.out.mono ?_)
    rintro e w3 ⟨v3, rfl, hr3, hb3⟩
    have HG3 := Lib.hid ((hb3.block w.heap.size (blk_lt HG2.out)).trans HG2.out)
    have hbw3 := hb2.trans (hb3.mono hb2.size)
    have NM := norm3_any true v3 _ w3 ⟨hr3, Nt.ok_digs _, hdl⟩
    rw [Nt.val_digs, HNN.out] at NM
    have HNM := Lib.hid NM
    obtain ⟨A3, c3, rfl, -⟩ := hr3
    clear hb3 hb1 hb2 HAD NM
    go_wp2_with fail
    (with_reducible refine HNM.out.mono ?_)
    rintro e w4 ⟨v4, rfl, hr4, hb4⟩
    have HG4 := Lib.hid ((hb4.block w.heap.size (blk_lt HG3.out)).trans HG3.out)
    have hbw4 := hbw3.trans (hb4.mono hbw3.size)
    have HR4 := Lib.hid (hr4.setRow HG4.out (two_no_int _ _ _ _) #[.bool true, v4])
    obtain ⟨⟨A4, c4, rfl, -⟩, -⟩ := hr4
    clear hb4 HNM
    go_wp2_with (with_reducible refine wpList_store_row rfl 62 (.tmp 2) (.tmp 27) rfl w.heap.size #[.bool true, .slice A4 (Nt.digs (m + 1)).length c4] rfl rfl 62 #[.bool false, .slice none 0 0] HG4.out (HI2.out _ _ _ _) rfl (two_one _ _ _ _) ?_)
    refine bodyPost_ret (results_cell_row (by rfl) _ _ w.heap.size 62 #[.bool true, .slice A4 (Nt.digs (m + 1)).length c4] (0, 0) _ (by rfl) (rheap_same HG4.out) Tryz.underlying62 rfl (HI2.out _ _ _ _)) rfl ⟨_, by rw [HP.out], by rw [HM.out]; exact HR4.out, rBelow.setRow hbw4 (Nat.le_refl _) _⟩
end Go.Proofs.YtceplkpjnebnfaaGreatDoor

/-
  Records and configurations in memory.
-/
namespace Go.Proofs.YtceplkpjnebnfaaGreatDoor
open Go.RowKit Ar
set_option linter.unusedVariables false

structure Rec where
  kind : Int
  port : Int
  frm : Nat
  to : Nat
  cls : Int
  v : Arr
def recV (r : Rec) (S' : Nat) (X : Option Addr) (n c : Nat) (X' : Option Addr) (n' c' : Nat) : List Value :=
  [.int .i64 r.kind, .int .i64 r.port, .int .u64 (r.frm : Int), .int .u64 (r.to : Int), .int .i64 r.cls, .int .u64 (S' : Int), .slice X n c, .slice X' n' c']
def IsRec (w : World) (B : Nat) (r : Rec) (vs : List Value) : Prop :=
  ∃ S' X n c X' n' c', vs = recV r S' X n c X' n' c' ∧ IsArr w B r.v [.int .u64 (S' : Int), .slice X n c, .slice X' n' c'] ∧ r.frm < 18446744073709551616 ∧ r.to < 18446744073709551616 ∧ Wf64 [r.kind, r.port, r.cls]
def IsRecs (w : World) (B : Nat) : List Rec → List Value → Prop
  | [], vs => vs = []
  | c :: r, vs => ∃ u t, vs = u ++ t ∧ IsRec w B c u ∧ IsRecs w B r t
theorem IsRec.len {w : World} {B : Nat} {r : Rec} {vs : List Value} (h : IsRec w B r vs) : vs.length = 8 := by
  obtain ⟨_, _, _, _, _, _, _, rfl, _⟩ := h; rfl
theorem IsRec.keep {w w' : World} {B B' : Nat} (hk : ∀ p : Addr, p.block < B → w'.cell? p = w.cell? p) (hB : B ≤ B') {r : Rec} {vs : List Value} (h : IsRec w B r vs) : IsRec w' B' r vs := by
  obtain ⟨S', X, n, c, X', n', c', h1, h2, h3⟩ := h
  exact ⟨S', X, n, c, X', n', c', h1, IsArr.keep hk hB _ _ h2, h3⟩
theorem IsRecs.keep {w w' : World} {B B' : Nat} (hk : ∀ p : Addr, p.block < B → w'.cell? p = w.cell? p) (hB : B ≤ B') : ∀ {rs : List Rec} {vs : List Value}, IsRecs w B rs vs → IsRecs w' B' rs vs
  | [], _, h => h
  | _ :: _, _, ⟨u, t, h1, h2, h3⟩ => ⟨u, t, h1, h2.keep hk hB, h3.keep hk hB⟩
theorem IsRecs.below {w w' : World} {B : Nat} {rs : List Rec} {vs : List Value} (h : IsRecs w B rs vs) (hb : Below B w w') : IsRecs w' B rs vs := h.keep (fun _ hp => hb.cell hp) (Nat.le_refl _)
theorem IsRecs.len {w : World} {B : Nat} : ∀ {rs : List Rec} {vs : List Value} (h : IsRecs w B rs vs), vs.length = 8 * rs.length
  | [], _, h => by rw [IsRecs] at h; subst h; rfl
  | c :: r, vs, h => by
    rw [IsRecs] at h
    obtain ⟨u, t, rfl, h2, h3⟩ := h
    rw [List.length_append, h2.len, h3.len, List.length_cons]; omega
theorem IsRecs.at_ {w : World} {B : Nat} : ∀ {rs : List Rec} {vs : List Value} (h : IsRecs w B rs vs) {k : Nat} (hk : k < rs.length), ∃ u, IsRec w B rs[k] u ∧ u = (vs.drop (8 * k)).take 8
  | [], _, _, _, hk => by simp at hk
  | c :: r, vs, h, 0, _ => by
    rw [IsRecs] at h
    obtain ⟨u, t, rfl, h2, h3⟩ := h
    exact ⟨u, h2, by simp [h2.len]⟩
  | c :: r, vs, h, k + 1, hk => by
    rw [IsRecs] at h
    obtain ⟨u, t, rfl, h2, h3⟩ := h
    obtain ⟨u', h4, h5⟩ := h3.at_ (k := k) (by simpa using hk)
    refine ⟨u', h4, h5.trans ?_⟩
    rw [show 8 * (k + 1) = u.length + 8 * k by rw [h2.len]; omega, List.drop_append, List.drop_eq_nil_of_le (Nat.le_add_right _ _), Nat.add_sub_cancel_left, List.nil_append]
/-- The plain part of a configuration: what it lets, and what it brings. -/
structure Cfg where
  clear : Nat → Nat
  label : Nat → Nat
  ins : Nat → List Arr
  draws : Nat → List Int
  auth : Nat
  fuel : Int
  quota : Int
  depth : Int
/-- Thirty-six cells hold a configuration. -/
structure IsCfg (w : World) (B : Nat) (c : Cfg) (C : Array Value) : Prop where
  size : C.size = 36
  clear : ∀ k, k < 8 → C[k]? = some (.int .u64 (c.clear k : Int)) ∧ c.clear k < 18446744073709551616
  ins : ∀ k, k < 8 → ∃ A cp us, C[8 + k]? = some (.slice A (c.ins k).length cp) ∧ Fits (c.ins k).length cp 56 ∧ Lies w B A us ∧ IsArrs w B (c.ins k) us
  label : ∀ k, k < 8 → C[16 + k]? = some (.int .u64 (c.label k : Int)) ∧ c.label k < 18446744073709551616
  draws : ∀ k, k < 8 → ∃ A cp, C[24 + k]? = some (.slice A (c.draws k).length cp) ∧ Fits (c.draws k).length cp 8 ∧ Wf64 (c.draws k) ∧ Lies w B A (I64 (c.draws k))
  auth : C[32]? = some (.int .u64 (c.auth : Int))
  authLt : c.auth < 18446744073709551616
  fuel : C[33]? = some (.int .i64 c.fuel)
  quota : C[34]? = some (.int .i64 c.quota)
  depth : C[35]? = some (.int .i64 c.depth)
  wf : Wf64 [c.fuel, c.quota, c.depth]
theorem IsCfg.keep {w w' : World} {B B' : Nat} {c : Cfg} {C : Array Value} (h : IsCfg w B c C) (hk : ∀ p : Addr, p.block < B → w'.cell? p = w.cell? p) (hB : B ≤ B') : IsCfg w' B' c C :=
  { h with
    ins := fun k hk8 => by
      obtain ⟨A, cp, us, h1, h2, h3, h4⟩ := h.ins k hk8
      exact ⟨A, cp, us, h1, h2, (h3.keep hk).more hB, IsArrs.keep hk hB _ _ h4⟩
    draws := fun k hk8 => by
      obtain ⟨A, cp, h1, h2, h3, h4⟩ := h.draws k hk8
      exact ⟨A, cp, h1, h2, h3, (h4.keep hk).more hB⟩ }
theorem IsCfg.below {w w' : World} {B : Nat} {c : Cfg} {C : Array Value} (h : IsCfg w B c C) (hb : Below B w w') : IsCfg w' B c C := h.keep (fun _ hp => hb.cell hp) (Nat.le_refl _)
theorem IsCfg.one {w : World} {B : Nat} {c : Cfg} {C : Array Value} (h : IsCfg w B c C) : C.all (·.oneCell') = true := by
  rw [Array.all_eq_true]
  intro i hi
  have hs := h.size
  have hx : C[i]? = some C[i] := by simp [hi]
  have key : ∀ v, C[i]? = some v → v.oneCell' = true → C[i].oneCell' = true := fun v hv ho => by
    rw [hx] at hv; injection hv with hv; rw [hv]; exact ho
  by_cases h1 : i < 8
  · exact key _ (h.clear i h1).1 rfl
  · by_cases h2 : i < 16
    · obtain ⟨A, cp, us, e, _⟩ := h.ins (i - 8) (by omega)
      rw [show 8 + (i - 8) = i by omega] at e
      exact key _ e rfl
    · by_cases h3 : i < 24
      · have e := (h.label (i - 16) (by omega)).1
        rw [show 16 + (i - 16) = i by omega] at e
        exact key _ e rfl
      · by_cases h4 : i < 32
        · obtain ⟨A, cp, e, _⟩ := h.draws (i - 24) (by omega)
          rw [show 24 + (i - 24) = i by omega] at e
          exact key _ e rfl
        · rcases (show i = 32 ∨ i = 33 ∨ i = 34 ∨ i = 35 by omega) with rfl | rfl | rfl | rfl
          · exact key _ h.auth rfl
          · exact key _ h.fuel rfl
          · exact key _ h.quota rfl
          · exact key _ h.depth rfl
end Go.Proofs.YtceplkpjnebnfaaGreatDoor

/-
  Arrays that came in, opened: what the row reads of an argument, as a tree in memory.
-/
namespace Go.Proofs.YtceplkpjnebnfaaGreatDoor
open Go.ChangeShapes Go.WideShapes Go.ChangeAt Go.RowKit Ar
set_option linter.unusedVariables false

theorem addr_add2 (a : Addr) (n m : Nat) : (a.add n).add m = a.add (n + m) := by
  unfold Addr.add
  by_cases hn : n = 0
  · subst hn; simp
  · by_cases hm : m = 0
    · subst hm; simp
    · simp [hn, hm, Nat.add_assoc]
theorem addr_add_add {w : World} {a : Addr} {n m : Nat} {v : Value} (h : w.cell? ((a.add n).add m) = some v) : w.cell? (a.add (n + m)) = some v := by rwa [addr_add2] at h

section
variable {H : Type} {enc : TypeId × Value → H} {P : Program} {w : World} {base : Nat} {held : Bool} {fuel : Nat} {t e : TypeId} {cs : List Value} {x : DataW H × List MemPlace}

/-- A slice, opened: its cells in a row, its elements each read. -/
theorem slice_open {sz bytes : Nat} (ht : P.underlying t = some (.slice e)) (hz : P.cellsOf e = sz) (hp : 0 < sz) (hb : P.bytesOf e = bytes)
    (h : DataW.trod enc P w base (fun _ => true) held fuel t cs = some x) (hs : ∀ n ∈ x.1.weights P t, n ≤ reachBytes) :
    ∃ (A : Option Addr) (len cap : Nat) (us : List Value) (m : Nat), fuel = m + 1 ∧ cs = [.slice A len cap] ∧ Fits len cap bytes ∧ Lies w w.heap.size A us ∧ us.length = sz * len ∧
      ∀ i, i < len → ∃ y, DataW.trod enc P w base (fun _ => true) held m e ((us.drop (sz * i)).take sz) = some y ∧ ∀ n ∈ y.1.weights P e, n ≤ reachBytes := by
  rcases DataW.trod_slice ht h with ⟨rfl, rfl⟩ | ⟨a, len, cap, elems, rest, m, rfl, rfl, rfl, _, hl, hc, hle, hel, hsp, _⟩
  · cases fuel with
    | zero => simp [DataW.trod] at h
    | succ m => exact ⟨none, 0, 0, [], m, rfl, rfl, ⟨Nat.le_refl _, by omega, by omega⟩, .inl rfl, by simp, fun i hi => by omega⟩
  · obtain ⟨hr, _⟩ := hsp rfl
    rw [hz] at hel
    have hw : (elems.length + rest.length) * P.bytesOf e ≤ reachBytes := hs _ (by simp [DataW.weights, ht])
    have hfit : Fits len cap bytes := by
      rw [hb, hle, hr, show len + (cap - len) = cap by omega] at hw
      have hw2 : cap * bytes ≤ 140737488351232 := by simpa [reachBytes] using hw
      exact ⟨hl, Nat.le_trans (Nat.mul_le_mul_right _ hl) hw2, by unfold maxLen at hc; omega⟩
    have hcell : ∀ i, i < len → ∃ ci y, w.cells? base (a.add (i * sz)) sz = some ci ∧ DataW.trod enc P w base (fun _ => true) held m e ci = some y ∧ elems[i]? = some y := fun i hi => by
      have h1 := hel i hi
      have h2 : elems[i]? = some (elems[i]'(by omega)) := List.getElem?_eq_getElem (by omega)
      rw [h2] at h1
      cases hci : w.cells? base (a.add (i * sz)) sz with
      | none => rw [hci] at h1; cases h1
      | some ci => rw [hci] at h1; exact ⟨ci, _, rfl, h1, h2⟩
    obtain ⟨us, hus⟩ : ∃ us : List Value, us = (List.range (sz * len)).map fun j => (w.cell? (a.add j)).getD default := ⟨_, rfl⟩
    have hlen : us.length = sz * len := by rw [hus]; simp
    have hat : ∀ i q, i < len → q < sz → ∃ v, w.cell? (a.add (i * sz + q)) = some v ∧ us[sz * i + q]? = some v := fun i q hi hq => by
      obtain ⟨ci, y, h1, _, _⟩ := hcell i hi
      obtain ⟨_, h2, h3⟩ := World.cells?_some h1
      have h4 := h3 q hq
      rw [List.getElem?_eq_getElem (by omega)] at h4
      have h5 := addr_add_add h4
      refine ⟨_, h5, ?_⟩
      have hlt : sz * i + q < sz * len := by
        have := Nat.mul_le_mul_left sz (show i + 1 ≤ len by omega)
        rw [Nat.mul_add, Nat.mul_one] at this; omega
      rw [hus, List.getElem?_map, List.getElem?_range hlt, Option.map_some, Nat.mul_comm sz i, h5]; rfl
    refine ⟨some a, len, cap, us, m, rfl, rfl, hfit, lies_of_cells fun j v hv => ?_, hlen, fun i hi => ?_⟩
    · have hj : j < sz * len := by rw [← hlen]; exact (List.getElem?_eq_some_iff.1 hv).1
      obtain ⟨v', h1, h2⟩ := hat (j / sz) (j % sz) (Nat.div_lt_of_lt_mul hj) (Nat.mod_lt _ hp)
      rw [Nat.div_add_mod, hv] at h2
      rw [Nat.mul_comm, Nat.div_add_mod] at h1
      rw [h1, ← h2]
    · obtain ⟨ci, y, h1, h2, h3⟩ := hcell i hi
      obtain ⟨_, h4, h5⟩ := World.cells?_some h1
      have hlt : sz * i + sz ≤ sz * len := by
        have := Nat.mul_le_mul_left sz (show i + 1 ≤ len by omega)
        rwa [Nat.mul_add, Nat.mul_one] at this
      have he : (us.drop (sz * i)).take sz = ci := by
        apply List.ext_getElem?
        intro q
        rw [List.getElem?_take]
        by_cases hq : q < sz
        · rw [if_pos hq, List.getElem?_drop]
          obtain ⟨v, h6, h7⟩ := hat i q hi hq
          rw [h7, ← h5 q hq]
          have h8 := h5 q hq
          rw [List.getElem?_eq_getElem (by omega)] at h8
          have h9 := addr_add_add h8
          rw [h8, ← h9, h6]
        · rw [if_neg hq, List.getElem?_eq_none (by omega)]
      rw [he]
      refine ⟨y, h2, fun n hn => hs n ?_⟩
      have hy : y.1 ∈ elems.map (·.1) := List.mem_map.2 ⟨y, List.mem_of_getElem? h3, rfl⟩
      simp only [DataW.weights, ht, List.mem_cons, List.mem_append]
      refine .inr (.inl ?_)
      clear hs
      generalize elems.map (·.1) = l at hy
      induction l with
      | nil => cases hy
      | cons d r ih =>
        rw [DataW.weightsAll, List.mem_append]
        rcases List.mem_cons.1 hy with rfl | hy
        · exact .inl hn
        · exact .inr (ih hy)

theorem slice_nil {A : Option Addr} {len cap : Nat} (ht : P.underlying t = some (.slice e)) (h : DataW.trod enc P w base (fun _ => true) held fuel t [.slice A len cap] = some x) : A = none → cap = 0 := by
  intro hA
  rcases DataW.trod_slice ht h with ⟨h1, _⟩ | ⟨a, len', cap', elems, rest, m, _, h1, _⟩
  · simp at h1; exact h1.2.2
  · simp at h1; rw [hA] at h1; cases h1.1
/-- A slice of integers. -/
theorem ints_open {bytes : Nat} {k : IntKind} (ht : P.underlying t = some (.slice e)) (he : P.underlying e = some (.int k)) (hz : P.cellsOf e = 1) (hb : P.bytesOf e = bytes)
    (h : DataW.trod enc P w base (fun _ => true) held fuel t cs = some x) (hs : ∀ n ∈ x.1.weights P t, n ≤ reachBytes) :
    ∃ (A : Option Addr) (cap : Nat) (zs : List Int), cs = [.slice A zs.length cap] ∧ Fits zs.length cap bytes ∧ Lies w w.heap.size A (zs.map (Value.int k)) ∧ (∀ n ∈ zs, (Lit.int k n).wf = true) ∧ (A = none → cap = 0) := by
  obtain ⟨A, len, cap, us, m, rfl, rfl, hf, hl, hlen, hel⟩ := slice_open ht hz (by omega) hb h hs
  have key : ∃ zs : List Int, us = zs.map (Value.int k) ∧ ∀ n ∈ zs, (Lit.int k n).wf = true := by
    have h1 : ∀ v ∈ us, ∃ n, v = Value.int k n ∧ (Lit.int k n).wf = true := fun v hv => by
      obtain ⟨i, hi, rfl⟩ := List.mem_iff_getElem.1 hv
      obtain ⟨y, hy, _⟩ := hel i (by omega)
      obtain ⟨n, h2, _, h3⟩ := DataW.trod_int he hy
      rw [Nat.one_mul, List.drop_eq_getElem_cons hi, List.take_succ_cons, List.take_zero] at h2
      exact ⟨n, (List.cons.inj h2).1, h3⟩
    clear hel hlen hl hs h
    induction us with
    | nil => exact ⟨[], rfl, by simp⟩
    | cons v r ih =>
      obtain ⟨zs, rfl, h2⟩ := ih (fun v hv => h1 v (List.mem_cons_of_mem _ hv))
      obtain ⟨n, rfl, h3⟩ := h1 v List.mem_cons_self
      exact ⟨n :: zs, rfl, fun q hq => (List.mem_cons.1 hq).elim (fun e => e ▸ h3) (h2 q)⟩
  obtain ⟨zs, rfl, hwf⟩ := key
  have hn : zs.length = len := by simpa using hlen
  subst hn
  exact ⟨A, cap, zs, rfl, hf, hl, hwf, slice_nil ht h⟩
end
theorem nats_of {k : IntKind} {zs : List Int} {top : Nat} (hb : ∀ n, (Lit.int k n).wf = true → 0 ≤ n ∧ n < top) (h : ∀ n ∈ zs, (Lit.int k n).wf = true) : ∃ ns : List Nat, zs = ns.map (fun n : Nat => (n : Int)) ∧ ∀ n ∈ ns, n < top := by
  induction zs with
  | nil => exact ⟨[], rfl, by simp⟩
  | cons z r ih =>
    obtain ⟨ns, rfl, h2⟩ := ih (fun n hn => h n (List.mem_cons_of_mem _ hn))
    have := hb z (h z List.mem_cons_self)
    exact ⟨z.toNat :: ns, by simp; omega, fun q hq => (List.mem_cons.1 hq).elim (fun e => by omega) (h2 q)⟩
end Go.Proofs.YtceplkpjnebnfaaGreatDoor

/-
  Structs and arrays that came in, opened field by field.
-/
namespace Go.Proofs.YtceplkpjnebnfaaGreatDoor
open Go.ChangeShapes Go.WideShapes Go.ChangeAt Go.RowKit Ar
set_option linter.unusedVariables false

section
variable {H : Type} {enc : TypeId × Value → H} {P : Program} {w : World} {base : Nat} {held : Bool} {fuel : Nat} {t e : TypeId} {cs : List Value} {x : DataW H × List MemPlace}
theorem field_open {fs : Array Field} (ht : P.underlying t = some (.struct fs)) (h : DataW.trod enc P w base (fun _ => true) held fuel t cs = some x) (hs : ∀ n ∈ x.1.weights P t, n ≤ reachBytes) :
    ∃ m, fuel = m + 1 ∧ cs.length = P.cellsOf t ∧ ∀ (i : Nat) (ty : TypeId) (off : Nat), (fs[i]?).map (fun f => (f.type, f.offset)) = some (ty, off) → ∃ y, DataW.trod enc P w base (fun _ => true) held m ty ((cs.drop off).take (P.cellsOf ty)) = some y ∧ ∀ n ∈ y.1.weights P ty, n ≤ reachBytes := by
  obtain ⟨xs, m, rfl, rfl, hl, hx, hf⟩ := DataW.trod_struct ht h
  refine ⟨m, rfl, hl, fun i ty off hm => ?_⟩
  obtain ⟨f, hi, hm'⟩ := Option.map_eq_some_iff.1 hm
  obtain ⟨rfl, rfl⟩ := Prod.mk.inj hm'
  have h1 := hf i f hi
  have hlt : i < xs.length := by rw [hx]; exact (Array.getElem?_eq_some_iff.1 hi).1
  rw [List.getElem?_eq_getElem hlt] at h1
  refine ⟨_, h1, fun n hn => hs n ?_⟩
  simp only [DataW.weights, ht]
  exact DataW.weights_mem_each (j := i) (t := f.type) (d := xs[i].1) (by rw [List.getElem?_map, Array.getElem?_toList, hi]; rfl) (by rw [List.getElem?_map, List.getElem?_eq_getElem hlt]; rfl) n hn
end

end Go.Proofs.YtceplkpjnebnfaaGreatDoor

/-
  Numbers that came in, opened: what the row reads of an api.Num.
-/
namespace Go.Proofs.YtceplkpjnebnfaaGreatDoor
open Go.ChangeShapes Go.WideShapes Go.ChangeAt Go.RowKit Ar
set_option linter.unusedVariables false

theorem cNumN : Tryz.prog.cellsOf 24 = 3 := by kernel_rfl
theorem cU32N : Tryz.prog.cellsOf 90 = 1 := by kernel_rfl
theorem cU32sN : Tryz.prog.cellsOf 22 = 1 := by kernel_rfl
theorem cBoolN : Tryz.prog.cellsOf 4 = 1 := by kernel_rfl
theorem bU32N : Tryz.prog.bytesOf 90 = 4 := by kernel_rfl
theorem u32_ltN (n : Int) (h : (Lit.int .u32 n).wf = true) : 0 ≤ n ∧ n < ((4294967296 : Nat) : Int) := by have := bounds_u32 h; omega
end Go.Proofs.YtceplkpjnebnfaaGreatDoor

/-
  Expressions that came in, opened: what the row reads of an api.Expr, as a tree in memory.
-/
namespace Go.Proofs.YtceplkpjnebnfaaGreatDoor
open Go.ChangeShapes Go.WideShapes Go.ChangeAt Go.RowKit
set_option linter.unusedVariables false

theorem isTrees_of {w : World} {B : Nat} : ∀ (len : Nat) (us : List Value), us.length = 8 * len → (∀ i, i < len → ∃ c, IsTree w B c ((us.drop (8 * i)).take 8)) → ∃ cs : List Tr.Tree, cs.length = len ∧ IsTrees w B cs us
  | 0, us, h, _ => ⟨[], rfl, by rw [IsTrees]; exact List.eq_nil_of_length_eq_zero (by omega)⟩
  | n + 1, us, h, hc => by
    obtain ⟨c, h0⟩ := hc 0 (by omega)
    obtain ⟨cs, h1, h2⟩ := isTrees_of n (us.drop 8) (by simp; omega) (fun i hi => by
      obtain ⟨c, h3⟩ := hc (i + 1) (by omega)
      exact ⟨c, by rw [List.drop_drop]; rwa [Nat.mul_add, Nat.mul_one, Nat.add_comm] at h3⟩)
    exact ⟨c :: cs, by simp [h1], by rw [IsTrees]; exact ⟨us.take 8, us.drop 8, (List.take_append_drop 8 us).symm, by simpa using h0, h2⟩⟩
theorem cExprT : Tryz.prog.cellsOf 28 = 8 := by kernel_rfl
theorem cExprsT : Tryz.prog.cellsOf 26 = 1 := by kernel_rfl
theorem cIntT : Tryz.prog.cellsOf 3 = 1 := by kernel_rfl
theorem cIntsT : Tryz.prog.cellsOf 25 = 1 := by kernel_rfl
theorem cStrT : Tryz.prog.cellsOf 9 = 1 := by kernel_rfl
theorem bExprT : Tryz.prog.bytesOf 28 = 136 := by kernel_rfl
theorem bIntT : Tryz.prog.bytesOf 3 = 8 := by kernel_rfl
theorem list8T {cs : List Value} (h : cs.length = 8) : ∃ a b c d e f g k, cs = [a, b, c, d, e, f, g, k] := by
  match cs, h with
  | [a, b, c, d, e, f, g, k], _ => exact ⟨a, b, c, d, e, f, g, k, rfl⟩
theorem reach_eq : reachBytes = 140737488351232 := rfl
theorem tree_read {H : Type} {enc : TypeId × Value → H} {w : World} {base : Nat} {held : Bool} (n : Nat) :
    ∀ cs x, DataW.trod enc Tryz.prog w base (fun _ => true) held n 28 cs = some x → (∀ n ∈ x.1.weights Tryz.prog 28, n ≤ reachBytes) → ∃ a, IsTree w w.heap.size a cs := by
  induction n using Nat.strongRecOn with
  | _ n ih =>
    intro cs x h hs
    obtain ⟨m, rfl, hlen, hf⟩ := field_open Tryz.underlying28 h hs
    rw [cExprT] at hlen
    obtain ⟨v0, v1, v2, v3, v4, v5, v6, v7, rfl⟩ := list8T hlen
    obtain ⟨y0, h0, _⟩ := hf 0 3 0 rfl
    obtain ⟨y1, h1, _⟩ := hf 1 3 1 rfl
    obtain ⟨y2, h2, s2⟩ := hf 2 9 2 rfl
    obtain ⟨y3, h3, s3⟩ := hf 3 24 3 rfl
    obtain ⟨y4, h4, s4⟩ := hf 4 25 6 rfl
    obtain ⟨y5, h5, s5⟩ := hf 5 26 7 rfl
    rw [cIntT] at h0 h1
    rw [cStrT] at h2
    rw [cNumN] at h3
    rw [cIntsT] at h4
    rw [cExprsT] at h5
    obtain ⟨k, e0, _, w0⟩ := DataW.trod_int Tryz.underlying3 h0
    obtain ⟨o, e1, _, w1⟩ := DataW.trod_int Tryz.underlying3 h1
    obtain ⟨s, e2, e2', _⟩ := DataW.trod_string Tryz.underlying9 h2
    obtain ⟨m2, _, hlen2, hf2⟩ := field_open Tryz.underlying24 h3 s3
    obtain ⟨z0, b0, _⟩ := hf2 0 4 0 rfl
    obtain ⟨z1, b1, q1⟩ := hf2 1 22 1 rfl
    obtain ⟨z2, b2, q2⟩ := hf2 2 22 2 rfl
    rw [cBoolN] at b0
    rw [cU32sN] at b1 b2
    obtain ⟨neg, d0, _⟩ := DataW.trod_bool Tryz.underlying4 b0
    obtain ⟨A1, c1, t1, d1, p1, l1, x1, nl1⟩ := ints_open Tryz.underlying22 Tryz.underlying90 cU32N bU32N b1 q1
    obtain ⟨A2, c2, t2, d2, p2, l2, x2, nl2⟩ := ints_open Tryz.underlying22 Tryz.underlying90 cU32N bU32N b2 q2
    obtain ⟨top, rfl, o1⟩ := nats_of u32_ltN x1
    obtain ⟨bot, rfl, o2⟩ := nats_of u32_ltN x2
    obtain ⟨A3, c3, zs, e4, f3, l3, w3, _⟩ := ints_open Tryz.underlying25 Tryz.underlying3 cIntT bIntT h4 s4
    obtain ⟨A4, len, c4, us, m', rfl, e5, f4, l4, hl4, hel⟩ := slice_open Tryz.underlying26 cExprT (by omega) bExprT h5 s5
    obtain ⟨kids, hcl, hcs⟩ := isTrees_of len us hl4 (fun i hi => by
      obtain ⟨y, hy, sy⟩ := hel i hi
      exact ih m' (by omega) _ _ hy sy)
    subst hcl
    have hsl : s.data.toList.length = s.size := Array.length_toList
    have hsz : s.size ≤ 140737488351232 := by
      rw [e2'] at s2
      have := s2 s.data.toList.length (by simp [DataW.weights])
      rw [reach_eq] at this
      omega
    simp at e0 e1 e2 e4 e5 d0 d1 d2
    subst e0 e1 e2 e4 e5 d0 d1 d2
    have hwf : Wf64 [k, o] := by
      intro n hn
      simp at hn
      rcases hn with rfl | rfl
      · exact bounds_i64 w0
      · exact bounds_i64 w1
    have hms : s.data.toList.length ≤ 140737488355328 := by omega
    refine ⟨.mk k o s.data.toList ⟨neg, top, bot⟩ zs kids, ?_⟩
    rw [IsTree]
    exact ⟨A1, A2, A3, A4, c1, c2, c3, c4, us, by simp [treeCells], ⟨hwf, hms, by simpa using p1, by simpa using p2, f3, f4, o1, o2, fun n hn => bounds_i64 (w3 n hn), by simpa [U, Function.comp_def] using l1, by simpa [U, Function.comp_def] using l2, l3, nl1, nl2⟩, l4, hcs⟩
end Go.Proofs.YtceplkpjnebnfaaGreatDoor
