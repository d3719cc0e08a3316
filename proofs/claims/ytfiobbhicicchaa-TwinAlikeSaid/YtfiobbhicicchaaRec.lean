/-
  Records and configurations in memory.
-/
import Derived.Test.YtfiobbhicicchaaArr
import Derived.Laws.Tables
namespace Go.Proofs.Ytfiobbhicicchaa
open Go.RowKit Ar
set_option linter.unusedVariables false

structure Rec where
  kind : Int
  port : Int
  frm : Nat
  to : Nat
  cls : Int
  v : Arr
def recV (r : Rec) (S' : Nat) (X : Option Addr) (n c : Nat) (X' : Option Addr) (n' c' : Nat) : List Value :=
  [.int .i64 r.kind, .int .i64 r.port, .int .u64 (r.frm : Int), .int .u64 (r.to : Int), .int .i64 r.cls, .int .u64 (S' : Int), .slice X n c, .slice X' n' c']
def IsRec (w : World) (B : Nat) (r : Rec) (vs : List Value) : Prop :=
  ∃ S' X n c X' n' c', vs = recV r S' X n c X' n' c' ∧ IsArr w B r.v [.int .u64 (S' : Int), .slice X n c, .slice X' n' c'] ∧ r.frm < 18446744073709551616 ∧ r.to < 18446744073709551616 ∧ Wf64 [r.kind, r.port, r.cls]
def IsRecs (w : World) (B : Nat) : List Rec → List Value → Prop
  | [], vs => vs = []
  | c :: r, vs => ∃ u t, vs = u ++ t ∧ IsRec w B c u ∧ IsRecs w B r t
theorem IsRec.len {w : World} {B : Nat} {r : Rec} {vs : List Value} (h : IsRec w B r vs) : vs.length = 8 := by
  obtain ⟨_, _, _, _, _, _, _, rfl, _⟩ := h; rfl
theorem IsRec.keep {w w' : World} {B B' : Nat} (hk : ∀ p : Addr, p.block < B → w'.cell? p = w.cell? p) (hB : B ≤ B') {r : Rec} {vs : List Value} (h : IsRec w B r vs) : IsRec w' B' r vs := by
  obtain ⟨S', X, n, c, X', n', c', h1, h2, h3⟩ := h
  exact ⟨S', X, n, c, X', n', c', h1, IsArr.keep hk hB _ _ h2, h3⟩
theorem IsRecs.keep {w w' : World} {B B' : Nat} (hk : ∀ p : Addr, p.block < B → w'.cell? p = w.cell? p) (hB : B ≤ B') : ∀ {rs : List Rec} {vs : List Value}, IsRecs w B rs vs → IsRecs w' B' rs vs
  | [], _, h => h
  | _ :: _, _, ⟨u, t, h1, h2, h3⟩ => ⟨u, t, h1, h2.keep hk hB, h3.keep hk hB⟩
theorem IsRecs.below {w w' : World} {B : Nat} {rs : List Rec} {vs : List Value} (h : IsRecs w B rs vs) (hb : Below B w w') : IsRecs w' B rs vs := h.keep (fun _ hp => hb.cell hp) (Nat.le_refl _)
theorem IsRecs.len {w : World} {B : Nat} : ∀ {rs : List Rec} {vs : List Value} (h : IsRecs w B rs vs), vs.length = 8 * rs.length
  | [], _, h => by rw [IsRecs] at h; subst h; rfl
  | c :: r, vs, h => by
    rw [IsRecs] at h
    obtain ⟨u, t, rfl, h2, h3⟩ := h
    rw [List.length_append, h2.len, h3.len, List.length_cons]; omega
theorem IsRecs.at_ {w : World} {B : Nat} : ∀ {rs : List Rec} {vs : List Value} (h : IsRecs w B rs vs) {k : Nat} (hk : k < rs.length), ∃ u, IsRec w B rs[k] u ∧ u = (vs.drop (8 * k)).take 8
  | [], _, _, _, hk => by simp at hk
  | c :: r, vs, h, 0, _ => by
    rw [IsRecs] at h
    obtain ⟨u, t, rfl, h2, h3⟩ := h
    exact ⟨u, h2, by simp [h2.len]⟩
  | c :: r, vs, h, k + 1, hk => by
    rw [IsRecs] at h
    obtain ⟨u, t, rfl, h2, h3⟩ := h
    obtain ⟨u', h4, h5⟩ := h3.at_ (k := k) (by simpa using hk)
    refine ⟨u', h4, h5.trans ?_⟩
    rw [show 8 * (k + 1) = u.length + 8 * k by rw [h2.len]; omega, List.drop_append, List.drop_eq_nil_of_le (Nat.le_add_right _ _), Nat.add_sub_cancel_left, List.nil_append]
theorem IsRecs.snoc {w : World} {B : Nat} : ∀ {cs : List Rec} {vs : List Value} (h : IsRecs w B cs vs) {c : Rec} {u : List Value} (hc : IsRec w B c u), IsRecs w B (cs ++ [c]) (vs ++ u)
  | [], vs, h, c, u, hc => by
    rw [IsRecs] at h; subst h
    exact ⟨u, [], by simp, hc, rfl⟩
  | x :: r, vs, h, c, u, hc => by
    rw [IsRecs] at h
    obtain ⟨u', t, rfl, h2, h3⟩ := h
    exact ⟨u', t ++ u, by simp, h2, h3.snoc hc⟩
/-- The k-th record, read. -/
theorem rec_at {w wr : World} {B : Nat} {A : Option Addr} {rs : List Rec} {us : List Value} {k : Nat} (hcs : IsRecs w B rs us) (hl : Lies w B A us) (hk : ∀ p : Addr, p.block < B → wr.cell? p = w.cell? p) (hlt : k < rs.length) :
    ∃ (b off : Nat) (r : Rec) (S' : Nat) (X : Option Addr) (n c : Nat) (X' : Option Addr) (n' c' : Nat), A = some ⟨b, off, none⟩ ∧ b < B ∧ Hid (rs[k] = r) ∧ r.frm < 18446744073709551616 ∧ r.to < 18446744073709551616 ∧ Hid (IsArr w B r.v [.int .u64 (S' : Int), .slice X n c, .slice X' n' c'] ∧ Wf64 [r.kind, r.port, r.cls]) ∧
      wr.cell? ⟨b, off + k * 8, none⟩ = some (.int .i64 r.kind) ∧ wr.cell? ⟨b, off + k * 8 + 1, none⟩ = some (.int .i64 r.port) ∧ wr.cell? ⟨b, off + k * 8 + 2, none⟩ = some (.int .u64 (r.frm : Int)) ∧ wr.cell? ⟨b, off + k * 8 + 3, none⟩ = some (.int .u64 (r.to : Int)) ∧ wr.cell? ⟨b, off + k * 8 + 4, none⟩ = some (.int .i64 r.cls) ∧
      wr.cell? ⟨b, off + k * 8 + 5, none⟩ = some (.int .u64 (S' : Int)) ∧ wr.cell? ⟨b, off + k * 8 + 6, none⟩ = some (.slice X n c) ∧ wr.cell? ⟨b, off + k * 8 + 7, none⟩ = some (.slice X' n' c') := by
  obtain ⟨u, hu, hue⟩ := hcs.at_ hlt
  obtain ⟨b, off, rfl, hb, hcell⟩ := hl.elem hue (by intro h; have := hu.len; rw [h] at this; cases this)
  obtain ⟨S', X, n, c, X', n', c', rfl, h1, h2, h3, h4⟩ := hu
  have hc : ∀ j v, (recV rs[k] S' X n c X' n' c')[j]? = some v → wr.cell? ⟨b, off + k * 8 + j, none⟩ = some v := fun j v hv => (hk ⟨b, off + k * 8 + j, none⟩ hb).trans (hcell j v hv)
  exact ⟨b, off, rs[k], S', X, n, c, X', n', c', rfl, hb, Lib.hid rfl, h2, h3, Lib.hid ⟨h1, h4⟩, hc 0 _ rfl, hc 1 _ rfl, hc 2 _ rfl, hc 3 _ rfl, hc 4 _ rfl, hc 5 _ rfl, hc 6 _ rfl, hc 7 _ rfl⟩

/-- The plain part of a configuration: what it lets, and what it brings. -/
structure Cfg where
  clear : Nat → Nat
  label : Nat → Nat
  ins : Nat → List Arr
  draws : Nat → List Int
  auth : Nat
  fuel : Int
  quota : Int
  depth : Int
/-- Thirty-six cells hold a configuration. -/
structure IsCfg (w : World) (B : Nat) (c : Cfg) (C : Array Value) : Prop where
  size : C.size = 36
  clear : ∀ k, k < 8 → C[k]? = some (.int .u64 (c.clear k : Int)) ∧ c.clear k < 18446744073709551616
  ins : ∀ k, k < 8 → ∃ A cp us, C[8 + k]? = some (.slice A (c.ins k).length cp) ∧ Fits (c.ins k).length cp 56 ∧ Lies w B A us ∧ IsArrs w B (c.ins k) us
  label : ∀ k, k < 8 → C[16 + k]? = some (.int .u64 (c.label k : Int)) ∧ c.label k < 18446744073709551616
  draws : ∀ k, k < 8 → ∃ A cp, C[24 + k]? = some (.slice A (c.draws k).length cp) ∧ Fits (c.draws k).length cp 8 ∧ Wf64 (c.draws k) ∧ Lies w B A (I64 (c.draws k))
  auth : C[32]? = some (.int .u64 (c.auth : Int))
  authLt : c.auth < 18446744073709551616
  fuel : C[33]? = some (.int .i64 c.fuel)
  quota : C[34]? = some (.int .i64 c.quota)
  depth : C[35]? = some (.int .i64 c.depth)
  wf : Wf64 [c.fuel, c.quota, c.depth]
theorem IsCfg.keep {w w' : World} {B B' : Nat} {c : Cfg} {C : Array Value} (h : IsCfg w B c C) (hk : ∀ p : Addr, p.block < B → w'.cell? p = w.cell? p) (hB : B ≤ B') : IsCfg w' B' c C :=
  { h with
    ins := fun k hk8 => by
      obtain ⟨A, cp, us, h1, h2, h3, h4⟩ := h.ins k hk8
      exact ⟨A, cp, us, h1, h2, (h3.keep hk).more hB, IsArrs.keep hk hB _ _ h4⟩
    draws := fun k hk8 => by
      obtain ⟨A, cp, h1, h2, h3, h4⟩ := h.draws k hk8
      exact ⟨A, cp, h1, h2, h3, (h4.keep hk).more hB⟩ }
theorem IsCfg.below {w w' : World} {B : Nat} {c : Cfg} {C : Array Value} (h : IsCfg w B c C) (hb : Below B w w') : IsCfg w' B c C := h.keep (fun _ hp => hb.cell hp) (Nat.le_refl _)
theorem IsCfg.one {w : World} {B : Nat} {c : Cfg} {C : Array Value} (h : IsCfg w B c C) : C.all (·.oneCell') = true := by
  rw [Array.all_eq_true]
  intro i hi
  have hs := h.size
  have hx : C[i]? = some C[i] := by simp [hi]
  have key : ∀ v, C[i]? = some v → v.oneCell' = true → C[i].oneCell' = true := fun v hv ho => by
    rw [hx] at hv; injection hv with hv; rw [hv]; exact ho
  by_cases h1 : i < 8
  · exact key _ (h.clear i h1).1 rfl
  · by_cases h2 : i < 16
    · obtain ⟨A, cp, us, e, _⟩ := h.ins (i - 8) (by omega)
      rw [show 8 + (i - 8) = i by omega] at e
      exact key _ e rfl
    · by_cases h3 : i < 24
      · have e := (h.label (i - 16) (by omega)).1
        rw [show 16 + (i - 16) = i by omega] at e
        exact key _ e rfl
      · by_cases h4 : i < 32
        · obtain ⟨A, cp, e, _⟩ := h.draws (i - 24) (by omega)
          rw [show 24 + (i - 24) = i by omega] at e
          exact key _ e rfl
        · rcases (show i = 32 ∨ i = 33 ∨ i = 34 ∨ i = 35 by omega) with rfl | rfl | rfl | rfl
          · exact key _ h.auth rfl
          · exact key _ h.fuel rfl
          · exact key _ h.quota rfl
          · exact key _ h.depth rfl
end Go.Proofs.Ytfiobbhicicchaa
