/-
  twin.Hide, and the reference's: what an observer sees of a configuration. (Printed by wip/bin/gen_twin3.py.)
-/
import Derived.Test.YtfiobbhicicchaaTwin2
import Derived.Test.YtfiobbhicicchaaLabRef
namespace Go.Proofs.Ytfiobbhicicchaa
open Go.RowKit Ar
set_option maxHeartbeats 4000000
set_option maxRecDepth 100000
set_option linter.unusedVariables false

/-- Cells that lie from block lo on. -/
def From (V : World) (lo : Nat) (A : Option Addr) (vs : List Value) : Prop :=
  vs = [] ∨ ∃ b off, A = some ⟨b, off, none⟩ ∧ lo ≤ b ∧ b < V.heap.size ∧ ∀ i v, vs[i]? = some v → V.cell? ⟨b, off + i, none⟩ = some v
theorem From.lies {w : World} {g : Nat} {A : Option Addr} {vs : List Value} (h : From w g A vs) : Lies w w.heap.size A vs := by
  rcases h with h | ⟨b, off, h1, h2, h3, h4⟩
  · exact .inl h
  · exact .inr ⟨b, off, h1, h3, h4⟩
theorem From.mono {w : World} {g g' : Nat} {A : Option Addr} {vs : List Value} (h : From w g A vs) (hl : g' ≤ g) : From w g' A vs := by
  rcases h with h | ⟨b, off, h1, h2, h3, h4⟩
  · exact .inl h
  · exact .inr ⟨b, off, h1, by omega, h3, h4⟩
/-- What an observer sees. -/
def hideCfg (o : Nat) (c : Cfg) : Cfg := { c with
  ins := fun k => if Lab.flows (c.clear k) o then c.ins k else []
  draws := fun k => if Lab.flows (c.label k) o then c.draws k else [] }
/-- Cells that lie in another block than g. -/
def Far (w : World) (g : Nat) (A : Option Addr) (vs : List Value) : Prop :=
  vs = [] ∨ ∃ b off, A = some ⟨b, off, none⟩ ∧ b < w.heap.size ∧ (b ≠ g ∧ b ≠ g + 1) ∧ ∀ i v, vs[i]? = some v → w.cell? ⟨b, off + i, none⟩ = some v
theorem Far.lies {w : World} {g : Nat} {A : Option Addr} {vs : List Value} (h : Far w g A vs) : Lies w w.heap.size A vs := by
  rcases h with h | ⟨b, off, h1, h2, h3, h4⟩
  · exact .inl h
  · exact .inr ⟨b, off, h1, h2, h4⟩
theorem Far.of {w w' : World} {g B : Nat} {A : Option Addr} {vs : List Value} (h : Lies w B A vs) (hB : B ≤ g) (hw : ∀ p : Addr, p.block < B → w'.cell? p = w.cell? p) (hs : B ≤ w'.heap.size) : Far w' g A vs := by
  rcases h with h | ⟨b, off, h1, h2, h4⟩
  · exact .inl h
  · exact .inr ⟨b, off, h1, by omega, ⟨by omega, by omega⟩, fun i v hv => (hw _ h2).trans (h4 i v hv)⟩
theorem Far.set_ {w : World} {g : Nat} {A : Option Addr} {vs : List Value} (h : Far w g A vs) (i : Nat) (v : Value) : Far (w.setCell ⟨g, i, none⟩ v) g A vs := by
  rcases h with h | ⟨b, off, h1, h2, h3, h4⟩
  · exact .inl h
  · refine .inr ⟨b, off, h1, by simpa using h2, h3, fun j u hu => ?_⟩
    rw [World.cell?_of_block (Below.heap_setCell w ⟨g, i, none⟩ v b h3.1)]
    exact h4 j u hu
theorem Far.below {w w' : World} {g : Nat} {A : Option Addr} {vs : List Value} (h : Far w g A vs) (hb : Below w.heap.size w w') : Far w' g A vs := by
  rcases h with h | ⟨b, off, h1, h2, h3, h4⟩
  · exact .inl h
  · exact .inr ⟨b, off, h1, Nat.lt_of_lt_of_le h2 hb.size, h3, fun j u hu => (hb.cell (p := ⟨b, off + j, none⟩) h2).trans (h4 j u hu)⟩
theorem Far.drewN {w : World} {g : Nat} {A : Option Addr} {vs : List Value} (h : Far w g A vs) (n : Nat) : Far (w.drewN n) g A vs := h
def InsAt (w : World) (B : Nat) (wr : World) (g : Nat) (l : List Arr) (v : Option Value) : Prop := ∃ A cp us, v = some (.slice A l.length cp) ∧ Fits l.length cp 56 ∧ Far wr g A us ∧ IsArrs w B l us
def DrwAt (wr : World) (g : Nat) (l : List Int) (v : Option Value) : Prop := ∃ A cp, v = some (.slice A l.length cp) ∧ Fits l.length cp 8 ∧ Wf64 l ∧ Far wr g A (I64 l)
/-- A slice that lies behind the block g + 1. -/
def NewV (g : Nat) (v : Option Value) : Prop := ∀ b off n c, v = some (.slice (some ⟨b, off, none⟩) n c) → g + 1 < b
/-- A configuration of which the first k channels have been hidden. -/
structure HideAt (w : World) (B : Nat) (wr : World) (g : Nat) (cf : Cfg) (o k : Nat) (C : Array Value) (D : List Value) : Prop where
  len : D.length = 36
  same : ∀ i, (i < 8 ∨ 16 ≤ i ∧ i < 24 ∨ 32 ≤ i) → D[i]? = C[i]?
  ins : ∀ j, j < 8 → InsAt w B wr g (if j < k then (hideCfg o cf).ins j else cf.ins j) D[8 + j]?
  draws : ∀ j, j < 8 → DrwAt wr g (if j < k then (hideCfg o cf).draws j else cf.draws j) D[24 + j]?
  fresh : ∀ j, j < k → NewV g D[8 + j]? ∧ NewV g D[24 + j]?
theorem HideAt.far {w wr wr' : World} {B g : Nat} {cf : Cfg} {o k : Nat} {C : Array Value} {D : List Value} (h : HideAt w B wr g cf o k C D) (hf : ∀ A us, Far wr g A us → Far wr' g A us) : HideAt w B wr' g cf o k C D :=
  { h with
    ins := fun j hj => by obtain ⟨A, cp, us, h1, h2, h3, h4⟩ := h.ins j hj; exact ⟨A, cp, us, h1, h2, hf _ _ h3, h4⟩
    draws := fun j hj => by obtain ⟨A, cp, h1, h2, h3, h4⟩ := h.draws j hj; exact ⟨A, cp, h1, h2, h3, hf _ _ h4⟩ }
theorem HideAt.start {w wr : World} {B g : Nat} {cf : Cfg} {o : Nat} {C : Array Value} (h : IsCfg w B cf C) (hB : B ≤ g) (hw : ∀ p : Addr, p.block < B → wr.cell? p = w.cell? p) (hs : B ≤ wr.heap.size) : HideAt w B wr g cf o 0 C C.toList where
  len := by simpa using h.size
  same := fun i _ => by simp
  ins := fun j hj => by
    obtain ⟨A, cp, us, h1, h2, h3, h4⟩ := h.ins j hj
    exact ⟨A, cp, us, by simpa using h1, h2, Far.of h3 hB hw hs, h4⟩
  draws := fun j hj => by
    obtain ⟨A, cp, h1, h2, h3, h4⟩ := h.draws j hj
    exact ⟨A, cp, by simpa using h1, h2, h3, Far.of h4 hB hw hs⟩
  fresh := fun j hj => by omega
/-- One channel more. -/
theorem HideAt.next {w wr : World} {B g : Nat} {cf : Cfg} {o k : Nat} {C : Array Value} {D : List Value} (h : HideAt w B wr g cf o k C D) (hk : k < 8) (v v' : Value) (hv : InsAt w B wr g ((hideCfg o cf).ins k) (some v)) (hv' : DrwAt wr g ((hideCfg o cf).draws k) (some v')) (hn : NewV g (some v)) (hn' : NewV g (some v')) :
    HideAt w B wr g cf o (k + 1) C ((D.set (8 + k) v).set (24 + k) v') where
  len := by simpa using h.len
  same := fun i hi => by
    rw [List.getElem?_set_ne (by omega), List.getElem?_set_ne (by omega)]; exact h.same i hi
  ins := fun j hj => by
    rw [List.getElem?_set_ne (by omega)]
    by_cases e : j = k
    · subst e
      rw [if_pos (by omega), List.getElem?_set_self (by rw [h.len]; omega)]
      exact hv
    · rw [List.getElem?_set_ne (by omega), show (if j < k + 1 then (hideCfg o cf).ins j else cf.ins j) = (if j < k then (hideCfg o cf).ins j else cf.ins j) by
        by_cases e' : j < k
        · rw [if_pos e', if_pos (by omega)]
        · rw [if_neg e', if_neg (by omega)]]
      exact h.ins j hj
  draws := fun j hj => by
    by_cases e : j = k
    · subst e
      rw [if_pos (by omega), List.getElem?_set_self (by rw [List.length_set, h.len]; omega)]
      exact hv'
    · rw [List.getElem?_set_ne (by omega), List.getElem?_set_ne (by omega), show (if j < k + 1 then (hideCfg o cf).draws j else cf.draws j) = (if j < k then (hideCfg o cf).draws j else cf.draws j) by
        by_cases e' : j < k
        · rw [if_pos e', if_pos (by omega)]
        · rw [if_neg e', if_neg (by omega)]]
      exact h.draws j hj
  fresh := fun j hj => by
    by_cases e : j = k
    · subst e
      rw [List.getElem?_set_self (by rw [List.length_set, h.len]; omega), List.getElem?_set_ne (by omega), List.getElem?_set_self (by rw [h.len]; omega)]
      exact ⟨hn, hn'⟩
    · rw [List.getElem?_set_ne (by omega), List.getElem?_set_ne (by omega), List.getElem?_set_ne (by omega), List.getElem?_set_ne (by omega)]
      exact h.fresh j (by omega)
/-- A configuration whose rows lie from block lo on. -/
structure CfgAt (w0 : World) (B : Nat) (V : World) (lo : Nat) (c : Cfg) (D : Array Value) : Prop where
  size : D.size = 36
  clear : ∀ k, k < 8 → D[k]? = some (.int .u64 (c.clear k : Int)) ∧ c.clear k < 18446744073709551616
  ins : ∀ k, k < 8 → ∃ A cp us, D[8 + k]? = some (.slice A (c.ins k).length cp) ∧ Fits (c.ins k).length cp 56 ∧ From V lo A us ∧ IsArrs w0 B (c.ins k) us
  label : ∀ k, k < 8 → D[16 + k]? = some (.int .u64 (c.label k : Int)) ∧ c.label k < 18446744073709551616
  draws : ∀ k, k < 8 → ∃ A cp, D[24 + k]? = some (.slice A (c.draws k).length cp) ∧ Fits (c.draws k).length cp 8 ∧ Wf64 (c.draws k) ∧ From V lo A (I64 (c.draws k))
  auth : D[32]? = some (.int .u64 (c.auth : Int))
  authLt : c.auth < 18446744073709551616
  fuel : D[33]? = some (.int .i64 c.fuel)
  quota : D[34]? = some (.int .i64 c.quota)
  depth : D[35]? = some (.int .i64 c.depth)
  wf : Wf64 [c.fuel, c.quota, c.depth]
theorem CfgAt.mapW {w0 V V' : World} {B lo : Nat} {c : Cfg} {D : Array Value} (h : CfgAt w0 B V lo c D) (hf : ∀ A us, From V lo A us → From V' lo A us) : CfgAt w0 B V' lo c D :=
  { h with
    ins := fun j hj => by obtain ⟨A, cp, us, h1, h2, h3, h4⟩ := h.ins j hj; exact ⟨A, cp, us, h1, h2, hf _ _ h3, h4⟩
    draws := fun j hj => by obtain ⟨A, cp, h1, h2, h3, h4⟩ := h.draws j hj; exact ⟨A, cp, h1, h2, h3, hf _ _ h4⟩ }
theorem CfgAt.later {w0 V V' : World} {B lo : Nat} {c : Cfg} {D : Array Value} (h : CfgAt w0 B V lo c D) (hb : Below V.heap.size V V') : CfgAt w0 B V' lo c D :=
  h.mapW fun A us h => by
    rcases h with h | ⟨b, off, h1, h2, h3, h4⟩
    · exact .inl h
    · exact .inr ⟨b, off, h1, h2, Nat.lt_of_lt_of_le h3 hb.size, fun j u hu => (hb.cell (p := ⟨b, off + j, none⟩) h3).trans (h4 j u hu)⟩
theorem CfgAt.is {w0 V : World} {B lo : Nat} {c : Cfg} {D : Array Value} (h : CfgAt w0 B V lo c D) (hw : ∀ p : Addr, p.block < B → V.cell? p = w0.cell? p) (hs : B ≤ V.heap.size) : IsCfg V V.heap.size c D :=
  { h with
    ins := fun j hj => by obtain ⟨A, cp, us, h1, h2, h3, h4⟩ := h.ins j hj; exact ⟨A, cp, us, h1, h2, h3.lies, IsArrs.keep hw hs _ _ h4⟩
    draws := fun j hj => by obtain ⟨A, cp, h1, h2, h3, h4⟩ := h.draws j hj; exact ⟨A, cp, h1, h2, h3, h4.lies⟩ }
theorem CfgAt.mono {w0 V : World} {B lo lo' : Nat} {c : Cfg} {D : Array Value} (h : CfgAt w0 B V lo c D) (hl : lo' ≤ lo) : CfgAt w0 B V lo' c D :=
  { h with
    ins := fun j hj => by obtain ⟨A, cp, us, h1, h2, h3, h4⟩ := h.ins j hj; exact ⟨A, cp, us, h1, h2, h3.mono hl, h4⟩
    draws := fun j hj => by obtain ⟨A, cp, h1, h2, h3, h4⟩ := h.draws j hj; exact ⟨A, cp, h1, h2, h3, h4.mono hl⟩ }
theorem HideAt.at_ {w wr : World} {B g : Nat} {cf : Cfg} {o : Nat} {C : Array Value} {D : List Value} (hC : IsCfg w B cf C) (h : HideAt w B wr g cf o 8 C D) : CfgAt w B wr (g + 1 + 1) (hideCfg o cf) D.toArray where
  size := by simpa using h.len
  clear := fun k hk => ⟨by rw [List.getElem?_toArray, h.same k (by omega)]; exact (hC.clear k hk).1, (hC.clear k hk).2⟩
  label := fun k hk => ⟨by rw [List.getElem?_toArray, h.same (16 + k) (by omega)]; exact (hC.label k hk).1, (hC.label k hk).2⟩
  ins := fun k hk => by
    obtain ⟨A, cp, us, h1, h2, h3, h4⟩ := h.ins k hk
    rw [if_pos hk] at h1 h2 h4
    refine ⟨A, cp, us, by rw [List.getElem?_toArray]; exact h1, h2, ?_, h4⟩
    rcases h3 with h3 | ⟨b, off, e, k1, k2, k3⟩
    · exact .inl h3
    · exact .inr ⟨b, off, e, by have := (h.fresh k hk).1 b off _ _ (by rw [h1, e]); omega, k1, k3⟩
  draws := fun k hk => by
    obtain ⟨A, cp, h1, h2, h3, h4⟩ := h.draws k hk
    rw [if_pos hk] at h1 h2 h3 h4
    refine ⟨A, cp, by rw [List.getElem?_toArray]; exact h1, h2, h3, ?_⟩
    rcases h4 with h4 | ⟨b, off, e, k1, k2, k3⟩
    · exact .inl h4
    · exact .inr ⟨b, off, e, by have := (h.fresh k hk).2 b off _ _ (by rw [h1, e]); omega, k1, k3⟩
  auth := by rw [List.getElem?_toArray, h.same 32 (by omega)]; exact hC.auth
  authLt := hC.authLt
  fuel := by rw [List.getElem?_toArray, h.same 33 (by omega)]; exact hC.fuel
  quota := by rw [List.getElem?_toArray, h.same 34 (by omega)]; exact hC.quota
  depth := by rw [List.getElem?_toArray, h.same 35 (by omega)]; exact hC.depth
  wf := hC.wf
theorem HideAt.done {w wr : World} {B g : Nat} {cf : Cfg} {o : Nat} {C : Array Value} {D : List Value} (hC : IsCfg w B cf C) (h : HideAt w B wr g cf o 8 C D) (hw : ∀ p : Addr, p.block < B → wr.cell? p = w.cell? p) (hs : B ≤ wr.heap.size) : IsCfg wr wr.heap.size (hideCfg o cf) D.toArray where
  size := by simpa using h.len
  clear := fun k hk => ⟨by rw [List.getElem?_toArray, h.same k (by omega)]; exact (hC.clear k hk).1, (hC.clear k hk).2⟩
  label := fun k hk => ⟨by rw [List.getElem?_toArray, h.same (16 + k) (by omega)]; exact (hC.label k hk).1, (hC.label k hk).2⟩
  ins := fun k hk => by
    obtain ⟨A, cp, us, h1, h2, h3, h4⟩ := h.ins k hk
    rw [if_pos hk] at h1 h2 h4
    exact ⟨A, cp, us, by rw [List.getElem?_toArray]; exact h1, h2, h3.lies, IsArrs.keep hw hs _ _ h4⟩
  draws := fun k hk => by
    obtain ⟨A, cp, h1, h2, h3, h4⟩ := h.draws k hk
    rw [if_pos hk] at h1 h2 h3 h4
    exact ⟨A, cp, by rw [List.getElem?_toArray]; exact h1, h2, h3, h4.lies⟩
  auth := by rw [List.getElem?_toArray, h.same 32 (by omega)]; exact hC.auth
  authLt := hC.authLt
  fuel := by rw [List.getElem?_toArray, h.same 33 (by omega)]; exact hC.fuel
  quota := by rw [List.getElem?_toArray, h.same 34 (by omega)]; exact hC.quota
  depth := by rw [List.getElem?_toArray, h.same 35 (by omega)]; exact hC.depth
  wf := hC.wf
theorem cfg_info : (Try.prog.info? 29).map (·.size) = some 36 := by kernel_rfl
theorem cfg_zero : (Try.prog.info? 29).map (·.zero) = some (some (.agg #[.int .u64 0, .int .u64 0, .int .u64 0, .int .u64 0, .int .u64 0, .int .u64 0, .int .u64 0, .int .u64 0, .slice none 0 0, .slice none 0 0, .slice none 0 0, .slice none 0 0, .slice none 0 0, .slice none 0 0, .slice none 0 0, .slice none 0 0, .int .u64 0, .int .u64 0, .int .u64 0, .int .u64 0, .int .u64 0, .int .u64 0, .int .u64 0, .int .u64 0, .slice none 0 0, .slice none 0 0, .slice none 0 0, .slice none 0 0, .slice none 0 0, .slice none 0 0, .slice none 0 0, .slice none 0 0, .int .u64 0, .int .i64 0, .int .i64 0, .int .i64 0])) := by kernel_rfl
def zeroC : Array Value := #[.int .u64 0, .int .u64 0, .int .u64 0, .int .u64 0, .int .u64 0, .int .u64 0, .int .u64 0, .int .u64 0, .slice none 0 0, .slice none 0 0, .slice none 0 0, .slice none 0 0, .slice none 0 0, .slice none 0 0, .slice none 0 0, .slice none 0 0, .int .u64 0, .int .u64 0, .int .u64 0, .int .u64 0, .int .u64 0, .int .u64 0, .int .u64 0, .int .u64 0, .slice none 0 0, .slice none 0 0, .slice none 0 0, .slice none 0 0, .slice none 0 0, .slice none 0 0, .slice none 0 0, .slice none 0 0, .int .u64 0, .int .i64 0, .int .i64 0, .int .i64 0]
/-- A configuration, made anew. -/
def CfgOut (w : World) (B : Nat) (c : Cfg) (e : Ending) (w' : World) : Prop := ∃ D, e = .returned (.agg D) ∧ CfgAt w B w' w.heap.size c D ∧ Below w.heap.size w w'
theorem Below.setRow' {B : Nat} {a w : World} (h : Below B a w) {g : Nat} (hg : B ≤ g) (cs : Array Value) : Below B a (w.setRow g cs) :=
  ⟨h.os, h.tape, h.output, by rw [size_setRow]; exact h.size, fun k hk => by
    have e : (w.setRow g cs).heap[k]? = w.heap[k]? := by
      simp only [World.setRow, Array.getElem?_modify]
      rw [if_neg (by omega)]
    rw [e]; exact h.block k hk⟩
theorem heap_setRow_same {w : World} {g : Nat} {old cs : Array Value} {t : TypeId} (h : w.heap[g]? = some (.cells old t (0, 0))) : (w.setRow g cs).heap[g]? = some (.cells cs t (0, 0)) := by
  simp [World.setRow, Array.getElem?_modify, h]
theorem heap_setRow_far {w : World} {g g' : Nat} {cs : Array Value} (h : g ≠ g') : (w.setRow g cs).heap[g']? = w.heap[g']? := by
  simp only [World.setRow, Array.getElem?_modify]
  rw [if_neg (by omega)]
theorem code_world {P : Program} {c : Code} {Q : Exit → Act → World → Prop} {a : Act} {w : World} (h : ∀ W, W = w → c.wp P Q a W) : c.wp P Q a w := h _ rfl

/-- A world on the way through a round. -/
structure Stage (w wr : World) (g : Nat) (V : World) (L : List Value) : Prop where
  blk : Blk V g 29 L
  zero : Blk V (g + 1) 29 zeroC.toList
  below : Below g w V
  size : g + 1 < V.heap.size
  far : ∀ A us, Far wr g A us → Far V g A us
theorem Stage.set_ {w wr V : World} {g : Nat} {L : List Value} (h : Stage w wr g V L) (i : Nat) (v : Value) : Stage w wr g (V.setCell ⟨g, i, none⟩ v) (L.set i v) where
  blk := h.blk.set_ i v
  zero := h.zero.far (by show g + 1 ≠ g; omega) v
  below := h.below.setCell (Nat.le_refl _) _
  size := by simpa using h.size
  far := fun A us hf => (h.far A us hf).set_ i v
theorem Stage.later {w wr V V' : World} {g : Nat} {L : List Value} (h : Stage w wr g V L) (hb : Below V.heap.size V V') : Stage w wr g V' L where
  blk := h.blk.keep hb h.blk.lt
  zero := h.zero.keep hb h.zero.lt
  below := h.below.trans (hb.mono (by have := h.size; omega))
  size := Nat.lt_of_lt_of_le h.size hb.size
  far := fun A us hf => (h.far A us hf).below hb
theorem Stage.drewN {w wr V : World} {g : Nat} {L : List Value} (h : Stage w wr g V L) (n : Nat) : Stage w wr g (V.drewN n) L :=
  h.later ⟨rfl, rfl, rfl, Nat.le_refl _, fun _ _ => rfl⟩
theorem far_new {w w' : World} {g : Nat} {A : Option Addr} {vs : List Value} (h : Lies w' w'.heap.size A vs) (hn : ∀ b off, A = some ⟨b, off, none⟩ → w.heap.size ≤ b) (hg : g + 1 < w.heap.size) : Far w' g A vs := by
  rcases h with h | ⟨b, off, h1, h2, h4⟩
  · exact .inl h
  · exact .inr ⟨b, off, h1, h2, by have := hn b off h1; omega, h4⟩
theorem Far.setRow_ {w : World} {g : Nat} {A : Option Addr} {vs : List Value} (h : Far w g A vs) (cs : Array Value) : Far (w.setRow (g + 1) cs) g A vs := by
  rcases h with h | ⟨b, off, h1, h2, h3, h4⟩
  · exact .inl h
  · refine .inr ⟨b, off, h1, by rw [size_setRow]; exact h2, h3, fun j u hu => ?_⟩
    rw [World.cell?_of_block (heap_setRow_far (w := w) (g := g + 1) (g' := b) (cs := cs) (by omega))]
    exact h4 j u hu
theorem newV_nil {g : Nat} : NewV g (some (.slice none 0 0)) := fun b off n c h => by cases h
theorem newV_of {w : World} {g : Nat} {A : Option Addr} {n c : Nat} (hn : ∀ b off, A = some ⟨b, off, none⟩ → w.heap.size ≤ b) (hg : g + 1 < w.heap.size) : NewV g (some (.slice A n c)) := fun b off n' c' h => by
  injection h with h
  injection h with h
  have := hn b off h
  omega
theorem insAt_nil {w wr : World} {B g : Nat} : InsAt w B wr g [] (some (.slice none 0 0)) := ⟨none, 0, [], rfl, ⟨Nat.le_refl _, by simp, by omega⟩, .inl rfl, by rw [IsArrs]⟩
theorem drwAt_nil {wr : World} {g : Nat} : DrwAt wr g [] (some (.slice none 0 0)) := ⟨none, 0, rfl, ⟨Nat.le_refl _, by simp, by omega⟩, (fun n h => by cases h), .inl rfl⟩
theorem set_ab {α : Type} (D : List α) (a b : Nat) (hab : a ≠ b) (x y v : α) : ((D.set a x).set b y).set a v = (D.set a v).set b y := by
  rw [List.set_comm _ _ (by omega), List.set_set]
theorem set_bb {α : Type} (D : List α) (b : Nat) (y v : α) : (D.set b y).set b v = D.set b v := List.set_set ..

theorem hide_any (cf : Cfg) (C : Array Value) (o : Nat) (w : World) (B : Nat) (hC : IsCfg w B cf C) (hB : B ≤ w.heap.size) (ho : o < 18446744073709551616) :
    Calls Try.prog 9 #[.agg C, .int .u64 (o : Int)] w (CfgOut w B (hideCfg o cf)) := by
  have HC := Lib.hid hC
  have HI : Hid ((Try.prog.info? 29).map (·.size) = some 36) := Lib.hid cfg_info
  have FL := Lib.hid (fun (t : Nat) (ht : t < 18446744073709551616) (wx : World) => flows_any t o wx ht ho)
  go_enter Try.func9, Try.ntmps9
  go_wp2_with fail
  refine code_world ?_
  intro W hW
  have hWs : W.heap.size = w.heap.size + 1 + 1 := by rw [hW]; simp
  have hWb : Below w.heap.size w W := by rw [hW]; exact ((Below.refl _ _).alloc (Nat.le_refl _) _).alloc (by simp) _
  have hW0 : Blk W w.heap.size 29 C.toList := by rw [hW]; exact (Below.heap_alloc _ _ _ (by simp)).trans (heap_alloc_new _ _)
  have hW1 : Blk W (w.heap.size + 1) 29 zeroC.toList := by
    rw [hW]
    have := heap_alloc_new (w.alloc (.cells C 29)) (.cells zeroC 29)
    rwa [show (w.alloc (.cells C 29)).heap.size = w.heap.size + 1 by simp] at this
  have HH0 : Hid (HideAt w B W w.heap.size cf o 0 C C.toList) := Lib.hid (HideAt.start hC hB (fun p hp => hWb.cell (by omega)) (by omega))
  have HW0 := Lib.hid hW0
  have HW1 := Lib.hid hW1
  clear hW hW0 hW1 hC
  generalize hgg : w.heap.size = g at *
  have hgl : g + 1 < W.heap.size := by omega
  have HGG := Lib.hid hgg
  clear hgg hWs
  go_loopw [5, 6, 7, 8] (fun _ _ _ i wr => ∃ (k : Nat) (D : List Value), k ≤ 8 ∧ i = .int .i64 k ∧ Hid (HideAt w B wr g cf o k C D) ∧ Hid (Blk wr g 29 D) ∧ Hid (Blk wr (g + 1) 29 zeroC.toList) ∧ Below g w wr ∧ g + 1 < wr.heap.size) (fun _ _ _ i _ => 8 - (intOf i).toNat)
  case atStart => exact ⟨0, C.toList, Nat.zero_le _, rfl, HH0, HW0, HW1, hWb, hgl⟩
  case round =>
    clear HH0 HW0 HW1 hWb hgl
    obtain ⟨k, D, hk, rfl, HA, HD, HZ, hbel, hgl⟩ := hrel
    by_cases hlt : k < 8
    · obtain ⟨A, cp, us, i1, i2, i3, i4⟩ := HA.out.ins k hlt
      obtain ⟨A', cp', d1, d2, d3, d4⟩ := HA.out.draws k hlt
      rw [if_neg (by omega)] at i1 i2 i4 d1 d2 d3 d4
      have q0 : wr.cell? ⟨g, k, none⟩ = some (.int .u64 (cf.clear k : Int)) := HD.out.cell (by rw [HA.out.same k (by omega)]; exact (HC.out.clear k hlt).1)
      have q1 : wr.cell? ⟨g, 16 + k, none⟩ = some (.int .u64 (cf.label k : Int)) := HD.out.cell (by rw [HA.out.same (16 + k) (by omega)]; exact (HC.out.label k hlt).1)
      have q2 : wr.cell? ⟨g, 8 + k, none⟩ = some (.slice A (cf.ins k).length cp) := HD.out.cell i1
      have q3 : wr.cell? ⟨g, 24 + k, none⟩ = some (.slice A' (cf.draws k).length cp') := HD.out.cell d1
      have f0 : ∀ i, wr.frozen? ⟨g, i, none⟩ = false := fun i => HD.out.frozen i
      have HI1 := Lib.hid i1
      have HI2 := Lib.hid i2
      have HI3 := Lib.hid i3
      have HI4 := Lib.hid i4
      have HD1 := Lib.hid d1
      have HD2 := Lib.hid d2
      have HD3 := Lib.hid d3
      have HD4 := Lib.hid d4
      have hcl := (HC.out.clear k hlt).2
      have hla := (HC.out.label k hlt).2
      have hinl : us.length = 3 * (cf.ins k).length := i4.len
      have hk0 : (0 : Int) ≤ (k : Int) := by omega
      have hk8 : (k : Int) < 8 := by omega
      clear i1 i2 i3 i4 d1 d2 d3 d4
      have HUL := Lib.hid hinl
      clear hinl
      go_wp2_with fail
      go_quiet (fail)
      have hS0 : Stage w wr g wr D := ⟨HD.out, HZ.out, hbel, hgl, fun _ _ h => h⟩
      have HS1 := Lib.hid (((hS0.drewN nq).set_ (8 + k) (.slice none 0 0)).set_ (24 + k) (.slice none 0 0))
      clear hS0
      go_wp2_with fail
      generalize (((wr.drewN nq).setCell ⟨g, 8 + k, none⟩ (.slice none 0 0)).setCell ⟨g, 24 + k, none⟩ (.slice none 0 0)) = W1 at HS1 ⊢
      clear q0 q1 q2 q3 f0
      refine (FL.out _ hcl _).mono ?_
      rintro e w' ⟨rfl, rfl⟩
      have hlen : D.length = 36 := HA.out.len
      have HLN := Lib.hid hlen
      have hD0 : Hid (D[16 + k]? = some (.int .u64 (cf.label k : Int))) := Lib.hid (by rw [HA.out.same (16 + k) (by omega)]; exact (HC.out.label k hlt).1)
      clear hlen
      cases hf1 : Lab.flows (cf.clear k) o
      · have HV1 : Hid ((hideCfg o cf).ins k = []) := Lib.hid (by show (if _ then _ else _) = _; rw [hf1]; rfl)
        have q1 : W1.cell? ⟨g, 16 + k, none⟩ = some (.int .u64 (cf.label k : Int)) := HS1.out.blk.cell (by rw [List.getElem?_set_ne (by omega), List.getElem?_set_ne (by omega)]; exact hD0.out)
        go_wp2_with fail
        refine (FL.out _ hla _).mono ?_
        rintro e w2 ⟨rfl, rfl⟩
        clear q1
        cases hf2 : Lab.flows (cf.label k) o
        · have HV2 : Hid ((hideCfg o cf).draws k = []) := Lib.hid (by show (if _ then _ else _) = _; rw [hf2]; rfl)
          go_wp2_with fail
          go_roundw
          case rel => exact ⟨k + 1, _, by omega, by go_num, Lib.hid ((HA.out.far HS1.out.far).next hlt (.slice none 0 0) (.slice none 0 0) (by rw [HV1.out]; exact insAt_nil) (by rw [HV2.out]; exact drwAt_nil) newV_nil newV_nil), Lib.hid HS1.out.blk, Lib.hid HS1.out.zero, HS1.out.below, HS1.out.size⟩
          case measure => simp [intOf]; omega
        · have HV2 : Hid ((hideCfg o cf).draws k = cf.draws k) := Lib.hid (by show (if _ then _ else _) = _; rw [hf2]; rfl)
          go_wp2_with fail
          refine (cloneInts_any (cf.draws k).length cp' (I64 (cf.draws k)) A' W1 W1.heap.size (HS1.out.far _ _ HD4.out).lies (by simp [I64]) (by intro u hu; simp only [I64, List.mem_map] at hu; obtain ⟨n, _, rfl⟩ := hu; rfl) (Nat.le_refl _) HD2.out.1 HD2.out.2.2 HD2.out.2.1).mono ?_
          rintro e w3 ⟨A3, c3, rfl, hc3, hc4, hl3, hn3, hb3⟩
          have HS3 := Lib.hid ((HS1.out.later hb3).set_ (24 + k) (.slice A3 (cf.draws k).length c3))
          have q3 : w3.cell? ⟨g, 24 + k, none⟩ = some (.slice none 0 0) := (HS1.out.later hb3).blk.cell (by rw [List.getElem?_set_self (by rw [List.length_set, HLN.out]; omega)])
          have f3 : w3.frozen? ⟨g, 24 + k, none⟩ = false := (HS1.out.later hb3).blk.frozen _
          go_wp2_with fail
          go_roundw
          case rel => exact ⟨k + 1, _, by omega, by go_num, Lib.hid (((HA.out.far HS1.out.far).far (fun A us h => (h.below hb3).set_ _ _)).next hlt (.slice none 0 0) (.slice A3 (cf.draws k).length c3) (by rw [HV1.out]; exact insAt_nil) (by rw [HV2.out]; exact ⟨A3, c3, rfl, ⟨hc3, HD2.out.2.1, hc4⟩, HD3.out, (far_new hl3 hn3 HS1.out.size).set_ _ _⟩) newV_nil (newV_of hn3 HS1.out.size)), Lib.hid (by rw [← set_bb]; exact HS3.out.blk), Lib.hid HS3.out.zero, HS3.out.below, HS3.out.size⟩
          case measure => simp [intOf]; omega
      · have HV1 : Hid ((hideCfg o cf).ins k = cf.ins k) := Lib.hid (by show (if _ then _ else _) = _; rw [hf1]; rfl)
        go_wp2_with fail
        refine (cloneArrs_any (cf.ins k).length cp us A W1 W1.heap.size (HS1.out.far _ _ HI3.out).lies HUL.out HI4.out.one (Nat.le_refl _) HI2.out.1 HI2.out.2.2 HI2.out.2.1).mono ?_
        rintro e w2 ⟨A2, c2, rfl, hc1, hc2, hl2, hn2, hb2⟩
        have HS2 := Lib.hid ((HS1.out.later hb2).set_ (8 + k) (.slice A2 (cf.ins k).length c2))
        have q2 : w2.cell? ⟨g, 8 + k, none⟩ = some (.slice none 0 0) := (HS1.out.later hb2).blk.cell (by rw [List.getElem?_set_ne (by omega), List.getElem?_set_self (by rw [HLN.out]; omega)])
        have f2 : w2.frozen? ⟨g, 8 + k, none⟩ = false := (HS1.out.later hb2).blk.frozen _
        have HF2 : Hid (Far (w2.setCell ⟨g, 8 + k, none⟩ (.slice A2 (cf.ins k).length c2)) g A2 us) := Lib.hid ((far_new hl2 hn2 HS1.out.size).set_ _ _)
        have HFR := Lib.hid (fun A us (h : Far W1 g A us) => (h.below hb2).set_ (8 + k) (.slice A2 (cf.ins k).length c2))
        have q1 : (w2.setCell ⟨g, 8 + k, none⟩ (.slice A2 (cf.ins k).length c2)).cell? ⟨g, 16 + k, none⟩ = some (.int .u64 (cf.label k : Int)) := HS2.out.blk.cell (by rw [List.getElem?_set_ne (by omega), List.getElem?_set_ne (by omega), List.getElem?_set_ne (by omega)]; exact hD0.out)
        have HNW : Hid (NewV g (some (.slice A2 (cf.ins k).length c2))) := Lib.hid (newV_of hn2 HS1.out.size)
        clear hb2 hl2 hn2
        go_wp2_with fail
        clear q1 q2 f2
        generalize w2.setCell ⟨g, 8 + k, none⟩ (.slice A2 (cf.ins k).length c2) = V at HS2 HF2 HFR ⊢
        refine (FL.out _ hla _).mono ?_
        rintro e w4 ⟨rfl, rfl⟩
        cases hf2 : Lab.flows (cf.label k) o
        · have HV2 : Hid ((hideCfg o cf).draws k = []) := Lib.hid (by show (if _ then _ else _) = _; rw [hf2]; rfl)
          go_wp2_with fail
          go_roundw
          case rel => exact ⟨k + 1, _, by omega, by go_num, Lib.hid ((HA.out.far HS2.out.far).next hlt (.slice A2 (cf.ins k).length c2) (.slice none 0 0) (by rw [HV1.out]; exact ⟨A2, c2, us, rfl, ⟨hc1, HI2.out.2.1, hc2⟩, HF2.out, HI4.out⟩) (by rw [HV2.out]; exact drwAt_nil) HNW.out newV_nil), Lib.hid (by rw [← set_ab D (8 + k) (24 + k) (by omega) (.slice none 0 0)]; exact HS2.out.blk), Lib.hid HS2.out.zero, HS2.out.below, HS2.out.size⟩
          case measure => simp [intOf]; omega
        · have HV2 : Hid ((hideCfg o cf).draws k = cf.draws k) := Lib.hid (by show (if _ then _ else _) = _; rw [hf2]; rfl)
          go_wp2_with fail
          refine (cloneInts_any (cf.draws k).length cp' (I64 (cf.draws k)) A' V V.heap.size (HS2.out.far _ _ HD4.out).lies (by simp [I64]) (by intro u hu; simp only [I64, List.mem_map] at hu; obtain ⟨n, _, rfl⟩ := hu; rfl) (Nat.le_refl _) HD2.out.1 HD2.out.2.2 HD2.out.2.1).mono ?_
          rintro e w3 ⟨A3, c3, rfl, hc3, hc4, hl3, hn3, hb3⟩
          have HS3 := Lib.hid ((HS2.out.later hb3).set_ (24 + k) (.slice A3 (cf.draws k).length c3))
          have q3 : w3.cell? ⟨g, 24 + k, none⟩ = some (.slice none 0 0) := (HS2.out.later hb3).blk.cell (by rw [List.getElem?_set_ne (by omega), List.getElem?_set_self (by rw [List.length_set, HLN.out]; omega)])
          have f3 : w3.frozen? ⟨g, 24 + k, none⟩ = false := (HS2.out.later hb3).blk.frozen _
          go_wp2_with fail
          go_roundw
          case rel => exact ⟨k + 1, _, by omega, by go_num, Lib.hid (((HA.out.far HS2.out.far).far (fun A us h => (h.below hb3).set_ _ _)).next hlt (.slice A2 (cf.ins k).length c2) (.slice A3 (cf.draws k).length c3) (by rw [HV1.out]; exact ⟨A2, c2, us, rfl, ⟨hc1, HI2.out.2.1, hc2⟩, (HF2.out.below hb3).set_ _ _, HI4.out⟩) (by rw [HV2.out]; exact ⟨A3, c3, rfl, ⟨hc3, HD2.out.2.1, hc4⟩, HD3.out, (far_new hl3 hn3 HS2.out.size).set_ _ _⟩) HNW.out (newV_of hn3 HS2.out.size)), Lib.hid (by rw [← set_bb _ _ (.slice none 0 0), ← set_ab D (8 + k) (24 + k) (by omega) (.slice none 0 0)]; exact HS3.out.blk), Lib.hid HS3.out.zero, HS3.out.below, HS3.out.size⟩
          case measure => simp [intOf]; omega
    · obtain rfl : k = 8 := by omega
      have HB0 := Lib.hid (show wr.heap[g]? = some (.cells D.toArray 29 (0, 0)) from HD.out)
      have HB1 := Lib.hid (show wr.heap[g + 1]? = some (.cells zeroC 29 (0, 0)) from HZ.out)
      have HSZ : Hid (D.toArray.size = 36) := Lib.hid (by simpa using HA.out.len)
      have HIS : Hid ((Try.prog.info? 29).map (·.size) = some D.toArray.size) := Lib.hid (by rw [HSZ.out]; exact HI.out)
      have hfin := HA.out.done HC.out (fun p hp => hbel.cell (by have := HGG.out; omega)) (by have := HGG.out; omega)
      have HFN := Lib.hid hfin
      have HZS : Hid (zeroC.size = D.toArray.size) := Lib.hid (Eq.trans (by rfl) HSZ.out.symm)
      clear hfin
      go_wp2_with (first
        | (with_reducible refine wpList_load_row rfl 29 (.tmp 2) rfl g rfl 29 D.toArray (0, 0) _ HB0.out Try.underlying29 rfl HIS.out ?_)
        | (with_reducible refine wpList_store_row rfl 29 (.tmp 4) (.tmp 48) rfl (g + 1) D.toArray rfl rfl 29 zeroC HB1.out HIS.out HZS.out HFN.out.one ?_))
      refine bodyPost_ret (results_cell_row (by rfl) _ _ (g + 1) 29 D.toArray (0, 0) _ (by rfl) (heap_setRow_same HB1.out) Try.underlying29 rfl HIS.out) rfl ⟨D.toArray, rfl, ?_, ?_⟩
      · have := (HA.out.far (fun A us h => h.setRow_ D.toArray)).at_ HC.out
        rw [HGG.out]
        exact this.mono (by omega)
      · rw [HGG.out]; exact Below.setRow' hbel (by omega) _
end Go.Proofs.Ytfiobbhicicchaa
