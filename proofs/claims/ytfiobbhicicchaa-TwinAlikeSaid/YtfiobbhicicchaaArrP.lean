/-
  Arrays in memory by the set of blocks that they lie in ('IsArrP'): for arrays that are built while rows grow beside them.
-/
import Derived.Test.YtfiobbhicicchaaArr
import Derived.Below
import Derived.Laws.AppendOwn
namespace Go.Proofs.Ytfiobbhicicchaa
open Go.RowKit Ar
set_option linter.unusedVariables false

/-- The cells behind an address (if any is wanted at all) are these values, and lie in one of these blocks. -/
def LiesP (w : World) (P : Nat → Prop) (A : Option Addr) (vs : List Value) : Prop :=
  vs = [] ∨ ∃ b off, A = some ⟨b, off, none⟩ ∧ P b ∧ ∀ i v, vs[i]? = some v → w.cell? ⟨b, off + i, none⟩ = some v
theorem Lies.p {w : World} {B : Nat} {A : Option Addr} {vs : List Value} (h : Lies w B A vs) : LiesP w (· < B) A vs := h
theorem LiesP.lies {w : World} {P : Nat → Prop} {B : Nat} {A : Option Addr} {vs : List Value} (h : LiesP w P A vs) (hP : ∀ b, P b → b < B) : Lies w B A vs := by
  rcases h with h | ⟨b, off, hA, hb, hc⟩
  · exact .inl h
  · exact .inr ⟨b, off, hA, hP _ hb, hc⟩
theorem LiesP.keep {w w' : World} {P P' : Nat → Prop} {A : Option Addr} {vs : List Value} (h : LiesP w P A vs) (hk : ∀ p : Addr, P p.block → w'.cell? p = w.cell? p) (hP : ∀ b, P b → P' b) : LiesP w' P' A vs := by
  rcases h with h | ⟨b, off, hA, hb, hc⟩
  · exact .inl h
  · exact .inr ⟨b, off, hA, hP _ hb, fun i v hv => (hk ⟨b, off + i, none⟩ hb).trans (hc i v hv)⟩
mutual
def IsArrP (w : World) (P : Nat → Prop) : Arr → List Value → Prop
  | .mk S shape cells, vs => ∃ A c A' c' us, vs = [.int .u64 (S : Int), .slice A shape.length c, .slice A' cells.length c'] ∧ S < 18446744073709551616 ∧ Fits shape.length c 8 ∧ Fits cells.length c' 104 ∧ Wf64 shape ∧
      LiesP w P A (I64 shape) ∧ LiesP w P A' us ∧ IsCelsP w P cells us
def IsCelsP (w : World) (P : Nat → Prop) : List Cel → List Value → Prop
  | [], vs => vs = []
  | c :: r, vs => ∃ u t, vs = u ++ t ∧ IsCelP w P c u ∧ IsCelsP w P r t
def IsCelP (w : World) (P : Nat → Prop) : Cel → List Value → Prop
  | .mk L kind neg top bot ch ins, vs => ∃ A c A' c' A'' c'' us, vs = [.int .u64 (L : Int), .int .i64 kind, .bool neg, .slice A top.length c, .slice A' bot.length c', .int .i64 ch, .slice A'' ins.length c''] ∧
      L < 18446744073709551616 ∧ Fits top.length c 4 ∧ Fits bot.length c' 4 ∧ Fits ins.length c'' 56 ∧ Wf64 [kind, ch] ∧ Wf32 top ∧ Wf32 bot ∧ LiesP w P A (U32 top) ∧ LiesP w P A' (U32 bot) ∧ LiesP w P A'' us ∧ IsArrsP w P ins us ∧ (A = none → c = 0) ∧ (A' = none → c' = 0)
def IsArrsP (w : World) (P : Nat → Prop) : List Arr → List Value → Prop
  | [], vs => vs = []
  | a :: r, vs => ∃ u t, vs = u ++ t ∧ IsArrP w P a u ∧ IsArrsP w P r t
end
mutual
theorem IsArrP.keep {w w' : World} {P P' : Nat → Prop} (hk : ∀ p : Addr, P p.block → w'.cell? p = w.cell? p) (hP : ∀ b, P b → P' b) : ∀ (a : Arr) (vs : List Value), IsArrP w P a vs → IsArrP w' P' a vs
  | .mk S shape cells, vs, h => by
    rw [IsArrP] at h ⊢
    obtain ⟨A, c, A', c', us, h1, h2, h3, h4, h5, h6, h7, h8⟩ := h
    exact ⟨A, c, A', c', us, h1, h2, h3, h4, h5, h6.keep hk hP, h7.keep hk hP, IsCelsP.keep hk hP cells us h8⟩
theorem IsCelsP.keep {w w' : World} {P P' : Nat → Prop} (hk : ∀ p : Addr, P p.block → w'.cell? p = w.cell? p) (hP : ∀ b, P b → P' b) : ∀ (a : List Cel) (vs : List Value), IsCelsP w P a vs → IsCelsP w' P' a vs
  | [], vs, h => by rw [IsCelsP] at h ⊢; exact h
  | c :: r, vs, h => by
    rw [IsCelsP] at h ⊢
    obtain ⟨u, t, h1, h2, h3⟩ := h
    exact ⟨u, t, h1, IsCelP.keep hk hP c u h2, IsCelsP.keep hk hP r t h3⟩
theorem IsCelP.keep {w w' : World} {P P' : Nat → Prop} (hk : ∀ p : Addr, P p.block → w'.cell? p = w.cell? p) (hP : ∀ b, P b → P' b) : ∀ (a : Cel) (vs : List Value), IsCelP w P a vs → IsCelP w' P' a vs
  | .mk L kind neg top bot ch ins, vs, h => by
    rw [IsCelP] at h ⊢
    obtain ⟨A, c, A', c', A2, c2, us, h1, h2, h3, h4, h5, h6, h7, h8, h9, h10, h11, h12⟩ := h
    exact ⟨A, c, A', c', A2, c2, us, h1, h2, h3, h4, h5, h6, h7, h8, h9.keep hk hP, h10.keep hk hP, h11.keep hk hP, IsArrsP.keep hk hP ins us h12.1, h12.2⟩
theorem IsArrsP.keep {w w' : World} {P P' : Nat → Prop} (hk : ∀ p : Addr, P p.block → w'.cell? p = w.cell? p) (hP : ∀ b, P b → P' b) : ∀ (a : List Arr) (vs : List Value), IsArrsP w P a vs → IsArrsP w' P' a vs
  | [], vs, h => by rw [IsArrsP] at h ⊢; exact h
  | c :: r, vs, h => by
    rw [IsArrsP] at h ⊢
    obtain ⟨u, t, h1, h2, h3⟩ := h
    exact ⟨u, t, h1, IsArrP.keep hk hP c u h2, IsArrsP.keep hk hP r t h3⟩
end
mutual
theorem IsArr.p {w : World} {B : Nat} : ∀ (a : Arr) (vs : List Value), IsArr w B a vs → IsArrP w (· < B) a vs
  | .mk S shape cells, vs, h => by
    rw [IsArr] at h; rw [IsArrP]
    obtain ⟨A, c, A', c', us, h1, h2, h3, h4, h5, h6, h7, h8⟩ := h
    exact ⟨A, c, A', c', us, h1, h2, h3, h4, h5, h6, h7, IsCels.p cells us h8⟩
theorem IsCels.p {w : World} {B : Nat} : ∀ (a : List Cel) (vs : List Value), IsCels w B a vs → IsCelsP w (· < B) a vs
  | [], vs, h => by rw [IsCels] at h; rw [IsCelsP]; exact h
  | c :: r, vs, h => by
    rw [IsCels] at h; rw [IsCelsP]
    obtain ⟨u, t, h1, h2, h3⟩ := h
    exact ⟨u, t, h1, IsCel.p c u h2, IsCels.p r t h3⟩
theorem IsCel.p {w : World} {B : Nat} : ∀ (a : Cel) (vs : List Value), IsCel w B a vs → IsCelP w (· < B) a vs
  | .mk L kind neg top bot ch ins, vs, h => by
    rw [IsCel] at h; rw [IsCelP]
    obtain ⟨A, c, A', c', A2, c2, us, h1, h2, h3, h4, h5, h6, h7, h8, h9, h10, h11, h12⟩ := h
    exact ⟨A, c, A', c', A2, c2, us, h1, h2, h3, h4, h5, h6, h7, h8, h9, h10, h11, IsArrs.p ins us h12.1, h12.2⟩
theorem IsArrs.p {w : World} {B : Nat} : ∀ (a : List Arr) (vs : List Value), IsArrs w B a vs → IsArrsP w (· < B) a vs
  | [], vs, h => by rw [IsArrs] at h; rw [IsArrsP]; exact h
  | c :: r, vs, h => by
    rw [IsArrs] at h; rw [IsArrsP]
    obtain ⟨u, t, h1, h2, h3⟩ := h
    exact ⟨u, t, h1, IsArr.p c u h2, IsArrs.p r t h3⟩
end
mutual
theorem IsArrP.is {w : World} {P : Nat → Prop} {B : Nat} (hP : ∀ b, P b → b < B) : ∀ (a : Arr) (vs : List Value), IsArrP w P a vs → IsArr w B a vs
  | .mk S shape cells, vs, h => by
    rw [IsArrP] at h; rw [IsArr]
    obtain ⟨A, c, A', c', us, h1, h2, h3, h4, h5, h6, h7, h8⟩ := h
    exact ⟨A, c, A', c', us, h1, h2, h3, h4, h5, h6.lies hP, h7.lies hP, IsCelsP.is hP cells us h8⟩
theorem IsCelsP.is {w : World} {P : Nat → Prop} {B : Nat} (hP : ∀ b, P b → b < B) : ∀ (a : List Cel) (vs : List Value), IsCelsP w P a vs → IsCels w B a vs
  | [], vs, h => by rw [IsCelsP] at h; rw [IsCels]; exact h
  | c :: r, vs, h => by
    rw [IsCelsP] at h; rw [IsCels]
    obtain ⟨u, t, h1, h2, h3⟩ := h
    exact ⟨u, t, h1, IsCelP.is hP c u h2, IsCelsP.is hP r t h3⟩
theorem IsCelP.is {w : World} {P : Nat → Prop} {B : Nat} (hP : ∀ b, P b → b < B) : ∀ (a : Cel) (vs : List Value), IsCelP w P a vs → IsCel w B a vs
  | .mk L kind neg top bot ch ins, vs, h => by
    rw [IsCelP] at h; rw [IsCel]
    obtain ⟨A, c, A', c', A2, c2, us, h1, h2, h3, h4, h5, h6, h7, h8, h9, h10, h11, h12⟩ := h
    exact ⟨A, c, A', c', A2, c2, us, h1, h2, h3, h4, h5, h6, h7, h8, h9.lies hP, h10.lies hP, h11.lies hP, IsArrsP.is hP ins us h12.1, h12.2⟩
theorem IsArrsP.is {w : World} {P : Nat → Prop} {B : Nat} (hP : ∀ b, P b → b < B) : ∀ (a : List Arr) (vs : List Value), IsArrsP w P a vs → IsArrs w B a vs
  | [], vs, h => by rw [IsArrsP] at h; rw [IsArrs]; exact h
  | c :: r, vs, h => by
    rw [IsArrsP] at h; rw [IsArrs]
    obtain ⟨u, t, h1, h2, h3⟩ := h
    exact ⟨u, t, h1, IsArrP.is hP c u h2, IsArrsP.is hP r t h3⟩
end
theorem IsCelsP.snoc {w : World} {P : Nat → Prop} : ∀ {cs : List Cel} {vs : List Value} (h : IsCelsP w P cs vs) {c : Cel} {u : List Value} (hc : IsCelP w P c u), IsCelsP w P (cs ++ [c]) (vs ++ u)
  | [], vs, h, c, u, hc => by
    rw [IsCelsP] at h; subst h
    show IsCelsP w P [c] _
    rw [IsCelsP]; exact ⟨u, [], by simp, hc, by rw [IsCelsP]⟩
  | x :: r, vs, h, c, u, hc => by
    rw [IsCelsP] at h
    obtain ⟨u', t, rfl, h2, h3⟩ := h
    show IsCelsP w P (x :: (r ++ [c])) _
    rw [IsCelsP]; exact ⟨u', t ++ u, by simp, h2, h3.snoc hc⟩
theorem IsArrsP.snoc {w : World} {P : Nat → Prop} : ∀ {cs : List Arr} {vs : List Value} (h : IsArrsP w P cs vs) {c : Arr} {u : List Value} (hc : IsArrP w P c u), IsArrsP w P (cs ++ [c]) (vs ++ u)
  | [], vs, h, c, u, hc => by
    rw [IsArrsP] at h; subst h
    show IsArrsP w P [c] _
    rw [IsArrsP]; exact ⟨u, [], by simp, hc, by rw [IsArrsP]⟩
  | x :: r, vs, h, c, u, hc => by
    rw [IsArrsP] at h
    obtain ⟨u', t, rfl, h2, h3⟩ := h
    show IsArrsP w P (x :: (r ++ [c])) _
    rw [IsArrsP]; exact ⟨u', t ++ u, by simp, h2, h3.snoc hc⟩
theorem IsArrP.len {w : World} {P : Nat → Prop} {a : Arr} {vs : List Value} (h : IsArrP w P a vs) : vs.length = 3 := by
  cases a; rw [IsArrP] at h
  obtain ⟨A, c, A', c', us, rfl, _⟩ := h
  rfl
theorem IsArrP.form {w : World} {P : Nat → Prop} {a : Arr} {vs : List Value} (h : IsArrP w P a vs) : ∃ (S : Nat) (A : Option Addr) (n c : Nat) (A' : Option Addr) (n' c' : Nat), vs = [.int .u64 (S : Int), .slice A n c, .slice A' n' c'] := by
  cases a; rw [IsArrP] at h
  obtain ⟨A, c, A', c', us, rfl, _⟩ := h
  exact ⟨_, _, _, _, _, _, _, rfl⟩

/-- Blocks below B, or from lo on, but for the block of a row that grows. -/
def POut (B lo : Nat) (w : World) (V : Value) (b : Nat) : Prop := b < B ∨ (lo ≤ b ∧ b < w.heap.size ∧ V.ownBlock ≠ some b)
theorem POut.step {B lo H g n cap : Nat} {w w' : World} {V : Value} (hs : w.heap.size ≤ w'.heap.size) (hat : V.ownBlock = some g ∨ g = H) (hH : w.heap.size ≤ H) {b : Nat} (h : POut B lo w V b) : POut B lo w' (.slice (some ⟨g, 0, none⟩) n cap) b := by
  rcases h with h | ⟨h1, h2, h3⟩
  · exact .inl h
  · refine .inr ⟨h1, by omega, ?_⟩
    show some g ≠ some b
    rintro e
    injection e with e
    subst e
    rcases hat with h4 | h4
    · exact h3 h4
    · omega
theorem POut.new {B lo H g n cap s2 : Nat} {w w' : World} {V : Value} (hlo : lo ≤ w.heap.size) (hs : s2 ≤ w'.heap.size) (hat : V.ownBlock = some g ∨ g = H) (hH : s2 ≤ H) (hown : ∀ x, V.ownBlock = some x → x < w.heap.size) {b : Nat} (h : b < B ∨ (w.heap.size ≤ b ∧ b < s2)) : POut B lo w' (.slice (some ⟨g, 0, none⟩) n cap) b := by
  rcases h with h | ⟨h1, h2⟩
  · exact .inl h
  · refine .inr ⟨by omega, by omega, ?_⟩
    show some g ≠ some b
    rintro e
    injection e with e
    subst e
    rcases hat with h4 | h4
    · have := hown _ h4; omega
    · omega
theorem own_below {w w' : World} {base n size : Nat} {e : TypeId} {v : Value} {xs : List Value} (h : w.ownsRow base e size v n xs) (hb : Below w.heap.size w w') : w'.ownsRow base e size v n xs :=
  h.kept (row := none) ⟨hb.os, hb.tape, hb.output, hb.size, fun k hk _ => hb.block k hk⟩ (by cases v.ownBlock <;> simp)
theorem LiesP.of_own {w : World} {base : Nat} {e : TypeId} {size n c : Nat} {A : Option Addr} {xs : List Value} (h : w.ownsRow base e size (.slice A n c) n xs) : LiesP w (fun b => base ≤ b ∧ b < w.heap.size) A xs := by
  rcases Lies.of_own h with h1 | ⟨b, off, hA, hb, hc⟩
  · exact .inl h1
  · refine .inr ⟨b, off, hA, ⟨?_, hb⟩, hc⟩
    exact (h.lt b (by rw [hA]; rfl)).1
theorem cells_at (w : World) (cs : List Value) (t : TypeId) (j : Nat) (u : Value) (h : cs[j]? = some u) : (w.alloc (.cells cs.toArray t)).cell? ((⟨w.heap.size, 0, none⟩ : Addr).add j) = some u := by
  rw [show (⟨w.heap.size, 0, none⟩ : Addr).add j = ⟨w.heap.size, j, none⟩ by unfold Addr.add; split <;> simp_all]
  rw [cell_of_row (w.alloc (.cells cs.toArray t)) w.heap.size j cs.toArray t (0, 0) (heap_alloc_new w _)]
  simpa using h
end Go.Proofs.Ytfiobbhicicchaa
