/-
  Texts of this proof, joined (by wip/bin/bundle.py): ParMath, ParMath2, ParBack, LexMath, ParSame, LexMath2, ParBack2, ParBack3, LexMath3, LexMath4, ParBack4, ParBack5.
-/
import Derived.Test.YtceplkpjnebnfaaGreatDoorM6
/-
  Lines, plain: the program's road from tokens to an expression, with so much fuel; more fuel changes nothing; enough fuel.
-/
namespace Pr
open Tr Tk

/-- None: the fuel is out; some none: it can't go on; else what is read, and what is left. -/
abbrev Res (α : Type) := Option (Option (α × List Tok))
def bnd {α β : Type} (x : Res α) (k : α → List Tok → Res β) : Res β :=
  match x with
  | none => none
  | some none => some none
  | some (some (a, T)) => k a T
def fail {α : Type} : Res α := some none
def ret {α : Type} (a : α) (T : List Tok) : Res α := some (some (a, T))
def kd (T : List Tok) (n : Nat) : Int := match T[n]? with
  | none => -1
  | some t => t.kind
def gl (T : List Tok) (n : Nat) : Int := if kd T n = 7 then (T.getD n Tk.none_).c else 0
def node (k o : Int) (m : List UInt8) (l : List Tree) : Tree := .mk k o m Rt.none_ [] l
def begA (T : List Tok) : Bool :=
  (kd T 0 == 0) || (kd T 0 == 1) || (kd T 0 == 2) || (kd T 0 == 4) || (kd T 0 == 5) || (gl T 0 == 9082) || (gl T 0 == 9077) || (gl T 0 == 40)
def begP (T : List Tok) : Bool := (kd T 0 == 3) || (kd T 0 == 6) || (gl T 0 == 8711) || (gl T 0 == 123) || Tr.glyph (gl T 0)
def begF (T : List Tok) : Bool := begP T || (gl T 0 == 8728)
def target (a : Tree) : Bool := (kind a == 3) || (kind a == 6) || ((kind a == 9) && (((kids a).map kind).getD 0 0 == 3))
def nameAt (l : List Tree) : List UInt8 := (l.map name).getD 0 []
def set (a e : Tree) : Tree :=
  if kind a = 3 then node 13 0 (name a) [e] else if kind a = 6 then node 16 (op a) [] [e] else node 14 0 (nameAt (kids a)) (e :: (kids a).tail)
def strandT : List Tree → Tree
  | [a] => a
  | l => node 8 0 [] l
def leaf (t : Tok) : Option Tree :=
  if t.kind = 0 then some (.mk 1 0 [] t.n [] []) else if t.kind = 1 then some (.mk 2 0 [] Rt.none_ t.l []) else if t.kind = 2 then some (node 3 0 t.s []) else if t.kind = 4 then some (node 6 t.c [] [])
  else if t.kind = 5 then some (node 7 t.c [] []) else if t.c = 9082 then some (node 4 0 [] []) else if t.c = 9077 then some (node 5 0 [] []) else none
def fleaf (t : Tok) : Option Tree :=
  if t.kind = 3 then some (node 18 0 t.s []) else if t.kind = 6 then some (node 21 t.c [] []) else if t.c = 8711 then some (node 19 0 [] []) else if t.c = 123 then none else some (node 17 t.c [] [])
mutual
def stmts : Nat → Bool → List Tok → Res (List Tree)
  | 0, _, _ => none
  | f + 1, b, T => bnd (stmt f b T) fun e U => if gl U 0 = 8900 then bnd (stmts f b U.tail) fun l V => ret (e :: l) V else ret [e] U
def stmt : Nat → Bool → List Tok → Res Tree
  | 0, _, _ => none
  | f + 1, b, T =>
    if kd T 0 = 3 ∧ gl T 1 = 8592 then bnd (func f (T.drop 2)) fun g U => ret (node 27 0 (T.getD 0 Tk.none_).s [g]) U
    else bnd (expr f T) fun e U =>
      if b = true ∧ gl U 0 = 58 then
        if gl U.tail 0 = 58 then bnd (expr f U.tail.tail) fun e2 V => ret (node 26 0 [] [e, e2]) V
        else bnd (expr f U.tail) fun e2 V => ret (node 25 0 [] [e, e2]) V
      else ret e U
def expr : Nat → List Tok → Res Tree
  | 0, _ => none
  | f + 1, T => if begA T = true then behind f T else bnd (func f T) fun g U => bnd (expr f U) fun e V => ret (node 11 0 [] [g, e]) V
def behind : Nat → List Tok → Res Tree
  | 0, _ => none
  | f + 1, T => bnd (arrs f T) fun l U =>
    if target (strandT l) = true ∧ gl U 0 = 8592 then bnd (expr f U.tail) fun e V => ret (set (strandT l) e) V
    else if begF U = true then bnd (func f U) fun g V =>
      if kind (strandT l) = 3 ∧ gl V 0 = 8592 then bnd (expr f V.tail) fun e X => ret (node 15 0 (name (strandT l)) [g, e]) X
      else bnd (expr f V) fun e X => ret (node 12 0 [] [strandT l, g, e]) X
    else ret (strandT l) U
def arrs : Nat → List Tok → Res (List Tree)
  | 0, _ => none
  | f + 1, T => if begA T = true then bnd (arr f T) fun a U => bnd (arrs f U) fun l V => ret (a :: l) V else ret [] T
def arr : Nat → List Tok → Res Tree
  | 0, _ => none
  | f + 1, T => bnd (alone f T) fun a U => more f a U
def more : Nat → Tree → List Tok → Res Tree
  | 0, _, _ => none
  | f + 1, a, T => if gl T 0 = 91 then bnd (places f T.tail) fun l U => if gl U 0 = 93 then more f (node 9 0 [] (a :: l)) U.tail else fail else ret a T
def places : Nat → List Tok → Res (List Tree)
  | 0, _ => none
  | f + 1, T => bnd (if gl T 0 = 59 ∨ gl T 0 = 93 then ret (node 10 0 [] []) T else expr f T) fun p U => if gl U 0 = 59 then bnd (places f U.tail) fun l V => ret (p :: l) V else ret [p] U
def alone : Nat → List Tok → Res Tree
  | 0, _ => none
  | f + 1, T => if begA T = true then
      match leaf (T.getD 0 Tk.none_) with
      | some e => ret e T.tail
      | none => bnd (expr f T.tail) fun e U => if gl U 0 = 41 then ret e U.tail else fail
    else fail
def func : Nat → List Tok → Res Tree
  | 0, _ => none
  | f + 1, T => if gl T 0 = 8728 then if gl T.tail 0 = 46 then bnd (plain f T.tail.tail) fun g U => ops f (node 24 0 [] [g]) U else fail else bnd (plain f T) fun g U => ops f g U
def ops : Nat → Tree → List Tok → Res Tree
  | 0, _, _ => none
  | f + 1, g, T => if monops.contains (gl T 0) = true then ops f (node 22 (gl T 0) [] [g]) T.tail
    else if dyops.contains (gl T 0) = true then bnd (if gl T 0 = 9060 ∨ (gl T 0 = 9059 ∧ begA T.tail = true) then arr f T.tail else plain f T.tail) fun k U => ops f (node 23 (gl T 0) [] [g, k]) U
    else ret g T
def plain : Nat → List Tok → Res Tree
  | 0, _ => none
  | f + 1, T => if begP T = true then
      match fleaf (T.getD 0 Tk.none_) with
      | some e => ret e T.tail
      | none => bnd (stmts f true T.tail) fun l U => if gl U 0 = 125 then ret (node 20 0 [] l) U.tail else fail
    else fail
end

def Le {α : Type} (x y : Res α) : Prop := ∀ r, x = some r → y = some r
theorem Le.refl {α : Type} (x : Res α) : Le x x := fun _ h => h
theorem Le.none_ {α : Type} (y : Res α) : Le (none : Res α) y := fun _ h => by cases h
theorem Le.bnd {α β : Type} {x y : Res α} {k k' : α → List Tok → Res β} (h : Le x y) (hk : ∀ a T, Le (k a T) (k' a T)) : Le (bnd x k) (bnd y k') := by
  intro r hr
  cases x with
  | none => cases hr
  | some x =>
    rw [h x rfl]
    cases x with
    | none => exact hr
    | some p => exact hk _ _ r hr
theorem Le.ite {α : Type} {c : Prop} [Decidable c] {x y x' y' : Res α} (h : Le x x') (h' : Le y y') : Le (if c then x else y) (if c then x' else y') := by
  by_cases hc : c
  · rw [if_pos hc, if_pos hc]; exact h
  · rw [if_neg hc, if_neg hc]; exact h'
structure Mono (f : Nat) : Prop where
  stmts : ∀ b T, Le (stmts f b T) (stmts (f + 1) b T)
  stmt : ∀ b T, Le (stmt f b T) (stmt (f + 1) b T)
  expr : ∀ T, Le (expr f T) (expr (f + 1) T)
  behind : ∀ T, Le (behind f T) (behind (f + 1) T)
  arrs : ∀ T, Le (arrs f T) (arrs (f + 1) T)
  arr : ∀ T, Le (arr f T) (arr (f + 1) T)
  more : ∀ a T, Le (more f a T) (more (f + 1) a T)
  places : ∀ T, Le (places f T) (places (f + 1) T)
  alone : ∀ T, Le (alone f T) (alone (f + 1) T)
  func : ∀ T, Le (func f T) (func (f + 1) T)
  ops : ∀ g T, Le (ops f g T) (ops (f + 1) g T)
  plain : ∀ T, Le (plain f T) (plain (f + 1) T)
theorem mono : ∀ f, Mono f
  | 0 => ⟨fun _ _ => Le.none_ _, fun _ _ => Le.none_ _, fun _ => Le.none_ _, fun _ => Le.none_ _, fun _ => Le.none_ _, fun _ => Le.none_ _, fun _ _ => Le.none_ _, fun _ => Le.none_ _, fun _ => Le.none_ _, fun _ => Le.none_ _, fun _ _ => Le.none_ _, fun _ => Le.none_ _⟩
  | f + 1 => by
    have h := mono f
    constructor
    · intro b T
      rw [Pr.stmts, Pr.stmts.eq_2 b T (f + 1)]
      exact (h.stmt b T).bnd fun e U => Le.ite ((h.stmts b _).bnd fun _ _ => Le.refl _) (Le.refl _)
    · intro b T
      rw [Pr.stmt, Pr.stmt.eq_2 b T (f + 1)]
      exact Le.ite ((h.func _).bnd fun _ _ => Le.refl _) ((h.expr T).bnd fun e U => Le.ite (Le.ite ((h.expr _).bnd fun _ _ => Le.refl _) ((h.expr _).bnd fun _ _ => Le.refl _)) (Le.refl _))
    · intro T
      rw [Pr.expr, Pr.expr.eq_2 T (f + 1)]
      exact Le.ite (h.behind T) ((h.func T).bnd fun _ _ => (h.expr _).bnd fun _ _ => Le.refl _)
    · intro T
      rw [Pr.behind, Pr.behind.eq_2 T (f + 1)]
      exact (h.arrs T).bnd fun l U => Le.ite ((h.expr _).bnd fun _ _ => Le.refl _) (Le.ite ((h.func U).bnd fun _ _ => Le.ite ((h.expr _).bnd fun _ _ => Le.refl _) ((h.expr _).bnd fun _ _ => Le.refl _)) (Le.refl _))
    · intro T
      rw [Pr.arrs, Pr.arrs.eq_2 T (f + 1)]
      exact Le.ite ((h.arr T).bnd fun _ _ => (h.arrs _).bnd fun _ _ => Le.refl _) (Le.refl _)
    · intro T
      rw [Pr.arr, Pr.arr.eq_2 T (f + 1)]
      exact (h.alone T).bnd fun _ _ => h.more _ _
    · intro a T
      rw [Pr.more, Pr.more.eq_2 a T (f + 1)]
      exact Le.ite ((h.places _).bnd fun _ _ => Le.ite (h.more _ _) (Le.refl _)) (Le.refl _)
    · intro T
      rw [Pr.places, Pr.places.eq_2 T (f + 1)]
      exact (Le.ite (Le.refl _) (h.expr T)).bnd fun _ _ => Le.ite ((h.places _).bnd fun _ _ => Le.refl _) (Le.refl _)
    · intro T
      rw [Pr.alone, Pr.alone.eq_2 T (f + 1)]
      refine Le.ite ?_ (Le.refl _)
      cases leaf (T.getD 0 Tk.none_) with
      | some e => exact Le.refl _
      | none => exact (h.expr _).bnd fun _ _ => Le.refl _
    · intro T
      rw [Pr.func, Pr.func.eq_2 T (f + 1)]
      exact Le.ite (Le.ite ((h.plain _).bnd fun _ _ => h.ops _ _) (Le.refl _)) ((h.plain _).bnd fun _ _ => h.ops _ _)
    · intro g T
      rw [Pr.ops, Pr.ops.eq_2 g T (f + 1)]
      exact Le.ite (h.ops _ _) (Le.ite ((Le.ite (h.arr _) (h.plain _)).bnd fun _ _ => h.ops _ _) (Le.refl _))
    · intro T
      rw [Pr.plain, Pr.plain.eq_2 T (f + 1)]
      refine Le.ite ?_ (Le.refl _)
      cases fleaf (T.getD 0 Tk.none_) with
      | some e => exact Le.refl _
      | none => exact (h.stmts _ _).bnd fun _ _ => Le.refl _
end Pr

/-
  Lines, plain: with enough fuel the road ends; what is left is no longer than what was there.
-/
namespace Pr
open Tr Tk

theorem gl_out {T : List Tok} {n : Nat} (h : T.length ≤ n) : gl T n = 0 := by
  unfold gl kd; rw [List.getElem?_eq_none h]; rfl
theorem gl_ne {T : List Tok} {n : Nat} (h : gl T n ≠ 0) : n < T.length := by
  rcases Nat.lt_or_ge n T.length with h1 | h1
  · exact h1
  · exact absurd (gl_out h1) h
theorem begA_ne {T : List Tok} (h : begA T = true) : 0 < T.length := by
  cases T with
  | nil => exact absurd h (by decide)
  | cons _ _ => simp
theorem begP_ne {T : List Tok} (h : begP T = true) : 0 < T.length := by
  cases T with
  | nil => exact absurd h (by decide)
  | cons _ _ => simp
theorem mon_ne {T : List Tok} (h : monops.contains (gl T 0) = true) : 0 < T.length := gl_ne (fun e => by rw [e] at h; exact absurd h (by decide))
theorem dy_ne {T : List Tok} (h : dyops.contains (gl T 0) = true) : 0 < T.length := gl_ne (fun e => by rw [e] at h; exact absurd h (by decide))

/-- It ends, with no more than so many left. -/
def Suf {α : Type} (x : Res α) (n : Nat) : Prop := ∃ o, x = some o ∧ ∀ a U, o = some (a, U) → U.length ≤ n
theorem Suf.ret {α : Type} {a : α} {T : List Tok} {n : Nat} (h : T.length ≤ n) : Suf (ret a T) n := ⟨_, rfl, fun _ _ e => by injection e with e; injection e with _ e; subst e; exact h⟩
theorem Suf.fail {α : Type} {n : Nat} : Suf (fail : Res α) n := ⟨_, rfl, fun _ _ e => by cases e⟩
theorem Suf.bnd {α β : Type} {x : Res α} {k : α → List Tok → Res β} {n m : Nat} (h : Suf x n) (hk : ∀ a U, U.length ≤ n → Suf (k a U) m) : Suf (bnd x k) m := by
  obtain ⟨o, rfl, h⟩ := h
  cases o with
  | none => exact Suf.fail
  | some p => exact hk p.1 p.2 (h _ _ rfl)
theorem Suf.ite {α : Type} {c : Prop} [Decidable c] {x y : Res α} {n : Nat} (h : c → Suf x n) (h' : ¬c → Suf y n) : Suf (if c then x else y) n := by
  by_cases hc : c
  · rw [if_pos hc]; exact h hc
  · rw [if_neg hc]; exact h' hc
theorem Suf.mono {α : Type} {x : Res α} {n m : Nat} (h : Suf x n) (hm : n ≤ m) : Suf x m := by
  obtain ⟨o, e, h⟩ := h
  exact ⟨o, e, fun a U e => Nat.le_trans (h a U e) hm⟩
structure Enough (f : Nat) : Prop where
  stmts : ∀ b T, 16 * T.length + 7 ≤ f → Suf (stmts f b T) T.length
  stmt : ∀ b T, 16 * T.length + 6 ≤ f → Suf (stmt f b T) T.length
  expr : ∀ T, 16 * T.length + 5 ≤ f → Suf (expr f T) T.length
  behind : ∀ T, 16 * T.length + 4 ≤ f → Suf (behind f T) T.length
  arrs : ∀ T, 16 * T.length + 3 ≤ f → Suf (arrs f T) T.length
  arr : ∀ T, 16 * T.length + 2 ≤ f → Suf (arr f T) (T.length - 1)
  more : ∀ a T, 16 * T.length ≤ f → 1 ≤ f → Suf (more f a T) T.length
  places : ∀ T, 16 * T.length + 6 ≤ f → Suf (places f T) T.length
  alone : ∀ T, 16 * T.length ≤ f → 1 ≤ f → Suf (alone f T) (T.length - 1)
  func : ∀ T, 16 * T.length + 2 ≤ f → Suf (func f T) (T.length - 1)
  ops : ∀ g T, 16 * T.length ≤ f → 1 ≤ f → Suf (ops f g T) T.length
  plain : ∀ T, 16 * T.length ≤ f → 1 ≤ f → Suf (plain f T) (T.length - 1)
theorem enough : ∀ f, Enough f
  | 0 => ⟨fun _ _ h => by omega, fun _ _ h => by omega, fun _ h => by omega, fun _ h => by omega, fun _ h => by omega, fun _ h => by omega, fun _ _ _ h => by omega, fun _ h => by omega, fun _ _ h => by omega, fun _ h => by omega, fun _ _ _ h => by omega, fun _ _ h => by omega⟩
  | f + 1 => by
    have h := enough f
    constructor
    · intro b T hf
      rw [Pr.stmts]
      refine (h.stmt b T (by omega)).bnd fun e U hU => Suf.ite (fun hc => ?_) (fun _ => Suf.ret (by omega))
      have := gl_ne (T := U) (n := 0) (by rw [hc]; decide)
      exact (h.stmts b _ (by rw [List.length_tail]; omega)).bnd fun _ _ hV => Suf.ret (by rw [List.length_tail] at hV; omega)
    · intro b T hf
      rw [Pr.stmt]
      refine Suf.ite (fun hc => ?_) (fun _ => (h.expr T (by omega)).bnd fun e U hU => Suf.ite (fun hc => Suf.ite (fun hc2 => ?_) (fun _ => ?_)) (fun _ => Suf.ret (by omega)))
      · have := gl_ne (T := T) (n := 1) (by rw [hc.2]; decide)
        exact (h.func _ (by rw [List.length_drop]; omega)).bnd fun _ _ hV => Suf.ret (by rw [List.length_drop] at hV; omega)
      · have := gl_ne (T := U) (n := 0) (by rw [hc.2]; decide)
        exact (h.expr _ (by rw [List.length_tail, List.length_tail]; omega)).bnd fun _ _ hV => Suf.ret (by rw [List.length_tail, List.length_tail] at hV; omega)
      · have := gl_ne (T := U) (n := 0) (by rw [hc.2]; decide)
        exact (h.expr _ (by rw [List.length_tail]; omega)).bnd fun _ _ hV => Suf.ret (by rw [List.length_tail] at hV; omega)
    · intro T hf
      rw [Pr.expr]
      refine Suf.ite (fun _ => h.behind T (by omega)) (fun _ => ?_)
      by_cases hT : 0 < T.length
      · exact (h.func T (by omega)).bnd fun _ U hU => (h.expr _ (by omega)).bnd fun _ _ hV => Suf.ret (by omega)
      · have e : T = [] := List.eq_nil_of_length_eq_zero (by omega)
        subst e
        refine (h.func [] (by omega)).bnd fun _ U hU => ?_
        have e : U = [] := List.eq_nil_of_length_eq_zero (by simpa using hU)
        subst e
        cases f with
        | zero => simp at hf
        | succ f =>
          rw [Pr.expr, if_neg (by decide)]
          refine Suf.bnd (n := 0) ?_ (fun _ _ hV => Suf.ret (by omega))
          cases f with
          | zero => simp at hf
          | succ f =>
            rw [Pr.func, if_neg (by decide)]
            cases f with
            | zero => simp at hf
            | succ f => rw [Pr.plain, if_neg (by decide)]; exact Suf.fail
    · intro T hf
      rw [Pr.behind]
      refine (h.arrs T (by omega)).bnd fun l U hU => Suf.ite (fun hc => ?_) (fun _ => Suf.ite (fun hF => ?_) (fun _ => Suf.ret (by omega)))
      · have := gl_ne (T := U) (n := 0) (by rw [hc.2]; decide)
        exact (h.expr _ (by rw [List.length_tail]; omega)).bnd fun _ _ hV => Suf.ret (by rw [List.length_tail] at hV; omega)
      · have hU0 : 0 < U.length := by
          unfold begF at hF
          simp only [Bool.or_eq_true, beq_iff_eq] at hF
          rcases hF with hF | hF
          · exact begP_ne hF
          · exact gl_ne (T := U) (n := 0) (by rw [hF]; decide)
        refine (h.func U (by omega)).bnd fun _ V hV => Suf.ite (fun hc => ?_) (fun _ => (h.expr _ (by omega)).bnd fun _ _ hX => Suf.ret (by omega))
        have := gl_ne (T := V) (n := 0) (by rw [hc.2]; decide)
        exact (h.expr _ (by rw [List.length_tail]; omega)).bnd fun _ _ hX => Suf.ret (by rw [List.length_tail] at hX; omega)
    · intro T hf
      rw [Pr.arrs]
      refine Suf.ite (fun hc => ?_) (fun _ => Suf.ret (by omega))
      have := begA_ne hc
      exact (h.arr T (by omega)).bnd fun _ U hU => (h.arrs _ (by omega)).bnd fun _ _ hV => Suf.ret (by omega)
    · intro T hf
      rw [Pr.arr]
      by_cases hT : 0 < T.length
      · exact (h.alone T (by omega) (by omega)).bnd fun _ U hU => (h.more _ _ (by omega) (by omega)).mono (by omega)
      · have e : T = [] := List.eq_nil_of_length_eq_zero (by omega)
        subst e
        cases f with
        | zero => simp at hf
        | succ f => rw [Pr.alone, if_neg (by decide)]; exact Suf.fail
    · intro a T hf _
      rw [Pr.more]
      refine Suf.ite (fun hc => ?_) (fun _ => Suf.ret (by omega))
      have := gl_ne (T := T) (n := 0) (by rw [hc]; decide)
      refine (h.places _ (by rw [List.length_tail]; omega)).bnd fun l U hU => Suf.ite (fun hc => ?_) (fun _ => Suf.fail)
      rw [List.length_tail] at hU
      exact (h.more _ _ (by rw [List.length_tail]; omega) (by omega)).mono (by rw [List.length_tail]; omega)
    · intro T hf
      rw [Pr.places]
      refine (Suf.ite (fun _ => Suf.ret (Nat.le_refl _)) (fun _ => h.expr T (by omega))).bnd fun p U hU => Suf.ite (fun hc => ?_) (fun _ => Suf.ret (by omega))
      have := gl_ne (T := U) (n := 0) (by rw [hc]; decide)
      exact (h.places _ (by rw [List.length_tail]; omega)).bnd fun _ _ hV => Suf.ret (by rw [List.length_tail] at hV; omega)
    · intro T hf _
      rw [Pr.alone]
      refine Suf.ite (fun hc => ?_) (fun _ => Suf.fail)
      have := begA_ne hc
      cases leaf (T.getD 0 Tk.none_) with
      | some e => exact Suf.ret (by rw [List.length_tail]; omega)
      | none =>
        refine (h.expr _ (by rw [List.length_tail]; omega)).bnd fun e U hU => Suf.ite (fun _ => Suf.ret (by rw [List.length_tail] at hU ⊢; omega)) (fun _ => Suf.fail)
    · intro T hf
      rw [Pr.func]
      refine Suf.ite (fun hc => Suf.ite (fun hc2 => ?_) (fun _ => Suf.fail)) (fun _ => ?_)
      · have := gl_ne (T := T) (n := 0) (by rw [hc]; decide)
        have h2 := gl_ne (T := T.tail) (n := 0) (by rw [hc2]; decide)
        rw [List.length_tail] at h2
        refine (h.plain _ (by rw [List.length_tail, List.length_tail]; omega) (by omega)).bnd fun _ U hU => ?_
        rw [List.length_tail, List.length_tail] at hU
        exact (h.ops _ _ (by omega) (by omega)).mono (by omega)
      · by_cases hT : 0 < T.length
        · exact (h.plain T (by omega) (by omega)).bnd fun _ U hU => (h.ops _ _ (by omega) (by omega)).mono (by omega)
        · have e : T = [] := List.eq_nil_of_length_eq_zero (by omega)
          subst e
          cases f with
          | zero => simp at hf
          | succ f => rw [Pr.plain, if_neg (by decide)]; exact Suf.fail
    · intro g T hf _
      rw [Pr.ops]
      refine Suf.ite (fun hc => ?_) (fun _ => Suf.ite (fun hc => ?_) (fun _ => Suf.ret (by omega)))
      · have := mon_ne hc
        exact (h.ops _ _ (by rw [List.length_tail]; omega) (by omega)).mono (by rw [List.length_tail]; omega)
      · have := dy_ne hc
        refine (Suf.ite (n := T.tail.length) (fun _ => (h.arr _ (by rw [List.length_tail]; omega)).mono (by omega)) (fun _ => (h.plain _ (by rw [List.length_tail]; omega) (by omega)).mono (by omega))).bnd fun k U hU => ?_
        rw [List.length_tail] at hU
        exact (h.ops _ _ (by omega) (by omega)).mono (by omega)
    · intro T hf _
      rw [Pr.plain]
      refine Suf.ite (fun hc => ?_) (fun _ => Suf.fail)
      have := begP_ne hc
      cases fleaf (T.getD 0 Tk.none_) with
      | some e => exact Suf.ret (by rw [List.length_tail]; omega)
      | none =>
        refine (h.stmts _ _ (by rw [List.length_tail]; omega)).bnd fun l U hU => Suf.ite (fun _ => Suf.ret (by rw [List.length_tail] at hU ⊢; omega)) (fun _ => Suf.fail)
/-- Fuel that is enough for a line of so many tokens. -/
def fuel (T : List Tok) : Nat := 16 * T.length + 7
end Pr

/-
  Lines, plain: the tokens that an expression is told in, and that the road leads from them back to it.
-/
namespace Pr
open Tr Tk

def Ev {α : Type} (F : Nat → Res α) (a : α) (U : List Tok) : Prop := ∃ f, F f = some (some (a, U))
theorem lift {α : Type} {F : Nat → Res α} (h : ∀ f, Le (F f) (F (f + 1))) {f g : Nat} {r : Option (α × List Tok)} (hf : F f = some r) (hg : f ≤ g) : F g = some r := by
  induction g with
  | zero => obtain rfl : f = 0 := by omega
            exact hf
  | succ g ih =>
    by_cases e : f = g + 1
    · subst e; exact hf
    · exact h g r (ih (by omega))
theorem Ev.up {α : Type} {F : Nat → Res α} {a : α} {U : List Tok} (h : Ev F a U) (hm : ∀ f, Le (F f) (F (f + 1))) : ∃ f, ∀ g, f ≤ g → F g = some (some (a, U)) := by
  obtain ⟨f, hf⟩ := h
  exact ⟨f, fun g hg => lift hm hf hg⟩
theorem bnd_some {α β : Type} (a : α) (T : List Tok) (k : α → List Tok → Res β) : bnd (some (some (a, T))) k = k a T := rfl

theorem ev_arrs_nil {T : List Tok} (h : begA T = false) : Ev (fun f => arrs f T) [] T := ⟨1, by show arrs 1 T = _; rw [arrs, if_neg (by rw [h]; simp)]; rfl⟩
theorem ev_arrs_cons {T U V : List Tok} {a : Tree} {l : List Tree} (h : begA T = true) (h1 : Ev (fun f => arr f T) a U) (h2 : Ev (fun f => arrs f U) l V) : Ev (fun f => arrs f T) (a :: l) V := by
  obtain ⟨f1, h1⟩ := h1.up (fun f => (mono f).arr T)
  obtain ⟨f2, h2⟩ := h2.up (fun f => (mono f).arrs U)
  refine ⟨max f1 f2 + 1, ?_⟩
  show arrs (max f1 f2 + 1) T = _
  rw [arrs, if_pos h, h1 _ (by omega), bnd_some, h2 _ (by omega)]; rfl
theorem ev_more_ret {T : List Tok} {a : Tree} (h : gl T 0 ≠ 91) : Ev (fun f => more f a T) a T := ⟨1, by show more 1 a T = _; rw [more, if_neg h]; rfl⟩
/-- A place. -/
def Place (T : List Tok) (p : Tree) (U : List Tok) : Prop := (gl T 0 = 59 ∨ gl T 0 = 93) ∧ p = node 10 0 [] [] ∧ U = T ∨ ¬(gl T 0 = 59 ∨ gl T 0 = 93) ∧ Ev (fun f => expr f T) p U
theorem Place.up {T U : List Tok} {p : Tree} (h : Place T p U) : ∃ f, ∀ g, f ≤ g → (if gl T 0 = 59 ∨ gl T 0 = 93 then ret (node 10 0 [] []) T else expr g T) = some (some (p, U)) := by
  rcases h with ⟨h, rfl, rfl⟩ | ⟨h, h1⟩
  · exact ⟨0, fun g _ => by rw [if_pos h]; rfl⟩
  · obtain ⟨f, hf⟩ := h1.up (fun f => (mono f).expr _)
    exact ⟨f, fun g hg => by rw [if_neg h]; exact hf g hg⟩
def g (c : Int) : Tok := ⟨7, Rt.none_, [], [], c, 0⟩
structure Kt where
  kind : Int
  wrap : Bool
  toks : List Tok
def nthK (l : List Kt) (i : Nat) : Kt := l.getD i ⟨0, false, []⟩
def tin (s : List Tok) : List Tok := g 40 :: (s ++ [g 41])
def titem (a : Kt) : List Tok := if item a.kind then a.toks else tin a.toks
def tbehind (a : Kt) : List Tok := if a.wrap then tin a.toks else a.toks
def tjoin (b : List Tok) : List (List Tok) → List Tok
  | [] => []
  | [s] => s
  | s :: y :: r => s ++ (b ++ tjoin b (y :: r))
def tplaces (l : List Kt) : List Tok := g 91 :: (tjoin [g 59] (l.map Kt.toks) ++ [g 93])
def leafK (k o : Int) (m : List UInt8) (n : Rt.Nm) (t : List Int) : List Tok :=
  if k = 1 then [⟨0, n, [], [], 0, 0⟩] else if k = 2 then [⟨1, Rt.none_, t, [], 0, 0⟩] else if k = 3 then [⟨2, Rt.none_, [], m, 0, 0⟩] else if k = 4 then [g 9082] else if k = 5 then [g 9077]
  else if k = 6 then [⟨4, Rt.none_, [], [], o, 0⟩] else if k = 7 then [⟨5, Rt.none_, [], [], o, 0⟩] else if k = 17 then [g o] else if k = 18 then [⟨3, Rt.none_, [], m, 0, 0⟩] else if k = 19 then [g 8711]
  else if k = 21 then [⟨6, Rt.none_, [], [], o, 0⟩] else []
def asmK (k o : Int) (m : List UInt8) (n : Rt.Nm) (t : List Int) (l : List Kt) : List Tok :=
  if k = 8 then tjoin [] (l.map titem)
  else if k = 9 then titem (nthK l 0) ++ tplaces (l.drop 1)
  else if k = 11 then (nthK l 0).toks ++ tbehind (nthK l 1)
  else if k = 12 then (if (nthK l 0).kind = 8 then (nthK l 0).toks else titem (nthK l 0)) ++ ((nthK l 1).toks ++ tbehind (nthK l 2))
  else if k = 13 then ⟨2, Rt.none_, [], m, 0, 0⟩ :: g 8592 :: (nthK l 0).toks
  else if k = 27 then ⟨3, Rt.none_, [], m, 0, 0⟩ :: g 8592 :: (nthK l 0).toks
  else if k = 14 then ⟨2, Rt.none_, [], m, 0, 0⟩ :: (tplaces (l.drop 1) ++ g 8592 :: (nthK l 0).toks)
  else if k = 15 then ⟨2, Rt.none_, [], m, 0, 0⟩ :: ((nthK l 0).toks ++ g 8592 :: (nthK l 1).toks)
  else if k = 16 then ⟨4, Rt.none_, [], [], o, 0⟩ :: g 8592 :: (nthK l 0).toks
  else if k = 20 then g 123 :: (tjoin [g 8900] (l.map Kt.toks) ++ [g 125])
  else if k = 22 then (nthK l 0).toks ++ [g o]
  else if k = 23 then (nthK l 0).toks ++ g o :: (if array (nthK l 1).kind then titem (nthK l 1) else (nthK l 1).toks)
  else if k = 24 then g 8728 :: g 46 :: (nthK l 0).toks
  else if k = 25 then tjoin [g 58] (l.map Kt.toks)
  else if k = 26 then tjoin [g 58, g 58] (l.map Kt.toks)
  else if k = 28 then tjoin [g 8900] (l.map Kt.toks)
  else leafK k o m n t
mutual
def tk : Tree → List Tok
  | .mk k o m n t l => asmK k o m n t (tks l)
def tks : List Tree → List Kt
  | [] => []
  | a :: r => ⟨kind a, (Tr.kd a).wrap, tk a⟩ :: tks r
end
def kt (a : Tree) : Kt := ⟨kind a, (Tr.kd a).wrap, tk a⟩
theorem tks_map : ∀ l : List Tree, tks l = l.map kt
  | [] => rfl
  | t :: r => by rw [tks, tks_map r]; rfl
theorem tk_mk (k o : Int) (m : List UInt8) (n : Rt.Nm) (t : List Int) (l : List Tree) : tk (.mk k o m n t l) = asmK k o m n t (l.map kt) := by rw [tk, tks_map]
end Pr

/-
  Lines, plain: the characters of tokens, and that they are read again.
-/
namespace Lx
open Tr Tk Go

/-- The characters of a token. -/
def chs (s : List UInt8) : List Int := s.map fun b => (b.toNat : Int)
def digC (v : Nat) : List Int := chs (Lib.decDigits v)
def printC (n : Rt.Nm) : List Int := (if n.neg = true then [175] else []) ++ (digC (Nt.val n.top) ++ if n.bot = [1] then [] else 114 :: digC (Nt.val n.bot))
def quotC (t : List Int) : List Int := t.flatMap fun c => if c = 39 then [39, 39] else [c]
def tokC (x : Tok) : List Int :=
  if x.kind = 0 then printC x.n else if x.kind = 1 then 39 :: (quotC x.l ++ [39]) else if x.kind = 2 ∨ x.kind = 3 then chs x.s else if x.kind = 4 then [9109, 48 + x.c]
  else if x.kind = 5 then [9054, 48 + x.c] else if x.kind = 6 then 9109 :: (if x.c = 1 then [85, 80] else [68, 67]) else [x.c]
/-- A character that is a token of its own. -/
def gly (c : Int) : Bool := ((cls c == 4) || (cls c == 5) || (cls c == 6)) && !(c == 39) && !(c == 9109) && !(c == 9054) && !(c == 9053)
def at0 (R : List Int) : Int := R.getD 0 (-1)
theorem enc_app (a b : List Int) : enc (a ++ b) = enc a ++ enc b := by unfold enc; exact List.flatMap_append
end Lx

/-
  Lines, plain: where tokens begin does not matter to what is made of them.
-/
namespace Pr
open Tr Tk

def z (x : Tok) : Tok := { x with at_ := 0 }
/-- The same tokens, but for where they begin. -/
def Sm (T T' : List Tok) : Prop := T.map z = T'.map z
theorem Sm.nil_iff {T T' : List Tok} (h : Sm T T') : T = [] ↔ T' = [] := by
  unfold Sm at h
  constructor
  · rintro rfl; simpa using h.symm
  · rintro rfl; simpa using h
theorem Sm.tail {T T' : List Tok} (h : Sm T T') : Sm T.tail T'.tail := by
  cases T with
  | nil => rw [(h.nil_iff).1 rfl]; exact rfl
  | cons x r =>
    cases T' with
    | nil => exact absurd ((h.nil_iff).2 rfl) (by simp)
    | cons y s => exact (List.cons.inj h).2
theorem drop_tail (T : List Tok) : ∀ n, T.drop (n + 1) = (T.drop n).tail := by intro n; simp [List.tail_drop]
theorem Sm.drop {T T' : List Tok} (h : Sm T T') : ∀ n, Sm (T.drop n) (T'.drop n)
  | 0 => h
  | n + 1 => by rw [drop_tail, drop_tail]; exact (h.drop n).tail
theorem Sm.get {T T' : List Tok} (h : Sm T T') (n : Nat) : (T[n]?).map z = (T'[n]?).map z := by
  rw [← List.getElem?_map, ← List.getElem?_map, show T.map z = T'.map z from h]
theorem Sm.kd {T T' : List Tok} (h : Sm T T') (n : Nat) : kd T n = kd T' n := by
  have h1 := h.get n
  unfold Pr.kd
  cases hx : T[n]? with
  | none => rw [hx] at h1; cases hy : T'[n]? with
    | none => rfl
    | some y => rw [hy] at h1; cases h1
  | some x => rw [hx] at h1; cases hy : T'[n]? with
    | none => rw [hy] at h1; cases h1
    | some y =>
      rw [hy] at h1
      exact (show (z x).kind = (z y).kind by rw [show z x = z y from Option.some.inj h1])
theorem Sm.getD {T T' : List Tok} (h : Sm T T') (n : Nat) : z (T.getD n Tk.none_) = z (T'.getD n Tk.none_) := by
  have h1 := h.get n
  rw [List.getD_eq_getElem?_getD, List.getD_eq_getElem?_getD]
  cases hx : T[n]? with
  | none => rw [hx] at h1; cases hy : T'[n]? with
    | none => rfl
    | some y => rw [hy] at h1; cases h1
  | some x => rw [hx] at h1; cases hy : T'[n]? with
    | none => rw [hy] at h1; cases h1
    | some y =>
      rw [hy] at h1
      exact Option.some.inj h1
theorem Sm.gl {T T' : List Tok} (h : Sm T T') (n : Nat) : gl T n = gl T' n := by
  unfold Pr.gl
  rw [h.kd n, show (T.getD n Tk.none_).c = (T'.getD n Tk.none_).c from (show (z (T.getD n Tk.none_)).c = (z (T'.getD n Tk.none_)).c by rw [h.getD n])]
theorem Sm.begA {T T' : List Tok} (h : Sm T T') : begA T = begA T' := by unfold Pr.begA; rw [h.kd 0, h.gl 0]
theorem Sm.begP {T T' : List Tok} (h : Sm T T') : begP T = begP T' := by unfold Pr.begP; rw [h.kd 0, h.gl 0]
theorem Sm.begF {T T' : List Tok} (h : Sm T T') : begF T = begF T' := by unfold Pr.begF; rw [h.begP, h.gl 0]
theorem Sm.leaf {T T' : List Tok} (h : Sm T T') : leaf (T.getD 0 Tk.none_) = leaf (T'.getD 0 Tk.none_) := by
  have := h.getD 0
  show Pr.leaf (z (T.getD 0 Tk.none_)) = Pr.leaf (z (T'.getD 0 Tk.none_))
  rw [this]
theorem Sm.fleaf {T T' : List Tok} (h : Sm T T') : fleaf (T.getD 0 Tk.none_) = fleaf (T'.getD 0 Tk.none_) := by
  have := h.getD 0
  show Pr.fleaf (z (T.getD 0 Tk.none_)) = Pr.fleaf (z (T'.getD 0 Tk.none_))
  rw [this]
theorem Sm.s {T T' : List Tok} (h : Sm T T') : (T.getD 0 Tk.none_).s = (T'.getD 0 Tk.none_).s := (show (z (T.getD 0 Tk.none_)).s = (z (T'.getD 0 Tk.none_)).s by rw [h.getD 0])
/-- The same result, but for where tokens begin. -/
inductive Rl {α : Type} : Res α → Res α → Prop
  | out : Rl none none
  | fail : Rl (some none) (some none)
  | ret (a : α) {T T' : List Tok} (h : Sm T T') : Rl (some (some (a, T))) (some (some (a, T')))
theorem Rl.bnd {α β : Type} {x y : Res α} {k k' : α → List Tok → Res β} (h : Rl x y) (hk : ∀ a T T', Sm T T' → Rl (k a T) (k' a T')) : Rl (bnd x k) (bnd y k') := by
  cases h with
  | out => exact .out
  | fail => exact .fail
  | ret a h => exact hk _ _ _ h
theorem Rl.ite {α : Type} {c c' : Prop} [Decidable c] [Decidable c'] {x y x' y' : Res α} (hc : c ↔ c') (h : Rl x x') (h' : Rl y y') : Rl (if c then x else y) (if c' then x' else y') := by
  by_cases h0 : c
  · rw [if_pos h0, if_pos (hc.1 h0)]; exact h
  · rw [if_neg h0, if_neg (fun e => h0 (hc.2 e))]; exact h'
theorem Sm.len {T T' : List Tok} (h : Sm T T') : T.length = T'.length := by
  have := congrArg List.length (show T.map z = T'.map z from h)
  simpa using this
end Pr

/-
  Lines, plain: the tokens of a line's pieces.
-/
namespace Lx
open Tr Tk Go

theorem gly_cls {c : Int} (h : gly c = true) : (cls c = 4 ∨ cls c = 5 ∨ cls c = 6) ∧ c ≠ 39 ∧ c ≠ 9109 ∧ c ≠ 9054 ∧ c ≠ 9053 := by
  unfold gly at h
  simp only [Bool.and_eq_true, Bool.or_eq_true, beq_iff_eq, Bool.not_eq_true', beq_eq_false_iff_ne] at h
  exact ⟨by rcases h.1.1.1.1 with (h | h) | h <;> simp [h], h.1.1.1.2, h.1.1.2, h.1.2, h.2⟩
theorem port_d {c : Int} (h : Tr.port c = true) : 0 ≤ c ∧ c < 8 := by
  unfold Tr.port at h
  simpa using h
def pcC : List (Option Tok) → List Int
  | [] => []
  | none :: r => 32 :: pcC r
  | some x :: r => tokC x ++ pcC r
theorem pcC_app : ∀ (a b : List (Option Tok)), pcC (a ++ b) = pcC a ++ pcC b
  | [], b => rfl
  | none :: r, b => by show 32 :: pcC (r ++ b) = 32 :: (pcC r ++ pcC b); rw [pcC_app r b]
  | some x :: r, b => by show tokC x ++ pcC (r ++ b) = (tokC x ++ pcC r) ++ pcC b; rw [pcC_app r b, List.append_assoc]
end Lx

/-
  Lines, plain: the tokens of an expression that may be lead back to it.
-/
namespace Pr
open Tr Tk

theorem gl_g (c : Int) (r : List Tok) : gl (g c :: r) 0 = c := rfl
def Opf (T : List Tok) : Prop := monops.contains (gl T 0) = false ∧ dyops.contains (gl T 0) = false
theorem Opf.cons {x : Tok} {r : List Tok} (h : Opf [x]) : Opf (x :: r) := h
/-- Characters with which nothing begins. -/
def closers : List Int := [91, 8592, 59, 93, 58, 41, 125, 8900]
theorem kd_gl {T : List Tok} (h : kd T 0 ≠ 7) : gl T 0 = 0 := by unfold gl; rw [if_neg h]
theorem begA_gl {T : List Tok} (h : begA T = true) : gl T 0 = 0 ∨ gl T 0 = 9082 ∨ gl T 0 = 9077 ∨ gl T 0 = 40 := by
  unfold begA at h
  simp only [Bool.or_eq_true, beq_iff_eq] at h
  rcases h with ((((((h | h) | h) | h) | h) | h) | h) | h
  · exact .inl (kd_gl (by rw [h]; decide))
  · exact .inl (kd_gl (by rw [h]; decide))
  · exact .inl (kd_gl (by rw [h]; decide))
  · exact .inl (kd_gl (by rw [h]; decide))
  · exact .inl (kd_gl (by rw [h]; decide))
  · exact .inr (.inl h)
  · exact .inr (.inr (.inl h))
  · exact .inr (.inr (.inr h))
theorem begA_opf {T : List Tok} (h : begA T = true) : Opf T := by
  unfold Opf
  rcases begA_gl h with h | h | h | h <;> rw [h] <;> decide
theorem begA_close {T : List Tok} (h : begA T = true) {c : Int} (hc : c ∈ closers) : gl T 0 ≠ c := by
  intro e
  have : closers.contains (gl T 0) = true := by rw [e]; exact List.contains_iff_mem.2 hc
  rcases begA_gl h with h | h | h | h <;> rw [h] at this <;> exact absurd this (by decide)
theorem glyph_not {c d : Int} (h : Tr.glyph c = true) (hd : Tr.glyph d = false) : c ≠ d := by rintro rfl; rw [h] at hd; cases hd
theorem close_glyph : ∀ c ∈ closers, Tr.glyph c = false := by decide
theorem begF_close {T : List Tok} (h : begF T = true) {c : Int} (hc : c ∈ closers) : gl T 0 ≠ c := by
  have hg := close_glyph c hc
  have h0 : c ≠ 0 := by rintro rfl; exact absurd hc (by decide)
  have h1 : c ≠ 8711 := by rintro rfl; exact absurd hc (by decide)
  have h2 : c ≠ 123 := by rintro rfl; exact absurd hc (by decide)
  have h3 : c ≠ 8728 := by rintro rfl; exact absurd hc (by decide)
  unfold begF begP at h
  simp only [Bool.or_eq_true, beq_iff_eq] at h
  rcases h with ((((h | h) | h) | h) | h) | h
  · rw [kd_gl (by rw [h]; decide)]; exact Ne.symm h0
  · rw [kd_gl (by rw [h]; decide)]; exact Ne.symm h0
  · rw [h]; exact Ne.symm h1
  · rw [h]; exact Ne.symm h2
  · exact glyph_not h hg
  · rw [h]; exact Ne.symm h3

def NotDef (x : Tok) (r : List Tok) : Prop := ∀ rest, gl rest 0 ≠ 8592 → ¬(x.kind = 3 ∧ gl (r ++ rest) 0 = 8592)
def StartF (s : List Tok) (first : Bool) : Prop := ∃ x r, s = x :: r ∧ begA [x] = false ∧ begF [x] = true ∧ (first = false → Opf [x]) ∧ NotDef x r
def StartA (s : List Tok) (k : Int) (wrap : Bool) : Prop := ∃ x r, s = x :: r ∧ (k ≠ 11 → begA [x] = true) ∧ (k = 11 → begA [x] = false ∧ begF [x] = true ∧ (wrap = false → Opf [x])) ∧ NotDef x r
theorem notdef_of {x : Tok} {r : List Tok} (h : x.kind ≠ 3) : NotDef x r := fun _ _ h2 => h h2.1
theorem begA_kind {x : Tok} (h : begA [x] = true) : x.kind ≠ 3 := by
  intro e
  have h2 : kd [x] 0 = 3 := e
  have h3 : gl [x] 0 = 0 := kd_gl (by rw [h2]; decide)
  unfold begA at h
  rw [h2, h3] at h
  exact absurd h (by decide)
theorem startA_of {x : Tok} {r : List Tok} {k : Int} {w : Bool} (h : begA [x] = true) (hk : k ≠ 11) : StartA (x :: r) k w :=
  ⟨x, r, rfl, fun _ => h, fun e => absurd e hk, notdef_of (begA_kind h)⟩
theorem StartA.beg {s : List Tok} {k : Int} {w : Bool} (h : StartA s k w) (rest : List Tok) {c : Int} (hc : c ∈ closers) : gl (s ++ rest) 0 ≠ c := by
  obtain ⟨x, r, rfl, h1, h2, _⟩ := h
  by_cases hk : k = 11
  · exact begF_close (T := x :: (r ++ rest)) (h2 hk).2.1 hc
  · exact begA_close (T := x :: (r ++ rest)) (h1 hk) hc
theorem StartA.begA {s : List Tok} {k : Int} {w : Bool} (h : StartA s k w) (hk : k ≠ 11) (rest : List Tok) : begA (s ++ rest) = true := by
  obtain ⟨x, r, rfl, h1, _⟩ := h
  exact h1 hk
theorem StartF.begs {s : List Tok} {b : Bool} (h : StartF s b) (rest : List Tok) : Pr.begA (s ++ rest) = false ∧ begF (s ++ rest) = true := by
  obtain ⟨x, r, rfl, h1, h2, _⟩ := h
  exact ⟨h1, h2⟩
theorem StartF.beg {s : List Tok} {b : Bool} (h : StartF s b) (rest : List Tok) {c : Int} (hc : c ∈ closers) : gl (s ++ rest) 0 ≠ c := begF_close (h.begs rest).2 hc
/-- An array behind a function. -/
theorem StartA.behind {a : Tree} (h : StartA (tk a) (kind a) (Tr.kd a).wrap) (rest : List Tok) : Opf (tbehind (kt a) ++ rest) ∧ ∀ c ∈ closers, gl (tbehind (kt a) ++ rest) 0 ≠ c := by
  unfold tbehind kt
  dsimp only
  by_cases hw : (Tr.kd a).wrap = true
  · rw [if_pos hw]
    unfold tin
    refine ⟨by unfold Opf; rw [List.cons_append, gl_g]; decide, fun c hc => ?_⟩
    rw [List.cons_append, gl_g]; rintro rfl; exact absurd hc (by decide)
  · rw [if_neg hw]
    refine ⟨?_, fun c hc => h.beg rest hc⟩
    obtain ⟨x, r, e, h1, h2, _⟩ := h
    rw [e]
    by_cases hk : kind a = 11
    · exact (h2 hk).2.2 (by simpa using hw)
    · exact begA_opf (T := x :: (r ++ rest)) (h1 hk)
theorem StartA.item {a : Tree} (ha : array (kind a) = true) (h : StartA (tk a) (kind a) (Tr.kd a).wrap) : ∃ x r, titem (kt a) = x :: r ∧ Pr.begA [x] = true := by
  unfold titem kt
  dsimp only
  by_cases hi : Tr.item (kind a) = true
  · rw [if_pos hi]
    obtain ⟨x, r, e, h1, _⟩ := h
    exact ⟨x, r, e, h1 (by intro e; rw [e] at hi; exact absurd hi (by decide))⟩
  · rw [if_neg hi]; exact ⟨_, _, rfl, by decide⟩

theorem parts1 {p : Int → Bool} : ∀ {l : List Tree}, parts (l.map kind) [p] = true → ∃ a, l = [a] ∧ p (kind a) = true
  | [], h => by simp [parts] at h
  | [a], h => ⟨a, rfl, by simpa [parts] using h⟩
  | a :: b :: r, h => by simp [parts] at h
theorem parts2 {p q : Int → Bool} : ∀ {l : List Tree}, parts (l.map kind) [p, q] = true → ∃ a b, l = [a, b] ∧ p (kind a) = true ∧ q (kind b) = true
  | [], h => by simp [parts] at h
  | [a], h => by simp [parts] at h
  | [a, b], h => ⟨a, b, rfl, by simpa [parts] using h⟩
  | a :: b :: c :: r, h => by simp [parts] at h
theorem parts3 {p q s : Int → Bool} : ∀ {l : List Tree}, parts (l.map kind) [p, q, s] = true → ∃ a b c, l = [a, b, c] ∧ p (kind a) = true ∧ q (kind b) = true ∧ s (kind c) = true
  | [], h => by simp [parts] at h
  | [a], h => by simp [parts] at h
  | [a, b], h => by simp [parts] at h
  | [a, b, c], h => ⟨a, b, c, rfl, by simpa [parts] using h⟩
  | a :: b :: c :: d :: r, h => by simp [parts] at h
theorem more2 {p q : Int → Bool} {l : List Tree} (h : (decide (2 ≤ (l.map kind).length) && p ((l.map kind).getD 0 0) && ((l.map kind).drop 1).all q) = true) : ∃ a b r, l = a :: b :: r ∧ p (kind a) = true ∧ ∀ x ∈ b :: r, q (kind x) = true := by
  match l with
  | [] => simp at h
  | [a] => simp at h
  | a :: b :: r => refine ⟨a, b, r, rfl, ?_, ?_⟩ <;> simp_all
theorem all2 {p : Int → Bool} {l : List Tree} (h : (decide (2 ≤ (l.map kind).length) && (l.map kind).all p) = true) : ∃ a b r, l = a :: b :: r ∧ ∀ x ∈ a :: b :: r, p (kind x) = true := by
  match l with
  | [] => simp at h
  | [a] => simp at h
  | a :: b :: r => refine ⟨a, b, r, rfl, ?_⟩; simp_all
theorem alls_mem : ∀ {l : List Tree}, alls l = true → ∀ a ∈ l, all a = true
  | [], _, _, h => by cases h
  | b :: r, ha, a, h => by
    unfold alls at ha
    simp only [Bool.and_eq_true] at ha
    rcases List.mem_cons.1 h with rfl | h
    · exact ha.1
    · exact alls_mem ha.2 a h
theorem array_kinds {k : Int} (h : array k = true) : k = 1 ∨ k = 2 ∨ k = 3 ∨ k = 4 ∨ k = 5 ∨ k = 6 ∨ k = 7 ∨ k = 8 ∨ k = 9 ∨ k = 11 ∨ k = 12 ∨ k = 13 ∨ k = 14 ∨ k = 15 ∨ k = 16 := by
  unfold array at h
  simp only [Bool.and_eq_true, decide_eq_true_eq, Bool.not_eq_true', beq_eq_false_iff_ne] at h
  omega
theorem func_kinds {k : Int} (h : Tr.func k = true) : k = 17 ∨ k = 18 ∨ k = 19 ∨ k = 20 ∨ k = 21 ∨ k = 22 ∨ k = 23 ∨ k = 24 := by
  unfold Tr.func at h
  simp only [Bool.and_eq_true, decide_eq_true_eq] at h
  omega
theorem zero_eq {n : Rt.Nm} (h : zero n = true) : n = Rt.none_ := by
  obtain ⟨a, b, c⟩ := n
  unfold zero at h
  simp only [Bool.and_eq_true, Bool.not_eq_true', List.isEmpty_iff] at h
  obtain ⟨⟨rfl, rfl⟩, rfl⟩ := h
  rfl
end Pr

/-
  Lines, plain: how the tokens of an expression that may be begin.
-/
namespace Pr
open Tr Tk

theorem zeros {k o : Int} {m : List UInt8} {n : Rt.Nm} {t : List Int} (h : held k o m n t = true) (hk : k = 4 ∨ k = 5 ∨ k = 8 ∨ k = 9 ∨ k = 10 ∨ k = 11 ∨ k = 12 ∨ k = 19 ∨ k = 20 ∨ k = 24 ∨ k = 25 ∨ k = 26 ∨ k = 28) : o = 0 ∧ m = [] ∧ n = Rt.none_ ∧ t = [] := by
  rcases hk with h' | h' | h' | h' | h' | h' | h' | h' | h' | h' | h' | h' | h' <;> subst h' <;> simp [held] at h <;> exact ⟨h.2, h.1.2, zero_eq h.1.1.1, h.1.1.2⟩
theorem held17 {o : Int} {m : List UInt8} {n : Rt.Nm} {t : List Int} (h : held 17 o m n t = true) : Tr.glyph o = true := by simp [held] at h; exact h.2
theorem held22 {o : Int} {m : List UInt8} {n : Rt.Nm} {t : List Int} (h : held 22 o m n t = true) : monops.contains o = true := by unfold held at h; simp only [Bool.and_eq_true] at h; simpa using h.2
theorem held23 {o : Int} {m : List UInt8} {n : Rt.Nm} {t : List Int} (h : held 23 o m n t = true) : dyops.contains o = true := by unfold held at h; simp only [Bool.and_eq_true] at h; simpa using h.2
theorem glyph_opf {o : Int} (h : Tr.glyph o = true) (h2 : heads.contains o = false) : Opf [g o] := by
  have key : ∀ d ∈ ([0xA8, 0x2368, 0x2E, 0x2218, 0x2364, 0x2363] : List Int), Tr.glyph d = false := by decide
  refine ⟨?_, ?_⟩
  · cases hc : monops.contains o with
    | false => exact hc
    | true =>
      rw [List.contains_iff_mem] at hc
      have h3 : o ∈ heads ∨ o ∈ ([0xA8, 0x2368, 0x2E, 0x2218, 0x2364, 0x2363] : List Int) := by
        unfold monops at hc; unfold heads
        simp only [List.mem_cons, List.not_mem_nil, or_false] at hc ⊢
        rcases hc with h | h | h | h | h | h <;> simp [h]
      rcases h3 with h3 | h3
      · rw [List.contains_iff_mem.2 h3] at h2; cases h2
      · rw [key o h3] at h; cases h
  · cases hc : dyops.contains o with
    | false => exact hc
    | true =>
      rw [List.contains_iff_mem] at hc
      have h3 : o ∈ ([0xA8, 0x2368, 0x2E, 0x2218, 0x2364, 0x2363] : List Int) := by
        unfold dyops at hc
        simp only [List.mem_cons, List.not_mem_nil, or_false] at hc ⊢
        rcases hc with h | h | h | h <;> simp [h]
      rw [key o h3] at h; cases h
theorem glyph_beg {o : Int} (h : Tr.glyph o = true) : begA [g o] = false ∧ begF [g o] = true := by
  have h1 : o ≠ 9082 := glyph_not h (by decide)
  have h2 : o ≠ 9077 := glyph_not h (by decide)
  have h3 : o ≠ 40 := glyph_not h (by decide)
  constructor
  · simp [begA, kd, gl, g, h1, h2, h3]
  · simp [begF, begP, kd, gl, g, h]
structure Starts (t : Tree) : Prop where
  f : Tr.func (kind t) = true → StartF (tk t) (Tr.kd t).first
  a : array (kind t) = true → StartA (tk t) (kind t) (Tr.kd t).wrap
theorem mon_arrow {o : Int} (h : monops.contains o = true) : o ≠ 8592 ∧ o ≠ 91 := by
  constructor <;> rintro rfl <;> exact absurd h (by decide)
theorem dy_arrow {o : Int} (h : dyops.contains o = true) : o ≠ 8592 ∧ o ≠ 91 ∧ monops.contains o = false := by
  refine ⟨?_, ?_, ?_⟩
  · rintro rfl; exact absurd h (by decide)
  · rintro rfl; exact absurd h (by decide)
  · rw [List.contains_iff_mem] at h
    unfold dyops at h
    simp only [List.mem_cons, List.not_mem_nil, or_false] at h
    rcases h with h | h | h | h <;> subst h <;> decide
theorem StartF.app {s r : List Tok} {b : Bool} (h : StartF s b) (hr : ∀ rest, gl rest 0 ≠ 8592 → gl (r ++ rest) 0 ≠ 8592) : StartF (s ++ r) b := by
  obtain ⟨x, y, rfl, h1, h2, h3, h4⟩ := h
  refine ⟨x, y ++ r, rfl, h1, h2, h3, fun rest hrest => ?_⟩
  rw [List.append_assoc]
  exact h4 _ (hr rest hrest)
theorem starts : ∀ n (t : Tree), SizeOf.sizeOf t < n → all t = true → Starts t
  | 0, t, h, _ => by omega
  | n + 1, .mk k o m nm tx l, hn, hall => by
    obtain ⟨hh, hm, hl⟩ := all_held hall
    have ih : ∀ a ∈ l, Starts a := fun a ha => starts n a (by have := List.sizeOf_lt_of_mem ha; simp only [Tree.mk.sizeOf_spec] at hn; omega) (alls_mem hl a ha)
    constructor
    · intro hf
      show StartF (tk (.mk k o m nm tx l)) (Tr.kd (.mk k o m nm tx l)).first
      rw [tk_mk, Tr.kd]
      rcases func_kinds (k := k) hf with h | h | h | h | h | h | h | h <;> subst h
      · have hg := held17 hh
        exact ⟨g o, [], rfl, (glyph_beg hg).1, (glyph_beg hg).2, fun e => glyph_opf hg (by simpa [asm] using e), notdef_of (by show (7 : Int) ≠ 3; decide)⟩
      · exact ⟨_, [], rfl, rfl, rfl, fun _ => ⟨rfl, rfl⟩, fun rest hr h => hr h.2⟩
      · exact ⟨g 8711, [], rfl, by decide, by decide, fun _ => ⟨rfl, rfl⟩, notdef_of (by decide)⟩
      · exact ⟨g 123, _, rfl, by decide, by decide, fun _ => ⟨rfl, rfl⟩, notdef_of (by decide)⟩
      · exact ⟨_, [], rfl, rfl, rfl, fun _ => ⟨rfl, rfl⟩, notdef_of (by show (6 : Int) ≠ 3; decide)⟩
      · obtain ⟨a, rfl, ha⟩ := parts1 (l := l) (p := Tr.func) (by simpa [made] using hm)
        have ho := mon_arrow (held22 hh)
        have h1 := ((ih a (by simp)).f ha).app (r := [g o]) (fun rest _ => by rw [List.cons_append, gl_g]; exact ho.1)
        exact h1
      · obtain ⟨a, b, rfl, ha, hb⟩ := parts2 (l := l) (p := Tr.func) (q := fun x => (Tr.plain x && !(o == 0x2364)) || (array x && ((o == 0x2364) || (o == 0x2363)))) (by simpa [made] using hm)
        have ho := dy_arrow (held23 hh)
        have h1 := ((ih a (by simp)).f ha).app (r := g o :: (if array (kind b) then titem (kt b) else tk b)) (fun rest _ => by rw [List.cons_append, gl_g]; exact ho.1)
        exact h1
      · exact ⟨g 8728, _, rfl, by decide, by decide, fun h => by simp [asm] at h, notdef_of (by decide)⟩
    · intro hf
      show StartA (tk (.mk k o m nm tx l)) k (Tr.kd (.mk k o m nm tx l)).wrap
      rw [tk_mk]
      rcases array_kinds (k := k) hf with h | h | h | h | h | h | h | h | h | h | h | h | h | h | h <;> subst h
      · exact startA_of (x := ⟨0, nm, [], [], 0, 0⟩) (r := []) rfl (by decide)
      · exact startA_of (x := ⟨1, Rt.none_, tx, [], 0, 0⟩) (r := []) rfl (by decide)
      · exact startA_of (x := ⟨2, Rt.none_, [], m, 0, 0⟩) (r := []) rfl (by decide)
      · exact startA_of (x := g 9082) (r := []) (by decide) (by decide)
      · exact startA_of (x := g 9077) (r := []) (by decide) (by decide)
      · exact startA_of (x := ⟨4, Rt.none_, [], [], o, 0⟩) (r := []) rfl (by decide)
      · exact startA_of (x := ⟨5, Rt.none_, [], [], o, 0⟩) (r := []) rfl (by decide)
      · obtain ⟨a, b, r, rfl, ha⟩ := all2 (l := l) (p := array) (by simpa [made] using hm)
        obtain ⟨x, y, e, hx⟩ := ((ih a (by simp)).a (ha a (by simp))).item (ha a (by simp))
        show StartA (tjoin [] (titem (kt a) :: titem (kt b) :: (r.map kt).map titem)) 8 _
        rw [e]
        exact startA_of (r := y ++ _) hx (by decide)
      · obtain ⟨a, b, r, rfl, ha, hb⟩ := more2 (l := l) (p := array) (q := place) (by simpa [made] using hm)
        obtain ⟨x, y, e, hx⟩ := ((ih a (by simp)).a ha).item ha
        show StartA (titem (kt a) ++ _) 9 _
        rw [e]
        exact startA_of (r := y ++ _) hx (by decide)
      · obtain ⟨a, b, rfl, ha, hb⟩ := parts2 (l := l) (p := Tr.func) (q := array) (by simpa [made] using hm)
        have hb' := ((ih b (by simp)).a hb)
        obtain ⟨x, y, e, h1, h2, h3, h4⟩ := ((ih a (by simp)).f ha).app (r := tbehind (kt b)) (fun rest _ => (hb'.behind rest).2 _ (by decide))
        refine ⟨x, y, e, fun h => absurd rfl h, fun _ => ⟨h1, h2, fun hw => h3 ?_⟩, h4⟩
        simpa [Tr.kd, asm, kds, Tr.nth] using hw
      · obtain ⟨a, b, c, rfl, ha, hb, hc⟩ := parts3 (l := l) (p := array) (q := Tr.func) (s := array) (by simpa [made] using hm)
        have ha' := (ih a (by simp)).a ha
        show StartA ((if kind a = 8 then tk a else titem (kt a)) ++ _) 12 _
        by_cases h8 : kind a = 8
        · rw [if_pos h8]
          obtain ⟨x, y, e, h1, _⟩ := ha'
          rw [e]
          exact startA_of (r := y ++ _) (h1 (by rw [h8]; decide)) (by decide)
        · rw [if_neg h8]
          obtain ⟨x, y, e, hx⟩ := ha'.item ha
          rw [e]
          exact startA_of (r := y ++ _) hx (by decide)
      · exact startA_of (x := ⟨2, Rt.none_, [], m, 0, 0⟩) rfl (by decide)
      · exact startA_of (x := ⟨2, Rt.none_, [], m, 0, 0⟩) rfl (by decide)
      · exact startA_of (x := ⟨2, Rt.none_, [], m, 0, 0⟩) rfl (by decide)
      · exact startA_of (x := ⟨4, Rt.none_, [], [], o, 0⟩) rfl (by decide)
end Pr

/-
  Lines, plain: the pieces that an expression is told in: tokens, and blanks; their text is the expression's.
-/
namespace Lx
open Tr Tk Go

abbrev p (c : Int) : Option Tok := some (Pr.g c)
structure Kp where
  kind : Int
  wrap : Bool
  pcs : List (Option Tok)
def nthP (l : List Kp) (i : Nat) : Kp := l.getD i ⟨0, false, []⟩
def pin (s : List (Option Tok)) : List (Option Tok) := p 40 :: (s ++ [p 41])
def pitem (a : Kp) : List (Option Tok) := if item a.kind then a.pcs else pin a.pcs
def pbehind (a : Kp) : List (Option Tok) := if a.wrap then pin a.pcs else a.pcs
def pjoin (b : List (Option Tok)) : List (List (Option Tok)) → List (Option Tok)
  | [] => []
  | [s] => s
  | s :: y :: r => s ++ (b ++ pjoin b (y :: r))
def pplaces (l : List Kp) : List (Option Tok) := p 91 :: (pjoin [p 59] (l.map Kp.pcs) ++ [p 93])
def leafP (k o : Int) (m : List UInt8) (n : Rt.Nm) (t : List Int) : List (Option Tok) := (Pr.leafK k o m n t).map some
def asmP (k o : Int) (m : List UInt8) (n : Rt.Nm) (t : List Int) (l : List Kp) : List (Option Tok) :=
  if k = 8 then pjoin [none] (l.map pitem)
  else if k = 9 then pitem (nthP l 0) ++ pplaces (l.drop 1)
  else if k = 11 then (nthP l 0).pcs ++ none :: pbehind (nthP l 1)
  else if k = 12 then (if (nthP l 0).kind = 8 then (nthP l 0).pcs else pitem (nthP l 0)) ++ none :: ((nthP l 1).pcs ++ none :: pbehind (nthP l 2))
  else if k = 13 then some ⟨2, Rt.none_, [], m, 0, 0⟩ :: p 8592 :: (nthP l 0).pcs
  else if k = 27 then some ⟨3, Rt.none_, [], m, 0, 0⟩ :: p 8592 :: (nthP l 0).pcs
  else if k = 14 then some ⟨2, Rt.none_, [], m, 0, 0⟩ :: (pplaces (l.drop 1) ++ p 8592 :: (nthP l 0).pcs)
  else if k = 15 then some ⟨2, Rt.none_, [], m, 0, 0⟩ :: none :: ((nthP l 0).pcs ++ p 8592 :: (nthP l 1).pcs)
  else if k = 16 then some ⟨4, Rt.none_, [], [], o, 0⟩ :: p 8592 :: (nthP l 0).pcs
  else if k = 20 then p 123 :: (pjoin [p 8900] (l.map Kp.pcs) ++ [p 125])
  else if k = 22 then (nthP l 0).pcs ++ [p o]
  else if k = 23 then (nthP l 0).pcs ++ p o :: (if array (nthP l 1).kind then pitem (nthP l 1) else (nthP l 1).pcs)
  else if k = 24 then p 8728 :: p 46 :: (nthP l 0).pcs
  else if k = 25 then pjoin [p 58] (l.map Kp.pcs)
  else if k = 26 then pjoin [p 58, p 58] (l.map Kp.pcs)
  else if k = 28 then pjoin [p 8900] (l.map Kp.pcs)
  else leafP k o m n t
mutual
def pc : Tree → List (Option Tok)
  | .mk k o m n t l => asmP k o m n t (pcs l)
def pcs : List Tree → List Kp
  | [] => []
  | a :: r => ⟨kind a, (Tr.kd a).wrap, pc a⟩ :: pcs r
end

theorem glyph_gly {o : Int} (h : Tr.glyph o = true) : gly o = true := by
  unfold Tr.glyph at h
  simp only [Bool.or_eq_true, beq_iff_eq] at h
  rcases h with h | h
  · have h1 : o ≠ 39 := by rintro rfl; exact absurd h (by decide)
    have h2 : o ≠ 9109 := by rintro rfl; exact absurd h (by decide)
    have h3 : o ≠ 9054 := by rintro rfl; exact absurd h (by decide)
    have h4 : o ≠ 9053 := by rintro rfl; exact absurd h (by decide)
    unfold gly
    rw [h]
    simp [h1, h2, h3, h4]
  · rw [List.contains_iff_mem] at h
    exact (show ∀ x ∈ heads, gly x = true by decide) o h
/-- No number in it is told in more than 400 bytes. -/
def NumOk : Tree → Prop
  | .mk k _ _ n _ l => (k = 1 → (Dg.print n).length ≤ 400) ∧ ∀ a ∈ l.attach, NumOk a.1
termination_by t => SizeOf.sizeOf t
decreasing_by have := List.sizeOf_lt_of_mem a.2; simp only [Tree.mk.sizeOf_spec]; omega
theorem NumOk.kids {k o : Int} {m : List UInt8} {n : Rt.Nm} {t : List Int} {l : List Tree} (h : NumOk (.mk k o m n t l)) : (k = 1 → (Dg.print n).length ≤ 400) ∧ ∀ a ∈ l, NumOk a := by
  rw [NumOk] at h
  exact ⟨h.1, fun a ha => h.2 ⟨a, ha⟩ (List.mem_attach _ _)⟩
end Lx

/-
  Lines, plain: the text of an expression's pieces is its text; a line's text is cut into its tokens.
-/
namespace Lx
open Tr Tk Go
set_option maxHeartbeats 2000000

/-- The bytes of pieces. -/
def eb (s : List (Option Tok)) : List UInt8 := enc (pcC s)
theorem eb_app (a b : List (Option Tok)) : eb (a ++ b) = eb a ++ eb b := by unfold eb; rw [pcC_app, enc_app]
theorem enc_one (c : Int) : enc [c] = enc1 c := by unfold enc; simp
theorem eb_p (c : Int) (r : List (Option Tok)) : eb (p c :: r) = enc1 c ++ eb r := by
  show enc ([c] ++ pcC r) = _
  rw [enc_app, enc_one]; rfl
/-- A part told in pieces, and as a text. -/
structure Alike (a : Kp) (d : Kd) : Prop where
  kind : a.kind = d.kind
  wrap : a.wrap = d.wrap
  text : eb a.pcs = d.text
theorem Alike.inn {s : List (Option Tok)} {t : List UInt8} (h : eb s = t) : eb (pin s) = inner t := by
  unfold pin
  rw [eb_p, eb_app, eb_p, h]; rfl
theorem Alike.item {a : Kp} {d : Kd} (h : Alike a d) : eb (pitem a) = itemT d := by
  unfold pitem itemT
  rw [h.kind]
  cases Tr.item d.kind
  · exact Alike.inn h.text
  · exact h.text
theorem Alike.behind {a : Kp} {d : Kd} (h : Alike a d) : eb (pbehind a) = Tr.behind d := by
  unfold pbehind Tr.behind
  rw [h.wrap]
  cases d.wrap
  · exact h.text
  · exact Alike.inn h.text
end Lx

/-
  Lines, plain: the tokens of a line that may be lead back to it.
-/
namespace Pr
open Tr Tk

/-- What stands behind an expression that ends there. -/
def Stop (T : List Tok) : Prop := begA T = false ∧ begF T = false ∧ gl T 0 ≠ 91 ∧ gl T 0 ≠ 8592
structure Good (t : Tree) : Prop where
  ex : array (kind t) = true → ∀ rest, Stop rest → Ev (fun f => expr f (tk t ++ rest)) t rest
  it : array (kind t) = true → ∀ rest r V, Ev (fun f => more f t rest) r V → Ev (fun f => arr f (titem (kt t) ++ rest)) r V
  fu : Tr.func (kind t) = true → ∀ rest r V, gl rest 0 ≠ 91 → Ev (fun f => ops f t rest) r V → Ev (fun f => func f (tk t ++ rest)) r V
  pl : Tr.plain (kind t) = true → ∀ rest, Ev (fun f => plain f (tk t ++ rest)) t rest
theorem tjoin_nil : ∀ (s : List Tok) (r : List (List Tok)), tjoin [] (s :: r) = s ++ tjoin [] r
  | s, [] => by simp [tjoin]
  | s, y :: r => by simp [tjoin]
theorem sta {a : Tree} (h : all a = true) : Starts a := starts _ a (Nat.lt_succ_self _) h
/-- Items, one behind the other. -/
theorem items : ∀ (l : List Tree), (∀ a ∈ l, all a = true ∧ array (kind a) = true ∧ Good a) → ∀ rest, begA rest = false → gl rest 0 ≠ 91 →
    Ev (fun f => arrs f (tjoin [] ((l.map kt).map titem) ++ rest)) l rest ∧ gl (tjoin [] ((l.map kt).map titem) ++ rest) 0 ≠ 91
  | [], _, rest, h1, h2 => ⟨ev_arrs_nil h1, h2⟩
  | a :: l, ha, rest, h1, h2 => by
    obtain ⟨ha1, ha2, ha3⟩ := ha a (by simp)
    obtain ⟨h3, h4⟩ := items l (fun b hb => ha b (by simp [hb])) rest h1 h2
    rw [List.map_cons, List.map_cons, tjoin_nil, List.append_assoc]
    obtain ⟨x, y, e, hx⟩ := ((sta ha1).a ha2).item ha2
    refine ⟨ev_arrs_cons (by rw [e]; exact hx) (ha3.it ha2 _ _ _ (ev_more_ret h4)) h3, ?_⟩
    rw [e]
    exact begA_close (T := x :: _) hx (by decide)
end Pr

/-
  Lines, plain: every expression that may be is made again of its tokens.
-/
namespace Pr
open Tr Tk

end Pr
