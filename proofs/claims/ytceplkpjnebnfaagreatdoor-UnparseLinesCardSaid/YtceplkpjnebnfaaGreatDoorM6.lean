/-
  Texts of this proof, joined (by wip/bin/bundle.py): TreeMath3, Tree1, RegStore, OwnQ, ArrRight, Cfg1, Same2, LabMath, LabRef, ArrTot, ArrFew, Rat3.
-/
import Derived.Test.YtceplkpjnebnfaaGreatDoorM5
import Derived.Deep.MidRow
import Derived.Laws.AppendOwn
import Derived.Maps.AppendAt
import Derived.Below
import Derived.IntWalk
import Derived.Shelf.Abstract
import Derived.WalkKit
import Derived.WalkSpells
import Derived.WalkLawsBesides
import Derived.Lib.Hide
import Derived.Laws.BitsAllLaws
import Derived.LoopTactic
import Derived.Outline
import Derived.Deep.QuietTactic
import Derived.BigQuiet
/-
  Expressions, plain: their texts.
-/
namespace Tr
open Go

/-- What a text of an expression asks of a part. -/
structure Kd where
  kind : Int
  /-- begins as an operator does -/
  first : Bool
  /-- is in brackets behind a function -/
  wrap : Bool
  text : List UInt8
def none_ : Kd := ⟨0, false, false, []⟩
def nth (l : List Kd) (i : Nat) : Kd := l.getD i none_
def inner (s : List UInt8) : List UInt8 := 40 :: (s ++ [41])
def itemT (a : Kd) : List UInt8 := if item a.kind then a.text else inner a.text
def behind (a : Kd) : List UInt8 := if a.wrap then inner a.text else a.text
/-- In a row, with something between. -/
def join (b : List UInt8) : List (List UInt8) → List UInt8
  | [] => []
  | s :: r => r.foldl (fun x y => x ++ b ++ y) s
theorem join_snoc (b : List UInt8) (l : List (List UInt8)) (x : List UInt8) (h : l ≠ []) : join b (l ++ [x]) = join b l ++ b ++ x := by
  cases l with
  | nil => exact absurd rfl h
  | cons s r => simp [join]
theorem join_len (b : List UInt8) (l : List (List UInt8)) : (join b l).length ≤ (l.map fun x => x.length + b.length).sum := by
  cases l with
  | nil => simp [join]
  | cons s r =>
    have key : ∀ (r : List (List UInt8)) (s : List UInt8), (r.foldl (fun x y => x ++ b ++ y) s).length = s.length + (r.map fun x => x.length + b.length).sum := by
      intro r
      induction r with
      | nil => intro s; simp
      | cons y r ih => intro s; rw [List.foldl_cons, ih]; simp; omega
    rw [join, key]; simp
def arrow : List UInt8 := [226, 134, 144]
def quad : List UInt8 := [226, 142, 149]
def quote_ : List UInt8 := [226, 141, 158]
def dia : List UInt8 := [226, 139, 132]
def alpha : List UInt8 := [226, 141, 186]
def omega_ : List UInt8 := [226, 141, 181]
def del : List UInt8 := [226, 136, 135]
def jot : List UInt8 := [226, 136, 152]
theorem enc_arrow : Tk.enc1 0x2190 = arrow := by decide
theorem enc_small {o : Int} (h : port o = true) : Tk.enc1 (48 + o) = [UInt8.ofNat (48 + o).toNat] := by
  unfold port at h
  simp only [Bool.and_eq_true, decide_eq_true_eq] at h
  unfold Tk.enc1 Gl.one
  rw [if_pos (by omega)]; rfl
def quoted (t : List Int) : List UInt8 := 39 :: ((t.flatMap fun c => if c = 39 then 39 :: Tk.enc1 c else Tk.enc1 c) ++ [39])
def places (l : List Kd) : List UInt8 := 91 :: (join [59] (l.map Kd.text) ++ [93])
def digitT (o : Int) : List UInt8 := [UInt8.ofNat (48 + o).toNat]
def leafT (k o : Int) (m : List UInt8) (n : Rt.Nm) (t : List Int) : List UInt8 :=
  if k = 1 then Dg.print n else if k = 2 then quoted t else if k = 4 then alpha else if k = 5 then omega_ else if k = 6 then quad ++ digitT o else if k = 7 then quote_ ++ digitT o
  else if k = 17 then Tk.enc1 o else if k = 19 then del else if k = 21 then quad ++ (if o = 1 then [85, 80] else [68, 67]) else m
def asmT (k o : Int) (m : List UInt8) (n : Rt.Nm) (t : List Int) (l : List Kd) : List UInt8 :=
  if k = 8 then join [32] (l.map itemT)
  else if k = 9 then itemT (nth l 0) ++ places (l.drop 1)
  else if k = 11 then (nth l 0).text ++ [32] ++ behind (nth l 1)
  else if k = 12 then (if (nth l 0).kind = 8 then (nth l 0).text else itemT (nth l 0)) ++ [32] ++ (nth l 1).text ++ [32] ++ behind (nth l 2)
  else if k = 13 ∨ k = 27 then m ++ arrow ++ (nth l 0).text
  else if k = 14 then m ++ places (l.drop 1) ++ arrow ++ (nth l 0).text
  else if k = 15 then m ++ [32] ++ (nth l 0).text ++ arrow ++ (nth l 1).text
  else if k = 16 then quad ++ digitT o ++ arrow ++ (nth l 0).text
  else if k = 20 then 123 :: (join dia (l.map Kd.text) ++ [125])
  else if k = 22 then (nth l 0).text ++ Tk.enc1 o
  else if k = 23 then (nth l 0).text ++ Tk.enc1 o ++ (if array (nth l 1).kind then itemT (nth l 1) else (nth l 1).text)
  else if k = 24 then jot ++ [46] ++ (nth l 0).text
  else if k = 25 then join [58] (l.map Kd.text)
  else if k = 26 then join [58, 58] (l.map Kd.text)
  else if k = 28 then join dia (l.map Kd.text)
  else leafT k o m n t
def asm (k o : Int) (m : List UInt8) (n : Rt.Nm) (t : List Int) (l : List Kd) : Kd :=
  ⟨k, if k = 22 ∨ k = 23 then (nth l 0).first else (k == 24) || ((k == 17) && heads.contains o), (k == 11) && (nth l 0).first, asmT k o m n t l⟩
mutual
def kd : Tree → Kd
  | .mk k o m n t l => asm k o m n t (kds l)
def kds : List Tree → List Kd
  | [] => []
  | t :: r => kd t :: kds r
end
theorem kds_map : ∀ l : List Tree, kds l = l.map kd
  | [] => rfl
  | t :: r => by rw [kds, kds_map r]; rfl
theorem kd_kind (t : Tree) : (kd t).kind = kind t := by cases t; rfl
theorem nth_kds {l : List Tree} {i : Nat} (h : i < l.length) : nth (kds l) i = kd l[i] := by
  unfold nth; rw [kds_map, List.getD_eq_getElem?_getD, List.getElem?_map, List.getElem?_eq_getElem h]; rfl
/-- The text of an expression. -/
def shw (t : Tree) : List UInt8 := (kd t).text
def line (t : Tree) : List UInt8 := if right t then shw t else []

theorem alls_at : ∀ {l : List Tree}, alls l = true → ∀ {i : Nat} (h : i < l.length), all l[i] = true
  | [], _, _, h => by simp at h
  | t :: r, ha, 0, _ => by unfold alls at ha; simp only [Bool.and_eq_true] at ha; exact ha.1
  | t :: r, ha, i + 1, h => by unfold alls at ha; simp only [Bool.and_eq_true] at ha; exact alls_at ha.2 (by simpa using h)
theorem count_at : ∀ {l : List Tree} {i : Nat} (h : i < l.length), count l[i] ≤ counts l
  | [], _, h => by simp at h
  | t :: r, 0, _ => by unfold counts; simp
  | t :: r, i + 1, h => by unfold counts; have := count_at (l := r) (i := i) (by simpa using h); simp; omega

def Size : Nat := 30000
theorem flat_len (t : List Int) : (t.flatMap fun c => if c = 39 then 39 :: Tk.enc1 c else Tk.enc1 c).length ≤ 5 * t.length := by
  induction t with
  | nil => simp
  | cons c r ih =>
    have h1 : (if c = 39 then 39 :: Tk.enc1 c else Tk.enc1 c).length ≤ 5 := by
      have : (Tk.enc1 c).length ≤ 4 := by unfold Tk.enc1; rw [List.length_map, Gl.one_len]; unfold Gl.wide; split <;> (try omega); split <;> (try omega); split <;> omega
      split
      · simp; omega
      · omega
    rw [List.flatMap_cons, List.length_append, List.length_cons]; omega
theorem inner_len (s : List UInt8) : (inner s).length = s.length + 2 := by simp [inner]
theorem itemT_len (a : Kd) : (itemT a).length ≤ a.text.length + 2 := by unfold itemT; split <;> simp [inner]
theorem behind_len (a : Kd) : (behind a).length ≤ a.text.length + 2 := by unfold behind; split <;> simp [inner]
def sum8 (l : List Kd) : Nat := (l.map fun x => x.text.length + 8).sum
theorem sum8_3 (l : List Kd) : (nth l 0).text.length + (nth l 1).text.length + (nth l 2).text.length ≤ sum8 l := by
  match l with
  | [] => simp [nth, none_, sum8]
  | [a] => simp [nth, none_, sum8] <;> omega
  | [a, b] => simp [nth, none_, sum8] <;> omega
  | a :: b :: c :: r => simp [nth, sum8] <;> omega
theorem sum8_drop (l : List Kd) : (nth l 0).text.length + sum8 (l.drop 1) ≤ sum8 l := by
  match l with
  | [] => simp [nth, none_, sum8]
  | a :: r => simp [nth, sum8]
theorem join_texts (b : List UInt8) (l : List Kd) (h : b.length ≤ 8) : (join b (l.map Kd.text)).length ≤ sum8 l := by
  refine Nat.le_trans (join_len _ _) ?_
  rw [List.map_map]; unfold sum8
  induction l with
  | nil => simp
  | cons a r ih => simp only [List.map_cons, List.sum_cons, Function.comp] at ih ⊢; omega
theorem join_items (b : List UInt8) (l : List Kd) (h : b.length ≤ 6) : (join b (l.map itemT)).length ≤ sum8 l := by
  refine Nat.le_trans (join_len _ _) ?_
  rw [List.map_map]; unfold sum8
  induction l with
  | nil => simp
  | cons a r ih =>
    have := itemT_len a
    simp only [List.map_cons, List.sum_cons, Function.comp] at ih ⊢; omega
theorem places_len (l : List Kd) : (places l).length ≤ sum8 l + 2 := by
  have := join_texts [59] l (by simp)
  unfold places; simp; omega
theorem enc1_len (x : Int) : (Tk.enc1 x).length ≤ 4 := by unfold Tk.enc1; rw [List.length_map, Gl.one_len]; unfold Gl.wide; split <;> (try omega); split <;> (try omega); split <;> omega
theorem asm_len (k o : Int) (m : List UInt8) (n : Rt.Nm) (t : List Int) (l : List Kd) (hm : m.length ≤ 16) (hl : (leafT k o m n t).length ≤ 29000) : (asmT k o m n t l).length + 8 ≤ Size + sum8 l := by
  have h3 := sum8_3 l
  have hd := sum8_drop l
  have i0 := itemT_len (nth l 0)
  have i1 := itemT_len (nth l 1)
  have b1 := behind_len (nth l 1)
  have b2 := behind_len (nth l 2)
  have p1 := places_len (l.drop 1)
  have j1 := join_items [32] l (by simp)
  have j2 := join_texts [58] l (by simp)
  have j3 := join_texts [58, 58] l (by simp)
  have j4 := join_texts dia l (by simp [dia])
  have he := enc1_len o
  have key : ∀ {c : Prop} [Decidable c] {a b : List UInt8} {N : Nat}, (c → a.length + 8 ≤ N) → (¬c → b.length + 8 ≤ N) → (if c then a else b).length + 8 ≤ N := by
    intro c _ a b N h1 h2
    by_cases h : c
    · rw [if_pos h]; exact h1 h
    · rw [if_neg h]; exact h2 h
  have key2 : ∀ {c : Prop} [Decidable c] {a b : List UInt8} {N : Nat}, a.length ≤ N → b.length ≤ N → (if c then a else b).length ≤ N := by
    intro c _ a b N h1 h2
    by_cases h : c
    · rw [if_pos h]; exact h1
    · rw [if_neg h]; exact h2
  have w1 := key2 (c := (nth l 0).kind = 8) (Nat.le_add_right (nth l 0).text.length 2) i0
  have w2 := key2 (c := array (nth l 1).kind = true) i1 (Nat.le_add_right (nth l 1).text.length 2)
  have q1 : arrow.length = 3 := rfl
  have q2 : quad.length = 3 := rfl
  have q3 : (digitT o).length = 1 := rfl
  have q4 : jot.length = 3 := rfl
  unfold asmT Size
  refine key (fun _ => ?_) (fun _ => key (fun _ => ?_) (fun _ => key (fun _ => ?_) (fun _ => key (fun _ => ?_) (fun _ => key (fun _ => ?_) (fun _ => key (fun _ => ?_) (fun _ => key (fun _ => ?_) (fun _ => key (fun _ => ?_) (fun _ => key (fun _ => ?_) (fun _ => key (fun _ => ?_) (fun _ => key (fun _ => ?_) (fun _ => key (fun _ => ?_) (fun _ => key (fun _ => ?_) (fun _ => key (fun _ => ?_) (fun _ => key (fun _ => ?_) (fun _ => ?_)))))))))))))))
  all_goals try simp only [List.length_append, List.length_cons, List.length_nil]
  all_goals omega
theorem named_len {m : List UInt8} {b : Bool} (h : named m b = true) : m.length ≤ 16 := by
  unfold named at h
  simp only [Bool.and_eq_true, decide_eq_true_eq] at h
  exact h.1.1.1.2
theorem held_name {k o : Int} {m : List UInt8} {n : Rt.Nm} {t : List Int} (h : held k o m n t = true) : m.length ≤ 16 := by
  unfold held at h
  simp only [Bool.and_eq_true] at h
  have h1 := h.1.2
  by_cases a : k = 3 ∨ k = 13 ∨ k = 14 ∨ k = 15
  · rw [if_pos a] at h1; exact named_len h1
  · rw [if_neg a] at h1
    by_cases b : k = 18 ∨ k = 27
    · rw [if_pos b] at h1; exact named_len h1
    · rw [if_neg b] at h1
      cases m with
      | nil => simp
      | cons _ _ => cases h1
theorem held_num {o : Int} {m : List UInt8} {n : Rt.Nm} {t : List Int} (h : held 1 o m n t = true) : Rt.right n = true := by
  unfold held at h
  simp only [Bool.and_eq_true] at h
  simpa using h.1.1.1
theorem held_text {o : Int} {m : List UInt8} {n : Rt.Nm} {t : List Int} (h : held 2 o m n t = true) : t.length ≤ 2048 ∧ ∀ c ∈ t, Gl.may c = true := by
  unfold held at h
  simp only [Bool.and_eq_true] at h
  simpa using h.1.1.2
theorem right_ok {n : Rt.Nm} (h : Rt.right n = true) : Nt.Ok n.top ∧ Nt.Ok n.bot := by
  obtain ⟨g, t, u⟩ := n
  unfold Rt.right at h
  simp only [Bool.and_eq_true, decide_eq_true_eq, beq_iff_eq] at h
  obtain ⟨⟨_, h3⟩, h4⟩ := h
  unfold Rt.mk at h3 h4
  dsimp only at h3 h4 ⊢
  by_cases hy : Nt.val u = 0
  · rw [if_pos hy] at h3; cases h3
  · rw [if_neg hy] at h3 h4
    by_cases hl : 32 < (Nt.digs (Nt.val t / Nat.gcd (Nt.val t) (Nt.val u))).length ∨ 32 < (Nt.digs (Nt.val u / Nat.gcd (Nt.val t) (Nt.val u))).length
    · rw [if_pos hl] at h3; cases h3
    · rw [if_neg hl] at h4
      injection h4 with e1 e2 e3
      exact ⟨by rw [← e2]; exact Nt.ok_digs _, by rw [← e3]; exact Nt.ok_digs _⟩
def Dec : Prop := ∀ l : List Nat, Nt.Ok l → l.length ≤ 32 → (Lib.decDigits (Nt.val l)).length ≤ 10000
theorem print_len (hd : Dec) {n : Rt.Nm} (h : Rt.right n = true) : (Dg.print n).length ≤ 20003 := by
  have ho := right_ok h
  have hr := (Rt.right_iff ho.1 ho.2).1 h
  have h1 := hd _ ho.1 hr.1
  have h2 := hd _ ho.2 hr.2.1
  unfold Dg.print
  by_cases a : n.neg = true
  · by_cases b : n.bot = [1]
    · rw [if_pos a, if_pos b]; simp; omega
    · rw [if_pos a, if_neg b]; simp; omega
  · by_cases b : n.bot = [1]
    · rw [if_neg a, if_pos b]; simp; omega
    · rw [if_neg a, if_neg b]; simp; omega
theorem leaf_len (hd : Dec) {k o : Int} {m : List UInt8} {n : Rt.Nm} {t : List Int} (h : held k o m n t = true) : (leafT k o m n t).length ≤ 29000 := by
  have hm := held_name h
  have he := enc1_len o
  have q1 : alpha.length = 3 := rfl
  have q2 : quad.length = 3 := rfl
  have q3 : (digitT o).length = 1 := rfl
  have q4 : quote_.length = 3 := rfl
  have q5 : omega_.length = 3 := rfl
  have q6 : del.length = 3 := rfl
  have key : ∀ {c : Prop} [Decidable c] {a b : List UInt8} {N : Nat}, (c → a.length ≤ N) → (¬c → b.length ≤ N) → (if c then a else b).length ≤ N := by
    intro c _ a b N h1 h2
    by_cases h : c
    · rw [if_pos h]; exact h1 h
    · rw [if_neg h]; exact h2 h
  have q7 : (if o = 1 then [85, 80] else [68, 67] : List UInt8).length ≤ 2 := key (fun _ => by simp) (fun _ => by simp)
  unfold leafT
  refine key (fun e => ?_) (fun _ => key (fun e => ?_) (fun _ => key (fun _ => ?_) (fun _ => key (fun _ => ?_) (fun _ => key (fun _ => ?_) (fun _ => key (fun _ => ?_) (fun _ => key (fun _ => ?_) (fun _ => key (fun _ => ?_) (fun _ => key (fun _ => ?_) (fun _ => ?_)))))))))
  · subst e; have := print_len hd (held_num h); omega
  · subst e
    have := (held_text h).1
    have := flat_len t
    unfold quoted; simp only [List.length_cons, List.length_append, List.length_nil]; omega
  all_goals try simp only [List.length_append]
  all_goals omega
theorem all_held {k o : Int} {m : List UInt8} {n : Rt.Nm} {t : List Int} {l : List Tree} (h : all (.mk k o m n t l) = true) : held k o m n t = true ∧ made k o (l.map kind) = true ∧ alls l = true := by
  unfold all one at h
  simp only [Bool.and_eq_true] at h
  exact ⟨h.1.1, h.1.2, h.2⟩
mutual
theorem shw_len (hd : Dec) : ∀ t : Tree, all t = true → (shw t).length + 8 ≤ Size * count t
  | .mk k o m n t l, h => by
    obtain ⟨h1, h2, h3⟩ := all_held h
    have := asm_len k o m n t (kds l) (held_name h1) (leaf_len hd h1)
    have ih := shws_len hd l h3
    unfold shw kd asm count
    rw [Nat.mul_add, Nat.mul_one]
    dsimp only
    omega
theorem shws_len (hd : Dec) : ∀ l : List Tree, alls l = true → sum8 (kds l) ≤ Size * counts l
  | [], _ => by unfold kds counts; simp [sum8]
  | t :: r, h => by
    unfold alls at h
    simp only [Bool.and_eq_true] at h
    have h1 := shw_len hd t h.1
    have h2 := shws_len hd r h.2
    unfold shw at h1
    unfold sum8 at h2
    unfold kds counts sum8
    rw [Nat.mul_add, List.map_cons, List.sum_cons]
    omega
end
end Tr

/-
  Expressions in memory: what it is that cells hold one ('IsTree'), kept from world to world, read.
-/
namespace Go.Proofs.YtceplkpjnebnfaaGreatDoor
open Go.RowKit Tr
set_option linter.unusedVariables false

/-- What stands in the eight cells of an expression. -/
def treeCells (k o : Int) (m : List UInt8) (n : Rt.Nm) (t : List Int) (len : Nat) (A1 A2 A3 A4 : Option Addr) (c1 c2 c3 c4 : Nat) : List Value :=
  [.int .i64 k, .int .i64 o, .string ⟨m.toArray⟩, .bool n.neg, .slice A1 n.top.length c1, .slice A2 n.bot.length c2, .slice A3 t.length c3, .slice A4 len c4]
/-- .. of one's own. -/
structure Own (w : World) (B : Nat) (k o : Int) (m : List UInt8) (n : Rt.Nm) (t : List Int) (len : Nat) (A1 A2 A3 A4 : Option Addr) (c1 c2 c3 c4 : Nat) : Prop where
  wk : Wf64 [k, o]
  ms : m.length ≤ 140737488355328
  f1 : Fits n.top.length c1 4
  f2 : Fits n.bot.length c2 4
  f3 : Fits t.length c3 8
  f4 : Fits len c4 136
  o1 : Nt.Ok n.top
  o2 : Nt.Ok n.bot
  wt : Wf64 t
  l1 : Lies w B A1 (U n.top)
  l2 : Lies w B A2 (U n.bot)
  l3 : Lies w B A3 (I64 t)
  n1 : A1 = none → c1 = 0
  n2 : A2 = none → c2 = 0
theorem Own.keep {w w' : World} {B B' : Nat} {k o : Int} {m : List UInt8} {n : Rt.Nm} {t : List Int} {len : Nat} {A1 A2 A3 A4 : Option Addr} {c1 c2 c3 c4 : Nat} (hk : ∀ p : Addr, p.block < B → w'.cell? p = w.cell? p) (hB : B ≤ B') (h : Own w B k o m n t len A1 A2 A3 A4 c1 c2 c3 c4) : Own w' B' k o m n t len A1 A2 A3 A4 c1 c2 c3 c4 :=
  ⟨h.wk, h.ms, h.f1, h.f2, h.f3, h.f4, h.o1, h.o2, h.wt, (h.l1.keep hk).more hB, (h.l2.keep hk).more hB, (h.l3.keep hk).more hB, h.n1, h.n2⟩
mutual
/-- Eight cells hold an expression. -/
def IsTree (w : World) (B : Nat) : Tree → List Value → Prop
  | .mk k o m n t l, vs => ∃ A1 A2 A3 A4 c1 c2 c3 c4 us, vs = treeCells k o m n t l.length A1 A2 A3 A4 c1 c2 c3 c4 ∧ Own w B k o m n t l.length A1 A2 A3 A4 c1 c2 c3 c4 ∧ Lies w B A4 us ∧ IsTrees w B l us
def IsTrees (w : World) (B : Nat) : List Tree → List Value → Prop
  | [], vs => vs = []
  | c :: r, vs => ∃ u t, vs = u ++ t ∧ IsTree w B c u ∧ IsTrees w B r t
end
theorem IsTree.len {w : World} {B : Nat} {a : Tree} {vs : List Value} (h : IsTree w B a vs) : vs.length = 8 := by
  cases a; rw [IsTree] at h
  obtain ⟨A1, A2, A3, A4, c1, c2, c3, c4, us, rfl, _⟩ := h
  rfl
mutual
theorem IsTree.keep {w w' : World} {B B' : Nat} (hk : ∀ p : Addr, p.block < B → w'.cell? p = w.cell? p) (hB : B ≤ B') : ∀ (a : Tree) (vs : List Value), IsTree w B a vs → IsTree w' B' a vs
  | .mk k o m n t l, vs, h => by
    rw [IsTree] at h ⊢
    obtain ⟨A1, A2, A3, A4, c1, c2, c3, c4, us, h1, h2, h3, h4⟩ := h
    exact ⟨A1, A2, A3, A4, c1, c2, c3, c4, us, h1, h2.keep hk hB, (h3.keep hk).more hB, IsTrees.keep hk hB l us h4⟩
theorem IsTrees.keep {w w' : World} {B B' : Nat} (hk : ∀ p : Addr, p.block < B → w'.cell? p = w.cell? p) (hB : B ≤ B') : ∀ (a : List Tree) (vs : List Value), IsTrees w B a vs → IsTrees w' B' a vs
  | [], vs, h => by rw [IsTrees] at h ⊢; exact h
  | c :: r, vs, h => by
    rw [IsTrees] at h ⊢
    obtain ⟨u, t, h1, h2, h3⟩ := h
    exact ⟨u, t, h1, IsTree.keep hk hB c u h2, IsTrees.keep hk hB r t h3⟩
end
theorem IsTree.below {w w' : World} {B : Nat} {a : Tree} {vs : List Value} (h : IsTree w B a vs) (hb : Below B w w') : IsTree w' B a vs := IsTree.keep (fun _ hp => hb.cell hp) (Nat.le_refl _) a vs h
theorem IsTree.more {w : World} {B B' : Nat} {a : Tree} {vs : List Value} (h : IsTree w B a vs) (hB : B ≤ B') : IsTree w B' a vs := IsTree.keep (fun _ _ => rfl) hB a vs h
theorem IsTrees.below {w w' : World} {B : Nat} {a : List Tree} {vs : List Value} (h : IsTrees w B a vs) (hb : Below B w w') : IsTrees w' B a vs := IsTrees.keep (fun _ hp => hb.cell hp) (Nat.le_refl _) a vs h
theorem IsTrees.more {w : World} {B B' : Nat} {a : List Tree} {vs : List Value} (h : IsTrees w B a vs) (hB : B ≤ B') : IsTrees w B' a vs := IsTrees.keep (fun _ _ => rfl) hB a vs h
theorem IsTrees.at_ {w : World} {B : Nat} : ∀ {cs : List Tree} {vs : List Value} (h : IsTrees w B cs vs) {k : Nat} (hk : k < cs.length), ∃ u, IsTree w B cs[k] u ∧ u = (vs.drop (8 * k)).take 8
  | [], _, _, _, hk => by simp at hk
  | c :: r, vs, h, 0, _ => by
    rw [IsTrees] at h
    obtain ⟨u, t, rfl, h2, h3⟩ := h
    exact ⟨u, h2, by simp [h2.len]⟩
  | c :: r, vs, h, k + 1, hk => by
    rw [IsTrees] at h
    obtain ⟨u, t, rfl, h2, h3⟩ := h
    obtain ⟨u', h4, h5⟩ := h3.at_ (k := k) (by simpa using hk)
    refine ⟨u', h4, h5.trans ?_⟩
    rw [show 8 * (k + 1) = u.length + 8 * k by rw [h2.len]; omega, List.drop_append, List.drop_eq_nil_of_le (Nat.le_add_right _ _), Nat.add_sub_cancel_left, List.nil_append]
theorem IsTrees.len {w : World} {B : Nat} : ∀ {cs : List Tree} {vs : List Value} (h : IsTrees w B cs vs), vs.length = 8 * cs.length
  | [], _, h => by rw [IsTrees] at h; subst h; rfl
  | c :: r, vs, h => by
    rw [IsTrees] at h
    obtain ⟨u, t, rfl, h2, h3⟩ := h
    rw [List.length_append, h2.len, h3.len, List.length_cons]; omega
/-- An expression, by its parts. -/
theorem IsTree.form {w : World} {B : Nat} {a : Tree} {vs : List Value} (h : IsTree w B a vs) : ∃ A1 A2 A3 A4 c1 c2 c3 c4, vs = treeCells (kind a) (op a) (name a) (num a) (text a) (kids a).length A1 A2 A3 A4 c1 c2 c3 c4 := by
  cases a; rw [IsTree] at h
  obtain ⟨A1, A2, A3, A4, c1, c2, c3, c4, us, rfl, _⟩ := h
  exact ⟨A1, A2, A3, A4, c1, c2, c3, c4, rfl⟩
/-- The eight cells at a place. -/
structure At8 (w : World) (b off : Nat) (k o : Int) (m : List UInt8) (n : Rt.Nm) (t : List Int) (len : Nat) (A1 A2 A3 A4 : Option Addr) (c1 c2 c3 c4 : Nat) : Prop where
  p0 : w.cell? ⟨b, off, none⟩ = some (.int .i64 k)
  p1 : w.cell? ⟨b, off + 1, none⟩ = some (.int .i64 o)
  p2 : w.cell? ⟨b, off + 2, none⟩ = some (.string ⟨m.toArray⟩)
  p3 : w.cell? ⟨b, off + 3, none⟩ = some (.bool n.neg)
  p4 : w.cell? ⟨b, off + 4, none⟩ = some (.slice A1 n.top.length c1)
  p5 : w.cell? ⟨b, off + 5, none⟩ = some (.slice A2 n.bot.length c2)
  p6 : w.cell? ⟨b, off + 6, none⟩ = some (.slice A3 t.length c3)
  p7 : w.cell? ⟨b, off + 7, none⟩ = some (.slice A4 len c4)
theorem At8.keep {w w' : World} {b off : Nat} {k o : Int} {m : List UInt8} {n : Rt.Nm} {t : List Int} {len : Nat} {A1 A2 A3 A4 : Option Addr} {c1 c2 c3 c4 : Nat} (h : At8 w b off k o m n t len A1 A2 A3 A4 c1 c2 c3 c4) (hk : ∀ q, w'.cell? ⟨b, q, none⟩ = w.cell? ⟨b, q, none⟩) : At8 w' b off k o m n t len A1 A2 A3 A4 c1 c2 c3 c4 :=
  ⟨(hk _).trans h.p0, (hk _).trans h.p1, (hk _).trans h.p2, (hk _).trans h.p3, (hk _).trans h.p4, (hk _).trans h.p5, (hk _).trans h.p6, (hk _).trans h.p7⟩
/-- The k-th part of a row of expressions, read. -/
theorem tree_at {w wr : World} {B : Nat} {A : Option Addr} {l : List Tree} {us : List Value} {i : Nat} (hcs : IsTrees w B l us) (hl : Lies w B A us) (hk : ∀ p : Addr, p.block < B → wr.cell? p = w.cell? p) (hlt : i < l.length) :
    ∃ b off A1 A2 A3 A4 c1 c2 c3 c4, A = some ⟨b, off, none⟩ ∧ b < B ∧ Hid (IsTree w B l[i] (treeCells (kind l[i]) (op l[i]) (name l[i]) (num l[i]) (text l[i]) (kids l[i]).length A1 A2 A3 A4 c1 c2 c3 c4)) ∧
      At8 wr b (off + i * 8) (kind l[i]) (op l[i]) (name l[i]) (num l[i]) (text l[i]) (kids l[i]).length A1 A2 A3 A4 c1 c2 c3 c4 := by
  obtain ⟨u, hu, hue⟩ := hcs.at_ hlt
  obtain ⟨b, off, rfl, hb, hcell⟩ := hl.elem hue (by intro h; have := hu.len; rw [h] at this; cases this)
  obtain ⟨A1, A2, A3, A4, c1, c2, c3, c4, rfl⟩ := hu.form
  have hc : ∀ j v, (treeCells (kind l[i]) (op l[i]) (name l[i]) (num l[i]) (text l[i]) (kids l[i]).length A1 A2 A3 A4 c1 c2 c3 c4)[j]? = some v → wr.cell? ⟨b, off + i * 8 + j, none⟩ = some v := fun j v hv => (hk ⟨b, off + i * 8 + j, none⟩ hb).trans (hcell j v hv)
  exact ⟨b, off, A1, A2, A3, A4, c1, c2, c3, c4, rfl, hb, Lib.hid hu, hc 0 _ rfl, hc 1 _ rfl, hc 2 _ rfl, hc 3 _ rfl, hc 4 _ rfl, hc 5 _ rfl, hc 6 _ rfl, hc 7 _ rfl⟩
/-- An expression taken apart. -/
theorem IsTree.open_ {w : World} {B : Nat} {k o : Int} {m : List UInt8} {n : Rt.Nm} {t : List Int} {l : List Tree} {vs : List Value} (h : IsTree w B (.mk k o m n t l) vs) :
    ∃ A1 A2 A3 A4 c1 c2 c3 c4 us, vs = treeCells k o m n t l.length A1 A2 A3 A4 c1 c2 c3 c4 ∧ Hid (Own w B k o m n t l.length A1 A2 A3 A4 c1 c2 c3 c4) ∧ Hid (Lies w B A4 us) ∧ Hid (IsTrees w B l us) := by
  rw [IsTree] at h
  obtain ⟨A1, A2, A3, A4, c1, c2, c3, c4, us, h1, h2, h3, h4⟩ := h
  exact ⟨A1, A2, A3, A4, c1, c2, c3, c4, us, h1, Lib.hid h2, Lib.hid h3, Lib.hid h4⟩
theorem size_kid {k o : Int} {m : List UInt8} {n : Rt.Nm} {t : List Int} {l : List Tree} {i : Nat} (h : i < l.length) : SizeOf.sizeOf l[i] < SizeOf.sizeOf (Tree.mk k o m n t l) := by
  have := List.sizeOf_lt_of_mem (List.getElem_mem h)
  simp only [Tree.mk.sizeOf_spec]
  omega
theorem count_kid {k o : Int} {m : List UInt8} {n : Rt.Nm} {t : List Int} {l : List Tree} {i : Nat} (h : i < l.length) : count l[i] < count (Tree.mk k o m n t l) := by
  have := count_at h
  rw [count]; omega
/-- The box in which a function holds an expression. -/
theorem box8 {w W : World} {T : TypeId} {k o : Int} {m : List UInt8} {n : Rt.Nm} {t : List Int} {len : Nat} {A1 A2 A3 A4 : Option Addr} {c1 c2 c3 c4 : Nat} (h : W = w.alloc (.cells (treeCells k o m n t len A1 A2 A3 A4 c1 c2 c3 c4).toArray T)) :
    w.heap.size < W.heap.size ∧ Below w.heap.size w W ∧ At8 W w.heap.size 0 k o m n t len A1 A2 A3 A4 c1 c2 c3 c4 ∧ W.heap[w.heap.size]? = some (.cells (treeCells k o m n t len A1 A2 A3 A4 c1 c2 c3 c4).toArray T (0, 0)) := by
  subst h
  refine ⟨by simp, (Below.refl _ _).alloc (Nat.le_refl _) _, ?_, heap_alloc_new _ _⟩
  have hc : ∀ j v, (treeCells k o m n t len A1 A2 A3 A4 c1 c2 c3 c4)[j]? = some v → (w.alloc (.cells (treeCells k o m n t len A1 A2 A3 A4 c1 c2 c3 c4).toArray T)).cell? ⟨w.heap.size, 0 + j, none⟩ = some v := fun j v hv => by
    rw [Nat.zero_add]
    refine (cell_of_row _ w.heap.size j _ _ _ (heap_alloc_new w _)).trans ?_
    rw [List.getElem?_toArray]; exact hv
  exact ⟨hc 0 _ rfl, hc 1 _ rfl, hc 2 _ rfl, hc 3 _ rfl, hc 4 _ rfl, hc 5 _ rfl, hc 6 _ rfl, hc 7 _ rfl⟩
/-- An expression in its box, taken apart. -/
theorem tree_box {w W : World} {B : Nat} {T : TypeId} {k o : Int} {m : List UInt8} {n : Rt.Nm} {t : List Int} {l : List Tree} {vs : List Value} (h : IsTree w B (.mk k o m n t l) vs) (hW : W = w.alloc (.cells vs.toArray T)) :
    ∃ A1 A2 A3 A4 c1 c2 c3 c4 us, Hid (Own w B k o m n t l.length A1 A2 A3 A4 c1 c2 c3 c4) ∧ Hid (Lies w B A4 us) ∧ Hid (IsTrees w B l us) ∧ At8 W w.heap.size 0 k o m n t l.length A1 A2 A3 A4 c1 c2 c3 c4 ∧
      Hid (W.heap[w.heap.size]? = some (.cells vs.toArray T (0, 0))) ∧ w.heap.size < W.heap.size ∧ Below w.heap.size w W := by
  obtain ⟨A1, A2, A3, A4, c1, c2, c3, c4, us, rfl, HO, HL, HC⟩ := h.open_
  obtain ⟨h1, h2, h3, h4⟩ := box8 hW
  exact ⟨A1, A2, A3, A4, c1, c2, c3, c4, us, HO, HL, HC, h3, Lib.hid h4, h1, h2⟩
/-- The i-th part of a row of expressions: its eight cells, as a row. -/
theorem tree_row {w wr : World} {B : Nat} {A : Option Addr} {l : List Tree} {us : List Value} {i : Nat} (hcs : IsTrees w B l us) (hl : Lies w B A us) (hk : ∀ p : Addr, p.block < B → wr.cell? p = w.cell? p) (hlt : i < l.length) :
    ∃ b off tv, A = some ⟨b, off, none⟩ ∧ b < B ∧ Hid (IsTree w B l[i] tv) ∧ Hid (wr.rangeAt b (off + i * 8) tv) := by
  obtain ⟨u, hu, hue⟩ := hcs.at_ hlt
  obtain ⟨b, off, rfl, hb, hcell⟩ := hl.elem hue (by intro h; have := hu.len; rw [h] at this; cases this)
  exact ⟨b, off, u, rfl, hb, Lib.hid hu, Lib.hid (fun j v hv => (hk ⟨b, off + i * 8 + j, none⟩ hb).trans (hcell j v hv))⟩
theorem tree_info {w : World} {B : Nat} {a : Tree} {vs : List Value} (h : IsTree w B a vs) : (Tryz.prog.info? 28).map (·.size) = some vs.length := by rw [h.len]; kernel_rfl
theorem tree_infoA {w : World} {B : Nat} {a : Tree} {vs : List Value} (h : IsTree w B a vs) : (Tryz.prog.info? 28).map (·.size) = some vs.toArray.size := by rw [List.size_toArray, h.len]; kernel_rfl
end Go.Proofs.YtceplkpjnebnfaaGreatDoor

/-
  As XRegPred, for a region with one store into a block that was there (a result's cell, say): all other operations read and make memory, and say nothing of that block.
-/
namespace Go.Proofs.YtceplkpjnebnfaaGreatDoor
open Go.RowKit
set_option linter.unusedVariables false

section
variable {P : Program} {ops : Array Oper} {Q : Exit → Act → World → Prop} {md : Region.Mode}
end
end Go.Proofs.YtceplkpjnebnfaaGreatDoor

/-
  append onto a slice that the call owns, with a property of every cell of its row, the spare ones too: what holds of the old cells, of the new ones and of the zero holds of all (the library's run_append_own_at says nothing of the spare cells).
  So a slice of other cells (numbers' limbs) never lies in such a row, and stands when the row grows.
-/
namespace Go

/-- v owns the n elements xs, and every cell of its row is as q says. -/
def World.ownsQ (w : World) (q : Value → Prop) (base : Nat) (e : TypeId) (size : Nat) (v : Value) (n : Nat) (xs : List Value) : Prop :=
  xs.length = n * size ∧
  ((v = .slice none 0 0 ∧ n = 0) ∨
   ∃ g cap cur, v = .slice (some ⟨g, 0, none⟩) n cap ∧ base ≤ g ∧ w.heap[g]? = some (.cells cur e (0, 0)) ∧ n ≤ cap ∧ cap ≤ maxLen ∧ cur.size = cap * size ∧ cur.toList.take (n * size) = xs ∧ ∀ u ∈ cur.toList, q u)

section
variable {w : World} {q : Value → Prop} {base : Nat} {e : TypeId} {size : Nat} {v : Value} {n : Nat} {xs : List Value}
theorem World.ownsQ.own (h : w.ownsQ q base e size v n xs) : w.ownsRow base e size v n xs := by
  refine ⟨h.1, ?_⟩
  rcases h.2 with hn | ⟨g, cap, cur, hv, hb, hg, h1, h2, h3, h4, _⟩
  · exact .inl hn
  · exact .inr ⟨g, cap, cur, hv, hb, hg, h1, h2, h3, h4⟩
theorem World.ownsQ.kept {w' : World} {row : Option Nat} (h : w.ownsQ q base e size v n xs) (hg : w.grownBy w' row) (hne : v.ownBlock = none ∨ v.ownBlock ≠ row) : w'.ownsQ q base e size v n xs := by
  refine ⟨h.1, ?_⟩
  rcases h.2 with hn | ⟨g, cap, cur, rfl, hb, hgg, rest⟩
  · exact .inl hn
  · refine .inr ⟨g, cap, cur, rfl, hb, ?_, rest⟩
    rw [hg.block g (Array.getElem?_eq_some_iff.1 hgg).1 (by simpa [Value.ownBlock] using hne)]
    exact hgg
theorem World.ownsQ.mono {base' : Nat} (h : w.ownsQ q base e size v n xs) (hb : base' ≤ base) : w.ownsQ q base' e size v n xs := by
  refine ⟨h.1, ?_⟩
  rcases h.2 with hn | ⟨g, cap, cur, hv, h1, rest⟩
  · exact .inl hn
  · exact .inr ⟨g, cap, cur, hv, by omega, rest⟩
/-- No cell of another kind lies in the row. -/
theorem World.ownsQ.apart (h : w.ownsQ q base e size v n xs) {a : Addr} {u : Value} (hc : w.cell? a = some u) (hu : ¬ q u) (hr : a.spot = none := by rfl) : v.ownBlock ≠ some a.block := by
  rcases h.2 with ⟨rfl, _⟩ | ⟨g, cap, cur, rfl, hb, hg, h1, h2, h3, h4, hq⟩
  · simp [Value.ownBlock]
  · intro he
    simp only [Value.ownBlock] at he
    injection he with he
    obtain ⟨b, off, r⟩ := a
    simp only at he hr
    subst he hr
    rw [cell_of_row w _ off cur e (0, 0) hg] at hc
    exact hu (hq u (Array.mem_toList_iff.2 (Array.mem_of_getElem? hc)))
end

section
variable {P : Program} (w : World)
end
end Go

/-
  Which arrays may be, plain: no program in sight.
-/
namespace Ar
theorem any_take_succ {p : Int → Bool} {l : List Int} {k : Nat} (h : k < l.length) : (l.take (k + 1)).any p = ((l.take k).any p || p l[k]) := by
  rw [List.take_succ_eq_append_getElem h, List.any_append]; simp
theorem any_at {p : Int → Bool} {l : List Int} {k : Nat} (h : k < l.length) (hp : p l[k] = true) : l.any p = true := List.any_eq_true.2 ⟨_, List.getElem_mem h, hp⟩
end Ar

/-
  shape.Count of any shape.
-/
namespace Go.Proofs.YtceplkpjnebnfaaGreatDoor
open Go.RowKit Ar
set_option maxHeartbeats 4000000
set_option maxRecDepth 100000
set_option linter.unusedVariables false

/-- An index, or -1: whether one of a row is such. -/
def IndexOut (r : Bool) (w : World) (e : Ending) (w' : World) : Prop := ∃ i : Int, e = .returned (.int .i64 i) ∧ decide (0 ≤ i) = r ∧ w = w'
theorem any_upto {p : Int → Bool} {l : List Int} {k : Nat} (hk : k = l.length) (h : (l.take k).any p = false) : l.any p = false := by subst hk; rwa [List.take_length] at h
theorem indexFunc_any (F : FuncId) (hE : ∀ args w, (callFunc F args).run Tryz.prog w = .ok (.enter F args) w) (p : Int → Bool) (A : Option Addr) (c : Nat) (l : List Int) (w : World) (B : Nat) (hl : Lies w B A (I64 l)) (hn : l.length ≤ 9223372036854775807)
    (hF : ∀ x, Calls Tryz.prog F #[.int .i64 x] w fun e w' => e = .returned (.bool (p x)) ∧ w = w') :
    Calls Tryz.prog 154 #[.slice A l.length c, .func (.func F) #[] #[]] w (IndexOut (l.any p) w) := by
  have HA := Lib.hid hl
  have HF := Lib.hid hF
  clear hl hF
  go_enter Tryz.func154, Tryz.ntmps154
  go_wp2_with fail
  go_loop [8] (fun iv => ∃ i : Nat, iv = .int .i64 (i : Int) ∧ i ≤ l.length ∧ Hid ((l.take i).any p = false)) (fun iv => l.length - (intOf iv).toNat)
  case atStart => exact ⟨0, by go_num, Nat.zero_le _, Lib.hid rfl⟩
  case round =>
    obtain ⟨k, rfl, hk, HT⟩ := hrel
    by_cases hlt : k < l.length
    · obtain ⟨b, off, rfl, hb, g0⟩ := lies_i64 HA.out hlt
      have H1 := Lib.hid (any_take_succ (p := p) hlt)
      have H2 := Lib.hid (any_at (p := p) hlt)
      have FX := Lib.hid (HF.out l[k])
      generalize l[k] = x at *
      generalize p x = r at *
      have hk0 : (0 : Int) ≤ (k : Int) := by omega
      have hk1 : (k : Int) < (l.length : Int) := by omega
      go_wp2_with fail
      refine FX.out.mono ?_
      rintro e w' ⟨rfl, rfl⟩
      cases r
      · have H3 : Hid ((l.take (k + 1)).any p = false) := Lib.hid (by rw [H1.out, HT.out]; rfl)
        go_wp2_with fail
        go_round
        case rel => exact ⟨k + 1, by go_num, by omega, H3⟩
        case measure => simp [intOf]; omega
      · have H3 := Lib.hid (H2.out rfl)
        go_wp2_with fail
        go_ret
        exact ⟨_, rfl, by rw [H3.out]; exact decide_eq_true (by omega), rfl⟩
    · have H3 := Lib.hid (any_upto (by omega) HT.out)
      go_wp2_with fail
      go_ret
      exact ⟨_, rfl, by rw [H3.out]; rfl, rfl⟩
theorem contFunc_any (F : FuncId) (hE : ∀ args w, (callFunc F args).run Tryz.prog w = .ok (.enter F args) w) (p : Int → Bool) (A : Option Addr) (c : Nat) (l : List Int) (w : World) (B : Nat) (hl : Lies w B A (I64 l)) (hn : l.length ≤ 9223372036854775807)
    (hF : ∀ x, Calls Tryz.prog F #[.int .i64 x] w fun e w' => e = .returned (.bool (p x)) ∧ w = w') :
    Calls Tryz.prog 102 #[.slice A l.length c, .func (.func F) #[] #[]] w fun e w' => e = .returned (.bool (l.any p)) ∧ w = w' := by
  have IX := Lib.hid (indexFunc_any F hE p A c l w B hl hn hF)
  clear hE
  clear hl hF
  generalize l.any p = r at *
  generalize l.length = n at *
  go_enter Tryz.func102, Tryz.ntmps102
  go_wp2_with fail
  refine IX.out.mono ?_
  rintro e w' ⟨i, rfl, hr, rfl⟩
  go_wp2_with fail
  go_ret
  exact ⟨rfl, rfl⟩
theorem index_any (A : Option Addr) (c : Nat) (l : List Int) (y : Int) (w : World) (B : Nat) (hl : Lies w B A (I64 l)) (hn : l.length ≤ 9223372036854775807) :
    Calls Tryz.prog 155 #[.slice A l.length c, .int .i64 y] w (IndexOut (l.any (· == y)) w) := by
  have HA := Lib.hid hl
  clear hl
  go_enter Tryz.func155, Tryz.ntmps155
  go_wp2_with fail
  go_loop [8] (fun iv => ∃ i : Nat, iv = .int .i64 (i : Int) ∧ i ≤ l.length ∧ Hid ((l.take i).any (· == y) = false)) (fun iv => l.length - (intOf iv).toNat)
  case atStart => exact ⟨0, by go_num, Nat.zero_le _, Lib.hid rfl⟩
  case round =>
    obtain ⟨k, rfl, hk, HT⟩ := hrel
    by_cases hlt : k < l.length
    · obtain ⟨b, off, rfl, hb, g0⟩ := lies_i64 HA.out hlt
      have H1 := Lib.hid (any_take_succ (p := (· == y)) hlt)
      have H2 := Lib.hid (any_at (p := (· == y)) hlt)
      generalize l[k] = x at *
      have hk0 : (0 : Int) ≤ (k : Int) := by omega
      have hk1 : (k : Int) < (l.length : Int) := by omega
      by_cases hxy : x = y
      · subst hxy
        have e1 : (x == x) = true := by simp
        have H3 := Lib.hid (H2.out e1)
        clear H1 H2
        go_wp2_with fail
        go_ret
        exact ⟨_, rfl, by rw [H3.out]; exact decide_eq_true (by omega), rfl⟩
      · have e1 : (y == x) = false := beq_eq_false_iff_ne.2 (fun h => hxy h.symm)
        have H3 : Hid ((l.take (k + 1)).any (· == y) = false) := Lib.hid (by rw [H1.out, HT.out]; simpa using hxy)
        clear H1 H2 hxy
        go_wp2_with fail
        go_round
        case rel => exact ⟨k + 1, by go_num, by omega, H3⟩
        case measure => simp [intOf]; omega
    · have H3 := Lib.hid (any_upto (by omega) HT.out)
      go_wp2_with fail
      go_ret
      exact ⟨_, rfl, by rw [H3.out]; rfl, rfl⟩
theorem contains_any (A : Option Addr) (c : Nat) (l : List Int) (y : Int) (w : World) (B : Nat) (hl : Lies w B A (I64 l)) (hn : l.length ≤ 9223372036854775807) :
    Calls Tryz.prog 107 #[.slice A l.length c, .int .i64 y] w fun e w' => e = .returned (.bool (l.any (· == y))) ∧ w = w' := by
  have IX := Lib.hid (index_any A c l y w B hl hn)
  clear hl
  generalize l.any (· == y) = r at *
  generalize l.length = n at *
  go_enter Tryz.func107, Tryz.ntmps107
  go_wp2_with fail
  refine IX.out.mono ?_
  rintro e w' ⟨i, rfl, hr, rfl⟩
  go_wp2_with fail
  go_ret
  exact ⟨rfl, rfl⟩
end Go.Proofs.YtceplkpjnebnfaaGreatDoor

/-
  Numbers compared: ratio.Same, and the reference's. (Printed by wip/bin/gen_same2.py.)
-/
namespace Go.Proofs.YtceplkpjnebnfaaGreatDoor
open Go.RowKit Ar
set_option maxHeartbeats 1000000
set_option linter.unusedVariables false

/-- Whether two numbers' fields are the same. -/
def sameNum (n n' : Bool) (t t' b b' : List Nat) : Bool := (n == n') && (t == t') && (b == b')

theorem ratioSame_any (n n' : Bool) (t t' b b' : List Nat) (A1 A2 A1' A2' : Option Addr) (c1 c2 c1' c2' : Nat) (w : World) (B : Nat) (h1 : Lies w B A1 (U32 t)) (h1' : Lies w B A1' (U32 t')) (h2 : Lies w B A2 (U32 b)) (h2' : Lies w B A2' (U32 b')) (hB : B ≤ w.heap.size)
    (k1 : t.length ≤ 9223372036854775807) (k1' : t'.length ≤ 9223372036854775807) (k2 : b.length ≤ 9223372036854775807) (k2' : b'.length ≤ 9223372036854775807) :
    Calls Tryz.prog 100 #[.agg #[.bool n, .slice A1 t.length c1, .slice A2 b.length c2], .agg #[.bool n', .slice A1' t'.length c1', .slice A2' b'.length c2']] w fun e w' => e = .returned (.bool (sameNum n n' t t' b b')) ∧ Below w.heap.size w w' := by
  have E1 := Lib.hid (fun (wx : World) (hx : Below w.heap.size w wx) => eqU32_any t t' A1 A1' c1 c1' wx B (h1.below (hx.mono hB)) (h1'.below (hx.mono hB)) k1 k1')
  have E2 := Lib.hid (fun (wx : World) (hx : Below w.heap.size w wx) => eqU32_any b b' A2 A2' c2 c2' wx B (h2.below (hx.mono hB)) (h2'.below (hx.mono hB)) k2 k2')
  have HR : Hid (sameNum n n' t t' b b' = ((n == n') && (t == t') && (b == b'))) := Lib.hid rfl
  clear h1 h1' h2 h2'
  generalize sameNum n n' t t' b b' = R at *
  generalize (t == t') = x at *
  generalize (b == b') = y at *
  cases hnn : (n == n')
  · rw [hnn] at HR
    go_enter Tryz.func100, Tryz.ntmps100
    go_wp2_with fail
    go_ret
    exact ⟨ret_bool (by rw [HR.out]; simp), ((Below.refl _ _).alloc (Nat.le_refl _) _).alloc (by simp) _⟩
  · rw [hnn] at HR
    go_enter Tryz.func100, Tryz.ntmps100
    go_wp2_with fail
    have hb0 : Below w.heap.size w ((w.alloc (.cells #[.bool n, .slice A1 t.length c1, .slice A2 b.length c2] 24)).alloc (.cells #[.bool n', .slice A1' t'.length c1', .slice A2' b'.length c2'] 24)) := ((Below.refl _ _).alloc (Nat.le_refl _) _).alloc (by simp) _
    refine (E1.out _ hb0).mono ?_
    rintro e w2 ⟨rfl, hb2⟩
    have hb3 := hb0.trans (hb2.mono hb0.size)
    obtain ⟨hc, hfz⟩ : (∀ o, w2.cell? ⟨w.heap.size, o, none⟩ = _) ∧ (∀ o, w2.cell? ⟨w.heap.size + 1, o, none⟩ = _) := ⟨fun o => hb2.cell (p := ⟨w.heap.size, o, none⟩) (by show w.heap.size < _; simp; omega), fun o => hb2.cell (p := ⟨w.heap.size + 1, o, none⟩) (by show w.heap.size + 1 < _; simp)⟩
    cases x
    · go_wp2_with fail
      go_ret
      exact ⟨ret_bool (by rw [HR.out]; simp), hb3⟩
    · go_wp2_with fail
      refine (E2.out _ hb3).mono ?_
      rintro e w3 ⟨rfl, hb4⟩
      clear hc hfz
      go_wp2_with fail
      go_ret
      exact ⟨ret_bool (by rw [HR.out]; simp), hb3.trans (hb4.mono hb3.size)⟩

theorem refRatioSame_any (n n' : Bool) (t t' b b' : List Nat) (A1 A2 A1' A2' : Option Addr) (c1 c2 c1' c2' : Nat) (w : World) (B : Nat) (h1 : Lies w B A1 (U32 t)) (h1' : Lies w B A1' (U32 t')) (h2 : Lies w B A2 (U32 b)) (h2' : Lies w B A2' (U32 b')) (hB : B ≤ w.heap.size)
    (k1 : t.length ≤ 9223372036854775807) (k1' : t'.length ≤ 9223372036854775807) (k2 : b.length ≤ 9223372036854775807) (k2' : b'.length ≤ 9223372036854775807) :
    Calls Tryz.prog 30 #[.agg #[.bool n, .slice A1 t.length c1, .slice A2 b.length c2], .agg #[.bool n', .slice A1' t'.length c1', .slice A2' b'.length c2']] w fun e w' => e = .returned (.bool (sameNum n n' t t' b b')) ∧ Below w.heap.size w w' := by
  have E1 := Lib.hid (fun (wx : World) (hx : Below w.heap.size w wx) => refSame2_any t t' A1 A1' c1 c1' wx B (h1.below (hx.mono hB)) (h1'.below (hx.mono hB)) k1 k1')
  have E2 := Lib.hid (fun (wx : World) (hx : Below w.heap.size w wx) => refSame2_any b b' A2 A2' c2 c2' wx B (h2.below (hx.mono hB)) (h2'.below (hx.mono hB)) k2 k2')
  have HR : Hid (sameNum n n' t t' b b' = ((n == n') && (t == t') && (b == b'))) := Lib.hid rfl
  clear h1 h1' h2 h2'
  generalize sameNum n n' t t' b b' = R at *
  generalize (t == t') = x at *
  generalize (b == b') = y at *
  cases hnn : (n == n')
  · rw [hnn] at HR
    go_enter Tryz.func30, Tryz.ntmps30
    go_wp2_with fail
    go_ret
    exact ⟨ret_bool (by rw [HR.out]; simp), ((Below.refl _ _).alloc (Nat.le_refl _) _).alloc (by simp) _⟩
  · rw [hnn] at HR
    go_enter Tryz.func30, Tryz.ntmps30
    go_wp2_with fail
    have hb0 : Below w.heap.size w ((w.alloc (.cells #[.bool n, .slice A1 t.length c1, .slice A2 b.length c2] 24)).alloc (.cells #[.bool n', .slice A1' t'.length c1', .slice A2' b'.length c2'] 24)) := ((Below.refl _ _).alloc (Nat.le_refl _) _).alloc (by simp) _
    refine (E1.out _ hb0).mono ?_
    rintro e w2 ⟨rfl, hb2⟩
    have hb3 := hb0.trans (hb2.mono hb0.size)
    obtain ⟨hc, hfz⟩ : (∀ o, w2.cell? ⟨w.heap.size, o, none⟩ = _) ∧ (∀ o, w2.cell? ⟨w.heap.size + 1, o, none⟩ = _) := ⟨fun o => hb2.cell (p := ⟨w.heap.size, o, none⟩) (by show w.heap.size < _; simp; omega), fun o => hb2.cell (p := ⟨w.heap.size + 1, o, none⟩) (by show w.heap.size + 1 < _; simp)⟩
    cases x
    · go_wp2_with fail
      go_ret
      exact ⟨ret_bool (by rw [HR.out]; simp), hb3⟩
    · go_wp2_with fail
      refine (E2.out _ hb3).mono ?_
      rintro e w3 ⟨rfl, hb4⟩
      clear hc hfz
      go_wp2_with fail
      go_ret
      exact ⟨ret_bool (by rw [HR.out]; simp), hb3.trans (hb4.mono hb3.size)⟩
end Go.Proofs.YtceplkpjnebnfaaGreatDoor

namespace Lab
/-- A tag's label. -/
def bit (t : Nat) : Nat := 2 ^ t
def join (a b : Nat) : Nat := a ||| b
def tags (l : Nat) : List Nat := (List.range 64).filter fun t => l.testBit t
end Lab

/-
  What the small functions of scrimref01 and label compute, for every label: Has, Bit, Join, Meet, Flows.
-/
namespace Go.Proofs.YtceplkpjnebnfaaGreatDoor
open Go.RowKit
set_option maxHeartbeats 400000
end Go.Proofs.YtceplkpjnebnfaaGreatDoor

/-
  array.Total: the join of all labels of an array.
-/
namespace Go.Proofs.YtceplkpjnebnfaaGreatDoor
open Go.RowKit Ar
set_option maxHeartbeats 1000000
set_option linter.unusedVariables false

end Go.Proofs.YtceplkpjnebnfaaGreatDoor

/-
  The reference's Few of an array: some answer.
-/
namespace Go.Proofs.YtceplkpjnebnfaaGreatDoor
open Go.RowKit Ar
set_option maxHeartbeats 1000000
set_option linter.unusedVariables false

end Go.Proofs.YtceplkpjnebnfaaGreatDoor

/-
  Numbers by the reference: scrimref04.Right. (Printed by wip/bin/gen_rat3.py.)
-/
namespace Go.Proofs.YtceplkpjnebnfaaGreatDoor
open Go.RowKit Ar
set_option maxHeartbeats 4000000
set_option maxRecDepth 100000
set_option linter.unusedVariables false

def IntOK (n : Bool) (l : List Nat) (w : World) (x : Value) : Prop := ∃ v, x = .agg #[.bool n, v] ∧ ResL w v l
def TupOK (r : Rt.Nm × Int) (w : World) (x : Value) : Prop := ∃ t u, x = .tuple #[.agg #[.bool r.1.neg, t, u], .int .i64 r.2] ∧ IsRes w t r.1.top ∧ IsRes w u r.1.bot
def AggOK (r : Rt.Nm × Int) (w : World) (x : Value) : Prop := ∃ t u, x = .agg #[.bool r.1.neg, t, u] ∧ IsRes w t r.1.top ∧ IsRes w u r.1.bot
def ErOK (er : Int) (x : Value) : Prop := x = .int .i64 er
/-- A block of a number's three cells; with limbs behind them, if it is said. -/
def CellOK (r : Rt.Nm × Int) (lo : Nat) (said : Bool) (w : World) (x : Value) : Prop := ∃ g b A k c A' k' c', x = .pointer (some ⟨g, 0, none⟩) ∧ lo ≤ g ∧ w.heap[g]? = some (.cells #[.bool b, .slice A k c, .slice A' k' c'] 24 (0, 0)) ∧ (said = true → b = r.1.neg ∧ IsRes w (.slice A k c) r.1.top ∧ IsRes w (.slice A' k' c') r.1.bot)
theorem IntOK.below {n : Bool} {l : List Nat} {w w' : World} {x : Value} (h : IntOK n l w x) (hb : Below w.heap.size w w') : IntOK n l w' x := by
  obtain ⟨v, e, r⟩ := h; exact ⟨v, e, r.below hb⟩
theorem TupOK.below {r0 : Rt.Nm × Int} {w w' : World} {x : Value} (h : TupOK r0 w x) (hb : Below w.heap.size w w') : TupOK r0 w' x := by
  obtain ⟨t, u, e, r, r'⟩ := h; exact ⟨t, u, e, r.below hb, r'.below hb⟩
theorem AggOK.below {r0 : Rt.Nm × Int} {w w' : World} {x : Value} (h : AggOK r0 w x) (hb : Below w.heap.size w w') : AggOK r0 w' x := by
  obtain ⟨t, u, e, r, r'⟩ := h; exact ⟨t, u, e, r.below hb, r'.below hb⟩
theorem CellOK.below {r0 : Rt.Nm × Int} {lo : Nat} {said : Bool} {w w' : World} {x : Value} (h : CellOK r0 lo said w x) (hb : Below w.heap.size w w') : CellOK r0 lo said w' x := by
  obtain ⟨g, b, A, k, c, A', k', c', e, h1, h2, h3⟩ := h
  exact ⟨g, b, A, k, c, A', k', c', e, h1, (hb.block g (blk_lt h2)).trans h2, fun hs => by obtain ⟨e, r, r'⟩ := h3 hs; exact ⟨e, r.below hb, r'.below hb⟩⟩
theorem IntOK.setRow {n : Bool} {l : List Nat} {w : World} {x : Value} {g : Nat} {old : Array Value} {t : TypeId} (h : IntOK n l w x) (hg : w.heap[g]? = some (.cells old t (0, 0))) (ho : ∀ (i : Nat) (k : IntKind) (n : Int), old[i]? ≠ some (Value.int k n)) (cs : Array Value) : IntOK n l (w.setRow g cs) x := by
  obtain ⟨v, e, r⟩ := h; exact ⟨v, e, r.setRow hg ho cs⟩
theorem TupOK.setRow {r0 : Rt.Nm × Int} {w : World} {x : Value} {g : Nat} {old : Array Value} {t : TypeId} (h : TupOK r0 w x) (hg : w.heap[g]? = some (.cells old t (0, 0))) (ho : ∀ (i : Nat) (k : IntKind) (n : Int), old[i]? ≠ some (Value.int k n)) (cs : Array Value) : TupOK r0 (w.setRow g cs) x := by
  obtain ⟨t, u, e, r, r'⟩ := h; exact ⟨t, u, e, r.setRow hg ho cs, r'.setRow hg ho cs⟩
theorem AggOK.setRow {r0 : Rt.Nm × Int} {w : World} {x : Value} {g : Nat} {old : Array Value} {t : TypeId} (h : AggOK r0 w x) (hg : w.heap[g]? = some (.cells old t (0, 0))) (ho : ∀ (i : Nat) (k : IntKind) (n : Int), old[i]? ≠ some (Value.int k n)) (cs : Array Value) : AggOK r0 (w.setRow g cs) x := by
  obtain ⟨t, u, e, r, r'⟩ := h; exact ⟨t, u, e, r.setRow hg ho cs, r'.setRow hg ho cs⟩
/-- What holds while the operations of 'm, e := Make(Top(a), Bot(a))' come up. -/
structure GI (w : World) (N : Array Value) (N1 N2 : Bool) (D1 D2 : List Nat) (R : Rt.Nm × Int) (b0 b1 b2 b3 b4 b5 b6 b7 b8 b9 b10 : Bool) (x16 x17 x18 x19 x20 x15 x21 x22 x3 x4 : Value) (wx : World) : Prop where
  below : Below w.heap.size w wx
  v16 : b0 = true → x16 = .agg N
  v17 : b1 = true → IntOK N1 D1 wx x17
  v18 : b2 = true → x18 = .agg N
  v19 : b3 = true → IntOK N2 D2 wx x19
  v20 : b4 = true → TupOK R wx x20
  v15 : b5 = true → TupOK R wx x15
  v21 : b6 = true → AggOK R wx x21
  v22 : b7 = true → ErOK R.2 x22
  v3 : b8 = true → CellOK R w.heap.size b9 wx x3
  v4 : b10 = true → ErOK R.2 x4
  o9 : b9 = true → b8 = true
def frameG (g : Nat) (N : Array Value) (A : Option Addr) (k c : Nat) (A' : Option Addr) (k' c' : Nat) (x16 x17 x18 x19 x20 x15 x21 x22 x3 x4 : Value) : Act := { tmps := #[.agg N, .pointer (some ⟨g, 0, none⟩), .bool false, x3, x4, .pointer (some ⟨g, 1, none⟩), .slice A k c, .int .i64 (k : Int), .bool false, .bool false, .pointer (some ⟨g, 2, none⟩), .slice A' k' c', .int .i64 (k' : Int), .bool false, .bool false, x15, x16, x17, x18, x19, x20, x21, x22, undef, undef, undef, undef, undef, undef, undef], defers := [] }
def GInv (w : World) (g : Nat) (N : Array Value) (A : Option Addr) (k c : Nat) (A' : Option Addr) (k' c' : Nat) (N1 N2 : Bool) (D1 D2 : List Nat) (R : Rt.Nm × Int) (l : Array Bool) (a : Act) (wx : World) : Prop :=
  ∃ b0 b1 b2 b3 b4 b5 b6 b7 b8 b9 b10 x16 x17 x18 x19 x20 x15 x21 x22 x3 x4, l = #[b0, b1, b2, b3, b4, b5, b6, b7, b8, b9, b10] ∧ a = frameG g N A k c A' k' c' x16 x17 x18 x19 x20 x15 x21 x22 x3 x4 ∧ GI w N N1 N2 D1 D2 R b0 b1 b2 b3 b4 b5 b6 b7 b8 b9 b10 x16 x17 x18 x19 x20 x15 x21 x22 x3 x4 wx

theorem right_same (n : Bool) (t u : List Nat) (h1 : t.length ≤ 32) (h2 : u.length ≤ 32) : Rt.right ⟨n, t, u⟩ = (((Rt.mk n false (Nt.val t) (Nt.val u)).2 == 0) && sameNum n (Rt.mk n false (Nt.val t) (Nt.val u)).1.neg t (Rt.mk n false (Nt.val t) (Nt.val u)).1.top u (Rt.mk n false (Nt.val t) (Nt.val u)).1.bot) := by
  unfold Rt.right
  dsimp only
  rw [decide_eq_true h1, decide_eq_true h2, Bool.true_and, Bool.true_and]
  congr 1
  obtain ⟨⟨b, l, l'⟩, er⟩ := Rt.mk n false (Nt.val t) (Nt.val u)
  rw [Bool.eq_iff_iff]
  simp only [decide_eq_true_eq, sameNum, Bool.and_eq_true, beq_iff_eq, Rt.Nm.mk.injEq]
  constructor
  · rintro ⟨rfl, rfl, rfl⟩; exact ⟨⟨rfl, rfl⟩, rfl⟩
  · rintro ⟨⟨rfl, rfl⟩, rfl⟩; exact ⟨rfl, rfl, rfl⟩

theorem rright_any (n : Bool) (A : Option Addr) (t : List Nat) (c : Nat) (A' : Option Addr) (u : List Nat) (c' : Nat) (w : World) (h1 : IsRes w (.slice A t.length c) t) (h2 : IsRes w (.slice A' u.length c') u) (o1 : Nt.Ok t) (o2 : Nt.Ok u) :
    Calls Tryz.prog 148 #[.agg #[.bool n, .slice A t.length c, .slice A' u.length c']] w fun e w' => e = .returned (.bool (Rt.right ⟨n, t, u⟩)) ∧ Below w.heap.size w w' := by
  obtain ⟨W, hW⟩ : ∃ W, W = w.alloc (.cells #[.bool n, .slice A t.length c, .slice A' u.length c'] 24) := ⟨_, rfl⟩
  have hWs : W.heap.size = w.heap.size + 1 := by rw [hW]; simp
  have hWb : Below w.heap.size w W := by rw [hW]; exact (Below.refl _ _).alloc (Nat.le_refl _) _
  have hW0 : W.heap[w.heap.size]? = some (.cells #[.bool n, .slice A t.length c, .slice A' u.length c'] 24 (0, 0)) := by rw [hW]; exact heap_alloc_new _ _
  have HW := Lib.hid hW
  have HW0 := Lib.hid hW0
  have HR1 := Lib.hid h1
  have HR2 := Lib.hid h2
  clear hW hW0
  by_cases k1 : 32 < t.length
  · clear h1 h2
    go_enter Tryz.func148, Tryz.ntmps148
    go_wp2_with fail
    go_ret
    exact ⟨ret_bool (by unfold Rt.right; rw [show decide (t.length ≤ 32) = false from decide_eq_false (by omega)]; rfl), by rw [HW.out] at hWb; exact hWb⟩
  · by_cases k2 : 32 < u.length
    · clear h1 h2
      go_enter Tryz.func148, Tryz.ntmps148
      go_wp2_with fail
      go_ret
      exact ⟨ret_bool (by unfold Rt.right; rw [show decide (u.length ≤ 32) = false from decide_eq_false (by omega)]; simp), by rw [HW.out] at hWb; exact hWb⟩
    · have q1 : ResL w (.slice A t.length c) t := ⟨h1, o1, by omega⟩
      have q2 : ResL w (.slice A' u.length c') u := ⟨h2, o2, by omega⟩
      have TP := Lib.hid (fun (wx : World) (hx : Below W.heap.size W wx) => top_any n _ _ _ _ wx ((q1.below hWb).below hx) ((q2.below hWb).below hx))
      have BT := Lib.hid (fun (wx : World) (hx : Below W.heap.size W wx) => bot_any n _ _ _ _ wx ((q1.below hWb).below hx) ((q2.below hWb).below hx))
      have hd1 : decide ((32 : Int) < (t.length : Int)) = false := decide_eq_false (by omega)
      have hd2 : decide ((32 : Int) < (u.length : Int)) = false := decide_eq_false (by omega)
      have hWl : w.heap.size < W.heap.size := by omega
      have HRT : Hid (Rt.right ⟨n, t, u⟩ = (((Rt.mk n false (Nt.val t) (Nt.val u)).2 == 0) && sameNum n (Rt.mk n false (Nt.val t) (Nt.val u)).1.neg t (Rt.mk n false (Nt.val t) (Nt.val u)).1.top u (Rt.mk n false (Nt.val t) (Nt.val u)).1.bot)) := Lib.hid (right_same n t u (by omega) (by omega))
      have hMK : Rt.mk (Rt.nrm n (Nt.val t)) (Rt.nrm false (Nt.val u)) (Nt.val (Nt.digs (Nt.val t))) (Nt.val (Nt.digs (Nt.val u))) = Rt.mk n false (Nt.val t) (Nt.val u) := by rw [Nt.val_digs, Nt.val_digs, Rt.mk_nrm]
      generalize Rt.right ⟨n, t, u⟩ = RT at *
      generalize Rt.mk n false (Nt.val t) (Nt.val u) = R at *
      have HMK := Lib.hid hMK
      clear hMK
      clear h1 h2 q1 q2 hWs
      go_enter Tryz.func148, Tryz.ntmps148
      go_wp2_with fail
      rw [← HW.out]
      refine wp_region_any (by kernel_rfl) ?_
      refine wpAny_inv (GInv W w.heap.size #[.bool n, .slice A t.length c, .slice A' u.length c'] A t.length c A' u.length c' (Rt.nrm n (Nt.val t)) (Rt.nrm false (Nt.val u)) (Nt.digs (Nt.val t)) (Nt.digs (Nt.val u)) R) ?_ ?_ 11 _ _ _ (by decide) ⟨false, false, false, false, false, false, false, false, false, false, false, undef, undef, undef, undef, undef, undef, undef, undef, undef, undef, rfl, rfl, ⟨⟨rfl, rfl, rfl, Nat.le_refl _, fun _ _ => rfl⟩, nofun, nofun, nofun, nofun, nofun, nofun, nofun, nofun, nofun, nofun, nofun⟩⟩
      · rintro _ _ wx ⟨b0, b1, b2, b3, b4, b5, b6, b7, b8, b9, b10, x16, x17, x18, x19, x20, x15, x21, x22, x3, x4, rfl, rfl, hJ⟩ i hi
        obtain ⟨h8, hl, ha⟩ := ready_mem hi
        have h8' : i < 11 := h8
        clear h8 hi
        have hsz := hJ.below.size
        rcases (show i = 0 ∨ i = 1 ∨ i = 2 ∨ i = 3 ∨ i = 4 ∨ i = 5 ∨ i = 6 ∨ i = 7 ∨ i = 8 ∨ i = 9 ∨ i = 10 by omega) with rfl | rfl | rfl | rfl | rfl | rfl | rfl | rfl | rfl | rfl | rfl
        · refine wpOp_at rfl rfl ?_
          refine wp_load_row 24 (.tmp 1) rfl w.heap.size rfl 24 #[.bool n, .slice A t.length c, .slice A' u.length c'] (0, 0) _ ((hJ.below.block w.heap.size hWl).trans HW0.out) Tryz.underlying24 rfl num_info ?_
          exact ⟨true, b1, b2, b3, b4, b5, b6, b7, b8, b9, b10, _, x17, x18, x19, x20, x15, x21, x22, x3, x4, rfl, rfl, { hJ with v16 := fun _ => rfl }⟩
        · have h0 : b0 = true := by simpa [Region.binds] using ha
          subst h0
          obtain rfl := hJ.v16 rfl
          refine wpOp_at rfl rfl ?_
          unfold frameG Oper.wp
          go_simp
          refine ((TP.out _ hJ.below).mono ?_)
          rintro e w2 ⟨v3, rfl, hr3, hb2⟩
          exact ⟨true, true, b2, b3, b4, b5, b6, b7, b8, b9, b10, _, _, x18, x19, x20, x15, x21, x22, x3, x4, rfl, rfl, { hJ with
            below := hJ.below.trans (hb2.mono hsz)
            v17 := fun _ => ⟨v3, rfl, hr3⟩
            v19 := fun h => (hJ.v19 h).below hb2
            v20 := fun h => (hJ.v20 h).below hb2
            v15 := fun h => (hJ.v15 h).below hb2
            v21 := fun h => (hJ.v21 h).below hb2
            v3 := fun h => (hJ.v3 h).below hb2 }⟩
        · refine wpOp_at rfl rfl ?_
          refine wp_load_row 24 (.tmp 1) rfl w.heap.size rfl 24 #[.bool n, .slice A t.length c, .slice A' u.length c'] (0, 0) _ ((hJ.below.block w.heap.size hWl).trans HW0.out) Tryz.underlying24 rfl num_info ?_
          exact ⟨b0, b1, true, b3, b4, b5, b6, b7, b8, b9, b10, x16, x17, _, x19, x20, x15, x21, x22, x3, x4, rfl, rfl, { hJ with v18 := fun _ => rfl }⟩
        · have h0 : b2 = true ∧ b1 = true := by simpa [Region.binds] using ha
          obtain ⟨rfl, rfl⟩ := h0
          obtain rfl := hJ.v18 rfl
          refine wpOp_at rfl rfl ?_
          unfold frameG Oper.wp
          go_simp
          refine ((BT.out _ hJ.below).mono ?_)
          rintro e w2 ⟨v3, rfl, hr3, hb2⟩
          exact ⟨b0, true, true, true, b4, b5, b6, b7, b8, b9, b10, x16, x17, _, _, x20, x15, x21, x22, x3, x4, rfl, rfl, { hJ with
            below := hJ.below.trans (hb2.mono hsz)
            v19 := fun _ => ⟨v3, rfl, hr3⟩
            v17 := fun h => (hJ.v17 h).below hb2
            v20 := fun h => (hJ.v20 h).below hb2
            v15 := fun h => (hJ.v15 h).below hb2
            v21 := fun h => (hJ.v21 h).below hb2
            v3 := fun h => (hJ.v3 h).below hb2 }⟩
        · have h0 : b1 = true ∧ b3 = true := by simpa [Region.binds] using ha
          obtain ⟨rfl, rfl⟩ := h0
          obtain ⟨v1, rfl, r1⟩ := hJ.v17 rfl
          obtain ⟨v2, rfl, r2⟩ := hJ.v19 rfl
          have MK := make_any (Rt.nrm n (Nt.val t)) (Rt.nrm false (Nt.val u)) v1 v2 _ _ wx r1 r2
          rw [HMK.out] at MK
          refine wpOp_at rfl rfl ?_
          unfold frameG Oper.wp
          go_simp
          refine (MK.mono ?_)
          rintro e w2 ⟨t1, u1, rfl, k1, k2, hb2⟩
          exact ⟨b0, true, b2, true, true, b5, b6, b7, b8, b9, b10, x16, _, x18, _, _, x15, x21, x22, x3, x4, rfl, rfl, { hJ with
            below := hJ.below.trans (hb2.mono hsz)
            v20 := fun _ => ⟨t1, u1, rfl, k1, k2⟩
            v17 := fun h => (hJ.v17 h).below hb2
            v19 := fun h => (hJ.v19 h).below hb2
            v15 := fun h => (hJ.v15 h).below hb2
            v21 := fun h => (hJ.v21 h).below hb2
            v3 := fun h => (hJ.v3 h).below hb2 }⟩
        · have h0 : b4 = true := by simpa [Region.binds] using ha
          subst h0
          have hv := hJ.v20 rfl
          refine wpOp_at rfl rfl ?_
          unfold frameG Oper.wp
          go_simp
          exact ⟨b0, b1, b2, b3, true, true, b6, b7, b8, b9, b10, x16, x17, x18, x19, x20, _, x21, x22, x3, x4, rfl, rfl, { hJ with v15 := fun _ => hv }⟩
        · have h0 : b5 = true := by simpa [Region.binds] using ha
          subst h0
          obtain ⟨t1, u1, rfl, k1, k2⟩ := hJ.v15 rfl
          refine wpOp_at rfl rfl ?_
          unfold frameG Oper.wp
          go_simp
          exact ⟨b0, b1, b2, b3, b4, true, true, b7, b8, b9, b10, x16, x17, x18, x19, x20, _, _, x22, x3, x4, rfl, rfl, { hJ with v21 := fun _ => ⟨t1, u1, rfl, k1, k2⟩ }⟩
        · have h0 : b5 = true := by simpa [Region.binds] using ha
          subst h0
          obtain ⟨t1, u1, rfl, k1, k2⟩ := hJ.v15 rfl
          refine wpOp_at rfl rfl ?_
          unfold frameG Oper.wp
          go_simp
          exact ⟨b0, b1, b2, b3, b4, true, b6, true, b8, b9, b10, x16, x17, x18, x19, x20, _, x21, _, x3, x4, rfl, rfl, { hJ with v22 := fun _ => rfl }⟩
        · have hb8 : b8 = false := hl
          subst hb8
          have hb9 : b9 = false := by
            cases b9
            · rfl
            · exact absurd (hJ.o9 rfl) (by decide)
          subst hb9
          refine wpOp_at rfl rfl ?_
          unfold frameG Oper.wp
          go_simp
          have hba : Below wx.heap.size wx (wx.alloc (.cells #[.bool false, .slice none 0 0, .slice none 0 0] 24)) := (Below.refl _ _).alloc (Nat.le_refl _) _
          exact ⟨b0, b1, b2, b3, b4, b5, b6, b7, true, false, b10, x16, x17, x18, x19, x20, x15, x21, x22, _, x4, rfl, rfl, { hJ with
            below := hJ.below.alloc hsz _
            v3 := fun _ => ⟨wx.heap.size, false, none, 0, 0, none, 0, 0, rfl, hsz, heap_alloc_new _ _, nofun⟩
            v17 := fun h => (hJ.v17 h).below hba
            v19 := fun h => (hJ.v19 h).below hba
            v20 := fun h => (hJ.v20 h).below hba
            v15 := fun h => (hJ.v15 h).below hba
            v21 := fun h => (hJ.v21 h).below hba
            o9 := nofun }⟩
        · simp [Region.binds] at ha
          obtain ⟨rfl, rfl, rfl, rfl, rfl, rfl, rfl, -, rfl, -, -⟩ := ha
          have hb9 : b9 = false := hl
          subst hb9
          obtain ⟨g, b, A3, k3, c3, A4, k4, c4, rfl, q1, q2, q3⟩ := hJ.v3 rfl
          obtain ⟨t1, u1, rfl, r1, r2⟩ := hJ.v21 rfl
          have s17 := (hJ.v17 rfl).setRow q2 (three_no_int _ _ _ _ _ _ _) #[.bool R.1.neg, t1, u1]
          have s19 := (hJ.v19 rfl).setRow q2 (three_no_int _ _ _ _ _ _ _) #[.bool R.1.neg, t1, u1]
          have s20 := (hJ.v20 rfl).setRow q2 (three_no_int _ _ _ _ _ _ _) #[.bool R.1.neg, t1, u1]
          have s15 := (hJ.v15 rfl).setRow q2 (three_no_int _ _ _ _ _ _ _) #[.bool R.1.neg, t1, u1]
          have s21 := (hJ.v21 rfl).setRow q2 (three_no_int _ _ _ _ _ _ _) #[.bool R.1.neg, t1, u1]
          have r1' := r1.setRow q2 (three_no_int _ _ _ _ _ _ _) #[.bool R.1.neg, t1, u1]
          have r2' := r2.setRow q2 (three_no_int _ _ _ _ _ _ _) #[.bool R.1.neg, t1, u1]
          obtain ⟨A5, c5, rfl, -⟩ := r1
          obtain ⟨A6, c6, rfl, -⟩ := r2
          refine wpOp_at rfl rfl ?_
          refine wp_store_row 24 (.tmp 3) (.tmp 21) rfl g #[.bool R.1.neg, .slice A5 R.1.top.length c5, .slice A6 R.1.bot.length c6] rfl rfl 24 _ q2 num_info rfl (three_one _ _ _ _ _ _ _) ?_
          exact ⟨true, true, true, true, true, true, true, b7, true, true, b10, x16, x17, x18, x19, x20, x15, _, x22, _, x4, rfl, rfl, { hJ with
            below := rBelow.setRow hJ.below q1 _
            v17 := fun _ => s17
            v19 := fun _ => s19
            v20 := fun _ => s20
            v15 := fun _ => s15
            v21 := fun _ => s21
            v3 := fun _ => ⟨g, _, _, _, _, _, _, _, rfl, q1, rheap_same q2, fun _ => ⟨rfl, r1', r2'⟩⟩
            o9 := fun _ => rfl }⟩
        · simp [Region.binds] at ha
          have h7 : b7 = true := ha.1
          subst h7
          clear ha
          have hv := hJ.v22 rfl
          refine wpOp_at rfl rfl ?_
          unfold frameG Oper.wp
          go_simp
          exact ⟨b0, b1, b2, b3, b4, b5, b6, true, b8, b9, true, x16, x17, x18, x19, x20, x15, x21, x22, x3, _, rfl, rfl, { hJ with v4 := fun _ => hv }⟩
      · rintro _ _ wx ⟨b0, b1, b2, b3, b4, b5, b6, b7, b8, b9, b10, x16, x17, x18, x19, x20, x15, x21, x22, x3, x4, rfl, rfl, hJ⟩ hr
        have e0 : b0 = true := ready_nil' hr 0 (by decide) (by simp [Region.binds])
        subst e0
        have e1 : b1 = true := ready_nil' hr 1 (by decide) (by simp [Region.binds])
        subst e1
        have e2 : b2 = true := ready_nil' hr 2 (by decide) (by simp [Region.binds])
        subst e2
        have e3 : b3 = true := ready_nil' hr 3 (by decide) (by simp [Region.binds])
        subst e3
        have e4 : b4 = true := ready_nil' hr 4 (by decide) (by simp [Region.binds])
        subst e4
        have e5 : b5 = true := ready_nil' hr 5 (by decide) (by simp [Region.binds])
        subst e5
        have e6 : b6 = true := ready_nil' hr 6 (by decide) (by simp [Region.binds])
        subst e6
        have e7 : b7 = true := ready_nil' hr 7 (by decide) (by simp [Region.binds])
        subst e7
        have e8 : b8 = true := ready_nil' hr 8 (by decide) (by simp [Region.binds])
        subst e8
        have e9 : b9 = true := ready_nil' hr 9 (by decide) (by simp [Region.binds])
        subst e9
        have e10 : b10 = true := ready_nil' hr 10 (by decide) (by simp [Region.binds])
        subst e10
        clear hr
        obtain ⟨g, b, A3, k3, c3, A4, k4, c4, rfl, q1, q2, q3⟩ := hJ.v3 rfl
        obtain ⟨hbe, r1, r2⟩ := q3 rfl
        subst hbe
        obtain ⟨⟨b, l, l'⟩, er⟩ := R
        dsimp only at r1 r2 HRT
        obtain rfl := hJ.v4 rfl
        have hxb := hJ.below
        have hxs := hxb.size
        have hxw := hWb.trans (hxb.mono (by omega))
        have hw0 := (hxb.block w.heap.size hWl).trans HW0.out
        have hgl := blk_lt q2
        have i1 : k3 = l.length := by obtain ⟨_, _, e, _⟩ := r1; injection e
        have i2 : k4 = l'.length := by obtain ⟨_, _, e, _⟩ := r2; injection e
        subst i1 i2
        have p0 : wx.cell? ⟨g, 0, none⟩ = some (.bool b) := (cell_of_row wx g 0 _ _ _ q2).trans rfl
        have p1 : wx.cell? ⟨g, 1, none⟩ = some (.slice A3 l.length c3) := (cell_of_row wx g 1 _ _ _ q2).trans rfl
        have p2 : wx.cell? ⟨g, 2, none⟩ = some (.slice A4 l'.length c4) := (cell_of_row wx g 2 _ _ _ q2).trans rfl
        have z0 : wx.cell? ⟨w.heap.size, 0, none⟩ = some (.bool n) := (cell_of_row wx w.heap.size 0 _ _ _ hw0).trans rfl
        have z1 : wx.cell? ⟨w.heap.size, 1, none⟩ = some (.slice A t.length c) := (cell_of_row wx w.heap.size 1 _ _ _ hw0).trans rfl
        have z2 : wx.cell? ⟨w.heap.size, 2, none⟩ = some (.slice A' u.length c') := (cell_of_row wx w.heap.size 2 _ _ _ hw0).trans rfl
        have SM : Hid (Calls Tryz.prog 30 #[.agg #[.bool n, .slice A t.length c, .slice A' u.length c'], .agg #[.bool b, .slice A3 l.length c3, .slice A4 l'.length c4]] wx fun e w' => e = .returned (.bool (sameNum n b t l u l')) ∧ Below wx.heap.size wx w') := Lib.hid (by
          obtain ⟨_, _, e, y1, y2, y3, y4⟩ := HR1.out
          injection e with e1 e2 e3
          subst e1 e3
          obtain ⟨_, _, e, y5, y6, y7, y8⟩ := HR2.out
          injection e with e1 e2 e3
          subst e1 e3
          obtain ⟨_, _, e, x1, x2, x3, x4⟩ := r1
          injection e with e1 e2 e3
          subst e1 e3
          obtain ⟨_, _, e, x5, x6, x7, x8⟩ := r2
          injection e with e1 e2 e3
          subst e1 e3
          exact refRatioSame_any n b t l u l' A A' A3 A4 c c' c3 c4 wx wx.heap.size ((y4.below hxw).more hxw.size) x4 ((y8.below hxw).more hxw.size) x8 (Nat.le_refl _) (by omega) (by omega) (by omega) (by omega))
        generalize sameNum n b t l u l' = SN at SM HRT
        clear hJ q2 q3 r1 r2 hw0
        unfold frameG
        cases he : (er == 0)
        · rw [he] at HRT
          go_wp2_with fail
          go_ret
          exact ⟨ret_bool (by rw [HRT.out]; rfl), hxw⟩
        · rw [he] at HRT
          go_wp2_with fail
          refine SM.out.mono ?_
          rintro e w2 ⟨rfl, hb2⟩
          go_wp2_with fail
          go_ret
          exact ⟨ret_bool (by rw [HRT.out]; rfl), hxw.trans (hb2.mono hxw.size)⟩
end Go.Proofs.YtceplkpjnebnfaaGreatDoor
