/- Texts of this proof, joined. -/
import Derived.Test.YtceplkpjnebnfaaGreatDoorM6
import Derived.Shelf.Strings.BuilderRune
set_option linter.all false
set_option maxHeartbeats 8000000
set_option maxRecDepth 100000
namespace Pr
open Tr Tk
abbrev Res (α:Type):=Option (Option (α×List Tok))
def bnd {α β:Type}(x:Res α)(k:α->List Tok->Res β):Res β:=
 match x with
 |none=>none
 |some none=>some none
 |some (some (a,T))=>k a T
def fail {α:Type}:Res α:=some none
def ret {α:Type}(a:α)(T:List Tok):Res α:=some (some (a,T))
def kd (T:List Tok)(n:Nat):Int:=match T[n]? with
 |none=> -1
 |some t=>t.kind
def gl (T:List Tok)(n:Nat):Int:=if kd T n=7 then(T.getD n Tk.none_).c else 0
def node (k o:Int)(m:List UInt8)(l:List Tree):Tree:= .mk k o m Rt.none_ [] l
def begA (T:List Tok):Bool:=
 (kd T 0==0)||(kd T 0==1)||(kd T 0==2)||(kd T 0==4)||(kd T 0==5)||(gl T 0==9082)||(gl T 0==9077)||(gl T 0==40)
def begP (T:List Tok):Bool:=(kd T 0==3)||(kd T 0==6)||(gl T 0==8711)||(gl T 0==123)||Tr.glyph (gl T 0)
def begF (T:List Tok):Bool:=begP T||(gl T 0==8728)
def target (a:Tree):Bool:=(kind a==3)||(kind a==6)||((kind a==9)&&(((kids a).map kind).getD 0 0==3))
def nameAt (l:List Tree):List UInt8:=(l.map Bc).getD 0 []
def set (a e:Tree):Tree:=
 if kind a=3 then node 13 0 (Bc a) [e] else if kind a=6 then node 16 (op a) [] [e] else node 14 0 (nameAt (kids a)) (e::(kids a).tail)
def strandT:List Tree->Tree
 | [a]=>a
 |l=>node 8 0 [] l
def leaf (t:Tok):Option Tree:=
 if t.kind=0 then some (.mk 1 0 [] t.n [] []) else if t.kind=1 then some (.mk 2 0 [] Rt.none_ t.l []) else if t.kind=2 then some (node 3 0 t.s []) else if t.kind=4 then some (node 6 t.c [] [])
 else if t.kind=5 then some (node 7 t.c [] []) else if t.c=9082 then some (node 4 0 [] []) else if t.c=9077 then some (node 5 0 [] []) else none
def fleaf (t:Tok):Option Tree:=
 if t.kind=3 then some (node 18 0 t.s []) else if t.kind=6 then some (node 21 t.c [] []) else if t.c=8711 then some (node 19 0 [] []) else if t.c=123 then none else some (node 17 t.c [] [])
mutual
def stmts:Nat->Bool->List Tok->Res (List Tree)
 | 0,_,_=>none
 |f+1,b,T=>bnd (stmt f b T) λe U=>if gl U 0=8900 then bnd (stmts f b U.tail) λl V=>ret (e::l) V else ret [e] U
def stmt:Nat->Bool->List Tok->Res Tree
 | 0,_,_=>none
 |f+1,b,T=>
  if kd T 0=3/\gl T 1=8592 then bnd (func f (T.drop 2)) λg U=>ret (node 27 0 (T.getD 0 Tk.none_).s [g]) U
  else bnd (expr f T) λe U=>
   if b=true/\gl U 0=58 then
    if gl U.tail 0=58 then bnd (expr f U.tail.tail) λe2 V=>ret (node 26 0 [] [e,e2]) V
    else bnd (expr f U.tail) λe2 V=>ret (node 25 0 [] [e,e2]) V
   else ret e U
def expr:Nat->List Tok->Res Tree
 | 0,_=>none
 |f+1,T=>if begA T=true then behind f T else bnd (func f T) λg U=>bnd (expr f U) λe V=>ret (node 11 0 [] [g,e]) V
def behind:Nat->List Tok->Res Tree
 | 0,_=>none
 |f+1,T=>bnd (arrs f T) λl U=>
  if target (strandT l)=true/\gl U 0=8592 then bnd (expr f U.tail) λe V=>ret (set (strandT l) e) V
  else if begF U=true then bnd (func f U) λg V=>
   if kind (strandT l)=3/\gl V 0=8592 then bnd (expr f V.tail) λe X=>ret (node 15 0 (Bc (strandT l)) [g,e]) X
   else bnd (expr f V) λe X=>ret (node 12 0 [] [strandT l,g,e]) X
  else ret (strandT l) U
def arrs:Nat->List Tok->Res (List Tree)
 | 0,_=>none
 |f+1,T=>if begA T=true then bnd (arr f T) λa U=>bnd (arrs f U) λl V=>ret (a::l) V else ret [] T
def arr:Nat->List Tok->Res Tree
 | 0,_=>none
 |f+1,T=>bnd (alone f T) λa U=>more f a U
def more:Nat->Tree->List Tok->Res Tree
 | 0,_,_=>none
 |f+1,a,T=>if gl T 0=91 then bnd (places f T.tail) λl U=>if gl U 0=93 then more f (node 9 0 [] (a::l)) U.tail else fail else ret a T
def places:Nat->List Tok->Res (List Tree)
 | 0,_=>none
 |f+1,T=>bnd (if gl T 0=59\/gl T 0=93 then ret (node 10 0 [] []) T else expr f T) λp U=>if gl U 0=59 then bnd (places f U.tail) λl V=>ret (p::l) V else ret [p] U
def alone:Nat->List Tok->Res Tree
 | 0,_=>none
 |f+1,T=>if begA T=true then
  match leaf (T.getD 0 Tk.none_) with
  |some e=>ret e T.tail
  |none=>bnd (expr f T.tail) λe U=>if gl U 0=41 then ret e U.tail else fail
  else fail
def func:Nat->List Tok->Res Tree
 | 0,_=>none
 |f+1,T=>if gl T 0=8728 then if gl T.tail 0=46 then bnd (plain f T.tail.tail) λg U=>ops f (node 24 0 [] [g]) U else fail else bnd (plain f T) λg U=>ops f g U
def ops:Nat->Tree->List Tok->Res Tree
 | 0,_,_=>none
 |f+1,g,T=>if monops.contains (gl T 0)=true then ops f (node 22 (gl T 0) [] [g]) T.tail
  else if dyops.contains (gl T 0)=true then bnd (if gl T 0=9060\/(gl T 0=9059/\begA T.tail=true) then arr f T.tail else plain f T.tail) λk U=>ops f (node 23 (gl T 0) [] [g,k]) U
  else ret g T
def plain:Nat->List Tok->Res Tree
 | 0,_=>none
 |f+1,T=>if begP T=true then
  match fleaf (T.getD 0 Tk.none_) with
  |some e=>ret e T.tail
  |none=>bnd (stmts f true T.tail) λl U=>if gl U 0=125 then ret (node 20 0 [] l) U.tail else fail
  else fail
end
def Le {α:Type}(x y:Res α):Prop:=∀r,x=some r->y=some r
theorem Le.refl {α:Type}(x:Res α):Le x x:=λ_ h=>h
theorem Le.none_ {α:Type}(y:Res α):Le (none:Res α) y:=λ_ h=>by cases h
theorem Le.bnd {α β:Type}{x y:Res α}{k k':α->List Tok->Res β}(h:Le x y)(hk:∀a T,Le (k a T) (k' a T)):Le (bnd x k) (bnd y k'):=by
 intro r hr;cases x with
 |none=>cases hr
 |some x=>
  rw[h x rfl];cases x with
  |none=>exact hr
  |some p=>exact hk _ _ r hr
theorem Le.ite {α:Type}{c:Prop}[Decidable c]{x y x' y':Res α}(h:Le x x')(h':Le y y'):Le (if c then x else y) (if c then x' else y'):=by
 by_cases hc:c
 ·rw[if_pos hc,if_pos hc];exact h
 rw[if_neg hc,if_neg hc];exact h'
structure Oqa (f:Nat):Prop where
 stmts:∀b T,Le (stmts f b T) (stmts (f+1) b T)
 stmt:∀b T,Le (stmt f b T) (stmt (f+1) b T)
 expr:∀T,Le (expr f T) (expr (f+1) T)
 behind:∀T,Le (behind f T) (behind (f+1) T)
 arrs:∀T,Le (arrs f T) (arrs (f+1) T)
 arr:∀T,Le (arr f T) (arr (f+1) T)
 more:∀a T,Le (more f a T) (more (f+1) a T)
 places:∀T,Le (places f T) (places (f+1) T)
 alone:∀T,Le (alone f T) (alone (f+1) T)
 func:∀T,Le (func f T) (func (f+1) T)
 ops:∀g T,Le (ops f g T) (ops (f+1) g T)
 plain:∀T,Le (plain f T) (plain (f+1) T)
theorem mono:∀f,Oqa f
 | 0=>⟨λ_ _=>Le.none_ _,λ_ _=>Le.none_ _,λ_=>Le.none_ _,λ_=>Le.none_ _,λ_=>Le.none_ _,λ_=>Le.none_ _,λ_ _=>Le.none_ _,λ_=>Le.none_ _,λ_=>Le.none_ _,λ_=>Le.none_ _,λ_ _=>Le.none_ _,λ_=>Le.none_ _⟩
 |f+1=>by
  have h:=mono f
  constructor
  ·intro b T
   rw[Pr.stmts,Pr.stmts.eq_2 b T (f+1)];exact(h.stmt b T).bnd λe U=>Le.ite ((h.stmts b _).bnd λ_ _=>Le.refl _) (Le.refl _)
  ·intro b T
   rw[Pr.stmt,Pr.stmt.eq_2 b T (f+1)];exact Le.ite ((h.func _).bnd λ_ _=>Le.refl _) ((h.expr T).bnd λe U=>Le.ite (Le.ite ((h.expr _).bnd λ_ _=>Le.refl _) ((h.expr _).bnd λ_ _=>Le.refl _)) (Le.refl _))
  ·intro T
   rw[Pr.expr,Pr.expr.eq_2 T (f+1)];exact Le.ite (h.behind T) ((h.func T).bnd λ_ _=>(h.expr _).bnd λ_ _=>Le.refl _)
  ·intro T
   rw[Pr.behind,Pr.behind.eq_2 T (f+1)];exact(h.arrs T).bnd λl U=>Le.ite ((h.expr _).bnd λ_ _=>Le.refl _) (Le.ite ((h.func U).bnd λ_ _=>Le.ite ((h.expr _).bnd λ_ _=>Le.refl _) ((h.expr _).bnd λ_ _=>Le.refl _)) (Le.refl _))
  ·intro T
   rw[Pr.arrs,Pr.arrs.eq_2 T (f+1)];exact Le.ite ((h.arr T).bnd λ_ _=>(h.arrs _).bnd λ_ _=>Le.refl _) (Le.refl _)
  ·intro T
   rw[Pr.arr,Pr.arr.eq_2 T (f+1)];exact(h.alone T).bnd λ_ _=>h.more _ _
  ·intro a T
   rw[Pr.more,Pr.more.eq_2 a T (f+1)];exact Le.ite ((h.places _).bnd λ_ _=>Le.ite (h.more _ _) (Le.refl _)) (Le.refl _)
  ·intro T
   rw[Pr.places,Pr.places.eq_2 T (f+1)];exact(Le.ite (Le.refl _) (h.expr T)).bnd λ_ _=>Le.ite ((h.places _).bnd λ_ _=>Le.refl _) (Le.refl _)
  ·intro T
   rw[Pr.alone,Pr.alone.eq_2 T (f+1)];refine Le.ite ?_ (Le.refl _);cases leaf (T.getD 0 Tk.none_) with
   |some e=>exact Le.refl _
   |none=>exact(h.expr _).bnd λ_ _=>Le.refl _
  ·intro T
   rw[Pr.func,Pr.func.eq_2 T (f+1)];exact Le.ite (Le.ite ((h.plain _).bnd λ_ _=>h.ops _ _) (Le.refl _)) ((h.plain _).bnd λ_ _=>h.ops _ _)
  ·intro g T
   rw[Pr.ops,Pr.ops.eq_2 g T (f+1)];exact Le.ite (h.ops _ _) (Le.ite ((Le.ite (h.arr _) (h.plain _)).bnd λ_ _=>h.ops _ _) (Le.refl _))
  intro T;rw[Pr.plain,Pr.plain.eq_2 T (f+1)];refine Le.ite ?_ (Le.refl _);cases fleaf (T.getD 0 Tk.none_) with
  |some e=>exact Le.refl _
  |none=>exact(h.stmts _ _).bnd λ_ _=>Le.refl _
end Pr
namespace Pr
open Tr Tk
theorem Una {T:List Tok}{n:Nat}(h:T.length<=n):gl T n=0:=by
 unfold gl kd;rw[List.getElem?_eq_none h];rfl
theorem gl_ne {T:List Tok}{n:Nat}(h:gl T n≠0):n<T.length:=by
 rcases Nat.lt_or_ge n T.length with h1 |h1
 ·exact h1
 exact absurd (Una h1) h
theorem begA_ne {T:List Tok}(h:begA T=true):0<T.length:=by
 cases T with
 |nil=>exact absurd h (by decide)
 |cons _ _=>simp
theorem begP_ne {T:List Tok}(h:begP T=true):0<T.length:=by
 cases T with
 |nil=>exact absurd h (by decide)
 |cons _ _=>simp
theorem Vna {T:List Tok}(h:monops.contains (gl T 0)=true):0<T.length:=gl_ne (λe=>by rw[e] at h;exact absurd h (by decide))
theorem Fpa {T:List Tok}(h:dyops.contains (gl T 0)=true):0<T.length:=gl_ne (λe=>by rw[e] at h;exact absurd h (by decide))
def Suf {α:Type}(x:Res α)(n:Nat):Prop:=∃o,x=some o/\∀a U,o=some (a,U)->U.length<=n
theorem Suf.ret {α:Type}{a:α}{T:List Tok}{n:Nat}(h:T.length<=n):Suf (ret a T) n:=⟨_,rfl,λ_ _ e=>by injection e with e;injection e with _ e;subst e;exact h⟩
theorem Suf.fail {α:Type}{n:Nat}:Suf (fail:Res α) n:=⟨_,rfl,λ_ _ e=>by cases e⟩
theorem Suf.bnd {α β:Type}{x:Res α}{k:α->List Tok->Res β}{n m:Nat}(h:Suf x n)(hk:∀a U,U.length<=n->Suf (k a U) m):Suf (bnd x k) m:=by
 obtain⟨o,rfl,h⟩:=h;cases o with
 |none=>exact Suf.fail
 |some p=>exact hk p.1 p.2 (h _ _ rfl)
theorem Suf.ite {α:Type}{c:Prop}[Decidable c]{x y:Res α}{n:Nat}(h:c->Suf x n)(h':¬c->Suf y n):Suf (if c then x else y) n:=by
 by_cases hc:c
 ·rw[if_pos hc];exact h hc
 rw[if_neg hc];exact h' hc
theorem Suf.mono {α:Type}{x:Res α}{n m:Nat}(h:Suf x n)(hm:n<=m):Suf x m:=by
 obtain⟨o,e,h⟩:=h;exact⟨o,e,λa U e=>Nat.le_trans (h a U e) hm⟩
structure Wna (f:Nat):Prop where
 stmts:∀b T,16*T.length+7<=f->Suf (stmts f b T) T.length
 stmt:∀b T,16*T.length+6<=f->Suf (stmt f b T) T.length
 expr:∀T,16*T.length+5<=f->Suf (expr f T) T.length
 behind:∀T,16*T.length+4<=f->Suf (behind f T) T.length
 arrs:∀T,16*T.length+3<=f->Suf (arrs f T) T.length
 arr:∀T,16*T.length+2<=f->Suf (arr f T) (T.length-1)
 more:∀a T,16*T.length<=f->1<=f->Suf (more f a T) T.length
 places:∀T,16*T.length+6<=f->Suf (places f T) T.length
 alone:∀T,16*T.length<=f->1<=f->Suf (alone f T) (T.length-1)
 func:∀T,16*T.length+2<=f->Suf (func f T) (T.length-1)
 ops:∀g T,16*T.length<=f->1<=f->Suf (ops f g T) T.length
 plain:∀T,16*T.length<=f->1<=f->Suf (plain f T) (T.length-1)
theorem Pea:∀f,Wna f
 | 0=>⟨λ_ _ h=>by omega,λ_ _ h=>by omega,λ_ h=>by omega,λ_ h=>by omega,λ_ h=>by omega,λ_ h=>by omega,λ_ _ _ h=>by omega,λ_ h=>by omega,λ_ _ h=>by omega,λ_ h=>by omega,λ_ _ _ h=>by omega,λ_ _ h=>by omega⟩
 |f+1=>by
  have h:=Pea f
  constructor
  ·intro b T hf
   rw[Pr.stmts];refine(h.stmt b T (by omega)).bnd λe U hU=>Suf.ite (λhc=>?_) (λ_=>Suf.ret (by omega));have:=gl_ne (T:=U) (n:=0) (by rw[hc];decide);exact(h.stmts b _ (by rw[List.length_tail];omega)).bnd λ_ _ hV=>Suf.ret (by rw[List.length_tail] at hV;omega)
  ·intro b T hf
   rw[Pr.stmt];refine Suf.ite (λhc=>?_) (λ_=>(h.expr T (by omega)).bnd λe U hU=>Suf.ite (λhc=>Suf.ite (λhc2=>?_) (λ_=>?_)) (λ_=>Suf.ret (by omega)))
   ·have:=gl_ne (T:=T) (n:=1) (by rw[hc.2];decide)
    exact(h.func _ (by rw[List.length_drop];omega)).bnd λ_ _ hV=>Suf.ret (by rw[List.length_drop] at hV;omega)
   ·have:=gl_ne (T:=U) (n:=0) (by rw[hc.2];decide)
    exact(h.expr _ (by rw[List.length_tail,List.length_tail];omega)).bnd λ_ _ hV=>Suf.ret (by rw[List.length_tail,List.length_tail] at hV;omega)
   have:=gl_ne (T:=U) (n:=0) (by rw[hc.2];decide);exact(h.expr _ (by rw[List.length_tail];omega)).bnd λ_ _ hV=>Suf.ret (by rw[List.length_tail] at hV;omega)
  ·intro T hf
   rw[Pr.expr];refine Suf.ite (λ_=>h.behind T (by omega)) (λ_=>?_);by_cases hT:0<T.length
   ·exact(h.func T (by omega)).bnd λ_ U hU=>(h.expr _ (by omega)).bnd λ_ _ hV=>Suf.ret (by omega)
   have e:T=[]:=List.eq_nil_of_length_eq_zero (by omega);subst e;refine(h.func [] (by omega)).bnd λ_ U hU=>?_;have e:U=[]:=List.eq_nil_of_length_eq_zero (by simpa using hU);subst e;cases f with
   |zero=>simp at hf
   |succ f=>
    rw[Pr.expr,if_neg (by decide)];refine Suf.bnd (n:=0) ?_ (λ_ _ hV=>Suf.ret (by omega));cases f with
    |zero=>simp at hf
    |succ f=>
     rw[Pr.func,if_neg (by decide)];cases f with
     |zero=>simp at hf
     |succ f=>rw[Pr.plain,if_neg (by decide)];exact Suf.fail
  ·intro T hf
   rw[Pr.behind];refine(h.arrs T (by omega)).bnd λl U hU=>Suf.ite (λhc=>?_) (λ_=>Suf.ite (λhF=>?_) (λ_=>Suf.ret (by omega)))
   ·have:=gl_ne (T:=U) (n:=0) (by rw[hc.2];decide)
    exact(h.expr _ (by rw[List.length_tail];omega)).bnd λ_ _ hV=>Suf.ret (by rw[List.length_tail] at hV;omega)
   have hU0:0<U.length:=by
    unfold begF at hF;simp only[Bool.or_eq_true,beq_iff_eq] at hF;rcases hF with hF |hF
    ·exact begP_ne hF
    exact gl_ne (T:=U) (n:=0) (by rw[hF];decide)
   refine(h.func U (by omega)).bnd λ_ V hV=>Suf.ite (λhc=>?_) (λ_=>(h.expr _ (by omega)).bnd λ_ _ hX=>Suf.ret (by omega));have:=gl_ne (T:=V) (n:=0) (by rw[hc.2];decide);exact(h.expr _ (by rw[List.length_tail];omega)).bnd λ_ _ hX=>Suf.ret (by rw[List.length_tail] at hX;omega)
  ·intro T hf
   rw[Pr.arrs];refine Suf.ite (λhc=>?_) (λ_=>Suf.ret (by omega));have:=begA_ne hc;exact(h.arr T (by omega)).bnd λ_ U hU=>(h.arrs _ (by omega)).bnd λ_ _ hV=>Suf.ret (by omega)
  ·intro T hf
   rw[Pr.arr];by_cases hT:0<T.length
   ·exact(h.alone T (by omega) (by omega)).bnd λ_ U hU=>(h.more _ _ (by omega) (by omega)).mono (by omega)
   have e:T=[]:=List.eq_nil_of_length_eq_zero (by omega);subst e;cases f with
   |zero=>simp at hf
   |succ f=>rw[Pr.alone,if_neg (by decide)];exact Suf.fail
  ·intro a T hf _
   rw[Pr.more];refine Suf.ite (λhc=>?_) (λ_=>Suf.ret (by omega));have:=gl_ne (T:=T) (n:=0) (by rw[hc];decide);refine(h.places _ (by rw[List.length_tail];omega)).bnd λl U hU=>Suf.ite (λhc=>?_) (λ_=>Suf.fail);rw[List.length_tail] at hU;exact(h.more _ _ (by rw[List.length_tail];omega) (by omega)).mono (by rw[List.length_tail];omega)
  ·intro T hf
   rw[Pr.places];refine(Suf.ite (λ_=>Suf.ret Lr) (λ_=>h.expr T (by omega))).bnd λp U hU=>Suf.ite (λhc=>?_) (λ_=>Suf.ret (by omega));have:=gl_ne (T:=U) (n:=0) (by rw[hc];decide);exact(h.places _ (by rw[List.length_tail];omega)).bnd λ_ _ hV=>Suf.ret (by rw[List.length_tail] at hV;omega)
  ·intro T hf _
   rw[Pr.alone];refine Suf.ite (λhc=>?_) (λ_=>Suf.fail);have:=begA_ne hc;cases leaf (T.getD 0 Tk.none_) with
   |some e=>exact Suf.ret (by rw[List.length_tail];omega)
   |none=>
    refine(h.expr _ (by rw[List.length_tail];omega)).bnd λe U hU=>Suf.ite (λ_=>Suf.ret (by rw[List.length_tail] at hU⊢;omega)) (λ_=>Suf.fail)
  ·intro T hf
   rw[Pr.func];refine Suf.ite (λhc=>Suf.ite (λhc2=>?_) (λ_=>Suf.fail)) (λ_=>?_)
   ·have:=gl_ne (T:=T) (n:=0) (by rw[hc];decide)
    have h2:=gl_ne (T:=T.tail) (n:=0) (by rw[hc2];decide);rw[List.length_tail] at h2;refine(h.plain _ (by rw[List.length_tail,List.length_tail];omega) (by omega)).bnd λ_ U hU=>?_;rw[List.length_tail,List.length_tail] at hU;exact(h.ops _ _ (by omega) (by omega)).mono (by omega)
   by_cases hT:0<T.length
   ·exact(h.plain T (by omega) (by omega)).bnd λ_ U hU=>(h.ops _ _ (by omega) (by omega)).mono (by omega)
   have e:T=[]:=List.eq_nil_of_length_eq_zero (by omega);subst e;cases f with
   |zero=>simp at hf
   |succ f=>rw[Pr.plain,if_neg (by decide)];exact Suf.fail
  ·intro g T hf _
   rw[Pr.ops];refine Suf.ite (λhc=>?_) (λ_=>Suf.ite (λhc=>?_) (λ_=>Suf.ret (by omega)))
   ·have:=Vna hc
    exact(h.ops _ _ (by rw[List.length_tail];omega) (by omega)).mono (by rw[List.length_tail];omega)
   have:=Fpa hc;refine(Suf.ite (n:=T.tail.length) (λ_=>(h.arr _ (by rw[List.length_tail];omega)).mono (by omega)) (λ_=>(h.plain _ (by rw[List.length_tail];omega) (by omega)).mono (by omega))).bnd λk U hU=>?_;rw[List.length_tail] at hU;exact(h.ops _ _ (by omega) (by omega)).mono (by omega)
  intro T hf _;rw[Pr.plain];refine Suf.ite (λhc=>?_) (λ_=>Suf.fail);have:=begP_ne hc;cases fleaf (T.getD 0 Tk.none_) with
  |some e=>exact Suf.ret (by rw[List.length_tail];omega)
  |none=>
   refine(h.stmts _ _ (by rw[List.length_tail];omega)).bnd λl U hU=>Suf.ite (λ_=>Suf.ret (by rw[List.length_tail] at hU⊢;omega)) (λ_=>Suf.fail)
def fuel (T:List Tok):Nat:=16*T.length+7
theorem stmts_some (b:Bool)(T:List Tok):∃o,stmts (fuel T) b T=some o:=by
 obtain⟨o,h,_⟩:=(Pea (fuel T)).stmts b T Lr;exact⟨o,h⟩
def lineT (T:List Tok):Option Tree:=match stmts (fuel T) false T with
 |some (some (l,[]))=>some (node 28 0 [] l)
 |_=>none
end Pr
namespace Go.Proofs.YtceplkpjnebnfaaGreatDoor
section
open Go.RowKit
section
variable {P : Program} {ops : Array Oper} {Q : Exit -> Act -> World -> Prop} {md : Region.Mode}
end
end
section
open Go.RowKit
section
variable {P : Program} {ops : Array Oper} {Q : Exit -> Act -> World -> Prop} {md : Region.Mode}
def Gq (frame:(Nat->Value)->Act)(R:Nat->Value->Prop)(S:World->Prop)(xs:Nat->Value)(i:Nat)(a':Act)(w':World):Prop:=∃v,a'=frame (Ja xs i v)/\R i v/\S w'
theorem Aba (acts:List Nat)(frame:(Nat->Value)->Act)(R:Nat->Value->Prop)(S:Nat->World->Prop)
 (step:∀i xs w k,i<ops.size->i∉acts->S k w->(∀j,Ob md ops i j=true->R j (xs j))->wpOp P ops Q i (Gq frame R (S k) xs i) (frame xs) w)
 (act:∀m i xs w,acts[m]? =some i->S m w->(∀j,Ob md ops i j=true->R j (xs j))->wpOp P ops Q i (Gq frame R (S (m+1)) xs i) (frame xs) w)
 (done:∀xs w,S acts.length w->(∀i,i<ops.size->R i (xs i))->Q .normal (frame xs) w)
 (hchain:∀m i j,acts[m]? =some j->acts[m+1]? =some i->Ob md ops i j=true) (hnd:acts.Nodup) (hacts:∀i∈acts,i<ops.size)
 (hops:∀i,i<ops.size->∀o,ops[i]? =some o->∀e∈o.after,Region.binds md e=true->e.on<i)
 (xs0:Nat->Value) (w1:World) (hw1:S 0 w1):wpAny P md ops Q ops.size (Array.replicate ops.size false) (frame xs0) w1:=by
 refine Th (λl a w=>l.size=ops.size/\∃k xs,k<=acts.length/\a=frame xs/\S k w/\(∀m i,acts[m]? =some i->(l[i]? =some true↔m<k))/\∀i,i<ops.size->l[i]? =some true->R i (xs i)) ?_ ?_ ops.size _ _ _ (by simp)
  ⟨by simp,0,xs0,Nat.zero_le _,rfl,hw1,λm i hm=>⟨λh=>by
   have:=hacts i (List.mem_of_getElem? hm);simp[this] at h,λh=>by omega⟩,λi hi h=>by simp[hi] at h⟩
 ·rintro l a w ⟨hl,k,xs,hk,rfl,hS,hm,hx⟩ i hi
  obtain⟨h1,h2,h3⟩:=Gg hi;have hli:l[i]? =some false:=by
   rw[Array.getD_eq_getD_getElem?] at h2;rw[Array.getElem?_eq_getElem (by omega)] at h2⊢;simp at h2;rw[h2]
  have hlt:∀j,Ob md ops i j=true->j<i:=by
   intro j hj;unfold Ob at hj;rw[Array.getElem?_eq_getElem h1] at hj;simp only[List.any_eq_true,Bool.and_eq_true,beq_iff_eq] at hj;obtain⟨e,he',rfl,hbi⟩:=hj;exact hops i h1 _ (Array.getElem?_eq_getElem h1) e (by simpa using he') hbi
  have hlj:∀j,Ob md ops i j=true->l[j]? =some true:=λj hj=>Gj (Ih h3 hj);have hdep:∀j,Ob md ops i j=true->R j (xs j):=λj hj=>hx j (by have:=hlt j hj;omega) (hlj j hj);have hR:∀v,R i v->∀j,j<ops.size->(l.setIfInBounds i true)[j]? =some true->R j (Ja xs i v j):=by
   intro v hv j hj hlj';by_cases e':j=i
   ·subst e';simp only[Ja,if_true];exact hv
   simp only[Ja,if_neg e'];rw[Array.getElem?_setIfInBounds_ne (λh=>e' h.symm)] at hlj';exact hx j hj hlj'
  by_cases hia:i∈acts
  ·obtain⟨m,hmi⟩:=List.getElem?_of_mem hia
   have hmk:¬m<k:=λh=>by rw[(hm m i hmi).2 h] at hli;cases hli
   have hkm:m=k:=by
    cases m with
    |zero=>omega
    |succ m=>
     obtain⟨j,hj⟩:∃j,acts[m]? =some j:=by
      have:m+1<acts.length:=(List.getElem?_eq_some_iff.1 hmi).1;exact⟨_,List.getElem?_eq_getElem (by omega)⟩
     have:=(hm m j hj).1 (hlj j (hchain m i j hj hmi));omega
   subst hkm;have hml:m<acts.length:=(List.getElem?_eq_some_iff.1 hmi).1;refine wpOp_mono ?_ (act m i xs w hmi hS hdep);rintro a' w' ⟨v,rfl,hv,hS'⟩;refine⟨by simpa using hl,m+1,Ja xs i v,hml,rfl,hS',λm' i' hmi'=>?_,hR v hv⟩;by_cases e:m'=m
   ·subst e
    have e2:i'=i:=by rw[hmi] at hmi';exact(Option.some.inj hmi').symm
    subst e2;rw[Array.getElem?_setIfInBounds_self_of_lt (by omega)];exact⟨λ_=>by omega,λ_=>rfl⟩
   have hne:i≠i':=λe3=>by
    subst e3;exact e ((List.getElem?_inj (List.getElem?_eq_some_iff.1 hmi').1 hnd).1 (hmi'.trans hmi.symm))
   rw[Array.getElem?_setIfInBounds_ne hne,hm m' i' hmi'];omega
  refine wpOp_mono ?_ (step i xs w k h1 hia hS hdep);rintro a' w' ⟨v,rfl,hv,hS'⟩;refine⟨by simpa using hl,k,Ja xs i v,hk,rfl,hS',λm' i' hmi'=>?_,hR v hv⟩;have hne:i≠i':=λe3=>by subst e3;exact hia (List.mem_of_getElem? hmi')
  rw[Array.getElem?_setIfInBounds_ne hne];exact hm m' i' hmi'
 rintro l a w ⟨hl,k,xs,hk,rfl,hS,hm,hx⟩ hr;have hall:∀n i,i<n->i<ops.size->l[i]? =some true:=by
  intro n
  induction n with
  |zero=>intro i h;omega
  |succ n ih=>
   intro i hi his;by_cases e:i<n
   ·exact ih i e his
   have hie:i=n:=by omega
   subst hie;cases h:l[i]? with
   |none=>rw[Array.getElem?_eq_none_iff] at h;omega
   |some b=>
    cases b
    ·exfalso
     have:i∈Region.ready md ops l:=by
      simp only[Region.ready,List.mem_filter,List.mem_range,Bool.and_eq_true,Bool.not_eq_true'];refine⟨his,by rw[Array.getD_eq_getD_getElem?,h];rfl,?_⟩;rw[Array.getElem?_eq_getElem his];simp only[Option.map_some,Option.getD_some,Array.all_eq_true_iff_forall_mem];intro e he;cases hbi:Region.binds md e
      ·simp
      have hlt:=hops i his _ (Array.getElem?_eq_getElem his) e he hbi;rw[Array.getD_eq_getD_getElem?,ih e.on hlt (by omega)];simp
     rw[hr] at this;cases this
    rfl
 have hkl:k=acts.length:=by
  rcases Nat.lt_or_ge k acts.length with h |h
  ·have h1:=hacts _ (List.getElem_mem h)
   have h2:=(hm k _ (List.getElem?_eq_getElem h)).1 (hall (acts[k]+1) _ (by omega) h1);omega
  omega
 subst hkl;exact done xs w hS (λi hi=>hx i hi (hall (i+1) i (by omega) hi))
theorem Zf (acts:List Nat)(frame:(Nat->Value)->Act)(R:Nat->Value->Prop)(S:Nat->World->Prop){id:Nat}{a:Act}{w:World}(hm:P.follows .mixedOrders=true)
 (hchain:(List.range acts.length).all (λm=>match acts[m]?,acts[m+1]? with
  |some j,some i=>Ob .any ops i j
  |_,_=>true)=true) (hnd:decide acts.Nodup=true) (hacts:acts.all (λi=>decide (i<ops.size))=true)
 (hops:ops.toList.zipIdx.all (λp=>p.1.after.all λe=> !Region.binds .any e||decide (e.on<p.2))=true)
 (xs0:Nat->Value) (ha:a=frame xs0) (hw:S 0 w.drew)
 (step:∀i xs w k,i<ops.size->i∉acts->S k w->(∀j,Ob .any ops i j=true->R j (xs j))->wpOp P ops Q i (Gq frame R (S k) xs i) (frame xs) w)
 (act:∀m i xs w,acts[m]? =some i->S m w->(∀j,Ob .any ops i j=true->R j (xs j))->wpOp P ops Q i (Gq frame R (S (m+1)) xs i) (frame xs) w)
 (done:∀xs w,S acts.length w->(∀i,i<ops.size->R i (xs i))->Q .normal (frame xs) w):(Code.region id ops true).wp P Q a w:=by
 subst ha;refine wp_region_any hm (Aba acts frame R S step act done ?_ (of_decide_eq_true hnd) ?_ ?_ xs0 _ hw)
 ·intro m i j hj hi
  rw[List.all_eq_true] at hchain;have h:=hchain m (by
   rw[List.mem_range];exact(List.getElem?_eq_some_iff.1 hj).1)
  rw[hj,hi] at h;exact h
 ·intro i hi
  rw[List.all_eq_true] at hacts
  simpa using hacts i hi
 intro i hi o ho e he hbi;rw[List.all_eq_true] at hops;have h:=hops (o,i) (by
  rw[List.mem_zipIdx_iff_getElem?]
  simpa using ho)
 rw[Array.all_eq_true_iff_forall_mem] at h;have h':=h e he;rw[hbi] at h'
 simpa using h'
end
end
section
open Go.RowKit Ar
def LiesP (w:World)(P:Nat->Prop)(A:Option Addr)(vs:List Value):Prop:=
 vs=[]\/∃b off,A=some ⟨b,off,none⟩/\P b/\∀i v,vs[i]? =some v->w.cell? ⟨b,off+i,none⟩=some v
theorem Lies.p {w:World}{B:Nat}{A:Option Addr}{vs:List Value}(h:Lies w B A vs):LiesP w (· <B) A vs:=h
theorem LiesP.lies {w:World}{P:Nat->Prop}{B:Nat}{A:Option Addr}{vs:List Value}(h:LiesP w P A vs)(hP:∀b,P b->b<B):Lies w B A vs:=by
 rcases h with h |⟨b,off,hA,hb,hc⟩
 ·exact .inl h
 exact .inr ⟨b,off,hA,hP _ hb,hc⟩
theorem LiesP.keep {w w':World}{P P':Nat->Prop}{A:Option Addr}{vs:List Value}(h:LiesP w P A vs)(hk:∀p:Addr,P p.block->w'.cell? p=w.cell? p)(hP:∀b,P b->P' b):LiesP w' P' A vs:=by
 rcases h with h |⟨b,off,hA,hb,hc⟩
 ·exact .inl h
 exact .inr ⟨b,off,hA,hP _ hb,λi v hv=>(hk ⟨b,off+i,none⟩ hb).trans (hc i v hv)⟩
mutual
def IsArrP (w:World)(P:Nat->Prop):Te->List Value->Prop
 | .mk S shape cells,vs=>∃A c A' c' us,vs=[.int .u64 (S:Int),.slice A shape.length c,.slice A' cells.length c']/\S<18446744073709551616/\Fits shape.length c 8/\Fits cells.length c' 104/\Jd shape/\
  LiesP w P A (Sa shape)/\LiesP w P A' us/\IsCelsP w P cells us
def IsCelsP (w:World)(P:Nat->Prop):List Fg->List Value->Prop
 | [],vs=>vs=[]
 |c::r,vs=>∃u t,vs=u++t/\IsCelP w P c u/\IsCelsP w P r t
def IsCelP (w:World)(P:Nat->Prop):Fg->List Value->Prop
 | .mk L kind neg top bot ch ins,vs=>∃A c A' c' A'' c'' us,vs=[.int .u64 (L:Int),.int .i64 kind,.bool neg,.slice A top.length c,.slice A' bot.length c',.int .i64 ch,.slice A'' ins.length c'']/\
  L<18446744073709551616/\Fits top.length c 4/\Fits bot.length c' 4/\Fits ins.length c'' 56/\Jd [kind,ch]/\Eaa top/\Eaa bot/\LiesP w P A (Ei top)/\LiesP w P A' (Ei bot)/\LiesP w P A'' us/\IsArrsP w P ins us/\(A=none->c=0)/\(A'=none->c'=0)
def IsArrsP (w:World)(P:Nat->Prop):List Te->List Value->Prop
 | [],vs=>vs=[]
 |a::r,vs=>∃u t,vs=u++t/\IsArrP w P a u/\IsArrsP w P r t
end
mutual
theorem IsArrP.keep {w w':World}{P P':Nat->Prop}(hk:∀p:Addr,P p.block->w'.cell? p=w.cell? p)(hP:∀b,P b->P' b):∀(a:Te) (vs:List Value),IsArrP w P a vs->IsArrP w' P' a vs
 | .mk S shape cells,vs,h=>by
  rw[IsArrP] at h⊢;obtain⟨A,c,A',c',us,h1,h2,h3,h4,h5,h6,h7,h8⟩:=h;exact⟨A,c,A',c',us,h1,h2,h3,h4,h5,h6.keep hk hP,h7.keep hk hP,IsCelsP.keep hk hP cells us h8⟩
theorem IsCelsP.keep {w w':World}{P P':Nat->Prop}(hk:∀p:Addr,P p.block->w'.cell? p=w.cell? p)(hP:∀b,P b->P' b):∀(a:List Fg) (vs:List Value),IsCelsP w P a vs->IsCelsP w' P' a vs
 | [],vs,h=>by rw[IsCelsP] at h⊢;exact h
 |c::r,vs,h=>by
  rw[IsCelsP] at h⊢;obtain⟨u,t,h1,h2,h3⟩:=h;exact⟨u,t,h1,IsCelP.keep hk hP c u h2,IsCelsP.keep hk hP r t h3⟩
theorem IsCelP.keep {w w':World}{P P':Nat->Prop}(hk:∀p:Addr,P p.block->w'.cell? p=w.cell? p)(hP:∀b,P b->P' b):∀(a:Fg) (vs:List Value),IsCelP w P a vs->IsCelP w' P' a vs
 | .mk L kind neg top bot ch ins,vs,h=>by
  rw[IsCelP] at h⊢;obtain⟨A,c,A',c',A2,c2,us,h1,h2,h3,h4,h5,h6,h7,h8,h9,h10,h11,h12⟩:=h;exact⟨A,c,A',c',A2,c2,us,h1,h2,h3,h4,h5,h6,h7,h8,h9.keep hk hP,h10.keep hk hP,h11.keep hk hP,IsArrsP.keep hk hP ins us h12.1,h12.2⟩
theorem IsArrsP.keep {w w':World}{P P':Nat->Prop}(hk:∀p:Addr,P p.block->w'.cell? p=w.cell? p)(hP:∀b,P b->P' b):∀(a:List Te) (vs:List Value),IsArrsP w P a vs->IsArrsP w' P' a vs
 | [],vs,h=>by rw[IsArrsP] at h⊢;exact h
 |c::r,vs,h=>by
  rw[IsArrsP] at h⊢;obtain⟨u,t,h1,h2,h3⟩:=h;exact⟨u,t,h1,IsArrP.keep hk hP c u h2,IsArrsP.keep hk hP r t h3⟩
end
mutual
theorem IsArr.p {w:World}{B:Nat}:∀(a:Te) (vs:List Value),IsArr w B a vs->IsArrP w (· <B) a vs
 | .mk S shape cells,vs,h=>by
  rw[IsArr] at h;rw[IsArrP];obtain⟨A,c,A',c',us,h1,h2,h3,h4,h5,h6,h7,h8⟩:=h;exact⟨A,c,A',c',us,h1,h2,h3,h4,h5,h6,h7,IsCels.p cells us h8⟩
theorem IsCels.p {w:World}{B:Nat}:∀(a:List Fg) (vs:List Value),IsCels w B a vs->IsCelsP w (· <B) a vs
 | [],vs,h=>by rw[IsCels] at h;rw[IsCelsP];exact h
 |c::r,vs,h=>by
  rw[IsCels] at h;rw[IsCelsP];obtain⟨u,t,h1,h2,h3⟩:=h;exact⟨u,t,h1,IsCel.p c u h2,IsCels.p r t h3⟩
theorem IsCel.p {w:World}{B:Nat}:∀(a:Fg) (vs:List Value),IsCel w B a vs->IsCelP w (· <B) a vs
 | .mk L kind neg top bot ch ins,vs,h=>by
  rw[IsCel] at h;rw[IsCelP];obtain⟨A,c,A',c',A2,c2,us,h1,h2,h3,h4,h5,h6,h7,h8,h9,h10,h11,h12⟩:=h;exact⟨A,c,A',c',A2,c2,us,h1,h2,h3,h4,h5,h6,h7,h8,h9,h10,h11,IsArrs.p ins us h12.1,h12.2⟩
theorem IsArrs.p {w:World}{B:Nat}:∀(a:List Te) (vs:List Value),IsArrs w B a vs->IsArrsP w (· <B) a vs
 | [],vs,h=>by rw[IsArrs] at h;rw[IsArrsP];exact h
 |c::r,vs,h=>by
  rw[IsArrs] at h;rw[IsArrsP];obtain⟨u,t,h1,h2,h3⟩:=h;exact⟨u,t,h1,IsArr.p c u h2,IsArrs.p r t h3⟩
end
mutual
theorem IsArrP.is {w:World}{P:Nat->Prop}{B:Nat}(hP:∀b,P b->b<B):∀(a:Te) (vs:List Value),IsArrP w P a vs->IsArr w B a vs
 | .mk S shape cells,vs,h=>by
  rw[IsArrP] at h;rw[IsArr];obtain⟨A,c,A',c',us,h1,h2,h3,h4,h5,h6,h7,h8⟩:=h;exact⟨A,c,A',c',us,h1,h2,h3,h4,h5,h6.lies hP,h7.lies hP,IsCelsP.is hP cells us h8⟩
theorem IsCelsP.is {w:World}{P:Nat->Prop}{B:Nat}(hP:∀b,P b->b<B):∀(a:List Fg) (vs:List Value),IsCelsP w P a vs->IsCels w B a vs
 | [],vs,h=>by rw[IsCelsP] at h;rw[IsCels];exact h
 |c::r,vs,h=>by
  rw[IsCelsP] at h;rw[IsCels];obtain⟨u,t,h1,h2,h3⟩:=h;exact⟨u,t,h1,IsCelP.is hP c u h2,IsCelsP.is hP r t h3⟩
theorem IsCelP.is {w:World}{P:Nat->Prop}{B:Nat}(hP:∀b,P b->b<B):∀(a:Fg) (vs:List Value),IsCelP w P a vs->IsCel w B a vs
 | .mk L kind neg top bot ch ins,vs,h=>by
  rw[IsCelP] at h;rw[IsCel];obtain⟨A,c,A',c',A2,c2,us,h1,h2,h3,h4,h5,h6,h7,h8,h9,h10,h11,h12⟩:=h;exact⟨A,c,A',c',A2,c2,us,h1,h2,h3,h4,h5,h6,h7,h8,h9.lies hP,h10.lies hP,h11.lies hP,IsArrsP.is hP ins us h12.1,h12.2⟩
theorem IsArrsP.is {w:World}{P:Nat->Prop}{B:Nat}(hP:∀b,P b->b<B):∀(a:List Te) (vs:List Value),IsArrsP w P a vs->IsArrs w B a vs
 | [],vs,h=>by rw[IsArrsP] at h;rw[IsArrs];exact h
 |c::r,vs,h=>by
  rw[IsArrsP] at h;rw[IsArrs];obtain⟨u,t,h1,h2,h3⟩:=h;exact⟨u,t,h1,IsArrP.is hP c u h2,IsArrsP.is hP r t h3⟩
end
theorem IsCelsP.snoc {w:World}{P:Nat->Prop}:∀{cs:List Fg} {vs:List Value} (h:IsCelsP w P cs vs) {c:Fg} {u:List Value} (hc:IsCelP w P c u),IsCelsP w P (cs++[c]) (vs++u)
 | [],vs,h,c,u,hc=>by
  rw[IsCelsP] at h;subst h;show IsCelsP w P [c] _;rw[IsCelsP];exact⟨u,[],by simp,hc,by rw[IsCelsP]⟩
 |x::r,vs,h,c,u,hc=>by
  rw[IsCelsP] at h;obtain⟨u',t,rfl,h2,h3⟩:=h;show IsCelsP w P (x::(r++[c])) _;rw[IsCelsP];exact⟨u',t++u,by simp,h2,h3.snoc hc⟩
theorem IsArrsP.snoc {w:World}{P:Nat->Prop}:∀{cs:List Te} {vs:List Value} (h:IsArrsP w P cs vs) {c:Te} {u:List Value} (hc:IsArrP w P c u),IsArrsP w P (cs++[c]) (vs++u)
 | [],vs,h,c,u,hc=>by
  rw[IsArrsP] at h;subst h;show IsArrsP w P [c] _;rw[IsArrsP];exact⟨u,[],by simp,hc,by rw[IsArrsP]⟩
 |x::r,vs,h,c,u,hc=>by
  rw[IsArrsP] at h;obtain⟨u',t,rfl,h2,h3⟩:=h;show IsArrsP w P (x::(r++[c])) _;rw[IsArrsP];exact⟨u',t++u,by simp,h2,h3.snoc hc⟩
theorem IsArrP.len {w:World}{P:Nat->Prop}{a:Te}{vs:List Value}(h:IsArrP w P a vs):vs.length=3:=by
 cases a;rw[IsArrP] at h;obtain⟨A,c,A',c',us,rfl,_⟩:=h;rfl
theorem IsArrP.form {w:World}{P:Nat->Prop}{a:Te}{vs:List Value}(h:IsArrP w P a vs):∃(S:Nat) (A:Option Addr) (n c:Nat) (A':Option Addr) (n' c':Nat),vs=[.int .u64 (S:Int),.slice A n c,.slice A' n' c']:=by
 cases a;rw[IsArrP] at h;obtain⟨A,c,A',c',us,rfl,_⟩:=h;exact⟨_,_,_,_,_,_,_,rfl⟩
def POut (B lo:Nat)(w:World)(V:Value)(b:Nat):Prop:=b<B\/(lo<=b/\b<w.heap.size/\V.ownBlock≠some b)
theorem POut.step {B lo H g n cap:Nat}{w w':World}{V:Value}(hs:w.heap.size<=w'.heap.size)(hat:V.ownBlock=some g\/g=H)(hH:w.heap.size<=H){b:Nat}(h:POut B lo w V b):POut B lo w' (.slice (some ⟨g,0,none⟩) n cap) b:=by
 rcases h with h |⟨h1,h2,h3⟩
 ·exact .inl h
 refine .inr ⟨h1,by omega,?_⟩;show some g≠some b;rintro e;injection e with e
 subst e;rcases hat with h4 |h4
 ·exact h3 h4
 omega
theorem POut.new {B lo H g n cap s2:Nat}{w w':World}{V:Value}(hlo:lo<=w.heap.size)(hs:s2<=w'.heap.size)(hat:V.ownBlock=some g\/g=H)(hH:s2<=H)(hown:∀x,V.ownBlock=some x->x<w.heap.size){b:Nat}(h:b<B\/(w.heap.size<=b/\b<s2)):POut B lo w' (.slice (some ⟨g,0,none⟩) n cap) b:=by
 rcases h with h |⟨h1,h2⟩
 ·exact .inl h
 refine .inr ⟨by omega,by omega,?_⟩;show some g≠some b;rintro e;injection e with e
 subst e;rcases hat with h4 |h4
 ·have:=hown _ h4;omega
 omega
theorem LiesP.of_own {w:World}{base:Nat}{e:TypeId}{size n c:Nat}{A:Option Addr}{xs:List Value}(h:w.ownsRow base e size (.slice A n c) n xs):LiesP w (λb=>base<=b/\b<w.heap.size) A xs:=by
 rcases Lies.of_own h with h1 |⟨b,off,hA,hb,hc⟩
 ·exact .inl h1
 refine .inr ⟨b,off,hA,⟨?_,hb⟩,hc⟩;exact(h.lt b (by rw[hA];rfl)).1
end
end Go.Proofs.YtceplkpjnebnfaaGreatDoor
namespace Pr
open Tr Tk
def K9 (t:Tree):Prop:=kind t=9->kids t≠[]
theorem Ee {α β:Type}{x:Res α}{k:α->List Tok->Res β}{p:β×List Tok}(h:bnd x k=some (some p)):∃a T,x=some (some (a,T))/\k a T=some (some p):=by
 cases x with
 |none=>cases h
 |some o=>
  cases o with
  |none=>cases h
  |some q=>exact⟨q.1,q.2,rfl,h⟩
theorem Mf {α:Type}{a b:α}{T U:List Tok}(h:ret a T=some (some (b,U))):a=b/\T=U:=by
 unfold ret at h;injection h with h
 injection h with h
 injection h with h1 h2
 exact⟨h1,h2⟩
structure Pqa (f:Nat):Prop where
 expr:∀T t U,expr f T=some (some (t,U))->K9 t
 behind:∀T t U,behind f T=some (some (t,U))->K9 t
 arrs:∀T l U,arrs f T=some (some (l,U))->∀t∈l,K9 t
 arr:∀T t U,arr f T=some (some (t,U))->K9 t
 more:∀a T t U,K9 a->more f a T=some (some (t,U))->K9 t
 alone:∀T t U,alone f T=some (some (t,U))->K9 t
theorem Df {k o:Int}{m:List UInt8}{l:List Tree}(h:k≠9\/l≠[]):K9 (node k o m l):=by
 intro e;have e':k=9:=e;rcases h with h |h
 ·exact absurd e' h
 exact h
theorem Ama {t:Tok}{e:Tree}(h:leaf t=some e):K9 e:=by
 unfold leaf at h;have key:∀{c:Prop} [Decidable c] {a b:Option Tree},(c->a=some e->K9 e)->(¬c->b=some e->K9 e)->(if c then a else b)=some e->K9 e:=by
  intro c _ a b h1 h2 h;by_cases hc:c
  ·rw[if_pos hc] at h;exact h1 hc h
  rw[if_neg hc] at h;exact h2 hc h
 revert h
 refine key (λ_ h=>?_) (λ_=>key (λ_ h=>?_) (λ_=>key (λ_ h=>?_) (λ_=>key (λ_ h=>?_) (λ_=>key (λ_ h=>?_) (λ_=>key (λ_ h=>?_) (λ_=>key (λ_ h=>?_) (λ_ h=>?_)))))))
 ·injection h with h;subst h;intro e;cases (show(1:Int)=9 from e)
 ·injection h with h;subst h;intro e;cases (show(2:Int)=9 from e)
 ·injection h with h;subst h;exact Df (.inl (by decide))
 ·injection h with h;subst h;exact Df (.inl (by decide))
 ·injection h with h;subst h;exact Df (.inl (by decide))
 ·injection h with h;subst h;exact Df (.inl (by decide))
 ·injection h with h;subst h;exact Df (.inl (by decide))
 cases h
theorem k9_strand {l:List Tree}(h:∀t∈l,K9 t):K9 (strandT l):=by
 unfold strandT
 split
 ·exact h _ (by simp)
 exact Df (.inl (by decide))
theorem Xna {a e:Tree}:K9 (set a e):=by
 unfold set
 split
 ·exact Df (.inl (by decide))
 split
 all_goals
  exact Df (.inl (by decide))
theorem nine:∀f,Pqa f
 | 0=>⟨λ_ _ _ h=>(by cases h),λ_ _ _ h=>(by cases h),λ_ _ _ h=>(by cases h),λ_ _ _ h=>(by cases h),λ_ _ _ _ _ h=>(by cases h),λ_ _ _ h=>(by cases h)⟩
 |f+1=>by
  have ih:=nine f;refine⟨λT t U h=>?_,λT t U h=>?_,λT l U h=>?_,λT t U h=>?_,λa T t U ha h=>?_,λT t U h=>?_⟩
  ·rw[Pr.expr] at h
   by_cases hb:begA T=true
   ·rw[if_pos hb] at h;exact ih.behind _ _ _ h
   rw[if_neg hb] at h;obtain⟨g,V,_,h⟩:=Ee h;obtain⟨e,X,_,h⟩:=Ee h;rw[<-(Mf h).1];exact Df (.inl (by decide))
  ·rw[Pr.behind] at h
   obtain⟨l,V,h1,h⟩:=Ee h;by_cases hc:target (strandT l)=true/\gl V 0=8592
   ·rw[if_pos hc] at h
    obtain⟨e,X,_,h⟩:=Ee h;rw[<-(Mf h).1];exact Xna
   rw[if_neg hc] at h;by_cases hb:begF V=true
   ·rw[if_pos hb] at h
    obtain⟨g,X,_,h⟩:=Ee h;by_cases hd:kind (strandT l)=3/\gl X 0=8592
    ·rw[if_pos hd] at h
     obtain⟨e,Y,_,h⟩:=Ee h;rw[<-(Mf h).1];exact Df (.inl (by decide))
    rw[if_neg hd] at h;obtain⟨e,Y,_,h⟩:=Ee h;rw[<-(Mf h).1];exact Df (.inl (by decide))
   rw[if_neg hb] at h;rw[<-(Mf h).1];exact k9_strand (ih.arrs _ _ _ h1)
  ·rw[Pr.arrs] at h
   by_cases hb:begA T=true
   ·rw[if_pos hb] at h
    obtain⟨a,V,h1,h⟩:=Ee h;obtain⟨l',X,h2,h⟩:=Ee h;rw[<-(Mf h).1];intro t ht;rcases List.mem_cons.1 ht with rfl |ht
    ·exact ih.arr _ _ _ h1
    exact ih.arrs _ _ _ h2 t ht
   rw[if_neg hb] at h;rw[<-(Mf h).1];intro t ht;cases ht
  ·rw[Pr.arr] at h
   obtain⟨a,V,h1,h⟩:=Ee h;exact ih.more _ _ _ _ (ih.alone _ _ _ h1) h
  ·rw[Pr.more] at h
   by_cases hc:gl T 0=91
   ·rw[if_pos hc] at h
    obtain⟨l,V,_,h⟩:=Ee h;by_cases hd:gl V 0=93
    ·rw[if_pos hd] at h
     exact ih.more _ _ _ _ (Df (.inr (by simp))) h
    rw[if_neg hd] at h;cases h
   rw[if_neg hc] at h;rw[<-(Mf h).1];exact ha
  rw[Pr.alone] at h;by_cases hb:begA T=true
  ·rw[if_pos hb] at h
   cases hl:leaf (T.getD 0 none_) with
   |some e=>
    rw[hl] at h;rw[<-(Mf h).1];exact Ama hl
   |none=>
    rw[hl] at h;obtain⟨e,V,h1,h⟩:=Ee h;by_cases hd:gl V 0=41
    ·rw[if_pos hd] at h
     rw[<-(Mf h).1];exact ih.expr _ _ _ h1
    rw[if_neg hd] at h;cases h
  rw[if_neg hb] at h;cases h
end Pr
namespace Go
theorem Zm {P:Program}(w:World)(t u ty e:TypeId)(k k':IntKind)(i:TypeInfo)(z:Value)(ht:P.underlying t=some (.slice e))(hu:P.underlying u=some (.int k))(hi:P.info? e=some i)(hz:i.zero=some z)
 (n:Nat) (h0:0<n) (hw:IntKind.i64.wrap (n:Int)=n) (hs:n*i.size≠0) (h63:(n:Int)<=9223372036854775807) (h48:n*i.bytes<=281474976710656):
 (Builtin.append_ #[t,u] ty #[.slice none 0 0,.int k' n]).run P w=
  .ok (.slice (some ⟨w.heap.size,0,none⟩) n (grownCap w n 0 e)) (w.drew.alloc (.cells (Builtin.zeroCells z.cells n++Builtin.zeroCells z.cells (grownCap w n 0 e-n)) e)):=by
 have hn:n≠0:=by omega
 have h63':¬(9223372036854775807<(n:Int)):=by omega
 have h48':¬(281474976710656<Builtin.nextslicecap n 0*i.bytes):=by rw[nextslicecap_zero h0];omega
 have hneg:¬((n:Int)<0):=by omega
 have h48'':¬((281474976710656:Int)<(n:Int)*(i.bytes:Int)):=by
  rw[<-Int.natCast_mul];generalize n*i.bytes=q at h48;omega
 simp[Builtin.append_,run_underlying ht,run_underlying hu,sizeOf,typeInfo,zeroValue,hi,hz,asInt,asIntOf,hw,hneg,h48'',hn,h63',h48',hs,Question.forced,run_firstCells_none,newRow,grownCap]
theorem T0 {P:Program}(w:World)(base:Nat)(t u ty e:TypeId)(k k':IntKind)(i:TypeInfo)(z:Value)(size bytes:Nat)(ht:P.underlying t=some (.slice e))(hu:P.underlying u=some (.int k))(hi:P.info? e=some i)(hz:i.zero=some z)
 (hsize:i.size=size) (hby:i.bytes=bytes) (hzs:z.cells.size=size) (hsz:0<size) (n:Nat) (h0:0<n) (h63:n<=maxLen) (h48:n*bytes<=281474976710656) (hbase:base<=w.heap.size):
 ∃cap w',(Builtin.append_ #[t,u] ty #[.slice none 0 0,.int k' n]).run P w= .ok (.slice (some ⟨w.heap.size,0,none⟩) n cap) w'/\n<=cap/\cap<=maxLen/\w'.ownsRow base e size (.slice (some ⟨w.heap.size,0,none⟩) 0 cap) 0 []/\w.grownBy w' none:=by
 subst hsize;subst hby
 have hn63:n<=9223372036854775807:=by simp only[maxLen] at h63;omega
 have hw:IntKind.i64.wrap (n:Int)=n:=by
  unfold IntKind.wrap;simp[IntKind.bits,IntKind.signed];omega
 have hr:=Zm w t u ty e k k' i z ht hu hi hz n h0 hw (Nat.mul_ne_zero (by omega) (by omega)) (by omega) h48;have hge:=grownCap_ge w n 0 e;have hcm:=grownCap_le_maxLen w n 0 e h63;refine⟨_,_,hr,hge,hcm,⟨by simp,.inr ⟨w.heap.size,_,_,rfl,hbase,heap_alloc_new w.drew _,by omega,hcm,?_,by simp⟩⟩,⟨rfl,rfl,rfl,by simp,λj hj _=>by first|exact heap_alloc_old w.drew _ j hj |exact heap_alloc_old w.drew _ hj⟩⟩;simp only[Array.size_append,size_zeroCells,hzs,<-Nat.add_mul]
 congr 1
 omega
theorem Pt {P:Program}{w:World}{ops:Array Oper}{rest:List Oper}{o:Oper}{a:Act}{Q:Exit->Act->World->Prop}(hgd:o.guard=none)(s x:Operand)(t u:TypeId)
 (ho:o.op= .call {callee:= .builtin .append,args:= #[s,x],argTypes:= #[t,u]})
 (base:Nat) (e:TypeId) (k k':IntKind) (i:TypeInfo) (z:Value) (size bytes:Nat) (ht:P.underlying t=some (.slice e)) (hu:P.underlying u=some (.int k)) (hi:P.info? e=some i) (hz:i.zero=some z)
 (hsize:i.size=size) (hby:i.bytes=bytes) (hzs:z.cells.size=size) (hsz:0<size) (n:Nat) (hs:a.eval s= .slice none 0 0) (hx:a.eval x= .int k' n)
 (h0:0<n) (h63:n<=maxLen) (h48:n*bytes<=281474976710656) (hbase:base<=w.heap.size)
 (h:∀cap w',n<=cap->cap<=maxLen->w'.ownsRow base e size (.slice (some ⟨w.heap.size,0,none⟩) 0 cap) 0 []->w.grownBy w' none->wpList P ops Q rest (a.put o.dst (.slice (some ⟨w.heap.size,0,none⟩) n cap)) w'):wpList P ops Q (o::rest) a w:=by
 refine wpList_plain hgd λK hK=>?_;obtain⟨cap,w',hr,h1,h2,h3,h4⟩:=T0 w base t u o.type e k k' i z size bytes ht hu hi hz hsize hby hzs hsz n h0 h63 h48 hbase;unfold Oper.wp execOp;simp only[ho,resolve,invoke,builtin,Sem.run_bind,Sem.run_pure,Result.andThen_ok,List.map_toArray,List.map_cons,List.map_nil,hs,hx,hr];exact hK _ _ (h cap w' h1 h2 h3 h4)
end Go
namespace Tk
open Go
theorem Ep {l:List Int}:∀{f k:Nat} {out t:List Int} {e:Nat},quote l f k out=some (t,e)->t.length+k<=out.length+e
 | 0,k,out,t,e,h=>by unfold quote at h;cases h
 |f+1,k,out,t,e,h=>by
  unfold quote at h
  split at h
  ·cases h
  split at h
  ·have:=Ep h
   rw[List.length_append] at this;simp at this;omega
  split at h
  ·injection h with h
   injection h with h1 h2
   subst h1 h2;omega
  have:=Ep h;rw[List.length_append] at this;simp at this;omega
theorem Yna {l:List Int}{i:Nat}:(read l i).1.l.length<=l.length:=by
 have hz:([]:List Int).length<=l.length:=Nat.zero_le _;unfold read;simp only
 split
 ·split
  ·exact hz
  split<;>exact hz
 split
 ·split<;>exact hz
 split
 ·split
  ·exact hz
  rename_i t e h;have h1:=Ep h;have h2:=Pk h;show t.length<=_;simp at h1;omega
 split
 ·split
  ·exact hz
  split
  ·exact hz
  split<;>exact hz
 split<;>exact hz
theorem Fp {l:List Int}:∀{f i:Nat} {out:List Tok},i<=l.length->out.length<=i->(∀t∈out,t.l.length<=l.length/\t.at_<=l.length)->(goF l f i out).1.length<=l.length/\∀t∈(goF l f i out).1,t.l.length<=l.length/\t.at_<=l.length
 | 0,i,out,h1,h2,h3=>⟨Nat.le_trans h2 h1,h3⟩
 |f+1,i,out,h1,h2,h3=>by
  unfold goF;by_cases a:l.length<=i\/l.getD i (-1)=9053
  ·rw[if_pos a]
   exact⟨Nat.le_trans h2 h1,h3⟩
  rw[if_neg a];by_cases b:cls (l.getD i (-1))=1
  ·rw[if_pos b]
   exact Fp (by omega) (by omega) h3
  rw[if_neg b];by_cases c:(read l i).2.2≠0
  ·rw[if_pos c]
   exact⟨Nat.zero_le _,λt ht=>absurd ht List.not_mem_nil⟩
  rw[if_neg c];have hr:=read_len (l:=l) (i:=i) (by omega) (by simpa using c);refine Fp (by omega) (by rw[List.length_append];simp;omega) (λt ht=>?_);rcases List.mem_append.1 ht with ht |ht
  ·exact h3 t ht
  rw[List.mem_singleton] at ht;rw[ht];exact⟨Yna,by rw[(read_ok (by simpa using c)).2];exact h1⟩
theorem Bba {l:List Int}{b:Option Nat}:(cutL l b).1.length<=l.length/\∀t∈(cutL l b).1,t.l.length<=l.length/\t.at_<=l.length:=by
 have hg:=Fp (l:=l) (f:=l.length+1) (i:=0) (out:=[]) (Nat.zero_le _) Lr (λt ht=>absurd ht List.not_mem_nil);have hz:(([]:List Tok).length<=l.length/\∀t∈([]:List Tok),t.l.length<=l.length/\t.at_<=l.length):=⟨Nat.zero_le _,λt ht=>absurd ht List.not_mem_nil⟩;unfold cutL
 split
 ·exact hz
 split
 ·exact hg
 split
 ·exact hg
 exact hz
theorem cut_small (s:ByteArray):(cut s).1.length<=s.size/\∀t∈(cut s).1,t.l.length<=s.size/\t.at_<=s.size:=by
 have h:=Bba (l:=Gl.ints (Gl.dec s 0).1) (b:=(Gl.dec s 0).2);have hd:=Gl.dec_len (s:=s) (s.size+1) 0 (by omega);have hl:(Gl.ints (Gl.dec s 0).1).length<=s.size:=by unfold Gl.ints;rw[List.length_map];omega
 exact⟨Nat.le_trans h.1 hl,λt ht=>⟨Nat.le_trans (h.2 t ht).1 hl,Nat.le_trans (h.2 t ht).2 hl⟩⟩
end Tk
namespace Tk
open Go
structure Bm (n:Rt.Nm):Prop where
 o1:Nt.Ok n.top
 o2:Nt.Ok n.bot
 t1:n.top.length<=32
 t2:n.bot.length<=32
theorem Pd:Bm Rt.none_:=⟨Nt.ok_nil,Nt.ok_nil,Nat.zero_le _,Nat.zero_le _⟩
theorem Qt (a b:Bool)(x y:Nat):Bm (Rt.mk a b x y).1:=by
 unfold Rt.mk
 split
 ·exact Pd
 split
 ·exact Pd
 next h=>exact⟨Nt.ok_digs _,Nt.ok_digs _,by show(Nt.digs _).length<=32;omega,by show(Nt.digs _).length<=32;omega⟩
theorem Iia (b:Bool)(t:List UInt8):Bm (Dg.body b t).1:=by
 unfold Dg.body
 split
 ·exact Pd
 split
 ·exact Pd
 split
 ·exact Qt _ _ _ _
 split
 ·exact Pd
 split
 ·exact Qt _ _ _ _
 split
 ·exact Qt _ _ _ _
 exact Pd
theorem Qea (t:List UInt8):Bm (Dg.parse t).1:=by
 unfold Dg.parse
 split<;>exact Iia _ _
theorem one_len (c:Nat):(Gl.one c).length<=4:=by
 rw[Gl.one_len];unfold Gl.wide
 split
 ·decide
 split
 ·decide
 split<;>decide
theorem enc_len:∀l:List Int,(enc l).length<=4*l.length
 | []=>Lr
 |c::r=>by
  have h:=enc_len r;have h1:=one_len c.toNat;have e:enc (c::r)=enc1 c++enc r:=rfl;rw[e,List.length_append,List.length_cons];have e1:(enc1 c).length=(Gl.one c.toNat).length:=by unfold enc1;simp
  omega
def Yj (l:List Int):Prop:=∀x∈l,-1<=x/\x<=1114111
structure Few (t:Tok):Prop where
 s:t.s.length<=64
 c: -1<=t.c/\t.c<=1114111
 l:Yj t.l
 n:Bm t.n
theorem Jk:Few none_:=⟨Nat.zero_le _,by decide,λ_ h=>(by cases h),Pd⟩
theorem St {l:List Int}(h:Yj l)(i:Nat): -1<=l.getD i (-1)/\l.getD i (-1)<=1114111:=by
 rcases Nat.lt_or_ge i l.length with hi |hi
 ·rw[getD_in hi];exact h _ (List.getElem_mem hi)
 rw[getD_out hi];decide
theorem Tl {l:List Int}(hl:Yj l):∀{f k:Nat} {out t:List Int} {e:Nat},Yj out->quote l f k out=some (t,e)->Yj t
 | 0,_,_,_,_,_,h=>by cases h
 |f+1,k,out,t,e,ho,h=>by
  have put:∀x:Int,-1<=x/\x<=1114111->Yj (out++[x]):=λx hx y hy=>by
   rcases List.mem_append.1 hy with h |h
   ·exact ho y h
   rw[List.mem_singleton] at h;rw[h];exact hx
  unfold quote at h
  split at h
  ·cases h
  split at h
  ·exact Tl hl (put _ (St hl _)) h
  split at h
  ·injection h with h;injection h with h _;rw[<-h];exact ho
  exact Tl hl (put 39 (by decide)) h
theorem c01 {c:Int}(h:decide (-1<=c/\c<=1114111)=true): -1<=c/\c<=1114111:=of_decide_eq_true h
theorem Jia {l:List Int}(hl:Yj l)(i:Nat):Few (read l i).1:=by
 have hc:=St hl i;unfold read;simp only
 split
 ·split
  ·exact Jk
  split
  ·exact⟨Nat.zero_le _,c01 rfl,λ_ h=>(by cases h),Qea _⟩
  exact Jk
 split
 ·split
  ·exact Jk
  refine⟨?_,c01 rfl,λ_ h=>(by cases h),Pd⟩;have h1:=enc_len ((l.drop i).take (words l i));have h2:((l.drop i).take (words l i)).length<=words l i:=by simp;omega
  show(enc _).length<=64;omega
 split
 ·split
  ·exact Jk
  rename_i t e h;exact⟨Nat.zero_le _,c01 rfl,Tl hl (λ_ h=>(by cases h)) h,Pd⟩
 split
 ·split
  ·refine⟨Nat.zero_le _,?_,λ_ h=>(by cases h),Pd⟩
   show-1<=l.getD (i+1) (-1)-48/\l.getD (i+1) (-1)-48<=1114111;omega
  split
  ·exact⟨Nat.zero_le _,c01 rfl,λ_ h=>(by cases h),Pd⟩
  split
  ·exact⟨Nat.zero_le _,c01 rfl,λ_ h=>(by cases h),Pd⟩
  exact Jk
 split
 ·exact Jk
 exact⟨Nat.zero_le _,hc,λ_ h=>(by cases h),Pd⟩
theorem Hq {l:List Int}(hl:Yj l):∀{f i:Nat} {out:List Tok},(∀t∈out,Few t)->∀t∈(goF l f i out).1,Few t
 | 0,_,_,h=>h
 |f+1,i,out,h=>by
  unfold goF
  split
  ·exact h
  split
  ·exact Hq hl h
  split
  ·exact λt ht=>by cases ht
  refine Hq hl (λt ht=>?_);rcases List.mem_append.1 ht with h1 |h1
  ·exact h t h1
  rw[List.mem_singleton] at h1;rw[h1];exact Jia hl i
theorem U0 {l:List Int}:∀{f i:Nat} {out:List Tok},i<=l.length->(goF l f i out).2.1<=l.length
 | 0,_,_,_=>Nat.zero_le _
 |f+1,i,out,h=>by
  unfold goF
  split
  ·exact Nat.zero_le _
  next h0=>
  split
  ·exact U0 (by omega)
  split
  ·exact h
  next h1=>
  have hp:=read_len (l:=l) (i:=i) (by omega) (by omega);exact U0 (by omega)
theorem Sea (s:ByteArray):Yj (Gl.ints (Gl.dec s 0).1):=λx hx=>by
 unfold Gl.ints at hx;obtain⟨c,hc,e⟩:=List.mem_map.1 hx;have h:=Gl.dec_may (s:=s) (s.size+1) 0 (by omega) c hc;have e':(c:Int)=x:=e;unfold Gl.may at h;simp at h;omega
theorem cut_few (s:ByteArray):∀t∈(cut s).1,Few t:=by
 have hc:=Sea s;unfold cut cutL;have none_in:∀t∈([]:List Tok),Few t:=λt h=>by cases h
 split
 ·exact none_in
 split
 ·exact Hq hc none_in
 split
 ·exact Hq hc none_in
 exact none_in
theorem cut_to (s:ByteArray):(cut s).2.1<=s.size:=by
 have hlen:=Gl.dec_len (s:=s) (s.size+1) 0 (by omega);have hl:(Gl.ints (Gl.dec s 0).1).length=(Gl.dec s 0).1.length:=by unfold Gl.ints;simp
 have hg:=U0 (l:=Gl.ints (Gl.dec s 0).1) (f:=(Gl.ints (Gl.dec s 0).1).length+1) (i:=0) (out:=[]) (Nat.zero_le _);unfold cut cutL
 split
 ·exact Nat.zero_le _
 split
 ·omega
 split
 ·omega
 show(Gl.ints (Gl.dec s 0).1).length<=s.size;omega
end Tk
namespace Go.Proofs.YtceplkpjnebnfaaGreatDoor
open Go.RowKit
theorem Cba {w w':World}{T e:TypeId}{B b:Nat}{bs:List Value}(h:Lib.IsBuilderF T e B b bs w)(hb:Below w.heap.size w w'):Lib.IsBuilderF T e B b bs w':=by
 have one:∀{p:Value},Lib.BuilderAtF T e B b p bs w->Lib.BuilderAtF T e B b p bs w':=λ{p} k=>by
  obtain⟨h1,v,h2,h3,h4⟩:=k;refine⟨h1,v,(hb.block b (Array.getElem?_eq_some_iff.1 h2).1).trans h2,⟨h3.1,?_⟩,h4⟩;rcases h3.2 with h0 |⟨g,cap,cur,fz,e1,e2,e3,r⟩
  ·exact .inl h0
  exact .inr ⟨g,cap,cur,fz,e1,e2,(hb.block g (Array.getElem?_eq_some_iff.1 e3).1).trans e3,r⟩
 exact h.imp one one
theorem Kia (w:World):Lib.IsBuilderF 42 5 w.heap.size w.heap.size (Lib.byteCells []) (w.alloc (.cells #[.pointer none,.slice none 0 0] 42)):=
 Lib.IsBuilderF.of (.inl ⟨Lr,.slice none 0 0,heap_alloc_new w _,World.ownsRow_nil _ _ _ _,by simp[Value.ownBlock]⟩)
end Go.Proofs.YtceplkpjnebnfaaGreatDoor
namespace Go.Proofs
open Go.Shelf
def Rf:Go.Shelf.Ren:=⟨λ | 167=>69 | 240=>65 | 276=>119 |n=>n,λ | 0=>0 | 4=>4 | 5=>5 | 9=>9 | 20=>20 | 37=>40 | 70=>39 | 72=>42 | 75=>67 | 80=>44 | 164=>116 |n=>n,λ |n=>n⟩
theorem Ji:Go.Proofs.Lays.n167 Tryz.prog Rf:={
 mixed:=by kernel_rfl
 f167:=Tryz.func69.trans (congrArg some (by kernel_rfl))
 f240:=Tryz.func65.trans (congrArg some (by kernel_rfl))
 f276:=Tryz.func119.trans (congrArg some (by kernel_rfl))
 t0:=Tryz.underlying0
 a0:=Tryz.isAgg0
 z0:=Tryz.sizeOf0
 v0:=Tryz.zeroValue0
 t4:=Tryz.underlying4
 a4:=Tryz.isAgg4
 z4:=Tryz.sizeOf4
 v4:=Tryz.zeroValue4
 t5:=Tryz.underlying5
 a5:=Tryz.isAgg5
 z5:=Tryz.sizeOf5
 v5:=Tryz.zeroValue5
 t9:=Tryz.underlying9
 a9:=Tryz.isAgg9
 z9:=Tryz.sizeOf9
 v9:=Tryz.zeroValue9
 t20:=Tryz.underlying20
 a20:=Tryz.isAgg20
 z20:=Tryz.sizeOf20
 v20:=Tryz.zeroValue20
 t37:=Tryz.underlying40
 a37:=Tryz.isAgg40
 z37:=Tryz.sizeOf40
 v37:=Tryz.zeroValue40
 t70:=Tryz.underlying39
 a70:=Tryz.isAgg39
 z70:=Tryz.sizeOf39
 v70:=Tryz.zeroValue39
 t72:=Tryz.underlying42
 a72:=Tryz.isAgg42
 z72:=Tryz.sizeOf42
 v72:=Tryz.zeroValue42
 t75:=Tryz.underlying67
 a75:=Tryz.isAgg67
 z75:=Tryz.sizeOf67
 v75:=Tryz.zeroValue67
 t164:=Tryz.underlying116
 a164:=Tryz.isAgg116
 z164:=Tryz.sizeOf116
 v164:=Tryz.zeroValue116}
theorem Bi:Builder.Extra Tryz.prog Rf:={
 sizeBuilder:=by kernel_rfl
 liesBuilder:=by kernel_rfl
 t5:=Tryz.underlying5
 a5:=Tryz.isAgg5
 z5:=Tryz.sizeOf5
 v5:=Tryz.zeroValue5
 infoByte:=by kernel_rfl
 cellsByte:=by kernel_rfl
 sizeByte:=by kernel_rfl
 neB5:=by decide}
def Sf:Go.Shelf.Ren:=⟨λ | 168=>40 | 240=>65 | 242=>70 | 276=>119 | 278=>128 |n=>n,λ | 0=>0 | 3=>3 | 4=>4 | 5=>5 | 9=>9 | 20=>20 | 21=>21 | 37=>40 | 46=>132 | 51=>90 | 70=>39 | 72=>42 | 75=>67 | 80=>44 | 164=>116 |n=>n,λ |n=>n⟩
theorem Ki:Go.Proofs.Lays.n168 Tryz.prog Sf:={
 mixed:=by kernel_rfl
 f168:=Tryz.func40.trans (congrArg some (by kernel_rfl))
 f240:=Tryz.func65.trans (congrArg some (by kernel_rfl))
 f242:=Tryz.func70.trans (congrArg some (by kernel_rfl))
 f276:=Tryz.func119.trans (congrArg some (by kernel_rfl))
 f278:=Tryz.func128.trans (congrArg some (by kernel_rfl))
 t0:=Tryz.underlying0
 a0:=Tryz.isAgg0
 z0:=Tryz.sizeOf0
 v0:=Tryz.zeroValue0
 t3:=Tryz.underlying3
 a3:=Tryz.isAgg3
 z3:=Tryz.sizeOf3
 v3:=Tryz.zeroValue3
 t4:=Tryz.underlying4
 a4:=Tryz.isAgg4
 z4:=Tryz.sizeOf4
 v4:=Tryz.zeroValue4
 t5:=Tryz.underlying5
 a5:=Tryz.isAgg5
 z5:=Tryz.sizeOf5
 v5:=Tryz.zeroValue5
 t9:=Tryz.underlying9
 a9:=Tryz.isAgg9
 z9:=Tryz.sizeOf9
 v9:=Tryz.zeroValue9
 t20:=Tryz.underlying20
 a20:=Tryz.isAgg20
 z20:=Tryz.sizeOf20
 v20:=Tryz.zeroValue20
 t21:=Tryz.underlying21
 a21:=Tryz.isAgg21
 z21:=Tryz.sizeOf21
 v21:=Tryz.zeroValue21
 t37:=Tryz.underlying40
 a37:=Tryz.isAgg40
 z37:=Tryz.sizeOf40
 v37:=Tryz.zeroValue40
 t46:=Tryz.underlying132
 a46:=Tryz.isAgg132
 z46:=Tryz.sizeOf132
 v46:=Tryz.zeroValue132
 t51:=Tryz.underlying90
 a51:=Tryz.isAgg90
 z51:=Tryz.sizeOf90
 v51:=Tryz.zeroValue90
 t70:=Tryz.underlying39
 a70:=Tryz.isAgg39
 z70:=Tryz.sizeOf39
 v70:=Tryz.zeroValue39
 t72:=Tryz.underlying42
 a72:=Tryz.isAgg42
 z72:=Tryz.sizeOf42
 v72:=Tryz.zeroValue42
 t75:=Tryz.underlying67
 a75:=Tryz.isAgg67
 z75:=Tryz.sizeOf67
 v75:=Tryz.zeroValue67
 t164:=Tryz.underlying116
 a164:=Tryz.isAgg116
 z164:=Tryz.sizeOf116
 v164:=Tryz.zeroValue116}
theorem Ci:Builder.Extra Tryz.prog Sf:={
 sizeBuilder:=by kernel_rfl
 liesBuilder:=by kernel_rfl
 t5:=Tryz.underlying5
 a5:=Tryz.isAgg5
 z5:=Tryz.sizeOf5
 v5:=Tryz.zeroValue5
 infoByte:=by kernel_rfl
 cellsByte:=by kernel_rfl
 sizeByte:=by kernel_rfl
 neB5:=by decide}
end Go.Proofs
namespace Pr
open Tr Tk
def Ev {α:Type}(F:Nat->Res α)(a:α)(U:List Tok):Prop:=∃f,F f=some (some (a,U))
theorem Lia {α:Type}{F:Nat->Res α}(h:∀f,Le (F f) (F (f+1))){f g:Nat}{r:Option (α×List Tok)}(hf:F f=some r)(hg:f<=g):F g=some r:=by
 induction g with
 |zero=>
  obtain rfl:f=0:=by omega
  exact hf
 |succ g ih=>
  by_cases e:f=g+1
  ·subst e;exact hf
  exact h g r (ih (by omega))
theorem Ev.up {α:Type}{F:Nat->Res α}{a:α}{U:List Tok}(h:Ev F a U)(hm:∀f,Le (F f) (F (f+1))):∃f,∀g,f<=g->F g=some (some (a,U)):=by
 obtain⟨f,hf⟩:=h;exact⟨f,λg hg=>Lia hm hf hg⟩
theorem Tb {α β:Type}(a:α)(T:List Tok)(k:α->List Tok->Res β):bnd (some (some (a,T))) k=k a T:=rfl
theorem We {T U:List Tok}{t:Tree}(h:begA T=true)(h1:Ev (λf=>behind f T) t U):Ev (λf=>expr f T) t U:=by
 obtain⟨f,hf⟩:=h1;refine⟨f+1,?_⟩;show expr (f+1) T=_;rw[expr,if_pos h];exact hf
theorem F6 {T U V:List Tok}{g e:Tree}(h:begA T=false)(h1:Ev (λf=>func f T) g U)(h2:Ev (λf=>expr f U) e V):Ev (λf=>expr f T) (node 11 0 [] [g,e]) V:=by
 obtain⟨f1,h1⟩:=h1.up (λf=>(mono f).func T);obtain⟨f2,h2⟩:=h2.up (λf=>(mono f).expr U);refine⟨max f1 f2+1,?_⟩;show expr (max f1 f2+1) T=_;rw[expr,if_neg (by rw[h];simp),h1 _ (by omega),Tb,h2 _ (by omega)];rfl
theorem Zn {T U:List Tok}{l:List Tree}(h1:Ev (λf=>arrs f T) l U)(h2:¬(target (strandT l)=true/\gl U 0=8592))(h3:begF U=false):Ev (λf=>behind f T) (strandT l) U:=by
 obtain⟨f,hf⟩:=h1;refine⟨f+1,?_⟩;show behind (f+1) T=_;rw[behind,show arrs f T=_ from hf,Tb,if_neg h2,if_neg (by rw[h3];simp)];rfl
theorem Rj {T U V:List Tok}{l:List Tree}{e:Tree}(h1:Ev (λf=>arrs f T) l U)(h2:target (strandT l)=true)(h3:gl U 0=8592)(h4:Ev (λf=>expr f U.tail) e V):Ev (λf=>behind f T) (set (strandT l) e) V:=by
 obtain⟨f1,h1⟩:=h1.up (λf=>(mono f).arrs T);obtain⟨f2,h4⟩:=h4.up (λf=>(mono f).expr _);refine⟨max f1 f2+1,?_⟩;show behind (max f1 f2+1) T=_;rw[behind,h1 _ (by omega),Tb,if_pos ⟨h2,h3⟩,h4 _ (by omega)];rfl
theorem Hs {T U V X:List Tok}{l:List Tree}{g e:Tree}(h1:Ev (λf=>arrs f T) l U)(h2:gl U 0≠8592)(h3:begF U=true)(h4:Ev (λf=>func f U) g V)(h5:kind (strandT l)=3)(h6:gl V 0=8592)(h7:Ev (λf=>expr f V.tail) e X):Ev (λf=>behind f T) (node 15 0 (Bc (strandT l)) [g,e]) X:=by
 obtain⟨f1,h1⟩:=h1.up (λf=>(mono f).arrs T);obtain⟨f2,h4⟩:=h4.up (λf=>(mono f).func _);obtain⟨f3,h7⟩:=h7.up (λf=>(mono f).expr _);refine⟨max f1 (max f2 f3)+1,?_⟩;show behind (max f1 (max f2 f3)+1) T=_;rw[behind,h1 _ (by omega),Tb,if_neg (λh=>h2 h.2),if_pos h3,h4 _ (by omega),Tb,if_pos ⟨h5,h6⟩,h7 _ (by omega)];rfl
theorem Ao {T U V X:List Tok}{l:List Tree}{g e:Tree}(h1:Ev (λf=>arrs f T) l U)(h2:gl U 0≠8592)(h3:begF U=true)(h4:Ev (λf=>func f U) g V)(h6:gl V 0≠8592)(h7:Ev (λf=>expr f V) e X):Ev (λf=>behind f T) (node 12 0 [] [strandT l,g,e]) X:=by
 obtain⟨f1,h1⟩:=h1.up (λf=>(mono f).arrs T);obtain⟨f2,h4⟩:=h4.up (λf=>(mono f).func _);obtain⟨f3,h7⟩:=h7.up (λf=>(mono f).expr _);refine⟨max f1 (max f2 f3)+1,?_⟩;show behind (max f1 (max f2 f3)+1) T=_;rw[behind,h1 _ (by omega),Tb,if_neg (λh=>h2 h.2),if_pos h3,h4 _ (by omega),Tb,if_neg (λh=>h6 h.2),h7 _ (by omega)];rfl
theorem Nf {T:List Tok}(h:begA T=false):Ev (λf=>arrs f T) [] T:=⟨1,by show arrs 1 T=_;rw[arrs,if_neg (by rw[h];simp)];rfl⟩
theorem Ze {T U V:List Tok}{a:Tree}{l:List Tree}(h:begA T=true)(h1:Ev (λf=>arr f T) a U)(h2:Ev (λf=>arrs f U) l V):Ev (λf=>arrs f T) (a::l) V:=by
 obtain⟨f1,h1⟩:=h1.up (λf=>(mono f).arr T);obtain⟨f2,h2⟩:=h2.up (λf=>(mono f).arrs U);refine⟨max f1 f2+1,?_⟩;show arrs (max f1 f2+1) T=_;rw[arrs,if_pos h,h1 _ (by omega),Tb,h2 _ (by omega)];rfl
theorem Tea {T U V:List Tok}{a t:Tree}(h1:Ev (λf=>alone f T) a U)(h2:Ev (λf=>more f a U) t V):Ev (λf=>arr f T) t V:=by
 obtain⟨f1,h1⟩:=h1.up (λf=>(mono f).alone T);obtain⟨f2,h2⟩:=h2.up (λf=>(mono f).more a U);refine⟨max f1 f2+1,?_⟩;show arr (max f1 f2+1) T=_;rw[arr,h1 _ (by omega),Tb,h2 _ (by omega)]
theorem Zc {T:List Tok}{a:Tree}(h:gl T 0≠91):Ev (λf=>more f a T) a T:=⟨1,by show more 1 a T=_;rw[more,if_neg h];rfl⟩
theorem Tt {T U V:List Tok}{a t:Tree}{l:List Tree}(h:gl T 0=91)(h1:Ev (λf=>places f T.tail) l U)(h2:gl U 0=93)(h3:Ev (λf=>more f (node 9 0 [] (a::l)) U.tail) t V):Ev (λf=>more f a T) t V:=by
 obtain⟨f1,h1⟩:=h1.up (λf=>(mono f).places _);obtain⟨f2,h3⟩:=h3.up (λf=>(mono f).more _ _);refine⟨max f1 f2+1,?_⟩;show more (max f1 f2+1) a T=_;rw[more,if_pos h,h1 _ (by omega),Tb,if_pos h2,h3 _ (by omega)]
def Place (T:List Tok)(p:Tree)(U:List Tok):Prop:=(gl T 0=59\/gl T 0=93)/\p=node 10 0 [] []/\U=T\/¬(gl T 0=59\/gl T 0=93)/\Ev (λf=>expr f T) p U
theorem Place.up {T U:List Tok}{p:Tree}(h:Place T p U):∃f,∀g,f<=g->(if gl T 0=59\/gl T 0=93 then ret (node 10 0 [] []) T else expr g T)=some (some (p,U)):=by
 rcases h with⟨h,rfl,rfl⟩ |⟨h,h1⟩
 ·exact⟨0,λg _=>by rw[if_pos h];rfl⟩
 obtain⟨f,hf⟩:=h1.up (λf=>(mono f).expr _);exact⟨f,λg hg=>by rw[if_neg h];exact hf g hg⟩
theorem Nv {T U V:List Tok}{p:Tree}{l:List Tree}(h:Place T p U)(h2:gl U 0=59)(h3:Ev (λf=>places f U.tail) l V):Ev (λf=>places f T) (p::l) V:=by
 obtain⟨f1,h1⟩:=h.up;obtain⟨f2,h3⟩:=h3.up (λf=>(mono f).places _);refine⟨max f1 f2+1,?_⟩;show places (max f1 f2+1) T=_;rw[places,h1 _ (by omega),Tb,if_pos h2,h3 _ (by omega)];rfl
theorem Ov {T U:List Tok}{p:Tree}(h:Place T p U)(h2:gl U 0≠59):Ev (λf=>places f T) [p] U:=by
 obtain⟨f1,h1⟩:=h.up;refine⟨f1+1,?_⟩;show places (f1+1) T=_;rw[places,h1 _ (by omega),Tb,if_neg h2];rfl
theorem Fy {x:Tok}{U:List Tok}{e:Tree}(h:begA (x::U)=true)(h1:leaf x=some e):Ev (λf=>alone f (x::U)) e U:=
 ⟨1,by show alone 1 (x::U)=_;rw[alone,if_pos h,show(x::U).getD 0 Tk.none_=x from rfl,h1];rfl⟩
theorem H6 {x:Tok}{T U:List Tok}{e:Tree}(h:begA (x::T)=true)(h1:leaf x=none)(h2:Ev (λf=>expr f T) e U)(h3:gl U 0=41):Ev (λf=>alone f (x::T)) e U.tail:=by
 obtain⟨f,hf⟩:=h2;refine⟨f+1,?_⟩;show alone (f+1) (x::T)=_;rw[alone,if_pos h,show(x::T).getD 0 Tk.none_=x from rfl,h1];show bnd (expr f T) _=_;rw[show expr f T=_ from hf,Tb,if_pos h3];rfl
theorem Q8 {T U V:List Tok}{g t:Tree}(h:gl T 0≠8728)(h1:Ev (λf=>plain f T) g U)(h2:Ev (λf=>ops f g U) t V):Ev (λf=>func f T) t V:=by
 obtain⟨f1,h1⟩:=h1.up (λf=>(mono f).plain T);obtain⟨f2,h2⟩:=h2.up (λf=>(mono f).ops g U);refine⟨max f1 f2+1,?_⟩;show func (max f1 f2+1) T=_;rw[func,if_neg h,h1 _ (by omega),Tb,h2 _ (by omega)]
theorem Gy {T U V:List Tok}{g t:Tree}(h:gl T 0=8728)(h':gl T.tail 0=46)(h1:Ev (λf=>plain f T.tail.tail) g U)(h2:Ev (λf=>ops f (node 24 0 [] [g]) U) t V):Ev (λf=>func f T) t V:=by
 obtain⟨f1,h1⟩:=h1.up (λf=>(mono f).plain _);obtain⟨f2,h2⟩:=h2.up (λf=>(mono f).ops _ U);refine⟨max f1 f2+1,?_⟩;show func (max f1 f2+1) T=_;rw[func,if_pos h,if_pos h',h1 _ (by omega),Tb,h2 _ (by omega)]
theorem Zj {T:List Tok}{g:Tree}(h:monops.contains (gl T 0)=false)(h':dyops.contains (gl T 0)=false):Ev (λf=>ops f g T) g T:=
 ⟨1,by show ops 1 g T=_;rw[ops,if_neg (by rw[h];simp),if_neg (by rw[h'];simp)];rfl⟩
theorem Dba {T V:List Tok}{g t:Tree}(h:monops.contains (gl T 0)=true)(h1:Ev (λf=>ops f (node 22 (gl T 0) [] [g]) T.tail) t V):Ev (λf=>ops f g T) t V:=by
 obtain⟨f,hf⟩:=h1;refine⟨f+1,?_⟩;show ops (f+1) g T=_;rw[ops,if_pos h];exact hf
theorem Eba {T U V:List Tok}{g k t:Tree}(h:monops.contains (gl T 0)=false)(h':dyops.contains (gl T 0)=true)(h2:gl T 0=9060\/(gl T 0=9059/\begA T.tail=true))(h3:Ev (λf=>arr f T.tail) k U)(h4:Ev (λf=>ops f (node 23 (gl T 0) [] [g,k]) U) t V):Ev (λf=>ops f g T) t V:=by
 obtain⟨f1,h3⟩:=h3.up (λf=>(mono f).arr _);obtain⟨f2,h4⟩:=h4.up (λf=>(mono f).ops _ _);refine⟨max f1 f2+1,?_⟩;show ops (max f1 f2+1) g T=_;rw[ops,if_neg (by rw[h];simp),if_pos h',if_pos h2,h3 _ (by omega),Tb,h4 _ (by omega)]
theorem X0 {T U V:List Tok}{g k t:Tree}(h:monops.contains (gl T 0)=false)(h':dyops.contains (gl T 0)=true)(h2:¬(gl T 0=9060\/(gl T 0=9059/\begA T.tail=true)))(h3:Ev (λf=>plain f T.tail) k U)(h4:Ev (λf=>ops f (node 23 (gl T 0) [] [g,k]) U) t V):Ev (λf=>ops f g T) t V:=by
 obtain⟨f1,h3⟩:=h3.up (λf=>(mono f).plain _);obtain⟨f2,h4⟩:=h4.up (λf=>(mono f).ops _ _);refine⟨max f1 f2+1,?_⟩;show ops (max f1 f2+1) g T=_;rw[ops,if_neg (by rw[h];simp),if_pos h',if_neg h2,h3 _ (by omega),Tb,h4 _ (by omega)]
theorem Bo {x:Tok}{U:List Tok}{e:Tree}(h:begP (x::U)=true)(h1:fleaf x=some e):Ev (λf=>plain f (x::U)) e U:=
 ⟨1,by show plain 1 (x::U)=_;rw[plain,if_pos h,show(x::U).getD 0 Tk.none_=x from rfl,h1];rfl⟩
theorem I6 {x:Tok}{T U:List Tok}{l:List Tree}(h:begP (x::T)=true)(h1:fleaf x=none)(h2:Ev (λf=>stmts f true T) l U)(h3:gl U 0=125):Ev (λf=>plain f (x::T)) (node 20 0 [] l) U.tail:=by
 obtain⟨f,hf⟩:=h2;refine⟨f+1,?_⟩;show plain (f+1) (x::T)=_;rw[plain,if_pos h,show(x::T).getD 0 Tk.none_=x from rfl,h1];show bnd (stmts f true T) _=_;rw[show stmts f true T=_ from hf,Tb,if_pos h3];rfl
theorem J6 {b:Bool}{x y:Tok}{T U:List Tok}{g:Tree}(h:x.kind=3)(h':gl (x::y::T) 1=8592)(h1:Ev (λf=>func f T) g U):Ev (λf=>stmt f b (x::y::T)) (node 27 0 x.s [g]) U:=by
 obtain⟨f,hf⟩:=h1;refine⟨f+1,?_⟩;show stmt (f+1) b (x::y::T)=_;rw[stmt,if_pos ⟨h,h'⟩];show bnd (func f T) _=_;rw[show func f T=_ from hf,Tb];rfl
theorem Y0 {b:Bool}{T U:List Tok}{e:Tree}(h:¬(kd T 0=3/\gl T 1=8592))(h1:Ev (λf=>expr f T) e U)(h2:¬(b=true/\gl U 0=58)):Ev (λf=>stmt f b T) e U:=by
 obtain⟨f,hf⟩:=h1;refine⟨f+1,?_⟩;show stmt (f+1) b T=_;rw[stmt,if_neg h,show expr f T=_ from hf,Tb,if_neg h2];rfl
theorem Hy {T U V:List Tok}{e e2:Tree}(h:¬(kd T 0=3/\gl T 1=8592))(h1:Ev (λf=>expr f T) e U)(h2:gl U 0=58)(h3:gl U.tail 0≠58)(h4:Ev (λf=>expr f U.tail) e2 V):Ev (λf=>stmt f true T) (node 25 0 [] [e,e2]) V:=by
 obtain⟨f1,h1⟩:=h1.up (λf=>(mono f).expr _);obtain⟨f2,h4⟩:=h4.up (λf=>(mono f).expr _);refine⟨max f1 f2+1,?_⟩;show stmt (max f1 f2+1) true T=_;rw[stmt,if_neg h,h1 _ (by omega),Tb,if_pos ⟨rfl,h2⟩,if_neg h3,h4 _ (by omega)];rfl
theorem Iy {T U V:List Tok}{e e2:Tree}(h:¬(kd T 0=3/\gl T 1=8592))(h1:Ev (λf=>expr f T) e U)(h2:gl U 0=58)(h3:gl U.tail 0=58)(h4:Ev (λf=>expr f U.tail.tail) e2 V):Ev (λf=>stmt f true T) (node 26 0 [] [e,e2]) V:=by
 obtain⟨f1,h1⟩:=h1.up (λf=>(mono f).expr _);obtain⟨f2,h4⟩:=h4.up (λf=>(mono f).expr _);refine⟨max f1 f2+1,?_⟩;show stmt (max f1 f2+1) true T=_;rw[stmt,if_neg h,h1 _ (by omega),Tb,if_pos ⟨rfl,h2⟩,if_pos h3,h4 _ (by omega)];rfl
theorem Jy {b:Bool}{T U:List Tok}{e:Tree}(h1:Ev (λf=>stmt f b T) e U)(h2:gl U 0≠8900):Ev (λf=>stmts f b T) [e] U:=by
 obtain⟨f,hf⟩:=h1;refine⟨f+1,?_⟩;show stmts (f+1) b T=_;rw[stmts,show stmt f b T=_ from hf,Tb,if_neg h2];rfl
theorem Ky {b:Bool}{T U V:List Tok}{e:Tree}{l:List Tree}(h1:Ev (λf=>stmt f b T) e U)(h2:gl U 0=8900)(h3:Ev (λf=>stmts f b U.tail) l V):Ev (λf=>stmts f b T) (e::l) V:=by
 obtain⟨f1,h1⟩:=h1.up (λf=>(mono f).stmt b T);obtain⟨f2,h3⟩:=h3.up (λf=>(mono f).stmts b _);refine⟨max f1 f2+1,?_⟩;show stmts (max f1 f2+1) b T=_;rw[stmts,h1 _ (by omega),Tb,if_pos h2,h3 _ (by omega)];rfl
def g (c:Int):Tok:=⟨7,Rt.none_,[],[],c,0⟩
structure Kt where
 kind:Int
 wrap:Bool
 toks:List Tok
def nthK (l:List Kt)(i:Nat):Kt:=l.getD i ⟨0,false,[]⟩
def tin (s:List Tok):List Tok:=g 40::(s++[g 41])
def titem (a:Kt):List Tok:=if item a.kind then a.toks else tin a.toks
def tbehind (a:Kt):List Tok:=if a.wrap then tin a.toks else a.toks
def tjoin (b:List Tok):List (List Tok)->List Tok
 | []=>[]
 | [s]=>s
 |s::y::r=>s++(b++tjoin b (y::r))
def tplaces (l:List Kt):List Tok:=g 91::(tjoin [g 59] (l.map Kt.toks)++[g 93])
def leafK (k o:Int)(m:List UInt8)(n:Rt.Nm)(t:List Int):List Tok:=
 if k=1 then[⟨0,n,[],[],0,0⟩] else if k=2 then[⟨1,Rt.none_,t,[],0,0⟩] else if k=3 then[⟨2,Rt.none_,[],m,0,0⟩] else if k=4 then[g 9082] else if k=5 then[g 9077]
 else if k=6 then[⟨4,Rt.none_,[],[],o,0⟩] else if k=7 then[⟨5,Rt.none_,[],[],o,0⟩] else if k=17 then[g o] else if k=18 then[⟨3,Rt.none_,[],m,0,0⟩] else if k=19 then[g 8711]
 else if k=21 then[⟨6,Rt.none_,[],[],o,0⟩] else[]
def asmK (k o:Int)(m:List UInt8)(n:Rt.Nm)(t:List Int)(l:List Kt):List Tok:=
 if k=8 then tjoin [] (l.map titem)
 else if k=9 then titem (nthK l 0)++tplaces (l.drop 1)
 else if k=11 then(nthK l 0).toks++tbehind (nthK l 1)
 else if k=12 then(if(nthK l 0).kind=8 then(nthK l 0).toks else titem (nthK l 0))++((nthK l 1).toks++tbehind (nthK l 2))
 else if k=13 then⟨2,Rt.none_,[],m,0,0⟩::g 8592::(nthK l 0).toks
 else if k=27 then⟨3,Rt.none_,[],m,0,0⟩::g 8592::(nthK l 0).toks
 else if k=14 then⟨2,Rt.none_,[],m,0,0⟩::(tplaces (l.drop 1)++g 8592::(nthK l 0).toks)
 else if k=15 then⟨2,Rt.none_,[],m,0,0⟩::((nthK l 0).toks++g 8592::(nthK l 1).toks)
 else if k=16 then⟨4,Rt.none_,[],[],o,0⟩::g 8592::(nthK l 0).toks
 else if k=20 then g 123::(tjoin [g 8900] (l.map Kt.toks)++[g 125])
 else if k=22 then(nthK l 0).toks++[g o]
 else if k=23 then(nthK l 0).toks++g o::(if array (nthK l 1).kind then titem (nthK l 1) else(nthK l 1).toks)
 else if k=24 then g 8728::g 46::(nthK l 0).toks
 else if k=25 then tjoin [g 58] (l.map Kt.toks)
 else if k=26 then tjoin [g 58,g 58] (l.map Kt.toks)
 else if k=28 then tjoin [g 8900] (l.map Kt.toks)
 else leafK k o m n t
mutual
def tk:Tree->List Tok
 | .mk k o m n t l=>asmK k o m n t (tks l)
def tks:List Tree->List Kt
 | []=>[]
 |a::r=>⟨kind a,(Tr.kd a).wrap,tk a⟩::tks r
end
def kt (a:Tree):Kt:=⟨kind a,(Tr.kd a).wrap,tk a⟩
theorem R8:∀l:List Tree,tks l=l.map kt
 | []=>rfl
 |t::r=>by rw[tks,R8 r];rfl
theorem Be (k o:Int)(m:List UInt8)(n:Rt.Nm)(t:List Int)(l:List Tree):tk (.mk k o m n t l)=asmK k o m n t (l.map kt):=by rw[tk,R8]
end Pr
