/- Texts of this proof, joined. -/
import Derived.Test.YtceplkpjnebnfaaGreatDoorM7
set_option linter.all false
set_option maxHeartbeats 8000000
set_option maxRecDepth 100000
namespace Lx
open Tr Tk Go
def Md (s:List UInt8):List Int:=s.map λb=>(b.toNat:Int)
def Sj (v:Nat):List Int:=Md (Lib.decDigits v)
def Pc (n:Rt.Nm):List Int:=(if n.neg=true then[175] else[])++(Sj (Nt.val n.top)++if n.bot=[1] then[] else 114::Sj (Nt.val n.bot))
def Zb (t:List Int):List Int:=t.flatMap λc=>if c=39 then[39,39] else[c]
def Af (x:Tok):List Int:=
 if x.kind=0 then Pc x.n else if x.kind=1 then 39::(Zb x.l++[39]) else if x.kind=2\/x.kind=3 then Md x.s else if x.kind=4 then[9109,48+x.c]
 else if x.kind=5 then[9054,48+x.c] else if x.kind=6 then 9109::(if x.c=1 then[85,80] else[68,67]) else[x.c]
def gly (c:Int):Bool:=((cls c==4)||(cls c==5)||(cls c==6))&& !(c==39)&& !(c==9109)&& !(c==9054)&& !(c==9053)
inductive Uj:Tok->Prop
 |num (n:Rt.Nm) (h:Rt.right n=true) (hl:(Dg.print n).length<=400):Uj ⟨0,n,[],[],0,0⟩
 |txt (l:List Int):Uj ⟨1,Rt.none_,l,[],0,0⟩
 |nam (s:List UInt8) (h:Ua s false=true):Uj ⟨2,Rt.none_,[],s,0,0⟩
 |fn (s:List UInt8) (h:Ua s true=true):Uj ⟨3,Rt.none_,[],s,0,0⟩
 |chan (c:Int) (h:Tr.port c=true):Uj ⟨4,Rt.none_,[],[],c,0⟩
 |src (c:Int) (h:Tr.port c=true):Uj ⟨5,Rt.none_,[],[],c,0⟩
 |sys (c:Int) (h:c=0\/c=1):Uj ⟨6,Rt.none_,[],[],c,0⟩
 |gly (c:Int) (h:gly c=true):Uj (Pr.g c)
def Ac (R:List Int):Int:=R.getD 0 (-1)
def Fba (x:Tok)(R:List Int):Prop:=
 if x.kind=0 then word (Ac R)=false/\Ac R≠175/\(Ac R=46->digit (R.getD 1 (-1))=false)
 else if x.kind=1 then Ac R≠39
 else if x.kind=7 then True
 else word (Ac R)=false
theorem Mia {b:UInt8}:word (b.toNat:Int)=(Ec b||Tr.digit b):=by
 unfold word Ec Tk.digit Tr.digit;rw[Bool.or_comm]
 congr 1
 congr 1<;>exact decide_eq_decide.2 (by omega)
theorem Fe {p:Int->Bool}:∀{l R:List Int},(∀c∈l,p c=true)->p (Ac R)=false->((l++R).takeWhile p)=l
 | [],R,_,h=>by
  cases R with
  |nil=>rfl
  |cons c r=>rw[List.nil_append,List.takeWhile_cons,show p c=false from h];rfl
 |c::l,R,hl,h=>by
  rw[List.cons_append,List.takeWhile_cons,hl c (by simp),if_pos rfl,Fe (λd hd=>hl d (by simp[hd])) h]
theorem Qw {l R:List Int}(hl:∀c∈l,word c=true)(h:word (Ac R)=false):words (l++R) 0=l.length:=by
 unfold words;rw[List.drop_zero,Fe hl h]
theorem Bh {s:List UInt8}{b:Bool}(h:Ua s b=true):(∀c∈Md s,word c=true)/\cls (Ac (Md s))=2/\s.length<=16/\(Ac (Md s)<=90↔b=true)/\(∀c∈Md s,0<=c/\c<128):=by
 unfold Ua at h;simp only[Bool.and_eq_true,decide_eq_true_eq,List.all_eq_true,Bool.not_eq_true',beq_iff_eq] at h;obtain⟨⟨⟨⟨h0,h1⟩,h2⟩,h3⟩,h4⟩:=h;have hw:∀c∈Md s,word c=true:=by
  intro c hc;obtain⟨x,hx,rfl⟩:=List.mem_map.1 hc;rw[Mia];exact h3 x hx
 cases s with
 |nil=>cases h0
 |cons x r=>
  have e0:Ac (Md (x::r))=(x.toNat:Int):=rfl;have e1:(x::r).getD 0 0=x:=rfl;rw[e1] at h2;have hc:cls (x.toNat:Int)=2:=by unfold Ec at h2;simpa using h2
  refine⟨hw,by rw[e0];exact hc,h1,?_,?_⟩
  ·rw[e0,<-h4]
   unfold Hi;rw[e1];simp only[Bool.and_eq_true,decide_eq_true_eq];have:65<=x.toNat:=by
    by_cases h:65<=x.toNat
    ·exact h
    exfalso
    have:(x.toNat:Int)<65:=by omega
    unfold cls at hc
    split at hc
    ·cases hc
    rw[if_neg (by omega)] at hc
    split at hc
    ·cases hc
    split at hc
    ·cases hc
    split at hc
    ·cases hc
    split at hc<;>cases hc
   omega
  intro c hcm;have hwc:=hw c hcm;obtain⟨y,hy,rfl⟩:=List.mem_map.1 hcm;refine⟨by omega,?_⟩;unfold word at hwc;simp only[Bool.or_eq_true,beq_iff_eq] at hwc;rcases hwc with hwc |hwc
  ·unfold Tk.digit at hwc
   simp only[Bool.and_eq_true,decide_eq_true_eq] at hwc;omega
  unfold cls at hwc
  split at hwc
  ·cases hwc
  split at hwc
  ·omega
  split at hwc
  ·cases hwc
  split at hwc
  ·cases hwc
  split at hwc
  ·cases hwc
  split at hwc<;>cases hwc
theorem Gba {c:Int}(h:0<=c/\c<128):enc1 c=[UInt8.ofNat c.toNat]:=by
 unfold enc1 Gl.one;rw[if_pos (by omega)];rfl
theorem Ch (a b:List Int):enc (a++b)=enc a++enc b:=by unfold enc;exact List.flatMap_append
theorem Kk:∀{s:List UInt8},(∀c∈Md s,0<=c/\c<128)->enc (Md s)=s
 | [],_=>rfl
 |x::r,h=>by
  have h1:=h (x.toNat:Int) (by simp[Md]);show enc1 (x.toNat:Int)++enc (Md r)=x::r;rw[Gba h1,Kk (λc hc=>h c (by simp[Md] at hc⊢;exact .inr hc))];simp
theorem Js {l R:List Int}:(l++R).take l.length=l:=by simp
theorem Xh (v:Nat):(∀c∈Sj v,Tk.digit c=true)/\(∀c∈Sj v,0<=c/\c<128)/\Sj v≠[]:=by
 have h:=(Ten.dec_valid v).1;refine⟨λc hc=>?_,λc hc=>?_,?_⟩
 ·obtain⟨x,hx,rfl⟩:=List.mem_map.1 hc
  have:=h.2.2 x hx;unfold Tk.digit;unfold Ten.isDig at this;simp only[Bool.and_eq_true,decide_eq_true_eq];omega
 ·obtain⟨x,hx,rfl⟩:=List.mem_map.1 hc
  have:=h.2.2 x hx;unfold Ten.isDig at this;omega
 have:=Ten.dec_ne v;unfold Sj Md;cases hd:Lib.decDigits v with
 |nil=>exact absurd hd this
 |cons _ _=>simp
theorem Rw (n:Rt.Nm):enc (Pc n)=Dg.print n:=by
 unfold Pc Dg.print;rw[Ch,Ch]
 congr 1
 ·cases n.neg<;>rfl
 congr 1
 ·exact Kk (Xh _).2.1
 by_cases h:n.bot=[1]
 ·rw[if_pos h,if_pos h];rfl
 rw[if_neg h,if_neg h];show enc1 114++enc (Sj _)=_;rw[show enc (Sj (Nt.val n.bot))=_ from Kk (Xh _).2.1];rfl
theorem Nia {c:Int}{r:List Int}:(c::r).drop 1=r:=rfl
theorem figures_at {P l R:List Int}{i:Nat}(hi:i=P.length)(hl:∀c∈l,Tk.digit c=true)(h:Tk.digit (Ac R)=false):figures (P++(l++R)) i=l.length:=by
 subst hi;unfold figures;rw[List.drop_left,Fe hl h]
theorem Wg {P R:List Int}{i:Nat}(hi:i=P.length):(P++R).getD i (-1)=Ac R:=by
 subst hi;have:= @Di P R 0;exact this
theorem Z0 {P R:List Int}{i:Nat}(hi:i=P.length+1):(P++R).getD i (-1)=R.getD 1 (-1):=by
 subst hi;exact@Di P R 1
theorem word_digit {c:Int}(h:word c=false):Tk.digit c=false:=by
 unfold word at h;simp only[Bool.or_eq_false_iff] at h;exact h.1
theorem Sw {l:List Int}{n k e:Nat}(hn:(if l.getD 0 (-1)=175 then 1 else 0)=n)(hk:figures l n=k)(h0:k≠0)(he:(if(l.getD (n+k) (-1)=114\/l.getD (n+k) (-1)=46)/\0<figures l (n+k+1) then n+k+1+figures l (n+k+1) else n+k)=e)(hw:¬(word (l.getD e (-1))=true\/l.getD e (-1)=175)):numLen l 0=some e:=by
 subst hn hk he;unfold numLen;simp only[Nat.zero_add];rw[if_neg h0,if_neg hw]
theorem num_len {n:Rt.Nm}{R:List Int}(h1:word (Ac R)=false)(h2:Ac R≠175)(h3:Ac R=46->Tk.digit (R.getD 1 (-1))=false):numLen (Pc n++R) 0=some (Pc n).length:=by
 obtain⟨sg,hsg⟩:∃sg:List Int,sg=if n.neg=true then[175] else[]:=⟨_,rfl⟩
 obtain⟨d1,hd1⟩:∃d,d=Sj (Nt.val n.top):=⟨_,rfl⟩;obtain⟨d2,hd2⟩:∃d,d=Sj (Nt.val n.bot):=⟨_,rfl⟩;have a1:=Xh (Nt.val n.top);have a2:=Xh (Nt.val n.bot);rw[<-hd1] at a1;rw[<-hd2] at a2;have hd1l:0<d1.length:=List.length_pos_iff.2 a1.2.2;have hd2l:0<d2.length:=List.length_pos_iff.2 a2.2.2;have hs:(if(sg++(d1++R)).getD 0 (-1)=175 then 1 else 0)=sg.length/\∀X:List Int,(if(sg++(d1++X)).getD 0 (-1)=175 then 1 else 0)=sg.length:=by
  have key:∀X:List Int,(if(sg++(d1++X)).getD 0 (-1)=175 then 1 else 0)=sg.length:=by
   intro X;by_cases hn:n.neg=true
   ·rw[hsg,if_pos hn];rfl
   rw[hsg,if_neg hn];cases d1 with
   |nil=>exact absurd rfl a1.2.2
   |cons c r=>
    have hc:=a1.1 c (by simp);unfold Tk.digit at hc;simp only[Bool.and_eq_true,decide_eq_true_eq] at hc;show(if c=175 then 1 else 0)=0;rw[if_neg (by omega)]
  exact⟨key R,key⟩
 by_cases hb:n.bot=[1]
 ·have e:Pc n++R=sg++(d1++R):=by unfold Pc;rw[if_pos hb,<-hsg,<-hd1];simp
  have el:(Pc n).length=sg.length+d1.length:=by unfold Pc;rw[if_pos hb,<-hsg,<-hd1];simp
  rw[e,el];have g0:(sg++(d1++R)).getD (sg.length+d1.length) (-1)=Ac R:=by rw[<-List.append_assoc];exact Wg (by simp)
  refine Sw hs.1 (figures_at rfl a1.1 (word_digit h1)) (by omega) (if_neg ?_) (by rw[g0,h1];rintro(h |h);cases h;exact h2 h);rw[g0];rintro⟨h |h,hf⟩
  ·rw[h] at h1;exact absurd h1 (by decide)
  have h5:=h3 h;have:figures (sg++(d1++R)) (sg.length+d1.length+1)=0:=by
   unfold figures;rw[<-List.append_assoc,show sg.length+d1.length+1=(sg++d1).length+1 by simp,Wj];cases R with
   |nil=>rfl
   |cons c r=>
    rw[Nia];cases r with
    |nil=>rfl
    |cons d r=>
     rw[List.takeWhile_cons,show Tk.digit d=false from h5];rfl
  omega
 have e:Pc n++R=sg++(d1++(114::(d2++R))):=by unfold Pc;rw[if_neg hb,<-hsg,<-hd1,<-hd2];simp
 have el:(Pc n).length=sg.length+d1.length+1+d2.length:=by unfold Pc;rw[if_neg hb,<-hsg,<-hd1,<-hd2];simp;omega
 rw[e,el];have g0:(sg++(d1++114::(d2++R))).getD (sg.length+d1.length) (-1)=114:=by rw[<-List.append_assoc];exact Wg (by simp)
 have f1:figures (sg++(d1++114::(d2++R))) (sg.length+d1.length+1)=d2.length:=by
  rw[show sg++(d1++114::(d2++R))=(sg++(d1++[114]))++(d2++R) by simp];exact figures_at (by simp;omega) a2.1 (word_digit h1)
 have g1:(sg++(d1++114::(d2++R))).getD (sg.length+d1.length+1+d2.length) (-1)=Ac R:=by
  rw[show sg++(d1++114::(d2++R))=(sg++(d1++(114::d2)))++R by simp];exact Wg (by simp;omega)
 refine Sw (hs.2 _) (figures_at rfl a1.1 rfl) (by omega) ?_ (by rw[g1,h1];rintro(h |h);cases h;exact h2 h);rw[if_pos ⟨.inl g0,by rw[f1];omega⟩,f1]
end Lx
namespace Pr
open Tr Tk
def z (x:Tok):Tok:={x with at_:=0}
def Sm (T T':List Tok):Prop:=T.map z=T'.map z
theorem Sm.nil_iff {T T':List Tok}(h:Sm T T'):T=[]↔T'=[]:=by
 unfold Sm at h
 constructor
 ·rintro rfl;simpa using h.symm
 rintro rfl;simpa using h
theorem Sm.tail {T T':List Tok}(h:Sm T T'):Sm T.tail T'.tail:=by
 cases T with
 |nil=>rw[(h.nil_iff).1 rfl];exact rfl
 |cons x r=>
  cases T' with
  |nil=>exact absurd ((h.nil_iff).2 rfl) (by simp)
  |cons y s=>exact(List.cons.inj h).2
theorem drop_tail (T:List Tok):∀n,T.drop (n+1)=(T.drop n).tail:=by intro n;simp[List.tail_drop]
theorem Sm.drop {T T':List Tok}(h:Sm T T'):∀n,Sm (T.drop n) (T'.drop n)
 | 0=>h
 |n+1=>by rw[drop_tail,drop_tail];exact(h.drop n).tail
theorem Sm.get {T T':List Tok}(h:Sm T T')(n:Nat):(T[n]?).map z=(T'[n]?).map z:=by
 rw[<-List.getElem?_map,<-List.getElem?_map,show T.map z=T'.map z from h]
theorem Sm.kd {T T':List Tok}(h:Sm T T')(n:Nat):kd T n=kd T' n:=by
 have h1:=h.get n;unfold Pr.kd;cases hx:T[n]? with
 |none=>rw[hx] at h1;cases hy:T'[n]? with
  |none=>rfl
  |some y=>rw[hy] at h1;cases h1
 |some x=>rw[hx] at h1;cases hy:T'[n]? with
  |none=>rw[hy] at h1;cases h1
  |some y=>
   rw[hy] at h1;exact(show(z x).kind=(z y).kind by rw[show z x=z y from Option.some.inj h1])
theorem Sm.getD {T T':List Tok}(h:Sm T T')(n:Nat):z (T.getD n Tk.none_)=z (T'.getD n Tk.none_):=by
 have h1:=h.get n;rw[List.getD_eq_getElem?_getD,List.getD_eq_getElem?_getD];cases hx:T[n]? with
 |none=>rw[hx] at h1;cases hy:T'[n]? with
  |none=>rfl
  |some y=>rw[hy] at h1;cases h1
 |some x=>rw[hx] at h1;cases hy:T'[n]? with
  |none=>rw[hy] at h1;cases h1
  |some y=>
   rw[hy] at h1;exact Option.some.inj h1
theorem Sm.gl {T T':List Tok}(h:Sm T T')(n:Nat):gl T n=gl T' n:=by
 unfold Pr.gl;rw[h.kd n,show(T.getD n Tk.none_).c=(T'.getD n Tk.none_).c from(show(z (T.getD n Tk.none_)).c=(z (T'.getD n Tk.none_)).c by rw[h.getD n])]
theorem Sm.begA {T T':List Tok}(h:Sm T T'):begA T=begA T':=by unfold Pr.begA;rw[h.kd 0,h.gl 0]
theorem Sm.begP {T T':List Tok}(h:Sm T T'):begP T=begP T':=by unfold Pr.begP;rw[h.kd 0,h.gl 0]
theorem Sm.begF {T T':List Tok}(h:Sm T T'):begF T=begF T':=by unfold Pr.begF;rw[h.begP,h.gl 0]
theorem Sm.leaf {T T':List Tok}(h:Sm T T'):leaf (T.getD 0 Tk.none_)=leaf (T'.getD 0 Tk.none_):=by
 have:=h.getD 0;show Pr.leaf (z (T.getD 0 Tk.none_))=Pr.leaf (z (T'.getD 0 Tk.none_));rw[this]
theorem Sm.fleaf {T T':List Tok}(h:Sm T T'):fleaf (T.getD 0 Tk.none_)=fleaf (T'.getD 0 Tk.none_):=by
 have:=h.getD 0;show Pr.fleaf (z (T.getD 0 Tk.none_))=Pr.fleaf (z (T'.getD 0 Tk.none_));rw[this]
theorem Sm.s {T T':List Tok}(h:Sm T T'):(T.getD 0 Tk.none_).s=(T'.getD 0 Tk.none_).s:=(show(z (T.getD 0 Tk.none_)).s=(z (T'.getD 0 Tk.none_)).s by rw[h.getD 0])
inductive Rl {α:Type}:Res α->Res α->Prop
 |out:Rl none none
 |fail:Rl (some none) (some none)
 |ret (a:α) {T T':List Tok} (h:Sm T T'):Rl (some (some (a,T))) (some (some (a,T')))
theorem Rl.bnd {α β:Type}{x y:Res α}{k k':α->List Tok->Res β}(h:Rl x y)(hk:∀a T T',Sm T T'->Rl (k a T) (k' a T')):Rl (bnd x k) (bnd y k'):=by
 cases h with
 |out=>exact .out
 |fail=>exact .fail
 |ret a h=>exact hk _ _ _ h
theorem Rl.ite {α:Type}{c c':Prop}[Decidable c][Decidable c']{x y x' y':Res α}(hc:c↔c')(h:Rl x x')(h':Rl y y'):Rl (if c then x else y) (if c' then x' else y'):=by
 by_cases h0:c
 ·rw[if_pos h0,if_pos (hc.1 h0)];exact h
 rw[if_neg h0,if_neg (λe=>h0 (hc.2 e))];exact h'
structure Gpa (f:Nat):Prop where
 stmts:∀b T T',Sm T T'->Rl (stmts f b T) (stmts f b T')
 stmt:∀b T T',Sm T T'->Rl (stmt f b T) (stmt f b T')
 expr:∀T T',Sm T T'->Rl (expr f T) (expr f T')
 behind:∀T T',Sm T T'->Rl (behind f T) (behind f T')
 arrs:∀T T',Sm T T'->Rl (arrs f T) (arrs f T')
 arr:∀T T',Sm T T'->Rl (arr f T) (arr f T')
 more:∀a T T',Sm T T'->Rl (more f a T) (more f a T')
 places:∀T T',Sm T T'->Rl (places f T) (places f T')
 alone:∀T T',Sm T T'->Rl (alone f T) (alone f T')
 func:∀T T',Sm T T'->Rl (func f T) (func f T')
 ops:∀g T T',Sm T T'->Rl (ops f g T) (ops f g T')
 plain:∀T T',Sm T T'->Rl (plain f T) (plain f T')
theorem Dla:∀f,Gpa f
 | 0=>⟨λ_ _ _ _=> .out,λ_ _ _ _=> .out,λ_ _ _=> .out,λ_ _ _=> .out,λ_ _ _=> .out,λ_ _ _=> .out,λ_ _ _ _=> .out,λ_ _ _=> .out,λ_ _ _=> .out,λ_ _ _=> .out,λ_ _ _ _=> .out,λ_ _ _=> .out⟩
 |f+1=>by
  have h:=Dla f
  constructor
  ·intro b T T' s
   rw[Pr.stmts,Pr.stmts];exact(h.stmt b T T' s).bnd λe U U' u=>Rl.ite (by rw[u.gl 0]) ((h.stmts b _ _ u.tail).bnd λ_ _ _ v=> .ret _ v) (.ret _ u)
  ·intro b T T' s
   rw[Pr.stmt,Pr.stmt,s.s];exact Rl.ite (by rw[s.kd 0,s.gl 1]) ((h.func _ _ (s.drop 2)).bnd λ_ _ _ v=> .ret _ v) ((h.expr _ _ s).bnd λe U U' u=>Rl.ite (by rw[u.gl 0]) (Rl.ite (by rw[u.tail.gl 0]) ((h.expr _ _ u.tail.tail).bnd λ_ _ _ v=> .ret _ v) ((h.expr _ _ u.tail).bnd λ_ _ _ v=> .ret _ v)) (.ret _ u))
  ·intro T T' s
   rw[Pr.expr,Pr.expr];exact Rl.ite (by rw[s.begA]) (h.behind _ _ s) ((h.func _ _ s).bnd λ_ _ _ u=>(h.expr _ _ u).bnd λ_ _ _ v=> .ret _ v)
  ·intro T T' s
   rw[Pr.behind,Pr.behind];exact(h.arrs _ _ s).bnd λl U U' u=>Rl.ite (by rw[u.gl 0]) ((h.expr _ _ u.tail).bnd λ_ _ _ v=> .ret _ v) (Rl.ite (by rw[u.begF]) ((h.func _ _ u).bnd λ_ _ _ v=>Rl.ite (by rw[v.gl 0]) ((h.expr _ _ v.tail).bnd λ_ _ _ x=> .ret _ x) ((h.expr _ _ v).bnd λ_ _ _ x=> .ret _ x)) (.ret _ u))
  ·intro T T' s
   rw[Pr.arrs,Pr.arrs];exact Rl.ite (by rw[s.begA]) ((h.arr _ _ s).bnd λ_ _ _ u=>(h.arrs _ _ u).bnd λ_ _ _ v=> .ret _ v) (.ret _ s)
  ·intro T T' s
   rw[Pr.arr,Pr.arr];exact(h.alone _ _ s).bnd λ_ _ _ u=>h.more _ _ _ u
  ·intro a T T' s
   rw[Pr.more,Pr.more];exact Rl.ite (by rw[s.gl 0]) ((h.places _ _ s.tail).bnd λ_ _ _ u=>Rl.ite (by rw[u.gl 0]) (h.more _ _ _ u.tail) .fail) (.ret _ s)
  ·intro T T' s
   rw[Pr.places,Pr.places];exact(Rl.ite (by rw[s.gl 0]) (.ret _ s) (h.expr _ _ s)).bnd λ_ _ _ u=>Rl.ite (by rw[u.gl 0]) ((h.places _ _ u.tail).bnd λ_ _ _ v=> .ret _ v) (.ret _ u)
  ·intro T T' s
   rw[Pr.alone,Pr.alone,s.leaf];refine Rl.ite (by rw[s.begA]) ?_ .fail;cases leaf (T'.getD 0 Tk.none_) with
   |some e=>exact .ret _ s.tail
   |none=>exact(h.expr _ _ s.tail).bnd λ_ _ _ u=>Rl.ite (by rw[u.gl 0]) (.ret _ u.tail) .fail
  ·intro T T' s
   rw[Pr.func,Pr.func];exact Rl.ite (by rw[s.gl 0]) (Rl.ite (by rw[s.tail.gl 0]) ((h.plain _ _ s.tail.tail).bnd λ_ _ _ u=>h.ops _ _ _ u) .fail) ((h.plain _ _ s).bnd λ_ _ _ u=>h.ops _ _ _ u)
  ·intro g T T' s
   rw[Pr.ops,Pr.ops,s.gl 0];exact Rl.ite Iff.rfl (h.ops _ _ _ s.tail) (Rl.ite Iff.rfl ((Rl.ite (by rw[s.tail.begA]) (h.arr _ _ s.tail) (h.plain _ _ s.tail)).bnd λ_ _ _ u=>h.ops _ _ _ u) (.ret _ s))
  intro T T' s;rw[Pr.plain,Pr.plain,s.fleaf];refine Rl.ite (by rw[s.begP]) ?_ .fail;cases fleaf (T'.getD 0 Tk.none_) with
  |some e=>exact .ret _ s.tail
  |none=>exact(h.stmts _ _ _ s.tail).bnd λ_ _ _ u=>Rl.ite (by rw[u.gl 0]) (.ret _ u.tail) .fail
theorem Sm.len {T T':List Tok}(h:Sm T T'):T.length=T'.length:=by
 have:=congrArg List.length (show T.map z=T'.map z from h)
 simpa using this
theorem lineT_same {T T':List Tok}(h:Sm T T'):lineT T=lineT T':=by
 have hf:fuel T=fuel T':=by unfold fuel;rw[h.len]
 unfold lineT;rw[hf];have h1:=(Dla (fuel T')).stmts false T T' h
 revert h1
 generalize stmts (fuel T') false T=x;generalize stmts (fuel T') false T'=y;intro h1;cases h1 with
 |out=>rfl
 |fail=>rfl
 |ret a h2=>
  rename_i U U';cases U with
  |nil=>rw[(h2.nil_iff).1 rfl]
  |cons _ _=>cases U' with
   |nil=>exact absurd ((h2.nil_iff).2 rfl) (by simp)
   |cons _ _=>rfl
end Pr
namespace Lx
open Tr Tk Go
theorem Ut (c:Int)(t:List Int):Zb (c::t)=(if c=39 then[39,39] else[c])++Zb t:=rfl
theorem Ks:∀(t:List Int) (P R out:List Int) (f:Nat),Ac R≠39->(Zb t).length+1<=f->quote (P++(Zb t++39::R)) f P.length out=some (out++t,P.length+(Zb t).length+1)
 | [],P,R,out,f,hR,hf=>by
  cases f with
  |zero=>omega
  |succ f=>
   rw[quote,if_neg (by simp[Zb])];have e0:(P++(Zb []++39::R)).getD P.length (-1)=39:=Wg (R:=39::R) rfl;have e1:(P++(Zb []++39::R)).getD (P.length+1) (-1)=Ac R:=Z0 (R:=39::R) rfl;rw[e0,if_neg (by simp),e1,if_pos hR];simp[Zb]
 |c::t,P,R,out,f,hR,hf=>by
  rw[Ut] at hf⊢;cases f with
  |zero=>simp at hf
  |succ f=>
   by_cases hc:c=39
   ·subst hc
    rw[if_pos rfl] at hf⊢;rw[quote,if_neg (by simp)];have e0:(P++([39,39]++Zb t++39::R)).getD P.length (-1)=39:=Wg (R:=39::39::(Zb t++39::R)) rfl;have e1:(P++([39,39]++Zb t++39::R)).getD (P.length+1) (-1)=39:=Z0 (R:=39::39::(Zb t++39::R)) rfl;rw[e0,if_neg (by simp),e1,if_neg (by simp)];have ih:=Ks t (P++[39,39]) R (out++[39]) f hR (by simp at hf⊢;omega);rw[show P++([39,39]++Zb t++39::R)=(P++[39,39])++(Zb t++39::R) by simp,show P.length+2=(P++[39,39]).length by simp,ih];simp;omega
   rw[if_neg hc] at hf⊢;rw[quote,if_neg (by simp)];have e0:(P++([c]++Zb t++39::R)).getD P.length (-1)=c:=Wg (R:=c::(Zb t++39::R)) rfl;rw[e0,if_pos hc];have ih:=Ks t (P++[c]) R (out++[c]) f hR (by simp at hf⊢;omega);rw[show P++([c]++Zb t++39::R)=(P++[c])++(Zb t++39::R) by simp,show P.length+1=(P++[c]).length by simp,ih];simp;omega
theorem Ij {c:Int}(h:Tk.digit c=true):cls c=3:=by
 unfold Tk.digit at h;simp only[Bool.and_eq_true,decide_eq_true_eq] at h;unfold cls;rw[if_neg (by omega),if_neg (by omega),if_pos (by omega)]
theorem Cm {c:Int}(h:gly c=true):(cls c=4\/cls c=5\/cls c=6)/\c≠39/\c≠9109/\c≠9054/\c≠9053:=by
 unfold gly at h;simp only[Bool.and_eq_true,Bool.or_eq_true,beq_iff_eq,Bool.not_eq_true',beq_eq_false_iff_ne] at h;exact⟨by rcases h.1.1.1.1 with(h |h) |h<;>simp[h],h.1.1.1.2,h.1.1.2,h.1.2,h.2⟩
theorem Ls {c:Int}(h:gly c=true):word c=false/\c≠175/\Tk.digit c=false:=by
 have h1:=(Cm h).1;have hd:Tk.digit c=false:=by
  cases hd:Tk.digit c with
  |false=>rfl
  |true=>rw[Ij hd] at h1;omega
 refine⟨?_,?_,hd⟩
 ·unfold word
  rw[hd,Bool.false_or,beq_eq_false_iff_ne];omega
 rintro rfl;exact absurd h1 (by decide)
theorem Vt {c:Int}(h:Tr.port c=true):0<=c/\c<8:=by
 unfold Tr.port at h
 simpa using h
theorem Tw {c:Int}(h:Tr.port c=true):word (48+c)=true:=by
 have:=Vt h;unfold word Tk.digit;rw[decide_eq_true (by omega:(48:Int)<=48+c),decide_eq_true (by omega:48+c<=57)];rfl
theorem Oia {x:Tok}(hx:Uj x){R:List Int}(hR:Fba x R):Tk.read (Af x++R) 0=(x,(Af x).length,0):=by
 cases hx with
 |num n h hl=>
  have hR:word (Ac R)=false/\Ac R≠175/\(Ac R=46->Tk.digit (R.getD 1 (-1))=false):=hR;show Tk.read (Pc n++R) 0=(_,(Pc n).length,0);have hc:cls ((Pc n++R).getD 0 (-1))=3:=by
   unfold Pc;by_cases hn:n.neg=true
   ·rw[if_pos hn];rfl
   rw[if_neg hn];have:=Xh (Nt.val n.top);cases hd:Sj (Nt.val n.top) with
   |nil=>exact absurd hd this.2.2
   |cons c r=>rw[hd] at this;exact Ij (this.1 c (by simp))
  unfold Tk.read;rw[if_pos hc,num_len hR.1 hR.2.1 hR.2.2];dsimp only;rw[List.drop_zero,Js,Rw,Dg.parse_print h hl];rfl
 |txt l=>
  have hR:Ac R≠39:=hR;show Tk.read (39::(Zb l++[39])++R) 0=(_,(39::(Zb l++[39])).length,0);have h1:=Ks l [39] R [] (((39::(Zb l++[39]))++R).length+1) hR (by simp;omega);have e:[39]++(Zb l++39::R)=39::(Zb l++[39])++R:=by simp
  rw[e] at h1;unfold Tk.read;have hc:((39::(Zb l++[39])++R).getD 0 (-1))=39:=rfl;rw[hc,if_neg (by decide),if_neg (by decide),if_pos rfl,show(0+1:Nat)=([39]:List Int).length from rfl,h1];simp;omega
 |nam s h=>
  obtain⟨hw,h2,h3,h4,h5⟩:=Bh h;have hR:word (Ac R)=false:=hR;show Tk.read (Md s++R) 0=(_,(Md s).length,0);have hc:(Md s++R).getD 0 (-1)=Ac (Md s):=by
   cases hs:Md s with
   |nil=>rw[hs] at h2;exact absurd h2 (by decide)
   |cons _ _=>rfl
  unfold Tk.read;rw[hc,if_neg (by rw[h2];decide),if_pos h2,Qw hw hR];dsimp only;rw[if_neg (by unfold Md;rw[List.length_map];omega),List.drop_zero,Js,Kk h5,if_neg (by rw[h4];simp)]
 |fn s h=>
  obtain⟨hw,h2,h3,h4,h5⟩:=Bh h;have hR:word (Ac R)=false:=hR;show Tk.read (Md s++R) 0=(_,(Md s).length,0);have hc:(Md s++R).getD 0 (-1)=Ac (Md s):=by
   cases hs:Md s with
   |nil=>rw[hs] at h2;exact absurd h2 (by decide)
   |cons _ _=>rfl
  unfold Tk.read;rw[hc,if_neg (by rw[h2];decide),if_pos h2,Qw hw hR];dsimp only;rw[if_neg (by unfold Md;rw[List.length_map];omega),List.drop_zero,Js,Kk h5,if_pos (h4.2 rfl)]
 |chan c h=>
  have hR:word (Ac R)=false:=hR;have hd:=Vt h;show Tk.read (9109::(48+c)::R) 0=(_,2,0);have hw:words (9109::(48+c)::R) (0+1)=1:=by
   unfold words;show(([48+c]++R).takeWhile word).length=1;rw[Fe (by intro d hd;rw[List.mem_singleton] at hd;subst hd;exact Tw h) hR];rfl
  unfold Tk.read;rw[show(9109::(48+c)::R).getD 0 (-1)=9109 from rfl,if_neg (by decide),if_neg (by decide),if_neg (by decide),if_pos (.inl rfl),hw,show(9109::(48+c)::R).getD (0+1) (-1)=48+c from rfl];dsimp only;rw[if_pos ⟨rfl,by omega,by omega⟩,if_neg (by decide),show 48+c-48=c by omega]
 |src c h=>
  have hR:word (Ac R)=false:=hR;have hd:=Vt h;show Tk.read (9054::(48+c)::R) 0=(_,2,0);have hw:words (9054::(48+c)::R) (0+1)=1:=by
   unfold words;show(([48+c]++R).takeWhile word).length=1;rw[Fe (by intro d hd;rw[List.mem_singleton] at hd;subst hd;exact Tw h) hR];rfl
  unfold Tk.read;rw[show(9054::(48+c)::R).getD 0 (-1)=9054 from rfl,if_neg (by decide),if_neg (by decide),if_neg (by decide),if_pos (.inr rfl),hw,show(9054::(48+c)::R).getD (0+1) (-1)=48+c from rfl];dsimp only;rw[if_pos ⟨rfl,by omega,by omega⟩,if_pos rfl,show 48+c-48=c by omega]
 |sys c h=>
  have hR:word (Ac R)=false:=hR;rcases h with rfl |rfl
  ·show Tk.read (9109::68::67::R) 0=(_,3,0)
   have hw:words (9109::68::67::R) (0+1)=2:=by
    unfold words;show(([68,67]++R).takeWhile word).length=2;rw[Fe (by decide) hR];rfl
   unfold Tk.read;rw[show(9109::68::67::R).getD 0 (-1)=9109 from rfl,if_neg (by decide),if_neg (by decide),if_neg (by decide),if_pos (.inl rfl),hw,show(9109::68::67::R).getD (0+1) (-1)=68 from rfl,show(9109::68::67::R).getD (0+2) (-1)=67 from rfl];dsimp only;rw[if_neg (by omega),if_pos ⟨rfl,rfl,rfl,rfl⟩]
  show Tk.read (9109::85::80::R) 0=(_,3,0);have hw:words (9109::85::80::R) (0+1)=2:=by
   unfold words;show(([85,80]++R).takeWhile word).length=2;rw[Fe (by decide) hR];rfl
  unfold Tk.read;rw[show(9109::85::80::R).getD 0 (-1)=9109 from rfl,if_neg (by decide),if_neg (by decide),if_neg (by decide),if_pos (.inl rfl),hw,show(9109::85::80::R).getD (0+1) (-1)=85 from rfl,show(9109::85::80::R).getD (0+2) (-1)=80 from rfl];dsimp only;rw[if_neg (by omega),if_neg (by omega),if_pos ⟨rfl,rfl,rfl,rfl⟩]
 |gly c h=>
  obtain⟨h1,h2,h3,h4,h5⟩:=Cm h;show Tk.read (c::R) 0=(_,1,0);unfold Tk.read;rw[show(c::R).getD 0 (-1)=c from rfl,if_neg (by omega),if_neg (by omega),if_neg h2,if_neg (by omega),if_neg (by omega)];rfl
theorem Q1 {x:Tok}(hx:Uj x):∃c r,Af x=c::r/\c≠9053/\cls c≠1/\(x.kind≠0->Tk.digit c=false):=by
 cases hx with
 |num n h hl=>
  show∃c r,Pc n=c::r/\_;unfold Pc;by_cases hn:n.neg=true
  ·rw[if_pos hn];exact⟨175,_,rfl,by decide,by decide,λh=>absurd rfl h⟩
  rw[if_neg hn];have:=Xh (Nt.val n.top);cases hd:Sj (Nt.val n.top) with
  |nil=>exact absurd hd this.2.2
  |cons c r=>
   rw[hd] at this;have hc:=this.1 c (by simp);refine⟨c,_,rfl,?_,by rw[Ij hc];decide,λh=>absurd rfl h⟩;rintro rfl;exact absurd hc (by decide)
 |txt l=>exact⟨39,_,rfl,by decide,by decide,λ_=>by decide⟩
 |nam s h=>
  obtain⟨hw,h2,h3,h4,h5⟩:=Bh h;show∃c r,Md s=c::r/\_;cases hs:Md s with
  |nil=>rw[hs] at h2;exact absurd h2 (by decide)
  |cons c r=>
   rw[hs] at h2;have h2:cls c=2:=h2;refine⟨c,r,rfl,by rintro rfl;exact absurd h2 (by decide),by rw[h2];decide,λ_=>?_⟩;cases hd:Tk.digit c with
   |false=>rfl
   |true=>rw[Ij hd] at h2;cases h2
 |fn s h=>
  obtain⟨hw,h2,h3,h4,h5⟩:=Bh h;show∃c r,Md s=c::r/\_;cases hs:Md s with
  |nil=>rw[hs] at h2;exact absurd h2 (by decide)
  |cons c r=>
   rw[hs] at h2;have h2:cls c=2:=h2;refine⟨c,r,rfl,by rintro rfl;exact absurd h2 (by decide),by rw[h2];decide,λ_=>?_⟩;cases hd:Tk.digit c with
   |false=>rfl
   |true=>rw[Ij hd] at h2;cases h2
 |chan c h=>exact⟨9109,_,rfl,by decide,by decide,λ_=>by decide⟩
 |src c h=>exact⟨9054,_,rfl,by decide,by decide,λ_=>by decide⟩
 |sys c h=>exact⟨9109,_,rfl,by decide,by decide,λ_=>by decide⟩
 |gly c h=>
  obtain⟨h1,h2,h3,h4,h5⟩:=Cm h;exact⟨c,[],rfl,h5,by omega,λ_=>(Ls h).2.2⟩
def pcC:List (Option Tok)->List Int
 | []=>[]
 |none::r=>32::pcC r
 |some x::r=>Af x++pcC r
def Qc:List (Option Tok)->List Tok
 | []=>[]
 |none::r=>Qc r
 |some x::r=>x::Qc r
def Hf:List (Option Tok)->Int
 |some y::_=>y.kind
 |_=>7
def Ic:List (Option Tok)->Prop
 | []=>True
 |none::r=>Ic r
 |some x::r=>Uj x/\(x.kind=7\/Hf r=7)/\(x.kind=7->x.c=46->Hf r≠0)/\Ic r
theorem Iq:∀(a b:List (Option Tok)),pcC (a++b)=pcC a++pcC b
 | [],b=>rfl
 |none::r,b=>by show 32::pcC (r++b)=32::(pcC r++pcC b);rw[Iq r b]
 |some x::r,b=>by show Af x++pcC (r++b)=(Af x++pcC r)++pcC b;rw[Iq r b,List.append_assoc]
theorem Rd:∀(a b:List (Option Tok)),Qc (a++b)=Qc a++Qc b
 | [],b=>rfl
 |none::r,b=>Rd r b
 |some x::r,b=>by show x::Qc (r++b)=x::(Qc r++Qc b);rw[Rd r b]
theorem Pia {x:Tok}(h:Uj x)(h7:x.kind=7):∃c,x=Pr.g c/\gly c=true:=by
 cases h with
 |gly c h=>exact⟨c,rfl,h⟩
 |_=>cases h7
theorem Uea {x:Tok}{r:List (Option Tok)}(h:Ic (some x::r)):Fba x (pcC r):=by
 obtain⟨h1,h2,h3,h4⟩:=h;by_cases h7:x.kind=7
 ·unfold Fba;rw[if_neg (by omega),if_neg (by omega),if_pos h7];trivial
 replace h2:Hf r=7:=h2.resolve_left h7;have key:word (Ac (pcC r))=false/\Ac (pcC r)≠175/\Ac (pcC r)≠39/\(Ac (pcC r)=46->Tk.digit ((pcC r).getD 1 (-1))=false):=by
  cases r with
  |nil=>exact⟨by decide,by decide,by decide,λh=>absurd h (by decide)⟩
  |cons y r=>
   cases y with
   |none=>exact⟨by show word 32=false;decide,by show(32:Int)≠175;decide,by show(32:Int)≠39;decide,λh=>absurd (show(32:Int)=46 from h) (by decide)⟩
   |some y=>
    obtain⟨g1,g2,g3,g4⟩:=h4;have h2:y.kind=7:=h2;obtain⟨c,rfl,hc⟩:=Pia g1 h2;refine⟨(Ls hc).1,(Ls hc).2.1,(Cm hc).2.1,λh=>?_⟩;have h5:=g3 rfl h;show Tk.digit ((c::pcC r).getD 1 (-1))=false;show Tk.digit (Ac (pcC r))=false;cases r with
    |nil=>decide
    |cons u r=>
     cases u with
     |none=>show Tk.digit 32=false;decide
     |some u=>
      have hu:Uj u:=g4.1;obtain⟨d,s,e,_,_,hd⟩:=Q1 hu;show Tk.digit (Ac (Af u++pcC r))=false;rw[e];exact hd h5
 unfold Fba;by_cases h0:x.kind=0
 ·rw[if_pos h0];exact⟨key.1,key.2.1,key.2.2.2⟩
 rw[if_neg h0];by_cases h1':x.kind=1
 ·rw[if_pos h1'];exact key.2.2.1
 rw[if_neg h1',if_neg h7];exact key.1
theorem An:∀(ps:List (Option Tok)) (P:List Int) (out:List Tok) (f:Nat),Ic ps->(pcC ps).length<f->∃T,goF (P++pcC ps) f P.length out=(out++T,0,0)/\Pr.Sm T (Qc ps)
 | [],P,out,f,_,hf=>by
  cases f with
  |zero=>omega
  |succ f=>exact⟨[],by rw[goF,if_pos (.inl (by simp[pcC]))];simp,rfl⟩
 |none::r,P,out,f,h,hf=>by
  cases f with
  |zero=>omega
  |succ f=>
   have hf':(pcC r).length+1<f+1:=hf;have e:P++pcC (none::r)=(P++[32])++pcC r:=by simp[pcC]
   have g0:(P++pcC (none::r)).getD P.length (-1)=32:=Wg (R:=32::pcC r) rfl;obtain⟨T,h1,h2⟩:=An r (P++[32]) out f h (by omega);refine⟨T,?_,h2⟩;rw[goF,g0,if_neg (by simp[pcC]),if_pos (by decide),e,show P.length+1=(P++[32]).length by simp,h1]
 |some x::r,P,out,f,h,hf=>by
  have hs:=Uea h;obtain⟨h1,h2,h3,h4⟩:=h;obtain⟨c,s,e,hc1,hc2,hc3⟩:=Q1 h1;cases f with
  |zero=>omega
  |succ f=>
   have hlen:(pcC (some x::r)).length=(Af x).length+(pcC r).length:=by show(Af x++pcC r).length=_;rw[List.length_append]
   have hl0:1<=(Af x).length:=by rw[e];simp
   have g0:(P++pcC (some x::r)).getD P.length (-1)=c:=by
    rw[Wg rfl];show Ac (Af x++pcC r)=c;rw[e];rfl
   have hr:= @read_right P (Af x++pcC r) 0;rw[Oia h1 hs] at hr;rw[if_pos rfl,Nat.add_zero] at hr;obtain⟨T,h5,h6⟩:=An r (P++Af x) (out++[Sy P.length x]) f h4 (by omega);refine⟨Sy P.length x::T,?_,?_⟩
   ·have e2:P++pcC (some x::r)=P++(Af x++pcC r):=rfl
    rw[goF,g0,if_neg (by rintro(h |h);rw[List.length_append,hlen] at h;omega;exact hc1 h),if_neg hc2,e2,hr];dsimp only;rw[if_neg (by simp),<-List.append_assoc,show P.length+(Af x).length=(P++Af x).length by simp,h5];simp
   show(Sy P.length x::T).map Pr.z=(x::Qc r).map Pr.z;rw[List.map_cons,List.map_cons,show T.map Pr.z=(Qc r).map Pr.z from h6];rfl
end Lx
namespace Pr
open Tr Tk
theorem Rc (c:Int)(r:List Tok):gl (g c::r) 0=c:=rfl
theorem Zna (x:Tok)(r:List Tok):gl (x::r) 1=gl r 0:=by cases r<;>rfl
def Opf (T:List Tok):Prop:=monops.contains (gl T 0)=false/\dyops.contains (gl T 0)=false
theorem Opf.cons {x:Tok}{r:List Tok}(h:Opf [x]):Opf (x::r):=h
def Si:List Int:=[91,8592,59,93,58,41,125,8900]
theorem Fl {T:List Tok}(h:kd T 0≠7):gl T 0=0:=by unfold gl;rw[if_neg h]
theorem S8 {T:List Tok}(h:begA T=true):gl T 0=0\/gl T 0=9082\/gl T 0=9077\/gl T 0=40:=by
 unfold begA at h;simp only[Bool.or_eq_true,beq_iff_eq] at h;rcases h with((((((h |h) |h) |h) |h) |h) |h) |h
 ·exact .inl (Fl (by rw[h];decide))
 ·exact .inl (Fl (by rw[h];decide))
 ·exact .inl (Fl (by rw[h];decide))
 ·exact .inl (Fl (by rw[h];decide))
 ·exact .inl (Fl (by rw[h];decide))
 ·exact .inr (.inl h)
 ·exact .inr (.inr (.inl h))
 exact .inr (.inr (.inr h))
theorem Qia {T:List Tok}(h:begA T=true):Opf T:=by
 unfold Opf;rcases S8 h with h |h |h |h<;>rw[h]<;>decide
theorem Wt {T:List Tok}(h:begA T=true){c:Int}(hc:c∈Si):gl T 0≠c:=by
 intro e;have:Si.contains (gl T 0)=true:=by rw[e];exact List.contains_iff_mem.2 hc
 rcases S8 h with h |h |h |h<;>rw[h] at this<;>exact absurd this (by decide)
theorem Xg {c d:Int}(h:Tr.glyph c=true)(hd:Tr.glyph d=false):c≠d:=by rintro rfl;rw[h] at hd;cases hd
theorem K6:∀c∈Si,Tr.glyph c=false:=by decide
theorem Xt {T:List Tok}(h:begF T=true){c:Int}(hc:c∈Si):gl T 0≠c:=by
 have hg:=K6 c hc;have h0:c≠0:=by rintro rfl;exact absurd hc (by decide)
 have h1:c≠8711:=by rintro rfl;exact absurd hc (by decide)
 have h2:c≠123:=by rintro rfl;exact absurd hc (by decide)
 have h3:c≠8728:=by rintro rfl;exact absurd hc (by decide)
 unfold begF begP at h;simp only[Bool.or_eq_true,beq_iff_eq] at h;rcases h with((((h |h) |h) |h) |h) |h
 ·rw[Fl (by rw[h];decide)];exact Ne.symm h0
 ·rw[Fl (by rw[h];decide)];exact Ne.symm h0
 ·rw[h];exact Ne.symm h1
 ·rw[h];exact Ne.symm h2
 ·exact Xg h hg
 rw[h];exact Ne.symm h3
def S1 (x:Tok)(r:List Tok):Prop:=∀rest,gl rest 0≠8592->¬(x.kind=3/\gl (r++rest) 0=8592)
def StartF (s:List Tok)(first:Bool):Prop:=∃x r,s=x::r/\begA [x]=false/\begF [x]=true/\(first=false->Opf [x])/\S1 x r
def StartA (s:List Tok)(k:Int)(wrap:Bool):Prop:=∃x r,s=x::r/\(k≠11->begA [x]=true)/\(k=11->begA [x]=false/\begF [x]=true/\(wrap=false->Opf [x]))/\S1 x r
theorem Yh {x:Tok}{r:List Tok}(h:x.kind≠3):S1 x r:=λ_ _ h2=>h h2.1
theorem Vea {x:Tok}(h:begA [x]=true):x.kind≠3:=by
 intro e;have h2:kd [x] 0=3:=e;have h3:gl [x] 0=0:=Fl (by rw[h2];decide);unfold begA at h;rw[h2,h3] at h;exact absurd h (by decide)
theorem Jc {x:Tok}{r:List Tok}{k:Int}{w:Bool}(h:begA [x]=true)(hk:k≠11):StartA (x::r) k w:=
 ⟨x,r,rfl,λ_=>h,λe=>absurd e hk,Yh (Vea h)⟩
theorem StartA.beg {s:List Tok}{k:Int}{w:Bool}(h:StartA s k w)(rest:List Tok){c:Int}(hc:c∈Si):gl (s++rest) 0≠c:=by
 obtain⟨x,r,rfl,h1,h2,_⟩:=h;by_cases hk:k=11
 ·exact Xt (T:=x::(r++rest)) (h2 hk).2.1 hc
 exact Wt (T:=x::(r++rest)) (h1 hk) hc
theorem StartA.begA {s:List Tok}{k:Int}{w:Bool}(h:StartA s k w)(hk:k≠11)(rest:List Tok):begA (s++rest)=true:=by
 obtain⟨x,r,rfl,h1,_⟩:=h;exact h1 hk
theorem StartF.begs {s:List Tok}{b:Bool}(h:StartF s b)(rest:List Tok):Pr.begA (s++rest)=false/\begF (s++rest)=true:=by
 obtain⟨x,r,rfl,h1,h2,_⟩:=h;exact⟨h1,h2⟩
theorem StartF.beg {s:List Tok}{b:Bool}(h:StartF s b)(rest:List Tok){c:Int}(hc:c∈Si):gl (s++rest) 0≠c:=Xt (h.begs rest).2 hc
theorem StartA.behind {a:Tree}(h:StartA (tk a) (kind a) (Tr.kd a).wrap)(rest:List Tok):Opf (tbehind (kt a)++rest)/\∀c∈Si,gl (tbehind (kt a)++rest) 0≠c:=by
 unfold tbehind kt;dsimp only;by_cases hw:(Tr.kd a).wrap=true
 ·rw[if_pos hw]
  unfold tin;refine⟨by unfold Opf;rw[List.cons_append,Rc];decide,λc hc=>?_⟩;rw[List.cons_append,Rc];rintro rfl;exact absurd hc (by decide)
 rw[if_neg hw];refine⟨?_,λc hc=>h.beg rest hc⟩;obtain⟨x,r,e,h1,h2,_⟩:=h;rw[e];by_cases hk:kind a=11
 ·exact(h2 hk).2.2 (by simpa using hw)
 exact Qia (T:=x::(r++rest)) (h1 hk)
theorem StartA.item {a:Tree}(ha:array (kind a)=true)(h:StartA (tk a) (kind a) (Tr.kd a).wrap):∃x r,titem (kt a)=x::r/\Pr.begA [x]=true:=by
 unfold titem kt;dsimp only;by_cases hi:Tr.item (kind a)=true
 ·rw[if_pos hi]
  obtain⟨x,r,e,h1,_⟩:=h;exact⟨x,r,e,h1 (by intro e;rw[e] at hi;exact absurd hi (by decide))⟩
 rw[if_neg hi];exact⟨_,_,rfl,by decide⟩
theorem parts1 {p:Int->Bool}:∀{l:List Tree},Oa (l.map kind) [p]=true->∃a,l=[a]/\p (kind a)=true
 | [],h=>by simp[Oa] at h
 | [a],h=>⟨a,rfl,by simpa [Oa] using h⟩
 |a::b::r,h=>by simp[Oa] at h
theorem parts2 {p q:Int->Bool}:∀{l:List Tree},Oa (l.map kind) [p,q]=true->∃a b,l=[a,b]/\p (kind a)=true/\q (kind b)=true
 | [],h=>by simp[Oa] at h
 | [a],h=>by simp[Oa] at h
 | [a,b],h=>⟨a,b,rfl,by simpa [Oa] using h⟩
 |a::b::c::r,h=>by simp[Oa] at h
theorem Wea {p q s:Int->Bool}:∀{l:List Tree},Oa (l.map kind) [p,q,s]=true->∃a b c,l=[a,b,c]/\p (kind a)=true/\q (kind b)=true/\s (kind c)=true
 | [],h=>by simp[Oa] at h
 | [a],h=>by simp[Oa] at h
 | [a,b],h=>by simp[Oa] at h
 | [a,b,c],h=>⟨a,b,c,rfl,by simpa [Oa] using h⟩
 |a::b::c::d::r,h=>by simp[Oa] at h
theorem more2 {p q:Int->Bool}{l:List Tree}(h:(decide (2<=(l.map kind).length)&&p ((l.map kind).getD 0 0)&&((l.map kind).drop 1).all q)=true):∃a b r,l=a::b::r/\p (kind a)=true/\∀x∈b::r,q (kind x)=true:=by
 match l with
 | []=>simp at h
 | [a]=>simp at h
 |a::b::r=>refine⟨a,b,r,rfl,?_,?_⟩<;>simp_all
theorem Ria {p:Int->Bool}{l:List Tree}(h:(decide (2<=(l.map kind).length)&&(l.map kind).all p)=true):∃a b r,l=a::b::r/\∀x∈a::b::r,p (kind x)=true:=by
 match l with
 | []=>simp at h
 | [a]=>simp at h
 |a::b::r=>refine⟨a,b,r,rfl,?_⟩;simp_all
theorem alls_mem:∀{l:List Tree},Bd l=true->∀a∈l,all a=true
 | [],_,_,h=>by cases h
 |b::r,ha,a,h=>by
  unfold Bd at ha;simp only[Bool.and_eq_true] at ha;rcases List.mem_cons.1 h with rfl |h
  ·exact ha.1
  exact alls_mem ha.2 a h
theorem M6 {k:Int}(h:array k=true):k=1\/k=2\/k=3\/k=4\/k=5\/k=6\/k=7\/k=8\/k=9\/k=11\/k=12\/k=13\/k=14\/k=15\/k=16:=by
 unfold array at h;simp only[Bool.and_eq_true,decide_eq_true_eq,Bool.not_eq_true',beq_eq_false_iff_ne] at h;omega
theorem Hba {k:Int}(h:Tr.func k=true):k=17\/k=18\/k=19\/k=20\/k=21\/k=22\/k=23\/k=24:=by
 unfold Tr.func at h;simp only[Bool.and_eq_true,decide_eq_true_eq] at h;omega
theorem Jq {n:Rt.Nm}(h:zero n=true):n=Rt.none_:=by
 obtain⟨a,b,c⟩:=n;unfold zero at h;simp only[Bool.and_eq_true,Bool.not_eq_true',List.isEmpty_iff] at h;obtain⟨⟨rfl,rfl⟩,rfl⟩:=h;rfl
end Pr
namespace Pr
open Tr Tk
theorem Dh {k o:Int}{m:List UInt8}{n:Rt.Nm}{t:List Int}(h:Ta k o m n t=true)(hk:k=4\/k=5\/k=8\/k=9\/k=10\/k=11\/k=12\/k=19\/k=20\/k=24\/k=25\/k=26\/k=28):o=0/\m=[]/\n=Rt.none_/\t=[]:=by
 rcases hk with h' |h' |h' |h' |h' |h' |h' |h' |h' |h' |h' |h' |h'<;>subst h'<;>simp[Ta] at h<;>exact⟨h.2,h.1.2,Jq h.1.1.1,h.1.1.2⟩
theorem names {k o:Int}{m:List UInt8}{n:Rt.Nm}{t:List Int}(h:Ta k o m n t=true)(hk:k=3\/k=13\/k=14\/k=15\/k=18\/k=27):o=0/\n=Rt.none_/\t=[]/\Ua m (decide (k=18\/k=27))=true:=by
 rcases hk with h' |h' |h' |h' |h' |h'<;>subst h'<;>simp[Ta] at h<;>exact⟨h.2,Jq h.1.1.1,h.1.1.2,by simpa using h.1.2⟩
theorem Ms {k o:Int}{m:List UInt8}{n:Rt.Nm}{t:List Int}(h:Ta k o m n t=true)(hk:k=6\/k=7\/k=16\/k=17\/k=21\/k=22\/k=23):m=[]/\n=Rt.none_/\t=[]:=by
 rcases hk with h' |h' |h' |h' |h' |h' |h'<;>subst h'<;>simp[Ta] at h<;>exact⟨h.1.2,Jq h.1.1.1,h.1.1.2⟩
theorem held17 {o:Int}{m:List UInt8}{n:Rt.Nm}{t:List Int}(h:Ta 17 o m n t=true):Tr.glyph o=true:=by simp[Ta] at h;exact h.2
theorem held21 {o:Int}{m:List UInt8}{n:Rt.Nm}{t:List Int}(h:Ta 21 o m n t=true):o=0\/o=1:=by simp[Ta] at h;exact h.2
theorem held22 {o:Int}{m:List UInt8}{n:Rt.Nm}{t:List Int}(h:Ta 22 o m n t=true):monops.contains o=true:=by unfold Ta at h;simp only[Bool.and_eq_true] at h;simpa using h.2
theorem held23 {o:Int}{m:List UInt8}{n:Rt.Nm}{t:List Int}(h:Ta 23 o m n t=true):dyops.contains o=true:=by unfold Ta at h;simp only[Bool.and_eq_true] at h;simpa using h.2
theorem Xea {o:Int}(h:Tr.glyph o=true)(h2:Uf.contains o=false):Opf [g o]:=by
 have key:∀d∈([0xA8,0x2368,0x2E,0x2218,0x2364,0x2363]:List Int),Tr.glyph d=false:=by decide
 refine⟨?_,?_⟩
 ·cases hc:monops.contains o with
  |false=>exact hc
  |true=>
   rw[List.contains_iff_mem] at hc;have h3:o∈Uf\/o∈([0xA8,0x2368,0x2E,0x2218,0x2364,0x2363]:List Int):=by
    unfold monops at hc;unfold Uf;simp only[List.mem_cons,List.not_mem_nil,or_false] at hc⊢;rcases hc with h |h |h |h |h |h<;>simp[h]
   rcases h3 with h3 |h3
   ·rw[List.contains_iff_mem.2 h3] at h2;cases h2
   rw[key o h3] at h;cases h
 cases hc:dyops.contains o with
 |false=>exact hc
 |true=>
  rw[List.contains_iff_mem] at hc;have h3:o∈([0xA8,0x2368,0x2E,0x2218,0x2364,0x2363]:List Int):=by
   unfold dyops at hc;simp only[List.mem_cons,List.not_mem_nil,or_false] at hc⊢;rcases hc with h |h |h |h<;>simp[h]
  rw[key o h3] at h;cases h
theorem Uw {o:Int}(h:Tr.glyph o=true):begA [g o]=false/\begF [g o]=true:=by
 have h1:o≠9082:=Xg h (by decide);have h2:o≠9077:=Xg h (by decide);have h3:o≠40:=Xg h (by decide)
 constructor
 ·simp[begA,kd,gl,g,h1,h2,h3]
 simp[begF,begP,kd,gl,g,h]
structure Yt (t:Tree):Prop where
 f:Tr.func (kind t)=true->StartF (tk t) (Tr.kd t).first
 a:array (kind t)=true->StartA (tk t) (kind t) (Tr.kd t).wrap
theorem Vw {o:Int}(h:monops.contains o=true):o≠8592/\o≠91:=by
 constructor<;>rintro rfl<;>exact absurd h (by decide)
theorem X1 {o:Int}(h:dyops.contains o=true):o≠8592/\o≠91/\monops.contains o=false:=by
 refine⟨?_,?_,?_⟩
 ·rintro rfl;exact absurd h (by decide)
 ·rintro rfl;exact absurd h (by decide)
 rw[List.contains_iff_mem] at h;unfold dyops at h;simp only[List.mem_cons,List.not_mem_nil,or_false] at h;rcases h with h |h |h |h<;>subst h<;>decide
theorem StartF.app {s r:List Tok}{b:Bool}(h:StartF s b)(hr:∀rest,gl rest 0≠8592->gl (r++rest) 0≠8592):StartF (s++r) b:=by
 obtain⟨x,y,rfl,h1,h2,h3,h4⟩:=h;refine⟨x,y++r,rfl,h1,h2,h3,λrest hrest=>?_⟩;rw[List.append_assoc];exact h4 _ (hr rest hrest)
theorem Yea:∀n (t:Tree),SizeOf.sizeOf t<n->all t=true->Yt t
 | 0,t,h,_=>by omega
 |n+1,.mk k o m nm tx l,hn,hall=>by
  obtain⟨hh,hm,hl⟩:=Sb hall;have ih:∀a∈l,Yt a:=λa ha=>Yea n a (by have:=List.sizeOf_lt_of_mem ha;simp only[Tree.mk.sizeOf_spec] at hn;omega) (alls_mem hl a ha)
  constructor
  ·intro hf
   show StartF (tk (.mk k o m nm tx l)) (Tr.kd (.mk k o m nm tx l)).first;rw[Be,Tr.kd];rcases Hba (k:=k) hf with h |h |h |h |h |h |h |h<;>subst h
   ·have hg:=held17 hh
    exact⟨g o,[],rfl,(Uw hg).1,(Uw hg).2,λe=>Xea hg (by simpa [Mt] using e),Yh (by show(7:Int)≠3;decide)⟩
   ·exact⟨_,[],rfl,rfl,rfl,λ_=>⟨rfl,rfl⟩,λrest hr h=>hr h.2⟩
   ·exact⟨g 8711,[],rfl,by decide,by decide,λ_=>⟨rfl,rfl⟩,Yh (by decide)⟩
   ·exact⟨g 123,_,rfl,by decide,by decide,λ_=>⟨rfl,rfl⟩,Yh (by decide)⟩
   ·exact⟨_,[],rfl,rfl,rfl,λ_=>⟨rfl,rfl⟩,Yh (by show(6:Int)≠3;decide)⟩
   ·obtain⟨a,rfl,ha⟩:=parts1 (l:=l) (p:=Tr.func) (by simpa [Pb] using hm)
    have ho:=Vw (held22 hh);have h1:=((ih a (by simp)).f ha).app (r:=[g o]) (λrest _=>by rw[List.cons_append,Rc];exact ho.1);exact h1
   ·obtain⟨a,b,rfl,ha,hb⟩:=parts2 (l:=l) (p:=Tr.func) (q:=λx=>(Tr.plain x&& !(o==0x2364))||(array x&&((o==0x2364)||(o==0x2363)))) (by simpa [Pb] using hm)
    have ho:=X1 (held23 hh);have h1:=((ih a (by simp)).f ha).app (r:=g o::(if array (kind b) then titem (kt b) else tk b)) (λrest _=>by rw[List.cons_append,Rc];exact ho.1);exact h1
   exact⟨g 8728,_,rfl,by decide,by decide,λh=>by simp[Mt] at h,Yh (by decide)⟩
  intro hf;show StartA (tk (.mk k o m nm tx l)) k (Tr.kd (.mk k o m nm tx l)).wrap;rw[Be];rcases M6 (k:=k) hf with h |h |h |h |h |h |h |h |h |h |h |h |h |h |h<;>subst h
  ·exact Jc (x:=⟨0,nm,[],[],0,0⟩) (r:=[]) rfl (by decide)
  ·exact Jc (x:=⟨1,Rt.none_,tx,[],0,0⟩) (r:=[]) rfl (by decide)
  ·exact Jc (x:=⟨2,Rt.none_,[],m,0,0⟩) (r:=[]) rfl (by decide)
  ·exact Jc (x:=g 9082) (r:=[]) (by decide) (by decide)
  ·exact Jc (x:=g 9077) (r:=[]) (by decide) (by decide)
  ·exact Jc (x:=⟨4,Rt.none_,[],[],o,0⟩) (r:=[]) rfl (by decide)
  ·exact Jc (x:=⟨5,Rt.none_,[],[],o,0⟩) (r:=[]) rfl (by decide)
  ·obtain⟨a,b,r,rfl,ha⟩:=Ria (l:=l) (p:=array) (by simpa [Pb] using hm)
   obtain⟨x,y,e,hx⟩:=((ih a (by simp)).a (ha a (by simp))).item (ha a (by simp));show StartA (tjoin [] (titem (kt a)::titem (kt b)::(r.map kt).map titem)) 8 _;rw[e];exact Jc (r:=y++_) hx (by decide)
  ·obtain⟨a,b,r,rfl,ha,hb⟩:=more2 (l:=l) (p:=array) (q:=Ke) (by simpa [Pb] using hm)
   obtain⟨x,y,e,hx⟩:=((ih a (by simp)).a ha).item ha;show StartA (titem (kt a)++_) 9 _;rw[e];exact Jc (r:=y++_) hx (by decide)
  ·obtain⟨a,b,rfl,ha,hb⟩:=parts2 (l:=l) (p:=Tr.func) (q:=array) (by simpa [Pb] using hm)
   have hb':=((ih b (by simp)).a hb);obtain⟨x,y,e,h1,h2,h3,h4⟩:=((ih a (by simp)).f ha).app (r:=tbehind (kt b)) (λrest _=>(hb'.behind rest).2 _ (by decide));refine⟨x,y,e,λh=>absurd rfl h,λ_=>⟨h1,h2,λhw=>h3 ?_⟩,h4⟩
   simpa [Tr.kd,Mt,Ve,Tr.nth] using hw
  ·obtain⟨a,b,c,rfl,ha,hb,hc⟩:=Wea (l:=l) (p:=array) (q:=Tr.func) (s:=array) (by simpa [Pb] using hm)
   have ha':=(ih a (by simp)).a ha;show StartA ((if kind a=8 then tk a else titem (kt a))++_) 12 _;by_cases h8:kind a=8
   ·rw[if_pos h8]
    obtain⟨x,y,e,h1,_⟩:=ha';rw[e];exact Jc (r:=y++_) (h1 (by rw[h8];decide)) (by decide)
   rw[if_neg h8];obtain⟨x,y,e,hx⟩:=ha'.item ha;rw[e];exact Jc (r:=y++_) hx (by decide)
  ·exact Jc (x:=⟨2,Rt.none_,[],m,0,0⟩) rfl (by decide)
  ·exact Jc (x:=⟨2,Rt.none_,[],m,0,0⟩) rfl (by decide)
  ·exact Jc (x:=⟨2,Rt.none_,[],m,0,0⟩) rfl (by decide)
  exact Jc (x:=⟨4,Rt.none_,[],[],o,0⟩) rfl (by decide)
end Pr
namespace Lx
open Tr Tk Go
abbrev p (c:Int):Option Tok:=some (Pr.g c)
structure Kp where
 kind:Int
 wrap:Bool
 pcs:List (Option Tok)
def nthP (l:List Kp)(i:Nat):Kp:=l.getD i ⟨0,false,[]⟩
def Y1 (s:List (Option Tok)):List (Option Tok):=p 40::(s++[p 41])
def Lg (a:Kp):List (Option Tok):=if item a.kind then a.pcs else Y1 a.pcs
def Ce (a:Kp):List (Option Tok):=if a.wrap then Y1 a.pcs else a.pcs
def Oe (b:List (Option Tok)):List (List (Option Tok))->List (Option Tok)
 | []=>[]
 | [s]=>s
 |s::y::r=>s++(b++Oe b (y::r))
def Eh (l:List Kp):List (Option Tok):=p 91::(Oe [p 59] (l.map Kp.pcs)++[p 93])
def Kq (k o:Int)(m:List UInt8)(n:Rt.Nm)(t:List Int):List (Option Tok):=(Pr.leafK k o m n t).map some
def Bn (k o:Int)(m:List UInt8)(n:Rt.Nm)(t:List Int)(l:List Kp):List (Option Tok):=
 if k=8 then Oe [none] (l.map Lg)
 else if k=9 then Lg (nthP l 0)++Eh (l.drop 1)
 else if k=11 then(nthP l 0).pcs++none::Ce (nthP l 1)
 else if k=12 then(if(nthP l 0).kind=8 then(nthP l 0).pcs else Lg (nthP l 0))++none::((nthP l 1).pcs++none::Ce (nthP l 2))
 else if k=13 then some ⟨2,Rt.none_,[],m,0,0⟩::p 8592::(nthP l 0).pcs
 else if k=27 then some ⟨3,Rt.none_,[],m,0,0⟩::p 8592::(nthP l 0).pcs
 else if k=14 then some ⟨2,Rt.none_,[],m,0,0⟩::(Eh (l.drop 1)++p 8592::(nthP l 0).pcs)
 else if k=15 then some ⟨2,Rt.none_,[],m,0,0⟩::none::((nthP l 0).pcs++p 8592::(nthP l 1).pcs)
 else if k=16 then some ⟨4,Rt.none_,[],[],o,0⟩::p 8592::(nthP l 0).pcs
 else if k=20 then p 123::(Oe [p 8900] (l.map Kp.pcs)++[p 125])
 else if k=22 then(nthP l 0).pcs++[p o]
 else if k=23 then(nthP l 0).pcs++p o::(if array (nthP l 1).kind then Lg (nthP l 1) else(nthP l 1).pcs)
 else if k=24 then p 8728::p 46::(nthP l 0).pcs
 else if k=25 then Oe [p 58] (l.map Kp.pcs)
 else if k=26 then Oe [p 58,p 58] (l.map Kp.pcs)
 else if k=28 then Oe [p 8900] (l.map Kp.pcs)
 else Kq k o m n t
mutual
def pc:Tree->List (Option Tok)
 | .mk k o m n t l=>Bn k o m n t (pcs l)
def pcs:List Tree->List Kp
 | []=>[]
 |a::r=>⟨kind a,(Tr.kd a).wrap,pc a⟩::pcs r
end
def kp (a:Tree):Kp:=⟨kind a,(Tr.kd a).wrap,pc a⟩
theorem U8:∀l:List Tree,pcs l=l.map kp
 | []=>rfl
 |t::r=>by rw[pcs,U8 r];rfl
theorem Ty (k o:Int)(m:List UInt8)(n:Rt.Nm)(t:List Int)(l:List Tree):pc (.mk k o m n t l)=Bn k o m n t (l.map kp):=by rw[pc,U8]
def Dm (a:Kp):Pr.Kt:=⟨a.kind,a.wrap,Qc a.pcs⟩
theorem J2:∀l:List Tok,Qc (l.map some)=l
 | []=>rfl
 |x::r=>by show x::Qc (r.map some)=_;rw[J2 r]
theorem Ph (b:List (Option Tok)):∀L:List (List (Option Tok)),Qc (Oe b L)=Pr.tjoin (Qc b) (L.map Qc)
 | []=>rfl
 | [s]=>rfl
 |s::y::r=>by
  show Qc (s++(b++Oe b (y::r)))=Qc s++(Qc b++Pr.tjoin (Qc b) ((y::r).map Qc));rw[Rd,Rd,Ph b (y::r)]
theorem Zea (s:List (Option Tok)):Qc (Y1 s)=Pr.tin (Qc s):=by
 show Pr.g 40::Qc (s++[p 41])=_;rw[Rd];rfl
theorem Cn (a:Kp):Qc (Lg a)=Pr.titem (Dm a):=by
 unfold Lg Pr.titem Dm;dsimp only;cases item a.kind
 ·exact Zea _
 rfl
theorem Zt (a:Kp):Qc (Ce a)=Pr.tbehind (Dm a):=by
 unfold Ce Pr.tbehind Dm;dsimp only;cases a.wrap
 ·rfl
 exact Zea _
theorem Bma (l:List Kp)(i:Nat):Pr.nthK (l.map Dm) i=Dm (nthP l i):=by
 unfold Pr.nthK nthP;rw[List.getD_eq_getElem?_getD,List.getD_eq_getElem?_getD,List.getElem?_map];cases l[i]? <;>rfl
theorem Vk (l:List Kp):(l.map Kp.pcs).map Qc=(l.map Dm).map Pr.Kt.toks:=by
 rw[List.map_map,List.map_map];rfl
theorem Au (l:List Kp):Qc (Eh l)=Pr.tplaces (l.map Dm):=by
 show Pr.g 91::Qc (Oe [p 59] (l.map Kp.pcs)++[p 93])=_;rw[Rd,Ph,Vk];rfl
theorem Cma (k o:Int)(m:List UInt8)(n:Rt.Nm)(t:List Int)(l:List Kp):Qc (Bn k o m n t l)=Pr.asmK k o m n t (l.map Dm):=by
 have hd:(l.map Dm).drop 1=(l.drop 1).map Dm:=by rw[List.map_drop]
 have key:∀{c:Prop} [Decidable c] {a b:List (Option Tok)} {a' b':List Tok},(c->Qc a=a')->(¬c->Qc b=b')->Qc (if c then a else b)=if c then a' else b':=by
  intro c _ a b a' b' h1 h2;by_cases h:c
  ·rw[if_pos h,if_pos h];exact h1 h
  rw[if_neg h,if_neg h];exact h2 h
 unfold Bn Pr.asmK;simp only[Bma,hd];refine key (λ_=>?_) (λ_=>key (λ_=>?_) (λ_=>key (λ_=>?_) (λ_=>key (λ_=>?_) (λ_=>key (λ_=>?_) (λ_=>key (λ_=>?_) (λ_=>key (λ_=>?_) (λ_=>key (λ_=>?_) (λ_=>key (λ_=>?_) (λ_=>key (λ_=>?_) (λ_=>key (λ_=>?_) (λ_=>key (λ_=>?_) (λ_=>key (λ_=>?_) (λ_=>key (λ_=>?_) (λ_=>key (λ_=>?_) (λ_=>key (λ_=>?_) (λ_=>?_))))))))))))))))
 ·rw[Ph,List.map_map,List.map_map]
  congr 1
  exact List.map_congr_left λa _=>Cn a
 ·rw[Rd,Cn,Au]
 ·rw[Rd];show _++Qc (Ce _)=_;rw[Zt];rfl
 ·rw[Rd]
  show _++Qc ((nthP l 1).pcs++none::Ce (nthP l 2))=_;rw[Rd];show _++(_++Qc (Ce (nthP l 2)))=_;rw[Zt]
  congr 1
  exact key (λ_=>rfl) (λ_=>Cn _)
 ·rfl
 ·rfl
 ·show _::Qc (Eh (l.drop 1)++p 8592::(nthP l 0).pcs)=_
  rw[Rd,Au];rfl
 ·show _::Qc ((nthP l 0).pcs++p 8592::(nthP l 1).pcs)=_
  rw[Rd];rfl
 ·rfl
 ·show _::Qc (Oe [p 8900] (l.map Kp.pcs)++[p 125])=_
  rw[Rd,Ph,Vk];rfl
 ·rw[Rd];rfl
 ·rw[Rd]
  show _++_::Qc (if array (nthP l 1).kind=true then Lg (nthP l 1) else(nthP l 1).pcs)=_
  congr 2
  exact key (λ_=>Cn _) (λ_=>rfl)
 ·rfl
 ·rw[Ph,Vk];rfl
 ·rw[Ph,Vk];rfl
 ·rw[Ph,Vk];rfl
 exact J2 _
mutual
theorem Afa:∀t:Tree,Qc (pc t)=Pr.tk t
 | .mk k o m n t l=>by
  rw[pc,Pr.tk,Cma]
  congr 1
  exact V8 l
theorem V8:∀l:List Tree,(pcs l).map Dm=Pr.tks l
 | []=>rfl
 |a::r=>by
  rw[pcs,Pr.tks,List.map_cons,V8 r]
  congr 1
  unfold Dm;rw[Afa a]
end
theorem Bu (a b:List (Option Tok))(hb:Hf b=7):Hf (a++b)=Hf a:=by
 cases a with
 |nil=>exact hb
 |cons x r=>cases x<;>rfl
theorem Ed:∀{a b:List (Option Tok)},Ic a->Ic b->Hf b=7->Ic (a++b)
 | [],b,_,h2,_=>h2
 |none::r,b,h1,h2,h3=>Ed (a:=r) h1 h2 h3
 |some x::r,b,h1,h2,h3=>by
  obtain⟨g1,g2,g3,g4⟩:=h1;refine⟨g1,?_,?_,Ed g4 h2 h3⟩
  ·show x.kind=7\/Hf (r++b)=7
   rw[Bu r b h3];exact g2
  show x.kind=7->x.c=46->Hf (r++b)≠0;rw[Bu r b h3];exact g3
theorem Gp {c:Int}{b:List (Option Tok)}(hc:gly c=true)(h:Ic b)(h46:c=46->Hf b≠0):Ic (p c::b):=⟨Uj.gly c hc,.inl rfl,λ_=>h46,h⟩
theorem Jf {c:Int}{b:List (Option Tok)}(hc:gly c=true)(h:Ic b)(h46:c≠46):Ic (p c::b):=Gp hc h (λe=>absurd e h46)
theorem X8 {s:List (Option Tok)}(h:Ic s):Ic (Y1 s):=Jf (by decide) (Ed h (Jf (by decide) trivial (by decide)) rfl) (by decide)
theorem Hl {a:Kp}(h:Ic a.pcs):Ic (Lg a):=by
 unfold Lg
 split
 ·exact h
 exact X8 h
theorem Dr {a:Kp}(h:Ic a.pcs):Ic (Ce a):=by
 unfold Ce
 split
 ·exact X8 h
 exact h
theorem Il {b:List (Option Tok)}(hb:∀r,Ic r->Ic (b++r))(hk:∀r,Hf (b++r)=7):∀L:List (List (Option Tok)),(∀s∈L,Ic s)->Ic (Oe b L)
 | [],_=>trivial
 | [s],h=>h s (by simp)
 |s::y::r,h=>Ed (h s (by simp)) (hb _ (Il hb hk (y::r) (λx hx=>h x (by simp[hx])))) (hk _)
theorem Q2 {c:Int}(hc:gly c=true)(h46:c≠46)(L:List (List (Option Tok)))(h:∀s∈L,Ic s):Ic (Oe [p c] L):=
 Il (λr hr=>Gp hc hr (λe=>absurd e h46)) (λ_=>rfl) L h
theorem Er {l:List Kp}(h:∀a∈l,Ic a.pcs):Ic (Eh l):=
 Jf (by decide) (Ed (Q2 (by decide) (by decide) _ (λs hs=>by obtain⟨a,ha,rfl⟩:=List.mem_map.1 hs;exact h a ha)) (Jf (by decide) trivial (by decide)) rfl) (by decide)
theorem Bfa {l:List Kp}(h:∀a∈l,Ic a.pcs)(i:Nat):Ic (nthP l i).pcs:=by
 unfold nthP;rw[List.getD_eq_getElem?_getD];cases hx:l[i]? with
 |none=>trivial
 |some a=>exact h a (List.mem_of_getElem? hx)
theorem glyph_gly {o:Int}(h:Tr.glyph o=true):gly o=true:=by
 unfold Tr.glyph at h;simp only[Bool.or_eq_true,beq_iff_eq] at h;rcases h with h |h
 ·have h1:o≠39:=by rintro rfl;exact absurd h (by decide)
  have h2:o≠9109:=by rintro rfl;exact absurd h (by decide)
  have h3:o≠9054:=by rintro rfl;exact absurd h (by decide)
  have h4:o≠9053:=by rintro rfl;exact absurd h (by decide)
  unfold gly;rw[h];simp[h1,h2,h3,h4]
 rw[List.contains_iff_mem] at h;exact(show∀x∈Uf,gly x=true by decide) o h
theorem Z8 {o:Int}(h:monops.contains o=true):gly o=true/\o≠46:=by
 rw[List.contains_iff_mem] at h;exact(show∀x∈monops,gly x=true/\x≠46 by decide) o h
theorem Cfa {o:Int}(h:dyops.contains o=true):gly o=true:=by
 rw[List.contains_iff_mem] at h;exact(show∀x∈dyops,gly x=true by decide) o h
def NumOk:Tree->Prop
 | .mk k _ _ n _ l=>(k=1->(Dg.print n).length<=400)/\∀a∈l.attach,NumOk a.1
termination_by t=>SizeOf.sizeOf t
decreasing_by have:=List.sizeOf_lt_of_mem a.2;simp only[Tree.mk.sizeOf_spec];omega
theorem NumOk.kids {k o:Int}{m:List UInt8}{n:Rt.Nm}{t:List Int}{l:List Tree}(h:NumOk (.mk k o m n t l)):(k=1->(Dg.print n).length<=400)/\∀a∈l,NumOk a:=by
 rw[NumOk] at h;exact⟨h.1,λa ha=>h.2 ⟨a,ha⟩ (List.mem_attach _ _)⟩
theorem Vd {x:Tok}(h:Uj x):Ic [some x]:=⟨h,.inr rfl,λ_ _=>by decide,trivial⟩
theorem Jj {x:Tok}{r:List (Option Tok)}(h:Uj x)(h7:x.kind≠7)(hr:Ic r)(hk:Hf r=7):Ic (some x::r):=⟨h,.inr hk,λe=>absurd e h7,hr⟩
theorem ne7 {x:Tok}{k:Int}(h:x.kind=k)(hk:decide (k=7)=false):x.kind≠7:=by rw[h];exact of_decide_eq_false hk
theorem Fr {t:Tree}(h:Tr.plain (kind t)=true):Hf (pc t)≠0:=by
 obtain⟨k,o,m,n,tx,l⟩:=t;have h:Tr.plain k=true:=h;unfold Tr.plain at h;simp only[Bool.and_eq_true,decide_eq_true_eq] at h;rw[Ty];have:k=17\/k=18\/k=19\/k=20\/k=21:=by omega
 rcases this with h |h |h |h |h<;>subst h
 ·show(7:Int)≠0;decide
 ·show(3:Int)≠0;decide
 ·show(7:Int)≠0;decide
 ·show(7:Int)≠0;decide
 show(6:Int)≠0;decide
theorem Ela:∀n (t:Tree),SizeOf.sizeOf t<n->all t=true->NumOk t->Ic (pc t)
 | 0,t,h,_,_=>by omega
 |n+1,.mk k o m nm tx l,hn,hall,hno=>by
  obtain⟨hh,hm,hl⟩:=Sb hall;obtain⟨hno1,hno2⟩:=hno.kids;have ih:∀a∈l.map kp,Ic a.pcs:=by
   intro a ha;obtain⟨b,hb,rfl⟩:=List.mem_map.1 ha;exact Ela n b (by have:=List.sizeOf_lt_of_mem hb;simp only[Tree.mk.sizeOf_spec] at hn;omega) (Pr.alls_mem hl b hb) (hno2 b hb)
  have ihd:∀a∈(l.map kp).drop 1,Ic a.pcs:=λa ha=>ih a (List.mem_of_mem_drop ha);have hsep:∀c,gly c=true->c≠46->Ic (Oe [p c] ((l.map kp).map Kp.pcs)):=λc h1 h2=>Q2 h1 h2 _ (λs hs=>by obtain⟨a,ha,rfl⟩:=List.mem_map.1 hs;exact ih a ha);have hi:=Bfa ih;rw[Ty];rcases Classical.em (1<=k/\k<=28) with hk |hk
  rotate_left
  ·unfold Bn Kq Pr.leafK
   simp only[show¬k=1 by omega,show¬k=2 by omega,show¬k=3 by omega,show¬k=8 by omega,show¬k=9 by omega,show¬k=11 by omega,show¬k=12 by omega,show¬k=13 by omega,show¬k=14 by omega,show¬k=15 by omega,show¬k=16 by omega,show¬k=20 by omega,show¬k=22 by omega,show¬k=23 by omega,show¬k=24 by omega,show¬k=25 by omega,show¬k=26 by omega,show¬k=27 by omega,show¬k=28 by omega,show¬k=4 by omega,show¬k=5 by omega,show¬k=19 by omega,show¬k=6 by omega,show¬k=7 by omega,show¬k=17 by omega,show¬k=18 by omega,show¬k=21 by omega,if_false];trivial
  have hcases:k=1\/k=2\/k=3\/k=4\/k=5\/k=6\/k=7\/k=8\/k=9\/k=10\/k=11\/k=12\/k=13\/k=14\/k=15\/k=16\/k=17\/k=18\/k=19\/k=20\/k=21\/k=22\/k=23\/k=24\/k=25\/k=26\/k=27\/k=28:=by omega
  rcases hcases with h |h |h |h |h |h |h |h |h |h |h |h |h |h |h |h |h |h |h |h |h |h |h |h |h |h |h |h<;>subst h
  ·exact Vd (.num nm (Fs hh) (hno1 rfl))
  ·exact Vd (.txt tx)
  ·exact Vd (.nam m (Pr.names hh (by decide)).2.2.2)
  ·exact Vd (.gly 9082 (by decide))
  ·exact Vd (.gly 9077 (by decide))
  ·exact Vd (.chan o (by simp[Ta] at hh;exact hh.2))
  ·exact Vd (.src o (by simp[Ta] at hh;exact hh.2))
  ·exact Il (b:=[none]) (λr hr=>hr) (λ_=>rfl) _ (λs hs=>by obtain⟨a,ha,rfl⟩:=List.mem_map.1 hs;exact Hl (ih a ha))
  ·exact Ed (Hl (hi 0)) (Er ihd) rfl
  ·trivial
  ·exact Ed (hi 0) (b:=none::Ce _) (Dr (hi 1)) rfl
  ·refine Ed ?_ (b:=none::_) (Ed (hi 1) (b:=none::_) (Dr (hi 2)) rfl) rfl
   split
   ·exact hi 0
   exact Hl (hi 0)
  ·exact Jj (.nam m (Pr.names hh (by decide)).2.2.2) (ne7 rfl rfl) (Jf (by decide) (hi 0) (by decide)) rfl
  ·exact Jj (.nam m (Pr.names hh (by decide)).2.2.2) (ne7 rfl rfl) (Ed (Er ihd) (Jf (by decide) (hi 0) (by decide)) rfl) rfl
  ·exact Jj (r:=none::_) (.nam m (Pr.names hh (by decide)).2.2.2) (ne7 rfl rfl) (Ed (hi 0) (Jf (by decide) (hi 1) (by decide)) rfl) rfl
  ·exact Jj (.chan o (by simp[Ta] at hh;exact hh.2)) (ne7 rfl rfl) (Jf (by decide) (hi 0) (by decide)) rfl
  ·exact Vd (.gly o (glyph_gly (Pr.held17 hh)))
  ·exact Vd (.fn m (Pr.names hh (by decide)).2.2.2)
  ·exact Vd (.gly 8711 (by decide))
  ·exact Jf (by decide) (Ed (hsep 8900 (by decide) (by decide)) (Jf (by decide) trivial (by decide)) rfl) (by decide)
  ·exact Vd (.sys o (Pr.held21 hh))
  ·have ho:=Z8 (Pr.held22 hh)
   exact Ed (hi 0) (Gp ho.1 trivial (λe=>absurd e ho.2)) rfl
  ·have ho:=Cfa (Pr.held23 hh)
   obtain⟨a,b,rfl,ha,hb⟩:=Pr.parts2 (l:=l) (p:=Tr.func) (q:=λx=>(Tr.plain x&& !(o==0x2364))||(array x&&((o==0x2364)||(o==0x2363)))) (by simpa [Pb] using hm);refine Ed (hi 0) (Gp ho ?_ ?_) rfl
   ·split
    ·exact Hl (hi 1)
    exact hi 1
   rintro rfl;have hb:Tr.plain (kind b)=true:=by simpa using hb
   have hbn:array (kind b)=false:=by
    cases hab:array (kind b) with
    |false=>rfl
    |true=>
     unfold array at hab;unfold Tr.plain at hb;simp only[Bool.and_eq_true,decide_eq_true_eq] at hab hb;omega
   show Hf (if array (kind b)=true then Lg (kp b) else pc b)≠0;rw[if_neg (by rw[hbn];simp)];exact Fr hb
  ·obtain⟨a,rfl,ha⟩:=Pr.parts1 (l:=l) (p:=Tr.plain) (by simpa [Pb] using hm)
   exact Jf (by decide) (Gp (by decide) (hi 0) (λ_=>Fr ha)) (by decide)
  ·exact hsep 58 (by decide) (by decide)
  ·exact Il (b:=[p 58,p 58]) (λr hr=>Jf (by decide) (Jf (by decide) hr (by decide)) (by decide)) (λ_=>rfl) _ (λs hs=>by obtain⟨a,ha,rfl⟩:=List.mem_map.1 hs;exact ih a ha)
  ·exact Jj (.fn m (Pr.names hh (by decide)).2.2.2) (ne7 rfl rfl) (Jf (by decide) (hi 0) (by decide)) rfl
  exact hsep 8900 (by decide) (by decide)
end Lx
namespace Lx
open Tr Tk Go
def eb (s:List (Option Tok)):List UInt8:=enc (pcC s)
theorem Ag (a b:List (Option Tok)):eb (a++b)=eb a++eb b:=by unfold eb;rw[Iq,Ch]
theorem Mq (r:List (Option Tok)):eb (none::r)=[32]++eb r:=by
 show enc ([32]++pcC r)=_;rw[Ch];rfl
theorem Pv (c:Int):enc [c]=enc1 c:=by unfold enc;simp
theorem Yg (c:Int)(r:List (Option Tok)):eb (p c::r)=enc1 c++eb r:=by
 show enc ([c]++pcC r)=_;rw[Ch,Pv];rfl
theorem Nq (x:Tok)(r:List (Option Tok)):eb (some x::r)=enc (Af x)++eb r:=by
 show enc (Af x++pcC r)=_;rw[Ch];rfl
theorem Cu:eb []=[]:=rfl
theorem Efa (b x y:List UInt8)(r:List (List UInt8)):join b (x::y::r)=x++(b++join b (y::r)):=by
 have key:∀(r:List (List UInt8)) (s x:List UInt8),r.foldl (λx y=>x++b++y) (s++x)=s++r.foldl (λx y=>x++b++y) x:=by
  intro r
  induction r with
  |nil=>intro s x;rfl
  |cons z r ih=>intro s x;rw[List.foldl_cons,List.foldl_cons,show s++x++b++z=s++(x++b++z) by simp,ih]
 show(y::r).foldl _ x=_;rw[List.foldl_cons,show x++b++y=(x++b)++y by simp,key];simp[join]
theorem Oq (b:List (Option Tok)):∀(T:List Tree) (f:Tree->List (Option Tok)) (g:Tree->List UInt8),(∀a∈T,eb (f a)=g a)->eb (Oe b (T.map f))=join (eb b) (T.map g)
 | [],_,_,_=>rfl
 | [a],f,g,h=>h a (by simp)
 |a::y::r,f,g,h=>by
  show eb (f a++(b++Oe b ((y::r).map f)))=_;rw[Ag,Ag,Oq b (y::r) f g (λz hz=>h z (List.mem_cons_of_mem _ hz)),h a (by simp)];exact(Efa (eb b) (g a) (g y) (r.map g)).symm
structure Alike (a:Kp) (d:Kd):Prop where
 kind:a.kind=d.kind
 wrap:a.wrap=d.wrap
 text:eb a.pcs=d.text
theorem Alike.inn {s:List (Option Tok)}{t:List UInt8}(h:eb s=t):eb (Y1 s)=Me t:=by
 unfold Y1;rw[Yg,Ag,Yg,h];rfl
theorem Alike.item {a:Kp}{d:Kd}(h:Alike a d):eb (Lg a)=Mc d:=by
 unfold Lg Mc;rw[h.kind];cases Tr.item d.kind
 ·exact Alike.inn h.text
 exact h.text
theorem Alike.behind {a:Kp}{d:Kd}(h:Alike a d):eb (Ce a)=Tr.behind d:=by
 unfold Ce Tr.behind;rw[h.wrap];cases d.wrap
 ·exact h.text
 exact Alike.inn h.text
theorem Ffa {T:List Tree}(h:∀a∈T,Alike (kp a) (kd a))(i:Nat):Alike (nthP (T.map kp) i) (nth (T.map kd) i):=by
 unfold nthP nth;rw[List.getD_eq_getElem?_getD,List.getD_eq_getElem?_getD,List.getElem?_map,List.getElem?_map];by_cases hi:i<T.length
 ·rw[List.getElem?_eq_getElem hi]
  exact h _ (List.getElem_mem hi)
 rw[List.getElem?_eq_none (by omega)];exact⟨rfl,rfl,rfl⟩
theorem Ww {T:List Tree}(h:∀a∈T,Alike (kp a) (kd a)):eb (Eh (T.map kp))=places (T.map kd):=by
 unfold Eh places;rw[Yg,Ag,Yg,List.map_map,List.map_map,Oq [p 59] T (Kp.pcs∘kp) (Kd.text∘kd) (λa ha=>(h a ha).text)];rfl
theorem Dn {m:List UInt8}{b:Bool}(h:Ua m b=true):enc (Md m)=m:=Kk (Bh h).2.2.2.2
theorem Ns (a b:Int):enc [a,b]=enc1 a++enc1 b:=by unfold enc;simp
theorem Dma {k o:Int}{m:List UInt8}{n:Rt.Nm}{t:List Int}(h:Ta k o m n t=true)(hk:k≠13/\k≠14/\k≠15/\k≠27):eb (Kq k o m n t)=Xm k o m n t:=by
 have one:∀x:Tok,eb [some x]=enc (Af x):=λx=>by rw[Nq,Cu,List.append_nil]
 have oneg:∀c:Int,eb [p c]=enc1 c:=λc=>by rw[Yg,Cu,List.append_nil]
 unfold Ta at h;simp only[Bool.and_eq_true] at h;obtain⟨⟨⟨h1,h2⟩,h3⟩,h4⟩:=h;unfold Kq Pr.leafK Xm;by_cases k1:k=1
 ·rw[if_pos k1,if_pos k1]
  refine(one _).trans ?_;exact Rw n
 rw[if_neg k1,if_neg k1];by_cases k2:k=2
 ·rw[if_pos k2,if_pos k2]
  refine(one _).trans ?_;show enc (39::(Zb t++[39]))=Tr.quoted t;have e0:(39:Int)::(Zb t++[39])=[39]++(Zb t++[39]):=rfl;rw[e0,Ch,Ch,Pv];unfold Tr.quoted;have e1:enc1 39=[39]:=by decide
  rw[e1];show 39::(enc (Zb t)++[39])=_
  congr 2
  clear h1 h2 h3 h4 one oneg e0 e1
  induction t with
  |nil=>rfl
  |cons c r ih=>
   rw[Ut,Ch,ih,List.flatMap_cons]
   congr 1
   by_cases hc:c=39
   ·subst hc;rfl
   rw[if_neg hc,if_neg hc,Pv]
 rw[if_neg k2,if_neg k2];by_cases k3:k=3
 ·rw[if_pos k3]
  rw[if_pos (.inl k3)] at h3;subst k3;iterate 6 rw[if_neg (by decide)]
  rw[if_neg (by decide)];exact(one _).trans (Dn h3)
 rw[if_neg k3];by_cases k4:k=4
 ·rw[if_pos k4,if_pos k4];exact(oneg _).trans Iea
 rw[if_neg k4,if_neg k4];by_cases k5:k=5
 ·rw[if_pos k5,if_pos k5];exact(oneg _).trans Jea
 rw[if_neg k5,if_neg k5];by_cases k6:k=6
 ·rw[if_pos k6,if_pos k6]
  rw[if_pos (.inl k6)] at h4;refine(one _).trans ?_;show enc [9109,48+o]=_;rw[Ns,Ap h4];have e:enc1 9109=Wm:=Wz;rw[e];rfl
 rw[if_neg k6,if_neg k6];by_cases k7:k=7
 ·rw[if_pos k7,if_pos k7]
  rw[if_pos (.inr (.inl k7))] at h4;refine(one _).trans ?_;show enc [9054,48+o]=_;rw[Ns,Ap h4];have e:enc1 9054=Jt:=Hea;rw[e];rfl
 rw[if_neg k7,if_neg k7];by_cases k17:k=17
 ·rw[if_pos k17,if_pos k17];exact oneg _
 rw[if_neg k17,if_neg k17];by_cases k18:k=18
 ·rw[if_pos k18]
  rw[if_neg (by omega),if_pos (.inl k18)] at h3;subst k18;rw[if_neg (by decide),if_neg (by decide)];exact(one _).trans (Dn h3)
 rw[if_neg k18];by_cases k19:k=19
 ·rw[if_pos k19,if_pos k19];exact(oneg _).trans Xla
 rw[if_neg k19,if_neg k19];by_cases k21:k=21
 ·rw[if_pos k21,if_pos k21]
  refine(one _).trans ?_;show enc (9109::(if o=1 then[85,80] else[68,67]))=_;by_cases ho:o=1
  ·rw[if_pos ho,if_pos ho];decide
  rw[if_neg ho,if_neg ho];decide
 rw[if_neg k21,if_neg k21];rw[if_neg (by omega),if_neg (by omega)] at h3;cases m with
 |nil=>rfl
 |cons _ _=>cases h3
theorem Aoa {k o:Int}{m:List UInt8}{n:Rt.Nm}{t:List Int}{T:List Tree}(hh:Ta k o m n t=true)(h:∀a∈T,Alike (kp a) (kd a)):eb (Bn k o m n t (T.map kp))=Cc k o m n t (T.map kd):=by
 have hd:∀{a},a∈T.drop 1->Alike (kp a) (kd a):=λha=>h _ (List.mem_of_mem_drop ha);have e1:(T.map kp).drop 1=(T.drop 1).map kp:=by rw[List.map_drop]
 have e2:(T.map kd).drop 1=(T.drop 1).map kd:=by rw[List.map_drop]
 have N:=Ffa h;have key:∀{c:Prop} [Decidable c] {a b:List (Option Tok)} {a' b':List UInt8},(c->eb a=a')->(¬c->eb b=b')->eb (if c then a else b)=if c then a' else b':=by
  intro c _ a b a' b' h1 h2;by_cases h:c
  ·rw[if_pos h,if_pos h];exact h1 h
  rw[if_neg h,if_neg h];exact h2 h
 have texts:∀b,eb (Oe b ((T.map kp).map Kp.pcs))=join (eb b) ((T.map kd).map Kd.text):=λb=>by
  rw[List.map_map,List.map_map];exact Oq b T _ _ (λa ha=>(h a ha).text)
 have nm:(k=3\/k=13\/k=14\/k=15->enc (Md m)=m)/\(k=27->enc (Md m)=m):=by
  unfold Ta at hh;simp only[Bool.and_eq_true] at hh;obtain⟨⟨_,h3⟩,_⟩:=hh
  constructor
  ·intro hk;rw[if_pos hk] at h3;exact Dn h3
  intro hk;rw[if_neg (by omega),if_pos (.inr hk)] at h3;exact Dn h3
 have po:k=16->enc1 (48+o)=Yf o:=by
  intro hk;unfold Ta at hh;simp only[Bool.and_eq_true] at hh;have h4:=hh.2;rw[if_pos (.inr (.inr hk))] at h4;exact Ap h4
 have AR:enc1 8592=Lh:=Gea;have DI:eb [p 8900]=N8:=by rw[Yg,Cu,List.append_nil];exact Wla
 have c58:eb [p 58]=[58]:=by decide
 have c5858:eb [p 58,p 58]=[58,58]:=by decide
 have w2:∀r,k=3\/k=13\/k=14\/k=15->eb (some ⟨2,Rt.none_,[],m,0,0⟩::r)=m++eb r:=λr hk=>by rw[Nq];show enc (Md m)++_=_;rw[nm.1 hk]
 unfold Bn Cc;refine key (λ_=>?_) (λ_=>key (λ_=>?_) (λ_=>key (λ_=>?_) (λ_=>key (λ_=>?_) (λa13=>?_))))
 ·rw[List.map_map,List.map_map,Oq [none] T (Lg∘kp) (Mc∘kd) (λa ha=>(h a ha).item)];rfl
 ·rw[Ag,(N 0).item,e1,e2,Ww (λa ha=>hd ha)]
 ·rw[Ag,Mq,(N 0).text,(N 1).behind];simp
 ·rw[Ag,Mq,Ag,Mq,(N 1).text,(N 2).behind,key (λ_=>(N 0).text) (λ_=>(N 0).item),(N 0).kind];simp
 by_cases k13:k=13
 ·rw[if_pos k13,if_pos (.inl k13),w2 _ (.inr (.inl k13)),Yg,AR,(N 0).text];simp
 rw[if_neg k13];by_cases k27:k=27
 ·rw[if_pos k27,if_pos (.inr k27),Nq]
  show enc (Md m)++_=_;rw[nm.2 k27,Yg,AR,(N 0).text];simp
 rw[if_neg k27,if_neg (show¬(k=13\/k=27) by omega)];refine key (λk14=>?_) (λk14=>key (λk15=>?_) (λk15=>key (λk16=>?_) (λ_=>key (λ_=>?_) (λ_=>key (λ_=>?_) (λ_=>key (λ_=>?_) (λ_=>key (λ_=>?_) (λ_=>key (λ_=>?_) (λ_=>key (λ_=>?_) (λ_=>key (λ_=>?_) (λ_=>?_))))))))))
 ·rw[w2 _ (.inr (.inr (.inl k14))),Ag,Yg,AR,(N 0).text,e1,e2,Ww (λa ha=>hd ha)];simp
 ·rw[w2 _ (.inr (.inr (.inr k15))),Mq,Ag,Yg,AR,(N 0).text,(N 1).text];simp
 ·rw[Nq,Yg,AR,(N 0).text]
  show enc [9109,48+o]++_=_;have e:enc1 9109=Wm:=Wz;rw[Ns,po k16,e];simp
 ·rw[Yg,Ag,Yg,texts,DI];rfl
 ·rw[Ag,Yg,(N 0).text,Cu,List.append_nil]
 ·rw[Ag,Yg,(N 0).text,key (λ_=>(N 1).item) (λ_=>(N 1).text),(N 1).kind];simp
 ·rw[Yg,Yg,(N 0).text]
  have e:enc1 8728=jot:=Yla;rw[e];simp;rfl
 ·rw[texts,c58]
 ·rw[texts,c5858]
 ·rw[texts,DI]
 exact Dma hh ⟨k13,k14,k15,k27⟩
theorem Hpa:∀n (t:Tree),SizeOf.sizeOf t<n->all t=true->Alike (kp t) (kd t):=by
 intro n
 induction n with
 |zero=>intro t h;omega
 |succ n ih=>
  intro t hn ha;obtain⟨k,o,m,nm,tx,l⟩:=t;obtain⟨h1,h2,h3⟩:=Sb ha;have hk:∀a∈l,Alike (kp a) (kd a):=λa hal=>by
   obtain⟨i,hi,rfl⟩:=List.getElem_of_mem hal;refine ih _ ?_ (Ah h3 hi);have:=List.sizeOf_lt_of_mem (List.getElem_mem hi);simp only[Tree.mk.sizeOf_spec] at hn;omega
  refine⟨?_,rfl,?_⟩
  ·show k=_
   rw[Ik];rfl
  show eb (pc _)=(kd _).text;rw[Ty,Aoa h1 hk,kd,Mt,Pg]
theorem shw_pc {t:Tree}(h:all t=true):enc (pcC (pc t))=Ia t:=(Hpa _ t (Nat.lt_succ_self _) h).text
end Lx
namespace Pr
open Tr Tk
def Stop (T:List Tok):Prop:=begA T=false/\begF T=false/\gl T 0≠91/\gl T 0≠8592
theorem Em {c:Int}(h:c∈([41,93,59,58,125,8900]:List Int))(r:List Tok):Stop (g c::r):=by
 have key:∀c∈([41,93,59,58,125,8900]:List Int),Stop [g c]:=by
  intro c hc;simp only[List.mem_cons,List.not_mem_nil,or_false] at hc;rcases hc with h |h |h |h |h |h<;>subst h<;>exact⟨by decide,by decide,by decide,by decide⟩
 exact key c h
theorem Sia:Stop []:=⟨by decide,by decide,by decide,by decide⟩
structure Li (t:Tree):Prop where
 ex:array (kind t)=true->∀rest,Stop rest->Ev (λf=>expr f (tk t++rest)) t rest
 it:array (kind t)=true->∀rest r V,Ev (λf=>more f t rest) r V->Ev (λf=>arr f (titem (kt t)++rest)) r V
 fu:Tr.func (kind t)=true->∀rest r V,gl rest 0≠91->Ev (λf=>ops f t rest) r V->Ev (λf=>func f (tk t++rest)) r V
 pl:Tr.plain (kind t)=true->∀rest,Ev (λf=>plain f (tk t++rest)) t rest
theorem Gfa:∀(s:List Tok) (r:List (List Tok)),tjoin [] (s::r)=s++tjoin [] r
 |s,[]=>by simp[tjoin]
 |s,y::r=>by simp[tjoin]
theorem S2 {a:Tree}(h:all a=true):Yt a:=Yea _ a (Nat.lt_succ_self _) h
theorem Iba:∀(l:List Tree),(∀a∈l,all a=true/\array (kind a)=true/\Li a)->∀rest,begA rest=false->gl rest 0≠91->
 Ev (λf=>arrs f (tjoin [] ((l.map kt).map titem)++rest)) l rest/\gl (tjoin [] ((l.map kt).map titem)++rest) 0≠91
 | [],_,rest,h1,h2=>⟨Nf h1,h2⟩
 |a::l,ha,rest,h1,h2=>by
  obtain⟨ha1,ha2,ha3⟩:=ha a (by simp);obtain⟨h3,h4⟩:=Iba l (λb hb=>ha b (by simp[hb])) rest h1 h2;rw[List.map_cons,List.map_cons,Gfa,List.append_assoc];obtain⟨x,y,e,hx⟩:=((S2 ha1).a ha2).item ha2;refine⟨Ze (by rw[e];exact hx) (ha3.it ha2 _ _ _ (Zc h4)) h3,?_⟩;rw[e];exact Wt (T:=x::_) hx (by decide)
theorem Hp:∀(p:Tree) (l:List Tree),(∀a∈p::l,all a=true/\Ke (kind a)=true/\Li a)->∀rest,
 Ev (λf=>places f (tjoin [g 59] (((p::l).map kt).map Kt.toks)++g 93::rest)) (p::l) (g 93::rest)
 |p,l,ha,rest=>by
  obtain⟨h1,h2,h3⟩:=ha p (by simp);have hp:∀c r,c=59\/c=93->Place (tk p++g c::r) p (g c::r):=by
   intro c r hc;unfold Ke at h2;simp only[Bool.or_eq_true,beq_iff_eq] at h2;rcases h2 with h2 |h2
   ·refine .inr ⟨?_,h3.ex h2 _ (Em (by rcases hc with e |e<;>rw[e]<;>decide) r)⟩
    have hs:=(S2 h1).a h2;rintro(e |e)
    ·exact hs.beg _ (c:=59) (by decide) e
    exact hs.beg _ (c:=93) (by decide) e
   obtain⟨k,o,m,n,t,ks⟩:=p;have h2:k=10:=h2;subst h2;obtain⟨hh,hm,_⟩:=Sb h1;obtain⟨rfl,rfl,rfl,rfl⟩:=Dh hh (by decide);have hk:ks=[]:=by
    have:(ks.map kind).isEmpty=true:=by simpa [Pb] using hm
    simpa using this
   subst hk;exact .inl ⟨hc,rfl,rfl⟩
  match l with
  | []=>exact Ov (hp 93 rest (.inr rfl)) (by rw[Rc];decide)
  |q::r=>
   show Ev (λf=>places f ((tk p++(g 59::tjoin [g 59] (((q::r).map kt).map Kt.toks)))++g 93::rest)) (p::q::r) (g 93::rest);rw[List.append_assoc,List.cons_append];exact Nv (hp 59 _ (.inl rfl)) (Rc _ _) (Hp q r (λa h=>ha a (by simp[h])) rest)
def EndS (T:List Tok):Prop:=T=[]\/∃c r,T=g c::r/\(c=125\/c=8900)
theorem EndS.stop {T:List Tok}(h:EndS T):Stop T/\gl T 0≠58/\Opf T:=by
 rcases h with rfl |⟨c,r,rfl,h |h⟩
 ·exact⟨Sia,by decide,⟨by decide,by decide⟩⟩
 ·subst h;exact⟨Em (by decide) r,by rw[Rc];decide,⟨by rw[Rc];decide,by rw[Rc];decide⟩⟩
 subst h;exact⟨Em (by decide) r,by rw[Rc];decide,⟨by rw[Rc];decide,by rw[Rc];decide⟩⟩
theorem StartA.notdef {s:List Tok}{k:Int}{w:Bool}(h:StartA s k w){rest:List Tok}(hr:gl rest 0≠8592):¬(kd (s++rest) 0=3/\gl (s++rest) 1=8592):=by
 obtain⟨x,r,rfl,_,_,h4⟩:=h;intro h;refine h4 rest hr ⟨h.1,?_⟩;have:=h.2;rwa[List.cons_append,Zna] at this
def Ip (b:Bool)(k:Int):Bool:=array k||(k==27)||(b&&((k==25)||(k==26)))
theorem A9 (b:Bool)(s:Tree)(hs:all s=true)(hk:Ip b (kind s)=true)(hg:Li s)(hg':∀a∈kids s,Li a)(rest:List Tok)(hr:EndS rest):Ev (λf=>stmt f b (tk s++rest)) s rest:=by
 obtain⟨hst,h58,hop⟩:=hr.stop;unfold Ip at hk;simp only[Bool.or_eq_true,Bool.and_eq_true,beq_iff_eq] at hk;rcases hk with(hk |hk) |⟨hb,hk⟩
 ·exact Y0 (((S2 hs).a hk).notdef hst.2.2.2) (hg.ex hk rest hst) (λh=>h58 h.2)
 ·obtain⟨k,o,m,n,t,l⟩:=s
  have hk:k=27:=hk;subst hk;obtain⟨hh,hm,hl⟩:=Sb hs;obtain⟨rfl,rfl,rfl,_⟩:=names hh (by decide);obtain⟨a,rfl,ha⟩:=parts1 (l:=l) (p:=Tr.func) (by simpa [Pb] using hm);rw[Be];exact J6 (x:=⟨3,Rt.none_,[],m,0,0⟩) (y:=g 8592) rfl rfl ((hg' a (by simp[kids])).fu ha rest _ _ hst.2.2.1 (Zj hop.1 hop.2))
 subst hb;obtain⟨k,o,m,n,t,l⟩:=s;have hk:k=25\/k=26:=hk;obtain⟨hh,hm,hl⟩:=Sb hs;obtain⟨rfl,rfl,rfl,rfl⟩:=Dh hh (by rcases hk with h |h<;>rw[h]<;>decide);obtain⟨a,c,rfl,ha,hc⟩:=parts2 (l:=l) (p:=array) (q:=array) (by rcases hk with h |h<;>subst h<;>simpa [Pb] using hm);have a1:=alls_mem hl a (by simp);have c1:=alls_mem hl c (by simp);have ea:=(hg' a (by simp[kids])).ex ha;have ec:=(hg' c (by simp[kids])).ex hc rest hst;rw[Be];rcases hk with hk |hk
 ·subst hk
  show Ev (λf=>stmt f true ((tk a++(g 58::tk c))++rest)) _ rest;rw[List.append_assoc,List.cons_append];refine Hy (((S2 a1).a ha).notdef (by rw[Rc];decide)) (ea _ (Em (by decide) _)) (Rc _ _) ?_ ec;exact((S2 c1).a hc).beg rest (c:=58) (by decide)
 subst hk;show Ev (λf=>stmt f true ((tk a++(g 58::g 58::tk c))++rest)) _ rest;rw[List.append_assoc,List.cons_append,List.cons_append];exact Iy (((S2 a1).a ha).notdef (by rw[Rc];decide)) (ea _ (Em (by decide) _)) (Rc _ _) (Rc _ _) ec
theorem Ps (b:Bool):∀(s:Tree) (l:List Tree),(∀a∈s::l,all a=true/\Ip b (kind a)=true/\Li a/\∀c∈kids a,Li c)->∀rest,EndS rest->gl rest 0≠8900->
 Ev (λf=>stmts f b (tjoin [g 8900] (((s::l).map kt).map Kt.toks)++rest)) (s::l) rest
 |s,[],ha,rest,hr,h=>by
  obtain⟨h1,h2,h3,h4⟩:=ha s (by simp);exact Jy (A9 b s h1 h2 h3 h4 rest hr) h
 |s,q::r,ha,rest,hr,h=>by
  obtain⟨h1,h2,h3,h4⟩:=ha s (by simp);show Ev (λf=>stmts f b ((tk s++(g 8900::tjoin [g 8900] (((q::r).map kt).map Kt.toks)))++rest)) (s::q::r) rest;rw[List.append_assoc,List.cons_append];exact Ky (A9 b s h1 h2 h3 h4 _ (.inr ⟨8900,_,rfl,.inr rfl⟩)) (Rc _ _) (Ps b q r (λa hx=>ha a (by simp[hx])) rest hr h)
theorem Ti {x:Tok}{t:Tree}(h:begA [x]=true)(hl:leaf x=some t)(rest:List Tok)(r:Tree)(V:List Tok)(h1:Ev (λf=>more f t rest) r V):Ev (λf=>arr f (x::rest)) r V:=
 Tea (Fy (x:=x) (U:=rest) h hl) h1
theorem Qs {T U:List Tok}{t:Tree}(h0:begA T=true)(h:Ev (λf=>arr f T) t U)(hU:Stop U)(ht:target t=true->gl U 0≠8592:=λ_=>hU.2.2.2):Ev (λf=>expr f T) t U:=
 We h0 (Zn (l:=[t]) (Ze h0 h (Nf hU.1)) (λh=>hU.2.2.2 h.2) hU.2.1)
theorem Hfa {t:Tree}{x:Tok}(hi:Tr.item (kind t)=true)(hx:tk t=[x]):titem (kt t)=[x]:=by
 unfold titem kt;dsimp only;rw[if_pos hi,hx]
theorem Ifa {s:List Tok}{t r:Tree}{rest V:List Tok}(h:∀rest,Stop rest->Ev (λf=>expr f (s++rest)) t rest)(h1:Ev (λf=>more f t rest) r V):Ev (λf=>arr f (tin s++rest)) r V:=by
 unfold tin;rw[List.cons_append,List.append_assoc];exact Tea (H6 (x:=g 40) (U:=g 41::rest) rfl rfl (h _ (Em (by decide) rest)) (Rc _ _)) h1
end Pr
namespace Pr
open Tr Tk
theorem Bf {k o:Int}{l:List Tree}(h:Pb k o (l.map kind)=true)(hk:k=1\/k=2\/k=3\/k=4\/k=5\/k=6\/k=7\/k=17\/k=18\/k=19\/k=21):l=[]:=by
 have:(l.map kind).isEmpty=true:=by rcases hk with h' |h' |h' |h' |h' |h' |h' |h' |h' |h' |h'<;>subst h'<;>simpa [Pb] using h
 simpa using this
theorem Ipa {o:Int}{m:List UInt8}{n:Rt.Nm}{t:List Int}(h:Ta 1 o m n t=true):o=0/\m=[]/\t=[]:=by
 simp[Ta] at h;exact⟨h.2,h.1.2,h.1.1.2⟩
theorem Jpa {o:Int}{m:List UInt8}{n:Rt.Nm}{t:List Int}(h:Ta 2 o m n t=true):o=0/\m=[]/\n=Rt.none_:=by
 simp[Ta] at h;exact⟨h.2,h.1.2,Jq h.1.1.1⟩
theorem Zg {t:Tree}{x:Tok}(hi:Tr.item (kind t)=true)(hf:Tr.func (kind t)=false)(hp:Tr.plain (kind t)=false)(hx:tk t=[x])(hb:begA [x]=true)(hl:leaf x=some t):Li t where
 ex _ rest hr:=by
  rw[hx];exact Qs (T:=x::rest) hb (Ti hb hl rest t rest (Zc hr.2.2.1)) hr
 it _ rest r V h:=by rw[Hfa hi hx];exact Ti hb hl rest r V h
 fu h:=by rw[hf] at h;cases h
 pl h:=by rw[hp] at h;cases h
theorem Ak {t:Tree}{x:Tok}(ha:array (kind t)=false)(hx:tk t=[x])(hb:begP [x]=true)(h0:gl [x] 0≠8728)(hl:fleaf x=some t):Li t where
 ex h:=by rw[ha] at h;cases h
 it h:=by rw[ha] at h;cases h
 fu _ rest r V h91 h:=by
  rw[hx];exact Q8 (T:=x::rest) h0 (Bo (x:=x) (U:=rest) hb hl) h
 pl _ rest:=by rw[hx];exact Bo (x:=x) (U:=rest) hb hl
theorem Mg {t:Tree}(hi:Tr.item (kind t)=false)(hf:Tr.func (kind t)=false)(hp:Tr.plain (kind t)=false)(ex:∀rest,Stop rest->Ev (λf=>expr f (tk t++rest)) t rest):Li t where
 ex _:=ex
 it _ rest r V h:=by
  unfold titem kt;dsimp only;rw[if_neg (by rw[hi];simp)];exact Ifa ex h
 fu h:=by rw[hf] at h;cases h
 pl h:=by rw[hp] at h;cases h
theorem Xw {a:Tree}(ha:array (kind a)=true)(hg:Li a){rest:List Tok}(hr:Stop rest):Ev (λf=>expr f (tbehind (kt a)++rest)) a rest:=by
 unfold tbehind kt;dsimp only;by_cases hw:(Tr.kd a).wrap=true
 ·rw[if_pos hw]
  exact Qs (T:=tin (tk a)++rest) (by unfold tin;rfl) (Ifa (hg.ex ha) (Zc hr.2.2.1)) hr
 rw[if_neg hw];exact hg.ex ha rest hr
theorem Qv {k:Int}(h:array k=true):Tr.func k=false/\Tr.plain k=false:=by
 unfold array at h;simp only[Bool.and_eq_true,decide_eq_true_eq] at h;unfold Tr.func Tr.plain;rw[decide_eq_false (by omega:¬(17:Int)<=k)];exact⟨rfl,rfl⟩
theorem Fla:∀n (t:Tree),SizeOf.sizeOf t<n->all t=true->Li t
 | 0,t,h,_=>by omega
 |n+1,.mk k o m nm tx l,hn,hall=>by
  obtain⟨hh,hm,hl⟩:=Sb hall;have ih:∀a,SizeOf.sizeOf a<n->all a=true->Li a:=Fla n;have hsz:∀a∈l,SizeOf.sizeOf a<n:=λa ha=>by have:=List.sizeOf_lt_of_mem ha;simp only[Tree.mk.sizeOf_spec] at hn;omega
  have ihl:∀a∈l,Li a:=λa ha=>ih a (hsz a ha) (alls_mem hl a ha);have stl:∀a∈l,Yt a:=λa ha=>S2 (alls_mem hl a ha);rcases Classical.em (1<=k/\k<=28) with hk |hk
  rotate_left
  ·have h1:array k=false:=by unfold array;by_cases h:1<=k<;>simp<;>omega
   have h2:Tr.func k=false:=by unfold Tr.func;by_cases h:17<=k<;>simp<;>omega
   have h3:Tr.plain k=false:=by unfold Tr.plain;by_cases h:17<=k<;>simp<;>omega
   exact⟨λh=>absurd (h1.symm.trans h) (by decide),λh=>absurd (h1.symm.trans h) (by decide),λh=>absurd (h2.symm.trans h) (by decide),λh=>absurd (h3.symm.trans h) (by decide)⟩
  have hcases:k=1\/k=2\/k=3\/k=4\/k=5\/k=6\/k=7\/k=8\/k=9\/k=11\/k=12\/k=13\/k=14\/k=15\/k=16\/k=17\/k=18\/k=19\/k=20\/k=21\/k=22\/k=23\/k=24\/(k=10\/k=25\/k=26\/k=27\/k=28):=by omega
  rcases hcases with h |h |h |h |h |h |h |h |h |h |h |h |h |h |h |h |h |h |h |h |h |h |h |h
  ·subst h
   obtain rfl:=Bf hm (by decide);obtain⟨rfl,rfl,rfl⟩:=Ipa hh;exact Zg rfl rfl rfl (x:=⟨0,nm,[],[],0,0⟩) rfl rfl rfl
  ·subst h
   obtain rfl:=Bf hm (by decide);obtain⟨rfl,rfl,rfl⟩:=Jpa hh;exact Zg rfl rfl rfl (x:=⟨1,Rt.none_,tx,[],0,0⟩) rfl rfl rfl
  ·subst h
   obtain rfl:=Bf hm (by decide);obtain⟨rfl,rfl,rfl,_⟩:=names hh (by decide);exact Zg rfl rfl rfl (x:=⟨2,Rt.none_,[],m,0,0⟩) rfl rfl rfl
  ·subst h
   obtain rfl:=Bf hm (by decide);obtain⟨rfl,rfl,rfl,rfl⟩:=Dh hh (by decide);exact Zg rfl rfl rfl (x:=g 9082) rfl rfl rfl
  ·subst h
   obtain rfl:=Bf hm (by decide);obtain⟨rfl,rfl,rfl,rfl⟩:=Dh hh (by decide);exact Zg rfl rfl rfl (x:=g 9077) rfl rfl rfl
  ·subst h
   obtain rfl:=Bf hm (by decide);obtain⟨rfl,rfl,rfl⟩:=Ms hh (by decide);exact Zg rfl rfl rfl (x:=⟨4,Rt.none_,[],[],o,0⟩) rfl rfl rfl
  ·subst h
   obtain rfl:=Bf hm (by decide);obtain⟨rfl,rfl,rfl⟩:=Ms hh (by decide);exact Zg rfl rfl rfl (x:=⟨5,Rt.none_,[],[],o,0⟩) rfl rfl rfl
  ·subst h
   obtain⟨rfl,rfl,rfl,rfl⟩:=Dh hh (by decide);obtain⟨a,b,r,rfl,ha⟩:=Ria (l:=l) (p:=array) (by simpa [Pb] using hm);refine Mg rfl rfl rfl λrest hr=>?_;have h1:=(Iba (a::b::r) (λx hx=>⟨alls_mem hl x hx,ha x hx,ihl x hx⟩) rest hr.1 hr.2.2.1).1;rw[Be];refine We ?_ (Zn (l:=a::b::r) h1 (λh=>absurd (show false=true from h.1) (by decide)) hr.2.1);obtain⟨x,y,e,hx⟩:=((stl a (by simp)).a (ha a (by simp))).item (ha a (by simp));show begA (tjoin [] (titem (kt a)::titem (kt b)::(r.map kt).map titem)++rest)=true;rw[e];exact hx
  ·subst h
   obtain⟨rfl,rfl,rfl,rfl⟩:=Dh hh (by decide);obtain⟨a,b,r,rfl,ha,hb⟩:=more2 (l:=l) (p:=array) (q:=Ke) (by simpa [Pb] using hm);have hit:∀rest r' V,Ev (λf=>more f (.mk 9 0 [] Rt.none_ [] (a::b::r)) rest) r' V->Ev (λf=>arr f (tk (.mk 9 0 [] Rt.none_ [] (a::b::r))++rest)) r' V:=by
    intro rest r' V h;rw[Be];show Ev (λf=>arr f ((titem (kt a)++(g 91::(tjoin [g 59] (((b::r).map kt).map Kt.toks)++[g 93])))++rest)) r' V;rw[List.append_assoc,List.cons_append,List.append_assoc];exact(ihl a (by simp)).it ha _ _ _ (Tt (Rc _ _) (Hp b r (λx hx=>⟨alls_mem hl x (List.mem_cons_of_mem _ hx),hb x hx,ihl x (List.mem_cons_of_mem _ hx)⟩) rest) (Rc _ _) h)
   obtain⟨x,y,e,hx⟩:=((stl a (by simp)).a ha).item ha;refine⟨λ_ rest hr=>?_,λ_ rest r' V h=>?_,λh=>(absurd (show false=true from h) (by decide)),λh=>(absurd (show false=true from h) (by decide))⟩
   ·refine Qs ?_ (hit rest _ _ (Zc hr.2.2.1)) hr
    rw[Be];show begA ((titem (kt a)++_)++rest)=true;rw[e];exact hx
   exact hit rest r' V h
  ·subst h
   obtain⟨rfl,rfl,rfl,rfl⟩:=Dh hh (by decide);obtain⟨a,b,rfl,ha,hb⟩:=parts2 (l:=l) (p:=Tr.func) (q:=array) (by simpa [Pb] using hm);refine Mg rfl rfl rfl λrest hr=>?_;have hs:=((stl b (by simp)).a hb).behind rest;rw[Be];show Ev (λf=>expr f ((tk a++tbehind (kt b))++rest)) _ rest;rw[List.append_assoc];exact F6 (((stl a (by simp)).f ha).begs _).1 ((ihl a (by simp)).fu ha _ _ _ (hs.2 91 (by decide)) (Zj hs.1.1 hs.1.2)) (Xw hb (ihl b (by simp)) hr)
  ·subst h
   obtain⟨rfl,rfl,rfl,rfl⟩:=Dh hh (by decide);obtain⟨a,b,c,rfl,ha,hb,hc⟩:=Wea (l:=l) (p:=array) (q:=Tr.func) (s:=array) (by simpa [Pb] using hm);refine Mg rfl rfl rfl λrest hr=>?_;have hs:=((stl c (by simp)).a hc).behind rest;have hF:=((stl b (by simp)).f hb);have hfu:=(ihl b (by simp)).fu hb _ _ _ (hs.2 91 (by decide)) (Zj hs.1.1 hs.1.2);have hbe:=Xw hc (ihl c (by simp)) hr;rw[Be];show Ev (λf=>expr f (((if kind a=8 then tk a else titem (kt a))++(tk b++tbehind (kt c)))++rest)) _ rest;rw[List.append_assoc,List.append_assoc];by_cases h8:kind a=8
   ·rw[if_pos h8]
    have sa:=(stl a (by simp)).a ha;have aa:=alls_mem hl a (by simp);have za:=hsz a (by simp);obtain⟨ka,oa,ma,na,ta,la⟩:=a;have h8:ka=8:=h8;subst h8;obtain⟨ah,am,al⟩:=Sb aa;obtain⟨rfl,rfl,rfl,rfl⟩:=Dh ah (by decide);obtain⟨x,y,r,rfl,hx⟩:=Ria (l:=la) (p:=array) (by simpa [Pb] using am);have h1:=(Iba (x::y::r) (λz hz=>⟨alls_mem al z hz,hx z hz,ih z (by have:=List.sizeOf_lt_of_mem hz;simp only[Tree.mk.sizeOf_spec] at za;omega) (alls_mem al z hz)⟩) (tk b++(tbehind (kt c)++rest)) (hF.begs _).1 (hF.beg _ (by decide))).1;refine We (sa.begA (show(8:Int)≠11 by decide) _) ?_;rw[Be];exact Ao (l:=x::y::r) h1 (hF.beg _ (by decide)) (hF.begs _).2 hfu (hs.2 8592 (by decide)) hbe
   rw[if_neg h8];obtain⟨x,y,e,hx⟩:=((stl a (by simp)).a ha).item ha;have h0:begA (titem (kt a)++(tk b++(tbehind (kt c)++rest)))=true:=by rw[e];exact hx
   exact We h0 (Ao (l:=[a]) (Ze h0 ((ihl a (by simp)).it ha _ _ _ (Zc (hF.beg _ (by decide)))) (Nf (hF.begs _).1)) (hF.beg _ (by decide)) (hF.begs _).2 hfu (hs.2 8592 (by decide)) hbe)
  ·subst h
   obtain⟨rfl,rfl,rfl,_⟩:=names hh (by decide);obtain⟨a,rfl,ha⟩:=parts1 (l:=l) (p:=array) (by simpa [Pb] using hm);refine Mg rfl rfl rfl λrest hr=>?_;rw[Be];exact We rfl (Rj (l:=[node 3 0 m []]) (Ze rfl (Ti (x:=⟨2,Rt.none_,[],m,0,0⟩) rfl rfl (g 8592::(tk a++rest)) _ _ (Zc (by rw[Rc];decide))) (Nf rfl)) rfl rfl ((ihl a (by simp)).ex ha rest hr))
  ·subst h
   obtain⟨rfl,rfl,rfl,_⟩:=names hh (by decide);obtain⟨a,b,r,rfl,ha,hb⟩:=more2 (l:=l) (p:=array) (q:=Ke) (by simpa [Pb] using hm);refine Mg rfl rfl rfl λrest hr=>?_;rw[Be];show Ev (λf=>expr f (⟨2,Rt.none_,[],m,0,0⟩::(((g 91::(tjoin [g 59] (((b::r).map kt).map Kt.toks)++[g 93]))++g 8592::tk a)++rest))) _ rest;rw[List.append_assoc,List.cons_append,List.append_assoc];exact We rfl (Rj (l:=[node 9 0 [] (node 3 0 m []::b::r)]) (Ze rfl (Ti (x:=⟨2,Rt.none_,[],m,0,0⟩) rfl rfl _ _ _ (Tt (Rc _ _) (Hp b r (λx hx=>⟨alls_mem hl x (List.mem_cons_of_mem _ hx),hb x hx,ihl x (List.mem_cons_of_mem _ hx)⟩) (g 8592::(tk a++rest))) (Rc _ _) (Zc (T:=g 8592::(tk a++rest)) (by rw[Rc];decide)))) (Nf rfl)) rfl rfl ((ihl a (by simp)).ex ha rest hr))
  ·subst h
   obtain⟨rfl,rfl,rfl,_⟩:=names hh (by decide);obtain⟨a,b,rfl,ha,hb⟩:=parts2 (l:=l) (p:=Tr.func) (q:=array) (by simpa [Pb] using hm);refine Mg rfl rfl rfl λrest hr=>?_;have hF:=((stl a (by simp)).f ha);rw[Be];show Ev (λf=>expr f (⟨2,Rt.none_,[],m,0,0⟩::((tk a++g 8592::tk b)++rest))) _ rest;rw[List.append_assoc,List.cons_append];exact We rfl (Hs (l:=[node 3 0 m []]) (Ze rfl (Ti (x:=⟨2,Rt.none_,[],m,0,0⟩) rfl rfl _ _ _ (Zc (hF.beg _ (by decide)))) (Nf (hF.begs _).1)) (hF.beg _ (by decide)) (hF.begs _).2 ((ihl a (by simp)).fu ha (g 8592::(tk b++rest)) _ _ (by rw[Rc];decide) (Zj (by rw[Rc];decide) (by rw[Rc];decide))) rfl (Rc _ _) ((ihl b (by simp)).ex hb rest hr))
  ·subst h
   obtain⟨rfl,rfl,rfl⟩:=Ms hh (by decide);obtain⟨a,rfl,ha⟩:=parts1 (l:=l) (p:=array) (by simpa [Pb] using hm);refine Mg rfl rfl rfl λrest hr=>?_;rw[Be];exact We rfl (Rj (l:=[node 6 o [] []]) (Ze rfl (Ti (x:=⟨4,Rt.none_,[],[],o,0⟩) rfl rfl (g 8592::(tk a++rest)) _ _ (Zc (by rw[Rc];decide))) (Nf rfl)) rfl rfl ((ihl a (by simp)).ex ha rest hr))
  ·subst h
   obtain rfl:=Bf hm (by decide);obtain⟨rfl,rfl,rfl⟩:=Ms hh (by decide);have hg:=held17 hh;refine Ak rfl (x:=g o) rfl ?_ (Xg hg (by decide)) ?_
   ·simp[begP,kd,gl,g,hg]
   have h1:o≠8711:=Xg hg (by decide);have h2:o≠123:=Xg hg (by decide);simp[fleaf,g,h1,h2];rfl
  ·subst h
   obtain rfl:=Bf hm (by decide);obtain⟨rfl,rfl,rfl,_⟩:=names hh (by decide);exact Ak rfl (x:=⟨3,Rt.none_,[],m,0,0⟩) rfl rfl (by show(0:Int)≠8728;decide) rfl
  ·subst h
   obtain rfl:=Bf hm (by decide);obtain⟨rfl,rfl,rfl,rfl⟩:=Dh hh (by decide);exact Ak rfl (x:=g 8711) rfl rfl (by decide) rfl
  ·subst h
   obtain⟨rfl,rfl,rfl,rfl⟩:=Dh hh (by decide);have hm2:(!l.isEmpty&&(l.map kind).all (λx=>array x||(x==27)||(x==25)||(x==26)))=true:=by simpa [Pb] using hm
   simp only[Bool.and_eq_true,Bool.not_eq_true',List.all_eq_true] at hm2;have hpl:∀rest,Ev (λf=>plain f (tk (.mk 20 0 [] Rt.none_ [] l)++rest)) (.mk 20 0 [] Rt.none_ [] l) rest:=by
    intro rest
    match l,hm2 with
    | [],h=>simp at h
    |s::r,h=>
     rw[Be];show Ev (λf=>plain f (g 123::((tjoin [g 8900] (((s::r).map kt).map Kt.toks)++[g 125])++rest))) _ rest;rw[List.append_assoc];refine I6 rfl rfl (Ps true s r (λa ha=>⟨alls_mem hl a ha,?_,ihl a ha,?_⟩) (g 125::rest) (.inr ⟨125,rest,rfl,.inl rfl⟩) (by rw[Rc];decide)) (Rc _ _)
     ·have:=h.2 (kind a) (List.mem_map_of_mem ha)
      unfold Ip;simp only[Bool.or_eq_true,beq_iff_eq,Bool.true_and] at this⊢;rcases this with((h |h) |h) |h
      ·exact .inl (.inl h)
      ·exact .inl (.inr h)
      ·exact .inr (.inl h)
      exact .inr (.inr h)
     intro c hc;have ha2:=alls_mem hl a ha;have hs:=hsz a ha;obtain⟨ka,oa,ma,na,ta,la⟩:=a;exact ih c (by have:=List.sizeOf_lt_of_mem (show c∈la from hc);simp only[Tree.mk.sizeOf_spec] at hs;omega) (alls_mem (Sb ha2).2.2 c hc)
   refine⟨λh=>(absurd (show false=true from h) (by decide)),λh=>(absurd (show false=true from h) (by decide)),λ_ rest r V h91 h=>?_,λ_=>hpl⟩;exact Q8 (by rw[Be];show(123:Int)≠8728;decide) (hpl rest) h
  ·subst h
   obtain rfl:=Bf hm (by decide);obtain⟨rfl,rfl,rfl⟩:=Ms hh (by decide);exact Ak rfl (x:=⟨6,Rt.none_,[],[],o,0⟩) rfl rfl (by show(0:Int)≠8728;decide) rfl
  ·subst h
   obtain⟨rfl,rfl,rfl⟩:=Ms hh (by decide);obtain⟨a,rfl,ha⟩:=parts1 (l:=l) (p:=Tr.func) (by simpa [Pb] using hm);have ho:=held22 hh;refine⟨λh=>(absurd (show false=true from h) (by decide)),λh=>(absurd (show false=true from h) (by decide)),λ_ rest r V h91 h=>?_,λh=>(absurd (show false=true from h) (by decide))⟩;rw[Be];show Ev (λf=>func f ((tk a++[g o])++rest)) r V;rw[List.append_assoc];exact(ihl a (by simp)).fu ha (g o::rest) r V (Vw ho).2 (Dba (T:=g o::rest) ho h)
  ·subst h
   obtain⟨rfl,rfl,rfl⟩:=Ms hh (by decide);obtain⟨a,b,rfl,ha,hb⟩:=parts2 (l:=l) (p:=Tr.func) (q:=λx=>(Tr.plain x&& !(o==0x2364))||(array x&&((o==0x2364)||(o==0x2363)))) (by simpa [Pb] using hm);have ho:=held23 hh;have hd:=X1 ho;refine⟨λh=>(absurd (show false=true from h) (by decide)),λh=>(absurd (show false=true from h) (by decide)),λ_ rest r V h91 h=>?_,λh=>(absurd (show false=true from h) (by decide))⟩;rw[Be];show Ev (λf=>func f ((tk a++g o::(if array (kind b) then titem (kt b) else tk b))++rest)) r V;rw[List.append_assoc,List.cons_append];refine(ihl a (by simp)).fu ha _ r V hd.2.1 ?_;cases hab:array (kind b) with
   |true=>
    rw[if_pos rfl];have hap:=(Qv hab).2;simp only[hap,hab,Bool.false_and,Bool.false_or,Bool.true_and,Bool.or_eq_true,beq_iff_eq] at hb;obtain⟨x,y,e,hx⟩:=((stl b (by simp)).a hab).item hab;refine Eba (T:=g o::(titem (kt b)++rest)) hd.2.2 ho ?_ ((ihl b (by simp)).it hab rest _ _ (Zc h91)) h;rcases hb with hb |hb
    ·exact .inl hb
    exact .inr ⟨hb,by show begA (titem (kt b)++rest)=true;rw[e];exact hx⟩
   |false=>
    rw[if_neg (by simp)];simp only[hab,Bool.false_and,Bool.or_false,Bool.and_eq_true,Bool.not_eq_true',beq_eq_false_iff_ne] at hb;refine X0 (T:=g o::(tk b++rest)) hd.2.2 ho ?_ ((ihl b (by simp)).pl hb.1 rest) h;have hbf:Tr.func (kind b)=true:=by
     have:=hb.1;unfold Tr.plain at this;simp only[Bool.and_eq_true,decide_eq_true_eq] at this;unfold Tr.func;simp only[Bool.and_eq_true,decide_eq_true_eq];omega
    rintro(e |e)
    ·exact hb.2 e
    have:=(((stl b (by simp)).f hbf).begs rest).1;have h2:begA (tk b++rest)=true:=e.2;rw[this] at h2;cases h2
  ·subst h
   obtain⟨rfl,rfl,rfl,rfl⟩:=Dh hh (by decide);obtain⟨a,rfl,ha⟩:=parts1 (l:=l) (p:=Tr.plain) (by simpa [Pb] using hm);refine⟨λh=>(absurd (show false=true from h) (by decide)),λh=>(absurd (show false=true from h) (by decide)),λ_ rest r V h91 h=>?_,λh=>(absurd (show false=true from h) (by decide))⟩;rw[Be];exact Gy (T:=g 8728::g 46::(tk a++rest)) rfl rfl ((ihl a (by simp)).pl ha rest) h
  rcases h with h |h |h |h |h<;>subst h<;>exact⟨λh=>(absurd (show false=true from h) (by decide)),λh=>(absurd (show false=true from h) (by decide)),λh=>(absurd (show false=true from h) (by decide)),λh=>(absurd (show false=true from h) (by decide))⟩
theorem Boa {t:Tree}(h:all t=true):Li t:=Fla _ t (Nat.lt_succ_self _) h
theorem line_back {l:List Tree}{o:Int}{m:List UInt8}{n:Rt.Nm}{t:List Int}(h:all (.mk 28 o m n t l)=true):lineT (tk (.mk 28 o m n t l))=some (.mk 28 o m n t l):=by
 obtain⟨hh,hm,hl⟩:=Sb h;obtain⟨rfl,rfl,rfl,rfl⟩:=Dh hh (by decide);have hm2:(!l.isEmpty&&(l.map kind).all (λx=>array x||(x==27)))=true:=by simpa [Pb] using hm
 simp only[Bool.and_eq_true,Bool.not_eq_true',List.all_eq_true] at hm2
 match l,hm2 with
 | [],h=>simp at h
 |s::r,h2=>
  have h1:=Ps false s r (λa ha=>⟨alls_mem hl a ha,?_,Boa (alls_mem hl a ha),λc hc=>?_⟩) [] (.inl rfl) (by decide)
  ·rw[List.append_nil] at h1
   have e:tk (.mk 28 0 [] Rt.none_ [] (s::r))=tjoin [g 8900] (((s::r).map kt).map Kt.toks):=by rw[Be];rfl
   rw[<-e] at h1;unfold lineT;obtain⟨f,hf⟩:=h1;obtain⟨x,hx⟩:=stmts_some false (tk (.mk 28 0 [] Rt.none_ [] (s::r)));have a1:=Lia (λf=>(mono f).stmts false _) hf (Nat.le_max_left f (fuel (tk (.mk 28 0 [] Rt.none_ [] (s::r)))));have a2:=Lia (λf=>(mono f).stmts false _) hx (Nat.le_max_right f (fuel (tk (.mk 28 0 [] Rt.none_ [] (s::r)))));rw[a1] at a2;rw[hx,<-Option.some.inj a2];rfl
  ·have:=h2.2 (kind a) (List.mem_map_of_mem ha)
   unfold Ip;simp only[Bool.or_eq_true,beq_iff_eq,Bool.false_and,Bool.or_false] at this⊢;exact this
  have ha2:=alls_mem hl a ha;obtain⟨ka,oa,ma,na,ta,la⟩:=a;exact Boa (alls_mem (Sb ha2).2.2 c hc)
end Pr
namespace Lx
open Tr Tk Go
def B (l:List UInt8):ByteArray:=⟨l.toArray⟩
theorem Kpa (a b:List UInt8):B (a++b)=B a++B b:=by
 unfold B;refine ByteArray.ext ?_;rw[ByteArray.data_append];simp
theorem X2 (a:List UInt8):(B a).size=a.length:=by unfold B;show a.toArray.size=_;simp
theorem Qqa {a:List UInt8}{t:ByteArray}{i:Nat}(h:i<a.length):Gl.by_ (B a++t) i=(a[i]).toNat:=by
 rw[Gl.by_left _ _ (by rw[X2];exact h),Gl.by_list _ (by simpa [B] using h)];simp[B]
theorem Coa {n:Nat}(h:n<256):(UInt8.ofNat n).toNat=n:=by simp;omega
theorem Jba {c:Nat}(h:Gl.may (c:Int)=true)(t:ByteArray):Utf8.decode (B (enc1 (c:Int))++t) 0=(c,Gl.wide c):=by
 have hm:=h;unfold Gl.may at h;simp only[Bool.and_eq_true,Bool.or_eq_true,decide_eq_true_eq] at h;obtain⟨⟨h0,h1⟩,h2⟩:=h;have hlen:(enc1 (c:Int)).length=Gl.wide c:=by unfold enc1;rw[List.length_map,Gl.one_len];rfl
 have hsz:(B (enc1 (c:Int))++t).size=Gl.wide c+t.size:=by rw[ByteArray.size_append,X2,hlen]
 have hget:∀i (hi:i<(Gl.one c).length),(Gl.one c)[i]<256->Gl.by_ (B (enc1 (c:Int))++t) i=(Gl.one c)[i]:=by
  intro i hi hlt;rw[Qqa (show i<(enc1 (c:Int)).length by unfold enc1;simpa using hi)];have:(enc1 (c:Int))[i]'(by unfold enc1;simpa using hi)=UInt8.ofNat ((Gl.one c)[i]):=by unfold enc1;simp
  rw[this,Coa hlt]
 generalize B (enc1 (c:Int))++t=s at*;rw[Gl.decode_eq];unfold Gl.one at hget;unfold Gl.wide at hsz⊢;by_cases a:c<128
 ·simp only[if_pos a] at hget hsz⊢
  have g0:=hget 0 (by simp) (by simp;omega);simp only[List.getElem_cons_zero] at g0;rw[g0,if_pos a]
 simp only[if_neg a] at hget hsz⊢;by_cases b:c<2048
 ·simp only[if_pos b] at hget hsz⊢
  have g0:=hget 0 (by simp) (by simp;omega);have g1:=hget 1 (by simp) (by simp;omega);simp only[List.getElem_cons_zero,List.getElem_cons_succ] at g0 g1;rw[show(0:Nat)+1=1 from rfl,g0,g1,if_neg (by omega),if_pos ⟨by omega,by omega,by omega⟩,if_pos (by omega)]
  congr 1
  omega
 simp only[if_neg b] at hget hsz⊢;by_cases d:c<65536
 ·simp only[if_pos d] at hget hsz⊢
  have g0:=hget 0 (by simp) (by simp;omega);have g1:=hget 1 (by simp) (by simp;omega);have g2:=hget 2 (by simp) (by simp;omega);simp only[List.getElem_cons_zero,List.getElem_cons_succ] at g0 g1 g2;have e:(224+c/4096)%16*4096+(128+c/64%64)%64*64+(128+c%64)%64=c:=by omega
  rw[show(0:Nat)+1=1 from rfl,show(0:Nat)+2=2 from rfl,g0,g1,g2,if_neg (by omega),if_neg (by omega),if_pos ⟨by omega,⟨by omega,by omega⟩,by omega,by omega⟩,e,if_pos ⟨by omega,hm⟩]
 simp only[if_neg d] at hget hsz⊢;have g0:=hget 0 (by simp) (by simp;omega);have g1:=hget 1 (by simp) (by simp;omega);have g2:=hget 2 (by simp) (by simp;omega);have g3:=hget 3 (by simp) (by simp;omega);simp only[List.getElem_cons_zero,List.getElem_cons_succ] at g0 g1 g2 g3;have e:(240+c/262144)%8*262144+(128+c/4096%64)%64*4096+(128+c/64%64)%64*64+(128+c%64)%64=c:=by omega
 rw[show(0:Nat)+1=1 from rfl,show(0:Nat)+2=2 from rfl,show(0:Nat)+3=3 from rfl,g0,g1,g2,g3,if_neg (by omega),if_neg (by omega),if_neg (by omega),if_pos ⟨by omega,⟨by omega,by omega⟩,⟨by omega,by omega⟩,by omega,by omega⟩,e,if_pos ⟨by omega,hm⟩]
theorem dec_enc:∀C:List Int,(∀c∈C,Gl.may c=true)->Gl.dec (B (enc C)) 0=(C.map Int.toNat,none)
 | [],_=>Gl.dec_end (Nat.zero_le _)
 |c::r,h=>by
  have hc:=h c (by simp);obtain⟨n,rfl⟩:∃n:Nat,c=(n:Int):=⟨c.toNat,by unfold Gl.may at hc;simp at hc;omega⟩;have ih:=dec_enc r (λx hx=>h x (List.mem_cons_of_mem _ hx));have e1:enc ((n:Int)::r)=enc1 (n:Int)++enc r:=rfl;have hlen:(B (enc1 (n:Int))).size=Gl.wide n:=by rw[X2];unfold enc1;rw[List.length_map,Gl.one_len];rfl
  have hw:1<=Gl.wide n:=by unfold Gl.wide;split<;>(try omega);split<;>(try omega);split<;>omega
  have hd:=Jba hc (B (enc r));have hr:Gl.read (B (enc1 (n:Int))++B (enc r)) 0=some (n,Gl.wide n):=by
   unfold Gl.read;rw[hd,if_neg];intro e;injection e with e1 e2
   have hE:Utf8.runeError=65533:=rfl;unfold Gl.wide at e2;rw[if_neg (by omega),if_neg (by omega),if_pos (by omega)] at e2;cases e2
  rw[e1,Kpa,Gl.dec_step (by rw[ByteArray.size_append,hlen];omega) hr];have:=Gl.dec_right (B (enc1 (n:Int))) (B (enc r)) ((B (enc r)).size+1) 0 (by omega);rw[Nat.zero_add,<-hlen,show(B (enc1 (n:Int))).size=(B (enc1 (n:Int))).size+0 from rfl,this,ih];rfl
def Xb (ps:List (Option Tok)):Prop:=∀c∈pcC ps,Gl.may c=true
theorem Bg {a b:List (Option Tok)}(h:Xb a)(k:Xb b):Xb (a++b):=by
 intro c hc;rw[Iq,List.mem_append] at hc;exact hc.elim (h c) (k c)
theorem Xd:Xb []:=λc h=>by cases h
theorem Fm {r:List (Option Tok)}(h:Xb r):Xb (none::r):=by
 intro c hc;have hc':c∈32::pcC r:=hc;rcases List.mem_cons.1 hc' with rfl |hc'
 ·decide
 exact h c hc'
theorem Pq {x:Tok}{r:List (Option Tok)}(hx:∀c∈Af x,Gl.may c=true)(h:Xb r):Xb (some x::r):=by
 intro c hc;have hc':c∈Af x++pcC r:=hc;exact(List.mem_append.1 hc').elim (hx c) (h c)
theorem Pe {c:Int}{r:List (Option Tok)}(hc:Gl.may c=true)(h:Xb r):Xb (p c::r):=Pq (λx hx=>by
 have hx':x∈[c]:=hx;rw[List.mem_singleton.1 hx'];exact hc) h
theorem Gla {s:List (Option Tok)}(h:Xb s):Xb (Y1 s):=Pe (by decide) (Bg h (Pe (by decide) Xd))
theorem Qq {a:Kp}(h:Xb a.pcs):Xb (Lg a):=by
 unfold Lg
 split
 ·exact h
 exact Gla h
theorem Yw {a:Kp}(h:Xb a.pcs):Xb (Ce a):=by
 unfold Ce
 split
 ·exact Gla h
 exact h
theorem Rq {b:List (Option Tok)}(hb:Xb b):∀L:List (List (Option Tok)),(∀s∈L,Xb s)->Xb (Oe b L)
 | [],_=>Xd
 | [s],h=>h s (by simp)
 |s::y::r,h=>Bg (h s (by simp)) (Bg hb (Rq hb (y::r) (λz hz=>h z (List.mem_cons_of_mem _ hz))))
theorem Jfa {l:List Kp}(h:∀a∈l,Xb a.pcs):Xb (Eh l):=
 Pe (by decide) (Bg (Rq (Pe (by decide) Xd) _ (λs hs=>by
  obtain⟨a,ha,rfl⟩:=List.mem_map.1 hs;exact h a ha)) (Pe (by decide) Xd))
theorem Doa {l:List Kp}(h:∀a∈l,Xb a.pcs)(i:Nat):Xb (nthP l i).pcs:=by
 unfold nthP;rw[List.getD_eq_getElem?_getD];by_cases hi:i<l.length
 ·rw[List.getElem?_eq_getElem hi];exact h _ (List.getElem_mem hi)
 rw[List.getElem?_eq_none (by omega)];exact Xd
theorem may_small {c:Int}(h:0<=c/\c<55296):Gl.may c=true:=by unfold Gl.may;simp;omega
theorem may_gly {c:Int}(h:gly c=true):Gl.may c=true:=by
 have h1:cls c=4\/cls c=5\/cls c=6:=(Cm h).1;by_cases hc:0<=c/\c<55296
 ·exact may_small hc
 exfalso
 have:cls c=0:=by
  unfold cls;have n1:c∉funs:=by unfold funs;simp only[List.mem_cons,List.not_mem_nil,or_false];omega
  have n2:c∉opers:=by unfold opers;simp only[List.mem_cons,List.not_mem_nil,or_false];omega
  have n3:c∉marks:=by unfold marks;simp only[List.mem_cons,List.not_mem_nil,or_false];omega
  repeat (first|rfl |rw[if_neg n1] |rw[if_neg n2] |rw[if_neg n3] |rw[if_neg (by first|omega |(simp;omega))])
 omega
theorem Sq {m:List UInt8}{b:Bool}(h:Ua m b=true):∀c∈Md m,Gl.may c=true:=λc hc=>may_small (by have:=(Bh h).2.2.2.2 c hc;omega)
theorem Rs {o:Int}(h:Tr.port o=true):Gl.may (48+o)=true:=may_small (by have:=Vt h;omega)
theorem Ema {k o:Int}{m:List UInt8}{n:Rt.Nm}{t:List Int}(h:Ta k o m n t=true):Xb (Kq k o m n t):=by
 have one:∀x:Tok,(∀c∈Af x,Gl.may c=true)->Xb ([x].map some):=λx hx=>Pq hx Xd;have key:∀{c:Prop} [Decidable c] {a b:List Tok},(c->Xb (a.map some))->(¬c->Xb (b.map some))->Xb ((if c then a else b).map some):=by
  intro c _ a b h1 h2;by_cases h:c
  ·rw[if_pos h];exact h1 h
  rw[if_neg h];exact h2 h
 unfold Kq Pr.leafK;refine key (λk1=>?_) (λk1=>key (λk2=>?_) (λk2=>key (λk3=>?_) (λk3=>key (λk4=>?_) (λk4=>key (λk5=>?_) (λk5=>key (λk6=>?_) (λk6=>key (λk7=>?_) (λk7=>key (λk17=>?_) (λk17=>key (λk18=>?_) (λk18=>key (λk19=>?_) (λk19=>key (λk21=>?_) (λk21=>?_)))))))))))
 ·refine one _ (λc hc=>?_)
  have hc':c∈Pc n:=hc;unfold Pc at hc';simp only[List.mem_append] at hc';rcases hc' with hc' |hc' |hc'
  ·split at hc'
   ·rw[List.mem_singleton.1 hc'];decide
   cases hc'
  ·exact may_small (by have:=(Xh _).2.1 c hc';omega)
  split at hc'
  ·cases hc'
  rcases List.mem_cons.1 hc' with rfl |hc'
  ·decide
  exact may_small (by have:=(Xh _).2.1 c hc';omega)
 ·subst k2
  refine one _ (λc hc=>?_);have hc':c∈39::(Zb t++[39]):=hc;rcases List.mem_cons.1 hc' with rfl |hc'
  ·decide
  rcases List.mem_append.1 hc' with hc' |hc'
  ·unfold Zb at hc'
   obtain⟨x,hx,hcx⟩:=List.mem_flatMap.1 hc'
   split at hcx
   ·have:c=39:=by simpa using hcx
    rw[this];decide
   rw[List.mem_singleton.1 hcx];exact(Cp h).2 x hx
  rw[List.mem_singleton.1 hc'];decide
 ·unfold Ta at h
  simp only[Bool.and_eq_true] at h;have h3:=h.1.2;rw[if_pos (.inl k3)] at h3;exact one _ (Sq h3)
 ·exact Pe (by decide) Xd
 ·exact Pe (by decide) Xd
 ·unfold Ta at h
  simp only[Bool.and_eq_true] at h;have h4:=h.2;rw[if_pos (.inl k6)] at h4;refine one _ (λc hc=>?_);have hc':c∈[9109,48+o]:=hc;rcases List.mem_cons.1 hc' with rfl |hc'
  ·decide
  rw[List.mem_singleton.1 hc'];exact Rs h4
 ·unfold Ta at h
  simp only[Bool.and_eq_true] at h;have h4:=h.2;rw[if_pos (.inr (.inl k7))] at h4;refine one _ (λc hc=>?_);have hc':c∈[9054,48+o]:=hc;rcases List.mem_cons.1 hc' with rfl |hc'
  ·decide
  rw[List.mem_singleton.1 hc'];exact Rs h4
 ·unfold Ta at h
  simp only[Bool.and_eq_true] at h;have h4:=h.2;rw[if_neg (by omega),if_pos k17] at h4;exact Pe (may_gly (glyph_gly h4)) Xd
 ·unfold Ta at h
  simp only[Bool.and_eq_true] at h;have h3:=h.1.2;rw[if_neg (by omega),if_pos (.inl k18)] at h3;exact one _ (Sq h3)
 ·exact Pe (by decide) Xd
 ·refine one _ (λc hc=>?_)
  have hc':c∈9109::(if o=1 then[85,80] else[68,67]):=hc;rcases List.mem_cons.1 hc' with rfl |hc'
  ·decide
  split at hc'
  all_goals
   rcases List.mem_cons.1 hc' with rfl |hc'
   ·decide
   rw[List.mem_singleton.1 hc'];decide
 exact Xd
theorem Eoa {k o:Int}{m:List UInt8}{n:Rt.Nm}{t:List Int}{l:List Kp}(hh:Ta k o m n t=true)(h:∀a∈l,Xb a.pcs):Xb (Bn k o m n t l):=by
 have N:=Doa h;have key:∀{c:Prop} [Decidable c] {a b:List (Option Tok)},(c->Xb a)->(¬c->Xb b)->Xb (if c then a else b):=by
  intro c _ a b h1 h2;by_cases h:c
  ·rw[if_pos h];exact h1 h
  rw[if_neg h];exact h2 h
 have texts:∀b,Xb b->Xb (Oe b (l.map Kp.pcs)):=λb hb=>Rq hb _ (λs hs=>by
  obtain⟨a,ha,rfl⟩:=List.mem_map.1 hs;exact h a ha)
 have tail:Xb (Eh (l.drop 1)):=Jfa (λa ha=>h a (List.mem_of_mem_drop ha));have D:Xb [p 8900]:=Pe (by decide) Xd;have nm:∀(kk:Int) r,(k=13\/k=14\/k=15\/k=27)->(kk=2\/kk=3)->Xb r->Xb (some ⟨kk,Rt.none_,[],m,0,0⟩::r):=by
  intro kk r hk hkk hr;refine Pq ?_ hr;have e:Af ⟨kk,Rt.none_,[],m,0,0⟩=Md m:=by
   rcases hkk with rfl |rfl<;>rfl
  rw[e];unfold Ta at hh;simp only[Bool.and_eq_true] at hh;have h3:=hh.1.2;by_cases k27:k=27
  ·rw[if_neg (by omega),if_pos (.inr k27)] at h3
   exact Sq h3
  rw[if_pos (by omega)] at h3;exact Sq h3
 unfold Bn;refine key (λ_=>?_) (λ_=>key (λ_=>?_) (λ_=>key (λ_=>?_) (λ_=>key (λ_=>?_) (λ_=>key (λk13=>?_) (λ_=>key (λk27=>?_) (λ_=>key (λk14=>?_) (λ_=>key (λk15=>?_) (λ_=>key (λk16=>?_) (λ_=>key (λ_=>?_) (λ_=>key (λk22=>?_) (λ_=>key (λk23=>?_) (λ_=>key (λ_=>?_) (λ_=>key (λ_=>?_) (λ_=>key (λ_=>?_) (λ_=>key (λ_=>?_) (λ_=>?_))))))))))))))))
 ·exact Rq (Fm Xd) _ (λs hs=>by
   obtain⟨a,ha,rfl⟩:=List.mem_map.1 hs;exact Qq (h a ha))
 ·exact Bg (Qq (N 0)) tail
 ·exact Bg (N 0) (Fm (Yw (N 1)))
 ·exact Bg (key (λ_=>N 0) (λ_=>Qq (N 0))) (Fm (Bg (N 1) (Fm (Yw (N 2)))))
 ·exact nm 2 _ (.inl k13) (.inl rfl) (Pe (by decide) (N 0))
 ·exact nm 3 _ (.inr (.inr (.inr k27))) (.inr rfl) (Pe (by decide) (N 0))
 ·exact nm 2 _ (.inr (.inl k14)) (.inl rfl) (Bg tail (Pe (by decide) (N 0)))
 ·exact nm 2 _ (.inr (.inr (.inl k15))) (.inl rfl) (Fm (Bg (N 0) (Pe (by decide) (N 1))))
 ·refine Pq (λc hc=>?_) (Pe (by decide) (N 0))
  have hc':c∈[9109,48+o]:=hc;unfold Ta at hh;simp only[Bool.and_eq_true] at hh;have h4:=hh.2;rw[if_pos (.inr (.inr k16))] at h4;rcases List.mem_cons.1 hc' with rfl |hc'
  ·decide
  rw[List.mem_singleton.1 hc'];exact Rs h4
 ·exact Pe (by decide) (Bg (texts _ D) (Pe (by decide) Xd))
 ·unfold Ta at hh
  simp only[Bool.and_eq_true] at hh;have h4:=hh.2;rw[if_neg (by omega),if_neg (by omega),if_neg (by omega),if_pos k22] at h4;exact Bg (N 0) (Pe (may_gly (Z8 h4).1) Xd)
 ·unfold Ta at hh
  simp only[Bool.and_eq_true] at hh;have h4:=hh.2;rw[if_neg (by omega),if_neg (by omega),if_neg (by omega),if_neg (by omega),if_pos k23] at h4;exact Bg (N 0) (Pe (may_gly (Cfa h4)) (key (λ_=>Qq (N 1)) (λ_=>N 1)))
 ·exact Pe (by decide) (Pe (by decide) (N 0))
 ·exact texts _ (Pe (by decide) Xd)
 ·exact texts _ (Pe (by decide) (Pe (by decide) Xd))
 ·exact texts _ D
 exact Ema hh
theorem mays:∀n (t:Tree),SizeOf.sizeOf t<n->all t=true->Xb (pc t):=by
 intro n
 induction n with
 |zero=>intro t h;omega
 |succ n ih=>
  intro t hn ha;obtain⟨k,o,m,nm,tx,l⟩:=t;obtain⟨h1,h2,h3⟩:=Sb ha;rw[Ty];refine Eoa h1 (λa hal=>?_);obtain⟨x,hx,rfl⟩:=List.mem_map.1 hal;obtain⟨i,hi,rfl⟩:=List.getElem_of_mem hx;refine ih _ ?_ (Ah h3 hi);have:=List.sizeOf_lt_of_mem (List.getElem_mem hi);simp only[Tree.mk.sizeOf_spec] at hn;omega
theorem Y2:∀{C:List Int},(∀c∈C,Gl.may c=true)->Gl.ints (C.map Int.toNat)=C
 | [],_=>rfl
 |c::r,h=>by
  have hc:=h c (by simp);have ih:=Y2 (C:=r) (λx hx=>h x (List.mem_cons_of_mem _ hx));unfold Gl.ints at ih⊢;rw[List.map_cons,List.map_cons,ih]
  congr 1
  unfold Gl.may at hc;simp at hc;omega
theorem Tia {ps:List (Option Tok)}(hf:Ic ps)(hm:Xb ps)(hl:(pcC ps).length<=2000):∃T,Tk.cut (B (enc (pcC ps)))=(T,0,0)/\Pr.Sm T (Qc ps):=by
 obtain⟨T,h1,h2⟩:=An ps [] [] ((pcC ps).length+1) hf (by omega);refine⟨T,?_,h2⟩;unfold Tk.cut;rw[dec_enc _ hm];dsimp only;rw[Y2 hm];unfold cutL;have h1':goF (pcC ps) ((pcC ps).length+1) 0 []=(T,0,0):=h1;rw[if_neg (by omega),h1',if_neg (by simp)]
theorem line_again {t:Tree}(h:all t=true)(hk:kind t=28)(hn:NumOk t)(hl:(pcC (pc t)).length<=2000):
 Ia t=enc (pcC (pc t))/\∃T,Tk.cut (B (Ia t))=(T,0,0)/\Pr.lineT T=some t:=by
 have hs:=shw_pc h;obtain⟨T,h1,h2⟩:=Tia (Ela _ t (Nat.lt_succ_self _) h hn) (mays _ t (Nat.lt_succ_self _) h) hl;refine⟨hs.symm,T,by rw[<-hs];exact h1,?_⟩;rw[Pr.lineT_same h2,Afa];obtain⟨k,o,m,nm,tx,l⟩:=t;obtain rfl:k=28:=hk;exact Pr.line_back h
end Lx
