/- Texts of this proof, joined. -/
import Derived.Test.YtogjgbmngagimaaGreatDoorM7
import Derived.SizedLaws
set_option linter.all false
set_option maxHeartbeats 8000000
set_option maxRecDepth 100000
namespace Tr
open Go
inductive Bc where
 |mk (kind op:Int) (Yo:List UInt8) (n:Rt.Nm) (text:List Int) (Bda:List Bc)
def kind:Bc->Int
 | .mk k _ _ _ _ _=>k
def op:Bc->Int
 | .mk _ o _ _ _ _=>o
def Yo:Bc->List UInt8
 | .mk _ _ m _ _ _=>m
def num:Bc->Rt.Nm
 | .mk _ _ _ n _ _=>n
def text:Bc->List Int
 | .mk _ _ _ _ t _=>t
def Bda:Bc->List Bc
 | .mk _ _ _ _ _ l=>l
mutual
def depth:Bc->Nat
 | .mk _ _ _ _ _ l=>G2 l+1
def G2:List Bc->Nat
 | []=>0
 |t::r=>max (depth t) (G2 r)
end
mutual
def count:Bc->Nat
 | .mk _ _ _ _ _ l=>J2 l+1
def J2:List Bc->Nat
 | []=>0
 |t::r=>count t+J2 r
end
mutual
def left:Bc->Nat->Int->Int
 | .mk _ _ _ _ t l,d,n=>if d=0 then-1 else L8 l (d-1) (n-1-((t.length/8:Nat):Int))
def L8:List Bc->Nat->Int->Int
 | [],_,n=>n
 |t::r,d,n=>if n<0 then n else L8 r d (left t d n)
end
def few (t:Bc):Bool:=decide (0<=left t 60 3000)
def array (k:Int):Bool:=decide (1<=k)&&decide (k<=16)&& !(k==10)
def func (k:Int):Bool:=decide (17<=k)&&decide (k<=24)
def M8 (k:Int):Bool:=decide (17<=k)&&decide (k<=21)
def Maa:List Int:=[0x2F,0x233F,0x5C,0x2340,0xA8,0x2368]
def Fca:List Int:=[0x2E,0x2218,0x2364,0x2363]
def Gca:List Int:=[0x2F,0x233F,0x5C,0x2340]
def Hca (c:Int):Bool:=(Tk.cls c==4)||Gca.contains c
def M2 (b:UInt8):Bool:=Tk.cls (b.toNat:Int)==2
def digit (b:UInt8):Bool:=decide (48<=b.toNat)&&decide (b.toNat<=57)
def Ica (s:List UInt8):Bool:=decide (65<=(s.getD 0 0).toNat)&&decide ((s.getD 0 0).toNat<=90)
def named (s:List UInt8)(function:Bool):Bool:=
 !s.isEmpty&&decide (s.length<=16)&&M2 (s.getD 0 0)&&s.all (λb=>M2 b||digit b)&&(Ica s==function)
def port (n:Int):Bool:=decide (0<=n)&&decide (n<8)
def zero (n:Rt.Nm):Bool:= !n.neg&&n.top.isEmpty&&n.bot.isEmpty
def Yc (k o:Int)(m:List UInt8)(n:Rt.Nm)(t:List Int):Bool:=
 (if k=1 then Rt.right n else zero n)&&(if k=2 then decide (t.length<=2048)&&t.all Gl.may else t.isEmpty)&&
 (if k=3\/k=13\/k=14\/k=15 then named m false else if k=18\/k=27 then named m true else m.isEmpty)&&
 (if k=6\/k=7\/k=16 then port o else if k=17 then Hca o else if k=21 then(o==0)||(o==1) else if k=22 then Maa.contains o else if k=23 then Fca.contains o else o==0)
def Lg:List Int->List (Int->Bool)->Bool
 | [],[]=>true
 |k::r,f::s=>f k&&Lg r s
 |_,_=>false
def Jca (k:Int):Bool:=array k||(k==10)
def Cda (k o:Int)(l:List Int):Bool:=
 if k=8 then decide (2<=l.length)&&l.all array
 else if k=9\/k=14 then decide (2<=l.length)&&array (l.getD 0 0)&&(l.drop 1).all Jca
 else if k=11\/k=15 then Lg l [func,array]
 else if k=12 then Lg l [array,func,array]
 else if k=13\/k=16 then Lg l [array]
 else if k=22\/k=27 then Lg l [func]
 else if k=23 then Lg l [func,λx=>(M8 x&& !(o==0x2364))||(array x&&((o==0x2364)||(o==0x2363)))]
 else if k=24 then Lg l [M8]
 else if k=25\/k=26 then Lg l [array,array]
 else if k=20 then !l.isEmpty&&l.all (λx=>array x||(x==27)||(x==25)||(x==26))
 else if k=28 then !l.isEmpty&&l.all (λx=>array x||(x==27))
 else if 1<=k/\k<=21 then l.isEmpty
 else false
def one:Bc->Bool
 | .mk k o m n t l=>Yc k o m n t&&Cda k o (l.map kind)
mutual
def all:Bc->Bool
 | .mk k o m n t l=>one (.mk k o m n t l)&&Naa l
def Naa:List Bc->Bool
 | []=>true
 |t::r=>all t&&Naa r
end
def right (t:Bc):Bool:=decide (depth t<=40)&&decide (count t<=2048)&&all t
mutual
def go:Bc->Nat->Nat->Bool×Nat
 | .mk k o m n t l,d,q=>if d=0\/q=0 then(false,q) else if one (.mk k o m n t l) then gos l (d-1) (q-1) else(false,q-1)
def gos:List Bc->Nat->Nat->Bool×Nat
 | [],_,q=>(true,q)
 |t::r,d,q=>if(go t d q).1 then gos r d (go t d q).2 else(false,(go t d q).2)
end
end Tr
namespace Tr
open Go
def trimmed (l:List Nat):Bool:=decide (l.length<=32)&&(l.isEmpty|| !(l.getLastD 0==0))
def isOne (l:List Nat):Bool:=l==[1]
def ratio (n:Rt.Nm):Bool:=
 if trimmed n.top&&trimmed n.bot&& !n.bot.isEmpty&& !(n.top.isEmpty&&n.neg) then isOne n.bot||(Nt.digs (Nat.gcd (Nt.val n.top) (Nt.val n.bot))==[1]) else false
theorem trimmed_iff (l:List Nat):trimmed l=true↔l.length<=32/\Nt.Top l:=by
 unfold trimmed;simp only[Bool.and_eq_true,decide_eq_true_eq,Bool.or_eq_true,Bool.not_eq_true',beq_eq_false_iff_ne,List.isEmpty_iff];refine and_congr_right λ_=>?_
 constructor
 ·rintro(h |h) hne
  ·exact absurd h hne
  rwa[List.getLastD_eq_getLast?,List.getLast?_eq_some_getLast hne] at h
 intro h;by_cases hne:l=[]
 ·exact .inl hne
 refine .inr ?_;have:=h hne;rwa[List.getLastD_eq_getLast?,List.getLast?_eq_some_getLast hne]
theorem digs_one:Nt.digs 1=[1]:=by rw[Nt.digs_pos (by omega)];simp[Nt.digs_zero]
theorem ratio_right {n:Rt.Nm}(o1:Nt.Ok n.top)(o2:Nt.Ok n.bot):ratio n=Rt.right n:=by
 rw[Bool.eq_iff_iff,Rt.right_iff o1 o2];have hd:Nt.digs (Nat.gcd (Nt.val n.top) (Nt.val n.bot))=[1]↔Nat.gcd (Nt.val n.top) (Nt.val n.bot)=1:=by
  constructor
  ·intro h;exact Nt.digs_inj (h.trans digs_one.symm)
  intro h;rw[h,digs_one]
 unfold ratio;have h1:(trimmed n.top&&trimmed n.bot&& !n.bot.isEmpty&& !(n.top.isEmpty&&n.neg))=true↔n.top.length<=32/\n.bot.length<=32/\Nt.Top n.top/\Nt.Top n.bot/\n.bot≠[]/\(n.top=[]->n.neg=false):=by
  simp only[Bool.and_eq_true,trimmed_iff]
  constructor
  ·rintro⟨⟨⟨⟨a,b⟩,c,d⟩,e⟩,f⟩
   refine⟨a,c,b,d,?_,?_⟩
   ·rintro h;rw[h] at e;cases e
   intro h;rw[h] at f;simpa using f
  rintro⟨a,b,c,d,e,f⟩;refine⟨⟨⟨⟨a,c⟩,b,d⟩,?_⟩,?_⟩
  ·cases hb:n.bot with
   |nil=>exact absurd hb e
   |cons _ _=>rfl
  cases ht:n.top with
  |nil=>simpa using f ht
  |cons _ _=>rfl
 by_cases hc:(trimmed n.top&&trimmed n.bot&& !n.bot.isEmpty&& !(n.top.isEmpty&&n.neg))=true
 ·rw[if_pos hc]
  have h2:=h1.1 hc
  constructor
  ·intro h
   refine⟨h2.1,h2.2.1,h2.2.2.1,h2.2.2.2.1,h2.2.2.2.2.1,h2.2.2.2.2.2,?_⟩;simp only[Bool.or_eq_true,isOne,beq_iff_eq] at h;rcases h with h |h
   ·rw[h];simp[Nt.val]
   exact hd.1 h
  rintro⟨_,_,_,_,_,_,h⟩;simp only[Bool.or_eq_true,isOne,beq_iff_eq];exact .inr (hd.2 h)
 rw[if_neg hc]
 constructor
 ·intro h;cases h
 rintro⟨a,b,c,d,e,f,g⟩;exact absurd (h1.2 ⟨a,b,c,d,e,f⟩) hc
def Pda (o:Int)(m:List UInt8)(n:Rt.Nm)(t:List Int):Int:=
 (if o=0 then 0 else 1)+(if m=[] then 0 else 2)+(if zero n then 0 else 4)+(if t=[] then 0 else 8)
def at_ (s:List UInt8)(i:Nat):UInt8:=if i<s.length then s.getD i 0 else s.getD (s.length-1) 0
end Tr
namespace Go.Proofs.YtogjgbmngagimaaGreatDoor
section
namespace Sp
open Ar
def Kl (rd:List UInt8->Option Ba):Prop:=∀t a,rd t=some a->wfA a
theorem T6 {ch:List UInt8->Option Int}{rd:List UInt8->Option Ba}(hr:Kl rd){L:Nat}(hL:L<18446744073709551616){t:List UInt8}{c:Fa}(h:cellR ch rd L t=some c):wfCel c:=by
 match t,h with
 |b::r,h=>
  rw[cellR] at h
  split at h
  ·split at h
   ·injection h with h
    subst h;rw[wfCel,wfIns];exact⟨hL,trivial⟩
   cases h
  split at h
  ·obtain⟨n,-,rfl⟩:=Option.map_eq_some_iff.1 h
   rw[wfCel,wfIns];exact⟨hL,trivial⟩
  split at h
  ·obtain⟨a,ha,rfl⟩:=Option.map_eq_some_iff.1 h
   rw[wfCel,wfIns,wfIns];exact⟨hL,hr _ _ ha,trivial⟩
  cases h
theorem Ut {ch:List UInt8->Option Int}{rd:List UInt8->Option Ba}(hr:Kl rd){l t:List UInt8}{c:Fa}(h:pairR ch rd l t=some c):wfCel c:=by
 unfold pairR at h;cases hl:labP l with
 |none=>rw[hl] at h;cases h
 |some L=>rw[hl] at h;exact T6 hr (Qo hl) h
theorem Kq {rd:List UInt8->Option Ba}(hr:Kl rd):∀(l:List (List UInt8×List UInt8)) (cs:List Fa),cellsP rd l=some cs->wfCels cs
 | [],cs,h=>by rw[cellsP] at h;injection h with h;subst h;rw[wfCels];trivial
 |p::l,cs,h=>by
  rw[cellsP] at h
  split at h
  ·cases h
  next c hp=>
  obtain⟨cs',h',rfl⟩:=Option.map_eq_some_iff.1 h;rw[wfCels];exact⟨Ut hr hp,Kq hr _ _ h'⟩
theorem U6 {rd:List UInt8->Option Ba}(hr:Kl rd):Kl (bodyP rd):=by
 intro s a h;unfold bodyP at h
 split at h
 ·cases h
 next S hl=>
 split at h
 ·cases h
 obtain⟨cs,hc,rfl⟩:=Option.map_eq_some_iff.1 h;rw[wfA];exact⟨Qo hl,Kq hr _ _ hc⟩
theorem Fm:∀n,Kl (readP n)
 | 0=>λt a h=>by cases h
 |n+1=>U6 (Fm n)
theorem Mq {rd:List UInt8->Option Ba}(hr:Kl rd):∀(f:Nat) (s:List UInt8) (cs:List Fa),cellsD rd f s=some cs->wfCels cs
 | 0,s,cs,h=>by rw[cellsD] at h;injection h with h;subst h;rw[wfCels];trivial
 |f+1,s,cs,h=>by
  rw[cellsD] at h
  split at h
  ·injection h with h;subst h;rw[wfCels];trivial
  split at h
  ·cases h
  split at h
  ·cases h
  split at h
  ·cases h
  next c hp=>
  obtain⟨cs',h',rfl⟩:=Option.map_eq_some_iff.1 h;rw[wfCels];exact⟨Ut hr hp,Mq hr _ _ _ h'⟩
theorem X6 {rd:List UInt8->Option Ba}(hr:Kl rd):Kl (bodyD rd):=by
 intro s a h;unfold bodyD at h
 split at h
 ·cases h
 split at h
 ·cases h
 split at h
 ·cases h
 next S hl=>
 obtain⟨cs,h',rfl⟩:=Option.map_eq_some_iff.1 h;rw[wfA];exact⟨Qo hl,Mq hr _ _ _ h'⟩
theorem Gm:∀n,Kl (readD n)
 | 0=>λt a h=>by cases h
 |n+1=>X6 (Gm n)
theorem parse_both (s:List UInt8):parseX (readP 9 s) s=parseX (readD 9 s) s:=Ry s λa h=>h.elim (Fm 9 s a) (Gm 9 s a)
theorem readP_len {s:List UInt8}{a:Ba}(hs:s.length<=4000)(h:readP 9 s=some a)(hr:Ga 8 a=true):(arrT a).length<1000000:=by
 have h1:=Hl 9 s a h;have h2:=Gk a 8 hr (Fm 9 s a h) (by omega);omega
theorem readD_len {s:List UInt8}{a:Ba}(hs:s.length<=4000)(h:readD 9 s=some a)(hr:Ga 8 a=true):(arrT a).length<1000000:=by
 have h1:=Jl 9 s a h;have h2:=Gk a 8 hr (Gm 9 s a h) (by omega);omega
theorem text_len {a:Ba}(hr:Ga 8 a=true)(hw:wfA a)(hp:Xb a<=4000):(arrT a).length<1000000:=by
 have h2:=Gk a 8 hr hw hp;omega
theorem readP_len' {a b:Ba}(hr:Ga 8 a=true)(hw:wfA a)(hp:Xb a<=4000)(h:readP 9 (arrT a)=some b):(arrT b).length<1000000:=by
 rw[(Ye _ a 8 (Nat.lt_succ_self _) hr hw).1] at h
 split at h
 ·injection h with h;rw[<-h];exact text_len hr hw hp
 cases h
theorem readD_len' {a b:Ba}(hr:Ga 8 a=true)(hw:wfA a)(hp:Xb a<=4000)(h:readD 9 (arrT a)=some b):(arrT b).length<1000000:=by
 rw[(Ye _ a 8 (Nat.lt_succ_self _) hr hw).2] at h
 split at h
 ·injection h with h;rw[<-h];exact text_len hr hw hp
 cases h
end Sp
end
section
open Go.RowKit Ar
structure Nj where
 kind:Int
 port:Int
 frm:Nat
 to:Nat
 cls:Int
 v:Ba
def Dda (r:Nj)(S':Nat)(X:Option Addr)(n c:Nat)(X':Option Addr)(n' c':Nat):List Value:=
 [.int .i64 r.kind,.int .i64 r.port,.int .u64 (r.frm:Int),.int .u64 (r.to:Int),.int .i64 r.cls,.int .u64 (S':Int),.slice X n c,.slice X' n' c']
def IsRec (w:World)(B:Nat)(r:Nj)(vs:List Value):Prop:=
 ∃S' X n c X' n' c',vs=Dda r S' X n c X' n' c'/\IsArr w B r.v [.int .u64 (S':Int),.slice X n c,.slice X' n' c']/\r.frm<18446744073709551616/\r.to<18446744073709551616/\Kc [r.kind,r.port,r.cls]
def IsRecs (w:World)(B:Nat):List Nj->List Value->Prop
 | [],vs=>vs=[]
 |c::r,vs=>∃u t,vs=u++t/\IsRec w B c u/\IsRecs w B r t
theorem IsRec.len {w:World}{B:Nat}{r:Nj}{vs:List Value}(h:IsRec w B r vs):vs.length=8:=by
 obtain⟨_,_,_,_,_,_,_,rfl,_⟩:=h;rfl
theorem IsRec.keep {w w':World}{B B':Nat}(hk:∀p:Addr,p.block<B->w'.cell? p=w.cell? p)(hB:B<=B'){r:Nj}{vs:List Value}(h:IsRec w B r vs):IsRec w' B' r vs:=by
 obtain⟨S',X,n,c,X',n',c',h1,h2,h3⟩:=h;exact⟨S',X,n,c,X',n',c',h1,IsArr.keep hk hB _ _ h2,h3⟩
theorem IsRecs.keep {w w':World}{B B':Nat}(hk:∀p:Addr,p.block<B->w'.cell? p=w.cell? p)(hB:B<=B'):∀{rs:List Nj} {vs:List Value},IsRecs w B rs vs->IsRecs w' B' rs vs
 | [],_,h=>h
 |_::_,_,⟨u,t,h1,h2,h3⟩=>⟨u,t,h1,h2.keep hk hB,h3.keep hk hB⟩
theorem IsRecs.below {w w':World}{B:Nat}{rs:List Nj}{vs:List Value}(h:IsRecs w B rs vs)(hb:Below B w w'):IsRecs w' B rs vs:=h.keep (λ_ hp=>hb.cell hp) Lr
theorem IsRecs.len {w:World}{B:Nat}:∀{rs:List Nj} {vs:List Value} (h:IsRecs w B rs vs),vs.length=8*rs.length
 | [],_,h=>by rw[IsRecs] at h;subst h;rfl
 |c::r,vs,h=>by
  rw[IsRecs] at h;obtain⟨u,t,rfl,h2,h3⟩:=h;rw[List.length_append,h2.len,h3.len,List.length_cons];omega
theorem IsRecs.at_ {w:World}{B:Nat}:∀{rs:List Nj} {vs:List Value} (h:IsRecs w B rs vs) {k:Nat} (hk:k<rs.length),∃u,IsRec w B rs[k] u/\u=(vs.drop (8*k)).take 8
 | [],_,_,_,hk=>by simp at hk
 |c::r,vs,h,0,_=>by
  rw[IsRecs] at h;obtain⟨u,t,rfl,h2,h3⟩:=h;exact⟨u,h2,by simp[h2.len]⟩
 |c::r,vs,h,k+1,hk=>by
  rw[IsRecs] at h;obtain⟨u,t,rfl,h2,h3⟩:=h;obtain⟨u',h4,h5⟩:=h3.at_ (k:=k) (by simpa using hk);refine⟨u',h4,h5.trans ?_⟩;rw[show 8*(k+1)=u.length+8*k by rw[h2.len];omega,List.drop_append,List.drop_eq_nil_of_le (Nat.le_add_right _ _),Nat.add_sub_cancel_left,List.nil_append]
theorem IsRecs.snoc {w:World}{B:Nat}:∀{cs:List Nj} {vs:List Value} (h:IsRecs w B cs vs) {c:Nj} {u:List Value} (hc:IsRec w B c u),IsRecs w B (cs++[c]) (vs++u)
 | [],vs,h,c,u,hc=>by
  rw[IsRecs] at h;subst h;exact⟨u,[],by simp,hc,rfl⟩
 |x::r,vs,h,c,u,hc=>by
  rw[IsRecs] at h;obtain⟨u',t,rfl,h2,h3⟩:=h;exact⟨u',t++u,by simp,h2,h3.snoc hc⟩
structure N8 where
 clear:Nat->Nat
 label:Nat->Nat
 ins:Nat->List Ba
 draws:Nat->List Int
 auth:Nat
 fuel:Int
 quota:Int
 depth:Int
structure IsCfg (w:World) (B:Nat) (c:N8) (C:Array Value):Prop where
 size:C.size=36
 clear:∀k,k<8->C[k]? =some (.int .u64 (c.clear k:Int))/\c.clear k<18446744073709551616
 ins:∀k,k<8->∃A cp us,C[8+k]? =some (.slice A (c.ins k).length cp)/\Fits (c.ins k).length cp 56/\Lies w B A us/\IsArrs w B (c.ins k) us
 label:∀k,k<8->C[16+k]? =some (.int .u64 (c.label k:Int))/\c.label k<18446744073709551616
 draws:∀k,k<8->∃A cp,C[24+k]? =some (.slice A (c.draws k).length cp)/\Fits (c.draws k).length cp 8/\Kc (c.draws k)/\Lies w B A (Sb (c.draws k))
 auth:C[32]? =some (.int .u64 (c.auth:Int))
 authLt:c.auth<18446744073709551616
 fuel:C[33]? =some (.int .i64 c.fuel)
 quota:C[34]? =some (.int .i64 c.quota)
 depth:C[35]? =some (.int .i64 c.depth)
 wf:Kc [c.fuel,c.quota,c.depth]
theorem IsCfg.keep {w w':World}{B B':Nat}{c:N8}{C:Array Value}(h:IsCfg w B c C)(hk:∀p:Addr,p.block<B->w'.cell? p=w.cell? p)(hB:B<=B'):IsCfg w' B' c C:=
 { h with
   ins:=λk hk8=>by
    obtain⟨A,cp,us,h1,h2,h3,h4⟩:=h.ins k hk8;exact⟨A,cp,us,h1,h2,(h3.keep hk).more hB,IsArrs.keep hk hB _ _ h4⟩
   draws:=λk hk8=>by
    obtain⟨A,cp,h1,h2,h3,h4⟩:=h.draws k hk8;exact⟨A,cp,h1,h2,h3,(h4.keep hk).more hB⟩}
theorem IsCfg.below {w w':World}{B:Nat}{c:N8}{C:Array Value}(h:IsCfg w B c C)(hb:Below B w w'):IsCfg w' B c C:=h.keep (λ_ hp=>hb.cell hp) Lr
theorem IsCfg.one {w:World}{B:Nat}{c:N8}{C:Array Value}(h:IsCfg w B c C):C.all (·.oneCell')=true:=by
 rw[Array.all_eq_true];intro i hi;have hs:=h.size;have hx:C[i]? =some C[i]:=by simp[hi]
 have key:∀v,C[i]? =some v->v.oneCell'=true->C[i].oneCell'=true:=λv hv ho=>by
  rw[hx] at hv;injection hv with hv;rw[hv];exact ho
 by_cases h1:i<8
 ·exact key _ (h.clear i h1).1 rfl
 by_cases h2:i<16
 ·obtain⟨A,cp,us,e,_⟩:=h.ins (i-8) (by omega)
  rw[show 8+(i-8)=i by omega] at e;exact key _ e rfl
 by_cases h3:i<24
 ·have e:=(h.label (i-16) (by omega)).1
  rw[show 16+(i-16)=i by omega] at e;exact key _ e rfl
 by_cases h4:i<32
 ·obtain⟨A,cp,e,_⟩:=h.draws (i-24) (by omega)
  rw[show 24+(i-24)=i by omega] at e;exact key _ e rfl
 rcases(show i=32\/i=33\/i=34\/i=35 by omega) with rfl |rfl |rfl |rfl
 ·exact key _ h.auth rfl
 ·exact key _ h.fuel rfl
 ·exact key _ h.quota rfl
 exact key _ h.depth rfl
end
section
open Go.RowKit Ar
theorem Y6 (n:Nat):∀(a:Ba) (vs:List Value) (w:World) (B:Nat),SizeOf.sizeOf a<n->IsArr w B a vs->B<=w.heap.size->
 Calls Tryz.prog 48 #[.agg vs.toArray] w (Q6 w):=by
 induction n with
 |zero=>intro a vs w B h;omega
 |succ n ih=>
  intro a vs w B hn h hB;obtain⟨S,shape,cells⟩:=a;rw[IsArr] at h;obtain⟨A,c,A',c',us,rfl,hS,hf,hf',hw,hl,hl',hcs⟩:=h;have HC:=Qd hcs;have HL:=Qd hl';have HLS:=Qd hl;have hfl:=(hf'.le (by omega));have hfs:shape.length<=17592186044416:=by have h1:=hf.1;have h2:=hf.2;omega
  have hn':SizeOf.sizeOf (Ba.mk S shape cells)<=n:=by omega
  have HN:=Qd hn';clear hcs hl' hl hf hf' hw hn hn';obtain⟨W,hW⟩:∃W,W=w.alloc (.cells #[.int .u64 (S:Int),.slice A shape.length c,.slice A' cells.length c'] 42):=⟨_,rfl⟩;have hWs:W.heap.size=w.heap.size+1:=by rw[hW];simp
  have hWb:Below w.heap.size w W:=by rw[hW];exact Br.alloc Lr _
  have HW:=Qd hW;have HWs:=Qd hWs;have HQ1:Hid (W.cell? ⟨w.heap.size,1,none⟩=some (.slice A shape.length c)):=Qd (by rw[hW];go_simp);have HQ2:Hid (W.cell? ⟨w.heap.size,2,none⟩=some (.slice A' cells.length c')):=Qd (by rw[hW];go_simp);have hWl:w.heap.size<W.heap.size:=by omega
  clear hW hWs;go_enter Tryz.func48,Tryz.ntmps48
  go_wp2_with fail
  rw[<-HW.out];go_loopw [3,4] (λn i wr=>∃(k:Nat) (m:Int),k<=shape.length/\i= .int .i64 k/\n= .int .i64 m/\Below W.heap.size W wr) (λ_ i _=>shape.length-(intOf i).toNat)
  case atStart=>exact⟨0,1,Nat.zero_le _,rfl,rfl,Br⟩
  case round=>
   obtain⟨k,m,hk,rfl,rfl,hbel⟩:=hrel;have hbox:wr.cell? ⟨w.heap.size,1,none⟩=some (.slice A shape.length c):=(hbel.cell (p:=⟨w.heap.size,1,none⟩) hWl).trans HQ1.out;by_cases hgo:k<shape.length/\m<=100000
   ·obtain⟨hlt,hm⟩:=hgo
    obtain⟨b,off,rfl,hb,g0⟩:=Zb HLS.out hlt;have g1:wr.cell? ⟨b,off+k,none⟩=some (.int .i64 shape[k]):=((hbel.cell (p:=⟨b,off+k,none⟩) (show b<W.heap.size by omega)).trans (hWb.cell (p:=⟨b,off+k,none⟩) (show b<w.heap.size by omega))).trans g0;clear g0;generalize shape[k]=x at*;have hk0:(0:Int)<=(k:Int):=by omega
    have hk1:(k:Int)<(shape.length:Int):=by omega
    by_cases hx:0<x
    all_goals
     go_wp2_with fail
     go_roundw
     case rel=>exact⟨k+1,_,by omega,by go_num,rfl,hbel⟩
     case measure=>simp[intOf];omega
   by_cases hm:100000<m
   ·by_cases hlt:k<shape.length
    all_goals
     clear hgo;go_wp2_with fail
     go_ret;exact⟨false,rfl,hWb.trans (hbel.mono (by omega))⟩
   have hlt:¬k<shape.length:=λh=>hgo ⟨h,by omega⟩;clear hgo;go_wp2_with fail
   clear hbox;go_loopw [5] (λi wr=>∃k:Nat,k<=cells.length/\i= .int .i64 k/\Below W.heap.size W wr) (λi _=>cells.length-(intOf i).toNat)
   case atStart=>exact⟨0,Nat.zero_le _,rfl,hbel⟩
   case round=>
    clear hbel hlt;obtain⟨k,hk,rfl,hbel⟩:=hrel;have hbox:wr.cell? ⟨w.heap.size,2,none⟩=some (.slice A' cells.length c'):=(hbel.cell (p:=⟨w.heap.size,2,none⟩) hWl).trans HQ2.out;by_cases hlt:k<cells.length
    ·obtain⟨b,off,L,kind,neg,top,bot,ch,ins,A1,c1,A2,c2,A3,c3,us3,rfl,hb,hL,HX,t1,t2,t3,t4,t5,t6,g0,g1,g2,g3,g4,g5,g6⟩:=Dd HC.out HL.out (wr:=wr) (λp hp=>(hbel.cell (by omega)).trans (hWb.cell (by omega))) hlt
     have HG6:=Qd ((hbel.cell (p:=⟨b,off+k*7+6,none⟩) (show b<W.heap.size by omega)).symm.trans g6);clear g0 g1 g2 g3 g4 g5 g6;have hk0:(0:Int)<=(k:Int):=by omega
     have hk1:(k:Int)<(cells.length:Int):=by omega
     go_wp2_with fail
     clear hbox;go_loopw [6] (λj wr=>∃i:Nat,i<=ins.length/\j= .int .i64 i/\Below W.heap.size W wr) (λj _=>ins.length-(intOf j).toNat)
     case atStart=>exact⟨0,Nat.zero_le _,rfl,hbel⟩
     case round=>
      clear hbel;obtain⟨i,hi,rfl,hbel⟩:=hrel;have hsz:=hbel.size;have hbox:wr.cell? ⟨w.heap.size,2,none⟩=some (.slice (some ⟨b,off,none⟩) cells.length c'):=(hbel.cell (p:=⟨w.heap.size,2,none⟩) hWl).trans HQ2.out;have g6:wr.cell? ⟨b,off+k*7+6,none⟩=some (.slice A3 ins.length c3):=(hbel.cell (p:=⟨b,off+k*7+6,none⟩) (show b<W.heap.size by omega)).trans HG6.out;by_cases hlt':i<ins.length
      ·obtain⟨b',off',S',X,xn,xc,X',xn',xc',rfl,hb',HA,e0,e1,e2⟩:=Ue HX.out.arrs HX.out.li (wr:=wr) (λp hp=>(hbel.cell (by omega)).trans (hWb.cell (by omega))) hlt'
       have IH:=Qd (ih ins[i] [.int .u64 (S':Int),.slice X xn xc,.slice X' xn' xc'] wr B (by have:=Gs (S:=S) (shape:=shape) hlt HX.out.eq hlt';have:=HN.out;omega) (HA.out.below ((hWb.mono (by omega)).trans (hbel.mono (by omega)))) (by omega));go_wp2_with fail
       refine IH.out.mono ?_;rintro e w2 ⟨r,rfl,hb2⟩;have hb3:=hbel.trans (hb2.mono (by omega));cases r
       ·go_wp2_with fail
        go_ret;exact⟨false,rfl,hWb.trans (hb3.mono (by omega))⟩
       go_wp2_with fail
       go_roundw
       case rel=>exact⟨i+1,by omega,by go_num,hb3⟩
       case measure=>simp[intOf];omega
      go_wp2_with fail
      go_roundw
      case rel=>exact⟨k+1,by omega,by go_num,hbel⟩
      case measure=>simp[intOf];omega
    go_wp2_with fail
    go_ret;exact⟨true,rfl,hWb.trans (hbel.mono (by omega))⟩
def D9 (w:World)(a:Ba)(e:Ending)(w':World):Prop:=∃r:Bool,e= .returned (.bool r)/\(r=true->Ga 8 a=true/\Xb a<=4000)/\Below w.heap.size w w'
theorem Z6 (a:Ba)(vs:List Value)(w:World)(B:Nat)(h:IsArr w B a vs)(hB:B<=w.heap.size):
 Calls Tryz.prog 16 #[.agg vs.toArray] w (D9 w a):=by
 have F:=Qd (λ(wx:World) (hx:Below w.heap.size w wx)=>S6 a vs wx B (h.below (hx.mono hB)) (Nat.le_trans hB hx.size));have RG:=Qd (λ(wx:World) (hx:Below w.heap.size w wx)=>Yf _ a vs 8 wx B (Nat.lt_succ_self _) (h.below (hx.mono hB)) (Nat.le_trans hB hx.size) (by omega));have TH:=Qd (λ(wx:World) (hx:Below w.heap.size w wx)=>Y6 _ a vs wx B (Nat.lt_succ_self _) (h.below (hx.mono hB)) (Nat.le_trans hB hx.size));obtain⟨S,A,n,c,A',n',c',rfl⟩:=h.form;clear h;obtain⟨RR,hRR⟩:∃r,r=Ga 8 a:=⟨_,rfl⟩;rw[<-hRR] at RG;have HRR:=Qd hRR;clear hRR;have hW0:∀o,Below w.heap.size w (w.alloc o):=λo=>Br.alloc Lr _;obtain⟨W,hW⟩:∃W,W=w.alloc (.cells #[.int .u64 (S:Int),.slice A n c,.slice A' n' c'] 42):=⟨_,rfl⟩;have hWb:Below w.heap.size w W:=by rw[hW];exact hW0 _
 have HB0:Hid (W.heap[w.heap.size]? =some (.cells #[.int .u64 (S:Int),.slice A n c,.slice A' n' c'] 42 (0,0))):=Qd (by rw[hW];exact heap_alloc_new _ _);have hWl:w.heap.size<W.heap.size:=by rw[hW];simp
 have HW:=Qd hW;clear hW hW0;have HQ:Hid (∀wx,Below W.heap.size W wx->wx.cell? ⟨w.heap.size,0,none⟩=some (.int .u64 (S:Int))/\wx.cell? ⟨w.heap.size,1,none⟩=some (.slice A n c)/\wx.cell? ⟨w.heap.size,2,none⟩=some (.slice A' n' c')):=Qd (λwx hx=>by
  have hb:=(hx.block w.heap.size hWl).trans HB0.out;exact⟨(cell_of_row wx w.heap.size 0 _ _ _ hb).trans rfl,(cell_of_row wx w.heap.size 1 _ _ _ hb).trans rfl,(cell_of_row wx w.heap.size 2 _ _ _ hb).trans rfl⟩)
 go_enter Tryz.func16,Tryz.ntmps16
 go_wp2_with fail
 rw[<-HW.out];refine(F.out _ hWb).mono ?_;rintro e w2 ⟨r,rfl,hpp,hb2⟩;have HPP:=Qd hpp;clear hpp;have hb3:=hWb.trans (hb2.mono hWb.size);cases r
 ·go_wp2_with fail
  go_ret;exact⟨false,rfl,nofun,hb3⟩
 obtain⟨p0,p1,p2⟩:=HQ.out w2 hb2;go_wp2_with fail
 refine(RG.out _ hb3).mono ?_;rintro e w4 ⟨rfl,hb4⟩;have hb5:=hb3.trans (hb4.mono hb3.size);have hb6:=hb2.trans (hb4.mono hb2.size);clear p0 p1 p2;cases RR
 ·go_wp2_with fail
  go_ret;exact⟨false,rfl,nofun,hb5⟩
 obtain⟨p0,p1,p2⟩:=HQ.out w4 hb6;go_wp2_with fail
 refine(TH.out _ hb5).mono ?_;rintro e w6 ⟨r,rfl,hb7⟩;go_wp2_with fail
 go_ret;exact⟨r,rfl,λ_=>⟨HRR.out.symm,HPP.out (by first|rfl |trivial)⟩,hb5.trans (hb7.mono hb5.size)⟩
end
section
open Go.RowKit Ar
theorem Cz (lab:Bool)(L L':Nat)(k k':Int)(n n':Bool)(t t' b b':List Nat)(c c':Int)(ins ins':List Ba):
 Tc lab (.mk L k n t b c ins) (.mk L' k' n' t' b' c' ins')=((!lab||L==L')&&(k==k')&&(c==c')&&Qb n n' t t' b b'&&Oa lab ins ins'):=by
 rw[Tc];rfl
theorem E9 (lab:Bool)(S S':Nat)(sh sh':List Int)(cs cs':List Fa):
 same lab (.mk S sh cs) (.mk S' sh' cs')=((!lab||S==S')&&(sh==sh')&&Na lab cs cs'):=by rw[same]
end
section
open Go.RowKit Ar
def Bs (n:Nat):Prop:=∀(a b:Ba) (vs vs':List Value) (w:World) (B:Nat),SizeOf.sizeOf a<n->IsArr w B a vs->IsArr w B b vs'->B<=w.heap.size->
 Calls Tryz.prog 21 #[.agg vs.toArray,.agg vs'.toArray] w λe w'=>e= .returned (.bool (same true a b))/\Below w.heap.size w w'
theorem Jw {n:Nat}(ih:Bs n)(x y:Fa)(vs vs':List Value)(w:World)(B:Nat)(hx:SizeOf.sizeOf x<n)(h:IsCel w B x vs)(h':IsCel w B y vs')(hB:B<=w.heap.size):
 Calls Tryz.prog 55 #[.agg vs.toArray,.agg vs'.toArray] w λe w'=>e= .returned (.bool (Tc true x y))/\Below w.heap.size w w':=by
 obtain⟨L,kind,neg,top,bot,ch,ins⟩:=x;obtain⟨L',kind',neg',top',bot',ch',ins'⟩:=y;rw[IsCel] at h h';obtain⟨A1,c1,A2,c2,A3,c3,us,rfl,hL,hf1,hf2,hf3,hw1,hw2,hw3,hl1,hl2,hl3,hins,_⟩:=h;obtain⟨A1',c1',A2',c2',A3',c3',us',rfl,hL',hf1',hf2',hf3',hw1',hw2',hw3',hl1',hl2',hl3',hins',_⟩:=h';have HR:=Qd (Cz true L L' kind kind' neg neg' top top' bot bot' ch ch' ins ins');obtain⟨W,hW⟩:∃W,W=(w.alloc (.cells #[.int .u64 (L:Int),.int .i64 kind,.bool neg,.slice A1 top.length c1,.slice A2 bot.length c2,.int .i64 ch,.slice A3 ins.length c3] 87)).alloc (.cells #[.int .u64 (L':Int),.int .i64 kind',.bool neg',.slice A1' top'.length c1',.slice A2' bot'.length c2',.int .i64 ch',.slice A3' ins'.length c3'] 87):=⟨_,rfl⟩;have hWs:W.heap.size=w.heap.size+1+1:=by rw[hW];simp
 have hWb:Below w.heap.size w W:=by rw[hW];exact(Br.alloc Lr _).alloc (by simp) _
 have HQ:Hid (W.cell? ⟨w.heap.size,6,none⟩=some (.slice A3 ins.length c3)/\W.cell? ⟨w.heap.size+1,6,none⟩=some (.slice A3' ins'.length c3')):=Qd (by rw[hW];exact⟨by go_simp,by go_simp⟩);have HW:=Qd hW;have E1:=Qd (Xf neg neg' top top' bot bot' A1 A2 A1' A2' c1 c2 c1' c2' W B (hl1.below (hWb.mono hB)) (hl1'.below (hWb.mono hB)) (hl2.below (hWb.mono hB)) (hl2'.below (hWb.mono hB)) (by omega) (by have h1:=hf1.1;have h2:=hf1.2;omega) (by have h1:=hf1'.1;have h2:=hf1'.2;omega) (by have h1:=hf2.1;have h2:=hf2.2;omega) (by have h1:=hf2'.1;have h2:=hf2'.2;omega));have hsz0:∀a∈ins,SizeOf.sizeOf a<n:=λa ha=>by
  have h1:=List.sizeOf_lt_of_mem ha;simp only[Fa.mk.sizeOf_spec] at hx;omega
 have HS:=Qd hins;have HS':=Qd hins';have HL:=Qd hl3;have HL':=Qd hl3';have m1:ins.length<=35184372088832:=by have h1:=hf3.1;have h2:=hf3.2;omega
 have m2:ins'.length<=35184372088832:=by have h1:=hf3'.1;have h2:=hf3'.2;omega
 clear hins hins' hl1 hl1' hl2 hl2' hl3 hl3' hf1 hf1' hf2 hf2' hf3 hf3' hw1 hw1' hw2 hw2' hw3 hw3' hx hW;generalize Tc true (.mk L kind neg top bot ch ins) (.mk L' kind' neg' top' bot' ch' ins')=R at*;generalize Qb neg neg' top top' bot bot'=P at*;generalize top.length=l1 at*;generalize bot.length=l2 at*;generalize top'.length=l1' at*;generalize bot'.length=l2' at*;by_cases hLL:L=L'
 ·subst hLL
  have q0:((L:Int)!=(L:Int))=false:=by simp
  by_cases hk:kind=kind'
  ·subst hk
   have q1:(kind !=kind)=false:=by simp
   by_cases hch:ch=ch'
   ·subst hch
    have q2:(ch !=ch)=false:=by simp
    go_enter Tryz.func55,Tryz.ntmps55
    go_wp2_with fail
    rw[<-HW.out];refine E1.out.mono ?_;rintro e w2 ⟨rfl,hb2⟩;have hb3:=hWb.trans (hb2.mono (by omega));have r1:w2.cell? ⟨w.heap.size,6,none⟩=some (.slice A3 ins.length c3):=(hb2.cell (p:=⟨w.heap.size,6,none⟩) (show w.heap.size<_ by omega)).trans HQ.out.1;have r2:w2.cell? ⟨w.heap.size+1,6,none⟩=some (.slice A3' ins'.length c3'):=(hb2.cell (p:=⟨w.heap.size+1,6,none⟩) (show w.heap.size+1<_ by omega)).trans HQ.out.2;cases P
    ·go_wp2_with fail
     go_ret;exact⟨Aa (by rw[HR.out];simp),hb3⟩
    by_cases hne:ins.length=ins'.length
    ·have hd:((ins.length:Int)!=(ins'.length:Int))=false:=by simp;omega
     have hln:ins.length<=ins'.length:=by omega
     have HN:=Qd hne;clear hne;go_wp2_with fail
     clear r1 r2 hd hb3;have hWl:w.heap.size+1<W.heap.size:=by omega
     go_loopw [5] (λi wr=>∃k:Nat,k<=ins.length/\i= .int .i64 k/\Hid (Oa true (ins.drop k) (ins'.drop k)=Oa true ins ins')/\Below W.heap.size W wr) (λi _=>ins.length-(intOf i).toNat)
     case atStart=>exact⟨0,Nat.zero_le _,rfl,Qd rfl,hb2⟩
     case round=>
      clear hb2;obtain⟨k,hk,rfl,HT,hbel⟩:=hrel;have hsz:=hbel.size;have hb0:=hWb.trans (hbel.mono (by omega));have r1:wr.cell? ⟨w.heap.size,6,none⟩=some (.slice A3 ins.length c3):=(hbel.cell (p:=⟨w.heap.size,6,none⟩) (show w.heap.size<_ by omega)).trans HQ.out.1;have r2:wr.cell? ⟨w.heap.size+1,6,none⟩=some (.slice A3' ins'.length c3'):=(hbel.cell (p:=⟨w.heap.size+1,6,none⟩) hWl).trans HQ.out.2;by_cases hlt:k<ins.length
      ·have hlt':k<ins'.length:=by omega
       obtain⟨b,off,S,X,xn,xc,Y,yn,yc,rfl,hb,HA,g0,g1,g2⟩:=Ue HS.out HL.out (wr:=wr) (λp hp=>hb0.cell (by omega)) hlt;obtain⟨b',off',S',X',xn',xc',Y',yn',yc',rfl,hb',HA',g0',g1',g2'⟩:=Ue HS'.out HL'.out (wr:=wr) (λp hp=>hb0.cell (by omega)) hlt';have hbw:b<wr.heap.size:=by omega
       have hbw':b'<wr.heap.size:=by omega
       have HK:∀(x:Later wr) (o:Nat),x.w.cell? ⟨b,o,none⟩=wr.cell? ⟨b,o,none⟩:=λx o=>x.b.cell (p:=⟨b,o,none⟩) hbw;have HK':∀(x:Later wr) (o:Nat),x.w.cell? ⟨b',o,none⟩=wr.cell? ⟨b',o,none⟩:=λx o=>x.b.cell (p:=⟨b',o,none⟩) hbw';have HK1:∀(x:Later wr) (o:Nat),x.w.cell? ⟨w.heap.size,o,none⟩=wr.cell? ⟨w.heap.size,o,none⟩:=λx o=>x.b.cell (p:=⟨w.heap.size,o,none⟩) (show w.heap.size<_ by omega);have HK2:∀(x:Later wr) (o:Nat),x.w.cell? ⟨w.heap.size+1,o,none⟩=wr.cell? ⟨w.heap.size+1,o,none⟩:=λx o=>x.b.cell (p:=⟨w.heap.size+1,o,none⟩) (show w.heap.size+1<_ by omega);have hST:Hid (Oa true (ins.drop k) (ins'.drop k)=(same true ins[k] ins'[k]&&Oa true (ins.drop (k+1)) (ins'.drop (k+1)))):=Qd (Er true hlt hlt');have FC:=Qd (λ(x:Later wr)=>ih ins[k] ins'[k] _ _ x.w B (hsz0 _ (List.getElem_mem hlt)) (HA.out.below ((hb0.trans (x.b.mono (by omega))).mono hB)) (HA'.out.below ((hb0.trans (x.b.mono (by omega))).mono hB)) (by have:=x.b.size;omega));generalize same true ins[k] ins'[k]=RR at FC hST;go_wp2_with fail
       refine Cg wr (by kernel_rfl) (by kernel_rfl) (Below.drew_self wr) ?_;repeat (go_big_quiet_step ((go_at_call 21;exact Later.call (FC.out _))))
       refine wpQuiet_nil ?_;rintro _ ⟨⟨w4,hb4⟩,rfl⟩;clear HK HK' HK1 HK2 g0 g1 g2 g0' g1' g2' r1 r2;have hb3:=hbel.trans (hb4.mono (by omega));cases RR
       ·have HZ:Hid (Oa true ins ins'=false):=Qd (by rw[<-HT.out,hST.out];rfl)
        (first|rw[Bool.not_false] |rw[Bool.not_true])
        go_wp2_with fail
        go_ret;exact⟨Aa (by rw[HR.out,HZ.out];simp),hWb.trans (hb3.mono (by omega))⟩
       have HZ:Hid (Oa true (ins.drop (k+1)) (ins'.drop (k+1))=Oa true ins ins'):=Qd (by rw[<-HT.out,hST.out];rfl)
       (first|rw[Bool.not_false] |rw[Bool.not_true])
       go_wp2_with fail
       go_roundw
       case rel=>exact⟨k+1,by omega,by go_num,HZ,hb3⟩
       case measure=>simp[intOf];omega
      have hke:k=ins.length:=by omega
      have HZ2:Hid (Oa true ins ins'=true):=Qd (by rw[<-HT.out,hke,List.drop_length,HN.out,List.drop_length,Oa]);clear hke HT;go_wp2_with fail
      go_ret;exact⟨Aa (by rw[HR.out,HZ2.out];simp),hb0⟩
    have hd:((ins.length:Int)!=(ins'.length:Int))=true:=by simp;omega
    have HZ2:Hid (Oa true ins ins'=false):=Qd (by
     cases e:Oa true ins ins'
     ·rfl
     exact absurd (Ui true e) hne)
    clear hne;go_wp2_with fail
    go_ret;exact⟨Aa (by rw[HR.out,HZ2.out];simp),hb3⟩
   have q2:(ch !=ch')=true:=by simpa using hch
   go_enter Tryz.func55,Tryz.ntmps55
   go_wp2_with fail
   go_ret;exact⟨Aa (by rw[HR.out];simp[hch]),by rw[HW.out] at hWb;exact hWb⟩
  have q1:(kind !=kind')=true:=by simpa using hk
  go_enter Tryz.func55,Tryz.ntmps55
  go_wp2_with fail
  go_ret;exact⟨Aa (by rw[HR.out];simp[hk]),by rw[HW.out] at hWb;exact hWb⟩
 have q0:((L:Int)!=(L':Int))=true:=by simp;omega
 have q0':(L !=L')=true:=by simpa using hLL
 go_enter Tryz.func55,Tryz.ntmps55
 go_wp2_with fail
 go_ret;exact⟨Aa (by rw[HR.out];simp[hLL]),by rw[HW.out] at hWb;exact hWb⟩
theorem Vt {n:Nat}(ih:Bs n):Bs (n+1):=by
 intro a b vs vs' w B hx h h' hB;obtain⟨S,sh,cs⟩:=a;obtain⟨S',sh',cs'⟩:=b;rw[IsArr] at h h';obtain⟨A1,c1,A2,c2,us,rfl,hS,hf1,hf2,hw1,hl1,hl2,hcs⟩:=h;obtain⟨A1',c1',A2',c2',us',rfl,hS',hf1',hf2',hw1',hl1',hl2',hcs'⟩:=h';have HR:=Qd (E9 true S S' sh sh' cs cs');obtain⟨W,hW⟩:∃W,W=(w.alloc (.cells #[.int .u64 (S:Int),.slice A1 sh.length c1,.slice A2 cs.length c2] 42)).alloc (.cells #[.int .u64 (S':Int),.slice A1' sh'.length c1',.slice A2' cs'.length c2'] 42):=⟨_,rfl⟩;have hWs:W.heap.size=w.heap.size+1+1:=by rw[hW];simp
 have hWb:Below w.heap.size w W:=by rw[hW];exact(Br.alloc Lr _).alloc (by simp) _
 have HQ:Hid (W.cell? ⟨w.heap.size,2,none⟩=some (.slice A2 cs.length c2)/\W.cell? ⟨w.heap.size+1,2,none⟩=some (.slice A2' cs'.length c2')):=Qd (by rw[hW];exact⟨by go_simp,by go_simp⟩);have HW:=Qd hW;have E1:=Qd (Dw sh sh' A1 A1' c1 c1' W B (hl1.below (hWb.mono hB)) (hl1'.below (hWb.mono hB)) (by have h1:=hf1.1;have h2:=hf1.2;omega) (by have h1:=hf1'.1;have h2:=hf1'.2;omega));have hsz0:∀a∈cs,SizeOf.sizeOf a<n:=λa ha=>by
  have h1:=List.sizeOf_lt_of_mem ha;simp only[Ba.mk.sizeOf_spec] at hx;omega
 have HS:=Qd hcs;have HS':=Qd hcs';have HL:=Qd hl2;have HL':=Qd hl2';have m1:cs.length<=35184372088832:=by have h1:=hf2.1;have h2:=hf2.2;omega
 have m2:cs'.length<=35184372088832:=by have h1:=hf2'.1;have h2:=hf2'.2;omega
 clear hcs hcs' hl1 hl1' hl2 hl2' hf1 hf1' hf2 hf2' hw1 hw1' hx hW;generalize same true (.mk S sh cs) (.mk S' sh' cs')=R at*;generalize(sh==sh')=P at*;generalize sh.length=l1 at*;generalize sh'.length=l1' at*;by_cases hSS:S=S'
 ·subst hSS
  have q0:((S:Int)!=(S:Int))=false:=by simp
  go_enter Tryz.func21,Tryz.ntmps21
  go_wp2_with fail
  rw[<-HW.out];refine E1.out.mono ?_;rintro e w2 ⟨rfl,hb2⟩;have hb3:=hWb.trans (hb2.mono (by omega));have r1:w2.cell? ⟨w.heap.size,2,none⟩=some (.slice A2 cs.length c2):=(hb2.cell (p:=⟨w.heap.size,2,none⟩) (show w.heap.size<_ by omega)).trans HQ.out.1;have r2:w2.cell? ⟨w.heap.size+1,2,none⟩=some (.slice A2' cs'.length c2'):=(hb2.cell (p:=⟨w.heap.size+1,2,none⟩) (show w.heap.size+1<_ by omega)).trans HQ.out.2;cases P
  ·go_wp2_with fail
   go_ret;exact⟨Aa (by rw[HR.out];simp),hb3⟩
  by_cases hne:cs.length=cs'.length
  ·have hd:((cs.length:Int)!=(cs'.length:Int))=false:=by simp;omega
   have hln:cs.length<=cs'.length:=by omega
   have HN:=Qd hne;clear hne;go_wp2_with fail
   clear r1 r2 hd hb3;have hWl:w.heap.size+1<W.heap.size:=by omega
   go_loopw [5] (λi wr=>∃k:Nat,k<=cs.length/\i= .int .i64 k/\Hid (Na true (cs.drop k) (cs'.drop k)=Na true cs cs')/\Below W.heap.size W wr) (λi _=>cs.length-(intOf i).toNat)
   case atStart=>exact⟨0,Nat.zero_le _,rfl,Qd rfl,hb2⟩
   case round=>
    clear hb2;obtain⟨k,hk,rfl,HT,hbel⟩:=hrel;have hsz:=hbel.size;have hb0:=hWb.trans (hbel.mono (by omega));have r1:wr.cell? ⟨w.heap.size,2,none⟩=some (.slice A2 cs.length c2):=(hbel.cell (p:=⟨w.heap.size,2,none⟩) (show w.heap.size<_ by omega)).trans HQ.out.1;have r2:wr.cell? ⟨w.heap.size+1,2,none⟩=some (.slice A2' cs'.length c2'):=(hbel.cell (p:=⟨w.heap.size+1,2,none⟩) hWl).trans HQ.out.2;by_cases hlt:k<cs.length
    ·have hlt':k<cs'.length:=by omega
     obtain⟨b,off,L,kind,neg,top,bot,ch,ins,A3,c3,A4,c4,A5,c5,us3,rfl,hb,hL,HX,t1,t2,t3,t4,t5,t6,g0,g1,g2,g3,g4,g5,g6⟩:=Dd HS.out HL.out (wr:=wr) (λp hp=>hb0.cell (by omega)) hlt;obtain⟨b',off',L',kind',neg',top',bot',ch',ins',A3',c3',A4',c4',A5',c5',us3',rfl,hb',hL',HX',t1',t2',t3',t4',t5',t6',g0',g1',g2',g3',g4',g5',g6'⟩:=Dd HS'.out HL'.out (wr:=wr) (λp hp=>hb0.cell (by omega)) hlt';have hbw:b<wr.heap.size:=by omega
     have hbw':b'<wr.heap.size:=by omega
     have HK:∀(x:Later wr) (o:Nat),x.w.cell? ⟨b,o,none⟩=wr.cell? ⟨b,o,none⟩:=λx o=>x.b.cell (p:=⟨b,o,none⟩) hbw;have HK':∀(x:Later wr) (o:Nat),x.w.cell? ⟨b',o,none⟩=wr.cell? ⟨b',o,none⟩:=λx o=>x.b.cell (p:=⟨b',o,none⟩) hbw';have HK1:∀(x:Later wr) (o:Nat),x.w.cell? ⟨w.heap.size,o,none⟩=wr.cell? ⟨w.heap.size,o,none⟩:=λx o=>x.b.cell (p:=⟨w.heap.size,o,none⟩) (show w.heap.size<_ by omega);have HK2:∀(x:Later wr) (o:Nat),x.w.cell? ⟨w.heap.size+1,o,none⟩=wr.cell? ⟨w.heap.size+1,o,none⟩:=λx o=>x.b.cell (p:=⟨w.heap.size+1,o,none⟩) (show w.heap.size+1<_ by omega);have hST:Hid (Na true (cs.drop k) (cs'.drop k)=(Tc true cs[k] cs'[k]&&Na true (cs.drop (k+1)) (cs'.drop (k+1)))):=Qd (Dr true hlt hlt');have FC:=Qd (λ(x:Later wr)=>Jw ih cs[k] cs'[k] _ _ x.w B (hsz0 _ (List.getElem_mem hlt)) ((HX.out.is hL).below ((hb0.trans (x.b.mono (by omega))).mono hB)) ((HX'.out.is hL').below ((hb0.trans (x.b.mono (by omega))).mono hB)) (by have:=x.b.size;omega));generalize Tc true cs[k] cs'[k]=RR at FC hST;go_wp2_with fail
     refine Cg wr (by kernel_rfl) (by kernel_rfl) (Below.drew_self wr) ?_;repeat (go_big_quiet_step ((go_at_call 55;exact Later.call (FC.out _))))
     refine wpQuiet_nil ?_;rintro _ ⟨⟨w4,hb4⟩,rfl⟩;clear HK HK' HK1 HK2 g0 g1 g2 g3 g4 g5 g6 g0' g1' g2' g3' g4' g5' g6' r1 r2;have hb3:=hbel.trans (hb4.mono (by omega));cases RR
     ·have HZ:Hid (Na true cs cs'=false):=Qd (by rw[<-HT.out,hST.out];rfl)
      (first|rw[Bool.not_false] |rw[Bool.not_true])
      go_wp2_with fail
      go_ret;exact⟨Aa (by rw[HR.out,HZ.out];simp),hWb.trans (hb3.mono (by omega))⟩
     have HZ:Hid (Na true (cs.drop (k+1)) (cs'.drop (k+1))=Na true cs cs'):=Qd (by rw[<-HT.out,hST.out];rfl)
     (first|rw[Bool.not_false] |rw[Bool.not_true])
     go_wp2_with fail
     go_roundw
     case rel=>exact⟨k+1,by omega,by go_num,HZ,hb3⟩
     case measure=>simp[intOf];omega
    have hke:k=cs.length:=by omega
    have HZ2:Hid (Na true cs cs'=true):=Qd (by rw[<-HT.out,hke,List.drop_length,HN.out,List.drop_length,Na]);clear hke HT;go_wp2_with fail
    go_ret;exact⟨Aa (by rw[HR.out,HZ2.out];simp),hb0⟩
  have hd:((cs.length:Int)!=(cs'.length:Int))=true:=by simp;omega
  have HZ2:Hid (Na true cs cs'=false):=Qd (by
   cases e:Na true cs cs'
   ·rfl
   exact absurd (Ti true e) hne)
  clear hne;go_wp2_with fail
  go_ret;exact⟨Aa (by rw[HR.out,HZ2.out];simp),hb3⟩
 have q0:((S:Int)!=(S':Int))=true:=by simp;omega
 have q0':(S !=S')=true:=by simpa using hSS
 go_enter Tryz.func21,Tryz.ntmps21
 go_wp2_with fail
 go_ret;exact⟨Aa (by rw[HR.out];simp[hSS]),by rw[HW.out] at hWb;exact hWb⟩
theorem Yg:∀n,Bs n
 | 0=>λa b vs vs' w B h=>by omega
 |n+1=>Vt (Yg n)
end
section
open Go.ChangeShapes Go.WideShapes Go.ChangeAt Go.RowKit Ar
theorem Q2 (a:Addr)(n m:Nat):(a.add n).add m=a.add (n+m):=by
 unfold Addr.add;by_cases hn:n=0
 ·subst hn;simp
 by_cases hm:m=0
 ·subst hm;simp
 simp[hn,hm,Nat.add_assoc]
theorem Oj {w:World}{a:Addr}{n m:Nat}{v:Value}(h:w.cell? ((a.add n).add m)=some v):w.cell? (a.add (n+m))=some v:=by rwa[Q2] at h
section
variable {H : Type} {enc : TypeId × Value -> H} {P : Program} {w : World} {base : Nat} {Yc : Bool} {fuel : Nat} {t e : TypeId} {cs : List Value} {x : DataW H × List MemPlace}
theorem Xh {sz bytes:Nat}(ht:P.underlying t=some (.slice e))(hz:P.cellsOf e=sz)(hp:0<sz)(hb:P.bytesOf e=bytes)
 (h:DataW.trod enc P w base (λ_=>true) Yc fuel t cs=some x) (hs:∀n∈x.1.weights P t,n<=reachBytes):
 ∃(A:Option Addr) (len cap:Nat) (us:List Value) (m:Nat),fuel=m+1/\cs=[.slice A len cap]/\Fits len cap bytes/\Lies w w.heap.size A us/\us.length=sz*len/\
  ∀i,i<len->∃y,DataW.trod enc P w base (λ_=>true) Yc m e ((us.drop (sz*i)).take sz)=some y/\∀n∈y.1.weights P e,n<=reachBytes:=by
 rcases DataW.trod_slice ht h with⟨rfl,rfl⟩ |⟨a,len,cap,elems,rest,m,rfl,rfl,rfl,_,hl,hc,hle,hel,hsp,_⟩
 ·cases fuel with
  |zero=>simp[DataW.trod] at h
  |succ m=>exact⟨none,0,0,[],m,rfl,rfl,⟨Lr,by omega,by omega⟩,.inl rfl,by simp,λi hi=>by omega⟩
 obtain⟨hr,_⟩:=hsp rfl;rw[hz] at hel;have hw:(elems.length+rest.length)*P.bytesOf e<=reachBytes:=hs _ (by simp[DataW.weights,ht]);have hfit:Fits len cap bytes:=by
  rw[hb,hle,hr,show len+(cap-len)=cap by omega] at hw;have hw2:cap*bytes<=140737488351232:=by simpa [reachBytes] using hw
  exact⟨hl,Nat.le_trans (Nat.mul_le_mul_right _ hl) hw2,by unfold maxLen at hc;omega⟩
 have hcell:∀i,i<len->∃ci y,w.cells? base (a.add (i*sz)) sz=some ci/\DataW.trod enc P w base (λ_=>true) Yc m e ci=some y/\elems[i]? =some y:=λi hi=>by
  have h1:=hel i hi;have h2:elems[i]? =some (elems[i]'(by omega)):=List.getElem?_eq_getElem (by omega);rw[h2] at h1;cases hci:w.cells? base (a.add (i*sz)) sz with
  |none=>rw[hci] at h1;cases h1
  |some ci=>rw[hci] at h1;exact⟨ci,_,rfl,h1,h2⟩
 obtain⟨us,hus⟩:∃us:List Value,us=(List.range (sz*len)).map λj=>(w.cell? (a.add j)).getD default:=⟨_,rfl⟩;have hlen:us.length=sz*len:=by rw[hus];simp
 have hat:∀i q,i<len->q<sz->∃v,w.cell? (a.add (i*sz+q))=some v/\us[sz*i+q]? =some v:=λi q hi hq=>by
  obtain⟨ci,y,h1,_,_⟩:=hcell i hi;obtain⟨_,h2,h3⟩:=World.cells?_some h1;have h4:=h3 q hq;rw[List.getElem?_eq_getElem (by omega)] at h4;have h5:=Oj h4;refine⟨_,h5,?_⟩;have hlt:sz*i+q<sz*len:=by
   have:=Nat.mul_le_mul_left sz (show i+1<=len by omega);rw[Nat.mul_add,Nat.mul_one] at this;omega
  rw[hus,List.getElem?_map,List.getElem?_range hlt,Option.map_some,Nat.mul_comm sz i,h5];rfl
 refine⟨some a,len,cap,us,m,rfl,rfl,hfit,Jr λj v hv=>?_,hlen,λi hi=>?_⟩
 ·have hj:j<sz*len:=by rw[<-hlen];exact(List.getElem?_eq_some_iff.1 hv).1
  obtain⟨v',h1,h2⟩:=hat (j/sz) (j%sz) (Nat.div_lt_of_lt_mul hj) (Nat.mod_lt _ hp);rw[Nat.div_add_mod,hv] at h2;rw[Nat.mul_comm,Nat.div_add_mod] at h1;rw[h1,<-h2]
 obtain⟨ci,y,h1,h2,h3⟩:=hcell i hi;obtain⟨_,h4,h5⟩:=World.cells?_some h1;have hlt:sz*i+sz<=sz*len:=by
  have:=Nat.mul_le_mul_left sz (show i+1<=len by omega);rwa[Nat.mul_add,Nat.mul_one] at this
 have he:(us.drop (sz*i)).take sz=ci:=by
  apply List.ext_getElem?
  intro q;rw[List.getElem?_take];by_cases hq:q<sz
  ·rw[if_pos hq,List.getElem?_drop]
   obtain⟨v,h6,h7⟩:=hat i q hi hq;rw[h7,<-h5 q hq];have h8:=h5 q hq;rw[List.getElem?_eq_getElem (by omega)] at h8;have h9:=Oj h8;rw[h8,<-h9,h6]
  rw[if_neg hq,List.getElem?_eq_none (by omega)]
 rw[he];refine⟨y,h2,λn hn=>hs n ?_⟩;have hy:y.1∈elems.map (·.1):=List.mem_map.2 ⟨y,List.mem_of_getElem? h3,rfl⟩;simp only[DataW.weights,ht,List.mem_cons,List.mem_append];refine .inr (.inl ?_);clear hs;generalize elems.map (·.1)=l at hy
 induction l with
 |nil=>cases hy
 |cons d r ih=>
  rw[DataW.weightsAll,List.mem_append];rcases List.mem_cons.1 hy with rfl |hy
  ·exact .inl hn
  exact .inr (ih hy)
theorem U2 {A:Option Addr}{len cap:Nat}(ht:P.underlying t=some (.slice e))(h:DataW.trod enc P w base (λ_=>true) Yc fuel t [.slice A len cap]=some x):A=none->cap=0:=by
 intro hA;rcases DataW.trod_slice ht h with⟨h1,_⟩ |⟨a,len',cap',elems,rest,m,_,h1,_⟩
 ·simp at h1;exact h1.2.2
 simp at h1;rw[hA] at h1;cases h1.1
theorem Pj {bytes:Nat}{k:IntKind}(ht:P.underlying t=some (.slice e))(he:P.underlying e=some (.int k))(hz:P.cellsOf e=1)(hb:P.bytesOf e=bytes)
 (h:DataW.trod enc P w base (λ_=>true) Yc fuel t cs=some x) (hs:∀n∈x.1.weights P t,n<=reachBytes):
 ∃(A:Option Addr) (cap:Nat) (zs:List Int),cs=[.slice A zs.length cap]/\Fits zs.length cap bytes/\Lies w w.heap.size A (zs.map (Value.int k))/\(∀n∈zs,(Lit.int k n).wf=true)/\(A=none->cap=0):=by
 obtain⟨A,len,cap,us,m,rfl,rfl,hf,hl,hlen,hel⟩:=Xh ht hz (by omega) hb h hs;have key:∃zs:List Int,us=zs.map (Value.int k)/\∀n∈zs,(Lit.int k n).wf=true:=by
  have h1:∀v∈us,∃n,v=Value.int k n/\(Lit.int k n).wf=true:=λv hv=>by
   obtain⟨i,hi,rfl⟩:=List.mem_iff_getElem.1 hv;obtain⟨y,hy,_⟩:=hel i (by omega);obtain⟨n,h2,_,h3⟩:=DataW.trod_int he hy;rw[Nat.one_mul,List.drop_eq_getElem_cons hi,List.take_succ_cons,List.take_zero] at h2;exact⟨n,(List.cons.inj h2).1,h3⟩
  clear hel hlen hl hs h
  induction us with
  |nil=>exact⟨[],rfl,by simp⟩
  |cons v r ih=>
   obtain⟨zs,rfl,h2⟩:=ih (λv hv=>h1 v (List.mem_cons_of_mem _ hv));obtain⟨n,rfl,h3⟩:=h1 v List.mem_cons_self;exact⟨n::zs,rfl,λq hq=>(List.mem_cons.1 hq).elim (λe=>e▸h3) (h2 q)⟩
 obtain⟨zs,rfl,hwf⟩:=key;have hn:zs.length=len:=by simpa using hlen
 subst hn;exact⟨A,cap,zs,rfl,hf,hl,hwf,U2 ht h⟩
end
theorem Ox {k:IntKind}{zs:List Int}{top:Nat}(hb:∀n,(Lit.int k n).wf=true->0<=n/\n<top)(h:∀n∈zs,(Lit.int k n).wf=true):∃ns:List Nat,zs=ns.map (λn:Nat=>(n:Int))/\∀n∈ns,n<top:=by
 induction zs with
 |nil=>exact⟨[],rfl,by simp⟩
 |cons z r ih=>
  obtain⟨ns,rfl,h2⟩:=ih (λn hn=>h n (List.mem_cons_of_mem _ hn));have:=hb z (h z List.mem_cons_self);exact⟨z.toNat::ns,by simp;omega,λq hq=>(List.mem_cons.1 hq).elim (λe=>by omega) (h2 q)⟩
theorem O8 (n:Int)(h:(Lit.int .u64 n).wf=true):∃m:Nat,n=(m:Int)/\m<18446744073709551616:=by
 have:=bounds_u64 h;exact⟨n.toNat,by omega,by omega⟩
theorem Nq {w:World}{B:Nat}:∀(len:Nat) (us:List Value),us.length=7*len->(∀i,i<len->∃c,IsCel w B c ((us.drop (7*i)).take 7))->∃cs:List Fa,cs.length=len/\IsCels w B cs us
 | 0,us,h,_=>⟨[],rfl,by rw[IsCels];exact List.eq_nil_of_length_eq_zero (by omega)⟩
 |n+1,us,h,hc=>by
  obtain⟨c,h0⟩:=hc 0 (by omega);obtain⟨cs,h1,h2⟩:=Nq n (us.drop 7) (by simp;omega) (λi hi=>by
   obtain⟨c,h3⟩:=hc (i+1) (by omega);exact⟨c,by rw[List.drop_drop];rwa[Nat.mul_add,Nat.mul_one,Nat.add_comm] at h3⟩)
  exact⟨c::cs,by simp[h1],by rw[IsCels];exact⟨us.take 7,us.drop 7,(List.take_append_drop 7 us).symm,by simpa using h0,h2⟩⟩
theorem Oq {w:World}{B:Nat}:∀(len:Nat) (us:List Value),us.length=3*len->(∀i,i<len->∃c,IsArr w B c ((us.drop (3*i)).take 3))->∃cs:List Ba,cs.length=len/\IsArrs w B cs us
 | 0,us,h,_=>⟨[],rfl,by rw[IsArrs];exact List.eq_nil_of_length_eq_zero (by omega)⟩
 |n+1,us,h,hc=>by
  obtain⟨c,h0⟩:=hc 0 (by omega);obtain⟨cs,h1,h2⟩:=Oq n (us.drop 3) (by simp;omega) (λi hi=>by
   obtain⟨c,h3⟩:=hc (i+1) (by omega);exact⟨c,by rw[List.drop_drop];rwa[Nat.mul_add,Nat.mul_one,Nat.add_comm] at h3⟩)
  exact⟨c::cs,by simp[h1],by rw[IsArrs];exact⟨us.take 3,us.drop 3,(List.take_append_drop 3 us).symm,by simpa using h0,h2⟩⟩
end
section
open Go.ChangeShapes Go.WideShapes Go.ChangeAt Go.RowKit Ar
section
variable {H : Type} {enc : TypeId × Value -> H} {P : Program} {w : World} {base : Nat} {Yc : Bool} {fuel : Nat} {t e : TypeId} {cs : List Value} {x : DataW H × List MemPlace}
theorem Yh {fs:Array Field}(ht:P.underlying t=some (.struct fs))(h:DataW.trod enc P w base (λ_=>true) Yc fuel t cs=some x)(hs:∀n∈x.1.weights P t,n<=reachBytes):
 ∃m,fuel=m+1/\cs.length=P.cellsOf t/\∀(i:Nat) (ty:TypeId) (off:Nat),(fs[i]?).map (λf=>(f.type,f.offset))=some (ty,off)->∃y,DataW.trod enc P w base (λ_=>true) Yc m ty ((cs.drop off).take (P.cellsOf ty))=some y/\∀n∈y.1.weights P ty,n<=reachBytes:=by
 obtain⟨xs,m,rfl,rfl,hl,hx,hf⟩:=DataW.trod_struct ht h;refine⟨m,rfl,hl,λi ty off hm=>?_⟩;obtain⟨f,hi,hm'⟩:=Option.map_eq_some_iff.1 hm;obtain⟨rfl,rfl⟩:=Prod.mk.inj hm';have h1:=hf i f hi;have hlt:i<xs.length:=by rw[hx];exact(Array.getElem?_eq_some_iff.1 hi).1
 rw[List.getElem?_eq_getElem hlt] at h1;refine⟨_,h1,λn hn=>hs n ?_⟩;simp only[DataW.weights,ht];exact DataW.weights_mem_each (j:=i) (t:=f.type) (d:=xs[i].1) (by rw[List.getElem?_map,Array.getElem?_toList,hi];rfl) (by rw[List.getElem?_map,List.getElem?_eq_getElem hlt];rfl) n hn
end
theorem Oaa:Tryz.prog.cellsOf 42=3:=by kernel_rfl
theorem Paa:Tryz.prog.cellsOf 87=7:=by kernel_rfl
theorem Eda:Tryz.prog.cellsOf 85=3:=by kernel_rfl
theorem Qaa:Tryz.prog.cellsOf 3=1:=by kernel_rfl
theorem Raa:Tryz.prog.cellsOf 22=1:=by kernel_rfl
theorem Saa:Tryz.prog.cellsOf 186=1:=by kernel_rfl
theorem Kca:Tryz.prog.cellsOf 26=1:=by kernel_rfl
theorem Lca:Tryz.prog.cellsOf 83=1:=by kernel_rfl
theorem Mca:Tryz.prog.cellsOf 40=1:=by kernel_rfl
theorem Nca:Tryz.prog.cellsOf 24=1:=by kernel_rfl
theorem Oca:Tryz.prog.cellsOf 4=1:=by kernel_rfl
theorem Fda:Tryz.prog.bytesOf 87=104:=by kernel_rfl
theorem Gda:Tryz.prog.bytesOf 42=56:=by kernel_rfl
theorem Hda:Tryz.prog.bytesOf 3=8:=by kernel_rfl
theorem Taa:Tryz.prog.bytesOf 186=4:=by kernel_rfl
section
variable {H : Type} {enc : TypeId × Value -> H} {w : World} {base : Nat} {Yc : Bool}
def F9 (enc:TypeId×Value->H)(w:World)(base:Nat)(Yc:Bool)(fuel:Nat):Prop:=
 ∀cs x,DataW.trod enc Tryz.prog w base (λ_=>true) Yc fuel 42 cs=some x->(∀n∈x.1.weights Tryz.prog 42,n<=reachBytes)->∃a,IsArr w w.heap.size a cs
def G9 (enc:TypeId×Value->H)(w:World)(base:Nat)(Yc:Bool)(fuel:Nat):Prop:=
 ∀cs x,DataW.trod enc Tryz.prog w base (λ_=>true) Yc fuel 87 cs=some x->(∀n∈x.1.weights Tryz.prog 87,n<=reachBytes)->∃a,IsCel w w.heap.size a cs
theorem Pca {cs:List Value}(h:cs.length=3):∃a b c,cs=[a,b,c]:=by
 match cs,h with
 | [a,b,c],_=>exact⟨a,b,c,rfl⟩
theorem Qca {cs:List Value}(h:cs.length=7):∃a b c d e f g,cs=[a,b,c,d,e,f,g]:=by
 match cs,h with
 | [a,b,c,d,e,f,g],_=>exact⟨a,b,c,d,e,f,g,rfl⟩
theorem H9 {zs:List Int}(h:∀n∈zs,(Lit.int .i64 n).wf=true):Kc zs:=λn hn=>bounds_i64 (h n hn)
theorem X2 (n:Int)(h:(Lit.int .u32 n).wf=true):0<=n/\n<((4294967296:Nat):Int):=by have:=bounds_u32 h;omega
theorem Y2 (n:Nat):F9 enc w base Yc n/\G9 enc w base Yc n:=by
 induction n using Nat.strongRecOn with
 |_ n ih=>
  constructor
  ·intro cs x h hs
   obtain⟨m,rfl,hlen,hf⟩:=Yh Tryz.underlying42 h hs;rw[Oaa] at hlen;obtain⟨v0,v1,v2,rfl⟩:=Pca hlen;obtain⟨y0,h0,_⟩:=hf 0 22 0 rfl;obtain⟨y1,h1,s1⟩:=hf 1 26 1 rfl;obtain⟨y2,h2,s2⟩:=hf 2 40 2 rfl;rw[Raa] at h0;rw[Kca] at h1;rw[Mca] at h2;obtain⟨S,e0,_,w0⟩:=DataW.trod_int Tryz.underlying22 h0;obtain⟨A,c,zs,e1,f1,l1,w1,_⟩:=Pj Tryz.underlying26 Tryz.underlying3 Qaa Hda h1 s1;obtain⟨A',len,c',us,m',rfl,e2,f2,l2,hl2,hel⟩:=Xh Tryz.underlying40 Paa (by omega) Fda h2 s2;obtain⟨k,rfl,hk⟩:=O8 S w0;obtain⟨cells,hcl,hcs⟩:=Nq len us hl2 (λi hi=>by
    obtain⟨y,hy,sy⟩:=hel i hi;exact(ih m' (by omega)).2 _ _ hy sy)
   subst hcl;simp at e0 e1 e2;subst e0 e1 e2;exact⟨.mk k zs cells,by rw[IsArr];exact⟨A,c,A',c',us,rfl,hk,f1,f2,H9 w1,l1,l2,hcs⟩⟩
  intro cs x h hs;obtain⟨m,rfl,hlen,hf⟩:=Yh Tryz.underlying87 h hs;rw[Paa] at hlen;obtain⟨v0,v1,v2,v3,v4,v5,v6,rfl⟩:=Qca hlen;obtain⟨y0,h0,_⟩:=hf 0 22 0 rfl;obtain⟨y1,h1,_⟩:=hf 1 3 1 rfl;obtain⟨y2,h2,s2⟩:=hf 2 85 2 rfl;obtain⟨y3,h3,_⟩:=hf 3 3 5 rfl;obtain⟨y4,h4,s4⟩:=hf 4 24 6 rfl;rw[Raa] at h0;rw[Qaa] at h1 h3;rw[Eda] at h2;rw[Nca] at h4;obtain⟨L,e0,_,w0⟩:=DataW.trod_int Tryz.underlying22 h0;obtain⟨kind,e1,_,w1⟩:=DataW.trod_int Tryz.underlying3 h1;obtain⟨ch,e3,_,w3⟩:=DataW.trod_int Tryz.underlying3 h3;obtain⟨A3,len,c3,us,m',rfl,e4,f4,l4,hl4,hel⟩:=Xh Tryz.underlying24 Oaa (by omega) Gda h4 s4;obtain⟨m2,_,hlen2,hf2⟩:=Yh Tryz.underlying85 h2 s2;obtain⟨z0,g0,_⟩:=hf2 0 4 0 rfl;obtain⟨z1,g1,q1⟩:=hf2 1 83 1 rfl;obtain⟨z2,g2,q2⟩:=hf2 2 83 2 rfl;rw[Oca] at g0;rw[Lca] at g1 g2;obtain⟨neg,d0,_⟩:=DataW.trod_bool Tryz.underlying4 g0;obtain⟨A1,c1,t1,d1,p1,l1,x1,nl1⟩:=Pj Tryz.underlying83 Tryz.underlying186 Saa Taa g1 q1;obtain⟨A2,c2,t2,d2,p2,l2,x2,nl2⟩:=Pj Tryz.underlying83 Tryz.underlying186 Saa Taa g2 q2;obtain⟨k,rfl,hk⟩:=O8 L w0;obtain⟨ins,hcl,hcs⟩:=Oq len us hl4 (λi hi=>by
   obtain⟨y,hy,sy⟩:=hel i hi;exact(ih m' (by omega)).1 _ _ hy sy)
  obtain⟨n1,rfl,o1⟩:=Ox X2 x1;obtain⟨n2,rfl,o2⟩:=Ox X2 x2;subst hcl;simp at e0 e1 e3 e4 d0 d1 d2;subst e0 e1 e3 e4 d0 d1 d2;have hwf:Kc [kind,ch]:=by
   intro n hn;simp at hn;rcases hn with rfl |rfl
   ·exact bounds_i64 w1
   exact bounds_i64 w3
  exact⟨.mk k kind neg n1 n2 ch ins,by rw[IsCel];exact⟨A1,c1,A2,c2,A3,c3,us,by simp,hk,by simpa using p1,by simpa using p2,f4,hwf,o1,o2,by simpa [Ec,Function.comp_def] using l1,by simpa [Ec,Function.comp_def] using l2,l4,hcs,nl1,nl2⟩⟩
end
end
end Go.Proofs.YtogjgbmngagimaaGreatDoor
