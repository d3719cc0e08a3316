/- Texts of this proof, joined. -/
import Derived.Test.YtmiccalfamepdaaGreatDoorM1
import Derived.Lib.Strings
import Derived.Lib.AtoiTie
import Derived.Test.YtmiccalfamepdaaGreatDoorProg
import Derived.WalkKit
import Derived.WalkSpells
import Derived.WalkLawsBesides
import Derived.Lib.Hide
import Derived.Laws.Rows
import Derived.Laws.MakeOwn
import Derived.OwnWalk
import Derived.Shelf.Lay
import Derived.Shelf.Strings.BuilderK
set_option linter.all false
set_option maxHeartbeats 8000000
set_option maxRecDepth 100000
namespace Lab
open Go
def Pd (ps:List (List UInt8)):Nat:=(ps.map λp=>p.length+1).sum
theorem Bz {r:Nat×Nat}(h1:r.1<=r.2)(h2:r.2<64):Pd (piece r)<=3*(r.2+1-r.1):=by
 have a:=dec_len (show r.1<64 by omega);have b:=dec_len h2;unfold piece Pd
 split
 ·simp;omega
 split
 ·simp;omega
 simp;omega
theorem Qx {l:Nat}(hl:l<18446744073709551616):∀(n p:Nat),64-p<=n->Pd (pieces l p)<=3*(64-p):=by
 intro n
 induction n with
 |zero=>intro p hp;rw[pieces,runs,dif_neg (by omega)];simp[Pd]
 |succ n ih=>
  intro p hp;by_cases h64:p<64
  ·cases hb:l.testBit p
   ·have:=ih (p+1) (by omega)
    rw[pieces,runs,dif_pos h64,if_neg (by simp[hb]),<-pieces];omega
   have hge:=last_ge l p;have hlt:=last_lt hl hb;have:=ih (last l p+1) (by omega);have hw:=Bz (r:=(p,last l p)) hge hlt;rw[pieces,runs,dif_pos h64,if_pos hb,List.flatMap_cons,<-pieces];have e:Pd (piece (p,last l p)++pieces l (last l p+1))=Pd (piece (p,last l p))+Pd (pieces l (last l p+1)):=by simp[Pd]
   rw[e];simp only at hw;omega
  rw[pieces,runs,dif_neg h64];simp[Pd]
theorem Sr (r:List (List UInt8)):(Lib.joinTail [44] r).length=Pd r:=by
 unfold Lib.joinTail Pd
 induction r with
 |nil=>rfl
 |cons p r ih=>simp at ih⊢;omega
theorem B6 (ps:List (List UInt8)):(Lib.join ps [44]).length<=Pd ps:=by
 cases ps with
 |nil=>simp[Lib.join_nil]
 |cons p r=>rw[Lib.join_cons,List.length_append,Sr];simp[Pd]
theorem text_len {l:Nat}(hl:l<18446744073709551616):(text l).length<=194:=by
 have h1:=Qx hl 64 0 (by omega);have h2:=B6 (pieces l 0);unfold text;simp;omega
def Spec (s:List UInt8)(x:Nat)(ok:Bool):Prop:=(ok=true/\x<18446744073709551616/\s=text x)\/(ok=false/\x=0/\∀l,l<18446744073709551616->s≠text l)
theorem Spec.long {s:List UInt8}(h:258<s.length):Spec s 0 false:= .inr ⟨rfl,rfl,λl hl e=>by have:=text_len hl;rw[<-e] at this;omega⟩
theorem open_iff (s:List UInt8):(Lib.hasPrefix s [123]=false/\Lib.trimPrefix s [123]=s/\∀r,s≠123::r)\/(∃r,Lib.hasPrefix s [123]=true/\Lib.trimPrefix s [123]=r/\s=123::r):=by
 cases s with
 |nil=>exact .inl ⟨rfl,rfl,λr=>by simp⟩
 |cons b r=>
  by_cases e:b=123
  ·subst e
   have hp:Lib.hasPrefix (123::r) [123]=true:=by simp[Lib.hasPrefix]
   exact .inr ⟨r,hp,by rw[Lib.trimPrefix,if_pos hp];rfl,rfl⟩
  have hp:Lib.hasPrefix (b::r) [123]=false:=by
   cases h:Lib.hasPrefix (b::r) [123]
   ·rfl
   simp[Lib.hasPrefix] at h;exact absurd h.symm e
  exact .inl ⟨hp,by rw[Lib.trimPrefix,if_neg (by simp[hp])],λt h=>by injection h with h _;exact e h⟩
theorem shut_iff (s:List UInt8):(Lib.hasSuffix s [125]=false/\∀r,s≠r++[125])\/(∃r,Lib.hasSuffix s [125]=true/\Lib.trimSuffix s [125]=r/\s=r++[125]):=by
 cases hp:Lib.hasSuffix s [125]
 ·refine .inl ⟨rfl,λr e=>?_⟩
  subst e;have:Lib.hasSuffix (r++[125]) [125]=true:=by simp[Lib.hasSuffix]
  rw[this] at hp;cases hp
 have h:[125]<:+s:=by simpa [Lib.hasSuffix] using hp
 obtain⟨r,rfl⟩:=h;refine .inr ⟨r,rfl,?_,rfl⟩;rw[Lib.trimSuffix,if_pos hp];simp
theorem Spec.noOpen {s:List UInt8}(h:∀r,s≠123::r):Spec s 0 false:= .inr ⟨rfl,rfl,λl hl e=>h _ (by rw[e];rfl)⟩
theorem Spec.noShut {r:List UInt8}(h:∀t,r≠t++[125]):Spec (123::r) 0 false:= .inr ⟨rfl,rfl,λl hl e=>by
 unfold text at e;injection e with _ e
 exact h _ e⟩
theorem Cz {t:List UInt8}{l:Nat}(e:(123:UInt8)::(t++[125])=text l):t=Lib.join (pieces l 0) [44]:=by
 unfold text at e;injection e with _ e
 exact List.append_inj_left' e rfl
theorem Spec.badInner {t:List UInt8}{f:Nat}(hf:64<=f)(h:innerP f t 0=none):Spec (123::(t++[125])) 0 false:= .inr ⟨rfl,rfl,λl hl e=>by
 rw[Cz e,Ug hl f hf] at h;cases h⟩
theorem Spec.other {t:List UInt8}{f o:Nat}(hf:64<=f)(h:innerP f t 0=some o)(hne:text o≠123::(t++[125])):Spec (123::(t++[125])) 0 false:= .inr ⟨rfl,rfl,λl hl e=>by
 rw[Cz e,Ug hl f hf] at h;injection h with h
 subst h;exact hne e.symm⟩
theorem Spec.refBad {s:List UInt8}(h:refP 64 (s.drop 1) 0=none):Spec s 0 false:= .inr ⟨rfl,rfl,λl hl e=>by
 rw[e,Uv hl] at h;cases h⟩
theorem Spec.refOther {s:List UInt8}{o:Nat}(h:refP 64 (s.drop 1) 0=some o)(hne:text o≠s):Spec s 0 false:= .inr ⟨rfl,rfl,λl hl e=>by
 rw[e,Uv hl] at h;injection h with h
 subst h;exact hne e.symm⟩
theorem Dp:∀(f g:Nat) (s:List UInt8) (acc:Nat),s.length<=f->s.length<=g->innerP f s acc=innerP g s acc
 | 0,0,s,acc,_,_=>rfl
 | 0,g+1,s,acc,h,_=>by
  have:s=[]:=List.eq_nil_of_length_eq_zero (by omega);subst this;rfl
 |f+1,0,s,acc,_,h=>by
  have:s=[]:=List.eq_nil_of_length_eq_zero (by omega);subst this;rfl
 |f+1,g+1,s,acc,h1,h2=>by
  unfold innerP;by_cases e:s=[]
  ·rw[if_pos e,if_pos e]
  rw[if_neg e,if_neg e];have hl:=(cutAt_len 44 s).2.2 e
  split
  ·rfl
  exact Dp f g _ _ (by omega) (by omega)
theorem innerP_step {f:Nat}{s:List UInt8}{acc l:Nat}(hne:s≠[])(h:s.length<=f)(hr:runP (cutAt 44 s).1=some l):innerP f s acc=innerP f (cutAt 44 s).2.1 (join acc l):=by
 have hl:=(cutAt_len 44 s).2.2 hne;cases f with
 |zero=>exfalso;have:=List.eq_nil_of_length_eq_zero (Nat.le_zero.1 h);exact hne this
 |succ f=>
  conv=>lhs;rw[innerP,if_neg hne,hr]
  exact Dp f (f+1) _ _ (by omega) (by omega)
theorem innerP_fail {f:Nat}{s:List UInt8}{acc:Nat}(hne:s≠[])(h:s.length<=f)(hr:runP (cutAt 44 s).1=none):innerP f s acc=none:=by
 cases f with
 |zero=>exfalso;have:=List.eq_nil_of_length_eq_zero (Nat.le_zero.1 h);exact hne this
 |succ f=>rw[innerP,if_neg hne,hr]
end Lab
namespace Go.Proofs.YtmiccalfamepdaaGreatDoor
section
namespace Sp
open Ar
def lens (sh:List Int):List UInt8:=Lib.join (sh.map λx=>Lib.decDigits x.toNat) [32]
mutual
def arrT:Ba->List UInt8
 | .mk S sh cs=>Nw.net (Lab.text S)++(Nw.net (lens sh)++celsT cs)
def celsT:List Ha->List UInt8
 | []=>[]
 |c::r=>Dz c++celsT r
def Dz:Ha->List UInt8
 | .mk L k n t b c ins=>Nw.net (Lab.text L)++Nw.net (if k=0 then 110::Dg.print ⟨n,t,b⟩ else if k=1 then 99::Lib.decDigits c.toNat else 98::insT ins)
def insT:List Ba->List UInt8
 | []=>[]
 |a::_=>arrT a
end
def celL:Ha->Nat
 | .mk L _ _ _ _ _ _=>L
def inT:Ha->List UInt8
 | .mk _ k n t b c ins=>if k=0 then 110::Dg.print ⟨n,t,b⟩ else if k=1 then 99::Lib.decDigits c.toNat else 98::insT ins
theorem celT_eq (c:Ha):Dz c=Nw.net (Lab.text (celL c))++Nw.net (inT c):=by cases c;rw[Dz,celL,inT]
theorem celsT_append:∀(l r:List Ha),celsT (l++r)=celsT l++celsT r
 | [],r=>by rw[celsT];rfl
 |c::l,r=>by rw[List.cons_append,celsT,celsT,celsT_append l r,List.append_assoc]
mutual
def wfA:Ba->Prop
 | .mk S _ cs=>S<18446744073709551616/\wfCels cs
def wfCels:List Ha->Prop
 | []=>True
 |c::r=>wfCel c/\wfCels r
def wfCel:Ha->Prop
 | .mk L _ _ _ _ _ ins=>L<18446744073709551616/\wfIns ins
def wfIns:List Ba->Prop
 | []=>True
 |a::r=>wfA a/\wfIns r
end
mutual
def okA:Ba->Bool
 | .mk _ _ cs=>We cs
def We:List Ha->Bool
 | []=>true
 |c::r=>Cj c&&We r
def Cj:Ha->Bool
 | .mk _ k n t b _ ins=>if k=0 then(Dg.parse (Dg.print ⟨n,t,b⟩)).2==0 else if k=1 then true else Gia ins
def Gia:List Ba->Bool
 | []=>true
 |a::_=>okA a
end
open Classical in
noncomputable def labP (s:List UInt8):Option Nat:=if h:∃l,l<18446744073709551616/\s=Lab.text l then some h.choose else none
theorem labP_spec {s:List UInt8}{x:Nat}{ok:Bool}(h:Lab.Spec s x ok):labP s=if ok then some x else none:=by
 unfold labP;rcases h with⟨rfl,hx,hs⟩ |⟨rfl,-,hn⟩
 ·have he:∃l,l<18446744073709551616/\s=Lab.text l:=⟨x,hx,hs⟩
  rw[dif_pos he,if_pos rfl,Lab.text_inj he.choose_spec.1 hx (he.choose_spec.2.symm.trans hs)]
 rw[dif_neg (λ⟨l,hl,e⟩=>hn l hl e)];rfl
theorem Wc {l:Nat}(h:l<18446744073709551616):labP (Lab.text l)=some l:=by rw[labP_spec (.inl ⟨rfl,h,rfl⟩)];rfl
theorem Jg {s:List UInt8}{x:Nat}(h:labP s=some x):x<18446744073709551616:=by
 unfold labP at h
 split at h
 ·next he=>injection h with h;rw[<-h];exact he.choose_spec.1
 cases h
def atoiP (s:List UInt8):Option Int:=match Lib.atoiAll s with | .ok v=>some v |_=>none
theorem Ep:∀(s:List UInt8) (n:Nat),(∀b∈s,Ten.isDig b)->Lib.decFrom n s=some (s.foldl (λn b=>10*n+(b.toNat-48)) n)
 | [],_,_=>rfl
 |b::r,n,h=>by
  have hb:=h b List.mem_cons_self;rw[Lib.decFrom,Lib.digitVal,if_pos (show 48<=b.toNat/\b.toNat<=57 from hb),List.foldl_cons,Nat.mul_comm 10 n];exact Ep r _ (λc hc=>h c (List.mem_cons_of_mem _ hc))
theorem Vv {n:Nat}(h:n<10000000):atoiP (Lib.decDigits n)=some (n:Int):=by
 have hv:=Ten.dec_valid n;have hl:=(Ten.dec_len (r:=n) (k:=6) (by omega)).2;have e:Lib.atoi (Lib.decDigits n)=some (n:Int):=by
  have hn:Lib.decNat (Lib.decDigits n)=some n:=by
   unfold Lib.decNat;rw[if_neg (by rw[List.isEmpty_iff];exact hv.1.1),Ep _ _ hv.1.2.2];exact congrArg some hv.2
  obtain⟨b,r,hbr⟩:=List.exists_cons_of_ne_nil hv.1.1;have hb:=hv.1.2.2 b (by rw[hbr];exact List.mem_cons_self);rw[hbr] at hn⊢;have h1:(b==45)=false:=by rw[beq_eq_false_iff_ne];rintro rfl;exact absurd hb.1 (by decide)
  have h2:(b==43)=false:=by rw[beq_eq_false_iff_ne];rintro rfl;exact absurd hb.1 (by decide)
  rw[Lib.atoi,h1,h2];simp[hn]
 unfold atoiP;rw[Lib.atoiAll_short _ (by omega),e];rfl
def decN (s:List UInt8):Nat×Nat:=(Ten.numOf (s.take (min 7 (Dg.lead s))),min 7 (Dg.lead s))
theorem Sfa (n:Nat)(t:List UInt8)(ht:t.head?≠none->∃b r,t=b::r/\Dg.dB b=false):Dg.lead (Lib.decDigits n++t)=(Lib.decDigits n).length:=by
 match t,ht with
 | [],_=>rw[List.append_nil];exact Dg.lead_all (Dg.dec_dB n)
 |b::r,ht=>
  obtain⟨b',r',e,hb⟩:=ht (by simp);injection e with e1 e2
  subst e1 e2;refine Dg.lead_at (by simp) (λi hi hk=>?_) ?_
  ·rw[List.getElem_append_left hk];exact Dg.dec_dB n i hk
  rw[List.getElem_append_right Lr];simpa using hb
theorem Nq {n:Nat}(h:n<10000000)(t:List UInt8)(ht:t.head?≠none->∃b r,t=b::r/\Dg.dB b=false):decN (Lib.decDigits n++t)=(n,(Lib.decDigits n).length):=by
 have hl:=(Ten.dec_len (r:=n) (k:=6) (by omega)).2;unfold decN;rw[Sfa n t ht,Nat.min_eq_right (by omega),List.take_append_of_le_length Lr,List.take_length,(Ten.dec_valid n).2]
def wordsF:Nat->List UInt8->List (List UInt8)
 | 0,s=>[s]
 |f+1,s=>if(Lab.cutAt 32 s).2.2 then(Lab.cutAt 32 s).1::wordsF f (Lab.cutAt 32 s).2.1 else[s]
def words (s:List UInt8):List (List UInt8):=wordsF s.length s
def atoiAllP:List (List UInt8)->Option (List Int)
 | []=>some []
 |x::r=>match atoiP x with
  |none=>none
  |some n=>(atoiAllP r).map (n:: ·)
def shapeP (t:List UInt8):Option (List Int):=if t=[] then some [] else atoiAllP (words t)
def shapeDF:Nat->List UInt8->List Int
 | 0,_=>[]
 |f+1,s=>if s=[] then[] else((decN s).1:Int)::(if(decN s).2=s.length\/(decN s).2=0 then[] else shapeDF f (s.drop ((decN s).2+1)))
def shapeD (s:List UInt8):List Int:=shapeDF s.length s
theorem dec_no32 (n:Nat):(32:UInt8)∉Lib.decDigits n:=λh=>by
 have:=(Ten.dec_valid n).1.2.2 _ h;exact absurd this.1 (by decide)
theorem Ki (p q:List UInt8)(r:List (List UInt8)):Lib.join (p::q::r) [32]=p++32::Lib.join (q::r) [32]:=by
 rw[Lib.join_cons,Lib.join_cons];simp[Lib.joinTail]
theorem Vk:∀(ps:List (List UInt8)) (p:List UInt8) (f:Nat),ps.length<=f->(∀x∈p::ps,(32:UInt8)∉x)->wordsF f (Lib.join (p::ps) [32])=p::ps
 | [],p,f,_,h=>by
  rw[Lib.join_one];cases f with
  |zero=>rfl
  |succ f=>rw[wordsF,Lab.cutAt_none (h p (by simp))];rfl
 |q::r,p,f,hf,h=>by
  cases f with
  |zero=>simp at hf
  |succ f=>
   rw[Ki,wordsF,Lab.cutAt_some (h p (by simp)),if_pos rfl,Vk r q f (by simpa using hf) (λx hx=>h x (List.mem_cons_of_mem _ hx))]
def Sh (sh:List Int):Prop:=∀x∈sh,0<=x/\x<=2048
theorem Li:∀(ps:List (List UInt8)) (p:List UInt8),ps.length<=(Lib.join (p::ps) [32]).length
 | [],_=>Nat.zero_le _
 |q::r,p=>by
  rw[Ki];have:=Li r q;simp;omega
theorem Fp:∀{sh:List Int},Sh sh->atoiAllP (sh.map λx=>Lib.decDigits x.toNat)=some sh
 | [],_=>rfl
 |x::r,h=>by
  have hx:=h x (by simp);rw[List.map_cons,atoiAllP,Vv (by omega),Fp (λy hy=>h y (by simp[hy]))];simp;omega
theorem C6 {sh:List Int}(h:Sh sh):shapeP (lens sh)=some sh:=by
 match sh,h with
 | [],_=>rfl
 |x::r,h=>
  have hne:lens (x::r)≠[]:=by
   unfold lens;rw[List.map_cons,Lib.join_cons];intro e;exact Ten.dec_ne _ (List.append_eq_nil_iff.1 e).1
  unfold shapeP;rw[if_neg hne];unfold words lens;rw[List.map_cons,Vk _ _ _ (by have:=Li (r.map λx=>Lib.decDigits x.toNat) (Lib.decDigits x.toNat);exact this)]
  ·exact Fp h
  intro y hy;rw[<-List.map_cons (f:=λx:Int=>Lib.decDigits x.toNat)] at hy;obtain⟨z,-,rfl⟩:=List.mem_map.1 hy;exact dec_no32 _
theorem Om:∀(r:List Int) (x:Int) (f:Nat),r.length<f->Sh (x::r)->shapeDF f (lens (x::r))=x::r
 | [],x,f+1,_,h=>by
  have hx:=h x (by simp);have e:lens [x]=Lib.decDigits x.toNat++[]:=by unfold lens;rw[List.map_singleton,Lib.join_one,List.append_nil]
  rw[shapeDF,e,Nq (by omega) _ (by simp),if_neg (by simp[Ten.dec_ne]),if_pos (.inl (by rw[List.append_nil]))];dsimp only;rw[Int.toNat_of_nonneg hx.1]
 |y::r,x,f+1,hf,h=>by
  have hx:=h x (by simp);have e:lens (x::y::r)=Lib.decDigits x.toNat++32::lens (y::r):=by unfold lens;rw[List.map_cons,List.map_cons,Ki]
  have hp:=Dg.dec_pos x.toNat;rw[shapeDF,e,Nq (by omega) _ (λ_=>⟨32,_,rfl,by decide⟩),if_neg (by simp),if_neg (by simp[Ten.dec_ne])];dsimp only;rw[List.drop_append,List.drop_eq_nil_of_le (by omega),Nat.add_sub_cancel_left,List.nil_append,List.drop_succ_cons,List.drop_zero,Om r y f (by simpa using hf) (λz hz=>h z (List.mem_cons_of_mem _ hz))];simp;omega
theorem D6 {sh:List Int}(h:Sh sh):shapeD (lens sh)=sh:=by
 match sh,h with
 | [],_=>rfl
 |x::r,h=>
  unfold shapeD;refine Om r x _ ?_ h;have h1:=Li (r.map λx=>Lib.decDigits x.toNat) (Lib.decDigits x.toNat);have h2:=Dg.dec_pos x.toNat;rw[List.length_map] at h1;unfold lens;rw[List.map_cons]
  match r with
  | []=>rw[List.map_nil,Lib.join_one];exact h2
  |y::r=>
   rw[List.map_cons,Ki];have h3:=Li (r.map λx=>Lib.decDigits x.toNat) (Lib.decDigits y.toNat);rw[List.length_map] at h3;simp;omega
theorem sh_of_cnt {sh:List Int}(h:(cnt sh).2=0):Sh sh:=by
 intro x hx;unfold cnt at h
 split at h
 ·cases h
 split at h
 ·cases h
 next h1=>
 split at h
 ·cases h
 next h2=>
 rw[Bool.not_eq_true,List.any_eq_false] at h1 h2;have a1:=h1 x hx;have a2:=h2 x hx;simp at a1 a2;omega
def cellR (ch:List UInt8->Option Int)(rd:List UInt8->Option Ba)(L:Nat):List UInt8->Option Ha
 | []=>none
 |b::r=>if b=110 then(if(Dg.parse r).2=0 then some (.mk L 0 (Dg.parse r).1.neg (Dg.parse r).1.top (Dg.parse r).1.bot 0 []) else none)
  else if b=99 then(ch r).map λn=> .mk L 1 false [] [] n []
  else if b=98 then(rd r).map λa=> .mk L 2 false [] [] 0 [a] else none
noncomputable def pairR (ch:List UInt8->Option Int)(rd:List UInt8->Option Ba)(l t:List UInt8):Option Ha:=match labP l with |none=>none |some L=>cellR ch rd L t
def nextP (s:List UInt8):List UInt8×List UInt8:=(Nw.cut s).getD ([],s)
def pairsP:Nat->List UInt8->List (List UInt8×List UInt8)
 | 0,_=>[]
 |f+1,s=>match Nw.cut s with
  |none=>[]
  |some p=>(p.1,(nextP p.2).1)::pairsP f (nextP p.2).2
noncomputable def cellsP (rd:List UInt8->Option Ba):List (List UInt8×List UInt8)->Option (List Ha)
 | []=>some []
 |p::r=>match pairR atoiP rd p.1 p.2 with
  |none=>none
  |some c=>(cellsP rd r).map (c:: ·)
noncomputable def bodyP (rd:List UInt8->Option Ba)(s:List UInt8):Option Ba:=
 match labP (nextP s).1 with
 |none=>none
 |some S=>match shapeP (nextP (nextP s).2).1 with
  |none=>none
  |some sh=>(cellsP rd (pairsP (nextP (nextP s).2).2.length (nextP (nextP s).2).2)).map λcs=> .mk S sh cs
noncomputable def readP:Nat->List UInt8->Option Ba
 | 0=>λ_=>none
 |n+1=>bodyP (readP n)
def chD (s:List UInt8):Option Int:=some ((decN s).1:Int)
noncomputable def cellsD (rd:List UInt8->Option Ba):Nat->List UInt8->Option (List Ha)
 | 0,_=>some []
 |f+1,s=>if s=[] then some [] else match Nw.cut s with
  |none=>none
  |some p=>match Nw.cut p.2 with
   |none=>none
   |some q=>match pairR chD rd p.1 q.1 with
    |none=>none
    |some c=>(cellsD rd f q.2).map (c:: ·)
noncomputable def bodyD (rd:List UInt8->Option Ba)(s:List UInt8):Option Ba:=
 match Nw.cut s with
 |none=>none
 |some p=>match Nw.cut p.2 with
  |none=>none
  |some q=>match labP p.1 with
   |none=>none
   |some S=>(cellsD rd q.2.length q.2).map λcs=> .mk S (shapeD q.1) cs
noncomputable def readD:Nat->List UInt8->Option Ba
 | 0=>λ_=>none
 |n+1=>bodyD (readD n)
theorem E6 {n:Rt.Nm}(h:Rt.right n=true)(ho:(Dg.parse (Dg.print n)).2=0):(Dg.parse (Dg.print n)).1=n:=by
 by_cases hl:(Dg.print n).length<=400
 ·rw[Dg.parse_print h hl]
 by_cases hb:(Lib.decDigits (Nt.val n.top)++if n.bot=[1] then[] else 114::Lib.decDigits (Nt.val n.bot)).length<=400
 ·cases hn:n.neg
  ·exfalso;apply hl;unfold Dg.print;rw[hn];simpa using hb
  have:=Dg.body_print h hb;unfold Dg.print;rw[hn] at this⊢;exact congrArg Prod.fst this
 exfalso
 have hs:∀neg,(Dg.body neg (Lib.decDigits (Nt.val n.top)++if n.bot=[1] then[] else 114::Lib.decDigits (Nt.val n.bot))).2=7:=λneg=>by unfold Dg.body;rw[if_pos (by omega)]
 revert ho
 unfold Dg.print;cases hn:n.neg
 ·simp only[Bool.false_eq_true,if_false,List.nil_append]
  rw[Dg.parse_body,hs]
  ·simp
  rw[Ten.head_app _ (Ten.dec_ne _)];intro e;obtain⟨b,r,hbr⟩:=List.exists_cons_of_ne_nil (Ten.dec_ne (Nt.val n.top));have hd:=(Ten.dec_valid (Nt.val n.top)).1.2.2 b (by rw[hbr];exact List.mem_cons_self);rw[hbr] at e;simp at e;rw[e] at hd;simp[Ten.isDig] at hd
 simp only[if_true];show(Dg.body true (Lib.decDigits (Nt.val n.top)++if n.bot=[1] then[] else 114::Lib.decDigits (Nt.val n.bot))).2=0->False;rw[hs];simp
theorem N9 {ch:List UInt8->Option Int}(hc:∀n:Nat,n<10000000->ch (Lib.decDigits n)=some (n:Int)){rd:List UInt8->Option Ba}{d:Nat}(c:Ha)(hr:Oa d c=true)
 (hrd:∀a,0<d->Ka (d-1) a=true->(∀L k n t b ch,c= .mk L k n t b ch [a]->rd (arrT a)=if okA a then some a else none)):cellR ch rd (celL c) (inT c)=if Cj c then some c else none:=by
 obtain⟨L,k,n,t,b,ch',ins⟩:=c;rw[Oa] at hr;rw[inT,celL,Cj];by_cases h0:k=0
 ·subst h0
  rw[if_pos rfl] at hr⊢;simp only[Bool.and_eq_true,beq_iff_eq,List.isEmpty_iff] at hr;obtain⟨⟨rfl,rfl⟩,hr⟩:=hr;rw[cellR,if_pos rfl,if_pos rfl];by_cases ho:(Dg.parse (Dg.print ⟨n,t,b⟩)).2=0
  ·have e:=E6 hr ho
   rw[if_pos ho,e,ho];rfl
  rw[if_neg ho,if_neg (by simpa using ho)]
 rw[if_neg h0] at hr⊢;rw[if_neg h0];by_cases h1:k=1
 ·subst h1
  rw[if_pos rfl] at hr⊢;rw[if_pos rfl];simp only[Bool.and_eq_true,List.isEmpty_iff,Be,Bool.not_eq_true',Ae,decide_eq_true_eq] at hr;obtain⟨⟨⟨⟨rfl,rfl⟩,rfl⟩,rfl⟩,⟨h2,h3⟩,-⟩:=hr;rw[cellR,if_neg (by decide),if_pos rfl,hc _ (by omega),if_pos rfl];simp;omega
 rw[if_neg h1] at hr⊢;rw[if_neg h1];simp only[Bool.and_eq_true,beq_iff_eq,Be,Bool.not_eq_true',List.isEmpty_iff,decide_eq_true_eq] at hr;obtain⟨⟨⟨⟨rfl,⟨rfl,rfl⟩,rfl⟩,rfl⟩,hd⟩,hi⟩:=hr
 match ins,hi,hrd with
 | [a],hi,hrd=>
  rw[Hb] at hi;simp only[Bool.and_eq_true] at hi;rw[cellR,if_neg (by decide),if_neg (by decide),if_pos rfl,insT,hrd a hd hi.2 _ _ _ _ _ _ rfl,Gia];cases okA a<;>rfl
theorem nextP_net (s t:List UInt8):nextP (Nw.net s++t)=(s,t):=by unfold nextP;rw[Nw.cut_net];rfl
theorem cut_nil:Nw.cut []=none:=by unfold Nw.cut;split<;>rfl
theorem cut_less {s:List UInt8}{p:List UInt8×List UInt8}(h:Nw.cut s=some p):p.1.length<s.length/\p.2.length<s.length:=by
 unfold Nw.cut at h
 split at h
 ·unfold Nw.after at h
  split at h
  ·cases h
  split at h
  ·cases h
  split at h
  ·cases h
  split at h
  ·cases h
  split at h
  ·cases h
  injection h with h
  subst h;simp;omega
 cases h
theorem nextP_le (s:List UInt8):(nextP s).1.length<=s.length/\(nextP s).2.length<=s.length:=by
 unfold nextP;cases h:Nw.cut s with
 |none=>simp
 |some p=>have:=cut_less h;simp;omega
theorem net_pos (s:List UInt8):2<=(Nw.net s).length:=by unfold Nw.net;simp;omega
theorem Gp:∀(cs:List Ha) (f:Nat),cs.length<=f->pairsP f (celsT cs)=cs.map λc=>(Lab.text (celL c),inT c)
 | [],0,_=>rfl
 | [],f+1,_=>by rw[celsT,pairsP,cut_nil];rfl
 |c::r,f+1,h=>by
  rw[celsT,celT_eq,List.append_assoc,pairsP,Nw.cut_net];dsimp only;rw[nextP_net,Gp r f (by simpa using h)];rfl
theorem Oq:∀cs:List Ha,cs.length<=(celsT cs).length
 | []=>Nat.zero_le _
 |c::r=>by
  have:=Oq r;have:=net_pos (inT c);rw[celsT,celT_eq];simp;omega
theorem Ur {rd:List UInt8->Option Ba}:∀cs:List Ha,wfCels cs->(∀c∈cs,cellR atoiP rd (celL c) (inT c)=if Cj c then some c else none)->cellsP rd (cs.map λc=>(Lab.text (celL c),inT c))=if We cs then some cs else none
 | [],_,_=>rfl
 |c::r,hw,h=>by
  rw[wfCels] at hw;have hL:celL c<18446744073709551616:=by obtain⟨L,k,n,t,b,ch,ins⟩:=c;exact hw.1.1
  rw[List.map_cons,cellsP,pairR,Wc hL];dsimp only;rw[h c (by simp),Ur r hw.2 (λx hx=>h x (by simp[hx])),We];cases Cj c<;>cases We r<;>rfl
theorem Oka {s:List UInt8}{p:List UInt8×List UInt8}(h:Nw.cut s=some p):s≠[]:=by rintro rfl;rw[cut_nil] at h;cases h
theorem Vr {rd:List UInt8->Option Ba}:∀(cs:List Ha) (f:Nat),cs.length<=f->wfCels cs->(∀c∈cs,cellR chD rd (celL c) (inT c)=if Cj c then some c else none)->cellsD rd f (celsT cs)=if We cs then some cs else none
 | [],0,_,_,_=>rfl
 | [],f+1,_,_,_=>by rw[celsT,cellsD,if_pos rfl];rfl
 |c::r,f+1,hf,hw,h=>by
  rw[wfCels] at hw;have hL:celL c<18446744073709551616:=by obtain⟨L,k,n,t,b,ch,ins⟩:=c;exact hw.1.1
  have e:=Nw.cut_net (Lab.text (celL c)) (Nw.net (inT c)++celsT r);rw[celsT,celT_eq,List.append_assoc,cellsD,if_neg (Oka e),e];dsimp only;rw[Nw.cut_net];dsimp only;rw[pairR,Wc hL];dsimp only;rw[h c (by simp),Vr r f (by simpa using hf) hw.2 (λx hx=>h x (by simp[hx])),We];cases Cj c<;>cases We r<;>rfl
theorem Sia {S:Nat}{sh:List Int}{cs:List Ha}{L:Nat}{k:Int}{n:Bool}{t b:List Nat}{ch:Int}{a:Ba}(h: .mk L k n t b ch [a]∈cs):SizeOf.sizeOf a<SizeOf.sizeOf (Ba.mk S sh cs):=by
 have:=List.sizeOf_lt_of_mem h;simp at this⊢;omega
theorem right_at:∀{d:Nat} {cs:List Ha},Sa d cs=true->∀c∈cs,Oa d c=true
 |d,x::r,h,c,hc=>by
  rw[Sa,Bool.and_eq_true] at h;rcases List.mem_cons.1 hc with rfl |hc
  ·exact h.1
  exact right_at h.2 c hc
theorem wf_at:∀{cs:List Ha},wfCels cs->∀c∈cs,wfCel c
 |x::r,h,c,hc=>by
  rw[wfCels] at h;rcases List.mem_cons.1 hc with rfl |hc
  ·exact h.1
  exact wf_at h.2 c hc
theorem Tia (n:Nat)(h:n<10000000):chD (Lib.decDigits n)=some (n:Int):=by
 have:=Nq h [] (by simp);rw[List.append_nil] at this;unfold chD;rw[this]
theorem read_text (m:Nat):∀(a:Ba) (d:Nat),SizeOf.sizeOf a<m->Ka d a=true->wfA a->readP (d+1) (arrT a)=(if okA a then some a else none)/\readD (d+1) (arrT a)=if okA a then some a else none:=by
 induction m with
 |zero=>intro a d h;omega
 |succ m ih=>
  intro a d hm hr hw;obtain⟨S,sh,cs⟩:=a;rw[Ka] at hr;simp only[Bool.and_eq_true,beq_iff_eq] at hr;obtain⟨⟨h1,-⟩,h2⟩:=hr;rw[wfA] at hw;have hs:=sh_of_cnt h1;have hc:∀(X:Nat->List UInt8->Option Ba) (hX:∀(a:Ba) (d:Nat),SizeOf.sizeOf a<m->Ka d a=true->wfA a->X (d+1) (arrT a)=if okA a then some a else none) (ch:List UInt8->Option Int),(∀n:Nat,n<10000000->ch (Lib.decDigits n)=some (n:Int))->
   ∀c∈cs,cellR ch (X d) (celL c) (inT c)=if Cj c then some c else none:=by
   intro X hX ch hch c hc;refine N9 hch c (right_at h2 c hc) ?_;rintro a hd hra L k n t b ch' rfl;have hwf:=wf_at hw.2 _ hc;rw[wfCel,wfIns] at hwf;have:=hX a (d-1) (by have:=Sia (S:=S) (sh:=sh) hc;omega) hra hwf.2.1;rwa[Nat.sub_add_cancel hd] at this
  refine⟨?_,?_⟩
  ·show bodyP (readP d) _=_
   rw[arrT,bodyP,nextP_net];dsimp only;rw[Wc hw.1,nextP_net];dsimp only;rw[C6 hs];dsimp only;rw[Gp cs _ (Oq cs),Ur cs hw.2 (hc readP (λa d h1 h2 h3=>(ih a d h1 h2 h3).1) _ (λn h=>Vv h)),okA];cases We cs<;>rfl
  show bodyD (readD d) _=_;rw[arrT,bodyD,Nw.cut_net];dsimp only;rw[Nw.cut_net];dsimp only;rw[Wc hw.1];dsimp only;rw[D6 hs,Vr cs _ (Oq cs) hw.2 (hc readD (λa d h1 h2 h3=>(ih a d h1 h2 h3).2) _ Tia),okA];cases We cs<;>rfl
open Classical in
noncomputable def parseX (r:Option Ba)(s:List UInt8):Option Ba:=match r with |none=>none |some a=>if Ka 8 a=true/\arrT a=s then some a else none
theorem O9 (s:List UInt8)(h:∀a,(readP 9 s=some a\/readD 9 s=some a)->wfA a):parseX (readP 9 s) s=parseX (readD 9 s) s:=by
 have key:∀(p q:Option Ba),(∀a,p=some a->Ka 8 a=true->arrT a=s->q=some a)->(∀a,q=some a->Ka 8 a=true->arrT a=s->p=some a)->parseX p s=parseX q s:=by
  intro p q h1 h2;cases p with
  |none=>
   cases q with
   |none=>rfl
   |some b=>
    unfold parseX;dsimp only;by_cases e:Ka 8 b=true/\arrT b=s
    ·exact absurd (h2 b rfl e.1 e.2) (by simp)
    rw[if_neg e]
  |some a=>
   unfold parseX;by_cases e:Ka 8 a=true/\arrT a=s
   ·rw[h1 a rfl e.1 e.2]
   dsimp only;rw[if_neg e];cases q with
   |none=>rfl
   |some b=>
    dsimp only;by_cases e':Ka 8 b=true/\arrT b=s
    ·have:=h2 b rfl e'.1 e'.2
     injection this with this
     subst this;exact absurd e' e
    rw[if_neg e']
 refine key _ _ (λa ha hr ht=>?_) (λa ha hr ht=>?_)
 ·have hR:=read_text _ a 8 (Nat.lt_succ_self _) hr (h a (.inl ha))
  rw[ht] at hR;rw[hR.2,<-hR.1,ha]
 have hR:=read_text _ a 8 (Nat.lt_succ_self _) hr (h a (.inr ha));rw[ht] at hR;rw[hR.1,<-hR.2,ha]
theorem parse_text {a:Ba}(hr:Ka 8 a=true)(hw:wfA a):parseX (readP 9 (arrT a)) (arrT a)=if okA a then some a else none:=by
 rw[(read_text _ a 8 (Nat.lt_succ_self _) hr hw).1];unfold parseX;cases okA a
 ·rfl
 simp[hr]
end Sp
end
end Go.Proofs.YtmiccalfamepdaaGreatDoor
namespace Ar
mutual
def Dc:Ba->Nat
 | .mk _ sh cs=>1+sh.length+Qa cs
def Qa:List Ha->Nat
 | []=>0
 |c::r=>Zc c+Qa r
def Zc:Ha->Nat
 | .mk _ _ _ t b _ ins=>1+t.length+b.length+Db ins
def Db:List Ba->Nat
 | []=>0
 |a::r=>Dc a+Db r
end
theorem Mi:∀l r:List Ha,Qa (l++r)=Qa l+Qa r
 | [],r=>by rw[List.nil_append,Qa,Nat.zero_add]
 |c::l,r=>by rw[List.cons_append,Qa,Qa,Mi l r,Nat.add_assoc]
theorem Dj:∀l r:List Ba,Db (l++r)=Db l+Db r
 | [],r=>by rw[List.nil_append,Db,Nat.zero_add]
 |c::l,r=>by rw[List.cons_append,Db,Db,Dj l r,Nat.add_assoc]
theorem Ou {cs:List Ha}{k:Nat}(h:k<cs.length):Qa (cs.take (k+1))=Qa (cs.take k)+Zc cs[k]:=by
 rw[List.take_succ_eq_append_getElem h,Mi,Qa,Qa,Nat.add_zero]
theorem Rx {cs:List Ba}{k:Nat}(h:k<cs.length):Db (cs.take (k+1))=Db (cs.take k)+Dc cs[k]:=by
 rw[List.take_succ_eq_append_getElem h,Dj,Db,Db,Nat.add_zero]
end Ar
namespace Go.Proofs.YtmiccalfamepdaaGreatDoor
section
namespace Sp
open Ar
theorem net_len {s:List UInt8}(h:s.length<1000000):(Nw.net s).length<=s.length+8:=by
 have:=(Ten.dec_len (r:=s.length) (k:=5) (by omega)).2;unfold Nw.net;simp;omega
theorem Tfa {s:List UInt8}(h:s.length<1000):(Nw.net s).length<=s.length+5:=by
 have:=(Ten.dec_len (r:=s.length) (k:=2) (by omega)).2;unfold Nw.net;simp;omega
theorem X7 {l:Nat}(h:l<18446744073709551616):(Nw.net (Lab.text l)).length<=199:=by
 have h1:=Lab.text_len h;have h2:=Tfa (s:=Lab.text l) (by omega);omega
theorem Hia {l:List Nat}(h:Nt.Ok l):(Lib.decDigits (Nt.val l)).length<=10*l.length+1:=by
 have h1:=Nt.val_lt h;have h2:(4294967296:Nat)^l.length<=10^(10*l.length):=by rw[Nat.pow_mul];exact Nat.pow_le_pow_left (by decide) _
 have h3:(10:Nat)^(10*l.length)<=10^(10*l.length+1):=Nat.pow_le_pow_right (by decide) (Nat.le_succ _);exact(Ten.dec_len (by omega)).2
theorem Ez {n:Rt.Nm}(h:Rt.right n=true):Nt.Ok n.top/\Nt.Ok n.bot:=by
 have h1:=Dg.mk_right h;unfold Rt.mk at h1
 split at h1
 ·cases h1
 split at h1
 ·cases h1
 have h2:=congrArg (λp:Rt.Nm×Int=>p.1) h1;dsimp only at h2;rw[<-h2];exact⟨Nt.ok_digs _,Nt.ok_digs _⟩
theorem print_len {n:Rt.Nm}(h1:Nt.Ok n.top)(h2:Nt.Ok n.bot):(Dg.print n).length<=10*(n.top.length+n.bot.length)+5:=by
 have h3:=Hia h1;have h4:=Hia h2;unfold Dg.print
 split<;>split<;>simp<;>omega
theorem lens_snoc {sh:List Int}{k:Nat}(h:k<sh.length):lens (sh.take (k+1))=if k=0 then Lib.decDigits sh[k].toNat else lens (sh.take k)++32::Lib.decDigits sh[k].toNat:=by
 unfold lens;rw[List.take_succ_eq_append_getElem h,List.map_append,List.map_singleton,Lab.join_snoc];by_cases h0:k=0
 ·subst h0;rw[List.take_zero,List.map_nil,if_pos rfl,if_pos rfl]
 rw[if_neg (λe=>by have:=congrArg List.length e;rw[List.length_map,List.length_take,List.length_nil] at this;omega),if_neg h0];rfl
theorem lens_len:∀{sh:List Int},Sh sh->(lens sh).length<=5*sh.length
 | [],_=>Nat.zero_le _
 | [x],h=>by
  have hx:=h x (by simp);have:=(Ten.dec_len (r:=x.toNat) (k:=3) (by omega)).2;unfold lens;rw[List.map_singleton,Lib.join_one];simp;omega
 |x::y::r,h=>by
  have hx:=h x (by simp);have h1:=(Ten.dec_len (r:=x.toNat) (k:=3) (by omega)).2;have h2:=lens_len (sh:=y::r) (λz hz=>h z (List.mem_cons_of_mem _ hz));have e:lens (x::y::r)=Lib.decDigits x.toNat++32::lens (y::r):=by unfold lens;rw[List.map_cons,List.map_cons,Ki]
  rw[e];simp at h2⊢;omega
mutual
theorem arr_len:∀(a:Ba) (d:Nat),Ka d a=true->wfA a->Dc a<=4000->(arrT a).length<=235*Dc a
 | .mk S sh cs,d,h,hw,hp=>by
  rw[Ka] at h;simp only[Bool.and_eq_true,beq_iff_eq] at h;rw[wfA] at hw;rw[Dc] at hp⊢;have h1:=lens_len (sh_of_cnt h.1.1);have h2:=Wv cs d h.2 hw.2 (by omega);have h3:=X7 hw.1;have h4:=net_len (s:=lens sh) (by omega);rw[arrT,List.length_append,List.length_append];omega
theorem Wv:∀(cs:List Ha) (d:Nat),Sa d cs=true->wfCels cs->Qa cs<=4000->(celsT cs).length<=235*Qa cs
 | [],_,_,_,_=>Nat.zero_le _
 |c::r,d,h,hw,hp=>by
  rw[Sa,Bool.and_eq_true] at h;rw[wfCels] at hw;rw[Qa] at hp⊢;have h1:=Ufa c d h.1 hw.1 (by omega);have h2:=Wv r d h.2 hw.2 (by omega);rw[celsT,List.length_append];omega
theorem Ufa:∀(c:Ha) (d:Nat),Oa d c=true->wfCel c->Zc c<=4000->(Dz c).length<=235*Zc c
 | .mk L k n t b ch ins,d,h,hw,hp=>by
  rw[Oa] at h;rw[wfCel] at hw;rw[Zc] at hp⊢;have h3:=X7 hw.1;rw[Dz,List.length_append]
  split at h
  ·next h0=>
   simp only[Bool.and_eq_true] at h;have h1:=print_len (Ez h.2).1 (Ez h.2).2;dsimp only at h1;rw[if_pos h0];have h2:=net_len (s:=110::Dg.print ⟨n,t,b⟩) (by simp;omega);simp at h2⊢;omega
  next h0=>
  split at h
  ·next h1=>
   simp only[Bool.and_eq_true,Ae,decide_eq_true_eq] at h;have h2:=(Ten.dec_len (r:=ch.toNat) (k:=6) (by omega)).2;rw[if_neg h0,if_pos h1];have h4:=net_len (s:=99::Lib.decDigits ch.toNat) (by simp;omega);simp at h4⊢;omega
  next h1=>
  simp only[Bool.and_eq_true] at h;rw[if_neg h0,if_neg h1]
  match ins,h,hw,hp with
  | [a],h,hw,hp=>
   rw[Hb,Bool.and_eq_true] at h;rw[wfIns] at hw;rw[Db,Db] at hp⊢;have h2:=arr_len a (d-1) h.2.2 hw.2.1 (by omega);rw[insT];have h4:=net_len (s:=98::arrT a) (by simp;omega);simp at h4⊢;omega
  | [],h,_,_=>exact absurd (h.2.symm.trans (by rw[Hb];intro a e;cases e)) Bool.noConfusion
  |_::_::_,h,_,_=>exact absurd (h.2.symm.trans (by rw[Hb];intro a e;cases e)) Bool.noConfusion
end
end Sp
end
section
namespace Sp
open Ar
theorem Xv {x g m:Nat}(h:(Nt.digs x).length<=m):(Nt.digs (x/g)).length<=m:=Nat.le_trans (Nt.digs_len_le_of (Nat.div_le_self _ _)) h
theorem Pq {n1 n2:Bool}{x y a b:Nat}(hx:(Nt.digs x).length<=a)(hy:(Nt.digs y).length<=b):(Rt.mk n1 n2 x y).1.top.length+(Rt.mk n1 n2 x y).1.bot.length<=a+b:=by
 unfold Rt.mk
 split
 ·exact Nat.zero_le _
 split
 ·exact Nat.zero_le _
 have h1:=Xv (g:=Nat.gcd x y) hx;have h2:=Xv (g:=Nat.gcd x y) hy;show(Nt.digs _).length+(Nt.digs _).length<=_;omega
theorem Wr (neg:Bool)(t:List UInt8):(Dg.body neg t).1.top.length+(Dg.body neg t).1.bot.length<=t.length+2:=by
 have h0:∀e:Int,((Rt.none_,e):Rt.Nm×Int).1.top.length+((Rt.none_,e):Rt.Nm×Int).1.bot.length<=t.length+2:=λ_=>Nat.zero_le _;unfold Dg.body
 split
 ·exact h0 _
 split
 ·exact h0 _
 split
 ·next hl=>
  have h1:=Dg.limbs_le (Dg.lead_full hl) (t.length/9+1) (by omega);have:=Pq (n1:=neg) (n2:=false) h1 (b:=1) (y:=1) (by rw[show(1:Nat)=10^0 from rfl];exact Dg.limbs_ten 1 (by omega));omega
 split
 ·exact h0 _
 next hb=>
 have hl:=Dg.lead_le t;have hd:∀b∈t.drop (Dg.lead t+1),Ten.isDig b:=Dg.lead_full (by
  have:=Dg.lead_le (t.drop (Dg.lead t+1));rw[List.length_drop] at this⊢;omega)
 split
 ·have h1:=Dg.limbs_le (Dg.lead_take (s:=t)) (Dg.lead t/9+1) (by rw[List.length_take];omega)
  have h2:=Dg.limbs_le hd ((t.length-(Dg.lead t+1))/9+1) (by rw[List.length_drop];omega);have:=Pq (n1:=neg) (n2:=false) h1 h2;omega
 split
 ·have h1:=Dg.limbs_le (t:=t.take (Dg.lead t)++t.drop (Dg.lead t+1)) (λb hb=>by
   rcases List.mem_append.1 hb with h |h
   ·exact Dg.lead_take b h
   exact hd b h) (t.length/9+1) (by rw[List.length_append,List.length_take,List.length_drop];omega)
  have h2:=Dg.limbs_ten (k:=t.length-(Dg.lead t+1)) (t.length/9+1) (by omega);have:=Pq (n1:=neg) (n2:=false) h1 h2;omega
 exact h0 _
theorem F6 (t:List UInt8):(Dg.parse t).1.top.length+(Dg.parse t).1.bot.length<=t.length+2:=by
 unfold Dg.parse
 split
 ·have:=Wr true ‹List UInt8›
  simp at this⊢;omega
 exact Wr false t
theorem cut_sum {s:List UInt8}{p:List UInt8×List UInt8}(h:Nw.cut s=some p):p.1.length+p.2.length+3<=s.length:=by
 unfold Nw.cut at h
 split at h
 ·unfold Nw.after at h
  split at h
  ·cases h
  split at h
  ·cases h
  split at h
  ·cases h
  split at h
  ·cases h
  split at h
  ·cases h
  injection h with h
  subst h;simp;omega
 cases h
theorem nextP_sum (s:List UInt8):(nextP s).1.length+(nextP s).2.length<=s.length:=by
 unfold nextP;cases h:Nw.cut s with
 |none=>simp
 |some p=>have:=cut_sum h;simp;omega
theorem Pu {s:List UInt8}{L:Nat}(h:labP s=some L):2<=s.length:=by
 unfold labP at h
 split at h
 ·next he=>
  obtain⟨l,-,rfl⟩:=he;unfold Lab.text;simp
 cases h
def Hp (rd:List UInt8->Option Ba):Prop:=∀t a,rd t=some a->Dc a<=t.length
theorem G6 {ch:List UInt8->Option Int}{rd:List UInt8->Option Ba}(hr:Hp rd){L:Nat}{t:List UInt8}{c:Ha}(h:cellR ch rd L t=some c):Zc c<=t.length+2:=by
 match t,h with
 |b::r,h=>
  rw[cellR] at h
  split at h
  ·split at h
   ·injection h with h
    subst h;have:=F6 r;rw[Zc,Db];simp;omega
   cases h
  split at h
  ·obtain⟨n,-,rfl⟩:=Option.map_eq_some_iff.1 h
   rw[Zc,Db];simp
  split at h
  ·obtain⟨a,ha,rfl⟩:=Option.map_eq_some_iff.1 h
   have:=hr _ _ ha;rw[Zc,Db,Db];simp;omega
  cases h
theorem Ip {ch:List UInt8->Option Int}{rd:List UInt8->Option Ba}(hr:Hp rd){l t:List UInt8}{c:Ha}(h:pairR ch rd l t=some c):Zc c<=l.length+t.length:=by
 unfold pairR at h;cases hl:labP l with
 |none=>rw[hl] at h;cases h
 |some L=>
  rw[hl] at h;have:=Pu hl;have:=G6 hr h;omega
theorem Pm {rd:List UInt8->Option Ba}(hr:Hp rd):∀(f:Nat) (s:List UInt8) (cs:List Ha),cellsP rd (pairsP f s)=some cs->Qa cs<=s.length
 | 0,s,cs,h=>by rw[pairsP,cellsP] at h;injection h with h;subst h;exact Nat.zero_le _
 |f+1,s,cs,h=>by
  rw[pairsP] at h;cases hc:Nw.cut s with
  |none=>rw[hc,cellsP] at h;injection h with h;subst h;exact Nat.zero_le _
  |some p=>
   rw[hc,cellsP] at h;dsimp only at h
   split at h
   ·cases h
   next c hp=>
   obtain⟨cs',h',rfl⟩:=Option.map_eq_some_iff.1 h;have h1:=Pm hr f _ _ h';have h2:=Ip hr hp;have h3:=cut_sum hc;have h4:=nextP_sum p.2;rw[Qa];omega
theorem Xr:∀(f:Nat) (s:List UInt8),(wordsF f s).length<=s.length+1
 | 0,s=>by rw[wordsF];simp
 |f+1,s=>by
  rw[wordsF]
  split
  ·have h1:=Xr f (Lab.cutAt 32 s).2.1
   have h2:=(Lab.cutAt_len 32 s).2.2
   match s,h2 with
   | [],_=>next h=>simp[Lab.cutAt] at h
   |b::r,h2=>
    have:=h2 (by simp);simp only[List.length_cons] at h1 this⊢;omega
  simp
theorem Qm:∀{ws:List (List UInt8)} {l:List Int},atoiAllP ws=some l->l.length=ws.length
 | [],l,h=>by rw[atoiAllP] at h;injection h with h;subst h;rfl
 |x::r,l,h=>by
  rw[atoiAllP] at h
  split at h
  ·cases h
  obtain⟨l',h',rfl⟩:=Option.map_eq_some_iff.1 h;rw[List.length_cons,List.length_cons,Qm h']
theorem P9 {t:List UInt8}{sh:List Int}(h:shapeP t=some sh):sh.length<=t.length+1:=by
 unfold shapeP at h
 split at h
 ·injection h with h;subst h;exact Nat.zero_le _
 have h1:=Qm h;have h2:=Xr t.length t;unfold words at h1;omega
theorem H6 {rd:List UInt8->Option Ba}(hr:Hp rd):Hp (bodyP rd):=by
 intro s a h;unfold bodyP at h
 split at h
 ·cases h
 next S hl=>
 split at h
 ·cases h
 next sh hs=>
 obtain⟨cs,hc,rfl⟩:=Option.map_eq_some_iff.1 h;have h1:=Pm hr _ _ _ hc;have h2:=P9 hs;have h3:=Pu hl;have h4:=nextP_sum s;have h5:=nextP_sum (nextP s).2;rw[Dc];omega
theorem Jp:∀n,Hp (readP n)
 | 0=>λt a h=>by cases h
 |n+1=>H6 (Jp n)
theorem Lp:∀(f:Nat) (s:List UInt8),(shapeDF f s).length<=s.length
 | 0,s=>by rw[shapeDF];exact Nat.zero_le _
 |f+1,s=>by
  rw[shapeDF]
  split
  ·exact Nat.zero_le _
  next hs=>
  have hp:=List.length_pos_iff.2 hs
  split
  ·simp;omega
  next hk=>
  have h1:=Lp f (s.drop ((decN s).2+1));rw[List.length_drop] at h1;simp only[List.length_cons];omega
theorem Rm {rd:List UInt8->Option Ba}(hr:Hp rd):∀(f:Nat) (s:List UInt8) (cs:List Ha),cellsD rd f s=some cs->Qa cs<=s.length
 | 0,s,cs,h=>by rw[cellsD] at h;injection h with h;subst h;exact Nat.zero_le _
 |f+1,s,cs,h=>by
  rw[cellsD] at h
  split at h
  ·injection h with h;subst h;exact Nat.zero_le _
  split at h
  ·cases h
  next p hc=>
  split at h
  ·cases h
  next q hd=>
  split at h
  ·cases h
  next c hp=>
  obtain⟨cs',h',rfl⟩:=Option.map_eq_some_iff.1 h;have h1:=Rm hr f _ _ h';have h2:=Ip hr hp;have h3:=cut_sum hc;have h4:=cut_sum hd;rw[Qa];omega
theorem I6 {rd:List UInt8->Option Ba}(hr:Hp rd):Hp (bodyD rd):=by
 intro s a h;unfold bodyD at h
 split at h
 ·cases h
 next p hc=>
 split at h
 ·cases h
 next q hd=>
 split at h
 ·cases h
 next S hl=>
 obtain⟨cs,h',rfl⟩:=Option.map_eq_some_iff.1 h;have h1:=Rm hr _ _ _ h';have h2:=Lp q.1.length q.1;have h3:=Pu hl;have h4:=cut_sum hc;have h5:=cut_sum hd;unfold shapeD;rw[Dc];omega
theorem Mp:∀n,Hp (readD n)
 | 0=>λt a h=>by cases h
 |n+1=>I6 (Mp n)
end Sp
end
section
namespace Sp
open Ar
def Np (rd:List UInt8->Option Ba):Prop:=∀t a,rd t=some a->wfA a
theorem Vfa {ch:List UInt8->Option Int}{rd:List UInt8->Option Ba}(hr:Np rd){L:Nat}(hL:L<18446744073709551616){t:List UInt8}{c:Ha}(h:cellR ch rd L t=some c):wfCel c:=by
 match t,h with
 |b::r,h=>
  rw[cellR] at h
  split at h
  ·split at h
   ·injection h with h
    subst h;rw[wfCel,wfIns];exact⟨hL,trivial⟩
   cases h
  split at h
  ·obtain⟨n,-,rfl⟩:=Option.map_eq_some_iff.1 h
   rw[wfCel,wfIns];exact⟨hL,trivial⟩
  split at h
  ·obtain⟨a,ha,rfl⟩:=Option.map_eq_some_iff.1 h
   rw[wfCel,wfIns,wfIns];exact⟨hL,hr _ _ ha,trivial⟩
  cases h
theorem Fz {ch:List UInt8->Option Int}{rd:List UInt8->Option Ba}(hr:Np rd){l t:List UInt8}{c:Ha}(h:pairR ch rd l t=some c):wfCel c:=by
 unfold pairR at h;cases hl:labP l with
 |none=>rw[hl] at h;cases h
 |some L=>rw[hl] at h;exact Vfa hr (Jg hl) h
theorem Yv {rd:List UInt8->Option Ba}(hr:Np rd):∀(l:List (List UInt8×List UInt8)) (cs:List Ha),cellsP rd l=some cs->wfCels cs
 | [],cs,h=>by rw[cellsP] at h;injection h with h;subst h;rw[wfCels];trivial
 |p::l,cs,h=>by
  rw[cellsP] at h
  split at h
  ·cases h
  next c hp=>
  obtain⟨cs',h',rfl⟩:=Option.map_eq_some_iff.1 h;rw[wfCels];exact⟨Fz hr hp,Yv hr _ _ h'⟩
theorem Wfa {rd:List UInt8->Option Ba}(hr:Np rd):Np (bodyP rd):=by
 intro s a h;unfold bodyP at h
 split at h
 ·cases h
 next S hl=>
 split at h
 ·cases h
 obtain⟨cs,hc,rfl⟩:=Option.map_eq_some_iff.1 h;rw[wfA];exact⟨Jg hl,Yv hr _ _ hc⟩
theorem Xk:∀n,Np (readP n)
 | 0=>λt a h=>by cases h
 |n+1=>Wfa (Xk n)
theorem Zv {rd:List UInt8->Option Ba}(hr:Np rd):∀(f:Nat) (s:List UInt8) (cs:List Ha),cellsD rd f s=some cs->wfCels cs
 | 0,s,cs,h=>by rw[cellsD] at h;injection h with h;subst h;rw[wfCels];trivial
 |f+1,s,cs,h=>by
  rw[cellsD] at h
  split at h
  ·injection h with h;subst h;rw[wfCels];trivial
  split at h
  ·cases h
  split at h
  ·cases h
  split at h
  ·cases h
  next c hp=>
  obtain⟨cs',h',rfl⟩:=Option.map_eq_some_iff.1 h;rw[wfCels];exact⟨Fz hr hp,Zv hr _ _ _ h'⟩
theorem Xfa {rd:List UInt8->Option Ba}(hr:Np rd):Np (bodyD rd):=by
 intro s a h;unfold bodyD at h
 split at h
 ·cases h
 split at h
 ·cases h
 split at h
 ·cases h
 next S hl=>
 obtain⟨cs,h',rfl⟩:=Option.map_eq_some_iff.1 h;rw[wfA];exact⟨Jg hl,Zv hr _ _ _ h'⟩
theorem Qq:∀n,Np (readD n)
 | 0=>λt a h=>by cases h
 |n+1=>Xfa (Qq n)
theorem parse_both (s:List UInt8):parseX (readP 9 s) s=parseX (readD 9 s) s:=O9 s λa h=>h.elim (Xk 9 s a) (Qq 9 s a)
theorem readP_len {s:List UInt8}{a:Ba}(hs:s.length<=4000)(h:readP 9 s=some a)(hr:Ka 8 a=true):(arrT a).length<1000000:=by
 have h1:=Jp 9 s a h;have h2:=arr_len a 8 hr (Xk 9 s a h) (by omega);omega
theorem readD_len {s:List UInt8}{a:Ba}(hs:s.length<=4000)(h:readD 9 s=some a)(hr:Ka 8 a=true):(arrT a).length<1000000:=by
 have h1:=Mp 9 s a h;have h2:=arr_len a 8 hr (Qq 9 s a h) (by omega);omega
theorem text_len {a:Ba}(hr:Ka 8 a=true)(hw:wfA a)(hp:Dc a<=4000):(arrT a).length<1000000:=by
 have h2:=arr_len a 8 hr hw hp;omega
theorem readD_len' {a b:Ba}(hr:Ka 8 a=true)(hw:wfA a)(hp:Dc a<=4000)(h:readD 9 (arrT a)=some b):(arrT b).length<1000000:=by
 rw[(read_text _ a 8 (Nat.lt_succ_self _) hr hw).2] at h
 split at h
 ·injection h with h;rw[<-h];exact text_len hr hw hp
 cases h
theorem parse_bothT {a:Ba}(hr:Ka 8 a=true)(hw:wfA a):parseX (readD 9 (arrT a)) (arrT a)=if okA a then some a else none:=by rw[<-parse_both];exact parse_text hr hw
end Sp
end
open Go.RowKit
theorem Aa {a b:Bool}(h:a=b):Ending.returned (.bool a)= .returned (.bool b):=by rw[h]
theorem Gb {k:IntKind}{a b:Int}(h:a=b):Ending.returned (.int k a)= .returned (.int k b):=by rw[h]
theorem Y7 {a b c d:Value}(h:a=c)(h':b=d):Ending.returned (.tuple #[a,b])= .returned (.tuple #[c,d]):=by rw[h,h']
def Lies (w:World)(B:Nat)(A:Option Addr)(vs:List Value):Prop:=
 vs=[]\/∃b off,A=some ⟨b,off,none⟩/\b<B/\∀i v,vs[i]? =some v->w.cell? ⟨b,off+i,none⟩=some v
theorem Lies.nil {w:World}{B:Nat}{A:Option Addr}:Lies w B A []:= .inl rfl
theorem Lies.keep {w w':World}{B:Nat}{A:Option Addr}{vs:List Value}(h:Lies w B A vs)(hk:∀p:Addr,p.block<B->w'.cell? p=w.cell? p):Lies w' B A vs:=by
 rcases h with h |⟨b,off,hA,hb,hc⟩
 ·exact .inl h
 exact .inr ⟨b,off,hA,hb,λi v hv=>(hk _ hb).trans (hc i v hv)⟩
theorem Lies.more {w:World}{B B':Nat}{A:Option Addr}{vs:List Value}(h:Lies w B A vs)(hB:B<=B'):Lies w B' A vs:=by
 rcases h with h |⟨b,off,hA,hb,hc⟩
 ·exact .inl h
 exact .inr ⟨b,off,hA,by omega,hc⟩
theorem Lies.below {w w':World}{B:Nat}{A:Option Addr}{vs:List Value}(h:Lies w B A vs)(hb:Below B w w'):Lies w' B A vs:=h.keep λ_ hp=>hb.cell hp
theorem Lies.drew {w:World}{B:Nat}{A:Option Addr}{vs:List Value}(h:Lies w B A vs):Lies w.drew B A vs:=h
theorem Lies.drewN {w:World}{B:Nat}{A:Option Addr}{vs:List Value}(h:Lies w B A vs)(n:Nat):Lies (w.drewN n) B A vs:=h
theorem Lies.at_ {w:World}{B:Nat}{A:Option Addr}{vs:List Value}(h:Lies w B A vs){k:Nat}(hk:k<vs.length):
 ∃b off,A=some ⟨b,off,none⟩/\b<B/\w.cell? ⟨b,off+k,none⟩=some (vs[k]'hk):=by
 rcases h with h |⟨b,off,hA,hb,hc⟩
 ·subst h;simp at hk
 exact⟨b,off,hA,hb,hc k _ (List.getElem?_eq_getElem hk)⟩
theorem Lies.take {w:World}{B:Nat}{A:Option Addr}{vs:List Value}(h:Lies w B A vs)(n:Nat):Lies w B A (vs.take n):=by
 rcases h with h |⟨b,off,hA,hb,hc⟩
 ·subst h;exact .inl (by simp)
 refine .inr ⟨b,off,hA,hb,λi v hv=>hc i v ?_⟩;rw[List.getElem?_take] at hv
 split at hv
 ·exact hv
 cases hv
theorem Lies.of_own {w:World}{base:Nat}{e:TypeId}{size n c:Nat}{A:Option Addr}{xs:List Value}(h:w.ownsRow base e size (.slice A n c) n xs):Lies w w.heap.size A xs:=by
 rcases h.2 with⟨hv,hx⟩ |⟨g,cap,cur,hv,hb,hh,_⟩
 ·exact .inl (List.eq_nil_of_length_eq_zero (by rw[h.1,hx,Nat.zero_mul]))
 injection hv with hA
 subst hA;have hlt:=(h.lt g (by simp[Value.ownBlock])).2;exact .inr ⟨g,0,rfl,hlt,λi v hv=>by
  have:=h.cells (g:=g) (by simp[Value.ownBlock]) i v hv;rw[Nat.zero_add];rw[<-this]
  congr 1
  unfold Addr.add
  split
  ·simp_all
  simp⟩
theorem Na {w:World}{base:Nat}{e:TypeId}{size n:Nat}{v:Value}{xs:List Value}(h:w.ownsRow base e size v n xs):∃A c,v= .slice A n c/\n<=c/\c<=maxLen:=by
 rcases h.2 with⟨hv,hx⟩ |⟨g,cap,cur,hv,_,_,h1,h2,_⟩
 ·subst hx;exact⟨none,0,hv,Lr,Nat.zero_le _⟩
 exact⟨_,cap,hv,h1,h2⟩
theorem Oe {w:World}{base:Nat}{e:TypeId}{size n cap g:Nat}{xs:List Value}(h:w.ownsRow base e size (.slice (some ⟨g,0,none⟩) n cap) n xs)(j:Nat)(v:Value)(hv:xs[j]? =some v):w.cell? ⟨g,0+j,none⟩=some v:=by
 have:=h.cells (g:=g) rfl j v hv;rw[Nat.zero_add,<-this]
 congr 1
 unfold Addr.add
 split
 ·rename_i h;rw[h]
 simp
theorem Lies.new (w:World)(cs:List Value)(t:TypeId):Lies (w.alloc (.cells cs.toArray t)) (w.heap.size+1) (some ⟨w.heap.size,0,none⟩) cs:=by
 refine .inr ⟨w.heap.size,0,rfl,by omega,λi v hv=>?_⟩;rw[cell_of_row (w.alloc (.cells cs.toArray t)) w.heap.size (0+i) cs.toArray t (0,0) (heap_alloc_new w _),Nat.zero_add]
 simpa using hv
section
open Go.RowKit Ar
def Fits (n c bytes:Nat):Prop:=n<=c/\n*bytes<=140737488351232/\c<=9223372036854775807
theorem Fits.le {n c bytes:Nat}(h:Fits n c bytes)(hb:1<=bytes):n<=c/\n<=140737488351232:=by
 refine⟨h.1,?_⟩;have h1:=Nat.mul_le_mul_left n hb;have h2:=h.2.1;omega
def Xa (l:List Int):Prop:=∀n∈l,-9223372036854775808<=n/\n<=9223372036854775807
def Uj (l:List Nat):Prop:=∀n∈l,n<4294967296
def Ya (l:List Int):List Value:=l.map (Value.int .i64)
def Rd (l:List Nat):List Value:=l.map λn:Nat=>Value.int .u32 (n:Int)
mutual
def IsArr (w:World)(B:Nat):Ba->List Value->Prop
 | .mk S shape cells,vs=>∃A c A' c' us,vs=[.int .u64 (S:Int),.slice A shape.length c,.slice A' cells.length c']/\S<18446744073709551616/\Fits shape.length c 8/\Fits cells.length c' 104/\Xa shape/\
  Lies w B A (Ya shape)/\Lies w B A' us/\IsCels w B cells us
def IsCels (w:World)(B:Nat):List Ha->List Value->Prop
 | [],vs=>vs=[]
 |c::r,vs=>∃u t,vs=u++t/\IsCel w B c u/\IsCels w B r t
def IsCel (w:World)(B:Nat):Ha->List Value->Prop
 | .mk L kind neg top bot ch ins,vs=>∃A c A' c' A'' c'' us,vs=[.int .u64 (L:Int),.int .i64 kind,.bool neg,.slice A top.length c,.slice A' bot.length c',.int .i64 ch,.slice A'' ins.length c'']/\
  L<18446744073709551616/\Fits top.length c 4/\Fits bot.length c' 4/\Fits ins.length c'' 56/\Xa [kind,ch]/\Uj top/\Uj bot/\Lies w B A (Rd top)/\Lies w B A' (Rd bot)/\Lies w B A'' us/\IsArrs w B ins us/\(A=none->c=0)/\(A'=none->c'=0)
def IsArrs (w:World)(B:Nat):List Ba->List Value->Prop
 | [],vs=>vs=[]
 |a::r,vs=>∃u t,vs=u++t/\IsArr w B a u/\IsArrs w B r t
end
theorem IsArr.len {w:World}{B:Nat}{a:Ba}{vs:List Value}(h:IsArr w B a vs):vs.length=3:=by
 cases a;rw[IsArr] at h;obtain⟨A,c,A',c',us,rfl,_⟩:=h;rfl
theorem IsCel.len {w:World}{B:Nat}{a:Ha}{vs:List Value}(h:IsCel w B a vs):vs.length=7:=by
 cases a;rw[IsCel] at h;obtain⟨A,c,A',c',A2,c2,us,rfl,_⟩:=h;rfl
mutual
theorem IsArr.keep {w w':World}{B B':Nat}(hk:∀p:Addr,p.block<B->w'.cell? p=w.cell? p)(hB:B<=B'):∀(a:Ba) (vs:List Value),IsArr w B a vs->IsArr w' B' a vs
 | .mk S shape cells,vs,h=>by
  rw[IsArr] at h⊢;obtain⟨A,c,A',c',us,h1,h2,h3,h4,h5,h6,h7,h8⟩:=h;exact⟨A,c,A',c',us,h1,h2,h3,h4,h5,(h6.keep hk).more hB,(h7.keep hk).more hB,IsCels.keep hk hB cells us h8⟩
theorem IsCels.keep {w w':World}{B B':Nat}(hk:∀p:Addr,p.block<B->w'.cell? p=w.cell? p)(hB:B<=B'):∀(a:List Ha) (vs:List Value),IsCels w B a vs->IsCels w' B' a vs
 | [],vs,h=>by rw[IsCels] at h⊢;exact h
 |c::r,vs,h=>by
  rw[IsCels] at h⊢;obtain⟨u,t,h1,h2,h3⟩:=h;exact⟨u,t,h1,IsCel.keep hk hB c u h2,IsCels.keep hk hB r t h3⟩
theorem IsCel.keep {w w':World}{B B':Nat}(hk:∀p:Addr,p.block<B->w'.cell? p=w.cell? p)(hB:B<=B'):∀(a:Ha) (vs:List Value),IsCel w B a vs->IsCel w' B' a vs
 | .mk L kind neg top bot ch ins,vs,h=>by
  rw[IsCel] at h⊢;obtain⟨A,c,A',c',A2,c2,us,h1,h2,h3,h4,h5,h6,h7,h8,h9,h10,h11,h12⟩:=h;exact⟨A,c,A',c',A2,c2,us,h1,h2,h3,h4,h5,h6,h7,h8,(h9.keep hk).more hB,(h10.keep hk).more hB,(h11.keep hk).more hB,IsArrs.keep hk hB ins us h12.1,h12.2⟩
theorem IsArrs.keep {w w':World}{B B':Nat}(hk:∀p:Addr,p.block<B->w'.cell? p=w.cell? p)(hB:B<=B'):∀(a:List Ba) (vs:List Value),IsArrs w B a vs->IsArrs w' B' a vs
 | [],vs,h=>by rw[IsArrs] at h⊢;exact h
 |c::r,vs,h=>by
  rw[IsArrs] at h⊢;obtain⟨u,t,h1,h2,h3⟩:=h;exact⟨u,t,h1,IsArr.keep hk hB c u h2,IsArrs.keep hk hB r t h3⟩
end
theorem IsArr.below {w w':World}{B:Nat}{a:Ba}{vs:List Value}(h:IsArr w B a vs)(hb:Below B w w'):IsArr w' B a vs:=IsArr.keep (λ_ hp=>hb.cell hp) Lr a vs h
theorem IsArr.more {w:World}{B B':Nat}{a:Ba}{vs:List Value}(h:IsArr w B a vs)(hB:B<=B'):IsArr w B' a vs:=IsArr.keep (λ_ _=>rfl) hB a vs h
theorem IsCel.below {w w':World}{B:Nat}{a:Ha}{vs:List Value}(h:IsCel w B a vs)(hb:Below B w w'):IsCel w' B a vs:=IsCel.keep (λ_ hp=>hb.cell hp) Lr a vs h
theorem IsArrs.below {w w':World}{B:Nat}{a:List Ba}{vs:List Value}(h:IsArrs w B a vs)(hb:Below B w w'):IsArrs w' B a vs:=IsArrs.keep (λ_ hp=>hb.cell hp) Lr a vs h
theorem IsCels.below {w w':World}{B:Nat}{a:List Ha}{vs:List Value}(h:IsCels w B a vs)(hb:Below B w w'):IsCels w' B a vs:=IsCels.keep (λ_ hp=>hb.cell hp) Lr a vs h
theorem IsCels.at_ {w:World}{B:Nat}:∀{cs:List Ha} {vs:List Value} (h:IsCels w B cs vs) {k:Nat} (hk:k<cs.length),∃u,IsCel w B cs[k] u/\u=(vs.drop (7*k)).take 7
 | [],_,_,_,hk=>by simp at hk
 |c::r,vs,h,0,_=>by
  rw[IsCels] at h;obtain⟨u,t,rfl,h2,h3⟩:=h;exact⟨u,h2,by simp[h2.len]⟩
 |c::r,vs,h,k+1,hk=>by
  rw[IsCels] at h;obtain⟨u,t,rfl,h2,h3⟩:=h;obtain⟨u',h4,h5⟩:=h3.at_ (k:=k) (by simpa using hk);refine⟨u',h4,h5.trans ?_⟩;rw[show 7*(k+1)=u.length+7*k by rw[h2.len];omega,List.drop_append,List.drop_eq_nil_of_le (Nat.le_add_right _ _),Nat.add_sub_cancel_left,List.nil_append]
theorem IsArrs.at_ {w:World}{B:Nat}:∀{cs:List Ba} {vs:List Value} (h:IsArrs w B cs vs) {k:Nat} (hk:k<cs.length),∃u,IsArr w B cs[k] u/\u=(vs.drop (3*k)).take 3
 | [],_,_,_,hk=>by simp at hk
 |c::r,vs,h,0,_=>by
  rw[IsArrs] at h;obtain⟨u,t,rfl,h2,h3⟩:=h;exact⟨u,h2,by simp[h2.len]⟩
 |c::r,vs,h,k+1,hk=>by
  rw[IsArrs] at h;obtain⟨u,t,rfl,h2,h3⟩:=h;obtain⟨u',h4,h5⟩:=h3.at_ (k:=k) (by simpa using hk);refine⟨u',h4,h5.trans ?_⟩;rw[show 3*(k+1)=u.length+3*k by rw[h2.len];omega,List.drop_append,List.drop_eq_nil_of_le (Nat.le_add_right _ _),Nat.add_sub_cancel_left,List.nil_append]
theorem IsCels.len {w:World}{B:Nat}:∀{cs:List Ha} {vs:List Value} (h:IsCels w B cs vs),vs.length=7*cs.length
 | [],_,h=>by rw[IsCels] at h;subst h;rfl
 |c::r,vs,h=>by
  rw[IsCels] at h;obtain⟨u,t,rfl,h2,h3⟩:=h;rw[List.length_append,h2.len,h3.len,List.length_cons];omega
theorem IsArrs.len {w:World}{B:Nat}:∀{cs:List Ba} {vs:List Value} (h:IsArrs w B cs vs),vs.length=3*cs.length
 | [],_,h=>by rw[IsArrs] at h;subst h;rfl
 |c::r,vs,h=>by
  rw[IsArrs] at h;obtain⟨u,t,rfl,h2,h3⟩:=h;rw[List.length_append,h2.len,h3.len,List.length_cons];omega
theorem IsCels.snoc {w:World}{B:Nat}:∀{cs:List Ha} {vs:List Value} (h:IsCels w B cs vs) {c:Ha} {u:List Value} (hc:IsCel w B c u),IsCels w B (cs++[c]) (vs++u)
 | [],vs,h,c,u,hc=>by
  rw[IsCels] at h;subst h;show IsCels w B [c] _;rw[IsCels];exact⟨u,[],by simp,hc,by rw[IsCels]⟩
 |x::r,vs,h,c,u,hc=>by
  rw[IsCels] at h;obtain⟨u',t,rfl,h2,h3⟩:=h;show IsCels w B (x::(r++[c])) _;rw[IsCels];exact⟨u',t++u,by simp,h2,h3.snoc hc⟩
theorem IsArrs.snoc {w:World}{B:Nat}:∀{cs:List Ba} {vs:List Value} (h:IsArrs w B cs vs) {c:Ba} {u:List Value} (hc:IsArr w B c u),IsArrs w B (cs++[c]) (vs++u)
 | [],vs,h,c,u,hc=>by
  rw[IsArrs] at h;subst h;show IsArrs w B [c] _;rw[IsArrs];exact⟨u,[],by simp,hc,by rw[IsArrs]⟩
 |x::r,vs,h,c,u,hc=>by
  rw[IsArrs] at h;obtain⟨u',t,rfl,h2,h3⟩:=h;show IsArrs w B (x::(r++[c])) _;rw[IsArrs];exact⟨u',t++u,by simp,h2,h3.snoc hc⟩
theorem Lies.elem {w:World}{B:Nat}{A:Option Addr}{vs:List Value}(h:Lies w B A vs){m k:Nat}{u:List Value}(hu:u=(vs.drop (m*k)).take m)(hn:u≠[]):
 ∃b off,A=some ⟨b,off,none⟩/\b<B/\∀j v,u[j]? =some v->w.cell? ⟨b,off+k*m+j,none⟩=some v:=by
 rcases h with h |⟨b,off,hA,hb,hc⟩
 ·subst h;simp at hu;exact absurd hu hn
 refine⟨b,off,hA,hb,λj v hv=>?_⟩;have:=hc (k*m+j) v (by
  rw[hu,List.getElem?_take] at hv
  split at hv
  ·rw[List.getElem?_drop] at hv;rw[<-hv,Nat.mul_comm]
  cases hv)
 rw[<-this,Nat.add_assoc]
structure CelIn (w:World) (B:Nat) (ce:Ha) (L:Nat) (kind:Int) (neg:Bool) (top bot:List Nat) (ch:Int) (ins:List Ba) (A1 A2 A3:Option Addr) (c1 c2 c3:Nat) (us:List Value):Prop where
 eq:ce= .mk L kind neg top bot ch ins
 lt:Lies w B A1 (Rd top)
 lb:Lies w B A2 (Rd bot)
 li:Lies w B A3 us
 arrs:IsArrs w B ins us
 wt:Uj top
 wb:Uj bot
 wk:Xa [kind,ch]
 ft:Fits top.length c1 4
 fb:Fits bot.length c2 4
 fi:Fits ins.length c3 56
 nt:A1=none->c1=0
 nb:A2=none->c2=0
theorem Sd {w wr:World}{B:Nat}{A:Option Addr}{cells:List Ha}{us:List Value}{k:Nat}(hcs:IsCels w B cells us)(hl:Lies w B A us)(hk:∀p:Addr,p.block<B->wr.cell? p=w.cell? p)(hlt:k<cells.length):
 ∃b off L kind neg top bot ch ins A1 c1 A2 c2 A3 c3 us3,A=some ⟨b,off,none⟩/\b<B/\L<18446744073709551616/\Hid (CelIn w B cells[k] L kind neg top bot ch ins A1 A2 A3 c1 c2 c3 us3)/\
  top.length<=c1/\top.length<=35184372088832/\bot.length<=c2/\bot.length<=35184372088832/\ins.length<=c3/\ins.length<=35184372088832/\
  wr.cell? ⟨b,off+k*7,none⟩=some (.int .u64 (L:Int))/\wr.cell? ⟨b,off+k*7+1,none⟩=some (.int .i64 kind)/\wr.cell? ⟨b,off+k*7+2,none⟩=some (.bool neg)/\
  wr.cell? ⟨b,off+k*7+3,none⟩=some (.slice A1 top.length c1)/\wr.cell? ⟨b,off+k*7+4,none⟩=some (.slice A2 bot.length c2)/\wr.cell? ⟨b,off+k*7+5,none⟩=some (.int .i64 ch)/\
  wr.cell? ⟨b,off+k*7+6,none⟩=some (.slice A3 ins.length c3):=by
 obtain⟨u,hu,hue⟩:=hcs.at_ hlt;obtain⟨b,off,rfl,hb,hcell⟩:=hl.elem hue (by intro h;have:=hu.len;rw[h] at this;cases this);obtain⟨ce,hce⟩:∃ce,ce=cells[k]:=⟨_,rfl⟩;rw[<-hce] at hu⊢;obtain⟨L,kind,neg,top,bot,ch,ins⟩:=ce;rw[IsCel] at hu;obtain⟨A1,c1,A2,c2,A3,c3,us3,rfl,hL,hf1,hf2,hf3,hw1,hw2,hw3,hl1,hl2,hl3,hins,hnt,hnb⟩:=hu;have hc:∀j v,[Value.int .u64 (L:Int),.int .i64 kind,.bool neg,.slice A1 top.length c1,.slice A2 bot.length c2,.int .i64 ch,.slice A3 ins.length c3][j]? =some v->wr.cell? ⟨b,off+k*7+j,none⟩=some v:=λj v hv=>(hk ⟨b,off+k*7+j,none⟩ hb).trans (hcell j v hv);have h1:=hf1.2;have h2:=hf2.2;have h3:=hf3.2;exact⟨b,off,L,kind,neg,top,bot,ch,ins,A1,c1,A2,c2,A3,c3,us3,rfl,hb,hL,Qd ⟨rfl,hl1,hl2,hl3,hins,hw2,hw3,hw1,hf1,hf2,hf3,hnt,hnb⟩,hf1.1,by omega,hf2.1,by omega,hf3.1,by omega,hc 0 _ rfl,hc 1 _ rfl,hc 2 _ rfl,hc 3 _ rfl,hc 4 _ rfl,hc 5 _ rfl,hc 6 _ rfl⟩
theorem IsArr.form {w:World}{B:Nat}{a:Ba}{vs:List Value}(h:IsArr w B a vs):∃(S:Nat) (A:Option Addr) (n c:Nat) (A':Option Addr) (n' c':Nat),vs=[.int .u64 (S:Int),.slice A n c,.slice A' n' c']:=by
 cases a;rw[IsArr] at h;obtain⟨A,c,A',c',us,rfl,_⟩:=h;exact⟨_,_,_,_,_,_,_,rfl⟩
theorem Vb {w wr:World}{B:Nat}{A:Option Addr}{arrs:List Ba}{us:List Value}{k:Nat}(hcs:IsArrs w B arrs us)(hl:Lies w B A us)(hk:∀p:Addr,p.block<B->wr.cell? p=w.cell? p)(hlt:k<arrs.length):
 ∃(b off S':Nat) (X:Option Addr) (n c:Nat) (X':Option Addr) (n' c':Nat),A=some ⟨b,off,none⟩/\b<B/\Hid (IsArr w B arrs[k] [.int .u64 (S':Int),.slice X n c,.slice X' n' c'])/\wr.cell? ⟨b,off+k*3,none⟩=some (.int .u64 (S':Int))/\wr.cell? ⟨b,off+k*3+1,none⟩=some (.slice X n c)/\wr.cell? ⟨b,off+k*3+2,none⟩=some (.slice X' n' c'):=by
 obtain⟨u,hu,hue⟩:=hcs.at_ hlt;obtain⟨b,off,rfl,hb,hcell⟩:=hl.elem hue (by intro h;have:=hu.len;rw[h] at this;cases this);obtain⟨S,X,n,c,X',n',c',rfl⟩:=hu.form;have hc:∀j v,[Value.int .u64 (S:Int),.slice X n c,.slice X' n' c'][j]? =some v->wr.cell? ⟨b,off+k*3+j,none⟩=some v:=λj v hv=>(hk ⟨b,off+k*3+j,none⟩ hb).trans (hcell j v hv);exact⟨b,off,S,X,n,c,X',n',c',rfl,hb,Qd hu,hc 0 _ rfl,hc 1 _ rfl,hc 2 _ rfl⟩
mutual
theorem Gz {w:World}{B:Nat}:∀(a:Ba) (vs:List Value),IsArr w B a vs->Wd a<18446744073709551616
 | .mk S shape cells,vs,h=>by
  rw[IsArr] at h;obtain⟨A,c,A',c',us,h1,h2,h3,h4,h5,h6,h7,h8⟩:=h;exact Yr cells us S h8 h2
theorem Yr {w:World}{B:Nat}:∀(a:List Ha) (vs:List Value) (x:Nat),IsCels w B a vs->x<18446744073709551616->Dd x a<18446744073709551616
 | [],vs,x,h,hx=>by rw[Dd];exact hx
 |c::r,vs,x,h,hx=>by
  rw[IsCels] at h;obtain⟨u,t,h1,h2,h3⟩:=h;rw[Dd];exact Yr r t _ h3 (Kca c u x h2 hx)
theorem Kca {w:World}{B:Nat}:∀(a:Ha) (vs:List Value) (x:Nat),IsCel w B a vs->x<18446744073709551616->Ah x a<18446744073709551616
 | .mk L kind neg top bot ch ins,vs,x,h,hx=>by
  rw[IsCel] at h;obtain⟨A,c,A',c',A2,c2,us,h1,h2,h3,h4,h5,h6,h7,h8,h9,h10,h11,h12⟩:=h;rw[Ah];exact Zr ins us _ h12.1 (Nat.or_lt_two_pow (n:=64) hx h2)
theorem Zr {w:World}{B:Nat}:∀(a:List Ba) (vs:List Value) (x:Nat),IsArrs w B a vs->x<18446744073709551616->Ed x a<18446744073709551616
 | [],vs,x,h,hx=>by rw[Ed];exact hx
 |c::r,vs,x,h,hx=>by
  rw[IsArrs] at h;obtain⟨u,t,h1,h2,h3⟩:=h;rw[Ed];exact Zr r t _ h3 (Nat.or_lt_two_pow (n:=64) hx (Gz c u h2))
end
theorem Rq {S:Nat}{shape:List Int}{cells:List Ha}{k:Nat}(hk:k<cells.length){L:Nat}{kind:Int}{neg:Bool}{top bot:List Nat}{ch:Int}{ins:List Ba}(he:cells[k]= .mk L kind neg top bot ch ins){i:Nat}(hi:i<ins.length):
 SizeOf.sizeOf ins[i]<SizeOf.sizeOf (Ba.mk S shape cells):=by
 have h1:=List.sizeOf_lt_of_mem (List.getElem_mem hi);have h2:=List.sizeOf_lt_of_mem (List.getElem_mem hk);rw[he] at h2;simp only[Ba.mk.sizeOf_spec,Ha.mk.sizeOf_spec] at*;omega
end
theorem Lca (n:Nat)(w:World)(h:n<10):
 Calls Tryz.prog 64 #[.int .i64 (n:Int)] w λe w'=>e= .returned (.string ⟨(Lib.decDigits n).toArray⟩)/\w=w':=by
 have HD:=Qd (Lib.decDigits_one h);have h10:n=0\/n=1\/n=2\/n=3\/n=4\/n=5\/n=6\/n=7\/n=8\/n=9:=by omega
 rcases h10 with rfl |rfl |rfl |rfl |rfl |rfl |rfl |rfl |rfl |rfl
 all_goals
  go_enter Tryz.func64,Tryz.ntmps64
  go_wp2_with fail
  go_ret;exact⟨by rw[HD.out];rfl,rfl⟩
theorem Kb (a b:List UInt8):(⟨a.toArray⟩:ByteArray)++(⟨b.toArray⟩:ByteArray)=⟨(a++b).toArray⟩:=by
 apply ByteArray.ext;simp
theorem Mca:∀(k n:Nat) (w:World),n<k->n<=9223372036854775807->
 Calls Tryz.prog 64 #[.int .i64 (n:Int)] w λe w'=>e= .returned (.string ⟨(Lib.decDigits n).toArray⟩)/\w=w'
 | 0,n,w,h,_=>by omega
 |k+1,n,w,h,hn=>by
  by_cases h10:n<10
  ·exact Lca n w h10
  have HD:Lib.decDigits n=Lib.decDigits (n/10)++Lib.decDigits (n%10):=by
   rw[Ten.dec_big h10,<-Ten.dec_small (by omega:n%10<10)]
  replace HD:=Qd HD;have H1:=Qd (Mca k (n/10) w (by omega) (by omega));have H2:=Qd (Lca (n%10) w (by omega));have hp:=(Ten.dec_len (r:=n/10) (k:=19) (by omega)).2;have hq:=(Ten.dec_len (r:=n%10) (k:=19) (by omega)).2;generalize Lib.decDigits (n/10)=p at HD H1 hp;generalize Lib.decDigits (n%10)=q at HD H2 hq;have e1:((n/10:Nat):Int)=(n:Int)/10:=by omega
  have e2:((n%10:Nat):Int)=(n:Int)%10:=by omega
  rw[e1] at H1;rw[e2] at H2;have s1:(⟨p.toArray⟩:ByteArray).size<=20:=hp;have s2:(⟨q.toArray⟩:ByteArray).size<=20:=hq;clear e1 e2 hp hq;go_enter Tryz.func64,Tryz.ntmps64
  go_wp2_with fail
  refine H1.out.mono ?_;rintro e w' ⟨rfl,rfl⟩;go_wp2_with fail
  refine H2.out.mono ?_;rintro e w' ⟨rfl,rfl⟩;go_wp2_with fail
  go_ret;exact⟨by rw[HD.out,<-Kb];rfl,rfl⟩
theorem Gd (n:Nat)(w:World)(h:n<=9223372036854775807):
 Calls Tryz.prog 64 #[.int .i64 (n:Int)] w λe w'=>e= .returned (.string ⟨(Lib.decDigits n).toArray⟩)/\w=w':=Mca (n+1) n w (by omega) h
theorem Nca (s:List UInt8):(((⟨(Lib.decDigits s.length).toArray⟩:ByteArray)++(⟨#[58]⟩:ByteArray))++(⟨s.toArray⟩:ByteArray))++(⟨#[44]⟩:ByteArray)=⟨(Nw.net s).toArray⟩:=by
 apply ByteArray.ext;unfold Nw.net;simp
theorem Uf (s:List UInt8)(w:World)(hs:s.length<1000000000):
 Calls Tryz.prog 37 #[.string ⟨s.toArray⟩] w λe w'=>e= .returned (.string ⟨(Nw.net s).toArray⟩)/\w=w':=by
 have hsz:(⟨s.toArray⟩:ByteArray).size=s.length:=rfl;have HSZ:=Qd hsz;have DE:=Qd (Gd s.length w (by omega));have hp:=(Ten.dec_len (r:=s.length) (k:=9) (by omega)).2;have HN:=Qd (Nca s);generalize Lib.decDigits s.length=D at*;have q1:¬9223372036854775807<D.length+1:=by omega
 have q2:¬9223372036854775807<D.length+1+s.length:=by omega
 have q3:¬9223372036854775807<D.length+1+s.length+1:=by omega
 go_enter Tryz.func37,Tryz.ntmps37
 go_wp2_with fail
 refine DE.out.mono ?_;rintro e w' ⟨rfl,rfl⟩;go_wp2_with fail
 go_ret;exact⟨by rw[<-HN.out];rfl,rfl⟩
theorem Z7 {s:List UInt8}{k:Nat}(hl:k<=Dg.lead s)(h:k<s.length)(hd:Dg.dB s[k]=true):k+1<=Dg.lead s:=by
 rcases Nat.lt_or_ge k (Dg.lead s) with h1 |h1
 ·omega
 have e:Dg.lead s=k:=by omega
 have:=Dg.lead_not (s:=s) (by omega);simp only[e] at this;rw[hd] at this;cases this
theorem A8 {s:List UInt8}{k:Nat}(hl:k<=Dg.lead s)(h:k<s.length)(hd:Dg.dB s[k]=false):Dg.lead s=k:=by
 rcases Nat.lt_or_ge k (Dg.lead s) with h1 |h1
 ·obtain⟨h2,h3⟩:=Dg.lead_dig h1
  rw[hd] at h3;cases h3
 omega
theorem Q9 {b:UInt8}{y:Nat}(h:y=b.toNat):Dg.dB b=decide (48<=y/\y<=57):=by unfold Dg.dB;rw[h]
def Nw.k7 (s:List UInt8):Nat:=min 7 (Dg.lead s)
structure Nw.DecAt (s:List UInt8) (k n:Nat):Prop where
 le:k<=Dg.lead s
 num:n=Ten.numOf (s.take k)
theorem Yk {s:List UInt8}{k n:Nat}(h:Nw.DecAt s k n)(hk:k<=7):n<10000000:=by
 have h1:=Dg.numOf_lt (s.take k).length (s.take k) rfl (Nw.dig_take h.le);rw[<-h.num] at h1;have h2:(s.take k).length<=7:=by rw[List.length_take];omega
 have h3:(10:Nat)^(s.take k).length<=10^7:=Nat.pow_le_pow_right (by decide) h2;have h4:(10:Nat)^7=10000000:=by decide
 omega
theorem Jf (s:List UInt8)(w:World)(hs:s.length<=1000000):
 Calls Tryz.prog 69 #[.string ⟨s.toArray⟩] w λe w'=>e= .returned (.tuple #[.int .i64 (Ten.numOf (s.take (Nw.k7 s)):Int),.int .i64 (Nw.k7 s:Int)])/\w=w':=by
 have hsz:(⟨s.toArray⟩:ByteArray).size=s.length:=rfl;have HSZ:=Qd hsz;have HR:Hid (∀k n:Nat,Nw.DecAt s k n->Nw.k7 s=k->Ending.returned (.tuple #[.int .i64 (n:Int),.int .i64 (k:Int)])= .returned (.tuple #[.int .i64 (Ten.numOf (s.take (Nw.k7 s)):Int),.int .i64 (Nw.k7 s:Int)])):=Qd (λk n h e=>by rw[e,<-h.num]);go_enter Tryz.func69,Tryz.ntmps69
 go_wp2
 go_loop [4,5] (λa i=>∃k n:Nat,k<=s.length/\k<=7/\n<10000000/\a= .int .i64 (n:Int)/\i= .int .i64 (k:Int)/\Hid (Nw.DecAt s k n)) (λ_ i=>s.length-(intOf i).toNat)
 case atStart=>exact⟨0,0,Nat.zero_le _,Nat.zero_le _,by omega,rfl,rfl,Qd ⟨Nat.zero_le _,by simp[Ten.numOf]⟩⟩
 case round=>
  obtain⟨k,n,hk,hk7,hn,rfl,rfl,H⟩:=hrel;have HR1:=Qd (HR.out k n H.out);by_cases hlt:k<s.length
  ·by_cases h7:k<7
   ·obtain⟨y,hy⟩:∃y,y=s[k].toNat:=⟨_,rfl⟩
    have hgy:((⟨s.toArray⟩:ByteArray)[k]'(show k<(⟨s.toArray⟩:ByteArray).size from hlt)).toNat=y:=hy.symm;have HD:=Qd (Q9 hy);have H2:=Qd (λh=>A8 H.out.le hlt h);have H1:Hid (48<=y->y<=57->Nw.DecAt s (k+1) (10*n+(y-48))):=Qd (λh1 h2=>⟨Z7 H.out.le hlt (by rw[HD.out];exact decide_eq_true ⟨h1,h2⟩),by rw[Nw.take_succ_num hlt,<-H.out.num,<-hy]⟩);clear hy;by_cases h1:48<=y
    ·by_cases h2:y<=57
     ·have h3:=H1.out h1 h2
      have h4:=Yk h3 (by omega);have H3:=Qd h3;have hw1:IntKind.u8.wrap ((y:Int)-48)=((y-48:Nat):Int):=by rw[show(y:Int)-48=((y-48:Nat):Int) by omega];exact IntWalk.u8_in _ (by omega)
      clear h3;go_wp2
      go_round
      case rel=>exact⟨k+1,10*n+(y-48),by omega,by omega,h4,by go_num,by go_num,H3⟩
      case measure=>simp[intOf];omega
     have HE:=Qd (HR1.out (by unfold Nw.k7;rw[H2.out (by rw[HD.out];exact decide_eq_false (by omega))];omega));go_wp2
     go_ret2
     exact⟨HE.out,rfl⟩
    have HE:=Qd (HR1.out (by unfold Nw.k7;rw[H2.out (by rw[HD.out];exact decide_eq_false (by omega))];omega));go_wp2
    go_ret2
    exact⟨HE.out,rfl⟩
   have HE:=Qd (HR1.out (by unfold Nw.k7;have:=H.out.le;omega));go_wp2
   go_ret2
   exact⟨HE.out,rfl⟩
  have HE:=Qd (HR1.out (by unfold Nw.k7;have:=H.out.le;have:=Dg.lead_le s;omega));have e:k=s.length:=by omega
  replace e:=Qd e;go_wp2
  go_ret2
  exact⟨HE.out,rfl⟩
def Blk (w:World)(g:Nat)(t:TypeId)(vs:List Value):Prop:=w.heap[g]? =some (.cells vs.toArray t (0,0))
theorem Blk.lt {w:World}{g:Nat}{t:TypeId}{vs:List Value}(h:Blk w g t vs):g<w.heap.size:=by
 rcases Nat.lt_or_ge g w.heap.size with hl |hl
 ·exact hl
 unfold Blk at h;rw[Array.getElem?_eq_none hl] at h;cases h
theorem Blk.cell {w:World}{g:Nat}{t:TypeId}{vs:List Value}(h:Blk w g t vs){i:Nat}{v:Value}(hi:vs[i]? =some v):w.cell? ⟨g,i,none⟩=some v:=by
 rw[cell_of_row w g i vs.toArray t (0,0) h];simpa using hi
theorem Blk.frozen {w:World}{g:Nat}{t:TypeId}{vs:List Value}(h:Blk w g t vs)(i:Nat):w.frozen? ⟨g,i,none⟩=false:=by
 unfold Blk at h;simp[World.frozen?,h]
theorem Blk.set_ {w:World}{g:Nat}{t:TypeId}{vs:List Value}(h:Blk w g t vs)(i:Nat)(v:Value):Blk (w.setCell ⟨g,i,none⟩ v) g t (vs.set i v):=by
 unfold Blk at h⊢;simp[World.setCell,Array.getElem?_modify,h]
theorem Blk.drewN {w:World}{g:Nat}{t:TypeId}{vs:List Value}(h:Blk w g t vs)(n:Nat):Blk (w.drewN n) g t vs:=h
theorem Blk.keep {w w':World}{g B:Nat}{t:TypeId}{vs:List Value}(h:Blk w g t vs)(hb:Below B w w')(hg:g<B):Blk w' g t vs:=(hb.block g hg).trans h
theorem Blk.new (w:World)(t:TypeId)(vs:List Value):Blk (w.alloc (.cells vs.toArray t)) w.heap.size t vs:=heap_alloc_new w _
theorem Blk.alloc {w:World}{g:Nat}{t:TypeId}{vs:List Value}(h:Blk w g t vs)(o:Obj):Blk (w.alloc o) g t vs:=(Below.heap_alloc w o g h.lt).trans h
theorem Blk.far {w:World}{g:Nat}{t:TypeId}{vs:List Value}(h:Blk w g t vs){p:Addr}(hp:g≠p.block)(v:Value):Blk (w.setCell p v) g t vs:=(Below.heap_setCell w p v g hp).trans h
theorem Blk.own {w:World}{g base n:Nat}{t:TypeId}{vs:List Value}(h:Blk w g t vs)(hb:base<=g)(hn:n<=vs.length)(hm:vs.length<=maxLen):w.ownsRow base t 1 (.slice (some ⟨g,0,none⟩) n vs.length) n (vs.take n):=
 ⟨by simp;omega,.inr ⟨g,vs.length,vs.toArray,rfl,hb,h,hn,hm,by simp,by simp⟩⟩
theorem Blk.own_all {w:World}{g base:Nat}{t:TypeId}{vs:List Value}(h:Blk w g t vs)(hb:base<=g)(hm:vs.length<=maxLen):w.ownsRow base t 1 (.slice (some ⟨g,0,none⟩) vs.length vs.length) vs.length vs:=by
 have:=h.own (n:=vs.length) hb Lr hm;rwa[List.take_length] at this
theorem Blk.lies {w:World}{g:Nat}{t:TypeId}{vs:List Value}(h:Blk w g t vs):Lies w w.heap.size (some ⟨g,0,none⟩) vs:=
 .inr ⟨g,0,rfl,h.lt,λi v hv=>by rw[Nat.zero_add];exact h.cell hv⟩
theorem R9 {w:World}{base n:Nat}{t:TypeId}{v:Value}{xs:List Value}(h:w.ownsRow base t 1 v n xs)(hn:0<n):∃g vs,v= .slice (some ⟨g,0,none⟩) n vs.length/\base<=g/\Blk w g t vs/\vs.take n=xs/\n<=vs.length/\vs.length<=maxLen:=by
 rcases h.2 with⟨_,h0⟩ |⟨g,cap,cur,hv,hb,hh,h1,h2,h3,h4⟩
 ·omega
 rw[Nat.mul_one] at h3 h4;have hl:cur.toList.length=cap:=by simpa using h3
 exact⟨g,cur.toList,by rw[hl];exact hv,hb,by unfold Blk;simpa using hh,h4,by omega,by omega⟩
theorem Sx (z:Value)(n:Nat):(madeCells #[z] n).toList=List.replicate n z:=by
 apply List.ext_getElem?
 intro i;simp only[madeCells,Array.toList_map,Array.toList_range,List.getElem?_map,List.getElem?_replicate];by_cases h:i<n
 ·simp[h,Nat.mod_one]
 simp[h]
theorem Sb {P:Program}(w:World){ops:Array Oper}{rest:List Oper}{o:Oper}{a:Act}{Q:Exit->Act->World->Prop}
 (hg:o.guard=none) (l c:Operand) (t:TypeId) (hop:o.op=Op.makeSlice t l c)
 (e:TypeId) (i:TypeInfo) (z:Value) (h1:P.underlying t=some (.slice e)) (h2:P.info? e=some i) (h3:i.zero=some z) (h4:i.size=1) (hz:z.cells= #[z])
 (kl kc:IntKind) (L C:Int) (n m:Nat) (hl:a.eval l= .int kl L) (hc:a.eval c= .int kc C) (hL:L=(n:Int)) (hC:C=(m:Int)) (hnm:n<=m) (b2:i.bytes*m<=281474976710656) (b3:m<=9223372036854775807)
 (B:Nat) (w0:World) (hb:Below B w0 w) (hB:B<=w.heap.size)
 (hK:∀w',Blk w' w.heap.size e (List.replicate m z)->Below B w0 w'->Below w.heap.size w w'->w.heap.size<w'.heap.size->wpList P ops Q rest (a.put o.dst (.slice (some ⟨w.heap.size,0,none⟩) n m)) w'):
 wpList P ops Q (o::rest) a w:=by
 refine wpList_plain hg λK hK'=>?_;subst hL hC;have hrun:=run_make (P:=P) w t e i z h1 h2 h3 kl kc n m (by omega) (by omega) (by rw[<-Int.natCast_mul];omega) (by omega);simp only[Int.toNat_natCast,h4,Nat.mul_one,hz] at hrun;unfold Oper.wp;simp[execOp,hop,hl,hc,hrun,Result.andThen];refine hK' _ _ (hK _ ?_ (hb.alloc hB _) (Br.alloc Lr _) (by simp));rw[show madeCells #[z] m=(List.replicate m z).toArray from Array.toList_inj.1 (by rw[Sx])];exact Blk.new w e (List.replicate m z)
theorem Dh {a w:World}{g:Nat}(h:a.grownBy w (some g))(i:Nat)(v:Value):a.grownBy (w.setCell ⟨g,i,none⟩ v) (some g):=
 ⟨h.os,h.tape,h.output,by simpa [World.setCell] using h.size,λk hk hne=>(Below.heap_setCell w ⟨g,i,none⟩ v k (λe=>hne (by rw[e]))).trans (h.block k hk hne)⟩
theorem Blk.grown {w w':World}{g:Nat}{t:TypeId}{vs:List Value}{row:Option Nat}(h:Blk w g t vs)(hg:w.grownBy w' row)(hne:some g≠row):Blk w' g t vs:=(hg.block g h.lt hne).trans h
theorem Lies.grown {w w':World}{B:Nat}{A:Option Addr}{vs:List Value}{row:Option Nat}(h:Lies w B A vs)(hB:B<=w.heap.size)(hg:w.grownBy w' row)(hr:∀g,row=some g->B<=g):Lies w' B A vs:=
 h.keep λp hp=>World.cell?_of_block (hg.block p.block (by omega) (λe=>by have:=hr _ e.symm;omega))
end Go.Proofs.YtmiccalfamepdaaGreatDoor
namespace Go.Proofs
open Go.Shelf
def Td:Go.Shelf.Ren:=⟨λ | 166=>27 | 240=>54 | 276=>84 |n=>n,λ | 70=>49 | 3=>3 | 0=>0 | 4=>4 | 9=>9 | 20=>20 | 72=>52 | 37=>50 | 164=>118 | 5=>5 | 75=>54 | 80=>61 |n=>n,λ |n=>n⟩
theorem Va:Go.Proofs.Lays.n166 Tryz.prog Td:={
 mixed:=by kernel_rfl
 f166:=Tryz.func27.trans (congrArg some (by kernel_rfl))
 f240:=Tryz.func54.trans (congrArg some (by kernel_rfl))
 f276:=Tryz.func84.trans (congrArg some (by kernel_rfl))
 t0:=Tryz.underlying0
 a0:=Tryz.isAgg0
 z0:=Tryz.sizeOf0
 v0:=Tryz.zeroValue0
 t3:=Tryz.underlying3
 a3:=Tryz.isAgg3
 z3:=Tryz.sizeOf3
 v3:=Tryz.zeroValue3
 t4:=Tryz.underlying4
 a4:=Tryz.isAgg4
 z4:=Tryz.sizeOf4
 v4:=Tryz.zeroValue4
 t9:=Tryz.underlying9
 a9:=Tryz.isAgg9
 z9:=Tryz.sizeOf9
 v9:=Tryz.zeroValue9
 t20:=Tryz.underlying20
 a20:=Tryz.isAgg20
 z20:=Tryz.sizeOf20
 v20:=Tryz.zeroValue20
 t37:=Tryz.underlying50
 a37:=Tryz.isAgg50
 z37:=Tryz.sizeOf50
 v37:=Tryz.zeroValue50
 t70:=Tryz.underlying49
 a70:=Tryz.isAgg49
 z70:=Tryz.sizeOf49
 v70:=Tryz.zeroValue49
 t72:=Tryz.underlying52
 a72:=Tryz.isAgg52
 z72:=Tryz.sizeOf52
 v72:=Tryz.zeroValue52
 t75:=Tryz.underlying54
 a75:=Tryz.isAgg54
 z75:=Tryz.sizeOf54
 v75:=Tryz.zeroValue54
 t164:=Tryz.underlying118
 a164:=Tryz.isAgg118
 z164:=Tryz.sizeOf118
 v164:=Tryz.zeroValue118}
theorem Ra:Builder.Extra Tryz.prog Td:={
 sizeBuilder:=by kernel_rfl
 liesBuilder:=by kernel_rfl
 t5:=Tryz.underlying5
 a5:=Tryz.isAgg5
 z5:=Tryz.sizeOf5
 v5:=Tryz.zeroValue5
 infoByte:=by kernel_rfl
 cellsByte:=by kernel_rfl
 sizeByte:=by kernel_rfl
 neB5:=by decide}
namespace YtmiccalfamepdaaGreatDoor
open Go.RowKit
theorem Vf (B b:Nat)(bs:List Value)(s:ByteArray)(w:World)(h:Lib.IsBuilder 52 5 B b bs w)(hlen:bs.length+s.size<=140737488355328)(hBw:B<=w.heap.size):
 Calls Tryz.prog 27 #[.pointer (some ⟨b,0,none⟩),.string s] w λe w'=>e= .returned (.tuple #[.int .i64 s.size,.nilIface])/\(Lib.BuilderAt 52 5 B b (.pointer (some ⟨b,0,none⟩)) (bs++Lib.strCells s) w'/\Below B w w'):=Any.Builder_WriteString Va Ra B b bs s w h hlen hBw
end YtmiccalfamepdaaGreatDoor
end Go.Proofs
namespace Go.Proofs.YtmiccalfamepdaaGreatDoor
open Go.RowKit
theorem Ko (B b:Nat)(l s:List UInt8)(w:World)(h:Lib.IsBuilderF 52 5 B b (Lib.byteCells l) w)(hlen:l.length+s.length<=140737488355328)(hBw:B<=w.heap.size):
 Calls Tryz.prog 27 #[.pointer (some ⟨b,0,none⟩),.string ⟨s.toArray⟩] w λe w'=>(∃v,e= .returned v)/\Lib.IsBuilderF 52 5 B b (Lib.byteCells (l++s)) w'/\Below B w w':=by
 refine(Any.Builder_WriteString_k Va Ra B b _ ⟨s.toArray⟩ w h (by rw[Lib.byteCells_length];exact hlen) hBw).mono ?_;rintro e w' ⟨he,hbd,hb,-⟩;exact⟨⟨_,he⟩,.inr (by rw[Lib.byteCells_append];exact hbd),hb⟩
theorem Mb {w w':World}{T e:TypeId}{B b:Nat}{bs:List Value}(h:Lib.IsBuilderF T e B b bs w)(hb:Below w.heap.size w w'):Lib.IsBuilderF T e B b bs w':=by
 have one:∀{p:Value},Lib.BuilderAtF T e B b p bs w->Lib.BuilderAtF T e B b p bs w':=λ{p} k=>by
  obtain⟨h1,v,h2,h3,h4⟩:=k;refine⟨h1,v,(hb.block b (Array.getElem?_eq_some_iff.1 h2).1).trans h2,⟨h3.1,?_⟩,h4⟩;rcases h3.2 with h0 |⟨g,cap,cur,fz,e1,e2,e3,r⟩
  ·exact .inl h0
  exact .inr ⟨g,cap,cur,fz,e1,e2,(hb.block g (Array.getElem?_eq_some_iff.1 e3).1).trans e3,r⟩
 exact h.imp one one
theorem Sq (w:World):Lib.IsBuilderF 52 5 w.heap.size w.heap.size (Lib.byteCells []) (w.alloc (.cells #[.pointer none,.slice none 0 0] 52)):=
 Lib.IsBuilderF.of (.inl ⟨Lr,.slice none 0 0,heap_alloc_new w _,World.ownsRow_nil _ _ _ _,by simp[Value.ownBlock]⟩)
end Go.Proofs.YtmiccalfamepdaaGreatDoor
