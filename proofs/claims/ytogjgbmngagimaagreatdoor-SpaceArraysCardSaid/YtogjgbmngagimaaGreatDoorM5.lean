/- Texts of this proof, joined. -/
import Derived.Test.YtogjgbmngagimaaGreatDoorM4
import Derived.Lib.ItoaNum
import Derived.Lib.Join
import Derived.Lib.Bytealg
import Derived.Lib.Strings
import Derived.Lib.AtoiTie
import Derived.RangeFuncFrom
import Derived.RangeFuncCalls
set_option linter.all false
set_option maxHeartbeats 8000000
set_option maxRecDepth 100000
namespace Go.Proofs.YtogjgbmngagimaaGreatDoor
section
namespace Nw
open Ten Dg
def net (s:List UInt8):List UInt8:=Lib.decDigits s.length++(58::(s++[44]))
def after (s:List UInt8)(k n:Nat):Option (List UInt8×List UInt8):=
 if k=0 then none else if s.length<=k then none else if s.getD k 0≠58 then none else if s.length-(k+1)<=n then none else if s.getD (k+1+n) 0≠44 then none else
  some ((s.drop (k+1)).take n,s.drop (k+1+n+1))
def cut (s:List UInt8):Option (List UInt8×List UInt8):=if Lib.decDigits (numOf (s.take (lead s)))=s.take (lead s) then after s (lead s) (numOf (s.take (lead s))) else none
theorem after_T {s:List UInt8}{k n:Nat}(h0:k≠0)(hk:k<s.length)(h:s.getD k 0=58):after s k n=if(s.drop (k+1)).length<=n then none else if(s.drop (k+1)).getD n 0≠44 then none else some ((s.drop (k+1)).take n,(s.drop (k+1)).drop (n+1)):=by
 unfold after;rw[if_neg h0,if_neg (by omega),if_neg (λe=>e h),List.length_drop,List.drop_drop];have e:(s.drop (k+1)).getD n 0=s.getD (k+1+n) 0:=by rw[List.getD_eq_getElem?_getD,List.getElem?_drop,List.getD_eq_getElem?_getD]
 rw[e];rfl
theorem dig_take {s:List UInt8}{k:Nat}(h:k<=lead s):∀b∈s.take k,isDig b:=λb hb=>lead_take b (List.mem_of_mem_take (show b∈(s.take (lead s)).take k by rwa[List.take_take,Nat.min_eq_left h]))
theorem take_succ_num {s:List UInt8}{k:Nat}(hk:k<s.length):numOf (s.take (k+1))=10*numOf (s.take k)+(s[k].toNat-48):=by
 rw[List.take_succ_eq_append_getElem hk,numOf_snoc]
theorem Fg {s:List UInt8}:∀{j k:Nat},j<=k->numOf (s.take j)<=numOf (s.take k):=by
 intro j k h
 induction k with
 |zero=>
  have:j=0:=by omega
  rw[this];exact Lr
 |succ k ih=>
  by_cases e:j=k+1
  ·subst e;exact Lr
  have:=ih (by omega);by_cases hk:k<s.length
  ·rw[take_succ_num hk];omega
  rw[List.take_of_length_le (by omega:s.length<=k+1)];rwa[List.take_of_length_le (by omega:s.length<=k)] at this
theorem cut_big {s:List UInt8}{k:Nat}(hk:k<=lead s)(h:s.length<numOf (s.take k)):cut s=none:=by
 unfold cut
 split
 ·have:=Fg (s:=s) hk
  unfold after
  split<;>first|rfl |skip
  split<;>first|rfl |skip
  split<;>first|rfl |skip
  rw[if_pos (by omega)]
 rfl
theorem cut_zero {s:List UInt8}{k:Nat}(hk:k<=lead s)(h1:1<k)(h:numOf (s.take k)<10):cut s=none:=by
 unfold cut;rw[if_neg];intro e;have hl:=lead_le s;have hv:Valid (s.take (lead s)):=by rw[<-e];exact(dec_valid _).1
 have h48:=hv.2.1 (by rw[List.length_take];omega);obtain⟨b,r,hbr⟩:∃b r,s=b::r:=by
  cases s with
  |nil=>simp at hl;omega
  |cons b r=>exact⟨b,r,rfl⟩
 have hb:b≠48:=by
  intro e';apply h48
  rw[hbr,e',show lead (48::r)=(lead (48::r)-1)+1 by rw[<-e',<-hbr];omega];rfl
 have hd:=dig_take hk b (by rw[hbr,show k=(k-1)+1 by omega];exact List.mem_cons_self);have h2:numOf (s.take 2)<=numOf (s.take k):=Fg (by omega);have h3:numOf (s.take 1)=b.toNat-48:=by rw[hbr];simp[numOf]
 have h4:=take_succ_num (s:=s) (k:=1) (by omega);rw[h3] at h4;have hd1:=hd.1;have:b.toNat≠48:=λe'=>hb (UInt8.toNat_inj.1 e');have h5:numOf (s.take (1+1))=numOf (s.take 2):=rfl;omega
theorem cut_read {s:List UInt8}(hz:1<lead s->10<=numOf (s.take 2)):cut s=after s (lead s) (numOf (s.take (lead s))):=by
 by_cases h0:lead s=0
 ·unfold cut after
  rw[if_pos h0];split<;>rfl
 unfold cut;rw[if_pos];have hl:=lead_le s;refine parse_text ⟨?_,?_,lead_take⟩
 ·intro e;rw[List.take_eq_nil_iff] at e;rcases e with e |e
  ·exact h0 e
  subst e;simp at hl;exact h0 hl
 intro h1 h48;rw[List.length_take,Nat.min_eq_left hl] at h1;have h10:=hz h1;have h4:=take_succ_num (s:=s) (k:=1) (by omega);have h5:numOf (s.take (1+1))=numOf (s.take 2):=rfl;have hd:=dig_take (s:=s) (k:=2) (by omega) s[1] (by rw[List.mem_take_iff_getElem];exact⟨1,by omega,rfl⟩);have hd2:=hd.2;have h6:numOf (s.take 1)=0:=by
  cases hs:s with
  |nil=>simp[numOf]
  |cons b r=>
   rw[hs] at h48 h1;rw[show lead (b::r)=(lead (b::r)-1)+1 by omega] at h48;simp at h48;subst h48;simp[numOf]
 omega
theorem cut_net (s t:List UInt8):cut (net s++t)=some (s,t):=by
 obtain⟨D,hD⟩:∃D,D=Lib.decDigits s.length:=⟨_,rfl⟩;have hnum:numOf D=s.length:=by rw[hD];exact(dec_valid _).2
 have hdig:∀i (hi:i<D.length),dB D[i]=true:=by subst hD;exact λi hi=>dec_dB _ i hi
 have hpos:0<D.length:=by rw[hD];exact dec_pos _
 have he:net s++t=D++58::(s++44::t):=by unfold net;rw[<-hD];simp
 have hlead:lead (net s++t)=D.length:=by
  rw[he];refine lead_at (by simp) (λi hi hk=>?_) ?_
  ·rw[List.getElem_append_left hk];exact hdig i hk
  rw[List.getElem_append_right Lr];simp;decide
 have htake:(net s++t).take D.length=D:=by rw[he,List.take_append_of_le_length Lr,List.take_length]
 unfold cut;rw[hlead,htake,hnum,if_pos hD.symm];unfold after;have hlen:(net s++t).length=D.length+(1+(s.length+(1+t.length))):=by rw[he];simp;omega
 have hg1:(net s++t).getD D.length 0=58:=by rw[he,List.getD_eq_getElem?_getD,List.getElem?_append_right Lr];simp
 have hdrop:(net s++t).drop (D.length+1)=s++44::t:=by
  rw[he,List.drop_append,List.drop_eq_nil_of_le (by omega),List.nil_append,Nat.add_sub_cancel_left];rfl
 have hg2:(net s++t).getD (D.length+1+s.length) 0=44:=by
  have:((net s++t).drop (D.length+1))[s.length]? =some 44:=by rw[hdrop,List.getElem?_append_right Lr];simp
  rw[List.getElem?_drop] at this;rw[List.getD_eq_getElem?_getD,this];rfl
 rw[if_neg (by omega),if_neg (by omega),if_neg (by rw[hg1];decide),if_neg (by omega),if_neg (by rw[hg2];decide)];have hd2:(net s++t).drop (D.length+1+s.length+1)=t:=by
  rw[Nat.add_assoc (D.length+1),<-List.drop_drop,hdrop,List.drop_append,List.drop_eq_nil_of_le (by omega),List.nil_append,Nat.add_sub_cancel_left];rfl
 rw[hd2,hdrop,List.take_append_of_le_length Lr,List.take_length]
theorem V0 {s:List UInt8}(h:s.length<1000000)(hl:7<lead s):cut s=none:=by
 by_cases h10:numOf (s.take 2)<10
 ·exact cut_zero (k:=2) (by omega) (by omega) h10
 have hll:=lead_le s;have hs:∀k,k+2<=s.length->10^(k+1)<=numOf (s.take (k+2)):=by
  intro k
  induction k with
  |zero=>intro _;simpa using Nat.not_lt.1 h10
  |succ k ih=>
   intro hk;have h1:=ih (by omega);have h2:=take_succ_num (s:=s) (k:=k+2) (by omega);rw[show k+1+2=k+2+1 by omega,h2,Nat.pow_succ];omega
 have h7:10^(5+1)<=numOf (s.take 7):=hs 5 (by omega);have h8:(10:Nat)^(5+1)=1000000:=by decide
 rw[h8] at h7;exact cut_big (k:=7) (by omega) (by omega)
end Nw
end
end Go.Proofs.YtogjgbmngagimaaGreatDoor
namespace Lab
def sumBits (p:Nat->Bool):Nat->Nat
 | 0=>0
 |n+1=>sumBits p n+if p n then 2^n else 0
theorem sumBits_lt (p:Nat->Bool):∀n,sumBits p n<2^n
 | 0=>by simp[sumBits]
 |n+1=>by
  have:=sumBits_lt p n;rw[sumBits,Nat.pow_succ]
  split<;>omega
theorem Gg (p:Nat->Bool):∀n i,(sumBits p n).testBit i=(decide (i<n)&&p i)
 | 0,i=>by simp[sumBits]
 |n+1,i=>by
  have hlt:=sumBits_lt p n;have ih:=Gg p n;have e:sumBits p (n+1)=2^n*(if p n then 1 else 0)+sumBits p n:=by
   rw[sumBits];split<;>simp[Nat.add_comm]
  rw[e,Nat.testBit_two_pow_mul_add _ hlt];by_cases h:i<n
  ·simp[h,ih,Nat.lt_succ_of_lt h]
  rw[if_neg h];by_cases h2:i=n
  ·subst h2;cases hp:p i<;>simp
  have h3:¬i<n+1:=by omega
  have h4:i-n≠0:=by omega
  cases p n
  ·simp[h3]
  simp only[if_true,h3,decide_false,Bool.false_and];exact Nat.testBit_lt_two_pow (Nat.lt_of_lt_of_le (by decide) (Nat.pow_le_pow_right (n:=2) (i:=1) (by decide) (by omega)))
theorem Py {p:Nat->Bool}{n x:Nat}(hx:x<2^n)(h:∀i,i<n->p i=x.testBit i):sumBits p n=x:=by
 apply Nat.eq_of_testBit_eq
 intro i;rw[Gg];by_cases hi:i<n
 ·simp[hi,h i hi]
 simp[hi];exact Nat.testBit_lt_two_pow (Nat.lt_of_lt_of_le hx (Nat.pow_le_pow_right (by decide) (Nat.le_of_not_lt hi)))
def bit (t:Nat):Nat:=2^t
def join (a b:Nat):Nat:=a|||b
def Qda (a b:Nat):Bool:=(a|||b)==b
theorem join_lt {a b:Nat}(ha:a<18446744073709551616)(hb:b<18446744073709551616):join a b<18446744073709551616:=Nat.or_lt_two_pow (n:=64) ha hb
theorem Yd {x i:Nat}(hx:x<18446744073709551616)(hi:64<=i):x.testBit i=false:=
 Nat.testBit_lt_two_pow (Nat.lt_of_lt_of_le (show x<2^64 from hx) (Nat.pow_le_pow_right (by decide) hi))
theorem sum_join {a b:Nat}(ha:a<18446744073709551616)(hb:b<18446744073709551616):sumBits (λt=>a.testBit t||b.testBit t) 64=join a b:=
 Py (join_lt ha hb) λi _=>by simp[join]
theorem bit_lt {t:Nat}(h:t<64):(2:Nat)^t<18446744073709551616:=Nat.lt_of_le_of_lt (Nat.pow_le_pow_right (by decide) (show t<=63 by omega)) (by decide)
def tags (l:Nat):List Nat:=(List.range 64).filter λt=>l.testBit t
theorem Us {p:Nat->Bool}{k:Nat}(hlt:∀i,i<k->p i=false)(hk:p k=true)(n:Nat):
 (List.range n).filter p=(if k<n then[k] else[])++(List.range n).filter λi=>p i&&(i !=k):=by
 have none_:∀(q:Nat->Bool) (m:Nat),(∀i,i<m->q i=false)->(List.range m).filter q=[]:=λq m h=>by
  rw[List.filter_eq_nil_iff];intro a ha;simp[h a (List.mem_range.1 ha)]
 induction n with
 |zero=>simp
 |succ n ih=>
  rw[List.range_succ,List.filter_append,List.filter_append];rcases Nat.lt_trichotomy n k with h |h |h
  ·rw[ih,if_neg (by omega),if_neg (by omega)]
   simp[hlt n h]
  ·subst h
   rw[none_ p n hlt,none_ _ n (λi hi=>by simp[hlt i hi]),if_pos (by omega)];simp[hk]
  rw[ih,if_pos h,if_pos (by omega),List.append_assoc]
  congr 2
  simp[List.filter_cons,show n≠k by omega]
theorem Uf (k m i:Nat):(2^k*(2*m+1)).testBit i=if i<k+1 then decide (k=i) else m.testBit (i-(k+1)):=by
 have e:2^k*(2*m+1)=2^(k+1)*m+2^k:=by rw[Nat.pow_succ,Nat.mul_add,Nat.mul_one,Nat.mul_assoc]
 rw[e,Nat.testBit_two_pow_mul_add _ (by rw[Nat.pow_succ];have:=Nat.two_pow_pos k;omega),Nat.testBit_two_pow]
theorem Vs (k m i:Nat):(2^k*(2*m+1)-1).testBit i=if i<k+1 then decide (i<k) else m.testBit (i-(k+1)):=by
 have hp:=Nat.two_pow_pos k;have e:2^k*(2*m+1)-1=2^(k+1)*m+(2^k-1):=by
  have:2^k*(2*m+1)=2^(k+1)*m+2^k:=by rw[Nat.pow_succ,Nat.mul_add,Nat.mul_one,Nat.mul_assoc]
  omega
 rw[e,Nat.testBit_two_pow_mul_add _ (by rw[Nat.pow_succ];omega),Nat.testBit_two_pow_sub_one]
theorem tags_step {l k m:Nat}(hl:l=2^k*(2*m+1))(hk:k<64):tags l=k::tags (l&&&(l-1)):=by
 have h:=Us (p:=λt=>l.testBit t) (k:=k) (λi hi=>by
  show l.testBit i=false;rw[hl,Uf,if_pos (by omega)];simp;omega) (by
  show l.testBit k=true;rw[hl,Uf,if_pos (by omega)];simp) 64
 unfold tags;rw[h,if_pos hk];show k::_=_
 congr 1
 apply List.filter_congr
 intro i _;rw[Nat.testBit_and];subst hl;rw[Uf,Vs]
 split
 ·by_cases e:k=i
  ·subst e;simp
  simp[e]
 have:(i !=k)=true:=by simp;omega
 simp[this]
theorem tags_zero:tags 0=[]:=by simp[tags]
theorem tags_len (l:Nat):(tags l).length<=64:=by
 have:=List.length_filter_le (λt=>l.testBit t) (List.range 64)
 simpa [tags] using this
theorem and_pred_lt {l:Nat}(h:l≠0):l&&&(l-1)<l:=Nat.lt_of_le_of_lt Nat.and_le_right (by omega)
end Lab
namespace Lab
open Go
def Hd (l:Nat):Nat->Nat->Nat
 | 0,t=>t
 |f+1,t=>if l.testBit (t+1) then Hd l f (t+1) else t
def last (l t:Nat):Nat:=Hd l 64 t
theorem W0 (l f:Nat):∀t,t<=Hd l f t:=by
 induction f with
 |zero=>intro t;exact Lr
 |succ f ih=>
  intro t;unfold Hd
  split
  ·have:=ih (t+1);omega
  exact Lr
theorem Nv (l f:Nat):∀t,l.testBit t=true->∀i,t<=i->i<=Hd l f t->l.testBit i=true:=by
 induction f with
 |zero=>intro t ht i h1 h2;rw[show i=t from by unfold Hd at h2;omega];exact ht
 |succ f ih=>
  intro t ht i h1 h2;unfold Hd at h2
  split at h2
  ·rename_i hb
   by_cases e:i=t
   ·rw[e];exact ht
   exact ih (t+1) hb i (by omega) h2
  rw[show i=t from by omega];exact ht
theorem Ov {l:Nat}(hl:l<18446744073709551616)(f:Nat):∀t,64<=t+1+f->l.testBit (Hd l f t+1)=false:=by
 induction f with
 |zero=>intro t h;unfold Hd;exact Yd hl (by omega)
 |succ f ih=>
  intro t h;unfold Hd
  split
  ·exact ih (t+1) (by omega)
  rename_i hb;simpa using hb
theorem last_ge (l t:Nat):t<=last l t:=W0 l 64 t
theorem last_bits {l t:Nat}(ht:l.testBit t=true):∀i,t<=i->i<=last l t->l.testBit i=true:=Nv l 64 t ht
theorem last_stop {l t:Nat}(hl:l<18446744073709551616):l.testBit (last l t+1)=false:=Ov hl 64 t (by omega)
theorem Oo {l t:Nat}(hl:l<18446744073709551616)(ht:l.testBit t=true):t<64:=by
 rcases Nat.lt_or_ge t 64 with h |h
 ·exact h
 rw[Yd hl h] at ht;cases ht
theorem last_lt {l t:Nat}(hl:l<18446744073709551616)(ht:l.testBit t=true):last l t<64:=Oo hl (last_bits ht _ (last_ge l t) Lr)
def runs (l p:Nat):List (Nat×Nat):=
 if _:p<64 then if l.testBit p then(p,last l p)::runs l (last l p+1) else runs l (p+1) else[]
termination_by 64-p
decreasing_by
 ·have:=last_ge l p;omega
 omega
def tagsFrom (l p:Nat):List Nat:=(List.range' p (64-p)).filter λt=>l.testBit t
theorem tags_from (l:Nat):tags l=tagsFrom l 0:=by unfold tags tagsFrom;rw[List.range_eq_range']
theorem Ws {l p:Nat}(h:64<=p):tagsFrom l p=[]:=by
 unfold tagsFrom;rw[show 64-p=0 from by omega];rfl
theorem Ji {l p:Nat}(h:p<64):tagsFrom l p=(if l.testBit p then[p] else[])++tagsFrom l (p+1):=by
 unfold tagsFrom;rw[show 64-p=(64-(p+1))+1 from by omega,List.range'_succ,List.filter_cons]
 split<;>simp
theorem Nd {l p:Nat}(h:p<64)(hb:l.testBit p=true):tagsFrom l p=p::tagsFrom l (p+1):=by rw[Ji h,if_pos hb];rfl
theorem Ki {l p:Nat}(h:p<64)(hb:l.testBit p=false):tagsFrom l p=tagsFrom l (p+1):=by rw[Ji h,hb];rfl
theorem Pv {l p:Nat}:∀t∈tagsFrom l p,p<=t/\t<64/\l.testBit t=true:=by
 intro t ht;simp only[tagsFrom,List.mem_filter,List.mem_range'_1] at ht;exact⟨ht.1.1,by omega,ht.2⟩
theorem T5 {l:Nat}:∀(n p:Nat),64-p=n->tagsFrom l p=[]->runs l p=[]:=by
 intro n
 induction n with
 |zero=>intro p hp _;rw[runs,dif_neg (by omega)]
 |succ n ih=>
  intro p hp h;have hlt:p<64:=by omega
  cases hb:l.testBit p
  ·rw[runs,dif_pos hlt,if_neg (by simp[hb])]
   exact ih (p+1) (by omega) (by rw[<-Ki hlt hb];exact h)
  rw[Nd hlt hb] at h;cases h
theorem Yp {l:Nat}{t:Nat}{r:List Nat}:∀(n p:Nat),64-p=n->tagsFrom l p=t::r->t<64/\l.testBit t=true/\tagsFrom l t=t::r/\runs l p=(t,last l t)::runs l (last l t+1):=by
 intro n
 induction n with
 |zero=>intro p hp h;rw[Ws (by omega)] at h;cases h
 |succ n ih=>
  intro p hp h;have hlt:p<64:=by omega
  cases hb:l.testBit p
  ·have:=ih (p+1) (by omega) (by rw[<-Ki hlt hb];exact h)
   rw[runs,dif_pos hlt,if_neg (by simp[hb])];exact this
  have h2:=h;rw[Nd hlt hb] at h2;injection h2 with e1 e2
  subst e1;exact⟨hlt,hb,h,by rw[runs,dif_pos hlt,if_pos hb]⟩
def piece (r:Nat×Nat):List (List UInt8):=
 if r.2=r.1 then[Lib.decDigits r.1] else if r.2=r.1+1 then[Lib.decDigits r.1,Lib.decDigits r.2] else[Lib.decDigits r.1++45::Lib.decDigits r.2]
def pieces (l p:Nat):List (List UInt8):=(runs l p).flatMap piece
def text (l:Nat):List UInt8:=123::(Lib.join (pieces l 0) [44]++[125])
theorem dec_len {n:Nat}(h:n<64):1<=(Lib.decDigits n).length/\(Lib.decDigits n).length<=2:=by
 by_cases h10:n<10
 ·rw[Lib.decDigits_one h10];simp
 rw[Lib.decDigits_two h10 (by omega)];simp
theorem X0 {r:Nat×Nat}(h1:r.1<64)(h2:r.2<64):∀x∈piece r,1<=x.length/\x.length<=5:=by
 intro x hx;have a:=dec_len h1;have b:=dec_len h2;unfold piece at hx
 split at hx
 ·simp at hx;subst hx;omega
 split at hx
 ·simp at hx;rcases hx with rfl |rfl<;>omega
 simp at hx;subst hx;simp;omega
theorem Qh {l:Nat}(hl:l<18446744073709551616):∀(n p:Nat),64-p<=n->∀r∈runs l p,p<=r.1/\r.1<=r.2/\r.2<64:=by
 intro n
 induction n with
 |zero=>intro p hp r hr;rw[runs,dif_neg (by omega)] at hr;cases hr
 |succ n ih=>
  intro p hp r hr;by_cases hlt:p<64
  ·have hge:=last_ge l p
   rw[runs,dif_pos hlt] at hr
   split at hr
   ·rename_i hb
    rcases List.mem_cons.1 hr with rfl |hr
    ·exact⟨Lr,hge,last_lt hl hb⟩
    have:=ih _ (by omega) r hr;exact⟨by omega,this.2⟩
   have:=ih _ (by omega) r hr;exact⟨by omega,this.2⟩
  rw[runs,dif_neg hlt] at hr;cases hr
theorem pieces_len {l:Nat}(hl:l<18446744073709551616)(p:Nat):∀x∈pieces l p,1<=x.length/\x.length<=5:=by
 intro x hx;obtain⟨r,hr,hx⟩:=List.mem_flatMap.1 hx;have:=Qh hl 64 p (by omega) r hr;exact X0 (by omega) (by omega) x hx
theorem join_snoc (ps:List (List UInt8))(x sep:List UInt8):Lib.join (ps++[x]) sep=if ps=[] then x else Lib.join ps sep++(sep++x):=by
 cases ps with
 |nil=>simp[Lib.join_one]
 |cons y r=>
  rw[if_neg (by simp),List.cons_append,Lib.join_cons,Lib.join_cons];simp[Lib.joinTail]
theorem join_len_le (ps:List (List UInt8))(h:∀x∈ps,x.length<=5):(Lib.join ps [44]).length<=6*ps.length:=by
 have key:∀ps:List (List UInt8),(∀x∈ps,x.length<=5)->(Lib.joinTail [44] ps).length<=6*ps.length:=by
  intro ps
  induction ps with
  |nil=>intro _;simp[Lib.joinTail]
  |cons y r ih=>
   intro h;have h1:=ih (λx hx=>h x (List.mem_cons_of_mem _ hx));have h2:=h y List.mem_cons_self;simp only[Lib.joinTail,List.map_cons,List.flatten_cons,List.length_append,List.length_cons,List.length_nil] at h1⊢;omega
 cases ps with
 |nil=>simp[Lib.join_nil]
 |cons y r=>
  have h1:=key r (λx hx=>h x (List.mem_cons_of_mem _ hx));have h2:=h y List.mem_cons_self;rw[Lib.join_cons,List.length_append,List.length_cons];omega
theorem join_eq_nil {ps:List (List UInt8)}(h:∀x∈ps,1<=x.length):Lib.join ps [44]=[]↔ps=[]:=by
 cases ps with
 |nil=>simp[Lib.join_nil]
 |cons y r=>
  have:=h y List.mem_cons_self;rw[Lib.join_cons]
  constructor
  ·intro e
   have:=congrArg List.length e;rw[List.length_append,List.length_nil] at this;omega
  intro e;cases e
theorem Gf {α:Type}{xs:List α}{i:Nat}{x:α}{r:List α}(h:xs.drop i=x::r):xs[i]? =some x/\xs.drop (i+1)=r/\i<xs.length:=by
 have h0:(xs.drop i)[0]? =some x:=by rw[h];rfl
 have hlt:i<xs.length:=by
  rcases Nat.lt_or_ge i xs.length with h1 |h1
  ·exact h1
  rw[List.drop_eq_nil_of_le h1] at h;cases h
 refine⟨by simpa using h0,?_,hlt⟩;rw[show i+1=i+1 from rfl,<-List.drop_drop,h];rfl
theorem run_at {l i t:Nat}(hl:l<18446744073709551616)(ht:l.testBit t=true)(h:(tags l).drop i=tagsFrom l t):
 ∀d,t+d<=last l t->(tags l).drop (i+d)=tagsFrom l (t+d)/\(tags l)[i+d]? =some (t+d)/\(tags l).drop (i+d+1)=tagsFrom l (t+d+1)/\i+d<(tags l).length:=by
 intro d
 induction d with
 |zero=>
  intro _;have h2:=h;rw[Nd (Oo hl ht) ht] at h2;obtain⟨a,b,c⟩:=Gf h2;exact⟨h,a,b,c⟩
 |succ d ih=>
  intro hd;obtain⟨_,_,h3,_⟩:=ih (by omega);have hb:=last_bits ht (t+d+1) (by omega) (by omega);have h4:=h3;rw[Nd (Oo hl hb) hb] at h4;obtain⟨a,b,c⟩:=Gf h4;exact⟨h3,a,b,c⟩
theorem run_stop {l i t d:Nat}(hl:l<18446744073709551616)(ht:l.testBit t=true)(h:(tags l).drop i=tagsFrom l t)(hd:t+d=last l t):
 (tags l).length<=i+d+1\/∃x,(tags l)[i+d+1]? =some x/\x≠t+d+1/\i+d+1<(tags l).length/\x<64:=by
 obtain⟨_,_,h3,_⟩:=run_at hl ht h d (by omega);cases e:tagsFrom l (t+d+1) with
 |nil=>
  left
  rw[e] at h3;exact List.drop_eq_nil_iff.1 h3
 |cons x r=>
  right
  rw[e] at h3;obtain⟨a,_,c⟩:=Gf h3;have hx:=Pv (l:=l) (p:=t+d+1) x (by rw[e];exact List.mem_cons_self);refine⟨x,a,?_,c,hx.2.1⟩;rintro rfl;have:=last_stop (t:=t) hl;rw[<-hd] at this;rw[this] at hx;exact absurd hx.2.2 (by simp)
theorem pieces_cons {l p t:Nat}{r:List Nat}(h:tagsFrom l p=t::r):pieces l p=piece (t,last l t)++pieces l (last l t+1):=by
 obtain⟨_,_,_,h4⟩:=Yp (64-p) p rfl h;unfold pieces;rw[h4,List.flatMap_cons]
theorem pieces_nil {l p:Nat}(h:tagsFrom l p=[]):pieces l p=[]:=by
 unfold pieces;rw[T5 (64-p) p rfl h];rfl
theorem tagsFrom_head {l p t:Nat}{r:List Nat}(h:tagsFrom l p=t::r):t<64/\l.testBit t=true/\tagsFrom l t=t::r:=by
 obtain⟨a,b,c,_⟩:=Yp (64-p) p rfl h;exact⟨a,b,c⟩
end Lab
namespace Lab
open Go
def cutAt (c:UInt8):List UInt8->List UInt8×List UInt8×Bool
 | []=>([],[],false)
 |b::l=>if b=c then([],l,true) else(b::(cutAt c l).1,(cutAt c l).2.1,(cutAt c l).2.2)
theorem cutAt_none {c:UInt8}:∀{p:List UInt8},c∉p->cutAt c p=(p,[],false)
 | [],_=>rfl
 |b::l,h=>by
  have h1:b≠c:=λe=>h (by rw[e];exact List.mem_cons_self);rw[cutAt,if_neg h1,cutAt_none (λhm=>h (List.mem_cons_of_mem _ hm))]
theorem cutAt_some {c:UInt8}:∀{p r:List UInt8},c∉p->cutAt c (p++c::r)=(p,r,true)
 | [],r,_=>by rw[List.nil_append,cutAt,if_pos rfl]
 |b::l,r,h=>by
  have h1:b≠c:=λe=>h (by rw[e];exact List.mem_cons_self);rw[List.cons_append,cutAt,if_neg h1,cutAt_some (λhm=>h (List.mem_cons_of_mem _ hm))]
theorem cutAt_len (c:UInt8):∀s:List UInt8,(cutAt c s).1.length<=s.length/\(cutAt c s).2.1.length<=s.length/\(s≠[]->(cutAt c s).2.1.length<s.length)
 | []=>by simp[cutAt]
 |b::l=>by
  have ih:=cutAt_len c l;unfold cutAt
  split
  ·simp
  refine⟨by simp;exact ih.1,by simp;omega,λ_=>?_⟩;simp;omega
theorem index_cut (c:UInt8):∀s:List UInt8,(Lib.indexByte s c= -1/\cutAt c s=(s,[],false))\/(∃n:Nat,Lib.indexByte s c=(n:Int)/\n<s.length/\cutAt c s=(s.take n,s.drop (n+1),true))
 | []=> .inl ⟨rfl,rfl⟩
 |b::l=>by
  by_cases e:b=c
  ·refine .inr ⟨0,?_,by simp,?_⟩
   ·simp[Lib.indexByte,e]
   simp[cutAt,e]
  have hb:(b==c)=false:=by simpa using e
  rcases index_cut c l with⟨h1,h2⟩ |⟨n,h1,h2,h3⟩
  ·refine .inl ⟨by simp[Lib.indexByte,hb,h1],by rw[cutAt,if_neg e,h2]⟩
  refine .inr ⟨n+1,?_,by simp;omega,by rw[cutAt,if_neg e,h3];simp⟩;have:((n:Int)== -1)=false:=by rw[beq_eq_false_iff_ne];omega
  simp[Lib.indexByte,hb,h1,this]
def digit (b:UInt8):Bool:=decide (48<=b.toNat)&&decide (b.toNat<=57)
def numOf (s:List UInt8):Nat:=s.foldl (λn b=>10*n+(b.toNat-48)) 0
def tagP (s:List UInt8):Option Nat:=if s=[]\/2<s.length\/s.all digit=false then none else if numOf s<64 then some (numOf s) else none
def bitsTo (a:Nat):Nat->Nat
 | 0=>0
 |n+1=>bitsTo a n||| 2^(a+n)
def bitsFrom (a b:Nat):Nat:=bitsTo a (b+1-a)
theorem Xm (a n i:Nat):(bitsTo a n).testBit i=(decide (a<=i)&&decide (i<a+n)):=by
 induction n with
 |zero=>
  rw[bitsTo,Nat.zero_testBit];by_cases h:a<=i<;>simp[h]
 |succ n ih=>
  rw[bitsTo,Nat.testBit_or,ih,Nat.testBit_two_pow];by_cases h1:a<=i<;>by_cases h2:i<a+n<;>by_cases h3:a+n=i<;>simp[h1,h2,h3]<;>omega
theorem Aj (a b i:Nat):(bitsFrom a b).testBit i=(decide (a<=i)&&decide (i<=b)):=by
 rw[bitsFrom,Xm];by_cases h1:a<=i<;>by_cases h2:i<=b<;>simp[h1,h2]<;>omega
theorem Y0 {a n:Nat}(h:a+n<=64):bitsTo a n<18446744073709551616:=by
 refine Nat.lt_pow_two_of_testBit (n:=64) _ λi hi=>?_;rw[Xm];simp;omega
theorem Xk {a b:Nat}(h:b<64)(ha:a<64):bitsFrom a b<18446744073709551616:=Y0 (by omega)
def runP (s:List UInt8):Option Nat:=
 match tagP (cutAt 45 s).1 with
 |none=>none
 |some a=>if(cutAt 45 s).2.2 then(match tagP (cutAt 45 s).2.1 with |none=>none |some b=>some (bitsFrom a b)) else some (bitsFrom a a)
theorem tagP_lt {s:List UInt8}{n:Nat}(h:tagP s=some n):n<64:=by
 unfold tagP at h
 split at h
 ·cases h
 split at h
 ·injection h with h;omega
 cases h
theorem runP_lt {s:List UInt8}{n:Nat}(h:runP s=some n):n<18446744073709551616:=by
 unfold runP at h
 split at h
 ·cases h
 rename_i a ha;have:=tagP_lt ha
 split at h
 ·split at h
  ·cases h
  rename_i b hb;have:=tagP_lt hb;injection h with h
  rw[<-h];exact Xk (by omega) (by omega)
 injection h with h
 rw[<-h];exact Xk (by omega) (by omega)
def innerP:Nat->List UInt8->Nat->Option Nat
 | 0,s,acc=>if s=[] then some acc else none
 |f+1,s,acc=>if s=[] then some acc else match runP (cutAt 44 s).1 with |none=>none |some l=>innerP f (cutAt 44 s).2.1 (join acc l)
theorem Zl {d:Nat}(h:d<10):(UInt8.ofNat (48+d)).toNat=48+d:=by
 rw[UInt8.toNat_ofNat'];exact Nat.mod_eq_of_lt (by omega)
theorem Rh {n:Nat}(h:n<64):(Lib.decDigits n).all digit=true/\numOf (Lib.decDigits n)=n:=by
 by_cases h10:n<10
 ·rw[Lib.decDigits_one h10]
  have e:=Zl h10
  constructor
  ·rw[List.all_cons,List.all_nil,digit,e];simp;omega
  show 10*0+((UInt8.ofNat (48+n)).toNat-48)=n;rw[e];omega
 rw[Lib.decDigits_two h10 (by omega)];have e1:=Zl (show n/10<10 by omega);have e2:=Zl (show n%10<10 by omega)
 constructor
 ·rw[List.all_cons,List.all_cons,List.all_nil,digit,digit,e1,e2];simp;omega
 show 10*(10*0+((UInt8.ofNat (48+n/10)).toNat-48))+((UInt8.ofNat (48+n%10)).toNat-48)=n;rw[e1,e2];omega
theorem Po {n:Nat}(h:n<64):∀b∈Lib.decDigits n,digit b=true:=List.all_eq_true.1 (Rh h).1
theorem Ee {n:Nat}(h:n<64):tagP (Lib.decDigits n)=some n:=by
 have h1:=dec_len h;have h2:=Rh h;unfold tagP;rw[if_neg,h2.2,if_pos h];rintro(e |e |e)
 ·rw[e] at h1;simp at h1
 ·omega
 rw[h2.1] at e;cases e
theorem Fe {n:Nat}(h:n<64){c:UInt8}(hc:digit c=false):c∉Lib.decDigits n:=λhm=>by rw[Po h c hm] at hc;cases hc
theorem Z0 {r:Nat×Nat}(h1:r.1<=r.2)(h2:r.2<64):∀p∈piece r,(44:UInt8)∉p/\p≠[]/\(runP p).isSome=true:=by
 intro p hp;have k1:r.1<64:=by omega
 have d1:digit 44=false:=by decide
 have d2:digit 45=false:=by decide
 have one:∀{n:Nat},n<64->(44:UInt8)∉Lib.decDigits n/\Lib.decDigits n≠[]/\(runP (Lib.decDigits n)).isSome=true:=λ{n} hn=>by
  refine⟨Fe hn d1,λe=>?_,?_⟩
  ·have:=dec_len hn;rw[e] at this;simp at this
  unfold runP;rw[cutAt_none (Fe hn d2)];simp[Ee hn]
 unfold piece at hp
 split at hp
 ·simp at hp;subst hp;exact one k1
 split at hp
 ·simp at hp
  rcases hp with rfl |rfl
  ·exact one k1
  exact one h2
 simp at hp;subst hp;refine⟨?_,by simp,?_⟩
 ·intro hm
  rcases List.mem_append.1 hm with hm |hm
  ·exact Fe k1 d1 hm
  rcases List.mem_cons.1 hm with hm |hm
  ·cases hm
  exact Fe h2 d1 hm
 unfold runP;rw[cutAt_some (Fe k1 d2)];simp[Ee k1,Ee h2]
def Nc (p:List UInt8):Nat:=(runP p).getD 0
theorem Th {n:Nat}(h:n<64):runP (Lib.decDigits n)=some (bitsFrom n n):=by
 unfold runP;rw[cutAt_none (Fe h (by decide))];simp[Ee h]
theorem Xs {a b:Nat}(ha:a<64)(hb:b<64):runP (Lib.decDigits a++45::Lib.decDigits b)=some (bitsFrom a b):=by
 unfold runP;rw[cutAt_some (Fe ha (by decide))];simp[Ee ha,Ee hb]
def Oc (ps:List (List UInt8))(acc:Nat):Nat:=ps.foldl (λx p=>join x (Nc p)) acc
theorem F1 (ps:List (List UInt8))(i:Nat):∀acc,(Oc ps acc).testBit i=(acc.testBit i||ps.any λp=>(Nc p).testBit i):=by
 induction ps with
 |nil=>intro acc;simp[Oc]
 |cons p r ih=>intro acc;rw[Oc,List.foldl_cons,<-Oc,ih,List.any_cons,join,Nat.testBit_or,Bool.or_assoc]
theorem Qv {r:Nat×Nat}(h1:r.1<=r.2)(h2:r.2<64)(i:Nat):((piece r).any λp=>(Nc p).testBit i)=(bitsFrom r.1 r.2).testBit i:=by
 have k1:r.1<64:=by omega
 unfold piece
 split
 ·rename_i e
  simp[Nc,Th k1,e]
 split
 ·rename_i e
  simp only[List.any_cons,List.any_nil,Bool.or_false,Nc,Th k1,Th h2,Option.getD_some,Aj];by_cases a:r.1<=i<;>by_cases b:i<=r.1<;>by_cases c:r.2<=i<;>by_cases d:i<=r.2<;>simp[a,b,c,d]<;>omega
 simp[Nc,Xs k1 h2]
theorem U5 {l:Nat}(hl:l<18446744073709551616):∀(n p:Nat),64-p<=n->∀i,((runs l p).any λr=>(bitsFrom r.1 r.2).testBit i)=(decide (p<=i)&&l.testBit i):=by
 intro n
 induction n with
 |zero=>
  intro p hp i;rw[runs,dif_neg (by omega)];by_cases h:p<=i
  ·rw[Yd hl (by omega)];simp
  simp[h]
 |succ n ih=>
  intro p hp i;by_cases h64:p<64
  ·cases hb:l.testBit p
   ·rw[runs,dif_pos h64,if_neg (by simp[hb]),ih (p+1) (by omega)]
    by_cases h1:p+1<=i
    ·simp[h1,Nat.le_of_succ_le h1]
    by_cases h2:p<=i
    ·have:i=p:=by omega
     subst this;simp[hb]
    simp[h1,h2]
   have hge:=last_ge l p;rw[runs,dif_pos h64,if_pos hb,List.any_cons,ih (last l p+1) (by omega),Aj];by_cases h1:p<=i
   ·by_cases h2:i<=last l p
    ·have:=last_bits hb i h1 h2
     simp[h1,h2,this]
    have h3:last l p+1<=i:=by omega
    simp[h1,h2,h3]
   have h3:¬last l p+1<=i:=by omega
   simp[h1,h3]
  rw[runs,dif_neg h64];by_cases h:p<=i
  ·rw[Yd hl (by omega)];simp
  simp[h]
theorem Bj {l:Nat}(hl:l<18446744073709551616):Oc (pieces l 0) 0=l:=by
 apply Nat.eq_of_testBit_eq
 intro i;have h1:=U5 hl 64 0 (by omega) i;have hm:=Qh hl 64 0 (by omega);rw[F1,Nat.zero_testBit,Bool.false_or,pieces,List.any_flatMap];have:∀rs:List (Nat×Nat),(∀r∈rs,0<=r.1/\r.1<=r.2/\r.2<64)->(rs.any λr=>(piece r).any λp=>(Nc p).testBit i)=rs.any λr=>(bitsFrom r.1 r.2).testBit i:=by
  intro rs
  induction rs with
  |nil=>intro _;rfl
  |cons r t ih=>
   intro h;have hr:=h r List.mem_cons_self;rw[List.any_cons,List.any_cons,Qv hr.2.1 hr.2.2,ih (λx hx=>h x (List.mem_cons_of_mem _ hx))]
 rw[this _ hm,h1];simp
theorem G1 {l:Nat}(hl:l<18446744073709551616):∀p∈pieces l 0,(44:UInt8)∉p/\p≠[]/\(runP p).isSome=true:=by
 intro p hp;obtain⟨r,hr,hpr⟩:=List.mem_flatMap.1 hp;obtain⟨_,h1,h2⟩:=Qh hl 64 0 (by omega) r hr;exact Z0 h1 h2 p hpr
theorem Zp (p q:List UInt8)(r:List (List UInt8)):Lib.join (p::q::r) [44]=p++44::Lib.join (q::r) [44]:=by
 rw[Lib.join_cons,Lib.join_cons];simp[Lib.joinTail]
theorem Yk:∀(ps:List (List UInt8)) (f acc:Nat),ps.length<=f->(∀p∈ps,(44:UInt8)∉p/\p≠[]/\(runP p).isSome=true)->innerP f (Lib.join ps [44]) acc=some (Oc ps acc)
 | [],f,acc,_,_=>by
  rw[Lib.join_nil];cases f<;>simp[innerP,Oc]
 | [p],f+1,acc,_,h=>by
  obtain⟨h1,h2,h3⟩:=h p List.mem_cons_self;obtain⟨l,hl⟩:=Option.isSome_iff_exists.1 h3;rw[Lib.join_one,innerP,if_neg h2,cutAt_none h1];simp only[hl];cases f<;>simp[innerP,Oc,Nc,hl]
 |p::q::r,f+1,acc,hf,h=>by
  obtain⟨h1,h2,h3⟩:=h p List.mem_cons_self;obtain⟨l,hl⟩:=Option.isSome_iff_exists.1 h3;rw[Zp,innerP,if_neg (by simp),cutAt_some h1];simp only[hl];rw[Yk (q::r) f _ (by simp at hf⊢;omega) (λx hx=>h x (List.mem_cons_of_mem _ hx)),show Oc (p::q::r) acc=Oc (q::r) (join acc (Nc p)) from rfl,Nc,hl];rfl
 |p::r,0,acc,hf,_=>by simp at hf
theorem pieces_count {l:Nat}(hl:l<18446744073709551616):∀(n p:Nat),64-p<=n->(pieces l p).length<=64-p:=by
 intro n
 induction n with
 |zero=>intro p hp;rw[pieces,runs,dif_neg (by omega)];simp
 |succ n ih=>
  intro p hp;by_cases h64:p<64
  ·cases hb:l.testBit p
   ·have:=ih (p+1) (by omega)
    rw[pieces,runs,dif_pos h64,if_neg (by simp[hb]),<-pieces];omega
   have hge:=last_ge l p;have hlt:=last_lt hl hb;have:=ih (last l p+1) (by omega);rw[pieces,runs,dif_pos h64,if_pos hb,List.flatMap_cons,List.length_append,<-pieces];have hp2:(piece (p,last l p)).length<=last l p+1-p:=by
    unfold piece
    split
    ·simp;omega
    split
    ·rename_i e;simp at e⊢;omega
    simp;omega
   omega
  rw[pieces,runs,dif_neg h64];simp
theorem Se {l:Nat}(hl:l<18446744073709551616):∀f,64<=f->innerP f (Lib.join (pieces l 0) [44]) 0=some l:=λf hf=>by
 have hc:=pieces_count hl 64 0 (by omega);rw[Yk (pieces l 0) f 0 (by omega) (G1 hl),Bj hl]
theorem text_inj {a b:Nat}(ha:a<18446744073709551616)(hb:b<18446744073709551616)(h:text a=text b):a=b:=by
 unfold text at h;injection h with _ h
 have h1:=List.append_inj_left' h rfl;have e1:=Se ha 64 (by omega);have e2:=Se hb 64 (by omega);rw[h1,e2] at e1;injection e1 with e1
 exact e1.symm
end Lab
namespace Lab
open Go
def takeDig:Nat->List UInt8->Nat->Nat×List UInt8
 | 0,s,n=>(n,s)
 |k+1,[],n=>(n,[])
 |k+1,b::l,n=>if digit b then takeDig k l (10*n+(b.toNat-48)) else(n,b::l)
theorem takeDig_nil (k n:Nat):takeDig k [] n=(n,[]):=by cases k<;>rfl
theorem takeDig_stop {b:UInt8}(h:digit b=false)(k:Nat)(l:List UInt8)(n:Nat):takeDig k (b::l) n=(n,b::l):=by
 cases k with
 |zero=>rfl
 |succ k=>rw[takeDig,if_neg (by simp[h])]
def numR (s:List UInt8):Option Nat×List UInt8:=
 if(takeDig 3 s 0).2.length=s.length\/63<(takeDig 3 s 0).1 then(none,(takeDig 3 s 0).2) else(some (takeDig 3 s 0).1,(takeDig 3 s 0).2)
theorem numR_lt {s:List UInt8}{n:Nat}(h:(numR s).1=some n):n<64:=by
 unfold numR at h
 split at h
 ·cases h
 rename_i hh;injection h with h
 omega
def Oba (t:List UInt8):Prop:=t=[]\/∃b r,t=b::r/\digit b=false
theorem Am {n:Nat}(h:n<64){t:List UInt8}(ht:Oba t):numR (Lib.decDigits n++t)=(some n,t):=by
 have key:takeDig 3 (Lib.decDigits n++t) 0=(n,t):=by
  have stop:∀k m,takeDig k t m=(m,t):=λk m=>by
   rcases ht with rfl |⟨b,r,rfl,hb⟩
   ·exact takeDig_nil k m
   exact takeDig_stop hb k r m
  have hd:=Po h;have hv:=(Rh h).2;by_cases h10:n<10
  ·rw[Lib.decDigits_one h10] at hd hv⊢
   have h0:=hd _ List.mem_cons_self;have hv':10*0+((UInt8.ofNat (48+n)).toNat-48)=n:=hv;rw[List.cons_append,List.nil_append,takeDig,if_pos h0,hv',stop]
  rw[Lib.decDigits_two h10 (by omega)] at hd hv⊢;have h0:=hd _ List.mem_cons_self;have h1:=hd _ (List.mem_cons_of_mem _ List.mem_cons_self);have hv':10*(10*0+((UInt8.ofNat (48+n/10)).toNat-48))+((UInt8.ofNat (48+n%10)).toNat-48)=n:=hv;rw[List.cons_append,List.cons_append,List.nil_append,takeDig,if_pos h0,takeDig,if_pos h1,hv',stop]
 unfold numR;rw[key,if_neg];rintro(e |e)
 ·have:=dec_len h
  have e':t.length=(Lib.decDigits n).length+t.length:=by rw[<-List.length_append];exact e
  omega
 have e':63<n:=e;omega
def dropComma:List UInt8->List UInt8
 | []=>[]
 |b::r=>if b=44 then r else b::r
def refStep (s:List UInt8):Option (Nat×List UInt8):=
 match(numR s).2 with
 | []=>(numR s).1.map λa=>(bitsFrom a a,[])
 |b::r=>if b=45 then(match(numR s).1,(numR r).1 with |some a,some c=>some (bitsFrom a c,dropComma (numR r).2) |_,_=>none) else(numR s).1.map λa=>(bitsFrom a a,dropComma (b::r))
def refP:Nat->List UInt8->Nat->Option Nat
 | 0,_,acc=>some acc
 |f+1,[],acc=>some acc
 |f+1,b::r,acc=>if b=125 then some acc else match refStep (b::r) with |none=>none |some x=>refP f x.2 (join acc x.1)
theorem Rv {n:Nat}(h:n<64){b:UInt8}{r:List UInt8}(hb:digit b=false)(h45:b≠45):refStep (Lib.decDigits n++b::r)=some (bitsFrom n n,dropComma (b::r)):=by
 have e:=Am h (t:=b::r) (.inr ⟨b,r,rfl,hb⟩);unfold refStep;rw[e];simp only[if_neg h45,Option.map_some]
theorem Sv {a c:Nat}(ha:a<64)(hc:c<64){b:UInt8}{r:List UInt8}(hb:digit b=false):refStep (Lib.decDigits a++45::(Lib.decDigits c++b::r))=some (bitsFrom a c,dropComma (b::r)):=by
 have e:=Am ha (t:=45::(Lib.decDigits c++b::r)) (.inr ⟨45,_,rfl,by decide⟩);have e2:=Am hc (t:=b::r) (.inr ⟨b,r,rfl,hb⟩);unfold refStep;rw[e];simp only[if_pos,e2]
def Ym (p:List UInt8):Prop:=(∃a,a<64/\p=Lib.decDigits a)\/(∃a c,a<64/\c<64/\p=Lib.decDigits a++45::Lib.decDigits c)
theorem Cj {p:List UInt8}(h:Ym p){b:UInt8}{r:List UInt8}(hb:digit b=false)(h45:b≠45):refStep (p++b::r)=some (Nc p,dropComma (b::r)):=by
 rcases h with⟨a,ha,rfl⟩ |⟨a,c,ha,hc,rfl⟩
 ·rw[Rv ha hb h45,Nc,Th ha];rfl
 rw[List.append_assoc,List.cons_append,Sv ha hc hb,Nc,Xs ha hc];rfl
theorem Aq {p:List UInt8}(h:Ym p):∃b r,p=b::r/\b≠125:=by
 have one:∀{a:Nat},a<64->∃b r,Lib.decDigits a=b::r/\b≠125:=λ{a} ha=>by
  have hl:=dec_len ha;cases e:Lib.decDigits a with
  |nil=>rw[e] at hl;simp at hl
  |cons b r=>
   refine⟨b,r,rfl,λhb=>?_⟩;have:=Po ha b (by rw[e];exact List.mem_cons_self);rw[hb] at this;exact absurd this (by decide)
 rcases h with⟨a,ha,rfl⟩ |⟨a,c,ha,hc,rfl⟩
 ·exact one ha
 obtain⟨b,r,e,hb⟩:=one ha;exact⟨b,r++45::Lib.decDigits c,by rw[e];rfl,hb⟩
theorem Tv {l:Nat}(hl:l<18446744073709551616):∀p∈pieces l 0,Ym p:=by
 intro p hp;obtain⟨r,hr,hpr⟩:=List.mem_flatMap.1 hp;obtain⟨_,h1,h2⟩:=Qh hl 64 0 (by omega) r hr;have k1:r.1<64:=by omega
 unfold piece at hpr
 split at hpr
 ·simp at hpr;subst hpr;exact .inl ⟨_,k1,rfl⟩
 split at hpr
 ·simp at hpr
  rcases hpr with rfl |rfl
  ·exact .inl ⟨_,k1,rfl⟩
  exact .inl ⟨_,h2,rfl⟩
 simp at hpr;subst hpr;exact .inr ⟨_,_,k1,h2,rfl⟩
theorem Bq:∀(ps:List (List UInt8)) (f acc:Nat),ps.length<=f->(∀p∈ps,Ym p)->refP f (Lib.join ps [44]++[125]) acc=some (Oc ps acc)
 | [],f,acc,_,_=>by
  rw[Lib.join_nil];cases f<;>simp[refP,Oc]
 | [p],f+1,acc,_,h=>by
  have hp:=h p List.mem_cons_self;obtain⟨b,r,e,hb⟩:=Aq hp;rw[Lib.join_one];have hs:=Cj hp (b:=125) (r:=[]) (by decide) (by decide);rw[e,List.cons_append] at hs⊢;rw[refP,if_neg hb,hs];simp only[dropComma];rw[if_neg (by decide)];cases f<;>simp[refP,Oc]
 |p::q::r,f+1,acc,hf,h=>by
  have hp:=h p List.mem_cons_self;obtain⟨b,t,e,hb⟩:=Aq hp;rw[Zp,List.append_assoc,List.cons_append];have hs:=Cj hp (b:=44) (r:=Lib.join (q::r) [44]++[125]) (by decide) (by decide);have ih:=Bq (q::r) f (join acc (Nc p)) (by simp at hf⊢;omega) (λx hx=>h x (List.mem_cons_of_mem _ hx));rw[show Oc (p::q::r) acc=Oc (q::r) (join acc (Nc p)) from rfl,<-ih];generalize Lib.join (q::r) [44]++[125]=t2 at*;rw[e,List.cons_append] at hs⊢;rw[refP,if_neg hb,hs];simp only[dropComma,if_pos]
 |p::r,0,acc,hf,_=>by simp at hf
theorem Cq {l:Nat}(hl:l<18446744073709551616):refP 64 ((text l).drop 1) 0=some l:=by
 have hc:=pieces_count hl 64 0 (by omega);have:(text l).drop 1=Lib.join (pieces l 0) [44]++[125]:=rfl;rw[this,Bq (pieces l 0) 64 0 (by omega) (Tv hl),Bj hl]
end Lab
namespace Lab
open Go
def Gc (ps:List (List UInt8)):Nat:=(ps.map λp=>p.length+1).sum
theorem Ys {r:Nat×Nat}(h1:r.1<=r.2)(h2:r.2<64):Gc (piece r)<=3*(r.2+1-r.1):=by
 have a:=dec_len (show r.1<64 by omega);have b:=dec_len h2;unfold piece Gc
 split
 ·simp;omega
 split
 ·simp;omega
 simp;omega
theorem Kr {l:Nat}(hl:l<18446744073709551616):∀(n p:Nat),64-p<=n->Gc (pieces l p)<=3*(64-p):=by
 intro n
 induction n with
 |zero=>intro p hp;rw[pieces,runs,dif_neg (by omega)];simp[Gc]
 |succ n ih=>
  intro p hp;by_cases h64:p<64
  ·cases hb:l.testBit p
   ·have:=ih (p+1) (by omega)
    rw[pieces,runs,dif_pos h64,if_neg (by simp[hb]),<-pieces];omega
   have hge:=last_ge l p;have hlt:=last_lt hl hb;have:=ih (last l p+1) (by omega);have hw:=Ys (r:=(p,last l p)) hge hlt;rw[pieces,runs,dif_pos h64,if_pos hb,List.flatMap_cons,<-pieces];have e:Gc (piece (p,last l p)++pieces l (last l p+1))=Gc (piece (p,last l p))+Gc (pieces l (last l p+1)):=by simp[Gc]
   rw[e];simp only at hw;omega
  rw[pieces,runs,dif_neg h64];simp[Gc]
theorem Zm (r:List (List UInt8)):(Lib.joinTail [44] r).length=Gc r:=by
 unfold Lib.joinTail Gc
 induction r with
 |nil=>rfl
 |cons p r ih=>simp at ih⊢;omega
theorem Uv (ps:List (List UInt8)):(Lib.join ps [44]).length<=Gc ps:=by
 cases ps with
 |nil=>simp[Lib.join_nil]
 |cons p r=>rw[Lib.join_cons,List.length_append,Zm];simp[Gc]
theorem text_len {l:Nat}(hl:l<18446744073709551616):(text l).length<=194:=by
 have h1:=Kr hl 64 0 (by omega);have h2:=Uv (pieces l 0);unfold text;simp;omega
def Spec (s:List UInt8)(x:Nat)(ok:Bool):Prop:=(ok=true/\x<18446744073709551616/\s=text x)\/(ok=false/\x=0/\∀l,l<18446744073709551616->s≠text l)
theorem Spec.long {s:List UInt8}(h:258<s.length):Spec s 0 false:= .inr ⟨rfl,rfl,λl hl e=>by have:=text_len hl;rw[<-e] at this;omega⟩
theorem open_iff (s:List UInt8):(Lib.hasPrefix s [123]=false/\Lib.trimPrefix s [123]=s/\∀r,s≠123::r)\/(∃r,Lib.hasPrefix s [123]=true/\Lib.trimPrefix s [123]=r/\s=123::r):=by
 cases s with
 |nil=>exact .inl ⟨rfl,rfl,λr=>by simp⟩
 |cons b r=>
  by_cases e:b=123
  ·subst e
   have hp:Lib.hasPrefix (123::r) [123]=true:=by simp[Lib.hasPrefix]
   exact .inr ⟨r,hp,by rw[Lib.trimPrefix,if_pos hp];rfl,rfl⟩
  have hp:Lib.hasPrefix (b::r) [123]=false:=by
   cases h:Lib.hasPrefix (b::r) [123]
   ·rfl
   simp[Lib.hasPrefix] at h;exact absurd h.symm e
  exact .inl ⟨hp,by rw[Lib.trimPrefix,if_neg (by simp[hp])],λt h=>by injection h with h _;exact e h⟩
theorem shut_iff (s:List UInt8):(Lib.hasSuffix s [125]=false/\∀r,s≠r++[125])\/(∃r,Lib.hasSuffix s [125]=true/\Lib.trimSuffix s [125]=r/\s=r++[125]):=by
 cases hp:Lib.hasSuffix s [125]
 ·refine .inl ⟨rfl,λr e=>?_⟩
  subst e;have:Lib.hasSuffix (r++[125]) [125]=true:=by simp[Lib.hasSuffix]
  rw[this] at hp;cases hp
 have h:[125]<:+s:=by simpa [Lib.hasSuffix] using hp
 obtain⟨r,rfl⟩:=h;refine .inr ⟨r,rfl,?_,rfl⟩;rw[Lib.trimSuffix,if_pos hp];simp
theorem Spec.noOpen {s:List UInt8}(h:∀r,s≠123::r):Spec s 0 false:= .inr ⟨rfl,rfl,λl hl e=>h _ (by rw[e];rfl)⟩
theorem Spec.noShut {r:List UInt8}(h:∀t,r≠t++[125]):Spec (123::r) 0 false:= .inr ⟨rfl,rfl,λl hl e=>by
 unfold text at e;injection e with _ e
 exact h _ e⟩
theorem Zs {t:List UInt8}{l:Nat}(e:(123:UInt8)::(t++[125])=text l):t=Lib.join (pieces l 0) [44]:=by
 unfold text at e;injection e with _ e
 exact List.append_inj_left' e rfl
theorem Spec.badInner {t:List UInt8}{f:Nat}(hf:64<=f)(h:innerP f t 0=none):Spec (123::(t++[125])) 0 false:= .inr ⟨rfl,rfl,λl hl e=>by
 rw[Zs e,Se hl f hf] at h;cases h⟩
theorem Spec.other {t:List UInt8}{f o:Nat}(hf:64<=f)(h:innerP f t 0=some o)(hne:text o≠123::(t++[125])):Spec (123::(t++[125])) 0 false:= .inr ⟨rfl,rfl,λl hl e=>by
 rw[Zs e,Se hl f hf] at h;injection h with h
 subst h;exact hne e.symm⟩
theorem Spec.refBad {s:List UInt8}(h:refP 64 (s.drop 1) 0=none):Spec s 0 false:= .inr ⟨rfl,rfl,λl hl e=>by
 rw[e,Cq hl] at h;cases h⟩
theorem Spec.refOther {s:List UInt8}{o:Nat}(h:refP 64 (s.drop 1) 0=some o)(hne:text o≠s):Spec s 0 false:= .inr ⟨rfl,rfl,λl hl e=>by
 rw[e,Cq hl] at h;injection h with h
 subst h;exact hne e.symm⟩
theorem Zk:∀(f g:Nat) (s:List UInt8) (acc:Nat),s.length<=f->s.length<=g->innerP f s acc=innerP g s acc
 | 0,0,s,acc,_,_=>rfl
 | 0,g+1,s,acc,h,_=>by
  have:s=[]:=List.eq_nil_of_length_eq_zero (by omega);subst this;rfl
 |f+1,0,s,acc,_,h=>by
  have:s=[]:=List.eq_nil_of_length_eq_zero (by omega);subst this;rfl
 |f+1,g+1,s,acc,h1,h2=>by
  unfold innerP;by_cases e:s=[]
  ·rw[if_pos e,if_pos e]
  rw[if_neg e,if_neg e];have hl:=(cutAt_len 44 s).2.2 e
  split
  ·rfl
  exact Zk f g _ _ (by omega) (by omega)
theorem innerP_step {f:Nat}{s:List UInt8}{acc l:Nat}(hne:s≠[])(h:s.length<=f)(hr:runP (cutAt 44 s).1=some l):innerP f s acc=innerP f (cutAt 44 s).2.1 (join acc l):=by
 have hl:=(cutAt_len 44 s).2.2 hne;cases f with
 |zero=>exfalso;have:=List.eq_nil_of_length_eq_zero (Nat.le_zero.1 h);exact hne this
 |succ f=>
  conv=>lhs;rw[innerP,if_neg hne,hr]
  exact Zk f (f+1) _ _ (by omega) (by omega)
theorem innerP_fail {f:Nat}{s:List UInt8}{acc:Nat}(hne:s≠[])(h:s.length<=f)(hr:runP (cutAt 44 s).1=none):innerP f s acc=none:=by
 cases f with
 |zero=>exfalso;have:=List.eq_nil_of_length_eq_zero (Nat.le_zero.1 h);exact hne this
 |succ f=>rw[innerP,if_neg hne,hr]
end Lab
namespace Go.Proofs.YtogjgbmngagimaaGreatDoor
section
namespace Sp
open Ar
def lens (sh:List Int):List UInt8:=Lib.join (sh.map λx=>Lib.decDigits x.toNat) [32]
mutual
def arrT:Ba->List UInt8
 | .mk S sh cs=>Nw.net (Lab.text S)++(Nw.net (lens sh)++celsT cs)
def celsT:List Fa->List UInt8
 | []=>[]
 |c::r=>Bt c++celsT r
def Bt:Fa->List UInt8
 | .mk L k n t b c ins=>Nw.net (Lab.text L)++Nw.net (if k=0 then 110::Dg.print ⟨n,t,b⟩ else if k=1 then 99::Lib.decDigits c.toNat else 98::insT ins)
def insT:List Ba->List UInt8
 | []=>[]
 |a::_=>arrT a
end
def celL:Fa->Nat
 | .mk L _ _ _ _ _ _=>L
def inT:Fa->List UInt8
 | .mk _ k n t b c ins=>if k=0 then 110::Dg.print ⟨n,t,b⟩ else if k=1 then 99::Lib.decDigits c.toNat else 98::insT ins
theorem celT_eq (c:Fa):Bt c=Nw.net (Lab.text (celL c))++Nw.net (inT c):=by cases c;rw[Bt,celL,inT]
theorem celsT_append:∀(l r:List Fa),celsT (l++r)=celsT l++celsT r
 | [],r=>by rw[celsT];rfl
 |c::l,r=>by rw[List.cons_append,celsT,celsT,celsT_append l r,List.append_assoc]
mutual
def wfA:Ba->Prop
 | .mk S _ cs=>S<18446744073709551616/\wfCels cs
def wfCels:List Fa->Prop
 | []=>True
 |c::r=>wfCel c/\wfCels r
def wfCel:Fa->Prop
 | .mk L _ _ _ _ _ ins=>L<18446744073709551616/\wfIns ins
def wfIns:List Ba->Prop
 | []=>True
 |a::r=>wfA a/\wfIns r
end
mutual
def Al:Ba->Bool
 | .mk _ _ cs=>Jd cs
def Jd:List Fa->Bool
 | []=>true
 |c::r=>Hg c&&Jd r
def Hg:Fa->Bool
 | .mk _ k n t b _ ins=>if k=0 then(Dg.parse (Dg.print ⟨n,t,b⟩)).2==0 else if k=1 then true else G8 ins
def G8:List Ba->Bool
 | []=>true
 |a::_=>Al a
end
open Classical in
noncomputable def labP (s:List UInt8):Option Nat:=if h:∃l,l<18446744073709551616/\s=Lab.text l then some h.choose else none
theorem labP_spec {s:List UInt8}{x:Nat}{ok:Bool}(h:Lab.Spec s x ok):labP s=if ok then some x else none:=by
 unfold labP;rcases h with⟨rfl,hx,hs⟩ |⟨rfl,-,hn⟩
 ·have he:∃l,l<18446744073709551616/\s=Lab.text l:=⟨x,hx,hs⟩
  rw[dif_pos he,if_pos rfl,Lab.text_inj he.choose_spec.1 hx (he.choose_spec.2.symm.trans hs)]
 rw[dif_neg (λ⟨l,hl,e⟩=>hn l hl e)];rfl
theorem Ig {l:Nat}(h:l<18446744073709551616):labP (Lab.text l)=some l:=by rw[labP_spec (.inl ⟨rfl,h,rfl⟩)];rfl
theorem Qo {s:List UInt8}{x:Nat}(h:labP s=some x):x<18446744073709551616:=by
 unfold labP at h
 split at h
 ·next he=>injection h with h;rw[<-h];exact he.choose_spec.1
 cases h
def atoiP (s:List UInt8):Option Int:=match Lib.atoiAll s with | .ok v=>some v |_=>none
theorem Bl:∀(s:List UInt8) (n:Nat),(∀b∈s,Ten.isDig b)->Lib.decFrom n s=some (s.foldl (λn b=>10*n+(b.toNat-48)) n)
 | [],_,_=>rfl
 |b::r,n,h=>by
  have hb:=h b List.mem_cons_self;rw[Lib.decFrom,Lib.digitVal,if_pos (show 48<=b.toNat/\b.toNat<=57 from hb),List.foldl_cons,Nat.mul_comm 10 n];exact Bl r _ (λc hc=>h c (List.mem_cons_of_mem _ hc))
theorem Dq {n:Nat}(h:n<10000000):atoiP (Lib.decDigits n)=some (n:Int):=by
 have hv:=Ten.dec_valid n;have hl:=(Ten.dec_len (r:=n) (k:=6) (by omega)).2;have e:Lib.atoi (Lib.decDigits n)=some (n:Int):=by
  have hn:Lib.decNat (Lib.decDigits n)=some n:=by
   unfold Lib.decNat;rw[if_neg (by rw[List.isEmpty_iff];exact hv.1.1),Bl _ _ hv.1.2.2];exact congrArg some hv.2
  obtain⟨b,r,hbr⟩:=List.exists_cons_of_ne_nil hv.1.1;have hb:=hv.1.2.2 b (by rw[hbr];exact List.mem_cons_self);rw[hbr] at hn⊢;have h1:(b==45)=false:=by rw[beq_eq_false_iff_ne];rintro rfl;exact absurd hb.1 (by decide)
  have h2:(b==43)=false:=by rw[beq_eq_false_iff_ne];rintro rfl;exact absurd hb.1 (by decide)
  rw[Lib.atoi,h1,h2];simp[hn]
 unfold atoiP;rw[Lib.atoiAll_short _ (by omega),e];rfl
def decN (s:List UInt8):Nat×Nat:=(Ten.numOf (s.take (min 7 (Dg.lead s))),min 7 (Dg.lead s))
theorem V5 (n:Nat)(t:List UInt8)(ht:t.head?≠none->∃b r,t=b::r/\Dg.dB b=false):Dg.lead (Lib.decDigits n++t)=(Lib.decDigits n).length:=by
 match t,ht with
 | [],_=>rw[List.append_nil];exact Dg.lead_all (Dg.dec_dB n)
 |b::r,ht=>
  obtain⟨b',r',e,hb⟩:=ht (by simp);injection e with e1 e2
  subst e1 e2;refine Dg.lead_at (by simp) (λi hi hk=>?_) ?_
  ·rw[List.getElem_append_left hk];exact Dg.dec_dB n i hk
  rw[List.getElem_append_right Lr];simpa using hb
theorem Bm {n:Nat}(h:n<10000000)(t:List UInt8)(ht:t.head?≠none->∃b r,t=b::r/\Dg.dB b=false):decN (Lib.decDigits n++t)=(n,(Lib.decDigits n).length):=by
 have hl:=(Ten.dec_len (r:=n) (k:=6) (by omega)).2;unfold decN;rw[V5 n t ht,Nat.min_eq_right (by omega),List.take_append_of_le_length Lr,List.take_length,(Ten.dec_valid n).2]
def wordsF:Nat->List UInt8->List (List UInt8)
 | 0,s=>[s]
 |f+1,s=>if(Lab.cutAt 32 s).2.2 then(Lab.cutAt 32 s).1::wordsF f (Lab.cutAt 32 s).2.1 else[s]
def words (s:List UInt8):List (List UInt8):=wordsF s.length s
def atoiAllP:List (List UInt8)->Option (List Int)
 | []=>some []
 |x::r=>match atoiP x with
  |none=>none
  |some n=>(atoiAllP r).map (n:: ·)
def shapeP (t:List UInt8):Option (List Int):=if t=[] then some [] else atoiAllP (words t)
def shapeDF:Nat->List UInt8->List Int
 | 0,_=>[]
 |f+1,s=>if s=[] then[] else((decN s).1:Int)::(if(decN s).2=s.length\/(decN s).2=0 then[] else shapeDF f (s.drop ((decN s).2+1)))
def shapeD (s:List UInt8):List Int:=shapeDF s.length s
theorem X5 (n:Nat):(32:UInt8)∉Lib.decDigits n:=λh=>by
 have:=(Ten.dec_valid n).1.2.2 _ h;exact absurd this.1 (by decide)
theorem Vf (p q:List UInt8)(r:List (List UInt8)):Lib.join (p::q::r) [32]=p++32::Lib.join (q::r) [32]:=by
 rw[Lib.join_cons,Lib.join_cons];simp[Lib.joinTail]
theorem An:∀(ps:List (List UInt8)) (p:List UInt8) (f:Nat),ps.length<=f->(∀x∈p::ps,(32:UInt8)∉x)->wordsF f (Lib.join (p::ps) [32])=p::ps
 | [],p,f,_,h=>by
  rw[Lib.join_one];cases f with
  |zero=>rfl
  |succ f=>rw[wordsF,Lab.cutAt_none (h p (by simp))];rfl
 |q::r,p,f,hf,h=>by
  cases f with
  |zero=>simp at hf
  |succ f=>
   rw[Vf,wordsF,Lab.cutAt_some (h p (by simp)),if_pos rfl,An r q f (by simpa using hf) (λx hx=>h x (List.mem_cons_of_mem _ hx))]
def Sh (sh:List Int):Prop:=∀x∈sh,0<=x/\x<=2048
theorem Uh:∀(ps:List (List UInt8)) (p:List UInt8),ps.length<=(Lib.join (p::ps) [32]).length
 | [],_=>Nat.zero_le _
 |q::r,p=>by
  rw[Vf];have:=Uh r q;simp;omega
theorem Cl:∀{sh:List Int},Sh sh->atoiAllP (sh.map λx=>Lib.decDigits x.toNat)=some sh
 | [],_=>rfl
 |x::r,h=>by
  have hx:=h x (by simp);rw[List.map_cons,atoiAllP,Dq (by omega),Cl (λy hy=>h y (by simp[hy]))];simp;omega
theorem Vv {sh:List Int}(h:Sh sh):shapeP (lens sh)=some sh:=by
 match sh,h with
 | [],_=>rfl
 |x::r,h=>
  have hne:lens (x::r)≠[]:=by
   unfold lens;rw[List.map_cons,Lib.join_cons];intro e;exact Ten.dec_ne _ (List.append_eq_nil_iff.1 e).1
  unfold shapeP;rw[if_neg hne];unfold words lens;rw[List.map_cons,An _ _ _ (by have:=Uh (r.map λx=>Lib.decDigits x.toNat) (Lib.decDigits x.toNat);exact this)]
  ·exact Cl h
  intro y hy;rw[<-List.map_cons (f:=λx:Int=>Lib.decDigits x.toNat)] at hy;obtain⟨z,-,rfl⟩:=List.mem_map.1 hy;exact X5 _
theorem Dj:∀(r:List Int) (x:Int) (f:Nat),r.length<f->Sh (x::r)->shapeDF f (lens (x::r))=x::r
 | [],x,f+1,_,h=>by
  have hx:=h x (by simp);have e:lens [x]=Lib.decDigits x.toNat++[]:=by unfold lens;rw[List.map_singleton,Lib.join_one,List.append_nil]
  rw[shapeDF,e,Bm (by omega) _ (by simp),if_neg (by simp[Ten.dec_ne]),if_pos (.inl (by rw[List.append_nil]))];dsimp only;rw[Int.toNat_of_nonneg hx.1]
 |y::r,x,f+1,hf,h=>by
  have hx:=h x (by simp);have e:lens (x::y::r)=Lib.decDigits x.toNat++32::lens (y::r):=by unfold lens;rw[List.map_cons,List.map_cons,Vf]
  have hp:=Dg.dec_pos x.toNat;rw[shapeDF,e,Bm (by omega) _ (λ_=>⟨32,_,rfl,by decide⟩),if_neg (by simp),if_neg (by simp[Ten.dec_ne])];dsimp only;rw[List.drop_append,List.drop_eq_nil_of_le (by omega),Nat.add_sub_cancel_left,List.nil_append,List.drop_succ_cons,List.drop_zero,Dj r y f (by simpa using hf) (λz hz=>h z (List.mem_cons_of_mem _ hz))];simp;omega
theorem Wv {sh:List Int}(h:Sh sh):shapeD (lens sh)=sh:=by
 match sh,h with
 | [],_=>rfl
 |x::r,h=>
  unfold shapeD;refine Dj r x _ ?_ h;have h1:=Uh (r.map λx=>Lib.decDigits x.toNat) (Lib.decDigits x.toNat);have h2:=Dg.dec_pos x.toNat;rw[List.length_map] at h1;unfold lens;rw[List.map_cons]
  match r with
  | []=>rw[List.map_nil,Lib.join_one];exact h2
  |y::r=>
   rw[List.map_cons,Vf];have h3:=Uh (r.map λx=>Lib.decDigits x.toNat) (Lib.decDigits y.toNat);rw[List.length_map] at h3;simp;omega
theorem sh_of_cnt {sh:List Int}(h:(cnt sh).2=0):Sh sh:=by
 intro x hx;unfold cnt at h
 split at h
 ·cases h
 split at h
 ·cases h
 next h1=>
 split at h
 ·cases h
 next h2=>
 rw[Bool.not_eq_true,List.any_eq_false] at h1 h2;have a1:=h1 x hx;have a2:=h2 x hx;simp at a1 a2;omega
def cellR (ch:List UInt8->Option Int)(rd:List UInt8->Option Ba)(L:Nat):List UInt8->Option Fa
 | []=>none
 |b::r=>if b=110 then(if(Dg.parse r).2=0 then some (.mk L 0 (Dg.parse r).1.neg (Dg.parse r).1.top (Dg.parse r).1.bot 0 []) else none)
  else if b=99 then(ch r).map λn=> .mk L 1 false [] [] n []
  else if b=98 then(rd r).map λa=> .mk L 2 false [] [] 0 [a] else none
noncomputable def pairR (ch:List UInt8->Option Int)(rd:List UInt8->Option Ba)(l t:List UInt8):Option Fa:=match labP l with |none=>none |some L=>cellR ch rd L t
def nextP (s:List UInt8):List UInt8×List UInt8:=(Nw.cut s).getD ([],s)
def pairsP:Nat->List UInt8->List (List UInt8×List UInt8)
 | 0,_=>[]
 |f+1,s=>match Nw.cut s with
  |none=>[]
  |some p=>(p.1,(nextP p.2).1)::pairsP f (nextP p.2).2
noncomputable def cellsP (rd:List UInt8->Option Ba):List (List UInt8×List UInt8)->Option (List Fa)
 | []=>some []
 |p::r=>match pairR atoiP rd p.1 p.2 with
  |none=>none
  |some c=>(cellsP rd r).map (c:: ·)
noncomputable def bodyP (rd:List UInt8->Option Ba)(s:List UInt8):Option Ba:=
 match labP (nextP s).1 with
 |none=>none
 |some S=>match shapeP (nextP (nextP s).2).1 with
  |none=>none
  |some sh=>(cellsP rd (pairsP (nextP (nextP s).2).2.length (nextP (nextP s).2).2)).map λcs=> .mk S sh cs
noncomputable def readP:Nat->List UInt8->Option Ba
 | 0=>λ_=>none
 |n+1=>bodyP (readP n)
def chD (s:List UInt8):Option Int:=some ((decN s).1:Int)
noncomputable def cellsD (rd:List UInt8->Option Ba):Nat->List UInt8->Option (List Fa)
 | 0,_=>some []
 |f+1,s=>if s=[] then some [] else match Nw.cut s with
  |none=>none
  |some p=>match Nw.cut p.2 with
   |none=>none
   |some q=>match pairR chD rd p.1 q.1 with
    |none=>none
    |some c=>(cellsD rd f q.2).map (c:: ·)
noncomputable def bodyD (rd:List UInt8->Option Ba)(s:List UInt8):Option Ba:=
 match Nw.cut s with
 |none=>none
 |some p=>match Nw.cut p.2 with
  |none=>none
  |some q=>match labP p.1 with
   |none=>none
   |some S=>(cellsD rd q.2.length q.2).map λcs=> .mk S (shapeD q.1) cs
noncomputable def readD:Nat->List UInt8->Option Ba
 | 0=>λ_=>none
 |n+1=>bodyD (readD n)
theorem Xv {n:Rt.Nm}(h:Rt.right n=true)(ho:(Dg.parse (Dg.print n)).2=0):(Dg.parse (Dg.print n)).1=n:=by
 by_cases hl:(Dg.print n).length<=400
 ·rw[Dg.parse_print h hl]
 by_cases hb:(Lib.decDigits (Nt.val n.top)++if n.bot=[1] then[] else 114::Lib.decDigits (Nt.val n.bot)).length<=400
 ·cases hn:n.neg
  ·exfalso;apply hl;unfold Dg.print;rw[hn];simpa using hb
  have:=Dg.body_print h hb;unfold Dg.print;rw[hn] at this⊢;exact congrArg Prod.fst this
 exfalso
 have hs:∀neg,(Dg.body neg (Lib.decDigits (Nt.val n.top)++if n.bot=[1] then[] else 114::Lib.decDigits (Nt.val n.bot))).2=7:=λneg=>by unfold Dg.body;rw[if_pos (by omega)]
 revert ho
 unfold Dg.print;cases hn:n.neg
 ·simp only[Bool.false_eq_true,if_false,List.nil_append]
  rw[Dg.parse_body,hs]
  ·simp
  rw[Ten.head_app _ (Ten.dec_ne _)];intro e;obtain⟨b,r,hbr⟩:=List.exists_cons_of_ne_nil (Ten.dec_ne (Nt.val n.top));have hd:=(Ten.dec_valid (Nt.val n.top)).1.2.2 b (by rw[hbr];exact List.mem_cons_self);rw[hbr] at e;simp at e;rw[e] at hd;simp[Ten.isDig] at hd
 simp only[if_true];show(Dg.body true (Lib.decDigits (Nt.val n.top)++if n.bot=[1] then[] else 114::Lib.decDigits (Nt.val n.bot))).2=0->False;rw[hs];simp
theorem Qy {ch:List UInt8->Option Int}(hc:∀n:Nat,n<10000000->ch (Lib.decDigits n)=some (n:Int)){rd:List UInt8->Option Ba}{d:Nat}(c:Fa)(hr:Ia d c=true)
 (hrd:∀a,0<d->Ga (d-1) a=true->(∀L k n t b ch,c= .mk L k n t b ch [a]->rd (arrT a)=if Al a then some a else none)):cellR ch rd (celL c) (inT c)=if Hg c then some c else none:=by
 obtain⟨L,k,n,t,b,ch',ins⟩:=c;rw[Ia] at hr;rw[inT,celL,Hg];by_cases h0:k=0
 ·subst h0
  rw[if_pos rfl] at hr⊢;simp only[Bool.and_eq_true,beq_iff_eq,List.isEmpty_iff] at hr;obtain⟨⟨rfl,rfl⟩,hr⟩:=hr;rw[cellR,if_pos rfl,if_pos rfl];by_cases ho:(Dg.parse (Dg.print ⟨n,t,b⟩)).2=0
  ·have e:=Xv hr ho
   rw[if_pos ho,e,ho];rfl
  rw[if_neg ho,if_neg (by simpa using ho)]
 rw[if_neg h0] at hr⊢;rw[if_neg h0];by_cases h1:k=1
 ·subst h1
  rw[if_pos rfl] at hr⊢;rw[if_pos rfl];simp only[Bool.and_eq_true,List.isEmpty_iff,Mc,Bool.not_eq_true',Lc,decide_eq_true_eq] at hr;obtain⟨⟨⟨⟨rfl,rfl⟩,rfl⟩,rfl⟩,⟨h2,h3⟩,-⟩:=hr;rw[cellR,if_neg (by decide),if_pos rfl,hc _ (by omega),if_pos rfl];simp;omega
 rw[if_neg h1] at hr⊢;rw[if_neg h1];simp only[Bool.and_eq_true,beq_iff_eq,Mc,Bool.not_eq_true',List.isEmpty_iff,decide_eq_true_eq] at hr;obtain⟨⟨⟨⟨rfl,⟨rfl,rfl⟩,rfl⟩,rfl⟩,hd⟩,hi⟩:=hr
 match ins,hi,hrd with
 | [a],hi,hrd=>
  rw[Va] at hi;simp only[Bool.and_eq_true] at hi;rw[cellR,if_neg (by decide),if_neg (by decide),if_pos rfl,insT,hrd a hd hi.2 _ _ _ _ _ _ rfl,G8];cases Al a<;>rfl
theorem Ej (s t:List UInt8):nextP (Nw.net s++t)=(s,t):=by unfold nextP;rw[Nw.cut_net];rfl
theorem cut_nil:Nw.cut []=none:=by unfold Nw.cut;split<;>rfl
theorem cut_less {s:List UInt8}{p:List UInt8×List UInt8}(h:Nw.cut s=some p):p.1.length<s.length/\p.2.length<s.length:=by
 unfold Nw.cut at h
 split at h
 ·unfold Nw.after at h
  split at h
  ·cases h
  split at h
  ·cases h
  split at h
  ·cases h
  split at h
  ·cases h
  split at h
  ·cases h
  injection h with h
  subst h;simp;omega
 cases h
theorem nextP_le (s:List UInt8):(nextP s).1.length<=s.length/\(nextP s).2.length<=s.length:=by
 unfold nextP;cases h:Nw.cut s with
 |none=>simp
 |some p=>have:=cut_less h;simp;omega
theorem V8 (s:List UInt8):2<=(Nw.net s).length:=by unfold Nw.net;simp;omega
theorem Dl:∀(cs:List Fa) (f:Nat),cs.length<=f->pairsP f (celsT cs)=cs.map λc=>(Lab.text (celL c),inT c)
 | [],0,_=>rfl
 | [],f+1,_=>by rw[celsT,pairsP,cut_nil];rfl
 |c::r,f+1,h=>by
  rw[celsT,celT_eq,List.append_assoc,pairsP,Nw.cut_net];dsimp only;rw[Ej,Dl r f (by simpa using h)];rfl
theorem Cm:∀cs:List Fa,cs.length<=(celsT cs).length
 | []=>Nat.zero_le _
 |c::r=>by
  have:=Cm r;have:=V8 (inT c);rw[celsT,celT_eq];simp;omega
theorem Bn {rd:List UInt8->Option Ba}:∀cs:List Fa,wfCels cs->(∀c∈cs,cellR atoiP rd (celL c) (inT c)=if Hg c then some c else none)->cellsP rd (cs.map λc=>(Lab.text (celL c),inT c))=if Jd cs then some cs else none
 | [],_,_=>rfl
 |c::r,hw,h=>by
  rw[wfCels] at hw;have hL:celL c<18446744073709551616:=by obtain⟨L,k,n,t,b,ch,ins⟩:=c;exact hw.1.1
  rw[List.map_cons,cellsP,pairR,Ig hL];dsimp only;rw[h c (by simp),Bn r hw.2 (λx hx=>h x (by simp[hx])),Jd];cases Hg c<;>cases Jd r<;>rfl
theorem Gaa {s:List UInt8}{p:List UInt8×List UInt8}(h:Nw.cut s=some p):s≠[]:=by rintro rfl;rw[cut_nil] at h;cases h
theorem Cn {rd:List UInt8->Option Ba}:∀(cs:List Fa) (f:Nat),cs.length<=f->wfCels cs->(∀c∈cs,cellR chD rd (celL c) (inT c)=if Hg c then some c else none)->cellsD rd f (celsT cs)=if Jd cs then some cs else none
 | [],0,_,_,_=>rfl
 | [],f+1,_,_,_=>by rw[celsT,cellsD,if_pos rfl];rfl
 |c::r,f+1,hf,hw,h=>by
  rw[wfCels] at hw;have hL:celL c<18446744073709551616:=by obtain⟨L,k,n,t,b,ch,ins⟩:=c;exact hw.1.1
  have e:=Nw.cut_net (Lab.text (celL c)) (Nw.net (inT c)++celsT r);rw[celsT,celT_eq,List.append_assoc,cellsD,if_neg (Gaa e),e];dsimp only;rw[Nw.cut_net];dsimp only;rw[pairR,Ig hL];dsimp only;rw[h c (by simp),Cn r f (by simpa using hf) hw.2 (λx hx=>h x (by simp[hx])),Jd];cases Hg c<;>cases Jd r<;>rfl
theorem X8 {S:Nat}{sh:List Int}{cs:List Fa}{L:Nat}{k:Int}{n:Bool}{t b:List Nat}{ch:Int}{a:Ba}(h: .mk L k n t b ch [a]∈cs):SizeOf.sizeOf a<SizeOf.sizeOf (Ba.mk S sh cs):=by
 have:=List.sizeOf_lt_of_mem h;simp at this⊢;omega
theorem right_at:∀{d:Nat} {cs:List Fa},Ma d cs=true->∀c∈cs,Ia d c=true
 |d,x::r,h,c,hc=>by
  rw[Ma,Bool.and_eq_true] at h;rcases List.mem_cons.1 hc with rfl |hc
  ·exact h.1
  exact right_at h.2 c hc
theorem wf_at:∀{cs:List Fa},wfCels cs->∀c∈cs,wfCel c
 |x::r,h,c,hc=>by
  rw[wfCels] at h;rcases List.mem_cons.1 hc with rfl |hc
  ·exact h.1
  exact wf_at h.2 c hc
theorem Y8 (n:Nat)(h:n<10000000):chD (Lib.decDigits n)=some (n:Int):=by
 have:=Bm h [] (by simp);rw[List.append_nil] at this;unfold chD;rw[this]
theorem Ye (m:Nat):∀(a:Ba) (d:Nat),SizeOf.sizeOf a<m->Ga d a=true->wfA a->readP (d+1) (arrT a)=(if Al a then some a else none)/\readD (d+1) (arrT a)=if Al a then some a else none:=by
 induction m with
 |zero=>intro a d h;omega
 |succ m ih=>
  intro a d hm hr hw;obtain⟨S,sh,cs⟩:=a;rw[Ga] at hr;simp only[Bool.and_eq_true,beq_iff_eq] at hr;obtain⟨⟨h1,-⟩,h2⟩:=hr;rw[wfA] at hw;have hs:=sh_of_cnt h1;have hc:∀(X:Nat->List UInt8->Option Ba) (hX:∀(a:Ba) (d:Nat),SizeOf.sizeOf a<m->Ga d a=true->wfA a->X (d+1) (arrT a)=if Al a then some a else none) (ch:List UInt8->Option Int),(∀n:Nat,n<10000000->ch (Lib.decDigits n)=some (n:Int))->
   ∀c∈cs,cellR ch (X d) (celL c) (inT c)=if Hg c then some c else none:=by
   intro X hX ch hch c hc;refine Qy hch c (right_at h2 c hc) ?_;rintro a hd hra L k n t b ch' rfl;have hwf:=wf_at hw.2 _ hc;rw[wfCel,wfIns] at hwf;have:=hX a (d-1) (by have:=X8 (S:=S) (sh:=sh) hc;omega) hra hwf.2.1;rwa[Nat.sub_add_cancel hd] at this
  refine⟨?_,?_⟩
  ·show bodyP (readP d) _=_
   rw[arrT,bodyP,Ej];dsimp only;rw[Ig hw.1,Ej];dsimp only;rw[Vv hs];dsimp only;rw[Dl cs _ (Cm cs),Bn cs hw.2 (hc readP (λa d h1 h2 h3=>(ih a d h1 h2 h3).1) _ (λn h=>Dq h)),Al];cases Jd cs<;>rfl
  show bodyD (readD d) _=_;rw[arrT,bodyD,Nw.cut_net];dsimp only;rw[Nw.cut_net];dsimp only;rw[Ig hw.1];dsimp only;rw[Wv hs,Cn cs _ (Cm cs) hw.2 (hc readD (λa d h1 h2 h3=>(ih a d h1 h2 h3).2) _ Y8),Al];cases Jd cs<;>rfl
open Classical in
noncomputable def parseX (r:Option Ba)(s:List UInt8):Option Ba:=match r with |none=>none |some a=>if Ga 8 a=true/\arrT a=s then some a else none
theorem Ry (s:List UInt8)(h:∀a,(readP 9 s=some a\/readD 9 s=some a)->wfA a):parseX (readP 9 s) s=parseX (readD 9 s) s:=by
 have key:∀(p q:Option Ba),(∀a,p=some a->Ga 8 a=true->arrT a=s->q=some a)->(∀a,q=some a->Ga 8 a=true->arrT a=s->p=some a)->parseX p s=parseX q s:=by
  intro p q h1 h2;cases p with
  |none=>
   cases q with
   |none=>rfl
   |some b=>
    unfold parseX;dsimp only;by_cases e:Ga 8 b=true/\arrT b=s
    ·exact absurd (h2 b rfl e.1 e.2) (by simp)
    rw[if_neg e]
  |some a=>
   unfold parseX;by_cases e:Ga 8 a=true/\arrT a=s
   ·rw[h1 a rfl e.1 e.2]
   dsimp only;rw[if_neg e];cases q with
   |none=>rfl
   |some b=>
    dsimp only;by_cases e':Ga 8 b=true/\arrT b=s
    ·have:=h2 b rfl e'.1 e'.2
     injection this with this
     subst this;exact absurd e' e
    rw[if_neg e']
 refine key _ _ (λa ha hr ht=>?_) (λa ha hr ht=>?_)
 ·have hR:=Ye _ a 8 (Nat.lt_succ_self _) hr (h a (.inl ha))
  rw[ht] at hR;rw[hR.2,<-hR.1,ha]
 have hR:=Ye _ a 8 (Nat.lt_succ_self _) hr (h a (.inr ha));rw[ht] at hR;rw[hR.1,<-hR.2,ha]
theorem parse_text {a:Ba}(hr:Ga 8 a=true)(hw:wfA a):parseX (readP 9 (arrT a)) (arrT a)=if Al a then some a else none:=by
 rw[(Ye _ a 8 (Nat.lt_succ_self _) hr hw).1];unfold parseX;cases Al a
 ·rfl
 simp[hr]
end Sp
end
end Go.Proofs.YtogjgbmngagimaaGreatDoor
namespace Ar
mutual
def Xb:Ba->Nat
 | .mk _ sh cs=>1+sh.length+Ka cs
def Ka:List Fa->Nat
 | []=>0
 |c::r=>Yb c+Ka r
def Yb:Fa->Nat
 | .mk _ _ _ t b _ ins=>1+t.length+b.length+Ta ins
def Ta:List Ba->Nat
 | []=>0
 |a::r=>Xb a+Ta r
end
theorem Wf:∀l r:List Fa,Ka (l++r)=Ka l+Ka r
 | [],r=>by rw[List.nil_append,Ka,Nat.zero_add]
 |c::l,r=>by rw[List.cons_append,Ka,Ka,Wf l r,Nat.add_assoc]
theorem Jg:∀l r:List Ba,Ta (l++r)=Ta l+Ta r
 | [],r=>by rw[List.nil_append,Ta,Nat.zero_add]
 |c::l,r=>by rw[List.cons_append,Ta,Ta,Jg l r,Nat.add_assoc]
theorem Ro {cs:List Fa}{k:Nat}(h:k<cs.length):Ka (cs.take (k+1))=Ka (cs.take k)+Yb cs[k]:=by
 rw[List.take_succ_eq_append_getElem h,Wf,Ka,Ka,Nat.add_zero]
theorem Mr {cs:List Ba}{k:Nat}(h:k<cs.length):Ta (cs.take (k+1))=Ta (cs.take k)+Xb cs[k]:=by
 rw[List.take_succ_eq_append_getElem h,Jg,Ta,Ta,Nat.add_zero]
end Ar
namespace Go.Proofs.YtogjgbmngagimaaGreatDoor
section
namespace Sp
open Ar
theorem Fk {s:List UInt8}(h:s.length<1000000):(Nw.net s).length<=s.length+8:=by
 have:=(Ten.dec_len (r:=s.length) (k:=5) (by omega)).2;unfold Nw.net;simp;omega
theorem Y5 {s:List UInt8}(h:s.length<1000):(Nw.net s).length<=s.length+5:=by
 have:=(Ten.dec_len (r:=s.length) (k:=2) (by omega)).2;unfold Nw.net;simp;omega
theorem Kx {l:Nat}(h:l<18446744073709551616):(Nw.net (Lab.text l)).length<=199:=by
 have h1:=Lab.text_len h;have h2:=Y5 (s:=Lab.text l) (by omega);omega
theorem I8 {l:List Nat}(h:Nt.Ok l):(Lib.decDigits (Nt.val l)).length<=10*l.length+1:=by
 have h1:=Nt.val_lt h;have h2:(4294967296:Nat)^l.length<=10^(10*l.length):=by rw[Nat.pow_mul];exact Nat.pow_le_pow_left (by decide) _
 have h3:(10:Nat)^(10*l.length)<=10^(10*l.length+1):=Nat.pow_le_pow_right (by decide) (Nat.le_succ _);exact(Ten.dec_len (by omega)).2
theorem Ct {n:Rt.Nm}(h:Rt.right n=true):Nt.Ok n.top/\Nt.Ok n.bot:=by
 have h1:=Dg.mk_right h;unfold Rt.mk at h1
 split at h1
 ·cases h1
 split at h1
 ·cases h1
 have h2:=congrArg (λp:Rt.Nm×Int=>p.1) h1;dsimp only at h2;rw[<-h2];exact⟨Nt.ok_digs _,Nt.ok_digs _⟩
theorem print_len {n:Rt.Nm}(h1:Nt.Ok n.top)(h2:Nt.Ok n.bot):(Dg.print n).length<=10*(n.top.length+n.bot.length)+5:=by
 have h3:=I8 h1;have h4:=I8 h2;unfold Dg.print
 split<;>split<;>simp<;>omega
theorem lens_snoc {sh:List Int}{k:Nat}(h:k<sh.length):lens (sh.take (k+1))=if k=0 then Lib.decDigits sh[k].toNat else lens (sh.take k)++32::Lib.decDigits sh[k].toNat:=by
 unfold lens;rw[List.take_succ_eq_append_getElem h,List.map_append,List.map_singleton,Lab.join_snoc];by_cases h0:k=0
 ·subst h0;rw[List.take_zero,List.map_nil,if_pos rfl,if_pos rfl]
 rw[if_neg (λe=>by have:=congrArg List.length e;rw[List.length_map,List.length_take,List.length_nil] at this;omega),if_neg h0];rfl
theorem lens_len:∀{sh:List Int},Sh sh->(lens sh).length<=5*sh.length
 | [],_=>Nat.zero_le _
 | [x],h=>by
  have hx:=h x (by simp);have:=(Ten.dec_len (r:=x.toNat) (k:=3) (by omega)).2;unfold lens;rw[List.map_singleton,Lib.join_one];simp;omega
 |x::y::r,h=>by
  have hx:=h x (by simp);have h1:=(Ten.dec_len (r:=x.toNat) (k:=3) (by omega)).2;have h2:=lens_len (sh:=y::r) (λz hz=>h z (List.mem_cons_of_mem _ hz));have e:lens (x::y::r)=Lib.decDigits x.toNat++32::lens (y::r):=by unfold lens;rw[List.map_cons,List.map_cons,Vf]
  rw[e];simp at h2⊢;omega
mutual
theorem Gk:∀(a:Ba) (d:Nat),Ga d a=true->wfA a->Xb a<=4000->(arrT a).length<=235*Xb a
 | .mk S sh cs,d,h,hw,hp=>by
  rw[Ga] at h;simp only[Bool.and_eq_true,beq_iff_eq] at h;rw[wfA] at hw;rw[Xb] at hp⊢;have h1:=lens_len (sh_of_cnt h.1.1);have h2:=Fq cs d h.2 hw.2 (by omega);have h3:=Kx hw.1;have h4:=Fk (s:=lens sh) (by omega);rw[arrT,List.length_append,List.length_append];omega
theorem Fq:∀(cs:List Fa) (d:Nat),Ma d cs=true->wfCels cs->Ka cs<=4000->(celsT cs).length<=235*Ka cs
 | [],_,_,_,_=>Nat.zero_le _
 |c::r,d,h,hw,hp=>by
  rw[Ma,Bool.and_eq_true] at h;rw[wfCels] at hw;rw[Ka] at hp⊢;have h1:=Z5 c d h.1 hw.1 (by omega);have h2:=Fq r d h.2 hw.2 (by omega);rw[celsT,List.length_append];omega
theorem Z5:∀(c:Fa) (d:Nat),Ia d c=true->wfCel c->Yb c<=4000->(Bt c).length<=235*Yb c
 | .mk L k n t b ch ins,d,h,hw,hp=>by
  rw[Ia] at h;rw[wfCel] at hw;rw[Yb] at hp⊢;have h3:=Kx hw.1;rw[Bt,List.length_append]
  split at h
  ·next h0=>
   simp only[Bool.and_eq_true] at h;have h1:=print_len (Ct h.2).1 (Ct h.2).2;dsimp only at h1;rw[if_pos h0];have h2:=Fk (s:=110::Dg.print ⟨n,t,b⟩) (by simp;omega);simp at h2⊢;omega
  next h0=>
  split at h
  ·next h1=>
   simp only[Bool.and_eq_true,Lc,decide_eq_true_eq] at h;have h2:=(Ten.dec_len (r:=ch.toNat) (k:=6) (by omega)).2;rw[if_neg h0,if_pos h1];have h4:=Fk (s:=99::Lib.decDigits ch.toNat) (by simp;omega);simp at h4⊢;omega
  next h1=>
  simp only[Bool.and_eq_true] at h;rw[if_neg h0,if_neg h1]
  match ins,h,hw,hp with
  | [a],h,hw,hp=>
   rw[Va,Bool.and_eq_true] at h;rw[wfIns] at hw;rw[Ta,Ta] at hp⊢;have h2:=Gk a (d-1) h.2.2 hw.2.1 (by omega);rw[insT];have h4:=Fk (s:=98::arrT a) (by simp;omega);simp at h4⊢;omega
  | [],h,_,_=>exact absurd (h.2.symm.trans (by rw[Va];intro a e;cases e)) Bool.noConfusion
  |_::_::_,h,_,_=>exact absurd (h.2.symm.trans (by rw[Va];intro a e;cases e)) Bool.noConfusion
end
end Sp
end
section
namespace Sp
open Ar
theorem Gq {x g m:Nat}(h:(Nt.digs x).length<=m):(Nt.digs (x/g)).length<=m:=Nat.le_trans (Nt.digs_len_le_of (Nat.div_le_self _ _)) h
theorem Dm {n1 n2:Bool}{x y a b:Nat}(hx:(Nt.digs x).length<=a)(hy:(Nt.digs y).length<=b):(Rt.mk n1 n2 x y).1.top.length+(Rt.mk n1 n2 x y).1.bot.length<=a+b:=by
 unfold Rt.mk
 split
 ·exact Nat.zero_le _
 split
 ·exact Nat.zero_le _
 have h1:=Gq (g:=Nat.gcd x y) hx;have h2:=Gq (g:=Nat.gcd x y) hy;show(Nt.digs _).length+(Nt.digs _).length<=_;omega
theorem Dn (neg:Bool)(t:List UInt8):(Dg.body neg t).1.top.length+(Dg.body neg t).1.bot.length<=t.length+2:=by
 have h0:∀e:Int,((Rt.none_,e):Rt.Nm×Int).1.top.length+((Rt.none_,e):Rt.Nm×Int).1.bot.length<=t.length+2:=λ_=>Nat.zero_le _;unfold Dg.body
 split
 ·exact h0 _
 split
 ·exact h0 _
 split
 ·next hl=>
  have h1:=Dg.limbs_le (Dg.lead_full hl) (t.length/9+1) (by omega);have:=Dm (n1:=neg) (n2:=false) h1 (b:=1) (y:=1) (by rw[show(1:Nat)=10^0 from rfl];exact Dg.limbs_ten 1 (by omega));omega
 split
 ·exact h0 _
 next hb=>
 have hl:=Dg.lead_le t;have hd:∀b∈t.drop (Dg.lead t+1),Ten.isDig b:=Dg.lead_full (by
  have:=Dg.lead_le (t.drop (Dg.lead t+1));rw[List.length_drop] at this⊢;omega)
 split
 ·have h1:=Dg.limbs_le (Dg.lead_take (s:=t)) (Dg.lead t/9+1) (by rw[List.length_take];omega)
  have h2:=Dg.limbs_le hd ((t.length-(Dg.lead t+1))/9+1) (by rw[List.length_drop];omega);have:=Dm (n1:=neg) (n2:=false) h1 h2;omega
 split
 ·have h1:=Dg.limbs_le (t:=t.take (Dg.lead t)++t.drop (Dg.lead t+1)) (λb hb=>by
   rcases List.mem_append.1 hb with h |h
   ·exact Dg.lead_take b h
   exact hd b h) (t.length/9+1) (by rw[List.length_append,List.length_take,List.length_drop];omega)
  have h2:=Dg.limbs_ten (k:=t.length-(Dg.lead t+1)) (t.length/9+1) (by omega);have:=Dm (n1:=neg) (n2:=false) h1 h2;omega
 exact h0 _
theorem Yv (t:List UInt8):(Dg.parse t).1.top.length+(Dg.parse t).1.bot.length<=t.length+2:=by
 unfold Dg.parse
 split
 ·have:=Dn true ‹List UInt8›
  simp at this⊢;omega
 exact Dn false t
theorem cut_sum {s:List UInt8}{p:List UInt8×List UInt8}(h:Nw.cut s=some p):p.1.length+p.2.length+3<=s.length:=by
 unfold Nw.cut at h
 split at h
 ·unfold Nw.after at h
  split at h
  ·cases h
  split at h
  ·cases h
  split at h
  ·cases h
  split at h
  ·cases h
  split at h
  ·cases h
  injection h with h
  subst h;simp;omega
 cases h
theorem nextP_sum (s:List UInt8):(nextP s).1.length+(nextP s).2.length<=s.length:=by
 unfold nextP;cases h:Nw.cut s with
 |none=>simp
 |some p=>have:=cut_sum h;simp;omega
theorem So {s:List UInt8}{L:Nat}(h:labP s=some L):2<=s.length:=by
 unfold labP at h
 split at h
 ·next he=>
  obtain⟨l,-,rfl⟩:=he;unfold Lab.text;simp
 cases h
def El (rd:List UInt8->Option Ba):Prop:=∀t a,rd t=some a->Xb a<=t.length
theorem Zv {ch:List UInt8->Option Int}{rd:List UInt8->Option Ba}(hr:El rd){L:Nat}{t:List UInt8}{c:Fa}(h:cellR ch rd L t=some c):Yb c<=t.length+2:=by
 match t,h with
 |b::r,h=>
  rw[cellR] at h
  split at h
  ·split at h
   ·injection h with h
    subst h;have:=Yv r;rw[Yb,Ta];simp;omega
   cases h
  split at h
  ·obtain⟨n,-,rfl⟩:=Option.map_eq_some_iff.1 h
   rw[Yb,Ta];simp
  split at h
  ·obtain⟨a,ha,rfl⟩:=Option.map_eq_some_iff.1 h
   have:=hr _ _ ha;rw[Yb,Ta,Ta];simp;omega
  cases h
theorem Fl {ch:List UInt8->Option Int}{rd:List UInt8->Option Ba}(hr:El rd){l t:List UInt8}{c:Fa}(h:pairR ch rd l t=some c):Yb c<=l.length+t.length:=by
 unfold pairR at h;cases hl:labP l with
 |none=>rw[hl] at h;cases h
 |some L=>
  rw[hl] at h;have:=So hl;have:=Zv hr h;omega
theorem Fj {rd:List UInt8->Option Ba}(hr:El rd):∀(f:Nat) (s:List UInt8) (cs:List Fa),cellsP rd (pairsP f s)=some cs->Ka cs<=s.length
 | 0,s,cs,h=>by rw[pairsP,cellsP] at h;injection h with h;subst h;exact Nat.zero_le _
 |f+1,s,cs,h=>by
  rw[pairsP] at h;cases hc:Nw.cut s with
  |none=>rw[hc,cellsP] at h;injection h with h;subst h;exact Nat.zero_le _
  |some p=>
   rw[hc,cellsP] at h;dsimp only at h
   split at h
   ·cases h
   next c hp=>
   obtain⟨cs',h',rfl⟩:=Option.map_eq_some_iff.1 h;have h1:=Fj hr f _ _ h';have h2:=Fl hr hp;have h3:=cut_sum hc;have h4:=nextP_sum p.2;rw[Ka];omega
theorem En:∀(f:Nat) (s:List UInt8),(wordsF f s).length<=s.length+1
 | 0,s=>by rw[wordsF];simp
 |f+1,s=>by
  rw[wordsF]
  split
  ·have h1:=En f (Lab.cutAt 32 s).2.1
   have h2:=(Lab.cutAt_len 32 s).2.2
   match s,h2 with
   | [],_=>next h=>simp[Lab.cutAt] at h
   |b::r,h2=>
    have:=h2 (by simp);simp only[List.length_cons] at h1 this⊢;omega
  simp
theorem Gj:∀{ws:List (List UInt8)} {l:List Int},atoiAllP ws=some l->l.length=ws.length
 | [],l,h=>by rw[atoiAllP] at h;injection h with h;subst h;rfl
 |x::r,l,h=>by
  rw[atoiAllP] at h
  split at h
  ·cases h
  obtain⟨l',h',rfl⟩:=Option.map_eq_some_iff.1 h;rw[List.length_cons,List.length_cons,Gj h']
theorem Sy {t:List UInt8}{sh:List Int}(h:shapeP t=some sh):sh.length<=t.length+1:=by
 unfold shapeP at h
 split at h
 ·injection h with h;subst h;exact Nat.zero_le _
 have h1:=Gj h;have h2:=En t.length t;unfold words at h1;omega
theorem Aw {rd:List UInt8->Option Ba}(hr:El rd):El (bodyP rd):=by
 intro s a h;unfold bodyP at h
 split at h
 ·cases h
 next S hl=>
 split at h
 ·cases h
 next sh hs=>
 obtain⟨cs,hc,rfl⟩:=Option.map_eq_some_iff.1 h;have h1:=Fj hr _ _ _ hc;have h2:=Sy hs;have h3:=So hl;have h4:=nextP_sum s;have h5:=nextP_sum (nextP s).2;rw[Xb];omega
theorem Hl:∀n,El (readP n)
 | 0=>λt a h=>by cases h
 |n+1=>Aw (Hl n)
theorem Il:∀(f:Nat) (s:List UInt8),(shapeDF f s).length<=s.length
 | 0,s=>by rw[shapeDF];exact Nat.zero_le _
 |f+1,s=>by
  rw[shapeDF]
  split
  ·exact Nat.zero_le _
  next hs=>
  have hp:=List.length_pos_iff.2 hs
  split
  ·simp;omega
  next hk=>
  have h1:=Il f (s.drop ((decN s).2+1));rw[List.length_drop] at h1;simp only[List.length_cons];omega
theorem Hj {rd:List UInt8->Option Ba}(hr:El rd):∀(f:Nat) (s:List UInt8) (cs:List Fa),cellsD rd f s=some cs->Ka cs<=s.length
 | 0,s,cs,h=>by rw[cellsD] at h;injection h with h;subst h;exact Nat.zero_le _
 |f+1,s,cs,h=>by
  rw[cellsD] at h
  split at h
  ·injection h with h;subst h;exact Nat.zero_le _
  split at h
  ·cases h
  next p hc=>
  split at h
  ·cases h
  next q hd=>
  split at h
  ·cases h
  next c hp=>
  obtain⟨cs',h',rfl⟩:=Option.map_eq_some_iff.1 h;have h1:=Hj hr f _ _ h';have h2:=Fl hr hp;have h3:=cut_sum hc;have h4:=cut_sum hd;rw[Ka];omega
theorem Bw {rd:List UInt8->Option Ba}(hr:El rd):El (bodyD rd):=by
 intro s a h;unfold bodyD at h
 split at h
 ·cases h
 next p hc=>
 split at h
 ·cases h
 next q hd=>
 split at h
 ·cases h
 next S hl=>
 obtain⟨cs,h',rfl⟩:=Option.map_eq_some_iff.1 h;have h1:=Hj hr _ _ _ h';have h2:=Il q.1.length q.1;have h3:=So hl;have h4:=cut_sum hc;have h5:=cut_sum hd;unfold shapeD;rw[Xb];omega
theorem Jl:∀n,El (readD n)
 | 0=>λt a h=>by cases h
 |n+1=>Bw (Jl n)
end Sp
end
open Go.RowKit
theorem J1 (n:Nat)(w:World)(h:n<10):
 Calls Tryz.prog 53 #[.int .i64 (n:Int)] w λe w'=>e= .returned (.string ⟨(Lib.decDigits n).toArray⟩)/\w=w':=by
 have HD:=Qd (Lib.decDigits_one h);have h10:n=0\/n=1\/n=2\/n=3\/n=4\/n=5\/n=6\/n=7\/n=8\/n=9:=by omega
 rcases h10 with rfl |rfl |rfl |rfl |rfl |rfl |rfl |rfl |rfl |rfl
 all_goals
  go_enter Tryz.func53,Tryz.ntmps53
  go_wp2_with fail
  go_ret;exact⟨by rw[HD.out];rfl,rfl⟩
theorem Xc (a b:List UInt8):(⟨a.toArray⟩:ByteArray)++(⟨b.toArray⟩:ByteArray)=⟨(a++b).toArray⟩:=by
 apply ByteArray.ext;simp
theorem M1:∀(k n:Nat) (w:World),n<k->n<=9223372036854775807->
 Calls Tryz.prog 53 #[.int .i64 (n:Int)] w λe w'=>e= .returned (.string ⟨(Lib.decDigits n).toArray⟩)/\w=w'
 | 0,n,w,h,_=>by omega
 |k+1,n,w,h,hn=>by
  by_cases h10:n<10
  ·exact J1 n w h10
  have HD:Lib.decDigits n=Lib.decDigits (n/10)++Lib.decDigits (n%10):=by
   rw[Ten.dec_big h10,<-Ten.dec_small (by omega:n%10<10)]
  replace HD:=Qd HD;have H1:=Qd (M1 k (n/10) w (by omega) (by omega));have H2:=Qd (J1 (n%10) w (by omega));have hp:=(Ten.dec_len (r:=n/10) (k:=19) (by omega)).2;have hq:=(Ten.dec_len (r:=n%10) (k:=19) (by omega)).2;generalize Lib.decDigits (n/10)=p at HD H1 hp;generalize Lib.decDigits (n%10)=q at HD H2 hq;have e1:((n/10:Nat):Int)=(n:Int)/10:=by omega
  have e2:((n%10:Nat):Int)=(n:Int)%10:=by omega
  rw[e1] at H1;rw[e2] at H2;have s1:(⟨p.toArray⟩:ByteArray).size<=20:=hp;have s2:(⟨q.toArray⟩:ByteArray).size<=20:=hq;clear e1 e2 hp hq;go_enter Tryz.func53,Tryz.ntmps53
  go_wp2_with fail
  refine H1.out.mono ?_;rintro e w' ⟨rfl,rfl⟩;go_wp2_with fail
  refine H2.out.mono ?_;rintro e w' ⟨rfl,rfl⟩;go_wp2_with fail
  go_ret;exact⟨by rw[HD.out,<-Xc];rfl,rfl⟩
theorem Nf (n:Nat)(w:World)(h:n<=9223372036854775807):
 Calls Tryz.prog 53 #[.int .i64 (n:Int)] w λe w'=>e= .returned (.string ⟨(Lib.decDigits n).toArray⟩)/\w=w':=M1 (n+1) n w (by omega) h
theorem O1 (s:List UInt8):(((⟨(Lib.decDigits s.length).toArray⟩:ByteArray)++(⟨#[58]⟩:ByteArray))++(⟨s.toArray⟩:ByteArray))++(⟨#[44]⟩:ByteArray)=⟨(Nw.net s).toArray⟩:=by
 apply ByteArray.ext;unfold Nw.net;simp
theorem Of (s:List UInt8)(w:World)(hs:s.length<1000000000):
 Calls Tryz.prog 35 #[.string ⟨s.toArray⟩] w λe w'=>e= .returned (.string ⟨(Nw.net s).toArray⟩)/\w=w':=by
 have hsz:(⟨s.toArray⟩:ByteArray).size=s.length:=rfl;have HSZ:=Qd hsz;have DE:=Qd (Nf s.length w (by omega));have hp:=(Ten.dec_len (r:=s.length) (k:=9) (by omega)).2;have HN:=Qd (O1 s);generalize Lib.decDigits s.length=D at*;have q1:¬9223372036854775807<D.length+1:=by omega
 have q2:¬9223372036854775807<D.length+1+s.length:=by omega
 have q3:¬9223372036854775807<D.length+1+s.length+1:=by omega
 go_enter Tryz.func35,Tryz.ntmps35
 go_wp2_with fail
 refine DE.out.mono ?_;rintro e w' ⟨rfl,rfl⟩;go_wp2_with fail
 go_ret;exact⟨by rw[<-HN.out];rfl,rfl⟩
theorem Lx {s:List UInt8}{k:Nat}(hl:k<=Dg.lead s)(h:k<s.length)(hd:Dg.dB s[k]=true):k+1<=Dg.lead s:=by
 rcases Nat.lt_or_ge k (Dg.lead s) with h1 |h1
 ·omega
 have e:Dg.lead s=k:=by omega
 have:=Dg.lead_not (s:=s) (by omega);simp only[e] at this;rw[hd] at this;cases this
theorem Mx {s:List UInt8}{k:Nat}(hl:k<=Dg.lead s)(h:k<s.length)(hd:Dg.dB s[k]=false):Dg.lead s=k:=by
 rcases Nat.lt_or_ge k (Dg.lead s) with h1 |h1
 ·obtain⟨h2,h3⟩:=Dg.lead_dig h1
  rw[hd] at h3;cases h3
 omega
theorem Ty {b:UInt8}{y:Nat}(h:y=b.toNat):Dg.dB b=decide (48<=y/\y<=57):=by unfold Dg.dB;rw[h]
def Nw.k7 (s:List UInt8):Nat:=min 7 (Dg.lead s)
structure Nw.DecAt (s:List UInt8) (k n:Nat):Prop where
 le:k<=Dg.lead s
 num:n=Ten.numOf (s.take k)
theorem Vh {s:List UInt8}{k n:Nat}(h:Nw.DecAt s k n)(hk:k<=7):n<10000000:=by
 have h1:=Dg.numOf_lt (s.take k).length (s.take k) rfl (Nw.dig_take h.le);rw[<-h.num] at h1;have h2:(s.take k).length<=7:=by rw[List.length_take];omega
 have h3:(10:Nat)^(s.take k).length<=10^7:=Nat.pow_le_pow_right (by decide) h2;have h4:(10:Nat)^7=10000000:=by decide
 omega
theorem Rd (s:List UInt8)(w:World)(hs:s.length<=1000000):
 Calls Tryz.prog 72 #[.string ⟨s.toArray⟩] w λe w'=>e= .returned (.tuple #[.int .i64 (Ten.numOf (s.take (Nw.k7 s)):Int),.int .i64 (Nw.k7 s:Int)])/\w=w':=by
 have hsz:(⟨s.toArray⟩:ByteArray).size=s.length:=rfl;have HSZ:=Qd hsz;have HR:Hid (∀k n:Nat,Nw.DecAt s k n->Nw.k7 s=k->Ending.returned (.tuple #[.int .i64 (n:Int),.int .i64 (k:Int)])= .returned (.tuple #[.int .i64 (Ten.numOf (s.take (Nw.k7 s)):Int),.int .i64 (Nw.k7 s:Int)])):=Qd (λk n h e=>by rw[e,<-h.num]);go_enter Tryz.func72,Tryz.ntmps72
 go_wp2
 go_loop [4,5] (λa i=>∃k n:Nat,k<=s.length/\k<=7/\n<10000000/\a= .int .i64 (n:Int)/\i= .int .i64 (k:Int)/\Hid (Nw.DecAt s k n)) (λ_ i=>s.length-(intOf i).toNat)
 case atStart=>exact⟨0,0,Nat.zero_le _,Nat.zero_le _,by omega,rfl,rfl,Qd ⟨Nat.zero_le _,by simp[Ten.numOf]⟩⟩
 case round=>
  obtain⟨k,n,hk,hk7,hn,rfl,rfl,H⟩:=hrel;have HR1:=Qd (HR.out k n H.out);by_cases hlt:k<s.length
  ·by_cases h7:k<7
   ·obtain⟨y,hy⟩:∃y,y=s[k].toNat:=⟨_,rfl⟩
    have hgy:((⟨s.toArray⟩:ByteArray)[k]'(show k<(⟨s.toArray⟩:ByteArray).size from hlt)).toNat=y:=hy.symm;have HD:=Qd (Ty hy);have H2:=Qd (λh=>Mx H.out.le hlt h);have H1:Hid (48<=y->y<=57->Nw.DecAt s (k+1) (10*n+(y-48))):=Qd (λh1 h2=>⟨Lx H.out.le hlt (by rw[HD.out];exact decide_eq_true ⟨h1,h2⟩),by rw[Nw.take_succ_num hlt,<-H.out.num,<-hy]⟩);clear hy;by_cases h1:48<=y
    ·by_cases h2:y<=57
     ·have h3:=H1.out h1 h2
      have h4:=Vh h3 (by omega);have H3:=Qd h3;have hw1:IntKind.u8.wrap ((y:Int)-48)=((y-48:Nat):Int):=by rw[show(y:Int)-48=((y-48:Nat):Int) by omega];exact IntWalk.u8_in _ (by omega)
      clear h3;go_wp2
      go_round
      case rel=>exact⟨k+1,10*n+(y-48),by omega,by omega,h4,by go_num,by go_num,H3⟩
      case measure=>simp[intOf];omega
     have HE:=Qd (HR1.out (by unfold Nw.k7;rw[H2.out (by rw[HD.out];exact decide_eq_false (by omega))];omega));go_wp2
     go_ret2
     exact⟨HE.out,rfl⟩
    have HE:=Qd (HR1.out (by unfold Nw.k7;rw[H2.out (by rw[HD.out];exact decide_eq_false (by omega))];omega));go_wp2
    go_ret2
    exact⟨HE.out,rfl⟩
   have HE:=Qd (HR1.out (by unfold Nw.k7;have:=H.out.le;omega));go_wp2
   go_ret2
   exact⟨HE.out,rfl⟩
  have HE:=Qd (HR1.out (by unfold Nw.k7;have:=H.out.le;have:=Dg.lead_le s;omega));have e:k=s.length:=by omega
  replace e:=Qd e;go_wp2
  go_ret2
  exact⟨HE.out,rfl⟩
section
open Go Go.RowKit
structure Turns (r:Nat) (J:Nat->World->Prop):Prop where
 more:∀k A B,J k A->Below A.heap.size A B->J k B
 set:∀k A (v:List UInt8),J k A->J k (A.setCell ⟨r,0,none⟩ (.string ⟨v.toArray⟩))
def Dt {α:Type}(n:Nat)(P:Program)(g:Nat)(lb:Array Value)(encs:α->Array Value)(xs:List α)(r:Nat)(ks:List Nat)(w:World):Prop:=
 ∀(l:Nat) (J Jx:Nat->World->Prop) (W:World),Below w.heap.size w W->Turns r J->Turns r Jx->
  (∀k (hk:k<xs.length) W1,J k W1->YieldAt Fence.wide (n-1) P l (encs xs[k]) W1 λe W'=>(e= .returned (.bool true)/\J (k+1) W'/\∀b∈ks,W'.heap[b]? =W1.heap[b]?)\/(e= .returned (.bool false)/\Jx k W'))->
  J 0 W->CallsIn Fence.wide n P g (#[.func (.yield l) #[] #[]]++lb) W λe W'=>(∃v,e= .returned v)/\(J xs.length W'\/∃k,k<xs.length/\Jx k W')
def Z8 (ks:List Nat)(I Ix:Nat->World->Prop)(k:Nat)(W:World):Exit->Act->World->Prop
 | .normal,_,W'=>KeepsOthers W W'/\(∀b∈ks,W'.heap[b]? =W.heap[b]?)/\I (k+1) W'
 | .ret,_,W'=>KeepsOthers W W'/\Ix k W'
 |_,_,_=>False
structure Uo (r B:Nat) (I:Nat->World->Prop):Prop where
 own:OwnFrom B I
 set:∀k A (v:List UInt8),I k A->I k (A.setCell ⟨r,0,none⟩ (.string ⟨v.toArray⟩))
theorem B6 {w w':World}(h:Below w.heap.size w w'):w.grownBy w' none:=⟨h.os,h.tape,h.output,h.size,λk hk _=>h.block k hk⟩
theorem Ze {W:World}{a:Addr}{v:Value}{k:Nat}(h:k≠a.block):(W.setCell a v).heap[k]? =W.heap[k]? :=by
 show(W.heap.modify a.block _)[k]? =_;rw[Array.getElem?_modify,if_neg (λe=>h e.symm)]
theorem Gn {r B p q:Nat}{I:Nat->World->Prop}{o o':Obj}(h:Uo r B I)(hp:p≠r)(hq:q≠r):Turns r (λk W=>I k W/\W.heap[p]? =some o/\W.heap[q]? =some o'):=
 ⟨λk A A' ⟨h1,h2,h3⟩ hb=>⟨h.own k A A' none h1 (B6 hb) (λr e=>by cases e),(hb.block _ (Array.getElem?_eq_some_iff.1 h2).1).trans h2,(hb.block _ (Array.getElem?_eq_some_iff.1 h3).1).trans h3⟩,
  λk A v ⟨h1,h2,h3⟩=>⟨h.set k A v h1,(Ze hp).trans h2,(Ze hq).trans h3⟩⟩
section
variable {n : Nat} {P : Program}
theorem Li {α:Type}{g:Operand}{ps:Array Tmp}{assign body:Code}{Q:Exit->Act->World->Prop}{a:Act}{w:World}{gf:Nat}{lb:Array Value}(hg:a.eval g= .func (.func gf) #[] lb)
 (eg:∀args w,(callFunc gf args).run P w= .ok (.enter gf args) w) {encs:α->Array Value} {xs:List α} {r:Nat} {ks:List Nat} (hr:r<w.heap.size) (hks:∀b∈ks,b<w.heap.size) (hn:1<=n) (hseq:Dt (n-1) P gf lb encs xs r ks w) (hps:∀x,(encs x).size=ps.size)
 (I Ix:Nat->World->Prop) (hI:Uo r w.heap.size I) (hIx:Uo r w.heap.size Ix) (h0:I 0 w) (a₁:α->Act)
 (hassign:∀(l:Nat) (x:α) (W:World) (K:Act->World->Prop),K (a₁ x) W->assign.wpIn (Fence.wide.inRound l) (n-1-1) P (Exit.then K (λ_ _ _=>False)) {tmps:=(ps.zip (encs x)).foldl (λt (p,v)=>t.setIfInBounds p v) a.tmps,defers:=[]} W)
 (hbody:∀(l k:Nat) (hk:k<xs.length) (W:World),I k W->body.wpIn (Fence.wide.inRound l) (n-1-1) P (Z8 ks I Ix k W) (a₁ xs[k]) W)
 (hdone:∀(D:Nat) (W:World),w.heap.size<=D->I xs.length W->W.heap[D]? =some (.deferred (some []))->Q .normal {a with defers:={target:= .collected D,args:= #[]}::a.defers} W)
 (hstop:∀(D k:Nat) (W:World),w.heap.size<=D->k<xs.length->Ix k W->W.heap[D]? =some (.deferred (some []))->Code.ret.wpIn Fence.wide n P Q {a with defers:={target:= .collected D,args:= #[]}::a.defers} W):
 (Code.rangeFunc g ps assign body).wpIn Fence.wide n P Q a w:=by
 refine wpIn_rangeFunc ?_;intro fn hfn;rw[show Fence.wide.round=none from rfl];obtain⟨D,hD⟩:∃D,D=w.heap.size:=⟨_,rfl⟩;obtain⟨rec,hrec⟩:∃rec:LoopState->Option Code->Loop,rec=λst pe=>{state:=st,pending:=pe,fn,tmps:=a.tmps,params:=ps,assign,body,defers:=D}:=⟨_,rfl⟩;obtain⟨W1,hW1⟩:∃W1,(w.alloc (.deferred (some []))).alloc (.loop (rec .ready none))=W1:=⟨_,rfl⟩;have hL:W1.heap[D+1]? =some (.loop (rec .ready none)):=by
  rw[<-hW1,hD];have:=World.alloc_heap_new (w.alloc (.deferred (some []))) (.loop (rec .ready none));rwa[World.size_alloc] at this
 have hK:W1.heap[D]? =some (.deferred (some [])):=by
  rw[<-hW1,hD];exact(Below.heap_alloc _ _ _ (by simp)).trans (World.alloc_heap_new w _)
 have hI1:I 0 W1:=by rw[<-hW1];exact hI.own.alloc _ (hI.own.alloc _ h0)
 have hb1:Below w.heap.size w W1:=by rw[<-hW1];exact((Below.refl _ w).alloc Lr _).alloc (by simp) _
 have fin:∀(jump:Option Code) (W W3:World),W.heap[D+1]? =some (.loop (rec .ready none))->W.heap[D]? =some (.deferred (some []))->KeepsOthers (W.putObj (D+1) (.loop {rec .ready none with state:= .busy})) W3->
  ∃o,W3.heap[D+1]? =some o/\o.isCells=false/\(Instr.endRound (D+1) jump).run P W3= .ok (.bool jump.isNone) (W3.putObj (D+1) (.loop (rec (if jump.isNone then .ready else .done) jump)))/\
   (W3.putObj (D+1) (.loop (rec (if jump.isNone then .ready else .done) jump))).heap[D+1]? =some (.loop (rec (if jump.isNone then .ready else .done) jump))/\
   (W3.putObj (D+1) (.loop (rec (if jump.isNone then .ready else .done) jump))).heap[D]? =some (.deferred (some [])):=by
  intro jump W W3 hl hk h3;have hlt:=(Array.getElem?_eq_some_iff.1 hl).1;have e1:=h3.same (D+1) _ (World.putObj_heap_same hlt) rfl;have e2:=h3.same D _ ((World.putObj_heap_other (by omega)).trans hk) rfl;refine⟨_,e1,rfl,?_,World.putObj_heap_same (Array.getElem?_eq_some_iff.1 e1).1,(World.putObj_heap_other (by omega)).trans e2⟩;have:=run_endRound (P:=P) jump e1;rw[hrec] at this⊢;exact this
 refine⟨D+1,[{target:= .collected D,args:= #[]}],W1,{target:= .fn (.func gf) lb,args:= #[.func (.yield (D+1)) #[] #[]]},W1,gf,#[.func (.yield (D+1)) #[] #[]]++lb,W1,?_,?_,?_,?_,λ_=>hn,?_⟩
 ·rw[<-hW1,hrec,hD];exact run_enterLoop_outer _ _ _ _ _
 ·simp only[resolve,hg]
  simp[go_sem]
 ·exact λ_ _=>trivial
 ·simp[invoke,go_sem,eg]
 refine(hseq (D+1) (λk W=>I k W/\W.heap[D+1]? =some (.loop (rec .ready none))/\W.heap[D]? =some (.deferred (some []))) (λk W=>Ix k W/\W.heap[D+1]? =some (.loop (rec .done (some .ret)))/\W.heap[D]? =some (.deferred (some []))) W1 hb1
  (Gn hI (by omega) (by omega)) (Gn hIx (by omega) (by omega)) ?_ ⟨hI1,hL,hK⟩).mono ?_
 ·rintro k hk W ⟨hi,hl,hd⟩
  have hlt:=(Array.getElem?_eq_some_iff.1 hl).1;have hy:=run_yield (P:=P) (args:=encs xs[k]) hl (by rw[hrec];exact hps _);rw[hrec] at hy;refine⟨fn,_,assign,body,hy,roundIn_of_wpIn hfn (hassign _ xs[k] W _ ⟨_,run_beginRound hl (by rw[hrec]),?_⟩)⟩;refine wpIn_mono (hbody _ k hk _ (hI.own.putObj _ hi (by omega) hl rfl)) ?_;rintro e a3 W3 hp;cases e with
  |normal=>
   obtain⟨h3,hr3,hi3⟩:=hp;obtain⟨o,e0,e1,e2,e3,e4⟩:=fin none W W3 hl hd h3;exact⟨_,_,e2,.inl ⟨rfl,⟨hI.own.putObj _ hi3 (by omega) e0 e1,e3,e4⟩,λb hb=>by
    have:=hks b hb;exact(World.putObj_heap_other (by omega)).trans ((hr3 b hb).trans (World.putObj_heap_other (by omega)))⟩⟩
  |ret=>
   obtain⟨h3,hi3⟩:=hp;obtain⟨o,e0,e1,e2,e3,e4⟩:=fin (some .ret) W W3 hl hd h3;exact⟨_,_,e2,.inr ⟨rfl,hIx.own.putObj _ hi3 (by omega) e0 e1,e3,e4⟩⟩
  |exit id=>exact hp.elim
  |goto t=>exact hp.elim
  |panic ch=>exact hp.elim
  |outgrown=>exact hp.elim
 rintro e W2 ⟨⟨v,rfl⟩,(⟨hi,hl,hd⟩ |⟨k,hk,hi,hl,hd⟩)⟩
 ·exact⟨none,_,by have:=run_endLoop (P:=P) hl (by rw[hrec];simp);rw[hrec] at this;exact this,hdone _ _ (by omega) (hI.own.putObj _ hi (by omega) hl rfl) ((World.putObj_heap_other (by omega)).trans hd)⟩
 exact⟨some .ret,_,by have:=run_endLoop (P:=P) hl (by rw[hrec];simp);rw[hrec] at this;exact this,hstop _ k _ (by omega) hk (hIx.own.putObj _ hi (by omega) hl rfl) ((World.putObj_heap_other (by omega)).trans hd)⟩
end
end
end Go.Proofs.YtogjgbmngagimaaGreatDoor
