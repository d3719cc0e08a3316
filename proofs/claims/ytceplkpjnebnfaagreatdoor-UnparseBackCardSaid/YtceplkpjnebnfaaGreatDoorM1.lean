/- Texts of this proof, joined. -/
import Derived.Lib.ItoaMem
import GoSem.Core.Utf8
import Derived.Test.YtceplkpjnebnfaaGreatDoorProg
import Derived.WalkKit
import Derived.WalkSpells
import Derived.WalkLawsBesides
import Derived.Lib.Hide
import Derived.Laws.Rows
import Derived.Below
set_option linter.all false
set_option maxHeartbeats 8000000
set_option maxRecDepth 100000
theorem Go.Qd {p : Prop} (h : p) : Go.RowKit.Hid p := h
theorem Lr{n:Nat}:n<=n:=Nat.le_refl n
theorem Br{B:Nat}{w:Go.World}:Go.RowKit.Below B w w:=Go.RowKit.Below.refl B w
namespace Nt
def val:List Nat->Nat
 | []=>0
 |d::r=>d+4294967296*val r
def Ok (l:List Nat):Prop:=∀d∈l,d<4294967296
def digs (n:Nat):List Nat:=if h:n=0 then[] else n%4294967296::digs (n/4294967296)
termination_by n
decreasing_by omega
def Top (l:List Nat):Prop:=∀h:l≠[],l.getLast h≠0
theorem digs_zero:digs 0=[]:=by rw[digs];rfl
theorem digs_pos {n:Nat}(h:n≠0):digs n=n%4294967296::digs (n/4294967296):=by rw[digs,dif_neg h]
theorem val_digs (n:Nat):val (digs n)=n:=by
 induction n using Nat.strongRecOn with
 |_ n ih=>
  by_cases h:n=0
  ·subst h;rw[digs_zero];rfl
  rw[digs_pos h,val,ih _ (by omega)];omega
theorem ok_digs (n:Nat):Ok (digs n):=by
 induction n using Nat.strongRecOn with
 |_ n ih=>
  by_cases h:n=0
  ·subst h;rw[digs_zero];intro d hd;cases hd
  rw[digs_pos h];intro d hd;rcases List.mem_cons.1 hd with rfl |hd
  ·omega
  exact ih _ (by omega) d hd
theorem digs_nil_iff {n:Nat}:digs n=[]↔n=0:=by
 constructor
 ·intro h
  by_cases h0:n=0
  ·exact h0
  rw[digs_pos h0] at h;cases h
 rintro rfl;exact digs_zero
theorem top_digs (n:Nat):Top (digs n):=by
 induction n using Nat.strongRecOn with
 |_ n ih=>
  by_cases h:n=0
  ·subst h;rw[digs_zero];intro h;exact absurd rfl h
  intro hne;simp only[digs_pos h];by_cases h2:n/4294967296=0
  ·simp only[h2,digs_zero,List.getLast_singleton];omega
  rw[List.getLast_cons (by rw[ne_eq,digs_nil_iff];exact h2)];exact ih _ (by omega) _
theorem Pha {d:Nat}{r:List Nat}(h:Top (d::r)):Top r:=by
 intro hne;have:=h (by simp);rwa[List.getLast_cons hne] at this
theorem Gk {d:Nat}{r:List Nat}(h:Ok (d::r)):d<4294967296/\Ok r:=⟨h d List.mem_cons_self,λx hx=>h x (List.mem_cons_of_mem _ hx)⟩
theorem digs_val:∀{l:List Nat},Ok l->Top l->digs (val l)=l
 | [],_,_=>by rw[val,digs_zero]
 |d::r,ho,ht=>by
  obtain⟨hd,hr⟩:=Gk ho;have ih:=digs_val hr (Pha ht);by_cases h0:val (d::r)=0
  ·exfalso
   rw[val] at h0;have hr0:val r=0:=by omega
   rw[hr0,digs_zero] at ih;subst ih;exact ht (by simp) (by simp;omega)
  rw[digs_pos h0,val];rw[show(d+4294967296*val r)%4294967296=d by omega,show(d+4294967296*val r)/4294967296=val r by omega,ih]
theorem Sc:∀(a b:List Nat),val (a++b)=val a+4294967296^a.length*val b
 | [],b=>by simp[val]
 |d::r,b=>by
  rw[List.cons_append,val,Sc r b,val,List.length_cons,Nat.pow_succ]
  grind
theorem val_lt:∀{l:List Nat},Ok l->val l<4294967296^l.length
 | [],_=>by simp[val]
 |d::r,ho=>by
  obtain⟨hd,hr⟩:=Gk ho;have ih:=val_lt hr;rw[val,List.length_cons,Nat.pow_succ];generalize 4294967296^r.length=p at ih⊢;omega
theorem val_take_succ {l:List Nat}{i:Nat}(h:i<l.length):val (l.take (i+1))=val (l.take i)+4294967296^i*l[i]:=by
 rw[List.take_succ_eq_append_getElem h,Sc];simp[val,Nat.min_eq_left (Nat.le_of_lt h)]
theorem Se (l:List Nat)(i:Nat)(h:i<=l.length):val l=val (l.take i)+4294967296^i*val (l.drop i):=by
 have:=Sc (l.take i) (l.drop i);rw[List.take_append_drop,List.length_take,Nat.min_eq_left h] at this;exact this
theorem Lo:∀{l:List Nat},(∀d∈l,d=0)->val l=0
 | [],_=>rfl
 |d::r,h=>by rw[val,h d List.mem_cons_self,Lo (λx hx=>h x (List.mem_cons_of_mem _ hx))]
theorem ok_take {l:List Nat}(h:Ok l)(n:Nat):Ok (l.take n):=λd hd=>h d (List.mem_of_mem_take hd)
theorem X7 {l:List Nat}(h:Ok l)(n:Nat):Ok (l.drop n):=λd hd=>h d (List.mem_of_mem_drop hd)
theorem ok_get {l:List Nat}(h:Ok l){i:Nat}(hi:i<l.length):l[i]<4294967296:=h _ (List.getElem_mem hi)
theorem Hh {l:List Nat}(h:Ok l){i x:Nat}(hx:x<4294967296):Ok (l.set i x):=λd hd=>by
 rcases List.mem_or_eq_of_mem_set hd with h1 |h1
 ·exact h d h1
 rw[h1];exact hx
theorem take_eq_digs {l:List Nat}{n:Nat}(ho:Ok l)(hn:n<=l.length)(hz:∀j (hj:j<l.length),n<=j->l[j]=0)(ht:∀h:0<n,l[n-1]'(by omega)≠0):l.take n=digs (val l):=by
 have hv:val (l.drop n)=0:=Lo λd hd=>by
  obtain⟨j,hj,rfl⟩:=List.getElem_of_mem hd;rw[List.getElem_drop];exact hz _ _ (by omega)
 have h1:=Se l n hn;rw[hv,Nat.mul_zero,Nat.add_zero] at h1;rw[h1];refine(digs_val (ok_take ho n) λhne=>?_).symm;have hpos:0<n:=by
  rcases Nat.eq_zero_or_pos n with h0 |h0
  ·subst h0;simp at hne
  exact h0
 rw[List.getLast_eq_getElem];simp only[List.length_take,Nat.min_eq_left hn,List.getElem_take];exact ht hpos
theorem take_digs:∀{l:List Nat},Ok l->l.take (digs (val l)).length=digs (val l)
 | [],_=>by simp[val,digs_zero]
 |d::r,ho=>by
  obtain⟨hd,hr⟩:=Gk ho;have ih:=take_digs hr;by_cases h0:val (d::r)=0
  ·rw[h0,digs_zero];rfl
  have e:digs (val (d::r))=d::digs (val r):=by
   rw[digs_pos h0,val];rw[show(d+4294967296*val r)%4294967296=d by omega,show(d+4294967296*val r)/4294967296=val r by omega]
  rw[e,List.length_cons,List.take_succ_cons,ih]
theorem digs_inj {a b:Nat}(h:digs a=digs b):a=b:=by rw[<-val_digs a,<-val_digs b,h]
def size (n:Nat):Nat:=(digs n).length
theorem digs_len_le {l:List Nat}(h:Ok l):(digs (val l)).length<=l.length:=by
 have key:∀(k n:Nat),n<4294967296^k->(digs n).length<=k:=by
  intro k
  induction k with
  |zero=>intro n hn;rw[show n=0 by simpa using hn,digs_zero];simp
  |succ k ih=>
   intro n hn;by_cases h0:n=0
   ·subst h0;rw[digs_zero];simp
   rw[digs_pos h0,List.length_cons];have:=ih (n/4294967296) (by rw[Nat.pow_succ] at hn;rw[Nat.div_lt_iff_lt_mul (by omega)];exact hn);omega
 exact key _ _ (val_lt h)
theorem digs_len_lt {n k:Nat}(h:n<4294967296^k):(digs n).length<=k:=by
 have h2:=digs_len_le (l:=(List.range k).map λi=>n/4294967296^i%4294967296) (λd hd=>by
  obtain⟨i,_,rfl⟩:=List.mem_map.1 hd;omega)
 have key:∀(k n:Nat),n<4294967296^k->(digs n).length<=k:=by
  intro k
  induction k with
  |zero=>intro n hn;rw[show n=0 by simpa using hn,digs_zero];simp
  |succ k ih=>
   intro n hn;by_cases h0:n=0
   ·subst h0;rw[digs_zero];simp
   rw[digs_pos h0,List.length_cons];have:=ih (n/4294967296) (by rw[Nat.pow_succ] at hn;rw[Nat.div_lt_iff_lt_mul (by omega)];exact hn);omega
 exact key k n h
theorem digs_ge {n:Nat}(h:n≠0):4294967296^((digs n).length-1)<=n:=by
 induction n using Nat.strongRecOn with
 |_ n ih=>
  rw[digs_pos h,List.length_cons,Nat.add_sub_cancel];by_cases h2:n/4294967296=0
  ·rw[h2,digs_zero];simp;omega
  have:=ih _ (by omega) h2;have hl:(digs (n/4294967296)).length≠0:=by
   intro e;exact h2 (digs_nil_iff.1 (List.eq_nil_of_length_eq_zero e))
  obtain⟨m,hm⟩:∃m,(digs (n/4294967296)).length=m+1:=⟨(digs (n/4294967296)).length-1,by omega⟩;rw[hm] at this⊢;rw[Nat.add_sub_cancel] at this;rw[Nat.pow_succ];omega
def cmp (x y:Nat):Int:=if x<y then-1 else if y<x then 1 else 0
theorem cmp_lt {x y:Nat}(h:x<y):cmp x y= -1:=if_pos h
theorem cmp_gt {x y:Nat}(h:y<x):cmp x y=1:=by unfold cmp;rw[if_neg (by omega),if_pos h]
theorem cmp_eq (x:Nat):cmp x x=0:=by unfold cmp;rw[if_neg (by omega),if_neg (by omega)]
theorem val_lt_of {a b:List Nat}{i:Nat}(ha:Ok a)(hi:i<a.length)(hi':i<b.length)(hd:a.drop (i+1)=b.drop (i+1))(hlt:a[i]<b[i]):val a<val b:=by
 have h1:=Se a i (by omega);have h2:=Se b i (by omega);rw[List.drop_eq_getElem_cons hi,val] at h1;rw[List.drop_eq_getElem_cons hi',val,<-hd] at h2;have h3:=val_lt (ok_take ha i);rw[List.length_take,Nat.min_eq_left (by omega)] at h3;generalize val (a.drop (i+1))=r at h1 h2;generalize a[i]=x at h1 hlt;generalize b[i]=y at h2 hlt;generalize 4294967296^i=p at h1 h2 h3;generalize val (a.take i)=s at h1 h3;generalize val (b.take i)=t at h2;have h4:p*(x+4294967296*r)+p<=p*(y+4294967296*r):=by
  have h5:p*(x+4294967296*r+1)=p*(x+4294967296*r)+p:=Nat.mul_succ _ _;have h6:=Nat.mul_le_mul_left p (show x+4294967296*r+1<=y+4294967296*r by omega);omega
 omega
theorem digs_len_mono {x y:Nat}(h:(digs x).length<(digs y).length):x<y:=by
 have hy:y≠0:=by rintro rfl;rw[digs_zero] at h;simp at h
 have h1:=digs_ge hy;have h2:=val_lt (ok_digs x);rw[val_digs] at h2;have h3:(4294967296:Nat)^(digs x).length<=4294967296^((digs y).length-1):=Nat.pow_le_pow_right (by omega) (by omega);omega
def pad (a:List Nat)(n:Nat):List Nat:=a++List.replicate (n-a.length) 0
theorem val_pad (a:List Nat)(n:Nat):val (pad a n)=val a:=by
 unfold pad;rw[Sc,Lo (λd hd=>(List.mem_replicate.1 hd).2),Nat.mul_zero,Nat.add_zero]
theorem pad_len {a:List Nat}{n:Nat}(h:a.length<=n):(pad a n).length=n:=by simp[pad];omega
theorem ok_pad {a:List Nat}(h:Ok a)(n:Nat):Ok (pad a n):=λd hd=>by
 rcases List.mem_append.1 hd with h1 |h1
 ·exact h d h1
 rw[(List.mem_replicate.1 h1).2];omega
theorem Qha {a:List Nat}{n i:Nat}(hi:i<(pad a n).length):(pad a n)[i]? =some (a.getD i 0):=by
 unfold pad at hi⊢;rw[List.length_append,List.length_replicate] at hi;rw[List.getD_eq_getElem?_getD,List.getElem?_append]
 split
 ·rename_i h;rw[List.getElem?_eq_getElem h];rfl
 rename_i h;rw[List.getElem?_replicate,if_pos (by omega),List.getElem?_eq_none (by omega)];rfl
theorem pad_get {a:List Nat}{n i:Nat}(hi:i<(pad a n).length):(pad a n)[i]=a.getD i 0:=by
 have:=Qha hi;rw[List.getElem?_eq_getElem hi] at this;exact Option.some.inj this
theorem Y7 {l:List Nat}(ho:Ok l)(h:l≠[]->4294967296^(l.length-1)<=val l):digs (val l)=l:=by
 refine digs_val ho λhne hz=>?_;have h1:=h hne;have hl:0<l.length:=List.length_pos_iff.2 hne;have e:l=l.take (l.length-1)++[0]:=by
  have:=List.dropLast_concat_getLast hne;rw[hz,List.dropLast_eq_take] at this;exact this.symm
 have hv:val l=val (l.take (l.length-1)):=by
  have:=congrArg val e;rw[Sc] at this;rw[this];simp[val]
 have h2:=val_lt (ok_take ho (l.length-1));rw[List.length_take,Nat.min_eq_left (by omega)] at h2;omega
theorem Cj (l:List Nat)(k:Nat):val (l.take (k+1))=val (l.take k)+4294967296^k*l.getD k 0:=by
 by_cases h:k<l.length
 ·rw[val_take_succ h,List.getD_eq_getElem?_getD,List.getElem?_eq_getElem h];rfl
 rw[List.take_of_length_le (by omega),List.take_of_length_le (by omega),List.getD_eq_getElem?_getD,List.getElem?_eq_none (by omega)];simp
theorem Nh {l:List Nat}{k x:Nat}(h:k<l.length):val ((l.set k x).take (k+1))=val (l.take k)+4294967296^k*x:=by
 rw[val_take_succ (by simpa using h),List.getElem_set_self,List.take_set_of_le Lr]
theorem drop_set {l:List Nat}{k x:Nat}:(l.set k x).drop (k+1)=l.drop (k+1):=by
 rw[List.drop_set,if_pos (by omega)]
theorem digs_len_le_of {x y:Nat}(h:y<=x):(digs y).length<=(digs x).length:=by
 rcases Nat.lt_or_ge (digs x).length (digs y).length with h1 |h1
 ·have:=digs_len_mono h1;omega
 exact h1
theorem cmp_neg {x y:Nat}:cmp x y<0↔x<y:=by
 unfold cmp
 split
 ·simp_all
 split<;>simp<;>omega
def AddUp (a b cur:List Nat)(k c:Nat):Prop:=cur.length=k/\Ok cur/\val cur+c*4294967296^k=val (a.take k)+val (b.take k)
theorem addUp_step {a b cur:List Nat}{k c:Nat}(h:AddUp a b cur k c):AddUp a b (cur++[(a.getD k 0+b.getD k 0+c)%4294967296]) (k+1) ((a.getD k 0+b.getD k 0+c)/4294967296):=by
 obtain⟨h1,h2,h3⟩:=h;refine⟨by simp[h1],?_,?_⟩
 ·intro d hd
  rcases List.mem_append.1 hd with h4 |h4
  ·exact h2 d h4
  simp at h4;omega
 rw[Sc,Cj,Cj,h1,Nat.pow_succ];simp only[val,Nat.mul_zero,Nat.add_zero];have e:a.getD k 0+b.getD k 0+c=(a.getD k 0+b.getD k 0+c)%4294967296+4294967296*((a.getD k 0+b.getD k 0+c)/4294967296):=by omega
 generalize 4294967296^k=p at h3⊢;generalize(a.getD k 0+b.getD k 0+c)%4294967296=s at e⊢;generalize(a.getD k 0+b.getD k 0+c)/4294967296=d at e⊢;generalize a.getD k 0=x at e⊢;generalize b.getD k 0=y at e⊢
 grind
theorem getD_lt {l:List Nat}(h:Ok l)(k:Nat):l.getD k 0<4294967296:=by
 rw[List.getD_eq_getElem?_getD];rcases Nat.lt_or_ge k l.length with h1 |h1
 ·rw[List.getElem?_eq_getElem h1];exact ok_get h h1
 rw[List.getElem?_eq_none h1];show 0<4294967296;omega
theorem addUp_end {a b cur:List Nat}{n c:Nat}(ha:Ok a)(hb:Ok b)(hla:a.length<=n)(hlb:b.length<=n)(h:AddUp a b cur (n+1) c):val cur=val a+val b:=by
 obtain⟨h1,h2,h3⟩:=h;rw[List.take_of_length_le (by omega),List.take_of_length_le (by omega)] at h3;have p1:=val_lt ha;have p2:=val_lt hb;have q1:(4294967296:Nat)^a.length<=4294967296^n:=Nat.pow_le_pow_right (by omega) hla;have q2:(4294967296:Nat)^b.length<=4294967296^n:=Nat.pow_le_pow_right (by omega) hlb;rw[Nat.pow_succ] at h3;generalize 4294967296^n=p at*;rcases Nat.eq_zero_or_pos c with h0 |h0
 ·subst h0;omega
 exfalso
 have:p*4294967296<=c*(p*4294967296):=Nat.le_mul_of_pos_left _ h0;omega
def SubUp (a b cur:List Nat)(k c:Nat):Prop:=cur.length=k/\Ok cur/\val cur+val (b.take k)=val (a.take k)+c*4294967296^k
theorem subUp_step {a b cur:List Nat}{k c s d:Nat}(h:SubUp a b cur k c)(hs:s<4294967296)(e:a.getD k 0+4294967296*d=s+b.getD k 0+c):SubUp a b (cur++[s]) (k+1) d:=by
 obtain⟨h1,h2,h3⟩:=h;refine⟨by simp[h1],?_,?_⟩
 ·intro d hd
  rcases List.mem_append.1 hd with h4 |h4
  ·exact h2 d h4
  simp at h4;omega
 rw[Sc,Cj,Cj,h1,Nat.pow_succ];simp only[val,Nat.mul_zero,Nat.add_zero];generalize 4294967296^k=p at h3⊢;generalize a.getD k 0=x at e⊢;generalize b.getD k 0=y at e⊢
 grind
theorem subUp_end {a b cur:List Nat}{n c:Nat}(hla:a.length<=n)(hlb:b.length<=n)(hle:val b<=val a)(h:SubUp a b cur n c):val cur=val a-val b:=by
 obtain⟨h1,h2,h3⟩:=h;rw[List.take_of_length_le (by omega),List.take_of_length_le (by omega)] at h3;have:=val_lt h2;rw[h1] at this;generalize 4294967296^n=p at*;rcases Nat.eq_zero_or_pos c with h0 |h0
 ·subst h0;omega
 exfalso
 have:p<=c*p:=Nat.le_mul_of_pos_left _ h0;omega
def TwiceUp (a:List Nat)(bit:Nat)(cur:List Nat)(k c:Nat):Prop:=cur.length=k/\Ok cur/\val cur+c*4294967296^k=2*val (a.take k)+bit
theorem twiceUp_step {a cur:List Nat}{bit k c:Nat}(h:TwiceUp a bit cur k c):TwiceUp a bit (cur++[(2*a.getD k 0+c)%4294967296]) (k+1) ((2*a.getD k 0+c)/4294967296):=by
 obtain⟨h1,h2,h3⟩:=h;refine⟨by simp[h1],?_,?_⟩
 ·intro d hd
  rcases List.mem_append.1 hd with h4 |h4
  ·exact h2 d h4
  simp at h4;omega
 rw[Sc,Cj,h1,Nat.pow_succ];simp only[val,Nat.mul_zero,Nat.add_zero];have e:2*a.getD k 0+c=(2*a.getD k 0+c)%4294967296+4294967296*((2*a.getD k 0+c)/4294967296):=by omega
 generalize 4294967296^k=p at h3⊢;generalize(2*a.getD k 0+c)%4294967296=s at e⊢;generalize(2*a.getD k 0+c)/4294967296=d at e⊢;generalize a.getD k 0=x at e⊢
 grind
theorem twiceUp_end {a cur:List Nat}{bit c:Nat}(ha:Ok a)(hb:bit<=1)(h:TwiceUp a bit cur (a.length+1) c):val cur=2*val a+bit:=by
 obtain⟨h1,h2,h3⟩:=h;rw[List.take_of_length_le (by omega)] at h3;have p1:=val_lt ha;rw[Nat.pow_succ] at h3;generalize 4294967296^a.length=p at*;rcases Nat.eq_zero_or_pos c with h0 |h0
 ·subst h0;omega
 exfalso
 have:p*4294967296<=c*(p*4294967296):=Nat.le_mul_of_pos_left _ h0;omega
theorem ok_nil:Ok []:=λd hd=>by cases hd
theorem addUp_start (a b:List Nat):AddUp a b [] 0 0:=⟨rfl,ok_nil,by simp[val]⟩
theorem subUp_start (a b:List Nat):SubUp a b [] 0 0:=⟨rfl,ok_nil,by simp[val]⟩
theorem twiceUp_start (a:List Nat)(bit:Nat):TwiceUp a bit [] 0 bit:=⟨rfl,ok_nil,by simp[val]⟩
theorem bit_limb {a:List Nat}(ha:Ok a)(i:Nat):a.getD (i/32) 0/2^(i%32)%2=val a/2^i%2:=by
 have key:∀(k:Nat) (l:List Nat),Ok l->val l/4294967296^k%4294967296=l.getD k 0:=by
  intro k
  induction k with
  |zero=>
   intro l hl;cases l with
   |nil=>simp[val]
   |cons d r=>have:=(Gk hl).1;simp[val];omega
  |succ k ih=>
   intro l hl;cases l with
   |nil=>simp[val]
   |cons d r=>
    have h1:=(Gk hl).1;rw[List.getD_cons_succ,<-ih r (Gk hl).2,val,Nat.pow_succ,Nat.mul_comm (4294967296^k),<-Nat.div_div_eq_div_mul];rw[show(d+4294967296*val r)/4294967296=val r by omega]
 rw[<-key _ a ha];have e:(2:Nat)^i=4294967296^(i/32)*2^(i%32):=by
  rw[show(4294967296:Nat)=2^32 from rfl,<-Nat.pow_mul,<-Nat.pow_add,Nat.div_add_mod]
 rw[e,<-Nat.div_div_eq_div_mul];generalize val a/4294967296^(i/32)=v;have h32:i%32<32:=Nat.mod_lt _ (by omega);generalize i%32=j at h32;have t0:(v%2^32).testBit j=v.testBit j:=by rw[Nat.testBit_mod_two_pow,decide_eq_true h32,Bool.true_and]
 rw[Nat.testBit_eq_decide_div_mod_eq,Nat.testBit_eq_decide_div_mod_eq,decide_eq_decide,show(2:Nat)^32=4294967296 from rfl] at t0;have m1:=Nat.mod_lt (v%4294967296/2^j) (show 0<2 by omega);have m2:=Nat.mod_lt (v/2^j) (show 0<2 by omega);generalize v%4294967296/2^j%2=p at*;generalize v/2^j%2=q at*;omega
theorem half_step (v k:Nat):v/2^k=2*(v/2^(k+1))+v/2^k%2:=by
 rw[Nat.pow_succ,<-Nat.div_div_eq_div_mul];omega
theorem len_le {a:List Nat}(ha:Ok a){x:Nat}(h:x<=val a):(digs x).length<=a.length:=digs_len_lt (Nat.lt_of_le_of_lt h (val_lt ha))
theorem top_zero {a:List Nat}(ha:Ok a):val a/2^(32*a.length)=0:=by
 refine Nat.div_eq_of_lt ?_;rw[Nat.pow_mul];exact val_lt ha
theorem div_step {n b q r bit:Nat}(hb:0<b)(hq:q=n/b)(hr:r=n%b)(hbit:bit<=1):
 (b<=2*r+bit->2*q+1=(2*n+bit)/b/\2*r+bit-b=(2*n+bit)%b)/\(¬b<=2*r+bit->2*q+0=(2*n+bit)/b/\2*r+bit=(2*n+bit)%b):=by
 have h1:=Nat.div_add_mod n b;have h2:=Nat.mod_lt n hb;rw[<-hq,<-hr] at h1;rw[<-hr] at h2
 constructor
 ·intro h
  have e:2*n+bit=(2*r+bit-b)+b*(2*q+1):=by
   have h3:b*(2*q+1)=2*(b*q)+b:=by grind
   omega
  rw[e,Nat.add_mul_div_left _ _ hb,Nat.add_mul_mod_self_left,Nat.div_eq_of_lt (by omega),Nat.mod_eq_of_lt (by omega)];exact⟨by omega,rfl⟩
 intro h;have e:2*n+bit=(2*r+bit)+b*(2*q):=by
  have h3:b*(2*q)=2*(b*q):=by grind
  omega
 rw[e,Nat.add_mul_div_left _ _ hb,Nat.add_mul_mod_self_left,Nat.div_eq_of_lt (by omega),Nat.mod_eq_of_lt (by omega)];exact⟨by omega,rfl⟩
def quo (x y:Nat):Nat:=x/y
def rest (x y:Nat):Nat:=if y=0 then 0 else x%y
theorem quo_zero (x:Nat):quo x 0=0:=Nat.div_zero x
theorem rest_zero (x:Nat):rest x 0=0:=if_pos rfl
theorem rest_pos {x y:Nat}(h:y≠0):rest x y=x%y:=if_neg h
theorem mul_bound {x y:Nat}(hx:x<4294967296)(hy:y<4294967296):x*y<=18446744065119617025:=by
 have:=Nat.mul_le_mul (Nat.le_of_lt_succ hx) (Nat.le_of_lt_succ hy)
 simpa using this
def ShortAt (l:List Nat)(d:Nat)(cur:List Nat)(k r:Nat):Prop:=
 cur.length=l.length/\Ok cur/\r<d/\cur.take k=l.take k/\val (cur.drop k)*d+r=val (l.drop k)
theorem short_start {l:List Nat}{d:Nat}(h:Ok l)(hd:0<d):ShortAt l d l l.length 0:=⟨rfl,h,hd,rfl,by simp[val]⟩
theorem short_get {l cur:List Nat}{d k r:Nat}(h:ShortAt l d cur (k+1) r)(hk:k<l.length):cur[k]? =some l[k]:=by
 have:(cur.take (k+1))[k]? =(l.take (k+1))[k]? :=by rw[h.2.2.2.1]
 rw[List.getElem?_take,List.getElem?_take,if_pos (by omega),if_pos (by omega),List.getElem?_eq_getElem hk] at this;exact this
theorem short_bounds {r d x:Nat}(hr:r<d)(hd:d<4294967296)(hx:x<4294967296):(r*4294967296+x)/d<4294967296/\r*4294967296+x<18446744073709551616/\(r*4294967296+x)%d<d:=by
 refine⟨?_,by omega,Nat.mod_lt _ (by omega)⟩;rw[Nat.div_lt_iff_lt_mul (by omega)];have:(r+1)*4294967296<=d*4294967296:=Nat.mul_le_mul_right _ hr;rw[Nat.mul_comm 4294967296 d];omega
theorem short_step {l cur:List Nat}{d k r:Nat}(h:ShortAt l d cur (k+1) r)(hk:k<l.length)(hl:Ok l)(hd:d<4294967296):ShortAt l d (cur.set k ((r*4294967296+l[k])/d)) k ((r*4294967296+l[k])%d):=by
 obtain⟨h1,h2,h3,h4,h5⟩:=h;have hb:=short_bounds h3 hd (ok_get hl hk);refine⟨by simpa using h1,Hh h2 hb.1,hb.2.2,?_,?_⟩
 ·rw[List.take_set_of_le Lr]
  have:=congrArg (List.take k) h4;rwa[List.take_take,List.take_take,Nat.min_eq_left (by omega)] at this
 have hc:k<cur.length:=by omega
 rw[List.drop_eq_getElem_cons (by rw[List.length_set];exact hc),List.getElem_set_self,drop_set,val,List.drop_eq_getElem_cons hk,val,<-h5];have e:=Nat.div_add_mod (r*4294967296+l[k]) d;generalize(r*4294967296+l[k])/d=q at*;generalize(r*4294967296+l[k])%d=r' at*;generalize l[k]=x at*;generalize val (cur.drop (k+1))=V at*
 grind
theorem short_end {l cur:List Nat}{d r:Nat}(h:ShortAt l d cur 0 r):val cur=val l/d/\r=val l%d:=by
 obtain⟨h1,h2,h3,h4,h5⟩:=h;rw[List.drop_zero,List.drop_zero] at h5;rw[<-h5,Nat.mul_comm,Nat.mul_add_div (by omega),Nat.div_eq_of_lt h3,Nat.mul_add_mod,Nat.mod_eq_of_lt h3];exact⟨by omega,rfl⟩
end Nt
namespace Nt
def EucAt (M x y k:Nat):Prop:=(k=0/\x*y*2<=M)\/(y<x/\x*y*2^k<=M)
theorem Rha {x y:Nat}(h:y<x)(hy:0<y):y*(x%y)*2<=x*y:=by
 have h1:x%y+y<=x:=by
  have e:=Nat.div_add_mod x y;have hq:1<=x/y:=by rw[Nat.le_div_iff_mul_le hy];omega
  have:y*1<=y*(x/y):=Nat.mul_le_mul_left _ hq;omega
 have h2:x%y<y:=Nat.mod_lt _ hy;have h3:x%y*2<=x:=by omega
 have h4:y*(x%y*2)<=y*x:=Nat.mul_le_mul_left _ h3;rw[Nat.mul_assoc,Nat.mul_comm x y];exact h4
theorem EucAt.step {M x y k:Nat}(h:EucAt M x y k)(hy:0<y):EucAt M y (x%y) (k+1):=by
 refine .inr ⟨Nat.mod_lt _ hy,?_⟩;rcases h with⟨rfl,h⟩ |⟨h1,h2⟩
 ·have h3:y*(x%y)<=y*x:=Nat.mul_le_mul_left _ (Nat.mod_le _ _)
  rw[Nat.mul_comm x y] at h;have h4:=Nat.mul_le_mul_right 2 h3;simp only[Nat.zero_add,Nat.pow_one];omega
 have h3:=Rha h1 hy;have h4:y*(x%y)*2*2^k<=x*y*2^k:=Nat.mul_le_mul_right _ h3;rw[Nat.pow_succ,Nat.mul_comm (2^k) 2,<-Nat.mul_assoc];omega
theorem EucAt.done {x y k n:Nat}(h:EucAt (2^n) x y k)(hk:n<k):y=0:=by
 rcases h with⟨rfl,h⟩ |⟨h1,h2⟩
 ·omega
 rcases Nat.eq_zero_or_pos y with h0 |h0
 ·exact h0
 exfalso
 have h3:1<=x*y:=Nat.mul_pos (by omega) h0;have h4:1*2^k<=x*y*2^k:=Nat.mul_le_mul_right _ h3;have h5:2^k<=2^n:=by omega
 have h6:=(Nat.pow_le_pow_iff_right (a:=2) (by omega)).1 h5;omega
theorem Caa (n:Nat):4294967296^n=2^(32*n):=by rw[Nat.pow_mul,show 2^32=4294967296 from rfl]
theorem Wq {a:List Nat}(ha:Ok a){n:Nat}(la:a.length<=n):val a<=2^(32*n):=by
 have h1:=val_lt ha;have h2:=Nat.pow_le_pow_right (n:=4294967296) (by omega) la;rw[Caa n] at h2;exact Nat.le_of_lt (Nat.lt_of_lt_of_le h1 h2)
theorem euc_start {a b:List Nat}{n:Nat}(ha:Ok a)(hb:Ok b)(la:a.length<=n)(lb:b.length<=n):EucAt (2^(32*n+32*n+1)) (val a) (val b) 0:=by
 refine .inl ⟨rfl,?_⟩;have h3:=Nat.mul_le_mul_right 2 (Nat.mul_le_mul (Wq ha la) (Wq hb lb));rw[<-Nat.pow_add,<-Nat.pow_succ] at h3;exact h3
theorem gcd_step (x y:Nat):Nat.gcd y (x%y)=Nat.gcd x y:=by rw[Nat.gcd_comm x y,Nat.gcd_rec y x,Nat.gcd_comm]
theorem gcd_len {a b:List Nat}{n:Nat}(ha:Ok a)(hb:Ok b)(la:a.length<=n)(lb:b.length<=n):(digs (Nat.gcd (val a) (val b))).length<=n:=by
 rcases Nat.eq_zero_or_pos (val a) with h0 |h0
 ·rw[h0,Nat.gcd_zero_left]
  exact Nat.le_trans (digs_len_le hb) lb
 exact Nat.le_trans (len_le ha (Nat.gcd_le_left _ h0)) la
end Nt
namespace Rt
structure Nm where
 neg:Bool
 top:List Nat
 bot:List Nat
deriving DecidableEq
def none_:Nm:=⟨false,[],[]⟩
def nrm (n:Bool)(x:Nat):Bool:=n&& !(x==0)
def mk (n1 n2:Bool)(x y:Nat):Nm×Int:=
 if y=0 then(none_,3)
 else if 32<(Nt.digs (x/Nat.gcd x y)).length\/32<(Nt.digs (y/Nat.gcd x y)).length then(none_,7)
 else(⟨!(x==0)&&(n1 !=n2),Nt.digs (x/Nat.gcd x y),Nt.digs (y/Nat.gcd x y)⟩,0)
def right (a:Nm):Bool:=decide (a.top.length<=32)&&decide (a.bot.length<=32)&&((mk a.neg false (Nt.val a.top) (Nt.val a.bot)).2==0)&&decide ((mk a.neg false (Nt.val a.top) (Nt.val a.bot)).1=a)
theorem mk_nrm (n1 n2:Bool)(x y:Nat):mk (nrm n1 x) (nrm n2 y) x y=mk n1 n2 x y:=by
 unfold mk nrm;by_cases hy:y=0
 ·rw[if_pos hy,if_pos hy]
 rw[if_neg hy,if_neg hy];have e:(!(x==0)&&((n1&& !(x==0))!=(n2&& !(y==0))))=(!(x==0)&&(n1 !=n2)):=by
  have h2:(y==0)=false:=by simpa using hy
  rw[h2];cases (x==0)<;>simp
 rw[e]
theorem div_gcd_zero {x y:Nat}(hy:y≠0):x/Nat.gcd x y=0↔x=0:=by
 have hg:0<Nat.gcd x y:=Nat.gcd_pos_of_pos_right _ (by omega)
 constructor
 ·intro h
  rcases Nat.eq_zero_or_pos x with h0 |h0
  ·exact h0
  have h1:=Nat.le_of_dvd h0 (Nat.gcd_dvd_left x y);have h2:=Nat.div_pos h1 hg;omega
 rintro rfl;simp
theorem right_iff {a:Nm}(ho:Nt.Ok a.top)(ho':Nt.Ok a.bot):right a=true↔a.top.length<=32/\a.bot.length<=32/\Nt.Top a.top/\Nt.Top a.bot/\a.bot≠[]/\(a.top=[]->a.neg=false)/\Nat.gcd (Nt.val a.top) (Nt.val a.bot)=1:=by
 obtain⟨n,t,u⟩:=a;unfold right;simp only[Bool.and_eq_true,decide_eq_true_eq,beq_iff_eq];unfold mk;dsimp only at ho ho'⊢
 constructor
 ·rintro⟨⟨⟨h1,h2⟩,h3⟩,h4⟩
  by_cases hy:Nt.val u=0
  ·rw[if_pos hy] at h3;cases h3
  rw[if_neg hy] at h3 h4;by_cases hl:32<(Nt.digs (Nt.val t/Nat.gcd (Nt.val t) (Nt.val u))).length\/32<(Nt.digs (Nt.val u/Nat.gcd (Nt.val t) (Nt.val u))).length
  ·rw[if_pos hl] at h3;cases h3
  rw[if_neg hl] at h4;injection h4 with e1 e2 e3
  have hg:0<Nat.gcd (Nt.val t) (Nt.val u):=Nat.gcd_pos_of_pos_right _ (by omega);have hu:Nt.val u/Nat.gcd (Nt.val t) (Nt.val u)=Nt.val u:=by
   have:=congrArg Nt.val e3;rwa[Nt.val_digs] at this
  have hgcd:Nat.gcd (Nt.val t) (Nt.val u)=1:=by
   have h5:=Nat.mul_div_cancel' (Nat.gcd_dvd_right (Nt.val t) (Nt.val u));rw[hu] at h5;have h6:Nat.gcd (Nt.val t) (Nt.val u)*Nt.val u=1*Nt.val u:=by rw[h5,Nat.one_mul]
   exact Nat.eq_of_mul_eq_mul_right (by omega) h6
  refine⟨h1,h2,?_,?_,?_,?_,hgcd⟩
  ·rw[<-e2];exact Nt.top_digs _
  ·rw[<-e3];exact Nt.top_digs _
  ·rintro rfl;exact hy rfl
  rintro rfl;rw[<-e1];rfl
 rintro⟨h1,h2,h3,h4,h5,h6,h7⟩;have hy:Nt.val u≠0:=by
  intro h;have:=Nt.digs_val ho' h4;rw[h,Nt.digs_zero] at this;exact h5 this.symm
 rw[if_neg hy,h7,Nat.div_one,Nat.div_one,Nt.digs_val ho h3,Nt.digs_val ho' h4,if_neg (by omega)];refine⟨⟨⟨h1,h2⟩,rfl⟩,?_⟩
 congr 1
 cases hn:n
 ·simp
 by_cases ht:Nt.val t=0
 ·have:=Nt.digs_val ho h3
  rw[ht,Nt.digs_zero] at this;have:=h6 this.symm;rw[hn] at this;cases this
 have:(Nt.val t==0)=false:=by simpa using ht
 rw[this];rfl
end Rt
namespace Ten
open Go Go.Lib
def Xq (d:Nat):UInt8:=UInt8.ofNat (48+d)
theorem Cq {d:Nat}(h:d<10):(Xq d).toNat=48+d:=by
 unfold Xq;rw[UInt8.toNat_ofNat'];omega
theorem dec_small {n:Nat}(h:n<10):decDigits n=[Xq n]:=decDigits_one h
theorem Sh {n:Nat}(h:¬n<10):decDigits n=decDigits (n/10)++[Xq (n%10)]:=by
 rw[decDigits,dif_neg h];rfl
theorem dec_step {q d:Nat}(hq:0<q)(hd:d<10):decDigits (10*q+d)=decDigits q++[Xq d]:=by
 rw[Sh (by omega),show(10*q+d)/10=q by omega,show(10*q+d)%10=d by omega]
theorem dec_ne (n:Nat):decDigits n≠[]:=by
 by_cases h:n<10
 ·rw[dec_small h];simp
 rw[Sh h];simp
def Mk:Nat->Nat->List UInt8
 | 0,_=>[]
 |k+1,r=>Mk k (r/10)++[Xq (r%10)]
theorem Z7 {q:Nat}(hq:0<q):∀(k r:Nat),r<10^k->decDigits (q*10^k+r)=decDigits q++Mk k r
 | 0,r,h=>by
  rw[show q*10^0+r=q by simp at h⊢;omega];simp[Mk]
 |k+1,r,h=>by
  have hr:r/10<10^k:=by rw[Nat.pow_succ] at h;omega
  have hp:0<10^k:=Nat.pow_pos (by omega);have e:q*10^(k+1)+r=10*(q*10^k+r/10)+r%10:=by
   rw[Nat.pow_succ,<-Nat.mul_assoc];omega
  rw[e,dec_step (by have:=Nat.mul_pos hq hp;omega) (by omega),Z7 hq k _ hr,Mk,List.append_assoc]
theorem Cw:∀k,Mk k 0=List.replicate k 48
 | 0=>rfl
 |k+1=>by
  rw[Mk,show 0/10=0 from rfl,Cw k,show[Xq (0%10)]=List.replicate 1 48 from rfl,List.replicate_append_replicate]
theorem dec_len:∀{k r:Nat},r<10^(k+1)->1<=(decDigits r).length/\(decDigits r).length<=k+1
 | 0,r,h=>by rw[dec_small (by simpa using h)];simp
 |k+1,r,h=>by
  by_cases h10:r<10
  ·rw[dec_small h10];simp
  rw[Sh h10];have:=dec_len (k:=k) (r:=r/10) (by rw[Nat.pow_succ] at h;omega);simp;omega
theorem Yy:∀{k r:Nat},r<10^(k+1)->Mk (k+1) r=List.replicate (k+1-(decDigits r).length) 48++decDigits r
 | 0,r,h=>by
  have h':r<10:=by simpa using h
  rw[dec_small h',Mk,Mk,Nat.mod_eq_of_lt h'];rfl
 |k+1,r,h=>by
  by_cases h10:r<10
  ·rw[dec_small h10,Mk,Nat.mod_eq_of_lt h10,show r/10=0 by omega,Cw];rfl
  have hr:r/10<10^(k+1):=by rw[Nat.pow_succ] at h;omega
  have hl:=dec_len hr;rw[Mk,Yy hr,Sh h10,List.append_assoc,List.length_append];rw[show k+1+1-((decDigits (r/10)).length+[Xq (r%10)].length)=k+1-(decDigits (r/10)).length by simp]
theorem Sha {q r:Nat}(hq:0<q)(hr:r<1000000000):decDigits (q*1000000000+r)=decDigits q++(List.replicate (9-(decDigits r).length) 48++decDigits r):=by
 have:=Z7 hq 9 r (by simpa using hr);rw[Yy (k:=8) (by simpa using hr)] at this;exact this
def numOf (s:List UInt8):Nat:=s.foldl (λn b=>10*n+(b.toNat-48)) 0
def isDig (b:UInt8):Prop:=48<=b.toNat/\b.toNat<=57
def Valid (s:List UInt8):Prop:=s≠[]/\(1<s.length->s.head?≠some 48)/\∀b∈s,isDig b
theorem numOf_snoc (s:List UInt8)(b:UInt8):numOf (s++[b])=10*numOf s+(b.toNat-48):=by
 unfold numOf;rw[List.foldl_append];rfl
theorem Dw {d:Nat}(h:d<10):isDig (Xq d):=by unfold isDig;rw[Cq h];omega
theorem Zy {a:List UInt8}(b:List UInt8)(h:a≠[]):(a++b).head?=a.head?:=by
 cases a with
 |nil=>exact absurd rfl h
 |cons x r=>rfl
theorem Tha:∀(n:Nat),0<n->(decDigits n).head?≠some 48:=by
 intro n
 induction n using Nat.strongRecOn with
 |ind n ih=>
  intro hn;by_cases h:n<10
  ·rw[dec_small h]
   intro e;injection e with e
   have:=congrArg UInt8.toNat e;rw[Cq h] at this;simp at this;omega
  rw[Sh h,Zy _ (dec_ne _)];exact ih (n/10) (by omega) (by omega)
theorem dec_valid (n:Nat):Valid (decDigits n)/\numOf (decDigits n)=n:=by
 induction n using Nat.strongRecOn with
 |ind n ih=>
  by_cases h:n<10
  ·rw[dec_small h]
   refine⟨⟨by simp,by simp,λb hb=>?_⟩,?_⟩
   ·rw[List.mem_singleton] at hb;subst hb;exact Dw h
   unfold numOf;simp[Cq h]
  obtain⟨⟨_,_,hd⟩,hv⟩:=ih (n/10) (by omega);refine⟨⟨dec_ne _,λ_=>Tha n (by omega),λb hb=>?_⟩,?_⟩
  ·rw[Sh h] at hb
   rcases List.mem_append.1 hb with hb |hb
   ·exact hd b hb
   rw[List.mem_singleton] at hb;subst hb;exact Dw (by omega)
  rw[Sh h,numOf_snoc,hv,Cq (by omega)];omega
def OutAt (v y:Nat)(s:List UInt8):Prop:=(0<y->decDigits v=decDigits y++s)/\(y=0->decDigits v=s)
theorem OutAt.start {v:Nat}(h:0<v):OutAt v v []:=⟨λ_=>by simp,λe=>by omega⟩
theorem OutAt.step {v y:Nat}{s:List UInt8}(h:OutAt v y s)(hy:0<y):OutAt v (y/10) (Xq (y%10)::s):=by
 have e:=h.1 hy;refine⟨λh1=>?_,λh0=>?_⟩
 ·rw[e,Sh (n:=y) (by omega),List.append_assoc];rfl
 rw[e,dec_small (by omega),Nat.mod_eq_of_lt (by omega)];rfl
def grp (v i:Nat):Nat:=v/1000000000^i%1000000000
theorem grp_lt (v i:Nat):grp v i<1000000000:=Nat.mod_lt _ (by omega)
theorem Az (v i:Nat):v/1000000000^(i+1)*1000000000+grp v i=v/1000000000^i:=by
 unfold grp;rw[Nat.pow_succ,<-Nat.div_div_eq_div_mul];omega
theorem div_next (v i:Nat):v/1000000000^i/1000000000=v/1000000000^(i+1):=by rw[Nat.pow_succ,Nat.div_div_eq_div_mul]
theorem grp_top {v i:Nat}(h:v/1000000000^(i+1)=0):decDigits (grp v i)=decDigits (v/1000000000^i):=by
 have:=Az v i;rw[h] at this;rw[<-this];simp
theorem grp_low {v i:Nat}(h:0<v/1000000000^(i+1)):decDigits (v/1000000000^i)=decDigits (v/1000000000^(i+1))++(List.replicate (9-(decDigits (grp v i)).length) 48++decDigits (grp v i)):=by
 rw[<-Sha h (grp_lt v i),Az]
end Ten
namespace Dg
open Ten Go
def dB (b:UInt8):Bool:=decide (48<=b.toNat/\b.toNat<=57)
theorem Nda {b:UInt8}:dB b=true↔isDig b:=by simp[dB,isDig]
def lead (s:List UInt8):Nat:=(s.takeWhile dB).length
theorem lead_le (s:List UInt8):lead s<=s.length:=by
 unfold lead
 induction s with
 |nil=>simp
 |cons b r ih=>
  rw[List.takeWhile_cons];cases dB b
  ·simp
  simp at ih⊢;omega
theorem Ola {s:List UInt8}{k:Nat}(hk:k<s.length)(h:∀i (hi:i<s.length),i<k->dB s[i]=true)(hn:dB s[k]=false):lead s=k:=by
 unfold lead
 induction s generalizing k with
 |nil=>simp at hk
 |cons b r ih=>
  rw[List.takeWhile_cons];cases k with
  |zero=>simp at hn;rw[hn];rfl
  |succ k=>
   have h0:=h 0 (by simp) (by omega);simp at h0;rw[h0];simp only[if_true,List.length_cons];rw[ih (by simpa using hk) (λi hi hik=>by have:=h (i+1) (by simpa using hi) (by omega);simpa using this) (by simpa using hn)]
theorem Bz {s:List UInt8}(h:∀i (hi:i<s.length),dB s[i]=true):lead s=s.length:=by
 unfold lead
 induction s with
 |nil=>rfl
 |cons b r ih=>
  rw[List.takeWhile_cons];have h0:=h 0 (by simp);simp at h0;rw[h0];simp only[if_true,List.length_cons];rw[ih (λi hi=>by have:=h (i+1) (by simpa using hi);simpa using this)]
theorem lead_dig {s:List UInt8}{k:Nat}(hk:k<lead s):∃h:k<s.length,dB s[k]=true:=by
 have hl:=lead_le s;refine⟨by omega,?_⟩;unfold lead at hk
 induction s generalizing k with
 |nil=>simp at hk
 |cons b r ih=>
  rw[List.takeWhile_cons] at hk;cases hb:dB b
  ·rw[hb] at hk;simp at hk
  rw[hb] at hk;cases k with
  |zero=>simpa using hb
  |succ k=>simpa using ih (by simpa using hk) (lead_le r)
theorem lead_not {s:List UInt8}(h:lead s<s.length):dB s[lead s]=false:=by
 unfold lead at h⊢
 induction s with
 |nil=>simp at h
 |cons b r ih=>
  cases hb:dB b
  ·simp[hb]
  have h':(r.takeWhile dB).length<r.length:=by simpa [List.takeWhile_cons,hb] using h
  have:=ih h';simp only[List.takeWhile_cons,hb,if_true,List.length_cons,List.getElem_cons_succ];exact this
def body (neg:Bool)(t:List UInt8):Rt.Nm×Int:=
 if 400<t.length then(Rt.none_,7)
 else if lead t=0 then(Rt.none_,1)
 else if lead t=t.length then Rt.mk neg false (numOf t) 1
 else if t.length=lead t+1\/lead (t.drop (lead t+1))<t.length-(lead t+1) then(Rt.none_,1)
 else if t.getD (lead t) 0=114 then Rt.mk neg false (numOf (t.take (lead t))) (numOf (t.drop (lead t+1)))
 else if t.getD (lead t) 0=46 then Rt.mk neg false (numOf (t.take (lead t)++t.drop (lead t+1))) (10^(t.length-(lead t+1)))
 else(Rt.none_,1)
def parse:List UInt8->Rt.Nm×Int
 | 194::175::t=>body true t
 |t=>body false t
def print (n:Rt.Nm):List UInt8:=(if n.neg then[194,175] else[])++(Lib.decDigits (Nt.val n.top)++if n.bot=[1] then[] else 114::Lib.decDigits (Nt.val n.bot))
theorem Cz (n i:Nat)(hi:i<(Lib.decDigits n).length):dB (Lib.decDigits n)[i]=true:=Nda.2 ((dec_valid n).1.2.2 _ (List.getElem_mem hi))
theorem A8 (n:Nat):0<(Lib.decDigits n).length:=List.length_pos_iff.2 (dec_ne n)
theorem mk_right {n:Rt.Nm}(h:Rt.right n=true):Rt.mk n.neg false (Nt.val n.top) (Nt.val n.bot)=(n,0):=by
 unfold Rt.right at h;simp only[Bool.and_eq_true,decide_eq_true_eq,beq_iff_eq] at h;obtain⟨⟨_,h1⟩,h2⟩:=h;exact Prod.ext h2 h1
theorem Zs {n:Rt.Nm}(h:Rt.right n=true)(hl:(Lib.decDigits (Nt.val n.top)++if n.bot=[1] then[] else 114::Lib.decDigits (Nt.val n.bot)).length<=400):
 body n.neg (Lib.decDigits (Nt.val n.top)++if n.bot=[1] then[] else 114::Lib.decDigits (Nt.val n.bot))=(n,0):=by
 have hm:=mk_right h;have hp:=A8 (Nt.val n.top);by_cases hb:n.bot=[1]
 ·rw[if_pos hb] at hl⊢
  rw[List.append_nil] at hl⊢;unfold body;rw[if_neg (by omega),Bz (Cz _),if_neg (by omega),if_pos rfl,(dec_valid _).2];rw[hb] at hm;exact hm
 rw[if_neg hb] at hl⊢;have hld:lead (Lib.decDigits (Nt.val n.top)++114::Lib.decDigits (Nt.val n.bot))=(Lib.decDigits (Nt.val n.top)).length:=by
  refine Ola (by simp) (λi hi hik=>?_) ?_
  ·rw[List.getElem_append_left hik];exact Cz _ _ _
  rw[List.getElem_append_right Lr];simp;decide
 have hq:=A8 (Nt.val n.bot);unfold body;rw[hld];rw[if_neg (by omega),if_neg (by omega),if_neg (by simp)];have e1:(Lib.decDigits (Nt.val n.top)++114::Lib.decDigits (Nt.val n.bot)).drop ((Lib.decDigits (Nt.val n.top)).length+1)=Lib.decDigits (Nt.val n.bot):=by
  rw[List.drop_append];simp
 have e2:(Lib.decDigits (Nt.val n.top)++114::Lib.decDigits (Nt.val n.bot)).getD (Lib.decDigits (Nt.val n.top)).length 0=114:=by
  rw[List.getD_eq_getElem?_getD,List.getElem?_append_right Lr];simp
 have e3:(Lib.decDigits (Nt.val n.top)++114::Lib.decDigits (Nt.val n.bot)).take (Lib.decDigits (Nt.val n.top)).length=Lib.decDigits (Nt.val n.top):=by simp
 rw[e1,e2,e3,Bz (Cz _),if_neg (by simp only[List.length_append,List.length_cons,not_or];omega),if_pos rfl,(dec_valid _).2,(dec_valid _).2];exact hm
theorem Daa {t:List UInt8}(h:t.head?≠some 194):parse t=body false t:=by
 unfold parse
 split
 ·simp at h
 rfl
theorem parse_print {n:Rt.Nm}(h:Rt.right n=true)(hl:(print n).length<=400):parse (print n)=(n,0):=by
 unfold print at hl⊢;cases hn:n.neg
 ·rw[hn] at hl
  simp only[Bool.false_eq_true,if_false,List.nil_append] at hl⊢;rw[Daa,<-hn]
  ·exact Zs h hl
  rw[Zy _ (dec_ne _)];intro e;have h1:=(dec_valid (Nt.val n.top)).1;obtain⟨b,r,hbr⟩:=List.exists_cons_of_ne_nil (dec_ne (Nt.val n.top));rw[hbr] at e h1;simp at e;have:=h1.2.2 b (by simp);rw[e] at this;simp[isDig] at this
 rw[hn] at hl;simp only[if_true] at hl⊢;have:=Zs h (by simp at hl⊢;omega);rw[hn] at this;exact this
theorem Ct (s:List UInt8):numOf (48::s)=numOf s:=by simp[numOf]
theorem numOf_zeros:∀k,numOf (49::List.replicate k 48)=10^k
 | 0=>rfl
 |k+1=>by
  rw[List.replicate_succ',<-List.cons_append,numOf_snoc,numOf_zeros k,Nat.pow_succ,Nat.mul_comm];rfl
theorem Dz:∀(n:Nat) (t:List UInt8),t.length=n->(∀b∈t,isDig b)->numOf t<10^n
 | 0,t,h,_=>by rw[List.eq_nil_of_length_eq_zero h];decide
 |n+1,t,h,hd=>by
  have hne:t≠[]:=by rintro rfl;cases h
  obtain⟨r,b,rfl⟩:∃r b,t=r++[b]:=⟨t.dropLast,t.getLast hne,(List.dropLast_concat_getLast hne).symm⟩;have h1:=Dz n r (by simpa using h) (λx hx=>hd x (by simp[hx]));have h2:isDig b:=hd b (by simp);rw[numOf_snoc,Nat.pow_succ];unfold isDig at h2;omega
theorem Uha (m:Nat):10^(9*m)<=4294967296^m:=by rw[Nat.pow_mul];exact Nat.pow_le_pow_left (by decide) m
theorem limbs_le {t:List UInt8}(hd:∀b∈t,isDig b)(m:Nat)(h:t.length<=9*m):(Nt.digs (numOf t)).length<=m:=
 Nt.digs_len_lt (Nat.lt_of_lt_of_le (Dz _ t rfl hd) (Nat.le_trans (Nat.pow_le_pow_right (by omega) h) (Uha m)))
theorem numOf_drop:∀{k:Nat} {s:List UInt8},(∀i (hi:i<s.length),i<k->s[i]=48)->k<=s.length->numOf (s.drop k)=numOf s
 | 0,s,_,_=>by simp
 |k+1,[],_,h=>by simp at h
 |k+1,b::r,hz,h=>by
  have h0:=hz 0 (by simp) (by omega);simp at h0;subst h0;rw[List.drop_succ_cons,Ct];exact numOf_drop (λi hi hik=>by have:=hz (i+1) (by simpa using hi) (by omega);simpa using this) (by simpa using h)
theorem valid_drop {s:List UInt8}{k:Nat}(hd:∀b∈s,isDig b)(hk:k<s.length)(h:k+1<s.length->s[k]≠48):Valid (s.drop k):=by
 refine⟨by simp;omega,λhl=>?_,λb hb=>hd b (List.mem_of_mem_drop hb)⟩;have h1:=h (by simp at hl;omega);rw[List.drop_eq_getElem_cons hk];intro e;rw[List.head?_cons] at e;exact h1 (Option.some.inj e)
def strip (s:List UInt8):List UInt8:=s.dropWhile (· ==48)
theorem Vj (b:UInt8)(r:List UInt8):strip (b::r)=if b=48 then strip r else b::r:=by
 unfold strip;by_cases h:b=48
 ·subst h;simp
 rw[if_neg h,List.dropWhile_cons,if_neg (by simpa using h)]
theorem numOf_strip:∀s:List UInt8,numOf (strip s)=numOf s
 | []=>rfl
 |b::r=>by
  rw[Vj];by_cases h:b=48
  ·subst h;rw[if_pos rfl,numOf_strip r,Ct]
  rw[if_neg h]
theorem Ew:∀{s:List UInt8} {b:UInt8},b∈strip s->b∈s
 | [],_,h=>h
 |x::r,b,h=>by
  rw[Vj] at h;by_cases e:x=48
  ·rw[if_pos e] at h;exact List.mem_cons_of_mem _ (Ew h)
  rw[if_neg e] at h;exact h
theorem strip_len:∀s:List UInt8,(strip s).length<=s.length
 | []=>Lr
 |x::r=>by
  rw[Vj];by_cases e:x=48
  ·rw[if_pos e];have:=strip_len r;simp;omega
  rw[if_neg e];exact Lr
theorem Dt:∀s:List UInt8,(strip s).head?≠some 48
 | []=>by simp[strip]
 |x::r=>by
  rw[Vj];by_cases e:x=48
  ·rw[if_pos e];exact Dt r
  rw[if_neg e];simpa using e
theorem strip_valid {s:List UInt8}(hd:∀b∈s,isDig b)(h:strip s≠[]):Valid (strip s):=
 ⟨h,λ_=>Dt s,λb hb=>hd b (Ew hb)⟩
theorem strip_nil {s:List UInt8}(h:strip s=[]):numOf s=0:=by rw[<-numOf_strip,h];rfl
theorem lead_take {s:List UInt8}:∀b∈s.take (lead s),isDig b:=λb hb=>by
 obtain⟨i,hi,rfl⟩:=List.mem_iff_getElem.1 hb;rw[List.getElem_take];have hi':i<lead s:=by simp at hi;omega
 obtain⟨h1,h2⟩:=lead_dig hi';exact Nda.1 h2
theorem lead_full {s:List UInt8}(h:lead s=s.length):∀b∈s,isDig b:=λb hb=>by
 have:=lead_take (s:=s) b;rw[h,List.take_length] at this;exact this hb
end Dg
namespace Gl
open Go
def by_ (s:ByteArray)(i:Nat):Nat:=(s.get! i).toNat
theorem by_lt (s:ByteArray)(i:Nat):by_ s i<256:=by unfold by_;exact UInt8.toNat_lt _
def may (c:Int):Bool:=decide (0<=c)&&decide (c<=1114111)&&(decide (c<55296)||decide (57343<c))
theorem Oda (c:Nat):Utf8.valid (c:Int)=may (c:Int):=by
 unfold Utf8.valid may;rw[Bool.eq_iff_iff];simp only[Bool.or_eq_true,Bool.and_eq_true,decide_eq_true_eq];omega
def first (b:Nat):Option (Nat×Nat):=if 240<=b then some (b-240,4) else if 224<=b then some (b-224,3) else if 192<=b then some (b-192,2) else if 128<=b then none else some (b,1)
def more (s:ByteArray)(c:Nat):Nat->Nat->Option Nat
 |_,0=>some c
 |i,k+1=>if by_ s i<128\/191<by_ s i then none else more s (64*c+by_ s i-128) (i+1) k
def guess (s:ByteArray)(at_:Nat):Option (Nat×Nat):=
 match first (by_ s at_) with
 |none=>none
 |some (c,n)=>if s.size-at_<n then none else(more s c (at_+1) (n-1)).map λc=>(c,n)
def wide (c:Nat):Nat:=if c<128 then 1 else if c<2048 then 2 else if c<65536 then 3 else 4
def one (c:Nat):List Nat:=
 if c<128 then[c] else if c<2048 then[192+c/64,128+c%64] else if c<65536 then[224+c/4096,128+c/64%64,128+c%64] else[240+c/262144,128+c/4096%64,128+c/64%64,128+c%64]
theorem one_len (c:Nat):(one c).length=wide c:=by unfold one wide;split<;>(try rfl);split<;>(try rfl);split<;>rfl
def read (s:ByteArray)(at_:Nat):Option (Nat×Nat):=if Utf8.decode s at_=(Utf8.runeError,1) then none else some (Utf8.decode s at_)
def refRead (s:ByteArray)(at_:Nat):Option (Nat×Nat):=
 match guess s at_ with
 |none=>none
 |some (c,n)=>if may (c:Int)=true/\one c=(List.range n).map (λk=>by_ s (at_+k)) then some (c,n) else none
theorem Xka {s:ByteArray}{c i:Nat}:more s c i 1=if by_ s i<128\/191<by_ s i then none else some (64*c+by_ s i-128):=rfl
set_option maxRecDepth 100000 in
theorem decode_eq (s:ByteArray)(i:Nat):Utf8.decode s i=
 (if by_ s i<128 then(by_ s i,1)
 else if by_ s i/32=6/\i+1<s.size/\by_ s (i+1)/64=2 then
  (if 128<=by_ s i%32*64+by_ s (i+1)%64 then(by_ s i%32*64+by_ s (i+1)%64,2) else(Utf8.runeError,1))
 else if by_ s i/16=14/\(i+1<s.size/\by_ s (i+1)/64=2)/\(i+2<s.size/\by_ s (i+2)/64=2) then
  (if 2048<=by_ s i%16*4096+by_ s (i+1)%64*64+by_ s (i+2)%64/\may ((by_ s i%16*4096+by_ s (i+1)%64*64+by_ s (i+2)%64:Nat):Int)=true then(by_ s i%16*4096+by_ s (i+1)%64*64+by_ s (i+2)%64,3) else(Utf8.runeError,1))
 else if by_ s i/8=30/\(i+1<s.size/\by_ s (i+1)/64=2)/\(i+2<s.size/\by_ s (i+2)/64=2)/\(i+3<s.size/\by_ s (i+3)/64=2) then
  (if 65536<=by_ s i%8*262144+by_ s (i+1)%64*4096+by_ s (i+2)%64*64+by_ s (i+3)%64/\may ((by_ s i%8*262144+by_ s (i+1)%64*4096+by_ s (i+2)%64*64+by_ s (i+3)%64:Nat):Int)=true then(by_ s i%8*262144+by_ s (i+1)%64*4096+by_ s (i+2)%64*64+by_ s (i+3)%64,4) else(Utf8.runeError,1))
 else(Utf8.runeError,1)):=by
 have e0:∀k,(s.get! (i+k)).toNat=by_ s (i+k):=λ_=>rfl;have e1:(s.get! i).toNat=by_ s i:=rfl;unfold Utf8.decode;simp only[e0,Nat.add_zero,e1];generalize by_ s i=b0;generalize by_ s (i+1)=b1;generalize by_ s (i+2)=b2;generalize by_ s (i+3)=b3;simp only[Oda,Bool.and_eq_true,beq_iff_eq,decide_eq_true_eq,ge_iff_le,and_assoc]
theorem first_lt {b:Nat}(h:b<128):first b=some (b,1):=by unfold first;rw[if_neg (by omega),if_neg (by omega),if_neg (by omega),if_neg (by omega)]
theorem first_mid {b:Nat}(h:128<=b)(h2:b<192):first b=none:=by unfold first;rw[if_neg (by omega),if_neg (by omega),if_neg (by omega),if_pos h]
theorem first_2 {b:Nat}(h:192<=b)(h2:b<224):first b=some (b-192,2):=by unfold first;rw[if_neg (by omega),if_neg (by omega),if_pos h]
theorem first_3 {b:Nat}(h:224<=b)(h2:b<240):first b=some (b-224,3):=by unfold first;rw[if_neg (by omega),if_pos h]
theorem first_4 {b:Nat}(h:240<=b):first b=some (b-240,4):=by unfold first;rw[if_pos h]
theorem may_small {c:Nat}(h:c<55296):may (c:Int)=true:=by unfold may;simp;omega
theorem Lm {s:ByteArray}{i:Nat}(hg:guess s i=none)(hd:Utf8.decode s i=(Utf8.runeError,1)):refRead s i=read s i:=by
 unfold refRead read;rw[hg,hd,if_pos rfl]
theorem Mm {s:ByteArray}{i c n:Nat}(hg:guess s i=some (c,n))(hd:Utf8.decode s i=(c,n))(hm:may (c:Int)=true)(ho:one c=(List.range n).map (λk=>by_ s (i+k)))(hne:n≠1\/c≠65533):refRead s i=read s i:=by
 unfold refRead read;rw[hg,hd];dsimp only;rw[if_pos ⟨hm,ho⟩,if_neg];intro h;injection h with h1 h2
 have hE:Utf8.runeError=65533:=rfl;omega
theorem Hk {s:ByteArray}{i c n:Nat}(hg:guess s i=some (c,n))(hd:Utf8.decode s i=(Utf8.runeError,1))(hb:¬(may (c:Int)=true/\one c=(List.range n).map (λk=>by_ s (i+k)))):refRead s i=read s i:=by
 unfold refRead read;rw[hg,hd,if_pos rfl];dsimp only;rw[if_neg hb]
theorem Om {s:ByteArray}{i c n:Nat}(hf:first (by_ s i)=some (c,n)):guess s i=if s.size-i<n then none else(more s c (i+1) (n-1)).map λc=>(c,n):=by
 unfold guess;rw[hf]
theorem more2 {s:ByteArray}{c i:Nat}:more s c i 2=if by_ s i<128\/191<by_ s i then none else if by_ s (i+1)<128\/191<by_ s (i+1) then none else some (64*(64*c+by_ s i-128)+by_ s (i+1)-128):=rfl
theorem Yka {s:ByteArray}{c i:Nat}:more s c i 3=if by_ s i<128\/191<by_ s i then none else if by_ s (i+1)<128\/191<by_ s (i+1) then none else if by_ s (i+2)<128\/191<by_ s (i+2) then none else some (64*(64*(64*c+by_ s i-128)+by_ s (i+1)-128)+by_ s (i+2)-128):=rfl
theorem Yr {s:ByteArray}{i c n:Nat}(h:wide c≠n):¬(may (c:Int)=true/\one c=(List.range n).map (λk=>by_ s (i+k))):=by
 rintro⟨-,h2⟩;have:=congrArg List.length h2;rw[one_len] at this;simp only[List.length_map,List.length_range] at this;exact h this
theorem Hna {s:ByteArray}{i:Nat}:(List.range 2).map (λk=>by_ s (i+k))=[by_ s i,by_ s (i+1)]:=rfl
theorem Pda {s:ByteArray}{i:Nat}:(List.range 3).map (λk=>by_ s (i+k))=[by_ s i,by_ s (i+1),by_ s (i+2)]:=rfl
theorem Ina {s:ByteArray}{i:Nat}:(List.range 4).map (λk=>by_ s (i+k))=[by_ s i,by_ s (i+1),by_ s (i+2),by_ s (i+3)]:=rfl
theorem refRead_eq (s:ByteArray)(i:Nat)(hi:i<s.size):refRead s i=read s i:=by
 have h0:=by_lt s i;have h1:=by_lt s (i+1);have h2:=by_lt s (i+2);have h3:=by_lt s (i+3);have hd:=decode_eq s i;by_cases a:by_ s i<128
 ·rw[if_pos a] at hd
  refine Mm (by rw[Om (first_lt a),if_neg (by omega)];rfl) hd (may_small (by omega)) ?_ (.inr (by omega));unfold one;rw[if_pos a];rfl
 rw[if_neg a] at hd;by_cases b:by_ s i<192
 ·rw[if_neg (by omega),if_neg (by omega),if_neg (by omega)] at hd
  refine Lm ?_ hd;unfold guess;rw[first_mid (by omega) b]
 by_cases c:by_ s i<224
 ·have hg:=Om (first_2 (by omega) c)
  by_cases d:i+1<s.size/\by_ s (i+1)/64=2
  ·rw[if_pos (And.intro (by omega) d)] at hd
   obtain⟨d1,d2⟩:=d;rw[if_neg (by omega),show 2-1=1 from rfl,Xka,if_neg (by omega),Option.map_some] at hg;have ec:64*(by_ s i-192)+by_ s (i+1)-128=by_ s i%32*64+by_ s (i+1)%64:=by omega
   rw[ec] at hg;obtain⟨x,hx⟩:∃x,x=by_ s i%32*64+by_ s (i+1)%64:=⟨_,rfl⟩;rw[<-hx] at hg hd;by_cases f:128<=x
   ·rw[if_pos f] at hd
    refine Mm hg hd (may_small (by omega)) ?_ (.inl (by omega));rw[Hna];unfold one;rw[if_neg (by omega),if_pos (by omega)];simp only[List.cons.injEq,and_true];omega
   rw[if_neg f] at hd;refine Hk hg hd (Yr ?_);unfold wide;rw[if_pos (by omega)];omega
  rw[if_neg (λh=>d h.2),if_neg (by omega),if_neg (by omega)] at hd;refine Lm ?_ hd;rw[hg];by_cases e:s.size-i<2
  ·rw[if_pos e]
  rw[if_neg e,show 2-1=1 from rfl,Xka,if_pos (by omega)];rfl
 by_cases c3:by_ s i<240
 ·have hg:=Om (first_3 (by omega) c3)
  rw[if_neg (by omega)] at hd;by_cases d:(i+1<s.size/\by_ s (i+1)/64=2)/\(i+2<s.size/\by_ s (i+2)/64=2)
  ·rw[if_pos (And.intro (by omega) d)] at hd
   obtain⟨⟨d1,d2⟩,d3,d4⟩:=d;rw[if_neg (by omega),show 3-1=2 from rfl,more2,show i+1+1=i+2 from rfl,if_neg (by omega),if_neg (by omega),Option.map_some] at hg;have ec:64*(64*(by_ s i-224)+by_ s (i+1)-128)+by_ s (i+2)-128=by_ s i%16*4096+by_ s (i+1)%64*64+by_ s (i+2)%64:=by omega
   rw[ec] at hg;obtain⟨x,hx⟩:∃x,x=by_ s i%16*4096+by_ s (i+1)%64*64+by_ s (i+2)%64:=⟨_,rfl⟩;rw[<-hx] at hg hd;by_cases f:2048<=x/\may (x:Int)=true
   ·rw[if_pos f] at hd
    refine Mm hg hd f.2 ?_ (.inl (by omega));rw[Pda];unfold one;rw[if_neg (by omega),if_neg (by omega),if_pos (by omega)];simp only[List.cons.injEq,and_true];omega
   rw[if_neg f] at hd;by_cases g:2048<=x
   ·exact Hk hg hd (λh=>f ⟨g,h.1⟩)
   refine Hk hg hd (Yr ?_);unfold wide;by_cases q:x<128
   ·rw[if_pos q];omega
   rw[if_neg q,if_pos (by omega)];omega
  rw[if_neg (λh=>d h.2),if_neg (by omega)] at hd;refine Lm ?_ hd;rw[hg];by_cases e:s.size-i<3
  ·rw[if_pos e]
  rw[if_neg e,show 3-1=2 from rfl,more2];by_cases g:by_ s (i+1)<128\/191<by_ s (i+1)
  ·rw[if_pos g];rfl
  rw[if_neg g,if_pos (by rw[show i+1+1=i+2 from rfl];omega)];rfl
 have hg:=Om (first_4 (show 240<=by_ s i by omega));rw[if_neg (by omega),if_neg (by omega)] at hd;by_cases d:(i+1<s.size/\by_ s (i+1)/64=2)/\(i+2<s.size/\by_ s (i+2)/64=2)/\(i+3<s.size/\by_ s (i+3)/64=2)
 ·obtain⟨⟨d1,d2⟩,⟨d3,d4⟩,d5,d6⟩:=d
  rw[if_neg (by omega),show 4-1=3 from rfl,Yka,show i+1+1=i+2 from rfl,show i+1+2=i+3 from rfl,if_neg (by omega),if_neg (by omega),if_neg (by omega),Option.map_some] at hg;have ec:64*(64*(64*(by_ s i-240)+by_ s (i+1)-128)+by_ s (i+2)-128)+by_ s (i+3)-128=(by_ s i-240)*262144+by_ s (i+1)%64*4096+by_ s (i+2)%64*64+by_ s (i+3)%64:=by omega
  rw[ec] at hg;by_cases k:by_ s i/8=30
  ·rw[if_pos (And.intro k ⟨⟨d1,d2⟩,⟨d3,d4⟩,d5,d6⟩)] at hd
   have ek:by_ s i-240=by_ s i%8:=by omega
   rw[ek] at hg;obtain⟨x,hx⟩:∃x,x=by_ s i%8*262144+by_ s (i+1)%64*4096+by_ s (i+2)%64*64+by_ s (i+3)%64:=⟨_,rfl⟩;rw[<-hx] at hg hd;by_cases f:65536<=x/\may (x:Int)=true
   ·rw[if_pos f] at hd
    refine Mm hg hd f.2 ?_ (.inl (by omega));rw[Ina];unfold one;rw[if_neg (by omega),if_neg (by omega),if_neg (by omega)];simp only[List.cons.injEq,and_true];omega
   rw[if_neg f] at hd;by_cases g:65536<=x
   ·exact Hk hg hd (λh=>f ⟨g,h.1⟩)
   refine Hk hg hd (Yr ?_);unfold wide;by_cases q:x<128
   ·rw[if_pos q];omega
   by_cases q2:x<2048
   ·rw[if_neg q,if_pos q2];omega
   rw[if_neg q,if_neg q2,if_pos (by omega)];omega
  rw[if_neg (λh=>k h.1)] at hd;refine Hk hg hd ?_;rintro⟨hm,-⟩;unfold may at hm;simp only[Bool.and_eq_true,decide_eq_true_eq] at hm;omega
 rw[if_neg (λh=>d h.2)] at hd;refine Lm ?_ hd;rw[hg];by_cases e:s.size-i<4
 ·rw[if_pos e]
 rw[if_neg e,show 4-1=3 from rfl,Yka,show i+1+1=i+2 from rfl,show i+1+2=i+3 from rfl];by_cases g:by_ s (i+1)<128\/191<by_ s (i+1)
 ·rw[if_pos g];rfl
 rw[if_neg g];by_cases g2:by_ s (i+2)<128\/191<by_ s (i+2)
 ·rw[if_pos g2];rfl
 rw[if_neg g2,if_pos (by omega)];rfl
end Gl
namespace Tk
open Go
def funs:List Int:=[0x2B,0x2D,0xD7,0xF7,0x2308,0x230A,0x7C,0x2A,0x21,0x7E,0x3C,0x2264,0x3D,0x2265,0x3E,0x2260,0x2227,0x2228,0x2374,0x2C,0x236A,0x233D,0x2296,0x2349,0x2191,0x2193,0x2282,0x2283,0x2261,0x2262,0x2373,0x220A,0x222A,0x2229,0x2378,0x234B,0x2352,0x22A2,0x22A3]
def opers:List Int:=[0x2F,0x233F,0x5C,0x2340,0xA8,0x2368,0x2364,0x2363,0x2218,0x2E]
def marks:List Int:=[0x28,0x29,0x5B,0x5D,0x7B,0x7D,0x3B,0x3A,0x22C4,0x2190,0x237A,0x2375,0x2207,0x2395,0x235E,0x27,0x235D]
def cls (c:Int):Int:=
 if c=32\/c=9 then 1
 else if 97<=c/\c<=122\/65<=c/\c<=90\/c=95 then 2
 else if 48<=c/\c<=57\/c=175 then 3
 else if c∈funs then 4 else if c∈opers then 5 else if c∈marks then 6 else 0
structure Tok where
 kind:Int
 n:Rt.Nm
 l:List Int
 s:List UInt8
 c:Int
 at_:Nat
def none_:Tok:=⟨0,Rt.none_,[],[],0,0⟩
def enc1 (c:Int):List UInt8:=(Gl.one c.toNat).map UInt8.ofNat
def enc (l:List Int):List UInt8:=l.flatMap enc1
def digit (c:Int):Bool:=decide (48<=c)&&decide (c<=57)
def word (c:Int):Bool:=digit c||(cls c==2)
def words (l:List Int)(i:Nat):Nat:=((l.drop i).takeWhile word).length
def figures (l:List Int)(i:Nat):Nat:=((l.drop i).takeWhile digit).length
def numLen (l:List Int)(i:Nat):Option Nat:=
 let n:=if l.getD i (-1)=175 then 1 else 0
 let k:=figures l (i+n)
 if k=0 then none
 else
  let m:=n+k
  let e:=if(l.getD (i+m) (-1)=114\/l.getD (i+m) (-1)=46)/\0<figures l (i+m+1) then m+1+figures l (i+m+1) else m
  if word (l.getD (i+e) (-1))=true\/l.getD (i+e) (-1)=175 then none else some e
def quote (l:List Int):Nat->Nat->List Int->Option (List Int×Nat)
 | 0,_,_=>none
 |f+1,k,out=>
  if l.length<=k then none
  else if l.getD k (-1)≠39 then quote l f (k+1) (out++[l.getD k (-1)])
  else if l.getD (k+1) (-1)≠39 then some (out,k+1)
  else quote l f (k+2) (out++[39])
def read (l:List Int)(i:Nat):Tok×Nat×Int:=
 let c:=l.getD i (-1)
 if cls c=3 then
  match numLen l i with
  |none=>(none_,0,1)
  |some n=>
   let r:=Dg.parse (enc ((l.drop i).take n))
   if r.2=0 then(⟨0,r.1,[],[],0,i⟩,n,0) else(none_,0,r.2)
 else if cls c=2 then
  let n:=words l i
  if 16<n then(none_,0,1) else(⟨if c<=90 then 3 else 2,Rt.none_,[],enc ((l.drop i).take n),0,i⟩,n,0)
 else if c=39 then
  match quote l (l.length+1) (i+1) [] with
  |none=>(none_,0,1)
  |some (t,e)=>(⟨1,Rt.none_,t,[],0,i⟩,e-i,0)
 else if c=9109\/c=9054 then
  let n:=words l (i+1)
  let d:=l.getD (i+1) (-1)
  if n=1/\48<=d/\d<=55 then(⟨if c=9054 then 5 else 4,Rt.none_,[],[],d-48,i⟩,2,0)
  else if c=9109/\n=2/\d=68/\l.getD (i+2) (-1)=67 then(⟨6,Rt.none_,[],[],0,i⟩,3,0)
  else if c=9109/\n=2/\d=85/\l.getD (i+2) (-1)=80 then(⟨6,Rt.none_,[],[],1,i⟩,3,0)
  else(none_,0,1)
 else if cls c=0 then(none_,0,1)
 else(⟨7,Rt.none_,[],[],c,i⟩,1,0)
end Tk
namespace Go.Proofs.YtceplkpjnebnfaaGreatDoor
open Go.RowKit
theorem Aa {a b:Bool}(h:a=b):Ending.returned (.bool a)= .returned (.bool b):=by rw[h]
theorem Ra {k:IntKind}{a b:Int}(h:a=b):Ending.returned (.int k a)= .returned (.int k b):=by rw[h]
theorem D8 {a b c d:Value}(h:a=c)(h':b=d):Ending.returned (.tuple #[a,b])= .returned (.tuple #[c,d]):=by rw[h,h']
def Lies (w:World)(B:Nat)(A:Option Addr)(vs:List Value):Prop:=
 vs=[]\/∃b off,A=some ⟨b,off,none⟩/\b<B/\∀i v,vs[i]? =some v->w.cell? ⟨b,off+i,none⟩=some v
theorem Lies.nil {w:World}{B:Nat}{A:Option Addr}:Lies w B A []:= .inl rfl
theorem Lies.keep {w w':World}{B:Nat}{A:Option Addr}{vs:List Value}(h:Lies w B A vs)(hk:∀p:Addr,p.block<B->w'.cell? p=w.cell? p):Lies w' B A vs:=by
 rcases h with h |⟨b,off,hA,hb,hc⟩
 ·exact .inl h
 exact .inr ⟨b,off,hA,hb,λi v hv=>(hk _ hb).trans (hc i v hv)⟩
theorem Lies.more {w:World}{B B':Nat}{A:Option Addr}{vs:List Value}(h:Lies w B A vs)(hB:B<=B'):Lies w B' A vs:=by
 rcases h with h |⟨b,off,hA,hb,hc⟩
 ·exact .inl h
 exact .inr ⟨b,off,hA,by omega,hc⟩
theorem Lies.below {w w':World}{B:Nat}{A:Option Addr}{vs:List Value}(h:Lies w B A vs)(hb:Below B w w'):Lies w' B A vs:=h.keep λ_ hp=>hb.cell hp
theorem Lies.drew {w:World}{B:Nat}{A:Option Addr}{vs:List Value}(h:Lies w B A vs):Lies w.drew B A vs:=h
theorem Lies.drewN {w:World}{B:Nat}{A:Option Addr}{vs:List Value}(h:Lies w B A vs)(n:Nat):Lies (w.drewN n) B A vs:=h
theorem Lies.at_ {w:World}{B:Nat}{A:Option Addr}{vs:List Value}(h:Lies w B A vs){k:Nat}(hk:k<vs.length):
 ∃b off,A=some ⟨b,off,none⟩/\b<B/\w.cell? ⟨b,off+k,none⟩=some (vs[k]'hk):=by
 rcases h with h |⟨b,off,hA,hb,hc⟩
 ·subst h;simp at hk
 exact⟨b,off,hA,hb,hc k _ (List.getElem?_eq_getElem hk)⟩
theorem Lies.take {w:World}{B:Nat}{A:Option Addr}{vs:List Value}(h:Lies w B A vs)(n:Nat):Lies w B A (vs.take n):=by
 rcases h with h |⟨b,off,hA,hb,hc⟩
 ·subst h;exact .inl (by simp)
 refine .inr ⟨b,off,hA,hb,λi v hv=>hc i v ?_⟩;rw[List.getElem?_take] at hv
 split at hv
 ·exact hv
 cases hv
theorem Lies.of_own {w:World}{base:Nat}{e:TypeId}{size n c:Nat}{A:Option Addr}{xs:List Value}(h:w.ownsRow base e size (.slice A n c) n xs):Lies w w.heap.size A xs:=by
 rcases h.2 with⟨hv,hx⟩ |⟨g,cap,cur,hv,hb,hh,_⟩
 ·exact .inl (List.eq_nil_of_length_eq_zero (by rw[h.1,hx,Nat.zero_mul]))
 injection hv with hA
 subst hA;have hlt:=(h.lt g (by simp[Value.ownBlock])).2;exact .inr ⟨g,0,rfl,hlt,λi v hv=>by
  have:=h.cells (g:=g) (by simp[Value.ownBlock]) i v hv;rw[Nat.zero_add];rw[<-this]
  congr 1
  unfold Addr.add
  split
  ·simp_all
  simp⟩
theorem Kb {w:World}{base:Nat}{e:TypeId}{size n:Nat}{v:Value}{xs:List Value}(h:w.ownsRow base e size v n xs):∃A c,v= .slice A n c/\n<=c/\c<=maxLen:=by
 rcases h.2 with⟨hv,hx⟩ |⟨g,cap,cur,hv,_,_,h1,h2,_⟩
 ·subst hx;exact⟨none,0,hv,Lr,Nat.zero_le _⟩
 exact⟨_,cap,hv,h1,h2⟩
theorem Lies.new (w:World)(cs:List Value)(t:TypeId):Lies (w.alloc (.cells cs.toArray t)) (w.heap.size+1) (some ⟨w.heap.size,0,none⟩) cs:=by
 refine .inr ⟨w.heap.size,0,rfl,by omega,λi v hv=>?_⟩;rw[cell_of_row (w.alloc (.cells cs.toArray t)) w.heap.size (0+i) cs.toArray t (0,0) (heap_alloc_new w _),Nat.zero_add]
 simpa using hv
theorem Da {c k:Int}{l:List Int}(h:¬c∈l)(hk:k∈l):(c==k)=false:=by
 rw[beq_eq_false_iff_ne];rintro rfl;exact h hk
theorem Mo (c:Int)(w:World):
 Calls Tryz.prog 80 #[.int .i64 c] w λe w'=>e= .returned (.bool (decide (c∈Tk.funs)))/\w=w':=by
 by_cases h:c∈Tk.funs
 ·rw[decide_eq_true h]
  unfold Tk.funs at h;simp only[List.mem_cons,List.not_mem_nil,or_false] at h;rcases h with rfl |rfl |rfl |rfl |rfl |rfl |rfl |rfl |rfl |rfl |rfl |rfl |rfl |rfl |rfl |rfl |rfl |rfl |rfl |rfl |rfl |rfl |rfl |rfl |rfl |rfl |rfl |rfl |rfl |rfl |rfl |rfl |rfl |rfl |rfl |rfl |rfl |rfl |rfl
  all_goals
   go_enter Tryz.func80,Tryz.ntmps80
   go_wp2_with fail
   go_ret;exact⟨rfl,rfl⟩
 rw[decide_eq_false h];have q43:(c==43)=false:=Da h (by decide);have q45:(c==45)=false:=Da h (by decide);have q215:(c==215)=false:=Da h (by decide);have q247:(c==247)=false:=Da h (by decide);have q8968:(c==8968)=false:=Da h (by decide);have q8970:(c==8970)=false:=Da h (by decide);have q124:(c==124)=false:=Da h (by decide);have q42:(c==42)=false:=Da h (by decide);have q33:(c==33)=false:=Da h (by decide);have q126:(c==126)=false:=Da h (by decide);have q60:(c==60)=false:=Da h (by decide);have q8804:(c==8804)=false:=Da h (by decide);have q61:(c==61)=false:=Da h (by decide);have q8805:(c==8805)=false:=Da h (by decide);have q62:(c==62)=false:=Da h (by decide);have q8800:(c==8800)=false:=Da h (by decide);have q8743:(c==8743)=false:=Da h (by decide);have q8744:(c==8744)=false:=Da h (by decide);have q9076:(c==9076)=false:=Da h (by decide);have q44:(c==44)=false:=Da h (by decide);have q9066:(c==9066)=false:=Da h (by decide);have q9021:(c==9021)=false:=Da h (by decide);have q8854:(c==8854)=false:=Da h (by decide);have q9033:(c==9033)=false:=Da h (by decide);have q8593:(c==8593)=false:=Da h (by decide);have q8595:(c==8595)=false:=Da h (by decide);have q8834:(c==8834)=false:=Da h (by decide);have q8835:(c==8835)=false:=Da h (by decide);have q8801:(c==8801)=false:=Da h (by decide);have q8802:(c==8802)=false:=Da h (by decide);have q9075:(c==9075)=false:=Da h (by decide);have q8714:(c==8714)=false:=Da h (by decide);have q8746:(c==8746)=false:=Da h (by decide);have q8745:(c==8745)=false:=Da h (by decide);have q9080:(c==9080)=false:=Da h (by decide);have q9035:(c==9035)=false:=Da h (by decide);have q9042:(c==9042)=false:=Da h (by decide);have q8866:(c==8866)=false:=Da h (by decide);have q8867:(c==8867)=false:=Da h (by decide);clear h;go_enter Tryz.func80,Tryz.ntmps80
 go_wp2_with fail
 go_ret;exact⟨rfl,rfl⟩
theorem Vha {c:Int}(h:c∈Tk.opers):Tk.cls c=5:=by
 unfold Tk.opers at h;simp only[List.mem_cons,List.not_mem_nil,or_false] at h;rcases h with rfl |rfl |rfl |rfl |rfl |rfl |rfl |rfl |rfl |rfl<;>decide
theorem Wha {c:Int}(h:c∈Tk.marks):Tk.cls c=6:=by
 unfold Tk.marks at h;simp only[List.mem_cons,List.not_mem_nil,or_false] at h;rcases h with rfl |rfl |rfl |rfl |rfl |rfl |rfl |rfl |rfl |rfl |rfl |rfl |rfl |rfl |rfl |rfl |rfl<;>decide
theorem Pla {c:Int}(h:c∈Tk.funs):Tk.cls c=4:=by
 unfold Tk.funs at h;simp only[List.mem_cons,List.not_mem_nil,or_false] at h;rcases h with rfl |rfl |rfl |rfl |rfl |rfl |rfl |rfl |rfl |rfl |rfl |rfl |rfl |rfl |rfl |rfl |rfl |rfl |rfl |rfl |rfl |rfl |rfl |rfl |rfl |rfl |rfl |rfl |rfl |rfl |rfl |rfl |rfl |rfl |rfl |rfl |rfl |rfl |rfl<;>decide
theorem Dj (c:Int)(w:World):
 Calls Tryz.prog 51 #[.int .i64 c] w λe w'=>e= .returned (.int .i64 (Tk.cls c))/\w=w':=by
 by_cases h1:c=32\/c=9
 ·have E:Hid (Tk.cls c=1):=Qd (by unfold Tk.cls;rw[if_pos h1])
  rcases h1 with rfl |rfl
  all_goals
   go_enter Tryz.func51,Tryz.ntmps51
   go_wp2_with fail
   go_ret;exact⟨Ra E.out.symm,rfl⟩
 have q32:(c==32)=false:=beq_eq_false_iff_ne.2 (by omega);have q9:(c==9)=false:=beq_eq_false_iff_ne.2 (by omega);by_cases h2:97<=c/\c<=122\/65<=c/\c<=90\/c=95
 ·have E:Hid (Tk.cls c=2):=Qd (by unfold Tk.cls;rw[if_neg h1,if_pos h2])
  clear h1;by_cases k1:97<=c/\c<=122
  ·obtain⟨a1,a2⟩:=k1
   clear h2;go_enter Tryz.func51,Tryz.ntmps51
   go_wp2_with fail
   go_ret;exact⟨Ra E.out.symm,rfl⟩
  by_cases k2:65<=c/\c<=90
  ·obtain⟨a1,a2⟩:=k2
   have a3:decide (97<=c)=false:=decide_eq_false (by omega);clear h2 k1;go_enter Tryz.func51,Tryz.ntmps51
   go_wp2_with fail
   go_ret;exact⟨Ra E.out.symm,rfl⟩
  obtain rfl:c=95:=by omega
  clear h2 k1 k2;go_enter Tryz.func51,Tryz.ntmps51
  go_wp2_with fail
  go_ret;exact⟨Ra E.out.symm,rfl⟩
 have HL:Hid (¬(97<=c/\c<=122\/65<=c/\c<=90\/c=95)):=Qd h2;by_cases h3:48<=c/\c<=57\/c=175
 ·have E:Hid (Tk.cls c=3):=Qd (by unfold Tk.cls;rw[if_neg h1,if_neg h2,if_pos h3])
  clear h1;by_cases k1:c=175
  ·subst k1
   clear h2 h3;go_enter Tryz.func51,Tryz.ntmps51
   go_wp2_with fail
   go_ret;exact⟨Ra E.out.symm,rfl⟩
  obtain⟨a1,a2⟩:48<=c/\c<=57:=by omega
  have a3:decide (97<=c)=false:=decide_eq_false (by omega);have a4:decide (65<=c)=false:=decide_eq_false (by omega);have a5:(c==95)=false:=beq_eq_false_iff_ne.2 (by omega);clear h2 h3 k1;go_enter Tryz.func51,Tryz.ntmps51
  go_wp2_with fail
  go_ret;exact⟨Ra E.out.symm,rfl⟩
 by_cases h4:c∈Tk.funs
 ·have E:Hid (Tk.cls c=4):=Qd (Pla h4)
  have FT:=λwx=>Mo c wx;rw[decide_eq_true h4] at FT;have HFT:=Qd FT;clear h4 FT;have a5:(c==95)=false:=beq_eq_false_iff_ne.2 (by omega);have a6:(c==175)=false:=beq_eq_false_iff_ne.2 (by omega);by_cases z1:97<=c
  ·have b1:decide (97<=c)=true:=decide_eq_true (by omega)
   have b2:decide (c<=122)=false:=decide_eq_false (by omega);have b3:decide (65<=c)=true:=decide_eq_true (by omega);have b4:decide (c<=90)=false:=decide_eq_false (by omega);have b5:decide (48<=c)=true:=decide_eq_true (by omega);have b6:decide (c<=57)=false:=decide_eq_false (by omega);clear z1 h1 h2 h3 HL;go_enter Tryz.func51,Tryz.ntmps51
   go_wp2_with fail
   refine(HFT.out _).mono ?_;rintro e w' ⟨rfl,rfl⟩;go_wp2_with fail
   go_ret;exact⟨Ra E.out.symm,rfl⟩
  by_cases z2:65<=c
  ·have b1:decide (97<=c)=false:=decide_eq_false (by omega)
   have b3:decide (65<=c)=true:=decide_eq_true (by omega);have b4:decide (c<=90)=false:=decide_eq_false (by omega);have b5:decide (48<=c)=true:=decide_eq_true (by omega);have b6:decide (c<=57)=false:=decide_eq_false (by omega);clear z1 z2 h1 h2 h3 HL;go_enter Tryz.func51,Tryz.ntmps51
   go_wp2_with fail
   refine(HFT.out _).mono ?_;rintro e w' ⟨rfl,rfl⟩;go_wp2_with fail
   go_ret;exact⟨Ra E.out.symm,rfl⟩
  by_cases z3:48<=c
  ·have b1:decide (97<=c)=false:=decide_eq_false (by omega)
   have b3:decide (65<=c)=false:=decide_eq_false (by omega);have b5:decide (48<=c)=true:=decide_eq_true (by omega);have b6:decide (c<=57)=false:=decide_eq_false (by omega);clear z1 z2 z3 h1 h2 h3 HL;go_enter Tryz.func51,Tryz.ntmps51
   go_wp2_with fail
   refine(HFT.out _).mono ?_;rintro e w' ⟨rfl,rfl⟩;go_wp2_with fail
   go_ret;exact⟨Ra E.out.symm,rfl⟩
  have b1:decide (97<=c)=false:=decide_eq_false (by omega);have b3:decide (65<=c)=false:=decide_eq_false (by omega);have b5:decide (48<=c)=false:=decide_eq_false (by omega);clear z1 z2 z3 h1 h2 h3 HL;go_enter Tryz.func51,Tryz.ntmps51
  go_wp2_with fail
  refine(HFT.out _).mono ?_;rintro e w' ⟨rfl,rfl⟩;go_wp2_with fail
  go_ret;exact⟨Ra E.out.symm,rfl⟩
 have FT:=λwx=>Mo c wx;rw[decide_eq_false h4] at FT;have HFT:=Qd FT;have HF4:=Qd h4;clear h4 FT;by_cases h5:c∈Tk.opers
 ·have E:Hid (Tk.cls c=5):=Qd (Vha h5)
  clear h1 h2 h3 HL q32 q9;unfold Tk.opers at h5;simp only[List.mem_cons,List.not_mem_nil,or_false] at h5;rcases h5 with rfl |rfl |rfl |rfl |rfl |rfl |rfl |rfl |rfl |rfl
  all_goals
   go_enter Tryz.func51,Tryz.ntmps51
   go_wp2_with fail
   refine(HFT.out _).mono ?_;rintro e w' ⟨rfl,rfl⟩;go_wp2_with fail
   go_ret;exact⟨Ra E.out.symm,rfl⟩
 by_cases h6:c∈Tk.marks
 ·have E:Hid (Tk.cls c=6):=Qd (Wha h6)
  clear h1 h2 h3 HL q32 q9 h5;unfold Tk.marks at h6;simp only[List.mem_cons,List.not_mem_nil,or_false] at h6;rcases h6 with rfl |rfl |rfl |rfl |rfl |rfl |rfl |rfl |rfl |rfl |rfl |rfl |rfl |rfl |rfl |rfl |rfl
  all_goals
   go_enter Tryz.func51,Tryz.ntmps51
   go_wp2_with fail
   refine(HFT.out _).mono ?_;rintro e w' ⟨rfl,rfl⟩;go_wp2_with fail
   go_ret;exact⟨Ra E.out.symm,rfl⟩
 have E:Hid (Tk.cls c=0):=Qd (by unfold Tk.cls;rw[if_neg h1,if_neg h2,if_neg h3,if_neg HF4.out,if_neg h5,if_neg h6]);have o47:(c==47)=false:=Da h5 (by decide);have o9023:(c==9023)=false:=Da h5 (by decide);have o92:(c==92)=false:=Da h5 (by decide);have o9024:(c==9024)=false:=Da h5 (by decide);have o168:(c==168)=false:=Da h5 (by decide);have o9064:(c==9064)=false:=Da h5 (by decide);have o9060:(c==9060)=false:=Da h5 (by decide);have o9059:(c==9059)=false:=Da h5 (by decide);have o8728:(c==8728)=false:=Da h5 (by decide);have o46:(c==46)=false:=Da h5 (by decide);have m40:(c==40)=false:=Da h6 (by decide);have m41:(c==41)=false:=Da h6 (by decide);have m91:(c==91)=false:=Da h6 (by decide);have m93:(c==93)=false:=Da h6 (by decide);have m123:(c==123)=false:=Da h6 (by decide);have m125:(c==125)=false:=Da h6 (by decide);have m59:(c==59)=false:=Da h6 (by decide);have m58:(c==58)=false:=Da h6 (by decide);have m8900:(c==8900)=false:=Da h6 (by decide);have m8592:(c==8592)=false:=Da h6 (by decide);have m9082:(c==9082)=false:=Da h6 (by decide);have m9077:(c==9077)=false:=Da h6 (by decide);have m8711:(c==8711)=false:=Da h6 (by decide);have m9109:(c==9109)=false:=Da h6 (by decide);have m9054:(c==9054)=false:=Da h6 (by decide);have m39:(c==39)=false:=Da h6 (by decide);have m9053:(c==9053)=false:=Da h6 (by decide);clear h5 h6;have a5:(c==95)=false:=beq_eq_false_iff_ne.2 (by omega);have a6:(c==175)=false:=beq_eq_false_iff_ne.2 (by omega);by_cases z1:97<=c
 ·have b1:decide (97<=c)=true:=decide_eq_true (by omega)
  have b2:decide (c<=122)=false:=decide_eq_false (by omega);have b3:decide (65<=c)=true:=decide_eq_true (by omega);have b4:decide (c<=90)=false:=decide_eq_false (by omega);have b5:decide (48<=c)=true:=decide_eq_true (by omega);have b6:decide (c<=57)=false:=decide_eq_false (by omega);clear z1 h1 h2 h3 HL;go_enter Tryz.func51,Tryz.ntmps51
  go_wp2_with fail
  refine(HFT.out _).mono ?_;rintro e w' ⟨rfl,rfl⟩;go_wp2_with fail
  go_ret;exact⟨Ra E.out.symm,rfl⟩
 by_cases z2:65<=c
 ·have b1:decide (97<=c)=false:=decide_eq_false (by omega)
  have b3:decide (65<=c)=true:=decide_eq_true (by omega);have b4:decide (c<=90)=false:=decide_eq_false (by omega);have b5:decide (48<=c)=true:=decide_eq_true (by omega);have b6:decide (c<=57)=false:=decide_eq_false (by omega);clear z1 z2 h1 h2 h3 HL;go_enter Tryz.func51,Tryz.ntmps51
  go_wp2_with fail
  refine(HFT.out _).mono ?_;rintro e w' ⟨rfl,rfl⟩;go_wp2_with fail
  go_ret;exact⟨Ra E.out.symm,rfl⟩
 by_cases z3:48<=c
 ·have b1:decide (97<=c)=false:=decide_eq_false (by omega)
  have b3:decide (65<=c)=false:=decide_eq_false (by omega);have b5:decide (48<=c)=true:=decide_eq_true (by omega);have b6:decide (c<=57)=false:=decide_eq_false (by omega);clear z1 z2 z3 h1 h2 h3 HL;go_enter Tryz.func51,Tryz.ntmps51
  go_wp2_with fail
  refine(HFT.out _).mono ?_;rintro e w' ⟨rfl,rfl⟩;go_wp2_with fail
  go_ret;exact⟨Ra E.out.symm,rfl⟩
 have b1:decide (97<=c)=false:=decide_eq_false (by omega);have b3:decide (65<=c)=false:=decide_eq_false (by omega);have b5:decide (48<=c)=false:=decide_eq_false (by omega);clear z1 z2 z3 h1 h2 h3 HL;go_enter Tryz.func51,Tryz.ntmps51
 go_wp2_with fail
 refine(HFT.out _).mono ?_;rintro e w' ⟨rfl,rfl⟩;go_wp2_with fail
 go_ret;exact⟨Ra E.out.symm,rfl⟩
end Go.Proofs.YtceplkpjnebnfaaGreatDoor
namespace Gl
open Go
theorem Cl {s:ByteArray}{i c n:Nat}(h:read s i=some (c,n)):Utf8.decode s i=(c,n)/\¬(c=65533/\n=1):=by
 unfold read at h
 split at h
 ·cases h
 next hne=>
 injection h with h
 refine⟨h,?_⟩;rintro⟨rfl,rfl⟩;exact hne h
theorem read_pos {s:ByteArray}{i c n:Nat}(h:read s i=some (c,n)):1<=n/\n<=4:=by
 have h:=(Cl h).1;rw[decode_eq] at h;repeat' split at h
 all_goals (injection h with h1 h2;omega)
theorem read_may {s:ByteArray}{i c n:Nat}(hi:i<s.size)(h:read s i=some (c,n)):may (c:Int)=true:=by
 have hr:=refRead_eq s i hi;rw[h] at hr;unfold refRead at hr
 split at hr
 ·cases hr
 split at hr
 ·next hm=>injection hr with hr;injection hr with h1 h2;subst h1;exact hm.1
 cases hr
theorem read_le {s:ByteArray}{i c n:Nat}(hi:i<s.size)(h:read s i=some (c,n)):i+n<=s.size:=by
 have h:=(Cl h).1;rw[decode_eq] at h;repeat' split at h
 all_goals (injection h with h1 h2;omega)
def Pm (s:ByteArray):Nat->Nat->List Nat×Option Nat
 | 0,_=>([],none)
 |f+1,i=>if s.size<=i then([],none) else match read s i with
  |none=>([],some i)
  |some (c,n)=>(c::(Pm s f (i+n)).1,(Pm s f (i+n)).2)
theorem Fw {s:ByteArray}:∀{f g i:Nat},s.size-i<f->s.size-i<g->Pm s f i=Pm s g i
 | 0,_,_,h,_=>by omega
 |_,0,_,_,h=>by omega
 |f+1,g+1,i,h1,h2=>by
  unfold Pm;by_cases hi:s.size<=i
  ·rw[if_pos hi,if_pos hi]
  rw[if_neg hi,if_neg hi];cases hr:read s i with
  |none=>rfl
  |some p=>
   obtain⟨c,n⟩:=p;have:=read_pos hr;have e:=Fw (s:=s) (f:=f) (g:=g) (i:=i+n) (by omega) (by omega);simp only[e]
def dec (s:ByteArray)(i:Nat):List Nat×Option Nat:=Pm s (s.size+1-i) i
theorem dec_end {s:ByteArray}{i:Nat}(h:s.size<=i):dec s i=([],none):=by
 unfold dec;cases s.size+1-i with
 |zero=>rfl
 |succ k=>unfold Pm;rw[if_pos h]
theorem Xl {s:ByteArray}{i:Nat}(h:i<s.size)(hr:read s i=none):dec s i=([],some i):=by
 unfold dec;rw[show s.size+1-i=(s.size-i)+1 by omega];unfold Pm;rw[if_neg (by omega),hr]
theorem dec_step {s:ByteArray}{i c n:Nat}(h:i<s.size)(hr:read s i=some (c,n)):dec s i=(c::(dec s (i+n)).1,(dec s (i+n)).2):=by
 have hp:=read_pos hr;have hle:=read_le h hr;have e:=Fw (s:=s) (f:=s.size-i) (g:=s.size+1-(i+n)) (i:=i+n) (by omega) (by omega);unfold dec;rw[show s.size+1-i=(s.size-i)+1 by omega]
 conv=>lhs;unfold Pm
 rw[if_neg (by omega),hr];simp only[e]
theorem get_at {s:ByteArray}{i:Nat}(h:i<s.size):s.get! i=s[i]:=getElem!_pos s.data i h
theorem E8 {s:ByteArray}{i:Nat}(h:s.size<=i):s.get! i=default:=getElem!_neg s.data i (by show¬i<s.size;omega)
theorem Qm (a s:ByteArray)(i:Nat):by_ (a++s) (a.size+i)=by_ s i:=by
 have hsz:(a++s).size=a.size+s.size:=ByteArray.size_append;unfold by_
 congr 1
 by_cases h:i<s.size
 ·rw[get_at (show a.size+i<(a++s).size by omega),get_at h,ByteArray.getElem_append_right (by omega)]
  congr 1
  omega
 rw[E8 (by omega),E8 (by omega)]
theorem by_left (s t:ByteArray){i:Nat}(h:i<s.size):by_ (s++t) i=by_ s i:=by
 have hsz:(s++t).size=s.size+t.size:=ByteArray.size_append;unfold by_
 congr 1
 rw[get_at (show i<(s++t).size by omega),get_at h,ByteArray.getElem_append_left h]
theorem Ez (a s:ByteArray)(i:Nat):Utf8.decode (a++s) (a.size+i)=Utf8.decode s i:=by
 have e1:=Qm a s i;have e2:=Qm a s (i+1);have e3:=Qm a s (i+2);have e4:=Qm a s (i+3);rw[decode_eq,decode_eq];simp only[Nat.add_assoc,e1,e2,e3,e4,ByteArray.size_append,Nat.add_lt_add_iff_left]
theorem read_right (a s:ByteArray)(i:Nat):read (a++s) (a.size+i)=read s i:=by unfold read;rw[Ez]
theorem dec_right (a s:ByteArray):∀(k i:Nat),s.size-i<k->dec (a++s) (a.size+i)=((dec s i).1,(dec s i).2.map (a.size+ ·))
 | 0,_,h=>by omega
 |k+1,i,hk=>by
  have hsz:(a++s).size=a.size+s.size:=ByteArray.size_append;by_cases hi:i<s.size
  ·have hr:=read_right a s i
   cases h:read s i with
   |none=>
    rw[h] at hr;rw[Xl hi h,Xl (by omega) hr];rfl
   |some p=>
    obtain⟨c,n⟩:=p;rw[h] at hr;have hp:=read_pos h;have ih:=dec_right a s k (i+n) (by omega);rw[dec_step hi h,dec_step (by omega) hr,Nat.add_assoc,ih]
  rw[dec_end (by omega),dec_end (by omega)];rfl
theorem dec_may {s:ByteArray}:∀(k i:Nat),s.size-i<k->∀c∈(dec s i).1,may (c:Int)=true
 | 0,_,h=>by omega
 |k+1,i,hk=>by
  intro c hc;by_cases hi:i<s.size
  ·cases h:read s i with
   |none=>rw[Xl hi h] at hc;cases hc
   |some p=>
    obtain⟨c',n⟩:=p;have hp:=read_pos h;rw[dec_step hi h] at hc;rcases List.mem_cons.1 hc with rfl |hc
    ·exact read_may hi h
    exact dec_may k (i+n) (by omega) c hc
  rw[dec_end (by omega)] at hc;cases hc
theorem dec_len {s:ByteArray}:∀(k i:Nat),s.size-i<k->(dec s i).1.length<=s.size-i
 | 0,_,h=>by omega
 |k+1,i,hk=>by
  by_cases hi:i<s.size
  ·cases h:read s i with
   |none=>rw[Xl hi h];exact Nat.zero_le _
   |some p=>
    obtain⟨c',n⟩:=p;have hp:=read_pos h;have hl:=read_le hi h;have ih:=dec_len (s:=s) k (i+n) (by omega);rw[dec_step hi h];simp only[List.length_cons];omega
  rw[dec_end (by omega)];exact Nat.zero_le _
def ints (l:List Nat):List Int:=l.map λ(n:Nat)=>(n:Int)
def badI:Option Nat->Int
 |none=> -1
 |some i=>i
end Gl
namespace Tk
open Go
def goF (l:List Int):Nat->Nat->List Tok->List Tok×Nat×Int
 | 0,_,out=>(out,0,0)
 |f+1,i,out=>
  if l.length<=i\/l.getD i (-1)=9053 then(out,0,0)
  else if cls (l.getD i (-1))=1 then goF l f (i+1) out
  else if(read l i).2.2≠0 then([],i,(read l i).2.2)
  else goF l f (i+(read l i).2.1) (out++[(read l i).1])
def cutL (l:List Int)(bad:Option Nat):List Tok×Nat×Int:=
 if 2000<l.length then([],0,7)
 else if(goF l (l.length+1) 0 []).2.2≠0 then goF l (l.length+1) 0 []
 else match bad with
  |none=>goF l (l.length+1) 0 []
  |some _=>([],l.length,1)
def cut (s:ByteArray):List Tok×Nat×Int:=cutL (Gl.ints (Gl.dec s 0).1) (Gl.dec s 0).2
theorem Nk (p:Int->Bool):∀l:List Int,(l.takeWhile p).length<=l.length
 | []=>Lr
 |a::r=>by
  rw[List.takeWhile_cons];have:=Nk p r
  split
  ·simp;omega
  simp
theorem words_le (l:List Int)(i:Nat):words l i<=l.length-i:=by
 unfold words;have:=Nk word (l.drop i);rwa[List.length_drop] at this
theorem figures_le (l:List Int)(i:Nat):figures l i<=l.length-i:=by
 unfold figures;have:=Nk digit (l.drop i);rwa[List.length_drop] at this
theorem Qda {l:List Int}{i e:Nat}(hi:i<l.length)(h:numLen l i=some e):1<=e/\i+e<=l.length:=by
 unfold numLen at h;simp only at h;obtain⟨n,hn⟩:∃n,n=(if l.getD i (-1)=175 then 1 else 0):=⟨_,rfl⟩;rw[<-hn] at h;have hn1:n<=1:=by rw[hn];split<;>omega
 obtain⟨k,hk⟩:∃k,k=figures l (i+n):=⟨_,rfl⟩;rw[<-hk] at h;have hkl:=figures_le l (i+n);rw[<-hk] at hkl;by_cases h0:k=0
 ·rw[if_pos h0] at h;cases h
 rw[if_neg h0] at h;obtain⟨f,hf⟩:∃f,f=figures l (i+(n+k)+1):=⟨_,rfl⟩;have hfl:=figures_le l (i+(n+k)+1);rw[<-hf] at h hfl;obtain⟨e',he'⟩:∃e',e'=(if(l.getD (i+(n+k)) (-1)=114\/l.getD (i+(n+k)) (-1)=46)/\0<f then n+k+1+f else n+k):=⟨_,rfl⟩;rw[<-he'] at h
 split at h
 ·cases h
 injection h with h
 subst h;rw[he']
 split<;>omega
theorem Pk {l:List Int}:∀{f k:Nat} {out t:List Int} {e:Nat},quote l f k out=some (t,e)->k+1<=e/\e<=l.length
 | 0,_,_,_,_,h=>by cases h
 |f+1,k,out,t,e,h=>by
  unfold quote at h
  split at h
  ·cases h
  next hk=>
  split at h
  ·have:=Pk h;omega
  next h39=>
  split at h
  ·injection h with h;injection h with h1 h2;omega
  have:=Pk h;omega
theorem getD_in {l:List Int}{i:Nat}(h:i<l.length):l.getD i (-1)=l[i]:=by rw[List.getD_eq_getElem?_getD,List.getElem?_eq_getElem h];rfl
theorem getD_out {l:List Int}{i:Nat}(h:l.length<=i):l.getD i (-1)= -1:=by rw[List.getD_eq_getElem?_getD,List.getElem?_eq_none h];rfl
theorem words_pos {l:List Int}{i:Nat}(h:i<l.length)(hw:word (l.getD i (-1))=true):1<=words l i:=by
 unfold words;rw[List.drop_eq_getElem_cons h,List.takeWhile_cons];rw[getD_in h] at hw;rw[hw];simp
theorem read_len {l:List Int}{i:Nat}(hi:i<l.length)(h:(read l i).2.2=0):1<=(read l i).2.1/\i+(read l i).2.1<=l.length:=by
 unfold read at h⊢;simp only at h⊢;generalize hc:l.getD i (-1)=c at*;by_cases c3:cls c=3
 ·rw[if_pos c3] at h⊢
  cases hn:numLen l i with
  |none=>rw[hn] at h;cases h
  |some n=>
   rw[hn] at h;have:=Qda hi hn;simp only at h⊢;by_cases hr:(Dg.parse (enc ((l.drop i).take n))).2=0
   ·rw[if_pos hr];exact this
   rw[if_neg hr] at h;exact absurd h hr
 rw[if_neg c3] at h⊢;by_cases c2:cls c=2
 ·rw[if_pos c2] at h⊢
  have hw:1<=words l i:=words_pos hi (by rw[hc];simp[word,c2]);have:=words_le l i;by_cases h16:16<words l i
  ·rw[if_pos h16] at h;cases h
  rw[if_neg h16];exact⟨hw,by show i+words l i<=_;omega⟩
 rw[if_neg c2] at h⊢;by_cases c39:c=39
 ·rw[if_pos c39] at h⊢
  cases hq:quote l (l.length+1) (i+1) [] with
  |none=>rw[hq] at h;cases h
  |some p=>
   obtain⟨t,e⟩:=p;have:=Pk hq;exact⟨by show 1<=e-i;omega,by show i+(e-i)<=_;omega⟩
 rw[if_neg c39] at h⊢;by_cases cp:c=9109\/c=9054
 ·rw[if_pos cp] at h⊢
  have:=words_le l (i+1)
  split at h
  ·next hq=>rw[if_pos hq];exact⟨by show 1<=2;omega,by show i+2<=_;omega⟩
  next hq=>
  rw[if_neg hq]
  split at h
  ·next hq2=>rw[if_pos hq2];exact⟨by show 1<=3;omega,by show i+3<=_;omega⟩
  next hq2=>
  rw[if_neg hq2]
  split at h
  ·next hq3=>rw[if_pos hq3];exact⟨by show 1<=3;omega,by show i+3<=_;omega⟩
  cases h
 rw[if_neg cp] at h⊢;by_cases c0:cls c=0
 ·rw[if_pos c0] at h;cases h
 rw[if_neg c0];exact⟨by show 1<=1;omega,by show i+1<=_;omega⟩
structure OkTok (t:Tok):Prop where
 k0:0<=t.kind
 k7:t.kind<=7
 l:t.kind≠1->t.l=[]
 s:t.kind≠2->t.kind≠3->t.s=[]
 c:t.kind<=3->t.c=0
theorem read_ok {l:List Int}{i:Nat}(h:(read l i).2.2=0):OkTok (read l i).1/\(read l i).1.at_=i:=by
 unfold read at h⊢;simp only at h⊢;generalize l.getD i (-1)=c at*;by_cases c3:cls c=3
 ·rw[if_pos c3] at h⊢
  cases hn:numLen l i with
  |none=>rw[hn] at h;cases h
  |some n=>
   rw[hn] at h;simp only at h⊢;by_cases hr:(Dg.parse (enc ((l.drop i).take n))).2=0
   ·rw[if_pos hr];exact⟨⟨by simp,by simp,by simp,by simp,by simp⟩,by simp⟩
   rw[if_neg hr] at h;exact absurd h hr
 rw[if_neg c3] at h⊢;by_cases c2:cls c=2
 ·rw[if_pos c2] at h⊢
  by_cases h16:16<words l i
  ·rw[if_pos h16] at h;cases h
  rw[if_neg h16];by_cases h90:c<=90
  ·simp only[if_pos h90];exact⟨⟨by simp,by simp,by simp,by simp,by simp⟩,by simp⟩
  simp only[if_neg h90];exact⟨⟨by simp,by simp,by simp,by simp,by simp⟩,by simp⟩
 rw[if_neg c2] at h⊢;by_cases c39:c=39
 ·rw[if_pos c39] at h⊢
  cases hq:quote l (l.length+1) (i+1) [] with
  |none=>rw[hq] at h;cases h
  |some p=>exact⟨⟨by simp,by simp,by simp,by simp,by simp⟩,by simp⟩
 rw[if_neg c39] at h⊢;by_cases cp:c=9109\/c=9054
 ·rw[if_pos cp] at h⊢
  split at h
  ·next hq=>
   rw[if_pos hq];by_cases c5:c=9054
   ·simp only[if_pos c5];exact⟨⟨by simp,by simp,by simp,by simp,by simp⟩,by simp⟩
   simp only[if_neg c5];exact⟨⟨by simp,by simp,by simp,by simp,by simp⟩,by simp⟩
  next hq=>
  rw[if_neg hq]
  split at h
  ·next hq2=>rw[if_pos hq2];exact⟨⟨by simp,by simp,by simp,by simp,by simp⟩,by simp⟩
  next hq2=>
  rw[if_neg hq2]
  split at h
  ·next hq3=>rw[if_pos hq3];exact⟨⟨by simp,by simp,by simp,by simp,by simp⟩,by simp⟩
  cases h
 rw[if_neg cp] at h⊢;by_cases c0:cls c=0
 ·rw[if_pos c0] at h;cases h
 rw[if_neg c0];exact⟨⟨by simp,by simp,by simp,by simp,by simp⟩,by simp⟩
def Up (out:List Tok)(i:Nat):Prop:=(∀t∈out,OkTok t/\t.at_<i)/\out.Pairwise (λa b=>a.at_<b.at_)
theorem Fz {l:List Int}:∀{f i:Nat} {out:List Tok},Up out i->(goF l f i out).2.2=0->∃j,Up (goF l f i out).1 j
 | 0,i,out,h,_=>⟨i,h⟩
 |f+1,i,out,h,he=>by
  unfold goF at he⊢;by_cases h1:l.length<=i\/l.getD i (-1)=9053
  ·rw[if_pos h1];exact⟨i,h⟩
  rw[if_neg h1] at he⊢;by_cases h2:cls (l.getD i (-1))=1
  ·rw[if_pos h2] at he⊢
   exact Fz ⟨λt ht=>⟨(h.1 t ht).1,by have:=(h.1 t ht).2;omega⟩,h.2⟩ he
  rw[if_neg h2] at he⊢;by_cases h3:(read l i).2.2≠0
  ·rw[if_pos h3] at he;exact absurd he h3
  rw[if_neg h3] at he⊢;have h3:(read l i).2.2=0:=by omega
  obtain⟨r1,r2⟩:=read_len (by omega) h3;obtain⟨o1,o2⟩:=read_ok h3;refine Fz ⟨λt ht=>?_,?_⟩ he
  ·rcases List.mem_append.1 ht with ht |ht
   ·exact⟨(h.1 t ht).1,by have:=(h.1 t ht).2;omega⟩
   rw[List.mem_singleton] at ht;subst ht;exact⟨o1,by omega⟩
  rw[List.pairwise_append];refine⟨h.2,by simp,λa ha b hb=>?_⟩;rw[List.mem_singleton] at hb;subst hb;rw[o2];exact(h.1 a ha).2
theorem cutL_up {l:List Int}{b:Option Nat}(h:(cutL l b).2.2=0):∃j,Up (cutL l b).1 j:=by
 unfold cutL at h⊢
 split
 ·next h1=>rw[if_pos h1] at h;cases h
 next h1=>
 rw[if_neg h1] at h
 split
 ·next h2=>rw[if_pos h2] at h;exact absurd h h2
 next h2=>
 rw[if_neg h2] at h;cases b with
 |none=>exact Fz ⟨by simp,by simp⟩ h
 |some _=>cases h
def Sy (k:Nat)(t:Tok):Tok:={t with at_:=k+t.at_}
theorem Di {b l:List Int}{i:Nat}:(b++l).getD (b.length+i) (-1)=l.getD i (-1):=by
 rw[List.getD_eq_getElem?_getD,List.getD_eq_getElem?_getD,List.getElem?_append_right (by omega),Nat.add_sub_cancel_left]
theorem Wj {b l:List Int}{i:Nat}:(b++l).drop (b.length+i)=l.drop i:=by
 rw[List.drop_append,List.drop_eq_nil_of_le (by omega),Nat.add_sub_cancel_left,List.nil_append]
theorem Z5 {b l:List Int}{i:Nat}:words (b++l) (b.length+i)=words l i:=by unfold words;rw[Wj]
theorem Wx {b l:List Int}{i:Nat}:figures (b++l) (b.length+i)=figures l i:=by unfold figures;rw[Wj]
theorem Gz {b l:List Int}{i:Nat}:numLen (b++l) (b.length+i)=numLen l i:=by
 unfold numLen;simp only[Nat.add_assoc,Di,Wx]
theorem Ol {b l:List Int}:∀{f f' k:Nat} {out:List Int},l.length<f+k->l.length<f'+k->quote (b++l) f' (b.length+k) out=(quote l f k out).map λp=>(p.1,b.length+p.2)
 | 0,0,k,out,h1,h2=>rfl
 |f+1,0,k,out,h1,h2=>by
  unfold quote;rw[if_pos (by omega)];rfl
 | 0,f'+1,k,out,h1,h2=>by
  unfold quote;rw[if_pos (by simp;omega)];rfl
 |f+1,f'+1,k,out,h1,h2=>by
  unfold quote;have e0:((b++l).length<=b.length+k)↔l.length<=k:=by simp
  by_cases hk:l.length<=k
  ·rw[if_pos (e0.2 hk),if_pos hk];rfl
  rw[if_neg (λh=>hk (e0.1 h)),if_neg hk];simp only[Nat.add_assoc,Di];by_cases h39:l.getD k (-1)≠39
  ·rw[if_pos h39,if_pos h39]
   exact Ol (by omega) (by omega)
  rw[if_neg h39,if_neg h39];by_cases h40:l.getD (k+1) (-1)≠39
  ·rw[if_pos h40,if_pos h40];rfl
  rw[if_neg h40,if_neg h40];exact Ol (by omega) (by omega)
theorem read_right {b l:List Int}{i:Nat}:read (b++l) (b.length+i)=(if(read l i).2.2=0 then Sy b.length (read l i).1 else(read l i).1,(read l i).2):=by
 unfold read;simp only[Nat.add_assoc,Di,Gz,Z5,Wj];generalize l.getD i (-1)=c;by_cases c3:cls c=3
 ·simp only[if_pos c3]
  cases numLen l i with
  |none=>rfl
  |some n=>
   simp only;by_cases hr:(Dg.parse (enc ((l.drop i).take n))).2=0
   ·simp only[if_pos hr];rfl
   simp only[if_neg hr]
 simp only[if_neg c3];by_cases c2:cls c=2
 ·simp only[if_pos c2]
  by_cases h16:16<words l i
  ·simp only[if_pos h16];rfl
  simp only[if_neg h16];rfl
 simp only[if_neg c2];by_cases c39:c=39
 ·simp only[if_pos c39]
  have:=Ol (b:=b) (l:=l) (f:=l.length+1) (f':=(b++l).length+1) (k:=i+1) (out:=[]) (by omega) (by simp;omega);rw[this];cases hq:quote l (l.length+1) (i+1) [] with
  |none=>rfl
  |some p=>
   obtain⟨t,e⟩:=p;have hle:=Pk hq;simp only[Option.map_some,if_true];rw[show b.length+e-(b.length+i)=e-i by omega];rfl
 simp only[if_neg c39];by_cases cp:c=9109\/c=9054
 ·simp only[if_pos cp]
  split
  ·rfl
  split
  ·rfl
  split
  all_goals
   rfl
 simp only[if_neg cp];by_cases c0:cls c=0
 ·simp only[if_pos c0];rfl
 simp only[if_neg c0];rfl
end Tk
namespace Ar
mutual
inductive Te where
 |mk (S:Nat) (shape:List Int) (cells:List Fg)
inductive Fg where
 |mk (L:Nat) (kind:Int) (neg:Bool) (top bot:List Nat) (c:Int) (ins:List Te)
end
mutual
def Hqa (lab:Bool):Te->Te->Bool
 | .mk S sh cs,.mk S' sh' cs'=>(!lab||S==S')&&(sh==sh')&&Hz lab cs cs'
def Hz (lab:Bool):List Fg->List Fg->Bool
 | [],[]=>true
 |c::r,c'::r'=>Qla lab c c'&&Hz lab r r'
 |_,_=>false
def Qla (lab:Bool):Fg->Fg->Bool
 | .mk L k n t b c ins,.mk L' k' n' t' b' c' ins'=>(!lab||L==L')&&(k==k')&&(c==c')&&(n==n'&&t==t'&&b==b')&&Iz lab ins ins'
def Iz (lab:Bool):List Te->List Te->Bool
 | [],[]=>true
 |a::r,a'::r'=>Hqa lab a a'&&Iz lab r r'
 |_,_=>false
end
end Ar
