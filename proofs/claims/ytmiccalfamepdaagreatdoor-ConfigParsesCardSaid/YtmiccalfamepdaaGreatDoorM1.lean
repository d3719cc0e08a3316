/- Texts of this proof, joined. -/
import Derived.Lib.ItoaMem
import Derived.Lib.ItoaNum
import Derived.Lib.Join
import Derived.Lib.Bytealg
import Derived.Lib.Hide
import Derived.Below
set_option linter.all false
set_option maxHeartbeats 8000000
set_option maxRecDepth 100000
theorem Go.Qd {p : Prop} (h : p) : Go.RowKit.Hid p := h
theorem Lr{n:Nat}:n<=n:=Nat.le_refl n
theorem Br{B:Nat}{w:Go.World}:Go.RowKit.Below B w w:=Go.RowKit.Below.refl B w
namespace Ar
mutual
inductive Ba where
 |mk (S:Nat) (shape:List Int) (cells:List Ha)
inductive Ha where
 |mk (L:Nat) (kind:Int) (neg:Bool) (top bot:List Nat) (c:Int) (ins:List Ba)
end
mutual
def Wd:Ba->Nat
 | .mk S _ cells=>Dd S cells
def Dd:Nat->List Ha->Nat
 |x,[]=>x
 |x,c::r=>Dd (Ah x c) r
def Ah:Nat->Ha->Nat
 |x,.mk L _ _ _ _ _ ins=>Ed (x|||L) ins
def Ed:Nat->List Ba->Nat
 |x,[]=>x
 |x,a::r=>Ed (x|||Wd a) r
end
mutual
def same (lab:Bool):Ba->Ba->Bool
 | .mk S sh cs,.mk S' sh' cs'=>(!lab||S==S')&&(sh==sh')&&La lab cs cs'
def La (lab:Bool):List Ha->List Ha->Bool
 | [],[]=>true
 |c::r,c'::r'=>Kc lab c c'&&La lab r r'
 |_,_=>false
def Kc (lab:Bool):Ha->Ha->Bool
 | .mk L k n t b c ins,.mk L' k' n' t' b' c' ins'=>(!lab||L==L')&&(k==k')&&(c==c')&&(n==n'&&t==t'&&b==b')&&Ca lab ins ins'
def Ca (lab:Bool):List Ba->List Ba->Bool
 | [],[]=>true
 |a::r,a'::r'=>same lab a a'&&Ca lab r r'
 |_,_=>false
end
mutual
theorem Aca (lab:Bool):∀a:Ba,same lab a a=true
 | .mk _ _ cs=>by simp[same,Ql lab cs]
theorem Ql (lab:Bool):∀a:List Ha,La lab a a=true
 | []=>by simp[La]
 |c::r=>by simp[La,Ty lab c,Ql lab r]
theorem Ty (lab:Bool):∀a:Ha,Kc lab a a=true
 | .mk _ _ _ _ _ _ ins=>by simp[Kc,Nh lab ins]
theorem Nh (lab:Bool):∀a:List Ba,Ca lab a a=true
 | []=>by simp[Ca]
 |a::r=>by simp[Ca,Aca lab a,Nh lab r]
end
theorem Hi (lab:Bool):∀{a b:List Ha},La lab a b=true->a.length=b.length
 | [],[],_=>rfl
 | [],_::_,h=>by simp[La] at h
 |_::_,[],h=>by simp[La] at h
 |c::r,c'::r',h=>by
  simp only[La,Bool.and_eq_true] at h;simp[Hi lab h.2]
theorem Me (lab:Bool):∀{a b:List Ba},Ca lab a b=true->a.length=b.length
 | [],[],_=>rfl
 | [],_::_,h=>by simp[Ca] at h
 |_::_,[],h=>by simp[Ca] at h
 |c::r,c'::r',h=>by
  simp only[Ca,Bool.and_eq_true] at h;simp[Me lab h.2]
theorem Hm {cs:List Ha}{k:Nat}(h:k<cs.length)(x:Nat):Dd x (cs.drop k)=Dd (Ah x cs[k]) (cs.drop (k+1)):=by
 rw[List.drop_eq_getElem_cons h,Dd]
theorem Im {cs:List Ba}{k:Nat}(h:k<cs.length)(x:Nat):Ed x (cs.drop k)=Ed (x|||Wd cs[k]) (cs.drop (k+1)):=by
 rw[List.drop_eq_getElem_cons h,Ed]
theorem Rl (lab:Bool){cs cs':List Ha}{k:Nat}(h:k<cs.length)(h':k<cs'.length):La lab (cs.drop k) (cs'.drop k)=(Kc lab cs[k] cs'[k]&&La lab (cs.drop (k+1)) (cs'.drop (k+1))):=by
 rw[List.drop_eq_getElem_cons h,List.drop_eq_getElem_cons h',La]
theorem Ef (lab:Bool){cs cs':List Ba}{k:Nat}(h:k<cs.length)(h':k<cs'.length):Ca lab (cs.drop k) (cs'.drop k)=(same lab cs[k] cs'[k]&&Ca lab (cs.drop (k+1)) (cs'.drop (k+1))):=by
 rw[List.drop_eq_getElem_cons h,List.drop_eq_getElem_cons h',Ca]
end Ar
namespace Nt
def val:List Nat->Nat
 | []=>0
 |d::r=>d+4294967296*val r
def Ok (l:List Nat):Prop:=∀d∈l,d<4294967296
def digs (n:Nat):List Nat:=if h:n=0 then[] else n%4294967296::digs (n/4294967296)
termination_by n
decreasing_by omega
def Top (l:List Nat):Prop:=∀h:l≠[],l.getLast h≠0
theorem digs_zero:digs 0=[]:=by rw[digs];rfl
theorem digs_pos {n:Nat}(h:n≠0):digs n=n%4294967296::digs (n/4294967296):=by rw[digs,dif_neg h]
theorem val_digs (n:Nat):val (digs n)=n:=by
 induction n using Nat.strongRecOn with
 |_ n ih=>
  by_cases h:n=0
  ·subst h;rw[digs_zero];rfl
  rw[digs_pos h,val,ih _ (by omega)];omega
theorem ok_digs (n:Nat):Ok (digs n):=by
 induction n using Nat.strongRecOn with
 |_ n ih=>
  by_cases h:n=0
  ·subst h;rw[digs_zero];intro d hd;cases hd
  rw[digs_pos h];intro d hd;rcases List.mem_cons.1 hd with rfl |hd
  ·omega
  exact ih _ (by omega) d hd
theorem digs_nil_iff {n:Nat}:digs n=[]↔n=0:=by
 constructor
 ·intro h
  by_cases h0:n=0
  ·exact h0
  rw[digs_pos h0] at h;cases h
 rintro rfl;exact digs_zero
theorem top_digs (n:Nat):Top (digs n):=by
 induction n using Nat.strongRecOn with
 |_ n ih=>
  by_cases h:n=0
  ·subst h;rw[digs_zero];intro h;exact absurd rfl h
  intro hne;simp only[digs_pos h];by_cases h2:n/4294967296=0
  ·simp only[h2,digs_zero,List.getLast_singleton];omega
  rw[List.getLast_cons (by rw[ne_eq,digs_nil_iff];exact h2)];exact ih _ (by omega) _
theorem Kfa {d:Nat}{r:List Nat}(h:Top (d::r)):Top r:=by
 intro hne;have:=h (by simp);rwa[List.getLast_cons hne] at this
theorem Fi {d:Nat}{r:List Nat}(h:Ok (d::r)):d<4294967296/\Ok r:=⟨h d List.mem_cons_self,λx hx=>h x (List.mem_cons_of_mem _ hx)⟩
theorem digs_val:∀{l:List Nat},Ok l->Top l->digs (val l)=l
 | [],_,_=>by rw[val,digs_zero]
 |d::r,ho,ht=>by
  obtain⟨hd,hr⟩:=Fi ho;have ih:=digs_val hr (Kfa ht);by_cases h0:val (d::r)=0
  ·exfalso
   rw[val] at h0;have hr0:val r=0:=by omega
   rw[hr0,digs_zero] at ih;subst ih;exact ht (by simp) (by simp;omega)
  rw[digs_pos h0,val];rw[show(d+4294967296*val r)%4294967296=d by omega,show(d+4294967296*val r)/4294967296=val r by omega,ih]
theorem Zb:∀(a b:List Nat),val (a++b)=val a+4294967296^a.length*val b
 | [],b=>by simp[val]
 |d::r,b=>by
  rw[List.cons_append,val,Zb r b,val,List.length_cons,Nat.pow_succ]
  grind
theorem val_lt:∀{l:List Nat},Ok l->val l<4294967296^l.length
 | [],_=>by simp[val]
 |d::r,ho=>by
  obtain⟨hd,hr⟩:=Fi ho;have ih:=val_lt hr;rw[val,List.length_cons,Nat.pow_succ];generalize 4294967296^r.length=p at ih⊢;omega
theorem val_take_succ {l:List Nat}{i:Nat}(h:i<l.length):val (l.take (i+1))=val (l.take i)+4294967296^i*l[i]:=by
 rw[List.take_succ_eq_append_getElem h,Zb];simp[val,Nat.min_eq_left (Nat.le_of_lt h)]
theorem Vc (l:List Nat)(i:Nat)(h:i<=l.length):val l=val (l.take i)+4294967296^i*val (l.drop i):=by
 have:=Zb (l.take i) (l.drop i);rw[List.take_append_drop,List.length_take,Nat.min_eq_left h] at this;exact this
theorem Jm:∀{l:List Nat},(∀d∈l,d=0)->val l=0
 | [],_=>rfl
 |d::r,h=>by rw[val,h d List.mem_cons_self,Jm (λx hx=>h x (List.mem_cons_of_mem _ hx))]
theorem ok_take {l:List Nat}(h:Ok l)(n:Nat):Ok (l.take n):=λd hd=>h d (List.mem_of_mem_take hd)
theorem T7 {l:List Nat}(h:Ok l)(n:Nat):Ok (l.drop n):=λd hd=>h d (List.mem_of_mem_drop hd)
theorem ok_get {l:List Nat}(h:Ok l){i:Nat}(hi:i<l.length):l[i]<4294967296:=h _ (List.getElem_mem hi)
theorem Ue {l:List Nat}(h:Ok l){i x:Nat}(hx:x<4294967296):Ok (l.set i x):=λd hd=>by
 rcases List.mem_or_eq_of_mem_set hd with h1 |h1
 ·exact h d h1
 rw[h1];exact hx
theorem take_eq_digs {l:List Nat}{n:Nat}(ho:Ok l)(hn:n<=l.length)(hz:∀j (hj:j<l.length),n<=j->l[j]=0)(ht:∀h:0<n,l[n-1]'(by omega)≠0):l.take n=digs (val l):=by
 have hv:val (l.drop n)=0:=Jm λd hd=>by
  obtain⟨j,hj,rfl⟩:=List.getElem_of_mem hd;rw[List.getElem_drop];exact hz _ _ (by omega)
 have h1:=Vc l n hn;rw[hv,Nat.mul_zero,Nat.add_zero] at h1;rw[h1];refine(digs_val (ok_take ho n) λhne=>?_).symm;have hpos:0<n:=by
  rcases Nat.eq_zero_or_pos n with h0 |h0
  ·subst h0;simp at hne
  exact h0
 rw[List.getLast_eq_getElem];simp only[List.length_take,Nat.min_eq_left hn,List.getElem_take];exact ht hpos
theorem take_digs:∀{l:List Nat},Ok l->l.take (digs (val l)).length=digs (val l)
 | [],_=>by simp[val,digs_zero]
 |d::r,ho=>by
  obtain⟨hd,hr⟩:=Fi ho;have ih:=take_digs hr;by_cases h0:val (d::r)=0
  ·rw[h0,digs_zero];rfl
  have e:digs (val (d::r))=d::digs (val r):=by
   rw[digs_pos h0,val];rw[show(d+4294967296*val r)%4294967296=d by omega,show(d+4294967296*val r)/4294967296=val r by omega]
  rw[e,List.length_cons,List.take_succ_cons,ih]
theorem digs_inj {a b:Nat}(h:digs a=digs b):a=b:=by rw[<-val_digs a,<-val_digs b,h]
def size (n:Nat):Nat:=(digs n).length
theorem digs_len_le {l:List Nat}(h:Ok l):(digs (val l)).length<=l.length:=by
 have key:∀(k n:Nat),n<4294967296^k->(digs n).length<=k:=by
  intro k
  induction k with
  |zero=>intro n hn;rw[show n=0 by simpa using hn,digs_zero];simp
  |succ k ih=>
   intro n hn;by_cases h0:n=0
   ·subst h0;rw[digs_zero];simp
   rw[digs_pos h0,List.length_cons];have:=ih (n/4294967296) (by rw[Nat.pow_succ] at hn;rw[Nat.div_lt_iff_lt_mul (by omega)];exact hn);omega
 exact key _ _ (val_lt h)
theorem digs_len_lt {n k:Nat}(h:n<4294967296^k):(digs n).length<=k:=by
 have h2:=digs_len_le (l:=(List.range k).map λi=>n/4294967296^i%4294967296) (λd hd=>by
  obtain⟨i,_,rfl⟩:=List.mem_map.1 hd;omega)
 have key:∀(k n:Nat),n<4294967296^k->(digs n).length<=k:=by
  intro k
  induction k with
  |zero=>intro n hn;rw[show n=0 by simpa using hn,digs_zero];simp
  |succ k ih=>
   intro n hn;by_cases h0:n=0
   ·subst h0;rw[digs_zero];simp
   rw[digs_pos h0,List.length_cons];have:=ih (n/4294967296) (by rw[Nat.pow_succ] at hn;rw[Nat.div_lt_iff_lt_mul (by omega)];exact hn);omega
 exact key k n h
theorem digs_ge {n:Nat}(h:n≠0):4294967296^((digs n).length-1)<=n:=by
 induction n using Nat.strongRecOn with
 |_ n ih=>
  rw[digs_pos h,List.length_cons,Nat.add_sub_cancel];by_cases h2:n/4294967296=0
  ·rw[h2,digs_zero];simp;omega
  have:=ih _ (by omega) h2;have hl:(digs (n/4294967296)).length≠0:=by
   intro e;exact h2 (digs_nil_iff.1 (List.eq_nil_of_length_eq_zero e))
  obtain⟨m,hm⟩:∃m,(digs (n/4294967296)).length=m+1:=⟨(digs (n/4294967296)).length-1,by omega⟩;rw[hm] at this⊢;rw[Nat.add_sub_cancel] at this;rw[Nat.pow_succ];omega
def cmp (x y:Nat):Int:=if x<y then-1 else if y<x then 1 else 0
theorem cmp_lt {x y:Nat}(h:x<y):cmp x y= -1:=if_pos h
theorem cmp_gt {x y:Nat}(h:y<x):cmp x y=1:=by unfold cmp;rw[if_neg (by omega),if_pos h]
theorem cmp_eq (x:Nat):cmp x x=0:=by unfold cmp;rw[if_neg (by omega),if_neg (by omega)]
theorem val_lt_of {a b:List Nat}{i:Nat}(ha:Ok a)(hi:i<a.length)(hi':i<b.length)(hd:a.drop (i+1)=b.drop (i+1))(hlt:a[i]<b[i]):val a<val b:=by
 have h1:=Vc a i (by omega);have h2:=Vc b i (by omega);rw[List.drop_eq_getElem_cons hi,val] at h1;rw[List.drop_eq_getElem_cons hi',val,<-hd] at h2;have h3:=val_lt (ok_take ha i);rw[List.length_take,Nat.min_eq_left (by omega)] at h3;generalize val (a.drop (i+1))=r at h1 h2;generalize a[i]=x at h1 hlt;generalize b[i]=y at h2 hlt;generalize 4294967296^i=p at h1 h2 h3;generalize val (a.take i)=s at h1 h3;generalize val (b.take i)=t at h2;have h4:p*(x+4294967296*r)+p<=p*(y+4294967296*r):=by
  have h5:p*(x+4294967296*r+1)=p*(x+4294967296*r)+p:=Nat.mul_succ _ _;have h6:=Nat.mul_le_mul_left p (show x+4294967296*r+1<=y+4294967296*r by omega);omega
 omega
theorem digs_len_mono {x y:Nat}(h:(digs x).length<(digs y).length):x<y:=by
 have hy:y≠0:=by rintro rfl;rw[digs_zero] at h;simp at h
 have h1:=digs_ge hy;have h2:=val_lt (ok_digs x);rw[val_digs] at h2;have h3:(4294967296:Nat)^(digs x).length<=4294967296^((digs y).length-1):=Nat.pow_le_pow_right (by omega) (by omega);omega
def pad (a:List Nat)(n:Nat):List Nat:=a++List.replicate (n-a.length) 0
theorem val_pad (a:List Nat)(n:Nat):val (pad a n)=val a:=by
 unfold pad;rw[Zb,Jm (λd hd=>(List.mem_replicate.1 hd).2),Nat.mul_zero,Nat.add_zero]
theorem pad_len {a:List Nat}{n:Nat}(h:a.length<=n):(pad a n).length=n:=by simp[pad];omega
theorem ok_pad {a:List Nat}(h:Ok a)(n:Nat):Ok (pad a n):=λd hd=>by
 rcases List.mem_append.1 hd with h1 |h1
 ·exact h d h1
 rw[(List.mem_replicate.1 h1).2];omega
theorem Lfa {a:List Nat}{n i:Nat}(hi:i<(pad a n).length):(pad a n)[i]? =some (a.getD i 0):=by
 unfold pad at hi⊢;rw[List.length_append,List.length_replicate] at hi;rw[List.getD_eq_getElem?_getD,List.getElem?_append]
 split
 ·rename_i h;rw[List.getElem?_eq_getElem h];rfl
 rename_i h;rw[List.getElem?_replicate,if_pos (by omega),List.getElem?_eq_none (by omega)];rfl
theorem pad_get {a:List Nat}{n i:Nat}(hi:i<(pad a n).length):(pad a n)[i]=a.getD i 0:=by
 have:=Lfa hi;rw[List.getElem?_eq_getElem hi] at this;exact Option.some.inj this
theorem U7 {l:List Nat}(ho:Ok l)(h:l≠[]->4294967296^(l.length-1)<=val l):digs (val l)=l:=by
 refine digs_val ho λhne hz=>?_;have h1:=h hne;have hl:0<l.length:=List.length_pos_iff.2 hne;have e:l=l.take (l.length-1)++[0]:=by
  have:=List.dropLast_concat_getLast hne;rw[hz,List.dropLast_eq_take] at this;exact this.symm
 have hv:val l=val (l.take (l.length-1)):=by
  have:=congrArg val e;rw[Zb] at this;rw[this];simp[val]
 have h2:=val_lt (ok_take ho (l.length-1));rw[List.length_take,Nat.min_eq_left (by omega)] at h2;omega
theorem Bh (l:List Nat)(k:Nat):val (l.take (k+1))=val (l.take k)+4294967296^k*l.getD k 0:=by
 by_cases h:k<l.length
 ·rw[val_take_succ h,List.getD_eq_getElem?_getD,List.getElem?_eq_getElem h];rfl
 rw[List.take_of_length_le (by omega),List.take_of_length_le (by omega),List.getD_eq_getElem?_getD,List.getElem?_eq_none (by omega)];simp
theorem Hf {l:List Nat}{k x:Nat}(h:k<l.length):val ((l.set k x).take (k+1))=val (l.take k)+4294967296^k*x:=by
 rw[val_take_succ (by simpa using h),List.getElem_set_self,List.take_set_of_le Lr]
theorem drop_set {l:List Nat}{k x:Nat}:(l.set k x).drop (k+1)=l.drop (k+1):=by
 rw[List.drop_set,if_pos (by omega)]
theorem digs_len_le_of {x y:Nat}(h:y<=x):(digs y).length<=(digs x).length:=by
 rcases Nat.lt_or_ge (digs x).length (digs y).length with h1 |h1
 ·have:=digs_len_mono h1;omega
 exact h1
theorem cmp_neg {x y:Nat}:cmp x y<0↔x<y:=by
 unfold cmp
 split
 ·simp_all
 split<;>simp<;>omega
def AddUp (a b cur:List Nat)(k c:Nat):Prop:=cur.length=k/\Ok cur/\val cur+c*4294967296^k=val (a.take k)+val (b.take k)
theorem addUp_step {a b cur:List Nat}{k c:Nat}(h:AddUp a b cur k c):AddUp a b (cur++[(a.getD k 0+b.getD k 0+c)%4294967296]) (k+1) ((a.getD k 0+b.getD k 0+c)/4294967296):=by
 obtain⟨h1,h2,h3⟩:=h;refine⟨by simp[h1],?_,?_⟩
 ·intro d hd
  rcases List.mem_append.1 hd with h4 |h4
  ·exact h2 d h4
  simp at h4;omega
 rw[Zb,Bh,Bh,h1,Nat.pow_succ];simp only[val,Nat.mul_zero,Nat.add_zero];have e:a.getD k 0+b.getD k 0+c=(a.getD k 0+b.getD k 0+c)%4294967296+4294967296*((a.getD k 0+b.getD k 0+c)/4294967296):=by omega
 generalize 4294967296^k=p at h3⊢;generalize(a.getD k 0+b.getD k 0+c)%4294967296=s at e⊢;generalize(a.getD k 0+b.getD k 0+c)/4294967296=d at e⊢;generalize a.getD k 0=x at e⊢;generalize b.getD k 0=y at e⊢
 grind
theorem getD_lt {l:List Nat}(h:Ok l)(k:Nat):l.getD k 0<4294967296:=by
 rw[List.getD_eq_getElem?_getD];rcases Nat.lt_or_ge k l.length with h1 |h1
 ·rw[List.getElem?_eq_getElem h1];exact ok_get h h1
 rw[List.getElem?_eq_none h1];show 0<4294967296;omega
theorem addUp_end {a b cur:List Nat}{n c:Nat}(ha:Ok a)(hb:Ok b)(hla:a.length<=n)(hlb:b.length<=n)(h:AddUp a b cur (n+1) c):val cur=val a+val b:=by
 obtain⟨h1,h2,h3⟩:=h;rw[List.take_of_length_le (by omega),List.take_of_length_le (by omega)] at h3;have p1:=val_lt ha;have p2:=val_lt hb;have q1:(4294967296:Nat)^a.length<=4294967296^n:=Nat.pow_le_pow_right (by omega) hla;have q2:(4294967296:Nat)^b.length<=4294967296^n:=Nat.pow_le_pow_right (by omega) hlb;rw[Nat.pow_succ] at h3;generalize 4294967296^n=p at*;rcases Nat.eq_zero_or_pos c with h0 |h0
 ·subst h0;omega
 exfalso
 have:p*4294967296<=c*(p*4294967296):=Nat.le_mul_of_pos_left _ h0;omega
def SubUp (a b cur:List Nat)(k c:Nat):Prop:=cur.length=k/\Ok cur/\val cur+val (b.take k)=val (a.take k)+c*4294967296^k
theorem subUp_step {a b cur:List Nat}{k c s d:Nat}(h:SubUp a b cur k c)(hs:s<4294967296)(e:a.getD k 0+4294967296*d=s+b.getD k 0+c):SubUp a b (cur++[s]) (k+1) d:=by
 obtain⟨h1,h2,h3⟩:=h;refine⟨by simp[h1],?_,?_⟩
 ·intro d hd
  rcases List.mem_append.1 hd with h4 |h4
  ·exact h2 d h4
  simp at h4;omega
 rw[Zb,Bh,Bh,h1,Nat.pow_succ];simp only[val,Nat.mul_zero,Nat.add_zero];generalize 4294967296^k=p at h3⊢;generalize a.getD k 0=x at e⊢;generalize b.getD k 0=y at e⊢
 grind
theorem subUp_end {a b cur:List Nat}{n c:Nat}(hla:a.length<=n)(hlb:b.length<=n)(hle:val b<=val a)(h:SubUp a b cur n c):val cur=val a-val b:=by
 obtain⟨h1,h2,h3⟩:=h;rw[List.take_of_length_le (by omega),List.take_of_length_le (by omega)] at h3;have:=val_lt h2;rw[h1] at this;generalize 4294967296^n=p at*;rcases Nat.eq_zero_or_pos c with h0 |h0
 ·subst h0;omega
 exfalso
 have:p<=c*p:=Nat.le_mul_of_pos_left _ h0;omega
def TwiceUp (a:List Nat)(bit:Nat)(cur:List Nat)(k c:Nat):Prop:=cur.length=k/\Ok cur/\val cur+c*4294967296^k=2*val (a.take k)+bit
theorem twiceUp_step {a cur:List Nat}{bit k c:Nat}(h:TwiceUp a bit cur k c):TwiceUp a bit (cur++[(2*a.getD k 0+c)%4294967296]) (k+1) ((2*a.getD k 0+c)/4294967296):=by
 obtain⟨h1,h2,h3⟩:=h;refine⟨by simp[h1],?_,?_⟩
 ·intro d hd
  rcases List.mem_append.1 hd with h4 |h4
  ·exact h2 d h4
  simp at h4;omega
 rw[Zb,Bh,h1,Nat.pow_succ];simp only[val,Nat.mul_zero,Nat.add_zero];have e:2*a.getD k 0+c=(2*a.getD k 0+c)%4294967296+4294967296*((2*a.getD k 0+c)/4294967296):=by omega
 generalize 4294967296^k=p at h3⊢;generalize(2*a.getD k 0+c)%4294967296=s at e⊢;generalize(2*a.getD k 0+c)/4294967296=d at e⊢;generalize a.getD k 0=x at e⊢
 grind
theorem twiceUp_end {a cur:List Nat}{bit c:Nat}(ha:Ok a)(hb:bit<=1)(h:TwiceUp a bit cur (a.length+1) c):val cur=2*val a+bit:=by
 obtain⟨h1,h2,h3⟩:=h;rw[List.take_of_length_le (by omega)] at h3;have p1:=val_lt ha;rw[Nat.pow_succ] at h3;generalize 4294967296^a.length=p at*;rcases Nat.eq_zero_or_pos c with h0 |h0
 ·subst h0;omega
 exfalso
 have:p*4294967296<=c*(p*4294967296):=Nat.le_mul_of_pos_left _ h0;omega
theorem Ir:Ok []:=λd hd=>by cases hd
theorem addUp_start (a b:List Nat):AddUp a b [] 0 0:=⟨rfl,Ir,by simp[val]⟩
theorem subUp_start (a b:List Nat):SubUp a b [] 0 0:=⟨rfl,Ir,by simp[val]⟩
theorem twiceUp_start (a:List Nat)(bit:Nat):TwiceUp a bit [] 0 bit:=⟨rfl,Ir,by simp[val]⟩
theorem bit_limb {a:List Nat}(ha:Ok a)(i:Nat):a.getD (i/32) 0/2^(i%32)%2=val a/2^i%2:=by
 have key:∀(k:Nat) (l:List Nat),Ok l->val l/4294967296^k%4294967296=l.getD k 0:=by
  intro k
  induction k with
  |zero=>
   intro l hl;cases l with
   |nil=>simp[val]
   |cons d r=>have:=(Fi hl).1;simp[val];omega
  |succ k ih=>
   intro l hl;cases l with
   |nil=>simp[val]
   |cons d r=>
    have h1:=(Fi hl).1;rw[List.getD_cons_succ,<-ih r (Fi hl).2,val,Nat.pow_succ,Nat.mul_comm (4294967296^k),<-Nat.div_div_eq_div_mul];rw[show(d+4294967296*val r)/4294967296=val r by omega]
 rw[<-key _ a ha];have e:(2:Nat)^i=4294967296^(i/32)*2^(i%32):=by
  rw[show(4294967296:Nat)=2^32 from rfl,<-Nat.pow_mul,<-Nat.pow_add,Nat.div_add_mod]
 rw[e,<-Nat.div_div_eq_div_mul];generalize val a/4294967296^(i/32)=v;have h32:i%32<32:=Nat.mod_lt _ (by omega);generalize i%32=j at h32;have t0:(v%2^32).testBit j=v.testBit j:=by rw[Nat.testBit_mod_two_pow,decide_eq_true h32,Bool.true_and]
 rw[Nat.testBit_eq_decide_div_mod_eq,Nat.testBit_eq_decide_div_mod_eq,decide_eq_decide,show(2:Nat)^32=4294967296 from rfl] at t0;have m1:=Nat.mod_lt (v%4294967296/2^j) (show 0<2 by omega);have m2:=Nat.mod_lt (v/2^j) (show 0<2 by omega);generalize v%4294967296/2^j%2=p at*;generalize v/2^j%2=q at*;omega
theorem half_step (v k:Nat):v/2^k=2*(v/2^(k+1))+v/2^k%2:=by
 rw[Nat.pow_succ,<-Nat.div_div_eq_div_mul];omega
theorem len_mul {a b:List Nat}(ha:Ok a)(hb:Ok b){x:Nat}(h:x<=val a*val b):(digs x).length<=a.length+b.length:=by
 refine digs_len_lt (Nat.lt_of_le_of_lt h ?_);rw[Nat.pow_add];exact Nat.mul_lt_mul'' (val_lt ha) (val_lt hb)
theorem len_le {a:List Nat}(ha:Ok a){x:Nat}(h:x<=val a):(digs x).length<=a.length:=digs_len_lt (Nat.lt_of_le_of_lt h (val_lt ha))
theorem top_zero {a:List Nat}(ha:Ok a):val a/2^(32*a.length)=0:=by
 refine Nat.div_eq_of_lt ?_;rw[Nat.pow_mul];exact val_lt ha
theorem mul_step {v b k x bit:Nat}(hx:x=v/2^(k+1)*b)(hb:bit=v/2^k%2):2*x+bit*b=v/2^k*b:=by
 have:=half_step v k;rw[<-hb] at this;rw[this,hx]
 grind
theorem Mka {v b k:Nat}:v/2^k*b<=v*b:=Nat.mul_le_mul_right _ (Nat.div_le_self _ _)
theorem mul_le2 {v b k x:Nat}(hx:x=v/2^(k+1)*b):2*x<=v*b:=by
 have h1:=half_step v k;have h2:2*(v/2^(k+1))<=v/2^k:=by omega
 have h3:2*x<=v/2^k*b:=by
  rw[hx,<-Nat.mul_assoc];exact Nat.mul_le_mul_right _ h2
 exact Nat.le_trans h3 Mka
theorem div_step {n b q r bit:Nat}(hb:0<b)(hq:q=n/b)(hr:r=n%b)(hbit:bit<=1):
 (b<=2*r+bit->2*q+1=(2*n+bit)/b/\2*r+bit-b=(2*n+bit)%b)/\(¬b<=2*r+bit->2*q+0=(2*n+bit)/b/\2*r+bit=(2*n+bit)%b):=by
 have h1:=Nat.div_add_mod n b;have h2:=Nat.mod_lt n hb;rw[<-hq,<-hr] at h1;rw[<-hr] at h2
 constructor
 ·intro h
  have e:2*n+bit=(2*r+bit-b)+b*(2*q+1):=by
   have h3:b*(2*q+1)=2*(b*q)+b:=by grind
   omega
  rw[e,Nat.add_mul_div_left _ _ hb,Nat.add_mul_mod_self_left,Nat.div_eq_of_lt (by omega),Nat.mod_eq_of_lt (by omega)];exact⟨by omega,rfl⟩
 intro h;have e:2*n+bit=(2*r+bit)+b*(2*q):=by
  have h3:b*(2*q)=2*(b*q):=by grind
  omega
 rw[e,Nat.add_mul_div_left _ _ hb,Nat.add_mul_mod_self_left,Nat.div_eq_of_lt (by omega),Nat.mod_eq_of_lt (by omega)];exact⟨by omega,rfl⟩
def quo (x y:Nat):Nat:=x/y
def rest (x y:Nat):Nat:=if y=0 then 0 else x%y
theorem quo_zero (x:Nat):quo x 0=0:=Nat.div_zero x
theorem rest_zero (x:Nat):rest x 0=0:=if_pos rfl
theorem rest_pos {x y:Nat}(h:y≠0):rest x y=x%y:=if_neg h
theorem mul_bound {x y:Nat}(hx:x<4294967296)(hy:y<4294967296):x*y<=18446744065119617025:=by
 have:=Nat.mul_le_mul (Nat.le_of_lt_succ hx) (Nat.le_of_lt_succ hy)
 simpa using this
def ShortAt (l:List Nat)(d:Nat)(cur:List Nat)(k r:Nat):Prop:=
 cur.length=l.length/\Ok cur/\r<d/\cur.take k=l.take k/\val (cur.drop k)*d+r=val (l.drop k)
theorem short_start {l:List Nat}{d:Nat}(h:Ok l)(hd:0<d):ShortAt l d l l.length 0:=⟨rfl,h,hd,rfl,by simp[val]⟩
theorem short_get {l cur:List Nat}{d k r:Nat}(h:ShortAt l d cur (k+1) r)(hk:k<l.length):cur[k]? =some l[k]:=by
 have:(cur.take (k+1))[k]? =(l.take (k+1))[k]? :=by rw[h.2.2.2.1]
 rw[List.getElem?_take,List.getElem?_take,if_pos (by omega),if_pos (by omega),List.getElem?_eq_getElem hk] at this;exact this
theorem short_bounds {r d x:Nat}(hr:r<d)(hd:d<4294967296)(hx:x<4294967296):(r*4294967296+x)/d<4294967296/\r*4294967296+x<18446744073709551616/\(r*4294967296+x)%d<d:=by
 refine⟨?_,by omega,Nat.mod_lt _ (by omega)⟩;rw[Nat.div_lt_iff_lt_mul (by omega)];have:(r+1)*4294967296<=d*4294967296:=Nat.mul_le_mul_right _ hr;rw[Nat.mul_comm 4294967296 d];omega
theorem short_step {l cur:List Nat}{d k r:Nat}(h:ShortAt l d cur (k+1) r)(hk:k<l.length)(hl:Ok l)(hd:d<4294967296):ShortAt l d (cur.set k ((r*4294967296+l[k])/d)) k ((r*4294967296+l[k])%d):=by
 obtain⟨h1,h2,h3,h4,h5⟩:=h;have hb:=short_bounds h3 hd (ok_get hl hk);refine⟨by simpa using h1,Ue h2 hb.1,hb.2.2,?_,?_⟩
 ·rw[List.take_set_of_le Lr]
  have:=congrArg (List.take k) h4;rwa[List.take_take,List.take_take,Nat.min_eq_left (by omega)] at this
 have hc:k<cur.length:=by omega
 rw[List.drop_eq_getElem_cons (by rw[List.length_set];exact hc),List.getElem_set_self,drop_set,val,List.drop_eq_getElem_cons hk,val,<-h5];have e:=Nat.div_add_mod (r*4294967296+l[k]) d;generalize(r*4294967296+l[k])/d=q at*;generalize(r*4294967296+l[k])%d=r' at*;generalize l[k]=x at*;generalize val (cur.drop (k+1))=V at*
 grind
theorem short_end {l cur:List Nat}{d r:Nat}(h:ShortAt l d cur 0 r):val cur=val l/d/\r=val l%d:=by
 obtain⟨h1,h2,h3,h4,h5⟩:=h;rw[List.drop_zero,List.drop_zero] at h5;rw[<-h5,Nat.mul_comm,Nat.mul_add_div (by omega),Nat.div_eq_of_lt h3,Nat.mul_add_mod,Nat.mod_eq_of_lt h3];exact⟨by omega,rfl⟩
end Nt
namespace Nt
def EucAt (M x y k:Nat):Prop:=(k=0/\x*y*2<=M)\/(y<x/\x*y*2^k<=M)
theorem Mfa {x y:Nat}(h:y<x)(hy:0<y):y*(x%y)*2<=x*y:=by
 have h1:x%y+y<=x:=by
  have e:=Nat.div_add_mod x y;have hq:1<=x/y:=by rw[Nat.le_div_iff_mul_le hy];omega
  have:y*1<=y*(x/y):=Nat.mul_le_mul_left _ hq;omega
 have h2:x%y<y:=Nat.mod_lt _ hy;have h3:x%y*2<=x:=by omega
 have h4:y*(x%y*2)<=y*x:=Nat.mul_le_mul_left _ h3;rw[Nat.mul_assoc,Nat.mul_comm x y];exact h4
theorem EucAt.step {M x y k:Nat}(h:EucAt M x y k)(hy:0<y):EucAt M y (x%y) (k+1):=by
 refine .inr ⟨Nat.mod_lt _ hy,?_⟩;rcases h with⟨rfl,h⟩ |⟨h1,h2⟩
 ·have h3:y*(x%y)<=y*x:=Nat.mul_le_mul_left _ (Nat.mod_le _ _)
  rw[Nat.mul_comm x y] at h;have h4:=Nat.mul_le_mul_right 2 h3;simp only[Nat.zero_add,Nat.pow_one];omega
 have h3:=Mfa h1 hy;have h4:y*(x%y)*2*2^k<=x*y*2^k:=Nat.mul_le_mul_right _ h3;rw[Nat.pow_succ,Nat.mul_comm (2^k) 2,<-Nat.mul_assoc];omega
theorem EucAt.done {x y k n:Nat}(h:EucAt (2^n) x y k)(hk:n<k):y=0:=by
 rcases h with⟨rfl,h⟩ |⟨h1,h2⟩
 ·omega
 rcases Nat.eq_zero_or_pos y with h0 |h0
 ·exact h0
 exfalso
 have h3:1<=x*y:=Nat.mul_pos (by omega) h0;have h4:1*2^k<=x*y*2^k:=Nat.mul_le_mul_right _ h3;have h5:2^k<=2^n:=by omega
 have h6:=(Nat.pow_le_pow_iff_right (a:=2) (by omega)).1 h5;omega
theorem L9 (n:Nat):4294967296^n=2^(32*n):=by rw[Nat.pow_mul,show 2^32=4294967296 from rfl]
theorem Ap {a:List Nat}(ha:Ok a){n:Nat}(la:a.length<=n):val a<=2^(32*n):=by
 have h1:=val_lt ha;have h2:=Nat.pow_le_pow_right (n:=4294967296) (by omega) la;rw[L9 n] at h2;exact Nat.le_of_lt (Nat.lt_of_lt_of_le h1 h2)
theorem euc_start {a b:List Nat}{n:Nat}(ha:Ok a)(hb:Ok b)(la:a.length<=n)(lb:b.length<=n):EucAt (2^(32*n+32*n+1)) (val a) (val b) 0:=by
 refine .inl ⟨rfl,?_⟩;have h3:=Nat.mul_le_mul_right 2 (Nat.mul_le_mul (Ap ha la) (Ap hb lb));rw[<-Nat.pow_add,<-Nat.pow_succ] at h3;exact h3
theorem gcd_step (x y:Nat):Nat.gcd y (x%y)=Nat.gcd x y:=by rw[Nat.gcd_comm x y,Nat.gcd_rec y x,Nat.gcd_comm]
theorem gcd_len {a b:List Nat}{n:Nat}(ha:Ok a)(hb:Ok b)(la:a.length<=n)(lb:b.length<=n):(digs (Nat.gcd (val a) (val b))).length<=n:=by
 rcases Nat.eq_zero_or_pos (val a) with h0 |h0
 ·rw[h0,Nat.gcd_zero_left]
  exact Nat.le_trans (digs_len_le hb) lb
 exact Nat.le_trans (len_le ha (Nat.gcd_le_left _ h0)) la
end Nt
namespace Rt
structure Nm where
 neg:Bool
 top:List Nat
 bot:List Nat
deriving DecidableEq
def none_:Nm:=⟨false,[],[]⟩
def nrm (n:Bool)(x:Nat):Bool:=n&& !(x==0)
def mk (n1 n2:Bool)(x y:Nat):Nm×Int:=
 if y=0 then(none_,3)
 else if 32<(Nt.digs (x/Nat.gcd x y)).length\/32<(Nt.digs (y/Nat.gcd x y)).length then(none_,7)
 else(⟨!(x==0)&&(n1 !=n2),Nt.digs (x/Nat.gcd x y),Nt.digs (y/Nat.gcd x y)⟩,0)
def right (a:Nm):Bool:=decide (a.top.length<=32)&&decide (a.bot.length<=32)&&((mk a.neg false (Nt.val a.top) (Nt.val a.bot)).2==0)&&decide ((mk a.neg false (Nt.val a.top) (Nt.val a.bot)).1=a)
theorem mk_nrm (n1 n2:Bool)(x y:Nat):mk (nrm n1 x) (nrm n2 y) x y=mk n1 n2 x y:=by
 unfold mk nrm;by_cases hy:y=0
 ·rw[if_pos hy,if_pos hy]
 rw[if_neg hy,if_neg hy];have e:(!(x==0)&&((n1&& !(x==0))!=(n2&& !(y==0))))=(!(x==0)&&(n1 !=n2)):=by
  have h2:(y==0)=false:=by simpa using hy
  rw[h2];cases (x==0)<;>simp
 rw[e]
theorem div_gcd_zero {x y:Nat}(hy:y≠0):x/Nat.gcd x y=0↔x=0:=by
 have hg:0<Nat.gcd x y:=Nat.gcd_pos_of_pos_right _ (by omega)
 constructor
 ·intro h
  rcases Nat.eq_zero_or_pos x with h0 |h0
  ·exact h0
  have h1:=Nat.le_of_dvd h0 (Nat.gcd_dvd_left x y);have h2:=Nat.div_pos h1 hg;omega
 rintro rfl;simp
theorem right_iff {a:Nm}(ho:Nt.Ok a.top)(ho':Nt.Ok a.bot):right a=true↔a.top.length<=32/\a.bot.length<=32/\Nt.Top a.top/\Nt.Top a.bot/\a.bot≠[]/\(a.top=[]->a.neg=false)/\Nat.gcd (Nt.val a.top) (Nt.val a.bot)=1:=by
 obtain⟨n,t,u⟩:=a;unfold right;simp only[Bool.and_eq_true,decide_eq_true_eq,beq_iff_eq];unfold mk;dsimp only at ho ho'⊢
 constructor
 ·rintro⟨⟨⟨h1,h2⟩,h3⟩,h4⟩
  by_cases hy:Nt.val u=0
  ·rw[if_pos hy] at h3;cases h3
  rw[if_neg hy] at h3 h4;by_cases hl:32<(Nt.digs (Nt.val t/Nat.gcd (Nt.val t) (Nt.val u))).length\/32<(Nt.digs (Nt.val u/Nat.gcd (Nt.val t) (Nt.val u))).length
  ·rw[if_pos hl] at h3;cases h3
  rw[if_neg hl] at h4;injection h4 with e1 e2 e3
  have hg:0<Nat.gcd (Nt.val t) (Nt.val u):=Nat.gcd_pos_of_pos_right _ (by omega);have hu:Nt.val u/Nat.gcd (Nt.val t) (Nt.val u)=Nt.val u:=by
   have:=congrArg Nt.val e3;rwa[Nt.val_digs] at this
  have hgcd:Nat.gcd (Nt.val t) (Nt.val u)=1:=by
   have h5:=Nat.mul_div_cancel' (Nat.gcd_dvd_right (Nt.val t) (Nt.val u));rw[hu] at h5;have h6:Nat.gcd (Nt.val t) (Nt.val u)*Nt.val u=1*Nt.val u:=by rw[h5,Nat.one_mul]
   exact Nat.eq_of_mul_eq_mul_right (by omega) h6
  refine⟨h1,h2,?_,?_,?_,?_,hgcd⟩
  ·rw[<-e2];exact Nt.top_digs _
  ·rw[<-e3];exact Nt.top_digs _
  ·rintro rfl;exact hy rfl
  rintro rfl;rw[<-e1];rfl
 rintro⟨h1,h2,h3,h4,h5,h6,h7⟩;have hy:Nt.val u≠0:=by
  intro h;have:=Nt.digs_val ho' h4;rw[h,Nt.digs_zero] at this;exact h5 this.symm
 rw[if_neg hy,h7,Nat.div_one,Nat.div_one,Nt.digs_val ho h3,Nt.digs_val ho' h4,if_neg (by omega)];refine⟨⟨⟨h1,h2⟩,rfl⟩,?_⟩
 congr 1
 cases hn:n
 ·simp
 by_cases ht:Nt.val t=0
 ·have:=Nt.digs_val ho h3
  rw[ht,Nt.digs_zero] at this;have:=h6 this.symm;rw[hn] at this;cases this
 have:(Nt.val t==0)=false:=by simpa using ht
 rw[this];rfl
end Rt
namespace Ar
def Ac (n:Int):List Int->Option Int
 | []=>some n
 |x::r=>if 2048<n*x then none else Ac (n*x) r
def cnt (sh:List Int):Int×Int:=
 if 6<sh.length then(0,7)
 else if sh.any (λx=>decide (x<0)) then(0,3)
 else if sh.any (λx=>decide (2048<x)) then(0,7)
 else if sh.any (λx=>x==0) then(0,0)
 else match Ac 1 sh with
  |some n=>(n,0)
  |none=>(0,7)
theorem He {p:Int->Bool}{l:List Int}{k:Nat}(h:k<l.length):(l.take (k+1)).any p=((l.take k).any p||p l[k]):=by
 rw[List.take_succ_eq_append_getElem h,List.any_append];simp
theorem Jr {p:Int->Bool}{l:List Int}{k:Nat}(h:k<l.length)(hp:p l[k]=true):l.any p=true:=List.any_eq_true.2 ⟨_,List.getElem_mem h,hp⟩
theorem Se {p:Int->Bool}{l:List Int}(h:l.any p=false){k:Nat}(hk:k<l.length):p l[k]=false:=by
 cases e:p l[k]
 ·rfl
 rw[Jr hk e] at h;cases h
theorem Kr {n:Int}{l:List Int}{k:Nat}(h:k<l.length):Ac n (l.drop k)=if 2048<n*l[k] then none else Ac (n*l[k]) (l.drop (k+1)):=by
 rw[List.drop_eq_getElem_cons h,Ac]
theorem Lv {n:Int}{l:List Int}{k:Nat}(h:l.length<=k):Ac n (l.drop k)=some n:=by
 rw[List.drop_eq_nil_of_le h,Ac]
theorem Jq:∀{l:List Int} {n m:Int},(∀x∈l,1<=x)->1<=n->n<=2048->Ac n l=some m->1<=m/\m<=2048
 | [],n,m,_,h1,h2,h=>by rw[Ac] at h;injection h with h;omega
 |x::r,n,m,hx,h1,h2,h=>by
  rw[Ac] at h;by_cases hb:2048<n*x
  ·rw[if_pos hb] at h;cases h
  rw[if_neg hb] at h;have hx1:=hx x List.mem_cons_self;have:1*1<=n*x:=Int.mul_le_mul h1 hx1 (by omega) (by omega);exact Jq (λy hy=>hx y (List.mem_cons_of_mem _ hy)) (by omega) (by omega) h
theorem Nka (sh:List Int):0<=(cnt sh).1/\(cnt sh).1<=2048/\((cnt sh).2=0\/(cnt sh).2=3\/(cnt sh).2=7):=by
 unfold cnt
 split
 ·simp
 split
 ·simp
 split
 ·simp
 split
 ·simp
 rename_i h1 h2 h3 h4;have hx:∀x∈sh,1<=x:=λx hx=>by
  have a2:decide (x<0)=false:=by
   cases e:decide (x<0)
   ·rfl
   exact absurd (List.any_eq_true.2 ⟨x,hx,e⟩) h2
  have a4:(x==0)=false:=by
   cases e:(x==0)
   ·rfl
   exact absurd (List.any_eq_true.2 ⟨x,hx,e⟩) h4
  simp at a2 a4;omega
 cases e:Ac 1 sh with
 |none=>simp
 |some n=>have:=Jq hx (by omega) (by omega) e;simp;omega
def Ae (c:Int):Bool:=decide (0<=c)&&decide (c<=1114111)&&(decide (c<55296)||decide (57343<c))
def Cc:Ba->Bool
 | .mk _ sh [.mk _ k _ _ _ _ _]=>sh.isEmpty&&(k !=2)
 |_=>false
def Be (n:Bool)(t b:List Nat):Bool:= !n&&t.isEmpty&&b.isEmpty
mutual
def Ka:Nat->Ba->Bool
 |d,.mk _ sh cells=>((cnt sh).2==0)&&((cnt sh).1==(cells.length:Int))&&Sa d cells
def Sa:Nat->List Ha->Bool
 |_,[]=>true
 |d,c::r=>Oa d c&&Sa d r
def Oa:Nat->Ha->Bool
 |d,.mk _ k n t b c ins=>if k=0 then(c==0)&&ins.isEmpty&&Rt.right ⟨n,t,b⟩ else if k=1 then Be n t b&&ins.isEmpty&&Ae c else(k==2)&&Be n t b&&(c==0)&&decide (0<d)&&Hb d ins
def Hb:Nat->List Ba->Bool
 |d,[a]=> !Cc a&&Ka (d-1) a
 |_,_=>false
end
theorem Ek {d:Nat}{cs:List Ha}{k:Nat}(h:k<cs.length):Sa d (cs.drop k)=(Oa d cs[k]&&Sa d (cs.drop (k+1))):=by
 rw[List.drop_eq_getElem_cons h,Sa]
theorem Sl {d:Nat}{cs:List Ha}{k:Nat}(h:cs.length<=k):Sa d (cs.drop k)=true:=by
 rw[List.drop_eq_nil_of_le h,Sa]
end Ar
namespace Ten
open Go Go.Lib
def dch (d:Nat):UInt8:=UInt8.ofNat (48+d)
theorem Fk {d:Nat}(h:d<10):(dch d).toNat=48+d:=by
 unfold dch;rw[UInt8.toNat_ofNat'];omega
theorem dec_small {n:Nat}(h:n<10):decDigits n=[dch n]:=decDigits_one h
theorem dec_big {n:Nat}(h:¬n<10):decDigits n=decDigits (n/10)++[dch (n%10)]:=by
 rw[decDigits,dif_neg h];rfl
theorem Uy {q d:Nat}(hq:0<q)(hd:d<10):decDigits (10*q+d)=decDigits q++[dch d]:=by
 rw[dec_big (by omega),show(10*q+d)/10=q by omega,show(10*q+d)%10=d by omega]
theorem dec_ne (n:Nat):decDigits n≠[]:=by
 by_cases h:n<10
 ·rw[dec_small h];simp
 rw[dec_big h];simp
def Ii:Nat->Nat->List UInt8
 | 0,_=>[]
 |k+1,r=>Ii k (r/10)++[dch (r%10)]
theorem V7 {q:Nat}(hq:0<q):∀(k r:Nat),r<10^k->decDigits (q*10^k+r)=decDigits q++Ii k r
 | 0,r,h=>by
  rw[show q*10^0+r=q by simp at h⊢;omega];simp[Ii]
 |k+1,r,h=>by
  have hr:r/10<10^k:=by rw[Nat.pow_succ] at h;omega
  have hp:0<10^k:=Nat.pow_pos (by omega);have e:q*10^(k+1)+r=10*(q*10^k+r/10)+r%10:=by
   rw[Nat.pow_succ,<-Nat.mul_assoc];omega
  rw[e,Uy (by have:=Nat.mul_pos hq hp;omega) (by omega),V7 hq k _ hr,Ii,List.append_assoc]
theorem Mv:∀k,Ii k 0=List.replicate k 48
 | 0=>rfl
 |k+1=>by
  rw[Ii,show 0/10=0 from rfl,Mv k,show[dch (0%10)]=List.replicate 1 48 from rfl,List.replicate_append_replicate]
theorem dec_len:∀{k r:Nat},r<10^(k+1)->1<=(decDigits r).length/\(decDigits r).length<=k+1
 | 0,r,h=>by rw[dec_small (by simpa using h)];simp
 |k+1,r,h=>by
  by_cases h10:r<10
  ·rw[dec_small h10];simp
  rw[dec_big h10];have:=dec_len (k:=k) (r:=r/10) (by rw[Nat.pow_succ] at h;omega);simp;omega
theorem Vy:∀{k r:Nat},r<10^(k+1)->Ii (k+1) r=List.replicate (k+1-(decDigits r).length) 48++decDigits r
 | 0,r,h=>by
  have h':r<10:=by simpa using h
  rw[dec_small h',Ii,Ii,Nat.mod_eq_of_lt h'];rfl
 |k+1,r,h=>by
  by_cases h10:r<10
  ·rw[dec_small h10,Ii,Nat.mod_eq_of_lt h10,show r/10=0 by omega,Mv];rfl
  have hr:r/10<10^(k+1):=by rw[Nat.pow_succ] at h;omega
  have hl:=dec_len hr;rw[Ii,Vy hr,dec_big h10,List.append_assoc,List.length_append];rw[show k+1+1-((decDigits (r/10)).length+[dch (r%10)].length)=k+1-(decDigits (r/10)).length by simp]
theorem Nfa {q r:Nat}(hq:0<q)(hr:r<1000000000):decDigits (q*1000000000+r)=decDigits q++(List.replicate (9-(decDigits r).length) 48++decDigits r):=by
 have:=V7 hq 9 r (by simpa using hr);rw[Vy (k:=8) (by simpa using hr)] at this;exact this
def numOf (s:List UInt8):Nat:=s.foldl (λn b=>10*n+(b.toNat-48)) 0
def isDig (b:UInt8):Prop:=48<=b.toNat/\b.toNat<=57
def Valid (s:List UInt8):Prop:=s≠[]/\(1<s.length->s.head?≠some 48)/\∀b∈s,isDig b
theorem numOf_snoc (s:List UInt8)(b:UInt8):numOf (s++[b])=10*numOf s+(b.toNat-48):=by
 unfold numOf;rw[List.foldl_append];rfl
theorem Nv {d:Nat}(h:d<10):isDig (dch d):=by unfold isDig;rw[Fk h];omega
theorem Bca {b:UInt8}(h:isDig b):dch (b.toNat-48)=b:=by
 obtain⟨h1,h2⟩:=h;apply UInt8.toNat_inj.1
 rw[Fk (by omega)];omega
theorem head_app {a:List UInt8}(b:List UInt8)(h:a≠[]):(a++b).head?=a.head?:=by
 cases a with
 |nil=>exact absurd rfl h
 |cons x r=>rfl
theorem Ofa:∀(n:Nat),0<n->(decDigits n).head?≠some 48:=by
 intro n
 induction n using Nat.strongRecOn with
 |ind n ih=>
  intro hn;by_cases h:n<10
  ·rw[dec_small h]
   intro e;injection e with e
   have:=congrArg UInt8.toNat e;rw[Fk h] at this;simp at this;omega
  rw[dec_big h,head_app _ (dec_ne _)];exact ih (n/10) (by omega) (by omega)
theorem dec_valid (n:Nat):Valid (decDigits n)/\numOf (decDigits n)=n:=by
 induction n using Nat.strongRecOn with
 |ind n ih=>
  by_cases h:n<10
  ·rw[dec_small h]
   refine⟨⟨by simp,by simp,λb hb=>?_⟩,?_⟩
   ·rw[List.mem_singleton] at hb;subst hb;exact Nv h
   unfold numOf;simp[Fk h]
  obtain⟨⟨_,_,hd⟩,hv⟩:=ih (n/10) (by omega);refine⟨⟨dec_ne _,λ_=>Ofa n (by omega),λb hb=>?_⟩,?_⟩
  ·rw[dec_big h] at hb
   rcases List.mem_append.1 hb with hb |hb
   ·exact hd b hb
   rw[List.mem_singleton] at hb;subst hb;exact Nv (by omega)
  rw[dec_big h,numOf_snoc,hv,Fk (by omega)];omega
theorem Ov:∀(n:Nat) (s:List UInt8),s.length=n->Valid s->decDigits (numOf s)=s
 | 0,s,hl,h=>absurd (List.eq_nil_of_length_eq_zero hl) h.1
 | 1,[b],_,h=>by
  have hb:=h.2.2 b List.mem_cons_self;have e:numOf [b]=b.toNat-48:=by unfold numOf;simp
  rw[e,dec_small (by have:=hb.2;omega),Bca hb]
 |n+2,s,hl,h=>by
  obtain⟨t,b,rfl⟩:∃t b,s=t++[b]:=⟨s.dropLast,s.getLast h.1,(List.dropLast_concat_getLast h.1).symm⟩;have htl:t.length=n+1:=by simpa using hl
  have htn:t≠[]:=by intro e;rw[e] at htl;simp at htl
  have hb:=h.2.2 b (by simp);have hh:t.head?≠some 48:=by
   have:=h.2.1 (by rw[hl];omega);rwa[head_app _ htn] at this
  have ht:Valid t:=⟨htn,λ_=>hh,λc hc=>h.2.2 c (List.mem_append_left _ hc)⟩;have ih:=Ov (n+1) t htl ht;have hpos:0<numOf t:=by
   rcases Nat.eq_zero_or_pos (numOf t) with e |e
   ·rw[e,dec_small (by omega)] at ih
    rw[<-ih] at hh;exact absurd rfl hh
   exact e
  rw[numOf_snoc,Uy hpos (by have:=hb.2;omega),ih,Bca hb]
theorem parse_text {s:List UInt8}(h:Valid s):decDigits (numOf s)=s:=Ov _ s rfl h
def OutAt (v y:Nat)(s:List UInt8):Prop:=(0<y->decDigits v=decDigits y++s)/\(y=0->decDigits v=s)
theorem OutAt.start {v:Nat}(h:0<v):OutAt v v []:=⟨λ_=>by simp,λe=>by omega⟩
theorem OutAt.step {v y:Nat}{s:List UInt8}(h:OutAt v y s)(hy:0<y):OutAt v (y/10) (dch (y%10)::s):=by
 have e:=h.1 hy;refine⟨λh1=>?_,λh0=>?_⟩
 ·rw[e,dec_big (n:=y) (by omega),List.append_assoc];rfl
 rw[e,dec_small (by omega),Nat.mod_eq_of_lt (by omega)];rfl
def grp (v i:Nat):Nat:=v/1000000000^i%1000000000
theorem grp_lt (v i:Nat):grp v i<1000000000:=Nat.mod_lt _ (by omega)
theorem Wy (v i:Nat):v/1000000000^(i+1)*1000000000+grp v i=v/1000000000^i:=by
 unfold grp;rw[Nat.pow_succ,<-Nat.div_div_eq_div_mul];omega
theorem div_next (v i:Nat):v/1000000000^i/1000000000=v/1000000000^(i+1):=by rw[Nat.pow_succ,Nat.div_div_eq_div_mul]
theorem grp_top {v i:Nat}(h:v/1000000000^(i+1)=0):decDigits (grp v i)=decDigits (v/1000000000^i):=by
 have:=Wy v i;rw[h] at this;rw[<-this];simp
theorem grp_low {v i:Nat}(h:0<v/1000000000^(i+1)):decDigits (v/1000000000^i)=decDigits (v/1000000000^(i+1))++(List.replicate (9-(decDigits (grp v i)).length) 48++decDigits (grp v i)):=by
 rw[<-Nfa h (grp_lt v i),Wy]
end Ten
namespace Dg
open Ten Go
def dB (b:UInt8):Bool:=decide (48<=b.toNat/\b.toNat<=57)
theorem Cca {b:UInt8}:dB b=true↔isDig b:=by simp[dB,isDig]
def lead (s:List UInt8):Nat:=(s.takeWhile dB).length
theorem lead_le (s:List UInt8):lead s<=s.length:=by
 unfold lead
 induction s with
 |nil=>simp
 |cons b r ih=>
  rw[List.takeWhile_cons];cases dB b
  ·simp
  simp at ih⊢;omega
theorem lead_at {s:List UInt8}{k:Nat}(hk:k<s.length)(h:∀i (hi:i<s.length),i<k->dB s[i]=true)(hn:dB s[k]=false):lead s=k:=by
 unfold lead
 induction s generalizing k with
 |nil=>simp at hk
 |cons b r ih=>
  rw[List.takeWhile_cons];cases k with
  |zero=>simp at hn;rw[hn];rfl
  |succ k=>
   have h0:=h 0 (by simp) (by omega);simp at h0;rw[h0];simp only[if_true,List.length_cons];rw[ih (by simpa using hk) (λi hi hik=>by have:=h (i+1) (by simpa using hi) (by omega);simpa using this) (by simpa using hn)]
theorem lead_all {s:List UInt8}(h:∀i (hi:i<s.length),dB s[i]=true):lead s=s.length:=by
 unfold lead
 induction s with
 |nil=>rfl
 |cons b r ih=>
  rw[List.takeWhile_cons];have h0:=h 0 (by simp);simp at h0;rw[h0];simp only[if_true,List.length_cons];rw[ih (λi hi=>by have:=h (i+1) (by simpa using hi);simpa using this)]
theorem lead_dig {s:List UInt8}{k:Nat}(hk:k<lead s):∃h:k<s.length,dB s[k]=true:=by
 have hl:=lead_le s;refine⟨by omega,?_⟩;unfold lead at hk
 induction s generalizing k with
 |nil=>simp at hk
 |cons b r ih=>
  rw[List.takeWhile_cons] at hk;cases hb:dB b
  ·rw[hb] at hk;simp at hk
  rw[hb] at hk;cases k with
  |zero=>simpa using hb
  |succ k=>simpa using ih (by simpa using hk) (lead_le r)
theorem lead_not {s:List UInt8}(h:lead s<s.length):dB s[lead s]=false:=by
 unfold lead at h⊢
 induction s with
 |nil=>simp at h
 |cons b r ih=>
  cases hb:dB b
  ·simp[hb]
  have h':(r.takeWhile dB).length<r.length:=by simpa [List.takeWhile_cons,hb] using h
  have:=ih h';simp only[List.takeWhile_cons,hb,if_true,List.length_cons,List.getElem_cons_succ];exact this
def body (neg:Bool)(t:List UInt8):Rt.Nm×Int:=
 if 400<t.length then(Rt.none_,7)
 else if lead t=0 then(Rt.none_,1)
 else if lead t=t.length then Rt.mk neg false (numOf t) 1
 else if t.length=lead t+1\/lead (t.drop (lead t+1))<t.length-(lead t+1) then(Rt.none_,1)
 else if t.getD (lead t) 0=114 then Rt.mk neg false (numOf (t.take (lead t))) (numOf (t.drop (lead t+1)))
 else if t.getD (lead t) 0=46 then Rt.mk neg false (numOf (t.take (lead t)++t.drop (lead t+1))) (10^(t.length-(lead t+1)))
 else(Rt.none_,1)
def parse:List UInt8->Rt.Nm×Int
 | 194::175::t=>body true t
 |t=>body false t
def print (n:Rt.Nm):List UInt8:=(if n.neg then[194,175] else[])++(Lib.decDigits (Nt.val n.top)++if n.bot=[1] then[] else 114::Lib.decDigits (Nt.val n.bot))
theorem dec_dB (n i:Nat)(hi:i<(Lib.decDigits n).length):dB (Lib.decDigits n)[i]=true:=Cca.2 ((dec_valid n).1.2.2 _ (List.getElem_mem hi))
theorem dec_pos (n:Nat):0<(Lib.decDigits n).length:=List.length_pos_iff.2 (dec_ne n)
theorem mk_right {n:Rt.Nm}(h:Rt.right n=true):Rt.mk n.neg false (Nt.val n.top) (Nt.val n.bot)=(n,0):=by
 unfold Rt.right at h;simp only[Bool.and_eq_true,decide_eq_true_eq,beq_iff_eq] at h;obtain⟨⟨_,h1⟩,h2⟩:=h;exact Prod.ext h2 h1
theorem body_print {n:Rt.Nm}(h:Rt.right n=true)(hl:(Lib.decDigits (Nt.val n.top)++if n.bot=[1] then[] else 114::Lib.decDigits (Nt.val n.bot)).length<=400):
 body n.neg (Lib.decDigits (Nt.val n.top)++if n.bot=[1] then[] else 114::Lib.decDigits (Nt.val n.bot))=(n,0):=by
 have hm:=mk_right h;have hp:=dec_pos (Nt.val n.top);by_cases hb:n.bot=[1]
 ·rw[if_pos hb] at hl⊢
  rw[List.append_nil] at hl⊢;unfold body;rw[if_neg (by omega),lead_all (dec_dB _),if_neg (by omega),if_pos rfl,(dec_valid _).2];rw[hb] at hm;exact hm
 rw[if_neg hb] at hl⊢;have hld:lead (Lib.decDigits (Nt.val n.top)++114::Lib.decDigits (Nt.val n.bot))=(Lib.decDigits (Nt.val n.top)).length:=by
  refine lead_at (by simp) (λi hi hik=>?_) ?_
  ·rw[List.getElem_append_left hik];exact dec_dB _ _ _
  rw[List.getElem_append_right Lr];simp;decide
 have hq:=dec_pos (Nt.val n.bot);unfold body;rw[hld];rw[if_neg (by omega),if_neg (by omega),if_neg (by simp)];have e1:(Lib.decDigits (Nt.val n.top)++114::Lib.decDigits (Nt.val n.bot)).drop ((Lib.decDigits (Nt.val n.top)).length+1)=Lib.decDigits (Nt.val n.bot):=by
  rw[List.drop_append];simp
 have e2:(Lib.decDigits (Nt.val n.top)++114::Lib.decDigits (Nt.val n.bot)).getD (Lib.decDigits (Nt.val n.top)).length 0=114:=by
  rw[List.getD_eq_getElem?_getD,List.getElem?_append_right Lr];simp
 have e3:(Lib.decDigits (Nt.val n.top)++114::Lib.decDigits (Nt.val n.bot)).take (Lib.decDigits (Nt.val n.top)).length=Lib.decDigits (Nt.val n.top):=by simp
 rw[e1,e2,e3,lead_all (dec_dB _),if_neg (by simp only[List.length_append,List.length_cons,not_or];omega),if_pos rfl,(dec_valid _).2,(dec_valid _).2];exact hm
theorem parse_body {t:List UInt8}(h:t.head?≠some 194):parse t=body false t:=by
 unfold parse
 split
 ·simp at h
 rfl
theorem parse_print {n:Rt.Nm}(h:Rt.right n=true)(hl:(print n).length<=400):parse (print n)=(n,0):=by
 unfold print at hl⊢;cases hn:n.neg
 ·rw[hn] at hl
  simp only[Bool.false_eq_true,if_false,List.nil_append] at hl⊢;rw[parse_body,<-hn]
  ·exact body_print h hl
  rw[head_app _ (dec_ne _)];intro e;have h1:=(dec_valid (Nt.val n.top)).1;obtain⟨b,r,hbr⟩:=List.exists_cons_of_ne_nil (dec_ne (Nt.val n.top));rw[hbr] at e h1;simp at e;have:=h1.2.2 b (by simp);rw[e] at this;simp[isDig] at this
 rw[hn] at hl;simp only[if_true] at hl⊢;have:=body_print h (by simp at hl⊢;omega);rw[hn] at this;exact this
theorem Mr (s:List UInt8):numOf (48::s)=numOf s:=by simp[numOf]
theorem numOf_zeros:∀k,numOf (49::List.replicate k 48)=10^k
 | 0=>rfl
 |k+1=>by
  rw[List.replicate_succ',<-List.cons_append,numOf_snoc,numOf_zeros k,Nat.pow_succ,Nat.mul_comm];rfl
theorem numOf_lt:∀(n:Nat) (t:List UInt8),t.length=n->(∀b∈t,isDig b)->numOf t<10^n
 | 0,t,h,_=>by rw[List.eq_nil_of_length_eq_zero h];decide
 |n+1,t,h,hd=>by
  have hne:t≠[]:=by rintro rfl;cases h
  obtain⟨r,b,rfl⟩:∃r b,t=r++[b]:=⟨t.dropLast,t.getLast hne,(List.dropLast_concat_getLast hne).symm⟩;have h1:=numOf_lt n r (by simpa using h) (λx hx=>hd x (by simp[hx]));have h2:isDig b:=hd b (by simp);rw[numOf_snoc,Nat.pow_succ];unfold isDig at h2;omega
theorem Pfa (m:Nat):10^(9*m)<=4294967296^m:=by rw[Nat.pow_mul];exact Nat.pow_le_pow_left (by decide) m
theorem limbs_le {t:List UInt8}(hd:∀b∈t,isDig b)(m:Nat)(h:t.length<=9*m):(Nt.digs (numOf t)).length<=m:=
 Nt.digs_len_lt (Nat.lt_of_lt_of_le (numOf_lt _ t rfl hd) (Nat.le_trans (Nat.pow_le_pow_right (by omega) h) (Pfa m)))
theorem limbs_ten {k:Nat}(m:Nat)(h:k+1<=9*m):(Nt.digs (10^k)).length<=m:=by
 rw[<-numOf_zeros];refine limbs_le (λb hb=>?_) m (by simpa using h);rcases List.mem_cons.1 hb with rfl |hb
 ·simp[isDig]
 rw[List.eq_of_mem_replicate hb];simp[isDig]
theorem numOf_drop:∀{k:Nat} {s:List UInt8},(∀i (hi:i<s.length),i<k->s[i]=48)->k<=s.length->numOf (s.drop k)=numOf s
 | 0,s,_,_=>by simp
 |k+1,[],_,h=>by simp at h
 |k+1,b::r,hz,h=>by
  have h0:=hz 0 (by simp) (by omega);simp at h0;subst h0;rw[List.drop_succ_cons,Mr];exact numOf_drop (λi hi hik=>by have:=hz (i+1) (by simpa using hi) (by omega);simpa using this) (by simpa using h)
theorem valid_drop {s:List UInt8}{k:Nat}(hd:∀b∈s,isDig b)(hk:k<s.length)(h:k+1<s.length->s[k]≠48):Valid (s.drop k):=by
 refine⟨by simp;omega,λhl=>?_,λb hb=>hd b (List.mem_of_mem_drop hb)⟩;have h1:=h (by simp at hl;omega);rw[List.drop_eq_getElem_cons hk];intro e;rw[List.head?_cons] at e;exact h1 (Option.some.inj e)
def strip (s:List UInt8):List UInt8:=s.dropWhile (· ==48)
theorem Wh (b:UInt8)(r:List UInt8):strip (b::r)=if b=48 then strip r else b::r:=by
 unfold strip;by_cases h:b=48
 ·subst h;simp
 rw[if_neg h,List.dropWhile_cons,if_neg (by simpa using h)]
theorem numOf_strip:∀s:List UInt8,numOf (strip s)=numOf s
 | []=>rfl
 |b::r=>by
  rw[Wh];by_cases h:b=48
  ·subst h;rw[if_pos rfl,numOf_strip r,Mr]
  rw[if_neg h]
theorem Pv:∀{s:List UInt8} {b:UInt8},b∈strip s->b∈s
 | [],_,h=>h
 |x::r,b,h=>by
  rw[Wh] at h;by_cases e:x=48
  ·rw[if_pos e] at h;exact List.mem_cons_of_mem _ (Pv h)
  rw[if_neg e] at h;exact h
theorem strip_len:∀s:List UInt8,(strip s).length<=s.length
 | []=>Lr
 |x::r=>by
  rw[Wh];by_cases e:x=48
  ·rw[if_pos e];have:=strip_len r;simp;omega
  rw[if_neg e];exact Lr
theorem Nr:∀s:List UInt8,(strip s).head?≠some 48
 | []=>by simp[strip]
 |x::r=>by
  rw[Wh];by_cases e:x=48
  ·rw[if_pos e];exact Nr r
  rw[if_neg e];simpa using e
theorem strip_valid {s:List UInt8}(hd:∀b∈s,isDig b)(h:strip s≠[]):Valid (strip s):=
 ⟨h,λ_=>Nr s,λb hb=>hd b (Pv hb)⟩
theorem strip_nil {s:List UInt8}(h:strip s=[]):numOf s=0:=by rw[<-numOf_strip,h];rfl
theorem lead_take {s:List UInt8}:∀b∈s.take (lead s),isDig b:=λb hb=>by
 obtain⟨i,hi,rfl⟩:=List.mem_iff_getElem.1 hb;rw[List.getElem_take];have hi':i<lead s:=by simp at hi;omega
 obtain⟨h1,h2⟩:=lead_dig hi';exact Cca.1 h2
theorem lead_full {s:List UInt8}(h:lead s=s.length):∀b∈s,isDig b:=λb hb=>by
 have:=lead_take (s:=s) b;rw[h,List.take_length] at this;exact this hb
end Dg
namespace Go.Proofs.YtmiccalfamepdaaGreatDoor
section
namespace Nw
open Ten Dg
def net (s:List UInt8):List UInt8:=Lib.decDigits s.length++(58::(s++[44]))
def after (s:List UInt8)(k n:Nat):Option (List UInt8×List UInt8):=
 if k=0 then none else if s.length<=k then none else if s.getD k 0≠58 then none else if s.length-(k+1)<=n then none else if s.getD (k+1+n) 0≠44 then none else
  some ((s.drop (k+1)).take n,s.drop (k+1+n+1))
def cut (s:List UInt8):Option (List UInt8×List UInt8):=if Lib.decDigits (numOf (s.take (lead s)))=s.take (lead s) then after s (lead s) (numOf (s.take (lead s))) else none
theorem after_T {s:List UInt8}{k n:Nat}(h0:k≠0)(hk:k<s.length)(h:s.getD k 0=58):after s k n=if(s.drop (k+1)).length<=n then none else if(s.drop (k+1)).getD n 0≠44 then none else some ((s.drop (k+1)).take n,(s.drop (k+1)).drop (n+1)):=by
 unfold after;rw[if_neg h0,if_neg (by omega),if_neg (λe=>e h),List.length_drop,List.drop_drop];have e:(s.drop (k+1)).getD n 0=s.getD (k+1+n) 0:=by rw[List.getD_eq_getElem?_getD,List.getElem?_drop,List.getD_eq_getElem?_getD]
 rw[e];rfl
theorem dig_take {s:List UInt8}{k:Nat}(h:k<=lead s):∀b∈s.take k,isDig b:=λb hb=>lead_take b (List.mem_of_mem_take (show b∈(s.take (lead s)).take k by rwa[List.take_take,Nat.min_eq_left h]))
theorem take_succ_num {s:List UInt8}{k:Nat}(hk:k<s.length):numOf (s.take (k+1))=10*numOf (s.take k)+(s[k].toNat-48):=by
 rw[List.take_succ_eq_append_getElem hk,numOf_snoc]
theorem Aj {s:List UInt8}:∀{j k:Nat},j<=k->numOf (s.take j)<=numOf (s.take k):=by
 intro j k h
 induction k with
 |zero=>
  have:j=0:=by omega
  rw[this];exact Lr
 |succ k ih=>
  by_cases e:j=k+1
  ·subst e;exact Lr
  have:=ih (by omega);by_cases hk:k<s.length
  ·rw[take_succ_num hk];omega
  rw[List.take_of_length_le (by omega:s.length<=k+1)];rwa[List.take_of_length_le (by omega:s.length<=k)] at this
theorem cut_big {s:List UInt8}{k:Nat}(hk:k<=lead s)(h:s.length<numOf (s.take k)):cut s=none:=by
 unfold cut
 split
 ·have:=Aj (s:=s) hk
  unfold after
  split<;>first|rfl |skip
  split<;>first|rfl |skip
  split<;>first|rfl |skip
  rw[if_pos (by omega)]
 rfl
theorem cut_zero {s:List UInt8}{k:Nat}(hk:k<=lead s)(h1:1<k)(h:numOf (s.take k)<10):cut s=none:=by
 unfold cut;rw[if_neg];intro e;have hl:=lead_le s;have hv:Valid (s.take (lead s)):=by rw[<-e];exact(dec_valid _).1
 have h48:=hv.2.1 (by rw[List.length_take];omega);obtain⟨b,r,hbr⟩:∃b r,s=b::r:=by
  cases s with
  |nil=>simp at hl;omega
  |cons b r=>exact⟨b,r,rfl⟩
 have hb:b≠48:=by
  intro e';apply h48
  rw[hbr,e',show lead (48::r)=(lead (48::r)-1)+1 by rw[<-e',<-hbr];omega];rfl
 have hd:=dig_take hk b (by rw[hbr,show k=(k-1)+1 by omega];exact List.mem_cons_self);have h2:numOf (s.take 2)<=numOf (s.take k):=Aj (by omega);have h3:numOf (s.take 1)=b.toNat-48:=by rw[hbr];simp[numOf]
 have h4:=take_succ_num (s:=s) (k:=1) (by omega);rw[h3] at h4;have hd1:=hd.1;have:b.toNat≠48:=λe'=>hb (UInt8.toNat_inj.1 e');have h5:numOf (s.take (1+1))=numOf (s.take 2):=rfl;omega
theorem cut_read {s:List UInt8}(hz:1<lead s->10<=numOf (s.take 2)):cut s=after s (lead s) (numOf (s.take (lead s))):=by
 by_cases h0:lead s=0
 ·unfold cut after
  rw[if_pos h0];split<;>rfl
 unfold cut;rw[if_pos];have hl:=lead_le s;refine parse_text ⟨?_,?_,lead_take⟩
 ·intro e;rw[List.take_eq_nil_iff] at e;rcases e with e |e
  ·exact h0 e
  subst e;simp at hl;exact h0 hl
 intro h1 h48;rw[List.length_take,Nat.min_eq_left hl] at h1;have h10:=hz h1;have h4:=take_succ_num (s:=s) (k:=1) (by omega);have h5:numOf (s.take (1+1))=numOf (s.take 2):=rfl;have hd:=dig_take (s:=s) (k:=2) (by omega) s[1] (by rw[List.mem_take_iff_getElem];exact⟨1,by omega,rfl⟩);have hd2:=hd.2;have h6:numOf (s.take 1)=0:=by
  cases hs:s with
  |nil=>simp[numOf]
  |cons b r=>
   rw[hs] at h48 h1;rw[show lead (b::r)=(lead (b::r)-1)+1 by omega] at h48;simp at h48;subst h48;simp[numOf]
 omega
theorem cut_net (s t:List UInt8):cut (net s++t)=some (s,t):=by
 obtain⟨D,hD⟩:∃D,D=Lib.decDigits s.length:=⟨_,rfl⟩;have hnum:numOf D=s.length:=by rw[hD];exact(dec_valid _).2
 have hdig:∀i (hi:i<D.length),dB D[i]=true:=by subst hD;exact λi hi=>dec_dB _ i hi
 have hpos:0<D.length:=by rw[hD];exact dec_pos _
 have he:net s++t=D++58::(s++44::t):=by unfold net;rw[<-hD];simp
 have hlead:lead (net s++t)=D.length:=by
  rw[he];refine lead_at (by simp) (λi hi hk=>?_) ?_
  ·rw[List.getElem_append_left hk];exact hdig i hk
  rw[List.getElem_append_right Lr];simp;decide
 have htake:(net s++t).take D.length=D:=by rw[he,List.take_append_of_le_length Lr,List.take_length]
 unfold cut;rw[hlead,htake,hnum,if_pos hD.symm];unfold after;have hlen:(net s++t).length=D.length+(1+(s.length+(1+t.length))):=by rw[he];simp;omega
 have hg1:(net s++t).getD D.length 0=58:=by rw[he,List.getD_eq_getElem?_getD,List.getElem?_append_right Lr];simp
 have hdrop:(net s++t).drop (D.length+1)=s++44::t:=by
  rw[he,List.drop_append,List.drop_eq_nil_of_le (by omega),List.nil_append,Nat.add_sub_cancel_left];rfl
 have hg2:(net s++t).getD (D.length+1+s.length) 0=44:=by
  have:((net s++t).drop (D.length+1))[s.length]? =some 44:=by rw[hdrop,List.getElem?_append_right Lr];simp
  rw[List.getElem?_drop] at this;rw[List.getD_eq_getElem?_getD,this];rfl
 rw[if_neg (by omega),if_neg (by omega),if_neg (by rw[hg1];decide),if_neg (by omega),if_neg (by rw[hg2];decide)];have hd2:(net s++t).drop (D.length+1+s.length+1)=t:=by
  rw[Nat.add_assoc (D.length+1),<-List.drop_drop,hdrop,List.drop_append,List.drop_eq_nil_of_le (by omega),List.nil_append,Nat.add_sub_cancel_left];rfl
 rw[hd2,hdrop,List.take_append_of_le_length Lr,List.take_length]
theorem Dca {s:List UInt8}(h:s.length<1000000)(hl:7<lead s):cut s=none:=by
 by_cases h10:numOf (s.take 2)<10
 ·exact cut_zero (k:=2) (by omega) (by omega) h10
 have hll:=lead_le s;have hs:∀k,k+2<=s.length->10^(k+1)<=numOf (s.take (k+2)):=by
  intro k
  induction k with
  |zero=>intro _;simpa using Nat.not_lt.1 h10
  |succ k ih=>
   intro hk;have h1:=ih (by omega);have h2:=take_succ_num (s:=s) (k:=k+2) (by omega);rw[show k+1+2=k+2+1 by omega,h2,Nat.pow_succ];omega
 have h7:10^(5+1)<=numOf (s.take 7):=hs 5 (by omega);have h8:(10:Nat)^(5+1)=1000000:=by decide
 rw[h8] at h7;exact cut_big (k:=7) (by omega) (by omega)
end Nw
end
end Go.Proofs.YtmiccalfamepdaaGreatDoor
namespace Lab
def sumBits (p:Nat->Bool):Nat->Nat
 | 0=>0
 |n+1=>sumBits p n+if p n then 2^n else 0
theorem sumBits_lt (p:Nat->Bool):∀n,sumBits p n<2^n
 | 0=>by simp[sumBits]
 |n+1=>by
  have:=sumBits_lt p n;rw[sumBits,Nat.pow_succ]
  split<;>omega
theorem Bj (p:Nat->Bool):∀n i,(sumBits p n).testBit i=(decide (i<n)&&p i)
 | 0,i=>by simp[sumBits]
 |n+1,i=>by
  have hlt:=sumBits_lt p n;have ih:=Bj p n;have e:sumBits p (n+1)=2^n*(if p n then 1 else 0)+sumBits p n:=by
   rw[sumBits];split<;>simp[Nat.add_comm]
  rw[e,Nat.testBit_two_pow_mul_add _ hlt];by_cases h:i<n
  ·simp[h,ih,Nat.lt_succ_of_lt h]
  rw[if_neg h];by_cases h2:i=n
  ·subst h2;cases hp:p i<;>simp
  have h3:¬i<n+1:=by omega
  have h4:i-n≠0:=by omega
  cases p n
  ·simp[h3]
  simp only[if_true,h3,decide_false,Bool.false_and];exact Nat.testBit_lt_two_pow (Nat.lt_of_lt_of_le (by decide) (Nat.pow_le_pow_right (n:=2) (i:=1) (by decide) (by omega)))
theorem M9 {p:Nat->Bool}{n x:Nat}(hx:x<2^n)(h:∀i,i<n->p i=x.testBit i):sumBits p n=x:=by
 apply Nat.eq_of_testBit_eq
 intro i;rw[Bj];by_cases hi:i<n
 ·simp[hi,h i hi]
 simp[hi];exact Nat.testBit_lt_two_pow (Nat.lt_of_lt_of_le hx (Nat.pow_le_pow_right (by decide) (Nat.le_of_not_lt hi)))
def bit (t:Nat):Nat:=2^t
def join (a b:Nat):Nat:=a|||b
theorem join_lt {a b:Nat}(ha:a<18446744073709551616)(hb:b<18446744073709551616):join a b<18446744073709551616:=Nat.or_lt_two_pow (n:=64) ha hb
theorem Tf {x i:Nat}(hx:x<18446744073709551616)(hi:64<=i):x.testBit i=false:=
 Nat.testBit_lt_two_pow (Nat.lt_of_lt_of_le (show x<2^64 from hx) (Nat.pow_le_pow_right (by decide) hi))
theorem sum_join {a b:Nat}(ha:a<18446744073709551616)(hb:b<18446744073709551616):sumBits (λt=>a.testBit t||b.testBit t) 64=join a b:=
 M9 (join_lt ha hb) λi _=>by simp[join]
theorem bit_lt {t:Nat}(h:t<64):(2:Nat)^t<18446744073709551616:=Nat.lt_of_le_of_lt (Nat.pow_le_pow_right (by decide) (show t<=63 by omega)) (by decide)
def tags (l:Nat):List Nat:=(List.range 64).filter λt=>l.testBit t
theorem Xy {p:Nat->Bool}{k:Nat}(hlt:∀i,i<k->p i=false)(hk:p k=true)(n:Nat):
 (List.range n).filter p=(if k<n then[k] else[])++(List.range n).filter λi=>p i&&(i !=k):=by
 have none_:∀(q:Nat->Bool) (m:Nat),(∀i,i<m->q i=false)->(List.range m).filter q=[]:=λq m h=>by
  rw[List.filter_eq_nil_iff];intro a ha;simp[h a (List.mem_range.1 ha)]
 induction n with
 |zero=>simp
 |succ n ih=>
  rw[List.range_succ,List.filter_append,List.filter_append];rcases Nat.lt_trichotomy n k with h |h |h
  ·rw[ih,if_neg (by omega),if_neg (by omega)]
   simp[hlt n h]
  ·subst h
   rw[none_ p n hlt,none_ _ n (λi hi=>by simp[hlt i hi]),if_pos (by omega)];simp[hk]
  rw[ih,if_pos h,if_pos (by omega),List.append_assoc]
  congr 2
  simp[List.filter_cons,show n≠k by omega]
theorem Ji (k m i:Nat):(2^k*(2*m+1)).testBit i=if i<k+1 then decide (k=i) else m.testBit (i-(k+1)):=by
 have e:2^k*(2*m+1)=2^(k+1)*m+2^k:=by rw[Nat.pow_succ,Nat.mul_add,Nat.mul_one,Nat.mul_assoc]
 rw[e,Nat.testBit_two_pow_mul_add _ (by rw[Nat.pow_succ];have:=Nat.two_pow_pos k;omega),Nat.testBit_two_pow]
theorem Yy (k m i:Nat):(2^k*(2*m+1)-1).testBit i=if i<k+1 then decide (i<k) else m.testBit (i-(k+1)):=by
 have hp:=Nat.two_pow_pos k;have e:2^k*(2*m+1)-1=2^(k+1)*m+(2^k-1):=by
  have:2^k*(2*m+1)=2^(k+1)*m+2^k:=by rw[Nat.pow_succ,Nat.mul_add,Nat.mul_one,Nat.mul_assoc]
  omega
 rw[e,Nat.testBit_two_pow_mul_add _ (by rw[Nat.pow_succ];omega),Nat.testBit_two_pow_sub_one]
theorem tags_step {l k m:Nat}(hl:l=2^k*(2*m+1))(hk:k<64):tags l=k::tags (l&&&(l-1)):=by
 have h:=Xy (p:=λt=>l.testBit t) (k:=k) (λi hi=>by
  show l.testBit i=false;rw[hl,Ji,if_pos (by omega)];simp;omega) (by
  show l.testBit k=true;rw[hl,Ji,if_pos (by omega)];simp) 64
 unfold tags;rw[h,if_pos hk];show k::_=_
 congr 1
 apply List.filter_congr
 intro i _;rw[Nat.testBit_and];subst hl;rw[Ji,Yy]
 split
 ·by_cases e:k=i
  ·subst e;simp
  simp[e]
 have:(i !=k)=true:=by simp;omega
 simp[this]
theorem tags_zero:tags 0=[]:=by simp[tags]
theorem tags_len (l:Nat):(tags l).length<=64:=by
 have:=List.length_filter_le (λt=>l.testBit t) (List.range 64)
 simpa [tags] using this
theorem and_pred_lt {l:Nat}(h:l≠0):l&&&(l-1)<l:=Nat.lt_of_le_of_lt Nat.and_le_right (by omega)
end Lab
namespace Lab
open Go
def Ve (l:Nat):Nat->Nat->Nat
 | 0,t=>t
 |f+1,t=>if l.testBit (t+1) then Ve l f (t+1) else t
def last (l t:Nat):Nat:=Ve l 64 t
theorem Eca (l f:Nat):∀t,t<=Ve l f t:=by
 induction f with
 |zero=>intro t;exact Lr
 |succ f ih=>
  intro t;unfold Ve
  split
  ·have:=ih (t+1);omega
  exact Lr
theorem Q5 (l f:Nat):∀t,l.testBit t=true->∀i,t<=i->i<=Ve l f t->l.testBit i=true:=by
 induction f with
 |zero=>intro t ht i h1 h2;rw[show i=t from by unfold Ve at h2;omega];exact ht
 |succ f ih=>
  intro t ht i h1 h2;unfold Ve at h2
  split at h2
  ·rename_i hb
   by_cases e:i=t
   ·rw[e];exact ht
   exact ih (t+1) hb i (by omega) h2
  rw[show i=t from by omega];exact ht
theorem S5 {l:Nat}(hl:l<18446744073709551616)(f:Nat):∀t,64<=t+1+f->l.testBit (Ve l f t+1)=false:=by
 induction f with
 |zero=>intro t h;unfold Ve;exact Tf hl (by omega)
 |succ f ih=>
  intro t h;unfold Ve
  split
  ·exact ih (t+1) (by omega)
  rename_i hb;simpa using hb
theorem last_ge (l t:Nat):t<=last l t:=Eca l 64 t
theorem last_bits {l t:Nat}(ht:l.testBit t=true):∀i,t<=i->i<=last l t->l.testBit i=true:=Q5 l 64 t ht
theorem last_stop {l t:Nat}(hl:l<18446744073709551616):l.testBit (last l t+1)=false:=S5 hl 64 t (by omega)
theorem Mu {l t:Nat}(hl:l<18446744073709551616)(ht:l.testBit t=true):t<64:=by
 rcases Nat.lt_or_ge t 64 with h |h
 ·exact h
 rw[Tf hl h] at ht;cases ht
theorem last_lt {l t:Nat}(hl:l<18446744073709551616)(ht:l.testBit t=true):last l t<64:=Mu hl (last_bits ht _ (last_ge l t) Lr)
def runs (l p:Nat):List (Nat×Nat):=
 if _:p<64 then if l.testBit p then(p,last l p)::runs l (last l p+1) else runs l (p+1) else[]
termination_by 64-p
decreasing_by
 ·have:=last_ge l p;omega
 omega
def tagsFrom (l p:Nat):List Nat:=(List.range' p (64-p)).filter λt=>l.testBit t
theorem tags_from (l:Nat):tags l=tagsFrom l 0:=by unfold tags tagsFrom;rw[List.range_eq_range']
theorem Zy {l p:Nat}(h:64<=p):tagsFrom l p=[]:=by
 unfold tagsFrom;rw[show 64-p=0 from by omega];rfl
theorem Tl {l p:Nat}(h:p<64):tagsFrom l p=(if l.testBit p then[p] else[])++tagsFrom l (p+1):=by
 unfold tagsFrom;rw[show 64-p=(64-(p+1))+1 from by omega,List.range'_succ,List.filter_cons]
 split<;>simp
theorem Ff {l p:Nat}(h:p<64)(hb:l.testBit p=true):tagsFrom l p=p::tagsFrom l (p+1):=by rw[Tl h,if_pos hb];rfl
theorem Ul {l p:Nat}(h:p<64)(hb:l.testBit p=false):tagsFrom l p=tagsFrom l (p+1):=by rw[Tl h,hb];rfl
theorem U5 {l p:Nat}:∀t∈tagsFrom l p,p<=t/\t<64/\l.testBit t=true:=by
 intro t ht;simp only[tagsFrom,List.mem_filter,List.mem_range'_1] at ht;exact⟨ht.1.1,by omega,ht.2⟩
theorem Qfa {l:Nat}:∀(n p:Nat),64-p=n->tagsFrom l p=[]->runs l p=[]:=by
 intro n
 induction n with
 |zero=>intro p hp _;rw[runs,dif_neg (by omega)]
 |succ n ih=>
  intro p hp h;have hlt:p<64:=by omega
  cases hb:l.testBit p
  ·rw[runs,dif_pos hlt,if_neg (by simp[hb])]
   exact ih (p+1) (by omega) (by rw[<-Ul hlt hb];exact h)
  rw[Ff hlt hb] at h;cases h
theorem Qv {l:Nat}{t:Nat}{r:List Nat}:∀(n p:Nat),64-p=n->tagsFrom l p=t::r->t<64/\l.testBit t=true/\tagsFrom l t=t::r/\runs l p=(t,last l t)::runs l (last l t+1):=by
 intro n
 induction n with
 |zero=>intro p hp h;rw[Zy (by omega)] at h;cases h
 |succ n ih=>
  intro p hp h;have hlt:p<64:=by omega
  cases hb:l.testBit p
  ·have:=ih (p+1) (by omega) (by rw[<-Ul hlt hb];exact h)
   rw[runs,dif_pos hlt,if_neg (by simp[hb])];exact this
  have h2:=h;rw[Ff hlt hb] at h2;injection h2 with e1 e2
  subst e1;exact⟨hlt,hb,h,by rw[runs,dif_pos hlt,if_pos hb]⟩
def piece (r:Nat×Nat):List (List UInt8):=
 if r.2=r.1 then[Lib.decDigits r.1] else if r.2=r.1+1 then[Lib.decDigits r.1,Lib.decDigits r.2] else[Lib.decDigits r.1++45::Lib.decDigits r.2]
def pieces (l p:Nat):List (List UInt8):=(runs l p).flatMap piece
def text (l:Nat):List UInt8:=123::(Lib.join (pieces l 0) [44]++[125])
theorem dec_len {n:Nat}(h:n<64):1<=(Lib.decDigits n).length/\(Lib.decDigits n).length<=2:=by
 by_cases h10:n<10
 ·rw[Lib.decDigits_one h10];simp
 rw[Lib.decDigits_two h10 (by omega)];simp
theorem Fca {r:Nat×Nat}(h1:r.1<64)(h2:r.2<64):∀x∈piece r,1<=x.length/\x.length<=5:=by
 intro x hx;have a:=dec_len h1;have b:=dec_len h2;unfold piece at hx
 split at hx
 ·simp at hx;subst hx;omega
 split at hx
 ·simp at hx;rcases hx with rfl |rfl<;>omega
 simp at hx;subst hx;simp;omega
theorem Rk {l:Nat}(hl:l<18446744073709551616):∀(n p:Nat),64-p<=n->∀r∈runs l p,p<=r.1/\r.1<=r.2/\r.2<64:=by
 intro n
 induction n with
 |zero=>intro p hp r hr;rw[runs,dif_neg (by omega)] at hr;cases hr
 |succ n ih=>
  intro p hp r hr;by_cases hlt:p<64
  ·have hge:=last_ge l p
   rw[runs,dif_pos hlt] at hr
   split at hr
   ·rename_i hb
    rcases List.mem_cons.1 hr with rfl |hr
    ·exact⟨Lr,hge,last_lt hl hb⟩
    have:=ih _ (by omega) r hr;exact⟨by omega,this.2⟩
   have:=ih _ (by omega) r hr;exact⟨by omega,this.2⟩
  rw[runs,dif_neg hlt] at hr;cases hr
theorem pieces_len {l:Nat}(hl:l<18446744073709551616)(p:Nat):∀x∈pieces l p,1<=x.length/\x.length<=5:=by
 intro x hx;obtain⟨r,hr,hx⟩:=List.mem_flatMap.1 hx;have:=Rk hl 64 p (by omega) r hr;exact Fca (by omega) (by omega) x hx
theorem join_snoc (ps:List (List UInt8))(x sep:List UInt8):Lib.join (ps++[x]) sep=if ps=[] then x else Lib.join ps sep++(sep++x):=by
 cases ps with
 |nil=>simp[Lib.join_one]
 |cons y r=>
  rw[if_neg (by simp),List.cons_append,Lib.join_cons,Lib.join_cons];simp[Lib.joinTail]
theorem join_len_le (ps:List (List UInt8))(h:∀x∈ps,x.length<=5):(Lib.join ps [44]).length<=6*ps.length:=by
 have key:∀ps:List (List UInt8),(∀x∈ps,x.length<=5)->(Lib.joinTail [44] ps).length<=6*ps.length:=by
  intro ps
  induction ps with
  |nil=>intro _;simp[Lib.joinTail]
  |cons y r ih=>
   intro h;have h1:=ih (λx hx=>h x (List.mem_cons_of_mem _ hx));have h2:=h y List.mem_cons_self;simp only[Lib.joinTail,List.map_cons,List.flatten_cons,List.length_append,List.length_cons,List.length_nil] at h1⊢;omega
 cases ps with
 |nil=>simp[Lib.join_nil]
 |cons y r=>
  have h1:=key r (λx hx=>h x (List.mem_cons_of_mem _ hx));have h2:=h y List.mem_cons_self;rw[Lib.join_cons,List.length_append,List.length_cons];omega
theorem join_eq_nil {ps:List (List UInt8)}(h:∀x∈ps,1<=x.length):Lib.join ps [44]=[]↔ps=[]:=by
 cases ps with
 |nil=>simp[Lib.join_nil]
 |cons y r=>
  have:=h y List.mem_cons_self;rw[Lib.join_cons]
  constructor
  ·intro e
   have:=congrArg List.length e;rw[List.length_append,List.length_nil] at this;omega
  intro e;cases e
theorem Oh {α:Type}{xs:List α}{i:Nat}{x:α}{r:List α}(h:xs.drop i=x::r):xs[i]? =some x/\xs.drop (i+1)=r/\i<xs.length:=by
 have h0:(xs.drop i)[0]? =some x:=by rw[h];rfl
 have hlt:i<xs.length:=by
  rcases Nat.lt_or_ge i xs.length with h1 |h1
  ·exact h1
  rw[List.drop_eq_nil_of_le h1] at h;cases h
 refine⟨by simpa using h0,?_,hlt⟩;rw[show i+1=i+1 from rfl,<-List.drop_drop,h];rfl
theorem run_at {l i t:Nat}(hl:l<18446744073709551616)(ht:l.testBit t=true)(h:(tags l).drop i=tagsFrom l t):
 ∀d,t+d<=last l t->(tags l).drop (i+d)=tagsFrom l (t+d)/\(tags l)[i+d]? =some (t+d)/\(tags l).drop (i+d+1)=tagsFrom l (t+d+1)/\i+d<(tags l).length:=by
 intro d
 induction d with
 |zero=>
  intro _;have h2:=h;rw[Ff (Mu hl ht) ht] at h2;obtain⟨a,b,c⟩:=Oh h2;exact⟨h,a,b,c⟩
 |succ d ih=>
  intro hd;obtain⟨_,_,h3,_⟩:=ih (by omega);have hb:=last_bits ht (t+d+1) (by omega) (by omega);have h4:=h3;rw[Ff (Mu hl hb) hb] at h4;obtain⟨a,b,c⟩:=Oh h4;exact⟨h3,a,b,c⟩
theorem run_stop {l i t d:Nat}(hl:l<18446744073709551616)(ht:l.testBit t=true)(h:(tags l).drop i=tagsFrom l t)(hd:t+d=last l t):
 (tags l).length<=i+d+1\/∃x,(tags l)[i+d+1]? =some x/\x≠t+d+1/\i+d+1<(tags l).length/\x<64:=by
 obtain⟨_,_,h3,_⟩:=run_at hl ht h d (by omega);cases e:tagsFrom l (t+d+1) with
 |nil=>
  left
  rw[e] at h3;exact List.drop_eq_nil_iff.1 h3
 |cons x r=>
  right
  rw[e] at h3;obtain⟨a,_,c⟩:=Oh h3;have hx:=U5 (l:=l) (p:=t+d+1) x (by rw[e];exact List.mem_cons_self);refine⟨x,a,?_,c,hx.2.1⟩;rintro rfl;have:=last_stop (t:=t) hl;rw[<-hd] at this;rw[this] at hx;exact absurd hx.2.2 (by simp)
theorem pieces_cons {l p t:Nat}{r:List Nat}(h:tagsFrom l p=t::r):pieces l p=piece (t,last l t)++pieces l (last l t+1):=by
 obtain⟨_,_,_,h4⟩:=Qv (64-p) p rfl h;unfold pieces;rw[h4,List.flatMap_cons]
theorem pieces_nil {l p:Nat}(h:tagsFrom l p=[]):pieces l p=[]:=by
 unfold pieces;rw[Qfa (64-p) p rfl h];rfl
theorem tagsFrom_head {l p t:Nat}{r:List Nat}(h:tagsFrom l p=t::r):t<64/\l.testBit t=true/\tagsFrom l t=t::r:=by
 obtain⟨a,b,c,_⟩:=Qv (64-p) p rfl h;exact⟨a,b,c⟩
end Lab
namespace Lab
open Go
def cutAt (c:UInt8):List UInt8->List UInt8×List UInt8×Bool
 | []=>([],[],false)
 |b::l=>if b=c then([],l,true) else(b::(cutAt c l).1,(cutAt c l).2.1,(cutAt c l).2.2)
theorem cutAt_none {c:UInt8}:∀{p:List UInt8},c∉p->cutAt c p=(p,[],false)
 | [],_=>rfl
 |b::l,h=>by
  have h1:b≠c:=λe=>h (by rw[e];exact List.mem_cons_self);rw[cutAt,if_neg h1,cutAt_none (λhm=>h (List.mem_cons_of_mem _ hm))]
theorem cutAt_some {c:UInt8}:∀{p r:List UInt8},c∉p->cutAt c (p++c::r)=(p,r,true)
 | [],r,_=>by rw[List.nil_append,cutAt,if_pos rfl]
 |b::l,r,h=>by
  have h1:b≠c:=λe=>h (by rw[e];exact List.mem_cons_self);rw[List.cons_append,cutAt,if_neg h1,cutAt_some (λhm=>h (List.mem_cons_of_mem _ hm))]
theorem cutAt_len (c:UInt8):∀s:List UInt8,(cutAt c s).1.length<=s.length/\(cutAt c s).2.1.length<=s.length/\(s≠[]->(cutAt c s).2.1.length<s.length)
 | []=>by simp[cutAt]
 |b::l=>by
  have ih:=cutAt_len c l;unfold cutAt
  split
  ·simp
  refine⟨by simp;exact ih.1,by simp;omega,λ_=>?_⟩;simp;omega
theorem index_cut (c:UInt8):∀s:List UInt8,(Lib.indexByte s c= -1/\cutAt c s=(s,[],false))\/(∃n:Nat,Lib.indexByte s c=(n:Int)/\n<s.length/\cutAt c s=(s.take n,s.drop (n+1),true))
 | []=> .inl ⟨rfl,rfl⟩
 |b::l=>by
  by_cases e:b=c
  ·refine .inr ⟨0,?_,by simp,?_⟩
   ·simp[Lib.indexByte,e]
   simp[cutAt,e]
  have hb:(b==c)=false:=by simpa using e
  rcases index_cut c l with⟨h1,h2⟩ |⟨n,h1,h2,h3⟩
  ·refine .inl ⟨by simp[Lib.indexByte,hb,h1],by rw[cutAt,if_neg e,h2]⟩
  refine .inr ⟨n+1,?_,by simp;omega,by rw[cutAt,if_neg e,h3];simp⟩;have:((n:Int)== -1)=false:=by rw[beq_eq_false_iff_ne];omega
  simp[Lib.indexByte,hb,h1,this]
def digit (b:UInt8):Bool:=decide (48<=b.toNat)&&decide (b.toNat<=57)
def numOf (s:List UInt8):Nat:=s.foldl (λn b=>10*n+(b.toNat-48)) 0
def tagP (s:List UInt8):Option Nat:=if s=[]\/2<s.length\/s.all digit=false then none else if numOf s<64 then some (numOf s) else none
def bitsTo (a:Nat):Nat->Nat
 | 0=>0
 |n+1=>bitsTo a n||| 2^(a+n)
def bitsFrom (a b:Nat):Nat:=bitsTo a (b+1-a)
theorem Qr (a n i:Nat):(bitsTo a n).testBit i=(decide (a<=i)&&decide (i<a+n)):=by
 induction n with
 |zero=>
  rw[bitsTo,Nat.zero_testBit];by_cases h:a<=i<;>simp[h]
 |succ n ih=>
  rw[bitsTo,Nat.testBit_or,ih,Nat.testBit_two_pow];by_cases h1:a<=i<;>by_cases h2:i<a+n<;>by_cases h3:a+n=i<;>simp[h1,h2,h3]<;>omega
theorem Km (a b i:Nat):(bitsFrom a b).testBit i=(decide (a<=i)&&decide (i<=b)):=by
 rw[bitsFrom,Qr];by_cases h1:a<=i<;>by_cases h2:i<=b<;>simp[h1,h2]<;>omega
theorem Gca {a n:Nat}(h:a+n<=64):bitsTo a n<18446744073709551616:=by
 refine Nat.lt_pow_two_of_testBit (n:=64) _ λi hi=>?_;rw[Qr];simp;omega
theorem Bp {a b:Nat}(h:b<64)(ha:a<64):bitsFrom a b<18446744073709551616:=Gca (by omega)
def runP (s:List UInt8):Option Nat:=
 match tagP (cutAt 45 s).1 with
 |none=>none
 |some a=>if(cutAt 45 s).2.2 then(match tagP (cutAt 45 s).2.1 with |none=>none |some b=>some (bitsFrom a b)) else some (bitsFrom a a)
theorem tagP_lt {s:List UInt8}{n:Nat}(h:tagP s=some n):n<64:=by
 unfold tagP at h
 split at h
 ·cases h
 split at h
 ·injection h with h;omega
 cases h
theorem runP_lt {s:List UInt8}{n:Nat}(h:runP s=some n):n<18446744073709551616:=by
 unfold runP at h
 split at h
 ·cases h
 rename_i a ha;have:=tagP_lt ha
 split at h
 ·split at h
  ·cases h
  rename_i b hb;have:=tagP_lt hb;injection h with h
  rw[<-h];exact Bp (by omega) (by omega)
 injection h with h
 rw[<-h];exact Bp (by omega) (by omega)
def innerP:Nat->List UInt8->Nat->Option Nat
 | 0,s,acc=>if s=[] then some acc else none
 |f+1,s,acc=>if s=[] then some acc else match runP (cutAt 44 s).1 with |none=>none |some l=>innerP f (cutAt 44 s).2.1 (join acc l)
theorem Kq {d:Nat}(h:d<10):(UInt8.ofNat (48+d)).toNat=48+d:=by
 rw[UInt8.toNat_ofNat'];exact Nat.mod_eq_of_lt (by omega)
theorem Sk {n:Nat}(h:n<64):(Lib.decDigits n).all digit=true/\numOf (Lib.decDigits n)=n:=by
 by_cases h10:n<10
 ·rw[Lib.decDigits_one h10]
  have e:=Kq h10
  constructor
  ·rw[List.all_cons,List.all_nil,digit,e];simp;omega
  show 10*0+((UInt8.ofNat (48+n)).toNat-48)=n;rw[e];omega
 rw[Lib.decDigits_two h10 (by omega)];have e1:=Kq (show n/10<10 by omega);have e2:=Kq (show n%10<10 by omega)
 constructor
 ·rw[List.all_cons,List.all_cons,List.all_nil,digit,digit,e1,e2];simp;omega
 show 10*(10*0+((UInt8.ofNat (48+n/10)).toNat-48))+((UInt8.ofNat (48+n%10)).toNat-48)=n;rw[e1,e2];omega
theorem Nu {n:Nat}(h:n<64):∀b∈Lib.decDigits n,digit b=true:=List.all_eq_true.1 (Sk h).1
theorem Hg {n:Nat}(h:n<64):tagP (Lib.decDigits n)=some n:=by
 have h1:=dec_len h;have h2:=Sk h;unfold tagP;rw[if_neg,h2.2,if_pos h];rintro(e |e |e)
 ·rw[e] at h1;simp at h1
 ·omega
 rw[h2.1] at e;cases e
theorem Ig {n:Nat}(h:n<64){c:UInt8}(hc:digit c=false):c∉Lib.decDigits n:=λhm=>by rw[Nu h c hm] at hc;cases hc
theorem Hca {r:Nat×Nat}(h1:r.1<=r.2)(h2:r.2<64):∀p∈piece r,(44:UInt8)∉p/\p≠[]/\(runP p).isSome=true:=by
 intro p hp;have k1:r.1<64:=by omega
 have d1:digit 44=false:=by decide
 have d2:digit 45=false:=by decide
 have one:∀{n:Nat},n<64->(44:UInt8)∉Lib.decDigits n/\Lib.decDigits n≠[]/\(runP (Lib.decDigits n)).isSome=true:=λ{n} hn=>by
  refine⟨Ig hn d1,λe=>?_,?_⟩
  ·have:=dec_len hn;rw[e] at this;simp at this
  unfold runP;rw[cutAt_none (Ig hn d2)];simp[Hg hn]
 unfold piece at hp
 split at hp
 ·simp at hp;subst hp;exact one k1
 split at hp
 ·simp at hp
  rcases hp with rfl |rfl
  ·exact one k1
  exact one h2
 simp at hp;subst hp;refine⟨?_,by simp,?_⟩
 ·intro hm
  rcases List.mem_append.1 hm with hm |hm
  ·exact Ig k1 d1 hm
  rcases List.mem_cons.1 hm with hm |hm
  ·cases hm
  exact Ig h2 d1 hm
 unfold runP;rw[cutAt_some (Ig k1 d2)];simp[Hg k1,Hg h2]
def Ce (p:List UInt8):Nat:=(runP p).getD 0
theorem Uk {n:Nat}(h:n<64):runP (Lib.decDigits n)=some (bitsFrom n n):=by
 unfold runP;rw[cutAt_none (Ig h (by decide))];simp[Hg h]
theorem Az {a b:Nat}(ha:a<64)(hb:b<64):runP (Lib.decDigits a++45::Lib.decDigits b)=some (bitsFrom a b):=by
 unfold runP;rw[cutAt_some (Ig ha (by decide))];simp[Hg ha,Hg hb]
def De (ps:List (List UInt8))(acc:Nat):Nat:=ps.foldl (λx p=>join x (Ce p)) acc
theorem Ica (ps:List (List UInt8))(i:Nat):∀acc,(De ps acc).testBit i=(acc.testBit i||ps.any λp=>(Ce p).testBit i):=by
 induction ps with
 |nil=>intro acc;simp[De]
 |cons p r ih=>intro acc;rw[De,List.foldl_cons,<-De,ih,List.any_cons,join,Nat.testBit_or,Bool.or_assoc]
theorem V5 {r:Nat×Nat}(h1:r.1<=r.2)(h2:r.2<64)(i:Nat):((piece r).any λp=>(Ce p).testBit i)=(bitsFrom r.1 r.2).testBit i:=by
 have k1:r.1<64:=by omega
 unfold piece
 split
 ·rename_i e
  simp[Ce,Uk k1,e]
 split
 ·rename_i e
  simp only[List.any_cons,List.any_nil,Bool.or_false,Ce,Uk k1,Uk h2,Option.getD_some,Km];by_cases a:r.1<=i<;>by_cases b:i<=r.1<;>by_cases c:r.2<=i<;>by_cases d:i<=r.2<;>simp[a,b,c,d]<;>omega
 simp[Ce,Az k1 h2]
theorem Rfa {l:Nat}(hl:l<18446744073709551616):∀(n p:Nat),64-p<=n->∀i,((runs l p).any λr=>(bitsFrom r.1 r.2).testBit i)=(decide (p<=i)&&l.testBit i):=by
 intro n
 induction n with
 |zero=>
  intro p hp i;rw[runs,dif_neg (by omega)];by_cases h:p<=i
  ·rw[Tf hl (by omega)];simp
  simp[h]
 |succ n ih=>
  intro p hp i;by_cases h64:p<64
  ·cases hb:l.testBit p
   ·rw[runs,dif_pos h64,if_neg (by simp[hb]),ih (p+1) (by omega)]
    by_cases h1:p+1<=i
    ·simp[h1,Nat.le_of_succ_le h1]
    by_cases h2:p<=i
    ·have:i=p:=by omega
     subst this;simp[hb]
    simp[h1,h2]
   have hge:=last_ge l p;rw[runs,dif_pos h64,if_pos hb,List.any_cons,ih (last l p+1) (by omega),Km];by_cases h1:p<=i
   ·by_cases h2:i<=last l p
    ·have:=last_bits hb i h1 h2
     simp[h1,h2,this]
    have h3:last l p+1<=i:=by omega
    simp[h1,h2,h3]
   have h3:¬last l p+1<=i:=by omega
   simp[h1,h3]
  rw[runs,dif_neg h64];by_cases h:p<=i
  ·rw[Tf hl (by omega)];simp
  simp[h]
theorem Lm {l:Nat}(hl:l<18446744073709551616):De (pieces l 0) 0=l:=by
 apply Nat.eq_of_testBit_eq
 intro i;have h1:=Rfa hl 64 0 (by omega) i;have hm:=Rk hl 64 0 (by omega);rw[Ica,Nat.zero_testBit,Bool.false_or,pieces,List.any_flatMap];have:∀rs:List (Nat×Nat),(∀r∈rs,0<=r.1/\r.1<=r.2/\r.2<64)->(rs.any λr=>(piece r).any λp=>(Ce p).testBit i)=rs.any λr=>(bitsFrom r.1 r.2).testBit i:=by
  intro rs
  induction rs with
  |nil=>intro _;rfl
  |cons r t ih=>
   intro h;have hr:=h r List.mem_cons_self;rw[List.any_cons,List.any_cons,V5 hr.2.1 hr.2.2,ih (λx hx=>h x (List.mem_cons_of_mem _ hx))]
 rw[this _ hm,h1];simp
theorem Jca {l:Nat}(hl:l<18446744073709551616):∀p∈pieces l 0,(44:UInt8)∉p/\p≠[]/\(runP p).isSome=true:=by
 intro p hp;obtain⟨r,hr,hpr⟩:=List.mem_flatMap.1 hp;obtain⟨_,h1,h2⟩:=Rk hl 64 0 (by omega) r hr;exact Hca h1 h2 p hpr
theorem Rv (p q:List UInt8)(r:List (List UInt8)):Lib.join (p::q::r) [44]=p++44::Lib.join (q::r) [44]:=by
 rw[Lib.join_cons,Lib.join_cons];simp[Lib.joinTail]
theorem Cp:∀(ps:List (List UInt8)) (f acc:Nat),ps.length<=f->(∀p∈ps,(44:UInt8)∉p/\p≠[]/\(runP p).isSome=true)->innerP f (Lib.join ps [44]) acc=some (De ps acc)
 | [],f,acc,_,_=>by
  rw[Lib.join_nil];cases f<;>simp[innerP,De]
 | [p],f+1,acc,_,h=>by
  obtain⟨h1,h2,h3⟩:=h p List.mem_cons_self;obtain⟨l,hl⟩:=Option.isSome_iff_exists.1 h3;rw[Lib.join_one,innerP,if_neg h2,cutAt_none h1];simp only[hl];cases f<;>simp[innerP,De,Ce,hl]
 |p::q::r,f+1,acc,hf,h=>by
  obtain⟨h1,h2,h3⟩:=h p List.mem_cons_self;obtain⟨l,hl⟩:=Option.isSome_iff_exists.1 h3;rw[Rv,innerP,if_neg (by simp),cutAt_some h1];simp only[hl];rw[Cp (q::r) f _ (by simp at hf⊢;omega) (λx hx=>h x (List.mem_cons_of_mem _ hx)),show De (p::q::r) acc=De (q::r) (join acc (Ce p)) from rfl,Ce,hl];rfl
 |p::r,0,acc,hf,_=>by simp at hf
theorem pieces_count {l:Nat}(hl:l<18446744073709551616):∀(n p:Nat),64-p<=n->(pieces l p).length<=64-p:=by
 intro n
 induction n with
 |zero=>intro p hp;rw[pieces,runs,dif_neg (by omega)];simp
 |succ n ih=>
  intro p hp;by_cases h64:p<64
  ·cases hb:l.testBit p
   ·have:=ih (p+1) (by omega)
    rw[pieces,runs,dif_pos h64,if_neg (by simp[hb]),<-pieces];omega
   have hge:=last_ge l p;have hlt:=last_lt hl hb;have:=ih (last l p+1) (by omega);rw[pieces,runs,dif_pos h64,if_pos hb,List.flatMap_cons,List.length_append,<-pieces];have hp2:(piece (p,last l p)).length<=last l p+1-p:=by
    unfold piece
    split
    ·simp;omega
    split
    ·rename_i e;simp at e⊢;omega
    simp;omega
   omega
  rw[pieces,runs,dif_neg h64];simp
theorem Ug {l:Nat}(hl:l<18446744073709551616):∀f,64<=f->innerP f (Lib.join (pieces l 0) [44]) 0=some l:=λf hf=>by
 have hc:=pieces_count hl 64 0 (by omega);rw[Cp (pieces l 0) f 0 (by omega) (Jca hl),Lm hl]
theorem text_inj {a b:Nat}(ha:a<18446744073709551616)(hb:b<18446744073709551616)(h:text a=text b):a=b:=by
 unfold text at h;injection h with _ h
 have h1:=List.append_inj_left' h rfl;have e1:=Ug ha 64 (by omega);have e2:=Ug hb 64 (by omega);rw[h1,e2] at e1;injection e1 with e1
 exact e1.symm
end Lab
namespace Lab
open Go
def takeDig:Nat->List UInt8->Nat->Nat×List UInt8
 | 0,s,n=>(n,s)
 |k+1,[],n=>(n,[])
 |k+1,b::l,n=>if digit b then takeDig k l (10*n+(b.toNat-48)) else(n,b::l)
theorem takeDig_nil (k n:Nat):takeDig k [] n=(n,[]):=by cases k<;>rfl
theorem takeDig_stop {b:UInt8}(h:digit b=false)(k:Nat)(l:List UInt8)(n:Nat):takeDig k (b::l) n=(n,b::l):=by
 cases k with
 |zero=>rfl
 |succ k=>rw[takeDig,if_neg (by simp[h])]
def numR (s:List UInt8):Option Nat×List UInt8:=
 if(takeDig 3 s 0).2.length=s.length\/63<(takeDig 3 s 0).1 then(none,(takeDig 3 s 0).2) else(some (takeDig 3 s 0).1,(takeDig 3 s 0).2)
theorem numR_lt {s:List UInt8}{n:Nat}(h:(numR s).1=some n):n<64:=by
 unfold numR at h
 split at h
 ·cases h
 rename_i hh;injection h with h
 omega
def Jma (t:List UInt8):Prop:=t=[]\/∃b r,t=b::r/\digit b=false
theorem Mq {n:Nat}(h:n<64){t:List UInt8}(ht:Jma t):numR (Lib.decDigits n++t)=(some n,t):=by
 have key:takeDig 3 (Lib.decDigits n++t) 0=(n,t):=by
  have stop:∀k m,takeDig k t m=(m,t):=λk m=>by
   rcases ht with rfl |⟨b,r,rfl,hb⟩
   ·exact takeDig_nil k m
   exact takeDig_stop hb k r m
  have hd:=Nu h;have hv:=(Sk h).2;by_cases h10:n<10
  ·rw[Lib.decDigits_one h10] at hd hv⊢
   have h0:=hd _ List.mem_cons_self;have hv':10*0+((UInt8.ofNat (48+n)).toNat-48)=n:=hv;rw[List.cons_append,List.nil_append,takeDig,if_pos h0,hv',stop]
  rw[Lib.decDigits_two h10 (by omega)] at hd hv⊢;have h0:=hd _ List.mem_cons_self;have h1:=hd _ (List.mem_cons_of_mem _ List.mem_cons_self);have hv':10*(10*0+((UInt8.ofNat (48+n/10)).toNat-48))+((UInt8.ofNat (48+n%10)).toNat-48)=n:=hv;rw[List.cons_append,List.cons_append,List.nil_append,takeDig,if_pos h0,takeDig,if_pos h1,hv',stop]
 unfold numR;rw[key,if_neg];rintro(e |e)
 ·have:=dec_len h
  have e':t.length=(Lib.decDigits n).length+t.length:=by rw[<-List.length_append];exact e
  omega
 have e':63<n:=e;omega
def dropComma:List UInt8->List UInt8
 | []=>[]
 |b::r=>if b=44 then r else b::r
def refStep (s:List UInt8):Option (Nat×List UInt8):=
 match(numR s).2 with
 | []=>(numR s).1.map λa=>(bitsFrom a a,[])
 |b::r=>if b=45 then(match(numR s).1,(numR r).1 with |some a,some c=>some (bitsFrom a c,dropComma (numR r).2) |_,_=>none) else(numR s).1.map λa=>(bitsFrom a a,dropComma (b::r))
def refP:Nat->List UInt8->Nat->Option Nat
 | 0,_,acc=>some acc
 |f+1,[],acc=>some acc
 |f+1,b::r,acc=>if b=125 then some acc else match refStep (b::r) with |none=>none |some x=>refP f x.2 (join acc x.1)
theorem X5 {n:Nat}(h:n<64){b:UInt8}{r:List UInt8}(hb:digit b=false)(h45:b≠45):refStep (Lib.decDigits n++b::r)=some (bitsFrom n n,dropComma (b::r)):=by
 have e:=Mq h (t:=b::r) (.inr ⟨b,r,rfl,hb⟩);unfold refStep;rw[e];simp only[if_neg h45,Option.map_some]
theorem Y5 {a c:Nat}(ha:a<64)(hc:c<64){b:UInt8}{r:List UInt8}(hb:digit b=false):refStep (Lib.decDigits a++45::(Lib.decDigits c++b::r))=some (bitsFrom a c,dropComma (b::r)):=by
 have e:=Mq ha (t:=45::(Lib.decDigits c++b::r)) (.inr ⟨45,_,rfl,by decide⟩);have e2:=Mq hc (t:=b::r) (.inr ⟨b,r,rfl,hb⟩);unfold refStep;rw[e];simp only[if_pos,e2]
def Rr (p:List UInt8):Prop:=(∃a,a<64/\p=Lib.decDigits a)\/(∃a c,a<64/\c<64/\p=Lib.decDigits a++45::Lib.decDigits c)
theorem Mm {p:List UInt8}(h:Rr p){b:UInt8}{r:List UInt8}(hb:digit b=false)(h45:b≠45):refStep (p++b::r)=some (Ce p,dropComma (b::r)):=by
 rcases h with⟨a,ha,rfl⟩ |⟨a,c,ha,hc,rfl⟩
 ·rw[X5 ha hb h45,Ce,Uk ha];rfl
 rw[List.append_assoc,List.cons_append,Y5 ha hc hb,Ce,Az ha hc];rfl
theorem Sv {p:List UInt8}(h:Rr p):∃b r,p=b::r/\b≠125:=by
 have one:∀{a:Nat},a<64->∃b r,Lib.decDigits a=b::r/\b≠125:=λ{a} ha=>by
  have hl:=dec_len ha;cases e:Lib.decDigits a with
  |nil=>rw[e] at hl;simp at hl
  |cons b r=>
   refine⟨b,r,rfl,λhb=>?_⟩;have:=Nu ha b (by rw[e];exact List.mem_cons_self);rw[hb] at this;exact absurd this (by decide)
 rcases h with⟨a,ha,rfl⟩ |⟨a,c,ha,hc,rfl⟩
 ·exact one ha
 obtain⟨b,r,e,hb⟩:=one ha;exact⟨b,r++45::Lib.decDigits c,by rw[e];rfl,hb⟩
theorem Z5 {l:Nat}(hl:l<18446744073709551616):∀p∈pieces l 0,Rr p:=by
 intro p hp;obtain⟨r,hr,hpr⟩:=List.mem_flatMap.1 hp;obtain⟨_,h1,h2⟩:=Rk hl 64 0 (by omega) r hr;have k1:r.1<64:=by omega
 unfold piece at hpr
 split at hpr
 ·simp at hpr;subst hpr;exact .inl ⟨_,k1,rfl⟩
 split at hpr
 ·simp at hpr
  rcases hpr with rfl |rfl
  ·exact .inl ⟨_,k1,rfl⟩
  exact .inl ⟨_,h2,rfl⟩
 simp at hpr;subst hpr;exact .inr ⟨_,_,k1,h2,rfl⟩
theorem Tv:∀(ps:List (List UInt8)) (f acc:Nat),ps.length<=f->(∀p∈ps,Rr p)->refP f (Lib.join ps [44]++[125]) acc=some (De ps acc)
 | [],f,acc,_,_=>by
  rw[Lib.join_nil];cases f<;>simp[refP,De]
 | [p],f+1,acc,_,h=>by
  have hp:=h p List.mem_cons_self;obtain⟨b,r,e,hb⟩:=Sv hp;rw[Lib.join_one];have hs:=Mm hp (b:=125) (r:=[]) (by decide) (by decide);rw[e,List.cons_append] at hs⊢;rw[refP,if_neg hb,hs];simp only[dropComma];rw[if_neg (by decide)];cases f<;>simp[refP,De]
 |p::q::r,f+1,acc,hf,h=>by
  have hp:=h p List.mem_cons_self;obtain⟨b,t,e,hb⟩:=Sv hp;rw[Rv,List.append_assoc,List.cons_append];have hs:=Mm hp (b:=44) (r:=Lib.join (q::r) [44]++[125]) (by decide) (by decide);have ih:=Tv (q::r) f (join acc (Ce p)) (by simp at hf⊢;omega) (λx hx=>h x (List.mem_cons_of_mem _ hx));rw[show De (p::q::r) acc=De (q::r) (join acc (Ce p)) from rfl,<-ih];generalize Lib.join (q::r) [44]++[125]=t2 at*;rw[e,List.cons_append] at hs⊢;rw[refP,if_neg hb,hs];simp only[dropComma,if_pos]
 |p::r,0,acc,hf,_=>by simp at hf
theorem Uv {l:Nat}(hl:l<18446744073709551616):refP 64 ((text l).drop 1) 0=some l:=by
 have hc:=pieces_count hl 64 0 (by omega);have:(text l).drop 1=Lib.join (pieces l 0) [44]++[125]:=rfl;rw[this,Tv (pieces l 0) 64 0 (by omega) (Z5 hl),Lm hl]
end Lab
