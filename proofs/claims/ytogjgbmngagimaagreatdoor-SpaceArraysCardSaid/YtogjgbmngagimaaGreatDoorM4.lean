/- Texts of this proof, joined. -/
import Derived.Test.YtogjgbmngagimaaGreatDoorM3
import Derived.Lib.BitFns
import Derived.IntWalk
import Derived.ProofKit
import Derived.OpenShut
import Derived.ChangeOld
import Derived.Shelf.Lay
import Derived.Shelf.Strings.BuilderK
set_option linter.all false
set_option maxHeartbeats 8000000
set_option maxRecDepth 100000
namespace Nt
theorem Q5 {l:List Nat}{m:Nat}(h:l.length=m+2):val l=val (l.take m)+4294967296^m*(l[m]+4294967296*l[m+1]):=by
 have e:=Ub l m (by omega);rw[Xa (by omega),Xa (k:=m+1) (by omega),List.drop_of_length_le (show l.length<=m+1+1 by omega),val,Nat.mul_zero] at e;exact e
theorem R5 {l:List Nat}{m:Nat}(h:l.length=m+3):val l=val (l.take m)+4294967296^m*(l[m]+4294967296*(l[m+1]+4294967296*l[m+2])):=by
 have e:=Ub l m (by omega);rw[Xa (by omega),Xa (k:=m+1) (by omega),Xa (k:=m+1+1) (by omega),List.drop_of_length_le (show l.length<=m+1+1+1 by omega),val,Nat.mul_zero] at e;exact e
theorem Re {l:List Nat}(h:Ok l){m:Nat}(hm:m<=l.length):val (l.take m)<4294967296^m:=by
 have:=val_lt (ok_take h m);rwa[List.length_take,Nat.min_eq_left hm] at this
theorem est_of {a d:List Nat}{m:Nat}(ha:Ok a)(hd:Ok d)(hla:a.length=m+3)(hld:d.length=m+2)(h31:2147483648<=d[m+1])(hlt:val a<4294967296*val d):
 Est (val a) (val d) (4294967296^m) d[m+1] d[m] a[m+2] a[m+1] a[m] where
 d:=⟨val (d.take m),Re hd (by omega),by rw[Q5 hld];generalize 4294967296^m=p;generalize val (d.take m)=V;grind⟩
 r:=⟨val (a.take m),Re ha (by omega),by rw[R5 hla];generalize 4294967296^m=p;generalize val (a.take m)=V;grind⟩
 v1lo:=h31
 v1hi:=ok_get hd _
 v2hi:=ok_get hd _
 u1hi:=ok_get ha _
 u2hi:=ok_get ha _
 lt:=hlt
structure EstAt (R D p v1 v2 u0 u1 u2 g t:Nat):Prop where
 e:Est R D p v1 v2 u0 u1 u2
 sum:g*v1+t=u0*4294967296+u1
 ge:R/D<=g
theorem est_start {R D p v1 v2 u0 u1 u2:Nat}(h:Est R D p v1 v2 u0 u1 u2):EstAt R D p v1 v2 u0 u1 u2 ((u0*4294967296+u1)/v1) ((u0*4294967296+u1)%v1) where
 e:=h
 sum:=by rw[Nat.mul_comm];exact Nat.div_add_mod _ _
 ge:=h.first
theorem EstAt.le {R D p v1 v2 u0 u1 u2 g t:Nat}(h:EstAt R D p v1 v2 u0 u1 u2 g t):g<=8589934592:=by
 have h1:=h.e.u0;have h2:=h.sum;have h3:=h.e.v1lo;have h4:=h.e.v1hi;rcases Nat.lt_or_ge 8589934592 g with h5 |h5
 ·exfalso
  have h6:8589934593*v1<=g*v1:=Nat.mul_le_mul_right _ h5;generalize g*v1=z at*;omega
 exact h5
theorem EstAt.step {R D p v1 v2 u0 u1 u2 g t:Nat}(h:EstAt R D p v1 v2 u0 u1 u2 g t)(ht:4294967296<=g\/t*4294967296+u2<g*v2):1<=g/\EstAt R D p v1 v2 u0 u1 u2 (g-1) (t+v1):=by
 have h1:=h.e.less h.sum h.ge ht;have hg:1<=g:=Nat.le_trans (Nat.le_add_left _ _) h1;refine⟨hg,h.e,?_,Nat.le_sub_one_of_lt h1⟩;clear h1 ht;rw[<-h.sum];obtain⟨m,rfl⟩:∃m,g=m+1:=⟨g-1,by omega⟩;rw[Nat.add_sub_cancel,Nat.succ_mul];omega
theorem EstAt.done {R D p v1 v2 u0 u1 u2 g t:Nat}(h:EstAt R D p v1 v2 u0 u1 u2 g t)(hg:g<4294967296)(ht:g*v2<=t*4294967296+u2):R/D<=g/\g<=R/D+1/\g<4294967296:=
 ⟨h.ge,h.e.near h.sum hg ht,hg⟩
theorem EstAt.broke {R D p v1 v2 u0 u1 u2 g t:Nat}(h:EstAt R D p v1 v2 u0 u1 u2 g t)(ht:4294967296<=t):R/D<=g/\g<=R/D+1/\g<4294967296:=by
 have h1:=h.e.u0;have h2:=h.sum;have h3:=h.e.v1lo;have hg:g<4294967296:=by
  rcases Nat.lt_or_ge g 4294967296 with h5 |h5
  ·exact h5
  exfalso
  have h6:4294967296*v1<=g*v1:=Nat.mul_le_mul_right _ h5;generalize g*v1=z at*;omega
 refine h.done hg ?_;have h7:g*v2<=4294967296*4294967296:=Nat.mul_le_mul (by omega) (by have:=h.e.v2hi;omega);omega
theorem S5 {l:List Nat}{n v:Nat}(h:Ok l)(hl:l.length=n+1)(hv:val l=v)(hlt:v<4294967296^n):val (l.take n)=v:=by
 have h1:=val_take_succ (l:=l) (i:=n) (by omega);rw[List.take_of_length_le (by omega)] at h1;rcases Nat.eq_zero_or_pos l[n] with h0 |h0
 ·rw[h0,Nat.mul_zero,Nat.add_zero] at h1;omega
 exfalso
 have:4294967296^n*1<=4294967296^n*l[n]:=Nat.mul_le_mul_left _ h0;omega
theorem Q0 {y s m:Nat}(t:Nat)(hy:y<(t+1)*4294967296^m)(hs:s<=32)(ht:t*2^s<4294967296):y*2^s<4294967296^(m+1):=by
 have h1:y*2^s<(t+1)*4294967296^m*2^s:=Nat.mul_lt_mul_of_pos_right hy (Nat.two_pow_pos s);have h2:(t+1)*2^s<=4294967296:=by
  have e:4294967296=2^(32-s)*2^s:=by rw[<-Nat.pow_add,show 32-s+s=32 by omega]
  have h3:t<2^(32-s):=by rw[e] at ht;exact Nat.lt_of_mul_lt_mul_right ht
  have h4:(t+1)*2^s<=2^(32-s)*2^s:=Nat.mul_le_mul_right _ h3;rw[<-e] at h4;exact h4
 have h5:(t+1)*2^s*4294967296^m<=4294967296*4294967296^m:=Nat.mul_le_mul_right _ h2;rw[Nat.pow_succ];have e2:(t+1)*4294967296^m*2^s=(t+1)*2^s*4294967296^m:=by rw[Nat.mul_assoc,Nat.mul_assoc,Nat.mul_comm (2^s)]
 rw[e2] at h1;rw[Nat.mul_comm (4294967296^m)];exact Nat.lt_of_lt_of_le h1 h5
theorem top_bit {d:List Nat}{m x:Nat}(hd:Ok d)(hl:d.length=m+1)(hv:2147483648*4294967296^m<=val d):2147483648<=d[m]:=by
 have h1:=val_take_succ (l:=d) (i:=m) (by omega);rw[List.take_of_length_le (by omega)] at h1;have h2:=Re hd (m:=m) (by omega);rcases Nat.lt_or_ge d[m] 2147483648 with h |h
 ·exfalso
  have h3:4294967296^m*(d[m]+1)<=4294967296^m*2147483648:=Nat.mul_le_mul_left _ h;rw[Nat.mul_add,Nat.mul_one] at h3;generalize 4294967296^m=p at*;generalize p*d[m]=z at*;omega
 exact h
theorem div_scaled {y s m t:Nat}{cur:List Nat}(hlen:(digs y).length=m+1)(htop:t=(digs y)[m]'(by omega))(hs:s<=32)(hlo:2147483648<=t*2^s)(hhi:t*2^s<4294967296)
 (ok:Ok cur) (hl:cur.length=m+1+1) (hv:val cur=y*2^s):
 y*2^s<4294967296^(m+1)/\val (cur.take (m+1))=y*2^s/\Ok (cur.take (m+1))/\(cur.take (m+1)).length=m+1/\∀h:m<(cur.take (m+1)).length,2147483648<=(cur.take (m+1))[m]:=by
 have hy:=val_take_succ (l:=digs y) (i:=m) (by omega);rw[List.take_of_length_le (by omega),val_digs,<-htop] at hy;have hr:=Re (ok_digs y) (m:=m) (by omega);have hlt:y*2^s<4294967296^(m+1):=Q0 t (by rw[Nat.succ_mul,Nat.mul_comm t];omega) hs hhi;have hval:=S5 ok hl hv hlt;have hlen2:(cur.take (m+1)).length=m+1:=by rw[List.length_take];omega
 refine⟨hlt,hval,ok_take ok _,hlen2,λh=>top_bit (x:=0) (ok_take ok _) hlen2 ?_⟩;rw[hval];have h1:4294967296^m*t<=y:=by omega
 have h2:4294967296^m*t*2^s<=y*2^s:=Nat.mul_le_mul_right _ h1;have h3:2147483648*4294967296^m<=t*2^s*4294967296^m:=Nat.mul_le_mul_right _ hlo;have e:t*2^s*4294967296^m=4294967296^m*t*2^s:=by rw[Nat.mul_comm (t*2^s),Nat.mul_assoc]
 omega
end Nt
namespace Nt
open Go
theorem Hi:∀(f x:Nat),x<2^f->f<=64->x≠0->1<=Lib.bitLen x/\2^(Lib.bitLen x-1)<=x/\x<2^Lib.bitLen x
 | 0,x,h,_,h0=>by simp at h;omega
 |f+1,x,h,hf,h0=>by
  have h64:x<2^64:=Nat.lt_of_lt_of_le h (Nat.pow_le_pow_right (by omega) hf);rw[Lib.bitLen_half x h0 h64];rcases Nat.eq_zero_or_pos (x/2) with hz |hz
  ·have:x=1:=by omega
   subst this;decide
  obtain⟨a,b,c⟩:=Hi f (x/2) (by rw[Nat.pow_succ] at h;omega) (by omega) (by omega);generalize Lib.bitLen (x/2)=L at*;refine⟨by omega,?_,?_⟩
  ·rw[show 1+L-1=(L-1)+1 by omega,Nat.pow_succ];omega
  rw[Nat.add_comm,Nat.pow_succ];omega
theorem shift_of {t:Nat}(h0:t≠0)(ht:t<4294967296):Lib.bitLen t<=32/\1<=Lib.bitLen t/\2147483648<=t*2^(32-Lib.bitLen t)/\t*2^(32-Lib.bitLen t)<4294967296:=by
 obtain⟨a,b,c⟩:=Hi 32 t ht (by omega) h0;have hl:Lib.bitLen t<=32:=by
  rcases Nat.lt_or_ge 32 (Lib.bitLen t) with h |h
  ·exfalso
   have:2^32<=2^(Lib.bitLen t-1):=Nat.pow_le_pow_right (by omega) (by omega);omega
  exact h
 generalize Lib.bitLen t=L at*;refine⟨hl,a,?_,?_⟩
 ·have h1:=Nat.mul_le_mul_right (2^(32-L)) b
  rw[<-Nat.pow_add,show L-1+(32-L)=31 by omega] at h1;exact h1
 have h1:=Nat.mul_lt_mul_of_pos_right c (Nat.two_pow_pos (32-L));rw[<-Nat.pow_add,show L+(32-L)=32 by omega] at h1;exact h1
end Nt
namespace Go.Proofs.YtogjgbmngagimaaGreatDoor
open Go.RowKit
theorem Ss (A A':Option Addr)(c c' B n:Nat)(a d:List Nat)(w:World)(hx:Lies w B A (U a))(hy:Lies w B A' (U d))(ha:Nt.Ok a)(hd:Nt.Ok d)(hla:a.length=n+1)(hld:d.length=n)(hn:2<=n)(hn2:n<=1000000)
 (h31:∀h:n-1<d.length,2147483648<=d[n-1]) (hlt:Nt.val a<4294967296*Nt.val d) (hc:n+1<=c) (hc':n<=c'):
 Calls Tryz.prog 321 #[.slice A (n+1) c,.slice A' n c'] w λe w'=>∃g:Nat,e= .returned (.int .u64 (g:Int))/\Hid (Nt.val a/Nt.val d<=g/\g<=Nt.val a/Nt.val d+1)/\g<4294967296/\∃k,w'=w.drewN k:=by
 have hE:∃p,Nt.Est (Nt.val a) (Nt.val d) p (d[n-1]'(by omega)) (d[n-2]'(by omega)) (a[n]'(by omega)) (a[n-1]'(by omega)) (a[n-2]'(by omega)):=by
  obtain⟨m,rfl⟩:∃m,n=m+2:=⟨n-2,by omega⟩;exact⟨_,Nt.est_of ha hd (by omega) (by omega) (h31 (by omega)) hlt⟩
 obtain⟨p,hE⟩:=hE;obtain⟨b1,o1,rfl,_,a0⟩:=hx.limb (k:=n) (by omega);obtain⟨b1',o1',e1,_,a1⟩:=hx.limb (k:=n-1) (by omega);obtain⟨b1'',o1'',e2,_,a2⟩:=hx.limb (k:=n-2) (by omega);obtain⟨b2,o2,rfl,_,d1⟩:=hy.limb (k:=n-1) (by omega);obtain⟨b2',o2',e3,_,d2⟩:=hy.limb (k:=n-2) (by omega);injection e1 with e1;injection e1 with e1 e1';subst e1 e1'
 injection e2 with e2;injection e2 with e2 e2';subst e2 e2'
 injection e3 with e3;injection e3 with e3 e3';subst e3 e3'
 have u0b:=Nt.ok_get ha (i:=n) (by omega);generalize d[n-1]'(by omega)=v1 at hE d1;generalize d[n-2]'(by omega)=v2 at hE d2;generalize a[n]'(by omega)=u0 at hE a0 u0b;generalize a[n-1]'(by omega)=u1 at hE a1;generalize a[n-2]'(by omega)=u2 at hE a2;have hv1:=hE.v1lo;have hv1':=hE.v1hi;have hv2:=hE.v2hi;have hu1:=hE.u1hi;have hu2:=hE.u2hi;have H0:=Qd (Nt.est_start hE);clear hx hy ha hd h31 hlt hla hld;have hj:=Tm (r:=u0) u0b hu1;have hsh:IntKind.u64.wrap ((u0:Int)*4294967296)=(u0:Int)*4294967296:=IntWalk.u64_in _ (by omega);have hw1:IntKind.i64.wrap ((n:Int)-1)=(n:Int)-1:=IntWalk.i64_in _ (by omega);have hp1:(0:Int)<=(n:Int)-1:=by omega
 have hp1':(1:Int)<=(n:Int):=by omega
 have ht1:((n:Int)-1).toNat=n-1:=by omega
 have hdz:((v1:Int)==0)=false:=by simp;omega
 have hv1p:(1:Int)<=(v1:Int):=by omega
 generalize hH:u0*4294967296+u1=H at H0 hj;have hHb:H<18446744073709551616:=by omega
 clear hH hE;have hq:(H:Int)/(v1:Int)=((H/v1:Nat):Int):=(Int.natCast_ediv H v1).symm;have hr:(H:Int)%(v1:Int)=((H%v1:Nat):Int):=(Int.natCast_emod H v1).symm;have hrl:H%v1<v1:=Nat.mod_lt _ (by omega);have hql:=H0.out.le;generalize H/v1=q at*;generalize H%v1=r at*;go_enter Tryz.func321,Tryz.ntmps321
 go_wp2_with fail
 go_quiet (fail)
 clear hj hsh;go_wp2_with fail
 go_quiet (fail)
 clear a0 a1 hq hql u0b hHb;have HR:=Qd hr;clear hr;go_wp2_with fail
 go_loopw [7,8] (λgv tv wr=>∃g t m:Nat,wr=w.drewN m/\t<4294967296/\g<=8589934592/\gv= .int .u64 (g:Int)/\tv= .int .u64 (t:Int)/\Hid (Nt.EstAt (Nt.val a) (Nt.val d) p v1 v2 u0 u1 u2 g t)) (λgv _ _=>(intOf gv).toNat)
 case atStart=>exact⟨q,r,_,World.drewN_drewN _ _ _,by omega,H0.out.le,rfl,congrArg (Value.int .u64) HR.out,H0⟩
 case round=>
  clear H0 HR hrl;obtain⟨g,t,m,rfl,ht,hg,rfl,rfl,HA⟩:=hrel;have hw2:IntKind.i64.wrap ((n:Int)-2)=(n:Int)-2:=IntWalk.i64_in _ (by omega);have hp2:(0:Int)<=(n:Int)-2:=by omega
  have hp2':(2:Int)<=(n:Int):=by omega
  have ht2:((n:Int)-2).toNat=n-2:=by omega
  by_cases hbig:4294967296<=g
  ·have hne:((g:Int)/4294967296 !=0)=true:=by simp;omega
   obtain⟨hg1,hst⟩:=HA.out.step (.inl hbig);have ST:=Qd hst;clear hst;by_cases hb2:4294967296<=t+v1
   ·have hne2:(((t:Int)+(v1:Int))/4294967296 !=0)=true:=by simp;omega
    have BR:=Qd (ST.out.broke hb2);go_wp2_with fail
    go_quiet (fail)
    go_wp2_with fail
    go_ret;exact⟨g-1,Wa (by omega),Qd ⟨BR.out.1,BR.out.2.1⟩,BR.out.2.2,_,rfl⟩
   have hne2:(((t:Int)+(v1:Int))/4294967296 !=0)=false:=by simp;omega
   go_wp2_with fail
   go_quiet (fail)
   go_wp2_with fail
   exact⟨⟨g-1,t+v1,_,rfl,by omega,by omega,congrArg (Value.int .u64) (by omega),congrArg (Value.int .u64) (by omega),ST⟩,by simp[intOf];omega⟩
  have hne:((g:Int)/4294967296 !=0)=false:=by simp;omega
  have hmb:=Nt.mul_bound (x:=g) (y:=v2) (by omega) hv2;obtain⟨P,hP⟩:∃P:Nat,P=g*v2:=⟨_,rfl⟩;have hPi:IntKind.u64.wrap ((g:Int)*(v2:Int))=(P:Int):=by rw[<-Int.natCast_mul,<-hP,IntWalk.u64_in _ (by omega)]
  have hsh:IntKind.u64.wrap ((t:Int)*4294967296)=(t:Int)*4294967296:=IntWalk.u64_in _ (by omega);have hj:=Tm (r:=t) ht hu2;have HP:=Qd hP;clear hmb hP;generalize hJ:t*4294967296+u2=J at hj;have HJ:=Qd hJ;clear hJ;by_cases htest:J<P
  ·have hdec:decide ((J:Int)<(P:Int))=true:=by simp;omega
   obtain⟨hg1,hst⟩:=HA.out.step (.inr (by rw[HJ.out,<-HP.out];exact htest));have ST:=Qd hst;clear hst;by_cases hb2:4294967296<=t+v1
   ·have hne2:(((t:Int)+(v1:Int))/4294967296 !=0)=true:=by simp;omega
    have BR:=Qd (ST.out.broke hb2);go_wp2_with fail
    go_quiet (fail)
    go_wp2_with fail
    go_ret;exact⟨g-1,Wa (by omega),Qd ⟨BR.out.1,BR.out.2.1⟩,BR.out.2.2,_,rfl⟩
   have hne2:(((t:Int)+(v1:Int))/4294967296 !=0)=false:=by simp;omega
   go_wp2_with fail
   go_quiet (fail)
   go_wp2_with fail
   exact⟨⟨g-1,t+v1,_,rfl,by omega,by omega,congrArg (Value.int .u64) (by omega),congrArg (Value.int .u64) (by omega),ST⟩,by simp[intOf];omega⟩
  have hdec:decide ((J:Int)<(P:Int))=false:=by simp;omega
  have DN:=Qd (HA.out.done (by omega) (by rw[HJ.out,<-HP.out];omega));go_wp2_with fail
  go_quiet (fail)
  go_wp2_with fail
  go_ret;exact⟨g,rfl,Qd ⟨DN.out.1,DN.out.2.1⟩,DN.out.2.2,_,World.drewN_drewN _ _ _⟩
def Xl:Prop:=∀(A A':Option Addr) (c c' B x y:Nat) (w:World),Lies w B A (U (Nt.digs x))->Lies w B A' (U (Nt.digs y))->B<=w.heap.size->(Nt.digs x).length<=c->(Nt.digs y).length<=c'->c<=9223372036854775807->c'<=9223372036854775807->
 (Nt.digs x).length<=1000000->2<=(Nt.digs y).length->y<=x->
 Calls Tryz.prog 284 #[.slice A (Nt.digs x).length c,.slice A' (Nt.digs y).length c'] w λe w'=>∃v1 v2,e= .returned (.tuple #[v1,v2])/\IsRes w' v1 (Nt.digs (x/y))/\IsRes w' v2 (Nt.digs (x%y))/\Below w.heap.size w w'
theorem Um (A A':Option Addr)(c c' B:Nat)(a b:List Nat)(w:World)(hx:Lies w B A (U a))(hy:Lies w B A' (U b))(hB:B<=w.heap.size)(ha:Nt.Ok a)(hb:Nt.Ok b)
 (hc:a.length<=c) (hc':b.length<=c') (hm:c<=9223372036854775807) (hm':c'<=9223372036854775807) (hs:a.length<=1000000) (hs':b.length<=1000000) (HLG:(Nt.digs (Nt.val b)).length<=1\/Xl):
 Calls Tryz.prog 226 #[.slice A a.length c,.slice A' b.length c'] w λe w'=>∃v1 v2,e= .returned (.tuple #[v1,v2,.bool (decide (Nt.val b≠0))])/\
  IsRes w' v1 (Nt.digs (Nt.quo (Nt.val a) (Nt.val b)))/\IsRes w' v2 (Nt.digs (Nt.rest (Nt.val a) (Nt.val b)))/\Below w.heap.size w w':=by
 have ha':=Nt.digs_len_le ha;have hb':=Nt.digs_len_le hb;have TA:=Qd (Wb A c B a w hx ha hc hm);have TB:=Qd (Wb A' c' B b w hy hb hc' hm');have LA:=Qd ((hx.digs ha).more hB);have LB:=Qd ((hy.digs hb).more hB);have OA:=Qd (Nt.ok_digs (Nt.val a));have OB:=Qd (Nt.ok_digs (Nt.val b));have VA:=Qd (Nt.val_digs (Nt.val a));have VB:=Qd (Nt.val_digs (Nt.val b));have ZB:Hid ((Nt.digs (Nt.val b)).length=0->Nt.val b=0):=Qd (λh=>Nt.digs_nil_iff.1 (List.eq_nil_of_length_eq_zero h));have hla:(Nt.digs (Nt.val a)).length<=1000000:=by omega
 have hlb:(Nt.digs (Nt.val b)).length<=1000000:=by omega
 clear hx hy ha hb;generalize Nt.val a=x at*;generalize Nt.val b=y at*;by_cases h0:y=0
 ·subst h0
  have HZ:Hid ((Nt.digs 0).length=0):=Qd (by rw[Nt.digs_zero];rfl);go_enter Tryz.func226,Tryz.ntmps226
  go_wp2_with fail
  refine TA.out.mono ?_;rintro e w' ⟨rfl,rfl⟩;go_wp2_with fail
  refine TB.out.mono ?_;rintro e w' ⟨rfl,rfl⟩;rw[HZ.out];go_wp2_with fail
  go_ret3
  refine⟨_,_,rfl,?_,?_,Br⟩
  ·rw[Nt.quo_zero,Nt.digs_zero];exact IsRes.none_ _
  rw[Nt.rest_zero,Nt.digs_zero];exact IsRes.none_ _
 have HP:Hid (decide (y≠0)=true):=Qd (by simp;omega);have hlp:(Nt.digs y).length≠0:=λh=>h0 (ZB.out h);have hle:(((Nt.digs y).length:Int)==0)=false:=by simp;intro h;exact hlp (by rw[h];rfl)
 have HI1:Hid (Nt.quo x y=x/y):=Qd rfl;have HI2:Hid (Nt.rest x y=x%y):=Qd (Nt.rest_pos h0);have CM:=Qd (R8 A A' (Nt.digs x).length (Nt.digs y).length w.heap.size (Nt.digs x) (Nt.digs y) w LA.out LB.out OA.out OB.out Lr Lr (by omega) (by omega));rw[VA.out,VB.out] at CM;rw[HP.out,HI1.out,HI2.out];have hylp:0<y:=by omega
 clear HI1 HI2;by_cases hlt:x<y
 ·have HE:Hid (Nt.cmp x y= -1):=Qd (Nt.cmp_lt hlt)
  have HQ:Hid (x/y=0):=Qd (Nat.div_eq_of_lt hlt);have HR:Hid (x%y=x):=Qd (Nat.mod_eq_of_lt hlt);have NA:=Qd (λn=>Pd A (Nt.digs x).length w.heap.size (Nt.digs x) (w.drewN n) LA.out Lr OA.out Lr (by omega) (by omega));rw[VA.out] at NA;rw[HQ.out,HR.out,Nt.digs_zero];go_enter Tryz.func226,Tryz.ntmps226
  go_wp2_with fail
  refine TA.out.mono ?_;rintro e w' ⟨rfl,rfl⟩;go_wp2_with fail
  refine TB.out.mono ?_;rintro e w' ⟨rfl,rfl⟩;go_wp2_with fail
  refine CM.out.mono ?_;rintro e w' ⟨rfl,n1,rfl⟩;rw[HE.out];go_wp2_with fail
  refine(NA.out n1).mono ?_;rintro e w1 ⟨rfl,hblk1,hb1⟩;go_wp2_with fail
  go_ret3
  refine⟨_,_,rfl,IsRes.none_ _,⟨_,_,rfl,Lr,by omega,(λh=>by cases h),hblk1.lies⟩,?_⟩;exact⟨hb1.os,hb1.tape,hb1.output,hb1.size,hb1.block⟩
 have hcmp:decide (Nt.cmp x y<0)=false:=by rw[decide_eq_false_iff_not,Nt.cmp_neg];omega
 by_cases h1:(Nt.digs y).length=1
 ·have hl1:(((Nt.digs y).length:Int)==1)=true:=by simp[h1]
  have NA:=Qd (λn=>Pd A (Nt.digs x).length w.heap.size (Nt.digs x) (w.drewN n) LA.out Lr OA.out Lr (by omega) (by omega));rw[VA.out] at NA;have hy32:y<4294967296:=by
   have:=Nt.val_lt OB.out;rw[VB.out,h1] at this
   simpa using this
  have HY:Hid (Nt.digs y=[y]):=Qd (by
   rw[Nt.digs_pos h0,Nat.mod_eq_of_lt hy32,Nat.div_eq_of_lt hy32,Nt.digs_zero])
  obtain⟨bb,offb,rfl,hbb,HCB⟩:∃b off,A'=some ⟨b,off,none⟩/\b<w.heap.size/\Hid (∀wx:World,Below w.heap.size w wx->wx.cell? ⟨b,off,none⟩=some (.int .u32 (y:Int))):=by
   have:=LB.out;rw[HY.out] at this;obtain⟨b,off,h1,h2,h3⟩:=this.limb (k:=0) (by simp);exact⟨b,off,h1,h2,Qd (λwx hwx=>(hwx.cell (p:=⟨b,off,none⟩) h2).trans (by simpa using h3))⟩
  have hone:1<=(Nt.digs y).length:=by omega
  clear h1;go_enter Tryz.func226,Tryz.ntmps226
  go_wp2_with fail
  refine TA.out.mono ?_;rintro e w' ⟨rfl,rfl⟩;go_wp2_with fail
  refine TB.out.mono ?_;rintro e w' ⟨rfl,rfl⟩;go_wp2_with fail
  refine CM.out.mono ?_;rintro e w' ⟨rfl,n1,rfl⟩;go_wp2_with fail
  refine(NA.out n1).mono ?_;rintro e w1 ⟨rfl,hblk1,hb1⟩;have hb0:Below w.heap.size w w1:=⟨hb1.os,hb1.tape,hb1.output,hb1.size,hb1.block⟩;have hblk0:Blk w1 w.heap.size 186 (U (Nt.digs x)++[]):=by rw[List.append_nil];exact hblk1
  clear hb1 hblk1;have hcell:=HCB.out w1 hb0;go_wp2_with fail
  refine(Vk w.heap.size (Nt.digs x).length y (Nt.digs x) [] w1 hblk0 OA.out hylp hy32 (by omega)).mono ?_;rintro e w2 ⟨cur,rfl,hblk2,HC,hgr2⟩;have hb2:Below w.heap.size w w2:=hb0.grown hgr2 hb0.size (λk hk=>by injection hk with hk;omega);rw[List.append_nil] at hblk2;have HTR:=Wb (some ⟨w.heap.size,0,none⟩) (Nt.digs x).length w2.heap.size cur w2 hblk2.lies HC.out.2.1 (by rw[HC.out.1];exact Lr) (by omega);rw[HC.out.1,HC.out.2.2,VA.out] at HTR;have HTR2:=Qd HTR;have HQL:(Nt.digs (x/y)).length<=(Nt.digs x).length:=by have:=Nt.digs_len_le HC.out.2.1;rw[HC.out.1,HC.out.2.2,VA.out] at this;exact this
  have HQ:Hid (Lies w2 w2.heap.size (some ⟨w.heap.size,0,none⟩) (U (Nt.digs (x/y)))):=Qd (by have:=hblk2.lies.digs HC.out.2.1;rw[HC.out.2.2,VA.out] at this;exact this);have hrl:x%y<4294967296:=by have:=Nat.mod_lt x hylp;omega
  rw[VA.out];generalize hrr:x%y=rr at*;have HRR:=Qd hrr;clear hrr HTR hblk2;go_wp2_with fail
  refine HTR2.out.mono ?_;rintro e w' ⟨rfl,rfl⟩;have hsz2:=hb2.size;have NR:=Qd (Pd (some ⟨w2.heap.size,0,none⟩) 1 (w2.heap.size+1) [rr] (w2.alloc (.cells #[.int .u32 (rr:Int)] 186)) (Lies.new w2 [.int .u32 (rr:Int)] 186) (by simp) (λd hd=>by simp at hd;omega) (by simp) (by omega) (by simp));have HV1:Hid (Nt.val [rr]=rr):=Qd (by simp[Nt.val]);rw[HV1.out] at NR;go_wp2_with fail
  refine NR.out.mono ?_;rintro e w3 ⟨rfl,hblk3,hb3⟩;have hb23:Below w2.heap.size w2 w3:=(Br.alloc Lr _).trans (hb3.mono (by simp));have hrl2:(Nt.digs rr).length<=1:=Nt.digs_len_lt (by simpa using hrl);go_wp2_with fail
  go_ret3
  refine⟨_,_,rfl,⟨_,_,rfl,Lr,by omega,(λh=>by cases h),(HQ.out.below hb23).more hb23.size⟩,?_,hb2.trans (hb23.mono hsz2)⟩;rw[HRR.out];have hli:=hblk3.lies;rw[show(w2.alloc (.cells #[.int .u32 (rr:Int)] 186)).heap.size=w2.heap.size+1 from by simp] at hli;exact⟨_,_,rfl,Lr,by omega,(λh=>by cases h),hli⟩
 have hl1:(((Nt.digs y).length:Int)==1)=false:=by simp;intro h;exact h1 (by omega)
 have hlong:Xl:=by
  rcases HLG with h |h
  ·exfalso;omega
  exact h
 have LG:=Qd (λn=>hlong A A' (Nt.digs x).length (Nt.digs y).length w.heap.size x y (w.drewN n) LA.out LB.out Lr Lr Lr (by omega) (by omega) hla (by omega) (by omega));clear hlong h1 HLG;go_enter Tryz.func226,Tryz.ntmps226
 go_wp2_with fail
 refine TA.out.mono ?_;rintro e w' ⟨rfl,rfl⟩;go_wp2_with fail
 refine TB.out.mono ?_;rintro e w' ⟨rfl,rfl⟩;go_wp2_with fail
 refine CM.out.mono ?_;rintro e w' ⟨rfl,n1,rfl⟩;go_wp2_with fail
 refine(LG.out n1).mono ?_;rintro e w1 ⟨v1,v2,rfl,hr1,hr2,hb1⟩;go_wp2_with fail
 go_ret3
 exact⟨_,_,rfl,hr1,hr2,⟨hb1.os,hb1.tape,hb1.output,hb1.size,hb1.block⟩⟩
section
open Go.RowKit
end
theorem Ts (A:Option Addr)(c B:Nat)(l:List Nat)(w:World)(hl:Lies w B A (U l))(ho:Nt.Ok l)(h2:l.length<=2):
 Calls Tryz.prog 268 #[.slice A l.length c] w λe w'=>e= .returned (.int .u64 (Nt.val l:Int))/\w=w':=by
 have HL:=Qd hl;have HO:=Qd ho;clear hl ho;go_enter Tryz.func268,Tryz.ntmps268
 go_wp2_with fail
 go_loop [3,8] (λv i=>∃k n:Nat,k<=l.length/\n<18446744073709551616/\i= .int .i64 (k:Int)/\v= .int .u64 (n:Int)/\Hid (n=Nt.val (l.take k))) (λ_ i=>l.length-(intOf i).toNat)
 case atStart=>exact⟨0,0,Nat.zero_le _,by omega,rfl,rfl,Qd (by simp[Nt.val])⟩
 case round=>
  obtain⟨k,n,hk,hn,rfl,rfl,H⟩:=hrel;by_cases hlt:k<l.length
  ·obtain⟨b,off,rfl,_,hcell⟩:=HL.out.limb hlt
   have hxb:=Nt.ok_get HO.out hlt;have ST:=Qd (Nt.val_take_succ hlt);have VL:=Nt.val_lt (Nt.ok_take HO.out k);rw[<-H.out,List.length_take,Nat.min_eq_left hk] at VL;generalize l[k]=x at hcell hxb ST;have hk2:k=0\/k=1:=by omega
   rcases hk2 with rfl |rfl
   ·have hn0:n=0:=by simpa using VL
    subst hn0;rw[Nat.add_zero] at hcell;have hor:bits BinOp.or IntKind.u64 0 (x:Int)=(x:Int):=by
     have:=u64_or_nat 0 x (by omega) (by omega);rw[Nat.zero_or] at this;exact this
    go_wp2_with fail
    refine⟨⟨1,x,by omega,by omega,rfl,?_,Qd (by rw[ST.out];simp[Nt.val])⟩,by simp[intOf];omega⟩;rfl
   have hn1:n<4294967296:=by simpa using VL
   have hor:bits BinOp.or IntKind.u64 (n:Int) ((x:Int)*4294967296)=((x*4294967296+n:Nat):Int):=by
    have:=u64_or_nat n (x*4294967296) (by omega) (by omega);rw[Nat.or_comm,nat_join 32 (x*4294967296) n (by omega) (by omega)] at this;rw[<-this,Int.natCast_mul];rfl
   go_wp2_with fail
   refine⟨⟨2,x*4294967296+n,by omega,by omega,rfl,?_,Qd (by rw[ST.out,<-H.out];omega)⟩,by simp[intOf];omega⟩;exact congrArg (Value.int .u64) (by omega)
  go_wp2_with fail
  go_ret;exact⟨Wa (by rw[H.out,List.take_of_length_le (by omega)]),rfl⟩
theorem S0 {x:Nat}(hx:x<18446744073709551616):Nt.val [x%4294967296,x/4294967296]=x:=by simp[Nt.val];omega
theorem U0 (a b:Nat)(w:World)(ha:a<18446744073709551616)(hb:b<18446744073709551616):
 Calls Tryz.prog 267 #[.int .u64 (a:Int),.int .u64 (b:Int)] w λe w'=>∃v,e= .returned v/\IsRes w' v (Nt.digs (Nat.gcd a b))/\Below w.heap.size w w':=by
 go_enter Tryz.func267,Tryz.ntmps267
 go_wp2_with fail
 go_loopw [0,1] (λxv yv wr=>∃x y m:Nat,wr=w.drewN m/\x<18446744073709551616/\y<18446744073709551616/\xv= .int .u64 (x:Int)/\yv= .int .u64 (y:Int)/\Hid (Nat.gcd x y=Nat.gcd a b)) (λ_ yv _=>(intOf yv).toNat)
 case atStart=>exact⟨a,b,0,rfl,ha,hb,rfl,rfl,Qd rfl⟩
 case round=>
  obtain⟨x,y,m,rfl,hx,hy,rfl,rfl,H⟩:=hrel;by_cases h0:y=0
  ·subst h0
   have HE:Hid (Nat.gcd a b=x):=Qd (by rw[<-H.out,Nat.gcd_zero_right]);have NR:=Qd (Pd (some ⟨w.heap.size,0,none⟩) 2 (w.heap.size+1) [x%4294967296,x/4294967296] ((w.drewN m).alloc (.cells #[.int .u32 ((x%4294967296:Nat):Int),.int .u32 ((x/4294967296:Nat):Int)] 186)) (Lies.new (w.drewN m) [.int .u32 ((x%4294967296:Nat):Int),.int .u32 ((x/4294967296:Nat):Int)] 186) (by simp) (λd hd=>by simp at hd;omega) (by simp) (by omega) (by simp));rw[S0 hx] at NR;have e1:((x%4294967296:Nat):Int)=(x:Int)%4294967296:=by omega
   have e2:((x/4294967296:Nat):Int)=(x:Int)/4294967296:=by omega
   rw[e1,e2] at NR;clear e1 e2;go_wp2_with fail
   refine NR.out.mono ?_;rintro e w1 ⟨rfl,hblk1,hb1⟩;have hb0:Below w.heap.size w w1:=by
    have h1:Below w.heap.size w (w.drewN m):=⟨rfl,rfl,rfl,Lr,λ_ _=>rfl⟩;exact(h1.alloc Lr _).trans (hb1.mono (by simp))
   have hli:=hblk1.lies;have hl2:(Nt.digs x).length<=2:=Nt.digs_len_lt (by simpa using hx);go_wp2_with fail
   go_ret;refine⟨_,rfl,?_,hb0⟩;rw[HE.out];exact⟨_,_,rfl,Lr,by omega,(λh=>by cases h),by simpa using hli⟩
  have hne:((y:Int)!=0)=true:=by simp;omega
  have hy1:(1:Int)<=(y:Int):=by omega
  have hr2:(x:Int)%(y:Int)=((x%y:Nat):Int):=(Int.natCast_emod x y).symm;have hrl:x%y<y:=Nat.mod_lt _ (by omega);have HG:Hid (Nat.gcd y (x%y)=Nat.gcd x y):=Qd (by rw[Nat.gcd_comm x y,Nat.gcd_rec y x,Nat.gcd_comm]);have HR2:=Qd hr2;generalize x%y=r at*;have hdz:((y:Int)==0)=false:=by simp;omega
  go_wp2_with fail
  go_quiet (fail)
  go_wp2_with fail
  refine⟨⟨y,r,m+nq,World.drewN_drewN _ _ _,hy,by omega,rfl,congrArg (Value.int .u64) HR2.out,Qd (by rw[HG.out];exact H.out)⟩,?_⟩;rw[HR2.out];simp[intOf];omega
theorem Lies.alloc {w:World}{B:Nat}{A:Option Addr}{vs:List Value}(h:Lies w B A vs)(hB:B<=w.heap.size)(o:Obj):Lies (w.alloc o) B A vs:=h.below (Br.alloc hB o)
section
open Go.ChangeShapes Go.WideShapes Go.ChangeAt Go.RowKit
theorem Jr {w:World}{a:Addr}{vs:List Value}(h:∀i v,vs[i]? =some v->w.cell? (a.add i)=some v):Lies w w.heap.size (some a) vs:=by
 cases vs with
 |nil=>exact .inl rfl
 |cons v r=>
  have h0:=h 0 v rfl;obtain⟨b,off,spot⟩:=a;have hs:spot=none:=by simpa [Addr.add] using World.cell?_spot h0
  subst hs;refine .inr ⟨b,off,rfl,World.block_lt_of_cell? w _ (by simpa [Addr.add] using h0),λi u hu=>?_⟩;have:=h i u hu;unfold Addr.add at this
  split at this
  ·rename_i e;subst e;simpa using this
  simpa using this
end
section
open Go.ChangeShapes Go.WideShapes Go.ChangeAt Go.RowKit
end
section
open Go.RowKit
end
end Go.Proofs.YtogjgbmngagimaaGreatDoor
namespace Go.Proofs
open Go.Shelf
def Fc:Go.Shelf.Ren:=⟨λ | 166=>26 | 240=>62 | 276=>102 |n=>n,λ | 70=>52 | 3=>3 | 0=>0 | 4=>4 | 9=>9 | 20=>20 | 72=>55 | 37=>53 | 164=>163 | 5=>5 | 75=>57 | 80=>63 |n=>n,λ |n=>n⟩
theorem Nb:Go.Proofs.Lays.n166 Tryz.prog Fc:={
 mixed:=by kernel_rfl
 f166:=Tryz.func26.trans (congrArg some (by kernel_rfl))
 f240:=Tryz.func62.trans (congrArg some (by kernel_rfl))
 f276:=Tryz.func102.trans (congrArg some (by kernel_rfl))
 t0:=Tryz.underlying0
 a0:=Tryz.isAgg0
 z0:=Tryz.sizeOf0
 v0:=Tryz.zeroValue0
 t3:=Tryz.underlying3
 a3:=Tryz.isAgg3
 z3:=Tryz.sizeOf3
 v3:=Tryz.zeroValue3
 t4:=Tryz.underlying4
 a4:=Tryz.isAgg4
 z4:=Tryz.sizeOf4
 v4:=Tryz.zeroValue4
 t9:=Tryz.underlying9
 a9:=Tryz.isAgg9
 z9:=Tryz.sizeOf9
 v9:=Tryz.zeroValue9
 t20:=Tryz.underlying20
 a20:=Tryz.isAgg20
 z20:=Tryz.sizeOf20
 v20:=Tryz.zeroValue20
 t37:=Tryz.underlying53
 a37:=Tryz.isAgg53
 z37:=Tryz.sizeOf53
 v37:=Tryz.zeroValue53
 t70:=Tryz.underlying52
 a70:=Tryz.isAgg52
 z70:=Tryz.sizeOf52
 v70:=Tryz.zeroValue52
 t72:=Tryz.underlying55
 a72:=Tryz.isAgg55
 z72:=Tryz.sizeOf55
 v72:=Tryz.zeroValue55
 t75:=Tryz.underlying57
 a75:=Tryz.isAgg57
 z75:=Tryz.sizeOf57
 v75:=Tryz.zeroValue57
 t164:=Tryz.underlying163
 a164:=Tryz.isAgg163
 z164:=Tryz.sizeOf163
 v164:=Tryz.zeroValue163}
theorem Jb:Builder.Extra Tryz.prog Fc:={
 sizeBuilder:=by kernel_rfl
 liesBuilder:=by kernel_rfl
 t5:=Tryz.underlying5
 a5:=Tryz.isAgg5
 z5:=Tryz.sizeOf5
 v5:=Tryz.zeroValue5
 infoByte:=by kernel_rfl
 cellsByte:=by kernel_rfl
 sizeByte:=by kernel_rfl
 neB5:=by decide}
namespace YtogjgbmngagimaaGreatDoor
open Go.RowKit
theorem Xd (B b:Nat)(bs:List Value)(s:ByteArray)(w:World)(h:Lib.IsBuilder 55 5 B b bs w)(hlen:bs.length+s.size<=140737488355328)(hBw:B<=w.heap.size):
 Calls Tryz.prog 26 #[.pointer (some ⟨b,0,none⟩),.string s] w λe w'=>e= .returned (.tuple #[.int .i64 s.size,.nilIface])/\(Lib.BuilderAt 55 5 B b (.pointer (some ⟨b,0,none⟩)) (bs++Lib.strCells s) w'/\Below B w w'):=Any.Builder_WriteString Nb Jb B b bs s w h hlen hBw
end YtogjgbmngagimaaGreatDoor
end Go.Proofs
namespace Ar
def Eb (n:Int):List Int->Option Int
 | []=>some n
 |x::r=>if 2048<n*x then none else Eb (n*x) r
def cnt (sh:List Int):Int×Int:=
 if 6<sh.length then(0,7)
 else if sh.any (λx=>decide (x<0)) then(0,3)
 else if sh.any (λx=>decide (2048<x)) then(0,7)
 else if sh.any (λx=>x==0) then(0,0)
 else match Eb 1 sh with
  |some n=>(n,0)
  |none=>(0,7)
theorem Pc {p:Int->Bool}{l:List Int}{k:Nat}(h:k<l.length):(l.take (k+1)).any p=((l.take k).any p||p l[k]):=by
 rw[List.take_succ_eq_append_getElem h,List.any_append];simp
theorem Vm {p:Int->Bool}{l:List Int}{k:Nat}(h:k<l.length)(hp:p l[k]=true):l.any p=true:=List.any_eq_true.2 ⟨_,List.getElem_mem h,hp⟩
theorem Ad {p:Int->Bool}{l:List Int}(h:l.any p=false){k:Nat}(hk:k<l.length):p l[k]=false:=by
 cases e:p l[k]
 ·rfl
 rw[Vm hk e] at h;cases h
theorem Wm {n:Int}{l:List Int}{k:Nat}(h:k<l.length):Eb n (l.drop k)=if 2048<n*l[k] then none else Eb (n*l[k]) (l.drop (k+1)):=by
 rw[List.drop_eq_getElem_cons h,Eb]
theorem Xp {n:Int}{l:List Int}{k:Nat}(h:l.length<=k):Eb n (l.drop k)=some n:=by
 rw[List.drop_eq_nil_of_le h,Eb]
theorem Yl:∀{l:List Int} {n m:Int},(∀x∈l,1<=x)->1<=n->n<=2048->Eb n l=some m->1<=m/\m<=2048
 | [],n,m,_,h1,h2,h=>by rw[Eb] at h;injection h with h;omega
 |x::r,n,m,hx,h1,h2,h=>by
  rw[Eb] at h;by_cases hb:2048<n*x
  ·rw[if_pos hb] at h;cases h
  rw[if_neg hb] at h;have hx1:=hx x List.mem_cons_self;have:1*1<=n*x:=Int.mul_le_mul h1 hx1 (by omega) (by omega);exact Yl (λy hy=>hx y (List.mem_cons_of_mem _ hy)) (by omega) (by omega) h
theorem Faa (sh:List Int):0<=(cnt sh).1/\(cnt sh).1<=2048/\((cnt sh).2=0\/(cnt sh).2=3\/(cnt sh).2=7):=by
 unfold cnt
 split
 ·simp
 split
 ·simp
 split
 ·simp
 split
 ·simp
 rename_i h1 h2 h3 h4;have hx:∀x∈sh,1<=x:=λx hx=>by
  have a2:decide (x<0)=false:=by
   cases e:decide (x<0)
   ·rfl
   exact absurd (List.any_eq_true.2 ⟨x,hx,e⟩) h2
  have a4:(x==0)=false:=by
   cases e:(x==0)
   ·rfl
   exact absurd (List.any_eq_true.2 ⟨x,hx,e⟩) h4
  simp at a2 a4;omega
 cases e:Eb 1 sh with
 |none=>simp
 |some n=>have:=Yl hx (by omega) (by omega) e;simp;omega
def Lc (c:Int):Bool:=decide (0<=c)&&decide (c<=1114111)&&(decide (c<55296)||decide (57343<c))
def Fb:Ba->Bool
 | .mk _ sh [.mk _ k _ _ _ _ _]=>sh.isEmpty&&(k !=2)
 |_=>false
def Mc (n:Bool)(t b:List Nat):Bool:= !n&&t.isEmpty&&b.isEmpty
mutual
def Ga:Nat->Ba->Bool
 |d,.mk _ sh cells=>((cnt sh).2==0)&&((cnt sh).1==(cells.length:Int))&&Ma d cells
def Ma:Nat->List Fa->Bool
 |_,[]=>true
 |d,c::r=>Ia d c&&Ma d r
def Ia:Nat->Fa->Bool
 |d,.mk _ k n t b c ins=>if k=0 then(c==0)&&ins.isEmpty&&Rt.right ⟨n,t,b⟩ else if k=1 then Mc n t b&&ins.isEmpty&&Lc c else(k==2)&&Mc n t b&&(c==0)&&decide (0<d)&&Va d ins
def Va:Nat->List Ba->Bool
 |d,[a]=> !Fb a&&Ga (d-1) a
 |_,_=>false
end
theorem Lh {d:Nat}{cs:List Fa}{k:Nat}(h:k<cs.length):Ma d (cs.drop k)=(Ia d cs[k]&&Ma d (cs.drop (k+1))):=by
 rw[List.drop_eq_getElem_cons h,Ma]
theorem Ii {d:Nat}{cs:List Fa}{k:Nat}(h:cs.length<=k):Ma d (cs.drop k)=true:=by
 rw[List.drop_eq_nil_of_le h,Ma]
end Ar
