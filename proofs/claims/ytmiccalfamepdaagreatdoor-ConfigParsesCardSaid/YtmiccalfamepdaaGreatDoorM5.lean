/- Texts of this proof, joined. -/
import Derived.Test.YtmiccalfamepdaaGreatDoorM4
import Derived.Lib.BitFns
import Derived.ProofKit
import Derived.OpenShut
import Derived.ChangeOld
set_option linter.all false
set_option maxHeartbeats 8000000
set_option maxRecDepth 100000
namespace Nt
def PutAt (a d cur:List Nat)(k c:Nat):Prop:=
 cur.length=a.length/\Ok cur/\val (cur.take k)+c*4294967296^k=val (a.take k)+val (d.take k)/\cur.drop k=a.drop k
theorem put_start {a d:List Nat}(h:Ok a):PutAt a d a 0 0:=⟨rfl,h,by simp[val],rfl⟩
theorem put_get {a d cur:List Nat}{k c:Nat}(h:PutAt a d cur k c)(hk:k<a.length):cur[k]? =some a[k]:=by
 have:(cur.drop k)[0]? =(a.drop k)[0]? :=by rw[h.2.2.2]
 rw[List.getElem?_drop,List.getElem?_drop,Nat.add_zero,List.getElem?_eq_getElem hk] at this;exact this
theorem put_step {a d cur:List Nat}{k c s c':Nat}(h:PutAt a d cur k c)(hk:k<a.length)(hd:k<d.length)(hs:s<4294967296)(e:a[k]+d[k]+c=s+4294967296*c'):PutAt a d (cur.set k s) (k+1) c':=by
 obtain⟨h1,h2,h3,h4⟩:=h;refine⟨by simpa using h1,Ue h2 hs,?_,?_⟩
 ·rw[Hf (by omega),val_take_succ hk,val_take_succ hd,Nat.pow_succ]
  generalize 4294967296^k=p at*;generalize a[k]=x at*;generalize d[k]=y at*;generalize val (cur.take k)=V at*;generalize val (d.take k)=D at*
  grind
 rw[drop_set];have:=congrArg (List.drop 1) h4;rw[List.drop_drop,List.drop_drop] at this;exact this
theorem put_end {a d cur:List Nat}{c s c':Nat}(h:PutAt a d cur d.length c)(hl:a.length=d.length+1)(hs:s<4294967296)(e:a[d.length]+c=s+4294967296*c'):
 (cur.set d.length s).length=a.length/\Ok (cur.set d.length s)/\val (cur.set d.length s)+c'*4294967296^(d.length+1)=val a+val d:=by
 obtain⟨h1,h2,h3,h4⟩:=h;refine⟨by simpa using h1,Ue h2 hs,?_⟩;have hc:d.length<cur.length:=by omega
 have e1:(cur.set d.length s).take (d.length+1)=cur.set d.length s:=List.take_of_length_le (by rw[List.length_set];omega);have f:a.take (d.length+1)=a:=List.take_of_length_le (by omega);have k1:=Hf (x:=s) hc;rw[e1] at k1;have k2:=val_take_succ (l:=a) (i:=d.length) (by omega);rw[f] at k2;rw[List.take_length] at h3;rw[k1,k2,Nat.pow_succ];generalize 4294967296^d.length=p at*;generalize a[d.length]=x at*;generalize val (cur.take d.length)=V at*
 grind
def UpAt (l:List Nat)(s:Nat)(cur:List Nat)(k c:Nat):Prop:=
 cur.length=l.length+1/\Ok cur/\c<2^s/\val (cur.take k)+c*4294967296^k=val (l.take k)*2^s
theorem up_start (l:List Nat)(s:Nat):UpAt l s (List.replicate (l.length+1) 0) 0 0:=
 ⟨by simp,λd hd=>by rw[List.mem_replicate] at hd;omega,Nat.two_pow_pos s,by simp[val]⟩
theorem up_carry {x s c:Nat}(hx:x<4294967296)(hc:c<2^s):(x*2^s+c)/4294967296<2^s:=by
 rw[Nat.div_lt_iff_lt_mul (by omega)];have:(x+1)*2^s<=4294967296*2^s:=Nat.mul_le_mul_right _ hx;rw[Nat.succ_mul] at this;rw[Nat.mul_comm (2^s)];omega
theorem up_step {l cur:List Nat}{s k c:Nat}(hl:Ok l)(h:UpAt l s cur k c)(hk:k<l.length):UpAt l s (cur.set k ((l[k]*2^s+c)%4294967296)) (k+1) ((l[k]*2^s+c)/4294967296):=by
 obtain⟨h1,h2,h3,h4⟩:=h;have hx:=ok_get hl hk;refine⟨by simpa using h1,Ue h2 (Nat.mod_lt _ (by omega)),up_carry hx h3,?_⟩;rw[Hf (by omega),val_take_succ hk,Nat.pow_succ];have e:=Nat.mod_add_div (l[k]*2^s+c) 4294967296;generalize(l[k]*2^s+c)%4294967296=m at*;generalize(l[k]*2^s+c)/4294967296=t at*;generalize 4294967296^k=p at*;generalize l[k]=x at*;generalize val (cur.take k)=V at*;generalize 2^s=q at*
 grind
theorem up_end {l cur:List Nat}{s c:Nat}(hs:s<=32)(h:UpAt l s cur l.length c):Ok (cur.set l.length c)/\(cur.set l.length c).length=l.length+1/\val (cur.set l.length c)=val l*2^s:=by
 obtain⟨h1,h2,h3,h4⟩:=h;have hp:2^s<=2^32:=Nat.pow_le_pow_right (by omega) hs;refine⟨Ue h2 (by omega),by simpa using h1,?_⟩;have e1:(cur.set l.length c).take (l.length+1)=cur.set l.length c:=List.take_of_length_le (by rw[List.length_set];omega);have k1:=Hf (x:=c) (show l.length<cur.length by omega);rw[e1] at k1;rw[List.take_length] at h4;rw[k1,<-h4,Nat.mul_comm]
def DownAt (l:List Nat)(s:Nat)(cur:List Nat)(k ab:Nat):Prop:=
 cur.length=l.length/\Ok cur/\ab<4294967296/\ab=val (l.drop k)%4294967296/\val (cur.drop k)=val (l.drop k)/2^s
theorem down_start (l:List Nat)(s:Nat):DownAt l s (List.replicate l.length 0) l.length 0:=
 ⟨by simp,λd hd=>by rw[List.mem_replicate] at hd;omega,by omega,by simp[val],by simp[val]⟩
theorem Vca {x V s p:Nat}(hx:x<4294967296)(hs:4294967296=2^s*p):(x+4294967296*V)/2^s=(V%4294967296*4294967296+x)/2^s%4294967296+4294967296*(V/2^s):=by
 have hq:=Nat.two_pow_pos s;generalize 2^s=q at*;have e1:=Nat.div_add_mod V q;have r1:=Nat.mod_lt V hq;generalize V/q=Q at*;generalize V%q=R at*;have e2:=Nat.div_add_mod V 4294967296;generalize V/4294967296=m at*;generalize V%4294967296=a at*;have hb:(x+4294967296*R)/q<4294967296:=by
  rw[Nat.div_lt_iff_lt_mul hq];have:(R+1)*4294967296<=q*4294967296:=Nat.mul_le_mul_right _ r1;rw[Nat.succ_mul] at this;rw[Nat.mul_comm 4294967296 q];omega
 have h1:(x+4294967296*V)/q=(x+4294967296*R)/q+4294967296*Q:=by
  rw[<-e1,show x+4294967296*(q*Q+R)=x+4294967296*R+q*(4294967296*Q) by grind,Nat.add_mul_div_left _ _ hq]
 have h2:(a*4294967296+x)/q+4294967296*(p*m)=(x+4294967296*R)/q+4294967296*Q:=by
  rw[<-h1,<-e2,show x+4294967296*(4294967296*m+a)=a*4294967296+x+4294967296*4294967296*m by grind];have:4294967296*4294967296*m=q*(4294967296*(p*m)):=by
   rw[Nat.mul_left_comm q,<-Nat.mul_assoc q,<-hs,Nat.mul_assoc]
  rw[this,Nat.add_mul_div_left _ _ hq]
 rw[h1];have h3:(a*4294967296+x)/q%4294967296=(x+4294967296*R)/q:=by
  generalize(a*4294967296+x)/q=u at*;generalize(x+4294967296*R)/q=v at*;generalize p*m=t at*;omega
 rw[h3]
theorem Lb {l:List Nat}{k:Nat}(h:k<l.length):val (l.drop k)=l[k]+4294967296*val (l.drop (k+1)):=by
 rw[List.drop_eq_getElem_cons h,val]
theorem down_step {l cur:List Nat}{s k ab:Nat}(hl:Ok l)(hs:s<=32)(h:DownAt l s cur (k+1) ab)(hk:k<l.length):DownAt l s (cur.set k ((ab*4294967296+l[k])/2^s%4294967296)) k l[k]:=by
 obtain⟨h1,h2,h3,h4,h5⟩:=h;have hx:=ok_get hl hk;refine⟨by simpa using h1,Ue h2 (Nat.mod_lt _ (by omega)),hx,?_,?_⟩
 ·rw[Lb hk];omega
 have hk':k<(cur.set k ((ab*4294967296+l[k])/2^s%4294967296)).length:=by rw[List.length_set];omega
 rw[Lb hk,Lb hk',List.getElem_set_self,drop_set,h5,h4];refine(Vca (p:=2^(32-s)) hx ?_).symm;rw[<-Nat.pow_add,show s+(32-s)=32 by omega]
theorem down_end {l cur:List Nat}{s ab:Nat}(h:DownAt l s cur 0 ab):val cur=val l/2^s:=by
 have:=h.2.2.2.2
 simpa using this
structure LongAt (X D n:Nat) (cur quo:List Nat) (k:Nat):Prop where
 ok:Ok cur
 okq:Ok quo
 len:cur.length=quo.length+n
 sum:val cur+D*val (quo.drop k)*4294967296^k=X
 lt:val (cur.drop k)<D
 hi:D<4294967296^n
theorem LongAt.window {X D n k:Nat}{cur quo:List Nat}(h:LongAt X D n cur quo (k+1))(hk:k<quo.length):
 ((cur.drop k).take (n+1)).length=n+1/\Ok ((cur.drop k).take (n+1))/\val ((cur.drop k).take (n+1))<4294967296*D/\val ((cur.drop k).take (n+1))=val (cur.drop k)/\
 cur=cur.take k++((cur.drop k).take (n+1)++cur.drop (k+(n+1)))/\(cur.take k).length=k:=by
 have hl:=h.len;have h1:val (cur.drop k)<4294967296*D:=by
  have hkc:k<cur.length:=by omega
  rw[Lb hkc];have:=ok_get h.ok hkc;have:=h.lt;omega
 have h2:val (cur.drop k)=val ((cur.drop k).take (n+1))+4294967296^(n+1)*val ((cur.drop k).drop (n+1)):=Vc _ _ (by rw[List.length_drop];omega);have h3:val ((cur.drop k).drop (n+1))=0:=by
  rcases Nat.eq_zero_or_pos (val ((cur.drop k).drop (n+1))) with h0 |h0
  ·exact h0
  exfalso
  have:4294967296^(n+1)*1<=4294967296^(n+1)*val ((cur.drop k).drop (n+1)):=Nat.mul_le_mul_left _ h0;have hh:=h.hi;rw[Nat.pow_succ] at this h2;generalize 4294967296^n=p at*;omega
 rw[h3,Nat.mul_zero,Nat.add_zero] at h2;refine⟨by rw[List.length_take,List.length_drop];omega,ok_take (T7 h.ok _) _,by omega,h2.symm,?_,by rw[List.length_take];omega⟩;rw[<-List.drop_drop,List.take_append_drop,List.take_append_drop]
theorem LongAt.step {X D n k q:Nat}{cur quo win:List Nat}(h:LongAt X D n cur quo (k+1))(hk:k<quo.length)(hwl:win.length=n+1)(hwo:Ok win)
 (hq:q<4294967296) (hlt:val win<D) (hv:val win+q*D=val ((cur.drop k).take (n+1))):LongAt X D n (cur.take k++(win++cur.drop (k+(n+1)))) (quo.set k q) k:=by
 obtain⟨w1,w2,w3,w4,w5,w6⟩:=h.window hk;have hl:=h.len;have hz:val (cur.drop (k+(n+1)))=0:=by
  have h2:val (cur.drop k)=val ((cur.drop k).take (n+1))+4294967296^(n+1)*val ((cur.drop k).drop (n+1)):=Vc _ _ (by rw[List.length_drop];omega);rw[List.drop_drop,w4] at h2;have h0:4294967296^(n+1)*val (cur.drop (k+(n+1)))=0:=by omega
  rcases Nat.mul_eq_zero.1 h0 with h0 |h0
  ·have:=Nat.pow_pos (a:=4294967296) (n:=n+1) (by omega);omega
  exact h0
 have hdrop:(cur.take k++(win++cur.drop (k+(n+1)))).drop k=win++cur.drop (k+(n+1)):=by
  rw[List.drop_append_of_le_length (by omega),List.drop_of_length_le (by omega),List.nil_append]
 refine⟨?_,Ue h.okq hq,?_,?_,?_,h.hi⟩
 ·intro d hd
  rw[List.mem_append,List.mem_append] at hd;rcases hd with hd |hd |hd
  ·exact ok_take h.ok _ d hd
  ·exact hwo d hd
  exact T7 h.ok _ d hd
 ·rw[List.length_append,List.length_append,List.length_set,List.length_drop];omega
 ·have hs:=h.sum
  have e1:val cur=val (cur.take k)+4294967296^k*val (cur.drop k):=Vc _ _ (by omega);rw[Lb (l:=quo.set k q) (by rw[List.length_set];exact hk),List.getElem_set_self,drop_set,Zb,Zb,hz,w6];rw[e1,<-w4,<-hv,Nat.pow_succ] at hs;generalize 4294967296^k=p at*;generalize val (quo.drop (k+1))=Q at*;generalize val win=W at*;generalize val (cur.take k)=V at*;rw[Nat.mul_zero,Nat.add_zero];clear h w1 w2 w3 w4 w5 hz hdrop e1
  grind
 rw[hdrop,Zb,hz];omega
theorem LongAt.start {x y n s:Nat}{cur:List Nat}{m:Nat}(ok:Ok cur)(hv:val cur=x*2^s)(hl:cur.length=m+1)(hn:n<=m)(hn1:1<=n)(hx:x<4294967296^m)(hy:4294967296^(n-1)<=y)(hD:y*2^s<4294967296^n):
 LongAt (x*2^s) (y*2^s) n cur (List.replicate (m-n+1) 0) (m-n+1):=by
 refine⟨ok,λd hd=>by rw[List.mem_replicate] at hd;omega,by simp;omega,?_,?_,hD⟩
 ·rw[List.drop_of_length_le (by simp),val,Nat.mul_zero,Nat.zero_mul,hv];rfl
 have h2:val cur=val (cur.take (m-n+1))+4294967296^(m-n+1)*val (cur.drop (m-n+1)):=Vc _ _ (by omega);have h3:x*2^s<y*2^s*4294967296^(m-n+1):=by
  have e:4294967296^m=4294967296^(n-1)*4294967296^(m-n+1):=by rw[<-Nat.pow_add,show n-1+(m-n+1)=m by omega]
  have k1:4294967296^(n-1)*4294967296^(m-n+1)<=y*4294967296^(m-n+1):=Nat.mul_le_mul_right _ hy;have k2:x<y*4294967296^(m-n+1):=by omega
  have:=Nat.mul_lt_mul_of_pos_right k2 (Nat.two_pow_pos s)
  grind
 have h4:4294967296^(m-n+1)*val (cur.drop (m-n+1))<4294967296^(m-n+1)*(y*2^s):=by
  rw[Nat.mul_comm _ (y*2^s)];omega
 exact Nat.lt_of_mul_lt_mul_left h4
theorem LongAt.done {x y n s:Nat}{cur quo:List Nat}(h:LongAt (x*2^s) (y*2^s) n cur quo 0)(hy:0<y):
 val quo=x/y/\val (cur.take n)/2^s=x%y:=by
 have h1:=h.sum;have h2:=h.lt;rw[List.drop_zero] at h1 h2;rw[Nat.pow_zero,Nat.mul_one] at h1;have hp:=Nat.two_pow_pos s;have hD:0<y*2^s:=Nat.mul_pos hy hp;have hq:val quo=x/y:=by
  rw[<-Nat.mul_div_mul_right x y hp,<-h1,Nat.add_mul_div_left _ _ hD,Nat.div_eq_of_lt h2,Nat.zero_add]
 have hr:val cur=x%y*2^s:=by
  rw[<-Nat.mul_mod_mul_right,<-h1,Nat.add_mul_mod_self_left,Nat.mod_eq_of_lt h2]
 have ht:val (cur.take n)=val cur:=by
  have h3:val cur=val (cur.take n)+4294967296^n*val (cur.drop n):=Vc _ _ (by have:=h.len;omega);rcases Nat.eq_zero_or_pos (val (cur.drop n)) with h0 |h0
  ·rw[h0,Nat.mul_zero,Nat.add_zero] at h3;exact h3.symm
  exfalso
  have:4294967296^n*1<=4294967296^n*val (cur.drop n):=Nat.mul_le_mul_left _ h0;have:=h.hi;omega
 refine⟨hq,?_⟩;rw[ht,hr,Nat.mul_div_cancel _ hp]
theorem round_ok {R D g b V p:Nat}(hg:R/D<=g)(hg2:g<=R/D+1)(hD:0<D)(hR:R<p)(hV:V<p)(e:V+g*D=R+b*p)(hb:b<=1)(hDp:D<p):
 (b=0->g=R/D/\V<D/\V+g*D=R)/\(b=1->g=R/D+1/\∀W e',W<p->W+e'*p=V+D->W<D/\W+(g-1)*D=R):=by
 have h1:=Nat.div_add_mod R D;have h2:=Nat.mod_lt R hD;rw[Nat.mul_comm] at h1;have hcase:g=R/D\/g=R/D+1:=by omega
 generalize R/D=q at*;generalize R%D=r at*;rcases hcase with rfl |rfl
 ·have hb0:b=0:=by
   rcases Nat.eq_zero_or_pos b with h |h
   ·exact h
   have:b=1:=by omega
   subst this;omega
  subst hb0;refine⟨λ_=>⟨rfl,by omega,by omega⟩,λh=>by omega⟩
 rw[Nat.succ_mul] at e;refine⟨λh=>by subst h;omega,λh=>?_⟩;subst h;refine⟨rfl,λW e' hW he=>?_⟩;rw[Nat.add_sub_cancel];have:e'=1:=by
  rcases Nat.lt_or_ge e' 1 with h |h
  ·have:e'=0:=by omega
   subst this;omega
  rcases Nat.lt_or_ge e' 2 with h' |h'
  ·omega
  exfalso
  have:2*p<=e'*p:=Nat.mul_le_mul_right _ h';omega
 subst this;omega
end Nt
namespace Go.Proofs.YtmiccalfamepdaaGreatDoor
open Go.RowKit
theorem Blk.mid {w:World}{g:Nat}{t:TypeId}{pre post:List Value}{l:List Nat}(h:Blk w g t (pre++(U l++post))){k x:Nat}(hk:l[k]? =some x):w.cell? ⟨g,pre.length+k,none⟩=some (.int .u32 (x:Int)):=by
 apply h.cell
 have hkl:k<l.length:=by
  rcases Nat.lt_or_ge k l.length with h |h
  ·exact h
  rw[List.getElem?_eq_none h] at hk;cases hk
 rw[List.getElem?_append_right (by omega),Nat.add_sub_cancel_left,List.getElem?_append_left (by rw[Nd];omega),U,List.getElem?_map,hk];rfl
theorem Blk.mid_set {w:World}{g:Nat}{t:TypeId}{pre post:List Value}{l:List Nat}(h:Blk w g t (pre++(U l++post))){k:Nat}(hk:k<l.length)(x:Nat):Blk (w.setCell ⟨g,pre.length+k,none⟩ (.int .u32 (x:Int))) g t (pre++(U (l.set k x)++post)):=by
 have:=h.set_ (pre.length+k) (.int .u32 (x:Int));rw[List.set_append_right _ _ (by omega),Nat.add_sub_cancel_left,List.set_append_left _ _ (by rw[Nd];omega),show(U l).set k (.int .u32 (x:Int))=U (l.set k x) from List.map_set.symm] at this;exact this
theorem M6 (G c c' T:Nat)(A':Option Addr)(pre post:List Value)(a d:List Nat)(w:World)(hblk:Blk w G 139 (pre++(U a++post)))(hy:Lies w G A' (U d))(ha:Nt.Ok a)(hd:Nt.Ok d)(hl:a.length=d.length+1)(hc:d.length+1<=c)(hc':d.length<=c')(hm:c<=9223372036854775807)(hm':c'<=9223372036854775807)(hT:T<4294967296)(hs:d.length<=1000000):
 Calls Tryz.prog 221 #[.slice (some ⟨G,pre.length,none⟩) (d.length+1) c,.slice A' d.length c',.int .u64 (T:Int)] w λe w'=>∃(cur:List Nat) (b:Nat),e= .returned (.bool (decide (b=1)))/\b<=1/\Blk w' G 139 (pre++(U cur++post))/\Hid (cur.length=a.length/\Nt.Ok cur/\Nt.val cur+T*Nt.val d=Nt.val a+b*4294967296^(d.length+1))/\w.grownBy w' (some G):=by
 have HL:=Qd hl;have OA:=Qd ha;have OD:=Qd hd;have LY:=Qd hy;have HG:=hblk.lt;clear ha hd hy hl;have BM:=Qd (λ(wr:World) (l:List Nat) (h:Blk wr G 139 (pre++(U l++post))) (k x:Nat) (hk:l[k]? =some x)=>h.mid hk);have BS:=Qd (λ(wr:World) (l:List Nat) (h:Blk wr G 139 (pre++(U l++post))) (k:Nat) (hk:k<l.length) (x:Nat)=>h.mid_set hk x);generalize pre.length=j at*;go_enter Tryz.func221,Tryz.ntmps221
 go_wp2_with fail
 go_loopw [7,8,15] (λcv bv i wr=>∃(k cy b:Nat) (cur:List Nat),k<=d.length/\cy<4294967296/\b<=1/\i= .int .i64 (k:Int)/\cv= .int .u64 (cy:Int)/\bv= .int .u32 (b:Int)/\Blk wr G 139 (pre++(U cur++post))/\w.grownBy wr (some G)/\Hid (Nt.TakeAt a d T cur k cy b)) (λ_ _ i _=>d.length-(intOf i).toNat)
 case atStart=>exact⟨0,0,0,a,Nat.zero_le _,by omega,by omega,rfl,rfl,rfl,hblk,World.grownBy.refl _ _,Qd (Nt.take_start OA.out)⟩
 case round=>
  clear hblk;obtain⟨k,cy,b,cur,hk,hcy,hb1,rfl,rfl,rfl,hblk,hgr,H⟩:=hrel;have hsz:=hblk.lt;by_cases hlt:k<d.length
  ·have hka:k<a.length:=by rw[HL.out];omega
   obtain⟨b2,off2,rfl,hb2,hc2⟩:=(LY.out.grown (Nat.le_of_lt HG) hgr (λg e=>by injection e with e;omega)).limb hlt;have hyb:=Nt.ok_get OD.out hlt;have hxb:=Nt.ok_get OA.out hka;have hcell:=BM.out _ _ hblk k _ (Nt.take_get H.out hka);have hfz:=hblk.frozen (j+k);have BSK:=Qd (BS.out _ _ hblk k (by rw[H.out.1];exact hka));have ST:=Qd (λs cy' b' t=>Nt.take_step (s:=s) (cy':=cy') (b':=b') (t:=t) H.out hka hlt);have hmb:=Nt.mul_bound hT hyb;generalize d[k]=y at*;generalize a[k]=x at*;obtain⟨p,hp⟩:∃p:Nat,p=T*y:=⟨_,rfl⟩;have hpi:(T:Int)*(y:Int)=(p:Int):=by rw[hp,Int.natCast_mul]
   have hpl:p<=18446744065119617025:=by rw[hp];exact hmb
   have HPN:=Qd hp;clear hp hmb hblk hka;have em:((p:Int)+(cy:Int))%4294967296=(((p+cy)%4294967296:Nat):Int):=by omega
   have hsub:=Qd (λw=>Bw x ((p+cy)%4294967296) b w hxb (by omega) hb1);rw[<-em] at hsub;clear em;go_wp2_with (go_at_call 230;refine(hsub.out _).mono ?_;rintro e w' ⟨s,b',rfl,hs,hd1,HE,rfl⟩)
   go_roundw
   case rel=>exact⟨k+1,(p+cy)/4294967296,b',cur.set k s,by omega,by omega,hd1,by go_num,congrArg (Value.int .u64) (by omega),rfl,BSK.out s,Dh hgr _ _,Qd (ST.out s _ b' ((p+cy)%4294967296) hs (by rw[<-HPN.out];omega) (by have:=HE.out;omega))⟩
   case measure=>simp[intOf];omega
  obtain rfl:k=d.length:=by omega
  have hka:d.length<a.length:=by rw[HL.out];omega
  have hxb:=Nt.ok_get OA.out hka;have hcell:=BM.out _ _ hblk _ _ (Nt.take_get H.out hka);have hfz:=hblk.frozen (j+d.length);have BSK:=Qd (BS.out _ _ hblk d.length (by rw[H.out.1];exact hka));have EN:=Qd (λs b'=>Nt.take_end (s:=s) (b':=b') H.out HL.out);generalize hx:a[d.length]=x at hxb hcell;have HX:=Qd hx;clear hblk hx;have hsub:=Qd (λw=>Bw x cy b w hxb hcy hb1);go_wp2_with (go_at_call 230;refine(hsub.out _).mono ?_;rintro e w' ⟨s,b',rfl,hs,hd1,HE,rfl⟩)
  go_ret;refine⟨cur.set d.length s,b',Aa ?_,hd1,BSK.out s,Qd (EN.out s b' hs (by rw[HX.out];exact HE.out)),Dh hgr _ _⟩;rcases(show b'=0\/b'=1 by omega) with rfl |rfl<;>rfl
theorem N6 (G c c':Nat)(A':Option Addr)(pre post:List Value)(a d:List Nat)(w:World)(hblk:Blk w G 139 (pre++(U a++post)))(hy:Lies w G A' (U d))(ha:Nt.Ok a)(hd:Nt.Ok d)(hl:a.length=d.length+1)(hc:d.length+1<=c)(hc':d.length<=c')(hm:c<=9223372036854775807)(hm':c'<=9223372036854775807)(hs:d.length<=1000000):
 Calls Tryz.prog 222 #[.slice (some ⟨G,pre.length,none⟩) (d.length+1) c,.slice A' d.length c'] w λe w'=>∃(cur:List Nat) (b:Nat),e= .returned (.tuple #[])/\Blk w' G 139 (pre++(U cur++post))/\Hid (cur.length=a.length/\Nt.Ok cur/\Nt.val cur+b*4294967296^(d.length+1)=Nt.val a+Nt.val d)/\w.grownBy w' (some G):=by
 have HL:=Qd hl;have OA:=Qd ha;have OD:=Qd hd;have LY:=Qd hy;have HG:=hblk.lt;clear ha hd hy hl;have BM:=Qd (λ(wr:World) (l:List Nat) (h:Blk wr G 139 (pre++(U l++post))) (k x:Nat) (hk:l[k]? =some x)=>h.mid hk);have BS:=Qd (λ(wr:World) (l:List Nat) (h:Blk wr G 139 (pre++(U l++post))) (k:Nat) (hk:k<l.length) (x:Nat)=>h.mid_set hk x);generalize pre.length=j at*;go_enter Tryz.func222,Tryz.ntmps222
 go_wp2_with fail
 go_loopw [4,9] (λbv i wr=>∃(k b:Nat) (cur:List Nat),k<=d.length/\b<=1/\i= .int .i64 (k:Int)/\bv= .int .u32 (b:Int)/\Blk wr G 139 (pre++(U cur++post))/\w.grownBy wr (some G)/\Hid (Nt.PutAt a d cur k b)) (λ_ i _=>d.length-(intOf i).toNat)
 case atStart=>exact⟨0,0,a,Nat.zero_le _,by omega,rfl,rfl,hblk,World.grownBy.refl _ _,Qd (Nt.put_start OA.out)⟩
 case round=>
  clear hblk;obtain⟨k,b,cur,hk,hb1,rfl,rfl,hblk,hgr,H⟩:=hrel;have hsz:=hblk.lt;by_cases hlt:k<d.length
  ·have hka:k<a.length:=by rw[HL.out];omega
   obtain⟨b2,off2,rfl,hb2,hc2⟩:=(LY.out.grown (Nat.le_of_lt HG) hgr (λg e=>by injection e with e;omega)).limb hlt;have hyb:=Nt.ok_get OD.out hlt;have hxb:=Nt.ok_get OA.out hka;have hcell:=BM.out _ _ hblk k _ (Nt.put_get H.out hka);have hfz:=hblk.frozen (j+k);have BSK:=Qd (BS.out _ _ hblk k (by rw[H.out.1];exact hka));have ST:=Qd (λs c'=>Nt.put_step (s:=s) (c':=c') H.out hka hlt);generalize d[k]=y at*;generalize a[k]=x at*;clear hblk hka;have hadd:=Qd (λw=>Tca x y b w hxb hyb hb1);go_wp2_with (go_at_call 231;refine(hadd.out _).mono ?_;rintro e w' ⟨s,b',rfl,hs,hd1,HE,rfl⟩)
   go_roundw
   case rel=>exact⟨k+1,b',cur.set k s,by omega,hd1,by go_num,rfl,BSK.out s,Dh hgr _ _,Qd (ST.out s b' hs HE.out)⟩
   case measure=>simp[intOf];omega
  obtain rfl:k=d.length:=by omega
  have hka:d.length<a.length:=by rw[HL.out];omega
  have hxb:=Nt.ok_get OA.out hka;have hcell:=BM.out _ _ hblk _ _ (Nt.put_get H.out hka);have hfz:=hblk.frozen (j+d.length);have BSK:=Qd (BS.out _ _ hblk d.length (by rw[H.out.1];exact hka));have EN:=Qd (λs b'=>Nt.put_end (s:=s) (c':=b') H.out HL.out);generalize hx:a[d.length]=x at hxb hcell;have HX:=Qd hx;clear hblk hx;have em:((x:Int)+(b:Int))%4294967296=(((x+b)%4294967296:Nat):Int):=by omega
  have EM:=Qd em;clear em;go_wp2_with fail
  rw[EM.out];go_end0
  refine⟨cur.set d.length ((x+b)%4294967296),(x+b)/4294967296,rfl,BSK.out _,Qd (EN.out _ _ (by omega) (by rw[HX.out];omega)),Dh hgr _ _⟩
theorem Vka {x s c:Nat}(hx:x<4294967296)(hs:s<32)(hc:c<2^s):bits BinOp.or IntKind.u64 (IntKind.u64.wrap ((x:Int)*2^s)) (c:Int)=((x*2^s+c:Nat):Int):=by
 have hp:2^s<=2147483648:=Nat.pow_le_pow_right (n:=2) (by omega) (show s<=31 by omega);have h1:x*2^s<=4294967295*2147483648:=Nat.mul_le_mul (by omega) hp;have e:(x:Int)*2^s=((x*2^s:Nat):Int):=by rw[Int.natCast_mul,Int.natCast_pow];rfl
 rw[e,IntKind.wrap_u64,Int.emod_eq_of_lt (by omega) (by omega),u64_or_nat _ _ (by omega) (by omega),nat_join s _ _ (Nat.mul_mod_left _ _) hc]
theorem Wca (A:Option Addr)(c B s:Nat)(l:List Nat)(w:World)(hx:Lies w B A (U l))(hB:B<=w.heap.size)(ho:Nt.Ok l)(hc:l.length<=c)(hm:c<=9223372036854775807)(hs:l.length<=1000000)(hs32:s<32):
 Calls Tryz.prog 219 #[.slice A l.length c,.int .i64 (s:Int)] w λe w'=>∃cur:List Nat,e= .returned (.slice (some ⟨w.heap.size,0,none⟩) (l.length+1) (l.length+1))/\Blk w' w.heap.size 139 (U cur)/\Hid (Nt.Ok cur/\cur.length=l.length+1/\Nt.val cur=Nt.val l*2^s)/\Below w.heap.size w w':=by
 obtain⟨i0,hi,hz0,hz1,hz2⟩:=info_parts Mc;have OL:=Qd ho;have LX:=Qd (hx.more hB);clear ho hx hB;go_enter Tryz.func219,Tryz.ntmps219
 go_wp2_with (at_make;refine Sb _ rfl _ _ 81 rfl 139 i0 (.int .u32 0) Tryz.underlying81 hi hz0 hz1 rfl .i64 .i64 _ _ (l.length+1) (l.length+1) rfl rfl (by go_num) (by go_num) Lr (by rw[hz2];omega) (by omega) w.heap.size w Br Lr ?_;intro w1 hblk1 hb1 hb1' hlt1)
 have hblk0:Blk w1 w.heap.size 139 (U (List.replicate (l.length+1) 0)):=by simpa [U] using hblk1
 clear hblk1 hb1' hlt1;go_loopw [6,16] (λcv i wr=>∃(k cy:Nat) (cur:List Nat),k<=l.length/\cy<2^s/\i= .int .i64 (k:Int)/\cv= .int .u64 (cy:Int)/\Blk wr w.heap.size 139 (U cur)/\Below w.heap.size w wr/\Hid (Nt.UpAt l s cur k cy)) (λ_ i _=>l.length-(intOf i).toNat)
 case atStart=>exact⟨0,0,_,Nat.zero_le _,Nat.two_pow_pos s,rfl,rfl,hblk0,hb1,Qd (Nt.up_start l s)⟩
 case round=>
  clear hblk0 hb1;obtain⟨k,cy,cur,hk,hcy,rfl,rfl,hblk,hbel,H⟩:=hrel;have hsz:=hblk.lt;have hcl:cur.length=l.length+1:=H.out.1;by_cases hlt:k<l.length
  ·obtain⟨b2,off2,rfl,hb2,hc2⟩:=(LX.out.below hbel).limb hlt
   have hxb:=Nt.ok_get OL.out hlt;have hcell:wr.cell? ⟨w.heap.size,k,none⟩=some (.int .u32 ((cur[k]:Nat):Int)):=hblk.cell (by rw[U,List.getElem?_map,List.getElem?_eq_getElem (by omega)];rfl);have hfz:=hblk.frozen k;have ST:=Qd (Nt.up_step OL.out H.out hlt);have UC:=Qd (Nt.up_carry hxb hcy);have BS:Hid (∀s:Nat,Blk (wr.setCell ⟨w.heap.size,k,none⟩ (.int .u32 (s:Int))) w.heap.size 139 (U (cur.set k s))):=Qd (λs=>by
    have:=hblk.set_ k (.int .u32 (s:Int));rw[show(U cur).set k (.int .u32 (s:Int))=U (cur.set k s) from List.map_set.symm] at this;exact this)
   generalize cur[k]=o at hcell;generalize l[k]=x at*;clear hblk;have HSO:=Qd (Vka hxb hs32 hcy);have hp:2^s<=2147483648:=Nat.pow_le_pow_right (n:=2) (by omega) (show s<=31 by omega);have hmul:x*2^s<=4294967295*2147483648:=Nat.mul_le_mul (by omega) hp;have HP:=Qd (And.intro hp hmul);clear hp hmul hcl;go_wp2_with fail
   rw[HSO.out];have h1:=HP.out;have hcy2:=UC.out;generalize x*2^s+cy=t at*;have e1:((t:Nat):Int)/4294967296=((t/4294967296:Nat):Int):=by omega
   have e2:((t:Nat):Int)%4294967296=((t%4294967296:Nat):Int):=by omega
   rw[e1,e2];refine⟨⟨k+1,t/4294967296,cur.set k (t%4294967296),by omega,hcy2,by go_num,rfl,BS.out _,hbel.setCell Lr _,ST⟩,by simp[intOf];omega⟩
  obtain rfl:k=l.length:=by omega
  have hcell:wr.cell? ⟨w.heap.size,l.length,none⟩=some (.int .u32 ((cur[l.length]:Nat):Int)):=hblk.cell (by rw[U,List.getElem?_map,List.getElem?_eq_getElem (by omega)];rfl);have hfz:=hblk.frozen l.length;have EN:=Qd (Nt.up_end (by omega) H.out);have BS:Hid (∀s:Nat,Blk (wr.setCell ⟨w.heap.size,l.length,none⟩ (.int .u32 (s:Int))) w.heap.size 139 (U (cur.set l.length s))):=Qd (λs=>by
   have:=hblk.set_ l.length (.int .u32 (s:Int));rw[show(U cur).set l.length (.int .u32 (s:Int))=U (cur.set l.length s) from List.map_set.symm] at this;exact this)
  have hcy32:cy<4294967296:=by
   have:2^s<=2^32:=Nat.pow_le_pow_right (by omega) (by omega);omega
  generalize cur[l.length]=o at hcell;clear hblk hcl hcy;go_wp2_with fail
  go_ret;refine⟨cur.set l.length cy,rfl,BS.out cy,Qd EN.out,hbel.setCell Lr _⟩
theorem Zfa (A:Option Addr)(c B s:Nat)(l:List Nat)(w:World)(hx:Lies w B A (U l))(hB:B<=w.heap.size)(ho:Nt.Ok l)(hc:l.length<=c)(hm:c<=9223372036854775807)(hs:l.length<=1000000)(hs32:s<32):
 Calls Tryz.prog 223 #[.slice A l.length c,.int .i64 (s:Int)] w λe w'=>∃v,e= .returned v/\IsRes w' v (Nt.digs (Nt.val l/2^s))/\Below w.heap.size w w':=by
 obtain⟨i0,hi,hz0,hz1,hz2⟩:=info_parts Mc;have OL:=Qd ho;have LX:=Qd (hx.more hB);clear ho hx hB;go_enter Tryz.func223,Tryz.ntmps223
 go_wp2_with (at_make;refine Sb _ rfl _ _ 81 rfl 139 i0 (.int .u32 0) Tryz.underlying81 hi hz0 hz1 rfl .i64 .i64 _ _ l.length l.length rfl rfl (by go_num) (by go_num) Lr (by rw[hz2];omega) (by omega) w.heap.size w Br Lr ?_;intro w1 hblk1 hb1 hb1' hlt1)
 have hblk0:Blk w1 w.heap.size 139 (U (List.replicate l.length 0)):=by simpa [U] using hblk1
 clear hblk1 hb1' hlt1;go_loopw [6,7] (λav i wr=>∃(k ab:Nat) (cur:List Nat),k<=l.length/\ab<4294967296/\i= .int .i64 ((k:Int)-1)/\av= .int .u64 (ab:Int)/\Blk wr w.heap.size 139 (U cur)/\Below w.heap.size w wr/\Hid (Nt.DownAt l s cur k ab)) (λ_ i _=>(intOf i+1).toNat)
 case atStart=>exact⟨l.length,0,_,Lr,by omega,by go_num,rfl,hblk0,hb1,Qd (Nt.down_start l s)⟩
 case round=>
  clear hblk0 hb1;obtain⟨k,ab,cur,hk,hab,rfl,rfl,hblk,hbel,H⟩:=hrel;have hsz:=hblk.lt;rcases k with _ |k
  ·have HE:=Qd (Nt.down_end H.out)
   have HTR:=Ad (some ⟨w.heap.size,0,none⟩) l.length wr.heap.size cur wr hblk.lies H.out.2.1 (by rw[H.out.1];exact Lr) (by omega);rw[H.out.1,HE.out] at HTR;have HT:=Qd HTR;have HQ:=hblk.lies.digs H.out.2.1;have HQL:=Nt.digs_len_le H.out.2.1;rw[HE.out] at HQ HQL;rw[H.out.1] at HQL;have HQ2:=Qd HQ;clear HTR HQ hblk HE;obtain⟨v,hv⟩:∃v,v=Nt.val l/2^s:=⟨_,rfl⟩;rw[<-hv] at HT HQ2 HQL;have HV:=Qd hv;clear hv;go_wp2_with fail
   refine HT.out.mono ?_;rintro e w' ⟨rfl,rfl⟩;go_wp2_with fail
   go_ret;rw[<-HV.out];exact⟨_,rfl,⟨_,_,rfl,Lr,by omega,(λh=>by cases h),HQ2.out⟩,hbel⟩
  have hk1:((k+1:Nat):Int)-1=(k:Int):=by omega
  rw[hk1];clear hk1;have hkl:k<l.length:=by omega
  have hcl:cur.length=l.length:=H.out.1;obtain⟨b2,off2,rfl,hb2,hc2⟩:=(LX.out.below hbel).limb hkl;have hxb:=Nt.ok_get OL.out hkl;have hcell:wr.cell? ⟨w.heap.size,k,none⟩=some (.int .u32 ((cur[k]:Nat):Int)):=hblk.cell (by rw[U,List.getElem?_map,List.getElem?_eq_getElem (by omega)];rfl);have hfz:=hblk.frozen k;have ST:=Qd (Nt.down_step OL.out (by omega) H.out hkl);have BS:Hid (∀s:Nat,Blk (wr.setCell ⟨w.heap.size,k,none⟩ (.int .u32 (s:Int))) w.heap.size 139 (U (cur.set k s))):=Qd (λs=>by
   have:=hblk.set_ k (.int .u32 (s:Int));rw[show(U cur).set k (.int .u32 (s:Int))=U (cur.set k s) from List.map_set.symm] at this;exact this)
  generalize cur[k]=o at hcell;generalize l[k]=x at*;clear hblk hcl;have hj:=Hs (r:=ab) (by omega) hxb;have HE:Hid ((((ab:Int)*4294967296+(x:Int))/2^s%4294967296)=(((ab*4294967296+x)/2^s%4294967296:Nat):Int)):=Qd (by
   rw[Int.natCast_emod,Int.natCast_ediv,Int.natCast_add,Int.natCast_mul,Int.natCast_pow];rfl)
  go_wp2_with fail
  rw[HE.out];refine⟨⟨k,x,_,by omega,hxb,rfl,rfl,BS.out _,hbel.setCell Lr _,ST⟩,by simp[intOf];try omega⟩
end Go.Proofs.YtmiccalfamepdaaGreatDoor
namespace Nt
theorem Aga {l:List Nat}{m:Nat}(h:l.length=m+2):val l=val (l.take m)+4294967296^m*(l[m]+4294967296*l[m+1]):=by
 have e:=Vc l m (by omega);rw[Lb (by omega),Lb (k:=m+1) (by omega),List.drop_of_length_le (show l.length<=m+1+1 by omega),val,Nat.mul_zero] at e;exact e
theorem Bga {l:List Nat}{m:Nat}(h:l.length=m+3):val l=val (l.take m)+4294967296^m*(l[m]+4294967296*(l[m+1]+4294967296*l[m+2])):=by
 have e:=Vc l m (by omega);rw[Lb (by omega),Lb (k:=m+1) (by omega),Lb (k:=m+1+1) (by omega),List.drop_of_length_le (show l.length<=m+1+1+1 by omega),val,Nat.mul_zero] at e;exact e
theorem Vg {l:List Nat}(h:Ok l){m:Nat}(hm:m<=l.length):val (l.take m)<4294967296^m:=by
 have:=val_lt (ok_take h m);rwa[List.length_take,Nat.min_eq_left hm] at this
theorem est_of {a d:List Nat}{m:Nat}(ha:Ok a)(hd:Ok d)(hla:a.length=m+3)(hld:d.length=m+2)(h31:2147483648<=d[m+1])(hlt:val a<4294967296*val d):
 Est (val a) (val d) (4294967296^m) d[m+1] d[m] a[m+2] a[m+1] a[m] where
 d:=⟨val (d.take m),Vg hd (by omega),by rw[Aga hld];generalize 4294967296^m=p;generalize val (d.take m)=V;grind⟩
 r:=⟨val (a.take m),Vg ha (by omega),by rw[Bga hla];generalize 4294967296^m=p;generalize val (a.take m)=V;grind⟩
 v1lo:=h31
 v1hi:=ok_get hd _
 v2hi:=ok_get hd _
 u1hi:=ok_get ha _
 u2hi:=ok_get ha _
 lt:=hlt
structure EstAt (R D p v1 v2 u0 u1 u2 g t:Nat):Prop where
 e:Est R D p v1 v2 u0 u1 u2
 sum:g*v1+t=u0*4294967296+u1
 ge:R/D<=g
theorem est_start {R D p v1 v2 u0 u1 u2:Nat}(h:Est R D p v1 v2 u0 u1 u2):EstAt R D p v1 v2 u0 u1 u2 ((u0*4294967296+u1)/v1) ((u0*4294967296+u1)%v1) where
 e:=h
 sum:=by rw[Nat.mul_comm];exact Nat.div_add_mod _ _
 ge:=h.first
theorem EstAt.le {R D p v1 v2 u0 u1 u2 g t:Nat}(h:EstAt R D p v1 v2 u0 u1 u2 g t):g<=8589934592:=by
 have h1:=h.e.u0;have h2:=h.sum;have h3:=h.e.v1lo;have h4:=h.e.v1hi;rcases Nat.lt_or_ge 8589934592 g with h5 |h5
 ·exfalso
  have h6:8589934593*v1<=g*v1:=Nat.mul_le_mul_right _ h5;generalize g*v1=z at*;omega
 exact h5
theorem EstAt.step {R D p v1 v2 u0 u1 u2 g t:Nat}(h:EstAt R D p v1 v2 u0 u1 u2 g t)(ht:4294967296<=g\/t*4294967296+u2<g*v2):1<=g/\EstAt R D p v1 v2 u0 u1 u2 (g-1) (t+v1):=by
 have h1:=h.e.less h.sum h.ge ht;have hg:1<=g:=Nat.le_trans (Nat.le_add_left _ _) h1;refine⟨hg,h.e,?_,Nat.le_sub_one_of_lt h1⟩;clear h1 ht;rw[<-h.sum];obtain⟨m,rfl⟩:∃m,g=m+1:=⟨g-1,by omega⟩;rw[Nat.add_sub_cancel,Nat.succ_mul];omega
theorem EstAt.done {R D p v1 v2 u0 u1 u2 g t:Nat}(h:EstAt R D p v1 v2 u0 u1 u2 g t)(hg:g<4294967296)(ht:g*v2<=t*4294967296+u2):R/D<=g/\g<=R/D+1/\g<4294967296:=
 ⟨h.ge,h.e.near h.sum hg ht,hg⟩
theorem EstAt.broke {R D p v1 v2 u0 u1 u2 g t:Nat}(h:EstAt R D p v1 v2 u0 u1 u2 g t)(ht:4294967296<=t):R/D<=g/\g<=R/D+1/\g<4294967296:=by
 have h1:=h.e.u0;have h2:=h.sum;have h3:=h.e.v1lo;have hg:g<4294967296:=by
  rcases Nat.lt_or_ge g 4294967296 with h5 |h5
  ·exact h5
  exfalso
  have h6:4294967296*v1<=g*v1:=Nat.mul_le_mul_right _ h5;generalize g*v1=z at*;omega
 refine h.done hg ?_;have h7:g*v2<=4294967296*4294967296:=Nat.mul_le_mul (by omega) (by have:=h.e.v2hi;omega);omega
theorem Cga {l:List Nat}{n v:Nat}(h:Ok l)(hl:l.length=n+1)(hv:val l=v)(hlt:v<4294967296^n):val (l.take n)=v:=by
 have h1:=val_take_succ (l:=l) (i:=n) (by omega);rw[List.take_of_length_le (by omega)] at h1;rcases Nat.eq_zero_or_pos l[n] with h0 |h0
 ·rw[h0,Nat.mul_zero,Nat.add_zero] at h1;omega
 exfalso
 have:4294967296^n*1<=4294967296^n*l[n]:=Nat.mul_le_mul_left _ h0;omega
theorem Xca {y s m:Nat}(t:Nat)(hy:y<(t+1)*4294967296^m)(hs:s<=32)(ht:t*2^s<4294967296):y*2^s<4294967296^(m+1):=by
 have h1:y*2^s<(t+1)*4294967296^m*2^s:=Nat.mul_lt_mul_of_pos_right hy (Nat.two_pow_pos s);have h2:(t+1)*2^s<=4294967296:=by
  have e:4294967296=2^(32-s)*2^s:=by rw[<-Nat.pow_add,show 32-s+s=32 by omega]
  have h3:t<2^(32-s):=by rw[e] at ht;exact Nat.lt_of_mul_lt_mul_right ht
  have h4:(t+1)*2^s<=2^(32-s)*2^s:=Nat.mul_le_mul_right _ h3;rw[<-e] at h4;exact h4
 have h5:(t+1)*2^s*4294967296^m<=4294967296*4294967296^m:=Nat.mul_le_mul_right _ h2;rw[Nat.pow_succ];have e2:(t+1)*4294967296^m*2^s=(t+1)*2^s*4294967296^m:=by rw[Nat.mul_assoc,Nat.mul_assoc,Nat.mul_comm (2^s)]
 rw[e2] at h1;rw[Nat.mul_comm (4294967296^m)];exact Nat.lt_of_lt_of_le h1 h5
theorem top_bit {d:List Nat}{m x:Nat}(hd:Ok d)(hl:d.length=m+1)(hv:2147483648*4294967296^m<=val d):2147483648<=d[m]:=by
 have h1:=val_take_succ (l:=d) (i:=m) (by omega);rw[List.take_of_length_le (by omega)] at h1;have h2:=Vg hd (m:=m) (by omega);rcases Nat.lt_or_ge d[m] 2147483648 with h |h
 ·exfalso
  have h3:4294967296^m*(d[m]+1)<=4294967296^m*2147483648:=Nat.mul_le_mul_left _ h;rw[Nat.mul_add,Nat.mul_one] at h3;generalize 4294967296^m=p at*;generalize p*d[m]=z at*;omega
 exact h
theorem div_scaled {y s m t:Nat}{cur:List Nat}(hlen:(digs y).length=m+1)(htop:t=(digs y)[m]'(by omega))(hs:s<=32)(hlo:2147483648<=t*2^s)(hhi:t*2^s<4294967296)
 (ok:Ok cur) (hl:cur.length=m+1+1) (hv:val cur=y*2^s):
 y*2^s<4294967296^(m+1)/\val (cur.take (m+1))=y*2^s/\Ok (cur.take (m+1))/\(cur.take (m+1)).length=m+1/\∀h:m<(cur.take (m+1)).length,2147483648<=(cur.take (m+1))[m]:=by
 have hy:=val_take_succ (l:=digs y) (i:=m) (by omega);rw[List.take_of_length_le (by omega),val_digs,<-htop] at hy;have hr:=Vg (ok_digs y) (m:=m) (by omega);have hlt:y*2^s<4294967296^(m+1):=Xca t (by rw[Nat.succ_mul,Nat.mul_comm t];omega) hs hhi;have hval:=Cga ok hl hv hlt;have hlen2:(cur.take (m+1)).length=m+1:=by rw[List.length_take];omega
 refine⟨hlt,hval,ok_take ok _,hlen2,λh=>top_bit (x:=0) (ok_take ok _) hlen2 ?_⟩;rw[hval];have h1:4294967296^m*t<=y:=by omega
 have h2:4294967296^m*t*2^s<=y*2^s:=Nat.mul_le_mul_right _ h1;have h3:2147483648*4294967296^m<=t*2^s*4294967296^m:=Nat.mul_le_mul_right _ hlo;have e:t*2^s*4294967296^m=4294967296^m*t*2^s:=by rw[Nat.mul_comm (t*2^s),Nat.mul_assoc]
 omega
end Nt
namespace Nt
open Go
theorem Vl:∀(f x:Nat),x<2^f->f<=64->x≠0->1<=Lib.bitLen x/\2^(Lib.bitLen x-1)<=x/\x<2^Lib.bitLen x
 | 0,x,h,_,h0=>by simp at h;omega
 |f+1,x,h,hf,h0=>by
  have h64:x<2^64:=Nat.lt_of_lt_of_le h (Nat.pow_le_pow_right (by omega) hf);rw[Lib.bitLen_half x h0 h64];rcases Nat.eq_zero_or_pos (x/2) with hz |hz
  ·have:x=1:=by omega
   subst this;decide
  obtain⟨a,b,c⟩:=Vl f (x/2) (by rw[Nat.pow_succ] at h;omega) (by omega) (by omega);generalize Lib.bitLen (x/2)=L at*;refine⟨by omega,?_,?_⟩
  ·rw[show 1+L-1=(L-1)+1 by omega,Nat.pow_succ];omega
  rw[Nat.add_comm,Nat.pow_succ];omega
theorem shift_of {t:Nat}(h0:t≠0)(ht:t<4294967296):Lib.bitLen t<=32/\1<=Lib.bitLen t/\2147483648<=t*2^(32-Lib.bitLen t)/\t*2^(32-Lib.bitLen t)<4294967296:=by
 obtain⟨a,b,c⟩:=Vl 32 t ht (by omega) h0;have hl:Lib.bitLen t<=32:=by
  rcases Nat.lt_or_ge 32 (Lib.bitLen t) with h |h
  ·exfalso
   have:2^32<=2^(Lib.bitLen t-1):=Nat.pow_le_pow_right (by omega) (by omega);omega
  exact h
 generalize Lib.bitLen t=L at*;refine⟨hl,a,?_,?_⟩
 ·have h1:=Nat.mul_le_mul_right (2^(32-L)) b
  rw[<-Nat.pow_add,show L-1+(32-L)=31 by omega] at h1;exact h1
 have h1:=Nat.mul_lt_mul_of_pos_right c (Nat.two_pow_pos (32-L));rw[<-Nat.pow_add,show L+(32-L)=32 by omega] at h1;exact h1
end Nt
namespace Go.Proofs.YtmiccalfamepdaaGreatDoor
open Go.RowKit
theorem Oz (A A':Option Addr)(c c' B n:Nat)(a d:List Nat)(w:World)(hx:Lies w B A (U a))(hy:Lies w B A' (U d))(ha:Nt.Ok a)(hd:Nt.Ok d)(hla:a.length=n+1)(hld:d.length=n)(hn:2<=n)(hn2:n<=1000000)
 (h31:∀h:n-1<d.length,2147483648<=d[n-1]) (hlt:Nt.val a<4294967296*Nt.val d) (hc:n+1<=c) (hc':n<=c'):
 Calls Tryz.prog 220 #[.slice A (n+1) c,.slice A' n c'] w λe w'=>∃g:Nat,e= .returned (.int .u64 (g:Int))/\Hid (Nt.val a/Nt.val d<=g/\g<=Nt.val a/Nt.val d+1)/\g<4294967296/\∃k,w'=w.drewN k:=by
 have hE:∃p,Nt.Est (Nt.val a) (Nt.val d) p (d[n-1]'(by omega)) (d[n-2]'(by omega)) (a[n]'(by omega)) (a[n-1]'(by omega)) (a[n-2]'(by omega)):=by
  obtain⟨m,rfl⟩:∃m,n=m+2:=⟨n-2,by omega⟩;exact⟨_,Nt.est_of ha hd (by omega) (by omega) (h31 (by omega)) hlt⟩
 obtain⟨p,hE⟩:=hE;obtain⟨b1,o1,rfl,_,a0⟩:=hx.limb (k:=n) (by omega);obtain⟨b1',o1',e1,_,a1⟩:=hx.limb (k:=n-1) (by omega);obtain⟨b1'',o1'',e2,_,a2⟩:=hx.limb (k:=n-2) (by omega);obtain⟨b2,o2,rfl,_,d1⟩:=hy.limb (k:=n-1) (by omega);obtain⟨b2',o2',e3,_,d2⟩:=hy.limb (k:=n-2) (by omega);injection e1 with e1;injection e1 with e1 e1';subst e1 e1'
 injection e2 with e2;injection e2 with e2 e2';subst e2 e2'
 injection e3 with e3;injection e3 with e3 e3';subst e3 e3'
 have u0b:=Nt.ok_get ha (i:=n) (by omega);generalize d[n-1]'(by omega)=v1 at hE d1;generalize d[n-2]'(by omega)=v2 at hE d2;generalize a[n]'(by omega)=u0 at hE a0 u0b;generalize a[n-1]'(by omega)=u1 at hE a1;generalize a[n-2]'(by omega)=u2 at hE a2;have hv1:=hE.v1lo;have hv1':=hE.v1hi;have hv2:=hE.v2hi;have hu1:=hE.u1hi;have hu2:=hE.u2hi;have H0:=Qd (Nt.est_start hE);clear hx hy ha hd h31 hlt hla hld;have hj:=Hs (r:=u0) u0b hu1;have hsh:IntKind.u64.wrap ((u0:Int)*4294967296)=(u0:Int)*4294967296:=IntWalk.u64_in _ (by omega);have hw1:IntKind.i64.wrap ((n:Int)-1)=(n:Int)-1:=IntWalk.i64_in _ (by omega);have hp1:(0:Int)<=(n:Int)-1:=by omega
 have hp1':(1:Int)<=(n:Int):=by omega
 have ht1:((n:Int)-1).toNat=n-1:=by omega
 have hdz:((v1:Int)==0)=false:=by simp;omega
 have hv1p:(1:Int)<=(v1:Int):=by omega
 generalize hH:u0*4294967296+u1=H at H0 hj;have hHb:H<18446744073709551616:=by omega
 clear hH hE;have hq:(H:Int)/(v1:Int)=((H/v1:Nat):Int):=(Int.natCast_ediv H v1).symm;have hr:(H:Int)%(v1:Int)=((H%v1:Nat):Int):=(Int.natCast_emod H v1).symm;have hrl:H%v1<v1:=Nat.mod_lt _ (by omega);have hql:=H0.out.le;generalize H/v1=q at*;generalize H%v1=r at*;go_enter Tryz.func220,Tryz.ntmps220
 go_wp2_with fail
 go_quiet (fail)
 clear hj hsh;go_wp2_with fail
 go_quiet (fail)
 clear a0 a1 hq hql u0b hHb;have HR:=Qd hr;clear hr;go_wp2_with fail
 go_loopw [7,8] (λgv tv wr=>∃g t m:Nat,wr=w.drewN m/\t<4294967296/\g<=8589934592/\gv= .int .u64 (g:Int)/\tv= .int .u64 (t:Int)/\Hid (Nt.EstAt (Nt.val a) (Nt.val d) p v1 v2 u0 u1 u2 g t)) (λgv _ _=>(intOf gv).toNat)
 case atStart=>exact⟨q,r,_,World.drewN_drewN _ _ _,by omega,H0.out.le,rfl,congrArg (Value.int .u64) HR.out,H0⟩
 case round=>
  clear H0 HR hrl;obtain⟨g,t,m,rfl,ht,hg,rfl,rfl,HA⟩:=hrel;have hw2:IntKind.i64.wrap ((n:Int)-2)=(n:Int)-2:=IntWalk.i64_in _ (by omega);have hp2:(0:Int)<=(n:Int)-2:=by omega
  have hp2':(2:Int)<=(n:Int):=by omega
  have ht2:((n:Int)-2).toNat=n-2:=by omega
  by_cases hbig:4294967296<=g
  ·have hne:((g:Int)/4294967296 !=0)=true:=by simp;omega
   obtain⟨hg1,hst⟩:=HA.out.step (.inl hbig);have ST:=Qd hst;clear hst;by_cases hb2:4294967296<=t+v1
   ·have hne2:(((t:Int)+(v1:Int))/4294967296 !=0)=true:=by simp;omega
    have BR:=Qd (ST.out.broke hb2);go_wp2_with fail
    go_quiet (fail)
    go_wp2_with fail
    go_ret;exact⟨g-1,Gb (by omega),Qd ⟨BR.out.1,BR.out.2.1⟩,BR.out.2.2,_,rfl⟩
   have hne2:(((t:Int)+(v1:Int))/4294967296 !=0)=false:=by simp;omega
   go_wp2_with fail
   go_quiet (fail)
   go_wp2_with fail
   exact⟨⟨g-1,t+v1,_,rfl,by omega,by omega,congrArg (Value.int .u64) (by omega),congrArg (Value.int .u64) (by omega),ST⟩,by simp[intOf];omega⟩
  have hne:((g:Int)/4294967296 !=0)=false:=by simp;omega
  have hmb:=Nt.mul_bound (x:=g) (y:=v2) (by omega) hv2;obtain⟨P,hP⟩:∃P:Nat,P=g*v2:=⟨_,rfl⟩;have hPi:IntKind.u64.wrap ((g:Int)*(v2:Int))=(P:Int):=by rw[<-Int.natCast_mul,<-hP,IntWalk.u64_in _ (by omega)]
  have hsh:IntKind.u64.wrap ((t:Int)*4294967296)=(t:Int)*4294967296:=IntWalk.u64_in _ (by omega);have hj:=Hs (r:=t) ht hu2;have HP:=Qd hP;clear hmb hP;generalize hJ:t*4294967296+u2=J at hj;have HJ:=Qd hJ;clear hJ;by_cases htest:J<P
  ·have hdec:decide ((J:Int)<(P:Int))=true:=by simp;omega
   obtain⟨hg1,hst⟩:=HA.out.step (.inr (by rw[HJ.out,<-HP.out];exact htest));have ST:=Qd hst;clear hst;by_cases hb2:4294967296<=t+v1
   ·have hne2:(((t:Int)+(v1:Int))/4294967296 !=0)=true:=by simp;omega
    have BR:=Qd (ST.out.broke hb2);go_wp2_with fail
    go_quiet (fail)
    go_wp2_with fail
    go_ret;exact⟨g-1,Gb (by omega),Qd ⟨BR.out.1,BR.out.2.1⟩,BR.out.2.2,_,rfl⟩
   have hne2:(((t:Int)+(v1:Int))/4294967296 !=0)=false:=by simp;omega
   go_wp2_with fail
   go_quiet (fail)
   go_wp2_with fail
   exact⟨⟨g-1,t+v1,_,rfl,by omega,by omega,congrArg (Value.int .u64) (by omega),congrArg (Value.int .u64) (by omega),ST⟩,by simp[intOf];omega⟩
  have hdec:decide ((J:Int)<(P:Int))=false:=by simp;omega
  have DN:=Qd (HA.out.done (by omega) (by rw[HJ.out,<-HP.out];omega));go_wp2_with fail
  go_quiet (fail)
  go_wp2_with fail
  go_ret;exact⟨g,rfl,Qd ⟨DN.out.1,DN.out.2.1⟩,DN.out.2.2,_,World.drewN_drewN _ _ _⟩
def Vq:Prop:=∀(A A':Option Addr) (c c' B x y:Nat) (w:World),Lies w B A (U (Nt.digs x))->Lies w B A' (U (Nt.digs y))->B<=w.heap.size->(Nt.digs x).length<=c->(Nt.digs y).length<=c'->c<=9223372036854775807->c'<=9223372036854775807->
 (Nt.digs x).length<=1000000->2<=(Nt.digs y).length->y<=x->
 Calls Tryz.prog 202 #[.slice A (Nt.digs x).length c,.slice A' (Nt.digs y).length c'] w λe w'=>∃v1 v2,e= .returned (.tuple #[v1,v2])/\IsRes w' v1 (Nt.digs (x/y))/\IsRes w' v2 (Nt.digs (x%y))/\Below w.heap.size w w'
theorem Js (A A':Option Addr)(c c' B:Nat)(a b:List Nat)(w:World)(hx:Lies w B A (U a))(hy:Lies w B A' (U b))(hB:B<=w.heap.size)(ha:Nt.Ok a)(hb:Nt.Ok b)
 (hc:a.length<=c) (hc':b.length<=c') (hm:c<=9223372036854775807) (hm':c'<=9223372036854775807) (hs:a.length<=1000000) (hs':b.length<=1000000) (HLG:(Nt.digs (Nt.val b)).length<=1\/Vq):
 Calls Tryz.prog 171 #[.slice A a.length c,.slice A' b.length c'] w λe w'=>∃v1 v2,e= .returned (.tuple #[v1,v2,.bool (decide (Nt.val b≠0))])/\
  IsRes w' v1 (Nt.digs (Nt.quo (Nt.val a) (Nt.val b)))/\IsRes w' v2 (Nt.digs (Nt.rest (Nt.val a) (Nt.val b)))/\Below w.heap.size w w':=by
 have ha':=Nt.digs_len_le ha;have hb':=Nt.digs_len_le hb;have TA:=Qd (Ad A c B a w hx ha hc hm);have TB:=Qd (Ad A' c' B b w hy hb hc' hm');have LA:=Qd ((hx.digs ha).more hB);have LB:=Qd ((hy.digs hb).more hB);have OA:=Qd (Nt.ok_digs (Nt.val a));have OB:=Qd (Nt.ok_digs (Nt.val b));have VA:=Qd (Nt.val_digs (Nt.val a));have VB:=Qd (Nt.val_digs (Nt.val b));have ZB:Hid ((Nt.digs (Nt.val b)).length=0->Nt.val b=0):=Qd (λh=>Nt.digs_nil_iff.1 (List.eq_nil_of_length_eq_zero h));have hla:(Nt.digs (Nt.val a)).length<=1000000:=by omega
 have hlb:(Nt.digs (Nt.val b)).length<=1000000:=by omega
 clear hx hy ha hb;generalize Nt.val a=x at*;generalize Nt.val b=y at*;by_cases h0:y=0
 ·subst h0
  have HZ:Hid ((Nt.digs 0).length=0):=Qd (by rw[Nt.digs_zero];rfl);go_enter Tryz.func171,Tryz.ntmps171
  go_wp2_with fail
  refine TA.out.mono ?_;rintro e w' ⟨rfl,rfl⟩;go_wp2_with fail
  refine TB.out.mono ?_;rintro e w' ⟨rfl,rfl⟩;rw[HZ.out];go_wp2_with fail
  go_ret3
  refine⟨_,_,rfl,?_,?_,Br⟩
  ·rw[Nt.quo_zero,Nt.digs_zero];exact IsRes.none_ _
  rw[Nt.rest_zero,Nt.digs_zero];exact IsRes.none_ _
 have HP:Hid (decide (y≠0)=true):=Qd (by simp;omega);have hlp:(Nt.digs y).length≠0:=λh=>h0 (ZB.out h);have hle:(((Nt.digs y).length:Int)==0)=false:=by simp;intro h;exact hlp (by rw[h];rfl)
 have HI1:Hid (Nt.quo x y=x/y):=Qd rfl;have HI2:Hid (Nt.rest x y=x%y):=Qd (Nt.rest_pos h0);have CM:=Qd (Via A A' (Nt.digs x).length (Nt.digs y).length w.heap.size (Nt.digs x) (Nt.digs y) w LA.out LB.out OA.out OB.out Lr Lr (by omega) (by omega));rw[VA.out,VB.out] at CM;rw[HP.out,HI1.out,HI2.out];have hylp:0<y:=by omega
 clear HI1 HI2;by_cases hlt:x<y
 ·have HE:Hid (Nt.cmp x y= -1):=Qd (Nt.cmp_lt hlt)
  have HQ:Hid (x/y=0):=Qd (Nat.div_eq_of_lt hlt);have HR:Hid (x%y=x):=Qd (Nat.mod_eq_of_lt hlt);have NA:=Qd (λn=>Kf A (Nt.digs x).length w.heap.size (Nt.digs x) (w.drewN n) LA.out Lr OA.out Lr (by omega) (by omega));rw[VA.out] at NA;rw[HQ.out,HR.out,Nt.digs_zero];go_enter Tryz.func171,Tryz.ntmps171
  go_wp2_with fail
  refine TA.out.mono ?_;rintro e w' ⟨rfl,rfl⟩;go_wp2_with fail
  refine TB.out.mono ?_;rintro e w' ⟨rfl,rfl⟩;go_wp2_with fail
  refine CM.out.mono ?_;rintro e w' ⟨rfl,n1,rfl⟩;rw[HE.out];go_wp2_with fail
  refine(NA.out n1).mono ?_;rintro e w1 ⟨rfl,hblk1,hb1⟩;go_wp2_with fail
  go_ret3
  refine⟨_,_,rfl,IsRes.none_ _,⟨_,_,rfl,Lr,by omega,(λh=>by cases h),hblk1.lies⟩,?_⟩;exact⟨hb1.os,hb1.tape,hb1.output,hb1.size,hb1.block⟩
 have hcmp:decide (Nt.cmp x y<0)=false:=by rw[decide_eq_false_iff_not,Nt.cmp_neg];omega
 by_cases h1:(Nt.digs y).length=1
 ·have hl1:(((Nt.digs y).length:Int)==1)=true:=by simp[h1]
  have NA:=Qd (λn=>Kf A (Nt.digs x).length w.heap.size (Nt.digs x) (w.drewN n) LA.out Lr OA.out Lr (by omega) (by omega));rw[VA.out] at NA;have hy32:y<4294967296:=by
   have:=Nt.val_lt OB.out;rw[VB.out,h1] at this
   simpa using this
  have HY:Hid (Nt.digs y=[y]):=Qd (by
   rw[Nt.digs_pos h0,Nat.mod_eq_of_lt hy32,Nat.div_eq_of_lt hy32,Nt.digs_zero])
  obtain⟨bb,offb,rfl,hbb,HCB⟩:∃b off,A'=some ⟨b,off,none⟩/\b<w.heap.size/\Hid (∀wx:World,Below w.heap.size w wx->wx.cell? ⟨b,off,none⟩=some (.int .u32 (y:Int))):=by
   have:=LB.out;rw[HY.out] at this;obtain⟨b,off,h1,h2,h3⟩:=this.limb (k:=0) (by simp);exact⟨b,off,h1,h2,Qd (λwx hwx=>(hwx.cell (p:=⟨b,off,none⟩) h2).trans (by simpa using h3))⟩
  have hone:1<=(Nt.digs y).length:=by omega
  clear h1;go_enter Tryz.func171,Tryz.ntmps171
  go_wp2_with fail
  refine TA.out.mono ?_;rintro e w' ⟨rfl,rfl⟩;go_wp2_with fail
  refine TB.out.mono ?_;rintro e w' ⟨rfl,rfl⟩;go_wp2_with fail
  refine CM.out.mono ?_;rintro e w' ⟨rfl,n1,rfl⟩;go_wp2_with fail
  refine(NA.out n1).mono ?_;rintro e w1 ⟨rfl,hblk1,hb1⟩;have hb0:Below w.heap.size w w1:=⟨hb1.os,hb1.tape,hb1.output,hb1.size,hb1.block⟩;have hblk0:Blk w1 w.heap.size 139 (U (Nt.digs x)++[]):=by rw[List.append_nil];exact hblk1
  clear hb1 hblk1;have hcell:=HCB.out w1 hb0;go_wp2_with fail
  refine(Qp w.heap.size (Nt.digs x).length y (Nt.digs x) [] w1 hblk0 OA.out hylp hy32 (by omega)).mono ?_;rintro e w2 ⟨cur,rfl,hblk2,HC,hgr2⟩;have hb2:Below w.heap.size w w2:=hb0.grown hgr2 hb0.size (λk hk=>by injection hk with hk;omega);rw[List.append_nil] at hblk2;have HTR:=Ad (some ⟨w.heap.size,0,none⟩) (Nt.digs x).length w2.heap.size cur w2 hblk2.lies HC.out.2.1 (by rw[HC.out.1];exact Lr) (by omega);rw[HC.out.1,HC.out.2.2,VA.out] at HTR;have HTR2:=Qd HTR;have HQL:(Nt.digs (x/y)).length<=(Nt.digs x).length:=by have:=Nt.digs_len_le HC.out.2.1;rw[HC.out.1,HC.out.2.2,VA.out] at this;exact this
  have HQ:Hid (Lies w2 w2.heap.size (some ⟨w.heap.size,0,none⟩) (U (Nt.digs (x/y)))):=Qd (by have:=hblk2.lies.digs HC.out.2.1;rw[HC.out.2.2,VA.out] at this;exact this);have hrl:x%y<4294967296:=by have:=Nat.mod_lt x hylp;omega
  rw[VA.out];generalize hrr:x%y=rr at*;have HRR:=Qd hrr;clear hrr HTR hblk2;go_wp2_with fail
  refine HTR2.out.mono ?_;rintro e w' ⟨rfl,rfl⟩;have hsz2:=hb2.size;have NR:=Qd (Kf (some ⟨w2.heap.size,0,none⟩) 1 (w2.heap.size+1) [rr] (w2.alloc (.cells #[.int .u32 (rr:Int)] 139)) (Lies.new w2 [.int .u32 (rr:Int)] 139) (by simp) (λd hd=>by simp at hd;omega) (by simp) (by omega) (by simp));have HV1:Hid (Nt.val [rr]=rr):=Qd (by simp[Nt.val]);rw[HV1.out] at NR;go_wp2_with fail
  refine NR.out.mono ?_;rintro e w3 ⟨rfl,hblk3,hb3⟩;have hb23:Below w2.heap.size w2 w3:=(Br.alloc Lr _).trans (hb3.mono (by simp));have hrl2:(Nt.digs rr).length<=1:=Nt.digs_len_lt (by simpa using hrl);go_wp2_with fail
  go_ret3
  refine⟨_,_,rfl,⟨_,_,rfl,Lr,by omega,(λh=>by cases h),(HQ.out.below hb23).more hb23.size⟩,?_,hb2.trans (hb23.mono hsz2)⟩;rw[HRR.out];have hli:=hblk3.lies;rw[show(w2.alloc (.cells #[.int .u32 (rr:Int)] 139)).heap.size=w2.heap.size+1 from by simp] at hli;exact⟨_,_,rfl,Lr,by omega,(λh=>by cases h),hli⟩
 have hl1:(((Nt.digs y).length:Int)==1)=false:=by simp;intro h;exact h1 (by omega)
 have hlong:Vq:=by
  rcases HLG with h |h
  ·exfalso;omega
  exact h
 have LG:=Qd (λn=>hlong A A' (Nt.digs x).length (Nt.digs y).length w.heap.size x y (w.drewN n) LA.out LB.out Lr Lr Lr (by omega) (by omega) hla (by omega) (by omega));clear hlong h1 HLG;go_enter Tryz.func171,Tryz.ntmps171
 go_wp2_with fail
 refine TA.out.mono ?_;rintro e w' ⟨rfl,rfl⟩;go_wp2_with fail
 refine TB.out.mono ?_;rintro e w' ⟨rfl,rfl⟩;go_wp2_with fail
 refine CM.out.mono ?_;rintro e w' ⟨rfl,n1,rfl⟩;go_wp2_with fail
 refine(LG.out n1).mono ?_;rintro e w1 ⟨v1,v2,rfl,hr1,hr2,hb1⟩;go_wp2_with fail
 go_ret3
 exact⟨_,_,rfl,hr1,hr2,⟨hb1.os,hb1.tape,hb1.output,hb1.size,hb1.block⟩⟩
section
open Go.RowKit
end
theorem Pz (A:Option Addr)(c B:Nat)(l:List Nat)(w:World)(hl:Lies w B A (U l))(ho:Nt.Ok l)(h2:l.length<=2):
 Calls Tryz.prog 170 #[.slice A l.length c] w λe w'=>e= .returned (.int .u64 (Nt.val l:Int))/\w=w':=by
 have HL:=Qd hl;have HO:=Qd ho;clear hl ho;go_enter Tryz.func170,Tryz.ntmps170
 go_wp2_with fail
 go_loop [3,8] (λv i=>∃k n:Nat,k<=l.length/\n<18446744073709551616/\i= .int .i64 (k:Int)/\v= .int .u64 (n:Int)/\Hid (n=Nt.val (l.take k))) (λ_ i=>l.length-(intOf i).toNat)
 case atStart=>exact⟨0,0,Nat.zero_le _,by omega,rfl,rfl,Qd (by simp[Nt.val])⟩
 case round=>
  obtain⟨k,n,hk,hn,rfl,rfl,H⟩:=hrel;by_cases hlt:k<l.length
  ·obtain⟨b,off,rfl,_,hcell⟩:=HL.out.limb hlt
   have hxb:=Nt.ok_get HO.out hlt;have ST:=Qd (Nt.val_take_succ hlt);have VL:=Nt.val_lt (Nt.ok_take HO.out k);rw[<-H.out,List.length_take,Nat.min_eq_left hk] at VL;generalize l[k]=x at hcell hxb ST;have hk2:k=0\/k=1:=by omega
   rcases hk2 with rfl |rfl
   ·have hn0:n=0:=by simpa using VL
    subst hn0;rw[Nat.add_zero] at hcell;have hor:bits BinOp.or IntKind.u64 0 (x:Int)=(x:Int):=by
     have:=u64_or_nat 0 x (by omega) (by omega);rw[Nat.zero_or] at this;exact this
    go_wp2_with fail
    refine⟨⟨1,x,by omega,by omega,rfl,?_,Qd (by rw[ST.out];simp[Nt.val])⟩,by simp[intOf];omega⟩;rfl
   have hn1:n<4294967296:=by simpa using VL
   have hor:bits BinOp.or IntKind.u64 (n:Int) ((x:Int)*4294967296)=((x*4294967296+n:Nat):Int):=by
    have:=u64_or_nat n (x*4294967296) (by omega) (by omega);rw[Nat.or_comm,nat_join 32 (x*4294967296) n (by omega) (by omega)] at this;rw[<-this,Int.natCast_mul];rfl
   go_wp2_with fail
   refine⟨⟨2,x*4294967296+n,by omega,by omega,rfl,?_,Qd (by rw[ST.out,<-H.out];omega)⟩,by simp[intOf];omega⟩;exact congrArg (Value.int .u64) (by omega)
  go_wp2_with fail
  go_ret;exact⟨Gb (by rw[H.out,List.take_of_length_le (by omega)]),rfl⟩
theorem Yca {x:Nat}(hx:x<18446744073709551616):Nt.val [x%4294967296,x/4294967296]=x:=by simp[Nt.val];omega
theorem Zca (a b:Nat)(w:World)(ha:a<18446744073709551616)(hb:b<18446744073709551616):
 Calls Tryz.prog 169 #[.int .u64 (a:Int),.int .u64 (b:Int)] w λe w'=>∃v,e= .returned v/\IsRes w' v (Nt.digs (Nat.gcd a b))/\Below w.heap.size w w':=by
 go_enter Tryz.func169,Tryz.ntmps169
 go_wp2_with fail
 go_loopw [0,1] (λxv yv wr=>∃x y m:Nat,wr=w.drewN m/\x<18446744073709551616/\y<18446744073709551616/\xv= .int .u64 (x:Int)/\yv= .int .u64 (y:Int)/\Hid (Nat.gcd x y=Nat.gcd a b)) (λ_ yv _=>(intOf yv).toNat)
 case atStart=>exact⟨a,b,0,rfl,ha,hb,rfl,rfl,Qd rfl⟩
 case round=>
  obtain⟨x,y,m,rfl,hx,hy,rfl,rfl,H⟩:=hrel;by_cases h0:y=0
  ·subst h0
   have HE:Hid (Nat.gcd a b=x):=Qd (by rw[<-H.out,Nat.gcd_zero_right]);have NR:=Qd (Kf (some ⟨w.heap.size,0,none⟩) 2 (w.heap.size+1) [x%4294967296,x/4294967296] ((w.drewN m).alloc (.cells #[.int .u32 ((x%4294967296:Nat):Int),.int .u32 ((x/4294967296:Nat):Int)] 139)) (Lies.new (w.drewN m) [.int .u32 ((x%4294967296:Nat):Int),.int .u32 ((x/4294967296:Nat):Int)] 139) (by simp) (λd hd=>by simp at hd;omega) (by simp) (by omega) (by simp));rw[Yca hx] at NR;have e1:((x%4294967296:Nat):Int)=(x:Int)%4294967296:=by omega
   have e2:((x/4294967296:Nat):Int)=(x:Int)/4294967296:=by omega
   rw[e1,e2] at NR;clear e1 e2;go_wp2_with fail
   refine NR.out.mono ?_;rintro e w1 ⟨rfl,hblk1,hb1⟩;have hb0:Below w.heap.size w w1:=by
    have h1:Below w.heap.size w (w.drewN m):=⟨rfl,rfl,rfl,Lr,λ_ _=>rfl⟩;exact(h1.alloc Lr _).trans (hb1.mono (by simp))
   have hli:=hblk1.lies;have hl2:(Nt.digs x).length<=2:=Nt.digs_len_lt (by simpa using hx);go_wp2_with fail
   go_ret;refine⟨_,rfl,?_,hb0⟩;rw[HE.out];exact⟨_,_,rfl,Lr,by omega,(λh=>by cases h),by simpa using hli⟩
  have hne:((y:Int)!=0)=true:=by simp;omega
  have hy1:(1:Int)<=(y:Int):=by omega
  have hr2:(x:Int)%(y:Int)=((x%y:Nat):Int):=(Int.natCast_emod x y).symm;have hrl:x%y<y:=Nat.mod_lt _ (by omega);have HG:Hid (Nat.gcd y (x%y)=Nat.gcd x y):=Qd (by rw[Nat.gcd_comm x y,Nat.gcd_rec y x,Nat.gcd_comm]);have HR2:=Qd hr2;generalize x%y=r at*;have hdz:((y:Int)==0)=false:=by simp;omega
  go_wp2_with fail
  go_quiet (fail)
  go_wp2_with fail
  refine⟨⟨y,r,m+nq,World.drewN_drewN _ _ _,hy,by omega,rfl,congrArg (Value.int .u64) HR2.out,Qd (by rw[HG.out];exact H.out)⟩,?_⟩;rw[HR2.out];simp[intOf];omega
theorem Lies.alloc {w:World}{B:Nat}{A:Option Addr}{vs:List Value}(h:Lies w B A vs)(hB:B<=w.heap.size)(o:Obj):Lies (w.alloc o) B A vs:=h.below (Br.alloc hB o)
section
open Go.ChangeShapes Go.WideShapes Go.ChangeAt Go.RowKit
theorem Yx {w:World}{a:Addr}{vs:List Value}(h:∀i v,vs[i]? =some v->w.cell? (a.add i)=some v):Lies w w.heap.size (some a) vs:=by
 cases vs with
 |nil=>exact .inl rfl
 |cons v r=>
  have h0:=h 0 v rfl;obtain⟨b,off,spot⟩:=a;have hs:spot=none:=by simpa [Addr.add] using World.cell?_spot h0
  subst hs;refine .inr ⟨b,off,rfl,World.block_lt_of_cell? w _ (by simpa [Addr.add] using h0),λi u hu=>?_⟩;have:=h i u hu;unfold Addr.add at this
  split at this
  ·rename_i e;subst e;simpa using this
  simpa using this
end
section
open Go.ChangeShapes Go.WideShapes Go.ChangeAt Go.RowKit
end
end Go.Proofs.YtmiccalfamepdaaGreatDoor
