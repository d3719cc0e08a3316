/- Texts of this proof, joined. -/
import Derived.Test.YtmiccalfamepdaaGreatDoorM7
import Derived.RangeFuncFrom
import Derived.RangeFuncCalls
import Derived.TacticsIn
import Derived.OwnWalkIn
import Derived.RangeFuncNested
import Derived.RangeFuncBound
import Derived.RangeFuncLeaves
set_option linter.all false
set_option maxHeartbeats 8000000
set_option maxRecDepth 100000
namespace Go.Proofs.YtmiccalfamepdaaGreatDoor
open Go.RowKit
theorem Pga {w:World}{v1 v2:Value}{l1 l2:List Nat}(h1:IsRes w v1 l1)(h2:IsRes w v2 l2)(o1:Nt.Ok l1)(o2:Nt.Ok l2)(s1:l1.length<=1000000)(s2:l2.length<=1000000):
 Calls Tryz.prog 168 #[v1,v2] w λe w'=>∃v,e= .returned v/\IsRes w' v (Nt.digs (Nt.val l1*Nt.val l2))/\Below w.heap.size w w':=by
 obtain⟨A,c,rfl,a1,a2,a3,a4⟩:=h1;obtain⟨A',c',rfl,b1,b2,b3,b4⟩:=h2;exact Eaa A A' c c' w.heap.size l1 l2 w a4 b4 Lr o1 o2 a1 b1 a2 b2 s1 s2
theorem Qga {w:World}{v1 v2:Value}{l1 l2:List Nat}(h1:IsRes w v1 l1)(h2:IsRes w v2 l2)(o1:Nt.Ok l1)(o2:Nt.Ok l2)(s1:l1.length<=1000000)(s2:l2.length<=1000000):
 Calls Tryz.prog 200 #[v1,v2] w λe w'=>∃v,e= .returned v/\IsRes w' v (Nt.digs (Nt.val l1+Nt.val l2))/\Below w.heap.size w w':=by
 obtain⟨A,c,rfl,a1,a2,a3,a4⟩:=h1;obtain⟨A',c',rfl,b1,b2,b3,b4⟩:=h2;exact Es A A' c c' w.heap.size l1 l2 w a4 b4 Lr o1 o2 a1 b1 a2 b2 (by omega) (by omega)
theorem Gh (w:World)(l:List Nat)(h:l.length<=1000):IsRes (w.alloc (.cells (U l).toArray 139)) (.slice (some ⟨w.heap.size,0,none⟩) l.length l.length) l:=
 ⟨_,_,rfl,Lr,by omega,(λh=>by cases h),by
  have:=Lies.new w (U l) 139;exact this.more (by simp)⟩
theorem Hda {a b:Nat}(h1:a<4294967296)(h2:b<4294967296):Nt.Ok [a,b]:=by
 intro d hd;rcases List.mem_cons.1 hd with rfl |hd
 ·exact h1
 rw[List.mem_singleton] at hd;subst hd;exact h2
theorem E8 (n:Nat):Nt.val [n%4294967296,n/4294967296]=n:=by simp[Nt.val];omega
theorem I0 (n:Int)(w:World)(h1: -9223372036854775808<=n)(h2:n<=9223372036854775807):
 Calls Tryz.prog 167 #[.int .i64 n] w (Mo w (decide (n<0)) (Nt.digs n.natAbs)):=by
 have HI2:Hid (∀(b:Bool) (A:Option Addr) (k c:Nat),(Tryz.prog.info? 136).map (·.size)=some (#[.bool b,.slice A k c]:Array Value).size):=Qd (λ_ _ _ _=>Yd);obtain⟨w1,hw1⟩:∃w1,w1=w.alloc (.cells #[.bool false,.slice none 0 0] 136):=⟨_,rfl⟩;have hb1:Below w.heap.size w w1:=by rw[hw1];exact Br.alloc Lr _
 have HG1:Hid (w1.heap[w.heap.size]? =some (.cells #[.bool false,.slice none 0 0] 136 (0,0))):=Qd (by rw[hw1];exact heap_alloc_new w _);have HW1:=Qd hw1;have HS1:Hid (w1.heap.size=w.heap.size+1):=Qd (by rw[hw1];simp);clear hw1;by_cases hn:0<=n
 ·obtain⟨m,rfl⟩:∃m:Nat,n=(m:Int):=⟨n.toNat,by omega⟩
  have hm1:m%4294967296<4294967296:=by omega
  have hm2:m/4294967296<4294967296:=by omega
  obtain⟨w2,hw2⟩:∃w2,w2=w1.alloc (.cells #[.int .u32 ((m%4294967296:Nat):Int),.int .u32 ((m/4294967296:Nat):Int)] 139):=⟨_,rfl⟩;have hr:IsRes w2 (.slice (some ⟨w1.heap.size,0,none⟩) 2 2) [m%4294967296,m/4294967296]:=by rw[hw2];exact Gh w1 [m%4294967296,m/4294967296] (by simp)
  have NM:=Of false _ _ w2 ⟨hr,Hda hm1 hm2,by show 2<=64;decide⟩;rw[E8] at NM;have hnn:Rt.nrm false m=false:=by unfold Rt.nrm;simp
  rw[hnn,HS1.out] at NM;have HP:Hid (decide ((m:Int)<0)=false):=Qd (decide_eq_false (by omega));have HM:Hid ((m:Int).natAbs=m):=Qd (by omega);have hb2:Below w.heap.size w w2:=by rw[hw2];exact hb1.alloc hb1.size _
  have HG2:Hid (w2.heap[w.heap.size]? =some (.cells #[.bool false,.slice none 0 0] 136 (0,0))):=Qd (by rw[hw2];exact(Below.heap_alloc _ _ _ (Pa HG1.out)).trans HG1.out);have HNM:=Qd NM;have HW2:Hid (w2=w1.alloc (.cells #[.int .u32 ((m:Int)%4294967296),.int .u32 ((m:Int)/4294967296)] 139)):=Qd (by rw[hw2];simp);have e1:(m:Int)%4294967296<4294967296:=by omega
  have e2:(m:Int)/4294967296<4294967296:=by omega
  have e3:0<=(m:Int)%4294967296:=by omega
  have e4:0<=(m:Int)/4294967296:=by omega
  clear hw2 NM hnn hr hm1 hm2;go_enter Tryz.func167,Tryz.ntmps167
  go_wp2_with fail
  rw[<-HW1.out,<-HW2.out]
  (with_reducible refine HNM.out.mono ?_)
  rintro e w3 ⟨v3,rfl,hr3,hb3⟩;have HG3:=Qd ((hb3.block w.heap.size (Pa HG2.out)).trans HG2.out);have hbw3:=hb2.trans (hb3.mono hb2.size);have HR3:=Qd (hr3.setRow HG3.out (Nb _ _ _ _) #[.bool false,v3]);obtain⟨⟨A3,c3,rfl,-⟩,-⟩:=hr3;clear hb3 hb1 hb2 HNM;go_wp2_with (with_reducible refine wpList_store_row rfl 136 (.tmp 2) (.tmp 14) rfl w.heap.size #[.bool false,.slice A3 (Nt.digs m).length c3] rfl rfl 136 #[.bool false,.slice none 0 0] HG3.out (HI2.out _ _ _ _) rfl (Rc _ _ _ _) ?_)
  refine bodyPost_ret (results_cell_row (by rfl) _ _ w.heap.size 136 #[.bool false,.slice A3 (Nt.digs m).length c3] (0,0) _ (by rfl) (Ma HG3.out) Tryz.underlying136 rfl (HI2.out _ _ _ _)) rfl ⟨_,by rw[HP.out],by rw[HM.out];exact HR3.out,rBelow.setRow hbw3 Lr _⟩
 obtain⟨m,hm⟩:∃m:Nat,-1-n=(m:Int):=⟨(-1-n).toNat,by omega⟩;have hm63:m<=9223372036854775807:=by omega
 have hm1:m%4294967296<4294967296:=by omega
 have hm2:m/4294967296<4294967296:=by omega
 obtain⟨w2,hw2⟩:∃w2,w2=(w1.alloc (.cells #[.int .u32 ((m%4294967296:Nat):Int),.int .u32 ((m/4294967296:Nat):Int)] 139)).alloc (.cells #[.int .u32 1] 139):=⟨_,rfl⟩;have hr:IsRes w2 (.slice (some ⟨w1.heap.size,0,none⟩) 2 2) [m%4294967296,m/4294967296]:=by
  rw[hw2];exact(Gh w1 [m%4294967296,m/4294967296] (by simp)).below (Br.alloc Lr _)
 have hr':IsRes w2 (.slice (some ⟨w1.heap.size+1,0,none⟩) 1 1) [1]:=by
  have:=Gh (w1.alloc (.cells #[.int .u32 ((m%4294967296:Nat):Int),.int .u32 ((m/4294967296:Nat):Int)] 139)) [1] (by decide);rw[show(w1.alloc (.cells #[.int .u32 ((m%4294967296:Nat):Int),.int .u32 ((m/4294967296:Nat):Int)] 139)).heap.size=w1.heap.size+1 by simp] at this;rw[hw2];exact this
 have AD:=Qga hr hr' (Hda hm1 hm2) (by intro d hd;rw[List.mem_singleton] at hd;subst hd;decide) (by simp) (by simp);rw[E8,show Nt.val [1]=1 from rfl,HS1.out] at AD;have hnn:Rt.nrm true (m+1)=true:=by unfold Rt.nrm;simp
 have HP:Hid (decide (n<0)=true):=Qd (decide_eq_true (by omega));have HM:Hid (n.natAbs=m+1):=Qd (by omega);have hb2:Below w.heap.size w w2:=by rw[hw2];exact(hb1.alloc hb1.size _).alloc (by have:=hb1.size;simp;omega) _
 have HG2:Hid (w2.heap[w.heap.size]? =some (.cells #[.bool false,.slice none 0 0] 136 (0,0))):=Qd (by
  have hlt:=Pa HG1.out;rw[hw2];exact(Below.heap_alloc _ _ _ (by simp;omega)).trans ((Below.heap_alloc _ _ _ hlt).trans HG1.out))
 have HAD:=Qd AD;have HW2:Hid (w2=(w1.alloc (.cells #[.int .u32 ((m:Int)%4294967296),.int .u32 ((m:Int)/4294967296)] 139)).alloc (.cells #[.int .u32 1] 139)):=Qd (by rw[hw2];simp);have HNN:=Qd hnn;have hdl:(Nt.digs (m+1)).length<=64:=by
  have:=Nt.digs_len_lt (n:=m+1) (k:=2) (by omega);omega
 have e0:IntKind.i64.wrap (-1-n)=(m:Int):=by rw[hm];exact IntWalk.i64_in _ (by omega)
 have e1:(m:Int)%4294967296<4294967296:=by omega
 have e2:(m:Int)/4294967296<4294967296:=by omega
 have e3:0<=(m:Int)%4294967296:=by omega
 have e4:0<=(m:Int)/4294967296:=by omega
 have hneg:decide (0<=n)=false:=decide_eq_false hn;have e5:wrap64 (-1-n)=(m:Int):=IntWalk.wrap64_in _ (by omega)|>.trans hm;clear hw2 AD hnn hr hr' hm1 hm2 hm63 h2 hn h1 hm;go_enter Tryz.func167,Tryz.ntmps167
 go_wp2_with fail
 rw[<-HW1.out,<-HW2.out]
 (with_reducible refine HAD.out.mono ?_)
 rintro e w3 ⟨v3,rfl,hr3,hb3⟩;have HG3:=Qd ((hb3.block w.heap.size (Pa HG2.out)).trans HG2.out);have hbw3:=hb2.trans (hb3.mono hb2.size);have NM:=Of true v3 _ w3 ⟨hr3,Nt.ok_digs _,hdl⟩;rw[Nt.val_digs,HNN.out] at NM;have HNM:=Qd NM;obtain⟨A3,c3,rfl,-⟩:=hr3;clear hb3 hb1 hb2 HAD NM;go_wp2_with fail
 (with_reducible refine HNM.out.mono ?_)
 rintro e w4 ⟨v4,rfl,hr4,hb4⟩;have HG4:=Qd ((hb4.block w.heap.size (Pa HG3.out)).trans HG3.out);have hbw4:=hbw3.trans (hb4.mono hbw3.size);have HR4:=Qd (hr4.setRow HG4.out (Nb _ _ _ _) #[.bool true,v4]);obtain⟨⟨A4,c4,rfl,-⟩,-⟩:=hr4;clear hb4 HNM;go_wp2_with (with_reducible refine wpList_store_row rfl 136 (.tmp 2) (.tmp 27) rfl w.heap.size #[.bool true,.slice A4 (Nt.digs (m+1)).length c4] rfl rfl 136 #[.bool false,.slice none 0 0] HG4.out (HI2.out _ _ _ _) rfl (Rc _ _ _ _) ?_)
 refine bodyPost_ret (results_cell_row (by rfl) _ _ w.heap.size 136 #[.bool true,.slice A4 (Nt.digs (m+1)).length c4] (0,0) _ (by rfl) (Ma HG4.out) Tryz.underlying136 rfl (HI2.out _ _ _ _)) rfl ⟨_,by rw[HP.out],by rw[HM.out];exact HR4.out,rBelow.setRow hbw4 Lr _⟩
section
open Go.RowKit
section
variable {P : Program} {ops : Array Oper} {Q : Exit -> Act -> World -> Prop} {md : Region.Mode}
end
end
section
open Go.RowKit
section
variable {P : Program} {ops : Array Oper} {Q : Exit -> Act -> World -> Prop} {md : Region.Mode}
end
end
section
open Go.RowKit
section
variable {P : Program} {ops : Array Oper} {Q : Exit -> Act -> World -> Prop} {md : Region.Mode}
end
end
section
open Go.RowKit
section
variable {P : Program} {ops : Array Oper} {Q : Exit -> Act -> World -> Prop} {md : Region.Mode}
def Ro (frame:(Nat->Value)->Act)(R:Nat->Value->Prop)(S:(Nat->Value)->World->Prop)(xs:Nat->Value)(i:Nat)(a':Act)(w':World):Prop:=∃v,a'=frame (Ta xs i v)/\R i v/\S (Ta xs i v) w'
theorem U6 (acts:List Nat)(frame:(Nat->Value)->Act)(R:Nat->Value->Prop)(S:Nat->(Nat->Value)->World->Prop)
 (step:∀i xs w k,i<ops.size->i∉acts->S k xs w->(∀j,Fb md ops i j=true->R j (xs j))->(∀m j,acts[m]? =some j->m<k->Fb md ops j i=false)->wpOp P ops Q i (Ro frame R (S k) xs i) (frame xs) w)
 (act:∀m i xs w,acts[m]? =some i->S m xs w->(∀j,Fb md ops i j=true->R j (xs j))->wpOp P ops Q i (Ro frame R (S (m+1)) xs i) (frame xs) w)
 (done:∀xs w,S acts.length xs w->(∀i,i<ops.size->R i (xs i))->Q .normal (frame xs) w)
 (hchain:∀m i j,acts[m]? =some j->acts[m+1]? =some i->Fb md ops i j=true) (hnd:acts.Nodup) (hacts:∀i∈acts,i<ops.size)
 (hops:∀i,i<ops.size->∀o,ops[i]? =some o->∀e∈o.after,Region.binds md e=true->e.on<i)
 (xs0:Nat->Value) (w1:World) (hw1:S 0 xs0 w1):wpAny P md ops Q ops.size (Array.replicate ops.size false) (frame xs0) w1:=by
 refine Nf (λl a w=>l.size=ops.size/\∃k xs,k<=acts.length/\a=frame xs/\S k xs w/\(∀m i,acts[m]? =some i->(l[i]? =some true↔m<k))/\(∀i,i<ops.size->l[i]? =some true->R i (xs i))/\∀i j,l[j]? =some true->Fb md ops j i=true->l[i]? =some true) ?_ ?_ ops.size _ _ _ (by simp)
  ⟨by simp,0,xs0,Nat.zero_le _,rfl,hw1,λm i hm=>⟨λh=>by
   have:=hacts i (List.mem_of_getElem? hm);simp[this] at h,λh=>by omega⟩,λi hi h=>by simp[hi] at h,λi j h=>by simp[Array.getElem?_replicate] at h⟩
 ·rintro l a w ⟨hl,k,xs,hk,rfl,hS,hm,hx,hd⟩ i hi
  obtain⟨h1,h2,h3⟩:=Xd hi;have hli:l[i]? =some false:=by
   rw[Array.getD_eq_getD_getElem?] at h2;rw[Array.getElem?_eq_getElem (by omega)] at h2⊢;simp at h2;rw[h2]
  have hlt:∀j,Fb md ops i j=true->j<i:=by
   intro j hj;unfold Fb at hj;rw[Array.getElem?_eq_getElem h1] at hj;simp only[List.any_eq_true,Bool.and_eq_true,beq_iff_eq] at hj;obtain⟨e,he',rfl,hbi⟩:=hj;exact hops i h1 _ (Array.getElem?_eq_getElem h1) e (by simpa using he') hbi
  have hlj:∀j,Fb md ops i j=true->l[j]? =some true:=λj hj=>Um (Vj h3 hj);have hdep:∀j,Fb md ops i j=true->R j (xs j):=λj hj=>hx j (by have:=hlt j hj;omega) (hlj j hj);have hR:∀v,R i v->∀j,j<ops.size->(l.setIfInBounds i true)[j]? =some true->R j (Ta xs i v j):=by
   intro v hv j hj hlj';by_cases e':j=i
   ·subst e';simp only[Ta,if_true];exact hv
   simp only[Ta,if_neg e'];rw[Array.getElem?_setIfInBounds_ne (λh=>e' h.symm)] at hlj';exact hx j hj hlj'
  have hD:∀i' j',(l.setIfInBounds i true)[j']? =some true->Fb md ops j' i'=true->(l.setIfInBounds i true)[i']? =some true:=by
   intro i' j' hj' hdd;have h4:l[i']? =some true:=by
    by_cases e:j'=i
    ·subst e;exact hlj i' hdd
    rw[Array.getElem?_setIfInBounds_ne (λh=>e h.symm)] at hj';exact hd i' j' hj' hdd
   by_cases e:i'=i
   ·subst e;rw[hli] at h4;cases h4
   rw[Array.getElem?_setIfInBounds_ne (λh=>e h.symm)];exact h4
  by_cases hia:i∈acts
  ·obtain⟨m,hmi⟩:=List.getElem?_of_mem hia
   have hmk:¬m<k:=λh=>by rw[(hm m i hmi).2 h] at hli;cases hli
   have hkm:m=k:=by
    cases m with
    |zero=>omega
    |succ m=>
     obtain⟨j,hj⟩:∃j,acts[m]? =some j:=by
      have:m+1<acts.length:=(List.getElem?_eq_some_iff.1 hmi).1;exact⟨_,List.getElem?_eq_getElem (by omega)⟩
     have:=(hm m j hj).1 (hlj j (hchain m i j hj hmi));omega
   subst hkm;have hml:m<acts.length:=(List.getElem?_eq_some_iff.1 hmi).1;refine wpOp_mono ?_ (act m i xs w hmi hS hdep);rintro a' w' ⟨v,rfl,hv,hS'⟩;refine⟨by simpa using hl,m+1,Ta xs i v,hml,rfl,hS',λm' i' hmi'=>?_,hR v hv,hD⟩;by_cases e:m'=m
   ·subst e
    have e2:i'=i:=by rw[hmi] at hmi';exact(Option.some.inj hmi').symm
    subst e2;rw[Array.getElem?_setIfInBounds_self_of_lt (by omega)];exact⟨λ_=>by omega,λ_=>rfl⟩
   have hne:i≠i':=λe3=>by
    subst e3;exact e ((List.getElem?_inj (List.getElem?_eq_some_iff.1 hmi').1 hnd).1 (hmi'.trans hmi.symm))
   rw[Array.getElem?_setIfInBounds_ne hne,hm m' i' hmi'];omega
  refine wpOp_mono ?_ (step i xs w k h1 hia hS hdep (λm j hjm hmk=>by exact(Bool.not_eq_true _).mp (λhdd=>by have:=hd i j ((hm m j hjm).2 hmk) hdd;rw[hli] at this;cases this)));rintro a' w' ⟨v,rfl,hv,hS'⟩;refine⟨by simpa using hl,k,Ta xs i v,hk,rfl,hS',λm' i' hmi'=>?_,hR v hv,hD⟩;have hne:i≠i':=λe3=>by subst e3;exact hia (List.mem_of_getElem? hmi')
  rw[Array.getElem?_setIfInBounds_ne hne];exact hm m' i' hmi'
 rintro l a w ⟨hl,k,xs,hk,rfl,hS,hm,hx,hd⟩ hr;have hall:∀n i,i<n->i<ops.size->l[i]? =some true:=by
  intro n
  induction n with
  |zero=>intro i h;omega
  |succ n ih=>
   intro i hi his;by_cases e:i<n
   ·exact ih i e his
   have hie:i=n:=by omega
   subst hie;cases h:l[i]? with
   |none=>rw[Array.getElem?_eq_none_iff] at h;omega
   |some b=>
    cases b
    ·exfalso
     have:i∈Region.ready md ops l:=by
      simp only[Region.ready,List.mem_filter,List.mem_range,Bool.and_eq_true,Bool.not_eq_true'];refine⟨his,by rw[Array.getD_eq_getD_getElem?,h];rfl,?_⟩;rw[Array.getElem?_eq_getElem his];simp only[Option.map_some,Option.getD_some,Array.all_eq_true_iff_forall_mem];intro e he;cases hbi:Region.binds md e
      ·simp
      have hlt:=hops i his _ (Array.getElem?_eq_getElem his) e he hbi;rw[Array.getD_eq_getD_getElem?,ih e.on hlt (by omega)];simp
     rw[hr] at this;cases this
    rfl
 have hkl:k=acts.length:=by
  rcases Nat.lt_or_ge k acts.length with h |h
  ·have h1:=hacts _ (List.getElem_mem h)
   have h2:=(hm k _ (List.getElem?_eq_getElem h)).1 (hall (acts[k]+1) _ (by omega) h1);omega
  omega
 subst hkl;exact done xs w hS (λi hi=>hx i hi (hall (i+1) i (by omega) hi))
theorem Hj (acts:List Nat)(frame:(Nat->Value)->Act)(R:Nat->Value->Prop)(S:Nat->(Nat->Value)->World->Prop){id:Nat}{a:Act}{w:World}(hm:P.follows .mixedOrders=true)
 (hchain:(List.range acts.length).all (λm=>match acts[m]?,acts[m+1]? with
  |some j,some i=>Fb .any ops i j
  |_,_=>true)=true) (hnd:decide acts.Nodup=true) (hacts:acts.all (λi=>decide (i<ops.size))=true)
 (hops:ops.toList.zipIdx.all (λp=>p.1.after.all λe=> !Region.binds .any e||decide (e.on<p.2))=true)
 (xs0:Nat->Value) (ha:a=frame xs0) (hw:S 0 xs0 w.drew)
 (step:∀i xs w k,i<ops.size->i∉acts->S k xs w->(∀j,Fb .any ops i j=true->R j (xs j))->(∀m j,acts[m]? =some j->m<k->Fb .any ops j i=false)->wpOp P ops Q i (Ro frame R (S k) xs i) (frame xs) w)
 (act:∀m i xs w,acts[m]? =some i->S m xs w->(∀j,Fb .any ops i j=true->R j (xs j))->wpOp P ops Q i (Ro frame R (S (m+1)) xs i) (frame xs) w)
 (done:∀xs w,S acts.length xs w->(∀i,i<ops.size->R i (xs i))->Q .normal (frame xs) w):(Code.region id ops true).wp P Q a w:=by
 subst ha;refine wp_region_any hm (U6 acts frame R S step act done ?_ (of_decide_eq_true hnd) ?_ ?_ xs0 _ hw)
 ·intro m i j hj hi
  rw[List.all_eq_true] at hchain;have h:=hchain m (by
   rw[List.mem_range];exact(List.getElem?_eq_some_iff.1 hj).1)
  rw[hj,hi] at h;exact h
 ·intro i hi
  rw[List.all_eq_true] at hacts
  simpa using hacts i hi
 intro i hi o ho e he hbi;rw[List.all_eq_true] at hops;have h:=hops (o,i) (by
  rw[List.mem_zipIdx_iff_getElem?]
  simpa using ho)
 rw[Array.all_eq_true_iff_forall_mem] at h;have h':=h e he;rw[hbi] at h'
 simpa using h'
end
end
section
open Go Go.RowKit
structure Turns (r:Nat) (J:Nat->World->Prop):Prop where
 more:∀k A B,J k A->Below A.heap.size A B->J k B
 set:∀k A (v:List UInt8),J k A->J k (A.setCell ⟨r,0,none⟩ (.string ⟨v.toArray⟩))
def J0 {α:Type}(n:Nat)(P:Program)(g:Nat)(lb:Array Value)(encs:α->Array Value)(xs:List α)(r:Nat)(ks:List Nat)(w:World):Prop:=
 ∀(l:Nat) (J Jx:Nat->World->Prop) (W:World),Below w.heap.size w W->Turns r J->Turns r Jx->
  (∀k (hk:k<xs.length) W1,J k W1->YieldAt Fence.wide (n-1) P l (encs xs[k]) W1 λe W'=>(e= .returned (.bool true)/\J (k+1) W'/\∀b∈ks,W'.heap[b]? =W1.heap[b]?)\/(e= .returned (.bool false)/\Jx k W'))->
  J 0 W->CallsIn Fence.wide n P g (#[.func (.yield l) #[] #[]]++lb) W λe W'=>(∃v,e= .returned v)/\(J xs.length W'\/∃k,k<xs.length/\Jx k W')
def Bja (ks:List Nat)(I Ix:Nat->World->Prop)(k:Nat)(W:World):Exit->Act->World->Prop
 | .normal,_,W'=>KeepsOthers W W'/\(∀b∈ks,W'.heap[b]? =W.heap[b]?)/\I (k+1) W'
 | .ret,_,W'=>KeepsOthers W W'/\Ix k W'
 |_,_,_=>False
structure Vu (r B:Nat) (I:Nat->World->Prop):Prop where
 own:OwnFrom B I
 set:∀k A (v:List UInt8),I k A->I k (A.setCell ⟨r,0,none⟩ (.string ⟨v.toArray⟩))
theorem Rga {w w':World}(h:Below w.heap.size w w'):w.grownBy w' none:=⟨h.os,h.tape,h.output,h.size,λk hk _=>h.block k hk⟩
theorem Hh {W:World}{a:Addr}{v:Value}{k:Nat}(h:k≠a.block):(W.setCell a v).heap[k]? =W.heap[k]? :=by
 show(W.heap.modify a.block _)[k]? =_;rw[Array.getElem?_modify,if_neg (λe=>h e.symm)]
theorem Ts {r B p q:Nat}{I:Nat->World->Prop}{o o':Obj}(h:Vu r B I)(hp:p≠r)(hq:q≠r):Turns r (λk W=>I k W/\W.heap[p]? =some o/\W.heap[q]? =some o'):=
 ⟨λk A A' ⟨h1,h2,h3⟩ hb=>⟨h.own k A A' none h1 (Rga hb) (λr e=>by cases e),(hb.block _ (Array.getElem?_eq_some_iff.1 h2).1).trans h2,(hb.block _ (Array.getElem?_eq_some_iff.1 h3).1).trans h3⟩,
  λk A v ⟨h1,h2,h3⟩=>⟨h.set k A v h1,(Hh hp).trans h2,(Hh hq).trans h3⟩⟩
section
variable {n : Nat} {P : Program}
theorem Zl {α:Type}{g:Operand}{ps:Array Tmp}{assign body:Code}{Q:Exit->Act->World->Prop}{a:Act}{w:World}{gf:Nat}{lb:Array Value}(hg:a.eval g= .func (.func gf) #[] lb)
 (eg:∀args w,(callFunc gf args).run P w= .ok (.enter gf args) w) {encs:α->Array Value} {xs:List α} {r:Nat} {ks:List Nat} (hr:r<w.heap.size) (hks:∀b∈ks,b<w.heap.size) (hn:1<=n) (hseq:J0 (n-1) P gf lb encs xs r ks w) (hps:∀x,(encs x).size=ps.size)
 (I Ix:Nat->World->Prop) (hI:Vu r w.heap.size I) (hIx:Vu r w.heap.size Ix) (h0:I 0 w) (a₁:α->Act)
 (hassign:∀(l:Nat) (x:α) (W:World) (K:Act->World->Prop),K (a₁ x) W->assign.wpIn (Fence.wide.inRound l) (n-1-1) P (Exit.then K (λ_ _ _=>False)) {tmps:=(ps.zip (encs x)).foldl (λt (p,v)=>t.setIfInBounds p v) a.tmps,defers:=[]} W)
 (hbody:∀(l k:Nat) (hk:k<xs.length) (W:World),I k W->body.wpIn (Fence.wide.inRound l) (n-1-1) P (Bja ks I Ix k W) (a₁ xs[k]) W)
 (hdone:∀(D:Nat) (W:World),w.heap.size<=D->I xs.length W->W.heap[D]? =some (.deferred (some []))->Q .normal {a with defers:={target:= .collected D,args:= #[]}::a.defers} W)
 (hstop:∀(D k:Nat) (W:World),w.heap.size<=D->k<xs.length->Ix k W->W.heap[D]? =some (.deferred (some []))->Code.ret.wpIn Fence.wide n P Q {a with defers:={target:= .collected D,args:= #[]}::a.defers} W):
 (Code.rangeFunc g ps assign body).wpIn Fence.wide n P Q a w:=by
 refine wpIn_rangeFunc ?_;intro fn hfn;rw[show Fence.wide.round=none from rfl];obtain⟨D,hD⟩:∃D,D=w.heap.size:=⟨_,rfl⟩;obtain⟨rec,hrec⟩:∃rec:LoopState->Option Code->Loop,rec=λst pe=>{state:=st,pending:=pe,fn,tmps:=a.tmps,params:=ps,assign,body,defers:=D}:=⟨_,rfl⟩;obtain⟨W1,hW1⟩:∃W1,(w.alloc (.deferred (some []))).alloc (.loop (rec .ready none))=W1:=⟨_,rfl⟩;have hL:W1.heap[D+1]? =some (.loop (rec .ready none)):=by
  rw[<-hW1,hD];have:=World.alloc_heap_new (w.alloc (.deferred (some []))) (.loop (rec .ready none));rwa[World.size_alloc] at this
 have hK:W1.heap[D]? =some (.deferred (some [])):=by
  rw[<-hW1,hD];exact(Below.heap_alloc _ _ _ (by simp)).trans (World.alloc_heap_new w _)
 have hI1:I 0 W1:=by rw[<-hW1];exact hI.own.alloc _ (hI.own.alloc _ h0)
 have hb1:Below w.heap.size w W1:=by rw[<-hW1];exact((Below.refl _ w).alloc Lr _).alloc (by simp) _
 have fin:∀(jump:Option Code) (W W3:World),W.heap[D+1]? =some (.loop (rec .ready none))->W.heap[D]? =some (.deferred (some []))->KeepsOthers (W.putObj (D+1) (.loop {rec .ready none with state:= .busy})) W3->
  ∃o,W3.heap[D+1]? =some o/\o.isCells=false/\(Instr.endRound (D+1) jump).run P W3= .ok (.bool jump.isNone) (W3.putObj (D+1) (.loop (rec (if jump.isNone then .ready else .done) jump)))/\
   (W3.putObj (D+1) (.loop (rec (if jump.isNone then .ready else .done) jump))).heap[D+1]? =some (.loop (rec (if jump.isNone then .ready else .done) jump))/\
   (W3.putObj (D+1) (.loop (rec (if jump.isNone then .ready else .done) jump))).heap[D]? =some (.deferred (some [])):=by
  intro jump W W3 hl hk h3;have hlt:=(Array.getElem?_eq_some_iff.1 hl).1;have e1:=h3.same (D+1) _ (World.putObj_heap_same hlt) rfl;have e2:=h3.same D _ ((World.putObj_heap_other (by omega)).trans hk) rfl;refine⟨_,e1,rfl,?_,World.putObj_heap_same (Array.getElem?_eq_some_iff.1 e1).1,(World.putObj_heap_other (by omega)).trans e2⟩;have:=run_endRound (P:=P) jump e1;rw[hrec] at this⊢;exact this
 refine⟨D+1,[{target:= .collected D,args:= #[]}],W1,{target:= .fn (.func gf) lb,args:= #[.func (.yield (D+1)) #[] #[]]},W1,gf,#[.func (.yield (D+1)) #[] #[]]++lb,W1,?_,?_,?_,?_,λ_=>hn,?_⟩
 ·rw[<-hW1,hrec,hD];exact run_enterLoop_outer _ _ _ _ _
 ·simp only[resolve,hg]
  simp[go_sem]
 ·exact λ_ _=>trivial
 ·simp[invoke,go_sem,eg]
 refine(hseq (D+1) (λk W=>I k W/\W.heap[D+1]? =some (.loop (rec .ready none))/\W.heap[D]? =some (.deferred (some []))) (λk W=>Ix k W/\W.heap[D+1]? =some (.loop (rec .done (some .ret)))/\W.heap[D]? =some (.deferred (some []))) W1 hb1
  (Ts hI (by omega) (by omega)) (Ts hIx (by omega) (by omega)) ?_ ⟨hI1,hL,hK⟩).mono ?_
 ·rintro k hk W ⟨hi,hl,hd⟩
  have hlt:=(Array.getElem?_eq_some_iff.1 hl).1;have hy:=run_yield (P:=P) (args:=encs xs[k]) hl (by rw[hrec];exact hps _);rw[hrec] at hy;refine⟨fn,_,assign,body,hy,roundIn_of_wpIn hfn (hassign _ xs[k] W _ ⟨_,run_beginRound hl (by rw[hrec]),?_⟩)⟩;refine wpIn_mono (hbody _ k hk _ (hI.own.putObj _ hi (by omega) hl rfl)) ?_;rintro e a3 W3 hp;cases e with
  |normal=>
   obtain⟨h3,hr3,hi3⟩:=hp;obtain⟨o,e0,e1,e2,e3,e4⟩:=fin none W W3 hl hd h3;exact⟨_,_,e2,.inl ⟨rfl,⟨hI.own.putObj _ hi3 (by omega) e0 e1,e3,e4⟩,λb hb=>by
    have:=hks b hb;exact(World.putObj_heap_other (by omega)).trans ((hr3 b hb).trans (World.putObj_heap_other (by omega)))⟩⟩
  |ret=>
   obtain⟨h3,hi3⟩:=hp;obtain⟨o,e0,e1,e2,e3,e4⟩:=fin (some .ret) W W3 hl hd h3;exact⟨_,_,e2,.inr ⟨rfl,hIx.own.putObj _ hi3 (by omega) e0 e1,e3,e4⟩⟩
  |exit id=>exact hp.elim
  |goto t=>exact hp.elim
  |panic ch=>exact hp.elim
  |outgrown=>exact hp.elim
 rintro e W2 ⟨⟨v,rfl⟩,(⟨hi,hl,hd⟩ |⟨k,hk,hi,hl,hd⟩)⟩
 ·exact⟨none,_,by have:=run_endLoop (P:=P) hl (by rw[hrec];simp);rw[hrec] at this;exact this,hdone _ _ (by omega) (hI.own.putObj _ hi (by omega) hl rfl) ((World.putObj_heap_other (by omega)).trans hd)⟩
 exact⟨some .ret,_,by have:=run_endLoop (P:=P) hl (by rw[hrec];simp);rw[hrec] at this;exact this,hstop _ k _ (by omega) hk (hIx.own.putObj _ hi (by omega) hl rfl) ((World.putObj_heap_other (by omega)).trans hd)⟩
end
end
section
open Go Go.RowKit
section
variable {l n : Nat} {P : Program} {o : Oper} {a : Act} {w : World} {Q : Exit -> Act -> World -> Prop} {K : Act -> World -> Prop}
theorem Sga (hd:∀c,o.op≠ .defer c)(h:o.wp P a w K Q):o.wpIn (Fence.wide.inRound l) n P a w K Q:=by
 refine⟨λ_ _=>trivial,?_⟩;rw[Oper.semAt_eq _ _ _ hd];unfold Oper.wp at h
 revert h
 cases (execOp a.eval o).run P w with
 |ok nx w'=>
  intro h;cases nx with
  |value v=>exact h
  |skip=>exact h
  |defer d=>exact h
  |enter f args=>exact⟨λe=>(by cases e),CallsIn.inRound l (callsIn_wide.2 h)⟩
  |row row args=>exact⟨λe=>(by cases e),λc cs _=>let ⟨v,w',r,s⟩:=h c cs;⟨v,w',r,stepsIn_wide.2 s⟩⟩
  |_=>exact h.elim
 |halt e w'=>
  intro h;cases e<;>exact h
variable {ops : Array Oper} {rest : List Oper}
theorem Bf (hg:o.guard=none)(hd:∀c,o.op≠ .defer c)(h:∀K:Act->World->Prop,(∀a w,wpListIn (Fence.wide.inRound l) n P ops Q rest a w->K a w)->o.wp P a w K Q):wpListIn (Fence.wide.inRound l) n P ops Q (o::rest) a w:=
 wpListIn_plain hg λK hK=>Sga hd (h K hK)
end
end
def Tga {β:Type}(bx:Nat)(J:β->World->Prop):Prop:=∀s W W' row,J s W->W.grownBy W' row->(∀r,row=some r->r=bx)->J s W'
def Lia {α:Type}(n:Nat)(P:Program)(g:Nat)(lb:Array Value)(encs:α->Array Value)(Kp:World->World->Prop)(xs:List α)(bx:Nat)(w:World):Prop:=
 ∀(l:Nat) (J:List α->World->Prop) (W:World),Below w.heap.size w W->Tga bx J->
  (∀pre x W1,J pre W1->pre.length<xs.length->YieldAt Fence.wide (n-1) P l (encs x) W1 λe W'=>e= .returned (.bool true)/\J (pre++[x]) W'/\Kp W1 W')->
  J [] W->CallsIn Fence.wide n P g (#[.func (.yield l) #[] #[]]++lb) W λe W'=>(∃v,e= .returned v)/\J xs W'
def Cja {α:Type}(Kp:World->World->Prop)(I:List α->World->Prop)(xs:List α)(W:World):Exit->Act->World->Prop
 | .normal,_,W'=>KeepsOthers W W'/\Kp W W'/\I xs W'
 |_,_,_=>False
def Mia {β:Type}(bx B:Nat)(I:β->World->Prop):Prop:=
 ∀s W W' row,I s W->W.grownBy W' row->(∀r,row=some r->r=bx\/(B<=r/\∃o:Obj,W.heap[r]? =some o/\o.isCells=false))->I s W'
theorem Ida {P:Program}{α:Type}{n:Nat}{g:Operand}{ps:Array Tmp}{assign body:Code}{Q:Exit->Act->World->Prop}{a:Act}{w:World}(h1:1<=n)
 {gf:Nat} {lb:Array Value} (hg:a.eval g= .func (.func gf) #[] lb) (eg:∀args w,(callFunc gf args).run P w= .ok (.enter gf args) w)
 {encs:α->Array Value} {Kp:World->World->Prop} {xs:List α} {bx:Nat} {w0:World} (hseq:Lia (n-1) P gf lb encs Kp xs bx w0)
 (hKt:∀{A B C:World},Kp A B->Kp B C->Kp A C) (hKb:∀(W:World) (l:Nat) (o':Obj),w.heap.size<=l->Kp W (W.putObj l o'))
 (hb0:Below w0.heap.size w0 w) (hps:∀x,(encs x).size=ps.size) (hbx:bx<w.heap.size)
 (I:List α->World->Prop) (hI:Mia bx w.heap.size I) (h0:I [] w) (a₁:α->Act)
 (hassign:∀(l:Nat) (x:α) (W:World) (K:Act->World->Prop),K (a₁ x) W->
  assign.wpIn (Fence.wide.inRound l) (n-1-1) P (Exit.then K (λ_ _ _=>False)) {tmps:=(ps.zip (encs x)).foldl (λt (p,v)=>t.setIfInBounds p v) a.tmps,defers:=[]} W)
 (hbody:∀(l:Nat) (pre:List α) (x:α) (W:World),I pre W->pre.length<xs.length->body.wpIn (Fence.wide.inRound l) (n-1-1) P (Cja Kp I (pre++[x]) W) (a₁ x) W)
 (hdone:∀(D:Nat) (W:World),w.heap.size<=D->I xs W->W.heap[D]? =some (.deferred (some []))->Q .normal {a with defers:={target:= .collected D,args:= #[]}::a.defers} W):
 (Code.rangeFunc g ps assign body).wpIn Fence.wide n P Q a w:=by
 refine wpIn_rangeFunc ?_;intro fn hfn;obtain⟨rec,hrec⟩:∃rec:LoopState->Option Code->Loop,rec=λst pe=>{state:=st,pending:=pe,fn,tmps:=a.tmps,params:=ps,assign,body,defers:=w.heap.size}:=⟨_,rfl⟩;obtain⟨W1,hW1⟩:∃W1,(w.alloc (.deferred (some []))).alloc (.loop (rec .ready none))=W1:=⟨_,rfl⟩;have hL1:W1.heap[w.heap.size+1]? =some (.loop (rec .ready none)):=by
  rw[<-hW1];have:=World.alloc_heap_new (w.alloc (.deferred (some []))) (.loop (rec .ready none));rwa[World.size_alloc] at this
 have hK1:W1.heap[w.heap.size]? =some (.deferred (some [])):=by
  rw[<-hW1];exact(Below.heap_alloc _ _ _ (by simp)).trans (World.alloc_heap_new w _)
 have hal:∀{s:List α} {W:World} (o:Obj),I s W->I s (W.alloc o):=λo hs=>hI _ _ _ none hs (World.grownBy_alloc _ o none) (λr e=>by cases e);have hput:∀{s:List α} {W:World} {l:Nat} {o:Obj} (o':Obj),I s W->w.heap.size<=l->W.heap[l]? =some o->o.isCells=false->I s (W.putObj l o'):=
  λ{s W l o} o' hs hB hl ho=>hI s W _ (some l) hs (grownBy_putObj' W l o') (λr e=>by cases e;exact .inr ⟨hB,o,hl,ho⟩)
 have hI1:I [] W1:=by rw[<-hW1];exact hal _ (hal _ h0)
 have hb1:Below w0.heap.size w0 W1:=by
  rw[<-hW1];exact hb0.trans ((((Below.refl _ w).alloc Lr _).alloc (by simp) _).mono hb0.size)
 refine⟨w.heap.size+1,[{target:= .collected w.heap.size,args:= #[]}],W1,{target:= .fn (.func gf) lb,args:= #[.func (.yield (w.heap.size+1)) #[] #[]]},W1,gf,
  #[.func (.yield (w.heap.size+1)) #[] #[]]++lb,W1,?_,?_,?_,?_,λ_=>h1,?_⟩
 ·rw[<-hW1,hrec];exact run_enterLoop_outer _ _ _ _ _
 ·simp only[resolve,hg]
  simp[go_sem]
 ·intro f' hf';trivial
 ·simp[invoke,go_sem,eg]
 refine(hseq (w.heap.size+1) (λpre W=>I pre W/\W.heap[w.heap.size+1]? =some (.loop (rec .ready none))/\W.heap[w.heap.size]? =some (.deferred (some []))) W1 hb1 ?_ ?_ ⟨hI1,hL1,hK1⟩).mono ?_
 ·rintro s A B row ⟨hs,hl,hk⟩ hg' hr
  have far:∀k,w.heap.size<=k->k<A.heap.size->B.heap[k]? =A.heap[k]? :=λk hk1 hk2=>hg'.block k hk2 (λe=>by have:=hr k e.symm;omega);exact⟨hI s A B row hs hg' (λr e=> .inl (hr r e)),(far _ (by omega) (Array.getElem?_eq_some_iff.1 hl).1).trans hl,(far _ Lr (Array.getElem?_eq_some_iff.1 hk).1).trans hk⟩
 ·rintro pre x W ⟨hi,hl,hk⟩ hlen
  have hlt:w.heap.size+1<W.heap.size:=(Array.getElem?_eq_some_iff.1 hl).1;have hy:=run_yield (P:=P) (args:=encs x) hl (by rw[hrec];exact hps x);rw[hrec] at hy;refine⟨fn,_,assign,body,hy,roundIn_of_wpIn hfn (hassign _ x W _ ⟨_,run_beginRound hl (by rw[hrec]),?_⟩)⟩;obtain⟨W2,hW2⟩:∃W2,W2=W.putObj (w.heap.size+1) (.loop {rec .ready none with state:= .busy}):=⟨_,rfl⟩;rw[<-hW2];have hl2:W2.heap[w.heap.size+1]? =some (.loop {rec .ready none with state:= .busy}):=by rw[hW2];exact World.putObj_heap_same hlt
  have hk2:W2.heap[w.heap.size]? =some (.deferred (some [])):=by rw[hW2];exact(World.putObj_heap_other (by omega)).trans hk
  have hw2:Kp W W2:=by rw[hW2];exact hKb _ _ _ (by omega)
  have hi2:I pre W2:=by rw[hW2];exact hput _ hi (by omega) hl rfl
  refine wpIn_mono (hbody _ pre x _ hi2 hlen) ?_;rintro e a3 W3 hp;cases e with
  |normal=>
   obtain⟨hk3,hkp3,hi3⟩:=hp;have hl3:=hk3.same _ _ hl2 rfl;have hr:=run_endRound (P:=P) none hl3;refine⟨_,_,hr,rfl,⟨hput _ hi3 (by omega) hl3 rfl,?_,(World.putObj_heap_other (by omega)).trans (hk3.same _ _ hk2 rfl)⟩,hKt (hKt hw2 hkp3) (hKb _ _ _ (by omega))⟩;rw[hrec];exact World.putObj_heap_same (Array.getElem?_eq_some_iff.1 hl3).1
  |ret=>exact hp.elim
  |exit id=>exact hp.elim
  |goto t=>exact hp.elim
  |panic ch=>exact hp.elim
  |outgrown=>exact hp.elim
 rintro e W2 ⟨⟨v,rfl⟩,hi,hl,hk⟩;exact⟨none,_,by have:=run_endLoop (P:=P) hl (by rw[hrec];simp);rw[hrec] at this;exact this,hdone _ _ Lr (hput _ hi (by omega) hl rfl) ((World.putObj_heap_other (by omega)).trans hk)⟩
section
open Go.RowKit
structure PV where
 p:World->Value->Prop
 m:∀w w' v,p w v->Below w.heap.size w w'->p w' v
 known:Bool
 v:Value
 hv:known=true->∀w x,p w x->x=v
def pv (v:Value):PV:=⟨λ_ x=>x=v,λ_ _ _ h _=>h,true,v,λ_ _ _ h=>h⟩
def pq (p:World->Value->Prop)(m:∀w w' v,p w v->Below w.heap.size w w'->p w' v):PV:=⟨p,m,false,undef,λh=>by cases h⟩
def Xf:List PV->Nat->PV
 | [],_=>pq (λ_ _=>True) (λ_ _ _ h _=>h)
 |p::_,0=>p
 |_::l,n+1=>Xf l n
def Naa (L:List PV)(i:Nat)(w:World)(x:Value):Prop:=(Xf L i).p w x
def Oaa:List Value->Nat->Value
 | [],_=>undef
 |v::_,0=>v
 |_::l,n+1=>Oaa l n
def Wu (p:Nat->Prop):Nat->Prop
 | 0=>True
 |n+1=>Wu p n/\p n
theorem Xu {p:Nat->Prop}:∀{n:Nat},Wu p n->∀i,i<n->p i
 | 0,_,i,h=>absurd h (Nat.not_lt_zero _)
 |n+1,h,i,hi=>by
  by_cases e:i=n
  ·subst e;exact h.2
  exact Xu h.1 i (by omega)
def Cf (c:Nat->Bool)(xs:Nat->Value):List PV->Nat->Prop
 | [],_=>True
 |p::l,k=>((c k&&p.known)=true->xs k=p.v)/\Cf c xs l (k+1)
theorem Ih {c:Nat->Bool}{xs:Nat->Value}:∀(L:List PV) (k:Nat),(∀j,(c (k+j)&&(Xf L j).known)=true->xs (k+j)=(Xf L j).v)->Cf c xs L k
 | [],_,_=>trivial
 |p::l,k,h=>⟨h 0,Ih l (k+1) (λj hj=>by
  have:=h (j+1);rw[show k+(j+1)=k+1+j by omega] at this;exact this hj)⟩
section
variable {P : Program} {ops : Array Oper} {Q : Exit -> Act -> World -> Prop}
theorem M0 (frame:(Nat->Value)->Act)(w0:World)(L:List PV)(n:Nat){id:Nat}{a:Act}{w:World}(hm:P.follows .mixedOrders=true)
 (hops:ops.toList.zipIdx.all (λp=>p.1.after.all λe=>decide (e.on<p.2))=true) (hn:ops.size=n)
 (xs0:Nat->Value) (ha:a=frame xs0) (hw:Below w0.heap.size w0 w)
 (step:Wu (λi=>∀xs w,Below w0.heap.size w0 w->(∀j,Fb .any ops i j=true->(Xf L j).p w (xs j))->Cf (Fb .any ops i) xs L 0->wpOp P ops Q i (Ni frame (Naa L) xs i w) (frame xs) w) n)
 (done:∀xs w,Below w0.heap.size w0 w->(∀i,i<n->(Xf L i).p w (xs i))->Cf (λi=>decide (i<n)) xs L 0->Q .normal (frame xs) w):(Code.region id ops true).wp P Q a w:=
 Hk frame w0 (Naa L) hm (λi w w' v h hb=>(Xf L i).m w w' v h hb) hops xs0 ha hw
  (λi xs w hi hb hd=>Xu step i (hn▸hi) xs w hb hd (Ih L 0 (λj h=>by
   rw[Nat.zero_add] at h⊢;rw[Bool.and_eq_true] at h;exact(Xf L j).hv h.2 w _ (hd j h.1))))
  (λxs w hb hx=>done xs w hb (λi hi=>hx i (hn▸hi)) (Ih L 0 (λi h=>by
   rw[Nat.zero_add] at h⊢;rw[Bool.and_eq_true,decide_eq_true_eq] at h;exact(Xf L i).hv h.2 w _ (hx i (hn▸h.1)))))
end
end
section
open Go.RowKit
section
variable {P : Program} {ops : Array Oper} {Q : Exit -> Act -> World -> Prop} {md : Region.Mode}
def Bn (md:Region.Mode)(ops:Array Oper):List Nat->Bool
 |a::b::r=>Fb md ops a b&&Bn md ops (b::r)
 |_=>true
def Us (xs xs0:Nat->Value)(i:Nat):List (List Nat)->Prop
 | []=>True
 |p::r=>(p.getLast?=some i->xs (p.headD 0)=xs0 (p.headD 0))/\Us xs xs0 i r
theorem Vs {l:Array Bool}(hcl:∀j i,Fb md ops j i=true->l[j]? =some true->l[i]? =some true):∀(p:List Nat) (a:Nat),Bn md ops (a::p)=true->l[a]? =some true->∀b,(a::p).getLast?=some b->l[b]? =some true
 | [],a,_,h,b,hb=>by simp at hb;subst hb;exact h
 |c::r,a,hc,h,b,hb=>by
  rw[Bn,Bool.and_eq_true] at hc;exact Vs hcl r c hc.2 (hcl a c hc.1 h) b (by simpa using hb)
theorem O0 {xs xs0:Nat->Value}{i:Nat}:∀(ps:List (List Nat)),(∀p∈ps,p.getLast?=some i->xs (p.headD 0)=xs0 (p.headD 0))->Us xs xs0 i ps
 | [],_=>trivial
 |p::r,h=>⟨h p (by simp),O0 r (λq hq=>h q (by simp[hq]))⟩
theorem Jda (ps:List (List Nat))(hps:ps.all (Bn md ops)=true)(frame:(Nat->Value)->Act)(w0:World)(R:Nat->World->Value->Prop)
 (hR:∀i w w' v,R i w v->Below w.heap.size w w'->R i w' v) (xs0:Nat->Value)
 (step:∀i xs w,i<ops.size->Below w0.heap.size w0 w->(∀j,Fb md ops i j=true->R j w (xs j))->Us xs xs0 i ps->wpOp P ops Q i (Ni frame R xs i w) (frame xs) w)
 (done:∀xs w,Below w0.heap.size w0 w->(∀i,i<ops.size->R i w (xs i))->Q .normal (frame xs) w)
 (hops:∀i,i<ops.size->∀o,ops[i]? =some o->∀e∈o.after,e.on<i)
 (w1:World) (hw1:Below w0.heap.size w0 w1):wpAny P md ops Q ops.size (Array.replicate ops.size false) (frame xs0) w1:=by
 have h00:∀i,(Array.replicate ops.size false)[i]? ≠some true:=λi h=>by
  rw[Array.getElem?_replicate] at h
  split at h<;>cases h
 refine Nf (λl a w=>l.size=ops.size/\Below w0.heap.size w0 w/\(∀j i,Fb md ops j i=true->l[j]? =some true->l[i]? =some true)/\∃xs,a=frame xs/\∀i,(i<ops.size->l[i]? =some true->R i w (xs i))/\(l[i]? ≠some true->xs i=xs0 i)) ?_ ?_ ops.size _ _ _ (by simp) ⟨by simp,hw1,λj i _ h=>absurd h (h00 j),xs0,rfl,λi=>⟨λhi h=>absurd h (h00 i),λ_=>rfl⟩⟩
 ·rintro l a w ⟨hl,hb,hcl,xs,rfl,hx⟩ i hi
  obtain⟨h1,h2,h3⟩:=Xd hi;have hli:l[i]? =some false:=by
   rw[Array.getD_eq_getD_getElem?] at h2;rw[Array.getElem?_eq_getElem (by omega)] at h2⊢;simp at h2;rw[h2]
  have hdep:∀j,Fb md ops i j=true->j<i/\l[j]? =some true:=by
   intro j hj;obtain⟨o,ho⟩:∃o,ops[i]? =some o:=⟨_,Array.getElem?_eq_getElem h1⟩;unfold Fb at hj;rw[ho] at hj;simp only[List.any_eq_true,Bool.and_eq_true,beq_iff_eq] at hj;obtain⟨e,he',rfl,hbe⟩:=hj;have he:e∈o.after:=by simpa using he'
   have hlt:=hops i h1 o ho e he;rw[ho] at h3;simp only[Option.map_some,Option.getD_some,Array.all_eq_true_iff_forall_mem] at h3;have h4:=h3 e he;rw[hbe] at h4;simp only[Bool.not_true,Bool.false_or] at h4;refine⟨hlt,?_⟩;rw[Array.getD_eq_getD_getElem?,Array.getElem?_eq_getElem (by omega)] at h4;rw[Array.getElem?_eq_getElem (by omega)];simp at h4;rw[h4]
  have hset:∀j,l[j]? =some true->(l.setIfInBounds i true)[j]? =some true:=λj hj=>by
   by_cases e:i=j
   ·subst e;rw[hli] at hj;cases hj
   rw[Array.getElem?_setIfInBounds_ne e];exact hj
  refine wpOp_mono ?_ (step i xs w h1 hb (λj hj=>(hx j).1 (by have:=(hdep j hj).1;omega) (hdep j hj).2) (O0 ps λp hp hlast=>?_))
  ·rintro a' w' ⟨v,rfl,hv,hb'⟩
   refine⟨by simpa using hl,hb.trans (hb'.mono hb.size),λj k hjk hlj=>?_,Ta xs i v,rfl,λj=>⟨λhj hlj=>?_,λhlj=>?_⟩⟩
   ·by_cases e:j=i
    ·subst e;exact hset _ (hdep k hjk).2
    rw[Array.getElem?_setIfInBounds_ne (λh=>e h.symm)] at hlj;exact hset _ (hcl j k hjk hlj)
   ·by_cases e:j=i
    ·subst e;simp only[Ta,if_true];exact hv
    simp only[Ta,if_neg e];rw[Array.getElem?_setIfInBounds_ne (λh=>e h.symm)] at hlj;exact hR j w w' _ ((hx j).1 hj hlj) hb'
   by_cases e:j=i
   ·subst e
    exact absurd (by rw[Array.getElem?_setIfInBounds_self_of_lt (by omega)]) hlj
   simp only[Ta,if_neg e];exact(hx j).2 (λh=>hlj (hset _ h))
  refine(hx _).2 (λh=>?_);cases p with
  |nil=>cases hlast
  |cons a r=>
   have:=Vs hcl r a (List.all_eq_true.1 hps _ hp) h i hlast;rw[hli] at this;cases this
 rintro l a w ⟨hl,hb,hcl,xs,rfl,hx⟩ hr;refine done xs w hb ?_;have hall:∀n i,i<n->i<ops.size->l[i]? =some true:=by
  intro n
  induction n with
  |zero=>intro i h;omega
  |succ n ih=>
   intro i hi his;by_cases e:i<n
   ·exact ih i e his
   have hie:i=n:=by omega
   subst hie;cases h:l[i]? with
   |none=>rw[Array.getElem?_eq_none_iff] at h;omega
   |some b=>
    cases b
    ·exfalso
     have:i∈Region.ready md ops l:=by
      simp only[Region.ready,List.mem_filter,List.mem_range,Bool.and_eq_true,Bool.not_eq_true'];refine⟨his,by rw[Array.getD_eq_getD_getElem?,h];rfl,?_⟩;rw[Array.getElem?_eq_getElem his];simp only[Option.map_some,Option.getD_some,Array.all_eq_true_iff_forall_mem];intro e he;have hlt:=hops i his _ (Array.getElem?_eq_getElem his) e he;rw[Array.getD_eq_getD_getElem?,ih e.on hlt (by omega)];simp
     rw[hr] at this;cases this
    rfl
 intro i hi;exact(hx i).1 hi (hall (i+1) i (by omega) hi)
theorem Iy (ps:List (List Nat))(frame:(Nat->Value)->Act)(w0:World)(L:List PV)(n:Nat){id:Nat}{a:Act}{w:World}(hm:P.follows .mixedOrders=true)(hps:ps.all (Bn .any ops)=true)
 (hops:ops.toList.zipIdx.all (λp=>p.1.after.all λe=>decide (e.on<p.2))=true) (hn:ops.size=n)
 (xs0:Nat->Value) (ha:a=frame xs0) (hw:Below w0.heap.size w0 w)
 (step:Wu (λi=>∀xs w,Below w0.heap.size w0 w->(∀j,Fb .any ops i j=true->(Xf L j).p w (xs j))->Cf (Fb .any ops i) xs L 0->Us xs xs0 i ps->wpOp P ops Q i (Ni frame (Naa L) xs i w) (frame xs) w) n)
 (done:∀xs w,Below w0.heap.size w0 w->(∀i,i<n->(Xf L i).p w (xs i))->Cf (λi=>decide (i<n)) xs L 0->Q .normal (frame xs) w):(Code.region id ops true).wp P Q a w:=by
 subst ha;refine wp_region_any hm (Jda ps hps frame w0 (Naa L) (λi w w' v h hb=>(Xf L i).m w w' v h hb) xs0
  (λi xs w hi hb hd ho=>Xu step i (hn▸hi) xs w hb hd (Ih L 0 (λj h=>by
   rw[Nat.zero_add] at h⊢;rw[Bool.and_eq_true] at h;exact(Xf L j).hv h.2 w _ (hd j h.1))) ho)
  (λxs w hb hx=>done xs w hb (λi hi=>hx i (hn▸hi)) (Ih L 0 (λi h=>by
   rw[Nat.zero_add] at h⊢;rw[Bool.and_eq_true,decide_eq_true_eq] at h;exact(Xf L i).hv h.2 w _ (hx i (hn▸h.1))))) ?_ _ ?_)
 ·intro i hi o ho e he
  rw[List.all_eq_true] at hops;have h:=hops (o,i) (by
   rw[List.mem_zipIdx_iff_getElem?]
   simpa using ho)
  rw[Array.all_eq_true_iff_forall_mem] at h
  simpa using h e he
 exact⟨hw.os,hw.tape,hw.output,hw.size,hw.block⟩
end
end
section
open Go.RowKit Ar
theorem Ws (lab:Bool)(L L':Nat)(k k':Int)(n n':Bool)(t t' b b':List Nat)(c c':Int)(ins ins':List Ba):
 Kc lab (.mk L k n t b c ins) (.mk L' k' n' t' b' c' ins')=((!lab||L==L')&&(k==k')&&(c==c')&&Hc n n' t t' b b'&&Ca lab ins ins'):=by
 rw[Kc];rfl
theorem Dja {n:Nat}(ih:Sz n)(x y:Ha)(vs vs':List Value)(lab:Bool)(g:Nat)(w:World)(B:Nat)(hx:SizeOf.sizeOf x<n)(h:IsCel w B x vs)(h':IsCel w B y vs')(hB:B<=w.heap.size)(hg:g<w.heap.size)(hc:w.cell? ⟨g,0,none⟩=some (.bool lab)):
 Calls Tryz.prog 80 #[.agg vs.toArray,.agg vs'.toArray,.pointer (some ⟨g,0,none⟩)] w λe w'=>e= .returned (.bool (Kc lab x y))/\Below w.heap.size w w':=by
 obtain⟨L,kind,neg,top,bot,ch,ins⟩:=x;obtain⟨L',kind',neg',top',bot',ch',ins'⟩:=y;rw[IsCel] at h h';obtain⟨A1,c1,A2,c2,A3,c3,us,rfl,hL,hf1,hf2,hf3,hw1,hw2,hw3,hl1,hl2,hl3,hins,_⟩:=h;obtain⟨A1',c1',A2',c2',A3',c3',us',rfl,hL',hf1',hf2',hf3',hw1',hw2',hw3',hl1',hl2',hl3',hins',_⟩:=h';have HR:=Qd (Ws lab L L' kind kind' neg neg' top top' bot bot' ch ch' ins ins');have hb0:∀o1 o2,Below w.heap.size w ((w.alloc o1).alloc o2):=λo1 o2=>(Br.alloc Lr _).alloc (by simp) _;have HB:=Qd hb0;have E1:=Qd (λ(wx:World) (hx:Below w.heap.size w wx)=>Wl neg neg' top top' bot bot' A1 A2 A1' A2' c1 c2 c1' c2' wx B (hl1.below (hx.mono hB)) (hl1'.below (hx.mono hB)) (hl2.below (hx.mono hB)) (hl2'.below (hx.mono hB)) (Nat.le_trans hB hx.size) (by have h1:=hf1.1;have h2:=hf1.2;omega) (by have h1:=hf1'.1;have h2:=hf1'.2;omega) (by have h1:=hf2.1;have h2:=hf2.2;omega) (by have h1:=hf2'.1;have h2:=hf2'.2;omega));have hsz:∀a∈ins,SizeOf.sizeOf a<n:=λa ha=>by
  have h1:=List.sizeOf_lt_of_mem ha;simp only[Ha.mk.sizeOf_spec] at hx;omega
 have E2:=Qd (λ(wx:World) (hx:Below w.heap.size w wx)=>Ay ins ins' us us' A3 A3' c3 c3' lab g wx B (hins.below (hx.mono hB)) (hins'.below (hx.mono hB)) (hl3.below (hx.mono hB)) (hl3'.below (hx.mono hB)) (Nat.le_trans hB hx.size) (by have h1:=hf3.1;have h2:=hf3.2;omega) (by have h1:=hf3'.1;have h2:=hf3'.2;omega)
  (λk hk hk' u u' wy hy hu hu'=>Yia ih ins[k] ins'[k] u u' lab g wy B (hsz _ (List.getElem_mem hk)) hu hu' (Nat.le_trans hB (Nat.le_trans hx.size hy.size)) (by have h1:=hx.size;have h2:=hy.size;omega) ((hy.cell (p:=⟨g,0,none⟩) (show g<wx.heap.size by have h1:=hx.size;omega)).trans ((hx.cell (p:=⟨g,0,none⟩) hg).trans hc))))
 clear hins hins' hl1 hl1' hl2 hl2' hl3 hl3' hf1 hf1' hf2 hf2' hf3 hf3' hw1 hw1' hw2 hw2' hw3 hw3' hb0 hx hsz ih;generalize Kc lab (.mk L kind neg top bot ch ins) (.mk L' kind' neg' top' bot' ch' ins')=R at*;generalize Hc neg neg' top top' bot bot'=P at*;generalize Ca lab ins ins'=Q at*;generalize top.length=l1 at*;generalize bot.length=l2 at*;generalize ins.length=l3 at*;generalize top'.length=l1' at*;generalize bot'.length=l2' at*;generalize ins'.length=l3' at*;cases lab
 ·by_cases hk:kind=kind'
  ·subst hk
   have q1:(kind !=kind)=false:=by simp
   by_cases hch:ch=ch'
   ·subst hch
    have q2:(ch !=ch)=false:=by simp
    go_enter Tryz.func80,Tryz.ntmps80
    go_wp2_with fail
    refine(E1.out _ (HB.out _ _)).mono ?_;rintro e w2 ⟨rfl,hb2⟩;have hb3:=(HB.out _ _).trans (hb2.mono (HB.out _ _).size);have hc1:(∀o,w2.cell? ⟨w.heap.size,o,none⟩=_):=λo=>hb2.cell (p:=⟨w.heap.size,o,none⟩) (by show w.heap.size<_;simp;omega);have hc2:(∀o,w2.cell? ⟨w.heap.size+1,o,none⟩=_):=λo=>hb2.cell (p:=⟨w.heap.size+1,o,none⟩) (by show w.heap.size+1<_;simp);cases P
    ·go_wp2_with fail
     go_ret;exact⟨Aa (by rw[HR.out];simp),hb3⟩
    go_wp2_with fail
    refine(E2.out _ hb3).mono ?_;rintro e w3 ⟨rfl,hb4⟩;clear hc1 hc2;go_wp2_with fail
    go_ret;exact⟨Aa (by rw[HR.out];simp),hb3.trans (hb4.mono hb3.size)⟩
   have q2:(ch !=ch')=true:=by simpa using hch
   go_enter Tryz.func80,Tryz.ntmps80
   go_wp2_with fail
   go_ret;exact⟨Aa (by rw[HR.out];simp[hch]),HB.out _ _⟩
  have q1:(kind !=kind')=true:=by simpa using hk
  go_enter Tryz.func80,Tryz.ntmps80
  go_wp2_with fail
  go_ret;exact⟨Aa (by rw[HR.out];simp[hk]),HB.out _ _⟩
 by_cases hLL:L=L'
 ·subst hLL
  have q0:((L:Int)!=(L:Int))=false:=by simp
  by_cases hk:kind=kind'
  ·subst hk
   have q1:(kind !=kind)=false:=by simp
   by_cases hch:ch=ch'
   ·subst hch
    have q2:(ch !=ch)=false:=by simp
    go_enter Tryz.func80,Tryz.ntmps80
    go_wp2_with fail
    refine(E1.out _ (HB.out _ _)).mono ?_;rintro e w2 ⟨rfl,hb2⟩;have hb3:=(HB.out _ _).trans (hb2.mono (HB.out _ _).size);have hc1:(∀o,w2.cell? ⟨w.heap.size,o,none⟩=_):=λo=>hb2.cell (p:=⟨w.heap.size,o,none⟩) (by show w.heap.size<_;simp;omega);have hc2:(∀o,w2.cell? ⟨w.heap.size+1,o,none⟩=_):=λo=>hb2.cell (p:=⟨w.heap.size+1,o,none⟩) (by show w.heap.size+1<_;simp);cases P
    ·go_wp2_with fail
     go_ret;exact⟨Aa (by rw[HR.out];simp),hb3⟩
    go_wp2_with fail
    refine(E2.out _ hb3).mono ?_;rintro e w3 ⟨rfl,hb4⟩;clear hc1 hc2;go_wp2_with fail
    go_ret;exact⟨Aa (by rw[HR.out];simp),hb3.trans (hb4.mono hb3.size)⟩
   have q2:(ch !=ch')=true:=by simpa using hch
   go_enter Tryz.func80,Tryz.ntmps80
   go_wp2_with fail
   go_ret;exact⟨Aa (by rw[HR.out];simp[hch]),HB.out _ _⟩
  have q1:(kind !=kind')=true:=by simpa using hk
  go_enter Tryz.func80,Tryz.ntmps80
  go_wp2_with fail
  go_ret;exact⟨Aa (by rw[HR.out];simp[hk]),HB.out _ _⟩
 have q0:((L:Int)!=(L':Int))=true:=by simp;omega
 have q0':(L !=L')=true:=by simpa using hLL
 go_enter Tryz.func80,Tryz.ntmps80
 go_wp2_with fail
 go_ret;exact⟨Aa (by rw[HR.out];simp[hLL]),HB.out _ _⟩
theorem F8 (lab:Bool)(S S':Nat)(sh sh':List Int)(cs cs':List Ha):
 same lab (.mk S sh cs) (.mk S' sh' cs')=((!lab||S==S')&&(sh==sh')&&La lab cs cs'):=by rw[same]
theorem Paa {n:Nat}(ih:Sz n):Sz (n+1):=by
 intro a b vs vs' lab w B hx h h' hB;obtain⟨S,sh,cs⟩:=a;obtain⟨S',sh',cs'⟩:=b;rw[IsArr] at h h';obtain⟨A1,c1,A2,c2,us,rfl,hS,hf1,hf2,hw1,hl1,hl2,hcs⟩:=h;obtain⟨A1',c1',A2',c2',us',rfl,hS',hf1',hf2',hw1',hl1',hl2',hcs'⟩:=h';have HR:=Qd (F8 lab S S' sh sh' cs cs');have hb0:∀o1 o2 o3,Below w.heap.size w (((w.alloc o1).alloc o2).alloc o3):=λo1 o2 o3=>((Br.alloc Lr _).alloc (by simp) _).alloc (by simp;omega) _;have HB:=Qd hb0;have E1:=Qd (λ(wx:World) (hx:Below w.heap.size w wx)=>Cs sh sh' A1 A1' c1 c1' wx B (hl1.below (hx.mono hB)) (hl1'.below (hx.mono hB)) (by have h1:=hf1.1;have h2:=hf1.2;omega) (by have h1:=hf1'.1;have h2:=hf1'.2;omega));have hsz:∀a∈cs,SizeOf.sizeOf a<n:=λa ha=>by
  have h1:=List.sizeOf_lt_of_mem ha;simp only[Ba.mk.sizeOf_spec] at hx;omega
 have E2:=Qd (λ(wx:World) (hx:Below w.heap.size w wx) (hg:w.heap.size+1+1<wx.heap.size) (hc:wx.cell? ⟨w.heap.size+1+1,0,none⟩=some (.bool lab))=>Cy cs cs' us us' A2 A2' c2 c2' lab (w.heap.size+1+1) wx B (hcs.below (hx.mono hB)) (hcs'.below (hx.mono hB)) (hl2.below (hx.mono hB)) (hl2'.below (hx.mono hB)) (Nat.le_trans hB hx.size) (by have h1:=hf2.1;have h2:=hf2.2;omega) (by have h1:=hf2'.1;have h2:=hf2'.2;omega)
  (λk hk hk' u u' wy hy hu hu'=>Dja ih cs[k] cs'[k] u u' lab (w.heap.size+1+1) wy B (hsz _ (List.getElem_mem hk)) hu hu' (Nat.le_trans hB (Nat.le_trans hx.size hy.size)) (Nat.lt_of_lt_of_le hg hy.size) ((hy.cell (p:=⟨w.heap.size+1+1,0,none⟩) hg).trans hc)))
 clear hcs hcs' hl1 hl1' hl2 hl2' hf1 hf1' hf2 hf2' hw1 hw1' hb0 hx hsz ih;generalize same lab (.mk S sh cs) (.mk S' sh' cs')=R at*;generalize(sh==sh')=P at*;generalize La lab cs cs'=Q at*;generalize sh.length=l1 at*;generalize cs.length=l2 at*;generalize sh'.length=l1' at*;generalize cs'.length=l2' at*;cases lab
 ·go_enter Tryz.func52,Tryz.ntmps52
  go_wp2_with fail
  refine(E1.out _ (HB.out _ _ _)).mono ?_;rintro e w2 ⟨rfl,hb2⟩;have hb3:=(HB.out _ _ _).trans (hb2.mono (HB.out _ _ _).size);have hc1:(∀o,w2.cell? ⟨w.heap.size,o,none⟩=_):=λo=>hb2.cell (p:=⟨w.heap.size,o,none⟩) (by show w.heap.size<_;simp;omega);have hc2:(∀o,w2.cell? ⟨w.heap.size+1,o,none⟩=_):=λo=>hb2.cell (p:=⟨w.heap.size+1,o,none⟩) (by show w.heap.size+1<_;simp);have hc3:=hb2.cell (p:=⟨w.heap.size+1+1,0,none⟩) (by show w.heap.size+1+1<_;simp);have hg3:w.heap.size+1+1<w2.heap.size:=by have:=hb2.size;simp at this;omega
  cases P
  ·go_wp2_with fail
   go_ret;exact⟨Aa (by rw[HR.out];simp),hb3⟩
  have hc4:w2.cell? ⟨w.heap.size+1+1,0,none⟩=some (.bool false):=by rw[hc3];go_simp
  clear hc3;go_wp2_with fail
  refine(E2.out _ hb3 hg3 hc4).mono ?_;rintro e w3 ⟨rfl,hb4⟩;clear hc1 hc2 hc4;go_wp2_with fail
  go_ret;exact⟨Aa (by rw[HR.out];simp),hb3.trans (hb4.mono hb3.size)⟩
 by_cases hSS:S=S'
 ·subst hSS
  have q0:((S:Int)!=(S:Int))=false:=by simp
  go_enter Tryz.func52,Tryz.ntmps52
  go_wp2_with fail
  refine(E1.out _ (HB.out _ _ _)).mono ?_;rintro e w2 ⟨rfl,hb2⟩;have hb3:=(HB.out _ _ _).trans (hb2.mono (HB.out _ _ _).size);have hc1:(∀o,w2.cell? ⟨w.heap.size,o,none⟩=_):=λo=>hb2.cell (p:=⟨w.heap.size,o,none⟩) (by show w.heap.size<_;simp;omega);have hc2:(∀o,w2.cell? ⟨w.heap.size+1,o,none⟩=_):=λo=>hb2.cell (p:=⟨w.heap.size+1,o,none⟩) (by show w.heap.size+1<_;simp);have hc3:=hb2.cell (p:=⟨w.heap.size+1+1,0,none⟩) (by show w.heap.size+1+1<_;simp);have hg3:w.heap.size+1+1<w2.heap.size:=by have:=hb2.size;simp at this;omega
  cases P
  ·go_wp2_with fail
   go_ret;exact⟨Aa (by rw[HR.out];simp),hb3⟩
  have hc4:w2.cell? ⟨w.heap.size+1+1,0,none⟩=some (.bool true):=by rw[hc3];go_simp
  clear hc3;go_wp2_with fail
  refine(E2.out _ hb3 hg3 hc4).mono ?_;rintro e w3 ⟨rfl,hb4⟩;clear hc1 hc2 hc4;go_wp2_with fail
  go_ret;exact⟨Aa (by rw[HR.out];simp),hb3.trans (hb4.mono hb3.size)⟩
 have q0:((S:Int)!=(S':Int))=true:=by simp;omega
 have q0':(S !=S')=true:=by simpa using hSS
 go_enter Tryz.func52,Tryz.ntmps52
 go_wp2_with fail
 go_ret;exact⟨Aa (by rw[HR.out];simp[hSS]),HB.out _ _ _⟩
theorem Jw:∀n,Sz n
 | 0=>λa b vs vs' lab w B h=>by omega
 |n+1=>Paa (Jw n)
theorem X6 (a b:Ba)(vs vs':List Value)(w:World)(B:Nat)(h:IsArr w B a vs)(h':IsArr w B b vs')(hB:B<=w.heap.size):
 Calls Tryz.prog 23 #[.agg vs.toArray,.agg vs'.toArray] w λe w'=>e= .returned (.bool (same true a b))/\Below w.heap.size w w':=by
 obtain⟨S,X,xn,xc,Y,yn,yc,rfl⟩:=h.form;obtain⟨S',X',xn',xc',Y',yn',yc',rfl⟩:=h'.form;have hb0:∀o1 o2,Below w.heap.size w ((w.alloc o1).alloc o2):=λo1 o2=>(Br.alloc Lr _).alloc (by simp) _;have IH:=Qd (λo1 o2=>Jw (SizeOf.sizeOf a+1) a b _ _ true ((w.alloc o1).alloc o2) B (by omega) (h.below ((hb0 _ _).mono hB)) (h'.below ((hb0 _ _).mono hB)) (by simp;omega));have HB:=Qd hb0;clear hb0 h h';generalize same true a b=R at*;go_enter Tryz.func23,Tryz.ntmps23
 go_wp2_with fail
 refine(IH.out _ _).mono ?_;rintro e w2 ⟨rfl,hb2⟩;go_wp2_with fail
 go_ret;exact⟨rfl,(HB.out _ _).trans (hb2.mono (by simp;omega))⟩
end
section
open Go.RowKit Ar
def Py (n:Nat):Prop:=∀(a b:Ba) (vs vs':List Value) (w:World) (B:Nat),SizeOf.sizeOf a<n->IsArr w B a vs->IsArr w B b vs'->B<=w.heap.size->
 Calls Tryz.prog 26 #[.agg vs.toArray,.agg vs'.toArray] w λe w'=>e= .returned (.bool (same true a b))/\Below w.heap.size w w'
theorem Y6 {n:Nat}(ih:Py n)(x y:Ha)(vs vs':List Value)(w:World)(B:Nat)(hx:SizeOf.sizeOf x<n)(h:IsCel w B x vs)(h':IsCel w B y vs')(hB:B<=w.heap.size):
 Calls Tryz.prog 53 #[.agg vs.toArray,.agg vs'.toArray] w λe w'=>e= .returned (.bool (Kc true x y))/\Below w.heap.size w w':=by
 obtain⟨L,kind,neg,top,bot,ch,ins⟩:=x;obtain⟨L',kind',neg',top',bot',ch',ins'⟩:=y;rw[IsCel] at h h';obtain⟨A1,c1,A2,c2,A3,c3,us,rfl,hL,hf1,hf2,hf3,hw1,hw2,hw3,hl1,hl2,hl3,hins,_⟩:=h;obtain⟨A1',c1',A2',c2',A3',c3',us',rfl,hL',hf1',hf2',hf3',hw1',hw2',hw3',hl1',hl2',hl3',hins',_⟩:=h';have HR:=Qd (Ws true L L' kind kind' neg neg' top top' bot bot' ch ch' ins ins');obtain⟨W,hW⟩:∃W,W=(w.alloc (.cells #[.int .u64 (L:Int),.int .i64 kind,.bool neg,.slice A1 top.length c1,.slice A2 bot.length c2,.int .i64 ch,.slice A3 ins.length c3] 85)).alloc (.cells #[.int .u64 (L':Int),.int .i64 kind',.bool neg',.slice A1' top'.length c1',.slice A2' bot'.length c2',.int .i64 ch',.slice A3' ins'.length c3'] 85):=⟨_,rfl⟩;have hWs:W.heap.size=w.heap.size+1+1:=by rw[hW];simp
 have hWb:Below w.heap.size w W:=by rw[hW];exact(Br.alloc Lr _).alloc (by simp) _
 have HQ:Hid (W.cell? ⟨w.heap.size,6,none⟩=some (.slice A3 ins.length c3)/\W.cell? ⟨w.heap.size+1,6,none⟩=some (.slice A3' ins'.length c3')):=Qd (by rw[hW];exact⟨by go_simp,by go_simp⟩);have HW:=Qd hW;have E1:=Qd (Oi neg neg' top top' bot bot' A1 A2 A1' A2' c1 c2 c1' c2' W B (hl1.below (hWb.mono hB)) (hl1'.below (hWb.mono hB)) (hl2.below (hWb.mono hB)) (hl2'.below (hWb.mono hB)) (by omega) (by have h1:=hf1.1;have h2:=hf1.2;omega) (by have h1:=hf1'.1;have h2:=hf1'.2;omega) (by have h1:=hf2.1;have h2:=hf2.2;omega) (by have h1:=hf2'.1;have h2:=hf2'.2;omega));have hsz0:∀a∈ins,SizeOf.sizeOf a<n:=λa ha=>by
  have h1:=List.sizeOf_lt_of_mem ha;simp only[Ha.mk.sizeOf_spec] at hx;omega
 have HS:=Qd hins;have HS':=Qd hins';have HL:=Qd hl3;have HL':=Qd hl3';have m1:ins.length<=35184372088832:=by have h1:=hf3.1;have h2:=hf3.2;omega
 have m2:ins'.length<=35184372088832:=by have h1:=hf3'.1;have h2:=hf3'.2;omega
 clear hins hins' hl1 hl1' hl2 hl2' hl3 hl3' hf1 hf1' hf2 hf2' hf3 hf3' hw1 hw1' hw2 hw2' hw3 hw3' hx hW;generalize Kc true (.mk L kind neg top bot ch ins) (.mk L' kind' neg' top' bot' ch' ins')=R at*;generalize Hc neg neg' top top' bot bot'=P at*;generalize top.length=l1 at*;generalize bot.length=l2 at*;generalize top'.length=l1' at*;generalize bot'.length=l2' at*;by_cases hLL:L=L'
 ·subst hLL
  have q0:((L:Int)!=(L:Int))=false:=by simp
  by_cases hk:kind=kind'
  ·subst hk
   have q1:(kind !=kind)=false:=by simp
   by_cases hch:ch=ch'
   ·subst hch
    have q2:(ch !=ch)=false:=by simp
    go_enter Tryz.func53,Tryz.ntmps53
    go_wp2_with fail
    rw[<-HW.out];refine E1.out.mono ?_;rintro e w2 ⟨rfl,hb2⟩;have hb3:=hWb.trans (hb2.mono (by omega));have r1:w2.cell? ⟨w.heap.size,6,none⟩=some (.slice A3 ins.length c3):=(hb2.cell (p:=⟨w.heap.size,6,none⟩) (show w.heap.size<_ by omega)).trans HQ.out.1;have r2:w2.cell? ⟨w.heap.size+1,6,none⟩=some (.slice A3' ins'.length c3'):=(hb2.cell (p:=⟨w.heap.size+1,6,none⟩) (show w.heap.size+1<_ by omega)).trans HQ.out.2;cases P
    ·go_wp2_with fail
     go_ret;exact⟨Aa (by rw[HR.out];simp),hb3⟩
    by_cases hne:ins.length=ins'.length
    ·have hd:((ins.length:Int)!=(ins'.length:Int))=false:=by simp;omega
     have hln:ins.length<=ins'.length:=by omega
     have HN:=Qd hne;clear hne;go_wp2_with fail
     clear r1 r2 hd hb3;have hWl:w.heap.size+1<W.heap.size:=by omega
     go_loopw [5] (λi wr=>∃k:Nat,k<=ins.length/\i= .int .i64 k/\Hid (Ca true (ins.drop k) (ins'.drop k)=Ca true ins ins')/\Below W.heap.size W wr) (λi _=>ins.length-(intOf i).toNat)
     case atStart=>exact⟨0,Nat.zero_le _,rfl,Qd rfl,hb2⟩
     case round=>
      clear hb2;obtain⟨k,hk,rfl,HT,hbel⟩:=hrel;have hsz:=hbel.size;have hb0:=hWb.trans (hbel.mono (by omega));have r1:wr.cell? ⟨w.heap.size,6,none⟩=some (.slice A3 ins.length c3):=(hbel.cell (p:=⟨w.heap.size,6,none⟩) (show w.heap.size<_ by omega)).trans HQ.out.1;have r2:wr.cell? ⟨w.heap.size+1,6,none⟩=some (.slice A3' ins'.length c3'):=(hbel.cell (p:=⟨w.heap.size+1,6,none⟩) hWl).trans HQ.out.2;by_cases hlt:k<ins.length
      ·have hlt':k<ins'.length:=by omega
       obtain⟨b,off,S,X,xn,xc,Y,yn,yc,rfl,hb,HA,g0,g1,g2⟩:=Vb HS.out HL.out (wr:=wr) (λp hp=>hb0.cell (by omega)) hlt;obtain⟨b',off',S',X',xn',xc',Y',yn',yc',rfl,hb',HA',g0',g1',g2'⟩:=Vb HS'.out HL'.out (wr:=wr) (λp hp=>hb0.cell (by omega)) hlt';have hbw:b<wr.heap.size:=by omega
       have hbw':b'<wr.heap.size:=by omega
       have HK:∀(x:Later wr) (o:Nat),x.w.cell? ⟨b,o,none⟩=wr.cell? ⟨b,o,none⟩:=λx o=>x.b.cell (p:=⟨b,o,none⟩) hbw;have HK':∀(x:Later wr) (o:Nat),x.w.cell? ⟨b',o,none⟩=wr.cell? ⟨b',o,none⟩:=λx o=>x.b.cell (p:=⟨b',o,none⟩) hbw';have HK1:∀(x:Later wr) (o:Nat),x.w.cell? ⟨w.heap.size,o,none⟩=wr.cell? ⟨w.heap.size,o,none⟩:=λx o=>x.b.cell (p:=⟨w.heap.size,o,none⟩) (show w.heap.size<_ by omega);have HK2:∀(x:Later wr) (o:Nat),x.w.cell? ⟨w.heap.size+1,o,none⟩=wr.cell? ⟨w.heap.size+1,o,none⟩:=λx o=>x.b.cell (p:=⟨w.heap.size+1,o,none⟩) (show w.heap.size+1<_ by omega);have hST:Hid (Ca true (ins.drop k) (ins'.drop k)=(same true ins[k] ins'[k]&&Ca true (ins.drop (k+1)) (ins'.drop (k+1)))):=Qd (Ef true hlt hlt');have FC:=Qd (λ(x:Later wr)=>ih ins[k] ins'[k] _ _ x.w B (hsz0 _ (List.getElem_mem hlt)) (HA.out.below ((hb0.trans (x.b.mono (by omega))).mono hB)) (HA'.out.below ((hb0.trans (x.b.mono (by omega))).mono hB)) (by have:=x.b.size;omega));generalize same true ins[k] ins'[k]=RR at FC hST;go_wp2_with fail
       refine Bb wr (by kernel_rfl) (by kernel_rfl) (Below.drew_self wr) ?_;repeat (go_big_quiet_step ((go_at_call 26;exact Later.call (FC.out _))))
       refine wpQuiet_nil ?_;rintro _ ⟨⟨w4,hb4⟩,rfl⟩;clear HK HK' HK1 HK2 g0 g1 g2 g0' g1' g2' r1 r2;have hb3:=hbel.trans (hb4.mono (by omega));cases RR
       ·have HZ:Hid (Ca true ins ins'=false):=Qd (by rw[<-HT.out,hST.out];rfl)
        (first|rw[Bool.not_false] |rw[Bool.not_true])
        go_wp2_with fail
        go_ret;exact⟨Aa (by rw[HR.out,HZ.out];simp),hWb.trans (hb3.mono (by omega))⟩
       have HZ:Hid (Ca true (ins.drop (k+1)) (ins'.drop (k+1))=Ca true ins ins'):=Qd (by rw[<-HT.out,hST.out];rfl)
       (first|rw[Bool.not_false] |rw[Bool.not_true])
       go_wp2_with fail
       go_roundw
       case rel=>exact⟨k+1,by omega,by go_num,HZ,hb3⟩
       case measure=>simp[intOf];omega
      have hke:k=ins.length:=by omega
      have HZ2:Hid (Ca true ins ins'=true):=Qd (by rw[<-HT.out,hke,List.drop_length,HN.out,List.drop_length,Ca]);clear hke HT;go_wp2_with fail
      go_ret;exact⟨Aa (by rw[HR.out,HZ2.out];simp),hb0⟩
    have hd:((ins.length:Int)!=(ins'.length:Int))=true:=by simp;omega
    have HZ2:Hid (Ca true ins ins'=false):=Qd (by
     cases e:Ca true ins ins'
     ·rfl
     exact absurd (Me true e) hne)
    clear hne;go_wp2_with fail
    go_ret;exact⟨Aa (by rw[HR.out,HZ2.out];simp),hb3⟩
   have q2:(ch !=ch')=true:=by simpa using hch
   go_enter Tryz.func53,Tryz.ntmps53
   go_wp2_with fail
   go_ret;exact⟨Aa (by rw[HR.out];simp[hch]),by rw[HW.out] at hWb;exact hWb⟩
  have q1:(kind !=kind')=true:=by simpa using hk
  go_enter Tryz.func53,Tryz.ntmps53
  go_wp2_with fail
  go_ret;exact⟨Aa (by rw[HR.out];simp[hk]),by rw[HW.out] at hWb;exact hWb⟩
 have q0:((L:Int)!=(L':Int))=true:=by simp;omega
 have q0':(L !=L')=true:=by simpa using hLL
 go_enter Tryz.func53,Tryz.ntmps53
 go_wp2_with fail
 go_ret;exact⟨Aa (by rw[HR.out];simp[hLL]),by rw[HW.out] at hWb;exact hWb⟩
theorem Q0 {n:Nat}(ih:Py n):Py (n+1):=by
 intro a b vs vs' w B hx h h' hB;obtain⟨S,sh,cs⟩:=a;obtain⟨S',sh',cs'⟩:=b;rw[IsArr] at h h';obtain⟨A1,c1,A2,c2,us,rfl,hS,hf1,hf2,hw1,hl1,hl2,hcs⟩:=h;obtain⟨A1',c1',A2',c2',us',rfl,hS',hf1',hf2',hw1',hl1',hl2',hcs'⟩:=h';have HR:=Qd (F8 true S S' sh sh' cs cs');obtain⟨W,hW⟩:∃W,W=(w.alloc (.cells #[.int .u64 (S:Int),.slice A1 sh.length c1,.slice A2 cs.length c2] 43)).alloc (.cells #[.int .u64 (S':Int),.slice A1' sh'.length c1',.slice A2' cs'.length c2'] 43):=⟨_,rfl⟩;have hWs:W.heap.size=w.heap.size+1+1:=by rw[hW];simp
 have hWb:Below w.heap.size w W:=by rw[hW];exact(Br.alloc Lr _).alloc (by simp) _
 have HQ:Hid (W.cell? ⟨w.heap.size,2,none⟩=some (.slice A2 cs.length c2)/\W.cell? ⟨w.heap.size+1,2,none⟩=some (.slice A2' cs'.length c2')):=Qd (by rw[hW];exact⟨by go_simp,by go_simp⟩);have HW:=Qd hW;have E1:=Qd (Pp sh sh' A1 A1' c1 c1' W B (hl1.below (hWb.mono hB)) (hl1'.below (hWb.mono hB)) (by have h1:=hf1.1;have h2:=hf1.2;omega) (by have h1:=hf1'.1;have h2:=hf1'.2;omega));have hsz0:∀a∈cs,SizeOf.sizeOf a<n:=λa ha=>by
  have h1:=List.sizeOf_lt_of_mem ha;simp only[Ba.mk.sizeOf_spec] at hx;omega
 have HS:=Qd hcs;have HS':=Qd hcs';have HL:=Qd hl2;have HL':=Qd hl2';have m1:cs.length<=35184372088832:=by have h1:=hf2.1;have h2:=hf2.2;omega
 have m2:cs'.length<=35184372088832:=by have h1:=hf2'.1;have h2:=hf2'.2;omega
 clear hcs hcs' hl1 hl1' hl2 hl2' hf1 hf1' hf2 hf2' hw1 hw1' hx hW;generalize same true (.mk S sh cs) (.mk S' sh' cs')=R at*;generalize(sh==sh')=P at*;generalize sh.length=l1 at*;generalize sh'.length=l1' at*;by_cases hSS:S=S'
 ·subst hSS
  have q0:((S:Int)!=(S:Int))=false:=by simp
  go_enter Tryz.func26,Tryz.ntmps26
  go_wp2_with fail
  rw[<-HW.out];refine E1.out.mono ?_;rintro e w2 ⟨rfl,hb2⟩;have hb3:=hWb.trans (hb2.mono (by omega));have r1:w2.cell? ⟨w.heap.size,2,none⟩=some (.slice A2 cs.length c2):=(hb2.cell (p:=⟨w.heap.size,2,none⟩) (show w.heap.size<_ by omega)).trans HQ.out.1;have r2:w2.cell? ⟨w.heap.size+1,2,none⟩=some (.slice A2' cs'.length c2'):=(hb2.cell (p:=⟨w.heap.size+1,2,none⟩) (show w.heap.size+1<_ by omega)).trans HQ.out.2;cases P
  ·go_wp2_with fail
   go_ret;exact⟨Aa (by rw[HR.out];simp),hb3⟩
  by_cases hne:cs.length=cs'.length
  ·have hd:((cs.length:Int)!=(cs'.length:Int))=false:=by simp;omega
   have hln:cs.length<=cs'.length:=by omega
   have HN:=Qd hne;clear hne;go_wp2_with fail
   clear r1 r2 hd hb3;have hWl:w.heap.size+1<W.heap.size:=by omega
   go_loopw [5] (λi wr=>∃k:Nat,k<=cs.length/\i= .int .i64 k/\Hid (La true (cs.drop k) (cs'.drop k)=La true cs cs')/\Below W.heap.size W wr) (λi _=>cs.length-(intOf i).toNat)
   case atStart=>exact⟨0,Nat.zero_le _,rfl,Qd rfl,hb2⟩
   case round=>
    clear hb2;obtain⟨k,hk,rfl,HT,hbel⟩:=hrel;have hsz:=hbel.size;have hb0:=hWb.trans (hbel.mono (by omega));have r1:wr.cell? ⟨w.heap.size,2,none⟩=some (.slice A2 cs.length c2):=(hbel.cell (p:=⟨w.heap.size,2,none⟩) (show w.heap.size<_ by omega)).trans HQ.out.1;have r2:wr.cell? ⟨w.heap.size+1,2,none⟩=some (.slice A2' cs'.length c2'):=(hbel.cell (p:=⟨w.heap.size+1,2,none⟩) hWl).trans HQ.out.2;by_cases hlt:k<cs.length
    ·have hlt':k<cs'.length:=by omega
     obtain⟨b,off,L,kind,neg,top,bot,ch,ins,A3,c3,A4,c4,A5,c5,us3,rfl,hb,hL,HX,t1,t2,t3,t4,t5,t6,g0,g1,g2,g3,g4,g5,g6⟩:=Sd HS.out HL.out (wr:=wr) (λp hp=>hb0.cell (by omega)) hlt;obtain⟨b',off',L',kind',neg',top',bot',ch',ins',A3',c3',A4',c4',A5',c5',us3',rfl,hb',hL',HX',t1',t2',t3',t4',t5',t6',g0',g1',g2',g3',g4',g5',g6'⟩:=Sd HS'.out HL'.out (wr:=wr) (λp hp=>hb0.cell (by omega)) hlt';have hbw:b<wr.heap.size:=by omega
     have hbw':b'<wr.heap.size:=by omega
     have HK:∀(x:Later wr) (o:Nat),x.w.cell? ⟨b,o,none⟩=wr.cell? ⟨b,o,none⟩:=λx o=>x.b.cell (p:=⟨b,o,none⟩) hbw;have HK':∀(x:Later wr) (o:Nat),x.w.cell? ⟨b',o,none⟩=wr.cell? ⟨b',o,none⟩:=λx o=>x.b.cell (p:=⟨b',o,none⟩) hbw';have HK1:∀(x:Later wr) (o:Nat),x.w.cell? ⟨w.heap.size,o,none⟩=wr.cell? ⟨w.heap.size,o,none⟩:=λx o=>x.b.cell (p:=⟨w.heap.size,o,none⟩) (show w.heap.size<_ by omega);have HK2:∀(x:Later wr) (o:Nat),x.w.cell? ⟨w.heap.size+1,o,none⟩=wr.cell? ⟨w.heap.size+1,o,none⟩:=λx o=>x.b.cell (p:=⟨w.heap.size+1,o,none⟩) (show w.heap.size+1<_ by omega);have hST:Hid (La true (cs.drop k) (cs'.drop k)=(Kc true cs[k] cs'[k]&&La true (cs.drop (k+1)) (cs'.drop (k+1)))):=Qd (Rl true hlt hlt');have FC:=Qd (λ(x:Later wr)=>Y6 ih cs[k] cs'[k] _ _ x.w B (hsz0 _ (List.getElem_mem hlt)) ((HX.out.is hL).below ((hb0.trans (x.b.mono (by omega))).mono hB)) ((HX'.out.is hL').below ((hb0.trans (x.b.mono (by omega))).mono hB)) (by have:=x.b.size;omega));generalize Kc true cs[k] cs'[k]=RR at FC hST;go_wp2_with fail
     refine Bb wr (by kernel_rfl) (by kernel_rfl) (Below.drew_self wr) ?_;repeat (go_big_quiet_step ((go_at_call 53;exact Later.call (FC.out _))))
     refine wpQuiet_nil ?_;rintro _ ⟨⟨w4,hb4⟩,rfl⟩;clear HK HK' HK1 HK2 g0 g1 g2 g3 g4 g5 g6 g0' g1' g2' g3' g4' g5' g6' r1 r2;have hb3:=hbel.trans (hb4.mono (by omega));cases RR
     ·have HZ:Hid (La true cs cs'=false):=Qd (by rw[<-HT.out,hST.out];rfl)
      (first|rw[Bool.not_false] |rw[Bool.not_true])
      go_wp2_with fail
      go_ret;exact⟨Aa (by rw[HR.out,HZ.out];simp),hWb.trans (hb3.mono (by omega))⟩
     have HZ:Hid (La true (cs.drop (k+1)) (cs'.drop (k+1))=La true cs cs'):=Qd (by rw[<-HT.out,hST.out];rfl)
     (first|rw[Bool.not_false] |rw[Bool.not_true])
     go_wp2_with fail
     go_roundw
     case rel=>exact⟨k+1,by omega,by go_num,HZ,hb3⟩
     case measure=>simp[intOf];omega
    have hke:k=cs.length:=by omega
    have HZ2:Hid (La true cs cs'=true):=Qd (by rw[<-HT.out,hke,List.drop_length,HN.out,List.drop_length,La]);clear hke HT;go_wp2_with fail
    go_ret;exact⟨Aa (by rw[HR.out,HZ2.out];simp),hb0⟩
  have hd:((cs.length:Int)!=(cs'.length:Int))=true:=by simp;omega
  have HZ2:Hid (La true cs cs'=false):=Qd (by
   cases e:La true cs cs'
   ·rfl
   exact absurd (Hi true e) hne)
  clear hne;go_wp2_with fail
  go_ret;exact⟨Aa (by rw[HR.out,HZ2.out];simp),hb3⟩
 have q0:((S:Int)!=(S':Int))=true:=by simp;omega
 have q0':(S !=S')=true:=by simpa using hSS
 go_enter Tryz.func26,Tryz.ntmps26
 go_wp2_with fail
 go_ret;exact⟨Aa (by rw[HR.out];simp[hSS]),by rw[HW.out] at hWb;exact hWb⟩
theorem Up:∀n,Py n
 | 0=>λa b vs vs' w B h=>by omega
 |n+1=>Q0 (Up n)
end
end Go.Proofs.YtmiccalfamepdaaGreatDoor
