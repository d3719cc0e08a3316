/-
  Texts of this proof, joined (by wip/bin/bundle.py): RegActs, ArrP, ParNine, GrowNil, TokLen, TokFew, TokLaid, ParSame, ParBack, ParExt, LexMath6, ParBrk.
-/
import Derived.Test.YtceplkpjnebnfaaGreatDoorM6
import Derived.Below
import Derived.Laws.AppendOwn
import Derived.Test.YtceplkpjnebnfaaGreatDoorRows
import Derived.Lib.LaidTab
import Derived.LaidMore
import Derived.Stop.LaidErr
import Derived.MakeChecks
import Derived.OpenShut
import Derived.ProofKit
import Derived.ChangeOld
import Derived.Lay
set_option linter.all false
set_option maxHeartbeats 8000000
set_option maxRecDepth 100000
namespace Go.Proofs.YtceplkpjnebnfaaGreatDoor
section
open Go.RowKit
section
variable {P : Program} {ops : Array Oper} {Q : Exit → Act → World → Prop} {md : Region.Mode}
def Al (frame:(Nat→Value)→Act)(R:Nat→Value→Prop)(S:World→Prop)(xs:Nat→Value)(i:Nat)(a':Act)(w':World):Prop:=∃v,a'=frame (Ja xs i v)∧R i v∧S w'
theorem Ew (acts:List Nat)(frame:(Nat→Value)→Act)(R:Nat→Value→Prop)(S:Nat→World→Prop)
 (step:∀i xs w k,i<ops.size→i∉acts→S k w→(∀j,Xb md ops i j=true→R j (xs j))→wpOp P ops Q i (Al frame R (S k) xs i) (frame xs) w)
 (act:∀m i xs w,acts[m]? =some i→S m w→(∀j,Xb md ops i j=true→R j (xs j))→wpOp P ops Q i (Al frame R (S (m+1)) xs i) (frame xs) w)
 (done:∀xs w,S acts.length w→(∀i,i<ops.size→R i (xs i))→Q .normal (frame xs) w)
 (hchain:∀m i j,acts[m]? =some j→acts[m+1]? =some i→Xb md ops i j=true) (hnd:acts.Nodup) (hacts:∀i∈acts,i<ops.size)
 (hops:∀i,i<ops.size→∀o,ops[i]? =some o→∀e∈o.after,Region.binds md e=true→e.on<i)
 (xs0:Nat→Value) (w1:World) (hw1:S 0 w1):wpAny P md ops Q ops.size (Array.replicate ops.size false) (frame xs0) w1:=by
 refine Ef (λl a w=>l.size=ops.size∧∃k xs,k≤acts.length∧a=frame xs∧S k w∧(∀m i,acts[m]? =some i→(l[i]? =some true↔m<k))∧∀i,i<ops.size→l[i]? =some true→R i (xs i)) ?_ ?_ ops.size _ _ _ (by simp)
  ⟨by simp,0,xs0,Nat.zero_le _,rfl,hw1,λm i hm=>⟨λh=>by
   have:=hacts i (List.mem_of_getElem? hm);simp[this] at h,λh=>by omega⟩,λi hi h=>by simp[hi] at h⟩
 ·rintro l a w ⟨hl,k,xs,hk,rfl,hS,hm,hx⟩ i hi
  obtain⟨h1,h2,h3⟩:=Fe hi;have hli:l[i]? =some false:=by
   rw[Array.getD_eq_getD_getElem?] at h2;rw[Array.getElem?_eq_getElem (by omega)] at h2⊢;simp at h2;rw[h2]
  have hlt:∀j,Xb md ops i j=true→j<i:=by
   intro j hj;unfold Xb at hj;rw[Array.getElem?_eq_getElem h1] at hj;simp only[List.any_eq_true,Bool.and_eq_true,beq_iff_eq] at hj;obtain⟨e,he',rfl,hbi⟩:=hj;exact hops i h1 _ (Array.getElem?_eq_getElem h1) e (by simpa using he') hbi
  have hlj:∀j,Xb md ops i j=true→l[j]? =some true:=λj hj=>Eg (Ve h3 hj);have hdep:∀j,Xb md ops i j=true→R j (xs j):=λj hj=>hx j (by have:=hlt j hj;omega) (hlj j hj);have hR:∀v,R i v→∀j,j<ops.size→(l.setIfInBounds i true)[j]? =some true→R j (Ja xs i v j):=by
   intro v hv j hj hlj';by_cases e':j=i
   ·subst e';simp only[Ja,if_true];exact hv
   simp only[Ja,if_neg e'];rw[Array.getElem?_setIfInBounds_ne (λh=>e' h.symm)] at hlj';exact hx j hj hlj'
  by_cases hia:i∈acts
  ·obtain⟨m,hmi⟩:=List.getElem?_of_mem hia
   have hmk:¬m<k:=λh=>by rw[(hm m i hmi).2 h] at hli;cases hli
   have hkm:m=k:=by
    cases m with
    |zero=>omega
    |succ m=>
     obtain⟨j,hj⟩:∃j,acts[m]? =some j:=by
      have:m+1<acts.length:=(List.getElem?_eq_some_iff.1 hmi).1;exact⟨_,List.getElem?_eq_getElem (by omega)⟩
     have:=(hm m j hj).1 (hlj j (hchain m i j hj hmi));omega
   subst hkm;have hml:m<acts.length:=(List.getElem?_eq_some_iff.1 hmi).1;refine wpOp_mono ?_ (act m i xs w hmi hS hdep);rintro a' w' ⟨v,rfl,hv,hS'⟩;refine⟨by simpa using hl,m+1,Ja xs i v,hml,rfl,hS',λm' i' hmi'=>?_,hR v hv⟩;by_cases e:m'=m
   ·subst e
    have e2:i'=i:=by rw[hmi] at hmi';exact(Option.some.inj hmi').symm
    subst e2;rw[Array.getElem?_setIfInBounds_self_of_lt (by omega)];exact⟨λ_=>by omega,λ_=>rfl⟩
   have hne:i≠i':=λe3=>by
    subst e3;exact e ((List.getElem?_inj (List.getElem?_eq_some_iff.1 hmi').1 hnd).1 (hmi'.trans hmi.symm))
   rw[Array.getElem?_setIfInBounds_ne hne,hm m' i' hmi'];omega
  refine wpOp_mono ?_ (step i xs w k h1 hia hS hdep);rintro a' w' ⟨v,rfl,hv,hS'⟩;refine⟨by simpa using hl,k,Ja xs i v,hk,rfl,hS',λm' i' hmi'=>?_,hR v hv⟩;have hne:i≠i':=λe3=>by subst e3;exact hia (List.mem_of_getElem? hmi')
  rw[Array.getElem?_setIfInBounds_ne hne];exact hm m' i' hmi'
 rintro l a w ⟨hl,k,xs,hk,rfl,hS,hm,hx⟩ hr;have hall:∀n i,i<n→i<ops.size→l[i]? =some true:=by
  intro n
  induction n with
  |zero=>intro i h;omega
  |succ n ih=>
   intro i hi his;by_cases e:i<n
   ·exact ih i e his
   have hie:i=n:=by omega
   subst hie;cases h:l[i]? with
   |none=>rw[Array.getElem?_eq_none_iff] at h;omega
   |some b=>
    cases b
    ·exfalso
     have:i∈Region.ready md ops l:=by
      simp only[Region.ready,List.mem_filter,List.mem_range,Bool.and_eq_true,Bool.not_eq_true'];refine⟨his,by rw[Array.getD_eq_getD_getElem?,h];rfl,?_⟩;rw[Array.getElem?_eq_getElem his];simp only[Option.map_some,Option.getD_some,Array.all_eq_true_iff_forall_mem];intro e he;cases hbi:Region.binds md e
      ·simp
      have hlt:=hops i his _ (Array.getElem?_eq_getElem his) e he hbi;rw[Array.getD_eq_getD_getElem?,ih e.on hlt (by omega)];simp
     rw[hr] at this;cases this
    rfl
 have hkl:k=acts.length:=by
  rcases Nat.lt_or_ge k acts.length with h |h
  ·have h1:=hacts _ (List.getElem_mem h)
   have h2:=(hm k _ (List.getElem?_eq_getElem h)).1 (hall (acts[k]+1) _ (by omega) h1);omega
  omega
 subst hkl;exact done xs w hS (λi hi=>hx i hi (hall (i+1) i (by omega) hi))
theorem Ce (acts:List Nat)(frame:(Nat→Value)→Act)(R:Nat→Value→Prop)(S:Nat→World→Prop){id:Nat}{a:Act}{w:World}(hm:P.follows .mixedOrders=true)
 (hchain:(List.range acts.length).all (λm=>match acts[m]?,acts[m+1]? with
  |some j,some i=>Xb .any ops i j
  |_,_=>true)=true) (hnd:decide acts.Nodup=true) (hacts:acts.all (λi=>decide (i<ops.size))=true)
 (hops:ops.toList.zipIdx.all (λp=>p.1.after.all λe=> !Region.binds .any e||decide (e.on<p.2))=true)
 (xs0:Nat→Value) (ha:a=frame xs0) (hw:S 0 w.drew)
 (step:∀i xs w k,i<ops.size→i∉acts→S k w→(∀j,Xb .any ops i j=true→R j (xs j))→wpOp P ops Q i (Al frame R (S k) xs i) (frame xs) w)
 (act:∀m i xs w,acts[m]? =some i→S m w→(∀j,Xb .any ops i j=true→R j (xs j))→wpOp P ops Q i (Al frame R (S (m+1)) xs i) (frame xs) w)
 (done:∀xs w,S acts.length w→(∀i,i<ops.size→R i (xs i))→Q .normal (frame xs) w):(Code.region id ops true).wp P Q a w:=by
 subst ha;refine wp_region_any hm (Ew acts frame R S step act done ?_ (of_decide_eq_true hnd) ?_ ?_ xs0 _ hw)
 ·intro m i j hj hi
  rw[List.all_eq_true] at hchain;have h:=hchain m (by
   rw[List.mem_range];exact(List.getElem?_eq_some_iff.1 hj).1)
  rw[hj,hi] at h;exact h
 ·intro i hi
  rw[List.all_eq_true] at hacts
  simpa using hacts i hi
 intro i hi o ho e he hbi;rw[List.all_eq_true] at hops;have h:=hops (o,i) (by
  rw[List.mem_zipIdx_iff_getElem?]
  simpa using ho)
 rw[Array.all_eq_true_iff_forall_mem] at h;have h':=h e he;rw[hbi] at h'
 simpa using h'
end
end
section
open Go.RowKit Ar
def LiesP (w:World)(P:Nat→Prop)(A:Option Addr)(vs:List Value):Prop:=
 vs=[]∨∃b off,A=some ⟨b,off,none⟩∧P b∧∀i v,vs[i]? =some v→w.cell? ⟨b,off+i,none⟩=some v
theorem Lies.p {w:World}{B:Nat}{A:Option Addr}{vs:List Value}(h:Lies w B A vs):LiesP w (· <B) A vs:=h
theorem LiesP.lies {w:World}{P:Nat→Prop}{B:Nat}{A:Option Addr}{vs:List Value}(h:LiesP w P A vs)(hP:∀b,P b→b<B):Lies w B A vs:=by
 rcases h with h |⟨b,off,hA,hb,hc⟩
 ·exact .inl h
 exact .inr ⟨b,off,hA,hP _ hb,hc⟩
theorem LiesP.keep {w w':World}{P P':Nat→Prop}{A:Option Addr}{vs:List Value}(h:LiesP w P A vs)(hk:∀p:Addr,P p.block→w'.cell? p=w.cell? p)(hP:∀b,P b→P' b):LiesP w' P' A vs:=by
 rcases h with h |⟨b,off,hA,hb,hc⟩
 ·exact .inl h
 exact .inr ⟨b,off,hA,hP _ hb,λi v hv=>(hk ⟨b,off+i,none⟩ hb).trans (hc i v hv)⟩
mutual
def IsArrP (w:World)(P:Nat→Prop):Od→List Value→Prop
 | .mk S shape cells,vs=>∃A c A' c' us,vs=[.int .u64 (S:Int),.slice A shape.length c,.slice A' cells.length c']∧S<18446744073709551616∧Fits shape.length c 8∧Fits cells.length c' 104∧Pd shape∧
  LiesP w P A (Xa shape)∧LiesP w P A' us∧IsCelsP w P cells us
def IsCelsP (w:World)(P:Nat→Prop):List Ee→List Value→Prop
 | [],vs=>vs=[]
 |c::r,vs=>∃u t,vs=u++t∧IsCelP w P c u∧IsCelsP w P r t
def IsCelP (w:World)(P:Nat→Prop):Ee→List Value→Prop
 | .mk L kind neg top bot ch ins,vs=>∃A c A' c' A'' c'' us,vs=[.int .u64 (L:Int),.int .i64 kind,.bool neg,.slice A top.length c,.slice A' bot.length c',.int .i64 ch,.slice A'' ins.length c'']∧
  L<18446744073709551616∧Fits top.length c 4∧Fits bot.length c' 4∧Fits ins.length c'' 56∧Pd [kind,ch]∧Ov top∧Ov bot∧LiesP w P A (Jf top)∧LiesP w P A' (Jf bot)∧LiesP w P A'' us∧IsArrsP w P ins us∧(A=none→c=0)∧(A'=none→c'=0)
def IsArrsP (w:World)(P:Nat→Prop):List Od→List Value→Prop
 | [],vs=>vs=[]
 |a::r,vs=>∃u t,vs=u++t∧IsArrP w P a u∧IsArrsP w P r t
end
mutual
theorem IsArrP.keep {w w':World}{P P':Nat→Prop}(hk:∀p:Addr,P p.block→w'.cell? p=w.cell? p)(hP:∀b,P b→P' b):∀(a:Od) (vs:List Value),IsArrP w P a vs→IsArrP w' P' a vs
 | .mk S shape cells,vs,h=>by
  rw[IsArrP] at h⊢;obtain⟨A,c,A',c',us,h1,h2,h3,h4,h5,h6,h7,h8⟩:=h;exact⟨A,c,A',c',us,h1,h2,h3,h4,h5,h6.keep hk hP,h7.keep hk hP,IsCelsP.keep hk hP cells us h8⟩
theorem IsCelsP.keep {w w':World}{P P':Nat→Prop}(hk:∀p:Addr,P p.block→w'.cell? p=w.cell? p)(hP:∀b,P b→P' b):∀(a:List Ee) (vs:List Value),IsCelsP w P a vs→IsCelsP w' P' a vs
 | [],vs,h=>by rw[IsCelsP] at h⊢;exact h
 |c::r,vs,h=>by
  rw[IsCelsP] at h⊢;obtain⟨u,t,h1,h2,h3⟩:=h;exact⟨u,t,h1,IsCelP.keep hk hP c u h2,IsCelsP.keep hk hP r t h3⟩
theorem IsCelP.keep {w w':World}{P P':Nat→Prop}(hk:∀p:Addr,P p.block→w'.cell? p=w.cell? p)(hP:∀b,P b→P' b):∀(a:Ee) (vs:List Value),IsCelP w P a vs→IsCelP w' P' a vs
 | .mk L kind neg top bot ch ins,vs,h=>by
  rw[IsCelP] at h⊢;obtain⟨A,c,A',c',A2,c2,us,h1,h2,h3,h4,h5,h6,h7,h8,h9,h10,h11,h12⟩:=h;exact⟨A,c,A',c',A2,c2,us,h1,h2,h3,h4,h5,h6,h7,h8,h9.keep hk hP,h10.keep hk hP,h11.keep hk hP,IsArrsP.keep hk hP ins us h12.1,h12.2⟩
theorem IsArrsP.keep {w w':World}{P P':Nat→Prop}(hk:∀p:Addr,P p.block→w'.cell? p=w.cell? p)(hP:∀b,P b→P' b):∀(a:List Od) (vs:List Value),IsArrsP w P a vs→IsArrsP w' P' a vs
 | [],vs,h=>by rw[IsArrsP] at h⊢;exact h
 |c::r,vs,h=>by
  rw[IsArrsP] at h⊢;obtain⟨u,t,h1,h2,h3⟩:=h;exact⟨u,t,h1,IsArrP.keep hk hP c u h2,IsArrsP.keep hk hP r t h3⟩
end
mutual
theorem IsArr.p {w:World}{B:Nat}:∀(a:Od) (vs:List Value),IsArr w B a vs→IsArrP w (· <B) a vs
 | .mk S shape cells,vs,h=>by
  rw[IsArr] at h;rw[IsArrP];obtain⟨A,c,A',c',us,h1,h2,h3,h4,h5,h6,h7,h8⟩:=h;exact⟨A,c,A',c',us,h1,h2,h3,h4,h5,h6,h7,IsCels.p cells us h8⟩
theorem IsCels.p {w:World}{B:Nat}:∀(a:List Ee) (vs:List Value),IsCels w B a vs→IsCelsP w (· <B) a vs
 | [],vs,h=>by rw[IsCels] at h;rw[IsCelsP];exact h
 |c::r,vs,h=>by
  rw[IsCels] at h;rw[IsCelsP];obtain⟨u,t,h1,h2,h3⟩:=h;exact⟨u,t,h1,IsCel.p c u h2,IsCels.p r t h3⟩
theorem IsCel.p {w:World}{B:Nat}:∀(a:Ee) (vs:List Value),IsCel w B a vs→IsCelP w (· <B) a vs
 | .mk L kind neg top bot ch ins,vs,h=>by
  rw[IsCel] at h;rw[IsCelP];obtain⟨A,c,A',c',A2,c2,us,h1,h2,h3,h4,h5,h6,h7,h8,h9,h10,h11,h12⟩:=h;exact⟨A,c,A',c',A2,c2,us,h1,h2,h3,h4,h5,h6,h7,h8,h9,h10,h11,IsArrs.p ins us h12.1,h12.2⟩
theorem IsArrs.p {w:World}{B:Nat}:∀(a:List Od) (vs:List Value),IsArrs w B a vs→IsArrsP w (· <B) a vs
 | [],vs,h=>by rw[IsArrs] at h;rw[IsArrsP];exact h
 |c::r,vs,h=>by
  rw[IsArrs] at h;rw[IsArrsP];obtain⟨u,t,h1,h2,h3⟩:=h;exact⟨u,t,h1,IsArr.p c u h2,IsArrs.p r t h3⟩
end
mutual
theorem IsArrP.is {w:World}{P:Nat→Prop}{B:Nat}(hP:∀b,P b→b<B):∀(a:Od) (vs:List Value),IsArrP w P a vs→IsArr w B a vs
 | .mk S shape cells,vs,h=>by
  rw[IsArrP] at h;rw[IsArr];obtain⟨A,c,A',c',us,h1,h2,h3,h4,h5,h6,h7,h8⟩:=h;exact⟨A,c,A',c',us,h1,h2,h3,h4,h5,h6.lies hP,h7.lies hP,IsCelsP.is hP cells us h8⟩
theorem IsCelsP.is {w:World}{P:Nat→Prop}{B:Nat}(hP:∀b,P b→b<B):∀(a:List Ee) (vs:List Value),IsCelsP w P a vs→IsCels w B a vs
 | [],vs,h=>by rw[IsCelsP] at h;rw[IsCels];exact h
 |c::r,vs,h=>by
  rw[IsCelsP] at h;rw[IsCels];obtain⟨u,t,h1,h2,h3⟩:=h;exact⟨u,t,h1,IsCelP.is hP c u h2,IsCelsP.is hP r t h3⟩
theorem IsCelP.is {w:World}{P:Nat→Prop}{B:Nat}(hP:∀b,P b→b<B):∀(a:Ee) (vs:List Value),IsCelP w P a vs→IsCel w B a vs
 | .mk L kind neg top bot ch ins,vs,h=>by
  rw[IsCelP] at h;rw[IsCel];obtain⟨A,c,A',c',A2,c2,us,h1,h2,h3,h4,h5,h6,h7,h8,h9,h10,h11,h12⟩:=h;exact⟨A,c,A',c',A2,c2,us,h1,h2,h3,h4,h5,h6,h7,h8,h9.lies hP,h10.lies hP,h11.lies hP,IsArrsP.is hP ins us h12.1,h12.2⟩
theorem IsArrsP.is {w:World}{P:Nat→Prop}{B:Nat}(hP:∀b,P b→b<B):∀(a:List Od) (vs:List Value),IsArrsP w P a vs→IsArrs w B a vs
 | [],vs,h=>by rw[IsArrsP] at h;rw[IsArrs];exact h
 |c::r,vs,h=>by
  rw[IsArrsP] at h;rw[IsArrs];obtain⟨u,t,h1,h2,h3⟩:=h;exact⟨u,t,h1,IsArrP.is hP c u h2,IsArrsP.is hP r t h3⟩
end
theorem IsCelsP.snoc {w:World}{P:Nat→Prop}:∀{cs:List Ee} {vs:List Value} (h:IsCelsP w P cs vs) {c:Ee} {u:List Value} (hc:IsCelP w P c u),IsCelsP w P (cs++[c]) (vs++u)
 | [],vs,h,c,u,hc=>by
  rw[IsCelsP] at h;subst h;show IsCelsP w P [c] _;rw[IsCelsP];exact⟨u,[],by simp,hc,by rw[IsCelsP]⟩
 |x::r,vs,h,c,u,hc=>by
  rw[IsCelsP] at h;obtain⟨u',t,rfl,h2,h3⟩:=h;show IsCelsP w P (x::(r++[c])) _;rw[IsCelsP];exact⟨u',t++u,by simp,h2,h3.snoc hc⟩
theorem IsArrsP.snoc {w:World}{P:Nat→Prop}:∀{cs:List Od} {vs:List Value} (h:IsArrsP w P cs vs) {c:Od} {u:List Value} (hc:IsArrP w P c u),IsArrsP w P (cs++[c]) (vs++u)
 | [],vs,h,c,u,hc=>by
  rw[IsArrsP] at h;subst h;show IsArrsP w P [c] _;rw[IsArrsP];exact⟨u,[],by simp,hc,by rw[IsArrsP]⟩
 |x::r,vs,h,c,u,hc=>by
  rw[IsArrsP] at h;obtain⟨u',t,rfl,h2,h3⟩:=h;show IsArrsP w P (x::(r++[c])) _;rw[IsArrsP];exact⟨u',t++u,by simp,h2,h3.snoc hc⟩
theorem IsArrP.len {w:World}{P:Nat→Prop}{a:Od}{vs:List Value}(h:IsArrP w P a vs):vs.length=3:=by
 cases a;rw[IsArrP] at h;obtain⟨A,c,A',c',us,rfl,_⟩:=h;rfl
theorem IsArrP.form {w:World}{P:Nat→Prop}{a:Od}{vs:List Value}(h:IsArrP w P a vs):∃(S:Nat) (A:Option Addr) (n c:Nat) (A':Option Addr) (n' c':Nat),vs=[.int .u64 (S:Int),.slice A n c,.slice A' n' c']:=by
 cases a;rw[IsArrP] at h;obtain⟨A,c,A',c',us,rfl,_⟩:=h;exact⟨_,_,_,_,_,_,_,rfl⟩
def POut (B lo:Nat)(w:World)(V:Value)(b:Nat):Prop:=b<B∨(lo≤b∧b<w.heap.size∧V.ownBlock≠some b)
theorem POut.step {B lo H g n cap:Nat}{w w':World}{V:Value}(hs:w.heap.size≤w'.heap.size)(hat:V.ownBlock=some g∨g=H)(hH:w.heap.size≤H){b:Nat}(h:POut B lo w V b):POut B lo w' (.slice (some ⟨g,0,none⟩) n cap) b:=by
 rcases h with h |⟨h1,h2,h3⟩
 ·exact .inl h
 refine .inr ⟨h1,by omega,?_⟩;show some g≠some b;rintro e;injection e with e
 subst e;rcases hat with h4 |h4
 ·exact h3 h4
 omega
theorem POut.new {B lo H g n cap s2:Nat}{w w':World}{V:Value}(hlo:lo≤w.heap.size)(hs:s2≤w'.heap.size)(hat:V.ownBlock=some g∨g=H)(hH:s2≤H)(hown:∀x,V.ownBlock=some x→x<w.heap.size){b:Nat}(h:b<B∨(w.heap.size≤b∧b<s2)):POut B lo w' (.slice (some ⟨g,0,none⟩) n cap) b:=by
 rcases h with h |⟨h1,h2⟩
 ·exact .inl h
 refine .inr ⟨by omega,by omega,?_⟩;show some g≠some b;rintro e;injection e with e
 subst e;rcases hat with h4 |h4
 ·have:=hown _ h4;omega
 omega
theorem LiesP.of_own {w:World}{base:Nat}{e:TypeId}{size n c:Nat}{A:Option Addr}{xs:List Value}(h:w.ownsRow base e size (.slice A n c) n xs):LiesP w (λb=>base≤b∧b<w.heap.size) A xs:=by
 rcases Lies.of_own h with h1 |⟨b,off,hA,hb,hc⟩
 ·exact .inl h1
 refine .inr ⟨b,off,hA,⟨?_,hb⟩,hc⟩;exact(h.lt b (by rw[hA];rfl)).1
end
end Go.Proofs.YtceplkpjnebnfaaGreatDoor
namespace Pr
open Tr Tk
def K9 (t:Da):Prop:=kind t=9→Be t≠[]
theorem Ed {α β:Type}{x:Res α}{k:α→List Tok→Res β}{p:β×List Tok}(h:bnd x k=some (some p)):∃a T,x=some (some (a,T))∧k a T=some (some p):=by
 cases x with
 |none=>cases h
 |some o=>
  cases o with
  |none=>cases h
  |some q=>exact⟨q.1,q.2,rfl,h⟩
theorem Xd {α:Type}{a b:α}{T U:List Tok}(h:ret a T=some (some (b,U))):a=b∧T=U:=by
 unfold ret at h;injection h with h
 injection h with h
 injection h with h1 h2
 exact⟨h1,h2⟩
structure Jba (f:Nat):Prop where
 expr:∀T t U,expr f T=some (some (t,U))→K9 t
 behind:∀T t U,behind f T=some (some (t,U))→K9 t
 arrs:∀T l U,arrs f T=some (some (l,U))→∀t∈l,K9 t
 arr:∀T t U,arr f T=some (some (t,U))→K9 t
 more:∀a T t U,K9 a→more f a T=some (some (t,U))→K9 t
 alone:∀T t U,alone f T=some (some (t,U))→K9 t
theorem Md {k o:Int}{m:List UInt8}{l:List Da}(h:k≠9∨l≠[]):K9 (node k o m l):=by
 intro e;have e':k=9:=e;rcases h with h |h
 ·exact absurd e' h
 exact h
theorem A7 {t:Tok}{e:Da}(h:leaf t=some e):K9 e:=by
 unfold leaf at h;have key:∀{c:Prop} [Decidable c] {a b:Option Da},(c→a=some e→K9 e)→(¬c→b=some e→K9 e)→(if c then a else b)=some e→K9 e:=by
  intro c _ a b h1 h2 h;by_cases hc:c
  ·rw[if_pos hc] at h;exact h1 hc h
  rw[if_neg hc] at h;exact h2 hc h
 revert h
 refine key (λ_ h=>?_) (λ_=>key (λ_ h=>?_) (λ_=>key (λ_ h=>?_) (λ_=>key (λ_ h=>?_) (λ_=>key (λ_ h=>?_) (λ_=>key (λ_ h=>?_) (λ_=>key (λ_ h=>?_) (λ_ h=>?_)))))))
 ·injection h with h;subst h;intro e;cases (show(1:Int)=9 from e)
 ·injection h with h;subst h;intro e;cases (show(2:Int)=9 from e)
 ·injection h with h;subst h;exact Md (.inl (by decide))
 ·injection h with h;subst h;exact Md (.inl (by decide))
 ·injection h with h;subst h;exact Md (.inl (by decide))
 ·injection h with h;subst h;exact Md (.inl (by decide))
 ·injection h with h;subst h;exact Md (.inl (by decide))
 cases h
theorem k9_strand {l:List Da}(h:∀t∈l,K9 t):K9 (strandT l):=by
 unfold strandT
 split
 ·exact h _ (by simp)
 exact Md (.inl (by decide))
theorem J9 {a e:Da}:K9 (set a e):=by
 unfold set
 split
 ·exact Md (.inl (by decide))
 split
 ·exact Md (.inl (by decide))
 exact Md (.inl (by decide))
theorem nine:∀f,Jba f
 | 0=>⟨λ_ _ _ h=>(by cases h),λ_ _ _ h=>(by cases h),λ_ _ _ h=>(by cases h),λ_ _ _ h=>(by cases h),λ_ _ _ _ _ h=>(by cases h),λ_ _ _ h=>(by cases h)⟩
 |f+1=>by
  have ih:=nine f;refine⟨λT t U h=>?_,λT t U h=>?_,λT l U h=>?_,λT t U h=>?_,λa T t U ha h=>?_,λT t U h=>?_⟩
  ·rw[Pr.expr] at h
   by_cases hb:begA T=true
   ·rw[if_pos hb] at h;exact ih.behind _ _ _ h
   rw[if_neg hb] at h;obtain⟨g,V,_,h⟩:=Ed h;obtain⟨e,X,_,h⟩:=Ed h;rw[←(Xd h).1];exact Md (.inl (by decide))
  ·rw[Pr.behind] at h
   obtain⟨l,V,h1,h⟩:=Ed h;by_cases hc:target (strandT l)=true∧gl V 0=8592
   ·rw[if_pos hc] at h
    obtain⟨e,X,_,h⟩:=Ed h;rw[←(Xd h).1];exact J9
   rw[if_neg hc] at h;by_cases hb:begF V=true
   ·rw[if_pos hb] at h
    obtain⟨g,X,_,h⟩:=Ed h;by_cases hd:kind (strandT l)=3∧gl X 0=8592
    ·rw[if_pos hd] at h
     obtain⟨e,Y,_,h⟩:=Ed h;rw[←(Xd h).1];exact Md (.inl (by decide))
    rw[if_neg hd] at h;obtain⟨e,Y,_,h⟩:=Ed h;rw[←(Xd h).1];exact Md (.inl (by decide))
   rw[if_neg hb] at h;rw[←(Xd h).1];exact k9_strand (ih.arrs _ _ _ h1)
  ·rw[Pr.arrs] at h
   by_cases hb:begA T=true
   ·rw[if_pos hb] at h
    obtain⟨a,V,h1,h⟩:=Ed h;obtain⟨l',X,h2,h⟩:=Ed h;rw[←(Xd h).1];intro t ht;rcases List.mem_cons.1 ht with rfl |ht
    ·exact ih.arr _ _ _ h1
    exact ih.arrs _ _ _ h2 t ht
   rw[if_neg hb] at h;rw[←(Xd h).1];intro t ht;cases ht
  ·rw[Pr.arr] at h
   obtain⟨a,V,h1,h⟩:=Ed h;exact ih.more _ _ _ _ (ih.alone _ _ _ h1) h
  ·rw[Pr.more] at h
   by_cases hc:gl T 0=91
   ·rw[if_pos hc] at h
    obtain⟨l,V,_,h⟩:=Ed h;by_cases hd:gl V 0=93
    ·rw[if_pos hd] at h
     exact ih.more _ _ _ _ (Md (.inr (by simp))) h
    rw[if_neg hd] at h;cases h
   rw[if_neg hc] at h;rw[←(Xd h).1];exact ha
  rw[Pr.alone] at h;by_cases hb:begA T=true
  ·rw[if_pos hb] at h
   cases hl:leaf (T.getD 0 none_) with
   |some e=>
    rw[hl] at h;rw[←(Xd h).1];exact A7 hl
   |none=>
    rw[hl] at h;obtain⟨e,V,h1,h⟩:=Ed h;by_cases hd:gl V 0=41
    ·rw[if_pos hd] at h
     rw[←(Xd h).1];exact ih.expr _ _ _ h1
    rw[if_neg hd] at h;cases h
  rw[if_neg hb] at h;cases h
end Pr
namespace Go
theorem Bj {P:Program}(w:World)(t u ty e:TypeId)(k k':IntKind)(i:TypeInfo)(z:Value)(ht:P.underlying t=some (.slice e))(hu:P.underlying u=some (.int k))(hi:P.info? e=some i)(hz:i.zero=some z)
 (n:Nat) (h0:0<n) (hw:IntKind.i64.wrap (n:Int)=n) (hs:n*i.size≠0) (h63:(n:Int)≤9223372036854775807) (h48:n*i.bytes≤281474976710656):
 (Builtin.append_ #[t,u] ty #[.slice none 0 0,.int k' n]).run P w=
  .ok (.slice (some ⟨w.heap.size,0,none⟩) n (grownCap w n 0 e)) (w.drew.alloc (.cells (Builtin.zeroCells z.cells n++Builtin.zeroCells z.cells (grownCap w n 0 e-n)) e)):=by
 have hn:n≠0:=by omega
 have h63':¬(9223372036854775807<(n:Int)):=by omega
 have h48':¬(281474976710656<Builtin.nextslicecap n 0*i.bytes):=by rw[nextslicecap_zero h0];omega
 have hneg:¬((n:Int)<0):=by omega
 have h48'':¬((281474976710656:Int)<(n:Int)*(i.bytes:Int)):=by
  rw[←Int.natCast_mul];generalize n*i.bytes=q at h48;omega
 simp[Builtin.append_,run_underlying ht,run_underlying hu,sizeOf,typeInfo,zeroValue,hi,hz,asInt,asIntOf,hw,hneg,h48'',hn,h63',h48',hs,Question.forced,run_firstCells_none,newRow,grownCap]
theorem Kr {P:Program}(w:World)(base:Nat)(t u ty e:TypeId)(k k':IntKind)(i:TypeInfo)(z:Value)(size bytes:Nat)(ht:P.underlying t=some (.slice e))(hu:P.underlying u=some (.int k))(hi:P.info? e=some i)(hz:i.zero=some z)
 (hsize:i.size=size) (hby:i.bytes=bytes) (hzs:z.cells.size=size) (hsz:0<size) (n:Nat) (h0:0<n) (h63:n≤maxLen) (h48:n*bytes≤281474976710656) (hbase:base≤w.heap.size):
 ∃cap w',(Builtin.append_ #[t,u] ty #[.slice none 0 0,.int k' n]).run P w= .ok (.slice (some ⟨w.heap.size,0,none⟩) n cap) w'∧n≤cap∧cap≤maxLen∧w'.ownsRow base e size (.slice (some ⟨w.heap.size,0,none⟩) 0 cap) 0 []∧w.grownBy w' none:=by
 subst hsize;subst hby
 have hn63:n≤9223372036854775807:=by simp only[maxLen] at h63;omega
 have hw:IntKind.i64.wrap (n:Int)=n:=by
  unfold IntKind.wrap;simp[IntKind.bits,IntKind.signed];omega
 have hr:=Bj w t u ty e k k' i z ht hu hi hz n h0 hw (Nat.mul_ne_zero (by omega) (by omega)) (by omega) h48;have hge:=grownCap_ge w n 0 e;have hcm:=grownCap_le_maxLen w n 0 e h63;refine⟨_,_,hr,hge,hcm,⟨by simp,.inr ⟨w.heap.size,_,_,rfl,hbase,heap_alloc_new w.drew _,by omega,hcm,?_,by simp⟩⟩,⟨rfl,rfl,rfl,by simp,λj hj _=>by first|exact heap_alloc_old w.drew _ j hj |exact heap_alloc_old w.drew _ hj⟩⟩;simp only[Array.size_append,size_zeroCells,hzs,←Nat.add_mul]
 congr 1
 omega
theorem Um {P:Program}{w:World}{ops:Array Oper}{rest:List Oper}{o:Oper}{a:Act}{Q:Exit→Act→World→Prop}(hgd:o.guard=none)(s x:Operand)(t u:TypeId)
 (ho:o.op= .call {callee:= .builtin .append,args:= #[s,x],argTypes:= #[t,u]})
 (base:Nat) (e:TypeId) (k k':IntKind) (i:TypeInfo) (z:Value) (size bytes:Nat) (ht:P.underlying t=some (.slice e)) (hu:P.underlying u=some (.int k)) (hi:P.info? e=some i) (hz:i.zero=some z)
 (hsize:i.size=size) (hby:i.bytes=bytes) (hzs:z.cells.size=size) (hsz:0<size) (n:Nat) (hs:a.eval s= .slice none 0 0) (hx:a.eval x= .int k' n)
 (h0:0<n) (h63:n≤maxLen) (h48:n*bytes≤281474976710656) (hbase:base≤w.heap.size)
 (h:∀cap w',n≤cap→cap≤maxLen→w'.ownsRow base e size (.slice (some ⟨w.heap.size,0,none⟩) 0 cap) 0 []→w.grownBy w' none→wpList P ops Q rest (a.put o.dst (.slice (some ⟨w.heap.size,0,none⟩) n cap)) w'):wpList P ops Q (o::rest) a w:=by
 refine wpList_plain hgd λK hK=>?_;obtain⟨cap,w',hr,h1,h2,h3,h4⟩:=Kr w base t u o.type e k k' i z size bytes ht hu hi hz hsize hby hzs hsz n h0 h63 h48 hbase;unfold Oper.wp execOp;simp only[ho,resolve,invoke,builtin,Sem.run_bind,Sem.run_pure,Result.andThen_ok,List.map_toArray,List.map_cons,List.map_nil,hs,hx,hr];exact hK _ _ (h cap w' h1 h2 h3 h4)
end Go
namespace Tk
open Go
theorem Kk {l:List Int}:∀{f k:Nat} {out t:List Int} {e:Nat},quote l f k out=some (t,e)→t.length+k≤out.length+e
 | 0,k,out,t,e,h=>by unfold quote at h;cases h
 |f+1,k,out,t,e,h=>by
  unfold quote at h
  split at h
  ·cases h
  split at h
  ·have:=Kk h
   rw[List.length_append] at this;simp at this;omega
  split at h
  ·injection h with h
   injection h with h1 h2
   subst h1 h2;omega
  have:=Kk h;rw[List.length_append] at this;simp at this;omega
theorem M9 {l:List Int}{i:Nat}:(read l i).1.l.length≤l.length:=by
 have hz:([]:List Int).length≤l.length:=Nat.zero_le _;unfold read;simp only
 split
 ·split
  ·exact hz
  split<;>exact hz
 split
 ·split<;>exact hz
 split
 ·split
  ·exact hz
  rename_i t e h;have h1:=Kk h;have h2:=Ah h;show t.length≤_;simp at h1;omega
 split
 ·split
  ·exact hz
  split
  ·exact hz
  split<;>exact hz
 split<;>exact hz
theorem Lk {l:List Int}:∀{f i:Nat} {out:List Tok},i≤l.length→out.length≤i→(∀t∈out,t.l.length≤l.length∧t.at_≤l.length)→(goF l f i out).1.length≤l.length∧∀t∈(goF l f i out).1,t.l.length≤l.length∧t.at_≤l.length
 | 0,i,out,h1,h2,h3=>⟨Nat.le_trans h2 h1,h3⟩
 |f+1,i,out,h1,h2,h3=>by
  unfold goF;by_cases a:l.length≤i∨l.getD i (-1)=9053
  ·rw[if_pos a]
   exact⟨Nat.le_trans h2 h1,h3⟩
  rw[if_neg a];by_cases b:cls (l.getD i (-1))=1
  ·rw[if_pos b]
   exact Lk (by omega) (by omega) h3
  rw[if_neg b];by_cases c:(read l i).2.2≠0
  ·rw[if_pos c]
   exact⟨Nat.zero_le _,λt ht=>absurd ht List.not_mem_nil⟩
  rw[if_neg c];have hr:=read_len (l:=l) (i:=i) (by omega) (by simpa using c);refine Lk (by omega) (by rw[List.length_append];simp;omega) (λt ht=>?_);rcases List.mem_append.1 ht with ht |ht
  ·exact h3 t ht
  rw[List.mem_singleton] at ht;rw[ht];exact⟨M9,by rw[(read_ok (by simpa using c)).2];exact h1⟩
theorem Fw {l:List Int}{b:Option Nat}:(cutL l b).1.length≤l.length∧∀t∈(cutL l b).1,t.l.length≤l.length∧t.at_≤l.length:=by
 have hg:=Lk (l:=l) (f:=l.length+1) (i:=0) (out:=[]) (Nat.zero_le _) (Nat.le_refl _) (λt ht=>absurd ht List.not_mem_nil);have hz:(([]:List Tok).length≤l.length∧∀t∈([]:List Tok),t.l.length≤l.length∧t.at_≤l.length):=⟨Nat.zero_le _,λt ht=>absurd ht List.not_mem_nil⟩;unfold cutL
 split
 ·exact hz
 split
 ·exact hg
 split
 ·exact hg
 exact hz
theorem cut_small (s:ByteArray):(cut s).1.length≤s.size∧∀t∈(cut s).1,t.l.length≤s.size∧t.at_≤s.size:=by
 have h:=Fw (l:=Gl.ints (Gl.dec s 0).1) (b:=(Gl.dec s 0).2);have hd:=Gl.dec_len (s:=s) (s.size+1) 0 (by omega);have hl:(Gl.ints (Gl.dec s 0).1).length≤s.size:=by unfold Gl.ints;rw[List.length_map];omega
 exact⟨Nat.le_trans h.1 hl,λt ht=>⟨Nat.le_trans (h.2 t ht).1 hl,Nat.le_trans (h.2 t ht).2 hl⟩⟩
end Tk
namespace Tk
open Go
structure Mk (n:Rt.Nm):Prop where
 o1:Nt.Ok n.top
 o2:Nt.Ok n.bot
 t1:n.top.length≤32
 t2:n.bot.length≤32
theorem Wc:Mk Rt.none_:=⟨Nt.ok_nil,Nt.ok_nil,Nat.zero_le _,Nat.zero_le _⟩
theorem Mr (a b:Bool)(x y:Nat):Mk (Rt.mk a b x y).1:=by
 unfold Rt.mk
 split
 ·exact Wc
 split
 ·exact Wc
 next h=>exact⟨Nt.ok_digs _,Nt.ok_digs _,by show(Nt.digs _).length≤32;omega,by show(Nt.digs _).length≤32;omega⟩
theorem E3 (b:Bool)(t:List UInt8):Mk (Dg.body b t).1:=by
 unfold Dg.body
 split
 ·exact Wc
 split
 ·exact Wc
 split
 ·exact Mr _ _ _ _
 split
 ·exact Wc
 split
 ·exact Mr _ _ _ _
 split
 ·exact Mr _ _ _ _
 exact Wc
theorem Sy (t:List UInt8):Mk (Dg.parse t).1:=by
 unfold Dg.parse
 split<;>exact E3 _ _
theorem one_len (c:Nat):(Gl.one c).length≤4:=by
 rw[Gl.one_len];unfold Gl.wide
 split
 ·decide
 split
 ·decide
 split<;>decide
theorem enc_len:∀l:List Int,(enc l).length≤4*l.length
 | []=>Nat.le_refl _
 |c::r=>by
  have h:=enc_len r;have h1:=one_len c.toNat;have e:enc (c::r)=enc1 c++enc r:=rfl;rw[e,List.length_append,List.length_cons];have e1:(enc1 c).length=(Gl.one c.toNat).length:=by unfold enc1;simp
  omega
def Pg (l:List Int):Prop:=∀x∈l,-1≤x∧x≤1114111
structure Few (t:Tok):Prop where
 s:t.s.length≤64
 c: -1≤t.c∧t.c≤1114111
 l:Pg t.l
 n:Mk t.n
theorem Xg:Few none_:=⟨Nat.zero_le _,by decide,λ_ h=>(by cases h),Wc⟩
theorem Vm {l:List Int}(h:Pg l)(i:Nat): -1≤l.getD i (-1)∧l.getD i (-1)≤1114111:=by
 rcases Nat.lt_or_ge i l.length with hi |hi
 ·rw[getD_in hi];exact h _ (List.getElem_mem hi)
 rw[getD_out hi];decide
theorem Wh {l:List Int}(hl:Pg l):∀{f k:Nat} {out t:List Int} {e:Nat},Pg out→quote l f k out=some (t,e)→Pg t
 | 0,_,_,_,_,_,h=>by cases h
 |f+1,k,out,t,e,ho,h=>by
  have put:∀x:Int,-1≤x∧x≤1114111→Pg (out++[x]):=λx hx y hy=>by
   rcases List.mem_append.1 hy with h |h
   ·exact ho y h
   rw[List.mem_singleton] at h;rw[h];exact hx
  unfold quote at h
  split at h
  ·cases h
  split at h
  ·exact Wh hl (put _ (Vm hl _)) h
  split at h
  ·injection h with h;injection h with h _;rw[←h];exact ho
  exact Wh hl (put 39 (by decide)) h
theorem Ty {c:Int}(h:decide (-1≤c∧c≤1114111)=true): -1≤c∧c≤1114111:=of_decide_eq_true h
theorem F3 {l:List Int}(hl:Pg l)(i:Nat):Few (read l i).1:=by
 have hc:=Vm hl i;unfold read;simp only
 split
 ·split
  ·exact Xg
  split
  ·exact⟨Nat.zero_le _,Ty rfl,λ_ h=>(by cases h),Sy _⟩
  exact Xg
 split
 ·split
  ·exact Xg
  refine⟨?_,Ty rfl,λ_ h=>(by cases h),Wc⟩;have h1:=enc_len ((l.drop i).take (words l i));have h2:((l.drop i).take (words l i)).length≤words l i:=by simp;omega
  show(enc _).length≤64;omega
 split
 ·split
  ·exact Xg
  rename_i t e h;exact⟨Nat.zero_le _,Ty rfl,Wh hl (λ_ h=>(by cases h)) h,Wc⟩
 split
 ·split
  ·refine⟨Nat.zero_le _,?_,λ_ h=>(by cases h),Wc⟩
   show-1≤l.getD (i+1) (-1)-48∧l.getD (i+1) (-1)-48≤1114111;omega
  split
  ·exact⟨Nat.zero_le _,Ty rfl,λ_ h=>(by cases h),Wc⟩
  split
  ·exact⟨Nat.zero_le _,Ty rfl,λ_ h=>(by cases h),Wc⟩
  exact Xg
 split
 ·exact Xg
 exact⟨Nat.zero_le _,hc,λ_ h=>(by cases h),Wc⟩
theorem Bl {l:List Int}(hl:Pg l):∀{f i:Nat} {out:List Tok},(∀t∈out,Few t)→∀t∈(goF l f i out).1,Few t
 | 0,_,_,h=>h
 |f+1,i,out,h=>by
  unfold goF
  split
  ·exact h
  split
  ·exact Bl hl h
  split
  ·exact λt ht=>by cases ht
  refine Bl hl (λt ht=>?_);rcases List.mem_append.1 ht with h1 |h1
  ·exact h t h1
  rw[List.mem_singleton] at h1;rw[h1];exact F3 hl i
theorem Nr {l:List Int}:∀{f i:Nat} {out:List Tok},i≤l.length→(goF l f i out).2.1≤l.length
 | 0,_,_,_=>Nat.zero_le _
 |f+1,i,out,h=>by
  unfold goF
  split
  ·exact Nat.zero_le _
  next h0=>
  split
  ·exact Nr (by omega)
  split
  ·exact h
  next h1=>
  have hp:=read_len (l:=l) (i:=i) (by omega) (by omega);exact Nr (by omega)
theorem Uy (s:ByteArray):Pg (Gl.ints (Gl.dec s 0).1):=λx hx=>by
 unfold Gl.ints at hx;obtain⟨c,hc,e⟩:=List.mem_map.1 hx;have h:=Gl.dec_may (s:=s) (s.size+1) 0 (by omega) c hc;have e':(c:Int)=x:=e;unfold Gl.may at h;simp at h;omega
theorem cut_few (s:ByteArray):∀t∈(cut s).1,Few t:=by
 have hc:=Uy s;unfold cut cutL;have none_in:∀t∈([]:List Tok),Few t:=λt h=>by cases h
 split
 ·exact none_in
 split
 ·exact Bl hc none_in
 split
 ·exact Bl hc none_in
 exact none_in
theorem cut_to (s:ByteArray):(cut s).2.1≤s.size:=by
 have hlen:=Gl.dec_len (s:=s) (s.size+1) 0 (by omega);have hl:(Gl.ints (Gl.dec s 0).1).length=(Gl.dec s 0).1.length:=by unfold Gl.ints;simp
 have hg:=Nr (l:=Gl.ints (Gl.dec s 0).1) (f:=(Gl.ints (Gl.dec s 0).1).length+1) (i:=0) (out:=[]) (Nat.zero_le _);unfold cut cutL
 split
 ·exact Nat.zero_le _
 split
 ·omega
 split
 ·omega
 show(Gl.ints (Gl.dec s 0).1).length≤s.size;omega
end Tk
namespace Go.Proofs.YtceplkpjnebnfaaGreatDoor
section
open Go.ChangeShapes Go.WideShapes Go.ChangeAt Go.RowKit
def Wm:List (String×DataW Unit):=[("unicode/utf8.acceptRanges",Rows.laid_unicode_utf8_acceptRanges),("unicode/utf8.first",Rows.laid_unicode_utf8_first)]
theorem Qr (os:Os)(args:Array Value):laidMetH Tryz.prog Wm ((World.laidAll Tryz.prog os Wm).forCall (λ_ _=>0) ⟨#[],args,[]⟩).memory:=by
 rw[MakeChecks.laidMetH_plain _ _ _ (by kernel_rfl)];exact laidMet_laidAll _ (by kernel_rfl) (by kernel_rfl)
theorem Wu {W:World}(_:laidMetH Tryz.prog Wm W):True:=trivial
end
end Go.Proofs.YtceplkpjnebnfaaGreatDoor
namespace Pr
open Tr Tk
def z (x:Tok):Tok:={x with at_:=0}
def Sm (T T':List Tok):Prop:=T.map z=T'.map z
theorem Sm.nil_iff {T T':List Tok}(h:Sm T T'):T=[]↔T'=[]:=by
 unfold Sm at h
 constructor
 ·rintro rfl;simpa using h.symm
 rintro rfl;simpa using h
theorem Sm.tail {T T':List Tok}(h:Sm T T'):Sm T.tail T'.tail:=by
 cases T with
 |nil=>rw[(h.nil_iff).1 rfl];exact rfl
 |cons x r=>
  cases T' with
  |nil=>exact absurd ((h.nil_iff).2 rfl) (by simp)
  |cons y s=>exact(List.cons.inj h).2
theorem drop_tail (T:List Tok):∀n,T.drop (n+1)=(T.drop n).tail:=by intro n;simp[List.tail_drop]
theorem Sm.drop {T T':List Tok}(h:Sm T T'):∀n,Sm (T.drop n) (T'.drop n)
 | 0=>h
 |n+1=>by rw[drop_tail,drop_tail];exact(h.drop n).tail
theorem Sm.get {T T':List Tok}(h:Sm T T')(n:Nat):(T[n]?).map z=(T'[n]?).map z:=by
 rw[←List.getElem?_map,←List.getElem?_map,show T.map z=T'.map z from h]
theorem Sm.kd {T T':List Tok}(h:Sm T T')(n:Nat):kd T n=kd T' n:=by
 have h1:=h.get n;unfold Pr.kd;cases hx:T[n]? with
 |none=>rw[hx] at h1;cases hy:T'[n]? with
  |none=>rfl
  |some y=>rw[hy] at h1;cases h1
 |some x=>rw[hx] at h1;cases hy:T'[n]? with
  |none=>rw[hy] at h1;cases h1
  |some y=>
   rw[hy] at h1;exact(show(z x).kind=(z y).kind by rw[show z x=z y from Option.some.inj h1])
theorem Sm.getD {T T':List Tok}(h:Sm T T')(n:Nat):z (T.getD n Tk.none_)=z (T'.getD n Tk.none_):=by
 have h1:=h.get n;rw[List.getD_eq_getElem?_getD,List.getD_eq_getElem?_getD];cases hx:T[n]? with
 |none=>rw[hx] at h1;cases hy:T'[n]? with
  |none=>rfl
  |some y=>rw[hy] at h1;cases h1
 |some x=>rw[hx] at h1;cases hy:T'[n]? with
  |none=>rw[hy] at h1;cases h1
  |some y=>
   rw[hy] at h1;exact Option.some.inj h1
theorem Sm.gl {T T':List Tok}(h:Sm T T')(n:Nat):gl T n=gl T' n:=by
 unfold Pr.gl;rw[h.kd n,show(T.getD n Tk.none_).c=(T'.getD n Tk.none_).c from(show(z (T.getD n Tk.none_)).c=(z (T'.getD n Tk.none_)).c by rw[h.getD n])]
theorem Sm.begA {T T':List Tok}(h:Sm T T'):begA T=begA T':=by unfold Pr.begA;rw[h.kd 0,h.gl 0]
theorem Sm.begP {T T':List Tok}(h:Sm T T'):begP T=begP T':=by unfold Pr.begP;rw[h.kd 0,h.gl 0]
theorem Sm.begF {T T':List Tok}(h:Sm T T'):begF T=begF T':=by unfold Pr.begF;rw[h.begP,h.gl 0]
theorem Sm.leaf {T T':List Tok}(h:Sm T T'):leaf (T.getD 0 Tk.none_)=leaf (T'.getD 0 Tk.none_):=by
 have:=h.getD 0;show Pr.leaf (z (T.getD 0 Tk.none_))=Pr.leaf (z (T'.getD 0 Tk.none_));rw[this]
theorem Sm.fleaf {T T':List Tok}(h:Sm T T'):fleaf (T.getD 0 Tk.none_)=fleaf (T'.getD 0 Tk.none_):=by
 have:=h.getD 0;show Pr.fleaf (z (T.getD 0 Tk.none_))=Pr.fleaf (z (T'.getD 0 Tk.none_));rw[this]
theorem Sm.s {T T':List Tok}(h:Sm T T'):(T.getD 0 Tk.none_).s=(T'.getD 0 Tk.none_).s:=(show(z (T.getD 0 Tk.none_)).s=(z (T'.getD 0 Tk.none_)).s by rw[h.getD 0])
inductive Rl {α:Type}:Res α→Res α→Prop
 |out:Rl none none
 |fail:Rl (some none) (some none)
 |ret (a:α) {T T':List Tok} (h:Sm T T'):Rl (some (some (a,T))) (some (some (a,T')))
theorem Rl.bnd {α β:Type}{x y:Res α}{k k':α→List Tok→Res β}(h:Rl x y)(hk:∀a T T',Sm T T'→Rl (k a T) (k' a T')):Rl (bnd x k) (bnd y k'):=by
 cases h with
 |out=>exact .out
 |fail=>exact .fail
 |ret a h=>exact hk _ _ _ h
theorem Rl.ite {α:Type}{c c':Prop}[Decidable c][Decidable c']{x y x' y':Res α}(hc:c↔c')(h:Rl x x')(h':Rl y y'):Rl (if c then x else y) (if c' then x' else y'):=by
 by_cases h0:c
 ·rw[if_pos h0,if_pos (hc.1 h0)];exact h
 rw[if_neg h0,if_neg (λe=>h0 (hc.2 e))];exact h'
structure Paa (f:Nat):Prop where
 stmts:∀b T T',Sm T T'→Rl (stmts f b T) (stmts f b T')
 stmt:∀b T T',Sm T T'→Rl (stmt f b T) (stmt f b T')
 expr:∀T T',Sm T T'→Rl (expr f T) (expr f T')
 behind:∀T T',Sm T T'→Rl (behind f T) (behind f T')
 arrs:∀T T',Sm T T'→Rl (arrs f T) (arrs f T')
 arr:∀T T',Sm T T'→Rl (arr f T) (arr f T')
 more:∀a T T',Sm T T'→Rl (more f a T) (more f a T')
 places:∀T T',Sm T T'→Rl (places f T) (places f T')
 alone:∀T T',Sm T T'→Rl (alone f T) (alone f T')
 func:∀T T',Sm T T'→Rl (func f T) (func f T')
 ops:∀g T T',Sm T T'→Rl (ops f g T) (ops f g T')
 plain:∀T T',Sm T T'→Rl (plain f T) (plain f T')
theorem J6:∀f,Paa f
 | 0=>⟨λ_ _ _ _=> .out,λ_ _ _ _=> .out,λ_ _ _=> .out,λ_ _ _=> .out,λ_ _ _=> .out,λ_ _ _=> .out,λ_ _ _ _=> .out,λ_ _ _=> .out,λ_ _ _=> .out,λ_ _ _=> .out,λ_ _ _ _=> .out,λ_ _ _=> .out⟩
 |f+1=>by
  have h:=J6 f
  constructor
  ·intro b T T' s
   rw[Pr.stmts,Pr.stmts];exact(h.stmt b T T' s).bnd λe U U' u=>Rl.ite (by rw[u.gl 0]) ((h.stmts b _ _ u.tail).bnd λ_ _ _ v=> .ret _ v) (.ret _ u)
  ·intro b T T' s
   rw[Pr.stmt,Pr.stmt,s.s];exact Rl.ite (by rw[s.kd 0,s.gl 1]) ((h.func _ _ (s.drop 2)).bnd λ_ _ _ v=> .ret _ v) ((h.expr _ _ s).bnd λe U U' u=>Rl.ite (by rw[u.gl 0]) (Rl.ite (by rw[u.tail.gl 0]) ((h.expr _ _ u.tail.tail).bnd λ_ _ _ v=> .ret _ v) ((h.expr _ _ u.tail).bnd λ_ _ _ v=> .ret _ v)) (.ret _ u))
  ·intro T T' s
   rw[Pr.expr,Pr.expr];exact Rl.ite (by rw[s.begA]) (h.behind _ _ s) ((h.func _ _ s).bnd λ_ _ _ u=>(h.expr _ _ u).bnd λ_ _ _ v=> .ret _ v)
  ·intro T T' s
   rw[Pr.behind,Pr.behind];exact(h.arrs _ _ s).bnd λl U U' u=>Rl.ite (by rw[u.gl 0]) ((h.expr _ _ u.tail).bnd λ_ _ _ v=> .ret _ v) (Rl.ite (by rw[u.begF]) ((h.func _ _ u).bnd λ_ _ _ v=>Rl.ite (by rw[v.gl 0]) ((h.expr _ _ v.tail).bnd λ_ _ _ x=> .ret _ x) ((h.expr _ _ v).bnd λ_ _ _ x=> .ret _ x)) (.ret _ u))
  ·intro T T' s
   rw[Pr.arrs,Pr.arrs];exact Rl.ite (by rw[s.begA]) ((h.arr _ _ s).bnd λ_ _ _ u=>(h.arrs _ _ u).bnd λ_ _ _ v=> .ret _ v) (.ret _ s)
  ·intro T T' s
   rw[Pr.arr,Pr.arr];exact(h.alone _ _ s).bnd λ_ _ _ u=>h.more _ _ _ u
  ·intro a T T' s
   rw[Pr.more,Pr.more];exact Rl.ite (by rw[s.gl 0]) ((h.places _ _ s.tail).bnd λ_ _ _ u=>Rl.ite (by rw[u.gl 0]) (h.more _ _ _ u.tail) .fail) (.ret _ s)
  ·intro T T' s
   rw[Pr.places,Pr.places];exact(Rl.ite (by rw[s.gl 0]) (.ret _ s) (h.expr _ _ s)).bnd λ_ _ _ u=>Rl.ite (by rw[u.gl 0]) ((h.places _ _ u.tail).bnd λ_ _ _ v=> .ret _ v) (.ret _ u)
  ·intro T T' s
   rw[Pr.alone,Pr.alone,s.leaf];refine Rl.ite (by rw[s.begA]) ?_ .fail;cases leaf (T'.getD 0 Tk.none_) with
   |some e=>exact .ret _ s.tail
   |none=>exact(h.expr _ _ s.tail).bnd λ_ _ _ u=>Rl.ite (by rw[u.gl 0]) (.ret _ u.tail) .fail
  ·intro T T' s
   rw[Pr.func,Pr.func];exact Rl.ite (by rw[s.gl 0]) (Rl.ite (by rw[s.tail.gl 0]) ((h.plain _ _ s.tail.tail).bnd λ_ _ _ u=>h.ops _ _ _ u) .fail) ((h.plain _ _ s).bnd λ_ _ _ u=>h.ops _ _ _ u)
  ·intro g T T' s
   rw[Pr.ops,Pr.ops,s.gl 0];exact Rl.ite Iff.rfl (h.ops _ _ _ s.tail) (Rl.ite Iff.rfl ((Rl.ite (by rw[s.tail.begA]) (h.arr _ _ s.tail) (h.plain _ _ s.tail)).bnd λ_ _ _ u=>h.ops _ _ _ u) (.ret _ s))
  intro T T' s;rw[Pr.plain,Pr.plain,s.fleaf];refine Rl.ite (by rw[s.begP]) ?_ .fail;cases fleaf (T'.getD 0 Tk.none_) with
  |some e=>exact .ret _ s.tail
  |none=>exact(h.stmts _ _ _ s.tail).bnd λ_ _ _ u=>Rl.ite (by rw[u.gl 0]) (.ret _ u.tail) .fail
theorem Sm.len {T T':List Tok}(h:Sm T T'):T.length=T'.length:=by
 have:=congrArg List.length (show T.map z=T'.map z from h)
 simpa using this
theorem Xm {T T':List Tok}(h:Sm T T'):lineT T=lineT T':=by
 have hf:fuel T=fuel T':=by unfold fuel;rw[h.len]
 unfold lineT;rw[hf];have h1:=(J6 (fuel T')).stmts false T T' h
 revert h1
 generalize stmts (fuel T') false T=x;generalize stmts (fuel T') false T'=y;intro h1;cases h1 with
 |out=>rfl
 |fail=>rfl
 |ret a h2=>
  rename_i U U';cases U with
  |nil=>rw[(h2.nil_iff).1 rfl]
  |cons _ _=>cases U' with
   |nil=>exact absurd ((h2.nil_iff).2 rfl) (by simp)
   |cons _ _=>rfl
end Pr
namespace Pr
open Tr Tk
def Ev {α:Type}(F:Nat→Res α)(a:α)(U:List Tok):Prop:=∃f,F f=some (some (a,U))
theorem Kba {α:Type}{F:Nat→Res α}(h:∀f,Le (F f) (F (f+1))){f g:Nat}{r:Option (α×List Tok)}(hf:F f=some r)(hg:f≤g):F g=some r:=by
 induction g with
 |zero=>
  obtain rfl:f=0:=by omega
  exact hf
 |succ g ih=>
  by_cases e:f=g+1
  ·subst e;exact hf
  exact h g r (ih (by omega))
theorem Ev.up {α:Type}{F:Nat→Res α}{a:α}{U:List Tok}(h:Ev F a U)(hm:∀f,Le (F f) (F (f+1))):∃f,∀g,f≤g→F g=some (some (a,U)):=by
 obtain⟨f,hf⟩:=h;exact⟨f,λg hg=>Kba hm hf hg⟩
theorem Ji {α β:Type}(a:α)(T:List Tok)(k:α→List Tok→Res β):bnd (some (some (a,T))) k=k a T:=rfl
def Place (T:List Tok)(p:Da)(U:List Tok):Prop:=(gl T 0=59∨gl T 0=93)∧p=node 10 0 [] []∧U=T∨¬(gl T 0=59∨gl T 0=93)∧Ev (λf=>expr f T) p U
theorem Place.up {T U:List Tok}{p:Da}(h:Place T p U):∃f,∀g,f≤g→(if gl T 0=59∨gl T 0=93 then ret (node 10 0 [] []) T else expr g T)=some (some (p,U)):=by
 rcases h with⟨h,rfl,rfl⟩ |⟨h,h1⟩
 ·exact⟨0,λg _=>by rw[if_pos h];rfl⟩
 obtain⟨f,hf⟩:=h1.up (λf=>(mono f).expr _);exact⟨f,λg hg=>by rw[if_neg h];exact hf g hg⟩
def g (c:Int):Tok:=⟨7,Rt.none_,[],[],c,0⟩
structure Kt where
 kind:Int
 wrap:Bool
 toks:List Tok
def De (l:List Kt)(i:Nat):Kt:=l.getD i ⟨0,false,[]⟩
def tin (s:List Tok):List Tok:=g 40::(s++[g 41])
def Gq (a:Kt):List Tok:=if V8 a.kind then a.toks else tin a.toks
def Xu (a:Kt):List Tok:=if a.wrap then tin a.toks else a.toks
def Cj (b:List Tok):List (List Tok)→List Tok
 | []=>[]
 | [s]=>s
 |s::y::r=>s++(b++Cj b (y::r))
def Yu (l:List Kt):List Tok:=g 91::(Cj [g 59] (l.map Kt.toks)++[g 93])
def Qaa (k o:Int)(m:List UInt8)(n:Rt.Nm)(t:List Int):List Tok:=
 if k=1 then[⟨0,n,[],[],0,0⟩] else if k=2 then[⟨1,Rt.none_,t,[],0,0⟩] else if k=3 then[⟨2,Rt.none_,[],m,0,0⟩] else if k=4 then[g 9082] else if k=5 then[g 9077]
 else if k=6 then[⟨4,Rt.none_,[],[],o,0⟩] else if k=7 then[⟨5,Rt.none_,[],[],o,0⟩] else if k=17 then[g o] else if k=18 then[⟨3,Rt.none_,[],m,0,0⟩] else if k=19 then[g 8711]
 else if k=21 then[⟨6,Rt.none_,[],[],o,0⟩] else[]
def Lba (k o:Int)(m:List UInt8)(n:Rt.Nm)(t:List Int)(l:List Kt):List Tok:=
 if k=8 then Cj [] (l.map Gq)
 else if k=9 then Gq (De l 0)++Yu (l.drop 1)
 else if k=11 then(De l 0).toks++Xu (De l 1)
 else if k=12 then(if(De l 0).kind=8 then(De l 0).toks else Gq (De l 0))++((De l 1).toks++Xu (De l 2))
 else if k=13 then⟨2,Rt.none_,[],m,0,0⟩::g 8592::(De l 0).toks
 else if k=27 then⟨3,Rt.none_,[],m,0,0⟩::g 8592::(De l 0).toks
 else if k=14 then⟨2,Rt.none_,[],m,0,0⟩::(Yu (l.drop 1)++g 8592::(De l 0).toks)
 else if k=15 then⟨2,Rt.none_,[],m,0,0⟩::((De l 0).toks++g 8592::(De l 1).toks)
 else if k=16 then⟨4,Rt.none_,[],[],o,0⟩::g 8592::(De l 0).toks
 else if k=20 then g 123::(Cj [g 8900] (l.map Kt.toks)++[g 125])
 else if k=22 then(De l 0).toks++[g o]
 else if k=23 then(De l 0).toks++g o::(if array (De l 1).kind then Gq (De l 1) else(De l 1).toks)
 else if k=24 then g 8728::g 46::(De l 0).toks
 else if k=25 then Cj [g 58] (l.map Kt.toks)
 else if k=26 then Cj [g 58,g 58] (l.map Kt.toks)
 else if k=28 then Cj [g 8900] (l.map Kt.toks)
 else Qaa k o m n t
mutual
def tk:Da→List Tok
 | .mk k o m n t l=>Lba k o m n t (tks l)
def tks:List Da→List Kt
 | []=>[]
 |a::r=>⟨kind a,(Tr.kd a).wrap,tk a⟩::tks r
end
def kt (a:Da):Kt:=⟨kind a,(Tr.kd a).wrap,tk a⟩
end Pr
namespace Pr
open Tr Tk
def R:List Tok:=[g 41]
theorem Xh {T:List Tok}{n:Nat}(h:n<T.length):(T++R)[n]? =T[n]? :=List.getElem?_append_left h
theorem Ym {T:List Tok}{n:Nat}(h:n<T.length):kd (T++R) n=kd T n:=by unfold kd;rw[Xh h]
theorem Lf {T:List Tok}{n:Nat}(h:n<T.length):gl (T++R) n=gl T n:=by
 unfold gl;rw[Ym h,List.getD_eq_getElem?_getD,List.getD_eq_getElem?_getD,Xh h]
theorem N9 {T:List Tok}{n:Nat}(h:T.length≤n):gl (T++R) n=0∨gl (T++R) n=41:=by
 have e:(T++R)[n]? =R[n-T.length]? :=List.getElem?_append_right h;unfold gl kd;rw[List.getD_eq_getElem?_getD,e];cases hn:n-T.length with
 |zero=>exact .inr rfl
 |succ k=>exact .inl rfl
theorem O9 {T:List Tok}{n:Nat}(h:T.length≤n):kd (T++R) n= -1∨kd (T++R) n=7:=by
 have e:(T++R)[n]? =R[n-T.length]? :=List.getElem?_append_right h;unfold kd;rw[e];cases hn:n-T.length with
 |zero=>exact .inr rfl
 |succ k=>exact .inl rfl
theorem Sd {T:List Tok}{n:Nat}{c:Int}(h0:c≠0)(h1:c≠41):gl (T++R) n=c↔gl T n=c:=by
 by_cases h:n<T.length
 ·rw[Lf h]
 have e1:=N9 (T:=T) (n:=n) (by omega);have e2:=Py (T:=T) (n:=n) (by omega);omega
theorem P9 {T:List Tok}{n:Nat}{k:Int}(h0:k≠ -1)(h1:k≠7):kd (T++R) n=k↔kd T n=k:=by
 by_cases h:n<T.length
 ·rw[Ym h]
 have e1:=O9 (T:=T) (n:=n) (by omega);have e2:kd T n= -1:=by unfold kd;rw[List.getElem?_eq_none (by omega)]
 omega
theorem Dj (T:List Tok):begA (T++R)=begA T:=by
 cases T with
 |nil=>decide
 |cons a l=>unfold begA;rw[Ym (by simp),Lf (by simp)]
theorem Rr (T:List Tok):begP (T++R)=begP T:=by
 cases T with
 |nil=>decide
 |cons a l=>unfold begP;rw[Ym (by simp),Lf (by simp)]
theorem J3 (T:List Tok):begF (T++R)=begF T:=by
 cases T with
 |nil=>decide
 |cons a l=>unfold begF;rw[Rr,Lf (by simp)]
theorem C7 (T:List Tok):monops.contains (gl (T++R) 0)=monops.contains (gl T 0):=by
 cases T with
 |nil=>decide
 |cons a l=>rw[Lf (by simp)]
theorem Q9 (T:List Tok):dyops.contains (gl (T++R) 0)=dyops.contains (gl T 0):=by
 cases T with
 |nil=>decide
 |cons a l=>rw[Lf (by simp)]
theorem Kc {T:List Tok}(h:0<T.length):(T++R).tail=T.tail++R:=by
 cases T with
 |nil=>simp at h
 |cons a l=>rfl
theorem L3 {T:List Tok}{n:Nat}(h:n≤T.length):(T++R).drop n=T.drop n++R:=List.drop_append_of_le_length h
theorem Cm {T:List Tok}(h:0<T.length):(T++R).getD 0 Tk.none_=T.getD 0 Tk.none_:=by
 rw[List.getD_eq_getElem?_getD,List.getD_eq_getElem?_getD,Xh h]
def Xt {α:Type}(x y:Res α):Prop:=∀a U,x=some (some (a,U))→y=some (some (a,U++R))
theorem Xt.bnd {α β:Type}{x y:Res α}{k k':α→List Tok→Res β}(h:Xt x y)(hk:∀a U,Xt (k a U) (k' a (U++R))):Xt (bnd x k) (bnd y k'):=by
 intro b V hb;cases x with
 |none=>cases hb
 |some o=>
  cases o with
  |none=>cases hb
  |some q=>
   obtain⟨a,U⟩:=q;rw[h a U rfl];exact hk a U b V hb
theorem Xt.ite {α:Type}{c c':Prop}[Decidable c][Decidable c']{x y x' y':Res α}(hc:c↔c')(h:c→Xt x x')(h':¬c→Xt y y'):Xt (if c then x else y) (if c' then x' else y'):=by
 by_cases h1:c
 ·rw[if_pos h1,if_pos (hc.1 h1)];exact h h1
 rw[if_neg h1,if_neg (λh=>h1 (hc.2 h))];exact h' h1
theorem Xt.only {α:Type}{c c':Prop}[Decidable c][Decidable c']{x x' y':Res α}(hc:c→c')(h:c→Xt x x'):Xt (if c then x else fail) (if c' then x' else y'):=by
 by_cases h1:c
 ·rw[if_pos h1,if_pos (hc h1)];exact h h1
 rw[if_neg h1];intro a U e;cases e
theorem Xt.ret {α:Type}{a:α}{T:List Tok}:Xt (ret a T) (ret a (T++R)):=by
 intro b U h;unfold Pr.ret at*;injection h with h
 injection h with h
 injection h with h1 h2
 rw[h1,h2]
structure Mba (f:Nat):Prop where
 stmts:∀b T,Xt (stmts f b T) (stmts f b (T++R))
 stmt:∀b T,Xt (stmt f b T) (stmt f b (T++R))
 expr:∀T,Xt (expr f T) (expr f (T++R))
 behind:∀T,Xt (behind f T) (behind f (T++R))
 arrs:∀T,Xt (arrs f T) (arrs f (T++R))
 arr:∀T,Xt (arr f T) (arr f (T++R))
 more:∀a T,Xt (more f a T) (more f a (T++R))
 places:∀T,Xt (places f T) (places f (T++R))
 alone:∀T,Xt (alone f T) (alone f (T++R))
 func:∀T,Xt (func f T) (func f (T++R))
 ops:∀g T,Xt (ops f g T) (ops f g (T++R))
 plain:∀T,Xt (plain f T) (plain f (T++R))
theorem Td {T:List Tok}{n:Nat}{c:Int}(hc:c≠0)(h:gl T n=c):n<T.length:=gl_ne (by rw[h];exact hc)
theorem S9:∀f,Mba f
 | 0=>⟨λ_ _ _ _ h=>(by cases h),λ_ _ _ _ h=>(by cases h),λ_ _ _ h=>(by cases h),λ_ _ _ h=>(by cases h),λ_ _ _ h=>(by cases h),λ_ _ _ h=>(by cases h),λ_ _ _ _ h=>(by cases h),λ_ _ _ h=>(by cases h),λ_ _ _ h=>(by cases h),λ_ _ _ h=>(by cases h),λ_ _ _ _ h=>(by cases h),λ_ _ _ h=>(by cases h)⟩
 |f+1=>by
  have h:=S9 f
  constructor
  ·intro b T
   rw[Pr.stmts,Pr.stmts];refine(h.stmt b T).bnd λe U=>Xt.ite (Sd (by decide) (by decide)).symm (λc=>?_) (λ_=>Xt.ret);rw[Kc (Td (by decide) c)];exact(h.stmts b _).bnd λ_ _=>Xt.ret
  ·intro b T
   rw[Pr.stmt,Pr.stmt];refine Xt.ite (and_congr (P9 (by decide) (by decide)).symm (Sd (by decide) (by decide)).symm) (λc=>?_) (λ_=>?_)
   ·have h1:=Td (by decide) c.2
    rw[L3 (by omega),Cm (by omega)];exact(h.func _).bnd λ_ _=>Xt.ret
   refine(h.expr T).bnd λe U=>Xt.ite (and_congr Iff.rfl (Sd (by decide) (by decide)).symm) (λc=>?_) (λ_=>Xt.ret);rw[Kc (Td (by decide) c.2)];refine Xt.ite (Sd (by decide) (by decide)).symm (λc2=>?_) (λ_=>(h.expr _).bnd λ_ _=>Xt.ret);rw[Kc (Td (by decide) c2)];exact(h.expr _).bnd λ_ _=>Xt.ret
  ·intro T
   rw[Pr.expr,Pr.expr];exact Xt.ite (by rw[Dj]) (λ_=>h.behind T) (λ_=>(h.func T).bnd λ_ _=>(h.expr _).bnd λ_ _=>Xt.ret)
  ·intro T
   rw[Pr.behind,Pr.behind];refine(h.arrs T).bnd λl U=>Xt.ite (and_congr Iff.rfl (Sd (by decide) (by decide)).symm) (λc=>?_) (λ_=>Xt.ite (by rw[J3]) (λ_=>?_) (λ_=>Xt.ret))
   ·rw[Kc (Td (by decide) c.2)]
    exact(h.expr _).bnd λ_ _=>Xt.ret
   refine(h.func U).bnd λg V=>Xt.ite (and_congr Iff.rfl (Sd (by decide) (by decide)).symm) (λc=>?_) (λ_=>(h.expr _).bnd λ_ _=>Xt.ret);rw[Kc (Td (by decide) c.2)];exact(h.expr _).bnd λ_ _=>Xt.ret
  ·intro T
   rw[Pr.arrs,Pr.arrs];exact Xt.ite (by rw[Dj]) (λ_=>(h.arr T).bnd λ_ _=>(h.arrs _).bnd λ_ _=>Xt.ret) (λ_=>Xt.ret)
  ·intro T
   rw[Pr.arr,Pr.arr];exact(h.alone T).bnd λ_ _=>h.more _ _
  ·intro a T
   rw[Pr.more,Pr.more];refine Xt.ite (Sd (by decide) (by decide)).symm (λc=>?_) (λ_=>Xt.ret);rw[Kc (Td (by decide) c)];refine(h.places _).bnd λl U=>Xt.only (λc2=>(Sd (by decide) (by decide)).2 c2) (λc2=>?_);rw[Kc (Td (by decide) c2)];exact h.more _ _
  ·intro T
   rw[Pr.places,Pr.places];refine(Xt.ite (or_congr (Sd (by decide) (by decide)).symm (Sd (by decide) (by decide)).symm) (λ_=>Xt.ret) (λ_=>h.expr T)).bnd λp U=>Xt.ite (Sd (by decide) (by decide)).symm (λc=>?_) (λ_=>Xt.ret);rw[Kc (Td (by decide) c)];exact(h.places _).bnd λ_ _=>Xt.ret
  ·intro T
   rw[Pr.alone,Pr.alone];refine Xt.only (λc=>by rw[Dj];exact c) (λc=>?_);have hT:=begA_ne c;rw[Cm hT,Kc hT];cases leaf (T.getD 0 Tk.none_) with
   |some e=>exact Xt.ret
   |none=>
    refine(h.expr _).bnd λe U=>Xt.only (λc2=>?_) (λc2=>?_)
    ·rw[Lf (Td (by decide) c2)];exact c2
    rw[Kc (Td (by decide) c2)];exact Xt.ret
  ·intro T
   rw[Pr.func,Pr.func];refine Xt.ite (Sd (by decide) (by decide)).symm (λc=>?_) (λ_=>(h.plain T).bnd λ_ _=>h.ops _ _);rw[Kc (Td (by decide) c)];refine Xt.only (λc2=>(Sd (by decide) (by decide)).2 c2) (λc2=>?_);rw[Kc (Td (by decide) c2)];exact(h.plain _).bnd λ_ _=>h.ops _ _
  ·intro g T
   rw[Pr.ops,Pr.ops,C7,Q9];refine Xt.ite Iff.rfl (λc=>?_) (λ_=>Xt.ite Iff.rfl (λc=>?_) (λ_=>Xt.ret))
   ·have hT:=Qy c
    rw[Lf hT,Kc hT];exact h.ops _ _
   have hT:=I6 c;rw[Lf hT,Kc hT,Dj];exact(Xt.ite Iff.rfl (λ_=>h.arr _) (λ_=>h.plain _)).bnd λ_ _=>h.ops _ _
  intro T;rw[Pr.plain,Pr.plain];refine Xt.only (λc=>by rw[Rr];exact c) (λc=>?_);have hT:=begP_ne c;rw[Cm hT,Kc hT];cases fleaf (T.getD 0 Tk.none_) with
  |some e=>exact Xt.ret
  |none=>
   refine(h.stmts _ _).bnd λl U=>Xt.only (λc2=>(Sd (by decide) (by decide)).2 c2) (λc2=>?_);rw[Kc (Td (by decide) c2)];exact Xt.ret
theorem Zm {b:Bool}{T:List Tok}{f:Nat}{r:Option (List Da×List Tok)}(h:stmts f b T=some r):∀k,stmts (f+k) b T=some r
 | 0=>h
 |k+1=>(mono (f+k)).stmts b T r (Zm h k)
theorem Ki {α:Type}{a b:α}{T U:List Tok}(h:ret a T=some (some (b,U))):a=b∧T=U:=by
 unfold ret at h;injection h with h
 injection h with h
 injection h with h1 h2
 exact⟨h1,h2⟩
theorem Li {α β:Type}{x:Res α}{k:α→List Tok→Res β}{p:β×List Tok}(h:bnd x k=some (some p)):∃a T,x=some (some (a,T))∧k a T=some (some p):=by
 cases x with
 |none=>cases h
 |some o=>
  cases o with
  |none=>cases h
  |some q=>exact⟨q.1,q.2,rfl,h⟩
theorem M3 {f:Nat}{b:Bool}{T U:List Tok}{l:List Da}(h:stmts f b T=some (some (l,U))):l≠[]:=by
 cases f with
 |zero=>cases h
 |succ f=>
  rw[Pr.stmts] at h;obtain⟨e,V,_,h⟩:=Li h
  split at h
  ·obtain⟨l',X,_,h⟩:=Li h
   rw[←(Ki h).1];simp
  rw[←(Ki h).1];simp
theorem Sr {F:Nat}{T:List Tok}{e:Da}(h:stmts (F+2) false T=some (some ([e],[])))(hk:kind e≠27):expr F T=some (some (e,[])):=by
 rw[Pr.stmts] at h;obtain⟨e1,V,h1,h⟩:=Li h
 split at h
 ·obtain⟨l',X,h2,h⟩:=Li h
  have:=(Ki h).1;injection this with _ h3
  exact absurd h3 (M3 h2)
 have h3:=Ki h;injection h3.1 with h4 _
 subst h4;rw[h3.2] at h1;rw[Pr.stmt] at h1
 split at h1
 ·obtain⟨g',X,_,h5⟩:=Li h1
  have:=(Ki h5).1;exact absurd (by rw[←this];rfl) hk
 obtain⟨e2,X,h5,h6⟩:=Li h1;rw[if_neg (λh=>by cases h.1)] at h6;have h7:=Ki h6;rw[h7.1,h7.2] at h5;exact h5
theorem Ur {f:Nat}{T:List Tok}{e:Da}(h:expr f T=some (some (e,[]))):stmts (f+7) false (g 40::(T++R))=some (some ([e],[])):=by
 have h1:expr f (T++R)=some (some (e,R)):=(S9 f).expr T e [] h;have ba:begA (g 40::(T++R))=true:=rfl;have e0:begA ([]:List Tok)=false:=rfl;have e1:begF ([]:List Tok)=false:=rfl;have e2 (n:Int) (hn:n≠0):gl ([]:List Tok) 0≠n:=λh=>hn (by rw[←h];rfl);have a1:alone (f+1) (g 40::(T++R))=some (some (e,[])):=by
  rw[Pr.alone,if_pos ba];show(match leaf (g 40) with |some e=>ret e (T++R) |none=>bnd (expr f (T++R)) λe U=>if gl U 0=41 then ret e U.tail else fail)=_;rw[show leaf (g 40)=none from rfl];dsimp only;rw[h1];rfl
 have a2:arr (f+2) (g 40::(T++R))=some (some (e,[])):=by
  rw[Pr.arr,a1,Ji,Pr.more,if_neg (e2 91 (by decide))];rfl
 have a3:arrs (f+3) (g 40::(T++R))=some (some ([e],[])):=by
  rw[Pr.arrs,if_pos ba,a2,Ji,Pr.arrs,if_neg (by rw[e0];decide)];rfl
 have a4:behind (f+4) (g 40::(T++R))=some (some (e,[])):=by
  rw[Pr.behind,a3,Ji];rw[if_neg (λh=>e2 8592 (by decide) h.2),if_neg (by rw[e1];decide)];rfl
 have a5:expr (f+5) (g 40::(T++R))=some (some (e,[])):=by rw[Pr.expr,if_pos ba,a4]
 have a6:stmt (f+6) false (g 40::(T++R))=some (some (e,[])):=by
  rw[Pr.stmt,if_neg (λh=>absurd (show(7:Int)=3 from h.1) (by decide)),a5,Ji,if_neg (λh=>by cases h.1)];rfl
 rw[Pr.stmts,a6,Ji,if_neg (e2 8900 (by decide))];rfl
theorem D7 {T:List Tok}{e:Da}(h:lineT T=some (node 28 0 [] [e]))(hk:kind e≠27)(a b:Tok)(ha:z a=g 40)(hb:z b=g 41):lineT (a::(T++[b]))=some (node 28 0 [] [e]):=by
 have hs:Sm (a::(T++[b])) (g 40::(T++R)):=by
  unfold Sm R;rw[List.map_cons,List.map_cons,List.map_append,List.map_append,ha,List.map_singleton,List.map_singleton,hb];rfl
 rw[Xm hs];unfold lineT at h;obtain⟨o,ho⟩:=stmts_some false T;rw[ho] at h;have hq:o=some ([e],[]):=by
  cases o with
  |none=>cases h
  |some q=>
   obtain⟨l,U⟩:=q;cases U with
   |nil=>
    have h2:some (node 28 0 [] l)=some (node 28 0 [] [e]):=h;injection h2 with h2
    unfold node at h2;injection h2 with _ _ _ _ _ h3
    rw[h3]
   |cons x V=>cases h
 subst hq;have h1:=Sr (F:=16*T.length+5) ho hk;have h2:=Zm (Ur h1) 27;unfold lineT;rw[show fuel (g 40::(T++R))=16*T.length+5+7+27 by unfold fuel R;simp;omega,h2]
end Pr
namespace Tk
open Go
theorem Vr {l:List Int}{r:List Int}{i:Nat}(h:i≤l.length):words (l++41::r) i=words l i:=by
 unfold words;rw[Xl h,Mg _ _ _ (by decide)]
theorem Ej {l:List Int}{r:List Int}{i:Nat}(h:i≤l.length):figures (l++41::r) i=figures l i:=by
 unfold figures;rw[Xl h,Mg _ _ _ (by decide)]
theorem Gw {l r:List Int}{i:Nat}(h:i≤l.length):(l++41::r).getD i (-1)=l.getD i (-1)∨(l.getD i (-1)= -1∧(l++41::r).getD i (-1)=41):=by
 rcases Nat.lt_or_ge i l.length with h1 |h1
 ·exact .inl (Ge h1)
 have:i=l.length:=by omega
 subst this;exact .inr ⟨getD_out (Nat.le_refl _),Wn⟩
theorem Vy {l r:List Int}{i:Nat}(hi:i<l.length):numLen (l++41::r) i=numLen l i:=by
 unfold numLen;simp only;rw[Ge hi];obtain⟨n,hn⟩:∃n,n=(if l.getD i (-1)=175 then 1 else 0):=⟨_,rfl⟩;rw[←hn];have hn1:n≤1:=by rw[hn];split<;>omega
 rw[Ej (show i+n≤l.length by omega)];obtain⟨k,hk⟩:∃k,k=figures l (i+n):=⟨_,rfl⟩;have hkl:=figures_le l (i+n);rw[←hk] at hkl⊢;by_cases h0:k=0
 ·rw[if_pos h0,if_pos h0]
 rw[if_neg h0,if_neg h0];have eA:((((l++41::r).getD (i+(n+k)) (-1)=114∨(l++41::r).getD (i+(n+k)) (-1)=46)∧0<figures (l++41::r) (i+(n+k)+1))↔((l.getD (i+(n+k)) (-1)=114∨l.getD (i+(n+k)) (-1)=46)∧0<figures l (i+(n+k)+1))):=by
  rcases Nat.lt_or_ge (i+(n+k)) l.length with h1 |h1
  ·rw[Ge h1,Ej (by omega)]
  have e:i+(n+k)=l.length:=by omega
  rw[e,Wn,getD_out (Nat.le_refl _)]
  constructor
  ·rintro⟨h |h,_⟩<;>omega
  rintro⟨h |h,_⟩<;>omega
 by_cases hA:(l.getD (i+(n+k)) (-1)=114∨l.getD (i+(n+k)) (-1)=46)∧0<figures l (i+(n+k)+1)
 ·have hlt:i+(n+k)<l.length:=by
   rcases Nat.lt_or_ge (i+(n+k)) l.length with h1 |h1
   ·exact h1
   rw[getD_out h1] at hA;omega
  rw[if_pos (eA.2 hA),if_pos hA,Ej (by omega)];have hfl:=figures_le l (i+(n+k)+1);rcases Gw (l:=l) (r:=r) (i:=i+(n+k+1+figures l (i+(n+k)+1))) (by omega) with e |⟨e1,e2⟩
  ·rw[e]
  rw[e1,e2];rfl
 rw[if_neg (λh=>hA (eA.1 h)),if_neg hA];rcases Gw (l:=l) (r:=r) (i:=i+(n+k)) (by omega) with e |⟨e1,e2⟩
 ·rw[e]
 rw[e1,e2];rfl
theorem Dm {l r:List Int}:∀{f f' k:Nat} {out:List Int} {p:List Int×Nat},f≤f'→quote l f k out=some p→quote (l++41::r) f' k out=some p
 | 0,_,_,_,_,_,h=>by cases h
 |_+1,0,_,_,_,hf,_=>by omega
 |f+1,f'+1,k,out,p,hf,h=>by
  unfold quote at h⊢;by_cases hk:l.length≤k
  ·rw[if_pos hk] at h;cases h
  rw[if_neg hk] at h;rw[if_neg (by simp;omega),Ge (by omega)];by_cases h39:l.getD k (-1)≠39
  ·rw[if_pos h39] at h⊢
   exact Dm (by omega) h
  rw[if_neg h39] at h⊢;by_cases h40:l.getD (k+1) (-1)≠39
  ·rw[if_pos h40] at h
   rw[if_pos]
   ·exact h
   rcases Gw (l:=l) (r:=r) (i:=k+1) (by omega) with e |⟨e1,e2⟩
   ·rw[e];exact h40
   rw[e2];decide
  rw[if_neg h40] at h;have hlt:k+1<l.length:=by
   rcases Nat.lt_or_ge (k+1) l.length with h1 |h1
   ·exact h1
   rw[getD_out h1] at h40;omega
  rw[Ge hlt,if_neg h40];exact Dm (by omega) h
theorem E7 {l r:List Int}{i:Nat}(hi:i<l.length)(h:(read l i).2.2=0):read (l++41::r) i=read l i:=by
 unfold read at h⊢;simp only at h⊢;rw[Ge hi,Vy hi,Vr (by omega),Vr (by omega)];generalize hc:l.getD i (-1)=c at*;by_cases c3:cls c=3
 ·rw[if_pos c3,if_pos c3]
  cases hn:numLen l i with
  |none=>rfl
  |some n=>
   have:=Ro hi hn;dsimp only;rw[Oq (show i+n≤l.length by omega)]
 rw[if_neg c3] at h;rw[if_neg c3,if_neg c3];by_cases c2:cls c=2
 ·rw[if_pos c2,if_pos c2]
  have:=words_le l i;rw[Oq (show i+words l i≤l.length by omega)]
 rw[if_neg c2] at h;rw[if_neg c2,if_neg c2];by_cases c39:c=39
 ·rw[if_pos c39] at h
  rw[if_pos c39,if_pos c39];cases hq:quote l (l.length+1) (i+1) [] with
  |none=>rw[hq] at h;cases h
  |some p=>rw[Dm (f':=(l++41::r).length+1) (by simp) hq]
 rw[if_neg c39] at h;rw[if_neg c39,if_neg c39];by_cases cp:c=9109∨c=9054
 ·rw[if_pos cp,if_pos cp]
  have hw:=words_le l (i+1);rcases Nat.lt_or_ge (i+1) l.length with h1 |h1
  ·rw[Ge h1]
   by_cases h2:words l (i+1)=2
   ·rw[Ge (show i+2<l.length by omega)]
   simp only[h2,false_and,and_false,if_false]
  have h0:words l (i+1)=0:=by omega
  simp only[h0,show((0:Nat)=1)=False by simp,show((0:Nat)=2)=False by simp,false_and,and_false,if_false]
 rw[if_neg cp,if_neg cp]
def Eh (c:Int)(i:Nat):Tok:=⟨7,Rt.none_,[],[],c,i⟩
theorem Wy (l:List Int):read (l++[41]) l.length=(Eh 41 l.length,1,0):=by
 have h:=read_right (b:=l) (l:=[41]) (i:=0);have e:read [41] 0=(Eh 41 0,1,0):=rfl;rw[e] at h
 simpa [Vf,Eh] using h
theorem Wr {l:List Int}(h9:∀i,i<l.length→l.getD i (-1)≠9053):∀{f f' i:Nat} {out:List Tok},i≤l.length→l.length-i<f→l.length+1-i<f'→(goF l f i out).2.2=0→goF (l++[41]) f' i out=((goF l f i out).1++[Eh 41 l.length],0,0)
 | 0,_,_,_,_,h,_,_=>by omega
 |_+1,0,_,_,_,_,h,_=>by omega
 |f+1,f'+1,i,out,hl,h1,h2,he=>by
  have hlen:(l++[(41:Int)]).length=l.length+1:=by simp
  by_cases hi:i<l.length
  ·unfold goF at he⊢
   rw[Ge hi,hlen];have hA:=h9 i hi;have nA:¬(l.length≤i∨l.getD i (-1)=9053):=by omega
   have nA':¬(l.length+1≤i∨l.getD i (-1)=9053):=by omega
   rw[if_neg nA] at he;rw[if_neg nA,if_neg nA'];by_cases hB:cls (l.getD i (-1))=1
   ·rw[if_pos hB] at he
    rw[if_pos hB,if_pos hB];exact Wr h9 (by omega) (by omega) (by omega) he
   rw[if_neg hB] at he;rw[if_neg hB,if_neg hB];by_cases hC:(read l i).2.2≠0
   ·rw[if_pos hC] at he;exact absurd he hC
   rw[if_neg hC] at he;have hC':(read l i).2.2=0:=by omega
   have hp:=read_len hi hC';rw[E7 hi hC',if_neg hC,if_neg hC];exact Wr h9 (by omega) (by omega) (by omega) he
  have hi2:i=l.length:=by omega
  subst hi2;have e1:goF l (f+1) l.length out=(out,0,0):=by unfold goF;rw[if_pos (.inl (Nat.le_refl _))]
  rw[e1];unfold goF;rw[Wn,hlen,if_neg (by omega),if_neg (by decide),Wy,if_neg (by simp)];cases f' with
  |zero=>omega
  |succ f'=>
   unfold goF;rw[hlen,if_pos (.inl (by show l.length+1≤l.length+1;omega))]
theorem N3:cls 40≠1:=by decide
theorem O3 (l:List Int)(f:Nat):goF (40::l) (f+1) 0 []=goF (40::l) f 1 [Eh 40 0]:=by
 rw[goF];have e:(40::l).getD 0 (-1)=40:=rfl;have er:read (40::l) 0=(Eh 40 0,1,0):=by
  unfold read;simp only;rw[e,if_neg (by decide),if_neg (by decide),if_neg (by decide),if_neg (by decide),if_neg (by decide)];rfl
 rw[e,if_neg (by simp),if_neg N3,er,if_neg (by decide)];rfl
theorem Bo {l:List Int}(x:Tok):∀{f i:Nat} {out:List Tok},(goF l f i out).2.2=0→goF l f i (x::out)=(x::(goF l f i out).1,0,0)
 | 0,i,out,h=>rfl
 |f+1,i,out,h=>by
  unfold goF at h⊢;by_cases h1:l.length≤i∨l.getD i (-1)=9053
  ·rw[if_pos h1,if_pos h1]
  rw[if_neg h1] at h;rw[if_neg h1,if_neg h1];by_cases h2:cls (l.getD i (-1))=1
  ·rw[if_pos h2] at h;rw[if_pos h2,if_pos h2];exact Bo x h
  rw[if_neg h2] at h;rw[if_neg h2,if_neg h2];by_cases h3:(read l i).2.2≠0
  ·rw[if_pos h3] at h;exact absurd h h3
  rw[if_neg h3] at h;rw[if_neg h3,if_neg h3];exact Bo x h
theorem F7 {l:List Int}(h9:∀i,i<l.length→l.getD i (-1)≠9053)(h:(cutL l none).2.2=0)(hl:l.length+2≤2000):cutL (40::(l++[41])) none=(Eh 40 0::((cutL l none).1.map (Vf 1)++[Eh 41 (l.length+1)]),0,0):=by
 obtain⟨h1,-,h2,h3⟩:=Ru h;have e1:=Wr h9 (f:=l.length+1) (f':=l.length+2) (i:=0) (out:=[]) (by omega) (by omega) (by omega) h2;have h4:(goF (l++[41]) (l.length+2) 0 []).2.2=0:=by rw[e1]
 have e2:=Zj (b:=[40]) (l:=l++[41]) (f:=l.length+2) (f':=l.length+2) (i:=0) (out:=[]) (by simp) (by simp) h4;rw[e1] at e2;have e3:goF (40::(l++[41])) (l.length+2) 1 []=(((goF l (l.length+1) 0 []).1++[Eh 41 l.length]).map (Vf 1),0,0):=e2;have h5:(goF (40::(l++[41])) (l.length+2) 1 []).2.2=0:=by rw[e3]
 have e4:=Bo (Eh 40 0) h5;have e5:goF (40::(l++[41])) ((40::(l++[(41:Int)])).length+1) 0 []=(Eh 40 0::((cutL l none).1.map (Vf 1)++[Eh 41 (l.length+1)]),0,0):=by
  rw[show(40::(l++[(41:Int)])).length+1=(l.length+2)+1 by simp,O3,e4,e3,h3,List.map_append];simp[Vf,Eh,Nat.add_comm]
 rw[R6 (by simp;omega) (by rw[e5]),e5]
def noCom (s:ByteArray):Prop:=∀i,i+2<s.size→¬(Gl.by_ s i=226∧Gl.by_ s (i+1)=141∧Gl.by_ s (i+2)=157)
theorem Hw {s:ByteArray}(hs:noCom s){i n:Nat}:Utf8.decode s i≠(9053,n):=by
 intro h;rw[Gl.decode_eq] at h
 split at h
 ·injection h with h _;omega
 split at h
 ·split at h
  ·injection h with h _;omega
  injection h with h _;cases h
 split at h
 ·next hc=>
  split at h
  ·injection h with h _
   exact hs i hc.2.2.1 (by omega)
  injection h with h _;cases h
 split at h
 ·split at h
  ·injection h with h _;omega
  injection h with h _;cases h
 injection h with h _;cases h
theorem Zu {s:ByteArray}(hs:noCom s):∀(k i:Nat),s.size-i<k→9053∉(Gl.dec s i).1
 | 0,_,h=>by omega
 |k+1,i,hk=>by
  by_cases hi:i<s.size
  ·cases h:Gl.read s i with
   |none=>rw[Gl.dec_bad hi h];simp
   |some p=>
    obtain⟨c,n⟩:=p;have hp:=Gl.read_pos h;rw[Gl.dec_step hi h];intro hm;rcases List.mem_cons.1 hm with e |e
    ·subst e
     unfold Gl.read at h
     split at h
     ·cases h
     injection h with h
     exact Hw hs h
    exact Zu hs k (i+n) (by omega) e
  rw[Gl.dec_end (by omega)];simp
theorem U9 {s:ByteArray}(hs:noCom s)(i:Nat)(hi:i<(Gl.ints (Gl.dec s 0).1).length):(Gl.ints (Gl.dec s 0).1).getD i (-1)≠9053:=by
 intro h;rw[getD_in hi] at h;have hm:(9053:Int)∈Gl.ints (Gl.dec s 0).1:=by rw[←h];exact List.getElem_mem hi
 unfold Gl.ints at hm;obtain⟨c,hc,e⟩:=List.mem_map.1 hm;have:c=9053:=by omega
 subst this;exact Zu hs (s.size+1) 0 (by omega) hc
theorem V9 {a s b:ByteArray}(hs:s.size≤1000)(hc:noCom s)(ha:Gl.dec a 0=([40],none))(hsa:a.size=1)(hb:Gl.dec b 0=([41],none))(h:(cut s).2.2=0):∃n,cut (a++(s++b))=(Eh 40 0::((cut s).1.map (Vf 1)++[Eh 41 n]),0,0):=by
 unfold cut at h⊢;obtain⟨h1,hbad,h2,h3⟩:=Ru h;have e1:=Gl.dec_left s b (s.size+1) 0 (by omega) (by omega) hbad;rw[hb] at e1;have e2:=Gl.dec_left a (s++b) (a.size+1) 0 (by omega) (by omega) (by rw[ha]);rw[ha,e1] at e2;rw[e2];have hlen:=Gl.dec_len (s:=s) (s.size+1) 0 (by omega);have hl:(Gl.ints (Gl.dec s 0).1).length=(Gl.dec s 0).1.length:=by unfold Gl.ints;simp
 have e3:Gl.ints ([40]++((Gl.dec s 0).1++[41]))=40::(Gl.ints (Gl.dec s 0).1++[41]):=by unfold Gl.ints;simp
 rw[hbad] at h h3⊢;refine⟨(Gl.ints (Gl.dec s 0).1).length+1,?_⟩;show cutL (Gl.ints ([40]++((Gl.dec s 0).1++[41]))) none=_;rw[e3];exact F7 (U9 hc) h (by omega)
end Tk
namespace Pr
open Go Tk Tr
theorem brackets {a s b:ByteArray}{e:Da}(hs:s.size≤1000)(hc:noCom s)(ha:Gl.dec a 0=([40],none))(hsa:a.size=1)(hb:Gl.dec b 0=([41],none))(h:(cut s).2.2=0)(hl:lineT (cut s).1=some (node 28 0 [] [e]))(hk:kind e≠27):
 (cut (a++(s++b))).2.2=0∧lineT (cut (a++(s++b))).1=some (node 28 0 [] [e]):=by
 obtain⟨n,hn⟩:=V9 hs hc ha hsa hb h;rw[hn];refine⟨rfl,?_⟩;have hsm:Sm ((cut s).1.map (Vf 1)) (cut s).1:=by
  unfold Sm;rw[List.map_map];rfl
 exact D7 (by rw[Xm hsm];exact hl) hk _ _ rfl rfl
end Pr
