/- Texts of this proof, joined. -/
import Derived.Test.YtmiccalfamepdaaGreatDoorM8
import Derived.SizedLaws
set_option linter.all false
set_option maxHeartbeats 8000000
set_option maxRecDepth 100000
namespace Go.Proofs.YtmiccalfamepdaaGreatDoor
section
open Go.ChangeShapes Go.WideShapes Go.ChangeAt Go.RowKit Ar
theorem Kda (a:Addr)(n m:Nat):(a.add n).add m=a.add (n+m):=by
 unfold Addr.add;by_cases hn:n=0
 ·subst hn;simp
 by_cases hm:m=0
 ·subst hm;simp
 simp[hn,hm,Nat.add_assoc]
theorem Cn {w:World}{a:Addr}{n m:Nat}{v:Value}(h:w.cell? ((a.add n).add m)=some v):w.cell? (a.add (n+m))=some v:=by rwa[Kda] at h
section
variable {H : Type} {enc : TypeId × Value -> H} {P : Program} {w : World} {base : Nat} {Ld : Bool} {fuel : Nat} {t e : TypeId} {cs : List Value} {x : DataW H × List MemPlace}
theorem Yh {sz bytes:Nat}(ht:P.underlying t=some (.slice e))(hz:P.cellsOf e=sz)(hp:0<sz)(hb:P.bytesOf e=bytes)
 (h:DataW.trod enc P w base (λ_=>true) Ld fuel t cs=some x) (hs:∀n∈x.1.weights P t,n<=reachBytes):
 ∃(A:Option Addr) (len cap:Nat) (us:List Value) (m:Nat),fuel=m+1/\cs=[.slice A len cap]/\Fits len cap bytes/\Lies w w.heap.size A us/\us.length=sz*len/\
  ∀i,i<len->∃y,DataW.trod enc P w base (λ_=>true) Ld m e ((us.drop (sz*i)).take sz)=some y/\∀n∈y.1.weights P e,n<=reachBytes:=by
 rcases DataW.trod_slice ht h with⟨rfl,rfl⟩ |⟨a,len,cap,elems,rest,m,rfl,rfl,rfl,_,hl,hc,hle,hel,hsp,_⟩
 ·cases fuel with
  |zero=>simp[DataW.trod] at h
  |succ m=>exact⟨none,0,0,[],m,rfl,rfl,⟨Lr,by omega,by omega⟩,.inl rfl,by simp,λi hi=>by omega⟩
 obtain⟨hr,_⟩:=hsp rfl;rw[hz] at hel;have hw:(elems.length+rest.length)*P.bytesOf e<=reachBytes:=hs _ (by simp[DataW.weights,ht]);have hfit:Fits len cap bytes:=by
  rw[hb,hle,hr,show len+(cap-len)=cap by omega] at hw;have hw2:cap*bytes<=140737488351232:=by simpa [reachBytes] using hw
  exact⟨hl,Nat.le_trans (Nat.mul_le_mul_right _ hl) hw2,by unfold maxLen at hc;omega⟩
 have hcell:∀i,i<len->∃ci y,w.cells? base (a.add (i*sz)) sz=some ci/\DataW.trod enc P w base (λ_=>true) Ld m e ci=some y/\elems[i]? =some y:=λi hi=>by
  have h1:=hel i hi;have h2:elems[i]? =some (elems[i]'(by omega)):=List.getElem?_eq_getElem (by omega);rw[h2] at h1;cases hci:w.cells? base (a.add (i*sz)) sz with
  |none=>rw[hci] at h1;cases h1
  |some ci=>rw[hci] at h1;exact⟨ci,_,rfl,h1,h2⟩
 obtain⟨us,hus⟩:∃us:List Value,us=(List.range (sz*len)).map λj=>(w.cell? (a.add j)).getD default:=⟨_,rfl⟩;have hlen:us.length=sz*len:=by rw[hus];simp
 have hat:∀i q,i<len->q<sz->∃v,w.cell? (a.add (i*sz+q))=some v/\us[sz*i+q]? =some v:=λi q hi hq=>by
  obtain⟨ci,y,h1,_,_⟩:=hcell i hi;obtain⟨_,h2,h3⟩:=World.cells?_some h1;have h4:=h3 q hq;rw[List.getElem?_eq_getElem (by omega)] at h4;have h5:=Cn h4;refine⟨_,h5,?_⟩;have hlt:sz*i+q<sz*len:=by
   have:=Nat.mul_le_mul_left sz (show i+1<=len by omega);rw[Nat.mul_add,Nat.mul_one] at this;omega
  rw[hus,List.getElem?_map,List.getElem?_range hlt,Option.map_some,Nat.mul_comm sz i,h5];rfl
 refine⟨some a,len,cap,us,m,rfl,rfl,hfit,Yx λj v hv=>?_,hlen,λi hi=>?_⟩
 ·have hj:j<sz*len:=by rw[<-hlen];exact(List.getElem?_eq_some_iff.1 hv).1
  obtain⟨v',h1,h2⟩:=hat (j/sz) (j%sz) (Nat.div_lt_of_lt_mul hj) (Nat.mod_lt _ hp);rw[Nat.div_add_mod,hv] at h2;rw[Nat.mul_comm,Nat.div_add_mod] at h1;rw[h1,<-h2]
 obtain⟨ci,y,h1,h2,h3⟩:=hcell i hi;obtain⟨_,h4,h5⟩:=World.cells?_some h1;have hlt:sz*i+sz<=sz*len:=by
  have:=Nat.mul_le_mul_left sz (show i+1<=len by omega);rwa[Nat.mul_add,Nat.mul_one] at this
 have he:(us.drop (sz*i)).take sz=ci:=by
  apply List.ext_getElem?
  intro q;rw[List.getElem?_take];by_cases hq:q<sz
  ·rw[if_pos hq,List.getElem?_drop]
   obtain⟨v,h6,h7⟩:=hat i q hi hq;rw[h7,<-h5 q hq];have h8:=h5 q hq;rw[List.getElem?_eq_getElem (by omega)] at h8;have h9:=Cn h8;rw[h8,<-h9,h6]
  rw[if_neg hq,List.getElem?_eq_none (by omega)]
 rw[he];refine⟨y,h2,λn hn=>hs n ?_⟩;have hy:y.1∈elems.map (·.1):=List.mem_map.2 ⟨y,List.mem_of_getElem? h3,rfl⟩;simp only[DataW.weights,ht,List.mem_cons,List.mem_append];refine .inr (.inl ?_);clear hs;generalize elems.map (·.1)=l at hy
 induction l with
 |nil=>cases hy
 |cons d r ih=>
  rw[DataW.weightsAll,List.mem_append];rcases List.mem_cons.1 hy with rfl |hy
  ·exact .inl hn
  exact .inr (ih hy)
theorem Lda {A:Option Addr}{len cap:Nat}(ht:P.underlying t=some (.slice e))(h:DataW.trod enc P w base (λ_=>true) Ld fuel t [.slice A len cap]=some x):A=none->cap=0:=by
 intro hA;rcases DataW.trod_slice ht h with⟨h1,_⟩ |⟨a,len',cap',elems,rest,m,_,h1,_⟩
 ·simp at h1;exact h1.2.2
 simp at h1;rw[hA] at h1;cases h1.1
theorem Ij {bytes:Nat}{k:IntKind}(ht:P.underlying t=some (.slice e))(he:P.underlying e=some (.int k))(hz:P.cellsOf e=1)(hb:P.bytesOf e=bytes)
 (h:DataW.trod enc P w base (λ_=>true) Ld fuel t cs=some x) (hs:∀n∈x.1.weights P t,n<=reachBytes):
 ∃(A:Option Addr) (cap:Nat) (zs:List Int),cs=[.slice A zs.length cap]/\Fits zs.length cap bytes/\Lies w w.heap.size A (zs.map (Value.int k))/\(∀n∈zs,(Lit.int k n).wf=true)/\(A=none->cap=0):=by
 obtain⟨A,len,cap,us,m,rfl,rfl,hf,hl,hlen,hel⟩:=Yh ht hz (by omega) hb h hs;have key:∃zs:List Int,us=zs.map (Value.int k)/\∀n∈zs,(Lit.int k n).wf=true:=by
  have h1:∀v∈us,∃n,v=Value.int k n/\(Lit.int k n).wf=true:=λv hv=>by
   obtain⟨i,hi,rfl⟩:=List.mem_iff_getElem.1 hv;obtain⟨y,hy,_⟩:=hel i (by omega);obtain⟨n,h2,_,h3⟩:=DataW.trod_int he hy;rw[Nat.one_mul,List.drop_eq_getElem_cons hi,List.take_succ_cons,List.take_zero] at h2;exact⟨n,(List.cons.inj h2).1,h3⟩
  clear hel hlen hl hs h
  induction us with
  |nil=>exact⟨[],rfl,by simp⟩
  |cons v r ih=>
   obtain⟨zs,rfl,h2⟩:=ih (λv hv=>h1 v (List.mem_cons_of_mem _ hv));obtain⟨n,rfl,h3⟩:=h1 v List.mem_cons_self;exact⟨n::zs,rfl,λq hq=>(List.mem_cons.1 hq).elim (λe=>e▸h3) (h2 q)⟩
 obtain⟨zs,rfl,hwf⟩:=key;have hn:zs.length=len:=by simpa using hlen
 subst hn;exact⟨A,cap,zs,rfl,hf,hl,hwf,Lda ht h⟩
end
theorem G8 {k:IntKind}{zs:List Int}{top:Nat}(hb:∀n,(Lit.int k n).wf=true->0<=n/\n<top)(h:∀n∈zs,(Lit.int k n).wf=true):∃ns:List Nat,zs=ns.map (λn:Nat=>(n:Int))/\∀n∈ns,n<top:=by
 induction zs with
 |nil=>exact⟨[],rfl,by simp⟩
 |cons z r ih=>
  obtain⟨ns,rfl,h2⟩:=ih (λn hn=>h n (List.mem_cons_of_mem _ hn));have:=hb z (h z List.mem_cons_self);exact⟨z.toNat::ns,by simp;omega,λq hq=>(List.mem_cons.1 hq).elim (λe=>by omega) (h2 q)⟩
theorem Xs (n:Int)(h:(Lit.int .u64 n).wf=true):∃m:Nat,n=(m:Int)/\m<18446744073709551616:=by
 have:=bounds_u64 h;exact⟨n.toNat,by omega,by omega⟩
theorem Kw {w:World}{B:Nat}:∀(len:Nat) (us:List Value),us.length=7*len->(∀i,i<len->∃c,IsCel w B c ((us.drop (7*i)).take 7))->∃cs:List Ha,cs.length=len/\IsCels w B cs us
 | 0,us,h,_=>⟨[],rfl,by rw[IsCels];exact List.eq_nil_of_length_eq_zero (by omega)⟩
 |n+1,us,h,hc=>by
  obtain⟨c,h0⟩:=hc 0 (by omega);obtain⟨cs,h1,h2⟩:=Kw n (us.drop 7) (by simp;omega) (λi hi=>by
   obtain⟨c,h3⟩:=hc (i+1) (by omega);exact⟨c,by rw[List.drop_drop];rwa[Nat.mul_add,Nat.mul_one,Nat.add_comm] at h3⟩)
  exact⟨c::cs,by simp[h1],by rw[IsCels];exact⟨us.take 7,us.drop 7,(List.take_append_drop 7 us).symm,by simpa using h0,h2⟩⟩
theorem Dn {w:World}{B:Nat}:∀(len:Nat) (us:List Value),us.length=3*len->(∀i,i<len->∃c,IsArr w B c ((us.drop (3*i)).take 3))->∃cs:List Ba,cs.length=len/\IsArrs w B cs us
 | 0,us,h,_=>⟨[],rfl,by rw[IsArrs];exact List.eq_nil_of_length_eq_zero (by omega)⟩
 |n+1,us,h,hc=>by
  obtain⟨c,h0⟩:=hc 0 (by omega);obtain⟨cs,h1,h2⟩:=Dn n (us.drop 3) (by simp;omega) (λi hi=>by
   obtain⟨c,h3⟩:=hc (i+1) (by omega);exact⟨c,by rw[List.drop_drop];rwa[Nat.mul_add,Nat.mul_one,Nat.add_comm] at h3⟩)
  exact⟨c::cs,by simp[h1],by rw[IsArrs];exact⟨us.take 3,us.drop 3,(List.take_append_drop 3 us).symm,by simpa using h0,h2⟩⟩
end
section
open Go.ChangeShapes Go.WideShapes Go.ChangeAt Go.RowKit Ar
section
variable {H : Type} {enc : TypeId × Value -> H} {P : Program} {w : World} {base : Nat} {Ld : Bool} {fuel : Nat} {t e : TypeId} {cs : List Value} {x : DataW H × List MemPlace}
theorem Zh {fs:Array Field}(ht:P.underlying t=some (.struct fs))(h:DataW.trod enc P w base (λ_=>true) Ld fuel t cs=some x)(hs:∀n∈x.1.weights P t,n<=reachBytes):
 ∃m,fuel=m+1/\cs.length=P.cellsOf t/\∀(i:Nat) (ty:TypeId) (off:Nat),(fs[i]?).map (λf=>(f.type,f.offset))=some (ty,off)->∃y,DataW.trod enc P w base (λ_=>true) Ld m ty ((cs.drop off).take (P.cellsOf ty))=some y/\∀n∈y.1.weights P ty,n<=reachBytes:=by
 obtain⟨xs,m,rfl,rfl,hl,hx,hf⟩:=DataW.trod_struct ht h;refine⟨m,rfl,hl,λi ty off hm=>?_⟩;obtain⟨f,hi,hm'⟩:=Option.map_eq_some_iff.1 hm;obtain⟨rfl,rfl⟩:=Prod.mk.inj hm';have h1:=hf i f hi;have hlt:i<xs.length:=by rw[hx];exact(Array.getElem?_eq_some_iff.1 hi).1
 rw[List.getElem?_eq_getElem hlt] at h1;refine⟨_,h1,λn hn=>hs n ?_⟩;simp only[DataW.weights,ht];exact DataW.weights_mem_each (j:=i) (t:=f.type) (d:=xs[i].1) (by rw[List.getElem?_map,Array.getElem?_toList,hi];rfl) (by rw[List.getElem?_map,List.getElem?_eq_getElem hlt];rfl) n hn
theorem Jj:∀{ds:List (DataW H)} {d:DataW H},d∈ds->∀n∈d.weights P e,n∈DataW.weightsAll P e ds
 | [],_,h,_,_=>by cases h
 |d'::r,d,h,n,hn=>by
  rw[DataW.weightsAll,List.mem_append];rcases List.mem_cons.1 h with rfl |h
  ·exact .inl hn
  exact .inr (Jj h n hn)
theorem Ai {k:Nat}(ht:P.underlying t=some (.array k e))(h:DataW.trod enc P w base (λ_=>true) Ld fuel t cs=some x)(hs:∀n∈x.1.weights P t,n<=reachBytes):
 ∃m,fuel=m+1/\cs.length=P.cellsOf t/\∀(i:Nat),i<k->∃y,DataW.trod enc P w base (λ_=>true) Ld m e ((cs.drop (i*P.cellsOf e)).take (P.cellsOf e))=some y/\∀n∈y.1.weights P e,n<=reachBytes:=by
 obtain⟨xs,m,rfl,rfl,hl,hx,hf⟩:=DataW.trod_array ht h;refine⟨m,rfl,hl,λi hi=>?_⟩;have h1:=hf i hi;have hlt:i<xs.length:=by omega
 rw[List.getElem?_eq_getElem hlt] at h1;refine⟨_,h1,λn hn=>hs n ?_⟩;simp only[DataW.weights,ht];exact Jj (List.mem_map.2 ⟨_,List.getElem_mem hlt,rfl⟩) n hn
end
theorem Uga:Tryz.prog.cellsOf 43=3:=by kernel_rfl
theorem Ala:Tryz.prog.cellsOf 85=7:=by kernel_rfl
theorem Boa:Tryz.prog.cellsOf 83=3:=by kernel_rfl
theorem Qaa:Tryz.prog.cellsOf 3=1:=by kernel_rfl
theorem Raa:Tryz.prog.cellsOf 22=1:=by kernel_rfl
theorem Bla:Tryz.prog.cellsOf 139=1:=by kernel_rfl
theorem Nia:Tryz.prog.cellsOf 26=1:=by kernel_rfl
theorem Gna:Tryz.prog.cellsOf 81=1:=by kernel_rfl
theorem Hna:Tryz.prog.cellsOf 41=1:=by kernel_rfl
theorem Oia:Tryz.prog.cellsOf 24=1:=by kernel_rfl
theorem Ina:Tryz.prog.cellsOf 4=1:=by kernel_rfl
theorem Coa:Tryz.prog.bytesOf 85=104:=by kernel_rfl
theorem Cla:Tryz.prog.bytesOf 43=56:=by kernel_rfl
theorem Dla:Tryz.prog.bytesOf 3=8:=by kernel_rfl
theorem Ela:Tryz.prog.bytesOf 139=4:=by kernel_rfl
section
variable {H : Type} {enc : TypeId × Value -> H} {w : World} {base : Nat} {Ld : Bool}
def Eja (enc:TypeId×Value->H)(w:World)(base:Nat)(Ld:Bool)(fuel:Nat):Prop:=
 ∀cs x,DataW.trod enc Tryz.prog w base (λ_=>true) Ld fuel 43 cs=some x->(∀n∈x.1.weights Tryz.prog 43,n<=reachBytes)->∃a,IsArr w w.heap.size a cs
def Fja (enc:TypeId×Value->H)(w:World)(base:Nat)(Ld:Bool)(fuel:Nat):Prop:=
 ∀cs x,DataW.trod enc Tryz.prog w base (λ_=>true) Ld fuel 85 cs=some x->(∀n∈x.1.weights Tryz.prog 85,n<=reachBytes)->∃a,IsCel w w.heap.size a cs
theorem Jna {cs:List Value}(h:cs.length=3):∃a b c,cs=[a,b,c]:=by
 match cs,h with
 | [a,b,c],_=>exact⟨a,b,c,rfl⟩
theorem Kna {cs:List Value}(h:cs.length=7):∃a b c d e f g,cs=[a,b,c,d,e,f,g]:=by
 match cs,h with
 | [a,b,c,d,e,f,g],_=>exact⟨a,b,c,d,e,f,g,rfl⟩
theorem I8 {zs:List Int}(h:∀n∈zs,(Lit.int .i64 n).wf=true):Xa zs:=λn hn=>bounds_i64 (h n hn)
theorem Mda (n:Int)(h:(Lit.int .u32 n).wf=true):0<=n/\n<((4294967296:Nat):Int):=by have:=bounds_u32 h;omega
theorem Nda (n:Nat):Eja enc w base Ld n/\Fja enc w base Ld n:=by
 induction n using Nat.strongRecOn with
 |_ n ih=>
  constructor
  ·intro cs x h hs
   obtain⟨m,rfl,hlen,hf⟩:=Zh Tryz.underlying43 h hs;rw[Uga] at hlen;obtain⟨v0,v1,v2,rfl⟩:=Jna hlen;obtain⟨y0,h0,_⟩:=hf 0 22 0 rfl;obtain⟨y1,h1,s1⟩:=hf 1 26 1 rfl;obtain⟨y2,h2,s2⟩:=hf 2 41 2 rfl;rw[Raa] at h0;rw[Nia] at h1;rw[Hna] at h2;obtain⟨S,e0,_,w0⟩:=DataW.trod_int Tryz.underlying22 h0;obtain⟨A,c,zs,e1,f1,l1,w1,_⟩:=Ij Tryz.underlying26 Tryz.underlying3 Qaa Dla h1 s1;obtain⟨A',len,c',us,m',rfl,e2,f2,l2,hl2,hel⟩:=Yh Tryz.underlying41 Ala (by omega) Coa h2 s2;obtain⟨k,rfl,hk⟩:=Xs S w0;obtain⟨cells,hcl,hcs⟩:=Kw len us hl2 (λi hi=>by
    obtain⟨y,hy,sy⟩:=hel i hi;exact(ih m' (by omega)).2 _ _ hy sy)
   subst hcl;simp at e0 e1 e2;subst e0 e1 e2;exact⟨.mk k zs cells,by rw[IsArr];exact⟨A,c,A',c',us,rfl,hk,f1,f2,I8 w1,l1,l2,hcs⟩⟩
  intro cs x h hs;obtain⟨m,rfl,hlen,hf⟩:=Zh Tryz.underlying85 h hs;rw[Ala] at hlen;obtain⟨v0,v1,v2,v3,v4,v5,v6,rfl⟩:=Kna hlen;obtain⟨y0,h0,_⟩:=hf 0 22 0 rfl;obtain⟨y1,h1,_⟩:=hf 1 3 1 rfl;obtain⟨y2,h2,s2⟩:=hf 2 83 2 rfl;obtain⟨y3,h3,_⟩:=hf 3 3 5 rfl;obtain⟨y4,h4,s4⟩:=hf 4 24 6 rfl;rw[Raa] at h0;rw[Qaa] at h1 h3;rw[Boa] at h2;rw[Oia] at h4;obtain⟨L,e0,_,w0⟩:=DataW.trod_int Tryz.underlying22 h0;obtain⟨kind,e1,_,w1⟩:=DataW.trod_int Tryz.underlying3 h1;obtain⟨ch,e3,_,w3⟩:=DataW.trod_int Tryz.underlying3 h3;obtain⟨A3,len,c3,us,m',rfl,e4,f4,l4,hl4,hel⟩:=Yh Tryz.underlying24 Uga (by omega) Cla h4 s4;obtain⟨m2,_,hlen2,hf2⟩:=Zh Tryz.underlying83 h2 s2;obtain⟨z0,g0,_⟩:=hf2 0 4 0 rfl;obtain⟨z1,g1,q1⟩:=hf2 1 81 1 rfl;obtain⟨z2,g2,q2⟩:=hf2 2 81 2 rfl;rw[Ina] at g0;rw[Gna] at g1 g2;obtain⟨neg,d0,_⟩:=DataW.trod_bool Tryz.underlying4 g0;obtain⟨A1,c1,t1,d1,p1,l1,x1,nl1⟩:=Ij Tryz.underlying81 Tryz.underlying139 Bla Ela g1 q1;obtain⟨A2,c2,t2,d2,p2,l2,x2,nl2⟩:=Ij Tryz.underlying81 Tryz.underlying139 Bla Ela g2 q2;obtain⟨k,rfl,hk⟩:=Xs L w0;obtain⟨ins,hcl,hcs⟩:=Dn len us hl4 (λi hi=>by
   obtain⟨y,hy,sy⟩:=hel i hi;exact(ih m' (by omega)).1 _ _ hy sy)
  obtain⟨n1,rfl,o1⟩:=G8 Mda x1;obtain⟨n2,rfl,o2⟩:=G8 Mda x2;subst hcl;simp at e0 e1 e3 e4 d0 d1 d2;subst e0 e1 e3 e4 d0 d1 d2;have hwf:Xa [kind,ch]:=by
   intro n hn;simp at hn;rcases hn with rfl |rfl
   ·exact bounds_i64 w1
   exact bounds_i64 w3
  exact⟨.mk k kind neg n1 n2 ch ins,by rw[IsCel];exact⟨A1,c1,A2,c2,A3,c3,us,by simp,hk,by simpa using p1,by simpa using p2,f4,hwf,o1,o2,by simpa [Rd,Function.comp_def] using l1,by simpa [Rd,Function.comp_def] using l2,l4,hcs,nl1,nl2⟩⟩
theorem Doa:Tryz.prog.cellsOf 29=36:=by kernel_rfl
theorem cA8:Tryz.prog.cellsOf 23=8:=by kernel_rfl
theorem cI8:Tryz.prog.cellsOf 25=8:=by kernel_rfl
theorem cD8:Tryz.prog.cellsOf 27=8:=by kernel_rfl
theorem Oda {fuel:Nat}{cs:List Value}{x:DataW H×List MemPlace}(h:DataW.trod enc Tryz.prog w base (λ_=>true) Ld fuel 24 cs=some x)(hs:∀n∈x.1.weights Tryz.prog 24,n<=reachBytes):
 ∃(A:Option Addr) (cp:Nat) (rs:List Ba) (us:List Value),cs=[.slice A rs.length cp]/\Fits rs.length cp 56/\Lies w w.heap.size A us/\IsArrs w w.heap.size rs us:=by
 obtain⟨A,len,cp,us,m,rfl,rfl,hf,hl,hlen,hel⟩:=Yh Tryz.underlying24 Uga (by omega) Cla h hs;obtain⟨rs,rfl,hrs⟩:=Dn len us hlen (λi hi=>by
  obtain⟨y,hy,sy⟩:=hel i hi;exact(Nda m).1 _ _ hy sy)
 exact⟨A,cp,rs,us,rfl,hf,hl,hrs⟩
theorem Fl {cs:List Value}{k off:Nat}{v:Value}(h:(((cs.drop off).take 8).drop (k*1)).take 1=[v]):cs[off+k]? =some v:=by
 have:=congrArg (λl=>l[0]?) h;have h2:k<8/\cs[off+k]? =some v:=by simpa [List.getElem?_take,List.getElem?_drop] using this
 exact h2.2
theorem Qy {α:Type}(d:α){p:Nat->α->Prop}(h:∀k,k<8->∃a,p k a):∃f:Nat->α,∀k,k<8->p k (f k):=
 ⟨λk=>if hk:k<8 then(h k hk).choose else d,λk hk=>by simp only[dif_pos hk];exact(h k hk).choose_spec⟩
theorem Kj {cs:List Value}{off:Nat}{v:Value}(h:(cs.drop off).take 1=[v]):cs[off]? =some v:=by
 have:=congrArg (λl=>l[0]?) h
 simpa [List.getElem?_take,List.getElem?_drop] using this
theorem Vga {fuel:Nat}{cs:List Value}{x:DataW H×List MemPlace}(h:DataW.trod enc Tryz.prog w base (λ_=>true) Ld fuel 29 cs=some x)(hs:∀n∈x.1.weights Tryz.prog 29,n<=reachBytes):∃c,IsCfg w w.heap.size c cs.toArray:=by
 obtain⟨m,rfl,hlen,hf⟩:=Zh Tryz.underlying29 h hs;rw[Doa] at hlen;obtain⟨y0,h0,s0⟩:=hf 0 23 0 rfl;obtain⟨y1,h1,s1⟩:=hf 1 25 8 rfl;obtain⟨y2,h2,s2⟩:=hf 2 23 16 rfl;obtain⟨y3,h3,s3⟩:=hf 3 27 24 rfl;obtain⟨y4,h4,_⟩:=hf 4 22 32 rfl;obtain⟨y5,h5,_⟩:=hf 5 3 33 rfl;obtain⟨y6,h6,_⟩:=hf 6 3 34 rfl;obtain⟨y7,h7,_⟩:=hf 7 3 35 rfl;rw[cA8] at h0 h2;rw[cI8] at h1;rw[cD8] at h3;rw[Raa] at h4;rw[Qaa] at h5 h6 h7;obtain⟨auth,e4,_,w4⟩:=DataW.trod_int Tryz.underlying22 h4;obtain⟨fu,e5,_,w5⟩:=DataW.trod_int Tryz.underlying3 h5;obtain⟨qu,e6,_,w6⟩:=DataW.trod_int Tryz.underlying3 h6;obtain⟨de,e7,_,w7⟩:=DataW.trod_int Tryz.underlying3 h7;obtain⟨au,rfl,hau⟩:=Xs auth w4;obtain⟨m0,_,_,g0⟩:=Ai Tryz.underlying23 h0 s0;obtain⟨m1,_,_,g1⟩:=Ai Tryz.underlying25 h1 s1;obtain⟨m2,_,_,g2⟩:=Ai Tryz.underlying23 h2 s2;obtain⟨m3,_,_,g3⟩:=Ai Tryz.underlying27 h3 s3;rw[Raa] at g0 g2;rw[Oia] at g1;rw[Nia] at g3;obtain⟨cl,hcl⟩:=Qy (p:=λk (n:Nat)=>cs[0+k]? =some (.int .u64 (n:Int))/\n<18446744073709551616) 0 (λk hk=>by
  obtain⟨y,hy,_⟩:=g0 k hk;obtain⟨n,e,_,wn⟩:=DataW.trod_int Tryz.underlying22 hy;obtain⟨q,rfl,hq⟩:=Xs n wn;exact⟨q,Fl e,hq⟩)
 obtain⟨la,hla⟩:=Qy (p:=λk (n:Nat)=>cs[16+k]? =some (.int .u64 (n:Int))/\n<18446744073709551616) 0 (λk hk=>by
  obtain⟨y,hy,_⟩:=g2 k hk;obtain⟨n,e,_,wn⟩:=DataW.trod_int Tryz.underlying22 hy;obtain⟨q,rfl,hq⟩:=Xs n wn;exact⟨q,Fl e,hq⟩)
 obtain⟨ins,hins⟩:=Qy (p:=λk (rs:List Ba)=>∃A cp us,cs[8+k]? =some (.slice A rs.length cp)/\Fits rs.length cp 56/\Lies w w.heap.size A us/\IsArrs w w.heap.size rs us) [] (λk hk=>by
  obtain⟨y,hy,sy⟩:=g1 k hk;obtain⟨A,cp,rs,us,e,q1,q2,q3⟩:=Oda hy sy;exact⟨rs,A,cp,us,Fl e,q1,q2,q3⟩)
 obtain⟨dr,hdr⟩:=Qy (p:=λk (zs:List Int)=>∃A cp,cs[24+k]? =some (.slice A zs.length cp)/\Fits zs.length cp 8/\Xa zs/\Lies w w.heap.size A (Ya zs)) [] (λk hk=>by
  obtain⟨y,hy,sy⟩:=g3 k hk;obtain⟨A,cp,zs,e,q1,q2,q3,_⟩:=Ij Tryz.underlying26 Tryz.underlying3 Qaa Dla hy sy;exact⟨zs,A,cp,Fl e,q1,I8 q3,q2⟩)
 refine⟨⟨cl,la,ins,dr,au,fu,qu,de⟩,?_⟩;exact{
  size:=by simpa using hlen
  clear:=λk hk=>by have:=hcl k hk;rw[Nat.zero_add] at this;exact⟨by simpa using this.1,this.2⟩
  ins:=λk hk=>by obtain⟨A,cp,us,q1,q2⟩:=hins k hk;exact⟨A,cp,us,by simpa using q1,q2⟩
  label:=λk hk=>by have:=hla k hk;exact⟨by simpa using this.1,this.2⟩
  draws:=λk hk=>by obtain⟨A,cp,q1,q2⟩:=hdr k hk;exact⟨A,cp,by simpa using q1,q2⟩
  auth:=by simpa using Kj e4
  authLt:=hau
  fuel:=by simpa using Kj e5
  quota:=by simpa using Kj e6
  depth:=by simpa using Kj e7
  wf:=by
   intro z hz;simp at hz;rcases hz with rfl |rfl |rfl
   ·exact bounds_i64 w5
   ·exact bounds_i64 w6
   exact bounds_i64 w7}
end
end
end Go.Proofs.YtmiccalfamepdaaGreatDoor
