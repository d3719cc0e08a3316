/- Texts of this proof, joined. -/
import Derived.Test.YtogjgbmngagimaaGreatDoorProg
import Derived.WalkKit
import Derived.WalkSpells
import Derived.WalkLawsBesides
import Derived.Lib.Hide
import Derived.Laws.Rows
import Derived.Below
import Derived.Laws.AppendOwn
import Derived.Maps.AppendAt
import Derived.Lib.ItoaMem
import Derived.Deep.QuietTactic
import Derived.BigQuiet
set_option linter.all false
set_option maxHeartbeats 8000000
set_option maxRecDepth 100000
theorem Go.Qd {p : Prop} (h : p) : Go.RowKit.Hid p := h
theorem Lr{n:Nat}:n<=n:=Nat.le_refl n
theorem Br{B:Nat}{w:Go.World}:Go.RowKit.Below B w w:=Go.RowKit.Below.refl B w
namespace Go.Proofs.YtogjgbmngagimaaGreatDoor
open Go.RowKit
theorem Aa {a b:Bool}(h:a=b):Ending.returned (.bool a)= .returned (.bool b):=by rw[h]
theorem Wa {k:IntKind}{a b:Int}(h:a=b):Ending.returned (.int k a)= .returned (.int k b):=by rw[h]
theorem Dx {a b c d:Value}(h:a=c)(h':b=d):Ending.returned (.tuple #[a,b])= .returned (.tuple #[c,d]):=by rw[h,h']
def Lies (w:World)(B:Nat)(A:Option Addr)(vs:List Value):Prop:=
 vs=[]\/∃b off,A=some ⟨b,off,none⟩/\b<B/\∀i v,vs[i]? =some v->w.cell? ⟨b,off+i,none⟩=some v
theorem Lies.nil {w:World}{B:Nat}{A:Option Addr}:Lies w B A []:= .inl rfl
theorem Lies.keep {w w':World}{B:Nat}{A:Option Addr}{vs:List Value}(h:Lies w B A vs)(hk:∀p:Addr,p.block<B->w'.cell? p=w.cell? p):Lies w' B A vs:=by
 rcases h with h |⟨b,off,hA,hb,hc⟩
 ·exact .inl h
 exact .inr ⟨b,off,hA,hb,λi v hv=>(hk _ hb).trans (hc i v hv)⟩
theorem Lies.more {w:World}{B B':Nat}{A:Option Addr}{vs:List Value}(h:Lies w B A vs)(hB:B<=B'):Lies w B' A vs:=by
 rcases h with h |⟨b,off,hA,hb,hc⟩
 ·exact .inl h
 exact .inr ⟨b,off,hA,by omega,hc⟩
theorem Lies.below {w w':World}{B:Nat}{A:Option Addr}{vs:List Value}(h:Lies w B A vs)(hb:Below B w w'):Lies w' B A vs:=h.keep λ_ hp=>hb.cell hp
theorem Lies.drew {w:World}{B:Nat}{A:Option Addr}{vs:List Value}(h:Lies w B A vs):Lies w.drew B A vs:=h
theorem Lies.drewN {w:World}{B:Nat}{A:Option Addr}{vs:List Value}(h:Lies w B A vs)(n:Nat):Lies (w.drewN n) B A vs:=h
theorem Lies.at_ {w:World}{B:Nat}{A:Option Addr}{vs:List Value}(h:Lies w B A vs){k:Nat}(hk:k<vs.length):
 ∃b off,A=some ⟨b,off,none⟩/\b<B/\w.cell? ⟨b,off+k,none⟩=some (vs[k]'hk):=by
 rcases h with h |⟨b,off,hA,hb,hc⟩
 ·subst h;simp at hk
 exact⟨b,off,hA,hb,hc k _ (List.getElem?_eq_getElem hk)⟩
theorem Lies.take {w:World}{B:Nat}{A:Option Addr}{vs:List Value}(h:Lies w B A vs)(n:Nat):Lies w B A (vs.take n):=by
 rcases h with h |⟨b,off,hA,hb,hc⟩
 ·subst h;exact .inl (by simp)
 refine .inr ⟨b,off,hA,hb,λi v hv=>hc i v ?_⟩;rw[List.getElem?_take] at hv
 split at hv
 ·exact hv
 cases hv
theorem Lies.of_own {w:World}{base:Nat}{e:TypeId}{size n c:Nat}{A:Option Addr}{xs:List Value}(h:w.ownsRow base e size (.slice A n c) n xs):Lies w w.heap.size A xs:=by
 rcases h.2 with⟨hv,hx⟩ |⟨g,cap,cur,hv,hb,hh,_⟩
 ·exact .inl (List.eq_nil_of_length_eq_zero (by rw[h.1,hx,Nat.zero_mul]))
 injection hv with hA
 subst hA;have hlt:=(h.lt g (by simp[Value.ownBlock])).2;exact .inr ⟨g,0,rfl,hlt,λi v hv=>by
  have:=h.cells (g:=g) (by simp[Value.ownBlock]) i v hv;rw[Nat.zero_add];rw[<-this]
  congr 1
  unfold Addr.add
  split
  ·simp_all
  simp⟩
theorem Sa {w:World}{base:Nat}{e:TypeId}{size n:Nat}{v:Value}{xs:List Value}(h:w.ownsRow base e size v n xs):∃A c,v= .slice A n c/\n<=c/\c<=maxLen:=by
 rcases h.2 with⟨hv,hx⟩ |⟨g,cap,cur,hv,_,_,h1,h2,_⟩
 ·subst hx;exact⟨none,0,hv,Lr,Nat.zero_le _⟩
 exact⟨_,cap,hv,h1,h2⟩
theorem F5 {w:World}{base:Nat}{e:TypeId}{size n cap g:Nat}{xs:List Value}(h:w.ownsRow base e size (.slice (some ⟨g,0,none⟩) n cap) n xs)(j:Nat)(v:Value)(hv:xs[j]? =some v):w.cell? ⟨g,0+j,none⟩=some v:=by
 have:=h.cells (g:=g) rfl j v hv;rw[Nat.zero_add,<-this]
 congr 1
 unfold Addr.add
 split
 ·rename_i h;rw[h]
 simp
theorem Lies.new (w:World)(cs:List Value)(t:TypeId):Lies (w.alloc (.cells cs.toArray t)) (w.heap.size+1) (some ⟨w.heap.size,0,none⟩) cs:=by
 refine .inr ⟨w.heap.size,0,rfl,by omega,λi v hv=>?_⟩;rw[cell_of_row (w.alloc (.cells cs.toArray t)) w.heap.size (0+i) cs.toArray t (0,0) (heap_alloc_new w _),Nat.zero_add]
 simpa using hv
end Go.Proofs.YtogjgbmngagimaaGreatDoor
namespace Ar
mutual
inductive Ba where
 |mk (S:Nat) (shape:List Int) (cells:List Fa)
inductive Fa where
 |mk (L:Nat) (kind:Int) (neg:Bool) (top bot:List Nat) (c:Int) (ins:List Ba)
end
mutual
def same (lab:Bool):Ba->Ba->Bool
 | .mk S sh cs,.mk S' sh' cs'=>(!lab||S==S')&&(sh==sh')&&Na lab cs cs'
def Na (lab:Bool):List Fa->List Fa->Bool
 | [],[]=>true
 |c::r,c'::r'=>Tc lab c c'&&Na lab r r'
 |_,_=>false
def Tc (lab:Bool):Fa->Fa->Bool
 | .mk L k n t b c ins,.mk L' k' n' t' b' c' ins'=>(!lab||L==L')&&(k==k')&&(c==c')&&(n==n'&&t==t'&&b==b')&&Oa lab ins ins'
def Oa (lab:Bool):List Ba->List Ba->Bool
 | [],[]=>true
 |a::r,a'::r'=>same lab a a'&&Oa lab r r'
 |_,_=>false
end
mutual
theorem Si (lab:Bool):∀a:Ba,same lab a a=true
 | .mk _ _ cs=>by simp[same,Ei lab cs]
theorem Ei (lab:Bool):∀a:List Fa,Na lab a a=true
 | []=>by simp[Na]
 |c::r=>by simp[Na,Fs lab c,Ei lab r]
theorem Fs (lab:Bool):∀a:Fa,Tc lab a a=true
 | .mk _ _ _ _ _ _ ins=>by simp[Tc,Fi lab ins]
theorem Fi (lab:Bool):∀a:List Ba,Oa lab a a=true
 | []=>by simp[Oa]
 |a::r=>by simp[Oa,Si lab a,Fi lab r]
end
theorem Ti (lab:Bool):∀{a b:List Fa},Na lab a b=true->a.length=b.length
 | [],[],_=>rfl
 | [],_::_,h=>by simp[Na] at h
 |_::_,[],h=>by simp[Na] at h
 |c::r,c'::r',h=>by
  simp only[Na,Bool.and_eq_true] at h;simp[Ti lab h.2]
theorem Ui (lab:Bool):∀{a b:List Ba},Oa lab a b=true->a.length=b.length
 | [],[],_=>rfl
 | [],_::_,h=>by simp[Oa] at h
 |_::_,[],h=>by simp[Oa] at h
 |c::r,c'::r',h=>by
  simp only[Oa,Bool.and_eq_true] at h;simp[Ui lab h.2]
theorem Dr (lab:Bool){cs cs':List Fa}{k:Nat}(h:k<cs.length)(h':k<cs'.length):Na lab (cs.drop k) (cs'.drop k)=(Tc lab cs[k] cs'[k]&&Na lab (cs.drop (k+1)) (cs'.drop (k+1))):=by
 rw[List.drop_eq_getElem_cons h,List.drop_eq_getElem_cons h',Na]
theorem Er (lab:Bool){cs cs':List Ba}{k:Nat}(h:k<cs.length)(h':k<cs'.length):Oa lab (cs.drop k) (cs'.drop k)=(same lab cs[k] cs'[k]&&Oa lab (cs.drop (k+1)) (cs'.drop (k+1))):=by
 rw[List.drop_eq_getElem_cons h,List.drop_eq_getElem_cons h',Oa]
end Ar
namespace Go.Proofs.YtogjgbmngagimaaGreatDoor
section
open Go.RowKit Ar
def Fits (n c bytes:Nat):Prop:=n<=c/\n*bytes<=140737488351232/\c<=9223372036854775807
theorem Fits.le {n c bytes:Nat}(h:Fits n c bytes)(hb:1<=bytes):n<=c/\n<=140737488351232:=by
 refine⟨h.1,?_⟩;have h1:=Nat.mul_le_mul_left n hb;have h2:=h.2.1;omega
def Kc (l:List Int):Prop:=∀n∈l,-9223372036854775808<=n/\n<=9223372036854775807
def Ug (l:List Nat):Prop:=∀n∈l,n<4294967296
def Sb (l:List Int):List Value:=l.map (Value.int .i64)
def Ec (l:List Nat):List Value:=l.map λn:Nat=>Value.int .u32 (n:Int)
mutual
def IsArr (w:World)(B:Nat):Ba->List Value->Prop
 | .mk S shape cells,vs=>∃A c A' c' us,vs=[.int .u64 (S:Int),.slice A shape.length c,.slice A' cells.length c']/\S<18446744073709551616/\Fits shape.length c 8/\Fits cells.length c' 104/\Kc shape/\
  Lies w B A (Sb shape)/\Lies w B A' us/\IsCels w B cells us
def IsCels (w:World)(B:Nat):List Fa->List Value->Prop
 | [],vs=>vs=[]
 |c::r,vs=>∃u t,vs=u++t/\IsCel w B c u/\IsCels w B r t
def IsCel (w:World)(B:Nat):Fa->List Value->Prop
 | .mk L kind neg top bot ch ins,vs=>∃A c A' c' A'' c'' us,vs=[.int .u64 (L:Int),.int .i64 kind,.bool neg,.slice A top.length c,.slice A' bot.length c',.int .i64 ch,.slice A'' ins.length c'']/\
  L<18446744073709551616/\Fits top.length c 4/\Fits bot.length c' 4/\Fits ins.length c'' 56/\Kc [kind,ch]/\Ug top/\Ug bot/\Lies w B A (Ec top)/\Lies w B A' (Ec bot)/\Lies w B A'' us/\IsArrs w B ins us/\(A=none->c=0)/\(A'=none->c'=0)
def IsArrs (w:World)(B:Nat):List Ba->List Value->Prop
 | [],vs=>vs=[]
 |a::r,vs=>∃u t,vs=u++t/\IsArr w B a u/\IsArrs w B r t
end
theorem IsArr.len {w:World}{B:Nat}{a:Ba}{vs:List Value}(h:IsArr w B a vs):vs.length=3:=by
 cases a;rw[IsArr] at h;obtain⟨A,c,A',c',us,rfl,_⟩:=h;rfl
theorem IsCel.len {w:World}{B:Nat}{a:Fa}{vs:List Value}(h:IsCel w B a vs):vs.length=7:=by
 cases a;rw[IsCel] at h;obtain⟨A,c,A',c',A2,c2,us,rfl,_⟩:=h;rfl
mutual
theorem IsArr.keep {w w':World}{B B':Nat}(hk:∀p:Addr,p.block<B->w'.cell? p=w.cell? p)(hB:B<=B'):∀(a:Ba) (vs:List Value),IsArr w B a vs->IsArr w' B' a vs
 | .mk S shape cells,vs,h=>by
  rw[IsArr] at h⊢;obtain⟨A,c,A',c',us,h1,h2,h3,h4,h5,h6,h7,h8⟩:=h;exact⟨A,c,A',c',us,h1,h2,h3,h4,h5,(h6.keep hk).more hB,(h7.keep hk).more hB,IsCels.keep hk hB cells us h8⟩
theorem IsCels.keep {w w':World}{B B':Nat}(hk:∀p:Addr,p.block<B->w'.cell? p=w.cell? p)(hB:B<=B'):∀(a:List Fa) (vs:List Value),IsCels w B a vs->IsCels w' B' a vs
 | [],vs,h=>by rw[IsCels] at h⊢;exact h
 |c::r,vs,h=>by
  rw[IsCels] at h⊢;obtain⟨u,t,h1,h2,h3⟩:=h;exact⟨u,t,h1,IsCel.keep hk hB c u h2,IsCels.keep hk hB r t h3⟩
theorem IsCel.keep {w w':World}{B B':Nat}(hk:∀p:Addr,p.block<B->w'.cell? p=w.cell? p)(hB:B<=B'):∀(a:Fa) (vs:List Value),IsCel w B a vs->IsCel w' B' a vs
 | .mk L kind neg top bot ch ins,vs,h=>by
  rw[IsCel] at h⊢;obtain⟨A,c,A',c',A2,c2,us,h1,h2,h3,h4,h5,h6,h7,h8,h9,h10,h11,h12⟩:=h;exact⟨A,c,A',c',A2,c2,us,h1,h2,h3,h4,h5,h6,h7,h8,(h9.keep hk).more hB,(h10.keep hk).more hB,(h11.keep hk).more hB,IsArrs.keep hk hB ins us h12.1,h12.2⟩
theorem IsArrs.keep {w w':World}{B B':Nat}(hk:∀p:Addr,p.block<B->w'.cell? p=w.cell? p)(hB:B<=B'):∀(a:List Ba) (vs:List Value),IsArrs w B a vs->IsArrs w' B' a vs
 | [],vs,h=>by rw[IsArrs] at h⊢;exact h
 |c::r,vs,h=>by
  rw[IsArrs] at h⊢;obtain⟨u,t,h1,h2,h3⟩:=h;exact⟨u,t,h1,IsArr.keep hk hB c u h2,IsArrs.keep hk hB r t h3⟩
end
theorem IsArr.below {w w':World}{B:Nat}{a:Ba}{vs:List Value}(h:IsArr w B a vs)(hb:Below B w w'):IsArr w' B a vs:=IsArr.keep (λ_ hp=>hb.cell hp) Lr a vs h
theorem IsArr.more {w:World}{B B':Nat}{a:Ba}{vs:List Value}(h:IsArr w B a vs)(hB:B<=B'):IsArr w B' a vs:=IsArr.keep (λ_ _=>rfl) hB a vs h
theorem IsCel.below {w w':World}{B:Nat}{a:Fa}{vs:List Value}(h:IsCel w B a vs)(hb:Below B w w'):IsCel w' B a vs:=IsCel.keep (λ_ hp=>hb.cell hp) Lr a vs h
theorem IsArrs.below {w w':World}{B:Nat}{a:List Ba}{vs:List Value}(h:IsArrs w B a vs)(hb:Below B w w'):IsArrs w' B a vs:=IsArrs.keep (λ_ hp=>hb.cell hp) Lr a vs h
theorem IsCels.below {w w':World}{B:Nat}{a:List Fa}{vs:List Value}(h:IsCels w B a vs)(hb:Below B w w'):IsCels w' B a vs:=IsCels.keep (λ_ hp=>hb.cell hp) Lr a vs h
theorem IsCels.at_ {w:World}{B:Nat}:∀{cs:List Fa} {vs:List Value} (h:IsCels w B cs vs) {k:Nat} (hk:k<cs.length),∃u,IsCel w B cs[k] u/\u=(vs.drop (7*k)).take 7
 | [],_,_,_,hk=>by simp at hk
 |c::r,vs,h,0,_=>by
  rw[IsCels] at h;obtain⟨u,t,rfl,h2,h3⟩:=h;exact⟨u,h2,by simp[h2.len]⟩
 |c::r,vs,h,k+1,hk=>by
  rw[IsCels] at h;obtain⟨u,t,rfl,h2,h3⟩:=h;obtain⟨u',h4,h5⟩:=h3.at_ (k:=k) (by simpa using hk);refine⟨u',h4,h5.trans ?_⟩;rw[show 7*(k+1)=u.length+7*k by rw[h2.len];omega,List.drop_append,List.drop_eq_nil_of_le (Nat.le_add_right _ _),Nat.add_sub_cancel_left,List.nil_append]
theorem IsArrs.at_ {w:World}{B:Nat}:∀{cs:List Ba} {vs:List Value} (h:IsArrs w B cs vs) {k:Nat} (hk:k<cs.length),∃u,IsArr w B cs[k] u/\u=(vs.drop (3*k)).take 3
 | [],_,_,_,hk=>by simp at hk
 |c::r,vs,h,0,_=>by
  rw[IsArrs] at h;obtain⟨u,t,rfl,h2,h3⟩:=h;exact⟨u,h2,by simp[h2.len]⟩
 |c::r,vs,h,k+1,hk=>by
  rw[IsArrs] at h;obtain⟨u,t,rfl,h2,h3⟩:=h;obtain⟨u',h4,h5⟩:=h3.at_ (k:=k) (by simpa using hk);refine⟨u',h4,h5.trans ?_⟩;rw[show 3*(k+1)=u.length+3*k by rw[h2.len];omega,List.drop_append,List.drop_eq_nil_of_le (Nat.le_add_right _ _),Nat.add_sub_cancel_left,List.nil_append]
theorem IsCels.len {w:World}{B:Nat}:∀{cs:List Fa} {vs:List Value} (h:IsCels w B cs vs),vs.length=7*cs.length
 | [],_,h=>by rw[IsCels] at h;subst h;rfl
 |c::r,vs,h=>by
  rw[IsCels] at h;obtain⟨u,t,rfl,h2,h3⟩:=h;rw[List.length_append,h2.len,h3.len,List.length_cons];omega
theorem IsArrs.len {w:World}{B:Nat}:∀{cs:List Ba} {vs:List Value} (h:IsArrs w B cs vs),vs.length=3*cs.length
 | [],_,h=>by rw[IsArrs] at h;subst h;rfl
 |c::r,vs,h=>by
  rw[IsArrs] at h;obtain⟨u,t,rfl,h2,h3⟩:=h;rw[List.length_append,h2.len,h3.len,List.length_cons];omega
theorem IsCels.snoc {w:World}{B:Nat}:∀{cs:List Fa} {vs:List Value} (h:IsCels w B cs vs) {c:Fa} {u:List Value} (hc:IsCel w B c u),IsCels w B (cs++[c]) (vs++u)
 | [],vs,h,c,u,hc=>by
  rw[IsCels] at h;subst h;show IsCels w B [c] _;rw[IsCels];exact⟨u,[],by simp,hc,by rw[IsCels]⟩
 |x::r,vs,h,c,u,hc=>by
  rw[IsCels] at h;obtain⟨u',t,rfl,h2,h3⟩:=h;show IsCels w B (x::(r++[c])) _;rw[IsCels];exact⟨u',t++u,by simp,h2,h3.snoc hc⟩
theorem IsArrs.snoc {w:World}{B:Nat}:∀{cs:List Ba} {vs:List Value} (h:IsArrs w B cs vs) {c:Ba} {u:List Value} (hc:IsArr w B c u),IsArrs w B (cs++[c]) (vs++u)
 | [],vs,h,c,u,hc=>by
  rw[IsArrs] at h;subst h;show IsArrs w B [c] _;rw[IsArrs];exact⟨u,[],by simp,hc,by rw[IsArrs]⟩
 |x::r,vs,h,c,u,hc=>by
  rw[IsArrs] at h;obtain⟨u',t,rfl,h2,h3⟩:=h;show IsArrs w B (x::(r++[c])) _;rw[IsArrs];exact⟨u',t++u,by simp,h2,h3.snoc hc⟩
theorem Lies.elem {w:World}{B:Nat}{A:Option Addr}{vs:List Value}(h:Lies w B A vs){m k:Nat}{u:List Value}(hu:u=(vs.drop (m*k)).take m)(hn:u≠[]):
 ∃b off,A=some ⟨b,off,none⟩/\b<B/\∀j v,u[j]? =some v->w.cell? ⟨b,off+k*m+j,none⟩=some v:=by
 rcases h with h |⟨b,off,hA,hb,hc⟩
 ·subst h;simp at hu;exact absurd hu hn
 refine⟨b,off,hA,hb,λj v hv=>?_⟩;have:=hc (k*m+j) v (by
  rw[hu,List.getElem?_take] at hv
  split at hv
  ·rw[List.getElem?_drop] at hv;rw[<-hv,Nat.mul_comm]
  cases hv)
 rw[<-this,Nat.add_assoc]
structure CelIn (w:World) (B:Nat) (ce:Fa) (L:Nat) (kind:Int) (neg:Bool) (top bot:List Nat) (ch:Int) (ins:List Ba) (A1 A2 A3:Option Addr) (c1 c2 c3:Nat) (us:List Value):Prop where
 eq:ce= .mk L kind neg top bot ch ins
 lt:Lies w B A1 (Ec top)
 lb:Lies w B A2 (Ec bot)
 li:Lies w B A3 us
 arrs:IsArrs w B ins us
 wt:Ug top
 wb:Ug bot
 wk:Kc [kind,ch]
 ft:Fits top.length c1 4
 fb:Fits bot.length c2 4
 fi:Fits ins.length c3 56
 nt:A1=none->c1=0
 nb:A2=none->c2=0
theorem Dd {w wr:World}{B:Nat}{A:Option Addr}{cells:List Fa}{us:List Value}{k:Nat}(hcs:IsCels w B cells us)(hl:Lies w B A us)(hk:∀p:Addr,p.block<B->wr.cell? p=w.cell? p)(hlt:k<cells.length):
 ∃b off L kind neg top bot ch ins A1 c1 A2 c2 A3 c3 us3,A=some ⟨b,off,none⟩/\b<B/\L<18446744073709551616/\Hid (CelIn w B cells[k] L kind neg top bot ch ins A1 A2 A3 c1 c2 c3 us3)/\
  top.length<=c1/\top.length<=35184372088832/\bot.length<=c2/\bot.length<=35184372088832/\ins.length<=c3/\ins.length<=35184372088832/\
  wr.cell? ⟨b,off+k*7,none⟩=some (.int .u64 (L:Int))/\wr.cell? ⟨b,off+k*7+1,none⟩=some (.int .i64 kind)/\wr.cell? ⟨b,off+k*7+2,none⟩=some (.bool neg)/\
  wr.cell? ⟨b,off+k*7+3,none⟩=some (.slice A1 top.length c1)/\wr.cell? ⟨b,off+k*7+4,none⟩=some (.slice A2 bot.length c2)/\wr.cell? ⟨b,off+k*7+5,none⟩=some (.int .i64 ch)/\
  wr.cell? ⟨b,off+k*7+6,none⟩=some (.slice A3 ins.length c3):=by
 obtain⟨u,hu,hue⟩:=hcs.at_ hlt;obtain⟨b,off,rfl,hb,hcell⟩:=hl.elem hue (by intro h;have:=hu.len;rw[h] at this;cases this);obtain⟨ce,hce⟩:∃ce,ce=cells[k]:=⟨_,rfl⟩;rw[<-hce] at hu⊢;obtain⟨L,kind,neg,top,bot,ch,ins⟩:=ce;rw[IsCel] at hu;obtain⟨A1,c1,A2,c2,A3,c3,us3,rfl,hL,hf1,hf2,hf3,hw1,hw2,hw3,hl1,hl2,hl3,hins,hnt,hnb⟩:=hu;have hc:∀j v,[Value.int .u64 (L:Int),.int .i64 kind,.bool neg,.slice A1 top.length c1,.slice A2 bot.length c2,.int .i64 ch,.slice A3 ins.length c3][j]? =some v->wr.cell? ⟨b,off+k*7+j,none⟩=some v:=λj v hv=>(hk ⟨b,off+k*7+j,none⟩ hb).trans (hcell j v hv);have h1:=hf1.2;have h2:=hf2.2;have h3:=hf3.2;exact⟨b,off,L,kind,neg,top,bot,ch,ins,A1,c1,A2,c2,A3,c3,us3,rfl,hb,hL,Qd ⟨rfl,hl1,hl2,hl3,hins,hw2,hw3,hw1,hf1,hf2,hf3,hnt,hnb⟩,hf1.1,by omega,hf2.1,by omega,hf3.1,by omega,hc 0 _ rfl,hc 1 _ rfl,hc 2 _ rfl,hc 3 _ rfl,hc 4 _ rfl,hc 5 _ rfl,hc 6 _ rfl⟩
theorem IsArr.form {w:World}{B:Nat}{a:Ba}{vs:List Value}(h:IsArr w B a vs):∃(S:Nat) (A:Option Addr) (n c:Nat) (A':Option Addr) (n' c':Nat),vs=[.int .u64 (S:Int),.slice A n c,.slice A' n' c']:=by
 cases a;rw[IsArr] at h;obtain⟨A,c,A',c',us,rfl,_⟩:=h;exact⟨_,_,_,_,_,_,_,rfl⟩
theorem Ue {w wr:World}{B:Nat}{A:Option Addr}{arrs:List Ba}{us:List Value}{k:Nat}(hcs:IsArrs w B arrs us)(hl:Lies w B A us)(hk:∀p:Addr,p.block<B->wr.cell? p=w.cell? p)(hlt:k<arrs.length):
 ∃(b off S':Nat) (X:Option Addr) (n c:Nat) (X':Option Addr) (n' c':Nat),A=some ⟨b,off,none⟩/\b<B/\Hid (IsArr w B arrs[k] [.int .u64 (S':Int),.slice X n c,.slice X' n' c'])/\wr.cell? ⟨b,off+k*3,none⟩=some (.int .u64 (S':Int))/\wr.cell? ⟨b,off+k*3+1,none⟩=some (.slice X n c)/\wr.cell? ⟨b,off+k*3+2,none⟩=some (.slice X' n' c'):=by
 obtain⟨u,hu,hue⟩:=hcs.at_ hlt;obtain⟨b,off,rfl,hb,hcell⟩:=hl.elem hue (by intro h;have:=hu.len;rw[h] at this;cases this);obtain⟨S,X,n,c,X',n',c',rfl⟩:=hu.form;have hc:∀j v,[Value.int .u64 (S:Int),.slice X n c,.slice X' n' c'][j]? =some v->wr.cell? ⟨b,off+k*3+j,none⟩=some v:=λj v hv=>(hk ⟨b,off+k*3+j,none⟩ hb).trans (hcell j v hv);exact⟨b,off,S,X,n,c,X',n',c',rfl,hb,Qd hu,hc 0 _ rfl,hc 1 _ rfl,hc 2 _ rfl⟩
theorem Gs {S:Nat}{shape:List Int}{cells:List Fa}{k:Nat}(hk:k<cells.length){L:Nat}{kind:Int}{neg:Bool}{top bot:List Nat}{ch:Int}{ins:List Ba}(he:cells[k]= .mk L kind neg top bot ch ins){i:Nat}(hi:i<ins.length):
 SizeOf.sizeOf ins[i]<SizeOf.sizeOf (Ba.mk S shape cells):=by
 have h1:=List.sizeOf_lt_of_mem (List.getElem_mem hi);have h2:=List.sizeOf_lt_of_mem (List.getElem_mem hk);rw[he] at h2;simp only[Ba.mk.sizeOf_spec,Fa.mk.sizeOf_spec] at*;omega
end
section
open Go.RowKit Ar
def LiesP (w:World)(P:Nat->Prop)(A:Option Addr)(vs:List Value):Prop:=
 vs=[]\/∃b off,A=some ⟨b,off,none⟩/\P b/\∀i v,vs[i]? =some v->w.cell? ⟨b,off+i,none⟩=some v
theorem Lies.p {w:World}{B:Nat}{A:Option Addr}{vs:List Value}(h:Lies w B A vs):LiesP w (· <B) A vs:=h
theorem LiesP.lies {w:World}{P:Nat->Prop}{B:Nat}{A:Option Addr}{vs:List Value}(h:LiesP w P A vs)(hP:∀b,P b->b<B):Lies w B A vs:=by
 rcases h with h |⟨b,off,hA,hb,hc⟩
 ·exact .inl h
 exact .inr ⟨b,off,hA,hP _ hb,hc⟩
theorem LiesP.keep {w w':World}{P P':Nat->Prop}{A:Option Addr}{vs:List Value}(h:LiesP w P A vs)(hk:∀p:Addr,P p.block->w'.cell? p=w.cell? p)(hP:∀b,P b->P' b):LiesP w' P' A vs:=by
 rcases h with h |⟨b,off,hA,hb,hc⟩
 ·exact .inl h
 exact .inr ⟨b,off,hA,hP _ hb,λi v hv=>(hk ⟨b,off+i,none⟩ hb).trans (hc i v hv)⟩
mutual
def IsArrP (w:World)(P:Nat->Prop):Ba->List Value->Prop
 | .mk S shape cells,vs=>∃A c A' c' us,vs=[.int .u64 (S:Int),.slice A shape.length c,.slice A' cells.length c']/\S<18446744073709551616/\Fits shape.length c 8/\Fits cells.length c' 104/\Kc shape/\
  LiesP w P A (Sb shape)/\LiesP w P A' us/\IsCelsP w P cells us
def IsCelsP (w:World)(P:Nat->Prop):List Fa->List Value->Prop
 | [],vs=>vs=[]
 |c::r,vs=>∃u t,vs=u++t/\IsCelP w P c u/\IsCelsP w P r t
def IsCelP (w:World)(P:Nat->Prop):Fa->List Value->Prop
 | .mk L kind neg top bot ch ins,vs=>∃A c A' c' A'' c'' us,vs=[.int .u64 (L:Int),.int .i64 kind,.bool neg,.slice A top.length c,.slice A' bot.length c',.int .i64 ch,.slice A'' ins.length c'']/\
  L<18446744073709551616/\Fits top.length c 4/\Fits bot.length c' 4/\Fits ins.length c'' 56/\Kc [kind,ch]/\Ug top/\Ug bot/\LiesP w P A (Ec top)/\LiesP w P A' (Ec bot)/\LiesP w P A'' us/\IsArrsP w P ins us/\(A=none->c=0)/\(A'=none->c'=0)
def IsArrsP (w:World)(P:Nat->Prop):List Ba->List Value->Prop
 | [],vs=>vs=[]
 |a::r,vs=>∃u t,vs=u++t/\IsArrP w P a u/\IsArrsP w P r t
end
mutual
theorem IsArrP.keep {w w':World}{P P':Nat->Prop}(hk:∀p:Addr,P p.block->w'.cell? p=w.cell? p)(hP:∀b,P b->P' b):∀(a:Ba) (vs:List Value),IsArrP w P a vs->IsArrP w' P' a vs
 | .mk S shape cells,vs,h=>by
  rw[IsArrP] at h⊢;obtain⟨A,c,A',c',us,h1,h2,h3,h4,h5,h6,h7,h8⟩:=h;exact⟨A,c,A',c',us,h1,h2,h3,h4,h5,h6.keep hk hP,h7.keep hk hP,IsCelsP.keep hk hP cells us h8⟩
theorem IsCelsP.keep {w w':World}{P P':Nat->Prop}(hk:∀p:Addr,P p.block->w'.cell? p=w.cell? p)(hP:∀b,P b->P' b):∀(a:List Fa) (vs:List Value),IsCelsP w P a vs->IsCelsP w' P' a vs
 | [],vs,h=>by rw[IsCelsP] at h⊢;exact h
 |c::r,vs,h=>by
  rw[IsCelsP] at h⊢;obtain⟨u,t,h1,h2,h3⟩:=h;exact⟨u,t,h1,IsCelP.keep hk hP c u h2,IsCelsP.keep hk hP r t h3⟩
theorem IsCelP.keep {w w':World}{P P':Nat->Prop}(hk:∀p:Addr,P p.block->w'.cell? p=w.cell? p)(hP:∀b,P b->P' b):∀(a:Fa) (vs:List Value),IsCelP w P a vs->IsCelP w' P' a vs
 | .mk L kind neg top bot ch ins,vs,h=>by
  rw[IsCelP] at h⊢;obtain⟨A,c,A',c',A2,c2,us,h1,h2,h3,h4,h5,h6,h7,h8,h9,h10,h11,h12⟩:=h;exact⟨A,c,A',c',A2,c2,us,h1,h2,h3,h4,h5,h6,h7,h8,h9.keep hk hP,h10.keep hk hP,h11.keep hk hP,IsArrsP.keep hk hP ins us h12.1,h12.2⟩
theorem IsArrsP.keep {w w':World}{P P':Nat->Prop}(hk:∀p:Addr,P p.block->w'.cell? p=w.cell? p)(hP:∀b,P b->P' b):∀(a:List Ba) (vs:List Value),IsArrsP w P a vs->IsArrsP w' P' a vs
 | [],vs,h=>by rw[IsArrsP] at h⊢;exact h
 |c::r,vs,h=>by
  rw[IsArrsP] at h⊢;obtain⟨u,t,h1,h2,h3⟩:=h;exact⟨u,t,h1,IsArrP.keep hk hP c u h2,IsArrsP.keep hk hP r t h3⟩
end
mutual
theorem IsArr.p {w:World}{B:Nat}:∀(a:Ba) (vs:List Value),IsArr w B a vs->IsArrP w (· <B) a vs
 | .mk S shape cells,vs,h=>by
  rw[IsArr] at h;rw[IsArrP];obtain⟨A,c,A',c',us,h1,h2,h3,h4,h5,h6,h7,h8⟩:=h;exact⟨A,c,A',c',us,h1,h2,h3,h4,h5,h6,h7,IsCels.p cells us h8⟩
theorem IsCels.p {w:World}{B:Nat}:∀(a:List Fa) (vs:List Value),IsCels w B a vs->IsCelsP w (· <B) a vs
 | [],vs,h=>by rw[IsCels] at h;rw[IsCelsP];exact h
 |c::r,vs,h=>by
  rw[IsCels] at h;rw[IsCelsP];obtain⟨u,t,h1,h2,h3⟩:=h;exact⟨u,t,h1,IsCel.p c u h2,IsCels.p r t h3⟩
theorem IsCel.p {w:World}{B:Nat}:∀(a:Fa) (vs:List Value),IsCel w B a vs->IsCelP w (· <B) a vs
 | .mk L kind neg top bot ch ins,vs,h=>by
  rw[IsCel] at h;rw[IsCelP];obtain⟨A,c,A',c',A2,c2,us,h1,h2,h3,h4,h5,h6,h7,h8,h9,h10,h11,h12⟩:=h;exact⟨A,c,A',c',A2,c2,us,h1,h2,h3,h4,h5,h6,h7,h8,h9,h10,h11,IsArrs.p ins us h12.1,h12.2⟩
theorem IsArrs.p {w:World}{B:Nat}:∀(a:List Ba) (vs:List Value),IsArrs w B a vs->IsArrsP w (· <B) a vs
 | [],vs,h=>by rw[IsArrs] at h;rw[IsArrsP];exact h
 |c::r,vs,h=>by
  rw[IsArrs] at h;rw[IsArrsP];obtain⟨u,t,h1,h2,h3⟩:=h;exact⟨u,t,h1,IsArr.p c u h2,IsArrs.p r t h3⟩
end
mutual
theorem IsArrP.is {w:World}{P:Nat->Prop}{B:Nat}(hP:∀b,P b->b<B):∀(a:Ba) (vs:List Value),IsArrP w P a vs->IsArr w B a vs
 | .mk S shape cells,vs,h=>by
  rw[IsArrP] at h;rw[IsArr];obtain⟨A,c,A',c',us,h1,h2,h3,h4,h5,h6,h7,h8⟩:=h;exact⟨A,c,A',c',us,h1,h2,h3,h4,h5,h6.lies hP,h7.lies hP,IsCelsP.is hP cells us h8⟩
theorem IsCelsP.is {w:World}{P:Nat->Prop}{B:Nat}(hP:∀b,P b->b<B):∀(a:List Fa) (vs:List Value),IsCelsP w P a vs->IsCels w B a vs
 | [],vs,h=>by rw[IsCelsP] at h;rw[IsCels];exact h
 |c::r,vs,h=>by
  rw[IsCelsP] at h;rw[IsCels];obtain⟨u,t,h1,h2,h3⟩:=h;exact⟨u,t,h1,IsCelP.is hP c u h2,IsCelsP.is hP r t h3⟩
theorem IsCelP.is {w:World}{P:Nat->Prop}{B:Nat}(hP:∀b,P b->b<B):∀(a:Fa) (vs:List Value),IsCelP w P a vs->IsCel w B a vs
 | .mk L kind neg top bot ch ins,vs,h=>by
  rw[IsCelP] at h;rw[IsCel];obtain⟨A,c,A',c',A2,c2,us,h1,h2,h3,h4,h5,h6,h7,h8,h9,h10,h11,h12⟩:=h;exact⟨A,c,A',c',A2,c2,us,h1,h2,h3,h4,h5,h6,h7,h8,h9.lies hP,h10.lies hP,h11.lies hP,IsArrsP.is hP ins us h12.1,h12.2⟩
theorem IsArrsP.is {w:World}{P:Nat->Prop}{B:Nat}(hP:∀b,P b->b<B):∀(a:List Ba) (vs:List Value),IsArrsP w P a vs->IsArrs w B a vs
 | [],vs,h=>by rw[IsArrsP] at h;rw[IsArrs];exact h
 |c::r,vs,h=>by
  rw[IsArrsP] at h;rw[IsArrs];obtain⟨u,t,h1,h2,h3⟩:=h;exact⟨u,t,h1,IsArrP.is hP c u h2,IsArrsP.is hP r t h3⟩
end
theorem IsCelsP.snoc {w:World}{P:Nat->Prop}:∀{cs:List Fa} {vs:List Value} (h:IsCelsP w P cs vs) {c:Fa} {u:List Value} (hc:IsCelP w P c u),IsCelsP w P (cs++[c]) (vs++u)
 | [],vs,h,c,u,hc=>by
  rw[IsCelsP] at h;subst h;show IsCelsP w P [c] _;rw[IsCelsP];exact⟨u,[],by simp,hc,by rw[IsCelsP]⟩
 |x::r,vs,h,c,u,hc=>by
  rw[IsCelsP] at h;obtain⟨u',t,rfl,h2,h3⟩:=h;show IsCelsP w P (x::(r++[c])) _;rw[IsCelsP];exact⟨u',t++u,by simp,h2,h3.snoc hc⟩
theorem IsArrsP.snoc {w:World}{P:Nat->Prop}:∀{cs:List Ba} {vs:List Value} (h:IsArrsP w P cs vs) {c:Ba} {u:List Value} (hc:IsArrP w P c u),IsArrsP w P (cs++[c]) (vs++u)
 | [],vs,h,c,u,hc=>by
  rw[IsArrsP] at h;subst h;show IsArrsP w P [c] _;rw[IsArrsP];exact⟨u,[],by simp,hc,by rw[IsArrsP]⟩
 |x::r,vs,h,c,u,hc=>by
  rw[IsArrsP] at h;obtain⟨u',t,rfl,h2,h3⟩:=h;show IsArrsP w P (x::(r++[c])) _;rw[IsArrsP];exact⟨u',t++u,by simp,h2,h3.snoc hc⟩
theorem IsArrP.len {w:World}{P:Nat->Prop}{a:Ba}{vs:List Value}(h:IsArrP w P a vs):vs.length=3:=by
 cases a;rw[IsArrP] at h;obtain⟨A,c,A',c',us,rfl,_⟩:=h;rfl
theorem IsArrP.form {w:World}{P:Nat->Prop}{a:Ba}{vs:List Value}(h:IsArrP w P a vs):∃(S:Nat) (A:Option Addr) (n c:Nat) (A':Option Addr) (n' c':Nat),vs=[.int .u64 (S:Int),.slice A n c,.slice A' n' c']:=by
 cases a;rw[IsArrP] at h;obtain⟨A,c,A',c',us,rfl,_⟩:=h;exact⟨_,_,_,_,_,_,_,rfl⟩
def POut (B lo:Nat)(w:World)(V:Value)(b:Nat):Prop:=b<B\/(lo<=b/\b<w.heap.size/\V.ownBlock≠some b)
theorem POut.step {B lo H g n cap:Nat}{w w':World}{V:Value}(hs:w.heap.size<=w'.heap.size)(hat:V.ownBlock=some g\/g=H)(hH:w.heap.size<=H){b:Nat}(h:POut B lo w V b):POut B lo w' (.slice (some ⟨g,0,none⟩) n cap) b:=by
 rcases h with h |⟨h1,h2,h3⟩
 ·exact .inl h
 refine .inr ⟨h1,by omega,?_⟩;show some g≠some b;rintro e;injection e with e
 subst e;rcases hat with h4 |h4
 ·exact h3 h4
 omega
theorem POut.new {B lo H g n cap s2:Nat}{w w':World}{V:Value}(hlo:lo<=w.heap.size)(hs:s2<=w'.heap.size)(hat:V.ownBlock=some g\/g=H)(hH:s2<=H)(hown:∀x,V.ownBlock=some x->x<w.heap.size){b:Nat}(h:b<B\/(w.heap.size<=b/\b<s2)):POut B lo w' (.slice (some ⟨g,0,none⟩) n cap) b:=by
 rcases h with h |⟨h1,h2⟩
 ·exact .inl h
 refine .inr ⟨by omega,by omega,?_⟩;show some g≠some b;rintro e;injection e with e
 subst e;rcases hat with h4 |h4
 ·have:=hown _ h4;omega
 omega
theorem Lp {w w':World}{base n size:Nat}{e:TypeId}{v:Value}{xs:List Value}(h:w.ownsRow base e size v n xs)(hb:Below w.heap.size w w'):w'.ownsRow base e size v n xs:=
 h.kept (row:=none) ⟨hb.os,hb.tape,hb.output,hb.size,λk hk _=>hb.block k hk⟩ (by cases v.ownBlock<;>simp)
theorem LiesP.of_own {w:World}{base:Nat}{e:TypeId}{size n c:Nat}{A:Option Addr}{xs:List Value}(h:w.ownsRow base e size (.slice A n c) n xs):LiesP w (λb=>base<=b/\b<w.heap.size) A xs:=by
 rcases Lies.of_own h with h1 |⟨b,off,hA,hb,hc⟩
 ·exact .inl h1
 refine .inr ⟨b,off,hA,⟨?_,hb⟩,hc⟩;exact(h.lt b (by rw[hA];rfl)).1
theorem Hs (w:World)(cs:List Value)(t:TypeId)(j:Nat)(u:Value)(h:cs[j]? =some u):(w.alloc (.cells cs.toArray t)).cell? ((⟨w.heap.size,0,none⟩:Addr).add j)=some u:=by
 rw[show(⟨w.heap.size,0,none⟩:Addr).add j=⟨w.heap.size,j,none⟩ by unfold Addr.add;split<;>simp_all];rw[cell_of_row (w.alloc (.cells cs.toArray t)) w.heap.size j cs.toArray t (0,0) (heap_alloc_new w _)]
 simpa using h
end
end Go.Proofs.YtogjgbmngagimaaGreatDoor
namespace Go
def World.ownsQ (w:World)(q:Value->Prop)(base:Nat)(e:TypeId)(size:Nat)(v:Value)(n:Nat)(xs:List Value):Prop:=
 xs.length=n*size/\
 ((v= .slice none 0 0/\n=0)\/
  ∃g cap cur,v= .slice (some ⟨g,0,none⟩) n cap/\base<=g/\w.heap[g]? =some (.cells cur e (0,0))/\n<=cap/\cap<=maxLen/\cur.size=cap*size/\cur.toList.take (n*size)=xs/\∀u∈cur.toList,q u)
section
variable {w : World} {q : Value -> Prop} {base : Nat} {e : TypeId} {size : Nat} {v : Value} {n : Nat} {xs : List Value}
theorem World.ownsQ.own (h:w.ownsQ q base e size v n xs):w.ownsRow base e size v n xs:=by
 refine⟨h.1,?_⟩;rcases h.2 with hn |⟨g,cap,cur,hv,hb,hg,h1,h2,h3,h4,_⟩
 ·exact .inl hn
 exact .inr ⟨g,cap,cur,hv,hb,hg,h1,h2,h3,h4⟩
theorem World.ownsQ_nil (w:World)(q:Value->Prop)(base:Nat)(e:TypeId)(size:Nat):w.ownsQ q base e size (.slice none 0 0) 0 []:=⟨by simp,.inl ⟨rfl,rfl⟩⟩
theorem World.ownsQ.kept {w':World}{row:Option Nat}(h:w.ownsQ q base e size v n xs)(hg:w.grownBy w' row)(hne:v.ownBlock=none\/v.ownBlock≠row):w'.ownsQ q base e size v n xs:=by
 refine⟨h.1,?_⟩;rcases h.2 with hn |⟨g,cap,cur,rfl,hb,hgg,rest⟩
 ·exact .inl hn
 refine .inr ⟨g,cap,cur,rfl,hb,?_,rest⟩;rw[hg.block g (Array.getElem?_eq_some_iff.1 hgg).1 (by simpa [Value.ownBlock] using hne)];exact hgg
theorem World.ownsQ.mono {base':Nat}(h:w.ownsQ q base e size v n xs)(hb:base'<=base):w.ownsQ q base' e size v n xs:=by
 refine⟨h.1,?_⟩;rcases h.2 with hn |⟨g,cap,cur,hv,h1,rest⟩
 ·exact .inl hn
 exact .inr ⟨g,cap,cur,hv,by omega,rest⟩
theorem World.ownsQ.apart (h:w.ownsQ q base e size v n xs){a:Addr}{u:Value}(hc:w.cell? a=some u)(hu:¬q u)(hr:a.spot=none:=by rfl):v.ownBlock≠some a.block:=by
 rcases h.2 with⟨rfl,_⟩ |⟨g,cap,cur,rfl,hb,hg,h1,h2,h3,h4,hq⟩
 ·simp[Value.ownBlock]
 intro he;simp only[Value.ownBlock] at he;injection he with he
 obtain⟨b,off,r⟩:=a;simp only at he hr;subst he hr;rw[cell_of_row w _ off cur e (0,0) hg] at hc;exact hu (hq u (Array.mem_toList_iff.2 (Array.mem_of_getElem? hc)))
end
section
variable {P : Program} (w : World)
theorem Fr {z:Array Value}{n:Nat}{u:Value}(h:u∈(Builtin.zeroCells z n).toList):u∈z.toList:=by
 unfold Builtin.zeroCells at h;simp only[Array.toList_map,Array.toList_range,List.mem_map,List.mem_range] at h;obtain⟨i,hi,rfl⟩:=h;have hz:0<z.size:=by
  rcases Nat.eq_zero_or_pos z.size with h0 |h0
  ·rw[h0] at hi;simp at hi
  exact h0
 have hlt:i%z.size<z.size:=Nat.mod_lt _ hz;rw[getElem!_pos z _ hlt];simp
theorem Km (q:Value->Prop)(base:Nat)(t ty e:TypeId)(i:TypeInfo)(z:Value)(size bytes:Nat)(ht:P.underlying t=some (.slice e))(hi:P.info? e=some i)(hz:i.zero=some z)
 (hsize:i.size=size) (hby:i.bytes=bytes) (hzs:z.cells.size=size) (hsz:0<size) (hzq:∀u∈z.cells.toList,q u)
 (v:Value) (n:Nat) (xs:List Value) (hown:w.ownsQ q base e size v n xs)
 (a:Addr) (m c:Nat) (news:List Value) (hl:news.length=m*size) (hnews:∀j u,news[j]? =some u->w.cell? (a.add j)=some u) (h1:∀u∈news,u.oneCell'=true) (hq:∀u∈news,q u)
 (h63:n+m<=maxLen) (hbytes:(n+m)*bytes<=140737488355328) (hbase:base<=w.heap.size):
 ∃v' w',(Builtin.append_ #[t,t] ty #[v,.slice (some a) m c]).run P w= .ok v' w'/\w'.ownsQ q base e size v' (n+m) (xs++news)/\w.grownBy w' v.ownBlock/\
  (v'= .slice none 0 0↔v= .slice none 0 0/\m=0)/\(v'.ownBlock=v.ownBlock\/v'.ownBlock=some w.heap.size):=by
 subst hsize;subst hby
 have hsmall:n+m<=9223372036854775807:=by simp only[maxLen] at h63;omega
 have hlen:(xs++news).length=(n+m)*i.size:=by rw[List.length_append,hown.1,hl,Nat.add_mul]
 have grown:(∀u∈xs,q u)->∀(old:Nat),old<n+m->∀(row:Option Nat),
  (w.drew.alloc (.cells (xs.toArray++news.toArray++Builtin.zeroCells z.cells (grownCap w (n+m) old e-(n+m))) e)).ownsQ q base e i.size
   (.slice (some ⟨w.heap.size,0,none⟩) (n+m) (grownCap w (n+m) old e)) (n+m) (xs++news)/\
  w.grownBy (w.drew.alloc (.cells (xs.toArray++news.toArray++Builtin.zeroCells z.cells (grownCap w (n+m) old e-(n+m))) e)) row:=by
  intro hxq old ho row;have hge:=grownCap_ge w (n+m) old e;have hcm:grownCap w (n+m) old e<=maxLen:=grownCap_le_maxLen w (n+m) old e h63;refine⟨⟨hlen,.inr ⟨w.heap.size,_,_,rfl,hbase,heap_alloc_new w.drew _,hge,hcm,?_,?_,?_⟩⟩,⟨rfl,rfl,rfl,by simp,λk hk _=>RowKit.Below.heap_alloc w.drew _ k hk⟩⟩
  ·simp only[Array.size_append,List.size_toArray,size_zeroCells,hzs,hown.1,hl,<-Nat.add_mul]
   congr 1
   omega
  ·simp only[Array.toList_append,List.append_assoc]
   rw[<-List.append_assoc,<-hlen];exact List.take_left
  intro u hu;simp only[Array.toList_append,List.mem_append] at hu;rcases hu with(hu |hu) |hu
  ·exact hxq u hu
  ·exact hq u hu
  exact hzq u (Fr hu)
 rcases hown.2 with⟨rfl,rfl⟩ |⟨g,cap,cur,rfl,hbg,hg,hnc,hcm,hcs,htake,hcq⟩
 ·have hx:xs=[]:=List.eq_nil_of_length_eq_zero (by simpa using hown.1)
  subst hx;by_cases hm:m=0
  ·subst hm
   have hn:news=[]:=List.eq_nil_of_length_eq_zero (by simpa using hl);subst hn;refine⟨.slice none 0 0,w,?_,World.ownsQ_nil w q base e i.size,⟨rfl,rfl,rfl,Lr,λ_ _ _=>rfl⟩,by simp,Or.inl rfl⟩;simp[Builtin.append_,run_underlying ht,sizeOf,typeInfo,hi,Builtin.lenOf,Builtin.firstCells,loadCells,loadCellsFrom]
  have hr:=run_append_nil (P:=P) w t ty e i z ht hi hz a m c news hl hnews (by omega) (by omega) (by have hb:=hbytes;simp only[Nat.zero_add] at hb;omega);have hgr:=grown (by simp) 0 (by omega) (Value.ownBlock (.slice none 0 0));simp only[Nat.zero_add,List.nil_append,Array.empty_append] at hgr⊢;exact⟨_,_,hr,hgr.1,hgr.2,by simp[hm],Or.inr rfl⟩
 by_cases hroom:n+m<=cap
 ·have hfit:n*i.size+news.length<=cur.size:=by rw[hl,hcs,<-Nat.add_mul];exact Nat.mul_le_mul_right _ hroom
  have hr:=run_append_room (P:=P) w t ty e i ht hi g n cap cur hg a m c news hl hnews h1 hroom hfit;refine⟨_,_,hr,⟨hlen,.inr ⟨g,cap,_,rfl,hbg,setRow_heap w g cur _ e _ hg,hroom,hcm,?_,?_,?_⟩⟩,⟨rfl,rfl,rfl,by simp,λk _ hk=>setRow_other w g k _ (λe=>hk (by simp[Value.ownBlock,e]))⟩,by simp,Or.inl rfl⟩
  ·simp only[List.size_toArray,List.length_append,List.length_take,List.length_drop,Array.length_toList]
   omega
  ·rw[htake,<-hlen]
   exact List.take_left
  intro u hu;simp only[List.mem_append] at hu;rcases hu with(hu |hu) |hu
  ·exact hcq u (List.mem_of_mem_take hu)
  ·exact hq u hu
  exact hcq u (List.mem_of_mem_drop hu)
 have holds:∀j u,xs[j]? =some u->w.cell? ((⟨g,0,none⟩:Addr).add j)=some u:=hown.own.cells (g:=g) rfl;have hr:=run_append_grow (P:=P) w t ty e i z ht hi hz ⟨g,0,none⟩ n cap xs hown.1 holds a m c news hl hnews (by omega) (by omega) (growslice_fits (by omega) hbytes);have hgr:=grown (λu hu=>hcq u (List.mem_of_mem_take (by rw[htake];exact hu))) cap (by omega) (Value.ownBlock (.slice (some ⟨g,0,none⟩) n cap));exact⟨_,_,hr,hgr.1,hgr.2,by simp,Or.inr rfl⟩
theorem Fh {o:Oper}{a:Act}{K:Act->World->Prop}{Q:Exit->Act->World->Prop}(s x:Operand)(t:TypeId)
 (ho:o.op= .call {callee:= .builtin .append,args:= #[s,x],argTypes:= #[t,t]})
 (q:Value->Prop) (base:Nat) (e:TypeId) (i:TypeInfo) (z:Value) (size bytes:Nat) (ht:P.underlying t=some (.slice e)) (hi:P.info? e=some i) (hz:i.zero=some z)
 (hsize:i.size=size) (hby:i.bytes=bytes) (hzs:z.cells.size=size) (hsz:0<size) (hzq:∀u∈z.cells.toList,q u)
 (v:Value) (n:Nat) (xs:List Value) (hs:a.eval s=v) (hown:w.ownsQ q base e size v n xs)
 (ad:Addr) (m c:Nat) (news:List Value) (hx:a.eval x= .slice (some ad) m c) (hl:news.length=m*size) (hnews:∀j u,news[j]? =some u->w.cell? (ad.add j)=some u) (h1:∀u∈news,u.oneCell'=true) (hq:∀u∈news,q u)
 (h63:n+m<=maxLen) (hbytes:(n+m)*bytes<=140737488355328) (hbase:base<=w.heap.size)
 (h:∀v' w',w'.ownsQ q base e size v' (n+m) (xs++news)->w.grownBy w' v.ownBlock->(v'= .slice none 0 0↔v= .slice none 0 0/\m=0)->(v'.ownBlock=v.ownBlock\/v'.ownBlock=some w.heap.size)->K (a.put o.dst v') w'):o.wp P a w K Q:=by
 obtain⟨v',w',hr,h2,h3,h4,h5⟩:=Km (P:=P) w q base t o.type e i z size bytes ht hi hz hsize hby hzs hsz hzq v n xs hown ad m c news hl hnews h1 hq h63 hbytes hbase;unfold Oper.wp execOp;simp only[ho,resolve,invoke,builtin,Sem.run_bind,Sem.run_pure,Result.andThen_ok,List.map_toArray,List.map_cons,List.map_nil,hs,hx,hr];exact h v' w' h2 h3 h4 h5
theorem Vi {ops:Array Oper}{rest:List Oper}{o:Oper}{a:Act}{Q:Exit->Act->World->Prop}(hgd:o.guard=none)(s x:Operand)(t:TypeId)
 (ho:o.op= .call {callee:= .builtin .append,args:= #[s,x],argTypes:= #[t,t]})
 (q:Value->Prop) (base:Nat) (e:TypeId) (i:TypeInfo) (z:Value) (size bytes:Nat) (ht:P.underlying t=some (.slice e)) (hi:P.info? e=some i) (hz:i.zero=some z)
 (hsize:i.size=size) (hby:i.bytes=bytes) (hzs:z.cells.size=size) (hsz:0<size) (hzq:∀u∈z.cells.toList,q u)
 (v:Value) (n:Nat) (xs:List Value) (hs:a.eval s=v) (hown:w.ownsQ q base e size v n xs)
 (ad:Addr) (m c:Nat) (news:List Value) (hx:a.eval x= .slice (some ad) m c) (hl:news.length=m*size) (hnews:∀j u,news[j]? =some u->w.cell? (ad.add j)=some u) (h1:∀u∈news,u.oneCell'=true) (hq:∀u∈news,q u)
 (h63:n+m<=maxLen) (hbytes:(n+m)*bytes<=140737488355328) (hbase:base<=w.heap.size)
 (h:∀v' w',w'.ownsQ q base e size v' (n+m) (xs++news)->w.grownBy w' v.ownBlock->(v'= .slice none 0 0↔v= .slice none 0 0/\m=0)->(v'.ownBlock=v.ownBlock\/v'.ownBlock=some w.heap.size)->wpList P ops Q rest (a.put o.dst v') w'):wpList P ops Q (o::rest) a w:=
 wpList_plain hgd λ_ hK=>Fh w s x t ho q base e i z size bytes ht hi hz hsize hby hzs hsz hzq v n xs hs hown ad m c news hx hl hnews h1 hq h63 hbytes hbase λv' w' h2 h3 h4 h5=>hK _ _ (h v' w' h2 h3 h4 h5)
end
end Go
namespace Nt
def val:List Nat->Nat
 | []=>0
 |d::r=>d+4294967296*val r
def Ok (l:List Nat):Prop:=∀d∈l,d<4294967296
def digs (n:Nat):List Nat:=if h:n=0 then[] else n%4294967296::digs (n/4294967296)
termination_by n
decreasing_by omega
def Top (l:List Nat):Prop:=∀h:l≠[],l.getLast h≠0
theorem digs_zero:digs 0=[]:=by rw[digs];rfl
theorem digs_pos {n:Nat}(h:n≠0):digs n=n%4294967296::digs (n/4294967296):=by rw[digs,dif_neg h]
theorem val_digs (n:Nat):val (digs n)=n:=by
 induction n using Nat.strongRecOn with
 |_ n ih=>
  by_cases h:n=0
  ·subst h;rw[digs_zero];rfl
  rw[digs_pos h,val,ih _ (by omega)];omega
theorem ok_digs (n:Nat):Ok (digs n):=by
 induction n using Nat.strongRecOn with
 |_ n ih=>
  by_cases h:n=0
  ·subst h;rw[digs_zero];intro d hd;cases hd
  rw[digs_pos h];intro d hd;rcases List.mem_cons.1 hd with rfl |hd
  ·omega
  exact ih _ (by omega) d hd
theorem digs_nil_iff {n:Nat}:digs n=[]↔n=0:=by
 constructor
 ·intro h
  by_cases h0:n=0
  ·exact h0
  rw[digs_pos h0] at h;cases h
 rintro rfl;exact digs_zero
theorem top_digs (n:Nat):Top (digs n):=by
 induction n using Nat.strongRecOn with
 |_ n ih=>
  by_cases h:n=0
  ·subst h;rw[digs_zero];intro h;exact absurd rfl h
  intro hne;simp only[digs_pos h];by_cases h2:n/4294967296=0
  ·simp only[h2,digs_zero,List.getLast_singleton];omega
  rw[List.getLast_cons (by rw[ne_eq,digs_nil_iff];exact h2)];exact ih _ (by omega) _
theorem G5 {d:Nat}{r:List Nat}(h:Top (d::r)):Top r:=by
 intro hne;have:=h (by simp);rwa[List.getLast_cons hne] at this
theorem Rf {d:Nat}{r:List Nat}(h:Ok (d::r)):d<4294967296/\Ok r:=⟨h d List.mem_cons_self,λx hx=>h x (List.mem_cons_of_mem _ hx)⟩
theorem digs_val:∀{l:List Nat},Ok l->Top l->digs (val l)=l
 | [],_,_=>by rw[val,digs_zero]
 |d::r,ho,ht=>by
  obtain⟨hd,hr⟩:=Rf ho;have ih:=digs_val hr (G5 ht);by_cases h0:val (d::r)=0
  ·exfalso
   rw[val] at h0;have hr0:val r=0:=by omega
   rw[hr0,digs_zero] at ih;subst ih;exact ht (by simp) (by simp;omega)
  rw[digs_pos h0,val];rw[show(d+4294967296*val r)%4294967296=d by omega,show(d+4294967296*val r)/4294967296=val r by omega,ih]
theorem Db:∀(a b:List Nat),val (a++b)=val a+4294967296^a.length*val b
 | [],b=>by simp[val]
 |d::r,b=>by
  rw[List.cons_append,val,Db r b,val,List.length_cons,Nat.pow_succ]
  grind
theorem val_lt:∀{l:List Nat},Ok l->val l<4294967296^l.length
 | [],_=>by simp[val]
 |d::r,ho=>by
  obtain⟨hd,hr⟩:=Rf ho;have ih:=val_lt hr;rw[val,List.length_cons,Nat.pow_succ];generalize 4294967296^r.length=p at ih⊢;omega
theorem val_take_succ {l:List Nat}{i:Nat}(h:i<l.length):val (l.take (i+1))=val (l.take i)+4294967296^i*l[i]:=by
 rw[List.take_succ_eq_append_getElem h,Db];simp[val,Nat.min_eq_left (Nat.le_of_lt h)]
theorem Ub (l:List Nat)(i:Nat)(h:i<=l.length):val l=val (l.take i)+4294967296^i*val (l.drop i):=by
 have:=Db (l.take i) (l.drop i);rw[List.take_append_drop,List.length_take,Nat.min_eq_left h] at this;exact this
theorem Wi:∀{l:List Nat},(∀d∈l,d=0)->val l=0
 | [],_=>rfl
 |d::r,h=>by rw[val,h d List.mem_cons_self,Wi (λx hx=>h x (List.mem_cons_of_mem _ hx))]
theorem ok_take {l:List Nat}(h:Ok l)(n:Nat):Ok (l.take n):=λd hd=>h d (List.mem_of_mem_take hd)
theorem Ex {l:List Nat}(h:Ok l)(n:Nat):Ok (l.drop n):=λd hd=>h d (List.mem_of_mem_drop hd)
theorem ok_get {l:List Nat}(h:Ok l){i:Nat}(hi:i<l.length):l[i]<4294967296:=h _ (List.getElem_mem hi)
theorem Ed {l:List Nat}(h:Ok l){i x:Nat}(hx:x<4294967296):Ok (l.set i x):=λd hd=>by
 rcases List.mem_or_eq_of_mem_set hd with h1 |h1
 ·exact h d h1
 rw[h1];exact hx
theorem take_eq_digs {l:List Nat}{n:Nat}(ho:Ok l)(hn:n<=l.length)(hz:∀j (hj:j<l.length),n<=j->l[j]=0)(ht:∀h:0<n,l[n-1]'(by omega)≠0):l.take n=digs (val l):=by
 have hv:val (l.drop n)=0:=Wi λd hd=>by
  obtain⟨j,hj,rfl⟩:=List.getElem_of_mem hd;rw[List.getElem_drop];exact hz _ _ (by omega)
 have h1:=Ub l n hn;rw[hv,Nat.mul_zero,Nat.add_zero] at h1;rw[h1];refine(digs_val (ok_take ho n) λhne=>?_).symm;have hpos:0<n:=by
  rcases Nat.eq_zero_or_pos n with h0 |h0
  ·subst h0;simp at hne
  exact h0
 rw[List.getLast_eq_getElem];simp only[List.length_take,Nat.min_eq_left hn,List.getElem_take];exact ht hpos
theorem take_digs:∀{l:List Nat},Ok l->l.take (digs (val l)).length=digs (val l)
 | [],_=>by simp[val,digs_zero]
 |d::r,ho=>by
  obtain⟨hd,hr⟩:=Rf ho;have ih:=take_digs hr;by_cases h0:val (d::r)=0
  ·rw[h0,digs_zero];rfl
  have e:digs (val (d::r))=d::digs (val r):=by
   rw[digs_pos h0,val];rw[show(d+4294967296*val r)%4294967296=d by omega,show(d+4294967296*val r)/4294967296=val r by omega]
  rw[e,List.length_cons,List.take_succ_cons,ih]
theorem digs_inj {a b:Nat}(h:digs a=digs b):a=b:=by rw[<-val_digs a,<-val_digs b,h]
def size (n:Nat):Nat:=(digs n).length
theorem digs_len_le {l:List Nat}(h:Ok l):(digs (val l)).length<=l.length:=by
 have key:∀(k n:Nat),n<4294967296^k->(digs n).length<=k:=by
  intro k
  induction k with
  |zero=>intro n hn;rw[show n=0 by simpa using hn,digs_zero];simp
  |succ k ih=>
   intro n hn;by_cases h0:n=0
   ·subst h0;rw[digs_zero];simp
   rw[digs_pos h0,List.length_cons];have:=ih (n/4294967296) (by rw[Nat.pow_succ] at hn;rw[Nat.div_lt_iff_lt_mul (by omega)];exact hn);omega
 exact key _ _ (val_lt h)
theorem digs_len_lt {n k:Nat}(h:n<4294967296^k):(digs n).length<=k:=by
 have h2:=digs_len_le (l:=(List.range k).map λi=>n/4294967296^i%4294967296) (λd hd=>by
  obtain⟨i,_,rfl⟩:=List.mem_map.1 hd;omega)
 have key:∀(k n:Nat),n<4294967296^k->(digs n).length<=k:=by
  intro k
  induction k with
  |zero=>intro n hn;rw[show n=0 by simpa using hn,digs_zero];simp
  |succ k ih=>
   intro n hn;by_cases h0:n=0
   ·subst h0;rw[digs_zero];simp
   rw[digs_pos h0,List.length_cons];have:=ih (n/4294967296) (by rw[Nat.pow_succ] at hn;rw[Nat.div_lt_iff_lt_mul (by omega)];exact hn);omega
 exact key k n h
theorem digs_ge {n:Nat}(h:n≠0):4294967296^((digs n).length-1)<=n:=by
 induction n using Nat.strongRecOn with
 |_ n ih=>
  rw[digs_pos h,List.length_cons,Nat.add_sub_cancel];by_cases h2:n/4294967296=0
  ·rw[h2,digs_zero];simp;omega
  have:=ih _ (by omega) h2;have hl:(digs (n/4294967296)).length≠0:=by
   intro e;exact h2 (digs_nil_iff.1 (List.eq_nil_of_length_eq_zero e))
  obtain⟨m,hm⟩:∃m,(digs (n/4294967296)).length=m+1:=⟨(digs (n/4294967296)).length-1,by omega⟩;rw[hm] at this⊢;rw[Nat.add_sub_cancel] at this;rw[Nat.pow_succ];omega
def cmp (x y:Nat):Int:=if x<y then-1 else if y<x then 1 else 0
theorem cmp_lt {x y:Nat}(h:x<y):cmp x y= -1:=if_pos h
theorem cmp_gt {x y:Nat}(h:y<x):cmp x y=1:=by unfold cmp;rw[if_neg (by omega),if_pos h]
theorem cmp_eq (x:Nat):cmp x x=0:=by unfold cmp;rw[if_neg (by omega),if_neg (by omega)]
theorem val_lt_of {a b:List Nat}{i:Nat}(ha:Ok a)(hi:i<a.length)(hi':i<b.length)(hd:a.drop (i+1)=b.drop (i+1))(hlt:a[i]<b[i]):val a<val b:=by
 have h1:=Ub a i (by omega);have h2:=Ub b i (by omega);rw[List.drop_eq_getElem_cons hi,val] at h1;rw[List.drop_eq_getElem_cons hi',val,<-hd] at h2;have h3:=val_lt (ok_take ha i);rw[List.length_take,Nat.min_eq_left (by omega)] at h3;generalize val (a.drop (i+1))=r at h1 h2;generalize a[i]=x at h1 hlt;generalize b[i]=y at h2 hlt;generalize 4294967296^i=p at h1 h2 h3;generalize val (a.take i)=s at h1 h3;generalize val (b.take i)=t at h2;have h4:p*(x+4294967296*r)+p<=p*(y+4294967296*r):=by
  have h5:p*(x+4294967296*r+1)=p*(x+4294967296*r)+p:=Nat.mul_succ _ _;have h6:=Nat.mul_le_mul_left p (show x+4294967296*r+1<=y+4294967296*r by omega);omega
 omega
theorem digs_len_mono {x y:Nat}(h:(digs x).length<(digs y).length):x<y:=by
 have hy:y≠0:=by rintro rfl;rw[digs_zero] at h;simp at h
 have h1:=digs_ge hy;have h2:=val_lt (ok_digs x);rw[val_digs] at h2;have h3:(4294967296:Nat)^(digs x).length<=4294967296^((digs y).length-1):=Nat.pow_le_pow_right (by omega) (by omega);omega
def pad (a:List Nat)(n:Nat):List Nat:=a++List.replicate (n-a.length) 0
theorem val_pad (a:List Nat)(n:Nat):val (pad a n)=val a:=by
 unfold pad;rw[Db,Wi (λd hd=>(List.mem_replicate.1 hd).2),Nat.mul_zero,Nat.add_zero]
theorem pad_len {a:List Nat}{n:Nat}(h:a.length<=n):(pad a n).length=n:=by simp[pad];omega
theorem ok_pad {a:List Nat}(h:Ok a)(n:Nat):Ok (pad a n):=λd hd=>by
 rcases List.mem_append.1 hd with h1 |h1
 ·exact h d h1
 rw[(List.mem_replicate.1 h1).2];omega
theorem H5 {a:List Nat}{n i:Nat}(hi:i<(pad a n).length):(pad a n)[i]? =some (a.getD i 0):=by
 unfold pad at hi⊢;rw[List.length_append,List.length_replicate] at hi;rw[List.getD_eq_getElem?_getD,List.getElem?_append]
 split
 ·rename_i h;rw[List.getElem?_eq_getElem h];rfl
 rename_i h;rw[List.getElem?_replicate,if_pos (by omega),List.getElem?_eq_none (by omega)];rfl
theorem pad_get {a:List Nat}{n i:Nat}(hi:i<(pad a n).length):(pad a n)[i]=a.getD i 0:=by
 have:=H5 hi;rw[List.getElem?_eq_getElem hi] at this;exact Option.some.inj this
theorem Fx {l:List Nat}(ho:Ok l)(h:l≠[]->4294967296^(l.length-1)<=val l):digs (val l)=l:=by
 refine digs_val ho λhne hz=>?_;have h1:=h hne;have hl:0<l.length:=List.length_pos_iff.2 hne;have e:l=l.take (l.length-1)++[0]:=by
  have:=List.dropLast_concat_getLast hne;rw[hz,List.dropLast_eq_take] at this;exact this.symm
 have hv:val l=val (l.take (l.length-1)):=by
  have:=congrArg val e;rw[Db] at this;rw[this];simp[val]
 have h2:=val_lt (ok_take ho (l.length-1));rw[List.length_take,Nat.min_eq_left (by omega)] at h2;omega
theorem Ve (l:List Nat)(k:Nat):val (l.take (k+1))=val (l.take k)+4294967296^k*l.getD k 0:=by
 by_cases h:k<l.length
 ·rw[val_take_succ h,List.getD_eq_getElem?_getD,List.getElem?_eq_getElem h];rfl
 rw[List.take_of_length_le (by omega),List.take_of_length_le (by omega),List.getD_eq_getElem?_getD,List.getElem?_eq_none (by omega)];simp
theorem Od {l:List Nat}{k x:Nat}(h:k<l.length):val ((l.set k x).take (k+1))=val (l.take k)+4294967296^k*x:=by
 rw[val_take_succ (by simpa using h),List.getElem_set_self,List.take_set_of_le Lr]
theorem drop_set {l:List Nat}{k x:Nat}:(l.set k x).drop (k+1)=l.drop (k+1):=by
 rw[List.drop_set,if_pos (by omega)]
theorem digs_len_le_of {x y:Nat}(h:y<=x):(digs y).length<=(digs x).length:=by
 rcases Nat.lt_or_ge (digs x).length (digs y).length with h1 |h1
 ·have:=digs_len_mono h1;omega
 exact h1
theorem cmp_neg {x y:Nat}:cmp x y<0↔x<y:=by
 unfold cmp
 split
 ·simp_all
 split<;>simp<;>omega
def AddUp (a b cur:List Nat)(k c:Nat):Prop:=cur.length=k/\Ok cur/\val cur+c*4294967296^k=val (a.take k)+val (b.take k)
theorem addUp_step {a b cur:List Nat}{k c:Nat}(h:AddUp a b cur k c):AddUp a b (cur++[(a.getD k 0+b.getD k 0+c)%4294967296]) (k+1) ((a.getD k 0+b.getD k 0+c)/4294967296):=by
 obtain⟨h1,h2,h3⟩:=h;refine⟨by simp[h1],?_,?_⟩
 ·intro d hd
  rcases List.mem_append.1 hd with h4 |h4
  ·exact h2 d h4
  simp at h4;omega
 rw[Db,Ve,Ve,h1,Nat.pow_succ];simp only[val,Nat.mul_zero,Nat.add_zero];have e:a.getD k 0+b.getD k 0+c=(a.getD k 0+b.getD k 0+c)%4294967296+4294967296*((a.getD k 0+b.getD k 0+c)/4294967296):=by omega
 generalize 4294967296^k=p at h3⊢;generalize(a.getD k 0+b.getD k 0+c)%4294967296=s at e⊢;generalize(a.getD k 0+b.getD k 0+c)/4294967296=d at e⊢;generalize a.getD k 0=x at e⊢;generalize b.getD k 0=y at e⊢
 grind
theorem getD_lt {l:List Nat}(h:Ok l)(k:Nat):l.getD k 0<4294967296:=by
 rw[List.getD_eq_getElem?_getD];rcases Nat.lt_or_ge k l.length with h1 |h1
 ·rw[List.getElem?_eq_getElem h1];exact ok_get h h1
 rw[List.getElem?_eq_none h1];show 0<4294967296;omega
theorem addUp_end {a b cur:List Nat}{n c:Nat}(ha:Ok a)(hb:Ok b)(hla:a.length<=n)(hlb:b.length<=n)(h:AddUp a b cur (n+1) c):val cur=val a+val b:=by
 obtain⟨h1,h2,h3⟩:=h;rw[List.take_of_length_le (by omega),List.take_of_length_le (by omega)] at h3;have p1:=val_lt ha;have p2:=val_lt hb;have q1:(4294967296:Nat)^a.length<=4294967296^n:=Nat.pow_le_pow_right (by omega) hla;have q2:(4294967296:Nat)^b.length<=4294967296^n:=Nat.pow_le_pow_right (by omega) hlb;rw[Nat.pow_succ] at h3;generalize 4294967296^n=p at*;rcases Nat.eq_zero_or_pos c with h0 |h0
 ·subst h0;omega
 exfalso
 have:p*4294967296<=c*(p*4294967296):=Nat.le_mul_of_pos_left _ h0;omega
def SubUp (a b cur:List Nat)(k c:Nat):Prop:=cur.length=k/\Ok cur/\val cur+val (b.take k)=val (a.take k)+c*4294967296^k
theorem subUp_step {a b cur:List Nat}{k c s d:Nat}(h:SubUp a b cur k c)(hs:s<4294967296)(e:a.getD k 0+4294967296*d=s+b.getD k 0+c):SubUp a b (cur++[s]) (k+1) d:=by
 obtain⟨h1,h2,h3⟩:=h;refine⟨by simp[h1],?_,?_⟩
 ·intro d hd
  rcases List.mem_append.1 hd with h4 |h4
  ·exact h2 d h4
  simp at h4;omega
 rw[Db,Ve,Ve,h1,Nat.pow_succ];simp only[val,Nat.mul_zero,Nat.add_zero];generalize 4294967296^k=p at h3⊢;generalize a.getD k 0=x at e⊢;generalize b.getD k 0=y at e⊢
 grind
theorem subUp_end {a b cur:List Nat}{n c:Nat}(hla:a.length<=n)(hlb:b.length<=n)(hle:val b<=val a)(h:SubUp a b cur n c):val cur=val a-val b:=by
 obtain⟨h1,h2,h3⟩:=h;rw[List.take_of_length_le (by omega),List.take_of_length_le (by omega)] at h3;have:=val_lt h2;rw[h1] at this;generalize 4294967296^n=p at*;rcases Nat.eq_zero_or_pos c with h0 |h0
 ·subst h0;omega
 exfalso
 have:p<=c*p:=Nat.le_mul_of_pos_left _ h0;omega
def TwiceUp (a:List Nat)(bit:Nat)(cur:List Nat)(k c:Nat):Prop:=cur.length=k/\Ok cur/\val cur+c*4294967296^k=2*val (a.take k)+bit
theorem twiceUp_step {a cur:List Nat}{bit k c:Nat}(h:TwiceUp a bit cur k c):TwiceUp a bit (cur++[(2*a.getD k 0+c)%4294967296]) (k+1) ((2*a.getD k 0+c)/4294967296):=by
 obtain⟨h1,h2,h3⟩:=h;refine⟨by simp[h1],?_,?_⟩
 ·intro d hd
  rcases List.mem_append.1 hd with h4 |h4
  ·exact h2 d h4
  simp at h4;omega
 rw[Db,Ve,h1,Nat.pow_succ];simp only[val,Nat.mul_zero,Nat.add_zero];have e:2*a.getD k 0+c=(2*a.getD k 0+c)%4294967296+4294967296*((2*a.getD k 0+c)/4294967296):=by omega
 generalize 4294967296^k=p at h3⊢;generalize(2*a.getD k 0+c)%4294967296=s at e⊢;generalize(2*a.getD k 0+c)/4294967296=d at e⊢;generalize a.getD k 0=x at e⊢
 grind
theorem twiceUp_end {a cur:List Nat}{bit c:Nat}(ha:Ok a)(hb:bit<=1)(h:TwiceUp a bit cur (a.length+1) c):val cur=2*val a+bit:=by
 obtain⟨h1,h2,h3⟩:=h;rw[List.take_of_length_le (by omega)] at h3;have p1:=val_lt ha;rw[Nat.pow_succ] at h3;generalize 4294967296^a.length=p at*;rcases Nat.eq_zero_or_pos c with h0 |h0
 ·subst h0;omega
 exfalso
 have:p*4294967296<=c*(p*4294967296):=Nat.le_mul_of_pos_left _ h0;omega
theorem Lm:Ok []:=λd hd=>by cases hd
theorem addUp_start (a b:List Nat):AddUp a b [] 0 0:=⟨rfl,Lm,by simp[val]⟩
theorem subUp_start (a b:List Nat):SubUp a b [] 0 0:=⟨rfl,Lm,by simp[val]⟩
theorem twiceUp_start (a:List Nat)(bit:Nat):TwiceUp a bit [] 0 bit:=⟨rfl,Lm,by simp[val]⟩
theorem bit_limb {a:List Nat}(ha:Ok a)(i:Nat):a.getD (i/32) 0/2^(i%32)%2=val a/2^i%2:=by
 have key:∀(k:Nat) (l:List Nat),Ok l->val l/4294967296^k%4294967296=l.getD k 0:=by
  intro k
  induction k with
  |zero=>
   intro l hl;cases l with
   |nil=>simp[val]
   |cons d r=>have:=(Rf hl).1;simp[val];omega
  |succ k ih=>
   intro l hl;cases l with
   |nil=>simp[val]
   |cons d r=>
    have h1:=(Rf hl).1;rw[List.getD_cons_succ,<-ih r (Rf hl).2,val,Nat.pow_succ,Nat.mul_comm (4294967296^k),<-Nat.div_div_eq_div_mul];rw[show(d+4294967296*val r)/4294967296=val r by omega]
 rw[<-key _ a ha];have e:(2:Nat)^i=4294967296^(i/32)*2^(i%32):=by
  rw[show(4294967296:Nat)=2^32 from rfl,<-Nat.pow_mul,<-Nat.pow_add,Nat.div_add_mod]
 rw[e,<-Nat.div_div_eq_div_mul];generalize val a/4294967296^(i/32)=v;have h32:i%32<32:=Nat.mod_lt _ (by omega);generalize i%32=j at h32;have t0:(v%2^32).testBit j=v.testBit j:=by rw[Nat.testBit_mod_two_pow,decide_eq_true h32,Bool.true_and]
 rw[Nat.testBit_eq_decide_div_mod_eq,Nat.testBit_eq_decide_div_mod_eq,decide_eq_decide,show(2:Nat)^32=4294967296 from rfl] at t0;have m1:=Nat.mod_lt (v%4294967296/2^j) (show 0<2 by omega);have m2:=Nat.mod_lt (v/2^j) (show 0<2 by omega);generalize v%4294967296/2^j%2=p at*;generalize v/2^j%2=q at*;omega
theorem half_step (v k:Nat):v/2^k=2*(v/2^(k+1))+v/2^k%2:=by
 rw[Nat.pow_succ,<-Nat.div_div_eq_div_mul];omega
theorem len_mul {a b:List Nat}(ha:Ok a)(hb:Ok b){x:Nat}(h:x<=val a*val b):(digs x).length<=a.length+b.length:=by
 refine digs_len_lt (Nat.lt_of_le_of_lt h ?_);rw[Nat.pow_add];exact Nat.mul_lt_mul'' (val_lt ha) (val_lt hb)
theorem len_le {a:List Nat}(ha:Ok a){x:Nat}(h:x<=val a):(digs x).length<=a.length:=digs_len_lt (Nat.lt_of_le_of_lt h (val_lt ha))
theorem top_zero {a:List Nat}(ha:Ok a):val a/2^(32*a.length)=0:=by
 refine Nat.div_eq_of_lt ?_;rw[Nat.pow_mul];exact val_lt ha
theorem mul_step {v b k x bit:Nat}(hx:x=v/2^(k+1)*b)(hb:bit=v/2^k%2):2*x+bit*b=v/2^k*b:=by
 have:=half_step v k;rw[<-hb] at this;rw[this,hx]
 grind
theorem Caa {v b k:Nat}:v/2^k*b<=v*b:=Nat.mul_le_mul_right _ (Nat.div_le_self _ _)
theorem mul_le2 {v b k x:Nat}(hx:x=v/2^(k+1)*b):2*x<=v*b:=by
 have h1:=half_step v k;have h2:2*(v/2^(k+1))<=v/2^k:=by omega
 have h3:2*x<=v/2^k*b:=by
  rw[hx,<-Nat.mul_assoc];exact Nat.mul_le_mul_right _ h2
 exact Nat.le_trans h3 Caa
theorem div_step {n b q r bit:Nat}(hb:0<b)(hq:q=n/b)(hr:r=n%b)(hbit:bit<=1):
 (b<=2*r+bit->2*q+1=(2*n+bit)/b/\2*r+bit-b=(2*n+bit)%b)/\(¬b<=2*r+bit->2*q+0=(2*n+bit)/b/\2*r+bit=(2*n+bit)%b):=by
 have h1:=Nat.div_add_mod n b;have h2:=Nat.mod_lt n hb;rw[<-hq,<-hr] at h1;rw[<-hr] at h2
 constructor
 ·intro h
  have e:2*n+bit=(2*r+bit-b)+b*(2*q+1):=by
   have h3:b*(2*q+1)=2*(b*q)+b:=by grind
   omega
  rw[e,Nat.add_mul_div_left _ _ hb,Nat.add_mul_mod_self_left,Nat.div_eq_of_lt (by omega),Nat.mod_eq_of_lt (by omega)];exact⟨by omega,rfl⟩
 intro h;have e:2*n+bit=(2*r+bit)+b*(2*q):=by
  have h3:b*(2*q)=2*(b*q):=by grind
  omega
 rw[e,Nat.add_mul_div_left _ _ hb,Nat.add_mul_mod_self_left,Nat.div_eq_of_lt (by omega),Nat.mod_eq_of_lt (by omega)];exact⟨by omega,rfl⟩
def quo (x y:Nat):Nat:=x/y
def rest (x y:Nat):Nat:=if y=0 then 0 else x%y
theorem quo_zero (x:Nat):quo x 0=0:=Nat.div_zero x
theorem rest_zero (x:Nat):rest x 0=0:=if_pos rfl
theorem rest_pos {x y:Nat}(h:y≠0):rest x y=x%y:=if_neg h
theorem mul_bound {x y:Nat}(hx:x<4294967296)(hy:y<4294967296):x*y<=18446744065119617025:=by
 have:=Nat.mul_le_mul (Nat.le_of_lt_succ hx) (Nat.le_of_lt_succ hy)
 simpa using this
def ShortAt (l:List Nat)(d:Nat)(cur:List Nat)(k r:Nat):Prop:=
 cur.length=l.length/\Ok cur/\r<d/\cur.take k=l.take k/\val (cur.drop k)*d+r=val (l.drop k)
theorem short_start {l:List Nat}{d:Nat}(h:Ok l)(hd:0<d):ShortAt l d l l.length 0:=⟨rfl,h,hd,rfl,by simp[val]⟩
theorem short_get {l cur:List Nat}{d k r:Nat}(h:ShortAt l d cur (k+1) r)(hk:k<l.length):cur[k]? =some l[k]:=by
 have:(cur.take (k+1))[k]? =(l.take (k+1))[k]? :=by rw[h.2.2.2.1]
 rw[List.getElem?_take,List.getElem?_take,if_pos (by omega),if_pos (by omega),List.getElem?_eq_getElem hk] at this;exact this
theorem short_bounds {r d x:Nat}(hr:r<d)(hd:d<4294967296)(hx:x<4294967296):(r*4294967296+x)/d<4294967296/\r*4294967296+x<18446744073709551616/\(r*4294967296+x)%d<d:=by
 refine⟨?_,by omega,Nat.mod_lt _ (by omega)⟩;rw[Nat.div_lt_iff_lt_mul (by omega)];have:(r+1)*4294967296<=d*4294967296:=Nat.mul_le_mul_right _ hr;rw[Nat.mul_comm 4294967296 d];omega
theorem short_step {l cur:List Nat}{d k r:Nat}(h:ShortAt l d cur (k+1) r)(hk:k<l.length)(hl:Ok l)(hd:d<4294967296):ShortAt l d (cur.set k ((r*4294967296+l[k])/d)) k ((r*4294967296+l[k])%d):=by
 obtain⟨h1,h2,h3,h4,h5⟩:=h;have hb:=short_bounds h3 hd (ok_get hl hk);refine⟨by simpa using h1,Ed h2 hb.1,hb.2.2,?_,?_⟩
 ·rw[List.take_set_of_le Lr]
  have:=congrArg (List.take k) h4;rwa[List.take_take,List.take_take,Nat.min_eq_left (by omega)] at this
 have hc:k<cur.length:=by omega
 rw[List.drop_eq_getElem_cons (by rw[List.length_set];exact hc),List.getElem_set_self,drop_set,val,List.drop_eq_getElem_cons hk,val,<-h5];have e:=Nat.div_add_mod (r*4294967296+l[k]) d;generalize(r*4294967296+l[k])/d=q at*;generalize(r*4294967296+l[k])%d=r' at*;generalize l[k]=x at*;generalize val (cur.drop (k+1))=V at*
 grind
theorem short_end {l cur:List Nat}{d r:Nat}(h:ShortAt l d cur 0 r):val cur=val l/d/\r=val l%d:=by
 obtain⟨h1,h2,h3,h4,h5⟩:=h;rw[List.drop_zero,List.drop_zero] at h5;rw[<-h5,Nat.mul_comm,Nat.mul_add_div (by omega),Nat.div_eq_of_lt h3,Nat.mul_add_mod,Nat.mod_eq_of_lt h3];exact⟨by omega,rfl⟩
end Nt
namespace Nt
def EucAt (M x y k:Nat):Prop:=(k=0/\x*y*2<=M)\/(y<x/\x*y*2^k<=M)
theorem I5 {x y:Nat}(h:y<x)(hy:0<y):y*(x%y)*2<=x*y:=by
 have h1:x%y+y<=x:=by
  have e:=Nat.div_add_mod x y;have hq:1<=x/y:=by rw[Nat.le_div_iff_mul_le hy];omega
  have:y*1<=y*(x/y):=Nat.mul_le_mul_left _ hq;omega
 have h2:x%y<y:=Nat.mod_lt _ hy;have h3:x%y*2<=x:=by omega
 have h4:y*(x%y*2)<=y*x:=Nat.mul_le_mul_left _ h3;rw[Nat.mul_assoc,Nat.mul_comm x y];exact h4
theorem EucAt.step {M x y k:Nat}(h:EucAt M x y k)(hy:0<y):EucAt M y (x%y) (k+1):=by
 refine .inr ⟨Nat.mod_lt _ hy,?_⟩;rcases h with⟨rfl,h⟩ |⟨h1,h2⟩
 ·have h3:y*(x%y)<=y*x:=Nat.mul_le_mul_left _ (Nat.mod_le _ _)
  rw[Nat.mul_comm x y] at h;have h4:=Nat.mul_le_mul_right 2 h3;simp only[Nat.zero_add,Nat.pow_one];omega
 have h3:=I5 h1 hy;have h4:y*(x%y)*2*2^k<=x*y*2^k:=Nat.mul_le_mul_right _ h3;rw[Nat.pow_succ,Nat.mul_comm (2^k) 2,<-Nat.mul_assoc];omega
theorem EucAt.done {x y k n:Nat}(h:EucAt (2^n) x y k)(hk:n<k):y=0:=by
 rcases h with⟨rfl,h⟩ |⟨h1,h2⟩
 ·omega
 rcases Nat.eq_zero_or_pos y with h0 |h0
 ·exact h0
 exfalso
 have h3:1<=x*y:=Nat.mul_pos (by omega) h0;have h4:1*2^k<=x*y*2^k:=Nat.mul_le_mul_right _ h3;have h5:2^k<=2^n:=by omega
 have h6:=(Nat.pow_le_pow_iff_right (a:=2) (by omega)).1 h5;omega
theorem Dy (n:Nat):4294967296^n=2^(32*n):=by rw[Nat.pow_mul,show 2^32=4294967296 from rfl]
theorem Sk {a:List Nat}(ha:Ok a){n:Nat}(la:a.length<=n):val a<=2^(32*n):=by
 have h1:=val_lt ha;have h2:=Nat.pow_le_pow_right (n:=4294967296) (by omega) la;rw[Dy n] at h2;exact Nat.le_of_lt (Nat.lt_of_lt_of_le h1 h2)
theorem euc_start {a b:List Nat}{n:Nat}(ha:Ok a)(hb:Ok b)(la:a.length<=n)(lb:b.length<=n):EucAt (2^(32*n+32*n+1)) (val a) (val b) 0:=by
 refine .inl ⟨rfl,?_⟩;have h3:=Nat.mul_le_mul_right 2 (Nat.mul_le_mul (Sk ha la) (Sk hb lb));rw[<-Nat.pow_add,<-Nat.pow_succ] at h3;exact h3
theorem gcd_step (x y:Nat):Nat.gcd y (x%y)=Nat.gcd x y:=by rw[Nat.gcd_comm x y,Nat.gcd_rec y x,Nat.gcd_comm]
theorem gcd_len {a b:List Nat}{n:Nat}(ha:Ok a)(hb:Ok b)(la:a.length<=n)(lb:b.length<=n):(digs (Nat.gcd (val a) (val b))).length<=n:=by
 rcases Nat.eq_zero_or_pos (val a) with h0 |h0
 ·rw[h0,Nat.gcd_zero_left]
  exact Nat.le_trans (digs_len_le hb) lb
 exact Nat.le_trans (len_le ha (Nat.gcd_le_left _ h0)) la
end Nt
namespace Rt
structure Nm where
 neg:Bool
 top:List Nat
 bot:List Nat
deriving DecidableEq
def none_:Nm:=⟨false,[],[]⟩
def nrm (n:Bool)(x:Nat):Bool:=n&& !(x==0)
def mk (n1 n2:Bool)(x y:Nat):Nm×Int:=
 if y=0 then(none_,3)
 else if 32<(Nt.digs (x/Nat.gcd x y)).length\/32<(Nt.digs (y/Nat.gcd x y)).length then(none_,7)
 else(⟨!(x==0)&&(n1 !=n2),Nt.digs (x/Nat.gcd x y),Nt.digs (y/Nat.gcd x y)⟩,0)
def right (a:Nm):Bool:=decide (a.top.length<=32)&&decide (a.bot.length<=32)&&((mk a.neg false (Nt.val a.top) (Nt.val a.bot)).2==0)&&decide ((mk a.neg false (Nt.val a.top) (Nt.val a.bot)).1=a)
theorem mk_nrm (n1 n2:Bool)(x y:Nat):mk (nrm n1 x) (nrm n2 y) x y=mk n1 n2 x y:=by
 unfold mk nrm;by_cases hy:y=0
 ·rw[if_pos hy,if_pos hy]
 rw[if_neg hy,if_neg hy];have e:(!(x==0)&&((n1&& !(x==0))!=(n2&& !(y==0))))=(!(x==0)&&(n1 !=n2)):=by
  have h2:(y==0)=false:=by simpa using hy
  rw[h2];cases (x==0)<;>simp
 rw[e]
theorem div_gcd_zero {x y:Nat}(hy:y≠0):x/Nat.gcd x y=0↔x=0:=by
 have hg:0<Nat.gcd x y:=Nat.gcd_pos_of_pos_right _ (by omega)
 constructor
 ·intro h
  rcases Nat.eq_zero_or_pos x with h0 |h0
  ·exact h0
  have h1:=Nat.le_of_dvd h0 (Nat.gcd_dvd_left x y);have h2:=Nat.div_pos h1 hg;omega
 rintro rfl;simp
theorem right_iff {a:Nm}(ho:Nt.Ok a.top)(ho':Nt.Ok a.bot):right a=true↔a.top.length<=32/\a.bot.length<=32/\Nt.Top a.top/\Nt.Top a.bot/\a.bot≠[]/\(a.top=[]->a.neg=false)/\Nat.gcd (Nt.val a.top) (Nt.val a.bot)=1:=by
 obtain⟨n,t,u⟩:=a;unfold right;simp only[Bool.and_eq_true,decide_eq_true_eq,beq_iff_eq];unfold mk;dsimp only at ho ho'⊢
 constructor
 ·rintro⟨⟨⟨h1,h2⟩,h3⟩,h4⟩
  by_cases hy:Nt.val u=0
  ·rw[if_pos hy] at h3;cases h3
  rw[if_neg hy] at h3 h4;by_cases hl:32<(Nt.digs (Nt.val t/Nat.gcd (Nt.val t) (Nt.val u))).length\/32<(Nt.digs (Nt.val u/Nat.gcd (Nt.val t) (Nt.val u))).length
  ·rw[if_pos hl] at h3;cases h3
  rw[if_neg hl] at h4;injection h4 with e1 e2 e3
  have hg:0<Nat.gcd (Nt.val t) (Nt.val u):=Nat.gcd_pos_of_pos_right _ (by omega);have hu:Nt.val u/Nat.gcd (Nt.val t) (Nt.val u)=Nt.val u:=by
   have:=congrArg Nt.val e3;rwa[Nt.val_digs] at this
  have hgcd:Nat.gcd (Nt.val t) (Nt.val u)=1:=by
   have h5:=Nat.mul_div_cancel' (Nat.gcd_dvd_right (Nt.val t) (Nt.val u));rw[hu] at h5;have h6:Nat.gcd (Nt.val t) (Nt.val u)*Nt.val u=1*Nt.val u:=by rw[h5,Nat.one_mul]
   exact Nat.eq_of_mul_eq_mul_right (by omega) h6
  refine⟨h1,h2,?_,?_,?_,?_,hgcd⟩
  ·rw[<-e2];exact Nt.top_digs _
  ·rw[<-e3];exact Nt.top_digs _
  ·rintro rfl;exact hy rfl
  rintro rfl;rw[<-e1];rfl
 rintro⟨h1,h2,h3,h4,h5,h6,h7⟩;have hy:Nt.val u≠0:=by
  intro h;have:=Nt.digs_val ho' h4;rw[h,Nt.digs_zero] at this;exact h5 this.symm
 rw[if_neg hy,h7,Nat.div_one,Nat.div_one,Nt.digs_val ho h3,Nt.digs_val ho' h4,if_neg (by omega)];refine⟨⟨⟨h1,h2⟩,rfl⟩,?_⟩
 congr 1
 cases hn:n
 ·simp
 by_cases ht:Nt.val t=0
 ·have:=Nt.digs_val ho h3
  rw[ht,Nt.digs_zero] at this;have:=h6 this.symm;rw[hn] at this;cases this
 have:(Nt.val t==0)=false:=by simpa using ht
 rw[this];rfl
end Rt
namespace Ten
open Go Go.Lib
def dch (d:Nat):UInt8:=UInt8.ofNat (48+d)
theorem Gh {d:Nat}(h:d<10):(dch d).toNat=48+d:=by
 unfold dch;rw[UInt8.toNat_ofNat'];omega
theorem dec_small {n:Nat}(h:n<10):decDigits n=[dch n]:=decDigits_one h
theorem dec_big {n:Nat}(h:¬n<10):decDigits n=decDigits (n/10)++[dch (n%10)]:=by
 rw[decDigits,dif_neg h];rfl
theorem Js {q d:Nat}(hq:0<q)(hd:d<10):decDigits (10*q+d)=decDigits q++[dch d]:=by
 rw[dec_big (by omega),show(10*q+d)/10=q by omega,show(10*q+d)%10=d by omega]
theorem dec_ne (n:Nat):decDigits n≠[]:=by
 by_cases h:n<10
 ·rw[dec_small h];simp
 rw[dec_big h];simp
def Tf:Nat->Nat->List UInt8
 | 0,_=>[]
 |k+1,r=>Tf k (r/10)++[dch (r%10)]
theorem Gx {q:Nat}(hq:0<q):∀(k r:Nat),r<10^k->decDigits (q*10^k+r)=decDigits q++Tf k r
 | 0,r,h=>by
  rw[show q*10^0+r=q by simp at h⊢;omega];simp[Tf]
 |k+1,r,h=>by
  have hr:r/10<10^k:=by rw[Nat.pow_succ] at h;omega
  have hp:0<10^k:=Nat.pow_pos (by omega);have e:q*10^(k+1)+r=10*(q*10^k+r/10)+r%10:=by
   rw[Nat.pow_succ,<-Nat.mul_assoc];omega
  rw[e,Js (by have:=Nat.mul_pos hq hp;omega) (by omega),Gx hq k _ hr,Tf,List.append_assoc]
theorem Mp:∀k,Tf k 0=List.replicate k 48
 | 0=>rfl
 |k+1=>by
  rw[Tf,show 0/10=0 from rfl,Mp k,show[dch (0%10)]=List.replicate 1 48 from rfl,List.replicate_append_replicate]
theorem dec_len:∀{k r:Nat},r<10^(k+1)->1<=(decDigits r).length/\(decDigits r).length<=k+1
 | 0,r,h=>by rw[dec_small (by simpa using h)];simp
 |k+1,r,h=>by
  by_cases h10:r<10
  ·rw[dec_small h10];simp
  rw[dec_big h10];have:=dec_len (k:=k) (r:=r/10) (by rw[Nat.pow_succ] at h;omega);simp;omega
theorem Ks:∀{k r:Nat},r<10^(k+1)->Tf (k+1) r=List.replicate (k+1-(decDigits r).length) 48++decDigits r
 | 0,r,h=>by
  have h':r<10:=by simpa using h
  rw[dec_small h',Tf,Tf,Nat.mod_eq_of_lt h'];rfl
 |k+1,r,h=>by
  by_cases h10:r<10
  ·rw[dec_small h10,Tf,Nat.mod_eq_of_lt h10,show r/10=0 by omega,Mp];rfl
  have hr:r/10<10^(k+1):=by rw[Nat.pow_succ] at h;omega
  have hl:=dec_len hr;rw[Tf,Ks hr,dec_big h10,List.append_assoc,List.length_append];rw[show k+1+1-((decDigits (r/10)).length+[dch (r%10)].length)=k+1-(decDigits (r/10)).length by simp]
theorem J5 {q r:Nat}(hq:0<q)(hr:r<1000000000):decDigits (q*1000000000+r)=decDigits q++(List.replicate (9-(decDigits r).length) 48++decDigits r):=by
 have:=Gx hq 9 r (by simpa using hr);rw[Ks (k:=8) (by simpa using hr)] at this;exact this
def numOf (s:List UInt8):Nat:=s.foldl (λn b=>10*n+(b.toNat-48)) 0
def isDig (b:UInt8):Prop:=48<=b.toNat/\b.toNat<=57
def Valid (s:List UInt8):Prop:=s≠[]/\(1<s.length->s.head?≠some 48)/\∀b∈s,isDig b
theorem numOf_snoc (s:List UInt8)(b:UInt8):numOf (s++[b])=10*numOf s+(b.toNat-48):=by
 unfold numOf;rw[List.foldl_append];rfl
theorem Np {d:Nat}(h:d<10):isDig (dch d):=by unfold isDig;rw[Gh h];omega
theorem E0 {b:UInt8}(h:isDig b):dch (b.toNat-48)=b:=by
 obtain⟨h1,h2⟩:=h;apply UInt8.toNat_inj.1
 rw[Gh (by omega)];omega
theorem head_app {a:List UInt8}(b:List UInt8)(h:a≠[]):(a++b).head?=a.head?:=by
 cases a with
 |nil=>exact absurd rfl h
 |cons x r=>rfl
theorem L5:∀(n:Nat),0<n->(decDigits n).head?≠some 48:=by
 intro n
 induction n using Nat.strongRecOn with
 |ind n ih=>
  intro hn;by_cases h:n<10
  ·rw[dec_small h]
   intro e;injection e with e
   have:=congrArg UInt8.toNat e;rw[Gh h] at this;simp at this;omega
  rw[dec_big h,head_app _ (dec_ne _)];exact ih (n/10) (by omega) (by omega)
theorem dec_valid (n:Nat):Valid (decDigits n)/\numOf (decDigits n)=n:=by
 induction n using Nat.strongRecOn with
 |ind n ih=>
  by_cases h:n<10
  ·rw[dec_small h]
   refine⟨⟨by simp,by simp,λb hb=>?_⟩,?_⟩
   ·rw[List.mem_singleton] at hb;subst hb;exact Np h
   unfold numOf;simp[Gh h]
  obtain⟨⟨_,_,hd⟩,hv⟩:=ih (n/10) (by omega);refine⟨⟨dec_ne _,λ_=>L5 n (by omega),λb hb=>?_⟩,?_⟩
  ·rw[dec_big h] at hb
   rcases List.mem_append.1 hb with hb |hb
   ·exact hd b hb
   rw[List.mem_singleton] at hb;subst hb;exact Np (by omega)
  rw[dec_big h,numOf_snoc,hv,Gh (by omega)];omega
theorem Pp:∀(n:Nat) (s:List UInt8),s.length=n->Valid s->decDigits (numOf s)=s
 | 0,s,hl,h=>absurd (List.eq_nil_of_length_eq_zero hl) h.1
 | 1,[b],_,h=>by
  have hb:=h.2.2 b List.mem_cons_self;have e:numOf [b]=b.toNat-48:=by unfold numOf;simp
  rw[e,dec_small (by have:=hb.2;omega),E0 hb]
 |n+2,s,hl,h=>by
  obtain⟨t,b,rfl⟩:∃t b,s=t++[b]:=⟨s.dropLast,s.getLast h.1,(List.dropLast_concat_getLast h.1).symm⟩;have htl:t.length=n+1:=by simpa using hl
  have htn:t≠[]:=by intro e;rw[e] at htl;simp at htl
  have hb:=h.2.2 b (by simp);have hh:t.head?≠some 48:=by
   have:=h.2.1 (by rw[hl];omega);rwa[head_app _ htn] at this
  have ht:Valid t:=⟨htn,λ_=>hh,λc hc=>h.2.2 c (List.mem_append_left _ hc)⟩;have ih:=Pp (n+1) t htl ht;have hpos:0<numOf t:=by
   rcases Nat.eq_zero_or_pos (numOf t) with e |e
   ·rw[e,dec_small (by omega)] at ih
    rw[<-ih] at hh;exact absurd rfl hh
   exact e
  rw[numOf_snoc,Js hpos (by have:=hb.2;omega),ih,E0 hb]
theorem parse_text {s:List UInt8}(h:Valid s):decDigits (numOf s)=s:=Pp _ s rfl h
def OutAt (v y:Nat)(s:List UInt8):Prop:=(0<y->decDigits v=decDigits y++s)/\(y=0->decDigits v=s)
theorem OutAt.start {v:Nat}(h:0<v):OutAt v v []:=⟨λ_=>by simp,λe=>by omega⟩
theorem OutAt.step {v y:Nat}{s:List UInt8}(h:OutAt v y s)(hy:0<y):OutAt v (y/10) (dch (y%10)::s):=by
 have e:=h.1 hy;refine⟨λh1=>?_,λh0=>?_⟩
 ·rw[e,dec_big (n:=y) (by omega),List.append_assoc];rfl
 rw[e,dec_small (by omega),Nat.mod_eq_of_lt (by omega)];rfl
def grp (v i:Nat):Nat:=v/1000000000^i%1000000000
theorem grp_lt (v i:Nat):grp v i<1000000000:=Nat.mod_lt _ (by omega)
theorem Ls (v i:Nat):v/1000000000^(i+1)*1000000000+grp v i=v/1000000000^i:=by
 unfold grp;rw[Nat.pow_succ,<-Nat.div_div_eq_div_mul];omega
theorem div_next (v i:Nat):v/1000000000^i/1000000000=v/1000000000^(i+1):=by rw[Nat.pow_succ,Nat.div_div_eq_div_mul]
theorem grp_top {v i:Nat}(h:v/1000000000^(i+1)=0):decDigits (grp v i)=decDigits (v/1000000000^i):=by
 have:=Ls v i;rw[h] at this;rw[<-this];simp
theorem grp_low {v i:Nat}(h:0<v/1000000000^(i+1)):decDigits (v/1000000000^i)=decDigits (v/1000000000^(i+1))++(List.replicate (9-(decDigits (grp v i)).length) 48++decDigits (grp v i)):=by
 rw[<-J5 h (grp_lt v i),Ls]
end Ten
namespace Dg
open Ten Go
def dB (b:UInt8):Bool:=decide (48<=b.toNat/\b.toNat<=57)
theorem F0 {b:UInt8}:dB b=true↔isDig b:=by simp[dB,isDig]
def lead (s:List UInt8):Nat:=(s.takeWhile dB).length
theorem lead_le (s:List UInt8):lead s<=s.length:=by
 unfold lead
 induction s with
 |nil=>simp
 |cons b r ih=>
  rw[List.takeWhile_cons];cases dB b
  ·simp
  simp at ih⊢;omega
theorem lead_at {s:List UInt8}{k:Nat}(hk:k<s.length)(h:∀i (hi:i<s.length),i<k->dB s[i]=true)(hn:dB s[k]=false):lead s=k:=by
 unfold lead
 induction s generalizing k with
 |nil=>simp at hk
 |cons b r ih=>
  rw[List.takeWhile_cons];cases k with
  |zero=>simp at hn;rw[hn];rfl
  |succ k=>
   have h0:=h 0 (by simp) (by omega);simp at h0;rw[h0];simp only[if_true,List.length_cons];rw[ih (by simpa using hk) (λi hi hik=>by have:=h (i+1) (by simpa using hi) (by omega);simpa using this) (by simpa using hn)]
theorem lead_all {s:List UInt8}(h:∀i (hi:i<s.length),dB s[i]=true):lead s=s.length:=by
 unfold lead
 induction s with
 |nil=>rfl
 |cons b r ih=>
  rw[List.takeWhile_cons];have h0:=h 0 (by simp);simp at h0;rw[h0];simp only[if_true,List.length_cons];rw[ih (λi hi=>by have:=h (i+1) (by simpa using hi);simpa using this)]
theorem lead_dig {s:List UInt8}{k:Nat}(hk:k<lead s):∃h:k<s.length,dB s[k]=true:=by
 have hl:=lead_le s;refine⟨by omega,?_⟩;unfold lead at hk
 induction s generalizing k with
 |nil=>simp at hk
 |cons b r ih=>
  rw[List.takeWhile_cons] at hk;cases hb:dB b
  ·rw[hb] at hk;simp at hk
  rw[hb] at hk;cases k with
  |zero=>simpa using hb
  |succ k=>simpa using ih (by simpa using hk) (lead_le r)
theorem lead_not {s:List UInt8}(h:lead s<s.length):dB s[lead s]=false:=by
 unfold lead at h⊢
 induction s with
 |nil=>simp at h
 |cons b r ih=>
  cases hb:dB b
  ·simp[hb]
  have h':(r.takeWhile dB).length<r.length:=by simpa [List.takeWhile_cons,hb] using h
  have:=ih h';simp only[List.takeWhile_cons,hb,if_true,List.length_cons,List.getElem_cons_succ];exact this
def body (neg:Bool)(t:List UInt8):Rt.Nm×Int:=
 if 400<t.length then(Rt.none_,7)
 else if lead t=0 then(Rt.none_,1)
 else if lead t=t.length then Rt.mk neg false (numOf t) 1
 else if t.length=lead t+1\/lead (t.drop (lead t+1))<t.length-(lead t+1) then(Rt.none_,1)
 else if t.getD (lead t) 0=114 then Rt.mk neg false (numOf (t.take (lead t))) (numOf (t.drop (lead t+1)))
 else if t.getD (lead t) 0=46 then Rt.mk neg false (numOf (t.take (lead t)++t.drop (lead t+1))) (10^(t.length-(lead t+1)))
 else(Rt.none_,1)
def parse:List UInt8->Rt.Nm×Int
 | 194::175::t=>body true t
 |t=>body false t
def print (n:Rt.Nm):List UInt8:=(if n.neg then[194,175] else[])++(Lib.decDigits (Nt.val n.top)++if n.bot=[1] then[] else 114::Lib.decDigits (Nt.val n.bot))
theorem dec_dB (n i:Nat)(hi:i<(Lib.decDigits n).length):dB (Lib.decDigits n)[i]=true:=F0.2 ((dec_valid n).1.2.2 _ (List.getElem_mem hi))
theorem dec_pos (n:Nat):0<(Lib.decDigits n).length:=List.length_pos_iff.2 (dec_ne n)
theorem mk_right {n:Rt.Nm}(h:Rt.right n=true):Rt.mk n.neg false (Nt.val n.top) (Nt.val n.bot)=(n,0):=by
 unfold Rt.right at h;simp only[Bool.and_eq_true,decide_eq_true_eq,beq_iff_eq] at h;obtain⟨⟨_,h1⟩,h2⟩:=h;exact Prod.ext h2 h1
theorem body_print {n:Rt.Nm}(h:Rt.right n=true)(hl:(Lib.decDigits (Nt.val n.top)++if n.bot=[1] then[] else 114::Lib.decDigits (Nt.val n.bot)).length<=400):
 body n.neg (Lib.decDigits (Nt.val n.top)++if n.bot=[1] then[] else 114::Lib.decDigits (Nt.val n.bot))=(n,0):=by
 have hm:=mk_right h;have hp:=dec_pos (Nt.val n.top);by_cases hb:n.bot=[1]
 ·rw[if_pos hb] at hl⊢
  rw[List.append_nil] at hl⊢;unfold body;rw[if_neg (by omega),lead_all (dec_dB _),if_neg (by omega),if_pos rfl,(dec_valid _).2];rw[hb] at hm;exact hm
 rw[if_neg hb] at hl⊢;have hld:lead (Lib.decDigits (Nt.val n.top)++114::Lib.decDigits (Nt.val n.bot))=(Lib.decDigits (Nt.val n.top)).length:=by
  refine lead_at (by simp) (λi hi hik=>?_) ?_
  ·rw[List.getElem_append_left hik];exact dec_dB _ _ _
  rw[List.getElem_append_right Lr];simp;decide
 have hq:=dec_pos (Nt.val n.bot);unfold body;rw[hld];rw[if_neg (by omega),if_neg (by omega),if_neg (by simp)];have e1:(Lib.decDigits (Nt.val n.top)++114::Lib.decDigits (Nt.val n.bot)).drop ((Lib.decDigits (Nt.val n.top)).length+1)=Lib.decDigits (Nt.val n.bot):=by
  rw[List.drop_append];simp
 have e2:(Lib.decDigits (Nt.val n.top)++114::Lib.decDigits (Nt.val n.bot)).getD (Lib.decDigits (Nt.val n.top)).length 0=114:=by
  rw[List.getD_eq_getElem?_getD,List.getElem?_append_right Lr];simp
 have e3:(Lib.decDigits (Nt.val n.top)++114::Lib.decDigits (Nt.val n.bot)).take (Lib.decDigits (Nt.val n.top)).length=Lib.decDigits (Nt.val n.top):=by simp
 rw[e1,e2,e3,lead_all (dec_dB _),if_neg (by simp only[List.length_append,List.length_cons,not_or];omega),if_pos rfl,(dec_valid _).2,(dec_valid _).2];exact hm
theorem parse_body {t:List UInt8}(h:t.head?≠some 194):parse t=body false t:=by
 unfold parse
 split
 ·simp at h
 rfl
theorem parse_print {n:Rt.Nm}(h:Rt.right n=true)(hl:(print n).length<=400):parse (print n)=(n,0):=by
 unfold print at hl⊢;cases hn:n.neg
 ·rw[hn] at hl
  simp only[Bool.false_eq_true,if_false,List.nil_append] at hl⊢;rw[parse_body,<-hn]
  ·exact body_print h hl
  rw[head_app _ (dec_ne _)];intro e;have h1:=(dec_valid (Nt.val n.top)).1;obtain⟨b,r,hbr⟩:=List.exists_cons_of_ne_nil (dec_ne (Nt.val n.top));rw[hbr] at e h1;simp at e;have:=h1.2.2 b (by simp);rw[e] at this;simp[isDig] at this
 rw[hn] at hl;simp only[if_true] at hl⊢;have:=body_print h (by simp at hl⊢;omega);rw[hn] at this;exact this
theorem Mm (s:List UInt8):numOf (48::s)=numOf s:=by simp[numOf]
theorem numOf_zeros:∀k,numOf (49::List.replicate k 48)=10^k
 | 0=>rfl
 |k+1=>by
  rw[List.replicate_succ',<-List.cons_append,numOf_snoc,numOf_zeros k,Nat.pow_succ,Nat.mul_comm];rfl
theorem numOf_lt:∀(n:Nat) (t:List UInt8),t.length=n->(∀b∈t,isDig b)->numOf t<10^n
 | 0,t,h,_=>by rw[List.eq_nil_of_length_eq_zero h];decide
 |n+1,t,h,hd=>by
  have hne:t≠[]:=by rintro rfl;cases h
  obtain⟨r,b,rfl⟩:∃r b,t=r++[b]:=⟨t.dropLast,t.getLast hne,(List.dropLast_concat_getLast hne).symm⟩;have h1:=numOf_lt n r (by simpa using h) (λx hx=>hd x (by simp[hx]));have h2:isDig b:=hd b (by simp);rw[numOf_snoc,Nat.pow_succ];unfold isDig at h2;omega
theorem M5 (m:Nat):10^(9*m)<=4294967296^m:=by rw[Nat.pow_mul];exact Nat.pow_le_pow_left (by decide) m
theorem limbs_le {t:List UInt8}(hd:∀b∈t,isDig b)(m:Nat)(h:t.length<=9*m):(Nt.digs (numOf t)).length<=m:=
 Nt.digs_len_lt (Nat.lt_of_lt_of_le (numOf_lt _ t rfl hd) (Nat.le_trans (Nat.pow_le_pow_right (by omega) h) (M5 m)))
theorem limbs_ten {k:Nat}(m:Nat)(h:k+1<=9*m):(Nt.digs (10^k)).length<=m:=by
 rw[<-numOf_zeros];refine limbs_le (λb hb=>?_) m (by simpa using h);rcases List.mem_cons.1 hb with rfl |hb
 ·simp[isDig]
 rw[List.eq_of_mem_replicate hb];simp[isDig]
theorem numOf_drop:∀{k:Nat} {s:List UInt8},(∀i (hi:i<s.length),i<k->s[i]=48)->k<=s.length->numOf (s.drop k)=numOf s
 | 0,s,_,_=>by simp
 |k+1,[],_,h=>by simp at h
 |k+1,b::r,hz,h=>by
  have h0:=hz 0 (by simp) (by omega);simp at h0;subst h0;rw[List.drop_succ_cons,Mm];exact numOf_drop (λi hi hik=>by have:=hz (i+1) (by simpa using hi) (by omega);simpa using this) (by simpa using h)
theorem valid_drop {s:List UInt8}{k:Nat}(hd:∀b∈s,isDig b)(hk:k<s.length)(h:k+1<s.length->s[k]≠48):Valid (s.drop k):=by
 refine⟨by simp;omega,λhl=>?_,λb hb=>hd b (List.mem_of_mem_drop hb)⟩;have h1:=h (by simp at hl;omega);rw[List.drop_eq_getElem_cons hk];intro e;rw[List.head?_cons] at e;exact h1 (Option.some.inj e)
def strip (s:List UInt8):List UInt8:=s.dropWhile (· ==48)
theorem Mf (b:UInt8)(r:List UInt8):strip (b::r)=if b=48 then strip r else b::r:=by
 unfold strip;by_cases h:b=48
 ·subst h;simp
 rw[if_neg h,List.dropWhile_cons,if_neg (by simpa using h)]
theorem numOf_strip:∀s:List UInt8,numOf (strip s)=numOf s
 | []=>rfl
 |b::r=>by
  rw[Mf];by_cases h:b=48
  ·subst h;rw[if_pos rfl,numOf_strip r,Mm]
  rw[if_neg h]
theorem Qp:∀{s:List UInt8} {b:UInt8},b∈strip s->b∈s
 | [],_,h=>h
 |x::r,b,h=>by
  rw[Mf] at h;by_cases e:x=48
  ·rw[if_pos e] at h;exact List.mem_cons_of_mem _ (Qp h)
  rw[if_neg e] at h;exact h
theorem strip_len:∀s:List UInt8,(strip s).length<=s.length
 | []=>Lr
 |x::r=>by
  rw[Mf];by_cases e:x=48
  ·rw[if_pos e];have:=strip_len r;simp;omega
  rw[if_neg e];exact Lr
theorem Om:∀s:List UInt8,(strip s).head?≠some 48
 | []=>by simp[strip]
 |x::r=>by
  rw[Mf];by_cases e:x=48
  ·rw[if_pos e];exact Om r
  rw[if_neg e];simpa using e
theorem strip_valid {s:List UInt8}(hd:∀b∈s,isDig b)(h:strip s≠[]):Valid (strip s):=
 ⟨h,λ_=>Om s,λb hb=>hd b (Qp hb)⟩
theorem strip_nil {s:List UInt8}(h:strip s=[]):numOf s=0:=by rw[<-numOf_strip,h];rfl
theorem lead_take {s:List UInt8}:∀b∈s.take (lead s),isDig b:=λb hb=>by
 obtain⟨i,hi,rfl⟩:=List.mem_iff_getElem.1 hb;rw[List.getElem_take];have hi':i<lead s:=by simp at hi;omega
 obtain⟨h1,h2⟩:=lead_dig hi';exact F0.1 h2
theorem lead_full {s:List UInt8}(h:lead s=s.length):∀b∈s,isDig b:=λb hb=>by
 have:=lead_take (s:=s) b;rw[h,List.take_length] at this;exact this hb
end Dg
namespace Go.Proofs.YtogjgbmngagimaaGreatDoor
open Go.RowKit
def U (l:List Nat):List Value:=l.map λn:Nat=>Value.int .u32 (n:Int)
theorem Nba {l:List Nat}{i:Nat}(h:i<l.length):(U l)[i]'(by simpa [U] using h)= .int .u32 ((l[i]:Nat):Int):=by simp[U]
theorem Dc (l:List Nat):(U l).length=l.length:=by simp[U]
theorem Lies.limb {w:World}{B:Nat}{A:Option Addr}{l:List Nat}(h:Lies w B A (U l)){k:Nat}(hk:k<l.length):
 ∃b off,A=some ⟨b,off,none⟩/\b<B/\w.cell? ⟨b,off+k,none⟩=some (.int .u32 ((l[k]:Nat):Int)):=by
 obtain⟨b,off,hA,hb,hc⟩:=h.at_ (k:=k) (by rw[Dc];exact hk);rw[Nba hk] at hc;exact⟨b,off,hA,hb,hc⟩
theorem Wb (A:Option Addr)(c B:Nat)(l:List Nat)(w:World)(hl:Lies w B A (U l))(ho:Nt.Ok l)(hc:l.length<=c)(hm:c<=9223372036854775807):
 Calls Tryz.prog 165 #[.slice A l.length c] w λe w'=>e= .returned (.slice A (Nt.digs (Nt.val l)).length (Nt.digs (Nt.val l)).length)/\w=w':=by
 have HL:=Qd hl;have HO:=Qd ho;clear hl ho;go_enter Tryz.func165,Tryz.ntmps165
 go_wp2_with fail
 go_loop [3] (λi=>∃n:Nat,n<=l.length/\i= .int .i64 (n:Int)/\Hid (∀j (hj:j<l.length),n<=j->l[j]=0)) (λi=>(intOf i).toNat)
 case atStart=>exact⟨l.length,Lr,rfl,Qd (λj hj h=>absurd hj (by omega))⟩
 case round=>
  obtain⟨n,hn,rfl,H⟩:=hrel;by_cases h0:0<n
  ·obtain⟨b,off,rfl,_,hcell⟩:=HL.out.limb (k:=n-1) (by omega)
   generalize hx:l[n-1]'(by omega)=x at hcell;have HX:=Qd hx;have hxb:x<4294967296:=by rw[<-hx];exact Nt.ok_get HO.out (by omega)
   clear hx;have hpos:(0:Int)<(n:Int):=by omega
   by_cases hz:x=0
   ·subst hz
    go_wp2_with fail
    go_round
    case rel=>
     refine⟨n-1,by omega,by go_num,Qd (λj hj h=>?_)⟩;by_cases e:j=n-1
     ·subst e;exact HX.out
     exact H.out j hj (by omega)
    case measure=>simp[intOf];omega
   have hne:((x:Int)==0)=false:=by simp;omega
   have HE:Hid ((Nt.digs (Nt.val l)).length=n):=by
    have:=Nt.take_eq_digs HO.out hn H.out (λ_=>by rw[HX.out];exact hz);rw[<-this,List.length_take];exact Nat.min_eq_left hn
   clear hz;go_wp2_with fail
   go_ret;exact⟨by rw[HE.out];rfl,rfl⟩
  obtain rfl:n=0:=by omega
  have HE:Hid ((Nt.digs (Nt.val l)).length=0):=Qd (by
   have:=Nt.take_eq_digs HO.out hn H.out (λh=>absurd h (by omega));rw[<-this];simp)
  go_wp2_with fail
  go_ret;exact⟨by rw[HE.out];rfl,rfl⟩
theorem Vc (A:Option Addr)(c B:Nat)(l:List Nat)(i:Nat)(w:World)(hl:Lies w B A (U l))(hc:l.length<=c)(hm:c<=9223372036854775807)(hi:i<=9223372036854775807)(ho:Nt.Ok l):
 Calls Tryz.prog 291 #[.slice A l.length c,.int .i64 (i:Int)] w λe w'=>e= .returned (.int .u64 ((l.getD i 0:Nat):Int))/\w=w':=by
 by_cases hlt:i<l.length
 ·obtain⟨b,off,rfl,_,hcell⟩:=hl.limb hlt
  have HG:Hid (l.getD i 0=l[i]):=Qd (by simp[List.getD_eq_getElem?_getD,hlt]);have hb:=Nt.ok_get ho hlt;clear hl ho;generalize l[i]=x at hcell HG hb;go_enter Tryz.func291,Tryz.ntmps291
  go_wp2_with fail
  go_ret;exact⟨Wa (by rw[HG.out]),rfl⟩
 have HG:Hid (l.getD i 0=0):=Qd (by rw[List.getD_eq_getElem?_getD,List.getElem?_eq_none (by omega)];rfl);clear hl ho;go_enter Tryz.func291,Tryz.ntmps291
 go_wp2_with fail
 go_ret;exact⟨Wa (by rw[HG.out];rfl),rfl⟩
theorem Wd (A A':Option Addr)(n n' c c':Nat)(w:World)(hc:n<=9223372036854775807)(hc':n'<=9223372036854775807):
 Calls Tryz.prog 290 #[.slice A n c,.slice A' n' c'] w λe w'=>e= .returned (.int .i64 ((max n n':Nat):Int))/\w=w':=by
 by_cases h:n'<n
 ·have HG:Hid (max n n'=n):=Qd (by omega)
  go_enter Tryz.func290,Tryz.ntmps290
  go_wp2_with fail
  go_ret;exact⟨Wa (by rw[HG.out]),rfl⟩
 have HG:Hid (max n n'=n'):=Qd (by omega);go_enter Tryz.func290,Tryz.ntmps290
 go_wp2_with fail
 go_ret;exact⟨Wa (by rw[HG.out]),rfl⟩
theorem Kv (w:World)(a b c:Nat):∃n,((w.drewN a).drewN b).drewN c=w.drewN n:=⟨a+b+c,by rw[World.drewN_drewN,World.drewN_drewN,Nat.add_assoc]⟩
theorem R8 (A A':Option Addr)(c c' B:Nat)(a b:List Nat)(w:World)(hx:Lies w B A (U a))(hy:Lies w B A' (U b))(ha:Nt.Ok a)(hb:Nt.Ok b)
 (hc:a.length<=c) (hc':b.length<=c') (hm:c<=9223372036854775807) (hm':c'<=9223372036854775807):
 Calls Tryz.prog 283 #[.slice A a.length c,.slice A' b.length c'] w λe w'=>e= .returned (.int .i64 (Nt.cmp (Nt.val a) (Nt.val b)))/\∃n,w'=w.drewN n:=by
 have ha':=Nt.digs_len_le ha;have hb':=Nt.digs_len_le hb;have HTA:Hid (a.take (Nt.digs (Nt.val a)).length=Nt.digs (Nt.val a)):=Qd (Nt.take_digs ha);have HTB:Hid (b.take (Nt.digs (Nt.val b)).length=Nt.digs (Nt.val b)):=Qd (Nt.take_digs hb);have HX:Hid (Lies w B A (U (Nt.digs (Nt.val a)))):=by
  have:=hx.take (Nt.digs (Nt.val a)).length;rw[show(U a).take (Nt.digs (Nt.val a)).length=U (a.take (Nt.digs (Nt.val a)).length) from List.map_take.symm,HTA.out] at this;exact this
 have HY:Hid (Lies w B A' (U (Nt.digs (Nt.val b)))):=by
  have:=hy.take (Nt.digs (Nt.val b)).length;rw[show(U b).take (Nt.digs (Nt.val b)).length=U (b.take (Nt.digs (Nt.val b)).length) from List.map_take.symm,HTB.out] at this;exact this
 have hta:=Wb A c B a w hx ha hc hm;have htb:=Wb A' c' B b w hy hb hc' hm';have TA:=Qd hta;have TB:=Qd htb;have HVA:=Qd (Nt.val_digs (Nt.val a));have HVB:=Qd (Nt.val_digs (Nt.val b));have HOA:=Qd (Nt.ok_digs (Nt.val a));have HOB:=Qd (Nt.ok_digs (Nt.val b));have HLT:=Qd (λh=>Nt.digs_len_mono (x:=Nt.val a) (y:=Nt.val b) h);have HGT:=Qd (λh=>Nt.digs_len_mono (x:=Nt.val b) (y:=Nt.val a) h);clear hx hy hta htb HTA HTB;generalize Nt.val a=x at*;generalize Nt.val b=y at*;generalize Nt.digs x=da at*;generalize Nt.digs y=db at*;by_cases h1:da.length<db.length
 ·have HE:=Qd (Nt.cmp_lt (HLT.out h1))
  go_enter Tryz.func283,Tryz.ntmps283
  go_wp2_with fail
  refine TA.out.mono ?_;rintro e w' ⟨rfl,rfl⟩;go_wp2_with fail
  refine TB.out.mono ?_;rintro e w' ⟨rfl,rfl⟩;go_wp2_with fail
  go_ret;exact⟨by rw[HE.out];rfl,0,rfl⟩
 by_cases h2:db.length<da.length
 ·have HE:=Qd (Nt.cmp_gt (HGT.out h2))
  go_enter Tryz.func283,Tryz.ntmps283
  go_wp2_with fail
  refine TA.out.mono ?_;rintro e w' ⟨rfl,rfl⟩;go_wp2_with fail
  refine TB.out.mono ?_;rintro e w' ⟨rfl,rfl⟩;go_wp2_with fail
  go_ret;exact⟨by rw[HE.out];rfl,0,rfl⟩
 have hlen:da.length<=db.length:=by omega
 have hlen':db.length<=da.length:=by omega
 go_enter Tryz.func283,Tryz.ntmps283
 go_wp2_with fail
 refine TA.out.mono ?_;rintro e w' ⟨rfl,rfl⟩;go_wp2_with fail
 refine TB.out.mono ?_;rintro e w' ⟨rfl,rfl⟩;go_wp2_with fail
 go_loopw [5] (λi wr=>∃k m:Nat,wr=w.drewN m/\k<=da.length/\i= .int .i64 ((k:Int)-1)/\Hid (da.drop k=db.drop k)) (λi _=>(intOf i+1).toNat)
 case atStart=>exact⟨da.length,0,rfl,Lr,by go_num,Qd (by rw[List.drop_length,List.drop_eq_nil_of_le hlen'])⟩
 case round=>
  obtain⟨k,m,rfl,hk,rfl,H⟩:=hrel;rcases k with _ |k
  ·have HE:Hid (Nt.cmp x y=0):=Qd (by
    have h:=H.out;rw[List.drop_zero,List.drop_zero] at h;rw[<-HVA.out,<-HVB.out,h];exact Nt.cmp_eq _)
   go_wp2_with fail
   go_ret;exact⟨by rw[HE.out];rfl,_,rfl⟩
  have hlt:k<da.length:=by omega
  have hlt':k<db.length:=by omega
  obtain⟨b1,off1,rfl,_,hc1⟩:=HX.out.limb hlt;obtain⟨b2,off2,rfl,_,hc2⟩:=HY.out.limb hlt';have P1:Hid (da[k]<db[k]->Nt.cmp x y= -1):=Qd (λh=>by
   have:=Nt.val_lt_of HOA.out hlt hlt' H.out h;rw[HVA.out,HVB.out] at this;exact Nt.cmp_lt this)
  have P2:Hid (db[k]<da[k]->Nt.cmp x y=1):=Qd (λh=>by
   have:=Nt.val_lt_of HOB.out hlt' hlt H.out.symm h;rw[HVA.out,HVB.out] at this;exact Nt.cmp_gt this)
  have P3:Hid (da[k]=db[k]->da.drop k=db.drop k):=Qd (λh=>by
   rw[List.drop_eq_getElem_cons hlt,List.drop_eq_getElem_cons hlt',H.out,h])
  generalize da[k]=d1 at hc1 P1 P2 P3;generalize db[k]=d2 at hc2 P1 P2 P3;have hk1:((k+1:Nat):Int)-1=(k:Int):=by omega
  rw[hk1];clear hk1;rcases Nat.lt_trichotomy d1 d2 with h |h |h
  ·have HE:=Qd (P1.out h)
   go_wp2_with fail
   go_quiet (fail)
   go_wp2_with fail
   go_ret;exact⟨by rw[HE.out];rfl,_,World.drewN_drewN _ _ _⟩
  ·have HE:=Qd (P3.out h)
   subst h;go_wp2_with fail
   go_quiet (fail)
   go_wp2_with fail
   go_quiet (fail)
   go_wp2_with fail
   go_roundw
   case rel=>exact⟨k,_,rfl,by omega,by go_num,Qd HE.out⟩
   case measure=>first|(simp[intOf];done) |(simp[intOf];omega)
  have HE:=Qd (P2.out h);go_wp2_with fail
  go_quiet (fail)
  go_wp2_with fail
  go_quiet (fail)
  go_wp2_with fail
  go_ret;exact⟨by rw[HE.out];rfl,Kv _ _ _ _⟩
theorem Ey (A A':Option Addr)(c c' B:Nat)(a b:List Nat)(w:World)(hx:Lies w B A (U a))(hy:Lies w B A' (U b))(ha:Nt.Ok a)(hb:Nt.Ok b)
 (hc:a.length<=c) (hc':b.length<=c') (hm:c<=9223372036854775807) (hm':c'<=9223372036854775807):
 Calls Tryz.prog 318 #[.slice A a.length c,.slice A' b.length c'] w λe w'=>e= .returned (.int .i64 (Nt.cmp (Nt.val a) (Nt.val b)))/\w=w':=by
 obtain⟨n,hn⟩:∃n,n=max a.length b.length:=⟨_,rfl⟩;have hna:a.length<=n:=by omega
 have hnb:b.length<=n:=by omega
 have hnm:n<=9223372036854775807:=by omega
 have HN:=Qd hn;have LA:=Qd (λi hi=>Vc A c B a i w hx hc hm hi ha);have LB:=Qd (λi hi=>Vc A' c' B b i w hy hc' hm' hi hb);have PA:=Qd (Nt.pad_len hna);have PB:=Qd (Nt.pad_len hnb);have GA:=Qd (λi (hi:i<(Nt.pad a n).length)=>Nt.pad_get hi);have GB:=Qd (λi (hi:i<(Nt.pad b n).length)=>Nt.pad_get hi);have HVA:=Qd (Nt.val_pad a n);have HVB:=Qd (Nt.val_pad b n);have HOA:=Qd (Nt.ok_pad ha n);have HOB:=Qd (Nt.ok_pad hb n);clear hx hy ha hb hn;generalize Nt.val a=x at*;generalize Nt.val b=y at*;generalize Nt.pad a n=da at*;generalize Nt.pad b n=db at*;go_enter Tryz.func318,Tryz.ntmps318
 go_wp2_with fail
 refine(Wd A A' a.length b.length c c' _ (by omega) (by omega)).mono ?_;rintro e w' ⟨rfl,rfl⟩;rw[<-HN.out];go_wp2_with fail
 go_loop [5] (λi=>∃k:Nat,k<=n/\i= .int .i64 ((k:Int)-1)/\Hid (da.drop k=db.drop k)) (λi=>(intOf i+1).toNat)
 case atStart=>exact⟨n,Lr,by go_num,Qd (by rw[List.drop_eq_nil_of_le (by rw[PA.out];omega),List.drop_eq_nil_of_le (by rw[PB.out];omega)])⟩
 case round=>
  obtain⟨k,hk,rfl,H⟩:=hrel;rcases k with _ |k
  ·have HE:Hid (Nt.cmp x y=0):=Qd (by
    have h:=H.out;rw[List.drop_zero,List.drop_zero] at h;rw[<-HVA.out,<-HVB.out,h];exact Nt.cmp_eq _)
   go_wp2_with fail
   go_ret;exact⟨by rw[HE.out];rfl,rfl⟩
  have hlt:k<da.length:=by rw[PA.out];omega
  have hlt':k<db.length:=by rw[PB.out];omega
  have P1:Hid (a.getD k 0<b.getD k 0->Nt.cmp x y= -1):=Qd (λh=>by
   rw[<-GA.out k hlt,<-GB.out k hlt'] at h;have:=Nt.val_lt_of HOA.out hlt hlt' H.out h;rw[HVA.out,HVB.out] at this;exact Nt.cmp_lt this)
  have P2:Hid (b.getD k 0<a.getD k 0->Nt.cmp x y=1):=Qd (λh=>by
   rw[<-GA.out k hlt,<-GB.out k hlt'] at h;have:=Nt.val_lt_of HOB.out hlt' hlt H.out.symm h;rw[HVA.out,HVB.out] at this;exact Nt.cmp_gt this)
  have P3:Hid (a.getD k 0=b.getD k 0->da.drop k=db.drop k):=Qd (λh=>by
   rw[<-GA.out k hlt,<-GB.out k hlt'] at h;rw[List.drop_eq_getElem_cons hlt,List.drop_eq_getElem_cons hlt',H.out,h])
  have CA:=Qd (LA.out k (by omega));have CB:=Qd (LB.out k (by omega));clear hlt hlt';generalize a.getD k 0=d1 at P1 P2 P3 CA;generalize b.getD k 0=d2 at P1 P2 P3 CB;have hk1:((k+1:Nat):Int)-1=(k:Int):=by omega
  rw[hk1];clear hk1;rcases Nat.lt_trichotomy d1 d2 with h |h |h
  ·have HE:=Qd (P1.out h)
   go_wp2_with fail
   refine CA.out.mono ?_;rintro e w' ⟨rfl,rfl⟩;go_wp2_with fail
   refine CB.out.mono ?_;rintro e w' ⟨rfl,rfl⟩;go_wp2_with fail
   go_ret;exact⟨by rw[HE.out];rfl,rfl⟩
  ·have HE:=Qd (P3.out h)
   subst h;go_wp2_with fail
   refine CA.out.mono ?_;rintro e w' ⟨rfl,rfl⟩;go_wp2_with fail
   refine CB.out.mono ?_;rintro e w' ⟨rfl,rfl⟩;go_wp2_with fail
   refine CA.out.mono ?_;rintro e w' ⟨rfl,rfl⟩;go_wp2_with fail
   refine CB.out.mono ?_;rintro e w' ⟨rfl,rfl⟩;go_wp2_with fail
   go_round
   case rel=>exact⟨k,by omega,by go_num,Qd HE.out⟩
   case measure=>first|(simp[intOf];done) |(simp[intOf];omega)
  have HE:=Qd (P2.out h);go_wp2_with fail
  refine CA.out.mono ?_;rintro e w' ⟨rfl,rfl⟩;go_wp2_with fail
  refine CB.out.mono ?_;rintro e w' ⟨rfl,rfl⟩;go_wp2_with fail
  refine CA.out.mono ?_;rintro e w' ⟨rfl,rfl⟩;go_wp2_with fail
  refine CB.out.mono ?_;rintro e w' ⟨rfl,rfl⟩;go_wp2_with fail
  go_ret;exact⟨by rw[HE.out];rfl,rfl⟩
end Go.Proofs.YtogjgbmngagimaaGreatDoor
