/- Texts of this proof, joined. -/
import Derived.Test.YtceplkpjnebnfaaGreatDoorM5
import Derived.Deep.MidRow
import Derived.Shelf.Abstract
set_option linter.all false
set_option maxHeartbeats 8000000
set_option maxRecDepth 100000
namespace Go.Proofs.YtceplkpjnebnfaaGreatDoor
section
open Go.RowKit Tr
def Qa (k o:Int)(m:List UInt8)(n:Rt.Nm)(t:List Int)(len:Nat)(A1 A2 A3 A4:Option Addr)(c1 c2 c3 c4:Nat):List Value:=
 [.int .i64 k,.int .i64 o,.string ⟨m.toArray⟩,.bool n.neg,.slice A1 n.top.length c1,.slice A2 n.bot.length c2,.slice A3 t.length c3,.slice A4 len c4]
structure Own (w:World) (B:Nat) (k o:Int) (m:List UInt8) (n:Rt.Nm) (t:List Int) (len:Nat) (A1 A2 A3 A4:Option Addr) (c1 c2 c3 c4:Nat):Prop where
 wk:Jd [k,o]
 ms:m.length<=140737488355328
 f1:Fits n.top.length c1 4
 f2:Fits n.bot.length c2 4
 f3:Fits t.length c3 8
 f4:Fits len c4 136
 o1:Nt.Ok n.top
 o2:Nt.Ok n.bot
 wt:Jd t
 l1:Lies w B A1 (U n.top)
 l2:Lies w B A2 (U n.bot)
 l3:Lies w B A3 (Sa t)
 n1:A1=none->c1=0
 n2:A2=none->c2=0
theorem Own.keep {w w':World}{B B':Nat}{k o:Int}{m:List UInt8}{n:Rt.Nm}{t:List Int}{len:Nat}{A1 A2 A3 A4:Option Addr}{c1 c2 c3 c4:Nat}(hk:∀p:Addr,p.block<B->w'.cell? p=w.cell? p)(hB:B<=B')(h:Own w B k o m n t len A1 A2 A3 A4 c1 c2 c3 c4):Own w' B' k o m n t len A1 A2 A3 A4 c1 c2 c3 c4:=
 ⟨h.wk,h.ms,h.f1,h.f2,h.f3,h.f4,h.o1,h.o2,h.wt,(h.l1.keep hk).more hB,(h.l2.keep hk).more hB,(h.l3.keep hk).more hB,h.n1,h.n2⟩
mutual
def IsTree (w:World)(B:Nat):Tree->List Value->Prop
 | .mk k o m n t l,vs=>∃A1 A2 A3 A4 c1 c2 c3 c4 us,vs=Qa k o m n t l.length A1 A2 A3 A4 c1 c2 c3 c4/\Own w B k o m n t l.length A1 A2 A3 A4 c1 c2 c3 c4/\Lies w B A4 us/\IsTrees w B l us
def IsTrees (w:World)(B:Nat):List Tree->List Value->Prop
 | [],vs=>vs=[]
 |c::r,vs=>∃u t,vs=u++t/\IsTree w B c u/\IsTrees w B r t
end
theorem IsTree.len {w:World}{B:Nat}{a:Tree}{vs:List Value}(h:IsTree w B a vs):vs.length=8:=by
 cases a;rw[IsTree] at h;obtain⟨A1,A2,A3,A4,c1,c2,c3,c4,us,rfl,_⟩:=h;rfl
mutual
theorem IsTree.keep {w w':World}{B B':Nat}(hk:∀p:Addr,p.block<B->w'.cell? p=w.cell? p)(hB:B<=B'):∀(a:Tree) (vs:List Value),IsTree w B a vs->IsTree w' B' a vs
 | .mk k o m n t l,vs,h=>by
  rw[IsTree] at h⊢;obtain⟨A1,A2,A3,A4,c1,c2,c3,c4,us,h1,h2,h3,h4⟩:=h;exact⟨A1,A2,A3,A4,c1,c2,c3,c4,us,h1,h2.keep hk hB,(h3.keep hk).more hB,IsTrees.keep hk hB l us h4⟩
theorem IsTrees.keep {w w':World}{B B':Nat}(hk:∀p:Addr,p.block<B->w'.cell? p=w.cell? p)(hB:B<=B'):∀(a:List Tree) (vs:List Value),IsTrees w B a vs->IsTrees w' B' a vs
 | [],vs,h=>by rw[IsTrees] at h⊢;exact h
 |c::r,vs,h=>by
  rw[IsTrees] at h⊢;obtain⟨u,t,h1,h2,h3⟩:=h;exact⟨u,t,h1,IsTree.keep hk hB c u h2,IsTrees.keep hk hB r t h3⟩
end
theorem IsTree.below {w w':World}{B:Nat}{a:Tree}{vs:List Value}(h:IsTree w B a vs)(hb:Below B w w'):IsTree w' B a vs:=IsTree.keep (λ_ hp=>hb.cell hp) Lr a vs h
theorem IsTree.more {w:World}{B B':Nat}{a:Tree}{vs:List Value}(h:IsTree w B a vs)(hB:B<=B'):IsTree w B' a vs:=IsTree.keep (λ_ _=>rfl) hB a vs h
theorem IsTrees.below {w w':World}{B:Nat}{a:List Tree}{vs:List Value}(h:IsTrees w B a vs)(hb:Below B w w'):IsTrees w' B a vs:=IsTrees.keep (λ_ hp=>hb.cell hp) Lr a vs h
theorem IsTrees.more {w:World}{B B':Nat}{a:List Tree}{vs:List Value}(h:IsTrees w B a vs)(hB:B<=B'):IsTrees w B' a vs:=IsTrees.keep (λ_ _=>rfl) hB a vs h
theorem IsTrees.at_ {w:World}{B:Nat}:∀{cs:List Tree} {vs:List Value} (h:IsTrees w B cs vs) {k:Nat} (hk:k<cs.length),∃u,IsTree w B cs[k] u/\u=(vs.drop (8*k)).take 8
 | [],_,_,_,hk=>by simp at hk
 |c::r,vs,h,0,_=>by
  rw[IsTrees] at h;obtain⟨u,t,rfl,h2,h3⟩:=h;exact⟨u,h2,by simp[h2.len]⟩
 |c::r,vs,h,k+1,hk=>by
  rw[IsTrees] at h;obtain⟨u,t,rfl,h2,h3⟩:=h;obtain⟨u',h4,h5⟩:=h3.at_ (k:=k) (by simpa using hk);refine⟨u',h4,h5.trans ?_⟩;rw[show 8*(k+1)=u.length+8*k by rw[h2.len];omega,List.drop_append,List.drop_eq_nil_of_le (Nat.le_add_right _ _),Nat.add_sub_cancel_left,List.nil_append]
theorem IsTrees.len {w:World}{B:Nat}:∀{cs:List Tree} {vs:List Value} (h:IsTrees w B cs vs),vs.length=8*cs.length
 | [],_,h=>by rw[IsTrees] at h;subst h;rfl
 |c::r,vs,h=>by
  rw[IsTrees] at h;obtain⟨u,t,rfl,h2,h3⟩:=h;rw[List.length_append,h2.len,h3.len,List.length_cons];omega
theorem IsTree.form {w:World}{B:Nat}{a:Tree}{vs:List Value}(h:IsTree w B a vs):∃A1 A2 A3 A4 c1 c2 c3 c4,vs=Qa (kind a) (op a) (Bc a) (num a) (text a) (kids a).length A1 A2 A3 A4 c1 c2 c3 c4:=by
 cases a;rw[IsTree] at h;obtain⟨A1,A2,A3,A4,c1,c2,c3,c4,us,rfl,_⟩:=h;exact⟨A1,A2,A3,A4,c1,c2,c3,c4,rfl⟩
structure At8 (w:World) (b off:Nat) (k o:Int) (m:List UInt8) (n:Rt.Nm) (t:List Int) (len:Nat) (A1 A2 A3 A4:Option Addr) (c1 c2 c3 c4:Nat):Prop where
 p0:w.cell? ⟨b,off,none⟩=some (.int .i64 k)
 p1:w.cell? ⟨b,off+1,none⟩=some (.int .i64 o)
 p2:w.cell? ⟨b,off+2,none⟩=some (.string ⟨m.toArray⟩)
 p3:w.cell? ⟨b,off+3,none⟩=some (.bool n.neg)
 p4:w.cell? ⟨b,off+4,none⟩=some (.slice A1 n.top.length c1)
 p5:w.cell? ⟨b,off+5,none⟩=some (.slice A2 n.bot.length c2)
 p6:w.cell? ⟨b,off+6,none⟩=some (.slice A3 t.length c3)
 p7:w.cell? ⟨b,off+7,none⟩=some (.slice A4 len c4)
theorem At8.keep {w w':World}{b off:Nat}{k o:Int}{m:List UInt8}{n:Rt.Nm}{t:List Int}{len:Nat}{A1 A2 A3 A4:Option Addr}{c1 c2 c3 c4:Nat}(h:At8 w b off k o m n t len A1 A2 A3 A4 c1 c2 c3 c4)(hk:∀q,w'.cell? ⟨b,q,none⟩=w.cell? ⟨b,q,none⟩):At8 w' b off k o m n t len A1 A2 A3 A4 c1 c2 c3 c4:=
 ⟨(hk _).trans h.p0,(hk _).trans h.p1,(hk _).trans h.p2,(hk _).trans h.p3,(hk _).trans h.p4,(hk _).trans h.p5,(hk _).trans h.p6,(hk _).trans h.p7⟩
theorem Fq {w wr:World}{B:Nat}{A:Option Addr}{l:List Tree}{us:List Value}{i:Nat}(hcs:IsTrees w B l us)(hl:Lies w B A us)(hk:∀p:Addr,p.block<B->wr.cell? p=w.cell? p)(hlt:i<l.length):
 ∃b off A1 A2 A3 A4 c1 c2 c3 c4,A=some ⟨b,off,none⟩/\b<B/\Hid (IsTree w B l[i] (Qa (kind l[i]) (op l[i]) (Bc l[i]) (num l[i]) (text l[i]) (kids l[i]).length A1 A2 A3 A4 c1 c2 c3 c4))/\
  At8 wr b (off+i*8) (kind l[i]) (op l[i]) (Bc l[i]) (num l[i]) (text l[i]) (kids l[i]).length A1 A2 A3 A4 c1 c2 c3 c4:=by
 obtain⟨u,hu,hue⟩:=hcs.at_ hlt;obtain⟨b,off,rfl,hb,hcell⟩:=hl.elem hue (by intro h;have:=hu.len;rw[h] at this;cases this);obtain⟨A1,A2,A3,A4,c1,c2,c3,c4,rfl⟩:=hu.form;have hc:∀j v,(Qa (kind l[i]) (op l[i]) (Bc l[i]) (num l[i]) (text l[i]) (kids l[i]).length A1 A2 A3 A4 c1 c2 c3 c4)[j]? =some v->wr.cell? ⟨b,off+i*8+j,none⟩=some v:=λj v hv=>(hk ⟨b,off+i*8+j,none⟩ hb).trans (hcell j v hv);exact⟨b,off,A1,A2,A3,A4,c1,c2,c3,c4,rfl,hb,Qd hu,hc 0 _ rfl,hc 1 _ rfl,hc 2 _ rfl,hc 3 _ rfl,hc 4 _ rfl,hc 5 _ rfl,hc 6 _ rfl,hc 7 _ rfl⟩
theorem IsTree.open_ {w:World}{B:Nat}{k o:Int}{m:List UInt8}{n:Rt.Nm}{t:List Int}{l:List Tree}{vs:List Value}(h:IsTree w B (.mk k o m n t l) vs):
 ∃A1 A2 A3 A4 c1 c2 c3 c4 us,vs=Qa k o m n t l.length A1 A2 A3 A4 c1 c2 c3 c4/\Hid (Own w B k o m n t l.length A1 A2 A3 A4 c1 c2 c3 c4)/\Hid (Lies w B A4 us)/\Hid (IsTrees w B l us):=by
 rw[IsTree] at h;obtain⟨A1,A2,A3,A4,c1,c2,c3,c4,us,h1,h2,h3,h4⟩:=h;exact⟨A1,A2,A3,A4,c1,c2,c3,c4,us,h1,Qd h2,Qd h3,Qd h4⟩
theorem Vg {k o:Int}{m:List UInt8}{n:Rt.Nm}{t:List Int}{l:List Tree}{i:Nat}(h:i<l.length):SizeOf.sizeOf l[i]<SizeOf.sizeOf (Tree.mk k o m n t l):=by
 have:=List.sizeOf_lt_of_mem (List.getElem_mem h);simp only[Tree.mk.sizeOf_spec];omega
theorem Pw {k o:Int}{m:List UInt8}{n:Rt.Nm}{t:List Int}{l:List Tree}{i:Nat}(h:i<l.length):count l[i]<count (Tree.mk k o m n t l):=by
 have:=Xz h;rw[count];omega
theorem Hia {w W:World}{T:TypeId}{k o:Int}{m:List UInt8}{n:Rt.Nm}{t:List Int}{len:Nat}{A1 A2 A3 A4:Option Addr}{c1 c2 c3 c4:Nat}(h:W=w.alloc (.cells (Qa k o m n t len A1 A2 A3 A4 c1 c2 c3 c4).toArray T)):
 w.heap.size<W.heap.size/\Below w.heap.size w W/\At8 W w.heap.size 0 k o m n t len A1 A2 A3 A4 c1 c2 c3 c4/\W.heap[w.heap.size]? =some (.cells (Qa k o m n t len A1 A2 A3 A4 c1 c2 c3 c4).toArray T (0,0)):=by
 subst h;refine⟨by simp,Br.alloc Lr _,?_,heap_alloc_new _ _⟩;have hc:∀j v,(Qa k o m n t len A1 A2 A3 A4 c1 c2 c3 c4)[j]? =some v->(w.alloc (.cells (Qa k o m n t len A1 A2 A3 A4 c1 c2 c3 c4).toArray T)).cell? ⟨w.heap.size,0+j,none⟩=some v:=λj v hv=>by
  rw[Nat.zero_add];refine(cell_of_row _ w.heap.size j _ _ _ (heap_alloc_new w _)).trans ?_;rw[List.getElem?_toArray];exact hv
 exact⟨hc 0 _ rfl,hc 1 _ rfl,hc 2 _ rfl,hc 3 _ rfl,hc 4 _ rfl,hc 5 _ rfl,hc 6 _ rfl,hc 7 _ rfl⟩
theorem Vb {w W:World}{B:Nat}{T:TypeId}{k o:Int}{m:List UInt8}{n:Rt.Nm}{t:List Int}{l:List Tree}{vs:List Value}(h:IsTree w B (.mk k o m n t l) vs)(hW:W=w.alloc (.cells vs.toArray T)):
 ∃A1 A2 A3 A4 c1 c2 c3 c4 us,Hid (Own w B k o m n t l.length A1 A2 A3 A4 c1 c2 c3 c4)/\Hid (Lies w B A4 us)/\Hid (IsTrees w B l us)/\At8 W w.heap.size 0 k o m n t l.length A1 A2 A3 A4 c1 c2 c3 c4/\
  Hid (W.heap[w.heap.size]? =some (.cells vs.toArray T (0,0)))/\w.heap.size<W.heap.size/\Below w.heap.size w W:=by
 obtain⟨A1,A2,A3,A4,c1,c2,c3,c4,us,rfl,HO,HL,HC⟩:=h.open_;obtain⟨h1,h2,h3,h4⟩:=Hia hW;exact⟨A1,A2,A3,A4,c1,c2,c3,c4,us,HO,HL,HC,h3,Qd h4,h1,h2⟩
theorem Dd {w wr:World}{B:Nat}{A:Option Addr}{l:List Tree}{us:List Value}{i:Nat}(hcs:IsTrees w B l us)(hl:Lies w B A us)(hk:∀p:Addr,p.block<B->wr.cell? p=w.cell? p)(hlt:i<l.length):
 ∃b off tv,A=some ⟨b,off,none⟩/\b<B/\Hid (IsTree w B l[i] tv)/\Hid (wr.rangeAt b (off+i*8) tv):=by
 obtain⟨u,hu,hue⟩:=hcs.at_ hlt;obtain⟨b,off,rfl,hb,hcell⟩:=hl.elem hue (by intro h;have:=hu.len;rw[h] at this;cases this);exact⟨b,off,u,rfl,hb,Qd hu,Qd (λj v hv=>(hk ⟨b,off+i*8+j,none⟩ hb).trans (hcell j v hv))⟩
theorem Fc {w:World}{B:Nat}{a:Tree}{vs:List Value}(h:IsTree w B a vs):(Tryz.prog.info? 28).map (·.size)=some vs.length:=by rw[h.len];kernel_rfl
theorem Cb {w:World}{B:Nat}{a:Tree}{vs:List Value}(h:IsTree w B a vs):(Tryz.prog.info? 28).map (·.size)=some vs.toArray.size:=by rw[List.size_toArray,h.len];kernel_rfl
theorem Wh {ops:Array Oper}{rest:List Oper}{o:Oper}{a:Act}{w:World}{Q:Exit->Act->World->Prop}{cs:Array Value}(x:Operand)(hgd:o.guard=none)(ho:o.op= .load 28 x)
 (g:Nat) (hx:a.eval x= .pointer (some ⟨g,0,none⟩)) (hg:w.heap[g]? =some (.cells cs 28 (0,0))) (hi:(Tryz.prog.info? 28).map (·.size)=some cs.size)
 (h:wpList Tryz.prog ops Q rest (a.put o.dst (.agg cs)) w):wpList Tryz.prog ops Q (o::rest) a w:=
 wpList_load_row hgd _ x ho g hx _ cs _ _ hg Tryz.underlying28 rfl hi h
theorem Gc {ops:Array Oper}{rest:List Oper}{o:Oper}{a:Act}{w:World}{Q:Exit->Act->World->Prop}(hgd:o.guard=none)(x:Operand)(ho:o.op= .load 28 x)(b off:Nat)(hx:a.eval x= .pointer (some ⟨b,off,none⟩))(cs:List Value)(hc:w.rangeAt b off cs)(hi:(Tryz.prog.info? 28).map (·.size)=some cs.length)
 (h:wpList Tryz.prog ops Q rest (a.put o.dst (.agg cs.toArray)) w):wpList Tryz.prog ops Q (o::rest) a w:=
 wpList_load_mid hgd _ x ho b off hx cs _ hc Tryz.underlying28 rfl hi h
end
section
open Go.RowKit
structure PV where
 p:World->Value->Prop
 m:∀w w' v,p w v->Below w.heap.size w w'->p w' v
 known:Bool
 v:Value
 hv:known=true->∀w x,p w x->x=v
def pv (v:Value):PV:=⟨λ_ x=>x=v,λ_ _ _ h _=>h,true,v,λ_ _ _ h=>h⟩
def pq (p:World->Value->Prop)(m:∀w w' v,p w v->Below w.heap.size w w'->p w' v):PV:=⟨p,m,false,undef,λh=>by cases h⟩
def Ym:List PV->Nat->PV
 | [],_=>pq (λ_ _=>True) (λ_ _ _ h _=>h)
 |p::_,0=>p
 |_::l,n+1=>Ym l n
def nthP (L:List PV)(i:Nat)(w:World)(x:Value):Prop:=(Ym L i).p w x
def Xaa:List Value->Nat->Value
 | [],_=>undef
 |v::_,0=>v
 |_::l,n+1=>Xaa l n
def Mv (p:Nat->Prop):Nat->Prop
 | 0=>True
 |n+1=>Mv p n/\p n
theorem P8 {p:Nat->Prop}:∀{n:Nat},Mv p n->∀i,i<n->p i
 | 0,_,i,h=>absurd h (Nat.not_lt_zero _)
 |n+1,h,i,hi=>by
  by_cases e:i=n
  ·subst e;exact h.2
  exact P8 h.1 i (by omega)
def Ii (c:Nat->Bool)(xs:Nat->Value):List PV->Nat->Prop
 | [],_=>True
 |p::l,k=>((c k&&p.known)=true->xs k=p.v)/\Ii c xs l (k+1)
theorem Dp {c:Nat->Bool}{xs:Nat->Value}:∀(L:List PV) (k:Nat),(∀j,(c (k+j)&&(Ym L j).known)=true->xs (k+j)=(Ym L j).v)->Ii c xs L k
 | [],_,_=>trivial
 |p::l,k,h=>⟨h 0,Dp l (k+1) (λj hj=>by
  have:=h (j+1);rw[show k+(j+1)=k+1+j by omega] at this;exact this hj)⟩
section
variable {P : Program} {ops : Array Oper} {Q : Exit -> Act -> World -> Prop}
theorem Sk (frame:(Nat->Value)->Act)(w0:World)(L:List PV)(n:Nat){id:Nat}{a:Act}{w:World}(hm:P.follows .mixedOrders=true)
 (hops:ops.toList.zipIdx.all (λp=>p.1.after.all λe=>decide (e.on<p.2))=true) (hn:ops.size=n)
 (xs0:Nat->Value) (ha:a=frame xs0) (hw:Below w0.heap.size w0 w)
 (step:Mv (λi=>∀xs w,Below w0.heap.size w0 w->(∀j,Ob .any ops i j=true->(Ym L j).p w (xs j))->Ii (Ob .any ops i) xs L 0->wpOp P ops Q i (Qk frame (nthP L) xs i w) (frame xs) w) n)
 (done:∀xs w,Below w0.heap.size w0 w->(∀i,i<n->(Ym L i).p w (xs i))->Ii (λi=>decide (i<n)) xs L 0->Q .normal (frame xs) w):(Code.region id ops true).wp P Q a w:=
 Xf frame w0 (nthP L) hm (λi w w' v h hb=>(Ym L i).m w w' v h hb) hops xs0 ha hw
  (λi xs w hi hb hd=>P8 step i (hn▸hi) xs w hb hd (Dp L 0 (λj h=>by
   rw[Nat.zero_add] at h⊢;rw[Bool.and_eq_true] at h;exact(Ym L j).hv h.2 w _ (hd j h.1))))
  (λxs w hb hx=>done xs w hb (λi hi=>hx i (hn▸hi)) (Dp L 0 (λi h=>by
   rw[Nat.zero_add] at h⊢;rw[Bool.and_eq_true,decide_eq_true_eq] at h;exact(Ym L i).hv h.2 w _ (hx i (hn▸h.1)))))
end
end
section
open Go.RowKit Tr
theorem El {W w v:World}(h:Below W.heap.size W w)(h':Below w.heap.size w v):Below W.heap.size W v:=h.trans (h'.mono h.size)
theorem Gs {w:World}{B:Nat}{k o:Int}{m:List UInt8}{n:Rt.Nm}{t:List Int}{l:List Tree}{vs:List Value}(h:IsTree w B (.mk k o m n t l) vs)(hB:B<=w.heap.size)(T:TypeId):
 ∃A1 A2 A3 A4 c1 c2 c3 c4 us W,vs=[.int .i64 k,.int .i64 o,.string ⟨m.toArray⟩,.bool n.neg,.slice A1 n.top.length c1,.slice A2 n.bot.length c2,.slice A3 t.length c3,.slice A4 l.length c4]/\
  Hid (W=w.alloc (.cells #[.int .i64 k,.int .i64 o,.string ⟨m.toArray⟩,.bool n.neg,.slice A1 n.top.length c1,.slice A2 n.bot.length c2,.slice A3 t.length c3,.slice A4 l.length c4] T))/\
  Hid (Own w B k o m n t l.length A1 A2 A3 A4 c1 c2 c3 c4)/\Hid (Lies w B A4 us)/\Hid (IsTrees w B l us)/\
  Hid (∀wx,Below W.heap.size W wx->At8 wx w.heap.size 0 k o m n t l.length A1 A2 A3 A4 c1 c2 c3 c4)/\
  Hid (∀wx,Below W.heap.size W wx->IsTree wx B (.mk k o m n t l) [.int .i64 k,.int .i64 o,.string ⟨m.toArray⟩,.bool n.neg,.slice A1 n.top.length c1,.slice A2 n.bot.length c2,.slice A3 t.length c3,.slice A4 l.length c4])/\
  Hid (∀wx,Below W.heap.size W wx->B<=wx.heap.size)/\Hid (∀wx,Below W.heap.size W wx->Below w.heap.size w wx)/\
  Hid (∀wx,Below W.heap.size W wx->∀p:Addr,p.block<B->wx.cell? p=w.cell? p):=by
 have h':=h;obtain⟨A1,A2,A3,A4,c1,c2,c3,c4,us,rfl,HO,HL,HC⟩:=h.open_;obtain⟨W,hW⟩:∃W,W=w.alloc (.cells (Qa k o m n t l.length A1 A2 A3 A4 c1 c2 c3 c4).toArray T):=⟨_,rfl⟩;obtain⟨h1,h2,h3,-⟩:=Hia hW;have hb:∀wx,Below W.heap.size W wx->Below w.heap.size w wx:=λwx hx=>h2.trans (hx.mono (by omega));exact⟨A1,A2,A3,A4,c1,c2,c3,c4,us,W,rfl,Qd hW,HO,HL,HC,Qd (λwx hx=>h3.keep (λq=>hx.cell (p:=⟨w.heap.size,q,none⟩) h1)),Qd (λwx hx=>h'.below ((hb wx hx).mono hB)),
  Qd (λwx hx=>by have:=hx.size;omega),Qd hb,Qd (λwx hx p hp=>(hb wx hx).cell (by omega))⟩
end
end Go.Proofs.YtceplkpjnebnfaaGreatDoor
namespace Ar
theorem Yn {p:Int->Bool}{l:List Int}{k:Nat}(h:k<l.length):(l.take (k+1)).any p=((l.take k).any p||p l[k]):=by
 rw[List.take_succ_eq_append_getElem h,List.any_append];simp
theorem Nea {p:Int->Bool}{l:List Int}{k:Nat}(h:k<l.length)(hp:p l[k]=true):l.any p=true:=List.any_eq_true.2 ⟨_,List.getElem_mem h,hp⟩
end Ar
namespace Go.Proofs.YtceplkpjnebnfaaGreatDoor
section
open Go.RowKit Ar
def J0 (r:Bool)(w:World)(e:Ending)(w':World):Prop:=∃i:Int,e= .returned (.int .i64 i)/\decide (0<=i)=r/\w=w'
theorem N0 {p:Int->Bool}{l:List Int}{k:Nat}(hk:k=l.length)(h:(l.take k).any p=false):l.any p=false:=by subst hk;rwa[List.take_length] at h
theorem Dy (F:FuncId)(hE:∀args w,(callFunc F args).run Tryz.prog w= .ok (.enter F args) w)(p:Int->Bool)(A:Option Addr)(c:Nat)(l:List Int)(w:World)(B:Nat)(hl:Lies w B A (Sa l))(hn:l.length<=9223372036854775807)
 (hF:∀x,Calls Tryz.prog F #[.int .i64 x] w λe w'=>e= .returned (.bool (p x))/\w=w'):
 Calls Tryz.prog 154 #[.slice A l.length c,.func (.func F) #[] #[]] w (J0 (l.any p) w):=by
 have HA:=Qd hl;have HF:=Qd hF;clear hl hF;go_enter Tryz.func154,Tryz.ntmps154
 go_wp2_with fail
 go_loop [8] (λiv=>∃i:Nat,iv= .int .i64 (i:Int)/\i<=l.length/\Hid ((l.take i).any p=false)) (λiv=>l.length-(intOf iv).toNat)
 case atStart=>exact⟨0,by go_num,Nat.zero_le _,Qd rfl⟩
 case round=>
  obtain⟨k,rfl,hk,HT⟩:=hrel;by_cases hlt:k<l.length
  ·obtain⟨b,off,rfl,hb,g0⟩:=Hb HA.out hlt
   have H1:=Qd (Yn (p:=p) hlt);have H2:=Qd (Nea (p:=p) hlt);have FX:=Qd (HF.out l[k]);generalize l[k]=x at*;generalize p x=r at*;have hk0:(0:Int)<=(k:Int):=by omega
   have hk1:(k:Int)<(l.length:Int):=by omega
   go_wp2_with fail
   refine FX.out.mono ?_;rintro e w' ⟨rfl,rfl⟩;cases r
   ·have H3:Hid ((l.take (k+1)).any p=false):=Qd (by rw[H1.out,HT.out];rfl)
    go_wp2_with fail
    go_round
    case rel=>exact⟨k+1,by go_num,by omega,H3⟩
    case measure=>simp[intOf];omega
   have H3:=Qd (H2.out rfl);go_wp2_with fail
   go_ret;exact⟨_,rfl,by rw[H3.out];exact decide_eq_true (by omega),rfl⟩
  have H3:=Qd (N0 (by omega) HT.out);go_wp2_with fail
  go_ret;exact⟨_,rfl,by rw[H3.out];rfl,rfl⟩
theorem Q0 (F:FuncId)(hE:∀args w,(callFunc F args).run Tryz.prog w= .ok (.enter F args) w)(p:Int->Bool)(A:Option Addr)(c:Nat)(l:List Int)(w:World)(B:Nat)(hl:Lies w B A (Sa l))(hn:l.length<=9223372036854775807)
 (hF:∀x,Calls Tryz.prog F #[.int .i64 x] w λe w'=>e= .returned (.bool (p x))/\w=w'):
 Calls Tryz.prog 102 #[.slice A l.length c,.func (.func F) #[] #[]] w λe w'=>e= .returned (.bool (l.any p))/\w=w':=by
 have IX:=Qd (Dy F hE p A c l w B hl hn hF);clear hE;clear hl hF;generalize l.any p=r at*;generalize l.length=n at*;go_enter Tryz.func102,Tryz.ntmps102
 go_wp2_with fail
 refine IX.out.mono ?_;rintro e w' ⟨i,rfl,hr,rfl⟩;go_wp2_with fail
 go_ret;exact⟨rfl,rfl⟩
theorem Oea (A:Option Addr)(c:Nat)(l:List Int)(y:Int)(w:World)(B:Nat)(hl:Lies w B A (Sa l))(hn:l.length<=9223372036854775807):
 Calls Tryz.prog 155 #[.slice A l.length c,.int .i64 y] w (J0 (l.any (· ==y)) w):=by
 have HA:=Qd hl;clear hl;go_enter Tryz.func155,Tryz.ntmps155
 go_wp2_with fail
 go_loop [8] (λiv=>∃i:Nat,iv= .int .i64 (i:Int)/\i<=l.length/\Hid ((l.take i).any (· ==y)=false)) (λiv=>l.length-(intOf iv).toNat)
 case atStart=>exact⟨0,by go_num,Nat.zero_le _,Qd rfl⟩
 case round=>
  obtain⟨k,rfl,hk,HT⟩:=hrel;by_cases hlt:k<l.length
  ·obtain⟨b,off,rfl,hb,g0⟩:=Hb HA.out hlt
   have H1:=Qd (Yn (p:=(· ==y)) hlt);have H2:=Qd (Nea (p:=(· ==y)) hlt);generalize l[k]=x at*;have hk0:(0:Int)<=(k:Int):=by omega
   have hk1:(k:Int)<(l.length:Int):=by omega
   by_cases hxy:x=y
   ·subst hxy
    have e1:(x==x)=true:=by simp
    have H3:=Qd (H2.out e1);clear H1 H2;go_wp2_with fail
    go_ret;exact⟨_,rfl,by rw[H3.out];exact decide_eq_true (by omega),rfl⟩
   have e1:(y==x)=false:=beq_eq_false_iff_ne.2 (λh=>hxy h.symm);have H3:Hid ((l.take (k+1)).any (· ==y)=false):=Qd (by rw[H1.out,HT.out];simpa using hxy);clear H1 H2 hxy;go_wp2_with fail
   go_round
   case rel=>exact⟨k+1,by go_num,by omega,H3⟩
   case measure=>simp[intOf];omega
  have H3:=Qd (N0 (by omega) HT.out);go_wp2_with fail
  go_ret;exact⟨_,rfl,by rw[H3.out];rfl,rfl⟩
theorem R0 (A:Option Addr)(c:Nat)(l:List Int)(y:Int)(w:World)(B:Nat)(hl:Lies w B A (Sa l))(hn:l.length<=9223372036854775807):
 Calls Tryz.prog 107 #[.slice A l.length c,.int .i64 y] w λe w'=>e= .returned (.bool (l.any (· ==y)))/\w=w':=by
 have IX:=Qd (Oea A c l y w B hl hn);clear hl;generalize l.any (· ==y)=r at*;generalize l.length=n at*;go_enter Tryz.func107,Tryz.ntmps107
 go_wp2_with fail
 refine IX.out.mono ?_;rintro e w' ⟨i,rfl,hr,rfl⟩;go_wp2_with fail
 go_ret;exact⟨rfl,rfl⟩
end
section
open Go.RowKit Ar
def Od (n n':Bool)(t t' b b':List Nat):Bool:=(n==n')&&(t==t')&&(b==b')
theorem Ey (n n':Bool)(t t' b b':List Nat)(A1 A2 A1' A2':Option Addr)(c1 c2 c1' c2':Nat)(w:World)(B:Nat)(h1:Lies w B A1 (Ei t))(h1':Lies w B A1' (Ei t'))(h2:Lies w B A2 (Ei b))(h2':Lies w B A2' (Ei b'))(hB:B<=w.heap.size)
 (k1:t.length<=9223372036854775807) (k1':t'.length<=9223372036854775807) (k2:b.length<=9223372036854775807) (k2':b'.length<=9223372036854775807):
 Calls Tryz.prog 100 #[.agg #[.bool n,.slice A1 t.length c1,.slice A2 b.length c2],.agg #[.bool n',.slice A1' t'.length c1',.slice A2' b'.length c2']] w λe w'=>e= .returned (.bool (Od n n' t t' b b'))/\Below w.heap.size w w':=by
 have E1:=Qd (λ(wx:World) (hx:Below w.heap.size w wx)=>Gw t t' A1 A1' c1 c1' wx B (h1.below (hx.mono hB)) (h1'.below (hx.mono hB)) k1 k1');have E2:=Qd (λ(wx:World) (hx:Below w.heap.size w wx)=>Gw b b' A2 A2' c2 c2' wx B (h2.below (hx.mono hB)) (h2'.below (hx.mono hB)) k2 k2');have HR:Hid (Od n n' t t' b b'=((n==n')&&(t==t')&&(b==b'))):=Qd rfl;clear h1 h1' h2 h2';generalize Od n n' t t' b b'=R at*;generalize(t==t')=x at*;generalize(b==b')=y at*;cases hnn:(n==n')
 ·rw[hnn] at HR
  go_enter Tryz.func100,Tryz.ntmps100
  go_wp2_with fail
  go_ret;exact⟨Aa (by rw[HR.out];simp),(Br.alloc Lr _).alloc (by simp) _⟩
 rw[hnn] at HR;go_enter Tryz.func100,Tryz.ntmps100
 go_wp2_with fail
 have hb0:Below w.heap.size w ((w.alloc (.cells #[.bool n,.slice A1 t.length c1,.slice A2 b.length c2] 24)).alloc (.cells #[.bool n',.slice A1' t'.length c1',.slice A2' b'.length c2'] 24)):=(Br.alloc Lr _).alloc (by simp) _;refine(E1.out _ hb0).mono ?_;rintro e w2 ⟨rfl,hb2⟩;have hb3:=hb0.trans (hb2.mono hb0.size);obtain⟨hc,hfz⟩:(∀o,w2.cell? ⟨w.heap.size,o,none⟩=_)/\(∀o,w2.cell? ⟨w.heap.size+1,o,none⟩=_):=⟨λo=>hb2.cell (p:=⟨w.heap.size,o,none⟩) (by show w.heap.size<_;simp;omega),λo=>hb2.cell (p:=⟨w.heap.size+1,o,none⟩) (by show w.heap.size+1<_;simp)⟩;cases x
 ·go_wp2_with fail
  go_ret;exact⟨Aa (by rw[HR.out];simp),hb3⟩
 go_wp2_with fail
 refine(E2.out _ hb3).mono ?_;rintro e w3 ⟨rfl,hb4⟩;clear hc hfz;go_wp2_with fail
 go_ret;exact⟨Aa (by rw[HR.out];simp),hb3.trans (hb4.mono hb3.size)⟩
theorem Uk (n n':Bool)(t t' b b':List Nat)(A1 A2 A1' A2':Option Addr)(c1 c2 c1' c2':Nat)(w:World)(B:Nat)(h1:Lies w B A1 (Ei t))(h1':Lies w B A1' (Ei t'))(h2:Lies w B A2 (Ei b))(h2':Lies w B A2' (Ei b'))(hB:B<=w.heap.size)
 (k1:t.length<=9223372036854775807) (k1':t'.length<=9223372036854775807) (k2:b.length<=9223372036854775807) (k2':b'.length<=9223372036854775807):
 Calls Tryz.prog 30 #[.agg #[.bool n,.slice A1 t.length c1,.slice A2 b.length c2],.agg #[.bool n',.slice A1' t'.length c1',.slice A2' b'.length c2']] w λe w'=>e= .returned (.bool (Od n n' t t' b b'))/\Below w.heap.size w w':=by
 have E1:=Qd (λ(wx:World) (hx:Below w.heap.size w wx)=>Po t t' A1 A1' c1 c1' wx B (h1.below (hx.mono hB)) (h1'.below (hx.mono hB)) k1 k1');have E2:=Qd (λ(wx:World) (hx:Below w.heap.size w wx)=>Po b b' A2 A2' c2 c2' wx B (h2.below (hx.mono hB)) (h2'.below (hx.mono hB)) k2 k2');have HR:Hid (Od n n' t t' b b'=((n==n')&&(t==t')&&(b==b'))):=Qd rfl;clear h1 h1' h2 h2';generalize Od n n' t t' b b'=R at*;generalize(t==t')=x at*;generalize(b==b')=y at*;cases hnn:(n==n')
 ·rw[hnn] at HR
  go_enter Tryz.func30,Tryz.ntmps30
  go_wp2_with fail
  go_ret;exact⟨Aa (by rw[HR.out];simp),(Br.alloc Lr _).alloc (by simp) _⟩
 rw[hnn] at HR;go_enter Tryz.func30,Tryz.ntmps30
 go_wp2_with fail
 have hb0:Below w.heap.size w ((w.alloc (.cells #[.bool n,.slice A1 t.length c1,.slice A2 b.length c2] 24)).alloc (.cells #[.bool n',.slice A1' t'.length c1',.slice A2' b'.length c2'] 24)):=(Br.alloc Lr _).alloc (by simp) _;refine(E1.out _ hb0).mono ?_;rintro e w2 ⟨rfl,hb2⟩;have hb3:=hb0.trans (hb2.mono hb0.size);obtain⟨hc,hfz⟩:(∀o,w2.cell? ⟨w.heap.size,o,none⟩=_)/\(∀o,w2.cell? ⟨w.heap.size+1,o,none⟩=_):=⟨λo=>hb2.cell (p:=⟨w.heap.size,o,none⟩) (by show w.heap.size<_;simp;omega),λo=>hb2.cell (p:=⟨w.heap.size+1,o,none⟩) (by show w.heap.size+1<_;simp)⟩;cases x
 ·go_wp2_with fail
  go_ret;exact⟨Aa (by rw[HR.out];simp),hb3⟩
 go_wp2_with fail
 refine(E2.out _ hb3).mono ?_;rintro e w3 ⟨rfl,hb4⟩;clear hc hfz;go_wp2_with fail
 go_ret;exact⟨Aa (by rw[HR.out];simp),hb3.trans (hb4.mono hb3.size)⟩
end
end Go.Proofs.YtceplkpjnebnfaaGreatDoor
namespace Lab
def bit (t:Nat):Nat:=2^t
def join (a b:Nat):Nat:=a|||b
def Yqa (l:Nat):List Nat:=(List.range 64).filter λt=>l.testBit t
end Lab
namespace Go.Proofs.YtceplkpjnebnfaaGreatDoor
section
open Go.RowKit
end
section
open Go.RowKit Ar
end
end Go.Proofs.YtceplkpjnebnfaaGreatDoor
namespace Ar
end Ar
namespace Go.Proofs.YtceplkpjnebnfaaGreatDoor
section
open Go.RowKit Ar
end
section
open Go.RowKit Ar
def IntOK (n:Bool)(l:List Nat)(w:World)(x:Value):Prop:=∃v,x= .agg #[.bool n,v]/\ResL w v l
def TupOK (r:Rt.Nm×Int)(w:World)(x:Value):Prop:=∃t u,x= .tuple #[.agg #[.bool r.1.neg,t,u],.int .i64 r.2]/\IsRes w t r.1.top/\IsRes w u r.1.bot
def AggOK (r:Rt.Nm×Int)(w:World)(x:Value):Prop:=∃t u,x= .agg #[.bool r.1.neg,t,u]/\IsRes w t r.1.top/\IsRes w u r.1.bot
def Tna (er:Int)(x:Value):Prop:=x= .int .i64 er
def CellOK (r:Rt.Nm×Int)(lo:Nat)(said:Bool)(w:World)(x:Value):Prop:=∃g b A k c A' k' c',x= .pointer (some ⟨g,0,none⟩)/\lo<=g/\w.heap[g]? =some (.cells #[.bool b,.slice A k c,.slice A' k' c'] 24 (0,0))/\(said=true->b=r.1.neg/\IsRes w (.slice A k c) r.1.top/\IsRes w (.slice A' k' c') r.1.bot)
theorem IntOK.below {n:Bool}{l:List Nat}{w w':World}{x:Value}(h:IntOK n l w x)(hb:Below w.heap.size w w'):IntOK n l w' x:=by
 obtain⟨v,e,r⟩:=h;exact⟨v,e,r.below hb⟩
theorem TupOK.below {r0:Rt.Nm×Int}{w w':World}{x:Value}(h:TupOK r0 w x)(hb:Below w.heap.size w w'):TupOK r0 w' x:=by
 obtain⟨t,u,e,r,r'⟩:=h;exact⟨t,u,e,r.below hb,r'.below hb⟩
theorem AggOK.below {r0:Rt.Nm×Int}{w w':World}{x:Value}(h:AggOK r0 w x)(hb:Below w.heap.size w w'):AggOK r0 w' x:=by
 obtain⟨t,u,e,r,r'⟩:=h;exact⟨t,u,e,r.below hb,r'.below hb⟩
theorem CellOK.below {r0:Rt.Nm×Int}{lo:Nat}{said:Bool}{w w':World}{x:Value}(h:CellOK r0 lo said w x)(hb:Below w.heap.size w w'):CellOK r0 lo said w' x:=by
 obtain⟨g,b,A,k,c,A',k',c',e,h1,h2,h3⟩:=h;exact⟨g,b,A,k,c,A',k',c',e,h1,(hb.block g (Ib h2)).trans h2,λhs=>by obtain⟨e,r,r'⟩:=h3 hs;exact⟨e,r.below hb,r'.below hb⟩⟩
theorem IntOK.setRow {n:Bool}{l:List Nat}{w:World}{x:Value}{g:Nat}{old:Array Value}{t:TypeId}(h:IntOK n l w x)(hg:w.heap[g]? =some (.cells old t (0,0)))(ho:∀(i:Nat) (k:IntKind) (n:Int),old[i]? ≠some (Value.int k n))(cs:Array Value):IntOK n l (w.setRow g cs) x:=by
 obtain⟨v,e,r⟩:=h;exact⟨v,e,r.setRow hg ho cs⟩
theorem TupOK.setRow {r0:Rt.Nm×Int}{w:World}{x:Value}{g:Nat}{old:Array Value}{t:TypeId}(h:TupOK r0 w x)(hg:w.heap[g]? =some (.cells old t (0,0)))(ho:∀(i:Nat) (k:IntKind) (n:Int),old[i]? ≠some (Value.int k n))(cs:Array Value):TupOK r0 (w.setRow g cs) x:=by
 obtain⟨t,u,e,r,r'⟩:=h;exact⟨t,u,e,r.setRow hg ho cs,r'.setRow hg ho cs⟩
theorem AggOK.setRow {r0:Rt.Nm×Int}{w:World}{x:Value}{g:Nat}{old:Array Value}{t:TypeId}(h:AggOK r0 w x)(hg:w.heap[g]? =some (.cells old t (0,0)))(ho:∀(i:Nat) (k:IntKind) (n:Int),old[i]? ≠some (Value.int k n))(cs:Array Value):AggOK r0 (w.setRow g cs) x:=by
 obtain⟨t,u,e,r,r'⟩:=h;exact⟨t,u,e,r.setRow hg ho cs,r'.setRow hg ho cs⟩
structure GI (w:World) (N:Array Value) (N1 N2:Bool) (D1 D2:List Nat) (R:Rt.Nm×Int) (b0 b1 b2 b3 b4 b5 b6 b7 b8 b9 b10:Bool) (x16 x17 x18 x19 x20 x15 x21 x22 x3 x4:Value) (wx:World):Prop where
 below:Below w.heap.size w wx
 v16:b0=true->x16= .agg N
 v17:b1=true->IntOK N1 D1 wx x17
 v18:b2=true->x18= .agg N
 v19:b3=true->IntOK N2 D2 wx x19
 v20:b4=true->TupOK R wx x20
 v15:b5=true->TupOK R wx x15
 v21:b6=true->AggOK R wx x21
 v22:b7=true->Tna R.2 x22
 v3:b8=true->CellOK R w.heap.size b9 wx x3
 v4:b10=true->Tna R.2 x4
 o9:b9=true->b8=true
def Kh (g:Nat)(N:Array Value)(A:Option Addr)(k c:Nat)(A':Option Addr)(k' c':Nat)(x16 x17 x18 x19 x20 x15 x21 x22 x3 x4:Value):Act:={tmps:= #[.agg N,.pointer (some ⟨g,0,none⟩),.bool false,x3,x4,.pointer (some ⟨g,1,none⟩),.slice A k c,.int .i64 (k:Int),.bool false,.bool false,.pointer (some ⟨g,2,none⟩),.slice A' k' c',.int .i64 (k':Int),.bool false,.bool false,x15,x16,x17,x18,x19,x20,x21,x22,undef,undef,undef,undef,undef,undef,undef],defers:=[]}
def Nqa (w:World)(g:Nat)(N:Array Value)(A:Option Addr)(k c:Nat)(A':Option Addr)(k' c':Nat)(N1 N2:Bool)(D1 D2:List Nat)(R:Rt.Nm×Int)(l:Array Bool)(a:Act)(wx:World):Prop:=
 ∃b0 b1 b2 b3 b4 b5 b6 b7 b8 b9 b10 x16 x17 x18 x19 x20 x15 x21 x22 x3 x4,l= #[b0,b1,b2,b3,b4,b5,b6,b7,b8,b9,b10]/\a=Kh g N A k c A' k' c' x16 x17 x18 x19 x20 x15 x21 x22 x3 x4/\GI w N N1 N2 D1 D2 R b0 b1 b2 b3 b4 b5 b6 b7 b8 b9 b10 x16 x17 x18 x19 x20 x15 x21 x22 x3 x4 wx
theorem Yaa (n:Bool)(t u:List Nat)(h1:t.length<=32)(h2:u.length<=32):Rt.right ⟨n,t,u⟩=(((Rt.mk n false (Nt.val t) (Nt.val u)).2==0)&&Od n (Rt.mk n false (Nt.val t) (Nt.val u)).1.neg t (Rt.mk n false (Nt.val t) (Nt.val u)).1.top u (Rt.mk n false (Nt.val t) (Nt.val u)).1.bot):=by
 unfold Rt.right;dsimp only;rw[decide_eq_true h1,decide_eq_true h2,Bool.true_and,Bool.true_and]
 congr 1
 obtain⟨⟨b,l,l'⟩,er⟩:=Rt.mk n false (Nt.val t) (Nt.val u);rw[Bool.eq_iff_iff];simp only[decide_eq_true_eq,Od,Bool.and_eq_true,beq_iff_eq,Rt.Nm.mk.injEq]
 constructor
 ·rintro⟨rfl,rfl,rfl⟩;exact⟨⟨rfl,rfl⟩,rfl⟩
 rintro⟨⟨rfl,rfl⟩,rfl⟩;exact⟨rfl,rfl,rfl⟩
theorem Zaa (n:Bool)(A:Option Addr)(t:List Nat)(c:Nat)(A':Option Addr)(u:List Nat)(c':Nat)(w:World)(h1:IsRes w (.slice A t.length c) t)(h2:IsRes w (.slice A' u.length c') u)(o1:Nt.Ok t)(o2:Nt.Ok u):
 Calls Tryz.prog 148 #[.agg #[.bool n,.slice A t.length c,.slice A' u.length c']] w λe w'=>e= .returned (.bool (Rt.right ⟨n,t,u⟩))/\Below w.heap.size w w':=by
 obtain⟨W,hW⟩:∃W,W=w.alloc (.cells #[.bool n,.slice A t.length c,.slice A' u.length c'] 24):=⟨_,rfl⟩;have hWs:W.heap.size=w.heap.size+1:=by rw[hW];simp
 have hWb:Below w.heap.size w W:=by rw[hW];exact Br.alloc Lr _
 have hW0:W.heap[w.heap.size]? =some (.cells #[.bool n,.slice A t.length c,.slice A' u.length c'] 24 (0,0)):=by rw[hW];exact heap_alloc_new _ _
 have HW:=Qd hW;have HW0:=Qd hW0;have HR1:=Qd h1;have HR2:=Qd h2;clear hW hW0;by_cases k1:32<t.length
 ·clear h1 h2
  go_enter Tryz.func148,Tryz.ntmps148
  go_wp2_with fail
  go_ret;exact⟨Aa (by unfold Rt.right;rw[show decide (t.length<=32)=false from decide_eq_false (by omega)];rfl),by rw[HW.out] at hWb;exact hWb⟩
 by_cases k2:32<u.length
 ·clear h1 h2
  go_enter Tryz.func148,Tryz.ntmps148
  go_wp2_with fail
  go_ret;exact⟨Aa (by unfold Rt.right;rw[show decide (u.length<=32)=false from decide_eq_false (by omega)];simp),by rw[HW.out] at hWb;exact hWb⟩
 have q1:ResL w (.slice A t.length c) t:=⟨h1,o1,by omega⟩;have q2:ResL w (.slice A' u.length c') u:=⟨h2,o2,by omega⟩;have TP:=Qd (λ(wx:World) (hx:Below W.heap.size W wx)=>Sla n _ _ _ _ wx ((q1.below hWb).below hx) ((q2.below hWb).below hx));have BT:=Qd (λ(wx:World) (hx:Below W.heap.size W wx)=>Tla n _ _ _ _ wx ((q1.below hWb).below hx) ((q2.below hWb).below hx));have hd1:decide ((32:Int)<(t.length:Int))=false:=decide_eq_false (by omega);have hd2:decide ((32:Int)<(u.length:Int))=false:=decide_eq_false (by omega);have hWl:w.heap.size<W.heap.size:=by omega
 have HRT:Hid (Rt.right ⟨n,t,u⟩=(((Rt.mk n false (Nt.val t) (Nt.val u)).2==0)&&Od n (Rt.mk n false (Nt.val t) (Nt.val u)).1.neg t (Rt.mk n false (Nt.val t) (Nt.val u)).1.top u (Rt.mk n false (Nt.val t) (Nt.val u)).1.bot)):=Qd (Yaa n t u (by omega) (by omega));have hMK:Rt.mk (Rt.nrm n (Nt.val t)) (Rt.nrm false (Nt.val u)) (Nt.val (Nt.digs (Nt.val t))) (Nt.val (Nt.digs (Nt.val u)))=Rt.mk n false (Nt.val t) (Nt.val u):=by rw[Nt.val_digs,Nt.val_digs,Rt.mk_nrm]
 generalize Rt.right ⟨n,t,u⟩=RT at*;generalize Rt.mk n false (Nt.val t) (Nt.val u)=R at*;have HMK:=Qd hMK;clear hMK;clear h1 h2 q1 q2 hWs;go_enter Tryz.func148,Tryz.ntmps148
 go_wp2_with fail
 rw[<-HW.out];refine wp_region_any (by kernel_rfl) ?_;refine Th (Nqa W w.heap.size #[.bool n,.slice A t.length c,.slice A' u.length c'] A t.length c A' u.length c' (Rt.nrm n (Nt.val t)) (Rt.nrm false (Nt.val u)) (Nt.digs (Nt.val t)) (Nt.digs (Nt.val u)) R) ?_ ?_ 11 _ _ _ (by decide) ⟨false,false,false,false,false,false,false,false,false,false,false,undef,undef,undef,undef,undef,undef,undef,undef,undef,undef,rfl,rfl,⟨⟨rfl,rfl,rfl,Lr,λ_ _=>rfl⟩,nofun,nofun,nofun,nofun,nofun,nofun,nofun,nofun,nofun,nofun,nofun⟩⟩
 ·rintro _ _ wx ⟨b0,b1,b2,b3,b4,b5,b6,b7,b8,b9,b10,x16,x17,x18,x19,x20,x15,x21,x22,x3,x4,rfl,rfl,hJ⟩ i hi
  obtain⟨h8,hl,ha⟩:=Gg hi;have h8':i<11:=h8;clear h8 hi;have hsz:=hJ.below.size;rcases(show i=0\/i=1\/i=2\/i=3\/i=4\/i=5\/i=6\/i=7\/i=8\/i=9\/i=10 by omega) with rfl |rfl |rfl |rfl |rfl |rfl |rfl |rfl |rfl |rfl |rfl
  ·refine Ca rfl rfl ?_
   refine wp_load_row 24 (.tmp 1) rfl w.heap.size rfl 24 #[.bool n,.slice A t.length c,.slice A' u.length c'] (0,0) _ ((hJ.below.block w.heap.size hWl).trans HW0.out) Tryz.underlying24 rfl Tg ?_;exact⟨true,b1,b2,b3,b4,b5,b6,b7,b8,b9,b10,_,x17,x18,x19,x20,x15,x21,x22,x3,x4,rfl,rfl,{hJ with v16:=λ_=>rfl}⟩
  ·have h0:b0=true:=by simpa [Region.binds] using ha
   subst h0;obtain rfl:=hJ.v16 rfl;refine Ca rfl rfl ?_;unfold Kh Oper.wp;go_simp
   refine((TP.out _ hJ.below).mono ?_);rintro e w2 ⟨v3,rfl,hr3,hb2⟩;exact⟨true,true,b2,b3,b4,b5,b6,b7,b8,b9,b10,_,_,x18,x19,x20,x15,x21,x22,x3,x4,rfl,rfl,{hJ with
    below:=hJ.below.trans (hb2.mono hsz)
    v17:=λ_=>⟨v3,rfl,hr3⟩
    v19:=λh=>(hJ.v19 h).below hb2
    v20:=λh=>(hJ.v20 h).below hb2
    v15:=λh=>(hJ.v15 h).below hb2
    v21:=λh=>(hJ.v21 h).below hb2
    v3:=λh=>(hJ.v3 h).below hb2}⟩
  ·refine Ca rfl rfl ?_
   refine wp_load_row 24 (.tmp 1) rfl w.heap.size rfl 24 #[.bool n,.slice A t.length c,.slice A' u.length c'] (0,0) _ ((hJ.below.block w.heap.size hWl).trans HW0.out) Tryz.underlying24 rfl Tg ?_;exact⟨b0,b1,true,b3,b4,b5,b6,b7,b8,b9,b10,x16,x17,_,x19,x20,x15,x21,x22,x3,x4,rfl,rfl,{hJ with v18:=λ_=>rfl}⟩
  ·have h0:b2=true/\b1=true:=by simpa [Region.binds] using ha
   obtain⟨rfl,rfl⟩:=h0;obtain rfl:=hJ.v18 rfl;refine Ca rfl rfl ?_;unfold Kh Oper.wp;go_simp
   refine((BT.out _ hJ.below).mono ?_);rintro e w2 ⟨v3,rfl,hr3,hb2⟩;exact⟨b0,true,true,true,b4,b5,b6,b7,b8,b9,b10,x16,x17,_,_,x20,x15,x21,x22,x3,x4,rfl,rfl,{hJ with
    below:=hJ.below.trans (hb2.mono hsz)
    v19:=λ_=>⟨v3,rfl,hr3⟩
    v17:=λh=>(hJ.v17 h).below hb2
    v20:=λh=>(hJ.v20 h).below hb2
    v15:=λh=>(hJ.v15 h).below hb2
    v21:=λh=>(hJ.v21 h).below hb2
    v3:=λh=>(hJ.v3 h).below hb2}⟩
  ·have h0:b1=true/\b3=true:=by simpa [Region.binds] using ha
   obtain⟨rfl,rfl⟩:=h0;obtain⟨v1,rfl,r1⟩:=hJ.v17 rfl;obtain⟨v2,rfl,r2⟩:=hJ.v19 rfl;have MK:=Yha (Rt.nrm n (Nt.val t)) (Rt.nrm false (Nt.val u)) v1 v2 _ _ wx r1 r2;rw[HMK.out] at MK;refine Ca rfl rfl ?_;unfold Kh Oper.wp;go_simp
   refine(MK.mono ?_);rintro e w2 ⟨t1,u1,rfl,k1,k2,hb2⟩;exact⟨b0,true,b2,true,true,b5,b6,b7,b8,b9,b10,x16,_,x18,_,_,x15,x21,x22,x3,x4,rfl,rfl,{hJ with
    below:=hJ.below.trans (hb2.mono hsz)
    v20:=λ_=>⟨t1,u1,rfl,k1,k2⟩
    v17:=λh=>(hJ.v17 h).below hb2
    v19:=λh=>(hJ.v19 h).below hb2
    v15:=λh=>(hJ.v15 h).below hb2
    v21:=λh=>(hJ.v21 h).below hb2
    v3:=λh=>(hJ.v3 h).below hb2}⟩
  ·have h0:b4=true:=by simpa [Region.binds] using ha
   subst h0;have hv:=hJ.v20 rfl;refine Ca rfl rfl ?_;unfold Kh Oper.wp;go_simp
   exact⟨b0,b1,b2,b3,true,true,b6,b7,b8,b9,b10,x16,x17,x18,x19,x20,_,x21,x22,x3,x4,rfl,rfl,{hJ with v15:=λ_=>hv}⟩
  ·have h0:b5=true:=by simpa [Region.binds] using ha
   subst h0;obtain⟨t1,u1,rfl,k1,k2⟩:=hJ.v15 rfl;refine Ca rfl rfl ?_;unfold Kh Oper.wp;go_simp
   exact⟨b0,b1,b2,b3,b4,true,true,b7,b8,b9,b10,x16,x17,x18,x19,x20,_,_,x22,x3,x4,rfl,rfl,{hJ with v21:=λ_=>⟨t1,u1,rfl,k1,k2⟩}⟩
  ·have h0:b5=true:=by simpa [Region.binds] using ha
   subst h0;obtain⟨t1,u1,rfl,k1,k2⟩:=hJ.v15 rfl;refine Ca rfl rfl ?_;unfold Kh Oper.wp;go_simp
   exact⟨b0,b1,b2,b3,b4,true,b6,true,b8,b9,b10,x16,x17,x18,x19,x20,_,x21,_,x3,x4,rfl,rfl,{hJ with v22:=λ_=>rfl}⟩
  ·have hb8:b8=false:=hl
   subst hb8;have hb9:b9=false:=by
    cases b9
    ·rfl
    exact absurd (hJ.o9 rfl) (by decide)
   subst hb9;refine Ca rfl rfl ?_;unfold Kh Oper.wp;go_simp
   have hba:Below wx.heap.size wx (wx.alloc (.cells #[.bool false,.slice none 0 0,.slice none 0 0] 24)):=Br.alloc Lr _;exact⟨b0,b1,b2,b3,b4,b5,b6,b7,true,false,b10,x16,x17,x18,x19,x20,x15,x21,x22,_,x4,rfl,rfl,{hJ with
    below:=hJ.below.alloc hsz _
    v3:=λ_=>⟨wx.heap.size,false,none,0,0,none,0,0,rfl,hsz,heap_alloc_new _ _,nofun⟩
    v17:=λh=>(hJ.v17 h).below hba
    v19:=λh=>(hJ.v19 h).below hba
    v20:=λh=>(hJ.v20 h).below hba
    v15:=λh=>(hJ.v15 h).below hba
    v21:=λh=>(hJ.v21 h).below hba
    o9:=nofun}⟩
  ·simp[Region.binds] at ha
   obtain⟨rfl,rfl,rfl,rfl,rfl,rfl,rfl,-,rfl,-,-⟩:=ha;have hb9:b9=false:=hl;subst hb9;obtain⟨g,b,A3,k3,c3,A4,k4,c4,rfl,q1,q2,q3⟩:=hJ.v3 rfl;obtain⟨t1,u1,rfl,r1,r2⟩:=hJ.v21 rfl;have s17:=(hJ.v17 rfl).setRow q2 (Ma _ _ _ _ _ _ _) #[.bool R.1.neg,t1,u1];have s19:=(hJ.v19 rfl).setRow q2 (Ma _ _ _ _ _ _ _) #[.bool R.1.neg,t1,u1];have s20:=(hJ.v20 rfl).setRow q2 (Ma _ _ _ _ _ _ _) #[.bool R.1.neg,t1,u1];have s15:=(hJ.v15 rfl).setRow q2 (Ma _ _ _ _ _ _ _) #[.bool R.1.neg,t1,u1];have s21:=(hJ.v21 rfl).setRow q2 (Ma _ _ _ _ _ _ _) #[.bool R.1.neg,t1,u1];have r1':=r1.setRow q2 (Ma _ _ _ _ _ _ _) #[.bool R.1.neg,t1,u1];have r2':=r2.setRow q2 (Ma _ _ _ _ _ _ _) #[.bool R.1.neg,t1,u1];obtain⟨A5,c5,rfl,-⟩:=r1;obtain⟨A6,c6,rfl,-⟩:=r2;refine Ca rfl rfl ?_;refine wp_store_row 24 (.tmp 3) (.tmp 21) rfl g #[.bool R.1.neg,.slice A5 R.1.top.length c5,.slice A6 R.1.bot.length c6] rfl rfl 24 _ q2 Tg rfl (Fj _ _ _ _ _ _ _) ?_;exact⟨true,true,true,true,true,true,true,b7,true,true,b10,x16,x17,x18,x19,x20,x15,_,x22,_,x4,rfl,rfl,{hJ with
    below:=rBelow.setRow hJ.below q1 _
    v17:=λ_=>s17
    v19:=λ_=>s19
    v20:=λ_=>s20
    v15:=λ_=>s15
    v21:=λ_=>s21
    v3:=λ_=>⟨g,_,_,_,_,_,_,_,rfl,q1,Eb q2,λ_=>⟨rfl,r1',r2'⟩⟩
    o9:=λ_=>rfl}⟩
  simp[Region.binds] at ha;have h7:b7=true:=ha.1;subst h7;clear ha;have hv:=hJ.v22 rfl;refine Ca rfl rfl ?_;unfold Kh Oper.wp;go_simp
  exact⟨b0,b1,b2,b3,b4,b5,b6,true,b8,b9,true,x16,x17,x18,x19,x20,x15,x21,x22,x3,_,rfl,rfl,{hJ with v4:=λ_=>hv}⟩
 rintro _ _ wx ⟨b0,b1,b2,b3,b4,b5,b6,b7,b8,b9,b10,x16,x17,x18,x19,x20,x15,x21,x22,x3,x4,rfl,rfl,hJ⟩ hr;have e0:b0=true:=Jb hr 0 (by decide) (by simp[Region.binds]);subst e0;have e1:b1=true:=Jb hr 1 (by decide) (by simp[Region.binds]);subst e1;have e2:b2=true:=Jb hr 2 (by decide) (by simp[Region.binds]);subst e2;have e3:b3=true:=Jb hr 3 (by decide) (by simp[Region.binds]);subst e3;have e4:b4=true:=Jb hr 4 (by decide) (by simp[Region.binds]);subst e4;have e5:b5=true:=Jb hr 5 (by decide) (by simp[Region.binds]);subst e5;have e6:b6=true:=Jb hr 6 (by decide) (by simp[Region.binds]);subst e6;have e7:b7=true:=Jb hr 7 (by decide) (by simp[Region.binds]);subst e7;have e8:b8=true:=Jb hr 8 (by decide) (by simp[Region.binds]);subst e8;have e9:b9=true:=Jb hr 9 (by decide) (by simp[Region.binds]);subst e9;have e10:b10=true:=Jb hr 10 (by decide) (by simp[Region.binds]);subst e10;clear hr;obtain⟨g,b,A3,k3,c3,A4,k4,c4,rfl,q1,q2,q3⟩:=hJ.v3 rfl;obtain⟨hbe,r1,r2⟩:=q3 rfl;subst hbe;obtain⟨⟨b,l,l'⟩,er⟩:=R;dsimp only at r1 r2 HRT;obtain rfl:=hJ.v4 rfl;have hxb:=hJ.below;have hxs:=hxb.size;have hxw:=hWb.trans (hxb.mono (by omega));have hw0:=(hxb.block w.heap.size hWl).trans HW0.out;have hgl:=Ib q2;have i1:k3=l.length:=by obtain⟨_,_,e,_⟩:=r1;injection e
 have i2:k4=l'.length:=by obtain⟨_,_,e,_⟩:=r2;injection e
 subst i1 i2;have p0:wx.cell? ⟨g,0,none⟩=some (.bool b):=(cell_of_row wx g 0 _ _ _ q2).trans rfl;have p1:wx.cell? ⟨g,1,none⟩=some (.slice A3 l.length c3):=(cell_of_row wx g 1 _ _ _ q2).trans rfl;have p2:wx.cell? ⟨g,2,none⟩=some (.slice A4 l'.length c4):=(cell_of_row wx g 2 _ _ _ q2).trans rfl;have z0:wx.cell? ⟨w.heap.size,0,none⟩=some (.bool n):=(cell_of_row wx w.heap.size 0 _ _ _ hw0).trans rfl;have z1:wx.cell? ⟨w.heap.size,1,none⟩=some (.slice A t.length c):=(cell_of_row wx w.heap.size 1 _ _ _ hw0).trans rfl;have z2:wx.cell? ⟨w.heap.size,2,none⟩=some (.slice A' u.length c'):=(cell_of_row wx w.heap.size 2 _ _ _ hw0).trans rfl;have SM:Hid (Calls Tryz.prog 30 #[.agg #[.bool n,.slice A t.length c,.slice A' u.length c'],.agg #[.bool b,.slice A3 l.length c3,.slice A4 l'.length c4]] wx λe w'=>e= .returned (.bool (Od n b t l u l'))/\Below wx.heap.size wx w'):=Qd (by
  obtain⟨_,_,e,y1,y2,y3,y4⟩:=HR1.out;injection e with e1 e2 e3
  subst e1 e3;obtain⟨_,_,e,y5,y6,y7,y8⟩:=HR2.out;injection e with e1 e2 e3
  subst e1 e3;obtain⟨_,_,e,x1,x2,x3,x4⟩:=r1;injection e with e1 e2 e3
  subst e1 e3;obtain⟨_,_,e,x5,x6,x7,x8⟩:=r2;injection e with e1 e2 e3
  subst e1 e3;exact Uk n b t l u l' A A' A3 A4 c c' c3 c4 wx wx.heap.size ((y4.below hxw).more hxw.size) x4 ((y8.below hxw).more hxw.size) x8 Lr (by omega) (by omega) (by omega) (by omega))
 generalize Od n b t l u l'=SN at SM HRT;clear hJ q2 q3 r1 r2 hw0;unfold Kh;cases he:(er==0)
 ·rw[he] at HRT
  go_wp2_with fail
  go_ret;exact⟨Aa (by rw[HRT.out];rfl),hxw⟩
 rw[he] at HRT;go_wp2_with fail
 refine SM.out.mono ?_;rintro e w2 ⟨rfl,hb2⟩;go_wp2_with fail
 go_ret;exact⟨Aa (by rw[HRT.out];rfl),hxw.trans (hb2.mono hxw.size)⟩
end
end Go.Proofs.YtceplkpjnebnfaaGreatDoor
