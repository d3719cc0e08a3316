/- Texts of this proof, joined. -/
import Derived.Test.YtceplkpjnebnfaaGreatDoorM14
set_option linter.all false
set_option maxHeartbeats 8000000
set_option maxRecDepth 100000
namespace Go.Proofs.YtceplkpjnebnfaaGreatDoor
section
open Go.RowKit Tr
variable [Dc]
def RowAt (w0:World)(bs lo ex:Nat)(acc:List Tree)(v:Value)(wr:World):Prop:=
 ∃us P,wr.ownsRow bs 28 8 v acc.length us/\TreesF wr P acc us/\∀b,P b->In w0.heap.size lo wr.heap.size b/\some b≠v.ownBlock/\b≠ex
theorem RowAt.nil {w0 wr:World}{bs lo ex:Nat}(h:w0.heap.size<=wr.heap.size)(hx:w0.heap.size<=ex):RowAt w0 bs lo ex [] (.slice none 0 0) wr:=
 ⟨[],λ_=>False,World.ownsRow_nil _ _ _ _,TreesF.nil (λb hb=>hb.elim),λb hb=>hb.elim⟩
theorem Zd {w:World}{bs:Nat}{e:TypeId}{size n:Nat}{v:Value}{xs:List Value}(h:w.ownsRow bs e size v n xs){g:Nat}(hg:v.ownBlock=some g):bs<=g/\g<w.heap.size:=by
 rcases h.2 with⟨rfl,_⟩ |⟨g',cap,cur,rfl,hb,hh,_⟩
 ·simp[Value.ownBlock] at hg
 simp only[Value.ownBlock,Option.some.injEq] at hg;subst hg;exact⟨hb,(Array.getElem?_eq_some_iff.1 hh).1⟩
theorem RowAt.grown {w0 wr w2:World}{bs lo ex rb:Nat}{acc:List Tree}{v:Value}(h:RowAt w0 bs lo ex acc v wr)(hg:wr.grownBy w2 (some rb))(h1:w0.heap.size<=rb)(h2:rb<lo)(h3:rb<bs):RowAt w0 bs lo ex acc v w2:=by
 obtain⟨us,P,ho,ht,hp⟩:=h;refine⟨us,P,?_,ht.keep (λp hp2=>?_) (λ_ h=>h) (λb hb=>Nat.lt_of_lt_of_le (ht.lt b hb) hg.size),λb hb=>⟨(hp b hb).1.wide Lr hg.size,(hp b hb).2⟩⟩
 ·refine ho.kept hg ?_
  cases hv:v.ownBlock with
  |none=>exact .inl rfl
  |some g=>
   refine .inr (λe=>?_);injection e with e
   have:=(Zd ho hv).1;omega
 have:=(hp _ hp2).1;exact World.cell?_of_block (hg.block p.block (ht.lt _ hp2) (λe=>by injection e with e;unfold In at this;omega))
theorem RowAt.setRow {w0 wr:World}{bs lo ex q:Nat}{acc:List Tree}{v:Value}{cs:Array Value}(h:RowAt w0 bs lo ex acc v wr)(h1:q=ex)(h3:q<bs):RowAt w0 bs lo ex acc v (wr.setRow q cs):=by
 obtain⟨us,P,ho,ht,hp⟩:=h;refine⟨us,P,⟨ho.1,?_⟩,ht.keep (λp hp2=>cell_setRow_other _ _ _ _ (by rw[h1];exact(hp _ hp2).2.2)) (λ_ h=>h) (λb hb=>by rw[setRow_size];exact ht.lt b hb),λb hb=>by rw[setRow_size];exact hp b hb⟩;rcases ho.2 with h0 |⟨g,cap,cur,e1,e2,e3,r⟩
 ·exact .inl h0
 exact .inr ⟨g,cap,cur,e1,e2,by rw[setRow_other _ _ _ _ (by omega)];exact e3,r⟩
theorem RowAt.snoc {w0 W w':World}{bs lo ex lo1 hi1:Nat}{acc:List Tree}{v v':Value}{us:List Value}{P:Nat->Prop}{t:Tree}{x:List Value}
 (ho:W.ownsRow bs 28 8 v acc.length us) (ht:TreesF W P acc us) (hp:∀b,P b->In w0.heap.size lo W.heap.size b/\some b≠v.ownBlock/\b≠ex) (hx:TreeF W (In w0.heap.size lo1 hi1) t x)
 (hlo:lo<=lo1) (hbs:w0.heap.size<=bs) (hg1:∀g,v.ownBlock=some g->g<lo1) (hex:w0.heap.size<=ex/\ex<lo1)
 (ho':w'.ownsRow bs 28 8 v' (acc.length+1) (us++x)) (hg:W.grownBy w' v.ownBlock) (hv:v'.ownBlock=v.ownBlock\/v'.ownBlock=some W.heap.size):RowAt w0 bs lo ex (acc++[t]) v' w':=by
 have hI:∀b,In w0.heap.size lo1 hi1 b->some b≠v.ownBlock:=λb hb e=>by
  have h1:=Zd ho e.symm;have h2:=hg1 b e.symm;unfold In at hb;omega
 have kx:TreeF w' (λb=>P b\/In w0.heap.size lo1 hi1 b) t x:=hx.keep (λp hp2=>World.cell?_of_block (hg.block p.block (hx.lt _ hp2) (hI _ hp2))) (λb hb=> .inr hb) (λb hb=>Nat.lt_of_lt_of_le (hb.elim (ht.lt b) (hx.lt b)) hg.size);have kt:TreesF w' (λb=>P b\/In w0.heap.size lo1 hi1 b) acc us:=ht.keep (λp hp2=>World.cell?_of_block (hg.block p.block (ht.lt _ hp2) (hp _ hp2).2.1)) (λb hb=> .inl hb) (λb hb=>Nat.lt_of_lt_of_le (hb.elim (ht.lt b) (hx.lt b)) hg.size);refine⟨us++x,_,by rw[List.length_append];exact ho',kt.snoc kx,λb hb=>?_⟩;have hlt:b<W.heap.size:=hb.elim (ht.lt b) (hx.lt b);refine⟨?_,?_,?_⟩
 ·rcases hb with hb |hb
  ·exact(hp b hb).1.wide Lr hg.size
  have:=hg.size;unfold In at*;omega
 ·rcases hv with hv |hv
  ·rw[hv]
   exact hb.elim (λh=>(hp b h).2.1) (hI b)
  rw[hv];intro e;injection e with e
  omega
 rcases hb with hb |hb
 ·exact(hp b hb).2.2
 unfold In at hb;omega
theorem RowAt.one {w0 W:World}{bs lo ex:Nat}{P:Nat->Prop}{t:Tree}{x:List Value}(hx:TreeF W P t x)(hp:∀b,P b->In w0.heap.size lo W.heap.size b/\b≠ex)(hl:x.length=8)(hbs:bs<=W.heap.size):
 RowAt w0 bs lo ex [t] (.slice (some ⟨W.heap.size,0,none⟩) 1 1) (W.alloc (.cells x.toArray 28)):=by
 have hb:Below W.heap.size W (W.alloc (.cells x.toArray 28)):=Br.alloc Lr _;refine⟨x,P,⟨by rw[hl];rfl,.inr ⟨W.heap.size,1,x.toArray,rfl,hbs,heap_alloc_new W _,Lr,by decide,by simp[hl],by simp;exact List.take_of_length_le (by omega)⟩⟩,TreesF.one (hx.below hb),λb hb2=>⟨(hp b hb2).1.wide Lr hb.size,?_,(hp b hb2).2⟩⟩;simp only[Value.ownBlock];intro e;injection e with e
 have:=hx.lt b hb2;omega
theorem RowAt.slice {w0 wr:World}{bs lo ex:Nat}{acc:List Tree}{v:Value}(h:RowAt w0 bs lo ex acc v wr)(hlo:lo<=bs)(hn:acc.length<=100000000)(h0:w0.heap.size<=wr.heap.size):
 ∃A4 c4 us,v= .slice A4 acc.length c4/\Fits acc.length c4 136/\TreesF wr (In w0.heap.size lo wr.heap.size) acc us/\
  (us=[]\/∃g off,A4=some ⟨g,off,none⟩/\In w0.heap.size lo wr.heap.size g/\∀j v,us[j]? =some v->wr.cell? ⟨g,off+j,none⟩=some v):=by
 obtain⟨us,P,ho,ht,hp⟩:=h;have hT:TreesF wr (In w0.heap.size lo wr.heap.size) acc us:=ht.keep (λ_ _=>rfl) (λb hb=>(hp b hb).1) (λb hb=>by unfold In at hb;omega);have ho2:=ho;rcases ho.2 with⟨rfl,h1⟩ |⟨g,cap,cur,rfl,hb,hh,h2,h3,h4,h5⟩
 ·refine⟨none,0,us,by rw[h1],by rw[h1];exact He _,hT,.inl ?_⟩
  have:=ho.1;rw[h1] at this;exact List.eq_nil_of_length_eq_zero (by omega)
 refine⟨some ⟨g,0,none⟩,cap,us,rfl,⟨h2,by omega,by unfold maxLen at h3;omega⟩,hT,.inr ⟨g,0,rfl,.inr ⟨by omega,(Array.getElem?_eq_some_iff.1 hh).1⟩,λj u hu=>?_⟩⟩;have:=ho2.cells (g:=g) rfl j u hu;rwa[Addr.add_mid] at this
theorem Pj {a b d:World}{r bs:Nat}{row:Option Nat}(h:a.grownBy b (some r))(k:b.grownBy d row)(hr:∀g,row=some g->bs<=g)(hb:a.heap.size<=bs):a.grownBy d (some r):=
 ⟨k.os.trans h.os,k.tape.trans h.tape,k.output.trans h.output,Nat.le_trans h.size k.size,λi hi hne=>by
  rw[k.block i (Nat.lt_of_lt_of_le hi h.size) (λe=>by have:=hr i e.symm;omega)];exact h.block i hi hne⟩
theorem RdAt.append {w0:World}{ts:List Tk.Tok}{A:Option Addr}{c rb i bs:Nat}{w w':World}{row:Option Nat}(h:RdAt w0 ts A c rb i w)(hg:w.grownBy w' row)(hr:∀g,row=some g->bs<=g)(hb:rb<bs):RdAt w0 ts A c rb i w':=
 ⟨(hg.block rb h.lt (λe=>by have:=hr rb e.symm;omega)).trans h.cells,h.old.trans ⟨hg.os,hg.tape,hg.output,hg.size,λk hk=>by
  have h1:=h.lo;have h2:=h.old.size;exact hg.block k (by omega) (λe=>by have:=hr k e.symm;omega)⟩,h.lo,h.le⟩
theorem Ng {w w':World}{q bs:Nat}{o:Obj}{row:Option Nat}(h:w.heap[q]? =some o)(hg:w.grownBy w' row)(hr:∀g,row=some g->bs<=g)(hb:q<bs):w'.heap[q]? =some o:=
 (hg.block q (Array.getElem?_eq_some_iff.1 h).1 (λe=>by have:=hr q e.symm;omega)).trans h
theorem Ai:(Tryz.prog.info? 28).map (λi=>(i.zero,i.size,i.bytes))=some (some (.agg #[.int .i64 0,.int .i64 0,.string ⟨#[]⟩,.bool false,.slice none 0 0,.slice none 0 0,.slice none 0 0,.slice none 0 0]),8,136):=by kernel_rfl
end
section
open Go.RowKit Tr
variable [Dc]
section
variable {w0 : World} {ts : List Tk.Tok} {A : Option Addr} {c rb : Nat}
theorem C8.one (x:C8):∀u∈x.l,u.oneCell'=true:=by
 intro u hu;unfold C8.l at hu;simp only[List.mem_cons,List.not_mem_nil,or_false] at hu;rcases hu with rfl |rfl |rfl |rfl |rfl |rfl |rfl |rfl<;>rfl
def Fka (w0:World)(ts:List Tk.Tok)(A:Option Addr)(c rb:Nat)(Fn:FuncId)(pr:Nat->Bool->List Tk.Tok->Pr.Res (List Tree))(F:Nat):Prop:=
 ∀f,f<=F->∀(b:Bool) (i:Nat) (w:World) r,RdAt w0 ts A c rb i w->pr f b (ts.drop i)=some r->Calls Tryz.prog Fn #[.pointer (some ⟨rb,0,none⟩),.bool b] w (Tqa w0 ts A c rb w r)
def Nca (w0:World)(ts:List Tk.Tok)(A:Option Addr)(c rb:Nat)(b:Bool)(w:World)(r:Option (List Tree×List Tk.Tok))(f gk:Nat)(v:Value)(wr:World):Prop:=
 ∃acc j,RdAt w0 ts A c rb j wr/\w.grownBy wr (some rb)/\RowAt w0 w.heap.size w.heap.size rb acc v wr/\acc.length+gk<=f/\Pr.bnd (Pr.stmts gk b (ts.drop j)) (λl V=>Pr.ret (acc++l) V)=some r
theorem Oca (F:Nat)(hFb:F<=10000000)(hT:Yd w0 ts A c)(hS:Cka w0 ts A c rb 53 Pr.stmt F):
 Fka w0 ts A c rb 25 Pr.stmts (F+1):=by
 intro f hf b i w r h hp;obtain⟨i0,hi0,hzz0,hzz1,hzz2⟩:=info_parts Ai;have hlt:=h.lt;have hlo:=h.lo;have hq0:w0.heap.size<=w.heap.size:=h.old.size;have HREL:Hid (Nca w0 ts A c rb b w r f f (.slice none 0 0) w):=Qd ⟨[],i,h,Ef _ _,RowAt.nil hq0 (by omega),by simp,by
  rw[<-hp];cases Pr.stmts f b (ts.drop i) with
  |none=>rfl
  |some o=>cases o<;>rfl⟩
 clear h hp;go_enter Tryz.func25,Tryz.ntmps25
 go_wp2_with fail
 go_loopg [6] f (λgk vv wr=>Hid (Nca w0 ts A c rb b w r f gk vv wr))
 case atStart=>exact HREL
 case round=>
  clear HREL;obtain⟨acc,j,HRo,HGo,HRow,hlen,hp⟩:=hrel.out;clear hrel;have HR:=Qd HRo;have HG:=Qd HGo;have HRW:=Qd HRow;have hsr:=HGo.size;clear HRo HGo HRow;rcases Nat.eq_zero_or_pos gk with h0 |h0
  ·subst h0
   rw[Pr.stmts] at hp;cases hp
  obtain⟨g,rfl⟩:∃g,gk=g+1:=⟨gk-1,by omega⟩;rw[Pr.stmts] at hp;cases h1:Pr.stmt g b (ts.drop j) with
  |none=>rw[h1] at hp;cases hp
  |some s1=>
   cases s1 with
   |none=>
    rw[h1] at hp;have hp2:r=none:=(Option.some.inj hp).symm;subst hp2;have P1:=Qd (hS g (by omega) b j wr none HR.out h1);clear hp h1;go_wp2_with fail
    refine P1.out.mono ?_;rintro e w1 ⟨x1,j1,hR1,hG1,he⟩;subst he;have HR1:=Qd hR1;have HG1:=Qd hG1;clear hR1 hG1;go_wp2_with fail
    go_ret2
    exact⟨j1,HR1.out.alloc _,Uc (Fa HG.out HG1.out) _,none,0,0,rfl⟩
   |some p1=>
    obtain⟨t1,U1⟩:=p1;rw[h1] at hp;have P1:=Qd (hS g (by omega) b j wr (some (t1,U1)) HR.out h1);clear h1;go_wp2_with fail
    refine P1.out.mono ?_;rintro e w1 ⟨x1,j1,hR1,hG1,he⟩;obtain⟨rfl,hU1,hT1⟩:=he;subst hU1;have hs1:=hG1.size;obtain⟨w2,hw2⟩:∃w2,w2=w1.alloc (.cells #[.int .i64 x1.k,.int .i64 x1.o,.string ⟨x1.m.toArray⟩,.bool x1.g,.slice x1.A1 x1.n1 x1.c1,.slice x1.A2 x1.n2 x1.c2,.slice x1.A3 x1.n3 x1.c3,.slice x1.A4 x1.n4 x1.c4] 28):=⟨_,rfl⟩;have hb2:Below w1.heap.size w1 w2:=by rw[hw2];exact Br.alloc Lr _
    have hs2:w1.heap.size+1<=w2.heap.size:=by rw[hw2];simp
    have hz2:w2.heap.size<=w1.heap.size+1:=by rw[hw2];simp
    have B2:Hid (w2.heap[w1.heap.size]? =some (.cells x1.a 28 (0,0))):=Qd (by rw[hw2];exact heap_alloc_new _ _);have HR2:=Qd (hR1.below hb2);have HG2:Hid (w.grownBy w2 (some rb)):=Qd (Fa HG.out (Fa hG1 (Ea rb hb2)));have HRW2:=Qd ((HRW.out.grown hG1 hlo hlt hlt).grown (Ea rb hb2) hlo hlt hlt);have HT2:=Qd (hT1.below hb2);have hb3:∀o,Below w2.heap.size w2 (w2.alloc o):=λo=>Br.alloc Lr _;obtain⟨us,P,ho,ht,hpP⟩:=HRW2.out.grown (Ea rb (hb3 (.cells x1.l.toArray 28))) hlo hlt hlt;have HOWN:=Qd ho;have HTS:=Qd ht;have HPP:=Qd hpP;have HT3:=Qd (HT2.out.below (hb3 (.cells x1.l.toArray 28)));have HR3:=Qd (HR2.out.alloc (.cells x1.l.toArray 28));have HG3:=Qd (Uc HG2.out (.cells x1.l.toArray 28));have HOB:Hid (∀g,u6.ownBlock=some g->g<wr.heap.size):=Qd (λg hg=>by
     obtain⟨us',P',ho',_⟩:=HRW.out;exact(Zd ho' hg).2)
    have HBS:Hid (∀g,u6.ownBlock=some g->w.heap.size<=g):=Qd (λg hg=>(Zd ho hg).1);have HW2:=Qd hw2;clear hR1 hG1 hT1 hb2 hw2 ho ht hpP hb3;go_upto_region 3 with fail
    rw[<-HW2.out];go_wp2_with (first
     |(with_reducible refine Ka rfl (.tmp 7) rfl w1.heap.size rfl B2.out ?_)
     |(at_builtin;refine wpList_append_own_at _ rfl _ _ 26 rfl w.heap.size 28 i0 _ 8 136 Tryz.underlying26 hi0 hzz0 hzz1 hzz2 rfl (by decide) u6 acc.length us rfl HOWN.out ⟨_,0,none⟩ 1 1 x1.l rfl rfl (Zh _ _ _) (C8.one x1) (by unfold maxLen;omega) (by omega) (by simp;omega) ?_;intro v' w4 hown' hgr hnil hat))
    have HRW4:Hid (RowAt w0 w.heap.size w.heap.size rb (acc++[t1]) v' w4):=Qd (RowAt.snoc HOWN.out HTS.out HPP.out HT3.out (by omega) hq0 (HOB.out) ⟨hlo,by omega⟩ hown' hgr hat);have HR4:=Qd (HR3.out.append hgr HBS.out hlt);have HG4:=Qd (Pj HG3.out hgr HBS.out Lr);have hs4:=hgr.size;clear hown' hgr hnil hat;by_cases hc:Pr.gl (ts.drop j1) 0=8900
    ·have hce:(Pr.gl (ts.drop j1) 0==8900)=true:=by simp[hc]
     have P5:=Qd (Fd hT 8900 (by decide) j1 w4 HR4.out);rw[hce] at P5;have HN:Hid (Pr.bnd (Pr.stmts g b (ts.drop (j1+1))) (λl V=>Pr.ret ((acc++[t1])++l) V)=some r):=Qd (by
      rw[<-hp];show _=Pr.bnd (if Pr.gl (ts.drop j1) 0=8900 then Pr.bnd (Pr.stmts g b (ts.drop j1).tail) (λl V=>Pr.ret (t1::l) V) else Pr.ret [t1] (ts.drop j1)) (λl V=>Pr.ret (acc++l) V);rw[if_pos hc,drop_tail];cases Pr.stmts g b (ts.drop (j1+1)) with
      |none=>rfl
      |some o=>
       cases o with
       |none=>rfl
       |some q=>show Pr.ret _ _=Pr.ret _ _;rw[List.append_assoc];rfl)
     clear hp hc hce;go_wp2_with fail
     refine P5.out.mono ?_;rintro e w5 ⟨rfl,hR5,hG5⟩;simp only[if_true] at hR5;have HREL2:Hid (Nca w0 ts A c rb b w r f g v' w5):=Qd ⟨acc++[t1],j1+1,hR5,Fa HG4.out hG5,HRW4.out.grown hG5 hlo hlt hlt,by rw[List.length_append];simp;omega,HN.out⟩;clear hR5 hG5;go_wp2_with fail
     go_roundg g
     case rel=>exact HREL2
     case measure=>omega
    have hce:(Pr.gl (ts.drop j1) 0==8900)=false:=by simp[hc]
    have P5:=Qd (Fd hT 8900 (by decide) j1 w4 HR4.out);rw[hce] at P5;have HN:Hid (r=some (acc++[t1],ts.drop j1)):=Qd (by
     have hp':Pr.bnd (if Pr.gl (ts.drop j1) 0=8900 then Pr.bnd (Pr.stmts g b (ts.drop j1).tail) (λl V=>Pr.ret (t1::l) V) else Pr.ret [t1] (ts.drop j1)) (λl V=>Pr.ret (acc++l) V)=some r:=hp;rw[if_neg hc] at hp';exact(Option.some.inj hp').symm)
    clear hp hc hce;go_wp2_with fail
    refine P5.out.mono ?_;rintro e w5 ⟨rfl,hR5,hG5⟩;simp only[if_false,Bool.false_eq_true] at hR5;have HR5:=Qd hR5;have HG5:=Qd (Fa HG4.out hG5);have HRW5:=Qd (HRW4.out.grown hG5 hlo hlt hlt);clear hR5 hG5;go_wp2_with fail
    go_ret2
    have hw5:=HR5.out.old.size;obtain⟨A4,c4,us4,e4,f4,k4,l4⟩:=HRW5.out.slice Lr (by rw[List.length_append];simp;omega) hw5;rw[HN.out];exact⟨j1,HR5.out,HG5.out,rfl,A4,c4,us4,by rw[<-e4];rfl,f4,k4,l4⟩
end
end
section
open Go.RowKit Tr
variable [Dc]
section
variable {w0 : World} {ts : List Tk.Tok} {A : Option Addr} {c rb : Nat}
theorem Wga {ops:Array Oper}{rest:List Oper}{o:Oper}{a:Act}{w:World}{Q:Exit->Act->World->Prop}(hgd:o.guard=none)(x:Operand)(ho:o.op= .load 28 x)
 (b off:Nat) (hx:a.eval x= .pointer (some ⟨b,off,none⟩)) {u0 u1 u2 u3 u4 u5 u6 u7:Value} (hc:w.rangeAt b off [u0,u1,u2,u3,u4,u5,u6,u7])
 (h:wpList Tryz.prog ops Q rest (a.put o.dst (.agg #[u0,u1,u2,u3,u4,u5,u6,u7])) w):wpList Tryz.prog ops Q (o::rest) a w:=
 wpList_load_mid hgd _ x ho b off hx _ _ hc Tryz.underlying28 rfl Hc h
def Pca (w0:World)(ts:List Tk.Tok)(A:Option Addr)(c rb:Nat)(w:World)(r:Option (Tree×List Tk.Tok))(f gk:Nat)(v:Value)(wr:World):Prop:=
 ∃acc j,RdAt w0 ts A c rb j wr/\w.grownBy wr (some rb)/\wr.heap[w.heap.size]? =some (.cells z8 28 (0,0))/\
  RowAt w0 (w.heap.size+1) (w.heap.size+1) rb acc v wr/\acc.length+gk<=f/\Pr.bnd (Pr.arrs gk (ts.drop j)) (λl V=>Pr.ret (Pr.strandT (acc++l)) V)=some r
theorem RowAt.head {w0 wr:World}{bs lo ex:Nat}{t:Tree}{v:Value}(h:RowAt w0 bs lo ex [t] v wr)(h0:w0.heap.size<=wr.heap.size):
 ∃g cap x,v= .slice (some ⟨g,0,none⟩) 1 cap/\1<=cap/\wr.rangeAt g 0 (C8.l x)/\TreeF wr (In w0.heap.size lo wr.heap.size) t x.l:=by
 obtain⟨us,P,ho,ht,hp⟩:=h;have hT:TreesF wr (In w0.heap.size lo wr.heap.size) [t] us:=ht.keep (λ_ _=>rfl) (λb hb=>(hp b hb).1) (λb hb=>by unfold In at hb;omega);have h1:=hT.is wr wr.heap.size (λ_ _=>rfl) hT.lt;rw[IsTrees] at h1;obtain⟨u,t',e,h2,h3⟩:=h1;rw[IsTrees] at h3;subst h3;rw[List.append_nil] at e;subst e;obtain⟨x,rfl,_⟩:=C8.of h2;have hF:TreeF wr (In w0.heap.size lo wr.heap.size) t x.l:=⟨hT.lt,λw' B k1 k2=>by
  have:=hT.is w' B k1 k2;rw[IsTrees] at this;obtain⟨u,t',e,h2,h3⟩:=this;rw[IsTrees] at h3;subst h3;rw[List.append_nil] at e;rw[e];exact h2⟩
 have ho2:=ho;rcases ho.2 with⟨rfl,h1⟩ |⟨g,cap,cur,rfl,hb,hh,h2',h3',h4,h5⟩
 ·cases h1
 exact⟨g,cap,x,rfl,h2',λj u hu=>by have h9:=ho2.cells (g:=g) rfl j u hu;rwa[Addr.add_mid] at h9,hF⟩
theorem K7 (F:Nat)(hFb:F<=10000000)(hT:Yd w0 ts A c)(hS:Tf w0 ts A c rb 140 Pr.arr F):
 Tf w0 ts A c rb 170 (λf T=>Pr.bnd (Pr.arrs f T) λl U=>Pr.ret (Pr.strandT l) U) (F+1):=by
 intro f hf i w r h hp;obtain⟨i0,hi0,hzz0,hzz1,hzz2⟩:=info_parts Ai;have hlt:=h.lt;have hlo:=h.lo;have hq0:w0.heap.size<=w.heap.size:=h.old.size;obtain⟨W,hW⟩:∃W,W=w.alloc (.cells z8 28):=⟨_,rfl⟩;have hWb:Below w.heap.size w W:=by rw[hW];exact Br.alloc Lr _
 have hs0:w.heap.size+1<=W.heap.size:=by rw[hW];simp
 have HREL:Hid (Pca w0 ts A c rb w r f f (.slice none 0 0) W):=Qd ⟨[],i,h.below hWb,Ea rb hWb,by rw[hW];exact heap_alloc_new w _,RowAt.nil (by omega) (by omega),by simp,by rw[<-hp];rfl⟩;have HW:=Qd hW;clear h hp hWb hW;go_enter Tryz.func170,Tryz.ntmps170
 go_upto_region 1 with fail
 rw[<-HW.out];go_wp2_with fail
 go_loopg [4] f (λgk vv wr=>Hid (Pca w0 ts A c rb w r f gk vv wr))
 case atStart=>exact HREL
 case round=>
  clear HREL hs0 HW;obtain⟨acc,j,HRo,HGo,HQo,HRow,hlen,hp⟩:=hrel.out;clear hrel;have HR:=Qd HRo;have HG:=Qd HGo;have HQ:=Qd HQo;have HRW:=Qd HRow;have hsr:=HGo.size;have hwr:=HRo.old.size;have hqs:w.heap.size<wr.heap.size:=(Array.getElem?_eq_some_iff.1 HQo).1;clear HRo HGo HQo HRow;rcases Nat.eq_zero_or_pos gk with h0 |h0
  ·subst h0
   rw[Pr.arrs] at hp;cases hp
  obtain⟨g,rfl⟩:∃g,gk=g+1:=⟨gk-1,by omega⟩;rw[Pr.arrs] at hp;have BA:=Qd (Rh hT j wr HR.out);by_cases hb:Pr.begA (ts.drop j)=true
  ·rw[if_pos hb] at hp
   rw[hb] at BA;clear hb;cases h1:Pr.arr g (ts.drop j) with
   |none=>rw[h1] at hp;cases hp
   |some s1=>
    cases s1 with
    |none=>
     rw[h1] at hp;have hp2:r=none:=(Option.some.inj hp).symm;subst hp2;have P1:=Qd (λw' (hR:RdAt w0 ts A c rb j w')=>hS g (by omega) j w' none hR h1);clear hp h1;go_wp2_with fail
     refine BA.out.mono ?_;rintro e w' ⟨rfl,hb'⟩;have HRb:=Qd (HR.out.below hb');have HGb:=Qd (Fa HG.out (Ea rb hb'));have HQb:=Qd (Ba HQ.out (Ea rb hb') (by omega));clear hb';go_wp2_with fail
     refine(P1.out _ HRb.out).mono ?_;rintro e w1 ⟨x1,j1,hR1,hG1,he⟩;subst he;have HR1:=Qd hR1;have HG1:=Qd (Fa HGb.out hG1);have HQ1:Hid (∀o,(w1.alloc o).heap[w.heap.size]? =some (.cells z8 28 (0,0))):=Qd (λo=>Ba (Ba HQb.out hG1 (by omega)) (Ea rb (Br.alloc Lr _)) (by omega));clear hR1 hG1;go_wp2_with (with_reducible refine Ha rfl (.tmp 2) (.tmp 16) rfl w.heap.size rfl rfl (HQ1.out _) ?_)
     (try simp only[Exit.inBlock,Exit.then])
     refine bodyPost_ret (Wl (by rfl) _ _ w.heap.size (by rfl) (by rfl) (setRow_heap _ _ _ _ _ _ (HQ1.out _))) rfl ?_;exact⟨⟨0,0,[],false,none,0,0,none,0,0,none,0,0,none,0,0⟩,j1,(HR1.out.alloc _).row (by omega) (by omega) _,Xa (Uc HG1.out _) Lr _,rfl⟩
    |some p1=>
     obtain⟨t1,U1⟩:=p1;rw[h1] at hp;have P1:=Qd (λw' (hR:RdAt w0 ts A c rb j w')=>hS g (by omega) j w' (some (t1,U1)) hR h1);clear h1;go_wp2_with fail
     refine BA.out.mono ?_;rintro e w' ⟨rfl,hb'⟩;have HRb:=Qd (HR.out.below hb');have HGb:=Qd (Fa HG.out (Ea rb hb'));have HQb:=Qd (Ba HQ.out (Ea rb hb') (by omega));have HRWb:=Qd (HRW.out.grown (Ea rb hb') hlo (by omega) (by omega));have hsb:=hb'.size;clear hb';go_wp2_with fail
     refine(P1.out _ HRb.out).mono ?_;rintro e w1 ⟨x1,j1,hR1,hG1,he⟩;obtain⟨rfl,hU1,hT1⟩:=he;subst hU1;have hs1:=hG1.size;obtain⟨w2,hw2⟩:∃w2,w2=w1.alloc (.cells #[.int .i64 x1.k,.int .i64 x1.o,.string ⟨x1.m.toArray⟩,.bool x1.g,.slice x1.A1 x1.n1 x1.c1,.slice x1.A2 x1.n2 x1.c2,.slice x1.A3 x1.n3 x1.c3,.slice x1.A4 x1.n4 x1.c4] 28):=⟨_,rfl⟩;have hb2:Below w1.heap.size w1 w2:=by rw[hw2];exact Br.alloc Lr _
     have hs2:w1.heap.size+1<=w2.heap.size:=by rw[hw2];simp
     have hz2:w2.heap.size<=w1.heap.size+1:=by rw[hw2];simp
     have B2:Hid (w2.heap[w1.heap.size]? =some (.cells x1.a 28 (0,0))):=Qd (by rw[hw2];exact heap_alloc_new _ _);have HR2:=Qd (hR1.below hb2);have HG2:Hid (w.grownBy w2 (some rb)):=Qd (Fa HGb.out (Fa hG1 (Ea rb hb2)));have HQ2:=Qd (Ba (Ba HQb.out hG1 (by omega)) (Ea rb hb2) (by omega));have HRW2:=Qd ((HRWb.out.grown hG1 hlo (by omega) (by omega)).grown (Ea rb hb2) hlo (by omega) (by omega));have HT2:=Qd (hT1.below hb2);have hb3:∀o,Below w2.heap.size w2 (w2.alloc o):=λo=>Br.alloc Lr _;obtain⟨us,P,ho,ht,hpP⟩:=HRW2.out.grown (Ea rb (hb3 (.cells x1.l.toArray 28))) hlo (by omega) (by omega);have HOWN:=Qd ho;have HTS:=Qd ht;have HPP:=Qd hpP;have HT3:=Qd (HT2.out.below (hb3 (.cells x1.l.toArray 28)));have HR3:=Qd (HR2.out.alloc (.cells x1.l.toArray 28));have HG3:=Qd (Uc HG2.out (.cells x1.l.toArray 28));have HQ3:=Qd (Ba HQ2.out (Ea rb (hb3 (.cells x1.l.toArray 28))) (by omega));have HOB:Hid (∀g,u4.ownBlock=some g->g<w'.heap.size):=Qd (λg hg=>by
      obtain⟨us',P',ho',_⟩:=HRWb.out;exact(Zd ho' hg).2)
     have HBS:Hid (∀g,u4.ownBlock=some g->w.heap.size+1<=g):=Qd (λg hg=>(Zd ho hg).1);have HW2:=Qd hw2;clear hR1 hG1 hT1 hb2 hw2 ho ht hpP hb3;go_upto_region 4 with fail
     rw[<-HW2.out];go_wp2_with (first
      |(with_reducible refine Ka rfl (.tmp 5) rfl w1.heap.size rfl B2.out ?_)
      |(at_builtin;refine wpList_append_own_at _ rfl _ _ 26 rfl (w.heap.size+1) 28 i0 _ 8 136 Tryz.underlying26 hi0 hzz0 hzz1 hzz2 rfl (by decide) u4 acc.length us rfl HOWN.out ⟨_,0,none⟩ 1 1 x1.l rfl rfl (Zh _ _ _) (C8.one x1) (by unfold maxLen;omega) (by omega) (by simp;omega) ?_;intro v' w4 hown' hgr hnil hat))
     have HN:Hid (Pr.bnd (Pr.arrs g (ts.drop j1)) (λl V=>Pr.ret (Pr.strandT ((acc++[t1])++l)) V)=some r):=Qd (by
      rw[<-hp];show _=Pr.bnd (Pr.bnd (Pr.arrs g (ts.drop j1)) (λl V=>Pr.ret (t1::l) V)) (λl V=>Pr.ret (Pr.strandT (acc++l)) V);cases Pr.arrs g (ts.drop j1) with
      |none=>rfl
      |some o=>
       cases o with
       |none=>rfl
       |some q=>show Pr.ret _ _=Pr.ret _ _;rw[List.append_assoc];rfl)
     have HREL2:Hid (Pca w0 ts A c rb w r f g v' w4):=Qd ⟨acc++[t1],j1,HR3.out.append hgr HBS.out (by omega),Pj HG3.out hgr HBS.out (by omega),Ng HQ3.out hgr HBS.out (by omega),
      RowAt.snoc HOWN.out HTS.out HPP.out HT3.out (by omega) (by omega) (HOB.out) ⟨hlo,by omega⟩ hown' hgr hat,by rw[List.length_append];simp;omega,HN.out⟩
     clear hown' hgr hnil hat hp
     go_roundg g
     case rel=>exact HREL2
     case measure=>omega
  rw[if_neg hb] at hp;have hbf:Pr.begA (ts.drop j)=false:=by simpa using hb
  rw[hbf] at BA;have hr:r=some (Pr.strandT acc,ts.drop j):=by
   have hp':Pr.ret (Pr.strandT (acc++[])) (ts.drop j)=some r:=hp;rw[List.append_nil] at hp';exact(Option.some.inj hp').symm
  clear hp hb hbf;subst hr;by_cases h1:acc.length=1
  ·obtain⟨t,rfl⟩:∃t,acc=[t]:=by
    match acc,h1 with
    | [t],_=>exact⟨t,rfl⟩
   obtain⟨gb,cap,x,rfl,hcap,hr0,hF⟩:=HRW.out.head hwr;have HR0:Hid (∀w',Below wr.heap.size wr w'->w'.rangeAt gb 0 [.int .i64 x.k,.int .i64 x.o,.string ⟨x.m.toArray⟩,.bool x.g,.slice x.A1 x.n1 x.c1,.slice x.A2 x.n2 x.c2,.slice x.A3 x.n3 x.c3,.slice x.A4 x.n4 x.c4]):=Qd (λw' hb' q u hu=>by
    have hgl:gb<wr.heap.size:=by
     obtain⟨us',P',ho',_⟩:=HRW.out;exact(Zd ho' (g:=gb) rfl).2
    exact(hb'.cell (p:=⟨gb,0+q,none⟩) hgl).trans (hr0 q u hu))
   have HF:=Qd hF;have hone:(([t]:List Tree).length:Int)=1:=rfl;clear hr0 hF h1;go_wp2_with fail
   refine BA.out.mono ?_;rintro e w' ⟨rfl,hb'⟩;have HRb:=Qd (HR.out.below hb');have HGb:=Qd (Fa HG.out (Ea rb hb'));have HQb:=Qd (Ba HQ.out (Ea rb hb') (by omega));have HFb:=Qd (HF.out.below hb');have HRx:=Qd (HR0.out w' hb');have hsb:=hb'.size;have hwo:=HRb.out.old.size;clear hb';go_wp2_with (first|(with_reducible refine Wga rfl (.tmp 25) rfl gb 0 rfl HRx.out ?_) |(with_reducible refine Ha rfl (.tmp 2) (.tmp 26) rfl w.heap.size rfl rfl HQb.out ?_))
   (try simp only[Exit.inBlock,Exit.then])
   refine bodyPost_ret (Wl (by rfl) _ _ w.heap.size (by rfl) (by rfl) (setRow_heap _ _ _ _ _ _ HQb.out)) rfl ?_;exact⟨x,j,HRb.out.row (by omega) (by omega) _,Xa HGb.out Lr _,rfl,rfl,((HFb.out.setRow (q:=w.heap.size) (by omega) (.inl (by omega))).wide (by omega) (by rw[setRow_size];omega) Lr (by rw[setRow_size];omega))⟩
  have hs8:Pr.strandT acc=Pr.node 8 0 [] acc:=by
   match acc,h1 with
   | [],_=>rfl
   | [t],h=>exact absurd rfl h
   |a::b::l,_=>rfl
  rw[hs8];obtain⟨A4,c4,us,rfl,hfit,hTS,hli⟩:=HRW.out.slice Lr (by omega) hwr;have HND:Hid (TreeF wr (In w0.heap.size (w.heap.size+1) wr.heap.size) (Pr.node 8 0 [] acc) (C8.l ⟨8,0,[],false,none,0,0,none,0,0,none,0,0,A4,acc.length,c4⟩)):=Qd (TreeF.node (Za (by omega)) (by simp) hfit hTS hli);have n1:((acc.length:Int)==1)=false:=by simp;omega
  have HS8:=Qd hs8;clear hfit hTS hli hs8 h1;go_wp2_with fail
  refine BA.out.mono ?_;rintro e w' ⟨rfl,hb'⟩;have HRb:=Qd (HR.out.below hb');have HGb:=Qd (Fa HG.out (Ea rb hb'));have HQb:=Qd (Ba HQ.out (Ea rb hb') (by omega));have HFb:=Qd (HND.out.below hb');have hsb:=hb'.size;have hwo:=HRb.out.old.size;clear hb';go_wp2_with (with_reducible refine Ha rfl (.tmp 2) (.tmp 28) rfl w.heap.size rfl rfl HQb.out ?_)
  (try simp only[Exit.inBlock,Exit.then])
  refine bodyPost_ret (Wl (by rfl) _ _ w.heap.size (by rfl) (by rfl) (setRow_heap _ _ _ _ _ _ HQb.out)) rfl ?_;exact⟨⟨8,0,[],false,none,0,0,none,0,0,none,0,0,A4,acc.length,c4⟩,j,HRb.out.row (by omega) (by omega) _,Xa HGb.out Lr _,rfl,rfl,by rw[HS8.out];exact((HFb.out.setRow (lo:=w.heap.size+1) (hi:=wr.heap.size) (q:=w.heap.size) (cs:= #[.int .i64 8,.int .i64 0,.string ⟨#[]⟩,.bool false,.slice none 0 0,.slice none 0 0,.slice none 0 0,.slice A4 acc.length c4]) (by omega) (.inl (by omega))).wide (lo':=w.heap.size) (hi':=(w'.setRow w.heap.size #[.int .i64 8,.int .i64 0,.string ⟨#[]⟩,.bool false,.slice none 0 0,.slice none 0 0,.slice none 0 0,.slice A4 acc.length c4]).heap.size) (by omega) (by rw[setRow_size];omega) Lr (by rw[setRow_size];omega))⟩
end
end
section
open Go.RowKit Tr
variable [Dc]
theorem EOut.open_ {w0:World}{ts:List Tk.Tok}{A:Option Addr}{c rb:Nat}{w:World}{s:Option (Tree×List Tk.Tok)}{e:Ending}{w':World}(h:EOut w0 ts A c rb w s e w'):
 ∃(x:C8) (j:Nat) (b:Bool),e= .returned (.tuple #[.agg #[.int .i64 x.k,.int .i64 x.o,.string ⟨x.m.toArray⟩,.bool x.g,.slice x.A1 x.n1 x.c1,.slice x.A2 x.n2 x.c2,.slice x.A3 x.n3 x.c3,.slice x.A4 x.n4 x.c4],.bool b])/\RdAt w0 ts A c rb j w'/\w.grownBy w' (some rb)/\
  ((b=true/\∃t,s=some (t,ts.drop j)/\TreeF w' (In w0.heap.size w.heap.size w'.heap.size) t x.l)\/(b=false/\s=none)):=by
 obtain⟨x,j,hR,hG,h⟩:=h;cases s with
 |none=>exact⟨x,j,false,h,hR,hG,.inr ⟨rfl,rfl⟩⟩
 |some p=>
  obtain⟨t,U⟩:=p;obtain⟨h1,h2,h3⟩:=h;subst h2;exact⟨x,j,true,h1,hR,hG,.inl ⟨rfl,t,rfl,h3⟩⟩
def Vy (w0:World)(ts:List Tk.Tok)(A:Option Addr)(c rb:Nat)(w:World)(r:Option (Tree×List Tk.Tok))(ab f gk:Nat)(ov:Value)(wr:World):Prop:=
 ∃(x:C8) (j:Nat) (b:Bool),ov= .bool b/\gk<=f/\RdAt w0 ts A c rb j wr/\w.grownBy wr (some rb)/\wr.heap[w.heap.size]? =some (.cells z8 28 (0,0))/\wr.heap[ab]? =some (.cells x.a 28 (0,0))/\
  ((b=true/\∃t P,TreeF wr P t x.l/\(∀q,P q->In w0.heap.size (w.heap.size+1) wr.heap.size q/\q≠ab)/\Pr.more gk t (ts.drop j)=some r)\/(b=false/\r=none))
def Xp (g:Nat)(l:List Tree)(U:List Tk.Tok):Pr.Res Tree:=if Pr.gl U 0=93 then Pr.more g (Pr.node 9 0 [] l) U.tail else Pr.fail
def Ml (w0:World)(ts:List Tk.Tok)(A:Option Addr)(c rb:Nat)(w:World)(r:Option (Tree×List Tk.Tok))(ab g f gi:Nat)(kv mv:Value)(wr:World):Prop:=
 ∃(acc:List Tree) (x:C8) (j:Nat) (b:Bool),mv= .bool b/\RdAt w0 ts A c rb j wr/\w.grownBy wr (some rb)/\wr.heap[w.heap.size]? =some (.cells z8 28 (0,0))/\wr.heap[ab]? =some (.cells x.a 28 (0,0))/\
  RowAt w0 (ab+1) (w.heap.size+1) ab acc kv wr/\acc.length+gi<=f/\
  ((b=true/\Pr.bnd (Pr.places gi (ts.drop j)) (λl U=>Xp g (acc++l) U)=some r)\/(b=false/\Xp g acc (ts.drop j)=some r))
theorem Yp {g f:Nat}{acc:List Tree}{p:Tree}{U:List Tk.Tok}{r:Option (Tree×List Tk.Tok)}(h:Pr.bnd (if Pr.gl U 0=59 then Pr.bnd (Pr.places g U.tail) λl V=>Pr.ret (p::l) V else Pr.ret [p] U) (λl U=>Xp f (acc++l) U)=some r):
 (Pr.gl U 0=59->Pr.bnd (Pr.places g U.tail) (λl U=>Xp f ((acc++[p])++l) U)=some r)/\(Pr.gl U 0≠59->Xp f (acc++[p]) U=some r):=by
 constructor
 ·intro h1
  rw[if_pos h1] at h;rw[<-h];cases Pr.places g U.tail with
  |none=>rfl
  |some o=>
   cases o with
   |none=>rfl
   |some q=>show Xp f _ _=Xp f _ _;rw[List.append_assoc];rfl
 intro h1;rw[if_neg h1] at h;exact h
theorem Gka {w0 wa:World}{lo ab:Nat}{t:Tree}{x:C8}{P:Nat->Prop}(h:TreeF wa P t x.l)(hP:∀q,P q->In w0.heap.size lo wa.heap.size q/\q≠ab)(hab:ab<wa.heap.size):
 RowAt w0 (ab+1) lo ab [t] (.slice (some ⟨wa.heap.size,0,none⟩) 1 1) (wa.alloc (.cells x.a 28)):=
 RowAt.one (bs:=ab+1) (lo:=lo) (ex:=ab) h hP rfl (by omega)
theorem Hka {wr:World}{bs:Nat}{acc:List Tree}{us:List Value}{P:Nat->Prop}{A4:Option Addr}{c4:Nat}(ho:wr.ownsRow bs 28 8 (.slice A4 acc.length c4) acc.length us)(ht:TreesF wr P acc us)(hf:Fits acc.length c4 136):
 TreeF wr (λq=>P q\/(Value.slice A4 acc.length c4).ownBlock=some q) (Pr.node 9 0 [] acc) (Qa 9 0 [] Rt.none_ [] acc.length none none none A4 0 0 0 c4):=by
 have hl:∀q,(P q\/(Value.slice A4 acc.length c4).ownBlock=some q)->q<wr.heap.size:=λq hq=>hq.elim (ht.lt q) (λh=>(Zd ho h).2);refine TreeF.node (Za (by omega)) (by simp) hf (ht.keep (λ_ _=>rfl) (λq h=> .inl h) hl) ?_;have ho2:=ho;rcases ho.2 with⟨h0,h1⟩ |⟨g,cap,cur,e,hb,hh,h2,h3,h4,h5⟩
 ·refine .inl ?_
  have:=ho.1;rw[h1] at this;exact List.eq_nil_of_length_eq_zero (by omega)
 injection e with e1 e2 e3
 subst e1;exact .inr ⟨g,0,rfl,.inr rfl,λj u hu=>by have h9:=ho2.cells (g:=g) rfl j u hu;rwa[Addr.add_mid] at h9⟩
theorem EOut.bool {w0:World}{ts:List Tk.Tok}{A:Option Addr}{c rb:Nat}{w:World}{r:Option (Tree×List Tk.Tok)}{e:Ending}{w':World}{x:C8}{j:Nat}{b:Bool}(he:e= .returned (.tuple #[.agg #[.int .i64 x.k,.int .i64 x.o,.string ⟨x.m.toArray⟩,.bool x.g,.slice x.A1 x.n1 x.c1,.slice x.A2 x.n2 x.c2,.slice x.A3 x.n3 x.c3,.slice x.A4 x.n4 x.c4],.bool b]))(h1:RdAt w0 ts A c rb j w')(h2:w.grownBy w' (some rb))
 (h:(b=true/\∃t,r=some (t,ts.drop j)/\TreeF w' (In w0.heap.size w.heap.size w'.heap.size) t x.l)\/(b=false/\r=none)):EOut w0 ts A c rb w r e w':=by
 rcases h with⟨rfl,t,rfl,h⟩ |⟨rfl,rfl⟩
 ·exact⟨x,j,h1,h2,he,rfl,h⟩
 exact⟨x,j,h1,h2,he⟩
section
variable {w0 : World} {ts : List Tk.Tok} {A : Option Addr} {c rb : Nat}
theorem Qca (F:Nat)(hFb:F<=10000000)(hT:Yd w0 ts A c)(hA:Tf w0 ts A c rb 169 Pr.alone F)(hE:Tf w0 ts A c rb 88 Pr.expr F):
 Tf w0 ts A c rb 140 Pr.arr (F+1):=by
 intro f hf i w r h hp;cases f with
 |zero=>cases hp
 |succ f=>
  have hfF:f<=F:=by omega
  rw[Pr.arr] at hp;obtain⟨W,hW⟩:∃W,W=w.alloc (.cells z8 28):=⟨_,rfl⟩;have hWb:Below w.heap.size w W:=by rw[hW];exact Br.alloc Lr _
  have hs0:w.heap.size+1<=W.heap.size:=by rw[hW];simp
  have hz0:W.heap.size<=w.heap.size+1:=by rw[hW];simp
  have HQ:Hid (W.heap[w.heap.size]? =some (.cells z8 28 (0,0))):=Qd (by rw[hW];exact heap_alloc_new w _);have HRW:=Qd (h.below hWb);have hlt:=h.lt;have hlo:=h.lo;have hq0:w0.heap.size<=w.heap.size:=h.old.size;have HW:=Qd hW;have HG0:Hid (w.grownBy W (some rb)):=Qd (Ea rb hWb);clear hW hWb h;obtain⟨i0,hi0,hzz0,hzz1,hzz2⟩:=info_parts Ai;cases h1:Pr.alone f (ts.drop i) with
  |none=>rw[h1] at hp;cases hp
  |some s1=>
   rw[h1] at hp;have P1:=Qd (hA f hfF i W s1 HRW.out h1);clear h1;go_enter Tryz.func140,Tryz.ntmps140
   go_upto_region 1 with fail
   rw[<-HW.out];go_wp2_with fail
   refine P1.out.mono ?_;rintro e w1 hE1;obtain⟨x1,j1,b1,rfl,hR1,hG1,hd1⟩:=hE1.open_;have hs1:=hG1.size;obtain⟨w2,hw2⟩:∃w2,w2=w1.alloc (.cells #[.int .i64 x1.k,.int .i64 x1.o,.string ⟨x1.m.toArray⟩,.bool x1.g,.slice x1.A1 x1.n1 x1.c1,.slice x1.A2 x1.n2 x1.c2,.slice x1.A3 x1.n3 x1.c3,.slice x1.A4 x1.n4 x1.c4] 28):=⟨_,rfl⟩;have hb2:Below w1.heap.size w1 w2:=by rw[hw2];exact Br.alloc Lr _
   have hs2:w1.heap.size+1<=w2.heap.size:=by rw[hw2];simp
   have HREL:Hid (Vy w0 ts A c rb w r w1.heap.size f f (.bool b1) w2):=Qd ⟨x1,j1,b1,rfl,Lr,hR1.below hb2,Fa HG0.out (Fa hG1 (Ea rb hb2)),Ba (Ba HQ.out hG1 (by omega)) (Ea rb hb2) (by omega),by rw[hw2];exact heap_alloc_new _ _,by
    rcases hd1 with⟨rfl,t,rfl,ht⟩ |⟨rfl,rfl⟩
    ·exact .inl ⟨rfl,t,_,ht.below hb2,λq hq=>⟨by unfold In at*;omega,by have:=ht.lt q hq;omega⟩,hp⟩
    exact .inr ⟨rfl,(Option.some.inj hp).symm⟩⟩
   have HW2:=Qd hw2;have hab:w.heap.size+1<=w1.heap.size:=by omega
   generalize hAB:w1.heap.size=ab at HREL hab;have HAB:=Qd hAB;clear hR1 hG1 hd1 hb2 hw2 hp P1 HQ HRW HG0 hAB hE1;go_upto_region 2 with fail
   rw[<-HW2.out,HAB.out];clear HAB HW2 hs2 hs1 hs0 hz0 HW;go_wp2_with fail
   go_loopg [5] f (λgk ov wr=>Hid (Vy w0 ts A c rb w r ab f gk ov wr))
   case atStart=>exact HREL
   case round=>
    clear HREL;obtain⟨x,j,b,rfl,hgf,HRo,HGo,HQo,HAo,hd⟩:=hrel.out;clear hrel;have HR:=Qd HRo;have HG0:=Qd HGo;have HQ:=Qd HQo;have HA:=Qd HAo;have hsr:=HGo.size;have hwr:=HRo.old.size;have hal:ab<wr.heap.size:=(Array.getElem?_eq_some_iff.1 HAo).1;clear HRo HGo HQo HAo;rcases hd with⟨rfl,t,P,hTP,hPP,hp⟩ |⟨rfl,rfl⟩
    ·have HTP:=Qd hTP
     have HPP:=Qd hPP;have HIN:Hid (TreeF wr (In w0.heap.size (w.heap.size+1) wr.heap.size) t x.l):=Qd (hTP.keep (λ_ _=>rfl) (λq hq=>(hPP q hq).1) (λq hq=>by unfold In at hq;omega));clear hTP hPP;rcases Nat.eq_zero_or_pos gk with h0 |h0
     ·subst h0
      rw[Pr.more] at hp;cases hp
     obtain⟨g,rfl⟩:∃g,gk=g+1:=⟨gk-1,by omega⟩;clear h0;rw[Pr.more] at hp;by_cases hc:Pr.gl (ts.drop j) 0=91
     ·have hce:(Pr.gl (ts.drop j) 0==91)=true:=by simp[hc]
      rw[if_pos hc,drop_tail] at hp;clear hc;go_wp2_with fail
      refine Wr hT (by decide) hce HR ?_;intro w1 G1 HR1 hs1;have LA:=Qd (Ba HA.out G1.out (by omega:ab≠rb));have QA:=Qd (Ba HQ.out G1.out (by omega:w.heap.size≠rb));have HTA:Hid (TreeF w1 P t x.l):=Qd (HTP.out.keep (λp hp=>World.cell?_of_block (G1.out.block p.block (HTP.out.lt _ hp) (λe=>by injection e with e;have:=(HPP.out _ hp).1;unfold In at this;omega))) (λ_ h=>h) (λq hq=>by have:=HTP.out.lt q hq;omega));have HRWK:=Qd (Gka (w0:=w0) (lo:=w.heap.size+1) HTA.out (λq hq=>⟨by have:=(HPP.out q hq).1;unfold In at*;omega,(HPP.out q hq).2⟩) (by omega:ab<w1.heap.size));obtain⟨w2,hw2⟩:∃w2,w2=w1.alloc (.cells #[.int .i64 x.k,.int .i64 x.o,.string ⟨x.m.toArray⟩,.bool x.g,.slice x.A1 x.n1 x.c1,.slice x.A2 x.n2 x.c2,.slice x.A3 x.n3 x.c3,.slice x.A4 x.n4 x.c4] 28):=⟨_,rfl⟩;have hb2:Below w1.heap.size w1 w2:=by rw[hw2];exact Br.alloc Lr _
      rw[<-hw2] at HRWK;have hs2:w1.heap.size+1<=w2.heap.size:=by rw[hw2];simp
      have HPL:Hid (Pr.bnd (Pr.places (g+1) (ts.drop (j+1))) (λl U=>Xp g ([t]++l) U)=some r):=Qd (by
       have hm:=(Pr.mono g).places (ts.drop (j+1));cases hq:Pr.places g (ts.drop (j+1)) with
       |none=>rw[hq] at hp;cases hp
       |some o=>rw[hm o hq,<-hp,hq];rfl)
      have HREL2:Hid (Ml w0 ts A c rb w r ab g (g+2) (g+1) (.slice (some ⟨w1.heap.size,0,none⟩) 1 1) (.bool true) w2):=Qd ⟨[t],x,j+1,true,rfl,HR1.out.below hb2,Fa HG0.out (Fa G1.out (Ea rb hb2)),Ba QA.out (Ea rb hb2) (by omega),Ba LA.out (Ea rb hb2) (by omega),HRWK.out,by simp;omega,.inl ⟨rfl,HPL.out⟩⟩;have HW2:=Qd hw2;clear hb2 hw2 HRWK HPL hp;go_upto_region 4 with(with_reducible refine Ka rfl (.tmp 4) rfl ab rfl LA.out ?_)
      rw[<-HW2.out];clear HW2 HTA LA QA HIN HTP HPP HQ HA HG0 HR G1 HR1 hs2 hs1 hal;go_wp2_with fail
      go_loopg [6,7] (g+1) (λgi kv mv wr=>Hid (Ml w0 ts A c rb w r ab g (g+2) gi kv mv wr))
      case atStart=>exact HREL2
      case round=>
       clear HREL2 hsr hwr;obtain⟨acc,x,j,b,rfl,HRo,HGo,HQo,HAo,HRow,hlen,hd⟩:=hrel.out;clear hrel;have HR:=Qd HRo;have HG0:=Qd HGo;have HQ:=Qd HQo;have HA:=Qd HAo;have HRW:=Qd HRow;have hsr:=HGo.size;have hwr:=HRo.old.size;have hal:ab<wr.heap.size:=(Array.getElem?_eq_some_iff.1 HAo).1;clear HRo HGo HQo HAo HRow;rcases hd with⟨rfl,hp⟩ |⟨rfl,hp⟩
       ·rcases Nat.eq_zero_or_pos gk with h0 |h0
        ·subst h0
         rw[Pr.places] at hp;cases hp
        obtain⟨gi,rfl⟩:∃gi,gk=gi+1:=⟨gk-1,by omega⟩;clear h0;rw[Pr.places] at hp;by_cases he:Pr.gl (ts.drop j) 0=59\/Pr.gl (ts.drop j) 0=93
        ·rw[if_pos he] at hp
         rcases he with he |he
         ·have e59:(Pr.gl (ts.drop j) 0 !=59)=false:=by simp[he]
          obtain⟨w1,hw1⟩:∃w1,w1=wr.alloc (.cells #[.int .i64 10,.int .i64 0,.string ⟨#[]⟩,.bool false,.slice none 0 0,.slice none 0 0,.slice none 0 0,.slice none 0 0] 28):=⟨_,rfl⟩;have hb1:Below wr.heap.size wr w1:=by rw[hw1];exact Br.alloc Lr _
          have B1:Hid (w1.heap[wr.heap.size]? =some (.cells #[.int .i64 10,.int .i64 0,.string ⟨#[]⟩,.bool false,.slice none 0 0,.slice none 0 0,.slice none 0 0,.slice none 0 0] 28 (0,0))):=Qd (by rw[hw1];exact heap_alloc_new _ _);have hs1:wr.heap.size+1<=w1.heap.size:=by rw[hw1];simp
          have hz1:w1.heap.size<=wr.heap.size+1:=by rw[hw1];simp
          have G1:=Qd (Ea rb hb1);have HR1:=Qd (HR.out.below hb1);have HW1:=Qd hw1;clear hb1 hw1;go_upto_region 7 with fail
          rw[<-HW1.out];go_wp2_with fail
          refine Al (Td hT j w1 HR1.out) rfl HR1 ?_;intro w2 G2 HR2 hs2;have LP:=Qd (Ba B1.out G2.out (by omega:wr.heap.size≠rb));clear he;have hp9:Pr.bnd (if Pr.gl (ts.drop j) 0=59 then Pr.bnd (Pr.places gi (ts.drop j).tail) λl V=>Pr.ret (Pr.node 10 0 [] []::l) V else Pr.ret [Pr.node 10 0 [] []] (ts.drop j)) (λl U=>Xp g (acc++l) U)=some r:=hp;clear hp;have hp:=hp9;have HQN:=Qd (Ba HQ.out (tt G1 G2).out (by omega:w.heap.size≠rb));have HAN:=Qd (Ba HA.out (tt G1 G2).out (by omega:ab≠rb));have hwo:=HR2.out.old.size;have HTN:Hid (TreeF w2 (In w0.heap.size wr.heap.size wr.heap.size) (Pr.node 10 0 [] []) (C8.l ⟨10,0,[],false,none,0,0,none,0,0,none,0,0,none,0,0⟩)):=Qd (TreeF.leaf (Za (by omega)) (by simp) (λq hq=>by unfold In at hq;omega));have hb9:∀o,Below w2.heap.size w2 (w2.alloc o):=λo=>Br.alloc Lr _;obtain⟨us,P,ho,ht,hpP⟩:=(HRW.out.grown (tt G1 G2).out hlo (by omega) (by omega)).grown (Ea rb (hb9 (.cells (C8.l ⟨10,0,[],false,none,0,0,none,0,0,none,0,0,none,0,0⟩).toArray 28))) hlo (by omega) (by omega);have HOWN:=Qd ho;have HTS:=Qd ht;have HPP:=Qd hpP;have HT3:=Qd ((HTN.out).below (hb9 (.cells (C8.l ⟨10,0,[],false,none,0,0,none,0,0,none,0,0,none,0,0⟩).toArray 28)));have HR3:=Qd (HR2.out.alloc (.cells (C8.l ⟨10,0,[],false,none,0,0,none,0,0,none,0,0,none,0,0⟩).toArray 28));have HG3:=Qd (Uc (Fa HG0.out (tt G1 G2).out) (.cells (C8.l ⟨10,0,[],false,none,0,0,none,0,0,none,0,0,none,0,0⟩).toArray 28));have HQ3:=Qd (Ba HQN.out (Ea rb (hb9 (.cells (C8.l ⟨10,0,[],false,none,0,0,none,0,0,none,0,0,none,0,0⟩).toArray 28))) (by omega));have HA3:=Qd (Ba HAN.out (Ea rb (hb9 (.cells (C8.l ⟨10,0,[],false,none,0,0,none,0,0,none,0,0,none,0,0⟩).toArray 28))) (by omega));have HOB:Hid (∀g,u6.ownBlock=some g->g<wr.heap.size):=Qd (λg hg=>by obtain⟨us',P',ho',_⟩:=HRW.out;have:=(Zd ho' hg).2;omega);have HBS:Hid (∀g,u6.ownBlock=some g->ab+1<=g):=Qd (λg hg=>(Zd ho hg).1);clear ho ht hpP hb9;go_wp2_with (first
           |(with_reducible refine Ka rfl (.tmp 8) rfl (wr.heap.size) rfl LP.out ?_)
           |(at_builtin;refine wpList_append_own_at _ rfl _ _ 26 rfl (ab+1) 28 i0 _ 8 136 Tryz.underlying26 hi0 hzz0 hzz1 hzz2 rfl (by decide) u6 acc.length us rfl HOWN.out ⟨_,0,none⟩ 1 1 (C8.l ⟨10,0,[],false,none,0,0,none,0,0,none,0,0,none,0,0⟩) rfl rfl (Zh _ _ _) (C8.one ⟨10,0,[],false,none,0,0,none,0,0,none,0,0,none,0,0⟩) (by unfold maxLen;omega) (by omega) (by simp;omega) ?_;intro v' w8 hown' hgr hnil hat))
          have HR8:=Qd (HR3.out.append hgr HBS.out (by omega));have HG8:=Qd (Pj HG3.out hgr HBS.out (by omega));have HQ8:=Qd (Ng HQ3.out hgr HBS.out (by omega));have HA8:=Qd (Ng HA3.out hgr HBS.out (by omega));have HRW8:=Qd (RowAt.snoc HOWN.out HTS.out HPP.out HT3.out (by omega) (by omega) HOB.out ⟨by omega,by omega⟩ hown' hgr hat);have hs8:=HG8.out.size;have hwo8:=HR8.out.old.size;clear hown' hgr hnil hat HOWN HTS HPP HT3 HR3 HG3 HQ3 HA3 HOB HBS;obtain⟨hp1,hp2⟩:=Yp hp;clear hp;by_cases hc:Pr.gl (ts.drop (j)) 0=59
          ·have hce:(Pr.gl (ts.drop (j)) 0==59)=true:=by simp[hc]
           have hp3:=hp1 hc;rw[drop_tail] at hp3;clear hc hp1 hp2;have PT:=Qd (Fd hT 59 (by decide) (j) w8 HR8.out);rw[hce] at PT;go_wp2_with fail
           refine PT.out.mono ?_;rintro e w9 ⟨rfl,hR9,hG9⟩;simp only[if_true,if_false,Bool.false_eq_true] at hR9;have HRELN:Hid (Ml w0 ts A c rb w r ab g (g+2) gi v' (.bool true) w9):=Qd ⟨acc++[Pr.node 10 0 [] []],x,j+1,true,rfl,hR9,Fa HG8.out hG9,Ba HQ8.out hG9 (by omega),Ba HA8.out hG9 (by omega),HRW8.out.grown hG9 hlo (by omega) (by omega),by rw[List.length_append];simp;omega,.inl ⟨rfl,hp3⟩⟩;clear hR9 hG9 hp3 PT hce HR8 HG8 HQ8 HA8 HRW8 hs8 hwo8;go_wp2_with fail
           go_roundg gi
           case rel=>exact HRELN
           case measure=>omega
          have hce:(Pr.gl (ts.drop (j)) 0==59)=false:=by simp[hc]
          have hp3:=hp2 hc;clear hc hp1 hp2;have PT:=Qd (Fd hT 59 (by decide) (j) w8 HR8.out);rw[hce] at PT;go_wp2_with fail
          refine PT.out.mono ?_;rintro e w9 ⟨rfl,hR9,hG9⟩;simp only[if_true,if_false,Bool.false_eq_true] at hR9;have HRELN:Hid (Ml w0 ts A c rb w r ab g (g+2) gi v' (.bool false) w9):=Qd ⟨acc++[Pr.node 10 0 [] []],x,j,false,rfl,hR9,Fa HG8.out hG9,Ba HQ8.out hG9 (by omega),Ba HA8.out hG9 (by omega),HRW8.out.grown hG9 hlo (by omega) (by omega),by rw[List.length_append];simp;omega,.inr ⟨rfl,hp3⟩⟩;clear hR9 hG9 hp3 PT hce HR8 HG8 HQ8 HA8 HRW8 hs8 hwo8;go_wp2_with fail
          go_roundg gi
          case rel=>exact HRELN
          case measure=>omega
         have e59:(Pr.gl (ts.drop j) 0 !=59)=true:=by simp[he]
         have e93:(Pr.gl (ts.drop j) 0 !=93)=false:=by simp[he]
         obtain⟨w1,hw1⟩:∃w1,w1=wr.alloc (.cells #[.int .i64 10,.int .i64 0,.string ⟨#[]⟩,.bool false,.slice none 0 0,.slice none 0 0,.slice none 0 0,.slice none 0 0] 28):=⟨_,rfl⟩;have hb1:Below wr.heap.size wr w1:=by rw[hw1];exact Br.alloc Lr _
         have B1:Hid (w1.heap[wr.heap.size]? =some (.cells #[.int .i64 10,.int .i64 0,.string ⟨#[]⟩,.bool false,.slice none 0 0,.slice none 0 0,.slice none 0 0,.slice none 0 0] 28 (0,0))):=Qd (by rw[hw1];exact heap_alloc_new _ _);have hs1:wr.heap.size+1<=w1.heap.size:=by rw[hw1];simp
         have hz1:w1.heap.size<=wr.heap.size+1:=by rw[hw1];simp
         have G1:=Qd (Ea rb hb1);have HR1:=Qd (HR.out.below hb1);have HW1:=Qd hw1;clear hb1 hw1;go_upto_region 7 with fail
         rw[<-HW1.out];go_wp2_with fail
         refine Al (Td hT j w1 HR1.out) rfl HR1 ?_;intro w2 G2 HR2 hs2;go_wp2_with fail
         refine Al (Td hT j w2 HR2.out) rfl HR2 ?_;intro w3 G3 HR3 hs3;have LP:=Qd (Ba B1.out (tt G2 G3).out (by omega:wr.heap.size≠rb));clear he;have hp9:Pr.bnd (if Pr.gl (ts.drop j) 0=59 then Pr.bnd (Pr.places gi (ts.drop j).tail) λl V=>Pr.ret (Pr.node 10 0 [] []::l) V else Pr.ret [Pr.node 10 0 [] []] (ts.drop j)) (λl U=>Xp g (acc++l) U)=some r:=hp;clear hp;have hp:=hp9;have HQN:=Qd (Ba HQ.out (tt G1 (tt G2 G3)).out (by omega:w.heap.size≠rb));have HAN:=Qd (Ba HA.out (tt G1 (tt G2 G3)).out (by omega:ab≠rb));have hwo:=HR3.out.old.size;have HTN:Hid (TreeF w3 (In w0.heap.size wr.heap.size wr.heap.size) (Pr.node 10 0 [] []) (C8.l ⟨10,0,[],false,none,0,0,none,0,0,none,0,0,none,0,0⟩)):=Qd (TreeF.leaf (Za (by omega)) (by simp) (λq hq=>by unfold In at hq;omega));have hb9:∀o,Below w3.heap.size w3 (w3.alloc o):=λo=>Br.alloc Lr _;obtain⟨us,P,ho,ht,hpP⟩:=(HRW.out.grown (tt G1 (tt G2 G3)).out hlo (by omega) (by omega)).grown (Ea rb (hb9 (.cells (C8.l ⟨10,0,[],false,none,0,0,none,0,0,none,0,0,none,0,0⟩).toArray 28))) hlo (by omega) (by omega);have HOWN:=Qd ho;have HTS:=Qd ht;have HPP:=Qd hpP;have HT3:=Qd ((HTN.out).below (hb9 (.cells (C8.l ⟨10,0,[],false,none,0,0,none,0,0,none,0,0,none,0,0⟩).toArray 28)));have HR3:=Qd (HR3.out.alloc (.cells (C8.l ⟨10,0,[],false,none,0,0,none,0,0,none,0,0,none,0,0⟩).toArray 28));have HG3:=Qd (Uc (Fa HG0.out (tt G1 (tt G2 G3)).out) (.cells (C8.l ⟨10,0,[],false,none,0,0,none,0,0,none,0,0,none,0,0⟩).toArray 28));have HQ3:=Qd (Ba HQN.out (Ea rb (hb9 (.cells (C8.l ⟨10,0,[],false,none,0,0,none,0,0,none,0,0,none,0,0⟩).toArray 28))) (by omega));have HA3:=Qd (Ba HAN.out (Ea rb (hb9 (.cells (C8.l ⟨10,0,[],false,none,0,0,none,0,0,none,0,0,none,0,0⟩).toArray 28))) (by omega));have HOB:Hid (∀g,u6.ownBlock=some g->g<wr.heap.size):=Qd (λg hg=>by obtain⟨us',P',ho',_⟩:=HRW.out;have:=(Zd ho' hg).2;omega);have HBS:Hid (∀g,u6.ownBlock=some g->ab+1<=g):=Qd (λg hg=>(Zd ho hg).1);clear ho ht hpP hb9;go_wp2_with (first
          |(with_reducible refine Ka rfl (.tmp 8) rfl (wr.heap.size) rfl LP.out ?_)
          |(at_builtin;refine wpList_append_own_at _ rfl _ _ 26 rfl (ab+1) 28 i0 _ 8 136 Tryz.underlying26 hi0 hzz0 hzz1 hzz2 rfl (by decide) u6 acc.length us rfl HOWN.out ⟨_,0,none⟩ 1 1 (C8.l ⟨10,0,[],false,none,0,0,none,0,0,none,0,0,none,0,0⟩) rfl rfl (Zh _ _ _) (C8.one ⟨10,0,[],false,none,0,0,none,0,0,none,0,0,none,0,0⟩) (by unfold maxLen;omega) (by omega) (by simp;omega) ?_;intro v' w8 hown' hgr hnil hat))
         have HR8:=Qd (HR3.out.append hgr HBS.out (by omega));have HG8:=Qd (Pj HG3.out hgr HBS.out (by omega));have HQ8:=Qd (Ng HQ3.out hgr HBS.out (by omega));have HA8:=Qd (Ng HA3.out hgr HBS.out (by omega));have HRW8:=Qd (RowAt.snoc HOWN.out HTS.out HPP.out HT3.out (by omega) (by omega) HOB.out ⟨by omega,by omega⟩ hown' hgr hat);have hs8:=HG8.out.size;have hwo8:=HR8.out.old.size;clear hown' hgr hnil hat HOWN HTS HPP HT3 HR3 HG3 HQ3 HA3 HOB HBS;obtain⟨hp1,hp2⟩:=Yp hp;clear hp;by_cases hc:Pr.gl (ts.drop (j)) 0=59
         ·have hce:(Pr.gl (ts.drop (j)) 0==59)=true:=by simp[hc]
          have hp3:=hp1 hc;rw[drop_tail] at hp3;clear hc hp1 hp2;have PT:=Qd (Fd hT 59 (by decide) (j) w8 HR8.out);rw[hce] at PT;go_wp2_with fail
          refine PT.out.mono ?_;rintro e w9 ⟨rfl,hR9,hG9⟩;simp only[if_true,if_false,Bool.false_eq_true] at hR9;have HRELN:Hid (Ml w0 ts A c rb w r ab g (g+2) gi v' (.bool true) w9):=Qd ⟨acc++[Pr.node 10 0 [] []],x,j+1,true,rfl,hR9,Fa HG8.out hG9,Ba HQ8.out hG9 (by omega),Ba HA8.out hG9 (by omega),HRW8.out.grown hG9 hlo (by omega) (by omega),by rw[List.length_append];simp;omega,.inl ⟨rfl,hp3⟩⟩;clear hR9 hG9 hp3 PT hce HR8 HG8 HQ8 HA8 HRW8 hs8 hwo8;go_wp2_with fail
          go_roundg gi
          case rel=>exact HRELN
          case measure=>omega
         have hce:(Pr.gl (ts.drop (j)) 0==59)=false:=by simp[hc]
         have hp3:=hp2 hc;clear hc hp1 hp2;have PT:=Qd (Fd hT 59 (by decide) (j) w8 HR8.out);rw[hce] at PT;go_wp2_with fail
         refine PT.out.mono ?_;rintro e w9 ⟨rfl,hR9,hG9⟩;simp only[if_true,if_false,Bool.false_eq_true] at hR9;have HRELN:Hid (Ml w0 ts A c rb w r ab g (g+2) gi v' (.bool false) w9):=Qd ⟨acc++[Pr.node 10 0 [] []],x,j,false,rfl,hR9,Fa HG8.out hG9,Ba HQ8.out hG9 (by omega),Ba HA8.out hG9 (by omega),HRW8.out.grown hG9 hlo (by omega) (by omega),by rw[List.length_append];simp;omega,.inr ⟨rfl,hp3⟩⟩;clear hR9 hG9 hp3 PT hce HR8 HG8 HQ8 HA8 HRW8 hs8 hwo8;go_wp2_with fail
         go_roundg gi
         case rel=>exact HRELN
         case measure=>omega
        rw[if_neg he] at hp;have e59:(Pr.gl (ts.drop j) 0 !=59)=true:=by simp;omega
        have e93:(Pr.gl (ts.drop j) 0 !=93)=true:=by simp;omega
        clear he;obtain⟨w1,hw1⟩:∃w1,w1=wr.alloc (.cells #[.int .i64 10,.int .i64 0,.string ⟨#[]⟩,.bool false,.slice none 0 0,.slice none 0 0,.slice none 0 0,.slice none 0 0] 28):=⟨_,rfl⟩;have hb1:Below wr.heap.size wr w1:=by rw[hw1];exact Br.alloc Lr _
        have B1:Hid (w1.heap[wr.heap.size]? =some (.cells #[.int .i64 10,.int .i64 0,.string ⟨#[]⟩,.bool false,.slice none 0 0,.slice none 0 0,.slice none 0 0,.slice none 0 0] 28 (0,0))):=Qd (by rw[hw1];exact heap_alloc_new _ _);have hs1:wr.heap.size+1<=w1.heap.size:=by rw[hw1];simp
        have hz1:w1.heap.size<=wr.heap.size+1:=by rw[hw1];simp
        have G1:=Qd (Ea rb hb1);have HR1:=Qd (HR.out.below hb1);have HW1:=Qd hw1;clear hb1 hw1;go_upto_region 7 with fail
        rw[<-HW1.out];go_wp2_with fail
        refine Al (Td hT j w1 HR1.out) rfl HR1 ?_;intro w2 G2 HR2 hs2;go_wp2_with fail
        refine Al (Td hT j w2 HR2.out) rfl HR2 ?_;intro w3 G3 HR3 hs3;cases h1:Pr.expr gi (ts.drop j) with
        |none=>rw[h1] at hp;cases hp
        |some s1=>
         cases s1 with
         |none=>
          rw[h1] at hp;have hp2:r=none:=(Option.some.inj hp).symm;subst hp2;clear hp;go_wp2_with fail
          refine eN (hE gi (by omega) (j) w3 none HR3.out h1) ?_;intro x4 j4 w4 HR4 G4 hs4;have LP:=Qd (Ba B1.out (tt G2 (tt G3 G4)).out (by omega:wr.heap.size≠rb));have QF0:=Qd (Ba HQ.out (tt G1 (tt G2 (tt G3 G4))).out (by omega:w.heap.size≠rb));have hwo:=HR4.out.old.size;have QF1:Hid ((w4.setRow (wr.heap.size) x4.a).heap[w.heap.size]? =some (.cells z8 28 (0,0))):=Qd (by rw[setRow_other _ _ _ _ (by omega)];exact QF0.out);go_wp2_with (first|(with_reducible refine Ha rfl (.tmp 8) (.tmp 34) rfl (wr.heap.size) rfl rfl LP.out ?_) |(with_reducible refine Ha rfl (.tmp 2) (.tmp 38) rfl w.heap.size rfl rfl QF1.out ?_))
          (try simp only[Exit.inBlock,Exit.then])
          (try rw[Exit.noGoto_ret])
          refine bodyPost_ret (Wl (by rfl) _ _ w.heap.size (by rfl) (by rfl) (setRow_heap _ _ _ _ _ _ QF1.out)) rfl ?_;exact⟨⟨0,0,[],false,none,0,0,none,0,0,none,0,0,none,0,0⟩,j4,(HR4.out.row (by omega) (by omega) _).row (by omega) (by omega) _,Xa (Xa (Fa HG0.out (tt G1 (tt G2 (tt G3 G4))).out) (by omega) _) Lr _,rfl⟩
         |some p1=>
          obtain⟨t1,U1⟩:=p1;rw[h1] at hp;go_wp2_with fail
          refine eS (hE gi (by omega) (j) w3 (some (t1,U1)) HR3.out h1) ?_;intro x4 j4 w4 hU4 HR4 G4 hs4 T4;subst hU4;have hp9:Pr.bnd (if Pr.gl (ts.drop j4) 0=59 then Pr.bnd (Pr.places gi (ts.drop j4).tail) λl V=>Pr.ret (t1::l) V else Pr.ret [t1] (ts.drop j4)) (λl U=>Xp g (acc++l) U)=some r:=hp;clear hp;have hp:=hp9;have LP:=Qd (Ba B1.out (tt G2 (tt G3 G4)).out (by omega:wr.heap.size≠rb));have hwo:=HR4.out.old.size;obtain⟨w5,hw5⟩:∃w5,w5=w4.setRow (wr.heap.size) #[.int .i64 x4.k,.int .i64 x4.o,.string ⟨x4.m.toArray⟩,.bool x4.g,.slice x4.A1 x4.n1 x4.c1,.slice x4.A2 x4.n2 x4.c2,.slice x4.A3 x4.n3 x4.c3,.slice x4.A4 x4.n4 x4.c4]:=⟨_,rfl⟩;have HS5:Hid (w5.heap.size=w4.heap.size):=Qd (by rw[hw5,setRow_size]);have hs5:w4.heap.size<=w5.heap.size:=by rw[HS5.out];exact Lr
          have LPN:Hid (w5.heap[wr.heap.size]? =some (.cells x4.a 28 (0,0))):=Qd (by rw[hw5];exact setRow_heap _ _ _ _ _ _ LP.out);have HRN:Hid (RdAt w0 ts A c rb j4 w5):=Qd (by rw[hw5];exact HR4.out.row (by omega) (by omega) _);have HGW:Hid (wr.grownBy w5 (some rb)):=Qd (by rw[hw5];exact Xa (tt G1 (tt G2 (tt G3 G4))).out (by omega) _);have HQN:=Qd (Ba HQ.out HGW.out (by omega:w.heap.size≠rb));have HAN:=Qd (Ba HA.out HGW.out (by omega:ab≠rb));have HTN:Hid (TreeF w5 (In w0.heap.size w3.heap.size w4.heap.size) t1 x4.l):=Qd (by rw[hw5];exact T4.out.setRow (by omega) (.inl (by omega)));have HWN:=Qd hw5;clear hw5 h1;go_upto_region 9 with(with_reducible refine Ha rfl (.tmp 8) (.tmp 34) rfl (wr.heap.size) rfl rfl LP.out ?_)
          rw[<-HWN.out];have hb9:∀o,Below w5.heap.size w5 (w5.alloc o):=λo=>Br.alloc Lr _;obtain⟨us,P,ho,ht,hpP⟩:=(HRW.out.grown HGW.out hlo (by omega) (by omega)).grown (Ea rb (hb9 (.cells (C8.l x4).toArray 28))) hlo (by omega) (by omega);have HOWN:=Qd ho;have HTS:=Qd ht;have HPP:=Qd hpP;have HT3:=Qd ((HTN.out).below (hb9 (.cells (C8.l x4).toArray 28)));have HR3:=Qd (HRN.out.alloc (.cells (C8.l x4).toArray 28));have HG3:=Qd (Uc (Fa HG0.out HGW.out) (.cells (C8.l x4).toArray 28));have HQ3:=Qd (Ba HQN.out (Ea rb (hb9 (.cells (C8.l x4).toArray 28))) (by omega));have HA3:=Qd (Ba HAN.out (Ea rb (hb9 (.cells (C8.l x4).toArray 28))) (by omega));have HOB:Hid (∀g,u6.ownBlock=some g->g<w3.heap.size):=Qd (λg hg=>by obtain⟨us',P',ho',_⟩:=HRW.out;have:=(Zd ho' hg).2;omega);have HBS:Hid (∀g,u6.ownBlock=some g->ab+1<=g):=Qd (λg hg=>(Zd ho hg).1);clear ho ht hpP hb9;go_wp2_with (first
           |(with_reducible refine Ka rfl (.tmp 8) rfl (wr.heap.size) rfl LPN.out ?_)
           |(at_builtin;refine wpList_append_own_at _ rfl _ _ 26 rfl (ab+1) 28 i0 _ 8 136 Tryz.underlying26 hi0 hzz0 hzz1 hzz2 rfl (by decide) u6 acc.length us rfl HOWN.out ⟨_,0,none⟩ 1 1 (C8.l x4) rfl rfl (Zh _ _ _) (C8.one x4) (by unfold maxLen;omega) (by omega) (by simp;omega) ?_;intro v' w8 hown' hgr hnil hat))
          have HR8:=Qd (HR3.out.append hgr HBS.out (by omega));have HG8:=Qd (Pj HG3.out hgr HBS.out (by omega));have HQ8:=Qd (Ng HQ3.out hgr HBS.out (by omega));have HA8:=Qd (Ng HA3.out hgr HBS.out (by omega));have HRW8:=Qd (RowAt.snoc HOWN.out HTS.out HPP.out HT3.out (by omega) (by omega) HOB.out ⟨by omega,by omega⟩ hown' hgr hat);have hs8:=HG8.out.size;have hwo8:=HR8.out.old.size;clear hown' hgr hnil hat HOWN HTS HPP HT3 HR3 HG3 HQ3 HA3 HOB HBS;obtain⟨hp1,hp2⟩:=Yp hp;clear hp;by_cases hc:Pr.gl (ts.drop (j4)) 0=59
          ·have hce:(Pr.gl (ts.drop (j4)) 0==59)=true:=by simp[hc]
           have hp3:=hp1 hc;rw[drop_tail] at hp3;clear hc hp1 hp2;have PT:=Qd (Fd hT 59 (by decide) (j4) w8 HR8.out);rw[hce] at PT;go_wp2_with fail
           refine PT.out.mono ?_;rintro e w9 ⟨rfl,hR9,hG9⟩;simp only[if_true,if_false,Bool.false_eq_true] at hR9;have HRELN:Hid (Ml w0 ts A c rb w r ab g (g+2) gi v' (.bool true) w9):=Qd ⟨acc++[t1],x,j4+1,true,rfl,hR9,Fa HG8.out hG9,Ba HQ8.out hG9 (by omega),Ba HA8.out hG9 (by omega),HRW8.out.grown hG9 hlo (by omega) (by omega),by rw[List.length_append];simp;omega,.inl ⟨rfl,hp3⟩⟩;clear hR9 hG9 hp3 PT hce HR8 HG8 HQ8 HA8 HRW8 hs8 hwo8;go_wp2_with fail
           go_roundg gi
           case rel=>exact HRELN
           case measure=>omega
          have hce:(Pr.gl (ts.drop (j4)) 0==59)=false:=by simp[hc]
          have hp3:=hp2 hc;clear hc hp1 hp2;have PT:=Qd (Fd hT 59 (by decide) (j4) w8 HR8.out);rw[hce] at PT;go_wp2_with fail
          refine PT.out.mono ?_;rintro e w9 ⟨rfl,hR9,hG9⟩;simp only[if_true,if_false,Bool.false_eq_true] at hR9;have HRELN:Hid (Ml w0 ts A c rb w r ab g (g+2) gi v' (.bool false) w9):=Qd ⟨acc++[t1],x,j4,false,rfl,hR9,Fa HG8.out hG9,Ba HQ8.out hG9 (by omega),Ba HA8.out hG9 (by omega),HRW8.out.grown hG9 hlo (by omega) (by omega),by rw[List.length_append];simp;omega,.inr ⟨rfl,hp3⟩⟩;clear hR9 hG9 hp3 PT hce HR8 HG8 HQ8 HA8 HRW8 hs8 hwo8;go_wp2_with fail
          go_roundg gi
          case rel=>exact HRELN
          case measure=>omega
       have hp9:(if Pr.gl (ts.drop j) 0=93 then Pr.more g (Pr.node 9 0 [] acc) (ts.drop j).tail else Pr.fail)=some r:=hp;clear hp;have PT:=Qd (Fd hT 93 (by decide) j wr HR.out);obtain⟨A4,c4,us,rfl,hfit,hTS,hli⟩:=HRW.out.slice (by omega:w.heap.size+1<=ab+1) (by omega) hwr;have HFIT:=Qd hfit;obtain⟨us,P,ho,ht,hpP⟩:=HRW.out;have HTN:Hid (TreeF wr (λq=>P q\/(Value.slice A4 acc.length c4).ownBlock=some q) (Pr.node 9 0 [] acc) (C8.l ⟨9,0,[],false,none,0,0,none,0,0,none,0,0,A4,acc.length,c4⟩)):=Qd (Hka ho ht hfit);have HPN:Hid (∀q,(P q\/(Value.slice A4 acc.length c4).ownBlock=some q)->In w0.heap.size (w.heap.size+1) wr.heap.size q/\q≠ab):=Qd (λq hq=>by
        rcases hq with hq |hq
        ·exact⟨(hpP q hq).1,(hpP q hq).2.2⟩
        have:=Zd ho hq;exact⟨.inr ⟨by omega,this.2⟩,by omega⟩)
       clear ho ht hpP hfit hTS hli;by_cases hc:Pr.gl (ts.drop j) 0=93
       ·have hce:(Pr.gl (ts.drop j) 0==93)=true:=by simp[hc]
        rw[hce] at PT;rw[if_pos hc,drop_tail] at hp9;clear hc hce;go_wp2_with fail
        refine PT.out.mono ?_;rintro e w1 ⟨rfl,hR1,hG1⟩;simp only[if_true,if_false,Bool.false_eq_true] at hR1;have HA1:=Qd (Ba HA.out hG1 (by omega:ab≠rb));have hs1:=hG1.size;have hwo:=hR1.old.size;have HRELN:Hid (Vy w0 ts A c rb w r ab f g (.bool true) (w1.setRow ab #[.int .i64 9,.int .i64 0,.string ⟨#[]⟩,.bool false,.slice none 0 0,.slice none 0 0,.slice none 0 0,.slice A4 acc.length c4])):=Qd ⟨⟨9,0,[],false,none,0,0,none,0,0,none,0,0,A4,acc.length,c4⟩,j+1,true,rfl,by omega,hR1.row (by omega) (by omega) _,Xa (Fa HG0.out hG1) (by omega) _,by rw[setRow_other _ _ _ _ (by omega)];exact Ba HQ.out hG1 (by omega),setRow_heap _ _ _ _ _ _ HA1.out,.inl ⟨rfl,Pr.node 9 0 [] acc,_,(HTN.out.keep (λp hp=>(cell_setRow_other _ _ _ _ (HPN.out _ hp).2).trans (World.cell?_of_block (hG1.block p.block (HTN.out.lt _ hp) (λe=>by injection e with e;have:=(HPN.out _ hp).1;unfold In at this;omega)))) (λ_ h=>h) (λq hq=>by rw[setRow_size];have:=HTN.out.lt q hq;omega)),λq hq=>⟨by have:=(HPN.out q hq).1;rw[setRow_size];unfold In at*;omega,(HPN.out q hq).2⟩,hp9⟩⟩;clear hR1 hG1 hp9 PT HTN HPN HFIT HRW HQ HA HR HG0;go_wp2_with (with_reducible refine Ha rfl (.tmp 4) (.tmp 46) rfl ab rfl rfl HA1.out ?_)
        go_roundg g
        case rel=>exact HRELN
        case measure=>omega
       have hce:(Pr.gl (ts.drop j) 0==93)=false:=by simp[hc]
       rw[hce] at PT;rw[if_neg hc] at hp9;have hrn:r=none:=(Option.some.inj hp9).symm;clear hc hce;go_wp2_with fail
       refine PT.out.mono ?_;rintro e w1 ⟨rfl,hR1,hG1⟩;simp only[if_true,if_false,Bool.false_eq_true] at hR1;have HA1:=Qd (Ba HA.out hG1 (by omega:ab≠rb));have hs1:=hG1.size;have hwo:=hR1.old.size;have HRELN:Hid (Vy w0 ts A c rb w r ab f g (.bool false) (w1.setRow ab #[.int .i64 9,.int .i64 0,.string ⟨#[]⟩,.bool false,.slice none 0 0,.slice none 0 0,.slice none 0 0,.slice A4 acc.length c4])):=Qd ⟨⟨9,0,[],false,none,0,0,none,0,0,none,0,0,A4,acc.length,c4⟩,j,false,rfl,by omega,hR1.row (by omega) (by omega) _,Xa (Fa HG0.out hG1) (by omega) _,by rw[setRow_other _ _ _ _ (by omega)];exact Ba HQ.out hG1 (by omega),setRow_heap _ _ _ _ _ _ HA1.out,.inr ⟨rfl,hrn⟩⟩;clear hR1 hG1 hp9 PT HTN HPN HFIT HRW HQ HA HR HG0;go_wp2_with (with_reducible refine Ha rfl (.tmp 4) (.tmp 46) rfl ab rfl rfl HA1.out ?_)
       go_roundg g
       case rel=>exact HRELN
       case measure=>omega
     have hce:(Pr.gl (ts.drop j) 0==91)=false:=by simp[hc]
     rw[if_neg hc] at hp;have hr:r=some (t,ts.drop j):=(Option.some.inj hp).symm;subst hr;clear hc hp;go_wp2_with fail
     refine Xr hT (by decide) hce HR ?_;intro w1 G1 HR1 hs1;have LA:=Qd (Ba HA.out G1.out (by omega:ab≠rb));have QF0:=Qd (Ba HQ.out G1.out (by omega:w.heap.size≠rb));have hwo:=HR1.out.old.size;go_wp2_with (first|(with_reducible refine Ka rfl (.tmp 4) rfl ab rfl LA.out ?_) |(with_reducible refine Ha rfl (.tmp 2) (.tmp 49) rfl w.heap.size rfl rfl QF0.out ?_))
     (try simp only[Exit.inBlock,Exit.then])
     refine Rb (by rfl) (by rfl) (by rfl) rfl QF0.out ?_;exact⟨x,j,HR1.out.row (by omega) (by omega) _,Xa (Fa HG0.out G1.out) Lr _,rfl,rfl,((HIN.out.grown G1.out hlo (by omega)).setRow (q:=w.heap.size) (by omega) (.inl (by omega))).wide (by omega) (by rw[setRow_size];omega) Lr (by rw[setRow_size];omega)⟩
    go_wp2_with (first|(with_reducible refine Ka rfl (.tmp 4) rfl ab rfl HA.out ?_) |(with_reducible refine Ha rfl (.tmp 2) (.tmp 49) rfl w.heap.size rfl rfl HQ.out ?_))
    (try simp only[Exit.inBlock,Exit.then])
    refine bodyPost_ret (Wl (by rfl) _ _ w.heap.size (by rfl) (by rfl) (setRow_heap _ _ _ _ _ _ HQ.out)) rfl ?_;exact⟨x,j,HR.out.row (by omega) (by omega) _,Xa HG0.out Lr _,rfl⟩
end
end
section
open Go.RowKit Tr
variable [Dc]
theorem TreesF.node_kept {w0 w1 w2:World}{rb q lo lo':Nat}{k o:Int}{m:List UInt8}{l:List Tree}{us:List Value}{A4:Option Addr}{c4:Nat}{cs:Array Value}(hk:Jd [k,o])(hm:m.length<=140737488355328)(hf:Fits l.length c4 136)(hl:TreesF w1 (In w0.heap.size lo w1.heap.size) l us)
 (hA:us=[]\/∃g off,A4=some ⟨g,off,none⟩/\In w0.heap.size lo w1.heap.size g/\∀j v,us[j]? =some v->w1.cell? ⟨g,off+j,none⟩=some v)
 (hg:w1.grownBy w2 (some rb)) (h1:w0.heap.size<=rb) (h2:rb<lo) (h3:w0.heap.size<=q) (h4:q<lo) (h5:lo'<=lo) (h6:w0.heap.size<=w2.heap.size):
 TreeF (w2.setRow q cs) (In w0.heap.size lo' (w2.setRow q cs).heap.size) (Pr.node k o m l) (Qa k o m Rt.none_ [] l.length none none none A4 0 0 0 c4):=by
 have hs:=hg.size;have hk2:∀p:Addr,In w0.heap.size lo w1.heap.size p.block->(w2.setRow q cs).cell? p=w1.cell? p:=λp hp=>by
  rw[cell_setRow_other _ _ _ _ (by unfold In at hp;omega)];exact World.cell?_of_block (hg.block p.block (by have:=hl.lt _ hp;omega) (λe=>by injection e with e;unfold In at hp;omega))
 refine TreeF.node hk hm hf (hl.keep hk2 (λb hb=>?_) (λb hb=>?_)) ?_
 ·rw[setRow_size];unfold In at*;omega
 ·rw[setRow_size] at*;unfold In at hb;omega
 rcases hA with h |⟨g,off,e,hg2,hc⟩
 ·exact .inl h
 exact .inr ⟨g,off,e,by rw[setRow_size];unfold In at*;omega,λj v hv=>(hk2 ⟨g,off+j,none⟩ hg2).trans (hc j v hv)⟩
def Nb (s0 s1 s2 s3 s5 s6 s7 s8 s9 s10 s21 s22 s23 s24 s25 s26 s27 s28 s29 s30 s31 s32 s33 s34 s35 s36 s37 s38 s39 s40 s41 s42 s43 s44 s45 s46 s47 s48 s49 s50 s51 s52 s53 s54 s55 s56 s57 s58 s59 s60 s61 s62 s63 s64 s65:Value)(xs:Nat->Value):Act:={tmps:= #[s0,s1,s2,s3,xs 10,s5,s6,s7,s8,s9,s10,xs 0,xs 1,xs 2,xs 3,xs 4,xs 5,xs 6,xs 7,xs 8,xs 9,s21,s22,s23,s24,s25,s26,s27,s28,s29,s30,s31,s32,s33,s34,s35,s36,s37,s38,s39,s40,s41,s42,s43,s44,s45,s46,s47,s48,s49,s50,s51,s52,s53,s54,s55,s56,s57,s58,s59,s60,s61,s62,s63,s64,s65],defers:=[]}
def Xoa (B rb g i c:Nat)(ts:List Tk.Tok)(t:Tk.Tok)(A1 A2 A3:Option Addr)(c1 c2 c3:Nat):Nat->World->Value->Prop
 | 0,w,v=>v= .pointer (some ⟨rb,0,none⟩)
 | 1,w,v=>v= .pointer (some ⟨rb,0,none⟩)
 | 2,w,v=>v= .pointer (some ⟨rb,0,none⟩)
 | 3,w,v=>v= .slice (some ⟨g,0,none⟩) ts.length c
 | 4,w,v=>v= .pointer (some ⟨rb,0,none⟩)
 | 5,w,v=>v= .pointer (some ⟨rb,0,none⟩)
 | 6,w,v=>v= .pointer (some ⟨rb,1,none⟩)
 | 7,w,v=>v= .int .i64 (i:Int)
 | 8,w,v=>v= .pointer (some ⟨g,i*8,none⟩)
 | 9,w,v=>v= .agg #[.int .i64 t.kind,.bool t.n.neg,.slice A1 t.n.top.length c1,.slice A2 t.n.bot.length c2,.slice A3 t.l.length c3,.string ⟨t.s.toArray⟩,.int .i64 t.c,.int .i64 (t.at_:Int)]
 |_,w,v=>∃q,v= .pointer (some ⟨q,0,none⟩)/\B<=q/\w.heap[q]? =some (.cells #[.int .i64 0,.bool false,.slice none 0 0,.slice none 0 0,.slice none 0 0,.string ⟨#[]⟩,.int .i64 0,.int .i64 0] 54 (0,0))
section
variable {w0 : World} {ts : List Tk.Tok} {A : Option Addr} {c rb : Nat}
theorem Rca (F:Nat)(hT:Yd w0 ts A c)(hS:Fka w0 ts A c rb 25 Pr.stmts F):
 Tf w0 ts A c rb 138 Pr.plain (F+1):=by
 intro f hf i w r h hp;cases f with
 |zero=>cases hp
 |succ f=>
  have hfF:f<=F:=by omega
  rw[Pr.plain] at hp;obtain⟨W,hW⟩:∃W,W=w.alloc (.cells z8 28):=⟨_,rfl⟩;have hWb:Below w.heap.size w W:=by rw[hW];exact Br.alloc Lr _
  have hs0:w.heap.size+1<=W.heap.size:=by rw[hW];simp
  have hz0:W.heap.size<=w.heap.size+1:=by rw[hW];simp
  have HQ:Hid (W.heap[w.heap.size]? =some (.cells z8 28 (0,0))):=Qd (by rw[hW];exact heap_alloc_new w _);have HRW:=Qd (h.below hWb);have hlt:=h.lt;have hlo:=h.lo;have hq0:w0.heap.size<=w.heap.size:=h.old.size;have HW:=Qd hW;have HG0:Hid (w.grownBy W (some rb)):=Qd (Ea rb hWb);clear hW hWb h;by_cases hb:Pr.begP (ts.drop i)=true
  ·rw[if_pos hb] at hp
   have hil:i<ts.length:=by
    have h1:=Pr.begP_ne hb;rw[List.length_drop] at h1;omega
   obtain⟨g,A1,A2,A3,c1,c2,c3,rfl,hTA⟩:=I5 (rb:=rb) hT hil;have hgd:(ts.drop i).getD 0 Tk.none_=ts[i]:=by rw[List.getD_eq_getElem?_getD,List.getElem?_drop,Nat.add_zero,List.getElem?_eq_getElem hil];rfl
   have hz:(ts.drop i)[0]? =some ts[i]:=by rw[List.getElem?_drop,Nat.add_zero,List.getElem?_eq_getElem hil]
   have hcase:=Eka hz hb;rw[hgd,drop_tail] at hp;generalize ts[i]=t at*;have HTR:Hid (Kca w0 ts c rb g i t A1 A2 A3 c1 c2 c3):=Qd hTA;have HCASE:=Qd hcase;clear hgd hz hTA hcase;go_enter Tryz.func138,Tryz.ntmps138
   go_upto_region 1 with fail
   rw[<-HW.out];go_wp2_with fail
   refine Mh (Xs hT i W HRW.out) hb HRW ?_;intro w1 G1 HR1 hs1;clear hb;go_upto_region 3 with fail
   refine Ri (Nb _ _ _ _ _ _ _ _ _ _ _ _ _ _ _ _ _ _ _ _ _ _ _ _ _ _ _ _ _ _ _ _ _ _ _ _ _ _ _ _ _ _ _ _ _ _ _ _ _ _ _ _ _ _ _) w1 (Xoa w1.heap.size rb g i c ts t A1 A2 A3 c1 c2 c3) 11 (by kernel_rfl) (by rfl) ?_ (by kernel_rfl) (by kernel_rfl) (Oj [_,_,_,_,_,_,_,_,_,_,_]) rfl Br ?_ ?_
   ·intro i wz w2 v hv hb
    match i with
    | 0=>exact hv
    | 1=>exact hv
    | 2=>exact hv
    | 3=>exact hv
    | 4=>exact hv
    | 5=>exact hv
    | 6=>exact hv
    | 7=>exact hv
    | 8=>exact hv
    | 9=>exact hv
    |i+10=>exact(by obtain⟨q,e,h1,h2⟩:=hv;exact⟨q,e,h1,(hb.block q (Array.getElem?_eq_some_iff.1 h2).1).trans h2⟩)
   ·intro i xs wz hi hb hdep
    have hi6:i<11:=hi;clear hi;rcases(show i=0\/i=1\/i=2\/i=3\/i=4\/i=5\/i=6\/i=7\/i=8\/i=9\/i=10 by omega) with rfl |rfl |rfl |rfl |rfl |rfl |rfl |rfl |rfl |rfl |rfl
    ·refine Ca rfl rfl ?_
     unfold Nb Oper.wp;go_simp
     exact⟨_,by simp only[Nb,Ja];simp[Act.put],rfl,Br⟩
    ·have h0:xs 0= .pointer (some ⟨rb,0,none⟩):=hdep 0 (by kernel_rfl)
     refine Ca rfl rfl ?_;unfold Nb Oper.wp;simp only[h0];go_simp
     exact⟨_,by simp only[Nb,Ja];simp[Act.put,h0],rfl,Br⟩
    ·have h1:xs 1= .pointer (some ⟨rb,0,none⟩):=hdep 1 (by kernel_rfl)
     refine Ca rfl rfl ?_;unfold Nb Oper.wp;simp only[h1];go_simp
     exact⟨_,by simp only[Nb,Ja];simp[Act.put,h1],rfl,Br⟩
    ·have h2:xs 2= .pointer (some ⟨rb,0,none⟩):=hdep 2 (by kernel_rfl)
     refine Ca rfl rfl ?_;have p0:=(HR1.out.below hb).c0;unfold Nb Oper.wp;simp only[h2];go_simp
     exact⟨_,by simp only[Nb,Ja];simp[Act.put,h2],rfl,Br⟩
    ·refine Ca rfl rfl ?_
     unfold Nb Oper.wp;go_simp
     exact⟨_,by simp only[Nb,Ja];simp[Act.put],rfl,Br⟩
    ·have h4:xs 4= .pointer (some ⟨rb,0,none⟩):=hdep 4 (by kernel_rfl)
     refine Ca rfl rfl ?_;unfold Nb Oper.wp;simp only[h4];go_simp
     exact⟨_,by simp only[Nb,Ja];simp[Act.put,h4],rfl,Br⟩
    ·have h5:xs 5= .pointer (some ⟨rb,0,none⟩):=hdep 5 (by kernel_rfl)
     refine Ca rfl rfl ?_;unfold Nb Oper.wp;simp only[h5];go_simp
     exact⟨_,by simp only[Nb,Ja];simp[Act.put,h5],rfl,Br⟩
    ·have h6:xs 6= .pointer (some ⟨rb,1,none⟩):=hdep 6 (by kernel_rfl)
     refine Ca rfl rfl ?_;have p1:=(HR1.out.below hb).c1;unfold Nb Oper.wp;simp only[h6];go_simp
     exact⟨_,by simp only[Nb,Ja];simp[Act.put,h6],rfl,Br⟩
    ·have h3:xs 3= .slice (some ⟨g,0,none⟩) ts.length c:=hdep 3 (by kernel_rfl)
     have h7:xs 7= .int .i64 (i:Int):=hdep 7 (by kernel_rfl);refine Ca rfl rfl ?_;unfold Nb Oper.wp;simp only[h3,h7];go_simp
     exact⟨_,by simp only[Nb,Ja];simp[Act.put,h3,h7],rfl,Br⟩
    ·have h8:xs 8= .pointer (some ⟨g,i*8,none⟩):=hdep 8 (by kernel_rfl)
     refine Ca rfl rfl ?_;have r9:=HTR.out.r wz (HR1.out.below hb);refine wp_load_mid 54 (.tmp 19) rfl g (i*8) (by unfold Nb;simp only[h8];rfl) [.int .i64 t.kind,.bool t.n.neg,.slice A1 t.n.top.length c1,.slice A2 t.n.bot.length c2,.slice A3 t.l.length c3,.string ⟨t.s.toArray⟩,.int .i64 t.c,.int .i64 (t.at_:Int)] _ r9 Tryz.underlying54 rfl Ll ?_;exact⟨_,by simp only[Nb,Ja];simp[Act.put,h8],rfl,Br⟩
    refine Ca rfl rfl ?_;unfold Nb Oper.wp;go_simp
    exact⟨_,by simp only[Nb,Ja];simp[Act.put],⟨wz.heap.size,rfl,hb.size,heap_alloc_new wz _⟩,Br.alloc Lr _⟩
   intro xs wz hb hx;obtain⟨q,h10,hq1,hq2⟩:∃q,xs 10= .pointer (some ⟨q,0,none⟩)/\w1.heap.size<=q/\wz.heap[q]? =some (.cells #[.int .i64 0,.bool false,.slice none 0 0,.slice none 0 0,.slice none 0 0,.string ⟨#[]⟩,.int .i64 0,.int .i64 0] 54 (0,0)):=hx 10 (by decide);have h9:xs 9= .agg #[.int .i64 t.kind,.bool t.n.neg,.slice A1 t.n.top.length c1,.slice A2 t.n.bot.length c2,.slice A3 t.l.length c3,.string ⟨t.s.toArray⟩,.int .i64 t.c,.int .i64 (t.at_:Int)]:=hx 9 (by decide);clear hx;refine Ca rfl rfl ?_;refine wp_store_row 54 (.tmp 4) (.tmp 20) rfl q #[.int .i64 t.kind,.bool t.n.neg,.slice A1 t.n.top.length c1,.slice A2 t.n.bot.length c2,.slice A3 t.l.length c3,.string ⟨t.s.toArray⟩,.int .i64 t.c,.int .i64 (t.at_:Int)] (by unfold Nb;simp only[h10];rfl) (by unfold Nb;simp only[h9];rfl) 54 #[.int .i64 0,.bool false,.slice none 0 0,.slice none 0 0,.slice none 0 0,.string ⟨#[]⟩,.int .i64 0,.int .i64 0] hq2 Ll rfl (by simp[Value.oneCell']) ?_;obtain⟨w2,hw2⟩:∃w2,w2=wz.setRow q #[.int .i64 t.kind,.bool t.n.neg,.slice A1 t.n.top.length c1,.slice A2 t.n.bot.length c2,.slice A3 t.l.length c3,.string ⟨t.s.toArray⟩,.int .i64 t.c,.int .i64 (t.at_:Int)]:=⟨_,rfl⟩;have hb2:Below w1.heap.size w1 w2:=by rw[hw2];exact below_setRow hb hq1 _
   have BX2:Hid (w2.heap[q]? =some (.cells #[.int .i64 t.kind,.bool t.n.neg,.slice A1 t.n.top.length c1,.slice A2 t.n.bot.length c2,.slice A3 t.l.length c3,.string ⟨t.s.toArray⟩,.int .i64 t.c,.int .i64 (t.at_:Int)] 54 (0,0))):=Qd (by rw[hw2];exact setRow_heap _ _ _ _ _ _ hq2);have G2:=Qd (Ea rb hb2);have HR2:=Qd (HR1.out.below hb2);have hs2:=hb2.size;have hql:q<w2.heap.size:=(Array.getElem?_eq_some_iff.1 BX2.out).1;rw[<-hw2];unfold Nb;simp only[h9,h10];clear hb hq2 hw2 hb2 h9 h10;go_upto_region 4 with fail
   have p1:=HR2.out.c1;have f1:=HR2.out.fz 1;have hle3:=HR2.out.le;have hfw3:=hT.few;obtain⟨w3,HW3,hs3,G3,HR3⟩:=Km hT 1 1 rfl HR2 (by omega);go_upto_region 5 with fail
   rw[<-HW3.out];clear p1 f1;rcases HCASE.out with hk |hk |⟨hk,hk2,hc⟩
   ·have e3:(t.kind==3)=true:=by simp[hk]
    have hlf:Pr.fleaf t=some (Pr.node 18 0 t.s []):=by unfold Pr.fleaf;simp[hk]
    rw[hlf] at hp;have hp3:r=some (_,ts.drop (i+1)):=(Option.some.inj hp).symm;subst hp3;clear hp hlf;have BXN:=Qd (Ba BX2.out G3.out (by omega:q≠rb));have ct0:w3.cell? ⟨q,0,none⟩=some (.int .i64 t.kind):=(cell_of_row _ q 0 _ _ _ BXN.out).trans rfl;have ct5:w3.cell? ⟨q,5,none⟩=some (.string ⟨t.s.toArray⟩):=(cell_of_row _ q 5 _ _ _ BXN.out).trans rfl;have QF0:=rg HQ (tt G1 (tt G2 G3)) (by omega);have hwo:=HR3.out.old.size;go_wp2_with (with_reducible refine Ha rfl (.tmp 2) (.tmp 34) rfl w.heap.size rfl rfl QF0.out ?_)
    (try simp only[Exit.inBlock,Exit.then])
    refine Rb (by rfl) (by rfl) (by rfl) rfl QF0.out ?_;exact⟨⟨18,0,t.s,false,none,0,0,none,0,0,none,0,0,none,0,0⟩,i+1,(HR3.out.row (by omega) (by omega) _),(Xa (Fa HG0.out (tt G1 (tt G2 G3)).out) Lr _),rfl,rfl,TreeF.leaf (Za (by omega)) (by have:=HTR.out.ok.s;omega) (λb hb=>by rw[setRow_size];unfold In at hb;rw[setRow_size] at hb;omega)⟩
   ·have e3:(t.kind==3)=false:=by simp[hk]
    have e6:(t.kind==6)=true:=by simp[hk]
    have hlf:Pr.fleaf t=some (Pr.node 21 t.c [] []):=by unfold Pr.fleaf;simp[hk]
    rw[hlf] at hp;have hp3:r=some (_,ts.drop (i+1)):=(Option.some.inj hp).symm;subst hp3;clear hp hlf;have BXN:=Qd (Ba BX2.out G3.out (by omega:q≠rb));have ct0:w3.cell? ⟨q,0,none⟩=some (.int .i64 t.kind):=(cell_of_row _ q 0 _ _ _ BXN.out).trans rfl;have ct6:w3.cell? ⟨q,6,none⟩=some (.int .i64 t.c):=(cell_of_row _ q 6 _ _ _ BXN.out).trans rfl;have QF0:=rg HQ (tt G1 (tt G2 G3)) (by omega);have hwo:=HR3.out.old.size;go_wp2_with (with_reducible refine Ha rfl (.tmp 2) (.tmp 41) rfl w.heap.size rfl rfl QF0.out ?_)
    (try simp only[Exit.inBlock,Exit.then])
    refine Rb (by rfl) (by rfl) (by rfl) rfl QF0.out ?_;exact⟨⟨21,t.c,[],false,none,0,0,none,0,0,none,0,0,none,0,0⟩,i+1,(HR3.out.row (by omega) (by omega) _),(Xa (Fa HG0.out (tt G1 (tt G2 G3)).out) Lr _),rfl,rfl,TreeF.leaf (Hd (by omega) HTR.out.ok.c) (by simp) (λb hb=>by rw[setRow_size];unfold In at hb;rw[setRow_size] at hb;omega)⟩
   have e3:(t.kind==3)=false:=by simp[hk]
   have e6:(t.kind==6)=false:=by simp[hk2]
   rcases hc with hc |hc |⟨hc,hc2⟩
   ·have f1:(t.c==8711)=true:=by simp[hc]
    have hlf:Pr.fleaf t=some (Pr.node 19 0 [] []):=by unfold Pr.fleaf;simp[hk,hk2,hc]
    rw[hlf] at hp;have hp3:r=some (_,ts.drop (i+1)):=(Option.some.inj hp).symm;subst hp3;clear hp hlf;have BXN:=Qd (Ba BX2.out G3.out (by omega:q≠rb));have ct0:w3.cell? ⟨q,0,none⟩=some (.int .i64 t.kind):=(cell_of_row _ q 0 _ _ _ BXN.out).trans rfl;have ct6:w3.cell? ⟨q,6,none⟩=some (.int .i64 t.c):=(cell_of_row _ q 6 _ _ _ BXN.out).trans rfl;have QF0:=rg HQ (tt G1 (tt G2 G3)) (by omega);have hwo:=HR3.out.old.size;go_wp2_with (with_reducible refine Ha rfl (.tmp 2) (.tmp 46) rfl w.heap.size rfl rfl QF0.out ?_)
    (try simp only[Exit.inBlock,Exit.then])
    refine Rb (by rfl) (by rfl) (by rfl) rfl QF0.out ?_;exact⟨⟨19,0,[],false,none,0,0,none,0,0,none,0,0,none,0,0⟩,i+1,(HR3.out.row (by omega) (by omega) _),(Xa (Fa HG0.out (tt G1 (tt G2 G3)).out) Lr _),rfl,rfl,TreeF.leaf (Za (by omega)) (by simp) (λb hb=>by rw[setRow_size];unfold In at hb;rw[setRow_size] at hb;omega)⟩
   ·have f1:(t.c==8711)=false:=by simp[hc]
    have f2:(t.c !=123)=false:=by simp[hc]
    have hlf:Pr.fleaf t=none:=by unfold Pr.fleaf;simp[hk,hk2,hc]
    rw[hlf] at hp;clear hlf hk hk2 hc;have BXN:=Qd (Ba BX2.out G3.out (by omega:q≠rb));have ct0:w3.cell? ⟨q,0,none⟩=some (.int .i64 t.kind):=(cell_of_row _ q 0 _ _ _ BXN.out).trans rfl;have ct6:w3.cell? ⟨q,6,none⟩=some (.int .i64 t.c):=(cell_of_row _ q 6 _ _ _ BXN.out).trans rfl;cases h1:Pr.stmts f true (ts.drop (i+1)) with
    |none=>rw[h1] at hp;cases hp
    |some s1=>
     cases s1 with
     |none=>
      rw[h1] at hp;have hp2:r=none:=(Option.some.inj hp).symm;subst hp2;clear hp;have P4:=Qd (hS f hfF true (i+1) w3 none HR3.out h1);go_wp2_with fail
      refine P4.out.mono ?_;rintro e w4 ⟨j4,hR4,hG4,A4,n4,c4,rfl⟩;have G4:=Qd hG4;have HR4:=Qd hR4;have hs4:=hG4.size;clear hG4 hR4 P4;have QF0:=rg HQ (tt G1 (tt G2 (tt G3 G4))) (by omega);go_wp2_with (with_reducible refine Ha rfl (.tmp 2) (.tmp 60) rfl w.heap.size rfl rfl QF0.out ?_)
      (try simp only[Exit.inBlock,Exit.then])
      refine Rb (by rfl) (by rfl) (by rfl) rfl QF0.out ?_;exact dN (x:=⟨20,0,[],false,none,0,0,none,0,0,none,0,0,A4,n4,c4⟩) HR4 (tt HG0 (tt G1 (tt G2 (tt G3 G4)))) hlt hq0
     |some p1=>
      obtain⟨t1,U1⟩:=p1;have hp2:=hp;rw[h1] at hp2;clear hp;have P4:=Qd (hS f hfF true (i+1) w3 (some (t1,U1)) HR3.out h1);go_wp2_with fail
      refine P4.out.mono ?_;rintro e w4 ⟨j4,hR4,hG4,hU4,A4,c4,us,rfl,hfit,hTS,hlie⟩;subst hU4;have HTS:=Qd hTS;have HLI:=Qd hlie;have HFT:=Qd hfit;clear hTS hlie hfit;have G4:=Qd hG4;have HR4:=Qd hR4;have hs4:=hG4.size;clear hG4 hR4 P4;by_cases hc:Pr.gl (ts.drop j4) 0=125
      ·have hce:(Pr.gl (ts.drop j4) 0==125)=true:=by simp[hc]
       have hp3:r=some (Pr.node 20 0 [] t1,(ts.drop j4).tail):=((if_pos hc).symm.trans hp2|>Option.some.inj).symm;rw[drop_tail] at hp3;subst hp3;clear hp2;go_wp2_with fail
       refine Wr hT (by decide) hce HR4 ?_;intro w5 G5 HR5 hs5;have QF0:=rg HQ (tt G1 (tt G2 (tt G3 (tt G4 G5)))) (by omega);have hwo:=HR5.out.old.size;go_wp2_with (with_reducible refine Ha rfl (.tmp 2) (.tmp 60) rfl w.heap.size rfl rfl QF0.out ?_)
       (try simp only[Exit.inBlock,Exit.then])
       refine Rb (by rfl) (by rfl) (by rfl) rfl QF0.out ?_;exact⟨⟨20,0,[],false,none,0,0,none,0,0,none,0,0,A4,t1.length,c4⟩,j4+1,(HR5.out.row (by omega) (by omega) _),(Xa (Fa HG0.out (tt G1 (tt G2 (tt G3 (tt G4 G5)))).out) Lr _),rfl,rfl,TreesF.node_kept (lo:=w3.heap.size) (rb:=rb) (Za (by omega)) (by simp) HFT.out HTS.out HLI.out G5.out hlo (by omega) (by omega) (by omega) (by omega) (by omega)⟩
      have hce:(Pr.gl (ts.drop j4) 0==125)=false:=by simp[hc]
      have hp3:r=none:=((if_neg hc).symm.trans hp2|>Option.some.inj).symm;subst hp3;clear hp2;go_wp2_with fail
      refine Xr hT (by decide) hce HR4 ?_;intro w5 G5 HR5 hs5;have QF0:=rg HQ (tt G1 (tt G2 (tt G3 (tt G4 G5)))) (by omega);go_wp2_with (with_reducible refine Ha rfl (.tmp 2) (.tmp 60) rfl w.heap.size rfl rfl QF0.out ?_)
      (try simp only[Exit.inBlock,Exit.then])
      refine Rb (by rfl) (by rfl) (by rfl) rfl QF0.out ?_;exact dN (x:=⟨20,0,[],false,none,0,0,none,0,0,none,0,0,A4,t1.length,c4⟩) HR5 (tt HG0 (tt G1 (tt G2 (tt G3 (tt G4 G5))))) hlt hq0
   have f1:(t.c==8711)=false:=by simp[hc]
   have f2:(t.c !=123)=true:=by simp[hc2]
   have hlf:Pr.fleaf t=some (Pr.node 17 t.c [] []):=by unfold Pr.fleaf;simp[hk,hk2,hc,hc2]
   rw[hlf] at hp;have hp3:r=some (_,ts.drop (i+1)):=(Option.some.inj hp).symm;subst hp3;clear hp hlf;have BXN:=Qd (Ba BX2.out G3.out (by omega:q≠rb));have ct0:w3.cell? ⟨q,0,none⟩=some (.int .i64 t.kind):=(cell_of_row _ q 0 _ _ _ BXN.out).trans rfl;have ct6:w3.cell? ⟨q,6,none⟩=some (.int .i64 t.c):=(cell_of_row _ q 6 _ _ _ BXN.out).trans rfl;have QF0:=rg HQ (tt G1 (tt G2 G3)) (by omega);have hwo:=HR3.out.old.size;go_wp2_with (with_reducible refine Ha rfl (.tmp 2) (.tmp 53) rfl w.heap.size rfl rfl QF0.out ?_)
   (try simp only[Exit.inBlock,Exit.then])
   refine Rb (by rfl) (by rfl) (by rfl) rfl QF0.out ?_;exact⟨⟨17,t.c,[],false,none,0,0,none,0,0,none,0,0,none,0,0⟩,i+1,(HR3.out.row (by omega) (by omega) _),(Xa (Fa HG0.out (tt G1 (tt G2 G3)).out) Lr _),rfl,rfl,TreeF.leaf (Hd (by omega) HTR.out.ok.c) (by simp) (λb hb=>by rw[setRow_size];unfold In at hb;rw[setRow_size] at hb;omega)⟩
  rw[if_neg hb] at hp;replace hb:Pr.begP (ts.drop i)=false:=by simpa using hb
  have hp2:r=none:=(Option.some.inj hp).symm;subst hp2;clear hp;go_enter Tryz.func138,Tryz.ntmps138
  go_upto_region 1 with fail
  rw[<-HW.out];go_wp2_with fail
  refine Mh (Xs hT i W HRW.out) hb HRW ?_;intro w1 G1 HR1 hs1;have QF0:=rg HQ G1 (by omega);go_wp2_with (with_reducible refine Ha rfl (.tmp 2) (.tmp 10) rfl w.heap.size rfl rfl QF0.out ?_)
  (try simp only[Exit.inBlock,Exit.then])
  refine Rb (by rfl) (by rfl) (by rfl) rfl QF0.out ?_;exact dN (x:=x0) HR1 (tt HG0 G1) hlt hq0
end
end
end Go.Proofs.YtceplkpjnebnfaaGreatDoor
