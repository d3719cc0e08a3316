/- Texts of this proof, joined. -/
import Derived.Test.YtceplkpjnebnfaaGreatDoorM15
set_option linter.all false
set_option maxHeartbeats 8000000
set_option maxRecDepth 100000
namespace Go.Proofs.YtceplkpjnebnfaaGreatDoor
section
open Go.RowKit Tr
variable [Dc]
theorem TreeF.moved {w w':World}{P:Nat->Prop}{a:Tree}{vs:List Value}{rb:Nat}(h:TreeF w P a vs)(hg:w.grownBy w' (some rb))(hP:∀q,P q->q≠rb):TreeF w' P a vs:=
 h.keep (λp hp=>World.cell?_of_block (hg.block p.block (h.lt _ hp) (λe=>by injection e with e;exact hP _ hp e))) (λ_ h=>h) (λq hq=>Nat.lt_of_lt_of_le (h.lt q hq) hg.size)
theorem TreeF.rowed {w:World}{P:Nat->Prop}{a:Tree}{vs:List Value}{q:Nat}(h:TreeF w P a vs)(hP:∀b,P b->b≠q)(cs:Array Value):TreeF (w.setRow q cs) P a vs:=
 h.keep (λp hp=>cell_setRow_other _ _ _ _ (hP _ hp)) (λ_ h=>h) (λb hb=>by rw[setRow_size];exact h.lt b hb)
theorem TreeF.wrap {wa:World}{P:Nat->Prop}{k o:Int}{m:List UInt8}{l:List Tree}{us:List Value}{fb:Nat}{cs:Array Value}{T:TypeId}(hk:Jd [k,o])(hm:m.length<=140737488355328)(hn:l.length<=1000)(hl:TreesF wa P l us)(hP:∀q,P q->q≠fb)(hfb:fb<wa.heap.size):
 TreeF ((wa.alloc (.cells us.toArray T)).setRow fb cs) (λq=>P q\/q=wa.heap.size) (Pr.node k o m l) (Qa k o m Rt.none_ [] l.length none none none (some ⟨wa.heap.size,0,none⟩) 0 0 0 l.length):=by
 have hsz:((wa.alloc (.cells us.toArray T)).setRow fb cs).heap.size=wa.heap.size+1:=by rw[setRow_size];simp
 have hb:Below wa.heap.size wa (wa.alloc (.cells us.toArray T)):=Br.alloc Lr _;have hk2:∀p:Addr,P p.block->((wa.alloc (.cells us.toArray T)).setRow fb cs).cell? p=wa.cell? p:=λp hp=>by
  rw[cell_setRow_other _ _ _ _ (hP _ hp)];exact hb.cell (hl.lt _ hp)
 refine TreeF.node hk hm ⟨Lr,by omega,by omega⟩ (hl.keep hk2 (λb hb=> .inl hb) (λb hb=>?_)) (.inr ⟨wa.heap.size,0,rfl,.inr rfl,λj v hv=>?_⟩)
 ·have:=hl.lt b
  rcases hb with h |h
  ·have:=this h;omega
  omega
 rw[cell_setRow_other _ _ _ _ (by simp;omega),Nat.zero_add];refine(cell_of_row _ wa.heap.size j _ _ _ (heap_alloc_new wa _)).trans ?_;rw[List.getElem?_toArray];exact hv
theorem Mla {w0 wr w5:World}{P:Nat->Prop}{k o:Int}{m:List UInt8}{t:Tree}{x:C8}{fb rb lo:Nat}{cs:Array Value}{T:TypeId}(hk:Jd [k,o])(hm:m.length<=140737488355328)(hT:TreeF wr P t x.l)(hPP:∀q,P q->In w0.heap.size lo wr.heap.size q/\q≠fb)
 (hg:wr.grownBy w5 (some rb)) (h1:w0.heap.size<=rb) (h2:rb<lo) (h3:fb<wr.heap.size) (h4:lo<=wr.heap.size) (h5:w0.heap.size<=wr.heap.size):
 ∃P',TreeF ((w5.alloc (.cells x.a T)).setRow fb cs) P' (Pr.node k o m [t]) (Qa k o m Rt.none_ [] 1 none none none (some ⟨w5.heap.size,0,none⟩) 0 0 0 1)/\∀q,P' q->In w0.heap.size lo ((w5.alloc (.cells x.a T)).setRow fb cs).heap.size q/\q≠fb:=by
 have hs:=hg.size;have ht5:=hT.moved hg (λq hq e=>by have:=(hPP q hq).1;unfold In at this;omega);refine⟨_,TreeF.wrap (l:=[t]) (us:=x.l) hk hm (by simp) (TreesF.one ht5) (λq hq=>(hPP q hq).2) (by omega),λq hq=>?_⟩;rw[setRow_size];have hsz:(w5.alloc (.cells x.a T)).heap.size=w5.heap.size+1:=by simp
 rw[hsz];rcases hq with hq |hq
 ·refine⟨?_,(hPP q hq).2⟩
  have:=(hPP q hq).1;unfold In at*;omega
 refine⟨?_,by omega⟩;unfold In;omega
theorem Wy {w0 wr w5:World}{P:Nat->Prop}{k o:Int}{t t':Tree}{x x':C8}{fb kb rb lo lo5:Nat}{cs ck:Array Value}{T:TypeId}(hk:Jd [k,o])(hT:TreeF wr P t x.l)(hPP:∀q,P q->In w0.heap.size lo wr.heap.size q/\q≠fb)
 (hg:wr.grownBy w5 (some rb)) (hK:TreeF w5 (In w0.heap.size lo5 w5.heap.size) t' x'.l) (h1:w0.heap.size<=rb) (h2:rb<lo) (h3:fb<wr.heap.size) (h4:lo<=wr.heap.size) (h5:w0.heap.size<=wr.heap.size) (h6:wr.heap.size<=kb) (h7:kb<lo5) (h8:w0.heap.size<=fb) (h9:kb<w5.heap.size):
 ∃P',TreeF (((w5.setRow kb ck).alloc (.cells #[.int .i64 x.k,.int .i64 x.o,.string ⟨x.m.toArray⟩,.bool x.g,.slice x.A1 x.n1 x.c1,.slice x.A2 x.n2 x.c2,.slice x.A3 x.n3 x.c3,.slice x.A4 x.n4 x.c4,.int .i64 x'.k,.int .i64 x'.o,.string ⟨x'.m.toArray⟩,.bool x'.g,.slice x'.A1 x'.n1 x'.c1,.slice x'.A2 x'.n2 x'.c2,.slice x'.A3 x'.n3 x'.c3,.slice x'.A4 x'.n4 x'.c4] T)).setRow fb cs) P' (Pr.node k o [] [t,t']) (Qa k o [] Rt.none_ [] 2 none none none (some ⟨w5.heap.size,0,none⟩) 0 0 0 2)/\∀q,P' q->In w0.heap.size lo (((w5.setRow kb ck).alloc (.cells #[.int .i64 x.k,.int .i64 x.o,.string ⟨x.m.toArray⟩,.bool x.g,.slice x.A1 x.n1 x.c1,.slice x.A2 x.n2 x.c2,.slice x.A3 x.n3 x.c3,.slice x.A4 x.n4 x.c4,.int .i64 x'.k,.int .i64 x'.o,.string ⟨x'.m.toArray⟩,.bool x'.g,.slice x'.A1 x'.n1 x'.c1,.slice x'.A2 x'.n2 x'.c2,.slice x'.A3 x'.n3 x'.c3,.slice x'.A4 x'.n4 x'.c4] T)).setRow fb cs).heap.size q/\q≠fb:=by
 have hs:=hg.size;have ht5:=(hT.moved hg (λq hq e=>by have:=(hPP q hq).1;unfold In at this;omega)).rowed (q:=kb) (λb hb e=>by have:=hT.lt b hb;omega) ck;have hk5:=hK.rowed (q:=kb) (λb hb e=>by unfold In at hb;omega) ck;have hl:∀q,(P q\/In w0.heap.size lo5 w5.heap.size q)->q<(w5.setRow kb ck).heap.size:=λq hq=>hq.elim (ht5.lt q) (hk5.lt q);have hne:∀q,(P q\/In w0.heap.size lo5 w5.heap.size q)->q≠fb:=λq hq=>by
  rcases hq with hq |hq
  ·exact(hPP q hq).2
  unfold In at hq;omega
 have htt:TreesF (w5.setRow kb ck) (λq=>P q\/In w0.heap.size lo5 w5.heap.size q) [t,t'] (x.l++x'.l):=TreesF.cons (ht5.keep (λ_ _=>rfl) (λb hb=> .inl hb) hl) (TreesF.one (hk5.keep (λ_ _=>rfl) (λb hb=> .inr hb) hl));have hw:=TreeF.wrap (k:=k) (o:=o) (m:=[]) (l:=[t,t']) (us:=x.l++x'.l) (fb:=fb) (cs:=cs) (T:=T) hk (by simp) (by simp) htt hne (by rw[setRow_size];omega);have he:(w5.setRow kb ck).heap.size=w5.heap.size:=setRow_size _ _ _;rw[he] at hw;refine⟨_,hw,λq hq=>?_⟩;rw[setRow_size];have hsz:((w5.setRow kb ck).alloc (.cells #[.int .i64 x.k,.int .i64 x.o,.string ⟨x.m.toArray⟩,.bool x.g,.slice x.A1 x.n1 x.c1,.slice x.A2 x.n2 x.c2,.slice x.A3 x.n3 x.c3,.slice x.A4 x.n4 x.c4,.int .i64 x'.k,.int .i64 x'.o,.string ⟨x'.m.toArray⟩,.bool x'.g,.slice x'.A1 x'.n1 x'.c1,.slice x'.A2 x'.n2 x'.c2,.slice x'.A3 x'.n3 x'.c3,.slice x'.A4 x'.n4 x'.c4] T)).heap.size=w5.heap.size+1:=by simp[setRow_size]
 rw[hsz];rcases hq with hq |hq
 ·refine⟨?_,hne q hq⟩
  rcases hq with hq |hq
  ·have:=(hPP q hq).1
   unfold In at*;omega
  unfold In at*;omega
 refine⟨?_,by omega⟩;unfold In;omega
def Nn (w0:World)(ts:List Tk.Tok)(A:Option Addr)(c rb:Nat)(w:World)(r:Option (Tree×List Tk.Tok))(fb f gk:Nat)(ov:Value)(wr:World):Prop:=
 ∃(x:C8) (j:Nat) (b:Bool),ov= .bool b/\gk<=f/\RdAt w0 ts A c rb j wr/\w.grownBy wr (some rb)/\wr.heap[w.heap.size]? =some (.cells z8 28 (0,0))/\wr.heap[fb]? =some (.cells x.a 28 (0,0))/\
  ((b=true/\∃t P,TreeF wr P t x.l/\(∀q,P q->In w0.heap.size (w.heap.size+1) wr.heap.size q/\q≠fb)/\Pr.ops gk t (ts.drop j)=some r)\/(b=false/\r=none))
theorem Ppa {w0:World}{ts:List Tk.Tok}{A:Option Addr}{c:Nat}(hT:Yd w0 ts A c)(j n:Nat): -9223372036854775808<=Pr.gl (ts.drop j) n/\Pr.gl (ts.drop j) n<=9223372036854775807:=by
 rw[W9];by_cases h:j+n<ts.length
 ·rw[dif_pos h]
  by_cases h7:(ts[j+n]'h).kind=7
  ·rw[if_pos h7];exact(hT.ok _ h).c
  rw[if_neg h7];omega
 rw[dif_neg h];omega
section
variable {w0 : World} {ts : List Tk.Tok} {A : Option Addr} {c rb : Nat}
theorem Xga (F:Nat)(hT:Yd w0 ts A c)(hP:Tf w0 ts A c rb 138 Pr.plain F)(hA:Tf w0 ts A c rb 140 Pr.arr F):
 Tf w0 ts A c rb 87 Pr.func (F+1):=by
 intro f hf i w r h hp;cases f with
 |zero=>cases hp
 |succ f=>
  have hfF:f<=F:=by omega
  rw[Pr.func] at hp;obtain⟨W,hW⟩:∃W,W=w.alloc (.cells z8 28):=⟨_,rfl⟩;have hWb:Below w.heap.size w W:=by rw[hW];exact Br.alloc Lr _
  have hs0:w.heap.size+1<=W.heap.size:=by rw[hW];simp
  have hz0:W.heap.size<=w.heap.size+1:=by rw[hW];simp
  have HQ:Hid (W.heap[w.heap.size]? =some (.cells z8 28 (0,0))):=Qd (by rw[hW];exact heap_alloc_new w _);have HRW:=Qd (h.below hWb);have hlt:=h.lt;have hlo:=h.lo;have hq0:w0.heap.size<=w.heap.size:=h.old.size;have HW:=Qd hW;have HG0:Hid (w.grownBy W (some rb)):=Qd (Ea rb hWb);clear hW hWb h;obtain⟨W1,hW1⟩:∃W1,W1=W.alloc (.cells z8 28):=⟨_,rfl⟩;have hb1:Below W.heap.size W W1:=by rw[hW1];exact Br.alloc Lr _
  have hs1:W.heap.size+1<=W1.heap.size:=by rw[hW1];simp
  have hz1:W1.heap.size<=W.heap.size+1:=by rw[hW1];simp
  have HF:Hid (W1.heap[W.heap.size]? =some (.cells z8 28 (0,0))):=Qd (by rw[hW1];exact heap_alloc_new W _);have HQ1:=Qd (Ba HQ.out (Ea rb hb1) (by omega:w.heap.size≠rb));have HR1:=Qd (HRW.out.below hb1);have HG1:Hid (w.grownBy W1 (some rb)):=Qd (Fa HG0.out (Ea rb hb1));have HW1:=Qd hW1;have hwf:w.heap.size+1<=W.heap.size:=hs0;generalize hFB:W.heap.size=fb at HF hwf hs1 hz1;have HFB:=Qd hFB;clear HG0 HQ HRW hb1 hW1 hFB;have HQ:=HQ1;have HG0:=HG1;clear HQ1;go_enter Tryz.func87,Tryz.ntmps87
  go_upto_region 1 with fail
  rw[<-HW.out];go_upto_region 3 with fail
  rw[<-HW1.out,HFB.out];clear HW HW1 HFB hs0 hz0;have PT:=Qd (Fd hT 8728 (by decide) i W1 HR1.out);obtain⟨b9,hb9⟩:∃b9,b9=(Pr.gl (ts.drop i) 0==8728):=⟨_,rfl⟩;rw[<-hb9] at PT;have HB9:=Qd hb9;clear hb9;go_wp2_with fail
  refine PT.out.mono ?_;rintro e w1 ⟨rfl,hR2,hG2⟩;have HR2:=Qd hR2;have G1:=Qd hG2;have hsw1:=hG2.size;clear hR2 hG2 PT;go_upto_if 9 with fail
  go_cut [5] from 10 to 27 (λv5 wx=>Hid (Nn w0 ts A c rb w r fb f f v5 wx))
  case first=>
   cases b9
   ·have hc:¬Pr.gl (ts.drop i) 0=8728:=by have:=HB9.out;simpa using this.symm
    rw[if_neg hc] at hp;clear hc;have HRa:Hid (RdAt w0 ts A c rb i w1):=HR2;cases h1:Pr.plain f (ts.drop i) with
    |none=>rw[h1] at hp;cases hp
    |some s1=>
     rw[h1] at hp;have P2:=Qd (hP f hfF (i) w1 s1 HRa.out h1);go_wp2_with fail
     refine P2.out.mono ?_;rintro e w2 hE2;obtain⟨x2,j2,b2,rfl,hR2,hG2,hd2⟩:=hE2.open_;have G2:=Qd hG2;have HR2:=Qd hR2;have hs2:=hG2.size;have HD2:=Qd hd2;clear hG2 hR2 P2 hE2 hd2;have LF:=Qd (Ba HF.out (tt G1 G2).out (by omega:fb≠rb));have LQ:=Qd (Ba HQ.out (tt G1 G2).out (by omega:w.heap.size≠rb));have hwo:=HR2.out.old.size;have HREL:Hid (Nn w0 ts A c rb w r fb f f (.bool b2) (w2.setRow fb x2.a)):=Qd ⟨x2,j2,b2,rfl,Lr,HR2.out.row (by omega) (by omega) _,Xa (Fa HG0.out (tt G1 G2).out) (by omega) _,by rw[setRow_other _ _ _ _ (by omega)];exact LQ.out,setRow_heap _ _ _ _ _ _ LF.out,by
      rcases HD2.out with⟨rfl,t2,rfl,ht2⟩ |⟨rfl,rfl⟩
      ·exact .inl ⟨rfl,t2,_,ht2.rowed (λb hb e=>by unfold In at hb;omega) _,λq hq=>by rw[setRow_size];unfold In at*;omega,hp⟩
      exact .inr ⟨rfl,(Option.some.inj hp).symm⟩⟩
     clear hp HD2;go_wp2_with (with_reducible refine Ha rfl (.tmp 4) (.tmp 25) rfl fb rfl rfl LF.out ?_)
     clear LF LQ HF HQ HR2 HG0 HG1 G1 G2
     go_meet
     exact HREL
   have hc:Pr.gl (ts.drop i) 0=8728:=by have:=HB9.out;simpa using this.symm
   rw[if_pos hc,drop_tail] at hp;clear hc;have HRa:Hid (RdAt w0 ts A c rb (i+1) w1):=HR2;by_cases hc:Pr.gl (ts.drop (i+1)) 0=46
   ·have hcd:(Pr.gl (ts.drop (i+1)) 0==46)=true:=by simp[hc]
    rw[if_pos hc,drop_tail] at hp;clear hc;go_wp2_with fail
    refine Wr hT (by decide) hcd HRa ?_;intro w2 G2 HR2 hs2;cases h1:Pr.plain f (ts.drop (i+1+1)) with
    |none=>rw[h1] at hp;cases hp
    |some s1=>
     rw[h1] at hp;have P3:=Qd (hP f hfF (i+1+1) w2 s1 HR2.out h1);go_wp2_with fail
     refine P3.out.mono ?_;rintro e w3 hE3;obtain⟨x3,j3,b3,rfl,hR3,hG3,hd3⟩:=hE3.open_;have G3:=Qd hG3;have HR3:=Qd hR3;have hs3:=hG3.size;have HD3:=Qd hd3;clear hG3 hR3 P3 hE3 hd3;have LF:=Qd (Ba HF.out (tt G1 (tt G2 G3)).out (by omega:fb≠rb));have LQ:=Qd (Ba HQ.out (tt G1 (tt G2 G3)).out (by omega:w.heap.size≠rb));have hwo:=HR3.out.old.size;have LF1:Hid ((w3.setRow fb x3.a).heap[fb]? =some (.cells x3.a 28 (0,0))):=Qd (setRow_heap _ _ _ _ _ _ LF.out);have LQ1:Hid ((w3.setRow fb x3.a).heap[w.heap.size]? =some (.cells z8 28 (0,0))):=Qd (by rw[setRow_other _ _ _ _ (by omega)];exact LQ.out);have LF2:Hid (∀o,((w3.setRow fb x3.a).alloc o).heap[fb]? =some (.cells x3.a 28 (0,0))):=Qd (λo=>Ba LF1.out (Ea rb (Br.alloc Lr _)) (by omega));have hfw:fb<w3.heap.size:=by omega
     have HREL:Hid (Nn w0 ts A c rb w r fb f f (.bool b3) (((w3.setRow fb x3.a).alloc (.cells x3.a 28)).setRow fb #[.int .i64 24,.int .i64 0,.string ⟨#[]⟩,.bool false,.slice none 0 0,.slice none 0 0,.slice none 0 0,.slice (some ⟨w3.heap.size,0,none⟩) 1 1])):=Qd ⟨⟨24,0,[],false,none,0,0,none,0,0,none,0,0,some ⟨w3.heap.size,0,none⟩,1,1⟩,j3,b3,rfl,Lr,((HR3.out.row (by omega) (by omega) _).alloc _).row (by omega) (by omega) _,Xa (Uc (Xa (Fa HG0.out (tt G1 (tt G2 G3)).out) (by omega) _) _) (by omega) _,by rw[setRow_other _ _ _ _ (by omega)];exact Ba LQ1.out (Ea rb (Br.alloc Lr _)) (by omega),setRow_heap _ _ _ _ _ _ (LF2.out _),by
      rcases HD3.out with⟨rfl,t2,rfl,ht2⟩ |⟨rfl,rfl⟩
      ·obtain⟨P2,q1,q2⟩:=Mla (w0:=w0) (wr:=w3.setRow fb x3.a) (w5:=w3.setRow fb x3.a) (P:=In w0.heap.size w2.heap.size w3.heap.size) (k:=24) (o:=0) (m:=[]) (fb:=fb) (rb:=rb) (lo:=w.heap.size+1) (cs:= #[.int .i64 24,.int .i64 0,.string ⟨#[]⟩,.bool false,.slice none 0 0,.slice none 0 0,.slice none 0 0,.slice (some ⟨w3.heap.size,0,none⟩) 1 1]) (T:=28) (Za (by omega)) (by simp) (ht2.rowed (λb hb e=>by unfold In at hb;omega) _) (λq hq=>by rw[setRow_size];unfold In at*;omega) (Ef _ _) hlo (by omega) (by rw[setRow_size];omega) (by rw[setRow_size];omega) (by rw[setRow_size];omega)
       rw[setRow_size (w:=w3)] at q1;exact .inl ⟨rfl,Pr.node 24 0 [] [t2],P2,q1,q2,hp⟩
      exact .inr ⟨rfl,(Option.some.inj hp).symm⟩⟩
     clear hp HD3 hfw;go_wp2_with (first|(with_reducible refine Ha rfl (.tmp 4) (.tmp 17) rfl fb rfl rfl LF.out ?_) |(with_reducible refine Ka rfl (.tmp 4) rfl fb rfl LF1.out ?_) |(with_reducible refine Ha rfl (.tmp 4) (.tmp 21) rfl fb rfl rfl (LF2.out _) ?_))
     clear LF LF1 LF2 LQ LQ1 HF HQ HR3 HG0 HG1 G1 G2 G3;go_wp2_with fail
     go_meet
     exact HREL
   have hcd:(Pr.gl (ts.drop (i+1)) 0==46)=false:=by simp[hc]
   rw[if_neg hc] at hp;have hp2:r=none:=(Option.some.inj hp).symm;subst hp2;clear hc hp;go_wp2_with fail
   refine Xr hT (by decide) hcd HRa ?_;intro w2 G2 HR2 hs2;have QF0:=rg HQ (tt G1 G2) (by omega);go_wp2_with (with_reducible refine Ha rfl (.tmp 2) (.tmp 13) rfl w.heap.size rfl rfl QF0.out ?_)
   (try simp only[Exit.inBlock,Exit.then])
   refine Rb (by rfl) (by rfl) (by rfl) rfl QF0.out ?_;exact dN (x:=x0) HR2 (tt HG0 (tt G1 G2)) hlt hq0
  case rest=>
   have HREL:=hcut;clear hcut hp HF HQ HR1 HG0 HG1 HR2 G1 HB9;go_wp2_with fail
   (try dsimp only[Act.put])
   go_loopg [5] f (λgk ov wr=>Hid (Nn w0 ts A c rb w r fb f gk ov wr))
   case atStart=>exact HREL
   case round=>
    clear HREL;obtain⟨x,j,b,rfl,hgf,HRo,HGo,HQo,HAo,hd⟩:=hrel.out;clear hrel;have HR:=Qd HRo;have HG0:=Qd HGo;have HQ:=Qd HQo;have HA:=Qd HAo;have hsr:=HGo.size;have hwr:=HRo.old.size;have hal:fb<wr.heap.size:=(Array.getElem?_eq_some_iff.1 HAo).1;clear HRo HGo HQo HAo;rcases hd with⟨rfl,t,P,hTP,hPP,hp⟩ |⟨rfl,rfl⟩
    ·have HTP:=Qd hTP
     have HPP:=Qd hPP;have HIN:Hid (TreeF wr (In w0.heap.size (w.heap.size+1) wr.heap.size) t x.l):=Qd (hTP.keep (λ_ _=>rfl) (λq hq=>(hPP q hq).1) (λq hq=>by unfold In at hq;omega));clear hTP hPP;rcases Nat.eq_zero_or_pos gk with h0 |h0
     ·subst h0
      rw[Pr.ops] at hp;cases hp
     obtain⟨g,rfl⟩:∃g,gk=g+1:=⟨gk-1,by omega⟩;clear h0;rw[Pr.ops] at hp;have hwfo:=Ppa hT j 0;have hgl:Pr.gl (ts.drop j) 0≠0->j<ts.length:=λh=>by
      have h1:=Pr.gl_ne h;rw[List.length_drop] at h1;omega
     generalize hO:Pr.gl (ts.drop j) 0=o at hp hwfo hgl;have HO:=Qd hO;clear hO;go_wp2_with fail
     refine Al (Td hT j wr HR.out) HO.out HR ?_;intro w1 G1 HR1 hs1;cases hmo:Tr.monops.contains o
     ·rw[hmo] at hp
      rw[if_neg (by simp)] at hp;go_wp2_with fail
      refine(Aj _).mono ?_;rintro e w2 ⟨rfl,hw2⟩;have hb2:Below w1.heap.size w1 w2:=by rw[hw2];exact Br.alloc Lr _
      have HL2:Hid (Lies w2 w2.heap.size (some ⟨w1.heap.size,0,none⟩) (Sa Tr.monops)):=Qd (by rw[hw2];exact Cf);have PC2:=Qd (Kf Tr.monops 6 6 rfl o w2 _ HL2.out (by decide));rw[hmo] at PC2;have G2:=Qd (Ea rb hb2);have HR2:=Qd (HR1.out.below hb2);have hs2:=hb2.size;clear hb2 hw2 HL2;go_wp2_with fail
      refine PC2.out.mono ?_;rintro e _ ⟨rfl,rfl⟩;clear PC2;cases hdy:Tr.dyops.contains o
      ·rw[hdy] at hp
       rw[if_neg (by simp)] at hp;have hr:r=some (t,ts.drop j):=(Option.some.inj hp).symm;subst hr;clear hp;go_wp2_with fail
       refine(Ln _).mono ?_;rintro e w3 ⟨rfl,hw3⟩;have hb3:Below w2.heap.size w2 w3:=by rw[hw3];exact Br.alloc Lr _
       have HL3:Hid (Lies w3 w3.heap.size (some ⟨w2.heap.size,0,none⟩) (Sa Tr.dyops)):=Qd (by rw[hw3];exact Cf);have PC3:=Qd (Kf Tr.dyops 4 4 rfl o w3 _ HL3.out (by decide));rw[hdy] at PC3;have G3:=Qd (Ea rb hb3);have HR3:=Qd (HR2.out.below hb3);have hs3:=hb3.size;clear hb3 hw3 HL3;go_wp2_with fail
       refine PC3.out.mono ?_;rintro e _ ⟨rfl,rfl⟩;clear PC3;have LA:=Qd (Ba HA.out (tt G1 (tt G2 G3)).out (by omega:fb≠rb));have QF0:=Qd (Ba HQ.out (tt G1 (tt G2 G3)).out (by omega:w.heap.size≠rb));have hwo:=HR3.out.old.size;go_wp2_with (first|(with_reducible refine Ka rfl (.tmp 4) rfl fb rfl LA.out ?_) |(with_reducible refine Ha rfl (.tmp 2) (.tmp 48) rfl w.heap.size rfl rfl QF0.out ?_))
       (try simp only[Exit.inBlock,Exit.then])
       refine Rb (by rfl) (by rfl) (by rfl) rfl QF0.out ?_;exact⟨x,j,HR3.out.row (by omega) (by omega) _,Xa (Fa HG0.out (tt G1 (tt G2 G3)).out) Lr _,rfl,rfl,((HIN.out.grown (tt G1 (tt G2 G3)).out hlo (by omega)).setRow (q:=w.heap.size) (cs:=x.a) (by omega) (.inl (by omega))).wide (lo':=w.heap.size) (by omega) (by rw[setRow_size];omega) Lr (by rw[setRow_size];omega)⟩
      rw[hdy] at hp;rw[if_pos rfl] at hp;have hil:=hgl (λh=>by rw[h] at hdy;revert hdy;decide);rw[drop_tail] at hp;go_wp2_with fail
      refine(Ln _).mono ?_;rintro e w3 ⟨rfl,hw3⟩;have hb3:Below w2.heap.size w2 w3:=by rw[hw3];exact Br.alloc Lr _
      have HL3:Hid (Lies w3 w3.heap.size (some ⟨w2.heap.size,0,none⟩) (Sa Tr.dyops)):=Qd (by rw[hw3];exact Cf);have PC3:=Qd (Kf Tr.dyops 4 4 rfl o w3 _ HL3.out (by decide));rw[hdy] at PC3;have G3:=Qd (Ea rb hb3);have HR3:=Qd (HR2.out.below hb3);have hs3:=hb3.size;clear hb3 hw3 HL3;go_wp2_with fail
      refine PC3.out.mono ?_;rintro e _ ⟨rfl,rfl⟩;clear PC3;have p1:=HR3.out.c1;have f1:=HR3.out.fz 1;have hle4:=HR3.out.le;have hfw4:=hT.few;obtain⟨w4,HW4,hs4,G4,HR4⟩:=Km hT 1 1 rfl HR3 (by omega);go_upto_region 17 with fail
      rw[<-HW4.out];clear p1 f1;obtain⟨w5,hw5⟩:∃w5,w5=w4.alloc (.cells #[.int .i64 0,.int .i64 0,.string ⟨#[]⟩,.bool false,.slice none 0 0,.slice none 0 0,.slice none 0 0,.slice none 0 0] 28):=⟨_,rfl⟩;have hb5:Below w4.heap.size w4 w5:=by rw[hw5];exact Br.alloc Lr _
      have B5:Hid (w5.heap[w4.heap.size]? =some (.cells z8 28 (0,0))):=Qd (by rw[hw5];exact heap_alloc_new _ _);have hs5:w4.heap.size+1<=w5.heap.size:=by rw[hw5];simp
      have G5:=Qd (Ea rb hb5);have HR5:=Qd (HR4.out.below hb5);have HW5:=Qd hw5;generalize hKB:w4.heap.size=kb at B5 hs5;have hkb:wr.heap.size<=kb:=by omega
      have HKB:=Qd hKB;clear hb5 hw5 hKB;go_upto_region 18 with fail
      rw[<-HW5.out,HKB.out];clear HW5 HKB;by_cases h60:o=9060
      ·have e60:(o==9060)=true:=by simp[h60]
       rw[if_pos (.inl h60)] at hp;clear hmo hdy;have HH:=Qd h60;clear h60;cases h1:Pr.arr g (ts.drop (j+1)) with
       |none=>rw[h1] at hp;cases hp
       |some s1=>
        rw[h1] at hp;have P6:=Qd (hA g (by omega) (j+1) w5 s1 HR5.out h1);go_wp2_with fail
        refine P6.out.mono ?_;rintro e w6 hE6;obtain⟨x6,j6,b6,rfl,hR6,hG6,hd6⟩:=hE6.open_;have G6:=Qd hG6;have HR6:=Qd hR6;have hs6:=hG6.size;have HD6:=Qd hd6;clear hG6 hR6 P6 hE6 hd6;have LF:=Qd (Ba HA.out (tt G1 (tt G2 (tt G3 (tt G4 (tt G5 G6))))).out (by omega:fb≠rb));have LK:=Qd (Ba B5.out G6.out (by omega:kb≠rb));have LQ:=Qd (Ba HQ.out (tt G1 (tt G2 (tt G3 (tt G4 (tt G5 G6))))).out (by omega:w.heap.size≠rb));have hkw:kb<w6.heap.size:=by omega
        have LF1:Hid ((w6.setRow kb x6.a).heap[fb]? =some (.cells x.a 28 (0,0))):=Qd (by rw[setRow_other _ _ _ _ (by omega)];exact LF.out);have LK1:Hid ((w6.setRow kb x6.a).heap[kb]? =some (.cells x6.a 28 (0,0))):=Qd (setRow_heap _ _ _ _ _ _ LK.out);have LQ1:Hid ((w6.setRow kb x6.a).heap[w.heap.size]? =some (.cells z8 28 (0,0))):=Qd (by rw[setRow_other _ _ _ _ (by omega)];exact LQ.out);have LF2:Hid (∀o,((w6.setRow kb x6.a).alloc o).heap[fb]? =some (.cells x.a 28 (0,0))):=Qd (λo=>Ba LF1.out (Ea rb (Br.alloc Lr _)) (by omega));have hwo:=HR6.out.old.size;have HRELN:Hid (Nn w0 ts A c rb w r fb f g (.bool b6) (((w6.setRow kb x6.a).alloc (.cells #[.int .i64 x.k,.int .i64 x.o,.string ⟨x.m.toArray⟩,.bool x.g,.slice x.A1 x.n1 x.c1,.slice x.A2 x.n2 x.c2,.slice x.A3 x.n3 x.c3,.slice x.A4 x.n4 x.c4,.int .i64 x6.k,.int .i64 x6.o,.string ⟨x6.m.toArray⟩,.bool x6.g,.slice x6.A1 x6.n1 x6.c1,.slice x6.A2 x6.n2 x6.c2,.slice x6.A3 x6.n3 x6.c3,.slice x6.A4 x6.n4 x6.c4] 28)).setRow fb #[.int .i64 23,.int .i64 o,.string ⟨#[]⟩,.bool false,.slice none 0 0,.slice none 0 0,.slice none 0 0,.slice (some ⟨w6.heap.size,0,none⟩) 2 2])):=Qd ⟨⟨23,o,[],false,none,0,0,none,0,0,none,0,0,some ⟨w6.heap.size,0,none⟩,2,2⟩,j6,b6,rfl,by omega,((HR6.out.row (by omega) (by omega) _).alloc _).row (by omega) (by omega) _,Xa (Uc (Xa (Fa HG0.out (tt G1 (tt G2 (tt G3 (tt G4 (tt G5 G6))))).out) (by omega) _) _) (by omega) _,by rw[setRow_other _ _ _ _ (by omega)];exact Ba LQ1.out (Ea rb (Br.alloc Lr _)) (by omega),setRow_heap _ _ _ _ _ _ (LF2.out _),by
         rcases HD6.out with⟨rfl,t2,rfl,ht2⟩ |⟨rfl,rfl⟩
         ·obtain⟨P2,q1,q2⟩:=Wy (w0:=w0) (wr:=wr) (w5:=w6) (k:=23) (o:=o) (fb:=fb) (kb:=kb) (rb:=rb) (lo:=w.heap.size+1) (lo5:=w5.heap.size) (ck:=x6.a) (cs:= #[.int .i64 23,.int .i64 o,.string ⟨#[]⟩,.bool false,.slice none 0 0,.slice none 0 0,.slice none 0 0,.slice (some ⟨w6.heap.size,0,none⟩) 2 2]) (T:=28) (Hd (by omega) hwfo) HTP.out HPP.out (tt G1 (tt G2 (tt G3 (tt G4 (tt G5 G6))))).out ht2 hlo (by omega) hal (by omega) (by omega) hkb (by omega) (by omega) hkw
          exact .inl ⟨rfl,Pr.node 23 o [] [t,t2],P2,q1,q2,hp⟩
         exact .inr ⟨rfl,(Option.some.inj hp).symm⟩⟩
        clear hp HD6 HTP HPP HIN;go_wp2_with (first|(with_reducible refine Ha rfl (.tmp 7) (.tmp 69) rfl kb rfl rfl LK.out ?_) |(with_reducible refine Ka rfl (.tmp 4) rfl fb rfl LF1.out ?_) |(with_reducible refine Ka rfl (.tmp 7) rfl kb rfl LK1.out ?_) |(with_reducible refine Ha rfl (.tmp 4) (.tmp 80) rfl fb rfl rfl (LF2.out _) ?_))
        go_roundg g
        case rel=>exact HRELN
        case measure=>omega
      have e60:(o==9060)=false:=by simp[h60]
      by_cases h59:o=9059
      ·have e59:(o==9059)=true:=by simp[h59]
       cases hba:Pr.begA (ts.drop (j+1))
       ·rw[if_neg (by rw[hba];simp[h60])] at hp
        have HH:=Qd h59;clear h59 h60 hmo hdy;go_wp2_with fail
        refine Mh (Rh hT (j+1) w5 HR5.out) hba HR5 ?_;intro w6 G6 HR6 hs6;cases h1:Pr.plain g (ts.drop (j+1)) with
        |none=>rw[h1] at hp;cases hp
        |some s1=>
         rw[h1] at hp;have P7:=Qd (hP g (by omega) (j+1) w6 s1 HR6.out h1);go_wp2_with fail
         refine P7.out.mono ?_;rintro e w7 hE7;obtain⟨x7,j7,b7,rfl,hR7,hG7,hd7⟩:=hE7.open_;have G7:=Qd hG7;have HR7:=Qd hR7;have hs7:=hG7.size;have HD7:=Qd hd7;clear hG7 hR7 P7 hE7 hd7;have LF:=Qd (Ba HA.out (tt G1 (tt G2 (tt G3 (tt G4 (tt G5 (tt G6 G7)))))).out (by omega:fb≠rb));have LK:=Qd (Ba B5.out (tt G6 G7).out (by omega:kb≠rb));have LQ:=Qd (Ba HQ.out (tt G1 (tt G2 (tt G3 (tt G4 (tt G5 (tt G6 G7)))))).out (by omega:w.heap.size≠rb));have hkw:kb<w7.heap.size:=by omega
         have LF1:Hid ((w7.setRow kb x7.a).heap[fb]? =some (.cells x.a 28 (0,0))):=Qd (by rw[setRow_other _ _ _ _ (by omega)];exact LF.out);have LK1:Hid ((w7.setRow kb x7.a).heap[kb]? =some (.cells x7.a 28 (0,0))):=Qd (setRow_heap _ _ _ _ _ _ LK.out);have LQ1:Hid ((w7.setRow kb x7.a).heap[w.heap.size]? =some (.cells z8 28 (0,0))):=Qd (by rw[setRow_other _ _ _ _ (by omega)];exact LQ.out);have LF2:Hid (∀o,((w7.setRow kb x7.a).alloc o).heap[fb]? =some (.cells x.a 28 (0,0))):=Qd (λo=>Ba LF1.out (Ea rb (Br.alloc Lr _)) (by omega));have hwo:=HR7.out.old.size;have HRELN:Hid (Nn w0 ts A c rb w r fb f g (.bool b7) (((w7.setRow kb x7.a).alloc (.cells #[.int .i64 x.k,.int .i64 x.o,.string ⟨x.m.toArray⟩,.bool x.g,.slice x.A1 x.n1 x.c1,.slice x.A2 x.n2 x.c2,.slice x.A3 x.n3 x.c3,.slice x.A4 x.n4 x.c4,.int .i64 x7.k,.int .i64 x7.o,.string ⟨x7.m.toArray⟩,.bool x7.g,.slice x7.A1 x7.n1 x7.c1,.slice x7.A2 x7.n2 x7.c2,.slice x7.A3 x7.n3 x7.c3,.slice x7.A4 x7.n4 x7.c4] 28)).setRow fb #[.int .i64 23,.int .i64 o,.string ⟨#[]⟩,.bool false,.slice none 0 0,.slice none 0 0,.slice none 0 0,.slice (some ⟨w7.heap.size,0,none⟩) 2 2])):=Qd ⟨⟨23,o,[],false,none,0,0,none,0,0,none,0,0,some ⟨w7.heap.size,0,none⟩,2,2⟩,j7,b7,rfl,by omega,((HR7.out.row (by omega) (by omega) _).alloc _).row (by omega) (by omega) _,Xa (Uc (Xa (Fa HG0.out (tt G1 (tt G2 (tt G3 (tt G4 (tt G5 (tt G6 G7)))))).out) (by omega) _) _) (by omega) _,by rw[setRow_other _ _ _ _ (by omega)];exact Ba LQ1.out (Ea rb (Br.alloc Lr _)) (by omega),setRow_heap _ _ _ _ _ _ (LF2.out _),by
          rcases HD7.out with⟨rfl,t2,rfl,ht2⟩ |⟨rfl,rfl⟩
          ·obtain⟨P2,q1,q2⟩:=Wy (w0:=w0) (wr:=wr) (w5:=w7) (k:=23) (o:=o) (fb:=fb) (kb:=kb) (rb:=rb) (lo:=w.heap.size+1) (lo5:=w6.heap.size) (ck:=x7.a) (cs:= #[.int .i64 23,.int .i64 o,.string ⟨#[]⟩,.bool false,.slice none 0 0,.slice none 0 0,.slice none 0 0,.slice (some ⟨w7.heap.size,0,none⟩) 2 2]) (T:=28) (Hd (by omega) hwfo) HTP.out HPP.out (tt G1 (tt G2 (tt G3 (tt G4 (tt G5 (tt G6 G7)))))).out ht2 hlo (by omega) hal (by omega) (by omega) hkb (by omega) (by omega) hkw
           exact .inl ⟨rfl,Pr.node 23 o [] [t,t2],P2,q1,q2,hp⟩
          exact .inr ⟨rfl,(Option.some.inj hp).symm⟩⟩
         clear hp HD7 HTP HPP HIN;go_wp2_with (first|(with_reducible refine Ha rfl (.tmp 7) (.tmp 74) rfl kb rfl rfl LK.out ?_) |(with_reducible refine Ka rfl (.tmp 4) rfl fb rfl LF1.out ?_) |(with_reducible refine Ka rfl (.tmp 7) rfl kb rfl LK1.out ?_) |(with_reducible refine Ha rfl (.tmp 4) (.tmp 80) rfl fb rfl rfl (LF2.out _) ?_))
         go_roundg g
         case rel=>exact HRELN
         case measure=>omega
       rw[if_pos (.inr ⟨h59,hba⟩)] at hp;have HH:=Qd h59;clear h59 h60 hmo hdy;go_wp2_with fail
       refine Mh (Rh hT (j+1) w5 HR5.out) hba HR5 ?_;intro w6 G6 HR6 hs6;cases h1:Pr.arr g (ts.drop (j+1)) with
       |none=>rw[h1] at hp;cases hp
       |some s1=>
        rw[h1] at hp;have P7:=Qd (hA g (by omega) (j+1) w6 s1 HR6.out h1);go_wp2_with fail
        refine P7.out.mono ?_;rintro e w7 hE7;obtain⟨x7,j7,b7,rfl,hR7,hG7,hd7⟩:=hE7.open_;have G7:=Qd hG7;have HR7:=Qd hR7;have hs7:=hG7.size;have HD7:=Qd hd7;clear hG7 hR7 P7 hE7 hd7;have LF:=Qd (Ba HA.out (tt G1 (tt G2 (tt G3 (tt G4 (tt G5 (tt G6 G7)))))).out (by omega:fb≠rb));have LK:=Qd (Ba B5.out (tt G6 G7).out (by omega:kb≠rb));have LQ:=Qd (Ba HQ.out (tt G1 (tt G2 (tt G3 (tt G4 (tt G5 (tt G6 G7)))))).out (by omega:w.heap.size≠rb));have hkw:kb<w7.heap.size:=by omega
        have LF1:Hid ((w7.setRow kb x7.a).heap[fb]? =some (.cells x.a 28 (0,0))):=Qd (by rw[setRow_other _ _ _ _ (by omega)];exact LF.out);have LK1:Hid ((w7.setRow kb x7.a).heap[kb]? =some (.cells x7.a 28 (0,0))):=Qd (setRow_heap _ _ _ _ _ _ LK.out);have LQ1:Hid ((w7.setRow kb x7.a).heap[w.heap.size]? =some (.cells z8 28 (0,0))):=Qd (by rw[setRow_other _ _ _ _ (by omega)];exact LQ.out);have LF2:Hid (∀o,((w7.setRow kb x7.a).alloc o).heap[fb]? =some (.cells x.a 28 (0,0))):=Qd (λo=>Ba LF1.out (Ea rb (Br.alloc Lr _)) (by omega));have hwo:=HR7.out.old.size;have HRELN:Hid (Nn w0 ts A c rb w r fb f g (.bool b7) (((w7.setRow kb x7.a).alloc (.cells #[.int .i64 x.k,.int .i64 x.o,.string ⟨x.m.toArray⟩,.bool x.g,.slice x.A1 x.n1 x.c1,.slice x.A2 x.n2 x.c2,.slice x.A3 x.n3 x.c3,.slice x.A4 x.n4 x.c4,.int .i64 x7.k,.int .i64 x7.o,.string ⟨x7.m.toArray⟩,.bool x7.g,.slice x7.A1 x7.n1 x7.c1,.slice x7.A2 x7.n2 x7.c2,.slice x7.A3 x7.n3 x7.c3,.slice x7.A4 x7.n4 x7.c4] 28)).setRow fb #[.int .i64 23,.int .i64 o,.string ⟨#[]⟩,.bool false,.slice none 0 0,.slice none 0 0,.slice none 0 0,.slice (some ⟨w7.heap.size,0,none⟩) 2 2])):=Qd ⟨⟨23,o,[],false,none,0,0,none,0,0,none,0,0,some ⟨w7.heap.size,0,none⟩,2,2⟩,j7,b7,rfl,by omega,((HR7.out.row (by omega) (by omega) _).alloc _).row (by omega) (by omega) _,Xa (Uc (Xa (Fa HG0.out (tt G1 (tt G2 (tt G3 (tt G4 (tt G5 (tt G6 G7)))))).out) (by omega) _) _) (by omega) _,by rw[setRow_other _ _ _ _ (by omega)];exact Ba LQ1.out (Ea rb (Br.alloc Lr _)) (by omega),setRow_heap _ _ _ _ _ _ (LF2.out _),by
         rcases HD7.out with⟨rfl,t2,rfl,ht2⟩ |⟨rfl,rfl⟩
         ·obtain⟨P2,q1,q2⟩:=Wy (w0:=w0) (wr:=wr) (w5:=w7) (k:=23) (o:=o) (fb:=fb) (kb:=kb) (rb:=rb) (lo:=w.heap.size+1) (lo5:=w6.heap.size) (ck:=x7.a) (cs:= #[.int .i64 23,.int .i64 o,.string ⟨#[]⟩,.bool false,.slice none 0 0,.slice none 0 0,.slice none 0 0,.slice (some ⟨w7.heap.size,0,none⟩) 2 2]) (T:=28) (Hd (by omega) hwfo) HTP.out HPP.out (tt G1 (tt G2 (tt G3 (tt G4 (tt G5 (tt G6 G7)))))).out ht2 hlo (by omega) hal (by omega) (by omega) hkb (by omega) (by omega) hkw
          exact .inl ⟨rfl,Pr.node 23 o [] [t,t2],P2,q1,q2,hp⟩
         exact .inr ⟨rfl,(Option.some.inj hp).symm⟩⟩
        clear hp HD7 HTP HPP HIN;go_wp2_with (first|(with_reducible refine Ha rfl (.tmp 7) (.tmp 69) rfl kb rfl rfl LK.out ?_) |(with_reducible refine Ka rfl (.tmp 4) rfl fb rfl LF1.out ?_) |(with_reducible refine Ka rfl (.tmp 7) rfl kb rfl LK1.out ?_) |(with_reducible refine Ha rfl (.tmp 4) (.tmp 80) rfl fb rfl rfl (LF2.out _) ?_))
        go_roundg g
        case rel=>exact HRELN
        case measure=>omega
      have e59:(o==9059)=false:=by simp[h59]
      rw[if_neg (by simp[h60,h59])] at hp;clear h59 h60 hmo hdy;cases h1:Pr.plain g (ts.drop (j+1)) with
      |none=>rw[h1] at hp;cases hp
      |some s1=>
       rw[h1] at hp;have P6:=Qd (hP g (by omega) (j+1) w5 s1 HR5.out h1);go_wp2_with fail
       refine P6.out.mono ?_;rintro e w6 hE6;obtain⟨x6,j6,b6,rfl,hR6,hG6,hd6⟩:=hE6.open_;have G6:=Qd hG6;have HR6:=Qd hR6;have hs6:=hG6.size;have HD6:=Qd hd6;clear hG6 hR6 P6 hE6 hd6;have LF:=Qd (Ba HA.out (tt G1 (tt G2 (tt G3 (tt G4 (tt G5 G6))))).out (by omega:fb≠rb));have LK:=Qd (Ba B5.out G6.out (by omega:kb≠rb));have LQ:=Qd (Ba HQ.out (tt G1 (tt G2 (tt G3 (tt G4 (tt G5 G6))))).out (by omega:w.heap.size≠rb));have hkw:kb<w6.heap.size:=by omega
       have LF1:Hid ((w6.setRow kb x6.a).heap[fb]? =some (.cells x.a 28 (0,0))):=Qd (by rw[setRow_other _ _ _ _ (by omega)];exact LF.out);have LK1:Hid ((w6.setRow kb x6.a).heap[kb]? =some (.cells x6.a 28 (0,0))):=Qd (setRow_heap _ _ _ _ _ _ LK.out);have LQ1:Hid ((w6.setRow kb x6.a).heap[w.heap.size]? =some (.cells z8 28 (0,0))):=Qd (by rw[setRow_other _ _ _ _ (by omega)];exact LQ.out);have LF2:Hid (∀o,((w6.setRow kb x6.a).alloc o).heap[fb]? =some (.cells x.a 28 (0,0))):=Qd (λo=>Ba LF1.out (Ea rb (Br.alloc Lr _)) (by omega));have hwo:=HR6.out.old.size;have HRELN:Hid (Nn w0 ts A c rb w r fb f g (.bool b6) (((w6.setRow kb x6.a).alloc (.cells #[.int .i64 x.k,.int .i64 x.o,.string ⟨x.m.toArray⟩,.bool x.g,.slice x.A1 x.n1 x.c1,.slice x.A2 x.n2 x.c2,.slice x.A3 x.n3 x.c3,.slice x.A4 x.n4 x.c4,.int .i64 x6.k,.int .i64 x6.o,.string ⟨x6.m.toArray⟩,.bool x6.g,.slice x6.A1 x6.n1 x6.c1,.slice x6.A2 x6.n2 x6.c2,.slice x6.A3 x6.n3 x6.c3,.slice x6.A4 x6.n4 x6.c4] 28)).setRow fb #[.int .i64 23,.int .i64 o,.string ⟨#[]⟩,.bool false,.slice none 0 0,.slice none 0 0,.slice none 0 0,.slice (some ⟨w6.heap.size,0,none⟩) 2 2])):=Qd ⟨⟨23,o,[],false,none,0,0,none,0,0,none,0,0,some ⟨w6.heap.size,0,none⟩,2,2⟩,j6,b6,rfl,by omega,((HR6.out.row (by omega) (by omega) _).alloc _).row (by omega) (by omega) _,Xa (Uc (Xa (Fa HG0.out (tt G1 (tt G2 (tt G3 (tt G4 (tt G5 G6))))).out) (by omega) _) _) (by omega) _,by rw[setRow_other _ _ _ _ (by omega)];exact Ba LQ1.out (Ea rb (Br.alloc Lr _)) (by omega),setRow_heap _ _ _ _ _ _ (LF2.out _),by
        rcases HD6.out with⟨rfl,t2,rfl,ht2⟩ |⟨rfl,rfl⟩
        ·obtain⟨P2,q1,q2⟩:=Wy (w0:=w0) (wr:=wr) (w5:=w6) (k:=23) (o:=o) (fb:=fb) (kb:=kb) (rb:=rb) (lo:=w.heap.size+1) (lo5:=w5.heap.size) (ck:=x6.a) (cs:= #[.int .i64 23,.int .i64 o,.string ⟨#[]⟩,.bool false,.slice none 0 0,.slice none 0 0,.slice none 0 0,.slice (some ⟨w6.heap.size,0,none⟩) 2 2]) (T:=28) (Hd (by omega) hwfo) HTP.out HPP.out (tt G1 (tt G2 (tt G3 (tt G4 (tt G5 G6))))).out ht2 hlo (by omega) hal (by omega) (by omega) hkb (by omega) (by omega) hkw
         exact .inl ⟨rfl,Pr.node 23 o [] [t,t2],P2,q1,q2,hp⟩
        exact .inr ⟨rfl,(Option.some.inj hp).symm⟩⟩
       clear hp HD6 HTP HPP HIN;go_wp2_with (first|(with_reducible refine Ha rfl (.tmp 7) (.tmp 74) rfl kb rfl rfl LK.out ?_) |(with_reducible refine Ka rfl (.tmp 4) rfl fb rfl LF1.out ?_) |(with_reducible refine Ka rfl (.tmp 7) rfl kb rfl LK1.out ?_) |(with_reducible refine Ha rfl (.tmp 4) (.tmp 80) rfl fb rfl rfl (LF2.out _) ?_))
       go_roundg g
       case rel=>exact HRELN
       case measure=>omega
     rw[hmo] at hp;rw[if_pos rfl] at hp;have hil:=hgl (λh=>by rw[h] at hmo;revert hmo;decide);rw[drop_tail] at hp;go_wp2_with fail
     refine(Aj _).mono ?_;rintro e w2 ⟨rfl,hw2⟩;have hb2:Below w1.heap.size w1 w2:=by rw[hw2];exact Br.alloc Lr _
     have HL2:Hid (Lies w2 w2.heap.size (some ⟨w1.heap.size,0,none⟩) (Sa Tr.monops)):=Qd (by rw[hw2];exact Cf);have PC2:=Qd (Kf Tr.monops 6 6 rfl o w2 _ HL2.out (by decide));rw[hmo] at PC2;have G2:=Qd (Ea rb hb2);have HR2:=Qd (HR1.out.below hb2);have hs2:=hb2.size;clear hb2 hw2 HL2;go_wp2_with fail
     refine PC2.out.mono ?_;rintro e _ ⟨rfl,rfl⟩;clear PC2;have p1:=HR2.out.c1;have f1:=HR2.out.fz 1;have hle3:=HR2.out.le;have hfw3:=hT.few;obtain⟨w3,HW3,hs3,G3,HR3⟩:=Km hT 1 1 rfl HR2 (by omega);go_upto_region 13 with fail
     rw[<-HW3.out];clear p1 f1;have LF:=Qd (Ba HA.out (tt G1 (tt G2 G3)).out (by omega:fb≠rb));have LQ:=Qd (Ba HQ.out (tt G1 (tt G2 G3)).out (by omega:w.heap.size≠rb));have hwo:=HR3.out.old.size;have LF2:Hid (∀o,(w3.alloc o).heap[fb]? =some (.cells x.a 28 (0,0))):=Qd (λo=>Ba LF.out (Ea rb (Br.alloc Lr _)) (by omega));have HRELN:Hid (Nn w0 ts A c rb w r fb f g (.bool true) ((w3.alloc (.cells x.a 28)).setRow fb #[.int .i64 22,.int .i64 o,.string ⟨#[]⟩,.bool false,.slice none 0 0,.slice none 0 0,.slice none 0 0,.slice (some ⟨w3.heap.size,0,none⟩) 1 1])):=Qd ⟨⟨22,o,[],false,none,0,0,none,0,0,none,0,0,some ⟨w3.heap.size,0,none⟩,1,1⟩,j+1,true,rfl,by omega,(HR3.out.alloc _).row (by omega) (by omega) _,Xa (Uc (Fa HG0.out (tt G1 (tt G2 G3)).out) _) (by omega) _,by rw[setRow_other _ _ _ _ (by omega)];exact Ba LQ.out (Ea rb (Br.alloc Lr _)) (by omega),setRow_heap _ _ _ _ _ _ (LF2.out _),by
      obtain⟨P2,q1,q2⟩:=Mla (w0:=w0) (wr:=wr) (w5:=w3) (k:=22) (o:=o) (m:=[]) (fb:=fb) (rb:=rb) (lo:=w.heap.size+1) (cs:= #[.int .i64 22,.int .i64 o,.string ⟨#[]⟩,.bool false,.slice none 0 0,.slice none 0 0,.slice none 0 0,.slice (some ⟨w3.heap.size,0,none⟩) 1 1]) (T:=28) (Hd (by omega) hwfo) (by simp) HTP.out HPP.out (tt G1 (tt G2 G3)).out hlo (by omega) hal (by omega) (by omega);exact .inl ⟨rfl,Pr.node 22 o [] [t],P2,q1,q2,hp⟩⟩
     clear hp HTP HPP HIN hmo;go_wp2_with (first|(with_reducible refine Ka rfl (.tmp 4) rfl fb rfl LF.out ?_) |(with_reducible refine Ha rfl (.tmp 4) (.tmp 43) rfl fb rfl rfl (LF2.out _) ?_))
     go_roundg g
     case rel=>exact HRELN
     case measure=>omega
    go_wp2_with (with_reducible refine Ha rfl (.tmp 2) (.tmp 81) rfl w.heap.size rfl rfl HQ.out ?_)
    (try simp only[Exit.inBlock,Exit.then])
    refine bodyPost_ret (Wl (by rfl) _ _ w.heap.size (by rfl) (by rfl) (setRow_heap _ _ _ _ _ _ HQ.out)) rfl ?_;exact⟨⟨0,0,[],false,none,0,0,none,0,0,none,0,0,none,0,0⟩,j,HR.out.row (by omega) (by omega) _,Xa HG0.out Lr _,rfl⟩
end
end
section
open Go.RowKit Tr
variable [Dc]
theorem On (a:Tree)(x:C8)(w:World)(B:Nat)(h:IsTree w B a x.l)(hB:B<=w.heap.size)(h9:Pr.K9 a):
 Calls Tryz.prog 171 #[.agg #[.int .i64 x.k,.int .i64 x.o,.string ⟨x.m.toArray⟩,.bool x.g,.slice x.A1 x.n1 x.c1,.slice x.A2 x.n2 x.c2,.slice x.A3 x.n3 x.c3,.slice x.A4 x.n4 x.c4]] w (La w (Pr.target a)):=by
 obtain⟨k,o,m,nm,t,l⟩:=a;obtain⟨W,hW⟩:∃W,W=w.alloc (.cells #[.int .i64 x.k,.int .i64 x.o,.string ⟨x.m.toArray⟩,.bool x.g,.slice x.A1 x.n1 x.c1,.slice x.A2 x.n2 x.c2,.slice x.A3 x.n3 x.c3,.slice x.A4 x.n4 x.c4] 28):=⟨_,rfl⟩;obtain⟨A1,A2,A3,A4,c1,c2,c3,c4,us,HO,HL,HC,hW8,HG,hWl,hWb⟩:=Vb (vs:=x.l) h hW;have q0:W.cell? ⟨w.heap.size,0,none⟩=some (.int .i64 k):=hW8.p0;have q7:W.cell? ⟨w.heap.size,7,none⟩=some (.slice A4 l.length c4):=hW8.p7;have hf:=HO.out.f4;have HWB:=Qd hWb;have HW:=Qd hW;have HT:Hid (Pr.target (.mk k o m nm t l)=((k==3)||(k==6)||((k==9)&&((l.map kind).getD 0 0==3)))):=Qd rfl;have H9:Hid (k=9->l≠[]):=Qd h9;generalize Pr.target (.mk k o m nm t l)=R at*;have hkk:∀p:Addr,p.block<B->W.cell? p=w.cell? p:=λp hp=>hWb.cell (Nat.lt_of_lt_of_le hp hB);cases e3:(k==3)
 ·cases e6:(k==6)
  ·cases e9:(k==9)
   ·rw[e3,e6,e9] at HT
    clear h hW hW8 HO HL HC HG hWb h9 H9 hf hkk;go_enter Tryz.func171,Tryz.ntmps171
    go_upto_region 1 with fail
    rw[<-HW.out];go_wp2_with fail
    go_ret;exact⟨Aa (by rw[HT.out];rfl),HWB.out⟩
   have hne:=H9.out (by simpa using e9);have hlt:0<l.length:=List.length_pos_iff.2 hne;obtain⟨b,off,B1,B2,B3,B4,d1,d2,d3,d4,rfl,hb,HI,hat⟩:=Fq HC.out HL.out hkk hlt;have p0:=hat.p0;rw[Nat.zero_mul,Nat.add_zero] at p0;rw[e3,e6,e9] at HT;have HK:Hid ((l.map kind).getD 0 0=kind l[0]):=Qd (by rw[List.getD_eq_getElem?_getD,List.getElem?_map,List.getElem?_eq_getElem hlt];rfl);generalize kind l[0]=kk at*;have hl0:(0:Int)<(l.length:Int):=by omega
   clear h hW hW8 HO HL HC HG hWb h9 H9 hf hkk HI hat hne;go_enter Tryz.func171,Tryz.ntmps171
   go_upto_region 1 with fail
   rw[<-HW.out];go_wp2_with fail
   go_ret;exact⟨Aa (by rw[HT.out,HK.out];rfl),HWB.out⟩
  rw[e3,e6] at HT;clear h hW hW8 HO HL HC HG hWb h9 H9 hf hkk;go_enter Tryz.func171,Tryz.ntmps171
  go_upto_region 1 with fail
  rw[<-HW.out];go_wp2_with fail
  go_ret;exact⟨Aa (by rw[HT.out];rfl),HWB.out⟩
 rw[e3] at HT;clear h hW hW8 HO HL HC HG hWb h9 H9 hf hkk;go_enter Tryz.func171,Tryz.ntmps171
 go_upto_region 1 with fail
 rw[<-HW.out];go_wp2_with fail
 go_ret;exact⟨Aa (by rw[HT.out];rfl),HWB.out⟩
theorem M7 (n:Nat)(h0:0<n)(hn:n*136<=140737488351232)(w:World):Calls Tryz.prog 210 #[.slice none 0 0,.int .i64 (n:Int)] w λe w'=>
 ∃v,e= .returned v/\w'.ownsRow w.heap.size 28 8 v 0 []/\w.grownBy w' none:=by
 obtain⟨i0,hi0,hzz0,hzz1,hzz2⟩:=info_parts Ai;have hpos:(0:Int)<(n:Int):=by omega
 have hlt0:decide ((n:Int)<0)=false:=by simp
 have hi:(n:Int)<=1034834473171:=by omega
 go_enter Tryz.func210,Tryz.ntmps210
 go_wp2_with (at_builtin;refine Pt rfl _ _ _ _ rfl w.heap.size 28 .i64 .i64 i0 _ 8 136 Tryz.underlying26 Tryz.underlying3 hi0 hzz0 hzz1 hzz2 rfl (by decide) n rfl rfl h0 (by unfold maxLen;omega) (by omega) Lr ?_;intro cap w2 h1 h2 h3 h4)
 go_ret;exact⟨_,rfl,h3,h4⟩
theorem Ox {a b d:World}{row:Option Nat}(h:a.grownBy b none)(k:b.grownBy d row)(hr:∀g,row=some g->a.heap.size<=g):a.grownBy d none:=
 ⟨k.os.trans h.os,k.tape.trans h.tape,k.output.trans h.output,Nat.le_trans h.size k.size,λi hi _=>(k.block i (Nat.lt_of_lt_of_le hi h.size) (λe=>by have:=hr i e.symm;omega)).trans (h.block i hi (by simp))⟩
theorem N7 (w:World)(G:Nat)(T:TypeId)(p1 p2:Addr)(c1 m c2:Nat)(us1 us2:List Value)(hG:w.heap[G]? =some (.cells #[.slice (some p1) 1 c1,.slice (some p2) m c2] T (0,0)))
 (b1:p1.block<w.heap.size) (b2:p2.block<w.heap.size) (h1:∀j u,us1[j]? =some u->w.cell? (p1.add j)=some u) (h2:∀j u,us2[j]? =some u->w.cell? (p2.add j)=some u) (l1:us1.length=8) (l2:us2.length=m*8)
 (o1:∀u∈us1,u.oneCell'=true) (o2:∀u∈us2,u.oneCell'=true) (hm:(1+m)*136<=140737488351232):
 Calls Tryz.prog 194 #[.slice (some ⟨G,0,none⟩) 2 2] w λe w'=>∃v,e= .returned v/\w'.ownsRow w.heap.size 28 8 v (1+m) (us1++us2)/\w.grownBy w' none:=by
 obtain⟨i0,hi0,hzz0,hzz1,hzz2⟩:=info_parts Ai;have hGl:G<w.heap.size:=(Array.getElem?_eq_some_iff.1 hG).1;have g0:w.cell? ⟨G,0,none⟩=some (.slice (some p1) 1 c1):=(cell_of_row w G 0 _ _ _ hG).trans rfl;have g1:w.cell? ⟨G,1,none⟩=some (.slice (some p2) m c2):=(cell_of_row w G 1 _ _ _ hG).trans rfl;have s1:IntKind.i64.wrap (0+1)=1:=by decide
 have s2:IntKind.i64.wrap (1+(m:Int))=1+(m:Int):=IntWalk.i64_in _ (by omega);have s3:decide (1+(m:Int)<0)=false:=by simp;omega
 have GR:=M7 (1+m) (by omega) (by omega) w;rw[show(((1+m:Nat):Int))=1+(m:Int) by omega] at GR;replace GR:=Qd GR;have HC1:Hid (∀wx,w.grownBy wx none->∀j u,us1[j]? =some u->wx.cell? (p1.add j)=some u):=Qd (λwx hx j u hu=>(World.cell?_of_block (by
  obtain⟨pb,po,pp⟩:=p1;have e:((⟨pb,po,pp⟩:Addr).add j).block=pb:=by unfold Addr.add;split<;>rfl
  rw[e];exact hx.block pb b1 (by simp))).trans (h1 j u hu))
 have HC2:Hid (∀wx,w.grownBy wx none->∀j u,us2[j]? =some u->wx.cell? (p2.add j)=some u):=Qd (λwx hx j u hu=>(World.cell?_of_block (by
  obtain⟨pb,po,pp⟩:=p2;have e:((⟨pb,po,pp⟩:Addr).add j).block=pb:=by unfold Addr.add;split<;>rfl
  rw[e];exact hx.block pb b2 (by simp))).trans (h2 j u hu))
 have HG0:Hid (∀wx,w.grownBy wx none->wx.cell? ⟨G,0,none⟩=some (.slice (some p1) 1 c1)/\wx.cell? ⟨G,1,none⟩=some (.slice (some p2) m c2)):=Qd (λwx hx=>⟨(World.cell?_of_block (hx.block G hGl (by simp))).trans g0,(World.cell?_of_block (hx.block G hGl (by simp))).trans g1⟩);clear h1 h2 hG;go_enter Tryz.func194,Tryz.ntmps194
 go_wp2_with fail
 go_loopg [3,11] 2 (λgk sv iv wr=>w=wr/\((gk=2/\sv= .int .i64 0/\iv= .int .i64 0)\/(gk=1/\sv= .int .i64 1/\iv= .int .i64 1)\/(gk=0/\sv= .int .i64 (1+(m:Int))/\iv= .int .i64 2)))
 case atStart=>exact⟨rfl,.inl ⟨rfl,rfl,rfl⟩⟩
 case round=>
  obtain⟨rfl,h⟩:=hrel;rcases h with⟨rfl,rfl,rfl⟩ |⟨rfl,rfl,rfl⟩ |⟨rfl,rfl,rfl⟩
  ·go_wp2_with fail
   go_roundg 1
   case rel=>exact⟨rfl,.inr (.inl ⟨rfl,rfl,rfl⟩)⟩
   case measure=>decide
  ·go_wp2_with fail
   go_roundg 0
   case rel=>exact⟨rfl,.inr (.inr ⟨rfl,rfl,rfl⟩)⟩
   case measure=>decide
  clear g0 g1;go_wp2_with fail
  refine GR.out.mono ?_;rintro e w1 ⟨v,rfl,hown,hgr⟩;have HREL:Hid ((∃v1,v=v1/\w1.ownsRow w.heap.size 28 8 v 0 [])/\w.grownBy w1 none):=Qd ⟨⟨v,rfl,hown⟩,hgr⟩;clear hown hgr;go_wp2_with fail
  go_loopg [6,27] 2 (λgk sv iv wr=>Hid ((gk=2/\iv= .int .i64 0/\wr.ownsRow w.heap.size 28 8 sv 0 []/\w.grownBy wr none)\/(gk=1/\iv= .int .i64 1/\wr.ownsRow w.heap.size 28 8 sv 1 us1/\w.grownBy wr none)\/(gk=0/\iv= .int .i64 2/\wr.ownsRow w.heap.size 28 8 sv (1+m) (us1++us2)/\w.grownBy wr none)))
  case atStart=>exact Qd (.inl ⟨rfl,rfl,HREL.out.1.choose_spec.2,HREL.out.2⟩)
  case round=>
   clear HREL;obtain h:=hrel.out;clear hrel;rcases h with⟨rfl,rfl,hown,hgr⟩ |⟨rfl,rfl,hown,hgr⟩ |⟨rfl,rfl,hown,hgr⟩
   ·obtain⟨g0,g1⟩:=HG0.out wr hgr
    have HO:=Qd hown;have HN:=Qd (HC1.out wr hgr);have HGR:=Qd hgr;have hsz:=hgr.size;clear hown hgr;go_wp2_with (at_builtin;refine wpList_append_own_at _ rfl _ _ 26 rfl w.heap.size 28 i0 _ 8 136 Tryz.underlying26 hi0 hzz0 hzz1 hzz2 rfl (by decide) u6 0 [] rfl HO.out p1 1 c1 us1 rfl (by omega) HN.out o1 (by unfold maxLen;omega) (by omega) hsz ?_;intro v' w4 hown' hgr' hnil hat)
    have HRELN:Hid ((1=2/\Value.int .i64 1= .int .i64 0/\w4.ownsRow w.heap.size 28 8 v' 0 []/\w.grownBy w4 none)\/(1=1/\Value.int .i64 1= .int .i64 1/\w4.ownsRow w.heap.size 28 8 v' 1 us1/\w.grownBy w4 none)\/(1=0/\Value.int .i64 1= .int .i64 2/\w4.ownsRow w.heap.size 28 8 v' (1+m) (us1++us2)/\w.grownBy w4 none)):=Qd (.inr (.inl ⟨rfl,rfl,by simpa using hown',Ox HGR.out hgr' (λg hg=>(Zd HO.out hg).1)⟩));clear hown' hgr' hnil hat
    go_roundg 1
    case rel=>exact HRELN
    case measure=>decide
   ·obtain⟨g0,g1⟩:=HG0.out wr hgr
    have HO:=Qd hown;have HN:=Qd (HC2.out wr hgr);have HGR:=Qd hgr;have hsz:=hgr.size;clear hown hgr;go_wp2_with (at_builtin;refine wpList_append_own_at _ rfl _ _ 26 rfl w.heap.size 28 i0 _ 8 136 Tryz.underlying26 hi0 hzz0 hzz1 hzz2 rfl (by decide) u6 1 us1 rfl HO.out p2 m c2 us2 rfl (by omega) HN.out o2 (by unfold maxLen;omega) (by omega) hsz ?_;intro v' w4 hown' hgr' hnil hat)
    have HRELN:Hid ((0=2/\Value.int .i64 2= .int .i64 0/\w4.ownsRow w.heap.size 28 8 v' 0 []/\w.grownBy w4 none)\/(0=1/\Value.int .i64 2= .int .i64 1/\w4.ownsRow w.heap.size 28 8 v' 1 us1/\w.grownBy w4 none)\/(0=0/\Value.int .i64 2= .int .i64 2/\w4.ownsRow w.heap.size 28 8 v' (1+m) (us1++us2)/\w.grownBy w4 none)):=Qd (.inr (.inr ⟨rfl,rfl,hown',Ox HGR.out hgr' (λg hg=>(Zd HO.out hg).1)⟩));clear hown' hgr' hnil hat
    go_roundg 0
    case rel=>exact HRELN
    case measure=>decide
   have HO:=Qd hown;have HGR:=Qd hgr;clear hown hgr;go_wp2_with fail
   go_ret;exact⟨_,rfl,HO.out,HGR.out⟩
end
section
open Go.RowKit Tr
variable [Dc]
def Yga:List Value->Nat->Value
 | [],_=>undef
 |v::_,0=>v
 |_::l,n+1=>Yga l n
def Yc (s0 s1 s2 s3 s4 s6 s7 s8 s9 s10 s11 s12 s13 s14 s15 s16 s17 s18 s19 s20 s21 s29 s30 s31 s32 s33 s34 s35:Value)(xs:Nat->Value):Act:={tmps:= #[s0,s1,s2,s3,s4,xs 7,s6,s7,s8,s9,s10,s11,s12,s13,s14,s15,s16,s17,s18,s19,s20,s21,xs 0,xs 1,xs 2,xs 3,xs 4,xs 5,xs 6,s29,s30,s31,s32,s33,s34,s35],defers:=[]}
def Yoa (B3 B0 b:Nat)(xa xe:C8)(us2:List Value)(c4:Nat)(off n:Nat):Nat->World->Value->Prop
 | 0,w,v=>v= .agg #[.int .i64 xe.k,.int .i64 xe.o,.string ⟨xe.m.toArray⟩,.bool xe.g,.slice xe.A1 xe.n1 xe.c1,.slice xe.A2 xe.n2 xe.c2,.slice xe.A3 xe.n3 xe.c3,.slice xe.A4 xe.n4 xe.c4]
 | 1,w,v=>∃g,v= .slice (some ⟨g,0,none⟩) 1 1/\w.heap[g]? =some (.cells xe.a 28 (0,0))
 | 2,w,v=>v= .pointer (some ⟨B0,7,none⟩)
 | 3,w,v=>v= .slice (some ⟨b,off,none⟩) (n+1) c4
 | 4,w,v=>∃(p2:Addr) (c2:Nat),v= .slice (some p2) n c2/\p2.block<w.heap.size/\∀j u,us2[j]? =some u->w.cell? (p2.add j)=some u
 | 5,w,v=>∃(G g:Nat) (p2:Addr) (c2:Nat),v= .slice (some ⟨G,0,none⟩) 2 2/\w.heap[G]? =some (.cells #[.slice (some ⟨g,0,none⟩) 1 1,.slice (some p2) n c2] 26 (0,0))/\w.heap[g]? =some (.cells xe.a 28 (0,0))/\p2.block<w.heap.size/\∀j u,us2[j]? =some u->w.cell? (p2.add j)=some u
 | 6,w,v=>∃(A4:Option Addr) (c5:Nat),v= .slice A4 (1+n) c5/\Fits (1+n) c5 136/\∃g,A4=some ⟨g,0,none⟩/\B3<=g/\g<w.heap.size/\∀j u,((C8.l xe)++us2)[j]? =some u->w.cell? ⟨g,0+j,none⟩=some u
 |_,w,v=>∃(A4:Option Addr) (c5:Nat),v= .slice A4 (1+n) c5/\Fits (1+n) c5 136/\∃g,A4=some ⟨g,0,none⟩/\B3<=g/\g<w.heap.size/\∀j u,((C8.l xe)++us2)[j]? =some u->w.cell? ⟨g,0+j,none⟩=some u
theorem Pn (p:Addr)(j:Nat):(p.add j).block=p.block:=by
 obtain⟨pb,po,pp⟩:=p;unfold Addr.add;split<;>rfl
theorem Sca {fn:Func}{p:Tmp}(h:fn.results= #[.cell p 28])(tmps:Array Value)(w:World)(q:Nat){u0 u1 u2 u3 u4 u5 u6 u7:Value}
 (hp:tmps.getD p undef= .pointer (some ⟨q,0,none⟩)) (hq:w.heap[q]? =some (.cells #[u0,u1,u2,u3,u4,u5,u6,u7] 28 (0,0))):
 (results fn tmps).run Tryz.prog w= .ok (.agg #[u0,u1,u2,u3,u4,u5,u6,u7]) w:=
 results_cell_row h tmps w q _ _ _ _ hp hq Tryz.underlying28 rfl Hc
theorem Ika {w:World}{bs n:Nat}{v:Value}{xs:List Value}(h:w.ownsRow bs 28 8 v n xs)(h0:0<n)(hn:n*136<=140737488351232):∃A4 c5 g,v= .slice A4 n c5/\Fits n c5 136/\A4=some ⟨g,0,none⟩/\bs<=g/\g<w.heap.size/\∀j u,xs[j]? =some u->w.cell? ⟨g,0+j,none⟩=some u:=by
 have ho:=h;rcases h.2 with⟨rfl,h1⟩ |⟨g,cap,cur,rfl,hb,hh,h2,h3,h4,h5⟩
 ·omega
 exact⟨_,cap,g,rfl,⟨h2,by omega,by unfold maxLen at h3;omega⟩,rfl,hb,(Array.getElem?_eq_some_iff.1 hh).1,λj u hu=>by have h9:=ho.cells (g:=g) rfl j u hu;rwa[Addr.add_mid] at h9⟩
def Zoa (a:Tree)(xe:C8)(P:Nat->Prop)(w:World)(e:Ending)(w':World):Prop:=
 ∃x:C8,e= .returned (.agg #[.int .i64 x.k,.int .i64 x.o,.string ⟨x.m.toArray⟩,.bool x.g,.slice x.A1 x.n1 x.c1,.slice x.A2 x.n2 x.c2,.slice x.A3 x.n3 x.c3,.slice x.A4 x.n4 x.c4])/\Below w.heap.size w w'/\∀t,TreeF w P t xe.l->TreeF w' (λq=>P q\/(w.heap.size<=q/\q<w'.heap.size)) (Pr.set a t) x.l
theorem Apa {w w1:World}{P:Nat->Prop}{q:Nat}{nm:List UInt8}{l:List Tree}{us2:List Value}{xe:C8}{m c5 g5:Nat}{cs:Array Value}{e:Tree}(hb:Below w.heap.size w w1)(hms:nm.length<=140737488355328)(hlen:l.length=m)(hf:Fits (1+m) c5 136)(hP:TreesF w P l us2/\∀q,P q->q<w.heap.size)(he:TreeF w P e xe.l)(_ht:True)
 (h1:w.heap.size<=q) (h2:w.heap.size<=g5/\g5<w1.heap.size/\g5≠q) (h3:∀j u,((C8.l xe)++us2)[j]? =some u->w1.cell? ⟨g5,0+j,none⟩=some u):
 TreeF (w1.setRow q cs) (λb=>P b\/(w.heap.size<=b/\b<(w1.setRow q cs).heap.size)) (Pr.node 14 0 nm (e::l)) (Qa 14 0 nm Rt.none_ [] (1+m) none none none (some ⟨g5,0,none⟩) 0 0 0 c5):=by
 have hs:=hb.size;have hk:∀p:Addr,P p.block->(w1.setRow q cs).cell? p=w.cell? p:=λp hp=>by
  have:=hP.2 _ hp;rw[cell_setRow_other _ _ _ _ (by omega)];exact hb.cell this
 have hl:TreesF (w1.setRow q cs) (λb=>P b\/(w.heap.size<=b/\b<(w1.setRow q cs).heap.size)) (e::l) (xe.l++us2):=(TreesF.cons he hP.1).keep hk (λb h=> .inl h) (λb h=>by
  rw[setRow_size] at*;rcases h with h |h
  ·have:=hP.2 b h;omega
  exact h.2)
 have e1:(e::l).length=1+m:=by rw[List.length_cons,hlen];omega
 have:=TreeF.node (k:=14) (o:=0) (m:=nm) (A:=some ⟨g5,0,none⟩) (c:=c5) (Za (by omega)) hms (by rw[e1];exact hf) hl (.inr ⟨g5,0,rfl,.inr ⟨h2.1,by rw[setRow_size];exact h2.2.1⟩,λj v hv=>by
  rw[cell_setRow_other _ _ _ _ (by simp;exact h2.2.2)];exact h3 j v hv⟩)
 rw[e1] at this;exact this
theorem Z9 {w:World}{P:Nat->Prop}{k o:Int}{nm:List UInt8}{e:Tree}{xe:C8}{wa:World}{q:Nat}{cs:Array Value}{T:TypeId}(hk:Jd [k,o])(hm:nm.length<=140737488355328)(hP:∀q,P q->q<w.heap.size)(he:TreeF w P e xe.l)(hb:Below w.heap.size w wa)(h1:w.heap.size<=q)(h2:q<wa.heap.size):
 TreeF ((wa.alloc (.cells xe.a T)).setRow q cs) (λb=>P b\/(w.heap.size<=b/\b<((wa.alloc (.cells xe.a T)).setRow q cs).heap.size)) (Pr.node k o nm [e]) (Qa k o nm Rt.none_ [] 1 none none none (some ⟨wa.heap.size,0,none⟩) 0 0 0 1):=by
 have hs:=hb.size;have hea:TreeF wa P e xe.l:=he.below hb;have h:=TreeF.wrap (k:=k) (o:=o) (m:=nm) (l:=[e]) (us:=xe.l) (fb:=q) (cs:=cs) (T:=T) hk hm (by simp) (TreesF.one hea) (λb hb e=>by have:=hP b hb;omega) h2;have hsz:((wa.alloc (.cells xe.a T)).setRow q cs).heap.size=wa.heap.size+1:=by rw[setRow_size];simp
 refine h.keep (λ_ _=>rfl) (λb hb=>?_) (λb hb=>?_)
 ·rw[hsz]
  rcases hb with h |h
  ·exact .inl h
  exact .inr (by omega)
 rw[hsz] at*;rcases hb with h |h
 ·have:=hP b h;omega
 exact h.2
def Bl (b off c4:Nat):Addr:=if c4=1 then⟨b,off,none⟩ else⟨b,off+8,none⟩
theorem Tca (b off c4:Nat):(Bl b off c4).block=b:=by unfold Bl;split<;>rfl
theorem Zv (w:World)(b off n c4:Nat)(hc:n+1<=c4):(Instr.slice 26 (.slice (some ⟨b,off,none⟩) (n+1) c4) (some (.int .i64 1)) none none).run Tryz.prog w= .ok (.slice (some (Bl b off c4)) n (c4-1)) w:=by
 rw[run_slice_l w 26 (some ⟨b,off,none⟩) (n+1) c4 (by kernel_rfl) .i64 1 (by omega) (by omega)];have hs:(sizeOf (Tryz.prog.elem 26)).run Tryz.prog w= .ok 8 w:=by
  obtain⟨i0,hi0,hzz0,hzz1,hzz2⟩:=info_parts Ai;have he:Tryz.prog.elem 26=28:=by kernel_rfl
  simp[sizeOf,typeInfo,he,hi0,hzz1]
 rw[hs];show Result.ok (sliced _ _ _ _ _) w=_;unfold sliced Bl;by_cases h:c4=1
 ·subst h;simp
 rw[if_neg h,if_neg (by simpa using h)];simp[Addr.add]
theorem Uca {w:World}{b off n c4:Nat}{u us2:List Value}(hc:n+1<=c4)(hu:u.length=8)(h2:us2.length=n*8)(h:∀j v,(u++us2)[j]? =some v->w.cell? ⟨b,off+j,none⟩=some v):∀j v,us2[j]? =some v->w.cell? ((Bl b off c4).add j)=some v:=by
 intro j v hv;have hj:j<us2.length:=(List.getElem?_eq_some_iff.1 hv).1;have h4:c4≠1:=by omega
 unfold Bl;rw[if_neg h4,Addr.add_mid];have h8:=h (8+j) v (by rw[List.getElem?_append_right (by omega),hu,Nat.add_sub_cancel_left];exact hv);rw[Nat.add_assoc];exact h8
theorem Qn {w:World}{B:Nat}{a:Tree}{vs:List Value}(h:IsTree w B a vs):(Bc a).length<=140737488355328:=by
 cases a;rw[IsTree] at h;obtain⟨A1,A2,A3,A4,c1,c2,c3,c4,us,_,h2,_⟩:=h;exact h2.ms
theorem IsTrees.one {w:World}{B:Nat}:∀{l:List Tree} {us:List Value},IsTrees w B l us->∀u∈us,u.oneCell'=true
 | [],us,h=>by rw[IsTrees] at h;subst h;intro u hu;cases hu
 |c::r,us,h=>by
  rw[IsTrees] at h;obtain⟨u,t,rfl,h1,h2⟩:=h;intro v hv;rcases List.mem_append.1 hv with hv |hv
  ·obtain⟨A1,A2,A3,A4,c1,c2,c3,c4,rfl⟩:=h1.form
   unfold Qa at hv;simp only[List.mem_cons,List.not_mem_nil,or_false] at hv;rcases hv with rfl |rfl |rfl |rfl |rfl |rfl |rfl |rfl<;>rfl
  exact IsTrees.one h2 v hv
theorem Cv (w:World)(g:Nat)(T:TypeId)(p:Addr):({w with heap:=w.heap.setIfInBounds g (.cells #[] T (0,0))}:World).cell? p=if p.block=g then none else w.cell? p:=by
 by_cases h:p.block=g
 ·rw[if_pos h]
  unfold World.cell?;simp only[h];rcases Nat.lt_or_ge g w.heap.size with hg |hg
  ·rw[Array.getElem?_setIfInBounds_self_of_lt hg];simp
  rw[Array.getElem?_eq_none (by simpa using hg)]
 rw[if_neg h];unfold World.cell?;simp only[];rw[Array.getElem?_setIfInBounds_ne (λe=>h e.symm)]
theorem C8.all {x:C8}{k o:Int}{m:List UInt8}{n:Rt.Nm}{t:List Int}{len:Nat}{A1 A2 A3 A4:Option Addr}{c1 c2 c3 c4:Nat}(e:x.l=Qa k o m n t len A1 A2 A3 A4 c1 c2 c3 c4):x.k=k/\x.o=o/\x.m=m/\x.A4=A4/\x.n4=len/\x.c4=c4:=by
 unfold C8.l Qa at e;simp only[List.cons.injEq,Value.int.injEq,Value.string.injEq,Value.slice.injEq,true_and,and_true] at e;obtain⟨h1,h2,h3,h4,h5,h6,h7,h8⟩:=e;refine⟨h1,h2,?_,h8.1,h8.2.1,h8.2.2⟩;have:=congrArg (λb:ByteArray=>b.data.toList) h3
 simpa using this
theorem TreeF.kidsF {w:World}{P:Nat->Prop}{k o:Int}{m:List UInt8}{n:Rt.Nm}{t:List Int}{l:List Tree}{x:C8}(h:TreeF w P (.mk k o m n t l) x.l):
 ∃us,TreesF w P l us/\(us=[]\/∃g off,x.A4=some ⟨g,off,none⟩/\P g/\∀j v,us[j]? =some v->w.cell? ⟨g,off+j,none⟩=some v):=by
 obtain⟨A1,A2,A3,A4,c1,c2,c3,c4,us,e,HO,HL,HC⟩:=h.tree.open_;have e4:=(C8.all e).2.2.2.1;subst e4;have hlen:=HC.out.len;rcases HL.out with h0 |⟨g,off,eA,hg,hc⟩
 ·have hl0:l=[]:=List.eq_nil_of_length_eq_zero (by rw[h0] at hlen;simp at hlen;omega)
  subst hl0;subst h0;exact⟨[],TreesF.nil h.lt,.inl rfl⟩
 by_cases hn:us=[]
 ·have hl0:l=[]:=List.eq_nil_of_length_eq_zero (by rw[hn] at hlen;simp at hlen;omega)
  subst hl0;exact⟨[],TreesF.nil h.lt,.inl rfl⟩
 have hpos:0<us.length:=List.length_pos_iff.2 hn;have hPg:P g:=by
  refine Classical.byContradiction λhP=>?_;have h2:=h.is {w with heap:=w.heap.setIfInBounds g (.cells #[] 0 (0,0))} w.heap.size (λp hp=>by rw[Cv,if_neg (λe=>hP (by rw[<-e];exact hp))]) h.lt;obtain⟨B1,B2,B3,B4,d1,d2,d3,d4,us2,e2,HO2,HL2,HC2⟩:=h2.open_;have e5:=(C8.all e2).2.2.2.1;subst e5;have hlen2:=HC2.out.len;rcases HL2.out with h0 |⟨g2,off2,eA2,hg2,hc2⟩
  ·rw[h0] at hlen2;simp at hlen2;omega
  rw[eA] at eA2;injection eA2 with eA2
  injection eA2 with a1 a2 a3
  subst a1;have h3:=hc2 0 _ (List.getElem?_eq_getElem (by omega:0<us2.length));rw[Cv,if_pos rfl] at h3;cases h3
 refine⟨us,⟨h.lt,λw' B h1 h2=>?_⟩,.inr ⟨g,off,eA,hPg,hc⟩⟩;obtain⟨B1,B2,B3,B4,d1,d2,d3,d4,us2,e2,HO2,HL2,HC2⟩:=(h.is w' B h1 h2).open_;have e5:=(C8.all e2).2.2.2.1;subst e5;have hlen2:=HC2.out.len;have eu:us2=us:=by
  rcases HL2.out with h0 |⟨g2,off2,eA2,hg2,hc2⟩
  ·rw[h0] at hlen2;simp at hlen2;omega
  rw[eA] at eA2;injection eA2 with eA2
  injection eA2 with a1 a2 a3
  subst a1 a2;refine List.ext_getElem (by omega) λj hj1 hj2=>?_;have k1:=hc2 j _ (List.getElem?_eq_getElem hj1);have k2:=hc j _ (List.getElem?_eq_getElem hj2);rw[h1 _ hPg,k2] at k1;exact(Option.some.inj k1).symm
 rw[<-eu];exact HC2.out
theorem TreesF.split {w:World}{P:Nat->Prop}{c:Tree}{l:List Tree}{us:List Value}(h:TreesF w P (c::l) us):∃u us2,us=u++us2/\u.length=8/\IsTree w w.heap.size c u/\IsTrees w w.heap.size l us2/\TreesF w P l us2:=by
 have h0:=h.is w _ (λ_ _=>rfl) h.lt;rw[IsTrees] at h0;obtain⟨u,us2,rfl,h1,h2⟩:=h0;refine⟨u,us2,rfl,h1.len,h1,h2,h.lt,λw' B k1 k2=>?_⟩;have h3:=h.is w' B k1 k2;rw[IsTrees] at h3;obtain⟨u',t',e,h4,h5⟩:=h3;have:=List.append_inj e (by rw[h1.len,h4.len]);rw[this.2];exact h5
theorem Aaa (a:Tree)(xa xe:C8)(w:World)(P:Nat->Prop)(ha:TreeF w P a xa.l)(h9:Pr.K9 a)(ht:Pr.target a=true):
 Calls Tryz.prog 172 #[.agg #[.int .i64 xa.k,.int .i64 xa.o,.string ⟨xa.m.toArray⟩,.bool xa.g,.slice xa.A1 xa.n1 xa.c1,.slice xa.A2 xa.n2 xa.c2,.slice xa.A3 xa.n3 xa.c3,.slice xa.A4 xa.n4 xa.c4],.agg #[.int .i64 xe.k,.int .i64 xe.o,.string ⟨xe.m.toArray⟩,.bool xe.g,.slice xe.A1 xe.n1 xe.c1,.slice xe.A2 xe.n2 xe.c2,.slice xe.A3 xe.n3 xe.c3,.slice xe.A4 xe.n4 xe.c4]] w (Zoa a xe P w):=by
 obtain⟨k,o,m,nm,t,l⟩:=a;have hTR:=ha.tree;have HPL:=Qd ha.lt;obtain⟨A1,A2,A3,A4,c1,c2,c3,c4,us,hvs,HO,HL,HC⟩:=hTR.open_;obtain⟨ek,eo,em,eA4,en4,ec4⟩:=C8.all hvs;obtain⟨W,hW⟩:∃W,W=w.alloc (.cells xa.a 28):=⟨_,rfl⟩;have hWb:Below w.heap.size w W:=by rw[hW];exact Br.alloc Lr _
 have hWs:W.heap.size=w.heap.size+1:=by rw[hW];simp
 have hA1:W.heap[w.heap.size]? =some (.cells xa.a 28 (0,0)):=by rw[hW];exact heap_alloc_new w _
 obtain⟨W2,hW2⟩:∃W2,W2=W.alloc (.cells xe.a 28):=⟨_,rfl⟩;have hb2:Below W.heap.size W W2:=by rw[hW2];exact Br.alloc Lr _
 have hs2:W2.heap.size=w.heap.size+2:=by rw[hW2];simp[hWs]
 have hE2:W2.heap[w.heap.size+1]? =some (.cells xe.a 28 (0,0)):=by rw[hW2,<-hWs];exact heap_alloc_new W _
 obtain⟨W3,hW3⟩:∃W3,W3=W2.alloc (.cells z8 28):=⟨_,rfl⟩;have hb3:Below W2.heap.size W2 W3:=by rw[hW3];exact Br.alloc Lr _
 have hs3:W3.heap.size=w.heap.size+3:=by rw[hW3];simp[hs2]
 have HZ3:Hid (W3.heap[w.heap.size+2]? =some (.cells z8 28 (0,0))):=Qd (by rw[hW3,<-hs2];exact heap_alloc_new W2 _);have HE3:Hid (W3.heap[w.heap.size+1]? =some (.cells xe.a 28 (0,0))):=Qd ((hb3.block _ (by omega)).trans hE2);have HA3:Hid (W3.heap[w.heap.size]? =some (.cells xa.a 28 (0,0))):=Qd ((hb3.block _ (by omega)).trans ((hb2.block _ (by omega)).trans hA1));have HWB:Hid (Below w.heap.size w W3):=Qd (hWb.trans ((hb2.mono (by omega)).trans (hb3.mono (by omega))));have q0:W3.cell? ⟨w.heap.size,0,none⟩=some (.int .i64 k):=(cell_of_row W3 w.heap.size 0 _ _ _ HA3.out).trans (by rw[<-ek];rfl);have q1:W3.cell? ⟨w.heap.size,1,none⟩=some (.int .i64 o):=(cell_of_row W3 w.heap.size 1 _ _ _ HA3.out).trans (by rw[<-eo];rfl);have q2:W3.cell? ⟨w.heap.size,2,none⟩=some (.string ⟨m.toArray⟩):=(cell_of_row W3 w.heap.size 2 _ _ _ HA3.out).trans (by rw[<-em];rfl);have h7:W3.cell? ⟨w.heap.size,7,none⟩=some (.slice A4 l.length c4):=(cell_of_row W3 w.heap.size 7 _ _ _ HA3.out).trans (by rw[<-eA4,<-en4,<-ec4];rfl);have HW:Hid (W3=((w.alloc (.cells xa.a 28)).alloc (.cells xe.a 28)).alloc (.cells z8 28)):=Qd (by rw[hW3,hW2,hW]);have hwf:=HO.out.wk;have hms:=HO.out.ms;have HTG:Hid (((k==3)||(k==6)||((k==9)&&((l.map kind).getD 0 0==3)))=true):=Qd ht;have H9:Hid (k=9->l≠[]):=Qd h9;have hko: -9223372036854775808<=o/\o<=9223372036854775807:=hwf o (by simp);have HWBl:w.heap.size+2<W3.heap.size:=by omega
 have hs3a:w.heap.size+3<=W3.heap.size:=by omega
 have hs3b:W3.heap.size<=w.heap.size+3:=by omega
 clear hs3 hs2 hWs hW hb2 hW2 hb3 hW3 hE2 hWb ht h9 hA1 ek eo em en4 ec4 hvs;cases e3:(k==3)
 ·cases e6:(k==6)
  ·have e9:(k==9)=true:=by
    have:=HTG.out;rw[e3,e6] at this;simp only[Bool.false_or,Bool.and_eq_true] at this;exact this.1
   have hne:=H9.out (by simpa using e9);have hlt:0<l.length:=List.length_pos_iff.2 hne;have hk9:k=9:=by simpa using e9
   obtain⟨c,l',rfl⟩:∃c l',l=c::l':=by
    cases l with
    |nil=>exact absurd rfl hne
    |cons c l'=>exact⟨c,l',rfl⟩
   obtain⟨usF,hTF,hlieF⟩:=ha.kidsF;obtain⟨u,us2,rfl,hul,hcu,hcr,hT2⟩:=hTF.split;obtain⟨b,off,hA4e,hPb,hcell⟩:∃b off,A4=some ⟨b,off,none⟩/\P b/\∀j v,(u++us2)[j]? =some v->w.cell? ⟨b,off+j,none⟩=some v:=by
    rcases hlieF with h |⟨g,off,e,hg,hc⟩
    ·have:(u++us2).length=0:=by rw[h];rfl
     rw[List.length_append] at this;omega
    exact⟨g,off,eA4▸e,hg,hc⟩
   subst hA4e;have hbB:=HPL.out b hPb;obtain⟨B1,B2,B3,B4,d1,d2,d3,d4,hform⟩:=hcu.form;obtain⟨nm2,hnm2⟩:∃nm2,nm2=Bc c:=⟨_,rfl⟩;have HSET:Hid (∀e,Pr.set (.mk k o m nm t (c::l')) e=Pr.node 14 0 nm2 (e::l')):=Qd (λe=>by
    have h3:k≠3:=by omega
    have h6:k≠6:=by omega
    show(if k=3 then _ else if k=6 then _ else _)=_;rw[if_neg h3,if_neg h6,hnm2];rfl)
   obtain⟨n2,hn2⟩:∃n2,n2=l'.length:=⟨_,rfl⟩;have hlen2:(c::l').length=n2+1:=by rw[List.length_cons,hn2]
   have HMS:Hid (nm2.length<=140737488355328):=Qd (by rw[hnm2];exact Qn hcu);have HLEN:Hid (l'.length=n2):=Qd hn2.symm;have hmm:(1+n2)*136<=140737488351232:=by
    have h:=HO.out.f4.2.1;rw[hlen2] at h;omega
   have HL2:Hid (us2.length=n2*8):=Qd (by rw[hcr.len,hn2];omega);have HO2:Hid (∀u∈us2,u.oneCell'=true):=Qd hcr.one;have HP:Hid (TreesF w P l' us2/\∀q,P q->q<w.heap.size):=Qd ⟨hT2,HPL.out⟩;have HTL:Hid True:=Qd trivial;have hfc:=HO.out.f4;have HK3:Hid (∀w1,Below W3.heap.size W3 w1->w1.cell? ⟨w.heap.size,7,none⟩=some (.slice (some ⟨b,off,none⟩) (n2+1) c4)):=Qd (λw1 hb=>(hb.cell (p:=⟨w.heap.size,7,none⟩) (by show w.heap.size<_;omega)).trans (by rw[<-hlen2];exact h7));have HC3:Hid (∀w1,Below W3.heap.size W3 w1->∀j v,(u++us2)[j]? =some v->w1.cell? ⟨b,off+j,none⟩=some v):=Qd (λw1 hb j v hv=>(hb.cell (p:=⟨b,off+j,none⟩) (by show b<_;omega)).trans ((HWB.out.cell (p:=⟨b,off+j,none⟩) hbB).trans (hcell j v hv)));have HN3:Hid (∀w1,Below W3.heap.size W3 w1->w1.cell? ⟨w.heap.size,7,none⟩=some (.slice (some ⟨b,off,none⟩) (n2+1) c4)/\w1.cell? ⟨b,off+2,none⟩=some (.string ⟨nm2.toArray⟩)):=Qd (λw1 hb=>⟨HK3.out w1 hb,HC3.out w1 hb 2 _ (by rw[hform,hnm2];rfl)⟩);have hc4:n2+1<=c4/\c4<=9223372036854775807:=⟨by have:=hfc.1;rw[hlen2] at this;exact this,hfc.2.2⟩;have hl0:(0:Int)<((n2+1:Nat):Int):=by omega
   generalize n2=n at*;obtain⟨mm,hmmE⟩:∃mm,mm=n:=⟨_,rfl⟩;clear HO HL HC hTR h7 hwf hms hne hlt hk9 hcu hcr hcell hform hnm2 hn2 hlen2 hfc H9 HTG hmmE eA4 hTF hlieF hT2 ha;go_enter Tryz.func172,Tryz.ntmps172
   go_upto_region 1 with fail
   rw[<-HW.out];go_upto_region 6 with fail
   refine Xf (Yc _ _ _ _ _ _ _ _ _ _ _ _ _ _ _ _ _ _ _ _ _ _ _ _ _ _ _ _) W3 (Yoa W3.heap.size w.heap.size b xa xe us2 c4 off n) (by kernel_rfl) ?_ (by kernel_rfl) (Yga [_,_,_,_,_,_,_,_]) rfl Br ?_ ?_
   ·intro i w1 w2 v hv hb
    match i with
    | 0=>exact hv
    | 1=>exact(by obtain⟨g,e,h⟩:=hv;exact⟨g,e,(hb.block g (Array.getElem?_eq_some_iff.1 h).1).trans h⟩)
    | 2=>exact hv
    | 3=>exact hv
    | 4=>exact(by obtain⟨p2,c2,e,h1,h2⟩:=hv;exact⟨p2,c2,e,Nat.lt_of_lt_of_le h1 hb.size,λj u hu=>(hb.cell (by rw[Pn];exact h1)).trans (h2 j u hu)⟩)
    | 5=>exact(by obtain⟨G,g,p2,c2,e,h0,h3,h1,h2⟩:=hv;exact⟨G,g,p2,c2,e,(hb.block G (Array.getElem?_eq_some_iff.1 h0).1).trans h0,(hb.block g (Array.getElem?_eq_some_iff.1 h3).1).trans h3,Nat.lt_of_lt_of_le h1 hb.size,λj u hu=>(hb.cell (by rw[Pn];exact h1)).trans (h2 j u hu)⟩)
    | 6=>exact(by obtain⟨A4,c5,e,hf,g,e2,h1,h2,h3⟩:=hv;exact⟨A4,c5,e,hf,g,e2,h1,Nat.lt_of_lt_of_le h2 hb.size,λj u hu=>(hb.cell h2).trans (h3 j u hu)⟩)
    |i+7=>exact(by obtain⟨A4,c5,e,hf,g,e2,h1,h2,h3⟩:=hv;exact⟨A4,c5,e,hf,g,e2,h1,Nat.lt_of_lt_of_le h2 hb.size,λj u hu=>(hb.cell h2).trans (h3 j u hu)⟩)
   ·intro i xs w1 hi hb hdep
    have hi6:i<8:=hi;clear hi;rcases(show i=0\/i=1\/i=2\/i=3\/i=4\/i=5\/i=6\/i=7 by omega) with rfl |rfl |rfl |rfl |rfl |rfl |rfl |rfl
    ·refine Ca rfl rfl ?_
     refine wp_load_row 28 (.tmp 3) rfl (w.heap.size+1) rfl 28 xe.a (0,0) _ ((hb.block (w.heap.size+1) (by omega)).trans HE3.out) Tryz.underlying28 rfl Hc ?_;exact⟨_,by simp only[Yc,Ja];simp[Act.put],rfl,Br⟩
    ·have h0:xs 0= .agg #[.int .i64 xe.k,.int .i64 xe.o,.string ⟨xe.m.toArray⟩,.bool xe.g,.slice xe.A1 xe.n1 xe.c1,.slice xe.A2 xe.n2 xe.c2,.slice xe.A3 xe.n3 xe.c3,.slice xe.A4 xe.n4 xe.c4]:=hdep 0 (by kernel_rfl)
     refine Ca rfl rfl ?_;unfold Yc Oper.wp;simp only[h0];go_simp
     exact⟨_,by simp only[Yc,Ja];simp[Act.put,h0],⟨w1.heap.size,rfl,heap_alloc_new w1 _⟩,Br.alloc Lr _⟩
    ·refine Ca rfl rfl ?_
     unfold Yc Oper.wp;go_simp
     exact⟨_,by simp only[Yc,Ja];simp[Act.put],rfl,Br⟩
    ·have h2:xs 2= .pointer (some ⟨w.heap.size,7,none⟩):=hdep 2 (by kernel_rfl)
     refine Ca rfl rfl ?_;have q7:=HK3.out w1 hb;unfold Yc Oper.wp;simp only[h2];go_simp
     exact⟨_,by simp only[Yc,Ja];simp[Act.put,h2],rfl,Br⟩
    ·have h3:xs 3= .slice (some ⟨b,off,none⟩) (n+1) c4:=hdep 3 (by kernel_rfl)
     refine Ca rfl rfl ?_;have hcc:=HC3.out w1 hb;have hsl:=hb.size;have hSL:=Zv w1 b off n c4 hc4.1;unfold Yc Oper.wp;simp only[h3];go_simp
     exact⟨_,by simp only[Yc,Ja];simp[Act.put,h3],⟨Bl b off c4,c4-1,rfl,by rw[Tca];omega,λj v hv=>Uca hc4.1 hul HL2.out hcc j v hv⟩,Br⟩
    ·have r1:∃g,(xs 1)= .slice (some ⟨g,0,none⟩) 1 1/\w1.heap[g]? =some (.cells xe.a 28 (0,0)):=hdep 1 (by kernel_rfl)
     have r4:∃(p2:Addr) (c2:Nat),(xs 4)= .slice (some p2) n c2/\p2.block<w1.heap.size/\∀j u,us2[j]? =some u->w1.cell? (p2.add j)=some u:=hdep 4 (by kernel_rfl);refine Ca rfl rfl ?_;obtain⟨g,h1,hg⟩:=r1;obtain⟨p2,c2,h4,hp2,hu2⟩:=r4;unfold Yc Oper.wp;simp only[h1,h4];go_simp
     exact⟨_,by simp only[Yc,Ja];simp[Act.put,h1,h4],⟨w1.heap.size,g,p2,c2,rfl,heap_alloc_new w1 _,(heap_alloc_old w1 _ (Array.getElem?_eq_some_iff.1 hg).1).trans hg,by simp;omega,λj u hu=>(((Below.refl _ w1).alloc Lr _).cell (by rw[Pn];exact hp2)).trans (hu2 j u hu)⟩,Br.alloc Lr _⟩
    ·have r5:∃(G g:Nat) (p2:Addr) (c2:Nat),(xs 5)= .slice (some ⟨G,0,none⟩) 2 2/\w1.heap[G]? =some (.cells #[.slice (some ⟨g,0,none⟩) 1 1,.slice (some p2) n c2] 26 (0,0))/\w1.heap[g]? =some (.cells xe.a 28 (0,0))/\p2.block<w1.heap.size/\∀j u,us2[j]? =some u->w1.cell? (p2.add j)=some u:=hdep 5 (by kernel_rfl)
     refine Ca rfl rfl ?_;obtain⟨G,g,p2,c2,h5,hG,hg,hp2,hu2⟩:=r5;unfold Yc Oper.wp;simp only[h5];go_simp
     refine(N7 w1 G _ ⟨g,0,none⟩ p2 1 n c2 (C8.l xe) us2 hG (Array.getElem?_eq_some_iff.1 hg).1 hp2 (λj u hu=>by rw[Addr.add_mid,Nat.zero_add];refine(cell_of_row _ g j _ _ _ hg).trans ?_;have e:xe.a=(C8.l xe).toArray:=rfl;rw[e,List.getElem?_toArray];exact hu) hu2 rfl HL2.out (C8.one xe) HO2.out hmm).mono ?_;rintro e w2 ⟨v,rfl,hown,hgr⟩;obtain⟨A4,c5,g5,rfl,hfit,h9,h10,h11,h12⟩:=Ika hown (by omega) (by omega);exact⟨_,by simp only[Yc,Ja];simp[Act.put,h5],⟨A4,c5,rfl,hfit,g5,h9,by have:=hb.size;omega,h11,h12⟩,⟨hgr.os,hgr.tape,hgr.output,hgr.size,λk hk=>hgr.block k hk (by simp)⟩⟩
    have r6:∃(A4:Option Addr) (c5:Nat),(xs 6)= .slice A4 (1+n) c5/\Fits (1+n) c5 136/\∃g,A4=some ⟨g,0,none⟩/\W3.heap.size<=g/\g<w1.heap.size/\∀j u,((C8.l xe)++us2)[j]? =some u->w1.cell? ⟨g,0+j,none⟩=some u:=hdep 6 (by kernel_rfl);refine Ca rfl rfl ?_;obtain⟨A4,c5,h6,hq⟩:=r6;unfold Yc Oper.wp;simp only[h6];go_simp
    exact⟨_,by simp only[Yc,Ja];simp[Act.put,h6],⟨A4,c5,rfl,hq⟩,Br⟩
   intro xs w1 hb hx;obtain⟨A5,c5,h7,hf5,g5,rfl,hg1,hg2,hg3⟩:∃(A4:Option Addr) (c5:Nat),xs 7= .slice A4 (1+n) c5/\Fits (1+n) c5 136/\∃g,A4=some ⟨g,0,none⟩/\W3.heap.size<=g/\g<w1.heap.size/\∀j u,((C8.l xe)++us2)[j]? =some u->w1.cell? ⟨g,0+j,none⟩=some u:=hx 7 (by decide);clear hx;have H5:=Qd hg3;have HF5:=Qd hf5;have HB:=Qd hb;have hsb:=hb.size;obtain⟨q7a,q7b⟩:=HN3.out w1 hb;have HR3:Hid (w1.heap[w.heap.size+2]? =some (.cells z8 28 (0,0))):=Qd ((hb.block (w.heap.size+2) (by omega)).trans HZ3.out);unfold Yc;simp only[h7];clear h7 hg3 hf5 hb;go_wp2_with (with_reducible refine Ha rfl (.tmp 4) (.tmp 35) rfl (w.heap.size+2) rfl rfl HR3.out ?_)
   refine bodyPost_ret (Sca (by rfl) _ _ (w.heap.size+2) (by rfl) (setRow_heap _ _ _ _ _ _ HR3.out)) rfl ?_;have hbw:Below w.heap.size w w1:=HWB.out.trans (HB.out.mono (by omega));refine⟨⟨14,0,nm2,false,none,0,0,none,0,0,none,0,0,some ⟨g5,0,none⟩,1+n,c5⟩,rfl,below_setRow hbw (by omega) _,λe he=>?_⟩;rw[HSET.out e];exact Apa (w:=w) hbw HMS.out HLEN.out HF5.out HP.out he HTL.out (by omega) (by omega) H5.out
  have hk6:k=6:=by simpa using e6
  have HSET:Hid (∀e,Pr.set (.mk k o m nm t l) e=Pr.node 16 o [] [e]):=Qd (λe=>by
   have h3:k≠3:=by omega
   show(if k=3 then _ else if k=6 then _ else _)=_;rw[if_neg h3,if_pos hk6];rfl)
  clear HO HL HC hTR h7 hwf H9 HTG hk6 eA4 ha;have HZZ:Hid (∀o,(W3.alloc o).heap[w.heap.size+2]? =some (.cells z8 28 (0,0))):=Qd (λob=>(heap_alloc_old W3 ob HWBl).trans HZ3.out);go_enter Tryz.func172,Tryz.ntmps172
  go_upto_region 1 with fail
  rw[<-HW.out];go_wp2_with (first|(with_reducible refine Ka rfl (.tmp 3) rfl (w.heap.size+1) rfl HE3.out ?_) |(with_reducible refine Ha rfl (.tmp 4) (.tmp 21) rfl (w.heap.size+2) rfl rfl (HZZ.out _) ?_))
  refine bodyPost_ret (Sca (by rfl) _ _ (w.heap.size+2) (by rfl) (setRow_heap _ _ _ _ _ _ (HZZ.out _))) rfl ?_;refine⟨⟨16,o,[],false,none,0,0,none,0,0,none,0,0,some ⟨W3.heap.size,0,none⟩,1,1⟩,rfl,below_setRow (HWB.out.alloc (by omega) _) (by omega) _,λe he=>?_⟩;rw[HSET.out e];exact Z9 (Hd (by omega) hko) (by simp) HPL.out he HWB.out (by omega) (by omega)
 have hk3:k=3:=by simpa using e3
 have HSET:Hid (∀e,Pr.set (.mk k o m nm t l) e=Pr.node 13 0 m [e]):=Qd (λe=>by
  show(if k=3 then _ else _)=_;rw[if_pos hk3];rfl)
 clear HO HL HC hTR h7 hwf H9 HTG hk3 eA4 ha;have HZZ:Hid (∀o,(W3.alloc o).heap[w.heap.size+2]? =some (.cells z8 28 (0,0))):=Qd (λob=>(heap_alloc_old W3 ob HWBl).trans HZ3.out);go_enter Tryz.func172,Tryz.ntmps172
 go_upto_region 1 with fail
 rw[<-HW.out];go_wp2_with (first|(with_reducible refine Ka rfl (.tmp 3) rfl (w.heap.size+1) rfl HE3.out ?_) |(with_reducible refine Ha rfl (.tmp 4) (.tmp 14) rfl (w.heap.size+2) rfl rfl (HZZ.out _) ?_))
 refine bodyPost_ret (Sca (by rfl) _ _ (w.heap.size+2) (by rfl) (setRow_heap _ _ _ _ _ _ (HZZ.out _))) rfl ?_;refine⟨⟨13,0,m,false,none,0,0,none,0,0,none,0,0,some ⟨W3.heap.size,0,none⟩,1,1⟩,rfl,below_setRow (HWB.out.alloc (by omega) _) (by omega) _,λe he=>?_⟩;rw[HSET.out e];exact Z9 (Za (by omega)) hms HPL.out he HWB.out (by omega) (by omega)
end
section
open Go.RowKit Tr
variable [Dc]
theorem EOut.of {w0:World}{ts:List Tk.Tok}{A:Option Addr}{c rb:Nat}{w:World}{r:Option (Tree×List Tk.Tok)}{e:Ending}{w':World}(x:C8)(j:Nat)(b:Bool)(he:e= .returned (.tuple #[.agg #[.int .i64 x.k,.int .i64 x.o,.string ⟨x.m.toArray⟩,.bool x.g,.slice x.A1 x.n1 x.c1,.slice x.A2 x.n2 x.c2,.slice x.A3 x.n3 x.c3,.slice x.A4 x.n4 x.c4],.bool b]))(h1:RdAt w0 ts A c rb j w')(h2:w.grownBy w' (some rb))
 (h:(b=true/\∃t,r=some (t,ts.drop j)/\TreeF w' (In w0.heap.size w.heap.size w'.heap.size) t x.l)\/(b=false/\r=none)):EOut w0 ts A c rb w r e w':=EOut.bool he h1 h2 h
section
variable {w0 : World} {ts : List Tk.Tok} {A : Option Addr} {c rb : Nat}
theorem O7 (F:Nat)(hT:Yd w0 ts A c)(hS:Tf w0 ts A c rb 170 (λf T=>Pr.bnd (Pr.arrs f T) λl U=>Pr.ret (Pr.strandT l) U) F)(hF:Tf w0 ts A c rb 87 Pr.func F)(hE:Tf w0 ts A c rb 88 Pr.expr F):
 Tf w0 ts A c rb 141 Pr.behind (F+1):=by
 intro f hf i w r h hp;cases f with
 |zero=>cases hp
 |succ f=>
  have hfF:f<=F:=by omega
  rw[Pr.behind] at hp;obtain⟨W,hW⟩:∃W,W=w.alloc (.cells z8 28):=⟨_,rfl⟩;have hWb:Below w.heap.size w W:=by rw[hW];exact Br.alloc Lr _
  have hs0:w.heap.size+1<=W.heap.size:=by rw[hW];simp
  have hz0:W.heap.size<=w.heap.size+1:=by rw[hW];simp
  have HQ:Hid (W.heap[w.heap.size]? =some (.cells z8 28 (0,0))):=Qd (by rw[hW];exact heap_alloc_new w _);have HRW:=Qd (h.below hWb);have hlt:=h.lt;have hlo:=h.lo;have hq0:w0.heap.size<=w.heap.size:=h.old.size;have HW:=Qd hW;have HG0:Hid (w.grownBy W (some rb)):=Qd (Ea rb hWb);clear hW hWb h;cases h1:Pr.arrs f (ts.drop i) with
  |none=>rw[h1] at hp;cases hp
  |some s1=>
   cases s1 with
   |none=>
    rw[h1] at hp;have hp2:r=none:=(Option.some.inj hp).symm;subst hp2;clear hp;have h2:(λf T=>Pr.bnd (Pr.arrs f T) λl U=>Pr.ret (Pr.strandT l) U) f (ts.drop i)=some none:=by show Pr.bnd _ _=_;rw[h1];rfl
    go_enter Tryz.func141,Tryz.ntmps141
    go_upto_region 1 with fail
    rw[<-HW.out];go_wp2_with fail
    refine eN (hS f hfF (i) W none HRW.out h2) ?_;intro x1 j1 w1 HR1 G1 hs1;obtain⟨w2,HW2,B2,hs2,hz2,G2,HR2⟩:=Ab x1 HR1;go_upto_region 2 with fail
    rw[<-HW2.out];have QF0:=rg HQ (tt G1 G2) (by omega);go_wp2_with (with_reducible refine Ha rfl (.tmp 2) (.tmp 19) rfl w.heap.size rfl rfl QF0.out ?_)
    (try simp only[Exit.inBlock,Exit.then])
    refine Rb (by rfl) (by rfl) (by rfl) rfl QF0.out ?_;exact dN (x:=x0) HR2 (tt HG0 (tt G1 G2)) hlt hq0
   |some p1=>
    obtain⟨l,U1⟩:=p1;have hK9:Pr.K9 (Pr.strandT l):=Pr.k9_strand ((Pr.nine f).arrs _ _ _ h1);have h2:(λf T=>Pr.bnd (Pr.arrs f T) λl U=>Pr.ret (Pr.strandT l) U) f (ts.drop i)=some (some (Pr.strandT l,U1)):=by show Pr.bnd _ _=_;rw[h1];rfl
    have hp2:=hp;rw[h1] at hp2;have hp3:(if Pr.target (Pr.strandT l)=true/\Pr.gl U1 0=8592 then Pr.bnd (Pr.expr f U1.tail) λe V=>Pr.ret (Pr.set (Pr.strandT l) e) V else if Pr.begF U1=true then Pr.bnd (Pr.func f U1) λg V=>if kind (Pr.strandT l)=3/\Pr.gl V 0=8592 then Pr.bnd (Pr.expr f V.tail) λe X=>Pr.ret (Pr.node 15 0 (Bc (Pr.strandT l)) [g,e]) X else Pr.bnd (Pr.expr f V) λe X=>Pr.ret (Pr.node 12 0 [] [Pr.strandT l,g,e]) X else Pr.ret (Pr.strandT l) U1)=some r:=hp2;clear hp hp2 h1;generalize Pr.strandT l=a at*;go_enter Tryz.func141,Tryz.ntmps141
    go_upto_region 1 with fail
    rw[<-HW.out];go_wp2_with fail
    refine eS (hS f hfF (i) W (some (a,U1)) HRW.out h2) ?_;intro x1 j1 w1 hU1 HR1 G1 hs1 T1;subst hU1;clear h2;obtain⟨w2,HW2,B2,hs2,hz2,G2,HR2⟩:=Ab x1 HR1;go_upto_region 2 with fail
    rw[<-HW2.out];by_cases htg:Pr.target a=true
    ·by_cases hc:Pr.gl (ts.drop j1) 0=8592
     ·have hce:(Pr.gl (ts.drop j1) 0==8592)=true:=by simp[hc]
      rw[if_pos ⟨htg,hc⟩,drop_tail] at hp3;clear hc;have hp:=hp3;clear hp3;have LA:=Qd (Ba B2.out (Ef _ rb) (by omega:w1.heap.size≠rb));have HTA:=Qd ((T1.out.grown G2.out hlo (by omega)).tree);have PT:=Qd (On a x1 w2 _ HTA.out Lr hK9);rw[htg] at PT;go_wp2_with (with_reducible refine Ka rfl (.tmp 4) rfl (w1.heap.size) rfl LA.out ?_)
      refine PT.out.mono ?_;rintro e w3 ⟨rfl,hb3⟩;have G3:=Qd (Ea rb hb3);have HR3:=Qd (HR2.out.below hb3);have hs3:=hb3.size;clear hb3 PT HTA LA;go_wp2_with fail
      refine Wr hT (by decide) hce HR3 ?_;intro w4 G4 HR4 hs4;clear hce;cases h2:Pr.expr f (ts.drop (j1+1)) with
      |none=>rw[h2] at hp;cases hp
      |some s2=>
       cases s2 with
       |none=>
        rw[h2] at hp;have hp2:r=none:=(Option.some.inj hp).symm;subst hp2;clear hp;go_wp2_with fail
        refine eN (hE f hfF (j1+1) w4 none HR4.out h2) ?_;intro x5 j5 w5 HR5 G5 hs5;obtain⟨w6,HW6,B6,hs6,hz6,G6,HR6⟩:=Ab x5 HR5;go_upto_region 6 with fail
        rw[<-HW6.out];have LA:=Qd (Ba B2.out (tt G3 (tt G4 (tt G5 G6))).out (by omega:w1.heap.size≠rb));have LE:=Qd (Ba B6.out (Ef _ rb) (by omega:w5.heap.size≠rb));have hwo:=HR6.out.old.size;have HTA:Hid (TreeF w6 (In w0.heap.size (w.heap.size+1) w6.heap.size) a x1.l):=Qd ((T1.out.grown (tt G2 (tt G3 (tt G4 (tt G5 G6)))).out hlo (by omega)).wide (by omega) (by omega) Lr (by omega));have PS:=Qd (Aaa a x1 x5 w6 (In w0.heap.size (w.heap.size+1) w6.heap.size) HTA.out hK9 htg);go_wp2_with (first|(with_reducible refine Ka rfl (.tmp 4) rfl (w1.heap.size) rfl LA.out ?_) |(with_reducible refine Ka rfl (.tmp 6) rfl (w5.heap.size) rfl LE.out ?_))
        refine PS.out.mono ?_;rintro e w7 ⟨x7,rfl,hb7,hset⟩;have HST:=Qd hset;have G7:=Qd (Ea rb hb7);have HR7:=Qd (HR6.out.below hb7);have hs7:=hb7.size;clear hb7 hset PS LA LE;have QF0:=rg HQ (tt G1 (tt G2 (tt G3 (tt G4 (tt G5 (tt G6 G7)))))) (by omega);go_wp2_with (with_reducible refine Ha rfl (.tmp 2) (.tmp 33) rfl w.heap.size rfl rfl QF0.out ?_)
        (try simp only[Exit.inBlock,Exit.then])
        refine Rb (by rfl) (by rfl) (by rfl) rfl QF0.out ?_;exact dN HR7 (tt HG0 (tt G1 (tt G2 (tt G3 (tt G4 (tt G5 (tt G6 G7))))))) hlt hq0
       |some p2=>
        obtain⟨t2,U2⟩:=p2;have hp2:=hp;rw[h2] at hp2;clear hp;have hp4:r=some (Pr.set a t2,U2):=(Option.some.inj hp2).symm;subst hp4;clear hp2;go_wp2_with fail
        refine eS (hE f hfF (j1+1) w4 (some (t2,U2)) HR4.out h2) ?_;intro x5 j5 w5 hU5 HR5 G5 hs5 T5;subst hU5;obtain⟨w6,HW6,B6,hs6,hz6,G6,HR6⟩:=Ab x5 HR5;go_upto_region 6 with fail
        rw[<-HW6.out];have LA:=Qd (Ba B2.out (tt G3 (tt G4 (tt G5 G6))).out (by omega:w1.heap.size≠rb));have LE:=Qd (Ba B6.out (Ef _ rb) (by omega:w5.heap.size≠rb));have hwo:=HR6.out.old.size;have HTA:Hid (TreeF w6 (In w0.heap.size (w.heap.size+1) w6.heap.size) a x1.l):=Qd ((T1.out.grown (tt G2 (tt G3 (tt G4 (tt G5 G6)))).out hlo (by omega)).wide (by omega) (by omega) Lr (by omega));have PS:=Qd (Aaa a x1 x5 w6 (In w0.heap.size (w.heap.size+1) w6.heap.size) HTA.out hK9 htg);have HTE:Hid (TreeF w6 (In w0.heap.size (w.heap.size+1) w6.heap.size) t2 x5.l):=Qd ((T5.out.grown G6.out hlo (by omega)).wide (by omega) (by omega) Lr (by omega));go_wp2_with (first|(with_reducible refine Ka rfl (.tmp 4) rfl (w1.heap.size) rfl LA.out ?_) |(with_reducible refine Ka rfl (.tmp 6) rfl (w5.heap.size) rfl LE.out ?_))
        refine PS.out.mono ?_;rintro e w7 ⟨x7,rfl,hb7,hset⟩;have HST:=Qd hset;have G7:=Qd (Ea rb hb7);have HR7:=Qd (HR6.out.below hb7);have hs7:=hb7.size;clear hb7 hset PS LA LE;have QF0:=rg HQ (tt G1 (tt G2 (tt G3 (tt G4 (tt G5 (tt G6 G7)))))) (by omega);have hwo2:=HR7.out.old.size;go_wp2_with (with_reducible refine Ha rfl (.tmp 2) (.tmp 33) rfl w.heap.size rfl rfl QF0.out ?_)
        (try simp only[Exit.inBlock,Exit.then])
        refine Rb (by rfl) (by rfl) (by rfl) rfl QF0.out ?_;refine⟨x7,j5,(HR7.out.row (by omega) (by omega) _),(Xa (Fa HG0.out (tt G1 (tt G2 (tt G3 (tt G4 (tt G5 (tt G6 G7)))))).out) Lr _),rfl,rfl,?_⟩;exact((HST.out _ HTE.out).rowed (λb hb e=>by unfold In at hb;omega) _).keep (λ_ _=>rfl) (λb hb=>by rw[setRow_size];unfold In at*;omega) (λb hb=>by rw[setRow_size] at*;unfold In at hb;omega)
     have hce:(Pr.gl (ts.drop j1) 0==8592)=false:=by simp[hc]
     rw[if_neg (λh=>hc h.2)] at hp3;clear hc;have LA:=Qd (Ba B2.out (Ef _ rb) (by omega:w1.heap.size≠rb));have HTA:=Qd ((T1.out.grown G2.out hlo (by omega)).tree);have PT:=Qd (On a x1 w2 _ HTA.out Lr hK9);rw[htg] at PT;go_wp2_with (with_reducible refine Ka rfl (.tmp 4) rfl (w1.heap.size) rfl LA.out ?_)
     refine PT.out.mono ?_;rintro e w3 ⟨rfl,hb3⟩;have G3:=Qd (Ea rb hb3);have HR3:=Qd (HR2.out.below hb3);have hs3:=hb3.size;clear hb3 PT HTA LA;go_wp2_with fail
     refine Xr hT (by decide) hce HR3 ?_;intro w4 G4 HR4 hs4;clear hce htg;by_cases hbf:Pr.begF (ts.drop j1)=true
     ·rw[if_pos hbf] at hp3
      go_wp2_with fail
      refine Mh (Mn hT j1 w4 HR4.out) hbf HR4 ?_;intro w5 G5 HR5 hs5;have hp:=hp3;clear hp3 hbf;cases h2:Pr.func f (ts.drop j1) with
      |none=>rw[h2] at hp;cases hp
      |some s2=>
       cases s2 with
       |none=>
        rw[h2] at hp;have hp2:r=none:=(Option.some.inj hp).symm;subst hp2;clear hp;go_wp2_with fail
        refine eN (hF f hfF (j1) w5 none HR5.out h2) ?_;intro x6 j6 w6 HR6 G6 hs6;obtain⟨w7,HW7,B7,hs7,hz7,G7,HR7⟩:=Ab x6 HR6;go_upto_region 10 with fail
        rw[<-HW7.out];have QF0:=rg HQ (tt G1 (tt G2 (tt G3 (tt G4 (tt G5 (tt G6 G7)))))) (by omega);go_wp2_with (with_reducible refine Ha rfl (.tmp 2) (.tmp 46) rfl w.heap.size rfl rfl QF0.out ?_)
        (try simp only[Exit.inBlock,Exit.then])
        refine Rb (by rfl) (by rfl) (by rfl) rfl QF0.out ?_;exact dN (x:=x0) HR7 (tt HG0 (tt G1 (tt G2 (tt G3 (tt G4 (tt G5 (tt G6 G7))))))) hlt hq0
       |some p2=>
        obtain⟨t2,U2⟩:=p2;have hp2:=hp;rw[h2] at hp2;clear hp;go_wp2_with fail
        refine eS (hF f hfF (j1) w5 (some (t2,U2)) HR5.out h2) ?_;intro x6 j6 w6 hU6 HR6 G6 hs6 T6;subst hU6;obtain⟨w7,HW7,B7,hs7,hz7,G7,HR7⟩:=Ab x6 HR6;go_upto_region 10 with fail
        rw[<-HW7.out];have hp:(if kind a=3/\Pr.gl (ts.drop j6) 0=8592 then Pr.bnd (Pr.expr f (ts.drop j6).tail) λe X=>Pr.ret (Pr.node 15 0 (Bc a) [t2,e]) X else Pr.bnd (Pr.expr f (ts.drop j6)) λe X=>Pr.ret (Pr.node 12 0 [] [a,t2,e]) X)=some r:=hp2;clear hp2;have LA:=Qd (Ba B2.out (tt G3 (tt G4 (tt G5 (tt G6 G7)))).out (by omega:w1.heap.size≠rb));have hT0:=(T1.out.grown (tt G2 (tt G3 (tt G4 (tt G5 (tt G6 G7))))).out hlo (by omega)).tree;have hks:=(C8.eqs hT0).1;have hns:=Qn hT0;have hnm:=(C8.eqs hT0).2.2.1;clear hT0;have q0:w7.cell? ⟨w1.heap.size,0,none⟩=some (.int .i64 x1.k):=(cell_of_row _ (w1.heap.size) 0 _ _ _ LA.out).trans rfl;by_cases hk:kind a=3
        ·have ek:(x1.k==3)=true:=by rw[hks];simp[hk]
         by_cases hc:Pr.gl (ts.drop j6) 0=8592
         ·have hce:(Pr.gl (ts.drop j6) 0==8592)=true:=by simp[hc]
          rw[if_pos ⟨hk,hc⟩,drop_tail] at hp;have HKS:=Qd hks;have HNM:=Qd hnm;have HHK:=Qd hk;clear hks hnm hk hc;go_wp2_with fail
          refine Wr hT (by decide) hce HR7 ?_;intro w8 G8 HR8 hs8;clear hce LA q0;cases h3:Pr.expr f (ts.drop (j6+1)) with
          |none=>rw[h3] at hp;cases hp
          |some s3=>
           cases s3 with
           |none=>
            rw[h3] at hp;have hp2:r=none:=(Option.some.inj hp).symm;subst hp2;clear hp;go_wp2_with fail
            refine eN (hE f hfF (j6+1) w8 none HR8.out h3) ?_;intro x9 j9 w9 HR9 G9 hs9;obtain⟨w10,HW10,B10,hs10,hz10,G10,HR10⟩:=Ab x9 HR9;go_upto_region 14 with fail
            rw[<-HW10.out];have LB:=Qd (Ba B2.out (tt G3 (tt G4 (tt G5 (tt G6 (tt G7 (tt G8 (tt G9 G10))))))).out (by omega:w1.heap.size≠rb));have q2:w10.cell? ⟨w1.heap.size,2,none⟩=some (.string ⟨(Bc a).toArray⟩):=(cell_of_row _ (w1.heap.size) 2 _ _ _ LB.out).trans (by rw[<-HNM.out];rfl);have L8:=rg B7 (tt G8 (tt G9 G10)) (by omega);have L9:=rg B10 (t0 _ rb) (by omega);have QF0:=rg HQ (tt G1 (tt G2 (tt G3 (tt G4 (tt G5 (tt G6 (tt G7 (tt G8 (tt G9 G10))))))))) (by omega);have QF:=rA QF0;go_wp2_with (first|(with_reducible refine Ka rfl (.tmp 8) rfl (w6.heap.size) rfl L8.out ?_) |(with_reducible refine Ka rfl (.tmp 9) rfl (w9.heap.size) rfl L9.out ?_) |(with_reducible refine Ha rfl (.tmp 2) (.tmp 64) rfl w.heap.size rfl rfl (QF.out _) ?_))
            (try simp only[Exit.inBlock,Exit.then])
            refine Rb (by rfl) (by rfl) (by rfl) rfl (QF.out _) ?_;exact dN (x:=⟨15,0,(Bc a),false,none,0,0,none,0,0,none,0,0,some ⟨w10.heap.size,0,none⟩,2,2⟩) (Jm HR10 _) (tA (tt HG0 (tt G1 (tt G2 (tt G3 (tt G4 (tt G5 (tt G6 (tt G7 (tt G8 (tt G9 G10)))))))))) _) hlt hq0
           |some p3=>
            obtain⟨t3,U3⟩:=p3;have hp2:=hp;rw[h3] at hp2;clear hp;have hp4:r=some (Pr.node 15 0 (Bc a) [t2,t3],U3):=(Option.some.inj hp2).symm;subst hp4;clear hp2;go_wp2_with fail
            refine eS (hE f hfF (j6+1) w8 (some (t3,U3)) HR8.out h3) ?_;intro x9 j9 w9 hU9 HR9 G9 hs9 T9;subst hU9;obtain⟨w10,HW10,B10,hs10,hz10,G10,HR10⟩:=Ab x9 HR9;go_upto_region 14 with fail
            rw[<-HW10.out];have LB:=Qd (Ba B2.out (tt G3 (tt G4 (tt G5 (tt G6 (tt G7 (tt G8 (tt G9 G10))))))).out (by omega:w1.heap.size≠rb));have q2:w10.cell? ⟨w1.heap.size,2,none⟩=some (.string ⟨(Bc a).toArray⟩):=(cell_of_row _ (w1.heap.size) 2 _ _ _ LB.out).trans (by rw[<-HNM.out];rfl);have L8:=rg B7 (tt G8 (tt G9 G10)) (by omega);have L9:=rg B10 (t0 _ rb) (by omega);have QF0:=rg HQ (tt G1 (tt G2 (tt G3 (tt G4 (tt G5 (tt G6 (tt G7 (tt G8 (tt G9 G10))))))))) (by omega);have QF:=rA QF0;have M0:=gw (lo':=w.heap.size+1) T6 (tt G7 (tt G8 (tt G9 G10))) HR10 (by omega) (by omega) (by omega);have M1:=gw (lo':=w.heap.size+1) T9 G10 HR10 (by omega) (by omega) (by omega);go_wp2_with (first|(with_reducible refine Ka rfl (.tmp 8) rfl (w6.heap.size) rfl L8.out ?_) |(with_reducible refine Ka rfl (.tmp 9) rfl (w9.heap.size) rfl L9.out ?_) |(with_reducible refine Ha rfl (.tmp 2) (.tmp 64) rfl w.heap.size rfl rfl (QF.out _) ?_))
            (try simp only[Exit.inBlock,Exit.then])
            refine Rb (by rfl) (by rfl) (by rfl) rfl (QF.out _) ?_;exact Jo (Za (by omega)) hns rfl (by decide) (TreesF.cons M0.out (TreesF.cons M1.out (TreesF.nil M0.out.lt))) HR10 (tt HG0 (tt G1 (tt G2 (tt G3 (tt G4 (tt G5 (tt G6 (tt G7 (tt G8 (tt G9 G10)))))))))) hlt hq0 (by omega)
         have hce:(Pr.gl (ts.drop j6) 0==8592)=false:=by simp[hc]
         rw[if_neg (λh=>hc h.2)] at hp;clear hks hnm hk hc hns;go_wp2_with fail
         refine Xr hT (by decide) hce HR7 ?_;intro w8 G8 HR8 hs8;clear hce;cases h3:Pr.expr f (ts.drop j6) with
         |none=>rw[h3] at hp;cases hp
         |some s3=>
          cases s3 with
          |none=>
           rw[h3] at hp;have hp2:r=none:=(Option.some.inj hp).symm;subst hp2;clear hp;go_wp2_with fail
           refine eN (hE f hfF (j6) w8 none HR8.out h3) ?_;intro x9 j9 w9 HR9 G9 hs9;obtain⟨w10,HW10,B10,hs10,hz10,G10,HR10⟩:=Ab x9 HR9;go_upto_region 16 with fail
           rw[<-HW10.out];have L4:=rg B2 (tt G3 (tt G4 (tt G5 (tt G6 (tt G7 (tt G8 (tt G9 G10))))))) (by omega);have L8:=rg B7 (tt G8 (tt G9 G10)) (by omega);have L11:=rg B10 (t0 _ rb) (by omega);have QF0:=rg HQ (tt G1 (tt G2 (tt G3 (tt G4 (tt G5 (tt G6 (tt G7 (tt G8 (tt G9 G10))))))))) (by omega);have QF:=rA QF0;go_wp2_with (first|(with_reducible refine Ka rfl (.tmp 4) rfl (w1.heap.size) rfl L4.out ?_) |(with_reducible refine Ka rfl (.tmp 8) rfl (w6.heap.size) rfl L8.out ?_) |(with_reducible refine Ka rfl (.tmp 11) rfl (w9.heap.size) rfl L11.out ?_) |(with_reducible refine Ha rfl (.tmp 2) (.tmp 75) rfl w.heap.size rfl rfl (QF.out _) ?_))
           (try simp only[Exit.inBlock,Exit.then])
           refine Rb (by rfl) (by rfl) (by rfl) rfl (QF.out _) ?_;exact dN (x:=⟨12,0,[],false,none,0,0,none,0,0,none,0,0,some ⟨w10.heap.size,0,none⟩,3,3⟩) (Jm HR10 _) (tA (tt HG0 (tt G1 (tt G2 (tt G3 (tt G4 (tt G5 (tt G6 (tt G7 (tt G8 (tt G9 G10)))))))))) _) hlt hq0
          |some p3=>
           obtain⟨t3,U3⟩:=p3;have hp2:=hp;rw[h3] at hp2;clear hp;have hp4:r=some (Pr.node 12 0 [] [a,t2,t3],U3):=(Option.some.inj hp2).symm;subst hp4;clear hp2;go_wp2_with fail
           refine eS (hE f hfF (j6) w8 (some (t3,U3)) HR8.out h3) ?_;intro x9 j9 w9 hU9 HR9 G9 hs9 T9;subst hU9;obtain⟨w10,HW10,B10,hs10,hz10,G10,HR10⟩:=Ab x9 HR9;go_upto_region 16 with fail
           rw[<-HW10.out];have L4:=rg B2 (tt G3 (tt G4 (tt G5 (tt G6 (tt G7 (tt G8 (tt G9 G10))))))) (by omega);have L8:=rg B7 (tt G8 (tt G9 G10)) (by omega);have L11:=rg B10 (t0 _ rb) (by omega);have QF0:=rg HQ (tt G1 (tt G2 (tt G3 (tt G4 (tt G5 (tt G6 (tt G7 (tt G8 (tt G9 G10))))))))) (by omega);have QF:=rA QF0;have M0:=gw (lo':=w.heap.size+1) T1 (tt G2 (tt G3 (tt G4 (tt G5 (tt G6 (tt G7 (tt G8 (tt G9 G10)))))))) HR10 (by omega) (by omega) (by omega);have M1:=gw (lo':=w.heap.size+1) T6 (tt G7 (tt G8 (tt G9 G10))) HR10 (by omega) (by omega) (by omega);have M2:=gw (lo':=w.heap.size+1) T9 G10 HR10 (by omega) (by omega) (by omega);go_wp2_with (first|(with_reducible refine Ka rfl (.tmp 4) rfl (w1.heap.size) rfl L4.out ?_) |(with_reducible refine Ka rfl (.tmp 8) rfl (w6.heap.size) rfl L8.out ?_) |(with_reducible refine Ka rfl (.tmp 11) rfl (w9.heap.size) rfl L11.out ?_) |(with_reducible refine Ha rfl (.tmp 2) (.tmp 75) rfl w.heap.size rfl rfl (QF.out _) ?_))
           (try simp only[Exit.inBlock,Exit.then])
           refine Rb (by rfl) (by rfl) (by rfl) rfl (QF.out _) ?_;exact Jo (Za (by omega)) (by simp) rfl (by decide) (TreesF.cons M0.out (TreesF.cons M1.out (TreesF.cons M2.out (TreesF.nil M0.out.lt)))) HR10 (tt HG0 (tt G1 (tt G2 (tt G3 (tt G4 (tt G5 (tt G6 (tt G7 (tt G8 (tt G9 G10)))))))))) hlt hq0 (by omega)
        have ek:(x1.k==3)=false:=by rw[hks];simp[hk]
        rw[if_neg (λh=>hk h.1)] at hp;clear hks hnm hk hns;cases h3:Pr.expr f (ts.drop j6) with
        |none=>rw[h3] at hp;cases hp
        |some s3=>
         cases s3 with
         |none=>
          rw[h3] at hp;have hp2:r=none:=(Option.some.inj hp).symm;subst hp2;clear hp;go_wp2_with fail
          refine eN (hE f hfF (j6) w7 none HR7.out h3) ?_;intro x8 j8 w8 HR8 G8 hs8;obtain⟨w9,HW9,B9,hs9,hz9,G9,HR9⟩:=Ab x8 HR8;go_upto_region 16 with fail
          rw[<-HW9.out];have L4:=rg B2 (tt G3 (tt G4 (tt G5 (tt G6 (tt G7 (tt G8 G9)))))) (by omega);have L8:=rg B7 (tt G8 G9) (by omega);have L11:=rg B9 (t0 _ rb) (by omega);have QF0:=rg HQ (tt G1 (tt G2 (tt G3 (tt G4 (tt G5 (tt G6 (tt G7 (tt G8 G9)))))))) (by omega);have QF:=rA QF0;go_wp2_with (first|(with_reducible refine Ka rfl (.tmp 4) rfl (w1.heap.size) rfl L4.out ?_) |(with_reducible refine Ka rfl (.tmp 8) rfl (w6.heap.size) rfl L8.out ?_) |(with_reducible refine Ka rfl (.tmp 11) rfl (w8.heap.size) rfl L11.out ?_) |(with_reducible refine Ha rfl (.tmp 2) (.tmp 75) rfl w.heap.size rfl rfl (QF.out _) ?_))
          (try simp only[Exit.inBlock,Exit.then])
          refine Rb (by rfl) (by rfl) (by rfl) rfl (QF.out _) ?_;exact dN (x:=⟨12,0,[],false,none,0,0,none,0,0,none,0,0,some ⟨w9.heap.size,0,none⟩,3,3⟩) (Jm HR9 _) (tA (tt HG0 (tt G1 (tt G2 (tt G3 (tt G4 (tt G5 (tt G6 (tt G7 (tt G8 G9))))))))) _) hlt hq0
         |some p3=>
          obtain⟨t3,U3⟩:=p3;have hp2:=hp;rw[h3] at hp2;clear hp;have hp4:r=some (Pr.node 12 0 [] [a,t2,t3],U3):=(Option.some.inj hp2).symm;subst hp4;clear hp2;go_wp2_with fail
          refine eS (hE f hfF (j6) w7 (some (t3,U3)) HR7.out h3) ?_;intro x8 j8 w8 hU8 HR8 G8 hs8 T8;subst hU8;obtain⟨w9,HW9,B9,hs9,hz9,G9,HR9⟩:=Ab x8 HR8;go_upto_region 16 with fail
          rw[<-HW9.out];have L4:=rg B2 (tt G3 (tt G4 (tt G5 (tt G6 (tt G7 (tt G8 G9)))))) (by omega);have L8:=rg B7 (tt G8 G9) (by omega);have L11:=rg B9 (t0 _ rb) (by omega);have QF0:=rg HQ (tt G1 (tt G2 (tt G3 (tt G4 (tt G5 (tt G6 (tt G7 (tt G8 G9)))))))) (by omega);have QF:=rA QF0;have M0:=gw (lo':=w.heap.size+1) T1 (tt G2 (tt G3 (tt G4 (tt G5 (tt G6 (tt G7 (tt G8 G9))))))) HR9 (by omega) (by omega) (by omega);have M1:=gw (lo':=w.heap.size+1) T6 (tt G7 (tt G8 G9)) HR9 (by omega) (by omega) (by omega);have M2:=gw (lo':=w.heap.size+1) T8 G9 HR9 (by omega) (by omega) (by omega);go_wp2_with (first|(with_reducible refine Ka rfl (.tmp 4) rfl (w1.heap.size) rfl L4.out ?_) |(with_reducible refine Ka rfl (.tmp 8) rfl (w6.heap.size) rfl L8.out ?_) |(with_reducible refine Ka rfl (.tmp 11) rfl (w8.heap.size) rfl L11.out ?_) |(with_reducible refine Ha rfl (.tmp 2) (.tmp 75) rfl w.heap.size rfl rfl (QF.out _) ?_))
          (try simp only[Exit.inBlock,Exit.then])
          refine Rb (by rfl) (by rfl) (by rfl) rfl (QF.out _) ?_;exact Jo (Za (by omega)) (by simp) rfl (by decide) (TreesF.cons M0.out (TreesF.cons M1.out (TreesF.cons M2.out (TreesF.nil M0.out.lt)))) HR9 (tt HG0 (tt G1 (tt G2 (tt G3 (tt G4 (tt G5 (tt G6 (tt G7 (tt G8 G9))))))))) hlt hq0 (by omega)
     rw[if_neg hbf] at hp3;have hbe:Pr.begF (ts.drop j1)=false:=by simpa using hbf
     have hr:r=some (a,ts.drop j1):=(Option.some.inj hp3).symm;subst hr;clear hp3 hbf;go_wp2_with fail
     refine Mh (Mn hT j1 w4 HR4.out) hbe HR4 ?_;intro w5 G5 HR5 hs5;have LA:=Qd (Ba B2.out (tt G3 (tt G4 G5)).out (by omega:w1.heap.size≠rb));have QF0:=Qd (Ba HQ.out (tt G1 (tt G2 (tt G3 (tt G4 G5)))).out (by omega:w.heap.size≠rb));have hwo:=HR5.out.old.size;go_wp2_with (first|(with_reducible refine Ka rfl (.tmp 4) rfl (w1.heap.size) rfl LA.out ?_) |(with_reducible refine Ha rfl (.tmp 2) (.tmp 38) rfl w.heap.size rfl rfl QF0.out ?_))
     (try simp only[Exit.inBlock,Exit.then])
     refine Rb (by rfl) (by rfl) (by rfl) rfl QF0.out ?_;refine⟨x1,j1,(HR5.out.row (by omega) (by omega) _),(Xa (Fa HG0.out (tt G1 (tt G2 (tt G3 (tt G4 G5)))).out) Lr _),rfl,rfl,?_⟩;exact(((T1.out.grown (tt G2 (tt G3 (tt G4 G5))).out hlo (by omega)).setRow (q:=w.heap.size) (cs:=x1.a) (by omega) (.inl (by omega))).wide (lo':=w.heap.size) (by omega) (by rw[setRow_size];omega) Lr (by rw[setRow_size];omega))
    have htf:Pr.target a=false:=by simpa using htg
    rw[if_neg (λh=>htg h.1)] at hp3;clear htg;have LA:=Qd (Ba B2.out (Ef _ rb) (by omega:w1.heap.size≠rb));have HTA:=Qd ((T1.out.grown G2.out hlo (by omega)).tree);have PT:=Qd (On a x1 w2 _ HTA.out Lr hK9);rw[htf] at PT;go_wp2_with (with_reducible refine Ka rfl (.tmp 4) rfl (w1.heap.size) rfl LA.out ?_)
    refine PT.out.mono ?_;rintro e w3 ⟨rfl,hb3⟩;have G3:=Qd (Ea rb hb3);have HR3:=Qd (HR2.out.below hb3);have hs3:=hb3.size;clear hb3 PT HTA LA;clear htf;by_cases hbf:Pr.begF (ts.drop j1)=true
    ·rw[if_pos hbf] at hp3
     go_wp2_with fail
     refine Mh (Mn hT j1 w3 HR3.out) hbf HR3 ?_;intro w4 G4 HR4 hs4;have hp:=hp3;clear hp3 hbf;cases h2:Pr.func f (ts.drop j1) with
     |none=>rw[h2] at hp;cases hp
     |some s2=>
      cases s2 with
      |none=>
       rw[h2] at hp;have hp2:r=none:=(Option.some.inj hp).symm;subst hp2;clear hp;go_wp2_with fail
       refine eN (hF f hfF (j1) w4 none HR4.out h2) ?_;intro x5 j5 w5 HR5 G5 hs5;obtain⟨w6,HW6,B6,hs6,hz6,G6,HR6⟩:=Ab x5 HR5;go_upto_region 10 with fail
       rw[<-HW6.out];have QF0:=rg HQ (tt G1 (tt G2 (tt G3 (tt G4 (tt G5 G6))))) (by omega);go_wp2_with (with_reducible refine Ha rfl (.tmp 2) (.tmp 46) rfl w.heap.size rfl rfl QF0.out ?_)
       (try simp only[Exit.inBlock,Exit.then])
       refine Rb (by rfl) (by rfl) (by rfl) rfl QF0.out ?_;exact dN (x:=x0) HR6 (tt HG0 (tt G1 (tt G2 (tt G3 (tt G4 (tt G5 G6)))))) hlt hq0
      |some p2=>
       obtain⟨t2,U2⟩:=p2;have hp2:=hp;rw[h2] at hp2;clear hp;go_wp2_with fail
       refine eS (hF f hfF (j1) w4 (some (t2,U2)) HR4.out h2) ?_;intro x5 j5 w5 hU5 HR5 G5 hs5 T5;subst hU5;obtain⟨w6,HW6,B6,hs6,hz6,G6,HR6⟩:=Ab x5 HR5;go_upto_region 10 with fail
       rw[<-HW6.out];have hp:(if kind a=3/\Pr.gl (ts.drop j5) 0=8592 then Pr.bnd (Pr.expr f (ts.drop j5).tail) λe X=>Pr.ret (Pr.node 15 0 (Bc a) [t2,e]) X else Pr.bnd (Pr.expr f (ts.drop j5)) λe X=>Pr.ret (Pr.node 12 0 [] [a,t2,e]) X)=some r:=hp2;clear hp2;have LA:=Qd (Ba B2.out (tt G3 (tt G4 (tt G5 G6))).out (by omega:w1.heap.size≠rb));have hT0:=(T1.out.grown (tt G2 (tt G3 (tt G4 (tt G5 G6)))).out hlo (by omega)).tree;have hks:=(C8.eqs hT0).1;have hns:=Qn hT0;have hnm:=(C8.eqs hT0).2.2.1;clear hT0;have q0:w6.cell? ⟨w1.heap.size,0,none⟩=some (.int .i64 x1.k):=(cell_of_row _ (w1.heap.size) 0 _ _ _ LA.out).trans rfl;by_cases hk:kind a=3
       ·have ek:(x1.k==3)=true:=by rw[hks];simp[hk]
        by_cases hc:Pr.gl (ts.drop j5) 0=8592
        ·have hce:(Pr.gl (ts.drop j5) 0==8592)=true:=by simp[hc]
         rw[if_pos ⟨hk,hc⟩,drop_tail] at hp;have HKS:=Qd hks;have HNM:=Qd hnm;have HHK:=Qd hk;clear hks hnm hk hc;go_wp2_with fail
         refine Wr hT (by decide) hce HR6 ?_;intro w7 G7 HR7 hs7;clear hce LA q0;cases h3:Pr.expr f (ts.drop (j5+1)) with
         |none=>rw[h3] at hp;cases hp
         |some s3=>
          cases s3 with
          |none=>
           rw[h3] at hp;have hp2:r=none:=(Option.some.inj hp).symm;subst hp2;clear hp;go_wp2_with fail
           refine eN (hE f hfF (j5+1) w7 none HR7.out h3) ?_;intro x8 j8 w8 HR8 G8 hs8;obtain⟨w9,HW9,B9,hs9,hz9,G9,HR9⟩:=Ab x8 HR8;go_upto_region 14 with fail
           rw[<-HW9.out];have LB:=Qd (Ba B2.out (tt G3 (tt G4 (tt G5 (tt G6 (tt G7 (tt G8 G9)))))).out (by omega:w1.heap.size≠rb));have q2:w9.cell? ⟨w1.heap.size,2,none⟩=some (.string ⟨(Bc a).toArray⟩):=(cell_of_row _ (w1.heap.size) 2 _ _ _ LB.out).trans (by rw[<-HNM.out];rfl);have L8:=rg B6 (tt G7 (tt G8 G9)) (by omega);have L9:=rg B9 (t0 _ rb) (by omega);have QF0:=rg HQ (tt G1 (tt G2 (tt G3 (tt G4 (tt G5 (tt G6 (tt G7 (tt G8 G9)))))))) (by omega);have QF:=rA QF0;go_wp2_with (first|(with_reducible refine Ka rfl (.tmp 8) rfl (w5.heap.size) rfl L8.out ?_) |(with_reducible refine Ka rfl (.tmp 9) rfl (w8.heap.size) rfl L9.out ?_) |(with_reducible refine Ha rfl (.tmp 2) (.tmp 64) rfl w.heap.size rfl rfl (QF.out _) ?_))
           (try simp only[Exit.inBlock,Exit.then])
           refine Rb (by rfl) (by rfl) (by rfl) rfl (QF.out _) ?_;exact dN (x:=⟨15,0,(Bc a),false,none,0,0,none,0,0,none,0,0,some ⟨w9.heap.size,0,none⟩,2,2⟩) (Jm HR9 _) (tA (tt HG0 (tt G1 (tt G2 (tt G3 (tt G4 (tt G5 (tt G6 (tt G7 (tt G8 G9))))))))) _) hlt hq0
          |some p3=>
           obtain⟨t3,U3⟩:=p3;have hp2:=hp;rw[h3] at hp2;clear hp;have hp4:r=some (Pr.node 15 0 (Bc a) [t2,t3],U3):=(Option.some.inj hp2).symm;subst hp4;clear hp2;go_wp2_with fail
           refine eS (hE f hfF (j5+1) w7 (some (t3,U3)) HR7.out h3) ?_;intro x8 j8 w8 hU8 HR8 G8 hs8 T8;subst hU8;obtain⟨w9,HW9,B9,hs9,hz9,G9,HR9⟩:=Ab x8 HR8;go_upto_region 14 with fail
           rw[<-HW9.out];have LB:=Qd (Ba B2.out (tt G3 (tt G4 (tt G5 (tt G6 (tt G7 (tt G8 G9)))))).out (by omega:w1.heap.size≠rb));have q2:w9.cell? ⟨w1.heap.size,2,none⟩=some (.string ⟨(Bc a).toArray⟩):=(cell_of_row _ (w1.heap.size) 2 _ _ _ LB.out).trans (by rw[<-HNM.out];rfl);have L8:=rg B6 (tt G7 (tt G8 G9)) (by omega);have L9:=rg B9 (t0 _ rb) (by omega);have QF0:=rg HQ (tt G1 (tt G2 (tt G3 (tt G4 (tt G5 (tt G6 (tt G7 (tt G8 G9)))))))) (by omega);have QF:=rA QF0;have M0:=gw (lo':=w.heap.size+1) T5 (tt G6 (tt G7 (tt G8 G9))) HR9 (by omega) (by omega) (by omega);have M1:=gw (lo':=w.heap.size+1) T8 G9 HR9 (by omega) (by omega) (by omega);go_wp2_with (first|(with_reducible refine Ka rfl (.tmp 8) rfl (w5.heap.size) rfl L8.out ?_) |(with_reducible refine Ka rfl (.tmp 9) rfl (w8.heap.size) rfl L9.out ?_) |(with_reducible refine Ha rfl (.tmp 2) (.tmp 64) rfl w.heap.size rfl rfl (QF.out _) ?_))
           (try simp only[Exit.inBlock,Exit.then])
           refine Rb (by rfl) (by rfl) (by rfl) rfl (QF.out _) ?_;exact Jo (Za (by omega)) hns rfl (by decide) (TreesF.cons M0.out (TreesF.cons M1.out (TreesF.nil M0.out.lt))) HR9 (tt HG0 (tt G1 (tt G2 (tt G3 (tt G4 (tt G5 (tt G6 (tt G7 (tt G8 G9))))))))) hlt hq0 (by omega)
        have hce:(Pr.gl (ts.drop j5) 0==8592)=false:=by simp[hc]
        rw[if_neg (λh=>hc h.2)] at hp;clear hks hnm hk hc hns;go_wp2_with fail
        refine Xr hT (by decide) hce HR6 ?_;intro w7 G7 HR7 hs7;clear hce;cases h3:Pr.expr f (ts.drop j5) with
        |none=>rw[h3] at hp;cases hp
        |some s3=>
         cases s3 with
         |none=>
          rw[h3] at hp;have hp2:r=none:=(Option.some.inj hp).symm;subst hp2;clear hp;go_wp2_with fail
          refine eN (hE f hfF (j5) w7 none HR7.out h3) ?_;intro x8 j8 w8 HR8 G8 hs8;obtain⟨w9,HW9,B9,hs9,hz9,G9,HR9⟩:=Ab x8 HR8;go_upto_region 16 with fail
          rw[<-HW9.out];have L4:=rg B2 (tt G3 (tt G4 (tt G5 (tt G6 (tt G7 (tt G8 G9)))))) (by omega);have L8:=rg B6 (tt G7 (tt G8 G9)) (by omega);have L11:=rg B9 (t0 _ rb) (by omega);have QF0:=rg HQ (tt G1 (tt G2 (tt G3 (tt G4 (tt G5 (tt G6 (tt G7 (tt G8 G9)))))))) (by omega);have QF:=rA QF0;go_wp2_with (first|(with_reducible refine Ka rfl (.tmp 4) rfl (w1.heap.size) rfl L4.out ?_) |(with_reducible refine Ka rfl (.tmp 8) rfl (w5.heap.size) rfl L8.out ?_) |(with_reducible refine Ka rfl (.tmp 11) rfl (w8.heap.size) rfl L11.out ?_) |(with_reducible refine Ha rfl (.tmp 2) (.tmp 75) rfl w.heap.size rfl rfl (QF.out _) ?_))
          (try simp only[Exit.inBlock,Exit.then])
          refine Rb (by rfl) (by rfl) (by rfl) rfl (QF.out _) ?_;exact dN (x:=⟨12,0,[],false,none,0,0,none,0,0,none,0,0,some ⟨w9.heap.size,0,none⟩,3,3⟩) (Jm HR9 _) (tA (tt HG0 (tt G1 (tt G2 (tt G3 (tt G4 (tt G5 (tt G6 (tt G7 (tt G8 G9))))))))) _) hlt hq0
         |some p3=>
          obtain⟨t3,U3⟩:=p3;have hp2:=hp;rw[h3] at hp2;clear hp;have hp4:r=some (Pr.node 12 0 [] [a,t2,t3],U3):=(Option.some.inj hp2).symm;subst hp4;clear hp2;go_wp2_with fail
          refine eS (hE f hfF (j5) w7 (some (t3,U3)) HR7.out h3) ?_;intro x8 j8 w8 hU8 HR8 G8 hs8 T8;subst hU8;obtain⟨w9,HW9,B9,hs9,hz9,G9,HR9⟩:=Ab x8 HR8;go_upto_region 16 with fail
          rw[<-HW9.out];have L4:=rg B2 (tt G3 (tt G4 (tt G5 (tt G6 (tt G7 (tt G8 G9)))))) (by omega);have L8:=rg B6 (tt G7 (tt G8 G9)) (by omega);have L11:=rg B9 (t0 _ rb) (by omega);have QF0:=rg HQ (tt G1 (tt G2 (tt G3 (tt G4 (tt G5 (tt G6 (tt G7 (tt G8 G9)))))))) (by omega);have QF:=rA QF0;have M0:=gw (lo':=w.heap.size+1) T1 (tt G2 (tt G3 (tt G4 (tt G5 (tt G6 (tt G7 (tt G8 G9))))))) HR9 (by omega) (by omega) (by omega);have M1:=gw (lo':=w.heap.size+1) T5 (tt G6 (tt G7 (tt G8 G9))) HR9 (by omega) (by omega) (by omega);have M2:=gw (lo':=w.heap.size+1) T8 G9 HR9 (by omega) (by omega) (by omega);go_wp2_with (first|(with_reducible refine Ka rfl (.tmp 4) rfl (w1.heap.size) rfl L4.out ?_) |(with_reducible refine Ka rfl (.tmp 8) rfl (w5.heap.size) rfl L8.out ?_) |(with_reducible refine Ka rfl (.tmp 11) rfl (w8.heap.size) rfl L11.out ?_) |(with_reducible refine Ha rfl (.tmp 2) (.tmp 75) rfl w.heap.size rfl rfl (QF.out _) ?_))
          (try simp only[Exit.inBlock,Exit.then])
          refine Rb (by rfl) (by rfl) (by rfl) rfl (QF.out _) ?_;exact Jo (Za (by omega)) (by simp) rfl (by decide) (TreesF.cons M0.out (TreesF.cons M1.out (TreesF.cons M2.out (TreesF.nil M0.out.lt)))) HR9 (tt HG0 (tt G1 (tt G2 (tt G3 (tt G4 (tt G5 (tt G6 (tt G7 (tt G8 G9))))))))) hlt hq0 (by omega)
       have ek:(x1.k==3)=false:=by rw[hks];simp[hk]
       rw[if_neg (λh=>hk h.1)] at hp;clear hks hnm hk hns;cases h3:Pr.expr f (ts.drop j5) with
       |none=>rw[h3] at hp;cases hp
       |some s3=>
        cases s3 with
        |none=>
         rw[h3] at hp;have hp2:r=none:=(Option.some.inj hp).symm;subst hp2;clear hp;go_wp2_with fail
         refine eN (hE f hfF (j5) w6 none HR6.out h3) ?_;intro x7 j7 w7 HR7 G7 hs7;obtain⟨w8,HW8,B8,hs8,hz8,G8,HR8⟩:=Ab x7 HR7;go_upto_region 16 with fail
         rw[<-HW8.out];have L4:=rg B2 (tt G3 (tt G4 (tt G5 (tt G6 (tt G7 G8))))) (by omega);have L8:=rg B6 (tt G7 G8) (by omega);have L11:=rg B8 (t0 _ rb) (by omega);have QF0:=rg HQ (tt G1 (tt G2 (tt G3 (tt G4 (tt G5 (tt G6 (tt G7 G8))))))) (by omega);have QF:=rA QF0;go_wp2_with (first|(with_reducible refine Ka rfl (.tmp 4) rfl (w1.heap.size) rfl L4.out ?_) |(with_reducible refine Ka rfl (.tmp 8) rfl (w5.heap.size) rfl L8.out ?_) |(with_reducible refine Ka rfl (.tmp 11) rfl (w7.heap.size) rfl L11.out ?_) |(with_reducible refine Ha rfl (.tmp 2) (.tmp 75) rfl w.heap.size rfl rfl (QF.out _) ?_))
         (try simp only[Exit.inBlock,Exit.then])
         refine Rb (by rfl) (by rfl) (by rfl) rfl (QF.out _) ?_;exact dN (x:=⟨12,0,[],false,none,0,0,none,0,0,none,0,0,some ⟨w8.heap.size,0,none⟩,3,3⟩) (Jm HR8 _) (tA (tt HG0 (tt G1 (tt G2 (tt G3 (tt G4 (tt G5 (tt G6 (tt G7 G8)))))))) _) hlt hq0
        |some p3=>
         obtain⟨t3,U3⟩:=p3;have hp2:=hp;rw[h3] at hp2;clear hp;have hp4:r=some (Pr.node 12 0 [] [a,t2,t3],U3):=(Option.some.inj hp2).symm;subst hp4;clear hp2;go_wp2_with fail
         refine eS (hE f hfF (j5) w6 (some (t3,U3)) HR6.out h3) ?_;intro x7 j7 w7 hU7 HR7 G7 hs7 T7;subst hU7;obtain⟨w8,HW8,B8,hs8,hz8,G8,HR8⟩:=Ab x7 HR7;go_upto_region 16 with fail
         rw[<-HW8.out];have L4:=rg B2 (tt G3 (tt G4 (tt G5 (tt G6 (tt G7 G8))))) (by omega);have L8:=rg B6 (tt G7 G8) (by omega);have L11:=rg B8 (t0 _ rb) (by omega);have QF0:=rg HQ (tt G1 (tt G2 (tt G3 (tt G4 (tt G5 (tt G6 (tt G7 G8))))))) (by omega);have QF:=rA QF0;have M0:=gw (lo':=w.heap.size+1) T1 (tt G2 (tt G3 (tt G4 (tt G5 (tt G6 (tt G7 G8)))))) HR8 (by omega) (by omega) (by omega);have M1:=gw (lo':=w.heap.size+1) T5 (tt G6 (tt G7 G8)) HR8 (by omega) (by omega) (by omega);have M2:=gw (lo':=w.heap.size+1) T7 G8 HR8 (by omega) (by omega) (by omega);go_wp2_with (first|(with_reducible refine Ka rfl (.tmp 4) rfl (w1.heap.size) rfl L4.out ?_) |(with_reducible refine Ka rfl (.tmp 8) rfl (w5.heap.size) rfl L8.out ?_) |(with_reducible refine Ka rfl (.tmp 11) rfl (w7.heap.size) rfl L11.out ?_) |(with_reducible refine Ha rfl (.tmp 2) (.tmp 75) rfl w.heap.size rfl rfl (QF.out _) ?_))
         (try simp only[Exit.inBlock,Exit.then])
         refine Rb (by rfl) (by rfl) (by rfl) rfl (QF.out _) ?_;exact Jo (Za (by omega)) (by simp) rfl (by decide) (TreesF.cons M0.out (TreesF.cons M1.out (TreesF.cons M2.out (TreesF.nil M0.out.lt)))) HR8 (tt HG0 (tt G1 (tt G2 (tt G3 (tt G4 (tt G5 (tt G6 (tt G7 G8)))))))) hlt hq0 (by omega)
    rw[if_neg hbf] at hp3;have hbe:Pr.begF (ts.drop j1)=false:=by simpa using hbf
    have hr:r=some (a,ts.drop j1):=(Option.some.inj hp3).symm;subst hr;clear hp3 hbf;go_wp2_with fail
    refine Mh (Mn hT j1 w3 HR3.out) hbe HR3 ?_;intro w4 G4 HR4 hs4;have LA:=Qd (Ba B2.out (tt G3 G4).out (by omega:w1.heap.size≠rb));have QF0:=Qd (Ba HQ.out (tt G1 (tt G2 (tt G3 G4))).out (by omega:w.heap.size≠rb));have hwo:=HR4.out.old.size;go_wp2_with (first|(with_reducible refine Ka rfl (.tmp 4) rfl (w1.heap.size) rfl LA.out ?_) |(with_reducible refine Ha rfl (.tmp 2) (.tmp 38) rfl w.heap.size rfl rfl QF0.out ?_))
    (try simp only[Exit.inBlock,Exit.then])
    refine Rb (by rfl) (by rfl) (by rfl) rfl QF0.out ?_;refine⟨x1,j1,(HR4.out.row (by omega) (by omega) _),(Xa (Fa HG0.out (tt G1 (tt G2 (tt G3 G4))).out) Lr _),rfl,rfl,?_⟩;exact(((T1.out.grown (tt G2 (tt G3 G4)).out hlo (by omega)).setRow (q:=w.heap.size) (cs:=x1.a) (by omega) (.inl (by omega))).wide (lo':=w.heap.size) (by omega) (by rw[setRow_size];omega) Lr (by rw[setRow_size];omega))
end
end
section
open Go.RowKit Tr
variable [Dc]
theorem TokOk.of {t:Tk.Tok}(h1:Tk.OkTok t)(h2:Tk.Few t)(h3:t.l.length<=100000):TokOk t where
 s:=Nat.le_trans h2.s (by decide)
 k:=⟨h1.k0,h1.k7⟩
 c:=by have:=h2.c;omega
 l:=λn hn=>by have:=h2.l n hn;omega
 ll:=h3
 o1:=h2.n.o1
 o2:=h2.n.o2
 t1:=Nat.le_trans h2.n.t1 (by decide)
 t2:=Nat.le_trans h2.n.t2 (by decide)
theorem Px {w:World}{v:Value}{l:List Nat}{z:Array Value}(hq:w.heap[Dc.q]? =some (.cells z 28 (0,0)))(hz:∀(j:Nat) (n:Int),z[j]? ≠some (Value.int .u32 n))(h:IsRes w v l):Av v l.length:=by
 obtain⟨A,c,rfl,h1,h2,h3,h4⟩:=h;cases l with
 |nil=>exact .inl rfl
 |cons x l=>
  refine .inr λa n' c' e hb=>?_;injection e with e1 e2 e3
  rcases h4 with h |⟨g,off,e4,hg,hc⟩
  ·cases h
  rw[e4] at e1;injection e1 with e1
  subst e1;have hb':g=Dc.q:=hb;have h5:=hc 0 _ rfl;rw[hb',cell_of_row w Dc.q (off+0) _ _ _ hq] at h5;exact hz _ _ h5
theorem Zga {w:World}{v:Value}{n:Nat}{xs:List Value}{z:Array Value}(hq:w.heap[Dc.q]? =some (.cells z 28 (0,0)))(h:w.ownsRow 0 3 1 v n xs):Av v n:=by
 rcases h.2 with⟨rfl,h1⟩ |⟨g,cap,cur,rfl,hb,hh,_⟩
 ·exact .inl h1
 refine .inr λa n' c' e hb2=>?_;injection e with e1 e2 e3
 injection e1 with e1
 subst e1;have hb':g=Dc.q:=hb2;rw[hb',hq] at hh;injection hh with hh
 injection hh with h1 h2 h3
 exact absurd h2 (by decide)
theorem Xma {w:World}{base:Nat}{v:Value}{s:ByteArray}(h:IsToks w base v (Tk.cut s).1)(hs:s.size<=10000)(he:(Tk.cut s).2.2=0){z:Array Value}(hq:w.heap[Dc.q]? =some (.cells z 28 (0,0)))(hz:∀(j:Nat) (n:Int),z[j]? ≠some (Value.int .u32 n)):∃A c,v= .slice A (Tk.cut s).1.length c/\c<=maxLen/\Yd w (Tk.cut s).1 A c:=by
 obtain⟨A,c,hv,h1,h2,h3⟩:=h.open_;have hsm:=Tk.cut_small s;obtain⟨j0,hup⟩:=Tk.cutL_up (l:=Gl.ints (Gl.dec s 0).1) (b:=(Gl.dec s 0).2) he;refine⟨A,c,hv,h2,by omega,h1,λj hj=>?_,λj hj=>?_⟩
 ·have hm:(Tk.cut s).1[j]∈(Tk.cut s).1:=List.getElem_mem hj
  exact TokOk.of (hup.1 _ hm).1 (Tk.cut_few s _ hm) (by have:=(hsm.2 _ hm).1;omega)
 obtain⟨g,n1,n2,lv,e,hg,_,hr,k1,k2,k3⟩:=h3 j hj;exact⟨g,n1,n2,lv,e,hg,hr,k1,k2,k3,Px hq hz k1,Px hq hz k2,Zga hq k3⟩
end
end Go.Proofs.YtceplkpjnebnfaaGreatDoor
