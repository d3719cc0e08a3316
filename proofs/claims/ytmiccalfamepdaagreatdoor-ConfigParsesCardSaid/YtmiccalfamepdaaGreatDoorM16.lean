/- Texts of this proof, joined. -/
import Derived.Test.YtmiccalfamepdaaGreatDoorM15
import Derived.Lib.ConvBytes
import Derived.RangeFuncBox
set_option linter.all false
set_option maxHeartbeats 8000000
set_option maxRecDepth 100000
namespace Go.Proofs.YtmiccalfamepdaaGreatDoor
section
open Go.RowKit Ar
def Cr (b:Bool):Value:= .int .i64 (if b then 0 else 16)
theorem Vt (s:List UInt8)(w:World)(hs:s.length<1000000)(hw:RdW w)(hl:∀a,Sp.readP 9 s=some a->Ka 8 a=true->(Sp.arrT a).length<1000000):
 Calls Tryz.prog 63 #[.string ⟨s.toArray⟩] w (Jc Cr (Sp.parseX (Sp.readP 9 s) s) w):=by
 obtain⟨W,hW⟩:∃W,W=w.alloc (.cells #[.int .u64 0,.slice none 0 0,.slice none 0 0] 43):=⟨_,rfl⟩;have hWs:W.heap.size=w.heap.size+1:=by rw[hW];simp
 have hWb:Below w.heap.size w W:=by rw[hW];exact Br.alloc Lr _
 have HWb:=Qd hWb;have K0:Hid (Blk W w.heap.size 43 [.int .u64 0,.slice none 0 0,.slice none 0 0]):=Qd (by rw[hW];exact Blk.new w _ _);have HW:=Qd hW;have hwW:=hw.below hWb;have HSP:=Qd hwW.sp;clear hW;obtain⟨g,hg⟩:∃g,g=w.heap.size:=⟨_,rfl⟩;rw[<-hg] at hWs HWb K0;have HG:=Qd hg;have HS:=Qd hWs;have RD:=Qd (Em 8 (by omega) s W hs hwW);clear hg hWs hWb hw hwW;have HL:=Qd hl;clear hl;obtain⟨r,hr⟩:∃r,r=Sp.readP 9 s:=⟨_,rfl⟩;rw[show(8:Nat)+1=9 from rfl,<-hr] at RD;rw[<-hr] at HL⊢;clear hr;have HEND:Hid (∀(wx:World) (vs:List Value) (r':Option Ba),vs.length=3->Below W.heap.size W wx->Sp.parseX r s=r'->
  (∃n,n<=wx.heap.size/\g<n/\IsArrP wx (PR n wx) (r'.getD (.mk 0 [] [])) vs)->Jc Cr (Sp.parseX r s) w (.returned (.tuple #[.agg vs.toArray,Cr r'.isSome])) (wx.setRow g vs.toArray)):=Qd (λwx vs r' hv hb he ⟨n,hn,hgn,hp⟩=>by
  rw[he];have hk:Blk wx g 43 [.int .u64 0,.slice none 0 0,.slice none 0 0]:=(hb.block g (by have:=HS.out;omega)).trans K0.out;refine⟨vs,rfl,?_,?_⟩
  ·rw[<-HG.out];exact Bg (Oj hp hgn (Pn hk)) (Nat.le_of_lt hgn)
  rw[<-HG.out];exact Tb (HWb.out.trans (hb.mono (by have:=HS.out;omega))) Lr)
 go_enter Tryz.func63,Tryz.ntmps63
 go_upto_region 1 with fail
 rw[<-HW.out,<-HG.out];go_upto_region 2 with(go_at_call 96;refine RD.out.mono ?_;rintro e w2 ⟨a,vs,rfl,ha,hra,hb2⟩;obtain⟨S,A1,n1,c1,A2,n2,c2,rfl⟩:=ha.form;replace ha:=Qd ha;replace hra:=Qd hra;replace hb2:=Qd hb2)
 refine Gc ?_;intro W3 hW3;have hs2:=hb2.out.size;have HB3:Hid (Below W.heap.size W W3):=Qd (by rw[hW3];exact hb2.out.alloc hs2 _);have k3:W3.heap[w2.heap.size]? =some (.cells #[.int .u64 (S:Int),.slice A1 n1 c1,.slice A2 n2 c2] 43 (0,0)):=by rw[hW3];exact heap_alloc_new _ _
 have HA3:Hid (IsArrP W3 (PR W.heap.size W3) a [.int .u64 (S:Int),.slice A1 n1 c1,.slice A2 n2 c2]):=Qd (by rw[hW3];exact Sc ha.out (Br.alloc Lr _));have hl3:w2.heap.size<W3.heap.size:=by rw[hW3];simp
 have HQ:Hid (∀wx,Below W3.heap.size W3 wx->wx.heap[w2.heap.size]? =some (.cells #[.int .u64 (S:Int),.slice A1 n1 c1,.slice A2 n2 c2] 43 (0,0))):=Qd (λwx hb=>(hb.block _ hl3).trans k3);have HC:Hid (∀wx,Below W3.heap.size W3 wx->wx.cell? ⟨w2.heap.size,0,none⟩=some (.int .u64 (S:Int))/\wx.cell? ⟨w2.heap.size,1,none⟩=some (.slice A1 n1 c1)/\wx.cell? ⟨w2.heap.size,2,none⟩=some (.slice A2 n2 c2)):=Qd (λwx hb=>by
  have h0:=HQ.out wx hb;exact⟨(cell_of_row wx _ 0 _ _ _ h0).trans rfl,(cell_of_row wx _ 1 _ _ _ h0).trans rfl,(cell_of_row wx _ 2 _ _ _ h0).trans rfl⟩)
 have HK:Hid (∀wx,Below W3.heap.size W3 wx->wx.heap[g]? =some (.cells #[.int .u64 0,.slice none 0 0,.slice none 0 0] 43 (0,0))):=Qd (λwx hb=>by
  have h1:=HS.out;have h2:=HB3.out.size;exact(hb.block g (by omega)).trans ((HB3.out.block g (by omega)).trans K0.out))
 have hsW:=HB3.out.size;have HNO:Hid (∀wx,Below W3.heap.size W3 wx->Sp.parseX r s=none->Jc Cr (Sp.parseX r s) w (.returned (.tuple #[.agg #[.int .u64 0,.slice none 0 0,.slice none 0 0],.int .i64 16])) (wx.setRow g #[.int .u64 0,.slice none 0 0,.slice none 0 0])):=Qd (λwx hb h=>
  HEND.out wx _ none rfl (HB3.out.trans (hb.mono hsW)) h ⟨W.heap.size,by have:=hb.size;omega,by have:=HS.out;omega,Pt (by omega)⟩)
 have HSP3:=Qd (HSP.out.below HB3.out);obtain⟨q0,q1,q2⟩:=HC.out W3 Br;clear hW3 k3 ha hb2 hs2;cases r with
 |none=>
  have HN:=Qd (HNO.out W3 Br Gq);have K:=Qd (HK.out W3 Br);go_wp2_with (with_reducible refine Vh rfl (.tmp 2) (.tmp 24) rfl g rfl rfl K.out ?_)
  refine Sg (by rfl) (by rfl) (by rfl) rfl K.out ?_;exact HN.out
 |some b=>
  obtain rfl:b=a:=hra.out b rfl;have RR:=Qd (Jn b _ W3 W3.heap.size (Un HA3.out) Lr);by_cases hR:Ka 8 b=true
  ·have hlen:=HL.out b rfl hR
   rw[hR] at RR;have AT:=Qd (λ(wx:World) (hb:Below W3.heap.size W3 wx)=>Og _ b _ 8 wx wx.heap.size (Nat.lt_succ_self _) (Un (Sc HA3.out hb)) Lr hR (IsArrP.wf _ _ HA3.out) hlen (HSP3.out.below hb));have HYES:Hid (Sp.arrT b=s->∀wx,Below W3.heap.size W3 wx->Jc Cr (Sp.parseX (some b) s) w (.returned (.tuple #[.agg #[.int .u64 (S:Int),.slice A1 n1 c1,.slice A2 n2 c2],.int .i64 0])) (wx.setRow g #[.int .u64 (S:Int),.slice A1 n1 c1,.slice A2 n2 c2])):=Qd (λh wx hb=>
    HEND.out wx _ (some b) rfl (HB3.out.trans (hb.mono hsW)) (Ut hR h) ⟨W.heap.size,by have:=hb.size;omega,by have:=HS.out;omega,Sc HA3.out hb⟩)
   have HNX:Hid (Sp.arrT b≠s->∀wx,Below W3.heap.size W3 wx->Jc Cr (Sp.parseX (some b) s) w (.returned (.tuple #[.agg #[.int .u64 0,.slice none 0 0,.slice none 0 0],.int .i64 16])) (wx.setRow g #[.int .u64 0,.slice none 0 0,.slice none 0 0])):=Qd (λh wx hb=>HNO.out wx hb (Qj (λ_=>h)));generalize Sp.arrT b=t at*;replace hlen:=Qd hlen;clear hR hra;go_wp2_with fail
   refine RR.out.mono ?_;rintro e w4 ⟨rfl,hb4⟩;clear q0 q1 q2;obtain⟨q0,q1,q2⟩:=HC.out w4 hb4;have HB4:=Qd hb4;have hs4:=hb4.size;clear hb4;go_wp2_with fail
   refine(AT.out w4 HB4.out).mono ?_;rintro e w5 ⟨rfl,hb5⟩;have HB5:Hid (Below W3.heap.size W3 w5):=Qd (HB4.out.trans (hb5.mono hs4));clear hb5 q0 q1 q2;have K:=Qd (HK.out w5 HB5.out);have KA:=Qd (HQ.out w5 HB5.out);by_cases ht:t=s
   ·have HN:=Qd (HYES.out ht w5 HB5.out)
    subst ht;go_wp2_with (first|(with_reducible refine Dm rfl (.tmp 4) rfl w2.heap.size rfl KA.out ?_) |(with_reducible refine Vh rfl (.tmp 2) (.tmp 25) rfl g rfl rfl K.out ?_))
    refine Sg (by rfl) (by rfl) (by rfl) rfl K.out ?_;exact HN.out
   have HN:=Qd (HNX.out ht w5 HB5.out);have hne:(t==s)=false:=beq_eq_false_iff_ne.2 ht;go_wp2_with (with_reducible refine Vh rfl (.tmp 2) (.tmp 24) rfl g rfl rfl K.out ?_)
   refine Sg (by rfl) (by rfl) (by rfl) rfl K.out ?_;exact HN.out
  have hR':Ka 8 b=false:=by simpa using hR
  rw[hR'] at RR;have HN:=Qd (λwx hb=>HNO.out wx hb (Qj (λh=>absurd h hR)));clear hR hR' hra;go_wp2_with fail
  refine RR.out.mono ?_;rintro e w4 ⟨rfl,hb4⟩;have HN4:=Qd (HN.out w4 hb4);have K:=Qd (HK.out w4 hb4);clear q0 q1 q2 hb4;go_wp2_with (with_reducible refine Vh rfl (.tmp 2) (.tmp 24) rfl g rfl rfl K.out ?_)
  refine Sg (by rfl) (by rfl) (by rfl) rfl K.out ?_;exact HN4.out
end
section
open Go.RowKit Ar
theorem Vn {n:Nat}{w w':World}{V V':Value}{cs:List Ba}{xs:List Value}(hs:w.heap.size<=w'.heap.size)(hk:∀b,PL n w V b->w'.heap[b]? =w.heap[b]? /\V'.ownBlock≠some b)(h:IsArrsP w (PL n w V) cs xs):IsArrsP w' (PL n w' V') cs xs:=
 IsArrsP.keep (λp hp=>World.cell?_of_block (hk _ hp).1) (λb h=>⟨h.1.same hs (hk b h).1,(hk b h).2⟩) _ _ h
theorem Ml {n:Nat}{w w':World}{V:Value}{cs:List Ba}{xs:List Value}(hb:Below w.heap.size w w')(h:IsArrsP w (PL n w V) cs xs):IsArrsP w' (PL n w' V) cs xs:=Vn hb.size (λb h=>⟨hb.block b h.1.1,h.2⟩) h
theorem Cx {n m:Nat}{w w':World}{V V':Value}{cs:List Ba}{c:Ba}{xs u:List Value}{base k:Nat}{ys:List Value}(h:IsArrsP w (PL n w V) cs xs)(hc:IsArrP w (PR m w) c u)(hn:n<=m)(ho:w.ownsQ Ic base 43 3 V k ys)(hm:∀x,V.ownBlock=some x->x<m)
 (hg:w.grownBy w' V.ownBlock) (hV:V'.ownBlock=V.ownBlock\/V'.ownBlock=some w.heap.size):IsArrsP w' (PL n w' V') (cs++[c]) (xs++u):=by
 have hc1:IsArrP w (PL n w V) c u:=IsArrP.keep (λ_ _=>rfl) (λb hb=>⟨hb.mono hn,λe=>by
  rcases hb.2 with h1 |⟨off,x,hx⟩
  ·have:=hm b e;omega
  exact absurd e (ho.apart hx (λhq=>hq x rfl))⟩) _ _ hc
 refine Vn hg.size (λb hb=>⟨hg.block b hb.1.1 (λe=>hb.2 e.symm),?_⟩) (h.snoc hc1);rcases hV with e |e
 ·rw[e];exact hb.2
 rw[e];intro e';injection e' with e';have:=hb.1.1;omega
def Th:Nat->List UInt8->Prop
 | 0,_=>True
 |f+1,s=>match Nw.cut s with
  |none=>True
  |some p=>p.1.length<1000000/\(∀a,Sp.readP 9 p.1=some a->Ka 8 a=true->(Sp.arrT a).length<1000000)/\Th f p.2
theorem Wt:∀(f:Nat) (s:List UInt8),s.length<=4000->Th f s
 | 0,_,_=>trivial
 |f+1,s,h=>by
  rw[Th];cases hc:Nw.cut s with
  |none=>trivial
  |some p=>
   have h1:=Sp.cut_less hc;exact⟨by omega,λa ha hr=>Sp.readP_len (by omega) ha hr,Wt f _ (by omega)⟩
theorem Dx:∀(f:Nat) (l:List Ba),(∀a∈l,Sp.wfA a/\Ka 8 a=true/\(Sp.arrT a).length<1000000)->Th f (Co.arrsT l)
 | 0,_,_=>trivial
 |f+1,[],_=>by rw[Th,show Co.arrsT []=[] from rfl,Sp.cut_nil];trivial
 |f+1,a::r,h=>by
  obtain⟨h1,h2,h3⟩:=h a (by simp);rw[Th,show Co.arrsT (a::r)=Nw.net (Sp.arrT a)++Co.arrsT r from rfl,Nw.cut_net];refine⟨h3,λb hb _=>?_,Dx f r (λx hx=>h x (by simp[hx]))⟩;rw[(Sp.read_text _ a 8 (Nat.lt_succ_self _) h2 h1).1] at hb
  split at hb
  ·injection hb with hb;rw[<-hb];exact h3
  cases hb
def Wn (w:World)(q:Nat):Nat:=match w.cell? ⟨q,1,none⟩,w.cell? ⟨q,0,none⟩ with
 |some (.bool false),some (.string s)=>s.size+1
 |_,_=>0
theorem Ex {w:World}{q:Nat}{t:List UInt8}{b:Bool}(h:IsRd w q t b):Wn w q=if b then 0 else t.length+1:=by
 unfold Wn;rw[h.cell0,h.cell1];cases b<;>rfl
theorem Fx:∀u∈(Value.agg #[.int .u64 0,.slice none 0 0,.slice none 0 0]).cells.toList,Ic u:=by
 intro u hu n e;subst e;simp[Value.cells] at hu
theorem S4 {S:Nat}{A1:Option Addr}{n1 c1:Nat}{A2:Option Addr}{n2 c2:Nat}:∀u∈[Value.int .u64 (S:Int),.slice A1 n1 c1,.slice A2 n2 c2],Ic u:=by
 intro u hu n e;subst e;simp at hu
theorem Xt {w:World}{q:Nat}{t:List UInt8}{b:Bool}(h:IsRd w q t b):¬HasU w q:=Fd h (by intro u hu n e;subst e;simp[sv] at hu)
structure U4 (w:World) (r q:Nat) (u:List UInt8) (bb:Bool) (t0:List UInt8) (v:Value) (W:World) (ars:List Ba) (xs:List Value) (t:List UInt8) (ib:Bool) (f:Nat):Prop where
 gr:w.grownBy W (some r)
 rd:IsRd W r u bb
 inn:IsRd W q t ib
 own:W.ownsQ Ic (q+1) 43 3 v ars.length xs
 arrs:IsArrsP W (PL (q+1) W v) ars xs
 len:ars.length+t.length<=t0.length+1/\t.length<=t0.length
 good:ib=false->ars.length+t.length<=t0.length/\t.length<=f/\Th f t/\Co.arrsR t0.length t0=(Co.arrsR f t).map (ars++ ·)
 bad:ib=true->Co.arrsR t0.length t0=none
theorem Yt {a b c:World}{r:Nat}{row:Option Nat}(h:a.grownBy b (some r))(k:b.grownBy c row)(hr:∀x,row=some x->a.heap.size<=x):a.grownBy c (some r):=
 ⟨k.os.trans h.os,k.tape.trans h.tape,k.output.trans h.output,Nat.le_trans h.size k.size,λi hi hne=>(k.block i (Nat.lt_of_lt_of_le hi h.size) (λe=>by have:=hr i e.symm;omega)).trans (h.block i hi hne)⟩
theorem Pha (R:Option Ba):∃(n0:Int) (x:Ba),((n0=0/\R=some x)\/(n0=16/\R=none))/\∀w e w',Jc Cr R w e w'->∃vs,e= .returned (.tuple #[.agg vs.toArray,.int .i64 n0])/\IsArrP w' (PR w.heap.size w') x vs/\Below w.heap.size w w':=by
 cases R with
 |none=>exact⟨16,_,.inr ⟨rfl,rfl⟩,λw e w' h=>h⟩
 |some x=>exact⟨0,x,.inl ⟨rfl,rfl⟩,λw e w' h=>h⟩
theorem Qha {w W W6 w9:World}{r q m f f':Nat}{u t0 t t':List UInt8}{bb ib':Bool}{v v':Value}{ars:List Ba}{xs vs:List Value}{x:Ba}{o:Obj}(h:U4 w r q u bb t0 v W ars xs t false f)(hrq:r<q)(hwq:w.heap.size<=q)(hgq:W.grownBy W6 (some q))(hi:IsRd W6 q t' ib')(hx:IsArrP W6 (PR m W6) x vs)(hm:W.heap.size<=m)
 (hown:w9.ownsQ Ic (q+1) 43 3 v' (ars.length+1) (xs++vs)) (hg9:(W6.alloc o).grownBy w9 v.ownBlock) (hat:v'.ownBlock=v.ownBlock\/v'.ownBlock=some (W6.alloc o).heap.size)
 (hlen:t'.length<=t.length) (hgood:ib'=false->t'.length<t.length/\t'.length<=f'/\Th f' t'/\Co.arrsR f t=(Co.arrsR f' t').map (x:: ·)) (hbad:ib'=true->Co.arrsR f t=none):U4 w r q u bb t0 v' w9 (ars++[x]) (xs++vs) t' ib' f':=by
 have hal:Below W6.heap.size W6 (W6.alloc o):=Br.alloc Lr _;have hql:=hi.lt;have hvl:∀y,v.ownBlock=some y->q+1<=y/\y<W.heap.size:=λy e=>h.own.own.lt y e;have hs:=hgq.size;have hnq:∀b,PR (q+1) W b->b≠q:=λb hb e=>by
  subst e;rcases hb.2 with h1 |h1
  ·omega
  exact Xt h.inn h1
 have hO6:W6.ownsQ Ic (q+1) 43 3 v ars.length xs:=h.own.kept hgq (.inr (λe=>by have:=(hvl q e).1;omega));have hO7:(W6.alloc o).ownsQ Ic (q+1) 43 3 v ars.length xs:=hO6.kept (World.grownBy_alloc _ _ none) (by cases v.ownBlock<;>simp);have hX6:IsArrsP W6 (PL (q+1) W6 v) ars xs:=Vn hs (λb hb=>⟨hgq.block b hb.1.1 (λe=>hnq b hb.1 (by injection e)),hb.2⟩) h.arrs;obtain⟨hl1,hl2⟩:=h.len;obtain⟨hg1,hg2,hg3,hg4⟩:=h.good rfl;have hq2:=h.inn.lt;have hrl:=h.rd.lt;have hvr:∀b,b<=q->b<W.heap.size->w9.heap[b]? =W6.heap[b]? :=λb h1 h2=>(hg9.block b (by simp;omega) (λe=>by have:=(hvl b e.symm).1;omega)).trans (hal.block b (by omega));refine⟨Yt (Yt (Yt h.gr hgq (λy e=>by injection e with e;omega)) (World.grownBy_alloc W6 o none) nofun) hg9 (λy e=>by have:=(hvl y e).1;omega),(hvr r (by omega) hrl).trans ((hgq.block r hrl (λe=>by injection e with e;omega)).trans h.rd),(hvr q Lr hq2).trans hi,by rw[List.length_append];exact hown,
  Cx (m:=m) (Ml hal hX6) (Sc hx hal) (by omega) hO7 (λy e=>by have:=(hvl y e).2;omega) hg9 hat,⟨by simp;omega,by omega⟩,λe=>?_,λe=>?_⟩
 ·obtain⟨h1,h2,h3,h4⟩:=hgood e
  refine⟨by simp;omega,h2,h3,?_⟩;rw[hg4,h4];simp[Option.map_map,Function.comp_def]
 rw[hg4,hbad e];rfl
theorem Q7 (s:List UInt8)(bad:Bool)(r:Nat)(w:World)(hs:s.length<=1000000000000)(h:IsRd w r s bad)(hw:∀wx,w.grownBy wx (some r)->RdW wx)(hel:Th (Sp.nextP s).1.length (Sp.nextP s).1):
 Calls Tryz.prog 36 #[.pointer (some ⟨r,0,none⟩)] w λe w'=>∃(l:List Ba) (s':List UInt8) (bad':Bool) (A:Option Addr) (c:Nat) (us:List Value),e= .returned (.slice A l.length c)/\w.grownBy w' (some r)/\IsRd w' r s' bad'/\Re s bad (Co.insR s) l s' bad'/\
  Fits l.length c 56/\LiesP w' (PR w.heap.size w') A us/\IsArrsP w' (PR w.heap.size w') l us:=by
 have T:=Qd (Kh s bad r w hs h);have hle:=(Sp.nextP_le s).2;have hle1:=(Sp.nextP_le s).1;have HP:Hid (∀(ars:List Ba) ib,((ib=false/\Co.arrsR (Sp.nextP s).1.length (Sp.nextP s).1=some ars)\/(ib=true/\Co.arrsR (Sp.nextP s).1.length (Sp.nextP s).1=none))->Re s bad (Co.insR s) ars (Sp.nextP s).2 ((bad||(Nw.cut s).isNone)||ib)):=Qd (λars ib hsp=>by
  refine⟨hle,rfl,?_⟩;unfold Co.insR;unfold Sp.nextP at hsp⊢;cases hc:Nw.cut s with
  |none=>right;simp
  |some p=>
   rw[hc] at hsp;simp only[Option.getD_some] at hsp⊢;rcases hsp with⟨rfl,e⟩ |⟨rfl,e⟩
   ·rw[e];cases bad<;>simp
   rw[e];cases bad<;>simp)
 have hrl:=h.lt;have HEL:=Qd hel;have HW:=Qd hw;clear h hw hle hel;generalize(Sp.nextP s).1=t0 at*;generalize(Sp.nextP s).2=u at*;generalize(bad||(Nw.cut s).isNone)=bb at*;obtain⟨iA,hiA,hz0,hz1,hz2⟩:=info_parts Gea;go_enter Tryz.func36,Tryz.ntmps36
 go_wp2_with fail
 refine T.out.mono ?_;rintro e W1 ⟨rfl,hg1,hr1⟩;obtain⟨W2,hW2⟩:∃W2,W2=W1.alloc (.cells #[.string ⟨t0.toArray⟩,.bool false] 64):=⟨_,rfl⟩;have hb2:Below W1.heap.size W1 W2:=by rw[hW2];exact Br.alloc Lr _
 have hi:IsRd W2 W1.heap.size t0 false:=by rw[hW2];exact heap_alloc_new _ _
 have hI0:U4 w r W1.heap.size u bb t0 (.slice none 0 0) W2 [] [] t0 false t0.length:=⟨Wi hg1 (Bd r hb2),hr1.below hb2,hi,World.ownsQ_nil _ _ _ _ _,by rw[IsArrsP],⟨by simp,Lr⟩,λ_=>⟨by simp,Lr,HEL.out,by simp⟩,nofun⟩;have hrq:r<W1.heap.size:=hr1.lt;have hwq:w.heap.size<=W1.heap.size:=hg1.size;have HI0:=Qd hI0;have HW2:=Qd hW2;clear hW2 hg1 hr1 hb2 hi hI0 T;obtain⟨q,hq⟩:∃q,q=W1.heap.size:=⟨_,rfl⟩;go_upto_region 3 with fail
 rw[<-HW2.out];rw[<-hq] at HI0 hrq hwq⊢;clear hq HW2;go_loopw [3,5,6] (λv _ _ wr=>∃(ars:List Ba) (xs:List Value) (t:List UInt8) (ib:Bool) (f:Nat),Hid (U4 w r q u bb t0 v wr ars xs t ib f)) (λ_ _ _ wr=>Wn wr q)
 case atStart=>exact⟨_,_,_,_,_,HI0⟩
 case round=>
  clear HI0 HEL;obtain⟨wq,rfl⟩:∃y,y=wr:=⟨_,rfl⟩;obtain⟨ars,xs,t,ib,f,HI⟩:=hrel;have c0:=HI.out.inn.cell0;have c1:=HI.out.inn.cell1;obtain⟨A,c,rfl,hc1,hc2⟩:=Na HI.out.own.own;have hlen:=HI.out.len;have r1:=HI.out.rd.cell1;have f1:=HI.out.rd.frozen 1;have hst:t=[]\/((t==[])=false/\ib=true)\/((t==[])=false/\ib=false):=by
   by_cases h:t=[]
   ·exact .inl h
   cases ib
   ·exact .inr (.inr ⟨beq_eq_false_iff_ne.2 h,rfl⟩)
   exact .inr (.inl ⟨beq_eq_false_iff_ne.2 h,rfl⟩)
  have HEND:Hid ((t=[]\/ib=true)->∀wx,wx=wq.setCell ⟨r,1,none⟩ (.bool (bb||ib))->∃(l:List Ba) (s':List UInt8) (bad':Bool) (A':Option Addr) (c':Nat) (us:List Value),Ending.returned (.slice A ars.length c)= .returned (.slice A' l.length c')/\w.grownBy wx (some r)/\IsRd wx r s' bad'/\Re s bad (Co.insR s) l s' bad'/\
   Fits l.length c' 56/\LiesP wx (PR w.heap.size wx) A' us/\IsArrsP wx (PR w.heap.size wx) l us):=Qd (λhend wx hwx=>by
   have hne:∀b,PR (q+1) wq b->b≠r:=λb hb e=>by
    subst e;rcases hb.2 with h |h
    ·omega
    exact Xt HI.out.rd h
   have hk:∀b,PR (q+1) wq b->wx.heap[b]? =wq.heap[b]? :=λb hb=>by rw[hwx];exact Below.heap_setCell _ _ _ _ (show b≠r from hne b hb)
   have hsz:wx.heap.size=wq.heap.size:=by rw[hwx];simp
   have hP:∀b,PR (q+1) wq b->PR w.heap.size wx b:=λb hb=>((hb.same (by omega) (hk b hb)).mono (by omega));refine⟨ars,u,_,A,c,xs,rfl,by rw[hwx];exact Xi HI.out.gr _ _,by rw[hwx];exact HI.out.rd.set1 _,HP.out ars ib ?_,⟨hc1,by omega,by unfold maxLen at hc2;exact hc2⟩,(LiesP.of_own HI.out.own.own).keep (λp hp=>World.cell?_of_block (by rw[hwx];exact Below.heap_setCell _ _ _ _ (show p.block≠r by have:=hp.1;omega))) (λb hb=>⟨by have:=hb.2;omega,.inl (by have:=hb.1;omega)⟩),IsArrsP.keep (λp hp=>World.cell?_of_block (hk _ hp.1)) (λb hb=>hP b hb.1) _ _ HI.out.arrs⟩;cases hib:ib with
   |true=>exact .inr ⟨rfl,HI.out.bad hib⟩
   |false=>
    refine .inl ⟨rfl,?_⟩;obtain⟨-,-,-,h4⟩:=HI.out.good hib;rcases hend with rfl |h
    ·rw[h4]
     cases f<;>simp[Co.arrsR]
    rw[hib] at h;cases h)
  rcases hst with rfl |⟨h0,rfl⟩ |⟨h0,rfl⟩
  ·have H:=Qd (HEND.out (.inl rfl))
   clear HEND HP HW HI hlen;cases bb<;>cases ib
   all_goals
    go_wp2_with fail
    go_ret;exact H.out _ rfl
  ·have H:=Qd (HEND.out (.inr rfl))
   clear HEND HP HW HI hlen;cases bb;all_goals
    go_wp2_with fail
    go_ret;exact H.out _ rfl
  clear HEND HP r1 f1;have hne:t≠[]:=beq_eq_false_iff_ne.1 h0;have hpos:=List.length_pos_iff.2 hne;obtain⟨hg1,hg2,hg3,hg4⟩:=HI.out.good rfl;obtain⟨f',rfl⟩:∃f',f=f'+1:=⟨f-1,by omega⟩;have TX:=Kh t false q wq (by omega) HI.out.inn;obtain⟨n0,x,hn0,hPV⟩:=Pha (Sp.parseX (Sp.readP 9 (Sp.nextP t).1) (Sp.nextP t).1);have hnx:=(Sp.nextP_le t).2;have hsp:(Sp.nextP t).1.length<1000000/\(∀a,Sp.readP 9 (Sp.nextP t).1=some a->Ka 8 a=true->(Sp.arrT a).length<1000000)/\
   (((Nw.cut t).isNone||decide (n0=16))=false->(Sp.nextP t).2.length<t.length/\(Sp.nextP t).2.length<=f'/\Th f' (Sp.nextP t).2/\Co.arrsR (f'+1) t=(Co.arrsR f' (Sp.nextP t).2).map (x:: ·))/\(((Nw.cut t).isNone||decide (n0=16))=true->Co.arrsR (f'+1) t=none):=by
   rw[Th] at hg3;rw[Co.arrsR,if_neg hne];unfold Sp.nextP at hn0⊢;cases hc:Nw.cut t with
   |none=>exact⟨by simp,λa ha hr=>Sp.readP_len (s:=[]) (by simp) ha hr,by simp,λ_=>rfl⟩
   |some p=>
    rw[hc] at hg3 hn0;dsimp only[Option.getD_some] at hn0 hg3⊢;have hcl:=Sp.cut_less hc;refine⟨hg3.1,hg3.2.1,λe=>⟨hcl.2,by omega,hg3.2.2,?_⟩,λe=>?_⟩
    ·rcases hn0 with⟨rfl,hx⟩ |⟨rfl,hx⟩
     ·rw[hx]
     simp at e
    rcases hn0 with⟨rfl,hx⟩ |⟨rfl,hx⟩
    ·simp at e
    rw[hx]
  obtain⟨hs1,hs2,hs3,hs4⟩:=hsp;have HS:=Qd (And.intro hs3 hs4);have PA:=Qd (λ(wx:World) (hx:RdW wx)=>(Vt (Sp.nextP t).1 wx hs1 hx hs2).mono (hPV wx));replace TX:=Qd TX;have hn16:n0=0\/n0=16:=by rcases hn0 with⟨h,-⟩ |⟨h,-⟩<;>omega
  clear hn0 hPV hs1 hs2 hs3 hs4 hg3 hg4 hne;generalize(Sp.nextP t).1=e1 at*;generalize(Sp.nextP t).2=t' at*;generalize(Nw.cut t).isNone=ibn at*;go_wp2_with fail
  refine TX.out.mono ?_;rintro e W3 ⟨rfl,hg3,hi3⟩;have P1:=Qd (PA.out W3 (HW.out W3 (Yt HI.out.gr hg3 (λy e=>by injection e with e;omega))));have HG3:=Qd hg3;have HI3:=Qd hi3;clear hg3 hi3 TX PA c0 c1;go_upto_region 5 with(go_at_call 63;refine P1.out.mono ?_;rintro e W4 ⟨vs,rfl,hA4,hb4⟩;obtain⟨S1,A1,m1,d1,A1',m1',d1',rfl⟩:=hA4.form;replace hA4:=Qd hA4;replace hb4:=Qd hb4)
  refine Gc ?_;intro W5 hW5;have hb45:Below W4.heap.size W4 W5:=by rw[hW5];exact Br.alloc Lr _
  have hb35:=hb4.out.trans (hb45.mono hb4.out.size);have k5:W5.heap[W4.heap.size]? =some (.cells #[.int .u64 (S1:Int),.slice A1 m1 d1,.slice A1' m1' d1'] 43 (0,0)):=by rw[hW5];exact heap_alloc_new _ _
  have hq3:=HI3.out.lt;have hs45:=hb4.out.size;obtain⟨g5,hg5⟩:∃g5,g5=W4.heap.size:=⟨_,rfl⟩;rw[<-hg5] at k5⊢;have hqg:q≠g5:=by omega
  have hi5:=HI3.out.below hb35;have c1:=hi5.cell1;have f1:=hi5.frozen 1;have HI5:=Qd hi5;have HG5:=Qd (Wi HG3.out (Bd q hb35));have HA5:=Qd (Sc hA4.out hb45);have K5:=Qd k5;clear hW5 hb45 hb35 k5 hs45 hg5 hi5 hb4 hA4 HI3 P1;obtain⟨ib',hib⟩:∃b:Bool,b=(ibn||decide (n0=16)):=⟨_,rfl⟩;rw[<-hib] at HS;obtain⟨W6,hW6⟩:∃W6,W6=W5.setCell ⟨q,1,none⟩ (.bool ib'):=⟨_,rfl⟩;have hi6:IsRd W6 q t' ib':=by rw[hW6];exact HI5.out.set1 _
  have hg6:wq.grownBy W6 (some q):=by rw[hW6];exact Xi HG5.out _ _
  have hnu:¬HasU W5 q:=Xt HI5.out;have hA6:IsArrP W6 (PR W3.heap.size W6) x [.int .u64 (S1:Int),.slice A1 m1 d1,.slice A1' m1' d1']:=by
   have hk:∀b,PR W3.heap.size W5 b->W6.heap[b]? =W5.heap[b]? :=λb hb=>by rw[hW6];exact Below.heap_setCell _ _ _ _ (show b≠q from Di hq3 hnu hb)
   exact IsArrP.keep (λp hp=>World.cell?_of_block (hk _ hp)) (λb hb=>hb.same (by rw[hW6];simp) (hk b hb)) _ _ HA5.out
  have k6:W6.heap[g5]? =some (.cells #[.int .u64 (S1:Int),.slice A1 m1 d1,.slice A1' m1' d1'] 43 (0,0)):=by rw[hW6];exact(Below.heap_setCell _ _ _ _ (show g5≠q from hqg.symm)).trans K5.out
  have hw6:=hg6.size;have hm3:=HG3.out.size;have HO7:Hid ((W6.alloc (.cells #[.int .u64 (S1:Int),.slice A1 m1 d1,.slice A1' m1' d1'] 43)).ownsQ Ic (q+1) 43 3 (.slice A ars.length c) ars.length xs):=Qd ((HI.out.own.kept hg6 (.inr (λe=>by have:=(HI.out.own.own.lt q e).1;omega))).kept (World.grownBy_alloc _ _ none) (by cases (Value.slice A ars.length c).ownBlock<;>simp));have HL0:=Qd (Ex HI.out.inn);have hfin:∀(w9:World) (v':Value),w9.ownsQ Ic (q+1) 43 3 v' (ars.length+1) (xs++[.int .u64 (S1:Int),.slice A1 m1 d1,.slice A1' m1' d1'])->(W6.alloc (.cells #[.int .u64 (S1:Int),.slice A1 m1 d1,.slice A1' m1' d1'] 43)).grownBy w9 (Value.slice A ars.length c).ownBlock->(v'.ownBlock=(Value.slice A ars.length c).ownBlock\/v'.ownBlock=some (W6.alloc (.cells #[.int .u64 (S1:Int),.slice A1 m1 d1,.slice A1' m1' d1'] 43)).heap.size)->Hid (U4 w r q u bb t0 v' w9 (ars++[x]) (xs++[.int .u64 (S1:Int),.slice A1 m1 d1,.slice A1' m1' d1']) t' ib' f'/\Wn w9 q<Wn wq q):=λw9 v' h1 h2 h3=>by
   have h4:=Qha HI.out hrq hwq hg6 hi6 hA6 hm3 h1 h2 h3 hnx HS.out.1 HS.out.2;refine Qd ⟨h4,?_⟩;rw[HL0.out,Ex h4.inn];cases hb:ib' with
   |true=>simp
   |false=>have:=(HS.out.1 hb).1;simp;omega
  have K6:=Qd k6;have HW6:=Qd hW6;have hqs:q+1<=W6.heap.size:=by have:=hi6.lt;omega
  have HN16:=Qd hn16;have HFIN:=Qd hfin;clear hfin hi6 hg6 hnu hA6 k6 HI5 HG5 HA5 K5 HG3 HS hW6 hn16;rcases HN16.out with rfl |rfl<;>cases ibn
  all_goals
   simp at hib;subst hib;go_upto_region 6 with fail
   rw[<-HW6.out];go_wp2_with (first
    |(with_reducible refine Dm rfl (.tmp 5) rfl g5 rfl K6.out ?_)
    |(at_builtin;refine Qe _ rfl _ _ 24 rfl Ic (q+1) 43 iA (.agg #[.int .u64 0,.slice none 0 0,.slice none 0 0]) 3 56 Tryz.underlying24 hiA hz0 hz1 hz2 rfl (by decide) Fx (.slice A ars.length c) ars.length xs rfl HO7.out ⟨_,0,none⟩ 1 1 [.int .u64 (S1:Int),.slice A1 m1 d1,.slice A1' m1' d1'] rfl rfl (El W6 _ _) (by simp[Value.oneCell']) S4 (by unfold maxLen;omega) (by omega) (by simp;omega) ?_;intro v9 w9 hown9 hgrow9 hnn9 hat9;have HF:=HFIN.out _ _ hown9 hgrow9 hat9;clear hown9 hgrow9 hnn9 hat9))
   go_roundw
   case rel=>exact⟨_,_,_,_,_,Qd HF.out.1⟩
   case measure=>exact HF.out.2
end
section
open Go.RowKit Ar
end
section
open Go.RowKit Ar
attribute [local go_sem] Oper.semAt_some
theorem dec_no32 (n:Nat):(32:UInt8)∉Lib.decDigits n:=λh=>by
 have:=(Ten.dec_valid n).1.2.2 32 h;unfold Ten.isDig at this;exact absurd this.1 (by decide)
theorem Ei (x:Int):Ga [x]=Lib.itoa x:=by unfold Ga;rw[List.map_cons,List.map_nil,Lib.join_one]
theorem Eg (x y:Int)(r:List Int):Ga (x::y::r)=Lib.itoa x++32::Ga (y::r):=by
 unfold Ga;rw[List.map_cons,List.map_cons,Lw];rfl
def Xn (W:World)(bx:Nat):Nat:=match W.cell? ⟨bx,0,none⟩ with |some (.string s)=>s.size |_=>0
def IsBox (W:World)(bx:Nat)(s:List UInt8):Prop:=W.heap[bx]? =some (.cells #[sv s] 9 (0,0))
theorem IsBox.cell {W:World}{bx:Nat}{s:List UInt8}(h:IsBox W bx s):W.cell? ⟨bx,0,none⟩=some (.string ⟨s.toArray⟩):=by unfold IsBox at h;simp[World.cell?,h,sv]
theorem IsBox.frozen {W:World}{bx:Nat}{s:List UInt8}(h:IsBox W bx s):W.frozen? ⟨bx,0,none⟩=false:=by unfold IsBox at h;simp[World.frozen?,h]
theorem IsBox.len {W:World}{bx:Nat}{s:List UInt8}(h:IsBox W bx s):Xn W bx=s.length:=by unfold Xn;rw[h.cell];rfl
theorem IsBox.set {W:World}{bx:Nat}{s:List UInt8}(h:IsBox W bx s)(t:List UInt8):IsBox (W.setCell ⟨bx,0,none⟩ (.string ⟨t.toArray⟩)) bx t:=by
 unfold IsBox at*;show(W.heap.modify bx _)[bx]? =_;rw[Array.getElem?_modify,if_pos rfl,h];rfl
theorem IsBox.below {W W':World}{bx:Nat}{s:List UInt8}(h:IsBox W bx s)(hb:Below W.heap.size W W'):IsBox W' bx s:=(hb.block bx (Array.getElem?_eq_some_iff.1 h).1).trans h
theorem V4 (s:List UInt8)(w:World):
 Calls Tryz.prog 61 #[.string ⟨s.toArray⟩] w λe w'=>e= .returned (.func (.func 90) #[] #[.pointer (some ⟨w.heap.size,0,none⟩)])/\w'=w.alloc (.cells #[.string ⟨s.toArray⟩] 9):=by
 go_enter Tryz.func61,Tryz.ntmps61
 go_wp2_with fail
 go_ret;exact⟨rfl,rfl⟩
end
section
open Go.RowKit Ar
attribute [local go_sem] Oper.semAt_some
structure RdG (w:World) (m:Nat):Prop where
 rd:RdW w
 le:m<=w.heap.size
 l1:0<m
 l2:∀g,Tryz.prog.globalNamed "internal/strconv.uint64pow10" =some g→g<m
 l3:3<m
 l4:4<m
theorem RdW.lows {w:World}(h:RdW w):RdG w w.heap.size:=by
 have h0:=h;obtain⟨h1,⟨e,h2,-⟩,⟨e',h3,-⟩⟩:=h;exact⟨h0,Lr,h1.lt,h1.ten.lt,World.block_lt_of_cell? w _ h2,World.block_lt_of_cell? w _ h3⟩
theorem RdG.same {w w':World}{m:Nat}(h:RdG w m)(hs:w.heap.size<=w'.heap.size)(hk:∀k,k<m->w'.heap[k]? =w.heap[k]?):RdG w' m:=by
 have hc:∀a:Addr,a.block<m→w'.cell? a=w.cell? a:=λa ha=>World.cell?_of_block (hk _ ha);obtain⟨⟨ht,hl,hp,hn⟩,⟨e,h2,h3⟩,⟨e',h4,h5⟩⟩:=h.rd;have hv:Lib.TabIs Tryz.prog w' "internal/strconv.uint64pow10" .u64 Lib.pow10Tab:=by
  have:=hn.tab;unfold Lib.TabIs World.var? at*;cases he:Tryz.prog.globalNamed "internal/strconv.uint64pow10" with
  |none=>simp[he] at this
  |some g=>
   simp only[he,Option.bind_some] at this⊢;rw[hk g (h.l2 g he)];exact this
 have hlt:∀g,Tryz.prog.globalNamed "internal/strconv.uint64pow10" =some g→g<w'.heap.size:=λg e=>Nat.lt_of_lt_of_le (hn.lt g e) hs;exact⟨⟨⟨λj hj=>(hc _ h.l1).trans (ht j hj),Nat.lt_of_lt_of_le hl hs,⟨hv,hlt⟩,⟨hv,hlt⟩⟩,⟨e,(hc _ h.l3).trans h2,h3⟩,⟨e',(hc _ h.l4).trans h4,h5⟩⟩,Nat.le_trans h.le hs,h.l1,h.l2,h.l3,h.l4⟩
theorem RdG.gb {w w':World}{m r:Nat}(h:RdG w m)(hr:m<=r)(hg:w.grownBy w' (some r)):RdG w' m:=h.same hg.size λk hk=>hg.block k (Nat.lt_of_lt_of_le hk h.le) (λe=>by injection e with e;omega)
theorem RdG.below {w w':World}{m:Nat}(h:RdG w m)(hb:Below w.heap.size w w'):RdG w' m:=h.same hb.size λk hk=>hb.block k (Nat.lt_of_lt_of_le hk h.le)
def Ke (s:List UInt8):Int:=match Lib.atoiAll s with | .ok v=>v | .range=>Lib.atoiSat s |_=>0
theorem Rha (s:List UInt8): -9223372036854775808<=Ke s/\Ke s<=9223372036854775807:=by
 unfold Ke;cases h:Lib.atoiAll s with
 |ok v=>exact Lib.atoiAll_bounds h
 |range=>exact Lib.atoiSat_bounds s
 |_=>show-9223372036854775808<=(0:Int)/\(0:Int)<=9223372036854775807;omega
theorem Sha {s:List UInt8}{n:Int}(h:Sp.atoiP s=some n):Ke s=n:=by
 unfold Sp.atoiP at h;unfold Ke
 split at h
 ·next v hv=>rw[hv];injection h
 cases h
theorem Tha (s:List UInt8)(w:World)(hs:s.length<=1000000)(hw:RdW w):Calls Tryz.prog 92 #[.string ⟨s.toArray⟩] w λe w'=>∃er,e= .returned (.tuple #[.int .i64 (Ke s),er])/\(((Sp.atoiP s).isSome=true/\er= .nilIface)\/((Sp.atoiP s).isSome=false/\∃t p,er= .iface t p))/\Below w.heap.size w w':=by
 obtain⟨ev,h1,h2⟩:=hw.es;obtain⟨ev',h3,h4⟩:=hw.er;have hsz:(⟨s.toArray⟩:ByteArray).size=s.length:=rfl;unfold Ke Sp.atoiP;cases h:Lib.atoiAll s with
 |ok v=>
  refine(Tryz.strconv_Atoi_ok ⟨s.toArray⟩ (by omega) v h w).mono ?_;rintro e w' ⟨rfl,hw'⟩;refine⟨.nilIface,rfl,.inl ⟨rfl,rfl⟩,?_⟩;rcases hw' with rfl |⟨t,rfl⟩
  ·exact Br
  exact Lib.bytesWorld_below _ _ _
 |range=>
  refine(Tryz.strconv_Atoi_range ⟨s.toArray⟩ (by omega) h ev' w h3 h4).mono ?_;rintro e w' ⟨N,rfl,-,-,hb'⟩;exact⟨_,rfl,.inr ⟨rfl,_,_,rfl⟩,hb'⟩
 |_=>
  refine(Tryz.strconv_Atoi_syntax ⟨s.toArray⟩ (by omega) h ev w h1 h2).mono ?_;rintro e w' ⟨N,rfl,-,-,hb⟩;exact⟨_,rfl,.inr ⟨rfl,_,_,rfl⟩,hb⟩
def Fe:List (List UInt8)->List (Int×Bool)
 | []=>[]
 |x::r=>match Sp.atoiP x with
  |some n=>(n,true)::Fe r
  |none=>[(Ke x,false)]
def Gf (t:List UInt8):List (Int×Bool):=if t=[] then[] else Fe (Sp.words t)
def Oba (e:List (Int×Bool)):Option (List Int)->Prop
 |some l=>e=l.map (·,true)
 |none=>e.any (λx=> !x.2)=true
theorem Zt:∀ws:List (List UInt8),Oba (Fe ws) (Sp.atoiAllP ws)
 | []=>rfl
 |x::r=>by
  have ih:=Zt r;rw[Sp.atoiAllP,Fe];cases hx:Sp.atoiP x with
  |none=>rfl
  |some n=>
   cases hr:Sp.atoiAllP r with
   |none=>rw[hr] at ih;unfold Oba at*;simpa using ih
   |some l=>rw[hr] at ih;unfold Oba at*;simpa using ih
theorem Pba (t:List UInt8):(∃l,Sp.shapeP t=some l/\Gf t=l.map (·,true))\/(Sp.shapeP t=none/\(Gf t).any (λx=> !x.2)=true):=by
 unfold Sp.shapeP Gf;by_cases h:t=[]
 ·rw[if_pos h,if_pos h];exact .inl ⟨[],rfl,rfl⟩
 rw[if_neg h,if_neg h];have:=Zt (Sp.words t);cases hw:Sp.atoiAllP (Sp.words t) with
 |none=>rw[hw] at this;exact .inr ⟨rfl,this⟩
 |some l=>rw[hw] at this;exact .inl ⟨l,rfl,this⟩
theorem X4:∀ws:List (List UInt8),Xa ((Fe ws).map (·.1))
 | []=>nofun
 |x::r=>by
  rw[Fe];cases hx:Sp.atoiP x with
  |none=>
   intro n hn;simp at hn;rw[hn];exact Rha x
  |some m=>
   intro n hn;rw[List.map_cons] at hn;rcases List.mem_cons.1 hn with rfl |hn
   ·exact Co.atoi_wf hx
   exact X4 r n hn
theorem Gx:∀ws:List (List UInt8),(Fe ws).length<=ws.length
 | []=>Lr
 |x::r=>by
  rw[Fe];have:=Gx r;cases hx:Sp.atoiP x<;>simp<;>omega
theorem Uha (t:List UInt8):Xa ((Gf t).map (·.1))/\(Gf t).length<=t.length+1:=by
 unfold Gf
 split
 ·exact⟨nofun,by simp⟩
 refine⟨X4 _,?_⟩;have h1:=Gx (Sp.words t);have h2:=Sp.wordsF_length t.length t;unfold Sp.words at h1⊢;omega
theorem Qba {t:List UInt8}{f:Nat}(h:t.length<=f):Fe (Sp.wordsF f t)=(Ke (Lab.cutAt 32 t).1,(Sp.atoiP (Lab.cutAt 32 t).1).isSome)::(if(Sp.atoiP (Lab.cutAt 32 t).1).isSome&&(Lab.cutAt 32 t).2.2 then Fe (Sp.wordsF (f-1) (Lab.cutAt 32 t).2.1) else[])/\((Lab.cutAt 32 t).2.2=true->(Lab.cutAt 32 t).2.1.length<t.length):=by
 have hv:∀(x:List UInt8) (r:List (Int×Bool)),(match Sp.atoiP x with |some n=>(n,true)::r |none=>[(Ke x,false)])=(Ke x,(Sp.atoiP x).isSome)::(if(Sp.atoiP x).isSome then r else[]):=λx r=>by
  cases hx:Sp.atoiP x with
  |none=>rfl
  |some n=>rw[Sha hx];rfl
 have hw:(Lab.cutAt 32 t).2.2=false->(Lab.cutAt 32 t).1=t:=λhc=>by
  rcases Lab.index_cut 32 t with⟨-,e⟩ |⟨m,-,-,e⟩
  ·rw[e]
  rw[e] at hc;cases hc
 have one:∀y,Fe [y]=(Ke y,(Sp.atoiP y).isSome)::[]:=λy=>by
  rw[Fe,Fe,hv];cases Sp.atoiP y<;>rfl
 refine⟨?_,λhm=>?_⟩
 ·match t,f,h with
  | [],0,_=>rw[Sp.wordsF,one,show Lab.cutAt 32 []=([],[],false) from rfl];simp
  |t,f+1,h=>
   rw[Sp.wordsF];cases hc:(Lab.cutAt 32 t).2.2 with
   |true=>rw[if_pos rfl,Fe,hv,Bool.and_true];rfl
   |false=>rw[if_neg (by simp),hw hc,one];simp
 by_cases ht:t=[]
 ·rw[ht] at hm;cases hm
 exact(Lab.cutAt_len 32 t).2.2 ht
end
section
open Go.RowKit Ar
attribute [local go_sem] Oper.semAt_some
def Rba (x:Int×Bool):Array Value:= #[.int .i64 x.1,.bool x.2]
def KpL (bx m:Nat)(W W':World):Prop:=W'.heap[bx]? =W.heap[bx]? /\W.heap.size<=W'.heap.size/\∀k,k<m->W'.heap[k]? =W.heap[k]?
structure Ula (bx m:Nat) (E:List (Int×Bool)) (k:Nat) (mb:Bool) (t:List UInt8) (f:Nat) (W:World):Prop where
 box:IsBox W bx t
 len:t.length<=100000
 fu:mb=true->t.length<=f
 rd:RdG W m
 left:E.drop k=if mb then Fe (Sp.wordsF f t) else[]
def Z8 (mm:Value)(W:World)(bx:Nat):Nat:=match mm with | .bool true=>Xn W bx+1 |_=>0
theorem Vha (n:Nat)(hn:1<=n)(t:List UInt8)(bx m:Nat)(w:World)(hc:IsBox w bx t)(ht:t.length<=100000)(hr:RdG w m)(hm:m<=bx):
 Lia n Tryz.prog 90 #[.pointer (some ⟨bx,0,none⟩)] Rba (KpL bx m) (Gf t) bx w:=by
 intro lp J W hW hJ hY h0;have hbox:=hc.below hW;have hrd:=hr.below hW;obtain⟨E,hE⟩:∃E,E=Gf t:=⟨_,rfl⟩;rw[<-hE] at hY⊢;have HI0:Hid (Ula bx m E 0 (!t.isEmpty) t t.length W):=Qd ⟨hbox,ht,λ_=>Lr,hrd,by
  rw[hE];unfold Gf;cases t with
  |nil=>rfl
  |cons x r=>rw[if_neg (by simp)];rfl⟩
 have HJ:=Qd hJ;have HY:=Qd hY;have h0':Hid (J (E.take 0) W):=Qd h0;have c0:=hbox.cell;clear hJ hY hc hbox h0 hr hrd hE;refine callsIn_of_wp Tryz.func90 rfl trivial ?_ rfl;simp only[Tryz.ntmps90,List.size_toArray,List.length_cons,List.length_nil,Nat.reduceAdd,Nat.reduceSub,Array.replicate_succ,Array.replicate_zero,List.push_toArray,List.append_toArray,List.nil_append,List.cons_append]
 gi_wp2
 gi_loopw [3,4,5,6] (λmm _ _ _ wr=>∃(k:Nat) (mb:Bool) (u:List UInt8) (f:Nat),k<=E.length/\mm= .bool mb/\Hid (Ula bx m E k mb u f wr)/\Hid (J (E.take k) wr)) (λmm _ _ _ wr=>Z8 mm wr bx)
 case atStart=>exact⟨0,_,_,_,Nat.zero_le _,by first|rfl |(cases t<;>rfl),HI0,h0'⟩
 case round=>
  clear HI0 h0' c0 hW ht;obtain⟨wq,rfl⟩:∃x,x=wr:=⟨_,rfl⟩;obtain⟨k,mb,u,f,hk,rfl,HI,h0'⟩:=hrel;cases mb with
  |false=>
   have hke:E.length<=k:=by have:=HI.out.left;rw[if_neg (by simp)] at this;exact List.drop_eq_nil_iff.1 this
   have HJE:Hid (J E wq):=Qd (by have:=h0'.out;rwa[List.take_of_length_le hke] at this);clear h0' HI hke
   gi_wp2
   go_end0
   exact⟨⟨_,by trivial⟩,HJE.out⟩
  |true=>
   have hst:=Qba (HI.out.fu rfl);have hleft:=HI.out.left;rw[if_pos rfl,hst.1] at hleft;have hlt:k<E.length:=by
    rcases Nat.lt_or_ge k E.length with h |h
    ·exact h
    rw[List.drop_eq_nil_of_le h] at hleft;cases hleft
   rw[List.drop_eq_getElem_cons hlt] at hleft;injection hleft with hx hrest
   have hcl:=Lab.cutAt_len 32 u;have hul:=HI.out.len;have CT:=λ(wx:World)=>Ev u 32 wx hul;have HTK:Hid (E.take (k+1)=E.take k++[(Ke (Lab.cutAt 32 u).1,(Sp.atoiP (Lab.cutAt 32 u).1).isSome)]):=Qd (by rw[List.take_succ_eq_append_getElem hlt,hx]);have HYK:=Qd (λ(W1:World) (h:J (E.take k) W1)=>HY.out (E.take k) (Ke (Lab.cutAt 32 u).1,(Sp.atoiP (Lab.cutAt 32 u).1).isSome) W1 h (by rw[List.length_take];omega));have AT:=Qd (λ(wx:World) (hw:RdW wx)=>Tha (Lab.cutAt 32 u).1 wx (by omega) hw);have HREST:=Qd hrest;have HLT:=Qd hst.2;have hcl2:=hcl.2.1;unfold Za at CT;replace CT:=Qd CT;clear hst hx hrest hcl;generalize(Lab.cutAt 32 u).1=wd at*;generalize(Lab.cutAt 32 u).2.1=rs at*;generalize(Lab.cutAt 32 u).2.2=mr at*;obtain⟨sm,hsm⟩:∃b,b=(Sp.atoiP wd).isSome:=⟨_,rfl⟩;rw[<-hsm] at HTK HYK AT HREST;clear hsm;have hbx:=HI.out.box;have c0:=hbx.cell;have hbl:=(Array.getElem?_eq_some_iff.1 hbx).1;have hfl:=HI.out.fu rfl;have HML:Hid (Z8 (.bool true) wq bx=u.length+1):=Qd (by show Xn wq bx+1=_;rw[hbx.len]);have HBX:=Qd hbx;have HRD:=Qd HI.out.rd;clear hbx HI
   gi_wp2
   refine⟨trivial,(callsIn_wide.2 (CT.out _)).mono ?_⟩;rintro e w2 ⟨rfl,nn,rfl⟩;have hb2:IsBox (wq.drewN nn) bx u:=HBX.out;have c2:=hb2.cell;have f2:=hb2.frozen;have hj2:=HJ.out _ _ ((wq.drewN nn).setCell ⟨bx,0,none⟩ (.string ⟨rs.toArray⟩)) (some bx) h0'.out (Xi (Bd bx (Below.drewN_self wq nn)) 0 _) (λr e=>by injection e with e;exact e.symm);have HJ2:=Qd hj2;have HB3:=Qd (hb2.set rs);have HR3:Hid (RdG ((wq.drewN nn).setCell ⟨bx,0,none⟩ (.string ⟨rs.toArray⟩)) m):=Qd (HRD.out.same (by simp) (λk hk=>Below.heap_setCell _ _ _ _ (show k≠bx by omega)));clear c0 hb2 hj2 CT HBX HRD h0'
   gi_wp2
   clear c2 f2;generalize(wq.drewN nn).setCell ⟨bx,0,none⟩ (.string ⟨rs.toArray⟩)=w3 at*;refine⟨trivial,(callsIn_wide.2 (AT.out _ HR3.out.rd)).mono ?_⟩;rintro e w4 ⟨er,rfl,hcase,hb4⟩;have hj4:=HJ.out _ _ _ (some bx) HJ2.out (Bd bx hb4) (λr e=>by injection e with e;exact e.symm);have HB4:=Qd (HB3.out.below hb4);have HR4:=Qd (HR3.out.below hb4);obtain⟨fn,tmps,assign,body,hy,hR⟩:=HYK.out w4 hj4;unfold Rba at hy;have HRR:=Qd hR;clear hj4 hb4 HYK AT hR HJ2 HB3 HR3;rcases hcase with⟨rfl,rfl⟩ |⟨rfl,ty,pe,rfl⟩
   ·gi_wp2
    refine HRR.out.mono ?_;rintro e w5 ⟨rfl,hj5,hk5⟩;have HB5:Hid (IsBox w5 bx rs):=Qd (hk5.1.trans HB4.out);have HJ5:Hid (J (E.take (k+1)) w5):=Qd (by rw[HTK.out];exact hj5);have HR5:=Qd (HR4.out.same hk5.2.1 hk5.2.2);clear hj5 hk5 hy
    gi_wp2
    refine⟨⟨k+1,mr,rs,f-1,by omega,rfl,Qd ⟨HB5.out,by omega,λh=>by have:=HLT.out h;omega,HR5.out,?_⟩,HJ5⟩,?_⟩
    ·rw[HREST.out,Bool.true_and]
    rw[HML.out];cases mr with
    |true=>show Xn w5 bx+1<_;rw[HB5.out.len];have:=HLT.out rfl;omega
    |false=>show 0<_;omega
   gi_wp2
   refine HRR.out.mono ?_;rintro e w5 ⟨rfl,hj5,hk5⟩;have hend:E.drop (k+1)=[]:=by rw[HREST.out];rfl
   have HJ5:Hid (J E w5):=Qd (by rw[<-HTK.out,List.take_of_length_le (List.drop_eq_nil_iff.1 hend)] at hj5;exact hj5);clear hj5 hk5 hy hend
   gi_wp2
   refine bodyPost_ret (results_none rfl _ _ _) rfl ?_;exact⟨⟨_,rfl⟩,HJ5.out⟩
end
section
open Go.RowKit Ar
attribute [local go_sem] Oper.semAt_some
structure IntsG (w:World) (r BS:Nat) (b:List UInt8) (b0:Bool) (pre:List (Int×Bool)) (W:World):Prop where
 sz:BS<=W.heap.size
 gb:w.grownBy W (some r)
 rd:IsRd W r b (b0||pre.any λx=> !x.2)
 bp:W.heap[w.heap.size]? =some (.cells #[.pointer (some ⟨r,0,none⟩)] 62 (0,0))
 bl:∃v,W.heap[w.heap.size+1]? =some (.cells #[v] 26 (0,0))/\W.ownsRow BS 3 1 v pre.length (Ya (pre.map (·.1)))
theorem Nl {w w':World}{base:Nat}{e:TypeId}{size n:Nat}{v:Value}{xs:List Value}{row:Option Nat}(h:w.ownsRow base e size v n xs)(hg:w.grownBy w' row)(hr:∀r,row=some r->r<base\/∃o:Obj,w.heap[r]? =some o/\o.isCells=false):w'.ownsRow base e size v n xs:=by
 refine⟨h.1,h.2.imp id ?_⟩;rintro⟨g,cap,cur,a,hb,hh,rest⟩;refine⟨g,cap,cur,a,hb,(hg.block g (Array.getElem?_eq_some_iff.1 hh).1 (λe=>?_)).trans hh,rest⟩;rcases hr g e.symm with h1 |⟨o,h1,h2⟩
 ·omega
 rw[hh] at h1;injection h1 with h1;subst h1;cases h2
theorem IntsG.bears {w:World}{r BS:Nat}{b:List UInt8}{b0:Bool}(hr:r<w.heap.size)(bx:Nat)(h1:w.heap.size+1<bx)(h2:bx<BS):Mia bx BS (IntsG w r BS b b0):=by
 rintro pre W W' row ⟨hsz,hgb,hrd,hbp,v,hv,ho⟩ hg hrow;have far:∀k,k<bx->k<W.heap.size->W'.heap[k]? =W.heap[k]? :=λk hk hl=>hg.block k hl (λe=>by
  rcases hrow k e.symm with h |⟨h,_⟩<;>omega)
 refine⟨Nat.le_trans hsz hg.size,⟨hg.os.trans hgb.os,hg.tape.trans hgb.tape,hg.output.trans hgb.output,Nat.le_trans hgb.size hg.size,λk hk hne=>(far k (by omega) (Nat.lt_of_lt_of_le hk hgb.size)).trans (hgb.block k hk hne)⟩,(far r (by omega) hrd.lt).trans hrd,(far _ (by omega) (Array.getElem?_eq_some_iff.1 hbp).1).trans hbp,v,(far _ (by omega) (Array.getElem?_eq_some_iff.1 hv).1).trans hv,Nl ho hg (λk e=>?_)⟩;rcases hrow k e with h |⟨_,h⟩
 ·left;omega
 exact .inr h
def Fg (W:World)(r:Nat)(nb:Bool):World:=(W.setCell ⟨r,1,none⟩ (.bool nb)).drew
theorem Lf {W:World}{r k:Nat}{nb:Bool}(h:k≠r):(Fg W r nb).heap[k]? =W.heap[k]? :=by
 show(W.heap.modify r _)[k]? =_;rw[Array.getElem?_modify,if_neg (λe=>h e.symm)]
theorem Lh (W:World)(r:Nat)(nb:Bool):(Fg W r nb).heap.size=W.heap.size:=by show(W.heap.modify r _).size=_;simp
theorem B9 (W:World)(r:Nat)(nb:Bool):W.grownBy (Fg W r nb) (some r):=
 have h:=Xi (World.grownBy.refl W (some r)) 1 (.bool nb)
 ⟨h.os,h.tape,h.output,h.size,h.block⟩
theorem Sba {w:World}{m:Nat}{r BS bx:Nat}{b:List UInt8}{b0:Bool}{pre:List (Int×Bool)}{W w1:World}{x:Int×Bool}{nb:Bool}{v v':Value}{tmp:Obj}(hr:r<w.heap.size)(hmr:m<=r)(h1:w.heap.size+1<bx)(h2:bx<BS)(h:IntsG w r BS b b0 pre W)(hnb:nb=((b0||pre.any λx=> !x.2)|| !x.2))
 (hv:W.heap[w.heap.size+1]? =some (.cells #[v] 26 (0,0))) (ho:W.ownsRow BS 3 1 v pre.length (Ya (pre.map (·.1)))) (hown:w1.ownsRow BS 3 1 v' (pre.length+1) (Ya (pre.map (·.1))++[.int .i64 x.1])) (hgrow:((Fg W r nb).alloc tmp).grownBy w1 v.ownBlock):
 w1.heap[w.heap.size+1]? =some (.cells #[v] 26 (0,0))/\KeepsOthers W (w1.setCell ⟨w.heap.size+1,0,none⟩ v')/\KpL bx m W (w1.setCell ⟨w.heap.size+1,0,none⟩ v')/\IntsG w r BS b b0 (pre++[x]) (w1.setCell ⟨w.heap.size+1,0,none⟩ v'):=by
 have hsz:=h.sz;have hob:∀k,v.ownBlock=some k->BS<=k:=λk hk=>by
  rcases ho.2 with⟨rfl,_⟩ |⟨g,cap,cur,rfl,hb,_⟩
  ·simp[Value.ownBlock] at hk
  obtain rfl:g=k:=by simpa [Value.ownBlock] using hk
  exact hb
 have far1:∀k,k<BS->w1.heap[k]? =(Fg W r nb).heap[k]? :=λk hk=>by
  rw[hgrow.block k (by simp;rw[Lh];omega) (λe=>by have:=hob k e.symm;omega),Below.heap_alloc _ _ k (by rw[Lh];omega)]
 have far2:∀k,k<BS->k≠w.heap.size+1->(w1.setCell ⟨w.heap.size+1,0,none⟩ v').heap[k]? =(Fg W r nb).heap[k]? :=λk hk hne=>by
  rw[<-far1 k hk];show(w1.heap.modify _ _)[k]? =_;rw[Array.getElem?_modify,if_neg (λe=>hne e.symm)]
 have hs1:W.heap.size<=w1.heap.size:=by have:=hgrow.size;simp[Lh] at this;omega
 have hv1:w1.heap[w.heap.size+1]? =some (.cells #[v] 26 (0,0)):=(far1 _ (by omega)).trans ((Lf (by omega)).trans hv);refine⟨hv1,?_,⟨(far2 bx h2 (by omega)).trans (Lf (by omega)),by simpa using hs1,λk hk=>(far2 k (by omega) (by omega)).trans (Lf (by omega))⟩,?_⟩
 ·refine(((KeepsOthers.setCell W ⟨r,1,none⟩ (.bool nb)).trans (KeepsOthers.drew _)).trans ((KeepsOthers.alloc (Fg W r nb) tmp).trans (KeepsOthers.of_grownBy hgrow λj o ej hj=>?_))).trans (KeepsOthers.setCell _ _ _)
  rcases ho.2 with⟨rfl,_⟩ |⟨g,cap,cur,rfl,hb,hh,_⟩
  ·simp[Value.ownBlock] at ej
  obtain rfl:g=j:=by simpa [Value.ownBlock] using ej
  have hgl:=(Array.getElem?_eq_some_iff.1 hh).1;rw[Below.heap_alloc _ _ g (by rw[Lh];exact hgl),Lf (by omega),hh] at hj;cases hj;rfl
 have hb:=B9 W r nb;have hbe:(b0||(pre++[x]).any λx=> !x.2)=nb:=by rw[hnb,List.any_append,Bool.or_assoc];simp
 refine⟨by simp;omega,⟨?_,?_,?_,by have:=h.gb.size;simp;omega,λk hk hne=>?_⟩,?_,?_,v',?_,?_⟩
 ·exact hgrow.os.trans (hb.os.trans h.gb.os)
 ·exact hgrow.tape.trans (hb.tape.trans h.gb.tape)
 ·exact hgrow.output.trans (hb.output.trans h.gb.output)
 ·have hne':k≠r:=λe=>hne (by rw[e])
  exact(far2 k (by omega) (by omega)).trans ((Lf hne').trans (h.gb.block k hk hne))
 ·rw[hbe];exact(far2 r (by omega) (by omega)).trans (h.rd.set1 nb)
 ·exact(far2 _ (by omega) (by omega)).trans ((Lf (by omega)).trans h.bp)
 ·show(w1.heap.modify (w.heap.size+1) _)[w.heap.size+1]? =_
  rw[Array.getElem?_modify,if_pos rfl,hv1];rfl
 have:=Nl hown (grownBy_setCell' w1 (w.heap.size+1) v') (λk e=>by left;injection e with e;omega)
 simpa [Ya] using this
theorem Uea {w:World}{base base':Nat}{e:TypeId}{size n:Nat}{v:Value}{xs:List Value}(h:w.ownsRow base e size v n xs)(hb:base'<=base):w.ownsRow base' e size v n xs:=
 ⟨h.1,h.2.imp id (λ⟨g,cap,cur,a,hg,rest⟩=>⟨g,cap,cur,a,Nat.le_trans hb hg,rest⟩)⟩
theorem Hx (s:List UInt8)(bad:Bool)(r m:Nat)(w:World)(hs:s.length<=1000000000000)(hn:(Sp.nextP s).1.length<=100000)(h:IsRd w r s bad)(hm:RdG w m)(hmr:m<=r):
 Calls Tryz.prog 34 #[.pointer (some ⟨r,0,none⟩)] w λe w'=>∃(l:List Int) (s':List UInt8) (bad':Bool) (v:Value),e= .returned v/\w.grownBy w' (some r)/\IsRd w' r s' bad'/\Re s bad (Co.intsR s) l s' bad'/\w'.ownsRow w.heap.size 3 1 v l.length (Ya l)/\Xa l/\l.length<=100001:=by
 have hrl:=h.lt;obtain⟨W0,hW0⟩:∃W0,W0=(w.alloc (.cells #[.pointer (some ⟨r,0,none⟩)] 62)).alloc (.cells #[.slice none 0 0] 26):=⟨_,rfl⟩;have hb0:Below w.heap.size w W0:=by rw[hW0];exact(Br.alloc Lr _).alloc (by simp) _
 have hs0:W0.heap.size=w.heap.size+1+1:=by rw[hW0];simp
 have hg0:W0.heap[w.heap.size]? =some (.cells #[.pointer (some ⟨r,0,none⟩)] 62 (0,0)):=by rw[hW0];exact heap_alloc2_old _ _ _
 have hg1:W0.heap[w.heap.size+1]? =some (.cells #[.slice none 0 0] 26 (0,0)):=by rw[hW0];exact heap_alloc2_new _ _ _
 have T:=Qd (Kh s bad r W0 hs (h.below hb0));have hle:=(Sp.nextP_le s).2;have hbd:=Uha (Sp.nextP s).1;have HP:Hid (Re s bad (Co.intsR s) ((Gf (Sp.nextP s).1).map (·.1)) (Sp.nextP s).2 ((bad||(Nw.cut s).isNone)||(Gf (Sp.nextP s).1).any λx=> !x.2)):=Qd (by
  refine⟨hle,rfl,?_⟩;have hsp:=Pba (Sp.nextP s).1;unfold Co.intsR;unfold Sp.nextP at hsp⊢;cases hc:Nw.cut s with
  |none=>right;simp
  |some p=>
   rw[hc] at hsp;simp only[Option.getD_some] at hsp⊢;rcases hsp with⟨l,h1,h2⟩ |⟨h1,h2⟩
   ·rw[h1,h2]
    have e1:(l.map λx=>(x,true)).any (λx=> !x.2)=false:=by rw[List.any_eq_false];intro x hx;obtain⟨y,-,rfl⟩:=List.mem_map.1 hx;simp
    have e2:(l.map λx=>(x,true)).map (·.1)=l:=by simp[Function.comp_def]
    rw[e1,e2];cases bad<;>simp
   rw[h1,h2];cases bad<;>simp)
 have c0:W0.cell? ⟨w.heap.size,0,none⟩=some (.pointer (some ⟨r,0,none⟩)):=by simp[World.cell?,hg0]
 have HW0:=Qd hW0;have HB0:=Qd hb0;have HG0:=Qd hg0;have HG1:=Qd hg1;have HS0:=Qd hs0;have HM:=Qd hm;have HBD:=Qd hbd.1;have hel:=hbd.2;clear hW0 hb0 hg0 hg1 hs0 hm h hbd hle;generalize(Sp.nextP s).1=t at*;generalize(Sp.nextP s).2=b at*;generalize(bad||(Nw.cut s).isNone)=bb at*;obtain⟨E,hE⟩:∃E,E=Gf t:=⟨_,rfl⟩;rw[<-hE] at HP HBD hel;refine(callsIn_wide (n:=9)).1 ?_;refine callsIn_of_wp_marks Tryz.func34 rfl trivial ?_ rfl;refine wpIn_wide.2 ?_;simp only[Tryz.ntmps34,List.size_toArray,List.length_cons,List.length_nil,Nat.reduceAdd,Nat.reduceSub,Array.replicate_succ,Array.replicate_zero,List.push_toArray,List.append_toArray,List.nil_append,List.cons_append];go_upto_region 2 with fail
 rw[<-HW0.out];go_wp2_with fail
 refine T.out.mono ?_;rintro e W1 ⟨rfl,hgb1,hrd1⟩;have far1:∀k,k<W0.heap.size->k≠r->W1.heap[k]? =W0.heap[k]? :=λk hk hne=>hgb1.block k hk (λe=>hne (by injection e));have k0:=(far1 w.heap.size (by rw[HS0.out];omega) (by omega)).trans HG0.out;have k1:=(far1 (w.heap.size+1) (by rw[HS0.out];omega) (by omega)).trans HG1.out;have hgw:w.grownBy W1 (some r):=Wi (Bd r HB0.out) hgb1;have NB:=Qd (V4 t W1);have hsz1:=hgb1.size;rw[HS0.out] at hsz1;have HK0:=Qd k0;have HK1:=Qd k1;have HGW:=Qd hgw;have HRD1:=Qd hrd1;have HM1:=Qd (HM.out.gb hmr hgw);clear far1 k0 k1 hgw hrd1 hgb1 T c0;go_wp2_with fail
 refine NB.out.mono ?_;rintro e W2 ⟨rfl,hW2⟩;have hb2:Below W1.heap.size W1 W2:=by rw[hW2];exact Br.alloc Lr _
 have hs2:W2.heap.size=W1.heap.size+1:=by rw[hW2];simp
 have hbox:IsBox W2 W1.heap.size t:=by rw[hW2];exact heap_alloc_new _ _
 have hi2:IntsG w r W2.heap.size b bb [] W2:=⟨Lr,Wi HGW.out ⟨hb2.os,hb2.tape,hb2.output,hb2.size,λk hk _=>hb2.block k hk⟩,by simpa using HRD1.out.below hb2,(hb2.block _ (by omega)).trans HK0.out,_,(hb2.block _ (by omega)).trans HK1.out,World.ownsRow_nil _ _ _ _⟩;have HM2:=Qd (HM1.out.below hb2);clear hW2 hb2 NB;go_wp2_with fail
 generalize hbx:W1.heap.size=bx at*;have hmb:m<=bx:=by have:=HM1.out.le;omega
 have hmw:=HM.out.le;have hng:=Vha 8 (by decide) t bx m W2 hbox hn HM2.out hmb;rw[<-hE] at hng;refine(wpIn_wide (n:=9)).1 ?_;refine Ida (α:=Int×Bool) (by decide) (gf:=90) (lb:= #[.pointer (some ⟨bx,0,none⟩)]) rfl (enters_of Tryz.func90 (by kernel_rfl) rfl)
  (encs:=Rba) hng (λh k=>⟨k.1.trans h.1,Nat.le_trans h.2.1 k.2.1,λj hj=>(k.2.2 j hj).trans (h.2.2 j hj)⟩) (λW l' o' hl'=>⟨World.putObj_heap_other (by omega),by simp,λj hj=>World.putObj_heap_other (by omega)⟩) Br (λ_=>rfl) (by omega)
  (IntsG w r W2.heap.size b bb) (IntsG.bears hrl bx (by omega) (by omega)) hi2
  (λx=>{tmps:= #[.pointer (some ⟨r,0,none⟩),.pointer (some ⟨w.heap.size,0,none⟩),.slice none 0 0,.pointer (some ⟨w.heap.size+1,0,none⟩),.int .i64 x.1,.bool x.2,.pointer (some ⟨r,0,none⟩),.string ⟨t.toArray⟩,.func (.func 90) #[] #[.pointer (some ⟨bx,0,none⟩)],.int .i64 x.1,.bool x.2,undef,undef,undef,undef,undef,undef,undef,undef,undef,undef,undef,undef,undef,undef,undef,undef],defers:=[]}) ?assign ?body ?done
 case assign=>
  intro lp x W K hK;unfold Rba
  gi_wp2
  exact hK
 case body=>
  rintro lp pre ⟨x,ok⟩ W ⟨hsz,hgb,hrd,hbp,v,hv,ho⟩ hlen;have HS2:=Qd hs2;have hbw:w.heap.size+1<bx:=by omega
  have hbB:bx<W2.heap.size:=by omega
  clear hs2 hi2 hng hE HP HBD;have c0:W.cell? ⟨w.heap.size,0,none⟩=some (.pointer (some ⟨r,0,none⟩)):=by simp[World.cell?,hbp]
  have c1:W.cell? ⟨w.heap.size+1,0,none⟩=some v:=by simp[World.cell?,hv]
  have f1:W.frozen? ⟨w.heap.size+1,0,none⟩=false:=by simp[World.frozen?,hv]
  have r1:=hrd.cell1;have g1:=hrd.frozen 1;have hmix:Tryz.prog.follows .mixedOrders=true:=by kernel_rfl
  obtain⟨nb,hnb⟩:∃nb:Bool,nb=((bb||pre.any λx=> !x.2)|| !ok):=⟨_,rfl⟩;have hkB:(Fg W r nb).cell? ⟨w.heap.size+1,0,none⟩=some v:=by have e:(Fg W r nb).heap[w.heap.size+1]? =_:=(Lf (by omega)).trans hv;simp[World.cell?,e]
  have hoB:(Fg W r nb).ownsRow W2.heap.size 3 1 v pre.length (Ya (pre.map (·.1))):=Nl ho (B9 W r nb) (λk e=>by left;injection e with e;omega);have hbsz:W2.heap.size<=(Fg W r nb).heap.size:=by rw[Lh];exact hsz
  have hst:∀(w3:World) (v':Value),w3.ownsRow W2.heap.size 3 1 v' (pre.length+1) (Ya (pre.map (·.1))++[.int .i64 x])->((Fg W r nb).alloc (.cells #[.int .i64 x] 3)).grownBy w3 v.ownBlock->
   w3.heap[w.heap.size+1]? =some (.cells #[v] 26 (0,0))/\KeepsOthers W (w3.setCell ⟨w.heap.size+1,0,none⟩ v')/\KpL bx m W (w3.setCell ⟨w.heap.size+1,0,none⟩ v')/\IntsG w r W2.heap.size b bb (pre++[(x,ok)]) (w3.setCell ⟨w.heap.size+1,0,none⟩ v'):=λw3 v' h1 h2=>Sba (x:=(x,ok)) (b0:=bb) hrl hmr hbw hbB (IntsG.mk hsz hgb hrd hbp ⟨v,hv,ho⟩) hnb hv ho h1 h2
  have HST:=Qd hst;clear hst;obtain⟨i0,hi,hz0,hz1,hz2⟩:=info_parts Jt;have hpl:pre.length<=200000:=by omega
  clear hgb hbp hrd ho hv;generalize(bb||pre.any λx=> !x.2)=fl at*
  gi_wp2
  cases fl<;>cases ok
  all_goals
   simp at hnb;subst hnb
   gi_region_with_o (fail)
  all_goals
   (first|change Exit.then _ _ _ _ (Fg W r true) |change Exit.then _ _ _ _ (Fg W r false))
   gi_wp2_with (gi_at_builtin;refine wpListIn_append_own _ rfl _ _ 26 rfl W2.heap.size 3 i0 (.int .i64 0) 1 8 Tryz.underlying26 hi hz0 hz1 hz2 rfl (by decide) _ _ _ rfl (hoB.alloc _) ⟨_,0,none⟩ 1 1 [.int .i64 x] rfl rfl (cell_one_new _ _ _) (by simp[Value.oneCell']) (by unfold maxLen;omega) (by omega) (by rw[World.size_alloc];omega) ?_;intro v' w3 hown' hg3 hnil3;obtain⟨hv3,hko,hkb,hat⟩:=HST.out _ _ hown' hg3;obtain⟨A',c',rfl,_,_⟩:=Na hown';have c3:w3.cell? ⟨w.heap.size+1,0,none⟩=some v:=(by simp[World.cell?,hv3]);have f3:w3.frozen? ⟨w.heap.size+1,0,none⟩=false:=(by simp[World.frozen?,hv3]);clear hown' hg3 hnil3 hv3 hkB hoB)
   exact⟨hko,hkb,hat⟩
 case done=>
  rintro D W hD ⟨hsz,hgb,hrd,hbp,v,hv,ho⟩ hK;obtain⟨A',c',rfl,_,_⟩:=Na ho;have c1:W.cell? ⟨w.heap.size+1,0,none⟩=some (.slice A' E.length c'):=by simp[World.cell?,hv]
  have HS2:=Qd hs2;clear hs2
  gi_wp2
  go_wp2_with fail
  refine⟨by simp,.inl ⟨_,_,rfl,run_takeDeferred hK,?_⟩⟩;have hgD:=grownBy_putObj' W D (.deferred none);have hDn:∀k,k<W2.heap.size->some k≠some D:=λk hk e=>by injection e with e;omega
  have hs2':=HS2.out;refine⟨_,results_tmp rfl _ _ _,E.map (·.1),b,_,_,rfl,⟨hgb.os,hgb.tape,hgb.output,Nat.le_trans hgb.size hgD.size,λk hk hne=>(hgD.block k (Nat.lt_of_lt_of_le hk hgb.size) (hDn k (by omega))).trans (hgb.block k hk hne)⟩,(hgD.block r hrd.lt (hDn r (by omega))).trans hrd,HP.out,?_,HBD.out,by rw[List.length_map];omega⟩;have hbb:w.heap.size<=W2.heap.size:=by omega
  have hof:=Nl ho hgD (λk e=> .inr (by injection e with e;subst e;exact⟨_,hK,rfl⟩));rw[List.length_map];have hz:=Uea hof hbb;subst hE;exact hz
end
section
open Go.RowKit Ar
structure CfP (W:World) (n:Nat) (c:Wb) (C:Array Value):Prop where
 size:C.size=36
 clear:∀k,k<8->C[k]? =some (.int .u64 (c.clear k:Int))/\c.clear k<18446744073709551616
 ins:∀k,k<8->∃A cp us,C[8+k]? =some (.slice A (c.ins k).length cp)/\Fits (c.ins k).length cp 56/\LiesP W (PR n W) A us/\IsArrsP W (PR n W) (c.ins k) us
 label:∀k,k<8->C[16+k]? =some (.int .u64 (c.label k:Int))/\c.label k<18446744073709551616
 draws:∀k,k<8->∃A cp,C[24+k]? =some (.slice A (c.draws k).length cp)/\Fits (c.draws k).length cp 8/\Xa (c.draws k)/\LiesP W (PR n W) A (Ya (c.draws k))
 auth:C[32]? =some (.int .u64 (c.auth:Int))
 authLt:c.auth<18446744073709551616
 fuel:C[33]? =some (.int .i64 c.fuel)
 quota:C[34]? =some (.int .i64 c.quota)
 depth:C[35]? =some (.int .i64 c.depth)
 wf:Xa [c.fuel,c.quota,c.depth]
section
variable {W W' : World} {n : Nat} {c c' : Wb} {C : Array Value}
theorem CfP.is (h:CfP W n c C):IsCfg W W.heap.size c C:=
 { size:=h.size,clear:=h.clear,label:=h.label,auth:=h.auth,authLt:=h.authLt,fuel:=h.fuel,quota:=h.quota,depth:=h.depth,wf:=h.wf
   ins:=λk hk=>by
    obtain⟨A,cp,us,h1,h2,h3,h4⟩:=h.ins k hk;exact⟨A,cp,us,h1,h2,h3.lies (λb hb=>hb.1),IsArrsP.is (λb hb=>hb.1) _ _ h4⟩
   draws:=λk hk=>by
    obtain⟨A,cp,h1,h2,h3,h4⟩:=h.draws k hk;exact⟨A,cp,h1,h2,h3,h4.lies (λb hb=>hb.1)⟩}
theorem CfP.step (h:CfP W n c C)(hs:W.heap.size<=W'.heap.size)(hk:∀b,PR n W b->W'.heap[b]? =W.heap[b]?):CfP W' n c C:=
 { h with
   ins:=λk hk8=>by
    obtain⟨A,cp,us,h1,h2,h3,h4⟩:=h.ins k hk8;exact⟨A,cp,us,h1,h2,h3.keep (λp hp=>World.cell?_of_block (hk _ hp)) (λb hb=>hb.same hs (hk b hb)),IsArrsP.keep (λp hp=>World.cell?_of_block (hk _ hp)) (λb hb=>hb.same hs (hk b hb)) _ _ h4⟩
   draws:=λk hk8=>by
    obtain⟨A,cp,h1,h2,h3,h4⟩:=h.draws k hk8;exact⟨A,cp,h1,h2,h3,h4.keep (λp hp=>World.cell?_of_block (hk _ hp)) (λb hb=>hb.same hs (hk b hb))⟩}
theorem CfP.congr (h:CfP W n c C)(h1:∀k,k<8->c'.clear k=c.clear k)(h2:∀k,k<8->c'.ins k=c.ins k)(h3:∀k,k<8->c'.label k=c.label k)(h4:∀k,k<8->c'.draws k=c.draws k)(h5:c'.auth=c.auth)(h6:c'.fuel=c.fuel)(h7:c'.quota=c.quota)(h8:c'.depth=c.depth):CfP W n c' C:=
 { size:=h.size
   clear:=λk hk=>by rw[h1 k hk];exact h.clear k hk
   ins:=λk hk=>by rw[h2 k hk];exact h.ins k hk
   label:=λk hk=>by rw[h3 k hk];exact h.label k hk
   draws:=λk hk=>by rw[h4 k hk];exact h.draws k hk
   auth:=by rw[h5];exact h.auth
   authLt:=by rw[h5];exact h.authLt
   fuel:=by rw[h6];exact h.fuel
   quota:=by rw[h7];exact h.quota
   depth:=by rw[h8];exact h.depth
   wf:=by rw[h6,h7,h8];exact h.wf}
theorem CfP.mem (h:CfP W n c C){u:Value}(hu:u∈C):(∃m,u= .int .u64 m)\/(∃m,u= .int .i64 m)\/∃A l cp,u= .slice A l cp:=by
 obtain⟨i,hi,he⟩:=Array.getElem_of_mem hu;have hs:=h.size;have hg:C[i]? =some u:=by rw[Array.getElem?_eq_getElem hi,he]
 have key:∀v,C[i]? =some v->u=v:=λv hv=>by rw[hg] at hv;exact Option.some.inj hv
 rcases(show i<8\/(8<=i/\i<16)\/(16<=i/\i<24)\/(24<=i/\i<32)\/i=32\/i=33\/i=34\/i=35 by omega) with h1 |h1 |h1 |h1 |rfl |rfl |rfl |rfl
 ·exact .inl ⟨_,key _ (h.clear i h1).1⟩
 ·obtain⟨A,cp,us,h2,-⟩:=h.ins (i-8) (by omega)
  rw[show 8+(i-8)=i by omega] at h2;exact .inr (.inr ⟨_,_,_,key _ h2⟩)
 ·have h2:=(h.label (i-16) (by omega)).1
  rw[show 16+(i-16)=i by omega] at h2;exact .inl ⟨_,key _ h2⟩
 ·obtain⟨A,cp,h2,-⟩:=h.draws (i-24) (by omega)
  rw[show 24+(i-24)=i by omega] at h2;exact .inr (.inr ⟨_,_,_,key _ h2⟩)
 ·exact .inl ⟨_,key _ h.auth⟩
 ·exact .inr (.inl ⟨_,key _ h.fuel⟩)
 ·exact .inr (.inl ⟨_,key _ h.quota⟩)
 exact .inr (.inl ⟨_,key _ h.depth⟩)
theorem CfP.noL (h:CfP W n c C):∀u∈C,Ic u:=by
 intro u hu m e;rcases h.mem hu with⟨k,rfl⟩ |⟨k,rfl⟩ |⟨A,l,cp,rfl⟩<;>cases e
theorem CfP.one (h:CfP W n c C):C.all (·.oneCell')=true:=by
 rw[Array.all_eq_true_iff_forall_mem];intro u hu;rcases h.mem hu with⟨k,rfl⟩ |⟨k,rfl⟩ |⟨A,l,cp,rfl⟩<;>rfl
theorem Vla (C:Array Value)(i j:Nat)(v:Value):(C.setIfInBounds i v)[j]? =if i=j then(if i<C.size then some v else none) else C[j]? :=by
 rw[Array.getElem?_setIfInBounds]
theorem Oc {C:Array Value}{i j:Nat}{v:Value}(h:i≠j):(C.setIfInBounds i v)[j]? =C[j]? :=by rw[Vla,if_neg h]
theorem Sf {C:Array Value}{i:Nat}{v:Value}(h:i<C.size):(C.setIfInBounds i v)[i]? =some v:=by rw[Vla,if_pos rfl,if_pos h]
theorem CfP.setClear (h:CfP W n c C){i:Nat}(hi:i<8){v:Nat}(hv:v<18446744073709551616):CfP W n {c with clear:=λk=>if k=i then v else c.clear k} (C.setIfInBounds i (.int .u64 (v:Int))):=by
 have hs:=h.size;have hf:∀{j:Nat},8<=j->(C.setIfInBounds i (.int .u64 (v:Int)))[j]? =C[j]? :=λhj=>Oc (by omega);refine⟨by simp[hs],λk hk=>?_,λk hk=>?_,λk hk=>?_,λk hk=>?_,?_,h.authLt,?_,?_,?_,h.wf⟩
 ·by_cases e:k=i
  ·subst e;simp only[if_pos];exact⟨Sf (by omega),hv⟩
  simp only[if_neg e];rw[Oc (λx=>e x.symm)];exact h.clear k hk
 ·rw[hf (by omega)];exact h.ins k hk
 ·rw[hf (by omega)];exact h.label k hk
 ·rw[hf (by omega)];exact h.draws k hk
 ·rw[hf (by omega)];exact h.auth
 ·rw[hf (by omega)];exact h.fuel
 ·rw[hf (by omega)];exact h.quota
 rw[hf (by omega)];exact h.depth
theorem CfP.setLabel (h:CfP W n c C){i:Nat}(hi:i<8){v:Nat}(hv:v<18446744073709551616):CfP W n {c with label:=λk=>if k=i then v else c.label k} (C.setIfInBounds (16+i) (.int .u64 (v:Int))):=by
 have hs:=h.size;have hf:∀{j:Nat},j<16\/24<=j->(C.setIfInBounds (16+i) (.int .u64 (v:Int)))[j]? =C[j]? :=λhj=>Oc (by omega);refine⟨by simp[hs],λk hk=>?_,λk hk=>?_,λk hk=>?_,λk hk=>?_,?_,h.authLt,?_,?_,?_,h.wf⟩
 ·rw[hf (by omega)];exact h.clear k hk
 ·rw[hf (by omega)];exact h.ins k hk
 ·by_cases e:k=i
  ·subst e;simp only[if_pos];exact⟨Sf (by omega),hv⟩
  simp only[if_neg e];rw[Oc (by omega)];exact h.label k hk
 ·rw[hf (by omega)];exact h.draws k hk
 ·rw[hf (by omega)];exact h.auth
 ·rw[hf (by omega)];exact h.fuel
 ·rw[hf (by omega)];exact h.quota
 rw[hf (by omega)];exact h.depth
theorem CfP.setIns (h:CfP W n c C){i:Nat}(hi:i<8){l:List Ba}{A:Option Addr}{cp:Nat}{us:List Value}(h1:Fits l.length cp 56)(h2:LiesP W (PR n W) A us)(h3:IsArrsP W (PR n W) l us):CfP W n {c with ins:=λk=>if k=i then l else c.ins k} (C.setIfInBounds (8+i) (.slice A l.length cp)):=by
 have hs:=h.size;have hf:∀{j:Nat},j<8\/16<=j->(C.setIfInBounds (8+i) (.slice A l.length cp))[j]? =C[j]? :=λhj=>Oc (by omega);refine⟨by simp[hs],λk hk=>?_,λk hk=>?_,λk hk=>?_,λk hk=>?_,?_,h.authLt,?_,?_,?_,h.wf⟩
 ·rw[hf (by omega)];exact h.clear k hk
 ·by_cases e:k=i
  ·subst e;simp only[if_pos];exact⟨A,cp,us,Sf (by omega),h1,h2,h3⟩
  simp only[if_neg e];rw[Oc (by omega)];exact h.ins k hk
 ·rw[hf (by omega)];exact h.label k hk
 ·rw[hf (by omega)];exact h.draws k hk
 ·rw[hf (by omega)];exact h.auth
 ·rw[hf (by omega)];exact h.fuel
 ·rw[hf (by omega)];exact h.quota
 rw[hf (by omega)];exact h.depth
theorem CfP.setDraws (h:CfP W n c C){i:Nat}(hi:i<8){l:List Int}{A:Option Addr}{cp:Nat}(h1:Fits l.length cp 8)(h2:Xa l)(h3:LiesP W (PR n W) A (Ya l)):CfP W n {c with draws:=λk=>if k=i then l else c.draws k} (C.setIfInBounds (24+i) (.slice A l.length cp)):=by
 have hs:=h.size;have hf:∀{j:Nat},j<24\/32<=j->(C.setIfInBounds (24+i) (.slice A l.length cp))[j]? =C[j]? :=λhj=>Oc (by omega);refine⟨by simp[hs],λk hk=>?_,λk hk=>?_,λk hk=>?_,λk hk=>?_,?_,h.authLt,?_,?_,?_,h.wf⟩
 ·rw[hf (by omega)];exact h.clear k hk
 ·rw[hf (by omega)];exact h.ins k hk
 ·rw[hf (by omega)];exact h.label k hk
 ·by_cases e:k=i
  ·subst e;simp only[if_pos];exact⟨A,cp,Sf (by omega),h1,h2,h3⟩
  simp only[if_neg e];rw[Oc (by omega)];exact h.draws k hk
 ·rw[hf (by omega)];exact h.auth
 ·rw[hf (by omega)];exact h.fuel
 ·rw[hf (by omega)];exact h.quota
 rw[hf (by omega)];exact h.depth
theorem CfP.setAuth (h:CfP W n c C){v:Nat}(hv:v<18446744073709551616):CfP W n {c with auth:=v} (C.setIfInBounds 32 (.int .u64 (v:Int))):=by
 have hs:=h.size;have hf:∀{j:Nat},j≠32->(C.setIfInBounds 32 (.int .u64 (v:Int)))[j]? =C[j]? :=λhj=>Oc (λe=>hj e.symm);refine⟨by simp[hs],λk hk=>?_,λk hk=>?_,λk hk=>?_,λk hk=>?_,Sf (by omega),hv,?_,?_,?_,h.wf⟩
 ·rw[hf (by omega)];exact h.clear k hk
 ·rw[hf (by omega)];exact h.ins k hk
 ·rw[hf (by omega)];exact h.label k hk
 ·rw[hf (by omega)];exact h.draws k hk
 ·rw[hf (by omega)];exact h.fuel
 ·rw[hf (by omega)];exact h.quota
 rw[hf (by omega)];exact h.depth
theorem CfP.setNums (h:CfP W n c C){f q d:Int}(hw:Xa [f,q,d]):CfP W n {c with fuel:=f,quota:=q,depth:=d} (((C.setIfInBounds 33 (.int .i64 f)).setIfInBounds 34 (.int .i64 q)).setIfInBounds 35 (.int .i64 d)):=by
 have hs:=h.size;have hf:∀{j:Nat},j<33->(((C.setIfInBounds 33 (.int .i64 f)).setIfInBounds 34 (.int .i64 q)).setIfInBounds 35 (.int .i64 d))[j]? =C[j]? :=λhj=>by rw[Oc (by omega),Oc (by omega),Oc (by omega)]
 refine⟨by simp[hs],λk hk=>?_,λk hk=>?_,λk hk=>?_,λk hk=>?_,?_,h.authLt,?_,?_,Sf (by simp[hs]),hw⟩
 ·rw[hf (by omega)];exact h.clear k hk
 ·rw[hf (by omega)];exact h.ins k hk
 ·rw[hf (by omega)];exact h.label k hk
 ·rw[hf (by omega)];exact h.draws k hk
 ·rw[hf (by omega)];exact h.auth
 ·rw[Oc (by omega),Oc (by omega)];exact Sf (by omega)
 rw[Oc (by omega)];exact Sf (by simp[hs])
end
theorem CfP.more {W:World}{n:Nat}{f q d:Int}{a:Nat}{L:List Co.Ch}{k:Nat}{C:Array Value}{cl lb:Nat}{ins:List Ba}{dr:List Int}(hk:L.length=k)
 (h:CfP W n {(Fa ⟨f,q,d,a,L⟩) with clear:=λj=>if j=k then cl else(Fa ⟨f,q,d,a,L⟩).clear j,ins:=λj=>if j=k then ins else(Fa ⟨f,q,d,a,L⟩).ins j,label:=λj=>if j=k then lb else(Fa ⟨f,q,d,a,L⟩).label j,draws:=λj=>if j=k then dr else(Fa ⟨f,q,d,a,L⟩).draws j} C):
 CfP W n (Fa ⟨f,q,d,a,L++[⟨cl,ins,lb,dr⟩]⟩) C:=by
 have key:∀j,(L++[(⟨cl,ins,lb,dr⟩:Co.Ch)])[j]? =if j=k then some ⟨cl,ins,lb,dr⟩ else L[j]? :=λj=>by
  rcases Nat.lt_trichotomy j k with h |h |h
  ·rw[List.getElem?_append_left (by omega),if_neg (by omega)]
  ·rw[if_pos h,List.getElem?_append_right (by omega),h,hk,Nat.sub_self];rfl
  rw[List.getElem?_append_right (by omega),if_neg (by omega),List.getElem?_eq_none (by simp;omega),List.getElem?_eq_none (by omega)]
 refine h.congr (λj _=>?_) (λj _=>?_) (λj _=>?_) (λj _=>?_) rfl rfl rfl rfl;all_goals
  unfold Fa;dsimp only;rw[key]
  split<;>rfl
theorem Ge (W:World)(n:Nat):CfP W n (Fa ⟨0,0,0,0,[]⟩) zC:=
 { size:=rfl
   clear:=λk hk=>⟨(Aba k hk).1,by show(0:Nat)<_;omega⟩
   ins:=λk hk=>⟨none,0,[],(Aba k hk).2.1,⟨Lr,by simp[Fa],by omega⟩,.inl rfl,by show IsArrsP W _ [] [];rw[IsArrsP]⟩
   label:=λk hk=>⟨(Aba k hk).2.2.1,by show(0:Nat)<_;omega⟩
   draws:=λk hk=>⟨none,0,(Aba k hk).2.2.2,⟨Lr,by simp[Fa],by omega⟩,(λn h=>by cases h),.inl rfl⟩
   auth:=rfl
   authLt:=by show(0:Nat)<_;omega
   fuel:=rfl
   quota:=rfl
   depth:=rfl
   wf:=λn h=>by
    have:n=0:=by simpa [Fa] using h
    subst this;omega}
structure PsC (w:World) (s:List UInt8) (bad:Bool) (C:Array Value) (W:World):Prop where
 bel:Below w.heap.size w W
 res:W.heap[w.heap.size]? =some (.cells zC 29 (0,0))
 cfg:W.heap[w.heap.size+1]? =some (.cells C 29 (0,0))
 rd:IsRd W (w.heap.size+1+1) s bad
section
variable {w W W' : World} {s t : List UInt8} {bad b' : Bool} {C : Array Value}
theorem PsC.next (h:PsC w s bad C W)(hg:W.grownBy W' (some (w.heap.size+1+1)))(hr:IsRd W' (w.heap.size+1+1) t b'):PsC w t b' C W':=by
 have hl:=h.rd.lt;exact⟨h.bel.grown hg (by omega) (λk e=>by cases e;omega),(hg.block _ (by omega) (λe=>by injection e with e;omega)).trans h.res,(hg.block _ (by omega) (λe=>by injection e with e;omega)).trans h.cfg,hr⟩
theorem PsC.below (h:PsC w s bad C W)(hb:Below W.heap.size W W'):PsC w s bad C W':=h.next (Bd _ hb) (h.rd.below hb)
theorem PsC.set (h:PsC w s bad C W)(i:Nat)(v:Value):PsC w s bad (C.setIfInBounds i v) (W.setCell ⟨w.heap.size+1,i,none⟩ v):=by
 have hk:∀b,b≠w.heap.size+1->(W.setCell ⟨w.heap.size+1,i,none⟩ v).heap[b]? =W.heap[b]? :=λb hb=>Below.heap_setCell _ _ _ _ hb;refine⟨h.bel.setCell (p:=⟨w.heap.size+1,i,none⟩) (by show w.heap.size<=w.heap.size+1;omega) _,(hk _ (by omega)).trans h.res,?_,(hk _ (by omega)).trans h.rd⟩;show(W.heap.modify (w.heap.size+1) _)[w.heap.size+1]? =_;rw[Array.getElem?_modify,if_pos rfl,h.cfg];rfl
theorem PsC.cell (h:PsC w s bad C W){i:Nat}{v:Value}(hv:C[i]? =some v):W.cell? ⟨w.heap.size+1,i,none⟩=some v:=(cell_of_row W _ i _ _ _ h.cfg).trans hv
theorem PsC.frozen (h:PsC w s bad C W)(i:Nat):W.frozen? ⟨w.heap.size+1,i,none⟩=false:=by have:=h.cfg;simp[World.frozen?,this]
theorem CfP.set {c:Wb}{C0:Array Value}(h:CfP W (w.heap.size+3) c C0)(hp:PsC w s bad C W)(h0:∀u∈C,Ic u)(i:Nat)(v:Value):CfP (W.setCell ⟨w.heap.size+1,i,none⟩ v) (w.heap.size+3) c C0:=by
 have hnu:¬HasU W (w.heap.size+1):=Fd hp.cfg h0;refine h.step (by simp) λb hb=>Below.heap_setCell _ _ _ _ (show b≠w.heap.size+1 from λe=>?_);subst e;rcases hb.2 with h1 |h1
 ·omega
 exact hnu h1
theorem CfP.res {c:Wb}(h:CfP W (w.heap.size+3) c C)(hp:PsC w s bad C W)(cs:Array Value):CfP (W.setRow w.heap.size cs) (w.heap.size+3) c C:=by
 have hnu:¬HasU W w.heap.size:=Fd hp.res (Ge W 0).noL;refine h.step (by rw[size_setRow];exact Lr) λb hb=>?_;have hne:w.heap.size≠b:=λe=>by
  subst e;rcases hb.2 with h1 |h1
  ·omega
  exact hnu h1
 simp only[World.setRow,Array.getElem?_modify];rw[if_neg hne]
theorem PsC.done (h:PsC w s bad C W)(cs:Array Value):(W.setRow w.heap.size cs).heap[w.heap.size]? =some (.cells cs 29 (0,0)):=by
 simp only[World.setRow,Array.getElem?_modify,if_true];rw[h.res];rfl
theorem Vea {B:Nat}{a w:World}(h:Below B a w){g:Nat}(hg:B<=g)(cs:Array Value):Below B a (w.setRow g cs):=
 ⟨h.os,h.tape,h.output,by rw[size_setRow];exact h.size,λk hk=>by
  have e:(w.setRow g cs).heap[k]? =w.heap[k]? :=by
   simp only[World.setRow,Array.getElem?_modify];rw[if_neg (by omega)]
  rw[e];exact h.block k hk⟩
theorem PsC.rdw (h:PsC w s bad C W)(hw:RdW w){wx:World}(hg:W.grownBy wx (some (w.heap.size+1+1))):RdW wx:=by
 have hl:=h.rd.lt;exact hw.below (h.bel.grown hg (by omega) (λk e=>by cases e;omega))
theorem CfP.next {c:Wb}(h:CfP W (w.heap.size+3) c C)(hp:PsC w s bad C W)(hg:W.grownBy W' (some (w.heap.size+1+1))):CfP W' (w.heap.size+3) c C:=by
 refine h.step hg.size λb hb=>hg.block b hb.1 (λe=>?_);injection e with e
 subst e;rcases hb.2 with h1 |h1
 ·omega
 exact Xt hp.rd h1
end
theorem Bka (w:World)(s:List UInt8):PsC w s false zC (((w.alloc (.cells zC 29)).alloc (.cells zC 29)).alloc (.cells #[.string ⟨s.toArray⟩,.bool false] 64)):=by
 refine⟨((Br.alloc Lr _).alloc (by simp) _).alloc (by simp<;>omega) _,?_,?_,?_⟩
 ·rw[heap_alloc_old _ _ (by simp<;>omega),heap_alloc2_old]
 ·rw[heap_alloc_old _ _ (by simp),heap_alloc2_new]
 unfold IsRd;have:=heap_alloc_new ((w.alloc (.cells zC 29)).alloc (.cells zC 29)) (.cells #[.string ⟨s.toArray⟩,.bool false] 64)
 simpa [sv] using this
end
section
open Go.RowKit Ar
def Sy (s:List UInt8):List UInt8:=(Sp.nextP (Sp.nextP (Sp.nextP (Sp.nextP s).2).2).2).2
structure Wla (s:List UInt8):Prop where
 a:(Sp.nextP s).1.length<=1000000
 b:Th (Sp.nextP (Sp.nextP s).2).1.length (Sp.nextP (Sp.nextP s).2).1
 c:(Sp.nextP (Sp.nextP (Sp.nextP s).2).2).1.length<=1000000
 d:(Sp.nextP (Sp.nextP (Sp.nextP (Sp.nextP s).2).2).2).1.length<=100000
def Ol:Nat->List UInt8->Prop
 | 0,_=>True
 |n+1,s=>Wla s/\Ol n (Sy s)
structure Tba (s:List UInt8):Prop where
 b:(Sp.nextP (Sp.nextP s).2).1.length<=100000
 a:(Sp.nextP (Sp.nextP (Sp.nextP s).2).2).1.length<=1000000
 ch:Ol 8 (Sp.nextP (Sp.nextP (Sp.nextP s).2).2).2
theorem Xb {s:List UInt8}(h:s.length<=4000):(Sp.nextP s).1.length<=4000/\(Sp.nextP s).2.length<=4000:=by have:=Sp.nextP_le s;omega
theorem Uba {s:List UInt8}(h:s.length<=4000):Wla s:=by
 have h1:=Xb h;have h2:=Xb h1.2;have h3:=Xb h2.2;have h4:=Xb h3.2;exact⟨by omega,Wt _ _ h2.1,by omega,by omega⟩
theorem Hq:∀(n:Nat) {s:List UInt8},s.length<=4000->Ol n s
 | 0,_,_=>trivial
 |n+1,s,h=>⟨Uba h,Hq n (Xb (Xb (Xb (Xb h).2).2).2).2⟩
theorem S7 {s:List UInt8}(h:s.length<=4000):Tba s:=by
 have h1:=Xb h;have h2:=Xb h1.2;have h3:=Xb h2.2;exact⟨by omega,by omega,Hq 8 h3.2⟩
theorem Au:∀{l:List Co.Ch},(∀c∈l,Vo c)->Ol l.length (Co.chsT l)
 | [],_=>trivial
 |c::r,h=>by
  have hc:=h c (by simp);have e:Co.chsT (c::r)=Nw.net (Lab.text c.clear)++(Nw.net (Co.arrsT c.ins)++(Nw.net (Lab.text c.label)++(Nw.net (Ga c.draws)++Co.chsT r))):=by
   show Co.chT c++Co.chsT r=_;unfold Co.chT;simp[List.append_assoc]
  have h1:=Lab.text_len hc.wf.clear;have h2:=Lab.text_len hc.wf.label;have h3:=Fc hc.wf.draws;have h4:=hc.draws;have ih:=Au (λx hx=>h x (List.mem_cons_of_mem c hx));rw[List.length_cons,Ol,e];refine⟨⟨?_,?_,?_,?_⟩,?_⟩
  ·rw[Sp.nextP_net];dsimp only;omega
  ·rw[Sp.nextP_net,Sp.nextP_net]
   exact Dx _ _ (λa ha=>⟨hc.wf.ins a ha,List.all_eq_true.1 hc.right a ha,hc.arr a ha⟩)
  ·rw[Sp.nextP_net,Sp.nextP_net,Sp.nextP_net];dsimp only;omega
  ·rw[Sp.nextP_net,Sp.nextP_net,Sp.nextP_net,Sp.nextP_net];dsimp only;omega
  unfold Sy;rw[Sp.nextP_net,Sp.nextP_net,Sp.nextP_net,Sp.nextP_net];exact ih
theorem Bu {x:Co.Con}(h:Yj x):Tba (Co.conT x):=by
 have e:Co.conT x=Nw.net Co.head14++(Nw.net (Ga [x.fuel,x.quota,x.depth])++(Nw.net (Lab.text x.auth)++Co.chsT x.ch)):=by
  unfold Co.conT Co.conH;simp[List.append_assoc]
 have h1:=Lab.text_len h.wf.auth;have h2:=Fc h.wf.nums;simp only[List.length_cons,List.length_nil] at h2;have h3:=Au h.ch;rw[h.wf.len] at h3;rw[e];refine⟨?_,?_,?_⟩
 ·rw[Sp.nextP_net,Sp.nextP_net];dsimp only;omega
 ·rw[Sp.nextP_net,Sp.nextP_net,Sp.nextP_net];dsimp only;omega
 rw[Sp.nextP_net,Sp.nextP_net,Sp.nextP_net];exact h3
theorem Cka {t t1 t2 t3 t4:List UInt8}{b b1 b2 b3 b4:Bool}{cl lb:Nat}{ins:List Ba}{dr:List Int}(h1:Re t b (Co.tagsR t) cl t1 b1)(h2:Re t1 b1 (Co.insR t1) ins t2 b2)(h3:Re t2 b2 (Co.tagsR t2) lb t3 b3)(h4:Re t3 b3 (Co.intsR t3) dr t4 b4):
 t4=Sy t/\t4.length<=t.length/\((b4=false/\b=false/\Co.chR t=some (⟨cl,ins,lb,dr⟩,t4))\/(b4=true/\(b=true\/Co.chR t=none))):=by
 refine⟨by unfold Sy;rw[h4.at_,h3.at_,h2.at_,h1.at_],by have:=h1.len;have:=h2.len;have:=h3.len;have:=h4.len;omega,?_⟩;unfold Co.chR;rcases h1.r with⟨e1,e0,r1⟩ |⟨e1,r1⟩
 ·rw[r1,Option.bind_some]
  dsimp only;rcases h2.r with⟨e2,-,r2⟩ |⟨e2,r2⟩
  ·rw[r2,Option.bind_some]
   dsimp only;rcases h3.r with⟨e3,-,r3⟩ |⟨e3,r3⟩
   ·rw[r3,Option.bind_some]
    dsimp only;rcases h4.r with⟨e4,-,r4⟩ |⟨e4,r4⟩
    ·rw[r4];exact .inl ⟨e4,e0,rfl⟩
    rcases r4 with r4 |r4
    ·rw[e3] at r4;cases r4
    rw[r4];exact .inr ⟨e4,.inr rfl⟩
   have e4:b4=true:=by
    rcases h4.r with⟨-,e,-⟩ |⟨e,-⟩
    ·rw[e3] at e;cases e
    exact e
   rcases r3 with r3 |r3
   ·rw[e2] at r3;cases r3
   rw[r3];exact .inr ⟨e4,.inr rfl⟩
  have e3:b3=true:=by
   rcases h3.r with⟨-,e,-⟩ |⟨e,-⟩
   ·rw[e2] at e;cases e
   exact e
  have e4:b4=true:=by
   rcases h4.r with⟨-,e,-⟩ |⟨e,-⟩
   ·rw[e3] at e;cases e
   exact e
  rcases r2 with r2 |r2
  ·rw[e1] at r2;cases r2
  rw[r2];exact .inr ⟨e4,.inr rfl⟩
 have e2:b2=true:=by
  rcases h2.r with⟨-,e,-⟩ |⟨e,-⟩
  ·rw[e1] at e;cases e
  exact e
 have e3:b3=true:=by
  rcases h3.r with⟨-,e,-⟩ |⟨e,-⟩
  ·rw[e2] at e;cases e
  exact e
 have e4:b4=true:=by
  rcases h4.r with⟨-,e,-⟩ |⟨e,-⟩
  ·rw[e3] at e;cases e
  exact e
 rcases r1 with r1 |r1
 ·exact .inr ⟨e4,.inl r1⟩
 rw[r1];exact .inr ⟨e4,.inr rfl⟩
def Ck:Co.Con:=⟨0,0,0,0,[]⟩
noncomputable def Uc (r:Option Co.Con)(s:List UInt8):Option Co.Con:=match r with |none=>none |some x=>if Jb (Fa x)=true/\Co.conT x=s then some x else none
def Cu (bad:Int)(r:Option Co.Con)(w:World)(e:Ending)(w':World):Prop:=∃(C:Array Value) (n0:Int) (x:Co.Con),((n0=0/\r=some x)\/(n0=bad/\r=none/\x=Ck))/\e= .returned (.tuple #[.agg C,.int .i64 n0])/\IsCfg w' w'.heap.size (Fa x) C/\Below w.heap.size w w'
theorem Yb {W:World}{c:Nat}{cs:Array Value}{T:TypeId}(h:W.heap[c]? =some (.cells cs T (0,0))):W.setRow c cs=W:=by
 have key:(W.setRow c cs).heap=W.heap:=by
  apply Array.ext_getElem?
  intro k;by_cases hk:c=k
  ·subst hk
   rw[h];simp[World.setRow,Array.getElem?_modify,h]
  simp[World.setRow,Array.getElem?_modify,hk]
 show{W with heap:=(W.setRow c cs).heap}=W;rw[key]
theorem Ua {n:Nat}(h:n=36):(Tryz.prog.info? 29).map (·.size)=some n:=by rw[h];kernel_rfl
theorem Eb {P:Program}{ops:Array Oper}{rest:List Oper}{o:Oper}{a:Act}{w:World}{Q:Exit->Act->World->Prop}(hw:Region.wanted o (yielded ops a.tmps)=true)(ty:TypeId)(x:Operand)(ho:o.op= .load ty x)
 (g:Nat) (hx:a.eval x= .pointer (some ⟨g,0,none⟩)) (t:TypeId) (cs:Array Value) (fr:Nat×Nat) (d:TypeDesc) (hg:w.heap[g]? =some (.cells cs t fr))
 (hu:P.underlying ty=some d) (hd:(match d with | .struct _ | .array _ _=>true |_=>false)=true) (hi:(P.info? ty).map (·.size)=some cs.size)
 (h:wpList P ops Q rest (a.put o.dst (.agg cs)) w):wpList P ops Q (o::rest) a w:=
 BigFrame.wpList_want hw λ_ hK=>wp_load_row ty x ho g hx t cs fr d hg hu hd hi (hK _ _ h)
theorem Ud:zC.all (·.oneCell')=true:=by simp[zC,Value.oneCell']
structure Lna (w:World) (T:Option Co.Con) (f q d:Int) (a k:Nat) (wr:World) (t:List UInt8) (bad:Bool) (L:List Co.Ch) (C:Array Value):Prop where
 len:L.length=k
 ps:PsC w t bad C wr
 cf:CfP wr (w.heap.size+3) (Fa ⟨f,q,d,a,L⟩) C
 ok:Ol (8-k) t
 sl:t.length<=1000000000000
 r:(bad=false/\T=(Co.chsR (8-k) t).map λL'=>⟨f,q,d,a,L++L'⟩)\/(bad=true/\T=none/\k=0)
def Y4 (w:World)(T:Option Co.Con)(f q d:Int)(a k:Nat)(wr:World):Prop:=∃t bad L C,Lna w T f q d a k wr t bad L C
theorem Dka {T:Option Co.Con}{k:Nat}{t:List UInt8}{L:List Co.Ch}{f q d:Int}{a:Nat}(hk:k<8)(h:T=(Co.chsR (8-k) t).map λL'=>⟨f,q,d,a,L++L'⟩)(hc:Co.chR t=none):T=none:=by
 rw[h,show 8-k=(7-k)+1 by omega,Co.chsR,hc];rfl
theorem Eka {T:Option Co.Con}{k:Nat}{t t4:List UInt8}{L:List Co.Ch}{c:Co.Ch}{f q d:Int}{a:Nat}(hk:k<8)(h:T=(Co.chsR (8-k) t).map λL'=>⟨f,q,d,a,L++L'⟩)(hc:Co.chR t=some (c,t4)):T=(Co.chsR (8-(k+1)) t4).map λL'=>⟨f,q,d,a,(L++[c])++L'⟩:=by
 rw[h,show 8-k=(8-(k+1))+1 by omega,Co.chsR,hc,Option.bind_some,Option.map_map]
 congr 1
 funext L'
 simp
theorem Zi (s:List UInt8)(w:World)(hs:s.length<=1000000000000)(hok:Tba s)(hfit:∀x,Co.conR s=some x->Jb (Fa x)=true->Yj x)(hw:RdW w):
 Calls Tryz.prog 13 #[.string ⟨s.toArray⟩] w (Cu 12 (Uc (Co.conR s) s) w):=by
 obtain⟨W0,hW0⟩:∃W0,W0=((w.alloc (.cells zC 29)).alloc (.cells zC 29)).alloc (.cells #[.string ⟨s.toArray⟩,.bool false] 64):=⟨_,rfl⟩;have hp0:PsC w s false zC W0:=by rw[hW0];exact Bka w s
 have HG:=Qd hw.lows;have HRW:=Qd hw;have T1:=Qd (Kh s false (w.heap.size+1+1) W0 hs hp0.rd);have HP0:=Qd hp0;unfold zC at hW0;have HW0:=Qd hW0;obtain⟨T,hT⟩:∃T,T=Co.conR s:=⟨_,rfl⟩;rw[<-hT] at hfit⊢;have HFIT:=Qd hfit;have HOK:=Qd hok;have HT:Hid (T=match Nw.cut s with |none=>none |some h=>if h.1=Co.head14 then(Co.intsR h.2).bind Co.conB else none):=Qd hT;have HBAD:Hid (T=none->∀W t b C,PsC w t b C W->Cu 12 (Uc T s) w (.returned (.tuple #[.agg zC,.int .i64 12])) W):=Qd (λh W t b C hp=>by
  refine⟨zC,12,Ck,.inr ⟨rfl,by rw[h];rfl,rfl⟩,rfl,(Ge W W.heap.size).is,hp.bel⟩)
 clear hp0 hW0 hok hfit hT hw;go_enter Tryz.func13,Tryz.ntmps13
 go_upto_region 3 with fail
 rw[<-HW0.out];go_wp2_with fail
 refine T1.out.mono ?_;rintro e W1 ⟨rfl,hg1,hr1⟩;have hp1:=HP0.out.next hg1 hr1;have hl1:=(Sp.nextP_le s).2;have I1:=Qd (Hx (Sp.nextP s).2 _ (w.heap.size+1+1) w.heap.size W1 (by omega) HOK.out.b hp1.rd (HG.out.below hp1.bel) (by omega));have HP1:=Qd hp1;clear hg1 hr1 hp1 T1 HP0;go_wp2_with fail
 refine I1.out.mono ?_;rintro e W2 ⟨l,t2,bad2,v,rfl,hg2,hr2,hpost,hown,hwf,hll⟩;have hp2:=HP1.out.next hg2 hr2;obtain⟨A2,c2,rfl,hcap,hcm⟩:=Na hown;have c1:=hp2.rd.cell1;have HP2:=Qd hp2;have HB2:Hid (bad2=true->T=none):=Qd (λh=>by
  rw[HT.out];rcases hpost.r with⟨e,-⟩ |⟨-,e⟩
  ·rw[h] at e;cases e
  cases hc:Nw.cut s with
  |none=>rfl
  |some p=>
   have e1:(Sp.nextP s).2=p.2:=by unfold Sp.nextP;rw[hc];rfl
   rw[e1,hc] at e;rcases e with e |e
   ·cases e
   dsimp only;rw[e]
   split<;>rfl)
 have HG2:Hid (bad2=false->∃p,Nw.cut s=some p/\p.1=(Sp.nextP s).1/\Co.intsR p.2=some (l,t2)):=Qd (λh=>by
  rcases hpost.r with⟨-,e,r⟩ |⟨e,-⟩
  ·cases hc:Nw.cut s with
   |none=>rw[hc] at e;cases e
   |some p=>
    have e1:Sp.nextP s=p:=by unfold Sp.nextP;rw[hc];rfl
    exact⟨p,rfl,by rw[e1],by rw[e1] at r;exact r⟩
  rw[h] at e;cases e)
 have ht2:t2=(Sp.nextP (Sp.nextP s).2).2:=hpost.at_;have hl2:=hpost.len;have HOWN:=Qd hown;have K2:=Qd hp2.res;clear hg2 hr2 hp2 I1 HP1 hpost hown;have HE5:Hid (bad2=true\/(Sp.nextP s).1≠Co.head14\/l.length≠3->T=none):=Qd (λh=>by
  cases hb:bad2 with
  |true=>exact HB2.out hb
  |false=>
   obtain⟨p,hc,h1,h2⟩:=HG2.out hb;rw[HT.out,hc];dsimp only;rcases h with h |h |h
   ·rw[hb] at h;cases h
   ·rw[h1,if_neg h]
   split
   ·rw[h2,Option.bind_some]
    unfold Co.conB;dsimp only
    match l,h with
    | [],_=>rfl
    | [_],_=>rfl
    | [_,_],_=>rfl
    | [_,_,_],h=>exact absurd rfl h
    |_::_::_::_::_,_=>rfl
   rfl)
 obtain⟨hd,hhd⟩:∃hd,hd=(Sp.nextP s).1:=⟨_,rfl⟩;rw[<-hhd] at HE5 HG2⊢;clear hhd;have hcase:(bad2=true\/hd≠Co.head14\/l.length≠3)\/(bad2=false/\hd=Co.head14/\∃f q d,l=[f,q,d]):=by
  cases bad2 with
  |true=>exact .inl (.inl rfl)
  |false=>
   by_cases h:hd=Co.head14
   ·match l with
    | []=>exact .inl (.inr (.inr (by simp)))
    | [_]=>exact .inl (.inr (.inr (by simp)))
    | [_,_]=>exact .inl (.inr (.inr (by simp)))
    | [f,q,d]=>exact .inr ⟨rfl,h,f,q,d,rfl⟩
    |_::_::_::_::_=>exact .inl (.inr (.inr (by simp)))
   exact .inl (.inr (.inl h))
 rcases hcase with hbad |⟨rfl,rfl,f,q,d,rfl⟩
 ·have HN:=Qd (HBAD.out (HE5.out hbad) W2 _ _ _ HP2.out)
  have hb3:bad2=true\/(bad2=false/\(hd==Co.head14)=false)\/(bad2=false/\hd=Co.head14/\((l.length:Int)==3)=false):=by
   cases bad2 with
   |true=>exact .inl rfl
   |false=>
    by_cases h:hd=Co.head14
    ·rcases hbad with h1 |h1 |h1
     ·cases h1
     ·exact absurd h h1
     exact .inr (.inr ⟨rfl,h,beq_eq_false_iff_ne.2 (by omega)⟩)
    exact .inr (.inl ⟨rfl,beq_eq_false_iff_ne.2 h⟩)
  clear hbad HE5 HG2 HB2 HBAD HFIT HOK HT HG HOWN;unfold Co.head14 at hb3;rcases hb3 with rfl |⟨rfl,h1⟩ |⟨rfl,rfl,h1⟩
  all_goals
   go_wp2_with (with_reducible refine wpList_store_row rfl 29 (.tmp 2) (.tmp 29) rfl w.heap.size zC rfl rfl 29 zC K2.out (Ua rfl) rfl Ud ?_)
   rw[Yb K2.out];exact bodyPost_ret (Ja (by rfl) _ _ w.heap.size 29 zC (0,0) _ (.int .i64 12) (by rfl) (by rfl) K2.out Tryz.underlying29 rfl (Ua rfl)) rfl HN.out
 have hT2:T=(Co.tagsR t2).bind λa=>(Co.chsR 8 a.2).map λL=>⟨f,q,d,a.1,L⟩:=by
  obtain⟨p,hc,h1,h2⟩:=HG2.out rfl;rw[HT.out,hc];dsimp only;rw[if_pos h1,h2];rfl
 have hown:=HOWN.out;obtain⟨gg,cp,hv,hgg,hgl⟩:=hown.form (by simp);injection hv with hA hn hcp
 subst hA;have b0:=Oe hown 0 (.int .i64 f) rfl;have b1:=Oe hown 1 (.int .i64 q) rfl;have b2:=Oe hown 2 (.int .i64 d) rfl;simp only[Nat.zero_add] at b0 b1 b2;have hw3:Xa [f,q,d]:=hwf;have q33:=HP2.out.cell (i:=33) (v:= .int .i64 0) rfl;have q34:=HP2.out.cell (i:=34) (v:= .int .i64 0) rfl;have q35:=HP2.out.cell (i:=35) (v:= .int .i64 0) rfl;have f33:=HP2.out.frozen 33;have f34:=HP2.out.frozen 34;have f35:=HP2.out.frozen 35;have hcap3:3<=c2:=by simpa using hcap
 have HT2:=Qd hT2;clear HE5 HG2 HB2 HT hT2 hown hwf hll K2 hn hcp hcap hcm HOWN;unfold Co.head14;go_wp2_with fail
 go_region
 obtain⟨W3,hW3⟩:∃W3,W3=(((W2.setCell ⟨w.heap.size+1,33,none⟩ (.int .i64 f)).setCell ⟨w.heap.size+1,34,none⟩ (.int .i64 q)).setCell ⟨w.heap.size+1,35,none⟩ (.int .i64 d)).drew:=⟨_,rfl⟩;have p3:PsC w t2 false (((zC.setIfInBounds 33 (.int .i64 f)).setIfInBounds 34 (.int .i64 q)).setIfInBounds 35 (.int .i64 d)) W3:=by rw[hW3];exact(((HP2.out.set 33 (.int .i64 f)).set 34 (.int .i64 q)).set 35 (.int .i64 d)).below (Below.drewN_self _ 1)
 have c3:CfP W3 (w.heap.size+3) (Fa ⟨f,q,d,0,[]⟩) _:=(Ge W3 (w.heap.size+3)).setNums hw3;rw[<-hW3];generalize((zC.setIfInBounds 33 (.int .i64 f)).setIfInBounds 34 (.int .i64 q)).setIfInBounds 35 (.int .i64 d)=C3 at p3 c3;clear hW3 q33 q34 q35 f33 f34 f35 b0 b1 b2 c1 HP2;have hl3:t2.length<=1000000000000:=by omega
 have L1:=Qd (Tn t2 false (w.heap.size+1+1) W3 hl3 (by rw[ht2];exact HOK.out.a) p3.rd (λwx hx=>p3.rdw HRW.out hx));have HP3:=Qd p3;have HC3:=Qd c3;clear p3 c3;go_wp2_with fail
 refine L1.out.mono ?_;rintro e W4 ⟨a,t3,b3,rfl,hal,hg4,hr4,post4⟩;have hp4:=HP3.out.next hg4 hr4;have hc4:=HC3.out.next HP3.out hg4;have k4:=hp4.cell hc4.auth;have f4:=hp4.frozen 32;have hp5:=hp4.set 32 (.int .u64 (a:Int));have hc5:CfP _ (w.heap.size+3) (Fa ⟨f,q,d,a,[]⟩) _:=(hc4.setAuth hal).set hp4 hc4.noL 32 (.int .u64 (a:Int));have hl4:=post4.len;have H5:Hid (Y4 w T f q d a 0 (W4.setCell ⟨w.heap.size+1,32,none⟩ (.int .u64 (a:Int)))):=Qd ⟨t3,b3,[],_,rfl,hp5,hc5,by rw[post4.at_,ht2];exact HOK.out.ch,by omega,by
  rcases post4.r with⟨e1,-,e2⟩ |⟨e1,e2⟩
  ·exact .inl ⟨e1,by rw[HT2.out,e2];rfl⟩
  refine .inr ⟨e1,?_,rfl⟩;rcases e2 with e2 |e2
  ·cases e2
  rw[HT2.out,e2];rfl⟩
 clear hg4 hr4 hp4 hc4 hp5 hc5 L1 HP3 HC3 post4 hl4 HT2 HOK hal ht2 hl3;go_wp2_with fail
 clear k4 f4;go_loopw [8,45] (λ_ i wr=>∃k:Nat,k<=8/\i= .int .i64 k/\Hid (Y4 w T f q d a k wr)) (λ_ i _=>8-(intOf i).toNat)
 case atStart=>exact⟨0,Nat.zero_le _,rfl,H5⟩
 case round=>
  clear H5;obtain⟨wq,rfl⟩:∃x,x=wr:=⟨_,rfl⟩;obtain⟨k,hk,rfl,HX⟩:=hrel;by_cases hlt:k<8
  ·have hk0:(0:Int)<=(k:Int):=by omega
   have hk8:(k:Int)<8:=by omega
   obtain⟨t,bad,L,C,hL,hp,hc,hok,hsl,hr⟩:=HX.out;have e8:8-k=(8-(k+1))+1:=by omega
   have hok2:Ol ((8-(k+1))+1) t:=by rw[<-e8];exact hok
   have HO:=Qd hok2.1;have HOS:=Qd hok2.2;have HR:=Qd hr;have L1:=Qd (Tn t bad (w.heap.size+1+1) wq hsl HO.out.a hp.rd (λwx hx=>hp.rdw HRW.out hx));have HP:=Qd hp;have HC:=Qd hc;have HLN:=Qd hL;clear hp hc hr hok hok2 e8 HX hL;go_wp2_with fail
   refine L1.out.mono ?_;rintro e W4 ⟨cl,t1,b1,rfl,hcl,hg4,hr4,post1⟩;have hp4:=HP.out.next hg4 hr4;have hc4:=HC.out.next HP.out hg4;have k4:=hp4.cell (hc4.clear k hlt).1;have f4:=hp4.frozen k;have hp5:=hp4.set k (.int .u64 (cl:Int));have hc5:=(hc4.setClear hlt hcl).set hp4 hc4.noL k (.int .u64 (cl:Int));have hl1:=post1.len;have L2:=Qd (Q7 t1 b1 (w.heap.size+1+1) _ (by omega) hp5.rd (λwx hx=>hp5.rdw HRW.out hx) (by rw[post1.at_];exact HO.out.b));have HP5:=Qd hp5;have HC5:=Qd hc5;have HQ1:=Qd post1;clear hg4 hr4 hp4 hc4 hp5 hc5 L1 HP HC post1 hcl;go_wp2_with fail
   clear k4 f4;refine L2.out.mono ?_;rintro e W6 ⟨ins,t2,b2,A,cp,us,rfl,hg6,hr6,post2,hfit,hli,hia⟩;have hz:=HP5.out.rd.lt;have hp6:=HP5.out.next hg6 hr6;have hc6:=HC5.out.next HP5.out hg6;obtain⟨A0,cp0,us0,k6',-⟩:=hc6.ins k hlt;have k6:=hp6.cell k6';have f6:=hp6.frozen (8+k);have hp7:=hp6.set (8+k) (.slice A ins.length cp);have hc7:=(hc6.setIns hlt hfit (hli.keep (λ_ _=>rfl) (λb hb=>hb.mono (by omega))) (hia.keep (λ_ _=>rfl) (λb hb=>hb.mono (by omega)))).set hp6 hc6.noL (8+k) (.slice A ins.length cp);have hl2:=post2.len;have L3:=Qd (Tn t2 b2 (w.heap.size+1+1) _ (by omega) (by rw[post2.at_,HQ1.out.at_];exact HO.out.c) hp7.rd (λwx hx=>hp7.rdw HRW.out hx));have HP7:=Qd hp7;have HC7:=Qd hc7;have HQ2:=Qd post2;clear hg6 hr6 hp6 hc6 hp7 hc7 L2 HP5 HC5 post2 hfit hli hia hz k6';go_wp2_with fail
   clear k6 f6;refine L3.out.mono ?_;rintro e W8 ⟨lb,t3,b3,rfl,hlb,hg8,hr8,post3⟩;have hp8:=HP7.out.next hg8 hr8;have hc8:=HC7.out.next HP7.out hg8;have k8:=hp8.cell (hc8.label k hlt).1;have f8:=hp8.frozen (16+k);have hp9:=hp8.set (16+k) (.int .u64 (lb:Int));have hc9:=(hc8.setLabel hlt hlb).set hp8 hc8.noL (16+k) (.int .u64 (lb:Int));have hl3:=post3.len;have L4:=Qd (Hx t3 b3 (w.heap.size+1+1) w.heap.size _ (by omega) (by rw[post3.at_,HQ2.out.at_,HQ1.out.at_];exact HO.out.d) hp9.rd (HG.out.below hp9.bel) (by omega));have HP9:=Qd hp9;have HC9:=Qd hc9;have HQ3:=Qd post3;clear hg8 hr8 hp8 hc8 hp9 hc9 L3 HP7 HC7 post3 hlb;go_wp2_with fail
   clear k8 f8;refine L4.out.mono ?_;rintro e W10 ⟨dr,t4,b4,v,rfl,hg10,hr10,post4,hown,hwf,hll⟩;obtain⟨A',c',rfl,hca,hcb⟩:=Na hown;have hz:=HP9.out.rd.lt;have hp10:=HP9.out.next hg10 hr10;have hc10:=HC9.out.next HP9.out hg10;obtain⟨A1,cp1,k10',-⟩:=hc10.draws k hlt;have k10:=hp10.cell k10';have f10:=hp10.frozen (24+k);have hp11:=hp10.set (24+k) (.slice A' dr.length c');have hfit:Fits dr.length c' 8:=⟨hca,by omega,by unfold maxLen at hcb;omega⟩;have hc11:=CfP.more HLN.out ((hc10.setDraws hlt hfit hwf ((LiesP.of_own hown).keep (P':=PR (w.heap.size+3) W10) (λ_ _=>rfl) (λb hb=>⟨hb.2,.inl (by omega)⟩))).set hp10 hc10.noL (24+k) (.slice A' dr.length c'));have c11:=hp11.rd.cell1;have HST:=Qd (Cka HQ1.out HQ2.out HQ3.out post4);have HP11:=Qd hp11;have HC11:=Qd hc11;clear hg10 hr10 hp10 hc10 hp11 hc11 L4 HP9 HC9 post4 hz k10' hown hwf hll hfit hca hcb HQ1 HQ2 HQ3 HO hl1 hl2 hl3;cases b4 with
   |false=>
    have HN:Hid (Y4 w T f q d a (k+1) (W10.setCell ⟨w.heap.size+1,24+k,none⟩ (.slice A' dr.length c'))):=Qd (by
     obtain⟨h1,h2,h3⟩:=HST.out;refine⟨t4,false,_,_,by simp[HLN.out],HP11.out,HC11.out,by rw[h1];exact HOS.out,by omega,.inl ⟨rfl,?_⟩⟩;rcases h3 with⟨-,h4,h5⟩ |⟨h4,-⟩
     ·rcases HR.out with⟨-,h6⟩ |⟨h6,-⟩
      ·exact Eka hlt h6 h5
      rw[h6] at h4;cases h4
     cases h4)
    go_wp2_with fail
    go_roundw
    case rel=>exact⟨k+1,by omega,by go_num,HN⟩
    case measure=>simp[intOf];omega
   |true=>
    have hTn:T=none:=by
     obtain⟨-,-,h3⟩:=HST.out;rcases h3 with⟨h4,-⟩ |⟨-,h4⟩
     ·cases h4
     rcases HR.out with⟨h5,h6⟩ |⟨-,h6,-⟩
     ·rcases h4 with h4 |h4
      ·rw[h5] at h4;cases h4
      exact Dka hlt h6 h4
     exact h6
    have HN:=Qd (HBAD.out hTn _ _ _ _ HP11.out);have K:=Qd HP11.out.res;clear hTn HST HR;go_wp2_with (with_reducible refine wpList_store_row rfl 29 (.tmp 2) (.tmp 72) rfl w.heap.size zC rfl rfl 29 zC K.out (Ua rfl) rfl Ud ?_)
    rw[Yb K.out];exact bodyPost_ret (Ja (by rfl) _ _ w.heap.size 29 zC (0,0) _ (.int .i64 12) (by rfl) (by rfl) K.out Tryz.underlying29 rfl (Ua rfl)) rfl HN.out
  obtain rfl:k=8:=by omega
  obtain⟨t,bad,L,C,hL,hp,hc,-,-,hr⟩:=HX.out;rcases hr with⟨rfl,hT⟩ |⟨-,-,h0⟩
  rotate_left
  ·omega
  obtain⟨x,hx⟩:∃x:Co.Con,x=⟨f,q,d,a,L⟩:=⟨_,rfl⟩;have hT':T=some x:=by rw[hT,hx];simp[Co.chsR]
  rw[<-hx] at hc;have hC36:=hc.size;have HB1:=Qd hp.cfg;have RG:=Qd (Bi (Fa x) C wq wq.heap.size hc.is Lr);have HNO:Hid (Jb (Fa x)=false\/Co.conT x≠s->∀W t b C,PsC w t b C W->Cu 12 (Uc T s) w (.returned (.tuple #[.agg zC,.int .i64 12])) W):=Qd (λh W t b C hp=>by
   refine⟨zC,12,Ck,.inr ⟨rfl,?_,rfl⟩,rfl,(Ge W W.heap.size).is,hp.bel⟩;rw[hT'];unfold Uc;dsimp only;rw[if_neg];rintro⟨h1,h2⟩;rcases h with h |h
   ·rw[h1] at h;cases h
   exact h h2)
  have HYES:Hid (Jb (Fa x)=true->Co.conT x=s->∀W,PsC w t false C W->CfP W (w.heap.size+3) (Fa x) C->Cu 12 (Uc T s) w (.returned (.tuple #[.agg C,.int .i64 0])) (W.setRow w.heap.size C)):=Qd (λh1 h2 W hp hc=>by
   refine⟨C,0,x,.inl ⟨rfl,?_⟩,rfl,(hc.res hp C).is,Vea hp.bel Lr C⟩;rw[hT'];unfold Uc;dsimp only;rw[if_pos ⟨h1,h2⟩])
  have HFX:=Qd (HFIT.out x hT');have HP:=Qd hp;have HC:=Qd hc;clear hp hc HX hT hT' hx hL HFIT HBAD;go_wp2_with (with_reducible refine wpList_load_row rfl 29 (.tmp 4) rfl (w.heap.size+1) rfl 29 C (0,0) _ HB1.out Tryz.underlying29 rfl (Ua hC36) ?_)
  refine RG.out.mono ?_;rintro e W5 ⟨rfl,hb5⟩;have hp5:=HP.out.below hb5;have hc5:CfP W5 (w.heap.size+3) (Fa x) C:=HC.out.step hb5.size (λb hb=>hb5.block b hb.1);clear hb5 RG HP HC;cases hR:Jb (Fa x) with
  |false=>
   have HN:=Qd (HNO.out (.inl hR) _ _ _ _ hp5);have K:=Qd hp5.res;clear hp5 hc5 HNO HYES HFX hR;go_wp2_with (with_reducible refine wpList_store_row rfl 29 (.tmp 2) (.tmp 83) rfl w.heap.size zC rfl rfl 29 zC K.out (Ua rfl) rfl Ud ?_)
   rw[Yb K.out];exact bodyPost_ret (Ja (by rfl) _ _ w.heap.size 29 zC (0,0) _ (.int .i64 12) (by rfl) (by rfl) K.out Tryz.underlying29 rfl (Ua rfl)) rfl HN.out
  |true=>
   have HB5:=Qd hp5.cfg;have TT:=Qd (Xg x C W5 W5.heap.size hc5.is Lr (HFX.out hR) (HRW.out.below hp5.bel).sp);have HP5:=Qd hp5;have HC5:=Qd hc5;have HR1:=Qd hR;clear hp5 hc5 hR HFX;go_wp2_with (refine Eb rfl 29 (.tmp 4) rfl (w.heap.size+1) rfl 29 C (0,0) _ HB5.out Tryz.underlying29 rfl (Ua hC36) ?_)
   refine TT.out.mono ?_;rintro e W6 ⟨rfl,hb6⟩;have hp6:=HP5.out.below hb6;have hc6:CfP W6 (w.heap.size+3) (Fa x) C:=HC5.out.step hb6.size (λb hb=>hb6.block b hb.1);have K:=Qd hp6.res;have HB6:=Qd hp6.cfg;have hone:=Qd hc6.one;have hzC:Hid (zC.size=C.size):=Qd (by rw[hC36];rfl);have HDN:=Qd (hp6.done C);have HY6:=Qd (λh=>HYES.out HR1.out h _ hp6 hc6);have HN6:=Qd (λh=>HNO.out (.inr h) _ _ _ _ hp6);clear hb6 hp6 hc6 TT HP5 HC5 HYES HNO HB5 HB1;generalize Co.conT x=y at*;by_cases ht:y=s
   ·have HN:=Qd (HY6.out ht)
    subst ht;clear HY6 HN6;go_wp2_with (first
     |(with_reducible refine wpList_load_row rfl 29 (.tmp 4) rfl (w.heap.size+1) rfl 29 C (0,0) _ HB6.out Tryz.underlying29 rfl (Ua hC36) ?_)
     |(with_reducible refine wpList_store_row rfl 29 (.tmp 2) (.tmp 84) rfl w.heap.size C rfl rfl 29 zC K.out (Ua hC36) hzC.out hone.out ?_))
    exact bodyPost_ret (Ja (by rfl) _ _ w.heap.size 29 C (0,0) _ (.int .i64 0) (by rfl) (by rfl) HDN.out Tryz.underlying29 rfl (Ua hC36)) rfl HN.out
   have HN:=Qd (HN6.out ht);have hne:(y==s)=false:=beq_eq_false_iff_ne.2 ht;clear HY6 HN6;go_wp2_with (with_reducible refine wpList_store_row rfl 29 (.tmp 2) (.tmp 83) rfl w.heap.size zC rfl rfl 29 zC K.out (Ua rfl) rfl Ud ?_)
   rw[Yb K.out];exact bodyPost_ret (Ja (by rfl) _ _ w.heap.size 29 zC (0,0) _ (.int .i64 12) (by rfl) (by rfl) K.out Tryz.underlying29 rfl (Ua rfl)) rfl HN.out
end
section
open Go.RowKit Ar
theorem Kx (n:Int)(w:World)(h1: -9223372036854775808<=n)(h2:n<=9223372036854775807):
 Calls Tryz.prog 65 #[.int .i64 n] w λe w'=>e= .returned (.string ⟨(Lib.itoa n).toArray⟩)/\w=w':=by
 by_cases hn:n<0
 ·obtain⟨m,rfl⟩:∃m:Nat,n= -(m:Int):=⟨n.natAbs,by omega⟩
  have hm:0<m:=by omega
  have hI:Lib.itoa (-(m:Int))=45::Lib.decDigits m:=by
   unfold Lib.itoa;rw[if_pos hn]
   congr 2
   omega
  rw[hI];clear hI;by_cases h10:m<10
  ·have H:=Qd (Gd m w (by omega))
   have hl:=(Ten.dec_len (r:=m) (k:=19) (by omega)).2;generalize Lib.decDigits m=D at*;have hs:(⟨D.toArray⟩:ByteArray).size<=20:=hl;have b1:(-10:Int)< -(m:Int):=by omega
   have b2:¬(0:Int)<= -(m:Int):=by omega
   go_enter Tryz.func65,Tryz.ntmps65
   go_wp2_with fail
   refine H.out.mono ?_;rintro e w' ⟨rfl,rfl⟩;go_wp2_with fail
   go_ret;exact⟨congrArg (λb=>Ending.returned (.string b)) (Kb [45] D),rfl⟩
  have HA:=Qd (Gd (m/10) w (by omega));have HB:=Qd (Gd (m%10) w (by omega));have HD:Lib.decDigits m=Lib.decDigits (m/10)++Lib.decDigits (m%10):=by
   rw[Ten.dec_big h10,<-Ten.dec_small (by omega:m%10<10)]
  rw[HD];have hp:=(Ten.dec_len (r:=m/10) (k:=19) (by omega)).2;have hq:=(Ten.dec_len (r:=m%10) (k:=19) (by omega)).2;generalize Lib.decDigits (m/10)=p at*;generalize Lib.decDigits (m%10)=q at*;have s1:(⟨p.toArray⟩:ByteArray).size<=20:=hp;have s2:(⟨q.toArray⟩:ByteArray).size<=20:=hq;have e1:(-(m:Int)).tdiv 10= -((m/10:Nat):Int):=by rw[Int.neg_tdiv];rfl
  have e2:(-(m:Int)).tmod 10= -((m%10:Nat):Int):=by rw[Int.neg_tmod];rfl
  have b1:¬(-10:Int)< -(m:Int):=by omega
  have b2:¬(0:Int)<= -(m:Int):=by omega
  have ha:m/10<=922337203685477580:=by omega
  have hb:m%10<10:=by omega
  have z1:wrap64 (-((m/10:Nat):Int))= -((m/10:Nat):Int):=by unfold wrap64;omega
  have z2:wrap64 (-((m%10:Nat):Int))= -((m%10:Nat):Int):=by unfold wrap64;omega
  generalize m/10=a at*;generalize m%10=b at*;clear HD;go_enter Tryz.func65,Tryz.ntmps65
  go_wp2_with fail
  refine HA.out.mono ?_;rintro e w' ⟨rfl,rfl⟩;go_wp2_with fail
  refine HB.out.mono ?_;rintro e w' ⟨rfl,rfl⟩;go_wp2_with fail
  go_ret;exact⟨congrArg (λb=>Ending.returned (.string b)) ((congrArg (· ++(⟨q.toArray⟩:ByteArray)) (Kb [45] p)).trans (Kb (45::p) q)),rfl⟩
 obtain⟨m,rfl⟩:∃m:Nat,n=(m:Int):=⟨n.toNat,by omega⟩;have hI:Lib.itoa (m:Int)=Lib.decDigits m:=by
  unfold Lib.itoa;rw[if_neg hn]
  congr 1
 rw[hI];have H:=Qd (Gd m w (by omega));have hl:=(Ten.dec_len (r:=m) (k:=19) (by omega)).2;generalize Lib.decDigits m=D at*;go_enter Tryz.func65,Tryz.ntmps65
 go_wp2_with fail
 refine H.out.mono ?_;rintro e w' ⟨rfl,rfl⟩;go_wp2_with fail
 go_ret;exact⟨rfl,rfl⟩
end
section
open Go.RowKit Ar
theorem Iq:∀{a:List Int} (h:a≠[]) (x:Int),Ga (a++[x])=Ga a++32::Lib.itoa x
 | [y],_,x=>by
  show Ga (y::x::[])=_;rw[Eg,Ei,Ei]
 |y::z::r,_,x=>by
  show Ga (y::z::(r++[x]))=_;rw[Eg,Eg,<-List.cons_append,Iq (by simp) x];simp
theorem Wea (l:List Int)(A:Option Addr)(c:Nat)(w:World)(B:Nat)(hl:Lies w B A (Ya l))(hn:l.length<=1000000)(hw:Xa l):
 Calls Tryz.prog 38 #[.slice A l.length c] w λe w'=>e= .returned (.string ⟨(Ga l).toArray⟩)/\w=w':=by
 have HA:=Qd hl;have DG:=Qd (λ(n:Int) (h:n∈l)=>Kx n w (hw n h).1 (hw n h).2);have TL:=Qd (λ(k:Nat)=>Fc (l:=l.take k) (λn h=>hw n (List.mem_of_mem_take h)));have IL:=Qd (λ(n:Int) (h:n∈l)=>Xq (hw n h).1 (hw n h).2);clear hl hw;go_enter Tryz.func38,Tryz.ntmps38
 go_wp2_with fail
 go_loopw [3,4] (λsv iv wr=>∃k:Nat,k<=l.length/\iv= .int .i64 k/\sv= .string ⟨(Ga (l.take k)).toArray⟩/\w=wr) (λ_ i _=>l.length-(intOf i).toNat)
 case atStart=>exact⟨0,Nat.zero_le _,rfl,rfl,rfl⟩
 case round=>
  obtain⟨k,hk,rfl,rfl,rfl⟩:=hrel;have hk0:(0:Int)<=(k:Int):=by omega
  by_cases hlt:k<l.length
  ·obtain⟨b,off,rfl,hb,g0⟩:=Lc HA.out hlt
   have hk1:(k:Int)<(l.length:Int):=by omega
   have D1:=Qd (DG.out l[k] (List.getElem_mem hlt));have t1:=TL.out k;rw[List.length_take,Nat.min_eq_left (by omega)] at t1;have i1:=IL.out l[k] (List.getElem_mem hlt);have HT:Hid (Ga (l.take (k+1))=if k=0 then Lib.itoa l[k] else Ga (l.take k)++32::Lib.itoa l[k]):=Qd (by
    rw[List.take_succ_eq_append_getElem hlt]
    split
    ·next h=>subst h;exact Ei _
    next h=>exact Iq (by intro e;rw[List.take_eq_nil_iff] at e;rcases e with e |e;exact h e;rw[e] at hlt;simp at hlt) _)
   generalize l[k]=x at*;by_cases h0:k=0
   ·subst h0
    rw[if_pos rfl] at HT;simp only[Nat.add_zero] at g0;rw[show Ga (l.take 0)=[] from rfl];go_wp2_with fail
    refine D1.out.mono ?_;rintro e w2 ⟨rfl,rfl⟩;generalize Lib.itoa x=p at*;have hs:(⟨p.toArray⟩:ByteArray).size<=1000:=by show p.length<=_;omega
    go_wp2_with fail
    go_roundw
    case rel=>exact⟨1,by omega,by go_num,by rw[HT.out];exact congrArg Value.string (Kb [] p),by trivial⟩
    case measure=>simp[intOf];omega
   rw[if_neg h0] at HT;have hk2:(0:Int)<(k:Int):=by omega
   generalize Ga (l.take k)=q at*;have hq:(⟨q.toArray⟩:ByteArray).size<=30000000:=by show q.length<=_;omega
   go_wp2_with fail
   refine D1.out.mono ?_;rintro e w2 ⟨rfl,rfl⟩;generalize Lib.itoa x=p at*;have hs:(⟨p.toArray⟩:ByteArray).size<=1000:=by show p.length<=_;omega
   go_wp2_with fail
   go_roundw
   case rel=>exact⟨k+1,by omega,by go_num,by rw[HT.out];exact congrArg Value.string ((congrArg (· ++(⟨p.toArray⟩:ByteArray)) (Kb q [32])).trans ((Kb (q++[32]) p).trans (by simp))),by trivial⟩
   case measure=>simp[intOf];omega
  have hke:k=l.length:=by omega
  subst hke;rw[List.take_length];go_wp2_with fail
  go_ret;exact⟨rfl,rfl⟩
end
section
namespace Co
open Ar Sp
noncomputable def numR (s:List UInt8):Option Int:=match atoiP s with |none=>none |some m=>if Lib.itoa m=s then some m else none
theorem numR_some {s:List UInt8}{m:Int}(h:numR s=some m):s=Lib.itoa m/\ -9223372036854775808<=m/\m<=9223372036854775807:=by
 unfold numR at h
 split at h
 ·cases h
 next k hk=>
 split at h
 ·next e=>injection h with h;subst h;exact⟨e.symm,atoi_wf hk⟩
 cases h
theorem Lx {m:Int}(h1: -9223372036854775808<=m)(h2:m<=9223372036854775807):numR (Lib.itoa m)=some m:=by
 unfold numR;rw[Pw h1 h2];exact if_pos rfl
def stepN (neg:Bool)(n:Int)(b:UInt8):Int:=if neg then RowKit.wrap64 (RowKit.wrap64 (10*n)-(b.toNat-48:Int)) else RowKit.wrap64 (RowKit.wrap64 (10*n)+(b.toNat-48:Int))
def foldN (neg:Bool)(s:List UInt8)(n:Int):Int:=s.foldl (stepN neg) n
theorem foldN_cons (neg:Bool)(c:UInt8)(r:List UInt8)(n:Int):foldN neg (c::r) n=foldN neg r (stepN neg n c):=by unfold foldN;rw[List.foldl_cons]
theorem C9 (l:List UInt8):∀a:Nat,a<=l.foldl (λn b=>10*n+(b.toNat-48)) a:=by
 induction l with
 |nil=>intro a;exact Lr
 |cons x y ih=>intro a;rw[List.foldl_cons];exact Nat.le_trans (by omega) (ih _)
theorem Xea {a:Nat}{c:UInt8}(hc:48<=c.toNat/\c.toNat<=57)(h:10*a+(c.toNat-48)<=9223372036854775807):stepN false (a:Int) c=((10*a+(c.toNat-48):Nat):Int):=by
 unfold stepN RowKit.wrap64;rw[if_neg (by simp)];generalize c.toNat=y at*;omega
theorem Yea {a:Nat}{c:UInt8}(hc:48<=c.toNat/\c.toNat<=57)(h:10*a+(c.toNat-48)<=9223372036854775808):stepN true (-(a:Int)) c= -((10*a+(c.toNat-48):Nat):Int):=by
 unfold stepN RowKit.wrap64;rw[if_pos rfl];generalize c.toNat=y at*;omega
theorem Zea (M:Nat)(hM:M<=9223372036854775807)(s:List UInt8):∀(a:Nat),(∀b∈s,Ten.isDig b)->s.foldl (λn b=>10*n+(b.toNat-48)) a<=M->foldN false s (a:Int)=(s.foldl (λn b=>10*n+(b.toNat-48)) a:Nat):=by
 induction s with
 |nil=>intro a _ _;rfl
 |cons c r ih=>
  intro a hd h;rw[List.foldl_cons] at h⊢;have h1:=C9 r (10*a+(c.toNat-48));have h2:=Nat.le_trans (Nat.le_trans h1 h) hM;have hc:=hd c (by simp);unfold Ten.isDig at hc;rw[foldN_cons];exact(congrArg (foldN false r) (Xea hc h2)).trans (ih _ (λb hb=>hd b (by simp[hb])) h)
theorem Afa (M:Nat)(hM:M<=9223372036854775808)(s:List UInt8):∀(a:Nat),(∀b∈s,Ten.isDig b)->s.foldl (λn b=>10*n+(b.toNat-48)) a<=M->foldN true s (-(a:Int))= -((s.foldl (λn b=>10*n+(b.toNat-48)) a:Nat):Int):=by
 induction s with
 |nil=>intro a _ _;rfl
 |cons c r ih=>
  intro a hd h;rw[List.foldl_cons] at h⊢;have h1:=C9 r (10*a+(c.toNat-48));have h2:=Nat.le_trans (Nat.le_trans h1 h) hM;have hc:=hd c (by simp);unfold Ten.isDig at hc;rw[foldN_cons];exact(congrArg (foldN true r) (Yea hc h2)).trans (ih _ (λb hb=>hd b (by simp[hb])) h)
theorem Bfa {m:Int}(h1: -9223372036854775808<=m)(h2:m<=9223372036854775807):∃(neg:Bool) (ds:List UInt8),Lib.itoa m=(if neg then 45::ds else ds)/\(∀b∈ds,Ten.isDig b)/\ds.length<=19/\foldN neg ds 0=m:=by
 unfold Lib.itoa
 split
 ·have hv:=Ten.dec_valid m.natAbs
  refine⟨true,Lib.decDigits m.natAbs,by rw[if_pos rfl],hv.1.2.2,(Ten.dec_len (r:=m.natAbs) (k:=18) (by omega)).2,?_⟩;have h:=Afa 9223372036854775808 Lr (Lib.decDigits m.natAbs) 0 hv.1.2.2;have hn:(Lib.decDigits m.natAbs).foldl (λn b=>10*n+(b.toNat-48)) 0=m.natAbs:=hv.2;rw[hn] at h;have:=h (by omega);rw[show(-((0:Nat):Int))=0 from rfl] at this;omega
 have hv:=Ten.dec_valid m.toNat;refine⟨false,Lib.decDigits m.toNat,by rw[if_neg (by simp)],hv.1.2.2,(Ten.dec_len (r:=m.toNat) (k:=18) (by omega)).2,?_⟩;have h:=Zea 9223372036854775807 Lr (Lib.decDigits m.toNat) 0 hv.1.2.2;have hn:(Lib.decDigits m.toNat).foldl (λn b=>10*n+(b.toNat-48)) 0=m.toNat:=hv.2;rw[hn] at h;have:=h (by omega);rw[show(((0:Nat)):Int)=0 from rfl] at this;omega
def negB (s:List UInt8):Bool:=s.head?==some 45
def restN (s:List UInt8):List UInt8:=if negB s then s.drop 1 else s
theorem Yn {m:Int}(h1: -9223372036854775808<=m)(h2:m<=9223372036854775807):(∀b∈restN (Lib.itoa m),Ten.isDig b)/\(restN (Lib.itoa m)).length<=19/\foldN (negB (Lib.itoa m)) (restN (Lib.itoa m)) 0=m:=by
 obtain⟨neg,ds,h,hd,hl,hf⟩:=Bfa h1 h2;rw[h];cases neg with
 |true=>exact⟨hd,hl,hf⟩
 |false=>
  have hn:negB ds=false:=by
   unfold negB;cases ds with
   |nil=>rfl
   |cons b r=>
    have:=hd b (by simp);unfold Ten.isDig at this;simp only[List.head?_cons];refine beq_eq_false_iff_ne.2 (λe=>?_);injection e with e
    rw[e] at this;exact absurd this (by decide)
  have hr:restN ds=ds:=by unfold restN;rw[hn];rfl
  show(∀b∈restN ds,Ten.isDig b)/\(restN ds).length<=19/\foldN (negB ds) (restN ds) 0=m;rw[hr,hn];exact⟨hd,hl,hf⟩
theorem stepN_wf (neg:Bool)(n:Int)(b:UInt8): -9223372036854775808<=stepN neg n b/\stepN neg n b<=9223372036854775807:=by
 unfold stepN RowKit.wrap64
 split<;>omega
theorem Z4 (neg:Bool):∀(s:List UInt8) (n:Int),-9223372036854775808<=n->n<=9223372036854775807-> -9223372036854775808<=foldN neg s n/\foldN neg s n<=9223372036854775807
 | [],n,h1,h2=>⟨h1,h2⟩
 |b::r,n,_,_=>Z4 neg r _ (stepN_wf neg n b).1 (stepN_wf neg n b).2
theorem numR_of {s:List UInt8}:numR s=if Lib.itoa (foldN (negB s) (restN s) 0)=s then some (foldN (negB s) (restN s) 0) else none:=by
 have hw:=Z4 (negB s) (restN s) 0 (by omega) (by omega)
 split
 ·next h=>have:=Lx hw.1 hw.2;rw[h] at this;exact this
 next h=>
 cases hr:numR s with
 |none=>rfl
 |some m=>
  exfalso
  obtain⟨e,h1,h2⟩:=numR_some hr;have:=(Yn h1 h2).2.2;rw[<-e] at this;rw[this] at h;exact h e.symm
theorem numR_long {s:List UInt8}(h:19<(restN s).length):numR s=none:=by
 cases hr:numR s with
 |none=>rfl
 |some m=>
  obtain⟨e,h1,h2⟩:=numR_some hr;have:=(Yn h1 h2).2.1;rw[<-e] at this;omega
theorem numR_dig {s:List UInt8}{b:UInt8}(hb:b∈restN s)(h:¬Ten.isDig b):numR s=none:=by
 cases hr:numR s with
 |none=>rfl
 |some m=>
  obtain⟨e,h1,h2⟩:=numR_some hr;have:=(Yn h1 h2).1 b;rw[<-e] at this;exact absurd (this hb) h
noncomputable def Gg:List (List UInt8)->Option (List Int)
 | []=>some []
 |x::r=>(numR x).bind λn=>(Gg r).map (n:: ·)
noncomputable def listR (s:List UInt8):Option (List Int):=if s=[] then some [] else Gg (words s)
theorem Du:∀{l:List Int},Xa l->Gg (l.map Lib.itoa)=some l
 | [],_=>rfl
 |x::r,h=>by
  have hx:=h x (by simp);rw[List.map_cons,Gg,Lx hx.1 hx.2,Du (λy hy=>h y (by simp[hy]))];rfl
theorem Eu {l:List Int}(h:Xa l):listR (Ga l)=some l:=by
 match l,h with
 | [],_=>rfl
 |x::r,h=>
  unfold listR;rw[if_neg Vp,X0];exact Du h
theorem D5:∀{ws:List (List UInt8)} {l:List Int},Gg ws=some l->Xa l
 | [],l,h=>by rw[Gg] at h;injection h with h;subst h;exact nofun
 |x::r,l,h=>by
  rw[Gg] at h;obtain⟨n,hn,h⟩:=Option.bind_eq_some_iff.1 h;obtain⟨l',h',rfl⟩:=Option.map_eq_some_iff.1 h;intro y hy;rcases List.mem_cons.1 hy with rfl |hy
  ·exact(numR_some hn).2
  exact D5 h' y hy
theorem listR_wf {t:List UInt8}{l:List Int}(h:listR t=some l):Xa l:=by
 unfold listR at h
 split at h
 ·injection h with h;subst h;exact nofun
 exact D5 h
end Co
end
end Go.Proofs.YtmiccalfamepdaaGreatDoor
