/- Texts of this proof, joined. -/
import Derived.Test.YtmiccalfamepdaaGreatDoorM11
import Derived.Deep.WholeRow
set_option linter.all false
set_option maxHeartbeats 8000000
set_option maxRecDepth 100000
namespace Go.Proofs.YtmiccalfamepdaaGreatDoor
open Go.RowKit
theorem Zp {w:World}{v1 v2:Value}{l1 l2:List Nat}(h1:IsRes w v1 l1)(h2:IsRes w v2 l2)(o1:Nt.Ok l1)(o2:Nt.Ok l2)(s1:l1.length<=1000000)(s2:l2.length<=1000000):
 Calls Tryz.prog 171 #[v1,v2] w λe w'=>∃u1 u2,e= .returned (.tuple #[u1,u2,.bool (decide (Nt.val l2≠0))])/\IsRes w' u1 (Nt.digs (Nt.quo (Nt.val l1) (Nt.val l2)))/\IsRes w' u2 (Nt.digs (Nt.rest (Nt.val l1) (Nt.val l2)))/\Below w.heap.size w w':=by
 obtain⟨A,c,rfl,a1,a2,a3,a4⟩:=h1;obtain⟨A',c',rfl,b1,b2,b3,b4⟩:=h2;exact(Js A A' c c' w.heap.size l1 l2 w a4 b4 Lr o1 o2 a1 b1 a2 b2 s1 s2 (.inr G1)).mono (by
  rintro e w' ⟨u1,u2,rfl,r1,r2,hb'⟩;exact⟨u1,u2,rfl,r1,r2,hb'⟩)
theorem Aha {w:World}{v1 v2:Value}{l1 l2:List Nat}(h1:IsRes w v1 l1)(h2:IsRes w v2 l2)(o1:Nt.Ok l1)(o2:Nt.Ok l2)(s1:l1.length<=1000000)(s2:l2.length<=1000000):
 Calls Tryz.prog 135 #[v1,v2] w λe w'=>∃v,e= .returned v/\IsRes w' v (Nt.digs (Nat.gcd (Nt.val l1) (Nt.val l2)))/\Below w.heap.size w w':=by
 have h1':=h1;have h2':=h2;obtain⟨A,c,rfl,-⟩:=h1;obtain⟨A',c',rfl,-⟩:=h2;exact N8 A A' c c' l1 l2 w h1' h2' o1 o2 s1 s2
theorem digs_one:Nt.digs 1=[1]:=by rw[Nt.digs_pos (by decide)];simp[Nt.digs_zero]
theorem Bha (x:Nat):(Nt.digs x==[1])=(x==1):=by
 rw[Bool.eq_iff_iff,beq_iff_eq,beq_iff_eq]
 constructor
 ·intro h
  have:=congrArg Nt.val h;rw[Nt.val_digs] at this;rw[this];rfl
 rintro rfl;exact digs_one
def Ub (g:Nat)(P Q:Array Value)(xs:Nat->Value):Act:={tmps:= #[.agg P,.agg Q,.pointer (some ⟨g,0,none⟩),.pointer (some ⟨g+1,0,none⟩),.pointer (some ⟨g+1+1,0,none⟩),.int .i64 0,xs 6,xs 7,undef,xs 0,xs 1,xs 2,xs 3,xs 4,xs 5,undef,undef,undef,undef,undef,undef,undef,undef,undef,undef,undef,undef,undef,undef,undef,undef,undef,undef,undef,undef,undef,undef,undef,undef,undef,undef,undef,undef,undef,undef,undef,undef,undef,undef,undef,undef,undef,undef,undef,undef,undef,undef,undef,undef,undef,undef,undef,undef,undef],defers:=[]}
def Jla (g:Nat)(V1 V2:Value)(l1 l2:List Nat):Nat->World->Value->Prop
 | 0,w,v=>v= .pointer (some ⟨g,1,none⟩)
 | 1,w,v=>v=V1
 | 2,w,v=>IsRes w v (Nt.digs (Nt.val l1))
 | 3,w,v=>v= .pointer (some ⟨g+1,1,none⟩)
 | 4,w,v=>v=V2
 | 5,w,v=>IsRes w v (Nt.digs (Nt.val l2))
 | 6,w,v=>IsRes w v (Nt.digs (Nt.val l1))
 |_,w,v=>IsRes w v (Nt.digs (Nt.val l2))
theorem Ky (n1 n2:Bool)(v1 v2:Value)(l1 l2:List Nat)(w:World)(h1:IsRes w v1 l1)(h2:IsRes w v2 l2)(o1:Nt.Ok l1)(o2:Nt.Ok l2)(s1:l1.length<=1000000)(s2:l2.length<=1000000):
 Calls Tryz.prog 196 #[.agg #[.bool n1,v1],.agg #[.bool n2,v2]] w (MakeOut w (Rt.mk n1 n2 (Nt.val l1) (Nt.val l2))):=by
 obtain⟨g,hg⟩:∃g,g=w.heap.size:=⟨_,rfl⟩;obtain⟨W,hW⟩:∃W,W=((w.alloc (.cells #[.bool n1,v1] 143)).alloc (.cells #[.bool n2,v2] 143)).alloc (.cells #[.bool false,.slice none 0 0,.slice none 0 0] 83):=⟨_,rfl⟩;have hWs:W.heap.size=g+1+1+1:=by rw[hW,hg];simp
 have hWb:Below g w W:=by rw[hW,hg];exact((Br.alloc Lr _).alloc (by simp) _).alloc (by simp;omega) _
 have hW0:W.heap[g]? =some (.cells #[.bool n1,v1] 143 (0,0)):=by rw[hW,hg];exact(Below.heap_alloc _ _ _ (by simp;omega)).trans (heap_alloc2_old _ _ _)
 have hW1:W.heap[g+1]? =some (.cells #[.bool n2,v2] 143 (0,0)):=by rw[hW,hg];exact(Below.heap_alloc _ _ _ (by simp)).trans (heap_alloc2_new _ _ _)
 have HW2:Hid (W.heap[g+1+1]? =some (.cells #[.bool false,.slice none 0 0,.slice none 0 0] 83 (0,0))):=Qd (by
  rw[hW,hg];have:=heap_alloc_new ((w.alloc (.cells #[.bool n1,v1] 143)).alloc (.cells #[.bool n2,v2] 143)) (.cells #[.bool false,.slice none 0 0,.slice none 0 0] 83);rwa[show((w.alloc (.cells #[.bool n1,v1] 143)).alloc (.cells #[.bool n2,v2] 143)).heap.size=w.heap.size+1+1 by simp] at this)
 have HQ:Hid (∀wx,Below W.heap.size W wx->wx.cell? ⟨g,1,none⟩=some v1/\wx.cell? ⟨g+1,1,none⟩=some v2):=Qd (λwx hx=>⟨(cell_of_row wx g 1 _ _ _ ((hx.block g (by omega)).trans hW0)).trans rfl,(cell_of_row wx (g+1) 1 _ _ _ ((hx.block (g+1) (by omega)).trans hW1)).trans rfl⟩);have HQ0:Hid (∀wx,Below W.heap.size W wx->wx.cell? ⟨g,0,none⟩=some (.bool n1)/\wx.cell? ⟨g+1,0,none⟩=some (.bool n2)):=Qd (λwx hx=>⟨(cell_of_row wx g 0 _ _ _ ((hx.block g (by omega)).trans hW0)).trans rfl,(cell_of_row wx (g+1) 0 _ _ _ ((hx.block (g+1) (by omega)).trans hW1)).trans rfl⟩);have hr1:∀wx,Below W.heap.size W wx->IsRes wx v1 l1:=λwx hx=>(h1.below (by rw[<-hg];exact hWb)).below hx;have hr2:∀wx,Below W.heap.size W wx->IsRes wx v2 l2:=λwx hx=>(h2.below (by rw[<-hg];exact hWb)).below hx;have N1:=Qd (λ(wx:World) (hx:Below W.heap.size W wx)=>Zm (hr1 wx hx) o1 s1);have N2:=Qd (λ(wx:World) (hx:Below W.heap.size W wx)=>Zm (hr2 wx hx) o2 s2);have d1:=Nt.digs_len_le o1;have d2:=Nt.digs_len_le o2;have HW:=Qd hW;have HG:=Qd hg;have hgl:g+1+1<W.heap.size:=by omega
 obtain⟨A1,c1,rfl,-⟩:=h1;obtain⟨A2,c2,rfl,-⟩:=h2;clear hW hW0 hW1 hr1 hr2 hWs;go_enter Tryz.func196,Tryz.ntmps196
 go_wp2_with fail
 rw[<-HW.out,<-hg];clear hg;refine Hk (Ub g #[.bool n1,(.slice A1 l1.length c1)] #[.bool n2,(.slice A2 l2.length c2)]) W (Jla g (.slice A1 l1.length c1) (.slice A2 l2.length c2) l1 l2) (by kernel_rfl) ?_ (by kernel_rfl) (λi=>undef) rfl Br ?_ ?_
 ·intro i w1 w2 v hv hb
  match i with
  | 0=>exact hv
  | 1=>exact hv
  | 2=>exact hv.below hb
  | 3=>exact hv
  | 4=>exact hv
  | 5=>exact hv.below hb
  | 6=>exact hv.below hb
  |i+7=>exact hv.below hb
 ·intro i xs w1 hi hb hdep
  have hi6:i<8:=hi;clear hi;rcases(show i=0\/i=1\/i=2\/i=3\/i=4\/i=5\/i=6\/i=7 by omega) with rfl |rfl |rfl |rfl |rfl |rfl |rfl |rfl
  ·refine Da rfl rfl ?_
   unfold Ub Oper.wp;go_simp
   exact⟨_,by simp only[Ub,Ta];simp[Act.put],rfl,Br⟩
  ·have h0:xs 0= .pointer (some ⟨g,1,none⟩):=hdep 0 (by kernel_rfl)
   refine Da rfl rfl ?_;have q:=(HQ.out w1 hb).1;unfold Ub Oper.wp;simp only[h0];go_simp
   exact⟨_,by simp only[Ub,Ta];simp[Act.put,h0],rfl,Br⟩
  ·have h1:xs 1=(.slice A1 l1.length c1):=hdep 1 (by kernel_rfl)
   refine Da rfl rfl ?_;unfold Ub Oper.wp;simp only[h1];go_simp
   refine(N1.out w1 hb).mono ?_;rintro e w2 ⟨v',rfl,hr,hb2⟩;exact⟨_,by simp only[Ub,Ta];simp[Act.put,h1],hr,hb2⟩
  ·refine Da rfl rfl ?_
   unfold Ub Oper.wp;go_simp
   exact⟨_,by simp only[Ub,Ta];simp[Act.put],rfl,Br⟩
  ·have h3:xs 3= .pointer (some ⟨g+1,1,none⟩):=hdep 3 (by kernel_rfl)
   refine Da rfl rfl ?_;have q:=(HQ.out w1 hb).2;unfold Ub Oper.wp;simp only[h3];go_simp
   exact⟨_,by simp only[Ub,Ta];simp[Act.put,h3],rfl,Br⟩
  ·have h4:xs 4=(.slice A2 l2.length c2):=hdep 4 (by kernel_rfl)
   refine Da rfl rfl ?_;unfold Ub Oper.wp;simp only[h4];go_simp
   refine(N2.out w1 hb).mono ?_;rintro e w2 ⟨v',rfl,hr,hb2⟩;exact⟨_,by simp only[Ub,Ta];simp[Act.put,h4],hr,hb2⟩
  ·have r2:IsRes w1 (xs 2) (Nt.digs (Nt.val l1)):=hdep 2 (by kernel_rfl)
   refine Da rfl rfl ?_;unfold Ub Oper.wp;go_simp
   exact⟨_,by simp only[Ub,Ta];simp[Act.put],r2,Br⟩
  have r5:IsRes w1 (xs 5) (Nt.digs (Nt.val l2)):=hdep 5 (by kernel_rfl);refine Da rfl rfl ?_;unfold Ub Oper.wp;go_simp
  exact⟨_,by simp only[Ub,Ta];simp[Act.put],r5,Br⟩
 intro xs w1 hb hx;have r6:IsRes w1 (xs 6) (Nt.digs (Nt.val l1)):=hx 6 (by decide);have r7:IsRes w1 (xs 7) (Nt.digs (Nt.val l2)):=hx 7 (by decide);clear hx;obtain⟨X,hX⟩:∃X,X=Nt.val l1:=⟨_,rfl⟩;obtain⟨Y,hY⟩:∃Y,Y=Nt.val l2:=⟨_,rfl⟩;rw[<-hX] at r6 d1⊢;rw[<-hY] at r7 d2⊢;have HXv:=Qd hX;have HYv:=Qd hY;clear hX hY;obtain⟨x,hx⟩:∃x,x=Nt.digs X:=⟨_,rfl⟩;obtain⟨y,hy⟩:∃y,y=Nt.digs Y:=⟨_,rfl⟩;have OX:Nt.Ok x:=hx▸Nt.ok_digs X;have OY:Nt.Ok y:=hy▸Nt.ok_digs Y;rw[<-hx] at r6 d1;rw[<-hy] at r7 d2;have HX2:=Qd hx;have HY2:=Qd hy;have HR1:=Qd r6;have HR2:=Qd r7;have HY0:Hid (y.length=0↔Y=0):=Qd (by rw[hy,List.length_eq_zero_iff,Nt.digs_nil_iff]);clear hx hy;obtain⟨C1,k1,f1,-⟩:=r6;obtain⟨C2,k2,f2,-⟩:=r7;rw[f1] at HR1;rw[f2] at HR2;have p0:=(HQ0.out w1 hb).1;have p0':=(HQ0.out w1 hb).2;have HGA:=Qd ((hb.block (g+1+1) hgl).trans HW2.out);have hxw:Below g w w1:=hWb.trans (hb.mono (by omega));unfold Ub;simp only[f1,f2];by_cases hk0:y.length=0
 ·have hz:((y.length:Int)==0)=true:=by rw[hk0];rfl
  have HK0:=Qd (HY0.out.1 hk0);go_wp2_with (first
   |(with_reducible refine Xc rfl (.tmp 4) (.tmp 18) rfl (g+1+1) rfl rfl HGA.out ?_))
  refine Ob (by rfl) (by rfl) (by rfl) rfl HGA.out (MakeOut.of (by unfold Rt.mk;rw[<-HXv.out,<-HYv.out,if_pos HK0.out];rfl) rfl (Ia _) (Ia _) (by rw[<-HG.out];exact rBelow.setRow hxw (by omega) _))
 have hz:((y.length:Int)==0)=false:=beq_eq_false_iff_ne.2 (by omega);have HY1:Hid (Y≠0):=Qd (λh=>hk0 (HY0.out.2 h));by_cases hy1:y=[1]
 ·have q:(y==[1])=true:=by rw[hy1];rfl
  have I1:=Pf _ _ w1 HR2.out;rw[q] at I1;have hYv:Y=1:=by have:=HY2.out;rw[hy1] at this;have:=congrArg Nt.val this;rw[Nt.val_digs] at this;exact this.symm
  have HE1:Hid (x=Nt.digs (X/Nat.gcd X Y)):=Qd (by rw[hYv,Nat.gcd_one_right,Nat.div_one];exact HX2.out);have HE2:Hid (y=Nt.digs (Y/Nat.gcd X Y)):=Qd (by rw[hYv,Nat.gcd_one_right,Nat.div_one,<-hYv];exact HY2.out);have HI1:=Qd I1;have Hy1:=Qd hy1;clear hYv q I1 hy1;go_wp2_with fail
  refine HI1.out.mono ?_;rintro e w2 ⟨rfl,rfl⟩;have HGB:=HGA;have hbw:=hxw;have HT1:=HR1;have HT3:=HR2;clear HGA hxw HI1;have HX0:Hid (x.length=0↔X=0):=Qd (by rw[HE1.out,List.length_eq_zero_iff,Nt.digs_nil_iff];exact Rt.div_gcd_zero HY1.out);by_cases h32:32<x.length
  ·have g1:decide ((32:Int)<(x.length:Int))=true:=by simp;omega
   go_wp2_with (first
    |(with_reducible refine Xc rfl (.tmp 4) (.tmp 50) rfl (g+1+1) rfl rfl HGB.out ?_))
   refine Ob (by rfl) (by rfl) (by rfl) rfl HGB.out (MakeOut.of (by unfold Rt.mk;rw[<-HXv.out,<-HYv.out,if_neg HY1.out,<-HE1.out,<-HE2.out,if_pos (by omega)];rfl) rfl (Ia _) (Ia _) (by rw[<-HG.out];exact rBelow.setRow hbw (by omega) _))
  by_cases h33:32<y.length
  ·have g1:decide ((32:Int)<(x.length:Int))=false:=by simp;omega
   have g2:decide ((32:Int)<(y.length:Int))=true:=by simp;omega
   go_wp2_with (first
    |(with_reducible refine Xc rfl (.tmp 4) (.tmp 50) rfl (g+1+1) rfl rfl HGB.out ?_))
   refine Ob (by rfl) (by rfl) (by rfl) rfl HGB.out (MakeOut.of (by unfold Rt.mk;rw[<-HXv.out,<-HYv.out,if_neg HY1.out,<-HE1.out,<-HE2.out,if_pos (by omega)];rfl) rfl (Ia _) (Ia _) (by rw[<-HG.out];exact rBelow.setRow hbw (by omega) _))
  have g1:decide ((32:Int)<(x.length:Int))=false:=by simp;omega
  have g2:decide ((32:Int)<(y.length:Int))=false:=by simp;omega
  by_cases h34:0<x.length
  ·have g3:decide ((0:Int)<(x.length:Int))=true:=decide_eq_true (by omega)
   have HXB:Hid ((X==0)=false):=Qd (by have:=HX0.out;simp;omega);cases n1<;>cases n2
   all_goals
    go_wp2_with (first
     |(with_reducible refine Xc rfl (.tmp 4) (.tmp 63) rfl (g+1+1) rfl rfl HGB.out ?_))
    refine Ob (by rfl) (by rfl) (by rfl) rfl HGB.out (MakeOut.of (by unfold Rt.mk;rw[<-HXv.out,<-HYv.out,if_neg HY1.out,<-HE1.out,<-HE2.out,if_neg (by omega),HXB.out];rfl) rfl (HT1.out.setRow HGB.out (Ea _ _ _ _ _ _ _) _) (HT3.out.setRow HGB.out (Ea _ _ _ _ _ _ _) _) (by rw[<-HG.out];exact rBelow.setRow hbw (by omega) _))
  have g3:decide ((0:Int)<(x.length:Int))=false:=decide_eq_false (by omega);have HXB:Hid ((X==0)=true):=Qd (by have:=HX0.out;simp;omega);go_wp2_with (first
   |(with_reducible refine Xc rfl (.tmp 4) (.tmp 63) rfl (g+1+1) rfl rfl HGB.out ?_))
  refine Ob (by rfl) (by rfl) (by rfl) rfl HGB.out (MakeOut.of (by unfold Rt.mk;rw[<-HXv.out,<-HYv.out,if_neg HY1.out,<-HE1.out,<-HE2.out,if_neg (by omega),HXB.out];rfl) rfl (HT1.out.setRow HGB.out (Ea _ _ _ _ _ _ _) _) (HT3.out.setRow HGB.out (Ea _ _ _ _ _ _ _) _) (by rw[<-HG.out];exact rBelow.setRow hbw (by omega) _))
 have q:(y==[1])=false:=beq_eq_false_iff_ne.2 hy1;have I1:=Pf _ _ w1 HR2.out;rw[q] at I1;have HI1:=Qd I1;have hvx:Nt.val x=X:=by rw[HX2.out,Nt.val_digs]
 have hvy:Nt.val y=Y:=by rw[HY2.out,Nt.val_digs]
 have HVX:=Qd hvx;have HVY:=Qd hvy;obtain⟨G,hG⟩:∃G,G=Nat.gcd X Y:=⟨_,rfl⟩;have GC:=Aha HR1.out HR2.out OX OY (by omega) (by omega);rw[hvx,hvy,<-hG] at GC;have HGC:=Qd GC;have HGG:=Qd hG;have HG0:Hid (G≠0):=Qd (by rw[hG];have:=Nat.gcd_pos_of_pos_right X (Nat.pos_of_ne_zero HY1.out);omega);have hGl:(Nt.digs G).length<=1000000:=by
  have:=Nt.digs_len_le_of (show G<=Y by rw[hG];exact Nat.le_of_dvd (Nat.pos_of_ne_zero HY1.out) (Nat.gcd_dvd_right X Y));rw[<-HY2.out] at this;omega
 have hgl1:=Pa HGA.out;clear hy1 q I1 hvx hvy GC hG;go_wp2_with fail
 refine HI1.out.mono ?_;rintro e w2 ⟨rfl,rfl⟩;clear HI1;go_wp2_with fail
 refine HGC.out.mono ?_;rintro e w2 ⟨v3,rfl,hr3,hb3⟩;have HR3:=Qd hr3;have HR1b:=Qd (HR1.out.below hb3);have HR2b:=Qd (HR2.out.below hb3);have HGA2:=Qd ((hb3.block (g+1+1) (by omega)).trans HGA.out);have hxw2:Below g w w2:=hxw.trans (hb3.mono (by omega));have P0:=Qd ((hb3.cell (p:=⟨g,0,none⟩) (show g<_ by omega)).trans p0);have P0':=Qd ((hb3.cell (p:=⟨g+1,0,none⟩) (show g+1<_ by omega)).trans p0');have I3:=Pf v3 (Nt.digs G) w2 hr3;rw[Bha] at I3;have HI3':=Qd I3;have hs3:=hb3.size;have hgl2:g+1+1<w2.heap.size:=by omega
 clear hr3 hb3 p0 p0' I3 HGC HGA hxw;by_cases hg1:G=1
 ·have q3:(G==1)=true:=by rw[hg1];rfl
  rw[q3] at HI3';have HE1:Hid (x=Nt.digs (X/Nat.gcd X Y)):=Qd (by rw[<-HGG.out,hg1,Nat.div_one];exact HX2.out);have HE2:Hid (y=Nt.digs (Y/Nat.gcd X Y)):=Qd (by rw[<-HGG.out,hg1,Nat.div_one];exact HY2.out);clear hg1 q3;go_wp2_with fail
  refine HI3'.out.mono ?_;rintro e w3 ⟨rfl,rfl⟩;have HGB:=HGA2;have hbw:=hxw2;have HT1:=HR1b;have HT3:=HR2b;have p0:=P0.out;have p0':=P0'.out;clear HGA2 hxw2 HI3' P0 P0';have HX0:Hid (x.length=0↔X=0):=Qd (by rw[HE1.out,List.length_eq_zero_iff,Nt.digs_nil_iff];exact Rt.div_gcd_zero HY1.out);by_cases h32:32<x.length
  ·have g1:decide ((32:Int)<(x.length:Int))=true:=by simp;omega
   go_wp2_with (first
    |(with_reducible refine Xc rfl (.tmp 4) (.tmp 50) rfl (g+1+1) rfl rfl HGB.out ?_))
   refine Ob (by rfl) (by rfl) (by rfl) rfl HGB.out (MakeOut.of (by unfold Rt.mk;rw[<-HXv.out,<-HYv.out,if_neg HY1.out,<-HE1.out,<-HE2.out,if_pos (by omega)];rfl) rfl (Ia _) (Ia _) (by rw[<-HG.out];exact rBelow.setRow hbw (by omega) _))
  by_cases h33:32<y.length
  ·have g1:decide ((32:Int)<(x.length:Int))=false:=by simp;omega
   have g2:decide ((32:Int)<(y.length:Int))=true:=by simp;omega
   go_wp2_with (first
    |(with_reducible refine Xc rfl (.tmp 4) (.tmp 50) rfl (g+1+1) rfl rfl HGB.out ?_))
   refine Ob (by rfl) (by rfl) (by rfl) rfl HGB.out (MakeOut.of (by unfold Rt.mk;rw[<-HXv.out,<-HYv.out,if_neg HY1.out,<-HE1.out,<-HE2.out,if_pos (by omega)];rfl) rfl (Ia _) (Ia _) (by rw[<-HG.out];exact rBelow.setRow hbw (by omega) _))
  have g1:decide ((32:Int)<(x.length:Int))=false:=by simp;omega
  have g2:decide ((32:Int)<(y.length:Int))=false:=by simp;omega
  by_cases h34:0<x.length
  ·have g3:decide ((0:Int)<(x.length:Int))=true:=decide_eq_true (by omega)
   have HXB:Hid ((X==0)=false):=Qd (by have:=HX0.out;simp;omega);cases n1<;>cases n2
   all_goals
    go_wp2_with (first
     |(with_reducible refine Xc rfl (.tmp 4) (.tmp 63) rfl (g+1+1) rfl rfl HGB.out ?_))
    refine Ob (by rfl) (by rfl) (by rfl) rfl HGB.out (MakeOut.of (by unfold Rt.mk;rw[<-HXv.out,<-HYv.out,if_neg HY1.out,<-HE1.out,<-HE2.out,if_neg (by omega),HXB.out];rfl) rfl (HT1.out.setRow HGB.out (Ea _ _ _ _ _ _ _) _) (HT3.out.setRow HGB.out (Ea _ _ _ _ _ _ _) _) (by rw[<-HG.out];exact rBelow.setRow hbw (by omega) _))
  have g3:decide ((0:Int)<(x.length:Int))=false:=decide_eq_false (by omega);have HXB:Hid ((X==0)=true):=Qd (by have:=HX0.out;simp;omega);go_wp2_with (first
   |(with_reducible refine Xc rfl (.tmp 4) (.tmp 63) rfl (g+1+1) rfl rfl HGB.out ?_))
  refine Ob (by rfl) (by rfl) (by rfl) rfl HGB.out (MakeOut.of (by unfold Rt.mk;rw[<-HXv.out,<-HYv.out,if_neg HY1.out,<-HE1.out,<-HE2.out,if_neg (by omega),HXB.out];rfl) rfl (HT1.out.setRow HGB.out (Ea _ _ _ _ _ _ _) _) (HT3.out.setRow HGB.out (Ea _ _ _ _ _ _ _) _) (by rw[<-HG.out];exact rBelow.setRow hbw (by omega) _))
 have q3:(G==1)=false:=beq_eq_false_iff_ne.2 hg1;rw[q3] at HI3';have DM:=Zp HR1b.out HR3.out OX (Nt.ok_digs G) (by omega) hGl;rw[HVX.out,Nt.val_digs] at DM;have HDM:=Qd DM;clear hg1 q3 DM;go_wp2_with fail
 refine HI3'.out.mono ?_;rintro e w3 ⟨rfl,rfl⟩;clear HI3';go_wp2_with fail
 refine HDM.out.mono ?_;rintro e w4 ⟨u1,u2,rfl,t1,t2,hb4⟩;have HT1a:=Qd t1;have DN:=Zp (HR2b.out.below hb4) (HR3.out.below hb4) OY (Nt.ok_digs G) (by omega) hGl;rw[HVY.out,Nt.val_digs] at DN;have HDN:=Qd DN;have HGA3:=Qd ((hb4.block (g+1+1) (by omega)).trans HGA2.out);have hxw3:Below g w w4:=hxw2.trans (hb4.mono (by omega));have P1:=Qd ((hb4.cell (p:=⟨g,0,none⟩) (show g<_ by omega)).trans P0.out);have P1':=Qd ((hb4.cell (p:=⟨g+1,0,none⟩) (show g+1<_ by omega)).trans P0'.out);have hs4:=hb4.size;clear t1 t2 hb4 DN HDM HGA2 hxw2 P0 P0' HR1b HR2b;go_wp2_with fail
 refine HDN.out.mono ?_;rintro e w5 ⟨u3,u4,rfl,t3,t4,hb5⟩;have HGB:=Qd ((hb5.block (g+1+1) (by omega)).trans HGA3.out);have hbw:Below g w w5:=hxw3.trans (hb5.mono (by omega));have P2:=Qd ((hb5.cell (p:=⟨g,0,none⟩) (show g<_ by omega)).trans P1.out);have P2':=Qd ((hb5.cell (p:=⟨g+1,0,none⟩) (show g+1<_ by omega)).trans P1'.out);have hT1:=HT1a.out.below hb5;obtain⟨e1,he1⟩:∃e1,e1=Nt.digs (Nt.quo X G):=⟨_,rfl⟩;obtain⟨e2,he2⟩:∃e2,e2=Nt.digs (Nt.quo Y G):=⟨_,rfl⟩;rw[<-he1] at hT1;rw[<-he2] at t3;rw[HGG.out] at he1 he2;have HE1:Hid (e1=Nt.digs (X/Nat.gcd X Y)):=Qd he1;have HE2:Hid (e2=Nt.digs (Y/Nat.gcd X Y)):=Qd he2;have HT1:=Qd hT1;have HT3:=Qd t3;clear he1 he2 hT1 t3 t4 hb5 HDN HGA3 hxw3 P1 P1' HT1a;have HX0:Hid (e1.length=0↔X=0):=Qd (by rw[HE1.out,List.length_eq_zero_iff,Nt.digs_nil_iff];exact Rt.div_gcd_zero HY1.out);obtain⟨B1,a1,rfl,-⟩:=HT1.out;obtain⟨B2,a2,rfl,-⟩:=HT3.out;have p0:=P2.out;have p0':=P2'.out;clear P2 P2';by_cases h32:32<e1.length
 ·have g1:decide ((32:Int)<(e1.length:Int))=true:=by simp;omega
  go_wp2_with (first
   |(with_reducible refine Xc rfl (.tmp 4) (.tmp 50) rfl (g+1+1) rfl rfl HGB.out ?_))
  refine Ob (by rfl) (by rfl) (by rfl) rfl HGB.out (MakeOut.of (by unfold Rt.mk;rw[<-HXv.out,<-HYv.out,if_neg HY1.out,<-HE1.out,<-HE2.out,if_pos (by omega)];rfl) rfl (Ia _) (Ia _) (by rw[<-HG.out];exact rBelow.setRow hbw (by omega) _))
 by_cases h33:32<e2.length
 ·have g1:decide ((32:Int)<(e1.length:Int))=false:=by simp;omega
  have g2:decide ((32:Int)<(e2.length:Int))=true:=by simp;omega
  go_wp2_with (first
   |(with_reducible refine Xc rfl (.tmp 4) (.tmp 50) rfl (g+1+1) rfl rfl HGB.out ?_))
  refine Ob (by rfl) (by rfl) (by rfl) rfl HGB.out (MakeOut.of (by unfold Rt.mk;rw[<-HXv.out,<-HYv.out,if_neg HY1.out,<-HE1.out,<-HE2.out,if_pos (by omega)];rfl) rfl (Ia _) (Ia _) (by rw[<-HG.out];exact rBelow.setRow hbw (by omega) _))
 have g1:decide ((32:Int)<(e1.length:Int))=false:=by simp;omega
 have g2:decide ((32:Int)<(e2.length:Int))=false:=by simp;omega
 by_cases h34:0<e1.length
 ·have g3:decide ((0:Int)<(e1.length:Int))=true:=decide_eq_true (by omega)
  have HXB:Hid ((X==0)=false):=Qd (by have:=HX0.out;simp;omega);cases n1<;>cases n2
  all_goals
   go_wp2_with (first
    |(with_reducible refine Xc rfl (.tmp 4) (.tmp 63) rfl (g+1+1) rfl rfl HGB.out ?_))
   refine Ob (by rfl) (by rfl) (by rfl) rfl HGB.out (MakeOut.of (by unfold Rt.mk;rw[<-HXv.out,<-HYv.out,if_neg HY1.out,<-HE1.out,<-HE2.out,if_neg (by omega),HXB.out];rfl) rfl (HT1.out.setRow HGB.out (Ea _ _ _ _ _ _ _) _) (HT3.out.setRow HGB.out (Ea _ _ _ _ _ _ _) _) (by rw[<-HG.out];exact rBelow.setRow hbw (by omega) _))
 have g3:decide ((0:Int)<(e1.length:Int))=false:=decide_eq_false (by omega);have HXB:Hid ((X==0)=true):=Qd (by have:=HX0.out;simp;omega);go_wp2_with (first
  |(with_reducible refine Xc rfl (.tmp 4) (.tmp 63) rfl (g+1+1) rfl rfl HGB.out ?_))
 refine Ob (by rfl) (by rfl) (by rfl) rfl HGB.out (MakeOut.of (by unfold Rt.mk;rw[<-HXv.out,<-HYv.out,if_neg HY1.out,<-HE1.out,<-HE2.out,if_neg (by omega),HXB.out];rfl) rfl (HT1.out.setRow HGB.out (Ea _ _ _ _ _ _ _) _) (HT3.out.setRow HGB.out (Ea _ _ _ _ _ _ _) _) (by rw[<-HG.out];exact rBelow.setRow hbw (by omega) _))
end Go.Proofs.YtmiccalfamepdaaGreatDoor
namespace Nt
def TenDnAt (l:List Nat)(cur:List Nat)(k r:Nat):Prop:=cur.length+k=l.length/\Ok cur/\r<10/\val cur*10+r=val (l.drop k)
theorem tenDn_start (l:List Nat):TenDnAt l [] l.length 0:=⟨by simp,Ir,by omega,by simp[val]⟩
theorem tenDn_step {l cur:List Nat}{k r:Nat}(h:TenDnAt l cur (k+1) r)(hk:k<l.length)(hl:Ok l):TenDnAt l ((r*4294967296+l[k])/10::cur) k ((r*4294967296+l[k])%10):=by
 obtain⟨h1,h2,h3,h4⟩:=h;have hx:=ok_get hl hk;refine⟨by simp;omega,λd hd=>?_,by omega,?_⟩
 ·rcases List.mem_cons.1 hd with e |e
  ·rw[e];omega
  exact h2 d e
 rw[List.drop_eq_getElem_cons hk,val,val,<-h4];generalize l[k]=x at*;generalize val cur=V at*;omega
theorem tenDn_end {l cur:List Nat}{r:Nat}(h:TenDnAt l cur 0 r):val cur=val l/10/\r=val l%10:=by
 obtain⟨h1,h2,h3,h4⟩:=h;rw[List.drop_zero] at h4;omega
end Nt
namespace Go.Proofs.YtmiccalfamepdaaGreatDoor
open Go.RowKit
def Wda:Value->Nat
 | .string b=>b.size
 |_=>0
theorem Lies.cells_ {w:World}{B:Nat}{ad:Addr}{xs:List Value}(h:Lies w B (some ad) xs):∀j u,xs[j]? =some u->w.cell? (ad.add j)=some u:=λj u hj=>by
 have hp:0<xs.length:=by
  rcases Nat.lt_or_ge j xs.length with h' |h'
  ·omega
  rw[List.getElem?_eq_none h'] at hj;cases hj
 obtain⟨ad',h1,h2⟩:=h.src hp;injection h1 with h1
 subst h1;exact h2 j u hj
theorem Xda {r:Nat}(h:r<10):(⟨#[48,49,50,51,52,53,54,55,56,57]⟩:ByteArray).extract r (r+1)=⟨#[Ten.dch r]⟩:=by
 match r,h with
 | 0,_=>decide
 | 1,_=>decide
 | 2,_=>decide
 | 3,_=>decide
 | 4,_=>decide
 | 5,_=>decide
 | 6,_=>decide
 | 7,_=>decide
 | 8,_=>decide
 | 9,_=>decide
def Cv (k:Nat):Nat:=10^(10*(k+1))
theorem P8 (k:Nat){l:List Nat}(ho:Nt.Ok l)(hs:l.length<=k+1):Nt.val l<Cv k:=by
 have h1:=Nt.val_lt ho;have h2:(4294967296:Nat)^l.length<=4294967296^(k+1):=Nat.pow_le_pow_right (by omega) hs;have h3:(4294967296:Nat)^(k+1)<=(10^10)^(k+1):=Nat.pow_le_pow_left (by omega) (k+1);rw[<-Nat.pow_mul] at h3;exact Nat.lt_of_lt_of_le h1 (Nat.le_trans h2 h3)
theorem Q8 (k:Nat){n:Nat}(h:n<Cv k):(Lib.decDigits n).length<=10*(k+1):=by
 have:=(Ten.dec_len (k:=10*k+9) (r:=n) (by rw[show 10*k+9+1=10*(k+1) by omega];exact h)).2;omega
theorem Qf {l:List Nat}(ho:Nt.Ok l)(hs:l.length<=1000):(Lib.decDigits (Nt.val l)).length<=10000:=Q8 999 (P8 999 ho hs)
theorem Yda {n y:Nat}{T:List UInt8}(h:Ten.OutAt n y T):T.length<=(Lib.decDigits n).length/\(0<y->T.length<(Lib.decDigits n).length):=by
 have hne:=Ten.dec_ne y;have:0<(Lib.decDigits y).length:=List.length_pos_iff.2 hne;rcases Nat.eq_zero_or_pos y with e |e
 ·exact⟨by rw[h.2 e];exact Lr,λh'=>by omega⟩
 have:=h.1 e;exact⟨by rw[this,List.length_append];omega,λ_=>by rw[this,List.length_append];omega⟩
theorem H7 (A:Option Addr)(c B:Nat)(l:List Nat)(w:World)(hl:Lies w B A (U l))(hB:B<=w.heap.size)(ho:Nt.Ok l)(hc:l.length<=c)(hm:c<=9223372036854775807)(hA:A=none->c=0)(hs:l.length<=1000):
 Calls Tryz.prog 97 #[.slice A l.length c] w λe w'=>e= .returned (.string ⟨(Lib.decDigits (Nt.val l)).toArray⟩)/\Below w.heap.size w w':=by
 obtain⟨i0,hi,hz0,hz1,hz2⟩:=info_parts Mc;have hdl:=Nt.digs_len_le ho;have hlen:=Qf ho hs;have RN:=Qd (Xe A c B l w hl hB ho hc hm hA (by omega));clear hl ho;generalize Nt.val l=n at*;go_enter Tryz.func97,Tryz.ntmps97
 go_wp2_with fail
 refine RN.out.mono ?_;rintro e w1 ⟨v,rfl,hres,hb1⟩;obtain⟨A1,c1,rfl,hc1,hc2,hc3,hlies⟩:=hres;by_cases h0:n=0
 ·subst h0
  rw[Nt.digs_zero];clear RN;have HZ:Hid (Lib.decDigits 0=[48]):=Qd (Ten.dec_small (by omega));go_wp2_with fail
  go_ret;rw[HZ.out];exact⟨rfl,hb1⟩
 have hne:(Nt.digs n).length≠0:=λe=>h0 (Nt.digs_nil_iff.1 (List.eq_nil_of_length_eq_zero e));have hne2:(((Nt.digs n).length:Int)==0)=false:=by rw[beq_eq_false_iff_ne];omega
 clear RN;go_wp2_with fail
 go_loopw [3,4] (λxv sv wr=>∃(y:Nat) (T:List UInt8),(Nt.digs y).length<=1000/\T.length<=10000/\sv= .string ⟨T.toArray⟩/\IsRes wr xv (Nt.digs y)/\Below w.heap.size w wr/\Hid (Ten.OutAt n y T)) (λ_ sv _=>10001-Wda sv)
 case atStart=>exact⟨n,[],by omega,by simp,rfl,⟨A1,c1,rfl,hc1,hc2,hc3,hlies⟩,hb1,Qd (Ten.OutAt.start (by omega))⟩
 case round=>
  clear hlies hc1 hc2 hc3 hb1 hne hne2;obtain⟨y,T,hyl,hT,rfl,⟨A1,c1,rfl,hc1,hc2,hc3,hlies⟩,hbel,H⟩:=hrel;have hsz:=hbel.size;by_cases hy0:y=0
  ·subst hy0
   have HE:=Qd (H.out.2 rfl);rw[Nt.digs_zero];go_wp2_with fail
   go_ret;rw[HE.out];exact⟨rfl,hbel⟩
  have hypos:0<(Nt.digs y).length:=Nat.pos_of_ne_zero (λe=>hy0 (Nt.digs_nil_iff.1 (List.eq_nil_of_length_eq_zero e)));have hTl:=(Yda H.out).2 (by omega);have STEP:=Qd (H.out.step (by omega));have HDE:Hid (∀cur r,Nt.TenDnAt (Nt.digs y) cur 0 r->Nt.val cur=y/10/\r=y%10/\Nt.Ok cur/\cur.length=(Nt.digs y).length):=Qd (λcur r h=>by
   have:=Nt.tenDn_end h;rw[Nt.val_digs] at this;exact⟨this.1,this.2,h.2.1,by have:=h.1;omega⟩)
  have HYL:Hid ((Nt.digs (y/10)).length<=1000):=Qd (Nat.le_trans (Nt.digs_len_le_of (Nat.div_le_self y 10)) hyl);have OX:=Qd (Nt.ok_digs y);have DS:=Qd (Nt.tenDn_start (Nt.digs y));obtain⟨dx,hdx⟩:∃dx,dx=Nt.digs y:=⟨_,rfl⟩;rw[<-hdx] at hyl hc1 hlies hypos HDE OX DS⊢;clear hdx H
  rename World=>W
  go_wp2_with fail
  go_loopw [5,6,7] (λov rv iv wq=>∃(k r:Nat) (cur:List Nat),k<=dx.length/\r<10/\iv= .int .i64 ((k:Int)-1)/\rv= .int .u64 (r:Int)/\IsRes wq ov cur/\Below W.heap.size W wq/\Hid (Nt.TenDnAt dx cur k r)) (λ_ _ iv _=>(intOf iv+1).toNat)
  case atStart=>exact⟨dx.length,0,[],Lr,by omega,by go_num,rfl,IsRes.none_ _,Br,DS⟩
  case round=>
   obtain⟨k,r,cur,hk,hr,rfl,rfl,⟨A2,c2,rfl,hd1,hd2,hd3,hl2⟩,hbq,HQ⟩:=hrel;have hszq:=hbq.size;rcases k with _ |k
   ·obtain⟨hv1,hv2,hv3,hv4⟩:=HDE.out cur r HQ.out
    have RN:=Qd (Xe A2 c2 _ cur wr hl2 Lr hv3 hd1 hd2 hd3 (by omega));rw[hv1] at RN;rw[<-hv2] at STEP;have HDG:=Qd (Xda hr);have hcl:cur.length<=1000:=by omega
    clear hv1 hv2 hv3 hv4 hl2 hd3 HDE DS OX;go_wp2_with fail
    rw[HDG.out,show(⟨#[Ten.dch r]⟩:ByteArray)++⟨T.toArray⟩=⟨(Ten.dch r::T).toArray⟩ from by
     apply ByteArray.ext;simp]
    refine RN.out.mono ?_;rintro e w3 ⟨v3,rfl,hres3,hb3⟩;have hyq:(Nt.digs (y/10)).length<=1000:=HYL.out;go_wp2_with fail
    exact⟨⟨y/10,Ten.dch r::T,hyq,by simp;omega,rfl,hres3,hbel.trans ((hbq.trans (hb3.mono hszq)).mono hsz),STEP⟩,by simp[Wda,ByteArray.size];omega⟩
   have hk1:((k+1:Nat):Int)-1=(k:Int):=by omega
   rw[hk1];clear hk1;have hkl:k<dx.length:=by omega
   obtain⟨b,off,rfl,hbb,hcell⟩:=(hlies.below hbq).limb hkl;have hxb:=Nt.ok_get OX.out hkl;have ST:=Qd (Nt.tenDn_step HQ.out hkl OX.out);have hcl:cur.length+(k+1)=dx.length:=HQ.out.1;generalize dx[k]=x at hcell hxb ST;obtain⟨t,ht⟩:∃t,t=r*4294967296+x:=⟨_,rfl⟩;have hti:(r:Int)*4294967296+(x:Int)=(t:Int):=by omega
   have htb:t<42949672960:=by omega
   rw[<-ht] at ST;clear ht;obtain⟨q,hq⟩:∃q,q=t/10:=⟨_,rfl⟩;have hqi:(t:Int)/10=(q:Int):=by omega
   have hqb:q<4294967296:=by omega
   obtain⟨r2,hr2⟩:∃r2,r2=t%10:=⟨_,rfl⟩;have hri:(t:Int)%10=(r2:Int):=by omega
   have hrb:r2<10:=by omega
   rw[<-hq,<-hr2] at ST;clear hq hr2;have hown1:(wr.alloc (.cells #[.int .u32 (q:Int)] 139)).ownsRow W.heap.size 139 1 (.slice (some ⟨wr.heap.size,0,none⟩) 1 1) 1 [.int .u32 (q:Int)]:=(Blk.new wr 139 [.int .u32 (q:Int)]).own_all hszq (by simp[maxLen]);have hb4:=hbq.alloc hszq (.cells #[.int .u32 (q:Int)] 139);rcases A2 with _ |ad
   ·have hc0:c2=0:=hd3 rfl
    subst hc0;obtain rfl:cur=[]:=List.eq_nil_of_length_eq_zero (by omega);go_wp2_with (at_builtin;refine wpList_append_own_none rfl _ _ 81 rfl W.heap.size 139 i0 1 Tryz.underlying81 hi _ 1 _ rfl hown1 rfl ?_)
    refine⟨⟨k,r2,[q],by omega,hrb,by go_num,congrArg (Value.int .u64) (by omega),IsRes.of_own (base:=W.heap.size) hown1,hb4,ST⟩,?_⟩
    first|(simp[intOf];done) |(simp[intOf];omega)
   have hl3:Lies (wr.alloc (.cells #[.int .u32 (q:Int)] 139)) wr.heap.size (some ad) (U cur):=Lies.below (show Lies wr wr.heap.size (some ad) (U cur) from hl2) (Br.alloc Lr _);clear hd3;go_wp2_with (at_builtin;refine wpList_append_own _ rfl _ _ 81 rfl W.heap.size 139 i0 (.int .u32 0) 1 4 Tryz.underlying81 hi hz0 hz1 hz2 rfl (by decide) _ 1 _ rfl hown1 ad cur.length c2 (U cur) rfl (by rw[Nd];omega) (Lies.cells_ hl3) (Baa _) (by unfold maxLen;omega) (by omega) (by simp;omega) ?_;intro v3 w3 hown3 hgrow3 hnn3)
   have hb3:Below W.heap.size W w3:=hb4.grown hgrow3 (by simp;omega) (λk hk=>by injection hk with hk;subst hk;exact hszq);refine⟨⟨k,r2,q::cur,by omega,hrb,by go_num,congrArg (Value.int .u64) (by omega),IsRes.of_own (base:=W.heap.size) ?_,hb3,ST⟩,?_⟩
   ·rw[Nat.add_comm] at hown3;exact hown3
   first|(simp[intOf];done) |(simp[intOf];omega)
end Go.Proofs.YtmiccalfamepdaaGreatDoor
namespace Go.Proofs.YtmiccalfamepdaaGreatDoor
open Go.RowKit
theorem Q1 {w w':World}{base n:Nat}{t:TypeId}{v:Value}{xs:List Value}(h:w.ownsRow base t 1 v n xs)(hk:∀g,base<=g->g<w.heap.size->w'.heap[g]? =w.heap[g]?):w'.ownsRow base t 1 v n xs:=by
 refine⟨h.1,?_⟩;rcases h.2 with h2 |⟨g,cap,cur,hv,hb,hg,hr⟩
 ·exact .inl h2
 refine .inr ⟨g,cap,cur,hv,hb,?_,hr⟩;rw[hk g hb (by
  rcases Nat.lt_or_ge g w.heap.size with h' |h'
  ·exact h'
  rw[Array.getElem?_eq_none h'] at hg;cases hg)]
 exact hg
theorem Qh {w w':World}{T e:TypeId}{B b:Nat}{bs:List Value}(h:Lib.IsBuilder T e B b bs w)(hb:Below w.heap.size w w'):Lib.IsBuilder T e B b bs w':=by
 have one:∀{p:Value},Lib.BuilderAt T e B b p bs w->Lib.BuilderAt T e B b p bs w':=λ{p} k=>by
  have hlt:=k.lt;obtain⟨h1,v,h2,h3,h4⟩:=k;exact⟨h1,v,(hb.block b hlt).trans h2,Q1 h3 (λg _ hg=>hb.block g hg),h4⟩
 exact h.imp one one
theorem Xj {P:Program}{w w':World}{Su:String}{k:IntKind}{zs:List Int}{B:Nat}(h:Lib.TabIs P w Su k zs)(hb:Below B w w')(hg:∀g,P.globalNamed Su=some g->g<B):Lib.TabIs P w' Su k zs:=by
 unfold Lib.TabIs World.var? at*;cases he:P.globalNamed Su with
 |none=>simp[he] at h
 |some g=>
  simp only[he,Option.bind_some] at h⊢;rw[hb.block g (hg g he)];exact h
def U1:Value->Nat
 | .slice _ n _=>n
 |_=>0
def Ng (v i:Nat):List Nat:=(List.range i).map (Ten.grp v)
theorem Cha (v i:Nat):(Ng v i).length=i:=by simp[Ng]
theorem Zda (v i:Nat):Ng v (i+1)=Ng v i++[Ten.grp v i]:=by simp[Ng,List.range_succ]
theorem Kja {v i j:Nat}(h:j<i):(Ng v i)[j]? =some (Ten.grp v j):=by
 rw[Ng,List.getElem?_map,List.getElem?_range h];rfl
theorem Xaa (k:Nat){v i:Nat}(hv:v<Cv k)(h:0<v/1000000000^i):9*i<10*(k+1):=by
 rcases Nat.lt_or_ge (9*i) (10*(k+1)) with h' |h'
 ·exact h'
 exfalso
 have h1:(10:Nat)^(10*(k+1))<=10^(9*i):=Nat.pow_le_pow_right (by omega) h';rw[Nat.pow_mul 10 9 i] at h1;rw[Nat.div_eq_of_lt (Nat.lt_of_lt_of_le hv h1)] at h;omega
theorem Aea {v i:Nat}(hv:v<Cv 999)(h:0<v/1000000000^i):i<1112:=by
 have:=Xaa 999 hv h;omega
theorem Bea {l:List Nat}(ho:Nt.Ok l)(hs:l.length<=1000):Nt.val l<Cv 999:=P8 999 ho hs
theorem Cea {m n:Nat}(h:m<=n)(hn:n<Cv 999):(Lib.decDigits m).length<=10000:=Q8 999 (Nat.lt_of_le_of_lt h hn)
theorem Z1:∀c,Lib.repeatL [48] c=List.replicate c 48
 | 0=>rfl
 |c+1=>by rw[Lib.repeatL,Z1 c,List.replicate_succ];rfl
theorem Yaa {n i j:Nat}(h:0<n/1000000000^j)(hij:i<=j):0<n/1000000000^i:=
 Nat.lt_of_lt_of_le h (Nat.div_le_div_left (Nat.pow_le_pow_right (by omega) hij) (Nat.pow_pos (by omega)))
theorem Dha (A:Option Addr)(c B:Nat)(l:List Nat)(w:World)(hl:Lies w B A (U l))(hB:B<=w.heap.size)(ho:Nt.Ok l)(hc:l.length<=c)(hm:c<=9223372036854775807)(hs:l.length<=1000)
 (htab:Lib.TabIs Tryz.prog w "internal/strconv.uint64pow10" .u64 Lib.pow10Tab) (hg:∀g,Tryz.prog.globalNamed "internal/strconv.uint64pow10" =some g→g<w.heap.size):
 Calls Tryz.prog 117 #[.slice A l.length c] w λe w'=>e= .returned (.string ⟨(Lib.decDigits (Nt.val l)).toArray⟩)/\Below w.heap.size w w':=by
 obtain⟨i0,hi,hz0,hz1,hz2⟩:=info_parts Mc;have hdl:=Nt.digs_len_le ho;have hlen:=Qf ho hs;have hvb:=Qd (Bea ho hs);have RN:=Qd (Kf A c B l w hl hB ho hc hm (by omega));have HTAB:=Qd htab;have HG:=Qd hg;clear hl ho htab hg;generalize Nt.val l=n at*;go_enter Tryz.func117,Tryz.ntmps117
 go_wp2_with fail
 refine RN.out.mono ?_;rintro e w1 ⟨rfl,hblk1,hb1⟩;by_cases h0:n=0
 ·subst h0
  rw[Nt.digs_zero];clear RN;have HZ:Hid (Lib.decDigits 0=[48]):=Qd (Ten.dec_small (by omega));go_wp2_with fail
  go_ret;rw[HZ.out];exact⟨rfl,hb1⟩
 have hne:(Nt.digs n).length≠0:=λe=>h0 (Nt.digs_nil_iff.1 (List.eq_nil_of_length_eq_zero e));have hne2:(((Nt.digs n).length:Int)==0)=false:=by rw[beq_eq_false_iff_ne];omega
 clear RN;have hsz1:=hblk1.lt;go_wp2_with (at_make;refine Sb _ rfl _ _ 81 rfl 139 i0 (.int .u32 0) Tryz.underlying81 hi hz0 hz1 rfl .i64 .i64 _ _ 0 ((Nt.digs n).length+(Nt.digs n).length/8+1) rfl rfl rfl (by go_num) (by omega) (by rw[hz2];omega) (by omega) w.heap.size w hb1 (by omega) ?_;intro w2 hblk2 hb2 hb2' hlt2)
 have hown2:w2.ownsRow (w.heap.size+1) 139 1 (.slice (some ⟨w1.heap.size,0,none⟩) 0 ((Nt.digs n).length+(Nt.digs n).length/8+1)) 0 []:=by
  have:=hblk2.own (base:=w.heap.size+1) (n:=0) (by omega) (by omega) (by simp[maxLen];omega)
  simpa using this
 have hblkG:=hblk1.keep hb2' hsz1;clear hblk1 hblk2 hb1 hb2' hlt2;go_loopw [3,4] (λrv gv wr=>∃(i y cc:Nat) (tl:List Value),i<=1112/\(Nt.digs y).length<=1000/\(Nt.digs y).length<=cc/\cc<=1000/\rv= .slice (some ⟨w.heap.size,0,none⟩) (Nt.digs y).length cc/\Blk wr w.heap.size 139 (U (Nt.digs y)++tl)/\wr.ownsRow (w.heap.size+1) 139 1 gv i (U (Ng n i))/\Below w.heap.size w wr/\Hid (y=n/1000000000^i/\(i=0\/0<n/1000000000^(i-1)))) (λ_ gv _=>1200-U1 gv)
 case atStart=>exact⟨0,n,(Nt.digs n).length,[],by omega,by omega,Lr,by omega,rfl,by rw[List.append_nil];exact hblkG,hown2,hb2,Qd ⟨by simp,.inl rfl⟩⟩
 case round=>
  clear hown2 hblkG hb2 hne hne2;obtain⟨i,y,cc,tl,hi12,hyl,hycc,hcc,rfl,hblk,hown,hbel,H⟩:=hrel;have hsz:=hbel.size;have hszG:=hblk.lt;obtain⟨A2,C2,rfl,hC1,hC2⟩:=Na hown;by_cases hy0:y=0
  ·subst hy0
   rw[Nt.digs_zero];go_wp2_with fail
   have hip:0<i:=by
    rcases Nat.eq_zero_or_pos i with e |e
    ·have:=H.out.1;rw[e] at this;simp at this;omega
    exact e
   have HT0:Hid (n/1000000000^i=0∧0<n/1000000000^(i-1)):=Qd ⟨H.out.1.symm,H.out.2.resolve_left (by omega)⟩;have HLG:=Qd (Lies.of_own hown);have HTABW:Hid (∀wq,Below wr.heap.size wr wq→Lib.TabIs Tryz.prog wq "internal/strconv.uint64pow10" .u64 Lib.pow10Tab):=Qd (λwq hq=>Xj (Xj HTAB.out hbel HG.out) hq (λg hg=>Nat.lt_of_lt_of_le (HG.out g hg) hsz));have hbld0:Lib.IsBuilder 52 5 wr.heap.size wr.heap.size (Lib.byteCells []) (wr.alloc (.cells #[.pointer none,.slice none 0 0] 52)):= .inl ⟨Lr,.slice none 0 0,heap_alloc_new wr _,World.ownsRow_nil _ _ _ _,by simp[Value.ownBlock]⟩;have hbq0:Below wr.heap.size wr (wr.alloc (.cells #[.pointer none,.slice none 0 0] 52)):=Br.alloc Lr _;clear hown hblk H
   rename World=>W
   go_loopw [6] (λiv wq=>∃(k:Nat) (T:List UInt8),k<=i/\T.length<=10000/\iv= .int .i64 ((k:Int)-1)/\Lib.IsBuilder 52 5 W.heap.size W.heap.size (Lib.byteCells T) wq/\Below W.heap.size W wq/\Hid ((k=i/\T=[])\/(k<i/\T=Lib.decDigits (n/1000000000^k)))) (λiv _=>(intOf iv+1).toNat)
   case atStart=>exact⟨i,[],Lr,by simp,rfl,hbld0,hbq0,Qd (.inl ⟨rfl,rfl⟩)⟩
   case round=>
    clear hbld0 hbq0;obtain⟨k,T,hk,hTl,rfl,hbld,hbq,HK⟩:=hrel;have hszq:=hbq.size;rcases k with _ |k
    ·have HT:Hid (T=Lib.decDigits n):=Qd (by
      rcases HK.out with⟨e,_⟩ |⟨_,e⟩
      ·omega
      rw[e,Nat.pow_zero,Nat.div_one])
     have BS:=Qd (Tryz.Builder_String_any W.heap.size W.heap.size T wr hbld hszq);clear hbld;go_wp2_with (go_at_call 32;refine BS.out.mono ?_;rintro e w7 ⟨rfl,hb7⟩)
     go_ret;rw[HT.out];exact⟨rfl,hbel.trans ((hbq.trans hb7).mono hsz)⟩
    have hk1:((k+1:Nat):Int)-1=(k:Int):=by omega
    rw[hk1];clear hk1;have hki:k<(Ng n i).length:=by rw[Cha];omega
    obtain⟨b,off,rfl,hbb,hcell⟩:=(HLG.out.below hbq).limb hki;have hget:(Ng n i)[k]=Ten.grp n k:=by
     have:=Kja (v:=n) (show k<i by omega);rw[List.getElem?_eq_getElem hki] at this;exact Option.some.inj this
    rw[hget] at hcell;have hgl:=Ten.grp_lt n k;have HTOP:Hid (k+1=i->Lib.decDigits (Ten.grp n k)=Lib.decDigits (n/1000000000^k)):=Qd (λe=>Ten.grp_top (by rw[e];exact HT0.out.1));have HLOW:Hid (k+1<i->Lib.decDigits (n/1000000000^k)=Lib.decDigits (n/1000000000^(k+1))++(List.replicate (9-(Lib.decDigits (Ten.grp n k)).length) 48++Lib.decDigits (Ten.grp n k))):=Qd (λe=>Ten.grp_low (Yaa HT0.out.2 (by omega)));have HSH:Hid ((Lib.decDigits (n/1000000000^k)).length<=10000):=Qd (Cea (Nat.div_le_self _ _) hvb.out);have hD:=Ten.dec_len (k:=8) (show Ten.grp n k<10^9 by simpa using hgl);have FU:=Qd (Bv (Ten.grp n k) wr (by omega) (HTABW.out wr hbq));generalize Ten.grp n k=gq at*;obtain⟨D,hDe⟩:∃D,D=Lib.decDigits gq:=⟨_,rfl⟩;rw[<-hDe] at HTOP HLOW hD FU;clear hDe hget hki;by_cases hlow:k+1<i
    ·have HTT:Hid (T++(List.replicate (9-D.length) 48++D)=Lib.decDigits (n/1000000000^k)):=Qd (by
      rcases HK.out with⟨e,_⟩ |⟨_,e⟩
      ·omega
      rw[HLOW.out hlow,e])
     clear HTOP HLOW HK;go_wp2_with fail
     refine FU.out.mono ?_;rintro e w6 ⟨rfl,hb6⟩;have hbld6:=Qh hbld hb6;have hbq6:Below W.heap.size W w6:=hbq.trans (hb6.mono hszq);have hsz6:=hbq6.size;clear hbld hb6;go_wp2_with fail
     have HTL:Hid ((T++(List.replicate (9-D.length) 48++D)).length<=10000):=Qd (by rw[HTT.out];exact HSH.out);have hci:(9:Int)-(D.length:Int)=((9-D.length:Nat):Int):=by omega
     rw[hci];have RP:=Qd (Tryz.strings_Repeat ⟨#[48]⟩ (9-D.length) w6 (by omega) (by show 1*(9-D.length)<=_;omega));rw[show(⟨#[48]⟩:ByteArray).data.toList=[48] from rfl,Z1] at RP;obtain⟨Z,hZ⟩:∃Z,Z=List.replicate (9-D.length) (48:UInt8):=⟨_,rfl⟩;have hZl:Z.length<=9:=by rw[hZ,List.length_replicate];omega
     rw[<-hZ] at RP HTL HTT;clear hZ hci;refine RP.out.mono ?_;rintro e w8 ⟨rfl,hb8⟩;have hbld8:=Qh hbld6 hb8;have hbq8:Below W.heap.size W w8:=hbq6.trans (hb8.mono hsz6);have hsz8:=hbq8.size;have WS1:=Qd (Vf W.heap.size W.heap.size _ ⟨Z.toArray⟩ w8 hbld8 (by rw[Lib.byteCells_length];show T.length+Z.length<=_;omega) hsz8);clear hbld6 hb8 hbld8;go_wp2_with fail
     refine WS1.out.mono ?_;rintro e w9 ⟨rfl,hbd9,hb9⟩;have hbld9:Lib.IsBuilder 52 5 W.heap.size W.heap.size (Lib.byteCells (T++Z)) w9:= .inr (by rw[Lib.byteCells_append];exact hbd9);have hbq9:Below W.heap.size W w9:=hbq8.trans hb9;have hsz9:=hbq9.size;have WS2:=Qd (Vf W.heap.size W.heap.size _ ⟨D.toArray⟩ w9 hbld9 (by rw[Lib.byteCells_length,List.length_append];show T.length+Z.length+D.length<=_;omega) hsz9);clear hbd9 hb9 hbld9;go_wp2_with (go_at_call 27;refine WS2.out.mono ?_;rintro e w7 ⟨rfl,hbd7,hb7⟩)
     go_roundw
     case rel=>exact⟨_,_,_,_,_,_,_,_,_,_,_,_,_,_,_,_,_,_,_,_,_,_,_,_,⟨k,T++(Z++D),by omega,HTL.out,by go_num,.inr (by rw[<-List.append_assoc,Lib.byteCells_append];exact hbd7),hbq9.trans hb7,Qd (.inr ⟨by omega,HTT.out⟩)⟩,rfl⟩
     case measure=>first|(simp[intOf];done) |(simp[intOf];omega)
    have HTT:Hid (T++D=Lib.decDigits (n/1000000000^k)):=Qd (by
     rcases HK.out with⟨_,e⟩ |⟨h,_⟩
     ·rw[e,List.nil_append];exact HTOP.out (by omega)
     omega)
    have HTL:Hid ((T++D).length<=10000):=Qd (by rw[HTT.out];exact HSH.out);clear HTOP HLOW HK;go_wp2_with fail
    refine FU.out.mono ?_;rintro e w6 ⟨rfl,hb6⟩;have hbld6:=Qh hbld hb6;have hbq6:Below W.heap.size W w6:=hbq.trans (hb6.mono hszq);have hsz6:=hbq6.size;have WS:=Qd (Vf W.heap.size W.heap.size _ ⟨D.toArray⟩ w6 hbld6 (by rw[Lib.byteCells_length];show T.length+D.length<=_;omega) hsz6);clear hbld hb6 hbld6;go_wp2_with (go_at_call 27;refine WS.out.mono ?_;rintro e w7 ⟨rfl,hbd7,hb7⟩)
    go_roundw
    case rel=>exact⟨_,_,_,_,_,_,_,_,_,_,_,_,_,_,_,_,_,_,_,_,_,_,_,_,⟨k,T++D,by omega,HTL.out,by go_num,.inr (by rw[Lib.byteCells_append];exact hbd7),hbq6.trans hb7,Qd (.inr ⟨by omega,HTT.out⟩)⟩,rfl⟩
    case measure=>first|(simp[intOf];done) |(simp[intOf];omega)
  have hypos:0<(Nt.digs y).length:=Nat.pos_of_ne_zero (λe=>hy0 (Nt.digs_nil_iff.1 (List.eq_nil_of_length_eq_zero e)));have hi2:i<1112:=Aea hvb.out (by rw[<-H.out.1];omega);have SH:=Qd (Qp w.heap.size cc 1000000000 (Nt.digs y) tl wr hblk (Nt.ok_digs y) (by omega) (by omega) (by omega));rw[Nt.val_digs] at SH;have HGR:Hid (y%1000000000=Ten.grp n i):=Qd (by rw[H.out.1];rfl);rw[HGR.out] at SH;have hgl:=Ten.grp_lt n i;have HNX:Hid (y/1000000000=n/1000000000^(i+1)/\(i+1=0\/0<n/1000000000^(i+1-1))):=Qd ⟨by rw[H.out.1,Ten.div_next],.inr (by rw[Nat.add_sub_cancel,<-H.out.1];omega)⟩;have HLQ:Hid ((Nt.digs (y/1000000000)).length<=1000):=Qd (Nat.le_trans (Nt.digs_len_le_of (Nat.div_le_self y _)) hyl);obtain⟨gq,hgq⟩:∃gq,gq=Ten.grp n i:=⟨_,rfl⟩;have HNG:Hid (Ng n (i+1)=Ng n i++[gq]):=Qd (by rw[hgq];exact Zda n i);rw[<-hgq] at SH hgl;clear hgq hblk HGR;go_wp2_with fail
  refine SH.out.mono ?_;rintro e w3 ⟨cur,rfl,hblk3,HC,hgr3⟩;have hbel3:Below w.heap.size w w3:=hbel.grown hgr3 hsz (λk hk=>by injection hk with hk;omega);have hown3:w3.ownsRow (w.heap.size+1) 139 1 (.slice A2 i C2) i (U (Ng n i)):=Q1 hown (λg hg hgs=>hgr3.block g hgs (by intro e;injection e with e;omega));have hsz3:=hbel3.size;have hlt3:=hblk3.lt;clear hown hgr3;go_wp2_with (at_builtin;refine wpList_append_own _ rfl _ _ 81 rfl (w.heap.size+1) 139 i0 (.int .u32 0) 1 4 Tryz.underlying81 hi hz0 hz1 hz2 rfl (by decide) _ _ _ rfl (hown3.alloc _) ⟨_,0,none⟩ 1 1 [.int .u32 (gq:Int)] rfl rfl (cell_one_new _ _ _) (by intro u hu;simp only[List.mem_singleton] at hu;subst hu;rfl) (by unfold maxLen;omega) (by omega) (by simp;omega) ?_;intro v4 w4 hown4 hgrow4 hnn4)
  have hb4:Below w.heap.size w w4:=(hbel3.alloc hsz3 _).grown hgrow4 (by simp;omega) (λk hk=>by have:=(hown3.lt k hk).1;omega);have hblk4:Blk w4 w.heap.size 139 (U cur++tl):=(hblk3.alloc _).grown hgrow4 (by intro e;have:=(hown3.lt _ e.symm).1;omega);have hcy:cur.length=(Nt.digs y).length:=HC.out.1;have hl4:Lies w4 w4.heap.size (some ⟨w.heap.size,0,none⟩) (U cur):=by
   have:=(hblk4.lies).take cur.length;rwa[List.take_append_of_le_length (by rw[Nd];omega),List.take_of_length_le (by rw[Nd];omega)] at this
  have TR:=Qd (Ad (some ⟨w.heap.size,0,none⟩) cc _ cur w4 hl4 HC.out.2.1 (by omega) (by omega));rw[HC.out.2.2,hcy] at TR;have hblk5:∃tl2,Blk w4 w.heap.size 139 (U (Nt.digs (y/1000000000))++tl2):=⟨U (cur.drop (Nt.digs (Nt.val cur)).length)++tl,by
   have e:U cur=U (Nt.digs (y/1000000000))++U (cur.drop (Nt.digs (Nt.val cur)).length):=by
    have e0:cur=Nt.digs (Nt.val cur)++cur.drop (Nt.digs (Nt.val cur)).length:=by
     conv=>lhs;rw[<-List.take_append_drop (Nt.digs (Nt.val cur)).length cur,Nt.take_digs HC.out.2.1]
    have e1:=congrArg U e0;rw[show U (Nt.digs (Nt.val cur)++cur.drop (Nt.digs (Nt.val cur)).length)=U (Nt.digs (Nt.val cur))++U (cur.drop (Nt.digs (Nt.val cur)).length) from List.map_append] at e1;rw[<-HC.out.2.2];exact e1
   rw[<-List.append_assoc,<-e];exact hblk4⟩
  obtain⟨tl2,hblk5⟩:=hblk5;have hlq:=HLQ.out;clear hl4 hblk4 hblk3 HC HLQ hcy;obtain⟨A4,C4,rfl,hD1,hD2⟩:=Na hown4;refine TR.out.mono ?_;rintro e w5 ⟨rfl,rfl⟩;go_wp2_with fail
  refine⟨⟨i+1,y/1000000000,_,tl2,by omega,hlq,Lr,hlq,rfl,hblk5,?_,hb4,HNX⟩,by simp[U1];omega⟩;rw[HNG.out]
  simpa [U] using hown4
theorem F2 (n:Bool)(v1 v2:Value)(l1 l2:List Nat)(w:World)(h1:IsRes w v1 l1)(h2:IsRes w v2 l2):
 Calls Tryz.prog 151 #[.agg #[.bool n,v1,v2]] w (Bl w n l1):=by
 have HR:=Qd h1;obtain⟨A1,c1,rfl,-⟩:=h1;obtain⟨A2,c2,rfl,-⟩:=h2;have HI2:Hid (∀(b:Bool) (A:Option Addr) (k c:Nat),(Tryz.prog.info? 143).map (·.size)=some (#[.bool b,.slice A k c]:Array Value).size):=Qd (λ_ _ _ _=>Ye);have HG1:Hid (∀o1 o2,((w.alloc o1).alloc o2).heap[w.heap.size+1]? =some o2):=Qd (λo1 o2=>by
  have:=heap_alloc_new (w.alloc o1) o2;rwa[show(w.alloc o1).heap.size=w.heap.size+1 by simp] at this)
 have HB:Hid (∀o1 o2,Below w.heap.size w ((w.alloc o1).alloc o2)):=Qd (λo1 o2=>(Br.alloc Lr _).alloc (by simp) _);generalize l2.length=k2 at*;go_enter Tryz.func151,Tryz.ntmps151
 go_wp2_with (with_reducible refine wpList_store_row rfl 143 (.tmp 2) (.tmp 7) rfl (w.heap.size+1) #[.bool n,.slice A1 l1.length c1] rfl rfl 143 #[.bool false,.slice none 0 0] (HG1.out _ _) (HI2.out _ _ _ _) rfl (Rc _ _ _ _) ?_)
 refine bodyPost_ret (results_cell_row (by rfl) _ _ (w.heap.size+1) 143 #[.bool n,.slice A1 l1.length c1] (0,0) _ (by rfl) (Ma (HG1.out _ _)) Tryz.underlying143 rfl (HI2.out _ _ _ _)) rfl ⟨.slice A1 l1.length c1,rfl,(HR.out.below (HB.out _ _)).setRow (HG1.out _ _) (Nb _ _ _ _) _,rBelow.setRow (HB.out _ _) (by omega) _⟩
def Dv (w:World)(n:Rt.Nm)(e:Ending)(w':World):Prop:=∃u,e= .returned (.tuple #[.agg #[.bool (if n.bot=[1] then Rt.nrm n.neg (Nt.val n.top) else false),u],.bool (n.bot==[1])])/\IsRes w' u (if n.bot=[1] then Nt.digs (Nt.val n.top) else[])/\Below w.heap.size w w'
theorem G2 (n:Bool)(v1 v2:Value)(l1 l2:List Nat)(w:World)(h1:IsRes w v1 l1)(h2:IsRes w v2 l2)(o1:Nt.Ok l1)(s1:l1.length<=1000000):
 Calls Tryz.prog 118 #[.agg #[.bool n,v1,v2]] w (Dv w ⟨n,l1,l2⟩):=by
 have hb0:∀o1 o2,Below w.heap.size w ((w.alloc o1).alloc o2):=λo1 o2=>(Br.alloc Lr _).alloc (by simp) _;have I1:=Qd (λo1 o2=>Pf v2 l2 _ (h2.below (hb0 o1 o2)));have T1:=Qd (λo1 o2=>F2 n v1 v2 l1 l2 _ (h1.below (hb0 o1 o2)) (h2.below (hb0 o1 o2)));have NW:=Qd (λ(wx:World) (u:Value) (hu:IsRes wx u l1)=>Gy n u l1 wx hu o1 s1);have HI2:Hid (∀(b:Bool) (A:Option Addr) (k c:Nat),(Tryz.prog.info? 143).map (·.size)=some (#[.bool b,.slice A k c]:Array Value).size):=Qd (λ_ _ _ _=>Ye);have HG1:Hid (∀o1 o2,((w.alloc o1).alloc o2).heap[w.heap.size+1]? =some o2):=Qd (λo1 o2=>by
  have:=heap_alloc_new (w.alloc o1) o2;rwa[show(w.alloc o1).heap.size=w.heap.size+1 by simp] at this)
 have HB:=Qd hb0;obtain⟨A1,c1,rfl,-⟩:=h1;obtain⟨A2,c2,rfl,-⟩:=h2;clear hb0 o1;by_cases hone:l2=[1]
 ·have HE:Hid ((l2==[1])=true):=Qd (by rw[hone];rfl)
  have HO:=Qd hone;have HP:Hid (∀u w',IsRes w' u (Nt.digs (Nt.val l1))->Below w.heap.size w w'->Dv w ⟨n,l1,l2⟩ (.returned (.tuple #[.agg #[.bool (Rt.nrm n (Nt.val l1)),u],.bool true])) w'):=Qd (λu w' hu hb=>⟨u,by simp only[HO.out,if_true];rfl,by simp only[HO.out,if_true];exact hu,hb⟩);have I1':=Qd (λo1 o2=>by have:=I1.out o1 o2;rw[HE.out] at this;exact this);clear hone I1;generalize l2.length=k2 at*;go_enter Tryz.func118,Tryz.ntmps118
  go_wp2_with fail
  refine(I1'.out _ _).mono ?_;rintro e w' ⟨rfl,rfl⟩;go_wp2_with fail
  refine(T1.out _ _).mono ?_;rintro e w2 ⟨v3,rfl,hr2,hb2⟩;have NW2:=Qd (NW.out w2 v3 hr2);have HG2:=Qd ((hb2.block (w.heap.size+1) (by simp)).trans (HG1.out _ _));have hbw2:=(HB.out _ _).trans (hb2.mono (HB.out _ _).size);clear hr2 hb2 T1 I1' NW;go_wp2_with fail
  refine NW2.out.mono ?_;rintro e w3 ⟨v4,rfl,hr3,hb3⟩;have hl3:=Pa HG2.out;have HG3:=Qd ((hb3.block (w.heap.size+1) hl3).trans HG2.out);have hbw3:=hbw2.trans (hb3.mono hbw2.size);have HR3:=Qd (hr3.setRow HG3.out (Nb _ _ _ _) #[.bool (Rt.nrm n (Nt.val l1)),v4]);obtain⟨A3,c3,rfl,-⟩:=hr3;clear hb3 NW2 hbw2;go_wp2_with (with_reducible refine wpList_store_row rfl 143 (.tmp 2) (.tmp 11) rfl (w.heap.size+1) #[.bool (Rt.nrm n (Nt.val l1)),.slice A3 (Nt.digs (Nt.val l1)).length c3] rfl rfl 143 #[.bool false,.slice none 0 0] HG3.out (HI2.out _ _ _ _) rfl (Rc _ _ _ _) ?_)
  refine bodyPost_ret (Ja (by rfl) _ _ (w.heap.size+1) 143 #[.bool (Rt.nrm n (Nt.val l1)),.slice A3 (Nt.digs (Nt.val l1)).length c3] (0,0) _ _ (by rfl) (by rfl) (Ma HG3.out) Tryz.underlying143 rfl (HI2.out _ _ _ _)) rfl (HP.out _ _ HR3.out (rBelow.setRow hbw3 (by omega) _))
 have HE:Hid ((l2==[1])=false):=Qd (beq_eq_false_iff_ne.2 hone);have HO:=Qd hone;have HP:Hid (∀w',Below w.heap.size w w'->Dv w ⟨n,l1,l2⟩ (.returned (.tuple #[.agg #[.bool false,.slice none 0 0],.bool false])) w'):=Qd (λw' hb=>⟨.slice none 0 0,by simp only[HO.out,if_false,HE.out],by simp only[HO.out,if_false];exact IsRes.none_ _,hb⟩);have I1':=Qd (λo1 o2=>by have:=I1.out o1 o2;rw[HE.out] at this;exact this);clear hone I1;generalize l2.length=k2 at*;go_enter Tryz.func118,Tryz.ntmps118
 go_wp2_with fail
 refine(I1'.out _ _).mono ?_;rintro e w' ⟨rfl,rfl⟩;clear T1 NW;go_wp2_with (with_reducible refine wpList_store_row rfl 143 (.tmp 2) (.tmp 8) rfl (w.heap.size+1) #[.bool false,.slice none 0 0] rfl rfl 143 #[.bool false,.slice none 0 0] (HG1.out _ _) (HI2.out _ _ _ _) rfl (Rc _ _ _ _) ?_)
 refine bodyPost_ret (Ja (by rfl) _ _ (w.heap.size+1) 143 #[.bool false,.slice none 0 0] (0,0) _ _ (by rfl) (by rfl) (Ma (HG1.out _ _)) Tryz.underlying143 rfl (HI2.out _ _ _ _)) rfl (HP.out _ (rBelow.setRow (HB.out _ _) (by omega) _))
theorem I7 (n:Bool)(v1 v2:Value)(l1 l2:List Nat)(w:World)(h1:IsRes w v1 l1)(h2:IsRes w v2 l2):
 Calls Tryz.prog 98 #[.agg #[.bool n,v1,v2]] w λe w'=>e= .returned (.bool (l2==[1]))/\Below w.heap.size w w':=by
 have HB:Hid (∀o1,Below w.heap.size w (w.alloc o1)):=Qd (λo1=>Br.alloc Lr _);obtain⟨A1,c1,rfl,-⟩:=h1;obtain⟨A2,c2,rfl,k1,k2,k3,k4⟩:=h2;by_cases hl:l2.length=1
 ·obtain⟨x,rfl⟩:∃x,l2=[x]:=by
   match l2,hl with
   | [x],_=>exact⟨x,rfl⟩
  obtain⟨b,off,rfl,hb,g0⟩:=k4.at_ (k:=0) (by simp[U]);have g1:w.cell? ⟨b,off,none⟩=some (.int .u32 (x:Int)):=by simpa [U] using g0
  have HQ:Hid (([x]==[1])=(x==1)):=Qd (by simp[List.cons_beq_cons]);clear g0 k4 k3 hl;by_cases hx:x=1
  ·subst hx
   go_enter Tryz.func98,Tryz.ntmps98
   go_wp2_with fail
   go_ret;exact⟨Aa (by rw[HQ.out];rfl),HB.out _⟩
  have q:((x:Int)==1)=false:=beq_eq_false_iff_ne.2 (by omega);have HQ2:Hid ((x==1)=false):=Qd (beq_eq_false_iff_ne.2 hx);clear hx;go_enter Tryz.func98,Tryz.ntmps98
  go_wp2_with fail
  go_ret;exact⟨Aa (by rw[HQ.out,HQ2.out]),HB.out _⟩
 have q:((l2.length:Int)==1)=false:=beq_eq_false_iff_ne.2 (by omega);have HQ:Hid ((l2==[1])=false):=Qd (by
  rw[beq_eq_false_iff_ne];rintro rfl;exact hl rfl)
 clear hl k4 k3;generalize l2.length=m at*;go_enter Tryz.func98,Tryz.ntmps98
 go_wp2_with fail
 go_ret;exact⟨Aa (by rw[HQ.out]),HB.out _⟩
structure Pow10 (w:World):Prop where
 tab:Lib.TabIs Tryz.prog w "internal/strconv.uint64pow10" .u64 Lib.pow10Tab
 lt:∀g,Tryz.prog.globalNamed "internal/strconv.uint64pow10" =some g→g<w.heap.size
theorem Pow10.below {w w':World}(h:Pow10 w)(hb:Below w.heap.size w w'):Pow10 w':=⟨Xj h.tab hb h.lt,λg e=>Nat.lt_of_lt_of_le (h.lt g e) hb.size⟩
def Yf (w:World)(s:List UInt8)(e:Ending)(w':World):Prop:=e= .returned (.string ⟨s.toArray⟩)/\Below w.heap.size w w'
theorem Rw {w:World}{v:Value}{l:List Nat}(h:IsRes w v l)(ho:Nt.Ok l)(hs:l.length<=1000)(hp:Pow10 w):
 Calls Tryz.prog 117 #[v] w (Yf w (Lib.decDigits (Nt.val l))):=by
 obtain⟨A,c,rfl,k1,k2,k3,k4⟩:=h;exact Dha A c w.heap.size l w k4 Lr ho k1 k2 hs hp.tab hp.lt
theorem Kn {w:World}{v:Value}{l:List Nat}(h:IsRes w v l)(ho:Nt.Ok l)(hs:l.length<=1000):
 Calls Tryz.prog 97 #[v] w (Yf w (Lib.decDigits (Nt.val l))):=by
 obtain⟨A,c,rfl,k1,k2,k3,k4⟩:=h;exact H7 A c w.heap.size l w k4 Lr ho k1 k2 k3 hs
theorem Uo {a b:ByteArray}(h:a.data.toList=b.data.toList):Ending.returned (.string a)= .returned (.string b):=by
 have:a=b:=ByteArray.ext (Array.toList_inj.1 h);rw[this]
structure NumR (w:World) (n:Rt.Nm) (v1 v2:Value):Prop where
 r1:IsRes w v1 n.top
 r2:IsRes w v2 n.bot
 o1:Nt.Ok n.top
 o2:Nt.Ok n.bot
 s1:n.top.length<=1000
 s2:n.bot.length<=1000
theorem NumR.below {w w':World}{n:Rt.Nm}{v1 v2:Value}(h:NumR w n v1 v2)(hb:Below w.heap.size w w'):NumR w' n v1 v2:=⟨h.r1.below hb,h.r2.below hb,h.o1,h.o2,h.s1,h.s2⟩
theorem J2 (n:Rt.Nm)(v1 v2:Value)(w:World)(h:NumR w n v1 v2):
 Calls Tryz.prog 67 #[.agg #[.bool n.neg,v1,v2]] w (Yf w (Dg.print n)):=by
 have TX:=Qd (λ(wx:World) (hb:Below w.heap.size w wx)=>Kn (h.below hb).r1 h.o1 h.s1);have TY:=Qd (λ(wx:World) (hb:Below w.heap.size w wx)=>Kn (h.below hb).r2 h.o2 h.s2);have IW:=Qd (λ(wx:World) (hb:Below w.heap.size w wx)=>I7 n.neg v1 v2 n.top n.bot wx (h.below hb).r1 (h.below hb).r2);have HB:Hid (∀o1,Below w.heap.size w (w.alloc o1)):=Qd (λo1=>Br.alloc Lr _);have HP:Hid (Dg.print n=(if n.neg then[194,175] else[])++(Lib.decDigits (Nt.val n.top)++if n.bot=[1] then[] else 114::Lib.decDigits (Nt.val n.bot))):=Qd rfl;have HI3:Hid ((Tryz.prog.info? 83).map (·.size)=some (#[.bool n.neg,v1,v2]:Array Value).size):=Qd Kg;have hTl:=Qf h.o1 h.s1;have hBl:=Qf h.o2 h.s2;clear h;obtain⟨neg,top,bot⟩:=n;dsimp only at TX TY IW HP HI3 hTl hBl⊢;generalize Dg.print ⟨neg,top,bot⟩=R at*;generalize Lib.decDigits (Nt.val top)=T at*;generalize Lib.decDigits (Nt.val bot)=B at*;go_enter Tryz.func67,Tryz.ntmps67
 go_wp2_with fail
 refine(TX.out _ (HB.out _)).mono ?_;rintro e w2 ⟨rfl,hb2⟩;have hbw2:=(HB.out (.cells #[.bool neg,v1,v2] 83)).trans (hb2.mono (HB.out _).size);have HG:=Qd ((hb2.block w.heap.size (by simp)).trans (heap_alloc_new w (.cells #[.bool neg,v1,v2] 83)));have hs2:=hb2.size;have hlt:w.heap.size<w2.heap.size:=by simp at hs2;omega
 clear hb2 hs2;go_wp2_with (with_reducible refine wpList_load_row rfl 83 (.tmp 1) rfl w.heap.size rfl 83 #[.bool neg,v1,v2] (0,0) _ HG.out Tryz.underlying83 rfl HI3.out ?_)
 refine(IW.out w2 hbw2).mono ?_;rintro e w3 ⟨rfl,hb3⟩;have hbw3:=hbw2.trans (hb3.mono hbw2.size);have HG3:=Qd ((hb3.block w.heap.size hlt).trans HG.out);have hlt3:w.heap.size<w3.heap.size:=Nat.lt_of_lt_of_le hlt hb3.size;clear hb3 hbw2 hlt;have p0:w3.cell? ⟨w.heap.size,0,none⟩=some (.bool neg):=(cell_of_row w3 w.heap.size 0 _ _ _ HG3.out).trans rfl;have p2:w3.cell? ⟨w.heap.size,2,none⟩=some v2:=(cell_of_row w3 w.heap.size 2 _ _ _ HG3.out).trans rfl;by_cases hone:bot=[1]
 ·have HO:=Qd hone
  have e1:(bot==[1])=true:=by rw[hone];rfl
  clear hone TX TY IW;cases neg;all_goals
   go_wp2_with fail
   go_ret;exact⟨Uo (by rw[HP.out,if_pos HO.out];simp),hbw3⟩
 have HO:=Qd hone;have e1:(bot==[1])=false:=beq_eq_false_iff_ne.2 hone;clear hone TX IW;have HTY:=Qd (TY.out w3 hbw3);clear TY;go_wp2_with fail
 refine HTY.out.mono ?_;rintro e w4 ⟨rfl,hb4⟩;have hbw4:=hbw3.trans (hb4.mono hbw3.size);have p04:w4.cell? ⟨w.heap.size,0,none⟩=some (.bool neg):=(hb4.cell (p:=⟨w.heap.size,0,none⟩) hlt3).trans p0;clear hb4 p0 p2 HTY hbw3;cases neg;all_goals
  go_wp2_with fail
  go_ret;exact⟨Uo (by rw[HP.out,if_neg HO.out];simp),hbw4⟩
theorem M2 (n:Rt.Nm)(v1 v2:Value)(w:World)(h:NumR w n v1 v2)(hp:Pow10 w):
 Calls Tryz.prog 89 #[.agg #[.bool n.neg,v1,v2]] w (Yf w (Dg.print n)):=by
 have TX:=Qd (λ(wx:World) (hb:Below w.heap.size w wx)=>Rw (h.below hb).r1 h.o1 h.s1 (hp.below hb));have TY:=Qd (λ(wx:World) (hb:Below w.heap.size w wx)=>Rw (h.below hb).r2 h.o2 h.s2 (hp.below hb));have IW:=Qd (λ(wx:World) (hb:Below w.heap.size w wx)=>G2 n.neg v1 v2 n.top n.bot wx (h.below hb).r1 (h.below hb).r2 h.o1 (by have:=h.s1;omega));have HB:Hid (∀o1,Below w.heap.size w (w.alloc o1)):=Qd (λo1=>Br.alloc Lr _);have HP:Hid (Dg.print n=(if n.neg then[194,175] else[])++(Lib.decDigits (Nt.val n.top)++if n.bot=[1] then[] else 114::Lib.decDigits (Nt.val n.bot))):=Qd rfl;have HI3:Hid ((Tryz.prog.info? 83).map (·.size)=some (#[.bool n.neg,v1,v2]:Array Value).size):=Qd Kg;have HI2:Hid (∀(b:Bool) (A:Option Addr) (k c:Nat),(Tryz.prog.info? 143).map (·.size)=some (#[.bool b,.slice A k c]:Array Value).size):=Qd (λ_ _ _ _=>Ye);have hTl:=Qf h.o1 h.s1;have hBl:=Qf h.o2 h.s2;clear h hp;obtain⟨neg,top,bot⟩:=n;dsimp only at TX TY IW HP HI3 hTl hBl⊢;generalize Dg.print ⟨neg,top,bot⟩=R at*;generalize Lib.decDigits (Nt.val top)=T at*;generalize Lib.decDigits (Nt.val bot)=B at*;go_enter Tryz.func89,Tryz.ntmps89
 go_wp2_with fail
 refine(TX.out _ (HB.out _)).mono ?_;rintro e w2 ⟨rfl,hb2⟩;have hbw2:=(HB.out (.cells #[.bool neg,v1,v2] 83)).trans (hb2.mono (HB.out _).size);have HG:=Qd ((hb2.block w.heap.size (by simp)).trans (heap_alloc_new w (.cells #[.bool neg,v1,v2] 83)));have hs2:=hb2.size;have hlt:w.heap.size<w2.heap.size:=by simp at hs2;omega
 have p0:w2.cell? ⟨w.heap.size,0,none⟩=some (.bool neg):=(cell_of_row w2 w.heap.size 0 _ _ _ HG.out).trans rfl;clear hb2 hs2 TX;obtain⟨N,hN⟩:∃N:List UInt8,N=if neg then[194,175] else[]:=⟨_,rfl⟩
 rw[<-hN] at HP;have hN2:=Qd hN;clear hN;cases neg;all_goals
  go_wp2_with (with_reducible refine wpList_load_row rfl 83 (.tmp 1) rfl w.heap.size rfl 83 #[.bool _,v1,v2] (0,0) _ HG.out Tryz.underlying83 rfl HI3.out ?_)
  refine(IW.out w2 hbw2).mono ?_;rintro e w3 ⟨u,rfl,hu,hb3⟩;dsimp only at hu;have hbw3:=hbw2.trans (hb3.mono hbw2.size);have HG3:=Qd ((hb3.block w.heap.size hlt).trans HG.out);have hlt3:w.heap.size<w3.heap.size:=Nat.lt_of_lt_of_le hlt hb3.size;obtain⟨A3,c3,rfl,-⟩:=hu;clear hb3 hbw2 hlt p0;have p2:w3.cell? ⟨w.heap.size,2,none⟩=some v2:=(cell_of_row w3 w.heap.size 2 _ _ _ HG3.out).trans rfl;have HG4:Hid (∀o,(w3.alloc o).heap[w3.heap.size]? =some o):=Qd (λo=>heap_alloc_new w3 o);by_cases hone:bot=[1]
  ·have HO:=Qd hone
   have e1:(bot==[1])=true:=by rw[hone];rfl
   simp only[e1,if_pos hone];clear hone TY IW e1;go_wp2_with fail
   go_ret;exact⟨Uo (by rw[HP.out,if_pos HO.out,hN2.out];simp),hbw3.alloc hbw3.size _⟩
  have HO:=Qd hone;have e1:(bot==[1])=false:=beq_eq_false_iff_ne.2 hone;simp only[e1,if_neg hone];clear hone IW e1;have HTY:=Qd (λo=>TY.out (w3.alloc o) (hbw3.alloc hbw3.size _));clear TY;go_wp2_with fail
  refine(HTY.out _).mono ?_;rintro e w4 ⟨rfl,hb4⟩;have hbw4:=(hbw3.alloc hbw3.size (.cells #[.bool false,.slice A3 ([]:List Nat).length c3] 143)).trans (hb4.mono (by simp;omega));clear hb4 HTY hbw3 p2;go_wp2_with fail
  go_ret;exact⟨Uo (by rw[HP.out,if_neg HO.out,hN2.out];simp),hbw4⟩
section
open Go.RowKit Ar
structure SpW (w:World):Prop where
 tab:Tab64 w
 lt:0<w.heap.size
 pow:Pow10 w
 ten:Ten20 w
theorem SpW.below {w w':World}(h:SpW w)(hb:Below w.heap.size w w'):SpW w':=⟨h.tab.below h.lt hb,Nat.lt_of_lt_of_le h.lt hb.size,h.pow.below hb,h.ten.below hb⟩
theorem CelIn.asIs {w:World}{B:Nat}{ce:Ha}{L:Nat}{kind:Int}{neg:Bool}{top bot:List Nat}{ch:Int}{ins:List Ba}{A1 A2 A3:Option Addr}{c1 c2 c3:Nat}{us:List Value}(h:CelIn w B ce L kind neg top bot ch ins A1 A2 A3 c1 c2 c3 us)(hL:L<18446744073709551616):
 IsCel w B ce [.int .u64 (L:Int),.int .i64 kind,.bool neg,.slice A1 top.length c1,.slice A2 bot.length c2,.int .i64 ch,.slice A3 ins.length c3]:=by
 rw[h.eq,IsCel];exact⟨A1,c1,A2,c2,A3,c3,us,rfl,hL,h.ft,h.fb,h.fi,h.wk,h.wt,h.wb,h.lt,h.lb,h.li,h.arrs,h.nt,h.nb⟩
theorem numR_of {w:World}{B:Nat}{neg:Bool}{top bot:List Nat}{A1 A2:Option Addr}{c1 c2:Nat}(h1:Fits top.length c1 4)(h2:Fits bot.length c2 4)(w1:Uj top)(w2:Uj bot)(l1:Lies w B A1 (Rd top))(l2:Lies w B A2 (Rd bot))(n1:A1=none->c1=0)(n2:A2=none->c2=0)(hB:B<=w.heap.size)(s1:top.length<=1000)(s2:bot.length<=1000):
 NumR w ⟨neg,top,bot⟩ (.slice A1 top.length c1) (.slice A2 bot.length c2):=
 ⟨⟨A1,c1,rfl,h1.1,h1.2.2,n1,l1.more hB⟩,⟨A2,c2,rfl,h2.1,h2.2.2,n2,l2.more hB⟩,w1,w2,s1,s2⟩
def Dt (n:Nat):Prop:=∀(a:Ba) (vs:List Value) (d:Nat) (w:World) (B:Nat),SizeOf.sizeOf a<n->IsArr w B a vs->B<=w.heap.size->Ka d a=true->Sp.wfA a->(Sp.arrT a).length<1000000->SpW w->
 Calls Tryz.prog 31 #[.agg vs.toArray] w (Yf w (Sp.arrT a))
theorem Ly {n:Nat}(ih:Dt n)(x:Ha)(vs:List Value)(d:Nat)(w:World)(B:Nat)(hx:SizeOf.sizeOf x<n)(h:IsCel w B x vs)(hB:B<=w.heap.size)(hr:Oa d x=true)(hwf:Sp.wfCel x)(hlen:(Sp.inT x).length<1000000)(hf:SpW w):
 Calls Tryz.prog 59 #[.agg vs.toArray] w (Yf w (Sp.inT x)):=by
 obtain⟨L,kind,neg,top,bot,ch,ins⟩:=x;rw[IsCel] at h;obtain⟨A1,c1,A2,c2,A3,c3,us,rfl,hL,hf1,hf2,hf3,hw1,hw2,hw3,hl1,hl2,hl3,hins,hnt,hnb⟩:=h;obtain⟨W,hW⟩:∃W,W=w.alloc (.cells #[.int .u64 (L:Int),.int .i64 kind,.bool neg,.slice A1 top.length c1,.slice A2 bot.length c2,.int .i64 ch,.slice A3 ins.length c3] 85):=⟨_,rfl⟩;have hWb:Below w.heap.size w W:=by rw[hW];exact Br.alloc Lr _
 have HW:=Qd hW;have H8:Hid (W.heap[w.heap.size]? =some (.cells #[.int .u64 (L:Int),.int .i64 kind,.bool neg,.slice A1 top.length c1,.slice A2 bot.length c2,.int .i64 ch,.slice A3 ins.length c3] 85 (0,0))):=Qd (by rw[hW];exact heap_alloc_new _ _);have hc:∀j v,#[Value.int .u64 (L:Int),.int .i64 kind,.bool neg,.slice A1 top.length c1,.slice A2 bot.length c2,.int .i64 ch,.slice A3 ins.length c3][j]? =some v->W.cell? ⟨w.heap.size,j,none⟩=some v:=λj v e=>(cell_of_row W w.heap.size j _ _ _ H8.out).trans e;have k1:=hc 1 _ rfl;have k2:=hc 2 _ rfl;have k3:=hc 3 _ rfl;have k4:=hc 4 _ rfl;have k5:=hc 5 _ rfl;have k6:=hc 6 _ rfl;have hsz:w.heap.size<W.heap.size:=by rw[hW];simp
 have HF:=hf.below hWb;clear hW hc;rw[Oa] at hr;rw[Sp.inT] at hlen⊢;by_cases h0:kind=0
 ·subst h0
  rw[if_pos rfl] at hr hlen⊢;simp only[Bool.and_eq_true] at hr;have hrr:=hr.2;unfold Rt.right at hrr;simp only[Bool.and_eq_true,decide_eq_true_eq] at hrr;have PR:=Qd (M2 ⟨neg,top,bot⟩ _ _ W (numR_of hf1 hf2 hw2 hw3 (hl1.below (hWb.mono hB)) (hl2.below (hWb.mono hB)) hnt hnb (by omega) (by omega) (by omega)) HF.pow);generalize Dg.print ⟨neg,top,bot⟩=R at*;have q1:¬9223372036854775807<1+R.length:=by simp at hlen;omega
  replace hWb:=Qd hWb;clear hr hrr hins hl1 hl2 hl3 hwf hlen HF hf ih hw1 hw2 hw3;go_enter Tryz.func59,Tryz.ntmps59
  go_wp2_with fail
  rw[<-HW.out];go_wp2_with fail
  refine PR.out.mono ?_;rintro e w1 ⟨rfl,hb1⟩;replace hb1:=Qd hb1;go_wp2_with fail
  go_ret;exact⟨by simp[Kb],hWb.out.trans (hb1.out.mono (by omega))⟩
 have z0:(kind==0)=false:=beq_eq_false_iff_ne.2 h0;rw[if_neg h0] at hr hlen⊢;by_cases h1:kind=1
 ·subst h1
  rw[if_pos rfl] at hr hlen⊢;simp only[Bool.and_eq_true,Ae,decide_eq_true_eq] at hr;obtain⟨m,rfl⟩:∃m:Nat,ch=m:=⟨ch.toNat,by omega⟩;rw[Int.toNat_natCast] at hlen⊢;have IT:=Tryz.strconv_Itoa (m:Int) (by omega) (by omega) W HF.ten.tab;rw[Lib.itoa_nonneg] at IT;replace IT:=Qd IT;generalize Lib.decDigits m=R at*;have q1:¬9223372036854775807<1+R.length:=by simp at hlen;omega
  replace hWb:=Qd hWb;clear hr hins hl1 hl2 hl3 hwf hlen HF hf ih hw1 hw2 hw3;go_enter Tryz.func59,Tryz.ntmps59
  go_wp2_with fail
  rw[<-HW.out];go_wp2_with fail
  refine IT.out.mono ?_;rintro e w1 ⟨rfl,kk,os,hw1⟩;have hb1:Below W.heap.size W w1:=by rw[hw1];exact Lib.below_grow _ _ Lr _ _
  clear hw1;replace hb1:=Qd hb1;go_wp2_with fail
  go_ret;exact⟨by simp[Kb],hWb.out.trans (hb1.out.mono (by omega))⟩
 have z1:(kind==1)=false:=beq_eq_false_iff_ne.2 h1;rw[if_neg h1] at hr hlen⊢;simp only[Bool.and_eq_true] at hr
 match ins,hr.2,hf3,hins,hwf,hlen,hx with
 | [a],hri,hf3,hins,hwf,hlen,hx=>
  rw[Hb,Bool.and_eq_true] at hri;rw[Sp.wfCel,Sp.wfIns] at hwf;rw[Sp.insT] at hlen⊢;obtain⟨b,off,S,X,n1,e1,X',n2,e2,rfl,hb,HA,g0,g1,g2⟩:=Vb hins hl3 (wr:=W) (k:=0) (λp hp=>hWb.cell (show p.block<w.heap.size by omega)) (by simp);have AT:=Qd (ih a _ (d-1) W B (by simp at hx;omega) (HA.out.below (hWb.mono hB)) (by omega) hri.2 hwf.2.1 (by simp at hlen;omega) HF);generalize Sp.arrT a=R at*;have q1:¬9223372036854775807<1+R.length:=by simp at hlen;omega
  rw[Nat.zero_mul,Nat.add_zero] at g0 g1 g2;replace hWb:=Qd hWb;replace HW:=Qd (show W=w.alloc (.cells #[.int .u64 (L:Int),.int .i64 kind,.bool neg,.slice A1 top.length c1,.slice A2 bot.length c2,.int .i64 ch,.slice (some ⟨b,off,none⟩) 1 c3] 85) from HW.out);clear hr hri hins hl1 hl2 hl3 hwf hlen HF hf ih hw1 hw2 hw3 HA hx;go_enter Tryz.func59,Tryz.ntmps59
  go_upto_region 1 with fail
  rw[<-HW.out];go_wp2_with fail
  refine AT.out.mono ?_;rintro e w1 ⟨rfl,hb1⟩;replace hb1:=Qd hb1;go_wp2_with fail
  go_ret;exact⟨by simp[Kb],hWb.out.trans (hb1.out.mono (by omega))⟩
 | [],hri,_,_,_,_,_=>exact absurd (hri.symm.trans (by rw[Hb];intro a e;cases e)) Bool.noConfusion
 |_::_::_,hri,_,_,_,_,_=>exact absurd (hri.symm.trans (by rw[Hb];intro a e;cases e)) Bool.noConfusion
end
section
open Go.RowKit Ar
theorem Et {cs:List Ha}{k:Nat}(h:k<cs.length):Sp.celsT (cs.take (k+1))=Sp.celsT (cs.take k)++(Nw.net (Lab.text (Sp.celL cs[k]))++Nw.net (Sp.inT cs[k])):=by
 rw[List.take_succ_eq_append_getElem h,Sp.celsT_append,Sp.celsT,Sp.celsT,List.append_nil,Sp.celT_eq]
theorem Q2 (cs:List Ha)(k:Nat):(Sp.celsT (cs.take k)).length<=(Sp.celsT cs).length:=by
 have:=Sp.celsT_append (cs.take k) (cs.drop k);rw[List.take_append_drop] at this;rw[this,List.length_append];omega
theorem Ft (s:List UInt8):s.length<=(Nw.net s).length:=by unfold Nw.net;simp;omega
theorem Gt {l:Nat}(h:l<18446744073709551616):(Lab.text l).length<1000:=by have:=Lab.text_len h;omega
theorem Lja (B b:Nat)(l s:List UInt8)(w:World)(h:Lib.IsBuilderF 52 5 B b (Lib.byteCells l) w)(hlen:l.length+s.length<=140737488355328)(hBw:B<=w.heap.size):
 Calls Tryz.prog 27 #[.pointer (some ⟨b,0,none⟩),.string ⟨s.toArray⟩] w λe w'=>(∃v,e= .returned v)/\Lib.IsBuilderF 52 5 B b (Lib.byteCells (l++s)) w'/\Below B w w'/\
  ∀(k:Nat) (c:Array Value) (t:TypeId) (fz:Nat×Nat),w.heap[k]? =some (.cells c t fz)->k≠b->t≠5->w'.heap[k]? =some (.cells c t fz):=by
 refine(Any.Builder_WriteString_k Va Ra B b _ ⟨s.toArray⟩ w h (by rw[Lib.byteCells_length];exact hlen) hBw).mono ?_;rintro e w' ⟨he,hbd,hb,ho⟩;exact⟨⟨_,he⟩,.inr (by rw[Lib.byteCells_append];exact hbd),hb,λk c t fz hk h1 h2=>ho k _ hk (λe=>h1 (by injection e)) (λc' fz' e=>h2 (by injection e))⟩
theorem Zaa {n:Nat}(ih:Dt n):Dt (n+1):=by
 intro a vs d w B hx h hB hr hwf hlen hf;obtain⟨S,sh,cells⟩:=a;rw[IsArr] at h;obtain⟨A,c,A',c',us,rfl,hS,hf1,hf2,hw,hl,hl',hcs⟩:=h;rw[Ka,Bool.and_eq_true,Bool.and_eq_true] at hr;have hsh:=Sp.sh_of_cnt (beq_iff_eq.1 hr.1.1);have HRC:=Qd hr.2;rw[Sp.wfA] at hwf;have HWF:=Qd hwf.2;have hsz0:∀c∈cells,SizeOf.sizeOf c<n:=λc hc=>by have:=List.sizeOf_lt_of_mem hc;simp at hx;omega
 have HSZ:=Qd hsz0;obtain⟨P,hP⟩:∃P,P=Nw.net (Lab.text S)++Nw.net (Sp.lens sh):=⟨_,rfl⟩;have hAT:Sp.arrT (.mk S sh cells)=P++Sp.celsT cells:=by rw[Sp.arrT,hP,List.append_assoc]
 rw[hAT] at hlen⊢;have hPl:P.length=(Nw.net (Lab.text S)).length+(Nw.net (Sp.lens sh)).length:=by rw[hP,List.length_append]
 have hNl:=Ft (Sp.lens sh);rw[List.length_append] at hlen;have HP:=Qd hP.symm;have HAT:=Qd (And.intro hcs hl');have hfl:=hf2.le (by omega);have hsl:sh.length<=6:=by
  have h0:=beq_iff_eq.1 hr.1.1;unfold cnt at h0
  split at h0
  ·cases h0
  omega
 obtain⟨W,hW⟩:∃W,W=(w.alloc (.cells #[.int .u64 (S:Int),.slice A sh.length c,.slice A' cells.length c'] 43)).alloc (.cells #[.pointer none,.slice none 0 0] 52):=⟨_,rfl⟩;have hWs:W.heap.size=w.heap.size+2:=by rw[hW];simp
 have hWb:Below w.heap.size w W:=by rw[hW];exact(Br.alloc Lr _).alloc (by simp) _
 have hbd0:=Sq (w.alloc (.cells #[.int .u64 (S:Int),.slice A sh.length c,.slice A' cells.length c'] 43));rw[<-hW,World.size_alloc] at hbd0;have hbox:W.heap[w.heap.size]? =some (.cells #[.int .u64 (S:Int),.slice A sh.length c,.slice A' cells.length c'] 43 (0,0)):=by
  rw[hW,heap_alloc_old _ _ (by simp),heap_alloc_new]
 have HW:=Qd hW;clear hW hr hAT hP hx;obtain⟨g,hg⟩:∃g,g=w.heap.size:=⟨_,rfl⟩;have HG:=Qd hg;rw[<-hg] at hB hWs hWb hbd0 hbox;have HQ:Hid (∀wx,Below (g+1) W wx->wx.cell? ⟨g,0,none⟩=some (.int .u64 (S:Int))/\wx.cell? ⟨g,1,none⟩=some (.slice A sh.length c)/\wx.cell? ⟨g,2,none⟩=some (.slice A' cells.length c')):=Qd (λwx hb=>by
  have h0:=(hb.block g (by omega)).trans hbox;exact⟨(cell_of_row wx g 0 _ _ _ h0).trans rfl,(cell_of_row wx g 1 _ _ _ h0).trans rfl,(cell_of_row wx g 2 _ _ _ h0).trans rfl⟩)
 have HF:Hid (∀wx,Below (g+1) W wx->SpW wx):=Qd (λwx hb=>hf.below (by rw[<-HG.out];exact hWb.trans (hb.mono (by omega))));have HK:Hid (∀wx,Below (g+1) W wx->∀p:Addr,p.block<B->wx.cell? p=w.cell? p):=Qd (λwx hb p hp=>(hb.cell (show p.block<g+1 by omega)).trans (hWb.cell (show p.block<g by omega)));have TX:=Qd (Wg S W hS (hf.below (by rw[<-HG.out];exact hWb)).tab (hf.below (by rw[<-HG.out];exact hWb)).lt);have HS:=Qd (Gt hS);have LN:=Qd (λ(wx:World) (hb:Below (g+1) W wx)=>F7 sh A c wx B (hl.keep (HK.out wx hb)) (by have:=hb.size;omega) (by omega) hw (HF.out wx hb).ten);have HLW:=Qd (Waa hsh);have HEND:Hid (∀wx,Below (g+1) W wx->Below w.heap.size w wx):=Qd (λwx hb=>by rw[<-HG.out];exact hWb.trans (hb.mono (by omega)));replace hbd0:=Qd hbd0;obtain⟨q0,q1,q2⟩:=HQ.out W Br;clear hbox hwf hsh hf hl hl' hcs hw hWb hsz0 hg;go_enter Tryz.func31,Tryz.ntmps31
 go_upto_region 2 with fail
 rw[<-HW.out,<-HG.out];clear HW;go_wp2_with fail
 refine TX.out.mono ?_;rintro e w1 ⟨rfl,hb1⟩;have c1:Below (g+1) W w1:=hb1.mono (by omega);have b1:=Qd (Mb hbd0.out hb1);clear hb1 q0 q1 q2 TX hbd0;unfold Za;go_wp2_with fail
 refine(Jh _ w1 (by have:=HS.out;omega) (HF.out w1 c1).ten).mono ?_;rintro e w2 ⟨rfl,hb2⟩;have c2:=c1.trans (hb2.mono (by have:=c1.size;omega));have b2:=Qd (Mb b1.out hb2);clear hb2 c1 b1;go_wp2_with fail
 refine(Ko (g+1) (g+1) [] _ w2 b2.out (by simp;omega) (by have:=c2.size;omega)).mono ?_;rintro e w3 ⟨⟨v3,rfl⟩,b3,hb3⟩;have c3:=c2.trans hb3;replace b3:=Qd b3;obtain⟨q0,q1,q2⟩:=HQ.out w3 c3;clear hb3 c2 b2;go_wp2_with fail
 refine(LN.out w3 c3).mono ?_;rintro e w4 ⟨rfl,hb4⟩;rw[HLW.out];have c4:=c3.trans (hb4.mono (by have:=c3.size;omega));have b4:=Qd (Mb b3.out hb4);clear hb4 c3 b3 q0 q1 q2 LN;unfold sv;go_wp2_with fail
 refine(Jh _ w4 (by omega) (HF.out w4 c4).ten).mono ?_;rintro e w5 ⟨rfl,hb5⟩;have c5:=c4.trans (hb5.mono (by have:=c4.size;omega));have b5:=Qd (Mb b4.out hb5);clear hb5 c4 b4;go_wp2_with fail
 refine(Ko (g+1) (g+1) _ _ w5 b5.out (by simp;omega) (by have:=c5.size;omega)).mono ?_;rintro e w6 ⟨⟨v6,rfl⟩,b6,hb6⟩;have c6:=c5.trans hb6;rw[List.nil_append,HP.out] at b6;replace b6:=Qd b6;obtain⟨q0,q1,q2⟩:=HQ.out w6 c6;clear hb6 c5 b5;go_wp2_with fail
 clear q0 q1 q2;go_loopw [19] (λi wr=>∃k:Nat,k<=cells.length/\i= .int .i64 k/\Hid (Lib.IsBuilderF 52 5 (g+1) (g+1) (Lib.byteCells (P++Sp.celsT (cells.take k))) wr)/\Below (g+1) W wr) (λi _=>cells.length-(intOf i).toNat)
 case atStart=>exact⟨0,Nat.zero_le _,rfl,by rw[List.take_zero,Sp.celsT,List.append_nil];exact b6,c6⟩
 case round=>
  clear b6 c6;obtain⟨k,hk,rfl,hb,hbel⟩:=hrel;have hws:=hbel.size;by_cases hlt:k<cells.length
  ·obtain⟨b,off,L,kind,neg,top,bot,ch,ins,A1,c1,A2,c2,A3,c3,us3,rfl,hbB,hL,HX,t1,t2,t3,t4,t5,t6,g0,g1,g2,g3,g4,g5,g6⟩:=Sd HAT.out.1 HAT.out.2 (wr:=wr) (HK.out wr hbel) hlt
   have hk0:(0:Int)<=(k:Int):=by omega
   have hk1:(k:Int)<(cells.length:Int):=by omega
   have hTK:=Et hlt;have hle:=Q2 cells (k+1);have hin:=Ft (Sp.inT cells[k]);have hLL:Sp.celL cells[k]=L:=by rw[HX.out.eq];rfl
   rw[hLL] at hTK;rw[hTK,List.length_append,List.length_append] at hle;have HTK:=Qd hTK;have hwc:=Sp.wf_at HWF.out cells[k] (List.getElem_mem hlt);have hrc:=Sp.right_at HRC.out cells[k] (List.getElem_mem hlt);obtain⟨w0,hw0⟩:∃w0,w0=wr.alloc (.cells #[.int .u64 (L:Int),.int .i64 kind,.bool neg,.slice A1 top.length c1,.slice A2 bot.length c2,.int .i64 ch,.slice A3 ins.length c3] 85):=⟨_,rfl⟩;have hbel0:Below wr.heap.size wr w0:=by rw[hw0];exact Br.alloc Lr _
   have h8:w0.heap[wr.heap.size]? =some (.cells #[.int .u64 (L:Int),.int .i64 kind,.bool neg,.slice A1 top.length c1,.slice A2 bot.length c2,.int .i64 ch,.slice A3 ins.length c3] 85 (0,0)):=by rw[hw0];exact heap_alloc_new _ _
   have hs0:w0.heap.size=wr.heap.size+1:=by rw[hw0];simp
   have d0:Below (g+1) W w0:=hbel.trans (hbel0.mono (by omega));have CL:=Qd (λ(wx:World) (hb:Below (g+1) W wx)=>Ly ih cells[k] _ d wx B (HSZ.out _ (List.getElem_mem hlt)) ((HX.out.asIs hL).keep (HK.out wx hb) Lr) (by have:=hb.size;omega) hrc hwc (by omega) (HF.out wx hb));have n0:w0.cell? ⟨wr.heap.size,0,none⟩=some (.int .u64 (L:Int)):=(cell_of_row w0 wr.heap.size 0 _ _ _ h8).trans rfl;have H8:=Qd h8;have B0:=Qd (Mb hb.out hbel0);have HW0:=Qd hw0;have HLL:=Qd hLL;generalize Sp.inT cells[k]=T at*;clear hw0 hbel0 h8 hTK hwc hrc hLL hb;go_upto_region 7 with fail
   rw[<-HW0.out];clear HW0;go_wp2_with fail
   refine(Wg L w0 hL (HF.out w0 d0).tab (HF.out w0 d0).lt).mono ?_;rintro e w1 ⟨rfl,hb1⟩;have d1:=d0.trans (hb1.mono (by omega));have B1:=Qd (Mb B0.out hb1);have h1:=(hb1.block wr.heap.size (by omega)).trans H8.out;have s1:=hb1.size;have HTL:=Gt hL;clear hb1 d0 B0 n0 g0 g1 g2 g3 g4 g5 g6;generalize Lab.text L=X at*;unfold Za;go_wp2_with fail
   refine(Jh _ w1 (by omega) (HF.out w1 d1).ten).mono ?_;rintro e w2 ⟨rfl,hb2⟩;have d2:=d1.trans (hb2.mono (by omega));have B2:=Qd (Mb B1.out hb2);have h2:=(hb2.block wr.heap.size (by omega)).trans h1;have s2:=hb2.size;clear hb2 d1 B1 h1;go_wp2_with fail
   refine(Lja (g+1) (g+1) _ _ w2 B2.out (by simp;omega) (by omega)).mono ?_;rintro e w3 ⟨⟨v3,rfl⟩,b3,hb3,ho⟩;have d3:=d2.trans hb3;have H3:=Qd (ho wr.heap.size _ _ _ h2 (by omega) (by decide));have s3:=hb3.size;have B3:=Qd b3;clear hb3 ho h2 d2 b3 B2;go_wp2_with (with_reducible refine wpList_load_row rfl 85 (.tmp 5) rfl wr.heap.size rfl 85 #[.int .u64 (L:Int),.int .i64 kind,.bool neg,.slice A1 top.length c1,.slice A2 bot.length c2,.int .i64 ch,.slice A3 ins.length c3] (0,0) _ H3.out Tryz.underlying85 rfl (by kernel_rfl) ?_)
   refine(CL.out w3 d3).mono ?_;rintro e w4 ⟨rfl,hb4⟩;have d4:=d3.trans (hb4.mono (by omega));have B4:=Qd (Mb B3.out hb4);have s4:=hb4.size;clear hb4 d3 B3 H3 H8;go_wp2_with fail
   refine(Jh _ w4 (by omega) (HF.out w4 d4).ten).mono ?_;rintro e w5 ⟨rfl,hb5⟩;have d5:=d4.trans (hb5.mono (by omega));have B5:=Qd (Mb B4.out hb5);have s5:=hb5.size;clear hb5 d4 B4;go_wp2_with fail
   refine(Ko (g+1) (g+1) _ _ w5 B5.out (by simp;omega) (by omega)).mono ?_;rintro e w6 ⟨⟨v6,rfl⟩,b6,hb6⟩;have d6:=d5.trans hb6;rw[List.append_assoc,List.append_assoc,<-HTK.out] at b6;replace b6:=Qd b6;clear hb6 d5 B5;go_wp2_with fail
   go_roundw
   case rel=>exact⟨k+1,by omega,by go_num,b6,d6⟩
   case measure=>simp[intOf];omega
  have hke:k=cells.length:=by omega
  rw[hke,List.take_length] at hb;have BS:=Qd (Tryz.Builder_String_any_k (g+1) (g+1) _ wr hb.out (by omega));clear hb hke;go_wp2_with (go_at_call 32;refine BS.out.mono ?_;rintro e w7 ⟨rfl,_,hb7,_⟩)
  go_ret;exact⟨rfl,HEND.out _ (hbel.trans hb7)⟩
theorem Og:∀n,Dt n
 | 0=>λa vs d w B h=>absurd h (Nat.not_lt_zero _)
 |n+1=>Zaa (Og n)
end
section
open Go.RowKit Ar
def Fa (x:Co.Con):Wb:=⟨λk=>(x.ch[k]?.map (·.clear)).getD 0,λk=>(x.ch[k]?.map (·.label)).getD 0,λk=>(x.ch[k]?.map (·.ins)).getD [],λk=>(x.ch[k]?.map (·.draws)).getD [],x.auth,x.fuel,x.quota,x.depth⟩
theorem Nk {x:Co.Con}{k:Nat}(h:k<x.ch.length):(Fa x).clear k=x.ch[k].clear/\(Fa x).label k=x.ch[k].label/\(Fa x).ins k=x.ch[k].ins/\(Fa x).draws k=x.ch[k].draws:=by simp[Fa,h]
structure Vo (c:Co.Ch):Prop where
 wf:Co.ChWf c
 right:Co.rightCh c=true
 ins:(Co.arrsT c.ins).length<=200000000
 arr:∀a∈c.ins,(Sp.arrT a).length<1000000
 draws:c.draws.length<=4000
structure Yj (x:Co.Con):Prop where
 wf:Co.ConWf x
 ch:∀c∈x.ch,Vo c
theorem Qb {s:List UInt8}(h:s.length<1000000000):(Nw.net s).length<=s.length+12:=by
 have:=(Ten.dec_len (r:=s.length) (k:=9) (by omega)).2;unfold Nw.net;simp;omega
theorem Tc {l:Nat}(h:l<18446744073709551616):(Nw.net (Lab.text l)).length<=300:=by
 have h1:=Lab.text_len h;have h2:=Qb (s:=Lab.text l) (by omega);omega
theorem Mja {c:Co.Ch}(h:Vo c):(Co.chT c).length<=203000000:=by
 have h1:=Tc h.wf.clear;have h2:=Tc h.wf.label;have h3:=Qb (s:=Co.arrsT c.ins) (by have:=h.ins;omega);have h4:=Fc h.wf.draws;have h5:=Qb (s:=Ga c.draws) (by have:=h.draws;omega);have h6:=h.ins;have h7:=h.draws;unfold Co.chT;simp only[List.length_append];omega
theorem Pg:∀{l:List Co.Ch},(∀c∈l,Vo c)->(Co.chsT l).length<=203000000*l.length
 | [],_=>Nat.zero_le _
 |c::r,h=>by
  have h1:=Mja (h c (by simp));have h2:=Pg (λx hx=>h x (List.mem_cons_of_mem c hx));have e:Co.chsT (c::r)=Co.chT c++Co.chsT r:=rfl;rw[e,List.length_append,List.length_cons];omega
theorem Ui {x:Co.Con}(h:Co.ConWf x):(Co.conH x).length<=1000:=by
 have h1:=Tc h.auth;have h2:=Fc h.nums;have h3:=Qb (s:=Ga [x.fuel,x.quota,x.depth]) (by simp at h2;omega);have h4:=Qb (s:=Co.head14) (by decide);have h5:Co.head14.length=14:=rfl;unfold Co.conH;simp only[List.length_append];simp at h2;omega
theorem Sw {l:List Co.Ch}{k:Nat}(h:k<l.length):Co.chsT (l.take (k+1))=Co.chsT (l.take k)++Co.chT l[k]:=by
 unfold Co.chsT;rw[List.take_succ_eq_append_getElem h,List.map_append,List.flatten_append];simp
theorem Ht {l:List Ba}{k:Nat}(h:k<l.length):Co.arrsT (l.take (k+1))=Co.arrsT (l.take k)++Nw.net (Sp.arrT l[k]):=by
 unfold Co.arrsT;rw[List.take_succ_eq_append_getElem h,List.map_append,List.flatten_append];simp
theorem U2 (l:List Ba)(k:Nat):(Co.arrsT (l.take k)).length<=(Co.arrsT l).length:=by
 have e:Co.arrsT l=Co.arrsT (l.take k)++Co.arrsT (l.drop k):=by
  unfold Co.arrsT;rw[<-List.flatten_append,<-List.map_append,List.take_append_drop]
 rw[e,List.length_append];omega
theorem Z2 {T e:TypeId}{B b:Nat}{bs:List Value}{w w':World}(h:Lib.IsBuilderF T e B b bs w)(hb:w'.heap[b]? =w.heap[b]?)(hg:∀p v,w.heap[b]? =some (.cells #[p,v] T (0,0))->∀g,v.ownBlock=some g->w'.heap[g]? =w.heap[g]?):Lib.IsBuilderF T e B b bs w':=by
 have one:∀{p:Value},Lib.BuilderAtF T e B b p bs w->Lib.BuilderAtF T e B b p bs w':=λ{p} k=>by
  obtain⟨h1,v,h2,h3,h4⟩:=k;refine⟨h1,v,hb.trans h2,⟨h3.1,?_⟩,h4⟩;rcases h3.2 with h0 |⟨g,cap,cur,fz,e1,e2,e3,r⟩
  ·exact .inl h0
  exact .inr ⟨g,cap,cur,fz,e1,e2,(hg p v h2 g (by rw[e1];rfl)).trans e3,r⟩
 exact h.imp one one
theorem BldLow.keep {B b m:Nat}{l:List UInt8}{w w':World}(h:BldLow B b m l w)(hk:∀k,B<=k->k<m->w'.heap[k]? =w.heap[k]?):BldLow B b m l w':=by
 have hB:B<=b:=by rcases h.bld with h |h<;>exact h.1
 have hb:=hk b hB h.lt;refine⟨Z2 h.bld hb λp v hv g hg=>hk g ?_ (h.own p v hv g hg),h.lt,λp v e=>h.own p v (hb.symm.trans e)⟩;have key:∀q,Lib.BuilderAtF 52 5 B b q (Lib.byteCells l) w->B<=g:=λq hq=>by
  obtain⟨-,v',hb',hown,-⟩:=hq;rw[hv] at hb';injection hb' with hb'
  injection hb' with e
  injection e with e
  injection e with e1 e2
  injection e2 with e2
  subst e2;exact(hown.lt g hg).1
 exact h.bld.elim (key _) (key _)
structure TxC (w:World) (C:Array Value) (l:List UInt8) (W:World):Prop where
 bel:Below w.heap.size w W
 sz:w.heap.size+1<W.heap.size
 box:W.heap[w.heap.size]? =some (.cells C 29 (0,0))
 bld:Lib.IsBuilderF 52 5 (w.heap.size+1) (w.heap.size+1) (Lib.byteCells l) W
section
variable {w W W' : World} {C : Array Value} {l : List UInt8}
theorem TxC.below (h:TxC w C l W)(hb:Below W.heap.size W W'):TxC w C l W':=
 ⟨h.bel.trans (hb.mono h.bel.size),Nat.lt_of_lt_of_le h.sz hb.size,(hb.block _ (by have:=h.sz;omega)).trans h.box,Mb h.bld hb⟩
theorem TxC.write (h:TxC w C l W)(hb:Below W.heap.size W W')(s:List UInt8)(h1:l.length<=10000000000)(h2:s.length<=10000000000):
 Calls Tryz.prog 27 #[.pointer (some ⟨w.heap.size+1,0,none⟩),.string ⟨s.toArray⟩] W' λe w'=>(∃v,e= .returned v)/\TxC w C (l++s) w'/\(∀k,W.heap.size<=k->k<W'.heap.size->w'.heap[k]? =W'.heap[k]?)/\
  ∀W2,Below W.heap.size w' W2->(∀k,W'.heap.size<=k->W2.heap[k]? =w'.heap[k]?)->TxC w C (l++s) W2:=by
 have hl:=(BldLow.of h.bld).below hb;refine(Oca _ _ _ l s W' hl (by omega) (by have:=h.sz;have:=hb.size;omega)).mono ?_;rintro e w' ⟨he,hbd,hb',hk,ho⟩;have h0:=h.below hb;have hs:=h.sz;have h9:TxC w C (l++s) w':=⟨h0.bel.trans (hb'.mono (by omega)),Nat.lt_of_lt_of_le h0.sz hb'.size,(hb'.block _ (by omega)).trans h0.box,hbd⟩;refine⟨he,h9,hk,λW2 h2 h3=>?_⟩;have hs2:=hb.size;have hs3:=hb'.size;have hbl:W2.heap[w.heap.size+1]? =w'.heap[w.heap.size+1]? :=h2.block _ (by omega);refine⟨h9.bel.trans (h2.mono (by have:=h.bel.size;omega)),by have:=h2.size;omega,(h2.block _ (by omega)).trans h9.box,Z2 hbd hbl λp v hv g hg=>?_⟩;rcases ho p v hv g hg with h |h
 ·exact h2.block _ h
 exact h3 g h
theorem TxC.cell (h:TxC w C l W)(i:Nat):W.cell? ⟨w.heap.size,i,none⟩=C[i]? :=cell_of_row W _ i _ _ _ h.box
end
theorem Nja (w:World)(C:Array Value):TxC w C [] ((w.alloc (.cells C 29)).alloc (.cells #[.pointer none,.slice none 0 0] 52)):=by
 refine⟨(Br.alloc Lr _).alloc (by simp) _,by simp,heap_alloc2_old _ _ _,?_⟩;have h:=Sq (w.alloc (.cells C 29))
 simpa using h
theorem Pia (w:World)(a b c:Int):Lies (w.alloc (.cells #[.int .i64 a,.int .i64 b,.int .i64 c] 3)) (w.heap.size+1) (some ⟨w.heap.size,0,none⟩) (Ya [a,b,c]):=by
 refine .inr ⟨w.heap.size,0,rfl,Nat.lt_succ_self _,λi v hv=>?_⟩;rw[Nat.zero_add,cell_of_row _ _ i _ _ _ (heap_alloc_new w _)]
 simpa [Ya] using hv
theorem Kla (w:World)(f q d:Int)(h:Xa [f,q,d])(hT:Ten20 w):
 Calls Tryz.prog 29 #[.slice (some ⟨w.heap.size,0,none⟩) 3 3] (w.alloc (.cells #[.int .i64 f,.int .i64 q,.int .i64 d] 3)) λe w'=>e= .returned (.string ⟨(Ga [f,q,d]).toArray⟩)/\Below w.heap.size w w':=by
 have hb:Below w.heap.size w (w.alloc (.cells #[.int .i64 f,.int .i64 q,.int .i64 d] 3)):=Br.alloc Lr _;refine(Qw [f,q,d] (some ⟨w.heap.size,0,none⟩) 3 _ (w.heap.size+1) (Pia w f q d) (by simp) (show 3<=1000000 by omega) h (hT.below hb)).mono ?_;rintro e w' ⟨he,hb'⟩;rw[show(w.alloc (.cells #[.int .i64 f,.int .i64 q,.int .i64 d] 3)).heap.size=w.heap.size+1 by simp] at hb';exact⟨he,hb.trans (hb'.mono (Nat.le_succ _))⟩
theorem Xg (x:Co.Con)(C:Array Value)(w:World)(B:Nat)(hC:IsCfg w B (Fa x) C)(hB:B<=w.heap.size)(hx:Yj x)(hw:SpW w):
 Calls Tryz.prog 12 #[.agg C] w (Yf w (Co.conT x)):=by
 have NT:=Qd (λ(s:List UInt8) (hs:s.length<1000000000) (wx:World) (hb:Below w.heap.size w wx)=>Jh s wx hs (hw.below hb).ten);have TX:=Qd (λ(l:Nat) (hl:l<18446744073709551616) (wx:World) (hb:Below w.heap.size w wx)=>Wg l wx hl (hw.below hb).tab (hw.below hb).lt);have WD:=Qd (λ(l:List Int) (A:Option Addr) (c:Nat) (wx:World) (hb:Below w.heap.size w wx) (hl:Lies w B A (Ya l)) (hn:l.length<=1000000) (hf:Xa l)=>Qw l A c wx B (hl.keep λp hp=>hb.cell (by omega)) (Nat.le_trans hB hb.size) hn hf (hw.below hb).ten);have AR:=Qd (λ(a:Ba) (vs:List Value) (wx:World) (hb:Below w.heap.size w wx) (h:IsArr wx B a vs) hr hf hl=>Og _ a vs 8 wx B (Nat.lt_succ_self _) h (Nat.le_trans hB hb.size) hr hf hl (hw.below hb));have TN:=Qd (λ(wx:World) (hb:Below w.heap.size w wx)=>(hw.below hb).ten);have hx0:=Nja w C;obtain⟨W1,hW1⟩:∃W1,W1=(w.alloc (.cells C 29)).alloc (.cells #[.pointer none,.slice none 0 0] 52):=⟨_,rfl⟩;rw[<-hW1] at hx0;have HX0:=Qd hx0;have HW1:=Qd hW1;have HC:=Qd hC;have HX:=Qd hx;have N0:=Qd (NT.out Co.head14 (by decide) W1 hx0.bel);have h14:(Nw.net Co.head14).length<=26:=Qb (s:=Co.head14) (by decide);have hw3:=Fc hx.wf.nums;have hw3':(Ga [x.fuel,x.quota,x.depth]).length<=66:=hw3;have HL3:=Qd (And.intro h14 (And.intro hw3' (Qb (s:=Ga [x.fuel,x.quota,x.depth]) (by omega))));clear hx0 hW1 hw hC hx h14 hw3 hw3';unfold Co.head14 at N0;go_enter Tryz.func12,Tryz.ntmps12
 go_upto_region 2 with fail
 rw[<-HW1.out];go_wp2_with fail
 refine N0.out.mono ?_;rintro e W2 ⟨rfl,hb2⟩;have T1:=Qd (HX0.out.write hb2 (Nw.net Co.head14) (by decide) (by have:=HL3.out.1;omega));clear hb2 N0;unfold Co.head14 at T1;go_upto_region 3 with(go_at_call 27;refine T1.out.mono ?_;rintro e W3 ⟨⟨v1,rfl⟩,hx3,-,-⟩)
 have HX3:=Qd hx3;have p33:W3.cell? ⟨w.heap.size,33,none⟩=some (.int .i64 x.fuel):=(hx3.cell 33).trans HC.out.fuel;have p34:W3.cell? ⟨w.heap.size,34,none⟩=some (.int .i64 x.quota):=(hx3.cell 34).trans HC.out.quota;have p35:W3.cell? ⟨w.heap.size,35,none⟩=some (.int .i64 x.depth):=(hx3.cell 35).trans HC.out.depth;have D1:=Qd (Kla W3 x.fuel x.quota x.depth HX.out.wf.nums (TN.out _ hx3.bel));clear hx3 T1;go_wp2_with fail
 refine D1.out.mono ?_;rintro e W4 ⟨rfl,hb4⟩;have N1:=Qd (NT.out (Ga [x.fuel,x.quota,x.depth]) (by have:=HL3.out.2.1;omega) W4 (HX3.out.below hb4).bel);have HB4:=Qd hb4;clear hb4 p33 p34 p35 D1;go_wp2_with fail
 refine N1.out.mono ?_;rintro e W5 ⟨rfl,hb5⟩;have T2:=Qd (HX3.out.write (HB4.out.trans (hb5.mono HB4.out.size)) (Nw.net (Ga [x.fuel,x.quota,x.depth])) (by have:=HL3.out.1;unfold Co.head14 at this;rw[List.nil_append];omega) (by have:=HL3.out;omega));clear hb5 N1;go_upto_region 4 with(go_at_call 27;refine T2.out.mono ?_;rintro e W6 ⟨⟨v2,rfl⟩,hx6,-,-⟩)
 have HX6:=Qd hx6;have p32:W6.cell? ⟨w.heap.size,32,none⟩=some (.int .u64 (x.auth:Int)):=(hx6.cell 32).trans HC.out.auth;have X1:=Qd (TX.out x.auth HX.out.wf.auth W6 hx6.bel);clear hx6 T2;go_wp2_with fail
 refine X1.out.mono ?_;rintro e W7 ⟨rfl,hb7⟩;unfold Za;have N2:=Qd (NT.out (Lab.text x.auth) (by have:=Lab.text_len HX.out.wf.auth;omega) W7 (HX6.out.below hb7).bel);have HB7:=Qd hb7;clear hb7 p32 X1;go_wp2_with fail
 refine N2.out.mono ?_;rintro e W8 ⟨rfl,hb8⟩;have T3:=HX6.out.write (HB7.out.trans (hb8.mono HB7.out.size)) (Nw.net (Lab.text x.auth)) (by have:=HL3.out;unfold Co.head14 at this;simp only[List.nil_append,List.length_append];omega) (by have:=Tc HX.out.wf.auth;omega);have hs:([]++Nw.net Co.head14++Nw.net (Ga [x.fuel,x.quota,x.depth]))++Nw.net (Lab.text x.auth)=Co.conH x++Co.chsT (x.ch.take 0):=by unfold Co.conH Co.chsT;simp
 unfold Co.head14 at hs;rw[hs] at T3;replace T3:=Qd T3;clear hb8 N2 hs;go_upto_region 5 with(go_at_call 27;refine T3.out.mono ?_;rintro e W9 ⟨⟨v3,rfl⟩,hx9,-,-⟩)
 have HX9:=Qd hx9;clear hx9 T3 HB7 HX6 HX3 HX0 HL3 HB4 TN;go_wp2_with fail
 go_loopw [4,5,7,25] (λ_ _ _ i wr=>∃k:Nat,k<=8/\i= .int .i64 k/\Hid (TxC w C (Co.conH x++Co.chsT (x.ch.take k)) wr)) (λ_ _ _ i _=>8-(intOf i).toNat)
 case atStart=>exact⟨0,Nat.zero_le _,rfl,HX9⟩
 case round=>
  clear HX9;obtain⟨wq,rfl⟩:∃x,x=wr:=⟨_,rfl⟩;obtain⟨k,hk,rfl,HT⟩:=hrel;by_cases hlt:k<8
  ·have hkl:k<x.ch.length:=by rw[HX.out.wf.len];exact hlt
   have hk0:(0:Int)<=(k:Int):=by omega
   have hk8:(k:Int)<8:=by omega
   obtain⟨c,hc⟩:∃c,c=x.ch[k]:=⟨_,rfl⟩;have hfc:Vo c:=HX.out.ch c (by rw[hc];exact List.getElem_mem hkl);obtain⟨e1,e2,e3,e4⟩:=Nk hkl;obtain⟨A,cp,us,i1,i2,i3,i4⟩:=HC.out.ins k hlt;obtain⟨A3,c3,d1,d2,d3,d4⟩:=HC.out.draws k hlt;have z0:=(HC.out.clear k hlt).1;have z2:=(HC.out.label k hlt).1;rw[e1,<-hc] at z0;rw[e2,<-hc] at z2;rw[e3,<-hc] at i1 i2 i4;rw[e4,<-hc] at d1 d2 d3 d4;have hstep:(((Co.conH x++Co.chsT (x.ch.take k))++Nw.net (Lab.text c.clear))++Nw.net (Co.arrsT c.ins))++Nw.net (Lab.text c.label)++Nw.net (Ga c.draws)=Co.conH x++Co.chsT (x.ch.take (k+1)):=by rw[Sw hkl,<-hc];unfold Co.chT;simp[List.append_assoc]
   have hL:(Co.conH x++Co.chsT (x.ch.take k)).length<=2000000000:=by
    have h1:=Ui HX.out.wf;have h2:=Pg (l:=x.ch.take k) (λy hy=>HX.out.ch y (List.mem_of_mem_take hy));rw[List.length_take] at h2;rw[List.length_append];omega
   have HSTEP:=Qd hstep;have HFC:=Qd hfc;have HI:=Qd (And.intro i3 i4);have HD:=Qd (And.intro d3 d4);have hn1:=i2.le (by omega);have hn2:=d2.le (by omega);have HI1:=Qd i1;have HD1:=Qd d1;have HZ:=Qd (And.intro z0 z2);clear hc hfc e1 e2 e3 e4 i1 i2 i3 i4 d1 d2 d3 d4 z0 z2 hstep hkl;generalize Co.conH x++Co.chsT (x.ch.take k)=L at*;obtain⟨wa,hwa⟩:∃wa,wa=wq.alloc (.cells #[.pointer none,.slice none 0 0] 52):=⟨_,rfl⟩;have hba:Below wq.heap.size wq wa:=by rw[hwa];exact Br.alloc Lr _
   have hxa:=HT.out.below hba;have hrow:wa.heap[wq.heap.size]? =some (.cells #[.pointer none,.slice none 0 0] 52 (0,0)):=by rw[hwa];exact heap_alloc_new _ _
   have hbd:Lib.IsBuilderF 52 5 wq.heap.size wq.heap.size (Lib.byteCells []) wa:=by rw[hwa];exact Sq wq
   have p8:wa.cell? ⟨w.heap.size,8+k,none⟩=some (.slice A c.ins.length cp):=(hxa.cell (8+k)).trans HI1.out;have HWA:=Qd hwa;have HBA:=Qd hba;have HBD:=Qd hbd;have HROW:=Qd hrow;have hsw:w.heap.size<=wq.heap.size:=HT.out.bel.size;clear hwa hba hxa hrow hbd;go_upto_region 9 with fail
   rw[<-HWA.out];obtain⟨m,hm⟩:∃m,m=wq.heap.size:=⟨_,rfl⟩;rw[<-hm] at HBA HBD HROW hsw⊢;have HM:=Qd hm;clear hm;go_wp2_with fail
   clear p8;go_loopw [7,33] (λ_ i wx=>∃j:Nat,j<=c.ins.length/\i= .int .i64 j/\Hid (Below m wq wx/\Lib.IsBuilderF 52 5 m m (Lib.byteCells (Co.arrsT (c.ins.take j))) wx/\(j=0->wx.heap[m]? =some (.cells #[.pointer none,.slice none 0 0] 52 (0,0))))) (λ_ i _=>c.ins.length-(intOf i).toNat)
   case atStart=>exact⟨0,Nat.zero_le _,rfl,Qd ⟨HBA.out,HBD.out,λ_=>HROW.out⟩⟩
   case round=>
    clear HBA HBD HROW HWA;obtain⟨wy,rfl⟩:∃y,y=wr:=⟨_,rfl⟩;obtain⟨j,hj,rfl,HJ⟩:=hrel;have hby:=HJ.out.1;have hxy:=HT.out.below (HM.out▸hby);have hsy:=hxy.bel.size;have hmy:m<=wy.heap.size:=by rw[HM.out];exact hby.size
    by_cases hlt':j<c.ins.length
    ·obtain⟨b',off',S',X,xn,xc,X',xn',xc',rfl,hb',HA,e0,e1,e2⟩:=Vb HI.out.2 HI.out.1 (wr:=wy) (λp hp=>hxy.bel.cell (by omega)) hlt'
     have hin:=List.getElem_mem hlt';have hal:=HFC.out.arr _ hin;have AR1:=Qd (λo=>AR.out c.ins[j] _ (wy.alloc o) (hxy.bel.alloc hsy o) (HA.out.below ((hxy.bel.alloc hsy o).mono hB)) (List.all_eq_true.1 HFC.out.right _ hin) (HFC.out.wf.ins _ hin) hal);have hle:=U2 c.ins j;have hfi:=HFC.out.ins;have HBD:=Qd HJ.out.2.1;have hbl:b'<wy.heap.size:=by omega
     have hi0:(0:Int)<=(j:Int):=by omega
     have hi1:(j:Int)<(c.ins.length:Int):=by omega
     have HTK:=Qd (Ht hlt');have HBY:=Qd hby
     have HXY:=Qd hxy;clear HA hin HJ hby hxy;generalize Sp.arrT c.ins[j]=t at*;go_wp2_with fail
     clear e0 e1 e2;refine(AR1.out _).mono ?_;rintro e w2 ⟨rfl,hb2⟩;have hb2':Below wy.heap.size wy w2:=(Br.alloc Lr _).trans (hb2.mono (by simp));have N:=Qd (NT.out t (by omega) w2 (HXY.out.bel.trans (hb2'.mono hsy)));clear hb2 AR1;go_wp2_with fail
     refine N.out.mono ?_;rintro e w3 ⟨rfl,hb3⟩;have hb3':=hb2'.trans (hb3.mono hb2'.size);have hs3:=hb3'.size;have hnl:=Qb (s:=t) (by omega);have T:=Qd (Ko m m _ (Nw.net t) w3 (Mb HBD.out hb3') (by omega) (by omega));clear hb2' hb3 N;go_upto_region 13 with(go_at_call 27;refine T.out.mono ?_;rintro e w4 ⟨⟨v,rfl⟩,hbd4,hb4⟩)
     have HN:Hid (Below m wq w4/\Lib.IsBuilderF 52 5 m m (Lib.byteCells (Co.arrsT (c.ins.take (j+1)))) w4/\(j+1=0->w4.heap[m]? =some (.cells #[.pointer none,.slice none 0 0] 52 (0,0)))):=Qd ⟨(HBY.out.trans (hb3'.mono (by omega))).trans hb4,by rw[HTK.out];exact hbd4,nofun⟩;clear hbd4 hb4 hb3' T HBD HXY HBY;go_wp2_with fail
     go_roundw
     case rel=>exact⟨j+1,by omega,by go_num,HN⟩
     case measure=>simp[intOf];omega
    obtain rfl:j=c.ins.length:=by omega
    have hbd:=HJ.out.2.1;have hnil:=HJ.out.2.2;rw[List.take_length] at hbd;have p0:wy.cell? ⟨w.heap.size,k,none⟩=some (.int .u64 (c.clear:Int)):=(hxy.cell k).trans HZ.out.1;have X1:=Qd (TX.out c.clear HFC.out.wf.clear wy hxy.bel);have HBD:=Qd hbd;have HNIL:=Qd hnil;have HBY:=Qd hby
    have ht1:=Lab.text_len HFC.out.wf.clear;have hn1':=Tc HFC.out.wf.clear;have ht2:=Lab.text_len HFC.out.wf.label;have hn2':=Tc HFC.out.wf.label;have hfi:=HFC.out.ins;have hn3:=Qb (s:=Co.arrsT c.ins) (by omega);have hwd:=Fc HFC.out.wf.draws;have hfd:=HFC.out.draws;have hn4:=Qb (s:=Ga c.draws) (by omega);have hlt2:¬(c.ins.length:Int)<(c.ins.length:Int):=by omega
    clear hbd hnil HJ;go_wp2_with fail
    refine X1.out.mono ?_;rintro e W7 ⟨rfl,hb7⟩;unfold Za;have N2:=Qd (NT.out (Lab.text c.clear) (by omega) W7 (hxy.below hb7).bel);clear p0 X1;go_wp2_with fail
    refine N2.out.mono ?_;rintro e W8 ⟨rfl,hb8⟩;have hy8:=hb7.trans (hb8.mono hb7.size);have hm8:Below m wq W8:=HBY.out.trans (hy8.mono hmy);have hs8:=hy8.size;have T3:=Qd (HT.out.write (HM.out▸hm8) (Nw.net (Lab.text c.clear)) (by omega) (by omega));have HY8:=Qd hy8;clear hb7 hb8 N2 hxy hm8 hy8;go_upto_region 15 with(go_at_call 27;refine T3.out.mono ?_;rintro e W9 ⟨⟨v3,rfl⟩,hx9,hfar,hstay⟩)
    have S1:Calls Tryz.prog 32 #[.pointer (some ⟨m,0,none⟩)] W9 λe w'=>e= .returned (.string ⟨(Co.arrsT c.ins).toArray⟩)/\TxC w C (L++Nw.net (Lab.text c.clear)) w':=by
     rw[<-HM.out] at hfar hstay;by_cases he:c.ins=[]
     ·have hr9:W9.heap[m]? =some (.cells #[.pointer none,.slice none 0 0] 52 (0,0)):=by
       have hr:=HNIL.out (by rw[he];rfl);have hlm:=(Array.getElem?_eq_some_iff.1 hr).1;rw[hfar m Lr (by omega),HY8.out.block m hlm];exact hr
      refine(Any.Builder_String_nil Tryz.lays169 Tryz.Builder_Extra_169 W9.heap.size m (.pointer none) W9 hr9).mono ?_;rintro e w' ⟨rfl,hbA⟩;exact⟨by rw[he];rfl,hx9.below hbA⟩
     have hne:Co.arrsT c.ins≠[]:=by
      obtain⟨a,r,har⟩:=List.exists_cons_of_ne_nil he;rw[har];have hp:=Sp.net_pos (Sp.arrT a);have e:Co.arrsT (a::r)=Nw.net (Sp.arrT a)++Co.arrsT r:=rfl;intro h0;rw[e,List.append_eq_nil_iff] at h0;rw[h0.1] at hp;simp at hp
     have hlow:BldLow m m wy.heap.size (Co.arrsT c.ins) W9:=((BldLow.of HBD.out).below HY8.out).keep (λk h1 h2=>hfar k h1 (by omega));refine(T9 m m wy.heap.size _ W9 hlow hne).mono ?_;rintro e w' ⟨rfl,hbA,hk⟩;exact⟨rfl,hstay w' hbA (λk h=>hk k (by omega))⟩
    replace S1:=Qd S1;clear hx9 hfar hstay HBD HNIL HBY HY8 T3;go_wp2_with (go_at_call 32;refine S1.out.mono ?_;rintro e WA ⟨rfl,hxA⟩)
    have HXA:=Qd hxA;have N3:=Qd (NT.out (Co.arrsT c.ins) (by omega) WA hxA.bel);clear hxA S1;go_wp2_with fail
    refine N3.out.mono ?_;rintro e WB ⟨rfl,hbB⟩;have T4:=Qd (HXA.out.write hbB (Nw.net (Co.arrsT c.ins)) (by rw[List.length_append];omega) (by omega));clear hbB N3;go_upto_region 16 with(go_at_call 27;refine T4.out.mono ?_;rintro e WC ⟨⟨v4,rfl⟩,hxC,-,-⟩)
    have HXC:=Qd hxC;have p16:WC.cell? ⟨w.heap.size,16+k,none⟩=some (.int .u64 (c.label:Int)):=(hxC.cell (16+k)).trans HZ.out.2;have X2:=Qd (TX.out c.label HFC.out.wf.label WC hxC.bel);clear hxC T4 HXA;go_wp2_with fail
    refine X2.out.mono ?_;rintro e WD' ⟨rfl,hbD⟩;unfold Za;have N4:=Qd (NT.out (Lab.text c.label) (by omega) WD' (HXC.out.below hbD).bel);clear p16 X2;go_wp2_with fail
    refine N4.out.mono ?_;rintro e WE ⟨rfl,hbE⟩;have T5:=Qd (HXC.out.write (hbD.trans (hbE.mono hbD.size)) (Nw.net (Lab.text c.label)) (by simp only[List.length_append];omega) (by omega));clear hbD hbE N4 HXC;go_upto_region 17 with(go_at_call 27;refine T5.out.mono ?_;rintro e WF ⟨⟨v5,rfl⟩,hxF,-,-⟩)
    have HXF:=Qd hxF;have p24:WF.cell? ⟨w.heap.size,24+k,none⟩=some (.slice A3 c.draws.length c3):=(hxF.cell (24+k)).trans HD1.out;have D3:=Qd (WD.out c.draws A3 c3 WF hxF.bel HD.out.2 (by omega) HD.out.1);clear hxF T5;go_wp2_with fail
    refine D3.out.mono ?_;rintro e WG ⟨rfl,hbG⟩;unfold sv;have N5:=Qd (NT.out (Ga c.draws) (by omega) WG (HXF.out.below hbG).bel);clear p24 D3;go_wp2_with fail
    refine N5.out.mono ?_;rintro e WH ⟨rfl,hbH⟩;have T6:=HXF.out.write (hbG.trans (hbH.mono hbG.size)) (Nw.net (Ga c.draws)) (by simp only[List.length_append];omega) (by omega);rw[HSTEP.out] at T6;replace T6:=Qd T6;clear hbG hbH N5 HXF;go_upto_region 18 with(go_at_call 27;refine T6.out.mono ?_;rintro e WI ⟨⟨v6,rfl⟩,hxI,-,-⟩)
    have HXI:=Qd hxI;clear hxI T6;go_wp2_with fail
    go_roundw
    case rel=>exact⟨k+1,by omega,by go_num,HXI⟩
    case measure=>simp[intOf];omega
  obtain rfl:k=8:=by omega
  have ht:=HT.out;rw[<-HX.out.wf.len,List.take_length] at ht;have S2:=Qd (Tryz.Builder_String_any_k (w.heap.size+1) (w.heap.size+1) _ wq ht.bld (by have:=ht.sz;omega));go_wp2_with (go_at_call 32;refine S2.out.mono ?_;rintro e WA ⟨rfl,_,hbA,_⟩)
  go_ret;exact⟨rfl,HT.out.bel.trans (hbA.mono (Nat.le_succ _))⟩
end
section
open Go.RowKit Ar
structure TabsC (w:World):Prop where
 ten:Ten20 w
 tab:Tab64 w
 lt:0<w.heap.size
theorem TabsC.below {w w':World}(h:TabsC w)(hb:Below w.heap.size w w'):TabsC w':=⟨h.ten.below hb,h.tab.below h.lt hb,Nat.lt_of_lt_of_le h.lt hb.size⟩
def zC:Array Value:= #[.int .u64 0,.int .u64 0,.int .u64 0,.int .u64 0,.int .u64 0,.int .u64 0,.int .u64 0,.int .u64 0,.slice none 0 0,.slice none 0 0,.slice none 0 0,.slice none 0 0,.slice none 0 0,.slice none 0 0,.slice none 0 0,.slice none 0 0,.int .u64 0,.int .u64 0,.int .u64 0,.int .u64 0,.int .u64 0,.int .u64 0,.int .u64 0,.int .u64 0,.slice none 0 0,.slice none 0 0,.slice none 0 0,.slice none 0 0,.slice none 0 0,.slice none 0 0,.slice none 0 0,.slice none 0 0,.int .u64 0,.int .i64 0,.int .i64 0,.int .i64 0]
theorem Aba (k:Nat)(hk:k<8):zC[k]? =some (.int .u64 0)/\zC[8+k]? =some (.slice none 0 0)/\zC[16+k]? =some (.int .u64 0)/\zC[24+k]? =some (.slice none 0 0):=by
 rcases(show k=0\/k=1\/k=2\/k=3\/k=4\/k=5\/k=6\/k=7 by omega) with rfl |rfl |rfl |rfl |rfl |rfl |rfl |rfl<;>exact⟨rfl,rfl,rfl,rfl⟩
theorem net_len {s:List UInt8}(h:s.length<=1000):(Nw.net s).length<=2000:=by
 have:=(Ten.dec_len (r:=s.length) (k:=9) (by omega)).2;unfold Nw.net;simp only[List.length_append,List.length_cons,List.length_nil];omega
theorem Eha (B b:Nat)(l s:List UInt8)(w:World)(h:Lib.IsBuilderF 52 5 B b (Lib.byteCells l) w)(hlen:l.length+s.length<=140737488355328)(hBw:B<=w.heap.size):
 Calls Tryz.prog 27 #[.pointer (some ⟨b,0,none⟩),.string ⟨s.toArray⟩] w λe w'=>(∃v,e= .returned v)/\Lib.IsBuilderF 52 5 B b (Lib.byteCells (l++s)) w'/\Below B w w'/\Lib.OthersKept 5 (some b) w w':=by
 refine(Any.Builder_WriteString_k Va Ra B b _ ⟨s.toArray⟩ w h (by rw[Lib.byteCells_length];exact hlen) hBw).mono ?_;rintro e w' ⟨he,hbd,hb,hk⟩;exact⟨⟨_,he⟩,.inr (by rw[Lib.byteCells_append];exact hbd),hb,hk⟩
structure TxAt (w:World) (l:List UInt8) (W:World):Prop where
 bel:Below w.heap.size w W
 sz:w.heap.size+1<W.heap.size
 box:W.heap[w.heap.size]? =some (.cells zC 29 (0,0))
 bld:Lib.IsBuilderF 52 5 (w.heap.size+1) (w.heap.size+1) (Lib.byteCells l) W
theorem TxAt.below {w W W':World}{l:List UInt8}(h:TxAt w l W)(hb:Below W.heap.size W W'):TxAt w l W':=
 ⟨h.bel.trans (hb.mono h.bel.size),Nat.lt_of_lt_of_le h.sz hb.size,(hb.block _ (by have:=h.sz;omega)).trans h.box,Mb h.bld hb⟩
theorem TxAt.write {w W:World}{l:List UInt8}(h:TxAt w l W)(s:List UInt8)(h1:l.length<=1000000)(h2:s.length<=1000000):
 Calls Tryz.prog 27 #[.pointer (some ⟨w.heap.size+1,0,none⟩),.string ⟨s.toArray⟩] W λe w'=>(∃v,e= .returned v)/\TxAt w (l++s) w'/\Lib.OthersKept 5 (some (w.heap.size+1)) W w':=by
 refine(Eha _ _ l s W h.bld (by omega) (by have:=h.sz;omega)).mono ?_;rintro e w' ⟨he,hbd,hb,hk⟩;exact⟨he,⟨h.bel.trans (hb.mono (by omega)),Nat.lt_of_lt_of_le h.sz hb.size,(hb.block _ (by omega)).trans h.box,hbd⟩,hk⟩
theorem TxAt.cell {w W:World}{l:List UInt8}(h:TxAt w l W)(i:Nat):W.cell? ⟨w.heap.size,i,none⟩=zC[i]? :=cell_of_row W _ i _ _ _ h.box
end
theorem Zj (n:Nat)(w:World)(h:n<10):
 Calls Tryz.prog 64 #[.int .i64 (n:Int)] w λe w'=>e= .returned (Za (Lib.decDigits n))/\w=w':=by
 have HD:=Qd (Lib.decDigits_one h);have h10:n=0\/n=1\/n=2\/n=3\/n=4\/n=5\/n=6\/n=7\/n=8\/n=9:=by omega
 rcases h10 with rfl |rfl |rfl |rfl |rfl |rfl |rfl |rfl |rfl |rfl
 all_goals
  go_enter Tryz.func64,Tryz.ntmps64
  go_wp2_with fail
  go_ret;exact⟨by rw[HD.out];rfl,rfl⟩
theorem Aq (n:Nat)(w:World)(h:n<100):
 Calls Tryz.prog 64 #[.int .i64 (n:Int)] w λe w'=>e= .returned (Za (Lib.decDigits n))/\w=w':=by
 by_cases h10:n<10
 ·exact Zj n w h10
 have HD:Lib.decDigits n=Lib.decDigits (n/10)++Lib.decDigits (n%10):=by
  rw[Lib.decDigits_two h10 h,Lib.decDigits_one (by omega:n/10<10),Lib.decDigits_one (by omega:n%10<10)];rfl
 replace HD:=Qd HD;have H1:=Qd (Zj (n/10) w (by omega));have H2:=Qd (Zj (n%10) w (by omega));have hp:(Lib.decDigits (n/10)).length=1:=by rw[Lib.decDigits_one (by omega:n/10<10)];rfl
 have hq:(Lib.decDigits (n%10)).length=1:=by rw[Lib.decDigits_one (by omega:n%10<10)];rfl
 generalize Lib.decDigits (n/10)=p at HD H1 hp;generalize Lib.decDigits (n%10)=q at HD H2 hq;have e1:((n/10:Nat):Int)=(n:Int)/10:=by omega
 have e2:((n%10:Nat):Int)=(n:Int)%10:=by omega
 rw[e1] at H1;rw[e2] at H2;clear e1 e2;go_enter Tryz.func64,Tryz.ntmps64
 go_wp2_with fail
 refine H1.out.mono ?_;rintro e w' ⟨rfl,rfl⟩;rw[Za];go_wp2_with fail
 refine H2.out.mono ?_;rintro e w' ⟨rfl,rfl⟩;rw[Za];go_wp2_with fail
 go_ret;exact⟨by rw[HD.out];simp only[Za,Ija];rfl,rfl⟩
end Go.Proofs.YtmiccalfamepdaaGreatDoor
