/- Texts of this proof, joined. -/
import Derived.Test.YtogjgbmngagimaaGreatDoorM9
import Derived.Lib.AppendIntMem
import Derived.Deep.CutRange
set_option linter.all false
set_option maxHeartbeats 8000000
set_option maxRecDepth 100000
namespace Go.Proofs.YtogjgbmngagimaaGreatDoor
open Go.RowKit
theorem Ll {w:World}{v1 v2:Value}{l1 l2:List Nat}(h1:IsRes w v1 l1)(h2:IsRes w v2 l2)(o1:Nt.Ok l1)(o2:Nt.Ok l2)(s1:l1.length<=1000000)(s2:l2.length<=1000000):
 Calls Tryz.prog 226 #[v1,v2] w λe w'=>∃u1 u2,e= .returned (.tuple #[u1,u2,.bool (decide (Nt.val l2≠0))])/\IsRes w' u1 (Nt.digs (Nt.quo (Nt.val l1) (Nt.val l2)))/\IsRes w' u2 (Nt.digs (Nt.rest (Nt.val l1) (Nt.val l2)))/\Below w.heap.size w w':=by
 obtain⟨A,c,rfl,a1,a2,a3,a4⟩:=h1;obtain⟨A',c',rfl,b1,b2,b3,b4⟩:=h2;exact(Um A A' c c' w.heap.size l1 l2 w a4 b4 Lr o1 o2 a1 b1 a2 b2 s1 s2 (.inr Xt)).mono (by
  rintro e w' ⟨u1,u2,rfl,r1,r2,hb'⟩;exact⟨u1,u2,rfl,r1,r2,hb'⟩)
theorem C7 {w:World}{v1 v2:Value}{l1 l2:List Nat}(h1:IsRes w v1 l1)(h2:IsRes w v2 l2)(o1:Nt.Ok l1)(o2:Nt.Ok l2)(s1:l1.length<=1000000)(s2:l2.length<=1000000):
 Calls Tryz.prog 206 #[v1,v2] w λe w'=>∃v,e= .returned v/\IsRes w' v (Nt.digs (Nat.gcd (Nt.val l1) (Nt.val l2)))/\Below w.heap.size w w':=by
 have h1':=h1;have h2':=h2;obtain⟨A,c,rfl,-⟩:=h1;obtain⟨A',c',rfl,-⟩:=h2;exact Qx A A' c c' l1 l2 w h1' h2' o1 o2 s1 s2
theorem digs_one:Nt.digs 1=[1]:=by rw[Nt.digs_pos (by decide)];simp[Nt.digs_zero]
theorem D7 (x:Nat):(Nt.digs x==[1])=(x==1):=by
 rw[Bool.eq_iff_iff,beq_iff_eq,beq_iff_eq]
 constructor
 ·intro h
  have:=congrArg Nt.val h;rw[Nt.val_digs] at this;rw[this];rfl
 rintro rfl;exact digs_one
def Cb (g:Nat)(P Q:Array Value)(xs:Nat->Value):Act:={tmps:= #[.agg P,.agg Q,.pointer (some ⟨g,0,none⟩),.pointer (some ⟨g+1,0,none⟩),.pointer (some ⟨g+1+1,0,none⟩),.int .i64 0,xs 6,xs 7,undef,xs 0,xs 1,xs 2,xs 3,xs 4,xs 5,undef,undef,undef,undef,undef,undef,undef,undef,undef,undef,undef,undef,undef,undef,undef,undef,undef,undef,undef,undef,undef,undef,undef,undef,undef,undef,undef,undef,undef,undef,undef,undef,undef,undef,undef,undef,undef,undef,undef,undef,undef,undef,undef,undef,undef,undef,undef,undef,undef],defers:=[]}
def Vaa (g:Nat)(V1 V2:Value)(l1 l2:List Nat):Nat->World->Value->Prop
 | 0,w,v=>v= .pointer (some ⟨g,1,none⟩)
 | 1,w,v=>v=V1
 | 2,w,v=>IsRes w v (Nt.digs (Nt.val l1))
 | 3,w,v=>v= .pointer (some ⟨g+1,1,none⟩)
 | 4,w,v=>v=V2
 | 5,w,v=>IsRes w v (Nt.digs (Nt.val l2))
 | 6,w,v=>IsRes w v (Nt.digs (Nt.val l1))
 |_,w,v=>IsRes w v (Nt.digs (Nt.val l2))
theorem Ur (n1 n2:Bool)(v1 v2:Value)(l1 l2:List Nat)(w:World)(h1:IsRes w v1 l1)(h2:IsRes w v2 l2)(o1:Nt.Ok l1)(o2:Nt.Ok l2)(s1:l1.length<=1000000)(s2:l2.length<=1000000):
 Calls Tryz.prog 180 #[.agg #[.bool n1,v1],.agg #[.bool n2,v2]] w (MakeOut w (Rt.mk n1 n2 (Nt.val l1) (Nt.val l2))):=by
 obtain⟨g,hg⟩:∃g,g=w.heap.size:=⟨_,rfl⟩;obtain⟨W,hW⟩:∃W,W=((w.alloc (.cells #[.bool n1,v1] 173)).alloc (.cells #[.bool n2,v2] 173)).alloc (.cells #[.bool false,.slice none 0 0,.slice none 0 0] 85):=⟨_,rfl⟩;have hWs:W.heap.size=g+1+1+1:=by rw[hW,hg];simp
 have hWb:Below g w W:=by rw[hW,hg];exact((Br.alloc Lr _).alloc (by simp) _).alloc (by simp;omega) _
 have hW0:W.heap[g]? =some (.cells #[.bool n1,v1] 173 (0,0)):=by rw[hW,hg];exact(Below.heap_alloc _ _ _ (by simp;omega)).trans (heap_alloc2_old _ _ _)
 have hW1:W.heap[g+1]? =some (.cells #[.bool n2,v2] 173 (0,0)):=by rw[hW,hg];exact(Below.heap_alloc _ _ _ (by simp)).trans (heap_alloc2_new _ _ _)
 have HW2:Hid (W.heap[g+1+1]? =some (.cells #[.bool false,.slice none 0 0,.slice none 0 0] 85 (0,0))):=Qd (by
  rw[hW,hg];have:=heap_alloc_new ((w.alloc (.cells #[.bool n1,v1] 173)).alloc (.cells #[.bool n2,v2] 173)) (.cells #[.bool false,.slice none 0 0,.slice none 0 0] 85);rwa[show((w.alloc (.cells #[.bool n1,v1] 173)).alloc (.cells #[.bool n2,v2] 173)).heap.size=w.heap.size+1+1 by simp] at this)
 have HQ:Hid (∀wx,Below W.heap.size W wx->wx.cell? ⟨g,1,none⟩=some v1/\wx.cell? ⟨g+1,1,none⟩=some v2):=Qd (λwx hx=>⟨(cell_of_row wx g 1 _ _ _ ((hx.block g (by omega)).trans hW0)).trans rfl,(cell_of_row wx (g+1) 1 _ _ _ ((hx.block (g+1) (by omega)).trans hW1)).trans rfl⟩);have HQ0:Hid (∀wx,Below W.heap.size W wx->wx.cell? ⟨g,0,none⟩=some (.bool n1)/\wx.cell? ⟨g+1,0,none⟩=some (.bool n2)):=Qd (λwx hx=>⟨(cell_of_row wx g 0 _ _ _ ((hx.block g (by omega)).trans hW0)).trans rfl,(cell_of_row wx (g+1) 0 _ _ _ ((hx.block (g+1) (by omega)).trans hW1)).trans rfl⟩);have hr1:∀wx,Below W.heap.size W wx->IsRes wx v1 l1:=λwx hx=>(h1.below (by rw[<-hg];exact hWb)).below hx;have hr2:∀wx,Below W.heap.size W wx->IsRes wx v2 l2:=λwx hx=>(h2.below (by rw[<-hg];exact hWb)).below hx;have N1:=Qd (λ(wx:World) (hx:Below W.heap.size W wx)=>Zi (hr1 wx hx) o1 s1);have N2:=Qd (λ(wx:World) (hx:Below W.heap.size W wx)=>Zi (hr2 wx hx) o2 s2);have d1:=Nt.digs_len_le o1;have d2:=Nt.digs_len_le o2;have HW:=Qd hW;have HG:=Qd hg;have hgl:g+1+1<W.heap.size:=by omega
 obtain⟨A1,c1,rfl,-⟩:=h1;obtain⟨A2,c2,rfl,-⟩:=h2;clear hW hW0 hW1 hr1 hr2 hWs;go_enter Tryz.func180,Tryz.ntmps180
 go_wp2_with fail
 rw[<-HW.out,<-hg];clear hg;refine Jh (Cb g #[.bool n1,(.slice A1 l1.length c1)] #[.bool n2,(.slice A2 l2.length c2)]) W (Vaa g (.slice A1 l1.length c1) (.slice A2 l2.length c2) l1 l2) (by kernel_rfl) ?_ (by kernel_rfl) (λi=>undef) rfl Br ?_ ?_
 ·intro i w1 w2 v hv hb
  match i with
  | 0=>exact hv
  | 1=>exact hv
  | 2=>exact hv.below hb
  | 3=>exact hv
  | 4=>exact hv
  | 5=>exact hv.below hb
  | 6=>exact hv.below hb
  |i+7=>exact hv.below hb
 ·intro i xs w1 hi hb hdep
  have hi6:i<8:=hi;clear hi;rcases(show i=0\/i=1\/i=2\/i=3\/i=4\/i=5\/i=6\/i=7 by omega) with rfl |rfl |rfl |rfl |rfl |rfl |rfl |rfl
  ·refine Ca rfl rfl ?_
   unfold Cb Oper.wp;go_simp
   exact⟨_,by simp only[Cb,La];simp[Act.put],rfl,Br⟩
  ·have h0:xs 0= .pointer (some ⟨g,1,none⟩):=hdep 0 (by kernel_rfl)
   refine Ca rfl rfl ?_;have q:=(HQ.out w1 hb).1;unfold Cb Oper.wp;simp only[h0];go_simp
   exact⟨_,by simp only[Cb,La];simp[Act.put,h0],rfl,Br⟩
  ·have h1:xs 1=(.slice A1 l1.length c1):=hdep 1 (by kernel_rfl)
   refine Ca rfl rfl ?_;unfold Cb Oper.wp;simp only[h1];go_simp
   refine(N1.out w1 hb).mono ?_;rintro e w2 ⟨v',rfl,hr,hb2⟩;exact⟨_,by simp only[Cb,La];simp[Act.put,h1],hr,hb2⟩
  ·refine Ca rfl rfl ?_
   unfold Cb Oper.wp;go_simp
   exact⟨_,by simp only[Cb,La];simp[Act.put],rfl,Br⟩
  ·have h3:xs 3= .pointer (some ⟨g+1,1,none⟩):=hdep 3 (by kernel_rfl)
   refine Ca rfl rfl ?_;have q:=(HQ.out w1 hb).2;unfold Cb Oper.wp;simp only[h3];go_simp
   exact⟨_,by simp only[Cb,La];simp[Act.put,h3],rfl,Br⟩
  ·have h4:xs 4=(.slice A2 l2.length c2):=hdep 4 (by kernel_rfl)
   refine Ca rfl rfl ?_;unfold Cb Oper.wp;simp only[h4];go_simp
   refine(N2.out w1 hb).mono ?_;rintro e w2 ⟨v',rfl,hr,hb2⟩;exact⟨_,by simp only[Cb,La];simp[Act.put,h4],hr,hb2⟩
  ·have r2:IsRes w1 (xs 2) (Nt.digs (Nt.val l1)):=hdep 2 (by kernel_rfl)
   refine Ca rfl rfl ?_;unfold Cb Oper.wp;go_simp
   exact⟨_,by simp only[Cb,La];simp[Act.put],r2,Br⟩
  have r5:IsRes w1 (xs 5) (Nt.digs (Nt.val l2)):=hdep 5 (by kernel_rfl);refine Ca rfl rfl ?_;unfold Cb Oper.wp;go_simp
  exact⟨_,by simp only[Cb,La];simp[Act.put],r5,Br⟩
 intro xs w1 hb hx;have r6:IsRes w1 (xs 6) (Nt.digs (Nt.val l1)):=hx 6 (by decide);have r7:IsRes w1 (xs 7) (Nt.digs (Nt.val l2)):=hx 7 (by decide);clear hx;obtain⟨X,hX⟩:∃X,X=Nt.val l1:=⟨_,rfl⟩;obtain⟨Y,hY⟩:∃Y,Y=Nt.val l2:=⟨_,rfl⟩;rw[<-hX] at r6 d1⊢;rw[<-hY] at r7 d2⊢;have HXv:=Qd hX;have HYv:=Qd hY;clear hX hY;obtain⟨x,hx⟩:∃x,x=Nt.digs X:=⟨_,rfl⟩;obtain⟨y,hy⟩:∃y,y=Nt.digs Y:=⟨_,rfl⟩;have OX:Nt.Ok x:=hx▸Nt.ok_digs X;have OY:Nt.Ok y:=hy▸Nt.ok_digs Y;rw[<-hx] at r6 d1;rw[<-hy] at r7 d2;have HX2:=Qd hx;have HY2:=Qd hy;have HR1:=Qd r6;have HR2:=Qd r7;have HY0:Hid (y.length=0↔Y=0):=Qd (by rw[hy,List.length_eq_zero_iff,Nt.digs_nil_iff]);clear hx hy;obtain⟨C1,k1,f1,-⟩:=r6;obtain⟨C2,k2,f2,-⟩:=r7;rw[f1] at HR1;rw[f2] at HR2;have p0:=(HQ0.out w1 hb).1;have p0':=(HQ0.out w1 hb).2;have HGA:=Qd ((hb.block (g+1+1) hgl).trans HW2.out);have hxw:Below g w w1:=hWb.trans (hb.mono (by omega));unfold Cb;simp only[f1,f2];by_cases hk0:y.length=0
 ·have hz:((y.length:Int)==0)=true:=by rw[hk0];rfl
  have HK0:=Qd (HY0.out.1 hk0);go_wp2_with (first
   |(with_reducible refine Vb rfl (.tmp 4) (.tmp 18) rfl (g+1+1) rfl rfl HGA.out ?_))
  refine Za (by rfl) (by rfl) (by rfl) rfl HGA.out (MakeOut.of (by unfold Rt.mk;rw[<-HXv.out,<-HYv.out,if_pos HK0.out];rfl) rfl (Ea _) (Ea _) (by rw[<-HG.out];exact rBelow.setRow hxw (by omega) _))
 have hz:((y.length:Int)==0)=false:=beq_eq_false_iff_ne.2 (by omega);have HY1:Hid (Y≠0):=Qd (λh=>hk0 (HY0.out.2 h));by_cases hy1:y=[1]
 ·have q:(y==[1])=true:=by rw[hy1];rfl
  have I1:=Td _ _ w1 HR2.out;rw[q] at I1;have hYv:Y=1:=by have:=HY2.out;rw[hy1] at this;have:=congrArg Nt.val this;rw[Nt.val_digs] at this;exact this.symm
  have HE1:Hid (x=Nt.digs (X/Nat.gcd X Y)):=Qd (by rw[hYv,Nat.gcd_one_right,Nat.div_one];exact HX2.out);have HE2:Hid (y=Nt.digs (Y/Nat.gcd X Y)):=Qd (by rw[hYv,Nat.gcd_one_right,Nat.div_one,<-hYv];exact HY2.out);have HI1:=Qd I1;have Hy1:=Qd hy1;clear hYv q I1 hy1;go_wp2_with fail
  refine HI1.out.mono ?_;rintro e w2 ⟨rfl,rfl⟩;have HGB:=HGA;have hbw:=hxw;have HT1:=HR1;have HT3:=HR2;clear HGA hxw HI1;have HX0:Hid (x.length=0↔X=0):=Qd (by rw[HE1.out,List.length_eq_zero_iff,Nt.digs_nil_iff];exact Rt.div_gcd_zero HY1.out);by_cases h32:32<x.length
  ·have g1:decide ((32:Int)<(x.length:Int))=true:=by simp;omega
   go_wp2_with (first
    |(with_reducible refine Vb rfl (.tmp 4) (.tmp 50) rfl (g+1+1) rfl rfl HGB.out ?_))
   refine Za (by rfl) (by rfl) (by rfl) rfl HGB.out (MakeOut.of (by unfold Rt.mk;rw[<-HXv.out,<-HYv.out,if_neg HY1.out,<-HE1.out,<-HE2.out,if_pos (by omega)];rfl) rfl (Ea _) (Ea _) (by rw[<-HG.out];exact rBelow.setRow hbw (by omega) _))
  by_cases h33:32<y.length
  ·have g1:decide ((32:Int)<(x.length:Int))=false:=by simp;omega
   have g2:decide ((32:Int)<(y.length:Int))=true:=by simp;omega
   go_wp2_with (first
    |(with_reducible refine Vb rfl (.tmp 4) (.tmp 50) rfl (g+1+1) rfl rfl HGB.out ?_))
   refine Za (by rfl) (by rfl) (by rfl) rfl HGB.out (MakeOut.of (by unfold Rt.mk;rw[<-HXv.out,<-HYv.out,if_neg HY1.out,<-HE1.out,<-HE2.out,if_pos (by omega)];rfl) rfl (Ea _) (Ea _) (by rw[<-HG.out];exact rBelow.setRow hbw (by omega) _))
  have g1:decide ((32:Int)<(x.length:Int))=false:=by simp;omega
  have g2:decide ((32:Int)<(y.length:Int))=false:=by simp;omega
  by_cases h34:0<x.length
  ·have g3:decide ((0:Int)<(x.length:Int))=true:=decide_eq_true (by omega)
   have HXB:Hid ((X==0)=false):=Qd (by have:=HX0.out;simp;omega);cases n1<;>cases n2
   all_goals
    go_wp2_with (first
     |(with_reducible refine Vb rfl (.tmp 4) (.tmp 63) rfl (g+1+1) rfl rfl HGB.out ?_))
    refine Za (by rfl) (by rfl) (by rfl) rfl HGB.out (MakeOut.of (by unfold Rt.mk;rw[<-HXv.out,<-HYv.out,if_neg HY1.out,<-HE1.out,<-HE2.out,if_neg (by omega),HXB.out];rfl) rfl (HT1.out.setRow HGB.out (Da _ _ _ _ _ _ _) _) (HT3.out.setRow HGB.out (Da _ _ _ _ _ _ _) _) (by rw[<-HG.out];exact rBelow.setRow hbw (by omega) _))
  have g3:decide ((0:Int)<(x.length:Int))=false:=decide_eq_false (by omega);have HXB:Hid ((X==0)=true):=Qd (by have:=HX0.out;simp;omega);go_wp2_with (first
   |(with_reducible refine Vb rfl (.tmp 4) (.tmp 63) rfl (g+1+1) rfl rfl HGB.out ?_))
  refine Za (by rfl) (by rfl) (by rfl) rfl HGB.out (MakeOut.of (by unfold Rt.mk;rw[<-HXv.out,<-HYv.out,if_neg HY1.out,<-HE1.out,<-HE2.out,if_neg (by omega),HXB.out];rfl) rfl (HT1.out.setRow HGB.out (Da _ _ _ _ _ _ _) _) (HT3.out.setRow HGB.out (Da _ _ _ _ _ _ _) _) (by rw[<-HG.out];exact rBelow.setRow hbw (by omega) _))
 have q:(y==[1])=false:=beq_eq_false_iff_ne.2 hy1;have I1:=Td _ _ w1 HR2.out;rw[q] at I1;have HI1:=Qd I1;have hvx:Nt.val x=X:=by rw[HX2.out,Nt.val_digs]
 have hvy:Nt.val y=Y:=by rw[HY2.out,Nt.val_digs]
 have HVX:=Qd hvx;have HVY:=Qd hvy;obtain⟨G,hG⟩:∃G,G=Nat.gcd X Y:=⟨_,rfl⟩;have GC:=C7 HR1.out HR2.out OX OY (by omega) (by omega);rw[hvx,hvy,<-hG] at GC;have HGC:=Qd GC;have HGG:=Qd hG;have HG0:Hid (G≠0):=Qd (by rw[hG];have:=Nat.gcd_pos_of_pos_right X (Nat.pos_of_ne_zero HY1.out);omega);have hGl:(Nt.digs G).length<=1000000:=by
  have:=Nt.digs_len_le_of (show G<=Y by rw[hG];exact Nat.le_of_dvd (Nat.pos_of_ne_zero HY1.out) (Nat.gcd_dvd_right X Y));rw[<-HY2.out] at this;omega
 have hgl1:=Ja HGA.out;clear hy1 q I1 hvx hvy GC hG;go_wp2_with fail
 refine HI1.out.mono ?_;rintro e w2 ⟨rfl,rfl⟩;clear HI1;go_wp2_with fail
 refine HGC.out.mono ?_;rintro e w2 ⟨v3,rfl,hr3,hb3⟩;have HR3:=Qd hr3;have HR1b:=Qd (HR1.out.below hb3);have HR2b:=Qd (HR2.out.below hb3);have HGA2:=Qd ((hb3.block (g+1+1) (by omega)).trans HGA.out);have hxw2:Below g w w2:=hxw.trans (hb3.mono (by omega));have P0:=Qd ((hb3.cell (p:=⟨g,0,none⟩) (show g<_ by omega)).trans p0);have P0':=Qd ((hb3.cell (p:=⟨g+1,0,none⟩) (show g+1<_ by omega)).trans p0');have I3:=Td v3 (Nt.digs G) w2 hr3;rw[D7] at I3;have HI3':=Qd I3;have hs3:=hb3.size;have hgl2:g+1+1<w2.heap.size:=by omega
 clear hr3 hb3 p0 p0' I3 HGC HGA hxw;by_cases hg1:G=1
 ·have q3:(G==1)=true:=by rw[hg1];rfl
  rw[q3] at HI3';have HE1:Hid (x=Nt.digs (X/Nat.gcd X Y)):=Qd (by rw[<-HGG.out,hg1,Nat.div_one];exact HX2.out);have HE2:Hid (y=Nt.digs (Y/Nat.gcd X Y)):=Qd (by rw[<-HGG.out,hg1,Nat.div_one];exact HY2.out);clear hg1 q3;go_wp2_with fail
  refine HI3'.out.mono ?_;rintro e w3 ⟨rfl,rfl⟩;have HGB:=HGA2;have hbw:=hxw2;have HT1:=HR1b;have HT3:=HR2b;have p0:=P0.out;have p0':=P0'.out;clear HGA2 hxw2 HI3' P0 P0';have HX0:Hid (x.length=0↔X=0):=Qd (by rw[HE1.out,List.length_eq_zero_iff,Nt.digs_nil_iff];exact Rt.div_gcd_zero HY1.out);by_cases h32:32<x.length
  ·have g1:decide ((32:Int)<(x.length:Int))=true:=by simp;omega
   go_wp2_with (first
    |(with_reducible refine Vb rfl (.tmp 4) (.tmp 50) rfl (g+1+1) rfl rfl HGB.out ?_))
   refine Za (by rfl) (by rfl) (by rfl) rfl HGB.out (MakeOut.of (by unfold Rt.mk;rw[<-HXv.out,<-HYv.out,if_neg HY1.out,<-HE1.out,<-HE2.out,if_pos (by omega)];rfl) rfl (Ea _) (Ea _) (by rw[<-HG.out];exact rBelow.setRow hbw (by omega) _))
  by_cases h33:32<y.length
  ·have g1:decide ((32:Int)<(x.length:Int))=false:=by simp;omega
   have g2:decide ((32:Int)<(y.length:Int))=true:=by simp;omega
   go_wp2_with (first
    |(with_reducible refine Vb rfl (.tmp 4) (.tmp 50) rfl (g+1+1) rfl rfl HGB.out ?_))
   refine Za (by rfl) (by rfl) (by rfl) rfl HGB.out (MakeOut.of (by unfold Rt.mk;rw[<-HXv.out,<-HYv.out,if_neg HY1.out,<-HE1.out,<-HE2.out,if_pos (by omega)];rfl) rfl (Ea _) (Ea _) (by rw[<-HG.out];exact rBelow.setRow hbw (by omega) _))
  have g1:decide ((32:Int)<(x.length:Int))=false:=by simp;omega
  have g2:decide ((32:Int)<(y.length:Int))=false:=by simp;omega
  by_cases h34:0<x.length
  ·have g3:decide ((0:Int)<(x.length:Int))=true:=decide_eq_true (by omega)
   have HXB:Hid ((X==0)=false):=Qd (by have:=HX0.out;simp;omega);cases n1<;>cases n2
   all_goals
    go_wp2_with (first
     |(with_reducible refine Vb rfl (.tmp 4) (.tmp 63) rfl (g+1+1) rfl rfl HGB.out ?_))
    refine Za (by rfl) (by rfl) (by rfl) rfl HGB.out (MakeOut.of (by unfold Rt.mk;rw[<-HXv.out,<-HYv.out,if_neg HY1.out,<-HE1.out,<-HE2.out,if_neg (by omega),HXB.out];rfl) rfl (HT1.out.setRow HGB.out (Da _ _ _ _ _ _ _) _) (HT3.out.setRow HGB.out (Da _ _ _ _ _ _ _) _) (by rw[<-HG.out];exact rBelow.setRow hbw (by omega) _))
  have g3:decide ((0:Int)<(x.length:Int))=false:=decide_eq_false (by omega);have HXB:Hid ((X==0)=true):=Qd (by have:=HX0.out;simp;omega);go_wp2_with (first
   |(with_reducible refine Vb rfl (.tmp 4) (.tmp 63) rfl (g+1+1) rfl rfl HGB.out ?_))
  refine Za (by rfl) (by rfl) (by rfl) rfl HGB.out (MakeOut.of (by unfold Rt.mk;rw[<-HXv.out,<-HYv.out,if_neg HY1.out,<-HE1.out,<-HE2.out,if_neg (by omega),HXB.out];rfl) rfl (HT1.out.setRow HGB.out (Da _ _ _ _ _ _ _) _) (HT3.out.setRow HGB.out (Da _ _ _ _ _ _ _) _) (by rw[<-HG.out];exact rBelow.setRow hbw (by omega) _))
 have q3:(G==1)=false:=beq_eq_false_iff_ne.2 hg1;rw[q3] at HI3';have DM:=Ll HR1b.out HR3.out OX (Nt.ok_digs G) (by omega) hGl;rw[HVX.out,Nt.val_digs] at DM;have HDM:=Qd DM;clear hg1 q3 DM;go_wp2_with fail
 refine HI3'.out.mono ?_;rintro e w3 ⟨rfl,rfl⟩;clear HI3';go_wp2_with fail
 refine HDM.out.mono ?_;rintro e w4 ⟨u1,u2,rfl,t1,t2,hb4⟩;have HT1a:=Qd t1;have DN:=Ll (HR2b.out.below hb4) (HR3.out.below hb4) OY (Nt.ok_digs G) (by omega) hGl;rw[HVY.out,Nt.val_digs] at DN;have HDN:=Qd DN;have HGA3:=Qd ((hb4.block (g+1+1) (by omega)).trans HGA2.out);have hxw3:Below g w w4:=hxw2.trans (hb4.mono (by omega));have P1:=Qd ((hb4.cell (p:=⟨g,0,none⟩) (show g<_ by omega)).trans P0.out);have P1':=Qd ((hb4.cell (p:=⟨g+1,0,none⟩) (show g+1<_ by omega)).trans P0'.out);have hs4:=hb4.size;clear t1 t2 hb4 DN HDM HGA2 hxw2 P0 P0' HR1b HR2b;go_wp2_with fail
 refine HDN.out.mono ?_;rintro e w5 ⟨u3,u4,rfl,t3,t4,hb5⟩;have HGB:=Qd ((hb5.block (g+1+1) (by omega)).trans HGA3.out);have hbw:Below g w w5:=hxw3.trans (hb5.mono (by omega));have P2:=Qd ((hb5.cell (p:=⟨g,0,none⟩) (show g<_ by omega)).trans P1.out);have P2':=Qd ((hb5.cell (p:=⟨g+1,0,none⟩) (show g+1<_ by omega)).trans P1'.out);have hT1:=HT1a.out.below hb5;obtain⟨e1,he1⟩:∃e1,e1=Nt.digs (Nt.quo X G):=⟨_,rfl⟩;obtain⟨e2,he2⟩:∃e2,e2=Nt.digs (Nt.quo Y G):=⟨_,rfl⟩;rw[<-he1] at hT1;rw[<-he2] at t3;rw[HGG.out] at he1 he2;have HE1:Hid (e1=Nt.digs (X/Nat.gcd X Y)):=Qd he1;have HE2:Hid (e2=Nt.digs (Y/Nat.gcd X Y)):=Qd he2;have HT1:=Qd hT1;have HT3:=Qd t3;clear he1 he2 hT1 t3 t4 hb5 HDN HGA3 hxw3 P1 P1' HT1a;have HX0:Hid (e1.length=0↔X=0):=Qd (by rw[HE1.out,List.length_eq_zero_iff,Nt.digs_nil_iff];exact Rt.div_gcd_zero HY1.out);obtain⟨B1,a1,rfl,-⟩:=HT1.out;obtain⟨B2,a2,rfl,-⟩:=HT3.out;have p0:=P2.out;have p0':=P2'.out;clear P2 P2';by_cases h32:32<e1.length
 ·have g1:decide ((32:Int)<(e1.length:Int))=true:=by simp;omega
  go_wp2_with (first
   |(with_reducible refine Vb rfl (.tmp 4) (.tmp 50) rfl (g+1+1) rfl rfl HGB.out ?_))
  refine Za (by rfl) (by rfl) (by rfl) rfl HGB.out (MakeOut.of (by unfold Rt.mk;rw[<-HXv.out,<-HYv.out,if_neg HY1.out,<-HE1.out,<-HE2.out,if_pos (by omega)];rfl) rfl (Ea _) (Ea _) (by rw[<-HG.out];exact rBelow.setRow hbw (by omega) _))
 by_cases h33:32<e2.length
 ·have g1:decide ((32:Int)<(e1.length:Int))=false:=by simp;omega
  have g2:decide ((32:Int)<(e2.length:Int))=true:=by simp;omega
  go_wp2_with (first
   |(with_reducible refine Vb rfl (.tmp 4) (.tmp 50) rfl (g+1+1) rfl rfl HGB.out ?_))
  refine Za (by rfl) (by rfl) (by rfl) rfl HGB.out (MakeOut.of (by unfold Rt.mk;rw[<-HXv.out,<-HYv.out,if_neg HY1.out,<-HE1.out,<-HE2.out,if_pos (by omega)];rfl) rfl (Ea _) (Ea _) (by rw[<-HG.out];exact rBelow.setRow hbw (by omega) _))
 have g1:decide ((32:Int)<(e1.length:Int))=false:=by simp;omega
 have g2:decide ((32:Int)<(e2.length:Int))=false:=by simp;omega
 by_cases h34:0<e1.length
 ·have g3:decide ((0:Int)<(e1.length:Int))=true:=decide_eq_true (by omega)
  have HXB:Hid ((X==0)=false):=Qd (by have:=HX0.out;simp;omega);cases n1<;>cases n2
  all_goals
   go_wp2_with (first
    |(with_reducible refine Vb rfl (.tmp 4) (.tmp 63) rfl (g+1+1) rfl rfl HGB.out ?_))
   refine Za (by rfl) (by rfl) (by rfl) rfl HGB.out (MakeOut.of (by unfold Rt.mk;rw[<-HXv.out,<-HYv.out,if_neg HY1.out,<-HE1.out,<-HE2.out,if_neg (by omega),HXB.out];rfl) rfl (HT1.out.setRow HGB.out (Da _ _ _ _ _ _ _) _) (HT3.out.setRow HGB.out (Da _ _ _ _ _ _ _) _) (by rw[<-HG.out];exact rBelow.setRow hbw (by omega) _))
 have g3:decide ((0:Int)<(e1.length:Int))=false:=decide_eq_false (by omega);have HXB:Hid ((X==0)=true):=Qd (by have:=HX0.out;simp;omega);go_wp2_with (first
  |(with_reducible refine Vb rfl (.tmp 4) (.tmp 63) rfl (g+1+1) rfl rfl HGB.out ?_))
 refine Za (by rfl) (by rfl) (by rfl) rfl HGB.out (MakeOut.of (by unfold Rt.mk;rw[<-HXv.out,<-HYv.out,if_neg HY1.out,<-HE1.out,<-HE2.out,if_neg (by omega),HXB.out];rfl) rfl (HT1.out.setRow HGB.out (Da _ _ _ _ _ _ _) _) (HT3.out.setRow HGB.out (Da _ _ _ _ _ _ _) _) (by rw[<-HG.out];exact rBelow.setRow hbw (by omega) _))
end Go.Proofs.YtogjgbmngagimaaGreatDoor
namespace Nt
def TenDnAt (l:List Nat)(cur:List Nat)(k r:Nat):Prop:=cur.length+k=l.length/\Ok cur/\r<10/\val cur*10+r=val (l.drop k)
theorem tenDn_start (l:List Nat):TenDnAt l [] l.length 0:=⟨by simp,Lm,by omega,by simp[val]⟩
theorem tenDn_step {l cur:List Nat}{k r:Nat}(h:TenDnAt l cur (k+1) r)(hk:k<l.length)(hl:Ok l):TenDnAt l ((r*4294967296+l[k])/10::cur) k ((r*4294967296+l[k])%10):=by
 obtain⟨h1,h2,h3,h4⟩:=h;have hx:=ok_get hl hk;refine⟨by simp;omega,λd hd=>?_,by omega,?_⟩
 ·rcases List.mem_cons.1 hd with e |e
  ·rw[e];omega
  exact h2 d e
 rw[List.drop_eq_getElem_cons hk,val,val,<-h4];generalize l[k]=x at*;generalize val cur=V at*;omega
theorem tenDn_end {l cur:List Nat}{r:Nat}(h:TenDnAt l cur 0 r):val cur=val l/10/\r=val l%10:=by
 obtain⟨h1,h2,h3,h4⟩:=h;rw[List.drop_zero] at h4;omega
end Nt
namespace Go.Proofs.YtogjgbmngagimaaGreatDoor
open Go.RowKit
def D3:Value->Nat
 | .string b=>b.size
 |_=>0
theorem Lies.cells_ {w:World}{B:Nat}{ad:Addr}{xs:List Value}(h:Lies w B (some ad) xs):∀j u,xs[j]? =some u->w.cell? (ad.add j)=some u:=λj u hj=>by
 have hp:0<xs.length:=by
  rcases Nat.lt_or_ge j xs.length with h' |h'
  ·omega
  rw[List.getElem?_eq_none h'] at hj;cases hj
 obtain⟨ad',h1,h2⟩:=h.src hp;injection h1 with h1
 subst h1;exact h2 j u hj
theorem F3 {r:Nat}(h:r<10):(⟨#[48,49,50,51,52,53,54,55,56,57]⟩:ByteArray).extract r (r+1)=⟨#[Ten.dch r]⟩:=by
 match r,h with
 | 0,_=>decide
 | 1,_=>decide
 | 2,_=>decide
 | 3,_=>decide
 | 4,_=>decide
 | 5,_=>decide
 | 6,_=>decide
 | 7,_=>decide
 | 8,_=>decide
 | 9,_=>decide
def Ap (k:Nat):Nat:=10^(10*(k+1))
theorem Rx (k:Nat){l:List Nat}(ho:Nt.Ok l)(hs:l.length<=k+1):Nt.val l<Ap k:=by
 have h1:=Nt.val_lt ho;have h2:(4294967296:Nat)^l.length<=4294967296^(k+1):=Nat.pow_le_pow_right (by omega) hs;have h3:(4294967296:Nat)^(k+1)<=(10^10)^(k+1):=Nat.pow_le_pow_left (by omega) (k+1);rw[<-Nat.pow_mul] at h3;exact Nat.lt_of_lt_of_le h1 (Nat.le_trans h2 h3)
theorem Sx (k:Nat){n:Nat}(h:n<Ap k):(Lib.decDigits n).length<=10*(k+1):=by
 have:=(Ten.dec_len (k:=10*k+9) (r:=n) (by rw[show 10*k+9+1=10*(k+1) by omega];exact h)).2;omega
theorem Ud {l:List Nat}(ho:Nt.Ok l)(hs:l.length<=1000):(Lib.decDigits (Nt.val l)).length<=10000:=Sx 999 (Rx 999 ho hs)
theorem G3 {n y:Nat}{T:List UInt8}(h:Ten.OutAt n y T):T.length<=(Lib.decDigits n).length/\(0<y->T.length<(Lib.decDigits n).length):=by
 have hne:=Ten.dec_ne y;have:0<(Lib.decDigits y).length:=List.length_pos_iff.2 hne;rcases Nat.eq_zero_or_pos y with e |e
 ·exact⟨by rw[h.2 e];exact Lr,λh'=>by omega⟩
 have:=h.1 e;exact⟨by rw[this,List.length_append];omega,λ_=>by rw[this,List.length_append];omega⟩
theorem Mw (A:Option Addr)(c B:Nat)(l:List Nat)(w:World)(hl:Lies w B A (U l))(hB:B<=w.heap.size)(ho:Nt.Ok l)(hc:l.length<=c)(hm:c<=9223372036854775807)(hA:A=none->c=0)(hs:l.length<=1000):
 Calls Tryz.prog 88 #[.slice A l.length c] w λe w'=>e= .returned (.string ⟨(Lib.decDigits (Nt.val l)).toArray⟩)/\Below w.heap.size w w':=by
 obtain⟨i0,hi,hz0,hz1,hz2⟩:=info_parts Ob;have hdl:=Nt.digs_len_le ho;have hlen:=Ud ho hs;have RN:=Qd (Fd A c B l w hl hB ho hc hm hA (by omega));clear hl ho;generalize Nt.val l=n at*;go_enter Tryz.func88,Tryz.ntmps88
 go_wp2_with fail
 refine RN.out.mono ?_;rintro e w1 ⟨v,rfl,hres,hb1⟩;obtain⟨A1,c1,rfl,hc1,hc2,hc3,hlies⟩:=hres;by_cases h0:n=0
 ·subst h0
  rw[Nt.digs_zero];clear RN;have HZ:Hid (Lib.decDigits 0=[48]):=Qd (Ten.dec_small (by omega));go_wp2_with fail
  go_ret;rw[HZ.out];exact⟨rfl,hb1⟩
 have hne:(Nt.digs n).length≠0:=λe=>h0 (Nt.digs_nil_iff.1 (List.eq_nil_of_length_eq_zero e));have hne2:(((Nt.digs n).length:Int)==0)=false:=by rw[beq_eq_false_iff_ne];omega
 clear RN;go_wp2_with fail
 go_loopw [3,4] (λxv sv wr=>∃(y:Nat) (T:List UInt8),(Nt.digs y).length<=1000/\T.length<=10000/\sv= .string ⟨T.toArray⟩/\IsRes wr xv (Nt.digs y)/\Below w.heap.size w wr/\Hid (Ten.OutAt n y T)) (λ_ sv _=>10001-D3 sv)
 case atStart=>exact⟨n,[],by omega,by simp,rfl,⟨A1,c1,rfl,hc1,hc2,hc3,hlies⟩,hb1,Qd (Ten.OutAt.start (by omega))⟩
 case round=>
  clear hlies hc1 hc2 hc3 hb1 hne hne2;obtain⟨y,T,hyl,hT,rfl,⟨A1,c1,rfl,hc1,hc2,hc3,hlies⟩,hbel,H⟩:=hrel;have hsz:=hbel.size;by_cases hy0:y=0
  ·subst hy0
   have HE:=Qd (H.out.2 rfl);rw[Nt.digs_zero];go_wp2_with fail
   go_ret;rw[HE.out];exact⟨rfl,hbel⟩
  have hypos:0<(Nt.digs y).length:=Nat.pos_of_ne_zero (λe=>hy0 (Nt.digs_nil_iff.1 (List.eq_nil_of_length_eq_zero e)));have hTl:=(G3 H.out).2 (by omega);have STEP:=Qd (H.out.step (by omega));have HDE:Hid (∀cur r,Nt.TenDnAt (Nt.digs y) cur 0 r->Nt.val cur=y/10/\r=y%10/\Nt.Ok cur/\cur.length=(Nt.digs y).length):=Qd (λcur r h=>by
   have:=Nt.tenDn_end h;rw[Nt.val_digs] at this;exact⟨this.1,this.2,h.2.1,by have:=h.1;omega⟩)
  have HYL:Hid ((Nt.digs (y/10)).length<=1000):=Qd (Nat.le_trans (Nt.digs_len_le_of (Nat.div_le_self y 10)) hyl);have OX:=Qd (Nt.ok_digs y);have DS:=Qd (Nt.tenDn_start (Nt.digs y));obtain⟨dx,hdx⟩:∃dx,dx=Nt.digs y:=⟨_,rfl⟩;rw[<-hdx] at hyl hc1 hlies hypos HDE OX DS⊢;clear hdx H
  rename World=>W
  go_wp2_with fail
  go_loopw [5,6,7] (λov rv iv wq=>∃(k r:Nat) (cur:List Nat),k<=dx.length/\r<10/\iv= .int .i64 ((k:Int)-1)/\rv= .int .u64 (r:Int)/\IsRes wq ov cur/\Below W.heap.size W wq/\Hid (Nt.TenDnAt dx cur k r)) (λ_ _ iv _=>(intOf iv+1).toNat)
  case atStart=>exact⟨dx.length,0,[],Lr,by omega,by go_num,rfl,IsRes.none_ _,Br,DS⟩
  case round=>
   obtain⟨k,r,cur,hk,hr,rfl,rfl,⟨A2,c2,rfl,hd1,hd2,hd3,hl2⟩,hbq,HQ⟩:=hrel;have hszq:=hbq.size;rcases k with _ |k
   ·obtain⟨hv1,hv2,hv3,hv4⟩:=HDE.out cur r HQ.out
    have RN:=Qd (Fd A2 c2 _ cur wr hl2 Lr hv3 hd1 hd2 hd3 (by omega));rw[hv1] at RN;rw[<-hv2] at STEP;have HDG:=Qd (F3 hr);have hcl:cur.length<=1000:=by omega
    clear hv1 hv2 hv3 hv4 hl2 hd3 HDE DS OX;go_wp2_with fail
    rw[HDG.out,show(⟨#[Ten.dch r]⟩:ByteArray)++⟨T.toArray⟩=⟨(Ten.dch r::T).toArray⟩ from by
     apply ByteArray.ext;simp]
    refine RN.out.mono ?_;rintro e w3 ⟨v3,rfl,hres3,hb3⟩;have hyq:(Nt.digs (y/10)).length<=1000:=HYL.out;go_wp2_with fail
    exact⟨⟨y/10,Ten.dch r::T,hyq,by simp;omega,rfl,hres3,hbel.trans ((hbq.trans (hb3.mono hszq)).mono hsz),STEP⟩,by simp[D3,ByteArray.size];omega⟩
   have hk1:((k+1:Nat):Int)-1=(k:Int):=by omega
   rw[hk1];clear hk1;have hkl:k<dx.length:=by omega
   obtain⟨b,off,rfl,hbb,hcell⟩:=(hlies.below hbq).limb hkl;have hxb:=Nt.ok_get OX.out hkl;have ST:=Qd (Nt.tenDn_step HQ.out hkl OX.out);have hcl:cur.length+(k+1)=dx.length:=HQ.out.1;generalize dx[k]=x at hcell hxb ST;obtain⟨t,ht⟩:∃t,t=r*4294967296+x:=⟨_,rfl⟩;have hti:(r:Int)*4294967296+(x:Int)=(t:Int):=by omega
   have htb:t<42949672960:=by omega
   rw[<-ht] at ST;clear ht;obtain⟨q,hq⟩:∃q,q=t/10:=⟨_,rfl⟩;have hqi:(t:Int)/10=(q:Int):=by omega
   have hqb:q<4294967296:=by omega
   obtain⟨r2,hr2⟩:∃r2,r2=t%10:=⟨_,rfl⟩;have hri:(t:Int)%10=(r2:Int):=by omega
   have hrb:r2<10:=by omega
   rw[<-hq,<-hr2] at ST;clear hq hr2;have hown1:(wr.alloc (.cells #[.int .u32 (q:Int)] 186)).ownsRow W.heap.size 186 1 (.slice (some ⟨wr.heap.size,0,none⟩) 1 1) 1 [.int .u32 (q:Int)]:=(Blk.new wr 186 [.int .u32 (q:Int)]).own_all hszq (by simp[maxLen]);have hb4:=hbq.alloc hszq (.cells #[.int .u32 (q:Int)] 186);rcases A2 with _ |ad
   ·have hc0:c2=0:=hd3 rfl
    subst hc0;obtain rfl:cur=[]:=List.eq_nil_of_length_eq_zero (by omega);go_wp2_with (at_builtin;refine wpList_append_own_none rfl _ _ 83 rfl W.heap.size 186 i0 1 Tryz.underlying83 hi _ 1 _ rfl hown1 rfl ?_)
    refine⟨⟨k,r2,[q],by omega,hrb,by go_num,congrArg (Value.int .u64) (by omega),IsRes.of_own (base:=W.heap.size) hown1,hb4,ST⟩,?_⟩
    first|(simp[intOf];done) |(simp[intOf];omega)
   have hl3:Lies (wr.alloc (.cells #[.int .u32 (q:Int)] 186)) wr.heap.size (some ad) (U cur):=Lies.below (show Lies wr wr.heap.size (some ad) (U cur) from hl2) (Br.alloc Lr _);clear hd3;go_wp2_with (at_builtin;refine wpList_append_own _ rfl _ _ 83 rfl W.heap.size 186 i0 (.int .u32 0) 1 4 Tryz.underlying83 hi hz0 hz1 hz2 rfl (by decide) _ 1 _ rfl hown1 ad cur.length c2 (U cur) rfl (by rw[Dc];omega) (Lies.cells_ hl3) (Hy _) (by unfold maxLen;omega) (by omega) (by simp;omega) ?_;intro v3 w3 hown3 hgrow3 hnn3)
   have hb3:Below W.heap.size W w3:=hb4.grown hgrow3 (by simp;omega) (λk hk=>by injection hk with hk;subst hk;exact hszq);refine⟨⟨k,r2,q::cur,by omega,hrb,by go_num,congrArg (Value.int .u64) (by omega),IsRes.of_own (base:=W.heap.size) ?_,hb3,ST⟩,?_⟩
   ·rw[Nat.add_comm] at hown3;exact hown3
   first|(simp[intOf];done) |(simp[intOf];omega)
end Go.Proofs.YtogjgbmngagimaaGreatDoor
namespace Go.Proofs.YtogjgbmngagimaaGreatDoor
open Go.RowKit
theorem Yt {w w':World}{base n:Nat}{t:TypeId}{v:Value}{xs:List Value}(h:w.ownsRow base t 1 v n xs)(hk:∀g,base<=g->g<w.heap.size->w'.heap[g]? =w.heap[g]?):w'.ownsRow base t 1 v n xs:=by
 refine⟨h.1,?_⟩;rcases h.2 with h2 |⟨g,cap,cur,hv,hb,hg,hr⟩
 ·exact .inl h2
 refine .inr ⟨g,cap,cur,hv,hb,?_,hr⟩;rw[hk g hb (by
  rcases Nat.lt_or_ge g w.heap.size with h' |h'
  ·exact h'
  rw[Array.getElem?_eq_none h'] at hg;cases hg)]
 exact hg
theorem Hf {w w':World}{T e:TypeId}{B b:Nat}{bs:List Value}(h:Lib.IsBuilder T e B b bs w)(hb:Below w.heap.size w w'):Lib.IsBuilder T e B b bs w':=by
 have one:∀{p:Value},Lib.BuilderAt T e B b p bs w->Lib.BuilderAt T e B b p bs w':=λ{p} k=>by
  have hlt:=k.lt;obtain⟨h1,v,h2,h3,h4⟩:=k;exact⟨h1,v,(hb.block b hlt).trans h2,Yt h3 (λg _ hg=>hb.block g hg),h4⟩
 exact h.imp one one
theorem Zg {P:Program}{w w':World}{Yo:String}{k:IntKind}{zs:List Int}{B:Nat}(h:Lib.TabIs P w Yo k zs)(hb:Below B w w')(hg:∀g,P.globalNamed Yo=some g->g<B):Lib.TabIs P w' Yo k zs:=by
 unfold Lib.TabIs World.var? at*;cases he:P.globalNamed Yo with
 |none=>simp[he] at h
 |some g=>
  simp only[he,Option.bind_some] at h⊢;rw[hb.block g (hg g he)];exact h
def Zt:Value->Nat
 | .slice _ n _=>n
 |_=>0
def Ge (v i:Nat):List Nat:=(List.range i).map (Ten.grp v)
theorem E7 (v i:Nat):(Ge v i).length=i:=by simp[Ge]
theorem J3 (v i:Nat):Ge v (i+1)=Ge v i++[Ten.grp v i]:=by simp[Ge,List.range_succ]
theorem J9 {v i j:Nat}(h:j<i):(Ge v i)[j]? =some (Ten.grp v j):=by
 rw[Ge,List.getElem?_map,List.getElem?_range h];rfl
theorem Hz (k:Nat){v i:Nat}(hv:v<Ap k)(h:0<v/1000000000^i):9*i<10*(k+1):=by
 rcases Nat.lt_or_ge (9*i) (10*(k+1)) with h' |h'
 ·exact h'
 exfalso
 have h1:(10:Nat)^(10*(k+1))<=10^(9*i):=Nat.pow_le_pow_right (by omega) h';rw[Nat.pow_mul 10 9 i] at h1;rw[Nat.div_eq_of_lt (Nat.lt_of_lt_of_le hv h1)] at h;omega
theorem L3 {v i:Nat}(hv:v<Ap 999)(h:0<v/1000000000^i):i<1112:=by
 have:=Hz 999 hv h;omega
theorem M3 {l:List Nat}(ho:Nt.Ok l)(hs:l.length<=1000):Nt.val l<Ap 999:=Rx 999 ho hs
theorem N3 {m n:Nat}(h:m<=n)(hn:n<Ap 999):(Lib.decDigits m).length<=10000:=Sx 999 (Nat.lt_of_le_of_lt h hn)
theorem Au:∀c,Lib.repeatL [48] c=List.replicate c 48
 | 0=>rfl
 |c+1=>by rw[Lib.repeatL,Au c,List.replicate_succ];rfl
theorem Iz {n i j:Nat}(h:0<n/1000000000^j)(hij:i<=j):0<n/1000000000^i:=
 Nat.lt_of_lt_of_le h (Nat.div_le_div_left (Nat.pow_le_pow_right (by omega) hij) (Nat.pow_pos (by omega)))
theorem F7 (A:Option Addr)(c B:Nat)(l:List Nat)(w:World)(hl:Lies w B A (U l))(hB:B<=w.heap.size)(ho:Nt.Ok l)(hc:l.length<=c)(hm:c<=9223372036854775807)(hs:l.length<=1000)
 (htab:Lib.TabIs Tryz.prog w "internal/strconv.uint64pow10" .u64 Lib.pow10Tab) (hg:∀g,Tryz.prog.globalNamed "internal/strconv.uint64pow10" =some g→g<w.heap.size):
 Calls Tryz.prog 120 #[.slice A l.length c] w λe w'=>e= .returned (.string ⟨(Lib.decDigits (Nt.val l)).toArray⟩)/\Below w.heap.size w w':=by
 obtain⟨i0,hi,hz0,hz1,hz2⟩:=info_parts Ob;have hdl:=Nt.digs_len_le ho;have hlen:=Ud ho hs;have hvb:=Qd (M3 ho hs);have RN:=Qd (Pd A c B l w hl hB ho hc hm (by omega));have HTAB:=Qd htab;have HG:=Qd hg;clear hl ho htab hg;generalize Nt.val l=n at*;go_enter Tryz.func120,Tryz.ntmps120
 go_wp2_with fail
 refine RN.out.mono ?_;rintro e w1 ⟨rfl,hblk1,hb1⟩;by_cases h0:n=0
 ·subst h0
  rw[Nt.digs_zero];clear RN;have HZ:Hid (Lib.decDigits 0=[48]):=Qd (Ten.dec_small (by omega));go_wp2_with fail
  go_ret;rw[HZ.out];exact⟨rfl,hb1⟩
 have hne:(Nt.digs n).length≠0:=λe=>h0 (Nt.digs_nil_iff.1 (List.eq_nil_of_length_eq_zero e));have hne2:(((Nt.digs n).length:Int)==0)=false:=by rw[beq_eq_false_iff_ne];omega
 clear RN;have hsz1:=hblk1.lt;go_wp2_with (at_make;refine Hb _ rfl _ _ 83 rfl 186 i0 (.int .u32 0) Tryz.underlying83 hi hz0 hz1 rfl .i64 .i64 _ _ 0 ((Nt.digs n).length+(Nt.digs n).length/8+1) rfl rfl rfl (by go_num) (by omega) (by rw[hz2];omega) (by omega) w.heap.size w hb1 (by omega) ?_;intro w2 hblk2 hb2 hb2' hlt2)
 have hown2:w2.ownsRow (w.heap.size+1) 186 1 (.slice (some ⟨w1.heap.size,0,none⟩) 0 ((Nt.digs n).length+(Nt.digs n).length/8+1)) 0 []:=by
  have:=hblk2.own (base:=w.heap.size+1) (n:=0) (by omega) (by omega) (by simp[maxLen];omega)
  simpa using this
 have hblkG:=hblk1.keep hb2' hsz1;clear hblk1 hblk2 hb1 hb2' hlt2;go_loopw [3,4] (λrv gv wr=>∃(i y cc:Nat) (tl:List Value),i<=1112/\(Nt.digs y).length<=1000/\(Nt.digs y).length<=cc/\cc<=1000/\rv= .slice (some ⟨w.heap.size,0,none⟩) (Nt.digs y).length cc/\Blk wr w.heap.size 186 (U (Nt.digs y)++tl)/\wr.ownsRow (w.heap.size+1) 186 1 gv i (U (Ge n i))/\Below w.heap.size w wr/\Hid (y=n/1000000000^i/\(i=0\/0<n/1000000000^(i-1)))) (λ_ gv _=>1200-Zt gv)
 case atStart=>exact⟨0,n,(Nt.digs n).length,[],by omega,by omega,Lr,by omega,rfl,by rw[List.append_nil];exact hblkG,hown2,hb2,Qd ⟨by simp,.inl rfl⟩⟩
 case round=>
  clear hown2 hblkG hb2 hne hne2;obtain⟨i,y,cc,tl,hi12,hyl,hycc,hcc,rfl,hblk,hown,hbel,H⟩:=hrel;have hsz:=hbel.size;have hszG:=hblk.lt;obtain⟨A2,C2,rfl,hC1,hC2⟩:=Sa hown;by_cases hy0:y=0
  ·subst hy0
   rw[Nt.digs_zero];go_wp2_with fail
   have hip:0<i:=by
    rcases Nat.eq_zero_or_pos i with e |e
    ·have:=H.out.1;rw[e] at this;simp at this;omega
    exact e
   have HT0:Hid (n/1000000000^i=0∧0<n/1000000000^(i-1)):=Qd ⟨H.out.1.symm,H.out.2.resolve_left (by omega)⟩;have HLG:=Qd (Lies.of_own hown);have HTABW:Hid (∀wq,Below wr.heap.size wr wq→Lib.TabIs Tryz.prog wq "internal/strconv.uint64pow10" .u64 Lib.pow10Tab):=Qd (λwq hq=>Zg (Zg HTAB.out hbel HG.out) hq (λg hg=>Nat.lt_of_lt_of_le (HG.out g hg) hsz));have hbld0:Lib.IsBuilder 55 5 wr.heap.size wr.heap.size (Lib.byteCells []) (wr.alloc (.cells #[.pointer none,.slice none 0 0] 55)):= .inl ⟨Lr,.slice none 0 0,heap_alloc_new wr _,World.ownsRow_nil _ _ _ _,by simp[Value.ownBlock]⟩;have hbq0:Below wr.heap.size wr (wr.alloc (.cells #[.pointer none,.slice none 0 0] 55)):=Br.alloc Lr _;clear hown hblk H
   rename World=>W
   go_loopw [6] (λiv wq=>∃(k:Nat) (T:List UInt8),k<=i/\T.length<=10000/\iv= .int .i64 ((k:Int)-1)/\Lib.IsBuilder 55 5 W.heap.size W.heap.size (Lib.byteCells T) wq/\Below W.heap.size W wq/\Hid ((k=i/\T=[])\/(k<i/\T=Lib.decDigits (n/1000000000^k)))) (λiv _=>(intOf iv+1).toNat)
   case atStart=>exact⟨i,[],Lr,by simp,rfl,hbld0,hbq0,Qd (.inl ⟨rfl,rfl⟩)⟩
   case round=>
    clear hbld0 hbq0;obtain⟨k,T,hk,hTl,rfl,hbld,hbq,HK⟩:=hrel;have hszq:=hbq.size;rcases k with _ |k
    ·have HT:Hid (T=Lib.decDigits n):=Qd (by
      rcases HK.out with⟨e,_⟩ |⟨_,e⟩
      ·omega
      rw[e,Nat.pow_zero,Nat.div_one])
     have BS:=Qd (Tryz.Builder_String_any W.heap.size W.heap.size T wr hbld hszq);clear hbld;go_wp2_with (go_at_call 30;refine BS.out.mono ?_;rintro e w7 ⟨rfl,hb7⟩)
     go_ret;rw[HT.out];exact⟨rfl,hbel.trans ((hbq.trans hb7).mono hsz)⟩
    have hk1:((k+1:Nat):Int)-1=(k:Int):=by omega
    rw[hk1];clear hk1;have hki:k<(Ge n i).length:=by rw[E7];omega
    obtain⟨b,off,rfl,hbb,hcell⟩:=(HLG.out.below hbq).limb hki;have hget:(Ge n i)[k]=Ten.grp n k:=by
     have:=J9 (v:=n) (show k<i by omega);rw[List.getElem?_eq_getElem hki] at this;exact Option.some.inj this
    rw[hget] at hcell;have hgl:=Ten.grp_lt n k;have HTOP:Hid (k+1=i->Lib.decDigits (Ten.grp n k)=Lib.decDigits (n/1000000000^k)):=Qd (λe=>Ten.grp_top (by rw[e];exact HT0.out.1));have HLOW:Hid (k+1<i->Lib.decDigits (n/1000000000^k)=Lib.decDigits (n/1000000000^(k+1))++(List.replicate (9-(Lib.decDigits (Ten.grp n k)).length) 48++Lib.decDigits (Ten.grp n k))):=Qd (λe=>Ten.grp_low (Iz HT0.out.2 (by omega)));have HSH:Hid ((Lib.decDigits (n/1000000000^k)).length<=10000):=Qd (N3 (Nat.div_le_self _ _) hvb.out);have hD:=Ten.dec_len (k:=8) (show Ten.grp n k<10^9 by simpa using hgl);have FU:=Qd (Zo (Ten.grp n k) wr (by omega) (HTABW.out wr hbq));generalize Ten.grp n k=gq at*;obtain⟨D,hDe⟩:∃D,D=Lib.decDigits gq:=⟨_,rfl⟩;rw[<-hDe] at HTOP HLOW hD FU;clear hDe hget hki;by_cases hlow:k+1<i
    ·have HTT:Hid (T++(List.replicate (9-D.length) 48++D)=Lib.decDigits (n/1000000000^k)):=Qd (by
      rcases HK.out with⟨e,_⟩ |⟨_,e⟩
      ·omega
      rw[HLOW.out hlow,e])
     clear HTOP HLOW HK;go_wp2_with fail
     refine FU.out.mono ?_;rintro e w6 ⟨rfl,hb6⟩;have hbld6:=Hf hbld hb6;have hbq6:Below W.heap.size W w6:=hbq.trans (hb6.mono hszq);have hsz6:=hbq6.size;clear hbld hb6;go_wp2_with fail
     have HTL:Hid ((T++(List.replicate (9-D.length) 48++D)).length<=10000):=Qd (by rw[HTT.out];exact HSH.out);have hci:(9:Int)-(D.length:Int)=((9-D.length:Nat):Int):=by omega
     rw[hci];have RP:=Qd (Tryz.strings_Repeat ⟨#[48]⟩ (9-D.length) w6 (by omega) (by show 1*(9-D.length)<=_;omega));rw[show(⟨#[48]⟩:ByteArray).data.toList=[48] from rfl,Au] at RP;obtain⟨Z,hZ⟩:∃Z,Z=List.replicate (9-D.length) (48:UInt8):=⟨_,rfl⟩;have hZl:Z.length<=9:=by rw[hZ,List.length_replicate];omega
     rw[<-hZ] at RP HTL HTT;clear hZ hci;refine RP.out.mono ?_;rintro e w8 ⟨rfl,hb8⟩;have hbld8:=Hf hbld6 hb8;have hbq8:Below W.heap.size W w8:=hbq6.trans (hb8.mono hsz6);have hsz8:=hbq8.size;have WS1:=Qd (Xd W.heap.size W.heap.size _ ⟨Z.toArray⟩ w8 hbld8 (by rw[Lib.byteCells_length];show T.length+Z.length<=_;omega) hsz8);clear hbld6 hb8 hbld8;go_wp2_with fail
     refine WS1.out.mono ?_;rintro e w9 ⟨rfl,hbd9,hb9⟩;have hbld9:Lib.IsBuilder 55 5 W.heap.size W.heap.size (Lib.byteCells (T++Z)) w9:= .inr (by rw[Lib.byteCells_append];exact hbd9);have hbq9:Below W.heap.size W w9:=hbq8.trans hb9;have hsz9:=hbq9.size;have WS2:=Qd (Xd W.heap.size W.heap.size _ ⟨D.toArray⟩ w9 hbld9 (by rw[Lib.byteCells_length,List.length_append];show T.length+Z.length+D.length<=_;omega) hsz9);clear hbd9 hb9 hbld9;go_wp2_with (go_at_call 26;refine WS2.out.mono ?_;rintro e w7 ⟨rfl,hbd7,hb7⟩)
     go_roundw
     case rel=>exact⟨_,_,_,_,_,_,_,_,_,_,_,_,_,_,_,_,_,_,_,_,_,_,_,_,⟨k,T++(Z++D),by omega,HTL.out,by go_num,.inr (by rw[<-List.append_assoc,Lib.byteCells_append];exact hbd7),hbq9.trans hb7,Qd (.inr ⟨by omega,HTT.out⟩)⟩,rfl⟩
     case measure=>first|(simp[intOf];done) |(simp[intOf];omega)
    have HTT:Hid (T++D=Lib.decDigits (n/1000000000^k)):=Qd (by
     rcases HK.out with⟨_,e⟩ |⟨h,_⟩
     ·rw[e,List.nil_append];exact HTOP.out (by omega)
     omega)
    have HTL:Hid ((T++D).length<=10000):=Qd (by rw[HTT.out];exact HSH.out);clear HTOP HLOW HK;go_wp2_with fail
    refine FU.out.mono ?_;rintro e w6 ⟨rfl,hb6⟩;have hbld6:=Hf hbld hb6;have hbq6:Below W.heap.size W w6:=hbq.trans (hb6.mono hszq);have hsz6:=hbq6.size;have WS:=Qd (Xd W.heap.size W.heap.size _ ⟨D.toArray⟩ w6 hbld6 (by rw[Lib.byteCells_length];show T.length+D.length<=_;omega) hsz6);clear hbld hb6 hbld6;go_wp2_with (go_at_call 26;refine WS.out.mono ?_;rintro e w7 ⟨rfl,hbd7,hb7⟩)
    go_roundw
    case rel=>exact⟨_,_,_,_,_,_,_,_,_,_,_,_,_,_,_,_,_,_,_,_,_,_,_,_,⟨k,T++D,by omega,HTL.out,by go_num,.inr (by rw[Lib.byteCells_append];exact hbd7),hbq6.trans hb7,Qd (.inr ⟨by omega,HTT.out⟩)⟩,rfl⟩
    case measure=>first|(simp[intOf];done) |(simp[intOf];omega)
  have hypos:0<(Nt.digs y).length:=Nat.pos_of_ne_zero (λe=>hy0 (Nt.digs_nil_iff.1 (List.eq_nil_of_length_eq_zero e)));have hi2:i<1112:=L3 hvb.out (by rw[<-H.out.1];omega);have SH:=Qd (Vk w.heap.size cc 1000000000 (Nt.digs y) tl wr hblk (Nt.ok_digs y) (by omega) (by omega) (by omega));rw[Nt.val_digs] at SH;have HGR:Hid (y%1000000000=Ten.grp n i):=Qd (by rw[H.out.1];rfl);rw[HGR.out] at SH;have hgl:=Ten.grp_lt n i;have HNX:Hid (y/1000000000=n/1000000000^(i+1)/\(i+1=0\/0<n/1000000000^(i+1-1))):=Qd ⟨by rw[H.out.1,Ten.div_next],.inr (by rw[Nat.add_sub_cancel,<-H.out.1];omega)⟩;have HLQ:Hid ((Nt.digs (y/1000000000)).length<=1000):=Qd (Nat.le_trans (Nt.digs_len_le_of (Nat.div_le_self y _)) hyl);obtain⟨gq,hgq⟩:∃gq,gq=Ten.grp n i:=⟨_,rfl⟩;have HNG:Hid (Ge n (i+1)=Ge n i++[gq]):=Qd (by rw[hgq];exact J3 n i);rw[<-hgq] at SH hgl;clear hgq hblk HGR;go_wp2_with fail
  refine SH.out.mono ?_;rintro e w3 ⟨cur,rfl,hblk3,HC,hgr3⟩;have hbel3:Below w.heap.size w w3:=hbel.grown hgr3 hsz (λk hk=>by injection hk with hk;omega);have hown3:w3.ownsRow (w.heap.size+1) 186 1 (.slice A2 i C2) i (U (Ge n i)):=Yt hown (λg hg hgs=>hgr3.block g hgs (by intro e;injection e with e;omega));have hsz3:=hbel3.size;have hlt3:=hblk3.lt;clear hown hgr3;go_wp2_with (at_builtin;refine wpList_append_own _ rfl _ _ 83 rfl (w.heap.size+1) 186 i0 (.int .u32 0) 1 4 Tryz.underlying83 hi hz0 hz1 hz2 rfl (by decide) _ _ _ rfl (hown3.alloc _) ⟨_,0,none⟩ 1 1 [.int .u32 (gq:Int)] rfl rfl (cell_one_new _ _ _) (by intro u hu;simp only[List.mem_singleton] at hu;subst hu;rfl) (by unfold maxLen;omega) (by omega) (by simp;omega) ?_;intro v4 w4 hown4 hgrow4 hnn4)
  have hb4:Below w.heap.size w w4:=(hbel3.alloc hsz3 _).grown hgrow4 (by simp;omega) (λk hk=>by have:=(hown3.lt k hk).1;omega);have hblk4:Blk w4 w.heap.size 186 (U cur++tl):=(hblk3.alloc _).grown hgrow4 (by intro e;have:=(hown3.lt _ e.symm).1;omega);have hcy:cur.length=(Nt.digs y).length:=HC.out.1;have hl4:Lies w4 w4.heap.size (some ⟨w.heap.size,0,none⟩) (U cur):=by
   have:=(hblk4.lies).take cur.length;rwa[List.take_append_of_le_length (by rw[Dc];omega),List.take_of_length_le (by rw[Dc];omega)] at this
  have TR:=Qd (Wb (some ⟨w.heap.size,0,none⟩) cc _ cur w4 hl4 HC.out.2.1 (by omega) (by omega));rw[HC.out.2.2,hcy] at TR;have hblk5:∃tl2,Blk w4 w.heap.size 186 (U (Nt.digs (y/1000000000))++tl2):=⟨U (cur.drop (Nt.digs (Nt.val cur)).length)++tl,by
   have e:U cur=U (Nt.digs (y/1000000000))++U (cur.drop (Nt.digs (Nt.val cur)).length):=by
    have e0:cur=Nt.digs (Nt.val cur)++cur.drop (Nt.digs (Nt.val cur)).length:=by
     conv=>lhs;rw[<-List.take_append_drop (Nt.digs (Nt.val cur)).length cur,Nt.take_digs HC.out.2.1]
    have e1:=congrArg U e0;rw[show U (Nt.digs (Nt.val cur)++cur.drop (Nt.digs (Nt.val cur)).length)=U (Nt.digs (Nt.val cur))++U (cur.drop (Nt.digs (Nt.val cur)).length) from List.map_append] at e1;rw[<-HC.out.2.2];exact e1
   rw[<-List.append_assoc,<-e];exact hblk4⟩
  obtain⟨tl2,hblk5⟩:=hblk5;have hlq:=HLQ.out;clear hl4 hblk4 hblk3 HC HLQ hcy;obtain⟨A4,C4,rfl,hD1,hD2⟩:=Sa hown4;refine TR.out.mono ?_;rintro e w5 ⟨rfl,rfl⟩;go_wp2_with fail
  refine⟨⟨i+1,y/1000000000,_,tl2,by omega,hlq,Lr,hlq,rfl,hblk5,?_,hb4,HNX⟩,by simp[Zt];omega⟩;rw[HNG.out]
  simpa [U] using hown4
theorem Bu (n:Bool)(v1 v2:Value)(l1 l2:List Nat)(w:World)(h1:IsRes w v1 l1)(h2:IsRes w v2 l2):
 Calls Tryz.prog 170 #[.agg #[.bool n,v1,v2]] w (Ph w n l1):=by
 have HR:=Qd h1;obtain⟨A1,c1,rfl,-⟩:=h1;obtain⟨A2,c2,rfl,-⟩:=h2;have HI2:Hid (∀(b:Bool) (A:Option Addr) (k c:Nat),(Tryz.prog.info? 173).map (·.size)=some (#[.bool b,.slice A k c]:Array Value).size):=Qd (λ_ _ _ _=>Gd);have HG1:Hid (∀o1 o2,((w.alloc o1).alloc o2).heap[w.heap.size+1]? =some o2):=Qd (λo1 o2=>by
  have:=heap_alloc_new (w.alloc o1) o2;rwa[show(w.alloc o1).heap.size=w.heap.size+1 by simp] at this)
 have HB:Hid (∀o1 o2,Below w.heap.size w ((w.alloc o1).alloc o2)):=Qd (λo1 o2=>(Br.alloc Lr _).alloc (by simp) _);generalize l2.length=k2 at*;go_enter Tryz.func170,Tryz.ntmps170
 go_wp2_with (with_reducible refine wpList_store_row rfl 173 (.tmp 2) (.tmp 7) rfl (w.heap.size+1) #[.bool n,.slice A1 l1.length c1] rfl rfl 173 #[.bool false,.slice none 0 0] (HG1.out _ _) (HI2.out _ _ _ _) rfl (Tb _ _ _ _) ?_)
 refine bodyPost_ret (results_cell_row (by rfl) _ _ (w.heap.size+1) 173 #[.bool n,.slice A1 l1.length c1] (0,0) _ (by rfl) (Ha (HG1.out _ _)) Tryz.underlying173 rfl (HI2.out _ _ _ _)) rfl ⟨.slice A1 l1.length c1,rfl,(HR.out.below (HB.out _ _)).setRow (HG1.out _ _) (Ya _ _ _ _) _,rBelow.setRow (HB.out _ _) (by omega) _⟩
def Bp (w:World)(n:Rt.Nm)(e:Ending)(w':World):Prop:=∃u,e= .returned (.tuple #[.agg #[.bool (if n.bot=[1] then Rt.nrm n.neg (Nt.val n.top) else false),u],.bool (n.bot==[1])])/\IsRes w' u (if n.bot=[1] then Nt.digs (Nt.val n.top) else[])/\Below w.heap.size w w'
theorem Cu (n:Bool)(v1 v2:Value)(l1 l2:List Nat)(w:World)(h1:IsRes w v1 l1)(h2:IsRes w v2 l2)(o1:Nt.Ok l1)(s1:l1.length<=1000000):
 Calls Tryz.prog 121 #[.agg #[.bool n,v1,v2]] w (Bp w ⟨n,l1,l2⟩):=by
 have hb0:∀o1 o2,Below w.heap.size w ((w.alloc o1).alloc o2):=λo1 o2=>(Br.alloc Lr _).alloc (by simp) _;have I1:=Qd (λo1 o2=>Td v2 l2 _ (h2.below (hb0 o1 o2)));have T1:=Qd (λo1 o2=>Bu n v1 v2 l1 l2 _ (h1.below (hb0 o1 o2)) (h2.below (hb0 o1 o2)));have NW:=Qd (λ(wx:World) (u:Value) (hu:IsRes wx u l1)=>Ir n u l1 wx hu o1 s1);have HI2:Hid (∀(b:Bool) (A:Option Addr) (k c:Nat),(Tryz.prog.info? 173).map (·.size)=some (#[.bool b,.slice A k c]:Array Value).size):=Qd (λ_ _ _ _=>Gd);have HG1:Hid (∀o1 o2,((w.alloc o1).alloc o2).heap[w.heap.size+1]? =some o2):=Qd (λo1 o2=>by
  have:=heap_alloc_new (w.alloc o1) o2;rwa[show(w.alloc o1).heap.size=w.heap.size+1 by simp] at this)
 have HB:=Qd hb0;obtain⟨A1,c1,rfl,-⟩:=h1;obtain⟨A2,c2,rfl,-⟩:=h2;clear hb0 o1;by_cases hone:l2=[1]
 ·have HE:Hid ((l2==[1])=true):=Qd (by rw[hone];rfl)
  have HO:=Qd hone;have HP:Hid (∀u w',IsRes w' u (Nt.digs (Nt.val l1))->Below w.heap.size w w'->Bp w ⟨n,l1,l2⟩ (.returned (.tuple #[.agg #[.bool (Rt.nrm n (Nt.val l1)),u],.bool true])) w'):=Qd (λu w' hu hb=>⟨u,by simp only[HO.out,if_true];rfl,by simp only[HO.out,if_true];exact hu,hb⟩);have I1':=Qd (λo1 o2=>by have:=I1.out o1 o2;rw[HE.out] at this;exact this);clear hone I1;generalize l2.length=k2 at*;go_enter Tryz.func121,Tryz.ntmps121
  go_wp2_with fail
  refine(I1'.out _ _).mono ?_;rintro e w' ⟨rfl,rfl⟩;go_wp2_with fail
  refine(T1.out _ _).mono ?_;rintro e w2 ⟨v3,rfl,hr2,hb2⟩;have NW2:=Qd (NW.out w2 v3 hr2);have HG2:=Qd ((hb2.block (w.heap.size+1) (by simp)).trans (HG1.out _ _));have hbw2:=(HB.out _ _).trans (hb2.mono (HB.out _ _).size);clear hr2 hb2 T1 I1' NW;go_wp2_with fail
  refine NW2.out.mono ?_;rintro e w3 ⟨v4,rfl,hr3,hb3⟩;have hl3:=Ja HG2.out;have HG3:=Qd ((hb3.block (w.heap.size+1) hl3).trans HG2.out);have hbw3:=hbw2.trans (hb3.mono hbw2.size);have HR3:=Qd (hr3.setRow HG3.out (Ya _ _ _ _) #[.bool (Rt.nrm n (Nt.val l1)),v4]);obtain⟨A3,c3,rfl,-⟩:=hr3;clear hb3 NW2 hbw2;go_wp2_with (with_reducible refine wpList_store_row rfl 173 (.tmp 2) (.tmp 11) rfl (w.heap.size+1) #[.bool (Rt.nrm n (Nt.val l1)),.slice A3 (Nt.digs (Nt.val l1)).length c3] rfl rfl 173 #[.bool false,.slice none 0 0] HG3.out (HI2.out _ _ _ _) rfl (Tb _ _ _ _) ?_)
  refine bodyPost_ret (Ib (by rfl) _ _ (w.heap.size+1) 173 #[.bool (Rt.nrm n (Nt.val l1)),.slice A3 (Nt.digs (Nt.val l1)).length c3] (0,0) _ _ (by rfl) (by rfl) (Ha HG3.out) Tryz.underlying173 rfl (HI2.out _ _ _ _)) rfl (HP.out _ _ HR3.out (rBelow.setRow hbw3 (by omega) _))
 have HE:Hid ((l2==[1])=false):=Qd (beq_eq_false_iff_ne.2 hone);have HO:=Qd hone;have HP:Hid (∀w',Below w.heap.size w w'->Bp w ⟨n,l1,l2⟩ (.returned (.tuple #[.agg #[.bool false,.slice none 0 0],.bool false])) w'):=Qd (λw' hb=>⟨.slice none 0 0,by simp only[HO.out,if_false,HE.out],by simp only[HO.out,if_false];exact IsRes.none_ _,hb⟩);have I1':=Qd (λo1 o2=>by have:=I1.out o1 o2;rw[HE.out] at this;exact this);clear hone I1;generalize l2.length=k2 at*;go_enter Tryz.func121,Tryz.ntmps121
 go_wp2_with fail
 refine(I1'.out _ _).mono ?_;rintro e w' ⟨rfl,rfl⟩;clear T1 NW;go_wp2_with (with_reducible refine wpList_store_row rfl 173 (.tmp 2) (.tmp 8) rfl (w.heap.size+1) #[.bool false,.slice none 0 0] rfl rfl 173 #[.bool false,.slice none 0 0] (HG1.out _ _) (HI2.out _ _ _ _) rfl (Tb _ _ _ _) ?_)
 refine bodyPost_ret (Ib (by rfl) _ _ (w.heap.size+1) 173 #[.bool false,.slice none 0 0] (0,0) _ _ (by rfl) (by rfl) (Ha (HG1.out _ _)) Tryz.underlying173 rfl (HI2.out _ _ _ _)) rfl (HP.out _ (rBelow.setRow (HB.out _ _) (by omega) _))
theorem Ow (n:Bool)(v1 v2:Value)(l1 l2:List Nat)(w:World)(h1:IsRes w v1 l1)(h2:IsRes w v2 l2):
 Calls Tryz.prog 89 #[.agg #[.bool n,v1,v2]] w λe w'=>e= .returned (.bool (l2==[1]))/\Below w.heap.size w w':=by
 have HB:Hid (∀o1,Below w.heap.size w (w.alloc o1)):=Qd (λo1=>Br.alloc Lr _);obtain⟨A1,c1,rfl,-⟩:=h1;obtain⟨A2,c2,rfl,k1,k2,k3,k4⟩:=h2;by_cases hl:l2.length=1
 ·obtain⟨x,rfl⟩:∃x,l2=[x]:=by
   match l2,hl with
   | [x],_=>exact⟨x,rfl⟩
  obtain⟨b,off,rfl,hb,g0⟩:=k4.at_ (k:=0) (by simp[U]);have g1:w.cell? ⟨b,off,none⟩=some (.int .u32 (x:Int)):=by simpa [U] using g0
  have HQ:Hid (([x]==[1])=(x==1)):=Qd (by simp[List.cons_beq_cons]);clear g0 k4 k3 hl;by_cases hx:x=1
  ·subst hx
   go_enter Tryz.func89,Tryz.ntmps89
   go_wp2_with fail
   go_ret;exact⟨Aa (by rw[HQ.out];rfl),HB.out _⟩
  have q:((x:Int)==1)=false:=beq_eq_false_iff_ne.2 (by omega);have HQ2:Hid ((x==1)=false):=Qd (beq_eq_false_iff_ne.2 hx);clear hx;go_enter Tryz.func89,Tryz.ntmps89
  go_wp2_with fail
  go_ret;exact⟨Aa (by rw[HQ.out,HQ2.out]),HB.out _⟩
 have q:((l2.length:Int)==1)=false:=beq_eq_false_iff_ne.2 (by omega);have HQ:Hid ((l2==[1])=false):=Qd (by
  rw[beq_eq_false_iff_ne];rintro rfl;exact hl rfl)
 clear hl k4 k3;generalize l2.length=m at*;go_enter Tryz.func89,Tryz.ntmps89
 go_wp2_with fail
 go_ret;exact⟨Aa (by rw[HQ.out]),HB.out _⟩
structure Pow10 (w:World):Prop where
 tab:Lib.TabIs Tryz.prog w "internal/strconv.uint64pow10" .u64 Lib.pow10Tab
 lt:∀g,Tryz.prog.globalNamed "internal/strconv.uint64pow10" =some g→g<w.heap.size
theorem Pow10.below {w w':World}(h:Pow10 w)(hb:Below w.heap.size w w'):Pow10 w':=⟨Zg h.tab hb h.lt,λg e=>Nat.lt_of_lt_of_le (h.lt g e) hb.size⟩
def Ag (w:World)(s:List UInt8)(e:Ending)(w':World):Prop:=e= .returned (.string ⟨s.toArray⟩)/\Below w.heap.size w w'
theorem Pq {w:World}{v:Value}{l:List Nat}(h:IsRes w v l)(ho:Nt.Ok l)(hs:l.length<=1000)(hp:Pow10 w):
 Calls Tryz.prog 120 #[v] w (Ag w (Lib.decDigits (Nt.val l))):=by
 obtain⟨A,c,rfl,k1,k2,k3,k4⟩:=h;exact F7 A c w.heap.size l w k4 Lr ho k1 k2 hs hp.tab hp.lt
theorem Qj {w:World}{v:Value}{l:List Nat}(h:IsRes w v l)(ho:Nt.Ok l)(hs:l.length<=1000):
 Calls Tryz.prog 88 #[v] w (Ag w (Lib.decDigits (Nt.val l))):=by
 obtain⟨A,c,rfl,k1,k2,k3,k4⟩:=h;exact Mw A c w.heap.size l w k4 Lr ho k1 k2 k3 hs
theorem Nk {a b:ByteArray}(h:a.data.toList=b.data.toList):Ending.returned (.string a)= .returned (.string b):=by
 have:a=b:=ByteArray.ext (Array.toList_inj.1 h);rw[this]
structure NumR (w:World) (n:Rt.Nm) (v1 v2:Value):Prop where
 r1:IsRes w v1 n.top
 r2:IsRes w v2 n.bot
 o1:Nt.Ok n.top
 o2:Nt.Ok n.bot
 s1:n.top.length<=1000
 s2:n.bot.length<=1000
theorem NumR.below {w w':World}{n:Rt.Nm}{v1 v2:Value}(h:NumR w n v1 v2)(hb:Below w.heap.size w w'):NumR w' n v1 v2:=⟨h.r1.below hb,h.r2.below hb,h.o1,h.o2,h.s1,h.s2⟩
theorem Du (n:Rt.Nm)(v1 v2:Value)(w:World)(h:NumR w n v1 v2):
 Calls Tryz.prog 54 #[.agg #[.bool n.neg,v1,v2]] w (Ag w (Dg.print n)):=by
 have TX:=Qd (λ(wx:World) (hb:Below w.heap.size w wx)=>Qj (h.below hb).r1 h.o1 h.s1);have TY:=Qd (λ(wx:World) (hb:Below w.heap.size w wx)=>Qj (h.below hb).r2 h.o2 h.s2);have IW:=Qd (λ(wx:World) (hb:Below w.heap.size w wx)=>Ow n.neg v1 v2 n.top n.bot wx (h.below hb).r1 (h.below hb).r2);have HB:Hid (∀o1,Below w.heap.size w (w.alloc o1)):=Qd (λo1=>Br.alloc Lr _);have HP:Hid (Dg.print n=(if n.neg then[194,175] else[])++(Lib.decDigits (Nt.val n.top)++if n.bot=[1] then[] else 114::Lib.decDigits (Nt.val n.bot))):=Qd rfl;have HI3:Hid ((Tryz.prog.info? 85).map (·.size)=some (#[.bool n.neg,v1,v2]:Array Value).size):=Qd De;have hTl:=Ud h.o1 h.s1;have hBl:=Ud h.o2 h.s2;clear h;obtain⟨neg,top,bot⟩:=n;dsimp only at TX TY IW HP HI3 hTl hBl⊢;generalize Dg.print ⟨neg,top,bot⟩=R at*;generalize Lib.decDigits (Nt.val top)=T at*;generalize Lib.decDigits (Nt.val bot)=B at*;go_enter Tryz.func54,Tryz.ntmps54
 go_wp2_with fail
 refine(TX.out _ (HB.out _)).mono ?_;rintro e w2 ⟨rfl,hb2⟩;have hbw2:=(HB.out (.cells #[.bool neg,v1,v2] 85)).trans (hb2.mono (HB.out _).size);have HG:=Qd ((hb2.block w.heap.size (by simp)).trans (heap_alloc_new w (.cells #[.bool neg,v1,v2] 85)));have hs2:=hb2.size;have hlt:w.heap.size<w2.heap.size:=by simp at hs2;omega
 clear hb2 hs2;go_wp2_with (with_reducible refine wpList_load_row rfl 85 (.tmp 1) rfl w.heap.size rfl 85 #[.bool neg,v1,v2] (0,0) _ HG.out Tryz.underlying85 rfl HI3.out ?_)
 refine(IW.out w2 hbw2).mono ?_;rintro e w3 ⟨rfl,hb3⟩;have hbw3:=hbw2.trans (hb3.mono hbw2.size);have HG3:=Qd ((hb3.block w.heap.size hlt).trans HG.out);have hlt3:w.heap.size<w3.heap.size:=Nat.lt_of_lt_of_le hlt hb3.size;clear hb3 hbw2 hlt;have p0:w3.cell? ⟨w.heap.size,0,none⟩=some (.bool neg):=(cell_of_row w3 w.heap.size 0 _ _ _ HG3.out).trans rfl;have p2:w3.cell? ⟨w.heap.size,2,none⟩=some v2:=(cell_of_row w3 w.heap.size 2 _ _ _ HG3.out).trans rfl;by_cases hone:bot=[1]
 ·have HO:=Qd hone
  have e1:(bot==[1])=true:=by rw[hone];rfl
  clear hone TX TY IW;cases neg;all_goals
   go_wp2_with fail
   go_ret;exact⟨Nk (by rw[HP.out,if_pos HO.out];simp),hbw3⟩
 have HO:=Qd hone;have e1:(bot==[1])=false:=beq_eq_false_iff_ne.2 hone;clear hone TX IW;have HTY:=Qd (TY.out w3 hbw3);clear TY;go_wp2_with fail
 refine HTY.out.mono ?_;rintro e w4 ⟨rfl,hb4⟩;have hbw4:=hbw3.trans (hb4.mono hbw3.size);have p04:w4.cell? ⟨w.heap.size,0,none⟩=some (.bool neg):=(hb4.cell (p:=⟨w.heap.size,0,none⟩) hlt3).trans p0;clear hb4 p0 p2 HTY hbw3;cases neg;all_goals
  go_wp2_with fail
  go_ret;exact⟨Nk (by rw[HP.out,if_neg HO.out];simp),hbw4⟩
theorem Eu (n:Rt.Nm)(v1 v2:Value)(w:World)(h:NumR w n v1 v2)(hp:Pow10 w):
 Calls Tryz.prog 80 #[.agg #[.bool n.neg,v1,v2]] w (Ag w (Dg.print n)):=by
 have TX:=Qd (λ(wx:World) (hb:Below w.heap.size w wx)=>Pq (h.below hb).r1 h.o1 h.s1 (hp.below hb));have TY:=Qd (λ(wx:World) (hb:Below w.heap.size w wx)=>Pq (h.below hb).r2 h.o2 h.s2 (hp.below hb));have IW:=Qd (λ(wx:World) (hb:Below w.heap.size w wx)=>Cu n.neg v1 v2 n.top n.bot wx (h.below hb).r1 (h.below hb).r2 h.o1 (by have:=h.s1;omega));have HB:Hid (∀o1,Below w.heap.size w (w.alloc o1)):=Qd (λo1=>Br.alloc Lr _);have HP:Hid (Dg.print n=(if n.neg then[194,175] else[])++(Lib.decDigits (Nt.val n.top)++if n.bot=[1] then[] else 114::Lib.decDigits (Nt.val n.bot))):=Qd rfl;have HI3:Hid ((Tryz.prog.info? 85).map (·.size)=some (#[.bool n.neg,v1,v2]:Array Value).size):=Qd De;have HI2:Hid (∀(b:Bool) (A:Option Addr) (k c:Nat),(Tryz.prog.info? 173).map (·.size)=some (#[.bool b,.slice A k c]:Array Value).size):=Qd (λ_ _ _ _=>Gd);have hTl:=Ud h.o1 h.s1;have hBl:=Ud h.o2 h.s2;clear h hp;obtain⟨neg,top,bot⟩:=n;dsimp only at TX TY IW HP HI3 hTl hBl⊢;generalize Dg.print ⟨neg,top,bot⟩=R at*;generalize Lib.decDigits (Nt.val top)=T at*;generalize Lib.decDigits (Nt.val bot)=B at*;go_enter Tryz.func80,Tryz.ntmps80
 go_wp2_with fail
 refine(TX.out _ (HB.out _)).mono ?_;rintro e w2 ⟨rfl,hb2⟩;have hbw2:=(HB.out (.cells #[.bool neg,v1,v2] 85)).trans (hb2.mono (HB.out _).size);have HG:=Qd ((hb2.block w.heap.size (by simp)).trans (heap_alloc_new w (.cells #[.bool neg,v1,v2] 85)));have hs2:=hb2.size;have hlt:w.heap.size<w2.heap.size:=by simp at hs2;omega
 have p0:w2.cell? ⟨w.heap.size,0,none⟩=some (.bool neg):=(cell_of_row w2 w.heap.size 0 _ _ _ HG.out).trans rfl;clear hb2 hs2 TX;obtain⟨N,hN⟩:∃N:List UInt8,N=if neg then[194,175] else[]:=⟨_,rfl⟩
 rw[<-hN] at HP;have hN2:=Qd hN;clear hN;cases neg;all_goals
  go_wp2_with (with_reducible refine wpList_load_row rfl 85 (.tmp 1) rfl w.heap.size rfl 85 #[.bool _,v1,v2] (0,0) _ HG.out Tryz.underlying85 rfl HI3.out ?_)
  refine(IW.out w2 hbw2).mono ?_;rintro e w3 ⟨u,rfl,hu,hb3⟩;dsimp only at hu;have hbw3:=hbw2.trans (hb3.mono hbw2.size);have HG3:=Qd ((hb3.block w.heap.size hlt).trans HG.out);have hlt3:w.heap.size<w3.heap.size:=Nat.lt_of_lt_of_le hlt hb3.size;obtain⟨A3,c3,rfl,-⟩:=hu;clear hb3 hbw2 hlt p0;have p2:w3.cell? ⟨w.heap.size,2,none⟩=some v2:=(cell_of_row w3 w.heap.size 2 _ _ _ HG3.out).trans rfl;have HG4:Hid (∀o,(w3.alloc o).heap[w3.heap.size]? =some o):=Qd (λo=>heap_alloc_new w3 o);by_cases hone:bot=[1]
  ·have HO:=Qd hone
   have e1:(bot==[1])=true:=by rw[hone];rfl
   simp only[e1,if_pos hone];clear hone TY IW e1;go_wp2_with fail
   go_ret;exact⟨Nk (by rw[HP.out,if_pos HO.out,hN2.out];simp),hbw3.alloc hbw3.size _⟩
  have HO:=Qd hone;have e1:(bot==[1])=false:=beq_eq_false_iff_ne.2 hone;simp only[e1,if_neg hone];clear hone IW e1;have HTY:=Qd (λo=>TY.out (w3.alloc o) (hbw3.alloc hbw3.size _));clear TY;go_wp2_with fail
  refine(HTY.out _).mono ?_;rintro e w4 ⟨rfl,hb4⟩;have hbw4:=(hbw3.alloc hbw3.size (.cells #[.bool false,.slice A3 ([]:List Nat).length c3] 173)).trans (hb4.mono (by simp;omega));clear hb4 HTY hbw3 p2;go_wp2_with fail
  go_ret;exact⟨Nk (by rw[HP.out,if_neg HO.out,hN2.out];simp),hbw4⟩
theorem Waa {B:Nat}{w w':World}(h:Below B w w')(n:Nat):Below B w (w'.drewN n):=⟨h.os,h.tape,h.output,h.size,h.block⟩
theorem Qq (s:List UInt8):Dg.parse s=Dg.body (Lib.hasPrefix s [194,175]) (Lib.trimPrefix s [194,175]):=by
 unfold Lib.trimPrefix Lib.hasPrefix
 match s with
 | []=>rfl
 | [a]=>
  have h:List.isPrefixOf [194,175] [a]=false:=by simp[List.isPrefixOf]
  rw[h];unfold Dg.parse
  split
  ·next h2=>cases h2
  rfl
 |a::b::t=>
  by_cases h:a=194/\b=175
  ·obtain⟨rfl,rfl⟩:=h
   rfl
  have h2:List.isPrefixOf [194,175] (a::b::t)=false:=by
   simp[List.isPrefixOf];intro e1 e2;exact h ⟨e1.symm,e2.symm⟩
  rw[h2];unfold Dg.parse
  split
  ·next h3=>injection h3 with e1 h3;injection h3 with e2 h3;exact absurd ⟨e1,e2⟩ h
  rfl
theorem O3:Ten.numOf [49]=1:=rfl
theorem Tx (s p:List UInt8):(Lib.trimPrefix s p).length<=s.length:=by
 unfold Lib.trimPrefix
 split
 ·rw[List.length_drop];omega
 exact Lr
theorem Fu {t:List UInt8}(hd:∀b∈t,Ten.isDig b)(h:t.length<=1000):(Nt.digs (Ten.numOf t)).length<=1000000:=by
 have:=Dg.limbs_le hd 112 (by omega);omega
theorem Ai (neg:Bool)(v1 v2:Value)(a b:List UInt8)(w:World)(h1:IsRes w v1 (Nt.digs (Ten.numOf a)))(h2:IsRes w v2 (Nt.digs (Ten.numOf b)))(d1:∀x∈a,Ten.isDig x)(d2:∀x∈b,Ten.isDig x)(s1:a.length<=1000)(s2:b.length<=1000):
 Calls Tryz.prog 180 #[.agg #[.bool neg,v1],.agg #[.bool false,v2]] w (MakeOut w (Rt.mk neg false (Ten.numOf a) (Ten.numOf b))):=by
 have:=Ur neg false v1 v2 _ _ w h1 h2 (Nt.ok_digs _) (Nt.ok_digs _) (Fu d1 s1) (Fu d2 s2);rwa[Nt.val_digs,Nt.val_digs] at this
theorem Gu (s:List UInt8)(w:World)(hs:s.length<=1000000):
 Calls Tryz.prog 126 #[.string ⟨s.toArray⟩] w (MakeOut w (Dg.parse s)):=by
 have CP:=λwx=>Tryz.strings_CutPrefix ⟨s.toArray⟩ ⟨#[194,175]⟩ wx;rw[show(⟨s.toArray⟩:ByteArray).data.toList=s from rfl,show(⟨#[194,175]⟩:ByteArray).data.toList=[194,175] from rfl] at CP;have hcl:=Tx s [194,175];rw[Qq];have HGA:Hid ((w.alloc (.cells #[.bool false,.slice none 0 0,.slice none 0 0] 85)).heap[w.heap.size]? =some (.cells #[.bool false,.slice none 0 0,.slice none 0 0] 85 (0,0))):=Qd (heap_alloc_new w _);have hb0:Below w.heap.size w (w.alloc (.cells #[.bool false,.slice none 0 0,.slice none 0 0] 85)):=Br.alloc Lr _;generalize Lib.trimPrefix s [194,175]=t at*;generalize Lib.hasPrefix s [194,175]=neg at*;have HCP:=Qd CP;have htl:t.length<=1000000:=by omega
 clear CP hcl;obtain⟨W,hW⟩:∃W,W=w.alloc (.cells #[.bool false,.slice none 0 0,.slice none 0 0] 85):=⟨_,rfl⟩;rw[<-hW] at HGA hb0;have HW:=Qd hW;clear hW;have hsz:(⟨t.toArray⟩:ByteArray).size=t.length:=rfl;have HSZ:=Qd hsz;clear hsz;go_enter Tryz.func126,Tryz.ntmps126
 go_wp2_with fail
 rw[<-HW.out];refine(HCP.out _).mono ?_;rintro e w' ⟨rfl,rfl⟩;clear HCP;by_cases h400:400<t.length
 ·have HE:Hid (400<t.length):=Qd h400
  go_wp2_with (with_reducible refine Vb rfl (.tmp 2) (.tmp 18) rfl w.heap.size rfl rfl HGA.out ?_)
  refine Za (by rfl) (by rfl) (by rfl) rfl HGA.out (MakeOut.of (by unfold Dg.body;rw[if_pos HE.out];rfl) rfl (Ea _) (Ea _) (rBelow.setRow hb0 (by omega) _))
 have H400:Hid (¬400<t.length):=Qd h400;obtain⟨n,hn⟩:∃n,n=Dg.lead t:=⟨_,rfl⟩;have LD:=λ(wx:World)=>Uk t wx (by omega);have hll:=Dg.lead_le t;rw[<-hn] at LD hll;have LD:=Qd LD;have HN:=Qd hn;clear hn;go_wp2_with fail
 refine(LD.out _).mono ?_;rintro e w' ⟨rfl,rfl⟩;clear LD;by_cases hl0:n=0
 ·have hz:((n:Int)==0)=true:=by rw[hl0];rfl
  have HE:Hid (Dg.lead t=0):=Qd (by rw[<-HN.out];exact hl0);clear hl0;go_wp2_with (with_reducible refine Vb rfl (.tmp 2) (.tmp 23) rfl w.heap.size rfl rfl HGA.out ?_)
  refine Za (by rfl) (by rfl) (by rfl) rfl HGA.out (MakeOut.of (by unfold Dg.body;rw[if_neg H400.out,if_pos HE.out];rfl) rfl (Ea _) (Ea _) (rBelow.setRow hb0 (by omega) _))
 have hz:((n:Int)==0)=false:=beq_eq_false_iff_ne.2 (by omega);have HL0:Hid (¬Dg.lead t=0):=Qd (by rw[<-HN.out];exact hl0);by_cases hlt:n<t.length
 ·obtain⟨y,hy⟩:∃y,y=t[n].toNat:=⟨_,rfl⟩
  have hgy:((⟨t.toArray⟩:ByteArray)[n]'(show n<(⟨t.toArray⟩:ByteArray).size from hlt)).toNat=y:=hy.symm;have HY:Hid (y=(t.getD n 0).toNat):=Qd (by rw[hy,List.getD_eq_getElem?_getD,List.getElem?_eq_getElem hlt];rfl);clear hy;obtain⟨ov,hov⟩:∃ov,ov=t.take n:=⟨_,rfl⟩;obtain⟨bh,hbh⟩:∃bh,bh=t.drop (n+1):=⟨_,rfl⟩;have hovl:ov.length=n:=by rw[hov,List.length_take];omega
  have hbhl:bh.length=t.length-(n+1):=by rw[hbh,List.length_drop]
  have hovl2:ov.length<=400:=by omega
  have hbhl2:bh.length<=400:=by omega
  have SU:Hid ((⟨t.toArray⟩:ByteArray).extract 0 n=⟨ov.toArray⟩):=Qd (by rw[Hm t n (by omega),hov]);have SF:Hid ((⟨t.toArray⟩:ByteArray).extract (n+1) t.length=⟨bh.toArray⟩):=Qd (by rw[Zh,hbh]);have HOV:Hid (ov=t.take (Dg.lead t)):=Qd (by rw[<-HN.out];exact hov);have HBH:Hid (bh=t.drop (Dg.lead t+1)):=Qd (by rw[<-HN.out];exact hbh);have HBL:Hid (bh.length=t.length-(Dg.lead t+1)):=Qd (by rw[<-HN.out];exact hbhl);have HNE:Hid (¬Dg.lead t=t.length):=Qd (by rw[<-HN.out];omega);have HO:Hid (ov.length<=1000/\∀b∈ov,Ten.isDig b):=Qd ⟨by omega,by rw[HOV.out];exact Dg.lead_take⟩;have HEQ0:Hid (Dg.body neg t=if bh.length=0\/Dg.lead bh<bh.length then(Rt.none_,1) else if t.getD n 0=114 then Rt.mk neg false (Ten.numOf ov) (Ten.numOf bh) else if t.getD n 0=46 then Rt.mk neg false (Ten.numOf (ov++bh)) (10^bh.length) else(Rt.none_,1)):=Qd (by
   unfold Dg.body;rw[if_neg H400.out,if_neg HL0.out,if_neg HNE.out,<-HBL.out,<-HBH.out,<-HOV.out,<-HN.out];have e:(t.length=n+1)=(bh.length=0):=by rw[eq_iff_iff];omega
   simp only[e])
  have hw1:IntKind.i64.wrap ((n:Int)+1)=(n:Int)+1:=IntWalk.i64_in _ (by omega);have hw2:(0:Int)<=(n:Int)+1:=by omega
  have hw3:(n:Int)+1<=(t.length:Int):=by omega
  have hw4:((n:Int)+1).toNat=n+1:=by omega
  have hw5:(0:Int)<=(n:Int):=by omega
  have hw6:(n:Int)<(t.length:Int):=by omega
  clear hov hbh hovl hbhl;go_wp2_with fail
  go_quiet (fail)
  clear hw1 hw2 hw3 hw4 hw5 hw6;simp only[SU.out,SF.out];have hbq:Below w.heap.size w (w'.drewN nq):=Waa hb0 nq;have HGQ:Hid ((w'.drewN nq).heap[w.heap.size]? =some (.cells #[.bool false,.slice none 0 0,.slice none 0 0] 85 (0,0))):=Qd HGA.out;generalize w'.drewN nq=wq at*;by_cases hbe:bh=[]
  ·have hemp:bh.isEmpty=true:=by rw[hbe];rfl
   have HE:Hid (bh.length=0):=Qd (by rw[hbe];rfl);subst hbe;clear SU SF HGA hb0;go_wp2_with (with_reducible refine Vb rfl (.tmp 2) (.tmp 47) rfl w.heap.size rfl rfl HGQ.out ?_)
   refine Za (by rfl) (by rfl) (by rfl) rfl HGQ.out (MakeOut.of (by rw[HEQ0.out,if_pos (.inl HE.out)];rfl) rfl (Ea _) (Ea _) (rBelow.setRow hbq (by omega) _))
  have hemp:bh.isEmpty=false:=by cases bh with |nil=>exact absurd rfl hbe |cons a r=>rfl
  have HBE:Hid (¬bh.length=0):=Qd (by cases bh with |nil=>exact absurd rfl hbe |cons a r=>simp);have LB:=Qd (λ(wx:World)=>Uk bh wx (by omega));clear SU SF HGA hb0;go_wp2_with fail
  refine(LB.out _).mono ?_;rintro e w'' ⟨rfl,rfl⟩;have hlb:=Dg.lead_le bh;by_cases hm:Dg.lead bh<bh.length
  ·have HM:=Qd hm
   have g1:decide (Dg.lead bh<bh.length)=true:=decide_eq_true hm;go_wp2_with (with_reducible refine Vb rfl (.tmp 2) (.tmp 47) rfl w.heap.size rfl rfl HGQ.out ?_)
   refine Za (by rfl) (by rfl) (by rfl) rfl HGQ.out (MakeOut.of (by rw[HEQ0.out,if_pos (.inr HM.out)];rfl) rfl (Ea _) (Ea _) (rBelow.setRow hbq (by omega) _))
  have g1:decide (Dg.lead bh<bh.length)=false:=decide_eq_false hm;have HM:Hid (¬(bh.length=0\/Dg.lead bh<bh.length)):=Qd (λh=>h.elim HBE.out hm);have HBD:Hid (∀b∈bh,Ten.isDig b):=Qd (Dg.lead_full (by omega));clear LB hlb;have HY114:Hid (y=114->t.getD n 0=114):=Qd (λh=>UInt8.toNat_inj.1 (by rw[<-HY.out,h];rfl));have HY46:Hid (y=46->t.getD n 0=46):=Qd (λh=>UInt8.toNat_inj.1 (by rw[<-HY.out,h];rfl));have HYN:Hid (∀b:UInt8,t.getD n 0=b->y=b.toNat):=Qd (λb h=>by rw[HY.out,h]);by_cases h114:y=114
  ·have HD:=Qd (HY114.out h114)
   have q114:((y:Int)==114)=true:=by rw[h114];rfl
   have HU:Hid (bh.length<=1000/\∀b∈bh,Ten.isDig b):=Qd ⟨by omega,HBD.out⟩;clear h114;have NO:=Qd (λ(wx:World)=>Bd ov wx HO.out.1 HO.out.2);have NU:=Qd (λ(wx:World)=>Bd bh wx HU.out.1 HU.out.2);go_wp2_with fail
   refine(NO.out _).mono ?_;rintro e w2 ⟨v1,rfl,hr1,hb2⟩;have HR1:=Qd hr1;have HG2:=Qd ((hb2.block w.heap.size (Ja HGQ.out)).trans HGQ.out);have hbw2:=hbq.trans (hb2.mono hbq.size);obtain⟨A1,c1,rfl,-⟩:=hr1;go_wp2_with fail
   refine(NU.out _).mono ?_;rintro e w3 ⟨v2,rfl,hr2,hb3⟩;have MK:=Qd (Ai neg _ _ ov bh w3 (HR1.out.below hb3) hr2 HO.out.2 HU.out.2 HO.out.1 HU.out.1);have HG3:=Qd ((hb3.block w.heap.size (Ja HG2.out)).trans HG2.out);have hbw3:=hbw2.trans (hb3.mono hbw2.size);obtain⟨A2,c2,rfl,-⟩:=hr2;clear hb2 hb3 HG2 hbw2 HR1;go_wp2_with fail
   refine MK.out.mono ?_;rintro e w4 ⟨r1,r2,rfl,hr3,hr4,hb4⟩;have HG4:=Qd ((hb4.block w.heap.size (Ja HG3.out)).trans HG3.out);have hbw4:=hbw3.trans (hb4.mono hbw3.size);have HR3:=Qd (hr3.setRow HG4.out (Da _ _ _ _ _ _ _) #[.bool (Rt.mk neg false (Ten.numOf ov) (Ten.numOf bh)).1.neg,r1,r2]);have HR4:=Qd (hr4.setRow HG4.out (Da _ _ _ _ _ _ _) #[.bool (Rt.mk neg false (Ten.numOf ov) (Ten.numOf bh)).1.neg,r1,r2]);have HEQ:=Qd (show Dg.body neg t=Rt.mk neg false (Ten.numOf ov) (Ten.numOf bh) by rw[HEQ0.out,if_neg HM.out,if_pos HD.out]);obtain⟨A3,c3,rfl,-⟩:=hr3;obtain⟨A4,c4,rfl,-⟩:=hr4;clear MK hb4 HG3 hbw3;generalize Rt.mk neg false (Ten.numOf ov) (Ten.numOf bh)=R at*;obtain⟨⟨rn,rt,rb⟩,re⟩:=R;dsimp only at HR3 HR4 HEQ⊢;go_wp2_with (with_reducible refine Vb rfl (.tmp 2) (.tmp 71) rfl w.heap.size rfl rfl HG4.out ?_)
   refine Za (by rfl) (by rfl) (by rfl) rfl HG4.out (MakeOut.of HEQ.out rfl HR3.out HR4.out (rBelow.setRow hbw4 (by omega) _))
  have q114:((y:Int)==114)=false:=beq_eq_false_iff_ne.2 (by omega);have HD1:Hid (¬t.getD n 0=114):=Qd (λh=>h114 (HYN.out _ h));clear h114;by_cases h46:y=46
  ·have HD:=Qd (HY46.out h46)
   have q46:((y:Int)==46)=true:=by rw[h46];rfl
   have RP:=Tryz.strings_Repeat ⟨#[48]⟩ bh.length wq (by omega) (by show 1*bh.length<=_;omega);rw[show(⟨#[48]⟩:ByteArray).data.toList=[48] from rfl,Au] at RP;obtain⟨ZR,hZR⟩:∃ZR,ZR=List.replicate bh.length (48:UInt8):=⟨_,rfl⟩;obtain⟨o2,ho2⟩:∃o2,o2=ov++bh:=⟨_,rfl⟩;obtain⟨u2,hu2⟩:∃u2,u2=(49:UInt8)::ZR:=⟨_,rfl⟩;rw[<-hZR] at RP;have hZl:ZR.length=bh.length:=by rw[hZR,List.length_replicate]
   have hZl2:ZR.length<=400:=by omega
   have HN2:Hid (Ten.numOf u2=10^bh.length):=Qd (by rw[hu2,hZR];exact Dg.numOf_zeros _);have SO2:Hid ((⟨ov.toArray⟩:ByteArray)++⟨bh.toArray⟩=⟨o2.toArray⟩):=Qd (by apply ByteArray.ext;rw[ho2];simp);have SU2:Hid ((⟨#[49]⟩:ByteArray)++⟨ZR.toArray⟩=⟨u2.toArray⟩):=Qd (by apply ByteArray.ext;rw[hu2];simp);have HO2:Hid (o2.length<=1000/\∀b∈o2,Ten.isDig b):=Qd ⟨by rw[ho2,List.length_append];omega,by
    intro b hb;rw[ho2] at hb;rcases List.mem_append.1 hb with hb |hb
    ·exact HO.out.2 b hb
    exact HBD.out b hb⟩
   have HU:Hid (u2.length<=1000/\∀b∈u2,Ten.isDig b):=Qd ⟨by rw[hu2,List.length_cons];omega,by
    intro b hb;rw[hu2,hZR] at hb;rcases List.mem_cons.1 hb with rfl |hb
    ·exact⟨by decide,by decide⟩
    rw[List.eq_of_mem_replicate hb];exact⟨by decide,by decide⟩⟩
   have HEV:Hid (Dg.body neg t=Rt.mk neg false (Ten.numOf o2) (Ten.numOf u2)):=Qd (by rw[HEQ0.out,if_neg HM.out,if_neg HD1.out,if_pos HD.out,HN2.out,ho2]);have HRP:=Qd RP;clear h46 hZR ho2 hu2 RP hZl HO;have HO:=HO2;clear HO2;go_wp2_with fail
   refine HRP.out.mono ?_;rintro e w7 ⟨rfl,hb7⟩;have HG7:=Qd ((hb7.block w.heap.size (Ja HGQ.out)).trans HGQ.out);have hbw7:=hbq.trans (hb7.mono hbq.size);clear hb7 HRP hbq HGQ;simp only[SO2.out];have NO:=Qd (λ(wx:World)=>Bd o2 wx HO.out.1 HO.out.2);have NU:=Qd (λ(wx:World)=>Bd u2 wx HU.out.1 HU.out.2);go_wp2_with fail
   simp only[SU2.out,SO2.out];refine(NO.out _).mono ?_;rintro e w2 ⟨v1,rfl,hr1,hb2⟩;have HR1:=Qd hr1;have HG2:=Qd ((hb2.block w.heap.size (Ja HG7.out)).trans HG7.out);have hbw2:=hbw7.trans (hb2.mono hbw7.size);obtain⟨A1,c1,rfl,-⟩:=hr1;go_wp2_with fail
   refine(NU.out _).mono ?_;rintro e w3 ⟨v2,rfl,hr2,hb3⟩;have MK:=Qd (Ai neg _ _ o2 u2 w3 (HR1.out.below hb3) hr2 HO.out.2 HU.out.2 HO.out.1 HU.out.1);have HG3:=Qd ((hb3.block w.heap.size (Ja HG2.out)).trans HG2.out);have hbw3:=hbw2.trans (hb3.mono hbw2.size);obtain⟨A2,c2,rfl,-⟩:=hr2;clear hb2 hb3 HG2 hbw2 HR1;go_wp2_with fail
   refine MK.out.mono ?_;rintro e w4 ⟨r1,r2,rfl,hr3,hr4,hb4⟩;have HG4:=Qd ((hb4.block w.heap.size (Ja HG3.out)).trans HG3.out);have hbw4:=hbw3.trans (hb4.mono hbw3.size);have HR3:=Qd (hr3.setRow HG4.out (Da _ _ _ _ _ _ _) #[.bool (Rt.mk neg false (Ten.numOf o2) (Ten.numOf u2)).1.neg,r1,r2]);have HR4:=Qd (hr4.setRow HG4.out (Da _ _ _ _ _ _ _) #[.bool (Rt.mk neg false (Ten.numOf o2) (Ten.numOf u2)).1.neg,r1,r2]);have HEQ:=Qd (show Dg.body neg t=Rt.mk neg false (Ten.numOf o2) (Ten.numOf u2) by exact HEV.out);obtain⟨A3,c3,rfl,-⟩:=hr3;obtain⟨A4,c4,rfl,-⟩:=hr4;clear MK hb4 HG3 hbw3;generalize Rt.mk neg false (Ten.numOf o2) (Ten.numOf u2)=R at*;obtain⟨⟨rn,rt,rb⟩,re⟩:=R;dsimp only at HR3 HR4 HEQ⊢;go_wp2_with (with_reducible refine Vb rfl (.tmp 2) (.tmp 71) rfl w.heap.size rfl rfl HG4.out ?_)
   refine Za (by rfl) (by rfl) (by rfl) rfl HG4.out (MakeOut.of HEQ.out rfl HR3.out HR4.out (rBelow.setRow hbw4 (by omega) _))
  have q46:((y:Int)==46)=false:=beq_eq_false_iff_ne.2 (by omega);have HD2:Hid (¬t.getD n 0=46):=Qd (λh=>h46 (HYN.out _ h));clear h46;go_wp2_with (with_reducible refine Vb rfl (.tmp 2) (.tmp 49) rfl w.heap.size rfl rfl HGQ.out ?_)
  refine Za (by rfl) (by rfl) (by rfl) rfl HGQ.out (MakeOut.of (by rw[HEQ0.out,if_neg HM.out,if_neg HD1.out,if_neg HD2.out];rfl) rfl (Ea _) (Ea _) (rBelow.setRow hbq (by omega) _))
 have HO:Hid (t.length<=1000/\∀b∈t,Ten.isDig b):=Qd ⟨by omega,Dg.lead_full (by rw[<-HN.out];omega)⟩;have HU:Hid (([49]:List UInt8).length<=1000/\∀b∈([49]:List UInt8),Ten.isDig b):=Qd ⟨by decide,by intro b hb;rw[List.mem_singleton] at hb;subst hb;exact⟨by decide,by decide⟩⟩;have HLE:Hid (n=t.length):=Qd (by omega);have hst:(⟨t.toArray⟩:ByteArray).extract 0 n=⟨t.toArray⟩:=by rw[Hm t n (by omega),HLE.out,List.take_length]
 have HST:=Qd hst;clear hst;go_wp2_with fail
 rw[HST.out];have NO:=Qd (λ(wx:World)=>Bd t wx HO.out.1 HO.out.2);have NU:=Qd (λ(wx:World)=>Bd [49] wx HU.out.1 HU.out.2);go_wp2_with fail
 refine(NO.out _).mono ?_;rintro e w2 ⟨v1,rfl,hr1,hb2⟩;have HR1:=Qd hr1;have HG2:=Qd ((hb2.block w.heap.size (Ja HGA.out)).trans HGA.out);have hbw2:=hb0.trans (hb2.mono hb0.size);obtain⟨A1,c1,rfl,-⟩:=hr1;go_wp2_with fail
 refine(NU.out _).mono ?_;rintro e w3 ⟨v2,rfl,hr2,hb3⟩;have MK:=Qd (Ai neg _ _ t [49] w3 (HR1.out.below hb3) hr2 HO.out.2 HU.out.2 HO.out.1 HU.out.1);have HG3:=Qd ((hb3.block w.heap.size (Ja HG2.out)).trans HG2.out);have hbw3:=hbw2.trans (hb3.mono hbw2.size);obtain⟨A2,c2,rfl,-⟩:=hr2;clear hb2 hb3 HG2 hbw2 HR1;go_wp2_with fail
 refine MK.out.mono ?_;rintro e w4 ⟨r1,r2,rfl,hr3,hr4,hb4⟩;have HG4:=Qd ((hb4.block w.heap.size (Ja HG3.out)).trans HG3.out);have hbw4:=hbw3.trans (hb4.mono hbw3.size);have HR3:=Qd (hr3.setRow HG4.out (Da _ _ _ _ _ _ _) #[.bool (Rt.mk neg false (Ten.numOf t) (Ten.numOf [49])).1.neg,r1,r2]);have HR4:=Qd (hr4.setRow HG4.out (Da _ _ _ _ _ _ _) #[.bool (Rt.mk neg false (Ten.numOf t) (Ten.numOf [49])).1.neg,r1,r2]);have HEQ:=Qd (show Dg.body neg t=Rt.mk neg false (Ten.numOf t) (Ten.numOf [49]) by unfold Dg.body;rw[if_neg H400.out,if_neg HL0.out,if_pos (by rw[<-HN.out];exact HLE.out),O3]);obtain⟨A3,c3,rfl,-⟩:=hr3;obtain⟨A4,c4,rfl,-⟩:=hr4;clear MK hb4 HG3 hbw3;generalize Rt.mk neg false (Ten.numOf t) (Ten.numOf [49])=R at*;obtain⟨⟨rn,rt,rb⟩,re⟩:=R;dsimp only at HR3 HR4 HEQ⊢;go_wp2_with (with_reducible refine Vb rfl (.tmp 2) (.tmp 71) rfl w.heap.size rfl rfl HG4.out ?_)
 refine Za (by rfl) (by rfl) (by rfl) rfl HG4.out (MakeOut.of HEQ.out rfl HR3.out HR4.out (rBelow.setRow hbw4 (by omega) _))
section
open Go.RowKit Ar
def Ce (u:Value):Prop:=∀n:Int,u≠ .int .u32 n
def HasU (w:World)(b:Nat):Prop:=∃off x,w.cell? ⟨b,off,none⟩=some (.int .u32 x)
def PR (n:Nat)(w:World)(b:Nat):Prop:=b<w.heap.size/\(n<=b\/HasU w b)
def PL (n:Nat)(w:World)(V:Value)(b:Nat):Prop:=PR n w b/\V.ownBlock≠some b
theorem HasU.same {w w':World}{b:Nat}(h:HasU w b)(e:w'.heap[b]? =w.heap[b]?):HasU w' b:=by
 obtain⟨off,x,hc⟩:=h;exact⟨off,x,(World.cell?_of_block e).trans hc⟩
theorem PR.same {n:Nat}{w w':World}{b:Nat}(h:PR n w b)(hs:w.heap.size<=w'.heap.size)(e:w'.heap[b]? =w.heap[b]?):PR n w' b:=⟨Nat.lt_of_lt_of_le h.1 hs,h.2.imp id (·.same e)⟩
theorem PR.below {n:Nat}{w w':World}{b:Nat}(h:PR n w b)(hb:Below w.heap.size w w'):PR n w' b:=h.same hb.size (hb.block b h.1)
theorem PR.mono {n m:Nat}{w:World}{b:Nat}(h:PR m w b)(hn:n<=m):PR n w b:=⟨h.1,h.2.imp (Nat.le_trans hn) id⟩
theorem He {w:World}{b:Nat}{cs:Array Value}{t:TypeId}{fz:Nat×Nat}(h:w.heap[b]? =some (.cells cs t fz))(hq:∀u∈cs,Ce u):¬HasU w b:=by
 rintro⟨off,x,hc⟩;rw[cell_of_row w b off cs t fz h] at hc;exact hq _ (Array.mem_of_getElem? hc) x rfl
theorem Uc {n:Nat}{w w':World}{a:Ba}{vs:List Value}(h:IsArrP w (PR n w) a vs)(hb:Below w.heap.size w w'):IsArrP w' (PR n w') a vs:=IsArrP.keep (λp hp=>World.cell?_of_block (hb.block _ hp.1)) (λb h=>h.below hb) _ _ h
theorem Ux {n:Nat}{w w':World}{a:Fa}{vs:List Value}(h:IsCelP w (PR n w) a vs)(hb:Below w.heap.size w w'):IsCelP w' (PR n w') a vs:=IsCelP.keep (λp hp=>World.cell?_of_block (hb.block _ hp.1)) (λb h=>h.below hb) _ _ h
theorem Vx {n:Nat}{w:World}{A:Option Addr}{l:List Nat}(h:Lies w w.heap.size A (Ec l)):LiesP w (PR n w) A (Ec l):=by
 rcases h with h |⟨b,off,hA,hb,hc⟩
 ·exact .inl h
 cases l with
 |nil=>exact .inl rfl
 |cons x r=>exact .inr ⟨b,off,hA,⟨hb,.inr ⟨off+0,x,hc 0 _ rfl⟩⟩,hc⟩
theorem Ng {n:Nat}{w w':World}{V V':Value}{cs:List Fa}{xs:List Value}(hs:w.heap.size<=w'.heap.size)(hk:∀b,PL n w V b->w'.heap[b]? =w.heap[b]? /\V'.ownBlock≠some b)(h:IsCelsP w (PL n w V) cs xs):IsCelsP w' (PL n w' V') cs xs:=
 IsCelsP.keep (λp hp=>World.cell?_of_block (hk _ hp).1) (λb h=>⟨h.1.same hs (hk b h).1,(hk b h).2⟩) _ _ h
theorem Pf {n:Nat}{w w':World}{V:Value}{cs:List Fa}{xs:List Value}(hb:Below w.heap.size w w')(h:IsCelsP w (PL n w V) cs xs):IsCelsP w' (PL n w' V) cs xs:=Ng hb.size (λb h=>⟨hb.block b h.1.1,h.2⟩) h
theorem Rq {n m:Nat}{w w':World}{V V':Value}{cs:List Fa}{c:Fa}{xs u:List Value}{base k:Nat}{ys:List Value}(h:IsCelsP w (PL n w V) cs xs)(hc:IsCelP w (PR m w) c u)(hn:n<=m)(ho:w.ownsQ Ce base 87 7 V k ys)(hm:∀x,V.ownBlock=some x->x<m)
 (hg:w.grownBy w' V.ownBlock) (hV:V'.ownBlock=V.ownBlock\/V'.ownBlock=some w.heap.size):IsCelsP w' (PL n w' V') (cs++[c]) (xs++u):=by
 have hc1:IsCelP w (PL n w V) c u:=IsCelP.keep (λ_ _=>rfl) (λb hb=>⟨hb.mono hn,λe=>by
  rcases hb.2 with h1 |⟨off,x,hx⟩
  ·have:=hm b e;omega
  exact absurd e (ho.apart hx (λhq=>hq x rfl))⟩) _ _ hc
 refine Ng hg.size (λb hb=>⟨hg.block b hb.1.1 (λe=>hb.2 e.symm),?_⟩) (h.snoc hc1);rcases hV with e |e
 ·rw[e];exact hb.2
 rw[e];intro e';injection e' with e';have:=hb.1.1;omega
def Rj (r:Option Fa)(w:World)(e:Ending)(w':World):Prop:=∃c vs,e= .returned (.tuple #[.agg vs.toArray,.bool r.isSome])/\IsCelP w' (PR w.heap.size w') c vs/\(∀x,r=some x->x=c)/\Below w.heap.size w w'
def Ie (r:Option Ba)(w:World)(e:Ending)(w':World):Prop:=∃a vs,e= .returned (.tuple #[.agg vs.toArray,.bool r.isSome])/\IsArrP w' (PR w.heap.size w') a vs/\(∀x,r=some x->x=a)/\Below w.heap.size w w'
theorem Wx:(Tryz.prog.info? 87).map (λi=>(i.zero,i.size,i.bytes))=some (some (.agg #[.int .u64 0,.int .i64 0,.bool false,.slice none 0 0,.slice none 0 0,.int .i64 0,.slice none 0 0]),7,104):=by kernel_rfl
theorem Jz (n1 n2:Bool)(x y:Nat):((Rt.mk n1 n2 x y).1.top.length<=32/\(Rt.mk n1 n2 x y).1.bot.length<=32)/\Nt.Ok (Rt.mk n1 n2 x y).1.top/\Nt.Ok (Rt.mk n1 n2 x y).1.bot:=by
 have h0:∀e:Int,(((Rt.none_,e):Rt.Nm×Int).1.top.length<=32/\((Rt.none_,e):Rt.Nm×Int).1.bot.length<=32)/\Nt.Ok ((Rt.none_,e):Rt.Nm×Int).1.top/\Nt.Ok ((Rt.none_,e):Rt.Nm×Int).1.bot:=λe=>⟨⟨Nat.zero_le _,Nat.zero_le _⟩,λx hx=>absurd hx List.not_mem_nil,λx hx=>absurd hx List.not_mem_nil⟩;unfold Rt.mk
 split
 ·exact h0 _
 split
 ·exact h0 _
 next h=>exact⟨⟨by dsimp only;omega,by dsimp only;omega⟩,Nt.ok_digs _,Nt.ok_digs _⟩
theorem Hu (t:List UInt8):((Dg.parse t).1.top.length<=32/\(Dg.parse t).1.bot.length<=32)/\Nt.Ok (Dg.parse t).1.top/\Nt.Ok (Dg.parse t).1.bot:=by
 have h0:∀e:Int,(((Rt.none_,e):Rt.Nm×Int).1.top.length<=32/\((Rt.none_,e):Rt.Nm×Int).1.bot.length<=32)/\Nt.Ok ((Rt.none_,e):Rt.Nm×Int).1.top/\Nt.Ok ((Rt.none_,e):Rt.Nm×Int).1.bot:=λe=>⟨⟨Nat.zero_le _,Nat.zero_le _⟩,λx hx=>absurd hx List.not_mem_nil,λx hx=>absurd hx List.not_mem_nil⟩;have hb:∀neg t,((Dg.body neg t).1.top.length<=32/\(Dg.body neg t).1.bot.length<=32)/\Nt.Ok (Dg.body neg t).1.top/\Nt.Ok (Dg.body neg t).1.bot:=by
  intro neg t;unfold Dg.body
  split
  ·exact h0 _
  split
  ·exact h0 _
  split
  ·exact Jz _ _ _ _
  split
  ·exact h0 _
  split
  ·exact Jz _ _ _ _
  split
  ·exact Jz _ _ _ _
  exact h0 _
 unfold Dg.parse
 split<;>exact hb _ _
theorem Iu {n:Nat}{w:World}{L:Nat}{neg:Bool}{top bot:List Nat}{t u:Value}(hL:L<18446744073709551616)(h1:IsRes w t top)(h2:IsRes w u bot)(l:(top.length<=32/\bot.length<=32)/\Nt.Ok top/\Nt.Ok bot):IsCelP w (PR n w) (.mk L 0 neg top bot 0 []) [.int .u64 (L:Int),.int .i64 0,.bool neg,t,u,.int .i64 0,.slice none 0 0]:=by
 obtain⟨A1,c1,rfl,a1,a2,a3,a4⟩:=h1;obtain⟨A2,c2,rfl,b1,b2,b3,b4⟩:=h2;rw[IsCelP];exact⟨A1,c1,A2,c2,none,0,[],rfl,hL,⟨a1,by omega,a2⟩,⟨b1,by omega,b2⟩,⟨by simp,by simp,by simp⟩,by intro x hx;simp at hx;omega,l.2.1,l.2.2,Vx a4,Vx b4,.inl rfl,by rw[IsArrsP],a3,b3⟩
theorem Bg {n:Nat}{w:World}{L:Nat}{k c:Int}(hL:L<18446744073709551616)(hk: -9223372036854775808<=k/\k<=9223372036854775807)(hc: -9223372036854775808<=c/\c<=9223372036854775807):IsCelP w (PR n w) (.mk L k false [] [] c []) [.int .u64 (L:Int),.int .i64 k,.bool false,.slice none 0 0,.slice none 0 0,.int .i64 c,.slice none 0 0]:=by
 have h0:Ug []:=λx hx=>absurd hx List.not_mem_nil;have hf:∀b,Fits 0 0 b:=λb=>⟨Lr,by omega,by omega⟩;rw[IsCelP];exact⟨none,0,none,0,none,0,[],rfl,hL,hf 4,hf 4,hf 56,by intro x hx;simp at hx;rcases hx with rfl |rfl<;>assumption,h0,h0,.inl rfl,.inl rfl,.inl rfl,by rw[IsArrsP],λ_=>rfl,λ_=>rfl⟩
theorem Ju {n:Nat}{w w':World}{L:Nat}{a:Ba}{vs:List Value}{b:Nat}(hL:L<18446744073709551616)(h:IsArrP w (PR n w) a vs)(hb:Below w.heap.size w w')(hr:w'.heap[b]? =some (.cells vs.toArray 42 (0,0)))(hn:n<=b):IsCelP w' (PR n w') (.mk L 2 false [] [] 0 [a]) [.int .u64 (L:Int),.int .i64 2,.bool false,.slice none 0 0,.slice none 0 0,.int .i64 0,.slice (some ⟨b,0,none⟩) 1 1]:=by
 have h0:Ug []:=λx hx=>absurd hx List.not_mem_nil;have hf:∀b,Fits 0 0 b:=λb=>⟨Lr,by omega,by omega⟩;rw[IsCelP];refine⟨none,0,none,0,some ⟨b,0,none⟩,1,vs,rfl,hL,hf 4,hf 4,⟨by simp,by simp,by simp⟩,by intro x hx;simp at hx;omega,h0,h0,.inl rfl,.inl rfl,.inr ⟨b,0,rfl,⟨(Array.getElem?_eq_some_iff.1 hr).1,.inl hn⟩,λi v hv=>?_⟩,?_,λ_=>rfl,λ_=>rfl⟩
 ·rw[Nat.zero_add,cell_of_row w' b i _ _ _ hr];simpa using hv
 rw[IsArrsP];exact⟨vs,[],by simp,Uc h hb,by rw[IsArrsP]⟩
theorem IsCelP.form {w:World}{P:Nat->Prop}{c:Fa}{vs:List Value}(h:IsCelP w P c vs):∃(L:Nat) (k:Int) (neg:Bool) (A1:Option Addr) (n1 c1:Nat) (A2:Option Addr) (n2 c2:Nat) (ch:Int) (A3:Option Addr) (n3 c3:Nat),vs=[.int .u64 (L:Int),.int .i64 k,.bool neg,.slice A1 n1 c1,.slice A2 n2 c2,.int .i64 ch,.slice A3 n3 c3]/\L<18446744073709551616:=by
 cases c;rw[IsCelP] at h;obtain⟨A,c,A',c',A2,c2,us,rfl,hL,_⟩:=h;exact⟨_,_,_,_,_,_,_,_,_,_,_,_,_,rfl,hL⟩
theorem IsCelP.lab {w:World}{P:Nat->Prop}{L L':Nat}{k:Int}{neg:Bool}{t b:List Nat}{ch:Int}{ins:List Ba}{v0:Value}{vs:List Value}(h:IsCelP w P (.mk L k neg t b ch ins) (v0::vs))(hL:L'<18446744073709551616):IsCelP w P (.mk L' k neg t b ch ins) (.int .u64 (L':Int)::vs):=by
 rw[IsCelP] at h⊢;obtain⟨A,c,A',c',A2,c2,us,h1,h2,h3⟩:=h;injection h1 with e1 e2
 subst e2;exact⟨A,c,A',c',A2,c2,us,rfl,hL,h3⟩
theorem Ku {L:Nat}{k:Int}{neg:Bool}{A1:Option Addr}{n1 c1:Nat}{A2:Option Addr}{n2 c2:Nat}{ch:Int}{A3:Option Addr}{n3 c3:Nat}:∀u∈[Value.int .u64 (L:Int),.int .i64 k,.bool neg,.slice A1 n1 c1,.slice A2 n2 c2,.int .i64 ch,.slice A3 n3 c3],Ce u:=by
 intro u hu n e;subst e;simp at hu
end
section
open Go.RowKit Ar
section
variable {ops : Array Oper} {rest : List Oper} {o : Oper} {a : Act} {w : World} {Q : Exit -> Act -> World -> Prop} {L k c : Int} {b : Bool} {A1 A2 A3 : Option Addr} {n1 n2 n3 c1 c2 c3 : Nat} {u0 u1 u2 u3 u4 u5 u6 x : Value} {fn : Func} {p q : Tmp} {R : Ending -> World -> Prop}
theorem Zd:(Tryz.prog.info? 87).map (·.size)=some (#[u0,u1,u2,u3,u4,u5,u6]:Array Value).size:=by kernel_rfl
theorem On:(Tryz.prog.info? 42).map (·.size)=some (#[u0,u1,u2]:Array Value).size:=by kernel_rfl
theorem Kf (hgd:o.guard=none)(x y:Operand)(ho:o.op= .store 87 x y)(g:Nat)(hx:a.eval x= .pointer (some ⟨g,0,none⟩))(hy:a.eval y= .agg #[.int .u64 L,.int .i64 k,.bool b,.slice A1 n1 c1,.slice A2 n2 c2,.int .i64 c,.slice A3 n3 c3])(hg:w.heap[g]? =some (.cells #[u0,u1,u2,u3,u4,u5,u6] 87 (0,0)))
 (h:wpList Tryz.prog ops Q rest (a.put o.dst undef) (w.setRow g #[.int .u64 L,.int .i64 k,.bool b,.slice A1 n1 c1,.slice A2 n2 c2,.int .i64 c,.slice A3 n3 c3])):wpList Tryz.prog ops Q (o::rest) a w:=
 wpList_store_row hgd _ x y ho g _ hx hy _ _ hg Zd rfl (by simp[Value.oneCell']) h
theorem Sq (hgd:o.guard=none)(x:Operand)(ho:o.op= .load 87 x)(g:Nat)(hx:a.eval x= .pointer (some ⟨g,0,none⟩))(hg:w.heap[g]? =some (.cells #[u0,u1,u2,u3,u4,u5,u6] 87 (0,0)))
 (h:wpList Tryz.prog ops Q rest (a.put o.dst (.agg #[u0,u1,u2,u3,u4,u5,u6])) w):wpList Tryz.prog ops Q (o::rest) a w:=
 wpList_load_row hgd _ x ho g hx _ _ _ _ hg Tryz.underlying87 rfl Zd h
theorem Je {g:Nat}{old:Array Value}(h:fn.results= #[.cell p 87,.tmp q])(hp:a.tmps.getD p undef= .pointer (some ⟨g,0,none⟩))(hx:a.tmps.getD q undef=x)(hd:a.defers=[])(hg:w.heap[g]? =some (.cells old 87 (0,0)))
 (hR:R (.returned (.tuple #[.agg #[u0,u1,u2,u3,u4,u5,u6],x])) (w.setRow g #[u0,u1,u2,u3,u4,u5,u6])):bodyPost Tryz.prog fn R .ret a (w.setRow g #[u0,u1,u2,u3,u4,u5,u6]):=
 bodyPost_ret (Ib h _ _ g _ _ (0,0) _ _ hp hx (Ha hg) Tryz.underlying87 rfl Zd) hd hR
theorem Lf (hgd:o.guard=none)(x y:Operand)(ho:o.op= .store 42 x y)(g:Nat)(hx:a.eval x= .pointer (some ⟨g,0,none⟩))(hy:a.eval y= .agg #[.int .u64 L,.slice A1 n1 c1,.slice A2 n2 c2])(hg:w.heap[g]? =some (.cells #[u0,u1,u2] 42 (0,0)))
 (h:wpList Tryz.prog ops Q rest (a.put o.dst undef) (w.setRow g #[.int .u64 L,.slice A1 n1 c1,.slice A2 n2 c2])):wpList Tryz.prog ops Q (o::rest) a w:=
 wpList_store_row hgd _ x y ho g _ hx hy _ _ hg On rfl (by simp[Value.oneCell']) h
theorem Ml (hgd:o.guard=none)(x:Operand)(ho:o.op= .load 42 x)(g:Nat)(hx:a.eval x= .pointer (some ⟨g,0,none⟩))(hg:w.heap[g]? =some (.cells #[u0,u1,u2] 42 (0,0)))
 (h:wpList Tryz.prog ops Q rest (a.put o.dst (.agg #[u0,u1,u2])) w):wpList Tryz.prog ops Q (o::rest) a w:=
 wpList_load_row hgd _ x ho g hx _ _ _ _ hg Tryz.underlying42 rfl On h
theorem Ke {g:Nat}{old:Array Value}(h:fn.results= #[.cell p 42,.tmp q])(hp:a.tmps.getD p undef= .pointer (some ⟨g,0,none⟩))(hx:a.tmps.getD q undef=x)(hd:a.defers=[])(hg:w.heap[g]? =some (.cells old 42 (0,0)))
 (hR:R (.returned (.tuple #[.agg #[u0,u1,u2],x])) (w.setRow g #[u0,u1,u2])):bodyPost Tryz.prog fn R .ret a (w.setRow g #[u0,u1,u2]):=
 bodyPost_ret (Ib h _ _ g _ _ (0,0) _ _ hp hx (Ha hg) Tryz.underlying42 rfl On) hd hR
end
theorem Bb {n g:Nat}{w w':World}{vs:Array Value}(h:Below n w w')(hg:n<=g):Below n w (w'.setRow g vs):=rBelow.setRow h hg _
theorem Ab {w:World}{g b:Nat}{vs:Array Value}(h:b≠g):(w.setRow g vs).heap[b]? =w.heap[b]? :=setRow_other w g b vs h
theorem Og {n g b:Nat}{w:World}(hg:g<n)(hu:¬HasU w g)(h:PR n w b):b≠g:=by
 rintro rfl;rcases h.2 with h1 |h1
 ·omega
 exact hu h1
theorem Sj {n g:Nat}{w:World}{vs:Array Value}{c:Fa}{u:List Value}(h:IsCelP w (PR n w) c u)(hg:g<n)(hu:¬HasU w g):IsCelP (w.setRow g vs) (PR n (w.setRow g vs)) c u:=
 IsCelP.keep (λp hp=>World.cell?_of_block (Ab (Og hg hu hp))) (λb hb=>hb.same (by rw[size_setRow];exact Lr) (Ab (Og hg hu hb))) _ _ h
theorem Pg {n g:Nat}{w:World}{vs:Array Value}{c:Ba}{u:List Value}(h:IsArrP w (PR n w) c u)(hg:g<n)(hu:¬HasU w g):IsArrP (w.setRow g vs) (PR n (w.setRow g vs)) c u:=
 IsArrP.keep (λp hp=>World.cell?_of_block (Ab (Og hg hu hp))) (λb hb=>hb.same (by rw[size_setRow];exact Lr) (Ab (Og hg hu hb))) _ _ h
theorem Pn {n m:Nat}{w:World}{c:Fa}{u:List Value}(h:IsCelP w (PR m w) c u)(hn:n<=m):IsCelP w (PR n w) c u:=IsCelP.keep (λ_ _=>rfl) (λb hb=>hb.mono hn) _ _ h
theorem Qf {n m:Nat}{w:World}{c:Ba}{u:List Value}(h:IsArrP w (PR m w) c u)(hn:n<=m):IsArrP w (PR n w) c u:=IsArrP.keep (λ_ _=>rfl) (λb hb=>hb.mono hn) _ _ h
end
structure Ten20 (w:World):Prop where
 tab:Lib.TabIs Tryz.prog w "internal/strconv.uint64pow10" .u64 Lib.pow10Tab
 lt:∀g,Tryz.prog.globalNamed "internal/strconv.uint64pow10" =some g→g<w.heap.size
theorem Ten20.below {w w':World}(h:Ten20 w)(hb:Below w.heap.size w w'):Ten20 w':=⟨by
 have ht:=h.tab;unfold Lib.TabIs World.var? at*;cases he:Tryz.prog.globalNamed "internal/strconv.uint64pow10" with
 |none=>simp[he] at ht
 |some g=>
  simp only[he,Option.bind_some] at ht⊢;rw[hb.block g (h.lt g he)];exact ht,λg e=>Nat.lt_of_lt_of_le (h.lt g e) hb.size⟩
theorem Df (s:List UInt8)(w:World)(hs:s.length<1000000000)(hT:Ten20 w):
 Calls Tryz.prog 27 #[.string ⟨s.toArray⟩] w λe w'=>e= .returned (.string ⟨(Nw.net s).toArray⟩)/\Below w.heap.size w w':=by
 have hsz:(⟨s.toArray⟩:ByteArray).size=s.length:=rfl;have HSZ:=Qd hsz;have DE:=Tryz.strconv_Itoa (s.length:Int) (by omega) (by omega) w hT.tab;rw[Lib.itoa_nonneg] at DE;replace DE:=Qd DE;have hp:=(Ten.dec_len (r:=s.length) (k:=9) (by omega)).2;have HN:=Qd (O1 s);generalize Lib.decDigits s.length=D at*;have q1:¬9223372036854775807<D.length+1:=by omega
 have q2:¬9223372036854775807<D.length+1+s.length:=by omega
 have q3:¬9223372036854775807<D.length+1+s.length+1:=by omega
 clear hT;go_enter Tryz.func27,Tryz.ntmps27
 go_wp2_with fail
 refine DE.out.mono ?_;rintro e w1 ⟨rfl,kk,os,hw1⟩;have hb1:Below w.heap.size w w1:=by rw[hw1];exact Lib.below_grow _ _ Lr _ _
 clear hw1;go_wp2_with fail
 go_ret;exact⟨by rw[<-HN.out];rfl,hb1⟩
def Nw.cutV:Option (List UInt8×List UInt8)->Value
 |some (a,b)=> .tuple #[.string ⟨a.toArray⟩,.string ⟨b.toArray⟩,.bool true]
 |none=> .tuple #[.string ⟨#[]⟩,.string ⟨#[]⟩,.bool false]
theorem Me (s:List UInt8)(n:Nat):(⟨s.toArray⟩:ByteArray).extract n s.length=⟨(s.drop n).toArray⟩:=by
 apply ByteArray.ext
 simp;exact List.take_of_length_le (by simp)
theorem Pk (s:List UInt8)(n:Nat)(h:n<=s.length):(⟨s.toArray⟩:ByteArray).extract 0 n=⟨(s.take n).toArray⟩:=by
 apply ByteArray.ext
 simp
theorem Tq (s:List UInt8)(w:World)(hs:s.length<=1000000000000):
 Calls Tryz.prog 66 #[.string ⟨s.toArray⟩] w λe w'=>e= .returned (Nw.cutV (Nw.cut s))/\Below w.heap.size w w':=by
 have hsz:(⟨s.toArray⟩:ByteArray).size=s.length:=rfl;have HSZ:=Qd hsz;have HNO:Hid (Nw.cut s=none->Ending.returned (.tuple #[.string ⟨#[]⟩,.string ⟨#[]⟩,.bool false])= .returned (Nw.cutV (Nw.cut s))):=Qd (λh=>by rw[h];rfl);go_enter Tryz.func66,Tryz.ntmps66
 go_wp2
 go_loop [5,6] (λa i=>∃k n:Nat,k<=s.length/\n<=s.length/\a= .int .i64 (n:Int)/\i= .int .i64 (k:Int)/\Hid (Nw.DecAt s k n)/\Hid (1<k->10<=Ten.numOf (s.take 2))) (λ_ i=>s.length-(intOf i).toNat)
 case atStart=>exact⟨0,0,Nat.zero_le _,Nat.zero_le _,rfl,rfl,Qd ⟨Nat.zero_le _,by simp[Ten.numOf]⟩,Qd (λh=>by omega)⟩
 case round=>
  obtain⟨k,n,hk,hn,rfl,rfl,H,HZ⟩:=hrel;by_cases hdig:∃hlt:k<s.length,48<=s[k].toNat/\s[k].toNat<=57
  ·obtain⟨hlt,h1',h2'⟩:=hdig
   obtain⟨y,hy⟩:∃y,y=s[k].toNat:=⟨_,rfl⟩;have hgy:((⟨s.toArray⟩:ByteArray)[k]'(show k<(⟨s.toArray⟩:ByteArray).size from hlt)).toNat=y:=hy.symm;rw[<-hy] at h1' h2';have h3:Nw.DecAt s (k+1) (10*n+(y-48)):=⟨Lx H.out.le hlt (by rw[Ty hy];exact decide_eq_true ⟨h1',h2'⟩),by rw[Nw.take_succ_num hlt,<-H.out.num,<-hy]⟩;have HB:Hid (s.length<10*n+(y-48)->Nw.cut s=none):=Qd (λh=>Nw.cut_big h3.le (by rw[<-h3.num];exact h));have HC:Hid (10*n+(y-48)<10->1<k+1->Nw.cut s=none):=Qd (λh h'=>Nw.cut_zero h3.le h' (by rw[<-h3.num];exact h));have HD:Hid (¬(10*n+(y-48)<10/\1<k+1)->1<k+1->10<=Ten.numOf (s.take 2)):=Qd (λh h'=>by
    by_cases e:k=1
    ·have h5:=h3.num
     rw[e] at h5;have h6:Ten.numOf (s.take (1+1))=Ten.numOf (s.take 2):=rfl;omega
    exact HZ.out (by omega))
   have H3:=Qd h3;have hw1:IntKind.u8.wrap ((y:Int)-48)=((y-48:Nat):Int):=by rw[show(y:Int)-48=((y-48:Nat):Int) by omega];exact IntWalk.u8_in _ (by omega)
   obtain⟨n',hn'⟩:∃n',n'=10*n+(y-48):=⟨_,rfl⟩;rw[<-hn'] at HB HC HD H3;have HN':=Qd hn';clear h3 hy hn';go_upto_region 3 with fail
   go_cut [5] from 8 to 45 (λx wx=>x= .int .i64 (n':Int)/\wx=w)
   case first=>
    go_wp2
    go_meet
    exact⟨congrArg (Value.int .i64) (by have:=HN'.out;omega),rfl⟩
   obtain⟨rfl,rfl⟩:=hcut
   rename World=>w
   clear hw1;by_cases c1:s.length<n'
   ·have HE:=Qd (HNO.out (HB.out c1))
    go_wp2
    go_ret3
    exact⟨HE.out,Br⟩
   by_cases c2:n'<10
   ·by_cases c3:k=0
    ·have HE:Hid (1<k+1->10<=Ten.numOf (s.take 2)):=Qd (by omega)
     have c4:¬(1:Int)<(k:Int)+1:=by omega
     have c5:k<s.length:=hlt;replace c3:=Qd c3;go_wp2
     go_round
     case rel=>exact⟨k+1,n',by omega,by omega,rfl,by go_num,H3,HE⟩
     case measure=>simp[intOf];omega
    have HE:=Qd (HNO.out (HC.out c2 (by omega)));have c4:(1:Int)<(k:Int)+1:=by omega
    go_wp2
    go_ret3
    exact⟨HE.out,Br⟩
   have HE:=Qd (HD.out (by omega));go_wp2
   go_round
   case rel=>exact⟨k+1,n',by omega,by omega,rfl,by go_num,H3,HE⟩
   case measure=>simp[intOf];omega
  have hlead:Dg.lead s=k:=by
   by_cases hlt:k<s.length
   ·refine Mx H.out.le hlt ?_
    rw[Ty rfl];exact decide_eq_false (λh=>hdig ⟨hlt,h⟩)
   have:=Dg.lead_le s;have:=H.out.le;omega
  have hcut:Nw.cut s=Nw.after s k n:=by rw[Nw.cut_read (λh=>HZ.out (by omega)),hlead,<-H.out.num]
  have HA:=Qd hcut;clear hcut hlead H HZ;by_cases hlt:k<s.length
  ·obtain⟨y,hy⟩:∃y,y=s[k].toNat:=⟨_,rfl⟩
   have hgy:((⟨s.toArray⟩:ByteArray)[k]'(show k<(⟨s.toArray⟩:ByteArray).size from hlt)).toNat=y:=hy.symm;have hnd:¬(48<=y/\y<=57):=λh=>hdig ⟨hlt,by rw[<-hy];exact h⟩;have HG:Hid (s.getD k 0=58↔y=58):=Qd (by
    rw[hy,List.getD_eq_getElem?_getD,List.getElem?_eq_getElem hlt,Option.getD_some];exact⟨λe=>by rw[e];rfl,λe=>UInt8.toNat_inj.1 e⟩)
   clear hdig hy;have HF:Hid (¬(k≠0/\y=58)->Nw.cut s=none):=Qd (λh=>by
    rw[HA.out];unfold Nw.after
    split
    ·rfl
    rw[if_neg (by omega),if_pos (λe=>h ⟨by assumption,HG.out.1 e⟩)])
   by_cases hk0:k=0
   ·have HE:=Qd (HNO.out (HF.out (λh=>h.1 hk0)))
    clear HA HG HF;subst hk0;by_cases h1:48<=y
    ·have h2:¬y<=57:=λh=>hnd ⟨h1,h⟩
     go_wp2
     go_ret3
     exact⟨HE.out,Br⟩
    go_wp2
    go_ret3
    exact⟨HE.out,Br⟩
   by_cases hy58:y=58
   ·have HG':=Qd (HG.out.2 hy58)
    subst hy58;have z1:((k:Int)==0)=false:=beq_eq_false_iff_ne.2 (by omega);have z2:((k:Int)==(s.length:Int))=false:=beq_eq_false_iff_ne.2 (by omega);obtain⟨T,hT⟩:∃T,T=s.drop (k+1):=⟨_,rfl⟩;have hTl:T.length=s.length-(k+1):=by rw[hT,List.length_drop]
    have HT:Hid ((⟨s.toArray⟩:ByteArray).extract (k+1) s.length=⟨T.toArray⟩):=Qd (by rw[Me,hT]);have HTT:=Qd hT;have HTL:=Qd hTl;have hw1:IntKind.i64.wrap ((k:Int)+1)=(k:Int)+1:=IntWalk.i64_in _ (by omega);have hw2:(0:Int)<=(k:Int)+1:=by omega
    have hw3:(k:Int)+1<=(s.length:Int):=by omega
    have hw4:((k:Int)+1).toNat=k+1:=by omega
    have hTm:T.length<=1000000000000:=by omega
    clear hT hTl hnd HF HG;go_upto_region 9 with fail
    go_cut [7] from 8 (λx wx=>x= .string ⟨T.toArray⟩/\wx=w)
    case first=>
     go_wp2
     go_meet
     exact⟨congrArg Value.string HT.out,rfl⟩
    obtain⟨rfl,rfl⟩:=hcut
    rename World=>w
    clear hw1 hw2 hw3 hw4 hgy z1 z2 HT;have HQ:Hid (Nw.cut s=if T.length<=n then none else if T.getD n 0≠44 then none else some (T.take n,T.drop (n+1))):=Qd (by rw[HA.out,Nw.after_T hk0 hlt HG'.out,<-HTT.out]);clear HA HG' HTT HTL;have htz:(⟨T.toArray⟩:ByteArray).size=T.length:=rfl;have HTZ:=Qd htz;by_cases hnl:n<T.length
    ·obtain⟨z,hz⟩:∃z,z=T[n].toNat:=⟨_,rfl⟩
     have hgz:((⟨T.toArray⟩:ByteArray)[n]'(show n<(⟨T.toArray⟩:ByteArray).size from hnl)).toNat=z:=hz.symm;have HZ4:Hid (T.getD n 0=44↔z=44):=Qd (by
      rw[hz,List.getD_eq_getElem?_getD,List.getElem?_eq_getElem hnl,Option.getD_some];exact⟨λe=>by rw[e];rfl,λe=>UInt8.toNat_inj.1 e⟩)
     clear hz;by_cases hz44:z=44
     ·have HE:Hid (Ending.returned (.tuple #[.string ⟨(T.take n).toArray⟩,.string ⟨(T.drop (n+1)).toArray⟩,.bool true])= .returned (Nw.cutV (Nw.cut s))):=Qd (by rw[HQ.out,if_neg (by omega),if_neg (λe=>e (HZ4.out.2 hz44))];rfl)
      have SU:=Qd (Pk T n (by omega));have SF:=Qd (Me T (n+1));have hw1:IntKind.i64.wrap ((n:Int)+1)=(n:Int)+1:=IntWalk.i64_in _ (by omega);have hw2:(0:Int)<=(n:Int)+1:=by omega
      have hw3:(n:Int)+1<=(T.length:Int):=by omega
      have hw4:((n:Int)+1).toNat=n+1:=by omega
      have hw5:(0:Int)<=(n:Int):=by omega
      have hw6:(n:Int)<(T.length:Int):=by omega
      subst hz44;clear HQ HZ4;go_wp2_with fail
      go_quiet (fail)
      go_wp2_with fail
      go_ret3
      exact⟨by rw[<-HE.out,<-SU.out,<-SF.out];rfl,⟨rfl,rfl,rfl,Lr,λ_ _=>rfl⟩⟩
     have HE:=Qd (HNO.out (by rw[HQ.out];split;rfl;rw[if_pos (λe=>hz44 (HZ4.out.1 e))]));have z3:((z:Int)!=44)=true:=by simp;omega
     clear HQ HZ4;go_wp2
     go_ret3
     exact⟨HE.out,Br⟩
    have HE:=Qd (HNO.out (by rw[HQ.out,if_pos (by omega)]));clear HQ;have hnl':(T.length:Int)<=(n:Int):=by omega
    go_wp2
    go_ret3
    exact⟨HE.out,Br⟩
   have HE:=Qd (HNO.out (HF.out (λh=>hy58 h.2)));have z1:((k:Int)==0)=false:=beq_eq_false_iff_ne.2 (by omega);have z2:((k:Int)==(s.length:Int))=false:=beq_eq_false_iff_ne.2 (by omega);have z3:((y:Int)!=58)=true:=by simp;omega
   clear HA HG HF;by_cases h1:48<=y
   ·have h2:¬y<=57:=λh=>hnd ⟨h1,h⟩
    go_wp2
    go_ret3
    exact⟨HE.out,Br⟩
   go_wp2
   go_ret3
   exact⟨HE.out,Br⟩
  have HE:=Qd (HNO.out (by rw[HA.out];unfold Nw.after;split;rfl;rw[if_pos (by omega)]));have e:¬(k:Int)<(s.length:Int):=by omega
  clear hdig HA;by_cases hk0:k=0
  ·subst hk0
   go_wp2
   go_ret3
   exact⟨HE.out,Br⟩
  have e2:(k:Int)=(s.length:Int):=by omega
  replace e2:=Qd e2;go_wp2
  all_goals first|(go_ret3;exact⟨HE.out,Br⟩) |skip
def IsReader (w:World)(r:Nat)(s:List UInt8):Prop:=w.heap[r]? =some (.cells #[.string ⟨s.toArray⟩] 121 (0,0))
theorem IsReader.lt {w:World}{r:Nat}{s:List UInt8}(h:IsReader w r s):r<w.heap.size:=(Array.getElem?_eq_some_iff.1 h).1
theorem IsReader.below {w w':World}{r:Nat}{s:List UInt8}(h:IsReader w r s)(hb:Below w.heap.size w w'):IsReader w' r s:=(hb.block r h.lt).trans h
theorem IsReader.cell {w:World}{r:Nat}{s:List UInt8}(h:IsReader w r s):w.cell? ⟨r,0,none⟩=some (.string ⟨s.toArray⟩):=by unfold IsReader at h;simp[World.cell?,h]
theorem IsReader.frozen {w:World}{r:Nat}{s:List UInt8}(h:IsReader w r s):w.frozen? ⟨r,0,none⟩=false:=by unfold IsReader at h;simp[World.frozen?,h]
theorem IsReader.set {w:World}{r:Nat}{s:List UInt8}(h:IsReader w r s)(t:List UInt8):IsReader (w.setCell ⟨r,0,none⟩ (.string ⟨t.toArray⟩)) r t:=by
 unfold IsReader at*;show(w.heap.modify r _)[r]? =_;rw[Array.getElem?_modify,if_pos rfl,h];rfl
theorem Tj (s:List UInt8)(r:Nat)(w:World)(hs:s.length<=1000000)(h:IsReader w r s)(hc:Nw.cut s=none):
 Calls Tryz.prog 81 #[.pointer (some ⟨r,0,none⟩)] w λe w'=>e= .returned (.tuple #[.string ⟨#[]⟩,.bool false])/\Below w.heap.size w w':=by
 have hr:=h.cell;have C:=Tq s w (by omega);rw[hc] at C;replace C:=Qd C;clear hc h;go_enter Tryz.func81,Tryz.ntmps81
 go_wp2_with fail
 refine C.out.mono ?_;rintro e W1 ⟨rfl,hb1⟩;unfold Nw.cutV;go_wp2_with fail
 go_ret2
 exact⟨rfl,hb1⟩
theorem Uj (s a b:List UInt8)(r:Nat)(w:World)(hs:s.length<=1000000)(h:IsReader w r s)(hc:Nw.cut s=some (a,b)):
 Calls Tryz.prog 81 #[.pointer (some ⟨r,0,none⟩)] w λe w'=>e= .returned (.tuple #[.string ⟨a.toArray⟩,.bool true])/\∃w1,Below w.heap.size w w1/\w'=w1.setCell ⟨r,0,none⟩ (.string ⟨b.toArray⟩):=by
 have hr:=h.cell;have C:=Tq s w (by omega);rw[hc] at C;replace C:=Qd C;clear hc;have HR:=Qd h;clear h;go_enter Tryz.func81,Tryz.ntmps81
 go_wp2_with fail
 refine C.out.mono ?_;rintro e W1 ⟨rfl,hb1⟩;unfold Nw.cutV;have hr1:=(HR.out.below hb1).cell;have hf1:=(HR.out.below hb1).frozen;have HB1:=Qd hb1;clear hb1;go_wp2_with fail
 go_ret2
 exact⟨rfl,_,HB1.out,rfl⟩
end Go.Proofs.YtogjgbmngagimaaGreatDoor
