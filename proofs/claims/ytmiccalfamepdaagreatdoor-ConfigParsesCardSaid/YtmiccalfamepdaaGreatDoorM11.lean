/- Texts of this proof, joined. -/
import Derived.Test.YtmiccalfamepdaaGreatDoorM10
import Derived.Deep.RegionLaw
import Derived.Deep.AppendLies
import Derived.Lib.Walk
import Derived.BigCall
import Derived.BigGuard
set_option linter.all false
set_option maxHeartbeats 8000000
set_option maxRecDepth 100000
namespace Go.Proofs.YtmiccalfamepdaaGreatDoor
section
open Go.RowKit Ar
theorem Yga (x:Int)(w:World):
 Calls Tryz.prog 107 #[.int .i64 x] w λe w'=>e= .returned (.bool (Ae x))/\w=w':=by
 have HE:Hid (Ae x=(decide (0<=x)&&decide (x<=1114111)&&(decide (x<55296)||decide (57343<x)))):=Qd rfl;by_cases h0:0<=x
 ·by_cases h1:x<=1114111
  ·by_cases h2:x<55296
   ·have E:Hid (Ae x=true):=Qd (by rw[HE.out];simp;omega)
    go_enter Tryz.func107,Tryz.ntmps107
    go_wp2_with fail
    go_ret;exact⟨Aa E.out.symm,rfl⟩
   have q2:decide (x<55296)=false:=decide_eq_false h2;by_cases h3:57343<x
   ·have E:Hid (Ae x=true):=Qd (by rw[HE.out];simp;omega)
    go_enter Tryz.func107,Tryz.ntmps107
    go_wp2_with fail
    go_ret;exact⟨Aa E.out.symm,rfl⟩
   have q3:decide (57343<x)=false:=decide_eq_false h3;have E:Hid (Ae x=false):=Qd (by rw[HE.out];simp;omega);go_enter Tryz.func107,Tryz.ntmps107
   go_wp2_with fail
   go_ret;exact⟨Aa E.out.symm,rfl⟩
  have q1:decide (x<=1114111)=false:=decide_eq_false h1;have E:Hid (Ae x=false):=Qd (by rw[HE.out,q1];simp);go_enter Tryz.func107,Tryz.ntmps107
  go_wp2_with fail
  go_ret;exact⟨Aa E.out.symm,rfl⟩
 have q0:decide (0<=x)=false:=decide_eq_false h0;have E:Hid (Ae x=false):=Qd (by rw[HE.out,q0];simp);have q0':x<0:=by omega
 go_enter Tryz.func107,Tryz.ntmps107
 go_wp2_with fail
 go_ret;exact⟨Aa E.out.symm,rfl⟩
theorem Rda (S:Nat)(A A':Option Addr)(n n' c c':Nat)(w:World):
 Calls Tryz.prog 136 #[.agg #[.int .u64 (S:Int),.slice A n c,.slice A' n' c']] w λe w'=>e= .returned (.bool (decide (n=0)&&decide (n'=1)))/\Below w.heap.size w w':=by
 by_cases h0:n=0
 ·by_cases h1:n'=1
  ·subst h0 h1
   go_enter Tryz.func136,Tryz.ntmps136
   go_wp2_with fail
   go_ret;exact⟨Aa rfl,Br.alloc Lr _⟩
  subst h0;have q:((n':Int)==1)=false:=beq_eq_false_iff_ne.2 (by omega);have HZ:Hid ((decide ((0:Nat)=0)&&decide (n'=1))=false):=Qd (by simp[h1]);clear h1;generalize decide (n'=1)=z at*;go_enter Tryz.func136,Tryz.ntmps136
  go_wp2_with fail
  go_ret;exact⟨Aa HZ.out.symm,Br.alloc Lr _⟩
 have q:((n:Int)==0)=false:=beq_eq_false_iff_ne.2 (by omega);have HZ:Hid ((decide (n=0)&&decide (n'=1))=false):=Qd (by simp[h0]);clear h0;generalize(decide (n=0)&&decide (n'=1))=z at*;go_enter Tryz.func136,Tryz.ntmps136
 go_wp2_with fail
 go_ret;exact⟨Aa HZ.out.symm,Br.alloc Lr _⟩
theorem D7 (a:Ba)(vs:List Value)(w:World)(B:Nat)(h:IsArr w B a vs)(hB:B<=w.heap.size):
 Calls Tryz.prog 108 #[.agg vs.toArray] w λe w'=>e= .returned (.bool (Cc a))/\Below w.heap.size w w':=by
 obtain⟨S,shape,cells⟩:=a;rw[IsArr] at h;obtain⟨A,c,A',c',us,rfl,hS,hf,hf',hw,hl,hl',hcs⟩:=h;have hfl:=(hf'.le (by omega));have hfs:shape.length<=17592186044416:=by have h1:=hf.1;have h2:=hf.2;omega
 have H0:=Qd (λh=>Ew (S:=S) (sh:=shape) (cells:=cells) h);have H1:=Qd (λh=>Ks (S:=S) (sh:=shape) (cells:=cells) h);obtain⟨W,hW⟩:∃W,W=w.alloc (.cells #[.int .u64 (S:Int),.slice A shape.length c,.slice A' cells.length c'] 43):=⟨_,rfl⟩;have hWs:W.heap.size=w.heap.size+1:=by rw[hW];simp
 have hWb:Below w.heap.size w W:=by rw[hW];exact Br.alloc Lr _
 have HQ2:Hid (W.cell? ⟨w.heap.size,2,none⟩=some (.slice A' cells.length c')):=Qd (by rw[hW];go_simp);have HW:=Qd hW;have hWl:w.heap.size<W.heap.size:=by omega
 have AL:=Qd (Rda S A A' shape.length cells.length c c' W);clear hW;by_cases h0:shape.length=0
 ·by_cases h1:cells.length=1
  ·have ha:(decide (shape.length=0)&&decide (cells.length=1))=true:=by simp[h0,h1]
   rw[ha] at AL;obtain⟨b,off,L,kind,neg,top,bot,ch,ins,A1,c1,A2,c2,A3,c3,us3,rfl,hb,hL,HX,t1,t2,t3,t4,t5,t6,g0,g1,g2,g3,g4,g5,g6⟩:=Sd (k:=0) hcs hl' (wr:=W) (λp hp=>hWb.cell (by omega)) (by omega);have HS:=Qd (Ls (S:=S) h0 h1 HX.out.eq);have hcl:(1:Int)<=(cells.length:Int):=by omega
   simp only[Nat.zero_mul,Nat.add_zero] at g1;have hbl:b<W.heap.size:=by omega
   clear HX H0 H1 h0 h1 ha hcs hl' hl hf hf' hw g0 g2 g3 g4 g5 g6;generalize Cc (.mk S shape cells)=R at*;generalize shape.length=z1 at*;generalize cells.length=z2 at*;go_enter Tryz.func108,Tryz.ntmps108
   go_wp2_with fail
   rw[<-HW.out];refine AL.out.mono ?_;rintro e w2 ⟨rfl,hb2⟩;have r2:w2.cell? ⟨w.heap.size,2,none⟩=some (.slice (some ⟨b,off,none⟩) z2 c'):=(hb2.cell (p:=⟨w.heap.size,2,none⟩) hWl).trans HQ2.out;have r1:w2.cell? ⟨b,off+1,none⟩=some (.int .i64 kind):=(hb2.cell (p:=⟨b,off+1,none⟩) hbl).trans g1;clear g1;go_wp2_with fail
   go_ret;exact⟨Aa (by rw[HS.out]),hWb.trans (hb2.mono (by omega))⟩
  have HS:=Qd (H1.out h1);have ha:(decide (shape.length=0)&&decide (cells.length=1))=false:=by simp[h1]
  rw[ha] at AL;clear H0 H1 h0 h1 ha hcs hl' hl hf hf' hw;generalize Cc (.mk S shape cells)=R at*;generalize shape.length=z1 at*;generalize cells.length=z2 at*;go_enter Tryz.func108,Tryz.ntmps108
  go_wp2_with fail
  rw[<-HW.out];refine AL.out.mono ?_;rintro e w2 ⟨rfl,hb2⟩;go_wp2_with fail
  go_ret;exact⟨Aa (by rw[HS.out]),hWb.trans (hb2.mono (by omega))⟩
 have HS:=Qd (H0.out h0);have ha:(decide (shape.length=0)&&decide (cells.length=1))=false:=by simp[h0]
 rw[ha] at AL;clear H0 H1 h0 ha hcs hl' hl hf hf' hw;generalize Cc (.mk S shape cells)=R at*;generalize shape.length=z1 at*;generalize cells.length=z2 at*;go_enter Tryz.func108,Tryz.ntmps108
 go_wp2_with fail
 rw[<-HW.out];refine AL.out.mono ?_;rintro e w2 ⟨rfl,hb2⟩;go_wp2_with fail
 go_ret;exact⟨Aa (by rw[HS.out]),hWb.trans (hb2.mono (by omega))⟩
def Zs (n:Nat):Prop:=∀(a:Ba) (vs:List Value) (k:Nat) (w:World) (B:Nat),SizeOf.sizeOf a<n->IsArr w B a vs->B<=w.heap.size->k<=8->
 Calls Tryz.prog 47 #[.agg vs.toArray,.int .i64 (k:Int)] w λe w'=>e= .returned (.bool (Ka (8-k) a))/\Below w.heap.size w w'
theorem Sda (n:Bool)(t b:List Nat):Hc n false t [] b []=Be n t b:=by
 unfold Hc Be;cases n<;>cases t<;>cases b<;>rfl
theorem Zu {n:Nat}(ih:Zs n)(x:Ha)(vs:List Value)(d:Nat)(w:World)(B:Nat)(hx:SizeOf.sizeOf x<n)(h:IsCel w B x vs)(hB:B<=w.heap.size)(hd:d<=8):
 Calls Tryz.prog 74 #[.agg vs.toArray,.int .i64 (d:Int)] w λe w'=>e= .returned (.bool (Oa (8-d) x))/\Below w.heap.size w w':=by
 obtain⟨L,kind,neg,top,bot,ch,ins⟩:=x;rw[IsCel] at h;obtain⟨A1,c1,A2,c2,A3,c3,us,rfl,hL,hf1,hf2,hf3,hw1,hw2,hw3,hl1,hl2,hl3,hins,hnt,hnb⟩:=h;obtain⟨W,hW⟩:∃W,W=w.alloc (.cells #[.int .u64 (L:Int),.int .i64 kind,.bool neg,.slice A1 top.length c1,.slice A2 bot.length c2,.int .i64 ch,.slice A3 ins.length c3] 85):=⟨_,rfl⟩;have hWs:W.heap.size=w.heap.size+1:=by rw[hW];simp
 have hWb:Below w.heap.size w W:=by rw[hW];exact Br.alloc Lr _
 have HB0:W.heap[w.heap.size]? =some (.cells #[.int .u64 (L:Int),.int .i64 kind,.bool neg,.slice A1 top.length c1,.slice A2 bot.length c2,.int .i64 ch,.slice A3 ins.length c3] 85 (0,0)):=by rw[hW];exact heap_alloc_new _ _
 have hWl:w.heap.size<W.heap.size:=by omega
 have HQ:Hid (∀wx,Below W.heap.size W wx->wx.cell? ⟨w.heap.size,2,none⟩=some (.bool neg)/\wx.cell? ⟨w.heap.size,3,none⟩=some (.slice A1 top.length c1)/\wx.cell? ⟨w.heap.size,4,none⟩=some (.slice A2 bot.length c2)/\wx.cell? ⟨w.heap.size,5,none⟩=some (.int .i64 ch)/\wx.cell? ⟨w.heap.size,6,none⟩=some (.slice A3 ins.length c3)):=Qd (λwx hx=>by
  have hb:=(hx.block w.heap.size hWl).trans HB0;exact⟨(cell_of_row wx w.heap.size 2 _ _ _ hb).trans rfl,(cell_of_row wx w.heap.size 3 _ _ _ hb).trans rfl,(cell_of_row wx w.heap.size 4 _ _ _ hb).trans rfl,(cell_of_row wx w.heap.size 5 _ _ _ hb).trans rfl,(cell_of_row wx w.heap.size 6 _ _ _ hb).trans rfl⟩)
 have HW:=Qd hW;have m1:top.length<=35184372088832:=by have h1:=hf1.1;have h2:=hf1.2;omega
 have m2:bot.length<=35184372088832:=by have h1:=hf2.1;have h2:=hf2.2;omega
 have m3:ins.length<=35184372088832:=by have h1:=hf3.1;have h2:=hf3.2;omega
 have ZR:=λ(wx:World) (hx:Below W.heap.size W wx)=>Wl neg false top [] bot [] A1 A2 none none c1 c2 0 0 wx B (hl1.below (((hWb.mono hB)).trans (hx.mono (by omega)))) (.inl rfl) (hl2.below (((hWb.mono hB)).trans (hx.mono (by omega)))) (.inl rfl) (by have:=hx.size;omega) (by omega) (by simp) (by omega) (by simp);rw[Sda] at ZR;simp only[List.length_nil] at ZR;replace ZR:=Qd ZR;have MY:=Qd (λ(wx:World)=>Yga ch wx);have RR:=Qd (Yu neg A1 top c1 A2 bot c2 W ⟨A1,c1,rfl,hf1.1,hf1.2.2,hnt,(hl1.below (hWb.mono hB)).more (by omega)⟩ ⟨A2,c2,rfl,hf2.1,hf2.2.2,hnb,(hl2.below (hWb.mono hB)).more (by omega)⟩ hw2 hw3);have hsz0:∀a∈ins,SizeOf.sizeOf a<n:=λa ha=>by
  have h1:=List.sizeOf_lt_of_mem ha;simp only[Ha.mk.sizeOf_spec] at hx;omega
 have HS:=Qd hins;have HL:=Qd hl3;have HE0:=Qd (λh=>Eh (l:=ins) h);have HE1:=Qd (λh=>Ie (l:=ins) h);have R0:=Qd (Ms (d:=8-d) (L:=L) (n:=neg) (t:=top) (b:=bot) (c:=ch) (ins:=ins));have R1:=Qd (Ns (d:=8-d) (L:=L) (n:=neg) (t:=top) (b:=bot) (c:=ch) (ins:=ins));have R2:=Qd (Ps (d:=8-d) (L:=L) (n:=neg) (t:=top) (b:=bot) (c:=ch) (ins:=ins));have RX:=Qd (λh0 h1 h2=>Qs (d:=8-d) (L:=L) (k:=kind) (n:=neg) (t:=top) (b:=bot) (c:=ch) (ins:=ins) h0 h1 h2);have RI1:=Qd (λh=>Wm (d:=8-d) (ins:=ins) h);have RI2:=Qd (λh=>Xm (d:=8-d) (ins:=ins) h);clear hins hl1 hl2 hl3 hf1 hf2 hf3 hw1 hw2 hw3 hnt hnb hx hW HB0;generalize top.length=l1 at*;generalize bot.length=l2 at*;generalize Rt.right ⟨neg,top,bot⟩=RT at*;generalize Be neg top bot=Z at*;generalize Ae ch=MB at*;generalize ins.isEmpty=IE at*;by_cases k0:kind=0
 ·subst k0
  have HR:=Qd R0.out;clear R0 R1 R2 RX RI1 RI2 ZR MY;generalize Oa (8-d) (.mk L 0 neg top bot ch ins)=R at*;go_enter Tryz.func74,Tryz.ntmps74
  go_wp2_with fail
  rw[<-HW.out];refine RR.out.mono ?_;rintro e w2 ⟨rfl,hb2⟩;obtain⟨p2,p3,p4,p5,p6⟩:=HQ.out w2 hb2;clear p2 p3 p4;cases RT
  ·go_wp2_with fail
   go_ret;exact⟨Aa (by rw[HR.out];simp),hWb.trans (hb2.mono (by omega))⟩
  cases q1:(ch==0)
  ·rw[q1] at HR
   go_wp2_with fail
   go_ret;exact⟨Aa (by rw[HR.out];rfl),hWb.trans (hb2.mono (by omega))⟩
  rw[q1] at HR;by_cases h0:ins.length=0
  ·have q2:((ins.length:Int)==0)=true:=beq_iff_eq.2 (by omega)
   have HE:=Qd (HE0.out h0);clear h0 HE0 HE1;generalize ins.length=l3 at*;go_wp2_with fail
   go_ret;exact⟨Aa (by rw[HR.out,HE.out];rfl),hWb.trans (hb2.mono (by omega))⟩
  have q2:((ins.length:Int)==0)=false:=beq_eq_false_iff_ne.2 (by omega);have HE:=Qd (HE1.out h0);clear h0 HE0 HE1;generalize ins.length=l3 at*;go_wp2_with fail
  go_ret;exact⟨Aa (by rw[HR.out,HE.out];rfl),hWb.trans (hb2.mono (by omega))⟩
 by_cases k1:kind=1
 ·subst k1
  have HR:=Qd R1.out;clear R0 R1 R2 RX RI1 RI2 RR k0;generalize Oa (8-d) (.mk L 1 neg top bot ch ins)=R at*;go_enter Tryz.func74,Tryz.ntmps74
  go_wp2_with fail
  rw[<-HW.out];refine(MY.out _).mono ?_;rintro e w3 ⟨rfl,rfl⟩;obtain⟨p2,p3,p4,p5,p6⟩:=HQ.out W Br;clear p5 p6;cases MB
  ·go_wp2_with fail
   go_ret;exact⟨Aa (by rw[HR.out];simp),hWb⟩
  go_wp2_with fail
  refine(ZR.out _ Br).mono ?_;rintro e w2 ⟨rfl,hb2⟩;obtain⟨p2',p3',p4',p5,p6⟩:=HQ.out w2 hb2;clear p2 p3 p4 p2' p3' p4' p5;cases Z
  ·go_wp2_with fail
   go_ret;exact⟨Aa (by rw[HR.out];rfl),hWb.trans (hb2.mono (by omega))⟩
  by_cases h0:ins.length=0
  ·have q2:((ins.length:Int)==0)=true:=beq_iff_eq.2 (by omega)
   have HE:=Qd (HE0.out h0);clear h0 HE0 HE1;generalize ins.length=l3 at*;go_wp2_with fail
   go_ret;exact⟨Aa (by rw[HR.out,HE.out];rfl),hWb.trans (hb2.mono (by omega))⟩
  have q2:((ins.length:Int)==0)=false:=beq_eq_false_iff_ne.2 (by omega);have HE:=Qd (HE1.out h0);clear h0 HE0 HE1;generalize ins.length=l3 at*;go_wp2_with fail
  go_ret;exact⟨Aa (by rw[HR.out,HE.out];rfl),hWb.trans (hb2.mono (by omega))⟩
 have p0:(kind==0)=false:=by simpa using k0
 have p1:(kind==1)=false:=by simpa using k1
 cases p2:(kind==2)
 ·have HR:=Qd (RX.out k0 k1 p2)
  clear R0 R1 R2 RX RI1 RI2 RR k0 k1;generalize Oa (8-d) (.mk L kind neg top bot ch ins)=R at*;go_enter Tryz.func74,Tryz.ntmps74
  go_wp2_with fail
  go_ret;exact⟨Aa (by rw[HR.out]),by rw[HW.out] at hWb;exact hWb⟩
 obtain rfl:kind=2:=by simpa using p2
 have HR:=Qd R2.out;clear R0 R1 R2 RX RR k0 k1 p0 p1 p2;generalize Oa (8-d) (.mk L 2 neg top bot ch ins)=R at*;obtain⟨p2,p3,p4,p5,p6⟩:=HQ.out W Br;rw[HW.out] at p2 p3 p4 p5 p6;by_cases h2:d<8
 ·have q3:decide ((d:Int)<(8:Int))=true:=decide_eq_true (by omega)
  have HD:Hid (decide (0<8-d)=true):=Qd (decide_eq_true (by omega));by_cases h1:ins.length=1
  ·have q2:((ins.length:Int)==1)=true:=beq_iff_eq.2 (by omega)
   obtain⟨a0,ha0⟩:∃a,a=ins[0]'(by omega):=⟨_,rfl⟩;have hi:=RI2.out h1;rw[<-ha0] at hi;have HI:=Qd hi;clear hi;cases q1:(ch==0)
   ·rw[q1] at HR
    clear RI1 RI2 HE0 HE1 ha0 HI h1 h2;generalize ins.length=l3 at*;go_enter Tryz.func74,Tryz.ntmps74
    go_wp2_with fail
    go_ret;exact⟨Aa (by rw[HR.out];simp),by rw[HW.out] at hWb;exact hWb⟩
   rw[q1] at HR;obtain⟨b,off,S,X,xn,xc,Y,yn,yc,rfl,hb,HA,g0,g1,g2⟩:=Vb (k:=0) HS.out HL.out (wr:=w) (λp hp=>rfl) (by omega);simp only[Nat.zero_mul,Nat.add_zero] at g0 g1 g2;rw[<-ha0] at HA;have hsa:SizeOf.sizeOf a0<n:=by rw[ha0];exact hsz0 _ (List.getElem_mem _)
   have SP:=Qd (λ(wx:World) (hx:Below w.heap.size w wx)=>D7 a0 _ wx B (HA.out.below (hx.mono hB)) (by have:=hx.size;omega));have IH:=λ(wx:World) (hx:Below w.heap.size w wx)=>ih a0 _ (d+1) wx B hsa (HA.out.below (hx.mono hB)) (by have:=hx.size;omega) (by omega);have hdd:((d+1:Nat):Int)=(d:Int)+1:=by omega
   have hde:8-(d+1)=8-d-1:=by omega
   rw[hdd,hde] at IH;replace IH:=Qd IH;have HG:Hid (∀wx,Below w.heap.size w wx->wx.cell? ⟨b,off,none⟩=some (.int .u64 (S:Int))/\wx.cell? ⟨b,off+1,none⟩=some (.slice X xn xc)/\wx.cell? ⟨b,off+2,none⟩=some (.slice Y yn yc)):=Qd (λwx hx=>⟨(hx.cell (p:=⟨b,off,none⟩) (show b<_ by omega)).trans g0,(hx.cell (p:=⟨b,off+1,none⟩) (show b<_ by omega)).trans g1,(hx.cell (p:=⟨b,off+2,none⟩) (show b<_ by omega)).trans g2⟩);have hcl:(1:Int)<=(ins.length:Int):=by omega
   clear ha0 hdd hde h1 h2 RI1 RI2 HE0 HE1 g0 g1 g2;generalize Cc a0=SB at*;generalize Ka (8-d-1) a0=RA at*;generalize Hb (8-d) ins=RI at*;generalize ins.length=l3 at*;go_enter Tryz.func74,Tryz.ntmps74
   go_wp2_with fail
   clear p2 p3 p4 p5 p6;rw[<-HW.out];refine(ZR.out _ Br).mono ?_;rintro e w2 ⟨rfl,hb2⟩;obtain⟨p2,p3,p4,p5,p6⟩:=HQ.out w2 hb2;clear p2 p3 p4 p5;have hb3:=hWb.trans (hb2.mono (by omega));cases Z
   ·go_wp2_with fail
    go_ret;exact⟨Aa (by rw[HR.out];rfl),hb3⟩
   obtain⟨g0,g1,g2⟩:=HG.out w2 hb3;go_wp2_with fail
   refine(SP.out _ hb3).mono ?_;rintro e w3 ⟨rfl,hb4⟩;have hb5:=hb3.trans (hb4.mono hb3.size);clear p6 g0 g1 g2;obtain⟨p2,p3,p4,p5,p6⟩:=HQ.out w3 (hb2.trans (hb4.mono hb2.size));clear p2 p3 p4 p5;obtain⟨g0,g1,g2⟩:=HG.out w3 hb5;cases SB
   ·go_wp2_with fail
    refine(IH.out _ hb5).mono ?_;rintro e w4 ⟨rfl,hb6⟩;clear p6 g0 g1 g2;go_wp2_with fail
    go_ret;exact⟨Aa (by rw[HR.out,HD.out,HI.out];simp),hb5.trans (hb6.mono hb5.size)⟩
   go_wp2_with fail
   go_ret;exact⟨Aa (by rw[HR.out,HD.out,HI.out];simp),hb5⟩
  have q2:((ins.length:Int)==1)=false:=beq_eq_false_iff_ne.2 (by omega);have HI:=Qd (RI1.out h1);clear h1 RI1 RI2 HE0 HE1 h2;generalize ins.length=l3 at*;go_enter Tryz.func74,Tryz.ntmps74
  go_wp2_with fail
  go_ret;exact⟨Aa (by rw[HR.out,HI.out];simp),by rw[HW.out] at hWb;exact hWb⟩
 have q3:decide ((d:Int)<(8:Int))=false:=decide_eq_false (by omega);have HD:Hid (decide (0<8-d)=false):=Qd (decide_eq_false (by omega));clear h2 RI1 RI2 HE0 HE1;generalize ins.length=l3 at*;go_enter Tryz.func74,Tryz.ntmps74
 go_wp2_with fail
 go_ret;exact⟨Aa (by rw[HR.out,HD.out];simp),by rw[HW.out] at hWb;exact hWb⟩
theorem E7 {n:Nat}(ih:Zs n):Zs (n+1):=by
 intro a vs d w B hx h hB hd;obtain⟨S,shape,cells⟩:=a;rw[IsArr] at h;obtain⟨A,c,A',c',us,rfl,hS,hf,hf',hw,hl,hl',hcs⟩:=h;obtain⟨W,hW⟩:∃W,W=w.alloc (.cells #[.int .u64 (S:Int),.slice A shape.length c,.slice A' cells.length c'] 43):=⟨_,rfl⟩;have hWs:W.heap.size=w.heap.size+1:=by rw[hW];simp
 have hWb:Below w.heap.size w W:=by rw[hW];exact Br.alloc Lr _
 have q2c:W.cell? ⟨w.heap.size,2,none⟩=some (.slice A' cells.length c'):=by rw[hW];go_simp
 have HQ2:=Qd q2c;have HW:=Qd hW;have hWl:w.heap.size<W.heap.size:=by omega
 have CT:=Qd (Qu A c shape W B (hl.below (hWb.mono hB)) (by have h1:=hf.1;have h2:=hf.2;omega));have HR:=Qd (Fw (d:=8-d) (S:=S) (sh:=shape) (cells:=cells));have hfl:=(hf'.le (by omega));have hsz0:∀a∈cells,SizeOf.sizeOf a<n:=λa ha=>by
  have h1:=List.sizeOf_lt_of_mem ha;simp only[Ba.mk.sizeOf_spec] at hx;omega
 have HC:=Qd hcs;have HL:=Qd hl';have CE:=Qd (λ(k:Nat) (hk:k<cells.length) (u:List Value) (wx:World) (hu:IsCel wx B cells[k] u) (hbx:B<=wx.heap.size)=>Zu ih cells[k] u d wx B (hsz0 _ (List.getElem_mem hk)) hu hbx hd);have HCV:Hid (Jd shape= .returned (.tuple #[.int .i64 (cnt shape).1,.int .i64 (cnt shape).2])):=Qd rfl;clear hcs hl' hl hf hf' hw hsz0 hx hW;generalize Ka (8-d) (.mk S shape cells)=R at*;generalize Jd shape=CV at*;generalize(cnt shape).1=N at*;generalize(cnt shape).2=E at*;generalize shape.length=l1 at*;have hcv:=HCV.out;subst hcv;clear HCV;cases q1:(E==0)
 ·rw[q1] at HR
  have q2:(E !=0)=true:=by simpa using q1
  go_enter Tryz.func47,Tryz.ntmps47
  go_wp2_with fail
  rw[<-HW.out];refine CT.out.mono ?_;rintro e w2 ⟨rfl,rfl⟩;go_wp2_with fail
  go_ret;exact⟨Aa (by rw[HR.out];rfl),hWb⟩
 rw[q1] at HR;have q2:(E !=0)=false:=by simpa using q1
 by_cases hN:N=(cells.length:Int)
 ·subst hN
  have q3:((cells.length:Int)!=(cells.length:Int))=false:=by simp
  have HR2:Hid (R=Sa (8-d) cells):=Qd (by rw[HR.out];simp);clear HR;go_enter Tryz.func47,Tryz.ntmps47
  go_wp2_with fail
  rw[<-HW.out];refine CT.out.mono ?_;rintro e w2 ⟨rfl,rfl⟩;go_wp2_with fail
  clear q2c;go_loopw [8,27] (λ_ i wr=>∃k:Nat,k<=cells.length/\i= .int .i64 k/\Hid (Sa (8-d) (cells.drop k)=Sa (8-d) cells)/\Below W.heap.size W wr) (λ_ i _=>cells.length-(intOf i).toNat)
  case atStart=>exact⟨0,Nat.zero_le _,rfl,Qd rfl,Br⟩
  case round=>
   obtain⟨k,hk,rfl,HT,hbel⟩:=hrel;have hsz:=hbel.size;have hb0:=hWb.trans (hbel.mono (by omega));by_cases hlt:k<cells.length
   ·obtain⟨b,off,L,kind,neg,top,bot,ch,ins,A1,c1,A2,c2,A3,c3,us3,rfl,hb,hL,HX,t1,t2,t3,t4,t5,t6,g0,g1,g2,g3,g4,g5,g6⟩:=Sd HC.out HL.out (wr:=wr) (λp hp=>hb0.cell (by omega)) hlt
    have hbx:=λo=>hbel.alloc hsz (o:=o);have CK:=Qd (λo=>CE.out k hlt _ (wr.alloc o) ((HX.out.is hL).below ((hb0.mono hB).alloc (by omega) o)) (by simp;omega));have HBX:Hid (∀o,Below W.heap.size W (wr.alloc o)):=Qd (λo=>hbel.alloc hsz o);clear hbx;have HST:=Qd (Ek (d:=8-d) hlt);generalize Oa (8-d) cells[k]=RC at*;have hk0:(0:Int)<=(k:Int):=by omega
    have hk1:(k:Int)<(cells.length:Int):=by omega
    go_wp2_with fail
    refine(CK.out _).mono ?_;rintro e w3 ⟨rfl,hb3⟩;have hb4:=(HBX.out _).trans (hb3.mono (HBX.out _).size);clear g0 g1 g2 g3 g4 g5 g6 hb3;cases RC
    ·have HZ:Hid (R=false):=Qd (by rw[HR2.out,<-HT.out,HST.out];rfl)
     go_wp2_with fail
     go_ret;exact⟨Aa (by rw[HZ.out]),hWb.trans (hb4.mono (by omega))⟩
    have HZ:Hid (Sa (8-d) (cells.drop (k+1))=Sa (8-d) cells):=Qd (by rw[<-HT.out,HST.out];rfl);go_wp2_with fail
    go_roundw
    case rel=>exact⟨k+1,by omega,by go_num,HZ,hb4⟩
    case measure=>simp[intOf];omega
   have HZ:Hid (R=true):=Qd (by rw[HR2.out,<-HT.out];exact Sl (by omega));go_wp2_with fail
   go_ret;exact⟨Aa (by rw[HZ.out]),hb0⟩
 have q3:(N !=(cells.length:Int))=true:=by simpa using hN
 have HR2:Hid (R=false):=Qd (by rw[HR.out,show(N==(cells.length:Int))=false by simpa using hN];rfl);clear hN HR;go_enter Tryz.func47,Tryz.ntmps47
 go_wp2_with fail
 rw[<-HW.out];refine CT.out.mono ?_;rintro e w2 ⟨rfl,rfl⟩;go_wp2_with fail
 go_ret;exact⟨Aa (by rw[HR2.out]),hWb⟩
theorem Bt:∀n,Zs n
 | 0=>λa vs d w B h=>by omega
 |n+1=>E7 (Bt n)
theorem Jn (a:Ba)(vs:List Value)(w:World)(B:Nat)(h:IsArr w B a vs)(hB:B<=w.heap.size):
 Calls Tryz.prog 18 #[.agg vs.toArray] w λe w'=>e= .returned (.bool (Ka 8 a))/\Below w.heap.size w w':=by
 have RP:=Qd (λ(wx:World) (hx:Below w.heap.size w wx)=>Bt _ a vs 0 wx B (Nat.lt_succ_self _) (h.below (hx.mono hB)) (Nat.le_trans hB hx.size) (by omega));obtain⟨S,A,n,c,A',n',c',rfl⟩:=h.form;clear h;have hb:∀o,Below w.heap.size w (w.alloc o):=λo=>Br.alloc Lr _;have HB:=Qd hb;clear hb;go_enter Tryz.func18,Tryz.ntmps18
 go_wp2_with fail
 refine(RP.out _ (HB.out _)).mono ?_;rintro e w2 ⟨rfl,hb2⟩;go_wp2_with fail
 go_ret;exact⟨rfl,(HB.out _).trans (hb2.mono (HB.out _).size)⟩
end
section
open Go.RowKit Ar
structure Gla (w W:World) (B g:Nat) (cf:Wb) (k:Nat) (A1 A3:Option Addr) (c1 c3:Nat) (us1:List Value):Prop where
 i:∀wx,Below W.heap.size W wx->wx.cell? ⟨g,8+k,none⟩=some (.slice A1 (cf.ins k).length c1)
 d:∀wx,Below W.heap.size W wx->wx.cell? ⟨g,24+k,none⟩=some (.slice A3 (cf.draws k).length c3)
 li:Lies w B A1 us1/\IsArrs w B (cf.ins k) us1
 f1:(cf.ins k).length<=35184372088832
 f2:(cf.draws k).length<=35184372088832
theorem Av {w W:World}{B g:Nat}{cf:Wb}{C:Array Value}(hC:IsCfg w B cf C)(h0:W.heap[g]? =some (.cells C 29 (0,0)))(hg:g<W.heap.size){k:Nat}(hk:k<8):
 ∃A1 A3 c1 c3 us1,Gla w W B g cf k A1 A3 c1 c3 us1:=by
 obtain⟨A1,c1,us1,i1,i2,i3,i4⟩:=hC.ins k hk;obtain⟨A3,c3,d1,d2,d3,d4⟩:=hC.draws k hk;have q0:∀wx,Below W.heap.size W wx->∀i v,C[i]? =some v->wx.cell? ⟨g,i,none⟩=some v:=λwx hx i v hv=>(cell_of_row wx g i _ _ _ ((hx.block g hg).trans h0)).trans hv;have b1:=i2.1;have b2:=i2.2.1;have b5:=d2.1;have b6:=d2.2.1;exact⟨A1,A3,c1,c3,us1,{i:=λwx hx=>q0 wx hx _ _ i1,d:=λwx hx=>q0 wx hx _ _ d1,li:=⟨i3,i4⟩,f1:=by omega,f2:=by omega}⟩
def Hla (cf:Wb)(w:World)(e:Ending)(w':World):Prop:=∃r:Bool,e= .returned (.bool r)/\(r=true->∀k,k<8->∀a∈cf.ins k,Dc a<=4000)/\Below w.heap.size w w'
theorem Tda (cf:Wb)(C:Array Value)(w:World)(B:Nat)(hC:IsCfg w B cf C)(hB:B<=w.heap.size):
 Calls Tryz.prog 6 #[.agg C] w (Hla cf w):=by
 obtain⟨W,hW⟩:∃W,W=w.alloc (.cells C 29):=⟨_,rfl⟩;have hWs:W.heap.size=w.heap.size+1:=by rw[hW];simp
 have hWb:Below w.heap.size w W:=by rw[hW];exact Br.alloc Lr _
 have hW0:W.heap[w.heap.size]? =some (.cells C 29 (0,0)):=by rw[hW];exact heap_alloc_new _ _
 have CH:=Qd (λ(k:Nat) (hk:k<8)=>Av hC hW0 (by omega) hk);have HW:=Qd hW;have HKB:=Qd (λ(wx:World) (hx:Below W.heap.size W wx) (p:Addr) (hp:p.block<B)=>show wx.cell? p=w.cell? p by rw[hx.cell (by omega),hWb.cell (by omega)]);clear hW hC hW0;go_enter Tryz.func6,Tryz.ntmps6
 go_wp2_with fail
 rw[<-HW.out];go_loopw [3] (λi wr=>∃k:Nat,k<=8/\i= .int .i64 k/\Hid (∀j,j<k->∀a∈cf.ins j,Dc a<=4000)/\Below W.heap.size W wr) (λi _=>8-(intOf i).toNat)
 case atStart=>exact⟨0,Nat.zero_le _,rfl,Qd (λj h=>absurd h (Nat.not_lt_zero _)),Br⟩
 case round=>
  obtain⟨k,hk,rfl,HK,hbel⟩:=hrel;by_cases hlt:k<8
  ·obtain⟨A1,A3,c1,c3,us1,hch⟩:=CH.out k hlt
   have HCH:=Qd hch;have q1:=hch.i wr hbel;have q2:=hch.d wr hbel;have f1:=hch.f1;have f2:=hch.f2;clear hch;have hk0:(0:Int)<=(k:Int):=by omega
   have hk8:(k:Int)<8:=by omega
   by_cases h20:210<(cf.ins k).length
   ·have e1:decide ((210:Int)<((cf.ins k).length:Int))=true:=decide_eq_true (by omega)
    go_wp2_with fail
    go_ret;exact⟨false,rfl,nofun,hWb.trans (hbel.mono (by omega))⟩
   have e1:decide ((210:Int)<((cf.ins k).length:Int))=false:=decide_eq_false (by omega);by_cases h60:210<(cf.draws k).length
   ·have e2:decide ((210:Int)<((cf.draws k).length:Int))=true:=decide_eq_true (by omega)
    go_wp2_with fail
    go_ret;exact⟨false,rfl,nofun,hWb.trans (hbel.mono (by omega))⟩
   have e2:decide ((210:Int)<((cf.draws k).length:Int))=false:=decide_eq_false (by omega);go_wp2_with fail
   clear q1 q2 e1 e2;go_loopw [4] (λj wr=>∃i:Nat,i<=(cf.ins k).length/\j= .int .i64 i/\Hid (∀m (h:m<(cf.ins k).length),m<i->Dc (cf.ins k)[m]<=4000)/\Below W.heap.size W wr) (λj _=>(cf.ins k).length-(intOf j).toNat)
   case atStart=>exact⟨0,Nat.zero_le _,rfl,Qd (λm _ h=>absurd h (Nat.not_lt_zero _)),hbel⟩
   case round=>
    clear hbel;obtain⟨i,hi,rfl,HI,hbel⟩:=hrel;have hsz:=hbel.size;have q1:=HCH.out.i wr hbel;by_cases hlt':i<(cf.ins k).length
    ·obtain⟨b',off',S',X,xn,xc,X',xn',xc',rfl,hb',HA,e0,e1,e2⟩:=Vb HCH.out.li.2 HCH.out.li.1 (wr:=wr) (HKB.out wr hbel) hlt'
     have GD:=Qd (Fga (cf.ins k)[i] _ wr B (HA.out.below ((hWb.mono (by omega)).trans (hbel.mono (by omega)))) (by omega));have hi0:(0:Int)<=(i:Int):=by omega
     have hi1:(i:Int)<((cf.ins k).length:Int):=by omega
     go_wp2_with fail
     refine GD.out.mono ?_;rintro e w2 ⟨r,rfl,hr,hb2⟩;have HR:=Qd hr;clear hr;have hb3:=hbel.trans (hb2.mono (by omega));cases r
     ·go_wp2_with fail
      go_ret;exact⟨false,rfl,nofun,hWb.trans (hb3.mono (by omega))⟩
     go_wp2_with fail
     go_roundw
     case rel=>exact⟨i+1,by omega,by go_num,Qd (λm h hm=>by
      by_cases e:m=i
      ·subst e;exact HR.out (by first|rfl |trivial)
      exact HI.out m h (by omega)),hb3⟩
     case measure=>simp[intOf];omega
    go_wp2_with fail
    go_roundw
    case rel=>exact⟨k+1,by omega,by go_num,Qd (λj hj a ha=>by
     by_cases e:j=k
     ·subst e
      obtain⟨m,hm,rfl⟩:=List.getElem_of_mem ha;exact HI.out m hm (by omega)
     exact HK.out j (by omega) a ha),hbel⟩
    case measure=>simp[intOf];omega
  go_wp2_with fail
  go_ret;exact⟨true,rfl,λ_ j hj=>HK.out j (by omega),hWb.trans (hbel.mono (by omega))⟩
theorem Yp (c:Wb):(Ri c=true/\0<=c.fuel/\c.fuel<=100000/\0<=c.quota/\c.quota<=65536/\0<=c.depth/\c.depth<=64)\/(Ri c=false/\(c.fuel<0\/(0<=c.fuel/\100000<c.fuel)\/(0<=c.fuel/\c.fuel<=100000/\c.quota<0)\/(0<=c.fuel/\c.fuel<=100000/\0<=c.quota/\65536<c.quota)\/(0<=c.fuel/\c.fuel<=100000/\0<=c.quota/\c.quota<=65536/\c.depth<0)\/(0<=c.fuel/\c.fuel<=100000/\0<=c.quota/\c.quota<=65536/\0<=c.depth/\64<c.depth))):=by
 have e:Ri c=decide (0<=c.fuel/\c.fuel<=100000/\0<=c.quota/\c.quota<=65536/\0<=c.depth/\c.depth<=64):=by
  unfold Ri;rw[Bool.eq_iff_iff];simp only[Bool.and_eq_true,decide_eq_true_eq];omega
 rw[e];by_cases h:0<=c.fuel/\c.fuel<=100000/\0<=c.quota/\c.quota<=65536/\0<=c.depth/\c.depth<=64
 ·exact .inl ⟨decide_eq_true h,h⟩
 exact .inr ⟨decide_eq_false h,by omega⟩
theorem Uda (a:Ba):((Wd a:Int)!=0)= !(Wd a==0):=by
 by_cases e:Wd a=0
 ·rw[e];rfl
 have e1:((Wd a:Int)!=0)=true:=bne_iff_ne.2 (by omega);have e2:(Wd a==0)=false:=beq_eq_false_iff_ne.2 e;rw[e1,e2];rfl
theorem Jy (cf:Wb)(C:Array Value)(w:World)(B:Nat)(hC:IsCfg w B cf C)(hB:B<=w.heap.size):
 Calls Tryz.prog 9 #[.agg C] w λe w'=>e= .returned (.bool (Jb cf))/\Below w.heap.size w w':=by
 obtain⟨W,hW⟩:∃W,W=w.alloc (.cells C 29):=⟨_,rfl⟩;have hWs:W.heap.size=w.heap.size+1:=by rw[hW];simp
 have hWb:Below w.heap.size w W:=by rw[hW];exact Br.alloc Lr _
 have hW0:W.heap[w.heap.size]? =some (.cells C 29 (0,0)):=by rw[hW];exact heap_alloc_new _ _
 have CH:=Qd (λ(k:Nat) (hk:k<8)=>Av hC hW0 (by omega) hk);have p33:W.cell? ⟨w.heap.size,33,none⟩=some (.int .i64 cf.fuel):=(cell_of_row W _ 33 _ _ _ hW0).trans hC.fuel;have p34:W.cell? ⟨w.heap.size,34,none⟩=some (.int .i64 cf.quota):=(cell_of_row W _ 34 _ _ _ hW0).trans hC.quota;have p35:W.cell? ⟨w.heap.size,35,none⟩=some (.int .i64 cf.depth):=(cell_of_row W _ 35 _ _ _ hW0).trans hC.depth;rw[hW] at p33 p34 p35;have HW:=Qd hW;have HKB:=Qd (λ(wx:World) (hx:Below W.heap.size W wx) (p:Addr) (hp:p.block<B)=>show wx.cell? p=w.cell? p by rw[hx.cell (by omega),hWb.cell (by omega)]);have HR:Hid (Jb cf=(Ri cf&&Ec cf 0)):=Qd rfl;have HBC:=Qd (Yp cf);clear hW hC hW0;generalize Jb cf=R at*;rcases HBC.out with⟨hbb,b1,b2,b3,b4,b5,b6⟩ |⟨hbb,hbad⟩
 ·have HR2:Hid (R=Ec cf 0):=Qd (by rw[HR.out,hbb];rfl)
  clear hbb HBC HR;go_enter Tryz.func9,Tryz.ntmps9
  go_wp2_with fail
  rw[<-HW.out];clear p33 p34 p35 b1 b2 b3 b4 b5 b6;go_loopw [3] (λi wr=>∃k:Nat,k<=8/\i= .int .i64 k/\Hid (Ec cf k=Ec cf 0)/\Below W.heap.size W wr) (λi _=>8-(intOf i).toNat)
  case atStart=>exact⟨0,Nat.zero_le _,rfl,Qd rfl,Br⟩
  case round=>
   obtain⟨k,hk,rfl,HT,hbel⟩:=hrel;by_cases hlt:k<8
   ·obtain⟨A1,A3,c1,c3,us1,hch⟩:=CH.out k hlt
    have HCH:=Qd hch;have q1:=hch.i wr hbel;have q2:=hch.d wr hbel;have f1:=hch.f1;have f2:=hch.f2;have HST:Hid (Ec cf 0=(Cl cf k&&Ec cf (k+1))):=Qd (by rw[<-HT.out,Rs hlt]);have HRR:Hid (Cl cf k=(decide ((cf.ins k).length<=200)&&decide ((cf.draws k).length<=200)&&(cf.ins k).all Cd)):=Qd rfl;clear hch;have hk0:(0:Int)<=(k:Int):=by omega
    have hk8:(k:Int)<8:=by omega
    by_cases h20:200<(cf.ins k).length
    ·have e1:decide ((200:Int)<((cf.ins k).length:Int))=true:=decide_eq_true (by omega)
     have HZ:Hid (R=false):=Qd (by rw[HR2.out,HST.out,HRR.out,decide_eq_false (by omega:¬(cf.ins k).length<=200)];rfl);go_wp2_with fail
     go_ret;exact⟨Aa (by rw[HZ.out]),hWb.trans (hbel.mono (by omega))⟩
    have e1:decide ((200:Int)<((cf.ins k).length:Int))=false:=decide_eq_false (by omega);by_cases h60:200<(cf.draws k).length
    ·have e2:decide ((200:Int)<((cf.draws k).length:Int))=true:=decide_eq_true (by omega)
     have HZ:Hid (R=false):=Qd (by rw[HR2.out,HST.out,HRR.out,decide_eq_false (by omega:¬(cf.draws k).length<=200)];simp);go_wp2_with fail
     go_ret;exact⟨Aa (by rw[HZ.out]),hWb.trans (hbel.mono (by omega))⟩
    have e2:decide ((200:Int)<((cf.draws k).length:Int))=false:=decide_eq_false (by omega);have HRR2:Hid (Cl cf k=(cf.ins k).all Cd):=Qd (by rw[HRR.out,decide_eq_true (by omega:(cf.ins k).length<=200),decide_eq_true (by omega:(cf.draws k).length<=200)];rfl);clear HRR;go_wp2_with fail
    clear q1 q2 e1 e2;go_loopw [4] (λj wr=>∃i:Nat,i<=(cf.ins k).length/\j= .int .i64 i/\Hid (((cf.ins k).drop i).all Cd=(cf.ins k).all Cd)/\Below W.heap.size W wr) (λj _=>(cf.ins k).length-(intOf j).toNat)
    case atStart=>exact⟨0,Nat.zero_le _,rfl,Qd rfl,hbel⟩
    case round=>
     clear hbel;obtain⟨i,hi,rfl,HTI,hbel⟩:=hrel;have hsz:=hbel.size;have q1:=HCH.out.i wr hbel;by_cases hlt':i<(cf.ins k).length
     ·obtain⟨b',off',S',X,xn,xc,X',xn',xc',rfl,hb',HA,e0,e1,e2⟩:=Vb HCH.out.li.2 HCH.out.li.1 (wr:=wr) (HKB.out wr hbel) hlt'
      have HSI:=Qd (Uz hlt');have HI2:=Qd HCH.out.i;have RG:=Qd (Qi _ (cf.ins k)[i] _ 8 wr B (Nat.lt_succ_self _) (HA.out.below ((hWb.mono (by omega)).trans (hbel.mono (by omega)))) (by omega) (by omega));have TG:=Qd (λ(wx:World) (hx:Below W.heap.size W wx)=>Wz _ (cf.ins k)[i] _ wx B (Nat.lt_succ_self _) (HA.out.below ((hWb.mono (by omega)).trans (hx.mono (by omega)))) (by have:=hx.size;omega));have HTN:=Qd (Uda (cf.ins k)[i]);have hbl:b'<wr.heap.size:=by omega
      generalize Ka 8 (cf.ins k)[i]=RA at*;generalize(Wd (cf.ins k)[i]==0)=TB at*;generalize Wd (cf.ins k)[i]=T at*;have hi0:(0:Int)<=(i:Int):=by omega
      have hi1:(i:Int)<((cf.ins k).length:Int):=by omega
      go_wp2_with fail
      refine RG.out.mono ?_;rintro e w2 ⟨rfl,hb2⟩;have hb3:=hbel.trans (hb2.mono (by omega));cases RA
      ·have HZ:Hid (R=false):=Qd (by rw[HR2.out,HST.out,HRR2.out,<-HTI.out,HSI.out];rfl)
       go_wp2_with fail
       go_ret;exact⟨Aa (by rw[HZ.out]),hWb.trans (hb3.mono (by omega))⟩
      have g0:w2.cell? ⟨b',off'+i*3,none⟩=_:=(hb2.cell (p:=⟨b',off'+i*3,none⟩) hbl).trans e0;have g1:w2.cell? ⟨b',off'+i*3+1,none⟩=_:=(hb2.cell (p:=⟨b',off'+i*3+1,none⟩) hbl).trans e1;have g2:w2.cell? ⟨b',off'+i*3+2,none⟩=_:=(hb2.cell (p:=⟨b',off'+i*3+2,none⟩) hbl).trans e2;clear e0 e1 e2 q1;have q1:=HI2.out w2 hb3;have TG2:=Qd (TG.out w2 hb3);go_wp2_with fail
      refine TG2.out.mono ?_;rintro e w4 ⟨rfl,hb4⟩;have hb5:=hb3.trans (hb4.mono hb3.size);clear q1 g0 g1 g2;cases TB
      ·have qt:((T:Int)!=0)=true:=HTN.out
       have HZ:Hid (R=false):=Qd (by rw[HR2.out,HST.out,HRR2.out,<-HTI.out,HSI.out];rfl);go_wp2_with fail
       go_ret;exact⟨Aa (by rw[HZ.out]),hWb.trans (hb5.mono (by omega))⟩
      have qt:((T:Int)!=0)=false:=HTN.out;have HZ:Hid (((cf.ins k).drop (i+1)).all Cd=(cf.ins k).all Cd):=Qd (by rw[<-HTI.out,HSI.out];rfl);go_wp2_with fail
      go_roundw
      case rel=>exact⟨i+1,by omega,by go_num,HZ,hb5⟩
      case measure=>simp[intOf];omega
     have HZ:Hid (Ec cf (k+1)=Ec cf 0):=Qd (by rw[HST.out,HRR2.out,<-HTI.out,B8 (by omega)];rfl);go_wp2_with fail
     go_roundw
     case rel=>exact⟨k+1,by omega,by go_num,HZ,hbel⟩
     case measure=>simp[intOf];omega
   obtain rfl:k=8:=by omega
   have HZ:Hid (R=true):=Qd (by rw[HR2.out,<-HT.out,Gw]);go_wp2_with fail
   go_ret;exact⟨Aa (by rw[HZ.out]),hWb.trans (hbel.mono (by omega))⟩
 have HZ:Hid (R=false):=Qd (by rw[HR.out,hbb];rfl);clear hbb HBC HR;rcases hbad with h |h |h |h |h |h
 all_goals
  go_enter Tryz.func9,Tryz.ntmps9
  go_wp2_with fail
  go_ret;exact⟨Aa (by rw[HZ.out]),by rw[HW.out] at hWb;exact hWb⟩
theorem Bi (cf:Wb)(C:Array Value)(w:World)(B:Nat)(hC:IsCfg w B cf C)(hB:B<=w.heap.size):
 Calls Tryz.prog 8 #[.agg C] w λe w'=>e= .returned (.bool (Jb cf))/\Below w.heap.size w w':=by
 obtain⟨W,hW⟩:∃W,W=w.alloc (.cells C 29):=⟨_,rfl⟩;have hWs:W.heap.size=w.heap.size+1:=by rw[hW];simp
 have hWb:Below w.heap.size w W:=by rw[hW];exact Br.alloc Lr _
 have hW0:W.heap[w.heap.size]? =some (.cells C 29 (0,0)):=by rw[hW];exact heap_alloc_new _ _
 have CH:=Qd (λ(k:Nat) (hk:k<8)=>Av hC hW0 (by omega) hk);have p33:W.cell? ⟨w.heap.size,33,none⟩=some (.int .i64 cf.fuel):=(cell_of_row W _ 33 _ _ _ hW0).trans hC.fuel;have p34:W.cell? ⟨w.heap.size,34,none⟩=some (.int .i64 cf.quota):=(cell_of_row W _ 34 _ _ _ hW0).trans hC.quota;have p35:W.cell? ⟨w.heap.size,35,none⟩=some (.int .i64 cf.depth):=(cell_of_row W _ 35 _ _ _ hW0).trans hC.depth;rw[hW] at p33 p34 p35;have HW:=Qd hW;have HKB:=Qd (λ(wx:World) (hx:Below W.heap.size W wx) (p:Addr) (hp:p.block<B)=>show wx.cell? p=w.cell? p by rw[hx.cell (by omega),hWb.cell (by omega)]);have HR:Hid (Jb cf=(Ri cf&&Ec cf 0)):=Qd rfl;have HBC:=Qd (Yp cf);clear hW hC hW0;generalize Jb cf=R at*;rcases HBC.out with⟨hbb,b1,b2,b3,b4,b5,b6⟩ |⟨hbb,hbad⟩
 ·have HR2:Hid (R=Ec cf 0):=Qd (by rw[HR.out,hbb];rfl)
  clear hbb HBC HR;go_enter Tryz.func8,Tryz.ntmps8
  go_wp2_with fail
  rw[<-HW.out];clear p33 p34 p35 b1 b2 b3 b4 b5 b6;go_loopw [3,5,34] (λ_ _ i wr=>∃k:Nat,k<=8/\i= .int .i64 k/\Hid (Ec cf k=Ec cf 0)/\Below W.heap.size W wr) (λ_ _ i _=>8-(intOf i).toNat)
  case atStart=>exact⟨0,Nat.zero_le _,rfl,Qd rfl,Br⟩
  case round=>
   obtain⟨k,hk,rfl,HT,hbel⟩:=hrel;by_cases hlt:k<8
   ·obtain⟨A1,A3,c1,c3,us1,hch⟩:=CH.out k hlt
    have HCH:=Qd hch;have q1:=hch.i wr hbel;have q2:=hch.d wr hbel;have f1:=hch.f1;have f2:=hch.f2;have HST:Hid (Ec cf 0=(Cl cf k&&Ec cf (k+1))):=Qd (by rw[<-HT.out,Rs hlt]);have HRR:Hid (Cl cf k=(decide ((cf.ins k).length<=200)&&decide ((cf.draws k).length<=200)&&(cf.ins k).all Cd)):=Qd rfl;clear hch;have hk0:(0:Int)<=(k:Int):=by omega
    have hk8:(k:Int)<8:=by omega
    by_cases h20:200<(cf.ins k).length
    ·have e1:decide ((200:Int)<((cf.ins k).length:Int))=true:=decide_eq_true (by omega)
     have HZ:Hid (R=false):=Qd (by rw[HR2.out,HST.out,HRR.out,decide_eq_false (by omega:¬(cf.ins k).length<=200)];rfl);go_wp2_with fail
     go_ret;exact⟨Aa (by rw[HZ.out]),hWb.trans (hbel.mono (by omega))⟩
    have e1:decide ((200:Int)<((cf.ins k).length:Int))=false:=decide_eq_false (by omega);by_cases h60:200<(cf.draws k).length
    ·have e2:decide ((200:Int)<((cf.draws k).length:Int))=true:=decide_eq_true (by omega)
     have HZ:Hid (R=false):=Qd (by rw[HR2.out,HST.out,HRR.out,decide_eq_false (by omega:¬(cf.draws k).length<=200)];simp);go_wp2_with fail
     go_ret;exact⟨Aa (by rw[HZ.out]),hWb.trans (hbel.mono (by omega))⟩
    have e2:decide ((200:Int)<((cf.draws k).length:Int))=false:=decide_eq_false (by omega);have HRR2:Hid (Cl cf k=(cf.ins k).all Cd):=Qd (by rw[HRR.out,decide_eq_true (by omega:(cf.ins k).length<=200),decide_eq_true (by omega:(cf.draws k).length<=200)];rfl);clear HRR;go_wp2_with fail
    clear q1 q2 e1 e2;go_loopw [5,56] (λ_ j wr=>∃i:Nat,i<=(cf.ins k).length/\j= .int .i64 i/\Hid (((cf.ins k).drop i).all Cd=(cf.ins k).all Cd)/\Below W.heap.size W wr) (λ_ j _=>(cf.ins k).length-(intOf j).toNat)
    case atStart=>exact⟨0,Nat.zero_le _,rfl,Qd rfl,hbel⟩
    case round=>
     clear hbel;obtain⟨i,hi,rfl,HTI,hbel⟩:=hrel;have hsz:=hbel.size;have q1:=HCH.out.i wr hbel;by_cases hlt':i<(cf.ins k).length
     ·obtain⟨b',off',S',X,xn,xc,X',xn',xc',rfl,hb',HA,e0,e1,e2⟩:=Vb HCH.out.li.2 HCH.out.li.1 (wr:=wr) (HKB.out wr hbel) hlt'
      have HSI:=Qd (Uz hlt');have HI2:=Qd HCH.out.i;have hbx:∀o,Below W.heap.size W (wr.alloc o):=λo=>hbel.alloc hsz o;have RG:=Qd (λo=>Jn (cf.ins k)[i] _ (wr.alloc o) B (HA.out.below ((hWb.mono (by omega)).trans ((hbx o).mono (by omega)))) (by have:=(hbx o).size;omega));have TG:=Qd (λ(wx:World) (hx:Below W.heap.size W wx)=>Ada _ (cf.ins k)[i] _ wx B (Nat.lt_succ_self _) (HA.out.below ((hWb.mono (by omega)).trans (hx.mono (by omega)))) (by have:=hx.size;omega));have HBX:=Qd hbx;clear hbx;have HTN:=Qd (Uda (cf.ins k)[i]);have hbl:b'<wr.heap.size:=by omega
      generalize Ka 8 (cf.ins k)[i]=RA at*;generalize(Wd (cf.ins k)[i]==0)=TB at*;generalize Wd (cf.ins k)[i]=T at*;have hi0:(0:Int)<=(i:Int):=by omega
      have hi1:(i:Int)<((cf.ins k).length:Int):=by omega
      go_wp2_with fail
      clear q1 e0 e1 e2;refine(RG.out _).mono ?_;rintro e w2 ⟨rfl,hb2⟩;have hb3:=(HBX.out _).trans (hb2.mono (HBX.out _).size);cases RA
      ·have HZ:Hid (R=false):=Qd (by rw[HR2.out,HST.out,HRR2.out,<-HTI.out,HSI.out];rfl)
       go_wp2_with fail
       go_ret;exact⟨Aa (by rw[HZ.out]),hWb.trans (hb3.mono (by omega))⟩
      have hc:∀o,w2.cell? ⟨wr.heap.size,o,none⟩=(wr.alloc (.cells #[.int .u64 (S':Int),.slice X xn xc,.slice X' xn' xc'] 43)).cell? ⟨wr.heap.size,o,none⟩:=λo=>hb2.cell (p:=⟨wr.heap.size,o,none⟩) (by show wr.heap.size<_;simp);have TG2:=Qd (TG.out w2 hb3);go_wp2_with fail
      refine TG2.out.mono ?_;rintro e w4 ⟨rfl,hb4⟩;have hb5:=hb3.trans (hb4.mono hb3.size);clear hc;cases TB
      ·have qt:((T:Int)!=0)=true:=HTN.out
       have HZ:Hid (R=false):=Qd (by rw[HR2.out,HST.out,HRR2.out,<-HTI.out,HSI.out];rfl);go_wp2_with fail
       go_ret;exact⟨Aa (by rw[HZ.out]),hWb.trans (hb5.mono (by omega))⟩
      have qt:((T:Int)!=0)=false:=HTN.out;have HZ:Hid (((cf.ins k).drop (i+1)).all Cd=(cf.ins k).all Cd):=Qd (by rw[<-HTI.out,HSI.out];rfl);go_wp2_with fail
      go_roundw
      case rel=>exact⟨i+1,by omega,by go_num,HZ,hb5⟩
      case measure=>simp[intOf];omega
     have HZ:Hid (Ec cf (k+1)=Ec cf 0):=Qd (by rw[HST.out,HRR2.out,<-HTI.out,B8 (by omega)];rfl);go_wp2_with fail
     go_roundw
     case rel=>exact⟨k+1,by omega,by go_num,HZ,hbel⟩
     case measure=>simp[intOf];omega
   obtain rfl:k=8:=by omega
   have HZ:Hid (R=true):=Qd (by rw[HR2.out,<-HT.out,Gw]);go_wp2_with fail
   go_ret;exact⟨Aa (by rw[HZ.out]),hWb.trans (hbel.mono (by omega))⟩
 have HZ:Hid (R=false):=Qd (by rw[HR.out,hbb];rfl);clear hbb HBC HR;rcases hbad with h |h |h |h |h |h
 all_goals
  go_enter Tryz.func8,Tryz.ntmps8
  go_wp2_with fail
  go_ret;exact⟨Aa (by rw[HZ.out]),by rw[HW.out] at hWb;exact hWb⟩
end
section
open Go.RowKit Ar
theorem Qw (l:List Int)(A:Option Addr)(c:Nat)(w:World)(B:Nat)(hl:Lies w B A (Ya l))(hB:B<=w.heap.size)(hn:l.length<=1000000)(hw:Xa l)(hT:Ten20 w):
 Calls Tryz.prog 29 #[.slice A l.length c] w λe w'=>e= .returned (sv (Ga l))/\Below w.heap.size w w':=by
 obtain⟨i0,hi,hz0,hz1,hz2⟩:=info_parts Ow;have HA:=Qd hl;have HW64:=Qd hw;have IT:=Qd (λ(wx:World) (hx:Below w.heap.size w wx) (n:Int) (h:n∈l)=>Tryz.strconv_Itoa n (hw n h).1 (hw n h).2 wx (hT.below hx).tab);have HLEN:=Qd (Fc hw);clear hl hw hT;go_enter Tryz.func29,Tryz.ntmps29
 go_wp2_with (at_make;refine Sb _ rfl _ _ 71 rfl 9 i0 (.string ⟨#[]⟩) Tryz.underlying71 hi hz0 hz1 rfl .i64 .i64 _ _ l.length l.length rfl rfl rfl rfl Lr (by rw[hz2];omega) (by omega) w.heap.size w Br Lr ?_;intro w1 hblk1 hbel1 _ hlt1)
 obtain⟨g,hg⟩:∃g,g=w.heap.size:=⟨_,rfl⟩;rw[<-hg] at hblk1 hbel1 hB hlt1 IT⊢;have HG:=Qd hg;clear hg;have hb0:Blk w1 g 9 (Mg l 0):=by unfold Mg sv;simpa using hblk1
 clear hblk1;go_loopw [4,5,11] (λ_ _ i wr=>∃k:Nat,k<=l.length/\i= .int .i64 k/\Blk wr g 9 (Mg l k)/\Below g w wr) (λ_ _ i _=>l.length-(intOf i).toNat)
 case atStart=>exact⟨0,Nat.zero_le _,rfl,hb0,hbel1⟩
 case round=>
  clear hb0 hbel1 hlt1;obtain⟨k,hk,rfl,hblk,hbel⟩:=hrel;have hgl:=hblk.lt;by_cases hlt:k<l.length
  ·obtain⟨b,off,rfl,hb,g0⟩:=Lc HA.out hlt
   have g1:wr.cell? ⟨b,off+k,none⟩=some (.int .i64 l[k]):=(hbel.cell (p:=⟨b,off+k,none⟩) (show b<g by omega)).trans g0;have IT1:=Qd (IT.out wr hbel l[k] (List.getElem_mem hlt));have HSET:=Qd (S0 hlt);have HGET:=Qd (U0 hlt);clear g0;generalize l[k]=x at*;have hk0:(0:Int)<=(k:Int):=by omega
   have hk1:(k:Int)<(l.length:Int):=by omega
   have HBLK:=Qd hblk;have HBEL:=Qd hbel;clear hblk hbel;go_wp2_with fail
   refine IT1.out.mono ?_;rintro e w2 ⟨rfl,kk,os,hw2⟩;have hb2:Below wr.heap.size wr w2:=by rw[hw2];exact Lib.below_grow _ _ Lr _ _
   clear hw2;have hblk2:=HBLK.out.keep hb2 hgl;have hc2:=hblk2.cell HGET.out;have hf2:=hblk2.frozen k;have HB2:=Qd hb2;have HK2:=Qd hblk2;clear hb2 hblk2 g1;go_wp2_with fail
   go_roundw
   case rel=>exact⟨k+1,by omega,by go_num,by rw[<-HSET.out];exact HK2.out.set_ k _,(HBEL.out.trans (HB2.out.mono (by omega))).setCell (p:=⟨g,k,none⟩) Lr _⟩
   case measure=>simp[intOf];omega
  have hke:k=l.length:=by omega
  have hbw:Below w.heap.size w wr:=by rw[<-HG.out];exact hbel
  rcases Nat.eq_zero_or_pos l.length with h0 |h0
  ·have hx:Ga l=[]:=by rw[List.eq_nil_of_length_eq_zero h0];rfl
   have HX:=Qd hx;have q0:(l.length:Int)=0:=by omega
   have JN:=Qd (Tryz.strings_Join_none (some ⟨g,0,none⟩) l.length ⟨#[32]⟩ wr);rw[h0] at JN;clear hblk;generalize l.length=n at*;subst h0;go_wp2_with (go_at_call 56;refine JN.out.mono ?_;rintro e w' ⟨rfl,rfl⟩)
   go_ret;exact⟨by rw[HX.out];rfl,hbw⟩
  have hj:=Tryz.strings_Join g 0 l.length ((l.map Lib.itoa).map λs=>(⟨s.toArray⟩:ByteArray)) ⟨#[32]⟩ wr (λj x hx=>by
   rw[Nat.zero_add];refine hblk.cell ?_;rw[V0 hke,List.getElem?_map];rw[List.getElem?_map,List.getElem?_map] at hx;obtain⟨y,hy,rfl⟩:=Option.map_eq_some_iff.1 hx;obtain⟨z,hz,rfl⟩:=Option.map_eq_some_iff.1 hy;rw[hz];rfl) hgl (by simp;omega) (by simp) (by
   have:=HLEN.out;unfold Ga at this;rw[List.map_map,show((λx:ByteArray=>x.data.toList)∘λs:List UInt8=>(⟨s.toArray⟩:ByteArray))=id from rfl,List.map_id];exact Nat.le_trans this (by omega))
  rw[List.length_map,List.length_map,List.map_map,show((λx:ByteArray=>x.data.toList)∘λs:List UInt8=>(⟨s.toArray⟩:ByteArray))=id from rfl,List.map_id] at hj;have HJ2:=Qd hj;clear hj hblk;go_wp2_with (go_at_call 56;refine HJ2.out.mono ?_;rintro e w' ⟨rfl,hbj⟩)
  go_ret;exact⟨rfl,hbw.trans (hbj.mono hbw.size)⟩
end
section
open Go.RowKit Ar
theorem F7 (l:List Int)(A:Option Addr)(c:Nat)(w:World)(B:Nat)(hl:Lies w B A (Ya l))(hB:B<=w.heap.size)(hn:l.length<=1000000)(hw:Xa l)(hT:Ten20 w):
 Calls Tryz.prog 58 #[.slice A l.length c] w λe w'=>e= .returned (sv (Ga l))/\Below w.heap.size w w':=by
 obtain⟨i0,hi,hz0,hz1,hz2⟩:=info_parts Ow;have HA:=Qd hl;have HW64:=Qd hw;have IT:=Qd (λ(wx:World) (hx:Below w.heap.size w wx) (n:Int) (h:n∈l)=>Tryz.strconv_Itoa n (hw n h).1 (hw n h).2 wx (hT.below hx).tab);have HLEN:=Qd (Fc hw);clear hl hw hT;go_enter Tryz.func58,Tryz.ntmps58
 go_wp2_with (at_make;refine Sb _ rfl _ _ 71 rfl 9 i0 (.string ⟨#[]⟩) Tryz.underlying71 hi hz0 hz1 rfl .i64 .i64 _ _ l.length l.length rfl rfl rfl rfl Lr (by rw[hz2];omega) (by omega) w.heap.size w Br Lr ?_;intro w1 hblk1 hbel1 _ hlt1)
 obtain⟨g,hg⟩:∃g,g=w.heap.size:=⟨_,rfl⟩;rw[<-hg] at hblk1 hbel1 hB hlt1 IT⊢;have HG:=Qd hg;clear hg;have hb0:Blk w1 g 9 (Mg l 0):=by unfold Mg sv;simpa using hblk1
 clear hblk1;go_loopw [4,5,11] (λ_ _ i wr=>∃k:Nat,k<=l.length/\i= .int .i64 k/\Blk wr g 9 (Mg l k)/\Below g w wr) (λ_ _ i _=>l.length-(intOf i).toNat)
 case atStart=>exact⟨0,Nat.zero_le _,rfl,hb0,hbel1⟩
 case round=>
  clear hb0 hbel1 hlt1;obtain⟨k,hk,rfl,hblk,hbel⟩:=hrel;have hgl:=hblk.lt;by_cases hlt:k<l.length
  ·obtain⟨b,off,rfl,hb,g0⟩:=Lc HA.out hlt
   have g1:wr.cell? ⟨b,off+k,none⟩=some (.int .i64 l[k]):=(hbel.cell (p:=⟨b,off+k,none⟩) (show b<g by omega)).trans g0;have IT1:=Qd (IT.out wr hbel l[k] (List.getElem_mem hlt));have HSET:=Qd (S0 hlt);have HGET:=Qd (U0 hlt);clear g0;generalize l[k]=x at*;have hk0:(0:Int)<=(k:Int):=by omega
   have hk1:(k:Int)<(l.length:Int):=by omega
   have HBLK:=Qd hblk;have HBEL:=Qd hbel;clear hblk hbel;go_wp2_with fail
   refine IT1.out.mono ?_;rintro e w2 ⟨rfl,kk,os,hw2⟩;have hb2:Below wr.heap.size wr w2:=by rw[hw2];exact Lib.below_grow _ _ Lr _ _
   clear hw2;have hblk2:=HBLK.out.keep hb2 hgl;have hc2:=hblk2.cell HGET.out;have hf2:=hblk2.frozen k;have HB2:=Qd hb2;have HK2:=Qd hblk2;clear hb2 hblk2 g1;go_wp2_with fail
   go_roundw
   case rel=>exact⟨k+1,by omega,by go_num,by rw[<-HSET.out];exact HK2.out.set_ k _,(HBEL.out.trans (HB2.out.mono (by omega))).setCell (p:=⟨g,k,none⟩) Lr _⟩
   case measure=>simp[intOf];omega
  have hke:k=l.length:=by omega
  have hbw:Below w.heap.size w wr:=by rw[<-HG.out];exact hbel
  rcases Nat.eq_zero_or_pos l.length with h0 |h0
  ·have hx:Ga l=[]:=by rw[List.eq_nil_of_length_eq_zero h0];rfl
   have HX:=Qd hx;have q0:(l.length:Int)=0:=by omega
   have JN:=Qd (Tryz.strings_Join_none (some ⟨g,0,none⟩) l.length ⟨#[32]⟩ wr);rw[h0] at JN;clear hblk;generalize l.length=n at*;subst h0;go_wp2_with (go_at_call 56;refine JN.out.mono ?_;rintro e w' ⟨rfl,rfl⟩)
   go_ret;exact⟨by rw[HX.out];rfl,hbw⟩
  have hj:=Tryz.strings_Join g 0 l.length ((l.map Lib.itoa).map λs=>(⟨s.toArray⟩:ByteArray)) ⟨#[32]⟩ wr (λj x hx=>by
   rw[Nat.zero_add];refine hblk.cell ?_;rw[V0 hke,List.getElem?_map];rw[List.getElem?_map,List.getElem?_map] at hx;obtain⟨y,hy,rfl⟩:=Option.map_eq_some_iff.1 hx;obtain⟨z,hz,rfl⟩:=Option.map_eq_some_iff.1 hy;rw[hz];rfl) hgl (by simp;omega) (by simp) (by
   have:=HLEN.out;unfold Ga at this;rw[List.map_map,show((λx:ByteArray=>x.data.toList)∘λs:List UInt8=>(⟨s.toArray⟩:ByteArray))=id from rfl,List.map_id];exact Nat.le_trans this (by omega))
  rw[List.length_map,List.length_map,List.map_map,show((λx:ByteArray=>x.data.toList)∘λs:List UInt8=>(⟨s.toArray⟩:ByteArray))=id from rfl,List.map_id] at hj;have HJ2:=Qd hj;clear hj hblk;go_wp2_with (go_at_call 56;refine HJ2.out.mono ?_;rintro e w' ⟨rfl,hbj⟩)
  go_ret;exact⟨rfl,hbw.trans (hbj.mono hbw.size)⟩
theorem Waa:∀{l:List Int},Sp.Sh l->Ga l=Sp.lens l:=by
 intro l h;unfold Ga Sp.lens
 congr 1
 refine List.map_congr_left (λx hx=>?_);have:=Lib.itoa_nonneg x.toNat;rwa[Int.toNat_of_nonneg (h x hx).1] at this
end
open Go.RowKit
theorem Zga:(Tryz.prog.info? 9).map (λi=>(i.zero,i.size,i.bytes))=some (some (.string ⟨#[]⟩),1,16):=by kernel_rfl
def Za (s:List UInt8):Value:= .string ⟨s.toArray⟩
theorem Ija (a b:List UInt8):(⟨a.toArray⟩:ByteArray)++(⟨b.toArray⟩:ByteArray)=⟨(a++b).toArray⟩:=by
 apply ByteArray.ext
 simp
theorem M1 (a b:List UInt8):((⟨a.toArray⟩:ByteArray)++(⟨#[45]⟩:ByteArray))++(⟨b.toArray⟩:ByteArray)=⟨(a++45::b).toArray⟩:=by
 apply ByteArray.ext
 simp
theorem Ct (a:List UInt8):((⟨#[123]⟩:ByteArray)++(⟨a.toArray⟩:ByteArray))++(⟨#[125]⟩:ByteArray)=⟨(123::(a++[125])).toArray⟩:=by
 apply ByteArray.ext
 simp
theorem Wg (l:Nat)(w:World)(hl:l<18446744073709551616)(hT:Tab64 w)(hB:0<w.heap.size):
 Calls Tryz.prog 30 #[.int .u64 (l:Int)] w λe w'=>e= .returned (Za (Lab.text l))/\Below w.heap.size w w':=by
 obtain⟨i0,hi,hz0,hz1,hz2⟩:=info_parts Zga;have hlen:=Lab.tags_len l;have HT:=Qd hT;clear hT;go_enter Tryz.func30,Tryz.ntmps30
 go_wp2_with (first
  |(go_at_call 57;refine(Nga _ _ hl HT.out hB).mono ?_;rintro e w1 ⟨v,rfl,hown1,hb1⟩;obtain⟨A,c,rfl,_,_⟩:=Na hown1;have HL:=Qd (Lies.of_own hown1);clear hown1)
  |(at_make;refine wpList_make_own _ rfl _ _ 71 rfl w1.heap.size 9 i0 (.string ⟨#[]⟩) 1 Tryz.underlying71 hi hz0 hz1 .i64 .i64 _ (Lab.tags l).length rfl rfl rfl (by rw[hz2];omega) (by unfold maxLen;omega) Lr ?_;intro w0 hown0 hgrow0))
 have hbel0:Below w1.heap.size w1 w0:=Br.grown hgrow0 Lr (by simp);clear hgrow0;have hbB:w.heap.size<=w1.heap.size:=hb1.size;go_loopw [4,5] (λv i wr=>∃(k p:Nat) (ps:List (List UInt8)),k<=(Lab.tags l).length/\ps.length<=k/\i= .int .i64 (k:Int)/\Hid ((Lab.tags l).drop k=Lab.tagsFrom l p/\ps++Lab.pieces l p=Lab.pieces l 0)/\
  wr.ownsRow w1.heap.size 9 1 v ps.length (ps.map Za)/\Below w1.heap.size w1 wr) (λ_ i _=>(Lab.tags l).length-(intOf i).toNat)
 case atStart=>exact⟨0,0,[],Nat.zero_le _,Lr,rfl,Qd ⟨Lab.tags_from l,rfl⟩,hown0,hbel0⟩
 case round=>
  clear hown0 hbel0;obtain⟨i,p,ps,hk,hps,rfl,H,hown,hbel⟩:=hrel;by_cases hlt:i<(Lab.tags l).length
  ·obtain⟨t,r,hcons⟩:∃t r,Lab.tagsFrom l p=t::r:=by
    cases e:Lab.tagsFrom l p with
    |nil=>have:=H.out.1;rw[e] at this;have:=List.drop_eq_nil_iff.1 this;omega
    |cons t r=>exact⟨t,r,rfl⟩
   obtain⟨ht64,htb,htf⟩:=Lab.tagsFrom_head hcons;have HD:Hid ((Lab.tags l).drop i=Lab.tagsFrom l t):=by rw[htf,<-hcons];exact H.out.1
   have HP:Hid (ps++(Lab.piece (t,Lab.last l t)++Lab.pieces l (Lab.last l t+1))=Lab.pieces l 0):=by rw[<-Lab.pieces_cons hcons];exact H.out.2
   have HB:=Qd htb;clear H hcons htf htb;obtain⟨b,off,rfl,hbb,HC⟩:∃b off,A=some ⟨b,off,none⟩/\b<w1.heap.size/\Hid (∀q x:Nat,(Lab.tags l)[q]? =some x->w1.cell? ⟨b,off+q,none⟩=some (.int .i64 (x:Int))):=by
    rcases HL.out with h |⟨b,off,hA,hb,hc⟩
    ·rw[List.map_eq_nil_iff] at h;rw[h] at hlt;simp at hlt
    exact⟨b,off,hA,hb,λq x hx=>hc q _ (by rw[List.getElem?_map,hx];rfl)⟩
   go_wp2_with fail
   obtain⟨wo,rfl⟩:∃wo:World,wo=wr:=⟨_,rfl⟩;go_loopw [6] (λj wq=>∃jn m:Nat,wq=wo.drewN m/\i<=jn/\jn<(Lab.tags l).length/\j= .int .i64 (jn:Int)/\Hid (∃d,jn=i+d/\t+d<=Lab.last l t)) (λj _=>(Lab.tags l).length-(intOf j).toNat)
   case atStart=>exact⟨i,0,rfl,Lr,hlt,rfl,Qd ⟨0,rfl,Lab.last_ge l t⟩⟩
   case round=>
    obtain⟨jn,m,rfl,hij,hjn,rfl,HJ⟩:=hrel;obtain⟨d,hd1,hd2⟩:=HJ.out;obtain⟨_,hget,hdrop,_⟩:=Lab.run_at hl HB.out HD.out d hd2;have HW:Hid (∀q x:Nat,(Lab.tags l)[q]? =some x->wo.cell? ⟨b,off+q,none⟩=some (.int .i64 (x:Int))):=λq x hx=>(hbel.cell (p:=⟨b,off+q,none⟩) hbb).trans (HC.out q x hx);have hcj:=HW.out _ _ hget;have hbt:=Lab.last_lt hl HB.out;rw[<-hd1] at hcj;obtain⟨x,hx⟩:∃x,x=t+d:=⟨_,rfl⟩;rw[<-hx] at hcj;have hx64:x<64:=by omega
    by_cases hin:t+d<Lab.last l t
    ·obtain⟨_,hget2,_,hlt2⟩:=Lab.run_at hl HB.out HD.out (d+1) (by omega)
     have hcn:=HW.out _ _ hget2;rw[show i+(d+1)=jn+1 from by omega,show t+(d+1)=x+1 from by omega] at hcn;rw[show((x+1:Nat):Int)=(x:Int)+1 from by omega] at hcn;have hj1:jn+1<(Lab.tags l).length:=by omega
     have hdec:decide ((jn:Int)+1<((Lab.tags l).length:Int))=true:=by simp;omega
     have HE:=Qd (And.intro hd1 hin);clear hd1 hx hin hget hget2 hdrop hlt2 hd2;go_wp2_with fail
     go_quiet (fail)
     go_wp2_with fail
     go_roundw
     case rel=>exact⟨jn+1,_,rfl,by omega,by omega,by go_num,Qd ⟨d+1,by have:=HE.out.1;omega,HE.out.2⟩⟩
     case measure=>simp[intOf];omega
    have hlast:t+d=Lab.last l t:=by omega
    have hstop:=Lab.run_stop hl HB.out HD.out hlast;rw[<-hd1] at hstop;have HE:=Qd (And.intro hd1 hlast);have HX:=Qd hx;have HDR:=Qd hdrop;clear hd1 hin hget hdrop hd2 hlast;have hci:=HW.out i t (by have:=(Lab.run_at hl HB.out HD.out 0 (Lab.last_ge l t)).2.1;simpa using this);have hsz:=hbel.size;have HF:Hid ((Lab.tags l).drop (jn+1)=Lab.tagsFrom l (Lab.last l t+1)):=by
     have h:=HDR.out;have h1:=HE.out;rw[<-h1.2,h1.1];exact h
    have HW2:Hid (∀wx:World,Below w1.heap.size w1 wx->wx.cell? ⟨b,off+jn,none⟩=some (.int .i64 (x:Int))):=λwx hx=>(hx.cell (p:=⟨b,off+jn,none⟩) hbb).trans ((hbel.cell (p:=⟨b,off+jn,none⟩) hbb).symm.trans hcj);have h3:jn=i\/jn=i+1\/i+2<=jn:=by omega
    rcases hstop with hstop |⟨y,hy,hyne,hylt,hy64⟩
    ·have hdec:decide ((jn:Int)+1<((Lab.tags l).length:Int))=false:=by simp;omega
     clear hx;rcases h3 with h3 |h3 |h3
     ·have HX2:Hid (Lab.piece (t,Lab.last l t)=[Lib.decDigits x]):=Qd (by
       have h1:=HE.out;have h2:=HX.out;have e1:Lab.last l t=t:=by omega
       have e2:x=t:=by omega
       rw[e1,e2];simp[Lab.piece])
      have hs1:((jn:Int)-(i:Int)==1)=false:=by simp;omega
      have hs0:((jn:Int)-(i:Int)==0)=true:=by simp;omega
      have hlj:jn<=i:=by omega
      clear h3;go_wp2_with fail
      go_quiet (fail)
      have hownq:(wo.drewN (m+nq)).ownsRow w1.heap.size 9 1 u4 ps.length (ps.map Za):=hown;have hbq:Below w1.heap.size w1 (wo.drewN (m+nq)):=⟨hbel.os,hbel.tape,hbel.output,hbel.size,hbel.block⟩;go_wp2_with (first
       |(go_at_call 55;refine(Tryz.strconv_Itoa_small _ (by omega) _).mono ?_;rintro e w' ⟨rfl,rfl⟩)
       |(at_builtin;refine wpList_append_own _ rfl (.tmp 52) (.tmp 58) 71 rfl w1.heap.size 9 i0 (.string ⟨#[]⟩) 1 16 Tryz.underlying71 hi hz0 hz1 hz2 rfl (by decide) _ _ _ rfl (hownq.alloc _) ⟨_,0,none⟩ 1 1 [Za (Lib.decDigits x)] rfl rfl (cell_one_new _ _ _) (by intro u hu;simp only[List.mem_singleton] at hu;subst hu;rfl) (by unfold maxLen;omega) (by omega) (by simp;omega) ?_;intro v2 w2 hown2 hgrow2 hnn2))
      have hb2:Below w1.heap.size w1 w2:=(hbq.alloc (by simp;omega) _).grown hgrow2 (by simp;omega) (λk hk=>(hown.lt k hk).1);refine⟨⟨jn+1,Lab.last l t+1,ps++[Lib.decDigits x],by omega,by simp;omega,by go_num,Qd ⟨HF.out,?_⟩,by simpa using hown2,hb2⟩,by simp[intOf];omega⟩;rw[List.append_assoc,<-HX2.out];exact HP.out
     ·have HX2:Hid (Lab.piece (t,Lab.last l t)=[Lib.decDigits t,Lib.decDigits x]):=Qd (by
       have h1:=HE.out;have h2:=HX.out;have e1:Lab.last l t=t+1:=by omega
       have e2:x=t+1:=by omega
       rw[e1,e2];simp[Lab.piece])
      have hs1:((jn:Int)-(i:Int)==1)=true:=by simp;omega
      have hlj:i+1<=jn:=by omega
      clear h3;go_wp2_with fail
      go_quiet (fail)
      have hownq:(wo.drewN (m+nq)).ownsRow w1.heap.size 9 1 u4 ps.length (ps.map Za):=hown;have hbq:Below w1.heap.size w1 (wo.drewN (m+nq)):=⟨hbel.os,hbel.tape,hbel.output,hbel.size,hbel.block⟩;go_wp2_with (first
       |(go_at_call 55;refine(Tryz.strconv_Itoa_small _ (by omega) _).mono ?_;rintro e w' ⟨rfl,rfl⟩)
       |(at_builtin;refine wpList_append_own _ rfl (.tmp 44) (.tmp 50) 71 rfl w1.heap.size 9 i0 (.string ⟨#[]⟩) 1 16 Tryz.underlying71 hi hz0 hz1 hz2 rfl (by decide) _ _ _ rfl (hownq.alloc _) ⟨_,0,none⟩ 1 1 [Za (Lib.decDigits t)] rfl rfl (cell_one_new _ _ _) (by intro u hu;simp only[List.mem_singleton] at hu;subst hu;rfl) (by unfold maxLen;omega) (by omega) (by simp;omega) ?_;intro v2 w2 hown2 hgrow2 hnn2;have hb2:Below w1.heap.size w1 w2:=(hbq.alloc (by simp;omega) _).grown hgrow2 (by simp;omega) (λk hk=>(hown.lt k hk).1);have hsz2:=hb2.size;have hcj2:=HW2.out w2 hb2;clear hgrow2 hnn2)
       |(at_builtin;refine wpList_append_own _ rfl (.tmp 52) (.tmp 58) 71 rfl w1.heap.size 9 i0 (.string ⟨#[]⟩) 1 16 Tryz.underlying71 hi hz0 hz1 hz2 rfl (by decide) _ _ _ rfl (hown2.alloc _) ⟨_,0,none⟩ 1 1 [Za (Lib.decDigits x)] rfl rfl (cell_one_new _ _ _) (by intro u hu;simp only[List.mem_singleton] at hu;subst hu;rfl) (by unfold maxLen;omega) (by omega) (by simp;omega) ?_;intro v3 w3 hown3 hgrow3 hnn3))
      have hb3:=(hb2.alloc (by omega) _).grown hgrow3 (by simp;omega) (λk hk=>(hown2.lt k hk).1);refine⟨⟨jn+1,Lab.last l t+1,ps++[Lib.decDigits t,Lib.decDigits x],by omega,by simp;omega,by go_num,Qd ⟨HF.out,?_⟩,by simpa using hown3,hb3⟩,by simp[intOf];omega⟩;rw[List.append_assoc,<-HX2.out];exact HP.out
     have HX2:Hid (Lab.piece (t,Lab.last l t)=[Lib.decDigits t++45::Lib.decDigits x]):=Qd (by
      have h1:=HE.out;have h2:=HX.out;have e2:x=Lab.last l t:=by omega
      rw[e2];unfold Lab.piece;rw[if_neg (by simp;omega),if_neg (by simp;omega)])
     have hs1:((jn:Int)-(i:Int)==1)=false:=by simp;omega
     have hs0:((jn:Int)-(i:Int)==0)=false:=by simp;omega
     have hdt:=(Lab.dec_len ht64).2;have hdx:=(Lab.dec_len hx64).2;have hno1:(9223372036854775807<(Lib.decDigits t).length+1)=False:=by simp;omega
     have hno2:(9223372036854775807<(Lib.decDigits t).length+1+(Lib.decDigits x).length)=False:=by simp;omega
     go_wp2_with fail
     go_quiet (fail)
     have hownq:(wo.drewN (m+nq)).ownsRow w1.heap.size 9 1 u4 ps.length (ps.map Za):=hown;have hbq:Below w1.heap.size w1 (wo.drewN (m+nq)):=⟨hbel.os,hbel.tape,hbel.output,hbel.size,hbel.block⟩;have hbr:Below w1.heap.size w1 (wo.drewN (m+nq+1)):=⟨hbel.os,hbel.tape,hbel.output,hbel.size,hbel.block⟩;have hownr:(wo.drewN (m+nq+1)).ownsRow w1.heap.size 9 1 u4 ps.length (ps.map Za):=hown;go_wp2_with fail
     go_region_law (first
      |(refine step_append_lies _ (by rfl) (.tmp 60) (.tmp 73) 71 (by rfl) w1.heap.size 9 i0 (.string ⟨#[]⟩) 1 16 Tryz.underlying71 hi hz0 hz1 hz2 rfl (by omega) u4 ps.length (ps.map Za) (by rfl) (by exact(hownr.alloc _)) ⟨wo.heap.size,0,none⟩ 1 1 [.string (⟨(Lib.decDigits t).toArray⟩++⟨#[45]⟩++⟨(Lib.decDigits x).toArray⟩)] (by rfl) (by rfl) (by exact cell_one_new _ _ _) (by intro u hu;simp only[List.mem_singleton] at hu;subst hu;rfl) (by omega) (by unfold maxLen;omega) (by omega) (by simp;omega) (wo.heap.size+1) (by simp) ?_;intro g2 c2 w2 hown2 hgrow2 hg2 hg3)
      |(go_simp;(go_at_call 55;refine(Tryz.strconv_Itoa_small _ (by omega) _).mono ?_;rintro e w' ⟨rfl,rfl⟩)))
     all_goals
      have hb2:Below w1.heap.size w1 w2:=(hbr.alloc (by simp;omega) _).grown hgrow2 (by simp;omega) (λk hk=>(hown.lt k hk).1);clear hgrow2;go_wp2_with fail
      refine⟨⟨jn+1,Lab.last l t+1,ps++[Lib.decDigits t++45::Lib.decDigits x],by omega,by simp;omega,by go_num,Qd ⟨HF.out,?_⟩,?_,hb2⟩,by simp[intOf];omega⟩
      ·rw[List.append_assoc,<-HX2.out];exact HP.out
      rw[List.length_append,List.map_append];simpa [Za,M1] using hown2
    have hdec:decide ((jn:Int)+1<((Lab.tags l).length:Int))=true:=by simp;omega
    have hcn:=HW.out _ _ hy;have hne:((y:Int)==(x:Int)+1)=false:=by simp;omega
    clear hx hy hyne;rcases h3 with h3 |h3 |h3
    ·have HX2:Hid (Lab.piece (t,Lab.last l t)=[Lib.decDigits x]):=Qd (by
      have h1:=HE.out;have h2:=HX.out;have e1:Lab.last l t=t:=by omega
      have e2:x=t:=by omega
      rw[e1,e2];simp[Lab.piece])
     have hs1:((jn:Int)-(i:Int)==1)=false:=by simp;omega
     have hs0:((jn:Int)-(i:Int)==0)=true:=by simp;omega
     have hlj:jn<=i:=by omega
     clear h3;go_wp2_with fail
     go_quiet (fail)
     have hownq:(wo.drewN (m+nq)).ownsRow w1.heap.size 9 1 u4 ps.length (ps.map Za):=hown;have hbq:Below w1.heap.size w1 (wo.drewN (m+nq)):=⟨hbel.os,hbel.tape,hbel.output,hbel.size,hbel.block⟩;go_wp2_with (first
      |(go_at_call 55;refine(Tryz.strconv_Itoa_small _ (by omega) _).mono ?_;rintro e w' ⟨rfl,rfl⟩)
      |(at_builtin;refine wpList_append_own _ rfl (.tmp 52) (.tmp 58) 71 rfl w1.heap.size 9 i0 (.string ⟨#[]⟩) 1 16 Tryz.underlying71 hi hz0 hz1 hz2 rfl (by decide) _ _ _ rfl (hownq.alloc _) ⟨_,0,none⟩ 1 1 [Za (Lib.decDigits x)] rfl rfl (cell_one_new _ _ _) (by intro u hu;simp only[List.mem_singleton] at hu;subst hu;rfl) (by unfold maxLen;omega) (by omega) (by simp;omega) ?_;intro v2 w2 hown2 hgrow2 hnn2))
     have hb2:Below w1.heap.size w1 w2:=(hbq.alloc (by simp;omega) _).grown hgrow2 (by simp;omega) (λk hk=>(hown.lt k hk).1);refine⟨⟨jn+1,Lab.last l t+1,ps++[Lib.decDigits x],by omega,by simp;omega,by go_num,Qd ⟨HF.out,?_⟩,by simpa using hown2,hb2⟩,by simp[intOf];omega⟩;rw[List.append_assoc,<-HX2.out];exact HP.out
    ·have HX2:Hid (Lab.piece (t,Lab.last l t)=[Lib.decDigits t,Lib.decDigits x]):=Qd (by
      have h1:=HE.out;have h2:=HX.out;have e1:Lab.last l t=t+1:=by omega
      have e2:x=t+1:=by omega
      rw[e1,e2];simp[Lab.piece])
     have hs1:((jn:Int)-(i:Int)==1)=true:=by simp;omega
     have hlj:i+1<=jn:=by omega
     clear h3;go_wp2_with fail
     go_quiet (fail)
     have hownq:(wo.drewN (m+nq)).ownsRow w1.heap.size 9 1 u4 ps.length (ps.map Za):=hown;have hbq:Below w1.heap.size w1 (wo.drewN (m+nq)):=⟨hbel.os,hbel.tape,hbel.output,hbel.size,hbel.block⟩;go_wp2_with (first
      |(go_at_call 55;refine(Tryz.strconv_Itoa_small _ (by omega) _).mono ?_;rintro e w' ⟨rfl,rfl⟩)
      |(at_builtin;refine wpList_append_own _ rfl (.tmp 44) (.tmp 50) 71 rfl w1.heap.size 9 i0 (.string ⟨#[]⟩) 1 16 Tryz.underlying71 hi hz0 hz1 hz2 rfl (by decide) _ _ _ rfl (hownq.alloc _) ⟨_,0,none⟩ 1 1 [Za (Lib.decDigits t)] rfl rfl (cell_one_new _ _ _) (by intro u hu;simp only[List.mem_singleton] at hu;subst hu;rfl) (by unfold maxLen;omega) (by omega) (by simp;omega) ?_;intro v2 w2 hown2 hgrow2 hnn2;have hb2:Below w1.heap.size w1 w2:=(hbq.alloc (by simp;omega) _).grown hgrow2 (by simp;omega) (λk hk=>(hown.lt k hk).1);have hsz2:=hb2.size;have hcj2:=HW2.out w2 hb2;clear hgrow2 hnn2)
      |(at_builtin;refine wpList_append_own _ rfl (.tmp 52) (.tmp 58) 71 rfl w1.heap.size 9 i0 (.string ⟨#[]⟩) 1 16 Tryz.underlying71 hi hz0 hz1 hz2 rfl (by decide) _ _ _ rfl (hown2.alloc _) ⟨_,0,none⟩ 1 1 [Za (Lib.decDigits x)] rfl rfl (cell_one_new _ _ _) (by intro u hu;simp only[List.mem_singleton] at hu;subst hu;rfl) (by unfold maxLen;omega) (by omega) (by simp;omega) ?_;intro v3 w3 hown3 hgrow3 hnn3))
     have hb3:=(hb2.alloc (by omega) _).grown hgrow3 (by simp;omega) (λk hk=>(hown2.lt k hk).1);refine⟨⟨jn+1,Lab.last l t+1,ps++[Lib.decDigits t,Lib.decDigits x],by omega,by simp;omega,by go_num,Qd ⟨HF.out,?_⟩,by simpa using hown3,hb3⟩,by simp[intOf];omega⟩;rw[List.append_assoc,<-HX2.out];exact HP.out
    have HX2:Hid (Lab.piece (t,Lab.last l t)=[Lib.decDigits t++45::Lib.decDigits x]):=Qd (by
     have h1:=HE.out;have h2:=HX.out;have e2:x=Lab.last l t:=by omega
     rw[e2];unfold Lab.piece;rw[if_neg (by simp;omega),if_neg (by simp;omega)])
    have hs1:((jn:Int)-(i:Int)==1)=false:=by simp;omega
    have hs0:((jn:Int)-(i:Int)==0)=false:=by simp;omega
    have hdt:=(Lab.dec_len ht64).2;have hdx:=(Lab.dec_len hx64).2;have hno1:(9223372036854775807<(Lib.decDigits t).length+1)=False:=by simp;omega
    have hno2:(9223372036854775807<(Lib.decDigits t).length+1+(Lib.decDigits x).length)=False:=by simp;omega
    go_wp2_with fail
    go_quiet (fail)
    have hownq:(wo.drewN (m+nq)).ownsRow w1.heap.size 9 1 u4 ps.length (ps.map Za):=hown;have hbq:Below w1.heap.size w1 (wo.drewN (m+nq)):=⟨hbel.os,hbel.tape,hbel.output,hbel.size,hbel.block⟩;have hbr:Below w1.heap.size w1 (wo.drewN (m+nq+1)):=⟨hbel.os,hbel.tape,hbel.output,hbel.size,hbel.block⟩;have hownr:(wo.drewN (m+nq+1)).ownsRow w1.heap.size 9 1 u4 ps.length (ps.map Za):=hown;go_wp2_with fail
    go_region_law (first
     |(refine step_append_lies _ (by rfl) (.tmp 60) (.tmp 73) 71 (by rfl) w1.heap.size 9 i0 (.string ⟨#[]⟩) 1 16 Tryz.underlying71 hi hz0 hz1 hz2 rfl (by omega) u4 ps.length (ps.map Za) (by rfl) (by exact(hownr.alloc _)) ⟨wo.heap.size,0,none⟩ 1 1 [.string (⟨(Lib.decDigits t).toArray⟩++⟨#[45]⟩++⟨(Lib.decDigits x).toArray⟩)] (by rfl) (by rfl) (by exact cell_one_new _ _ _) (by intro u hu;simp only[List.mem_singleton] at hu;subst hu;rfl) (by omega) (by unfold maxLen;omega) (by omega) (by simp;omega) (wo.heap.size+1) (by simp) ?_;intro g2 c2 w2 hown2 hgrow2 hg2 hg3)
     |(go_simp;(go_at_call 55;refine(Tryz.strconv_Itoa_small _ (by omega) _).mono ?_;rintro e w' ⟨rfl,rfl⟩)))
    all_goals
     have hb2:Below w1.heap.size w1 w2:=(hbr.alloc (by simp;omega) _).grown hgrow2 (by simp;omega) (λk hk=>(hown.lt k hk).1);clear hgrow2;go_wp2_with fail
     refine⟨⟨jn+1,Lab.last l t+1,ps++[Lib.decDigits t++45::Lib.decDigits x],by omega,by simp;omega,by go_num,Qd ⟨HF.out,?_⟩,?_,hb2⟩,by simp[intOf];omega⟩
     ·rw[List.append_assoc,<-HX2.out];exact HP.out
     rw[List.length_append,List.map_append];simpa [Za,M1] using hown2
  have HPS:Hid (ps=Lab.pieces l 0):=by
   have h:=H.out;rw[List.drop_eq_nil_of_le (by omega)] at h;rw[<-h.2,Lab.pieces_nil h.1.symm,List.append_nil];exact rfl
  have HJ:Hid ((Lib.join ps [44]).length<=384/\∀x∈ps,1<=x.length):=by
   have h1:=Lab.pieces_len hl 0;rw[<-HPS.out] at h1;have h2:=Lab.join_len_le ps (λx hx=>(h1 x hx).2);exact⟨by omega,λx hx=>(h1 x hx).1⟩
  have hbw:Below w.heap.size w wr:=hb1.trans (hbel.mono hbB);have HTX:Hid (Lab.text l=123::(Lib.join ps [44]++[125])):=by rw[HPS.out];exact rfl
  clear H HPS;rcases Nat.eq_zero_or_pos ps.length with h0 |h0
  ·obtain rfl:=List.eq_nil_of_length_eq_zero h0
   obtain⟨A',c',rfl,_,_⟩:=Na hown;go_wp2_with (go_at_call 56;refine(Tryz.strings_Join_none _ _ _ _).mono ?_;rintro e w' ⟨rfl,rfl⟩)
   go_ret;exact⟨by rw[HTX.out];rfl,hbw⟩
  obtain⟨g,cap,rfl,_,hg⟩:=hown.form h0;obtain⟨_,c',hv,hcap,_⟩:=Na hown;injection hv with hA1 hA2 hcc
  subst hcc;clear hA1 hA2;have hj:=Tryz.strings_Join g 0 cap (ps.map λs=>(⟨s.toArray⟩:ByteArray)) ⟨#[44]⟩ wr (λj x hx=>by
   refine Oe hown j _ ?_;rw[List.getElem?_map] at hx⊢;obtain⟨y,hy,rfl⟩:=Option.map_eq_some_iff.1 hx;rw[hy];rfl) hg (by rw[List.length_map];omega) (by rw[List.length_map];exact hcap) (by
   have:=HJ.out.1;rw[List.map_map,show((λx:ByteArray=>x.data.toList)∘λs:List UInt8=>(⟨s.toArray⟩:ByteArray))=id from rfl,List.map_id];exact Nat.le_trans this (by omega))
  rw[List.length_map,List.map_map,show((λx:ByteArray=>x.data.toList)∘λs:List UInt8=>(⟨s.toArray⟩:ByteArray))=id from rfl,List.map_id] at hj;have HJ2:=Qd hj;clear hj;obtain⟨J,hJ⟩:∃J,J=Lib.join ps [44]:=⟨_,rfl⟩;have hJl:J.length<=384:=by rw[hJ];exact HJ.out.1
  have hno1:(9223372036854775807<1+J.length)=False:=by simp;omega
  have hno2:(9223372036854775807<1+J.length+1)=False:=by simp;omega
  have HJ3:=Qd hJ;clear hJ;go_wp2_with (go_at_call 56;refine HJ2.out.mono ?_;rintro e w' ⟨rfl,hbj⟩;rw[<-HJ3.out])
  go_ret;refine⟨?_,hbw.trans (hbj.mono (Nat.le_trans hbB hbel.size))⟩;rw[HTX.out,<-HJ3.out];exact congrArg (λs=>Ending.returned (.string s)) (Ct J)
section
open Go.RowKit Go.Sort Go.Lib Go.Shelf
theorem G7 (w:World)(T:TypeId)(nd:Nat)(hs:nd<=24):Holds (λ(b:UInt8)=>Value.int .u8 (b.toNat:Int)) (w.alloc (.cells zeros24 T)) w.heap.size 0 (Array.replicate nd (0:UInt8)):=λj hj=>by
 have hj':j<nd:=by simpa using hj
 refine⟨?_,World.frozen?_alloc_new _ _ _ _⟩;rw[World.cell?_alloc_new,zeros24_at _ (by omega),getElem!_pos _ j hj];simp
theorem Eoa (w:World)(o:Obj)(dk:Array UInt8)(k:Nat):Below w.heap.size w ((putRow (λ(b:UInt8)=>Value.int .u8 (b.toNat:Int)) (w.alloc o) w.heap.size 0 dk).drewN k):=by
 rw[alloc_eq_grow];obtain⟨os',_,e⟩:=putRow_grow_new (λ(b:UInt8)=>Value.int .u8 (b.toNat:Int)) w #[o] w.heap.size 0 dk Lr;rw[e];exact⟨rfl,rfl,rfl,by show w.heap.size<=(grow w os').heap.size;simp,λg hg=>heap_grow_old w os' hg⟩
theorem Gm (u:Nat)(w:World)(hu64:u<18446744073709551616)(htab:Lib.TabIs Tryz.prog w "internal/strconv.uint64pow10" .u64 Lib.pow10Tab):
 Calls Tryz.prog 180 #[.int .u64 (u:Int),.int .i64 10] w λe w'=>e= .returned (.string ⟨(Lib.decDigits u).toArray⟩)/\Below w.heap.size w w':=by
 by_cases hs:u<100
 ·go_enter Tryz.func180,Tryz.ntmps180
  go_wp2_with (go_at_call 140;refine(Tryz.internal_strconv_small u hs _).mono ?_;rintro e w' ⟨rfl,rfl⟩)
  go_ret;exact⟨rfl,Br⟩
 have hu1:1<=u:=by omega
 have hnd20:Lib.nDigits u<=20:=by have:=Lib.numDigits_eq u hu1 hu64;split at this<;>omega
 have hH0:=G7 w 167 (Lib.nDigits u) (by omega);have hfmt:=Tryz.internal_strconv_formatBase10 w.heap.size 0 24 u (Array.replicate (Lib.nDigits u) 0) (w.alloc (.cells Lib.zeros24 167)) hH0 (by rw[Array.size_replicate];exact Lib.lt_pow_nDigits u) hu64 (by rw[Array.size_replicate];omega);rw[Array.size_replicate] at hfmt;have HH0:=Qd hH0;clear hH0;have hal:Program.arrayLen Tryz.prog 167=24:=by simp[Program.arrayLen,Tryz.underlying167]
 have hb3:Lib.nDigits u<=24:=by omega
 have hsl1:∀W,(Instr.sliceAt 167 (.pointer (some ⟨w.heap.size,0,none⟩)) none (some (.int .i64 (Lib.nDigits u:Int))) none).run Tryz.prog W= .ok (.slice (some ⟨w.heap.size,0,none⟩) (Lib.nDigits u) 24) W:=λW=>by
  rw[run_sliceAt_array_h W 167 ⟨w.heap.size,0,none⟩ (by simp[Program.arrayLen,Program.elem,Tryz.underlying167]) .i64 (Lib.nDigits u:Int) (by omega) (by rw[hal];omega)];go_simp
 clear hal;go_enter Tryz.func180,Tryz.ntmps180
 go_wp2_with (first
  |(go_at_call 141;refine(Tryz.internal_strconv_numDigits u hu1 hu64 _ (Lib.tabIs_alloc htab _)).mono ?_;rintro e w' ⟨rfl,rfl⟩))
 refine hfmt.mono ?_;rintro e w' ⟨rfl,k,v',dk,rfl,hF⟩;have hcv:(convert 50 9 (.slice (some ⟨w.heap.size,0,none⟩) (Lib.nDigits u) 24)).run Tryz.prog ((putRow (λ(b:UInt8)=>Value.int .u8 (b.toNat:Int)) (w.alloc (.cells Lib.zeros24 167)) w.heap.size 0 dk).drewN k)= .ok (.string ⟨(Lib.decDigits u).toArray⟩) ((putRow (λ(b:UInt8)=>Value.int .u8 (b.toNat:Int)) (w.alloc (.cells Lib.zeros24 167)) w.heap.size 0 dk).drewN k):=by
  have h:=run_convert_bytes_back (P:=Tryz.prog) ((putRow (λ(b:UInt8)=>Value.int .u8 (b.toNat:Int)) (w.alloc (.cells Lib.zeros24 167)) w.heap.size 0 dk).drewN k) 50 9 5 ⟨w.heap.size,0,none⟩ 24 (Lib.decDigits u) Tryz.underlying50 Tryz.underlying5 Tryz.underlying9 (λj hj=>by
   rw[Lib.row_is_numeral hF j hj,Lib.add_plain,World.cell?_drewN];exact cell?_putRow (λ(b:UInt8)=>Value.int .u8 (b.toNat:Int)) _ w.heap.size 0 _ dk HH0.out (by rw[hF.size,Array.size_replicate]) j (by rw[hF.size];rw[Lib.decDigits_length] at hj;exact hj))
  rw[Lib.decDigits_length] at h;exact h
 go_wp2_with fail
 go_ret;exact⟨rfl,Eoa _ _ _ _⟩
theorem Bv (u:Nat)(w:World)(hu64:u<18446744073709551616)(htab:Lib.TabIs Tryz.prog w "internal/strconv.uint64pow10" .u64 Lib.pow10Tab):
 Calls Tryz.prog 148 #[.int .u64 (u:Int),.int .i64 10] w λe w'=>e= .returned (.string ⟨(Lib.decDigits u).toArray⟩)/\Below w.heap.size w w':=by
 go_enter Tryz.func148,Tryz.ntmps148
 go_wp2_with (go_at_call 180;refine(Gm u w hu64 htab).mono ?_;rintro e w' ⟨rfl,hb⟩)
 go_ret;exact⟨rfl,hb⟩
end
def NatTold (s:List UInt8)(w:World)(e:Ending)(w':World):Prop:=Below w.heap.size w w'/\∃(v:Value) (ok:Bool) (n:Nat),e= .returned (.tuple #[v,.bool ok])/\IsRes w' v (Nt.digs n)/\((ok=true/\Ten.Valid s/\n=Ten.numOf s)\/(ok=false/\¬Ten.Valid s/\n=0))
theorem NatTold.no {s:List UInt8}{w w':World}(hb:Below w.heap.size w w')(h:¬Ten.Valid s):NatTold s w (.returned (.tuple #[.slice none 0 0,.bool false])) w':=⟨hb,_,false,0,rfl,by rw[Nt.digs_zero];exact IsRes.none_ _,.inr ⟨rfl,h,rfl⟩⟩
theorem NatTold.yes {s:List UInt8}{w w':World}{v:Value}(hb:Below w.heap.size w w')(h:Ten.Valid s)(hv:IsRes w' v (Nt.digs (Ten.numOf s))):NatTold s w (.returned (.tuple #[v,.bool true])) w':=⟨hb,_,true,_,rfl,hv,.inl ⟨rfl,h,rfl⟩⟩
def NumAt (s:List UInt8)(k n:Nat):Prop:=n=Ten.numOf (s.take k)/\∀j (hj:j<s.length),j<k->Ten.isDig s[j]
theorem NumAt.start (s:List UInt8):NumAt s 0 0:=⟨rfl,λj _ h=>absurd h (by omega)⟩
theorem NumAt.step {s:List UInt8}{k n:Nat}(h:NumAt s k n)(hk:k<s.length)(hd:Ten.isDig s[k]):NumAt s (k+1) (n*10+(s[k].toNat-48)):=by
 refine⟨?_,λj hj hjk=>?_⟩
 ·rw[List.take_succ_eq_append_getElem hk,Ten.numOf_snoc,<-h.1];omega
 by_cases e:j=k
 ·subst e;exact hd
 exact h.2 j hj (by omega)
theorem NumAt.done {s:List UInt8}{n:Nat}(h:NumAt s s.length n)(h0:s≠[])(h1:1<s.length->s.head?≠some 48):Ten.Valid s/\n=Ten.numOf s:=by
 refine⟨⟨h0,h1,λb hb=>?_⟩,by rw[h.1,List.take_length]⟩;obtain⟨j,hj,rfl⟩:=List.mem_iff_getElem.1 hb;exact h.2 j hj hj
theorem Ti {s:List UInt8}{k:Nat}(hk:k<s.length)(h:s[k].toNat<48\/57<s[k].toNat):¬Ten.Valid s:=λhv=>by
 have:=hv.2.2 s[k] (List.getElem_mem hk);unfold Ten.isDig at this;omega
theorem So {s:List UInt8}(h:0<s.length):s.head?=some s[0]:=by
 cases s with
 |nil=>simp at h
 |cons b r=>rfl
theorem O1 (s:List UInt8)(w:World)(hs:s.length<=1000):Calls Tryz.prog 199 #[.string ⟨s.toArray⟩] w (NatTold s w):=by
 obtain⟨i0,hi,hz0,hz1,hz2⟩:=info_parts Mc;by_cases h0:s.length=0
 ·have HN:=Qd (NatTold.no (w:=w) (w':=w) (s:=s) Br (λh=>h.1 (List.eq_nil_of_length_eq_zero h0)))
  have h0a:((s.length:Int)==0)=true:=by simp[h0]
  clear h0;go_enter Tryz.func199,Tryz.ntmps199
  go_wp2_with fail
  go_ret2
  exact HN.out
 have hpos:0<s.length:=by omega
 have h0a:((s.length:Int)==0)=false:=by rw[beq_eq_false_iff_ne];omega
 obtain⟨z,hz⟩:∃z,z=s[0].toNat:=⟨_,rfl⟩;have hg0:((⟨s.toArray⟩:ByteArray)[0]'(show 0<(⟨s.toArray⟩:ByteArray).size from hpos)).toNat=z:=hz.symm;by_cases hlead:1<s.length/\z=48
 ·obtain⟨h1,hz48⟩:=hlead
  have HN:=Qd (NatTold.no (w:=w) (w':=w) (s:=s) Br (λh=>h.2.1 h1 (by rw[So hpos,UInt8.toNat_inj.1 (show s[0].toNat=(48:UInt8).toNat by rw[<-hz,hz48];rfl)])));have hza:((z:Int)==48)=true:=by simp[hz48]
  clear h0 hz hz48;go_enter Tryz.func199,Tryz.ntmps199
  go_wp2_with fail
  go_ret2
  exact HN.out
 have HV:Hid (s≠[]/\(1<s.length->s.head?≠some 48)):=Qd ⟨λe=>by rw[e] at hpos;simp at hpos,λh1 e=>hlead ⟨h1,by
  rw[So hpos] at e;injection e with e;rw[hz,e];rfl⟩⟩
 have hgo:s.length<=1\/(1<s.length/\((z:Int)==48)=false):=by
  rcases Nat.lt_or_ge 1 s.length with h |h
  ·exact .inr ⟨h,by rw[beq_eq_false_iff_ne];intro e;exact hlead ⟨h,by omega⟩⟩
  exact .inl h
 clear hlead hz h0;go_enter Tryz.func199,Tryz.ntmps199
 rcases hgo with hl1 |⟨hl1,hza⟩
 ·go_wp2_with fail
  go_loopw [4,5] (λov i wr=>∃(k n:Nat),k<=s.length/\(Nt.digs n).length<=k/\i= .int .i64 (k:Int)/\wr.ownsRow w.heap.size 139 1 ov (Nt.digs n).length (U (Nt.digs n))/\Below w.heap.size w wr/\Hid (NumAt s k n)) (λ_ i _=>s.length-(intOf i).toNat)
  case atStart=>exact⟨0,0,by omega,by rw[Nt.digs_zero];simp,rfl,by rw[Nt.digs_zero];exact World.ownsRow_nil _ _ _ _,Br,Qd (NumAt.start s)⟩
  case round=>
   obtain⟨k,n,hk,hdl,rfl,hown,hbel,H⟩:=hrel;have hsz:=hbel.size;by_cases hlt:k<s.length
   ·obtain⟨y,hy⟩:∃y,y=s[k].toNat:=⟨_,rfl⟩
    have hgy:((⟨s.toArray⟩:ByteArray)[k]'(show k<(⟨s.toArray⟩:ByteArray).size from hlt)).toNat=y:=hy.symm;have hy8:y<256:=by rw[hy];exact UInt8.toNat_lt _
    by_cases hd:48<=y/\y<=57
    ·obtain⟨hd1,hd2⟩:=hd
     have ST:=Qd (H.out.step hlt ⟨by rw[<-hy];exact hd1,by rw[<-hy];exact hd2⟩);rw[<-hy] at ST;obtain⟨m,hm⟩:∃m,m=y-48:=⟨_,rfl⟩;have hmi:(y:Int)-48=(m:Int):=by omega
     have hm9:m<=9:=by omega
     rw[<-hm] at ST;have OX:=Qd (Nt.ok_digs n);have D0:Hid (∀cur,Nt.LenAt (Nt.digs n) 10 m cur (Nt.digs n).length 0->Nt.digs (n*10+m)=cur):=Qd (λcur h=>Nt.len_done0 h (by omega));have D1:Hid (∀cur c,Nt.LenAt (Nt.digs n) 10 m cur (Nt.digs n).length c->c≠0->Nt.digs (n*10+m)=cur++[c]):=Qd (λcur c h hc=>Nt.len_done1 h hc);obtain⟨dx,hdx⟩:∃dx,dx=Nt.digs n:=⟨_,rfl⟩;rw[<-hdx] at hown hdl OX D0 D1;obtain⟨A,C,rfl,hC1,hC2⟩:=Na hown;clear hy hm hdx H;go_wp2_with fail
     go_loopw [6,7] (λcv i wr=>∃(k c:Nat) (cur:List Nat),k<=dx.length/\c<4294967296/\i= .int .i64 (k:Int)/\cv= .int .u64 (c:Int)/\wr.ownsRow w.heap.size 139 1 (.slice A dx.length C) dx.length (U cur)/\Below w.heap.size w wr/\Hid (Nt.LenAt dx 10 m cur k c)) (λ_ i _=>dx.length-(intOf i).toNat)
     case atStart=>exact⟨0,m,dx,Nat.zero_le _,by omega,rfl,congrArg (Value.int .u64) (by omega),hown,hbel,Qd (Nt.len_start OX.out (by omega))⟩
     case round=>
      clear hown hbel hsz;obtain⟨k2,c,cur,hk2,hc,rfl,rfl,hown,hbel,H⟩:=hrel;have hsz:=hbel.size;by_cases hlt2:k2<dx.length
      ·exact absurd hlt2 (by omega)
      obtain rfl:k2=dx.length:=by omega
      have hcl:Hid (cur.length=dx.length):=Qd H.out.1;by_cases hc0:c=0
      ·subst hc0
       have HE:=Qd (D0.out cur H.out);go_wp2_with fail
       refine⟨⟨k+1,n*10+m,by omega,by rw[HE.out,hcl.out];omega,by go_num,?_,hbel,ST⟩,by simp[intOf];omega⟩;rw[HE.out,hcl.out];exact hown
      have HE:=Qd (D1.out cur c H.out hc0);have hc1:(0:Int)<(c:Int):=by omega
      go_wp2_with (at_builtin;refine wpList_append_own _ rfl _ _ 81 rfl w.heap.size 139 i0 (.int .u32 0) 1 4 Tryz.underlying81 hi hz0 hz1 hz2 rfl (by decide) _ _ _ rfl (hown.alloc _) ⟨_,0,none⟩ 1 1 [.int .u32 (c:Int)] rfl rfl (cell_one_new _ _ _) (by intro u hu;simp only[List.mem_singleton] at hu;subst hu;rfl) (by unfold maxLen;omega) (by omega) (by simp;omega) ?_;intro v3 w3 hown3 hgrow3 hnn3)
      have hb3:Below w.heap.size w w3:=(hbel.alloc (by omega) _).grown hgrow3 (by simp;omega) (λk hk=>(hown.lt k hk).1);refine⟨⟨k+1,n*10+m,by omega,by rw[HE.out,List.length_append,hcl.out];simp;omega,by go_num,?_,hb3,ST⟩,by simp[intOf];omega⟩;rw[HE.out,List.length_append,hcl.out]
      simpa [U] using hown3
    have HN:=Qd (NatTold.no (w:=w) (w':=wr) (s:=s) hbel (Ti hlt (by rw[<-hy];omega)));have hc:y<48\/(48<=y/\57<y):=by omega
    clear hy hd;rcases hc with hc |⟨hc,hc2⟩
    all_goals
     go_wp2_with fail
     go_ret2
     exact HN.out
   obtain rfl:k=s.length:=by omega
   have HD:=Qd (H.out.done HV.out.1 HV.out.2);have HY:=Qd (NatTold.yes hbel HD.out.1 (by rw[<-HD.out.2];exact IsRes.of_own hown));go_wp2_with fail
   go_ret2
   exact HY.out
 go_wp2_with fail
 go_loopw [4,5] (λov i wr=>∃(k n:Nat),k<=s.length/\(Nt.digs n).length<=k/\i= .int .i64 (k:Int)/\wr.ownsRow w.heap.size 139 1 ov (Nt.digs n).length (U (Nt.digs n))/\Below w.heap.size w wr/\Hid (NumAt s k n)) (λ_ i _=>s.length-(intOf i).toNat)
 case atStart=>exact⟨0,0,by omega,by rw[Nt.digs_zero];simp,rfl,by rw[Nt.digs_zero];exact World.ownsRow_nil _ _ _ _,Br,Qd (NumAt.start s)⟩
 case round=>
  obtain⟨k,n,hk,hdl,rfl,hown,hbel,H⟩:=hrel;have hsz:=hbel.size;by_cases hlt:k<s.length
  ·obtain⟨y,hy⟩:∃y,y=s[k].toNat:=⟨_,rfl⟩
   have hgy:((⟨s.toArray⟩:ByteArray)[k]'(show k<(⟨s.toArray⟩:ByteArray).size from hlt)).toNat=y:=hy.symm;have hy8:y<256:=by rw[hy];exact UInt8.toNat_lt _
   by_cases hd:48<=y/\y<=57
   ·obtain⟨hd1,hd2⟩:=hd
    have ST:=Qd (H.out.step hlt ⟨by rw[<-hy];exact hd1,by rw[<-hy];exact hd2⟩);rw[<-hy] at ST;obtain⟨m,hm⟩:∃m,m=y-48:=⟨_,rfl⟩;have hmi:(y:Int)-48=(m:Int):=by omega
    have hm9:m<=9:=by omega
    rw[<-hm] at ST;have OX:=Qd (Nt.ok_digs n);have D0:Hid (∀cur,Nt.LenAt (Nt.digs n) 10 m cur (Nt.digs n).length 0->Nt.digs (n*10+m)=cur):=Qd (λcur h=>Nt.len_done0 h (by omega));have D1:Hid (∀cur c,Nt.LenAt (Nt.digs n) 10 m cur (Nt.digs n).length c->c≠0->Nt.digs (n*10+m)=cur++[c]):=Qd (λcur c h hc=>Nt.len_done1 h hc);obtain⟨dx,hdx⟩:∃dx,dx=Nt.digs n:=⟨_,rfl⟩;rw[<-hdx] at hown hdl OX D0 D1;obtain⟨A,C,rfl,hC1,hC2⟩:=Na hown;clear hy hm hdx H;go_wp2_with fail
    go_loopw [6,7] (λcv i wr=>∃(k c:Nat) (cur:List Nat),k<=dx.length/\c<4294967296/\i= .int .i64 (k:Int)/\cv= .int .u64 (c:Int)/\wr.ownsRow w.heap.size 139 1 (.slice A dx.length C) dx.length (U cur)/\Below w.heap.size w wr/\Hid (Nt.LenAt dx 10 m cur k c)) (λ_ i _=>dx.length-(intOf i).toNat)
    case atStart=>exact⟨0,m,dx,Nat.zero_le _,by omega,rfl,congrArg (Value.int .u64) (by omega),hown,hbel,Qd (Nt.len_start OX.out (by omega))⟩
    case round=>
     clear hown hbel hsz;obtain⟨k2,c,cur,hk2,hc,rfl,rfl,hown,hbel,H⟩:=hrel;have hsz:=hbel.size;by_cases hlt2:k2<dx.length
     ·obtain⟨g,rfl,hgb,hcell,hfz,hset⟩:=Fda hown hlt2
      have hget:=Nt.len_get H.out hlt2;rw[U,List.getElem?_map,hget,Option.map_some] at hcell;have hxb:=Nt.ok_get OX.out hlt2;have ST2:=Qd (Nt.len_step H.out hlt2 OX.out (by omega));have BD:=Nt.len_bounds hxb (show 10<4294967296 by omega) hc;have HSET:Hid (∀s:Nat,(wr.setCell ⟨g,k2,none⟩ (.int .u32 (s:Int))).ownsRow w.heap.size 139 1 (.slice (some ⟨g,0,none⟩) dx.length C) dx.length (U (cur.set k2 s))):=Qd (λs=>by
       have:=hset (.int .u32 (s:Int));rw[show(U cur).set k2 (.int .u32 (s:Int))=U (cur.set k2 s) from List.map_set.symm] at this;exact this)
      have HB2:Hid (∀s,Below w.heap.size w (wr.setCell ⟨g,k2,none⟩ s)):=Qd (λs=>hbel.setCell hgb _);clear hset hget hown;generalize dx[k2]=x at*;obtain⟨ht1,ht2,ht3,ht4⟩:=BD;go_wp2_with fail
      exact⟨⟨k2+1,(x*10+c)/4294967296,cur.set k2 ((x*10+c)%4294967296),by omega,ht2,by go_num,congrArg (Value.int .u64) (by omega),HSET.out _,HB2.out _,ST2⟩,by simp[intOf];omega⟩
     obtain rfl:k2=dx.length:=by omega
     have hcl:Hid (cur.length=dx.length):=Qd H.out.1;by_cases hc0:c=0
     ·subst hc0
      have HE:=Qd (D0.out cur H.out);go_wp2_with fail
      refine⟨⟨k+1,n*10+m,by omega,by rw[HE.out,hcl.out];omega,by go_num,?_,hbel,ST⟩,by simp[intOf];omega⟩;rw[HE.out,hcl.out];exact hown
     have HE:=Qd (D1.out cur c H.out hc0);have hc1:(0:Int)<(c:Int):=by omega
     go_wp2_with (at_builtin;refine wpList_append_own _ rfl _ _ 81 rfl w.heap.size 139 i0 (.int .u32 0) 1 4 Tryz.underlying81 hi hz0 hz1 hz2 rfl (by decide) _ _ _ rfl (hown.alloc _) ⟨_,0,none⟩ 1 1 [.int .u32 (c:Int)] rfl rfl (cell_one_new _ _ _) (by intro u hu;simp only[List.mem_singleton] at hu;subst hu;rfl) (by unfold maxLen;omega) (by omega) (by simp;omega) ?_;intro v3 w3 hown3 hgrow3 hnn3)
     have hb3:Below w.heap.size w w3:=(hbel.alloc (by omega) _).grown hgrow3 (by simp;omega) (λk hk=>(hown.lt k hk).1);refine⟨⟨k+1,n*10+m,by omega,by rw[HE.out,List.length_append,hcl.out];simp;omega,by go_num,?_,hb3,ST⟩,by simp[intOf];omega⟩;rw[HE.out,List.length_append,hcl.out]
     simpa [U] using hown3
   have HN:=Qd (NatTold.no (w:=w) (w':=wr) (s:=s) hbel (Ti hlt (by rw[<-hy];omega)));have hc:y<48\/(48<=y/\57<y):=by omega
   clear hy hd;rcases hc with hc |⟨hc,hc2⟩
   all_goals
    go_wp2_with fail
    go_ret2
    exact HN.out
  obtain rfl:k=s.length:=by omega
  have HD:=Qd (H.out.done HV.out.1 HV.out.2);have HY:=Qd (NatTold.yes hbel HD.out.1 (by rw[<-HD.out.2];exact IsRes.of_own hown));go_wp2_with fail
  go_ret2
  exact HY.out
def PartAt (s:List UInt8)(n at0 k p sc:Nat):Prop:=sc=10^(k-at0)/\p<sc/\Ten.numOf (s.take k)=n*sc+p
theorem PartAt.start {s:List UInt8}{n at0:Nat}(h:n=Ten.numOf (s.take at0)):PartAt s n at0 at0 0 1:=⟨by rw[Nat.sub_self],by omega,by rw[<-h,Nat.mul_one,Nat.add_zero]⟩
theorem PartAt.step {s:List UInt8}{n at0 k p sc:Nat}(h:PartAt s n at0 k p sc)(h1:at0<=k)(hk:k<s.length)(hd:Ten.isDig s[k]):PartAt s n at0 (k+1) (10*p+(s[k].toNat-48)) (sc*10):=by
 obtain⟨e1,e2,e3⟩:=h;have:=hd.2;refine⟨by rw[e1,show k+1-at0=(k-at0)+1 by omega,Nat.pow_succ],by omega,?_⟩;rw[List.take_succ_eq_append_getElem hk,Ten.numOf_snoc,e3];rw[show n*(sc*10)=n*sc*10 from(Nat.mul_assoc _ _ _).symm];generalize n*sc=q;omega
theorem PartAt.bound {s:List UInt8}{n at0 k p sc:Nat}(h:PartAt s n at0 k p sc)(m:Nat)(hk:k-at0<=m):1<=sc/\sc<=10^m/\p<10^m:=by
 obtain⟨e1,e2,e3⟩:=h;have h1:10^(k-at0)<=10^m:=Nat.pow_le_pow_right (by omega) hk;have h2:1<=10^(k-at0):=Nat.pow_pos (by omega);omega
theorem Ila:∀(t:List UInt8),(∀b∈t,Ten.isDig b)->Ten.numOf t<10^t.length:=by
 intro t
 induction h:t.length generalizing t with
 |zero=>intro _;rw[List.eq_nil_of_length_eq_zero h];decide
 |succ n ih=>
  intro hd;have hne:t≠[]:=by intro e;rw[e] at h;simp at h
  obtain⟨r,b,rfl⟩:∃r b,t=r++[b]:=⟨t.dropLast,t.getLast hne,(List.dropLast_concat_getLast hne).symm⟩;have:=ih r (by simpa using h) (λc hc=>hd c (List.mem_append_left _ hc));have hb:=hd b (by simp);have:=hb.2;rw[Ten.numOf_snoc,Nat.pow_succ];omega
theorem Jja {s:List UInt8}(h:Ten.Valid s){k:Nat}(hk:k<=s.length):(Nt.digs (Ten.numOf (s.take k))).length<=k:=by
 have:=Ila (s.take k) (λb hb=>h.2.2 b (List.mem_of_mem_take hb));rw[List.length_take,Nat.min_eq_left hk] at this;exact Nt.digs_len_lt (Nat.lt_of_lt_of_le this (Nat.pow_le_pow_left (by omega) k))
theorem Vda (s:List UInt8)(w:World)(hs:s.length<=1000):Calls Tryz.prog 215 #[.string ⟨s.toArray⟩] w (NatTold s w):=by
 obtain⟨i0,hi,hz0,hz1,hz2⟩:=info_parts Mc;by_cases h0:s=[]
 ·have HN:=Qd (NatTold.no (w:=w) (w':=w) (s:=s) Br (λh=>h.1 h0))
  subst h0;go_enter Tryz.func215,Tryz.ntmps215
  go_wp2_with fail
  go_ret2
  exact HN.out
 have hpos:0<s.length:=List.length_pos_iff.2 h0;have h0a:s.isEmpty=false:=by simpa using h0
 obtain⟨z,hz⟩:∃z,z=s[0].toNat:=⟨_,rfl⟩;have hg0:((⟨s.toArray⟩:ByteArray)[0]'(show 0<(⟨s.toArray⟩:ByteArray).size from hpos)).toNat=z:=hz.symm;by_cases hlead:1<s.length/\z=48
 ·obtain⟨h1,hz48⟩:=hlead
  have HN:=Qd (NatTold.no (w:=w) (w':=w) (s:=s) Br (λh=>h.2.1 h1 (by rw[So hpos,UInt8.toNat_inj.1 (show s[0].toNat=(48:UInt8).toNat by rw[<-hz,hz48];rfl)])));have hza:((z:Int)==48)=true:=by simp[hz48]
  clear h0 hz hz48;go_enter Tryz.func215,Tryz.ntmps215
  go_wp2_with fail
  go_ret2
  exact HN.out
 have HV:Hid (s≠[]/\(1<s.length->s.head?≠some 48)):=Qd ⟨h0,λh1 e=>hlead ⟨h1,by
  rw[So hpos] at e;injection e with e;rw[hz,e];rfl⟩⟩
 have hgo:s.length<=1\/(1<s.length/\((z:Int)==48)=false):=by
  rcases Nat.lt_or_ge 1 s.length with h |h
  ·exact .inr ⟨h,by rw[beq_eq_false_iff_ne];intro e;exact hlead ⟨h,by omega⟩⟩
  exact .inl h
 clear hlead hz h0;go_enter Tryz.func215,Tryz.ntmps215
 rcases hgo with hl1 |⟨hl1,hza⟩
 all_goals
  go_wp2_with fail
  go_loop [24] (λi=>∃k:Nat,k<=s.length/\i= .int .i64 (k:Int)/\Hid (∀j (hj:j<s.length),j<k->Ten.isDig s[j])) (λi=>s.length-(intOf i).toNat)
  case atStart=>exact⟨0,by omega,rfl,Qd (λj _ h=>absurd h (by omega))⟩
  case round=>
   obtain⟨k,hk,rfl,H⟩:=hrel;by_cases hlt:k<s.length
   ·obtain⟨y,hy⟩:∃y,y=s[k].toNat:=⟨_,rfl⟩
    have hgy:((⟨s.toArray⟩:ByteArray)[k]'(show k<(⟨s.toArray⟩:ByteArray).size from hlt)).toNat=y:=hy.symm;have hy8:y<256:=by rw[hy];exact UInt8.toNat_lt _
    by_cases hd:48<=y/\y<=57
    ·obtain⟨hd1,hd2⟩:=hd
     have HD:Hid (∀j (hj:j<s.length),j<k+1->Ten.isDig s[j]):=Qd (λj hj hjk=>by
      by_cases e:j=k
      ·subst e;exact⟨by rw[<-hy];exact hd1,by rw[<-hy];exact hd2⟩
      exact H.out j hj (by omega))
     clear hy;go_wp2_with fail
     exact⟨⟨k+1,by omega,by go_num,HD⟩,by simp[intOf];omega⟩
    have HN:=Qd (NatTold.no (w:=w) (w':=w) (s:=s) Br (Ti hlt (by rw[<-hy];omega)));have hc:y<48\/(48<=y/\57<y):=by omega
    clear hy hd;rcases hc with hc |⟨hc,hc2⟩
    all_goals
     go_wp2_with fail
     go_ret2
     exact HN.out
   obtain rfl:k=s.length:=by omega
   have HVAL:Hid (Ten.Valid s):=Qd ⟨HV.out.1,HV.out.2,λb hb=>by
    obtain⟨j,hj,rfl⟩:=List.mem_iff_getElem.1 hb;exact H.out j hj hj⟩
   clear hlt;go_wp2_with (at_make;refine Sb _ rfl _ _ 81 rfl 139 i0 (.int .u32 0) Tryz.underlying81 hi hz0 hz1 rfl .i64 .i64 _ _ 0 (s.length/9+1) rfl rfl rfl (by go_num) (by omega) (by rw[hz2];omega) (by omega) w.heap.size w Br Lr ?_;intro w1 hblk1 hb1 hb1' hlt1)
   have hown1:w1.ownsRow w.heap.size 139 1 (.slice (some ⟨w.heap.size,0,none⟩) 0 (s.length/9+1)) 0 []:=by
    have:=hblk1.own (base:=w.heap.size) (n:=0) Lr (by omega) (by simp[maxLen];omega)
    simpa using this
   clear hblk1 hb1' hlt1;go_loopw [5,6] (λov i wr=>∃(k n:Nat),k<=s.length/\i= .int .i64 (k:Int)/\wr.ownsRow w.heap.size 139 1 ov (Nt.digs n).length (U (Nt.digs n))/\Below w.heap.size w wr/\Hid (n=Ten.numOf (s.take k))) (λ_ i _=>s.length-(intOf i).toNat)
   case atStart=>exact⟨0,0,by omega,rfl,by rw[Nt.digs_zero];exact hown1,hb1,Qd rfl⟩
   case round=>
    clear hown1 hb1;obtain⟨k,n,hk,rfl,hown,hbel,H2⟩:=hrel;have hsz:=hbel.size;by_cases hlt:k<s.length
    ·have hdl:(Nt.digs n).length<=1000000:=by
      have:=Jja HVAL.out hk;rw[H2.out];omega
     obtain⟨E,hE⟩:∃E:Nat,E=min (k+9) s.length:=⟨_,rfl⟩;have hE1:k<E:=by omega
     have hE2:E<=s.length:=by omega
     have hE3:E<=k+9:=by omega
     have hEi:min ((k:Int)+9) (s.length:Int)=(E:Int):=by omega
     clear hE;go_wp2_with fail
     go_loop [6,7,8] (λav pv sv=>∃(j p sc:Nat),k<=j/\j<=E/\p<1000000000/\1<=sc/\sc<=1000000000/\av= .int .i64 (j:Int)/\pv= .int .u32 (p:Int)/\sv= .int .u32 (sc:Int)/\Hid (PartAt s n k j p sc)) (λav _ _=>E-(intOf av).toNat)
     case atStart=>exact⟨k,0,1,Lr,by omega,by omega,by omega,by omega,rfl,rfl,rfl,Qd (PartAt.start H2.out)⟩
     case round=>
      obtain⟨j,p,sc,hj1,hj2,hp,hsc1,hsc2,rfl,rfl,rfl,HP⟩:=hrel;by_cases hjE:j<E
      ·have hjs:j<s.length:=by omega
       obtain⟨y,hy⟩:∃y,y=s[j].toNat:=⟨_,rfl⟩;have hgy:((⟨s.toArray⟩:ByteArray)[j]'(show j<(⟨s.toArray⟩:ByteArray).size from hjs)).toNat=y:=hy.symm;have hdg:=HVAL.out.2.2 s[j] (List.getElem_mem hjs);have ST:=Qd (HP.out.step hj1 hjs hdg);have BD:=HP.out.bound 8 (by omega);simp only[Nat.reducePow] at BD;obtain⟨_,hb1,hb2⟩:=BD;unfold Ten.isDig at hdg;rw[<-hy] at ST hdg;obtain⟨hd1,hd2⟩:=hdg;clear hy;go_wp2_with fail
       exact⟨⟨j+1,10*p+(y-48),sc*10,by omega,by omega,by omega,by omega,by omega,by go_num,congrArg (Value.int .u32) (by omega),congrArg (Value.int .u32) (by omega),ST⟩,by simp[intOf];omega⟩
      obtain rfl:j=E:=by omega
      have LEN:=Qd (G0 w.heap.size _ n sc p wr hown hsz hdl hsc1 (by omega) (by omega));clear hown;go_wp2_with (go_at_call 228;refine LEN.out.mono ?_;rintro e w2 ⟨v2,rfl,hown2,hb2⟩)
      exact⟨⟨j,n*sc+p,by omega,rfl,hown2,hbel.trans hb2,Qd HP.out.2.2.symm⟩,by simp[intOf];omega⟩
    obtain rfl:k=s.length:=by omega
    have HY:=Qd (NatTold.yes hbel HVAL.out (by have:=H2.out;rw[List.take_length] at this;rw[<-this];exact IsRes.of_own hown));go_wp2_with fail
    go_ret2
    exact HY.out
def O8 (w:World)(n:Nat)(e:Ending)(w':World):Prop:=∃v,e= .returned v/\IsRes w' v (Nt.digs n)/\Below w.heap.size w w'
theorem Bm {s:List UInt8}{w w':World}{e:Ending}(h:NatTold s w e w')(hv:Ten.Valid s):∃v,e= .returned (.tuple #[v,.bool true])/\IsRes w' v (Nt.digs (Ten.numOf s))/\Below w.heap.size w w':=by
 obtain⟨hb,v,ok,n,rfl,hr,hc⟩:=h;rcases hc with⟨rfl,_,rfl⟩ |⟨_,h2,_⟩
 ·exact⟨v,rfl,hr,hb⟩
 exact absurd hv h2
theorem Te (s:List UInt8)(w:World)(hs:s.length<=1000)(hd:∀b∈s,Ten.isDig b):
 Calls Tryz.prog 197 #[.string ⟨s.toArray⟩] w (O8 w (Ten.numOf s)):=by
 have TL:=Tryz.strings_TrimLeft_one ⟨s.toArray⟩ 48 (by decide) w;rw[show(⟨s.toArray⟩:ByteArray).data.toList=s from rfl,show Lib.trimLeftB s 48=Dg.strip s from rfl] at TL;have hl:=Dg.strip_len s;have HV:=Qd (λh=>Dg.strip_valid hd h);have HN:=Qd (Dg.numOf_strip s);have HZ:=Qd (λh=>Dg.strip_nil (s:=s) h);generalize Dg.strip s=t at*;have HTL:=Qd TL;clear TL hd;by_cases h0:t=[]
 ·have hz:=HZ.out h0
  have hemp:t.isEmpty=true:=by rw[h0];rfl
  have HZ2:=Qd hz;subst h0;clear hz HV HN HZ;go_enter Tryz.func197,Tryz.ntmps197
  go_wp2_with fail
  refine HTL.out.mono ?_;rintro e w' ⟨rfl,rfl⟩;go_wp2_with fail
  go_ret;exact⟨_,rfl,by rw[HZ2.out,Nt.digs_zero];exact IsRes.none_ _,Br⟩
 have hemp:t.isEmpty=false:=by cases t with |nil=>exact absurd rfl h0 |cons a r=>rfl
 have h1:¬t=[]:=h0;have PA:=Qd (λ(wx:World)=>Vda t wx (by omega));have HV2:=Qd (HV.out h0);clear HZ HV;go_enter Tryz.func197,Tryz.ntmps197
 go_wp2_with fail
 refine HTL.out.mono ?_;rintro e w' ⟨rfl,rfl⟩;go_wp2_with fail
 refine(PA.out _).mono ?_;rintro e w2 hnt;obtain⟨v,rfl,hr,hb⟩:=Bm hnt HV2.out;have HR:=Qd hr;clear hnt hr;go_wp2_with fail
 go_ret;exact⟨_,rfl,by rw[<-HN.out];exact HR.out,hb⟩
theorem Hl (s:List UInt8)(n:Nat):(⟨s.toArray⟩:ByteArray).extract n s.length=⟨(s.drop n).toArray⟩:=by
 apply ByteArray.ext
 simp;exact List.take_of_length_le (by simp)
theorem Zq (s:List UInt8)(n:Nat)(h:n<=s.length):(⟨s.toArray⟩:ByteArray).extract 0 n=⟨(s.take n).toArray⟩:=by
 apply ByteArray.ext
 simp
def SkipAt (s:List UInt8)(k:Nat):Prop:=∀i (hi:i<s.length),i<k->s[i]=48
theorem SkipAt.step {s:List UInt8}{k:Nat}(h:SkipAt s k)(hk:k<s.length)(he:s[k]=48):SkipAt s (k+1):=λi hi hik=>by
 by_cases e:i=k
 ·subst e;exact he
 exact h i hi (by omega)
theorem SkipAt.done {s:List UInt8}{k:Nat}(h:SkipAt s k)(hd:∀b∈s,Ten.isDig b)(hk:k<s.length)(hn:k+1<s.length->s[k]≠48):Ten.Valid (s.drop k)/\Ten.numOf (s.drop k)=Ten.numOf s:=⟨Dg.valid_drop hd hk hn,Dg.numOf_drop h (by omega)⟩
theorem Lj (s:List UInt8)(w:World)(hs:s.length<=1000)(h0:0<s.length)(hd:∀b∈s,Ten.isDig b):
 Calls Tryz.prog 166 #[.string ⟨s.toArray⟩] w (O8 w (Ten.numOf s)):=by
 have hsz:(⟨s.toArray⟩:ByteArray).size=s.length:=rfl;have HSZ:=Qd hsz;have HD:=Qd hd;clear hsz hd;go_enter Tryz.func166,Tryz.ntmps166
 go_wp2
 go_loop [3] (λi=>∃k:Nat,k<s.length/\i= .int .i64 (k:Int)/\Hid (SkipAt s k)) (λi=>s.length-(intOf i).toNat)
 case atStart=>exact⟨0,h0,rfl,Qd (λi hi h=>absurd h (by omega))⟩
 case round=>
  obtain⟨k,hk,rfl,H⟩:=hrel;have PA:=Qd (λ(wx:World)=>O1 (s.drop k) wx (by rw[List.length_drop];omega));have SF:=Qd (Hl s k);have hfin:(k+1<s.length->s[k]≠48)->∀e w2,NatTold (s.drop k) w e w2->∃v,e= .returned (.tuple #[v,.bool true])/\IsRes w2 v (Nt.digs (Ten.numOf s))/\Below w.heap.size w w2:=by
   intro hn e w2 hnt;obtain⟨hv,he⟩:=H.out.done HD.out hk hn;rw[<-he];exact Bm hnt hv
  have HF:=Qd hfin;clear hfin;by_cases hlt:k+1<s.length
  ·obtain⟨y,hy⟩:∃y,y=s[k].toNat:=⟨_,rfl⟩
   have hgy:((⟨s.toArray⟩:ByteArray)[k]'(show k<(⟨s.toArray⟩:ByteArray).size from hk)).toNat=y:=hy.symm;have HY:=Qd hy;have h48:Hid (s[k]=48↔y=48):=Qd (by
    rw[hy]
    constructor
    ·intro h;rw[h];rfl
    intro h;exact UInt8.toNat_inj.1 (by rw[h];rfl))
   clear hy;by_cases h1:y=48
   ·subst h1
    have HS:=Qd (H.out.step hk (h48.out.2 rfl));clear PA SF HF;go_wp2
    go_round
    case rel=>exact⟨k+1,hlt,by go_num,HS⟩
    case measure=>simp[intOf];omega
   have hq:((y:Int)==48)=false:=beq_eq_false_iff_ne.2 (by omega);have HF2:=Qd (HF.out (λ_ h=>h1 (h48.out.1 h)));clear HF;go_wp2_with fail
   rw[SF.out];refine(PA.out _).mono ?_;rintro e w2 hnt;obtain⟨v,rfl,hr,hb⟩:=HF2.out e w2 hnt;have HR:=Qd hr;clear hnt hr PA SF HF2;go_wp2_with fail
   go_ret;exact⟨_,rfl,HR.out,hb⟩
  have HF2:=Qd (HF.out (λh=>absurd h hlt));clear HF;go_wp2_with fail
  rw[SF.out];refine(PA.out _).mono ?_;rintro e w2 hnt;obtain⟨v,rfl,hr,hb⟩:=HF2.out e w2 hnt;have HR:=Qd hr;clear hnt hr PA SF HF2;go_wp2_with fail
  go_ret;exact⟨_,rfl,HR.out,hb⟩
end Go.Proofs.YtmiccalfamepdaaGreatDoor
