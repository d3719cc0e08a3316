/- Texts of this proof, joined. -/
import Derived.Test.YtogjgbmngagimaaGreatDoorM13
import Derived.Laws.IdiomRangeMap
import Derived.RangeFuncNested
import Derived.RangeFuncBound
import Derived.RangeFuncLeaves
import Derived.Test.YtogjgbmngagimaaGreatDoorRows
import Derived.Lib.LaidTab
import Derived.LaidMore
import Derived.Stop.LaidErr
import Derived.MakeChecks
import Derived.Lay
set_option linter.all false
set_option maxHeartbeats 8000000
set_option maxRecDepth 100000
namespace Go.Proofs.YtogjgbmngagimaaGreatDoor
open Go.RowKit
theorem Ww {l:List Nat}(h:¬l.length<=32):Tr.trimmed l=false:=by unfold Tr.trimmed;rw[decide_eq_false h];rfl
theorem Xw:Tr.trimmed []=true:=rfl
theorem Av {l:List Nat}(h:l.length<=32)(h0:l.length≠0):Tr.trimmed l= !(l[l.length-1]'(by omega)==0):=by
 unfold Tr.trimmed;rw[decide_eq_true h];have h1:l≠[]:=by rintro rfl;exact h0 rfl
 rw[List.getLastD_eq_getLast?,List.getLast?_eq_some_getLast h1,List.getLast_eq_getElem];cases l with
 |nil=>exact absurd rfl h1
 |cons a r=>rfl
theorem Tl (v:Value)(l:List Nat)(w:World)(h:IsRes w v l):
 Calls Tryz.prog 205 #[v] w λe w'=>e= .returned (.bool (Tr.trimmed l))/\w=w':=by
 obtain⟨A,c,rfl,h1,h2,h3,h4⟩:=h;by_cases hl:l.length<=32
 ·have q1:decide ((l.length:Int)<=32)=true:=decide_eq_true (by omega)
  by_cases h0:l.length=0
  ·have q2:((l.length:Int)==0)=true:=beq_iff_eq.2 (by omega)
   obtain rfl:=List.eq_nil_of_length_eq_zero h0;have HR:=Qd Xw;clear h4 hl h0 h1 h2 h3;go_enter Tryz.func205,Tryz.ntmps205
   go_wp2_with fail
   go_ret;exact⟨Aa (by rw[HR.out]),rfl⟩
  have q2:((l.length:Int)==0)=false:=beq_eq_false_iff_ne.2 (by omega);have HR:=Qd (Av hl h0);obtain⟨b,off,rfl,hb,g0⟩:=h4.at_ (k:=l.length-1) (by simp[U];omega);have g1:w.cell? ⟨b,off+(l.length-1),none⟩=some (.int .u32 ((l[l.length-1]'(by omega):Nat):Int)):=by simpa [U] using g0
  have i0:(0:Int)<=(l.length:Int)-1:=by omega
  have i1:(l.length:Int)-1<(l.length:Int):=by omega
  have i2:((l.length:Int)-1).toNat=l.length-1:=by omega
  clear g0 h4 h3;generalize l[l.length-1]'(by omega)=x at*;generalize Tr.trimmed l=R at*;have q3:((x:Int)!=0)= !(x==0):=by
   by_cases e:x=0
   ·subst e;rfl
   have e1:((x:Int)!=0)=true:=bne_iff_ne.2 (by omega);have e2:(x==0)=false:=beq_eq_false_iff_ne.2 e;rw[e1,e2];rfl
  rw[<-q3] at HR;clear q3;generalize l.length=n at*;cases q4:((x:Int)!=0);all_goals
   rw[q4] at HR;go_enter Tryz.func205,Tryz.ntmps205
   go_wp2_with fail
   go_ret;exact⟨Aa (by rw[HR.out]),rfl⟩
 have q1:decide ((l.length:Int)<=32)=false:=decide_eq_false (by omega);have HR:=Qd (Ww hl);clear hl h4 h3;generalize l.length=n at*;go_enter Tryz.func205,Tryz.ntmps205
 go_wp2_with fail
 go_ret;exact⟨Aa (by rw[HR.out]),rfl⟩
theorem Yw (n:Bool)(t b:List Nat)(d:List Nat)(hd:d=Nt.digs (Nat.gcd (Nt.val t) (Nt.val b))):Tr.ratio ⟨n,t,b⟩=(Tr.trimmed t&&(Tr.trimmed b&&(!b.isEmpty&&(!(t.isEmpty&&n)&&((b==[1])||(d==[1])))))):=by
 subst hd;unfold Tr.ratio Tr.isOne;cases Tr.trimmed t<;>cases Tr.trimmed b<;>cases b.isEmpty<;>cases t.isEmpty<;>cases n<;>simp
theorem Hp (n:Bool)(A1:Option Addr)(t:List Nat)(c1:Nat)(A2:Option Addr)(b:List Nat)(c2:Nat)(w:World)(h1:IsRes w (.slice A1 t.length c1) t)(h2:IsRes w (.slice A2 b.length c2) b)(o1:Nt.Ok t)(o2:Nt.Ok b):
 Calls Tryz.prog 149 #[.agg #[.bool n,.slice A1 t.length c1,.slice A2 b.length c2]] w λe w'=>e= .returned (.bool (Rt.right ⟨n,t,b⟩))/\Below w.heap.size w w':=by
 have hrr:=Tr.ratio_right (n:=⟨n,t,b⟩) o1 o2;obtain⟨d,hd⟩:∃d,d=Nt.digs (Nat.gcd (Nt.val t) (Nt.val b)):=⟨_,rfl⟩;rw[Yw n t b d hd] at hrr;have HR:=Qd hrr;obtain⟨W,hW⟩:∃W,W=w.alloc (.cells #[.bool n,.slice A1 t.length c1,.slice A2 b.length c2] 85):=⟨_,rfl⟩;have hWs:W.heap.size=w.heap.size+1:=by rw[hW];simp
 have hWb:Below w.heap.size w W:=by rw[hW];exact Br.alloc Lr _
 have HQ:Hid (W.cell? ⟨w.heap.size,0,none⟩=some (.bool n)/\W.cell? ⟨w.heap.size,1,none⟩=some (.slice A1 t.length c1)/\W.cell? ⟨w.heap.size,2,none⟩=some (.slice A2 b.length c2)):=Qd (by rw[hW];exact⟨by go_simp,by go_simp,by go_simp⟩);have HW:=Qd hW;have hWl:w.heap.size<W.heap.size:=by omega
 have r1:=h1.below hWb;have r2:=h2.below hWb;have T1:=Qd (Tl _ _ W r1);have T2:=Qd (Tl _ _ W r2);have I2:=Qd (Td _ _ W r2);have GC:=λ(s1:t.length<=1000000) (s2:b.length<=1000000)=>Qx A1 A2 c1 c2 t b W r1 r2 o1 o2 s1 s2;rw[<-hd] at GC;replace GC:=Qd GC;have ON:=Qd (λv (wx:World) (h:IsRes wx v d)=>Td v d wx h);have TB:Hid (Tr.trimmed t=true->t.length<=1000000):=Qd (λh=>by have:=((Tr.trimmed_iff t).1 h).1;omega);have TB2:Hid (Tr.trimmed b=true->b.length<=1000000):=Qd (λh=>by have:=((Tr.trimmed_iff b).1 h).1;omega);have HE:Hid (b.isEmpty=decide (b.length=0)):=Qd (by cases b<;>simp);have HE':Hid (t.isEmpty=decide (t.length=0)):=Qd (by cases t<;>simp);clear hrr hd h1 h2 o1 o2 r1 r2;generalize Rt.right ⟨n,t,b⟩=R at*;generalize Tr.trimmed t=X at*;generalize Tr.trimmed b=Y at*;generalize b.isEmpty=BE at*;generalize t.isEmpty=TE at*;generalize(b==[1])=BO at*;generalize(d==[1])=DO at*;obtain⟨p0,p1,p2⟩:=HQ.out;clear hW;cases X
 ·go_enter Tryz.func149,Tryz.ntmps149
  go_wp2_with fail
  rw[<-HW.out];refine T1.out.mono ?_;rintro e w' ⟨rfl,rfl⟩;go_wp2_with fail
  go_ret;exact⟨Aa (by rw[<-HR.out];rfl),hWb⟩
 cases Y
 ·go_enter Tryz.func149,Tryz.ntmps149
  go_wp2_with fail
  rw[<-HW.out];refine T1.out.mono ?_;rintro e w' ⟨rfl,rfl⟩;go_wp2_with fail
  refine T2.out.mono ?_;rintro e w' ⟨rfl,rfl⟩;go_wp2_with fail
  go_ret;exact⟨Aa (by rw[<-HR.out];rfl),hWb⟩
 have s1:=TB.out rfl;have s2:=TB2.out rfl;have GC2:=Qd (GC.out s1 s2);clear GC TB TB2;generalize t.length=l1 at*;generalize b.length=l2 at*;by_cases z:l2=0
 ·subst z
  have HE2:Hid (BE=true):=Qd (by rw[HE.out];rfl);clear HE;go_enter Tryz.func149,Tryz.ntmps149
  go_wp2_with fail
  rw[<-HW.out];refine T1.out.mono ?_;rintro e w' ⟨rfl,rfl⟩;go_wp2_with fail
  refine T2.out.mono ?_;rintro e w' ⟨rfl,rfl⟩;go_wp2_with fail
  go_ret;exact⟨Aa (by rw[<-HR.out,HE2.out];simp),hWb⟩
 have qb:((l2:Int)==0)=false:=beq_eq_false_iff_ne.2 (by omega);have HE2:Hid (BE=false):=Qd (by rw[HE.out];exact decide_eq_false z);clear HE z;have key:(TE&&n)=true\/(TE&&n)=false:=by cases (TE&&n)<;>simp
 by_cases z1:l1=0
 ·subst z1
  have HT2:Hid (TE=true):=Qd (by rw[HE'.out];rfl);clear HE';cases n
  ·cases BO
   ·go_enter Tryz.func149,Tryz.ntmps149
    go_wp2_with fail
    rw[<-HW.out];refine T1.out.mono ?_;rintro e w' ⟨rfl,rfl⟩;go_wp2_with fail
    refine T2.out.mono ?_;rintro e w' ⟨rfl,rfl⟩;go_wp2_with fail
    refine I2.out.mono ?_;rintro e w' ⟨rfl,rfl⟩;go_wp2_with fail
    refine GC2.out.mono ?_;rintro e w2 ⟨v,rfl,hv,hb2⟩;have O2:=Qd (ON.out _ _ hv);clear hv p0 p1 p2;go_wp2_with fail
    refine O2.out.mono ?_;rintro e w3 ⟨rfl,rfl⟩;go_wp2_with fail
    go_ret;exact⟨Aa (by rw[<-HR.out,HE2.out,HT2.out];simp),hWb.trans (hb2.mono (by omega))⟩
   go_enter Tryz.func149,Tryz.ntmps149
   go_wp2_with fail
   rw[<-HW.out];refine T1.out.mono ?_;rintro e w' ⟨rfl,rfl⟩;go_wp2_with fail
   refine T2.out.mono ?_;rintro e w' ⟨rfl,rfl⟩;go_wp2_with fail
   refine I2.out.mono ?_;rintro e w' ⟨rfl,rfl⟩;go_wp2_with fail
   go_ret;exact⟨Aa (by rw[<-HR.out,HE2.out,HT2.out];simp),hWb⟩
  go_enter Tryz.func149,Tryz.ntmps149
  go_wp2_with fail
  rw[<-HW.out];refine T1.out.mono ?_;rintro e w' ⟨rfl,rfl⟩;go_wp2_with fail
  refine T2.out.mono ?_;rintro e w' ⟨rfl,rfl⟩;go_wp2_with fail
  go_ret;exact⟨Aa (by rw[<-HR.out,HT2.out];simp),hWb⟩
 have qt:((l1:Int)==0)=false:=beq_eq_false_iff_ne.2 (by omega);have HT2:Hid (TE=false):=Qd (by rw[HE'.out];exact decide_eq_false z1);clear HE' z1;cases BO
 ·go_enter Tryz.func149,Tryz.ntmps149
  go_wp2_with fail
  rw[<-HW.out];refine T1.out.mono ?_;rintro e w' ⟨rfl,rfl⟩;go_wp2_with fail
  refine T2.out.mono ?_;rintro e w' ⟨rfl,rfl⟩;go_wp2_with fail
  refine I2.out.mono ?_;rintro e w' ⟨rfl,rfl⟩;go_wp2_with fail
  refine GC2.out.mono ?_;rintro e w2 ⟨v,rfl,hv,hb2⟩;have O2:=Qd (ON.out _ _ hv);clear hv p0 p1 p2;go_wp2_with fail
  refine O2.out.mono ?_;rintro e w3 ⟨rfl,rfl⟩;go_wp2_with fail
  go_ret;exact⟨Aa (by rw[<-HR.out,HE2.out,HT2.out];simp),hWb.trans (hb2.mono (by omega))⟩
 go_enter Tryz.func149,Tryz.ntmps149
 go_wp2_with fail
 rw[<-HW.out];refine T1.out.mono ?_;rintro e w' ⟨rfl,rfl⟩;go_wp2_with fail
 refine T2.out.mono ?_;rintro e w' ⟨rfl,rfl⟩;go_wp2_with fail
 refine I2.out.mono ?_;rintro e w' ⟨rfl,rfl⟩;go_wp2_with fail
 go_ret;exact⟨Aa (by rw[<-HR.out,HE2.out,HT2.out];simp),hWb⟩
section
open Go.RowKit Ar
theorem Y7 (x:Int)(w:World):
 Calls Tryz.prog 150 #[.int .i64 x] w λe w'=>e= .returned (.bool (Lc x))/\w=w':=by
 have HE:Hid (Lc x=(decide (0<=x)&&decide (x<=1114111)&&(decide (x<55296)||decide (57343<x)))):=Qd rfl;by_cases h0:0<=x
 ·by_cases h1:x<=1114111
  ·by_cases h2:x<55296
   ·have E:Hid (Lc x=true):=Qd (by rw[HE.out];simp;omega)
    go_enter Tryz.func150,Tryz.ntmps150
    go_wp2_with fail
    go_ret;exact⟨Aa E.out.symm,rfl⟩
   have q2:decide (x<55296)=false:=decide_eq_false h2;by_cases h3:57343<x
   ·have E:Hid (Lc x=true):=Qd (by rw[HE.out];simp;omega)
    go_enter Tryz.func150,Tryz.ntmps150
    go_wp2_with fail
    go_ret;exact⟨Aa E.out.symm,rfl⟩
   have q3:decide (57343<x)=false:=decide_eq_false h3;have E:Hid (Lc x=false):=Qd (by rw[HE.out];simp;omega);go_enter Tryz.func150,Tryz.ntmps150
   go_wp2_with fail
   go_ret;exact⟨Aa E.out.symm,rfl⟩
  have q1:decide (x<=1114111)=false:=decide_eq_false h1;have E:Hid (Lc x=false):=Qd (by rw[HE.out,q1];simp);go_enter Tryz.func150,Tryz.ntmps150
  go_wp2_with fail
  go_ret;exact⟨Aa E.out.symm,rfl⟩
 have q0:decide (0<=x)=false:=decide_eq_false h0;have E:Hid (Lc x=false):=Qd (by rw[HE.out,q0];simp);have q0':x<0:=by omega
 go_enter Tryz.func150,Tryz.ntmps150
 go_wp2_with fail
 go_ret;exact⟨Aa E.out.symm,rfl⟩
theorem R4 (S:Nat)(A A':Option Addr)(n n' c c':Nat)(w:World):
 Calls Tryz.prog 207 #[.agg #[.int .u64 (S:Int),.slice A n c,.slice A' n' c']] w λe w'=>e= .returned (.bool (decide (n=0)&&decide (n'=1)))/\Below w.heap.size w w':=by
 by_cases h0:n=0
 ·by_cases h1:n'=1
  ·subst h0 h1
   go_enter Tryz.func207,Tryz.ntmps207
   go_wp2_with fail
   go_ret;exact⟨Aa rfl,Br.alloc Lr _⟩
  subst h0;have q:((n':Int)==1)=false:=beq_eq_false_iff_ne.2 (by omega);have HZ:Hid ((decide ((0:Nat)=0)&&decide (n'=1))=false):=Qd (by simp[h1]);clear h1;generalize decide (n'=1)=z at*;go_enter Tryz.func207,Tryz.ntmps207
  go_wp2_with fail
  go_ret;exact⟨Aa HZ.out.symm,Br.alloc Lr _⟩
 have q:((n:Int)==0)=false:=beq_eq_false_iff_ne.2 (by omega);have HZ:Hid ((decide (n=0)&&decide (n'=1))=false):=Qd (by simp[h0]);clear h0;generalize(decide (n=0)&&decide (n'=1))=z at*;go_enter Tryz.func207,Tryz.ntmps207
 go_wp2_with fail
 go_ret;exact⟨Aa HZ.out.symm,Br.alloc Lr _⟩
theorem Zw (a:Ba)(vs:List Value)(w:World)(B:Nat)(h:IsArr w B a vs)(hB:B<=w.heap.size):
 Calls Tryz.prog 151 #[.agg vs.toArray] w λe w'=>e= .returned (.bool (Fb a))/\Below w.heap.size w w':=by
 obtain⟨S,shape,cells⟩:=a;rw[IsArr] at h;obtain⟨A,c,A',c',us,rfl,hS,hf,hf',hw,hl,hl',hcs⟩:=h;have hfl:=(hf'.le (by omega));have hfs:shape.length<=17592186044416:=by have h1:=hf.1;have h2:=hf.2;omega
 have H0:=Qd (λh=>Iq (S:=S) (sh:=shape) (cells:=cells) h);have H1:=Qd (λh=>Hn (S:=S) (sh:=shape) (cells:=cells) h);obtain⟨W,hW⟩:∃W,W=w.alloc (.cells #[.int .u64 (S:Int),.slice A shape.length c,.slice A' cells.length c'] 42):=⟨_,rfl⟩;have hWs:W.heap.size=w.heap.size+1:=by rw[hW];simp
 have hWb:Below w.heap.size w W:=by rw[hW];exact Br.alloc Lr _
 have HQ2:Hid (W.cell? ⟨w.heap.size,2,none⟩=some (.slice A' cells.length c')):=Qd (by rw[hW];go_simp);have HW:=Qd hW;have hWl:w.heap.size<W.heap.size:=by omega
 have AL:=Qd (R4 S A A' shape.length cells.length c c' W);clear hW;by_cases h0:shape.length=0
 ·by_cases h1:cells.length=1
  ·have ha:(decide (shape.length=0)&&decide (cells.length=1))=true:=by simp[h0,h1]
   rw[ha] at AL;obtain⟨b,off,L,kind,neg,top,bot,ch,ins,A1,c1,A2,c2,A3,c3,us3,rfl,hb,hL,HX,t1,t2,t3,t4,t5,t6,g0,g1,g2,g3,g4,g5,g6⟩:=Dd (k:=0) hcs hl' (wr:=W) (λp hp=>hWb.cell (by omega)) (by omega);have HS:=Qd (Jn (S:=S) h0 h1 HX.out.eq);have hcl:(1:Int)<=(cells.length:Int):=by omega
   simp only[Nat.zero_mul,Nat.add_zero] at g1;have hbl:b<W.heap.size:=by omega
   clear HX H0 H1 h0 h1 ha hcs hl' hl hf hf' hw g0 g2 g3 g4 g5 g6;generalize Fb (.mk S shape cells)=R at*;generalize shape.length=z1 at*;generalize cells.length=z2 at*;go_enter Tryz.func151,Tryz.ntmps151
   go_wp2_with fail
   rw[<-HW.out];refine AL.out.mono ?_;rintro e w2 ⟨rfl,hb2⟩;have r2:w2.cell? ⟨w.heap.size,2,none⟩=some (.slice (some ⟨b,off,none⟩) z2 c'):=(hb2.cell (p:=⟨w.heap.size,2,none⟩) hWl).trans HQ2.out;have r1:w2.cell? ⟨b,off+1,none⟩=some (.int .i64 kind):=(hb2.cell (p:=⟨b,off+1,none⟩) hbl).trans g1;clear g1;go_wp2_with fail
   go_ret;exact⟨Aa (by rw[HS.out]),hWb.trans (hb2.mono (by omega))⟩
  have HS:=Qd (H1.out h1);have ha:(decide (shape.length=0)&&decide (cells.length=1))=false:=by simp[h1]
  rw[ha] at AL;clear H0 H1 h0 h1 ha hcs hl' hl hf hf' hw;generalize Fb (.mk S shape cells)=R at*;generalize shape.length=z1 at*;generalize cells.length=z2 at*;go_enter Tryz.func151,Tryz.ntmps151
  go_wp2_with fail
  rw[<-HW.out];refine AL.out.mono ?_;rintro e w2 ⟨rfl,hb2⟩;go_wp2_with fail
  go_ret;exact⟨Aa (by rw[HS.out]),hWb.trans (hb2.mono (by omega))⟩
 have HS:=Qd (H0.out h0);have ha:(decide (shape.length=0)&&decide (cells.length=1))=false:=by simp[h0]
 rw[ha] at AL;clear H0 H1 h0 ha hcs hl' hl hf hf' hw;generalize Fb (.mk S shape cells)=R at*;generalize shape.length=z1 at*;generalize cells.length=z2 at*;go_enter Tryz.func151,Tryz.ntmps151
 go_wp2_with fail
 rw[<-HW.out];refine AL.out.mono ?_;rintro e w2 ⟨rfl,hb2⟩;go_wp2_with fail
 go_ret;exact⟨Aa (by rw[HS.out]),hWb.trans (hb2.mono (by omega))⟩
def Co (n:Nat):Prop:=∀(a:Ba) (vs:List Value) (k:Nat) (w:World) (B:Nat),SizeOf.sizeOf a<n->IsArr w B a vs->B<=w.heap.size->k<=8->
 Calls Tryz.prog 60 #[.agg vs.toArray,.int .i64 (k:Int)] w λe w'=>e= .returned (.bool (Ga (8-k) a))/\Below w.heap.size w w'
theorem S4 (n:Bool)(t b:List Nat):Qb n false t [] b []=Mc n t b:=by
 unfold Qb Mc;cases n<;>cases t<;>cases b<;>rfl
theorem Ip {n:Nat}(ih:Co n)(x:Fa)(vs:List Value)(d:Nat)(w:World)(B:Nat)(hx:SizeOf.sizeOf x<n)(h:IsCel w B x vs)(hB:B<=w.heap.size)(hd:d<=8):
 Calls Tryz.prog 101 #[.agg vs.toArray,.int .i64 (d:Int)] w λe w'=>e= .returned (.bool (Ia (8-d) x))/\Below w.heap.size w w':=by
 obtain⟨L,kind,neg,top,bot,ch,ins⟩:=x;rw[IsCel] at h;obtain⟨A1,c1,A2,c2,A3,c3,us,rfl,hL,hf1,hf2,hf3,hw1,hw2,hw3,hl1,hl2,hl3,hins,hnt,hnb⟩:=h;obtain⟨W,hW⟩:∃W,W=w.alloc (.cells #[.int .u64 (L:Int),.int .i64 kind,.bool neg,.slice A1 top.length c1,.slice A2 bot.length c2,.int .i64 ch,.slice A3 ins.length c3] 87):=⟨_,rfl⟩;have hWs:W.heap.size=w.heap.size+1:=by rw[hW];simp
 have hWb:Below w.heap.size w W:=by rw[hW];exact Br.alloc Lr _
 have HB0:W.heap[w.heap.size]? =some (.cells #[.int .u64 (L:Int),.int .i64 kind,.bool neg,.slice A1 top.length c1,.slice A2 bot.length c2,.int .i64 ch,.slice A3 ins.length c3] 87 (0,0)):=by rw[hW];exact heap_alloc_new _ _
 have hWl:w.heap.size<W.heap.size:=by omega
 have HQ:Hid (∀wx,Below W.heap.size W wx->wx.cell? ⟨w.heap.size,2,none⟩=some (.bool neg)/\wx.cell? ⟨w.heap.size,3,none⟩=some (.slice A1 top.length c1)/\wx.cell? ⟨w.heap.size,4,none⟩=some (.slice A2 bot.length c2)/\wx.cell? ⟨w.heap.size,5,none⟩=some (.int .i64 ch)/\wx.cell? ⟨w.heap.size,6,none⟩=some (.slice A3 ins.length c3)):=Qd (λwx hx=>by
  have hb:=(hx.block w.heap.size hWl).trans HB0;exact⟨(cell_of_row wx w.heap.size 2 _ _ _ hb).trans rfl,(cell_of_row wx w.heap.size 3 _ _ _ hb).trans rfl,(cell_of_row wx w.heap.size 4 _ _ _ hb).trans rfl,(cell_of_row wx w.heap.size 5 _ _ _ hb).trans rfl,(cell_of_row wx w.heap.size 6 _ _ _ hb).trans rfl⟩)
 have HW:=Qd hW;have m1:top.length<=35184372088832:=by have h1:=hf1.1;have h2:=hf1.2;omega
 have m2:bot.length<=35184372088832:=by have h1:=hf2.1;have h2:=hf2.2;omega
 have m3:ins.length<=35184372088832:=by have h1:=hf3.1;have h2:=hf3.2;omega
 have ZR:=λ(wx:World) (hx:Below W.heap.size W wx)=>Nr neg false top [] bot [] A1 A2 none none c1 c2 0 0 wx B (hl1.below (((hWb.mono hB)).trans (hx.mono (by omega)))) (.inl rfl) (hl2.below (((hWb.mono hB)).trans (hx.mono (by omega)))) (.inl rfl) (by have:=hx.size;omega) (by omega) (by simp) (by omega) (by simp);rw[S4] at ZR;simp only[List.length_nil] at ZR;replace ZR:=Qd ZR;have MY:=Qd (λ(wx:World)=>Y7 ch wx);have RR:=Qd (Hp neg A1 top c1 A2 bot c2 W ⟨A1,c1,rfl,hf1.1,hf1.2.2,hnt,(hl1.below (hWb.mono hB)).more (by omega)⟩ ⟨A2,c2,rfl,hf2.1,hf2.2.2,hnb,(hl2.below (hWb.mono hB)).more (by omega)⟩ hw2 hw3);have hsz0:∀a∈ins,SizeOf.sizeOf a<n:=λa ha=>by
  have h1:=List.sizeOf_lt_of_mem ha;simp only[Fa.mk.sizeOf_spec] at hx;omega
 have HS:=Qd hins;have HL:=Qd hl3;have HE0:=Qd (λh=>Cf (l:=ins) h);have HE1:=Qd (λh=>Rc (l:=ins) h);have R0:=Qd (Kn (d:=8-d) (L:=L) (n:=neg) (t:=top) (b:=bot) (c:=ch) (ins:=ins));have R1:=Qd (Ln (d:=8-d) (L:=L) (n:=neg) (t:=top) (b:=bot) (c:=ch) (ins:=ins));have R2:=Qd (Mn (d:=8-d) (L:=L) (n:=neg) (t:=top) (b:=bot) (c:=ch) (ins:=ins));have RX:=Qd (λh0 h1 h2=>Nn (d:=8-d) (L:=L) (k:=kind) (n:=neg) (t:=top) (b:=bot) (c:=ch) (ins:=ins) h0 h1 h2);have RI1:=Qd (λh=>Kj (d:=8-d) (ins:=ins) h);have RI2:=Qd (λh=>Lj (d:=8-d) (ins:=ins) h);clear hins hl1 hl2 hl3 hf1 hf2 hf3 hw1 hw2 hw3 hnt hnb hx hW HB0;generalize top.length=l1 at*;generalize bot.length=l2 at*;generalize Rt.right ⟨neg,top,bot⟩=RT at*;generalize Mc neg top bot=Z at*;generalize Lc ch=MB at*;generalize ins.isEmpty=IE at*;by_cases k0:kind=0
 ·subst k0
  have HR:=Qd R0.out;clear R0 R1 R2 RX RI1 RI2 ZR MY;generalize Ia (8-d) (.mk L 0 neg top bot ch ins)=R at*;go_enter Tryz.func101,Tryz.ntmps101
  go_wp2_with fail
  rw[<-HW.out];refine RR.out.mono ?_;rintro e w2 ⟨rfl,hb2⟩;obtain⟨p2,p3,p4,p5,p6⟩:=HQ.out w2 hb2;clear p2 p3 p4;cases RT
  ·go_wp2_with fail
   go_ret;exact⟨Aa (by rw[HR.out];simp),hWb.trans (hb2.mono (by omega))⟩
  cases q1:(ch==0)
  ·rw[q1] at HR
   go_wp2_with fail
   go_ret;exact⟨Aa (by rw[HR.out];rfl),hWb.trans (hb2.mono (by omega))⟩
  rw[q1] at HR;by_cases h0:ins.length=0
  ·have q2:((ins.length:Int)==0)=true:=beq_iff_eq.2 (by omega)
   have HE:=Qd (HE0.out h0);clear h0 HE0 HE1;generalize ins.length=l3 at*;go_wp2_with fail
   go_ret;exact⟨Aa (by rw[HR.out,HE.out];rfl),hWb.trans (hb2.mono (by omega))⟩
  have q2:((ins.length:Int)==0)=false:=beq_eq_false_iff_ne.2 (by omega);have HE:=Qd (HE1.out h0);clear h0 HE0 HE1;generalize ins.length=l3 at*;go_wp2_with fail
  go_ret;exact⟨Aa (by rw[HR.out,HE.out];rfl),hWb.trans (hb2.mono (by omega))⟩
 by_cases k1:kind=1
 ·subst k1
  have HR:=Qd R1.out;clear R0 R1 R2 RX RI1 RI2 RR k0;generalize Ia (8-d) (.mk L 1 neg top bot ch ins)=R at*;go_enter Tryz.func101,Tryz.ntmps101
  go_wp2_with fail
  rw[<-HW.out];refine(MY.out _).mono ?_;rintro e w3 ⟨rfl,rfl⟩;obtain⟨p2,p3,p4,p5,p6⟩:=HQ.out W Br;clear p5 p6;cases MB
  ·go_wp2_with fail
   go_ret;exact⟨Aa (by rw[HR.out];simp),hWb⟩
  go_wp2_with fail
  refine(ZR.out _ Br).mono ?_;rintro e w2 ⟨rfl,hb2⟩;obtain⟨p2',p3',p4',p5,p6⟩:=HQ.out w2 hb2;clear p2 p3 p4 p2' p3' p4' p5;cases Z
  ·go_wp2_with fail
   go_ret;exact⟨Aa (by rw[HR.out];rfl),hWb.trans (hb2.mono (by omega))⟩
  by_cases h0:ins.length=0
  ·have q2:((ins.length:Int)==0)=true:=beq_iff_eq.2 (by omega)
   have HE:=Qd (HE0.out h0);clear h0 HE0 HE1;generalize ins.length=l3 at*;go_wp2_with fail
   go_ret;exact⟨Aa (by rw[HR.out,HE.out];rfl),hWb.trans (hb2.mono (by omega))⟩
  have q2:((ins.length:Int)==0)=false:=beq_eq_false_iff_ne.2 (by omega);have HE:=Qd (HE1.out h0);clear h0 HE0 HE1;generalize ins.length=l3 at*;go_wp2_with fail
  go_ret;exact⟨Aa (by rw[HR.out,HE.out];rfl),hWb.trans (hb2.mono (by omega))⟩
 have p0:(kind==0)=false:=by simpa using k0
 have p1:(kind==1)=false:=by simpa using k1
 cases p2:(kind==2)
 ·have HR:=Qd (RX.out k0 k1 p2)
  clear R0 R1 R2 RX RI1 RI2 RR k0 k1;generalize Ia (8-d) (.mk L kind neg top bot ch ins)=R at*;go_enter Tryz.func101,Tryz.ntmps101
  go_wp2_with fail
  go_ret;exact⟨Aa (by rw[HR.out]),by rw[HW.out] at hWb;exact hWb⟩
 obtain rfl:kind=2:=by simpa using p2
 have HR:=Qd R2.out;clear R0 R1 R2 RX RR k0 k1 p0 p1 p2;generalize Ia (8-d) (.mk L 2 neg top bot ch ins)=R at*;obtain⟨p2,p3,p4,p5,p6⟩:=HQ.out W Br;rw[HW.out] at p2 p3 p4 p5 p6;by_cases h2:d<8
 ·have q3:decide ((d:Int)<(8:Int))=true:=decide_eq_true (by omega)
  have HD:Hid (decide (0<8-d)=true):=Qd (decide_eq_true (by omega));by_cases h1:ins.length=1
  ·have q2:((ins.length:Int)==1)=true:=beq_iff_eq.2 (by omega)
   obtain⟨a0,ha0⟩:∃a,a=ins[0]'(by omega):=⟨_,rfl⟩;have hi:=RI2.out h1;rw[<-ha0] at hi;have HI:=Qd hi;clear hi;cases q1:(ch==0)
   ·rw[q1] at HR
    clear RI1 RI2 HE0 HE1 ha0 HI h1 h2;generalize ins.length=l3 at*;go_enter Tryz.func101,Tryz.ntmps101
    go_wp2_with fail
    go_ret;exact⟨Aa (by rw[HR.out];simp),by rw[HW.out] at hWb;exact hWb⟩
   rw[q1] at HR;obtain⟨b,off,S,X,xn,xc,Y,yn,yc,rfl,hb,HA,g0,g1,g2⟩:=Ue (k:=0) HS.out HL.out (wr:=w) (λp hp=>rfl) (by omega);simp only[Nat.zero_mul,Nat.add_zero] at g0 g1 g2;rw[<-ha0] at HA;have hsa:SizeOf.sizeOf a0<n:=by rw[ha0];exact hsz0 _ (List.getElem_mem _)
   have SP:=Qd (λ(wx:World) (hx:Below w.heap.size w wx)=>Zw a0 _ wx B (HA.out.below (hx.mono hB)) (by have:=hx.size;omega));have IH:=λ(wx:World) (hx:Below w.heap.size w wx)=>ih a0 _ (d+1) wx B hsa (HA.out.below (hx.mono hB)) (by have:=hx.size;omega) (by omega);have hdd:((d+1:Nat):Int)=(d:Int)+1:=by omega
   have hde:8-(d+1)=8-d-1:=by omega
   rw[hdd,hde] at IH;replace IH:=Qd IH;have HG:Hid (∀wx,Below w.heap.size w wx->wx.cell? ⟨b,off,none⟩=some (.int .u64 (S:Int))/\wx.cell? ⟨b,off+1,none⟩=some (.slice X xn xc)/\wx.cell? ⟨b,off+2,none⟩=some (.slice Y yn yc)):=Qd (λwx hx=>⟨(hx.cell (p:=⟨b,off,none⟩) (show b<_ by omega)).trans g0,(hx.cell (p:=⟨b,off+1,none⟩) (show b<_ by omega)).trans g1,(hx.cell (p:=⟨b,off+2,none⟩) (show b<_ by omega)).trans g2⟩);have hcl:(1:Int)<=(ins.length:Int):=by omega
   clear ha0 hdd hde h1 h2 RI1 RI2 HE0 HE1 g0 g1 g2;generalize Fb a0=SB at*;generalize Ga (8-d-1) a0=RA at*;generalize Va (8-d) ins=RI at*;generalize ins.length=l3 at*;go_enter Tryz.func101,Tryz.ntmps101
   go_wp2_with fail
   clear p2 p3 p4 p5 p6;rw[<-HW.out];refine(ZR.out _ Br).mono ?_;rintro e w2 ⟨rfl,hb2⟩;obtain⟨p2,p3,p4,p5,p6⟩:=HQ.out w2 hb2;clear p2 p3 p4 p5;have hb3:=hWb.trans (hb2.mono (by omega));cases Z
   ·go_wp2_with fail
    go_ret;exact⟨Aa (by rw[HR.out];rfl),hb3⟩
   obtain⟨g0,g1,g2⟩:=HG.out w2 hb3;go_wp2_with fail
   refine(SP.out _ hb3).mono ?_;rintro e w3 ⟨rfl,hb4⟩;have hb5:=hb3.trans (hb4.mono hb3.size);clear p6 g0 g1 g2;obtain⟨p2,p3,p4,p5,p6⟩:=HQ.out w3 (hb2.trans (hb4.mono hb2.size));clear p2 p3 p4 p5;obtain⟨g0,g1,g2⟩:=HG.out w3 hb5;cases SB
   ·go_wp2_with fail
    refine(IH.out _ hb5).mono ?_;rintro e w4 ⟨rfl,hb6⟩;clear p6 g0 g1 g2;go_wp2_with fail
    go_ret;exact⟨Aa (by rw[HR.out,HD.out,HI.out];simp),hb5.trans (hb6.mono hb5.size)⟩
   go_wp2_with fail
   go_ret;exact⟨Aa (by rw[HR.out,HD.out,HI.out];simp),hb5⟩
  have q2:((ins.length:Int)==1)=false:=beq_eq_false_iff_ne.2 (by omega);have HI:=Qd (RI1.out h1);clear h1 RI1 RI2 HE0 HE1 h2;generalize ins.length=l3 at*;go_enter Tryz.func101,Tryz.ntmps101
  go_wp2_with fail
  go_ret;exact⟨Aa (by rw[HR.out,HI.out];simp),by rw[HW.out] at hWb;exact hWb⟩
 have q3:decide ((d:Int)<(8:Int))=false:=decide_eq_false (by omega);have HD:Hid (decide (0<8-d)=false):=Qd (decide_eq_false (by omega));clear h2 RI1 RI2 HE0 HE1;generalize ins.length=l3 at*;go_enter Tryz.func101,Tryz.ntmps101
 go_wp2_with fail
 go_ret;exact⟨Aa (by rw[HR.out,HD.out];simp),by rw[HW.out] at hWb;exact hWb⟩
theorem Ax {n:Nat}(ih:Co n):Co (n+1):=by
 intro a vs d w B hx h hB hd;obtain⟨S,shape,cells⟩:=a;rw[IsArr] at h;obtain⟨A,c,A',c',us,rfl,hS,hf,hf',hw,hl,hl',hcs⟩:=h;obtain⟨W,hW⟩:∃W,W=w.alloc (.cells #[.int .u64 (S:Int),.slice A shape.length c,.slice A' cells.length c'] 42):=⟨_,rfl⟩;have hWs:W.heap.size=w.heap.size+1:=by rw[hW];simp
 have hWb:Below w.heap.size w W:=by rw[hW];exact Br.alloc Lr _
 have q2c:W.cell? ⟨w.heap.size,2,none⟩=some (.slice A' cells.length c'):=by rw[hW];go_simp
 have HQ2:=Qd q2c;have HW:=Qd hW;have hWl:w.heap.size<W.heap.size:=by omega
 have CT:=Qd (Wo A c shape W B (hl.below (hWb.mono hB)) (by have h1:=hf.1;have h2:=hf.2;omega));have HR:=Qd (Jq (d:=8-d) (S:=S) (sh:=shape) (cells:=cells));have hfl:=(hf'.le (by omega));have hsz0:∀a∈cells,SizeOf.sizeOf a<n:=λa ha=>by
  have h1:=List.sizeOf_lt_of_mem ha;simp only[Ba.mk.sizeOf_spec] at hx;omega
 have HC:=Qd hcs;have HL:=Qd hl';have CE:=Qd (λ(k:Nat) (hk:k<cells.length) (u:List Value) (wx:World) (hu:IsCel wx B cells[k] u) (hbx:B<=wx.heap.size)=>Ip ih cells[k] u d wx B (hsz0 _ (List.getElem_mem hk)) hu hbx hd);have HCV:Hid (Ac shape= .returned (.tuple #[.int .i64 (cnt shape).1,.int .i64 (cnt shape).2])):=Qd rfl;clear hcs hl' hl hf hf' hw hsz0 hx hW;generalize Ga (8-d) (.mk S shape cells)=R at*;generalize Ac shape=CV at*;generalize(cnt shape).1=N at*;generalize(cnt shape).2=E at*;generalize shape.length=l1 at*;have hcv:=HCV.out;subst hcv;clear HCV;cases q1:(E==0)
 ·rw[q1] at HR
  have q2:(E !=0)=true:=by simpa using q1
  go_enter Tryz.func60,Tryz.ntmps60
  go_wp2_with fail
  rw[<-HW.out];refine CT.out.mono ?_;rintro e w2 ⟨rfl,rfl⟩;go_wp2_with fail
  go_ret;exact⟨Aa (by rw[HR.out];rfl),hWb⟩
 rw[q1] at HR;have q2:(E !=0)=false:=by simpa using q1
 by_cases hN:N=(cells.length:Int)
 ·subst hN
  have q3:((cells.length:Int)!=(cells.length:Int))=false:=by simp
  have HR2:Hid (R=Ma (8-d) cells):=Qd (by rw[HR.out];simp);clear HR;go_enter Tryz.func60,Tryz.ntmps60
  go_wp2_with fail
  rw[<-HW.out];refine CT.out.mono ?_;rintro e w2 ⟨rfl,rfl⟩;go_wp2_with fail
  clear q2c;go_loopw [8,27] (λ_ i wr=>∃k:Nat,k<=cells.length/\i= .int .i64 k/\Hid (Ma (8-d) (cells.drop k)=Ma (8-d) cells)/\Below W.heap.size W wr) (λ_ i _=>cells.length-(intOf i).toNat)
  case atStart=>exact⟨0,Nat.zero_le _,rfl,Qd rfl,Br⟩
  case round=>
   obtain⟨k,hk,rfl,HT,hbel⟩:=hrel;have hsz:=hbel.size;have hb0:=hWb.trans (hbel.mono (by omega));by_cases hlt:k<cells.length
   ·obtain⟨b,off,L,kind,neg,top,bot,ch,ins,A1,c1,A2,c2,A3,c3,us3,rfl,hb,hL,HX,t1,t2,t3,t4,t5,t6,g0,g1,g2,g3,g4,g5,g6⟩:=Dd HC.out HL.out (wr:=wr) (λp hp=>hb0.cell (by omega)) hlt
    have hbx:=λo=>hbel.alloc hsz (o:=o);have CK:=Qd (λo=>CE.out k hlt _ (wr.alloc o) ((HX.out.is hL).below ((hb0.mono hB).alloc (by omega) o)) (by simp;omega));have HBX:Hid (∀o,Below W.heap.size W (wr.alloc o)):=Qd (λo=>hbel.alloc hsz o);clear hbx;have HST:=Qd (Lh (d:=8-d) hlt);generalize Ia (8-d) cells[k]=RC at*;have hk0:(0:Int)<=(k:Int):=by omega
    have hk1:(k:Int)<(cells.length:Int):=by omega
    go_wp2_with fail
    refine(CK.out _).mono ?_;rintro e w3 ⟨rfl,hb3⟩;have hb4:=(HBX.out _).trans (hb3.mono (HBX.out _).size);clear g0 g1 g2 g3 g4 g5 g6 hb3;cases RC
    ·have HZ:Hid (R=false):=Qd (by rw[HR2.out,<-HT.out,HST.out];rfl)
     go_wp2_with fail
     go_ret;exact⟨Aa (by rw[HZ.out]),hWb.trans (hb4.mono (by omega))⟩
    have HZ:Hid (Ma (8-d) (cells.drop (k+1))=Ma (8-d) cells):=Qd (by rw[<-HT.out,HST.out];rfl);go_wp2_with fail
    go_roundw
    case rel=>exact⟨k+1,by omega,by go_num,HZ,hb4⟩
    case measure=>simp[intOf];omega
   have HZ:Hid (R=true):=Qd (by rw[HR2.out,<-HT.out];exact Ii (by omega));go_wp2_with fail
   go_ret;exact⟨Aa (by rw[HZ.out]),hb0⟩
 have q3:(N !=(cells.length:Int))=true:=by simpa using hN
 have HR2:Hid (R=false):=Qd (by rw[HR.out,show(N==(cells.length:Int))=false by simpa using hN];rfl);clear hN HR;go_enter Tryz.func60,Tryz.ntmps60
 go_wp2_with fail
 rw[<-HW.out];refine CT.out.mono ?_;rintro e w2 ⟨rfl,rfl⟩;go_wp2_with fail
 go_ret;exact⟨Aa (by rw[HR2.out]),hWb⟩
theorem Eo:∀n,Co n
 | 0=>λa vs d w B h=>by omega
 |n+1=>Ax (Eo n)
theorem Bv (a:Ba)(vs:List Value)(w:World)(B:Nat)(h:IsArr w B a vs)(hB:B<=w.heap.size):
 Calls Tryz.prog 24 #[.agg vs.toArray] w λe w'=>e= .returned (.bool (Ga 8 a))/\Below w.heap.size w w':=by
 have RP:=Qd (λ(wx:World) (hx:Below w.heap.size w wx)=>Eo _ a vs 0 wx B (Nat.lt_succ_self _) (h.below (hx.mono hB)) (Nat.le_trans hB hx.size) (by omega));obtain⟨S,A,n,c,A',n',c',rfl⟩:=h.form;clear h;have hb:∀o,Below w.heap.size w (w.alloc o):=λo=>Br.alloc Lr _;have HB:=Qd hb;clear hb;go_enter Tryz.func24,Tryz.ntmps24
 go_wp2_with fail
 refine(RP.out _ (HB.out _)).mono ?_;rintro e w2 ⟨rfl,hb2⟩;go_wp2_with fail
 go_ret;exact⟨rfl,(HB.out _).trans (hb2.mono (HB.out _).size)⟩
end
section
open Go.RowKit Ar
def Im (b:Bool):Value:= .int .i64 (if b then 0 else 16)
def Ef (x:Bool->Value)(r:Option Ba)(w:World)(e:Ending)(w':World):Prop:=∃vs,e= .returned (.tuple #[.agg vs.toArray,x r.isSome])/\IsArrP w' (PR w.heap.size w') (r.getD (.mk 0 [] [])) vs/\Below w.heap.size w w'
theorem Fo (s:List UInt8)(w:World)(hs:s.length<1000000)(hw:RdW w)(hl:∀a,Sp.readP 9 s=some a->Ga 8 a=true->(Sp.arrT a).length<1000000):
 Calls Tryz.prog 18 #[.string ⟨s.toArray⟩] w (Ef Im (Sp.parseX (Sp.readP 9 s) s) w):=by
 obtain⟨W,hW⟩:∃W,W=w.alloc (.cells #[.int .u64 0,.slice none 0 0,.slice none 0 0] 42):=⟨_,rfl⟩;have hWs:W.heap.size=w.heap.size+1:=by rw[hW];simp
 have hWb:Below w.heap.size w W:=by rw[hW];exact Br.alloc Lr _
 have HWb:=Qd hWb;have K0:Hid (Blk W w.heap.size 42 [.int .u64 0,.slice none 0 0,.slice none 0 0]):=Qd (by rw[hW];exact Blk.new w _ _);have HW:=Qd hW;have hwW:=hw.below hWb;have HSP:=Qd hwW.sp;clear hW;obtain⟨g,hg⟩:∃g,g=w.heap.size:=⟨_,rfl⟩;rw[<-hg] at hWs HWb K0;have HG:=Qd hg;have HS:=Qd hWs;have RD:=Qd (Oi 8 (by omega) s W hs hwW);clear hg hWs hWb hw hwW;have HL:=Qd hl;clear hl;obtain⟨r,hr⟩:∃r,r=Sp.readP 9 s:=⟨_,rfl⟩;rw[show(8:Nat)+1=9 from rfl,<-hr] at RD;rw[<-hr] at HL⊢;clear hr;have HEND:Hid (∀(wx:World) (vs:List Value) (r':Option Ba),vs.length=3->Below W.heap.size W wx->Sp.parseX r s=r'->
  (∃n,n<=wx.heap.size/\g<n/\IsArrP wx (PR n wx) (r'.getD (.mk 0 [] [])) vs)->Ef Im (Sp.parseX r s) w (.returned (.tuple #[.agg vs.toArray,Im r'.isSome])) (wx.setRow g vs.toArray)):=Qd (λwx vs r' hv hb he ⟨n,hn,hgn,hp⟩=>by
  rw[he];have hk:Blk wx g 42 [.int .u64 0,.slice none 0 0,.slice none 0 0]:=(hb.block g (by have:=HS.out;omega)).trans K0.out;refine⟨vs,rfl,?_,?_⟩
  ·rw[<-HG.out];exact Qf (Pg hp hgn (Zj hk)) (Nat.le_of_lt hgn)
  rw[<-HG.out];exact Bb (HWb.out.trans (hb.mono (by have:=HS.out;omega))) Lr)
 go_enter Tryz.func18,Tryz.ntmps18
 go_upto_region 1 with fail
 rw[<-HW.out,<-HG.out];go_upto_region 2 with(go_at_call 51;refine RD.out.mono ?_;rintro e w2 ⟨a,vs,rfl,ha,hra,hb2⟩;obtain⟨S,A1,n1,c1,A2,n2,c2,rfl⟩:=ha.form;replace ha:=Qd ha;replace hra:=Qd hra;replace hb2:=Qd hb2)
 refine Gb ?_;intro W3 hW3;have hs2:=hb2.out.size;have HB3:Hid (Below W.heap.size W W3):=Qd (by rw[hW3];exact hb2.out.alloc hs2 _);have k3:W3.heap[w2.heap.size]? =some (.cells #[.int .u64 (S:Int),.slice A1 n1 c1,.slice A2 n2 c2] 42 (0,0)):=by rw[hW3];exact heap_alloc_new _ _
 have HA3:Hid (IsArrP W3 (PR W.heap.size W3) a [.int .u64 (S:Int),.slice A1 n1 c1,.slice A2 n2 c2]):=Qd (by rw[hW3];exact Uc ha.out (Br.alloc Lr _));have hl3:w2.heap.size<W3.heap.size:=by rw[hW3];simp
 have HQ:Hid (∀wx,Below W3.heap.size W3 wx->wx.heap[w2.heap.size]? =some (.cells #[.int .u64 (S:Int),.slice A1 n1 c1,.slice A2 n2 c2] 42 (0,0))):=Qd (λwx hb=>(hb.block _ hl3).trans k3);have HC:Hid (∀wx,Below W3.heap.size W3 wx->wx.cell? ⟨w2.heap.size,0,none⟩=some (.int .u64 (S:Int))/\wx.cell? ⟨w2.heap.size,1,none⟩=some (.slice A1 n1 c1)/\wx.cell? ⟨w2.heap.size,2,none⟩=some (.slice A2 n2 c2)):=Qd (λwx hb=>by
  have h0:=HQ.out wx hb;exact⟨(cell_of_row wx _ 0 _ _ _ h0).trans rfl,(cell_of_row wx _ 1 _ _ _ h0).trans rfl,(cell_of_row wx _ 2 _ _ _ h0).trans rfl⟩)
 have HK:Hid (∀wx,Below W3.heap.size W3 wx->wx.heap[g]? =some (.cells #[.int .u64 0,.slice none 0 0,.slice none 0 0] 42 (0,0))):=Qd (λwx hb=>by
  have h1:=HS.out;have h2:=HB3.out.size;exact(hb.block g (by omega)).trans ((HB3.out.block g (by omega)).trans K0.out))
 have hsW:=HB3.out.size;have HNO:Hid (∀wx,Below W3.heap.size W3 wx->Sp.parseX r s=none->Ef Im (Sp.parseX r s) w (.returned (.tuple #[.agg #[.int .u64 0,.slice none 0 0,.slice none 0 0],.int .i64 16])) (wx.setRow g #[.int .u64 0,.slice none 0 0,.slice none 0 0])):=Qd (λwx hb h=>
  HEND.out wx _ none rfl (HB3.out.trans (hb.mono hsW)) h ⟨W.heap.size,by have:=hb.size;omega,by have:=HS.out;omega,Tn (by omega)⟩)
 have HSP3:=Qd (HSP.out.below HB3.out);obtain⟨q0,q1,q2⟩:=HC.out W3 Br;clear hW3 k3 ha hb2 hs2;cases r with
 |none=>
  have HN:=Qd (HNO.out W3 Br Sl);have K:=Qd (HK.out W3 Br);go_wp2_with (with_reducible refine Lf rfl (.tmp 2) (.tmp 24) rfl g rfl rfl K.out ?_)
  refine Ke (by rfl) (by rfl) (by rfl) rfl K.out ?_;exact HN.out
 |some b=>
  obtain rfl:b=a:=hra.out b rfl;have RR:=Qd (Bv b _ W3 W3.heap.size (Oh HA3.out) Lr);by_cases hR:Ga 8 b=true
  ·have hlen:=HL.out b rfl hR
   rw[hR] at RR;have AT:=Qd (λ(wx:World) (hb:Below W3.heap.size W3 wx)=>Pe _ b _ 8 wx wx.heap.size (Nat.lt_succ_self _) (Oh (Uc HA3.out hb)) Lr hR (IsArrP.wf _ _ HA3.out) hlen (HSP3.out.below hb));have HYES:Hid (Sp.arrT b=s->∀wx,Below W3.heap.size W3 wx->Ef Im (Sp.parseX (some b) s) w (.returned (.tuple #[.agg #[.int .u64 (S:Int),.slice A1 n1 c1,.slice A2 n2 c2],.int .i64 0])) (wx.setRow g #[.int .u64 (S:Int),.slice A1 n1 c1,.slice A2 n2 c2])):=Qd (λh wx hb=>
    HEND.out wx _ (some b) rfl (HB3.out.trans (hb.mono hsW)) (Bo hR h) ⟨W.heap.size,by have:=hb.size;omega,by have:=HS.out;omega,Uc HA3.out hb⟩)
   have HNX:Hid (Sp.arrT b≠s->∀wx,Below W3.heap.size W3 wx->Ef Im (Sp.parseX (some b) s) w (.returned (.tuple #[.agg #[.int .u64 0,.slice none 0 0,.slice none 0 0],.int .i64 16])) (wx.setRow g #[.int .u64 0,.slice none 0 0,.slice none 0 0])):=Qd (λh wx hb=>HNO.out wx hb (Tg (λ_=>h)));generalize Sp.arrT b=t at*;replace hlen:=Qd hlen;clear hR hra;go_wp2_with fail
   refine RR.out.mono ?_;rintro e w4 ⟨rfl,hb4⟩;clear q0 q1 q2;obtain⟨q0,q1,q2⟩:=HC.out w4 hb4;have HB4:=Qd hb4;have hs4:=hb4.size;clear hb4;go_wp2_with fail
   refine(AT.out w4 HB4.out).mono ?_;rintro e w5 ⟨rfl,hb5⟩;have HB5:Hid (Below W3.heap.size W3 w5):=Qd (HB4.out.trans (hb5.mono hs4));clear hb5 q0 q1 q2;have K:=Qd (HK.out w5 HB5.out);have KA:=Qd (HQ.out w5 HB5.out);by_cases ht:t=s
   ·have HN:=Qd (HYES.out ht w5 HB5.out)
    subst ht;go_wp2_with (first|(with_reducible refine Ml rfl (.tmp 4) rfl w2.heap.size rfl KA.out ?_) |(with_reducible refine Lf rfl (.tmp 2) (.tmp 25) rfl g rfl rfl K.out ?_))
    refine Ke (by rfl) (by rfl) (by rfl) rfl K.out ?_;exact HN.out
   have HN:=Qd (HNX.out ht w5 HB5.out);have hne:(t==s)=false:=beq_eq_false_iff_ne.2 ht;go_wp2_with (with_reducible refine Lf rfl (.tmp 2) (.tmp 24) rfl g rfl rfl K.out ?_)
   refine Ke (by rfl) (by rfl) (by rfl) rfl K.out ?_;exact HN.out
  have hR':Ga 8 b=false:=by simpa using hR
  rw[hR'] at RR;have HN:=Qd (λwx hb=>HNO.out wx hb (Tg (λh=>absurd h hR)));clear hR hR' hra;go_wp2_with fail
  refine RR.out.mono ?_;rintro e w4 ⟨rfl,hb4⟩;have HN4:=Qd (HN.out w4 hb4);have K:=Qd (HK.out w4 hb4);clear q0 q1 q2 hb4;go_wp2_with (with_reducible refine Lf rfl (.tmp 2) (.tmp 24) rfl g rfl rfl K.out ?_)
  refine Ke (by rfl) (by rfl) (by rfl) rfl K.out ?_;exact HN4.out
theorem Jp (s:List UInt8)(w:World)(hs:s.length<1000000)(hw:RdW w)(hl:∀a,Sp.readP 9 s=some a->Ga 8 a=true->(Sp.arrT a).length<1000000):
 Calls Tryz.prog 18 #[.string ⟨s.toArray⟩] w (Qe Im (Sp.parseX (Sp.readP 9 s) s) w):=
 (Fo s w hs hw hl).mono λ_ _ ⟨vs,h1,h2,h3⟩=>⟨vs,h1,Oh h2,h3⟩
end
theorem T4 (A:Option Addr)(c:Nat)(w:World):
 Calls Tryz.prog 292 #[.slice A 0 c,.int .i64 0,.int .i64 0] w λe w'=>e= .returned (.tuple #[])/\w=w':=by
 go_enter Tryz.func292,Tryz.ntmps292
 go_wp2_with fail
 go_loop [6] (λi=>i= .int .i64 1) (λ_=>0)
 case atStart=>rfl
 case round=>
  subst hrel;go_wp2_with fail
  go_end0
  exact⟨rfl,rfl⟩
theorem U4 (A:Option Addr)(c:Nat)(n:Int)(w:World):
 Calls Tryz.prog 235 #[.slice A 0 c,.int .i64 0,.int .i64 0,.int .i64 n] w λe w'=>e= .returned (.tuple #[])/\w=w':=by
 have HI:=Qd (T4 A c w);go_enter Tryz.func235,Tryz.ntmps235
 go_wp2_with fail
 go_loop [1,2] (λa b=>a= .int .i64 0/\b= .int .i64 0) (λ_ _=>0)
 case atStart=>exact⟨rfl,rfl⟩
 case round=>
  obtain⟨rfl,rfl⟩:=hrel;go_wp2_with fail
  refine HI.out.mono ?_;rintro e w' ⟨rfl,rfl⟩;go_wp2_with fail
  refine bodyPost_ret (results_none rfl _ _ _) rfl ?_;exact⟨rfl,rfl⟩
theorem Z7 (w:World):
 Calls Tryz.prog 236 #[.int .u64 0] w λe w'=>e= .returned (.int .i64 0)/\w'=w:=by
 have HI:=Qd (Tryz.bits_Len64 0 w (by decide) (by decide));go_enter Tryz.func236,Tryz.ntmps236
 go_wp2_with fail
 refine HI.out.mono ?_;rintro e w' ⟨rfl,rfl⟩;go_wp2_with fail
 go_ret;exact⟨rfl,rfl⟩
theorem Ho (A:Option Addr)(c:Nat)(w:World):
 Calls Tryz.prog 187 #[.slice A 0 c] w λe w'=>e= .returned (.tuple #[])/\w=w':=by
 have HL:=Qd (Z7 w);have HP:=Qd (U4 A c 0 w);go_enter Tryz.func187,Tryz.ntmps187
 go_wp2_with fail
 refine HL.out.mono ?_;rintro e w' ⟨rfl,rfl⟩;go_wp2_with fail
 refine HP.out.mono ?_;rintro e w' ⟨rfl,rfl⟩;go_wp2_with fail
 go_end0
 exact⟨rfl,rfl⟩
def NoneScope (w:World)(p:Nat):Prop:=∃m1 m2 t,w.heap[p]? =some (.cells #[.map (some m1),.map (some m2),.int .i64 0] t (0,0))/\w.heap[m1]? =some (.map #[] 0)/\w.heap[m2]? =some (.map #[] 0)
theorem NoneScope.lt {w:World}{p:Nat}(h:NoneScope w p):p<w.heap.size:=by
 obtain⟨m1,m2,t,h1,-,-⟩:=h;exact(Array.getElem?_eq_some_iff.1 h1).1
theorem NoneScope.below {w w':World}{p:Nat}(h:NoneScope w p)(hb:Below w.heap.size w w'):NoneScope w' p:=by
 obtain⟨m1,m2,t,h1,h2,h3⟩:=h;exact⟨m1,m2,t,by rw[hb.block _ (Array.getElem?_eq_some_iff.1 h1).1,h1],by rw[hb.block _ (Array.getElem?_eq_some_iff.1 h2).1,h2],by rw[hb.block _ (Array.getElem?_eq_some_iff.1 h3).1,h3]⟩
theorem Cv {T E K ty:TypeId}(hT:Tryz.prog.underlying T=some (.map K E)){m:Nat}{w:World}(hb:w.heap[m]? =some (.map #[] 0)):
 (Builtin.len_ #[T] ty #[.map (some m)]).run Tryz.prog w= .ok (.int .i64 0) w:=by
 simp[Builtin.len_,run_underlying hT,MapKept.run_getObj_map hb,goInt]
theorem B8 {T E K:TypeId}(hT:Tryz.prog.underlying T=some (.map K E))(m:Nat)(w:World):(binOp .eql T (.map (some m)) (.map none)).run Tryz.prog w= .ok (.bool false) w:=by
 have e:∀d:Nat,(Op.equalIn (d+1) T (.map (some m)) (.map none)).run Tryz.prog w= .ok false w:=λd=>by simp[Op.equalIn,run_underlying hT]
 simp only[binOp];simp[show Op.equal T (.map (some m)) (.map none)=Op.equalIn (9999+1) T (.map (some m)) (.map none) from rfl,e 9999]
theorem Ck (w:World):
 Calls Tryz.prog 57 #[] w λe w'=>∃p,e= .returned (.pointer (some ⟨p,0,none⟩))/\NoneScope w' p/\Below w.heap.size w w':=by
 have q1:∀(T:TypeId) (wx:World),(Instr.makeMap T none).run Tryz.prog wx= .ok (.map (some wx.heap.size)) (wx.alloc (.map #[] 0)):=λT wx=>rfl;go_enter Tryz.func57,Tryz.ntmps57
 go_wp2_with fail
 refine bodyPost_ret (results_tmp rfl _ _ _) rfl ?_;have h1:=(Below.refl w.heap.size w).alloc Lr (.map #[] 0);have h2:=h1.alloc (by simp) (.map #[] 0);have h3:=h2.alloc (by simp;omega) (.cells #[.map (some w.heap.size),.map (some (w.heap.size+1)),.int .i64 0] 159);refine⟨w.heap.size+1+1,rfl,(?_:NoneScope (((w.alloc (.map #[] 0)).alloc (.map #[] 0)).alloc (.cells #[.map (some w.heap.size),.map (some (w.heap.size+1)),.int .i64 0] 159)) (w.heap.size+1+1)),h3⟩;refine⟨w.heap.size,w.heap.size+1,159,?_,?_,?_⟩
 ·have:=heap_alloc_new ((w.alloc (.map #[] 0)).alloc (.map #[] 0)) (.cells #[.map (some w.heap.size),.map (some (w.heap.size+1)),.int .i64 0] 159)
  simpa using this
 ·rw[heap_alloc_old _ _ (by simp;omega),heap_alloc_old _ _ (by simp),heap_alloc_new]
 rw[heap_alloc_old _ _ (by simp)];have:=heap_alloc_new (w.alloc (.map #[] 0)) (.map #[] 0)
 simpa using this
theorem Dv (p:Nat)(w:World)(h:NoneScope w p):
 Calls Tryz.prog 132 #[.pointer (some ⟨p,0,none⟩)] w λe w'=>e= .returned (.bool false)/\w'=w:=by
 obtain⟨m1,m2,t,h1,h2,h3⟩:=h;have hc:w.cell? ⟨p,0,none⟩=some (.map (some m1)):=by simp[World.cell?,h1]
 have q1:=B8 Tryz.underlying156 m1 w;clear h1 h2 h3;go_enter Tryz.func132,Tryz.ntmps132
 go_wp2_with fail
 refine bodyPost_ret (results_tmp rfl _ _ _) rfl ?_;exact⟨rfl,rfl⟩
theorem V4:(Tryz.prog.info? 9).map (λi=>(i.zero,i.size,i.bytes))=some (some (.string ⟨#[]⟩),1,16):=by kernel_rfl
theorem P8 (w:World):(Instr.makeSlice 73 (.int .i64 0) (.int .i64 0)).run Tryz.prog w= .ok (.slice (some ⟨w.heap.size,0,none⟩) 0 0) (w.alloc (.cells #[] 9)):=by
 obtain⟨i0,hi0,hz0,hz1,hz2⟩:=info_parts V4;have h:=run_make (P:=Tryz.prog) w 73 9 i0 _ Tryz.underlying73 hi0 hz0 .i64 .i64 0 0 (by decide) (by decide) (by rw[Int.mul_zero];decide) (by decide);rw[h];simp only[madeCells];exact congrArg (λr=>Result.ok (Value.slice (some ⟨w.heap.size,0,none⟩) 0 0) (w.alloc (.cells r 9))) (Array.eq_empty_of_size_eq_zero (by simp))
theorem Ev (m:Nat)(w:World)(h:w.heap[m]? =some (.map #[] 0)):
 Calls Tryz.prog 133 #[.map (some m)] w λe w'=>∃A c,e= .returned (.slice A 0 c)/\Below w.heap.size w w':=by
 have hm:m<w.heap.size:=(Array.getElem?_eq_some_iff.1 h).1;have q1:∀(ty:TypeId),(Builtin.len_ #[156] ty #[.map (some m)]).run Tryz.prog w= .ok (.int .i64 0) w:=λty=>Cv Tryz.underlying156 h;have q2:=P8 w;obtain⟨w1,hw1⟩:∃w1,w1=w.alloc (.cells #[] 9):=⟨_,rfl⟩;have hb1:Below w.heap.size w w1:=by rw[hw1];exact Br.alloc Lr _
 have hm1:w1.heap[m]? =some (.map #[] 0):=by rw[hb1.block m hm,h]
 have q3:=run_range_map (P:=Tryz.prog) w1 156 _ _ m #[] 0 Tryz.underlying156 hm1;have q4:∀ty:TypeId,(Instr.next (.pointer (some ⟨w1.heap.size,0,none⟩)) false ty).run Tryz.prog (w1.alloc (.mapIter (some m) 0 #[] 0))= .ok (.tuple #[.bool false]) (w1.alloc (.mapIter (some m) 0 #[] 0)):=λty=>by
  rcases run_next_map (P:=Tryz.prog) w1 ty m 0 0 #[] #[] 0 hm1 (λx hx=>by simp at hx) Lr with⟨-,hr⟩ |⟨e,he,-⟩
  ·exact hr
  simp[leftOf] at he
 obtain⟨w2,hw2⟩:∃w2,w2=w1.alloc (.mapIter (some m) 0 #[] 0):=⟨_,rfl⟩;have hb2:Below w.heap.size w w2:=by rw[hw2];exact hb1.alloc hb1.size _
 rw[<-hw2] at q3 q4;rw[<-hw1] at q2;clear hw1 hw2 hb1 hm1 h hm;have HB:=Qd hb2;clear hb2;obtain⟨it,hit⟩:∃it,it=w1.heap.size:=⟨_,rfl⟩;rw[<-hit] at q3 q4;clear hit;obtain⟨bk,hbk⟩:∃bk,bk=w.heap.size:=⟨_,rfl⟩;have HS:=Qd (λwx=>Ho (some ⟨bk,0,none⟩) 0 wx);rw[<-hbk] at q2;replace hbk:=Qd hbk;go_enter Tryz.func133,Tryz.ntmps133
 go_wp2_with fail
 go_loopw [3] (λv wx=>v= .slice (some ⟨bk,0,none⟩) 0 0/\wx=w2) (λ_ _=>0)
 case atStart=>exact⟨rfl,rfl⟩
 case round=>
  obtain⟨rfl,rfl⟩:=hrel
  rename World=>w2
  go_wp2_with fail
  refine(HS.out _).mono ?_;rintro e w' ⟨rfl,rfl⟩;go_wp2_with fail
  refine bodyPost_ret (results_tmp rfl _ _ _) rfl ?_;exact⟨_,_,rfl,HB.out⟩
theorem Bx (m:Nat)(w:World)(h:w.heap[m]? =some (.map #[] 0)):
 Calls Tryz.prog 134 #[.map (some m)] w λe w'=>∃A c,e= .returned (.slice A 0 c)/\Below w.heap.size w w':=by
 have hm:m<w.heap.size:=(Array.getElem?_eq_some_iff.1 h).1;have q1:∀(ty:TypeId),(Builtin.len_ #[157] ty #[.map (some m)]).run Tryz.prog w= .ok (.int .i64 0) w:=λty=>Cv Tryz.underlying157 h;have q2:=P8 w;obtain⟨w1,hw1⟩:∃w1,w1=w.alloc (.cells #[] 9):=⟨_,rfl⟩;have hb1:Below w.heap.size w w1:=by rw[hw1];exact Br.alloc Lr _
 have hm1:w1.heap[m]? =some (.map #[] 0):=by rw[hb1.block m hm,h]
 have q3:=run_range_map (P:=Tryz.prog) w1 157 _ _ m #[] 0 Tryz.underlying157 hm1;have q4:∀ty:TypeId,(Instr.next (.pointer (some ⟨w1.heap.size,0,none⟩)) false ty).run Tryz.prog (w1.alloc (.mapIter (some m) 0 #[] 0))= .ok (.tuple #[.bool false]) (w1.alloc (.mapIter (some m) 0 #[] 0)):=λty=>by
  rcases run_next_map (P:=Tryz.prog) w1 ty m 0 0 #[] #[] 0 hm1 (λx hx=>by simp at hx) Lr with⟨-,hr⟩ |⟨e,he,-⟩
  ·exact hr
  simp[leftOf] at he
 obtain⟨w2,hw2⟩:∃w2,w2=w1.alloc (.mapIter (some m) 0 #[] 0):=⟨_,rfl⟩;have hb2:Below w.heap.size w w2:=by rw[hw2];exact hb1.alloc hb1.size _
 rw[<-hw2] at q3 q4;rw[<-hw1] at q2;clear hw1 hw2 hb1 hm1 h hm;have HB:=Qd hb2;clear hb2;obtain⟨it,hit⟩:∃it,it=w1.heap.size:=⟨_,rfl⟩;rw[<-hit] at q3 q4;clear hit;obtain⟨bk,hbk⟩:∃bk,bk=w.heap.size:=⟨_,rfl⟩;have HS:=Qd (λwx=>Ho (some ⟨bk,0,none⟩) 0 wx);rw[<-hbk] at q2;replace hbk:=Qd hbk;go_enter Tryz.func134,Tryz.ntmps134
 go_wp2_with fail
 go_loopw [3] (λv wx=>v= .slice (some ⟨bk,0,none⟩) 0 0/\wx=w2) (λ_ _=>0)
 case atStart=>exact⟨rfl,rfl⟩
 case round=>
  obtain⟨rfl,rfl⟩:=hrel
  rename World=>w2
  go_wp2_with fail
  refine(HS.out _).mono ?_;rintro e w' ⟨rfl,rfl⟩;go_wp2_with fail
  refine bodyPost_ret (results_tmp rfl _ _ _) rfl ?_;exact⟨_,_,rfl,HB.out⟩
def Ra (p:Nat)(xs:Nat->Value):Act:={tmps:= #[.pointer (some ⟨p,0,none⟩),undef,xs 10,xs 11,.pointer (some ⟨p,0,none⟩),.bool false,xs 0,xs 1,xs 2,xs 3,xs 4,xs 5,xs 6,xs 7,xs 8,xs 9],defers:=[]}
def Eba (p m1 m2:Nat):Nat->World->Value->Prop
 | 0,w,v=>v= .pointer (some ⟨p,0,none⟩)
 | 1,w,v=>v= .pointer (some ⟨p,0,none⟩)
 | 2,w,v=>v= .pointer (some ⟨p,0,none⟩)
 | 3,w,v=>v= .map (some m1)
 | 4,w,v=>∃A c,v= .slice A 0 c
 | 5,w,v=>v= .pointer (some ⟨p,0,none⟩)
 | 6,w,v=>v= .pointer (some ⟨p,0,none⟩)
 | 7,w,v=>v= .pointer (some ⟨p,1,none⟩)
 | 8,w,v=>v= .map (some m2)
 | 9,w,v=>∃A c,v= .slice A 0 c
 | 10,w,v=>∃A c,v= .slice A 0 c
 |_,w,v=>∃A c,v= .slice A 0 c
theorem Zr (p:Nat)(w:World)(h:NoneScope w p):
 Calls Tryz.prog 91 #[.pointer (some ⟨p,0,none⟩)] w λe w'=>∃A c A' c',e= .returned (.tuple #[.slice A 0 c,.slice A' 0 c'])/\Below w.heap.size w w':=by
 have HN:=Qd (Dv p w h);obtain⟨m1,m2,t,h1,h2,h3⟩:=h;have HC0:Hid (∀wx,Below w.heap.size w wx->wx.cell? ⟨p,0,none⟩=some (.map (some m1))):=Qd (λwx hx=>(hx.cell (p:=⟨p,0,none⟩) (Array.getElem?_eq_some_iff.1 h1).1).trans (by simp[World.cell?,h1]));have HC1:Hid (∀wx,Below w.heap.size w wx->wx.cell? ⟨p,1,none⟩=some (.map (some m2))):=Qd (λwx hx=>(hx.cell (p:=⟨p,1,none⟩) (Array.getElem?_eq_some_iff.1 h1).1).trans (by simp[World.cell?,h1]));have HR1:=Qd (λwx (hx:Below w.heap.size w wx)=>Ev m1 wx ((hx.block _ (Array.getElem?_eq_some_iff.1 h2).1).trans h2));have HR2:=Qd (λwx (hx:Below w.heap.size w wx)=>Bx m2 wx ((hx.block _ (Array.getElem?_eq_some_iff.1 h3).1).trans h3));clear h1 h2 h3;go_enter Tryz.func91,Tryz.ntmps91
 go_upto_region 3 with(go_at_call 132;refine HN.out.mono ?_;rintro e w' ⟨rfl,rfl⟩)
 rename World=>w
 refine Jh (Ra p) w (Eba p m1 m2) (by kernel_rfl) ?_ (by kernel_rfl) (λk=>if 9<k then .slice none 0 0 else undef) rfl Br ?_ ?_
 ·intro i w1 w2 v hv hb
  match i with
  | 0=>exact hv
  | 1=>exact hv
  | 2=>exact hv
  | 3=>exact hv
  | 4=>exact hv
  | 5=>exact hv
  | 6=>exact hv
  | 7=>exact hv
  | 8=>exact hv
  | 9=>exact hv
  | 10=>exact hv
  |i+11=>exact hv
 ·intro i xs w1 hi hb hdep
  have hi6:i<12:=hi;clear hi;rcases(show i=0\/i=1\/i=2\/i=3\/i=4\/i=5\/i=6\/i=7\/i=8\/i=9\/i=10\/i=11 by omega) with rfl |rfl |rfl |rfl |rfl |rfl |rfl |rfl |rfl |rfl |rfl |rfl
  ·refine Ca rfl rfl ?_
   unfold Ra Oper.wp;go_simp
   exact⟨_,by simp only[Ra,La];simp[Act.put],rfl,Br⟩
  ·have h0:xs 0= .pointer (some ⟨p,0,none⟩):=hdep 0 (by kernel_rfl)
   refine Ca rfl rfl ?_;unfold Ra Oper.wp;simp only[h0];go_simp
   exact⟨_,by simp only[Ra,La];simp[Act.put,h0],rfl,Br⟩
  ·have h1:xs 1= .pointer (some ⟨p,0,none⟩):=hdep 1 (by kernel_rfl)
   refine Ca rfl rfl ?_;unfold Ra Oper.wp;simp only[h1];go_simp
   exact⟨_,by simp only[Ra,La];simp[Act.put,h1],rfl,Br⟩
  ·have h2:xs 2= .pointer (some ⟨p,0,none⟩):=hdep 2 (by kernel_rfl)
   refine Ca rfl rfl ?_;have q:=HC0.out w1 hb;unfold Ra Oper.wp;simp only[h2];go_simp
   exact⟨_,by simp only[Ra,La];simp[Act.put,h2],rfl,Br⟩
  ·have h3:xs 3= .map (some m1):=hdep 3 (by kernel_rfl)
   refine Ca rfl rfl ?_;unfold Ra Oper.wp;simp only[h3];go_simp
   refine(HR1.out w1 hb).mono ?_;rintro e w2 ⟨A,c,rfl,hb2⟩;exact⟨_,by simp only[Ra,La];simp[Act.put,h3],⟨A,c,rfl⟩,hb2⟩
  ·refine Ca rfl rfl ?_
   unfold Ra Oper.wp;go_simp
   exact⟨_,by simp only[Ra,La];simp[Act.put],rfl,Br⟩
  ·have h5:xs 5= .pointer (some ⟨p,0,none⟩):=hdep 5 (by kernel_rfl)
   refine Ca rfl rfl ?_;unfold Ra Oper.wp;simp only[h5];go_simp
   exact⟨_,by simp only[Ra,La];simp[Act.put,h5],rfl,Br⟩
  ·have h6:xs 6= .pointer (some ⟨p,0,none⟩):=hdep 6 (by kernel_rfl)
   refine Ca rfl rfl ?_;unfold Ra Oper.wp;simp only[h6];go_simp
   exact⟨_,by simp only[Ra,La];simp[Act.put,h6],rfl,Br⟩
  ·have h7:xs 7= .pointer (some ⟨p,1,none⟩):=hdep 7 (by kernel_rfl)
   refine Ca rfl rfl ?_;have q:=HC1.out w1 hb;unfold Ra Oper.wp;simp only[h7];go_simp
   exact⟨_,by simp only[Ra,La];simp[Act.put,h7],rfl,Br⟩
  ·have h8:xs 8= .map (some m2):=hdep 8 (by kernel_rfl)
   refine Ca rfl rfl ?_;unfold Ra Oper.wp;simp only[h8];go_simp
   refine(HR2.out w1 hb).mono ?_;rintro e w2 ⟨A,c,rfl,hb2⟩;exact⟨_,by simp only[Ra,La];simp[Act.put,h8],⟨A,c,rfl⟩,hb2⟩
  ·have r4:∃A c,(xs 4)= .slice A 0 c:=hdep 4 (by kernel_rfl)
   refine Ca rfl rfl ?_;obtain⟨A,c,h4⟩:=r4;unfold Ra Oper.wp;simp only[h4];go_simp
   exact⟨_,by simp only[Ra,La];simp[Act.put,h4],⟨A,c,rfl⟩,Br⟩
  have r9:∃A c,(xs 9)= .slice A 0 c:=hdep 9 (by kernel_rfl);refine Ca rfl rfl ?_;obtain⟨A,c,h9⟩:=r9;unfold Ra Oper.wp;simp only[h9];go_simp
  exact⟨_,by simp only[Ra,La];simp[Act.put,h9],⟨A,c,rfl⟩,Br⟩
 intro xs w1 hb hx;obtain⟨A,c,h10⟩:∃A c,xs 10= .slice A 0 c:=hx 10 (by decide);obtain⟨A',c',h11⟩:∃A c,xs 11= .slice A 0 c:=hx 11 (by decide);unfold Ra;simp only[h10,h11];go_wp2_with fail
 go_ret2
 exact⟨_,_,_,_,rfl,hb⟩
theorem Fv:Nw.net [115,99,114,105,109,32,49]=[55,58,115,99,114,105,109,32,49,44]:=by
 unfold Nw.net;rw[show([115,99,114,105,109,32,49]:List UInt8).length=7 from rfl,Lib.decDigits_one (by decide)];rfl
theorem Dk (p:Nat)(w:World)(h:NoneScope w p)(hT:Ten20 w):
 Calls Tryz.prog 56 #[.pointer (some ⟨p,0,none⟩)] w λe w'=>e= .returned (.tuple #[.string ⟨#[55,58,115,99,114,105,109,32,49,44]⟩,.int .i64 0])/\Below w.heap.size w w':=by
 obtain⟨W,hW⟩:∃W,W=w.alloc (.cells #[.pointer none,.slice none 0 0] 55):=⟨_,rfl⟩;have hb0:Below w.heap.size w W:=by rw[hW];exact Br.alloc Lr _
 have hs0:W.heap.size=w.heap.size+1:=by rw[hW];simp
 have hbd0:=Kt w;rw[<-hW] at hbd0;have HN:=Qd (Df [115,99,114,105,109,32,49] W (by decide) (hT.below hb0));rw[Fv] at HN;have HW:=Qd hW;clear hW;obtain⟨g,hg⟩:∃g,g=w.heap.size:=⟨_,rfl⟩;rw[<-hg] at hbd0 hs0;have HBD0:=Qd hbd0;have HB0:=Qd hb0;have HG:=Qd hg;have HNS:=Qd h;clear hbd0 hb0 h hT hg;go_enter Tryz.func56,Tryz.ntmps56
 go_upto_region 2 with fail
 rw[<-HW.out,<-HG.out];go_wp2_with fail
 refine HN.out.mono ?_;rintro e W1 ⟨rfl,hb1⟩;have hgW:g<=W.heap.size:=by omega
 have hbd1:=Lb HBD0.out hb1;have hbg1:Below g W W1:=hb1.mono hgW;have WS:=Qd (Kk g g [] [55,58,115,99,114,105,109,32,49,44] W1 hbd1 (by decide) (by have:=hb1.size;omega));clear hbd1;go_upto_region 3 with(go_at_call 26;refine WS.out.mono ?_;rintro e W2 ⟨⟨v,rfl⟩,hbd2,hb2⟩)
 have hw2:Below w.heap.size w W2:=HB0.out.trans (by rw[<-HG.out];exact hbg1.trans hb2);have NM:=Qd (Zr p W2 (HNS.out.below hw2));replace hw2:=Qd hw2;have HBD2:=Qd hbd2;clear hbd2 hb2 hbg1 hb1;go_wp2_with (go_at_call 91;refine NM.out.mono ?_;rintro e W3 ⟨A,c,A',c',rfl,hb3⟩)
 have HW3:Hid (Below w.heap.size w W3):=Qd (hw2.out.trans (hb3.mono hw2.out.size));have hbd3:=Lb HBD2.out hb3;have BS:=Qd (Tryz.Builder_String_any_k g g _ W3 hbd3 (by rw[HG.out];exact HW3.out.size));clear hbd3 hb3
 go_loop [32] (λi=>i= .int .i64 0) (λ_=>0)
 case atStart=>rfl
 case round=>
  subst hrel;go_wp2_with fail
  go_loop [77] (λi=>i= .int .i64 0) (λ_=>0)
  case atStart=>rfl
  case round=>
   subst hrel;go_wp2_with (go_at_call 30;refine BS.out.mono ?_;rintro e w7 ⟨rfl,_,hb7,_⟩)
   go_ret2
   exact⟨rfl,HW3.out.trans (by rw[<-HG.out];exact hb7)⟩
theorem Zz (fn:Fn)(bs cs:Array Value)(w:World):
 Calls Tryz.prog 84 #[.func fn bs cs] w λe w'=>e= .returned (.func (.func 125) #[] #[.pointer (some ⟨w.heap.size,0,none⟩)])/\w'=w.alloc (.cells #[.func fn bs cs] 122):=by
 go_enter Tryz.func84,Tryz.ntmps84
 go_wp2_with fail
 go_ret;exact⟨rfl,rfl⟩
theorem cut_nil:Nw.cut []=none:=by unfold Nw.cut;split<;>rfl
theorem Qi {w w':World}(h:Below w.heap.size w w'):w.grownBy w' none:=⟨h.os,h.tape,h.output,h.size,λk hk _=>h.block k hk⟩
theorem Jo {α:Type}(n bx r:Nat)(encs:α->Array Value)(Kp:World->World->Prop)(w:World)(hb:bx<w.heap.size)(hbx:w.cell? ⟨bx,0,none⟩=some (.func (.func 81) #[.pointer (some ⟨r,0,none⟩)] #[]))(h:IsReader w r []):
 SeqStopsK Fence.wide n Tryz.prog 125 #[.pointer (some ⟨bx,0,none⟩)] encs Kp (λxs=>xs=[]) (λ_=>False) 0 w:=by
 intro l J Jx W hW hJ hJx hY h0;refine callsIn_wide.2 ?_;have hc:W.cell? ⟨bx,0,none⟩=some (.func (.func 81) #[.pointer (some ⟨r,0,none⟩)] #[]):=(hW.cell (p:=⟨bx,0,none⟩) hb).trans hbx;have HN:=Qd (Tj [] r W (by decide) (h.below hW) cut_nil);have HJ:Hid (∀w',Below W.heap.size W w'->J [] w'):=Qd (λw' hb'=>hJ _ _ _ none h0 (Qi hb') (λr e=>by cases e));clear hJ hJx hY h0 hW hb hbx h;go_enter Tryz.func125,Tryz.ntmps125
 go_wp2_with fail
 go_loopw [] (λwx=>wx=W) (λ_=>0)
 case atStart=>rfl
 case round=>
  subst hrel;go_wp2_with fail
  refine HN.out.mono ?_;rintro e W1 ⟨rfl,hb1⟩;go_wp2_with fail
  refine bodyPost_ret (results_none rfl _ _ _) rfl ?_;exact⟨⟨_,rfl⟩,.inl ⟨[],rfl,HJ.out _ hb1⟩⟩
theorem C8:Nw.cut [55,58,115,99,114,105,109,32,49,44]=some ([115,99,114,105,109,32,49],[]):=by
 have h:=Nw.cut_net [115,99,114,105,109,32,49] [];rw[Fv] at h;exact h
structure LdAt (g:Nat) (w W:World) (s:List UInt8):Prop where
 bel:Below g w W
 r2:W.heap[g]? =some (.cells #[.pointer none] 95 (0,0))
 r3:W.heap[g+1]? =some (.cells #[.int .i64 0] 33 (0,0))
 rd:IsReader W (g+1+1) s
 fn:W.heap[g+3]? =some (.cells #[.func (.func 81) #[.pointer (some ⟨g+1+1,0,none⟩)] #[]] 122 (0,0))
theorem LdAt.le {g:Nat}{w W:World}{s:List UInt8}(h:LdAt g w W s):g+3<W.heap.size:=(Array.getElem?_eq_some_iff.1 h.fn).1
theorem LdAt.below {g:Nat}{w W W':World}{s:List UInt8}(h:LdAt g w W s)(hb:Below W.heap.size W W'):LdAt g w W' s:=by
 have hl:=h.le;exact⟨h.bel.trans (hb.mono (by omega)),(hb.block _ (by omega)).trans h.r2,(hb.block _ (by omega)).trans h.r3,h.rd.below hb,(hb.block _ (by omega)).trans h.fn⟩
theorem Sc {W:World}{a:Addr}{v:Value}{k:Nat}(h:k≠a.block):(W.setCell a v).heap[k]? =W.heap[k]? :=by
 show(W.heap.modify a.block _)[k]? =_;rw[Array.getElem?_modify,if_neg (λe=>h e.symm)]
theorem LdAt.set {g:Nat}{w W:World}{s:List UInt8}(h:LdAt g w W s)(t:List UInt8):LdAt g w (W.setCell ⟨g+1+1,0,none⟩ (.string ⟨t.toArray⟩)) t:=
 ⟨h.bel.setCell (p:=⟨g+1+1,0,none⟩) (by show g<=g+1+1;omega) _,(Sc (by show g≠g+1+1;omega)).trans h.r2,(Sc (by show g+1≠g+1+1;omega)).trans h.r3,h.rd.set t,(Sc (by show g+3≠g+1+1;omega)).trans h.fn⟩
theorem LdAt.cell {g:Nat}{w W:World}{s:List UInt8}(h:LdAt g w W s):W.cell? ⟨g+3,0,none⟩=some (.func (.func 81) #[.pointer (some ⟨g+1+1,0,none⟩)] #[]):=by simp[World.cell?,h.fn]
theorem Fba (w:World)(s:List UInt8)(W2:World)(h:W2=((w.alloc (.cells #[.pointer none] 95)).alloc (.cells #[.int .i64 0] 33)).alloc (.cells #[.string ⟨s.toArray⟩] 121)):
 LdAt w.heap.size w (W2.alloc (.cells #[.func (.func 81) #[.pointer (some ⟨w.heap.size+1+1,0,none⟩)] #[]] 122)) s:=by
 subst h;refine⟨?_,?_,?_,?_,?_⟩
 ·exact(((Br.alloc Lr _).alloc (by simp) _).alloc (by simp<;>omega) _).alloc (by simp<;>omega) _
 ·rw[heap_alloc_old _ _ (by simp<;>omega),heap_alloc_old _ _ (by simp<;>omega),heap_alloc_old _ _ (by simp),heap_alloc_new]
 ·rw[heap_alloc_old _ _ (by simp<;>omega),heap_alloc_old _ _ (by simp)]
  have:=heap_alloc_new (w.alloc (.cells #[.pointer none] 95)) (.cells #[.int .i64 0] 33)
  simpa using this
 ·unfold IsReader
  rw[heap_alloc_old _ _ (by simp)];have:=heap_alloc_new ((w.alloc (.cells #[.pointer none] 95)).alloc (.cells #[.int .i64 0] 33)) (.cells #[.string ⟨s.toArray⟩] 121)
  simpa using this
 have:=heap_alloc_new (((w.alloc (.cells #[.pointer none] 95)).alloc (.cells #[.int .i64 0] 33)).alloc (.cells #[.string ⟨s.toArray⟩] 121)) (.cells #[.func (.func 81) #[.pointer (some ⟨w.heap.size+1+1,0,none⟩)] #[]] 122)
 simpa using this
theorem Zc {W:World}{b:Nat}{v:Value}{t:TypeId}(h:W.heap[b]? =some (.cells #[v] t (0,0))):W.cell? ⟨b,0,none⟩=some v:=by simp[World.cell?,h]
theorem Ul {W:World}{b:Nat}{v:Value}{t:TypeId}(h:W.heap[b]? =some (.cells #[v] t (0,0))):W.frozen? ⟨b,0,none⟩=false:=by simp[World.frozen?,h]
theorem Gv {W:World}{b:Nat}{v:Value}{t:TypeId}(h:W.heap[b]? =some (.cells #[v] t (0,0)))(v':Value):(W.setCell ⟨b,0,none⟩ v').heap[b]? =some (.cells #[v'] t (0,0)):=by
 show(W.heap.modify b _)[b]? =_;rw[Array.getElem?_modify,if_pos rfl,h];rfl
theorem X4 (W:World)(v:Value)(t:TypeId):(W.alloc (.cells #[v] t)).cell? ⟨W.heap.size,0,none⟩=some v:=Zc (heap_alloc_new W _)
structure LdIn (g:Nat) (w:World) (p b8 B:Nat) (W:World):Prop where
 at_:LdAt g w W []
 sc:∃m1 m2 t,p<B/\m1<B/\m2<B/\W.heap[p]? =some (.cells #[.map (some m1),.map (some m2),.int .i64 0] t (0,0))/\W.heap[m1]? =some (.map #[] 0)/\W.heap[m2]? =some (.map #[] 0)
 r8:W.heap[b8]? =some (.cells #[.pointer (some ⟨p,0,none⟩)] 95 (0,0))
 l8:b8<B
 lg:g+3<B
 le:B<=W.heap.size
theorem Rca {g:Nat}{w:World}{p b8:Nat}{W:World}(h1:LdAt g w W [])(h2:NoneScope W p)(h3:W.heap[b8]? =some (.cells #[.pointer (some ⟨p,0,none⟩)] 95 (0,0))):LdIn g w p b8 W.heap.size W:=by
 obtain⟨m1,m2,t,e1,e2,e3⟩:=h2;exact⟨h1,⟨m1,m2,t,(Array.getElem?_eq_some_iff.1 e1).1,(Array.getElem?_eq_some_iff.1 e2).1,(Array.getElem?_eq_some_iff.1 e3).1,e1,e2,e3⟩,h3,(Array.getElem?_eq_some_iff.1 h3).1,h1.le,Lr⟩
theorem LdIn.scope {g:Nat}{w:World}{p b8 B:Nat}{W:World}(h:LdIn g w p b8 B W):NoneScope W p:=by
 obtain⟨m1,m2,t,-,-,-,e1,e2,e3⟩:=h.sc;exact⟨m1,m2,t,e1,e2,e3⟩
theorem LdIn.grown {g:Nat}{w:World}{p b8 B:Nat}{W W':World}{row:Option Nat}(h:LdIn g w p b8 B W)(hg:W.grownBy W' row)(hr:∀r,row=some r->B<=r):LdIn g w p b8 B W':=by
 have hk:∀k,k<B->W'.heap[k]? =W.heap[k]? :=λk hk=>hg.block k (Nat.lt_of_lt_of_le hk h.le) (λe=>by have:=hr k e.symm;omega);obtain⟨⟨h1,h2,h3,h4,h5⟩,⟨m1,m2,t,l0,l1,l2,e1,e2,e3⟩,h6,h7,h8,h9⟩:=h;exact⟨⟨h1.grown hg (by omega) (λk e=>by have:=hr k e;omega),(hk _ (by omega)).trans h2,(hk _ (by omega)).trans h3,(hk _ (by omega)).trans h4,(hk _ (by omega)).trans h5⟩,⟨m1,m2,t,l0,l1,l2,(hk _ l0).trans e1,(hk _ l1).trans e2,(hk _ l2).trans e3⟩,(hk _ h7).trans h6,h7,h8,Nat.le_trans h9 hg.size⟩
theorem LdIn.below {g:Nat}{w:World}{p b8 B:Nat}{W W':World}(h:LdIn g w p b8 B W)(hb:Below W.heap.size W W'):LdIn g w p b8 B W':=h.grown (row:=none) (Qi hb) (λr e=>by cases e)
theorem Hv (w:World)(hT:Ten20 w):
 Calls Tryz.prog 58 #[.string ⟨#[55,58,115,99,114,105,109,32,49,44]⟩] w λe w'=>(∃p,e= .returned (.tuple #[.pointer (some p),.int .i64 0]))/\Below w.heap.size w w':=by
 obtain⟨W2,hW2⟩:∃W2,W2=((w.alloc (.cells #[.pointer none] 95)).alloc (.cells #[.int .i64 0] 33)).alloc (.cells #[.string ⟨#[55,58,115,99,114,105,109,32,49,44]⟩] 121):=⟨_,rfl⟩;have hs2:W2.heap.size=w.heap.size+3:=by rw[hW2];simp
 have hld:=Fba w [55,58,115,99,114,105,109,32,49,44] W2 hW2;have HW2:=Qd hW2;have HS2:=Qd hs2;obtain⟨W3,hW3⟩:∃W3,W3=W2.alloc (.cells #[.func (.func 81) #[.pointer (some ⟨w.heap.size+1+1,0,none⟩)] #[]] 122):=⟨_,rfl⟩;rw[<-hW3] at hld;have HW3:=Qd hW3;have HLD:=Qd hld;have NX:=Qd (Uj _ _ _ _ W3 (by decide) hld.rd C8);have hc3:=hld.cell;have HT:=Qd hT;obtain⟨g,hg⟩:∃g,g=w.heap.size:=⟨_,rfl⟩;have HG:=Qd hg;clear hT;refine(callsIn_wide (n:=9)).1 ?_;refine callsIn_of_wp_marks Tryz.func58 rfl trivial ?_ rfl;refine wpIn_wide.2 ?_;simp only[Tryz.ntmps58,List.size_toArray,List.length_cons,List.length_nil,Nat.reduceAdd,Nat.reduceSub,Array.replicate_succ,Array.replicate_zero,List.push_toArray,List.append_toArray,List.nil_append,List.cons_append];clear hW2 hs2 hW3 hld;go_upto_region 2 with fail
 rw[<-HW2.out];go_upto_region 3 with fail
 rw[<-HW3.out,HS2.out];rw[<-hg] at HLD NX hc3⊢;clear hg;go_upto_region 4 with fail
 refine NX.out.mono ?_;rintro e W4 ⟨rfl,w1,hb1,rfl⟩;have HLD4:=Qd ((HLD.out.below hb1).set []);generalize w1.setCell ⟨g+1+1,0,none⟩ (.string ⟨[].toArray⟩)=W4 at*;clear NX HLD hc3 hb1;have SN:=Qd (λwx=>Ck wx);go_upto_region 7 with(refine(SN.out _).mono ?_;rintro e W5 ⟨p,rfl,hns,hb5⟩)
 have hld6:=HLD4.out.below hb5;have hld6':LdAt g w (W5.alloc (.cells #[.pointer (some ⟨p,0,none⟩)] 95)) []:=hld6.below (Br.alloc Lr _);have hns6:NoneScope (W5.alloc (.cells #[.pointer (some ⟨p,0,none⟩)] 95)) p:=hns.below (Br.alloc Lr _);have hin6:=Rca hld6' hns6 (heap_alloc_new W5 _);generalize W5.alloc (.cells #[.pointer (some ⟨p,0,none⟩)] 95)=W6 at*;generalize W5.heap.size=b8 at*;have hc6:=hld6'.cell;have PR:=Qd (Zz (.func 81) #[.pointer (some ⟨g+1+1,0,none⟩)] #[] W6);have HIN6:=Qd hin6;clear hld6 hld6' hns6 hin6 hns hb5 SN HLD4;go_wp2_with (refine PR.out.mono ?_;rintro e W7 ⟨rfl,rfl⟩)
 have hin7:LdIn g w p b8 W6.heap.size (W6.alloc (.cells #[.func (.func 81) #[.pointer (some ⟨g+1+1,0,none⟩)] #[]] 122)):=HIN6.out.below (Br.alloc Lr _);have hcx:=X4 W6 (.func (.func 81) #[.pointer (some ⟨g+1+1,0,none⟩)] #[]) 122;have hsx:W6.heap.size<(W6.alloc (.cells #[.func (.func 81) #[.pointer (some ⟨g+1+1,0,none⟩)] #[]] 122)).heap.size:=by simp
 generalize W6.alloc (.cells #[.func (.func 81) #[.pointer (some ⟨g+1+1,0,none⟩)] #[]] 122)=W7 at*;generalize W6.heap.size=bx at*;have HIN7:=Qd hin7;clear hc6 PR HIN6;refine(wpIn_wide (n:=9)).1 ?_;refine wpIn_rangeFunc_ownF (F:=Fence.wide) (α:=Empty) rfl (by decide) (gf:=125) (lb:= #[.pointer (some ⟨bx,0,none⟩)]) rfl trivial (enters_of Tryz.func125 (by kernel_rfl) rfl)
  (Jo (α:=Empty) 8 bx (g+1+1) (λx=>x.elim) (λ_ _=>True) W7 hsx hcx hin7.at_.rd) (λ_ _=>trivial) (λ_ _ _ _ _ _ _ _=>trivial) Br (λx=>x.elim)
  (λ_ W=>LdIn g w p b8 bx W) (λ_ _ _=>False)
  (λs W W' row hs hg hr=>hs.grown hg (λr e=>by have:=(hr r e).1;omega))
  (λ_ _ _ _ _ hs _ _=>hs)
  hin7 (λx=>x.elim) ?assign ?body ?done ?stop
 case assign=>
  intro l x;exact x.elim
 case body=>
  intro l pre x;exact x.elim
 case stop=>
  rintro D c pre W _ _ h _;exact h.elim
 case done=>
  rintro D xs W hD-hin hK;have hgD:g<=D:=by have:=hin7.lg;have:=hin7.le;omega
  have hc8:=Zc hin.r8;have SV:=Qd (Dk p W hin.scope (HT.out.below (by rw[<-HG.out];exact hin.at_.bel)));have HIN:=Qd hin;have HK:=Qd hK;clear hin hK HIN7 hin7 hcx hsx HW2 HS2 HW3;go_upto_region 14 with fail
  go_upto_region 15 with(go_at_call 56;refine SV.out.mono ?_;rintro e W9 ⟨rfl,hb9⟩)
  have hin9:=HIN.out.below hb9;have hk9:W9.heap[D]? =some (.deferred (some [])):=(hb9.block _ (Array.getElem?_eq_some_iff.1 HK.out).1).trans HK.out;have h8:=Zc hin9.r8;have h2:=Zc hin9.at_.r2;have f2:=Ul hin9.at_.r2;have h3:=Zc hin9.at_.r3;have f3:=Ul hin9.at_.r3;have HIN9:=Qd hin9;have HK9:=Qd hk9;clear hin9 hk9 HIN HK hc8 SV hb9;go_wp2_with fail
  have hk10:((W9.setCell ⟨g,0,none⟩ (.pointer (some ⟨p,0,none⟩))).setCell ⟨g+1,0,none⟩ (.int .i64 0)).heap[D]? =some (.deferred (some [])):=
   (KeepsOthers.setCell _ ⟨g+1,0,none⟩ _).same D _ ((KeepsOthers.setCell _ ⟨g,0,none⟩ _).same D _ HK9.out rfl) rfl
  have hb10:Below g w ((W9.setCell ⟨g,0,none⟩ (.pointer (some ⟨p,0,none⟩))).setCell ⟨g+1,0,none⟩ (.int .i64 0)):=(HIN9.out.at_.bel.setCell (p:=⟨g,0,none⟩) Lr _).setCell (p:=⟨g+1,0,none⟩) (Nat.le_succ _) _;have c2:((W9.setCell ⟨g,0,none⟩ (.pointer (some ⟨p,0,none⟩))).setCell ⟨g+1,0,none⟩ (.int .i64 0)).cell? ⟨g,0,none⟩=some (.pointer (some ⟨p,0,none⟩)):=Zc ((Sc (by show g≠g+1;omega)).trans (Gv HIN9.out.at_.r2 _));have c3:((W9.setCell ⟨g,0,none⟩ (.pointer (some ⟨p,0,none⟩))).setCell ⟨g+1,0,none⟩ (.int .i64 0)).cell? ⟨g+1,0,none⟩=some (.int .i64 0):=Zc (Gv ((Sc (by show g+1≠g;omega)).trans HIN9.out.at_.r3) _);refine⟨by simp,.inl ⟨_,_,rfl,run_takeDeferred hk10,?_⟩⟩;have d2:=cell_kept c2 (grownBy_putObj' _ D (.deferred none)) (λr e=>by cases e;exact⟨_,hk10,rfl⟩);have d3:=cell_kept c3 (grownBy_putObj' _ D (.deferred none)) (λr e=>by cases e;exact⟨_,hk10,rfl⟩);refine⟨.tuple #[.pointer (some ⟨p,0,none⟩),.int .i64 0],?_,⟨_,rfl⟩,?_⟩
  ·simp[results,Tryz.f58,go_sem,d2,d3]
  rw[<-HG.out];exact hb10.trans (belowK_b (w:=w) (n₀:=g) (Nat.le_of_eq HG.out) _ D _ _ (by rw[<-HG.out];exact hgD) hk10 rfl rfl)
theorem Cx (w:World)(hT:Ten20 w):
 Calls Tryz.prog 22 #[] w λe w'=>e= .returned (.bool true)/\Below w.heap.size w w':=by
 have SN:=Qd (Ck w);have SV:=Qd (λ(w1:World) (hb:Below w.heap.size w w1) p (hn:NoneScope w1 p)=>Dk p w1 hn (hT.below hb));have LH:=Qd (λ(w1:World) (hb:Below w.heap.size w w1)=>Hv w1 (hT.below hb));clear hT;go_enter Tryz.func22,Tryz.ntmps22
 go_wp2_with fail
 refine SN.out.mono ?_;rintro e w1 ⟨p,rfl,hn,hb1⟩;go_wp2_with fail
 refine(SV.out _ hb1 _ hn).mono ?_;rintro e w2 ⟨rfl,hb2⟩;have hb2':=hb1.trans (hb2.mono hb1.size);go_wp2_with fail
 refine(LH.out _ hb2').mono ?_;rintro e w3 ⟨⟨q,rfl⟩,hb3⟩;have hb3':=hb2'.trans (hb3.mono hb2'.size);clear hb1 hb2 hb3 hb2' hn SV LH SN;go_wp2_with fail
 go_ret;exact⟨rfl,hb3'⟩
section
open Go.RowKit Ar
theorem Sca {w:World}{B:Nat}{a:Ba}{vs:List Value}(h:IsArr w B a vs):Sp.wfA a:=IsArrP.wf _ _ (IsArr.p _ _ h)
theorem A0 {w:World}{g:Nat}{t:TypeId}{u0 u1 u2:Value}(h:w.heap[g]? =some (.cells #[u0,u1,u2] t (0,0))):w.cell? ⟨g,0,none⟩=some u0/\w.cell? ⟨g,1,none⟩=some u1/\w.cell? ⟨g,2,none⟩=some u2:=
 ⟨(cell_of_row w _ 0 _ _ _ h).trans rfl,(cell_of_row w _ 1 _ _ _ h).trans rfl,(cell_of_row w _ 2 _ _ _ h).trans rfl⟩
theorem D8 {w:World}{B B':Nat}{a:Ba}{vs:List Value}(h:IsArr w B a vs)(hB:B<=B'):IsArr w B' a vs:=IsArrP.is (λb hb=>Nat.lt_of_lt_of_le hb hB) _ _ (IsArr.p _ _ h)
theorem Ko {w:World}{x:Ba}{vs:List Value}(h:IsArr w w.heap.size x vs):∃(S:Nat) (A:Option Addr) (n c:Nat) (A':Option Addr) (n' c':Nat),vs=[.int .u64 (S:Int),.slice A n c,.slice A' n' c']/\
 ∀W,W=w.alloc (.cells #[.int .u64 (S:Int),.slice A n c,.slice A' n' c'] 42)->Below w.heap.size w W/\w.heap.size<W.heap.size/\∀wx,Below W.heap.size W wx->(wx.cell? ⟨w.heap.size,0,none⟩=some (.int .u64 (S:Int))/\wx.cell? ⟨w.heap.size,1,none⟩=some (.slice A n c)/\wx.cell? ⟨w.heap.size,2,none⟩=some (.slice A' n' c'))/\IsArr wx wx.heap.size x [.int .u64 (S:Int),.slice A n c,.slice A' n' c']:=by
 obtain⟨S,A,n,c,A',n',c',rfl⟩:=h.form;refine⟨S,A,n,c,A',n',c',rfl,λW hW=>?_⟩;have hb:Below w.heap.size w W:=by rw[hW];exact Br.alloc Lr _
 have hs:w.heap.size<W.heap.size:=by rw[hW];simp
 exact⟨hb,hs,λwx hx=>⟨A0 ((hx.block _ hs).trans (by rw[hW];exact heap_alloc_new _ _)),D8 (h.below (hb.trans (hx.mono hb.size))) (Nat.le_trans hb.size hx.size)⟩⟩
def Y4 (v:Value)(x:Ba)(w:World)(e:Ending)(w':World):Prop:=∃vs,e= .returned (.tuple #[.agg vs.toArray,v])/\IsArr w' w'.heap.size x vs/\Below w.heap.size w w'
theorem Iv (t:List UInt8)(w:World)(hs:t.length<1000000)(hw:RdW w)(hp:∀a,Sp.readP 9 t=some a->Ga 8 a=true->(Sp.arrT a).length<1000000)(hd:∀a,Sp.readD 9 t=some a->Ga 8 a=true->(Sp.arrT a).length<1000000):
 ∃(ok:Bool) (n:Int) (x:Ba),((ok=true/\n=0)\/(ok=false/\n=16))/\(ok=true->Sp.parseX (Sp.readP 9 t) t=some x)/\
  (∀wx,Below w.heap.size w wx->Calls Tryz.prog 18 #[.string ⟨t.toArray⟩] wx (Y4 (.int .i64 n) x wx))/\∀wx,Calls Tryz.prog 19 #[.string ⟨t.toArray⟩] wx (Y4 (.bool ok) x wx):=by
 have h1:=λwx (hb:Below w.heap.size w wx)=>Jp t wx hs (hw.below hb) hp;have h2:=λwx=>Gp t wx hs hd;rw[<-Sp.parse_both t] at h2;cases hR:Sp.parseX (Sp.readP 9 t) t with
 |none=>rw[hR] at h1 h2;exact⟨false,16,_,.inr ⟨rfl,rfl⟩,nofun,h1,h2⟩
 |some x=>rw[hR] at h1 h2;exact⟨true,0,x,.inl ⟨rfl,rfl⟩,λ_=>rfl,h1,h2⟩
theorem Lo (a:Ba)(vs:List Value)(s:List UInt8)(w:World)(h:IsArr w w.heap.size a vs)(hsl:s.length<=9223372036854775807)(hT:RdW w):
 Calls Tryz.prog 5 #[.agg vs.toArray,.string ⟨s.toArray⟩] w λe w'=>e= .returned (.bool true)/\Below w.heap.size w w':=by
 obtain⟨S,A,n,c,A',n',c',rfl,hk⟩:=Ko h;obtain⟨W,hW⟩:∃W,W=w.alloc (.cells #[.int .u64 (S:Int),.slice A n c,.slice A' n' c'] 42):=⟨_,rfl⟩;obtain⟨hWb,hWs,hkw⟩:=hk W hW;have HK:=Qd hkw;have HW:=Qd hW;have HT:=Qd (hT.below hWb);have HWF:=Qd (Sca h);have GD:=Qd (Z6 a _ W W.heap.size (HK.out W Br).2 Lr);have AW:=Qd (λ(wx:World) (hx:Below W.heap.size W wx)=>Cx wx (HT.out.below hx).sp.ten);have HWB:=Qd hWb;obtain⟨q0,q1,q2⟩:=(HK.out W Br).1;clear hk hkw hW hT h hWb;obtain⟨g,hg⟩:∃g,g=w.heap.size:=⟨_,rfl⟩;rw[<-hg] at hWs HK q0 q1 q2 HWB;have HG:=Qd hg;clear hg;have hsz:(⟨s.toArray⟩:ByteArray).size=s.length:=rfl;have hup:=Pk s 1500;go_enter Tryz.func5,Tryz.ntmps5
 go_upto_region 1 with fail
 rw[<-HW.out,<-HG.out];have hcase:∃t,t.length<=1500/\((1500<s.length/\t=s.take 1500)\/(s.length<=1500/\t=s)):=by
  by_cases hlen:1500<s.length
  ·exact⟨_,by rw[List.length_take];omega,.inl ⟨hlen,rfl⟩⟩
  exact⟨s,by omega,.inr ⟨by omega,rfl⟩⟩
 obtain⟨t,htl,hcase⟩:=hcase;obtain⟨ok,n0,x,hok,-,hPP,hRP⟩:=Iv t W (by omega) HT.out (λx hx=>Sp.readP_len (by omega) hx) (λx hx=>Sp.readD_len (by omega) hx);have PP:=Qd hPP;have RP:=Qd hRP;clear hPP hRP htl;have E1:Hid (1500<s.length->t=s.take 1500->(⟨s.toArray⟩:ByteArray).extract 0 1500=⟨t.toArray⟩):=Qd (λh e=>by rw[e];exact hup (by omega));clear hup;have HOK:=Qd hok;clear hok;rcases hcase with⟨h1,h2⟩ |⟨h1,rfl⟩
 case' inl=>
  have hi:(1500:Int)<(s.length:Int):=by omega
  have hi':(1500:Int)<=(s.length:Int):=by omega
  replace h2:=Qd h2;go_wp2_with fail
  rw[E1.out h1 h2.out];clear hi hi' h1 h2 E1
 case' inr=>
  clear E1;go_wp2_with fail
  clear h1
 all_goals
  refine GD.out.mono ?_;rintro e w1 ⟨r,rfl,hr,hb1⟩;have HR1:=Qd hr;have HBT:=Qd hb1;clear hr hb1 GD q0 q1 q2;cases r
  case' true=>
   obtain⟨hra,hpa⟩:=HR1.out (by first|rfl |trivial);have hta:=Sp.text_len hra HWF.out hpa;obtain⟨ok',n',x',hok',hx',hPP',hRP'⟩:=Iv (Sp.arrT a) W hta HT.out (λx hx _=>Sp.readP_len' hra HWF.out hpa hx) (λx hx _=>Sp.readD_len' hra HWF.out hpa hx);have HX':Hid (ok'=true->x'=a):=Qd (λh=>by
    have h1:=(hx' h).symm.trans (Sp.parse_text hra HWF.out)
    split at h1
    ·exact Option.some.inj h1
    cases h1)
   have AT:=Qd (Pe _ a _ 8 w1 _ (Nat.lt_succ_self _) (HK.out w1 HBT.out).2 Lr hra HWF.out hta (HT.out.below HBT.out).sp);have RT:=Qd (λwx (hx:Below W.heap.size W wx)=>Cd _ a _ 8 wx _ (Nat.lt_succ_self _) (HK.out wx hx).2 Lr hra HWF.out hta);have PP':=Qd hPP';have RP':=Qd hRP';have HOK':=Qd hok';clear hra hpa hta hx' hPP' hRP' hok';generalize Sp.arrT a=ta at*;obtain⟨q0,q1,q2⟩:=(HK.out w1 HBT.out).1;go_wp2_with fail
   refine AT.out.mono ?_;rintro e w2 ⟨rfl,hb2⟩;have HB2:=Qd (HBT.out.trans (hb2.mono HBT.out.size));clear q0 q1 q2 hb2 AT;go_upto_region 6 with(go_at_call 18;refine(PP'.out _ HB2.out).mono ?_;rintro e wA ⟨vA,rfl,hA,hbA⟩;obtain⟨S1,A1,m1,d1,A1',m1',d1',rfl,hk1⟩:=Ko hA;replace hk1:=Qd hk1;replace hbA:=Qd hbA;clear hA)
   refine Gb ?_;intro W3 hW3;obtain⟨hb3,hs3,hk3⟩:=hk1.out W3 hW3;have HB3:=Qd (HB2.out.trans ((hbA.out.trans (hb3.mono hbA.out.size)).mono HB2.out.size));have HK3:=Qd hk3;obtain⟨gA,hgA⟩:∃b,b=wA.heap.size:=⟨_,rfl⟩;rw[<-hgA] at HK3⊢;clear hW3 hk1 hb3 hs3 hk3 hbA hgA;go_upto_region 7 with(go_at_call 19;refine(RP'.out _).mono ?_;rintro e wB ⟨vB,rfl,hB,hbB⟩;obtain⟨S2,A2,m2,d2,A2',m2',d2',rfl,hk2⟩:=Ko hB;replace hk2:=Qd hk2;replace hbB:=Qd hbB;clear hB)
   refine Gb ?_;intro W4 hW4;obtain⟨hb4,hs4,hk4⟩:=hk2.out W4 hW4;have hbW:=hbB.out.trans (hb4.mono hbB.out.size);have HB4:=Qd (HB3.out.trans (hbW.mono HB3.out.size));have HB34:=Qd hbW;obtain⟨gB,hgB⟩:∃b,b=wB.heap.size:=⟨_,rfl⟩;rw[<-hgB];clear hW4 hk2 hb4 hs4 hk4 hbB hgB hbW RP' PP' HB2;obtain⟨q0,q1,q2⟩:=(HK.out W4 HB4.out).1;rcases HOK'.out with⟨rfl,rfl⟩ |⟨rfl,rfl⟩
   case' inl=>
    obtain rfl:=HX'.out (by first|rfl |trivial);go_wp2_with fail
    refine(RT.out W4 HB4.out).mono ?_;rintro e w5 ⟨rfl,hb5⟩;have HB5:=Qd (HB4.out.trans (hb5.mono HB4.out.size));have h35:=HB34.out.trans (hb5.mono HB34.out.size);clear q0 q1 q2 hb5;obtain⟨q0,q1,q2⟩:=(HK.out w5 HB5.out).1;obtain⟨r0,r1,r2⟩:=(HK3.out w5 h35).1;have SM:=Yg _ x' x' _ _ w5 _ (Nat.lt_succ_self _) (HK.out w5 HB5.out).2 (HK3.out w5 h35).2 Lr;rw[Si] at SM;replace SM:=Qd SM;clear h35;go_wp2_with fail
    refine SM.out.mono ?_;rintro e w6 ⟨rfl,hb6⟩;clear HBT;have HBT:=Qd (HB5.out.trans (hb6.mono HB5.out.size));clear q0 q1 q2 r0 r1 r2 hb6 HB5 SM
   case' inr=>
    go_wp2_with fail
    refine(RT.out W4 HB4.out).mono ?_;rintro e w5 ⟨rfl,hb5⟩;clear HBT;have HBT:=Qd (HB4.out.trans (hb5.mono HB4.out.size));clear q0 q1 q2 hb5
   all_goals clear HB3 HK3 HB4 HB34 HOK' HX' RT
  all_goals
   clear HR1;go_upto_region 10 with(go_at_call 18;refine(PP.out _ HBT.out).mono ?_;rintro e wA ⟨vA,rfl,hA,hbA⟩;obtain⟨S7,A7,m7,d7,A7',m7',d7',rfl,hk1⟩:=Ko hA;replace hk1:=Qd hk1;replace hbA:=Qd hbA;clear hA)
   refine Gb ?_;intro W7 hW7;obtain⟨hb7,hs7,hk7⟩:=hk1.out W7 hW7;have HB7:=Qd (HBT.out.trans ((hbA.out.trans (hb7.mono hbA.out.size)).mono HBT.out.size));have HK7:=Qd hk7;obtain⟨gA,hgA⟩:∃b,b=wA.heap.size:=⟨_,rfl⟩;rw[<-hgA] at HK7⊢;clear hW7 hk1 hb7 hs7 hk7 hbA hgA PP;go_upto_region 11 with(go_at_call 19;refine(RP.out _).mono ?_;rintro e wB ⟨vB,rfl,hB,hbB⟩;obtain⟨S8,A8,m8,d8,A8',m8',d8',rfl,hk2⟩:=Ko hB;replace hk2:=Qd hk2;replace hbB:=Qd hbB;clear hB)
   refine Gb ?_;intro W8 hW8;obtain⟨hb8,hs8,hk8⟩:=hk2.out W8 hW8;have hbW:=hbB.out.trans (hb8.mono hbB.out.size);have HB8:=Qd (HB7.out.trans (hbW.mono HB7.out.size));obtain⟨r0,r1,r2⟩:=(HK7.out W8 hbW).1;obtain⟨s0,s1,s2⟩:=(hk8 W8 Br).1;have SM:=Yg _ x x _ _ W8 _ (Nat.lt_succ_self _) (HK7.out W8 hbW).2 (hk8 W8 Br).2 Lr;rw[Si] at SM;replace SM:=Qd SM;obtain⟨gB,hgB⟩:∃b,b=wB.heap.size:=⟨_,rfl⟩;rw[<-hgB] at s0 s1 s2⊢;clear hW8 hk2 hb8 hs8 hk8 hbB hgB hbW RP HK7 HB7;rcases HOK.out with⟨rfl,rfl⟩ |⟨rfl,rfl⟩
   all_goals
    go_wp2_with fail
    refine SM.out.mono ?_;rintro e w9 ⟨rfl,hb9⟩;have hbx:=HB8.out.trans (hb9.mono HB8.out.size);have AX:=Qd (AW.out w9 hbx);clear r0 r1 r2 s0 s1 s2 hb9;go_wp2_with fail
    refine AX.out.mono ?_;rintro e w10 ⟨rfl,hb10⟩;have hby:=hbx.trans (hb10.mono hbx.size);clear hbx hb10 AX;go_wp2_with fail
    go_ret;refine⟨rfl,?_⟩;rw[<-HG.out];exact HWB.out.trans (hby.mono (Nat.le_of_lt hWs))
theorem Jm (a:Ba)(C:Array Value)(s:ByteArray)(w:World)(h:IsArr w w.heap.size a C.toList)(hs:s.size<=maxLen)(hT:RdW w):
 Calls Tryz.prog 5 #[.agg C,.string s] w λe w'=>e= .returned (.bool true)/\Below w.heap.size w w':=by
 obtain⟨⟨l⟩⟩:=s;exact Lo a C.toList l w h (by unfold maxLen at hs;exact hs) hT
end
section
open Go.ChangeShapes Go.WideShapes Go.ChangeAt Go.RowKit
theorem E8:Tryz.prog.globalNamed "internal/strconv.uint64pow10" =some 3:=by kernel_rfl
theorem Lda:(Tryz.prog.globals[3]?).map (·.type)=some 291:=by kernel_rfl
theorem Mda:Tryz.prog.cellsOf 291=20:=by kernel_rfl
theorem Tca:Tryz.prog.cellsOf 22=1:=by kernel_rfl
theorem Z4:Tryz.prog.globalNamed "math/bits.deBruijn64tab" =some 0:=by kernel_rfl
theorem Gba:(Tryz.prog.globals[0]?).map (·.type)=some 215:=by kernel_rfl
theorem Hba:Tryz.prog.cellsOf 215=64:=by kernel_rfl
theorem Uca:Tryz.prog.cellsOf 5=1:=by kernel_rfl
theorem D5:Tryz.prog.globalNamed "strconv.ErrRange" =some 2:=by kernel_rfl
theorem Iba:(Tryz.prog.globals[2]?).map (·.type)=some 57:=by kernel_rfl
theorem Jba:Tryz.prog.globalNamed "strconv.ErrSyntax" =some 1:=by kernel_rfl
theorem Nda:(Tryz.prog.globals[1]?).map (·.type)=some 57:=by kernel_rfl
theorem Kba: "*" ++ "errors.errorString" = "*errors.errorString" :=by decide
theorem Lba (u:TypeId)(h:Tryz.prog.typeName? 3 u=some "*errors.errorString"):u=304:=
 typeName_ptr_named (nm:= "errors.errorString") (by rw[Kba];kernel_rfl) (by kernel_rfl) (by decide) u (by rw[Kba];exact h)
theorem Q8:Tryz.prog.cellsOf 306=1:=by kernel_rfl
theorem Mba:Tryz.prog.cellsOf 9=1:=by kernel_rfl
def Es:List (String×DataW Unit):=[("math/bits.deBruijn32tab",Rows.laid_math_bits_deBruijn32tab),("math/bits.deBruijn64tab",Rows.laid_math_bits_deBruijn64tab),("internal/strconv.uint64pow10",Rows.laid_internal_strconv_uint64pow10),("unicode/utf8.acceptRanges",Rows.laid_unicode_utf8_acceptRanges),("strconv.ErrRange",Rows.laid_strconv_ErrRange),("strconv.ErrSyntax",Rows.laid_strconv_ErrSyntax),("unicode/utf8.first",Rows.laid_unicode_utf8_first)]
theorem F8 (os:Os)(args:Array Value):laidMetH Tryz.prog Es ((World.laidAll Tryz.prog os Es).forCall (λ_ _=>0) ⟨#[],args,[]⟩).memory:=by
 rw[MakeChecks.laidMetH_plain _ _ _ (by kernel_rfl)];exact laidMet_laidAll _ (by kernel_rfl) (by kernel_rfl)
theorem Jv {W:World}{n:String}{g:Nat}{x:Value}(hg:Tryz.prog.globalNamed n=some g)(h:W.var? Tryz.prog n=some #[x]):W.cell? ⟨g,0,none⟩=some x:=by simpa using World.var?_cell hg h 0
theorem Baa {W:World}(h:laidMetH Tryz.prog Es W):RdW W:=by
 rw[MakeChecks.laidMetH_plain _ _ _ (by kernel_rfl)] at h;have h1:=h.tail;have h2:=h.tail.tail;have h4:=h2.tail.tail;have h5:=h4.tail;have hP:=Lib.tabIs_of_head (k:= .u64) (zs:=Lib.pow10Tab) E8 Lda Tryz.underlying291 Tryz.underlying22 Tca Mda h2;have hT:=Lib.tabIs_of_head (k:= .u8) (zs:=Lib.deBruijn64tab.map λn:Nat=>(n:Int)) Z4 Gba Tryz.underlying215 Tryz.underlying5 Uca Hba h1;have hc:Tab64 W:=λj hj=>by
  have:=hT.cell Z4 j (by simpa using hj);rw[this]
  congr 2
  simp[List.getD_eq_getElem?_getD,List.getElem?_map];cases Lib.deBruijn64tab[j]? <;>simp
 have hl:∀g,Tryz.prog.globalNamed "internal/strconv.uint64pow10" =some g→g<W.heap.size:=λg e=>by
  obtain rfl:=Option.some.inj (E8.symm.trans e);exact World.block_lt_of_cell? W _ (hP.cell E8 0 (by decide))
 obtain⟨a0,s0,v0,-⟩:=laid_sentinel h4 D5 Iba Tryz.underlying57 Lba Tryz.underlying304 Tryz.underlying306 rfl rfl Tryz.underlying9 Q8 Mba;obtain⟨a1,s1,v1,-⟩:=laid_sentinel h5 Jba Nda Tryz.underlying57 Lba Tryz.underlying304 Tryz.underlying306 rfl rfl Tryz.underlying9 Q8 Mba;exact⟨⟨hc,World.block_lt_of_cell? W _ (hc 0 (by decide)),⟨hP,hl⟩,⟨hP,hl⟩⟩,⟨_,Jv Jba v1,.inr ⟨_,_,rfl⟩⟩,⟨_,Jv D5 v0,.inr ⟨_,_,rfl⟩⟩⟩
end
end Go.Proofs.YtogjgbmngagimaaGreatDoor
