/- Texts of this proof, joined. -/
import Derived.Test.YtogjgbmngagimaaGreatDoorM6
import Derived.TacticsIn
import Derived.OwnWalkIn
import Derived.Shelf.Abstract
import GoSem.Core.Utf8
set_option linter.all false
set_option maxHeartbeats 8000000
set_option maxRecDepth 100000
namespace Go.Proofs.YtogjgbmngagimaaGreatDoor
section
open Go Go.RowKit
section
variable {l n : Nat} {P : Program} {o : Oper} {a : Act} {w : World} {Q : Exit -> Act -> World -> Prop} {K : Act -> World -> Prop}
theorem O6 (hd:∀c,o.op≠ .defer c)(h:o.wp P a w K Q):o.wpIn (Fence.wide.inRound l) n P a w K Q:=by
 refine⟨λ_ _=>trivial,?_⟩;rw[Oper.semAt_eq _ _ _ hd];unfold Oper.wp at h
 revert h
 cases (execOp a.eval o).run P w with
 |ok nx w'=>
  intro h;cases nx with
  |value v=>exact h
  |skip=>exact h
  |defer d=>exact h
  |enter f args=>exact⟨λe=>(by cases e),CallsIn.inRound l (callsIn_wide.2 h)⟩
  |row row args=>exact⟨λe=>(by cases e),λc cs _=>let ⟨v,w',r,s⟩:=h c cs;⟨v,w',r,stepsIn_wide.2 s⟩⟩
  |_=>exact h.elim
 |halt e w'=>
  intro h;cases e<;>exact h
variable {ops : Array Oper} {rest : List Oper}
theorem Kd (hg:o.guard=none)(hd:∀c,o.op≠ .defer c)(h:∀K:Act->World->Prop,(∀a w,wpListIn (Fence.wide.inRound l) n P ops Q rest a w->K a w)->o.wp P a w K Q):wpListIn (Fence.wide.inRound l) n P ops Q (o::rest) a w:=
 wpListIn_plain hg λK hK=>O6 hd (h K hK)
end
end
section
open Go.RowKit Ar
def Qb (n n':Bool)(t t' b b':List Nat):Bool:=(n==n')&&(t==t')&&(b==b')
theorem Nr (n n':Bool)(t t' b b':List Nat)(A1 A2 A1' A2':Option Addr)(c1 c2 c1' c2':Nat)(w:World)(B:Nat)(h1:Lies w B A1 (Ec t))(h1':Lies w B A1' (Ec t'))(h2:Lies w B A2 (Ec b))(h2':Lies w B A2' (Ec b'))(hB:B<=w.heap.size)
 (k1:t.length<=9223372036854775807) (k1':t'.length<=9223372036854775807) (k2:b.length<=9223372036854775807) (k2':b'.length<=9223372036854775807):
 Calls Tryz.prog 114 #[.agg #[.bool n,.slice A1 t.length c1,.slice A2 b.length c2],.agg #[.bool n',.slice A1' t'.length c1',.slice A2' b'.length c2']] w λe w'=>e= .returned (.bool (Qb n n' t t' b b'))/\Below w.heap.size w w':=by
 have E1:=Qd (λ(wx:World) (hx:Below w.heap.size w wx)=>Hq t t' A1 A1' c1 c1' wx B (h1.below (hx.mono hB)) (h1'.below (hx.mono hB)) k1 k1');have E2:=Qd (λ(wx:World) (hx:Below w.heap.size w wx)=>Hq b b' A2 A2' c2 c2' wx B (h2.below (hx.mono hB)) (h2'.below (hx.mono hB)) k2 k2');have HR:Hid (Qb n n' t t' b b'=((n==n')&&(t==t')&&(b==b'))):=Qd rfl;clear h1 h1' h2 h2';generalize Qb n n' t t' b b'=R at*;generalize(t==t')=x at*;generalize(b==b')=y at*;cases hnn:(n==n')
 ·rw[hnn] at HR
  go_enter Tryz.func114,Tryz.ntmps114
  go_wp2_with fail
  go_ret;exact⟨Aa (by rw[HR.out];simp),(Br.alloc Lr _).alloc (by simp) _⟩
 rw[hnn] at HR;go_enter Tryz.func114,Tryz.ntmps114
 go_wp2_with fail
 have hb0:Below w.heap.size w ((w.alloc (.cells #[.bool n,.slice A1 t.length c1,.slice A2 b.length c2] 85)).alloc (.cells #[.bool n',.slice A1' t'.length c1',.slice A2' b'.length c2'] 85)):=(Br.alloc Lr _).alloc (by simp) _;refine(E1.out _ hb0).mono ?_;rintro e w2 ⟨rfl,hb2⟩;have hb3:=hb0.trans (hb2.mono hb0.size);obtain⟨hc,hfz⟩:(∀o,w2.cell? ⟨w.heap.size,o,none⟩=_)/\(∀o,w2.cell? ⟨w.heap.size+1,o,none⟩=_):=⟨λo=>hb2.cell (p:=⟨w.heap.size,o,none⟩) (by show w.heap.size<_;simp;omega),λo=>hb2.cell (p:=⟨w.heap.size+1,o,none⟩) (by show w.heap.size+1<_;simp)⟩;cases x
 ·go_wp2_with fail
  go_ret;exact⟨Aa (by rw[HR.out];simp),hb3⟩
 go_wp2_with fail
 refine(E2.out _ hb3).mono ?_;rintro e w3 ⟨rfl,hb4⟩;clear hc hfz;go_wp2_with fail
 go_ret;exact⟨Aa (by rw[HR.out];simp),hb3.trans (hb4.mono hb3.size)⟩
theorem Xf (n n':Bool)(t t' b b':List Nat)(A1 A2 A1' A2':Option Addr)(c1 c2 c1' c2':Nat)(w:World)(B:Nat)(h1:Lies w B A1 (Ec t))(h1':Lies w B A1' (Ec t'))(h2:Lies w B A2 (Ec b))(h2':Lies w B A2' (Ec b'))(hB:B<=w.heap.size)
 (k1:t.length<=9223372036854775807) (k1':t'.length<=9223372036854775807) (k2:b.length<=9223372036854775807) (k2':b'.length<=9223372036854775807):
 Calls Tryz.prog 90 #[.agg #[.bool n,.slice A1 t.length c1,.slice A2 b.length c2],.agg #[.bool n',.slice A1' t'.length c1',.slice A2' b'.length c2']] w λe w'=>e= .returned (.bool (Qb n n' t t' b b'))/\Below w.heap.size w w':=by
 have E1:=Qd (λ(wx:World) (hx:Below w.heap.size w wx)=>Jj t t' A1 A1' c1 c1' wx B (h1.below (hx.mono hB)) (h1'.below (hx.mono hB)) k1 k1');have E2:=Qd (λ(wx:World) (hx:Below w.heap.size w wx)=>Jj b b' A2 A2' c2 c2' wx B (h2.below (hx.mono hB)) (h2'.below (hx.mono hB)) k2 k2');have HR:Hid (Qb n n' t t' b b'=((n==n')&&(t==t')&&(b==b'))):=Qd rfl;clear h1 h1' h2 h2';generalize Qb n n' t t' b b'=R at*;generalize(t==t')=x at*;generalize(b==b')=y at*;cases hnn:(n==n')
 ·rw[hnn] at HR
  go_enter Tryz.func90,Tryz.ntmps90
  go_wp2_with fail
  go_ret;exact⟨Aa (by rw[HR.out];simp),(Br.alloc Lr _).alloc (by simp) _⟩
 rw[hnn] at HR;go_enter Tryz.func90,Tryz.ntmps90
 go_wp2_with fail
 have hb0:Below w.heap.size w ((w.alloc (.cells #[.bool n,.slice A1 t.length c1,.slice A2 b.length c2] 85)).alloc (.cells #[.bool n',.slice A1' t'.length c1',.slice A2' b'.length c2'] 85)):=(Br.alloc Lr _).alloc (by simp) _;refine(E1.out _ hb0).mono ?_;rintro e w2 ⟨rfl,hb2⟩;have hb3:=hb0.trans (hb2.mono hb0.size);obtain⟨hc,hfz⟩:(∀o,w2.cell? ⟨w.heap.size,o,none⟩=_)/\(∀o,w2.cell? ⟨w.heap.size+1,o,none⟩=_):=⟨λo=>hb2.cell (p:=⟨w.heap.size,o,none⟩) (by show w.heap.size<_;simp;omega),λo=>hb2.cell (p:=⟨w.heap.size+1,o,none⟩) (by show w.heap.size+1<_;simp)⟩;cases x
 ·go_wp2_with fail
  go_ret;exact⟨Aa (by rw[HR.out];simp),hb3⟩
 go_wp2_with fail
 refine(E2.out _ hb3).mono ?_;rintro e w3 ⟨rfl,hb4⟩;clear hc hfz;go_wp2_with fail
 go_ret;exact⟨Aa (by rw[HR.out];simp),hb3.trans (hb4.mono hb3.size)⟩
end
section
open Go.RowKit Ar
end
section
open Go.RowKit Ar
def P6 (p:Nat)(x:Int)(w:World)(e:Ending)(w':World):Prop:=∃r:Int,e= .returned (.int .i64 r)/\ -140737488355328<=r/\r<=4000/\(0<=r->r+p=x)/\Below w.heap.size w w'
def Q6 (w:World)(e:Ending)(w':World):Prop:=∃r:Bool,e= .returned (.bool r)/\Below w.heap.size w w'
theorem Fw {B:Nat}{a w:World}(h:Below B a w)(n:Nat):Below B a (w.drewN n):=⟨h.os,h.tape,h.output,h.size,h.block⟩
theorem R6 (n:Nat):∀(a:Ba) (vs:List Value) (d x:Int) (w:World) (B:Nat),SizeOf.sizeOf a<n->IsArr w B a vs->B<=w.heap.size->0<=d->d<=12->0<=x->x<=4000->
 Calls Tryz.prog 59 #[.agg vs.toArray,.int .i64 d,.int .i64 x] w (P6 (Xb a) x w):=by
 induction n with
 |zero=>intro a vs d x w B h;omega
 |succ n ih=>
  intro a vs d x w B hn h hB hd0 hd1 hx0 hx1;obtain⟨S,shape,cells⟩:=a;rw[IsArr] at h;obtain⟨A,c,A',c',us,rfl,hS,hf,hf',hw,hl,hl',hcs⟩:=h;have HC:=Qd hcs;have HL:=Qd hl';have hfl:=(hf'.le (by omega));have hfs:shape.length<=17592186044416:=by have h1:=hf.1;have h2:=hf.2;omega
  have hn':SizeOf.sizeOf (Ba.mk S shape cells)<=n:=by omega
  have HN:=Qd hn';clear hcs hl' hl hf hw hn hn';obtain⟨W,hW⟩:∃W,W=w.alloc (.cells #[.int .u64 (S:Int),.slice A shape.length c,.slice A' cells.length c'] 42):=⟨_,rfl⟩;have hWs:W.heap.size=w.heap.size+1:=by rw[hW];simp
  have hWb:Below w.heap.size w W:=by rw[hW];exact Br.alloc Lr _
  have hWc:W.cell? ⟨w.heap.size,2,none⟩=some (.slice A' cells.length c'):=by rw[hW];simp[go_sem]
  have HW:=Qd hW;have HWs:=Qd hWs;have HWc:=Qd hWc;have hWl:w.heap.size<W.heap.size:=by omega
  by_cases hd:d=0
  ·subst hd
   clear hW hWs hWc;go_enter Tryz.func59,Tryz.ntmps59
   go_wp2_with fail
   rw[<-HW.out];go_ret;exact⟨-1,rfl,by omega,by omega,λh=>by omega,hWb⟩
  have hdb:(d==0)=false:=by simpa using hd
  clear hW hWs hWc hd;go_enter Tryz.func59,Tryz.ntmps59
  go_wp2_with fail
  rw[<-HW.out];go_loopw [2,7] (λv2 i wr=>∃(k:Nat) (m:Int),k<=cells.length/\i= .int .i64 k/\v2= .int .i64 m/\ -140737488355328<=m/\m<=4000/\Hid (0<=m->m+(1+shape.length+Ka (cells.take k):Nat)=x)/\Below W.heap.size W wr) (λ_ i _=>cells.length-(intOf i).toNat)
  case atStart=>exact⟨0,_,Nat.zero_le _,rfl,rfl,by omega,by omega,Qd (λ_=>by simp[Ka];omega),Br⟩
  case round=>
   obtain⟨k,m,hk,rfl,rfl,hm0,hm1,HM,hbel⟩:=hrel;have hbox:wr.cell? ⟨w.heap.size,2,none⟩=some (.slice A' cells.length c'):=(hbel.cell (p:=⟨w.heap.size,2,none⟩) hWl).trans HWc.out;by_cases hlt:k<cells.length
   ·by_cases hm:0<=m
    ·obtain⟨b,off,L,kind,neg,top,bot,ch,ins,A1,c1,A2,c2,A3,c3,us3,rfl,hb,hL,HX,t1,t2,t3,t4,t5,t6,g0,g1,g2,g3,g4,g5,g6⟩:=Dd HC.out HL.out (wr:=wr) (λp hp=>(hbel.cell (by omega)).trans (hWb.cell (by omega))) hlt
     have HG6:=Qd ((hbel.cell (p:=⟨b,off+k*7+6,none⟩) (show b<W.heap.size by omega)).symm.trans g6);clear g0 g1 g2 g5 g6;have hk0:(0:Int)<=(k:Int):=by omega
     have hk1:(k:Int)<(cells.length:Int):=by omega
     go_wp2_with fail
     go_quiet (fail)
     go_wp2_with fail
     clear g3 g4 hbox;obtain⟨wo,hwo⟩:∃wo:World,wo=wr.drewN nq:=⟨_,rfl⟩;have hbo:Below W.heap.size W wo:=by rw[hwo];exact Fw hbel nq
     rw[<-hwo];clear hwo hbel;go_loopw [2,8] (λv2 j wr=>∃(i:Nat) (m':Int),i<=ins.length/\j= .int .i64 i/\v2= .int .i64 m'/\ -140737488355328<=m'/\m'<=4000/\Hid (0<=m'->m'+(1+shape.length+Ka (cells.take k)+1+top.length+bot.length+Ta (ins.take i):Nat)=x)/\Below W.heap.size W wr) (λ_ j _=>ins.length-(intOf j).toNat)
     case atStart=>exact⟨0,_,Nat.zero_le _,rfl,rfl,by omega,by omega,Qd (λh=>by have:=HM.out hm;simp[Ta];omega),hbo⟩
     case round=>
      clear hbo;obtain⟨i,m',hi,rfl,rfl,hm0',hm1',HM',hbel⟩:=hrel;have HPC:Hid (Ka (cells.take (k+1))=Ka (cells.take k)+(1+top.length+bot.length+Ta ins)):=Qd (by rw[Ro hlt,HX.out.eq,Yb]);have hsz:=hbel.size;have hbox:wr.cell? ⟨w.heap.size,2,none⟩=some (.slice (some ⟨b,off,none⟩) cells.length c'):=(hbel.cell (p:=⟨w.heap.size,2,none⟩) hWl).trans HWc.out;have g6:wr.cell? ⟨b,off+k*7+6,none⟩=some (.slice A3 ins.length c3):=(hbel.cell (p:=⟨b,off+k*7+6,none⟩) (show b<W.heap.size by omega)).trans HG6.out;by_cases hlt':i<ins.length
      ·by_cases hm':0<=m'
       ·obtain⟨b',off',S',X,xn,xc,X',xn',xc',rfl,hb',HA,e0,e1,e2⟩:=Ue HX.out.arrs HX.out.li (wr:=wr) (λp hp=>(hbel.cell (by omega)).trans (hWb.cell (by omega))) hlt'
        have IH:=Qd (ih ins[i] [.int .u64 (S':Int),.slice X xn xc,.slice X' xn' xc'] (d-1) m' wr B (by have:=Gs (S:=S) (shape:=shape) hlt HX.out.eq hlt';have:=HN.out;omega) (HA.out.below ((hWb.mono (by omega)).trans (hbel.mono (by omega)))) (by omega) (by simp at hdb;omega) (by omega) hm' hm1');go_wp2_with fail
        refine IH.out.mono ?_;rintro e w2 ⟨r,rfl,hr0,hr1,hr2,hb2⟩;have HR2:=Qd hr2;clear hr2;have hb3:=hbel.trans (hb2.mono (by omega));go_wp2_with fail
        go_roundw
        case rel=>exact⟨i+1,r,by omega,by go_num,rfl,hr0,hr1,Qd (λh=>by have h1:=HR2.out h;have h2:=HM'.out hm';rw[Mr hlt'];omega),hb3⟩
        case measure=>simp[intOf];omega
       have hm2:m'<0:=by omega
       go_wp2_with fail
       go_roundw
       case rel=>exact⟨k+1,m',by omega,by go_num,rfl,hm0',hm1',Qd (λh=>by omega),hbel⟩
       case measure=>simp[intOf];omega
      go_wp2_with fail
      go_roundw
      case rel=>exact⟨k+1,m',by omega,by go_num,rfl,hm0',hm1',Qd (λh=>by have h1:=HM'.out h;have h2:=HPC.out;rw[List.take_of_length_le (show ins.length<=i by omega)] at h1;omega),hbel⟩
      case measure=>simp[intOf];omega
    have hm2:m<0:=by omega
    go_wp2_with fail
    go_ret;exact⟨m,rfl,hm0,hm1,λh=>by omega,hWb.trans (hbel.mono (by omega))⟩
   go_wp2_with fail
   go_ret;exact⟨m,rfl,hm0,hm1,λh=>by have h1:=HM.out h;rw[List.take_of_length_le (show cells.length<=k by omega)] at h1;rw[Xb];exact h1,hWb.trans (hbel.mono (by omega))⟩
theorem S6 (a:Ba)(vs:List Value)(w:World)(B:Nat)(h:IsArr w B a vs)(hB:B<=w.heap.size):
 Calls Tryz.prog 23 #[.agg vs.toArray] w λe w'=>∃r:Bool,e= .returned (.bool r)/\(r=true->Xb a<=4000)/\Below w.heap.size w w':=by
 have HL:=Qd (λ(wx:World) (hx:Below w.heap.size w wx)=>R6 _ a vs 12 4000 wx B (Nat.lt_succ_self _) (h.below (hx.mono hB)) (Nat.le_trans hB hx.size) (by omega) (by omega) (by omega) (by omega));obtain⟨S,A,n,c,A',n',c',rfl⟩:=h.form;clear h;go_enter Tryz.func23,Tryz.ntmps23
 go_wp2_with fail
 refine(HL.out _ (by first|exact Br |exact Br.alloc Lr _)).mono ?_;rintro e w2 ⟨r,rfl,hr0,hr1,hr2,hb2⟩;have HR2:=Qd hr2;clear hr2;go_wp2_with fail
 go_ret;exact⟨_,rfl,λh=>by have h0:=of_decide_eq_true h;have:=HR2.out h0;omega,by first|exact hb2 |exact((Br.alloc Lr _).trans (hb2.mono (by simp)))⟩
end
section
open Go.RowKit Ar
theorem Mt (l:List Int)(A:Option Addr)(c:Nat)(w:World)(B:Nat)(hA:Lies w B A (Sb l))(hn:l.length<=9223372036854775807):
 Calls Tryz.prog 78 #[.slice A l.length c] w λe w'=>e= .returned (.tuple #[.int .i64 (cnt l).1,.int .i64 (cnt l).2])/\Below w.heap.size w w':=by
 have HA:=Qd hA;have HC:Hid (cnt l=_):=Qd (cnt.eq_1 l);clear hA;by_cases h6:6<l.length
 ·rw[if_pos h6] at HC
  generalize cnt l=R at*;go_enter Tryz.func78,Tryz.ntmps78
  go_wp2_with fail
  go_ret2
  exact⟨by rw[HC.out];rfl,Br⟩
 rw[if_neg h6] at HC;generalize cnt l=R at*;have hn6:l.length<=6:=by omega
 clear h6 hn;go_enter Tryz.func78,Tryz.ntmps78
 go_wp2_with fail
 go_loop [4,5,6] (λb z i=>∃k:Nat,k<=l.length/\i= .int .i64 k/\b= .bool ((l.take k).any λx=>decide (2048<x))/\z= .bool ((l.take k).any λx=>x==0)/\Hid ((l.take k).any (λx=>decide (x<0))=false)) (λ_ _ i=>l.length-(intOf i).toNat)
 case atStart=>exact⟨0,Nat.zero_le _,rfl,rfl,rfl,Qd rfl⟩
 case round=>
  obtain⟨k,hk,rfl,rfl,rfl,HT⟩:=hrel;by_cases hlt:k<l.length
  ·obtain⟨b,off,rfl,hb,g0⟩:=Zb HA.out hlt
   have E1:=Qd (Pc (p:=λx=>decide (2048<x)) hlt);have E2:=Qd (Pc (p:=λx=>x==0) hlt);have E3:=Qd (Pc (p:=λx=>decide (x<0)) hlt);have E4:=Qd (Vm (p:=λx=>decide (x<0)) hlt);generalize l[k]=x at*;generalize((l.take k).any λx=>decide (2048<x))=y1 at*;generalize((l.take k).any λx=>x==0)=y2 at*;have hk0:(0:Int)<=(k:Int):=by omega
   have hk1:(k:Int)<(l.length:Int):=by omega
   by_cases hx:x<0
   ·have E5:=Qd (E4.out (decide_eq_true hx))
    go_wp2_with fail
    go_ret2
    exact⟨by rw[HC.out,if_pos E5.out];rfl,Br⟩
   have E5:Hid ((l.take (k+1)).any (λx=>decide (x<0))=false):=Qd (by rw[E3.out,HT.out,decide_eq_false hx];rfl);have q1:decide (x<0)=false:=decide_eq_false hx;have q1':0<=x:=by omega
   clear HT E3 E4 hx;rcases Bool.eq_false_or_eq_true (decide (2048<x)) with q2 |q2
   all_goals
    rcases Bool.eq_false_or_eq_true (x==0) with q3 |q3
   all_goals
    rw[q2] at E1;rw[q3] at E2;cases y1
   all_goals
    cases y2
   all_goals
    go_wp2_with fail
    go_round
    case rel=>exact⟨k+1,by omega,by go_num,by rw[E1.out];rfl,by rw[E2.out];rfl,E5⟩
    case measure=>simp[intOf];omega
  have hke:l.take k=l:=List.take_of_length_le (by omega);rw[hke] at HT;have HC2:Hid (R=_):=Qd (HC.out.trans (if_neg (by rw[HT.out];decide)));have HNA:=Qd (λ(j:Nat) (hj:j<l.length)=>Ad HT.out hj);rw[hke];clear HT HC hke;obtain⟨y1,hy1⟩:∃y,y=l.any λx=>decide (2048<x):=⟨_,rfl⟩;obtain⟨y2,hy2⟩:∃y,y=l.any λx=>x==0:=⟨_,rfl⟩;rw[<-hy1,<-hy2] at HC2⊢;have HY1:=Qd hy1.symm;have HY2:=Qd hy2.symm;clear hy1 hy2;cases y1
  ·cases y2
   ·have HX:Hid (∀(j:Nat) (hj:j<l.length),1<=l[j]/\l[j]<=2048):=Qd (λj hj=>by
     have a1:=HNA.out j hj;have a2:=Ad HY1.out hj;have a3:=Ad HY2.out hj;simp at a1 a2 a3;omega)
    have HC3:Hid (R=_):=Qd (HC2.out.trans ((if_neg (by decide)).trans (if_neg (by decide))));clear HC2 HNA HY1 HY2;go_wp2_with fail
    go_loop [7,8] (λm i=>∃(k:Nat) (n:Int),k<=l.length/\i= .int .i64 k/\m= .int .i64 n/\1<=n/\n<=2048/\Hid (Eb n (l.drop k)=Eb 1 l)) (λ_ i=>l.length-(intOf i).toNat)
    case atStart=>exact⟨0,1,Nat.zero_le _,rfl,rfl,by omega,by omega,Qd rfl⟩
    case round=>
     obtain⟨k,n,hk,rfl,rfl,hn1,hn2,HT⟩:=hrel;by_cases hlt:k<l.length
     ·obtain⟨b,off,rfl,hb,g0⟩:=Zb HA.out hlt
      have HT2:Hid (Eb 1 l=_):=Qd (HT.out.symm.trans (Wm hlt));have hx:=HX.out k hlt;generalize l[k]=x at*;have hk0:(0:Int)<=(k:Int):=by omega
      have hk1:(k:Int)<(l.length:Int):=by omega
      have hp1:1*1<=n*x:=Int.mul_le_mul hn1 hx.1 (by omega) (by omega);have hp2:n*x<=2048*2048:=Int.mul_le_mul hn2 hx.2 (by omega) (by omega);have hp3:1<=n*x:=by omega
      have hp4:n*x<=4194304:=by omega
      clear hp1 hp2;obtain⟨p,hp⟩:∃p,p=n*x:=⟨_,rfl⟩;rw[<-hp] at HT2 hp3 hp4;have HP:Hid (p=n*x):=Qd hp;have hw:IntKind.i64.wrap (n*x)=p:=by rw[<-hp];exact IntWalk.i64_in _ (by omega)
      clear hp;by_cases hb:2048<p
      ·go_wp2_with fail
       go_ret2
       exact⟨by rw[HC3.out,HT2.out,if_pos hb];rfl,Br⟩
      go_wp2_with fail
      go_round
      case rel=>exact⟨k+1,p,by omega,by go_num,rfl,hp3,by omega,Qd (by rw[HT2.out,if_neg hb])⟩
      case measure=>simp[intOf];omega
     have HE:Hid (Eb 1 l=some n):=Qd (HT.out.symm.trans (Xp (by omega)));go_wp2_with fail
     go_ret2
     exact⟨by rw[HC3.out,HE.out];rfl,Br⟩
   have HC3:Hid (R=_):=Qd (HC2.out.trans ((if_neg (by decide)).trans (if_pos rfl)));go_wp2_with fail
   go_ret2
   exact⟨by rw[HC3.out];rfl,Br⟩
  have HC3:Hid (R=_):=Qd (HC2.out.trans (if_pos rfl));go_wp2_with fail
  go_ret2
  exact⟨by rw[HC3.out];rfl,Br⟩
theorem Gw (c:Int)(w:World)(h1: -9223372036854775808<=c)(h2:c<=9223372036854775807):
 Calls Tryz.prog 118 #[.int .i64 c] w λe w'=>e= .returned (.bool (Lc c))/\w=w':=by
 have HC:Hid (Lc c=_):=Qd (Lc.eq_1 c);generalize Lc c=R at*;by_cases a:0<=c
 ·by_cases b:c<=1114111
  ·by_cases d:c<55296
   ·go_enter Tryz.func118,Tryz.ntmps118
    go_wp2_with fail
    go_ret;exact⟨Aa (by rw[HC.out];simp[a,b,d]),rfl⟩
   by_cases e:57343<c
   ·go_enter Tryz.func118,Tryz.ntmps118
    go_wp2_with fail
    go_ret;exact⟨Aa (by rw[HC.out];simp[a,b,d,e]),rfl⟩
   go_enter Tryz.func118,Tryz.ntmps118
   go_wp2_with fail
   go_ret;exact⟨Aa (by rw[HC.out];simp[a,b,d,e]),rfl⟩
  go_enter Tryz.func118,Tryz.ntmps118
  go_wp2_with fail
  go_ret;exact⟨Aa (by rw[HC.out,show decide (c<=1114111)=false from decide_eq_false (by omega)];simp),rfl⟩
 go_enter Tryz.func118,Tryz.ntmps118
 go_wp2_with fail
 go_ret;exact⟨Aa (by rw[HC.out,show decide (0<=c)=false from decide_eq_false (by omega)];simp),rfl⟩
end
section
open Go.RowKit Ar
def IntOK (n:Bool)(l:List Nat)(w:World)(x:Value):Prop:=∃v,x= .agg #[.bool n,v]/\ResL w v l
def TupOK (r:Rt.Nm×Int)(w:World)(x:Value):Prop:=∃t u,x= .tuple #[.agg #[.bool r.1.neg,t,u],.int .i64 r.2]/\IsRes w t r.1.top/\IsRes w u r.1.bot
def AggOK (r:Rt.Nm×Int)(w:World)(x:Value):Prop:=∃t u,x= .agg #[.bool r.1.neg,t,u]/\IsRes w t r.1.top/\IsRes w u r.1.bot
def Iaa (er:Int)(x:Value):Prop:=x= .int .i64 er
def CellOK (r:Rt.Nm×Int)(lo:Nat)(said:Bool)(w:World)(x:Value):Prop:=∃g b A k c A' k' c',x= .pointer (some ⟨g,0,none⟩)/\lo<=g/\w.heap[g]? =some (.cells #[.bool b,.slice A k c,.slice A' k' c'] 85 (0,0))/\(said=true->b=r.1.neg/\IsRes w (.slice A k c) r.1.top/\IsRes w (.slice A' k' c') r.1.bot)
theorem IntOK.below {n:Bool}{l:List Nat}{w w':World}{x:Value}(h:IntOK n l w x)(hb:Below w.heap.size w w'):IntOK n l w' x:=by
 obtain⟨v,e,r⟩:=h;exact⟨v,e,r.below hb⟩
theorem TupOK.below {r0:Rt.Nm×Int}{w w':World}{x:Value}(h:TupOK r0 w x)(hb:Below w.heap.size w w'):TupOK r0 w' x:=by
 obtain⟨t,u,e,r,r'⟩:=h;exact⟨t,u,e,r.below hb,r'.below hb⟩
theorem AggOK.below {r0:Rt.Nm×Int}{w w':World}{x:Value}(h:AggOK r0 w x)(hb:Below w.heap.size w w'):AggOK r0 w' x:=by
 obtain⟨t,u,e,r,r'⟩:=h;exact⟨t,u,e,r.below hb,r'.below hb⟩
theorem CellOK.below {r0:Rt.Nm×Int}{lo:Nat}{said:Bool}{w w':World}{x:Value}(h:CellOK r0 lo said w x)(hb:Below w.heap.size w w'):CellOK r0 lo said w' x:=by
 obtain⟨g,b,A,k,c,A',k',c',e,h1,h2,h3⟩:=h;exact⟨g,b,A,k,c,A',k',c',e,h1,(hb.block g (Ja h2)).trans h2,λhs=>by obtain⟨e,r,r'⟩:=h3 hs;exact⟨e,r.below hb,r'.below hb⟩⟩
theorem IntOK.setRow {n:Bool}{l:List Nat}{w:World}{x:Value}{g:Nat}{old:Array Value}{t:TypeId}(h:IntOK n l w x)(hg:w.heap[g]? =some (.cells old t (0,0)))(ho:∀(i:Nat) (k:IntKind) (n:Int),old[i]? ≠some (Value.int k n))(cs:Array Value):IntOK n l (w.setRow g cs) x:=by
 obtain⟨v,e,r⟩:=h;exact⟨v,e,r.setRow hg ho cs⟩
theorem TupOK.setRow {r0:Rt.Nm×Int}{w:World}{x:Value}{g:Nat}{old:Array Value}{t:TypeId}(h:TupOK r0 w x)(hg:w.heap[g]? =some (.cells old t (0,0)))(ho:∀(i:Nat) (k:IntKind) (n:Int),old[i]? ≠some (Value.int k n))(cs:Array Value):TupOK r0 (w.setRow g cs) x:=by
 obtain⟨t,u,e,r,r'⟩:=h;exact⟨t,u,e,r.setRow hg ho cs,r'.setRow hg ho cs⟩
theorem AggOK.setRow {r0:Rt.Nm×Int}{w:World}{x:Value}{g:Nat}{old:Array Value}{t:TypeId}(h:AggOK r0 w x)(hg:w.heap[g]? =some (.cells old t (0,0)))(ho:∀(i:Nat) (k:IntKind) (n:Int),old[i]? ≠some (Value.int k n))(cs:Array Value):AggOK r0 (w.setRow g cs) x:=by
 obtain⟨t,u,e,r,r'⟩:=h;exact⟨t,u,e,r.setRow hg ho cs,r'.setRow hg ho cs⟩
structure GI (w:World) (N:Array Value) (N1 N2:Bool) (D1 D2:List Nat) (R:Rt.Nm×Int) (b0 b1 b2 b3 b4 b5 b6 b7 b8 b9 b10:Bool) (x16 x17 x18 x19 x20 x15 x21 x22 x3 x4:Value) (wx:World):Prop where
 below:Below w.heap.size w wx
 v16:b0=true->x16= .agg N
 v17:b1=true->IntOK N1 D1 wx x17
 v18:b2=true->x18= .agg N
 v19:b3=true->IntOK N2 D2 wx x19
 v20:b4=true->TupOK R wx x20
 v15:b5=true->TupOK R wx x15
 v21:b6=true->AggOK R wx x21
 v22:b7=true->Iaa R.2 x22
 v3:b8=true->CellOK R w.heap.size b9 wx x3
 v4:b10=true->Iaa R.2 x4
 o9:b9=true->b8=true
def Ld (g:Nat)(N:Array Value)(A:Option Addr)(k c:Nat)(A':Option Addr)(k' c':Nat)(x16 x17 x18 x19 x20 x15 x21 x22 x3 x4:Value):Act:={tmps:= #[.agg N,.pointer (some ⟨g,0,none⟩),.bool false,x3,x4,.pointer (some ⟨g,1,none⟩),.slice A k c,.int .i64 (k:Int),.bool false,.bool false,.pointer (some ⟨g,2,none⟩),.slice A' k' c',.int .i64 (k':Int),.bool false,.bool false,x15,x16,x17,x18,x19,x20,x21,x22,undef,undef,undef,undef,undef,undef,undef],defers:=[]}
def Yca (w:World)(g:Nat)(N:Array Value)(A:Option Addr)(k c:Nat)(A':Option Addr)(k' c':Nat)(N1 N2:Bool)(D1 D2:List Nat)(R:Rt.Nm×Int)(l:Array Bool)(a:Act)(wx:World):Prop:=
 ∃b0 b1 b2 b3 b4 b5 b6 b7 b8 b9 b10 x16 x17 x18 x19 x20 x15 x21 x22 x3 x4,l= #[b0,b1,b2,b3,b4,b5,b6,b7,b8,b9,b10]/\a=Ld g N A k c A' k' c' x16 x17 x18 x19 x20 x15 x21 x22 x3 x4/\GI w N N1 N2 D1 D2 R b0 b1 b2 b3 b4 b5 b6 b7 b8 b9 b10 x16 x17 x18 x19 x20 x15 x21 x22 x3 x4 wx
theorem Xy (n:Bool)(t u:List Nat)(h1:t.length<=32)(h2:u.length<=32):Rt.right ⟨n,t,u⟩=(((Rt.mk n false (Nt.val t) (Nt.val u)).2==0)&&Qb n (Rt.mk n false (Nt.val t) (Nt.val u)).1.neg t (Rt.mk n false (Nt.val t) (Nt.val u)).1.top u (Rt.mk n false (Nt.val t) (Nt.val u)).1.bot):=by
 unfold Rt.right;dsimp only;rw[decide_eq_true h1,decide_eq_true h2,Bool.true_and,Bool.true_and]
 congr 1
 obtain⟨⟨b,l,l'⟩,er⟩:=Rt.mk n false (Nt.val t) (Nt.val u);rw[Bool.eq_iff_iff];simp only[decide_eq_true_eq,Qb,Bool.and_eq_true,beq_iff_eq,Rt.Nm.mk.injEq]
 constructor
 ·rintro⟨rfl,rfl,rfl⟩;exact⟨⟨rfl,rfl⟩,rfl⟩
 rintro⟨⟨rfl,rfl⟩,rfl⟩;exact⟨rfl,rfl,rfl⟩
theorem Yy (n:Bool)(A:Option Addr)(t:List Nat)(c:Nat)(A':Option Addr)(u:List Nat)(c':Nat)(w:World)(h1:IsRes w (.slice A t.length c) t)(h2:IsRes w (.slice A' u.length c') u)(o1:Nt.Ok t)(o2:Nt.Ok u):
 Calls Tryz.prog 116 #[.agg #[.bool n,.slice A t.length c,.slice A' u.length c']] w λe w'=>e= .returned (.bool (Rt.right ⟨n,t,u⟩))/\Below w.heap.size w w':=by
 obtain⟨W,hW⟩:∃W,W=w.alloc (.cells #[.bool n,.slice A t.length c,.slice A' u.length c'] 85):=⟨_,rfl⟩;have hWs:W.heap.size=w.heap.size+1:=by rw[hW];simp
 have hWb:Below w.heap.size w W:=by rw[hW];exact Br.alloc Lr _
 have hW0:W.heap[w.heap.size]? =some (.cells #[.bool n,.slice A t.length c,.slice A' u.length c'] 85 (0,0)):=by rw[hW];exact heap_alloc_new _ _
 have HW:=Qd hW;have HW0:=Qd hW0;have HR1:=Qd h1;have HR2:=Qd h2;clear hW hW0;by_cases k1:32<t.length
 ·clear h1 h2
  go_enter Tryz.func116,Tryz.ntmps116
  go_wp2_with fail
  go_ret;exact⟨Aa (by unfold Rt.right;rw[show decide (t.length<=32)=false from decide_eq_false (by omega)];rfl),by rw[HW.out] at hWb;exact hWb⟩
 by_cases k2:32<u.length
 ·clear h1 h2
  go_enter Tryz.func116,Tryz.ntmps116
  go_wp2_with fail
  go_ret;exact⟨Aa (by unfold Rt.right;rw[show decide (u.length<=32)=false from decide_eq_false (by omega)];simp),by rw[HW.out] at hWb;exact hWb⟩
 have q1:ResL w (.slice A t.length c) t:=⟨h1,o1,by omega⟩;have q2:ResL w (.slice A' u.length c') u:=⟨h2,o2,by omega⟩;have TP:=Qd (λ(wx:World) (hx:Below W.heap.size W wx)=>T8 n _ _ _ _ wx ((q1.below hWb).below hx) ((q2.below hWb).below hx));have BT:=Qd (λ(wx:World) (hx:Below W.heap.size W wx)=>U8 n _ _ _ _ wx ((q1.below hWb).below hx) ((q2.below hWb).below hx));have hd1:decide ((32:Int)<(t.length:Int))=false:=decide_eq_false (by omega);have hd2:decide ((32:Int)<(u.length:Int))=false:=decide_eq_false (by omega);have hWl:w.heap.size<W.heap.size:=by omega
 have HRT:Hid (Rt.right ⟨n,t,u⟩=(((Rt.mk n false (Nt.val t) (Nt.val u)).2==0)&&Qb n (Rt.mk n false (Nt.val t) (Nt.val u)).1.neg t (Rt.mk n false (Nt.val t) (Nt.val u)).1.top u (Rt.mk n false (Nt.val t) (Nt.val u)).1.bot)):=Qd (Xy n t u (by omega) (by omega));have hMK:Rt.mk (Rt.nrm n (Nt.val t)) (Rt.nrm false (Nt.val u)) (Nt.val (Nt.digs (Nt.val t))) (Nt.val (Nt.digs (Nt.val u)))=Rt.mk n false (Nt.val t) (Nt.val u):=by rw[Nt.val_digs,Nt.val_digs,Rt.mk_nrm]
 generalize Rt.right ⟨n,t,u⟩=RT at*;generalize Rt.mk n false (Nt.val t) (Nt.val u)=R at*;have HMK:=Qd hMK;clear hMK;clear h1 h2 q1 q2 hWs;go_enter Tryz.func116,Tryz.ntmps116
 go_wp2_with fail
 rw[<-HW.out];refine wp_region_any (by kernel_rfl) ?_;refine Xe (Yca W w.heap.size #[.bool n,.slice A t.length c,.slice A' u.length c'] A t.length c A' u.length c' (Rt.nrm n (Nt.val t)) (Rt.nrm false (Nt.val u)) (Nt.digs (Nt.val t)) (Nt.digs (Nt.val u)) R) ?_ ?_ 11 _ _ _ (by decide) ⟨false,false,false,false,false,false,false,false,false,false,false,undef,undef,undef,undef,undef,undef,undef,undef,undef,undef,rfl,rfl,⟨⟨rfl,rfl,rfl,Lr,λ_ _=>rfl⟩,nofun,nofun,nofun,nofun,nofun,nofun,nofun,nofun,nofun,nofun,nofun⟩⟩
 ·rintro _ _ wx ⟨b0,b1,b2,b3,b4,b5,b6,b7,b8,b9,b10,x16,x17,x18,x19,x20,x15,x21,x22,x3,x4,rfl,rfl,hJ⟩ i hi
  obtain⟨h8,hl,ha⟩:=Wc hi;have h8':i<11:=h8;clear h8 hi;have hsz:=hJ.below.size;rcases(show i=0\/i=1\/i=2\/i=3\/i=4\/i=5\/i=6\/i=7\/i=8\/i=9\/i=10 by omega) with rfl |rfl |rfl |rfl |rfl |rfl |rfl |rfl |rfl |rfl |rfl
  ·refine Ca rfl rfl ?_
   refine wp_load_row 85 (.tmp 1) rfl w.heap.size rfl 85 #[.bool n,.slice A t.length c,.slice A' u.length c'] (0,0) _ ((hJ.below.block w.heap.size hWl).trans HW0.out) Tryz.underlying85 rfl De ?_;exact⟨true,b1,b2,b3,b4,b5,b6,b7,b8,b9,b10,_,x17,x18,x19,x20,x15,x21,x22,x3,x4,rfl,rfl,{hJ with v16:=λ_=>rfl}⟩
  ·have h0:b0=true:=by simpa [Region.binds] using ha
   subst h0;obtain rfl:=hJ.v16 rfl;refine Ca rfl rfl ?_;unfold Ld Oper.wp;go_simp
   refine((TP.out _ hJ.below).mono ?_);rintro e w2 ⟨v3,rfl,hr3,hb2⟩;exact⟨true,true,b2,b3,b4,b5,b6,b7,b8,b9,b10,_,_,x18,x19,x20,x15,x21,x22,x3,x4,rfl,rfl,{hJ with
    below:=hJ.below.trans (hb2.mono hsz)
    v17:=λ_=>⟨v3,rfl,hr3⟩
    v19:=λh=>(hJ.v19 h).below hb2
    v20:=λh=>(hJ.v20 h).below hb2
    v15:=λh=>(hJ.v15 h).below hb2
    v21:=λh=>(hJ.v21 h).below hb2
    v3:=λh=>(hJ.v3 h).below hb2}⟩
  ·refine Ca rfl rfl ?_
   refine wp_load_row 85 (.tmp 1) rfl w.heap.size rfl 85 #[.bool n,.slice A t.length c,.slice A' u.length c'] (0,0) _ ((hJ.below.block w.heap.size hWl).trans HW0.out) Tryz.underlying85 rfl De ?_;exact⟨b0,b1,true,b3,b4,b5,b6,b7,b8,b9,b10,x16,x17,_,x19,x20,x15,x21,x22,x3,x4,rfl,rfl,{hJ with v18:=λ_=>rfl}⟩
  ·have h0:b2=true/\b1=true:=by simpa [Region.binds] using ha
   obtain⟨rfl,rfl⟩:=h0;obtain rfl:=hJ.v18 rfl;refine Ca rfl rfl ?_;unfold Ld Oper.wp;go_simp
   refine((BT.out _ hJ.below).mono ?_);rintro e w2 ⟨v3,rfl,hr3,hb2⟩;exact⟨b0,true,true,true,b4,b5,b6,b7,b8,b9,b10,x16,x17,_,_,x20,x15,x21,x22,x3,x4,rfl,rfl,{hJ with
    below:=hJ.below.trans (hb2.mono hsz)
    v19:=λ_=>⟨v3,rfl,hr3⟩
    v17:=λh=>(hJ.v17 h).below hb2
    v20:=λh=>(hJ.v20 h).below hb2
    v15:=λh=>(hJ.v15 h).below hb2
    v21:=λh=>(hJ.v21 h).below hb2
    v3:=λh=>(hJ.v3 h).below hb2}⟩
  ·have h0:b1=true/\b3=true:=by simpa [Region.binds] using ha
   obtain⟨rfl,rfl⟩:=h0;obtain⟨v1,rfl,r1⟩:=hJ.v17 rfl;obtain⟨v2,rfl,r2⟩:=hJ.v19 rfl;have MK:=Rs (Rt.nrm n (Nt.val t)) (Rt.nrm false (Nt.val u)) v1 v2 _ _ wx r1 r2;rw[HMK.out] at MK;refine Ca rfl rfl ?_;unfold Ld Oper.wp;go_simp
   refine(MK.mono ?_);rintro e w2 ⟨t1,u1,rfl,k1,k2,hb2⟩;exact⟨b0,true,b2,true,true,b5,b6,b7,b8,b9,b10,x16,_,x18,_,_,x15,x21,x22,x3,x4,rfl,rfl,{hJ with
    below:=hJ.below.trans (hb2.mono hsz)
    v20:=λ_=>⟨t1,u1,rfl,k1,k2⟩
    v17:=λh=>(hJ.v17 h).below hb2
    v19:=λh=>(hJ.v19 h).below hb2
    v15:=λh=>(hJ.v15 h).below hb2
    v21:=λh=>(hJ.v21 h).below hb2
    v3:=λh=>(hJ.v3 h).below hb2}⟩
  ·have h0:b4=true:=by simpa [Region.binds] using ha
   subst h0;have hv:=hJ.v20 rfl;refine Ca rfl rfl ?_;unfold Ld Oper.wp;go_simp
   exact⟨b0,b1,b2,b3,true,true,b6,b7,b8,b9,b10,x16,x17,x18,x19,x20,_,x21,x22,x3,x4,rfl,rfl,{hJ with v15:=λ_=>hv}⟩
  ·have h0:b5=true:=by simpa [Region.binds] using ha
   subst h0;obtain⟨t1,u1,rfl,k1,k2⟩:=hJ.v15 rfl;refine Ca rfl rfl ?_;unfold Ld Oper.wp;go_simp
   exact⟨b0,b1,b2,b3,b4,true,true,b7,b8,b9,b10,x16,x17,x18,x19,x20,_,_,x22,x3,x4,rfl,rfl,{hJ with v21:=λ_=>⟨t1,u1,rfl,k1,k2⟩}⟩
  ·have h0:b5=true:=by simpa [Region.binds] using ha
   subst h0;obtain⟨t1,u1,rfl,k1,k2⟩:=hJ.v15 rfl;refine Ca rfl rfl ?_;unfold Ld Oper.wp;go_simp
   exact⟨b0,b1,b2,b3,b4,true,b6,true,b8,b9,b10,x16,x17,x18,x19,x20,_,x21,_,x3,x4,rfl,rfl,{hJ with v22:=λ_=>rfl}⟩
  ·have hb8:b8=false:=hl
   subst hb8;have hb9:b9=false:=by
    cases b9
    ·rfl
    exact absurd (hJ.o9 rfl) (by decide)
   subst hb9;refine Ca rfl rfl ?_;unfold Ld Oper.wp;go_simp
   have hba:Below wx.heap.size wx (wx.alloc (.cells #[.bool false,.slice none 0 0,.slice none 0 0] 85)):=Br.alloc Lr _;exact⟨b0,b1,b2,b3,b4,b5,b6,b7,true,false,b10,x16,x17,x18,x19,x20,x15,x21,x22,_,x4,rfl,rfl,{hJ with
    below:=hJ.below.alloc hsz _
    v3:=λ_=>⟨wx.heap.size,false,none,0,0,none,0,0,rfl,hsz,heap_alloc_new _ _,nofun⟩
    v17:=λh=>(hJ.v17 h).below hba
    v19:=λh=>(hJ.v19 h).below hba
    v20:=λh=>(hJ.v20 h).below hba
    v15:=λh=>(hJ.v15 h).below hba
    v21:=λh=>(hJ.v21 h).below hba
    o9:=nofun}⟩
  ·simp[Region.binds] at ha
   obtain⟨rfl,rfl,rfl,rfl,rfl,rfl,rfl,-,rfl,-,-⟩:=ha;have hb9:b9=false:=hl;subst hb9;obtain⟨g,b,A3,k3,c3,A4,k4,c4,rfl,q1,q2,q3⟩:=hJ.v3 rfl;obtain⟨t1,u1,rfl,r1,r2⟩:=hJ.v21 rfl;have s17:=(hJ.v17 rfl).setRow q2 (Da _ _ _ _ _ _ _) #[.bool R.1.neg,t1,u1];have s19:=(hJ.v19 rfl).setRow q2 (Da _ _ _ _ _ _ _) #[.bool R.1.neg,t1,u1];have s20:=(hJ.v20 rfl).setRow q2 (Da _ _ _ _ _ _ _) #[.bool R.1.neg,t1,u1];have s15:=(hJ.v15 rfl).setRow q2 (Da _ _ _ _ _ _ _) #[.bool R.1.neg,t1,u1];have s21:=(hJ.v21 rfl).setRow q2 (Da _ _ _ _ _ _ _) #[.bool R.1.neg,t1,u1];have r1':=r1.setRow q2 (Da _ _ _ _ _ _ _) #[.bool R.1.neg,t1,u1];have r2':=r2.setRow q2 (Da _ _ _ _ _ _ _) #[.bool R.1.neg,t1,u1];obtain⟨A5,c5,rfl,-⟩:=r1;obtain⟨A6,c6,rfl,-⟩:=r2;refine Ca rfl rfl ?_;refine wp_store_row 85 (.tmp 3) (.tmp 21) rfl g #[.bool R.1.neg,.slice A5 R.1.top.length c5,.slice A6 R.1.bot.length c6] rfl rfl 85 _ q2 De rfl (Vp _ _ _ _ _ _ _) ?_;exact⟨true,true,true,true,true,true,true,b7,true,true,b10,x16,x17,x18,x19,x20,x15,_,x22,_,x4,rfl,rfl,{hJ with
    below:=rBelow.setRow hJ.below q1 _
    v17:=λ_=>s17
    v19:=λ_=>s19
    v20:=λ_=>s20
    v15:=λ_=>s15
    v21:=λ_=>s21
    v3:=λ_=>⟨g,_,_,_,_,_,_,_,rfl,q1,Ha q2,λ_=>⟨rfl,r1',r2'⟩⟩
    o9:=λ_=>rfl}⟩
  simp[Region.binds] at ha;have h7:b7=true:=ha.1;subst h7;clear ha;have hv:=hJ.v22 rfl;refine Ca rfl rfl ?_;unfold Ld Oper.wp;go_simp
  exact⟨b0,b1,b2,b3,b4,b5,b6,true,b8,b9,true,x16,x17,x18,x19,x20,x15,x21,x22,x3,_,rfl,rfl,{hJ with v4:=λ_=>hv}⟩
 rintro _ _ wx ⟨b0,b1,b2,b3,b4,b5,b6,b7,b8,b9,b10,x16,x17,x18,x19,x20,x15,x21,x22,x3,x4,rfl,rfl,hJ⟩ hr;have e0:b0=true:=Pa hr 0 (by decide) (by simp[Region.binds]);subst e0;have e1:b1=true:=Pa hr 1 (by decide) (by simp[Region.binds]);subst e1;have e2:b2=true:=Pa hr 2 (by decide) (by simp[Region.binds]);subst e2;have e3:b3=true:=Pa hr 3 (by decide) (by simp[Region.binds]);subst e3;have e4:b4=true:=Pa hr 4 (by decide) (by simp[Region.binds]);subst e4;have e5:b5=true:=Pa hr 5 (by decide) (by simp[Region.binds]);subst e5;have e6:b6=true:=Pa hr 6 (by decide) (by simp[Region.binds]);subst e6;have e7:b7=true:=Pa hr 7 (by decide) (by simp[Region.binds]);subst e7;have e8:b8=true:=Pa hr 8 (by decide) (by simp[Region.binds]);subst e8;have e9:b9=true:=Pa hr 9 (by decide) (by simp[Region.binds]);subst e9;have e10:b10=true:=Pa hr 10 (by decide) (by simp[Region.binds]);subst e10;clear hr;obtain⟨g,b,A3,k3,c3,A4,k4,c4,rfl,q1,q2,q3⟩:=hJ.v3 rfl;obtain⟨hbe,r1,r2⟩:=q3 rfl;subst hbe;obtain⟨⟨b,l,l'⟩,er⟩:=R;dsimp only at r1 r2 HRT;obtain rfl:=hJ.v4 rfl;have hxb:=hJ.below;have hxs:=hxb.size;have hxw:=hWb.trans (hxb.mono (by omega));have hw0:=(hxb.block w.heap.size hWl).trans HW0.out;have hgl:=Ja q2;have i1:k3=l.length:=by obtain⟨_,_,e,_⟩:=r1;injection e
 have i2:k4=l'.length:=by obtain⟨_,_,e,_⟩:=r2;injection e
 subst i1 i2;have p0:wx.cell? ⟨g,0,none⟩=some (.bool b):=(cell_of_row wx g 0 _ _ _ q2).trans rfl;have p1:wx.cell? ⟨g,1,none⟩=some (.slice A3 l.length c3):=(cell_of_row wx g 1 _ _ _ q2).trans rfl;have p2:wx.cell? ⟨g,2,none⟩=some (.slice A4 l'.length c4):=(cell_of_row wx g 2 _ _ _ q2).trans rfl;have z0:wx.cell? ⟨w.heap.size,0,none⟩=some (.bool n):=(cell_of_row wx w.heap.size 0 _ _ _ hw0).trans rfl;have z1:wx.cell? ⟨w.heap.size,1,none⟩=some (.slice A t.length c):=(cell_of_row wx w.heap.size 1 _ _ _ hw0).trans rfl;have z2:wx.cell? ⟨w.heap.size,2,none⟩=some (.slice A' u.length c'):=(cell_of_row wx w.heap.size 2 _ _ _ hw0).trans rfl;have SM:Hid (Calls Tryz.prog 90 #[.agg #[.bool n,.slice A t.length c,.slice A' u.length c'],.agg #[.bool b,.slice A3 l.length c3,.slice A4 l'.length c4]] wx λe w'=>e= .returned (.bool (Qb n b t l u l'))/\Below wx.heap.size wx w'):=Qd (by
  obtain⟨_,_,e,y1,y2,y3,y4⟩:=HR1.out;injection e with e1 e2 e3
  subst e1 e3;obtain⟨_,_,e,y5,y6,y7,y8⟩:=HR2.out;injection e with e1 e2 e3
  subst e1 e3;obtain⟨_,_,e,x1,x2,x3,x4⟩:=r1;injection e with e1 e2 e3
  subst e1 e3;obtain⟨_,_,e,x5,x6,x7,x8⟩:=r2;injection e with e1 e2 e3
  subst e1 e3;exact Xf n b t l u l' A A' A3 A4 c c' c3 c4 wx wx.heap.size ((y4.below hxw).more hxw.size) x4 ((y8.below hxw).more hxw.size) x8 Lr (by omega) (by omega) (by omega) (by omega))
 generalize Qb n b t l u l'=SN at SM HRT;clear hJ q2 q3 r1 r2 hw0;unfold Ld;cases he:(er==0)
 ·rw[he] at HRT
  go_wp2_with fail
  go_ret;exact⟨Aa (by rw[HRT.out];rfl),hxw⟩
 rw[he] at HRT;go_wp2_with fail
 refine SM.out.mono ?_;rintro e w2 ⟨rfl,hb2⟩;go_wp2_with fail
 go_ret;exact⟨Aa (by rw[HRT.out];rfl),hxw.trans (hb2.mono hxw.size)⟩
end
section
open Go.RowKit Ar
theorem Cf {α:Type}{l:List α}(h:l.length=0):l.isEmpty=true:=by rw[List.eq_nil_of_length_eq_zero h];rfl
theorem Rc {α:Type}{l:List α}(h:l.length≠0):l.isEmpty=false:=by
 cases l
 ·exact absurd rfl h
 rfl
theorem Iq {S:Nat}{sh:List Int}{cells:List Fa}(h:sh.length≠0):Fb (.mk S sh cells)=false:=by
 have h0:=Rc h;unfold Fb
 split
 ·rename_i e;injection e with e1 e2 e3;subst e2;rw[h0];rfl
 rfl
theorem Hn {S:Nat}{sh:List Int}{cells:List Fa}(h:cells.length≠1):Fb (.mk S sh cells)=false:=by
 unfold Fb
 split
 ·rename_i e;injection e with e1 e2 e3;subst e3;exact absurd rfl h
 rfl
theorem Jn {S L:Nat}{sh:List Int}{cells:List Fa}{k:Int}{n:Bool}{t b:List Nat}{c:Int}{ins:List Ba}(h0:sh.length=0)(h1:cells.length=1)(h:cells[0]'(by omega)= .mk L k n t b c ins):Fb (.mk S sh cells)=(k !=2):=by
 cases cells with
 |nil=>cases h1
 |cons x r=>
  cases r with
  |cons y s=>simp at h1
  |nil=>
   simp at h;subst h;show(sh.isEmpty&&(k !=2))=_;rw[Cf h0];rfl
theorem Hw (n:Bool)(t b:List Nat)(A A':Option Addr)(c c':Nat)(w:World)(k1:t.length<=9223372036854775807)(k2:b.length<=9223372036854775807):
 Calls Tryz.prog 117 #[.agg #[.bool n,.slice A t.length c,.slice A' b.length c']] w λe w'=>e= .returned (.bool (Mc n t b))/\Below w.heap.size w w':=by
 have HR:Hid (Mc n t b=(!n&&t.isEmpty&&b.isEmpty)):=Qd rfl;generalize Mc n t b=R at*;have HT0:=Qd (λh=>Cf (l:=t) h);have HT1:=Qd (λh=>Rc (l:=t) h);have HB0:=Qd (λh=>Cf (l:=b) h);have HB1:=Qd (λh=>Rc (l:=b) h);generalize t.isEmpty=x at*;generalize b.isEmpty=y at*;generalize t.length=l1 at*;generalize b.length=l2 at*;cases n
 ·by_cases ht:l1=0
  ·have q1:((l1:Int)==0)=true:=beq_iff_eq.2 (by omega)
   have HT:=Qd (HT0.out ht);clear ht HT0 HT1;by_cases hb:l2=0
   ·have q2:((l2:Int)==0)=true:=beq_iff_eq.2 (by omega)
    have HB:=Qd (HB0.out hb);clear hb HB0 HB1;go_enter Tryz.func117,Tryz.ntmps117
    go_wp2_with fail
    go_ret;exact⟨Aa (by rw[HR.out,HT.out,HB.out];rfl),Br.alloc Lr _⟩
   have q2:((l2:Int)==0)=false:=beq_eq_false_iff_ne.2 (by omega);have HB:=Qd (HB1.out hb);clear hb HB0 HB1;go_enter Tryz.func117,Tryz.ntmps117
   go_wp2_with fail
   go_ret;exact⟨Aa (by rw[HR.out,HT.out,HB.out];rfl),Br.alloc Lr _⟩
  have q1:((l1:Int)==0)=false:=beq_eq_false_iff_ne.2 (by omega);have HT:=Qd (HT1.out ht);clear ht HT0 HT1;go_enter Tryz.func117,Tryz.ntmps117
  go_wp2_with fail
  go_ret;exact⟨Aa (by rw[HR.out,HT.out];rfl),Br.alloc Lr _⟩
 go_enter Tryz.func117,Tryz.ntmps117
 go_wp2_with fail
 go_ret;exact⟨Aa (by rw[HR.out];rfl),Br.alloc Lr _⟩
theorem Qr (a:Ba)(vs:List Value)(w:World)(B:Nat)(h:IsArr w B a vs)(hB:B<=w.heap.size):
 Calls Tryz.prog 119 #[.agg vs.toArray] w λe w'=>e= .returned (.bool (Fb a))/\Below w.heap.size w w':=by
 obtain⟨S,shape,cells⟩:=a;rw[IsArr] at h;obtain⟨A,c,A',c',us,rfl,hS,hf,hf',hw,hl,hl',hcs⟩:=h;have hfl:=(hf'.le (by omega));have hfs:shape.length<=17592186044416:=by have h1:=hf.1;have h2:=hf.2;omega
 have H0:=Qd (λh=>Iq (S:=S) (sh:=shape) (cells:=cells) h);have H1:=Qd (λh=>Hn (S:=S) (sh:=shape) (cells:=cells) h);by_cases h0:shape.length=0
 ·have q1:((shape.length:Int)==0)=true:=beq_iff_eq.2 (by omega)
  by_cases h1:cells.length=1
  ·have q2:((cells.length:Int)==1)=true:=beq_iff_eq.2 (by omega)
   obtain⟨b,off,L,kind,neg,top,bot,ch,ins,A1,c1,A2,c2,A3,c3,us3,rfl,hb,hL,HX,t1,t2,t3,t4,t5,t6,g0,g1,g2,g3,g4,g5,g6⟩:=Dd (k:=0) hcs hl' (wr:=w.alloc (.cells #[.int .u64 (S:Int),.slice A shape.length c,.slice A' cells.length c'] 42)) (λp hp=>((Below.refl w.heap.size w).alloc Lr _).cell (by omega)) (by omega);have HS:=Qd (Jn (S:=S) h0 h1 HX.out.eq);have hcl:(1:Int)<=(cells.length:Int):=by omega
   simp only[Nat.zero_mul,Nat.add_zero] at g1;clear HX H0 H1 h0 h1 hcs hl' hl hf hf' hw g0 g2 g3 g4 g5 g6;generalize Fb (.mk S shape cells)=R at*;generalize shape.length=z1 at*;generalize cells.length=z2 at*;go_enter Tryz.func119,Tryz.ntmps119
   go_wp2_with fail
   go_ret;exact⟨Aa (by rw[HS.out]),Br.alloc Lr _⟩
  have q2:((cells.length:Int)==1)=false:=beq_eq_false_iff_ne.2 (by omega);have HS:=Qd (H1.out h1);clear H0 H1 h0 h1 hcs hl' hl hf hf' hw;generalize Fb (.mk S shape cells)=R at*;generalize shape.length=z1 at*;generalize cells.length=z2 at*;go_enter Tryz.func119,Tryz.ntmps119
  go_wp2_with fail
  go_ret;exact⟨Aa (by rw[HS.out]),Br.alloc Lr _⟩
 have q1:((shape.length:Int)==0)=false:=beq_eq_false_iff_ne.2 (by omega);have HS:=Qd (H0.out h0);clear H0 H1 h0 hcs hl' hl hf hf' hw;generalize Fb (.mk S shape cells)=R at*;generalize shape.length=z1 at*;generalize cells.length=z2 at*;go_enter Tryz.func119,Tryz.ntmps119
 go_wp2_with fail
 go_ret;exact⟨Aa (by rw[HS.out]),Br.alloc Lr _⟩
end
section
open Go.RowKit Ar
theorem CelIn.is {w:World}{B:Nat}{ce:Fa}{L:Nat}{kind:Int}{neg:Bool}{top bot:List Nat}{ch:Int}{ins:List Ba}{A1 A2 A3:Option Addr}{c1 c2 c3:Nat}{us:List Value}(h:CelIn w B ce L kind neg top bot ch ins A1 A2 A3 c1 c2 c3 us)(hL:L<18446744073709551616):
 IsCel w B ce [.int .u64 (L:Int),.int .i64 kind,.bool neg,.slice A1 top.length c1,.slice A2 bot.length c2,.int .i64 ch,.slice A3 ins.length c3]:=by
 rw[h.eq,IsCel];exact⟨A1,c1,A2,c2,A3,c3,us,rfl,hL,h.ft,h.fb,h.fi,h.wk,h.wt,h.wb,h.lt,h.lb,h.li,h.arrs,h.nt,h.nb⟩
end
section
open Go.RowKit Ar
def Lk (n:Nat):Prop:=∀(a:Ba) (vs:List Value) (d:Nat) (w:World) (B:Nat),SizeOf.sizeOf a<n->IsArr w B a vs->B<=w.heap.size->d<=100->
 Calls Tryz.prog 47 #[.agg vs.toArray,.int .i64 (d:Int)] w λe w'=>e= .returned (.bool (Ga d a))/\Below w.heap.size w w'
theorem Kn {d L:Nat}{n:Bool}{t b:List Nat}{c:Int}{ins:List Ba}:Ia d (.mk L 0 n t b c ins)=((c==0)&&ins.isEmpty&&Rt.right ⟨n,t,b⟩):=by rw[Ia,if_pos rfl]
theorem Ln {d L:Nat}{n:Bool}{t b:List Nat}{c:Int}{ins:List Ba}:Ia d (.mk L 1 n t b c ins)=(Mc n t b&&ins.isEmpty&&Lc c):=by rw[Ia,if_neg (by decide),if_pos rfl]
theorem Mn {d L:Nat}{n:Bool}{t b:List Nat}{c:Int}{ins:List Ba}:Ia d (.mk L 2 n t b c ins)=(Mc n t b&&(c==0)&&decide (0<d)&&Va d ins):=by rw[Ia,if_neg (by decide),if_neg (by decide)];rfl
theorem Nn {d L:Nat}{k:Int}{n:Bool}{t b:List Nat}{c:Int}{ins:List Ba}(h0:k≠0)(h1:k≠1)(h2:(k==2)=false):Ia d (.mk L k n t b c ins)=false:=by rw[Ia,if_neg h0,if_neg h1,h2];rfl
theorem Kj {d:Nat}{ins:List Ba}(h:ins.length≠1):Va d ins=false:=by
 match ins with
 | []=>rw[Va];rintro a h;cases h
 | [a]=>exact absurd rfl h
 |a::b::r=>rw[Va];rintro a h;cases h
theorem Lj {d:Nat}{ins:List Ba}(h:ins.length=1):Va d ins=(!Fb (ins[0]'(by omega))&&Ga (d-1) (ins[0]'(by omega))):=by
 match ins with
 | []=>cases h
 | [a]=>rw[Va];rfl
 |a::b::r=>simp at h
theorem Rr {n:Nat}(ih:Lk n)(x:Fa)(vs:List Value)(d:Nat)(w:World)(B:Nat)(hx:SizeOf.sizeOf x<n)(h:IsCel w B x vs)(hB:B<=w.heap.size)(hd:d<=100):
 Calls Tryz.prog 79 #[.agg vs.toArray,.int .i64 (d:Int)] w λe w'=>e= .returned (.bool (Ia d x))/\Below w.heap.size w w':=by
 obtain⟨L,kind,neg,top,bot,ch,ins⟩:=x;rw[IsCel] at h;obtain⟨A1,c1,A2,c2,A3,c3,us,rfl,hL,hf1,hf2,hf3,hw1,hw2,hw3,hl1,hl2,hl3,hins,hnt,hnb⟩:=h;obtain⟨W,hW⟩:∃W,W=w.alloc (.cells #[.int .u64 (L:Int),.int .i64 kind,.bool neg,.slice A1 top.length c1,.slice A2 bot.length c2,.int .i64 ch,.slice A3 ins.length c3] 87):=⟨_,rfl⟩;have hWs:W.heap.size=w.heap.size+1:=by rw[hW];simp
 have hWb:Below w.heap.size w W:=by rw[hW];exact Br.alloc Lr _
 have HQ5:Hid (W.cell? ⟨w.heap.size,5,none⟩=some (.int .i64 ch)):=Qd (by rw[hW];go_simp);have HQ6:Hid (W.cell? ⟨w.heap.size,6,none⟩=some (.slice A3 ins.length c3)):=Qd (by rw[hW];go_simp);have HW:=Qd hW;have hWl:w.heap.size<W.heap.size:=by omega
 have m1:top.length<=35184372088832:=by have h1:=hf1.1;have h2:=hf1.2;omega
 have m2:bot.length<=35184372088832:=by have h1:=hf2.1;have h2:=hf2.2;omega
 have m3:ins.length<=35184372088832:=by have h1:=hf3.1;have h2:=hf3.2;omega
 have hch: -9223372036854775808<=ch/\ch<=9223372036854775807:=hw1 ch (by simp);have ZR:=Qd (Hw neg top bot A1 A2 c1 c2 W (by omega) (by omega));have MY:=Qd (λ(wx:World)=>Gw ch wx hch.1 hch.2);have RR:=Qd (Yy neg A1 top c1 A2 bot c2 W ⟨A1,c1,rfl,hf1.1,hf1.2.2,hnt,(hl1.below (hWb.mono hB)).more (by omega)⟩ ⟨A2,c2,rfl,hf2.1,hf2.2.2,hnb,(hl2.below (hWb.mono hB)).more (by omega)⟩ hw2 hw3);have hsz0:∀a∈ins,SizeOf.sizeOf a<n:=λa ha=>by
  have h1:=List.sizeOf_lt_of_mem ha;simp only[Fa.mk.sizeOf_spec] at hx;omega
 have HS:=Qd hins;have HL:=Qd hl3;have HE0:=Qd (λh=>Cf (l:=ins) h);have HE1:=Qd (λh=>Rc (l:=ins) h);have R0:=Qd (Kn (d:=d) (L:=L) (n:=neg) (t:=top) (b:=bot) (c:=ch) (ins:=ins));have R1:=Qd (Ln (d:=d) (L:=L) (n:=neg) (t:=top) (b:=bot) (c:=ch) (ins:=ins));have R2:=Qd (Mn (d:=d) (L:=L) (n:=neg) (t:=top) (b:=bot) (c:=ch) (ins:=ins));have RX:=Qd (λh0 h1 h2=>Nn (d:=d) (L:=L) (k:=kind) (n:=neg) (t:=top) (b:=bot) (c:=ch) (ins:=ins) h0 h1 h2);have RI1:=Qd (λh=>Kj (d:=d) (ins:=ins) h);have RI2:=Qd (λh=>Lj (d:=d) (ins:=ins) h);clear hins hl1 hl2 hl3 hf1 hf2 hf3 hw1 hw2 hw3 hnt hnb hx hW hch;generalize top.length=l1 at*;generalize bot.length=l2 at*;generalize Rt.right ⟨neg,top,bot⟩=RT at*;generalize Mc neg top bot=Z at*;generalize Lc ch=MB at*;generalize ins.isEmpty=IE at*;by_cases k0:kind=0
 ·subst k0
  have HR:=Qd R0.out;clear R0 R1 R2 RX RI1 RI2 ZR MY;generalize Ia d (.mk L 0 neg top bot ch ins)=R at*;cases q1:(ch==0)
  ·rw[q1] at HR
   go_enter Tryz.func79,Tryz.ntmps79
   go_wp2_with fail
   go_ret;exact⟨Aa (by rw[HR.out];rfl),by rw[HW.out] at hWb;exact hWb⟩
  rw[q1] at HR;by_cases h0:ins.length=0
  ·have q2:((ins.length:Int)==0)=true:=beq_iff_eq.2 (by omega)
   have HE:=Qd (HE0.out h0);clear h0 HE0 HE1;generalize ins.length=l3 at*;go_enter Tryz.func79,Tryz.ntmps79
   go_wp2_with fail
   rw[<-HW.out];refine RR.out.mono ?_;rintro e w2 ⟨rfl,hb2⟩;go_wp2_with fail
   go_ret;exact⟨Aa (by rw[HR.out,HE.out];simp),hWb.trans (hb2.mono (by omega))⟩
  have q2:((ins.length:Int)==0)=false:=beq_eq_false_iff_ne.2 (by omega);have HE:=Qd (HE1.out h0);clear h0 HE0 HE1;generalize ins.length=l3 at*;go_enter Tryz.func79,Tryz.ntmps79
  go_wp2_with fail
  go_ret;exact⟨Aa (by rw[HR.out,HE.out];simp),by rw[HW.out] at hWb;exact hWb⟩
 by_cases k1:kind=1
 ·subst k1
  have HR:=Qd R1.out;clear R0 R1 R2 RX RI1 RI2 RR k0;generalize Ia d (.mk L 1 neg top bot ch ins)=R at*;go_enter Tryz.func79,Tryz.ntmps79
  go_wp2_with fail
  rw[<-HW.out];refine ZR.out.mono ?_;rintro e w2 ⟨rfl,hb2⟩;have r5:w2.cell? ⟨w.heap.size,5,none⟩=some (.int .i64 ch):=(hb2.cell (p:=⟨w.heap.size,5,none⟩) hWl).trans HQ5.out;have r6:w2.cell? ⟨w.heap.size,6,none⟩=some (.slice A3 ins.length c3):=(hb2.cell (p:=⟨w.heap.size,6,none⟩) hWl).trans HQ6.out;cases Z
  ·go_wp2_with fail
   go_ret;exact⟨Aa (by rw[HR.out];rfl),hWb.trans (hb2.mono (by omega))⟩
  by_cases h0:ins.length=0
  ·have q2:((ins.length:Int)==0)=true:=beq_iff_eq.2 (by omega)
   have HE:=Qd (HE0.out h0);clear h0 HE0 HE1;generalize ins.length=l3 at*;go_wp2_with fail
   refine(MY.out _).mono ?_;rintro e w3 ⟨rfl,rfl⟩;go_wp2_with fail
   go_ret;exact⟨Aa (by rw[HR.out,HE.out];simp),hWb.trans (hb2.mono (by omega))⟩
  have q2:((ins.length:Int)==0)=false:=beq_eq_false_iff_ne.2 (by omega);have HE:=Qd (HE1.out h0);clear h0 HE0 HE1;generalize ins.length=l3 at*;go_wp2_with fail
  go_ret;exact⟨Aa (by rw[HR.out,HE.out];simp),hWb.trans (hb2.mono (by omega))⟩
 have p0:(kind==0)=false:=by simpa using k0
 have p1:(kind==1)=false:=by simpa using k1
 cases p2:(kind==2)
 ·have HR:=Qd (RX.out k0 k1 p2)
  clear R0 R1 R2 RX RI1 RI2 RR k0 k1;generalize Ia d (.mk L kind neg top bot ch ins)=R at*;go_enter Tryz.func79,Tryz.ntmps79
  go_wp2_with fail
  go_ret;exact⟨Aa (by rw[HR.out]),by rw[HW.out] at hWb;exact hWb⟩
 obtain rfl:kind=2:=by simpa using p2
 have HR:=Qd R2.out;clear R0 R1 R2 RX RR k0 k1 p0 p1 p2;generalize Ia d (.mk L 2 neg top bot ch ins)=R at*;go_enter Tryz.func79,Tryz.ntmps79
 go_wp2_with fail
 rw[<-HW.out];refine ZR.out.mono ?_;rintro e w2 ⟨rfl,hb2⟩;have r5:w2.cell? ⟨w.heap.size,5,none⟩=some (.int .i64 ch):=(hb2.cell (p:=⟨w.heap.size,5,none⟩) hWl).trans HQ5.out;have r6:w2.cell? ⟨w.heap.size,6,none⟩=some (.slice A3 ins.length c3):=(hb2.cell (p:=⟨w.heap.size,6,none⟩) hWl).trans HQ6.out;have hb3:=hWb.trans (hb2.mono (by omega));cases Z
 ·go_wp2_with fail
  go_ret;exact⟨Aa (by rw[HR.out];rfl),hb3⟩
 cases q1:(ch==0)
 ·rw[q1] at HR
  go_wp2_with fail
  go_ret;exact⟨Aa (by rw[HR.out];rfl),hb3⟩
 rw[q1] at HR;by_cases h1:ins.length=1
 ·have q2:((ins.length:Int)==1)=true:=beq_iff_eq.2 (by omega)
  obtain⟨a0,ha0⟩:∃a,a=ins[0]'(by omega):=⟨_,rfl⟩;have hi:=RI2.out h1;rw[<-ha0] at hi;have HI:=Qd hi;clear hi;by_cases h2:0<d
  ·have q3:decide ((0:Int)<(d:Int))=true:=decide_eq_true (by omega)
   have HD:Hid (decide (0<d)=true):=Qd (decide_eq_true h2);obtain⟨b,off,S,X,xn,xc,Y,yn,yc,rfl,hb,HA,g0,g1,g2⟩:=Ue (k:=0) HS.out HL.out (wr:=w2) (λp hp=>hb3.cell (by omega)) (by omega);simp only[Nat.zero_mul,Nat.add_zero] at g0 g1 g2;rw[<-ha0] at HA;have hsa:SizeOf.sizeOf a0<n:=by rw[ha0];exact hsz0 _ (List.getElem_mem _)
   have SP:=Qd (Qr a0 _ w2 B (HA.out.below (hb3.mono hB)) (by have:=hb3.size;omega));have HG:Hid (w2.cell? ⟨b,off,none⟩=some (.int .u64 (S:Int))/\w2.cell? ⟨b,off+1,none⟩=some (.slice X xn xc)/\w2.cell? ⟨b,off+2,none⟩=some (.slice Y yn yc)):=Qd ⟨g0,g1,g2⟩;have hcl:(1:Int)<=(ins.length:Int):=by omega
   have hbl:b<w2.heap.size:=by have:=hb3.size;omega
   have IH:=Qd (λ(wx:World) (hx:Below w2.heap.size w2 wx)=>ih a0 _ (d-1) wx B hsa (HA.out.below ((hb3.trans (hx.mono hb3.size)).mono hB)) (by have:=hb3.size;have:=hx.size;omega) (by omega));have hdd:((d-1:Nat):Int)=(d:Int)-1:=by omega
   rw[hdd] at IH;clear ha0;clear hdd h1 RI1 RI2 HE0 HE1;have q3':decide (0<d)=true:=decide_eq_true h2;generalize Fb a0=SB at*;generalize Ga (d-1) a0=RA at*;generalize Va d ins=RI at*;generalize ins.length=l3 at*;go_wp2_with fail
   refine SP.out.mono ?_;rintro e w3 ⟨rfl,hb4⟩;have r6':w3.cell? ⟨w.heap.size,6,none⟩=some (.slice (some ⟨b,off,none⟩) l3 c3):=(hb4.cell (p:=⟨w.heap.size,6,none⟩) (show w.heap.size<_ by have:=hb2.size;omega)).trans r6;have g0':w3.cell? ⟨b,off,none⟩=some (.int .u64 (S:Int)):=(hb4.cell (p:=⟨b,off,none⟩) hbl).trans HG.out.1;have g1':w3.cell? ⟨b,off+1,none⟩=some (.slice X xn xc):=(hb4.cell (p:=⟨b,off+1,none⟩) hbl).trans HG.out.2.1;have g2':w3.cell? ⟨b,off+2,none⟩=some (.slice Y yn yc):=(hb4.cell (p:=⟨b,off+2,none⟩) hbl).trans HG.out.2.2;have hb5:=hb3.trans (hb4.mono hb3.size);clear r5 r6 g0 g1 g2;cases SB
   ·go_wp2_with fail
    refine(IH.out _ hb4).mono ?_;rintro e w4 ⟨rfl,hb6⟩;go_wp2_with fail
    go_ret;exact⟨Aa (by rw[HR.out,HD.out,HI.out];simp),hb5.trans (hb6.mono hb5.size)⟩
   go_wp2_with fail
   go_ret;exact⟨Aa (by rw[HR.out,HD.out,HI.out];simp),hb5⟩
  have q3:decide ((0:Int)<(d:Int))=false:=decide_eq_false (by omega);have HD:Hid (decide (0<d)=false):=Qd (decide_eq_false h2);have q3':decide (0<d)=false:=decide_eq_false h2;clear ha0 HI;clear h1 h2 RI1 RI2 HE0 HE1;generalize ins.length=l3 at*;go_wp2_with fail
  go_ret;exact⟨Aa (by rw[HR.out,HD.out];simp),hb3⟩
 have q2:((ins.length:Int)==1)=false:=beq_eq_false_iff_ne.2 (by omega);have HI:=Qd (RI1.out h1);clear h1 RI1 RI2 HE0 HE1;generalize ins.length=l3 at*;go_wp2_with fail
 go_ret;exact⟨Aa (by rw[HR.out,HI.out];simp),hb3⟩
theorem Jq {d S:Nat}{sh:List Int}{cells:List Fa}:Ga d (.mk S sh cells)=(((cnt sh).2==0)&&((cnt sh).1==(cells.length:Int))&&Ma d cells):=by rw[Ga]
theorem Zy {n:Nat}(ih:Lk n):Lk (n+1):=by
 intro a vs d w B hx h hB hd;obtain⟨S,shape,cells⟩:=a;rw[IsArr] at h;obtain⟨A,c,A',c',us,rfl,hS,hf,hf',hw,hl,hl',hcs⟩:=h;obtain⟨W,hW⟩:∃W,W=w.alloc (.cells #[.int .u64 (S:Int),.slice A shape.length c,.slice A' cells.length c'] 42):=⟨_,rfl⟩;have hWs:W.heap.size=w.heap.size+1:=by rw[hW];simp
 have hWb:Below w.heap.size w W:=by rw[hW];exact Br.alloc Lr _
 have HQ2:Hid (W.cell? ⟨w.heap.size,2,none⟩=some (.slice A' cells.length c')):=Qd (by rw[hW];go_simp);have HW:=Qd hW;have hWl:w.heap.size<W.heap.size:=by omega
 have CT:=Qd (Mt shape A c W B (hl.below (hWb.mono hB)) (by have h1:=hf.1;have h2:=hf.2;omega));have HR:=Qd (Jq (d:=d) (S:=S) (sh:=shape) (cells:=cells));have hbd:=Faa shape;have hfl:=(hf'.le (by omega));have hsz0:∀a∈cells,SizeOf.sizeOf a<n:=λa ha=>by
  have h1:=List.sizeOf_lt_of_mem ha;simp only[Ba.mk.sizeOf_spec] at hx;omega
 have HC:=Qd hcs;have HL:=Qd hl';have CE:=Qd (λ(k:Nat) (hk:k<cells.length) (u:List Value) (wx:World) (hu:IsCel wx B cells[k] u) (hbx:B<=wx.heap.size)=>Rr ih cells[k] u d wx B (hsz0 _ (List.getElem_mem hk)) hu hbx hd);clear hcs hl' hl hf hf' hw hsz0 hx hW;generalize Ga d (.mk S shape cells)=R at*;generalize(cnt shape).1=N at*;generalize(cnt shape).2=E at*;generalize shape.length=l1 at*;have go1:∀(x:Bool),(E==0)=x->True:=λ_ _=>trivial;clear go1;cases q1:(E==0)
 ·rw[q1] at HR
  have q2:(E !=0)=true:=by simpa using q1
  go_enter Tryz.func47,Tryz.ntmps47
  go_wp2_with fail
  rw[<-HW.out];refine CT.out.mono ?_;rintro e w2 ⟨rfl,hb2⟩;go_wp2_with fail
  go_ret;exact⟨Aa (by rw[HR.out];rfl),hWb.trans (hb2.mono (by omega))⟩
 rw[q1] at HR;have q2:(E !=0)=false:=by simpa using q1
 by_cases hN:N=(cells.length:Int)
 ·subst hN
  have q3:((cells.length:Int)!=(cells.length:Int))=false:=by simp
  have HR2:Hid (R=Ma d cells):=Qd (by rw[HR.out];simp);clear HR;go_enter Tryz.func47,Tryz.ntmps47
  go_wp2_with fail
  rw[<-HW.out];refine CT.out.mono ?_;rintro e w2 ⟨rfl,hb2⟩;have r2:w2.cell? ⟨w.heap.size,2,none⟩=some (.slice A' cells.length c'):=(hb2.cell (p:=⟨w.heap.size,2,none⟩) hWl).trans HQ2.out;go_wp2_with fail
  clear r2;go_loopw [7] (λi wr=>∃k:Nat,k<=cells.length/\i= .int .i64 k/\Hid (Ma d (cells.drop k)=Ma d cells)/\Below W.heap.size W wr) (λi _=>cells.length-(intOf i).toNat)
  case atStart=>exact⟨0,Nat.zero_le _,rfl,Qd rfl,hb2⟩
  case round=>
   clear hb2;obtain⟨k,hk,rfl,HT,hbel⟩:=hrel;have hsz:=hbel.size;have hb0:=hWb.trans (hbel.mono (by omega));by_cases hlt:k<cells.length
   ·have r2:wr.cell? ⟨w.heap.size,2,none⟩=some (.slice A' cells.length c'):=(hbel.cell (p:=⟨w.heap.size,2,none⟩) hWl).trans HQ2.out
    obtain⟨b,off,L,kind,neg,top,bot,ch,ins,A1,c1,A2,c2,A3,c3,us3,rfl,hb,hL,HX,t1,t2,t3,t4,t5,t6,g0,g1,g2,g3,g4,g5,g6⟩:=Dd HC.out HL.out (wr:=wr) (λp hp=>hb0.cell (by omega)) hlt;have CK:=Qd (CE.out k hlt _ wr ((HX.out.is hL).below (hb0.mono hB)) (by omega));have HST:=Qd (Lh (d:=d) hlt);generalize Ia d cells[k]=RC at*;have hk0:(0:Int)<=(k:Int):=by omega
    have hk1:(k:Int)<(cells.length:Int):=by omega
    go_wp2_with fail
    refine CK.out.mono ?_;rintro e w3 ⟨rfl,hb3⟩;have hb4:=hbel.trans (hb3.mono hsz);clear r2 g0 g1 g2 g3 g4 g5 g6;cases RC
    ·have HZ:Hid (R=false):=Qd (by rw[HR2.out,<-HT.out,HST.out];rfl)
     go_wp2_with fail
     go_ret;exact⟨Aa (by rw[HZ.out]),hWb.trans (hb4.mono (by omega))⟩
    have HZ:Hid (Ma d (cells.drop (k+1))=Ma d cells):=Qd (by rw[<-HT.out,HST.out];rfl);go_wp2_with fail
    go_roundw
    case rel=>exact⟨k+1,by omega,by go_num,HZ,hb4⟩
    case measure=>simp[intOf];omega
   have HZ:Hid (R=true):=Qd (by rw[HR2.out,<-HT.out];exact Ii (by omega));go_wp2_with fail
   go_ret;exact⟨Aa (by rw[HZ.out]),hb0⟩
 have q3:(N !=(cells.length:Int))=true:=by simpa using hN
 have HR2:Hid (R=false):=Qd (by rw[HR.out,show(N==(cells.length:Int))=false by simpa using hN];rfl);clear hN HR;go_enter Tryz.func47,Tryz.ntmps47
 go_wp2_with fail
 rw[<-HW.out];refine CT.out.mono ?_;rintro e w2 ⟨rfl,hb2⟩;have r2:w2.cell? ⟨w.heap.size,2,none⟩=some (.slice A' cells.length c'):=(hb2.cell (p:=⟨w.heap.size,2,none⟩) hWl).trans HQ2.out;go_wp2_with fail
 go_ret;exact⟨Aa (by rw[HR2.out]),hWb.trans (hb2.mono (by omega))⟩
theorem Yf:∀n,Lk n
 | 0=>λa vs d w B h=>by omega
 |n+1=>Zy (Yf n)
end
section
open Go.RowKit Ar
theorem Ot (x:Int)(w:World):Calls Tryz.prog 145 #[.int .i64 x] w λe w'=>e= .returned (.bool (decide (x<0)))/\w=w':=by
 cases q:decide (x<0);all_goals
  go_enter Tryz.func145,Tryz.ntmps145
  go_wp2_with fail
  go_ret;exact⟨Aa (by simp),rfl⟩
theorem Pt (x:Int)(w:World):Calls Tryz.prog 146 #[.int .i64 x] w λe w'=>e= .returned (.bool (decide (2048<x)))/\w=w':=by
 cases q:decide (2048<x);all_goals
  go_enter Tryz.func146,Tryz.ntmps146
  go_wp2_with fail
  go_ret;exact⟨Aa (by simp),rfl⟩
def Qt (r:Bool)(w:World)(e:Ending)(w':World):Prop:=∃i:Int,e= .returned (.int .i64 i)/\decide (0<=i)=r/\w=w'
theorem St {p:Int->Bool}{l:List Int}{k:Nat}(hk:k=l.length)(h:(l.take k).any p=false):l.any p=false:=by subst hk;rwa[List.take_length] at h
theorem Sr (F:FuncId)(hE:∀args w,(callFunc F args).run Tryz.prog w= .ok (.enter F args) w)(p:Int->Bool)(A:Option Addr)(c:Nat)(l:List Int)(w:World)(B:Nat)(hl:Lies w B A (Sb l))(hn:l.length<=9223372036854775807)
 (hF:∀x,Calls Tryz.prog F #[.int .i64 x] w λe w'=>e= .returned (.bool (p x))/\w=w'):
 Calls Tryz.prog 203 #[.slice A l.length c,.func (.func F) #[] #[]] w (Qt (l.any p) w):=by
 have HA:=Qd hl;have HF:=Qd hF;clear hl hF;go_enter Tryz.func203,Tryz.ntmps203
 go_wp2_with fail
 go_loop [8] (λiv=>∃i:Nat,iv= .int .i64 (i:Int)/\i<=l.length/\Hid ((l.take i).any p=false)) (λiv=>l.length-(intOf iv).toNat)
 case atStart=>exact⟨0,by go_num,Nat.zero_le _,Qd rfl⟩
 case round=>
  obtain⟨k,rfl,hk,HT⟩:=hrel;by_cases hlt:k<l.length
  ·obtain⟨b,off,rfl,hb,g0⟩:=Zb HA.out hlt
   have H1:=Qd (Pc (p:=p) hlt);have H2:=Qd (Vm (p:=p) hlt);have FX:=Qd (HF.out l[k]);generalize l[k]=x at*;generalize p x=r at*;have hk0:(0:Int)<=(k:Int):=by omega
   have hk1:(k:Int)<(l.length:Int):=by omega
   go_wp2_with fail
   refine FX.out.mono ?_;rintro e w' ⟨rfl,rfl⟩;cases r
   ·have H3:Hid ((l.take (k+1)).any p=false):=Qd (by rw[H1.out,HT.out];rfl)
    go_wp2_with fail
    go_round
    case rel=>exact⟨k+1,by go_num,by omega,H3⟩
    case measure=>simp[intOf];omega
   have H3:=Qd (H2.out rfl);go_wp2_with fail
   go_ret;exact⟨_,rfl,by rw[H3.out];exact decide_eq_true (by omega),rfl⟩
  have H3:=Qd (St (by omega) HT.out);go_wp2_with fail
  go_ret;exact⟨_,rfl,by rw[H3.out];rfl,rfl⟩
theorem Mj (F:FuncId)(hE:∀args w,(callFunc F args).run Tryz.prog w= .ok (.enter F args) w)(p:Int->Bool)(A:Option Addr)(c:Nat)(l:List Int)(w:World)(B:Nat)(hl:Lies w B A (Sb l))(hn:l.length<=9223372036854775807)
 (hF:∀x,Calls Tryz.prog F #[.int .i64 x] w λe w'=>e= .returned (.bool (p x))/\w=w'):
 Calls Tryz.prog 144 #[.slice A l.length c,.func (.func F) #[] #[]] w λe w'=>e= .returned (.bool (l.any p))/\w=w':=by
 have IX:=Qd (Sr F hE p A c l w B hl hn hF);clear hE;clear hl hF;generalize l.any p=r at*;generalize l.length=n at*;go_enter Tryz.func144,Tryz.ntmps144
 go_wp2_with fail
 refine IX.out.mono ?_;rintro e w' ⟨i,rfl,hr,rfl⟩;go_wp2_with fail
 go_ret;exact⟨rfl,rfl⟩
theorem F2 (A:Option Addr)(c:Nat)(l:List Int)(y:Int)(w:World)(B:Nat)(hl:Lies w B A (Sb l))(hn:l.length<=9223372036854775807):
 Calls Tryz.prog 204 #[.slice A l.length c,.int .i64 y] w (Qt (l.any (· ==y)) w):=by
 have HA:=Qd hl;clear hl;go_enter Tryz.func204,Tryz.ntmps204
 go_wp2_with fail
 go_loop [8] (λiv=>∃i:Nat,iv= .int .i64 (i:Int)/\i<=l.length/\Hid ((l.take i).any (· ==y)=false)) (λiv=>l.length-(intOf iv).toNat)
 case atStart=>exact⟨0,by go_num,Nat.zero_le _,Qd rfl⟩
 case round=>
  obtain⟨k,rfl,hk,HT⟩:=hrel;by_cases hlt:k<l.length
  ·obtain⟨b,off,rfl,hb,g0⟩:=Zb HA.out hlt
   have H1:=Qd (Pc (p:=(· ==y)) hlt);have H2:=Qd (Vm (p:=(· ==y)) hlt);generalize l[k]=x at*;have hk0:(0:Int)<=(k:Int):=by omega
   have hk1:(k:Int)<(l.length:Int):=by omega
   by_cases hxy:x=y
   ·subst hxy
    have e1:(x==x)=true:=by simp
    have H3:=Qd (H2.out e1);clear H1 H2;go_wp2_with fail
    go_ret;exact⟨_,rfl,by rw[H3.out];exact decide_eq_true (by omega),rfl⟩
   have e1:(y==x)=false:=beq_eq_false_iff_ne.2 (λh=>hxy h.symm);have H3:Hid ((l.take (k+1)).any (· ==y)=false):=Qd (by rw[H1.out,HT.out];simpa using hxy);clear H1 H2 hxy;go_wp2_with fail
   go_round
   case rel=>exact⟨k+1,by go_num,by omega,H3⟩
   case measure=>simp[intOf];omega
  have H3:=Qd (St (by omega) HT.out);go_wp2_with fail
  go_ret;exact⟨_,rfl,by rw[H3.out];rfl,rfl⟩
theorem Tt (A:Option Addr)(c:Nat)(l:List Int)(y:Int)(w:World)(B:Nat)(hl:Lies w B A (Sb l))(hn:l.length<=9223372036854775807):
 Calls Tryz.prog 147 #[.slice A l.length c,.int .i64 y] w λe w'=>e= .returned (.bool (l.any (· ==y)))/\w=w':=by
 have IX:=Qd (F2 A c l y w B hl hn);clear hl;generalize l.any (· ==y)=r at*;generalize l.length=n at*;go_enter Tryz.func147,Tryz.ntmps147
 go_wp2_with fail
 refine IX.out.mono ?_;rintro e w' ⟨i,rfl,hr,rfl⟩;go_wp2_with fail
 go_ret;exact⟨rfl,rfl⟩
theorem Az {o x:Int}(h1:1<=o)(h2:o<=2048)(h3:1<=x)(h4:x<=2048):1<=o*x/\o*x<=4194304:=by
 have a:o*1<=o*x:=Int.mul_le_mul_of_nonneg_left h3 (by omega);have b:o*x<=o*2048:=Int.mul_le_mul_of_nonneg_left h4 (by omega);omega
theorem Iw (A:Option Addr)(c:Nat)(l:List Int)(w:World)(B:Nat)(hl:Lies w B A (Sb l))(hn:l.length<=9223372036854775807)(hx:∀x∈l,1<=x/\x<=2048):
 Calls Tryz.prog 148 #[.slice A l.length c] w λe w'=>e= .returned (.int .i64 ((Eb 1 l).getD 0))/\w=w':=by
 have HA:=Qd hl;have HX:=Qd hx;clear hl hx;go_enter Tryz.func148,Tryz.ntmps148
 go_wp2_with fail
 go_loop [3,8] (λpv iv=>∃(i:Nat) (o:Int),iv= .int .i64 (i:Int)/\i<=l.length/\pv= .int .i64 o/\1<=o/\o<=2048/\Hid (Eb o (l.drop i)=Eb 1 l)) (λ_ iv=>l.length-(intOf iv).toNat)
 case atStart=>exact⟨0,1,by go_num,Nat.zero_le _,rfl,by omega,by omega,Qd rfl⟩
 case round=>
  obtain⟨k,o,rfl,hk,rfl,ho1,ho2,HT⟩:=hrel;by_cases hlt:k<l.length
  ·obtain⟨b,off,rfl,hb,g0⟩:=Zb HA.out hlt
   have H1:=Qd (Wm (n:=o) hlt);obtain⟨hx1,hx2⟩:=HX.out l[k] (List.getElem_mem hlt);generalize l[k]=x at*;obtain⟨hp1,hp2⟩:=Az ho1 ho2 hx1 hx2;have hk0:(0:Int)<=(k:Int):=by omega
   have hk1:(k:Int)<(l.length:Int):=by omega
   obtain⟨p,hp⟩:∃p,p=o*x:=⟨_,rfl⟩;rw[<-hp] at H1 hp1 hp2;have hp':o*x=p:=hp.symm;clear hp;by_cases hbig:2048<p
   ·have H3:Hid (Eb 1 l=none):=Qd (by rw[<-HT.out,H1.out,if_pos hbig])
    clear H1 HT;go_wp2_with fail
    go_ret;exact⟨by rw[H3.out];rfl,rfl⟩
   have H3:Hid (Eb p (l.drop (k+1))=Eb 1 l):=Qd (by rw[<-HT.out,H1.out,if_neg hbig]);clear H1 HT;go_wp2_with fail
   go_round
   case rel=>exact⟨k+1,p,by go_num,by omega,by rw[<-hp'],hp1,by omega,H3⟩
   case measure=>simp[intOf];omega
  have H3:Hid (Eb 1 l=some o):=Qd (by rw[<-HT.out];exact Xp (by omega));go_wp2_with fail
  go_ret;exact⟨by rw[H3.out];rfl,rfl⟩
theorem Yba {l:List Int}(h:6<l.length):cnt l=(0,7):=by unfold cnt;rw[if_pos h]
theorem Zba {l:List Int}(h:¬6<l.length)(h2:l.any (λx=>decide (x<0))=true):cnt l=(0,3):=by unfold cnt;rw[if_neg h,if_pos h2]
theorem Aca {l:List Int}(h:¬6<l.length)(h2:l.any (λx=>decide (x<0))=false)(h3:l.any (λx=>decide (2048<x))=true):cnt l=(0,7):=by unfold cnt;rw[if_neg h,h2,if_neg (by decide),if_pos h3]
theorem Bca {l:List Int}(h:¬6<l.length)(h2:l.any (λx=>decide (x<0))=false)(h3:l.any (λx=>decide (2048<x))=false)(h4:l.any (· ==0)=true):cnt l=(0,0):=by unfold cnt;rw[if_neg h,h2,if_neg (by decide),h3,if_neg (by decide),if_pos h4]
theorem Cca {l:List Int}(h:¬6<l.length)(h2:l.any (λx=>decide (x<0))=false)(h3:l.any (λx=>decide (2048<x))=false)(h4:l.any (· ==0)=false):cnt l=match Eb 1 l with |some n=>(n,0) |none=>(0,7):=by unfold cnt;rw[if_neg h,h2,if_neg (by decide),h3,if_neg (by decide),h4,if_neg (by decide)];all_goals rfl
theorem Jaa {l:List Int}(h2:l.any (λx=>decide (x<0))=false)(h3:l.any (λx=>decide (2048<x))=false)(h4:l.any (· ==0)=false):∀x∈l,1<=x/\x<=2048:=by
 intro x hx;obtain⟨k,hk,rfl⟩:=List.mem_iff_getElem.1 hx;have a:=Ad h2 hk;have b:=Ad h3 hk;have c:=Ad h4 hk;simp at a b c;omega
def Ac (l:List Int):Ending:= .returned (.tuple #[.int .i64 (cnt l).1,.int .i64 (cnt l).2])
theorem Wo (A:Option Addr)(c:Nat)(l:List Int)(w:World)(B:Nat)(hl:Lies w B A (Sb l))(hn:l.length<=9223372036854775807):
 Calls Tryz.prog 100 #[.slice A l.length c] w λe w'=>e=Ac l/\w=w':=by
 have C1:=Qd (Mj 145 (enters_of Tryz.func145 (by kernel_rfl) rfl) _ A c l w B hl hn (λx=>Ot x w));have C2:=Qd (Mj 146 (enters_of Tryz.func146 (by kernel_rfl) rfl) _ A c l w B hl hn (λx=>Pt x w));have C3:=Qd (Tt A c l 0 w B hl hn);have C4:=Qd (λhx=>Iw A c l w B hl hn hx);have K1:=Qd (Yba (l:=l));have K2:=Qd (Zba (l:=l));have K3:=Qd (Aca (l:=l));have K4:=Qd (Bca (l:=l));have K5:=Qd (Cca (l:=l));have K6:=Qd (Jaa (l:=l));have K7:Hid (∀n,Eb 1 l=some n->(∀x∈l,1<=x/\x<=2048)->1<=n):=Qd (λn h hx=>(Yl (λx h=>(hx x h).1) (by omega) (by omega) h).1);clear hl;by_cases h6:6<l.length
 ·have HR:Hid (Ac l= .returned (.tuple #[.int .i64 0,.int .i64 7])):=Qd (by unfold Ac;rw[K1.out h6])
  generalize Ac l=R at*;generalize l.length=n at*;go_enter Tryz.func100,Tryz.ntmps100
  go_wp2_with fail
  go_ret2
  exact⟨HR.out.symm,rfl⟩
 cases h2:l.any (λx=>decide (x<0))
 ·cases h3:l.any (λx=>decide (2048<x))
  ·cases h4:l.any (· ==0)
   ·have hx:=K6.out h2 h3 h4
    have C5:=Qd (C4.out hx);have K8:=K5.out h6 h2 h3 h4;rw[h2] at C1;rw[h3] at C2;rw[h4] at C3;cases hp:Eb 1 l with
    |none=>
     rw[hp] at K8 C5;have HR:Hid (Ac l= .returned (.tuple #[.int .i64 0,.int .i64 7])):=Qd (by unfold Ac;rw[K8]);clear K1 K2 K3 K4 K5 K6 K7 K8 hx C4 hp h2 h3 h4;generalize Ac l=R at*;generalize l.length=n at*;go_enter Tryz.func100,Tryz.ntmps100
     go_wp2_with fail
     refine C1.out.mono ?_;rintro e w' ⟨rfl,rfl⟩;go_wp2_with fail
     refine C2.out.mono ?_;rintro e w' ⟨rfl,rfl⟩;go_wp2_with fail
     refine C3.out.mono ?_;rintro e w' ⟨rfl,rfl⟩;go_wp2_with fail
     refine C5.out.mono ?_;rintro e w' ⟨rfl,rfl⟩;go_wp2_with fail
     go_ret2
     exact⟨HR.out.symm,rfl⟩
    |some m=>
     rw[hp] at K8 C5;have HR:Hid (Ac l= .returned (.tuple #[.int .i64 m,.int .i64 0])):=Qd (by unfold Ac;rw[K8]);have hm:=K7.out m hp hx;have q:(m==0)=false:=beq_eq_false_iff_ne.2 (by omega);clear K1 K2 K3 K4 K5 K6 K7 K8 hx C4 hp h2 h3 h4 hm;simp only[Option.getD_some] at C5;generalize Ac l=R at*;generalize l.length=n at*;go_enter Tryz.func100,Tryz.ntmps100
     go_wp2_with fail
     refine C1.out.mono ?_;rintro e w' ⟨rfl,rfl⟩;go_wp2_with fail
     refine C2.out.mono ?_;rintro e w' ⟨rfl,rfl⟩;go_wp2_with fail
     refine C3.out.mono ?_;rintro e w' ⟨rfl,rfl⟩;go_wp2_with fail
     refine C5.out.mono ?_;rintro e w' ⟨rfl,rfl⟩;go_wp2_with fail
     go_ret2
     exact⟨HR.out.symm,rfl⟩
   have HR:Hid (Ac l= .returned (.tuple #[.int .i64 0,.int .i64 0])):=Qd (by unfold Ac;rw[K4.out h6 h2 h3 h4]);rw[h2] at C1;rw[h3] at C2;rw[h4] at C3;clear K1 K2 K3 K4 K5 K6 K7 C4 h2 h3 h4;generalize Ac l=R at*;generalize l.length=n at*;go_enter Tryz.func100,Tryz.ntmps100
   go_wp2_with fail
   refine C1.out.mono ?_;rintro e w' ⟨rfl,rfl⟩;go_wp2_with fail
   refine C2.out.mono ?_;rintro e w' ⟨rfl,rfl⟩;go_wp2_with fail
   refine C3.out.mono ?_;rintro e w' ⟨rfl,rfl⟩;go_wp2_with fail
   go_ret2
   exact⟨HR.out.symm,rfl⟩
  have HR:Hid (Ac l= .returned (.tuple #[.int .i64 0,.int .i64 7])):=Qd (by unfold Ac;rw[K3.out h6 h2 h3]);rw[h2] at C1;rw[h3] at C2;clear K1 K2 K3 K4 K5 K6 K7 C3 C4 h2 h3;generalize Ac l=R at*;generalize l.length=n at*;go_enter Tryz.func100,Tryz.ntmps100
  go_wp2_with fail
  refine C1.out.mono ?_;rintro e w' ⟨rfl,rfl⟩;go_wp2_with fail
  refine C2.out.mono ?_;rintro e w' ⟨rfl,rfl⟩;go_wp2_with fail
  go_ret2
  exact⟨HR.out.symm,rfl⟩
 have HR:Hid (Ac l= .returned (.tuple #[.int .i64 0,.int .i64 3])):=Qd (by unfold Ac;rw[K2.out h6 h2]);rw[h2] at C1;clear K1 K2 K3 K4 K5 K6 K7 C2 C3 C4 h2;generalize Ac l=R at*;generalize l.length=n at*;go_enter Tryz.func100,Tryz.ntmps100
 go_wp2_with fail
 refine C1.out.mono ?_;rintro e w' ⟨rfl,rfl⟩;go_wp2_with fail
 go_ret2
 exact⟨HR.out.symm,rfl⟩
end
end Go.Proofs.YtogjgbmngagimaaGreatDoor
namespace Gl
open Go
def J8 (s:ByteArray)(i:Nat):Nat:=(s.get! i).toNat
def may (c:Int):Bool:=decide (0<=c)&&decide (c<=1114111)&&(decide (c<55296)||decide (57343<c))
def first (b:Nat):Option (Nat×Nat):=if 240<=b then some (b-240,4) else if 224<=b then some (b-224,3) else if 192<=b then some (b-192,2) else if 128<=b then none else some (b,1)
def more (s:ByteArray)(c:Nat):Nat->Nat->Option Nat
 |_,0=>some c
 |i,k+1=>if J8 s i<128\/191<J8 s i then none else more s (64*c+J8 s i-128) (i+1) k
def Rda (s:ByteArray)(at_:Nat):Option (Nat×Nat):=
 match first (J8 s at_) with
 |none=>none
 |some (c,n)=>if s.size-at_<n then none else(more s c (at_+1) (n-1)).map λc=>(c,n)
def wide (c:Nat):Nat:=if c<128 then 1 else if c<2048 then 2 else if c<65536 then 3 else 4
def one (c:Nat):List Nat:=
 if c<128 then[c] else if c<2048 then[192+c/64,128+c%64] else if c<65536 then[224+c/4096,128+c/64%64,128+c%64] else[240+c/262144,128+c/4096%64,128+c/64%64,128+c%64]
def read (s:ByteArray)(at_:Nat):Option (Nat×Nat):=if Utf8.decode s at_=(Utf8.runeError,1) then none else some (Utf8.decode s at_)
end Gl
namespace Tk
open Go
def Zca:List Int:=[0x2B,0x2D,0xD7,0xF7,0x2308,0x230A,0x7C,0x2A,0x21,0x7E,0x3C,0x2264,0x3D,0x2265,0x3E,0x2260,0x2227,0x2228,0x2374,0x2C,0x236A,0x233D,0x2296,0x2349,0x2191,0x2193,0x2282,0x2283,0x2261,0x2262,0x2373,0x220A,0x222A,0x2229,0x2378,0x234B,0x2352,0x22A2,0x22A3]
def Dca:List Int:=[0x2F,0x233F,0x5C,0x2340,0xA8,0x2368,0x2364,0x2363,0x2218,0x2E]
def Eca:List Int:=[0x28,0x29,0x5B,0x5D,0x7B,0x7D,0x3B,0x3A,0x22C4,0x2190,0x237A,0x2375,0x2207,0x2395,0x235E,0x27,0x235D]
def cls (c:Int):Int:=
 if c=32\/c=9 then 1
 else if 97<=c/\c<=122\/65<=c/\c<=90\/c=95 then 2
 else if 48<=c/\c<=57\/c=175 then 3
 else if c∈Zca then 4 else if c∈Dca then 5 else if c∈Eca then 6 else 0
structure Tok where
 kind:Int
 n:Rt.Nm
 l:List Int
 s:List UInt8
 c:Int
 at_:Nat
def none_:Tok:=⟨0,Rt.none_,[],[],0,0⟩
def Ada (c:Int):List UInt8:=(Gl.one c.toNat).map UInt8.ofNat
def enc (l:List Int):List UInt8:=l.flatMap Ada
def digit (c:Int):Bool:=decide (48<=c)&&decide (c<=57)
def Kaa (c:Int):Bool:=digit c||(cls c==2)
def words (l:List Int)(i:Nat):Nat:=((l.drop i).takeWhile Kaa).length
def Xo (l:List Int)(i:Nat):Nat:=((l.drop i).takeWhile digit).length
def Laa (l:List Int)(i:Nat):Option Nat:=
 let n:=if l.getD i (-1)=175 then 1 else 0
 let k:=Xo l (i+n)
 if k=0 then none
 else
  let m:=n+k
  let e:=if(l.getD (i+m) (-1)=114\/l.getD (i+m) (-1)=46)/\0<Xo l (i+m+1) then m+1+Xo l (i+m+1) else m
  if Kaa (l.getD (i+e) (-1))=true\/l.getD (i+e) (-1)=175 then none else some e
def Bz (l:List Int):Nat->Nat->List Int->Option (List Int×Nat)
 | 0,_,_=>none
 |f+1,k,out=>
  if l.length<=k then none
  else if l.getD k (-1)≠39 then Bz l f (k+1) (out++[l.getD k (-1)])
  else if l.getD (k+1) (-1)≠39 then some (out,k+1)
  else Bz l f (k+2) (out++[39])
def read (l:List Int)(i:Nat):Tok×Nat×Int:=
 let c:=l.getD i (-1)
 if cls c=3 then
  match Laa l i with
  |none=>(none_,0,1)
  |some n=>
   let r:=Dg.parse (enc ((l.drop i).take n))
   if r.2=0 then(⟨0,r.1,[],[],0,i⟩,n,0) else(none_,0,r.2)
 else if cls c=2 then
  let n:=words l i
  if 16<n then(none_,0,1) else(⟨if c<=90 then 3 else 2,Rt.none_,[],enc ((l.drop i).take n),0,i⟩,n,0)
 else if c=39 then
  match Bz l (l.length+1) (i+1) [] with
  |none=>(none_,0,1)
  |some (t,e)=>(⟨1,Rt.none_,t,[],0,i⟩,e-i,0)
 else if c=9109\/c=9054 then
  let n:=words l (i+1)
  let d:=l.getD (i+1) (-1)
  if n=1/\48<=d/\d<=55 then(⟨if c=9054 then 5 else 4,Rt.none_,[],[],d-48,i⟩,2,0)
  else if c=9109/\n=2/\d=68/\l.getD (i+2) (-1)=67 then(⟨6,Rt.none_,[],[],0,i⟩,3,0)
  else if c=9109/\n=2/\d=85/\l.getD (i+2) (-1)=80 then(⟨6,Rt.none_,[],[],1,i⟩,3,0)
  else(none_,0,1)
 else if cls c=0 then(none_,0,1)
 else(⟨7,Rt.none_,[],[],c,i⟩,1,0)
end Tk
