/- Texts of this proof, joined. -/
import Derived.Test.YtmiccalfamepdaaGreatDoorM5
set_option linter.all false
set_option maxHeartbeats 8000000
set_option maxRecDepth 100000
namespace Go.Proofs.YtmiccalfamepdaaGreatDoor
section
open Go.RowKit
end
section
open Go.RowKit Ar
def Hc (n n':Bool)(t t' b b':List Nat):Bool:=(n==n')&&(t==t')&&(b==b')
theorem Wl (n n':Bool)(t t' b b':List Nat)(A1 A2 A1' A2':Option Addr)(c1 c2 c1' c2':Nat)(w:World)(B:Nat)(h1:Lies w B A1 (Rd t))(h1':Lies w B A1' (Rd t'))(h2:Lies w B A2 (Rd b))(h2':Lies w B A2' (Rd b'))(hB:B<=w.heap.size)
 (k1:t.length<=9223372036854775807) (k1':t'.length<=9223372036854775807) (k2:b.length<=9223372036854775807) (k2':b'.length<=9223372036854775807):
 Calls Tryz.prog 81 #[.agg #[.bool n,.slice A1 t.length c1,.slice A2 b.length c2],.agg #[.bool n',.slice A1' t'.length c1',.slice A2' b'.length c2']] w λe w'=>e= .returned (.bool (Hc n n' t t' b b'))/\Below w.heap.size w w':=by
 have E1:=Qd (λ(wx:World) (hx:Below w.heap.size w wx)=>Aw t t' A1 A1' c1 c1' wx B (h1.below (hx.mono hB)) (h1'.below (hx.mono hB)) k1 k1');have E2:=Qd (λ(wx:World) (hx:Below w.heap.size w wx)=>Aw b b' A2 A2' c2 c2' wx B (h2.below (hx.mono hB)) (h2'.below (hx.mono hB)) k2 k2');have HR:Hid (Hc n n' t t' b b'=((n==n')&&(t==t')&&(b==b'))):=Qd rfl;clear h1 h1' h2 h2';generalize Hc n n' t t' b b'=R at*;generalize(t==t')=x at*;generalize(b==b')=y at*;cases hnn:(n==n')
 ·rw[hnn] at HR
  go_enter Tryz.func81,Tryz.ntmps81
  go_wp2_with fail
  go_ret;exact⟨Aa (by rw[HR.out];simp),(Br.alloc Lr _).alloc (by simp) _⟩
 rw[hnn] at HR;go_enter Tryz.func81,Tryz.ntmps81
 go_wp2_with fail
 have hb0:Below w.heap.size w ((w.alloc (.cells #[.bool n,.slice A1 t.length c1,.slice A2 b.length c2] 83)).alloc (.cells #[.bool n',.slice A1' t'.length c1',.slice A2' b'.length c2'] 83)):=(Br.alloc Lr _).alloc (by simp) _;refine(E1.out _ hb0).mono ?_;rintro e w2 ⟨rfl,hb2⟩;have hb3:=hb0.trans (hb2.mono hb0.size);obtain⟨hc,hfz⟩:(∀o,w2.cell? ⟨w.heap.size,o,none⟩=_)/\(∀o,w2.cell? ⟨w.heap.size+1,o,none⟩=_):=⟨λo=>hb2.cell (p:=⟨w.heap.size,o,none⟩) (by show w.heap.size<_;simp;omega),λo=>hb2.cell (p:=⟨w.heap.size+1,o,none⟩) (by show w.heap.size+1<_;simp)⟩;cases x
 ·go_wp2_with fail
  go_ret;exact⟨Aa (by rw[HR.out];simp),hb3⟩
 go_wp2_with fail
 refine(E2.out _ hb3).mono ?_;rintro e w3 ⟨rfl,hb4⟩;clear hc hfz;go_wp2_with fail
 go_ret;exact⟨Aa (by rw[HR.out];simp),hb3.trans (hb4.mono hb3.size)⟩
theorem Oi (n n':Bool)(t t' b b':List Nat)(A1 A2 A1' A2':Option Addr)(c1 c2 c1' c2':Nat)(w:World)(B:Nat)(h1:Lies w B A1 (Rd t))(h1':Lies w B A1' (Rd t'))(h2:Lies w B A2 (Rd b))(h2':Lies w B A2' (Rd b'))(hB:B<=w.heap.size)
 (k1:t.length<=9223372036854775807) (k1':t'.length<=9223372036854775807) (k2:b.length<=9223372036854775807) (k2':b'.length<=9223372036854775807):
 Calls Tryz.prog 83 #[.agg #[.bool n,.slice A1 t.length c1,.slice A2 b.length c2],.agg #[.bool n',.slice A1' t'.length c1',.slice A2' b'.length c2']] w λe w'=>e= .returned (.bool (Hc n n' t t' b b'))/\Below w.heap.size w w':=by
 have E1:=Qd (λ(wx:World) (hx:Below w.heap.size w wx)=>Sm t t' A1 A1' c1 c1' wx B (h1.below (hx.mono hB)) (h1'.below (hx.mono hB)) k1 k1');have E2:=Qd (λ(wx:World) (hx:Below w.heap.size w wx)=>Sm b b' A2 A2' c2 c2' wx B (h2.below (hx.mono hB)) (h2'.below (hx.mono hB)) k2 k2');have HR:Hid (Hc n n' t t' b b'=((n==n')&&(t==t')&&(b==b'))):=Qd rfl;clear h1 h1' h2 h2';generalize Hc n n' t t' b b'=R at*;generalize(t==t')=x at*;generalize(b==b')=y at*;cases hnn:(n==n')
 ·rw[hnn] at HR
  go_enter Tryz.func83,Tryz.ntmps83
  go_wp2_with fail
  go_ret;exact⟨Aa (by rw[HR.out];simp),(Br.alloc Lr _).alloc (by simp) _⟩
 rw[hnn] at HR;go_enter Tryz.func83,Tryz.ntmps83
 go_wp2_with fail
 have hb0:Below w.heap.size w ((w.alloc (.cells #[.bool n,.slice A1 t.length c1,.slice A2 b.length c2] 83)).alloc (.cells #[.bool n',.slice A1' t'.length c1',.slice A2' b'.length c2'] 83)):=(Br.alloc Lr _).alloc (by simp) _;refine(E1.out _ hb0).mono ?_;rintro e w2 ⟨rfl,hb2⟩;have hb3:=hb0.trans (hb2.mono hb0.size);obtain⟨hc,hfz⟩:(∀o,w2.cell? ⟨w.heap.size,o,none⟩=_)/\(∀o,w2.cell? ⟨w.heap.size+1,o,none⟩=_):=⟨λo=>hb2.cell (p:=⟨w.heap.size,o,none⟩) (by show w.heap.size<_;simp;omega),λo=>hb2.cell (p:=⟨w.heap.size+1,o,none⟩) (by show w.heap.size+1<_;simp)⟩;cases x
 ·go_wp2_with fail
  go_ret;exact⟨Aa (by rw[HR.out];simp),hb3⟩
 go_wp2_with fail
 refine(E2.out _ hb3).mono ?_;rintro e w3 ⟨rfl,hb4⟩;clear hc hfz;go_wp2_with fail
 go_ret;exact⟨Aa (by rw[HR.out];simp),hb3.trans (hb4.mono hb3.size)⟩
end
open Go.RowKit
theorem Oo (l t:Nat)(w:World)(hl:l<18446744073709551616)(ht:t<=64):
 Calls Tryz.prog 66 #[.int .u64 (l:Int),.int .i64 (t:Int)] w λe w'=>e= .returned (.bool (l.testBit t))/\w=w':=by
 go_enter Tryz.func66,Tryz.ntmps66
 go_wp2
 go_loop [0,5] (λx i=>∃k n:Nat,k<=t/\n<18446744073709551616/\i= .int .i64 k/\x= .int .u64 (n:Int)/\Hid (n=l/2^k)) (λ_ i=>t-(intOf i).toNat)
 case atStart=>exact⟨0,l,Nat.zero_le _,hl,rfl,rfl,Qd (by simp)⟩
 case round=>
  obtain⟨k,n,hk,hn,rfl,rfl,H⟩:=hrel;by_cases hlt:k<t
  ·go_wp2
   go_round
   case rel=>exact⟨k+1,n/2,by omega,by omega,by go_num,by go_num,Qd (by rw[H.out,Nat.pow_succ,<-Nat.div_div_eq_div_mul])⟩
   case measure=>simp[intOf];omega
  go_wp2
  go_ret;have:k=t:=by omega
  subst this;refine⟨Aa ?_,rfl⟩;rw[Nat.testBit_eq_decide_div_mod_eq,<-H.out,Bool.eq_iff_iff];simp;omega
theorem Po (t:Nat)(w:World)(ht:t<64):
 Calls Tryz.prog 72 #[.int .i64 (t:Int)] w λe w'=>e= .returned (.int .u64 (Lab.bit t:Int))/\w=w':=by
 go_enter Tryz.func72,Tryz.ntmps72
 go_wp2
 go_loop [3,4] (λx i=>∃k n:Nat,k<=t/\n<18446744073709551616/\i= .int .i64 k/\x= .int .u64 (n:Int)/\Hid (n=2^k)) (λ_ i=>t-(intOf i).toNat)
 case atStart=>exact⟨0,1,Nat.zero_le _,by omega,rfl,rfl,Qd (by simp)⟩
 case round=>
  obtain⟨k,n,hk,hn,rfl,rfl,H⟩:=hrel;by_cases hlt:k<t
  ·have hn2:n<9223372036854775808:=by
    rw[H.out];exact Nat.lt_of_le_of_lt (Nat.pow_le_pow_right (by decide) (by omega:k<=62)) (by decide)
   go_wp2
   go_round
   case rel=>exact⟨k+1,n*2,by omega,by omega,by go_num,by go_num,Qd (by rw[H.out,Nat.pow_succ])⟩
   case measure=>simp[intOf];omega
  go_wp2
  go_ret;have:k=t:=by omega
  subst this;exact⟨Gb (by rw[H.out];rfl),rfl⟩
theorem Wq (a b:Nat)(w:World)(ha:a<18446744073709551616)(hb:b<18446744073709551616):
 Calls Tryz.prog 48 #[.int .u64 (a:Int),.int .u64 (b:Int)] w λe w'=>e= .returned (.int .u64 (Lab.join a b:Int))/\w=w':=by
 go_enter Tryz.func48,Tryz.ntmps48
 go_wp2
 go_ret;exact⟨Gb (u64_or_nat a b ha hb),rfl⟩
theorem Ze (a b:Nat)(w:World)(ha:a<18446744073709551616)(hb:b<18446744073709551616):
 Calls Tryz.prog 51 #[.int .u64 (a:Int),.int .u64 (b:Int)] w λe w'=>e= .returned (.int .u64 (Lab.join a b:Int))/\w=w':=by
 go_enter Tryz.func51,Tryz.ntmps51
 go_wp2_with fail
 go_loop [5,6] (λx i=>∃k n:Nat,k<=64/\i= .int .i64 k/\x= .int .u64 (n:Int)/\Hid (n=Lab.sumBits (λt=>a.testBit t||b.testBit t) k)) (λ_ i=>64-(intOf i).toNat)
 case atStart=>exact⟨0,0,Nat.zero_le _,rfl,rfl,Qd rfl⟩
 case round=>
  obtain⟨k,n,hk,rfl,rfl,H⟩:=hrel;by_cases hlt:k<64
  ·have hn:n<Lab.bit k:=by rw[H.out];exact Lab.sumBits_lt _ _
   have hb2:Lab.bit k<=9223372036854775808:=Nat.pow_le_pow_right (n:=2) (by decide) (show k<=63 by omega);cases ea:a.testBit k<;>cases eb:b.testBit k
   all_goals
    go_wp2_with (first|(go_at_call 66;refine(Oo _ _ _ (by assumption) (by omega)).mono ?_;rintro e w' ⟨rfl,rfl⟩) |(go_at_call 72;refine(Po _ _ (by omega)).mono ?_;rintro e w' ⟨rfl,rfl⟩))
    go_round
    case rel=>first|exact⟨k+1,n,by omega,by go_num,rfl,Qd (by rw[H.out,Lab.sumBits];simp[ea,eb])⟩ |exact⟨k+1,n+Lab.bit k,by omega,by go_num,by go_num,Qd (by rw[H.out,Lab.sumBits];simp[ea,eb,Lab.bit])⟩
    case measure=>simp[intOf];omega
  go_wp2_with fail
  go_ret;obtain rfl:k=64:=by omega
  exact⟨Gb (by rw[H.out,Lab.sum_join ha hb]),rfl⟩
section
open Go.RowKit Ar
theorem Ada (n:Nat):∀(a:Ba) (vs:List Value) (w:World) (B:Nat),SizeOf.sizeOf a<n->IsArr w B a vs->B<=w.heap.size->
 Calls Tryz.prog 19 #[.agg vs.toArray] w λe w'=>e= .returned (.int .u64 (Wd a:Int))/\Below w.heap.size w w':=by
 induction n with
 |zero=>intro a vs w B h;omega
 |succ n ih=>
  intro a vs w B hn h hB;obtain⟨S,shape,cells⟩:=a;rw[IsArr] at h;obtain⟨A,c,A',c',us,rfl,hS,hf,hf',hw,hl,hl',hcs⟩:=h;have HC:=Qd hcs;have HL:=Qd hl';have hfl:=(hf'.le (by omega));have hn':SizeOf.sizeOf (Ba.mk S shape cells)<=n:=by omega
  have HN:=Qd hn';clear hcs hl' hl hf hw hn hn';go_enter Tryz.func19,Tryz.ntmps19
  go_wp2_with fail
  go_loopw [3,13] (λx i wr=>∃k m:Nat,k<=cells.length/\i= .int .i64 k/\x= .int .u64 (m:Int)/\m<18446744073709551616/\Hid (Dd m (cells.drop k)=Wd (.mk S shape cells))/\Below w.heap.size w wr) (λ_ i _=>cells.length-(intOf i).toNat)
  case atStart=>exact⟨0,S,Nat.zero_le _,rfl,rfl,hS,Qd (by simp[Wd]),Br.alloc Lr _⟩
  case round=>
   obtain⟨k,m,hk,rfl,rfl,hm,HT,hbel⟩:=hrel;by_cases hlt:k<cells.length
   ·obtain⟨b,off,L,kind,neg,top,bot,ch,ins,A1,c1,A2,c2,A3,c3,us3,rfl,hb,hL,HX,t1,t2,t3,t4,t5,t6,g0,g1,g2,g3,g4,g5,g6⟩:=Sd HC.out HL.out (wr:=wr) (λp hp=>hbel.cell (by omega)) hlt
    have hbw:b<wr.heap.size:=by have:=hbel.size;omega
    go_wp2_with fail
    refine(Wq _ _ _ hm hL).mono ?_;rintro e w' ⟨rfl,rfl⟩;go_wp2_with fail
    have hbo:Below w.heap.size w (wr.alloc (.cells #[.int .u64 (L:Int),.int .i64 kind,.bool neg,.slice A1 top.length c1,.slice A2 bot.length c2,.int .i64 ch,.slice A3 ins.length c3] 85)):=hbel.alloc (by have:=hbel.size;omega) _;obtain⟨wo,rfl⟩:∃wo:World,wo=wr:=⟨_,rfl⟩;have hjl:Lab.join m L<18446744073709551616:=Lab.join_lt hm hL;clear g0 g1 g2 g3 g4 g5 g6 hbel;go_loopw [3,24] (λx j wr=>∃i m':Nat,i<=ins.length/\j= .int .i64 i/\x= .int .u64 (m':Int)/\m'<18446744073709551616/\Hid (Ed m' (ins.drop i)=Ah m cells[k])/\Below w.heap.size w wr) (λ_ j _=>ins.length-(intOf j).toNat)
    case atStart=>exact⟨0,_,Nat.zero_le _,rfl,rfl,hjl,Qd (by rw[HX.out.eq];rfl),hbo⟩
    case round=>
     obtain⟨i,m',hi,rfl,rfl,hm',HT',hbel⟩:=hrel;have hsz:=hbel.size;by_cases hlt':i<ins.length
     ·obtain⟨b',off',S',X,xn,xc,X',xn',xc',rfl,hb',HA,e0,e1,e2⟩:=Vb HX.out.arrs HX.out.li (wr:=wr) (λp hp=>hbel.cell (by omega)) hlt'
      have hbw':b'<wr.heap.size:=by omega
      have IH:=Qd (ih ins[i] [.int .u64 (S':Int),.slice X xn xc,.slice X' xn' xc'] (wr.alloc (Obj.cells #[Value.int .u64 (S':Int),.slice X xn xc,.slice X' xn' xc'] 43)) B (by have:=Rq (S:=S) (shape:=shape) hlt HX.out.eq hlt';have:=HN.out;omega) (HA.out.below (hbel.mono (by omega)|>.alloc (by omega) _)) (by simp;omega));have hbt:=hbel.alloc (by omega) (Obj.cells #[Value.int .u64 (S':Int),.slice X xn xc,.slice X' xn' xc'] 43);go_wp2_with fail
      refine IH.out.mono ?_;rintro e w2 ⟨rfl,hb2⟩;have hb3:=hbt.trans (hb2.mono (by simp;omega));have htl:Wd ins[i]<18446744073709551616:=Gz _ _ HA.out;go_wp2_with fail
      refine(Wq _ _ _ hm' htl).mono ?_;rintro e w' ⟨rfl,rfl⟩;go_wp2_with fail
      go_roundw
      case rel=>exact⟨i+1,Lab.join m' (Wd ins[i]),by omega,by go_num,rfl,Lab.join_lt hm' htl,Qd (by rw[<-HT'.out,Im hlt'];rfl),hb3⟩
      case measure=>simp[intOf];omega
     have hie:i=ins.length:=by omega
     have HT2:Hid (m'=Ah m cells[k]):=Qd (by have:=HT'.out;rw[hie,List.drop_length,Ed] at this;exact this);clear HT' hie;go_wp2_with fail
     go_roundw
     case rel=>exact⟨k+1,m',by omega,by go_num,rfl,hm',Qd (by rw[HT2.out,<-Hm hlt];exact HT.out),hbel⟩
     case measure=>simp[intOf];omega
   have hke:k=cells.length:=by omega
   have HT2:Hid (m=Wd (.mk S shape cells)):=Qd (by have:=HT.out;rw[hke,List.drop_length,Dd] at this;exact this);clear HT hke;go_wp2_with fail
   go_ret;exact⟨Gb (by rw[HT2.out]),hbel⟩
end
section
open Go.RowKit Ar
def Dga (p:Nat)(x:Int)(w:World)(e:Ending)(w':World):Prop:=∃r:Int,e= .returned (.int .i64 r)/\ -140737488355328<=r/\r<=4000/\(0<=r->r+p=x)/\Below w.heap.size w w'
theorem O6 {B:Nat}{a w:World}(h:Below B a w)(n:Nat):Below B a (w.drewN n):=⟨h.os,h.tape,h.output,h.size,h.block⟩
theorem Ega (n:Nat):∀(a:Ba) (vs:List Value) (d x:Int) (w:World) (B:Nat),SizeOf.sizeOf a<n->IsArr w B a vs->B<=w.heap.size->0<=d->d<=12->0<=x->x<=4000->
 Calls Tryz.prog 46 #[.agg vs.toArray,.int .i64 d,.int .i64 x] w (Dga (Dc a) x w):=by
 induction n with
 |zero=>intro a vs d x w B h;omega
 |succ n ih=>
  intro a vs d x w B hn h hB hd0 hd1 hx0 hx1;obtain⟨S,shape,cells⟩:=a;rw[IsArr] at h;obtain⟨A,c,A',c',us,rfl,hS,hf,hf',hw,hl,hl',hcs⟩:=h;have HC:=Qd hcs;have HL:=Qd hl';have hfl:=(hf'.le (by omega));have hfs:shape.length<=17592186044416:=by have h1:=hf.1;have h2:=hf.2;omega
  have hn':SizeOf.sizeOf (Ba.mk S shape cells)<=n:=by omega
  have HN:=Qd hn';clear hcs hl' hl hf hw hn hn';obtain⟨W,hW⟩:∃W,W=w.alloc (.cells #[.int .u64 (S:Int),.slice A shape.length c,.slice A' cells.length c'] 43):=⟨_,rfl⟩;have hWs:W.heap.size=w.heap.size+1:=by rw[hW];simp
  have hWb:Below w.heap.size w W:=by rw[hW];exact Br.alloc Lr _
  have hWc:W.cell? ⟨w.heap.size,2,none⟩=some (.slice A' cells.length c'):=by rw[hW];simp[go_sem]
  have HW:=Qd hW;have HWs:=Qd hWs;have HWc:=Qd hWc;have hWl:w.heap.size<W.heap.size:=by omega
  by_cases hd:d=0
  ·subst hd
   clear hW hWs hWc;go_enter Tryz.func46,Tryz.ntmps46
   go_wp2_with fail
   rw[<-HW.out];go_ret;exact⟨-1,rfl,by omega,by omega,λh=>by omega,hWb⟩
  have hdb:(d==0)=false:=by simpa using hd
  clear hW hWs hWc hd;go_enter Tryz.func46,Tryz.ntmps46
  go_wp2_with fail
  rw[<-HW.out];go_loopw [2,7] (λv2 i wr=>∃(k:Nat) (m:Int),k<=cells.length/\i= .int .i64 k/\v2= .int .i64 m/\ -140737488355328<=m/\m<=4000/\Hid (0<=m->m+(1+shape.length+Qa (cells.take k):Nat)=x)/\Below W.heap.size W wr) (λ_ i _=>cells.length-(intOf i).toNat)
  case atStart=>exact⟨0,_,Nat.zero_le _,rfl,rfl,by omega,by omega,Qd (λ_=>by simp[Qa];omega),Br⟩
  case round=>
   obtain⟨k,m,hk,rfl,rfl,hm0,hm1,HM,hbel⟩:=hrel;have hbox:wr.cell? ⟨w.heap.size,2,none⟩=some (.slice A' cells.length c'):=(hbel.cell (p:=⟨w.heap.size,2,none⟩) hWl).trans HWc.out;by_cases hlt:k<cells.length
   ·by_cases hm:0<=m
    ·obtain⟨b,off,L,kind,neg,top,bot,ch,ins,A1,c1,A2,c2,A3,c3,us3,rfl,hb,hL,HX,t1,t2,t3,t4,t5,t6,g0,g1,g2,g3,g4,g5,g6⟩:=Sd HC.out HL.out (wr:=wr) (λp hp=>(hbel.cell (by omega)).trans (hWb.cell (by omega))) hlt
     have HG6:=Qd ((hbel.cell (p:=⟨b,off+k*7+6,none⟩) (show b<W.heap.size by omega)).symm.trans g6);clear g0 g1 g2 g5 g6;have hk0:(0:Int)<=(k:Int):=by omega
     have hk1:(k:Int)<(cells.length:Int):=by omega
     go_wp2_with fail
     go_quiet (fail)
     go_wp2_with fail
     clear g3 g4 hbox;obtain⟨wo,hwo⟩:∃wo:World,wo=wr.drewN nq:=⟨_,rfl⟩;have hbo:Below W.heap.size W wo:=by rw[hwo];exact O6 hbel nq
     rw[<-hwo];clear hwo hbel;go_loopw [2,8] (λv2 j wr=>∃(i:Nat) (m':Int),i<=ins.length/\j= .int .i64 i/\v2= .int .i64 m'/\ -140737488355328<=m'/\m'<=4000/\Hid (0<=m'->m'+(1+shape.length+Qa (cells.take k)+1+top.length+bot.length+Db (ins.take i):Nat)=x)/\Below W.heap.size W wr) (λ_ j _=>ins.length-(intOf j).toNat)
     case atStart=>exact⟨0,_,Nat.zero_le _,rfl,rfl,by omega,by omega,Qd (λh=>by have:=HM.out hm;simp[Db];omega),hbo⟩
     case round=>
      clear hbo;obtain⟨i,m',hi,rfl,rfl,hm0',hm1',HM',hbel⟩:=hrel;have HPC:Hid (Qa (cells.take (k+1))=Qa (cells.take k)+(1+top.length+bot.length+Db ins)):=Qd (by rw[Ou hlt,HX.out.eq,Zc]);have hsz:=hbel.size;have hbox:wr.cell? ⟨w.heap.size,2,none⟩=some (.slice (some ⟨b,off,none⟩) cells.length c'):=(hbel.cell (p:=⟨w.heap.size,2,none⟩) hWl).trans HWc.out;have g6:wr.cell? ⟨b,off+k*7+6,none⟩=some (.slice A3 ins.length c3):=(hbel.cell (p:=⟨b,off+k*7+6,none⟩) (show b<W.heap.size by omega)).trans HG6.out;by_cases hlt':i<ins.length
      ·by_cases hm':0<=m'
       ·obtain⟨b',off',S',X,xn,xc,X',xn',xc',rfl,hb',HA,e0,e1,e2⟩:=Vb HX.out.arrs HX.out.li (wr:=wr) (λp hp=>(hbel.cell (by omega)).trans (hWb.cell (by omega))) hlt'
        have IH:=Qd (ih ins[i] [.int .u64 (S':Int),.slice X xn xc,.slice X' xn' xc'] (d-1) m' wr B (by have:=Rq (S:=S) (shape:=shape) hlt HX.out.eq hlt';have:=HN.out;omega) (HA.out.below ((hWb.mono (by omega)).trans (hbel.mono (by omega)))) (by omega) (by simp at hdb;omega) (by omega) hm' hm1');go_wp2_with fail
        refine IH.out.mono ?_;rintro e w2 ⟨r,rfl,hr0,hr1,hr2,hb2⟩;have HR2:=Qd hr2;clear hr2;have hb3:=hbel.trans (hb2.mono (by omega));go_wp2_with fail
        go_roundw
        case rel=>exact⟨i+1,r,by omega,by go_num,rfl,hr0,hr1,Qd (λh=>by have h1:=HR2.out h;have h2:=HM'.out hm';rw[Rx hlt'];omega),hb3⟩
        case measure=>simp[intOf];omega
       have hm2:m'<0:=by omega
       go_wp2_with fail
       go_roundw
       case rel=>exact⟨k+1,m',by omega,by go_num,rfl,hm0',hm1',Qd (λh=>by omega),hbel⟩
       case measure=>simp[intOf];omega
      go_wp2_with fail
      go_roundw
      case rel=>exact⟨k+1,m',by omega,by go_num,rfl,hm0',hm1',Qd (λh=>by have h1:=HM'.out h;have h2:=HPC.out;rw[List.take_of_length_le (show ins.length<=i by omega)] at h1;omega),hbel⟩
      case measure=>simp[intOf];omega
    have hm2:m<0:=by omega
    go_wp2_with fail
    go_ret;exact⟨m,rfl,hm0,hm1,λh=>by omega,hWb.trans (hbel.mono (by omega))⟩
   go_wp2_with fail
   go_ret;exact⟨m,rfl,hm0,hm1,λh=>by have h1:=HM.out h;rw[List.take_of_length_le (show cells.length<=k by omega)] at h1;rw[Dc];exact h1,hWb.trans (hbel.mono (by omega))⟩
theorem Fga (a:Ba)(vs:List Value)(w:World)(B:Nat)(h:IsArr w B a vs)(hB:B<=w.heap.size):
 Calls Tryz.prog 17 #[.agg vs.toArray] w λe w'=>∃r:Bool,e= .returned (.bool r)/\(r=true->Dc a<=4000)/\Below w.heap.size w w':=by
 have HL:=Qd (λ(wx:World) (hx:Below w.heap.size w wx)=>Ega _ a vs 12 4000 wx B (Nat.lt_succ_self _) (h.below (hx.mono hB)) (Nat.le_trans hB hx.size) (by omega) (by omega) (by omega) (by omega));obtain⟨S,A,n,c,A',n',c',rfl⟩:=h.form;clear h;go_enter Tryz.func17,Tryz.ntmps17
 go_wp2_with fail
 refine(HL.out _ (by first|exact Br |exact Br.alloc Lr _)).mono ?_;rintro e w2 ⟨r,rfl,hr0,hr1,hr2,hb2⟩;have HR2:=Qd hr2;clear hr2;go_wp2_with fail
 go_ret;exact⟨_,rfl,λh=>by have h0:=of_decide_eq_true h;have:=HR2.out h0;omega,by first|exact hb2 |exact((Br.alloc Lr _).trans (hb2.mono (by simp)))⟩
end
section
open Go.RowKit Ar
theorem Qz (l:List Int)(A:Option Addr)(c:Nat)(w:World)(B:Nat)(hA:Lies w B A (Ya l))(hn:l.length<=9223372036854775807):
 Calls Tryz.prog 49 #[.slice A l.length c] w λe w'=>e= .returned (.tuple #[.int .i64 (cnt l).1,.int .i64 (cnt l).2])/\Below w.heap.size w w':=by
 have HA:=Qd hA;have HC:Hid (cnt l=_):=Qd (cnt.eq_1 l);clear hA;by_cases h6:6<l.length
 ·rw[if_pos h6] at HC
  generalize cnt l=R at*;go_enter Tryz.func49,Tryz.ntmps49
  go_wp2_with fail
  go_ret2
  exact⟨by rw[HC.out];rfl,Br⟩
 rw[if_neg h6] at HC;generalize cnt l=R at*;have hn6:l.length<=6:=by omega
 clear h6 hn;go_enter Tryz.func49,Tryz.ntmps49
 go_wp2_with fail
 go_loop [4,5,6] (λb z i=>∃k:Nat,k<=l.length/\i= .int .i64 k/\b= .bool ((l.take k).any λx=>decide (2048<x))/\z= .bool ((l.take k).any λx=>x==0)/\Hid ((l.take k).any (λx=>decide (x<0))=false)) (λ_ _ i=>l.length-(intOf i).toNat)
 case atStart=>exact⟨0,Nat.zero_le _,rfl,rfl,rfl,Qd rfl⟩
 case round=>
  obtain⟨k,hk,rfl,rfl,rfl,HT⟩:=hrel;by_cases hlt:k<l.length
  ·obtain⟨b,off,rfl,hb,g0⟩:=Lc HA.out hlt
   have E1:=Qd (He (p:=λx=>decide (2048<x)) hlt);have E2:=Qd (He (p:=λx=>x==0) hlt);have E3:=Qd (He (p:=λx=>decide (x<0)) hlt);have E4:=Qd (Jr (p:=λx=>decide (x<0)) hlt);generalize l[k]=x at*;generalize((l.take k).any λx=>decide (2048<x))=y1 at*;generalize((l.take k).any λx=>x==0)=y2 at*;have hk0:(0:Int)<=(k:Int):=by omega
   have hk1:(k:Int)<(l.length:Int):=by omega
   by_cases hx:x<0
   ·have E5:=Qd (E4.out (decide_eq_true hx))
    go_wp2_with fail
    go_ret2
    exact⟨by rw[HC.out,if_pos E5.out];rfl,Br⟩
   have E5:Hid ((l.take (k+1)).any (λx=>decide (x<0))=false):=Qd (by rw[E3.out,HT.out,decide_eq_false hx];rfl);have q1:decide (x<0)=false:=decide_eq_false hx;have q1':0<=x:=by omega
   clear HT E3 E4 hx;rcases Bool.eq_false_or_eq_true (decide (2048<x)) with q2 |q2
   all_goals
    rcases Bool.eq_false_or_eq_true (x==0) with q3 |q3
   all_goals
    rw[q2] at E1;rw[q3] at E2;cases y1
   all_goals
    cases y2
   all_goals
    go_wp2_with fail
    go_round
    case rel=>exact⟨k+1,by omega,by go_num,by rw[E1.out];rfl,by rw[E2.out];rfl,E5⟩
    case measure=>simp[intOf];omega
  have hke:l.take k=l:=List.take_of_length_le (by omega);rw[hke] at HT;have HC2:Hid (R=_):=Qd (HC.out.trans (if_neg (by rw[HT.out];decide)));have HNA:=Qd (λ(j:Nat) (hj:j<l.length)=>Se HT.out hj);rw[hke];clear HT HC hke;obtain⟨y1,hy1⟩:∃y,y=l.any λx=>decide (2048<x):=⟨_,rfl⟩;obtain⟨y2,hy2⟩:∃y,y=l.any λx=>x==0:=⟨_,rfl⟩;rw[<-hy1,<-hy2] at HC2⊢;have HY1:=Qd hy1.symm;have HY2:=Qd hy2.symm;clear hy1 hy2;cases y1
  ·cases y2
   ·have HX:Hid (∀(j:Nat) (hj:j<l.length),1<=l[j]/\l[j]<=2048):=Qd (λj hj=>by
     have a1:=HNA.out j hj;have a2:=Se HY1.out hj;have a3:=Se HY2.out hj;simp at a1 a2 a3;omega)
    have HC3:Hid (R=_):=Qd (HC2.out.trans ((if_neg (by decide)).trans (if_neg (by decide))));clear HC2 HNA HY1 HY2;go_wp2_with fail
    go_loop [7,8] (λm i=>∃(k:Nat) (n:Int),k<=l.length/\i= .int .i64 k/\m= .int .i64 n/\1<=n/\n<=2048/\Hid (Ac n (l.drop k)=Ac 1 l)) (λ_ i=>l.length-(intOf i).toNat)
    case atStart=>exact⟨0,1,Nat.zero_le _,rfl,rfl,by omega,by omega,Qd rfl⟩
    case round=>
     obtain⟨k,n,hk,rfl,rfl,hn1,hn2,HT⟩:=hrel;by_cases hlt:k<l.length
     ·obtain⟨b,off,rfl,hb,g0⟩:=Lc HA.out hlt
      have HT2:Hid (Ac 1 l=_):=Qd (HT.out.symm.trans (Kr hlt));have hx:=HX.out k hlt;generalize l[k]=x at*;have hk0:(0:Int)<=(k:Int):=by omega
      have hk1:(k:Int)<(l.length:Int):=by omega
      have hp1:1*1<=n*x:=Int.mul_le_mul hn1 hx.1 (by omega) (by omega);have hp2:n*x<=2048*2048:=Int.mul_le_mul hn2 hx.2 (by omega) (by omega);have hp3:1<=n*x:=by omega
      have hp4:n*x<=4194304:=by omega
      clear hp1 hp2;obtain⟨p,hp⟩:∃p,p=n*x:=⟨_,rfl⟩;rw[<-hp] at HT2 hp3 hp4;have HP:Hid (p=n*x):=Qd hp;have hw:IntKind.i64.wrap (n*x)=p:=by rw[<-hp];exact IntWalk.i64_in _ (by omega)
      clear hp;by_cases hb:2048<p
      ·go_wp2_with fail
       go_ret2
       exact⟨by rw[HC3.out,HT2.out,if_pos hb];rfl,Br⟩
      go_wp2_with fail
      go_round
      case rel=>exact⟨k+1,p,by omega,by go_num,rfl,hp3,by omega,Qd (by rw[HT2.out,if_neg hb])⟩
      case measure=>simp[intOf];omega
     have HE:Hid (Ac 1 l=some n):=Qd (HT.out.symm.trans (Lv (by omega)));go_wp2_with fail
     go_ret2
     exact⟨by rw[HC3.out,HE.out];rfl,Br⟩
   have HC3:Hid (R=_):=Qd (HC2.out.trans ((if_neg (by decide)).trans (if_pos rfl)));go_wp2_with fail
   go_ret2
   exact⟨by rw[HC3.out];rfl,Br⟩
  have HC3:Hid (R=_):=Qd (HC2.out.trans (if_pos rfl));go_wp2_with fail
  go_ret2
  exact⟨by rw[HC3.out];rfl,Br⟩
theorem P6 (c:Int)(w:World)(h1: -9223372036854775808<=c)(h2:c<=9223372036854775807):
 Calls Tryz.prog 77 #[.int .i64 c] w λe w'=>e= .returned (.bool (Ae c))/\w=w':=by
 have HC:Hid (Ae c=_):=Qd (Ae.eq_1 c);generalize Ae c=R at*;by_cases a:0<=c
 ·by_cases b:c<=1114111
  ·by_cases d:c<55296
   ·go_enter Tryz.func77,Tryz.ntmps77
    go_wp2_with fail
    go_ret;exact⟨Aa (by rw[HC.out];simp[a,b,d]),rfl⟩
   by_cases e:57343<c
   ·go_enter Tryz.func77,Tryz.ntmps77
    go_wp2_with fail
    go_ret;exact⟨Aa (by rw[HC.out];simp[a,b,d,e]),rfl⟩
   go_enter Tryz.func77,Tryz.ntmps77
   go_wp2_with fail
   go_ret;exact⟨Aa (by rw[HC.out];simp[a,b,d,e]),rfl⟩
  go_enter Tryz.func77,Tryz.ntmps77
  go_wp2_with fail
  go_ret;exact⟨Aa (by rw[HC.out,show decide (c<=1114111)=false from decide_eq_false (by omega)];simp),rfl⟩
 go_enter Tryz.func77,Tryz.ntmps77
 go_wp2_with fail
 go_ret;exact⟨Aa (by rw[HC.out,show decide (0<=c)=false from decide_eq_false (by omega)];simp),rfl⟩
end
theorem Wia (n:Bool)(v1 v2:Value)(l1 l2:List Nat)(w:World)(h1:ResL w v1 l1)(h2:ResL w v2 l2):
 Calls Tryz.prog 110 #[.agg #[.bool n,v1,v2]] w (Mo w (Rt.nrm n (Nt.val l1)) (Nt.digs (Nt.val l1))):=by
 have hb0:∀o1 o2,Below w.heap.size w ((w.alloc o1).alloc o2):=λo1 o2=>(Br.alloc Lr _).alloc (by simp) _;have HN:=Qd (λo1 o2=>Of n v1 _ _ (h1.below (hb0 o1 o2)));have HB:=Qd hb0;obtain⟨⟨A1,c1,rfl,-⟩,-⟩:=h1;obtain⟨⟨A2,c2,rfl,-⟩,-⟩:=h2;clear hb0;generalize Rt.nrm n (Nt.val l1)=n2 at*;generalize Nt.digs (Nt.val l1)=d2 at*;generalize l1.length=k1 at*;generalize l2.length=k2 at*;have HI2:Hid (∀(b:Bool) (A:Option Addr) (k c:Nat),(Tryz.prog.info? 136).map (·.size)=some (#[.bool b,.slice A k c]:Array Value).size):=Qd (λ_ _ _ _=>Yd);go_enter Tryz.func110,Tryz.ntmps110
 go_wp2_with fail
 refine(HN.out _ _).mono ?_;rintro e w2 ⟨v3,rfl,hr2,hb2⟩;have hb3:=(HB.out _ _).trans (hb2.mono (HB.out _ _).size);have HG1:Hid (w2.heap[w.heap.size+1]? =some (.cells #[.bool false,.slice none 0 0] 136 (0,0))):=Qd ((hb2.block (w.heap.size+1) (by simp)).trans (by
  have:=heap_alloc_new (w.alloc (.cells #[.bool n,.slice A1 k1 c1,.slice A2 k2 c2] 83)) (.cells #[.bool false,.slice none 0 0] 136);rwa[show(w.alloc (.cells #[.bool n,.slice A1 k1 c1,.slice A2 k2 c2] 83)).heap.size=w.heap.size+1 by simp] at this))
 have HR2:=Qd (hr2.setRow HG1.out (Nb _ _ _ _) #[.bool n2,v3]);obtain⟨⟨A3,c3,rfl,-⟩,-⟩:=hr2;clear hb2;generalize d2.length=k3 at*;go_wp2_with (first
  |(with_reducible refine wpList_store_row rfl 136 (.tmp 2) (.tmp 8) rfl (w.heap.size+1) #[.bool n2,.slice A3 k3 c3] rfl rfl 136 #[.bool false,.slice none 0 0] HG1.out (HI2.out _ _ _ _) rfl (Rc _ _ _ _) ?_))
 refine bodyPost_ret (results_cell_row (by rfl) _ _ (w.heap.size+1) 136 #[.bool n2,.slice A3 k3 c3] (0,0) _ (by rfl) (Ma HG1.out) Tryz.underlying136 rfl (HI2.out _ _ _ _)) rfl ⟨.slice A3 k3 c3,rfl,HR2.out,rBelow.setRow hb3 (by omega) _⟩
theorem Xia (n:Bool)(v1 v2:Value)(l1 l2:List Nat)(w:World)(h1:ResL w v1 l1)(h2:ResL w v2 l2):
 Calls Tryz.prog 111 #[.agg #[.bool n,v1,v2]] w (Mo w (Rt.nrm false (Nt.val l2)) (Nt.digs (Nt.val l2))):=by
 have hb0:∀o1 o2,Below w.heap.size w ((w.alloc o1).alloc o2):=λo1 o2=>(Br.alloc Lr _).alloc (by simp) _;have HN:=Qd (λo1 o2=>Of false v2 _ _ (h2.below (hb0 o1 o2)));have HB:=Qd hb0;obtain⟨⟨A1,c1,rfl,-⟩,-⟩:=h1;obtain⟨⟨A2,c2,rfl,-⟩,-⟩:=h2;clear hb0;generalize Rt.nrm false (Nt.val l2)=n2 at*;generalize Nt.digs (Nt.val l2)=d2 at*;generalize l1.length=k1 at*;generalize l2.length=k2 at*;have HI2:Hid (∀(b:Bool) (A:Option Addr) (k c:Nat),(Tryz.prog.info? 136).map (·.size)=some (#[.bool b,.slice A k c]:Array Value).size):=Qd (λ_ _ _ _=>Yd);go_enter Tryz.func111,Tryz.ntmps111
 go_wp2_with fail
 refine(HN.out _ _).mono ?_;rintro e w2 ⟨v3,rfl,hr2,hb2⟩;have hb3:=(HB.out _ _).trans (hb2.mono (HB.out _ _).size);have HG1:Hid (w2.heap[w.heap.size+1]? =some (.cells #[.bool false,.slice none 0 0] 136 (0,0))):=Qd ((hb2.block (w.heap.size+1) (by simp)).trans (by
  have:=heap_alloc_new (w.alloc (.cells #[.bool n,.slice A1 k1 c1,.slice A2 k2 c2] 83)) (.cells #[.bool false,.slice none 0 0] 136);rwa[show(w.alloc (.cells #[.bool n,.slice A1 k1 c1,.slice A2 k2 c2] 83)).heap.size=w.heap.size+1 by simp] at this))
 have HR2:=Qd (hr2.setRow HG1.out (Nb _ _ _ _) #[.bool n2,v3]);obtain⟨⟨A3,c3,rfl,-⟩,-⟩:=hr2;clear hb2;generalize d2.length=k3 at*;go_wp2_with (first
  |(with_reducible refine wpList_store_row rfl 136 (.tmp 2) (.tmp 6) rfl (w.heap.size+1) #[.bool n2,.slice A3 k3 c3] rfl rfl 136 #[.bool false,.slice none 0 0] HG1.out (HI2.out _ _ _ _) rfl (Rc _ _ _ _) ?_))
 refine bodyPost_ret (results_cell_row (by rfl) _ _ (w.heap.size+1) 136 #[.bool n2,.slice A3 k3 c3] (0,0) _ (by rfl) (Ma HG1.out) Tryz.underlying136 rfl (HI2.out _ _ _ _)) rfl ⟨.slice A3 k3 c3,rfl,HR2.out,rBelow.setRow hb3 (by omega) _⟩
structure MI (w:World) (P Q:Array Value) (N1 N2:Bool) (D1 D2:List Nat) (b0 b1 b2 b3 b4 b5 b6 b7:Bool) (x15 x16 x17 x18 x6 x7:Value) (wx:World):Prop where
 below:Below w.heap.size w wx
 v15:b0=true->x15= .agg P
 v16:b1=true->∃v,x16= .agg #[.bool N1,v]/\ResL wx v D1
 v17:b2=true->x17= .agg Q
 v18:b3=true->∃v,x18= .agg #[.bool N2,v]/\ResL wx v D2
 v6:b4=true->∃g n A k c,x6= .pointer (some ⟨g,0,none⟩)/\w.heap.size<=g/\wx.heap[g]? =some (.cells #[.bool n,.slice A k c] 136 (0,0))/\(b6=true->x16= .agg #[.bool n,.slice A k c])
 v7:b5=true->∃g n A k c,x7= .pointer (some ⟨g,0,none⟩)/\w.heap.size<=g/\wx.heap[g]? =some (.cells #[.bool n,.slice A k c] 136 (0,0))/\(b7=true->x18= .agg #[.bool n,.slice A k c])
 o6:b6=true->b4=true/\b1=true
 o7:b7=true->b5=true/\b3=true
 ne:b4=true->b5=true->x6≠x7
def Jk (g:Nat)(P Q:Array Value)(x15 x16 x17 x18 x6 x7:Value):Act:={tmps:= #[.agg P,.agg Q,.pointer (some ⟨g,0,none⟩),.pointer (some ⟨g+1,0,none⟩),.pointer (some ⟨g+1+1,0,none⟩),.int .i64 0,x6,x7,undef,undef,undef,undef,undef,undef,undef,x15,x16,x17,x18,undef,undef,undef,undef,undef,undef,undef,undef,undef,undef,undef,undef,undef,undef,undef,undef,undef,undef,undef,undef,undef,undef,undef,undef,undef,undef,undef,undef,undef,undef,undef,undef,undef,undef,undef,undef,undef,undef,undef,undef,undef,undef,undef,undef,undef,undef,undef,undef],defers:=[]}
def Yna (w:World)(g:Nat)(P Q:Array Value)(N1 N2:Bool)(D1 D2:List Nat)(l:Array Bool)(a:Act)(wx:World):Prop:=
 ∃b0 b1 b2 b3 b4 b5 b6 b7 x15 x16 x17 x18 x6 x7,l= #[b0,b1,b2,b3,b4,b5,b6,b7]/\a=Jk g P Q x15 x16 x17 x18 x6 x7/\MI w P Q N1 N2 D1 D2 b0 b1 b2 b3 b4 b5 b6 b7 x15 x16 x17 x18 x6 x7 wx
theorem Dw {w:World}{g g':Nat}{cs:Array Value}(h:g≠g'):(w.setRow g cs).heap[g']? =w.heap[g']? :=by
 simp only[World.setRow,Array.getElem?_modify];rw[if_neg (by omega)]
theorem Pa {w:World}{g:Nat}{o:Obj}(h:w.heap[g]? =some o):g<w.heap.size:=by
 rcases Nat.lt_or_ge g w.heap.size with hl |hl
 ·exact hl
 rw[Array.getElem?_eq_none hl] at h;cases h
theorem Gaa {md:Region.Mode}{ops:Array Oper}{l:Array Bool}{i:Nat}(h:i<ops.size)(h1:l.getD i true=false)(h2:((ops[i]?).map (·.after.all λe=> !Region.binds md e||l.getD e.on false)).getD false=true):i∈Region.ready md ops l:=by
 simp only[Region.ready,List.mem_filter,List.mem_range,Bool.and_eq_true,Bool.not_eq_true'];exact⟨h,h1,h2⟩
theorem Wa {md:Region.Mode}{ops:Array Oper}{l:Array Bool}(hr:Region.ready md ops l=[])(i:Nat)(h:i<ops.size)(h2:((ops[i]?).map (·.after.all λe=> !Region.binds md e||l.getD e.on false)).getD false=true):l.getD i true=true:=by
 cases e:l.getD i true
 ·have:=Gaa h e h2
  rw[hr] at this;cases this
 rfl
theorem Ja {P:Program}{fn:Func}{p u:Tmp}{ty:TypeId}(h:fn.results= #[.cell p ty,.tmp u])(tmps:Array Value)(w:World)(g:Nat)(t:TypeId)(cs:Array Value)(fr:Nat×Nat)(d:TypeDesc)(x:Value)
 (hp:tmps.getD p undef= .pointer (some ⟨g,0,none⟩)) (hx:tmps.getD u undef=x) (hg:w.heap[g]? =some (.cells cs t fr))
 (hu:P.underlying ty=some d) (hd:(match d with | .struct _ | .array _ _=>true |_=>false)=true) (hi:(P.info? ty).map (·.size)=some cs.size):
 (results fn tmps).run P w= .ok (.tuple #[.agg cs,x]) w:=by
 have hp':tmps[p]?.getD undef= .pointer (some ⟨g,0,none⟩):=by simpa using hp
 have hx':tmps[u]?.getD undef=x:=by simpa using hx
 simp[results,h,hp',hx',asAddr,run_loadVar_row w g t ty cs fr d hg hu hd hi]
theorem Ob {fn:Func}{p u:Tmp}{a:Act}{g:Nat}{old:Array Value}{b:Bool}{A A':Option Addr}{k c k' c':Nat}{x:Value}{R:Ending->World->Prop}{w:World}(h:fn.results= #[.cell p 83,.tmp u])(hp:a.tmps.getD p undef= .pointer (some ⟨g,0,none⟩))(hx:a.tmps.getD u undef=x)(hd:a.defers=[])
 (hg:w.heap[g]? =some (.cells old 83 (0,0))) (hR:R (.returned (.tuple #[.agg #[.bool b,.slice A k c,.slice A' k' c'],x])) (w.setRow g #[.bool b,.slice A k c,.slice A' k' c'])):bodyPost Tryz.prog fn R .ret a (w.setRow g #[.bool b,.slice A k c,.slice A' k' c']):=
 bodyPost_ret (Ja h _ _ g _ _ (0,0) _ _ hp hx (Ma hg) Tryz.underlying83 rfl (Gs _ _ _)) hd hR
theorem Ia (w:World):IsRes w (.slice none 0 0) []:=⟨none,0,rfl,Lr,by omega,λ_=>rfl,.inl rfl⟩
def MakeOut (w:World)(r:Rt.Nm×Int)(e:Ending)(w':World):Prop:=∃t u,e= .returned (.tuple #[.agg #[.bool r.1.neg,t,u],.int .i64 r.2])/\IsRes w' t r.1.top/\IsRes w' u r.1.bot/\Below w.heap.size w w'
theorem MakeOut.of {w w':World}{r:Rt.Nm×Int}{e:Ending}{b:Bool}{t u:Value}{l l':List Nat}{er:Int}(hr:r=(⟨b,l,l'⟩,er))(he:e= .returned (.tuple #[.agg #[.bool b,t,u],.int .i64 er]))(h1:IsRes w' t l)(h2:IsRes w' u l')(h3:Below w.heap.size w w'):MakeOut w r e w':=by
 subst hr;exact⟨t,u,he,h1,h2,h3⟩
theorem Rz (n1 n2:Bool)(v1 v2:Value)(l1 l2:List Nat)(w:World)(h1:ResL w v1 l1)(h2:ResL w v2 l2):
 Calls Tryz.prog 109 #[.agg #[.bool n1,v1],.agg #[.bool n2,v2]] w (MakeOut w (Rt.mk n1 n2 (Nt.val l1) (Nt.val l2))):=by
 obtain⟨W,hW⟩:∃W,W=((w.alloc (.cells #[.bool n1,v1] 136)).alloc (.cells #[.bool n2,v2] 136)).alloc (.cells #[.bool false,.slice none 0 0,.slice none 0 0] 83):=⟨_,rfl⟩;have hWs:W.heap.size=w.heap.size+1+1+1:=by rw[hW];simp
 have hWb:Below w.heap.size w W:=by rw[hW];exact((Br.alloc Lr _).alloc (by simp) _).alloc (by simp;omega) _
 have hW0:W.heap[w.heap.size]? =some (.cells #[.bool n1,v1] 136 (0,0)):=by rw[hW];exact(Below.heap_alloc _ _ _ (by simp;omega)).trans (heap_alloc2_old _ _ _)
 have hW1:W.heap[w.heap.size+1]? =some (.cells #[.bool n2,v2] 136 (0,0)):=by rw[hW];exact(Below.heap_alloc _ _ _ (by simp)).trans (heap_alloc2_new _ _ _)
 have hW2:W.heap[w.heap.size+1+1]? =some (.cells #[.bool false,.slice none 0 0,.slice none 0 0] 83 (0,0)):=by
  rw[hW];have:=heap_alloc_new ((w.alloc (.cells #[.bool n1,v1] 136)).alloc (.cells #[.bool n2,v2] 136)) (.cells #[.bool false,.slice none 0 0,.slice none 0 0] 83);rwa[show((w.alloc (.cells #[.bool n1,v1] 136)).alloc (.cells #[.bool n2,v2] 136)).heap.size=w.heap.size+1+1 by simp] at this
 have HN1:=Qd (λ(wx:World) (hx:Below W.heap.size W wx)=>Of n1 v1 _ wx ((h1.below hWb).below hx));have HN2:=Qd (λ(wx:World) (hx:Below W.heap.size W wx)=>Of n2 v2 _ wx ((h2.below hWb).below hx));have HW:=Qd hW;have HW0:=Qd hW0;have HW1:=Qd hW1;have HW2:=Qd hW2;rw[<-Rt.mk_nrm];obtain⟨⟨A1,c1,rfl,-⟩,-⟩:=h1;obtain⟨⟨A2,c2,rfl,-⟩,-⟩:=h2;generalize Rt.nrm n1 (Nt.val l1)=N1 at*;generalize Rt.nrm n2 (Nt.val l2)=N2 at*;generalize Nt.val l1=X at*;generalize Nt.val l2=Y at*;generalize l1.length=z1 at*;generalize l2.length=z2 at*;clear hW hW0 hW1 hW2;go_enter Tryz.func109,Tryz.ntmps109
 go_wp2_with fail
 rw[<-HW.out];have hWl:w.heap.size+1+1<W.heap.size:=by omega
 have HWS:=Qd hWs;clear hWs;refine wp_region_any (by kernel_rfl) ?_;refine Nf (Yna W w.heap.size #[.bool n1,.slice A1 z1 c1] #[.bool n2,.slice A2 z2 c2] N1 N2 (Nt.digs X) (Nt.digs Y)) ?_ ?_ 8 _ _ _ (by decide) ⟨false,false,false,false,false,false,false,false,undef,undef,undef,undef,undef,undef,rfl,rfl,⟨⟨rfl,rfl,rfl,Lr,λ_ _=>rfl⟩,nofun,nofun,nofun,nofun,nofun,nofun,nofun,nofun,nofun⟩⟩
 ·rintro _ _ wx ⟨b0,b1,b2,b3,b4,b5,b6,b7,x15,x16,x17,x18,x6,x7,rfl,rfl,hJ⟩ i hi
  obtain⟨h8,hl,ha⟩:=Xd hi;have h8':i<8:=h8;clear h8 hi;have hsz:=hJ.below.size;rcases(show i=0\/i=1\/i=2\/i=3\/i=4\/i=5\/i=6\/i=7 by omega) with rfl |rfl |rfl |rfl |rfl |rfl |rfl |rfl
  ·refine Da rfl rfl ?_
   refine wp_load_row 136 (.tmp 2) rfl w.heap.size rfl 136 #[.bool n1,.slice A1 z1 c1] (0,0) _ ((hJ.below.block w.heap.size (by omega)).trans HW0.out) Tryz.underlying136 rfl Yd ?_;exact⟨true,b1,b2,b3,b4,b5,b6,b7,_,x16,x17,x18,x6,x7,rfl,rfl,{hJ with v15:=λ_=>rfl}⟩
  ·have h0:b0=true:=by simpa [Region.binds] using ha
   subst h0;have hb1:b1=false:=hl;subst hb1;have hb6:b6=false:=by
    cases b6
    ·rfl
    exact absurd (hJ.o6 rfl).2 (by decide)
   subst hb6;obtain rfl:=hJ.v15 rfl;refine Da rfl rfl ?_;unfold Jk Oper.wp;go_simp
   refine((HN1.out _ hJ.below).mono ?_);rintro e w2 ⟨v3,rfl,hr3,hb2⟩;exact⟨true,true,b2,b3,b4,b5,false,b7,_,_,x17,x18,x6,x7,rfl,rfl,{hJ with
    below:=hJ.below.trans (hb2.mono hsz)
    v16:=λ_=>⟨v3,rfl,hr3⟩
    v18:=λh=>by obtain⟨v,e,r⟩:=hJ.v18 h;exact⟨v,e,r.below hb2⟩
    v6:=λh=>by obtain⟨g,n,A,k,c,q1,q2,q3,q4⟩:=hJ.v6 h;exact⟨g,n,A,k,c,q1,q2,(hb2.block g (Pa q3)).trans q3,nofun⟩
    v7:=λh=>by obtain⟨g,n,A,k,c,q1,q2,q3,q4⟩:=hJ.v7 h;exact⟨g,n,A,k,c,q1,q2,(hb2.block g (Pa q3)).trans q3,q4⟩
    o6:=nofun}⟩
  ·refine Da rfl rfl ?_
   refine wp_load_row 136 (.tmp 3) rfl (w.heap.size+1) rfl 136 #[.bool n2,.slice A2 z2 c2] (0,0) _ ((hJ.below.block (w.heap.size+1) (by omega)).trans HW1.out) Tryz.underlying136 rfl Yd ?_;exact⟨b0,b1,true,b3,b4,b5,b6,b7,x15,x16,_,x18,x6,x7,rfl,rfl,{hJ with v17:=λ_=>rfl}⟩
  ·have h0:b2=true/\b1=true:=by simpa [Region.binds] using ha
   obtain⟨rfl,rfl⟩:=h0;have hb3:b3=false:=hl;subst hb3;have hb7:b7=false:=by
    cases b7
    ·rfl
    exact absurd (hJ.o7 rfl).2 (by decide)
   subst hb7;obtain rfl:=hJ.v17 rfl;refine Da rfl rfl ?_;unfold Jk Oper.wp;go_simp
   refine((HN2.out _ hJ.below).mono ?_);rintro e w2 ⟨v3,rfl,hr3,hb2⟩;exact⟨b0,true,true,true,b4,b5,b6,false,x15,x16,_,_,x6,x7,rfl,rfl,{hJ with
    below:=hJ.below.trans (hb2.mono hsz)
    v18:=λ_=>⟨v3,rfl,hr3⟩
    v16:=λh=>by obtain⟨v,e,r⟩:=hJ.v16 h;exact⟨v,e,r.below hb2⟩
    v6:=λh=>by obtain⟨g,n,A,k,c,q1,q2,q3,q4⟩:=hJ.v6 h;exact⟨g,n,A,k,c,q1,q2,(hb2.block g (Pa q3)).trans q3,q4⟩
    v7:=λh=>by obtain⟨g,n,A,k,c,q1,q2,q3,q4⟩:=hJ.v7 h;exact⟨g,n,A,k,c,q1,q2,(hb2.block g (Pa q3)).trans q3,nofun⟩
    o7:=nofun}⟩
  ·have hb4:b4=false:=hl
   subst hb4;have hb6:b6=false:=by
    cases b6
    ·rfl
    exact absurd (hJ.o6 rfl).1 (by decide)
   subst hb6;refine Da rfl rfl ?_;unfold Jk Oper.wp;go_simp
   have hba:Below wx.heap.size wx (wx.alloc (.cells #[.bool false,.slice none 0 0] 136)):=Br.alloc Lr _;exact⟨b0,b1,b2,b3,true,b5,false,b7,x15,x16,x17,x18,_,x7,rfl,rfl,{hJ with
    below:=hJ.below.alloc hsz _
    v16:=λh=>by obtain⟨v,e,r⟩:=hJ.v16 h;exact⟨v,e,r.below hba⟩
    v18:=λh=>by obtain⟨v,e,r⟩:=hJ.v18 h;exact⟨v,e,r.below hba⟩
    v6:=λ_=>⟨wx.heap.size,false,none,0,0,rfl,hsz,heap_alloc_new _ _,nofun⟩
    v7:=λh=>by obtain⟨g,n,A,k,c,q1,q2,q3,q4⟩:=hJ.v7 h;exact⟨g,n,A,k,c,q1,q2,(hba.block g (Pa q3)).trans q3,q4⟩
    o6:=nofun
    ne:=λ_ h=>by
     obtain⟨g,n,A,k,c,q1,q2,q3,q4⟩:=hJ.v7 h;have:=Pa q3;rw[q1];intro e;injection e with e;injection e with e;injection e with e;omega}⟩
  ·have hb5:b5=false:=hl
   subst hb5;have hb7:b7=false:=by
    cases b7
    ·rfl
    exact absurd (hJ.o7 rfl).1 (by decide)
   subst hb7;refine Da rfl rfl ?_;unfold Jk Oper.wp;go_simp
   have hba:Below wx.heap.size wx (wx.alloc (.cells #[.bool false,.slice none 0 0] 136)):=Br.alloc Lr _;exact⟨b0,b1,b2,b3,b4,true,b6,false,x15,x16,x17,x18,x6,_,rfl,rfl,{hJ with
    below:=hJ.below.alloc hsz _
    v16:=λh=>by obtain⟨v,e,r⟩:=hJ.v16 h;exact⟨v,e,r.below hba⟩
    v18:=λh=>by obtain⟨v,e,r⟩:=hJ.v18 h;exact⟨v,e,r.below hba⟩
    v7:=λ_=>⟨wx.heap.size,false,none,0,0,rfl,hsz,heap_alloc_new _ _,nofun⟩
    v6:=λh=>by obtain⟨g,n,A,k,c,q1,q2,q3,q4⟩:=hJ.v6 h;exact⟨g,n,A,k,c,q1,q2,(hba.block g (Pa q3)).trans q3,q4⟩
    o7:=nofun
    ne:=λh _=>by
     obtain⟨g,n,A,k,c,q1,q2,q3,q4⟩:=hJ.v6 h;have:=Pa q3;rw[q1];intro e;injection e with e;injection e with e;injection e with e;omega}⟩
  ·have h0:b4=true/\b1=true/\b3=true/\b0=true/\b1=true/\b4=true/\b5=true:=by simpa [Region.binds] using ha
   obtain⟨rfl,rfl,rfl,rfl,-,-,rfl⟩:=h0;have hb6:b6=false:=hl;subst hb6;obtain⟨g,n,A,k,c,rfl,q2,q3,q4⟩:=hJ.v6 rfl;obtain⟨g',n',A',k',c',rfl,q2',q3',q4'⟩:=hJ.v7 rfl;have hne:g≠g':=λe=>hJ.ne rfl rfl (by rw[e]);obtain⟨v,rfl,hr⟩:=hJ.v16 rfl;obtain⟨v',rfl,hr'⟩:=hJ.v18 rfl;have hrs:=hr.setRow q3 (Nb _ _ _ _) #[.bool N1,v];have hrs':=hr'.setRow q3 (Nb _ _ _ _) #[.bool N1,v];obtain⟨⟨A3,c3,rfl,-⟩,-⟩:=hr;refine Da rfl rfl ?_;refine wp_store_row 136 (.tmp 6) (.tmp 16) rfl g #[.bool N1,.slice A3 (Nt.digs X).length c3] rfl rfl 136 _ q3 Yd rfl (Rc _ _ _ _) ?_;exact⟨true,true,b2,true,true,true,true,b7,x15,_,x17,_,_,_,rfl,rfl,{hJ with
    below:=rBelow.setRow hJ.below q2 _
    v16:=λ_=>⟨_,rfl,hrs⟩
    v18:=λ_=>⟨v',rfl,hrs'⟩
    v6:=λ_=>⟨g,_,_,_,_,rfl,q2,Ma q3,λ_=>rfl⟩
    v7:=λ_=>⟨g',n',A',k',c',rfl,q2',(Dw hne).trans q3',q4'⟩
    o6:=λ_=>⟨rfl,rfl⟩}⟩
  have h0:b5=true/\b3=true/\b6=true/\b0=true/\b1=true/\b2=true/\b3=true/\b4=true/\b5=true/\b6=true:=by simpa [Region.binds] using ha
  obtain⟨rfl,rfl,rfl,rfl,rfl,rfl,-,rfl,-,-⟩:=h0;have hb7:b7=false:=hl;subst hb7;obtain⟨g,n,A,k,c,rfl,q2,q3,q4⟩:=hJ.v6 rfl;obtain⟨g',n',A',k',c',rfl,q2',q3',q4'⟩:=hJ.v7 rfl;have hne:g'≠g:=λe=>hJ.ne rfl rfl (by rw[e]);obtain⟨v,rfl,hr⟩:=hJ.v16 rfl;obtain⟨v',rfl,hr'⟩:=hJ.v18 rfl;have hrs:=hr.setRow q3' (Nb _ _ _ _) #[.bool N2,v'];have hrs':=hr'.setRow q3' (Nb _ _ _ _) #[.bool N2,v'];obtain⟨⟨A3,c3,rfl,-⟩,-⟩:=hr';refine Da rfl rfl ?_;refine wp_store_row 136 (.tmp 7) (.tmp 18) rfl g' #[.bool N2,.slice A3 (Nt.digs Y).length c3] rfl rfl 136 _ q3' Yd rfl (Rc _ _ _ _) ?_;exact⟨true,true,true,true,true,true,true,true,x15,_,x17,_,_,_,rfl,rfl,{hJ with
   below:=rBelow.setRow hJ.below q2' _
   v16:=λ_=>⟨v,rfl,hrs⟩
   v18:=λ_=>⟨_,rfl,hrs'⟩
   v7:=λ_=>⟨g',_,_,_,_,rfl,q2',Ma q3',λ_=>rfl⟩
   v6:=λ_=>⟨g,n,A,k,c,rfl,q2,(Dw hne).trans q3,q4⟩
   o7:=λ_=>⟨rfl,rfl⟩}⟩
 rintro _ _ wx ⟨b0,b1,b2,b3,b4,b5,b6,b7,x15,x16,x17,x18,x6,x7,rfl,rfl,hJ⟩ hr;have e0:b0=true:=Wa hr 0 (by decide) (by simp[Region.binds]);subst e0;have e1:b1=true:=Wa hr 1 (by decide) (by simp[Region.binds]);subst e1;have e2:b2=true:=Wa hr 2 (by decide) (by simp[Region.binds]);subst e2;have e3:b3=true:=Wa hr 3 (by decide) (by simp[Region.binds]);subst e3;have e4:b4=true:=Wa hr 4 (by decide) (by simp[Region.binds]);subst e4;have e5:b5=true:=Wa hr 5 (by decide) (by simp[Region.binds]);subst e5;have e6:b6=true:=Wa hr 6 (by decide) (by simp[Region.binds]);subst e6;have e7:b7=true:=Wa hr 7 (by decide) (by simp[Region.binds]);subst e7;clear hr;obtain⟨g,n,A,k,c,rfl,q2,q3,q4⟩:=hJ.v6 rfl;obtain⟨g',n',A',k',c',rfl,q2',q3',q4'⟩:=hJ.v7 rfl;have hne:g≠g':=λe=>hJ.ne rfl rfl (by rw[e]);obtain⟨v,rfl,hr1⟩:=hJ.v16 rfl;obtain⟨v',rfl,hr2⟩:=hJ.v18 rfl;have e:=q4 rfl;simp at e;obtain⟨e,rfl⟩:=e;subst e;have e:=q4' rfl;simp at e;obtain⟨e,rfl⟩:=e;subst e;have hxb:=hJ.below;have hxs:=hxb.size;have p0:wx.cell? ⟨g,0,none⟩=some (.bool N1):=(cell_of_row wx g 0 _ _ _ q3).trans rfl;have p1:wx.cell? ⟨g,1,none⟩=some (.slice A k c):=(cell_of_row wx g 1 _ _ _ q3).trans rfl;have p0':wx.cell? ⟨g',0,none⟩=some (.bool N2):=(cell_of_row wx g' 0 _ _ _ q3').trans rfl;have p1':wx.cell? ⟨g',1,none⟩=some (.slice A' k' c'):=(cell_of_row wx g' 1 _ _ _ q3').trans rfl;have hgl:=Pa q3;have hgl':=Pa q3';have HR1:=Qd hr1;have HR2:=Qd hr2;clear hJ hr1 hr2 q3 q3' q4 q4' HN1 HN2;obtain⟨hd1,o1,s1⟩:=HR1.out;obtain⟨hd2,o2,s2⟩:=HR2.out;have f1:k=(Nt.digs X).length:=by obtain⟨_,_,e,_⟩:=hd1;injection e
 have f2:k'=(Nt.digs Y).length:=by obtain⟨_,_,e,_⟩:=hd2;injection e
 have s1':k<=64:=by omega
 have s2':k'<=64:=by omega
 have HD1:=Qd hd1;have HD2:=Qd hd2;have HY0:Hid (k'=0↔Y=0):=Qd (by rw[f2,List.length_eq_zero_iff,Nt.digs_nil_iff]);have HF:=Qd (And.intro f1 f2);clear f1 f2 hd1 hd2;unfold Jk;have hxw:Below w.heap.size w wx:=hWb.trans (hxb.mono (by omega));have HGA:=Qd ((hxb.block (w.heap.size+1+1) (by omega)).trans HW2.out);by_cases hk0:k'=0
 ·have hz:((k':Int)==0)=true:=by rw[hk0];rfl
  have HK0:=Qd (HY0.out.1 hk0);clear hk0;go_wp2_with (first
   |(with_reducible refine Xc rfl (.tmp 4) (.tmp 23) rfl (w.heap.size+1+1) rfl rfl HGA.out ?_))
  refine Ob (by rfl) (by rfl) (by rfl) rfl HGA.out (MakeOut.of (by unfold Rt.mk;rw[if_pos HK0.out];rfl) rfl (Ia _) (Ia _) (rBelow.setRow hxw (by omega) _))
 have hz:((k':Int)==0)=false:=beq_eq_false_iff_ne.2 (by omega);have HY1:Hid (Y≠0):=Qd (λh=>hk0 (HY0.out.2 h));have hgl64:=Nt.gcd_len o1 o2 s1 s2;have GC:=Qd (Nz (.slice A k c) (.slice A' k' c') (Nt.digs X) (Nt.digs Y) wx HD1.out HD2.out o1 o2 s1 s2);have HOG:=Qd (Nt.ok_digs (Nat.gcd (Nt.val (Nt.digs X)) (Nt.val (Nt.digs Y))));have HGV:Hid (Nt.val (Nt.digs (Nat.gcd (Nt.val (Nt.digs X)) (Nt.val (Nt.digs Y))))=Nat.gcd X Y):=Qd (by rw[Nt.val_digs,Nt.val_digs,Nt.val_digs]);generalize Nt.digs (Nat.gcd (Nt.val (Nt.digs X)) (Nt.val (Nt.digs Y)))=gd at*;clear hk0;go_wp2_with fail
 refine GC.out.mono ?_;rintro e w3 ⟨v3,rfl,hr3,hb3⟩;have r0:w3.cell? ⟨g,0,none⟩=some (.bool N1):=(hb3.cell (p:=⟨g,0,none⟩) hgl).trans p0;have r1:w3.cell? ⟨g,1,none⟩=some (.slice A k c):=(hb3.cell (p:=⟨g,1,none⟩) hgl).trans p1;have r0':w3.cell? ⟨g',0,none⟩=some (.bool N2):=(hb3.cell (p:=⟨g',0,none⟩) hgl').trans p0';have r1':w3.cell? ⟨g',1,none⟩=some (.slice A' k' c'):=(hb3.cell (p:=⟨g',1,none⟩) hgl').trans p1';have DM:=Qd (Wj (w0:=w3) (HD1.out.below hb3) hr3 o1 HOG.out (by omega) (by omega) Br);clear p0 p1 p0' p1' GC;go_wp2_with fail
 refine DM.out.mono ?_;rintro e w4 ⟨u1,u2,rfl,t1,t2,hb4,-⟩;have hs3:=hb3.size;have r0:w4.cell? ⟨g,0,none⟩=some (.bool N1):=(hb4.cell (p:=⟨g,0,none⟩) (show g<_ by omega)).trans r0;have r0':w4.cell? ⟨g',0,none⟩=some (.bool N2):=(hb4.cell (p:=⟨g',0,none⟩) (show g'<_ by omega)).trans r0';have r1':w4.cell? ⟨g',1,none⟩=some (.slice A' k' c'):=(hb4.cell (p:=⟨g',1,none⟩) (show g'<_ by omega)).trans r1';have DN:=Qd (Wj (w0:=w4) ((HD2.out.below hb3).below hb4) (hr3.below hb4) o2 HOG.out (by omega) (by omega) Br);clear DM;go_wp2_with fail
 refine DN.out.mono ?_;rintro e w5 ⟨u3,u4,rfl,t3,t4,hb5,-⟩;have hs4:=hb4.size;have hs5:=hb5.size;have r0:w5.cell? ⟨g,0,none⟩=some (.bool N1):=(hb5.cell (p:=⟨g,0,none⟩) (show g<_ by omega)).trans r0;have r0':w5.cell? ⟨g',0,none⟩=some (.bool N2):=(hb5.cell (p:=⟨g',0,none⟩) (show g'<_ by omega)).trans r0';have HGB:=Qd ((hb5.block (w.heap.size+1+1) (by omega)).trans ((hb4.block (w.heap.size+1+1) (by omega)).trans ((hb3.block (w.heap.size+1+1) (by omega)).trans HGA.out)));have hbw:Below w.heap.size w w5:=((hxw.trans (hb3.mono (by omega))).trans (hb4.mono (by omega))).trans (hb5.mono (by omega));have HT1:=Qd (t1.below hb5);have HT3:=Qd t3;clear t1 t2 t3 t4 hr3 DN;obtain⟨e1,he1⟩:∃e1,e1=Nt.digs (Nt.quo (Nt.val (Nt.digs X)) (Nt.val gd)):=⟨_,rfl⟩;obtain⟨e2,he2⟩:∃e2,e2=Nt.digs (Nt.quo (Nt.val (Nt.digs Y)) (Nt.val gd)):=⟨_,rfl⟩;rw[<-he1] at HT1;rw[<-he2] at HT3;rw[HGV.out,Nt.val_digs] at he1 he2;have HE1:Hid (e1=Nt.digs (X/Nat.gcd X Y)):=Qd he1;have HE2:Hid (e2=Nt.digs (Y/Nat.gcd X Y)):=Qd he2;have HX0:Hid (e1.length=0↔X=0):=Qd (by rw[he1,List.length_eq_zero_iff,Nt.digs_nil_iff];exact Rt.div_gcd_zero HY1.out);clear he1 he2;obtain⟨B1,a1,rfl,y1,y2,-⟩:=HT1.out;obtain⟨B2,a2,rfl,y3,y4,-⟩:=HT3.out;by_cases h32:32<e1.length
 ·have g1:decide ((32:Int)<(e1.length:Int))=true:=by simp;omega
  go_wp2_with (first
   |(with_reducible refine Xc rfl (.tmp 4) (.tmp 53) rfl (w.heap.size+1+1) rfl rfl HGB.out ?_))
  refine Ob (by rfl) (by rfl) (by rfl) rfl HGB.out (MakeOut.of (by unfold Rt.mk;rw[if_neg HY1.out,<-HE1.out,<-HE2.out,if_pos (by omega)];rfl) rfl (Ia _) (Ia _) (rBelow.setRow hbw (by omega) _))
 by_cases h33:32<e2.length
 ·have g1:decide ((32:Int)<(e1.length:Int))=false:=by simp;omega
  have g2:decide ((32:Int)<(e2.length:Int))=true:=by simp;omega
  go_wp2_with (first
   |(with_reducible refine Xc rfl (.tmp 4) (.tmp 53) rfl (w.heap.size+1+1) rfl rfl HGB.out ?_))
  refine Ob (by rfl) (by rfl) (by rfl) rfl HGB.out (MakeOut.of (by unfold Rt.mk;rw[if_neg HY1.out,<-HE1.out,<-HE2.out,if_pos (by omega)];rfl) rfl (Ia _) (Ia _) (rBelow.setRow hbw (by omega) _))
 have g1:decide ((32:Int)<(e1.length:Int))=false:=by simp;omega
 have g2:decide ((32:Int)<(e2.length:Int))=false:=by simp;omega
 by_cases h34:0<e1.length
 ·have g3:decide ((0:Int)<(e1.length:Int))=true:=decide_eq_true (by omega)
  have HXB:Hid ((X==0)=false):=Qd (by have:=HX0.out;simp;omega);cases N1;all_goals
   cases N2;all_goals
    skip
    go_wp2_with (first
     |(with_reducible refine Xc rfl (.tmp 4) (.tmp 66) rfl (w.heap.size+1+1) rfl rfl HGB.out ?_))
    refine Ob (by rfl) (by rfl) (by rfl) rfl HGB.out (MakeOut.of (by unfold Rt.mk;rw[if_neg HY1.out,<-HE1.out,<-HE2.out,if_neg (by omega),HXB.out];rfl) rfl (HT1.out.setRow HGB.out (Ea _ _ _ _ _ _ _) _) (HT3.out.setRow HGB.out (Ea _ _ _ _ _ _ _) _) (rBelow.setRow hbw (by omega) _))
 have g3:decide ((0:Int)<(e1.length:Int))=false:=decide_eq_false (by omega);have HXB:Hid ((X==0)=true):=Qd (by have:=HX0.out;simp;omega);go_wp2_with (first
  |(with_reducible refine Xc rfl (.tmp 4) (.tmp 66) rfl (w.heap.size+1+1) rfl rfl HGB.out ?_))
 refine Ob (by rfl) (by rfl) (by rfl) rfl HGB.out (MakeOut.of (by unfold Rt.mk;rw[if_neg HY1.out,<-HE1.out,<-HE2.out,if_neg (by omega),HXB.out];rfl) rfl (HT1.out.setRow HGB.out (Ea _ _ _ _ _ _ _) _) (HT3.out.setRow HGB.out (Ea _ _ _ _ _ _ _) _) (rBelow.setRow hbw (by omega) _))
section
open Go.RowKit Ar
def IntOK (n:Bool)(l:List Nat)(w:World)(x:Value):Prop:=∃v,x= .agg #[.bool n,v]/\ResL w v l
def TupOK (r:Rt.Nm×Int)(w:World)(x:Value):Prop:=∃t u,x= .tuple #[.agg #[.bool r.1.neg,t,u],.int .i64 r.2]/\IsRes w t r.1.top/\IsRes w u r.1.bot
def AggOK (r:Rt.Nm×Int)(w:World)(x:Value):Prop:=∃t u,x= .agg #[.bool r.1.neg,t,u]/\IsRes w t r.1.top/\IsRes w u r.1.bot
def Wka (er:Int)(x:Value):Prop:=x= .int .i64 er
def CellOK (r:Rt.Nm×Int)(lo:Nat)(said:Bool)(w:World)(x:Value):Prop:=∃g b A k c A' k' c',x= .pointer (some ⟨g,0,none⟩)/\lo<=g/\w.heap[g]? =some (.cells #[.bool b,.slice A k c,.slice A' k' c'] 83 (0,0))/\(said=true->b=r.1.neg/\IsRes w (.slice A k c) r.1.top/\IsRes w (.slice A' k' c') r.1.bot)
theorem IntOK.below {n:Bool}{l:List Nat}{w w':World}{x:Value}(h:IntOK n l w x)(hb:Below w.heap.size w w'):IntOK n l w' x:=by
 obtain⟨v,e,r⟩:=h;exact⟨v,e,r.below hb⟩
theorem TupOK.below {r0:Rt.Nm×Int}{w w':World}{x:Value}(h:TupOK r0 w x)(hb:Below w.heap.size w w'):TupOK r0 w' x:=by
 obtain⟨t,u,e,r,r'⟩:=h;exact⟨t,u,e,r.below hb,r'.below hb⟩
theorem AggOK.below {r0:Rt.Nm×Int}{w w':World}{x:Value}(h:AggOK r0 w x)(hb:Below w.heap.size w w'):AggOK r0 w' x:=by
 obtain⟨t,u,e,r,r'⟩:=h;exact⟨t,u,e,r.below hb,r'.below hb⟩
theorem CellOK.below {r0:Rt.Nm×Int}{lo:Nat}{said:Bool}{w w':World}{x:Value}(h:CellOK r0 lo said w x)(hb:Below w.heap.size w w'):CellOK r0 lo said w' x:=by
 obtain⟨g,b,A,k,c,A',k',c',e,h1,h2,h3⟩:=h;exact⟨g,b,A,k,c,A',k',c',e,h1,(hb.block g (Pa h2)).trans h2,λhs=>by obtain⟨e,r,r'⟩:=h3 hs;exact⟨e,r.below hb,r'.below hb⟩⟩
theorem IntOK.setRow {n:Bool}{l:List Nat}{w:World}{x:Value}{g:Nat}{old:Array Value}{t:TypeId}(h:IntOK n l w x)(hg:w.heap[g]? =some (.cells old t (0,0)))(ho:∀(i:Nat) (k:IntKind) (n:Int),old[i]? ≠some (Value.int k n))(cs:Array Value):IntOK n l (w.setRow g cs) x:=by
 obtain⟨v,e,r⟩:=h;exact⟨v,e,r.setRow hg ho cs⟩
theorem TupOK.setRow {r0:Rt.Nm×Int}{w:World}{x:Value}{g:Nat}{old:Array Value}{t:TypeId}(h:TupOK r0 w x)(hg:w.heap[g]? =some (.cells old t (0,0)))(ho:∀(i:Nat) (k:IntKind) (n:Int),old[i]? ≠some (Value.int k n))(cs:Array Value):TupOK r0 (w.setRow g cs) x:=by
 obtain⟨t,u,e,r,r'⟩:=h;exact⟨t,u,e,r.setRow hg ho cs,r'.setRow hg ho cs⟩
theorem AggOK.setRow {r0:Rt.Nm×Int}{w:World}{x:Value}{g:Nat}{old:Array Value}{t:TypeId}(h:AggOK r0 w x)(hg:w.heap[g]? =some (.cells old t (0,0)))(ho:∀(i:Nat) (k:IntKind) (n:Int),old[i]? ≠some (Value.int k n))(cs:Array Value):AggOK r0 (w.setRow g cs) x:=by
 obtain⟨t,u,e,r,r'⟩:=h;exact⟨t,u,e,r.setRow hg ho cs,r'.setRow hg ho cs⟩
structure GI (w:World) (N:Array Value) (N1 N2:Bool) (D1 D2:List Nat) (R:Rt.Nm×Int) (b0 b1 b2 b3 b4 b5 b6 b7 b8 b9 b10:Bool) (x16 x17 x18 x19 x20 x15 x21 x22 x3 x4:Value) (wx:World):Prop where
 below:Below w.heap.size w wx
 v16:b0=true->x16= .agg N
 v17:b1=true->IntOK N1 D1 wx x17
 v18:b2=true->x18= .agg N
 v19:b3=true->IntOK N2 D2 wx x19
 v20:b4=true->TupOK R wx x20
 v15:b5=true->TupOK R wx x15
 v21:b6=true->AggOK R wx x21
 v22:b7=true->Wka R.2 x22
 v3:b8=true->CellOK R w.heap.size b9 wx x3
 v4:b10=true->Wka R.2 x4
 o9:b9=true->b8=true
def Af (g:Nat)(N:Array Value)(A:Option Addr)(k c:Nat)(A':Option Addr)(k' c':Nat)(x16 x17 x18 x19 x20 x15 x21 x22 x3 x4:Value):Act:={tmps:= #[.agg N,.pointer (some ⟨g,0,none⟩),.bool false,x3,x4,.pointer (some ⟨g,1,none⟩),.slice A k c,.int .i64 (k:Int),.bool false,.bool false,.pointer (some ⟨g,2,none⟩),.slice A' k' c',.int .i64 (k':Int),.bool false,.bool false,x15,x16,x17,x18,x19,x20,x21,x22,undef,undef,undef,undef,undef,undef,undef],defers:=[]}
def Zna (w:World)(g:Nat)(N:Array Value)(A:Option Addr)(k c:Nat)(A':Option Addr)(k' c':Nat)(N1 N2:Bool)(D1 D2:List Nat)(R:Rt.Nm×Int)(l:Array Bool)(a:Act)(wx:World):Prop:=
 ∃b0 b1 b2 b3 b4 b5 b6 b7 b8 b9 b10 x16 x17 x18 x19 x20 x15 x21 x22 x3 x4,l= #[b0,b1,b2,b3,b4,b5,b6,b7,b8,b9,b10]/\a=Af g N A k c A' k' c' x16 x17 x18 x19 x20 x15 x21 x22 x3 x4/\GI w N N1 N2 D1 D2 R b0 b1 b2 b3 b4 b5 b6 b7 b8 b9 b10 x16 x17 x18 x19 x20 x15 x21 x22 x3 x4 wx
theorem Haa (n:Bool)(t u:List Nat)(h1:t.length<=32)(h2:u.length<=32):Rt.right ⟨n,t,u⟩=(((Rt.mk n false (Nt.val t) (Nt.val u)).2==0)&&Hc n (Rt.mk n false (Nt.val t) (Nt.val u)).1.neg t (Rt.mk n false (Nt.val t) (Nt.val u)).1.top u (Rt.mk n false (Nt.val t) (Nt.val u)).1.bot):=by
 unfold Rt.right;dsimp only;rw[decide_eq_true h1,decide_eq_true h2,Bool.true_and,Bool.true_and]
 congr 1
 obtain⟨⟨b,l,l'⟩,er⟩:=Rt.mk n false (Nt.val t) (Nt.val u);rw[Bool.eq_iff_iff];simp only[decide_eq_true_eq,Hc,Bool.and_eq_true,beq_iff_eq,Rt.Nm.mk.injEq]
 constructor
 ·rintro⟨rfl,rfl,rfl⟩;exact⟨⟨rfl,rfl⟩,rfl⟩
 rintro⟨⟨rfl,rfl⟩,rfl⟩;exact⟨rfl,rfl,rfl⟩
theorem Iaa (n:Bool)(A:Option Addr)(t:List Nat)(c:Nat)(A':Option Addr)(u:List Nat)(c':Nat)(w:World)(h1:IsRes w (.slice A t.length c) t)(h2:IsRes w (.slice A' u.length c') u)(o1:Nt.Ok t)(o2:Nt.Ok u):
 Calls Tryz.prog 75 #[.agg #[.bool n,.slice A t.length c,.slice A' u.length c']] w λe w'=>e= .returned (.bool (Rt.right ⟨n,t,u⟩))/\Below w.heap.size w w':=by
 obtain⟨W,hW⟩:∃W,W=w.alloc (.cells #[.bool n,.slice A t.length c,.slice A' u.length c'] 83):=⟨_,rfl⟩;have hWs:W.heap.size=w.heap.size+1:=by rw[hW];simp
 have hWb:Below w.heap.size w W:=by rw[hW];exact Br.alloc Lr _
 have hW0:W.heap[w.heap.size]? =some (.cells #[.bool n,.slice A t.length c,.slice A' u.length c'] 83 (0,0)):=by rw[hW];exact heap_alloc_new _ _
 have HW:=Qd hW;have HW0:=Qd hW0;have HR1:=Qd h1;have HR2:=Qd h2;clear hW hW0;by_cases k1:32<t.length
 ·clear h1 h2
  go_enter Tryz.func75,Tryz.ntmps75
  go_wp2_with fail
  go_ret;exact⟨Aa (by unfold Rt.right;rw[show decide (t.length<=32)=false from decide_eq_false (by omega)];rfl),by rw[HW.out] at hWb;exact hWb⟩
 by_cases k2:32<u.length
 ·clear h1 h2
  go_enter Tryz.func75,Tryz.ntmps75
  go_wp2_with fail
  go_ret;exact⟨Aa (by unfold Rt.right;rw[show decide (u.length<=32)=false from decide_eq_false (by omega)];simp),by rw[HW.out] at hWb;exact hWb⟩
 have q1:ResL w (.slice A t.length c) t:=⟨h1,o1,by omega⟩;have q2:ResL w (.slice A' u.length c') u:=⟨h2,o2,by omega⟩;have TP:=Qd (λ(wx:World) (hx:Below W.heap.size W wx)=>Wia n _ _ _ _ wx ((q1.below hWb).below hx) ((q2.below hWb).below hx));have BT:=Qd (λ(wx:World) (hx:Below W.heap.size W wx)=>Xia n _ _ _ _ wx ((q1.below hWb).below hx) ((q2.below hWb).below hx));have hd1:decide ((32:Int)<(t.length:Int))=false:=decide_eq_false (by omega);have hd2:decide ((32:Int)<(u.length:Int))=false:=decide_eq_false (by omega);have hWl:w.heap.size<W.heap.size:=by omega
 have HRT:Hid (Rt.right ⟨n,t,u⟩=(((Rt.mk n false (Nt.val t) (Nt.val u)).2==0)&&Hc n (Rt.mk n false (Nt.val t) (Nt.val u)).1.neg t (Rt.mk n false (Nt.val t) (Nt.val u)).1.top u (Rt.mk n false (Nt.val t) (Nt.val u)).1.bot)):=Qd (Haa n t u (by omega) (by omega));have hMK:Rt.mk (Rt.nrm n (Nt.val t)) (Rt.nrm false (Nt.val u)) (Nt.val (Nt.digs (Nt.val t))) (Nt.val (Nt.digs (Nt.val u)))=Rt.mk n false (Nt.val t) (Nt.val u):=by rw[Nt.val_digs,Nt.val_digs,Rt.mk_nrm]
 generalize Rt.right ⟨n,t,u⟩=RT at*;generalize Rt.mk n false (Nt.val t) (Nt.val u)=R at*;have HMK:=Qd hMK;clear hMK;clear h1 h2 q1 q2 hWs;go_enter Tryz.func75,Tryz.ntmps75
 go_wp2_with fail
 rw[<-HW.out];refine wp_region_any (by kernel_rfl) ?_;refine Nf (Zna W w.heap.size #[.bool n,.slice A t.length c,.slice A' u.length c'] A t.length c A' u.length c' (Rt.nrm n (Nt.val t)) (Rt.nrm false (Nt.val u)) (Nt.digs (Nt.val t)) (Nt.digs (Nt.val u)) R) ?_ ?_ 11 _ _ _ (by decide) ⟨false,false,false,false,false,false,false,false,false,false,false,undef,undef,undef,undef,undef,undef,undef,undef,undef,undef,rfl,rfl,⟨⟨rfl,rfl,rfl,Lr,λ_ _=>rfl⟩,nofun,nofun,nofun,nofun,nofun,nofun,nofun,nofun,nofun,nofun,nofun⟩⟩
 ·rintro _ _ wx ⟨b0,b1,b2,b3,b4,b5,b6,b7,b8,b9,b10,x16,x17,x18,x19,x20,x15,x21,x22,x3,x4,rfl,rfl,hJ⟩ i hi
  obtain⟨h8,hl,ha⟩:=Xd hi;have h8':i<11:=h8;clear h8 hi;have hsz:=hJ.below.size;rcases(show i=0\/i=1\/i=2\/i=3\/i=4\/i=5\/i=6\/i=7\/i=8\/i=9\/i=10 by omega) with rfl |rfl |rfl |rfl |rfl |rfl |rfl |rfl |rfl |rfl |rfl
  ·refine Da rfl rfl ?_
   refine wp_load_row 83 (.tmp 1) rfl w.heap.size rfl 83 #[.bool n,.slice A t.length c,.slice A' u.length c'] (0,0) _ ((hJ.below.block w.heap.size hWl).trans HW0.out) Tryz.underlying83 rfl Kg ?_;exact⟨true,b1,b2,b3,b4,b5,b6,b7,b8,b9,b10,_,x17,x18,x19,x20,x15,x21,x22,x3,x4,rfl,rfl,{hJ with v16:=λ_=>rfl}⟩
  ·have h0:b0=true:=by simpa [Region.binds] using ha
   subst h0;obtain rfl:=hJ.v16 rfl;refine Da rfl rfl ?_;unfold Af Oper.wp;go_simp
   refine((TP.out _ hJ.below).mono ?_);rintro e w2 ⟨v3,rfl,hr3,hb2⟩;exact⟨true,true,b2,b3,b4,b5,b6,b7,b8,b9,b10,_,_,x18,x19,x20,x15,x21,x22,x3,x4,rfl,rfl,{hJ with
    below:=hJ.below.trans (hb2.mono hsz)
    v17:=λ_=>⟨v3,rfl,hr3⟩
    v19:=λh=>(hJ.v19 h).below hb2
    v20:=λh=>(hJ.v20 h).below hb2
    v15:=λh=>(hJ.v15 h).below hb2
    v21:=λh=>(hJ.v21 h).below hb2
    v3:=λh=>(hJ.v3 h).below hb2}⟩
  ·refine Da rfl rfl ?_
   refine wp_load_row 83 (.tmp 1) rfl w.heap.size rfl 83 #[.bool n,.slice A t.length c,.slice A' u.length c'] (0,0) _ ((hJ.below.block w.heap.size hWl).trans HW0.out) Tryz.underlying83 rfl Kg ?_;exact⟨b0,b1,true,b3,b4,b5,b6,b7,b8,b9,b10,x16,x17,_,x19,x20,x15,x21,x22,x3,x4,rfl,rfl,{hJ with v18:=λ_=>rfl}⟩
  ·have h0:b2=true/\b1=true:=by simpa [Region.binds] using ha
   obtain⟨rfl,rfl⟩:=h0;obtain rfl:=hJ.v18 rfl;refine Da rfl rfl ?_;unfold Af Oper.wp;go_simp
   refine((BT.out _ hJ.below).mono ?_);rintro e w2 ⟨v3,rfl,hr3,hb2⟩;exact⟨b0,true,true,true,b4,b5,b6,b7,b8,b9,b10,x16,x17,_,_,x20,x15,x21,x22,x3,x4,rfl,rfl,{hJ with
    below:=hJ.below.trans (hb2.mono hsz)
    v19:=λ_=>⟨v3,rfl,hr3⟩
    v17:=λh=>(hJ.v17 h).below hb2
    v20:=λh=>(hJ.v20 h).below hb2
    v15:=λh=>(hJ.v15 h).below hb2
    v21:=λh=>(hJ.v21 h).below hb2
    v3:=λh=>(hJ.v3 h).below hb2}⟩
  ·have h0:b1=true/\b3=true:=by simpa [Region.binds] using ha
   obtain⟨rfl,rfl⟩:=h0;obtain⟨v1,rfl,r1⟩:=hJ.v17 rfl;obtain⟨v2,rfl,r2⟩:=hJ.v19 rfl;have MK:=Rz (Rt.nrm n (Nt.val t)) (Rt.nrm false (Nt.val u)) v1 v2 _ _ wx r1 r2;rw[HMK.out] at MK;refine Da rfl rfl ?_;unfold Af Oper.wp;go_simp
   refine(MK.mono ?_);rintro e w2 ⟨t1,u1,rfl,k1,k2,hb2⟩;exact⟨b0,true,b2,true,true,b5,b6,b7,b8,b9,b10,x16,_,x18,_,_,x15,x21,x22,x3,x4,rfl,rfl,{hJ with
    below:=hJ.below.trans (hb2.mono hsz)
    v20:=λ_=>⟨t1,u1,rfl,k1,k2⟩
    v17:=λh=>(hJ.v17 h).below hb2
    v19:=λh=>(hJ.v19 h).below hb2
    v15:=λh=>(hJ.v15 h).below hb2
    v21:=λh=>(hJ.v21 h).below hb2
    v3:=λh=>(hJ.v3 h).below hb2}⟩
  ·have h0:b4=true:=by simpa [Region.binds] using ha
   subst h0;have hv:=hJ.v20 rfl;refine Da rfl rfl ?_;unfold Af Oper.wp;go_simp
   exact⟨b0,b1,b2,b3,true,true,b6,b7,b8,b9,b10,x16,x17,x18,x19,x20,_,x21,x22,x3,x4,rfl,rfl,{hJ with v15:=λ_=>hv}⟩
  ·have h0:b5=true:=by simpa [Region.binds] using ha
   subst h0;obtain⟨t1,u1,rfl,k1,k2⟩:=hJ.v15 rfl;refine Da rfl rfl ?_;unfold Af Oper.wp;go_simp
   exact⟨b0,b1,b2,b3,b4,true,true,b7,b8,b9,b10,x16,x17,x18,x19,x20,_,_,x22,x3,x4,rfl,rfl,{hJ with v21:=λ_=>⟨t1,u1,rfl,k1,k2⟩}⟩
  ·have h0:b5=true:=by simpa [Region.binds] using ha
   subst h0;obtain⟨t1,u1,rfl,k1,k2⟩:=hJ.v15 rfl;refine Da rfl rfl ?_;unfold Af Oper.wp;go_simp
   exact⟨b0,b1,b2,b3,b4,true,b6,true,b8,b9,b10,x16,x17,x18,x19,x20,_,x21,_,x3,x4,rfl,rfl,{hJ with v22:=λ_=>rfl}⟩
  ·have hb8:b8=false:=hl
   subst hb8;have hb9:b9=false:=by
    cases b9
    ·rfl
    exact absurd (hJ.o9 rfl) (by decide)
   subst hb9;refine Da rfl rfl ?_;unfold Af Oper.wp;go_simp
   have hba:Below wx.heap.size wx (wx.alloc (.cells #[.bool false,.slice none 0 0,.slice none 0 0] 83)):=Br.alloc Lr _;exact⟨b0,b1,b2,b3,b4,b5,b6,b7,true,false,b10,x16,x17,x18,x19,x20,x15,x21,x22,_,x4,rfl,rfl,{hJ with
    below:=hJ.below.alloc hsz _
    v3:=λ_=>⟨wx.heap.size,false,none,0,0,none,0,0,rfl,hsz,heap_alloc_new _ _,nofun⟩
    v17:=λh=>(hJ.v17 h).below hba
    v19:=λh=>(hJ.v19 h).below hba
    v20:=λh=>(hJ.v20 h).below hba
    v15:=λh=>(hJ.v15 h).below hba
    v21:=λh=>(hJ.v21 h).below hba
    o9:=nofun}⟩
  ·simp[Region.binds] at ha
   obtain⟨rfl,rfl,rfl,rfl,rfl,rfl,rfl,-,rfl,-,-⟩:=ha;have hb9:b9=false:=hl;subst hb9;obtain⟨g,b,A3,k3,c3,A4,k4,c4,rfl,q1,q2,q3⟩:=hJ.v3 rfl;obtain⟨t1,u1,rfl,r1,r2⟩:=hJ.v21 rfl;have s17:=(hJ.v17 rfl).setRow q2 (Ea _ _ _ _ _ _ _) #[.bool R.1.neg,t1,u1];have s19:=(hJ.v19 rfl).setRow q2 (Ea _ _ _ _ _ _ _) #[.bool R.1.neg,t1,u1];have s20:=(hJ.v20 rfl).setRow q2 (Ea _ _ _ _ _ _ _) #[.bool R.1.neg,t1,u1];have s15:=(hJ.v15 rfl).setRow q2 (Ea _ _ _ _ _ _ _) #[.bool R.1.neg,t1,u1];have s21:=(hJ.v21 rfl).setRow q2 (Ea _ _ _ _ _ _ _) #[.bool R.1.neg,t1,u1];have r1':=r1.setRow q2 (Ea _ _ _ _ _ _ _) #[.bool R.1.neg,t1,u1];have r2':=r2.setRow q2 (Ea _ _ _ _ _ _ _) #[.bool R.1.neg,t1,u1];obtain⟨A5,c5,rfl,-⟩:=r1;obtain⟨A6,c6,rfl,-⟩:=r2;refine Da rfl rfl ?_;refine wp_store_row 83 (.tmp 3) (.tmp 21) rfl g #[.bool R.1.neg,.slice A5 R.1.top.length c5,.slice A6 R.1.bot.length c6] rfl rfl 83 _ q2 Kg rfl (Cw _ _ _ _ _ _ _) ?_;exact⟨true,true,true,true,true,true,true,b7,true,true,b10,x16,x17,x18,x19,x20,x15,_,x22,_,x4,rfl,rfl,{hJ with
    below:=rBelow.setRow hJ.below q1 _
    v17:=λ_=>s17
    v19:=λ_=>s19
    v20:=λ_=>s20
    v15:=λ_=>s15
    v21:=λ_=>s21
    v3:=λ_=>⟨g,_,_,_,_,_,_,_,rfl,q1,Ma q2,λ_=>⟨rfl,r1',r2'⟩⟩
    o9:=λ_=>rfl}⟩
  simp[Region.binds] at ha;have h7:b7=true:=ha.1;subst h7;clear ha;have hv:=hJ.v22 rfl;refine Da rfl rfl ?_;unfold Af Oper.wp;go_simp
  exact⟨b0,b1,b2,b3,b4,b5,b6,true,b8,b9,true,x16,x17,x18,x19,x20,x15,x21,x22,x3,_,rfl,rfl,{hJ with v4:=λ_=>hv}⟩
 rintro _ _ wx ⟨b0,b1,b2,b3,b4,b5,b6,b7,b8,b9,b10,x16,x17,x18,x19,x20,x15,x21,x22,x3,x4,rfl,rfl,hJ⟩ hr;have e0:b0=true:=Wa hr 0 (by decide) (by simp[Region.binds]);subst e0;have e1:b1=true:=Wa hr 1 (by decide) (by simp[Region.binds]);subst e1;have e2:b2=true:=Wa hr 2 (by decide) (by simp[Region.binds]);subst e2;have e3:b3=true:=Wa hr 3 (by decide) (by simp[Region.binds]);subst e3;have e4:b4=true:=Wa hr 4 (by decide) (by simp[Region.binds]);subst e4;have e5:b5=true:=Wa hr 5 (by decide) (by simp[Region.binds]);subst e5;have e6:b6=true:=Wa hr 6 (by decide) (by simp[Region.binds]);subst e6;have e7:b7=true:=Wa hr 7 (by decide) (by simp[Region.binds]);subst e7;have e8:b8=true:=Wa hr 8 (by decide) (by simp[Region.binds]);subst e8;have e9:b9=true:=Wa hr 9 (by decide) (by simp[Region.binds]);subst e9;have e10:b10=true:=Wa hr 10 (by decide) (by simp[Region.binds]);subst e10;clear hr;obtain⟨g,b,A3,k3,c3,A4,k4,c4,rfl,q1,q2,q3⟩:=hJ.v3 rfl;obtain⟨hbe,r1,r2⟩:=q3 rfl;subst hbe;obtain⟨⟨b,l,l'⟩,er⟩:=R;dsimp only at r1 r2 HRT;obtain rfl:=hJ.v4 rfl;have hxb:=hJ.below;have hxs:=hxb.size;have hxw:=hWb.trans (hxb.mono (by omega));have hw0:=(hxb.block w.heap.size hWl).trans HW0.out;have hgl:=Pa q2;have i1:k3=l.length:=by obtain⟨_,_,e,_⟩:=r1;injection e
 have i2:k4=l'.length:=by obtain⟨_,_,e,_⟩:=r2;injection e
 subst i1 i2;have p0:wx.cell? ⟨g,0,none⟩=some (.bool b):=(cell_of_row wx g 0 _ _ _ q2).trans rfl;have p1:wx.cell? ⟨g,1,none⟩=some (.slice A3 l.length c3):=(cell_of_row wx g 1 _ _ _ q2).trans rfl;have p2:wx.cell? ⟨g,2,none⟩=some (.slice A4 l'.length c4):=(cell_of_row wx g 2 _ _ _ q2).trans rfl;have z0:wx.cell? ⟨w.heap.size,0,none⟩=some (.bool n):=(cell_of_row wx w.heap.size 0 _ _ _ hw0).trans rfl;have z1:wx.cell? ⟨w.heap.size,1,none⟩=some (.slice A t.length c):=(cell_of_row wx w.heap.size 1 _ _ _ hw0).trans rfl;have z2:wx.cell? ⟨w.heap.size,2,none⟩=some (.slice A' u.length c'):=(cell_of_row wx w.heap.size 2 _ _ _ hw0).trans rfl;have SM:Hid (Calls Tryz.prog 83 #[.agg #[.bool n,.slice A t.length c,.slice A' u.length c'],.agg #[.bool b,.slice A3 l.length c3,.slice A4 l'.length c4]] wx λe w'=>e= .returned (.bool (Hc n b t l u l'))/\Below wx.heap.size wx w'):=Qd (by
  obtain⟨_,_,e,y1,y2,y3,y4⟩:=HR1.out;injection e with e1 e2 e3
  subst e1 e3;obtain⟨_,_,e,y5,y6,y7,y8⟩:=HR2.out;injection e with e1 e2 e3
  subst e1 e3;obtain⟨_,_,e,x1,x2,x3,x4⟩:=r1;injection e with e1 e2 e3
  subst e1 e3;obtain⟨_,_,e,x5,x6,x7,x8⟩:=r2;injection e with e1 e2 e3
  subst e1 e3;exact Oi n b t l u l' A A' A3 A4 c c' c3 c4 wx wx.heap.size ((y4.below hxw).more hxw.size) x4 ((y8.below hxw).more hxw.size) x8 Lr (by omega) (by omega) (by omega) (by omega))
 generalize Hc n b t l u l'=SN at SM HRT;clear hJ q2 q3 r1 r2 hw0;unfold Af;cases he:(er==0)
 ·rw[he] at HRT
  go_wp2_with fail
  go_ret;exact⟨Aa (by rw[HRT.out];rfl),hxw⟩
 rw[he] at HRT;go_wp2_with fail
 refine SM.out.mono ?_;rintro e w2 ⟨rfl,hb2⟩;go_wp2_with fail
 go_ret;exact⟨Aa (by rw[HRT.out];rfl),hxw.trans (hb2.mono hxw.size)⟩
end
section
open Go.RowKit Ar
theorem Eh {α:Type}{l:List α}(h:l.length=0):l.isEmpty=true:=by rw[List.eq_nil_of_length_eq_zero h];rfl
theorem Ie {α:Type}{l:List α}(h:l.length≠0):l.isEmpty=false:=by
 cases l
 ·exact absurd rfl h
 rfl
theorem Ew {S:Nat}{sh:List Int}{cells:List Ha}(h:sh.length≠0):Cc (.mk S sh cells)=false:=by
 have h0:=Ie h;unfold Cc
 split
 ·rename_i e;injection e with e1 e2 e3;subst e2;rw[h0];rfl
 rfl
theorem Ks {S:Nat}{sh:List Int}{cells:List Ha}(h:cells.length≠1):Cc (.mk S sh cells)=false:=by
 unfold Cc
 split
 ·rename_i e;injection e with e1 e2 e3;subst e3;exact absurd rfl h
 rfl
theorem Ls {S L:Nat}{sh:List Int}{cells:List Ha}{k:Int}{n:Bool}{t b:List Nat}{c:Int}{ins:List Ba}(h0:sh.length=0)(h1:cells.length=1)(h:cells[0]'(by omega)= .mk L k n t b c ins):Cc (.mk S sh cells)=(k !=2):=by
 cases cells with
 |nil=>cases h1
 |cons x r=>
  cases r with
  |cons y s=>simp at h1
  |nil=>
   simp at h;subst h;show(sh.isEmpty&&(k !=2))=_;rw[Eh h0];rfl
theorem Q6 (n:Bool)(t b:List Nat)(A A':Option Addr)(c c':Nat)(w:World)(k1:t.length<=9223372036854775807)(k2:b.length<=9223372036854775807):
 Calls Tryz.prog 76 #[.agg #[.bool n,.slice A t.length c,.slice A' b.length c']] w λe w'=>e= .returned (.bool (Be n t b))/\Below w.heap.size w w':=by
 have HR:Hid (Be n t b=(!n&&t.isEmpty&&b.isEmpty)):=Qd rfl;generalize Be n t b=R at*;have HT0:=Qd (λh=>Eh (l:=t) h);have HT1:=Qd (λh=>Ie (l:=t) h);have HB0:=Qd (λh=>Eh (l:=b) h);have HB1:=Qd (λh=>Ie (l:=b) h);generalize t.isEmpty=x at*;generalize b.isEmpty=y at*;generalize t.length=l1 at*;generalize b.length=l2 at*;cases n
 ·by_cases ht:l1=0
  ·have q1:((l1:Int)==0)=true:=beq_iff_eq.2 (by omega)
   have HT:=Qd (HT0.out ht);clear ht HT0 HT1;by_cases hb:l2=0
   ·have q2:((l2:Int)==0)=true:=beq_iff_eq.2 (by omega)
    have HB:=Qd (HB0.out hb);clear hb HB0 HB1;go_enter Tryz.func76,Tryz.ntmps76
    go_wp2_with fail
    go_ret;exact⟨Aa (by rw[HR.out,HT.out,HB.out];rfl),Br.alloc Lr _⟩
   have q2:((l2:Int)==0)=false:=beq_eq_false_iff_ne.2 (by omega);have HB:=Qd (HB1.out hb);clear hb HB0 HB1;go_enter Tryz.func76,Tryz.ntmps76
   go_wp2_with fail
   go_ret;exact⟨Aa (by rw[HR.out,HT.out,HB.out];rfl),Br.alloc Lr _⟩
  have q1:((l1:Int)==0)=false:=beq_eq_false_iff_ne.2 (by omega);have HT:=Qd (HT1.out ht);clear ht HT0 HT1;go_enter Tryz.func76,Tryz.ntmps76
  go_wp2_with fail
  go_ret;exact⟨Aa (by rw[HR.out,HT.out];rfl),Br.alloc Lr _⟩
 go_enter Tryz.func76,Tryz.ntmps76
 go_wp2_with fail
 go_ret;exact⟨Aa (by rw[HR.out];rfl),Br.alloc Lr _⟩
theorem Zx (a:Ba)(vs:List Value)(w:World)(B:Nat)(h:IsArr w B a vs)(hB:B<=w.heap.size):
 Calls Tryz.prog 78 #[.agg vs.toArray] w λe w'=>e= .returned (.bool (Cc a))/\Below w.heap.size w w':=by
 obtain⟨S,shape,cells⟩:=a;rw[IsArr] at h;obtain⟨A,c,A',c',us,rfl,hS,hf,hf',hw,hl,hl',hcs⟩:=h;have hfl:=(hf'.le (by omega));have hfs:shape.length<=17592186044416:=by have h1:=hf.1;have h2:=hf.2;omega
 have H0:=Qd (λh=>Ew (S:=S) (sh:=shape) (cells:=cells) h);have H1:=Qd (λh=>Ks (S:=S) (sh:=shape) (cells:=cells) h);by_cases h0:shape.length=0
 ·have q1:((shape.length:Int)==0)=true:=beq_iff_eq.2 (by omega)
  by_cases h1:cells.length=1
  ·have q2:((cells.length:Int)==1)=true:=beq_iff_eq.2 (by omega)
   obtain⟨b,off,L,kind,neg,top,bot,ch,ins,A1,c1,A2,c2,A3,c3,us3,rfl,hb,hL,HX,t1,t2,t3,t4,t5,t6,g0,g1,g2,g3,g4,g5,g6⟩:=Sd (k:=0) hcs hl' (wr:=w.alloc (.cells #[.int .u64 (S:Int),.slice A shape.length c,.slice A' cells.length c'] 43)) (λp hp=>((Below.refl w.heap.size w).alloc Lr _).cell (by omega)) (by omega);have HS:=Qd (Ls (S:=S) h0 h1 HX.out.eq);have hcl:(1:Int)<=(cells.length:Int):=by omega
   simp only[Nat.zero_mul,Nat.add_zero] at g1;clear HX H0 H1 h0 h1 hcs hl' hl hf hf' hw g0 g2 g3 g4 g5 g6;generalize Cc (.mk S shape cells)=R at*;generalize shape.length=z1 at*;generalize cells.length=z2 at*;go_enter Tryz.func78,Tryz.ntmps78
   go_wp2_with fail
   go_ret;exact⟨Aa (by rw[HS.out]),Br.alloc Lr _⟩
  have q2:((cells.length:Int)==1)=false:=beq_eq_false_iff_ne.2 (by omega);have HS:=Qd (H1.out h1);clear H0 H1 h0 h1 hcs hl' hl hf hf' hw;generalize Cc (.mk S shape cells)=R at*;generalize shape.length=z1 at*;generalize cells.length=z2 at*;go_enter Tryz.func78,Tryz.ntmps78
  go_wp2_with fail
  go_ret;exact⟨Aa (by rw[HS.out]),Br.alloc Lr _⟩
 have q1:((shape.length:Int)==0)=false:=beq_eq_false_iff_ne.2 (by omega);have HS:=Qd (H0.out h0);clear H0 H1 h0 hcs hl' hl hf hf' hw;generalize Cc (.mk S shape cells)=R at*;generalize shape.length=z1 at*;generalize cells.length=z2 at*;go_enter Tryz.func78,Tryz.ntmps78
 go_wp2_with fail
 go_ret;exact⟨Aa (by rw[HS.out]),Br.alloc Lr _⟩
end
section
open Go.RowKit Ar
theorem CelIn.is {w:World}{B:Nat}{ce:Ha}{L:Nat}{kind:Int}{neg:Bool}{top bot:List Nat}{ch:Int}{ins:List Ba}{A1 A2 A3:Option Addr}{c1 c2 c3:Nat}{us:List Value}(h:CelIn w B ce L kind neg top bot ch ins A1 A2 A3 c1 c2 c3 us)(hL:L<18446744073709551616):
 IsCel w B ce [.int .u64 (L:Int),.int .i64 kind,.bool neg,.slice A1 top.length c1,.slice A2 bot.length c2,.int .i64 ch,.slice A3 ins.length c3]:=by
 rw[h.eq,IsCel];exact⟨A1,c1,A2,c2,A3,c3,us,rfl,hL,h.ft,h.fb,h.fi,h.wk,h.wt,h.wb,h.lt,h.lb,h.li,h.arrs,h.nt,h.nb⟩
def Sz (n:Nat):Prop:=∀(a b:Ba) (vs vs':List Value) (lab:Bool) (w:World) (B:Nat),SizeOf.sizeOf a<n->IsArr w B a vs->IsArr w B b vs'->B<=w.heap.size->
 Calls Tryz.prog 52 #[.agg vs.toArray,.agg vs'.toArray,.bool lab] w λe w'=>e= .returned (.bool (same lab a b))/\Below w.heap.size w w'
theorem Yia {n:Nat}(ih:Sz n)(a b:Ba)(vs vs':List Value)(lab:Bool)(g:Nat)(w:World)(B:Nat)(ha:SizeOf.sizeOf a<n)(h:IsArr w B a vs)(h':IsArr w B b vs')(hB:B<=w.heap.size)(hg:g<w.heap.size)(hc:w.cell? ⟨g,0,none⟩=some (.bool lab)):
 Calls Tryz.prog 82 #[.agg vs.toArray,.agg vs'.toArray,.pointer (some ⟨g,0,none⟩)] w λe w'=>e= .returned (.bool (same lab a b))/\Below w.heap.size w w':=by
 obtain⟨S,X,xn,xc,Y,yn,yc,rfl⟩:=h.form;obtain⟨S',X',xn',xc',Y',yn',yc',rfl⟩:=h'.form;have hb0:∀o1 o2,Below w.heap.size w ((w.alloc o1).alloc o2):=λo1 o2=>(Br.alloc Lr _).alloc (by simp) _;have IH:=Qd (λo1 o2=>ih a b _ _ lab ((w.alloc o1).alloc o2) B ha (h.below ((hb0 _ _).mono hB)) (h'.below ((hb0 _ _).mono hB)) (by simp;omega));have HB:=Qd hb0;clear hb0 h h' ih;generalize same lab a b=R at*;go_enter Tryz.func82,Tryz.ntmps82
 go_wp2_with fail
 refine(IH.out _ _).mono ?_;rintro e w2 ⟨rfl,hb2⟩;go_wp2_with fail
 go_ret;exact⟨rfl,(HB.out _ _).trans (hb2.mono (by simp;omega))⟩
theorem Ay (l l':List Ba)(us us':List Value)(A A':Option Addr)(c c':Nat)(lab:Bool)(g:Nat)(w:World)(B:Nat)(h:IsArrs w B l us)(h':IsArrs w B l' us')(hl:Lies w B A us)(hl':Lies w B A' us')(hB:B<=w.heap.size)
 (k1:l.length<=35184372088832) (k2:l'.length<=35184372088832)
 (hf:∀(k:Nat) (hk:k<l.length) (hk':k<l'.length) (u u':List Value) (wx:World),Below w.heap.size w wx->IsArr wx B l[k] u->IsArr wx B l'[k] u'->
  Calls Tryz.prog 82 #[.agg u.toArray,.agg u'.toArray,.pointer (some ⟨g,0,none⟩)] wx λe w'=>e= .returned (.bool (same lab l[k] l'[k]))/\Below wx.heap.size wx w'):
 Calls Tryz.prog 22 #[.slice A l.length c,.slice A' l'.length c',.func (.func 82) #[] #[.pointer (some ⟨g,0,none⟩)]] w λe w'=>e= .returned (.bool (Ca lab l l'))/\Below w.heap.size w w':=by
 have HS:=Qd h;have HS':=Qd h';have HL:=Qd hl;have HL':=Qd hl';have HF:=Qd hf;clear h h' hl hl' hf;by_cases hne:l.length=l'.length
 ·have hd:((l.length:Int)!=(l'.length:Int))=false:=by simp;omega
  have hln:l.length<=l'.length:=by omega
  have HN:=Qd hne;clear hne;go_enter Tryz.func22,Tryz.ntmps22
  go_wp2_with fail
  go_loopw [7,17] (λu i wr=>∃k:Nat,k<=l.length/\i= .int .i64 k/\Hid (Ca lab (l.drop k) (l'.drop k)=Ca lab l l')/\Below w.heap.size w wr) (λ_ i _=>l.length-(intOf i).toNat)
  case atStart=>exact⟨0,Nat.zero_le _,rfl,Qd rfl,Br⟩
  case round=>
   obtain⟨k,hk,rfl,HT,hbel⟩:=hrel;have hsz:=hbel.size;by_cases hlt:k<l.length
   ·have hlt':k<l'.length:=by omega
    obtain⟨b,off,S,X,xn,xc,Y,yn,yc,rfl,hb,HA,g0,g1,g2⟩:=Vb HS.out HL.out (wr:=wr) (λp hp=>hbel.cell (by omega)) hlt;obtain⟨b',off',S',X',xn',xc',Y',yn',yc',rfl,hb',HA',g0',g1',g2'⟩:=Vb HS'.out HL'.out (wr:=wr) (λp hp=>hbel.cell (by omega)) hlt';have hbw:b<wr.heap.size:=by omega
    have hbw':b'<wr.heap.size:=by omega
    have hST:Hid (Ca lab (l.drop k) (l'.drop k)=(same lab l[k] l'[k]&&Ca lab (l.drop (k+1)) (l'.drop (k+1)))):=Qd (Ef lab hlt hlt');have hb1:=(hbel.alloc (by omega) (Obj.cells #[.int .u64 (S:Int),.slice X xn xc,.slice Y yn yc] 43)).alloc (by simp;omega) (Obj.cells #[.int .u64 (S':Int),.slice X' xn' xc',.slice Y' yn' yc'] 43);have FC:=Qd (HF.out k hlt hlt' [.int .u64 (S:Int),.slice X xn xc,.slice Y yn yc] [.int .u64 (S':Int),.slice X' xn' xc',.slice Y' yn' yc'] _ hb1 (HA.out.below (hb1.mono hB)) (HA'.out.below (hb1.mono hB)));generalize same lab l[k] l'[k]=R at FC hST;go_wp2_with fail
    refine FC.out.mono ?_;rintro e w2 ⟨rfl,hb2⟩;have hb3:=hb1.trans (hb2.mono hb1.size);cases R
    ·have HZ:Hid (Ca lab l l'=false):=Qd (by rw[<-HT.out,hST.out];rfl)
     go_wp2_with fail
     go_ret;exact⟨Aa (by rw[HZ.out]),hb3⟩
    have HZ:Hid (Ca lab (l.drop (k+1)) (l'.drop (k+1))=Ca lab l l'):=Qd (by rw[<-HT.out,hST.out];rfl);go_wp2_with fail
    go_roundw
    case rel=>exact⟨k+1,by omega,by go_num,HZ,hb3⟩
    case measure=>simp[intOf];omega
   have hke:k=l.length:=by omega
   have HZ2:Hid (Ca lab l l'=true):=Qd (by rw[<-HT.out,hke,List.drop_length,HN.out,List.drop_length,Ca]);clear hke HT;go_wp2_with fail
   go_ret;exact⟨Aa (by rw[HZ2.out]),hbel⟩
 have hd:(l.length !=l'.length)=true:=by simpa using hne
 have HZ2:Hid (Ca lab l l'=false):=Qd (by
  cases e:Ca lab l l'
  ·rfl
  exact absurd (Me lab e) hne)
 clear hne;go_enter Tryz.func22,Tryz.ntmps22
 go_wp2_with fail
 go_ret;exact⟨Aa (by rw[HZ2.out]),Br⟩
theorem Cy (l l':List Ha)(us us':List Value)(A A':Option Addr)(c c':Nat)(lab:Bool)(g:Nat)(w:World)(B:Nat)(h:IsCels w B l us)(h':IsCels w B l' us')(hl:Lies w B A us)(hl':Lies w B A' us')(hB:B<=w.heap.size)
 (k1:l.length<=35184372088832) (k2:l'.length<=35184372088832)
 (hf:∀(k:Nat) (hk:k<l.length) (hk':k<l'.length) (u u':List Value) (wx:World),Below w.heap.size w wx->IsCel wx B l[k] u->IsCel wx B l'[k] u'->
  Calls Tryz.prog 80 #[.agg u.toArray,.agg u'.toArray,.pointer (some ⟨g,0,none⟩)] wx λe w'=>e= .returned (.bool (Kc lab l[k] l'[k]))/\Below wx.heap.size wx w'):
 Calls Tryz.prog 79 #[.slice A l.length c,.slice A' l'.length c',.func (.func 80) #[] #[.pointer (some ⟨g,0,none⟩)]] w λe w'=>e= .returned (.bool (La lab l l'))/\Below w.heap.size w w':=by
 have HS:=Qd h;have HS':=Qd h';have HL:=Qd hl;have HL':=Qd hl';have HF:=Qd hf;clear h h' hl hl' hf;by_cases hne:l.length=l'.length
 ·have hd:((l.length:Int)!=(l'.length:Int))=false:=by simp;omega
  have hln:l.length<=l'.length:=by omega
  have HN:=Qd hne;clear hne;go_enter Tryz.func79,Tryz.ntmps79
  go_wp2_with fail
  go_loopw [7,17] (λu i wr=>∃k:Nat,k<=l.length/\i= .int .i64 k/\Hid (La lab (l.drop k) (l'.drop k)=La lab l l')/\Below w.heap.size w wr) (λ_ i _=>l.length-(intOf i).toNat)
  case atStart=>exact⟨0,Nat.zero_le _,rfl,Qd rfl,Br⟩
  case round=>
   obtain⟨k,hk,rfl,HT,hbel⟩:=hrel;have hsz:=hbel.size;by_cases hlt:k<l.length
   ·have hlt':k<l'.length:=by omega
    obtain⟨b,off,L,kind,neg,top,bot,ch,ins,A1,c1,A2,c2,A3,c3,us3,rfl,hb,hL,HX,t1,t2,t3,t4,t5,t6,g0,g1,g2,g3,g4,g5,g6⟩:=Sd HS.out HL.out (wr:=wr) (λp hp=>hbel.cell (by omega)) hlt;obtain⟨b',off',L',kind',neg',top',bot',ch',ins',A1',c1',A2',c2',A3',c3',us3',rfl,hb',hL',HX',t1',t2',t3',t4',t5',t6',g0',g1',g2',g3',g4',g5',g6'⟩:=Sd HS'.out HL'.out (wr:=wr) (λp hp=>hbel.cell (by omega)) hlt';have hbw:b<wr.heap.size:=by omega
    have hbw':b'<wr.heap.size:=by omega
    have hST:Hid (La lab (l.drop k) (l'.drop k)=(Kc lab l[k] l'[k]&&La lab (l.drop (k+1)) (l'.drop (k+1)))):=Qd (Rl lab hlt hlt');have hb1:=(hbel.alloc (by omega) (Obj.cells #[.int .u64 (L:Int),.int .i64 kind,.bool neg,.slice A1 top.length c1,.slice A2 bot.length c2,.int .i64 ch,.slice A3 ins.length c3] 85)).alloc (by simp;omega) (Obj.cells #[.int .u64 (L':Int),.int .i64 kind',.bool neg',.slice A1' top'.length c1',.slice A2' bot'.length c2',.int .i64 ch',.slice A3' ins'.length c3'] 85);have FC:=Qd (HF.out k hlt hlt' [.int .u64 (L:Int),.int .i64 kind,.bool neg,.slice A1 top.length c1,.slice A2 bot.length c2,.int .i64 ch,.slice A3 ins.length c3] [.int .u64 (L':Int),.int .i64 kind',.bool neg',.slice A1' top'.length c1',.slice A2' bot'.length c2',.int .i64 ch',.slice A3' ins'.length c3'] _ hb1 ((HX.out.is hL).below (hb1.mono hB)) ((HX'.out.is hL').below (hb1.mono hB)));generalize Kc lab l[k] l'[k]=R at FC hST;go_wp2_with fail
    refine FC.out.mono ?_;rintro e w2 ⟨rfl,hb2⟩;have hb3:=hb1.trans (hb2.mono hb1.size);cases R
    ·have HZ:Hid (La lab l l'=false):=Qd (by rw[<-HT.out,hST.out];rfl)
     go_wp2_with fail
     go_ret;exact⟨Aa (by rw[HZ.out]),hb3⟩
    have HZ:Hid (La lab (l.drop (k+1)) (l'.drop (k+1))=La lab l l'):=Qd (by rw[<-HT.out,hST.out];rfl);go_wp2_with fail
    go_roundw
    case rel=>exact⟨k+1,by omega,by go_num,HZ,hb3⟩
    case measure=>simp[intOf];omega
   have hke:k=l.length:=by omega
   have HZ2:Hid (La lab l l'=true):=Qd (by rw[<-HT.out,hke,List.drop_length,HN.out,List.drop_length,La]);clear hke HT;go_wp2_with fail
   go_ret;exact⟨Aa (by rw[HZ2.out]),hbel⟩
 have hd:(l.length !=l'.length)=true:=by simpa using hne
 have HZ2:Hid (La lab l l'=false):=Qd (by
  cases e:La lab l l'
  ·rfl
  exact absurd (Hi lab e) hne)
 clear hne;go_enter Tryz.func79,Tryz.ntmps79
 go_wp2_with fail
 go_ret;exact⟨Aa (by rw[HZ2.out]),Br⟩
end
section
open Go.RowKit Ar
def Qo (n:Nat):Prop:=∀(a:Ba) (vs:List Value) (d:Nat) (w:World) (B:Nat),SizeOf.sizeOf a<n->IsArr w B a vs->B<=w.heap.size->d<=100->
 Calls Tryz.prog 20 #[.agg vs.toArray,.int .i64 (d:Int)] w λe w'=>e= .returned (.bool (Ka d a))/\Below w.heap.size w w'
theorem Ms {d L:Nat}{n:Bool}{t b:List Nat}{c:Int}{ins:List Ba}:Oa d (.mk L 0 n t b c ins)=((c==0)&&ins.isEmpty&&Rt.right ⟨n,t,b⟩):=by rw[Oa,if_pos rfl]
theorem Ns {d L:Nat}{n:Bool}{t b:List Nat}{c:Int}{ins:List Ba}:Oa d (.mk L 1 n t b c ins)=(Be n t b&&ins.isEmpty&&Ae c):=by rw[Oa,if_neg (by decide),if_pos rfl]
theorem Ps {d L:Nat}{n:Bool}{t b:List Nat}{c:Int}{ins:List Ba}:Oa d (.mk L 2 n t b c ins)=(Be n t b&&(c==0)&&decide (0<d)&&Hb d ins):=by rw[Oa,if_neg (by decide),if_neg (by decide)];rfl
theorem Qs {d L:Nat}{k:Int}{n:Bool}{t b:List Nat}{c:Int}{ins:List Ba}(h0:k≠0)(h1:k≠1)(h2:(k==2)=false):Oa d (.mk L k n t b c ins)=false:=by rw[Oa,if_neg h0,if_neg h1,h2];rfl
theorem Wm {d:Nat}{ins:List Ba}(h:ins.length≠1):Hb d ins=false:=by
 match ins with
 | []=>rw[Hb];rintro a h;cases h
 | [a]=>exact absurd rfl h
 |a::b::r=>rw[Hb];rintro a h;cases h
theorem Xm {d:Nat}{ins:List Ba}(h:ins.length=1):Hb d ins=(!Cc (ins[0]'(by omega))&&Ka (d-1) (ins[0]'(by omega))):=by
 match ins with
 | []=>cases h
 | [a]=>rw[Hb];rfl
 |a::b::r=>simp at h
theorem Dy {n:Nat}(ih:Qo n)(x:Ha)(vs:List Value)(d:Nat)(w:World)(B:Nat)(hx:SizeOf.sizeOf x<n)(h:IsCel w B x vs)(hB:B<=w.heap.size)(hd:d<=100):
 Calls Tryz.prog 50 #[.agg vs.toArray,.int .i64 (d:Int)] w λe w'=>e= .returned (.bool (Oa d x))/\Below w.heap.size w w':=by
 obtain⟨L,kind,neg,top,bot,ch,ins⟩:=x;rw[IsCel] at h;obtain⟨A1,c1,A2,c2,A3,c3,us,rfl,hL,hf1,hf2,hf3,hw1,hw2,hw3,hl1,hl2,hl3,hins,hnt,hnb⟩:=h;obtain⟨W,hW⟩:∃W,W=w.alloc (.cells #[.int .u64 (L:Int),.int .i64 kind,.bool neg,.slice A1 top.length c1,.slice A2 bot.length c2,.int .i64 ch,.slice A3 ins.length c3] 85):=⟨_,rfl⟩;have hWs:W.heap.size=w.heap.size+1:=by rw[hW];simp
 have hWb:Below w.heap.size w W:=by rw[hW];exact Br.alloc Lr _
 have HQ5:Hid (W.cell? ⟨w.heap.size,5,none⟩=some (.int .i64 ch)):=Qd (by rw[hW];go_simp);have HQ6:Hid (W.cell? ⟨w.heap.size,6,none⟩=some (.slice A3 ins.length c3)):=Qd (by rw[hW];go_simp);have HW:=Qd hW;have hWl:w.heap.size<W.heap.size:=by omega
 have m1:top.length<=35184372088832:=by have h1:=hf1.1;have h2:=hf1.2;omega
 have m2:bot.length<=35184372088832:=by have h1:=hf2.1;have h2:=hf2.2;omega
 have m3:ins.length<=35184372088832:=by have h1:=hf3.1;have h2:=hf3.2;omega
 have hch: -9223372036854775808<=ch/\ch<=9223372036854775807:=hw1 ch (by simp);have ZR:=Qd (Q6 neg top bot A1 A2 c1 c2 W (by omega) (by omega));have MY:=Qd (λ(wx:World)=>P6 ch wx hch.1 hch.2);have RR:=Qd (Iaa neg A1 top c1 A2 bot c2 W ⟨A1,c1,rfl,hf1.1,hf1.2.2,hnt,(hl1.below (hWb.mono hB)).more (by omega)⟩ ⟨A2,c2,rfl,hf2.1,hf2.2.2,hnb,(hl2.below (hWb.mono hB)).more (by omega)⟩ hw2 hw3);have hsz0:∀a∈ins,SizeOf.sizeOf a<n:=λa ha=>by
  have h1:=List.sizeOf_lt_of_mem ha;simp only[Ha.mk.sizeOf_spec] at hx;omega
 have HS:=Qd hins;have HL:=Qd hl3;have HE0:=Qd (λh=>Eh (l:=ins) h);have HE1:=Qd (λh=>Ie (l:=ins) h);have R0:=Qd (Ms (d:=d) (L:=L) (n:=neg) (t:=top) (b:=bot) (c:=ch) (ins:=ins));have R1:=Qd (Ns (d:=d) (L:=L) (n:=neg) (t:=top) (b:=bot) (c:=ch) (ins:=ins));have R2:=Qd (Ps (d:=d) (L:=L) (n:=neg) (t:=top) (b:=bot) (c:=ch) (ins:=ins));have RX:=Qd (λh0 h1 h2=>Qs (d:=d) (L:=L) (k:=kind) (n:=neg) (t:=top) (b:=bot) (c:=ch) (ins:=ins) h0 h1 h2);have RI1:=Qd (λh=>Wm (d:=d) (ins:=ins) h);have RI2:=Qd (λh=>Xm (d:=d) (ins:=ins) h);clear hins hl1 hl2 hl3 hf1 hf2 hf3 hw1 hw2 hw3 hnt hnb hx hW hch;generalize top.length=l1 at*;generalize bot.length=l2 at*;generalize Rt.right ⟨neg,top,bot⟩=RT at*;generalize Be neg top bot=Z at*;generalize Ae ch=MB at*;generalize ins.isEmpty=IE at*;by_cases k0:kind=0
 ·subst k0
  have HR:=Qd R0.out;clear R0 R1 R2 RX RI1 RI2 ZR MY;generalize Oa d (.mk L 0 neg top bot ch ins)=R at*;cases q1:(ch==0)
  ·rw[q1] at HR
   go_enter Tryz.func50,Tryz.ntmps50
   go_wp2_with fail
   go_ret;exact⟨Aa (by rw[HR.out];rfl),by rw[HW.out] at hWb;exact hWb⟩
  rw[q1] at HR;by_cases h0:ins.length=0
  ·have q2:((ins.length:Int)==0)=true:=beq_iff_eq.2 (by omega)
   have HE:=Qd (HE0.out h0);clear h0 HE0 HE1;generalize ins.length=l3 at*;go_enter Tryz.func50,Tryz.ntmps50
   go_wp2_with fail
   rw[<-HW.out];refine RR.out.mono ?_;rintro e w2 ⟨rfl,hb2⟩;go_wp2_with fail
   go_ret;exact⟨Aa (by rw[HR.out,HE.out];simp),hWb.trans (hb2.mono (by omega))⟩
  have q2:((ins.length:Int)==0)=false:=beq_eq_false_iff_ne.2 (by omega);have HE:=Qd (HE1.out h0);clear h0 HE0 HE1;generalize ins.length=l3 at*;go_enter Tryz.func50,Tryz.ntmps50
  go_wp2_with fail
  go_ret;exact⟨Aa (by rw[HR.out,HE.out];simp),by rw[HW.out] at hWb;exact hWb⟩
 by_cases k1:kind=1
 ·subst k1
  have HR:=Qd R1.out;clear R0 R1 R2 RX RI1 RI2 RR k0;generalize Oa d (.mk L 1 neg top bot ch ins)=R at*;go_enter Tryz.func50,Tryz.ntmps50
  go_wp2_with fail
  rw[<-HW.out];refine ZR.out.mono ?_;rintro e w2 ⟨rfl,hb2⟩;have r5:w2.cell? ⟨w.heap.size,5,none⟩=some (.int .i64 ch):=(hb2.cell (p:=⟨w.heap.size,5,none⟩) hWl).trans HQ5.out;have r6:w2.cell? ⟨w.heap.size,6,none⟩=some (.slice A3 ins.length c3):=(hb2.cell (p:=⟨w.heap.size,6,none⟩) hWl).trans HQ6.out;cases Z
  ·go_wp2_with fail
   go_ret;exact⟨Aa (by rw[HR.out];rfl),hWb.trans (hb2.mono (by omega))⟩
  by_cases h0:ins.length=0
  ·have q2:((ins.length:Int)==0)=true:=beq_iff_eq.2 (by omega)
   have HE:=Qd (HE0.out h0);clear h0 HE0 HE1;generalize ins.length=l3 at*;go_wp2_with fail
   refine(MY.out _).mono ?_;rintro e w3 ⟨rfl,rfl⟩;go_wp2_with fail
   go_ret;exact⟨Aa (by rw[HR.out,HE.out];simp),hWb.trans (hb2.mono (by omega))⟩
  have q2:((ins.length:Int)==0)=false:=beq_eq_false_iff_ne.2 (by omega);have HE:=Qd (HE1.out h0);clear h0 HE0 HE1;generalize ins.length=l3 at*;go_wp2_with fail
  go_ret;exact⟨Aa (by rw[HR.out,HE.out];simp),hWb.trans (hb2.mono (by omega))⟩
 have p0:(kind==0)=false:=by simpa using k0
 have p1:(kind==1)=false:=by simpa using k1
 cases p2:(kind==2)
 ·have HR:=Qd (RX.out k0 k1 p2)
  clear R0 R1 R2 RX RI1 RI2 RR k0 k1;generalize Oa d (.mk L kind neg top bot ch ins)=R at*;go_enter Tryz.func50,Tryz.ntmps50
  go_wp2_with fail
  go_ret;exact⟨Aa (by rw[HR.out]),by rw[HW.out] at hWb;exact hWb⟩
 obtain rfl:kind=2:=by simpa using p2
 have HR:=Qd R2.out;clear R0 R1 R2 RX RR k0 k1 p0 p1 p2;generalize Oa d (.mk L 2 neg top bot ch ins)=R at*;go_enter Tryz.func50,Tryz.ntmps50
 go_wp2_with fail
 rw[<-HW.out];refine ZR.out.mono ?_;rintro e w2 ⟨rfl,hb2⟩;have r5:w2.cell? ⟨w.heap.size,5,none⟩=some (.int .i64 ch):=(hb2.cell (p:=⟨w.heap.size,5,none⟩) hWl).trans HQ5.out;have r6:w2.cell? ⟨w.heap.size,6,none⟩=some (.slice A3 ins.length c3):=(hb2.cell (p:=⟨w.heap.size,6,none⟩) hWl).trans HQ6.out;have hb3:=hWb.trans (hb2.mono (by omega));cases Z
 ·go_wp2_with fail
  go_ret;exact⟨Aa (by rw[HR.out];rfl),hb3⟩
 cases q1:(ch==0)
 ·rw[q1] at HR
  go_wp2_with fail
  go_ret;exact⟨Aa (by rw[HR.out];rfl),hb3⟩
 rw[q1] at HR;by_cases h1:ins.length=1
 ·have q2:((ins.length:Int)==1)=true:=beq_iff_eq.2 (by omega)
  obtain⟨a0,ha0⟩:∃a,a=ins[0]'(by omega):=⟨_,rfl⟩;have hi:=RI2.out h1;rw[<-ha0] at hi;have HI:=Qd hi;clear hi;by_cases h2:0<d
  ·have q3:decide ((0:Int)<(d:Int))=true:=decide_eq_true (by omega)
   have HD:Hid (decide (0<d)=true):=Qd (decide_eq_true h2);obtain⟨b,off,S,X,xn,xc,Y,yn,yc,rfl,hb,HA,g0,g1,g2⟩:=Vb (k:=0) HS.out HL.out (wr:=w2) (λp hp=>hb3.cell (by omega)) (by omega);simp only[Nat.zero_mul,Nat.add_zero] at g0 g1 g2;rw[<-ha0] at HA;have hsa:SizeOf.sizeOf a0<n:=by rw[ha0];exact hsz0 _ (List.getElem_mem _)
   have SP:=Qd (Zx a0 _ w2 B (HA.out.below (hb3.mono hB)) (by have:=hb3.size;omega));have HG:Hid (w2.cell? ⟨b,off,none⟩=some (.int .u64 (S:Int))/\w2.cell? ⟨b,off+1,none⟩=some (.slice X xn xc)/\w2.cell? ⟨b,off+2,none⟩=some (.slice Y yn yc)):=Qd ⟨g0,g1,g2⟩;have hcl:(1:Int)<=(ins.length:Int):=by omega
   have hbl:b<w2.heap.size:=by have:=hb3.size;omega
   have IH:=Qd (λ(wx:World) (hx:Below w2.heap.size w2 wx)=>ih a0 _ (d-1) wx B hsa (HA.out.below ((hb3.trans (hx.mono hb3.size)).mono hB)) (by have:=hb3.size;have:=hx.size;omega) (by omega));have hdd:((d-1:Nat):Int)=(d:Int)-1:=by omega
   rw[hdd] at IH;clear ha0;clear hdd h1 RI1 RI2 HE0 HE1;have q3':decide (0<d)=true:=decide_eq_true h2;generalize Cc a0=SB at*;generalize Ka (d-1) a0=RA at*;generalize Hb d ins=RI at*;generalize ins.length=l3 at*;go_wp2_with fail
   refine SP.out.mono ?_;rintro e w3 ⟨rfl,hb4⟩;have r6':w3.cell? ⟨w.heap.size,6,none⟩=some (.slice (some ⟨b,off,none⟩) l3 c3):=(hb4.cell (p:=⟨w.heap.size,6,none⟩) (show w.heap.size<_ by have:=hb2.size;omega)).trans r6;have g0':w3.cell? ⟨b,off,none⟩=some (.int .u64 (S:Int)):=(hb4.cell (p:=⟨b,off,none⟩) hbl).trans HG.out.1;have g1':w3.cell? ⟨b,off+1,none⟩=some (.slice X xn xc):=(hb4.cell (p:=⟨b,off+1,none⟩) hbl).trans HG.out.2.1;have g2':w3.cell? ⟨b,off+2,none⟩=some (.slice Y yn yc):=(hb4.cell (p:=⟨b,off+2,none⟩) hbl).trans HG.out.2.2;have hb5:=hb3.trans (hb4.mono hb3.size);clear r5 r6 g0 g1 g2;cases SB
   ·go_wp2_with fail
    refine(IH.out _ hb4).mono ?_;rintro e w4 ⟨rfl,hb6⟩;go_wp2_with fail
    go_ret;exact⟨Aa (by rw[HR.out,HD.out,HI.out];simp),hb5.trans (hb6.mono hb5.size)⟩
   go_wp2_with fail
   go_ret;exact⟨Aa (by rw[HR.out,HD.out,HI.out];simp),hb5⟩
  have q3:decide ((0:Int)<(d:Int))=false:=decide_eq_false (by omega);have HD:Hid (decide (0<d)=false):=Qd (decide_eq_false h2);have q3':decide (0<d)=false:=decide_eq_false h2;clear ha0 HI;clear h1 h2 RI1 RI2 HE0 HE1;generalize ins.length=l3 at*;go_wp2_with fail
  go_ret;exact⟨Aa (by rw[HR.out,HD.out];simp),hb3⟩
 have q2:((ins.length:Int)==1)=false:=beq_eq_false_iff_ne.2 (by omega);have HI:=Qd (RI1.out h1);clear h1 RI1 RI2 HE0 HE1;generalize ins.length=l3 at*;go_wp2_with fail
 go_ret;exact⟨Aa (by rw[HR.out,HI.out];simp),hb3⟩
theorem Fw {d S:Nat}{sh:List Int}{cells:List Ha}:Ka d (.mk S sh cells)=(((cnt sh).2==0)&&((cnt sh).1==(cells.length:Int))&&Sa d cells):=by rw[Ka]
theorem Jaa {n:Nat}(ih:Qo n):Qo (n+1):=by
 intro a vs d w B hx h hB hd;obtain⟨S,shape,cells⟩:=a;rw[IsArr] at h;obtain⟨A,c,A',c',us,rfl,hS,hf,hf',hw,hl,hl',hcs⟩:=h;obtain⟨W,hW⟩:∃W,W=w.alloc (.cells #[.int .u64 (S:Int),.slice A shape.length c,.slice A' cells.length c'] 43):=⟨_,rfl⟩;have hWs:W.heap.size=w.heap.size+1:=by rw[hW];simp
 have hWb:Below w.heap.size w W:=by rw[hW];exact Br.alloc Lr _
 have HQ2:Hid (W.cell? ⟨w.heap.size,2,none⟩=some (.slice A' cells.length c')):=Qd (by rw[hW];go_simp);have HW:=Qd hW;have hWl:w.heap.size<W.heap.size:=by omega
 have CT:=Qd (Qz shape A c W B (hl.below (hWb.mono hB)) (by have h1:=hf.1;have h2:=hf.2;omega));have HR:=Qd (Fw (d:=d) (S:=S) (sh:=shape) (cells:=cells));have hbd:=Nka shape;have hfl:=(hf'.le (by omega));have hsz0:∀a∈cells,SizeOf.sizeOf a<n:=λa ha=>by
  have h1:=List.sizeOf_lt_of_mem ha;simp only[Ba.mk.sizeOf_spec] at hx;omega
 have HC:=Qd hcs;have HL:=Qd hl';have CE:=Qd (λ(k:Nat) (hk:k<cells.length) (u:List Value) (wx:World) (hu:IsCel wx B cells[k] u) (hbx:B<=wx.heap.size)=>Dy ih cells[k] u d wx B (hsz0 _ (List.getElem_mem hk)) hu hbx hd);clear hcs hl' hl hf hf' hw hsz0 hx hW;generalize Ka d (.mk S shape cells)=R at*;generalize(cnt shape).1=N at*;generalize(cnt shape).2=E at*;generalize shape.length=l1 at*;have go1:∀(x:Bool),(E==0)=x->True:=λ_ _=>trivial;clear go1;cases q1:(E==0)
 ·rw[q1] at HR
  have q2:(E !=0)=true:=by simpa using q1
  go_enter Tryz.func20,Tryz.ntmps20
  go_wp2_with fail
  rw[<-HW.out];refine CT.out.mono ?_;rintro e w2 ⟨rfl,hb2⟩;go_wp2_with fail
  go_ret;exact⟨Aa (by rw[HR.out];rfl),hWb.trans (hb2.mono (by omega))⟩
 rw[q1] at HR;have q2:(E !=0)=false:=by simpa using q1
 by_cases hN:N=(cells.length:Int)
 ·subst hN
  have q3:((cells.length:Int)!=(cells.length:Int))=false:=by simp
  have HR2:Hid (R=Sa d cells):=Qd (by rw[HR.out];simp);clear HR;go_enter Tryz.func20,Tryz.ntmps20
  go_wp2_with fail
  rw[<-HW.out];refine CT.out.mono ?_;rintro e w2 ⟨rfl,hb2⟩;have r2:w2.cell? ⟨w.heap.size,2,none⟩=some (.slice A' cells.length c'):=(hb2.cell (p:=⟨w.heap.size,2,none⟩) hWl).trans HQ2.out;go_wp2_with fail
  clear r2;go_loopw [7] (λi wr=>∃k:Nat,k<=cells.length/\i= .int .i64 k/\Hid (Sa d (cells.drop k)=Sa d cells)/\Below W.heap.size W wr) (λi _=>cells.length-(intOf i).toNat)
  case atStart=>exact⟨0,Nat.zero_le _,rfl,Qd rfl,hb2⟩
  case round=>
   clear hb2;obtain⟨k,hk,rfl,HT,hbel⟩:=hrel;have hsz:=hbel.size;have hb0:=hWb.trans (hbel.mono (by omega));by_cases hlt:k<cells.length
   ·have r2:wr.cell? ⟨w.heap.size,2,none⟩=some (.slice A' cells.length c'):=(hbel.cell (p:=⟨w.heap.size,2,none⟩) hWl).trans HQ2.out
    obtain⟨b,off,L,kind,neg,top,bot,ch,ins,A1,c1,A2,c2,A3,c3,us3,rfl,hb,hL,HX,t1,t2,t3,t4,t5,t6,g0,g1,g2,g3,g4,g5,g6⟩:=Sd HC.out HL.out (wr:=wr) (λp hp=>hb0.cell (by omega)) hlt;have CK:=Qd (CE.out k hlt _ wr ((HX.out.is hL).below (hb0.mono hB)) (by omega));have HST:=Qd (Ek (d:=d) hlt);generalize Oa d cells[k]=RC at*;have hk0:(0:Int)<=(k:Int):=by omega
    have hk1:(k:Int)<(cells.length:Int):=by omega
    go_wp2_with fail
    refine CK.out.mono ?_;rintro e w3 ⟨rfl,hb3⟩;have hb4:=hbel.trans (hb3.mono hsz);clear r2 g0 g1 g2 g3 g4 g5 g6;cases RC
    ·have HZ:Hid (R=false):=Qd (by rw[HR2.out,<-HT.out,HST.out];rfl)
     go_wp2_with fail
     go_ret;exact⟨Aa (by rw[HZ.out]),hWb.trans (hb4.mono (by omega))⟩
    have HZ:Hid (Sa d (cells.drop (k+1))=Sa d cells):=Qd (by rw[<-HT.out,HST.out];rfl);go_wp2_with fail
    go_roundw
    case rel=>exact⟨k+1,by omega,by go_num,HZ,hb4⟩
    case measure=>simp[intOf];omega
   have HZ:Hid (R=true):=Qd (by rw[HR2.out,<-HT.out];exact Sl (by omega));go_wp2_with fail
   go_ret;exact⟨Aa (by rw[HZ.out]),hb0⟩
 have q3:(N !=(cells.length:Int))=true:=by simpa using hN
 have HR2:Hid (R=false):=Qd (by rw[HR.out,show(N==(cells.length:Int))=false by simpa using hN];rfl);clear hN HR;go_enter Tryz.func20,Tryz.ntmps20
 go_wp2_with fail
 rw[<-HW.out];refine CT.out.mono ?_;rintro e w2 ⟨rfl,hb2⟩;have r2:w2.cell? ⟨w.heap.size,2,none⟩=some (.slice A' cells.length c'):=(hb2.cell (p:=⟨w.heap.size,2,none⟩) hWl).trans HQ2.out;go_wp2_with fail
 go_ret;exact⟨Aa (by rw[HR2.out]),hWb.trans (hb2.mono (by omega))⟩
theorem Qi:∀n,Qo n
 | 0=>λa vs d w B h=>by omega
 |n+1=>Jaa (Qi n)
end
section
open Go.RowKit Ar
structure Ym where
 kind:Int
 port:Int
 frm:Nat
 to:Nat
 cls:Int
 v:Ba
def Aoa (r:Ym)(S':Nat)(X:Option Addr)(n c:Nat)(X':Option Addr)(n' c':Nat):List Value:=
 [.int .i64 r.kind,.int .i64 r.port,.int .u64 (r.frm:Int),.int .u64 (r.to:Int),.int .i64 r.cls,.int .u64 (S':Int),.slice X n c,.slice X' n' c']
def IsRec (w:World)(B:Nat)(r:Ym)(vs:List Value):Prop:=
 ∃S' X n c X' n' c',vs=Aoa r S' X n c X' n' c'/\IsArr w B r.v [.int .u64 (S':Int),.slice X n c,.slice X' n' c']/\r.frm<18446744073709551616/\r.to<18446744073709551616/\Xa [r.kind,r.port,r.cls]
def IsRecs (w:World)(B:Nat):List Ym->List Value->Prop
 | [],vs=>vs=[]
 |c::r,vs=>∃u t,vs=u++t/\IsRec w B c u/\IsRecs w B r t
theorem IsRec.len {w:World}{B:Nat}{r:Ym}{vs:List Value}(h:IsRec w B r vs):vs.length=8:=by
 obtain⟨_,_,_,_,_,_,_,rfl,_⟩:=h;rfl
theorem IsRec.keep {w w':World}{B B':Nat}(hk:∀p:Addr,p.block<B->w'.cell? p=w.cell? p)(hB:B<=B'){r:Ym}{vs:List Value}(h:IsRec w B r vs):IsRec w' B' r vs:=by
 obtain⟨S',X,n,c,X',n',c',h1,h2,h3⟩:=h;exact⟨S',X,n,c,X',n',c',h1,IsArr.keep hk hB _ _ h2,h3⟩
theorem IsRecs.keep {w w':World}{B B':Nat}(hk:∀p:Addr,p.block<B->w'.cell? p=w.cell? p)(hB:B<=B'):∀{rs:List Ym} {vs:List Value},IsRecs w B rs vs->IsRecs w' B' rs vs
 | [],_,h=>h
 |_::_,_,⟨u,t,h1,h2,h3⟩=>⟨u,t,h1,h2.keep hk hB,h3.keep hk hB⟩
theorem IsRecs.below {w w':World}{B:Nat}{rs:List Ym}{vs:List Value}(h:IsRecs w B rs vs)(hb:Below B w w'):IsRecs w' B rs vs:=h.keep (λ_ hp=>hb.cell hp) Lr
theorem IsRecs.len {w:World}{B:Nat}:∀{rs:List Ym} {vs:List Value} (h:IsRecs w B rs vs),vs.length=8*rs.length
 | [],_,h=>by rw[IsRecs] at h;subst h;rfl
 |c::r,vs,h=>by
  rw[IsRecs] at h;obtain⟨u,t,rfl,h2,h3⟩:=h;rw[List.length_append,h2.len,h3.len,List.length_cons];omega
theorem IsRecs.at_ {w:World}{B:Nat}:∀{rs:List Ym} {vs:List Value} (h:IsRecs w B rs vs) {k:Nat} (hk:k<rs.length),∃u,IsRec w B rs[k] u/\u=(vs.drop (8*k)).take 8
 | [],_,_,_,hk=>by simp at hk
 |c::r,vs,h,0,_=>by
  rw[IsRecs] at h;obtain⟨u,t,rfl,h2,h3⟩:=h;exact⟨u,h2,by simp[h2.len]⟩
 |c::r,vs,h,k+1,hk=>by
  rw[IsRecs] at h;obtain⟨u,t,rfl,h2,h3⟩:=h;obtain⟨u',h4,h5⟩:=h3.at_ (k:=k) (by simpa using hk);refine⟨u',h4,h5.trans ?_⟩;rw[show 8*(k+1)=u.length+8*k by rw[h2.len];omega,List.drop_append,List.drop_eq_nil_of_le (Nat.le_add_right _ _),Nat.add_sub_cancel_left,List.nil_append]
theorem IsRecs.snoc {w:World}{B:Nat}:∀{cs:List Ym} {vs:List Value} (h:IsRecs w B cs vs) {c:Ym} {u:List Value} (hc:IsRec w B c u),IsRecs w B (cs++[c]) (vs++u)
 | [],vs,h,c,u,hc=>by
  rw[IsRecs] at h;subst h;exact⟨u,[],by simp,hc,rfl⟩
 |x::r,vs,h,c,u,hc=>by
  rw[IsRecs] at h;obtain⟨u',t,rfl,h2,h3⟩:=h;exact⟨u',t++u,by simp,h2,h3.snoc hc⟩
structure Wb where
 clear:Nat->Nat
 label:Nat->Nat
 ins:Nat->List Ba
 draws:Nat->List Int
 auth:Nat
 fuel:Int
 quota:Int
 depth:Int
structure IsCfg (w:World) (B:Nat) (c:Wb) (C:Array Value):Prop where
 size:C.size=36
 clear:∀k,k<8->C[k]? =some (.int .u64 (c.clear k:Int))/\c.clear k<18446744073709551616
 ins:∀k,k<8->∃A cp us,C[8+k]? =some (.slice A (c.ins k).length cp)/\Fits (c.ins k).length cp 56/\Lies w B A us/\IsArrs w B (c.ins k) us
 label:∀k,k<8->C[16+k]? =some (.int .u64 (c.label k:Int))/\c.label k<18446744073709551616
 draws:∀k,k<8->∃A cp,C[24+k]? =some (.slice A (c.draws k).length cp)/\Fits (c.draws k).length cp 8/\Xa (c.draws k)/\Lies w B A (Ya (c.draws k))
 auth:C[32]? =some (.int .u64 (c.auth:Int))
 authLt:c.auth<18446744073709551616
 fuel:C[33]? =some (.int .i64 c.fuel)
 quota:C[34]? =some (.int .i64 c.quota)
 depth:C[35]? =some (.int .i64 c.depth)
 wf:Xa [c.fuel,c.quota,c.depth]
theorem IsCfg.keep {w w':World}{B B':Nat}{c:Wb}{C:Array Value}(h:IsCfg w B c C)(hk:∀p:Addr,p.block<B->w'.cell? p=w.cell? p)(hB:B<=B'):IsCfg w' B' c C:=
 { h with
   ins:=λk hk8=>by
    obtain⟨A,cp,us,h1,h2,h3,h4⟩:=h.ins k hk8;exact⟨A,cp,us,h1,h2,(h3.keep hk).more hB,IsArrs.keep hk hB _ _ h4⟩
   draws:=λk hk8=>by
    obtain⟨A,cp,h1,h2,h3,h4⟩:=h.draws k hk8;exact⟨A,cp,h1,h2,h3,(h4.keep hk).more hB⟩}
theorem IsCfg.below {w w':World}{B:Nat}{c:Wb}{C:Array Value}(h:IsCfg w B c C)(hb:Below B w w'):IsCfg w' B c C:=h.keep (λ_ hp=>hb.cell hp) Lr
theorem IsCfg.one {w:World}{B:Nat}{c:Wb}{C:Array Value}(h:IsCfg w B c C):C.all (·.oneCell')=true:=by
 rw[Array.all_eq_true];intro i hi;have hs:=h.size;have hx:C[i]? =some C[i]:=by simp[hi]
 have key:∀v,C[i]? =some v->v.oneCell'=true->C[i].oneCell'=true:=λv hv ho=>by
  rw[hx] at hv;injection hv with hv;rw[hv];exact ho
 by_cases h1:i<8
 ·exact key _ (h.clear i h1).1 rfl
 by_cases h2:i<16
 ·obtain⟨A,cp,us,e,_⟩:=h.ins (i-8) (by omega)
  rw[show 8+(i-8)=i by omega] at e;exact key _ e rfl
 by_cases h3:i<24
 ·have e:=(h.label (i-16) (by omega)).1
  rw[show 16+(i-16)=i by omega] at e;exact key _ e rfl
 by_cases h4:i<32
 ·obtain⟨A,cp,e,_⟩:=h.draws (i-24) (by omega)
  rw[show 24+(i-24)=i by omega] at e;exact key _ e rfl
 rcases(show i=32\/i=33\/i=34\/i=35 by omega) with rfl |rfl |rfl |rfl
 ·exact key _ h.auth rfl
 ·exact key _ h.fuel rfl
 ·exact key _ h.quota rfl
 exact key _ h.depth rfl
end
end Go.Proofs.YtmiccalfamepdaaGreatDoor
