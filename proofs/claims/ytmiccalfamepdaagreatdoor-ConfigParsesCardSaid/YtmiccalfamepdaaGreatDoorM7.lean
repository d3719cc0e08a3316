/- Texts of this proof, joined. -/
import Derived.Test.YtmiccalfamepdaaGreatDoorM6
import Derived.Laws.StructEq
import Derived.Shelf.Spec.TrailingZeros
import Derived.Below
import Derived.Laws.AppendOwn
import Derived.Maps.AppendAt
set_option linter.all false
set_option maxHeartbeats 8000000
set_option maxRecDepth 100000
namespace Go.Proofs.YtmiccalfamepdaaGreatDoor
section
open Go.RowKit Ar
def Tz (l:List Nat):List Value:=l.map λn:Nat=>Value.int .u64 (n:Int)
theorem Xl:∀(xs ys:List Nat),xs.length=ys.length->((List.range xs.length).all λi=>xs.getD i 0==ys.getD i 0)=(xs==ys)
 | [],[],_=>rfl
 |x::xs,y::ys,h=>by
  have ih:=Xl xs ys (by simpa using h);rw[List.length_cons,List.range_succ_eq_map,List.all_cons,List.all_map];simp only[List.getD_cons_zero,Function.comp_def,List.getD_cons_succ,ih];simp[List.cons_beq_cons]
 | [],_::_,h=>by simp at h
 |_::_,[],h=>by simp at h
theorem Gj {P:Program}(w:World)(d:Nat)(t e:TypeId)(n:Nat)(ht:P.underlying t=some (.array n e))(he:P.underlying e=some (.int .u64))(hsz:∀w,(Go.sizeOf e).run P w= .ok 1 w)
 (xs ys:List Nat) (hx:xs.length=n) (hy:ys.length=n):
 (Op.equalIn (d+2) t (.agg (Tz xs).toArray) (.agg (Tz ys).toArray)).run P w= .ok (xs==ys) w:=by
 rw[<-Xl xs ys (hx.trans hy.symm),hx,List.range_eq_range',Op.equalIn];simp only[Sem.run_bind,run_underlying ht,Result.andThen_ok,hsz,Std.Legacy.Range.forIn_eq_forIn_range',Std.Legacy.Range.size,Nat.sub_zero,Nat.add_sub_cancel,Nat.div_one];have hl:∀i∈List.range' 0 n 1,i<n:=λi hi=>by simpa using (List.mem_range'_1.1 hi).2
 generalize List.range' 0 n 1=l at hl⊢
 induction l with
 |nil=>simp
 |cons i l ih=>
  have hi:i<n:=hl i (by simp);have px:(part e (Tz xs).toArray (i*1)).run P w= .ok (.int .u64 ((xs.getD i 0:Nat):Int)) w:=by
   simp[Tz,part,isAgg,run_underlying he,List.getD,List.getElem?_eq_getElem (show i<xs.length by omega)]
  have py:(part e (Tz ys).toArray (i*1)).run P w= .ok (.int .u64 ((ys.getD i 0:Nat):Int)) w:=by
   simp[Tz,part,isAgg,run_underlying he,List.getD,List.getElem?_eq_getElem (show i<ys.length by omega)]
  have pe:(Op.equalIn (d+1) e (.int .u64 ((xs.getD i 0:Nat):Int)) (.int .u64 ((ys.getD i 0:Nat):Int))).run P w= .ok (xs.getD i 0==ys.getD i 0) w:=by
   rw[run_equalIn_int w d e .u64 .u64 _ _ he]
   congr 1
   rw[Bool.eq_iff_iff];simp;omega
  simp only[List.forIn_cons,Sem.run_bind,px,py,pe,Result.andThen_ok,List.all_cons];cases hb:(xs.getD i 0==ys.getD i 0)
  ·simp
  simp only[Bool.not_true,Bool.false_eq_true,if_false,Sem.run_pure,Result.andThen_ok,Bool.true_and];exact ih λj hj=>hl j (by simp[hj])
def l8 (f:Nat->Nat):List Nat:=[f 0,f 1,f 2,f 3,f 4,f 5,f 6,f 7]
def Cd (a:Ba):Bool:=Ka 8 a&&(Wd a==0)
def Ri (c:Wb):Bool:=decide (0<=c.fuel)&&decide (c.fuel<=100000)&&(decide (0<=c.quota)&&decide (c.quota<=65536))&&(decide (0<=c.depth)&&decide (c.depth<=64))
def Cl (c:Wb)(k:Nat):Bool:=decide ((c.ins k).length<=200)&&decide ((c.draws k).length<=200)&&(c.ins k).all Cd
def Ec (c:Wb)(k:Nat):Bool:=((List.range 8).drop k).all (Cl c)
theorem Rs {c:Wb}{k:Nat}(h:k<8):Ec c k=(Cl c k&&Ec c (k+1)):=by
 unfold Ec;rw[List.drop_eq_getElem_cons (by simpa using h),List.all_cons];simp
theorem Gw {c:Wb}:Ec c 8=true:=by unfold Ec;rw[List.drop_eq_nil_of_le (by simp)];rfl
def Jb (c:Wb):Bool:=Ri c&&Ec c 0
theorem Uz {l:List Ba}{k:Nat}(h:k<l.length):(l.drop k).all Cd=((Ka 8 l[k]&&(Wd l[k]==0))&&(l.drop (k+1)).all Cd):=by
 rw[List.drop_eq_getElem_cons h,List.all_cons];rfl
theorem B8 {l:List Ba}{k:Nat}(h:l.length<=k):(l.drop k).all Cd=true:=by
 rw[List.drop_eq_nil_of_le h];rfl
def Kk (c d:Wb)(k:Nat):Bool:=Ca true (c.ins k) (d.ins k)&&(c.draws k==d.draws k)
def Bc (c d:Wb)(k:Nat):Bool:=((List.range 8).drop k).all (Kk c d)
theorem Ey {c d:Wb}{k:Nat}(h:k<8):Bc c d k=(Kk c d k&&Bc c d (k+1)):=by
 unfold Bc;rw[List.drop_eq_getElem_cons (by simpa using h),List.all_cons];simp
theorem Vz {c d:Wb}:Bc c d 8=true:=by unfold Bc;rw[List.drop_eq_nil_of_le (by simp)];rfl
def Xh (c d:Wb):Bool:=(l8 c.clear==l8 d.clear)&&(l8 c.label==l8 d.label)&&(c.auth==d.auth)&&((c.fuel==d.fuel)&&(c.quota==d.quota)&&(c.depth==d.depth))&&Bc c d 0
def Ee (c d:Wb)(k:Nat):Bool:=(c.clear k==d.clear k)&&(c.label k==d.label k)&&(c.draws k==d.draws k)&&Ca true (c.ins k) (d.ins k)
def Cb (c d:Wb)(k:Nat):Bool:=((List.range 8).drop k).all (Ee c d)
theorem Uu {c d:Wb}{k:Nat}(h:k<8):Cb c d k=(Ee c d k&&Cb c d (k+1)):=by
 unfold Cb;rw[List.drop_eq_getElem_cons (by simpa using h),List.all_cons];simp
theorem Fy {c d:Wb}:Cb c d 8=true:=by unfold Cb;rw[List.drop_eq_nil_of_le (by simp)];rfl
theorem Rp (c d:Wb):Xh c d=((c.auth==d.auth)&&(c.fuel==d.fuel)&&(c.quota==d.quota)&&(c.depth==d.depth)&&Cb c d 0):=by
 have e:∀p:Nat->Bool,((List.range 8).drop 0).all p=(p 0&&(p 1&&(p 2&&(p 3&&(p 4&&(p 5&&(p 6&&(p 7)))))))):=λp=>by simp[List.range,List.range.loop]
 rw[Bool.eq_iff_iff];unfold Xh Cb Bc;rw[e,e];simp only[Kk,Ee,Bool.and_eq_true,beq_iff_eq,l8,List.cons.injEq,and_true]
 constructor
 ·rintro⟨⟨⟨⟨⟨c0,c1,c2,c3,c4,c5,c6,c7⟩,l0,l1,l2,l3,l4,l5,l6,l7⟩,ha⟩,⟨hf,hq⟩,hd⟩,r0,r1,r2,r3,r4,r5,r6,r7⟩
  exact⟨⟨⟨⟨ha,hf⟩,hq⟩,hd⟩,⟨⟨⟨c0,l0⟩,r0.2⟩,r0.1⟩,⟨⟨⟨c1,l1⟩,r1.2⟩,r1.1⟩,⟨⟨⟨c2,l2⟩,r2.2⟩,r2.1⟩,⟨⟨⟨c3,l3⟩,r3.2⟩,r3.1⟩,⟨⟨⟨c4,l4⟩,r4.2⟩,r4.1⟩,⟨⟨⟨c5,l5⟩,r5.2⟩,r5.1⟩,⟨⟨⟨c6,l6⟩,r6.2⟩,r6.1⟩,⟨⟨⟨c7,l7⟩,r7.2⟩,r7.1⟩⟩
 rintro⟨⟨⟨⟨ha,hf⟩,hq⟩,hd⟩,h⟩;obtain⟨⟨⟨⟨c0,l0⟩,a0⟩,b0⟩,⟨⟨⟨c1,l1⟩,a1⟩,b1⟩,⟨⟨⟨c2,l2⟩,a2⟩,b2⟩,⟨⟨⟨c3,l3⟩,a3⟩,b3⟩,⟨⟨⟨c4,l4⟩,a4⟩,b4⟩,⟨⟨⟨c5,l5⟩,a5⟩,b5⟩,⟨⟨⟨c6,l6⟩,a6⟩,b6⟩,⟨⟨⟨c7,l7⟩,a7⟩,b7⟩⟩:=h;exact⟨⟨⟨⟨⟨c0,c1,c2,c3,c4,c5,c6,c7⟩,l0,l1,l2,l3,l4,l5,l6,l7⟩,ha⟩,⟨hf,hq⟩,hd⟩,⟨b0,a0⟩,⟨b1,a1⟩,⟨b2,a2⟩,⟨b3,a3⟩,⟨b4,a4⟩,⟨b5,a5⟩,⟨b6,a6⟩,⟨b7,a7⟩⟩
theorem Dl (c:Wb):Xh c c=true:=by
 have e:∀k,Ee c c k=true:=λk=>by simp[Ee,Nh]
 have e2:Cb c c 0=true:=by unfold Cb;rw[List.all_eq_true];exact λk _=>e k
 rw[Rp,e2];simp
structure Xka (w W:World) (B g:Nat) (cf df:Wb) (k:Nat) (A1 A2 A3 A4:Option Addr) (c1 c2 c3 c4:Nat) (us1 us2:List Value):Prop where
 c:∀wx,Below W.heap.size W wx->wx.cell? ⟨g,k,none⟩=some (.int .u64 (cf.clear k:Int))/\wx.cell? ⟨g+1,k,none⟩=some (.int .u64 (df.clear k:Int))
 l:∀wx,Below W.heap.size W wx->wx.cell? ⟨g,16+k,none⟩=some (.int .u64 (cf.label k:Int))/\wx.cell? ⟨g+1,16+k,none⟩=some (.int .u64 (df.label k:Int))
 i:∀wx,Below W.heap.size W wx->wx.cell? ⟨g,8+k,none⟩=some (.slice A1 (cf.ins k).length c1)/\wx.cell? ⟨g+1,8+k,none⟩=some (.slice A2 (df.ins k).length c2)
 d:∀wx,Below W.heap.size W wx->wx.cell? ⟨g,24+k,none⟩=some (.slice A3 (cf.draws k).length c3)/\wx.cell? ⟨g+1,24+k,none⟩=some (.slice A4 (df.draws k).length c4)
 li:Lies w B A1 us1/\IsArrs w B (cf.ins k) us1
 li':Lies w B A2 us2/\IsArrs w B (df.ins k) us2
 ld:Lies w B A3 (Ya (cf.draws k))
 ld':Lies w B A4 (Ya (df.draws k))
 b1:cf.clear k<18446744073709551616/\df.clear k<18446744073709551616
 b2:cf.label k<18446744073709551616/\df.label k<18446744073709551616
 f1:(cf.ins k).length<=35184372088832/\(df.ins k).length<=35184372088832
 f2:(cf.draws k).length<=35184372088832/\(df.draws k).length<=35184372088832
theorem C8 {w W:World}{B g:Nat}{cf df:Wb}{C D:Array Value}(hC:IsCfg w B cf C)(hD:IsCfg w B df D)(h0:W.heap[g]? =some (.cells C 29 (0,0)))(h1:W.heap[g+1]? =some (.cells D 29 (0,0)))(hg:g+1<W.heap.size){k:Nat}(hk:k<8):
 ∃A1 A2 A3 A4 c1 c2 c3 c4 us1 us2,Xka w W B g cf df k A1 A2 A3 A4 c1 c2 c3 c4 us1 us2:=by
 obtain⟨A1,c1,us1,i1,i2,i3,i4⟩:=hC.ins k hk;obtain⟨A2,c2,us2,j1,j2,j3,j4⟩:=hD.ins k hk;obtain⟨A3,c3,d1,d2,d3,d4⟩:=hC.draws k hk;obtain⟨A4,c4,e1,e2,e3,e4⟩:=hD.draws k hk;have q0:∀wx,Below W.heap.size W wx->∀i v,C[i]? =some v->wx.cell? ⟨g,i,none⟩=some v:=λwx hx i v hv=>(cell_of_row wx g i _ _ _ ((hx.block g (by omega)).trans h0)).trans hv;have q1:∀wx,Below W.heap.size W wx->∀i v,D[i]? =some v->wx.cell? ⟨g+1,i,none⟩=some v:=λwx hx i v hv=>(cell_of_row wx (g+1) i _ _ _ ((hx.block (g+1) (by omega)).trans h1)).trans hv;have b1:=i2.1;have b2:=i2.2.1;have b3:=j2.1;have b4:=j2.2.1;have b5:=d2.1;have b6:=d2.2.1;have b7:=e2.1;have b8:=e2.2.1;exact⟨A1,A2,A3,A4,c1,c2,c3,c4,us1,us2,{c:=λwx hx=>⟨q0 wx hx _ _ (hC.clear k hk).1,q1 wx hx _ _ (hD.clear k hk).1⟩,l:=λwx hx=>⟨q0 wx hx _ _ (hC.label k hk).1,q1 wx hx _ _ (hD.label k hk).1⟩,i:=λwx hx=>⟨q0 wx hx _ _ i1,q1 wx hx _ _ j1⟩,d:=λwx hx=>⟨q0 wx hx _ _ d1,q1 wx hx _ _ e1⟩,li:=⟨i3,i4⟩,li':=⟨j3,j4⟩,ld:=d4,ld':=e4,b1:=⟨(hC.clear k hk).2,(hD.clear k hk).2⟩,b2:=⟨(hC.label k hk).2,(hD.label k hk).2⟩,f1:=by omega,f2:=by omega}⟩
end
section
open Go.RowKit Ar
theorem Wz (n:Nat):∀(a:Ba) (vs:List Value) (w:World) (B:Nat),SizeOf.sizeOf a<n->IsArr w B a vs->B<=w.heap.size->
 Calls Tryz.prog 21 #[.agg vs.toArray] w λe w'=>e= .returned (.int .u64 (Wd a:Int))/\Below w.heap.size w w':=by
 induction n with
 |zero=>intro a vs w B h;omega
 |succ n ih=>
  intro a vs w B hn h hB;obtain⟨S,shape,cells⟩:=a;rw[IsArr] at h;obtain⟨A,c,A',c',us,rfl,hS,hf,hf',hw,hl,hl',hcs⟩:=h;have HC:=Qd hcs;have HL:=Qd hl';have hfl:=(hf'.le (by omega));have hn':SizeOf.sizeOf (Ba.mk S shape cells)<=n:=by omega
  have HN:=Qd hn';clear hcs hl' hl hf hw hn hn';obtain⟨W,hW⟩:∃W,W=w.alloc (.cells #[.int .u64 (S:Int),.slice A shape.length c,.slice A' cells.length c'] 43):=⟨_,rfl⟩;have hWs:W.heap.size=w.heap.size+1:=by rw[hW];simp
  have hWb:Below w.heap.size w W:=by rw[hW];exact Br.alloc Lr _
  have hWc:W.cell? ⟨w.heap.size,2,none⟩=some (.slice A' cells.length c'):=by rw[hW];simp[go_sem]
  have HW:=Qd hW;have HWs:=Qd hWs;have HWc:=Qd hWc;have hWl:w.heap.size<W.heap.size:=by omega
  go_enter Tryz.func21,Tryz.ntmps21
  clear hW hWs hWc;go_wp2_with fail
  rw[<-HW.out];go_loopw [3,4] (λx i wr=>∃k m:Nat,k<=cells.length/\i= .int .i64 k/\x= .int .u64 (m:Int)/\m<18446744073709551616/\Hid (Dd m (cells.drop k)=Wd (.mk S shape cells))/\Below W.heap.size W wr) (λ_ i _=>cells.length-(intOf i).toNat)
  case atStart=>exact⟨0,S,Nat.zero_le _,rfl,rfl,hS,Qd (by simp[Wd]),Br⟩
  case round=>
   obtain⟨k,m,hk,rfl,rfl,hm,HT,hbel⟩:=hrel;have hbox:wr.cell? ⟨w.heap.size,2,none⟩=some (.slice A' cells.length c'):=(hbel.cell (p:=⟨w.heap.size,2,none⟩) hWl).trans HWc.out;by_cases hlt:k<cells.length
   ·obtain⟨b,off,L,kind,neg,top,bot,ch,ins,A1,c1,A2,c2,A3,c3,us3,rfl,hb,hL,HX,t1,t2,t3,t4,t5,t6,g0,g1,g2,g3,g4,g5,g6⟩:=Sd HC.out HL.out (wr:=wr) (λp hp=>(hbel.cell (by omega)).trans (hWb.cell (by omega))) hlt
    have HG6:=Qd ((hbel.cell (p:=⟨b,off+k*7+6,none⟩) (show b<W.heap.size by omega)).symm.trans g6);clear g1 g2 g3 g4 g5 g6;go_wp2_with fail
    refine(Ze _ _ _ hm hL).mono ?_;rintro e w' ⟨rfl,rfl⟩;go_wp2_with fail
    have hjl:Lab.join m L<18446744073709551616:=Lab.join_lt hm hL;clear g0 hbox;obtain⟨wo,hwo⟩:∃wo:World,wo=wr:=⟨_,rfl⟩;rw[<-hwo] at hbel⊢;clear hwo;go_loopw [3,5] (λx j wr=>∃i m':Nat,i<=ins.length/\j= .int .i64 i/\x= .int .u64 (m':Int)/\m'<18446744073709551616/\Hid (Ed m' (ins.drop i)=Ah m cells[k])/\Below W.heap.size W wr) (λ_ j _=>ins.length-(intOf j).toNat)
    case atStart=>exact⟨0,_,Nat.zero_le _,rfl,rfl,hjl,Qd (by rw[HX.out.eq];rfl),hbel⟩
    case round=>
     clear hbel;obtain⟨i,m',hi,rfl,rfl,hm',HT',hbel⟩:=hrel;have hsz:=hbel.size;have hbox:wr.cell? ⟨w.heap.size,2,none⟩=some (.slice (some ⟨b,off,none⟩) cells.length c'):=(hbel.cell (p:=⟨w.heap.size,2,none⟩) hWl).trans HWc.out;have g6:wr.cell? ⟨b,off+k*7+6,none⟩=some (.slice A3 ins.length c3):=(hbel.cell (p:=⟨b,off+k*7+6,none⟩) (show b<W.heap.size by omega)).trans HG6.out;by_cases hlt':i<ins.length
     ·obtain⟨b',off',S',X,xn,xc,X',xn',xc',rfl,hb',HA,e0,e1,e2⟩:=Vb HX.out.arrs HX.out.li (wr:=wr) (λp hp=>(hbel.cell (by omega)).trans (hWb.cell (by omega))) hlt'
      have IH:=Qd (ih ins[i] [.int .u64 (S':Int),.slice X xn xc,.slice X' xn' xc'] wr B (by have:=Rq (S:=S) (shape:=shape) hlt HX.out.eq hlt';have:=HN.out;omega) (HA.out.below ((hWb.mono (by omega)).trans (hbel.mono (by omega)))) (by omega));go_wp2_with fail
      refine IH.out.mono ?_;rintro e w2 ⟨rfl,hb2⟩;have hb3:=hbel.trans (hb2.mono (by omega));have htl:Wd ins[i]<18446744073709551616:=Gz _ _ HA.out;go_wp2_with fail
      refine(Ze _ _ _ hm' htl).mono ?_;rintro e w' ⟨rfl,rfl⟩;go_wp2_with fail
      go_roundw
      case rel=>exact⟨i+1,Lab.join m' (Wd ins[i]),by omega,by go_num,rfl,Lab.join_lt hm' htl,Qd (by rw[<-HT'.out,Im hlt'];rfl),hb3⟩
      case measure=>simp[intOf];omega
     have hie:i=ins.length:=by omega
     have HT2:Hid (m'=Ah m cells[k]):=Qd (by have:=HT'.out;rw[hie,List.drop_length,Ed] at this;exact this);clear HT' hie;go_wp2_with fail
     go_roundw
     case rel=>exact⟨k+1,m',by omega,by go_num,rfl,hm',Qd (by rw[HT2.out,<-Hm hlt];exact HT.out),hbel⟩
     case measure=>simp[intOf];omega
   have hke:k=cells.length:=by omega
   have HT2:Hid (m=Wd (.mk S shape cells)):=Qd (by have:=HT.out;rw[hke,List.drop_length,Dd] at this;exact this);clear HT hke;go_wp2_with fail
   go_ret;exact⟨Gb (by rw[HT2.out]),hWb.trans (hbel.mono (by omega))⟩
end
end Go.Proofs.YtmiccalfamepdaaGreatDoor
namespace Ones
def cnt:Nat->Nat->Nat
 | 0,_=>0
 |n+1,x=>x%2+cnt n (x/2)
theorem Gga (x:Nat):cnt 0 x=0:=rfl
theorem cnt_le (n:Nat):∀x,cnt n x<=n:=by
 induction n with
 |zero=>intro x;simp[cnt]
 |succ n ih=>intro x;have:=ih (x/2);rw[cnt];omega
theorem Hga (n x:Nat):cnt (n+8) x=cnt 8 (x%256)+cnt n (x/256):=by
 have e:x/2/2/2/2/2/2/2/2=x/256:=by omega
 simp only[cnt,e];omega
def Je (c:Nat):Nat->Nat
 | 0=>0
 |n+1=>c+256*Je c n
def bytes (f:Nat->Nat):Nat->Nat->Nat
 | 0,_=>0
 |n+1,x=>f (x%256)+256*bytes f n (x/256)
theorem Fh (h l r c:Nat)(hl:l<256)(hc:c<256):(256*h+l)&&&(256*r+c)=256*(h&&&r)+(l&&&c):=by
 have hlc:l&&&c<2^8:=Nat.lt_of_le_of_lt Nat.and_le_left hl;apply Nat.eq_of_testBit_eq
 intro i;rw[Nat.testBit_and,show(256:Nat)=2^8 from rfl,Nat.testBit_two_pow_mul_add _ (show l<2^8 from hl),Nat.testBit_two_pow_mul_add _ (show c<2^8 from hc),Nat.testBit_two_pow_mul_add _ hlc]
 split<;>simp[Nat.testBit_and]
def f1 (b:Nat):Nat:=(b/2&&&0x55)+(b&&&0x55)
def f2 (b:Nat):Nat:=(b/4&&&0x33)+(b&&&0x33)
def f3 (b:Nat):Nat:=(b/16+b)%16
theorem b1:∀q,q<2->∀b,b<256->(128*q+b/2)&&&0x55=b/2&&&0x55:=by decide+kernel
theorem b2:∀q,q<4->∀b,b<256->(64*q+b/4)&&&0x33=b/4&&&0x33:=by decide+kernel
theorem lt1:∀b,b<256->f1 b<256:=by decide+kernel
theorem b3:∀b,b<256->f2 (f1 b)<69/\f2 (f1 b)%16<5/\f3 (f2 (f1 b))=cnt 8 b:=by decide+kernel
theorem Xma (n:Nat):∀x,(x/2&&&Je 0x55 n)+(x&&&Je 0x55 n)=bytes f1 n x:=by
 induction n with
 |zero=>intro x;simp[Je,bytes]
 |succ n ih=>
  intro x;have ex:x=256*(x/256)+x%256:=by omega
  have ex2:x/2=256*(x/256/2)+(128*(x/256%2)+x%256/2):=by omega
  have er:Je 0x55 (n+1)=256*Je 0x55 n+0x55:=by rw[Je];omega
  have h1:=Fh (x/256) (x%256) (Je 0x55 n) 0x55 (by omega) (by omega);have h2:=Fh (x/256/2) (128*(x/256%2)+x%256/2) (Je 0x55 n) 0x55 (by omega) (by omega);rw[<-ex2,<-er,b1 _ (by omega) _ (by omega)] at h2;rw[<-ex,<-er] at h1;rw[h1,h2,bytes,<-ih,f1];omega
theorem Yma (n:Nat):∀x,(x/4&&&Je 0x33 n)+(x&&&Je 0x33 n)=bytes f2 n x:=by
 induction n with
 |zero=>intro x;simp[Je,bytes]
 |succ n ih=>
  intro x;have ex:x=256*(x/256)+x%256:=by omega
  have ex2:x/4=256*(x/256/4)+(64*(x/256%4)+x%256/4):=by omega
  have er:Je 0x33 (n+1)=256*Je 0x33 n+0x33:=by rw[Je];omega
  have h1:=Fh (x/256) (x%256) (Je 0x33 n) 0x33 (by omega) (by omega);have h2:=Fh (x/256/4) (64*(x/256%4)+x%256/4) (Je 0x33 n) 0x33 (by omega) (by omega);rw[<-ex2,<-er,b2 _ (by omega) _ (by omega)] at h2;rw[<-ex,<-er] at h1;rw[h1,h2,bytes,<-ih,f2];omega
theorem S6 (f g:Nat->Nat)(hf:∀b,b<256->f b<256)(n:Nat):∀x,bytes g n (bytes f n x)=bytes (λb=>g (f b)) n x:=by
 induction n with
 |zero=>intro x;rfl
 |succ n ih=>
  intro x;have h:=hf (x%256) (by omega);rw[bytes,show bytes f (n+1) x%256=f (x%256) by rw[bytes];omega,show bytes f (n+1) x/256=bytes f n (x/256) by rw[bytes];omega,ih,bytes]
theorem Zma (n:Nat):∀x,(bytes (λb=>f2 (f1 b)) n x/16+bytes (λb=>f2 (f1 b)) n x)&&&Je 0x0f n=bytes (cnt 8) n x:=by
 induction n with
 |zero=>intro x;simp[Je,bytes]
 |succ n ih=>
  intro x;have hb:=b3 (x%256) (by omega);have hn:bytes (λb=>f2 (f1 b)) n (x/256)%16<5:=by
   cases n with
   |zero=>simp[bytes]
   |succ n=>
    have hb:=b3 (x/256%256) (by omega);rw[bytes];omega
  rw[bytes];have ih':=ih (x/256);generalize bytes (λb=>f2 (f1 b)) n (x/256)=Y at hn ih'⊢;generalize eg:f2 (f1 (x%256))=g at hb⊢;have er:Je 0x0f (n+1)=256*Je 0x0f n+0x0f:=by rw[Je];omega
  have ey:(g+256*Y)/16+(g+256*Y)=256*(Y/16+Y)+(16*(Y%16)+(g/16+g)):=by omega
  rw[er,ey,Fh _ _ _ _ (by omega) (by omega),ih',bytes,<-hb.2.2,f3];rw[show(16*(Y%16)+(g/16+g))&&&0x0f=(16*(Y%16)+(g/16+g))%16 from Nat.and_two_pow_sub_one_eq_mod _ 4];omega
def swar (x:Nat):Nat:=
 let x1:=(x/2&&&6148914691236517205)+(x&&&6148914691236517205)
 let x2:=(x1/4&&&3689348814741910323)+(x1&&&3689348814741910323)
 (x2/16+x2)&&&1085102592571150095
theorem Zia (x:Nat):swar x=bytes (cnt 8) 8 x:=by
 have r1:Je 0x55 8=6148914691236517205:=by decide
 have r2:Je 0x33 8=3689348814741910323:=by decide
 have r3:Je 0x0f 8=1085102592571150095:=by decide
 unfold swar;rw[<-r1,<-r2,<-r3];simp only[Xma,Yma,S6 f1 f2 lt1,Zma]
theorem Zd {m n:Nat}(h:m=n+8)(x:Nat):cnt m x=cnt 8 (x%256)+cnt n (x/256):=by subst h;exact Hga n x
attribute [local irreducible] cnt
theorem Ana (x:Nat):cnt 64 x=cnt 8 (x%256)+(cnt 8 (x/256%256)+(cnt 8 (x/256/256%256)+(cnt 8 (x/256/256/256%256)+(cnt 8 (x/256/256/256/256%256)+(cnt 8 (x/256/256/256/256/256%256)+(cnt 8 (x/256/256/256/256/256/256%256)+(cnt 8 (x/256/256/256/256/256/256/256%256)+0))))))):=by
 rw[Zd (m:=64) (n:=56) rfl,Zd (m:=56) (n:=48) rfl,Zd (m:=48) (n:=40) rfl,Zd (m:=40) (n:=32) rfl,Zd (m:=32) (n:=24) rfl,Zd (m:=24) (n:=16) rfl,Zd (m:=16) (n:=8) rfl];have h:=Zd (m:=8) (n:=0) rfl (x/256/256/256/256/256/256/256);rw[Gga] at h;rw[<-h]
theorem Xz {n a b m:Nat}(h:n=a+m*b)(ha:a<m):n/m=b:=by
 rw[h,Nat.add_mul_div_left _ _ (by omega),Nat.div_eq_of_lt ha,Nat.zero_add]
theorem Bna (c0 c1 c2 c3 c4 c5 c6 c7:Nat)(l0:c0<=8)(l1:c1<=8)(l2:c2<=8)(l3:c3<=8)(l4:c4<=8)(l5:c5<=8)(l6:c6<=8)(l7:c7<=8)(z:Nat)(hz:z=c0+256*c1+65536*c2+16777216*c3+4294967296*c4+1099511627776*c5+281474976710656*c6+72057594037927936*c7):
 z<18446744073709551616/\z+z/256=(c0+c1)+256*(c1+c2)+65536*(c2+c3)+16777216*(c3+c4)+4294967296*(c4+c5)+1099511627776*(c5+c6)+281474976710656*(c6+c7)+72057594037927936*c7:=by
 have k:z/256=c1+256*c2+65536*c3+16777216*c4+4294967296*c5+1099511627776*c6+281474976710656*c7:=Xz (a:=c0) (by clear l0 l1 l2 l3 l4 l5 l6 l7;omega) (by clear hz;omega);refine⟨by clear k;omega,?_⟩;rw[k,hz];clear k hz l0 l1 l2 l3 l4 l5 l6 l7;omega
theorem Cna (c0 c1 c2 c3 c4 c5 c6 c7:Nat)(l0:c0<=16)(l1:c1<=16)(l2:c2<=16)(l3:c3<=16)(l4:c4<=16)(l5:c5<=16)(l6:c6<=16)(l7:c7<=16)(z:Nat)(hz:z=c0+256*c1+65536*c2+16777216*c3+4294967296*c4+1099511627776*c5+281474976710656*c6+72057594037927936*c7):
 z<18446744073709551616/\z+z/65536=(c0+c2)+256*(c1+c3)+65536*(c2+c4)+16777216*(c3+c5)+4294967296*(c4+c6)+1099511627776*(c5+c7)+281474976710656*c6+72057594037927936*c7:=by
 have k:z/65536=c2+256*c3+65536*c4+16777216*c5+4294967296*c6+1099511627776*c7:=Xz (a:=c0+256*c1) (by clear l0 l1 l2 l3 l4 l5 l6 l7;omega) (by clear hz;omega);refine⟨by clear k;omega,?_⟩;rw[k,hz];clear k hz l0 l1 l2 l3 l4 l5 l6 l7;omega
theorem Dna (c0 c1 c2 c3 c4 c5 c6 c7:Nat)(l0:c0<=32)(l1:c1<=32)(l2:c2<=32)(l3:c3<=32)(l4:c4<=32)(l5:c5<=32)(l6:c6<=32)(l7:c7<=32)(z:Nat)(hz:z=c0+256*c1+65536*c2+16777216*c3+4294967296*c4+1099511627776*c5+281474976710656*c6+72057594037927936*c7):
 z<18446744073709551616/\z+z/4294967296=(c0+c4)+256*(c1+c5)+65536*(c2+c6)+16777216*(c3+c7)+4294967296*c4+1099511627776*c5+281474976710656*c6+72057594037927936*c7:=by
 have k:z/4294967296=c4+256*c5+65536*c6+16777216*c7:=Xz (a:=c0+256*c1+65536*c2+16777216*c3) (by clear l0 l1 l2 l3 l4 l5 l6 l7;omega) (by clear hz;omega);refine⟨by clear k;omega,?_⟩;rw[k,hz];clear k hz l0 l1 l2 l3 l4 l5 l6 l7;omega
theorem Ena (c0 c1 c2 c3 c4 c5 c6 c7:Nat)(l0:c0<=64)(l1:c1<=64)(l2:c2<=64)(l3:c3<=64)(l4:c4<=64)(l5:c5<=64)(l6:c6<=64)(l7:c7<=64)(z:Nat)(hz:z=c0+256*c1+65536*c2+16777216*c3+4294967296*c4+1099511627776*c5+281474976710656*c6+72057594037927936*c7):z<9223372036854775808/\z%128=c0:=by
 refine⟨by omega,?_⟩;have:z=c0+128*(2*c1+512*c2+131072*c3+33554432*c4+8589934592*c5+2199023255552*c6+562949953421312*c7):=by clear l0 l1 l2 l3 l4 l5 l6 l7;omega
 rw[this,Nat.add_mul_mod_self_left,Nat.mod_eq_of_lt (by clear hz this;omega)]
theorem Fna (c0 c1 c2 c3 c4 c5 c6 c7:Nat)(l0:c0<=8)(l1:c1<=8)(l2:c2<=8)(l3:c3<=8)(l4:c4<=8)(l5:c5<=8)(l6:c6<=8)(l7:c7<=8)(z:Nat)(hz:z=c0+256*c1+65536*c2+16777216*c3+4294967296*c4+1099511627776*c5+281474976710656*c6+72057594037927936*c7):
 z<18446744073709551616/\z+z/256<18446744073709551616/\(z+z/256)+(z+z/256)/65536<18446744073709551616/\
  ((z+z/256)+(z+z/256)/65536)+((z+z/256)+(z+z/256)/65536)/4294967296<9223372036854775808/\
  (((z+z/256)+(z+z/256)/65536)+((z+z/256)+(z+z/256)/65536)/4294967296)%128=c0+c1+c2+c3+c4+c5+c6+c7:=by
 obtain⟨a1,a2⟩:=Bna _ _ _ _ _ _ _ _ l0 l1 l2 l3 l4 l5 l6 l7 z hz;clear hz;refine⟨a1,?_⟩;generalize z+z/256=z1 at a2⊢;clear a1;obtain⟨b1,b2⟩:=Cna (c0+c1) (c1+c2) (c2+c3) (c3+c4) (c4+c5) (c5+c6) (c6+c7) c7 (by omega) (by omega) (by omega) (by omega) (by omega) (by omega) (by omega) (by omega) z1 a2;clear a2;refine⟨b1,?_⟩;generalize z1+z1/65536=z2 at b2⊢;clear b1;obtain⟨d1,d2⟩:=Dna ((c0+c1)+(c2+c3)) ((c1+c2)+(c3+c4)) ((c2+c3)+(c4+c5)) ((c3+c4)+(c5+c6)) ((c4+c5)+(c6+c7)) ((c5+c6)+c7) (c6+c7) c7 (by omega) (by omega) (by omega) (by omega) (by omega) (by omega) (by omega) (by omega) z2 b2;clear b2;refine⟨d1,?_⟩;generalize z2+z2/4294967296=z3 at d2⊢;clear d1;obtain⟨f1,f2⟩:=Ena (((c0+c1)+(c2+c3))+((c4+c5)+(c6+c7))) (((c1+c2)+(c3+c4))+((c5+c6)+c7)) (((c2+c3)+(c4+c5))+(c6+c7)) (((c3+c4)+(c5+c6))+c7) ((c4+c5)+(c6+c7)) ((c5+c6)+c7) (c6+c7) c7 (by omega) (by omega) (by omega) (by omega) (by omega) (by omega) (by omega) (by omega) z3 d2;clear d2;refine⟨f1,?_⟩;rw[f2];clear f1 f2;omega
theorem fold (x z:Nat)(hz:z=swar x):
 z<18446744073709551616/\z+z/256<18446744073709551616/\(z+z/256)+(z+z/256)/65536<18446744073709551616/\
  ((z+z/256)+(z+z/256)/65536)+((z+z/256)+(z+z/256)/65536)/4294967296<9223372036854775808/\
  (((z+z/256)+(z+z/256)/65536)+((z+z/256)+(z+z/256)/65536)/4294967296)%128=cnt 64 x:=by
 have:=Fna _ _ _ _ _ _ _ _ (cnt_le 8 (x%256)) (cnt_le 8 (x/256%256)) (cnt_le 8 (x/256/256%256)) (cnt_le 8 (x/256/256/256%256)) (cnt_le 8 (x/256/256/256/256%256)) (cnt_le 8 (x/256/256/256/256/256%256)) (cnt_le 8 (x/256/256/256/256/256/256%256)) (cnt_le 8 (x/256/256/256/256/256/256/256%256)) z
  (by
   rw[hz,Zia];simp only[bytes];generalize cnt 8 (x%256)=c0;generalize cnt 8 (x/256%256)=c1;generalize cnt 8 (x/256/256%256)=c2;generalize cnt 8 (x/256/256/256%256)=c3;generalize cnt 8 (x/256/256/256/256%256)=c4;generalize cnt 8 (x/256/256/256/256/256%256)=c5;generalize cnt 8 (x/256/256/256/256/256/256%256)=c6;generalize cnt 8 (x/256/256/256/256/256/256/256%256)=c7;omega)
 rw[Ana];refine⟨this.1,this.2.1,this.2.2.1,this.2.2.2.1,?_⟩;rw[this.2.2.2.2];simp only[Nat.add_assoc,Nat.add_zero]
end Ones
namespace Go.Proofs.YtmiccalfamepdaaGreatDoor
open Go.RowKit
def Yz (x:Int):Int:=IntKind.u64.wrap (bits .and .u64 (x/2) 6148914691236517205+bits .and .u64 x 6148914691236517205)
def Zz (x:Int):Int:=IntKind.u64.wrap (bits .and .u64 (x/4) 3689348814741910323+bits .and .u64 x 3689348814741910323)
def E0 (x:Int):Int:=bits .and .u64 (IntKind.u64.wrap (x/16+x)) 1085102592571150095
def Bda (x:Int):Int:=IntKind.u64.wrap (x+x/256)
def Cda (x:Int):Int:=IntKind.u64.wrap (x+x/65536)
def Dda (x:Int):Int:=IntKind.u64.wrap (x+x/4294967296)
theorem and_le_right (a m:Nat):a&&&m<=m:=Nat.and_le_right
theorem Kaa (x:Nat)(hx:x<18446744073709551616):Yz (x:Int)=(((x/2&&&6148914691236517205)+(x&&&6148914691236517205):Nat):Int):=by
 unfold Yz;have h1:=u64_and_nat (x/2) 6148914691236517205 (by omega) (by omega);have h2:=u64_and_nat x 6148914691236517205 (by omega) (by omega);have l1:=and_le_right (x/2) 6148914691236517205;have l2:=and_le_right x 6148914691236517205;rw[show((x:Int)/2)=((x/2:Nat):Int) from by omega,show(6148914691236517205:Int)=((6148914691236517205:Nat):Int) from rfl,h1,h2];generalize x/2&&&6148914691236517205=a at l1⊢;generalize x&&&6148914691236517205=b at l2⊢;rw[IntWalk.u64_in _ (by omega)];omega
theorem Laa (x:Nat)(hx:x<18446744073709551616):Zz (x:Int)=(((x/4&&&3689348814741910323)+(x&&&3689348814741910323):Nat):Int):=by
 unfold Zz;have h1:=u64_and_nat (x/4) 3689348814741910323 (by omega) (by omega);have h2:=u64_and_nat x 3689348814741910323 (by omega) (by omega);have l1:=and_le_right (x/4) 3689348814741910323;have l2:=and_le_right x 3689348814741910323;rw[show((x:Int)/4)=((x/4:Nat):Int) from by omega,show(3689348814741910323:Int)=((3689348814741910323:Nat):Int) from rfl,h1,h2];generalize x/4&&&3689348814741910323=a at l1⊢;generalize x&&&3689348814741910323=b at l2⊢;rw[IntWalk.u64_in _ (by omega)];omega
theorem Maa (x:Nat)(hx:x<9223372036854775808):E0 (x:Int)=((x/16+x&&&1085102592571150095:Nat):Int):=by
 unfold E0;rw[IntWalk.u64_in _ (by omega),show((x:Int)/16+x)=((x/16+x:Nat):Int) from by omega];exact u64_and_nat _ 1085102592571150095 (by omega) (by omega)
theorem Iga (x:Nat)(hx:x<18446744073709551616):bits .and .i64 (wrap64 (Dda (Cda (Bda (E0 (Zz (Yz (x:Int)))))))) 127=(Ones.cnt 64 x:Int):=by
 have hl1:(x/2&&&6148914691236517205)+(x&&&6148914691236517205)<18446744073709551616:=by
  have l1:=and_le_right (x/2) 6148914691236517205;have l2:=and_le_right x 6148914691236517205;omega
 rw[Kaa x hx];have e:(let x1:=(x/2&&&6148914691236517205)+(x&&&6148914691236517205)
  let x2:=(x1/4&&&3689348814741910323)+(x1&&&3689348814741910323)
  (x2/16+x2)&&&1085102592571150095)=Ones.swar x:=rfl
 revert e
 generalize(x/2&&&6148914691236517205)+(x&&&6148914691236517205)=y at hl1⊢;intro e;have hl2:(y/4&&&3689348814741910323)+(y&&&3689348814741910323)<9223372036854775808:=by
  have l1:=and_le_right (y/4) 3689348814741910323;have l2:=and_le_right y 3689348814741910323;omega
 rw[Laa y hl1]
 revert e
 simp only;generalize(y/4&&&3689348814741910323)+(y&&&3689348814741910323)=z at hl2⊢;intro e;rw[Maa z hl2];obtain⟨h1,h2,h3,h4,h5⟩:=Ones.fold x _ e;clear e;generalize(z/16+z)&&&1085102592571150095=t at h1 h2 h3 h4 h5⊢;unfold Bda Cda Dda;rw[IntWalk.u64_in ((t:Int)+t/256) (by omega),show((t:Int)+t/256)=((t+t/256:Nat):Int) from by omega];generalize t+t/256=a at h2 h3 h4 h5⊢;rw[IntWalk.u64_in ((a:Int)+a/65536) (by omega),show((a:Int)+a/65536)=((a+a/65536:Nat):Int) from by omega];generalize a+a/65536=b at h3 h4 h5⊢;rw[IntWalk.u64_in ((b:Int)+b/4294967296) (by omega),show((b:Int)+b/4294967296)=((b+b/4294967296:Nat):Int) from by omega];rw[<-h5];generalize b+b/4294967296=c at h4⊢;rw[IntWalk.wrap64_in _ ⟨by omega,by omega⟩];have hm:c%128<128:=Nat.mod_lt _ (by decide);show IntKind.i64.wrap ((BitVec.ofInt 64 (c:Int)&&&BitVec.ofInt 64 (127:Int)).toNat:Int)=_;rw[BitVec.toNat_and,BitVec.ofInt_natCast,BitVec.toNat_ofNat,Nat.mod_eq_of_lt (show c<2^64 by omega),show(BitVec.ofInt 64 (127:Int)).toNat=2^7-1 from by decide,Nat.and_two_pow_sub_one_eq_mod];generalize c%2^7=d at hm⊢;exact IntWalk.i64_in _ (by omega)
theorem Jga (x:Nat)(w:World)(hx:x<18446744073709551616):
 Calls Tryz.prog 116 #[.int .u64 (x:Int)] w λe w'=>e= .returned (.int .i64 (Ones.cnt 64 x:Int))/\w=w':=by
 have HL:=Qd (Iga x hx);go_enter Tryz.func116,Tryz.ntmps116
 go_wp2_with fail
 go_ret;exact⟨Gb HL.out,rfl⟩
theorem Kga (x:Nat)(w:World)(hx:x<18446744073709551616):
 Calls Tryz.prog 87 #[.int .u64 (x:Int)] w λe w'=>e= .returned (.int .i64 (Ones.cnt 64 x:Int))/\w=w':=by
 go_enter Tryz.func87,Tryz.ntmps87
 go_wp2_with (go_at_call 116;refine(Jga _ _ hx).mono ?_;rintro e w' ⟨rfl,rfl⟩)
 go_ret;exact⟨rfl,rfl⟩
def Tab64 (w:World):Prop:=TabAt 0 Lib.deBruijn64tab w
theorem Tab64.below {w w':World}{B:Nat}(h:Tab64 w)(hB:0<B)(hb:Below B w w'):Tab64 w':=λj hj=>(hb.cell (p:=⟨0,j,none⟩) hB).trans (h j hj)
theorem Aja (x k idx:Nat)(w:World)(hx0:((x:Int)==0)=false)
 (key:IntKind.u64.wrap (bits BinOp.and IntKind.u64 (x:Int) (IntKind.u64.wrap (-(x:Int)))*285870213051353865)/288230376151711744=(idx:Int))
 (hi:idx<64) (hk:k<64) (hcell:w.cell? ⟨0,idx,none⟩=some (.int .u8 k)):
 Calls Tryz.prog 88 #[.int .u64 x] w λe w'=>e= .returned (.int .i64 k)/\w=w':=by
 go_enter Tryz.func88,Tryz.ntmps88
 go_wp2_with (simp only[key])
 go_ret;exact⟨rfl,rfl⟩
theorem Yka (x:Nat)(hx:x<18446744073709551616)(h0:x≠0)(w:World)(hT:Tab64 w):
 Calls Tryz.prog 88 #[.int .u64 x] w λe w'=>e= .returned (.int .i64 (Lib.ctz 64 x))/\w=w':=by
 obtain⟨hlow,hk⟩:=Lib.lowest_bit 64 x h0 hx;obtain⟨hi,htab⟩:=Lib.deBruijn64_at _ hk;have hcell:=hT _ hi;rw[htab] at hcell;exact Aja x _ _ w (by simp;omega) (tz64_key x _ hx h0 hlow) hi hk hcell
theorem Lga {l:Nat}(hl:l<18446744073709551616)(h0:l≠0):Lab.tags l=Lib.ctz 64 l::Lab.tags (l&&&(l-1)):=by
 obtain⟨m,hm,hk⟩:=Lib.ctzFrom_spec 64 l (by omega) hl;have e:Lib.ctz 64 l=Lib.ctzFrom 64 l:=by simp[Lib.ctz,h0]
 rw[e];exact Lab.tags_step hm hk
theorem Mga:(Tryz.prog.info? 3).map (λi=>(i.zero,i.size,i.bytes))=some (some (.int .i64 0),1,8):=by kernel_rfl
theorem Nga (l:Nat)(w:World)(hl:l<18446744073709551616)(hT:Tab64 w)(hB:0<w.heap.size):
 Calls Tryz.prog 57 #[.int .u64 (l:Int)] w λe w'=>∃v,e= .returned v/\w'.ownsRow w.heap.size 3 1 v (Lab.tags l).length ((Lab.tags l).map λt:Nat=>Value.int .i64 (t:Int))/\Below w.heap.size w w':=by
 obtain⟨i0,hi,hz0,hz1,hz2⟩:=info_parts Mga;have hc:=Ones.cnt_le 64 l;have HT:=Qd hT;clear hT;go_enter Tryz.func57,Tryz.ntmps57
 go_wp2_with (first
  |(go_at_call 87;refine(Kga _ _ hl).mono ?_;rintro e w' ⟨rfl,rfl⟩)
  |(at_make;refine wpList_make_own _ rfl _ _ 26 rfl w.heap.size 3 i0 (.int .i64 0) 1 Tryz.underlying26 hi hz0 hz1 .i64 .i64 _ (Ones.cnt 64 l) rfl rfl rfl (by rw[hz2];omega) (by unfold maxLen;omega) Lr ?_;intro w0 hown0 hgrow0))
 have hbel0:Below w.heap.size w w0:=Br.grown hgrow0 Lr (by simp);clear hgrow0;go_loopw [0,3] (λx v wr=>∃(n:Nat) (done:List Nat),n<18446744073709551616/\x= .int .u64 (n:Int)/\Hid (done++Lab.tags n=Lab.tags l)/\
  wr.ownsRow w.heap.size 3 1 v done.length (done.map λt:Nat=>Value.int .i64 (t:Int))/\Below w.heap.size w wr) (λx _ _=>(intOf x).toNat)
 case atStart=>exact⟨l,[],hl,rfl,Qd rfl,hown0,hbel0⟩
 case round=>
  clear hown0 hbel0;obtain⟨n,done,hn,rfl,H,hown,hbel⟩:=hrel;by_cases h0:n=0
  ·subst h0
   go_wp2_with fail
   go_ret;refine⟨_,rfl,?_,hbel⟩;have:=H.out;rw[Lab.tags_zero,List.append_nil] at this;rw[<-this];exact hown
  have hne:(((n:Nat):Int)!=0)=true:=by simp;omega
  have hpos:1<=n:=by omega
  have HC:=Qd (Lga hn h0);have HD:Hid (done.length+1<=64):=by
   have h1:=Lab.tags_len l;rw[<-H.out,HC.out,List.length_append,List.length_cons] at h1;exact Nat.le_trans (by omega) h1
  have hd:=HD.out;have hsz:=hbel.size;have hTr:Tab64 w:=HT.out;have HTr:=Qd (hTr.below hB hbel);clear hTr;go_wp2_with (first
   |(go_at_call 88;refine(Yka _ hn h0 _ HTr.out).mono ?_;rintro e w' ⟨rfl,rfl⟩)
   |(at_builtin;refine wpList_append_own _ rfl _ _ 26 rfl w.heap.size 3 i0 (.int .i64 0) 1 8 Tryz.underlying26 hi hz0 hz1 hz2 rfl (by decide) _ _ _ rfl (hown.alloc _) ⟨wr.heap.size,0,none⟩ 1 1 [.int .i64 (Lib.ctz 64 n:Int)] rfl rfl (cell_one_new _ _ _) (by intro u hu;simp only[List.mem_singleton] at hu;subst hu;rfl) (by unfold maxLen;omega) (by omega) (by simp;omega) ?_;intro v1 w1 hown1 hgrow1 hnn1))
  have hbel1:Below w.heap.size w w1:=(hbel.alloc hsz _).grown hgrow1 (by simp;omega) (λk hk=>(hown.lt k hk).1);clear hown hgrow1 hnn1;have hand:bits BinOp.and IntKind.u64 (↑n) (↑n-1)=((n&&&(n-1):Nat):Int):=by
   rw[show((n:Int)-1)=((n-1:Nat):Int) from by omega];exact u64_and_nat n (n-1) hn (by omega)
  have hlt:=Lab.and_pred_lt h0;go_roundw
  case rel=>
   refine⟨n&&&(n-1),done++[Lib.ctz 64 n],by omega,congrArg (Value.int .u64) hand,Qd ?_,?_,hbel1⟩
   ·rw[List.append_assoc,List.singleton_append,<-HC.out];exact H.out
   simpa using hown1
  case measure=>
   rw[hand];simp only[intOf,Int.toNat_natCast];exact hlt
theorem Hw {s:List UInt8}{k:Nat}(hl:k<=Dg.lead s)(h:k<s.length)(hd:Dg.dB s[k]=true):k+1<=Dg.lead s:=by
 rcases Nat.lt_or_ge k (Dg.lead s) with h1 |h1
 ·omega
 have e:Dg.lead s=k:=by omega
 have:=Dg.lead_not (s:=s) (by omega);simp only[e] at this;rw[hd] at this;cases this
theorem Iw {s:List UInt8}{k:Nat}(hl:k<=Dg.lead s)(h:k<s.length)(hd:Dg.dB s[k]=false):Dg.lead s=k:=by
 rcases Nat.lt_or_ge k (Dg.lead s) with h1 |h1
 ·obtain⟨h2,h3⟩:=Dg.lead_dig h1
  rw[hd] at h3;cases h3
 omega
theorem Eda {b:UInt8}{y:Nat}(h:y=b.toNat):Dg.dB b=decide (48<=y/\y<=57):=by unfold Dg.dB;rw[h]
theorem Tp (s:List UInt8)(w:World)(hs:s.length<=1000000):
 Calls Tryz.prog 195 #[.string ⟨s.toArray⟩] w λe w'=>e= .returned (.int .i64 (Dg.lead s:Int))/\w=w':=by
 have hsz:(⟨s.toArray⟩:ByteArray).size=s.length:=rfl;have HSZ:=Qd hsz;go_enter Tryz.func195,Tryz.ntmps195
 go_wp2
 go_loop [3] (λi=>∃k:Nat,k<=s.length/\i= .int .i64 (k:Int)/\Hid (k<=Dg.lead s)) (λi=>s.length-(intOf i).toNat)
 case atStart=>exact⟨0,Nat.zero_le _,rfl,Qd (Nat.zero_le _)⟩
 case round=>
  obtain⟨k,hk,rfl,H⟩:=hrel;by_cases hlt:k<s.length
  ·obtain⟨y,hy⟩:∃y,y=s[k].toNat:=⟨_,rfl⟩
   have hgy:((⟨s.toArray⟩:ByteArray)[k]'(show k<(⟨s.toArray⟩:ByteArray).size from hlt)).toNat=y:=hy.symm;have HD:=Qd (Eda hy);have H1:=Qd (λh=>Hw H.out hlt h);have H2:=Qd (λh=>Iw H.out hlt h);clear hy;by_cases h1:48<=y
   ·by_cases h2:y<=57
    ·go_wp2
     go_round
     case rel=>exact⟨k+1,by omega,by go_num,Qd (H1.out (by rw[HD.out];exact decide_eq_true ⟨h1,h2⟩))⟩
     case measure=>simp[intOf];omega
    go_wp2
    go_ret;exact⟨Gb (by rw[H2.out (by rw[HD.out];exact decide_eq_false (by omega))]),rfl⟩
   go_wp2
   go_ret;exact⟨Gb (by rw[H2.out (by rw[HD.out];exact decide_eq_false (by omega))]),rfl⟩
  have e:k=s.length:=by omega
  have HE:=Qd (show Dg.lead s=k by have:=Dg.lead_le s;have:=H.out;omega);clear e;go_wp2
  go_ret;exact⟨Gb (by rw[HE.out]),rfl⟩
theorem F0 {s:List UInt8}{a k:Nat}(h:a+k<s.length):(s.drop a)[k]'(by rw[List.length_drop];omega)=s[a+k]:=by rw[List.getElem_drop]
theorem Yl (s:List UInt8)(a:Nat)(w:World)(hs:s.length<=1000000)(ha:a<=s.length):
 Calls Tryz.prog 165 #[.string ⟨s.toArray⟩,.int .i64 (a:Int)] w λe w'=>e= .returned (.int .i64 (Dg.lead (s.drop a):Int))/\w=w':=by
 have hsz:(⟨s.toArray⟩:ByteArray).size=s.length:=rfl;have HSZ:=Qd hsz;go_enter Tryz.func165,Tryz.ntmps165
 go_wp2
 go_loop [5] (λi=>∃k:Nat,a+k<=s.length/\i= .int .i64 (k:Int)/\Hid (k<=Dg.lead (s.drop a))) (λi=>s.length-(intOf i).toNat)
 case atStart=>exact⟨0,ha,rfl,Qd (Nat.zero_le _)⟩
 case round=>
  obtain⟨k,hk,rfl,H⟩:=hrel;by_cases hlt:a+k<s.length
  ·obtain⟨y,hy⟩:∃y,y=s[a+k].toNat:=⟨_,rfl⟩
   have hgy:((⟨s.toArray⟩:ByteArray)[a+k]'(show a+k<(⟨s.toArray⟩:ByteArray).size from hlt)).toNat=y:=hy.symm;have hld:k<(s.drop a).length:=by rw[List.length_drop];omega
   have hy2:y=((s.drop a)[k]).toNat:=by rw[F0 hlt];exact hy
   have HD:=Qd (Eda hy2);have H1:=Qd (λh=>Hw H.out hld h);have H2:=Qd (λh=>Iw H.out hld h);clear hy hy2;by_cases h1:48<=y
   ·by_cases h2:y<=57
    ·go_wp2
     go_round
     case rel=>exact⟨k+1,by omega,by go_num,Qd (H1.out (by rw[HD.out];exact decide_eq_true ⟨h1,h2⟩))⟩
     case measure=>simp[intOf];omega
    go_wp2
    go_ret;exact⟨Gb (by rw[H2.out (by rw[HD.out];exact decide_eq_false (by omega))]),rfl⟩
   go_wp2
   go_ret;exact⟨Gb (by rw[H2.out (by rw[HD.out];exact decide_eq_false (by omega))]),rfl⟩
  have HE:=Qd (show Dg.lead (s.drop a)=k by have:=Dg.lead_le (s.drop a);have:=H.out;rw[List.length_drop] at*;omega);go_wp2
  go_ret;exact⟨Gb (by rw[HE.out]),rfl⟩
end Go.Proofs.YtmiccalfamepdaaGreatDoor
namespace Nt
def LenAt (l:List Nat)(b m:Nat)(cur:List Nat)(k c:Nat):Prop:=
 cur.length=l.length/\Ok cur/\c<4294967296/\cur.drop k=l.drop k/\val (cur.take k)+c*4294967296^k=val (l.take k)*b+m
theorem len_start {l:List Nat}{b m:Nat}(h:Ok l)(hm:m<4294967296):LenAt l b m l 0 m:=⟨rfl,h,hm,rfl,by simp[val]⟩
theorem len_get {l cur:List Nat}{b m k c:Nat}(h:LenAt l b m cur k c)(hk:k<l.length):cur[k]? =some l[k]:=by
 have:(cur.drop k)[0]? =(l.drop k)[0]? :=by rw[h.2.2.2.1]
 rw[List.getElem?_drop,List.getElem?_drop,Nat.add_zero,List.getElem?_eq_getElem hk] at this;exact this
theorem len_bounds {x b c:Nat}(hx:x<4294967296)(hb:b<4294967296)(hc:c<4294967296):x*b+c<18446744073709551616/\(x*b+c)/4294967296<4294967296/\(x*b+c)%4294967296<4294967296/\x*b<=18446744065119617025:=by
 have:=mul_bound hx hb;omega
theorem len_step {l cur:List Nat}{b m k c:Nat}(h:LenAt l b m cur k c)(hk:k<l.length)(hl:Ok l)(hb:b<4294967296):LenAt l b m (cur.set k ((l[k]*b+c)%4294967296)) (k+1) ((l[k]*b+c)/4294967296):=by
 obtain⟨h1,h2,h3,h4,h5⟩:=h;have hbd:=len_bounds (ok_get hl hk) hb h3;refine⟨by simpa using h1,Ue h2 hbd.2.2.1,hbd.2.1,?_,?_⟩
 ·rw[drop_set]
  have:=congrArg (List.drop 1) h4;rw[List.drop_drop,List.drop_drop] at this;exact this
 rw[Hf (by omega),val_take_succ hk,Nat.pow_succ];have e:=Nat.div_add_mod (l[k]*b+c) 4294967296;generalize(l[k]*b+c)/4294967296=q at*;generalize(l[k]*b+c)%4294967296=r at*;generalize 4294967296^k=p at h5⊢;generalize l[k]=x at*
 grind
theorem D8 {x b m c:Nat}{cur:List Nat}(h:LenAt (digs x) b m cur (digs x).length c):val cur+c*4294967296^(digs x).length=x*b+m:=by
 obtain⟨h1,h2,h3,h4,h5⟩:=h;rw[List.take_of_length_le (by omega),List.take_of_length_le (by omega),val_digs] at h5;exact h5
theorem len_done0 {x b m:Nat}{cur:List Nat}(h:LenAt (digs x) b m cur (digs x).length 0)(hb:1<=b):digs (x*b+m)=cur:=by
 have e:=D8 h;rw[Nat.zero_mul,Nat.add_zero] at e;rw[<-e];refine U7 h.2.1 λhne=>?_;rw[h.1,e];have hx:x≠0:=by
  rintro rfl;have:=h.1;rw[digs_zero] at this;exact hne (List.eq_nil_of_length_eq_zero this)
 have h1:=digs_ge hx;have h2:x*1<=x*b:=Nat.mul_le_mul_left _ hb;omega
theorem len_done1 {x b m c:Nat}{cur:List Nat}(h:LenAt (digs x) b m cur (digs x).length c)(hc:c≠0):digs (x*b+m)=cur++[c]:=by
 have e:=D8 h;have hv:val (cur++[c])=x*b+m:=by
  rw[Zb,h.1,<-e];simp[val,Nat.mul_comm]
 rw[<-hv];refine U7 (λd hd=>?_) λ_=>?_
 ·rcases List.mem_append.1 hd with h3 |h3
  ·exact h.2.1 d h3
  simp at h3;subst h3;exact h.2.2.1
 rw[hv,List.length_append,List.length_singleton,Nat.add_sub_cancel,h.1,<-e];have:1*4294967296^(digs x).length<=c*4294967296^(digs x).length:=Nat.mul_le_mul_right _ (by omega);omega
end Nt
namespace Go.Proofs.YtmiccalfamepdaaGreatDoor
open Go.RowKit
theorem Fda {w:World}{base n C k:Nat}{t:TypeId}{A:Option Addr}{xs:List Value}(h:w.ownsRow base t 1 (.slice A n C) n xs)(hk:k<n):
 ∃g,A=some ⟨g,0,none⟩/\base<=g/\w.cell? ⟨g,k,none⟩=xs[k]? /\w.frozen? ⟨g,k,none⟩=false/\∀x,(w.setCell ⟨g,k,none⟩ x).ownsRow base t 1 (.slice A n C) n (xs.set k x):=by
 obtain⟨g,vs,hv,hb,hblk,ht,h1,h2⟩:=R9 h (by omega);injection hv with e1 _ e2
 subst e1 e2;refine⟨g,rfl,hb,?_,hblk.frozen k,λx=>?_⟩
 ·rw[<-ht,List.getElem?_take,if_pos hk]
  have hk':k<vs.length:=by omega
  rw[List.getElem?_eq_getElem hk'];exact hblk.cell (List.getElem?_eq_getElem hk')
 have:=(hblk.set_ k x).own (base:=base) (n:=n) hb (by rw[List.length_set];exact h1) (by rw[List.length_set];exact h2);rw[List.length_set,List.take_set,ht] at this;exact this
theorem G0 (base:Nat)(v:Value)(x b m:Nat)(w:World)(hown:w.ownsRow base 139 1 v (Nt.digs x).length (U (Nt.digs x)))(hB:base<=w.heap.size)(hl:(Nt.digs x).length<=1000000)(hb1:1<=b)(hb:b<4294967296)(hm:m<4294967296):
 Calls Tryz.prog 228 #[v,.int .u32 (b:Int),.int .u32 (m:Int)] w λe w'=>∃v',e= .returned v'/\w'.ownsRow base 139 1 v' (Nt.digs (x*b+m)).length (U (Nt.digs (x*b+m)))/\Below base w w':=by
 obtain⟨i0,hi,hz0,hz1,hz2⟩:=info_parts Mc;have OX:=Qd (Nt.ok_digs x);have D0:Hid (∀cur,Nt.LenAt (Nt.digs x) b m cur (Nt.digs x).length 0->Nt.digs (x*b+m)=cur):=Qd (λcur h=>Nt.len_done0 h hb1);have D1:Hid (∀cur c,Nt.LenAt (Nt.digs x) b m cur (Nt.digs x).length c->c≠0->Nt.digs (x*b+m)=cur++[c]):=Qd (λcur c h hc=>Nt.len_done1 h hc);generalize Nt.digs (x*b+m)=dz at*;generalize Nt.digs x=dx at*;obtain⟨A,C,rfl,hC1,hC2⟩:=Na hown;go_enter Tryz.func228,Tryz.ntmps228
 go_wp2_with fail
 go_loopw [7,15] (λcv i wr=>∃(k c:Nat) (cur:List Nat),k<=dx.length/\c<4294967296/\i= .int .i64 (k:Int)/\cv= .int .u64 (c:Int)/\wr.ownsRow base 139 1 (.slice A dx.length C) dx.length (U cur)/\Below base w wr/\Hid (Nt.LenAt dx b m cur k c)) (λ_ i _=>dx.length-(intOf i).toNat)
 case atStart=>exact⟨0,m,dx,Nat.zero_le _,hm,rfl,rfl,hown,Br,Qd (Nt.len_start OX.out hm)⟩
 case round=>
  clear hown;obtain⟨k,c,cur,hk,hc,rfl,rfl,hown,hbel,H⟩:=hrel;have hsz:=hbel.size;by_cases hlt:k<dx.length
  ·obtain⟨g,rfl,hgb,hcell,hfz,hset⟩:=Fda hown hlt
   have hget:=Nt.len_get H.out hlt;rw[U,List.getElem?_map,hget,Option.map_some] at hcell;have hxb:=Nt.ok_get OX.out hlt;have ST:=Qd (Nt.len_step H.out hlt OX.out hb);have BD:=Nt.len_bounds hxb hb hc;have HSET:Hid (∀s:Nat,(wr.setCell ⟨g,k,none⟩ (.int .u32 (s:Int))).ownsRow base 139 1 (.slice (some ⟨g,0,none⟩) dx.length C) dx.length (U (cur.set k s))):=Qd (λs=>by
    have:=hset (.int .u32 (s:Int));rw[show(U cur).set k (.int .u32 (s:Int))=U (cur.set k s) from List.map_set.symm] at this;exact this)
   have HB2:Hid (∀s,Below base w (wr.setCell ⟨g,k,none⟩ s)):=Qd (λs=>hbel.setCell hgb _);clear hset hget hown;generalize dx[k]=y at*;obtain⟨p,hp⟩:∃p,p=y*b:=⟨_,rfl⟩;have hpi:(y:Int)*(b:Int)=(p:Int):=by rw[hp,Int.natCast_mul]
   rw[<-hp] at ST BD;obtain⟨ht1,ht2,ht3,ht4⟩:=BD;clear hp;go_wp2_with fail
   exact⟨⟨k+1,(p+c)/4294967296,cur.set k ((p+c)%4294967296),by omega,ht2,by go_num,congrArg (Value.int .u64) (by omega),HSET.out _,HB2.out _,ST⟩,by simp[intOf];omega⟩
  obtain rfl:k=dx.length:=by omega
  have hcl:Hid (cur.length=dx.length):=Qd H.out.1;by_cases hc0:c=0
  ·subst hc0
   have HE:=Qd (D0.out cur H.out);go_wp2_with fail
   go_ret;refine⟨_,rfl,?_,hbel⟩;rw[HE.out,hcl.out];exact hown
  have HE:=Qd (D1.out cur c H.out hc0);have hc1:((c:Int)!=0)=true:=by simp;omega
  go_wp2_with (at_builtin;refine wpList_append_own _ rfl _ _ 81 rfl base 139 i0 (.int .u32 0) 1 4 Tryz.underlying81 hi hz0 hz1 hz2 rfl (by decide) _ _ _ rfl (hown.alloc _) ⟨_,0,none⟩ 1 1 [.int .u32 (c:Int)] rfl rfl (cell_one_new _ _ _) (by intro u hu;simp only[List.mem_singleton] at hu;subst hu;rfl) (by unfold maxLen;omega) (by omega) (by simp;omega) ?_;intro v3 w3 hown3 hgrow3 hnn3)
  have hb3:Below base w w3:=(hbel.alloc (by omega) _).grown hgrow3 (by simp;omega) (λk hk=>(hown.lt k hk).1);go_ret;refine⟨_,rfl,?_,hb3⟩;rw[HE.out,List.length_append,hcl.out]
  simpa [U] using hown3
theorem Oga (n:Bool)(x:Nat):(n&& !(Nt.digs x==[]))=Rt.nrm n x:=by
 unfold Rt.nrm
 congr 2
 rw[Bool.eq_iff_iff];simp only[beq_iff_eq];exact Nt.digs_nil_iff
theorem Zm {w:World}{v:Value}{l:List Nat}(h1:IsRes w v l)(o1:Nt.Ok l)(s1:l.length<=1000000):
 Calls Tryz.prog 145 #[v] w λe w'=>∃v,e= .returned v/\IsRes w' v (Nt.digs (Nt.val l))/\Below w.heap.size w w':=by
 obtain⟨A,c,rfl,a1,a2,a3,a4⟩:=h1;have hd:=Nt.digs_len_le o1;refine(Kf A c w.heap.size l w a4 Lr o1 a1 a2 (by omega)).mono ?_;rintro e w' ⟨rfl,r,hb'⟩;exact⟨_,rfl,⟨_,_,rfl,Lr,by omega,(λh=>by cases h),r.lies⟩,hb'⟩
def Nc (g:Nat)(n:Bool)(V:Value)(xs:Nat->Value):Act:={tmps:= #[.agg #[.bool n,V],.pointer (some ⟨g,0,none⟩),.pointer (some ⟨g+1,0,none⟩),xs 0,xs 1,xs 2,xs 3,xs 4,xs 5],defers:=[]}
def Zka (g:Nat)(n:Bool)(V:Value)(l:List Nat):Nat->World->Value->Prop
 | 0,w,v=>v= .pointer (some ⟨g,0,none⟩)
 | 1,w,v=>v= .bool n
 | 2,w,v=>v= .pointer (some ⟨g,1,none⟩)
 | 3,w,v=>v=V
 | 4,w,v=>IsRes w v (Nt.digs (Nt.val l))
 |_,w,v=>∃u,v= .agg #[.bool (Rt.nrm n (Nt.val l)),u]/\IsRes w u (Nt.digs (Nt.val l))
theorem Gy (n:Bool)(v:Value)(l:List Nat)(w:World)(h:IsRes w v l)(ho:Nt.Ok l)(hs:l.length<=1000000):
 Calls Tryz.prog 150 #[.agg #[.bool n,v]] w (Bl w (Rt.nrm n (Nt.val l)) (Nt.digs (Nt.val l))):=by
 obtain⟨g,hg⟩:∃g,g=w.heap.size:=⟨_,rfl⟩;obtain⟨W,hW⟩:∃W,W=(w.alloc (.cells #[.bool n,v] 143)).alloc (.cells #[.bool false,.slice none 0 0] 143):=⟨_,rfl⟩;have hWs:W.heap.size=g+1+1:=by rw[hW,hg];simp
 have hWb:Below g w W:=by rw[hW,hg];exact(Br.alloc Lr _).alloc (by simp) _
 have hW0:W.heap[g]? =some (.cells #[.bool n,v] 143 (0,0)):=by rw[hW,hg];exact heap_alloc2_old _ _ _
 have HW1:Hid (W.heap[g+1]? =some (.cells #[.bool false,.slice none 0 0] 143 (0,0))):=Qd (by rw[hW,hg];exact heap_alloc2_new _ _ _);have HQ:Hid (∀wx,Below W.heap.size W wx->wx.cell? ⟨g,0,none⟩=some (.bool n)/\wx.cell? ⟨g,1,none⟩=some v):=Qd (λwx hx=>by
  have hb:=(hx.block g (by omega)).trans hW0;exact⟨(cell_of_row wx g 0 _ _ _ hb).trans rfl,(cell_of_row wx g 1 _ _ _ hb).trans rfl⟩)
 have hrb:∀wx,Below W.heap.size W wx->IsRes wx v l:=λwx hx=>(h.below (by rw[<-hg];exact hWb)).below hx;have NN:=Qd (λ(wx:World) (hx:Below W.heap.size W wx)=>Zm (hrb wx hx) ho hs);have SG:Hid (∀(wx:World) (u:Value),IsRes wx u (Nt.digs (Nt.val l))->Calls Tryz.prog 184 #[.bool n,u] wx (Bl wx (Rt.nrm n (Nt.val l)) (Nt.digs (Nt.val l)))):=Qd (λwx u hu=>by
  have:=Faa n u _ wx hu;rwa[Oga] at this)
 have HI2:Hid (∀(b:Bool) (A:Option Addr) (k c:Nat),(Tryz.prog.info? 143).map (·.size)=some (#[.bool b,.slice A k c]:Array Value).size):=Qd (λ_ _ _ _=>Ye);have HW:=Qd hW;have HG:=Qd hg;have hgl:g+1<W.heap.size:=by omega
 obtain⟨A,c,rfl,-⟩:=h;clear hW hW0 hrb hWs;go_enter Tryz.func150,Tryz.ntmps150
 go_wp2_with fail
 rw[<-HW.out,<-hg];clear hg;refine Tu (Nc g n (.slice A l.length c)) W (Zka g n (.slice A l.length c) l) 6 (by kernel_rfl) (by rfl) ?_ (by kernel_rfl) (by kernel_rfl) (λ_=>undef) rfl Br ?_ ?_
 ·intro i w1 w2 v hv hb
  match i with
  | 0=>exact hv
  | 1=>exact hv
  | 2=>exact hv
  | 3=>exact hv
  | 4=>exact hv.below hb
  |i+5=>exact(by obtain⟨u,e,r⟩:=hv;exact⟨u,e,r.below hb⟩)
 ·intro i xs w1 hi hb hdep
  have hi6:i<6:=hi;clear hi;rcases(show i=0\/i=1\/i=2\/i=3\/i=4\/i=5 by omega) with rfl |rfl |rfl |rfl |rfl |rfl
  ·refine Da rfl rfl ?_
   unfold Nc Oper.wp;go_simp
   exact⟨_,by simp only[Nc,Ta];simp[Act.put],rfl,Br⟩
  ·have h0:xs 0= .pointer (some ⟨g,0,none⟩):=hdep 0 (by kernel_rfl)
   refine Da rfl rfl ?_;have q:=(HQ.out w1 hb).1;unfold Nc Oper.wp;simp only[h0];go_simp
   exact⟨_,by simp only[Nc,Ta];simp[Act.put,h0],rfl,Br⟩
  ·refine Da rfl rfl ?_
   unfold Nc Oper.wp;go_simp
   exact⟨_,by simp only[Nc,Ta];simp[Act.put],rfl,Br⟩
  ·have h2:xs 2= .pointer (some ⟨g,1,none⟩):=hdep 2 (by kernel_rfl)
   refine Da rfl rfl ?_;have q:=(HQ.out w1 hb).2;unfold Nc Oper.wp;simp only[h2];go_simp
   exact⟨_,by simp only[Nc,Ta];simp[Act.put,h2],rfl,Br⟩
  ·have h3:xs 3=(.slice A l.length c):=hdep 3 (by kernel_rfl)
   refine Da rfl rfl ?_;unfold Nc Oper.wp;simp only[h3];go_simp
   refine(NN.out w1 hb).mono ?_;rintro e w2 ⟨v',rfl,hr,hb2⟩;exact⟨_,by simp only[Nc,Ta];simp[Act.put,h3],hr,hb2⟩
  have h1:xs 1= .bool n:=hdep 1 (by kernel_rfl);have r4:IsRes w1 (xs 4) (Nt.digs (Nt.val l)):=hdep 4 (by kernel_rfl);refine Da rfl rfl ?_;unfold Nc Oper.wp;simp only[h1];go_simp
  refine(SG.out w1 _ r4).mono ?_;rintro e w2 ⟨u,rfl,hr,hb2⟩;exact⟨_,by simp only[Nc,Ta];simp[Act.put,h1],⟨u,rfl,hr⟩,hb2⟩
 intro xs w1 hb hx;obtain⟨u,h5,r5⟩:∃u,xs 5= .agg #[.bool (Rt.nrm n (Nt.val l)),u]/\IsRes w1 u (Nt.digs (Nt.val l)):=hx 5 (by decide);clear hx;have HR:=Qd r5;obtain⟨A5,c5,rfl,-⟩:=r5;have HG1:=Qd ((hb.block (g+1) (by omega)).trans HW1.out);refine Da rfl rfl ?_;refine wp_store_row 143 (.tmp 2) (.tmp 8) rfl (g+1) #[.bool (Rt.nrm n (Nt.val l)),.slice A5 (Nt.digs (Nt.val l)).length c5] rfl (by unfold Nc;simp only[h5];rfl) 143 #[.bool false,.slice none 0 0] HG1.out (HI2.out _ _ _ _) rfl (Rc _ _ _ _) ?_;have hbf:=rBelow.setRow (hWb.trans (hb.mono (by omega))) (show g<=g+1 by omega) #[.bool (Rt.nrm n (Nt.val l)),.slice A5 (Nt.digs (Nt.val l)).length c5];unfold Nc;go_wp2_with fail
 refine bodyPost_ret (results_cell_row (by rfl) _ _ (g+1) 143 #[.bool (Rt.nrm n (Nt.val l)),.slice A5 (Nt.digs (Nt.val l)).length c5] (0,0) _ (by rfl) (Ma HG1.out) Tryz.underlying143 rfl (HI2.out _ _ _ _)) rfl ⟨_,rfl,HR.out.setRow HG1.out (Nb _ _ _ _) _,?_⟩;rw[<-HG.out];exact hbf
theorem Gda (n:Nat)(z:Int)(hn:n<18446744073709551616)(h1:z<64):bits BinOp.or IntKind.u64 (↑n) (IntKind.u64.wrap (2^z.toNat))=((n||| 2^z.toNat:Nat):Int):=by
 have hb:=Lab.bit_lt (t:=z.toNat) (by omega);have e:((2:Int)^z.toNat)=((2^z.toNat:Nat):Int):=by simp
 rw[e];generalize 2^z.toNat=m at hb⊢;rw[IntWalk.u64_in _ (by omega)];exact u64_or_nat _ _ hn hb
section
open Go.RowKit Ar
def LiesP (w:World)(P:Nat->Prop)(A:Option Addr)(vs:List Value):Prop:=
 vs=[]\/∃b off,A=some ⟨b,off,none⟩/\P b/\∀i v,vs[i]? =some v->w.cell? ⟨b,off+i,none⟩=some v
theorem Lies.p {w:World}{B:Nat}{A:Option Addr}{vs:List Value}(h:Lies w B A vs):LiesP w (· <B) A vs:=h
theorem LiesP.lies {w:World}{P:Nat->Prop}{B:Nat}{A:Option Addr}{vs:List Value}(h:LiesP w P A vs)(hP:∀b,P b->b<B):Lies w B A vs:=by
 rcases h with h |⟨b,off,hA,hb,hc⟩
 ·exact .inl h
 exact .inr ⟨b,off,hA,hP _ hb,hc⟩
theorem LiesP.keep {w w':World}{P P':Nat->Prop}{A:Option Addr}{vs:List Value}(h:LiesP w P A vs)(hk:∀p:Addr,P p.block->w'.cell? p=w.cell? p)(hP:∀b,P b->P' b):LiesP w' P' A vs:=by
 rcases h with h |⟨b,off,hA,hb,hc⟩
 ·exact .inl h
 exact .inr ⟨b,off,hA,hP _ hb,λi v hv=>(hk ⟨b,off+i,none⟩ hb).trans (hc i v hv)⟩
mutual
def IsArrP (w:World)(P:Nat->Prop):Ba->List Value->Prop
 | .mk S shape cells,vs=>∃A c A' c' us,vs=[.int .u64 (S:Int),.slice A shape.length c,.slice A' cells.length c']/\S<18446744073709551616/\Fits shape.length c 8/\Fits cells.length c' 104/\Xa shape/\
  LiesP w P A (Ya shape)/\LiesP w P A' us/\IsCelsP w P cells us
def IsCelsP (w:World)(P:Nat->Prop):List Ha->List Value->Prop
 | [],vs=>vs=[]
 |c::r,vs=>∃u t,vs=u++t/\IsCelP w P c u/\IsCelsP w P r t
def IsCelP (w:World)(P:Nat->Prop):Ha->List Value->Prop
 | .mk L kind neg top bot ch ins,vs=>∃A c A' c' A'' c'' us,vs=[.int .u64 (L:Int),.int .i64 kind,.bool neg,.slice A top.length c,.slice A' bot.length c',.int .i64 ch,.slice A'' ins.length c'']/\
  L<18446744073709551616/\Fits top.length c 4/\Fits bot.length c' 4/\Fits ins.length c'' 56/\Xa [kind,ch]/\Uj top/\Uj bot/\LiesP w P A (Rd top)/\LiesP w P A' (Rd bot)/\LiesP w P A'' us/\IsArrsP w P ins us/\(A=none->c=0)/\(A'=none->c'=0)
def IsArrsP (w:World)(P:Nat->Prop):List Ba->List Value->Prop
 | [],vs=>vs=[]
 |a::r,vs=>∃u t,vs=u++t/\IsArrP w P a u/\IsArrsP w P r t
end
mutual
theorem IsArrP.keep {w w':World}{P P':Nat->Prop}(hk:∀p:Addr,P p.block->w'.cell? p=w.cell? p)(hP:∀b,P b->P' b):∀(a:Ba) (vs:List Value),IsArrP w P a vs->IsArrP w' P' a vs
 | .mk S shape cells,vs,h=>by
  rw[IsArrP] at h⊢;obtain⟨A,c,A',c',us,h1,h2,h3,h4,h5,h6,h7,h8⟩:=h;exact⟨A,c,A',c',us,h1,h2,h3,h4,h5,h6.keep hk hP,h7.keep hk hP,IsCelsP.keep hk hP cells us h8⟩
theorem IsCelsP.keep {w w':World}{P P':Nat->Prop}(hk:∀p:Addr,P p.block->w'.cell? p=w.cell? p)(hP:∀b,P b->P' b):∀(a:List Ha) (vs:List Value),IsCelsP w P a vs->IsCelsP w' P' a vs
 | [],vs,h=>by rw[IsCelsP] at h⊢;exact h
 |c::r,vs,h=>by
  rw[IsCelsP] at h⊢;obtain⟨u,t,h1,h2,h3⟩:=h;exact⟨u,t,h1,IsCelP.keep hk hP c u h2,IsCelsP.keep hk hP r t h3⟩
theorem IsCelP.keep {w w':World}{P P':Nat->Prop}(hk:∀p:Addr,P p.block->w'.cell? p=w.cell? p)(hP:∀b,P b->P' b):∀(a:Ha) (vs:List Value),IsCelP w P a vs->IsCelP w' P' a vs
 | .mk L kind neg top bot ch ins,vs,h=>by
  rw[IsCelP] at h⊢;obtain⟨A,c,A',c',A2,c2,us,h1,h2,h3,h4,h5,h6,h7,h8,h9,h10,h11,h12⟩:=h;exact⟨A,c,A',c',A2,c2,us,h1,h2,h3,h4,h5,h6,h7,h8,h9.keep hk hP,h10.keep hk hP,h11.keep hk hP,IsArrsP.keep hk hP ins us h12.1,h12.2⟩
theorem IsArrsP.keep {w w':World}{P P':Nat->Prop}(hk:∀p:Addr,P p.block->w'.cell? p=w.cell? p)(hP:∀b,P b->P' b):∀(a:List Ba) (vs:List Value),IsArrsP w P a vs->IsArrsP w' P' a vs
 | [],vs,h=>by rw[IsArrsP] at h⊢;exact h
 |c::r,vs,h=>by
  rw[IsArrsP] at h⊢;obtain⟨u,t,h1,h2,h3⟩:=h;exact⟨u,t,h1,IsArrP.keep hk hP c u h2,IsArrsP.keep hk hP r t h3⟩
end
mutual
theorem IsArr.p {w:World}{B:Nat}:∀(a:Ba) (vs:List Value),IsArr w B a vs->IsArrP w (· <B) a vs
 | .mk S shape cells,vs,h=>by
  rw[IsArr] at h;rw[IsArrP];obtain⟨A,c,A',c',us,h1,h2,h3,h4,h5,h6,h7,h8⟩:=h;exact⟨A,c,A',c',us,h1,h2,h3,h4,h5,h6,h7,IsCels.p cells us h8⟩
theorem IsCels.p {w:World}{B:Nat}:∀(a:List Ha) (vs:List Value),IsCels w B a vs->IsCelsP w (· <B) a vs
 | [],vs,h=>by rw[IsCels] at h;rw[IsCelsP];exact h
 |c::r,vs,h=>by
  rw[IsCels] at h;rw[IsCelsP];obtain⟨u,t,h1,h2,h3⟩:=h;exact⟨u,t,h1,IsCel.p c u h2,IsCels.p r t h3⟩
theorem IsCel.p {w:World}{B:Nat}:∀(a:Ha) (vs:List Value),IsCel w B a vs->IsCelP w (· <B) a vs
 | .mk L kind neg top bot ch ins,vs,h=>by
  rw[IsCel] at h;rw[IsCelP];obtain⟨A,c,A',c',A2,c2,us,h1,h2,h3,h4,h5,h6,h7,h8,h9,h10,h11,h12⟩:=h;exact⟨A,c,A',c',A2,c2,us,h1,h2,h3,h4,h5,h6,h7,h8,h9,h10,h11,IsArrs.p ins us h12.1,h12.2⟩
theorem IsArrs.p {w:World}{B:Nat}:∀(a:List Ba) (vs:List Value),IsArrs w B a vs->IsArrsP w (· <B) a vs
 | [],vs,h=>by rw[IsArrs] at h;rw[IsArrsP];exact h
 |c::r,vs,h=>by
  rw[IsArrs] at h;rw[IsArrsP];obtain⟨u,t,h1,h2,h3⟩:=h;exact⟨u,t,h1,IsArr.p c u h2,IsArrs.p r t h3⟩
end
mutual
theorem IsArrP.is {w:World}{P:Nat->Prop}{B:Nat}(hP:∀b,P b->b<B):∀(a:Ba) (vs:List Value),IsArrP w P a vs->IsArr w B a vs
 | .mk S shape cells,vs,h=>by
  rw[IsArrP] at h;rw[IsArr];obtain⟨A,c,A',c',us,h1,h2,h3,h4,h5,h6,h7,h8⟩:=h;exact⟨A,c,A',c',us,h1,h2,h3,h4,h5,h6.lies hP,h7.lies hP,IsCelsP.is hP cells us h8⟩
theorem IsCelsP.is {w:World}{P:Nat->Prop}{B:Nat}(hP:∀b,P b->b<B):∀(a:List Ha) (vs:List Value),IsCelsP w P a vs->IsCels w B a vs
 | [],vs,h=>by rw[IsCelsP] at h;rw[IsCels];exact h
 |c::r,vs,h=>by
  rw[IsCelsP] at h;rw[IsCels];obtain⟨u,t,h1,h2,h3⟩:=h;exact⟨u,t,h1,IsCelP.is hP c u h2,IsCelsP.is hP r t h3⟩
theorem IsCelP.is {w:World}{P:Nat->Prop}{B:Nat}(hP:∀b,P b->b<B):∀(a:Ha) (vs:List Value),IsCelP w P a vs->IsCel w B a vs
 | .mk L kind neg top bot ch ins,vs,h=>by
  rw[IsCelP] at h;rw[IsCel];obtain⟨A,c,A',c',A2,c2,us,h1,h2,h3,h4,h5,h6,h7,h8,h9,h10,h11,h12⟩:=h;exact⟨A,c,A',c',A2,c2,us,h1,h2,h3,h4,h5,h6,h7,h8,h9.lies hP,h10.lies hP,h11.lies hP,IsArrsP.is hP ins us h12.1,h12.2⟩
theorem IsArrsP.is {w:World}{P:Nat->Prop}{B:Nat}(hP:∀b,P b->b<B):∀(a:List Ba) (vs:List Value),IsArrsP w P a vs->IsArrs w B a vs
 | [],vs,h=>by rw[IsArrsP] at h;rw[IsArrs];exact h
 |c::r,vs,h=>by
  rw[IsArrsP] at h;rw[IsArrs];obtain⟨u,t,h1,h2,h3⟩:=h;exact⟨u,t,h1,IsArrP.is hP c u h2,IsArrsP.is hP r t h3⟩
end
theorem IsCelsP.snoc {w:World}{P:Nat->Prop}:∀{cs:List Ha} {vs:List Value} (h:IsCelsP w P cs vs) {c:Ha} {u:List Value} (hc:IsCelP w P c u),IsCelsP w P (cs++[c]) (vs++u)
 | [],vs,h,c,u,hc=>by
  rw[IsCelsP] at h;subst h;show IsCelsP w P [c] _;rw[IsCelsP];exact⟨u,[],by simp,hc,by rw[IsCelsP]⟩
 |x::r,vs,h,c,u,hc=>by
  rw[IsCelsP] at h;obtain⟨u',t,rfl,h2,h3⟩:=h;show IsCelsP w P (x::(r++[c])) _;rw[IsCelsP];exact⟨u',t++u,by simp,h2,h3.snoc hc⟩
theorem IsArrsP.snoc {w:World}{P:Nat->Prop}:∀{cs:List Ba} {vs:List Value} (h:IsArrsP w P cs vs) {c:Ba} {u:List Value} (hc:IsArrP w P c u),IsArrsP w P (cs++[c]) (vs++u)
 | [],vs,h,c,u,hc=>by
  rw[IsArrsP] at h;subst h;show IsArrsP w P [c] _;rw[IsArrsP];exact⟨u,[],by simp,hc,by rw[IsArrsP]⟩
 |x::r,vs,h,c,u,hc=>by
  rw[IsArrsP] at h;obtain⟨u',t,rfl,h2,h3⟩:=h;show IsArrsP w P (x::(r++[c])) _;rw[IsArrsP];exact⟨u',t++u,by simp,h2,h3.snoc hc⟩
theorem IsArrP.len {w:World}{P:Nat->Prop}{a:Ba}{vs:List Value}(h:IsArrP w P a vs):vs.length=3:=by
 cases a;rw[IsArrP] at h;obtain⟨A,c,A',c',us,rfl,_⟩:=h;rfl
theorem IsArrP.form {w:World}{P:Nat->Prop}{a:Ba}{vs:List Value}(h:IsArrP w P a vs):∃(S:Nat) (A:Option Addr) (n c:Nat) (A':Option Addr) (n' c':Nat),vs=[.int .u64 (S:Int),.slice A n c,.slice A' n' c']:=by
 cases a;rw[IsArrP] at h;obtain⟨A,c,A',c',us,rfl,_⟩:=h;exact⟨_,_,_,_,_,_,_,rfl⟩
def POut (B lo:Nat)(w:World)(V:Value)(b:Nat):Prop:=b<B\/(lo<=b/\b<w.heap.size/\V.ownBlock≠some b)
theorem POut.step {B lo H g n cap:Nat}{w w':World}{V:Value}(hs:w.heap.size<=w'.heap.size)(hat:V.ownBlock=some g\/g=H)(hH:w.heap.size<=H){b:Nat}(h:POut B lo w V b):POut B lo w' (.slice (some ⟨g,0,none⟩) n cap) b:=by
 rcases h with h |⟨h1,h2,h3⟩
 ·exact .inl h
 refine .inr ⟨h1,by omega,?_⟩;show some g≠some b;rintro e;injection e with e
 subst e;rcases hat with h4 |h4
 ·exact h3 h4
 omega
theorem POut.new {B lo H g n cap s2:Nat}{w w':World}{V:Value}(hlo:lo<=w.heap.size)(hs:s2<=w'.heap.size)(hat:V.ownBlock=some g\/g=H)(hH:s2<=H)(hown:∀x,V.ownBlock=some x->x<w.heap.size){b:Nat}(h:b<B\/(w.heap.size<=b/\b<s2)):POut B lo w' (.slice (some ⟨g,0,none⟩) n cap) b:=by
 rcases h with h |⟨h1,h2⟩
 ·exact .inl h
 refine .inr ⟨by omega,by omega,?_⟩;show some g≠some b;rintro e;injection e with e
 subst e;rcases hat with h4 |h4
 ·have:=hown _ h4;omega
 omega
theorem An {w w':World}{base n size:Nat}{e:TypeId}{v:Value}{xs:List Value}(h:w.ownsRow base e size v n xs)(hb:Below w.heap.size w w'):w'.ownsRow base e size v n xs:=
 h.kept (row:=none) ⟨hb.os,hb.tape,hb.output,hb.size,λk hk _=>hb.block k hk⟩ (by cases v.ownBlock<;>simp)
theorem LiesP.of_own {w:World}{base:Nat}{e:TypeId}{size n c:Nat}{A:Option Addr}{xs:List Value}(h:w.ownsRow base e size (.slice A n c) n xs):LiesP w (λb=>base<=b/\b<w.heap.size) A xs:=by
 rcases Lies.of_own h with h1 |⟨b,off,hA,hb,hc⟩
 ·exact .inl h1
 refine .inr ⟨b,off,hA,⟨?_,hb⟩,hc⟩;exact(h.lt b (by rw[hA];rfl)).1
theorem El (w:World)(cs:List Value)(t:TypeId)(j:Nat)(u:Value)(h:cs[j]? =some u):(w.alloc (.cells cs.toArray t)).cell? ((⟨w.heap.size,0,none⟩:Addr).add j)=some u:=by
 rw[show(⟨w.heap.size,0,none⟩:Addr).add j=⟨w.heap.size,j,none⟩ by unfold Addr.add;split<;>simp_all];rw[cell_of_row (w.alloc (.cells cs.toArray t)) w.heap.size j cs.toArray t (0,0) (heap_alloc_new w _)]
 simpa using h
end
end Go.Proofs.YtmiccalfamepdaaGreatDoor
namespace Go
def World.ownsQ (w:World)(q:Value->Prop)(base:Nat)(e:TypeId)(size:Nat)(v:Value)(n:Nat)(xs:List Value):Prop:=
 xs.length=n*size/\
 ((v= .slice none 0 0/\n=0)\/
  ∃g cap cur,v= .slice (some ⟨g,0,none⟩) n cap/\base<=g/\w.heap[g]? =some (.cells cur e (0,0))/\n<=cap/\cap<=maxLen/\cur.size=cap*size/\cur.toList.take (n*size)=xs/\∀u∈cur.toList,q u)
section
variable {w : World} {q : Value -> Prop} {base : Nat} {e : TypeId} {size : Nat} {v : Value} {n : Nat} {xs : List Value}
theorem World.ownsQ.own (h:w.ownsQ q base e size v n xs):w.ownsRow base e size v n xs:=by
 refine⟨h.1,?_⟩;rcases h.2 with hn |⟨g,cap,cur,hv,hb,hg,h1,h2,h3,h4,_⟩
 ·exact .inl hn
 exact .inr ⟨g,cap,cur,hv,hb,hg,h1,h2,h3,h4⟩
theorem World.ownsQ_nil (w:World)(q:Value->Prop)(base:Nat)(e:TypeId)(size:Nat):w.ownsQ q base e size (.slice none 0 0) 0 []:=⟨by simp,.inl ⟨rfl,rfl⟩⟩
theorem World.ownsQ.kept {w':World}{row:Option Nat}(h:w.ownsQ q base e size v n xs)(hg:w.grownBy w' row)(hne:v.ownBlock=none\/v.ownBlock≠row):w'.ownsQ q base e size v n xs:=by
 refine⟨h.1,?_⟩;rcases h.2 with hn |⟨g,cap,cur,rfl,hb,hgg,rest⟩
 ·exact .inl hn
 refine .inr ⟨g,cap,cur,rfl,hb,?_,rest⟩;rw[hg.block g (Array.getElem?_eq_some_iff.1 hgg).1 (by simpa [Value.ownBlock] using hne)];exact hgg
theorem World.ownsQ.mono {base':Nat}(h:w.ownsQ q base e size v n xs)(hb:base'<=base):w.ownsQ q base' e size v n xs:=by
 refine⟨h.1,?_⟩;rcases h.2 with hn |⟨g,cap,cur,hv,h1,rest⟩
 ·exact .inl hn
 exact .inr ⟨g,cap,cur,hv,by omega,rest⟩
theorem World.ownsQ.apart (h:w.ownsQ q base e size v n xs){a:Addr}{u:Value}(hc:w.cell? a=some u)(hu:¬q u)(hr:a.spot=none:=by rfl):v.ownBlock≠some a.block:=by
 rcases h.2 with⟨rfl,_⟩ |⟨g,cap,cur,rfl,hb,hg,h1,h2,h3,h4,hq⟩
 ·simp[Value.ownBlock]
 intro he;simp only[Value.ownBlock] at he;injection he with he
 obtain⟨b,off,r⟩:=a;simp only at he hr;subst he hr;rw[cell_of_row w _ off cur e (0,0) hg] at hc;exact hu (hq u (Array.mem_toList_iff.2 (Array.mem_of_getElem? hc)))
end
section
variable {P : Program} (w : World)
theorem Hy {z:Array Value}{n:Nat}{u:Value}(h:u∈(Builtin.zeroCells z n).toList):u∈z.toList:=by
 unfold Builtin.zeroCells at h;simp only[Array.toList_map,Array.toList_range,List.mem_map,List.mem_range] at h;obtain⟨i,hi,rfl⟩:=h;have hz:0<z.size:=by
  rcases Nat.eq_zero_or_pos z.size with h0 |h0
  ·rw[h0] at hi;simp at hi
  exact h0
 have hlt:i%z.size<z.size:=Nat.mod_lt _ hz;rw[getElem!_pos z _ hlt];simp
theorem Ss (q:Value->Prop)(base:Nat)(t ty e:TypeId)(i:TypeInfo)(z:Value)(size bytes:Nat)(ht:P.underlying t=some (.slice e))(hi:P.info? e=some i)(hz:i.zero=some z)
 (hsize:i.size=size) (hby:i.bytes=bytes) (hzs:z.cells.size=size) (hsz:0<size) (hzq:∀u∈z.cells.toList,q u)
 (v:Value) (n:Nat) (xs:List Value) (hown:w.ownsQ q base e size v n xs)
 (a:Addr) (m c:Nat) (news:List Value) (hl:news.length=m*size) (hnews:∀j u,news[j]? =some u->w.cell? (a.add j)=some u) (h1:∀u∈news,u.oneCell'=true) (hq:∀u∈news,q u)
 (h63:n+m<=maxLen) (hbytes:(n+m)*bytes<=140737488355328) (hbase:base<=w.heap.size):
 ∃v' w',(Builtin.append_ #[t,t] ty #[v,.slice (some a) m c]).run P w= .ok v' w'/\w'.ownsQ q base e size v' (n+m) (xs++news)/\w.grownBy w' v.ownBlock/\
  (v'= .slice none 0 0↔v= .slice none 0 0/\m=0)/\(v'.ownBlock=v.ownBlock\/v'.ownBlock=some w.heap.size):=by
 subst hsize;subst hby
 have hsmall:n+m<=9223372036854775807:=by simp only[maxLen] at h63;omega
 have hlen:(xs++news).length=(n+m)*i.size:=by rw[List.length_append,hown.1,hl,Nat.add_mul]
 have grown:(∀u∈xs,q u)->∀(old:Nat),old<n+m->∀(row:Option Nat),
  (w.drew.alloc (.cells (xs.toArray++news.toArray++Builtin.zeroCells z.cells (grownCap w (n+m) old e-(n+m))) e)).ownsQ q base e i.size
   (.slice (some ⟨w.heap.size,0,none⟩) (n+m) (grownCap w (n+m) old e)) (n+m) (xs++news)/\
  w.grownBy (w.drew.alloc (.cells (xs.toArray++news.toArray++Builtin.zeroCells z.cells (grownCap w (n+m) old e-(n+m))) e)) row:=by
  intro hxq old ho row;have hge:=grownCap_ge w (n+m) old e;have hcm:grownCap w (n+m) old e<=maxLen:=grownCap_le_maxLen w (n+m) old e h63;refine⟨⟨hlen,.inr ⟨w.heap.size,_,_,rfl,hbase,heap_alloc_new w.drew _,hge,hcm,?_,?_,?_⟩⟩,⟨rfl,rfl,rfl,by simp,λk hk _=>RowKit.Below.heap_alloc w.drew _ k hk⟩⟩
  ·simp only[Array.size_append,List.size_toArray,size_zeroCells,hzs,hown.1,hl,<-Nat.add_mul]
   congr 1
   omega
  ·simp only[Array.toList_append,List.append_assoc]
   rw[<-List.append_assoc,<-hlen];exact List.take_left
  intro u hu;simp only[Array.toList_append,List.mem_append] at hu;rcases hu with(hu |hu) |hu
  ·exact hxq u hu
  ·exact hq u hu
  exact hzq u (Hy hu)
 rcases hown.2 with⟨rfl,rfl⟩ |⟨g,cap,cur,rfl,hbg,hg,hnc,hcm,hcs,htake,hcq⟩
 ·have hx:xs=[]:=List.eq_nil_of_length_eq_zero (by simpa using hown.1)
  subst hx;by_cases hm:m=0
  ·subst hm
   have hn:news=[]:=List.eq_nil_of_length_eq_zero (by simpa using hl);subst hn;refine⟨.slice none 0 0,w,?_,World.ownsQ_nil w q base e i.size,⟨rfl,rfl,rfl,Lr,λ_ _ _=>rfl⟩,by simp,Or.inl rfl⟩;simp[Builtin.append_,run_underlying ht,sizeOf,typeInfo,hi,Builtin.lenOf,Builtin.firstCells,loadCells,loadCellsFrom]
  have hr:=run_append_nil (P:=P) w t ty e i z ht hi hz a m c news hl hnews (by omega) (by omega) (by have hb:=hbytes;simp only[Nat.zero_add] at hb;omega);have hgr:=grown (by simp) 0 (by omega) (Value.ownBlock (.slice none 0 0));simp only[Nat.zero_add,List.nil_append,Array.empty_append] at hgr⊢;exact⟨_,_,hr,hgr.1,hgr.2,by simp[hm],Or.inr rfl⟩
 by_cases hroom:n+m<=cap
 ·have hfit:n*i.size+news.length<=cur.size:=by rw[hl,hcs,<-Nat.add_mul];exact Nat.mul_le_mul_right _ hroom
  have hr:=run_append_room (P:=P) w t ty e i ht hi g n cap cur hg a m c news hl hnews h1 hroom hfit;refine⟨_,_,hr,⟨hlen,.inr ⟨g,cap,_,rfl,hbg,setRow_heap w g cur _ e _ hg,hroom,hcm,?_,?_,?_⟩⟩,⟨rfl,rfl,rfl,by simp,λk _ hk=>setRow_other w g k _ (λe=>hk (by simp[Value.ownBlock,e]))⟩,by simp,Or.inl rfl⟩
  ·simp only[List.size_toArray,List.length_append,List.length_take,List.length_drop,Array.length_toList]
   omega
  ·rw[htake,<-hlen]
   exact List.take_left
  intro u hu;simp only[List.mem_append] at hu;rcases hu with(hu |hu) |hu
  ·exact hcq u (List.mem_of_mem_take hu)
  ·exact hq u hu
  exact hcq u (List.mem_of_mem_drop hu)
 have holds:∀j u,xs[j]? =some u->w.cell? ((⟨g,0,none⟩:Addr).add j)=some u:=hown.own.cells (g:=g) rfl;have hr:=run_append_grow (P:=P) w t ty e i z ht hi hz ⟨g,0,none⟩ n cap xs hown.1 holds a m c news hl hnews (by omega) (by omega) (growslice_fits (by omega) hbytes);have hgr:=grown (λu hu=>hcq u (List.mem_of_mem_take (by rw[htake];exact hu))) cap (by omega) (Value.ownBlock (.slice (some ⟨g,0,none⟩) n cap));exact⟨_,_,hr,hgr.1,hgr.2,by simp,Or.inr rfl⟩
theorem Lk {o:Oper}{a:Act}{K:Act->World->Prop}{Q:Exit->Act->World->Prop}(s x:Operand)(t:TypeId)
 (ho:o.op= .call {callee:= .builtin .append,args:= #[s,x],argTypes:= #[t,t]})
 (q:Value->Prop) (base:Nat) (e:TypeId) (i:TypeInfo) (z:Value) (size bytes:Nat) (ht:P.underlying t=some (.slice e)) (hi:P.info? e=some i) (hz:i.zero=some z)
 (hsize:i.size=size) (hby:i.bytes=bytes) (hzs:z.cells.size=size) (hsz:0<size) (hzq:∀u∈z.cells.toList,q u)
 (v:Value) (n:Nat) (xs:List Value) (hs:a.eval s=v) (hown:w.ownsQ q base e size v n xs)
 (ad:Addr) (m c:Nat) (news:List Value) (hx:a.eval x= .slice (some ad) m c) (hl:news.length=m*size) (hnews:∀j u,news[j]? =some u->w.cell? (ad.add j)=some u) (h1:∀u∈news,u.oneCell'=true) (hq:∀u∈news,q u)
 (h63:n+m<=maxLen) (hbytes:(n+m)*bytes<=140737488355328) (hbase:base<=w.heap.size)
 (h:∀v' w',w'.ownsQ q base e size v' (n+m) (xs++news)->w.grownBy w' v.ownBlock->(v'= .slice none 0 0↔v= .slice none 0 0/\m=0)->(v'.ownBlock=v.ownBlock\/v'.ownBlock=some w.heap.size)->K (a.put o.dst v') w'):o.wp P a w K Q:=by
 obtain⟨v',w',hr,h2,h3,h4,h5⟩:=Ss (P:=P) w q base t o.type e i z size bytes ht hi hz hsize hby hzs hsz hzq v n xs hown ad m c news hl hnews h1 hq h63 hbytes hbase;unfold Oper.wp execOp;simp only[ho,resolve,invoke,builtin,Sem.run_bind,Sem.run_pure,Result.andThen_ok,List.map_toArray,List.map_cons,List.map_nil,hs,hx,hr];exact h v' w' h2 h3 h4 h5
theorem Qe {ops:Array Oper}{rest:List Oper}{o:Oper}{a:Act}{Q:Exit->Act->World->Prop}(hgd:o.guard=none)(s x:Operand)(t:TypeId)
 (ho:o.op= .call {callee:= .builtin .append,args:= #[s,x],argTypes:= #[t,t]})
 (q:Value->Prop) (base:Nat) (e:TypeId) (i:TypeInfo) (z:Value) (size bytes:Nat) (ht:P.underlying t=some (.slice e)) (hi:P.info? e=some i) (hz:i.zero=some z)
 (hsize:i.size=size) (hby:i.bytes=bytes) (hzs:z.cells.size=size) (hsz:0<size) (hzq:∀u∈z.cells.toList,q u)
 (v:Value) (n:Nat) (xs:List Value) (hs:a.eval s=v) (hown:w.ownsQ q base e size v n xs)
 (ad:Addr) (m c:Nat) (news:List Value) (hx:a.eval x= .slice (some ad) m c) (hl:news.length=m*size) (hnews:∀j u,news[j]? =some u->w.cell? (ad.add j)=some u) (h1:∀u∈news,u.oneCell'=true) (hq:∀u∈news,q u)
 (h63:n+m<=maxLen) (hbytes:(n+m)*bytes<=140737488355328) (hbase:base<=w.heap.size)
 (h:∀v' w',w'.ownsQ q base e size v' (n+m) (xs++news)->w.grownBy w' v.ownBlock->(v'= .slice none 0 0↔v= .slice none 0 0/\m=0)->(v'.ownBlock=v.ownBlock\/v'.ownBlock=some w.heap.size)->wpList P ops Q rest (a.put o.dst v') w'):wpList P ops Q (o::rest) a w:=
 wpList_plain hgd λ_ hK=>Lk w s x t ho q base e i z size bytes ht hi hz hsize hby hzs hsz hzq v n xs hs hown ad m c news hx hl hnews h1 hq h63 hbytes hbase λv' w' h2 h3 h4 h5=>hK _ _ (h v' w' h2 h3 h4 h5)
end
end Go
