/-
  Texts of this proof, joined (by wip/bin/bundle.py): Same21, ParBrackets.
-/
import Derived.Test.YtceplkpjnebnfaaGreatDoorM16
import Derived.Deep.MidRow
set_option linter.all false
set_option maxHeartbeats 8000000
set_option maxRecDepth 100000
namespace Go.Proofs.YtceplkpjnebnfaaGreatDoor
section
open Go.RowKit Tr
namespace S21
def slotsL:List Value→Nat→Value
 | [],_=>undef
 |v::_,0=>v
 |_::l,n+1=>slotsL l n
end S21
open S21
def Jb (s0 s1 s2 s3 s4 s5 s6 s7 s8 s9 s10 s11 s12 s13 s14 s15 s16 s17 s18 s19 s20 s21 s22 s23 s24 s25 s26 s27 s28 s29 s30 s31 s32 s33 s34 s35 s36 s37 s38 s39 s40 s41 s42 s43 s44 s45 s46 s47 s48 s49 s50 s51 s52 s53 s54 s55 s56:Value)(xs:Nat→Value):Act:={tmps:= #[s0,s1,s2,s3,s4,s5,s6,s7,s8,s9,s10,s11,s12,s13,s14,s15,s16,s17,s18,s19,s20,s21,s22,s23,s24,s25,s26,s27,s28,s29,s30,s31,s32,s33,s34,s35,s36,s37,s38,s39,s40,s41,s42,s43,s44,s45,s46,s47,s48,s49,s50,s51,s52,s53,s54,s55,s56,xs 0,xs 1,xs 2,xs 3,xs 4,xs 5,xs 6,xs 7,xs 8,xs 9,xs 10,xs 11],defers:=[]}
def K8 (B0 j n1 n2 c1 c2 b off b2 off2:Nat)(tv uv:List Value):Nat→World→Value→Prop
 | 0,w,v=>v= .pointer (some ⟨B0,7,none⟩)
 | 1,w,v=>v= .slice (some ⟨b,off,none⟩) n1 c1
 | 2,w,v=>v= .int .i64 (j:Int)
 | 3,w,v=>v= .pointer (some ⟨b,off+j*8,none⟩)
 | 4,w,v=>v= .agg tv.toArray
 | 5,w,v=>v= .pointer (some ⟨(B0+1),7,none⟩)
 | 6,w,v=>v= .slice (some ⟨b2,off2,none⟩) n2 c2
 | 7,w,v=>v= .int .i64 (j:Int)
 | 8,w,v=>v= .pointer (some ⟨b2,off2+j*8,none⟩)
 | 9,w,v=>v= .agg uv.toArray
 | 10,w,v=>v= .bool true
 |_,w,v=>v= .bool false
theorem Ux (n:Nat):∀(a:Da) (vs us:List Value) (w:World) (B:Nat),SizeOf.sizeOf a<n→IsTree w B a vs→IsTree w B a us→B≤w.heap.size→
 Calls Tryz.prog 15 #[.agg vs.toArray,.agg us.toArray] w (Oa w true):=by
 induction n with
 |zero=>intro a vs us w B h;omega
 |succ n ih=>
  intro a vs us w B hn h k0 hB;obtain⟨k,o,m,nm,t,l⟩:=a;obtain⟨W1,hW1⟩:∃W,W=w.alloc (.cells vs.toArray 28):=⟨_,rfl⟩;obtain⟨A1,A2,A3,A4,c1,c2,c3,c4,ks,HO,HL,HC,hV8,HG,hWl,hWb⟩:=Tb h hW1;have hs1:W1.heap.size=w.heap.size+1:=by rw[hW1];simp
  obtain⟨W,hW⟩:∃W,W=W1.alloc (.cells us.toArray 28):=⟨_,rfl⟩;obtain⟨D1,D2,D3,D4,d1,d2,d3,d4,js,JO,JL,JC,hU8,JG,hWl2,hWb2⟩:=Tb (k0.below (hWb.mono hB)) hW;rw[hs1] at hU8;have hWW:Below w.heap.size w W:=hWb.trans (hWb2.mono (by omega));have hsW:W.heap.size=w.heap.size+2:=by rw[hW];simp[hs1]
  have HV:Hid (∀wx,Below W.heap.size W wx→At8 wx w.heap.size 0 k o m nm t l.length A1 A2 A3 A4 c1 c2 c3 c4):=Qd (λwx hx=>hV8.keep (λq=>(hx.cell (p:=⟨w.heap.size,q,none⟩) (by show w.heap.size<_;omega)).trans (hWb2.cell (p:=⟨w.heap.size,q,none⟩) (by show w.heap.size<_;omega))));have HU:Hid (∀wx,Below W.heap.size W wx→At8 wx (w.heap.size+1) 0 k o m nm t l.length D1 D2 D3 D4 d1 d2 d3 d4):=Qd (λwx hx=>hU8.keep (λq=>hx.cell (p:=⟨w.heap.size+1,q,none⟩) (by show w.heap.size+1<_;omega)));have HQ:Hid (∀wx,Below W.heap.size W wx→wx.cell? ⟨w.heap.size,7,none⟩=some (.slice A4 l.length c4)):=Qd (λwx hx=>(HV.out wx hx).p7);have HP:Hid (∀wx,Below W.heap.size W wx→wx.cell? ⟨w.heap.size+1,7,none⟩=some (.slice D4 l.length d4)):=Qd (λwx hx=>(HU.out wx hx).p7);have HKB:Hid (∀wx,Below W.heap.size W wx→∀p:Addr,p.block<B→wx.cell? p=w.cell? p):=Qd (λwx hx p hp=>by rw[hx.cell (by omega),hWW.cell (by omega)]);have HSZ:=Qd (λ(i:Nat) (hi:i<l.length)=>(by have:=Ch (k:=k) (o:=o) (m:=m) (n:=nm) (t:=t) hi;omega:SizeOf.sizeOf l[i]<n));have hf1:=HO.out.f1;have hf2:=HO.out.f2;have hf3:=HO.out.f3;have hf4:=HO.out.f4.le (by omega);have RS:Hid (∀wx,Below W.heap.size W wx→Calls Tryz.prog 30 #[.agg #[.bool nm.neg,.slice A1 nm.top.length c1,.slice A2 nm.bot.length c2],.agg #[.bool nm.neg,.slice D1 nm.top.length d1,.slice D2 nm.bot.length d2]] wx (Oa wx true)):=Qd (λwx hx=>by
   have hk:=HKB.out wx hx;have:=Dh nm.neg nm.neg nm.top nm.top nm.bot nm.bot A1 A2 D1 D2 c1 c2 d1 d2 wx B (HO.out.l1.keep hk) ((JO.out.l1.keep (λp hp=>(hk p hp).trans (hWb.cell (Nat.lt_of_lt_of_le hp hB)).symm))) (HO.out.l2.keep hk) ((JO.out.l2.keep (λp hp=>(hk p hp).trans (hWb.cell (Nat.lt_of_lt_of_le hp hB)).symm))) (by have:=hx.size;omega) (by have:=hf1.1;have:=hf1.2.2;omega) (by have:=hf1.1;have:=hf1.2.2;omega) (by have:=hf2.1;have:=hf2.2.2;omega) (by have:=hf2.1;have:=hf2.2.2;omega);have e:Vc nm.neg nm.neg nm.top nm.top nm.bot nm.bot=true:=by simp[Vc]
   rw[e] at this;exact this)
  have IS:Hid (∀wx,Below W.heap.size W wx→Calls Tryz.prog 31 #[.slice A3 t.length c3,.slice D3 t.length d3] wx (Oa wx true)):=Qd (λwx hx=>by
   have hk:=HKB.out wx hx;have:=Uq t t A3 D3 c3 d3 wx B (HO.out.l3.keep hk) (JO.out.l3.keep (λp hp=>(hk p hp).trans (hWb.cell (Nat.lt_of_lt_of_le hp hB)).symm)) (by have:=hf3.1;have:=hf3.2.2;omega) (by have:=hf3.1;have:=hf3.2.2;omega);have e:(t==t)=true:=by simp
   rw[e] at this;exact this)
  have e0:(k !=k)=false:=by simp
  have e1:(o !=o)=false:=by simp
  have e7:((l.length:Int)!=(l.length:Int))=false:=by simp
  obtain⟨q0,q1,q2,q3,q4,q5,q6,q7⟩:=HV.out W (Below.refl _ _);obtain⟨p0,p1,p2,p3,p4,p5,p6,p7⟩:=HU.out W (Below.refl _ _);have HWB:=Qd hWW;have HWS:Hid (w.heap.size≤W.heap.size):=Qd (by omega);have HW:Hid (W=(w.alloc (.cells vs.toArray 28)).alloc (.cells us.toArray 28)):=Qd (by rw[hW,hW1]);have HB2:Hid (B≤W.heap.size):=Qd (by omega);have JC2:Hid (IsTrees w B l js):=Qd (IsTrees.keep (λp hp=>(hWb.cell (Nat.lt_of_lt_of_le hp hB)).symm) (Nat.le_refl _) _ _ JC.out);have JL2:Hid (Lies w B D4 js):=Qd (JL.out.keep (λp hp=>(hWb.cell (Nat.lt_of_lt_of_le hp hB)).symm));clear h k0 hW hW1 HO JO HG JG hV8 hU8 hWb hWb2 hWl hWl2 hWW hs1 hsW JC JL hn hf1 hf2 hf3;go_enter Tryz.func15,Tryz.ntmps15
  go_upto_region 1 with fail
  rw[←HW.out];go_wp2_with fail
  refine(RS.out W (Below.refl _ _)).mono ?_;rintro e w2 ⟨rfl,hb2⟩;clear q0 q1 q2 q3 q4 q5 q6 q7 p0 p1 p2 p3 p4 p5 p6 p7;have q6:=(HV.out w2 hb2).p6;have q7:=(HV.out w2 hb2).p7;have p6:=(HU.out w2 hb2).p6;have p7:=(HU.out w2 hb2).p7;go_wp2_with fail
  refine(IS.out w2 hb2).mono ?_;rintro e w3 ⟨rfl,hb3⟩;have hb3':=hb2.trans (hb3.mono hb2.size);clear q6 q7 p6 p7;have q7:=HQ.out w3 hb3';have p7:=HP.out w3 hb3';go_wp2_with fail
  go_loopw [5] (λi wr=>∃(j:Nat),j≤l.length∧i= .int .i64 j∧Below W.heap.size W wr) (λi _=>l.length-(intOf i).toNat)
  case atStart=>exact⟨0,Nat.zero_le _,rfl,hb3'⟩
  case round=>
   clear q7 p7;obtain⟨j,hj,rfl,hbel⟩:=hrel;have q7:=HQ.out wr hbel;by_cases hlt:j<l.length
   ·obtain⟨b,off,tv,rfl,hb,HT,HR⟩:=Nd HC.out HL.out (HKB.out wr hbel) hlt
    obtain⟨b2,off2,uv,rfl,hbb,HT2,HRR⟩:=Nd JC2.out JL2.out (HKB.out wr hbel) hlt;have hblt:b<wr.heap.size:=by have:=hbel.size;have:=HB2.out;omega
    have hblt2:b2<wr.heap.size:=by have:=hbel.size;have:=HB2.out;omega
    have HR1:Hid (∀wx,Below wr.heap.size wr wx→wx.rangeAt b (off+j*8) tv):=Qd (λwx hx q v hv=>(hx.cell (p:=⟨b,off+j*8+q,none⟩) hblt).trans (HR.out q v hv));have HR2:Hid (∀wx,Below wr.heap.size wr wx→wx.rangeAt b2 (off2+j*8) uv):=Qd (λwx hx q v hv=>(hx.cell (p:=⟨b2,off2+j*8+q,none⟩) hblt2).trans (HRR.out q v hv));have IH:=Qd (λ(wx:World) (hx:Below wr.heap.size wr wx)=>ih l[j] tv uv wx B (HSZ.out j hlt) (HT.out.keep (HKB.out wx (hbel.trans (hx.mono hbel.size))) (Nat.le_refl _)) (HT2.out.keep (HKB.out wx (hbel.trans (hx.mono hbel.size))) (Nat.le_refl _)) (by have:=hbel.size;have:=hx.size;have:=HB2.out;omega));have HI1:=Qd (Ld HT.out);have HI2:=Qd (Ld HT2.out);have hj0:(0:Int)≤(j:Int):=by omega
    have hj1:(j:Int)<(l.length:Int):=by omega
    clear HT HT2 hb hbb HR HRR;go_upto_region 6 with fail
    refine Ic (Jb _ _ _ _ _ _ _ _ _ _ _ _ _ _ _ _ _ _ _ _ _ _ _ _ _ _ _ _ _ _ _ _ _ _ _ _ _ _ _ _ _ _ _ _ _ _ _ _ _ _ _ _ _ _ _ _ _) wr (K8 w.heap.size j l.length l.length c4 d4 b off b2 off2 tv uv) (by kernel_rfl) ?_ (by kernel_rfl) (S21.slotsL [_,_,_,_,_,_,_,_,_,_,_,_]) rfl (Below.refl _ _) ?_ ?_
    ·intro i w1 w2 v hv hb
     match i with
     | 0=>exact hv
     | 1=>exact hv
     | 2=>exact hv
     | 3=>exact hv
     | 4=>exact hv
     | 5=>exact hv
     | 6=>exact hv
     | 7=>exact hv
     | 8=>exact hv
     | 9=>exact hv
     | 10=>exact hv
     |i+11=>exact hv
    ·intro i xs w1 hi hb hdep
     have hi6:i<12:=hi;clear hi;rcases(show i=0∨i=1∨i=2∨i=3∨i=4∨i=5∨i=6∨i=7∨i=8∨i=9∨i=10∨i=11 by omega) with rfl |rfl |rfl |rfl |rfl |rfl |rfl |rfl |rfl |rfl |rfl |rfl
     ·refine Ba rfl rfl ?_
      unfold Jb Oper.wp;go_simp
      exact⟨_,by simp only[Jb,Ja];simp[Act.put],rfl,Below.refl _ _⟩
     ·have h0:xs 0= .pointer (some ⟨w.heap.size,7,none⟩):=hdep 0 (by kernel_rfl)
      refine Ba rfl rfl ?_;have qq:=HQ.out w1 (hbel.trans (hb.mono hbel.size));unfold Jb Oper.wp;simp only[h0];go_simp
      exact⟨_,by simp only[Jb,Ja];simp[Act.put,h0],rfl,Below.refl _ _⟩
     ·refine Ba rfl rfl ?_
      unfold Jb Oper.wp;go_simp
      exact⟨_,by simp only[Jb,Ja];simp[Act.put],rfl,Below.refl _ _⟩
     ·have h1:xs 1= .slice (some ⟨b,off,none⟩) l.length c4:=hdep 1 (by kernel_rfl)
      have h2:xs 2= .int .i64 (j:Int):=hdep 2 (by kernel_rfl);refine Ba rfl rfl ?_;unfold Jb Oper.wp;simp only[h1,h2];go_simp
      exact⟨_,by simp only[Jb,Ja];simp[Act.put,h1,h2],rfl,Below.refl _ _⟩
     ·have h3:xs 3= .pointer (some ⟨b,off+j*8,none⟩):=hdep 3 (by kernel_rfl)
      refine Ba rfl rfl ?_;refine wp_load_mid 28 (.tmp 60) rfl b (off+j*8) (by unfold Jb;simp only[h3];rfl) tv _ (HR1.out w1 hb) Tryz.underlying28 rfl HI1.out ?_;exact⟨_,by simp only[Jb,Ja];simp[Act.put,h3],rfl,Below.refl _ _⟩
     ·refine Ba rfl rfl ?_
      unfold Jb Oper.wp;go_simp
      exact⟨_,by simp only[Jb,Ja];simp[Act.put],rfl,Below.refl _ _⟩
     ·have h5:xs 5= .pointer (some ⟨(w.heap.size+1),7,none⟩):=hdep 5 (by kernel_rfl)
      refine Ba rfl rfl ?_;have qq:=HP.out w1 (hbel.trans (hb.mono hbel.size));unfold Jb Oper.wp;simp only[h5];go_simp
      exact⟨_,by simp only[Jb,Ja];simp[Act.put,h5],rfl,Below.refl _ _⟩
     ·refine Ba rfl rfl ?_
      unfold Jb Oper.wp;go_simp
      exact⟨_,by simp only[Jb,Ja];simp[Act.put],rfl,Below.refl _ _⟩
     ·have h6:xs 6= .slice (some ⟨b2,off2,none⟩) l.length d4:=hdep 6 (by kernel_rfl)
      have h7:xs 7= .int .i64 (j:Int):=hdep 7 (by kernel_rfl);refine Ba rfl rfl ?_;unfold Jb Oper.wp;simp only[h6,h7];go_simp
      exact⟨_,by simp only[Jb,Ja];simp[Act.put,h6,h7],rfl,Below.refl _ _⟩
     ·have h8:xs 8= .pointer (some ⟨b2,off2+j*8,none⟩):=hdep 8 (by kernel_rfl)
      refine Ba rfl rfl ?_;refine wp_load_mid 28 (.tmp 65) rfl b2 (off2+j*8) (by unfold Jb;simp only[h8];rfl) uv _ (HR2.out w1 hb) Tryz.underlying28 rfl HI2.out ?_;exact⟨_,by simp only[Jb,Ja];simp[Act.put,h8],rfl,Below.refl _ _⟩
     ·have h4:xs 4= .agg tv.toArray:=hdep 4 (by kernel_rfl)
      have h9:xs 9= .agg uv.toArray:=hdep 9 (by kernel_rfl);refine Ba rfl rfl ?_;unfold Jb Oper.wp;simp only[h4,h9];go_simp
      refine(IH.out w1 hb).mono ?_;rintro e w2 ⟨rfl,hb2⟩;exact⟨_,by simp only[Jb,Ja];simp[Act.put,h4,h9],rfl,hb2⟩
     have h10:xs 10= .bool true:=hdep 10 (by kernel_rfl);refine Ba rfl rfl ?_;unfold Jb Oper.wp;simp only[h10];go_simp
     exact⟨_,by simp only[Jb,Ja];simp[Act.put,h10],rfl,Below.refl _ _⟩
    intro xs w1 hb hx;have h11:xs 11= .bool false:=hx 11 (by decide);clear hx;unfold Jb;simp only[h11];clear h11;have hbx:=hbel.trans (hb.mono hbel.size);have HBX:=Qd hbx;clear hb hbx;go_wp2_with fail
    go_roundw
    case rel=>exact⟨j+1,by omega,by go_num,HBX.out⟩
    case measure=>simp[intOf];omega
   go_wp2_with fail
   go_ret;exact⟨rfl,HWB.out.trans (hbel.mono HWS.out)⟩
end
section
open Go.RowKit Tr
theorem Pp {s:ByteArray}{t:Da}(h:Bc s=some t):(Tk.cut s).2.2=0∧Pr.lineT (Tk.cut s).1=some t∧∃l,t=Pr.node 28 0 [] l:=by
 unfold Bc at h
 split at h
 ·rename_i h0
  refine⟨h0,?_⟩
  split at h
  ·rename_i t' ht
   split at h
   ·injection h with h
    subst h;refine⟨ht,?_⟩;unfold Pr.lineT at ht
    split at ht
    ·injection ht with ht
     exact⟨_,ht.symm⟩
    cases ht
   cases h
  cases h
 cases h
theorem M8 {s:ByteArray}{c:Da}(hs:s.size≤1000)(hc:Tk.noCom s)(h:Bc s=some (Pr.node 28 0 [] [c]))(hk:kind c≠27):Bc (((⟨#[40]⟩:ByteArray)++s)++⟨#[41]⟩)=some (Pr.node 28 0 [] [c]):=by
 obtain⟨h1,h2,-⟩:=Pp h;have hr:=(Mv h).1;obtain⟨k1,k2⟩:=Pr.brackets (a:=⟨#[40]⟩) (b:=⟨#[41]⟩) hs hc (by kernel_rfl) (by decide) (by kernel_rfl) h1 h2 hk;rw[ByteArray.append_assoc];unfold Bc;rw[if_pos k1,k2];show(if right (Pr.node 28 0 [] [c])=true then _ else _)=_;rw[if_pos hr]
theorem Yk (s:ByteArray)(w:World)(hs:s.size≤maxLen)(_:True):
 Calls Tryz.prog 5 #[.string s] w λe w'=>e= .returned (.bool true)∧Below w.heap.size w w':=by
 have AW:=Qd (λwx=>Vl wx);have LNE:=Qd (λ(t:ByteArray) (h:t.size≤10000) wx=>Jm t h wx);have hmax:(maxLen:Nat)=9223372036854775807:=rfl;go_enter Tryz.func5,Tryz.ntmps5
 go_upto_if 11 with fail
 go_cut [0] from 12 (λx0 wx=>wx=w∧∃t:ByteArray,x0= .string t∧t.size≤600)
 case first=>
  by_cases hbig:600<s.size
  ·go_wp2_with fail
   go_meet
   refine⟨rfl,_,rfl,?_⟩;rw[ByteArray.size_extract];omega
  go_wp2_with fail
  go_meet
  exact⟨rfl,s,rfl,by omega⟩
 case rest=>
  obtain⟨hwx,t,rfl,ht⟩:=hcut;rw[hwx];clear hwx hs;have LN:=Qd (LNE.out t (by omega) w);obtain⟨HI⟩:Nonempty Vb:=⟨⟨0⟩⟩;go_wp2_with fail
  refine LN.out.mono ?_;rintro e w1 ⟨hb1,h⟩;rcases h with⟨a,x,hga,rfl,hT⟩ |⟨hn,at_,f,hat,hf,rfl⟩
  ·obtain⟨-,-,l,rfl⟩:=Pp hga
   have hn4:=(C8.eqs hT).2.2.2;obtain⟨w2,hw2⟩:∃w2,w2=w1.alloc (.cells #[.int .i64 x.k,.int .i64 x.o,.string ⟨x.m.toArray⟩,.bool x.g,.slice x.A1 x.n1 x.c1,.slice x.A2 x.n2 x.c2,.slice x.A3 x.n3 x.c3,.slice x.A4 x.n4 x.c4] 28):=⟨_,rfl⟩;have hb2:Below w1.heap.size w1 w2:=by rw[hw2];exact(Below.refl _ _).alloc (Nat.le_refl _) _
   have hwl:w1.heap.size<w2.heap.size:=by rw[hw2];simp
   have B2:Hid (∀wx,Below w2.heap.size w2 wx→wx.heap[w1.heap.size]? =some (.cells #[.int .i64 x.k,.int .i64 x.o,.string ⟨x.m.toArray⟩,.bool x.g,.slice x.A1 x.n1 x.c1,.slice x.A2 x.n2 x.c2,.slice x.A3 x.n3 x.c3,.slice x.A4 x.n4 x.c4] 28 (0,0))):=Qd (λwx hx=>(hx.block _ hwl).trans (by rw[hw2];exact heap_alloc_new w1 _));have q7:w2.cell? ⟨w1.heap.size,7,none⟩=some (.slice x.A4 x.n4 x.c4):=(cell_of_row w2 w1.heap.size 7 _ _ _ (B2.out w2 (Below.refl _ _))).trans rfl;have HB2:Hid (Below w.heap.size w w2):=Qd (hb1.trans (hb2.mono hb1.size));have HT2:Hid (∀wx,Below w2.heap.size w2 wx→IsTree wx w1.heap.size (Pr.node 28 0 [] l) x.l):=Qd (λwx hx=>hT.below (hb2.trans (hx.mono hb2.size)));have HW2:=Qd hw2;have hbs:w.heap.size≤w2.heap.size:=HB2.out.size;have HGA:=Qd hga;have HN4:Hid (x.n4=l.length):=Qd hn4;clear hga hT hw2 hb1 hn4;go_upto_region 4 with fail
   rw[←HW2.out];by_cases hl1:l.length=1
   ·obtain⟨c,rfl⟩:∃c,l=[c]:=by
     clear HGA HT2 HN4;cases l with
     |nil=>cases hl1
     |cons c r=>
      cases r with
      |nil=>exact⟨c,rfl⟩
      |cons _ _=>simp at hl1
    obtain⟨A1,A2,A3,A4,c1,c2,c3,c4,us,hvs,HO,HL,HC⟩:=(HT2.out w2 (Below.refl _ _)).open_;have hA4:=(C8.all hvs).2.2.2.1;obtain⟨b,off,B1,B3,B4,B5,d1,d2,d3,d4,hAe,hb,-,hat⟩:=Wg (i:=0) HC.out HL.out (λ_ _=>rfl) (by simp);have p0:=hat.p0;rw[Nat.zero_mul,Nat.add_zero] at p0;have p0':w2.cell? ⟨b,off,none⟩=some (.int .i64 (kind c)):=p0;have hx4:x.A4=some ⟨b,off,none⟩:=hA4.trans hAe;have hx1:x.n4=1:=HN4.out;rw[hx4,hx1] at q7;clear hat p0 hvs HO HL HC hA4 hAe hb hl1 hx4 hx1;by_cases hk:kind c=27
    ·have ek:(kind c==27)=true:=by simp[hk]
     clear hk;go_wp2_with fail
     refine(AW.out _).mono ?_;rintro e w4 ⟨rfl,hb4⟩;go_wp2_with fail
     go_ret;exact⟨rfl,HB2.out.trans (hb4.mono hbs)⟩
    have ek:(kind c==27)=false:=by simp[hk]
    have CM:=Qd (Mu t (by omega) w2);go_wp2_with fail
    refine CM.out.mono ?_;rintro e w3 ⟨cm,rfl,hcm,hb3⟩;have HB3:Hid (Below w.heap.size w w3):=Qd (HB2.out.trans (hb3.mono hbs));have hbs3:w.heap.size≤w3.heap.size:=HB3.out.size;have HB23:=Qd hb3;clear hb3;cases cm
    ·have GI:=M8 (by omega) (hcm rfl) HGA.out hk
     have L2:=Qd (LNE.out (((⟨#[40]⟩:ByteArray)++t)++⟨#[41]⟩) (by rw[ByteArray.size_append,ByteArray.size_append];show 1+t.size+1≤_;omega) w3);clear hcm hk q7 p0';go_wp2_with fail
     refine L2.out.mono ?_;rintro e w4 ⟨hb4,h⟩;rcases h with⟨a2,y,hga2,rfl,hT4⟩ |⟨hn,_⟩
     ·rw[GI] at hga2
      injection hga2 with hga2
      subst hga2;obtain⟨w5,hw5⟩:∃w5,w5=w4.alloc (.cells #[.int .i64 y.k,.int .i64 y.o,.string ⟨y.m.toArray⟩,.bool y.g,.slice y.A1 y.n1 y.c1,.slice y.A2 y.n2 y.c2,.slice y.A3 y.n3 y.c3,.slice y.A4 y.n4 y.c4] 28):=⟨_,rfl⟩;have hb5:Below w4.heap.size w4 w5:=by rw[hw5];exact(Below.refl _ _).alloc (Nat.le_refl _) _
      have h35:Below w3.heap.size w3 w5:=hb4.trans (hb5.mono hb4.size);have h25:Below w2.heap.size w2 w5:=HB23.out.trans (h35.mono HB23.out.size);have X5:=B2.out w5 h25;have Y5:w5.heap[w4.heap.size]? =some (.cells #[.int .i64 y.k,.int .i64 y.o,.string ⟨y.m.toArray⟩,.bool y.g,.slice y.A1 y.n1 y.c1,.slice y.A2 y.n2 y.c2,.slice y.A3 y.n3 y.c3,.slice y.A4 y.n4 y.c4] 28 (0,0)):=by rw[hw5];exact heap_alloc_new w4 _
      have HB5:Hid (Below w.heap.size w w5):=Qd (HB3.out.trans (h35.mono hbs3));have hbs5:w.heap.size≤w5.heap.size:=HB5.out.size;have SM:Hid (Calls Tryz.prog 15 #[.agg #[.int .i64 x.k,.int .i64 x.o,.string ⟨x.m.toArray⟩,.bool x.g,.slice x.A1 x.n1 x.c1,.slice x.A2 x.n2 x.c2,.slice x.A3 x.n3 x.c3,.slice x.A4 x.n4 x.c4],.agg #[.int .i64 y.k,.int .i64 y.o,.string ⟨y.m.toArray⟩,.bool y.g,.slice y.A1 y.n1 y.c1,.slice y.A2 y.n2 y.c2,.slice y.A3 y.n3 y.c3,.slice y.A4 y.n4 y.c4]] w5 (Oa w5 true)):=Qd (Ux _ (Pr.node 28 0 [] [c]) x.l y.l w5 w4.heap.size (Nat.lt_succ_self _) ((HT2.out w5 h25).more (Nat.le_trans (Nat.le_of_lt hwl) (Nat.le_trans HB23.out.size hb4.size))) (hT4.below hb5) hb5.size);have q0:w5.cell? ⟨w1.heap.size,0,none⟩=some (.int .i64 x.k):=(cell_of_row w5 (w1.heap.size) 0 _ _ _ X5).trans rfl;have q1:w5.cell? ⟨w1.heap.size,1,none⟩=some (.int .i64 x.o):=(cell_of_row w5 (w1.heap.size) 1 _ _ _ X5).trans rfl;have q2:w5.cell? ⟨w1.heap.size,2,none⟩=some (.string ⟨x.m.toArray⟩):=(cell_of_row w5 (w1.heap.size) 2 _ _ _ X5).trans rfl;have q3:w5.cell? ⟨w1.heap.size,3,none⟩=some (.bool x.g):=(cell_of_row w5 (w1.heap.size) 3 _ _ _ X5).trans rfl;have q4:w5.cell? ⟨w1.heap.size,4,none⟩=some (.slice x.A1 x.n1 x.c1):=(cell_of_row w5 (w1.heap.size) 4 _ _ _ X5).trans rfl;have q5:w5.cell? ⟨w1.heap.size,5,none⟩=some (.slice x.A2 x.n2 x.c2):=(cell_of_row w5 (w1.heap.size) 5 _ _ _ X5).trans rfl;have q6:w5.cell? ⟨w1.heap.size,6,none⟩=some (.slice x.A3 x.n3 x.c3):=(cell_of_row w5 (w1.heap.size) 6 _ _ _ X5).trans rfl;have q7:w5.cell? ⟨w1.heap.size,7,none⟩=some (.slice x.A4 x.n4 x.c4):=(cell_of_row w5 (w1.heap.size) 7 _ _ _ X5).trans rfl;have p0:w5.cell? ⟨w4.heap.size,0,none⟩=some (.int .i64 y.k):=(cell_of_row w5 (w4.heap.size) 0 _ _ _ Y5).trans rfl;have p1:w5.cell? ⟨w4.heap.size,1,none⟩=some (.int .i64 y.o):=(cell_of_row w5 (w4.heap.size) 1 _ _ _ Y5).trans rfl;have p2:w5.cell? ⟨w4.heap.size,2,none⟩=some (.string ⟨y.m.toArray⟩):=(cell_of_row w5 (w4.heap.size) 2 _ _ _ Y5).trans rfl;have p3:w5.cell? ⟨w4.heap.size,3,none⟩=some (.bool y.g):=(cell_of_row w5 (w4.heap.size) 3 _ _ _ Y5).trans rfl;have p4:w5.cell? ⟨w4.heap.size,4,none⟩=some (.slice y.A1 y.n1 y.c1):=(cell_of_row w5 (w4.heap.size) 4 _ _ _ Y5).trans rfl;have p5:w5.cell? ⟨w4.heap.size,5,none⟩=some (.slice y.A2 y.n2 y.c2):=(cell_of_row w5 (w4.heap.size) 5 _ _ _ Y5).trans rfl;have p6:w5.cell? ⟨w4.heap.size,6,none⟩=some (.slice y.A3 y.n3 y.c3):=(cell_of_row w5 (w4.heap.size) 6 _ _ _ Y5).trans rfl;have p7:w5.cell? ⟨w4.heap.size,7,none⟩=some (.slice y.A4 y.n4 y.c4):=(cell_of_row w5 (w4.heap.size) 7 _ _ _ Y5).trans rfl;have HW5:=Qd hw5;clear hT4 hw5 hb5 h35 h25 X5 Y5 hb4 GI;go_upto_region 7 with fail
      rw[←HW5.out];go_wp2_with fail
      refine SM.out.mono ?_;rintro e w6 ⟨rfl,hb6⟩;have HB6:Hid (Below w.heap.size w w6):=Qd (HB5.out.trans (hb6.mono hbs5));have hbs6:w.heap.size≤w6.heap.size:=HB6.out.size;clear hb6;go_wp2_with fail
      refine(AW.out _).mono ?_;rintro e w7 ⟨rfl,hb7⟩;go_wp2_with fail
      go_ret;exact⟨rfl,HB6.out.trans (hb7.mono hbs6)⟩
     rw[GI] at hn;cases hn
    clear hcm;go_wp2_with fail
    refine(AW.out _).mono ?_;rintro e w4 ⟨rfl,hb4⟩;go_wp2_with fail
    go_ret;exact⟨rfl,HB3.out.trans (hb4.mono hbs3)⟩
   have en:((x.n4:Int)!=1)=true:=by rw[HN4.out];simp;omega
   clear hl1;go_wp2_with fail
   refine(AW.out _).mono ?_;rintro e w4 ⟨rfl,hb4⟩;go_wp2_with fail
   go_ret;exact⟨rfl,HB2.out.trans (hb4.mono hbs)⟩
  have ef:(f !=0)=true:=by simpa using hf
  have HB1:=Qd hb1;have hbs:w.heap.size≤w1.heap.size:=hb1.size;clear hn hf hb1;go_wp2_with fail
  refine(AW.out _).mono ?_;rintro e w4 ⟨rfl,hb4⟩;go_wp2_with fail
  go_ret;exact⟨rfl,HB1.out.trans (((Below.refl _ _).alloc (Nat.le_refl _) _).trans (hb4.mono (by simp))|>.mono hbs)⟩
end
end Go.Proofs.YtceplkpjnebnfaaGreatDoor
