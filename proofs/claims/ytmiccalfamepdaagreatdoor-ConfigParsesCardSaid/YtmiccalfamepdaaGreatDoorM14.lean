/- Texts of this proof, joined. -/
import Derived.Test.YtmiccalfamepdaaGreatDoorM13
import Derived.Deep.Cut
import Derived.Deep.RegionHeld3
import Derived.Lib.SliceRun
import Derived.Lib.AtoiAllCases
set_option linter.all false
set_option maxHeartbeats 8000000
set_option maxRecDepth 100000
namespace Go.Proofs.YtmiccalfamepdaaGreatDoor
open Go.RowKit
theorem Tja {s:List UInt8}(h:2<=s.length)(h0:s[0].toNat=194)(h1:s[1].toNat=175):Lib.hasPrefix s [194,175]=true/\Lib.trimPrefix s [194,175]=s.drop 2:=by
 match s,h with
 |a::b::t,_=>
  simp at h0 h1;have e0:a=194:=UInt8.toNat_inj.1 h0;have e1:b=175:=UInt8.toNat_inj.1 h1;subst e0 e1;exact⟨rfl,rfl⟩
theorem Mla {s:List UInt8}(h:∀h:2<=s.length,¬(s[0].toNat=194/\s[1].toNat=175)):Lib.hasPrefix s [194,175]=false/\Lib.trimPrefix s [194,175]=s:=by
 have hp:Lib.hasPrefix s [194,175]=false:=by
  unfold Lib.hasPrefix
  match s,h with
  | [],_=>rfl
  | [a],_=>simp[List.isPrefixOf]
  |a::b::t,h=>
   simp[List.isPrefixOf];intro e0 e1;exact h (by simp) ⟨by simp[<-e0],by simp[<-e1]⟩
 refine⟨hp,?_⟩;unfold Lib.trimPrefix;rw[hp];rfl
theorem Jl {w:World}{v:Value}{t:List UInt8}(h:IsRes w v (Nt.digs (Ten.numOf t)))(hd:∀b∈t,Ten.isDig b)(hs:t.length<=500):ResL w v (Nt.digs (Ten.numOf t)):=⟨h,Nt.ok_digs _,by have:=Dg.limbs_le hd 56 (by omega);omega⟩
theorem Nn (neg:Bool)(v1 v2:Value)(x y:Nat)(w:World)(h1:ResL w v1 (Nt.digs x))(h2:ResL w v2 (Nt.digs y)):
 Calls Tryz.prog 109 #[.agg #[.bool neg,v1],.agg #[.bool false,v2]] w (MakeOut w (Rt.mk neg false x y)):=by
 have:=Rz neg false v1 v2 _ _ w h1 h2;rwa[Nt.val_digs,Nt.val_digs] at this
theorem X8 {w:World}{g:Nat}{t:TypeId}{x y z:Value}(h:w.heap[g]? =some (.cells #[x,y,z] t (0,0)))(a b c:Value):((w.setCell ⟨g,0,none⟩ a).setCell ⟨g,1,none⟩ b).setCell ⟨g,2,none⟩ c=w.setRow g #[a,b,c]:=by
 obtain⟨heap,os,tape,output,drawn⟩:=w;simp only[World.setCell,World.setRow] at h⊢
 congr 1
 apply Array.ext_getElem?
 intro i;simp only[Array.getElem?_modify];by_cases e:g=i
 ·subst e
  simp[h]
 simp[e]
theorem My (s:List UInt8)(w:World)(hs:s.length<=1000000):
 Calls Tryz.prog 130 #[.string ⟨s.toArray⟩] w (MakeOut w (Dg.parse s)):=by
 rw[Tw];have hcl:=S8 s [194,175];have HGA:Hid ((w.alloc (.cells #[.bool false,.slice none 0 0,.slice none 0 0] 83)).heap[w.heap.size]? =some (.cells #[.bool false,.slice none 0 0,.slice none 0 0] 83 (0,0))):=Qd (heap_alloc_new w _);have hb0:Below w.heap.size w (w.alloc (.cells #[.bool false,.slice none 0 0,.slice none 0 0] 83)):=Br.alloc Lr _;have HYES:=Qd (λh h0 h1=>Tja (s:=s) h h0 h1);have HNO:=Qd (λh=>Mla (s:=s) h);have HSF:=Qd (Hl s 2);generalize Lib.trimPrefix s [194,175]=t at*;generalize Lib.hasPrefix s [194,175]=neg at*;have htl:t.length<=1000000:=by omega
 clear hcl;obtain⟨W,hW⟩:∃W,W=w.alloc (.cells #[.bool false,.slice none 0 0,.slice none 0 0] 83):=⟨_,rfl⟩;rw[<-hW] at HGA hb0;have HW:=Qd hW;clear hW;have hsz:(⟨t.toArray⟩:ByteArray).size=t.length:=rfl;have HSZ:=Qd hsz;clear hsz;go_enter Tryz.func130,Tryz.ntmps130
 go_upto_region 1 with fail
 rw[<-HW.out];go_cut [4] from 9 (λn wx=>n= .bool neg/\wx=W/\Hid ((neg=true->t=s.drop 2/\2<=s.length)/\(neg=false->t=s)))
 case first=>
  by_cases h2:2<=s.length
  ·obtain⟨x0,hx0⟩:∃x,x=s[0].toNat:=⟨_,rfl⟩
   obtain⟨x1,hx1⟩:∃x,x=s[1].toNat:=⟨_,rfl⟩;have g0:((⟨s.toArray⟩:ByteArray)[0]'(show 0<(⟨s.toArray⟩:ByteArray).size from by show 0<s.length;omega)).toNat=x0:=hx0.symm;have g1:((⟨s.toArray⟩:ByteArray)[1]'(show 1<(⟨s.toArray⟩:ByteArray).size from by show 1<s.length;omega)).toNat=x1:=hx1.symm;have i0:0<s.length:=by omega
   have i1:1<s.length:=by omega
   have HX0:=Qd hx0;have HX1:=Qd hx1;clear hx0 hx1;by_cases e0:x0=194
   ·have q0:((x0:Int)==194)=true:=by rw[e0];rfl
    by_cases e1:x1=175
    ·have q1:((x1:Int)==175)=true:=by rw[e1];rfl
     have HP:=Qd (HYES.out h2 (by rw[<-HX0.out];exact e0) (by rw[<-HX1.out];exact e1));have HH2:=Qd h2;clear e0 e1;go_wp2_with fail
     go_meet
     exact⟨by rw[HP.out.1],rfl,Qd ⟨λ_=>⟨HP.out.2,HH2.out⟩,(λh=>by rw[HP.out.1] at h;cases h)⟩⟩
    have q1:((x1:Int)==175)=false:=beq_eq_false_iff_ne.2 (by omega);have HP:=Qd (HNO.out (λ_ h=>e1 (by rw[HX1.out];exact h.2)));clear e0 e1;go_wp2_with fail
    go_meet
    exact⟨by rw[HP.out.1],rfl,Qd ⟨(λh=>by rw[HP.out.1] at h;cases h),λ_=>HP.out.2⟩⟩
   have q0:((x0:Int)==194)=false:=beq_eq_false_iff_ne.2 (by omega);have HP:=Qd (HNO.out (λ_ h=>e0 (by rw[HX0.out];exact h.1)));clear e0;go_wp2_with fail
   go_meet
   exact⟨by rw[HP.out.1],rfl,Qd ⟨(λh=>by rw[HP.out.1] at h;cases h),λ_=>HP.out.2⟩⟩
  have HP:=Qd (HNO.out (λh _=>h2 h));go_wp2_with fail
  go_meet
  exact⟨by rw[HP.out.1],rfl,Qd ⟨(λh=>by rw[HP.out.1] at h;cases h),λ_=>HP.out.2⟩⟩
 case rest=>
  obtain⟨rfl,rfl,HC⟩:=hcut
  rename World=>W
  go_upto_if 22 with fail
  go_cut [0] from 9 (λx wx=>x= .string ⟨t.toArray⟩/\wx=W)
  case first=>
   cases neg
   ·have HT:=Qd (HC.out.2 rfl)
    go_wp2_with fail
    go_meet
    exact⟨by rw[HT.out],rfl⟩
   have HT:=Qd (HC.out.1 rfl);have h2:2<=s.length:=HT.out.2;go_wp2_with fail
   go_meet
   exact⟨by rw[HSF.out,HT.out.1],rfl⟩
  case rest=>
   obtain⟨rfl,rfl⟩:=hcut
   rename World=>W
   clear HC HSF HYES HNO;by_cases h400:400<t.length
   ·have HE:Hid (400<t.length):=Qd h400
    go_wp2_with (with_reducible refine Xc rfl (.tmp 2) (.tmp 28) rfl w.heap.size rfl rfl HGA.out ?_)
    refine Ob (by rfl) (by rfl) (by rfl) rfl HGA.out (MakeOut.of (by unfold Dg.body;rw[if_pos HE.out];rfl) rfl (Ia _) (Ia _) (rBelow.setRow hb0 (by omega) _))
   have H400:Hid (¬400<t.length):=Qd h400;obtain⟨n,hn⟩:∃n,n=Dg.lead t:=⟨_,rfl⟩;have LD:=λ(wx:World)=>Yl t 0 wx (by omega) (by omega);rw[List.drop_zero] at LD;have hll:=Dg.lead_le t;rw[<-hn] at LD hll;have LD:Hid (∀wx:World,Calls Tryz.prog 165 #[.string ⟨t.toArray⟩,.int .i64 0] wx λe w'=>e= .returned (.int .i64 (n:Int))/\wx=w'):=Qd LD;have HN:=Qd hn;clear hn;go_wp2_with fail
   refine(LD.out _).mono ?_;rintro e w' ⟨rfl,rfl⟩;clear LD;by_cases hl0:n=0
   ·have hz:((n:Int)==0)=true:=by rw[hl0];rfl
    have HE:Hid (Dg.lead t=0):=Qd (by rw[<-HN.out];exact hl0);clear hl0;go_wp2_with (with_reducible refine Xc rfl (.tmp 2) (.tmp 33) rfl w.heap.size rfl rfl HGA.out ?_)
    refine Ob (by rfl) (by rfl) (by rfl) rfl HGA.out (MakeOut.of (by unfold Dg.body;rw[if_neg H400.out,if_pos HE.out];rfl) rfl (Ia _) (Ia _) (rBelow.setRow hb0 (by omega) _))
   have hz:((n:Int)==0)=false:=beq_eq_false_iff_ne.2 (by omega);have HL0:Hid (¬Dg.lead t=0):=Qd (by rw[<-HN.out];exact hl0);by_cases hlt:n<t.length
   ·obtain⟨y,hy⟩:∃y,y=t[n].toNat:=⟨_,rfl⟩
    have hgy:((⟨t.toArray⟩:ByteArray)[n]'(show n<(⟨t.toArray⟩:ByteArray).size from hlt)).toNat=y:=hy.symm;have HY:Hid (y=(t.getD n 0).toNat):=Qd (by rw[hy,List.getD_eq_getElem?_getD,List.getElem?_eq_getElem hlt];rfl);clear hy;obtain⟨ov,hov⟩:∃ov,ov=t.take n:=⟨_,rfl⟩;obtain⟨bh,hbh⟩:∃bh,bh=t.drop (n+1):=⟨_,rfl⟩;have hovl:ov.length=n:=by rw[hov,List.length_take];omega
    have hbhl:bh.length=t.length-(n+1):=by rw[hbh,List.length_drop]
    have HOL:=Qd hovl;have hovl2:ov.length<=400:=by omega
    have hov0:0<ov.length:=by omega
    have hbhl2:bh.length<=400:=by omega
    have SU:Hid ((⟨t.toArray⟩:ByteArray).extract 0 n=⟨ov.toArray⟩):=Qd (by rw[Zq t n (by omega),hov]);have SF:Hid ((⟨t.toArray⟩:ByteArray).extract (n+1) t.length=⟨bh.toArray⟩):=Qd (by rw[Hl,hbh]);have HOV:Hid (ov=t.take (Dg.lead t)):=Qd (by rw[<-HN.out];exact hov);have HBH:Hid (bh=t.drop (Dg.lead t+1)):=Qd (by rw[<-HN.out];exact hbh);have HBL:Hid (bh.length=t.length-(Dg.lead t+1)):=Qd (by rw[<-HN.out];exact hbhl);have HNE:Hid (¬Dg.lead t=t.length):=Qd (by rw[<-HN.out];omega);have HO:Hid (ov.length<=500/\∀b∈ov,Ten.isDig b):=Qd ⟨by omega,by rw[HOV.out];exact Dg.lead_take⟩;have LB:=λ(wx:World)=>Yl t (n+1) wx (by omega) (by omega);rw[<-hbh] at LB;obtain⟨m,hm⟩:∃m,m=Dg.lead bh:=⟨_,rfl⟩;have hml:=Dg.lead_le bh;rw[<-hm] at LB hml;have LB:=Qd LB;have HM0:=Qd hm;have HEQ0:Hid (Dg.body neg t=if m=0\/m<bh.length then(Rt.none_,1) else if t.getD n 0=114 then Rt.mk neg false (Ten.numOf ov) (Ten.numOf bh) else if t.getD n 0=46 then Rt.mk neg false (Ten.numOf (ov++bh)) (10^bh.length) else(Rt.none_,1)):=Qd (by
     unfold Dg.body;rw[if_neg H400.out,if_neg HL0.out,if_neg HNE.out,<-HBL.out,<-HBH.out,<-HOV.out,<-HN.out,<-hm];have e:(t.length=n+1\/m<bh.length)=(m=0\/m<bh.length):=by rw[eq_iff_iff];omega
     simp only[e])
    have HTL:Hid (n+1+bh.length=t.length):=Qd (by omega);have hw5:(n:Int)+1<=(t.length:Int):=by omega
    have q:((n:Int)==(t.length:Int))=false:=beq_eq_false_iff_ne.2 (by omega);have hn0:n<=400:=by omega
    have hm0:m<=400:=by omega
    clear hov hbh hovl hbhl hm;go_wp2_with fail
    refine(LB.out _).mono ?_;rintro e w'' ⟨rfl,rfl⟩;clear LB;by_cases hmz:m=0
    ·have HM:Hid (m=0\/m<bh.length):=Qd (.inl hmz)
     have q1:((m:Int)==0)=true:=by rw[hmz];rfl
     clear hmz;go_wp2_with (with_reducible refine Xc rfl (.tmp 2) (.tmp 73) rfl w.heap.size rfl rfl HGA.out ?_)
     refine Ob (by rfl) (by rfl) (by rfl) rfl HGA.out (MakeOut.of (by rw[HEQ0.out,if_pos HM.out];rfl) rfl (Ia _) (Ia _) (rBelow.setRow hb0 (by omega) _))
    have q1:((m:Int)==0)=false:=beq_eq_false_iff_ne.2 (by omega);by_cases hmb:m<bh.length
    ·have HM:Hid (m=0\/m<bh.length):=Qd (.inr hmb)
     have q2:((n:Int)+1+(m:Int)!=(t.length:Int))=true:=by have:=HTL.out;simp;omega
     clear hmz hmb;go_wp2_with (with_reducible refine Xc rfl (.tmp 2) (.tmp 73) rfl w.heap.size rfl rfl HGA.out ?_)
     refine Ob (by rfl) (by rfl) (by rfl) rfl HGA.out (MakeOut.of (by rw[HEQ0.out,if_pos HM.out];rfl) rfl (Ia _) (Ia _) (rBelow.setRow hb0 (by omega) _))
    have HM:Hid (¬(m=0\/m<bh.length)):=Qd (λh=>h.elim hmz hmb);have HMB:Hid (m=bh.length):=Qd (by omega);have q2:((n:Int)+1+(m:Int)!=(t.length:Int))=false:=by have:=HTL.out;simp;omega
    have hbh0:0<bh.length:=by omega
    have HBD:Hid (∀b∈bh,Ten.isDig b):=Qd (Dg.lead_full (by rw[<-HM0.out];omega));have HY114:Hid (y=114->t.getD n 0=114):=Qd (λh=>UInt8.toNat_inj.1 (by rw[<-HY.out,h];rfl));have HY46:Hid (y=46->t.getD n 0=46):=Qd (λh=>UInt8.toNat_inj.1 (by rw[<-HY.out,h];rfl));have HYN:Hid (∀b:UInt8,t.getD n 0=b->y=b.toNat):=Qd (λb h=>by rw[HY.out,h]);clear hmz hmb;by_cases h114:y=114
    ·have HD:=Qd (HY114.out h114)
     have q114:((y:Int)==114)=true:=by rw[h114];rfl
     have q114':((y:Int)!=114)=false:=by rw[h114];rfl
     clear h114;have HU:Hid (bh.length<=500/\∀b∈bh,Ten.isDig b):=Qd ⟨by omega,HBD.out⟩;have HEQ:Hid (Dg.body neg t=Rt.mk neg false (Ten.numOf ov) (Ten.numOf bh)):=Qd (by rw[HEQ0.out,if_neg HM.out,if_pos HD.out]);have NO:=Qd (λ(wx:World)=>Lj ov wx (by omega) hov0 HO.out.2);have NU:=Qd (λ(wx:World)=>Lj bh wx (by omega) hbh0 HU.out.2);have RO:=Qd (λ(wx:World) (v:Value) (h:IsRes wx v (Nt.digs (Ten.numOf ov)))=>Jl h HO.out.2 HO.out.1);have RU:=Qd (λ(wx:World) (v:Value) (h:IsRes wx v (Nt.digs (Ten.numOf bh)))=>Jl h HU.out.2 HU.out.1);obtain⟨X,hX⟩:∃X,X=Ten.numOf ov:=⟨_,rfl⟩;obtain⟨Y,hY⟩:∃Y,Y=Ten.numOf bh:=⟨_,rfl⟩;rw[<-hX] at NO HEQ RO;rw[<-hY] at NU HEQ RU;have MK:=Qd (λ(wx:World) v1 v2 h1 h2=>Nn neg v1 v2 X Y wx h1 h2);rw[<-SU.out] at NO;rw[<-SF.out] at NU;have hw1:IntKind.i64.wrap ((n:Int)+1)=(n:Int)+1:=IntWalk.i64_in _ (by omega);have hw2:(0:Int)<=(n:Int)+1:=by omega
     have hw4:((n:Int)+1).toNat=n+1:=by omega
     have hw6:(0:Int)<=(n:Int):=by omega
     have hw7:(n:Int)<=(t.length:Int):=by omega
     have hbd:Below w.heap.size w W.drew:=⟨hb0.os,hb0.tape,hb0.output,hb0.size,hb0.block⟩;have HGD:Hid (W.drew.heap[w.heap.size]? =some (.cells #[.bool false,.slice none 0 0,.slice none 0 0] 83 (0,0))):=Qd HGA.out;clear hX hY;go_wp2_with fail
     go_region_held3 (λw'=>True) (trivial)
      (first
       |(
          with_reducible refine(NO.out _).mono ?_
          rintro e wo ⟨v1,rfl,hr1,hbO⟩;have HRO:=Qd (RO.out _ _ hr1);have HG2:=Qd ((hbO.block w.heap.size (Pa HGD.out)).trans HGD.out);have hbw2:=hbd.trans (hbO.mono hbd.size);obtain⟨A1,c1,rfl,-⟩:=hr1;clear hbO)
       |(
          with_reducible refine(NU.out _).mono ?_
          rintro e wu ⟨v2,rfl,hr2,hbU⟩;have HRU:=Qd (RU.out _ _ hr2);have HRO2:=Qd (HRO.out.below hbU);have HG3:=Qd ((hbU.block w.heap.size (Pa HG2.out)).trans HG2.out);have hbw3:=hbw2.trans (hbU.mono hbw2.size);obtain⟨A2,c2,rfl,-⟩:=hr2;clear hbU)
       |(
          with_reducible refine(MK.out _ _ _ HRO2.out HRU.out).mono ?_
          rintro e w4 ⟨r1,r2,rfl,hr3,hr4,hb4⟩;have HG4:=Qd ((hb4.block w.heap.size (Pa HG3.out)).trans HG3.out);have hbw4:=hbw3.trans (hb4.mono hbw3.size);have HR3:=Qd (hr3.setRow HG4.out (Ea _ _ _ _ _ _ _) #[.bool (Rt.mk neg false X Y).1.neg,r1,r2]);have HR4:=Qd (hr4.setRow HG4.out (Ea _ _ _ _ _ _ _) #[.bool (Rt.mk neg false X Y).1.neg,r1,r2]);obtain⟨A3,c3,rfl,-⟩:=hr3;obtain⟨A4,c4,rfl,-⟩:=hr4;clear hb4 HG3 hbw3;generalize Rt.mk neg false X Y=R at*;obtain⟨⟨rn,rt,rb⟩,re⟩:=R;dsimp only at HR3 HR4 HEQ⊢;have c0:w4.cell? ⟨w.heap.size,0,none⟩=some (.bool false):=(cell_of_row w4 w.heap.size 0 _ _ _ HG4.out).trans rfl;have c1:w4.cell? ⟨w.heap.size,1,none⟩=some (.slice none 0 0):=(cell_of_row w4 w.heap.size 1 _ _ _ HG4.out).trans rfl;have c2:w4.cell? ⟨w.heap.size,2,none⟩=some (.slice none 0 0):=(cell_of_row w4 w.heap.size 2 _ _ _ HG4.out).trans rfl;have z0:=Blk.frozen (vs:=[.bool false,.slice none 0 0,.slice none 0 0]) HG4.out 0;have z1:=Blk.frozen (vs:=[.bool false,.slice none 0 0,.slice none 0 0]) HG4.out 1;have z2:=Blk.frozen (vs:=[.bool false,.slice none 0 0,.slice none 0 0]) HG4.out 2)
       |fail)
     go_wp2_with fail
     rw[X8 HG4.out];refine Ob (by rfl) (by rfl) (by rfl) rfl HG4.out (MakeOut.of HEQ.out rfl HR3.out HR4.out (rBelow.setRow hbw4 (by omega) _))
    have q114:((y:Int)==114)=false:=beq_eq_false_iff_ne.2 (by omega);have q114':((y:Int)!=114)=true:=by simp;omega
    have HD1:Hid (¬t.getD n 0=114):=Qd (λh=>h114 (HYN.out _ h));clear h114;by_cases h46:y=46
    ·have HD:=Qd (HY46.out h46)
     have q46:((y:Int)!=46)=false:=by rw[h46];rfl
     clear h46;obtain⟨o2,ho2⟩:∃o2,o2=ov++bh:=⟨_,rfl⟩;have SO2:Hid ((⟨t.toArray⟩:ByteArray).extract 0 n++(⟨t.toArray⟩:ByteArray).extract (n+1) t.length=⟨o2.toArray⟩):=Qd (by rw[SU.out,SF.out];apply ByteArray.ext;rw[ho2];simp);have HO2:Hid (o2.length<=500/\∀b∈o2,Ten.isDig b):=Qd ⟨by rw[ho2,List.length_append];have:=HTL.out;have:=HOL.out;omega,by
      intro b hb;rw[ho2] at hb;rcases List.mem_append.1 hb with hb |hb
      ·exact HO.out.2 b hb
      exact HBD.out b hb⟩
     have hpos2:0<o2.length:=by rw[ho2,List.length_append];omega
     have HEQ:Hid (Dg.body neg t=Rt.mk neg false (Ten.numOf o2) (10^m)):=Qd (by rw[HEQ0.out,if_neg HM.out,if_neg HD1.out,if_pos HD.out,HMB.out,ho2]);have NO:=Qd (λ(wx:World)=>Lj o2 wx (by have:=HO2.out.1;omega) hpos2 HO2.out.2);have RO:=Qd (λ(wx:World) (v:Value) (h:IsRes wx v (Nt.digs (Ten.numOf o2)))=>Jl h HO2.out.2 HO2.out.1);obtain⟨X,hX⟩:∃X,X=Ten.numOf o2:=⟨_,rfl⟩;rw[<-hX] at NO HEQ RO;rw[<-SO2.out] at NO;have HLT:Hid (∀i,i<=m->(Nt.digs (10^i)).length<=64):=Qd (λi hi=>by have:=Dg.limbs_ten (k:=i) 45 (by omega);omega);have HST:Hid (∀wx:World,IsRes (wx.alloc (.cells #[.int .u32 1] 139)) (.slice (some ⟨wx.heap.size,0,none⟩) 1 1) (Nt.digs (10^0))):=Qd (λwx=>by rw[Nat.pow_zero,digs_one];exact Gh wx [1] (by decide));have HMU:Hid (∀(wx:World) (v:Value) (i:Nat),i<=m->IsRes wx v (Nt.digs (10^i))->Calls Tryz.prog 168 #[v,.slice (some ⟨wx.heap.size,0,none⟩) 1 1] (wx.alloc (.cells #[.int .u32 10] 139)) λe w'=>∃v',e= .returned v'/\IsRes w' v' (Nt.digs (10^(i+1)))/\Below wx.heap.size wx w'):=Qd (λwx v i hi hv=>by
      have hba:Below wx.heap.size wx (wx.alloc (.cells #[.int .u32 10] 139)):=Br.alloc Lr _;have:=Pga (hv.below hba) (Gh wx [10] (by decide)) (Nt.ok_digs _) (by intro d hd;rw[List.mem_singleton] at hd;subst hd;decide) (by have:=HLT.out i hi;omega) (by decide);rw[Nt.val_digs,show Nt.val [10]=10 from rfl,<-Nat.pow_succ] at this;refine this.mono ?_;rintro e w' ⟨v',rfl,hr,hb⟩;exact⟨v',rfl,hr,hba.trans (hb.mono hba.size)⟩)
     have hw1:IntKind.i64.wrap ((n:Int)+1)=(n:Int)+1:=IntWalk.i64_in _ (by omega);have HW1:=Qd hw1;have hbW:Below W.heap.size W (W.alloc (.cells #[.int .u32 1] 139)):=Br.alloc Lr _;have HBW:=Qd hbW;clear hX hw1 ho2 hbW;go_wp2_with fail
     go_loopw [7,8] (λbv iv wr=>∃(i:Nat),i<=m/\iv= .int .i64 (i:Int)/\Hid (IsRes wr bv (Nt.digs (10^i)))/\Below W.heap.size W wr) (λ_ iv _=>m-(intOf iv).toNat)
     case atStart=>exact⟨0,Nat.zero_le _,rfl,Qd (HST.out W),HBW.out⟩
     case round=>
      obtain⟨i,him,rfl,HR,hbr⟩:=hrel;have hsr:=hbr.size;by_cases hi:i<m
      ·have HMU2:=Qd (HMU.out wr u7 i him HR.out)
       go_wp2_with fail
       refine HMU2.out.mono ?_;rintro e w5 ⟨v',rfl,hr5,hb5⟩;have HR5:=Qd hr5;have hb6:=hbr.trans (hb5.mono hsr);clear hr5 hb5 HMU2;go_wp2_with fail
       go_roundw
       case rel=>exact⟨i+1,by omega,by go_num,HR5,hb6⟩
       case measure=>simp[intOf];omega
      obtain rfl:i=m:=by omega
      have HRL:Hid (ResL wr u7 (Nt.digs (10^i))):=Qd ⟨HR.out,Nt.ok_digs _,HLT.out i Lr⟩;obtain⟨A2,c2,rfl,-⟩:=HR.out;obtain⟨Y,hY⟩:∃Y,Y=10^i:=⟨_,rfl⟩;rw[<-hY] at HRL HEQ HR⊢;have MK:=Qd (λ(wx:World) v1 v2 h1 h2=>Nn neg v1 v2 X Y wx h1 h2);have hbd:Below w.heap.size w wr.drew:=by
       have:=hb0.trans (hbr.mono hb0.size);exact⟨this.os,this.tape,this.output,this.size,this.block⟩
      have HGD:Hid (wr.drew.heap[w.heap.size]? =some (.cells #[.bool false,.slice none 0 0,.slice none 0 0] 83 (0,0))):=Qd ((hbr.block w.heap.size (Pa HGA.out)).trans HGA.out);have HRD:Hid (ResL wr.drew (.slice A2 (Nt.digs Y).length c2) (Nt.digs Y)):=Qd (HRL.out.below ⟨rfl,rfl,rfl,Lr,λ_ _=>rfl⟩);have hw1:=HW1.out;have hw2:(0:Int)<=(n:Int)+1:=by omega
      have hw4:((n:Int)+1).toNat=n+1:=by omega
      have hw6:(0:Int)<=(n:Int):=by omega
      have hw7:(n:Int)<=(t.length:Int):=by omega
      have hcc:¬9223372036854775807<n+(t.length-(n+1)):=by omega
      clear hY HMU HST HLT HR HRL hi him HEQ0;go_wp2_with fail
      go_region_held3 (λw'=>True) (trivial)
       (first
        |(
           with_reducible refine(NO.out _).mono ?_
           rintro e wo ⟨v1,rfl,hr1,hbO⟩;have HRO:=Qd (RO.out _ _ hr1);have HRU:=Qd (HRD.out.below hbO);have HG3:=Qd ((hbO.block w.heap.size (Pa HGD.out)).trans HGD.out);have hbw3:=hbd.trans (hbO.mono hbd.size);obtain⟨A1,c1,rfl,-⟩:=hr1;clear hbO)
        |(
           with_reducible refine(MK.out _ _ _ HRO.out HRU.out).mono ?_
           rintro e w4 ⟨r1,r2,rfl,hr3,hr4,hb4⟩;have HG4:=Qd ((hb4.block w.heap.size (Pa HG3.out)).trans HG3.out);have hbw4:=hbw3.trans (hb4.mono hbw3.size);have HR3:=Qd (hr3.setRow HG4.out (Ea _ _ _ _ _ _ _) #[.bool (Rt.mk neg false X Y).1.neg,r1,r2]);have HR4:=Qd (hr4.setRow HG4.out (Ea _ _ _ _ _ _ _) #[.bool (Rt.mk neg false X Y).1.neg,r1,r2]);obtain⟨A3,c3,rfl,-⟩:=hr3;obtain⟨A4,c4,rfl,-⟩:=hr4;clear hb4 HG3 hbw3;generalize Rt.mk neg false X Y=R at*;obtain⟨⟨rn,rt,rb⟩,re⟩:=R;dsimp only at HR3 HR4 HEQ⊢;have c0:w4.cell? ⟨w.heap.size,0,none⟩=some (.bool false):=(cell_of_row w4 w.heap.size 0 _ _ _ HG4.out).trans rfl;have c1:w4.cell? ⟨w.heap.size,1,none⟩=some (.slice none 0 0):=(cell_of_row w4 w.heap.size 1 _ _ _ HG4.out).trans rfl;have c2:w4.cell? ⟨w.heap.size,2,none⟩=some (.slice none 0 0):=(cell_of_row w4 w.heap.size 2 _ _ _ HG4.out).trans rfl;have z0:=Blk.frozen (vs:=[.bool false,.slice none 0 0,.slice none 0 0]) HG4.out 0;have z1:=Blk.frozen (vs:=[.bool false,.slice none 0 0,.slice none 0 0]) HG4.out 1;have z2:=Blk.frozen (vs:=[.bool false,.slice none 0 0,.slice none 0 0]) HG4.out 2)
        |fail)
      go_wp2_with fail
      rw[X8 HG4.out];refine Ob (by rfl) (by rfl) (by rfl) rfl HG4.out (MakeOut.of HEQ.out rfl HR3.out HR4.out (rBelow.setRow hbw4 (by omega) _))
    have q46:((y:Int)!=46)=true:=by simp;omega
    have HD2:Hid (¬t.getD n 0=46):=Qd (λh=>h46 (HYN.out _ h));clear h46;go_wp2_with (with_reducible refine Xc rfl (.tmp 2) (.tmp 73) rfl w.heap.size rfl rfl HGA.out ?_)
    refine Ob (by rfl) (by rfl) (by rfl) rfl HGA.out (MakeOut.of (by rw[HEQ0.out,if_neg HM.out,if_neg HD1.out,if_neg HD2.out];rfl) rfl (Ia _) (Ia _) (rBelow.setRow hb0 (by omega) _))
   have HO:Hid (t.length<=500/\∀b∈t,Ten.isDig b):=Qd ⟨by omega,Dg.lead_full (by rw[<-HN.out];omega)⟩;have hpos:0<t.length:=by omega
   have NO:=Qd (λ(wx:World)=>Lj t wx (by omega) hpos HO.out.2);have HLE:Hid (n=t.length):=Qd (by omega);have q:((n:Int)==(t.length:Int))=true:=by rw[HLE.out];simp
   have HEQ:Hid (Dg.body neg t=Rt.mk neg false (Ten.numOf t) 1):=Qd (by unfold Dg.body;rw[if_neg H400.out,if_neg HL0.out,if_pos (by rw[<-HN.out];exact HLE.out)]);obtain⟨X,hX⟩:∃X,X=Ten.numOf t:=⟨_,rfl⟩;have RL:=Qd (λ(wx:World) (v:Value) (h:IsRes wx v (Nt.digs (Ten.numOf t)))=>Jl h HO.out.2 HO.out.1);rw[<-hX] at NO HEQ RL;clear hX;go_wp2_with fail
   refine(NO.out _).mono ?_;rintro e w2 ⟨v1,rfl,hr1,hb2⟩;have HR1:=Qd (RL.out _ _ hr1);have HG2:=Qd ((hb2.block w.heap.size (Pa HGA.out)).trans HGA.out);have hbw2:=hb0.trans (hb2.mono hb0.size);obtain⟨A1,c1,rfl,-⟩:=hr1;have OF:=Qd (I0 1 w2 (by decide) (by decide));clear hb2 NO RL;go_wp2_with fail
   refine OF.out.mono ?_;rintro e w3 ⟨v2,rfl,hr2,hb3⟩;have MK:=Qd (Nn neg _ _ X 1 w3 (HR1.out.below hb3) hr2);have HG3:=Qd ((hb3.block w.heap.size (Pa HG2.out)).trans HG2.out);have hbw3:=hbw2.trans (hb3.mono hbw2.size);obtain⟨⟨A2,c2,rfl,-⟩,-⟩:=hr2;clear hb3 HG2 hbw2 HR1 OF;rw[show decide ((1:Int)<0)=false from rfl];obtain⟨Y,hY⟩:∃Y,Y=(1:Nat):=⟨_,rfl⟩;have HY:Hid ((1:Nat)=Y):=Qd hY.symm;rw[HY.out] at MK HEQ;clear hY;go_wp2_with fail
   refine MK.out.mono ?_;rintro e w4 ⟨r1,r2,rfl,hr3,hr4,hb4⟩;clear MK;have HG4:=Qd ((hb4.block w.heap.size (Pa HG3.out)).trans HG3.out);have hbw4:=hbw3.trans (hb4.mono hbw3.size);have HR3:=Qd (hr3.setRow HG4.out (Ea _ _ _ _ _ _ _) #[.bool (Rt.mk neg false X Y).1.neg,r1,r2]);have HR4:=Qd (hr4.setRow HG4.out (Ea _ _ _ _ _ _ _) #[.bool (Rt.mk neg false X Y).1.neg,r1,r2]);obtain⟨A3,c3,rfl,-⟩:=hr3;obtain⟨A4,c4,rfl,-⟩:=hr4;clear hb4 HG3 hbw3;generalize Rt.mk neg false X Y=R at*;obtain⟨⟨rn,rt,rb⟩,re⟩:=R;dsimp only at HR3 HR4 HEQ⊢;go_wp2_with (with_reducible refine Xc rfl (.tmp 2) (.tmp 44) rfl w.heap.size rfl rfl HG4.out ?_)
   refine Ob (by rfl) (by rfl) (by rfl) rfl HG4.out (MakeOut.of HEQ.out rfl HR3.out HR4.out (rBelow.setRow hbw4 (by omega) _))
section
open Go.RowKit Ar
theorem Jt:(Tryz.prog.info? 3).map (λi=>(i.zero,i.size,i.bytes))=some (some (.int .i64 0),1,8):=by kernel_rfl
theorem O7 (s:List UInt8)(w:World)(hs:s.length<=1000000):
 Calls Tryz.prog 99 #[.string ⟨s.toArray⟩] w λe w'=>∃v,e= .returned v/\w'.ownsRow w.heap.size 3 1 v (Sp.shapeD s).length (Ya (Sp.shapeD s))/\(Sp.shapeD s).length<=1000000/\Xa (Sp.shapeD s)/\Below w.heap.size w w':=by
 obtain⟨i0,hi,hz0,hz1,hz2⟩:=info_parts Jt;obtain⟨R,hR⟩:∃R,R=Sp.shapeD s:=⟨_,rfl⟩;rw[<-hR];have HR:Hid (R=[]++Sp.shapeDF s.length s):=Qd (by rw[hR];rfl);clear hR;go_enter Tryz.func99,Tryz.ntmps99
 go_wp2_with fail
 go_loopw [0,3,4,5] (λa o _ _ wr=>∃(t:List UInt8) (f:Nat) (done:List Int),a= .string ⟨t.toArray⟩/\t.length<=f/\done.length+t.length<=s.length/\Hid (R=done++Sp.shapeDF f t)/\Hid (Xa done)/\Hid (wr.ownsRow w.heap.size 3 1 o done.length (Ya done))/\Hid (Below w.heap.size w wr)) (λa _ _ _ _=>match a with | .string t=>t.size |_=>0)
 case atStart=>exact⟨s,s.length,[],rfl,Lr,by simp,HR,Qd (λx hx=>absurd hx List.not_mem_nil),Qd (World.ownsRow_nil _ _ _ _),Qd Br⟩
 case round=>
  clear HR;obtain⟨t,f,done,rfl,hf,hl,HR,HW,HO,HB⟩:=hrel;have hsz:(⟨t.toArray⟩:ByteArray).size=t.length:=rfl;by_cases h0:t.length=0
  ·have hE:R=done:=by
    rw[HR.out,List.eq_nil_of_length_eq_zero h0];cases f with
    |zero=>rw[Sp.shapeDF,List.append_nil]
    |succ f=>rw[Sp.shapeDF,if_pos rfl,List.append_nil]
   have HE:=Qd hE;clear hE;go_wp2_with fail
   go_ret;exact⟨_,rfl,by rw[HE.out];exact HO.out,by rw[HE.out];omega,by rw[HE.out];exact HW.out,HB.out⟩
  have hp:(0:Int)<(t.length:Int):=by omega
  obtain⟨f',rfl⟩:∃f',f=f'+1:=⟨f-1,by omega⟩;have HS:Hid (R=done++(((Sp.decN t).1:Int)::(if(Sp.decN t).2=t.length\/(Sp.decN t).2=0 then[] else Sp.shapeDF f' (t.drop ((Sp.decN t).2+1))))):=Qd (by rw[HR.out,Sp.shapeDF,if_neg (λe=>h0 (by rw[e];rfl))]);have DE:=Qd (Jf t wr (by omega));have hn:Ten.numOf (t.take (Nw.k7 t))<10000000:=Yk (s:=t) (k:=Nw.k7 t) ⟨by unfold Nw.k7;omega,rfl⟩ (by unfold Nw.k7;omega);have hkl:Nw.k7 t<=t.length:=by have:=Dg.lead_le t;unfold Nw.k7;omega
  have e1:(Sp.decN t).1=Ten.numOf (t.take (Nw.k7 t)):=rfl;have e2:(Sp.decN t).2=Nw.k7 t:=rfl;rw[e1,e2] at HS;clear e1 e2 HR;generalize Ten.numOf (t.take (Nw.k7 t))=m at*;generalize Nw.k7 t=k at*;obtain⟨A2,C2,rfl,hC1,hC2⟩:=Na HO.out;have hsl:w.heap.size<=wr.heap.size:=HB.out.size;have HAP:Hid (Ya (done++[(m:Int)])=Ya done++[.int .i64 (m:Int)]):=Qd (by unfold Ya;rw[List.map_append,List.map_singleton]);have HW2:Hid (Xa (done++[(m:Int)])):=Qd (λx hx=>by
   rcases List.mem_append.1 hx with h |h
   ·exact HW.out x h
   rw[List.mem_singleton] at h;subst h;omega)
  clear h0;by_cases hend:k=t.length\/k=0
  ·rw[if_pos hend] at HS
   have z:((k:Int)==(t.length:Int))=true\/(((k:Int)==(t.length:Int))=false/\((k:Int)==0)=true):=by
    by_cases h:k=t.length
    ·exact .inl (beq_iff_eq.2 (by omega))
    exact .inr ⟨beq_eq_false_iff_ne.2 (by omega),beq_iff_eq.2 (by omega)⟩
   clear hend;rcases z with z |⟨z,z'⟩
   all_goals
    go_wp2_with fail
    refine DE.out.mono ?_;rintro e w2 ⟨rfl,rfl⟩;go_wp2_with (at_builtin;refine wpList_append_own _ rfl _ _ 26 rfl w.heap.size 3 i0 (.int .i64 0) 1 8 Tryz.underlying26 hi hz0 hz1 hz2 rfl (by decide) _ _ _ rfl (HO.out.alloc _) ⟨_,0,none⟩ 1 1 [.int .i64 (m:Int)] rfl rfl (cell_one_new _ _ _) (by intro u hu;simp only[List.mem_singleton] at hu;subst hu;rfl) (by unfold maxLen;omega) (by omega) (by simp;omega) ?_;intro v3 w3 hown3 hgrow3 hnn3)
    go_ret;refine⟨_,rfl,?_,?_,?_,(HB.out.alloc hsl _).grown hgrow3 (by simp;omega) (λk hk=>(HO.out.lt k hk).1)⟩
    ·rw[HS.out,HAP.out];simpa using hown3
    ·rw[HS.out];simp;omega
    rw[HS.out];exact HW2.out
  rw[if_neg hend] at HS;have z1:((k:Int)==(t.length:Int))=false:=beq_eq_false_iff_ne.2 (by omega);have z2:((k:Int)==0)=false:=beq_eq_false_iff_ne.2 (by omega);have m1:IntKind.i64.wrap ((k:Int)+1)=(k:Int)+1:=IntWalk.i64_in _ (by omega);have m2:(0:Int)<=(k:Int)+1:=by omega
  have m3:(k:Int)+1<=(t.length:Int):=by omega
  have m4:((k:Int)+1).toNat=k+1:=by omega
  have E2:=Qd (Lg t (k+1));go_wp2_with fail
  refine DE.out.mono ?_;rintro e w2 ⟨rfl,rfl⟩;go_wp2_with (at_builtin;refine wpList_append_own _ rfl _ _ 26 rfl w.heap.size 3 i0 (.int .i64 0) 1 8 Tryz.underlying26 hi hz0 hz1 hz2 rfl (by decide) _ _ _ rfl (HO.out.alloc _) ⟨_,0,none⟩ 1 1 [.int .i64 (m:Int)] rfl rfl (cell_one_new _ _ _) (by intro u hu;simp only[List.mem_singleton] at hu;subst hu;rfl) (by unfold maxLen;omega) (by omega) (by simp;omega) ?_;intro v3 w3 hown3 hgrow3 hnn3)
  rw[E2.out];have HB3:Hid (Below w.heap.size w w3):=Qd ((HB.out.alloc hsl _).grown hgrow3 (by simp;omega) (λk hk=>(HO.out.lt k hk).1));go_roundw
  case rel=>exact⟨t.drop (k+1),f',done++[(m:Int)],rfl,by rw[List.length_drop];omega,by rw[List.length_drop,List.length_append];simp;omega,Qd (by rw[HS.out,List.append_assoc];rfl),HW2,Qd (by rw[HAP.out];simpa using hown3),HB3⟩
  case measure=>show(t.drop (k+1)).toArray.size<t.toArray.size;rw[List.size_toArray,List.size_toArray,List.length_drop];omega
end
section
open Go.RowKit Ar
section
variable {ops : Array Oper} {rest : List Oper} {o : Oper} {a : Act} {w : World} {Q : Exit -> Act -> World -> Prop} {L k c : Int} {b : Bool} {A1 A2 A3 : Option Addr} {n1 n2 n3 c1 c2 c3 : Nat} {u0 u1 u2 u3 u4 u5 u6 x : Value} {fn : Func} {p q : Tmp} {R : Ending -> World -> Prop}
theorem Ag:(Tryz.prog.info? 85).map (·.size)=some (#[u0,u1,u2,u3,u4,u5,u6]:Array Value).size:=by kernel_rfl
theorem Kt:(Tryz.prog.info? 43).map (·.size)=some (#[u0,u1,u2]:Array Value).size:=by kernel_rfl
theorem Uh (hgd:o.guard=none)(x y:Operand)(ho:o.op= .store 85 x y)(g:Nat)(hx:a.eval x= .pointer (some ⟨g,0,none⟩))(hy:a.eval y= .agg #[.int .u64 L,.int .i64 k,.bool b,.slice A1 n1 c1,.slice A2 n2 c2,.int .i64 c,.slice A3 n3 c3])(hg:w.heap[g]? =some (.cells #[u0,u1,u2,u3,u4,u5,u6] 85 (0,0)))
 (h:wpList Tryz.prog ops Q rest (a.put o.dst undef) (w.setRow g #[.int .u64 L,.int .i64 k,.bool b,.slice A1 n1 c1,.slice A2 n2 c2,.int .i64 c,.slice A3 n3 c3])):wpList Tryz.prog ops Q (o::rest) a w:=
 wpList_store_row hgd _ x y ho g _ hx hy _ _ hg Ag rfl (by simp[Value.oneCell']) h
theorem Vw (hgd:o.guard=none)(x:Operand)(ho:o.op= .load 85 x)(g:Nat)(hx:a.eval x= .pointer (some ⟨g,0,none⟩))(hg:w.heap[g]? =some (.cells #[u0,u1,u2,u3,u4,u5,u6] 85 (0,0)))
 (h:wpList Tryz.prog ops Q rest (a.put o.dst (.agg #[u0,u1,u2,u3,u4,u5,u6])) w):wpList Tryz.prog ops Q (o::rest) a w:=
 wpList_load_row hgd _ x ho g hx _ _ _ _ hg Tryz.underlying85 rfl Ag h
theorem Rg {g:Nat}{old:Array Value}(h:fn.results= #[.cell p 85,.tmp q])(hp:a.tmps.getD p undef= .pointer (some ⟨g,0,none⟩))(hx:a.tmps.getD q undef=x)(hd:a.defers=[])(hg:w.heap[g]? =some (.cells old 85 (0,0)))
 (hR:R (.returned (.tuple #[.agg #[u0,u1,u2,u3,u4,u5,u6],x])) (w.setRow g #[u0,u1,u2,u3,u4,u5,u6])):bodyPost Tryz.prog fn R .ret a (w.setRow g #[u0,u1,u2,u3,u4,u5,u6]):=
 bodyPost_ret (Ja h _ _ g _ _ (0,0) _ _ hp hx (Ma hg) Tryz.underlying85 rfl Ag) hd hR
theorem Vh (hgd:o.guard=none)(x y:Operand)(ho:o.op= .store 43 x y)(g:Nat)(hx:a.eval x= .pointer (some ⟨g,0,none⟩))(hy:a.eval y= .agg #[.int .u64 L,.slice A1 n1 c1,.slice A2 n2 c2])(hg:w.heap[g]? =some (.cells #[u0,u1,u2] 43 (0,0)))
 (h:wpList Tryz.prog ops Q rest (a.put o.dst undef) (w.setRow g #[.int .u64 L,.slice A1 n1 c1,.slice A2 n2 c2])):wpList Tryz.prog ops Q (o::rest) a w:=
 wpList_store_row hgd _ x y ho g _ hx hy _ _ hg Kt rfl (by simp[Value.oneCell']) h
theorem Dm (hgd:o.guard=none)(x:Operand)(ho:o.op= .load 43 x)(g:Nat)(hx:a.eval x= .pointer (some ⟨g,0,none⟩))(hg:w.heap[g]? =some (.cells #[u0,u1,u2] 43 (0,0)))
 (h:wpList Tryz.prog ops Q rest (a.put o.dst (.agg #[u0,u1,u2])) w):wpList Tryz.prog ops Q (o::rest) a w:=
 wpList_load_row hgd _ x ho g hx _ _ _ _ hg Tryz.underlying43 rfl Kt h
theorem Sg {g:Nat}{old:Array Value}(h:fn.results= #[.cell p 43,.tmp q])(hp:a.tmps.getD p undef= .pointer (some ⟨g,0,none⟩))(hx:a.tmps.getD q undef=x)(hd:a.defers=[])(hg:w.heap[g]? =some (.cells old 43 (0,0)))
 (hR:R (.returned (.tuple #[.agg #[u0,u1,u2],x])) (w.setRow g #[u0,u1,u2])):bodyPost Tryz.prog fn R .ret a (w.setRow g #[u0,u1,u2]):=
 bodyPost_ret (Ja h _ _ g _ _ (0,0) _ _ hp hx (Ma hg) Tryz.underlying43 rfl Kt) hd hR
end
theorem Tb {n g:Nat}{w w':World}{vs:Array Value}(h:Below n w w')(hg:n<=g):Below n w (w'.setRow g vs):=rBelow.setRow h hg _
theorem Pb {w:World}{g b:Nat}{vs:Array Value}(h:b≠g):(w.setRow g vs).heap[b]? =w.heap[b]? :=setRow_other w g b vs h
theorem Di {n g b:Nat}{w:World}(hg:g<n)(hu:¬HasU w g)(h:PR n w b):b≠g:=by
 rintro rfl;rcases h.2 with h1 |h1
 ·omega
 exact hu h1
theorem On {n g:Nat}{w:World}{vs:Array Value}{c:Ha}{u:List Value}(h:IsCelP w (PR n w) c u)(hg:g<n)(hu:¬HasU w g):IsCelP (w.setRow g vs) (PR n (w.setRow g vs)) c u:=
 IsCelP.keep (λp hp=>World.cell?_of_block (Pb (Di hg hu hp))) (λb hb=>hb.same (by rw[size_setRow];exact Lr) (Pb (Di hg hu hb))) _ _ h
theorem Oj {n g:Nat}{w:World}{vs:Array Value}{c:Ba}{u:List Value}(h:IsArrP w (PR n w) c u)(hg:g<n)(hu:¬HasU w g):IsArrP (w.setRow g vs) (PR n (w.setRow g vs)) c u:=
 IsArrP.keep (λp hp=>World.cell?_of_block (Pb (Di hg hu hp))) (λb hb=>hb.same (by rw[size_setRow];exact Lr) (Pb (Di hg hu hb))) _ _ h
theorem Mt {n m:Nat}{w:World}{c:Ha}{u:List Value}(h:IsCelP w (PR m w) c u)(hn:n<=m):IsCelP w (PR n w) c u:=IsCelP.keep (λ_ _=>rfl) (λb hb=>hb.mono hn) _ _ h
theorem Bg {n m:Nat}{w:World}{c:Ba}{u:List Value}(h:IsArrP w (PR m w) c u)(hn:n<=m):IsArrP w (PR n w) c u:=IsArrP.keep (λ_ _=>rfl) (λb hb=>hb.mono hn) _ _ h
end
section
open Go.RowKit Ar
theorem Gc {P:Program}{c:Code}{Q:Exit->Act->World->Prop}{a:Act}{w:World}(h:∀W,W=w->c.wp P Q a W):c.wp P Q a w:=h _ rfl
theorem Blk.h7 {w:World}{g:Nat}{t:TypeId}{u0 u1 u2 u3 u4 u5 u6:Value}(h:Blk w g t [u0,u1,u2,u3,u4,u5,u6]):w.heap[g]? =some (.cells #[u0,u1,u2,u3,u4,u5,u6] t (0,0)):=h
theorem Blk.h3 {w:World}{g:Nat}{t:TypeId}{u0 u1 u2:Value}(h:Blk w g t [u0,u1,u2]):w.heap[g]? =some (.cells #[u0,u1,u2] t (0,0)):=h
def Wo (n:Nat):Prop:=∀(t:List UInt8) (w:World),t.length<1000000->Calls Tryz.prog 68 #[.string ⟨t.toArray⟩,.int .i64 ((n:Int)-1)] w (Qg (Sp.readD n t) w)
theorem Y3 {w:World}{b:Nat}(h:Blk w b 85 [.int .u64 0,.int .i64 0,.bool false,.slice none 0 0,.slice none 0 0,.int .i64 0,.slice none 0 0]):¬HasU w b:=Fd h (by intro u hu n e;subst e;simp at hu)
theorem Xo {w:World}{b:Nat}{L:Int}(h:Blk w b 85 [.int .u64 L,.int .i64 0,.bool false,.slice none 0 0,.slice none 0 0,.int .i64 0,.slice none 0 0]):¬HasU w b:=Fd h (by intro u hu n e;subst e;simp at hu)
theorem Pc {w w':World}{v:Value}{l:List Nat}(h:IsRes w v l)(hs:w.heap.size<=w'.heap.size)(hk:∀b,b<w.heap.size->HasU w b->w'.heap[b]? =w.heap[b]?):IsRes w' v l:=by
 obtain⟨A,c,h1,h2,h3,h4,h5⟩:=h;refine⟨A,c,h1,h2,h3,h4,?_⟩;rcases h5 with h5 |⟨b,off,e,hb,hc⟩
 ·exact .inl h5
 cases l with
 |nil=>exact .inl rfl
 |cons x r=>
  have hu:HasU w b:=⟨off+0,x,hc 0 _ rfl⟩;exact .inr ⟨b,off,e,Nat.lt_of_lt_of_le hb hs,λi u hi=>(World.cell?_of_block (hk b hb hu)).trans (hc i u hi)⟩
theorem Z3 {ch:List UInt8->Option Int}{rd:List UInt8->Option Ba}{L:Nat}{t:List UInt8}(h:0<t.length){y:Nat}(hy:y=t[0].toNat):Sp.cellR ch rd L t=if y=110 then(if(Dg.parse (t.drop 1)).2=0 then some (.mk L 0 (Dg.parse (t.drop 1)).1.neg (Dg.parse (t.drop 1)).1.top (Dg.parse (t.drop 1)).1.bot 0 []) else none)
 else if y=99 then(ch (t.drop 1)).map λn=> .mk L 1 false [] [] n []
 else if y=98 then(rd (t.drop 1)).map λa=> .mk L 2 false [] [] 0 [a] else none:=by
 match t,h with
 |b::r,_=>
  subst hy;have e:∀k:UInt8,(b=k)=(b.toNat=k.toNat):=λk=>propext UInt8.toNat_inj.symm;rw[Sp.cellR];simp only[e 110,e 99,e 98];rfl
theorem Ny {n:Nat}(hn:n<=100)(ih:Wo n)(l t:List UInt8)(w:World)(hl:l.length<=1000000)(ht:t.length<1000000):
 Calls Tryz.prog 100 #[.string ⟨l.toArray⟩,.string ⟨t.toArray⟩,.int .i64 (n:Int)] w (Ln (Sp.pairR Sp.chD (Sp.readD n) l t) w):=by
 obtain⟨W,hW⟩:∃W,W=(w.alloc (.cells #[.int .u64 0,.int .i64 0,.bool false,.slice none 0 0,.slice none 0 0,.int .i64 0,.slice none 0 0] 85)).alloc (.cells #[.int .u64 0,.int .i64 0,.bool false,.slice none 0 0,.slice none 0 0,.int .i64 0,.slice none 0 0] 85):=⟨_,rfl⟩;have hWs:W.heap.size=w.heap.size+2:=by rw[hW];simp
 have hWb:Below w.heap.size w W:=by rw[hW];exact(Br.alloc Lr _).alloc (by simp) _
 have hb0:Blk W w.heap.size 85 [.int .u64 0,.int .i64 0,.bool false,.slice none 0 0,.slice none 0 0,.int .i64 0,.slice none 0 0]:=by rw[hW];exact(Blk.new w _ _).alloc _
 have hb1:Blk W (w.heap.size+1) 85 [.int .u64 0,.int .i64 0,.bool false,.slice none 0 0,.slice none 0 0,.int .i64 0,.slice none 0 0]:=by rw[hW];have:=Blk.new (w.alloc (.cells #[.int .u64 0,.int .i64 0,.bool false,.slice none 0 0,.slice none 0 0,.int .i64 0,.slice none 0 0] 85)) 85 [.int .u64 0,.int .i64 0,.bool false,.slice none 0 0,.slice none 0 0,.int .i64 0,.slice none 0 0];rwa[World.size_alloc] at this
 have HW:=Qd hW;clear hW;obtain⟨g,hg⟩:∃g,g=w.heap.size:=⟨_,rfl⟩;rw[<-hg] at hWs hWb hb0 hb1;have HG:=Qd hg;have LP:=Qd (Hd l W hl);have c0:W.cell? ⟨g+1,0,none⟩=some (.int .u64 0):=hb1.cell rfl;have f0:=hb1.frozen 0;have HB0:=Qd hb0;have HB1:=Qd hb1;have HWB:=Qd hWb;clear hg hb0 hb1 hWb;go_enter Tryz.func100,Tryz.ntmps100
 go_upto_region 3 with fail
 rw[<-HW.out,<-HG.out];go_upto_region 4 with(go_at_call 44;refine LP.out.mono ?_;rintro e w' ⟨rfl,x,ok,rfl,hsp⟩;replace hsp:=Qd hsp)
 have hlp:=Qd (Sp.labP_spec hsp.out);have hx:x<18446744073709551616:=by rcases hsp.out with⟨-,h,-⟩ |⟨-,h,-⟩<;>omega
 refine Gc ?_;intro W1 hW1;have hs1:W1.heap.size=g+2:=by rw[hW1];simp[hWs]
 have hb1:Below g w W1:=by rw[hW1];exact HWB.out.setCell (p:=⟨g+1,0,none⟩) (Nat.le_succ _) _
 have k0:Blk W1 g 85 [.int .u64 0,.int .i64 0,.bool false,.slice none 0 0,.slice none 0 0,.int .i64 0,.slice none 0 0]:=by rw[hW1];exact HB0.out.far (by simp) _
 have k1:Blk W1 (g+1) 85 [.int .u64 (x:Int),.int .i64 0,.bool false,.slice none 0 0,.slice none 0 0,.int .i64 0,.slice none 0 0]:=by rw[hW1];exact HB1.out.set_ 0 _
 have K0:=Qd k0;have K1:=Qd k1;have HB:=Qd hb1;have HS:=Qd hs1;clear hW1 hs1 hb1 k0 k1 c0 f0 LP hsp HW HB0 HB1 HWB hWs;have HEND:Hid (∀(wx:World) (c:Ha) (vs:List Value) (r:Option Ha),vs.length=7->Below (g+1) W1 wx->IsCelP wx (PR (g+2) wx) c vs->(∀x,r=some x->x=c)->r=Sp.pairR Sp.chD (Sp.readD n) l t->
  Ln (Sp.pairR Sp.chD (Sp.readD n) l t) w (.returned (.tuple #[.agg vs.toArray,.bool r.isSome])) (wx.setRow g vs.toArray)):=Qd (λwx c vs r hv hb hc hr he=>by
  rw[<-he];have hk:Blk wx g 85 [.int .u64 0,.int .i64 0,.bool false,.slice none 0 0,.slice none 0 0,.int .i64 0,.slice none 0 0]:=(hb.block g (by omega)).trans K0.out;refine⟨c,vs,rfl,?_,hr,?_⟩
  ·rw[<-HG.out];exact Mt (On hc (by omega) (Y3 hk)) (by omega)
  rw[<-HG.out];exact Tb (HB.out.trans (hb.mono (by omega))) Lr)
 by_cases hbad:ok=false\/t=[]
 ·have HN:Hid (none=Sp.pairR Sp.chD (Sp.readD n) l t):=Qd (by
   rcases hbad with h |h
   ·unfold Sp.pairR;rw[hlp.out,h];rfl
   unfold Sp.pairR;rw[hlp.out,h];cases ok<;>rfl)
  have hz:ok=false\/(ok=true/\((t.length:Int)==0)=true):=by
   rcases hbad with h |h
   ·exact .inl h
   cases ok
   ·exact .inl rfl
   exact .inr ⟨rfl,by rw[h];rfl⟩
  clear hbad hlp;rcases hz with rfl |⟨rfl,z⟩
  all_goals
   go_wp2_with (first|(with_reducible refine Vw rfl (.tmp 8) rfl (g+1) rfl K1.out.h7 ?_) |(with_reducible refine Uh rfl (.tmp 6) (.tmp 28) rfl g rfl rfl K0.out.h7 ?_))
   refine Rg (by rfl) (by rfl) (by rfl) rfl K0.out.h7 ?_;exact HEND.out W1 _ _ none rfl Br (Yi hx (by omega) (by omega)) nofun HN.out
 obtain⟨ht0,rfl⟩:0<t.length/\ok=true:=⟨List.length_pos_iff.2 (λh=>hbad (.inr h)),(Bool.not_eq_false _).mp (λh=>hbad (.inl h))⟩;have z:((t.length:Int)==0)=false:=beq_eq_false_iff_ne.2 (by omega);obtain⟨y,hy⟩:∃y,y=t[0].toNat:=⟨_,rfl⟩;have HR:Hid (Sp.pairR Sp.chD (Sp.readD n) l t=Sp.cellR Sp.chD (Sp.readD n) x t):=Qd (by unfold Sp.pairR;rw[hlp.out];rfl);rw[Z3 ht0 hy] at HR;have hgy:((⟨t.toArray⟩:ByteArray)[0]'(show 0<(⟨t.toArray⟩:ByteArray).size from ht0)).toNat=y:=hy.symm;have hsz:(⟨t.toArray⟩:ByteArray).size=t.length:=rfl;have E1:=Qd (Lg t 1);have ht1:(1:Int)<=(t.length:Int):=by omega
 have hp0:(0:Int)<(t.length:Int):=by omega
 have hdl:(t.drop 1).length<1000000:=by rw[List.length_drop];omega
 clear hbad hlp hy;obtain⟨u,hu⟩:∃u,u=t.drop 1:=⟨_,rfl⟩;rw[<-hu] at HR E1 hdl;clear hu;by_cases h1:y=110
 ·rw[if_pos h1] at HR
  subst h1;go_wp2_with fail
  rw[E1.out];refine(My u W1 (Nat.le_of_lt hdl)).mono ?_;rintro e w2 ⟨v1,v2,rfl,hr1,hr2,hb2⟩;have hPO:=Qd (J3 u);obtain⟨A1,C1,rfl,-⟩:=id hr1;obtain⟨A2,C2,rfl,-⟩:=id hr2;generalize Dg.parse u=pu at*;obtain⟨⟨neg,top,bot⟩,er⟩:=pu;dsimp only at hr1 hr2 hPO HR⊢;have k2:Blk w2 (g+1) 85 [.int .u64 (x:Int),.int .i64 0,.bool false,.slice none 0 0,.slice none 0 0,.int .i64 0,.slice none 0 0]:=(hb2.block _ (by have:=HS.out;omega)).trans K1.out;have hs2:=hb2.size;have f2:=k2.frozen 2;have f3:=k2.frozen 3;have f4:=k2.frozen 4;have d2:w2.cell? ⟨g+1,2,none⟩=some (.bool false):=k2.cell rfl;have d3:w2.cell? ⟨g+1,3,none⟩=some (.slice none 0 0):=k2.cell rfl;have d4:w2.cell? ⟨g+1,4,none⟩=some (.slice none 0 0):=k2.cell rfl;have HR1:=Qd hr1;have HR2:=Qd hr2;have HB2:=Qd hb2;have K2:=Qd k2;have hl2:g+1<w2.heap.size:=by have:=HS.out;omega
  clear hr1 hr2 hb2 k2;go_upto_region 10 with fail
  clear f2 f3 f4 d2 d3 d4;refine Gc ?_;intro W3 hW3;have hfar:∀b,b<w2.heap.size->b≠g+1->W3.heap[b]? =w2.heap[b]? :=λb hb hne=>by
   rw[hW3,Below.heap_alloc _ _ _ (by simpa using hb),Below.heap_setCell _ _ _ _ hne,Below.heap_setCell _ _ _ _ hne,Below.heap_setCell _ _ _ _ hne]
  have hs3:W3.heap.size=w2.heap.size+1:=by rw[hW3];simp
  have k3:Blk W3 (g+1) 85 [.int .u64 (x:Int),.int .i64 0,.bool neg,.slice A1 top.length C1,.slice A2 bot.length C2,.int .i64 0,.slice none 0 0]:=by rw[hW3];exact(((K2.out.set_ 2 _).set_ 3 _).set_ 4 _).alloc _
  have hb3:Below (g+1) W1 W3:=by
   rw[hW3];exact((((HB2.out.mono (show g+1<=W1.heap.size by have:=HS.out;omega)).setCell (p:=⟨g+1,2,none⟩) Lr _).setCell (p:=⟨g+1,3,none⟩) Lr _).setCell (p:=⟨g+1,4,none⟩) Lr _).alloc (by simp;omega) _
  have hnu:¬HasU w2 (g+1):=Xo K2.out;have hq:∀b,b<w2.heap.size->HasU w2 b->W3.heap[b]? =w2.heap[b]? :=λb hb hu=>hfar b hb (λe=>hnu (e▸hu));have HC:=Qd (M3 (n:=g+2) (neg:=neg) hx (Pc HR1.out (by omega) hq) (Pc HR2.out (by omega) hq) hPO.out);have k4:Blk W3 g 85 [.int .u64 0,.int .i64 0,.bool false,.slice none 0 0,.slice none 0 0,.int .i64 0,.slice none 0 0]:=(hb3.block g (by omega)).trans K0.out;have K3:=Qd k3;have K4:=Qd k4;have HB3:=Qd hb3;have HQ:Hid (er=0->((er==0)=true)):=Qd (λh=>beq_iff_eq.2 h);clear hW3 hfar hs3 k3 hb3 hnu hq k4 hs2 hl2;by_cases he:er=0
  ·rw[if_pos he] at HR
   subst he;go_wp2_with (first|(with_reducible refine Vw rfl (.tmp 8) rfl (g+1) rfl K3.out.h7 ?_) |(with_reducible refine Uh rfl (.tmp 6) (.tmp 41) rfl g rfl rfl K4.out.h7 ?_))
   refine Rg (by rfl) (by rfl) (by rfl) rfl K4.out.h7 ?_;exact HEND.out W3 _ _ (some _) rfl HB3.out HC.out (λ_ e=>(Option.some.inj e).symm) HR.out.symm
  rw[if_neg he] at HR;have ze:(er==0)=false:=beq_eq_false_iff_ne.2 he;go_wp2_with (first|(with_reducible refine Vw rfl (.tmp 8) rfl (g+1) rfl K3.out.h7 ?_) |(with_reducible refine Uh rfl (.tmp 6) (.tmp 41) rfl g rfl rfl K4.out.h7 ?_))
  refine Rg (by rfl) (by rfl) (by rfl) rfl K4.out.h7 ?_;exact HEND.out W3 _ _ none rfl HB3.out HC.out nofun HR.out.symm
 rw[if_neg h1] at HR;have z1:((y:Int)==110)=false:=beq_eq_false_iff_ne.2 (by omega);by_cases h2:y=99
 ·rw[if_pos h2] at HR
  subst h2;obtain⟨Wk,hWk⟩:∃Wk,Wk=W1.setCell ⟨g+1,1,none⟩ (.int .i64 1):=⟨_,rfl⟩;have k2:Blk Wk (g+1) 85 [.int .u64 (x:Int),.int .i64 1,.bool false,.slice none 0 0,.slice none 0 0,.int .i64 0,.slice none 0 0]:=by rw[hWk];exact K1.out.set_ 1 _
  have hb2:Below (g+1) W1 Wk:=by rw[hWk];exact Br.setCell (p:=⟨g+1,1,none⟩) Lr _
  have e1:W1.cell? ⟨g+1,1,none⟩=some (.int .i64 0):=K1.out.cell rfl;have f1:=K1.out.frozen 1;have e5:Wk.cell? ⟨g+1,5,none⟩=some (.int .i64 0):=k2.cell rfl;have f5:=k2.frozen 5;have HWk:=Qd hWk;have hn5:Ten.numOf (u.take (Nw.k7 u))<10000000:=Yk (s:=u) (k:=Nw.k7 u) ⟨by unfold Nw.k7;omega,rfl⟩ (by unfold Nw.k7;omega);have HD:Hid (some (.mk x 1 false [] [] (Ten.numOf (u.take (Nw.k7 u)):Int) [])=(Sp.chD u).map λn=>Ha.mk x 1 false [] [] n []):=Qd rfl;have DE:=Qd (Jf u Wk (Nat.le_of_lt hdl));generalize Ten.numOf (u.take (Nw.k7 u))=m at*;generalize Nw.k7 u=kk at*;have K2:=Qd k2;have HB2:=Qd hb2;clear hWk k2 hb2;go_wp2_with fail
  rw[E1.out,<-HWk.out];refine DE.out.mono ?_;rintro e w2 ⟨rfl,rfl⟩;go_upto_region 14 with fail
  clear e1 f1 e5 f5;refine Gc ?_;intro W3 hW3;have k3:Blk W3 (g+1) 85 [.int .u64 (x:Int),.int .i64 1,.bool false,.slice none 0 0,.slice none 0 0,.int .i64 (m:Int),.slice none 0 0]:=by rw[hW3];exact K2.out.set_ 5 _
  have hb3:Below (g+1) W1 W3:=by rw[hW3];exact HB2.out.setCell (p:=⟨g+1,5,none⟩) Lr _
  have k4:Blk W3 g 85 [.int .u64 0,.int .i64 0,.bool false,.slice none 0 0,.slice none 0 0,.int .i64 0,.slice none 0 0]:=(hb3.block g (by omega)).trans K0.out;have K3:=Qd k3;have K4:=Qd k4;have HB3:=Qd hb3;clear hW3 k3 hb3 k4;go_wp2_with (first|(with_reducible refine Vw rfl (.tmp 8) rfl (g+1) rfl K3.out.h7 ?_) |(with_reducible refine Uh rfl (.tmp 6) (.tmp 54) rfl g rfl rfl K4.out.h7 ?_))
  refine Rg (by rfl) (by rfl) (by rfl) rfl K4.out.h7 ?_;exact HEND.out W3 _ _ (some _) rfl HB3.out (Yi hx (by omega) (by omega)) (λ_ e=>(Option.some.inj e).symm) (HD.out.trans HR.out.symm)
 rw[if_neg h2] at HR;have z2:((y:Int)==99)=false:=beq_eq_false_iff_ne.2 (by omega);by_cases h3:y=98
 ·rw[if_pos h3] at HR
  subst h3;have m1:IntKind.i64.wrap ((n:Int)-1)=(n:Int)-1:=IntWalk.i64_in _ (by omega);go_wp2_with fail
  rw[E1.out];refine(ih u W1 hdl).mono ?_;rintro e w2 ⟨a,vs,rfl,ha,hre,hb2⟩;obtain⟨S,A,n1,c1,A',n2,c2,rfl⟩:=ha.form;have hl2:g+1<w2.heap.size:=by have:=hb2.size;have:=HS.out;omega
  have k2:Blk w2 (g+1) 85 [.int .u64 (x:Int),.int .i64 0,.bool false,.slice none 0 0,.slice none 0 0,.int .i64 0,.slice none 0 0]:=(hb2.block _ (by have:=HS.out;omega)).trans K1.out;have HA:=Qd ha;have HRE:=Qd hre;have HB2:=Qd hb2;have K2:=Qd k2;clear ha hre hb2 k2;go_upto_region 17 with fail
  refine Gc ?_;intro W3 hW3;have k3:Blk W3 (g+1) 85 [.int .u64 (x:Int),.int .i64 0,.bool false,.slice none 0 0,.slice none 0 0,.int .i64 0,.slice none 0 0]:=by rw[hW3];exact K2.out.alloc _
  have k3a:Blk W3 w2.heap.size 43 [.int .u64 (S:Int),.slice A n1 c1,.slice A' n2 c2]:=by rw[hW3];exact Blk.new _ _ _
  have hs3:W3.heap.size=w2.heap.size+1:=by rw[hW3];simp
  have hb3:Below w2.heap.size w2 W3:=by rw[hW3];exact Br.alloc Lr _
  have e1:W3.cell? ⟨g+1,1,none⟩=some (.int .i64 0):=k3.cell rfl;have f1:=k3.frozen 1;clear hW3;go_upto_region 18 with fail
  refine Gc ?_;intro W4 hW4;have k4:Blk W4 (g+1) 85 [.int .u64 (x:Int),.int .i64 2,.bool false,.slice none 0 0,.slice none 0 0,.int .i64 0,.slice none 0 0]:=by rw[hW4];exact k3.set_ 1 _
  have k4a:Blk W4 w2.heap.size 43 [.int .u64 (S:Int),.slice A n1 c1,.slice A' n2 c2]:=by rw[hW4];exact k3a.far (by show w2.heap.size≠g+1;omega) _
  have hs4:W4.heap.size=w2.heap.size+1:=by rw[hW4];simp[hs3]
  have hq4:∀b,b<w2.heap.size->b≠g+1->W4.heap[b]? =w2.heap[b]? :=λb hb hne=>by rw[hW4,Below.heap_setCell _ _ _ _ hne];exact hb3.block b hb
  have hb4:Below (g+1) W1 W4:=by rw[hW4];exact((HB2.out.mono (show g+1<=W1.heap.size by have:=HS.out;omega)).trans (hb3.mono (by omega))).setCell (p:=⟨g+1,1,none⟩) Lr _
  have e6:W4.cell? ⟨g+1,6,none⟩=some (.slice none 0 0):=k4.cell rfl;have f6:=k4.frozen 6;have K4:=Qd k4;have K4A:=Qd k4a;have HB4:=Qd hb4;have HQ4:=Qd hq4;have hl4:g+1<W4.heap.size:=by omega
  have HS4:=Qd hs4;clear hs4 hW4 k3 k3a hs3 hb3 e1 f1 k4 k4a hb4 hq4;go_upto_region 19 with(with_reducible refine Dm rfl (.tmp 12) rfl w2.heap.size rfl K4A.out.h3 ?_)
  clear e6 f6;refine Gc ?_;intro W5 hW5;have hs4:=HS4.out;have k5:Blk W5 (g+1) 85 [.int .u64 (x:Int),.int .i64 2,.bool false,.slice none 0 0,.slice none 0 0,.int .i64 0,.slice (some ⟨W4.heap.size,0,none⟩) 1 1]:=by rw[hW5];exact(K4.out.set_ 6 _).alloc _
  have k5a:W5.heap[W4.heap.size]? =some (.cells #[.int .u64 (S:Int),.slice A n1 c1,.slice A' n2 c2] 43 (0,0)):=by
   rw[hW5];have:=heap_alloc_new (W4.setCell ⟨g+1,6,none⟩ (.slice (some ⟨W4.heap.size,0,none⟩) 1 1)) (.cells #[.int .u64 (S:Int),.slice A n1 c1,.slice A' n2 c2] 43);rwa[World.size_setCell] at this
  have hb5:Below (g+1) W1 W5:=by rw[hW5];exact(HB4.out.setCell (p:=⟨g+1,6,none⟩) Lr _).alloc (by simp;omega) _
  have hnu:¬HasU w2 (g+1):=Xo K2.out;have hq5:∀b,b<w2.heap.size->b≠g+1->W5.heap[b]? =w2.heap[b]? :=λb hb hne=>by
   rw[hW5,Below.heap_alloc _ _ _ (by simp;omega),Below.heap_setCell _ _ _ _ hne];exact HQ4.out b hb hne
  have hs5:w2.heap.size<=W5.heap.size:=by rw[hW5];simp;omega
  have ha5:IsArrP W5 (PR (g+2) W5) a [.int .u64 (S:Int),.slice A n1 c1,.slice A' n2 c2]:=by
   have hs1:=HS.out;refine IsArrP.keep (λp hp=>World.cell?_of_block (hq5 _ hp.1 (Di (by omega) hnu hp))) (λb hb=>?_) _ _ HA.out;exact(hb.same hs5 (hq5 _ hb.1 (Di (by omega) hnu hb))).mono (by omega)
  have k6:Blk W5 g 85 [.int .u64 0,.int .i64 0,.bool false,.slice none 0 0,.slice none 0 0,.int .i64 0,.slice none 0 0]:=(hb5.block g (by omega)).trans K0.out;have HC:=Qd (O3 (L:=x) hx ha5 Br k5a (by omega));have K5:=Qd k5;have K6:=Qd k6;have HB5:=Qd hb5;clear hW5 hs4 k5 k5a hb5 hnu hq5 hs5 ha5 k6 hl4 hl2;go_wp2_with (first|(with_reducible refine Vw rfl (.tmp 8) rfl (g+1) rfl K5.out.h7 ?_) |(with_reducible refine Uh rfl (.tmp 6) (.tmp 69) rfl g rfl rfl K6.out.h7 ?_))
  refine Rg (by rfl) (by rfl) (by rfl) rfl K6.out.h7 ?_;have hfin:=HEND.out W5 _ _ ((Sp.readD n u).map λa=>Ha.mk x 2 false [] [] 0 [a]) rfl HB5.out HC.out (λy e=>by obtain⟨a',h1,rfl⟩:=Option.map_eq_some_iff.1 e;rw[HRE.out a' h1]) HR.out.symm;rw[Option.isSome_map] at hfin;exact hfin
 rw[if_neg h3] at HR;have z3:((y:Int)==98)=false:=beq_eq_false_iff_ne.2 (by omega);go_wp2_with (first|(with_reducible refine Vw rfl (.tmp 8) rfl (g+1) rfl K1.out.h7 ?_) |(with_reducible refine Uh rfl (.tmp 6) (.tmp 71) rfl g rfl rfl K0.out.h7 ?_))
 refine Rg (by rfl) (by rfl) (by rfl) rfl K0.out.h7 ?_;exact HEND.out W1 _ _ none rfl Br (Yi hx (by omega) (by omega)) nofun HR.out.symm
end
section
open Go.RowKit Ar
theorem Nla:(Tryz.prog.info? 139).map (λi=>(i.zero,i.size,i.bytes))=some (some (.int .u32 0),1,4):=by kernel_rfl
theorem Jha (b off j:Nat):(⟨b,off,none⟩:Addr).add j=⟨b,off+j,none⟩:=by
 unfold Addr.add;split<;>simp_all
theorem Ot (v:Value)(l:List Nat)(w:World)(h:IsRes w v l)(hn:l.length<=1000000):
 Calls Tryz.prog 216 #[v] w λe w'=>∃v',e= .returned v'/\IsRes w' v' l/\Below w.heap.size w w':=by
 obtain⟨i0,hi,hz0,hz1,hz2⟩:=info_parts Nla;obtain⟨A,c,rfl,k1,k2,k3,k4⟩:=h;have hnil:=λw=>Lib.run_eql_slice_nil (P:=Tryz.prog) w 81 139 A l.length c 0 0 Tryz.underlying81;have HH:=Qd k4;clear k4;cases A with
 |none=>
  have hus:l=[]:=by
   rcases HH.out with h |⟨b,off,h,_⟩
   ·exact List.map_eq_nil_iff.1 h
   cases h
  have hc:=k3 rfl;subst hus hc;clear HH k3;simp only[List.length_nil] at hnil⊢;go_enter Tryz.func216,Tryz.ntmps216
  go_wp2_with fail
  go_ret;exact⟨.slice none 0 0,by simp,Ia _,Br⟩
 |some ad=>
  have hnews:Hid (∀j u,(U l)[j]? =some u->(w.alloc (.cells #[] 139)).cell? (ad.add j)=some u):=Qd (by
   intro j u hu;rcases HH.out with h |⟨b,off,h,hb,hcell⟩
   ·rw[h] at hu;cases hu
   injection h with h
   subst h;rw[Jha];exact(((Below.refl w.heap.size w).alloc Lr (Obj.cells #[] 139)).cell (p:=⟨b,off+j,none⟩) (show b<w.heap.size by omega)).trans (hcell j u hu))
  have hown:(w.alloc (.cells #[] 139)).ownsRow w.heap.size 139 1 (.slice (some ⟨w.heap.size,0,none⟩) 0 0) 0 []:=⟨by simp,.inr ⟨w.heap.size,0,#[],rfl,Lr,heap_alloc_new _ _,Lr,Nat.zero_le _,by simp,by simp⟩⟩;have hb0:Below w.heap.size w (w.alloc (.cells #[] 139)):=Br.alloc Lr _;have hl1:(U l).length=l.length*1:=by simp[U]
  have HL1:=Qd hl1;clear hl1 k3;go_enter Tryz.func216,Tryz.ntmps216
  go_wp2_with (at_builtin;refine wpList_append_own _ rfl (.tmp 5) (.tmp 6) 81 rfl w.heap.size 139 i0 (.int .u32 0) 1 4 Tryz.underlying81 hi hz0 hz1 hz2 rfl (by decide) (.slice (some ⟨w.heap.size,0,none⟩) 0 0) 0 [] rfl hown ad l.length c (U l) rfl HL1.out hnews.out (by intro u hu;simp only[U,List.mem_map] at hu;obtain⟨x,-,rfl⟩:=hu;rfl) (by unfold maxLen;omega) (by omega) (by simp) ?_;intro v1 w1 hown1 hgrow1 hnn1)
  go_ret;simp only[Nat.zero_add,List.nil_append] at hown1;exact⟨_,rfl,IsRes.of_own hown1,hb0.grown hgrow1 hb0.size (λg hg=>(hown.lt g hg).1)⟩
theorem P7 (w:World):Calls Tryz.prog 217 #[.slice none 0 0] w λe w'=>e= .returned (.slice none 0 0)/\Below w.heap.size w w':=by
 have hnil:=λw=>Lib.run_eql_slice_nil (P:=Tryz.prog) w 24 43 none 0 0 0 0 Tryz.underlying24;go_enter Tryz.func217,Tryz.ntmps217
 go_wp2_with fail
 go_ret;exact⟨rfl,Br⟩
def Iea (neg:Bool)(top bot:List Nat)(w:World)(e:Ending)(w':World):Prop:=∃t u,e= .returned (.agg #[.int .u64 0,.int .i64 0,.bool neg,t,u,.int .i64 0,.slice none 0 0])/\IsRes w' t top/\IsRes w' u bot/\Below w.heap.size w w'
structure Ola (w:World) (g:Nat) (neg:Bool) (A1 A2:Option Addr) (c1 c2:Nat) (top bot:List Nat) (k:Nat) (xs:Nat->Value) (w':World):Prop where
 b:Below g w w'
 res:Blk w' (g+1) 85 [.int .u64 0,.int .i64 0,.bool false,.slice none 0 0,.slice none 0 0,.int .i64 0,.slice none 0 0]
 r3:1<=k->IsRes w' (xs 3) top
 r7:2<=k->IsRes w' (xs 7) bot
 blk:Blk w' g 85 [.int .u64 0,.int .i64 0,.bool neg,if 4<=k then xs 3 else .slice A1 top.length c1,if 5<=k then xs 7 else .slice A2 bot.length c2,.int .i64 0,.slice none 0 0]
theorem Uja (neg:Bool)(top bot:List Nat)(v1 v2:Value)(w:World)(h1:IsRes w v1 top)(h2:IsRes w v2 bot)(l1:top.length<=1000000)(l2:bot.length<=1000000):
 Calls Tryz.prog 198 #[.agg #[.int .u64 0,.int .i64 0,.bool neg,v1,v2,.int .i64 0,.slice none 0 0]] w (Iea neg top bot w):=by
 obtain⟨W,hW⟩:∃W,W=(w.alloc (.cells #[.int .u64 0,.int .i64 0,.bool neg,v1,v2,.int .i64 0,.slice none 0 0] 85)).alloc (.cells #[.int .u64 0,.int .i64 0,.bool false,.slice none 0 0,.slice none 0 0,.int .i64 0,.slice none 0 0] 85):=⟨_,rfl⟩;have hWs:W.heap.size=w.heap.size+2:=by rw[hW];simp
 have hWb:Below w.heap.size w W:=by rw[hW];exact(Br.alloc Lr _).alloc (by simp) _
 have K0:Hid (Blk W w.heap.size 85 [.int .u64 0,.int .i64 0,.bool neg,v1,v2,.int .i64 0,.slice none 0 0]):=Qd (by rw[hW];exact(Blk.new w _ _).alloc _);have K1:Hid (Blk W (w.heap.size+1) 85 [.int .u64 0,.int .i64 0,.bool false,.slice none 0 0,.slice none 0 0,.int .i64 0,.slice none 0 0]):=Qd (by rw[hW];have:=Blk.new (w.alloc (.cells #[.int .u64 0,.int .i64 0,.bool neg,v1,v2,.int .i64 0,.slice none 0 0] 85)) 85 [.int .u64 0,.int .i64 0,.bool false,.slice none 0 0,.slice none 0 0,.int .i64 0,.slice none 0 0];rwa[World.size_alloc] at this);have HW:=Qd hW;have HB:=Qd hWb;have R1:=Qd h1;have R2:=Qd h2;obtain⟨A1,c1,rfl,-⟩:=h1;obtain⟨A2,c2,rfl,-⟩:=h2;clear hW hWb;obtain⟨g,hg⟩:∃g,g=w.heap.size:=⟨_,rfl⟩;rw[<-hg] at hWs K0 K1;have HG:=Qd hg;have HS:=Qd hWs;clear hg hWs;have HBD:Hid (Below g w W.drew):=Qd (by rw[HG.out];exact⟨HB.out.os,HB.out.tape,HB.out.output,HB.out.size,HB.out.block⟩);go_enter Tryz.func198,Tryz.ntmps198
 go_upto_region 1 with fail
 rw[<-HW.out,<-HG.out];refine Hj [3,7,10,13,16,18] (λxs=>{tmps:= #[_,_,_,xs 0,xs 1,xs 2,xs 3,xs 4,xs 5,xs 6,xs 7,xs 8,xs 9,xs 10,xs 11,xs 12,xs 14,xs 15,xs 17,_],defers:=[]})
  (λi v=>match i with
   | 0 | 4 | 11 | 14=>v= .pointer (some ⟨g,2,none⟩)
   | 1 | 12=>v= .pointer (some ⟨g,3,none⟩)
   | 5 | 15=>v= .pointer (some ⟨g,4,none⟩)
   | 8 | 17=>v= .pointer (some ⟨g,6,none⟩)
   | 2=>v= .slice A1 top.length c1
   | 6=>v= .slice A2 bot.length c2
   | 9=>v= .slice none 0 0
   | 10=>v= .slice none 0 0
   |_=>True)
  (Ola w g neg A1 A2 c1 c2 top bot)
  (by kernel_rfl) (by kernel_rfl) (by kernel_rfl) (by kernel_rfl) (by kernel_rfl) (λ_=>undef) rfl ?_ ?_ ?_ ?_
 ·exact⟨HBD.out,K1.out,λh=>absurd h (by decide),λh=>absurd h (by decide),K0.out⟩
 ·intro i xs w' k hi hne hS hdep hno
  have hi6:i<19:=hi;have hXS:∀v,i≠3->i≠7->Ola w g neg A1 A2 c1 c2 top bot k (Ta xs i v) w':=λv h3 h7=>by
   have e3:Ta xs i v 3=xs 3:=if_neg (λe=>h3 e.symm);have e7:Ta xs i v 7=xs 7:=if_neg (λe=>h7 e.symm);exact⟨hS.b,hS.res,by rw[e3];exact hS.r3,by rw[e7];exact hS.r7,by rw[e3,e7];exact hS.blk⟩
  have hk3:Fb .any _ 13 i=true->¬3<k:=λh1 h2=>by have:=hno 3 13 rfl h2;rw[h1] at this;cases this
  clear hi hno;rcases(show i=0\/i=1\/i=2\/i=4\/i=5\/i=6\/i=8\/i=9\/i=11\/i=12\/i=14\/i=15\/i=17 by simp at hne;omega) with rfl |rfl |rfl |rfl |rfl |rfl |rfl |rfl |rfl |rfl |rfl |rfl |rfl
  ·refine Da rfl rfl ?_
   unfold Oper.wp;go_simp
   exact⟨_,by simp only[Ta];simp,rfl,hXS _ (by decide) (by decide)⟩
  ·have h0:xs 0= .pointer (some ⟨g,2,none⟩):=hdep 0 (by kernel_rfl)
   refine Da rfl rfl ?_;unfold Oper.wp;simp only[h0];go_simp
   exact⟨_,by simp only[Ta];simp[h0],rfl,hXS _ (by decide) (by decide)⟩
  ·have h1:xs 1= .pointer (some ⟨g,3,none⟩):=hdep 1 (by kernel_rfl)
   have hk:=hk3 (by kernel_rfl);have hc:w'.cell? ⟨g,3,none⟩=some (.slice A1 top.length c1):=(hS.blk.cell (i:=3) rfl).trans (by rw[if_neg (by omega)]);refine Da rfl rfl ?_;unfold Oper.wp;simp only[h1];go_simp
   exact⟨_,by simp only[Ta];simp[h1],rfl,hXS _ (by decide) (by decide)⟩
  ·refine Da rfl rfl ?_
   unfold Oper.wp;go_simp
   exact⟨_,by simp only[Ta];simp,rfl,hXS _ (by decide) (by decide)⟩
  ·have h4:xs 4= .pointer (some ⟨g,2,none⟩):=hdep 4 (by kernel_rfl)
   refine Da rfl rfl ?_;unfold Oper.wp;simp only[h4];go_simp
   exact⟨_,by simp only[Ta];simp[h4],rfl,hXS _ (by decide) (by decide)⟩
  ·have h5:xs 5= .pointer (some ⟨g,4,none⟩):=hdep 5 (by kernel_rfl)
   have hk:=hk3 (by kernel_rfl);have hc:w'.cell? ⟨g,4,none⟩=some (.slice A2 bot.length c2):=(hS.blk.cell (i:=4) rfl).trans (by rw[if_neg (by omega)]);refine Da rfl rfl ?_;unfold Oper.wp;simp only[h5];go_simp
   exact⟨_,by simp only[Ta];simp[h5],rfl,hXS _ (by decide) (by decide)⟩
  ·refine Da rfl rfl ?_
   unfold Oper.wp;go_simp
   exact⟨_,by simp only[Ta];simp,rfl,hXS _ (by decide) (by decide)⟩
  ·have h8:xs 8= .pointer (some ⟨g,6,none⟩):=hdep 8 (by kernel_rfl)
   have hk:=hk3 (by kernel_rfl);have hc:w'.cell? ⟨g,6,none⟩=some (.slice none 0 0):=hS.blk.cell (i:=6) rfl;refine Da rfl rfl ?_;unfold Oper.wp;simp only[h8];go_simp
   exact⟨_,by simp only[Ta];simp[h8],rfl,hXS _ (by decide) (by decide)⟩
  ·refine Da rfl rfl ?_
   unfold Oper.wp;go_simp
   exact⟨_,by simp only[Ta];simp,rfl,hXS _ (by decide) (by decide)⟩
  ·have h11:xs 11= .pointer (some ⟨g,2,none⟩):=hdep 11 (by kernel_rfl)
   refine Da rfl rfl ?_;unfold Oper.wp;simp only[h11];go_simp
   exact⟨_,by simp only[Ta];simp[h11],rfl,hXS _ (by decide) (by decide)⟩
  ·refine Da rfl rfl ?_
   unfold Oper.wp;go_simp
   exact⟨_,by simp only[Ta];simp,rfl,hXS _ (by decide) (by decide)⟩
  ·have h14:xs 14= .pointer (some ⟨g,2,none⟩):=hdep 14 (by kernel_rfl)
   refine Da rfl rfl ?_;unfold Oper.wp;simp only[h14];go_simp
   exact⟨_,by simp only[Ta];simp[h14],rfl,hXS _ (by decide) (by decide)⟩
  refine Da rfl rfl ?_;unfold Oper.wp;go_simp
  exact⟨_,by simp only[Ta];simp,rfl,hXS _ (by decide) (by decide)⟩
 ·intro m i xs w' hm hS hdep
  obtain⟨hb,hres,h3,h7,hk⟩:=hS;have hgl1:=hres.lt;have hB:=hb;rw[HG.out] at hB;have hgl:=hk.lt;have hno:¬HasU w' g:=by
   refine Fd hk ?_;intro u hu n e;subst e;simp at hu;rcases hu with h |h
   ·split at h
    ·obtain⟨A,c,e,-⟩:=h3 (by omega);rw[e] at h;cases h
    cases h
   split at h
   ·obtain⟨A,c,e,-⟩:=h7 (by omega);rw[e] at h;cases h
   cases h
  match m,hm,h3,h7,hk with
  | 0,hm,h3,h7,hk=>
   obtain rfl:3=i:=Option.some.inj hm;have e2:xs 2= .slice A1 top.length c1:=hdep 2 (by kernel_rfl);refine Da rfl rfl ?_;unfold Oper.wp;simp only[e2];go_simp
   refine(Ot _ top w' (R1.out.below hB) l1).mono ?_;rintro e w3 ⟨v3,rfl,hr3,hb3⟩;exact⟨v3,by simp only[Ta];simp[e2],trivial,⟨hb.trans (hb3.mono (by omega)),(hb3.block (g+1) hgl1).trans hres,λ_=>hr3,λh=>absurd h (by decide),(hb3.block g hgl).trans hk⟩⟩
  | 1,hm,h3,h7,hk=>
   obtain rfl:7=i:=Option.some.inj hm;have e2:xs 6= .slice A2 bot.length c2:=hdep 6 (by kernel_rfl);refine Da rfl rfl ?_;unfold Oper.wp;simp only[e2];go_simp
   refine(Ot _ bot w' (R2.out.below hB) l2).mono ?_;rintro e w3 ⟨v3,rfl,hr3,hb3⟩;exact⟨v3,by simp only[Ta];simp[e2],trivial,⟨hb.trans (hb3.mono (by omega)),(hb3.block (g+1) hgl1).trans hres,λ_=>(h3 (by decide)).below hb3,λ_=>hr3,(hb3.block g hgl).trans hk⟩⟩
  | 2,hm,h3,h7,hk=>
   obtain rfl:10=i:=Option.some.inj hm;have e2:xs 9= .slice none 0 0:=hdep 9 (by kernel_rfl);refine Da rfl rfl ?_;unfold Oper.wp;simp only[e2];go_simp
   refine(P7 w').mono ?_;rintro e w3 ⟨rfl,hb3⟩;exact⟨_,by simp only[Ta];simp[e2],rfl,⟨hb.trans (hb3.mono (by omega)),(hb3.block (g+1) hgl1).trans hres,λ_=>(h3 (by decide)).below hb3,λ_=>(h7 (by decide)).below hb3,(hb3.block g hgl).trans hk⟩⟩
  | 3,hm,h3,h7,hk=>
   obtain rfl:13=i:=Option.some.inj hm;have e2:xs 12= .pointer (some ⟨g,3,none⟩):=hdep 12 (by kernel_rfl);have r3:=h3 (by decide);obtain⟨A3,c3,e3,-⟩:=id r3;have cc:w'.cell? ⟨g,3,none⟩=some (.slice A1 top.length c1):=hk.cell (i:=3) rfl;have ff:=hk.frozen 3;refine Da rfl rfl ?_;unfold Oper.wp;simp only[e2,e3];go_simp
   have hs:=λv=>Pc (w':=w'.setCell ⟨g,3,none⟩ v) (h3 (by decide)) (by rw[World.size_setCell];exact Lr) (λb _ hu=>Below.heap_setCell _ _ _ _ (λe=>hno (by rw[<-show b=g from e];exact hu)));have hs7:=λv=>Pc (w':=w'.setCell ⟨g,3,none⟩ v) (h7 (by decide)) (by rw[World.size_setCell];exact Lr) (λb _ hu=>Below.heap_setCell _ _ _ _ (λe=>hno (by rw[<-show b=g from e];exact hu)));refine⟨undef,by simp only[Ta];simp[e2,e3],trivial,⟨hb.setCell (p:=⟨g,3,none⟩) Lr _,hres.far (by simp) _,λ_=>hs _,λ_=>hs7 _,?_⟩⟩;rw[<-e3];exact hk.set_ 3 _
  | 4,hm,h3,h7,hk=>
   obtain rfl:16=i:=Option.some.inj hm;have e2:xs 15= .pointer (some ⟨g,4,none⟩):=hdep 15 (by kernel_rfl);obtain⟨A3,c3,e3,-⟩:=h7 (by decide);have cc:w'.cell? ⟨g,4,none⟩=some (.slice A2 bot.length c2):=hk.cell (i:=4) rfl;have ff:=hk.frozen 4;refine Da rfl rfl ?_;unfold Oper.wp;simp only[e2,e3];go_simp
   have hs:=λv=>Pc (w':=w'.setCell ⟨g,4,none⟩ v) (h3 (by decide)) (by rw[World.size_setCell];exact Lr) (λb _ hu=>Below.heap_setCell _ _ _ _ (λe=>hno (by rw[<-show b=g from e];exact hu)));have hs7:=λv=>Pc (w':=w'.setCell ⟨g,4,none⟩ v) (h7 (by decide)) (by rw[World.size_setCell];exact Lr) (λb _ hu=>Below.heap_setCell _ _ _ _ (λe=>hno (by rw[<-show b=g from e];exact hu)));refine⟨undef,by simp only[Ta];simp[e2,e3],trivial,⟨hb.setCell (p:=⟨g,4,none⟩) Lr _,hres.far (by simp) _,λ_=>hs _,λ_=>hs7 _,?_⟩⟩;rw[<-e3];exact hk.set_ 4 _
  | 5,hm,h3,h7,hk=>
   obtain rfl:18=i:=Option.some.inj hm;have e2:xs 17= .pointer (some ⟨g,6,none⟩):=hdep 17 (by kernel_rfl);have e3:xs 10= .slice none 0 0:=hdep 10 (by kernel_rfl);have cc:w'.cell? ⟨g,6,none⟩=some (.slice none 0 0):=hk.cell (i:=6) rfl;have ff:=hk.frozen 6;refine Da rfl rfl ?_;unfold Oper.wp;simp only[e2,e3];go_simp
   have hs:=λv=>Pc (w':=w'.setCell ⟨g,6,none⟩ v) (h3 (by decide)) (by rw[World.size_setCell];exact Lr) (λb _ hu=>Below.heap_setCell _ _ _ _ (λe=>hno (by rw[<-show b=g from e];exact hu)));have hs7:=λv=>Pc (w':=w'.setCell ⟨g,6,none⟩ v) (h7 (by decide)) (by rw[World.size_setCell];exact Lr) (λb _ hu=>Below.heap_setCell _ _ _ _ (λe=>hno (by rw[<-show b=g from e];exact hu)));refine⟨undef,by simp only[Ta];simp[e2,e3],trivial,⟨hb.setCell (p:=⟨g,6,none⟩) Lr _,hres.far (by simp) _,λ_=>hs _,λ_=>hs7 _,?_⟩⟩;exact hk.set_ 6 _
  |m+6,hm,_,_,_=>simp at hm
 intro xs w' hS hR;obtain⟨hb,hres,h3,h7,hk⟩:=hS;replace h3:=h3 (by decide);replace h7:=h7 (by decide);have hk2:Blk w' g 85 [.int .u64 0,.int .i64 0,.bool neg,xs 3,xs 7,.int .i64 0,.slice none 0 0]:=hk;have R3:=Qd h3;have R7:=Qd h7;have hno:¬HasU w' (g+1):=Xo hres;have HN:=Qd hno;obtain⟨A3,c3,e3,-⟩:=h3;obtain⟨A4,c4,e4,-⟩:=h7;rw[e3,e4] at hk2;rw[e3] at R3;rw[e4] at R7;have K:=Qd hk2;have KR:=Qd hres;have HB2:=Qd hb;clear hR hk hk2 hres hb hno;go_wp2_with (first|(with_reducible refine Vw rfl (.tmp 1) rfl g rfl K.out.h7 ?_) |(with_reducible refine Uh rfl (.tmp 2) (.tmp 19) rfl (g+1) rfl rfl KR.out.h7 ?_))
 have hs:=λ(v:Value) (l:List Nat) (vs:Array Value) (h:IsRes w' v l)=>Pc (w':=w'.setRow (g+1) vs) h (by rw[size_setRow];exact Lr) (λb _ hu=>Pb (λe=>HN.out (by rw[<-show b=g+1 from e];exact hu)));refine bodyPost_ret (results_cell_row (by rfl) _ _ (g+1) 85 #[.int .u64 0,.int .i64 0,.bool neg,.slice A3 top.length c3,.slice A4 bot.length c4,.int .i64 0,.slice none 0 0] (0,0) _ (by rfl) (Ma KR.out.h7) Tryz.underlying85 rfl Ag) rfl ?_;refine⟨_,_,rfl,hs _ _ _ R3.out,hs _ _ _ R7.out,?_⟩;rw[<-HG.out];exact Tb HB2.out (Nat.le_succ _)
theorem Vja (neg:Bool)(top bot:List Nat)(v1 v2:Value)(w:World)(h1:IsRes w v1 top)(h2:IsRes w v2 bot)(l1:top.length<=1000000)(l2:bot.length<=1000000):
 Calls Tryz.prog 163 #[.agg #[.bool neg,v1,v2]] w (Iea neg top bot w):=by
 obtain⟨W,hW⟩:∃W,W=(w.alloc (.cells #[.bool neg,v1,v2] 83)).alloc (.cells #[.int .u64 0,.int .i64 0,.bool false,.slice none 0 0,.slice none 0 0,.int .i64 0,.slice none 0 0] 85):=⟨_,rfl⟩;have HB:Hid (Below w.heap.size w W):=Qd (by rw[hW];exact(Br.alloc Lr _).alloc (by simp) _);have K0:Hid (Blk W w.heap.size 83 [.bool neg,v1,v2]):=Qd (by rw[hW];exact(Blk.new w _ _).alloc _);have K1:Hid (Blk W (w.heap.size+1) 85 [.int .u64 0,.int .i64 0,.bool false,.slice none 0 0,.slice none 0 0,.int .i64 0,.slice none 0 0]):=Qd (by rw[hW];have:=Blk.new (w.alloc (.cells #[.bool neg,v1,v2] 83)) 85 [.int .u64 0,.int .i64 0,.bool false,.slice none 0 0,.slice none 0 0,.int .i64 0,.slice none 0 0];rwa[World.size_alloc] at this);have HS:Hid (W.heap.size=w.heap.size+2):=Qd (by rw[hW];simp);have HW:=Qd hW;have OW:=Qd (Uja neg top bot v1 v2 W (h1.below HB.out) (h2.below HB.out) l1 l2);obtain⟨A1,c1,rfl,-⟩:=h1;obtain⟨A2,c2,rfl,-⟩:=h2;clear hW;obtain⟨g,hg⟩:∃g,g=w.heap.size:=⟨_,rfl⟩;rw[<-hg] at HS K0 K1;have HG:=Qd hg;clear hg;have e0:W.cell? ⟨g,0,none⟩=some (.bool neg):=K0.out.cell rfl;have e1:W.cell? ⟨g,1,none⟩=some (.slice A1 top.length c1):=K0.out.cell rfl;have e2:W.cell? ⟨g,2,none⟩=some (.slice A2 bot.length c2):=K0.out.cell rfl;go_enter Tryz.func163,Tryz.ntmps163
 go_upto_region 1 with fail
 rw[<-HW.out,<-HG.out];go_wp2_with fail
 refine OW.out.mono ?_;rintro e w2 ⟨t,u,rfl,ht,hu,hb2⟩;have R3:=Qd ht;have R7:=Qd hu;obtain⟨A3,c3,rfl,-⟩:=ht;obtain⟨A4,c4,rfl,-⟩:=hu;have KR:=Qd ((hb2.block (g+1) (by have:=HS.out;omega)).trans K1.out);have HN:Hid (¬HasU w2 (g+1)):=Qd (Xo (L:=0) KR.out);have HB2:Hid (Below g w w2):=Qd (by rw[HG.out];exact HB.out.trans (hb2.mono HB.out.size));have KR7:Hid (w2.heap[g+1]? =some (.cells #[.int .u64 0,.int .i64 0,.bool false,.slice none 0 0,.slice none 0 0,.int .i64 0,.slice none 0 0] 85 (0,0))):=KR;clear hb2 e0 e1 e2;go_wp2_with (with_reducible refine Uh rfl (.tmp 2) (.tmp 5) rfl (g+1) rfl rfl KR7.out ?_)
 have hs:=λ(v:Value) (l:List Nat) (vs:Array Value) (h:IsRes w2 v l)=>Pc (w':=w2.setRow (g+1) vs) h (by rw[size_setRow];exact Lr) (λb _ hu=>Pb (λe=>HN.out (by rw[<-show b=g+1 from e];exact hu)));refine bodyPost_ret (results_cell_row (by rfl) _ _ (g+1) 85 #[.int .u64 0,.int .i64 0,.bool neg,.slice A3 top.length c3,.slice A4 bot.length c4,.int .i64 0,.slice none 0 0] (0,0) _ (by rfl) (Ma KR7.out) Tryz.underlying85 rfl Ag) rfl ?_;refine⟨_,_,rfl,hs _ _ _ R3.out,hs _ _ _ R7.out,?_⟩;rw[<-HG.out];exact Tb HB2.out (Nat.le_succ _)
theorem Wja (c:Int)(w:World):Calls Tryz.prog 164 #[.int .i64 c] w λe w'=>e= .returned (.agg #[.int .u64 0,.int .i64 1,.bool false,.slice none 0 0,.slice none 0 0,.int .i64 c,.slice none 0 0])/\Below w.heap.size w w':=by
 obtain⟨W,hW⟩:∃W,W=w.alloc (.cells #[.int .u64 0,.int .i64 0,.bool false,.slice none 0 0,.slice none 0 0,.int .i64 0,.slice none 0 0] 85):=⟨_,rfl⟩;have HB:Hid (Below w.heap.size w W):=Qd (by rw[hW];exact Br.alloc Lr _);have K1:Hid (W.heap[w.heap.size]? =some (.cells #[.int .u64 0,.int .i64 0,.bool false,.slice none 0 0,.slice none 0 0,.int .i64 0,.slice none 0 0] 85 (0,0))):=Qd (by rw[hW];exact heap_alloc_new _ _);have HW:=Qd hW;clear hW;go_enter Tryz.func164,Tryz.ntmps164
 go_upto_region 1 with fail
 rw[<-HW.out];go_wp2_with (with_reducible refine Uh rfl (.tmp 2) (.tmp 4) rfl w.heap.size rfl rfl K1.out ?_)
 refine bodyPost_ret (results_cell_row (by rfl) _ _ w.heap.size 85 #[.int .u64 0,.int .i64 1,.bool false,.slice none 0 0,.slice none 0 0,.int .i64 c,.slice none 0 0] (0,0) _ (by rfl) (Ma K1.out) Tryz.underlying85 rfl Ag) rfl ?_;exact⟨rfl,Tb HB.out Lr⟩
end
section
open Go.RowKit Ar
theorem Ww:∀u∈(Value.agg #[.int .u64 0,.int .i64 0,.bool false,.slice none 0 0,.slice none 0 0,.int .i64 0,.slice none 0 0]).cells.toList,Ic u:=by
 intro u hu n e;subst e;simp[Value.cells] at hu
theorem Xw {w w':World}(h:Below w.heap.size w w'):w.grownBy w' none:=⟨h.os,h.tape,h.output,h.size,λk hk _=>h.block k hk⟩
theorem Pn {w:World}{b:Nat}{S:Int}{A1 A2:Option Addr}{n1 c1 n2 c2:Nat}(h:Blk w b 43 [.int .u64 S,.slice A1 n1 c1,.slice A2 n2 c2]):¬HasU w b:=Fd h (by intro u hu n e;subst e;simp at hu)
theorem Pt {n:Nat}{w:World}{S:Nat}(hS:S<18446744073709551616):IsArrP w (PR n w) (.mk S [] []) [.int .u64 (S:Int),.slice none 0 0,.slice none 0 0]:=by
 rw[IsArrP];exact⟨none,0,none,0,[],rfl,hS,⟨Lr,by simp,by omega⟩,⟨Lr,by simp,by omega⟩,λx hx=>absurd hx List.not_mem_nil,.inl rfl,.inl rfl,by rw[IsCelsP]⟩
theorem Fba (s:List UInt8):Sp.readD 0 s=none:=rfl
theorem Gba {n:Nat}{s:List UInt8}(h:Nw.cut s=none):Sp.readD n s=none:=by
 cases n with
 |zero=>rfl
 |succ n=>show Sp.bodyD _ s=none;unfold Sp.bodyD;rw[h]
theorem Hba {n:Nat}{s:List UInt8}{p:List UInt8×List UInt8}(h:Nw.cut s=some p)(h2:Nw.cut p.2=none):Sp.readD n s=none:=by
 cases n with
 |zero=>rfl
 |succ n=>show Sp.bodyD _ s=none;unfold Sp.bodyD;rw[h];dsimp only;rw[h2]
theorem Iba {n:Nat}{s:List UInt8}{p q:List UInt8×List UInt8}(h:Nw.cut s=some p)(h2:Nw.cut p.2=some q):Sp.readD (n+1) s=match Sp.labP p.1 with |none=>none |some S=>(Sp.cellsD (Sp.readD n) q.2.length q.2).map λcs=> .mk S (Sp.shapeD q.1) cs:=by
 show Sp.bodyD _ s=_;unfold Sp.bodyD;rw[h];dsimp only;rw[h2];rfl
theorem Bq {n N:Nat}{w:World}{x:Nat}{sh:List Int}{Ash:Option Addr}{Csh:Nat}{V:Value}{cs:List Ha}{xs:List Value}(hx:x<18446744073709551616)(hf:sh.length<=1000000)(hC1:sh.length<=Csh)(hC2:Csh<=maxLen)(hw:Xa sh)(hl:LiesP w (PR n w) Ash (Ya sh))(ho:w.ownsQ Ic N 85 7 V cs.length xs)(hn:n<=N)(hc:IsCelsP w (PL n w V) cs xs)(hk:cs.length<=1000000):
 ∃A' c',V= .slice A' cs.length c'/\IsArrP w (PR n w) (.mk x sh cs) [.int .u64 (x:Int),.slice Ash sh.length Csh,.slice A' cs.length c']:=by
 obtain⟨A',c',rfl,h1,h2⟩:=Na ho.own;refine⟨A',c',rfl,?_⟩;rw[IsArrP];unfold maxLen at h2 hC2;exact⟨Ash,Csh,A',c',xs,rfl,hx,⟨hC1,by omega,by omega⟩,⟨h1,by omega,by omega⟩,hw,hl,(LiesP.of_own ho.own).keep (λ_ _=>rfl) (λb hb=>⟨hb.2,.inl (Nat.le_trans hn hb.1)⟩),IsCelsP.keep (λ_ _=>rfl) (λb hb=>hb.1) _ _ hc⟩
theorem Qn {n:Nat}(hn:n<=100)(ih:∀m,n=m+1->Wo m):Wo n:=by
 intro s w hs;obtain⟨iC,hiC,hz0,hz1,hz2⟩:=info_parts V8;obtain⟨W,hW⟩:∃W,W=(w.alloc (.cells #[.int .u64 0,.slice none 0 0,.slice none 0 0] 43)).alloc (.cells #[.int .u64 0,.slice none 0 0,.slice none 0 0] 43):=⟨_,rfl⟩;have hWs:W.heap.size=w.heap.size+2:=by rw[hW];simp
 have hWb:Below w.heap.size w W:=by rw[hW];exact(Br.alloc Lr _).alloc (by simp) _
 have hb0:Blk W w.heap.size 43 [.int .u64 0,.slice none 0 0,.slice none 0 0]:=by rw[hW];exact(Blk.new w _ _).alloc _
 have hb1:Blk W (w.heap.size+1) 43 [.int .u64 0,.slice none 0 0,.slice none 0 0]:=by rw[hW];have:=Blk.new (w.alloc (.cells #[.int .u64 0,.slice none 0 0,.slice none 0 0] 43)) 43 [.int .u64 0,.slice none 0 0,.slice none 0 0];rwa[World.size_alloc] at this
 have HW:=Qd hW;clear hW;obtain⟨g,hg⟩:∃g,g=w.heap.size:=⟨_,rfl⟩;rw[<-hg] at hWs hWb hb0 hb1;have HG:=Qd hg;obtain⟨T,hT⟩:∃T,T=Sp.readD n s:=⟨_,rfl⟩;rw[<-hT];have HT:=Qd hT;have K0:=Qd hb0;have K1:=Qd hb1;have HB:=Qd hWb;have HS:=Qd hWs;clear hg hb0 hb1 hWb hWs hT;have HEND:Hid (∀(wx:World) (a:Ba) (vs:List Value) (r:Option Ba),vs.length=3->Below (g+1) W wx->IsArrP wx (PR (g+2) wx) a vs->(∀x,r=some x->x=a)->r=T->Qg T w (.returned (.tuple #[.agg vs.toArray,.bool r.isSome])) (wx.setRow g vs.toArray)):=Qd (λwx a vs r hv hb hc hr he=>by
  rw[<-he];have hk:Blk wx g 43 [.int .u64 0,.slice none 0 0,.slice none 0 0]:=(hb.block g (by omega)).trans K0.out;refine⟨a,vs,rfl,?_,hr,?_⟩
  ·rw[<-HG.out];exact Bg (Oj hc (by omega) (Pn hk)) (Nat.le_add_right g 2)
  rw[<-HG.out];exact Tb (HB.out.trans (hb.mono (by omega))) Lr)
 have HBAD:Hid (∀wx,Below W.heap.size W wx->T=none->Blk wx g 43 [.int .u64 0,.slice none 0 0,.slice none 0 0]/\Blk wx (g+1) 43 [.int .u64 0,.slice none 0 0,.slice none 0 0]/\Qg T w (.returned (.tuple #[.agg #[.int .u64 0,.slice none 0 0,.slice none 0 0],.bool false])) (wx.setRow g #[.int .u64 0,.slice none 0 0,.slice none 0 0])):=Qd (λwx hb h=>by
  have hs:=HS.out;exact⟨(hb.block g (by omega)).trans K0.out,(hb.block (g+1) (by omega)).trans K1.out,HEND.out wx (.mk 0 [] []) _ none rfl (hb.mono (by omega)) (Pt (by omega)) nofun h.symm⟩)
 have C1:=Qd (Qc s W (by omega));obtain⟨d,hd⟩:∃d:Int,d=(n:Int)-1:=⟨_,rfl⟩;rw[<-hd];have HD:=Qd hd;clear hd;go_enter Tryz.func68,Tryz.ntmps68
 go_upto_region 2 with fail
 rw[<-HW.out,<-HG.out];cases hc:Nw.cut s with
 |none=>
  rw[hc] at C1;unfold Nw.cutV at C1;have HN:=Qd (HT.out.trans (Gba hc));clear hc HT;go_upto_region 3 with(go_at_call 42;refine C1.out.mono ?_;rintro e w2 ⟨rfl,hb2⟩)
  have C2:=Qc [] w2 (by decide);rw[Sp.cut_nil] at C2;unfold Nw.cutV at C2;replace C2:=Qd C2;go_upto_region 4 with(go_at_call 42;refine C2.out.mono ?_;rintro e w3 ⟨rfl,hb3⟩)
  obtain⟨k0,k1,HE⟩:=HBAD.out w3 (hb2.trans (hb3.mono hb2.size)) HN.out;replace k0:=Qd k0;replace k1:=Qd k1;replace HE:=Qd HE;clear hb2 hb3 C1 C2;go_wp2_with (first|(with_reducible refine Dm rfl (.tmp 6) rfl (g+1) rfl k1.out.h3 ?_) |(with_reducible refine Vh rfl (.tmp 4) (.tmp 35) rfl g rfl rfl k0.out.h3 ?_))
  all_goals
   refine Sg (by rfl) (by rfl) (by rfl) rfl k0.out.h3 ?_;exact HE.out
 |some p=>
  rw[hc] at C1;unfold Nw.cutV at C1;have hpl:=Sp.cut_less hc;have HP:=Qd hc;clear hc;go_upto_region 3 with(go_at_call 42;refine C1.out.mono ?_;rintro e w2 ⟨rfl,hb2⟩)
  have C2:=Qc p.2 w2 (by omega);by_cases hbad:Nw.cut p.2=none\/n=0
  ·have HN:Hid (T=none):=Qd (by
    rw[HT.out];rcases hbad with h |h
    ·exact Hba HP.out h
    rw[h];exact Fba s)
   have C3:Hid (∃(a b:List UInt8) (ok:Bool),Calls Tryz.prog 42 #[.string ⟨p.2.toArray⟩] w2 (λe w'=>e= .returned (.tuple #[.string ⟨a.toArray⟩,.string ⟨b.toArray⟩,.bool ok])/\Below w2.heap.size w2 w')/\(ok=true->d<0)):=Qd (by
    cases h:Nw.cut p.2 with
    |none=>rw[h] at C2;exact⟨[],[],false,C2,nofun⟩
    |some q=>
     rw[h] at C2 hbad;refine⟨q.1,q.2,true,C2,λ_=>?_⟩;rcases hbad with h |h
     ·cases h
     rw[HD.out,h];decide)
   obtain⟨a,b,ok,C4,hok⟩:=C3.out;replace C4:=Qd C4;clear C2 C3 hbad C1;go_upto_region 4 with(go_at_call 42;refine C4.out.mono ?_;rintro e w3 ⟨rfl,hb3⟩)
   obtain⟨k0,k1,HE⟩:=HBAD.out w3 (hb2.trans (hb3.mono hb2.size)) HN.out;replace k0:=Qd k0;replace k1:=Qd k1;replace HE:=Qd HE;clear hb2 hb3 C4;have hdk:d<0\/(¬d<0/\ok=false):=by
    by_cases h:d<0
    ·exact .inl h
    exact .inr ⟨h,(Bool.not_eq_true _).mp (λe=>h (hok e))⟩
   clear hok;rcases hdk with hdk |⟨hdk,rfl⟩
   all_goals
    go_wp2_with (first|(with_reducible refine Dm rfl (.tmp 6) rfl (g+1) rfl k1.out.h3 ?_) |(with_reducible refine Vh rfl (.tmp 4) (.tmp 35) rfl g rfl rfl k0.out.h3 ?_))
    all_goals
     refine Sg (by rfl) (by rfl) (by rfl) rfl k0.out.h3 ?_;exact HE.out
  obtain⟨q,hq⟩:∃q,Nw.cut p.2=some q:=by
   cases h:Nw.cut p.2 with
   |none=>exact absurd (.inl h) hbad
   |some q=>exact⟨q,rfl⟩
  obtain⟨m,rfl⟩:∃m,n=m+1:=⟨n-1,by omega⟩;obtain rfl:d=(m:Int):=by rw[HD.out];omega
  have RC:=Qd (λ(l t:List UInt8) (wx:World)=>Ny (n:=m) (by omega) (ih m rfl) l t wx);have hql:=Sp.cut_less hq;rw[hq] at C2;unfold Nw.cutV at C2;replace C2:=Qd C2;have HTG:=Qd (HT.out.trans (Iba HP.out hq));have hm0:¬(m:Int)<0:=by omega
  clear hbad C1 HBAD HT ih HP;go_upto_region 4 with(go_at_call 42;refine C2.out.mono ?_;rintro e w3 ⟨rfl,hb3⟩)
  have hb13:=hb2.trans (hb3.mono hb2.size);have LP:=Qd (Hd p.1 w3 (by omega));have k1:Blk w3 (g+1) 43 [.int .u64 0,.slice none 0 0,.slice none 0 0]:=(hb13.block (g+1) (by have:=HS.out;omega)).trans K1.out;have c0:w3.cell? ⟨g+1,0,none⟩=some (.int .u64 0):=k1.cell rfl;have f0:=k1.frozen 0;have hs3:g+2<=w3.heap.size:=by have h1:=HS.out;have h2:=hb13.size;omega
  have HB13:=Qd hb13;replace k1:=Qd k1;clear hb2 hb3 C2 hb13;go_upto_region 6 with fail
  go_upto_region 7 with(go_at_call 44;refine LP.out.mono ?_;rintro e w' ⟨rfl,x,ok,rfl,hsp⟩;replace hsp:=Qd hsp)
  have hlp:=Qd (Sp.labP_spec hsp.out);have hx:x<18446744073709551616:=by rcases hsp.out with⟨-,h,-⟩ |⟨-,h,-⟩<;>omega
  clear hsp LP;refine Gc ?_;intro W4 hW4;have k4:Blk W4 (g+1) 43 [.int .u64 (x:Int),.slice none 0 0,.slice none 0 0]:=by rw[hW4];exact k1.out.set_ 0 _
  have hb4:Below (g+1) W W4:=by rw[hW4];exact(HB13.out.mono (show g+1<=W.heap.size by have:=HS.out;omega)).setCell (p:=⟨g+1,0,none⟩) Lr _
  have hs4:g+2<=W4.heap.size:=by rw[hW4,World.size_setCell];exact hs3
  have K4:=Qd k4;have HB4:=Qd hb4;have NU:=Qd (O7 q.1 W4 (by omega));clear hW4 k4 hb4 c0 f0 k1 HB13 hs3;go_upto_region 8 with(go_at_call 99;refine NU.out.mono ?_;rintro e w5 ⟨v,rfl,ho5,hl5,hw5,hb5⟩;obtain⟨Ash,Csh,rfl,hC1,hC2⟩:=Na ho5;have k5:=(hb5.block (g+1) (by omega)).trans K4.out;have c1:w5.cell? ⟨g+1,1,none⟩=some (.slice none 0 0):=Blk.cell k5 rfl;have f1:=Blk.frozen k5 1;replace k5:=Qd k5;replace ho5:=Qd ho5;replace hw5:=Qd hw5;replace hb5:=Qd hb5)
  refine Gc ?_;intro W6 hW6;have hs6:w5.heap.size=W6.heap.size:=by rw[hW6,World.size_setCell]
  have hs5:W4.heap.size<=w5.heap.size:=hb5.out.size;have K6:Hid (Blk W6 (g+1) 43 [.int .u64 (x:Int),.slice Ash (Sp.shapeD q.1).length Csh,.slice none 0 0]):=Qd (by rw[hW6];exact Blk.set_ (vs:=[.int .u64 (x:Int),.slice none 0 0,.slice none 0 0]) k5.out 1 _);have HB6:Hid (Below (g+1) W W6):=Qd (by rw[hW6];exact(HB4.out.trans (hb5.out.mono (by omega))).setCell (p:=⟨g+1,1,none⟩) Lr _);have SH:Hid (LiesP W6 (λb=>g+2<=b/\b<W6.heap.size) Ash (Ya (Sp.shapeD q.1))):=Qd ((LiesP.of_own ho5.out).keep (λp hp=>World.cell?_of_block (by rw[hW6];exact Below.heap_setCell _ _ _ _ (by have:=hp.1;show p.block≠g+1;omega))) (λb hb=>⟨by omega,by omega⟩));have HTT:Hid (T=if ok then(Sp.cellsD (Sp.readD m) q.2.length q.2).map (λr=> .mk x (Sp.shapeD q.1) ([]++r)) else none):=Qd (by rw[HTG.out,hlp.out];cases ok<;>rfl);generalize Sp.shapeD q.1=sh at*;have hs6':g+2<=W6.heap.size:=by omega
  have hq2:q.2.length<=s.length:=by omega
  clear hW6 hs6 hs5 NU k5 ho5 hb5 c1 f1 hlp HTG HB4 K4 hs4 hql hpl K1;go_loopw [0,7,8,9,10] (λsv _ okv _ _ wr=>∃(t:List UInt8) (ok:Bool) (f:Nat) (cs:List Ha) (V:Value) (xs:List Value),sv= .string ⟨t.toArray⟩/\okv= .bool ok/\t.length<=f/\cs.length+t.length<=s.length/\Hid (T=if ok then(Sp.cellsD (Sp.readD m) f t).map (λr=> .mk x sh (cs++r)) else none)/\Hid (Blk wr (g+1) 43 [.int .u64 (x:Int),.slice Ash sh.length Csh,V])/\Hid (wr.ownsQ Ic W6.heap.size 85 7 V cs.length xs)/\Hid (IsCelsP wr (PL (g+2) wr V) cs xs)/\Hid (Below (g+1) W6 wr)/\Hid (∀b,g+2<=b->b<W6.heap.size->wr.heap[b]? =W6.heap[b]?)) (λsv _ _ _ _ _=>match sv with | .string t=>t.size |_=>0)
  case atStart=>exact⟨q.2,ok,q.2.length,[],.slice none 0 0,[],rfl,rfl,Lr,by simp;omega,HTT,K6,Qd (World.ownsQ_nil _ _ _ _ _),Qd (by rw[IsCelsP]),Qd Br,Qd (λ_ _ _=>rfl)⟩
  case round=>
   clear HTT K6;obtain⟨t,ok,f,cs,V,xs,rfl,rfl,hf,hl,HTT,K6,HO,HX,HBR,HKB⟩:=hrel;have hwr:=HBR.out.size;have hsz:(⟨t.toArray⟩:ByteArray).size=t.length:=rfl;have hL:LiesP wr (PR (g+2) wr) Ash (Ya sh):=SH.out.keep (λp hp=>World.cell?_of_block (HKB.out _ hp.1 hp.2)) (λb hb=>⟨by omega,.inl hb.1⟩);obtain⟨A',c',rfl,hA⟩:=Bq hx (by omega) hC1 hC2 hw5.out hL HO.out (by omega) HX.out (by omega);have HA:=Qd hA;have K0w:Hid (Blk wr g 43 [.int .u64 0,.slice none 0 0,.slice none 0 0]):=Qd ((HBR.out.block g (by omega)).trans ((HB6.out.block g (by omega)).trans K0.out));have HBW:Hid (Below (g+1) W wr):=Qd (HB6.out.trans HBR.out);clear hL hA;have HBAD:Hid (∀wx,Below wr.heap.size wr wx->T=none->Blk wx g 43 [.int .u64 0,.slice none 0 0,.slice none 0 0]/\Blk wx (g+1) 43 [.int .u64 (x:Int),.slice Ash sh.length Csh,.slice A' cs.length c']/\Qg T w (.returned (.tuple #[.agg #[.int .u64 (x:Int),.slice Ash sh.length Csh,.slice A' cs.length c'],.bool false])) (wx.setRow g #[.int .u64 (x:Int),.slice Ash sh.length Csh,.slice A' cs.length c'])):=Qd (λwx hb h=>
    ⟨(hb.block g (by omega)).trans K0w.out,(hb.block (g+1) (by omega)).trans K6.out,HEND.out wx _ _ none rfl (HBW.out.trans (hb.mono (by omega))) (Sc HA.out hb) nofun h.symm⟩)
   by_cases hgo:ok=true/\0<t.length
   ·obtain⟨rfl,h0⟩:=hgo
    have hp0:(0:Int)<(t.length:Int):=by omega
    obtain⟨f',rfl⟩:∃f',f=f'+1:=⟨f-1,by omega⟩;have HT2:Hid (T=(match Nw.cut t with |none=>none |some p=>match Nw.cut p.2 with |none=>none |some q=>match Sp.pairR Sp.chD (Sp.readD m) p.1 q.1 with |none=>none |some c=>(Sp.cellsD (Sp.readD m) f' q.2).map (c:: ·)).map (λr=>Ba.mk x sh (cs++r))):=Qd (by rw[HTT.out,if_pos rfl,Sp.cellsD,if_neg (List.length_pos_iff.1 h0)];rfl);have C1:=Qc t wr (by omega);cases hc:Nw.cut t with
    |none=>
     rw[hc] at C1 HT2;unfold Nw.cutV at C1;replace C1:=Qd C1;clear hc HTT;go_upto_region 10 with(go_at_call 42;refine C1.out.mono ?_;rintro e w2 ⟨rfl,hb2⟩)
     have C2:=Qc [] w2 (by decide);rw[Sp.cut_nil] at C2;unfold Nw.cutV at C2;replace C2:=Qd C2;go_upto_region 11 with(go_at_call 42;refine C2.out.mono ?_;rintro e w3 ⟨rfl,hb3⟩)
     obtain⟨k0,k1,HE⟩:=HBAD.out w3 (hb2.trans (hb3.mono hb2.size)) HT2.out;replace k0:=Qd k0;replace k1:=Qd k1;replace HE:=Qd HE;clear hb2 hb3 C1 C2;go_wp2_with (first|(with_reducible refine Dm rfl (.tmp 6) rfl (g+1) rfl k1.out.h3 ?_) |(with_reducible refine Vh rfl (.tmp 4) (.tmp 69) rfl g rfl rfl k0.out.h3 ?_))
     all_goals
      refine Sg (by rfl) (by rfl) (by rfl) rfl k0.out.h3 ?_;exact HE.out
    |some p=>
     have hpl:=Sp.cut_less hc;have hps:=Sp.cut_sum hc;rw[hc] at C1 HT2;unfold Nw.cutV at C1;replace C1:=Qd C1;clear hc HTT;go_upto_region 10 with(go_at_call 42;refine C1.out.mono ?_;rintro e w2 ⟨rfl,hb2⟩)
     have C2:=Qc p.2 w2 (by omega);cases hc2:Nw.cut p.2 with
     |none=>
      have HN:Hid (T=none):=Qd (by rw[HT2.out];(try dsimp only);rw[hc2];rfl);rw[hc2] at C2;unfold Nw.cutV at C2;replace C2:=Qd C2;go_upto_region 11 with(go_at_call 42;refine C2.out.mono ?_;rintro e w3 ⟨rfl,hb3⟩)
      obtain⟨k0,k1,HE⟩:=HBAD.out w3 (hb2.trans (hb3.mono hb2.size)) HN.out;replace k0:=Qd k0;replace k1:=Qd k1;replace HE:=Qd HE;clear hb2 hb3 C1 C2;go_wp2_with (first|(with_reducible refine Dm rfl (.tmp 6) rfl (g+1) rfl k1.out.h3 ?_) |(with_reducible refine Vh rfl (.tmp 4) (.tmp 69) rfl g rfl rfl k0.out.h3 ?_))
      all_goals
       refine Sg (by rfl) (by rfl) (by rfl) rfl k0.out.h3 ?_;exact HE.out
     |some q'=>
      have hql:=Sp.cut_less hc2;have hqs:=Sp.cut_sum hc2;have HT3:Hid (T=(match Sp.pairR Sp.chD (Sp.readD m) p.1 q'.1 with |none=>none |some c=>(Sp.cellsD (Sp.readD m) f' q'.2).map (c:: ·)).map (λr=>Ba.mk x sh (cs++r))):=Qd (by rw[HT2.out];(try dsimp only);rw[hc2]);rw[hc2] at C2;unfold Nw.cutV at C2;replace C2:=Qd C2;clear HBAD HT2 HA;go_upto_region 11 with(go_at_call 42;refine C2.out.mono ?_;rintro e w3 ⟨rfl,hb3⟩)
      have HB3:=Qd (hb2.trans (hb3.mono hb2.size));have hs3:=HB3.out.size;clear hb2 hb3 C1 C2 hc2;go_upto_region 14 with fail
      refine Gc ?_;intro W4 hW4;have k4:Hid (Blk W4 w3.heap.size 85 [.int .u64 0,.int .i64 0,.bool false,.slice none 0 0,.slice none 0 0,.int .i64 0,.slice none 0 0]):=Qd (by rw[hW4];exact Blk.new _ _ _);have HB4:Hid (Below wr.heap.size wr W4):=Qd (by rw[hW4];exact HB3.out.alloc hs3 _);have HS4:Hid (W4.heap.size=w3.heap.size+1):=Qd (by rw[hW4];simp);have hl4:w3.heap.size<W4.heap.size:=by have:=HS4.out;omega
      clear hW4 HB3;go_upto_region 15 with(first
       |(go_at_call 100;refine(RC.out p.1 q'.1 W4 (by omega) (by omega)).mono ?_;rintro e w5 ⟨c,vs,rfl,hc5,hce5,hb5⟩;obtain⟨L,kd,neg,A1,n1,c1,A2,n2,c2,ch,A3,n3,c3,rfl,hL⟩:=hc5.form;have k5:=Qd ((hb5.block w3.heap.size hl4).trans k4.out);replace hc5:=Qd hc5;replace hce5:=Qd hce5;replace hb5:=Qd hb5)
       |(with_reducible refine Uh rfl (.tmp 11) (.tmp 76) rfl w3.heap.size rfl rfl k5.out ?_))
      refine Gc ?_;intro W7 hW7;have hs5:=hb5.out.size;have HB7:Hid (Below wr.heap.size wr W7):=Qd (by rw[hW7];exact Tb (HB4.out.trans (hb5.out.mono (by omega))) hs3);have hs7:W4.heap.size<=W7.heap.size:=by rw[hW7,size_setRow];exact hs5
      have kc7:Hid (W7.heap[w3.heap.size]? =some (.cells #[.int .u64 (L:Int),.int .i64 kd,.bool neg,.slice A1 n1 c1,.slice A2 n2 c2,.int .i64 ch,.slice A3 n3 c3] 85 (0,0))):=Qd (by rw[hW7];exact Ma k5.out);have HC7:Hid (IsCelP W7 (PR W4.heap.size W7) c [.int .u64 (L:Int),.int .i64 kd,.bool neg,.slice A1 n1 c1,.slice A2 n2 c2,.int .i64 ch,.slice A3 n3 c3]):=Qd (by rw[hW7];exact On hc5.out hl4 (Y3 k5.out));have HO7:Hid (W7.ownsQ Ic W6.heap.size 85 7 (.slice A' cs.length c') cs.length xs):=Qd (HO.out.kept (Xw HB7.out) (by cases (Value.slice A' cs.length c').ownBlock<;>simp));have HX7:=Qd (Ci HB7.out HX.out);have K7:Hid (Blk W7 (g+1) 43 [.int .u64 (x:Int),.slice Ash sh.length Csh,.slice A' cs.length c']):=Qd ((HB7.out.block (g+1) (by omega)).trans K6.out);have HV:Hid (∀y,(Value.slice A' cs.length c').ownBlock=some y->W6.heap.size<=y/\y<wr.heap.size):=Qd (λy e=>HO.out.own.lt y e);have s2:W7.cell? ⟨g+1,2,none⟩=some (.slice A' cs.length c'):=K7.out.cell rfl;have hs8:g+1<W7.heap.size:=by omega
      have HO8:Hid ((W7.alloc (.cells #[.int .u64 (L:Int),.int .i64 kd,.bool neg,.slice A1 n1 c1,.slice A2 n2 c2,.int .i64 ch,.slice A3 n3 c3] 85)).ownsQ Ic W6.heap.size 85 7 (.slice A' cs.length c') cs.length xs):=Qd (HO7.out.kept (World.grownBy_alloc _ _ none) (by cases (Value.slice A' cs.length c').ownBlock<;>simp));clear hW7 k5 hc5 hb5;go_wp2_with (first
       |(with_reducible refine Vw rfl (.tmp 11) rfl w3.heap.size rfl kc7.out ?_)
       |(at_builtin;refine Qe _ rfl _ _ 41 rfl Ic W6.heap.size 85 iC (.agg #[.int .u64 0,.int .i64 0,.bool false,.slice none 0 0,.slice none 0 0,.int .i64 0,.slice none 0 0]) 7 104 Tryz.underlying41 hiC hz0 hz1 hz2 rfl (by decide) Ww (.slice A' cs.length c') cs.length xs rfl HO8.out ⟨_,0,none⟩ 1 1 [.int .u64 (L:Int),.int .i64 kd,.bool neg,.slice A1 n1 c1,.slice A2 n2 c2,.int .i64 ch,.slice A3 n3 c3] rfl rfl (El W7 _ _) (by simp[Value.oneCell']) Q3 (by unfold maxLen;omega) (by omega) (by simp;omega) ?_;intro v9 w9 hown9 hgrow9 hnn9 hat9;obtain⟨A9,c9,rfl,-⟩:=Na hown9.own;have k9:=(hgrow9.block (g+1) (by simp;omega) (λe=>by have:=(HV.out _ e.symm).1;omega)).trans ((K7.out.alloc _));have s9:w9.cell? ⟨g+1,2,none⟩=some (.slice A' cs.length c'):=Blk.cell k9 rfl;have f9:=Blk.frozen k9 2;replace k9:=Qd k9;replace hown9:=Qd hown9;replace hgrow9:=Qd hgrow9;replace hat9:=Qd hat9;clear hnn9))
      have hs9:=hgrow9.out.size;rw[World.size_alloc] at hs9;have hgb:A9=none\/∃b,A9=some b/\b.block≠g+1:=by
       cases A9 with
       |none=>exact .inl rfl
       |some b=>
        refine .inr ⟨b,rfl,λe=>?_⟩;rcases hat9.out with h |h
        ·have:=(HV.out (g+1) (by rw[<-h];show some b.block=_;rw[e])).1;omega
        rw[World.size_alloc] at h;have h:some b.block=some (W7.heap.size+1):=h;injection h with h;omega
      have hown:(Value.slice A9 (cs.length+1) c9).ownBlock≠some (g+1):=by
       rcases hgb with rfl |⟨b,rfl,h⟩
       ·simp[Value.ownBlock]
       intro e;injection e with e;exact h e
      have HCG:IsCelsP w9 (PL (g+2) w9 (.slice A9 (cs.length+1) c9)) (cs++[c]) (xs++[.int .u64 (L:Int),.int .i64 kd,.bool neg,.slice A1 n1 c1,.slice A2 n2 c2,.int .i64 ch,.slice A3 n3 c3]):=by
       have h8:Below W7.heap.size W7 (W7.alloc (.cells #[.int .u64 (L:Int),.int .i64 kd,.bool neg,.slice A1 n1 c1,.slice A2 n2 c2,.int .i64 ch,.slice A3 n3 c3] 85)):=Br.alloc Lr _;refine Uw (m:=W4.heap.size) (Ci h8 HX7.out) (T8 HC7.out h8) (by omega) HO8.out (λy e=>by have:=(HV.out y e).2;omega) hgrow9.out hat9.out
      have hnu9:¬HasU w9 (g+1):=Pn k9.out;have HX9:Hid (IsCelsP (w9.setCell ⟨g+1,2,none⟩ (.slice A9 (cs.length+1) c9)) (PL (g+2) (w9.setCell ⟨g+1,2,none⟩ (.slice A9 (cs.length+1) c9)) (.slice A9 (cs.length+1) c9)) (cs++[c]) (xs++[.int .u64 (L:Int),.int .i64 kd,.bool neg,.slice A1 n1 c1,.slice A2 n2 c2,.int .i64 ch,.slice A3 n3 c3])):=
       Qd (Nj (by rw[World.size_setCell];exact Lr) (λb hb=>⟨Below.heap_setCell _ _ _ _ (Di (Nat.lt_succ_self _) hnu9 hb.1),hb.2⟩) HCG)
      have HO9:Hid ((w9.setCell ⟨g+1,2,none⟩ (.slice A9 (cs.length+1) c9)).ownsQ Ic W6.heap.size 85 7 (.slice A9 (cs.length+1) c9) (cs++[c]).length (xs++[.int .u64 (L:Int),.int .i64 kd,.bool neg,.slice A1 n1 c1,.slice A2 n2 c2,.int .i64 ch,.slice A3 n3 c3])):=by
       rw[List.length_append];exact Qd (hown9.out.kept (row:=some (g+1)) ⟨rfl,rfl,rfl,by simp,λb _ hb=>Below.heap_setCell _ _ _ _ (λe=>hb (by rw[e]))⟩ (.inr hown))
      have HB9:Hid (Below (g+1) W6 (w9.setCell ⟨g+1,2,none⟩ (.slice A9 (cs.length+1) c9))):=Qd ((((HBR.out.trans (HB7.out.mono (by omega))).alloc (by omega) _).grown hgrow9.out (by simp;omega) (λy e=>by have:=(HV.out y e).1;omega)).setCell (p:=⟨g+1,2,none⟩) Lr _);have HK9:Hid (∀b,g+2<=b->b<W6.heap.size->(w9.setCell ⟨g+1,2,none⟩ (.slice A9 (cs.length+1) c9)).heap[b]? =W6.heap[b]?):=Qd (λb h1 h2=>by
       rw[Below.heap_setCell _ _ _ _ (show b≠g+1 by omega),hgrow9.out.block b (by simp;omega) (λe=>by have:=(HV.out b e.symm).1;omega),Below.heap_alloc _ _ _ (by omega),HB7.out.block b (by omega)];exact HKB.out b h1 h2)
      have HT9:Hid (T=if(Sp.pairR Sp.chD (Sp.readD m) p.1 q'.1).isSome then(Sp.cellsD (Sp.readD m) f' q'.2).map (λr=>Ba.mk x sh ((cs++[c])++r)) else none):=Qd (by
       rw[HT3.out];cases hpr:Sp.pairR Sp.chD (Sp.readD m) p.1 q'.1 with
       |none=>rfl
       |some c0=>
        rw[hce5.out c0 hpr];simp[Option.map_map,Function.comp_def])
      have K9:Hid (Blk (w9.setCell ⟨g+1,2,none⟩ (.slice A9 (cs.length+1) c9)) (g+1) 43 [.int .u64 (x:Int),.slice Ash sh.length Csh,.slice A9 (cs.length+1) c9]):=Qd (Blk.set_ (vs:=[.int .u64 (x:Int),.slice Ash sh.length Csh,.slice A' cs.length c']) k9.out 2 _);go_roundw
      case rel=>exact⟨q'.2,_,f',cs++[c],_,_,rfl,rfl,by omega,by rw[List.length_append];simp;omega,HT9,K9,HO9,HX9,HB9,HK9⟩
      case measure=>show q'.2.toArray.size<t.toArray.size;rw[List.size_toArray,List.size_toArray];omega
   have hokc:ok=false\/(ok=true/\¬(0:Int)<(t.length:Int)):=by
    cases ok
    ·exact .inl rfl
    exact .inr ⟨rfl,λh=>hgo ⟨rfl,by omega⟩⟩
   have HRR:Hid ((if ok then some (Ba.mk x sh cs) else none)=T):=Qd (by
    rw[HTT.out];rcases hokc with rfl |⟨rfl,h0⟩
    ·rfl
    have:t=[]:=List.eq_nil_of_length_eq_zero (by omega);rw[this];cases f with
    |zero=>rw[Sp.cellsD];simp
    |succ f=>rw[Sp.cellsD];simp)
   clear hgo HTT HO HX HBAD;rcases hokc with rfl |⟨rfl,h0⟩
   all_goals
    go_wp2_with (first|(with_reducible refine Dm rfl (.tmp 6) rfl (g+1) rfl K6.out.h3 ?_) |(with_reducible refine Vh rfl (.tmp 4) (.tmp 84) rfl g rfl rfl K0w.out.h3 ?_))
    refine Sg (by rfl) (by rfl) (by rfl) rfl K0w.out.h3 ?_
   ·exact HEND.out wr _ _ none rfl HBW.out HA.out nofun HRR.out
   exact HEND.out wr _ _ (some _) rfl HBW.out HA.out (λ_ e=>(Option.some.inj e).symm) HRR.out
theorem Cq:∀n,n<=100->Wo n
 | 0,h=>Qn h (λm e=>by omega)
 |n+1,h=>Qn h (λm e=>by
  obtain rfl:n=m:=by omega
  exact Cq n (by omega))
end
section
open Go.RowKit Ar
structure RdW (w:World):Prop where
 sp:SpW w
 es:∃ev,w.cell? ⟨3,0,none⟩=some ev/\(ev= .nilIface\/∃te pe,ev= .iface te pe)
 er:∃ev,w.cell? ⟨4,0,none⟩=some ev/\(ev= .nilIface\/∃te pe,ev= .iface te pe)
theorem RdW.below {w w':World}(h:RdW w)(hb:Below w.heap.size w w'):RdW w':=by
 obtain⟨h1,⟨e,h2,h3⟩,⟨e',h4,h5⟩⟩:=h;exact⟨h1.below hb,⟨e,(hb.cell (World.block_lt_of_cell? w _ h2)).trans h2,h3⟩,⟨e',(hb.cell (World.block_lt_of_cell? w _ h4)).trans h4,h5⟩⟩
def Gv (s:List UInt8)(w:World)(e:Ending)(w':World):Prop:=∃(v:Int) (er:Value),e= .returned (.tuple #[.int .i64 v,er])/\ -9223372036854775808<=v/\v<=9223372036854775807/\(match Sp.atoiP s with |some n=>v=n/\er= .nilIface |none=>∃t p,er= .iface t p)/\Below w.heap.size w w'
theorem D4 (s:List UInt8)(w:World)(hs:s.length<=1000000)(hw:RdW w):Calls Tryz.prog 92 #[.string ⟨s.toArray⟩] w (Gv s w):=by
 obtain⟨ev,h1,h2⟩:=hw.es;obtain⟨ev',h3,h4⟩:=hw.er;have hsz:(⟨s.toArray⟩:ByteArray).size=s.length:=rfl;have hd:(⟨s.toArray⟩:ByteArray).data.toList=s:=rfl;unfold Gv Sp.atoiP;cases h:Lib.atoiAll s with
 |ok v=>
  have hb:=Lib.atoiAll_bounds h;refine(Tryz.strconv_Atoi_ok ⟨s.toArray⟩ (by omega) v h w).mono ?_;rintro e w' ⟨rfl,hw'⟩;refine⟨v,.nilIface,rfl,hb.1,hb.2,⟨rfl,rfl⟩,?_⟩;rcases hw' with rfl |⟨t,rfl⟩
  ·exact Br
  exact Lib.bytesWorld_below _ _ _
 |range=>
  have hb:=Lib.atoiSat_bounds s;refine(Tryz.strconv_Atoi_range ⟨s.toArray⟩ (by omega) h ev' w h3 h4).mono ?_;rintro e w' ⟨N,rfl,-,-,hb'⟩;exact⟨_,_,rfl,hb.1,hb.2,⟨_,_,rfl⟩,hb'⟩
 |_=>
  refine(Tryz.strconv_Atoi_syntax ⟨s.toArray⟩ (by omega) h ev w h1 h2).mono ?_;rintro e w' ⟨N,rfl,-,-,hb⟩;exact⟨_,_,rfl,by omega,by omega,⟨_,_,rfl⟩,hb⟩
def Jba (n:Nat):Prop:=∀(t:List UInt8) (w:World),t.length<1000000->RdW w->Calls Tryz.prog 96 #[.string ⟨t.toArray⟩,.int .i64 (n:Int)] w (Qg (Sp.readP (n+1) t) w)
structure Pla (W:World) (g:Nat) (v:Int) (k:Nat) (xs:Nat->Value) (w':World):Prop where
 r:∃w2,Below W.heap.size W w2/\(k<=1->w'=w2)/\(2<=k->w'=w2.setRow g #[.int .u64 0,.int .i64 1,.bool false,.slice none 0 0,.slice none 0 0,.int .i64 v,.slice none 0 0])
theorem F4 {n:Nat}(hn:n<=100)(ih:∀m,n=m+1->Jba m)(t:List UInt8)(w:World)(ht:t.length<1000000)(hw:RdW w):
 Calls Tryz.prog 128 #[.string ⟨t.toArray⟩,.int .i64 (n:Int)] w (Ln (Sp.cellR Sp.atoiP (Sp.readP n) 0 t) w):=by
 obtain⟨W,hW⟩:∃W,W=w.alloc (.cells #[.int .u64 0,.int .i64 0,.bool false,.slice none 0 0,.slice none 0 0,.int .i64 0,.slice none 0 0] 85):=⟨_,rfl⟩;have hWb:Below w.heap.size w W:=by rw[hW];exact Br.alloc Lr _
 have HS:Hid (W.heap.size=w.heap.size+1):=Qd (by rw[hW];simp);have hb0:Blk W w.heap.size 85 [.int .u64 0,.int .i64 0,.bool false,.slice none 0 0,.slice none 0 0,.int .i64 0,.slice none 0 0]:=by rw[hW];exact Blk.new w _ _
 have HW:=Qd hW;have HF:=Qd (hw.below hWb);clear hW hw;obtain⟨g,hg⟩:∃g,g=w.heap.size:=⟨_,rfl⟩;rw[<-hg] at HS hWb hb0;have HG:=Qd hg;have HB:=Qd hWb;have hgW:g<W.heap.size:=hb0.lt;have HK:Hid (∀wx,Below W.heap.size W wx->wx.heap[g]? =some (.cells #[.int .u64 0,.int .i64 0,.bool false,.slice none 0 0,.slice none 0 0,.int .i64 0,.slice none 0 0] 85 (0,0))):=Qd (λwx hb=>(hb.block g hgW).trans hb0);obtain⟨R,hR⟩:∃R,R=Sp.cellR Sp.atoiP (Sp.readP n) 0 t:=⟨_,rfl⟩;rw[<-hR];have HEND:Hid (∀(wx:World) (c:Ha) (vs:List Value) (r:Option Ha),vs.length=7->Below W.heap.size W wx->IsCelP wx (PR (g+1) wx) c vs->(∀x,r=some x->x=c)->r=R->Ln R w (.returned (.tuple #[.agg vs.toArray,.bool r.isSome])) (wx.setRow g vs.toArray)):=Qd (λwx c vs r hv hb hc hr he=>by
  rw[<-he];refine⟨c,vs,rfl,?_,hr,?_⟩
  ·rw[<-HG.out];exact Mt (On hc (Nat.lt_succ_self _) (Y3 (HK.out wx hb))) (Nat.le_succ _)
  rw[<-HG.out];exact Tb (HB.out.trans (hb.mono (by omega))) Lr)
 have HNO:Hid (∀wx,Below W.heap.size W wx->none=R->Ln R w (.returned (.tuple #[.agg #[.int .u64 0,.int .i64 0,.bool false,.slice none 0 0,.slice none 0 0,.int .i64 0,.slice none 0 0],.bool false])) (wx.setRow g #[.int .u64 0,.int .i64 0,.bool false,.slice none 0 0,.slice none 0 0,.int .i64 0,.slice none 0 0])):=Qd (λwx hb h=>HEND.out wx _ _ none rfl hb (Yi (L:=0) (k:=0) (c:=0) (by omega) (by omega) (by omega)) nofun h);clear hg hWb hb0;go_enter Tryz.func128,Tryz.ntmps128
 go_upto_region 1 with fail
 rw[<-HW.out,<-HG.out];have K0:=Qd (HK.out W Br);by_cases h0:t=[]
 ·have HN:=Qd (HNO.out W Br (by rw[hR,h0];rfl))
  subst h0;clear hR;go_wp2_with (with_reducible refine Uh rfl (.tmp 4) (.tmp 14) rfl g rfl rfl K0.out ?_)
  refine Rg (by rfl) (by rfl) (by rfl) rfl K0.out ?_;exact HN.out
 have ht0:0<t.length:=List.length_pos_iff.2 h0;have hte:(t==[])=false:=beq_eq_false_iff_ne.2 h0;obtain⟨y,hy⟩:∃y,y=t[0].toNat:=⟨_,rfl⟩;rw[Z3 ht0 hy] at hR;have hgy:((⟨t.toArray⟩:ByteArray)[0]'(show 0<(⟨t.toArray⟩:ByteArray).size from ht0)).toNat=y:=hy.symm;have hsz:(⟨t.toArray⟩:ByteArray).size=t.length:=rfl;have E1:=Qd (Lg t 1);have ht1:(1:Int)<=(t.length:Int):=by omega
 have hp0:(0:Int)<(t.length:Int):=by omega
 have hdl:(t.drop 1).length<1000000:=by rw[List.length_drop];omega
 clear hy;obtain⟨u,hu⟩:∃u,u=t.drop 1:=⟨_,rfl⟩;rw[<-hu] at hR E1 hdl;clear hu;have HR:=Qd hR;clear hR;by_cases h1:y=110
 ·rw[if_pos h1] at HR
  subst h1;clear ih;go_wp2_with fail
  rw[E1.out];refine(G3 u W (Nat.le_of_lt hdl)).mono ?_;rintro e w2 ⟨v1,v2,rfl,hr1,hr2,hb2⟩;have hPO:=Qd (J3 u);obtain⟨A1,C1,rfl,-⟩:=id hr1;obtain⟨A2,C2,rfl,-⟩:=id hr2;generalize Dg.parse u=pu at*;obtain⟨⟨neg,top,bot⟩,er⟩:=pu;dsimp only at hr1 hr2 hPO HR⊢;have h3:Below w2.heap.size w2 (w2.alloc (.cells #[.bool neg,.slice A1 top.length C1,.slice A2 bot.length C2] 83)):=Br.alloc Lr _;have NM:=Qd (Vja neg top bot _ _ _ (hr1.below h3) (hr2.below h3) (by have:=hPO.out.1;omega) (by have:=hPO.out.1;omega));have HB3:=Qd (hb2.trans (h3.mono hb2.size));have HB2:=Qd hb2;clear hr1 hr2 h3 hb2;go_wp2_with fail
  refine NM.out.mono ?_;rintro e w4 ⟨v3,v4,rfl,hr3,hr4,hb4⟩;have HB4:Hid (Below W.heap.size W w4):=Qd (HB3.out.trans (hb4.mono HB3.out.size));have K:=Qd (HK.out w4 HB4.out);have HC:=Qd (M3 (n:=g+1) (neg:=neg) (L:=0) (by omega) hr3 hr4 hPO.out);obtain⟨A3,C3,rfl,-⟩:=hr3;obtain⟨A4,C4,rfl,-⟩:=hr4;clear hb4;by_cases he:er=0
  ·rw[if_pos he] at HR
   subst he;go_wp2_with (with_reducible refine Uh rfl (.tmp 4) (.tmp 26) rfl g rfl rfl K.out ?_)
   refine Rg (by rfl) (by rfl) (by rfl) rfl K.out ?_;exact HEND.out w4 _ _ (some _) rfl HB4.out HC.out (λ_ e=>(Option.some.inj e).symm) HR.out.symm
  rw[if_neg he] at HR;have ze:(er==0)=false:=beq_eq_false_iff_ne.2 he;go_wp2_with (with_reducible refine Uh rfl (.tmp 4) (.tmp 26) rfl g rfl rfl K.out ?_)
  refine Rg (by rfl) (by rfl) (by rfl) rfl K.out ?_;exact HEND.out w4 _ _ none rfl HB4.out HC.out nofun HR.out.symm
 rw[if_neg h1] at HR;have z1:((y:Int)==110)=false:=beq_eq_false_iff_ne.2 (by omega);by_cases h2:y=99
 ·rw[if_pos h2] at HR
  subst h2;clear ih;go_wp2_with fail
  rw[E1.out];refine(D4 u W (Nat.le_of_lt hdl) HF.out).mono ?_;rintro e w2 ⟨v,er,rfl,hv1,hv2,hm,hb2⟩;have HM:=Qd hm;have HB2:=Qd hb2;clear hm hb2;go_upto_region 9 with fail
  have HB2r:Hid (Below W.heap.size W w2.drew):=Qd ⟨HB2.out.os,HB2.out.tape,HB2.out.output,HB2.out.size,HB2.out.block⟩;refine Hj [1,4] (λxs=>{tmps:= #[_,_,_,_,_,xs 5,_,_,_,_,_,_,_,_,_,_,_,_,_,_,_,_,_,_,_,_,_,_,_,_,_,_,_,_,_,_,_,xs 0,xs 1,xs 2,xs 3,_,_,_,_,_,_,_,_,_,_,_,_,_,_,_,_,_,_],defers:=[]})
   (λi x=>match i with
    | 0=>x= .int .i64 v
    | 1=>x= .agg #[.int .u64 0,.int .i64 1,.bool false,.slice none 0 0,.slice none 0 0,.int .i64 v,.slice none 0 0]
    | 2=>x=er
    | 3 | 5=>x= .bool (Sp.atoiP u).isSome
    |_=>True) (Pla W g v) (by kernel_rfl) (by kernel_rfl) (by kernel_rfl) (by kernel_rfl) (by kernel_rfl) (λi=>match i with | 5=> .bool false |_=>undef) rfl ?_ ?_ ?_ ?_
  ·exact⟨w2.drew,HB2r.out,λ_=>rfl,λh=>absurd h (by decide)⟩
  ·intro i xs w' k hi hne hS hdep hno
   have hi6:i<6:=hi;have hXS:∀x,Pla W g v k (Ta xs i x) w':=λx=>⟨hS.r⟩;clear hi hno;rcases(show i=0\/i=2\/i=3\/i=5 by simp at hne;omega) with rfl |rfl |rfl |rfl
   ·refine Da rfl rfl ?_
    unfold Oper.wp;go_simp
    exact⟨_,by simp only[Ta];simp,rfl,hXS _⟩
   ·refine Da rfl rfl ?_
    unfold Oper.wp;go_simp
    exact⟨_,by simp only[Ta];simp,rfl,hXS _⟩
   ·have h2:xs 2=er:=hdep 2 (by kernel_rfl)
    have hm:=HM.out;cases hat:Sp.atoiP u with
    |none=>
     rw[hat] at hm;obtain⟨ty,p,rfl⟩:=hm;refine Da rfl rfl ?_;unfold Oper.wp;simp only[h2];go_simp
     exact⟨.bool false,by simp only[Ta];simp[h2],by simp[hat],hXS _⟩
    |some x=>
     rw[hat] at hm;obtain⟨-,rfl⟩:=hm;refine Da rfl rfl ?_;unfold Oper.wp;simp only[h2];go_simp
     exact⟨.bool true,by simp only[Ta];simp[h2],by simp[hat],hXS _⟩
   have h3:xs 3= .bool (Sp.atoiP u).isSome:=hdep 3 (by kernel_rfl);refine Da rfl rfl ?_;unfold Oper.wp;simp only[h3];go_simp
   exact⟨_,by simp only[Ta];simp[h3],rfl,hXS _⟩
  ·intro m i xs w' hm hS hdep
   obtain⟨w3,hb3,r1,r2⟩:=hS.r
   match m,hm,r1,r2 with
   | 0,hm,r1,r2=>
    obtain rfl:1=i:=Option.some.inj hm;obtain rfl:w'=w3:=r1 (by decide);have h0:xs 0= .int .i64 v:=hdep 0 (by kernel_rfl);refine Da rfl rfl ?_;unfold Oper.wp;simp only[h0];go_simp
    refine(Wja v w').mono ?_;rintro e w4 ⟨rfl,hb4⟩;exact⟨_,by simp only[Ta];simp[h0],rfl,⟨w4,hb3.trans (hb4.mono hb3.size),λ_=>rfl,λh=>absurd h (by decide)⟩⟩
   | 1,hm,r1,r2=>
    obtain rfl:4=i:=Option.some.inj hm;obtain rfl:w'=w3:=r1 (by decide);have h1:xs 1= .agg #[.int .u64 0,.int .i64 1,.bool false,.slice none 0 0,.slice none 0 0,.int .i64 v,.slice none 0 0]:=hdep 1 (by kernel_rfl);refine Da rfl rfl ?_;refine wp_store_row 85 (.tmp 4) (.tmp 38) rfl g #[.int .u64 0,.int .i64 1,.bool false,.slice none 0 0,.slice none 0 0,.int .i64 v,.slice none 0 0] rfl h1 85 #[.int .u64 0,.int .i64 0,.bool false,.slice none 0 0,.slice none 0 0,.int .i64 0,.slice none 0 0] (HK.out w' hb3) Ag rfl (by simp[Value.oneCell']) ?_;exact⟨undef,by simp only[Ta];simp[Act.put],trivial,⟨w',hb3,λh=>absurd h (by decide),λ_=>rfl⟩⟩
   |m+2,hm,_,_=>simp at hm
  intro xs w' hS hR;obtain⟨w3,hb3,-,r2⟩:=hS.r;obtain rfl:=r2 (by decide);have h5:xs 5= .bool (Sp.atoiP u).isSome:=hR 5 (by decide);have K:=Qd (HK.out w3 hb3);have hfin:=HEND.out w3 _ _ ((Sp.atoiP u).map λn=>Ha.mk 0 1 false [] [] n []) rfl hb3 (Yi (L:=0) (k:=1) (c:=v) (by omega) (by omega) ⟨hv1,hv2⟩) (λy e=>by
   obtain⟨a',h1,rfl⟩:=Option.map_eq_some_iff.1 e;have hm:=HM.out;rw[h1] at hm;rw[hm.1]) HR.out.symm
  rw[Option.isSome_map] at hfin;simp only[h5];go_wp2_with fail
  refine Rg (by rfl) (by rfl) (by rfl) rfl K.out ?_;exact hfin
 rw[if_neg h2] at HR;have z2:((y:Int)==99)=false:=beq_eq_false_iff_ne.2 (by omega);by_cases h3:y=98
 ·rw[if_pos h3] at HR
  subst h3;cases n with
  |zero=>
   have HN:=Qd (HNO.out W Br (by rw[HR.out];rfl));go_wp2_with (with_reducible refine Uh rfl (.tmp 4) (.tmp 45) rfl g rfl rfl K0.out ?_)
   refine Rg (by rfl) (by rfl) (by rfl) rfl K0.out ?_;exact HN.out
  |succ m=>
   have RD:=Qd (ih m rfl u W hdl HF.out);have hm0:(((m+1:Nat):Int)==0)=false:=beq_eq_false_iff_ne.2 (by omega);have m1:IntKind.i64.wrap (((m+1:Nat):Int)-1)=(m:Int):=by rw[show((m+1:Nat):Int)-1=(m:Int) by omega];exact IntWalk.i64_in _ (by omega)
   obtain⟨d,hd⟩:∃d:Int,d=((m+1:Nat):Int):=⟨_,rfl⟩;rw[<-hd] at hm0 m1⊢;clear hd ih;go_wp2_with fail
   rw[E1.out];refine RD.out.mono ?_;rintro e w2 ⟨a,vs,rfl,ha,hre,hb2⟩;obtain⟨S,A,n1,c1,A',n2,c2,rfl⟩:=ha.form;have HA:=Qd ha;have HRE:=Qd hre;have HB2:=Qd hb2;clear ha hre hb2;go_upto_region 14 with fail
   refine Gc ?_;intro W3 hW3;have HB3:Hid (Below w2.heap.size w2 W3):=Qd (by rw[hW3];exact Br.alloc Lr _);have k3:Hid (W3.heap[w2.heap.size]? =some (.cells #[.int .u64 (S:Int),.slice A n1 c1,.slice A' n2 c2] 43 (0,0))):=Qd (by rw[hW3];exact heap_alloc_new _ _);have hs3:w2.heap.size<W3.heap.size:=by rw[hW3];simp
   have HB13:Hid (Below W.heap.size W W3):=Qd (HB2.out.trans (HB3.out.mono HB2.out.size));obtain⟨W4,hW4⟩:∃W4,W4=W3.alloc (.cells #[.int .u64 (S:Int),.slice A n1 c1,.slice A' n2 c2] 43):=⟨_,rfl⟩;have HB14:Hid (Below W.heap.size W W4):=Qd (by rw[hW4];exact HB13.out.alloc HB13.out.size _);have K:=Qd (HK.out W4 HB14.out);have K3:=Qd (HK.out W3 HB13.out);clear hW3;go_wp2_with (first|(with_reducible refine Dm rfl (.tmp 10) rfl w2.heap.size rfl k3.out ?_) |(rw[<-hW4];with_reducible refine Uh rfl (.tmp 4) (.tmp 56) rfl g rfl rfl K.out ?_))
   rw[<-hW4];have hb34:Below W3.heap.size W3 W4:=by rw[hW4];exact Br.alloc Lr _
   have ha4:IsArrP W4 (PR (g+1) W4) a [.int .u64 (S:Int),.slice A n1 c1,.slice A' n2 c2]:=Bg (Sc (Sc HA.out HB3.out) hb34) (by omega);have hk4:W4.heap[W3.heap.size]? =some (.cells #[.int .u64 (S:Int),.slice A n1 c1,.slice A' n2 c2] 43 (0,0)):=by rw[hW4];exact heap_alloc_new _ _
   have hg3:g+1<=W3.heap.size:=by have:=HB13.out.size;omega
   have hfin:=HEND.out W4 _ _ ((Sp.readP (m+1) u).map λa=>Ha.mk 0 2 false [] [] 0 [a]) rfl HB14.out (O3 (L:=0) (by omega) ha4 Br hk4 hg3) (λy e=>by obtain⟨a',h1,rfl⟩:=Option.map_eq_some_iff.1 e;rw[HRE.out a' h1]) HR.out.symm;rw[Option.isSome_map] at hfin;refine Rg (by rfl) (by rfl) (by rfl) rfl K.out ?_;exact hfin
 rw[if_neg h3] at HR;have z3:((y:Int)==98)=false:=beq_eq_false_iff_ne.2 (by omega);have HN:=Qd (HNO.out W Br HR.out.symm);go_wp2_with (with_reducible refine Uh rfl (.tmp 4) (.tmp 58) rfl g rfl rfl K0.out ?_)
 refine Rg (by rfl) (by rfl) (by rfl) rfl K0.out ?_;exact HN.out
end
def IsReader (w:World)(r:Nat)(s:List UInt8):Prop:=w.heap[r]? =some (.cells #[.string ⟨s.toArray⟩] 149 (0,0))
theorem IsReader.lt {w:World}{r:Nat}{s:List UInt8}(h:IsReader w r s):r<w.heap.size:=(Array.getElem?_eq_some_iff.1 h).1
theorem IsReader.below {w w':World}{r:Nat}{s:List UInt8}(h:IsReader w r s)(hb:Below w.heap.size w w'):IsReader w' r s:=(hb.block r h.lt).trans h
theorem IsReader.cell {w:World}{r:Nat}{s:List UInt8}(h:IsReader w r s):w.cell? ⟨r,0,none⟩=some (.string ⟨s.toArray⟩):=by unfold IsReader at h;simp[World.cell?,h]
theorem IsReader.frozen {w:World}{r:Nat}{s:List UInt8}(h:IsReader w r s):w.frozen? ⟨r,0,none⟩=false:=by unfold IsReader at h;simp[World.frozen?,h]
theorem IsReader.set {w:World}{r:Nat}{s:List UInt8}(h:IsReader w r s)(t:List UInt8):IsReader (w.setCell ⟨r,0,none⟩ (.string ⟨t.toArray⟩)) r t:=by
 unfold IsReader at*;show(w.heap.modify r _)[r]? =_;rw[Array.getElem?_modify,if_pos rfl,h];rfl
theorem G4 (s:List UInt8)(r:Nat)(w:World)(hs:s.length<=1000000)(h:IsReader w r s)(hc:Nw.cut s=none):
 Calls Tryz.prog 125 #[.pointer (some ⟨r,0,none⟩)] w λe w'=>e= .returned (.tuple #[.string ⟨#[]⟩,.bool false])/\Below w.heap.size w w':=by
 have hr:=h.cell;have C:=En s w (by omega);rw[hc] at C;replace C:=Qd C;clear hc h;go_enter Tryz.func125,Tryz.ntmps125
 go_wp2_with fail
 refine C.out.mono ?_;rintro e W1 ⟨rfl,hb1⟩;unfold Nw.cutV;go_wp2_with fail
 go_ret2
 exact⟨rfl,hb1⟩
theorem I4 (s a b:List UInt8)(r:Nat)(w:World)(hs:s.length<=1000000)(h:IsReader w r s)(hc:Nw.cut s=some (a,b)):
 Calls Tryz.prog 125 #[.pointer (some ⟨r,0,none⟩)] w λe w'=>e= .returned (.tuple #[.string ⟨a.toArray⟩,.bool true])/\∃w1,Below w.heap.size w w1/\w'=w1.setCell ⟨r,0,none⟩ (.string ⟨b.toArray⟩):=by
 have hr:=h.cell;have C:=En s w (by omega);rw[hc] at C;replace C:=Qd C;clear hc;have HR:=Qd h;clear h;go_enter Tryz.func125,Tryz.ntmps125
 go_wp2_with fail
 refine C.out.mono ?_;rintro e W1 ⟨rfl,hb1⟩;unfold Nw.cutV;have hr1:=(HR.out.below hb1).cell;have hf1:=(HR.out.below hb1).frozen;have HB1:=Qd hb1;clear hb1;go_wp2_with fail
 go_ret2
 exact⟨rfl,_,HB1.out,rfl⟩
end Go.Proofs.YtmiccalfamepdaaGreatDoor
