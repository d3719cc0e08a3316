/- Texts of this proof, joined. -/
import Derived.Test.YtceplkpjnebnfaaGreatDoorM11
import Derived.Deep.CutBlock
import Derived.Deep.RegionHeld3
import Derived.Laws.Cover4
import Derived.Scope
import Derived.WalkMore
set_option linter.all false
set_option maxHeartbeats 8000000
set_option maxRecDepth 100000
namespace Go.Proofs.YtceplkpjnebnfaaGreatDoor
open Go.RowKit
theorem Qp {d:Int}(h1:0<=d)(h2:d<=122):Utf8.encode d=⟨#[UInt8.ofNat d.toNat]⟩:=by
 have hv:Utf8.valid d=true:=by unfold Utf8.valid;simp;omega
 unfold Utf8.encode;simp only[hv,if_true];rw[if_pos (by omega)]
theorem Dx {d e:Int}(h1:0<=d)(h2:d<=122)(h3:0<=e)(h4:e<=122):runesBytes [d,e]=⟨#[UInt8.ofNat d.toNat,UInt8.ofNat e.toNat]⟩:=by
 unfold runesBytes;simp only[List.foldl_cons,List.foldl_nil];rw[Qp h1 h2,Qp h3 h4];rfl
theorem F4 {d e:Int}{a b:Nat}(h1:0<=d)(h2:d<=122)(h3:0<=e)(h4:e<=122)(ha:a<=122)(hb:b<=122):runesBytes [d,e]=⟨#[UInt8.ofNat a,UInt8.ofNat b]⟩↔d=(a:Int)/\e=(b:Int):=by
 rw[Dx h1 h2 h3 h4]
 constructor
 ·intro h
  injection h with h
  have h5:UInt8.ofNat d.toNat=UInt8.ofNat a:=Option.some.inj (congrArg (λx:Array UInt8=>x[0]?) h);have h6:UInt8.ofNat e.toNat=UInt8.ofNat b:=Option.some.inj (congrArg (λx:Array UInt8=>x[1]?) h);have h5:=congrArg UInt8.toNat h5;have h6:=congrArg UInt8.toNat h6;simp only[UInt8.toNat_ofNat'] at h5 h6;omega
 rintro⟨rfl,rfl⟩;rfl
theorem Nu (x y:UInt8):ByteArray.toList ⟨#[x,y]⟩=[x,y]:=by
 have h2:(ByteArray.mk #[x,y]).size=2:=rfl;unfold ByteArray.toList;rw[ByteArray.toList.loop.eq_1];rw[if_pos (by rw[h2];omega)];rw[ByteArray.toList.loop.eq_1];rw[if_pos (by rw[h2];omega)];rw[ByteArray.toList.loop.eq_1];rw[if_neg (by rw[h2];omega)];rfl
theorem I4 {S:ByteArray}{x y:UInt8}(h:S=⟨#[x,y]⟩):(S.toList==[x,y])=true:=by
 rw[h,Nu];simp
theorem J4 {S:ByteArray}{x y u v:UInt8}(hS:S=⟨#[u,v]⟩)(h:¬S=⟨#[x,y]⟩):(S.toList==[x,y])=false:=by
 rw[hS,Nu];refine beq_eq_false_iff_ne.2 (λe=>h ?_);injection e with e1 e
 injection e with e2 _
 rw[hS,e1,e2]
structure Rp (l:List Int) (i:Nat) (W wx:World) (k cc:Int) (en:Nat):Prop where
 lo:i+2<=en
 hi:en<=i+3
 blk:wx.heap[W.heap.size]? =some (.cells #[.int .i64 k,.bool false,.slice none 0 0,.slice none 0 0,.slice none 0 0,.string ⟨#[]⟩,.int .i64 cc,.int .i64 0] 54 (0,0))
 below:Below W.heap.size W wx
 more:W.heap.size+1<=wx.heap.size
 told:Tk.read l i=if Tk.word (l.getD en (-1))=true then(Tk.none_,0,1) else(⟨k,Rt.none_,[],[],cc,i⟩,en-i,0)
theorem Jja (A:Option Addr)(c:Nat)(l:List Int)(i:Nat)(w:World)(hl:Lies w w.heap.size A (Sa l))(hn:l.length<=25000)(hcap:l.length<=c)(hi:i<l.length)(hc:l.getD i (-1)=9109\/l.getD i (-1)=9054):
 Calls Tryz.prog 84 #[.slice A l.length c,.int .i64 (i:Int)] w (Vc w l i):=by
 have HR:Hid (∀e w',Og w (Tk.read l i).1 (if(Tk.read l i).2.2=0 then i+(Tk.read l i).2.1 else 0) (Tk.read l i).2.2 e w'->Vc w l i e w'):=Qd (λe w' h=>h);obtain⟨W,hW⟩:∃W,W=w.alloc (.cells #[.int .i64 0,.bool false,.slice none 0 0,.slice none 0 0,.slice none 0 0,.string ⟨#[]⟩,.int .i64 0,.int .i64 0] 54):=⟨_,rfl⟩;have hb0:Below w.heap.size w W:=by rw[hW];exact Br.alloc Lr _
 have HGA:Hid (W.heap[w.heap.size]? =some (.cells #[.int .i64 0,.bool false,.slice none 0 0,.slice none 0 0,.slice none 0 0,.string ⟨#[]⟩,.int .i64 0,.int .i64 0] 54 (0,0))):=Qd (by rw[hW];exact heap_alloc_new w _);have HWS:Hid (W.heap.size=w.heap.size+1):=Qd (by rw[hW];simp);have hlW:Lies W W.heap.size A (Sa l):=(hl.below hb0).more hb0.size;obtain⟨W2,hW2⟩:∃W2,W2=W.alloc (.cells #[.int .i64 0,.bool false,.slice none 0 0,.slice none 0 0,.slice none 0 0,.string ⟨#[]⟩,.int .i64 0,.int .i64 0] 54):=⟨_,rfl⟩;have hb2:Below W.heap.size W W2:=by rw[hW2];exact Br.alloc Lr _
 have HB2:=Qd hb2;have HG2:Hid (W2.heap[W.heap.size]? =some (.cells #[.int .i64 0,.bool false,.slice none 0 0,.slice none 0 0,.slice none 0 0,.string ⟨#[]⟩,.int .i64 0,.int .i64 0] 54 (0,0))):=Qd (by rw[hW2];exact heap_alloc_new W _);have HS2:Hid (W2.heap.size=W.heap.size+1):=Qd (by rw[hW2];simp);have HL:=Qd hlW;have LT:=Qd (λ(wx:World) (h:Below W.heap.size W wx) (m:Nat) (hm:m<=1000000)=>Tm A c l m wx ((hlW.below h).more h.size) (by omega) hm);have DG:=Qd (λ(wx:World) (h:Below W.heap.size W wx) (m:Nat) (hm:m<=1000000)=>Qo A c l m wx ((hlW.below h).more h.size) (by omega) hm);have HC:=Qd hc;have HW:Hid (W=w.alloc (.cells #[.int .i64 0,.bool false,.slice none 0 0,.slice none 0 0,.slice none 0 0,.string ⟨#[]⟩,.int .i64 0,.int .i64 0] 54)):=Qd hW;have HW2:Hid (W2=W.alloc (.cells #[.int .i64 0,.bool false,.slice none 0 0,.slice none 0 0,.slice none 0 0,.string ⟨#[]⟩,.int .i64 0,.int .i64 0] 54)):=Qd hW2;obtain⟨q,hq⟩:∃q,q=l.getD i (-1):=⟨_,rfl⟩;obtain⟨d,hd⟩:∃d,d=l.getD (i+1) (-1):=⟨_,rfl⟩;obtain⟨d2,hd2⟩:∃d2,d2=l.getD (i+2) (-1):=⟨_,rfl⟩;obtain⟨b,off,rfl,hb,g0⟩:=Hb hlW hi;have hb':b<W.heap.size:=hb;rw[<-Tk.getD_in hi,<-hq] at g0;have HQ:=Qd hq;have HD:=Qd hd;have HD2:=Qd hd2;have hq2:q=9109\/q=9054:=by rw[hq];exact hc
 have G0:Hid (∀wx,Below W.heap.size W wx->wx.cell? ⟨b,off+i,none⟩=some (.int .i64 q)):=Qd (λwx h=>(h.cell hb').trans g0);have G1:Hid (i+1<l.length->∀wx,Below W.heap.size W wx->wx.cell? ⟨b,off+(i+1),none⟩=some (.int .i64 d)):=Qd (by
  intro h1 wx h;obtain⟨b1,off1,e1,_,g1⟩:=Hb hlW h1;injection e1 with e1
  injection e1 with e1 e2
  subst e1 e2;rw[h.cell hb',g1,hd,Tk.getD_in h1])
 have G2:Hid (i+2<l.length->∀wx,Below W.heap.size W wx->wx.cell? ⟨b,off+(i+2),none⟩=some (.int .i64 d2)):=Qd (by
  intro h1 wx h;obtain⟨b1,off1,e1,_,g1⟩:=Hb hlW h1;injection e1 with e1
  injection e1 with e1 e2
  subst e1 e2;rw[h.cell hb',g1,hd2,Tk.getD_in h1])
 clear hl hlW hc hW hW2 g0 hq hd hd2 hb2;go_enter Tryz.func84,Tryz.ntmps84
 go_upto_region 1 with fail
 rw[<-HW.out];go_upto_region 2 with fail
 rw[<-HW2.out];go_upto_block 0 with fail
 go_cut [8] from 9 (λx8 wx=>∃(k cc:Int) (en:Nat),x8= .int .i64 (en:Int)/\Hid (Rp l i W wx k cc en))
 case first=>
  go_upto_region 4 with fail
  obtain⟨B4,hB4⟩:∃B4,B4=(Tk.digit d&&decide (d<=55)):=⟨_,rfl⟩;go_cut [12] from 13 (λx12 wx=>wx=W2/\x12= .bool B4)
  case first=>
   have h:=DG.out W2 HB2.out (i+1) (by omega);rw[<-HD.out] at h;have h:=Qd h;by_cases h1:Tk.digit d=true
   ·have hlt:i+1<l.length:=by
     rcases Nat.lt_or_ge (i+1) l.length with h |h
     ·exact h
     rw[HD.out,Tk.getD_out h] at h1;cases h1
    have g1:=G1.out hlt W2 HB2.out;rw[h1] at hB4 h;rw[Bool.true_and] at hB4;go_wp2_with fail
    refine h.out.mono ?_;rintro e w' ⟨rfl,rfl⟩;go_wp2_with fail
    go_meet
    exact⟨rfl,by rw[hB4]⟩
   have h1:Tk.digit d=false:=by simpa using h1
   rw[h1] at hB4 h;rw[Bool.false_and] at hB4;go_wp2_with fail
   refine h.out.mono ?_;rintro e w' ⟨rfl,rfl⟩;go_wp2_with fail
   go_meet
   exact⟨rfl,by rw[hB4]⟩
  case rest=>
   obtain⟨hwx,rfl⟩:=hcut;rw[hwx];clear hwx;have HGR2:Hid (W2.heap[w.heap.size]? =some (.cells #[.int .i64 0,.bool false,.slice none 0 0,.slice none 0 0,.slice none 0 0,.string ⟨#[]⟩,.int .i64 0,.int .i64 0] 54 (0,0))):=Qd ((HB2.out.block w.heap.size (by rw[HWS.out];omega)).trans HGA.out);cases B4
   ·have HP1:Hid (¬(Tk.digit d=true/\d<=55)):=Qd (by
     rintro⟨p1,p2⟩;rw[p1,decide_eq_true p2] at hB4;cases hB4)
    clear hB4;go_upto_region 8 with fail
    obtain⟨B8,hB8⟩:∃B8,B8=(decide (q=9109)&&(Tk.cls d==2)&&(Tk.cls d2==2)):=⟨_,rfl⟩;have g0:=G0.out W2 HB2.out;go_cut [38] from 39 (λx38 wx=>wx=W2/\x38= .bool B8)
    case first=>
     have h:=LT.out W2 HB2.out (i+1) (by omega);rw[<-HD.out] at h;have h:=Qd h;have h2:=LT.out W2 HB2.out (i+2) (by omega);rw[<-HD2.out] at h2;have h2:=Qd h2;generalize(Tk.cls d==2)=b1 at*;generalize(Tk.cls d2==2)=b2 at*;rcases hq2 with rfl |rfl
     ·rw[decide_eq_true rfl,Bool.true_and] at hB8
      cases b1
      ·rw[Bool.false_and] at hB8
       go_wp2_with fail
       refine h.out.mono ?_;rintro e w' ⟨rfl,rfl⟩;go_wp2_with fail
       go_meet
       exact⟨rfl,by rw[hB8]⟩
      rw[Bool.true_and] at hB8;go_wp2_with fail
      refine h.out.mono ?_;rintro e w' ⟨rfl,rfl⟩;go_wp2_with fail
      refine h2.out.mono ?_;rintro e w' ⟨rfl,rfl⟩;go_wp2_with fail
      go_meet
      exact⟨rfl,by rw[hB8]⟩
     have hB8:B8=false:=by rw[hB8];rfl
     go_wp2_with fail
     go_meet
     exact⟨rfl,by rw[hB8]⟩
    case rest=>
     obtain⟨hwx,rfl⟩:=hcut;rw[hwx];clear hwx;cases B8
     ·have HRE:Hid (Tk.read l i=(Tk.none_,0,1)):=Qd (Tk.port_none HC.out (by rw[<-HD.out];exact HP1.out) (by
       rintro⟨p1,p2,p3⟩;rw[<-HQ.out] at p1;rw[<-HD.out] at p2;rw[<-HD2.out] at p3;rw[p1,p2,p3] at hB8;cases hB8))
      clear hB8 g0;go_wp2_with (with_reducible refine Hg rfl (.tmp 4) (.tmp 11) rfl w.heap.size rfl rfl HGR2.out ?_)
      refine Of (by rfl) (by rfl) (by rfl) (by rfl) rfl HGR2.out (HR.out _ _ ?_);rw[HRE.out];exact⟨_,_,_,rfl,Ga _,Ga _,World.ownsRow_nil _ _ _ _,rBelow.setRow (hb0.trans (HB2.out.mono (by rw[HWS.out];omega))) Lr _⟩
     have hbb:(q=9109/\(Tk.cls d==2)=true)/\(Tk.cls d2==2)=true:=by
      have h:=hB8.symm;rw[Bool.and_eq_true,Bool.and_eq_true,decide_eq_true_eq] at h;exact h
     have hr1:=Tk.letter_range hbb.1.2;have hr2:=Tk.letter_range hbb.2;have hlt:i+2<l.length:=by
      rcases Nat.lt_or_ge (i+2) l.length with h |h
      ·exact h
      have h1:=hr2.1;rw[HD2.out,Tk.getD_out h] at h1;omega
     have g1:=G1.out (by omega) W2 HB2.out;have g2:=G2.out hlt W2 HB2.out;have HPD:=Qd (Tk.port_two (by rw[<-HQ.out];exact hbb.1.1) (by rw[<-HD.out];exact hbb.1.2) (by rw[<-HD2.out];exact hbb.2));rw[<-HD2.out,<-HD.out] at HPD;have h65:=hr1.1;have h122:=hr1.2;have k65:=hr2.1;have k122:=hr2.2;clear hbb hr1 hr2 hB8 g0 hq2;obtain⟨S,hS⟩:∃S,S=runesBytes [d,d2]:=⟨_,rfl⟩;have hcv:(convert 126 9 (.slice (some ⟨W2.heap.size,0,none⟩) 2 2)).run Tryz.prog (W2.alloc (.cells #[.int .i32 d,.int .i32 d2] 21)).drew= .ok (.string S) (W2.alloc (.cells #[.int .i32 d,.int .i32 d2] 21)).drew:=by
      rw[hS];exact run_convert_runes _ _ _ 21 ⟨W2.heap.size,0,none⟩ 2 2 [d,d2] Lr Tryz.underlying126 Tryz.underlying21 Tryz.underlying9 (by
       intro j hj
       match j with
       | 0=>exact(cell_of_row _ W2.heap.size 0 _ _ _ (heap_alloc_new W2 _)).trans rfl
       | 1=>exact(cell_of_row _ W2.heap.size 1 _ _ _ (heap_alloc_new W2 _)).trans rfl
       |j+2=>exact absurd hj (by simp))
     have HSS:=Qd hS;clear hS;obtain⟨W4,hW4⟩:∃W4,W4=(W2.alloc (.cells #[.int .i32 d,.int .i32 d2] 21)).drew:=⟨_,rfl⟩;have HW4:=Qd hW4;clear hW4;go_upto_region 10 with fail
     go_region
     rw[<-HW4.out];have HB4:Hid (Below W.heap.size W W4):=Qd (by rw[HW4.out];exact(HB2.out.alloc (by rw[HS2.out];omega) _).drew);have HG4:Hid (W4.heap[W.heap.size]? =some (.cells #[.int .i64 0,.bool false,.slice none 0 0,.slice none 0 0,.slice none 0 0,.string ⟨#[]⟩,.int .i64 0,.int .i64 0] 54 (0,0))):=Qd (by rw[HW4.out];exact(Below.heap_alloc W2 _ W.heap.size (by rw[HS2.out];omega)).trans HG2.out);have HS4:Hid (W.heap.size+1<=W4.heap.size):=Qd (by rw[HW4.out];show _<=(W2.alloc _).heap.size;simp;rw[HS2.out];omega);have hDC:=F4 (d:=d) (e:=d2) (a:=68) (b:=67) (by omega) (by omega) (by omega) (by omega) (by omega) (by omega);have hUP:=F4 (d:=d) (e:=d2) (a:=85) (b:=80) (by omega) (by omega) (by omega) (by omega) (by omega) (by omega);rw[<-HSS.out] at hDC hUP;have hS2:=HSS.out.trans (Dx (d:=d) (e:=d2) (by omega) (by omega) (by omega) (by omega));have hDC:S=⟨#[68,67]⟩↔d=68/\d2=67:=hDC;have hUP:S=⟨#[85,80]⟩↔d=85/\d2=80:=hUP;by_cases e1:d=68/\d2=67
     ·have q1:(S.toList==[68,67])=true:=I4 (hDC.2 e1)
      have HP:Hid (Rp l i W (W4.setRow W.heap.size #[.int .i64 6,.bool false,.slice none 0 0,.slice none 0 0,.slice none 0 0,.string ⟨#[]⟩,.int .i64 0,.int .i64 0]) 6 0 (i+3)):=Qd ⟨by omega,Lr,setRow_heap W4 W.heap.size _ _ _ _ HG4.out,rBelow.setRow HB4.out Lr _,by rw[size_setRow];exact HS4.out,by
       rw[HPD.out,if_pos e1,show i+3-i=3 by omega]⟩
      clear hDC hUP e1 hS2;go_wp2_with (with_reducible refine Hg rfl (.tmp 7) (.tmp 75) rfl W.heap.size rfl rfl HG4.out ?_)
      go_meet
      exact⟨6,0,i+3,by go_num,HP⟩
     have q1:(S.toList==[68,67])=false:=J4 hS2 (λh=>e1 (hDC.1 h));by_cases e2:d=85/\d2=80
     ·have q2:(S.toList==[85,80])=true:=I4 (hUP.2 e2)
      have HP:Hid (Rp l i W (W4.setRow W.heap.size #[.int .i64 6,.bool false,.slice none 0 0,.slice none 0 0,.slice none 0 0,.string ⟨#[]⟩,.int .i64 1,.int .i64 0]) 6 1 (i+3)):=Qd ⟨by omega,Lr,setRow_heap W4 W.heap.size _ _ _ _ HG4.out,rBelow.setRow HB4.out Lr _,by rw[size_setRow];exact HS4.out,by
      rw[HPD.out,if_neg e1,if_pos e2,show i+3-i=3 by omega]⟩
      clear hDC hUP e1 e2 hS2;go_wp2_with (with_reducible refine Hg rfl (.tmp 7) (.tmp 78) rfl W.heap.size rfl rfl HG4.out ?_)
      go_meet
      exact⟨6,1,i+3,by go_num,HP⟩
     have q2:(S.toList==[85,80])=false:=J4 hS2 (λh=>e2 (hUP.1 h));clear hDC hUP hS2;have HRE:Hid (Tk.read l i=(Tk.none_,0,1)):=Qd (by rw[HPD.out,if_neg e1,if_neg e2]);have HGR4:Hid (W4.heap[w.heap.size]? =some (.cells #[.int .i64 0,.bool false,.slice none 0 0,.slice none 0 0,.slice none 0 0,.string ⟨#[]⟩,.int .i64 0,.int .i64 0] 54 (0,0))):=Qd ((HB4.out.block w.heap.size (by rw[HWS.out];omega)).trans HGA.out);go_wp2_with (with_reducible refine Hg rfl (.tmp 4) (.tmp 72) rfl w.heap.size rfl rfl HGR4.out ?_)
     refine Of (by rfl) (by rfl) (by rfl) (by rfl) rfl HGR4.out (HR.out _ _ ?_);rw[HRE.out];exact⟨_,_,_,rfl,Ga _,Ga _,World.ownsRow_nil _ _ _ _,rBelow.setRow (hb0.trans (HB4.out.mono (by rw[HWS.out];omega))) Lr _⟩
   have hdd:Tk.digit d=true/\d<=55:=by
    have h:=hB4.symm;rw[Bool.and_eq_true,decide_eq_true_eq] at h;exact h
   have h48:48<=d:=by
    have h:=hdd.1;unfold Tk.digit at h;rw[Bool.and_eq_true,decide_eq_true_eq,decide_eq_true_eq] at h;exact h.1
   have h55:=hdd.2;have hlt:i+1<l.length:=by
    rcases Nat.lt_or_ge (i+1) l.length with h |h
    ·exact h
    have h1:=hdd.1;rw[HD.out,Tk.getD_out h] at h1;cases h1
   have g1:=G1.out hlt W2 HB2.out;have HPD:=Qd (Tk.port_digit HC.out (by rw[<-HD.out];exact hdd.1) (by rw[<-HD.out];exact hdd.2));rw[<-HQ.out,<-HD.out] at HPD;obtain⟨W3,hW3⟩:∃W3,W3=W2.setRow W.heap.size #[.int .i64 4,.bool false,.slice none 0 0,.slice none 0 0,.slice none 0 0,.string ⟨#[]⟩,.int .i64 (d-48),.int .i64 0]:=⟨_,rfl⟩;have hb3:Below W.heap.size W W3:=by rw[hW3];exact rBelow.setRow HB2.out Lr _
   have g0:=G0.out W3 hb3;have hG3:W3.heap[W.heap.size]? =some (.cells #[.int .i64 4,.bool false,.slice none 0 0,.slice none 0 0,.slice none 0 0,.string ⟨#[]⟩,.int .i64 (d-48),.int .i64 0] 54 (0,0)):=by rw[hW3];exact setRow_heap W2 W.heap.size _ _ _ _ HG2.out
   have hS3:W.heap.size+1<=W3.heap.size:=by rw[hW3,size_setRow,HS2.out];exact Lr
   have HW3:=Qd hW3;clear hdd hB4 hW3;rcases hq2 with rfl |rfl
   ·have HP:Hid (Rp l i W W3 4 (d-48) (i+2)):=Qd ⟨Lr,by omega,hG3,hb3,hS3,by
     rw[HPD.out,if_neg (show¬((9109:Int)=9054) by decide),show i+2-i=2 by omega]⟩
    clear hb3 hG3 hS3;go_upto_region 6 with(with_reducible refine Hg rfl (.tmp 7) (.tmp 31) rfl W.heap.size rfl rfl HG2.out ?_)
    rw[<-HW3.out];go_wp2_with fail
    go_meet
    exact⟨4,d-48,i+2,by go_num,HP⟩
   have hc0:W3.cell? ⟨W.heap.size,0,none⟩=some (.int .i64 4):=(cell_of_row W3 W.heap.size 0 _ _ _ hG3).trans rfl;have hf0:W3.frozen? ⟨W.heap.size,0,none⟩=false:=by simp[World.frozen?,hG3]
   have HP:Hid (Rp l i W (W3.setCell ⟨W.heap.size,0,none⟩ (.int .i64 5)) 5 (d-48) (i+2)):=Qd ⟨Lr,by omega,Blk.set_ (w:=W3) (g:=W.heap.size) (vs:=[.int .i64 4,.bool false,.slice none 0 0,.slice none 0 0,.slice none 0 0,.string ⟨#[]⟩,.int .i64 (d-48),.int .i64 0]) hG3 0 _,hb3.setCell Lr _,by simp only[World.setCell,Array.size_modify];exact hS3,by
    rw[HPD.out,if_pos rfl,show i+2-i=2 by omega]⟩
   clear hb3 hG3 hS3;go_upto_region 6 with(with_reducible refine Hg rfl (.tmp 7) (.tmp 31) rfl W.heap.size rfl rfl HG2.out ?_)
   rw[<-HW3.out];go_wp2_with fail
   go_meet
   exact⟨5,d-48,i+2,by go_num,HP⟩
 case rest=>
  obtain⟨k,cc,en,rfl,HP⟩:=hcut;have HGC:Hid (wc.heap[w.heap.size]? =some (.cells #[.int .i64 0,.bool false,.slice none 0 0,.slice none 0 0,.slice none 0 0,.string ⟨#[]⟩,.int .i64 0,.int .i64 0] 54 (0,0))):=Qd ((HP.out.below.block w.heap.size (by rw[HWS.out];omega)).trans HGA.out);have HBK:=Qd HP.out.blk;have hen:=HP.out.hi;have hen2:=HP.out.lo;have h:=LT.out wc HP.out.below en (by omega);have h:=Qd h;have h2:=DG.out wc HP.out.below en (by omega);have h2:=Qd h2;have hwd:Hid (Tk.word (l.getD en (-1))=(Tk.digit (l.getD en (-1))||(Tk.cls (l.getD en (-1))==2))):=Qd rfl;have HTD:=Qd HP.out.told;generalize Tk.word (l.getD en (-1))=bw at*;generalize(Tk.cls (l.getD en (-1))==2)=b1 at*;generalize Tk.digit (l.getD en (-1))=b2 at*;obtain⟨b3,hb3⟩:∃b3,b3=(b1||b2):=⟨_,rfl⟩;have hbw:bw=b3:=by rw[hwd.out,hb3,Bool.or_comm]
  clear hwd LT DG G0 G1 G2;go_upto_region 16 with fail
  go_cut [86] from 87 (λx86 wx=>wx=wc/\x86= .bool b3)
  case first=>
   cases b1
   ·go_wp2_with fail
    refine h.out.mono ?_;rintro e w' ⟨rfl,rfl⟩;go_wp2_with fail
    refine h2.out.mono ?_;rintro e w' ⟨rfl,rfl⟩;go_wp2_with fail
    go_meet
    exact⟨rfl,by rw[hb3];rfl⟩
   go_wp2_with fail
   refine h.out.mono ?_;rintro e w' ⟨rfl,rfl⟩;go_wp2_with fail
   go_meet
   exact⟨rfl,by rw[hb3];rfl⟩
  case rest=>
   obtain⟨hwx,rfl⟩:=hcut;rw[hwx];clear hwx hb3;subst hbw;cases bw
   ·have HRE:Hid (Tk.read l i=(⟨k,Rt.none_,[],[],cc,i⟩,en-i,0)):=Qd (by rw[HTD.out];rfl)
    go_wp2_with (first|(with_reducible refine M9 rfl (.tmp 7) rfl W.heap.size rfl HBK.out ?_) |(with_reducible refine Hg rfl (.tmp 4) (.tmp 88) rfl w.heap.size rfl rfl HGC.out ?_))
    refine Of (by rfl) (by rfl) (by rfl) (by rfl) rfl HGC.out (HR.out _ _ ?_);rw[HRE.out];show Og w _ (i+(en-i)) 0 _ _;rw[show i+(en-i)=en by omega];exact⟨_,_,_,rfl,Ga _,Ga _,World.ownsRow_nil _ _ _ _,rBelow.setRow (hb0.trans (HP.out.below.mono (by rw[HWS.out];omega))) Lr _⟩
   have HRE:Hid (Tk.read l i=(Tk.none_,0,1)):=Qd (by rw[HTD.out];rfl);go_wp2_with (with_reducible refine Hg rfl (.tmp 4) (.tmp 87) rfl w.heap.size rfl rfl HGC.out ?_)
   refine Of (by rfl) (by rfl) (by rfl) (by rfl) rfl HGC.out (HR.out _ _ ?_);rw[HRE.out];exact⟨_,_,_,rfl,Ga _,Ga _,World.ownsRow_nil _ _ _ _,rBelow.setRow (hb0.trans (HP.out.below.mono (by rw[HWS.out];omega))) Lr _⟩
theorem K4 {w:World}{base:Nat}{e t:TypeId}{size n:Nat}{v:Value}{xs:List Value}(h:w.ownsRow base e size v n xs){g:Nat}{old:Array Value}(hg:w.heap[g]? =some (.cells old t (0,0)))(hne:t≠e)(cs:Array Value):(w.setRow g cs).ownsRow base e size v n xs:=by
 obtain⟨h1,h2⟩:=h;refine⟨h1,?_⟩;rcases h2 with h2 |⟨g',cap,cur,hv,hb,hh,r⟩
 ·exact .inl h2
 have hgg:g≠g':=by
  rintro rfl;rw[hg] at hh;injection hh with hh
  injection hh with _ e2
  exact hne e2
 exact .inr ⟨g',cap,cur,hv,hb,by rw[<-hh];simp only[World.setRow,Array.getElem?_modify];rw[if_neg hgg],r⟩
theorem Kj {w w':World}(t:Tk.Tok){en:Nat}{er:Int}{n1 n2 lv:Value}{cs:Array Value}(hg:w'.heap[w.heap.size]? =some (.cells #[.int .i64 0,.bool false,.slice none 0 0,.slice none 0 0,.slice none 0 0,.string ⟨#[]⟩,.int .i64 0,.int .i64 0] 54 (0,0)))
 (h1:IsRes w' n1 t.n.top) (h2:IsRes w' n2 t.n.bot) (h3:w'.ownsRow 0 3 1 lv t.l.length (Sa t.l)) (hb:Below w.heap.size w w'):
 Og w t en er (.returned (.tuple #[.agg #[.int .i64 t.kind,.bool t.n.neg,n1,n2,lv,.string ⟨t.s.toArray⟩,.int .i64 t.c,.int .i64 0],.int .i64 (en:Int),.int .i64 er])) (w'.setRow w.heap.size cs):=
 ⟨n1,n2,lv,rfl,h1.setRowU hg Tq _,h2.setRowU hg Tq _,K4 h3 hg (by decide) _,rBelow.setRow hb Lr _⟩
theorem Kja (A:Option Addr)(c:Nat)(l:List Int)(i:Nat)(w:World)(hl:Lies w w.heap.size A (Sa l))(hn:l.length<=25000)(hcap:l.length<=c)(hm:∀x∈l,Gl.may x=true)(hi:i<l.length)(hb1:Tk.cls (l.getD i (-1))≠1):
 Calls Tryz.prog 52 #[.slice A l.length c,.int .i64 (i:Int)] w (Vc w l i):=by
 obtain⟨r,hr⟩:∃r,r=Tk.read l i:=⟨_,rfl⟩;obtain⟨t,n,er⟩:=r;obtain⟨en,hen⟩:∃en,en=(if er=0 then i+n else 0):=⟨_,rfl⟩;have HR:Hid (∀e w',Og w t en er e w'->Vc w l i e w'):=Qd (λe w' h=>by unfold Vc;rw[<-hr];dsimp only;rw[<-hen];exact h);have HRD:=Qd hr;have HEN:=Qd hen;obtain⟨W,hW⟩:∃W,W=w.alloc (.cells #[.int .i64 0,.bool false,.slice none 0 0,.slice none 0 0,.slice none 0 0,.string ⟨#[]⟩,.int .i64 0,.int .i64 0] 54):=⟨_,rfl⟩;have hb0:Below w.heap.size w W:=by rw[hW];exact Br.alloc Lr _
 have HGA:Hid (W.heap[w.heap.size]? =some (.cells #[.int .i64 0,.bool false,.slice none 0 0,.slice none 0 0,.slice none 0 0,.string ⟨#[]⟩,.int .i64 0,.int .i64 0] 54 (0,0))):=Qd (by rw[hW];exact heap_alloc_new w _);have HWS:Hid (W.heap.size=w.heap.size+1):=Qd (by rw[hW];simp);have hlW:Lies W W.heap.size A (Sa l):=(hl.below hb0).more hb0.size;obtain⟨x,hx⟩:∃x,x=l.getD i (-1):=⟨_,rfl⟩;rw[<-hx] at hb1;have HX:=Qd hx;have CA:=Qd (λwx=>Dj x wx);have NUM:=Qd (λh=>Ny A c l i W hlW hn hcap hm hi h);have NAM:=Qd (λh=>Cja A c l i W hlW (by omega) hcap hm hi h);have TXT:=Qd (λh=>U6 A c l i W hlW hn hcap hi h);have PRT:=Qd (λh=>Jja A c l i W hlW hn hcap hi h);rw[<-hx] at NUM NAM TXT PRT;have HW:Hid (W=w.alloc (.cells #[.int .i64 0,.bool false,.slice none 0 0,.slice none 0 0,.slice none 0 0,.string ⟨#[]⟩,.int .i64 0,.int .i64 0] 54)):=Qd hW;obtain⟨b,off,rfl,hb,g0⟩:=Hb hlW hi;rw[<-Tk.getD_in hi,<-hx] at g0;obtain⟨k,hk⟩:∃k,k=Tk.cls x:=⟨_,rfl⟩;rw[<-hk] at CA hb1 NUM NAM;have HK:=Qd hk;clear hl hlW hm hW hr hen hx hk;go_enter Tryz.func52,Tryz.ntmps52
 go_upto_region 1 with fail
 rw[<-HW.out];go_upto_region 2 with fail
 go_wp2_with fail
 refine(CA.out _).mono ?_;rintro e w' ⟨rfl,rfl⟩;by_cases k3:k=3
 ·have q3:(k==3)=true:=by rw[k3];rfl
  have HCA:=Qd (NUM.out k3);unfold Vc at HCA;rw[<-HRD.out] at HCA;dsimp only at HCA;rw[<-HEN.out] at HCA;clear NAM TXT PRT NUM hb1 k3;go_wp2_with fail
  refine HCA.out.mono ?_;intro e w' h;obtain⟨n1,n2,lv,he,h1,h2,h3,h4⟩:=h;have he:e= .returned (.tuple #[.agg #[.int .i64 t.kind,.bool t.n.neg,n1,n2,lv,.string ⟨t.s.toArray⟩,.int .i64 t.c,.int .i64 0],.int .i64 (en:Int),.int .i64 er]):=he;subst he;have h1':=h1;have h2':=h2;obtain⟨A1,c1,rfl,_⟩:=h1';obtain⟨A2,c2,rfl,_⟩:=h2';obtain⟨A3,c3,rfl,_,_⟩:=Kb h3;have HGX:Hid (w'.heap[w.heap.size]? =some (.cells #[.int .i64 0,.bool false,.slice none 0 0,.slice none 0 0,.slice none 0 0,.string ⟨#[]⟩,.int .i64 0,.int .i64 0] 54 (0,0))):=Qd ((h4.block w.heap.size (by rw[HWS.out];omega)).trans HGA.out);have H1:=Qd h1;have H2:=Qd h2;have H3:=Qd h3;have H4:=Qd h4;clear h1 h2 h3 h4;go_wp2_with (with_reducible refine Hg rfl (.tmp 4) (.tmp 19) rfl w.heap.size rfl rfl HGX.out ?_)
  refine Of (by rfl) (by rfl) (by rfl) (by rfl) rfl HGX.out (HR.out _ _ ?_);exact Kj t (HGX.out) H1.out H2.out H3.out (hb0.trans (H4.out.mono (by rw[HWS.out];omega)))
 have q3:(k==3)=false:=beq_eq_false_iff_ne.2 k3;by_cases k2:k=2
 ·have q2:(k==2)=true:=by rw[k2];rfl
  have HCA:=Qd (NAM.out k2);unfold Vc at HCA;rw[<-HRD.out] at HCA;dsimp only at HCA;rw[<-HEN.out] at HCA;clear NAM TXT PRT NUM hb1 k3 k2;go_wp2_with fail
  refine HCA.out.mono ?_;intro e w' h;obtain⟨n1,n2,lv,he,h1,h2,h3,h4⟩:=h;have he:e= .returned (.tuple #[.agg #[.int .i64 t.kind,.bool t.n.neg,n1,n2,lv,.string ⟨t.s.toArray⟩,.int .i64 t.c,.int .i64 0],.int .i64 (en:Int),.int .i64 er]):=he;subst he;have h1':=h1;have h2':=h2;obtain⟨A1,c1,rfl,_⟩:=h1';obtain⟨A2,c2,rfl,_⟩:=h2';obtain⟨A3,c3,rfl,_,_⟩:=Kb h3;have HGX:Hid (w'.heap[w.heap.size]? =some (.cells #[.int .i64 0,.bool false,.slice none 0 0,.slice none 0 0,.slice none 0 0,.string ⟨#[]⟩,.int .i64 0,.int .i64 0] 54 (0,0))):=Qd ((h4.block w.heap.size (by rw[HWS.out];omega)).trans HGA.out);have H1:=Qd h1;have H2:=Qd h2;have H3:=Qd h3;have H4:=Qd h4;clear h1 h2 h3 h4;go_wp2_with (with_reducible refine Hg rfl (.tmp 4) (.tmp 27) rfl w.heap.size rfl rfl HGX.out ?_)
  refine Of (by rfl) (by rfl) (by rfl) (by rfl) rfl HGX.out (HR.out _ _ ?_);exact Kj t (HGX.out) H1.out H2.out H3.out (hb0.trans (H4.out.mono (by rw[HWS.out];omega)))
 have q2:(k==2)=false:=beq_eq_false_iff_ne.2 k2;by_cases k0:k=0
 ·have q0:(k==0)=true:=by rw[k0];rfl
  have HRE:Hid (t=Tk.none_/\en=0/\er=1):=Qd (by
   have h:=HRD.out;unfold Tk.read at h;rw[<-HX.out] at h;dsimp only at h;rw[<-HK.out,if_neg k3,if_neg k2,if_neg (λe=>by have h':=HK.out;rw[e,k0] at h';exact absurd h' (by decide)),if_neg (λe=>by have h':=HK.out;rcases e with e |e<;>(rw[e,k0] at h';exact absurd h' (by decide))),if_pos k0] at h;have e1:=congrArg (λp=>p.1) h;have e2:=congrArg (λp=>p.2.2) h;dsimp only at e1 e2;exact⟨e1,by rw[HEN.out,e2];rfl,e2⟩)
  clear hb1 k0 k2 k3;go_wp2_with (with_reducible refine Hg rfl (.tmp 4) (.tmp 32) rfl w.heap.size rfl rfl HGA.out ?_)
  refine Of (by rfl) (by rfl) (by rfl) (by rfl) rfl HGA.out (HR.out _ _ ?_);obtain⟨r1,r2,r3⟩:=HRE.out;rw[r1,r2,r3];exact⟨_,_,_,rfl,Ga _,Ga _,World.ownsRow_nil _ _ _ _,rBelow.setRow hb0 Lr _⟩
 have q0:(k==0)=false:=beq_eq_false_iff_ne.2 k0;by_cases x39:x=39
 ·have y39:(x==39)=true:=by rw[x39];rfl
  have HCA:=Qd (TXT.out x39);unfold Vc at HCA;rw[<-HRD.out] at HCA;dsimp only at HCA;rw[<-HEN.out] at HCA;clear NAM TXT PRT NUM hb1 k3 k2 k0 x39;go_wp2_with fail
  refine HCA.out.mono ?_;intro e w' h;obtain⟨n1,n2,lv,he,h1,h2,h3,h4⟩:=h;have he:e= .returned (.tuple #[.agg #[.int .i64 t.kind,.bool t.n.neg,n1,n2,lv,.string ⟨t.s.toArray⟩,.int .i64 t.c,.int .i64 0],.int .i64 (en:Int),.int .i64 er]):=he;subst he;have h1':=h1;have h2':=h2;obtain⟨A1,c1,rfl,_⟩:=h1';obtain⟨A2,c2,rfl,_⟩:=h2';obtain⟨A3,c3,rfl,_,_⟩:=Kb h3;have HGX:Hid (w'.heap[w.heap.size]? =some (.cells #[.int .i64 0,.bool false,.slice none 0 0,.slice none 0 0,.slice none 0 0,.string ⟨#[]⟩,.int .i64 0,.int .i64 0] 54 (0,0))):=Qd ((h4.block w.heap.size (by rw[HWS.out];omega)).trans HGA.out);have H1:=Qd h1;have H2:=Qd h2;have H3:=Qd h3;have H4:=Qd h4;clear h1 h2 h3 h4;go_wp2_with (with_reducible refine Hg rfl (.tmp 4) (.tmp 39) rfl w.heap.size rfl rfl HGX.out ?_)
  refine Of (by rfl) (by rfl) (by rfl) (by rfl) rfl HGX.out (HR.out _ _ ?_);exact Kj t (HGX.out) H1.out H2.out H3.out (hb0.trans (H4.out.mono (by rw[HWS.out];omega)))
 have y39:(x==39)=false:=beq_eq_false_iff_ne.2 x39;by_cases xp:x=9109\/x=9054
 ·rcases xp with xq |xq
  ·have y1:(x==9109)=true:=by rw[xq];rfl
   have HCA:=Qd (PRT.out (.inl xq));unfold Vc at HCA;rw[<-HRD.out] at HCA;dsimp only at HCA;rw[<-HEN.out] at HCA;clear NAM TXT PRT NUM hb1 k3 k2 k0 x39 xq;go_wp2_with fail
   refine HCA.out.mono ?_;intro e w' h;obtain⟨n1,n2,lv,he,h1,h2,h3,h4⟩:=h;have he:e= .returned (.tuple #[.agg #[.int .i64 t.kind,.bool t.n.neg,n1,n2,lv,.string ⟨t.s.toArray⟩,.int .i64 t.c,.int .i64 0],.int .i64 (en:Int),.int .i64 er]):=he;subst he;have h1':=h1;have h2':=h2;obtain⟨A1,c1,rfl,_⟩:=h1';obtain⟨A2,c2,rfl,_⟩:=h2';obtain⟨A3,c3,rfl,_,_⟩:=Kb h3;have HGX:Hid (w'.heap[w.heap.size]? =some (.cells #[.int .i64 0,.bool false,.slice none 0 0,.slice none 0 0,.slice none 0 0,.string ⟨#[]⟩,.int .i64 0,.int .i64 0] 54 (0,0))):=Qd ((h4.block w.heap.size (by rw[HWS.out];omega)).trans HGA.out);have H1:=Qd h1;have H2:=Qd h2;have H3:=Qd h3;have H4:=Qd h4;clear h1 h2 h3 h4;go_wp2_with (with_reducible refine Hg rfl (.tmp 4) (.tmp 48) rfl w.heap.size rfl rfl HGX.out ?_)
   refine Of (by rfl) (by rfl) (by rfl) (by rfl) rfl HGX.out (HR.out _ _ ?_);exact Kj t (HGX.out) H1.out H2.out H3.out (hb0.trans (H4.out.mono (by rw[HWS.out];omega)))
  have y1:(x==9109)=false:=by rw[xq];rfl
  have y2:(x==9054)=true:=by rw[xq];rfl
  have HCA:=Qd (PRT.out (.inr xq));unfold Vc at HCA;rw[<-HRD.out] at HCA;dsimp only at HCA;rw[<-HEN.out] at HCA;clear NAM TXT PRT NUM hb1 k3 k2 k0 x39 xq;go_wp2_with fail
  refine HCA.out.mono ?_;intro e w' h;obtain⟨n1,n2,lv,he,h1,h2,h3,h4⟩:=h;have he:e= .returned (.tuple #[.agg #[.int .i64 t.kind,.bool t.n.neg,n1,n2,lv,.string ⟨t.s.toArray⟩,.int .i64 t.c,.int .i64 0],.int .i64 (en:Int),.int .i64 er]):=he;subst he;have h1':=h1;have h2':=h2;obtain⟨A1,c1,rfl,_⟩:=h1';obtain⟨A2,c2,rfl,_⟩:=h2';obtain⟨A3,c3,rfl,_,_⟩:=Kb h3;have HGX:Hid (w'.heap[w.heap.size]? =some (.cells #[.int .i64 0,.bool false,.slice none 0 0,.slice none 0 0,.slice none 0 0,.string ⟨#[]⟩,.int .i64 0,.int .i64 0] 54 (0,0))):=Qd ((h4.block w.heap.size (by rw[HWS.out];omega)).trans HGA.out);have H1:=Qd h1;have H2:=Qd h2;have H3:=Qd h3;have H4:=Qd h4;clear h1 h2 h3 h4;go_wp2_with (with_reducible refine Hg rfl (.tmp 4) (.tmp 48) rfl w.heap.size rfl rfl HGX.out ?_)
  refine Of (by rfl) (by rfl) (by rfl) (by rfl) rfl HGX.out (HR.out _ _ ?_);exact Kj t (HGX.out) H1.out H2.out H3.out (hb0.trans (H4.out.mono (by rw[HWS.out];omega)))
 have y1:(x==9109)=false:=beq_eq_false_iff_ne.2 (λh=>xp (.inl h));have y2:(x==9054)=false:=beq_eq_false_iff_ne.2 (λh=>xp (.inr h));have HRE:Hid (t=⟨7,Rt.none_,[],[],x,i⟩/\en=i+1/\er=0):=Qd (by
  have h:=HRD.out;unfold Tk.read at h;rw[<-HX.out] at h;dsimp only at h;rw[<-HK.out,if_neg k3,if_neg k2,if_neg x39,if_neg xp,if_neg k0] at h;have e1:=congrArg (λp=>p.1) h;have e2:=congrArg (λp=>p.2.2) h;have e3:=congrArg (λp=>p.2.1) h;dsimp only at e1 e2 e3;exact⟨e1,by rw[HEN.out,e2,e3];rfl,e2⟩)
 clear hb1 k0 k2 k3 x39 xp;go_wp2_with (with_reducible refine Hg rfl (.tmp 4) (.tmp 52) rfl w.heap.size rfl rfl HGA.out ?_)
 refine Of (by rfl) (by rfl) (by rfl) (by rfl) rfl HGA.out (HR.out _ _ ?_);obtain⟨r1,r2,r3⟩:=HRE.out;rw[r1,r2,r3];exact⟨_,_,_,rfl,Ga _,Ga _,World.ownsRow_nil _ _ _ _,rBelow.setRow hb0 Lr _⟩
def Fo (u:Value):Prop:=∀n:Int,u≠ .int .u32 n
theorem IsRes.grownQ {w w':World}{v:Value}{ds:List Nat}(h:IsRes w v ds){base:Nat}{e:TypeId}{size n:Nat}{r:Value}{xs:List Value}(ho:w.ownsQ Fo base e size r n xs)(hg:w.grownBy w' r.ownBlock):IsRes w' v ds:=by
 obtain⟨A,c,h1,h2,h3,h4,h5⟩:=h;refine⟨A,c,h1,h2,h3,h4,?_⟩;rcases h5 with h5 |⟨b,off,e,hb,hc⟩
 ·exact .inl h5
 cases ds with
 |nil=>exact .inl rfl
 |cons x l=>
  have hne:r.ownBlock≠some b:=ho.apart (hc 0 _ rfl) (λhq=>hq _ rfl);refine .inr ⟨b,off,e,Nat.lt_of_lt_of_le hb hg.size,λi u hu=>?_⟩;rw[World.cell?_of_block (w:=w) (hg.block b hb (λe=>hne e.symm))];exact hc i u hu
theorem IsRes.below_ {w w':World}{v:Value}{ds:List Nat}(h:IsRes w v ds)(hb:Below w.heap.size w w'):IsRes w' v ds:=by
 obtain⟨A,c,h1,h2,h3,h4,h5⟩:=h;exact⟨A,c,h1,h2,h3,h4,(h5.below hb).more hb.size⟩
theorem Hr {w w':World}{base base':Nat}{e t:TypeId}{q:Value->Prop}{size size' n n':Nat}{v r:Value}{xs xs':List Value}(h:w.ownsRow base e size v n xs)(ho:w.ownsQ q base' t size' r n' xs')(hne:t≠e)(hg:w.grownBy w' r.ownBlock):w'.ownsRow base e size v n xs:=by
 refine h.kept hg ?_;rcases h.2 with⟨rfl,_⟩ |⟨g,cap,cur,rfl,hb,hh,_⟩
 ·exact .inl rfl
 right
 rcases ho.2 with⟨rfl,_⟩ |⟨g',cap',cur',rfl,hb',hh',_⟩
 ·simp[Value.ownBlock]
 intro e1;simp only[Value.ownBlock] at e1;injection e1 with e1
 have e1:g=g':=e1;subst e1;rw[hh] at hh';injection hh' with hh'
 injection hh' with _ e2
 exact hne e2.symm
def TokRows (w:World):List Tk.Tok->List Value->Prop
 | [],xs=>xs=[]
 |t::ts,xs=>∃n1 n2 lv r,xs=Ge t.kind t.n.neg n1 n2 lv t.s t.c t.at_++r/\IsRes w n1 t.n.top/\IsRes w n2 t.n.bot/\w.ownsRow 0 3 1 lv t.l.length (Sa t.l)/\TokRows w ts r
theorem TokRows.len {w:World}:∀{ts:List Tk.Tok} {xs:List Value},TokRows w ts xs->xs.length=ts.length*8
 | [],xs,h=>by have h:xs=[]:=h;subst h;rfl
 |t::ts,xs,h=>by
  obtain⟨n1,n2,lv,r,rfl,_,_,_,hr⟩:=h;rw[List.length_append,hr.len,List.length_cons,Nat.succ_mul];show 8+_=_;omega
theorem TokRows.snoc {w:World}{t:Tk.Tok}{n1 n2 lv:Value}(h1:IsRes w n1 t.n.top)(h2:IsRes w n2 t.n.bot)(h3:w.ownsRow 0 3 1 lv t.l.length (Sa t.l)):∀{ts:List Tk.Tok} {xs:List Value},TokRows w ts xs->TokRows w (ts++[t]) (xs++Ge t.kind t.n.neg n1 n2 lv t.s t.c t.at_)
 | [],xs,h=>by
  have h:xs=[]:=h;subst h;exact⟨n1,n2,lv,[],by simp,h1,h2,h3,rfl⟩
 |u::ts,xs,h=>by
  obtain⟨m1,m2,mv,r,rfl,k1,k2,k3,hr⟩:=h;exact⟨m1,m2,mv,_,by rw[List.append_assoc],k1,k2,k3,TokRows.snoc h1 h2 h3 hr⟩
theorem TokRows.map {w w':World}(h1:∀v ds,IsRes w v ds->IsRes w' v ds)(h2:∀v l,w.ownsRow 0 3 1 v l (Sa [])->True)(h3:∀v (l:List Int),w.ownsRow 0 3 1 v l.length (Sa l)->w'.ownsRow 0 3 1 v l.length (Sa l)):∀{ts:List Tk.Tok} {xs:List Value},TokRows w ts xs->TokRows w' ts xs
 | [],xs,h=>h
 |u::ts,xs,h=>by
  obtain⟨m1,m2,mv,r,e,k1,k2,k3,hr⟩:=h;exact⟨m1,m2,mv,r,e,h1 _ _ k1,h1 _ _ k2,h3 _ _ k3,TokRows.map h1 h2 h3 hr⟩
theorem TokRows.below {w w':World}{ts:List Tk.Tok}{xs:List Value}(h:TokRows w ts xs)(hb:Below w.heap.size w w'):TokRows w' ts xs:=
 TokRows.map (λ_ _ k=>k.below_ hb) (λ_ _ _=>trivial) (λ_ _ k=>Bk k hb) h
theorem TokRows.grown {w w':World}{ts:List Tk.Tok}{xs:List Value}(h:TokRows w ts xs){base:Nat}{t:TypeId}{size n:Nat}{r:Value}{ys:List Value}(ho:w.ownsQ Fo base t size r n ys)(hne:t≠3)(hg:w.grownBy w' r.ownBlock):TokRows w' ts xs:=
 TokRows.map (λ_ _ k=>k.grownQ ho hg) (λ_ _ _=>trivial) (λ_ _ k=>Hr k ho hne hg) h
def IsToks (w:World)(base:Nat)(v:Value)(ts:List Tk.Tok):Prop:=∃xs,w.ownsQ Fo base 54 8 v ts.length xs/\TokRows w ts xs
theorem IsToks.nil (w:World)(base:Nat):IsToks w base (.slice none 0 0) []:=⟨[],World.ownsQ_nil _ _ _ _ _,rfl⟩
theorem Zi {w w':World}{q:Value->Prop}{base:Nat}{e:TypeId}{size n:Nat}{v:Value}{xs:List Value}(h:w.ownsQ q base e size v n xs)(hb:Below w.heap.size w w'):w'.ownsQ q base e size v n xs:=by
 obtain⟨h1,h2⟩:=h;refine⟨h1,?_⟩;rcases h2 with h2 |⟨g,cap,cur,hv,hbs,hh,r⟩
 ·exact .inl h2
 have hg:g<w.heap.size:=by
  rcases Nat.lt_or_ge g w.heap.size with h |h
  ·exact h
  rw[Array.getElem?_eq_none h] at hh;cases hh
 exact .inr ⟨g,cap,cur,hv,hbs,(hb.block g hg).trans hh,r⟩
theorem IsToks.below {w w':World}{base:Nat}{v:Value}{ts:List Tk.Tok}(h:IsToks w base v ts)(hb:Below w.heap.size w w'):IsToks w' base v ts:=by
 obtain⟨xs,h1,h2⟩:=h;exact⟨xs,Zi h1 hb,h2.below hb⟩
theorem Sp (k:Int)(neg:Bool){n1 n2 lv:Value}(h1:Fo n1)(h2:Fo n2)(h3:Fo lv)(s:List UInt8)(c a:Int):∀u∈Ge k neg n1 n2 lv s c a,Fo u:=by
 intro u hu n e;subst e;unfold Ge at hu;simp only[List.mem_cons,List.not_mem_nil,or_false] at hu;rcases hu with hu |hu |hu |hu |hu |hu |hu |hu
 ·injection hu with e1;cases e1
 ·cases hu
 ·exact h1 n hu.symm
 ·exact h2 n hu.symm
 ·exact h3 n hu.symm
 ·cases hu
 ·injection hu with e1;cases e1
 injection hu with e1;cases e1
theorem IsRes.noU {w:World}{v:Value}{ds:List Nat}(h:IsRes w v ds):Fo v:=by
 obtain⟨A,c,rfl,_⟩:=h;intro n e;cases e
theorem Lma {w:World}{base:Nat}{e:TypeId}{size n:Nat}{v:Value}{xs:List Value}(h:w.ownsRow base e size v n xs):Fo v:=by
 obtain⟨A,c,rfl,_,_⟩:=Kb h;intro n e;cases e
theorem Sba:(Tryz.prog.info? 54).map (λi=>(i.zero,i.size,i.bytes))=some (some (.agg #[.int .i64 0,.bool false,.slice none 0 0,.slice none 0 0,.slice none 0 0,.string ⟨#[]⟩,.int .i64 0,.int .i64 0]),8,120):=by kernel_rfl
theorem Q9 {l:List Int}{f i:Nat}{out:List Tk.Tok}(h:l.length<=i\/l.getD i (-1)=9053)(hf:1<=f):Tk.goF l f i out=(out,0,0):=by
 obtain⟨f,rfl⟩:∃g,f=g+1:=⟨f-1,by omega⟩;unfold Tk.goF;rw[if_pos h]
theorem Bga {l:List Int}{f i:Nat}{out:List Tk.Tok}(h:i<l.length)(hx:l.getD i (-1)≠9053)(hb:Tk.cls (l.getD i (-1))=1):Tk.goF l (f+1) i out=Tk.goF l f (i+1) out:=by
 rw[Tk.goF,if_neg (by rintro(h1 |h1);omega;exact hx h1),if_pos hb]
theorem Mma {l:List Int}{f i:Nat}{out:List Tk.Tok}(h:i<l.length)(hx:l.getD i (-1)≠9053)(hb:Tk.cls (l.getD i (-1))≠1)(he:(Tk.read l i).2.2≠0)(hf:1<=f):Tk.goF l f i out=([],i,(Tk.read l i).2.2):=by
 obtain⟨f,rfl⟩:∃g,f=g+1:=⟨f-1,by omega⟩;rw[Tk.goF,if_neg (by rintro(h1 |h1);omega;exact hx h1),if_neg hb,if_pos he]
theorem Lja {l:List Int}{f i:Nat}{out:List Tk.Tok}(h:i<l.length)(hx:l.getD i (-1)≠9053)(hb:Tk.cls (l.getD i (-1))≠1)(he:(Tk.read l i).2.2=0):Tk.goF l (f+1) i out=Tk.goF l f (i+(Tk.read l i).2.1) (out++[(Tk.read l i).1]):=by
 rw[Tk.goF,if_neg (by rintro(h1 |h1);omega;exact hx h1),if_neg hb,if_neg (by rw[he];simp)]
theorem W6:(Tryz.prog.info? 54).map (λi=>(i.zero,i.size,i.bytes))=some (some (.agg #[.int .i64 0,.bool false,.slice none 0 0,.slice none 0 0,.slice none 0 0,.string ⟨#[]⟩,.int .i64 0,.int .i64 0]),8,120):=Sba
theorem Zh (w:World)(xs:List Value)(t:TypeId):∀j u,xs[j]? =some u->(w.alloc (.cells xs.toArray t)).cell? ((⟨w.heap.size,0,none⟩:Addr).add j)=some u:=by
 intro j u hj;have hadd:(⟨w.heap.size,0,none⟩:Addr).add j=⟨w.heap.size,j,none⟩:=by unfold Addr.add;split<;>simp_all
 rw[hadd,cell_of_row _ w.heap.size j _ _ _ (heap_alloc_new w _)]
 simpa using hj
theorem Mja:∀u∈(Value.agg #[.int .i64 0,.bool false,.slice none 0 0,.slice none 0 0,.slice none 0 0,.string ⟨#[]⟩,.int .i64 0,.int .i64 0]).cells.toList,Fo u:=by
 intro u hu;refine Sp 0 false (n1:= .slice none 0 0) (n2:= .slice none 0 0) (lv:= .slice none 0 0) (λn e=>by cases e) (λn e=>by cases e) (λn e=>by cases e) [] 0 0 u hu
theorem Mi {P:Program}{fn:Func}{p q r:Tmp}(h:fn.results= #[.tmp p,.tmp q,.tmp r])(tmps:Array Value)(w:World)(x u v:Value)
 (hp:tmps.getD p undef=x) (hq:tmps.getD q undef=u) (hr:tmps.getD r undef=v):
 (results fn tmps).run P w= .ok (.tuple #[x,u,v]) w:=by
 have hp':tmps[p]?.getD undef=x:=by simpa using hp
 have hq':tmps[q]?.getD undef=u:=by simpa using hq
 have hr':tmps[r]?.getD undef=v:=by simpa using hr
 simp[results,h,hp',hq',hr']
def M4 (w:World)(r:List Tk.Tok×Nat×Int)(e:Ending)(w':World):Prop:=∃v,e= .returned (.tuple #[v,.int .i64 (r.2.1:Int),.int .i64 r.2.2])/\IsToks w' w.heap.size v r.1/\Below w.heap.size w w'
structure Uy (l:List Int) (w0 wr:World) (i:Nat) (out:List Tk.Tok) (v:Value):Prop where
 hi:i<=l.length
 len:out.length<=i
 toks:IsToks wr w0.heap.size v out
 below:Below w0.heap.size w0 wr
 told:∃f,l.length+1<=f+i/\Tk.goF l (l.length+1) 0 []=Tk.goF l f i out
structure N4 (l:List Int) (w0 wr:World) (out:List Tk.Tok) (v:Value):Prop where
 toks:IsToks wr w0.heap.size v out
 below:Below w0.heap.size w0 wr
 told:Tk.goF l (l.length+1) 0 []=(out,0,0)
theorem Tba (s:ByteArray)(w:World)(hs:s.size<=10000):
 Calls Tryz.prog 24 #[.string s] w (M4 w (Tk.cut s)):=by
 have DEC:=Qd (Iu s w (by omega));have hmay:∀x∈Gl.ints (Gl.dec s 0).1,Gl.may x=true:=by
  intro x hx;unfold Gl.ints at hx;rw[List.mem_map] at hx;obtain⟨n,hn,rfl⟩:=hx;exact Gl.dec_may (s.size+1) 0 (by omega) n hn
 have hlen:(Gl.ints (Gl.dec s 0).1).length<=10000:=by
  unfold Gl.ints;rw[List.length_map];have:=Gl.dec_len (s:=s) (s.size+1) 0 (by omega);omega
 have HR:Hid (∀e w',M4 w (Tk.cutL (Gl.ints (Gl.dec s 0).1) (Gl.dec s 0).2) e w'->M4 w (Tk.cut s) e w'):=Qd (λe w' h=>h);have hbad:Hid (Gl.badI (Gl.dec s 0).2=match(Gl.dec s 0).2 with |none=> -1 |some i=>(i:Int)):=Qd (by cases (Gl.dec s 0).2<;>rfl);generalize Gl.ints (Gl.dec s 0).1=l at*;obtain⟨ob,hob⟩:∃ob,ob=(Gl.dec s 0).2:=⟨_,rfl⟩;rw[<-hob] at DEC HR hbad;obtain⟨bad,hbd⟩:∃bad,bad=Gl.badI ob:=⟨_,rfl⟩;rw[<-hbd] at DEC hbad;clear hob hbd;have HM:=Qd hmay;clear hmay;obtain⟨i0,hi0,hz0,hz1,hz2⟩:=info_parts W6;have CA:=Qd (λx wx=>Dj x wx);go_enter Tryz.func24,Tryz.ntmps24
 go_upto_region 1 with fail
 go_step3
 go_wp2_with fail
 refine DEC.out.mono ?_;rintro e w1 ⟨lv,rfl,⟨A,c,rfl,hc1,hc2,hl⟩,hbw⟩;have HL:=Qd hl;have HBW:=Qd hbw;clear hl hbw;by_cases hbig:2000<l.length
 ·have HRE:Hid (Tk.cutL l ob=([],0,7)):=Qd (by unfold Tk.cutL;rw[if_pos hbig])
  have hbig':(2000:Int)<(l.length:Int):=by omega
  go_wp2_with fail
  rw[Exit.noGoto_ret];refine bodyPost_ret (Mi (by rfl) _ _ _ _ _ (by rfl) (by rfl) (by rfl)) rfl (HR.out _ _ ?_);rw[HRE.out];exact⟨_,rfl,IsToks.nil _ _,HBW.out⟩
 have hbig':¬(2000:Int)<(l.length:Int):=by omega
 have H0:Hid (Uy l w1 w1 0 [] (.slice none 0 0)):=Qd ⟨Nat.zero_le _,Lr,IsToks.nil _ _,Br,l.length+1,by omega,rfl⟩;go_wp2_with fail
 go_step3
 go_upto_block 0 with fail
 go_cut [7,8] from 9 (λx7 x8 wx=>∃out,Hid (N4 l w1 wx out x7))
 case first=>
  go_wp2_with fail
  go_loopw [7,8] (λv iv wr=>∃(i:Nat) (out:List Tk.Tok),iv= .int .i64 (i:Int)/\Hid (Uy l w1 wr i out v)) (λ_ iv _=>l.length-(intOf iv).toNat)
  case atStart=>exact⟨0,[],by go_num,H0⟩
  case round=>
   clear H0;obtain⟨i,out,rfl,HT⟩:=hrel;have hil:=HT.out.hi;by_cases hlt:i<l.length
   ·have hbl:=HT.out.below
    obtain⟨b,off,rfl,hb,g1⟩:=Hb (HL.out.below hbl) hlt;obtain⟨x,hx⟩:∃x,x=l.getD i (-1):=⟨_,rfl⟩;rw[<-Tk.getD_in hlt,<-hx] at g1;have HX:=Qd hx;obtain⟨k,hk⟩:∃k,k=Tk.cls x:=⟨_,rfl⟩;have C1:=Qd (CA.out x wr);rw[<-hk] at C1;have HK:=Qd hk;clear hx hk hb;by_cases k1:k=1
    ·have q1:(k==1)=true:=by rw[k1];rfl
     have HN:Hid (Uy l w1 wr (i+1) out u7):=Qd ⟨hlt,by have:=HT.out.len;omega,HT.out.toks,hbl,by
      obtain⟨f,hf,ht⟩:=HT.out.told;obtain⟨f,rfl⟩:∃g,f=g+1:=⟨f-1,by omega⟩;have hcl:Tk.cls (l.getD i (-1))=1:=by rw[<-HX.out,<-HK.out];exact k1
      exact⟨f,by omega,by rw[ht,Bga hlt (by intro h;rw[h] at hcl;exact absurd hcl (by decide)) hcl]⟩⟩
     clear k1 hbl;go_wp2_with fail
     refine C1.out.mono ?_;rintro e w' ⟨rfl,rfl⟩;go_wp2_with fail
     go_round
     case rel=>exact⟨i+1,out,by go_num,HN⟩
     case measure=>simp[intOf];omega
    have q1:(k==1)=false:=beq_eq_false_iff_ne.2 k1;by_cases x9:x=9053
    ·have q2:(x==9053)=true:=by rw[x9];rfl
     have HE:Hid (N4 l w1 wr out u7):=Qd ⟨HT.out.toks,hbl,by
      obtain⟨f,hf,ht⟩:=HT.out.told;rw[ht,Q9 (.inr (by rw[<-HX.out];exact x9)) (by omega)]⟩
     clear k1 hbl x9;go_wp2_with fail
     refine C1.out.mono ?_;rintro e w' ⟨rfl,rfl⟩;go_wp2_with fail
     go_meet
     exact⟨out,HE⟩
    have q2:(x==9053)=false:=beq_eq_false_iff_ne.2 x9;have hcl:Tk.cls (l.getD i (-1))≠1:=by rw[<-HX.out,<-HK.out];exact k1
    have hx9:l.getD i (-1)≠9053:=by rw[<-HX.out];exact x9
    have NX:=Qd (Kja (some ⟨b,off,none⟩) c l i wr ((HL.out.below hbl).more hbl.size) (by omega) hc1 HM.out hlt hcl);have HBL:=Qd hbl;have HCL:=Qd hcl;have HX9:=Qd hx9;clear k1 x9 hbl hcl hx9;go_wp2_with fail
    refine C1.out.mono ?_;rintro e w' ⟨rfl,rfl⟩;go_wp2_with fail
    refine NX.out.mono ?_;intro e w5 h;obtain⟨r,hr⟩:∃r,r=Tk.read l i:=⟨_,rfl⟩;unfold Vc at h;rw[<-hr] at h;obtain⟨t,n,er⟩:=r;dsimp only at h;obtain⟨en,hen⟩:∃en,en=(if er=0 then i+n else 0):=⟨_,rfl⟩;rw[<-hen] at h;obtain⟨n1,n2,lv,he,h1,h2,h3,h4⟩:=h;have he:e= .returned (.tuple #[.agg #[.int .i64 t.kind,.bool t.n.neg,n1,n2,lv,.string ⟨t.s.toArray⟩,.int .i64 t.c,.int .i64 0],.int .i64 (en:Int),.int .i64 er]):=he;subst he;have h1':=h1;have h2':=h2;obtain⟨A1,c1,rfl,_⟩:=h1';obtain⟨A2,c2,rfl,_⟩:=h2';obtain⟨A3,c3,rfl,_,_⟩:=Kb h3;have HG6:Hid ((w5.alloc (.cells #[.int .i64 0,.bool false,.slice none 0 0,.slice none 0 0,.slice none 0 0,.string ⟨#[]⟩,.int .i64 0,.int .i64 0] 54)).heap[w5.heap.size]? =some (.cells #[.int .i64 0,.bool false,.slice none 0 0,.slice none 0 0,.slice none 0 0,.string ⟨#[]⟩,.int .i64 0,.int .i64 0] 54 (0,0))):=Qd (heap_alloc_new w5 _);obtain⟨W7,hW7⟩:∃W7,W7=(w5.alloc (.cells #[.int .i64 0,.bool false,.slice none 0 0,.slice none 0 0,.slice none 0 0,.string ⟨#[]⟩,.int .i64 0,.int .i64 0] 54)).setRow w5.heap.size #[.int .i64 t.kind,.bool t.n.neg,.slice A1 t.n.top.length c1,.slice A2 t.n.bot.length c2,.slice A3 t.l.length c3,.string ⟨t.s.toArray⟩,.int .i64 t.c,.int .i64 0]:=⟨_,rfl⟩;have hb7:Below w5.heap.size w5 W7:=by rw[hW7];exact rBelow.setRow (Br.alloc Lr _) Lr _
    have hG7:W7.heap[w5.heap.size]? =some (.cells #[.int .i64 t.kind,.bool t.n.neg,.slice A1 t.n.top.length c1,.slice A2 t.n.bot.length c2,.slice A3 t.l.length c3,.string ⟨t.s.toArray⟩,.int .i64 t.c,.int .i64 0] 54 (0,0)):=by rw[hW7];exact Eb HG6.out
    have hS7:w5.heap.size+1<=W7.heap.size:=by rw[hW7,size_setRow];simp
    have HB7:=Qd hb7;have HG7:=Qd hG7;have HS7:=Qd hS7;have HW7:=Qd hW7;clear hb7 hG7 hS7 hW7;have HRD:=Qd hr;have HEN:=Qd hen;have H1:=Qd h1;have H2:=Qd h2;have H3:=Qd h3;have H4:=Qd h4;clear hr hen h1 h2 h3 h4;go_upto_region 11 with(with_reducible refine Hg rfl (.tmp 9) (.tmp 43) rfl w5.heap.size rfl rfl HG6.out ?_)
    rw[<-HW7.out];by_cases e0:er=0
    ·subst e0
     have hc7:W7.cell? ⟨w5.heap.size,7,none⟩=some (.int .i64 0):=(cell_of_row W7 w5.heap.size 7 _ _ _ HG7.out).trans rfl;have hf7:W7.frozen? ⟨w5.heap.size,7,none⟩=false:=by simp[World.frozen?,HG7.out]
     obtain⟨W8,hW8⟩:∃W8,W8=W7.setCell ⟨w5.heap.size,7,none⟩ (.int .i64 (i:Int)):=⟨_,rfl⟩;have HG8:Hid (W8.heap[w5.heap.size]? =some (.cells #[.int .i64 t.kind,.bool t.n.neg,.slice A1 t.n.top.length c1,.slice A2 t.n.bot.length c2,.slice A3 t.l.length c3,.string ⟨t.s.toArray⟩,.int .i64 t.c,.int .i64 (i:Int)] 54 (0,0))):=Qd (by rw[hW8];exact Blk.set_ (w:=W7) (g:=w5.heap.size) (vs:=[.int .i64 t.kind,.bool t.n.neg,.slice A1 t.n.top.length c1,.slice A2 t.n.bot.length c2,.slice A3 t.l.length c3,.string ⟨t.s.toArray⟩,.int .i64 t.c,.int .i64 0]) HG7.out 7 _);have HB8:Hid (Below w5.heap.size w5 W8):=Qd (by rw[hW8];exact HB7.out.setCell Lr _);have HW8:=Qd hW8;clear hW8;go_upto_region 14 with fail
     rw[<-HW8.out];have HAT:Hid (t.at_=i):=Qd (by
      have h:=(Tk.read_ok (l:=l) (i:=i) (by rw[<-HRD.out])).2;rw[<-HRD.out] at h;exact h)
     have HEN2:Hid (en=i+n/\1<=n/\i+n<=l.length):=Qd (by
      have h:=Tk.read_len (l:=l) (i:=i) hlt (by rw[<-HRD.out]);rw[<-HRD.out] at h;exact⟨by rw[HEN.out,if_pos rfl],h⟩)
     obtain⟨xs,t1,t2⟩:=HT.out.toks;have hown9:(W8.alloc (.cells #[.int .i64 t.kind,.bool t.n.neg,.slice A1 t.n.top.length c1,.slice A2 t.n.bot.length c2,.slice A3 t.l.length c3,.string ⟨t.s.toArray⟩,.int .i64 t.c,.int .i64 (i:Int)] 54)).ownsQ Fo w1.heap.size 54 8 u7 out.length xs:=Zi (Zi (Zi t1 H4.out) HB8.out) (Br.alloc Lr _);have r9:TokRows (W8.alloc (.cells #[.int .i64 t.kind,.bool t.n.neg,.slice A1 t.n.top.length c1,.slice A2 t.n.bot.length c2,.slice A3 t.l.length c3,.string ⟨t.s.toArray⟩,.int .i64 t.c,.int .i64 (i:Int)] 54)) out xs:=((t2.below H4.out).below HB8.out).below (Br.alloc Lr _);have b9:Below w1.heap.size w1 (W8.alloc (.cells #[.int .i64 t.kind,.bool t.n.neg,.slice A1 t.n.top.length c1,.slice A2 t.n.bot.length c2,.slice A3 t.l.length c3,.string ⟨t.s.toArray⟩,.int .i64 t.c,.int .i64 (i:Int)] 54)):=((HBL.out.trans (H4.out.mono HBL.out.size)).trans (HB8.out.mono (Nat.le_trans HBL.out.size H4.out.size))).alloc (Nat.le_trans HBL.out.size (Nat.le_trans H4.out.size HB8.out.size)) _;have k1:=(H1.out.below_ HB8.out).below_ (w':=W8.alloc (.cells #[.int .i64 t.kind,.bool t.n.neg,.slice A1 t.n.top.length c1,.slice A2 t.n.bot.length c2,.slice A3 t.l.length c3,.string ⟨t.s.toArray⟩,.int .i64 t.c,.int .i64 (i:Int)] 54)) (Br.alloc Lr _);have k2:=(H2.out.below_ HB8.out).below_ (w':=W8.alloc (.cells #[.int .i64 t.kind,.bool t.n.neg,.slice A1 t.n.top.length c1,.slice A2 t.n.bot.length c2,.slice A3 t.l.length c3,.string ⟨t.s.toArray⟩,.int .i64 t.c,.int .i64 (i:Int)] 54)) (Br.alloc Lr _);have k3:=Bk (Bk H3.out HB8.out) (w':=W8.alloc (.cells #[.int .i64 t.kind,.bool t.n.neg,.slice A1 t.n.top.length c1,.slice A2 t.n.bot.length c2,.slice A3 t.l.length c3,.string ⟨t.s.toArray⟩,.int .i64 t.c,.int .i64 (i:Int)] 54)) (Br.alloc Lr _);have OWN9:=Qd hown9;have R9:=Qd r9;have B9:=Qd b9;have K1:=Qd k1;have K2:=Qd k2;have K3:=Qd k3;have hol:=HT.out.len;clear t1 t2 hown9 r9 b9 k1 k2 k3;go_wp2_with (first|(with_reducible refine M9 rfl (.tmp 9) rfl w5.heap.size rfl HG8.out ?_) |(at_builtin;refine Uo _ rfl _ _ 45 rfl Fo w1.heap.size 54 i0 _ 8 120 Tryz.underlying45 hi0 hz0 hz1 hz2 rfl (by decide) Mja _ _ xs rfl OWN9.out ⟨_,0,none⟩ 1 1 (Ge t.kind t.n.neg (.slice A1 t.n.top.length c1) (.slice A2 t.n.bot.length c2) (.slice A3 t.l.length c3) t.s t.c (i:Int)) rfl rfl (Zh _ _ _) (by intro u hu;unfold Ge at hu;simp only[List.mem_cons,List.not_mem_nil,or_false] at hu;rcases hu with rfl |rfl |rfl |rfl |rfl |rfl |rfl |rfl<;>rfl) (Sp _ _ K1.out.noU K2.out.noU (Lma K3.out) _ _ _) (by unfold maxLen;omega) (by omega) B9.out.size ?_;intro v' w10 hown' hgr hnil hat))
     have hk1:=K1.out.grownQ OWN9.out hgr;have hk2:=K2.out.grownQ OWN9.out hgr;have hk3:=Hr K3.out OWN9.out (by decide) hgr;have hr1:=R9.out.grown OWN9.out (by decide) hgr;have hb1:=B9.out.grown hgr B9.out.size (λk hk=>(OWN9.out.own.lt k hk).1);have hsn:=TokRows.snoc hk1 hk2 hk3 hr1;have HN:Hid (Uy l w1 w10 en (out++[t]) v'):=Qd
      { hi:=by rw[HEN2.out.1];exact HEN2.out.2.2
        len:=by rw[List.length_append,HEN2.out.1];have:=HEN2.out.2.1;simp only[List.length_cons,List.length_nil];omega
        toks:=⟨_,by
         have h:=hown';rw[List.length_append];exact h,by
         have h:=hsn;rw[HAT.out] at h;exact h⟩
        below:=hb1
        told:=by
         obtain⟨f,hf,ht⟩:=HT.out.told;obtain⟨f,rfl⟩:∃g,f=g+1:=⟨f-1,by omega⟩;refine⟨f,by rw[HEN2.out.1];have:=HEN2.out.2.1;omega,?_⟩;rw[ht,Lja hlt HX9.out HCL.out (by rw[<-HRD.out]),<-HRD.out,HEN2.out.1]}
     have hme:i<en/\en<=l.length:=by rw[HEN2.out.1];have:=HEN2.out.2;omega
     clear hk1 hk2 hk3 hr1 hb1 hsn hown' hgr hnil hat;go_wp2_with fail
     go_round
     case rel=>exact⟨en,out++[t],rfl,HN⟩
     case measure=>simp[intOf];omega
    have q3:(er !=0)=true:=by rw[bne_iff_ne];exact e0
    have HRE:Hid (Tk.cutL l ob=([],i,er)):=Qd (by
     obtain⟨f,hf,ht⟩:=HT.out.told;rw[Mma hlt HX9.out HCL.out (by rw[<-HRD.out];exact e0) (by omega),<-HRD.out] at ht;unfold Tk.cutL;rw[if_neg hbig,ht,if_pos e0])
    clear e0;go_wp2_with fail
    rw[Exit.noGoto_ret];refine bodyPost_ret (Mi (by rfl) _ _ _ _ _ (by rfl) (by rfl) (by rfl)) rfl (HR.out _ _ ?_);rw[HRE.out];exact⟨_,rfl,IsToks.nil _ _,((HBW.out.trans (HBL.out.mono HBW.out.size)).trans (H4.out.mono (Nat.le_trans HBW.out.size HBL.out.size))).trans (HB7.out.mono (Nat.le_trans HBW.out.size (Nat.le_trans HBL.out.size H4.out.size)))⟩
   have HE:Hid (N4 l w1 wr out u7):=Qd ⟨HT.out.toks,HT.out.below,by
    obtain⟨f,hf,ht⟩:=HT.out.told;rw[ht,Q9 (.inl (by omega)) (by omega)]⟩
   have hme:¬((i:Int)<(l.length:Int)):=by omega
   go_wp2_with fail
   go_meet
   exact⟨out,HE⟩
 case rest=>
  obtain⟨out,HE⟩:=hcut;cases ob with
  |none=>
   have hbad':bad= -1:=hbad.out;subst hbad';have HRE:Hid (Tk.cutL l none=(out,0,0)):=Qd (by
    unfold Tk.cutL;rw[if_neg hbig,HE.out.told];rfl)
   go_wp2_with fail
   refine bodyPost_ret (Mi (by rfl) _ _ _ _ _ (by rfl) (by rfl) (by rfl)) rfl (HR.out _ _ ?_);rw[HRE.out];obtain⟨xs,t1,t2⟩:=HE.out.toks;exact⟨_,rfl,⟨xs,t1.mono HBW.out.size,t2⟩,HBW.out.trans (HE.out.below.mono HBW.out.size)⟩
  |some p=>
   have hbad':bad=(p:Int):=hbad.out;subst hbad';have HRE:Hid (Tk.cutL l (some p)=([],l.length,1)):=Qd (by
    unfold Tk.cutL;rw[if_neg hbig,HE.out.told];rfl)
   have hp:(0:Int)<=(p:Int):=by omega
   go_wp2_with fail
   refine bodyPost_ret (Mi (by rfl) _ _ _ _ _ (by rfl) (by rfl) (by rfl)) rfl (HR.out _ _ ?_);rw[HRE.out];exact⟨_,rfl,IsToks.nil _ _,HBW.out.trans (HE.out.below.mono HBW.out.size)⟩
theorem TokRows.get {w:World}:∀{ts:List Tk.Tok} {xs:List Value},TokRows w ts xs->∀(j:Nat) (hj:j<ts.length),∃n1 n2 lv pre post,xs=pre++(Ge ts[j].kind ts[j].n.neg n1 n2 lv ts[j].s ts[j].c ts[j].at_++post)/\pre.length=j*8/\IsRes w n1 ts[j].n.top/\IsRes w n2 ts[j].n.bot/\w.ownsRow 0 3 1 lv ts[j].l.length (Sa ts[j].l)
 | [],xs,h,j,hj=>absurd hj (Nat.not_lt_zero _)
 |t::ts,xs,h,0,hj=>by
  obtain⟨n1,n2,lv,r,rfl,h1,h2,h3,hr⟩:=h;exact⟨n1,n2,lv,[],r,rfl,rfl,h1,h2,h3⟩
 |t::ts,xs,h,j+1,hj=>by
  obtain⟨n1,n2,lv,r,rfl,h1,h2,h3,hr⟩:=h;obtain⟨m1,m2,mv,pre,post,rfl,hp,k1,k2,k3⟩:=hr.get j (by simpa using hj);refine⟨m1,m2,mv,Ge t.kind t.n.neg n1 n2 lv t.s t.c t.at_++pre,post,by simp only[List.append_assoc,List.getElem_cons_succ],?_,k1,k2,k3⟩;rw[List.length_append,hp];show 8+_=_;omega
theorem IsToks.open_ {w:World}{base:Nat}{v:Value}{ts:List Tk.Tok}(h:IsToks w base v ts):∃A c,v= .slice A ts.length c/\ts.length<=c/\c<=maxLen/\
 ∀(j:Nat) (hj:j<ts.length),∃g n1 n2 lv,A=some ⟨g,0,none⟩/\g<w.heap.size/\base<=g/\w.rangeAt g (j*8) (Ge ts[j].kind ts[j].n.neg n1 n2 lv ts[j].s ts[j].c ts[j].at_)/\IsRes w n1 ts[j].n.top/\IsRes w n2 ts[j].n.bot/\w.ownsRow 0 3 1 lv ts[j].l.length (Sa ts[j].l):=by
 obtain⟨xs,ho,hr⟩:=h;obtain⟨A,c,hv,hc1,hc2⟩:=Kb ho.own;refine⟨A,c,hv,hc1,hc2,λj hj=>?_⟩;obtain⟨n1,n2,lv,pre,post,hx,hp,k1,k2,k3⟩:=hr.get j hj;rcases ho.own.2 with⟨hv',h0⟩ |⟨g,cap,cur,hv',hb,hg,_⟩
 ·omega
 rw[hv] at hv';injection hv' with e1 _ _
 refine⟨g,n1,n2,lv,e1,(Array.getElem?_eq_some_iff.1 hg).1,hb,λk u hu=>?_,k1,k2,k3⟩;have hc:=ho.own.cells (g:=g) (by rw[hv,e1];rfl) (j*8+k) u (by
  rw[hx,List.getElem?_append_right (by omega),hp,show j*8+k-j*8=k by omega];rw[List.getElem?_append_left (List.getElem?_eq_some_iff.1 hu).1];exact hu)
 rw[Addr.add_mid] at hc;rw[Nat.zero_add] at hc;exact hc
section
open Go.RowKit Tr
def Hm (w:World)(r:Int)(e:Ending)(w':World):Prop:=e= .returned (.int .i64 r)/\Below w.heap.size w w'
def La (w:World)(r:Bool)(e:Ending)(w':World):Prop:=e= .returned (.bool r)/\Below w.heap.size w w'
mutual
theorem S9:∀(t:Tree) (d:Nat) (n:Int),0<=n->Jg t d n<=n
 | .mk k o m nm t l,d,n,h=>by
  unfold Jg;by_cases hd:d=0
  ·rw[if_pos hd];omega
  rw[if_neg hd];have:=O4 l (d-1) (n-1-((t.length/8:Nat):Int));omega
theorem O4:∀(l:List Tree) (d:Nat) (n:Int),Je l d n<=n
 | [],d,n=>by unfold Je;exact Int.le_refl _
 |t::r,d,n=>by
  unfold Je;by_cases hn:n<0
  ·rw[if_pos hn];exact Int.le_refl _
  rw[if_neg hn];have h1:=S9 t d n (by omega);have h2:=O4 r d (Jg t d n);omega
end
theorem Uba (n:Nat):∀(a:Tree) (vs:List Value) (d:Nat) (x:Int) (w:World) (B:Nat),SizeOf.sizeOf a<n->IsTree w B a vs->B<=w.heap.size->d<=60->0<=x->x<=3000->
 Calls Tryz.prog 18 #[.agg vs.toArray,.int .i64 (d:Int),.int .i64 x] w (Hm w (Jg a d x)):=by
 induction n with
 |zero=>intro a vs d x w B h;omega
 |succ n ih=>
  intro a vs d x w B hn h hB hd hx0 hx1;obtain⟨k,o,m,nm,t,l⟩:=a;obtain⟨W,hW⟩:∃W,W=w.alloc (.cells vs.toArray 28):=⟨_,rfl⟩;obtain⟨A1,A2,A3,A4,c1,c2,c3,c4,us,HO,HL,HC,hW8,HG,hWl,hWb⟩:=Vb h hW;have hf3:=HO.out.f3.le (by omega);have hf4:=HO.out.f4.le (by omega);have HSZ:∀(i:Nat) (hi:i<l.length),SizeOf.sizeOf l[i]<n:=λi hi=>by have:=Vg (k:=k) (o:=o) (m:=m) (n:=nm) (t:=t) hi;omega
  replace HSZ:=Qd HSZ;have HR:Hid (d≠0->Jg (.mk k o m nm t l) d x=Je l (d-1) (x-1-((t.length/8:Nat):Int))):=Qd (λh0=>by rw[Jg,if_neg h0]);have HR0:Hid (d=0->Jg (.mk k o m nm t l) d x= -1):=Qd (λh0=>by rw[Jg,if_pos h0]);generalize Jg (.mk k o m nm t l) d x=R at*;clear h hn;have q6:W.cell? ⟨w.heap.size,6,none⟩=some (.slice A3 t.length c3):=hW8.p6;have q7:W.cell? ⟨w.heap.size,7,none⟩=some (.slice A4 l.length c4):=hW8.p7;have HQ:=Qd q7;have HKB:Hid (∀wx,Below W.heap.size W wx->∀p:Addr,p.block<B->wx.cell? p=w.cell? p):=Qd (λwx hx p hp=>by rw[hx.cell (by omega),hWb.cell (by omega)]);have HWB:=Qd hWb;have HWS:Hid (w.heap.size<=W.heap.size):=Qd (by omega);have HW:=Qd hW;clear hW8 HO hWb hW;by_cases hd0:d=0
  ·have HZ:=Qd (HR0.out hd0)
   subst hd0;go_enter Tryz.func18,Tryz.ntmps18
   go_upto_region 1 with fail
   rw[<-HW.out];go_wp2_with fail
   go_ret;exact⟨Ra (by rw[HZ.out]),HWB.out⟩
  have HZ:=Qd (HR.out hd0);clear HR HR0;have q1:((d:Int)==0)=false:=beq_eq_false_iff_ne.2 (by omega);obtain⟨m0,hm0⟩:∃m0:Int,m0=x-1-(t.length:Int)/8:=⟨_,rfl⟩;rw[show((t.length/8:Nat):Int)=(t.length:Int)/8 from rfl,<-hm0] at HZ;have hm1:m0<=3000:=by omega
  have q2:IntKind.i64.wrap ((d:Int)-1)=((d-1:Nat):Int):=by rw[show(d:Int)-1=((d-1:Nat):Int) by omega];exact IntWalk.i64_in _ (by omega)
  go_enter Tryz.func18,Tryz.ntmps18
  go_upto_region 1 with fail
  rw[<-HW.out];go_wp2_with fail
  go_loopw [7,2] (λi m wr=>∃(j:Nat) (y:Int),j<=l.length/\i= .int .i64 j/\m= .int .i64 y/\y<=3000/\Hid (R=Je (l.drop j) (d-1) y)/\Below W.heap.size W wr) (λi _ _=>l.length-(intOf i).toNat)
  case atStart=>exact⟨0,m0,Nat.zero_le _,rfl,by rw[hm0],hm1,HZ,Br⟩
  case round=>
   clear HZ hm0 q6;obtain⟨j,y,hj,rfl,rfl,hy,HY,hbel⟩:=hrel;have hbox:wr.cell? ⟨w.heap.size,7,none⟩=some (.slice A4 l.length c4):=(hbel.cell (p:=⟨w.heap.size,7,none⟩) hWl).trans HQ.out;by_cases hy0:y<0
   ·have HE:Hid (R=y):=Qd (HY.out.trans (Aea _ _ _ hy0))
    have g1:¬(0:Int)<=y:=by omega
    clear hy0;by_cases hlt:j<l.length
    all_goals
     go_wp2_with fail
     go_ret;exact⟨Ra (by rw[HE.out]),HWB.out.trans (hbel.mono HWS.out)⟩
   have g1:(0:Int)<=y:=by omega
   by_cases hlt:j<l.length
   ·obtain⟨b,off,tv,rfl,hb,HT,HR⟩:=Dd HC.out HL.out (HKB.out wr hbel) hlt
    have HN:Hid (R=Je (l.drop (j+1)) (d-1) (Jg l[j] (d-1) y)):=Qd (HY.out.trans (Saa hlt _ _ (by omega)));have hup:=S9 l[j] (d-1) y (by omega);have IH:=Qd (ih l[j] _ (d-1) y wr B (HSZ.out j hlt) (HT.out.keep (HKB.out wr hbel) Lr) (by have:=hbel.size;omega) (by omega) (by omega) hy);have HI:=Qd (Fc HT.out);generalize Jg l[j] (d-1) y=z at*;clear HY HT;go_wp2_with (with_reducible refine Gc rfl (.tmp 31) rfl b (off+j*8) rfl tv HR.out HI.out ?_)
    refine IH.out.mono ?_;rintro e w2 ⟨rfl,hb2⟩;have hb3:=hbel.trans (hb2.mono hbel.size);go_wp2_with fail
    go_roundw
    case rel=>exact⟨j+1,z,by omega,by go_num,rfl,by omega,HN,hb3⟩
    case measure=>simp[intOf];omega
   have HE:Hid (R=y):=Qd (by rw[HY.out,List.drop_eq_nil_of_le (by omega),Je]);go_wp2_with fail
   go_ret;exact⟨Ra (by rw[HE.out]),HWB.out.trans (hbel.mono HWS.out)⟩
theorem Cga (a:Tree)(vs:List Value)(w:World)(B:Nat)(h:IsTree w B a vs)(hB:B<=w.heap.size):
 Calls Tryz.prog 7 #[.agg vs.toArray] w (La w (few a)):=by
 have L:=Qd (Uba _ a vs 60 3000 (w.alloc (.cells vs.toArray 28)) B (Nat.lt_succ_self _) (h.below ((Br.alloc Lr _).mono hB)) (by simp;omega) (by omega) (by omega) (by omega));have HR:Hid (few a=decide (0<=Jg a 60 3000)):=Qd rfl;have HI:=Qd (Cb h);generalize Jg a 60 3000=z at*;generalize few a=R at*;have HG:=Qd (heap_alloc_new w (.cells vs.toArray 28));clear h;go_enter Tryz.func7,Tryz.ntmps7
 go_wp2_with (with_reducible refine Wh (.tmp 1) rfl rfl w.heap.size rfl HG.out HI.out ?_)
 refine L.out.mono ?_;rintro e w2 ⟨rfl,hb2⟩;go_wp2_with fail
 go_ret;exact⟨Aa HR.out.symm,(Br.alloc Lr _).trans (hb2.mono (by simp))⟩
end
section
open Go.RowKit Tr
mutual
theorem Ul:∀t:Tree,depth t<=count t
 | .mk k o m n t l=>by unfold depth count;have:=Ho l;omega
theorem Ho:∀l:List Tree,Lb l<=Bb l
 | []=>by unfold Lb Bb;omega
 |t::r=>by unfold Lb Bb;have:=Ul t;have:=Ho r;omega
end
theorem Ir:∀(l:List Tree) (k:Nat),Bb (l.take k)<=Bb l
 | [],k=>by simp[Bb]
 |t::r,0=>by simp[Bb]
 |t::r,k+1=>by rw[List.take_succ_cons,Bb,Bb];have:=Ir r k;omega
theorem Jr:∀(l:List Tree) (k:Nat),Lb (l.take k)<=Lb l
 | [],k=>by simp[Lb]
 |t::r,0=>by simp[Lb]
 |t::r,k+1=>by rw[List.take_succ_cons,Lb,Lb];have:=Jr r k;omega
theorem Kr:∀(l:List Tree) (t:Tree),Lb (l++[t])=max (Lb l) (depth t)
 | [],t=>by simp[Lb]
 |a::r,t=>by rw[List.cons_append,Lb,Lb,Kr r t];omega
theorem Mr:∀(l:List Tree) (t:Tree),Bb (l++[t])=Bb l+count t
 | [],t=>by simp[Bb]
 |a::r,t=>by rw[List.cons_append,Bb,Bb,Mr r t];omega
theorem X6 {l:List Tree}{k:Nat}(h:k<l.length):Lb (l.take (k+1))=max (Lb (l.take k)) (depth l[k]):=by rw[List.take_succ_eq_append_getElem h,Kr]
theorem Y6 {l:List Tree}{k:Nat}(h:k<l.length):Bb (l.take (k+1))=Bb (l.take k)+count l[k]:=by rw[List.take_succ_eq_append_getElem h,Mr]
theorem Z6 (n:Nat):∀(a:Tree) (vs:List Value) (w:World) (B:Nat),SizeOf.sizeOf a<n->IsTree w B a vs->B<=w.heap.size->count a<=1000000->
 Calls Tryz.prog 27 #[.agg vs.toArray] w (Hm w (depth a:Int)):=by
 induction n with
 |zero=>intro a vs w B h;omega
 |succ n ih=>
  intro a vs w B hn h hB hct;obtain⟨k,o,m,nm,t,l⟩:=a;obtain⟨W,hW⟩:∃W,W=w.alloc (.cells vs.toArray 28):=⟨_,rfl⟩;obtain⟨A1,A2,A3,A4,c1,c2,c3,c4,us,HO,HL,HC,hW8,HG,hWl,hWb⟩:=Vb h hW;have hf4:=HO.out.f4.le (by omega);have HSZ:∀(i:Nat) (hi:i<l.length),SizeOf.sizeOf l[i]<n/\count l[i]<=1000000:=λi hi=>⟨by have:=Vg (k:=k) (o:=o) (m:=m) (n:=nm) (t:=t) hi;omega,by have:=Pw (k:=k) (o:=o) (m:=m) (n:=nm) (t:=t) hi;omega⟩;replace HSZ:=Qd HSZ;have HR:Hid (depth (.mk k o m nm t l)=Lb l+1):=Qd (by rw[depth]);have HDB:∀j,Lb (l.take j)<=1000000:=λj=>by have h1:=Jr l j;have h2:=Ul (.mk k o m nm t l);rw[depth] at h2;omega
  replace HDB:=Qd HDB;generalize depth (.mk k o m nm t l)=R at*;have q7:W.cell? ⟨w.heap.size,7,none⟩=some (.slice A4 l.length c4):=hW8.p7;have HQ:=Qd q7;have HKB:Hid (∀wx,Below W.heap.size W wx->∀p:Addr,p.block<B->wx.cell? p=w.cell? p):=Qd (λwx hx p hp=>by rw[hx.cell (by omega),hWb.cell (by omega)]);have HWB:=Qd hWb;have HWS:Hid (w.heap.size<=W.heap.size):=Qd (by omega);have HW:=Qd hW;clear hW8 HO hWb hW h hn q7 hct;go_enter Tryz.func27,Tryz.ntmps27
  go_upto_region 1 with fail
  rw[<-HW.out];go_wp2_with fail
  go_loopw [4,3] (λi m wr=>∃(j d:Nat),j<=l.length/\i= .int .i64 j/\m= .int .i64 d/\Hid (d=Lb (l.take j))/\Below W.heap.size W wr) (λi _ _=>l.length-(intOf i).toNat)
  case atStart=>exact⟨0,0,Nat.zero_le _,rfl,rfl,Qd (by simp[Lb]),Br⟩
  case round=>
   obtain⟨j,d,hj,rfl,rfl,HD,hbel⟩:=hrel;have hbox:wr.cell? ⟨w.heap.size,7,none⟩=some (.slice A4 l.length c4):=(hbel.cell (p:=⟨w.heap.size,7,none⟩) hWl).trans HQ.out;have hd1:d<=1000000:=by rw[HD.out];exact HDB.out j
   by_cases hlt:j<l.length
   ·obtain⟨b,off,tv,rfl,hb,HT,HR2⟩:=Dd HC.out HL.out (HKB.out wr hbel) hlt
    have HN:Hid (Lb (l.take (j+1))=max d (depth l[j])):=Qd (by rw[HD.out];exact X6 hlt);have IH:=Qd (ih l[j] _ wr B (HSZ.out j hlt).1 (HT.out.keep (HKB.out wr hbel) Lr) (by have:=hbel.size;omega) (HSZ.out j hlt).2);have HI:=Qd (Fc HT.out);generalize depth l[j]=z at*;clear HT HD;go_wp2_with (with_reducible refine Gc rfl (.tmp 16) rfl b (off+j*8) rfl tv HR2.out HI.out ?_)
    refine IH.out.mono ?_;rintro e w2 ⟨rfl,hb2⟩;have hb3:=hbel.trans (hb2.mono hbel.size);by_cases hgt:d<z
    ·go_wp2_with fail
     go_roundw
     case rel=>exact⟨j+1,z,by omega,by go_num,rfl,Qd (by rw[HN.out];omega),hb3⟩
     case measure=>simp[intOf];omega
    go_wp2_with fail
    go_roundw
    case rel=>exact⟨j+1,d,by omega,by go_num,rfl,Qd (by rw[HN.out];omega),hb3⟩
    case measure=>simp[intOf];omega
   have HE:Hid (R=d+1):=Qd (by rw[HR.out,HD.out,List.take_of_length_le (by omega)]);go_wp2_with fail
   go_ret;exact⟨Ra (by rw[HE.out];omega),HWB.out.trans (hbel.mono HWS.out)⟩
theorem A7 (n:Nat):∀(a:Tree) (vs:List Value) (w:World) (B:Nat),SizeOf.sizeOf a<n->IsTree w B a vs->B<=w.heap.size->count a<=1000000->
 Calls Tryz.prog 28 #[.agg vs.toArray] w (Hm w (count a:Int)):=by
 induction n with
 |zero=>intro a vs w B h;omega
 |succ n ih=>
  intro a vs w B hn h hB hct;obtain⟨k,o,m,nm,t,l⟩:=a;obtain⟨W,hW⟩:∃W,W=w.alloc (.cells vs.toArray 28):=⟨_,rfl⟩;obtain⟨A1,A2,A3,A4,c1,c2,c3,c4,us,HO,HL,HC,hW8,HG,hWl,hWb⟩:=Vb h hW;have hf4:=HO.out.f4.le (by omega);have HSZ:∀(i:Nat) (hi:i<l.length),SizeOf.sizeOf l[i]<n/\count l[i]<=1000000:=λi hi=>⟨by have:=Vg (k:=k) (o:=o) (m:=m) (n:=nm) (t:=t) hi;omega,by have:=Pw (k:=k) (o:=o) (m:=m) (n:=nm) (t:=t) hi;omega⟩;replace HSZ:=Qd HSZ;have HR:Hid (count (.mk k o m nm t l)=Bb l+1):=Qd (by rw[count]);have hcl:count (.mk k o m nm t l)=Bb l+1:=by rw[count]
  have HDB:∀j,Bb (l.take j)<=1000000:=λj=>by have h1:=Ir l j;omega
  replace HDB:=Qd HDB;clear hcl;generalize count (.mk k o m nm t l)=R at*;have q7:W.cell? ⟨w.heap.size,7,none⟩=some (.slice A4 l.length c4):=hW8.p7;have HQ:=Qd q7;have HKB:Hid (∀wx,Below W.heap.size W wx->∀p:Addr,p.block<B->wx.cell? p=w.cell? p):=Qd (λwx hx p hp=>by rw[hx.cell (by omega),hWb.cell (by omega)]);have HWB:=Qd hWb;have HWS:Hid (w.heap.size<=W.heap.size):=Qd (by omega);have HW:=Qd hW;clear hW8 HO hWb hW h hn q7 hct;go_enter Tryz.func28,Tryz.ntmps28
  go_upto_region 1 with fail
  rw[<-HW.out];go_wp2_with fail
  go_loopw [4,3] (λi m wr=>∃(j d:Nat),j<=l.length/\i= .int .i64 j/\m= .int .i64 ((d:Int)+1)/\Hid (d=Bb (l.take j))/\Below W.heap.size W wr) (λi _ _=>l.length-(intOf i).toNat)
  case atStart=>exact⟨0,0,Nat.zero_le _,rfl,rfl,Qd (by simp[Bb]),Br⟩
  case round=>
   obtain⟨j,d,hj,rfl,rfl,HD,hbel⟩:=hrel;have hbox:wr.cell? ⟨w.heap.size,7,none⟩=some (.slice A4 l.length c4):=(hbel.cell (p:=⟨w.heap.size,7,none⟩) hWl).trans HQ.out;have hd1:d<=1000000:=by rw[HD.out];exact HDB.out j
   by_cases hlt:j<l.length
   ·obtain⟨b,off,tv,rfl,hb,HT,HR2⟩:=Dd HC.out HL.out (HKB.out wr hbel) hlt
    have HN:Hid (Bb (l.take (j+1))=d+count l[j]):=Qd (by rw[HD.out];exact Y6 hlt);have IH:=Qd (ih l[j] _ wr B (HSZ.out j hlt).1 (HT.out.keep (HKB.out wr hbel) Lr) (by have:=hbel.size;omega) (HSZ.out j hlt).2);have hz1:=(HSZ.out j hlt).2;have HI:=Qd (Fc HT.out);generalize count l[j]=z at*;clear HT HD;go_wp2_with (with_reducible refine Gc rfl (.tmp 16) rfl b (off+j*8) rfl tv HR2.out HI.out ?_)
    refine IH.out.mono ?_;rintro e w2 ⟨rfl,hb2⟩;have hb3:=hbel.trans (hb2.mono hbel.size);go_wp2_with fail
    go_roundw
    case rel=>exact⟨j+1,d+z,by omega,by go_num,by congr 1;omega,Qd (by rw[HN.out]),hb3⟩
    case measure=>simp[intOf];omega
   have HE:Hid (R=d+1):=Qd (by rw[HR.out,HD.out,List.take_of_length_le (by omega)]);go_wp2_with fail
   go_ret;exact⟨Ra (by rw[HE.out];omega),HWB.out.trans (hbel.mono HWS.out)⟩
end
section
open Go.RowKit Tr
def Qh (w:World)(r:Bool)(e:Ending)(w':World):Prop:=e= .returned (.bool r)/\w=w'
theorem Ex (k:Int):array k=decide (1<=k/\k<=16/\k≠10):=by unfold array;rw[Bool.eq_iff_iff];simp;omega
theorem Nja (k:Int):item k=decide (1<=k/\k<=9/\k≠8):=by unfold item;rw[Bool.eq_iff_iff];simp;omega
theorem Q4 (k:Int):func k=decide (17<=k/\k<=24):=by unfold func;rw[Bool.eq_iff_iff];simp
theorem Fx (k:Int):plain k=decide (17<=k/\k<=21):=by unfold plain;rw[Bool.eq_iff_iff];simp
theorem R4 (k:Int):port k=decide (0<=k/\k<8):=by unfold port;rw[Bool.eq_iff_iff];simp
theorem Vl (k:Int)(w:World):Calls Tryz.prog 49 #[.int .i64 k] w (Qh w (array k)):=by
 have HE:=Qd (Ex k);generalize array k=R at*;by_cases h0:1<=k
 ·by_cases h1:k<=16
  ·by_cases h2:k=10
   ·have HF:Hid (R=false):=Qd (by rw[HE.out];exact decide_eq_false (by omega))
    subst h2;go_enter Tryz.func49,Tryz.ntmps49
    go_wp2_with fail
    go_ret;exact⟨Aa (by rw[HF.out]),rfl⟩
   have q2:(k !=10)=true:=bne_iff_ne.2 h2;have HF:Hid (R=true):=Qd (by rw[HE.out];exact decide_eq_true (by omega));go_enter Tryz.func49,Tryz.ntmps49
   go_wp2_with fail
   go_ret;exact⟨Aa (by rw[HF.out]),rfl⟩
  have HF:Hid (R=false):=Qd (by rw[HE.out];exact decide_eq_false (by omega));go_enter Tryz.func49,Tryz.ntmps49
  go_wp2_with fail
  go_ret;exact⟨Aa (by rw[HF.out]),rfl⟩
 have HF:Hid (R=false):=Qd (by rw[HE.out];exact decide_eq_false (by omega));go_enter Tryz.func49,Tryz.ntmps49
 go_wp2_with fail
 go_ret;exact⟨Aa (by rw[HF.out]),rfl⟩
theorem Lj (k:Int)(w:World):Calls Tryz.prog 74 #[.int .i64 k] w (Qh w (array k)):=by
 have HE:=Qd (Ex k);generalize array k=R at*;by_cases h0:1<=k
 ·by_cases h1:k<=16
  ·by_cases h2:k=10
   ·have HF:Hid (R=false):=Qd (by rw[HE.out];exact decide_eq_false (by omega))
    subst h2;go_enter Tryz.func74,Tryz.ntmps74
    go_wp2_with fail
    go_ret;exact⟨Aa (by rw[HF.out]),rfl⟩
   have q2:(k !=10)=true:=bne_iff_ne.2 h2;have HF:Hid (R=true):=Qd (by rw[HE.out];exact decide_eq_true (by omega));go_enter Tryz.func74,Tryz.ntmps74
   go_wp2_with fail
   go_ret;exact⟨Aa (by rw[HF.out]),rfl⟩
  have HF:Hid (R=false):=Qd (by rw[HE.out];exact decide_eq_false (by omega));go_enter Tryz.func74,Tryz.ntmps74
  go_wp2_with fail
  go_ret;exact⟨Aa (by rw[HF.out]),rfl⟩
 have HF:Hid (R=false):=Qd (by rw[HE.out];exact decide_eq_false (by omega));go_enter Tryz.func74,Tryz.ntmps74
 go_wp2_with fail
 go_ret;exact⟨Aa (by rw[HF.out]),rfl⟩
theorem Oja (k:Int)(w:World):Calls Tryz.prog 129 #[.int .i64 k] w (Qh w (item k)):=by
 have HE:=Qd (Nja k);generalize item k=R at*;by_cases h0:1<=k
 ·by_cases h1:k<=9
  ·by_cases h2:k=8
   ·have HF:Hid (R=false):=Qd (by rw[HE.out];exact decide_eq_false (by omega))
    subst h2;go_enter Tryz.func129,Tryz.ntmps129
    go_wp2_with fail
    go_ret;exact⟨Aa (by rw[HF.out]),rfl⟩
   have q2:(k !=8)=true:=bne_iff_ne.2 h2;have HF:Hid (R=true):=Qd (by rw[HE.out];exact decide_eq_true (by omega));go_enter Tryz.func129,Tryz.ntmps129
   go_wp2_with fail
   go_ret;exact⟨Aa (by rw[HF.out]),rfl⟩
  have HF:Hid (R=false):=Qd (by rw[HE.out];exact decide_eq_false (by omega));go_enter Tryz.func129,Tryz.ntmps129
  go_wp2_with fail
  go_ret;exact⟨Aa (by rw[HF.out]),rfl⟩
 have HF:Hid (R=false):=Qd (by rw[HE.out];exact decide_eq_false (by omega));go_enter Tryz.func129,Tryz.ntmps129
 go_wp2_with fail
 go_ret;exact⟨Aa (by rw[HF.out]),rfl⟩
theorem Ou (k:Int)(w:World):Calls Tryz.prog 146 #[.int .i64 k] w (Qh w (func k)):=by
 have HE:=Qd (Q4 k);generalize func k=R at*;by_cases h0:17<=k
 ·by_cases h1:k<=24
  ·have HF:Hid (R=true):=Qd (by rw[HE.out];exact decide_eq_true (by omega))
   go_enter Tryz.func146,Tryz.ntmps146
   go_wp2_with fail
   go_ret;exact⟨Aa (by rw[HF.out]),rfl⟩
  have HF:Hid (R=false):=Qd (by rw[HE.out];exact decide_eq_false (by omega));go_enter Tryz.func146,Tryz.ntmps146
  go_wp2_with fail
  go_ret;exact⟨Aa (by rw[HF.out]),rfl⟩
 have HF:Hid (R=false):=Qd (by rw[HE.out];exact decide_eq_false (by omega));go_enter Tryz.func146,Tryz.ntmps146
 go_wp2_with fail
 go_ret;exact⟨Aa (by rw[HF.out]),rfl⟩
theorem Pja (k:Int)(w:World):Calls Tryz.prog 158 #[.int .i64 k] w (Qh w (func k)):=by
 have HE:=Qd (Q4 k);generalize func k=R at*;by_cases h0:17<=k
 ·by_cases h1:k<=24
  ·have HF:Hid (R=true):=Qd (by rw[HE.out];exact decide_eq_true (by omega))
   go_enter Tryz.func158,Tryz.ntmps158
   go_wp2_with fail
   go_ret;exact⟨Aa (by rw[HF.out]),rfl⟩
  have HF:Hid (R=false):=Qd (by rw[HE.out];exact decide_eq_false (by omega));go_enter Tryz.func158,Tryz.ntmps158
  go_wp2_with fail
  go_ret;exact⟨Aa (by rw[HF.out]),rfl⟩
 have HF:Hid (R=false):=Qd (by rw[HE.out];exact decide_eq_false (by omega));go_enter Tryz.func158,Tryz.ntmps158
 go_wp2_with fail
 go_ret;exact⟨Aa (by rw[HF.out]),rfl⟩
theorem Nr (k:Int)(w:World):Calls Tryz.prog 147 #[.int .i64 k] w (Qh w (plain k)):=by
 have HE:=Qd (Fx k);generalize plain k=R at*;by_cases h0:17<=k
 ·by_cases h1:k<=21
  ·have HF:Hid (R=true):=Qd (by rw[HE.out];exact decide_eq_true (by omega))
   go_enter Tryz.func147,Tryz.ntmps147
   go_wp2_with fail
   go_ret;exact⟨Aa (by rw[HF.out]),rfl⟩
  have HF:Hid (R=false):=Qd (by rw[HE.out];exact decide_eq_false (by omega));go_enter Tryz.func147,Tryz.ntmps147
  go_wp2_with fail
  go_ret;exact⟨Aa (by rw[HF.out]),rfl⟩
 have HF:Hid (R=false):=Qd (by rw[HE.out];exact decide_eq_false (by omega));go_enter Tryz.func147,Tryz.ntmps147
 go_wp2_with fail
 go_ret;exact⟨Aa (by rw[HF.out]),rfl⟩
theorem Gx (k:Int)(w:World):Calls Tryz.prog 116 #[.int .i64 k] w (Qh w (plain k)):=by
 have HE:=Qd (Fx k);generalize plain k=R at*;by_cases h0:17<=k
 ·by_cases h1:k<=21
  ·have HF:Hid (R=true):=Qd (by rw[HE.out];exact decide_eq_true (by omega))
   go_enter Tryz.func116,Tryz.ntmps116
   go_wp2_with fail
   go_ret;exact⟨Aa (by rw[HF.out]),rfl⟩
  have HF:Hid (R=false):=Qd (by rw[HE.out];exact decide_eq_false (by omega));go_enter Tryz.func116,Tryz.ntmps116
  go_wp2_with fail
  go_ret;exact⟨Aa (by rw[HF.out]),rfl⟩
 have HF:Hid (R=false):=Qd (by rw[HE.out];exact decide_eq_false (by omega));go_enter Tryz.func116,Tryz.ntmps116
 go_wp2_with fail
 go_ret;exact⟨Aa (by rw[HF.out]),rfl⟩
theorem Pu (k:Int)(w:World):Calls Tryz.prog 93 #[.int .i64 k] w (Qh w (port k)):=by
 have HE:=Qd (R4 k);generalize port k=R at*;by_cases h0:0<=k
 ·by_cases h1:k<=7
  ·have HF:Hid (R=true):=Qd (by rw[HE.out];exact decide_eq_true (by omega))
   go_enter Tryz.func93,Tryz.ntmps93
   go_wp2_with fail
   go_ret;exact⟨Aa (by rw[HF.out]),rfl⟩
  have HF:Hid (R=false):=Qd (by rw[HE.out];exact decide_eq_false (by omega));go_enter Tryz.func93,Tryz.ntmps93
  go_wp2_with fail
  go_ret;exact⟨Aa (by rw[HF.out]),rfl⟩
 have HF:Hid (R=false):=Qd (by rw[HE.out];exact decide_eq_false (by omega));go_enter Tryz.func93,Tryz.ntmps93
 go_wp2_with fail
 go_ret;exact⟨Aa (by rw[HF.out]),rfl⟩
theorem Dga (k:Int)(c:UInt8)(w:World)(hc:c=97\/c=102\/c=112\/c=120):Calls Tryz.prog 142 #[.int .i64 k,.int .u8 (c.toNat:Int)] w (Qh w (Ub c k)):=by
 have AR:=Qd (λwx=>Vl k wx);have FU:=Qd (λwx=>Ou k wx);have PL:=Qd (λwx=>Nr k wx);rcases hc with rfl |rfl |rfl |rfl
 ·rw[Kw]
  have hn:((97:UInt8).toNat:Int)=97:=rfl;rw[hn];go_enter Tryz.func142,Tryz.ntmps142
  go_wp2_with fail
  refine(AR.out _).mono ?_;rintro e w1 ⟨rfl,rfl⟩;go_wp2_with fail
  go_ret;exact⟨rfl,rfl⟩
 ·rw[Zo]
  have hn:((102:UInt8).toNat:Int)=102:=rfl;rw[hn];go_enter Tryz.func142,Tryz.ntmps142
  go_wp2_with fail
  refine(FU.out _).mono ?_;rintro e w1 ⟨rfl,rfl⟩;go_wp2_with fail
  go_ret;exact⟨rfl,rfl⟩
 ·rw[Lw]
  have hn:((112:UInt8).toNat:Int)=112:=rfl;rw[hn];go_enter Tryz.func142,Tryz.ntmps142
  go_wp2_with fail
  refine(PL.out _).mono ?_;rintro e w1 ⟨rfl,rfl⟩;go_wp2_with fail
  go_ret;exact⟨rfl,rfl⟩
 rw[Mw];have HE:Hid (Ke k=(array k||(k==10))):=Qd rfl;have hn:((120:UInt8).toNat:Int)=120:=rfl;rw[hn];generalize Ke k=R at*;generalize array k=x at*;cases x;all_goals
  cases q:(k==10);all_goals
   rw[q] at HE;go_enter Tryz.func142,Tryz.ntmps142
   go_wp2_with fail
   refine(AR.out _).mono ?_;rintro e w1 ⟨rfl,rfl⟩;go_wp2_with fail
   go_ret;exact⟨Aa (by rw[HE.out];rfl),rfl⟩
end
theorem Hx (A:Option Addr)(c:Nat)(l:List Int)(x:Int)(w:World)(hl:Lies w w.heap.size A (Sa l))(hn:l.length<=1000000):
 Calls Tryz.prog 132 #[.slice A l.length c,.int .i64 x] w λe w'=>e= .returned (.bool (decide (x∈l)))/\w=w':=by
 have HL:=Qd hl;clear hl;go_enter Tryz.func132,Tryz.ntmps132
 go_wp2_with fail
 go_loop [5] (λiv=>∃j:Nat,iv= .int .i64 (j:Int)/\j<=l.length/\Hid (x∉l.take j)) (λiv=>l.length-(intOf iv).toNat)
 case atStart=>exact⟨0,by go_num,Nat.zero_le _,Qd (by simp)⟩
 case round=>
  obtain⟨j,rfl,hj,HN⟩:=hrel;by_cases hlt:j<l.length
  ·obtain⟨b,off,rfl,hb,g0⟩:=Hb HL.out hlt
   by_cases e:l[j]=x
   ·have E:Hid (decide (x∈l)=true):=Qd (decide_eq_true (by rw[<-e];exact List.getElem_mem hlt))
    rw[e] at g0;have q:(x==x)=true:=beq_self_eq_true x;go_wp2_with fail
    go_ret;exact⟨Aa E.out.symm,rfl⟩
   have HN2:Hid (x∉l.take (j+1)):=Qd (by
    rw[List.take_add_one,List.getElem?_eq_getElem hlt];simp only[Option.toList_some,List.mem_append,List.mem_singleton];rintro(h |h)
    ·exact HN.out h
    exact e h.symm)
   generalize l[j]=y at*;have q:(y==x)=false:=beq_eq_false_iff_ne.2 e;clear e;go_wp2_with fail
   go_round
   case rel=>exact⟨j+1,by go_num,hlt,HN2⟩
   case measure=>simp[intOf];omega
  have hme:j=l.length:=by omega
  have E:Hid (decide (x∈l)=false):=Qd (decide_eq_false (by have h:=HN.out;rw[hme,List.take_length] at h;exact h));go_wp2_with fail
  go_ret;exact⟨Aa E.out.symm,rfl⟩
theorem Xk (w:World):
 Calls Tryz.prog 174 #[] w λe w'=>∃A,e= .returned (.slice A (Tk.funs).length 39)/\Lies w' w'.heap.size A (Sa Tk.funs)/\Below w.heap.size w w':=by
 go_enter Tryz.func174,Tryz.ntmps174
 go_wp2_with fail
 go_ret;refine⟨_,rfl,.inr ⟨w.heap.size,0,rfl,by simp,λj v hv=>?_⟩,Br.alloc Lr _⟩;rw[Nat.zero_add];rw[cell_of_row _ w.heap.size j _ _ _ (heap_alloc_new w _)];rw[List.getElem?_toArray];exact hv
theorem Ss (w:World):
 Calls Tryz.prog 175 #[] w λe w'=>∃A,e= .returned (.slice A (Tk.opers).length 10)/\Lies w' w'.heap.size A (Sa Tk.opers)/\Below w.heap.size w w':=by
 go_enter Tryz.func175,Tryz.ntmps175
 go_wp2_with fail
 go_ret;refine⟨_,rfl,.inr ⟨w.heap.size,0,rfl,by simp,λj v hv=>?_⟩,Br.alloc Lr _⟩;rw[Nat.zero_add];rw[cell_of_row _ w.heap.size j _ _ _ (heap_alloc_new w _)];rw[List.getElem?_toArray];exact hv
theorem S4 (w:World):
 Calls Tryz.prog 176 #[] w λe w'=>∃A,e= .returned (.slice A (Tk.marks).length 17)/\Lies w' w'.heap.size A (Sa Tk.marks)/\Below w.heap.size w w':=by
 go_enter Tryz.func176,Tryz.ntmps176
 go_wp2_with fail
 go_ret;refine⟨_,rfl,.inr ⟨w.heap.size,0,rfl,by simp,λj v hv=>?_⟩,Br.alloc Lr _⟩;rw[Nat.zero_add];rw[cell_of_row _ w.heap.size j _ _ _ (heap_alloc_new w _)];rw[List.getElem?_toArray];exact hv
theorem Ts (l:List Int)(x:Int)(A:Option Addr)(cc:Nat)(w w1:World)(hl:Lies w1 w1.heap.size A (Sa l))(hn:l.length<=1000000)(r:Bool)(hr:decide (x∈l)=r):
 Calls Tryz.prog 132 #[.slice A l.length cc,.int .i64 x] w1 λe w'=>e= .returned (.bool r)/\w1=w':=by
 subst hr;exact Hx A cc l x w1 hl hn
theorem U4 (c:Int)(w:World):
 Calls Tryz.prog 143 #[.int .i64 c] w λe w'=>e= .returned (.int .i64 (Tk.cls c))/\Below w.heap.size w w':=by
 have FF:=Qd (λwx=>Xk wx);have FO:=Qd (λwx=>Ss wx);have FM:=Qd (λwx=>S4 wx);by_cases h1:c=32\/c=9
 ·have E:Hid (Tk.cls c=1):=Qd (by unfold Tk.cls;rw[if_pos h1])
  rcases h1 with rfl |rfl
  all_goals
   go_enter Tryz.func143,Tryz.ntmps143
   go_wp2_with fail
   go_ret;exact⟨Ra E.out.symm,Br⟩
 have HN1:Hid (¬(c=32\/c=9)):=Qd h1;have q32:(c==32)=false:=beq_eq_false_iff_ne.2 (by omega);have q9:(c==9)=false:=beq_eq_false_iff_ne.2 (by omega);by_cases h2:97<=c/\c<=122\/65<=c/\c<=90\/c=95
 ·have E:Hid (Tk.cls c=2):=Qd (by unfold Tk.cls;rw[if_neg h1,if_pos h2])
  clear h1;by_cases k1:97<=c/\c<=122
  ·obtain⟨a1,a2⟩:=k1
   clear h2;go_enter Tryz.func143,Tryz.ntmps143
   go_wp2_with fail
   go_ret;exact⟨Ra E.out.symm,Br⟩
  by_cases k2:65<=c/\c<=90
  ·obtain⟨a1,a2⟩:=k2
   have a3:decide (97<=c)=false:=decide_eq_false (by omega);clear h2 k1;go_enter Tryz.func143,Tryz.ntmps143
   go_wp2_with fail
   go_ret;exact⟨Ra E.out.symm,Br⟩
  obtain rfl:c=95:=by omega
  clear h2 k1 k2;go_enter Tryz.func143,Tryz.ntmps143
  go_wp2_with fail
  go_ret;exact⟨Ra E.out.symm,Br⟩
 have HL:Hid (¬(97<=c/\c<=122\/65<=c/\c<=90\/c=95)):=Qd h2;by_cases h3:48<=c/\c<=57\/c=175
 ·have E:Hid (Tk.cls c=3):=Qd (by unfold Tk.cls;rw[if_neg h1,if_neg h2,if_pos h3])
  clear h1;by_cases k1:c=175
  ·subst k1
   clear h2 h3;go_enter Tryz.func143,Tryz.ntmps143
   go_wp2_with fail
   go_ret;exact⟨Ra E.out.symm,Br⟩
  obtain⟨a1,a2⟩:48<=c/\c<=57:=by omega
  have a3:decide (97<=c)=false:=decide_eq_false (by omega);have a4:decide (65<=c)=false:=decide_eq_false (by omega);have a5:(c==95)=false:=beq_eq_false_iff_ne.2 (by omega);clear h2 h3 k1;go_enter Tryz.func143,Tryz.ntmps143
  go_wp2_with fail
  go_ret;exact⟨Ra E.out.symm,Br⟩
 have HN3:Hid (¬(48<=c/\c<=57\/c=175)):=Qd h3;have a5:(c==95)=false:=beq_eq_false_iff_ne.2 (by omega);have a6:(c==175)=false:=beq_eq_false_iff_ne.2 (by omega);obtain⟨b1,b2,b3,b4,b5,b6,H0⟩:∃b1 b2 b3 b4 b5 b6:Bool,decide (97<=c)=b1/\decide (c<=122)=b2/\decide (65<=c)=b3/\decide (c<=90)=b4/\decide (48<=c)=b5/\decide (c<=57)=b6:=⟨_,_,_,_,_,_,rfl,rfl,rfl,rfl,rfl,rfl⟩;have HB:Hid ((b1&&b2)=false/\(b3&&b4)=false/\(b5&&b6)=false):=Qd (by
  obtain⟨e1,e2,e3,e4,e5,e6⟩:=H0;rw[<-e1,<-e2,<-e3,<-e4,<-e5,<-e6];simp only[<-Bool.not_eq_true,Bool.and_eq_true,decide_eq_true_eq];omega)
 obtain⟨e1,e2,e3,e4,e5,e6⟩:=H0;clear h1 h2 h3;go_enter Tryz.func143,Tryz.ntmps143
 go_upto_region 3 with fail
 go_cut [26] from 9 (λx26 wx=>wx=w/\x26= .bool false)
 case first=>
  obtain⟨z1,z2,z3⟩:=HB.out;cases b1<;>cases b2<;>(try cases z1)<;>cases b3<;>cases b4<;>(try cases z2)
  all_goals
   go_wp2_with fail
   go_meet
   exact⟨rfl,rfl⟩
 case rest=>
  obtain⟨hwx,rfl⟩:=hcut;rw[hwx];clear hwx;go_upto_region 5 with fail
  go_cut [36] from 27 (λx36 wx=>wx=w/\x36= .bool false)
  case first=>
   obtain⟨z1,z2,z3⟩:=HB.out;cases b5<;>cases b6<;>(try cases z3)
   all_goals
    go_wp2_with fail
    go_meet
    exact⟨rfl,rfl⟩
  case rest=>
   obtain⟨hwx,rfl⟩:=hcut;rw[hwx];clear hwx e1 e2 e3 e4 e5 e6 a5 a6 q32 q9;have K0:Hid (Tk.cls c=if c∈Tk.funs then 4 else if c∈Tk.opers then 5 else if c∈Tk.marks then 6 else 0):=Qd (by unfold Tk.cls;rw[if_neg HN1.out,if_neg HL.out,if_neg HN3.out]);obtain⟨p1,hp1⟩:∃p,decide (c∈Tk.funs)=p:=⟨_,rfl⟩;obtain⟨p2,hp2⟩:∃p,decide (c∈Tk.opers)=p:=⟨_,rfl⟩;obtain⟨p3,hp3⟩:∃p,decide (c∈Tk.marks)=p:=⟨_,rfl⟩;have K1:Hid (Tk.cls c=if p1 then 4 else if p2 then 5 else if p3 then 6 else 0):=Qd (by rw[K0.out,<-hp1,<-hp2,<-hp3];simp only[decide_eq_true_eq]);have P1:=Qd hp1;have P2:=Qd hp2;have P3:=Qd hp3;clear hp1 hp2 hp3;go_wp2_with fail
   refine(FF.out _).mono ?_;rintro e w1 ⟨A1,rfl,l1,hb1⟩;have I1:=Qd (Ts Tk.funs c A1 39 w w1 l1 (by decide) p1 P1.out);have B1:=Qd hb1;clear l1 hb1;go_wp2_with fail
   refine I1.out.mono ?_;rintro e w' ⟨rfl,rfl⟩;cases p1
   ·go_wp2_with fail
    refine(FO.out _).mono ?_;rintro e w2 ⟨A2,rfl,l2,hb2⟩;have I2:=Qd (Ts Tk.opers c A2 10 w w2 l2 (by decide) p2 P2.out);have B2:=Qd (B1.out.trans (hb2.mono B1.out.size));clear l2 hb2;go_wp2_with fail
    refine I2.out.mono ?_;rintro e w' ⟨rfl,rfl⟩;cases p2
    ·go_wp2_with fail
     refine(FM.out _).mono ?_;rintro e w3 ⟨A3,rfl,l3,hb3⟩;have I3:=Qd (Ts Tk.marks c A3 17 w w3 l3 (by decide) p3 P3.out);have B3:=Qd (B2.out.trans (hb3.mono B2.out.size));clear l3 hb3;go_wp2_with fail
     refine I3.out.mono ?_;rintro e w' ⟨rfl,rfl⟩;cases p3;all_goals
      go_wp2_with fail
      go_ret;exact⟨Ra K1.out.symm,B3.out⟩
    go_wp2_with fail
    go_ret;exact⟨Ra K1.out.symm,B2.out⟩
   go_wp2_with fail
   go_ret;exact⟨Ra K1.out.symm,B1.out⟩
theorem Qu (x:Int)(w:World):
 Calls Tryz.prog 59 #[.int .i64 x] w λe w'=>e= .returned (.bool (Gl.may x))/\w=w':=by
 obtain⟨b1,hb1⟩:∃b,decide (0<=x)=b:=⟨_,rfl⟩;obtain⟨b2,hb2⟩:∃b,decide (x<=1114111)=b:=⟨_,rfl⟩;obtain⟨b3,hb3⟩:∃b,decide (x<55296)=b:=⟨_,rfl⟩;obtain⟨b4,hb4⟩:∃b,decide (57343<x)=b:=⟨_,rfl⟩;have E:Hid (Gl.may x=(b1&&b2&&(b3||b4))):=Qd (by unfold Gl.may;rw[hb1,hb2,hb3,hb4]);go_enter Tryz.func59,Tryz.ntmps59
 cases b1<;>cases b2<;>cases b3<;>cases b4
 all_goals
  go_wp2_with fail
  go_ret;exact⟨Aa E.out.symm,rfl⟩
section
open Go.RowKit Tr
def nameAt (s:List UInt8)(i:Nat):Bool:=Ec (s.getD i 0)||(digit (s.getD i 0)&& !(i==0))
theorem Ru {s:List UInt8}{b:Bool}(h0:0<s.length)(h1:s.length<=16):Ua s b=((List.range s.length).all (nameAt s)&&(Hi s==b)):=by
 have e0:s.isEmpty=false:=by cases s with
  |nil=>simp at h0
  |cons _ _=>rfl
 unfold Ua;rw[e0,decide_eq_true h1,Bool.not_false,Bool.true_and,Bool.true_and]
 congr 1
 rw[Bool.eq_iff_iff,Bool.and_eq_true,List.all_eq_true,List.all_eq_true]
 constructor
 ·rintro⟨h2,h3⟩ i hi
  have hi:i<s.length:=by simpa using hi
  unfold nameAt;have h4:=h3 s[i] (List.getElem_mem hi);rw[List.getD_eq_getElem?_getD,List.getElem?_eq_getElem hi,Option.getD_some];by_cases hz:i=0
  ·subst hz
   rw[List.getD_eq_getElem?_getD,List.getElem?_eq_getElem hi,Option.getD_some] at h2;rw[h2];rfl
  rw[show(i==0)=false by simpa using hz,Bool.not_false,Bool.and_true];exact h4
 intro h2;refine⟨?_,λx hx=>?_⟩
 ·have:=h2 0 (by simpa using h0)
  unfold nameAt at this
  simpa using this
 obtain⟨i,hi,rfl⟩:=List.mem_iff_getElem.1 hx;have:=h2 i (by simpa using hi);unfold nameAt at this;rw[List.getD_eq_getElem?_getD,List.getElem?_eq_getElem hi,Option.getD_some] at this
 revert this
 cases Ec s[i]<;>cases digit s[i]<;>simp
theorem Qr {s:List UInt8}{b:Bool}(h:s.length=0):Ua s b=false:=by
 obtain rfl:=List.eq_nil_of_length_eq_zero h;rfl
theorem Su {s:List UInt8}{b:Bool}(h:¬s.length<=16):Ua s b=false:=by
 unfold Ua;rw[decide_eq_false h];simp
theorem Ega {s:List UInt8}{b:Bool}(h0:0<s.length)(h1:s.length<=16){i:Nat}(hi:i<s.length)(h:nameAt s i=false):Ua s b=false:=by
 rw[Ru h0 h1,List.all_eq_false.2 ⟨i,by simpa using hi,by rw[h];simp⟩];rfl
theorem Vba {s:List UInt8}{b:Bool}(h0:0<s.length)(h1:s.length<=16)(h:∀i,i<s.length->nameAt s i=true):Ua s b=(Hi s==b):=by
 rw[Ru h0 h1,List.all_eq_true.2 (λi hi=>h i (by simpa using hi))];rfl
theorem Wba {s:List UInt8}{j:Nat}(hj:j<s.length):∃y:Nat,s[j].toNat=y/\y<256/\nameAt s j=((Tk.cls (y:Int)==2)||(decide (48<=y)&&decide (y<=57)&& !(j==0))):=by
 refine⟨s[j].toNat,rfl,UInt8.toNat_lt _,?_⟩;unfold nameAt Ec digit;rw[List.getD_eq_getElem?_getD,List.getElem?_eq_getElem hj,Option.getD_some]
theorem Rr {s:List UInt8}(h:0<s.length):∃y:Nat,(s[0]).toNat=y/\Hi s=(decide (65<=y)&&decide (y<=90)):=by
 refine⟨s[0].toNat,rfl,?_⟩;unfold Hi;rw[List.getD_eq_getElem?_getD,List.getElem?_eq_getElem h,Option.getD_some]
theorem Tu (s:List UInt8)(b:Bool)(w:World)(hs:s.length<=140737488355328):Calls Tryz.prog 92 #[.string ⟨s.toArray⟩,.bool b] w (La w (Ua s b)):=by
 have hsz:(⟨s.toArray⟩:ByteArray).size=s.length:=rfl;have CL:=Qd (λ(c:Int) (wx:World)=>U4 c wx);by_cases h0:s.length=0
 ·have HE:=Qd (Qr (b:=b) h0)
  generalize Ua s b=R at*;have q0:((s.length:Int)==0)=true:=beq_iff_eq.2 (by omega);clear h0;go_enter Tryz.func92,Tryz.ntmps92
  go_wp2_with fail
  go_ret;exact⟨Aa (by rw[HE.out]),Br⟩
 have q0:((s.length:Int)==0)=false:=beq_eq_false_iff_ne.2 (by omega);by_cases h1:s.length<=16
 ·have q1:¬(16:Int)<(s.length:Int):=by omega
  have NB:Hid (∀i,i<s.length->nameAt s i=false->Ua s b=false):=Qd (λi hi h=>Ega (by omega) h1 hi h);have NG:Hid ((∀i,i<s.length->nameAt s i=true)->Ua s b=(Hi s==b)):=Qd (λh=>Vba (by omega) h1 h);have NC:Hid (∀j (hj:j<s.length),∃y:Nat,s[j].toNat=y/\y<256/\nameAt s j=((Tk.cls (y:Int)==2)||(decide (48<=y)&&decide (y<=57)&& !(j==0)))):=Qd (λj hj=>Wba hj);have hpos:0<s.length:=by omega
  have NGR:=Qd (Rr hpos);generalize Ua s b=R at*;generalize Hi s=G at*;have HB0:Hid (Below w.heap.size w w):=Qd Br;go_enter Tryz.func92,Tryz.ntmps92
  go_wp2_with fail
  go_loopw [5] (λi wr=>∃j:Nat,j<=s.length/\i= .int .i64 j/\Hid (∀i,i<j->nameAt s i=true)/\Below w.heap.size w wr) (λi _=>s.length-(intOf i).toNat)
  case atStart=>exact⟨0,Nat.zero_le _,rfl,Qd (λi hi=>by omega),HB0.out⟩
  case round=>
   obtain⟨j,hj,rfl,HI,hbel⟩:=hrel;by_cases hlt:j<s.length
   ·obtain⟨y,hy,hy2,hn⟩:=NC.out j hlt
    have hgy:((⟨s.toArray⟩:ByteArray)[j]'(show j<(⟨s.toArray⟩:ByteArray).size from hlt)).toNat=y:=hy;have C1:=Qd (CL.out (y:Int) wr);have HN:=Qd hn;have HS:Hid (nameAt s j=true->∀i,i<j+1->nameAt s i=true):=Qd (λh i hi=>by
     by_cases e:i=j
     ·subst e;exact h
     exact HI.out i (by omega))
    have HF:Hid (nameAt s j=false->R=false):=Qd (NB.out j hlt);generalize nameAt s j=nj at*;generalize Tk.cls (y:Int)=cv at*;clear hy hn NB NC;by_cases hc:cv=2
    ·have HN2:=Qd (HS.out (by rw[HN.out,show(cv==2)=true by simpa using hc];rfl))
     subst hc;by_cases g1:48<=y
     ·by_cases g2:y<=57
      all_goals
       go_wp2_with fail
       refine C1.out.mono ?_;rintro e w2 ⟨rfl,hb2⟩;go_wp2_with fail
       go_roundw
       case rel=>exact⟨j+1,by omega,by go_num,HN2,hbel.trans (hb2.mono hbel.size)⟩
       case measure=>simp[intOf];omega
     go_wp2_with fail
     refine C1.out.mono ?_;rintro e w2 ⟨rfl,hb2⟩;go_wp2_with fail
     go_roundw
     case rel=>exact⟨j+1,by omega,by go_num,HN2,hbel.trans (hb2.mono hbel.size)⟩
     case measure=>simp[intOf];omega
    have hc2:(cv !=2)=true:=bne_iff_ne.2 hc;have hc3:(cv==2)=false:=beq_eq_false_iff_ne.2 hc;rw[hc3] at HN;by_cases g1:48<=y
    ·by_cases g2:y<=57
     ·by_cases hj0:j=0
      ·have HZ:=Qd (HF.out (by rw[HN.out,hj0];simp))
       have qj:((j:Int)==0)=true:=beq_iff_eq.2 (by omega);clear hj0;go_wp2_with fail
       refine C1.out.mono ?_;rintro e w2 ⟨rfl,hb2⟩;go_wp2_with fail
       go_ret;exact⟨Aa (by rw[HZ.out]),hbel.trans (hb2.mono hbel.size)⟩
      have HN2:=Qd (HS.out (by rw[HN.out,decide_eq_true g1,decide_eq_true g2,show(j==0)=false by simpa using hj0];rfl));have qj:((j:Int)==0)=false:=beq_eq_false_iff_ne.2 (by omega);go_wp2_with fail
      refine C1.out.mono ?_;rintro e w2 ⟨rfl,hb2⟩;go_wp2_with fail
      go_roundw
      case rel=>exact⟨j+1,by omega,by go_num,HN2,hbel.trans (hb2.mono hbel.size)⟩
      case measure=>simp[intOf];omega
     have HZ:=Qd (HF.out (by rw[HN.out,decide_eq_false g2];simp));go_wp2_with fail
     refine C1.out.mono ?_;rintro e w2 ⟨rfl,hb2⟩;go_wp2_with fail
     go_ret;exact⟨Aa (by rw[HZ.out]),hbel.trans (hb2.mono hbel.size)⟩
    have HZ:=Qd (HF.out (by rw[HN.out,decide_eq_false g1];simp));go_wp2_with fail
    refine C1.out.mono ?_;rintro e w2 ⟨rfl,hb2⟩;go_wp2_with fail
    go_ret;exact⟨Aa (by rw[HZ.out]),hbel.trans (hb2.mono hbel.size)⟩
   have HZ:=Qd (NG.out (λi hi=>HI.out i (by omega)));obtain⟨y,hy,hgr⟩:=NGR.out;have hgy:((⟨s.toArray⟩:ByteArray)[0]'(show 0<(⟨s.toArray⟩:ByteArray).size from hpos)).toNat=y:=hy;have HGR:=Qd hgr;clear hy hgr NG NB NC CL HI NGR;by_cases g1:65<=y
   ·by_cases g2:y<=90
    all_goals
     cases b;all_goals
      go_wp2_with fail
      go_ret;exact⟨Aa (by rw[HZ.out,HGR.out];simp[*]<;>omega),hbel⟩
   cases b;all_goals
    go_wp2_with fail
    go_ret;exact⟨Aa (by rw[HZ.out,HGR.out];simp[*]<;>omega),hbel⟩
 have HE:=Qd (Su (b:=b) h1);generalize Ua s b=R at*;have q1:(16:Int)<(s.length:Int):=by omega
 go_enter Tryz.func92,Tryz.ntmps92
 go_wp2_with fail
 go_ret;exact⟨Aa (by rw[HE.out]),Br⟩
theorem Xba {s:List UInt8}{b:Bool}(h0:0<s.length)(h:Ec (s[0]'h0)=false):Ua s b=false:=by
 unfold Ua;rw[show s.getD 0 0=s[0]'h0 by rw[List.getD_eq_getElem?_getD,List.getElem?_eq_getElem h0,Option.getD_some],h];simp
theorem Yba {s:List UInt8}{b:Bool}{i:Nat}(hi:i<s.length)(h:Ec s[i]=false)(h':digit s[i]=false):Ua s b=false:=by
 unfold Ua;rw[show s.all (λb=>Ec b||digit b)=false from List.all_eq_false.2 ⟨s[i],List.getElem_mem hi,by rw[h,h'];simp⟩];simp
theorem C7 {s:List UInt8}{b:Bool}(h0:0<s.length)(h1:s.length<=16)(h2:Ec (s[0]'h0)=true)(h:∀i (hi:i<s.length),(Ec s[i]||digit s[i])=true):Ua s b=(Hi s==b):=by
 unfold Ua;rw[show s.getD 0 0=s[0]'h0 by rw[List.getD_eq_getElem?_getD,List.getElem?_eq_getElem h0,Option.getD_some],h2,decide_eq_true h1,
  show s.all (λb=>Ec b||digit b)=true from List.all_eq_true.2 (λx hx=>by obtain⟨i,hi,rfl⟩:=List.mem_iff_getElem.1 hx;exact h i hi),
  show s.isEmpty=false by cases s with
   |nil=>simp at h0
   |cons _ _=>rfl]
 rfl
theorem Zba (x:UInt8):∃y:Nat,x.toNat=y/\y<256/\Ec x=(Tk.cls (y:Int)==2)/\digit x=(decide (48<=y)&&decide (y<=57)):=⟨_,rfl,UInt8.toNat_lt _,rfl,rfl⟩
theorem Ix (s:List UInt8)(b:Bool)(w:World)(hs:s.length<=140737488355328):Calls Tryz.prog 105 #[.string ⟨s.toArray⟩,.bool b] w (Qh w (Ua s b)):=by
 have hsz:(⟨s.toArray⟩:ByteArray).size=s.length:=rfl;have CL:=Qd (λ(c:Int) (wx:World)=>Dj c wx);by_cases h0:s.length=0
 ·have HE:=Qd (Qr (b:=b) h0)
  obtain rfl:=List.eq_nil_of_length_eq_zero h0;generalize Ua [] b=R at*;clear h0 hsz hs;go_enter Tryz.func105,Tryz.ntmps105
  go_wp2_with fail
  go_ret;exact⟨Aa (by rw[HE.out]),rfl⟩
 have q0:(s==([]:List UInt8))=false:=by cases s with
  |nil=>exact absurd rfl h0
  |cons _ _=>rfl
 by_cases h1:s.length<=16
 ·have q1:¬(16:Int)<(s.length:Int):=by omega
  have hpos:0<s.length:=by omega
  have NB:Hid (∀i (hi:i<s.length),Ec s[i]=false->digit s[i]=false->Ua s b=false):=Qd (λi hi h h'=>Yba hi h h');have NH:Hid (Ec (s[0]'hpos)=false->Ua s b=false):=Qd (λh=>Xba hpos h);have NG:Hid (Ec (s[0]'hpos)=true->(∀i (hi:i<s.length),(Ec s[i]||digit s[i])=true)->Ua s b=(Hi s==b)):=Qd (λh2 h=>C7 hpos h1 h2 h);have NGR:=Qd (Rr hpos);have NC:Hid (∀j (hj:j<s.length),∃y:Nat,s[j].toNat=y/\y<256/\Ec s[j]=(Tk.cls (y:Int)==2)/\digit s[j]=(decide (48<=y)&&decide (y<=57))):=Qd (λj hj=>Zba s[j]);generalize Ua s b=R at*;generalize Hi s=G at*;obtain⟨y0,hy0,hy02,hl0,_⟩:=NC.out 0 hpos;have hgy0:((⟨s.toArray⟩:ByteArray)[0]'(show 0<(⟨s.toArray⟩:ByteArray).size from hpos)).toNat=y0:=hy0;have C0:=Qd (CL.out (y0:Int) w);have HL0:=Qd hl0;generalize Tk.cls (y0:Int)=cv0 at*;clear hy0 hl0;by_cases hc0:cv0=2
  ·have hc1:(cv0 !=2)=false:=by rw[hc0];rfl
   have NG2:=Qd (NG.out (by rw[HL0.out,show(cv0==2)=true by simpa using hc0]));clear hc0 NG NH;go_enter Tryz.func105,Tryz.ntmps105
   go_wp2_with fail
   refine C0.out.mono ?_;rintro e w2 ⟨rfl,rfl⟩;go_wp2_with fail
   clear hgy0 C0 HL0;go_loopw [23] (λi wr=>∃j:Nat,j<=s.length/\i= .int .i64 j/\Hid (∀i (hi:i<s.length),i<j->(Ec s[i]||digit s[i])=true)/\w=wr) (λi _=>s.length-(intOf i).toNat)
   case atStart=>exact⟨0,Nat.zero_le _,rfl,Qd (λi hi h=>by omega),rfl⟩
   case round=>
    obtain⟨j,hj,rfl,HI,rfl⟩:=hrel;by_cases hlt:j<s.length
    ·obtain⟨y,hy,hy2,hl,hd⟩:=NC.out j hlt
     have hgy:((⟨s.toArray⟩:ByteArray)[j]'(show j<(⟨s.toArray⟩:ByteArray).size from hlt)).toNat=y:=hy;have C1:=Qd (CL.out (y:Int) w);have HS:Hid ((Ec s[j]||digit s[j])=true->∀i (hi:i<s.length),i<j+1->(Ec s[i]||digit s[i])=true):=Qd (λh i hi hij=>by
      by_cases e:i=j
      ·subst e;exact h
      exact HI.out i hi (by omega))
     have HF:Hid (Ec s[j]=false->digit s[j]=false->R=false):=Qd (NB.out j hlt);have HL:=Qd hl;have HD:=Qd hd;generalize Ec s[j]=lj at*;generalize digit s[j]=dj at*;generalize Tk.cls (y:Int)=cv at*;clear hy hl hd NB NC;by_cases hc:cv=2
     ·have HN2:=Qd (HS.out (by rw[HL.out,show(cv==2)=true by simpa using hc];rfl))
      subst hc;go_wp2_with fail
      refine C1.out.mono ?_;rintro e w2 ⟨rfl,rfl⟩;go_wp2_with fail
      go_roundw
      case rel=>exact⟨j+1,by omega,by go_num,HN2,by first|rfl |trivial⟩
      case measure=>simp[intOf];omega
     have hc2:(cv !=2)=true:=bne_iff_ne.2 hc;have hc3:(cv==2)=false:=beq_eq_false_iff_ne.2 hc;rw[hc3] at HL;by_cases g1:y<48
     ·have HZ:=Qd (HF.out HL.out (by rw[HD.out,decide_eq_false (by omega:¬48<=y)];rfl))
      go_wp2_with fail
      refine C1.out.mono ?_;rintro e w2 ⟨rfl,rfl⟩;go_wp2_with fail
      go_ret;exact⟨Aa (by rw[HZ.out]),rfl⟩
     by_cases g2:57<y
     ·have HZ:=Qd (HF.out HL.out (by rw[HD.out,decide_eq_false (by omega:¬y<=57)];simp))
      go_wp2_with fail
      refine C1.out.mono ?_;rintro e w2 ⟨rfl,rfl⟩;go_wp2_with fail
      go_ret;exact⟨Aa (by rw[HZ.out]),rfl⟩
     have HN2:=Qd (HS.out (by rw[HD.out,decide_eq_true (by omega:48<=y),decide_eq_true (by omega:y<=57)];simp));go_wp2_with fail
     refine C1.out.mono ?_;rintro e w2 ⟨rfl,rfl⟩;go_wp2_with fail
     go_roundw
     case rel=>exact⟨j+1,by omega,by go_num,HN2,by first|rfl |trivial⟩
     case measure=>simp[intOf];omega
    have HZ:=Qd (NG2.out (λi hi=>HI.out i hi (by omega)));obtain⟨y,hy,hgr⟩:=NGR.out;have hgy:((⟨s.toArray⟩:ByteArray)[0]'(show 0<(⟨s.toArray⟩:ByteArray).size from hpos)).toNat=y:=hy;have HGR:=Qd hgr;clear hy hgr NG2 NB NC CL HI NGR;by_cases g1:65<=y
    ·by_cases g2:y<=90
     all_goals
      cases b;all_goals
       go_wp2_with fail
       go_ret;exact⟨Aa (by rw[HZ.out,HGR.out];simp[*]<;>omega),rfl⟩
    cases b;all_goals
     go_wp2_with fail
     go_ret;exact⟨Aa (by rw[HZ.out,HGR.out];simp[*]<;>omega),rfl⟩
  have hc1:(cv0 !=2)=true:=bne_iff_ne.2 hc0;have HZ:=Qd (NH.out (by rw[HL0.out];exact beq_eq_false_iff_ne.2 hc0));go_enter Tryz.func105,Tryz.ntmps105
  go_wp2_with fail
  refine C0.out.mono ?_;rintro e w2 ⟨rfl,rfl⟩;go_wp2_with fail
  go_ret;exact⟨Aa (by rw[HZ.out]),rfl⟩
 have HE:=Qd (Su (b:=b) h1);generalize Ua s b=R at*;have q1:(16:Int)<(s.length:Int):=by omega
 go_enter Tryz.func105,Tryz.ntmps105
 go_wp2_with fail
 go_ret;exact⟨Aa (by rw[HE.out]),rfl⟩
end
section
open Go.RowKit Tr
theorem Fga (o:Int)(m:List UInt8)(n:Rt.Nm)(t:List Int)(a b c d:Bool)(h1:decide (o=0)=a)(h2:decide (m=[])=b)(h3:zero n=c)(h4:decide (t=[])=d):
 Va o m n t=(if a then 0 else 1)+(if b then 0 else 2)+(if c then 0 else 4)+(if d then 0 else 8):=by
 subst h1 h2 h3 h4;unfold Va;simp only[decide_eq_true_eq]
theorem Qja (n:Rt.Nm)(h1:n.neg=false)(h2:n.top.length=0)(h3:n.bot.length=0):zero n=true:=by
 unfold zero;rw[h1,List.eq_nil_of_length_eq_zero h2,List.eq_nil_of_length_eq_zero h3];rfl
theorem Rja (n:Rt.Nm)(h1:n.neg=true):zero n=false:=by unfold zero;rw[h1];rfl
theorem Sja (n:Rt.Nm)(h:0<n.top.length+n.bot.length):zero n=false:=by
 unfold zero;cases ht:n.top with
 |nil=>
  cases hb:n.bot with
  |nil=>rw[ht,hb] at h;simp at h
  |cons _ _=>simp
 |cons _ _=>simp
theorem Yk (a:Tree)(vs:List Value)(w:World)(B:Nat)(h:IsTree w B a vs)(hB:B<=w.heap.size):
 Calls Tryz.prog 90 #[.agg vs.toArray] w (Hm w (Va (op a) (Bc a) (num a) (text a))):=by
 obtain⟨k,o,m,nm,t,l⟩:=a;obtain⟨W,hW⟩:∃W,W=w.alloc (.cells vs.toArray 28):=⟨_,rfl⟩;obtain⟨A1,A2,A3,A4,c1,c2,c3,c4,us,HO,HL,HC,hW8,HG,hWl,hWb⟩:=Vb h hW;have hf1:=HO.out.f1.le (by omega);have hf2:=HO.out.f2.le (by omega);have hf3:=HO.out.f3.le (by omega);have hms:=HO.out.ms;have q1:W.cell? ⟨w.heap.size,1,none⟩=some (.int .i64 o):=hW8.p1;have q2:W.cell? ⟨w.heap.size,2,none⟩=some (.string ⟨m.toArray⟩):=hW8.p2;have q3:W.cell? ⟨w.heap.size,3,none⟩=some (.bool nm.neg):=hW8.p3;have q4:W.cell? ⟨w.heap.size,4,none⟩=some (.slice A1 nm.top.length c1):=hW8.p4;have q5:W.cell? ⟨w.heap.size,5,none⟩=some (.slice A2 nm.bot.length c2):=hW8.p5;have q6:W.cell? ⟨w.heap.size,6,none⟩=some (.slice A3 t.length c3):=hW8.p6;have HWB:=Qd hWb;have HW:=Qd hW;have HF:=Qd (Fga o m nm t);have Z1:=Qd (Qja nm);have Z2:=Qd (Rja nm);have Z3:=Qd (Sja nm);show Calls _ _ _ _ (Hm w (Va o m nm t));obtain⟨ng,tp,bt⟩:=nm;dsimp only at*;generalize Va o m ⟨ng,tp,bt⟩ t=R at*;clear h hW hW8 HO HL HC HG hWb;have e1:∀b:Bool,decide (o=0)=b->(o !=0)= !b:=λb hb=>by subst hb;by_cases h:o=0<;>simp[h]
 have e4:∀b:Bool,decide (t=[])=b->decide ((0:Int)<(t.length:Int))= !b:=λb hb=>by subst hb;cases t<;>simp
 cases ha:decide (o=0);all_goals
  have p1:=e1 _ ha;cases hd:decide (t=[]);all_goals
   have p4:=e4 _ hd;cases hb:decide (m=[]);all_goals
    have p2:(m==([]:List UInt8))=decide (m=[]):=by cases m<;>rfl
    rw[hb] at p2;have p3:(m !=([]:List UInt8))= !decide (m=[]):=by cases m<;>rfl
    rw[hb] at p3;simp only[Bool.not_true,Bool.not_false,decide_eq_true_eq,decide_eq_false_iff_not] at p1 p4;cases ng
    ·by_cases hz:0<tp.length+bt.length
     ·have HR:=Qd (HF.out _ _ _ _ ha hb (Z3.out hz) hd)
      have hz2:(0:Int)<(tp.length:Int)+(bt.length:Int):=by omega
      clear e1 e4;go_enter Tryz.func90,Tryz.ntmps90
      go_upto_region 1 with fail
      rw[<-HW.out];go_wp2_with fail
      go_ret;exact⟨Ra (by rw[HR.out];rfl),HWB.out⟩
     have HR:=Qd (HF.out _ _ _ _ ha hb (Z1.out rfl (by omega) (by omega)) hd);have hz2:¬(0:Int)<(tp.length:Int)+(bt.length:Int):=by omega
     clear e1 e4;go_enter Tryz.func90,Tryz.ntmps90
     go_upto_region 1 with fail
     rw[<-HW.out];go_wp2_with fail
     go_ret;exact⟨Ra (by rw[HR.out];rfl),HWB.out⟩
    have HR:=Qd (HF.out _ _ _ _ ha hb (Z2.out rfl) hd);clear e1 e4;go_enter Tryz.func90,Tryz.ntmps90
    go_upto_region 1 with fail
    rw[<-HW.out];go_wp2_with fail
    go_ret;exact⟨Ra (by rw[HR.out];rfl),HWB.out⟩
end
section
open Go.RowKit Tr
theorem Gga {l:List Tree}{s:List UInt8}{more:Bool}{i:Nat}(hi:i<l.length)(h:Ub (at_ s i) (kind l[i])=false):Gb (l.map kind) s more=false:=by
 unfold Gb
 split
 ·rfl
 refine List.all_eq_false.2 ⟨i,by simpa using hi,?_⟩;rw[List.getD_eq_getElem?_getD,List.getElem?_map,List.getElem?_eq_getElem hi];show¬Ub (at_ s i) (kind l[i])=true;rw[h];simp
theorem Aca {l:List Tree}{s:List UInt8}{more:Bool}(hl:¬(l.length<s.length\/(s.length<l.length/\more=false)))(h:∀i (hi:i<l.length),Ub (at_ s i) (kind l[i])=true):Gb (l.map kind) s more=true:=by
 unfold Gb;rw[List.length_map,if_neg hl];refine List.all_eq_true.2 λi hi=>?_;have hi:i<l.length:=by simpa using hi
 rw[List.getD_eq_getElem?_getD,List.getElem?_map,List.getElem?_eq_getElem hi];exact h i hi
theorem Hga {l:List Tree}{s:List UInt8}{more:Bool}(hl:l.length<s.length\/(s.length<l.length/\more=false)):Gb (l.map kind) s more=false:=by
 unfold Gb;rw[List.length_map,if_pos hl]
theorem Ooa {s:List UInt8}(hs:0<s.length)(i:Nat):at_ s i∈s:=by
 unfold at_
 split
 ·next h=>rw[List.getD_eq_getElem?_getD,List.getElem?_eq_getElem h];exact List.getElem_mem h
 rw[List.getD_eq_getElem?_getD,List.getElem?_eq_getElem (by omega)];exact List.getElem_mem _
theorem Uu (a:Tree)(vs:List Value)(s:List UInt8)(more:Bool)(w:World)(B:Nat)(h:IsTree w B a vs)(hB:B<=w.heap.size)(h0:0<s.length)(h3:s.length<=3)(hm:∀c∈s,c=97\/c=102\/c=112\/c=120):
 Calls Tryz.prog 91 #[.agg vs.toArray,.string ⟨s.toArray⟩,.bool more] w (La w (Gb ((kids a).map kind) s more)):=by
 obtain⟨k,o,m,nm,t,l⟩:=a;show Calls _ _ _ _ (La w (Gb (l.map kind) s more));obtain⟨W,hW⟩:∃W,W=w.alloc (.cells vs.toArray 28):=⟨_,rfl⟩;obtain⟨A1,A2,A3,A4,c1,c2,c3,c4,us,HO,HL,HC,hW8,HG,hWl,hWb⟩:=Vb h hW;have hf4:=HO.out.f4.le (by omega);have q7:W.cell? ⟨w.heap.size,7,none⟩=some (.slice A4 l.length c4):=hW8.p7;have HQ:=Qd q7;have HKB:Hid (∀wx,Below W.heap.size W wx->∀p:Addr,p.block<B->wx.cell? p=w.cell? p):=Qd (λwx hx p hp=>by rw[hx.cell (by omega),hWb.cell (by omega)]);have HWB:=Qd hWb;have HWS:Hid (w.heap.size<=W.heap.size):=Qd (by omega);have HW:=Qd hW;have hsz:(⟨s.toArray⟩:ByteArray).size=s.length:=rfl;have KL:=Qd (@Hga l s more);have KB:Hid (∀i (hi:i<l.length),Ub (at_ s i) (kind l[i])=false->Gb (l.map kind) s more=false):=Qd (λi hi h=>Gga hi h);have KG:=Qd (@Aca l s more);have HAM:Hid (∀i,at_ s i=97\/at_ s i=102\/at_ s i=112\/at_ s i=120):=Qd (λi=>hm _ (Ooa h0 i));have HA1:Hid (∀i (hi:i<s.length),(s[i]).toNat=(at_ s i).toNat):=Qd (λi hi=>by unfold at_;rw[if_pos hi,List.getD_eq_getElem?_getD,List.getElem?_eq_getElem hi];rfl);have HA2:Hid (∀i,¬i<s.length->(s[s.length-1]'(by omega)).toNat=(at_ s i).toNat):=Qd (λi hi=>by unfold at_;rw[if_neg hi,List.getD_eq_getElem?_getD,List.getElem?_eq_getElem (by omega)];rfl);have KID:=Qd (λ(k:Int) (c:UInt8) (wx:World) hc=>Dga k c wx hc);generalize Gb (l.map kind) s more=R at*;clear h hW hW8 HO HG hWb hm;by_cases hb:l.length<s.length
 ·have HZ:=Qd (KL.out (.inl hb))
  clear HQ HKB HAM HA1 HA2 KID KB KG KL;go_enter Tryz.func91,Tryz.ntmps91
  go_upto_region 1 with fail
  rw[<-HW.out];go_wp2_with fail
  go_ret;exact⟨Aa (by rw[HZ.out]),HWB.out⟩
 by_cases hb2:s.length<l.length/\more=false
 ·have HZ:=Qd (KL.out (.inr hb2))
  obtain⟨hb3,rfl⟩:=hb2;clear HQ HKB HAM HA1 HA2 KID KB KG KL;go_enter Tryz.func91,Tryz.ntmps91
  go_upto_region 1 with fail
  rw[<-HW.out];go_wp2_with fail
  go_ret;exact⟨Aa (by rw[HZ.out]),HWB.out⟩
 have KG2:=Qd (KG.out (λh=>h.elim hb hb2));clear KG KL;have hp1:(0:Int)<=(s.length:Int)-1:=by omega
 have hp2:(s.length:Int)-1<(s.length:Int):=by omega
 have hp3:((s.length:Int)-1).toNat=s.length-1:=by omega
 have hx:(s.length<l.length/\more=true)\/¬s.length<l.length:=by
  cases more
  ·exact .inr (λh=>hb2 ⟨h,rfl⟩)
  by_cases h:s.length<l.length
  ·exact .inl ⟨h,rfl⟩
  exact .inr h
 have go:∀(mo:Bool),(s.length<l.length/\mo=true)\/¬s.length<l.length->Calls Tryz.prog 91 #[.agg vs.toArray,.string ⟨s.toArray⟩,.bool mo] w (La w R):=by
  intro mo hmo;rcases hmo with⟨h1,rfl⟩ |h1
  all_goals
   go_enter Tryz.func91,Tryz.ntmps91
   go_upto_region 1 with fail
   rw[<-HW.out];go_wp2_with fail
   go_loopw [7] (λi wr=>∃(j:Nat),j<=l.length/\i= .int .i64 j/\Hid (∀i (hi:i<l.length),i<j->Ub (at_ s i) (kind l[i])=true)/\Below W.heap.size W wr) (λi _=>l.length-(intOf i).toNat)
   case atStart=>exact⟨0,Nat.zero_le _,rfl,Qd (λi hi h=>by omega),Br⟩
   case round=>
    obtain⟨j,hj,rfl,HI,hbel⟩:=hrel;have hbox:wr.cell? ⟨w.heap.size,7,none⟩=some (.slice A4 l.length c4):=(hbel.cell (p:=⟨w.heap.size,7,none⟩) hWl).trans HQ.out;by_cases hlt:j<l.length
    ·obtain⟨b,off,B1,B2,B3,B4,e1,e2,e3,e4,rfl,hb,HT,h8⟩:=Fq HC.out HL.out (HKB.out wr hbel) hlt
     have g0:wr.cell? ⟨b,off+j*8,none⟩=some (.int .i64 (kind l[j])):=h8.p0;have K1:=Qd (KID.out (kind l[j]) (at_ s j) wr (HAM.out j));have HS:Hid (Ub (at_ s j) (kind l[j])=true->∀i (hi:i<l.length),i<j+1->Ub (at_ s i) (kind l[i])=true):=Qd (λh i hi hij=>by
      by_cases e:i=j
      ·subst e;exact h
      exact HI.out i hi (by omega))
     have HF:=Qd (KB.out j hlt);have hlast:((⟨s.toArray⟩:ByteArray)[s.length-1]'(show s.length-1<(⟨s.toArray⟩:ByteArray).size from(by omega:s.length-1<s.length))).toNat=(s[s.length-1]'(by omega)).toNat:=rfl;clear h8 HT;generalize Ub (at_ s j) (kind l[j])=r at*;generalize kind l[j]=kj at*;by_cases hjs:j<s.length
     ·have hgy:((⟨s.toArray⟩:ByteArray)[j]'(show j<(⟨s.toArray⟩:ByteArray).size from hjs)).toNat=(at_ s j).toNat:=HA1.out j hjs
      generalize(s[s.length-1]'(by omega)).toNat=z at*;generalize(at_ s j).toNat=y2 at*;cases r
      ·have HZ:=Qd (HF.out rfl)
       go_wp2_with fail
       refine K1.out.mono ?_;rintro e w2 ⟨rfl,rfl⟩;go_wp2_with fail
       go_ret;exact⟨Aa (by rw[HZ.out]),HWB.out.trans (hbel.mono HWS.out)⟩
      have HN:=Qd (HS.out rfl);go_wp2_with fail
      refine K1.out.mono ?_;rintro e w2 ⟨rfl,rfl⟩;go_wp2_with fail
      go_roundw
      case rel=>exact⟨j+1,by omega,by go_num,HN,hbel⟩
      case measure=>simp[intOf];omega
     have hcon:s.length<l.length:=by omega
     first
      |exact absurd hcon h1
      |(
       have hgz:(s[s.length-1]'(by omega)).toNat=(at_ s j).toNat:=HA2.out j hjs;rw[hgz] at hlast;clear hgz;generalize(at_ s j).toNat=y2 at*;cases r
       ·have HZ:=Qd (HF.out rfl)
        go_wp2_with fail
        refine K1.out.mono ?_;rintro e w2 ⟨rfl,rfl⟩;go_wp2_with fail
        go_ret;exact⟨Aa (by rw[HZ.out]),HWB.out.trans (hbel.mono HWS.out)⟩
       have HN:=Qd (HS.out rfl);go_wp2_with fail
       refine K1.out.mono ?_;rintro e w2 ⟨rfl,rfl⟩;go_wp2_with fail
       go_roundw
       case rel=>exact⟨j+1,by omega,by go_num,HN,hbel⟩
       case measure=>simp[intOf];omega)
    have HZ:=Qd (KG2.out (λi hi=>HI.out i hi (by omega)));go_wp2_with fail
    go_ret;exact⟨Aa (by rw[HZ.out]),HWB.out.trans (hbel.mono HWS.out)⟩
 exact go more hx
end
end Go.Proofs.YtceplkpjnebnfaaGreatDoor
