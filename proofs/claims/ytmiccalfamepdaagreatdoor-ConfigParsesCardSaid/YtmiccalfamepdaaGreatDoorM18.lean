/- Texts of this proof, joined. -/
import Derived.Test.YtmiccalfamepdaaGreatDoorM17
import Derived.Test.YtmiccalfamepdaaGreatDoorRows
import Derived.Lib.LaidTab
import Derived.LaidMore
import Derived.Stop.LaidErr
import Derived.MakeChecks
import Derived.Lay
set_option linter.all false
set_option maxHeartbeats 8000000
set_option maxRecDepth 100000
namespace Go.Proofs.YtmiccalfamepdaaGreatDoor
section
open Go.RowKit Ar
def x0:Co.Con:=⟨0,0,0,0,List.replicate 8 ⟨0,[],0,[]⟩⟩
theorem Wba {α β:Type}(a:α)(f:α->β)(k:Nat)(d:β)(h:f a=d):(((List.replicate 8 a)[k]?).map f).getD d=d:=by
 rw[List.getElem?_replicate]
 split
 ·exact h
 rfl
theorem J5:Fa x0=Fa Ck:=by
 unfold Fa x0 Ck
 congr 1
 ·funext k;exact Wba _ _ k 0 rfl
 ·funext k;exact Wba _ _ k 0 rfl
 ·funext k;exact Wba _ _ k [] rfl
 funext k;exact Wba _ _ k [] rfl
theorem Gu {c:Co.Ch}(h:c∈x0.ch):c=⟨0,[],0,[]⟩:=(List.mem_replicate.1 h).2
theorem Tj:Co.ConWf x0:=
 { auth:=by show(0:Nat)<_;omega
   nums:=λn h=>by
    have:n=0:=by simpa [x0] using h
    subst this;omega
   ch:=λc h=>by
    rw[Gu h];exact⟨by show(0:Nat)<_;omega,by show(0:Nat)<_;omega,nofun,nofun⟩
   len:=rfl}
theorem Eo:Yj x0:=
 { wf:=Tj
   ch:=λc h=>by
    have:=Gu h;subst this;exact⟨Tj.ch _ h,rfl,Nat.zero_le _,nofun,Nat.zero_le _⟩}
theorem L5:Jb (Fa x0)=true:=by rw[J5];decide
theorem Jka:Uc (Co.conR (Co.conT x0)) (Co.conT x0)=some x0:=by
 rw[Co.con_text Tj (List.all_eq_true.2 λc h=>by rw[Gu h];rfl),if_pos (show Co.okCon x0=true from List.all_eq_true.2 λc h=>by rw[Gu h];rfl)];unfold Uc;dsimp only;rw[if_pos ⟨L5,rfl⟩]
theorem Aia:Lab.text 0=[123,125]:=by
 unfold Lab.text;rw[Lab.pieces_nil (by unfold Lab.tagsFrom;simp)];rfl
theorem Bia:Lib.itoa 0=[48]:=by
 unfold Lib.itoa;rw[if_neg (by decide)];exact Lib.decDigits_one (by decide)
theorem Kka:∃T,Co.conT x0=[49,52,58,115,99,114,105,109,32,99,111,110,102,105,103,32,49,44,53,58,48,32,48,32,48,44,50,58,123,125]++(44::T):=by
 refine⟨Co.chsT x0.ch,?_⟩;have h3:Ga [0,0,0]=[48,32,48,32,48]:=by rw[Eg,Eg,Ei,Bia];rfl
 show(Nw.net Co.head14++(Nw.net (Ga [0,0,0])++Nw.net (Lab.text 0)))++_=_;rw[Aia,h3];unfold Nw.net;rw[show Co.head14.length=14 from rfl,show([48,32,48,32,48]:List UInt8).length=5 from rfl,show([123,125]:List UInt8).length=2 from rfl,Lib.decDigits_two (by decide) (by decide),Lib.decDigits_one (by decide),Lib.decDigits_one (by decide)];rfl
theorem Qia (W:World):IsCfg W W.heap.size (Fa Ck) zC:=(Ge W W.heap.size).is
theorem Fo (w:World)(hT:RdW w):
 Calls Tryz.prog 7 #[] w λe w'=>e= .returned (.bool true)/\Below w.heap.size w w':=by
 have TX:=Qd (Xg x0 zC w w.heap.size (by rw[J5];exact Qia w) Lr Eo hT.sp);have PA:=λ(wx:World) (hx:Below w.heap.size w wx)=>Zi (Co.conT x0) wx (by have h1:=Ui Tj;have h2:=Pg (l:=x0.ch) Eo.ch;rw[Tj.len] at h2;unfold Co.conT;rw[List.length_append];omega) (Bu Eo) (λx hx hr=>by
  rw[Co.con_text Tj (List.all_eq_true.2 λc h=>by rw[Gu h];rfl)] at hx
  split at hx
  ·injection hx with hx;subst hx;exact Eo
  cases hx) (hT.below hx)
 rw[Jka] at PA;replace PA:=Qd PA;obtain⟨T,hT0⟩:=Kka;have hl31:31<=(Co.conT x0).length:=by rw[hT0];simp
 have hl99:(Co.conT x0).length<=9000000000:=by have h1:=Ui Tj;have h2:=Pg (l:=x0.ch) Eo.ch;rw[Tj.len] at h2;unfold Co.conT;rw[List.length_append];omega
 have hex:(⟨(Co.conT x0).toArray⟩:ByteArray).extract 0 30=⟨#[49,52,58,115,99,114,105,109,32,99,111,110,102,105,103,32,49,44,53,58,48,32,48,32,48,44,50,58,123,125]⟩:=by
  rw[Mk _ _ (by omega),hT0];rfl
 have hsz:(⟨(Co.conT x0).toArray⟩:ByteArray).size=(Co.conT x0).length:=rfl;have hq:decide ((30:Int)<((Co.conT x0).length:Int))=true:=decide_eq_true (by omega);have hb0:Below w.heap.size w w:=Br;clear hT0;generalize Co.conT x0=t at*;unfold zC at TX;go_enter Tryz.func7,Tryz.ntmps7
 go_wp2_with fail
 refine TX.out.mono ?_;rintro e W1 ⟨rfl,hb1⟩;have P1:=Qd (PA.out W1 hb1);clear TX PA hb0;go_wp2_with fail
 refine P1.out.mono ?_;rintro e W2 ⟨C,n0,x,hcase,rfl,hC,hb2⟩;obtain⟨rfl,rfl⟩:n0=0/\x=x0:=by
  rcases hcase with⟨h1,h2⟩ |⟨-,h2,-⟩
  ·injection h2 with h2;exact⟨h1,h2.symm⟩
  cases h2
 obtain⟨W3,hW3⟩:∃W3,W3=W2.alloc (.cells C 29):=⟨_,rfl⟩;have hb3:Below W2.heap.size W2 W3:=by rw[hW3];exact Br.alloc Lr _
 have hC36:=hC.size;have hone:=Qd hC.one;have HQ3:Hid (∀wx,Below W3.heap.size W3 wx->wx.heap[W2.heap.size]? =some (.cells C 29 (0,0))):=Qd (λwx h=>(h.block _ (by rw[hW3];simp)).trans (by rw[hW3];exact heap_alloc_new _ _));have SM:=Px (Fa x0) (Fa Ck) C zC W3 W3.heap.size ((hC.below hb3).keep (λ_ _=>rfl) hb3.size) (Qia W3) Lr;rw[J5,Dl] at SM;replace SM:=Qd SM;have RG:=λ(wx:World) (h:Below W3.heap.size W3 wx)=>Bi (Fa x0) C wx wx.heap.size (((hC.below hb3).keep (λ_ _=>rfl) hb3.size).below h|>.keep (λ_ _=>rfl) h.size) Lr;rw[L5] at RG;replace RG:=Qd RG;have hbw:=hb1.trans (hb2.mono hb1.size);have HBW:=Qd (hbw.trans (hb3.mono hbw.size));have hzC:Hid (zC.size=C.size):=Qd (by rw[hC36];rfl);have HW3:=Qd hW3;clear hW3 hb1 hb2 hb3 hbw P1 hC hcase;unfold zC at SM;go_upto_region 3 with(refine wpList_store_row rfl 29 (.tmp 2) (.tmp 9) rfl W2.heap.size C rfl rfl 29 _ (heap_alloc_new W2 _) (Ua hC36) hzC.out hone.out ?_;rw[World.setRow_alloc_new])
 rw[<-HW3.out];have K:=Qd (HQ3.out W3 Br);go_wp2_with (refine Eb rfl 29 (.tmp 2) rfl W2.heap.size rfl 29 C (0,0) _ K.out Tryz.underlying29 rfl (Ua hC36) ?_)
 refine SM.out.mono ?_;rintro e W4 ⟨rfl,hb4⟩;have K4:=Qd (HQ3.out W4 hb4);have RG4:=Qd (RG.out W4 hb4);have HBW4:=Qd (HBW.out.trans (hb4.mono HBW.out.size));clear hb4 SM RG HQ3 K;go_wp2_with (refine Eb rfl 29 (.tmp 2) rfl W2.heap.size rfl 29 C (0,0) _ K4.out Tryz.underlying29 rfl (Ua hC36) ?_)
 refine RG4.out.mono ?_;rintro e W5 ⟨rfl,hb5⟩;go_wp2_with fail
 go_ret;exact⟨by rfl,HBW4.out.trans (hb5.mono HBW4.out.size)⟩
end
section
open Go.RowKit Ar
def Zg (c:Wb):Co.Con:=⟨c.fuel,c.quota,c.depth,c.auth,(List.range 8).map λk=>⟨c.clear k,c.ins k,c.label k,c.draws k⟩⟩
theorem Pl (c:Wb){k:Nat}(h:k<8):(Fa (Zg c)).clear k=c.clear k/\(Fa (Zg c)).label k=c.label k/\(Fa (Zg c)).ins k=c.ins k/\(Fa (Zg c)).draws k=c.draws k:=by
 have hl:k<(Zg c).ch.length:=by simp[Zg,h]
 obtain⟨h1,h2,h3,h4⟩:=Nk hl;rw[h1,h2,h3,h4];simp[Zg]
theorem Xba {w:World}{B:Nat}{c:Wb}{C:Array Value}(h:IsCfg w B c C):IsCfg w B (Fa (Zg c)) C:=
 { size:=h.size
   clear:=λk hk=>by rw[(Pl c hk).1];exact h.clear k hk
   ins:=λk hk=>by rw[(Pl c hk).2.2.1];exact h.ins k hk
   label:=λk hk=>by rw[(Pl c hk).2.1];exact h.label k hk
   draws:=λk hk=>by rw[(Pl c hk).2.2.2];exact h.draws k hk
   auth:=h.auth
   authLt:=h.authLt
   fuel:=h.fuel
   quota:=h.quota
   depth:=h.depth
   wf:=h.wf}
theorem Ho {M:Nat}(hM:M<1000000000):∀{l:List Ba},(∀a∈l,(Sp.arrT a).length<=M)->(Co.arrsT l).length<=l.length*(M+12)
 | [],_=>Nat.zero_le _
 |a::r,h=>by
  have e:Co.arrsT (a::r)=Nw.net (Sp.arrT a)++Co.arrsT r:=rfl;have h1:=Ho hM (l:=r) (λx hx=>h x (by simp[hx]));have h2:=h a (by simp);have h3:=Qb (s:=Sp.arrT a) (by omega);rw[e,List.length_append,List.length_cons,Nat.succ_mul];omega
theorem I9 {w:World}{B:Nat}:∀{l:List Ba} {us:List Value},IsArrs w B l us->∀a∈l,Sp.wfA a
 | [],_,_=>nofun
 |a::r,us,h=>by
  rw[IsArrs] at h;obtain⟨u,t,-,h1,h2⟩:=h;intro b hb;rcases List.mem_cons.1 hb with rfl |hb
  ·exact IsArrP.wf _ _ (IsArr.p _ _ h1)
  exact I9 h2 b hb
theorem Cia {w:World}{B:Nat}{x:Co.Con}{C:Array Value}(h:IsCfg w B (Fa x) C)(hl:x.ch.length=8)(hr:Jb (Fa x)=true)(hp:∀k,k<8->∀a∈(Fa x).ins k,Dc a<=4000):Bma x/\Yj x:=by
 obtain⟨h1,h2⟩:=Bo hl hr;have key:∀c∈x.ch,Co.ChWf c/\∀a∈c.ins,Dc a<=4000:=λc hc=>by
  obtain⟨i,hi,rfl⟩:=List.getElem_of_mem hc;obtain⟨e1,e2,e3,e4⟩:=Nk hi;have hi8:i<8:=by omega
  have k1:=(h.clear i hi8).2;have k2:=(h.label i hi8).2;obtain⟨A,cp,us,-,-,-,k3⟩:=h.ins i hi8;obtain⟨A',cp',-,-,k4,-⟩:=h.draws i hi8;have k5:=hp i hi8;rw[e1] at k1;rw[e2] at k2;rw[e3] at k3 k5;rw[e4] at k4;exact⟨⟨k1,k2,I9 k3,k4⟩,k5⟩
 refine⟨⟨hl,λc hc=>(key c hc).1,h1,λc hc=>(key c hc).2⟩,⟨⟨h.authLt,h.wf,λc hc=>(key c hc).1,hl⟩,λc hc=>?_⟩⟩;have hrc:=List.all_eq_true.1 h1 c hc;have hal:∀a∈c.ins,(Sp.arrT a).length<=940000:=λa ha=>by
  have:=Sp.arr_len a 8 (List.all_eq_true.1 hrc a ha) ((key c hc).1.ins a ha) ((key c hc).2 a ha);have:=(key c hc).2 a ha;omega
 have hat:=Ho (M:=940000) (by omega) hal;obtain⟨hn1,hn2⟩:=h2 c hc;exact⟨(key c hc).1,hrc,Nat.le_trans hat (Nat.le_trans (Nat.mul_le_mul_right _ hn1) (by omega)),λa ha=>by have:=hal a ha;omega,by omega⟩
theorem Hfa {x:Co.Con}(hw:Co.ConWf x)(h1:x.ch.all Co.rightCh=true)(hr:Jb (Fa x)=true):Uc (Co.conR (Co.conT x)) (Co.conT x)=if Co.okCon x=true then some x else none:=by
 rw[Co.con_text hw h1]
 split
 ·unfold Uc
  dsimp only;rw[if_pos ⟨hr,rfl⟩]
 rfl
theorem Dia {x:Co.Con}(h:Yj x):(Co.conT x).length<=1700000000:=by
 have h1:=Ui h.wf;have h2:=Pg (l:=x.ch) h.ch;rw[h.wf.len] at h2;unfold Co.conT;rw[List.length_append];omega
theorem Hu (x:Co.Con)(C:Array Value)(w:World)(hC:IsCfg w w.heap.size (Fa x) C)(hl:x.ch.length=8)(hT:RdW w):
 Calls Tryz.prog 4 #[.agg C] w λe w'=>e= .returned (.bool true)/\Below w.heap.size w w':=by
 obtain⟨W,hW⟩:∃W,W=w.alloc (.cells C 29):=⟨_,rfl⟩;have hWb:Below w.heap.size w W:=by rw[hW];exact Br.alloc Lr _
 have hIS:∀wx,Below W.heap.size W wx->IsCfg wx wx.heap.size (Fa x) C:=λwx h=>(hC.below (hWb.trans (h.mono hWb.size))).keep (λ_ _=>rfl) (Nat.le_trans hWb.size h.size);have HQ:Hid (∀wx,Below W.heap.size W wx->wx.heap[w.heap.size]? =some (.cells C 29 (0,0))):=Qd (λwx h=>(h.block _ (by rw[hW];simp)).trans (by rw[hW];exact heap_alloc_new _ _));have HIS:=Qd hIS;have HTW:=Qd (λwx (h:Below W.heap.size W wx)=>(hT.below hWb).below h);have HEND:Hid (∀wx,Below W.heap.size W wx->Below w.heap.size w wx):=Qd (λwx h=>hWb.trans (h.mono hWb.size));have AW:=Qd (λwx (h:Below W.heap.size W wx)=>Fo wx (HTW.out wx h));have hC36:=hC.size;have HW:=Qd hW;have FW:=Qd (Tda (Fa x) C W W.heap.size (hIS W Br) Lr);have RG:=Qd (λwx (h:Below W.heap.size W wx)=>Bi (Fa x) C wx wx.heap.size (HIS.out wx h) Lr);clear hW hIS hT hC hWb;obtain⟨g,hg⟩:∃g,g=w.heap.size:=⟨_,rfl⟩;rw[<-hg] at HQ;have HG:=Qd hg;have K:=Qd (HQ.out W Br);go_enter Tryz.func4,Tryz.ntmps4
 go_upto_region 1 with fail
 rw[<-HW.out,<-HG.out];clear hg HW;go_wp2_with (refine Eb rfl 29 (.tmp 1) rfl g rfl 29 C (0,0) _ K.out Tryz.underlying29 rfl (Ua hC36) ?_)
 refine FW.out.mono ?_;rintro e w1 ⟨r,rfl,hfew,hb1⟩;have HFEW:=Qd hfew;have HB1:=Qd hb1;have K1:=Qd (HQ.out _ hb1);have R1:=Qd (RG.out _ hb1);clear hb1 hfew FW K;cases r with
 |false=>
  have A1:=Qd (AW.out _ HB1.out);go_wp2_with fail
  refine A1.out.mono ?_;rintro e w9 ⟨rfl,hb9⟩;go_wp2_with fail
  go_ret;exact⟨rfl,HEND.out _ (HB1.out.trans (hb9.mono HB1.out.size))⟩
 |true=>
  go_wp2_with (refine Eb rfl 29 (.tmp 1) rfl g rfl 29 C (0,0) _ K1.out Tryz.underlying29 rfl (Ua hC36) ?_)
  refine R1.out.mono ?_;rintro e w2 ⟨rfl,hb2⟩;have HB2:=Qd (HB1.out.trans (hb2.mono HB1.out.size));clear hb2 R1 RG K1;cases hR:Jb (Fa x) with
  |false=>
   have A1:=Qd (AW.out _ HB2.out);clear hR HFEW;go_wp2_with fail
   refine A1.out.mono ?_;rintro e w9 ⟨rfl,hb9⟩;go_wp2_with fail
   go_ret;exact⟨rfl,HEND.out _ (HB2.out.trans (hb9.mono HB2.out.size))⟩
  |true=>
   obtain⟨hfw,hft⟩:=Cia (HIS.out _ HB2.out) hl hR (HFEW.out (by first|rfl |trivial));have hrd:=Hfa hft.wf hfw.right hR;have hcl:=Dia hft;have TX:=Qd (Xg x C w2 w2.heap.size (HIS.out _ HB2.out) Lr hft (HTW.out _ HB2.out).sp);have PA:=λwx (h:Below W.heap.size W wx)=>Zi (Co.conT x) wx (by omega) (Bu hft) (λy hy hr=>by
    rw[Co.con_text hft.wf hfw.right] at hy
    split at hy
    ·injection hy with hy;rw[<-hy];exact hft
    cases hy) (HTW.out wx h)
   rw[hrd] at PA;replace PA:=Qd PA;have RT:=Qd (λwx (h:Below W.heap.size W wx)=>Fm x C wx wx.heap.size (HIS.out wx h) Lr hft);have AG:=Qd (λwx (h:Below W.heap.size W wx)=>Gfa x C wx wx.heap.size (HIS.out wx h) Lr hfw);have hsz:(⟨(Co.conT x).toArray⟩:ByteArray).size=(Co.conT x).length:=rfl;have K2:=Qd (HQ.out _ HB2.out);clear hfw hft hrd hR HFEW;generalize Co.conT x=t at*;go_wp2_with (refine Eb rfl 29 (.tmp 1) rfl g rfl 29 C (0,0) _ K2.out Tryz.underlying29 rfl (Ua hC36) ?_)
   refine TX.out.mono ?_;rintro e w3 ⟨rfl,hb3⟩;have HB3:=Qd (HB2.out.trans (hb3.mono HB2.out.size));have P3:=Qd (PA.out _ HB3.out);clear hb3 TX PA K2;go_wp2_with fail
   refine P3.out.mono ?_;rintro e w4 ⟨C',n0,x',hcase,rfl,hC',hb4⟩;obtain⟨W5,hW5⟩:∃W5,W5=w4.alloc (.cells C' 29):=⟨_,rfl⟩;have hal:Below w4.heap.size w4 W5:=by rw[hW5];exact Br.alloc Lr _
   have hb35:=hb4.trans (hal.mono hb4.size);have HB5:=Qd (HB3.out.trans (hb35.mono HB3.out.size));have HQ5:Hid (∀wx,Below W5.heap.size W5 wx->wx.heap[w4.heap.size]? =some (.cells C' 29 (0,0))/\IsCfg wx wx.heap.size (Fa x') C'):=Qd (λwx h=>⟨(h.block _ (by rw[hW5];simp)).trans (by rw[hW5];exact heap_alloc_new _ _),(hC'.below (hal.trans (h.mono hal.size))).keep (λ_ _=>rfl) (Nat.le_trans hal.size h.size)⟩);have hC36':=hC'.size;have hone:=Qd hC'.one;have hzC:Hid (zC.size=C'.size):=Qd (by rw[hC36'];rfl);have HCS:=Qd hcase;have HW5:=Qd hW5;clear hW5 hal hb35 hb4 hC' hcase P3;obtain⟨g5,hg5⟩:∃g5,g5=w4.heap.size:=⟨_,rfl⟩;rw[<-hg5] at HQ5;have HG5:=Qd hg5;go_upto_region 5 with(refine wpList_store_row rfl 29 (.tmp 4) (.tmp 20) rfl w4.heap.size C' rfl rfl 29 _ (heap_alloc_new w4 _) (Ua hC36') hzC.out hone.out ?_;rw[World.setRow_alloc_new])
   rw[<-HW5.out,<-HG5.out];clear hg5 HW5;have K5:=Qd (HQ.out _ HB5.out);have R5:=Qd (RT.out _ HB5.out);go_wp2_with (refine Eb rfl 29 (.tmp 1) rfl g rfl 29 C (0,0) _ K5.out Tryz.underlying29 rfl (Ua hC36) ?_)
   refine R5.out.mono ?_;rintro e w6 ⟨rfl,hb6⟩;have HB6:=Qd (HB5.out.trans (hb6.mono HB5.out.size));have HB56:=Qd hb6;have K6:=Qd (HQ.out _ HB6.out);have A6:=Qd (AG.out _ HB6.out);clear hb6 R5 RT AG K5;go_wp2_with (refine Eb rfl 29 (.tmp 1) rfl g rfl 29 C (0,0) _ K6.out Tryz.underlying29 rfl (Ua hC36) ?_)
   refine A6.out.mono ?_;rintro e w7 ⟨rfl,hb7⟩;have HB7:=Qd (HB6.out.trans (hb7.mono HB6.out.size));have HB57:=Qd (HB56.out.trans (hb7.mono HB56.out.size));clear hb7 A6 K6;cases hok:Co.okCon x with
   |false=>
    obtain rfl:n0=12:=by
     rcases HCS.out with⟨-,h⟩ |⟨h,-⟩
     ·rw[hok] at h;cases h
     exact h
    have A1:=Qd (AW.out _ HB7.out);clear hok HCS;go_wp2_with fail
    refine A1.out.mono ?_;rintro e w9 ⟨rfl,hb9⟩;go_wp2_with fail
    go_ret;exact⟨rfl,HEND.out _ (HB7.out.trans (hb9.mono HB7.out.size))⟩
   |true=>
    obtain⟨rfl,rfl⟩:n0=0/\x'=x:=by
     rcases HCS.out with⟨h1,h⟩ |⟨-,h,-⟩
     ·rw[hok,if_pos rfl] at h;injection h with h;exact⟨h1,h.symm⟩
     rw[hok,if_pos rfl] at h;cases h
    have SM:=Px (Fa x') (Fa x') C C' w7 w7.heap.size (HIS.out _ HB7.out) (HQ5.out _ HB57.out).2 Lr;rw[Dl] at SM;replace SM:=Qd SM;have K7:=Qd (HQ.out _ HB7.out);have K8:=Qd (HQ5.out _ HB57.out).1;clear hok HCS;go_wp2_with (first|(refine Eb rfl 29 (.tmp 1) rfl g rfl 29 C (0,0) _ K7.out Tryz.underlying29 rfl (Ua hC36) ?_) |(refine Eb rfl 29 (.tmp 4) rfl g5 rfl 29 C' (0,0) _ K8.out Tryz.underlying29 rfl (Ua hC36') ?_))
    refine SM.out.mono ?_;rintro e w8 ⟨rfl,hb8⟩;have HB8:=Qd (HB7.out.trans (hb8.mono HB7.out.size));have A1:=Qd (AW.out _ HB8.out);clear hb8 SM K7 K8;go_wp2_with fail
    refine A1.out.mono ?_;rintro e w9 ⟨rfl,hb9⟩;go_wp2_with fail
    go_ret;exact⟨rfl,HEND.out _ (HB8.out.trans (hb9.mono HB8.out.size))⟩
theorem Fr (cf:Wb)(C:Array Value)(w:World)(hC:IsCfg w w.heap.size cf C)(hT:RdW w):
 Calls Tryz.prog 4 #[.agg C] w λe w'=>e= .returned (.bool true)/\Below w.heap.size w w':=
 Hu (Zg cf) C w (Xba hC) (by simp[Zg]) hT
end
section
open Go.ChangeShapes Go.WideShapes Go.ChangeAt Go.RowKit
theorem Eia:Tryz.prog.globalNamed "internal/strconv.uint64pow10" =some 1:=by kernel_rfl
theorem Hoa:(Tryz.prog.globals[1]?).map (·.type)=some 201:=by kernel_rfl
theorem Ioa:Tryz.prog.cellsOf 201=20:=by kernel_rfl
theorem Ona:Tryz.prog.cellsOf 22=1:=by kernel_rfl
theorem Ifa:Tryz.prog.globalNamed "math/bits.deBruijn64tab" =some 0:=by kernel_rfl
theorem Cma:(Tryz.prog.globals[0]?).map (·.type)=some 141:=by kernel_rfl
theorem Dma:Tryz.prog.cellsOf 141=64:=by kernel_rfl
theorem Pna:Tryz.prog.cellsOf 5=1:=by kernel_rfl
theorem Jfa:Tryz.prog.globalNamed "strconv.ErrRange" =some 4:=by kernel_rfl
theorem Ema:(Tryz.prog.globals[4]?).map (·.type)=some 54:=by kernel_rfl
theorem Fma:Tryz.prog.globalNamed "strconv.ErrSyntax" =some 3:=by kernel_rfl
theorem Joa:(Tryz.prog.globals[3]?).map (·.type)=some 54:=by kernel_rfl
theorem Gma: "*" ++ "errors.errorString" = "*errors.errorString" :=by decide
theorem Hma (u:TypeId)(h:Tryz.prog.typeName? 3 u=some "*errors.errorString"):u=231:=
 typeName_ptr_named (nm:= "errors.errorString") (by rw[Gma];kernel_rfl) (by kernel_rfl) (by decide) u (by rw[Gma];exact h)
theorem Ria:Tryz.prog.cellsOf 233=1:=by kernel_rfl
theorem Ima:Tryz.prog.cellsOf 9=1:=by kernel_rfl
def Iu:List (String×DataW Unit):=[("math/bits.deBruijn32tab",Rows.laid_math_bits_deBruijn32tab),("math/bits.deBruijn64tab",Rows.laid_math_bits_deBruijn64tab),("internal/strconv.uint64pow10",Rows.laid_internal_strconv_uint64pow10),("unicode/utf8.acceptRanges",Rows.laid_unicode_utf8_acceptRanges),("strconv.ErrRange",Rows.laid_strconv_ErrRange),("strconv.ErrSyntax",Rows.laid_strconv_ErrSyntax),("unicode/utf8.first",Rows.laid_unicode_utf8_first)]
theorem M5 (os:Os)(args:Array Value):laidMetH Tryz.prog Iu ((World.laidAll Tryz.prog os Iu).forCall (λ_ _=>0) ⟨#[],args,[]⟩).memory:=by
 rw[MakeChecks.laidMetH_plain _ _ _ (by kernel_rfl)];exact laidMet_laidAll _ (by kernel_rfl) (by kernel_rfl)
theorem O5 {W:World}{n:String}{g:Nat}{x:Value}(hg:Tryz.prog.globalNamed n=some g)(h:W.var? Tryz.prog n=some #[x]):W.cell? ⟨g,0,none⟩=some x:=by simpa using World.var?_cell hg h 0
theorem J9 {W:World}(h:laidMetH Tryz.prog Iu W):RdW W:=by
 rw[MakeChecks.laidMetH_plain _ _ _ (by kernel_rfl)] at h;have h1:=h.tail;have h2:=h.tail.tail;have h4:=h2.tail.tail;have h5:=h4.tail;have hP:=Lib.tabIs_of_head (k:= .u64) (zs:=Lib.pow10Tab) Eia Hoa Tryz.underlying201 Tryz.underlying22 Ona Ioa h2;have hT:=Lib.tabIs_of_head (k:= .u8) (zs:=Lib.deBruijn64tab.map λn:Nat=>(n:Int)) Ifa Cma Tryz.underlying141 Tryz.underlying5 Pna Dma h1;have hc:Tab64 W:=λj hj=>by
  have:=hT.cell Ifa j (by simpa using hj);rw[this]
  congr 2
  simp[List.getD_eq_getElem?_getD,List.getElem?_map];cases Lib.deBruijn64tab[j]? <;>simp
 have hl:∀g,Tryz.prog.globalNamed "internal/strconv.uint64pow10" =some g→g<W.heap.size:=λg e=>by
  obtain rfl:=Option.some.inj (Eia.symm.trans e);exact World.block_lt_of_cell? W _ (hP.cell Eia 0 (by decide))
 obtain⟨a0,s0,v0,-⟩:=laid_sentinel h4 Jfa Ema Tryz.underlying54 Hma Tryz.underlying231 Tryz.underlying233 rfl rfl Tryz.underlying9 Ria Ima;obtain⟨a1,s1,v1,-⟩:=laid_sentinel h5 Fma Joa Tryz.underlying54 Hma Tryz.underlying231 Tryz.underlying233 rfl rfl Tryz.underlying9 Ria Ima;exact⟨⟨hc,World.block_lt_of_cell? W _ (hc 0 (by decide)),⟨hP,hl⟩,⟨hP,hl⟩⟩,⟨_,O5 Fma v1,.inr ⟨_,_,rfl⟩⟩,⟨_,O5 Jfa v0,.inr ⟨_,_,rfl⟩⟩⟩
end
section
open Go.RowKit Ar
def Yba (x:Co.Con):Prop:=∀c∈x.ch,∀a∈c.ins,(Sp.arrT a).length<=4000
theorem Dk:∀{f:Nat} {s:List UInt8} {l:List Ba},s.length<=4000->Co.arrsR f s=some l->∀a∈l,(Sp.arrT a).length<=4000
 | 0,s,l,_,h=>by rw[Co.arrsR] at h;injection h with h;subst h;exact nofun
 |f+1,s,l,hs,h=>by
  rw[Co.arrsR] at h
  split at h
  ·injection h with h;subst h;exact nofun
  split at h
  ·cases h
  next p hp=>
  have hc:=Sp.cut_less hp
  split at h
  ·cases h
  next a ha=>
  obtain⟨l',h',rfl⟩:=Option.map_eq_some_iff.1 h;intro b hb;rcases List.mem_cons.1 hb with rfl |hb
  ·unfold Sp.parseX at ha
   split at ha
   ·cases ha
   split at ha
   ·next e=>injection ha with ha;subst ha;rw[e.2];omega
   cases ha
  exact Dk (by omega) h' b hb
theorem Gr {s:List UInt8}{a:Nat×List UInt8}(h:Co.tagsR s=some a):a.2.length<=s.length:=by
 unfold Co.tagsR at h
 split at h
 ·cases h
 next p hp=>obtain⟨l,-,rfl⟩:=Option.map_eq_some_iff.1 h;have:=Sp.cut_less hp;dsimp only;omega
theorem P5 {s:List UInt8}{a:List Int×List UInt8}(h:Co.intsR s=some a):a.2.length<=s.length:=by
 unfold Co.intsR at h
 split at h
 ·cases h
 next p hp=>obtain⟨l,-,rfl⟩:=Option.map_eq_some_iff.1 h;have:=Sp.cut_less hp;dsimp only;omega
theorem Lka {s:List UInt8}{a:List Ba×List UInt8}(hs:s.length<=4000)(h:Co.insR s=some a):a.2.length<=s.length/\∀x∈a.1,(Sp.arrT x).length<=4000:=by
 unfold Co.insR at h
 split at h
 ·cases h
 next p hp=>obtain⟨l,hl,rfl⟩:=Option.map_eq_some_iff.1 h;have:=Sp.cut_less hp;exact⟨by dsimp only;omega,Dk (by omega) hl⟩
theorem Ju:∀{n:Nat} {s:List UInt8} {L:List Co.Ch},s.length<=4000->Co.chsR n s=some L->∀c∈L,∀a∈c.ins,(Sp.arrT a).length<=4000
 | 0,s,L,_,h=>by rw[Co.chsR] at h;injection h with h;subst h;exact nofun
 |n+1,s,L,hs,h=>by
  rw[Co.chsR] at h;obtain⟨c,hc,h⟩:=Option.bind_eq_some_iff.1 h;obtain⟨L',h',rfl⟩:=Option.map_eq_some_iff.1 h;unfold Co.chR at hc;obtain⟨a,ha,hc⟩:=Option.bind_eq_some_iff.1 hc;obtain⟨b,hb,hc⟩:=Option.bind_eq_some_iff.1 hc;obtain⟨d,hd,hc⟩:=Option.bind_eq_some_iff.1 hc;obtain⟨e,he,rfl⟩:=Option.map_eq_some_iff.1 hc;have h1:=Gr ha;have h2:=Lka (by omega) hb;have h3:=Gr hd;have h4:=P5 he;intro x hx;rcases List.mem_cons.1 hx with rfl |hx
  ·exact h2.2
  exact Ju (by have:=h2.1;dsimp only;omega) h' x hx
theorem Ku {s:List UInt8}{x:Co.Con}(hs:s.length<=4000)(h:Co.conR s=some x):Yba x:=by
 unfold Co.conR at h
 split at h
 ·cases h
 next p hp=>
 have hc:=Sp.cut_less hp
 split at h
 ·obtain⟨b,hb,h⟩:=Option.bind_eq_some_iff.1 h
  have h1:=P5 hb;unfold Co.conB at h
  split at h
  ·obtain⟨a,ha,h⟩:=Option.bind_eq_some_iff.1 h
   obtain⟨L,hL,rfl⟩:=Option.map_eq_some_iff.1 h;have h2:=Gr ha;exact Ju (by omega) hL
  cases h
 cases h
theorem Lu {ps:List (List UInt8)}(hp:∀i,(Co.part ps i).length<=4000):∀{n k:Nat} {L:List Co.Ch},Co.chsD ps n k=some L->∀c∈L,∀a∈c.ins,(Sp.arrT a).length<=4000
 | 0,k,L,h=>by rw[Co.chsD] at h;injection h with h;subst h;exact nofun
 |n+1,k,L,h=>by
  rw[Co.chsD] at h;obtain⟨c,hc,h⟩:=Option.bind_eq_some_iff.1 h;obtain⟨L',h',rfl⟩:=Option.map_eq_some_iff.1 h;unfold Co.chD at hc;obtain⟨a,ha,hc⟩:=Option.bind_eq_some_iff.1 hc;obtain⟨b,hb,hc⟩:=Option.bind_eq_some_iff.1 hc;obtain⟨d,hd,hc⟩:=Option.bind_eq_some_iff.1 hc;obtain⟨e,he,rfl⟩:=Option.map_eq_some_iff.1 hc;intro x hx;rcases List.mem_cons.1 hx with rfl |hx
  ·exact Dk (hp _) hb
  exact Lu hp h' x hx
theorem Zba {s:List UInt8}{x:Co.Con}(hs:s.length<=4000)(h:Co.conD s=some x):Yba x:=by
 unfold Co.conD at h
 split at h
 ·cases h
 next ps hps=>
 have hp:∀i,(Co.part ps i).length<=4000:=λi=>Nat.le_trans (H9 (Er hps) i) hs
 split at h
 ·unfold Co.conDp at h
  split at h
  ·obtain⟨a,ha,h⟩:=Option.bind_eq_some_iff.1 h
   obtain⟨L,hL,rfl⟩:=Option.map_eq_some_iff.1 h;exact Lu hp hL
  cases h
 cases h
theorem Jo {x:Co.Con}(hw:Co.ConWf x)(hr:Jb (Fa x)=true)(hs:Yba x):Yj x:=by
 obtain⟨h1,h2⟩:=Bo hw.len hr;refine⟨hw,λc hc=>?_⟩;have hat:=Ho (M:=4000) (by omega) (hs c hc);obtain⟨hn1,hn2⟩:=h2 c hc;exact⟨hw.ch c hc,List.all_eq_true.1 h1 c hc,Nat.le_trans hat (Nat.le_trans (Nat.mul_le_mul_right _ hn1) (by omega)),λa ha=>by have:=hs c hc a ha;omega,by omega⟩
theorem Fia {r:Option Co.Con}{s:List UInt8}{x:Co.Con}(h:Uc r s=some x):r=some x/\Jb (Fa x)=true/\Co.conT x=s:=by
 unfold Uc at h
 split at h
 ·cases h
 split at h
 ·next e=>injection h with h;subst h;exact⟨rfl,e⟩
 cases h
theorem Hr (s:List UInt8)(w:World)(hsl:s.length<=9223372036854775807)(hT:RdW w):
 Calls Tryz.prog 5 #[.string ⟨s.toArray⟩] w λe w'=>e= .returned (.bool true)/\Below w.heap.size w w':=by
 have hcase:∃t,t.length<=3000/\((3000<s.length/\t=s.take 3000)\/(s.length<=3000/\t=s)):=by
  by_cases hlen:3000<s.length
  ·exact⟨_,by rw[List.length_take];omega,.inl ⟨hlen,rfl⟩⟩
  exact⟨s,by omega,.inr ⟨by omega,rfl⟩⟩
 obtain⟨t,htl,hcase⟩:=hcase;have hsz:(⟨s.toArray⟩:ByteArray).size=s.length:=rfl;have hup:=Mk s 3000;have E1:Hid (3000<s.length->t=s.take 3000->(⟨s.toArray⟩:ByteArray).extract 0 3000=⟨t.toArray⟩):=Qd (λh e=>by rw[e];exact hup (by omega));obtain⟨X,hX⟩:∃X,X=Uc (Co.conR t) t:=⟨_,rfl⟩;have PA:=Zi t w (by omega) (S7 (by omega)) (λy hy hr=>Jo (Co.conR_ok hy).1 hr (Ku (by omega) hy)) hT;have RP:=λwx=>Yha t wx (by omega) (λy hy hr=>Jo (Co.conD_ok hy).1 hr (Zba (by omega) hy));rw[Ffa,<-hX] at RP;rw[<-hX] at PA;have HFT:Hid (∀y,X=some y->Yj y/\Jb (Fa y)=true/\Co.conT y=t):=Qd (λy hy=>by
  rw[hX] at hy;obtain⟨h1,h2,h3⟩:=Fia hy;exact⟨Jo (Co.conR_ok h1).1 h2 (Ku (by omega) h1),h2,h3⟩)
 replace PA:=Qd PA;replace RP:=Qd RP;have HT:=Qd hT;have AW:=Qd (λwx (h:Below w.heap.size w wx)=>Fo wx (HT.out.below h));clear hX hup hT;go_enter Tryz.func5,Tryz.ntmps5
 rcases hcase with⟨h1,h2⟩ |⟨h1,rfl⟩
 case' inl=>
  have hi:(3000:Int)<(s.length:Int):=by omega
  have hi':(3000:Int)<=(s.length:Int):=by omega
  replace h2:=Qd h2;go_wp2_with fail
  rw[E1.out h1 h2.out];clear hi hi' h1 h2 E1
 case' inr=>
  clear E1;go_wp2_with fail
  clear h1
 all_goals
  refine PA.out.mono ?_;rintro e w1 ⟨C,n0,x,hcs,rfl,hC,hb1⟩;obtain⟨W2,hW2⟩:∃W2,W2=w1.alloc (.cells C 29):=⟨_,rfl⟩;have hal:Below w1.heap.size w1 W2:=by rw[hW2];exact Br.alloc Lr _
  have HB2:=Qd (hb1.trans (hal.mono hb1.size));have HQ2:Hid (∀wx,Below W2.heap.size W2 wx->wx.heap[w1.heap.size]? =some (.cells C 29 (0,0))/\IsCfg wx wx.heap.size (Fa x) C):=Qd (λwx h=>⟨(h.block _ (by rw[hW2];simp)).trans (by rw[hW2];exact heap_alloc_new _ _),(hC.below (hal.trans (h.mono hal.size))).keep (λ_ _=>rfl) (Nat.le_trans hal.size h.size)⟩);have hC36:=hC.size;have hone:=Qd hC.one;have hzC:Hid (zC.size=C.size):=Qd (by rw[hC36];rfl);have HW2:=Qd hW2;clear hW2 hal hb1 hC PA;obtain⟨g,hg⟩:∃g,g=w1.heap.size:=⟨_,rfl⟩;rw[<-hg] at HQ2;have HG:=Qd hg;go_upto_region 4 with(refine wpList_store_row rfl 29 (.tmp 3) (.tmp 15) rfl w1.heap.size C rfl rfl 29 _ (heap_alloc_new w1 _) (Ua hC36) hzC.out hone.out ?_;rw[World.setRow_alloc_new])
  rw[<-HW2.out,<-HG.out];clear hg HW2;go_wp2_with fail
  refine(RP.out _).mono ?_;rintro e w3 ⟨D,ok,y,hds,rfl,hD,hb3⟩;obtain⟨W4,hW4⟩:∃W4,W4=w3.alloc (.cells D 29):=⟨_,rfl⟩;have hal:Below w3.heap.size w3 W4:=by rw[hW4];exact Br.alloc Lr _
  have hb24:=hb3.trans (hal.mono hb3.size);have HB24:=Qd hb24;have HB4:=Qd (HB2.out.trans (hb24.mono HB2.out.size));have HQ4:Hid (∀wx,Below W4.heap.size W4 wx->wx.heap[w3.heap.size]? =some (.cells D 29 (0,0))/\IsCfg wx wx.heap.size (Fa y) D):=Qd (λwx h=>⟨(h.block _ (by rw[hW4];simp)).trans (by rw[hW4];exact heap_alloc_new _ _),(hD.below (hal.trans (h.mono hal.size))).keep (λ_ _=>rfl) (Nat.le_trans hal.size h.size)⟩);have hD36:=hD.size;have honeD:=Qd hD.one;have hzD:Hid (zC.size=D.size):=Qd (by rw[hD36];rfl);have HW4:=Qd hW4;clear hW4 hal hb24 hb3 hD RP;obtain⟨g4,hg4⟩:∃g,g=w3.heap.size:=⟨_,rfl⟩;rw[<-hg4] at HQ4;have HG4:=Qd hg4;go_upto_region 5 with(refine wpList_store_row rfl 29 (.tmp 5) (.tmp 20) rfl w3.heap.size D rfl rfl 29 _ (heap_alloc_new w3 _) (Ua hD36) hzD.out honeD.out ?_;rw[World.setRow_alloc_new])
  rw[<-HW4.out,<-HG4.out];clear hg4 HW4 hone hzC honeD hzD;obtain⟨rfl,hboth⟩:y=x/\((n0=12/\ok=false)\/(n0=0/\ok=true/\X=some x)):=by
   rcases hcs with⟨h1,h2⟩ |⟨h1,h2,h3⟩<;>rcases hds with⟨h4,h5⟩ |⟨h4,h5,h6⟩
   ·rw[h2] at h5;injection h5 with h5;exact⟨h5.symm,.inr ⟨h1,h4,h2⟩⟩
   ·rw[h2] at h5;cases h5
   ·rw[h2] at h5;cases h5
   exact⟨by rw[h3,h6],.inl ⟨h1,h4⟩⟩
  have SM:=I5 (Fa y) (Fa y) C D W4 W4.heap.size (HQ2.out _ HB24.out).2 (HQ4.out _ Br).2 Lr;rw[Dl] at SM;replace SM:=Qd SM;have K2:=Qd (HQ2.out _ HB24.out).1;have K4:=Qd (HQ4.out _ Br).1;have HBO:=Qd hboth;clear hcs hds hboth;rcases HBO.out with⟨rfl,rfl⟩ |⟨rfl,rfl,hXy⟩
  ·go_wp2_with (first|(refine Eb rfl 29 (.tmp 3) rfl g rfl 29 C (0,0) _ K2.out Tryz.underlying29 rfl (Ua hC36) ?_) |(refine Eb rfl 29 (.tmp 5) rfl g4 rfl 29 D (0,0) _ K4.out Tryz.underlying29 rfl (Ua hD36) ?_))
   refine SM.out.mono ?_;rintro e w5 ⟨rfl,hb5⟩;have HB5:=Qd (HB4.out.trans (hb5.mono HB4.out.size));have A1:=Qd (AW.out _ HB5.out);clear hb5 SM K2 K4;go_wp2_with fail
   refine A1.out.mono ?_;rintro e w9 ⟨rfl,hb9⟩;go_wp2_with fail
   go_ret;exact⟨rfl,HB5.out.trans (hb9.mono HB5.out.size)⟩
  obtain⟨hft,hrt,hct⟩:=HFT.out y hXy;have TX:=λwx (h:Below W4.heap.size W4 wx)=>Xg y C wx wx.heap.size (HQ2.out _ (HB24.out.trans (h.mono HB24.out.size))).2 Lr hft (HT.out.below (HB4.out.trans (h.mono HB4.out.size))).sp;rw[hct] at TX;replace TX:=Qd TX;have RG:=λwx (h:Below W4.heap.size W4 wx)=>Bi (Fa y) C wx wx.heap.size (HQ2.out _ (HB24.out.trans (h.mono HB24.out.size))).2 Lr;rw[hrt] at RG;replace RG:=Qd RG;have K5:=Qd (λwx (h:Below W4.heap.size W4 wx)=>(HQ2.out wx (HB24.out.trans (h.mono HB24.out.size))).1);clear hft hrt hct hXy HBO HFT;go_wp2_with (first|(refine Eb rfl 29 (.tmp 3) rfl g rfl 29 C (0,0) _ K2.out Tryz.underlying29 rfl (Ua hC36) ?_) |(refine Eb rfl 29 (.tmp 5) rfl g4 rfl 29 D (0,0) _ K4.out Tryz.underlying29 rfl (Ua hD36) ?_))
  refine SM.out.mono ?_;rintro e w5 ⟨rfl,hb5⟩;have HB45:=Qd hb5;have T5:=Qd (TX.out _ hb5);have K6:=Qd (K5.out _ hb5);clear hb5 SM K2 K4 TX;go_wp2_with (refine Eb rfl 29 (.tmp 3) rfl g rfl 29 C (0,0) _ K6.out Tryz.underlying29 rfl (Ua hC36) ?_)
  refine T5.out.mono ?_;rintro e w6 ⟨rfl,hb6⟩;have HB46:=Qd (HB45.out.trans (hb6.mono HB45.out.size));have R6:=Qd (RG.out _ HB46.out);have K7:=Qd (K5.out _ HB46.out);clear hb6 T5 K6 RG K5;go_wp2_with (refine Eb rfl 29 (.tmp 3) rfl g rfl 29 C (0,0) _ K7.out Tryz.underlying29 rfl (Ua hC36) ?_)
  refine R6.out.mono ?_;rintro e w7 ⟨rfl,hb7⟩;have h47:=HB46.out.trans (hb7.mono HB46.out.size);have HB7:=Qd (HB4.out.trans (h47.mono HB4.out.size));have A1:=Qd (AW.out _ HB7.out);clear hb7 h47 R6 K7;go_wp2_with fail
  refine A1.out.mono ?_;rintro e w9 ⟨rfl,hb9⟩;go_wp2_with fail
  go_ret;exact⟨rfl,HB7.out.trans (hb9.mono HB7.out.size)⟩
theorem Zo (s:ByteArray)(w:World)(hs:s.size<=maxLen)(hT:RdW w):
 Calls Tryz.prog 5 #[.string s] w λe w'=>e= .returned (.bool true)/\Below w.heap.size w w':=by
 obtain⟨⟨l⟩⟩:=s;exact Hr l w (by unfold maxLen at hs;exact hs) hT
end
end Go.Proofs.YtmiccalfamepdaaGreatDoor
