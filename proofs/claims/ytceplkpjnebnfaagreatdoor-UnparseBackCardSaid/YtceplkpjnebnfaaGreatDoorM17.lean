/- Texts of this proof, joined. -/
import Derived.Test.YtceplkpjnebnfaaGreatDoorM16
set_option linter.all false
set_option maxHeartbeats 8000000
set_option maxRecDepth 100000
namespace Go.Proofs.YtceplkpjnebnfaaGreatDoor
section
open Go.RowKit Tr
def Pa (s0 s1 s2 s5 s6 s7 s8 s9 s10 s11 s12 s13 s14 s15 s16 s17 s18 s19 s20 s21 s22 s23 s24 s25 s26 s27 s28 s29 s30 s31 s32 s33 s34 s35 s36 s37 s38 s39 s40 s41 s42 s43 s44 s45 s46 s47 s48 s49 s50 s60 s61 s62 s63 s64 s65 s66 s67 s68 s69 s70 s71 s72 s73 s74:Value)(xs:Nat->Value):Act:={tmps:= #[s0,s1,s2,xs 10,xs 11,s5,s6,s7,s8,s9,s10,s11,s12,s13,s14,s15,s16,s17,s18,s19,s20,s21,s22,s23,s24,s25,s26,s27,s28,s29,s30,s31,s32,s33,s34,s35,s36,s37,s38,s39,s40,s41,s42,s43,s44,s45,s46,s47,s48,s49,s50,xs 0,xs 1,xs 2,xs 3,xs 4,xs 5,xs 6,xs 7,xs 8,s60,s61,s62,s63,s64,s65,s66,s67,s68,s69,s70,s71,s72,s73,s74],defers:=[]}
def Aha (rb g j c n:Nat)(a:Nat):Nat->Value->Prop
 | 0,v=>v= .agg #[.int .i64 0,.int .i64 0,.string ⟨#[]⟩,.bool false,.slice none 0 0,.slice none 0 0,.slice none 0 0,.slice none 0 0]
 | 1,v=>v= .slice (some ⟨g,0,none⟩) n c
 | 2,v=>v= .pointer (some ⟨rb,0,none⟩)
 | 3,v=>v= .pointer (some ⟨rb,0,none⟩)
 | 4,v=>v= .pointer (some ⟨rb,1,none⟩)
 | 5,v=>v= .int .i64 (j:Int)
 | 6,v=>v= .pointer (some ⟨g,j*8,none⟩)
 | 7,v=>v= .pointer (some ⟨g,j*8+7,none⟩)
 | 8,v=>v= .int .i64 (a:Int)
 | 9,v=>True
 | 10,v=>v= .int .i64 (a:Int)
 |_,v=>v= .int .i64 1
section
variable [Dc]
structure Qpa (w0:World) (ts:List Tk.Tok) (A:Option Addr) (c rb F:Nat):Prop where
 ex:Tf w0 ts A c rb 88 Pr.expr F
 bh:Tf w0 ts A c rb 141 Pr.behind F
 sd:Tf w0 ts A c rb 170 (λf T=>Pr.bnd (Pr.arrs f T) λl U=>Pr.ret (Pr.strandT l) U) F
 ar:Tf w0 ts A c rb 140 Pr.arr F
 al:Tf w0 ts A c rb 169 Pr.alone F
 fn:Tf w0 ts A c rb 87 Pr.func F
 pl:Tf w0 ts A c rb 138 Pr.plain F
 ss:Fka w0 ts A c rb 25 Pr.stmts F
 st:Cka w0 ts A c rb 53 Pr.stmt F
theorem Bha {w0:World}{ts:List Tk.Tok}{A:Option Addr}{c rb:Nat}(hT:Yd w0 ts A c):∀F,F<=10000000->Qpa w0 ts A c rb F
 | 0,_=>by
  constructor
  ·intro f hf i w r h hp;obtain rfl:f=0:=by omega
   cases hp
  ·intro f hf i w r h hp;obtain rfl:f=0:=by omega
   cases hp
  ·intro f hf i w r h hp;obtain rfl:f=0:=by omega
   cases hp
  ·intro f hf i w r h hp;obtain rfl:f=0:=by omega
   cases hp
  ·intro f hf i w r h hp;obtain rfl:f=0:=by omega
   cases hp
  ·intro f hf i w r h hp;obtain rfl:f=0:=by omega
   cases hp
  ·intro f hf i w r h hp;obtain rfl:f=0:=by omega
   cases hp
  ·intro f hf b i w r h hp;obtain rfl:f=0:=by omega
   cases hp
  intro f hf b i w r h hp;obtain rfl:f=0:=by omega
  cases hp
 |F+1,hF=>by
  have ih:=Bha (rb:=rb) hT F (by omega);exact⟨Sga F hT ih.bh ih.fn ih.ex,O7 F hT ih.sd ih.fn ih.ex,K7 F (by omega) hT ih.ar,Qca F (by omega) hT ih.al ih.ex,Mca F hT ih.ex,Xga F hT ih.pl ih.ar,Rca F hT ih.ss,Oca F (by omega) hT ih.st,Tga F hT ih.fn ih.ex⟩
end
def Sd (s:ByteArray):Option Tree:=if(Tk.cut s).2.2=0 then(match Pr.lineT (Tk.cut s).1 with
 |some t=>if right t=true then some t else none
 |none=>none) else none
def Yma (s:ByteArray)(w:World)(e:Ending)(w':World):Prop:=
 Below w.heap.size w w'/\((∃(t:Tree) (x:C8),Sd s=some t/\e= .returned (.tuple #[.agg #[.int .i64 x.k,.int .i64 x.o,.string ⟨x.m.toArray⟩,.bool x.g,.slice x.A1 x.n1 x.c1,.slice x.A2 x.n2 x.c2,.slice x.A3 x.n3 x.c3,.slice x.A4 x.n4 x.c4],.int .i64 0,.int .i64 0])/\IsTree w' w'.heap.size t x.l)\/
  (Sd s=none/\∃(a:Nat) (f:Int),a<=s.size/\f≠0/\e= .returned (.tuple #[.agg #[.int .i64 0,.int .i64 0,.string ⟨#[]⟩,.bool false,.slice none 0 0,.slice none 0 0,.slice none 0 0,.slice none 0 0],.int .i64 (a:Int),.int .i64 f])))
def Aw (o:Option (List Tree×List Tk.Tok)):Option Tree:=match o with
 |some (l,[])=>some (Pr.node 28 0 [] l)
 |_=>none
theorem Jka {ts:List Tk.Tok}{o:Option (List Tree×List Tk.Tok)}(h:Pr.stmts (Pr.fuel ts) false ts=some o):Pr.lineT ts=Aw o:=by
 unfold Pr.lineT Aw;rw[h];cases o with
 |none=>rfl
 |some p=>obtain⟨l,U⟩:=p;cases U<;>rfl
theorem Zma:∀(j:Nat) (n:Int),(z8:Array Value)[j]? ≠some (Value.int .u32 n):=by
 intro j n h;have hj:j<8:=(Array.getElem?_eq_some_iff.1 h).1;rcases(show j=0\/j=1\/j=2\/j=3\/j=4\/j=5\/j=6\/j=7 by omega) with rfl |rfl |rfl |rfl |rfl |rfl |rfl |rfl<;>simp at h
theorem Vca (s:ByteArray):(Gl.ints (Gl.dec s 0).1).length<=s.size:=by
 have hlen:=Gl.dec_len (s:=s) (s.size+1) 0 (by omega);have hl:(Gl.ints (Gl.dec s 0).1).length=(Gl.dec s 0).1.length:=by unfold Gl.ints;simp
 omega
theorem Kka (s:ByteArray)(hs:s.size<=10000)(w:World):Calls Tryz.prog 11 #[.string s] w (Yma s w):=by
 obtain⟨HI,hhi⟩:∃HI:Dc,@Dc.q HI=w.heap.size:=⟨⟨w.heap.size⟩,rfl⟩;obtain⟨W,hW⟩:∃W,W=w.alloc (.cells z8 28):=⟨_,rfl⟩;have hWb:Below w.heap.size w W:=by rw[hW];exact Br.alloc Lr _
 have hs0:w.heap.size+1<=W.heap.size:=by rw[hW];simp
 have HQW0:Hid (W.heap[w.heap.size]? =some (.cells z8 28 (0,0))):=Qd (by rw[hW];exact heap_alloc_new w _);have TC:=Qd (Tba s W hs);have HW:=Qd hW;have HWB:=Qd hWb;clear hW hWb;go_enter Tryz.func11,Tryz.ntmps11
 go_upto_region 1 with fail
 rw[<-HW.out];go_wp2_with fail
 refine TC.out.mono ?_;rintro e w1 ⟨v,rfl,htk,hb1⟩;have HB1:Hid (Below w.heap.size w w1):=Qd (HWB.out.trans (hb1.mono (by omega)));have HQ1:Hid (w1.heap[w.heap.size]? =some (.cells z8 28 (0,0))):=Qd ((hb1.block w.heap.size (by omega)).trans HQW0.out);have hs1:=hb1.size;have HTO:=Qd (Tk.cut_to s);by_cases he:(Tk.cut s).2.2=0
 ·obtain⟨A,c,rfl,hc,hT⟩:=Xma htk hs he (by rw[hhi];exact HQ1.out) Zma
  have HGL:Hid (Sd s=match Pr.lineT (Tk.cut s).1 with
   |some t=>if right t=true then some t else none
   |none=>none):=Qd (by unfold Sd;rw[if_pos he])
  have HAT:Hid (∀t∈(Tk.cut s).1,t.at_<=s.size):=Qd (λt ht=>((Tk.cut_small s).2 t ht).2);have hlen:(Tk.cut s).1.length<=s.size:=(Tk.cut_small s).1;have e0:((Tk.cut s).2.2 !=0)=false:=by simp[he]
  generalize(Tk.cut s).1=ts at*;generalize(Tk.cut s).2.2=er at*;generalize(Tk.cut s).2.1=to_ at*;have HT:=Qd hT;obtain⟨W2,hW2⟩:∃W2,W2=w1.alloc (.cells #[.slice A ts.length c,.int .i64 0] 50):=⟨_,rfl⟩;have hb2:Below w1.heap.size w1 W2:=by rw[hW2];exact Br.alloc Lr _
  have HR2:Hid (RdAt w1 ts A c w1.heap.size 0 W2):=Qd ⟨by rw[hW2];exact heap_alloc_new w1 _,hb2,Lr,Nat.zero_le _⟩;obtain⟨o,ho⟩:=Pr.stmts_some false ts;have PS:=Qd ((Bha (rb:=w1.heap.size) hT (Pr.fuel ts) (by unfold Pr.fuel;omega)).ss (Pr.fuel ts) Lr false 0 W2 o HR2.out (by rw[List.drop_zero];exact ho));have HLT:Hid (Pr.lineT ts=Aw o):=Qd (Jka ho);have HW2:=Qd hW2;clear hb1 hT hb2 hW2 ho htk he;go_upto_region 5 with fail
  rw[<-HW2.out];go_wp2_with fail
  refine PS.out.mono ?_;rintro e w3 ⟨j,hR3,hG3,hd⟩;have HR3:=Qd hR3;have HB3:Hid (Below w.heap.size w w3):=Qd (HB1.out.trans (hR3.old.mono (by omega)));have HQ:Hid (w3.heap[w.heap.size]? =some (.cells z8 28 (0,0))):=Qd ((hR3.old.block w.heap.size (by omega)).trans HQ1.out);have hs3:=hR3.old.size;have p1:=hR3.c1;have hjle:=hR3.le;have HQW:Hid (∀x:Nat,True):=Qd (λ_=>trivial);have HWS:Hid (w3.heap.size>=w1.heap.size):=Qd hs3;cases o with
  |none=>
   obtain⟨A4,n4,c4,rfl⟩:=hd;have HNO:Hid (Sd s=none):=Qd (by rw[HGL.out,HLT.out];rfl);clear hR3 hG3 PS HGL HLT;by_cases hj:j<ts.length
   ·have hji:(j:Int)<(ts.length:Int):=by omega
    have hjl:j<ts.length:=hj;obtain⟨g,n1,n2,lv,hgA,hgl,hrt,-⟩:=HT.out.at_ j hjl;subst hgA;have hgq:g≠w.heap.size:=λe=>by
     have h7:=hrt 7 _ rfl;rw[e,cell_of_row _ _ _ _ _ _ HQ1.out] at h7;rcases Nat.eq_zero_or_pos j with h0 |h0
     ·subst h0;simp at h7
     rw[Array.getElem?_eq_none (by simp;omega)] at h7;cases h7
    obtain⟨a,ha⟩:∃a,a=(ts[j]'hjl).at_:=⟨_,rfl⟩;have HA:Hid (a<=s.size):=Qd (by rw[ha];exact HAT.out _ (List.getElem_mem hjl));have HCL:Hid (∀k w4,Uq (World.drew w3) w.heap.size z8 k w4->w4.cell? ⟨w1.heap.size,1,none⟩=some (.int .i64 (j:Int))/\w4.cell? ⟨g,j*8+7,none⟩=some (.int .i64 (a:Int))):=Qd (λk w4 hk=>by
     have e1:(World.drew w3).cell? ⟨w1.heap.size,1,none⟩=some (.int .i64 (j:Int)):=HR3.out.c1;have e2:(World.drew w3).cell? ⟨g,j*8+7,none⟩=some (.int .i64 (a:Int)):=(HR3.out.old.cell (p:=⟨g,j*8+7,none⟩) hgl).trans (by rw[ha];exact hrt 7 _ rfl)
     match k,hk with
     | 0,hk=>cases hk;exact⟨e1,e2⟩
     |k+1,hk=>obtain⟨wz,rfl,rfl⟩:=hk;exact⟨(cell_setRow_other _ _ _ _ (by show w1.heap.size≠_;omega)).trans e1,(cell_setRow_other _ _ _ _ (by exact hgq)).trans e2⟩)
    clear hrt ha;go_wp2_with fail
    refine Zf [9] (Pa _ _ _ _ _ _ _ _ _ _ _ _ _ _ _ _ _ _ _ _ _ _ _ _ _ _ _ _ _ _ _ _ _ _ _ _ _ _ _ _ _ _ _ _ _ _ _ _ _ _ _ _ _ _ _ _ _ _ _ _ _ _ _ _) (Aha w1.heap.size g j c ts.length a) (Uq (World.drew w3) w.heap.size z8) (by kernel_rfl) (by kernel_rfl) (by kernel_rfl) (by kernel_rfl) (by kernel_rfl) (Oj [_,_,_,_,_,_,_,_,_,undef,_,_]) rfl (rfl) ?_ ?_ ?_
    ·intro i xs w4 k hi hne hS hdep
     have hi6:i<12:=hi;clear hi;have hne2:i≠9/\True:=⟨λe=>hne (by rw[e];decide),trivial⟩;rcases(show i=0\/i=1\/i=2\/i=3\/i=4\/i=5\/i=6\/i=7\/i=8\/i=10\/i=11 by omega) with rfl |rfl |rfl |rfl |rfl |rfl |rfl |rfl |rfl |rfl |rfl
     ·refine Ca rfl rfl ?_
      unfold Pa Oper.wp;go_simp
      exact⟨_,by simp only[Pa,Ja];simp[Act.put],rfl,hS⟩
     ·refine Ca rfl rfl ?_
      unfold Pa Oper.wp;go_simp
      exact⟨_,by simp only[Pa,Ja];simp[Act.put],rfl,hS⟩
     ·refine Ca rfl rfl ?_
      unfold Pa Oper.wp;go_simp
      exact⟨_,by simp only[Pa,Ja];simp[Act.put],rfl,hS⟩
     ·have h2:xs 2= .pointer (some ⟨w1.heap.size,0,none⟩):=hdep 2 (by kernel_rfl)
      refine Ca rfl rfl ?_;unfold Pa Oper.wp;simp only[h2];go_simp
      exact⟨_,by simp only[Pa,Ja];simp[Act.put,h2],rfl,hS⟩
     ·have h3:xs 3= .pointer (some ⟨w1.heap.size,0,none⟩):=hdep 3 (by kernel_rfl)
      refine Ca rfl rfl ?_;unfold Pa Oper.wp;simp only[h3];go_simp
      exact⟨_,by simp only[Pa,Ja];simp[Act.put,h3],rfl,hS⟩
     ·have h4:xs 4= .pointer (some ⟨w1.heap.size,1,none⟩):=hdep 4 (by kernel_rfl)
      refine Ca rfl rfl ?_;have p1:=(HCL.out _ _ hS).1;unfold Pa Oper.wp;simp only[h4];go_simp
      exact⟨_,by simp only[Pa,Ja];simp[Act.put,h4],rfl,hS⟩
     ·have h1:xs 1= .slice (some ⟨g,0,none⟩) ts.length c:=hdep 1 (by kernel_rfl)
      have h5:xs 5= .int .i64 (j:Int):=hdep 5 (by kernel_rfl);refine Ca rfl rfl ?_;unfold Pa Oper.wp;simp only[h1,h5];go_simp
      exact⟨_,by simp only[Pa,Ja];simp[Act.put,h1,h5],rfl,hS⟩
     ·have h6:xs 6= .pointer (some ⟨g,j*8,none⟩):=hdep 6 (by kernel_rfl)
      refine Ca rfl rfl ?_;unfold Pa Oper.wp;simp only[h6];go_simp
      exact⟨_,by simp only[Pa,Ja];simp[Act.put,h6],rfl,hS⟩
     ·have h7:xs 7= .pointer (some ⟨g,j*8+7,none⟩):=hdep 7 (by kernel_rfl)
      refine Ca rfl rfl ?_;have p7:=(HCL.out _ _ hS).2;unfold Pa Oper.wp;simp only[h7];go_simp
      exact⟨_,by simp only[Pa,Ja];simp[Act.put,h7],rfl,hS⟩
     ·have h8:xs 8= .int .i64 (a:Int):=hdep 8 (by kernel_rfl)
      refine Ca rfl rfl ?_;unfold Pa Oper.wp;simp only[h8];go_simp
      exact⟨_,by simp only[Pa,Ja];simp[Act.put,h8],rfl,hS⟩
     refine Ca rfl rfl ?_;unfold Pa Oper.wp;go_simp
     exact⟨_,by simp only[Pa,Ja];simp[Act.put],rfl,hS⟩
    ·intro m i xs w4 hm hS hdep
     match m,hm with
     | 0,hm=>
      obtain rfl:i=9:=(Option.some.inj hm).symm;have h0:xs 0= .agg #[.int .i64 0,.int .i64 0,.string ⟨#[]⟩,.bool false,.slice none 0 0,.slice none 0 0,.slice none 0 0,.slice none 0 0]:=hdep 0 (by kernel_rfl);refine Ca rfl rfl ?_;refine wp_store_row 28 (.tmp 2) (.tmp 51) rfl w.heap.size z8 rfl (by unfold Pa;simp only[h0];rfl) 28 z8 (by cases hS;exact HQ.out) Hc rfl (by simp[Value.oneCell']) ?_;exact⟨undef,by simp only[Pa,Ja];simp[Act.put],trivial,⟨_,hS,rfl⟩⟩
     |m+1,hm=>simp at hm
    intro xs w4 hS hx;have h10:xs 10= .int .i64 (a:Int):=hx 10 (by decide);have h11:xs 11= .int .i64 1:=hx 11 (by decide);clear hx;obtain⟨wz,hz,rfl⟩:=hS;have HBZ:Hid (Below w.heap.size w wz):=Qd (by rw[hz];exact HB3.out.trans ((Lf w3).mono (by omega)));have HQZ:Hid (wz.heap[w.heap.size]? =some (.cells z8 28 (0,0))):=Qd (by rw[hz];exact HQ.out);unfold Pa;simp only[h10,h11];clear hz h10 h11;go_wp2_with fail
    refine bodyPost_ret (Yb (by rfl) _ _ w.heap.size 28 z8 (0,0) _ _ _ (by rfl) (by rfl) (by rfl) (setRow_heap _ _ _ _ _ _ HQZ.out) Tryz.underlying28 rfl Hc) rfl ?_;exact⟨below_setRow HBZ.out Lr _,.inr ⟨HNO.out,a,1,HA.out,by decide,rfl⟩⟩
   have hji:¬(j:Int)<(ts.length:Int):=by omega
   have DE:=Qd (Iu s w3 (by omega));have HCS:=Qd (Vca s);generalize Gl.ints (Gl.dec s 0).1=ch at*;go_wp2_with fail
   refine DE.out.mono ?_;rintro e w4 ⟨v,rfl,hch,hb4⟩;obtain⟨A6,c6,rfl,-⟩:=hch;have HB4:Hid (Below w.heap.size w w4):=Qd (HB3.out.trans (hb4.mono (by omega)));have HQ4:Hid (w4.heap[w.heap.size]? =some (.cells z8 28 (0,0))):=Qd ((hb4.block w.heap.size (by omega)).trans HQ.out);clear hb4;go_wp2_with (with_reducible refine Ha rfl (.tmp 2) (.tmp 65) rfl w.heap.size rfl rfl HQ4.out ?_)
   refine bodyPost_ret (Yb (by rfl) _ _ w.heap.size 28 z8 (0,0) _ _ _ (by rfl) (by rfl) (by rfl) (setRow_heap _ _ _ _ _ _ HQ4.out) Tryz.underlying28 rfl Hc) rfl ?_;exact⟨below_setRow HB4.out Lr _,.inr ⟨HNO.out,ch.length,1,HCS.out,by decide,rfl⟩⟩
  |some p=>
   obtain⟨l,U⟩:=p;obtain⟨rfl,A4,c4,us,rfl,hfit,hTS,hli⟩:=hd;by_cases hj:j<ts.length
   ·have hji:(j:Int)<(ts.length:Int):=by omega
    have HNO:Hid (Sd s=none):=Qd (by
     rw[HGL.out,HLT.out];cases hU:ts.drop j with
     |nil=>
      have:(ts.drop j).length=0:=by rw[hU];rfl
      rw[List.length_drop] at this;omega
     |cons _ _=>rfl)
    clear hR3 hG3 PS HGL HLT hfit hTS hli;have hjl:j<ts.length:=hj;obtain⟨g,n1,n2,lv,hgA,hgl,hrt,-⟩:=HT.out.at_ j hjl;subst hgA;have hgq:g≠w.heap.size:=λe=>by
     have h7:=hrt 7 _ rfl;rw[e,cell_of_row _ _ _ _ _ _ HQ1.out] at h7;rcases Nat.eq_zero_or_pos j with h0 |h0
     ·subst h0;simp at h7
     rw[Array.getElem?_eq_none (by simp;omega)] at h7;cases h7
    obtain⟨a,ha⟩:∃a,a=(ts[j]'hjl).at_:=⟨_,rfl⟩;have HA:Hid (a<=s.size):=Qd (by rw[ha];exact HAT.out _ (List.getElem_mem hjl));have HCL:Hid (∀k w4,Uq (World.drew w3) w.heap.size z8 k w4->w4.cell? ⟨w1.heap.size,1,none⟩=some (.int .i64 (j:Int))/\w4.cell? ⟨g,j*8+7,none⟩=some (.int .i64 (a:Int))):=Qd (λk w4 hk=>by
     have e1:(World.drew w3).cell? ⟨w1.heap.size,1,none⟩=some (.int .i64 (j:Int)):=HR3.out.c1;have e2:(World.drew w3).cell? ⟨g,j*8+7,none⟩=some (.int .i64 (a:Int)):=(HR3.out.old.cell (p:=⟨g,j*8+7,none⟩) hgl).trans (by rw[ha];exact hrt 7 _ rfl)
     match k,hk with
     | 0,hk=>cases hk;exact⟨e1,e2⟩
     |k+1,hk=>obtain⟨wz,rfl,rfl⟩:=hk;exact⟨(cell_setRow_other _ _ _ _ (by show w1.heap.size≠_;omega)).trans e1,(cell_setRow_other _ _ _ _ (by exact hgq)).trans e2⟩)
    clear hrt ha;go_wp2_with fail
    refine Zf [9] (Pa _ _ _ _ _ _ _ _ _ _ _ _ _ _ _ _ _ _ _ _ _ _ _ _ _ _ _ _ _ _ _ _ _ _ _ _ _ _ _ _ _ _ _ _ _ _ _ _ _ _ _ _ _ _ _ _ _ _ _ _ _ _ _ _) (Aha w1.heap.size g j c ts.length a) (Uq (World.drew w3) w.heap.size z8) (by kernel_rfl) (by kernel_rfl) (by kernel_rfl) (by kernel_rfl) (by kernel_rfl) (Oj [_,_,_,_,_,_,_,_,_,undef,_,_]) rfl (rfl) ?_ ?_ ?_
    ·intro i xs w4 k hi hne hS hdep
     have hi6:i<12:=hi;clear hi;have hne2:i≠9/\True:=⟨λe=>hne (by rw[e];decide),trivial⟩;rcases(show i=0\/i=1\/i=2\/i=3\/i=4\/i=5\/i=6\/i=7\/i=8\/i=10\/i=11 by omega) with rfl |rfl |rfl |rfl |rfl |rfl |rfl |rfl |rfl |rfl |rfl
     ·refine Ca rfl rfl ?_
      unfold Pa Oper.wp;go_simp
      exact⟨_,by simp only[Pa,Ja];simp[Act.put],rfl,hS⟩
     ·refine Ca rfl rfl ?_
      unfold Pa Oper.wp;go_simp
      exact⟨_,by simp only[Pa,Ja];simp[Act.put],rfl,hS⟩
     ·refine Ca rfl rfl ?_
      unfold Pa Oper.wp;go_simp
      exact⟨_,by simp only[Pa,Ja];simp[Act.put],rfl,hS⟩
     ·have h2:xs 2= .pointer (some ⟨w1.heap.size,0,none⟩):=hdep 2 (by kernel_rfl)
      refine Ca rfl rfl ?_;unfold Pa Oper.wp;simp only[h2];go_simp
      exact⟨_,by simp only[Pa,Ja];simp[Act.put,h2],rfl,hS⟩
     ·have h3:xs 3= .pointer (some ⟨w1.heap.size,0,none⟩):=hdep 3 (by kernel_rfl)
      refine Ca rfl rfl ?_;unfold Pa Oper.wp;simp only[h3];go_simp
      exact⟨_,by simp only[Pa,Ja];simp[Act.put,h3],rfl,hS⟩
     ·have h4:xs 4= .pointer (some ⟨w1.heap.size,1,none⟩):=hdep 4 (by kernel_rfl)
      refine Ca rfl rfl ?_;have p1:=(HCL.out _ _ hS).1;unfold Pa Oper.wp;simp only[h4];go_simp
      exact⟨_,by simp only[Pa,Ja];simp[Act.put,h4],rfl,hS⟩
     ·have h1:xs 1= .slice (some ⟨g,0,none⟩) ts.length c:=hdep 1 (by kernel_rfl)
      have h5:xs 5= .int .i64 (j:Int):=hdep 5 (by kernel_rfl);refine Ca rfl rfl ?_;unfold Pa Oper.wp;simp only[h1,h5];go_simp
      exact⟨_,by simp only[Pa,Ja];simp[Act.put,h1,h5],rfl,hS⟩
     ·have h6:xs 6= .pointer (some ⟨g,j*8,none⟩):=hdep 6 (by kernel_rfl)
      refine Ca rfl rfl ?_;unfold Pa Oper.wp;simp only[h6];go_simp
      exact⟨_,by simp only[Pa,Ja];simp[Act.put,h6],rfl,hS⟩
     ·have h7:xs 7= .pointer (some ⟨g,j*8+7,none⟩):=hdep 7 (by kernel_rfl)
      refine Ca rfl rfl ?_;have p7:=(HCL.out _ _ hS).2;unfold Pa Oper.wp;simp only[h7];go_simp
      exact⟨_,by simp only[Pa,Ja];simp[Act.put,h7],rfl,hS⟩
     ·have h8:xs 8= .int .i64 (a:Int):=hdep 8 (by kernel_rfl)
      refine Ca rfl rfl ?_;unfold Pa Oper.wp;simp only[h8];go_simp
      exact⟨_,by simp only[Pa,Ja];simp[Act.put,h8],rfl,hS⟩
     refine Ca rfl rfl ?_;unfold Pa Oper.wp;go_simp
     exact⟨_,by simp only[Pa,Ja];simp[Act.put],rfl,hS⟩
    ·intro m i xs w4 hm hS hdep
     match m,hm with
     | 0,hm=>
      obtain rfl:i=9:=(Option.some.inj hm).symm;have h0:xs 0= .agg #[.int .i64 0,.int .i64 0,.string ⟨#[]⟩,.bool false,.slice none 0 0,.slice none 0 0,.slice none 0 0,.slice none 0 0]:=hdep 0 (by kernel_rfl);refine Ca rfl rfl ?_;refine wp_store_row 28 (.tmp 2) (.tmp 51) rfl w.heap.size z8 rfl (by unfold Pa;simp only[h0];rfl) 28 z8 (by cases hS;exact HQ.out) Hc rfl (by simp[Value.oneCell']) ?_;exact⟨undef,by simp only[Pa,Ja];simp[Act.put],trivial,⟨_,hS,rfl⟩⟩
     |m+1,hm=>simp at hm
    intro xs w4 hS hx;have h10:xs 10= .int .i64 (a:Int):=hx 10 (by decide);have h11:xs 11= .int .i64 1:=hx 11 (by decide);clear hx;obtain⟨wz,hz,rfl⟩:=hS;have HBZ:Hid (Below w.heap.size w wz):=Qd (by rw[hz];exact HB3.out.trans ((Lf w3).mono (by omega)));have HQZ:Hid (wz.heap[w.heap.size]? =some (.cells z8 28 (0,0))):=Qd (by rw[hz];exact HQ.out);unfold Pa;simp only[h10,h11];clear hz h10 h11;go_wp2_with fail
    refine bodyPost_ret (Yb (by rfl) _ _ w.heap.size 28 z8 (0,0) _ _ _ (by rfl) (by rfl) (by rfl) (setRow_heap _ _ _ _ _ _ HQZ.out) Tryz.underlying28 rfl Hc) rfl ?_;exact⟨below_setRow HBZ.out Lr _,.inr ⟨HNO.out,a,1,HA.out,by decide,rfl⟩⟩
   have hji:¬(j:Int)<(ts.length:Int):=by omega
   have hU:ts.drop j=[]:=List.drop_eq_nil_of_le (by omega);have HLN:Hid (Sd s=if right (Pr.node 28 0 [] l)=true then some (Pr.node 28 0 [] l) else none):=Qd (by rw[HGL.out,HLT.out,hU];rfl);have hND:TreeF w3 (In w1.heap.size W2.heap.size w3.heap.size) (Pr.node 28 0 [] l) (C8.l ⟨28,0,[],false,none,0,0,none,0,0,none,0,0,A4,l.length,c4⟩):=TreeF.node (Za (by omega)) (by simp) hfit hTS hli;obtain⟨w4,hw4⟩:∃w4,w4=w3.alloc (.cells #[.int .i64 28,.int .i64 0,.string ⟨#[]⟩,.bool false,.slice none 0 0,.slice none 0 0,.slice none 0 0,.slice A4 l.length c4] 28):=⟨_,rfl⟩;have hb4:Below w3.heap.size w3 w4:=by rw[hw4];exact Br.alloc Lr _
   have hs4:w3.heap.size+1<=w4.heap.size:=by rw[hw4];simp
   have B4:Hid (w4.heap[w3.heap.size]? =some (.cells #[.int .i64 28,.int .i64 0,.string ⟨#[]⟩,.bool false,.slice none 0 0,.slice none 0 0,.slice none 0 0,.slice A4 l.length c4] 28 (0,0))):=Qd (by rw[hw4];exact heap_alloc_new _ _);have HF4:=Qd (hND.below hb4);have HT4:Hid (IsTree w4 w4.heap.size (Pr.node 28 0 [] l) (C8.l ⟨28,0,[],false,none,0,0,none,0,0,none,0,0,A4,l.length,c4⟩)):=Qd HF4.out.tree;have hg32:=hG3.size;have hw2s:w1.heap.size<=W2.heap.size:=HR2.out.old.size;have RT:=Qd (Zu _ _ w4 _ HT4.out Lr);have HB4:Hid (Below w.heap.size w w4):=Qd (HB3.out.trans (hb4.mono (by omega)));have HQ4:Hid (w4.heap[w.heap.size]? =some (.cells z8 28 (0,0))):=Qd ((hb4.block w.heap.size (by omega)).trans HQ.out);have HW4:=Qd hw4;clear hR3 hG3 PS HGL HLT hfit hTS hli hU hND hb4 hw4;obtain⟨R,hR⟩:∃R,R=right (Pr.node 28 0 [] l):=⟨_,rfl⟩;rw[<-hR] at RT HLN;clear hR;go_upto_region 12 with fail
   rw[<-HW4.out];go_wp2_with (with_reducible refine Ka rfl (.tmp 13) rfl w3.heap.size rfl B4.out ?_)
   refine RT.out.mono ?_;rintro e w5 ⟨rfl,hb5⟩;have HB5:Hid (Below w.heap.size w w5):=Qd (HB4.out.trans (hb5.mono (by omega)));have HQ5:Hid (w5.heap[w.heap.size]? =some (.cells z8 28 (0,0))):=Qd ((hb5.block w.heap.size (by omega)).trans HQ4.out);have B5:=Qd ((hb5.block w3.heap.size (by omega)).trans B4.out);have hs5:=hb5.size;have HF5:=Qd ((HF4.out.below hb5).rowed (q:=w.heap.size) (λb hb e=>by unfold In at hb;omega) #[.int .i64 28,.int .i64 0,.string ⟨#[]⟩,.bool false,.slice none 0 0,.slice none 0 0,.slice none 0 0,.slice A4 l.length c4]);clear hb5;cases R
   ·have HNO:Hid (Sd s=none):=Qd (by rw[HLN.out];rfl)
    go_wp2_with (with_reducible refine Ha rfl (.tmp 2) (.tmp 73) rfl w.heap.size rfl rfl HQ5.out ?_)
    refine bodyPost_ret (Yb (by rfl) _ _ w.heap.size 28 z8 (0,0) _ _ _ (by rfl) (by rfl) (by rfl) (setRow_heap _ _ _ _ _ _ HQ5.out) Tryz.underlying28 rfl Hc) rfl ?_;exact⟨below_setRow HB5.out Lr _,.inr ⟨HNO.out,0,7,Nat.zero_le _,by decide,rfl⟩⟩
   have HYES:Hid (Sd s=some (Pr.node 28 0 [] l)):=Qd (by rw[HLN.out];rfl);go_wp2_with (first|(with_reducible refine Ka rfl (.tmp 13) rfl w3.heap.size rfl B5.out ?_) |(with_reducible refine Ha rfl (.tmp 2) (.tmp 74) rfl w.heap.size rfl rfl HQ5.out ?_))
   refine bodyPost_ret (Yb (by rfl) _ _ w.heap.size 28 #[.int .i64 28,.int .i64 0,.string ⟨#[]⟩,.bool false,.slice none 0 0,.slice none 0 0,.slice none 0 0,.slice A4 l.length c4] (0,0) _ _ _ (by rfl) (by rfl) (by rfl) (setRow_heap _ _ _ _ _ _ HQ5.out) Tryz.underlying28 rfl Hc) rfl ?_;refine⟨below_setRow HB5.out Lr _,.inl ⟨_,⟨28,0,[],false,none,0,0,none,0,0,none,0,0,A4,l.length,c4⟩,HYES.out,rfl,HF5.out.tree⟩⟩
 have e0:((Tk.cut s).2.2 !=0)=true:=by simpa using he
 have HNO:Hid (Sd s=none):=Qd (by unfold Sd;rw[if_neg he]);have HNE:=Qd he;clear he htk hb1;generalize(Tk.cut s).2.2=er at*;generalize(Tk.cut s).2.1=to_ at*;go_wp2_with (with_reducible refine Ha rfl (.tmp 2) (.tmp 22) rfl w.heap.size rfl rfl HQ1.out ?_)
 refine bodyPost_ret (Yb (by rfl) _ _ w.heap.size 28 z8 (0,0) _ _ _ (by rfl) (by rfl) (by rfl) (setRow_heap _ _ _ _ _ _ HQ1.out) Tryz.underlying28 rfl Hc) rfl ?_;exact⟨below_setRow HB1.out Lr _,.inr ⟨HNO.out,to_,er,HTO.out,HNE.out,rfl⟩⟩
end
section
open Go.RowKit Tr
set_option maxHeartbeats 80000000
theorem Cha (a:Tree)(vs:List Value)(w:World)(B:Nat)(h:IsTree w B a vs)(hB:B<=w.heap.size):
 Calls Tryz.prog 56 #[.agg vs.toArray] w (La w (Yo (kind a) (op a) (Bc a) (num a) (text a) ((kids a).map kind))):=by
 have K0:=Uu a vs;have S0:=Us a vs;have O0:=Xu a vs;have L0:=Gca a vs;have F0:=Yk a vs;have h':=h;obtain⟨k,o,m,nm,t,l⟩:=a;show Calls _ _ _ _ (La w (Yo k o m nm t (l.map kind)));obtain⟨A1,A2,A3,A4,c1,c2,c3,c4,us,rfl,HO,HL,HC⟩:=h.open_;unfold Qa at h h' K0 S0 O0 L0 F0⊢;simp only[kids,kind,op,Bc,num,text] at K0 S0 O0 L0 F0;obtain⟨W0,hW⟩:∃W,W=w.alloc (.cells #[.int .i64 k,.int .i64 o,.string ⟨m.toArray⟩,.bool nm.neg,.slice A1 nm.top.length c1,.slice A2 nm.bot.length c2,.slice A3 t.length c3,.slice A4 l.length c4] 28):=⟨_,rfl⟩;obtain⟨hWl,hWb,hW8,hG⟩:=Hia hW;have hf3:=HO.out.f3.le (by omega);have hf4:=HO.out.f4.le (by omega);have hms:=HO.out.ms;have HW:=Qd hW;have hkb:∀wx,Below W0.heap.size W0 wx->IsTree wx B (.mk k o m nm t l) _/\B<=wx.heap.size:=λwx hx=>⟨h'.below ((hWb.trans (hx.mono (by omega))).mono hB),by have:=hx.size;omega⟩;have FD:=Qd (F0 W0 B (hkb W0 Br).1 (hkb W0 Br).2);have KK:=Qd (λs b wx hx=>K0 s b wx B (hkb wx hx).1 (hkb wx hx).2);have SS:=Qd (λb wx hx=>S0 b wx B (hkb wx hx).1 (hkb wx hx).2);have OO:=Qd (λwx hx=>O0 wx B (hkb wx hx).1 (hkb wx hx).2);have LF:=Qd (λwx hx=>L0 wx B (hkb wx hx).1 (hkb wx hx).2);have NM:=Qd (λb wx=>Tu m b wx hms);have PT:=Qd (λwx=>Pu o wx);replace FD:Hid (Calls Tryz.prog 90 #[.agg #[.int .i64 k,.int .i64 o,.string ⟨m.toArray⟩,.bool nm.neg,.slice A1 nm.top.length c1,.slice A2 nm.bot.length c2,.slice A3 t.length c3,.slice A4 l.length c4]] W0 (Hm W0 (Va o m nm t))):=FD;have H8:Hid (∀wx,Below W0.heap.size W0 wx->At8 wx w.heap.size 0 k o m nm t l.length A1 A2 A3 A4 c1 c2 c3 c4):=Qd (λwx hx=>hW8.keep (λq=>hx.cell (p:=⟨w.heap.size,q,none⟩) hWl));have HWB:=Qd hWb;have HWS:Hid (w.heap.size<=W0.heap.size):=Qd (by omega);generalize hf:Va o m nm t=f at*;obtain⟨R,hR⟩:∃R,R=Yo k o m nm t (l.map kind):=⟨_,rfl⟩;rw[<-hR];have HR:=Qd hR;have HF:=Qd hf;clear hR hf hW hW8 HO hG hWb h h' F0 hkb HC HL K0 S0 O0 L0;obtain⟨g,hg⟩:∃g,g=w.heap.size:=⟨_,rfl⟩;rw[<-hg] at H8 HWB HWS hWl;have HGG:=Qd hg;by_cases hl:k=8\/k=9\/k=11\/k=12\/k=13\/k=14\/k=15\/k=16\/k=20\/k=22\/k=23\/k=24\/k=25\/k=26\/k=27\/k=28
 ·rcases hl with rfl |rfl |rfl |rfl |rfl |rfl |rfl |rfl |rfl |rfl |rfl |rfl |rfl |rfl |rfl |rfl
  all_goals
   go_enter Tryz.func56,Tryz.ntmps56
   go_upto_region 1 with fail
   rw[<-HW.out];rw[<-hg];clear hg;obtain⟨q0,q1,q2,q3,q4,q5,q6,q7⟩:=H8.out W0 Br;go_wp2_with fail
   clear q0 q1 q2 q3 q4 q5 q6 q7;refine FD.out.mono ?_;rintro e w2 ⟨rfl,hb2⟩;obtain⟨q0,q1,q2,q3,q4,q5,q6,q7⟩:=H8.out w2 hb2;go_wp2_with fail
  all_goals try (first
   |((with_reducible refine(NM.out _ _).mono ?_);rintro e w3 ⟨rfl,hb3⟩;replace hb2:=El hb2 hb3;clear hb3 q0 q1 q2 q3 q4 q5 q6 q7;obtain⟨q0,q1,q2,q3,q4,q5,q6,q7⟩:=H8.out _ hb2;go_wp2_with fail)
   |((with_reducible refine(PT.out _).mono ?_);rintro e w3 ⟨rfl,rfl⟩;go_wp2_with fail))
  all_goals try ((first|(with_reducible refine(KK.out _ _ _ hb2 (by decide) (by decide) (by decide)).mono ?_) |(with_reducible refine(SS.out _ _ hb2).mono ?_) |(with_reducible refine(OO.out _ hb2).mono ?_));rintro e w3 ⟨rfl,hb3⟩;replace hb2:=El hb2 hb3;clear hb3;go_wp2_with fail)
  all_goals
   go_ret;exact⟨Aa (by
    rw[HR.out,Yo,HF.out]
    first|rfl |(simp[‹f=0›];done) |(simp[‹¬f=0›];done) |(simp[‹f=2›];done) |(simp[‹¬f=2›];done) |(simp[‹f=2›,‹Ua m _=true›];done) |(simp[‹f=2›,‹¬Ua m _=true›];done) |(simp[‹f=0›,‹port o=true›];done) |(simp[‹f=0›,‹¬port o=true›];done) |(simp[‹f=1›,‹port o=true›];done) |(simp[‹f=1›,‹¬port o=true›];done) |(simp[‹¬f=0›,‹¬f=1›];done)),by rw[<-HGG.out];exact HWB.out.trans (hb2.mono HWS.out)⟩
 have HR2:Hid (R=Vm k o m nm t (l.map kind)):=Qd (by
  simp only[not_or] at hl;rw[HR.out,Yo];simp[hl])
 simp only[not_or] at hl;have HN:∀n,n∈[8,9,11,12,13,14,15,16,20,22,23,24,25,26,27,28]->(k==n)=false:=λn hn=>by
  simp at hn;rw[beq_eq_false_iff_ne];omega
 have n8:=HN 8 (by decide);have n9:=HN 9 (by decide);have n11:=HN 11 (by decide);have n12:=HN 12 (by decide);have n13:=HN 13 (by decide);have n14:=HN 14 (by decide);have n15:=HN 15 (by decide);have n16:=HN 16 (by decide);have n20:=HN 20 (by decide);have n22:=HN 22 (by decide);have n23:=HN 23 (by decide);have n24:=HN 24 (by decide);have n25:=HN 25 (by decide);have n26:=HN 26 (by decide);have n27:=HN 27 (by decide);have n28:=HN 28 (by decide);clear hl HN;go_enter Tryz.func56,Tryz.ntmps56
 go_upto_region 1 with fail
 rw[<-HW.out];rw[<-hg];clear hg;obtain⟨q0,q1,q2,q3,q4,q5,q6,q7⟩:=H8.out W0 Br;go_wp2_with fail
 clear q0 q1 q2 q3 q4 q5 q6 q7;refine FD.out.mono ?_;rintro e w2 ⟨rfl,hb2⟩;obtain⟨q0,q1,q2,q3,q4,q5,q6,q7⟩:=H8.out w2 hb2;go_wp2_with fail
 refine(LF.out _ hb2).mono ?_;rintro e w3 ⟨rfl,hb3⟩;replace hb2:=El hb2 hb3;clear hb3;go_wp2_with fail
 go_ret;exact⟨Aa (by rw[HR2.out]),by rw[<-HGG.out];exact HWB.out.trans (hb2.mono HWS.out)⟩
end
section
open Go.RowKit Tr
theorem J5:∀{l:List Tree} {i:Nat} (h:i<l.length),all l[i]=false->Bd l=false
 | [],_,h,_=>by simp at h
 |t::r,0,_,h=>by unfold Bd;rw[show all t=false from h];rfl
 |t::r,i+1,h,ha=>by unfold Bd;rw[J5 (l:=r) (i:=i) (by simpa using h) ha,Bool.and_false]
theorem Qx:∀{l:List Tree},(∀i (h:i<l.length),all l[i]=true)->Bd l=true
 | [],_=>rfl
 |t::r,h=>by unfold Bd;rw[show all t=true from h 0 (by simp),Qx (l:=r) (λi hi=>h (i+1) (by simpa using hi))];rfl
theorem Wca (a:Tree)(vs:List Value)(w:World)(B:Nat)(h:IsTree w B a vs)(hB:B<=w.heap.size):Calls Tryz.prog 56 #[.agg vs.toArray] w (La w (one a)):=by
 have:=Cha a vs w B h hB;obtain⟨k,o,m,nm,t,l⟩:=a;rwa[show Yo (kind (.mk k o m nm t l)) (op (.mk k o m nm t l)) (Bc (.mk k o m nm t l)) (num (.mk k o m nm t l)) (text (.mk k o m nm t l)) ((kids (.mk k o m nm t l)).map kind)=one (.mk k o m nm t l) from by rw[Qna];rfl] at this
theorem Dha (n:Nat):∀(a:Tree) (vs:List Value) (w:World) (B:Nat),SizeOf.sizeOf a<n->IsTree w B a vs->B<=w.heap.size->
 Calls Tryz.prog 29 #[.agg vs.toArray] w (La w (all a)):=by
 induction n with
 |zero=>intro a vs w B h;omega
 |succ n ih=>
  intro a vs w B hn h hB;have O1:=λwx hx hy=>Wca a vs wx B hx hy;have hIA:=Cb h;have h':=h;obtain⟨k,o,m,nm,t,l⟩:=a;obtain⟨W,hW⟩:∃W,W=w.alloc (.cells vs.toArray 28):=⟨_,rfl⟩;obtain⟨A1,A2,A3,A4,c1,c2,c3,c4,us,HO,HL,HC,hW8,HG,hWl,hWb⟩:=Vb h hW;have hf4:=HO.out.f4.le (by omega);have HSZ:∀(i:Nat) (hi:i<l.length),SizeOf.sizeOf l[i]<n:=λi hi=>by have:=Vg (k:=k) (o:=o) (m:=m) (n:=nm) (t:=t) hi;omega
  replace HSZ:=Qd HSZ;have HR:Hid (all (.mk k o m nm t l)=(one (.mk k o m nm t l)&&Bd l)):=Qd (by rw[all]);have AB:Hid (∀i (hi:i<l.length),all l[i]=false->Bd l=false):=Qd (λi hi h=>J5 hi h);have AG:=Qd (@Qx l);have O2:=Qd (O1 W (h'.below (hWb.mono hB)) (by omega));generalize one (.mk k o m nm t l)=x at*;generalize all (.mk k o m nm t l)=R at*;generalize Bd l=Y at*;have HQ:Hid (∀wx,Below W.heap.size W wx->wx.cell? ⟨w.heap.size,7,none⟩=some (.slice A4 l.length c4)):=Qd (λwx hx=>(hx.cell (p:=⟨w.heap.size,7,none⟩) hWl).trans hW8.p7);have HKB:Hid (∀wx,Below W.heap.size W wx->∀p:Addr,p.block<B->wx.cell? p=w.cell? p):=Qd (λwx hx p hp=>by rw[hx.cell (by omega),hWb.cell (by omega)]);have HWB:=Qd hWb;have HWS:Hid (w.heap.size<=W.heap.size):=Qd (by omega);have HW:=Qd hW;have HIA:=Qd hIA;clear hW8 HO hWb hW h hn h' O1 hIA;go_enter Tryz.func29,Tryz.ntmps29
  go_upto_region 1 with fail
  rw[<-HW.out];go_wp2_with (with_reducible refine Wh (.tmp 1) rfl rfl w.heap.size rfl HG.out HIA.out ?_)
  refine O2.out.mono ?_;rintro e w2 ⟨rfl,hb2⟩;cases x
  ·have HZ:Hid (R=false):=Qd (by rw[HR.out];rfl)
   go_wp2_with fail
   go_ret;exact⟨Aa (by rw[HZ.out]),HWB.out.trans (hb2.mono HWS.out)⟩
  have HRY:Hid (R=Y):=Qd (by rw[HR.out];rfl);clear HR;have q7:=HQ.out w2 hb2;go_wp2_with fail
  go_loopw [3] (λi wr=>∃(j:Nat),j<=l.length/\i= .int .i64 j/\Hid (∀i (hi:i<l.length),i<j->all l[i]=true)/\Below W.heap.size W wr) (λi _=>l.length-(intOf i).toNat)
  case atStart=>exact⟨0,Nat.zero_le _,rfl,Qd (λi hi h=>by omega),hb2⟩
  case round=>
   clear q7;obtain⟨j,hj,rfl,HI,hbel⟩:=hrel;have q7:=HQ.out wr hbel;by_cases hlt:j<l.length
   ·obtain⟨b,off,tv,rfl,hb,HT,HR2⟩:=Dd HC.out HL.out (HKB.out wr hbel) hlt
    have IH:=Qd (ih l[j] _ wr B (HSZ.out j hlt) (HT.out.keep (HKB.out wr hbel) Lr) (by have:=hbel.size;omega));have HI2:=Qd (Fc HT.out);have HS:Hid (all l[j]=true->∀i (hi:i<l.length),i<j+1->all l[i]=true):=Qd (λh i hi hij=>by
     by_cases e:i=j
     ·subst e;exact h
     exact HI.out i hi (by omega))
    have HF:=Qd (AB.out j hlt);generalize all l[j]=z at*;clear HT;cases z
    ·have HZ:Hid (R=false):=Qd (by rw[HRY.out];exact HF.out rfl)
     go_wp2_with (with_reducible refine Gc rfl (.tmp 17) rfl b (off+j*8) rfl tv HR2.out HI2.out ?_)
     refine IH.out.mono ?_;rintro e w3 ⟨rfl,hb3⟩;go_wp2_with fail
     go_ret;exact⟨Aa (by rw[HZ.out]),HWB.out.trans ((hbel.trans (hb3.mono hbel.size)).mono HWS.out)⟩
    have HN:=Qd (HS.out rfl);go_wp2_with (with_reducible refine Gc rfl (.tmp 17) rfl b (off+j*8) rfl tv HR2.out HI2.out ?_)
    refine IH.out.mono ?_;rintro e w3 ⟨rfl,hb3⟩;go_wp2_with fail
    go_roundw
    case rel=>exact⟨j+1,by omega,by go_num,HN,hbel.trans (hb3.mono hbel.size)⟩
    case measure=>simp[intOf];omega
   have HZ:Hid (R=true):=Qd (by rw[HRY.out];exact AG.out (λi hi=>HI.out i hi (by omega)));go_wp2_with fail
   go_ret;exact⟨Aa (by rw[HZ.out]),HWB.out.trans (hbel.mono HWS.out)⟩
theorem Q7 (a:Tree)(vs:List Value)(w:World)(B:Nat)(h:IsTree w B a vs)(hB:B<=w.heap.size)(hc:count a<=1000000):
 Calls Tryz.prog 13 #[.agg vs.toArray] w (La w (right a)):=by
 obtain⟨W,hW⟩:∃W,W=w.alloc (.cells vs.toArray 28):=⟨_,rfl⟩;have hWb:Below w.heap.size w W:=by rw[hW];exact Br.alloc Lr _
 have hWl:w.heap.size<W.heap.size:=by rw[hW];simp
 have HG:Hid (∀wx,Below W.heap.size W wx->wx.heap[w.heap.size]? =some (.cells vs.toArray 28 (0,0))):=Qd (λwx hx=>(hx.block _ hWl).trans (by rw[hW];exact heap_alloc_new w _));have hk:∀wx,Below W.heap.size W wx->IsTree wx B a vs/\B<=wx.heap.size:=λwx hx=>⟨h.below ((hWb.trans (hx.mono (by omega))).mono hB),by have:=hx.size;omega⟩;have D1:=Qd (Z6 _ a vs W B (Nat.lt_succ_self _) (hk W Br).1 (hk W Br).2 hc);have C1:=Qd (λwx hx=>A7 _ a vs wx B (Nat.lt_succ_self _) (hk wx hx).1 (hk wx hx).2 hc);have L1:=Qd (λwx hx=>Dha _ a vs wx B (Nat.lt_succ_self _) (hk wx hx).1 (hk wx hx).2);have HR:Hid (right a=(decide (depth a<=40)&&decide (count a<=2048)&&all a)):=Qd rfl;have HIA:=Qd (Cb h);have hdc:=Ul a;generalize depth a=d at*;generalize count a=c at*;generalize all a=x at*;generalize right a=R at*;have HWB:=Qd hWb;have HWS:Hid (w.heap.size<=W.heap.size):=Qd (by omega);have HW:=Qd hW;clear h hk hW hWb;have hbl:Below W.heap.size W W:=Br;have HBL:=Qd hbl;go_enter Tryz.func13,Tryz.ntmps13
 go_upto_region 1 with fail
 rw[<-HW.out];go_wp2_with (with_reducible refine Wh (.tmp 1) rfl rfl w.heap.size rfl (HG.out _ hbl) HIA.out ?_)
 refine D1.out.mono ?_;rintro e w2 ⟨rfl,hb2⟩;by_cases h1:d<=40
 ·have q1:(d:Int)<=40:=by omega
  go_wp2_with (refine Kx (.tmp 1) rfl rfl w.heap.size rfl (HG.out _ hb2) HIA.out ?_)
  refine(C1.out w2 hb2).mono ?_;rintro e w3 ⟨rfl,hb3'⟩;have hb3:=hb2.trans (hb3'.mono hb2.size);by_cases h2:c<=2048
  ·have q2:(c:Int)<=2048:=by omega
   have HZ:Hid (R=x):=Qd (by rw[HR.out,decide_eq_true h1,decide_eq_true h2];rfl);go_wp2_with (refine Kx (.tmp 1) rfl rfl w.heap.size rfl (HG.out _ hb3) HIA.out ?_)
   refine(L1.out w3 hb3).mono ?_;rintro e w4 ⟨rfl,hb4⟩;go_wp2_with fail
   go_ret;exact⟨Aa (by rw[HZ.out]),HWB.out.trans ((hb3.trans (hb4.mono hb3.size)).mono HWS.out)⟩
  have q2:¬(c:Int)<=2048:=by omega
  have HZ:Hid (R=false):=Qd (by rw[HR.out,decide_eq_false h2];simp);go_wp2_with fail
  go_ret;exact⟨Aa (by rw[HZ.out]),HWB.out.trans (hb3.mono HWS.out)⟩
 have q1:¬(d:Int)<=40:=by omega
 have HZ:Hid (R=false):=Qd (by rw[HR.out,decide_eq_false h1];simp);go_wp2_with fail
 go_ret;exact⟨Aa (by rw[HZ.out]),HWB.out.trans (hb2.mono HWS.out)⟩
end
section
open Go.RowKit Tr
end
section
open Go.RowKit Tr
def IsBld (B b:Nat)(l:List UInt8)(w:World):Prop:=Lib.IsBuilderF 42 5 B b (Lib.byteCells l) w
theorem IsBld.lt {B b:Nat}{l:List UInt8}{w:World}(h:IsBld B b l w):B<=b/\b<w.heap.size:=by
 rcases h with⟨h1,v,h2,_⟩ |⟨h1,v,h2,_⟩
 all_goals
  exact⟨h1,(Array.getElem?_eq_some_iff.1 h2).1⟩
theorem IsBld.szB {B b:Nat}{l:List UInt8}{w:World}(h:IsBld B b l w):B<=w.heap.size:=by have:=h.lt;omega
def KeptB (B b:Nat)(w w':World):Prop:=Below B w w'/\Lib.OthersKept 5 (some b) w w'
theorem KeptB.refl (B b:Nat)(w:World):KeptB B b w w:=⟨Br,Lib.OthersKept.refl _ _ _⟩
theorem KeptB.trans {B b:Nat}{w w' w'':World}(h:KeptB B b w w')(k:KeptB B b w' w''):KeptB B b w w'':=⟨h.1.trans k.1,h.2.trans k.2⟩
theorem KeptB.of {B b:Nat}{w w':World}(h:Below w.heap.size w w')(hB:B<=w.heap.size):KeptB B b w w':=
 ⟨h.mono hB,λk o hk _ _=>(h.block k (Array.getElem?_eq_some_iff.1 hk).1).trans hk⟩
theorem KeptB.size {B b:Nat}{w w':World}(h:KeptB B b w w'):w.heap.size<=w'.heap.size:=h.1.size
theorem KeptB.below {B b:Nat}{w w':World}(h:KeptB B b w w'):Below B w w':=h.1
theorem KeptB.block {B b k:Nat}{w w':World}{o:Obj}(h:KeptB B b w w')(hk:w.heap[k]? =some o)(hb:k≠b)(ho:∀c fz,o≠ .cells c 5 fz):w'.heap[k]? =some o:=
 h.2 k o hk (λe=>hb (by injection e)) ho
theorem KeptB.row {B b k:Nat}{w w':World}{cs:Array Value}{T:TypeId}{fz:Nat×Nat}(h:KeptB B b w w')(hk:w.heap[k]? =some (.cells cs T fz))(hb:k≠b)(hT:T≠5):w'.heap[k]? =some (.cells cs T fz):=
 h.block hk hb (λc f e=>hT (by injection e))
def Ld (B b:Nat)(w:World)(l:List UInt8)(e:Ending)(w':World):Prop:=(∃v,e= .returned v)/\IsBld B b l w'/\KeptB B b w w'
theorem Db (B b:Nat)(l s:List UInt8)(w:World)(h:IsBld B b l w)(hlen:l.length+s.length<=140737488355328):
 Calls Tryz.prog 36 #[.pointer (some ⟨b,0,none⟩),.string ⟨s.toArray⟩] w (Ld B b w (l++s)):=by
 refine(Any.Builder_WriteString_k Qf Ff B b _ ⟨s.toArray⟩ w h (by rw[Lib.byteCells_length];exact hlen) h.szB).mono ?_;rintro e w' ⟨he,hbd,hb,hk⟩;exact⟨⟨_,he⟩,.inr (by rw[Lib.byteCells_append];exact hbd),hb,hk⟩
theorem Bpa (B b:Nat)(l:List UInt8)(c:Nat)(w:World)(h:IsBld B b l w)(hc:c<256)(hlen:l.length+1<=140737488355328):
 Calls Tryz.prog 69 #[.pointer (some ⟨b,0,none⟩),.int .u8 c] w (Ld B b w (l++[UInt8.ofNat c])):=by
 refine(Any.Builder_WriteByte_k Ji Bi B b _ c w h (by rw[Lib.byteCells_length];exact hlen) h.szB).mono ?_;rintro e w' ⟨he,hbd,hb,hk⟩;have e1:Lib.byteCells [UInt8.ofNat c]=[.int .u8 (c:Int)]:=by
  unfold Lib.byteCells;simp;omega
 exact⟨⟨_,he⟩,.inr (by rw[Lib.byteCells_append,e1];exact hbd),hb,hk⟩
theorem Dv (B b:Nat)(l:List UInt8)(x:Int)(w:World)(h:IsBld B b l w)(hx:Gl.may x=true)(hlen:l.length+4<=140737488355328):
 Calls Tryz.prog 40 #[.pointer (some ⟨b,0,none⟩),.int .i32 x] w (Ld B b w (l++Tk.enc1 x)):=by
 have hx0: -2147483648<=x:=by unfold Gl.may at hx;simp at hx;omega
 have hx1:x<=2147483647:=by unfold Gl.may at hx;simp at hx;omega
 refine(Any.Builder_WriteRune_k Ki Ci B b _ x hx0 hx1 w h (by rw[Lib.byteCells_length];exact hlen) h.szB).mono ?_;rintro e w' ⟨he,hbd,hb,hk⟩;exact⟨⟨_,he⟩,.inr (by rw[Lib.byteCells_append,<-Co hx];exact hbd),hb,hk⟩
theorem IsBld.later {B b:Nat}{l:List UInt8}{w w':World}(h:IsBld B b l w)(hb:Below w.heap.size w w'):IsBld B b l w':=Cba h hb
theorem Ana (w:World):IsBld w.heap.size w.heap.size [] (w.alloc (.cells #[.pointer none,.slice none 0 0] 42)):=Kia w
theorem Xca {B b:Nat}{l:List UInt8}{w:World}(h:IsBld B b l w):
 Calls Tryz.prog 22 #[.pointer (some ⟨b,0,none⟩)] w λe w'=>e= .returned (.string ⟨l.toArray⟩)/\Below B w w':=by
 refine(Tryz.Builder_String_any_k B b l w h h.szB).mono ?_;rintro e w' ⟨he,_,hb,_⟩;exact⟨he,hb⟩
def PowB (B:Nat)(w:World):Prop:=Pow10 w∧∀g,Tryz.prog.globalNamed "internal/strconv.uint64pow10" =some g→g<B
theorem PowB.kept {B:Nat}{w w':World}(h:PowB B w)(hb:Below B w w'):PowB B w':=⟨⟨Yi h.1.tab hb h.2,λg e=>Nat.lt_of_lt_of_le (h.1.lt g e) hb.size⟩,h.2⟩
end
section
open Go.RowKit Tr
theorem Eha {w:World}{q:Nat}{T:TypeId}{k o:Int}{m:List UInt8}{n:Rt.Nm}{t:List Int}{len:Nat}{A1 A2 A3 A4:Option Addr}{c1 c2 c3 c4:Nat}(h:w.heap[q]? =some (.cells (Qa k o m n t len A1 A2 A3 A4 c1 c2 c3 c4).toArray T (0,0))):
 At8 w q 0 k o m n t len A1 A2 A3 A4 c1 c2 c3 c4:=by
 have hc:∀j v,(Qa k o m n t len A1 A2 A3 A4 c1 c2 c3 c4)[j]? =some v->w.cell? ⟨q,0+j,none⟩=some v:=λj v hv=>by
  rw[Nat.zero_add];refine(cell_of_row _ q j _ _ _ h).trans ?_;rw[List.getElem?_toArray];exact hv
 exact⟨hc 0 _ rfl,hc 1 _ rfl,hc 2 _ rfl,hc 3 _ rfl,hc 4 _ rfl,hc 5 _ rfl,hc 6 _ rfl,hc 7 _ rfl⟩
theorem Oi:28≠5:=by decide
structure Boxed (B b Bt:Nat) (w W:World) (k o:Int) (m:List UInt8) (n:Rt.Nm) (t:List Int) (l:List Tree) (vs:List Value) (A1 A2 A3 A4:Option Addr) (c1 c2 c3 c4:Nat) (us:List Value):Prop where
 own:Own w Bt k o m n t l.length A1 A2 A3 A4 c1 c2 c3 c4
 lies:Lies w Bt A4 us
 kids:IsTrees w Bt l us
 row:∀wx,KeptB B b W wx->wx.heap[w.heap.size]? =some (.cells vs.toArray 28 (0,0))
 at8:∀wx,KeptB B b W wx->At8 wx w.heap.size 0 k o m n t l.length A1 A2 A3 A4 c1 c2 c3 c4
 far:∀wx,KeptB B b W wx->∀p:Addr,p.block<Bt->wx.cell? p=w.cell? p
 kept:KeptB B b w W
 tree:∀wx,KeptB B b W wx->IsTree wx Bt (.mk k o m n t l) vs
 sub:∀wx,KeptB B b W wx->∀i (hi:i<l.length),∃b' off tv,A4=some ⟨b',off,none⟩/\IsTree wx Bt l[i] tv/\wx.rangeAt b' (off+i*8) tv/\(Tryz.prog.info? 28).map (·.size)=some tv.length
theorem Boxed.at_ {B b Bt:Nat}{w W:World}{k o:Int}{m:List UInt8}{n:Rt.Nm}{t:List Int}{l:List Tree}{vs:List Value}{A1 A2 A3 A4:Option Addr}{c1 c2 c3 c4 b4 o4:Nat}{us:List Value}(h:Boxed B b Bt w W k o m n t l vs A1 A2 A3 A4 c1 c2 c3 c4 us)(e:A4=some ⟨b4,o4,none⟩):
 ∀wx,KeptB B b W wx->∀i (hi:i<l.length),∃tv,IsTree wx Bt l[i] tv/\wx.rangeAt b4 (o4+i*8) tv/\(Tryz.prog.info? 28).map (·.size)=some tv.length:=λwx hx i hi=>by
 obtain⟨b',off,tv,e',h1,h2,h3⟩:=h.sub wx hx i hi;rw[e] at e';injection e' with e'
 injection e' with e1 e2
 subst e1 e2;exact⟨tv,h1,h2,h3⟩
theorem Rn {w W:World}{B b Bt:Nat}{l0:List UInt8}{k o:Int}{m:List UInt8}{n:Rt.Nm}{t:List Int}{l:List Tree}{vs:List Value}(h:IsTree w Bt (.mk k o m n t l) vs)(hB:Bt<=B)(hL:IsBld B b l0 w)(hW:W=w.alloc (.cells vs.toArray 28)):
 ∃A1 A2 A3 A4 c1 c2 c3 c4 us,Hid (Boxed B b Bt w W k o m n t l vs A1 A2 A3 A4 c1 c2 c3 c4 us)/\Hid (IsBld B b l0 W)/\l.length<=1100000000000:=by
 have h':=h;obtain⟨A1,A2,A3,A4,c1,c2,c3,c4,us,rfl,HO,HL,HC⟩:=h.open_;have hb:=hL.lt;have hWb:Below w.heap.size w W:=by rw[hW];exact Br.alloc Lr _
 have hWl:w.heap.size<W.heap.size:=by rw[hW];simp
 have hG:W.heap[w.heap.size]? =some (.cells (Qa k o m n t l.length A1 A2 A3 A4 c1 c2 c3 c4).toArray 28 (0,0)):=by rw[hW];exact heap_alloc_new w _
 have hrow:∀wx,KeptB B b W wx->wx.heap[w.heap.size]? =some (.cells (Qa k o m n t l.length A1 A2 A3 A4 c1 c2 c3 c4).toArray 28 (0,0)):=λwx hx=>hx.row hG (by omega) Oi;have hfar:∀wx,KeptB B b W wx->∀p:Addr,p.block<Bt->wx.cell? p=w.cell? p:=λwx hx p hp=>by rw[hx.below.cell (by omega),hWb.cell (by omega)]
 refine⟨A1,A2,A3,A4,c1,c2,c3,c4,us,Qd ⟨HO.out,HL.out,HC.out,hrow,λwx hx=>Eha (hrow wx hx),hfar,KeptB.of hWb (by omega),λwx hx=>h'.keep (hfar wx hx) Lr,λwx hx i hi=>?_⟩,Qd (hL.later hWb),?_⟩
 ·obtain⟨b',off,tv,e1,e2,e3,e4⟩:=Dd HC.out HL.out (hfar wx hx) hi
  exact⟨b',off,tv,e1,e3.out.keep (hfar wx hx) Lr,e4.out,Fc e3.out⟩
 have:=HO.out.f4.2.1;omega
def WrOk (F:FuncId)(f:Tree->List UInt8)(n:Nat):Prop:=
 ∀(a:Tree) (vs:List Value) (w:World) (Bt B b:Nat) (l:List UInt8),SizeOf.sizeOf a<n->all a=true->IsTree w Bt a vs->Bt<=B->PowB B w->IsBld B b l w->l.length+(f a).length<=140737488355000->
  Calls Tryz.prog F #[.pointer (some ⟨b,0,none⟩),.agg vs.toArray] w (Ld B b w (l++f a))
theorem Na {B b:Nat}{w W w':World}{l l':List UInt8}{v:Value}(hk:KeptB B b w W)(h':KeptB B b W w')(hl:IsBld B b l w')(e:l=l'):Ld B b w l' (.returned v) w':=⟨⟨v,rfl⟩,by rw[<-e];exact hl,hk.trans h'⟩
theorem Zp (n:Nat)(hT:WrOk 21 Ia n):WrOk 130 (λa=>Me (Ia a)) n:=by
 intro a vs w Bt B b l hn ha h hB hP hL hM;obtain⟨W,hW⟩:∃W,W=w.alloc (.cells vs.toArray 28):=⟨_,rfl⟩;have hIA:=Cb h;have T1:=Qd (λwx l' h1 h2 h3 h4=>hT a vs wx Bt B b l' hn ha h1 hB h2 h3 h4);have hs:(Me (Ia a)).length=(Ia a).length+2:=Nw _;obtain⟨k,o,m,nm,t,kd⟩:=a;obtain⟨A1,A2,A3,A4,c1,c2,c3,c4,us,HX,HB0,-⟩:=Rn h hB hL hW;have hPW:=hP.kept HX.out.kept.below;have HPW:=Qd hPW;have HI:Hid (Me (Ia (.mk k o m nm t kd))=[40]++(Ia (.mk k o m nm t kd)++[41])):=Qd rfl;have HW:=Qd hW;have HIA:=Qd hIA;dsimp only at hM;rw[hs] at hM;show Calls _ _ _ _ (Ld B b w (l++Me (Ia (.mk k o m nm t kd))));generalize Ia (.mk k o m nm t kd)=S at*;generalize Me S=R at*;clear h hW hP hPW hT hs hIA hL ha;go_enter Tryz.func130,Tryz.ntmps130
 go_upto_region 1 with fail
 rw[<-HW.out];go_wp2_with fail
 refine(Db B b l [40] W HB0.out (by simp;omega)).mono ?_;rintro e w1 ⟨⟨v1,rfl⟩,hb1,hk1⟩;replace hb1:=Qd hb1;go_wp2_with (with_reducible refine Wh (.tmp 3) rfl rfl w.heap.size rfl (HX.out.row _ hk1) HIA.out ?_)
 refine(T1.out w1 _ (HX.out.tree _ hk1) (HPW.out.kept hk1.below) hb1.out (by simp;omega)).mono ?_;rintro e w2 ⟨⟨v2,rfl⟩,hb2,hk2⟩;replace hb2:=Qd hb2;go_wp2_with fail
 refine(Db B b _ [41] w2 hb2.out (by simp;omega)).mono ?_;rintro e w3 ⟨⟨v3,rfl⟩,hb3,hk3⟩;replace hb3:=Qd hb3;go_wp2_with fail
 go_end0
 exact Na HX.out.kept ((hk1.trans hk2).trans hk3) hb3.out (by rw[HI.out];simp)
theorem Gh (n:Nat)(hT:WrOk 21 Ia n):WrOk 71 (λa=>Mc (kd a)) n:=by
 intro a vs w Bt B b l hn ha h hB hP hL hM;obtain⟨W,hW⟩:∃W,W=w.alloc (.cells vs.toArray 28):=⟨_,rfl⟩;have hIA:=Cb h;have T1:=Qd (λwx l' h1 h2 h3 h4=>hT a vs wx Bt B b l' hn ha h1 hB h2 h3 h4);have T2:=Qd (λwx l' h1 h2 h3 h4=>Zp n hT a vs wx Bt B b l' hn ha h1 hB h2 h3 h4);dsimp only at T2;have HI:Hid (Mc (kd a)=if item (kind a) then Ia a else Me (Ia a)):=Qd (by unfold Mc;rw[Ik];rfl);obtain⟨k,o,m,nm,t,ks⟩:=a;obtain⟨A1,A2,A3,A4,c1,c2,c3,c4,us,HX,HB0,-⟩:=Rn h hB hL hW;have HPW:=Qd (hP.kept HX.out.kept.below);have HIT:=Qd (λwx=>Oja k wx);have q0:=(HX.out.at8 W (KeptB.refl _ _ _)).p0;have HW:=Qd hW;have HIA:=Qd hIA;have HK:Hid (kind (.mk k o m nm t ks)=k):=Qd rfl;rw[HK.out] at HI;show Calls _ _ _ _ (Ld B b w (l++Mc (kd (.mk k o m nm t ks))));dsimp only at hM;generalize Mc (kd (.mk k o m nm t ks))=R at*;generalize Ia (.mk k o m nm t ks)=S at*;generalize item k=x at*;clear h hW hP hT hIA hL ha;cases x
 ·obtain rfl:R=Me S:=HI.out
  clear HI;go_enter Tryz.func71,Tryz.ntmps71
  go_upto_region 1 with fail
  rw[<-HW.out];go_wp2_with fail
  refine(HIT.out _).mono ?_;rintro e w' ⟨rfl,rfl⟩;go_wp2_with (with_reducible refine Wh (.tmp 3) rfl rfl w.heap.size rfl (HX.out.row _ (KeptB.refl _ _ _)) HIA.out ?_)
  refine(T2.out W _ (HX.out.tree _ (KeptB.refl _ _ _)) HPW.out HB0.out hM).mono ?_;rintro e w1 ⟨⟨v1,rfl⟩,hb1,hk1⟩;replace hb1:=Qd hb1;go_wp2_with fail
  go_end0
  exact Na HX.out.kept hk1 hb1.out rfl
 obtain rfl:R=S:=HI.out;clear HI;go_enter Tryz.func71,Tryz.ntmps71
 go_upto_region 1 with fail
 rw[<-HW.out];go_wp2_with fail
 refine(HIT.out _).mono ?_;rintro e w' ⟨rfl,rfl⟩;go_wp2_with (with_reducible refine Wh (.tmp 3) rfl rfl w.heap.size rfl (HX.out.row _ (KeptB.refl _ _ _)) HIA.out ?_)
 refine(T1.out W _ (HX.out.tree _ (KeptB.refl _ _ _)) HPW.out HB0.out hM).mono ?_;rintro e w1 ⟨⟨v1,rfl⟩,hb1,hk1⟩;replace hb1:=Qd hb1;go_wp2_with fail
 go_end0
 exact Na HX.out.kept hk1 hb1.out rfl
end
section
open Go.RowKit Tr
theorem Rx (s:List UInt8)(L:List (List UInt8)){j:Nat}(h:j<L.length):join s (L.take (j+1))=join s (L.take j)++((if j=0 then[] else s)++L[j]):=by
 rw[List.take_succ_eq_append_getElem h];by_cases h0:j=0
 ·subst h0;simp[join]
 rw[Fea _ _ _ (by
  intro e;have:=congrArg List.length e;rw[List.length_take,List.length_nil] at this;omega),if_neg h0,List.append_assoc]
theorem Baa (s:List UInt8)(L:List (List UInt8)):∀(d j:Nat),j+d=L.length->(join s (L.take j)).length<=(join s L).length
 | 0,j,h=>by rw[List.take_of_length_le (by omega)];exact Lr
 |d+1,j,h=>by
  refine Nat.le_trans ?_ (Baa s L d (j+1) (by omega));rw[Rx s L (by omega),List.length_append];omega
theorem Sn (F:FuncId)(f:Tree->List UInt8)(n:Nat)(hF:WrOk F f n)(hE:∀args w,(callFunc F args).run Tryz.prog w= .ok (.enter F args) w)(sep:List UInt8)(T:List Tree)(us:List Value)(A:Option Addr)(c:Nat)
 (w:World) (Bt B b:Nat) (l:List UInt8) (hn:∀a∈T,SizeOf.sizeOf a<n) (ha:∀a∈T,all a=true) (hl:Lies w Bt A us) (hc:IsTrees w Bt T us) (hB:Bt<=B) (hP:PowB B w) (hL:IsBld B b l w) (hT:T.length<=1100000000000)
 (hM:l.length+(join sep (T.map f)).length<=140737488355000):
 Calls Tryz.prog 44 #[.pointer (some ⟨b,0,none⟩),.slice A T.length c,.string ⟨sep.toArray⟩,.func (.func F) #[] #[]] w (Ld B b w (l++join sep (T.map f))):=by
 have HA:=Qd hl;have HC:=Qd hc;have HP:=Qd hP;have HN:=Qd (λi (hi:i<T.length)=>And.intro (hn T[i] (List.getElem_mem hi)) (ha T[i] (List.getElem_mem hi)));have HF:=Qd hF;have HL:=Qd hL;have HON:Hid (∀a vs w,IsTree w Bt a vs->vs.toArray.all (·.oneCell')=true):=Qd (λa vs w h=>Zk h);have JN:=Qd (λj (h:j<(T.map f).length)=>Rx sep (T.map f) h);have JL:=Qd (λj (h:j<=(T.map f).length)=>Baa sep (T.map f) ((T.map f).length-j) j (by omega));have HML:Hid ((T.map f).length=T.length):=Qd (by simp);have HMG:Hid (∀j (h:j<T.length),(T.map f)[j]'(by simpa using h)=f T[j]):=Qd (λj h=>by simp);have h0:=hL.lt;clear hl hc hP hn ha hF hL;go_enter Tryz.func44,Tryz.ntmps44
 go_wp2_with fail
 go_loopw [12] (λiv wr=>∃j:Nat,j<=T.length/\iv= .int .i64 (j:Int)/\Hid (IsBld B b (l++join sep ((T.map f).take j)) wr)/\Hid (KeptB B b w wr)) (λiv _=>T.length-(intOf iv).toNat)
 case atStart=>exact⟨0,Nat.zero_le _,rfl,Qd (by rw[List.take_zero];simpa [join] using HL.out),Qd (KeptB.refl _ _ _)⟩
 case round=>
  obtain⟨j,hj,rfl,HBD,HK⟩:=hrel;by_cases hlt:j<T.length
  ·obtain⟨b',off,tv,rfl,hb,HTR,HR⟩:=Dd HC.out HA.out (wr:=wr) (λp hp=>HK.out.below.cell (by omega)) hlt
   have HTI:=Qd (Fc HTR.out);have HTA:=Qd (Cb HTR.out);have HO1:=Qd (HON.out _ _ _ HTR.out);have hj0:(0:Int)<=(j:Int):=by omega
   have hj1:(j:Int)<(T.length:Int):=by omega
   obtain⟨WB,hWB⟩:∃WB,WB=wr.alloc (.cells tv.toArray 28):=⟨_,rfl⟩;have hbw:Below wr.heap.size wr WB:=by rw[hWB];exact Br.alloc Lr _
   have hbB:=HBD.out.lt;have HK2:Hid (KeptB B b wr WB):=Qd (KeptB.of hbw (by omega));have HG:Hid (∀wx,KeptB B b WB wx->wx.heap[wr.heap.size]? =some (.cells tv.toArray 28 (0,0))):=Qd (λwx hx=>hx.row (by rw[hWB];exact heap_alloc_new wr _) (by omega) Oi);have HB2:=Qd (HBD.out.later hbw);have HNX:Hid (join sep ((T.map f).take (j+1))=join sep ((T.map f).take j)++((if j=0 then[] else sep)++f T[j])):=Qd (by rw[JN.out j (by rw[HML.out];exact hlt),HMG.out j hlt]);have hJL:=JL.out (j+1) (by rw[HML.out];omega);rw[HNX.out] at hJL;have FX:=Qd (λwx l' (hx:KeptB B b WB wx) h3 h4=>HF.out (T[j]'hlt) tv wx Bt B b l' (HN.out j hlt).1 (HN.out j hlt).2 (HTR.out.keep (λp hp=>by rw[hx.below.cell (by omega),hbw.cell (by have:=HK.out.size;omega),HK.out.below.cell (by omega)]) Lr) hB (HP.out.kept (HK.out.below.trans (HK2.out.below.trans hx.below))) h3 h4);have HWB:=Qd hWB;generalize join sep ((T.map f).take j)=J at*;generalize f T[j]=ft at*;rw[List.length_append,List.length_append] at hJL;clear hWB hbw HTR JN;by_cases h0j:j=0
   ·have q0:¬((0:Int)<(j:Int)):=by omega
    rw[if_pos h0j] at HNX;rw[if_pos h0j] at hJL;clear h0j;go_upto_region 3 with(first
     |(with_reducible refine Gc rfl (.tmp 15) rfl b' (off+j*8) rfl tv HR.out HTI.out ?_)
     |(refine wpList_store_row rfl 28 (.tmp 9) (.tmp 16) rfl wr.heap.size tv.toArray rfl rfl 28 _ (heap_alloc_new wr _) HTA.out (by rw[<-Option.some.injEq,<-HTA.out];rfl) HO1.out ?_;rw[World.setRow_alloc_new]))
    rw[<-HWB.out];go_wp2_with (with_reducible refine wpList_load_row rfl 28 (.tmp 9) rfl wr.heap.size rfl 28 tv.toArray (0,0) _ (HG.out _ (KeptB.refl _ _ _)) Tryz.underlying28 rfl HTA.out ?_)
    refine(FX.out _ _ (KeptB.refl _ _ _) HB2.out (by simp at hJL⊢;omega)).mono ?_;rintro e w2 ⟨⟨v2,rfl⟩,hb2,hk2⟩;replace hb2:=Qd hb2;replace hk2:=Qd hk2;go_wp2_with fail
    go_roundw
    case rel=>exact⟨j+1,by omega,by go_num,Qd (by rw[HNX.out];have:=hb2.out;rwa[List.append_assoc] at this),Qd (HK.out.trans (HK2.out.trans hk2.out))⟩
    case measure=>simp[intOf];omega
   have q0:(0:Int)<(j:Int):=by omega
   rw[if_neg h0j] at HNX;rw[if_neg h0j] at hJL;clear h0j;go_upto_region 3 with(first
    |(with_reducible refine Gc rfl (.tmp 15) rfl b' (off+j*8) rfl tv HR.out HTI.out ?_)
    |(refine wpList_store_row rfl 28 (.tmp 9) (.tmp 16) rfl wr.heap.size tv.toArray rfl rfl 28 _ (heap_alloc_new wr _) HTA.out (by rw[<-Option.some.injEq,<-HTA.out];rfl) HO1.out ?_;rw[World.setRow_alloc_new]))
   rw[<-HWB.out];go_wp2_with fail
   refine(Db B b _ sep WB HB2.out (by simp at hJL⊢;omega)).mono ?_;rintro e w1 ⟨⟨v1,rfl⟩,hb1,hk1⟩;replace hb1:=Qd hb1;replace hk1:=Qd hk1;go_wp2_with (with_reducible refine wpList_load_row rfl 28 (.tmp 9) rfl wr.heap.size rfl 28 tv.toArray (0,0) _ (HG.out _ hk1.out) Tryz.underlying28 rfl HTA.out ?_)
   refine(FX.out _ _ hk1.out hb1.out (by simp at hJL⊢;omega)).mono ?_;rintro e w2 ⟨⟨v2,rfl⟩,hb2,hk2⟩;replace hb2:=Qd hb2;replace hk2:=Qd hk2;go_wp2_with fail
   go_roundw
   case rel=>exact⟨j+1,by omega,by go_num,Qd (by rw[HNX.out];have:=hb2.out;rwa[List.append_assoc,List.append_assoc] at this),Qd (HK.out.trans (HK2.out.trans (hk1.out.trans hk2.out)))⟩
   case measure=>simp[intOf];omega
  have e:(T.map f).take j=T.map f:=List.take_of_length_le (by rw[HML.out];omega);rw[e] at HBD;clear e;go_wp2_with fail
  go_end0
  exact Na (KeptB.refl _ _ _) HK.out HBD.out rfl
theorem Fv:∀args w,(callFunc 21 args).run Tryz.prog w= .ok (.enter 21 args) w:=enters_of Tryz.func21 (by kernel_rfl) rfl
theorem Yca:∀args w,(callFunc 71 args).run Tryz.prog w= .ok (.enter 71 args) w:=enters_of Tryz.func71 (by kernel_rfl) rfl
theorem Aq (n:Nat)(hF:WrOk 21 Ia n)(T:List Tree)(us:List Value)(A:Option Addr)(c:Nat)
 (w:World) (Bt B b:Nat) (l:List UInt8) (hn:∀a∈T,SizeOf.sizeOf a<n) (ha:∀a∈T,all a=true) (hl:Lies w Bt A us) (hc:IsTrees w Bt T us) (hB:Bt<=B) (hP:PowB B w) (hL:IsBld B b l w) (hT:T.length<=1100000000000)
 (hM:l.length+(places (T.map kd)).length<=140737488355000):
 Calls Tryz.prog 72 #[.pointer (some ⟨b,0,none⟩),.slice A T.length c] w (Ld B b w (l++places (T.map kd))):=by
 have HX:Hid (places (T.map kd)=[91]++(join [59] (T.map Ia)++[93])):=Qd (by unfold places;rw[List.map_map];rfl);have HLI:=Qd (λwx l' (hx:KeptB B b w wx) h3 h4=>Sn _ _ n hF Fv [59] T us A c wx Bt B b l' hn ha (hl.keep (λp hp=>hx.below.cell (by omega))) (hc.keep (λp hp=>hx.below.cell (by omega)) Lr) hB (hP.kept hx.below) h3 hT h4);rw[HX.out] at hM;generalize places (T.map kd)=R at*;generalize join [59] (T.map Ia)=J at*;generalize T.length=tn at*;simp only[List.length_append,List.length_cons,List.length_nil] at hM;have HL:=Qd hL;clear hF hn ha hl hc hP hL;go_enter Tryz.func72,Tryz.ntmps72
 go_wp2_with fail
 refine(Db B b l [91] w HL.out (by simp;omega)).mono ?_;rintro e w1 ⟨⟨v1,rfl⟩,hb1,hk1⟩;replace hb1:=Qd hb1;go_wp2_with fail
 refine(HLI.out _ _ hk1 hb1.out (by simp;omega)).mono ?_;rintro e w2 ⟨⟨v2,rfl⟩,hb2,hk2⟩;replace hb2:=Qd hb2;go_wp2_with fail
 refine(Db B b _ [93] w2 hb2.out (by simp;omega)).mono ?_;rintro e w3 ⟨⟨v3,rfl⟩,hb3,hk3⟩;replace hb3:=Qd hb3;go_wp2_with fail
 go_end0
 exact Na (KeptB.refl _ _ _) ((hk1.trans hk2).trans hk3) hb3.out (by rw[HX.out];simp)
theorem Tn (sign:List UInt8)(o:Int)(w:World)(B b:Nat)(l:List UInt8)(ho:port o=true)(hL:IsBld B b l w)(hM:l.length+(sign++Yf o).length<=140737488355000):
 Calls Tryz.prog 39 #[.pointer (some ⟨b,0,none⟩),.string ⟨sign.toArray⟩,.int .i64 o] w (Ld B b w (l++(sign++Yf o))):=by
 have ho1:0<=o/\o<8:=by unfold port at ho;simp at ho;exact ho
 have hd:(Yf o).length=1:=rfl;rw[List.length_append,hd] at hM;have HL:=Qd hL;clear hL ho hd;rcases(show o=0\/o=1\/o=2\/o=3\/o=4\/o=5\/o=6\/o=7 by omega) with rfl |rfl |rfl |rfl |rfl |rfl |rfl |rfl
 all_goals
  clear ho1;go_enter Tryz.func39,Tryz.ntmps39
  go_wp2_with fail
  refine(Db B b l sign w HL.out (by omega)).mono ?_;rintro e w1 ⟨⟨v1,rfl⟩,hb1,hk1⟩;replace hb1:=Qd hb1;go_wp2_with fail
  refine(Bpa B b _ _ w1 hb1.out (by decide) (by rw[List.length_append];omega)).mono ?_;rintro e w2 ⟨⟨v2,rfl⟩,hb2,hk2⟩;replace hb2:=Qd hb2;go_wp2_with fail
  go_end0
  exact Na (KeptB.refl _ _ _) (hk1.trans hk2) hb2.out (by rw[List.append_assoc];rfl)
end
section
open Go.RowKit Tr
def Qg (t:List Int):List UInt8:=t.flatMap λc=>if c=39 then 39::Tk.enc1 c else Tk.enc1 c
theorem Fha {t:List Int}{j:Nat}(h:j<t.length):Qg (t.take (j+1))=Qg (t.take j)++((if t[j]=39 then[39] else[])++Tk.enc [t[j]]):=by
 unfold Qg Tk.enc;rw[List.take_succ_eq_append_getElem h,List.flatMap_append]
 congr 1
 simp only[List.flatMap_cons,List.flatMap_nil,List.append_nil];by_cases hc:t[j]=39
 ·rw[if_pos hc,if_pos hc];rfl
 rw[if_neg hc,if_neg hc];rfl
theorem Bna (t:List Int):(Qg t).length<=5*t.length:=Zz t
theorem K5 (t:List Int)(A:Option Addr)(c:Nat)(w:World)(Bt B b:Nat)(l:List UInt8)(hl:Lies w Bt A (Sa t))(hm:∀x∈t,Gl.may x=true)(hB:Bt<=B)(hL:IsBld B b l w)(hT:t.length<=1000000)
 (hM:l.length+(Tr.quoted t).length<=140737488355000):
 Calls Tryz.prog 38 #[.pointer (some ⟨b,0,none⟩),.slice A t.length c] w (Ld B b w (l++Tr.quoted t)):=by
 have HQ:Hid (Tr.quoted t=[39]++(Qg t++[39])):=Qd rfl;have hM2:l.length<=140737488355000-2-(Qg t).length:=by rw[HQ.out] at hM;simp at hM;omega
 have HA:=Qd hl;have HM:=Qd (λi (hi:i<t.length)=>hm t[i] (List.getElem_mem hi));have HL:=Qd hL;have FN:=Qd (λj (h:j<t.length)=>Fha h);have hFL:∀j,(Qg (t.take j)).length<=5*t.length:=λj=>Nat.le_trans (Bna _) (by rw[List.length_take];omega);have HFL:=Qd hFL;have hlb:l.length<=140737488355000:=by omega
 have HLB:Hid (l.length+(Qg t).length+2<=140737488355000):=Qd (by rw[HQ.out] at hM;simp at hM;omega);have HLT:=Qd hL.lt;have HJ:Hid (∀j,j<=t.length->(Qg (t.take j)).length<=(Qg t).length):=Qd (λj _=>by
  have:Qg t=Qg (t.take j)++Qg (t.drop j):=by unfold Qg;rw[<-List.flatMap_append,List.take_append_drop]
  rw[this,List.length_append];omega)
 clear hl hm hL hM hM2 hFL;go_enter Tryz.func38,Tryz.ntmps38
 go_wp2_with fail
 refine(Db B b l [39] w HL.out (by have:=HLB.out;simp;omega)).mono ?_;rintro e w1 ⟨⟨v1,rfl⟩,hb1,hk1⟩;replace hb1:=Qd hb1;replace hk1:=Qd hk1;go_wp2_with fail
 go_loopw [12] (λiv wr=>∃j:Nat,j<=t.length/\iv= .int .i64 (j:Int)/\Hid (IsBld B b (l++[39]++Qg (t.take j)) wr)/\Hid (KeptB B b w wr)) (λiv _=>t.length-(intOf iv).toNat)
 case atStart=>exact⟨0,Nat.zero_le _,rfl,Qd (by rw[List.take_zero];simpa [Qg] using hb1.out),hk1⟩
 case round=>
  clear hb1 hk1;obtain⟨j,hj,rfl,HBD,HK⟩:=hrel;by_cases hlt:j<t.length
  ·obtain⟨b',off,rfl,hb,g0⟩:=Hb (HA.out.keep (λp hp=>HK.out.below.cell (by omega))) hlt
   have hmx:=HM.out j hlt;have HNX:=Qd (FN.out j hlt);have hJ1:=HJ.out (j+1) (by omega);rw[HNX.out,List.length_append,List.length_append] at hJ1;obtain⟨x,hx⟩:∃x,x=t[j]:=⟨_,rfl⟩;rw[<-hx] at g0 hmx HNX hJ1;have EN:=Qd (λ(wx:World)=>Hn (some ⟨wx.heap.size,0,none⟩) 1 [x] (wx.alloc (.cells (Sa [x]).toArray 3)) Cf (by simp) (by simpa using hmx));have hLB:=HLB.out;have HLT2:=HBD.out.lt;generalize Qg (t.take j)=J at*;generalize Tk.enc [x]=E at*;generalize(Qg t).length=FT at*;clear hx hmx;by_cases hc:x=39
   ·subst hc
    rw[if_pos rfl] at HNX hJ1;go_wp2_with fail
    refine(Db B b _ [39] wr HBD.out (by simp at hJ1⊢;omega)).mono ?_;rintro e w2 ⟨⟨v2,rfl⟩,hb2,hk2⟩;replace hb2:=Qd hb2;replace hk2:=Qd hk2;go_wp2_with fail
    refine(EN.out _).mono ?_;rintro e w3 ⟨rfl,hb3⟩;have hb3':Below w2.heap.size w2 w3:=(Br.alloc Lr _).trans (hb3.mono (by simp));have hk3:=Qd (KeptB.of (b:=b) hb3' (by have:=hb2.out.szB;omega));have hd3:=Qd (hb2.out.later hb3');clear hb3 hb3';go_wp2_with fail
    refine(Db B b _ E w3 hd3.out (by simp at hJ1⊢;omega)).mono ?_;rintro e w4 ⟨⟨v4,rfl⟩,hb4,hk4⟩;replace hb4:=Qd hb4;replace hk4:=Qd hk4;go_wp2_with fail
    go_roundw
    case rel=>exact⟨j+1,by omega,by go_num,Qd (by rw[HNX.out];have:=hb4.out;simpa using this),Qd (((HK.out.trans hk2.out).trans hk3.out).trans hk4.out)⟩
    case measure=>simp[intOf];omega
   have qc:(x==39)=false:=by simpa using hc
   rw[if_neg hc] at HNX hJ1;clear hc;go_wp2_with fail
   refine(EN.out _).mono ?_;rintro e w3 ⟨rfl,hb3⟩;have hb3':Below wr.heap.size wr w3:=(Br.alloc Lr _).trans (hb3.mono (by simp));have hk3:=Qd (KeptB.of (B:=B) (b:=b) hb3' (by omega));have hd3:=Qd (HBD.out.later hb3');clear hb3 hb3';go_wp2_with fail
   refine(Db B b _ E w3 hd3.out (by simp at hJ1⊢;omega)).mono ?_;rintro e w4 ⟨⟨v4,rfl⟩,hb4,hk4⟩;replace hb4:=Qd hb4;replace hk4:=Qd hk4;go_wp2_with fail
   go_roundw
   case rel=>exact⟨j+1,by omega,by go_num,Qd (by rw[HNX.out];have:=hb4.out;simpa using this),Qd ((HK.out.trans hk3.out).trans hk4.out)⟩
   case measure=>simp[intOf];omega
  have e:t.take j=t:=List.take_of_length_le (by omega);rw[e] at HBD;clear e;go_wp2_with fail
  refine(Db B b _ [39] wr HBD.out (by have:=HLB.out;simp;omega)).mono ?_;rintro e w4 ⟨⟨v4,rfl⟩,hb4,hk4⟩;replace hb4:=Qd hb4;replace hk4:=Qd hk4;go_wp2_with fail
  go_end0
  exact Na (KeptB.refl _ _ _) (HK.out.trans hk4.out) hb4.out (by rw[HQ.out];simp)
theorem Gha {k o:Int}{m:List UInt8}{n:Rt.Nm}{t:List Int}{l:List Tree}(hk:k=22\/k=23)(h0:0<l.length):(kd (.mk k o m n t l)).first=(kd l[0]).first:=by
 rw[kd,Mt];show(if k=22\/k=23 then(nth (Ve l) 0).first else _)=_;rw[if_pos hk,Nc h0]
theorem Zca {k o:Int}{m:List UInt8}{n:Rt.Nm}{t:List Int}{l:List Tree}(hk:¬(k=22\/k=23)):(kd (.mk k o m n t l)).first=((k==24)||((k==17)&&Uf.contains o)):=by
 rw[kd,Mt];show(if k=22\/k=23 then(nth (Ve l) 0).first else _)=_;rw[if_neg hk]
theorem Eg:∀{l:List Int} {fs:List (Int->Bool)},Oa l fs=true->l.length=fs.length
 | [],[],_=>rfl
 | [],_::_,h=>by cases h
 |_::_,[],h=>by cases h
 |a::l,f::fs,h=>by
  rw[Oa] at h;simp only[Bool.and_eq_true] at h;rw[List.length_cons,List.length_cons,Eg h.2]
theorem R7 {k o:Int}{m:List UInt8}{n:Rt.Nm}{t:List Int}{l:List Tree}(h:all (.mk k o m n t l)=true):(k=22->l.length=1)/\(k=23->l.length=2):=by
 have h2:=(Sb h).2.1
 constructor
 ·rintro rfl
  have:=Eg (show Oa (l.map kind) [func]=true from h2)
  simpa using this
 rintro rfl;have:=Eg (show Oa (l.map kind) [func,λx=>(plain x&& !(o==0x2364))||(array x&&((o==0x2364)||(o==0x2363)))]=true from h2)
 simpa using this
def M5 (w:World)(Bt:Nat)(r:Bool)(gk:Nat)(wr:World):Prop:=
 ∃(a:Tree) (vs:List Value),(kd a).first=r/\SizeOf.sizeOf a<=gk/\all a=true/\IsTree w Bt a vs/\wr.heap[w.heap.size]? =some (.cells vs.toArray 28 (0,0))/\Below w.heap.size w wr
theorem Hha (a:Tree)(vs:List Value)(w:World)(Bt:Nat)(h:IsTree w Bt a vs)(hB:Bt<=w.heap.size)(ha:all a=true):
 Calls Tryz.prog 131 #[.agg vs.toArray] w (La w (kd a).first):=by
 obtain⟨W,hW⟩:∃W,W=w.alloc (.cells vs.toArray 28):=⟨_,rfl⟩;have HREL:Hid (M5 w Bt (kd a).first (SizeOf.sizeOf a) W):=Qd ⟨a,vs,rfl,Lr,ha,h,by rw[hW];exact heap_alloc_new w _,by rw[hW];exact Br.alloc Lr _⟩;have HW:=Qd hW;generalize(kd a).first=r at*;generalize SizeOf.sizeOf a=n0 at*;clear h ha hW;go_enter Tryz.func131,Tryz.ntmps131
 go_upto_region 1 with fail
 rw[<-HW.out];go_loopg [4] n0 (λgk kv wr=>Hid (M5 w Bt r gk wr))
 case atStart=>exact HREL
 case round=>
  clear HREL;obtain⟨a,vs,hr,hn,ha,ht,hg,hb⟩:=hrel.out;have HON:Hid (∀a vs,IsTree w Bt a vs->vs.toArray.all (·.oneCell')=true):=Qd (λa vs h=>Zk h);have HIV:=Qd (Cb ht);obtain⟨k,o,m,nm,t,l⟩:=a;obtain⟨A1,A2,A3,A4,c1,c2,c3,c4,us,rfl,HO,HL,HC⟩:=ht.open_;have h8:=Eha hg;have q0:=h8.p0;have q1:=h8.p1;have q7:=h8.p7;simp only[Nat.zero_add] at q0 q1 q7;have HB:=Qd hb;have HG:=Qd hg;clear h8 hrel;by_cases hk:k=22\/k=23
  ·have h0:0<l.length:=by
    have:=R7 ha;rcases hk with h |h
    ·have:=this.1 h;omega
    have:=this.2 h;omega
   have HF:=Qd ((Gha hk h0).symm.trans hr);obtain⟨b',off,tv,rfl,hbb,HTR,HR⟩:=Dd HC.out HL.out (λp hp=>hb.cell (by omega)) h0;have HTI:=Qd (Fc HTR.out);have HTA:=Qd (Cb HTR.out);have HO1:=Qd (HON.out _ _ HTR.out);have hsz:=Vg (k:=k) (o:=o) (m:=m) (n:=nm) (t:=t) h0;have HA0:=Qd (Ah (Sb ha).2.2 h0);have HNEW:Hid (M5 w Bt r (gk-1) (wr.setRow w.heap.size tv.toArray)):=Qd ⟨l[0],tv,HF.out,by omega,HA0.out,HTR.out,setRow_heap _ _ _ _ _ _ HG.out,below_setRow hb Lr _⟩;have hgk:0<gk:=by omega
   have HSE:Hid ((Qa k o m nm t l.length A1 A2 A3 (some ⟨b',off,none⟩) c1 c2 c3 c4).toArray.size=tv.toArray.size):=Qd (by rw[<-Option.some.injEq,<-HIV.out,<-HTA.out]);clear hb hg hr ha ht hsz hn;rcases hk with rfl |rfl
   all_goals
    go_wp2_with (first
     |(with_reducible refine Gc rfl (.tmp 13) rfl b' off rfl tv (by have:=HR.out;simpa using this) HTI.out ?_)
     |(with_reducible refine wpList_store_row rfl 28 (.tmp 1) (.tmp 14) rfl w.heap.size tv.toArray rfl rfl 28 _ HG.out HTA.out HSE.out HO1.out ?_))
    go_roundg (gk-1)
    case rel=>exact HNEW
    case measure=>omega
  have HF:=Qd ((Zca hk).symm.trans hr);have n22:(k==22)=false:=by simp;omega
  have n23:(k==23)=false:=by simp;omega
  clear hb hg hr ha ht hn hk;by_cases k17:k=17
  ·subst k17
   by_cases o1:o=47
   ·subst o1
    go_wp2_with fail
    go_ret;exact⟨Aa (by rw[<-HF.out];decide),HB.out⟩
   by_cases o2:o=9023
   ·subst o2
    go_wp2_with fail
    go_ret;exact⟨Aa (by rw[<-HF.out];decide),HB.out⟩
   by_cases o3:o=92
   ·subst o3
    go_wp2_with fail
    go_ret;exact⟨Aa (by rw[<-HF.out];decide),HB.out⟩
   by_cases o4:o=9024
   ·subst o4
    go_wp2_with fail
    go_ret;exact⟨Aa (by rw[<-HF.out];decide),HB.out⟩
   have HFF:Hid (r=false):=Qd (by rw[<-HF.out];unfold Uf;simp;omega);have m1:(o==47)=false:=by simpa using o1
   have m2:(o==9023)=false:=by simpa using o2
   have m3:(o==92)=false:=by simpa using o3
   have m4:(o==9024)=false:=by simpa using o4
   clear o1 o2 o3 o4;go_wp2_with fail
   go_ret;exact⟨Aa (by rw[HFF.out]),HB.out⟩
  have n17:(k==17)=false:=by simpa using k17
  have HFF:Hid (r=(k==24)):=Qd (by rw[<-HF.out,n17];simp);clear k17;go_wp2_with fail
  go_ret;exact⟨Aa (by rw[HFF.out]),HB.out⟩
end
section
open Go.RowKit Tr
def Rg (a:Tree):List UInt8:=[32]++behind (kd a)
section
variable {o : Int} {m : List UInt8} {n : Rt.Nm} {t : List Int} {l : List Tree}
theorem Uqa:Ia (.mk 8 o m n t l)=join ([32]:List UInt8) (l.map λa=>Mc (kd a)):=by
 show Cc 8 o m n t (Ve l)=_;unfold Cc;rw[if_pos (by decide),Pg,List.map_map];rfl
theorem Vqa (h:2<=l.length):Ia (.mk 9 o m n t l)=Mc (kd (l[0]'(by omega)))++places ((l.drop 1).map kd):=by
 show Cc 9 o m n t (Ve l)=_;unfold Cc;rw[if_neg (by decide),if_pos (by decide),Nc (show 0<l.length by omega),Pg,List.map_drop]
theorem Rpa (h:l.length=2):Ia (.mk 11 o m n t l)=Ia (l[0]'(by omega))++Rg (l[1]'(by omega)):=by
 show Cc 11 o m n t (Ve l)=_;unfold Cc;rw[if_neg (by decide),if_neg (by decide),if_pos (by decide),Nc (show 0<l.length by omega),Nc (show 1<l.length by omega)];unfold Rg Ia;simp only[List.append_assoc]
theorem Ada (h:l.length=3):Ia (.mk 12 o m n t l)=(if kind (l[0]'(by omega))=8 then Ia (l[0]'(by omega)) else Mc (kd (l[0]'(by omega))))++(([32]:List UInt8)++(Ia (l[1]'(by omega))++Rg (l[2]'(by omega)))):=by
 show Cc 12 o m n t (Ve l)=_;unfold Cc;iterate 3 rw[if_neg (by decide)]
 rw[if_pos (by decide),Nc (show 0<l.length by omega),Nc (show 1<l.length by omega),Nc (show 2<l.length by omega),Ik];unfold Rg Ia;simp only[List.append_assoc]
theorem Spa (h:l.length=1):Ia (.mk 13 o m n t l)=m++(([226,134,144]:List UInt8)++Ia (l[0]'(by omega))):=by
 show Cc 13 o m n t (Ve l)=_;unfold Cc;iterate 4 rw[if_neg (by decide)]
 rw[if_pos (by decide),Nc (show 0<l.length by omega)];unfold Lh Ia;simp only[List.append_assoc]
theorem Tpa (h:l.length=1):Ia (.mk 27 o m n t l)=m++(([226,134,144]:List UInt8)++Ia (l[0]'(by omega))):=by
 show Cc 27 o m n t (Ve l)=_;unfold Cc;iterate 4 rw[if_neg (by decide)]
 rw[if_pos (by decide),Nc (show 0<l.length by omega)];unfold Lh Ia;simp only[List.append_assoc]
theorem Upa (h:2<=l.length):Ia (.mk 14 o m n t l)=m++(places ((l.drop 1).map kd)++(([226,134,144]:List UInt8)++Ia (l[0]'(by omega)))):=by
 show Cc 14 o m n t (Ve l)=_;unfold Cc;iterate 5 rw[if_neg (by decide)]
 rw[if_pos (by decide),Nc (show 0<l.length by omega),Pg,List.map_drop];unfold Lh Ia;simp only[List.append_assoc]
theorem Vpa (h:l.length=2):Ia (.mk 15 o m n t l)=m++(([32]:List UInt8)++(Ia (l[0]'(by omega))++(([226,134,144]:List UInt8)++Ia (l[1]'(by omega))))):=by
 show Cc 15 o m n t (Ve l)=_;unfold Cc;iterate 6 rw[if_neg (by decide)]
 rw[if_pos (by decide),Nc (show 0<l.length by omega),Nc (show 1<l.length by omega)];unfold Lh Ia;simp only[List.append_assoc]
theorem Wpa (h:l.length=1):Ia (.mk 16 o m n t l)=(([226,142,149]:List UInt8)++Yf o)++(([226,134,144]:List UInt8)++Ia (l[0]'(by omega))):=by
 show Cc 16 o m n t (Ve l)=_;unfold Cc;iterate 7 rw[if_neg (by decide)]
 rw[if_pos (by decide),Nc (show 0<l.length by omega)];unfold Lh Wm Ia;simp only[List.append_assoc]
theorem Xpa:Ia (.mk 20 o m n t l)=([123]:List UInt8)++(join ([226,139,132]:List UInt8) (l.map Ia)++([125]:List UInt8)):=by
 show Cc 20 o m n t (Ve l)=_;unfold Cc;iterate 8 rw[if_neg (by decide)]
 rw[if_pos (by decide),Pg,List.map_map];rfl
theorem Ypa (h:l.length=1):Ia (.mk 22 o m n t l)=Ia (l[0]'(by omega))++Tk.enc1 o:=by
 show Cc 22 o m n t (Ve l)=_;unfold Cc;iterate 9 rw[if_neg (by decide)]
 rw[if_pos (by decide),Nc (show 0<l.length by omega)];rfl
theorem Zpa (h:l.length=2):Ia (.mk 23 o m n t l)=Ia (l[0]'(by omega))++(Tk.enc1 o++(if array (kind (l[1]'(by omega))) then Mc (kd (l[1]'(by omega))) else Ia (l[1]'(by omega)))):=by
 show Cc 23 o m n t (Ve l)=_;unfold Cc;iterate 10 rw[if_neg (by decide)]
 rw[if_pos (by decide),Nc (show 0<l.length by omega),Nc (show 1<l.length by omega),Ik];unfold Ia;simp only[List.append_assoc]
theorem Aqa (h:l.length=1):Ia (.mk 24 o m n t l)=([226,136,152,46]:List UInt8)++Ia (l[0]'(by omega)):=by
 show Cc 24 o m n t (Ve l)=_;unfold Cc;iterate 11 rw[if_neg (by decide)]
 rw[if_pos (by decide),Nc (show 0<l.length by omega)];rfl
theorem Bqa:Ia (.mk 25 o m n t l)=join ([58]:List UInt8) (l.map Ia):=by
 show Cc 25 o m n t (Ve l)=_;unfold Cc;iterate 12 rw[if_neg (by decide)]
 rw[if_pos (by decide),Pg,List.map_map];rfl
theorem Cqa:Ia (.mk 26 o m n t l)=join ([58,58]:List UInt8) (l.map Ia):=by
 show Cc 26 o m n t (Ve l)=_;unfold Cc;iterate 13 rw[if_neg (by decide)]
 rw[if_pos (by decide),Pg,List.map_map];rfl
theorem Dqa:Ia (.mk 28 o m n t l)=join ([226,139,132]:List UInt8) (l.map Ia):=by
 show Cc 28 o m n t (Ve l)=_;unfold Cc;iterate 14 rw[if_neg (by decide)]
 rw[if_pos (by decide),Pg,List.map_map];rfl
end
theorem Un {k o:Int}{l:List Tree}(h:Pb k o (l.map kind)=true):(k=9\/k=14->2<=l.length)/\(k=11\/k=15\/k=25\/k=26\/k=23->l.length=2)/\(k=12->l.length=3)/\(k=13\/k=16\/k=27\/k=22\/k=24->l.length=1):=by
 have hm:(l.map kind).length=l.length:=by simp
 refine⟨?_,?_,?_,?_⟩
 ·rintro(rfl |rfl)
  all_goals
   unfold Pb at h;simp(config:={decide:=true}) only[if_true,if_false,Bool.and_eq_true,decide_eq_true_eq] at h;omega
 ·rintro(rfl |rfl |rfl |rfl |rfl)
  all_goals
   unfold Pb at h;simp(config:={decide:=true}) only[if_true,if_false] at h;have:=Eg h;simp only[List.length_cons,List.length_nil] at this;omega
 ·rintro rfl
  unfold Pb at h;simp(config:={decide:=true}) only[if_true,if_false] at h;have:=Eg h;simp only[List.length_cons,List.length_nil] at this;omega
 rintro(rfl |rfl |rfl |rfl |rfl);all_goals
  unfold Pb at h;simp(config:={decide:=true}) only[if_true,if_false] at h;have:=Eg h;simp only[List.length_cons,List.length_nil] at this;omega
theorem Cna {k o:Int}{m:List UInt8}{n:Rt.Nm}{t:List Int}{l:List Tree}:(kd (.mk k o m n t l)).wrap=((k==11)&&(nth (Ve l) 0).first):=by rw[kd,Mt]
theorem Sx {P:Program}{ops:Array Oper}{rest:List Oper}{o:Oper}{a:Act}{w:World}{Q:Exit->Act->World->Prop}(hw:Region.wanted o (yielded ops a.tmps)=true)(ty:TypeId)(x:Operand)(ho:o.op= .load ty x)
 (b off:Nat) (hx:a.eval x= .pointer (some ⟨b,off,none⟩)) (cs:List Value) (d:TypeDesc) (hc:w.rangeAt b off cs)
 (hu:P.underlying ty=some d) (hd:d.isRow=true) (hi:(P.info? ty).map (·.size)=some cs.length)
 (h:wpList P ops Q rest (a.put o.dst (.agg cs.toArray)) w):wpList P ops Q (o::rest) a w:=
 BigFrame.wpList_want hw λ_ hK=>wp_load_mid ty x ho b off hx cs d hc hu hd hi (hK _ _ h)
theorem Iha (n:Nat)(hT:WrOk 21 Ia n)(hT1:WrOk 21 Ia (n+1))(k o:Int)(m:List UInt8)(nm:Rt.Nm)(tx:List Int)(T:List Tree)(vs:List Value)(w:World)(Bt B b:Nat)(l:List UInt8)(hsz:SizeOf.sizeOf (Tree.mk k o m nm tx T)<n+1)(hn:∀a∈T,SizeOf.sizeOf a<n)(ha:all (.mk k o m nm tx T)=true)
 (h:IsTree w Bt (.mk k o m nm tx T) vs) (hB:Bt<=B) (hP:PowB B w) (hL:IsBld B b l w) (hM:l.length+(Rg (.mk k o m nm tx T)).length<=140737488355000):
 Calls Tryz.prog 73 #[.pointer (some ⟨b,0,none⟩),.agg vs.toArray] w (Ld B b w (l++Rg (.mk k o m nm tx T))):=by
 obtain⟨W,hW⟩:∃W,W=w.alloc (.cells vs.toArray 28):=⟨_,rfl⟩;have hIA:=Cb h;obtain⟨A1,A2,A3,A4,c1,c2,c3,c4,us,HX,HB0,hTl⟩:=Rn h hB hL hW;have HPW:=Qd (hP.kept HX.out.kept.below);have HAL:=Qd (Sb ha);have HTT:=Qd (λ(i:Nat) (hi:i<T.length)=>And.intro (hn _ (List.getElem_mem hi)) (Ah HAL.out.2.2 hi));have CT:=Qd (λ(i:Nat) (hi:i<T.length) wx tv l' (hx:KeptB B b W wx) ht h3 h4=>hT (T[i]'hi) tv wx Bt B b l' (HTT.out i hi).1 (HTT.out i hi).2 ht hB (HPW.out.kept hx.below) h3 h4);have BR:=Qd (λwx l' (hx:KeptB B b W wx) ht h3 h4=>Zp (n+1) hT1 (.mk k o m nm tx T) vs wx Bt B b l' hsz ha ht hB (HPW.out.kept hx.below) h3 h4);have TX:=Qd (λwx l' (hx:KeptB B b W wx) ht h3 h4=>hT1 (.mk k o m nm tx T) vs wx Bt B b l' hsz ha ht hB (HPW.out.kept hx.below) h3 h4);dsimp only at BR;have CI:=Qd (λ(i:Nat) (hi:i<T.length) wx tv l' (hx:KeptB B b W wx) ht h3 h4=>Gh n hT (T[i]'hi) tv wx Bt B b l' (HTT.out i hi).1 (HTT.out i hi).2 ht hB (HPW.out.kept hx.below) h3 h4);dsimp only at CI;have HK0:=Qd (KeptB.refl B b W);have HW:=Qd hW;have HIA:=Qd hIA;have HD:Hid (Rg (.mk k o m nm tx T)=[32]++if(k==11)&&(nth (Ve T) 0).first then Me (Ia (.mk k o m nm tx T)) else Ia (.mk k o m nm tx T)):=Qd (by unfold Rg behind;rw[Cna];rfl);generalize Rg (.mk k o m nm tx T)=R at*;have hin:∀s,(Me s).length=s.length+2:=Nw;by_cases k11:k=11
 ·subst k11
  have hlen:=(Un HAL.out.2.1).2.1 (.inl rfl);have h0:0<T.length:=by omega
  have HFI:Hid ((nth (Ve T) 0).first=(kd T[0]).first):=Qd (by rw[Nc h0]);rw[HFI.out] at HD;have HBI:=Qd (λwx tv (hx:KeptB B b W wx) (ht:IsTree wx Bt T[0] tv)=>Hha T[0] tv wx Bt ht (by have:=hx.size;have:=HX.out.kept.size;have:=hL.szB;omega) (HTT.out 0 h0).2);have hq0:(0:Int)<(T.length:Int):=by omega
  obtain⟨b4,o4,rfl⟩:∃b4 o4,A4=some ⟨b4,o4,none⟩:=by
   obtain⟨b',off,_,e,_⟩:=HX.out.sub W HK0.out 0 (by omega);exact⟨b',off,e⟩
  have HS:=Qd (HX.out.at_ rfl);generalize Ia (.mk 11 o m nm tx T)=Z at*;clear CT CI HAL;cases hf:(kd T[0]).first
  ·rw[hf] at HD HBI
   replace HD:Hid (R=[32]++Z):=HD;rw[HD.out,List.length_append,List.length_cons,List.length_nil] at hM;clear h hW hP hT hIA hL ha hn hB hf HTT HFI hlen HPW hT1 hsz hin;go_enter Tryz.func73,Tryz.ntmps73
   go_upto_region 1 with fail
   rw[<-HW.out];go_wp2_with fail
   refine(Db B b _ [32] W HB0.out (by(try simp only[List.length_append,List.length_cons,List.length_nil]);omega)).mono ?_;rintro e w1 ⟨⟨v1,rfl⟩,hb1,hk1⟩;replace hb1:=Qd hb1;replace hk1:=Qd (HK0.out.trans hk1);have h8:=HX.out.at8 _ hk1.out;have q0:=h8.p0;have q7:=h8.p7;simp only[Nat.zero_add] at q7;clear h8;obtain⟨tv,ht,hr,hi⟩:=HS.out w1 hk1.out 0 (by omega);replace ht:=Qd ht;replace hr:=Qd hr;replace hi:=Qd hi;go_wp2_with (refine Sx rfl 28 (.tmp 12) rfl b4 o4 rfl tv _ (by have:=hr.out;simpa using this) Tryz.underlying28 rfl hi.out ?_)
   refine(HBI.out w1 tv hk1.out ht.out).mono ?_;rintro e w2 ⟨rfl,hb2'⟩;have hk2:=Qd (hk1.out.trans (KeptB.of (b:=b) hb2' (by have:=hb1.out.szB;omega)));have hb2:=Qd (hb1.out.later hb2');clear hb2' ht hr hi;clear q0 q7;go_wp2_with (with_reducible refine Wh (.tmp 3) rfl rfl w.heap.size rfl (HX.out.row _ hk2.out) HIA.out ?_)
   refine(TX.out w2 _ hk2.out (HX.out.tree _ hk2.out) hb2.out (by(try simp only[List.length_append,List.length_cons,List.length_nil]);omega)).mono ?_;rintro e w3 ⟨⟨v3,rfl⟩,hb3,hk3⟩;replace hb3:=Qd hb3;replace hk3:=Qd (hk2.out.trans hk3);go_wp2_with fail
   go_end0
   exact Na HX.out.kept hk3.out hb3.out (by rw[HD.out]<;>(try simp))
  rw[hf] at HD HBI;replace HD:Hid (R=[32]++Me Z):=HD;rw[HD.out,List.length_append,List.length_cons,List.length_nil,hin] at hM;have hin2:=hin Z;generalize Me Z=IZ at*;clear h hW hP hT hIA hL ha hn hB hf HTT HFI hlen HPW hT1 hsz hin;go_enter Tryz.func73,Tryz.ntmps73
  go_upto_region 1 with fail
  rw[<-HW.out];go_wp2_with fail
  refine(Db B b _ [32] W HB0.out (by(try simp only[List.length_append,List.length_cons,List.length_nil]);omega)).mono ?_;rintro e w1 ⟨⟨v1,rfl⟩,hb1,hk1⟩;replace hb1:=Qd hb1;replace hk1:=Qd (HK0.out.trans hk1);have h8:=HX.out.at8 _ hk1.out;have q0:=h8.p0;have q7:=h8.p7;simp only[Nat.zero_add] at q7;clear h8;obtain⟨tv,ht,hr,hi⟩:=HS.out w1 hk1.out 0 (by omega);replace ht:=Qd ht;replace hr:=Qd hr;replace hi:=Qd hi;go_wp2_with (refine Sx rfl 28 (.tmp 12) rfl b4 o4 rfl tv _ (by have:=hr.out;simpa using this) Tryz.underlying28 rfl hi.out ?_)
  refine(HBI.out w1 tv hk1.out ht.out).mono ?_;rintro e w2 ⟨rfl,hb2'⟩;have hk2:=Qd (hk1.out.trans (KeptB.of (b:=b) hb2' (by have:=hb1.out.szB;omega)));have hb2:=Qd (hb1.out.later hb2');clear hb2' ht hr hi;clear q0 q7;go_wp2_with (with_reducible refine Wh (.tmp 3) rfl rfl w.heap.size rfl (HX.out.row _ hk2.out) HIA.out ?_)
  refine(BR.out w2 _ hk2.out (HX.out.tree _ hk2.out) hb2.out (by(try simp only[List.length_append,List.length_cons,List.length_nil]);omega)).mono ?_;rintro e w3 ⟨⟨v3,rfl⟩,hb3,hk3⟩;replace hb3:=Qd hb3;replace hk3:=Qd (hk2.out.trans hk3);go_wp2_with fail
  go_end0
  exact Na HX.out.kept hk3.out hb3.out (by rw[HD.out]<;>(try simp))
 have e11:(k==11)=false:=by simpa using k11
 rw[e11] at HD;replace HD:Hid (R=[32]++Ia (.mk k o m nm tx T)):=HD;generalize Ia (.mk k o m nm tx T)=Z at*;rw[HD.out,List.length_append,List.length_cons,List.length_nil] at hM;clear CT CI HAL h hW hP hT hIA hL ha hn hB HTT HPW hT1 hsz hin k11;go_enter Tryz.func73,Tryz.ntmps73
 go_upto_region 1 with fail
 rw[<-HW.out];go_wp2_with fail
 refine(Db B b _ [32] W HB0.out (by(try simp only[List.length_append,List.length_cons,List.length_nil]);omega)).mono ?_;rintro e w1 ⟨⟨v1,rfl⟩,hb1,hk1⟩;replace hb1:=Qd hb1;replace hk1:=Qd (HK0.out.trans hk1);have h8:=HX.out.at8 _ hk1.out;have q0:=h8.p0
 skip
 clear h8;go_wp2_with (with_reducible refine Wh (.tmp 3) rfl rfl w.heap.size rfl (HX.out.row _ hk1.out) HIA.out ?_)
 refine(TX.out w1 _ hk1.out (HX.out.tree _ hk1.out) hb1.out (by(try simp only[List.length_append,List.length_cons,List.length_nil]);omega)).mono ?_;rintro e w2 ⟨⟨v2,rfl⟩,hb2,hk2⟩;replace hb2:=Qd hb2;replace hk2:=Qd (hk1.out.trans hk2);go_wp2_with fail
 go_end0
 exact Na HX.out.kept hk2.out hb2.out (by rw[HD.out]<;>(try simp))
theorem Bda (n:Nat)(hT:WrOk 21 Ia n):WrOk 73 Rg n:=by
 intro a vs w Bt B b l hn ha h hB hP hL hM;obtain⟨n',rfl⟩:∃n',n=n'+1:=⟨n-1,by omega⟩;obtain⟨k,o,m,nm,tx,T⟩:=a;exact Iha n' (λa vs w Bt B b l hn=>hT a vs w Bt B b l (by omega)) hT k o m nm tx T vs w Bt B b l hn (λa h=>by
  have:=List.sizeOf_lt_of_mem h;simp only[Tree.mk.sizeOf_spec] at hn;omega) ha h hB hP hL hM
theorem WrOk.le {F:FuncId}{f:Tree->List UInt8}{n n':Nat}(h:WrOk F f n)(hn:n'<=n):WrOk F f n':=λa vs w Bt B b l h1=>h a vs w Bt B b l (by omega)
theorem S7 (n:Nat)(hT:WrOk 21 Ia n)(k o:Int)(m:List UInt8)(nm:Rt.Nm)(tx:List Int)(T:List Tree)(vs:List Value)(w:World)(Bt B b:Nat)(l:List UInt8)(hk:k=8\/k=9\/k=11\/k=12)(hn:∀a∈T,SizeOf.sizeOf a<n)(ha:all (.mk k o m nm tx T)=true)
 (h:IsTree w Bt (.mk k o m nm tx T) vs) (hB:Bt<=B) (hP:PowB B w) (hL:IsBld B b l w) (hM:l.length+(Ia (.mk k o m nm tx T)).length<=140737488355000):
 Calls Tryz.prog 41 #[.pointer (some ⟨b,0,none⟩),.agg vs.toArray] w (Ld B b w (l++Ia (.mk k o m nm tx T))):=by
 obtain⟨W,hW⟩:∃W,W=w.alloc (.cells vs.toArray 28):=⟨_,rfl⟩;have hIA:=Cb h;obtain⟨A1,A2,A3,A4,c1,c2,c3,c4,us,HX,HB0,hTl⟩:=Rn h hB hL hW;have HPW:=Qd (hP.kept HX.out.kept.below);have HAL:=Qd (Sb ha);have HTT:=Qd (λ(i:Nat) (hi:i<T.length)=>And.intro (hn _ (List.getElem_mem hi)) (Ah HAL.out.2.2 hi));have CT:=Qd (λ(i:Nat) (hi:i<T.length) wx tv l' (hx:KeptB B b W wx) ht h3 h4=>hT (T[i]'hi) tv wx Bt B b l' (HTT.out i hi).1 (HTT.out i hi).2 ht hB (HPW.out.kept hx.below) h3 h4);have CI:=Qd (λ(i:Nat) (hi:i<T.length) wx tv l' (hx:KeptB B b W wx) ht h3 h4=>Gh n hT (T[i]'hi) tv wx Bt B b l' (HTT.out i hi).1 (HTT.out i hi).2 ht hB (HPW.out.kept hx.below) h3 h4);dsimp only at CI;have CL:=Qd (λ(i:Nat) (hi:i<T.length) wx tv l' (hx:KeptB B b W wx) ht h3 h4=>Bda n hT (T[i]'hi) tv wx Bt B b l' (HTT.out i hi).1 (HTT.out i hi).2 ht hB (HPW.out.kept hx.below) h3 h4);have CP:Hid (∀b4 o4 (wx:World) (l':List UInt8),A4=some ⟨b4,o4,none⟩->0<T.length->KeptB B b W wx->IsBld B b l' wx->l'.length+(places ((T.drop 1).map kd)).length<=140737488355000->
  Calls Tryz.prog 72 #[.pointer (some ⟨b,0,none⟩),.slice (some ⟨b4,o4+8,none⟩) (T.length-1) (c4-1)] wx (Ld B b wx (l'++places ((T.drop 1).map kd)))):=Qd (λb4 o4 wx l' e h0 hx h3 h4=>by
  obtain⟨us2,HL2,HC2⟩:=Kn HX.out.kids (by have:=HX.out.lies;rwa[e] at this) h0;have:=Aq n hT (T.drop 1) us2 (some ⟨b4,o4+8,none⟩) (c4-1) wx Bt B b l' (λa h=>hn a (List.mem_of_mem_drop h)) (λa h=>by
   obtain⟨i,hi,rfl⟩:=List.getElem_of_mem (List.mem_of_mem_drop h);exact(HTT.out i hi).2) (HL2.out.keep (HX.out.far wx hx)) (HC2.out.keep (HX.out.far wx hx) Lr) hB (HPW.out.kept hx.below) h3 (by rw[List.length_drop];omega) h4
  rwa[List.length_drop] at this)
 have CLI:Hid (∀F f,WrOk F f n->(∀args w,(callFunc F args).run Tryz.prog w= .ok (.enter F args) w)->∀sep (wx:World) (l':List UInt8),KeptB B b W wx->IsBld B b l' wx->l'.length+(join sep (T.map f)).length<=140737488355000->
  Calls Tryz.prog 44 #[.pointer (some ⟨b,0,none⟩),.slice A4 T.length c4,.string ⟨sep.toArray⟩,.func (.func F) #[] #[]] wx (Ld B b wx (l'++join sep (T.map f)))):=Qd (λF f hF hE sep wx l' hx h3 h4=>
  Sn F f n hF hE sep T us A4 c4 wx Bt B b l' hn (λa h=>by
   obtain⟨i,hi,rfl⟩:=List.getElem_of_mem h;exact(HTT.out i hi).2) (HX.out.lies.keep (HX.out.far wx hx)) (HX.out.kids.keep (HX.out.far wx hx) Lr) hB (HPW.out.kept hx.below) h3 hTl h4)
 have hcap:T.length<=c4:=HX.out.own.f4.1;have HK0:=Qd (KeptB.refl B b W);have HW:=Qd hW;have HIA:=Qd hIA;have LI:=Qd (CLI.out _ _ (Gh n hT) Yca);have ML:=Un HAL.out.2.1;rcases hk with rfl |rfl |rfl |rfl
 ·have HD:=Qd (Uqa (o:=o) (m:=m) (n:=nm) (t:=tx) (l:=T))
  rw[HD.out] at hM;generalize Ia (.mk 8 o m nm tx T)=R at*;clear CLI CP CL CT CI ML HAL hcap h hW hP hT hIA hL ha hn hB HTT HPW;go_enter Tryz.func41,Tryz.ntmps41
  go_upto_region 1 with fail
  rw[<-HW.out];have h8:=HX.out.at8 _ HK0.out;have q0:=h8.p0;have q7:=h8.p7;simp only[Nat.zero_add] at q7;clear h8;go_wp2_with fail
  refine(LI.out [32] W _ HK0.out HB0.out hM).mono ?_;rintro e w1 ⟨⟨v1,rfl⟩,hb1,hk1⟩;replace hb1:=Qd hb1;replace hk1:=Qd (HK0.out.trans hk1);go_wp2_with fail
  go_end0
  exact Na HX.out.kept hk1.out hb1.out (by rw[HD.out]<;>(try simp))
 ·have hlen:=ML.1 (.inl rfl)
  have HD:=Qd (Vqa (o:=o) (m:=m) (n:=nm) (t:=tx) hlen);rw[HD.out,List.length_append] at hM;have hq0:(0:Int)<(T.length:Int):=by omega
  have hq1:(1:Int)<=(T.length:Int):=by omega
  have hc41:1<c4:=by omega
  obtain⟨b4,o4,rfl⟩:∃b4 o4,A4=some ⟨b4,o4,none⟩:=by
   obtain⟨b',off,_,e,_⟩:=HX.out.sub W HK0.out 0 (by omega);exact⟨b',off,e⟩
  have HS:=Qd (HX.out.at_ rfl);generalize Ia (.mk 9 o m nm tx T)=R at*;replace CP:=Qd (CP.out b4 o4);clear CLI LI CL CT ML HAL h hW hP hT hIA hL ha hn hB HTT HPW;go_enter Tryz.func41,Tryz.ntmps41
  go_upto_region 1 with fail
  rw[<-HW.out];have h8:=HX.out.at8 _ HK0.out;have q0:=h8.p0;have q7:=h8.p7;simp only[Nat.zero_add] at q7;clear h8;obtain⟨tv,ht,hr,hi⟩:=HS.out W HK0.out 0 (by omega);replace ht:=Qd ht;replace hr:=Qd hr;replace hi:=Qd hi;go_wp2_with (with_reducible refine Gc rfl (.tmp 17) rfl b4 (o4) rfl tv (by have:=hr.out;simpa using this) hi.out ?_)
  refine(CI.out 0 (by omega) W tv _ HK0.out ht.out HB0.out (by(try simp only[List.length_append,List.length_cons,List.length_nil]);omega)).mono ?_;clear ht hr hi;rintro e w1 ⟨⟨v1,rfl⟩,hb1,hk1⟩;replace hb1:=Qd hb1;replace hk1:=Qd (HK0.out.trans hk1);clear q0 q7;have h8:=HX.out.at8 _ hk1.out;have q7:=h8.p7;simp only[Nat.zero_add] at q7;clear h8;go_wp2_with fail
  refine(CP.out w1 _ (by first|rfl |trivial) (by omega) hk1.out hb1.out (by(try simp only[List.length_append,List.length_cons,List.length_nil]);omega)).mono ?_;rintro e w2 ⟨⟨v2,rfl⟩,hb2,hk2⟩;replace hb2:=Qd hb2;replace hk2:=Qd (hk1.out.trans hk2);go_wp2_with fail
  go_end0
  exact Na HX.out.kept hk2.out hb2.out (by rw[HD.out]<;>(try simp))
 ·have hlen:=ML.2.1 (.inl rfl)
  have HD:=Qd (Rpa (o:=o) (m:=m) (n:=nm) (t:=tx) hlen);rw[HD.out,List.length_append] at hM;have hq0:(0:Int)<(T.length:Int):=by omega
  have hq1:(1:Int)<(T.length:Int):=by omega
  obtain⟨b4,o4,rfl⟩:∃b4 o4,A4=some ⟨b4,o4,none⟩:=by
   obtain⟨b',off,_,e,_⟩:=HX.out.sub W HK0.out 0 (by omega);exact⟨b',off,e⟩
  have HS:=Qd (HX.out.at_ rfl);generalize Ia (.mk 11 o m nm tx T)=R at*;clear CLI LI CP CI ML HAL hcap h hW hP hT hIA hL ha hn hB HTT HPW;go_enter Tryz.func41,Tryz.ntmps41
  go_upto_region 1 with fail
  rw[<-HW.out];have h8:=HX.out.at8 _ HK0.out;have q0:=h8.p0;have q7:=h8.p7;simp only[Nat.zero_add] at q7;clear h8;obtain⟨tv,ht,hr,hi⟩:=HS.out W HK0.out 0 (by omega);replace ht:=Qd ht;replace hr:=Qd hr;replace hi:=Qd hi;go_wp2_with (with_reducible refine Gc rfl (.tmp 30) rfl b4 (o4) rfl tv (by have:=hr.out;simpa using this) hi.out ?_)
  refine(CT.out 0 (by omega) W tv _ HK0.out ht.out HB0.out (by(try simp only[List.length_append,List.length_cons,List.length_nil]);omega)).mono ?_;clear ht hr hi;rintro e w1 ⟨⟨v1,rfl⟩,hb1,hk1⟩;replace hb1:=Qd hb1;replace hk1:=Qd (HK0.out.trans hk1);clear q0 q7;have h8:=HX.out.at8 _ hk1.out;have q7:=h8.p7;simp only[Nat.zero_add] at q7;clear h8;obtain⟨tv,ht,hr,hi⟩:=HS.out w1 hk1.out 1 (by omega);replace ht:=Qd ht;replace hr:=Qd hr;replace hi:=Qd hi;go_wp2_with (with_reducible refine Gc rfl (.tmp 36) rfl b4 (o4+8) rfl tv (by have:=hr.out;simpa using this) hi.out ?_)
  refine(CL.out 1 (by omega) w1 tv _ hk1.out ht.out hb1.out (by(try simp only[List.length_append,List.length_cons,List.length_nil]);omega)).mono ?_;clear ht hr hi;rintro e w2 ⟨⟨v2,rfl⟩,hb2,hk2⟩;replace hb2:=Qd hb2;replace hk2:=Qd (hk1.out.trans hk2);go_wp2_with fail
  go_end0
  exact Na HX.out.kept hk2.out hb2.out (by rw[HD.out]<;>(try simp))
 have hlen:=ML.2.2.1 rfl;have HD:=Qd (Ada (o:=o) (m:=m) (n:=nm) (t:=tx) hlen);have hq0:(0:Int)<(T.length:Int):=by omega
 have hq1:(1:Int)<(T.length:Int):=by omega
 have hq2:(2:Int)<(T.length:Int):=by omega
 obtain⟨b4,o4,rfl⟩:∃b4 o4,A4=some ⟨b4,o4,none⟩:=by
  obtain⟨b',off,_,e,_⟩:=HX.out.sub W HK0.out 0 (by omega);exact⟨b',off,e⟩
 have HS:=Qd (HX.out.at_ rfl);generalize Ia (.mk 12 o m nm tx T)=R at*;obtain⟨tv0,ht0,hr0,hi0⟩:=HS.out W HK0.out 0 (by omega);obtain⟨e1,e2,e3,e4,e5,e6,e7,e8,rfl⟩:=ht0.form;have kq:W.cell? ⟨b4,o4,none⟩=some (.int .i64 (kind T[0])):=by have:=hr0 0 _ rfl;simpa using this
 clear ht0 hr0 hi0;obtain⟨k0,hk0⟩:∃x,x=kind T[0]:=⟨_,rfl⟩;rw[<-hk0] at kq HD;clear CLI LI CP ML HAL hcap h hW hP hT hIA hL ha hn hB HTT HPW hk0;by_cases h8k:k0=8
 ·rw[if_pos h8k] at HD
  rw[HD.out] at hM;simp only[List.length_append,List.length_cons,List.length_nil] at hM;subst h8k;go_enter Tryz.func41,Tryz.ntmps41
  go_upto_region 1 with fail
  rw[<-HW.out];have h8:=HX.out.at8 _ HK0.out;have q0:=h8.p0;have q7:=h8.p7;simp only[Nat.zero_add] at q7;clear h8;obtain⟨tv,ht,hr,hi⟩:=HS.out W HK0.out 0 (by omega);replace ht:=Qd ht;replace hr:=Qd hr;replace hi:=Qd hi;go_wp2_with (with_reducible refine Gc rfl (.tmp 50) rfl b4 (o4) rfl tv (by have:=hr.out;simpa using this) hi.out ?_)
  refine(CT.out 0 (by omega) W tv _ HK0.out ht.out HB0.out (by(try simp only[List.length_append,List.length_cons,List.length_nil]);omega)).mono ?_;clear ht hr hi;rintro e w1 ⟨⟨v1,rfl⟩,hb1,hk1⟩;replace hb1:=Qd hb1;replace hk1:=Qd (HK0.out.trans hk1);clear q0 q7;go_wp2_with fail
  refine(Db B b _ [32] w1 hb1.out (by(try simp only[List.length_append,List.length_cons,List.length_nil]);omega)).mono ?_;rintro e w2 ⟨⟨v2,rfl⟩,hb2,hk2⟩;replace hb2:=Qd hb2;replace hk2:=Qd (hk1.out.trans hk2);have h8:=HX.out.at8 _ hk2.out;have q7:=h8.p7;simp only[Nat.zero_add] at q7;clear h8;obtain⟨tv,ht,hr,hi⟩:=HS.out w2 hk2.out 1 (by omega);replace ht:=Qd ht;replace hr:=Qd hr;replace hi:=Qd hi;go_wp2_with (with_reducible refine Gc rfl (.tmp 64) rfl b4 (o4+8) rfl tv (by have:=hr.out;simpa using this) hi.out ?_)
  refine(CT.out 1 (by omega) w2 tv _ hk2.out ht.out hb2.out (by(try simp only[List.length_append,List.length_cons,List.length_nil]);omega)).mono ?_;clear ht hr hi;rintro e w3 ⟨⟨v3,rfl⟩,hb3,hk3⟩;replace hb3:=Qd hb3;replace hk3:=Qd (hk2.out.trans hk3);clear q7;have h8:=HX.out.at8 _ hk3.out;have q7:=h8.p7;simp only[Nat.zero_add] at q7;clear h8;obtain⟨tv,ht,hr,hi⟩:=HS.out w3 hk3.out 2 (by omega);replace ht:=Qd ht;replace hr:=Qd hr;replace hi:=Qd hi;go_wp2_with (with_reducible refine Gc rfl (.tmp 70) rfl b4 (o4+16) rfl tv (by have:=hr.out;simpa using this) hi.out ?_)
  refine(CL.out 2 (by omega) w3 tv _ hk3.out ht.out hb3.out (by(try simp only[List.length_append,List.length_cons,List.length_nil]);omega)).mono ?_;clear ht hr hi;rintro e w4 ⟨⟨v4,rfl⟩,hb4,hk4⟩;replace hb4:=Qd hb4;replace hk4:=Qd (hk3.out.trans hk4);go_wp2_with fail
  go_end0
  exact Na HX.out.kept hk4.out hb4.out (by rw[HD.out]<;>(try simp))
 rw[if_neg h8k] at HD;rw[HD.out] at hM;simp only[List.length_append,List.length_cons,List.length_nil] at hM;have n8:(k0==8)=false:=by simpa using h8k
 clear h8k;go_enter Tryz.func41,Tryz.ntmps41
 go_upto_region 1 with fail
 rw[<-HW.out];have h8:=HX.out.at8 _ HK0.out;have q0:=h8.p0;have q7:=h8.p7;simp only[Nat.zero_add] at q7;clear h8;obtain⟨tv,ht,hr,hi⟩:=HS.out W HK0.out 0 (by omega);replace ht:=Qd ht;replace hr:=Qd hr;replace hi:=Qd hi;go_wp2_with (with_reducible refine Gc rfl (.tmp 56) rfl b4 (o4) rfl tv (by have:=hr.out;simpa using this) hi.out ?_)
 refine(CI.out 0 (by omega) W tv _ HK0.out ht.out HB0.out (by(try simp only[List.length_append,List.length_cons,List.length_nil]);omega)).mono ?_;clear ht hr hi;rintro e w1 ⟨⟨v1,rfl⟩,hb1,hk1⟩;replace hb1:=Qd hb1;replace hk1:=Qd (HK0.out.trans hk1);clear q0 q7;go_wp2_with fail
 refine(Db B b _ [32] w1 hb1.out (by(try simp only[List.length_append,List.length_cons,List.length_nil]);omega)).mono ?_;rintro e w2 ⟨⟨v2,rfl⟩,hb2,hk2⟩;replace hb2:=Qd hb2;replace hk2:=Qd (hk1.out.trans hk2);have h8:=HX.out.at8 _ hk2.out;have q7:=h8.p7;simp only[Nat.zero_add] at q7;clear h8;obtain⟨tv,ht,hr,hi⟩:=HS.out w2 hk2.out 1 (by omega);replace ht:=Qd ht;replace hr:=Qd hr;replace hi:=Qd hi;go_wp2_with (with_reducible refine Gc rfl (.tmp 64) rfl b4 (o4+8) rfl tv (by have:=hr.out;simpa using this) hi.out ?_)
 refine(CT.out 1 (by omega) w2 tv _ hk2.out ht.out hb2.out (by(try simp only[List.length_append,List.length_cons,List.length_nil]);omega)).mono ?_;clear ht hr hi;rintro e w3 ⟨⟨v3,rfl⟩,hb3,hk3⟩;replace hb3:=Qd hb3;replace hk3:=Qd (hk2.out.trans hk3);clear q7;have h8:=HX.out.at8 _ hk3.out;have q7:=h8.p7;simp only[Nat.zero_add] at q7;clear h8;obtain⟨tv,ht,hr,hi⟩:=HS.out w3 hk3.out 2 (by omega);replace ht:=Qd ht;replace hr:=Qd hr;replace hi:=Qd hi;go_wp2_with (with_reducible refine Gc rfl (.tmp 70) rfl b4 (o4+16) rfl tv (by have:=hr.out;simpa using this) hi.out ?_)
 refine(CL.out 2 (by omega) w3 tv _ hk3.out ht.out hb3.out (by(try simp only[List.length_append,List.length_cons,List.length_nil]);omega)).mono ?_;clear ht hr hi;rintro e w4 ⟨⟨v4,rfl⟩,hb4,hk4⟩;replace hb4:=Qd hb4;replace hk4:=Qd (hk3.out.trans hk4);go_wp2_with fail
 go_end0
 exact Na HX.out.kept hk4.out hb4.out (by rw[HD.out]<;>(try simp))
theorem Dna {o:Int}(h:monops.contains o=true):Gl.may o=true:=by
 have:o=0x2F\/o=0x233F\/o=0x5C\/o=0x2340\/o=0xA8\/o=0x2368:=by unfold monops at h;simpa using h
 rcases this with rfl |rfl |rfl |rfl |rfl |rfl<;>decide
theorem Cpa {o:Int}(h:dyops.contains o=true):Gl.may o=true:=by
 have:o=0x2E\/o=0x2218\/o=0x2364\/o=0x2363:=by unfold dyops at h;simpa using h
 rcases this with rfl |rfl |rfl |rfl<;>decide
theorem Bw {k o:Int}{m:List UInt8}{n:Rt.Nm}{t:List Int}(h:Ta k o m n t=true):(k=22->monops.contains o=true)/\(k=23->dyops.contains o=true)/\(k=17->glyph o=true)/\(k=6\/k=7\/k=16->port o=true)/\(k=21->o=0\/o=1):=by
 unfold Ta at h;simp only[Bool.and_eq_true] at h;have h4:=h.2;refine⟨?_,?_,?_,?_,?_⟩
 ·rintro rfl;simpa (config:={decide:=true}) only[if_true,if_false] using h4
 ·rintro rfl;simpa (config:={decide:=true}) only[if_true,if_false] using h4
 ·rintro rfl;simpa (config:={decide:=true}) only[if_true,if_false] using h4
 ·rintro(rfl |rfl |rfl)<;>simpa (config:={decide:=true}) only[if_true,if_false] using h4
 rintro rfl;have h5:((o==0)||(o==1))=true:=by simpa (config:={decide:=true}) only[if_true,if_false] using h4
 simpa using h5
theorem Vn {o:Int}(h:Gl.may o=true):0<=o/\o<=1114111:=by unfold Gl.may at h;simp at h;omega
theorem Cda (n:Nat)(hT:WrOk 21 Ia n)(k o:Int)(m:List UInt8)(nm:Rt.Nm)(tx:List Int)(T:List Tree)(vs:List Value)(w:World)(Bt B b:Nat)(l:List UInt8)(hk:k=22\/k=23\/k=24)(hn:∀a∈T,SizeOf.sizeOf a<n)(ha:all (.mk k o m nm tx T)=true)
 (h:IsTree w Bt (.mk k o m nm tx T) vs) (hB:Bt<=B) (hP:PowB B w) (hL:IsBld B b l w) (hM:l.length+(Ia (.mk k o m nm tx T)).length<=140737488355000):
 Calls Tryz.prog 43 #[.pointer (some ⟨b,0,none⟩),.agg vs.toArray] w (Ld B b w (l++Ia (.mk k o m nm tx T))):=by
 obtain⟨W,hW⟩:∃W,W=w.alloc (.cells vs.toArray 28):=⟨_,rfl⟩;have hIA:=Cb h;obtain⟨A1,A2,A3,A4,c1,c2,c3,c4,us,HX,HB0,hTl⟩:=Rn h hB hL hW;have HPW:=Qd (hP.kept HX.out.kept.below);have HAL:=Qd (Sb ha);have HTT:=Qd (λ(i:Nat) (hi:i<T.length)=>And.intro (hn _ (List.getElem_mem hi)) (Ah HAL.out.2.2 hi));have CT:=Qd (λ(i:Nat) (hi:i<T.length) wx tv l' (hx:KeptB B b W wx) ht h3 h4=>hT (T[i]'hi) tv wx Bt B b l' (HTT.out i hi).1 (HTT.out i hi).2 ht hB (HPW.out.kept hx.below) h3 h4);have CI:=Qd (λ(i:Nat) (hi:i<T.length) wx tv l' (hx:KeptB B b W wx) ht h3 h4=>Gh n hT (T[i]'hi) tv wx Bt B b l' (HTT.out i hi).1 (HTT.out i hi).2 ht hB (HPW.out.kept hx.below) h3 h4);dsimp only at CI;have HK0:=Qd (KeptB.refl B b W);have HW:=Qd hW;have HIA:=Qd hIA;have ML:=Un HAL.out.2.1;have HO:=Bw HAL.out.1;have HAR:=Qd (λk wx=>Lj k wx);rcases hk with rfl |rfl |rfl
 ·have hlen:=ML.2.2.2 (by simp)
  have HD:=Qd (Ypa (o:=o) (m:=m) (n:=nm) (t:=tx) hlen);rw[HD.out,List.length_append] at hM;have hq0:(0:Int)<(T.length:Int):=by omega
  have hmay:=Dna (HO.1 rfl);have hob:=Vn hmay;obtain⟨ho0,ho1⟩:=hob;obtain⟨b4,o4,rfl⟩:∃b4 o4,A4=some ⟨b4,o4,none⟩:=by
   obtain⟨b',off,_,e,_⟩:=HX.out.sub W HK0.out 0 (by omega);exact⟨b',off,e⟩
  have HS:=Qd (HX.out.at_ rfl);generalize Ia (.mk 22 o m nm tx T)=R at*;clear CI ML HAL HO h hW hP hT hIA hL ha hn hB HTT HPW;replace hmay:=Qd hmay;go_enter Tryz.func43,Tryz.ntmps43
  go_upto_region 1 with fail
  rw[<-HW.out];have h8:=HX.out.at8 _ HK0.out;have q0:=h8.p0;have q7:=h8.p7;simp only[Nat.zero_add] at q7;clear h8;obtain⟨tv,ht,hr,hi⟩:=HS.out W HK0.out 0 (by omega);replace ht:=Qd ht;replace hr:=Qd hr;replace hi:=Qd hi;go_wp2_with (with_reducible refine Gc rfl (.tmp 18) rfl b4 (o4) rfl tv (by have:=hr.out;simpa using this) hi.out ?_)
  refine(CT.out 0 (by omega) W tv _ HK0.out ht.out HB0.out (by(try simp only[List.length_append,List.length_cons,List.length_nil]);omega)).mono ?_;clear ht hr hi;rintro e w1 ⟨⟨v1,rfl⟩,hb1,hk1⟩;replace hb1:=Qd hb1;replace hk1:=Qd (HK0.out.trans hk1);clear q0 q7;have h8:=HX.out.at8 _ hk1.out;have q0:=h8.p0;have q1:=h8.p1;simp only[Nat.zero_add] at q1;clear h8;go_wp2_with fail
  refine(Dv B b _ o w1 hb1.out hmay.out (by(try simp only[List.length_append,List.length_cons,List.length_nil]);omega)).mono ?_;rintro e w2 ⟨⟨v2,rfl⟩,hb2,hk2⟩;replace hb2:=Qd hb2;replace hk2:=Qd (hk1.out.trans hk2);clear q0 q1;have h8:=HX.out.at8 _ hk2.out;have q0:=h8.p0
  skip
  clear h8;go_wp2_with fail
  go_end0
  exact Na HX.out.kept hk2.out hb2.out (by rw[HD.out]<;>(try simp))
 ·have hlen:=ML.2.1 (by simp)
  have HD:=Qd (Zpa (o:=o) (m:=m) (n:=nm) (t:=tx) hlen);have hq0:(0:Int)<(T.length:Int):=by omega
  have hq1:(1:Int)<(T.length:Int):=by omega
  have hmay:=Cpa (HO.2.1 rfl);obtain⟨ho0,ho1⟩:=Vn hmay;obtain⟨b4,o4,rfl⟩:∃b4 o4,A4=some ⟨b4,o4,none⟩:=by
   obtain⟨b',off,_,e,_⟩:=HX.out.sub W HK0.out 0 (by omega);exact⟨b',off,e⟩
  have HS:=Qd (HX.out.at_ rfl);generalize Ia (.mk 23 o m nm tx T)=R at*;have HKK:Hid (∀wx,KeptB B b W wx->wx.cell? ⟨b4,o4+8,none⟩=some (.int .i64 (kind T[1]))):=Qd (λwx hx=>by
   obtain⟨tv0,ht0,hr0,hi0⟩:=HS.out wx hx 1 (by omega);obtain⟨e1,e2,e3,e4,e5,e6,e7,e8,rfl⟩:=ht0.form;have:=hr0 0 _ rfl;simpa using this)
  obtain⟨k1,hk1⟩:∃x,x=kind T[1]:=⟨_,rfl⟩;rw[<-hk1] at HKK HD;clear ML HAL HO h hW hP hT hIA hL ha hn hB HTT HPW hk1;replace hmay:=Qd hmay;cases hx1:array k1
  ·rw[hx1] at HD
   replace HD:Hid (R=Ia T[0]++(Tk.enc1 o++Ia T[1])):=HD;rw[HD.out] at hM;simp only[List.length_append] at hM;go_enter Tryz.func43,Tryz.ntmps43
   go_upto_region 1 with fail
   rw[<-HW.out];have h8:=HX.out.at8 _ HK0.out;have q0:=h8.p0;have q7:=h8.p7;simp only[Nat.zero_add] at q7;clear h8;obtain⟨tv,ht,hr,hi⟩:=HS.out W HK0.out 0 (by omega);replace ht:=Qd ht;replace hr:=Qd hr;replace hi:=Qd hi;go_wp2_with (with_reducible refine Gc rfl (.tmp 18) rfl b4 (o4) rfl tv (by have:=hr.out;simpa using this) hi.out ?_)
   refine(CT.out 0 (by omega) W tv _ HK0.out ht.out HB0.out (by(try simp only[List.length_append,List.length_cons,List.length_nil]);omega)).mono ?_;clear ht hr hi;rintro e w1 ⟨⟨v1,rfl⟩,hb1,hk1⟩;replace hb1:=Qd hb1;replace hk1:=Qd (HK0.out.trans hk1);clear q0 q7;have h8:=HX.out.at8 _ hk1.out;have q0:=h8.p0;have q1:=h8.p1;simp only[Nat.zero_add] at q1;clear h8;go_wp2_with fail
   refine(Dv B b _ o w1 hb1.out hmay.out (by(try simp only[List.length_append,List.length_cons,List.length_nil]);omega)).mono ?_;rintro e w2 ⟨⟨v2,rfl⟩,hb2,hk2⟩;replace hb2:=Qd hb2;replace hk2:=Qd (hk1.out.trans hk2);clear q0 q1;have h8:=HX.out.at8 _ hk2.out;have q0:=h8.p0;have q7:=h8.p7;simp only[Nat.zero_add] at q7;clear h8;have kq:=HKK.out _ hk2.out;go_wp2_with fail
   refine(HAR.out k1 _).mono ?_;rintro e w' ⟨rfl,rfl⟩;rw[hx1];clear q0 q7;have h8:=HX.out.at8 _ hk2.out;have q7:=h8.p7;simp only[Nat.zero_add] at q7;clear h8;obtain⟨tv,ht,hr,hi⟩:=HS.out w2 hk2.out 1 (by omega);replace ht:=Qd ht;replace hr:=Qd hr;replace hi:=Qd hi;go_wp2_with (with_reducible refine Gc rfl (.tmp 44) rfl b4 (o4+8) rfl tv (by have:=hr.out;simpa using this) hi.out ?_)
   refine(CT.out 1 (by omega) w2 tv _ hk2.out ht.out hb2.out (by(try simp only[List.length_append,List.length_cons,List.length_nil]);omega)).mono ?_;clear ht hr hi;rintro e w3 ⟨⟨v3,rfl⟩,hb3,hk3⟩;replace hb3:=Qd hb3;replace hk3:=Qd (hk2.out.trans hk3);go_wp2_with fail
   go_end0
   exact Na HX.out.kept hk3.out hb3.out (by rw[HD.out]<;>(try simp))
  rw[hx1] at HD;replace HD:Hid (R=Ia T[0]++(Tk.enc1 o++Mc (kd T[1]))):=HD;rw[HD.out] at hM;simp only[List.length_append] at hM;go_enter Tryz.func43,Tryz.ntmps43
  go_upto_region 1 with fail
  rw[<-HW.out];have h8:=HX.out.at8 _ HK0.out;have q0:=h8.p0;have q7:=h8.p7;simp only[Nat.zero_add] at q7;clear h8;obtain⟨tv,ht,hr,hi⟩:=HS.out W HK0.out 0 (by omega);replace ht:=Qd ht;replace hr:=Qd hr;replace hi:=Qd hi;go_wp2_with (with_reducible refine Gc rfl (.tmp 18) rfl b4 (o4) rfl tv (by have:=hr.out;simpa using this) hi.out ?_)
  refine(CT.out 0 (by omega) W tv _ HK0.out ht.out HB0.out (by(try simp only[List.length_append,List.length_cons,List.length_nil]);omega)).mono ?_;clear ht hr hi;rintro e w1 ⟨⟨v1,rfl⟩,hb1,hk1⟩;replace hb1:=Qd hb1;replace hk1:=Qd (HK0.out.trans hk1);clear q0 q7;have h8:=HX.out.at8 _ hk1.out;have q0:=h8.p0;have q1:=h8.p1;simp only[Nat.zero_add] at q1;clear h8;go_wp2_with fail
  refine(Dv B b _ o w1 hb1.out hmay.out (by(try simp only[List.length_append,List.length_cons,List.length_nil]);omega)).mono ?_;rintro e w2 ⟨⟨v2,rfl⟩,hb2,hk2⟩;replace hb2:=Qd hb2;replace hk2:=Qd (hk1.out.trans hk2);clear q0 q1;have h8:=HX.out.at8 _ hk2.out;have q0:=h8.p0;have q7:=h8.p7;simp only[Nat.zero_add] at q7;clear h8;have kq:=HKK.out _ hk2.out;go_wp2_with fail
  refine(HAR.out k1 _).mono ?_;rintro e w' ⟨rfl,rfl⟩;rw[hx1];clear q0 q7;have h8:=HX.out.at8 _ hk2.out;have q7:=h8.p7;simp only[Nat.zero_add] at q7;clear h8;obtain⟨tv,ht,hr,hi⟩:=HS.out w2 hk2.out 1 (by omega);replace ht:=Qd ht;replace hr:=Qd hr;replace hi:=Qd hi;go_wp2_with (with_reducible refine Gc rfl (.tmp 38) rfl b4 (o4+8) rfl tv (by have:=hr.out;simpa using this) hi.out ?_)
  refine(CI.out 1 (by omega) w2 tv _ hk2.out ht.out hb2.out (by(try simp only[List.length_append,List.length_cons,List.length_nil]);omega)).mono ?_;clear ht hr hi;rintro e w3 ⟨⟨v3,rfl⟩,hb3,hk3⟩;replace hb3:=Qd hb3;replace hk3:=Qd (hk2.out.trans hk3);go_wp2_with fail
  go_end0
  exact Na HX.out.kept hk3.out hb3.out (by rw[HD.out]<;>(try simp))
 have hlen:=ML.2.2.2 (by simp);have HD:=Qd (Aqa (o:=o) (m:=m) (n:=nm) (t:=tx) hlen);rw[HD.out] at hM;simp only[List.length_append,List.length_cons,List.length_nil] at hM;have hq0:(0:Int)<(T.length:Int):=by omega
 obtain⟨b4,o4,rfl⟩:∃b4 o4,A4=some ⟨b4,o4,none⟩:=by
  obtain⟨b',off,_,e,_⟩:=HX.out.sub W HK0.out 0 (by omega);exact⟨b',off,e⟩
 have HS:=Qd (HX.out.at_ rfl);generalize Ia (.mk 24 o m nm tx T)=R at*;clear CI ML HAL HO h hW hP hT hIA hL ha hn hB HTT HPW;go_enter Tryz.func43,Tryz.ntmps43
 go_upto_region 1 with fail
 rw[<-HW.out];have h8:=HX.out.at8 _ HK0.out;have q0:=h8.p0
 skip
 clear h8;go_wp2_with fail
 refine(Db B b _ [226,136,152,46] W HB0.out (by(try simp only[List.length_append,List.length_cons,List.length_nil]);omega)).mono ?_;rintro e w1 ⟨⟨v1,rfl⟩,hb1,hk1⟩;replace hb1:=Qd hb1;replace hk1:=Qd (HK0.out.trans hk1);clear q0;have h8:=HX.out.at8 _ hk1.out;have q7:=h8.p7;simp only[Nat.zero_add] at q7;clear h8;obtain⟨tv,ht,hr,hi⟩:=HS.out w1 hk1.out 0 (by omega);replace ht:=Qd ht;replace hr:=Qd hr;replace hi:=Qd hi;go_wp2_with (with_reducible refine Gc rfl (.tmp 12) rfl b4 (o4) rfl tv (by have:=hr.out;simpa using this) hi.out ?_)
 refine(CT.out 0 (by omega) w1 tv _ hk1.out ht.out hb1.out (by(try simp only[List.length_append,List.length_cons,List.length_nil]);omega)).mono ?_;clear ht hr hi;rintro e w2 ⟨⟨v2,rfl⟩,hb2,hk2⟩;replace hb2:=Qd hb2;replace hk2:=Qd (hk1.out.trans hk2);go_wp2_with fail
 go_end0
 exact Na HX.out.kept hk2.out hb2.out (by rw[HD.out]<;>(try simp))
end
end Go.Proofs.YtceplkpjnebnfaaGreatDoor
