/-
  Texts of this proof, joined (by wip/bin/bundle.py): Prs9, Prs17, Tree11, Tree15, ParRight, Comment.
-/
import Derived.Test.YtceplkpjnebnfaaGreatDoorM15
import Derived.Test.YtceplkpjnebnfaaGreatDoorProg
import Derived.IntWalk
set_option linter.all false
set_option maxHeartbeats 8000000
set_option maxRecDepth 100000
namespace Go.Proofs.YtceplkpjnebnfaaGreatDoor
section
open Go.RowKit Tr
variable [Vb]
theorem TokOk.of {t:Tk.Tok}(h1:Tk.OkTok t)(h2:Tk.Few t)(h3:t.l.length≤100000):TokOk t where
 s:=Nat.le_trans h2.s (by decide)
 k:=⟨h1.k0,h1.k7⟩
 c:=by have:=h2.c;omega
 l:=λn hn=>by have:=h2.l n hn;omega
 ll:=h3
 o1:=h2.n.o1
 o2:=h2.n.o2
 t1:=Nat.le_trans h2.n.t1 (by decide)
 t2:=Nat.le_trans h2.n.t2 (by decide)
theorem Mp {w:World}{v:Value}{l:List Nat}{z:Array Value}(hq:w.heap[Vb.q]? =some (.cells z 28 (0,0)))(hz:∀(j:Nat) (n:Int),z[j]? ≠some (Value.int .u32 n))(h:IsRes w v l):Rn v l.length:=by
 obtain⟨A,c,rfl,h1,h2,h3,h4⟩:=h;cases l with
 |nil=>exact .inl rfl
 |cons x l=>
  refine .inr λa n' c' e hb=>?_;injection e with e1 e2 e3
  rcases h4 with h |⟨g,off,e4,hg,hc⟩
  ·cases h
  rw[e4] at e1;injection e1 with e1
  subst e1;have hb':g=Vb.q:=hb;have h5:=hc 0 _ rfl;rw[hb',cell_of_row w Vb.q (off+0) _ _ _ hq] at h5;exact hz _ _ h5
theorem F0 {w:World}{v:Value}{n:Nat}{xs:List Value}{z:Array Value}(hq:w.heap[Vb.q]? =some (.cells z 28 (0,0)))(h:w.ownsRow 0 3 1 v n xs):Rn v n:=by
 rcases h.2 with⟨rfl,h1⟩ |⟨g,cap,cur,rfl,hb,hh,_⟩
 ·exact .inl h1
 refine .inr λa n' c' e hb2=>?_;injection e with e1 e2 e3
 injection e1 with e1
 subst e1;have hb':g=Vb.q:=hb2;rw[hb',hq] at hh;injection hh with hh
 injection hh with h1 h2 h3
 exact absurd h2 (by decide)
theorem E8 {w:World}{base:Nat}{v:Value}{s:ByteArray}(h:IsToks w base v (Tk.cut s).1)(hs:s.size≤10000)(he:(Tk.cut s).2.2=0){z:Array Value}(hq:w.heap[Vb.q]? =some (.cells z 28 (0,0)))(hz:∀(j:Nat) (n:Int),z[j]? ≠some (Value.int .u32 n)):∃A c,v= .slice A (Tk.cut s).1.length c∧c≤maxLen∧Cd w (Tk.cut s).1 A c:=by
 obtain⟨A,c,hv,h1,h2,h3⟩:=h.open_;have hsm:=Tk.cut_small s;obtain⟨j0,hup⟩:=Tk.cutL_up (l:=Gl.ints (Gl.dec s 0).1) (b:=(Gl.dec s 0).2) he;refine⟨A,c,hv,h2,by omega,h1,λj hj=>?_,λj hj=>?_⟩
 ·have hm:(Tk.cut s).1[j]∈(Tk.cut s).1:=List.getElem_mem hj
  exact TokOk.of (hup.1 _ hm).1 (Tk.cut_few s _ hm) (by have:=(hsm.2 _ hm).1;omega)
 obtain⟨g,n1,n2,lv,e,hg,_,hr,k1,k2,k3⟩:=h3 j hj;exact⟨g,n1,n2,lv,e,hg,hr,k1,k2,k3,Mp hq hz k1,Mp hq hz k2,F0 hq k3⟩
end
section
open Go.RowKit Tr
def Ta (s0 s1 s2 s5 s6 s7 s8 s9 s10 s11 s12 s13 s14 s15 s16 s17 s18 s19 s20 s21 s22 s23 s24 s25 s26 s27 s28 s29 s30 s31 s32 s33 s34 s35 s36 s37 s38 s39 s40 s41 s42 s43 s44 s45 s46 s47 s48 s49 s50 s60 s61 s62 s63 s64 s65 s66 s67 s68 s69 s70 s71 s72 s73 s74:Value)(xs:Nat→Value):Act:={tmps:= #[s0,s1,s2,xs 10,xs 11,s5,s6,s7,s8,s9,s10,s11,s12,s13,s14,s15,s16,s17,s18,s19,s20,s21,s22,s23,s24,s25,s26,s27,s28,s29,s30,s31,s32,s33,s34,s35,s36,s37,s38,s39,s40,s41,s42,s43,s44,s45,s46,s47,s48,s49,s50,xs 0,xs 1,xs 2,xs 3,xs 4,xs 5,xs 6,xs 7,xs 8,s60,s61,s62,s63,s64,s65,s66,s67,s68,s69,s70,s71,s72,s73,s74],defers:=[]}
def I0 (rb g j c n:Nat)(a:Nat):Nat→Value→Prop
 | 0,v=>v= .agg #[.int .i64 0,.int .i64 0,.string ⟨#[]⟩,.bool false,.slice none 0 0,.slice none 0 0,.slice none 0 0,.slice none 0 0]
 | 1,v=>v= .slice (some ⟨g,0,none⟩) n c
 | 2,v=>v= .pointer (some ⟨rb,0,none⟩)
 | 3,v=>v= .pointer (some ⟨rb,0,none⟩)
 | 4,v=>v= .pointer (some ⟨rb,1,none⟩)
 | 5,v=>v= .int .i64 (j:Int)
 | 6,v=>v= .pointer (some ⟨g,j*8,none⟩)
 | 7,v=>v= .pointer (some ⟨g,j*8+7,none⟩)
 | 8,v=>v= .int .i64 (a:Int)
 | 9,v=>True
 | 10,v=>v= .int .i64 (a:Int)
 |_,v=>v= .int .i64 1
section
variable [Vb]
structure Uaa (w0:World) (ts:List Tk.Tok) (A:Option Addr) (c rb F:Nat):Prop where
 ex:Zd w0 ts A c rb 88 Pr.expr F
 bh:Zd w0 ts A c rb 141 Pr.behind F
 sd:Zd w0 ts A c rb 170 (λf T=>Pr.bnd (Pr.arrs f T) λl U=>Pr.ret (Pr.strandT l) U) F
 ar:Zd w0 ts A c rb 140 Pr.arr F
 al:Zd w0 ts A c rb 169 Pr.alone F
 fn:Zd w0 ts A c rb 87 Pr.func F
 pl:Zd w0 ts A c rb 138 Pr.plain F
 ss:N5 w0 ts A c rb 25 Pr.stmts F
 st:J5 w0 ts A c rb 53 Pr.stmt F
theorem J0 {w0:World}{ts:List Tk.Tok}{A:Option Addr}{c rb:Nat}(hT:Cd w0 ts A c):∀F,F≤10000000→Uaa w0 ts A c rb F
 | 0,_=>by
  constructor
  ·intro f hf i w r h hp;obtain rfl:f=0:=by omega
   cases hp
  ·intro f hf i w r h hp;obtain rfl:f=0:=by omega
   cases hp
  ·intro f hf i w r h hp;obtain rfl:f=0:=by omega
   cases hp
  ·intro f hf i w r h hp;obtain rfl:f=0:=by omega
   cases hp
  ·intro f hf i w r h hp;obtain rfl:f=0:=by omega
   cases hp
  ·intro f hf i w r h hp;obtain rfl:f=0:=by omega
   cases hp
  ·intro f hf i w r h hp;obtain rfl:f=0:=by omega
   cases hp
  ·intro f hf b i w r h hp;obtain rfl:f=0:=by omega
   cases hp
  intro f hf b i w r h hp;obtain rfl:f=0:=by omega
  cases hp
 |F+1,hF=>by
  have ih:=J0 (rb:=rb) hT F (by omega);exact⟨Vz F hT ih.bh ih.fn ih.ex,Ju F hT ih.sd ih.fn ih.ex,Gu F (by omega) hT ih.ar,Nx F (by omega) hT ih.al ih.ex,Jx F hT ih.ex,A0 F hT ih.pl ih.ar,Ox F hT ih.ss,Lx F (by omega) hT ih.st,Wz F hT ih.fn ih.ex⟩
end
def Bc (s:ByteArray):Option Da:=if(Tk.cut s).2.2=0 then(match Pr.lineT (Tk.cut s).1 with
 |some t=>if right t=true then some t else none
 |none=>none) else none
def F8 (s:ByteArray)(w:World)(e:Ending)(w':World):Prop:=
 Below w.heap.size w w'∧((∃(t:Da) (x:C8),Bc s=some t∧e= .returned (.tuple #[.agg #[.int .i64 x.k,.int .i64 x.o,.string ⟨x.m.toArray⟩,.bool x.g,.slice x.A1 x.n1 x.c1,.slice x.A2 x.n2 x.c2,.slice x.A3 x.n3 x.c3,.slice x.A4 x.n4 x.c4],.int .i64 0,.int .i64 0])∧IsTree w' w'.heap.size t x.l)∨
  (Bc s=none∧∃(a:Nat) (f:Int),a≤s.size∧f≠0∧e= .returned (.tuple #[.agg #[.int .i64 0,.int .i64 0,.string ⟨#[]⟩,.bool false,.slice none 0 0,.slice none 0 0,.slice none 0 0,.slice none 0 0],.int .i64 (a:Int),.int .i64 f])))
def Lo (o:Option (List Da×List Tk.Tok)):Option Da:=match o with
 |some (l,[])=>some (Pr.node 28 0 [] l)
 |_=>none
theorem S5 {ts:List Tk.Tok}{o:Option (List Da×List Tk.Tok)}(h:Pr.stmts (Pr.fuel ts) false ts=some o):Pr.lineT ts=Lo o:=by
 unfold Pr.lineT Lo;rw[h];cases o with
 |none=>rfl
 |some p=>obtain⟨l,U⟩:=p;cases U<;>rfl
theorem I8:∀(j:Nat) (n:Int),(z8:Array Value)[j]? ≠some (Value.int .u32 n):=by
 intro j n h;have hj:j<8:=(Array.getElem?_eq_some_iff.1 h).1;rcases(show j=0∨j=1∨j=2∨j=3∨j=4∨j=5∨j=6∨j=7 by omega) with rfl |rfl |rfl |rfl |rfl |rfl |rfl |rfl<;>simp at h
theorem Sx (s:ByteArray):(Gl.ints (Gl.dec s 0).1).length≤s.size:=by
 have hlen:=Gl.dec_len (s:=s) (s.size+1) 0 (by omega);have hl:(Gl.ints (Gl.dec s 0).1).length=(Gl.dec s 0).1.length:=by unfold Gl.ints;simp
 omega
theorem Jm (s:ByteArray)(hs:s.size≤10000)(w:World):Calls Tryz.prog 11 #[.string s] w (F8 s w):=by
 obtain⟨HI,hhi⟩:∃HI:Vb,@Vb.q HI=w.heap.size:=⟨⟨w.heap.size⟩,rfl⟩;obtain⟨W,hW⟩:∃W,W=w.alloc (.cells z8 28):=⟨_,rfl⟩;have hWb:Below w.heap.size w W:=by rw[hW];exact(Below.refl _ _).alloc (Nat.le_refl _) _
 have hs0:w.heap.size+1≤W.heap.size:=by rw[hW];simp
 have HQW0:Hid (W.heap[w.heap.size]? =some (.cells z8 28 (0,0))):=Qd (by rw[hW];exact heap_alloc_new w _);have TC:=Qd (Qw s W hs);have HW:=Qd hW;have HWB:=Qd hWb;clear hW hWb;go_enter Tryz.func11,Tryz.ntmps11
 go_upto_region 1 with fail
 rw[←HW.out];go_wp2_with fail
 refine TC.out.mono ?_;rintro e w1 ⟨v,rfl,htk,hb1⟩;have HB1:Hid (Below w.heap.size w w1):=Qd (HWB.out.trans (hb1.mono (by omega)));have HQ1:Hid (w1.heap[w.heap.size]? =some (.cells z8 28 (0,0))):=Qd ((hb1.block w.heap.size (by omega)).trans HQW0.out);have hs1:=hb1.size;have HTO:=Qd (Tk.cut_to s);by_cases he:(Tk.cut s).2.2=0
 ·obtain⟨A,c,rfl,hc,hT⟩:=E8 htk hs he (by rw[hhi];exact HQ1.out) I8
  have HGL:Hid (Bc s=match Pr.lineT (Tk.cut s).1 with
   |some t=>if right t=true then some t else none
   |none=>none):=Qd (by unfold Bc;rw[if_pos he])
  have HAT:Hid (∀t∈(Tk.cut s).1,t.at_≤s.size):=Qd (λt ht=>((Tk.cut_small s).2 t ht).2);have hlen:(Tk.cut s).1.length≤s.size:=(Tk.cut_small s).1;have e0:((Tk.cut s).2.2 !=0)=false:=by simp[he]
  generalize(Tk.cut s).1=ts at*;generalize(Tk.cut s).2.2=er at*;generalize(Tk.cut s).2.1=to_ at*;have HT:=Qd hT;obtain⟨W2,hW2⟩:∃W2,W2=w1.alloc (.cells #[.slice A ts.length c,.int .i64 0] 50):=⟨_,rfl⟩;have hb2:Below w1.heap.size w1 W2:=by rw[hW2];exact(Below.refl _ _).alloc (Nat.le_refl _) _
  have HR2:Hid (RdAt w1 ts A c w1.heap.size 0 W2):=Qd ⟨by rw[hW2];exact heap_alloc_new w1 _,hb2,Nat.le_refl _,Nat.zero_le _⟩;obtain⟨o,ho⟩:=Pr.stmts_some false ts;have PS:=Qd ((J0 (rb:=w1.heap.size) hT (Pr.fuel ts) (by unfold Pr.fuel;omega)).ss (Pr.fuel ts) (Nat.le_refl _) false 0 W2 o HR2.out (by rw[List.drop_zero];exact ho));have HLT:Hid (Pr.lineT ts=Lo o):=Qd (S5 ho);have HW2:=Qd hW2;clear hb1 hT hb2 hW2 ho htk he;go_upto_region 5 with fail
  rw[←HW2.out];go_wp2_with fail
  refine PS.out.mono ?_;rintro e w3 ⟨j,hR3,hG3,hd⟩;have HR3:=Qd hR3;have HB3:Hid (Below w.heap.size w w3):=Qd (HB1.out.trans (hR3.old.mono (by omega)));have HQ:Hid (w3.heap[w.heap.size]? =some (.cells z8 28 (0,0))):=Qd ((hR3.old.block w.heap.size (by omega)).trans HQ1.out);have hs3:=hR3.old.size;have p1:=hR3.c1;have hjle:=hR3.le;have HQW:Hid (∀x:Nat,True):=Qd (λ_=>trivial);have HWS:Hid (w3.heap.size≥w1.heap.size):=Qd hs3;cases o with
  |none=>
   obtain⟨A4,n4,c4,rfl⟩:=hd;have HNO:Hid (Bc s=none):=Qd (by rw[HGL.out,HLT.out];rfl);clear hR3 hG3 PS HGL HLT;by_cases hj:j<ts.length
   ·have hji:(j:Int)<(ts.length:Int):=by omega
    have hjl:j<ts.length:=hj;obtain⟨g,n1,n2,lv,hgA,hgl,hrt,-⟩:=HT.out.at_ j hjl;subst hgA;have hgq:g≠w.heap.size:=λe=>by
     have h7:=hrt 7 _ rfl;rw[e,cell_of_row _ _ _ _ _ _ HQ1.out] at h7;rcases Nat.eq_zero_or_pos j with h0 |h0
     ·subst h0;simp at h7
     rw[Array.getElem?_eq_none (by simp;omega)] at h7;cases h7
    obtain⟨a,ha⟩:∃a,a=(ts[j]'hjl).at_:=⟨_,rfl⟩;have HA:Hid (a≤s.size):=Qd (by rw[ha];exact HAT.out _ (List.getElem_mem hjl));have HCL:Hid (∀k w4,Dl (World.drew w3) w.heap.size z8 k w4→w4.cell? ⟨w1.heap.size,1,none⟩=some (.int .i64 (j:Int))∧w4.cell? ⟨g,j*8+7,none⟩=some (.int .i64 (a:Int))):=Qd (λk w4 hk=>by
     have e1:(World.drew w3).cell? ⟨w1.heap.size,1,none⟩=some (.int .i64 (j:Int)):=HR3.out.c1;have e2:(World.drew w3).cell? ⟨g,j*8+7,none⟩=some (.int .i64 (a:Int)):=(HR3.out.old.cell (p:=⟨g,j*8+7,none⟩) hgl).trans (by rw[ha];exact hrt 7 _ rfl)
     match k,hk with
     | 0,hk=>cases hk;exact⟨e1,e2⟩
     |k+1,hk=>obtain⟨wz,rfl,rfl⟩:=hk;exact⟨(cell_setRow_other _ _ _ _ (by show w1.heap.size≠_;omega)).trans e1,(cell_setRow_other _ _ _ _ (by exact hgq)).trans e2⟩)
    clear hrt ha;go_wp2_with fail
    refine Ce [9] (Ta _ _ _ _ _ _ _ _ _ _ _ _ _ _ _ _ _ _ _ _ _ _ _ _ _ _ _ _ _ _ _ _ _ _ _ _ _ _ _ _ _ _ _ _ _ _ _ _ _ _ _ _ _ _ _ _ _ _ _ _ _ _ _ _) (I0 w1.heap.size g j c ts.length a) (Dl (World.drew w3) w.heap.size z8) (by kernel_rfl) (by kernel_rfl) (by kernel_rfl) (by kernel_rfl) (by kernel_rfl) (Kg [_,_,_,_,_,_,_,_,_,undef,_,_]) rfl (rfl) ?_ ?_ ?_
    ·intro i xs w4 k hi hne hS hdep
     have hi6:i<12:=hi;clear hi;have hne2:i≠9∧True:=⟨λe=>hne (by rw[e];decide),trivial⟩;rcases(show i=0∨i=1∨i=2∨i=3∨i=4∨i=5∨i=6∨i=7∨i=8∨i=10∨i=11 by omega) with rfl |rfl |rfl |rfl |rfl |rfl |rfl |rfl |rfl |rfl |rfl
     ·refine Ba rfl rfl ?_
      unfold Ta Oper.wp;go_simp
      exact⟨_,by simp only[Ta,Ja];simp[Act.put],rfl,hS⟩
     ·refine Ba rfl rfl ?_
      unfold Ta Oper.wp;go_simp
      exact⟨_,by simp only[Ta,Ja];simp[Act.put],rfl,hS⟩
     ·refine Ba rfl rfl ?_
      unfold Ta Oper.wp;go_simp
      exact⟨_,by simp only[Ta,Ja];simp[Act.put],rfl,hS⟩
     ·have h2:xs 2= .pointer (some ⟨w1.heap.size,0,none⟩):=hdep 2 (by kernel_rfl)
      refine Ba rfl rfl ?_;unfold Ta Oper.wp;simp only[h2];go_simp
      exact⟨_,by simp only[Ta,Ja];simp[Act.put,h2],rfl,hS⟩
     ·have h3:xs 3= .pointer (some ⟨w1.heap.size,0,none⟩):=hdep 3 (by kernel_rfl)
      refine Ba rfl rfl ?_;unfold Ta Oper.wp;simp only[h3];go_simp
      exact⟨_,by simp only[Ta,Ja];simp[Act.put,h3],rfl,hS⟩
     ·have h4:xs 4= .pointer (some ⟨w1.heap.size,1,none⟩):=hdep 4 (by kernel_rfl)
      refine Ba rfl rfl ?_;have p1:=(HCL.out _ _ hS).1;unfold Ta Oper.wp;simp only[h4];go_simp
      exact⟨_,by simp only[Ta,Ja];simp[Act.put,h4],rfl,hS⟩
     ·have h1:xs 1= .slice (some ⟨g,0,none⟩) ts.length c:=hdep 1 (by kernel_rfl)
      have h5:xs 5= .int .i64 (j:Int):=hdep 5 (by kernel_rfl);refine Ba rfl rfl ?_;unfold Ta Oper.wp;simp only[h1,h5];go_simp
      exact⟨_,by simp only[Ta,Ja];simp[Act.put,h1,h5],rfl,hS⟩
     ·have h6:xs 6= .pointer (some ⟨g,j*8,none⟩):=hdep 6 (by kernel_rfl)
      refine Ba rfl rfl ?_;unfold Ta Oper.wp;simp only[h6];go_simp
      exact⟨_,by simp only[Ta,Ja];simp[Act.put,h6],rfl,hS⟩
     ·have h7:xs 7= .pointer (some ⟨g,j*8+7,none⟩):=hdep 7 (by kernel_rfl)
      refine Ba rfl rfl ?_;have p7:=(HCL.out _ _ hS).2;unfold Ta Oper.wp;simp only[h7];go_simp
      exact⟨_,by simp only[Ta,Ja];simp[Act.put,h7],rfl,hS⟩
     ·have h8:xs 8= .int .i64 (a:Int):=hdep 8 (by kernel_rfl)
      refine Ba rfl rfl ?_;unfold Ta Oper.wp;simp only[h8];go_simp
      exact⟨_,by simp only[Ta,Ja];simp[Act.put,h8],rfl,hS⟩
     refine Ba rfl rfl ?_;unfold Ta Oper.wp;go_simp
     exact⟨_,by simp only[Ta,Ja];simp[Act.put],rfl,hS⟩
    ·intro m i xs w4 hm hS hdep
     match m,hm with
     | 0,hm=>
      obtain rfl:i=9:=(Option.some.inj hm).symm;have h0:xs 0= .agg #[.int .i64 0,.int .i64 0,.string ⟨#[]⟩,.bool false,.slice none 0 0,.slice none 0 0,.slice none 0 0,.slice none 0 0]:=hdep 0 (by kernel_rfl);refine Ba rfl rfl ?_;refine wp_store_row 28 (.tmp 2) (.tmp 51) rfl w.heap.size z8 rfl (by unfold Ta;simp only[h0];rfl) 28 z8 (by cases hS;exact HQ.out) Fc rfl (by simp[Value.oneCell']) ?_;exact⟨undef,by simp only[Ta,Ja];simp[Act.put],trivial,⟨_,hS,rfl⟩⟩
     |m+1,hm=>simp at hm
    intro xs w4 hS hx;have h10:xs 10= .int .i64 (a:Int):=hx 10 (by decide);have h11:xs 11= .int .i64 1:=hx 11 (by decide);clear hx;obtain⟨wz,hz,rfl⟩:=hS;have HBZ:Hid (Below w.heap.size w wz):=Qd (by rw[hz];exact HB3.out.trans ((Vd w3).mono (by omega)));have HQZ:Hid (wz.heap[w.heap.size]? =some (.cells z8 28 (0,0))):=Qd (by rw[hz];exact HQ.out);unfold Ta;simp only[h10,h11];clear hz h10 h11;go_wp2_with fail
    refine bodyPost_ret (Ka (by rfl) _ _ w.heap.size 28 z8 (0,0) _ _ _ (by rfl) (by rfl) (by rfl) (setRow_heap _ _ _ _ _ _ HQZ.out) Tryz.underlying28 rfl Fc) rfl ?_;exact⟨below_setRow HBZ.out (Nat.le_refl _) _,.inr ⟨HNO.out,a,1,HA.out,by decide,rfl⟩⟩
   have hji:¬(j:Int)<(ts.length:Int):=by omega
   have DE:=Qd (An s w3 (by omega));have HCS:=Qd (Sx s);generalize Gl.ints (Gl.dec s 0).1=ch at*;go_wp2_with fail
   refine DE.out.mono ?_;rintro e w4 ⟨v,rfl,hch,hb4⟩;obtain⟨A6,c6,rfl,-⟩:=hch;have HB4:Hid (Below w.heap.size w w4):=Qd (HB3.out.trans (hb4.mono (by omega)));have HQ4:Hid (w4.heap[w.heap.size]? =some (.cells z8 28 (0,0))):=Qd ((hb4.block w.heap.size (by omega)).trans HQ.out);clear hb4;go_wp2_with (with_reducible refine Na rfl (.tmp 2) (.tmp 65) rfl w.heap.size rfl rfl HQ4.out ?_)
   refine bodyPost_ret (Ka (by rfl) _ _ w.heap.size 28 z8 (0,0) _ _ _ (by rfl) (by rfl) (by rfl) (setRow_heap _ _ _ _ _ _ HQ4.out) Tryz.underlying28 rfl Fc) rfl ?_;exact⟨below_setRow HB4.out (Nat.le_refl _) _,.inr ⟨HNO.out,ch.length,1,HCS.out,by decide,rfl⟩⟩
  |some p=>
   obtain⟨l,U⟩:=p;obtain⟨rfl,A4,c4,us,rfl,hfit,hTS,hli⟩:=hd;by_cases hj:j<ts.length
   ·have hji:(j:Int)<(ts.length:Int):=by omega
    have HNO:Hid (Bc s=none):=Qd (by
     rw[HGL.out,HLT.out];cases hU:ts.drop j with
     |nil=>
      have:(ts.drop j).length=0:=by rw[hU];rfl
      rw[List.length_drop] at this;omega
     |cons _ _=>rfl)
    clear hR3 hG3 PS HGL HLT hfit hTS hli;have hjl:j<ts.length:=hj;obtain⟨g,n1,n2,lv,hgA,hgl,hrt,-⟩:=HT.out.at_ j hjl;subst hgA;have hgq:g≠w.heap.size:=λe=>by
     have h7:=hrt 7 _ rfl;rw[e,cell_of_row _ _ _ _ _ _ HQ1.out] at h7;rcases Nat.eq_zero_or_pos j with h0 |h0
     ·subst h0;simp at h7
     rw[Array.getElem?_eq_none (by simp;omega)] at h7;cases h7
    obtain⟨a,ha⟩:∃a,a=(ts[j]'hjl).at_:=⟨_,rfl⟩;have HA:Hid (a≤s.size):=Qd (by rw[ha];exact HAT.out _ (List.getElem_mem hjl));have HCL:Hid (∀k w4,Dl (World.drew w3) w.heap.size z8 k w4→w4.cell? ⟨w1.heap.size,1,none⟩=some (.int .i64 (j:Int))∧w4.cell? ⟨g,j*8+7,none⟩=some (.int .i64 (a:Int))):=Qd (λk w4 hk=>by
     have e1:(World.drew w3).cell? ⟨w1.heap.size,1,none⟩=some (.int .i64 (j:Int)):=HR3.out.c1;have e2:(World.drew w3).cell? ⟨g,j*8+7,none⟩=some (.int .i64 (a:Int)):=(HR3.out.old.cell (p:=⟨g,j*8+7,none⟩) hgl).trans (by rw[ha];exact hrt 7 _ rfl)
     match k,hk with
     | 0,hk=>cases hk;exact⟨e1,e2⟩
     |k+1,hk=>obtain⟨wz,rfl,rfl⟩:=hk;exact⟨(cell_setRow_other _ _ _ _ (by show w1.heap.size≠_;omega)).trans e1,(cell_setRow_other _ _ _ _ (by exact hgq)).trans e2⟩)
    clear hrt ha;go_wp2_with fail
    refine Ce [9] (Ta _ _ _ _ _ _ _ _ _ _ _ _ _ _ _ _ _ _ _ _ _ _ _ _ _ _ _ _ _ _ _ _ _ _ _ _ _ _ _ _ _ _ _ _ _ _ _ _ _ _ _ _ _ _ _ _ _ _ _ _ _ _ _ _) (I0 w1.heap.size g j c ts.length a) (Dl (World.drew w3) w.heap.size z8) (by kernel_rfl) (by kernel_rfl) (by kernel_rfl) (by kernel_rfl) (by kernel_rfl) (Kg [_,_,_,_,_,_,_,_,_,undef,_,_]) rfl (rfl) ?_ ?_ ?_
    ·intro i xs w4 k hi hne hS hdep
     have hi6:i<12:=hi;clear hi;have hne2:i≠9∧True:=⟨λe=>hne (by rw[e];decide),trivial⟩;rcases(show i=0∨i=1∨i=2∨i=3∨i=4∨i=5∨i=6∨i=7∨i=8∨i=10∨i=11 by omega) with rfl |rfl |rfl |rfl |rfl |rfl |rfl |rfl |rfl |rfl |rfl
     ·refine Ba rfl rfl ?_
      unfold Ta Oper.wp;go_simp
      exact⟨_,by simp only[Ta,Ja];simp[Act.put],rfl,hS⟩
     ·refine Ba rfl rfl ?_
      unfold Ta Oper.wp;go_simp
      exact⟨_,by simp only[Ta,Ja];simp[Act.put],rfl,hS⟩
     ·refine Ba rfl rfl ?_
      unfold Ta Oper.wp;go_simp
      exact⟨_,by simp only[Ta,Ja];simp[Act.put],rfl,hS⟩
     ·have h2:xs 2= .pointer (some ⟨w1.heap.size,0,none⟩):=hdep 2 (by kernel_rfl)
      refine Ba rfl rfl ?_;unfold Ta Oper.wp;simp only[h2];go_simp
      exact⟨_,by simp only[Ta,Ja];simp[Act.put,h2],rfl,hS⟩
     ·have h3:xs 3= .pointer (some ⟨w1.heap.size,0,none⟩):=hdep 3 (by kernel_rfl)
      refine Ba rfl rfl ?_;unfold Ta Oper.wp;simp only[h3];go_simp
      exact⟨_,by simp only[Ta,Ja];simp[Act.put,h3],rfl,hS⟩
     ·have h4:xs 4= .pointer (some ⟨w1.heap.size,1,none⟩):=hdep 4 (by kernel_rfl)
      refine Ba rfl rfl ?_;have p1:=(HCL.out _ _ hS).1;unfold Ta Oper.wp;simp only[h4];go_simp
      exact⟨_,by simp only[Ta,Ja];simp[Act.put,h4],rfl,hS⟩
     ·have h1:xs 1= .slice (some ⟨g,0,none⟩) ts.length c:=hdep 1 (by kernel_rfl)
      have h5:xs 5= .int .i64 (j:Int):=hdep 5 (by kernel_rfl);refine Ba rfl rfl ?_;unfold Ta Oper.wp;simp only[h1,h5];go_simp
      exact⟨_,by simp only[Ta,Ja];simp[Act.put,h1,h5],rfl,hS⟩
     ·have h6:xs 6= .pointer (some ⟨g,j*8,none⟩):=hdep 6 (by kernel_rfl)
      refine Ba rfl rfl ?_;unfold Ta Oper.wp;simp only[h6];go_simp
      exact⟨_,by simp only[Ta,Ja];simp[Act.put,h6],rfl,hS⟩
     ·have h7:xs 7= .pointer (some ⟨g,j*8+7,none⟩):=hdep 7 (by kernel_rfl)
      refine Ba rfl rfl ?_;have p7:=(HCL.out _ _ hS).2;unfold Ta Oper.wp;simp only[h7];go_simp
      exact⟨_,by simp only[Ta,Ja];simp[Act.put,h7],rfl,hS⟩
     ·have h8:xs 8= .int .i64 (a:Int):=hdep 8 (by kernel_rfl)
      refine Ba rfl rfl ?_;unfold Ta Oper.wp;simp only[h8];go_simp
      exact⟨_,by simp only[Ta,Ja];simp[Act.put,h8],rfl,hS⟩
     refine Ba rfl rfl ?_;unfold Ta Oper.wp;go_simp
     exact⟨_,by simp only[Ta,Ja];simp[Act.put],rfl,hS⟩
    ·intro m i xs w4 hm hS hdep
     match m,hm with
     | 0,hm=>
      obtain rfl:i=9:=(Option.some.inj hm).symm;have h0:xs 0= .agg #[.int .i64 0,.int .i64 0,.string ⟨#[]⟩,.bool false,.slice none 0 0,.slice none 0 0,.slice none 0 0,.slice none 0 0]:=hdep 0 (by kernel_rfl);refine Ba rfl rfl ?_;refine wp_store_row 28 (.tmp 2) (.tmp 51) rfl w.heap.size z8 rfl (by unfold Ta;simp only[h0];rfl) 28 z8 (by cases hS;exact HQ.out) Fc rfl (by simp[Value.oneCell']) ?_;exact⟨undef,by simp only[Ta,Ja];simp[Act.put],trivial,⟨_,hS,rfl⟩⟩
     |m+1,hm=>simp at hm
    intro xs w4 hS hx;have h10:xs 10= .int .i64 (a:Int):=hx 10 (by decide);have h11:xs 11= .int .i64 1:=hx 11 (by decide);clear hx;obtain⟨wz,hz,rfl⟩:=hS;have HBZ:Hid (Below w.heap.size w wz):=Qd (by rw[hz];exact HB3.out.trans ((Vd w3).mono (by omega)));have HQZ:Hid (wz.heap[w.heap.size]? =some (.cells z8 28 (0,0))):=Qd (by rw[hz];exact HQ.out);unfold Ta;simp only[h10,h11];clear hz h10 h11;go_wp2_with fail
    refine bodyPost_ret (Ka (by rfl) _ _ w.heap.size 28 z8 (0,0) _ _ _ (by rfl) (by rfl) (by rfl) (setRow_heap _ _ _ _ _ _ HQZ.out) Tryz.underlying28 rfl Fc) rfl ?_;exact⟨below_setRow HBZ.out (Nat.le_refl _) _,.inr ⟨HNO.out,a,1,HA.out,by decide,rfl⟩⟩
   have hji:¬(j:Int)<(ts.length:Int):=by omega
   have hU:ts.drop j=[]:=List.drop_eq_nil_of_le (by omega);have HLN:Hid (Bc s=if right (Pr.node 28 0 [] l)=true then some (Pr.node 28 0 [] l) else none):=Qd (by rw[HGL.out,HLT.out,hU];rfl);have hND:TreeF w3 (In w1.heap.size W2.heap.size w3.heap.size) (Pr.node 28 0 [] l) (C8.l ⟨28,0,[],false,none,0,0,none,0,0,none,0,0,A4,l.length,c4⟩):=TreeF.node (Fb (by omega)) (by simp) hfit hTS hli;obtain⟨w4,hw4⟩:∃w4,w4=w3.alloc (.cells #[.int .i64 28,.int .i64 0,.string ⟨#[]⟩,.bool false,.slice none 0 0,.slice none 0 0,.slice none 0 0,.slice A4 l.length c4] 28):=⟨_,rfl⟩;have hb4:Below w3.heap.size w3 w4:=by rw[hw4];exact(Below.refl _ _).alloc (Nat.le_refl _) _
   have hs4:w3.heap.size+1≤w4.heap.size:=by rw[hw4];simp
   have B4:Hid (w4.heap[w3.heap.size]? =some (.cells #[.int .i64 28,.int .i64 0,.string ⟨#[]⟩,.bool false,.slice none 0 0,.slice none 0 0,.slice none 0 0,.slice A4 l.length c4] 28 (0,0))):=Qd (by rw[hw4];exact heap_alloc_new _ _);have HF4:=Qd (hND.below hb4);have HT4:Hid (IsTree w4 w4.heap.size (Pr.node 28 0 [] l) (C8.l ⟨28,0,[],false,none,0,0,none,0,0,none,0,0,A4,l.length,c4⟩)):=Qd HF4.out.tree;have hg32:=hG3.size;have hw2s:w1.heap.size≤W2.heap.size:=HR2.out.old.size;have RT:=Qd (Fx _ _ w4 _ HT4.out (Nat.le_refl _));have HB4:Hid (Below w.heap.size w w4):=Qd (HB3.out.trans (hb4.mono (by omega)));have HQ4:Hid (w4.heap[w.heap.size]? =some (.cells z8 28 (0,0))):=Qd ((hb4.block w.heap.size (by omega)).trans HQ.out);have HW4:=Qd hw4;clear hR3 hG3 PS HGL HLT hfit hTS hli hU hND hb4 hw4;obtain⟨R,hR⟩:∃R,R=right (Pr.node 28 0 [] l):=⟨_,rfl⟩;rw[←hR] at RT HLN;clear hR;go_upto_region 12 with fail
   rw[←HW4.out];go_wp2_with (with_reducible refine Qa rfl (.tmp 13) rfl w3.heap.size rfl B4.out ?_)
   refine RT.out.mono ?_;rintro e w5 ⟨rfl,hb5⟩;have HB5:Hid (Below w.heap.size w w5):=Qd (HB4.out.trans (hb5.mono (by omega)));have HQ5:Hid (w5.heap[w.heap.size]? =some (.cells z8 28 (0,0))):=Qd ((hb5.block w.heap.size (by omega)).trans HQ4.out);have B5:=Qd ((hb5.block w3.heap.size (by omega)).trans B4.out);have hs5:=hb5.size;have HF5:=Qd ((HF4.out.below hb5).rowed (q:=w.heap.size) (λb hb e=>by unfold In at hb;omega) #[.int .i64 28,.int .i64 0,.string ⟨#[]⟩,.bool false,.slice none 0 0,.slice none 0 0,.slice none 0 0,.slice A4 l.length c4]);clear hb5;cases R
   ·have HNO:Hid (Bc s=none):=Qd (by rw[HLN.out];rfl)
    go_wp2_with (with_reducible refine Na rfl (.tmp 2) (.tmp 73) rfl w.heap.size rfl rfl HQ5.out ?_)
    refine bodyPost_ret (Ka (by rfl) _ _ w.heap.size 28 z8 (0,0) _ _ _ (by rfl) (by rfl) (by rfl) (setRow_heap _ _ _ _ _ _ HQ5.out) Tryz.underlying28 rfl Fc) rfl ?_;exact⟨below_setRow HB5.out (Nat.le_refl _) _,.inr ⟨HNO.out,0,7,Nat.zero_le _,by decide,rfl⟩⟩
   have HYES:Hid (Bc s=some (Pr.node 28 0 [] l)):=Qd (by rw[HLN.out];rfl);go_wp2_with (first|(with_reducible refine Qa rfl (.tmp 13) rfl w3.heap.size rfl B5.out ?_) |(with_reducible refine Na rfl (.tmp 2) (.tmp 74) rfl w.heap.size rfl rfl HQ5.out ?_))
   refine bodyPost_ret (Ka (by rfl) _ _ w.heap.size 28 #[.int .i64 28,.int .i64 0,.string ⟨#[]⟩,.bool false,.slice none 0 0,.slice none 0 0,.slice none 0 0,.slice A4 l.length c4] (0,0) _ _ _ (by rfl) (by rfl) (by rfl) (setRow_heap _ _ _ _ _ _ HQ5.out) Tryz.underlying28 rfl Fc) rfl ?_;refine⟨below_setRow HB5.out (Nat.le_refl _) _,.inl ⟨_,⟨28,0,[],false,none,0,0,none,0,0,none,0,0,A4,l.length,c4⟩,HYES.out,rfl,HF5.out.tree⟩⟩
 have e0:((Tk.cut s).2.2 !=0)=true:=by simpa using he
 have HNO:Hid (Bc s=none):=Qd (by unfold Bc;rw[if_neg he]);have HNE:=Qd he;clear he htk hb1;generalize(Tk.cut s).2.2=er at*;generalize(Tk.cut s).2.1=to_ at*;go_wp2_with (with_reducible refine Na rfl (.tmp 2) (.tmp 22) rfl w.heap.size rfl rfl HQ1.out ?_)
 refine bodyPost_ret (Ka (by rfl) _ _ w.heap.size 28 z8 (0,0) _ _ _ (by rfl) (by rfl) (by rfl) (setRow_heap _ _ _ _ _ _ HQ1.out) Tryz.underlying28 rfl Fc) rfl ?_;exact⟨below_setRow HB1.out (Nat.le_refl _) _,.inr ⟨HNO.out,to_,er,HTO.out,HNE.out,rfl⟩⟩
end
section
open Go.RowKit Tr
set_option maxHeartbeats 80000000
theorem L0 (a:Da)(vs:List Value)(w:World)(B:Nat)(h:IsTree w B a vs)(hB:B≤w.heap.size):
 Calls Tryz.prog 56 #[.agg vs.toArray] w (Oa w (Bm (kind a) (op a) (Zb a) (Ii a) (text a) ((Be a).map kind))):=by
 have hal:=Zc h;have Kaa10:=Hd a vs [97,97] true;have Kax10:=Hd a vs [97,120] true;have Kfa00:=Hd a vs [102,97] false;have Kafa00:=Hd a vs [97,102,97] false;have Ka00:=Hd a vs [97] false;have Kp00:=Hd a vs [112] false;have Kaa00:=Hd a vs [97,97] false;have Kf00:=Hd a vs [102] false;have S10:=Jh a vs true;have S00:=Jh a vs false;have OP0:=On a vs;have LF0:=Cx a vs;have FD0:=Ih a vs;have h':=h;obtain⟨k,o,m,nm,t,l⟩:=a;show Calls _ _ _ _ (Oa w (Bm k o m nm t (l.map kind)));obtain⟨W0,hW⟩:∃W,W=w.alloc (.cells vs.toArray 28):=⟨_,rfl⟩;obtain⟨A1,A2,A3,A4,c1,c2,c3,c4,us,HO,HL,HC,hW8,HG,hWl,hWb⟩:=Tb h hW;have hf3:=HO.out.f3.le (by omega);have hf4:=HO.out.f4.le (by omega);have hms:=HO.out.ms;have hfi:Eb o m nm t≤15∧0≤Eb o m nm t:=by
  unfold Eb
  constructor<;>split<;>split<;>split<;>split<;>omega
 have HW:=Qd hW;have HIA:=Qd hal;have hkb:∀wx,Below W0.heap.size W0 wx→IsTree wx B (.mk k o m nm t l) vs∧B≤wx.heap.size:=λwx hx=>⟨h'.below ((hWb.trans (hx.mono (by omega))).mono hB),by have:=hx.size;omega⟩;have FD:=Qd (FD0 W0 B (hkb W0 (Below.refl _ _)).1 (hkb W0 (Below.refl _ _)).2);replace FD:Hid (Calls Tryz.prog 90 #[.agg vs.toArray] W0 (Gh W0 (Eb o m nm t))):=FD;have HGB:Hid (∀wx,Below W0.heap.size W0 wx→wx.heap[w.heap.size]? =some (.cells vs.toArray 28 (0,0))):=Qd (λwx hx=>(hx.block _ hWl).trans HG.out);have H8:Hid (∀wx,Below W0.heap.size W0 wx→At8 wx w.heap.size 0 k o m nm t l.length A1 A2 A3 A4 c1 c2 c3 c4):=Qd (λwx hx=>hW8.keep (λq=>hx.cell (p:=⟨w.heap.size,q,none⟩) hWl));have HWB:=Qd hWb;have HWS:Hid (w.heap.size≤W0.heap.size):=Qd (by omega);have Kaa1:Hid (∀wx,Below W0.heap.size W0 wx→Calls Tryz.prog 91 #[.agg vs.toArray,.string ⟨#[97,97]⟩,.bool true] wx (Oa wx (Ya (l.map kind) [97,97] true))):=Qd (λwx hx=>Kaa10 wx B (hkb wx hx).1 (hkb wx hx).2 (by decide) (by decide) (by decide));have Kax1:Hid (∀wx,Below W0.heap.size W0 wx→Calls Tryz.prog 91 #[.agg vs.toArray,.string ⟨#[97,120]⟩,.bool true] wx (Oa wx (Ya (l.map kind) [97,120] true))):=Qd (λwx hx=>Kax10 wx B (hkb wx hx).1 (hkb wx hx).2 (by decide) (by decide) (by decide));have Kfa0:Hid (∀wx,Below W0.heap.size W0 wx→Calls Tryz.prog 91 #[.agg vs.toArray,.string ⟨#[102,97]⟩,.bool false] wx (Oa wx (Ya (l.map kind) [102,97] false))):=Qd (λwx hx=>Kfa00 wx B (hkb wx hx).1 (hkb wx hx).2 (by decide) (by decide) (by decide));have Kafa0:Hid (∀wx,Below W0.heap.size W0 wx→Calls Tryz.prog 91 #[.agg vs.toArray,.string ⟨#[97,102,97]⟩,.bool false] wx (Oa wx (Ya (l.map kind) [97,102,97] false))):=Qd (λwx hx=>Kafa00 wx B (hkb wx hx).1 (hkb wx hx).2 (by decide) (by decide) (by decide));have Ka0:Hid (∀wx,Below W0.heap.size W0 wx→Calls Tryz.prog 91 #[.agg vs.toArray,.string ⟨#[97]⟩,.bool false] wx (Oa wx (Ya (l.map kind) [97] false))):=Qd (λwx hx=>Ka00 wx B (hkb wx hx).1 (hkb wx hx).2 (by decide) (by decide) (by decide));have Kp0:Hid (∀wx,Below W0.heap.size W0 wx→Calls Tryz.prog 91 #[.agg vs.toArray,.string ⟨#[112]⟩,.bool false] wx (Oa wx (Ya (l.map kind) [112] false))):=Qd (λwx hx=>Kp00 wx B (hkb wx hx).1 (hkb wx hx).2 (by decide) (by decide) (by decide));have Kaa0:Hid (∀wx,Below W0.heap.size W0 wx→Calls Tryz.prog 91 #[.agg vs.toArray,.string ⟨#[97,97]⟩,.bool false] wx (Oa wx (Ya (l.map kind) [97,97] false))):=Qd (λwx hx=>Kaa00 wx B (hkb wx hx).1 (hkb wx hx).2 (by decide) (by decide) (by decide));have Kf0:Hid (∀wx,Below W0.heap.size W0 wx→Calls Tryz.prog 91 #[.agg vs.toArray,.string ⟨#[102]⟩,.bool false] wx (Oa wx (Ya (l.map kind) [102] false))):=Qd (λwx hx=>Kf00 wx B (hkb wx hx).1 (hkb wx hx).2 (by decide) (by decide) (by decide));have S1:Hid (∀wx,Below W0.heap.size W0 wx→Calls Tryz.prog 94 #[.agg vs.toArray,.bool true] wx (Oa wx (Ac (l.map kind) true))):=Qd (λwx hx=>S10 wx B (hkb wx hx).1 (hkb wx hx).2);have S0:Hid (∀wx,Below W0.heap.size W0 wx→Calls Tryz.prog 94 #[.agg vs.toArray,.bool false] wx (Oa wx (Ac (l.map kind) false))):=Qd (λwx hx=>S00 wx B (hkb wx hx).1 (hkb wx hx).2);have OP:Hid (∀wx,Below W0.heap.size W0 wx→Calls Tryz.prog 95 #[.agg vs.toArray] wx (Oa wx (Gc k o (Eb o m nm t) (l.map kind)))):=Qd (λwx hx=>OP0 wx B (hkb wx hx).1 (hkb wx hx).2);have LF:Hid (∀wx,Below W0.heap.size W0 wx→Calls Tryz.prog 96 #[.agg vs.toArray] wx (Oa wx (Kf k o m nm t (l.map kind)))):=Qd (λwx hx=>LF0 wx B (hkb wx hx).1 (hkb wx hx).2);have NMf:=Qd (λwx=>Rg m false wx hms);have NMt:=Qd (λwx=>Rg m true wx hms);have PT:=Qd (λwx=>Kn o wx);generalize hf:Eb o m nm t=f at*;generalize h_kaa1:Ya (l.map kind) [97,97] true=kaa1 at*;generalize h_kax1:Ya (l.map kind) [97,120] true=kax1 at*;generalize h_kfa0:Ya (l.map kind) [102,97] false=kfa0 at*;generalize h_kafa0:Ya (l.map kind) [97,102,97] false=kafa0 at*;generalize h_ka0:Ya (l.map kind) [97] false=ka0 at*;generalize h_kp0:Ya (l.map kind) [112] false=kp0 at*;generalize h_kaa0:Ya (l.map kind) [97,97] false=kaa0 at*;generalize h_kf0:Ya (l.map kind) [102] false=kf0 at*;generalize h_s1:Ac (l.map kind) true=s1 at*;generalize h_s0:Ac (l.map kind) false=s0 at*;generalize h_lf:Kf k o m nm t (l.map kind)=lf at*;generalize h_nf:Ib m false=nf at*;generalize h_nt:Ib m true=nt at*;generalize h_pt:Bh o=pt at*;generalize h_ops:Gc k o f (l.map kind)=ops at*;obtain⟨R,hR⟩:∃R,R=Bm k o m nm t (l.map kind):=⟨_,rfl⟩;rw[←hR];have HDEF:Hid (R=(if k=8 then(f==0)&&kaa1
  else if k=9 then(f==0)&&kax1
  else if k=11 then(f==0)&&kfa0
  else if k=12 then(f==0)&&kafa0
  else if k=13 then(f==2)&&nf&&ka0
  else if k=14 then(f==2)&&nf&&kax1
  else if k=15 then(f==2)&&nf&&kfa0
  else if k=16 then((f==0)||(f==1))&&pt&&ka0
  else if k=20 then(f==0)&&s1
  else if k=22∨k=23 then ops
  else if k=24 then(f==0)&&kp0
  else if k=25∨k=26 then(f==0)&&kaa0
  else if k=27 then(f==2)&&nt&&kf0
  else if k=28 then(f==0)&&s0
  else lf)):=Qd (by rw[hR,Bm,hf,h_kaa1,h_kax1,h_kfa0,h_kafa0,h_ka0,h_kp0,h_kaa0,h_kf0,h_s1,h_s0,h_lf,h_nf,h_nt,h_pt,h_ops])
 clear hR hf h_kaa1 h_kax1 h_kfa0 h_kafa0 h_ka0 h_kp0 h_kaa0 h_kf0 h_s1 h_s0 h_lf h_nf h_nt h_pt h_ops hW hW8 HO HG hWb h h' hal FD0 hkb HC HL Kaa10 Kax10 Kfa00 Kafa00 Ka00 Kp00 Kaa00 Kf00 S10 S00 OP0 LF0;obtain⟨g,hg⟩:∃g,g=w.heap.size:=⟨_,rfl⟩;rw[←hg] at HGB H8 HWB HWS hWl;have HGG:=Qd hg;go_enter Tryz.func56,Tryz.ntmps56
 go_upto_region 1 with fail
 rw[←HW.out];rw[←hg];clear hg;go_wp2_with (with_reducible refine Ua (.tmp 1) rfl rfl g rfl (HGB.out _ (Below.refl _ _)) HIA.out ?_)
 refine FD.out.mono ?_;rintro e w2 ⟨rfl,hb2⟩;have q0:=(H8.out w2 hb2).p0;have q1:=(H8.out w2 hb2).p1;have q2:=(H8.out w2 hb2).p2;have q3:=(H8.out w2 hb2).p3;have q4:=(H8.out w2 hb2).p4;have q5:=(H8.out w2 hb2).p5;have q6:=(H8.out w2 hb2).p6;have q7:=(H8.out w2 hb2).p7;go_upto_region 2 with fail
 by_cases k8:k=8
 ·subst k8
  have HOP:Hid (R=((f==0)&&kaa1)):=Qd HDEF.out;clear HDEF;cases qf:(f==0)
  ·have HZ:Hid (R=false):=Qd (by rw[HOP.out]<;>simp[qf])
   go_wp2_with (first|(refine Va (.tmp 1) rfl rfl g rfl (HGB.out _ hb2) HIA.out ?_) |(with_reducible refine Ua (.tmp 1) rfl rfl g rfl (HGB.out _ hb2) HIA.out ?_))
   go_ret;exact⟨Aa (by rw[HZ.out]),by rw[←HGG.out];exact HWB.out.trans (hb2.mono HWS.out)⟩
  cases kaa1
  ·have HZ:Hid (R=false):=Qd (by rw[HOP.out]<;>simp[qf])
   go_wp2_with (first|(refine Va (.tmp 1) rfl rfl g rfl (HGB.out _ hb2) HIA.out ?_) |(with_reducible refine Ua (.tmp 1) rfl rfl g rfl (HGB.out _ hb2) HIA.out ?_))
   refine(Kaa1.out w2 hb2).mono ?_;rintro e w3 ⟨rfl,hb3'⟩;have hb3:=hb2.trans (hb3'.mono hb2.size);have r0:=(H8.out w3 hb3).p0;have r1:=(H8.out w3 hb3).p1;have r2:=(H8.out w3 hb3).p2;have r3:=(H8.out w3 hb3).p3;have r4:=(H8.out w3 hb3).p4;have r5:=(H8.out w3 hb3).p5;have r6:=(H8.out w3 hb3).p6;have r7:=(H8.out w3 hb3).p7;clear q0 q1 q2 q3 q4 q5 q6 q7;have q0:=r0;have q1:=r1;have q2:=r2;have q3:=r3;have q4:=r4;have q5:=r5;have q6:=r6;have q7:=r7;clear r0 r1 r2 r3 r4 r5 r6 r7;go_wp2_with (first|(refine Va (.tmp 1) rfl rfl g rfl (HGB.out _ hb3) HIA.out ?_) |(with_reducible refine Ua (.tmp 1) rfl rfl g rfl (HGB.out _ hb3) HIA.out ?_))
   go_ret;exact⟨Aa (by rw[HZ.out]),by rw[←HGG.out];exact HWB.out.trans (hb3.mono HWS.out)⟩
  have HZ:Hid (R=true):=Qd (by rw[HOP.out]<;>simp[qf]);go_wp2_with (first|(refine Va (.tmp 1) rfl rfl g rfl (HGB.out _ hb2) HIA.out ?_) |(with_reducible refine Ua (.tmp 1) rfl rfl g rfl (HGB.out _ hb2) HIA.out ?_))
  refine(Kaa1.out w2 hb2).mono ?_;rintro e w3 ⟨rfl,hb3'⟩;have hb3:=hb2.trans (hb3'.mono hb2.size);have r0:=(H8.out w3 hb3).p0;have r1:=(H8.out w3 hb3).p1;have r2:=(H8.out w3 hb3).p2;have r3:=(H8.out w3 hb3).p3;have r4:=(H8.out w3 hb3).p4;have r5:=(H8.out w3 hb3).p5;have r6:=(H8.out w3 hb3).p6;have r7:=(H8.out w3 hb3).p7;clear q0 q1 q2 q3 q4 q5 q6 q7;have q0:=r0;have q1:=r1;have q2:=r2;have q3:=r3;have q4:=r4;have q5:=r5;have q6:=r6;have q7:=r7;clear r0 r1 r2 r3 r4 r5 r6 r7;go_wp2_with (first|(refine Va (.tmp 1) rfl rfl g rfl (HGB.out _ hb3) HIA.out ?_) |(with_reducible refine Ua (.tmp 1) rfl rfl g rfl (HGB.out _ hb3) HIA.out ?_))
  go_ret;exact⟨Aa (by rw[HZ.out]),by rw[←HGG.out];exact HWB.out.trans (hb3.mono HWS.out)⟩
 by_cases k9:k=9
 ·subst k9
  have HOP:Hid (R=((f==0)&&kax1)):=Qd HDEF.out;clear HDEF;cases qf:(f==0)
  ·have HZ:Hid (R=false):=Qd (by rw[HOP.out]<;>simp[qf])
   go_wp2_with (first|(refine Va (.tmp 1) rfl rfl g rfl (HGB.out _ hb2) HIA.out ?_) |(with_reducible refine Ua (.tmp 1) rfl rfl g rfl (HGB.out _ hb2) HIA.out ?_))
   go_ret;exact⟨Aa (by rw[HZ.out]),by rw[←HGG.out];exact HWB.out.trans (hb2.mono HWS.out)⟩
  cases kax1
  ·have HZ:Hid (R=false):=Qd (by rw[HOP.out]<;>simp[qf])
   go_wp2_with (first|(refine Va (.tmp 1) rfl rfl g rfl (HGB.out _ hb2) HIA.out ?_) |(with_reducible refine Ua (.tmp 1) rfl rfl g rfl (HGB.out _ hb2) HIA.out ?_))
   refine(Kax1.out w2 hb2).mono ?_;rintro e w3 ⟨rfl,hb3'⟩;have hb3:=hb2.trans (hb3'.mono hb2.size);have r0:=(H8.out w3 hb3).p0;have r1:=(H8.out w3 hb3).p1;have r2:=(H8.out w3 hb3).p2;have r3:=(H8.out w3 hb3).p3;have r4:=(H8.out w3 hb3).p4;have r5:=(H8.out w3 hb3).p5;have r6:=(H8.out w3 hb3).p6;have r7:=(H8.out w3 hb3).p7;clear q0 q1 q2 q3 q4 q5 q6 q7;have q0:=r0;have q1:=r1;have q2:=r2;have q3:=r3;have q4:=r4;have q5:=r5;have q6:=r6;have q7:=r7;clear r0 r1 r2 r3 r4 r5 r6 r7;go_wp2_with (first|(refine Va (.tmp 1) rfl rfl g rfl (HGB.out _ hb3) HIA.out ?_) |(with_reducible refine Ua (.tmp 1) rfl rfl g rfl (HGB.out _ hb3) HIA.out ?_))
   go_ret;exact⟨Aa (by rw[HZ.out]),by rw[←HGG.out];exact HWB.out.trans (hb3.mono HWS.out)⟩
  have HZ:Hid (R=true):=Qd (by rw[HOP.out]<;>simp[qf]);go_wp2_with (first|(refine Va (.tmp 1) rfl rfl g rfl (HGB.out _ hb2) HIA.out ?_) |(with_reducible refine Ua (.tmp 1) rfl rfl g rfl (HGB.out _ hb2) HIA.out ?_))
  refine(Kax1.out w2 hb2).mono ?_;rintro e w3 ⟨rfl,hb3'⟩;have hb3:=hb2.trans (hb3'.mono hb2.size);have r0:=(H8.out w3 hb3).p0;have r1:=(H8.out w3 hb3).p1;have r2:=(H8.out w3 hb3).p2;have r3:=(H8.out w3 hb3).p3;have r4:=(H8.out w3 hb3).p4;have r5:=(H8.out w3 hb3).p5;have r6:=(H8.out w3 hb3).p6;have r7:=(H8.out w3 hb3).p7;clear q0 q1 q2 q3 q4 q5 q6 q7;have q0:=r0;have q1:=r1;have q2:=r2;have q3:=r3;have q4:=r4;have q5:=r5;have q6:=r6;have q7:=r7;clear r0 r1 r2 r3 r4 r5 r6 r7;go_wp2_with (first|(refine Va (.tmp 1) rfl rfl g rfl (HGB.out _ hb3) HIA.out ?_) |(with_reducible refine Ua (.tmp 1) rfl rfl g rfl (HGB.out _ hb3) HIA.out ?_))
  go_ret;exact⟨Aa (by rw[HZ.out]),by rw[←HGG.out];exact HWB.out.trans (hb3.mono HWS.out)⟩
 by_cases k11:k=11
 ·subst k11
  have HOP:Hid (R=((f==0)&&kfa0)):=Qd HDEF.out;clear HDEF;cases qf:(f==0)
  ·have HZ:Hid (R=false):=Qd (by rw[HOP.out]<;>simp[qf])
   go_wp2_with (first|(refine Va (.tmp 1) rfl rfl g rfl (HGB.out _ hb2) HIA.out ?_) |(with_reducible refine Ua (.tmp 1) rfl rfl g rfl (HGB.out _ hb2) HIA.out ?_))
   go_ret;exact⟨Aa (by rw[HZ.out]),by rw[←HGG.out];exact HWB.out.trans (hb2.mono HWS.out)⟩
  cases kfa0
  ·have HZ:Hid (R=false):=Qd (by rw[HOP.out]<;>simp[qf])
   go_wp2_with (first|(refine Va (.tmp 1) rfl rfl g rfl (HGB.out _ hb2) HIA.out ?_) |(with_reducible refine Ua (.tmp 1) rfl rfl g rfl (HGB.out _ hb2) HIA.out ?_))
   refine(Kfa0.out w2 hb2).mono ?_;rintro e w3 ⟨rfl,hb3'⟩;have hb3:=hb2.trans (hb3'.mono hb2.size);have r0:=(H8.out w3 hb3).p0;have r1:=(H8.out w3 hb3).p1;have r2:=(H8.out w3 hb3).p2;have r3:=(H8.out w3 hb3).p3;have r4:=(H8.out w3 hb3).p4;have r5:=(H8.out w3 hb3).p5;have r6:=(H8.out w3 hb3).p6;have r7:=(H8.out w3 hb3).p7;clear q0 q1 q2 q3 q4 q5 q6 q7;have q0:=r0;have q1:=r1;have q2:=r2;have q3:=r3;have q4:=r4;have q5:=r5;have q6:=r6;have q7:=r7;clear r0 r1 r2 r3 r4 r5 r6 r7;go_wp2_with (first|(refine Va (.tmp 1) rfl rfl g rfl (HGB.out _ hb3) HIA.out ?_) |(with_reducible refine Ua (.tmp 1) rfl rfl g rfl (HGB.out _ hb3) HIA.out ?_))
   go_ret;exact⟨Aa (by rw[HZ.out]),by rw[←HGG.out];exact HWB.out.trans (hb3.mono HWS.out)⟩
  have HZ:Hid (R=true):=Qd (by rw[HOP.out]<;>simp[qf]);go_wp2_with (first|(refine Va (.tmp 1) rfl rfl g rfl (HGB.out _ hb2) HIA.out ?_) |(with_reducible refine Ua (.tmp 1) rfl rfl g rfl (HGB.out _ hb2) HIA.out ?_))
  refine(Kfa0.out w2 hb2).mono ?_;rintro e w3 ⟨rfl,hb3'⟩;have hb3:=hb2.trans (hb3'.mono hb2.size);have r0:=(H8.out w3 hb3).p0;have r1:=(H8.out w3 hb3).p1;have r2:=(H8.out w3 hb3).p2;have r3:=(H8.out w3 hb3).p3;have r4:=(H8.out w3 hb3).p4;have r5:=(H8.out w3 hb3).p5;have r6:=(H8.out w3 hb3).p6;have r7:=(H8.out w3 hb3).p7;clear q0 q1 q2 q3 q4 q5 q6 q7;have q0:=r0;have q1:=r1;have q2:=r2;have q3:=r3;have q4:=r4;have q5:=r5;have q6:=r6;have q7:=r7;clear r0 r1 r2 r3 r4 r5 r6 r7;go_wp2_with (first|(refine Va (.tmp 1) rfl rfl g rfl (HGB.out _ hb3) HIA.out ?_) |(with_reducible refine Ua (.tmp 1) rfl rfl g rfl (HGB.out _ hb3) HIA.out ?_))
  go_ret;exact⟨Aa (by rw[HZ.out]),by rw[←HGG.out];exact HWB.out.trans (hb3.mono HWS.out)⟩
 by_cases k12:k=12
 ·subst k12
  have HOP:Hid (R=((f==0)&&kafa0)):=Qd HDEF.out;clear HDEF;cases qf:(f==0)
  ·have HZ:Hid (R=false):=Qd (by rw[HOP.out]<;>simp[qf])
   go_wp2_with (first|(refine Va (.tmp 1) rfl rfl g rfl (HGB.out _ hb2) HIA.out ?_) |(with_reducible refine Ua (.tmp 1) rfl rfl g rfl (HGB.out _ hb2) HIA.out ?_))
   go_ret;exact⟨Aa (by rw[HZ.out]),by rw[←HGG.out];exact HWB.out.trans (hb2.mono HWS.out)⟩
  cases kafa0
  ·have HZ:Hid (R=false):=Qd (by rw[HOP.out]<;>simp[qf])
   go_wp2_with (first|(refine Va (.tmp 1) rfl rfl g rfl (HGB.out _ hb2) HIA.out ?_) |(with_reducible refine Ua (.tmp 1) rfl rfl g rfl (HGB.out _ hb2) HIA.out ?_))
   refine(Kafa0.out w2 hb2).mono ?_;rintro e w3 ⟨rfl,hb3'⟩;have hb3:=hb2.trans (hb3'.mono hb2.size);have r0:=(H8.out w3 hb3).p0;have r1:=(H8.out w3 hb3).p1;have r2:=(H8.out w3 hb3).p2;have r3:=(H8.out w3 hb3).p3;have r4:=(H8.out w3 hb3).p4;have r5:=(H8.out w3 hb3).p5;have r6:=(H8.out w3 hb3).p6;have r7:=(H8.out w3 hb3).p7;clear q0 q1 q2 q3 q4 q5 q6 q7;have q0:=r0;have q1:=r1;have q2:=r2;have q3:=r3;have q4:=r4;have q5:=r5;have q6:=r6;have q7:=r7;clear r0 r1 r2 r3 r4 r5 r6 r7;go_wp2_with (first|(refine Va (.tmp 1) rfl rfl g rfl (HGB.out _ hb3) HIA.out ?_) |(with_reducible refine Ua (.tmp 1) rfl rfl g rfl (HGB.out _ hb3) HIA.out ?_))
   go_ret;exact⟨Aa (by rw[HZ.out]),by rw[←HGG.out];exact HWB.out.trans (hb3.mono HWS.out)⟩
  have HZ:Hid (R=true):=Qd (by rw[HOP.out]<;>simp[qf]);go_wp2_with (first|(refine Va (.tmp 1) rfl rfl g rfl (HGB.out _ hb2) HIA.out ?_) |(with_reducible refine Ua (.tmp 1) rfl rfl g rfl (HGB.out _ hb2) HIA.out ?_))
  refine(Kafa0.out w2 hb2).mono ?_;rintro e w3 ⟨rfl,hb3'⟩;have hb3:=hb2.trans (hb3'.mono hb2.size);have r0:=(H8.out w3 hb3).p0;have r1:=(H8.out w3 hb3).p1;have r2:=(H8.out w3 hb3).p2;have r3:=(H8.out w3 hb3).p3;have r4:=(H8.out w3 hb3).p4;have r5:=(H8.out w3 hb3).p5;have r6:=(H8.out w3 hb3).p6;have r7:=(H8.out w3 hb3).p7;clear q0 q1 q2 q3 q4 q5 q6 q7;have q0:=r0;have q1:=r1;have q2:=r2;have q3:=r3;have q4:=r4;have q5:=r5;have q6:=r6;have q7:=r7;clear r0 r1 r2 r3 r4 r5 r6 r7;go_wp2_with (first|(refine Va (.tmp 1) rfl rfl g rfl (HGB.out _ hb3) HIA.out ?_) |(with_reducible refine Ua (.tmp 1) rfl rfl g rfl (HGB.out _ hb3) HIA.out ?_))
  go_ret;exact⟨Aa (by rw[HZ.out]),by rw[←HGG.out];exact HWB.out.trans (hb3.mono HWS.out)⟩
 by_cases k13:k=13
 ·subst k13
  have HOP:Hid (R=((f==2)&&nf&&ka0)):=Qd HDEF.out;clear HDEF;cases qf:(f==2)
  ·have HZ:Hid (R=false):=Qd (by rw[HOP.out]<;>simp[qf])
   go_wp2_with (first|(refine Va (.tmp 1) rfl rfl g rfl (HGB.out _ hb2) HIA.out ?_) |(with_reducible refine Ua (.tmp 1) rfl rfl g rfl (HGB.out _ hb2) HIA.out ?_))
   go_ret;exact⟨Aa (by rw[HZ.out]),by rw[←HGG.out];exact HWB.out.trans (hb2.mono HWS.out)⟩
  cases nf
  ·have HZ:Hid (R=false):=Qd (by rw[HOP.out]<;>simp[qf])
   go_wp2_with (first|(refine Va (.tmp 1) rfl rfl g rfl (HGB.out _ hb2) HIA.out ?_) |(with_reducible refine Ua (.tmp 1) rfl rfl g rfl (HGB.out _ hb2) HIA.out ?_))
   refine(NMf.out w2).mono ?_;rintro e w3 ⟨rfl,hb3'⟩;have hb3:=hb2.trans (hb3'.mono hb2.size);have r0:=(H8.out w3 hb3).p0;have r1:=(H8.out w3 hb3).p1;have r2:=(H8.out w3 hb3).p2;have r3:=(H8.out w3 hb3).p3;have r4:=(H8.out w3 hb3).p4;have r5:=(H8.out w3 hb3).p5;have r6:=(H8.out w3 hb3).p6;have r7:=(H8.out w3 hb3).p7;clear q0 q1 q2 q3 q4 q5 q6 q7;have q0:=r0;have q1:=r1;have q2:=r2;have q3:=r3;have q4:=r4;have q5:=r5;have q6:=r6;have q7:=r7;clear r0 r1 r2 r3 r4 r5 r6 r7;go_wp2_with (first|(refine Va (.tmp 1) rfl rfl g rfl (HGB.out _ hb3) HIA.out ?_) |(with_reducible refine Ua (.tmp 1) rfl rfl g rfl (HGB.out _ hb3) HIA.out ?_))
   go_ret;exact⟨Aa (by rw[HZ.out]),by rw[←HGG.out];exact HWB.out.trans (hb3.mono HWS.out)⟩
  cases ka0
  ·have HZ:Hid (R=false):=Qd (by rw[HOP.out]<;>simp[qf])
   go_wp2_with (first|(refine Va (.tmp 1) rfl rfl g rfl (HGB.out _ hb2) HIA.out ?_) |(with_reducible refine Ua (.tmp 1) rfl rfl g rfl (HGB.out _ hb2) HIA.out ?_))
   refine(NMf.out w2).mono ?_;rintro e w3 ⟨rfl,hb3'⟩;have hb3:=hb2.trans (hb3'.mono hb2.size);have r0:=(H8.out w3 hb3).p0;have r1:=(H8.out w3 hb3).p1;have r2:=(H8.out w3 hb3).p2;have r3:=(H8.out w3 hb3).p3;have r4:=(H8.out w3 hb3).p4;have r5:=(H8.out w3 hb3).p5;have r6:=(H8.out w3 hb3).p6;have r7:=(H8.out w3 hb3).p7;clear q0 q1 q2 q3 q4 q5 q6 q7;have q0:=r0;have q1:=r1;have q2:=r2;have q3:=r3;have q4:=r4;have q5:=r5;have q6:=r6;have q7:=r7;clear r0 r1 r2 r3 r4 r5 r6 r7;go_wp2_with (first|(refine Va (.tmp 1) rfl rfl g rfl (HGB.out _ hb3) HIA.out ?_) |(with_reducible refine Ua (.tmp 1) rfl rfl g rfl (HGB.out _ hb3) HIA.out ?_))
   refine(Ka0.out w3 hb3).mono ?_;rintro e w4 ⟨rfl,hb4'⟩;have hb4:=hb3.trans (hb4'.mono hb3.size);have r0:=(H8.out w4 hb4).p0;have r1:=(H8.out w4 hb4).p1;have r2:=(H8.out w4 hb4).p2;have r3:=(H8.out w4 hb4).p3;have r4:=(H8.out w4 hb4).p4;have r5:=(H8.out w4 hb4).p5;have r6:=(H8.out w4 hb4).p6;have r7:=(H8.out w4 hb4).p7;clear q0 q1 q2 q3 q4 q5 q6 q7;have q0:=r0;have q1:=r1;have q2:=r2;have q3:=r3;have q4:=r4;have q5:=r5;have q6:=r6;have q7:=r7;clear r0 r1 r2 r3 r4 r5 r6 r7;go_wp2_with (first|(refine Va (.tmp 1) rfl rfl g rfl (HGB.out _ hb4) HIA.out ?_) |(with_reducible refine Ua (.tmp 1) rfl rfl g rfl (HGB.out _ hb4) HIA.out ?_))
   go_ret;exact⟨Aa (by rw[HZ.out]),by rw[←HGG.out];exact HWB.out.trans (hb4.mono HWS.out)⟩
  have HZ:Hid (R=true):=Qd (by rw[HOP.out]<;>simp[qf]);go_wp2_with (first|(refine Va (.tmp 1) rfl rfl g rfl (HGB.out _ hb2) HIA.out ?_) |(with_reducible refine Ua (.tmp 1) rfl rfl g rfl (HGB.out _ hb2) HIA.out ?_))
  refine(NMf.out w2).mono ?_;rintro e w3 ⟨rfl,hb3'⟩;have hb3:=hb2.trans (hb3'.mono hb2.size);have r0:=(H8.out w3 hb3).p0;have r1:=(H8.out w3 hb3).p1;have r2:=(H8.out w3 hb3).p2;have r3:=(H8.out w3 hb3).p3;have r4:=(H8.out w3 hb3).p4;have r5:=(H8.out w3 hb3).p5;have r6:=(H8.out w3 hb3).p6;have r7:=(H8.out w3 hb3).p7;clear q0 q1 q2 q3 q4 q5 q6 q7;have q0:=r0;have q1:=r1;have q2:=r2;have q3:=r3;have q4:=r4;have q5:=r5;have q6:=r6;have q7:=r7;clear r0 r1 r2 r3 r4 r5 r6 r7;go_wp2_with (first|(refine Va (.tmp 1) rfl rfl g rfl (HGB.out _ hb3) HIA.out ?_) |(with_reducible refine Ua (.tmp 1) rfl rfl g rfl (HGB.out _ hb3) HIA.out ?_))
  refine(Ka0.out w3 hb3).mono ?_;rintro e w4 ⟨rfl,hb4'⟩;have hb4:=hb3.trans (hb4'.mono hb3.size);have r0:=(H8.out w4 hb4).p0;have r1:=(H8.out w4 hb4).p1;have r2:=(H8.out w4 hb4).p2;have r3:=(H8.out w4 hb4).p3;have r4:=(H8.out w4 hb4).p4;have r5:=(H8.out w4 hb4).p5;have r6:=(H8.out w4 hb4).p6;have r7:=(H8.out w4 hb4).p7;clear q0 q1 q2 q3 q4 q5 q6 q7;have q0:=r0;have q1:=r1;have q2:=r2;have q3:=r3;have q4:=r4;have q5:=r5;have q6:=r6;have q7:=r7;clear r0 r1 r2 r3 r4 r5 r6 r7;go_wp2_with (first|(refine Va (.tmp 1) rfl rfl g rfl (HGB.out _ hb4) HIA.out ?_) |(with_reducible refine Ua (.tmp 1) rfl rfl g rfl (HGB.out _ hb4) HIA.out ?_))
  go_ret;exact⟨Aa (by rw[HZ.out]),by rw[←HGG.out];exact HWB.out.trans (hb4.mono HWS.out)⟩
 by_cases k14:k=14
 ·subst k14
  have HOP:Hid (R=((f==2)&&nf&&kax1)):=Qd HDEF.out;clear HDEF;cases qf:(f==2)
  ·have HZ:Hid (R=false):=Qd (by rw[HOP.out]<;>simp[qf])
   go_wp2_with (first|(refine Va (.tmp 1) rfl rfl g rfl (HGB.out _ hb2) HIA.out ?_) |(with_reducible refine Ua (.tmp 1) rfl rfl g rfl (HGB.out _ hb2) HIA.out ?_))
   go_ret;exact⟨Aa (by rw[HZ.out]),by rw[←HGG.out];exact HWB.out.trans (hb2.mono HWS.out)⟩
  cases nf
  ·have HZ:Hid (R=false):=Qd (by rw[HOP.out]<;>simp[qf])
   go_wp2_with (first|(refine Va (.tmp 1) rfl rfl g rfl (HGB.out _ hb2) HIA.out ?_) |(with_reducible refine Ua (.tmp 1) rfl rfl g rfl (HGB.out _ hb2) HIA.out ?_))
   refine(NMf.out w2).mono ?_;rintro e w3 ⟨rfl,hb3'⟩;have hb3:=hb2.trans (hb3'.mono hb2.size);have r0:=(H8.out w3 hb3).p0;have r1:=(H8.out w3 hb3).p1;have r2:=(H8.out w3 hb3).p2;have r3:=(H8.out w3 hb3).p3;have r4:=(H8.out w3 hb3).p4;have r5:=(H8.out w3 hb3).p5;have r6:=(H8.out w3 hb3).p6;have r7:=(H8.out w3 hb3).p7;clear q0 q1 q2 q3 q4 q5 q6 q7;have q0:=r0;have q1:=r1;have q2:=r2;have q3:=r3;have q4:=r4;have q5:=r5;have q6:=r6;have q7:=r7;clear r0 r1 r2 r3 r4 r5 r6 r7;go_wp2_with (first|(refine Va (.tmp 1) rfl rfl g rfl (HGB.out _ hb3) HIA.out ?_) |(with_reducible refine Ua (.tmp 1) rfl rfl g rfl (HGB.out _ hb3) HIA.out ?_))
   go_ret;exact⟨Aa (by rw[HZ.out]),by rw[←HGG.out];exact HWB.out.trans (hb3.mono HWS.out)⟩
  cases kax1
  ·have HZ:Hid (R=false):=Qd (by rw[HOP.out]<;>simp[qf])
   go_wp2_with (first|(refine Va (.tmp 1) rfl rfl g rfl (HGB.out _ hb2) HIA.out ?_) |(with_reducible refine Ua (.tmp 1) rfl rfl g rfl (HGB.out _ hb2) HIA.out ?_))
   refine(NMf.out w2).mono ?_;rintro e w3 ⟨rfl,hb3'⟩;have hb3:=hb2.trans (hb3'.mono hb2.size);have r0:=(H8.out w3 hb3).p0;have r1:=(H8.out w3 hb3).p1;have r2:=(H8.out w3 hb3).p2;have r3:=(H8.out w3 hb3).p3;have r4:=(H8.out w3 hb3).p4;have r5:=(H8.out w3 hb3).p5;have r6:=(H8.out w3 hb3).p6;have r7:=(H8.out w3 hb3).p7;clear q0 q1 q2 q3 q4 q5 q6 q7;have q0:=r0;have q1:=r1;have q2:=r2;have q3:=r3;have q4:=r4;have q5:=r5;have q6:=r6;have q7:=r7;clear r0 r1 r2 r3 r4 r5 r6 r7;go_wp2_with (first|(refine Va (.tmp 1) rfl rfl g rfl (HGB.out _ hb3) HIA.out ?_) |(with_reducible refine Ua (.tmp 1) rfl rfl g rfl (HGB.out _ hb3) HIA.out ?_))
   refine(Kax1.out w3 hb3).mono ?_;rintro e w4 ⟨rfl,hb4'⟩;have hb4:=hb3.trans (hb4'.mono hb3.size);have r0:=(H8.out w4 hb4).p0;have r1:=(H8.out w4 hb4).p1;have r2:=(H8.out w4 hb4).p2;have r3:=(H8.out w4 hb4).p3;have r4:=(H8.out w4 hb4).p4;have r5:=(H8.out w4 hb4).p5;have r6:=(H8.out w4 hb4).p6;have r7:=(H8.out w4 hb4).p7;clear q0 q1 q2 q3 q4 q5 q6 q7;have q0:=r0;have q1:=r1;have q2:=r2;have q3:=r3;have q4:=r4;have q5:=r5;have q6:=r6;have q7:=r7;clear r0 r1 r2 r3 r4 r5 r6 r7;go_wp2_with (first|(refine Va (.tmp 1) rfl rfl g rfl (HGB.out _ hb4) HIA.out ?_) |(with_reducible refine Ua (.tmp 1) rfl rfl g rfl (HGB.out _ hb4) HIA.out ?_))
   go_ret;exact⟨Aa (by rw[HZ.out]),by rw[←HGG.out];exact HWB.out.trans (hb4.mono HWS.out)⟩
  have HZ:Hid (R=true):=Qd (by rw[HOP.out]<;>simp[qf]);go_wp2_with (first|(refine Va (.tmp 1) rfl rfl g rfl (HGB.out _ hb2) HIA.out ?_) |(with_reducible refine Ua (.tmp 1) rfl rfl g rfl (HGB.out _ hb2) HIA.out ?_))
  refine(NMf.out w2).mono ?_;rintro e w3 ⟨rfl,hb3'⟩;have hb3:=hb2.trans (hb3'.mono hb2.size);have r0:=(H8.out w3 hb3).p0;have r1:=(H8.out w3 hb3).p1;have r2:=(H8.out w3 hb3).p2;have r3:=(H8.out w3 hb3).p3;have r4:=(H8.out w3 hb3).p4;have r5:=(H8.out w3 hb3).p5;have r6:=(H8.out w3 hb3).p6;have r7:=(H8.out w3 hb3).p7;clear q0 q1 q2 q3 q4 q5 q6 q7;have q0:=r0;have q1:=r1;have q2:=r2;have q3:=r3;have q4:=r4;have q5:=r5;have q6:=r6;have q7:=r7;clear r0 r1 r2 r3 r4 r5 r6 r7;go_wp2_with (first|(refine Va (.tmp 1) rfl rfl g rfl (HGB.out _ hb3) HIA.out ?_) |(with_reducible refine Ua (.tmp 1) rfl rfl g rfl (HGB.out _ hb3) HIA.out ?_))
  refine(Kax1.out w3 hb3).mono ?_;rintro e w4 ⟨rfl,hb4'⟩;have hb4:=hb3.trans (hb4'.mono hb3.size);have r0:=(H8.out w4 hb4).p0;have r1:=(H8.out w4 hb4).p1;have r2:=(H8.out w4 hb4).p2;have r3:=(H8.out w4 hb4).p3;have r4:=(H8.out w4 hb4).p4;have r5:=(H8.out w4 hb4).p5;have r6:=(H8.out w4 hb4).p6;have r7:=(H8.out w4 hb4).p7;clear q0 q1 q2 q3 q4 q5 q6 q7;have q0:=r0;have q1:=r1;have q2:=r2;have q3:=r3;have q4:=r4;have q5:=r5;have q6:=r6;have q7:=r7;clear r0 r1 r2 r3 r4 r5 r6 r7;go_wp2_with (first|(refine Va (.tmp 1) rfl rfl g rfl (HGB.out _ hb4) HIA.out ?_) |(with_reducible refine Ua (.tmp 1) rfl rfl g rfl (HGB.out _ hb4) HIA.out ?_))
  go_ret;exact⟨Aa (by rw[HZ.out]),by rw[←HGG.out];exact HWB.out.trans (hb4.mono HWS.out)⟩
 by_cases k15:k=15
 ·subst k15
  have HOP:Hid (R=((f==2)&&nf&&kfa0)):=Qd HDEF.out;clear HDEF;cases qf:(f==2)
  ·have HZ:Hid (R=false):=Qd (by rw[HOP.out]<;>simp[qf])
   go_wp2_with (first|(refine Va (.tmp 1) rfl rfl g rfl (HGB.out _ hb2) HIA.out ?_) |(with_reducible refine Ua (.tmp 1) rfl rfl g rfl (HGB.out _ hb2) HIA.out ?_))
   go_ret;exact⟨Aa (by rw[HZ.out]),by rw[←HGG.out];exact HWB.out.trans (hb2.mono HWS.out)⟩
  cases nf
  ·have HZ:Hid (R=false):=Qd (by rw[HOP.out]<;>simp[qf])
   go_wp2_with (first|(refine Va (.tmp 1) rfl rfl g rfl (HGB.out _ hb2) HIA.out ?_) |(with_reducible refine Ua (.tmp 1) rfl rfl g rfl (HGB.out _ hb2) HIA.out ?_))
   refine(NMf.out w2).mono ?_;rintro e w3 ⟨rfl,hb3'⟩;have hb3:=hb2.trans (hb3'.mono hb2.size);have r0:=(H8.out w3 hb3).p0;have r1:=(H8.out w3 hb3).p1;have r2:=(H8.out w3 hb3).p2;have r3:=(H8.out w3 hb3).p3;have r4:=(H8.out w3 hb3).p4;have r5:=(H8.out w3 hb3).p5;have r6:=(H8.out w3 hb3).p6;have r7:=(H8.out w3 hb3).p7;clear q0 q1 q2 q3 q4 q5 q6 q7;have q0:=r0;have q1:=r1;have q2:=r2;have q3:=r3;have q4:=r4;have q5:=r5;have q6:=r6;have q7:=r7;clear r0 r1 r2 r3 r4 r5 r6 r7;go_wp2_with (first|(refine Va (.tmp 1) rfl rfl g rfl (HGB.out _ hb3) HIA.out ?_) |(with_reducible refine Ua (.tmp 1) rfl rfl g rfl (HGB.out _ hb3) HIA.out ?_))
   go_ret;exact⟨Aa (by rw[HZ.out]),by rw[←HGG.out];exact HWB.out.trans (hb3.mono HWS.out)⟩
  cases kfa0
  ·have HZ:Hid (R=false):=Qd (by rw[HOP.out]<;>simp[qf])
   go_wp2_with (first|(refine Va (.tmp 1) rfl rfl g rfl (HGB.out _ hb2) HIA.out ?_) |(with_reducible refine Ua (.tmp 1) rfl rfl g rfl (HGB.out _ hb2) HIA.out ?_))
   refine(NMf.out w2).mono ?_;rintro e w3 ⟨rfl,hb3'⟩;have hb3:=hb2.trans (hb3'.mono hb2.size);have r0:=(H8.out w3 hb3).p0;have r1:=(H8.out w3 hb3).p1;have r2:=(H8.out w3 hb3).p2;have r3:=(H8.out w3 hb3).p3;have r4:=(H8.out w3 hb3).p4;have r5:=(H8.out w3 hb3).p5;have r6:=(H8.out w3 hb3).p6;have r7:=(H8.out w3 hb3).p7;clear q0 q1 q2 q3 q4 q5 q6 q7;have q0:=r0;have q1:=r1;have q2:=r2;have q3:=r3;have q4:=r4;have q5:=r5;have q6:=r6;have q7:=r7;clear r0 r1 r2 r3 r4 r5 r6 r7;go_wp2_with (first|(refine Va (.tmp 1) rfl rfl g rfl (HGB.out _ hb3) HIA.out ?_) |(with_reducible refine Ua (.tmp 1) rfl rfl g rfl (HGB.out _ hb3) HIA.out ?_))
   refine(Kfa0.out w3 hb3).mono ?_;rintro e w4 ⟨rfl,hb4'⟩;have hb4:=hb3.trans (hb4'.mono hb3.size);have r0:=(H8.out w4 hb4).p0;have r1:=(H8.out w4 hb4).p1;have r2:=(H8.out w4 hb4).p2;have r3:=(H8.out w4 hb4).p3;have r4:=(H8.out w4 hb4).p4;have r5:=(H8.out w4 hb4).p5;have r6:=(H8.out w4 hb4).p6;have r7:=(H8.out w4 hb4).p7;clear q0 q1 q2 q3 q4 q5 q6 q7;have q0:=r0;have q1:=r1;have q2:=r2;have q3:=r3;have q4:=r4;have q5:=r5;have q6:=r6;have q7:=r7;clear r0 r1 r2 r3 r4 r5 r6 r7;go_wp2_with (first|(refine Va (.tmp 1) rfl rfl g rfl (HGB.out _ hb4) HIA.out ?_) |(with_reducible refine Ua (.tmp 1) rfl rfl g rfl (HGB.out _ hb4) HIA.out ?_))
   go_ret;exact⟨Aa (by rw[HZ.out]),by rw[←HGG.out];exact HWB.out.trans (hb4.mono HWS.out)⟩
  have HZ:Hid (R=true):=Qd (by rw[HOP.out]<;>simp[qf]);go_wp2_with (first|(refine Va (.tmp 1) rfl rfl g rfl (HGB.out _ hb2) HIA.out ?_) |(with_reducible refine Ua (.tmp 1) rfl rfl g rfl (HGB.out _ hb2) HIA.out ?_))
  refine(NMf.out w2).mono ?_;rintro e w3 ⟨rfl,hb3'⟩;have hb3:=hb2.trans (hb3'.mono hb2.size);have r0:=(H8.out w3 hb3).p0;have r1:=(H8.out w3 hb3).p1;have r2:=(H8.out w3 hb3).p2;have r3:=(H8.out w3 hb3).p3;have r4:=(H8.out w3 hb3).p4;have r5:=(H8.out w3 hb3).p5;have r6:=(H8.out w3 hb3).p6;have r7:=(H8.out w3 hb3).p7;clear q0 q1 q2 q3 q4 q5 q6 q7;have q0:=r0;have q1:=r1;have q2:=r2;have q3:=r3;have q4:=r4;have q5:=r5;have q6:=r6;have q7:=r7;clear r0 r1 r2 r3 r4 r5 r6 r7;go_wp2_with (first|(refine Va (.tmp 1) rfl rfl g rfl (HGB.out _ hb3) HIA.out ?_) |(with_reducible refine Ua (.tmp 1) rfl rfl g rfl (HGB.out _ hb3) HIA.out ?_))
  refine(Kfa0.out w3 hb3).mono ?_;rintro e w4 ⟨rfl,hb4'⟩;have hb4:=hb3.trans (hb4'.mono hb3.size);have r0:=(H8.out w4 hb4).p0;have r1:=(H8.out w4 hb4).p1;have r2:=(H8.out w4 hb4).p2;have r3:=(H8.out w4 hb4).p3;have r4:=(H8.out w4 hb4).p4;have r5:=(H8.out w4 hb4).p5;have r6:=(H8.out w4 hb4).p6;have r7:=(H8.out w4 hb4).p7;clear q0 q1 q2 q3 q4 q5 q6 q7;have q0:=r0;have q1:=r1;have q2:=r2;have q3:=r3;have q4:=r4;have q5:=r5;have q6:=r6;have q7:=r7;clear r0 r1 r2 r3 r4 r5 r6 r7;go_wp2_with (first|(refine Va (.tmp 1) rfl rfl g rfl (HGB.out _ hb4) HIA.out ?_) |(with_reducible refine Ua (.tmp 1) rfl rfl g rfl (HGB.out _ hb4) HIA.out ?_))
  go_ret;exact⟨Aa (by rw[HZ.out]),by rw[←HGG.out];exact HWB.out.trans (hb4.mono HWS.out)⟩
 by_cases k16:k=16
 ·subst k16
  have HOP:Hid (R=(((f==0)||(f==1))&&pt&&ka0)):=Qd HDEF.out;clear HDEF;cases qf:(f==0)
  ·cases qg:(f==1)
   ·have HZ:Hid (R=false):=Qd (by rw[HOP.out]<;>simp[qf,qg])
    go_wp2_with (first|(refine Va (.tmp 1) rfl rfl g rfl (HGB.out _ hb2) HIA.out ?_) |(with_reducible refine Ua (.tmp 1) rfl rfl g rfl (HGB.out _ hb2) HIA.out ?_))
    go_ret;exact⟨Aa (by rw[HZ.out]),by rw[←HGG.out];exact HWB.out.trans (hb2.mono HWS.out)⟩
   cases pt
   ·have HZ:Hid (R=false):=Qd (by rw[HOP.out]<;>simp[qf,qg])
    go_wp2_with (first|(refine Va (.tmp 1) rfl rfl g rfl (HGB.out _ hb2) HIA.out ?_) |(with_reducible refine Ua (.tmp 1) rfl rfl g rfl (HGB.out _ hb2) HIA.out ?_))
    refine(PT.out w2).mono ?_;rintro e w3 ⟨rfl,rfl⟩;go_wp2_with (first|(refine Va (.tmp 1) rfl rfl g rfl (HGB.out _ hb2) HIA.out ?_) |(with_reducible refine Ua (.tmp 1) rfl rfl g rfl (HGB.out _ hb2) HIA.out ?_))
    go_ret;exact⟨Aa (by rw[HZ.out]),by rw[←HGG.out];exact HWB.out.trans (hb2.mono HWS.out)⟩
   cases ka0
   ·have HZ:Hid (R=false):=Qd (by rw[HOP.out]<;>simp[qf,qg])
    go_wp2_with (first|(refine Va (.tmp 1) rfl rfl g rfl (HGB.out _ hb2) HIA.out ?_) |(with_reducible refine Ua (.tmp 1) rfl rfl g rfl (HGB.out _ hb2) HIA.out ?_))
    refine(PT.out w2).mono ?_;rintro e w3 ⟨rfl,rfl⟩;go_wp2_with (first|(refine Va (.tmp 1) rfl rfl g rfl (HGB.out _ hb2) HIA.out ?_) |(with_reducible refine Ua (.tmp 1) rfl rfl g rfl (HGB.out _ hb2) HIA.out ?_))
    refine(Ka0.out w2 hb2).mono ?_;rintro e w4 ⟨rfl,hb4'⟩;have hb4:=hb2.trans (hb4'.mono hb2.size);have r0:=(H8.out w4 hb4).p0;have r1:=(H8.out w4 hb4).p1;have r2:=(H8.out w4 hb4).p2;have r3:=(H8.out w4 hb4).p3;have r4:=(H8.out w4 hb4).p4;have r5:=(H8.out w4 hb4).p5;have r6:=(H8.out w4 hb4).p6;have r7:=(H8.out w4 hb4).p7;clear q0 q1 q2 q3 q4 q5 q6 q7;have q0:=r0;have q1:=r1;have q2:=r2;have q3:=r3;have q4:=r4;have q5:=r5;have q6:=r6;have q7:=r7;clear r0 r1 r2 r3 r4 r5 r6 r7;go_wp2_with (first|(refine Va (.tmp 1) rfl rfl g rfl (HGB.out _ hb4) HIA.out ?_) |(with_reducible refine Ua (.tmp 1) rfl rfl g rfl (HGB.out _ hb4) HIA.out ?_))
    go_ret;exact⟨Aa (by rw[HZ.out]),by rw[←HGG.out];exact HWB.out.trans (hb4.mono HWS.out)⟩
   have HZ:Hid (R=true):=Qd (by rw[HOP.out]<;>simp[qf,qg]);go_wp2_with (first|(refine Va (.tmp 1) rfl rfl g rfl (HGB.out _ hb2) HIA.out ?_) |(with_reducible refine Ua (.tmp 1) rfl rfl g rfl (HGB.out _ hb2) HIA.out ?_))
   refine(PT.out w2).mono ?_;rintro e w3 ⟨rfl,rfl⟩;go_wp2_with (first|(refine Va (.tmp 1) rfl rfl g rfl (HGB.out _ hb2) HIA.out ?_) |(with_reducible refine Ua (.tmp 1) rfl rfl g rfl (HGB.out _ hb2) HIA.out ?_))
   refine(Ka0.out w2 hb2).mono ?_;rintro e w4 ⟨rfl,hb4'⟩;have hb4:=hb2.trans (hb4'.mono hb2.size);have r0:=(H8.out w4 hb4).p0;have r1:=(H8.out w4 hb4).p1;have r2:=(H8.out w4 hb4).p2;have r3:=(H8.out w4 hb4).p3;have r4:=(H8.out w4 hb4).p4;have r5:=(H8.out w4 hb4).p5;have r6:=(H8.out w4 hb4).p6;have r7:=(H8.out w4 hb4).p7;clear q0 q1 q2 q3 q4 q5 q6 q7;have q0:=r0;have q1:=r1;have q2:=r2;have q3:=r3;have q4:=r4;have q5:=r5;have q6:=r6;have q7:=r7;clear r0 r1 r2 r3 r4 r5 r6 r7;go_wp2_with (first|(refine Va (.tmp 1) rfl rfl g rfl (HGB.out _ hb4) HIA.out ?_) |(with_reducible refine Ua (.tmp 1) rfl rfl g rfl (HGB.out _ hb4) HIA.out ?_))
   go_ret;exact⟨Aa (by rw[HZ.out]),by rw[←HGG.out];exact HWB.out.trans (hb4.mono HWS.out)⟩
  cases pt
  ·have HZ:Hid (R=false):=Qd (by rw[HOP.out]<;>simp[qf])
   go_wp2_with (first|(refine Va (.tmp 1) rfl rfl g rfl (HGB.out _ hb2) HIA.out ?_) |(with_reducible refine Ua (.tmp 1) rfl rfl g rfl (HGB.out _ hb2) HIA.out ?_))
   refine(PT.out w2).mono ?_;rintro e w3 ⟨rfl,rfl⟩;go_wp2_with (first|(refine Va (.tmp 1) rfl rfl g rfl (HGB.out _ hb2) HIA.out ?_) |(with_reducible refine Ua (.tmp 1) rfl rfl g rfl (HGB.out _ hb2) HIA.out ?_))
   go_ret;exact⟨Aa (by rw[HZ.out]),by rw[←HGG.out];exact HWB.out.trans (hb2.mono HWS.out)⟩
  cases ka0
  ·have HZ:Hid (R=false):=Qd (by rw[HOP.out]<;>simp[qf])
   go_wp2_with (first|(refine Va (.tmp 1) rfl rfl g rfl (HGB.out _ hb2) HIA.out ?_) |(with_reducible refine Ua (.tmp 1) rfl rfl g rfl (HGB.out _ hb2) HIA.out ?_))
   refine(PT.out w2).mono ?_;rintro e w3 ⟨rfl,rfl⟩;go_wp2_with (first|(refine Va (.tmp 1) rfl rfl g rfl (HGB.out _ hb2) HIA.out ?_) |(with_reducible refine Ua (.tmp 1) rfl rfl g rfl (HGB.out _ hb2) HIA.out ?_))
   refine(Ka0.out w2 hb2).mono ?_;rintro e w4 ⟨rfl,hb4'⟩;have hb4:=hb2.trans (hb4'.mono hb2.size);have r0:=(H8.out w4 hb4).p0;have r1:=(H8.out w4 hb4).p1;have r2:=(H8.out w4 hb4).p2;have r3:=(H8.out w4 hb4).p3;have r4:=(H8.out w4 hb4).p4;have r5:=(H8.out w4 hb4).p5;have r6:=(H8.out w4 hb4).p6;have r7:=(H8.out w4 hb4).p7;clear q0 q1 q2 q3 q4 q5 q6 q7;have q0:=r0;have q1:=r1;have q2:=r2;have q3:=r3;have q4:=r4;have q5:=r5;have q6:=r6;have q7:=r7;clear r0 r1 r2 r3 r4 r5 r6 r7;go_wp2_with (first|(refine Va (.tmp 1) rfl rfl g rfl (HGB.out _ hb4) HIA.out ?_) |(with_reducible refine Ua (.tmp 1) rfl rfl g rfl (HGB.out _ hb4) HIA.out ?_))
   go_ret;exact⟨Aa (by rw[HZ.out]),by rw[←HGG.out];exact HWB.out.trans (hb4.mono HWS.out)⟩
  have HZ:Hid (R=true):=Qd (by rw[HOP.out]<;>simp[qf]);go_wp2_with (first|(refine Va (.tmp 1) rfl rfl g rfl (HGB.out _ hb2) HIA.out ?_) |(with_reducible refine Ua (.tmp 1) rfl rfl g rfl (HGB.out _ hb2) HIA.out ?_))
  refine(PT.out w2).mono ?_;rintro e w3 ⟨rfl,rfl⟩;go_wp2_with (first|(refine Va (.tmp 1) rfl rfl g rfl (HGB.out _ hb2) HIA.out ?_) |(with_reducible refine Ua (.tmp 1) rfl rfl g rfl (HGB.out _ hb2) HIA.out ?_))
  refine(Ka0.out w2 hb2).mono ?_;rintro e w4 ⟨rfl,hb4'⟩;have hb4:=hb2.trans (hb4'.mono hb2.size);have r0:=(H8.out w4 hb4).p0;have r1:=(H8.out w4 hb4).p1;have r2:=(H8.out w4 hb4).p2;have r3:=(H8.out w4 hb4).p3;have r4:=(H8.out w4 hb4).p4;have r5:=(H8.out w4 hb4).p5;have r6:=(H8.out w4 hb4).p6;have r7:=(H8.out w4 hb4).p7;clear q0 q1 q2 q3 q4 q5 q6 q7;have q0:=r0;have q1:=r1;have q2:=r2;have q3:=r3;have q4:=r4;have q5:=r5;have q6:=r6;have q7:=r7;clear r0 r1 r2 r3 r4 r5 r6 r7;go_wp2_with (first|(refine Va (.tmp 1) rfl rfl g rfl (HGB.out _ hb4) HIA.out ?_) |(with_reducible refine Ua (.tmp 1) rfl rfl g rfl (HGB.out _ hb4) HIA.out ?_))
  go_ret;exact⟨Aa (by rw[HZ.out]),by rw[←HGG.out];exact HWB.out.trans (hb4.mono HWS.out)⟩
 by_cases k20:k=20
 ·subst k20
  have HOP:Hid (R=((f==0)&&s1)):=Qd HDEF.out;clear HDEF;cases qf:(f==0)
  ·have HZ:Hid (R=false):=Qd (by rw[HOP.out]<;>simp[qf])
   go_wp2_with (first|(refine Va (.tmp 1) rfl rfl g rfl (HGB.out _ hb2) HIA.out ?_) |(with_reducible refine Ua (.tmp 1) rfl rfl g rfl (HGB.out _ hb2) HIA.out ?_))
   go_ret;exact⟨Aa (by rw[HZ.out]),by rw[←HGG.out];exact HWB.out.trans (hb2.mono HWS.out)⟩
  cases s1
  ·have HZ:Hid (R=false):=Qd (by rw[HOP.out]<;>simp[qf])
   go_wp2_with (first|(refine Va (.tmp 1) rfl rfl g rfl (HGB.out _ hb2) HIA.out ?_) |(with_reducible refine Ua (.tmp 1) rfl rfl g rfl (HGB.out _ hb2) HIA.out ?_))
   refine(S1.out w2 hb2).mono ?_;rintro e w3 ⟨rfl,hb3'⟩;have hb3:=hb2.trans (hb3'.mono hb2.size);have r0:=(H8.out w3 hb3).p0;have r1:=(H8.out w3 hb3).p1;have r2:=(H8.out w3 hb3).p2;have r3:=(H8.out w3 hb3).p3;have r4:=(H8.out w3 hb3).p4;have r5:=(H8.out w3 hb3).p5;have r6:=(H8.out w3 hb3).p6;have r7:=(H8.out w3 hb3).p7;clear q0 q1 q2 q3 q4 q5 q6 q7;have q0:=r0;have q1:=r1;have q2:=r2;have q3:=r3;have q4:=r4;have q5:=r5;have q6:=r6;have q7:=r7;clear r0 r1 r2 r3 r4 r5 r6 r7;go_wp2_with (first|(refine Va (.tmp 1) rfl rfl g rfl (HGB.out _ hb3) HIA.out ?_) |(with_reducible refine Ua (.tmp 1) rfl rfl g rfl (HGB.out _ hb3) HIA.out ?_))
   go_ret;exact⟨Aa (by rw[HZ.out]),by rw[←HGG.out];exact HWB.out.trans (hb3.mono HWS.out)⟩
  have HZ:Hid (R=true):=Qd (by rw[HOP.out]<;>simp[qf]);go_wp2_with (first|(refine Va (.tmp 1) rfl rfl g rfl (HGB.out _ hb2) HIA.out ?_) |(with_reducible refine Ua (.tmp 1) rfl rfl g rfl (HGB.out _ hb2) HIA.out ?_))
  refine(S1.out w2 hb2).mono ?_;rintro e w3 ⟨rfl,hb3'⟩;have hb3:=hb2.trans (hb3'.mono hb2.size);have r0:=(H8.out w3 hb3).p0;have r1:=(H8.out w3 hb3).p1;have r2:=(H8.out w3 hb3).p2;have r3:=(H8.out w3 hb3).p3;have r4:=(H8.out w3 hb3).p4;have r5:=(H8.out w3 hb3).p5;have r6:=(H8.out w3 hb3).p6;have r7:=(H8.out w3 hb3).p7;clear q0 q1 q2 q3 q4 q5 q6 q7;have q0:=r0;have q1:=r1;have q2:=r2;have q3:=r3;have q4:=r4;have q5:=r5;have q6:=r6;have q7:=r7;clear r0 r1 r2 r3 r4 r5 r6 r7;go_wp2_with (first|(refine Va (.tmp 1) rfl rfl g rfl (HGB.out _ hb3) HIA.out ?_) |(with_reducible refine Ua (.tmp 1) rfl rfl g rfl (HGB.out _ hb3) HIA.out ?_))
  go_ret;exact⟨Aa (by rw[HZ.out]),by rw[←HGG.out];exact HWB.out.trans (hb3.mono HWS.out)⟩
 by_cases k22:k=22
 ·subst k22
  have HOP:Hid (R=(ops)):=Qd HDEF.out;clear HDEF;cases ops
  ·have HZ:Hid (R=false):=Qd (by rw[HOP.out]<;>simp[])
   go_wp2_with (first|(refine Va (.tmp 1) rfl rfl g rfl (HGB.out _ hb2) HIA.out ?_) |(with_reducible refine Ua (.tmp 1) rfl rfl g rfl (HGB.out _ hb2) HIA.out ?_))
   refine(OP.out w2 hb2).mono ?_;rintro e w3 ⟨rfl,hb3'⟩;have hb3:=hb2.trans (hb3'.mono hb2.size);have r0:=(H8.out w3 hb3).p0;have r1:=(H8.out w3 hb3).p1;have r2:=(H8.out w3 hb3).p2;have r3:=(H8.out w3 hb3).p3;have r4:=(H8.out w3 hb3).p4;have r5:=(H8.out w3 hb3).p5;have r6:=(H8.out w3 hb3).p6;have r7:=(H8.out w3 hb3).p7;clear q0 q1 q2 q3 q4 q5 q6 q7;have q0:=r0;have q1:=r1;have q2:=r2;have q3:=r3;have q4:=r4;have q5:=r5;have q6:=r6;have q7:=r7;clear r0 r1 r2 r3 r4 r5 r6 r7;go_wp2_with (first|(refine Va (.tmp 1) rfl rfl g rfl (HGB.out _ hb3) HIA.out ?_) |(with_reducible refine Ua (.tmp 1) rfl rfl g rfl (HGB.out _ hb3) HIA.out ?_))
   go_ret;exact⟨Aa (by rw[HZ.out]),by rw[←HGG.out];exact HWB.out.trans (hb3.mono HWS.out)⟩
  have HZ:Hid (R=true):=Qd (by rw[HOP.out]<;>simp[]);go_wp2_with (first|(refine Va (.tmp 1) rfl rfl g rfl (HGB.out _ hb2) HIA.out ?_) |(with_reducible refine Ua (.tmp 1) rfl rfl g rfl (HGB.out _ hb2) HIA.out ?_))
  refine(OP.out w2 hb2).mono ?_;rintro e w3 ⟨rfl,hb3'⟩;have hb3:=hb2.trans (hb3'.mono hb2.size);have r0:=(H8.out w3 hb3).p0;have r1:=(H8.out w3 hb3).p1;have r2:=(H8.out w3 hb3).p2;have r3:=(H8.out w3 hb3).p3;have r4:=(H8.out w3 hb3).p4;have r5:=(H8.out w3 hb3).p5;have r6:=(H8.out w3 hb3).p6;have r7:=(H8.out w3 hb3).p7;clear q0 q1 q2 q3 q4 q5 q6 q7;have q0:=r0;have q1:=r1;have q2:=r2;have q3:=r3;have q4:=r4;have q5:=r5;have q6:=r6;have q7:=r7;clear r0 r1 r2 r3 r4 r5 r6 r7;go_wp2_with (first|(refine Va (.tmp 1) rfl rfl g rfl (HGB.out _ hb3) HIA.out ?_) |(with_reducible refine Ua (.tmp 1) rfl rfl g rfl (HGB.out _ hb3) HIA.out ?_))
  go_ret;exact⟨Aa (by rw[HZ.out]),by rw[←HGG.out];exact HWB.out.trans (hb3.mono HWS.out)⟩
 by_cases k23:k=23
 ·subst k23
  have HOP:Hid (R=(ops)):=Qd HDEF.out;clear HDEF;cases ops
  ·have HZ:Hid (R=false):=Qd (by rw[HOP.out]<;>simp[])
   go_wp2_with (first|(refine Va (.tmp 1) rfl rfl g rfl (HGB.out _ hb2) HIA.out ?_) |(with_reducible refine Ua (.tmp 1) rfl rfl g rfl (HGB.out _ hb2) HIA.out ?_))
   refine(OP.out w2 hb2).mono ?_;rintro e w3 ⟨rfl,hb3'⟩;have hb3:=hb2.trans (hb3'.mono hb2.size);have r0:=(H8.out w3 hb3).p0;have r1:=(H8.out w3 hb3).p1;have r2:=(H8.out w3 hb3).p2;have r3:=(H8.out w3 hb3).p3;have r4:=(H8.out w3 hb3).p4;have r5:=(H8.out w3 hb3).p5;have r6:=(H8.out w3 hb3).p6;have r7:=(H8.out w3 hb3).p7;clear q0 q1 q2 q3 q4 q5 q6 q7;have q0:=r0;have q1:=r1;have q2:=r2;have q3:=r3;have q4:=r4;have q5:=r5;have q6:=r6;have q7:=r7;clear r0 r1 r2 r3 r4 r5 r6 r7;go_wp2_with (first|(refine Va (.tmp 1) rfl rfl g rfl (HGB.out _ hb3) HIA.out ?_) |(with_reducible refine Ua (.tmp 1) rfl rfl g rfl (HGB.out _ hb3) HIA.out ?_))
   go_ret;exact⟨Aa (by rw[HZ.out]),by rw[←HGG.out];exact HWB.out.trans (hb3.mono HWS.out)⟩
  have HZ:Hid (R=true):=Qd (by rw[HOP.out]<;>simp[]);go_wp2_with (first|(refine Va (.tmp 1) rfl rfl g rfl (HGB.out _ hb2) HIA.out ?_) |(with_reducible refine Ua (.tmp 1) rfl rfl g rfl (HGB.out _ hb2) HIA.out ?_))
  refine(OP.out w2 hb2).mono ?_;rintro e w3 ⟨rfl,hb3'⟩;have hb3:=hb2.trans (hb3'.mono hb2.size);have r0:=(H8.out w3 hb3).p0;have r1:=(H8.out w3 hb3).p1;have r2:=(H8.out w3 hb3).p2;have r3:=(H8.out w3 hb3).p3;have r4:=(H8.out w3 hb3).p4;have r5:=(H8.out w3 hb3).p5;have r6:=(H8.out w3 hb3).p6;have r7:=(H8.out w3 hb3).p7;clear q0 q1 q2 q3 q4 q5 q6 q7;have q0:=r0;have q1:=r1;have q2:=r2;have q3:=r3;have q4:=r4;have q5:=r5;have q6:=r6;have q7:=r7;clear r0 r1 r2 r3 r4 r5 r6 r7;go_wp2_with (first|(refine Va (.tmp 1) rfl rfl g rfl (HGB.out _ hb3) HIA.out ?_) |(with_reducible refine Ua (.tmp 1) rfl rfl g rfl (HGB.out _ hb3) HIA.out ?_))
  go_ret;exact⟨Aa (by rw[HZ.out]),by rw[←HGG.out];exact HWB.out.trans (hb3.mono HWS.out)⟩
 by_cases k24:k=24
 ·subst k24
  have HOP:Hid (R=((f==0)&&kp0)):=Qd HDEF.out;clear HDEF;cases qf:(f==0)
  ·have HZ:Hid (R=false):=Qd (by rw[HOP.out]<;>simp[qf])
   go_wp2_with (first|(refine Va (.tmp 1) rfl rfl g rfl (HGB.out _ hb2) HIA.out ?_) |(with_reducible refine Ua (.tmp 1) rfl rfl g rfl (HGB.out _ hb2) HIA.out ?_))
   go_ret;exact⟨Aa (by rw[HZ.out]),by rw[←HGG.out];exact HWB.out.trans (hb2.mono HWS.out)⟩
  cases kp0
  ·have HZ:Hid (R=false):=Qd (by rw[HOP.out]<;>simp[qf])
   go_wp2_with (first|(refine Va (.tmp 1) rfl rfl g rfl (HGB.out _ hb2) HIA.out ?_) |(with_reducible refine Ua (.tmp 1) rfl rfl g rfl (HGB.out _ hb2) HIA.out ?_))
   refine(Kp0.out w2 hb2).mono ?_;rintro e w3 ⟨rfl,hb3'⟩;have hb3:=hb2.trans (hb3'.mono hb2.size);have r0:=(H8.out w3 hb3).p0;have r1:=(H8.out w3 hb3).p1;have r2:=(H8.out w3 hb3).p2;have r3:=(H8.out w3 hb3).p3;have r4:=(H8.out w3 hb3).p4;have r5:=(H8.out w3 hb3).p5;have r6:=(H8.out w3 hb3).p6;have r7:=(H8.out w3 hb3).p7;clear q0 q1 q2 q3 q4 q5 q6 q7;have q0:=r0;have q1:=r1;have q2:=r2;have q3:=r3;have q4:=r4;have q5:=r5;have q6:=r6;have q7:=r7;clear r0 r1 r2 r3 r4 r5 r6 r7;go_wp2_with (first|(refine Va (.tmp 1) rfl rfl g rfl (HGB.out _ hb3) HIA.out ?_) |(with_reducible refine Ua (.tmp 1) rfl rfl g rfl (HGB.out _ hb3) HIA.out ?_))
   go_ret;exact⟨Aa (by rw[HZ.out]),by rw[←HGG.out];exact HWB.out.trans (hb3.mono HWS.out)⟩
  have HZ:Hid (R=true):=Qd (by rw[HOP.out]<;>simp[qf]);go_wp2_with (first|(refine Va (.tmp 1) rfl rfl g rfl (HGB.out _ hb2) HIA.out ?_) |(with_reducible refine Ua (.tmp 1) rfl rfl g rfl (HGB.out _ hb2) HIA.out ?_))
  refine(Kp0.out w2 hb2).mono ?_;rintro e w3 ⟨rfl,hb3'⟩;have hb3:=hb2.trans (hb3'.mono hb2.size);have r0:=(H8.out w3 hb3).p0;have r1:=(H8.out w3 hb3).p1;have r2:=(H8.out w3 hb3).p2;have r3:=(H8.out w3 hb3).p3;have r4:=(H8.out w3 hb3).p4;have r5:=(H8.out w3 hb3).p5;have r6:=(H8.out w3 hb3).p6;have r7:=(H8.out w3 hb3).p7;clear q0 q1 q2 q3 q4 q5 q6 q7;have q0:=r0;have q1:=r1;have q2:=r2;have q3:=r3;have q4:=r4;have q5:=r5;have q6:=r6;have q7:=r7;clear r0 r1 r2 r3 r4 r5 r6 r7;go_wp2_with (first|(refine Va (.tmp 1) rfl rfl g rfl (HGB.out _ hb3) HIA.out ?_) |(with_reducible refine Ua (.tmp 1) rfl rfl g rfl (HGB.out _ hb3) HIA.out ?_))
  go_ret;exact⟨Aa (by rw[HZ.out]),by rw[←HGG.out];exact HWB.out.trans (hb3.mono HWS.out)⟩
 by_cases k25:k=25
 ·subst k25
  have HOP:Hid (R=((f==0)&&kaa0)):=Qd HDEF.out;clear HDEF;cases qf:(f==0)
  ·have HZ:Hid (R=false):=Qd (by rw[HOP.out]<;>simp[qf])
   go_wp2_with (first|(refine Va (.tmp 1) rfl rfl g rfl (HGB.out _ hb2) HIA.out ?_) |(with_reducible refine Ua (.tmp 1) rfl rfl g rfl (HGB.out _ hb2) HIA.out ?_))
   go_ret;exact⟨Aa (by rw[HZ.out]),by rw[←HGG.out];exact HWB.out.trans (hb2.mono HWS.out)⟩
  cases kaa0
  ·have HZ:Hid (R=false):=Qd (by rw[HOP.out]<;>simp[qf])
   go_wp2_with (first|(refine Va (.tmp 1) rfl rfl g rfl (HGB.out _ hb2) HIA.out ?_) |(with_reducible refine Ua (.tmp 1) rfl rfl g rfl (HGB.out _ hb2) HIA.out ?_))
   refine(Kaa0.out w2 hb2).mono ?_;rintro e w3 ⟨rfl,hb3'⟩;have hb3:=hb2.trans (hb3'.mono hb2.size);have r0:=(H8.out w3 hb3).p0;have r1:=(H8.out w3 hb3).p1;have r2:=(H8.out w3 hb3).p2;have r3:=(H8.out w3 hb3).p3;have r4:=(H8.out w3 hb3).p4;have r5:=(H8.out w3 hb3).p5;have r6:=(H8.out w3 hb3).p6;have r7:=(H8.out w3 hb3).p7;clear q0 q1 q2 q3 q4 q5 q6 q7;have q0:=r0;have q1:=r1;have q2:=r2;have q3:=r3;have q4:=r4;have q5:=r5;have q6:=r6;have q7:=r7;clear r0 r1 r2 r3 r4 r5 r6 r7;go_wp2_with (first|(refine Va (.tmp 1) rfl rfl g rfl (HGB.out _ hb3) HIA.out ?_) |(with_reducible refine Ua (.tmp 1) rfl rfl g rfl (HGB.out _ hb3) HIA.out ?_))
   go_ret;exact⟨Aa (by rw[HZ.out]),by rw[←HGG.out];exact HWB.out.trans (hb3.mono HWS.out)⟩
  have HZ:Hid (R=true):=Qd (by rw[HOP.out]<;>simp[qf]);go_wp2_with (first|(refine Va (.tmp 1) rfl rfl g rfl (HGB.out _ hb2) HIA.out ?_) |(with_reducible refine Ua (.tmp 1) rfl rfl g rfl (HGB.out _ hb2) HIA.out ?_))
  refine(Kaa0.out w2 hb2).mono ?_;rintro e w3 ⟨rfl,hb3'⟩;have hb3:=hb2.trans (hb3'.mono hb2.size);have r0:=(H8.out w3 hb3).p0;have r1:=(H8.out w3 hb3).p1;have r2:=(H8.out w3 hb3).p2;have r3:=(H8.out w3 hb3).p3;have r4:=(H8.out w3 hb3).p4;have r5:=(H8.out w3 hb3).p5;have r6:=(H8.out w3 hb3).p6;have r7:=(H8.out w3 hb3).p7;clear q0 q1 q2 q3 q4 q5 q6 q7;have q0:=r0;have q1:=r1;have q2:=r2;have q3:=r3;have q4:=r4;have q5:=r5;have q6:=r6;have q7:=r7;clear r0 r1 r2 r3 r4 r5 r6 r7;go_wp2_with (first|(refine Va (.tmp 1) rfl rfl g rfl (HGB.out _ hb3) HIA.out ?_) |(with_reducible refine Ua (.tmp 1) rfl rfl g rfl (HGB.out _ hb3) HIA.out ?_))
  go_ret;exact⟨Aa (by rw[HZ.out]),by rw[←HGG.out];exact HWB.out.trans (hb3.mono HWS.out)⟩
 by_cases k26:k=26
 ·subst k26
  have HOP:Hid (R=((f==0)&&kaa0)):=Qd HDEF.out;clear HDEF;cases qf:(f==0)
  ·have HZ:Hid (R=false):=Qd (by rw[HOP.out]<;>simp[qf])
   go_wp2_with (first|(refine Va (.tmp 1) rfl rfl g rfl (HGB.out _ hb2) HIA.out ?_) |(with_reducible refine Ua (.tmp 1) rfl rfl g rfl (HGB.out _ hb2) HIA.out ?_))
   go_ret;exact⟨Aa (by rw[HZ.out]),by rw[←HGG.out];exact HWB.out.trans (hb2.mono HWS.out)⟩
  cases kaa0
  ·have HZ:Hid (R=false):=Qd (by rw[HOP.out]<;>simp[qf])
   go_wp2_with (first|(refine Va (.tmp 1) rfl rfl g rfl (HGB.out _ hb2) HIA.out ?_) |(with_reducible refine Ua (.tmp 1) rfl rfl g rfl (HGB.out _ hb2) HIA.out ?_))
   refine(Kaa0.out w2 hb2).mono ?_;rintro e w3 ⟨rfl,hb3'⟩;have hb3:=hb2.trans (hb3'.mono hb2.size);have r0:=(H8.out w3 hb3).p0;have r1:=(H8.out w3 hb3).p1;have r2:=(H8.out w3 hb3).p2;have r3:=(H8.out w3 hb3).p3;have r4:=(H8.out w3 hb3).p4;have r5:=(H8.out w3 hb3).p5;have r6:=(H8.out w3 hb3).p6;have r7:=(H8.out w3 hb3).p7;clear q0 q1 q2 q3 q4 q5 q6 q7;have q0:=r0;have q1:=r1;have q2:=r2;have q3:=r3;have q4:=r4;have q5:=r5;have q6:=r6;have q7:=r7;clear r0 r1 r2 r3 r4 r5 r6 r7;go_wp2_with (first|(refine Va (.tmp 1) rfl rfl g rfl (HGB.out _ hb3) HIA.out ?_) |(with_reducible refine Ua (.tmp 1) rfl rfl g rfl (HGB.out _ hb3) HIA.out ?_))
   go_ret;exact⟨Aa (by rw[HZ.out]),by rw[←HGG.out];exact HWB.out.trans (hb3.mono HWS.out)⟩
  have HZ:Hid (R=true):=Qd (by rw[HOP.out]<;>simp[qf]);go_wp2_with (first|(refine Va (.tmp 1) rfl rfl g rfl (HGB.out _ hb2) HIA.out ?_) |(with_reducible refine Ua (.tmp 1) rfl rfl g rfl (HGB.out _ hb2) HIA.out ?_))
  refine(Kaa0.out w2 hb2).mono ?_;rintro e w3 ⟨rfl,hb3'⟩;have hb3:=hb2.trans (hb3'.mono hb2.size);have r0:=(H8.out w3 hb3).p0;have r1:=(H8.out w3 hb3).p1;have r2:=(H8.out w3 hb3).p2;have r3:=(H8.out w3 hb3).p3;have r4:=(H8.out w3 hb3).p4;have r5:=(H8.out w3 hb3).p5;have r6:=(H8.out w3 hb3).p6;have r7:=(H8.out w3 hb3).p7;clear q0 q1 q2 q3 q4 q5 q6 q7;have q0:=r0;have q1:=r1;have q2:=r2;have q3:=r3;have q4:=r4;have q5:=r5;have q6:=r6;have q7:=r7;clear r0 r1 r2 r3 r4 r5 r6 r7;go_wp2_with (first|(refine Va (.tmp 1) rfl rfl g rfl (HGB.out _ hb3) HIA.out ?_) |(with_reducible refine Ua (.tmp 1) rfl rfl g rfl (HGB.out _ hb3) HIA.out ?_))
  go_ret;exact⟨Aa (by rw[HZ.out]),by rw[←HGG.out];exact HWB.out.trans (hb3.mono HWS.out)⟩
 by_cases k27:k=27
 ·subst k27
  have HOP:Hid (R=((f==2)&&nt&&kf0)):=Qd HDEF.out;clear HDEF;cases qf:(f==2)
  ·have HZ:Hid (R=false):=Qd (by rw[HOP.out]<;>simp[qf])
   go_wp2_with (first|(refine Va (.tmp 1) rfl rfl g rfl (HGB.out _ hb2) HIA.out ?_) |(with_reducible refine Ua (.tmp 1) rfl rfl g rfl (HGB.out _ hb2) HIA.out ?_))
   go_ret;exact⟨Aa (by rw[HZ.out]),by rw[←HGG.out];exact HWB.out.trans (hb2.mono HWS.out)⟩
  cases nt
  ·have HZ:Hid (R=false):=Qd (by rw[HOP.out]<;>simp[qf])
   go_wp2_with (first|(refine Va (.tmp 1) rfl rfl g rfl (HGB.out _ hb2) HIA.out ?_) |(with_reducible refine Ua (.tmp 1) rfl rfl g rfl (HGB.out _ hb2) HIA.out ?_))
   refine(NMt.out w2).mono ?_;rintro e w3 ⟨rfl,hb3'⟩;have hb3:=hb2.trans (hb3'.mono hb2.size);have r0:=(H8.out w3 hb3).p0;have r1:=(H8.out w3 hb3).p1;have r2:=(H8.out w3 hb3).p2;have r3:=(H8.out w3 hb3).p3;have r4:=(H8.out w3 hb3).p4;have r5:=(H8.out w3 hb3).p5;have r6:=(H8.out w3 hb3).p6;have r7:=(H8.out w3 hb3).p7;clear q0 q1 q2 q3 q4 q5 q6 q7;have q0:=r0;have q1:=r1;have q2:=r2;have q3:=r3;have q4:=r4;have q5:=r5;have q6:=r6;have q7:=r7;clear r0 r1 r2 r3 r4 r5 r6 r7;go_wp2_with (first|(refine Va (.tmp 1) rfl rfl g rfl (HGB.out _ hb3) HIA.out ?_) |(with_reducible refine Ua (.tmp 1) rfl rfl g rfl (HGB.out _ hb3) HIA.out ?_))
   go_ret;exact⟨Aa (by rw[HZ.out]),by rw[←HGG.out];exact HWB.out.trans (hb3.mono HWS.out)⟩
  cases kf0
  ·have HZ:Hid (R=false):=Qd (by rw[HOP.out]<;>simp[qf])
   go_wp2_with (first|(refine Va (.tmp 1) rfl rfl g rfl (HGB.out _ hb2) HIA.out ?_) |(with_reducible refine Ua (.tmp 1) rfl rfl g rfl (HGB.out _ hb2) HIA.out ?_))
   refine(NMt.out w2).mono ?_;rintro e w3 ⟨rfl,hb3'⟩;have hb3:=hb2.trans (hb3'.mono hb2.size);have r0:=(H8.out w3 hb3).p0;have r1:=(H8.out w3 hb3).p1;have r2:=(H8.out w3 hb3).p2;have r3:=(H8.out w3 hb3).p3;have r4:=(H8.out w3 hb3).p4;have r5:=(H8.out w3 hb3).p5;have r6:=(H8.out w3 hb3).p6;have r7:=(H8.out w3 hb3).p7;clear q0 q1 q2 q3 q4 q5 q6 q7;have q0:=r0;have q1:=r1;have q2:=r2;have q3:=r3;have q4:=r4;have q5:=r5;have q6:=r6;have q7:=r7;clear r0 r1 r2 r3 r4 r5 r6 r7;go_wp2_with (first|(refine Va (.tmp 1) rfl rfl g rfl (HGB.out _ hb3) HIA.out ?_) |(with_reducible refine Ua (.tmp 1) rfl rfl g rfl (HGB.out _ hb3) HIA.out ?_))
   refine(Kf0.out w3 hb3).mono ?_;rintro e w4 ⟨rfl,hb4'⟩;have hb4:=hb3.trans (hb4'.mono hb3.size);have r0:=(H8.out w4 hb4).p0;have r1:=(H8.out w4 hb4).p1;have r2:=(H8.out w4 hb4).p2;have r3:=(H8.out w4 hb4).p3;have r4:=(H8.out w4 hb4).p4;have r5:=(H8.out w4 hb4).p5;have r6:=(H8.out w4 hb4).p6;have r7:=(H8.out w4 hb4).p7;clear q0 q1 q2 q3 q4 q5 q6 q7;have q0:=r0;have q1:=r1;have q2:=r2;have q3:=r3;have q4:=r4;have q5:=r5;have q6:=r6;have q7:=r7;clear r0 r1 r2 r3 r4 r5 r6 r7;go_wp2_with (first|(refine Va (.tmp 1) rfl rfl g rfl (HGB.out _ hb4) HIA.out ?_) |(with_reducible refine Ua (.tmp 1) rfl rfl g rfl (HGB.out _ hb4) HIA.out ?_))
   go_ret;exact⟨Aa (by rw[HZ.out]),by rw[←HGG.out];exact HWB.out.trans (hb4.mono HWS.out)⟩
  have HZ:Hid (R=true):=Qd (by rw[HOP.out]<;>simp[qf]);go_wp2_with (first|(refine Va (.tmp 1) rfl rfl g rfl (HGB.out _ hb2) HIA.out ?_) |(with_reducible refine Ua (.tmp 1) rfl rfl g rfl (HGB.out _ hb2) HIA.out ?_))
  refine(NMt.out w2).mono ?_;rintro e w3 ⟨rfl,hb3'⟩;have hb3:=hb2.trans (hb3'.mono hb2.size);have r0:=(H8.out w3 hb3).p0;have r1:=(H8.out w3 hb3).p1;have r2:=(H8.out w3 hb3).p2;have r3:=(H8.out w3 hb3).p3;have r4:=(H8.out w3 hb3).p4;have r5:=(H8.out w3 hb3).p5;have r6:=(H8.out w3 hb3).p6;have r7:=(H8.out w3 hb3).p7;clear q0 q1 q2 q3 q4 q5 q6 q7;have q0:=r0;have q1:=r1;have q2:=r2;have q3:=r3;have q4:=r4;have q5:=r5;have q6:=r6;have q7:=r7;clear r0 r1 r2 r3 r4 r5 r6 r7;go_wp2_with (first|(refine Va (.tmp 1) rfl rfl g rfl (HGB.out _ hb3) HIA.out ?_) |(with_reducible refine Ua (.tmp 1) rfl rfl g rfl (HGB.out _ hb3) HIA.out ?_))
  refine(Kf0.out w3 hb3).mono ?_;rintro e w4 ⟨rfl,hb4'⟩;have hb4:=hb3.trans (hb4'.mono hb3.size);have r0:=(H8.out w4 hb4).p0;have r1:=(H8.out w4 hb4).p1;have r2:=(H8.out w4 hb4).p2;have r3:=(H8.out w4 hb4).p3;have r4:=(H8.out w4 hb4).p4;have r5:=(H8.out w4 hb4).p5;have r6:=(H8.out w4 hb4).p6;have r7:=(H8.out w4 hb4).p7;clear q0 q1 q2 q3 q4 q5 q6 q7;have q0:=r0;have q1:=r1;have q2:=r2;have q3:=r3;have q4:=r4;have q5:=r5;have q6:=r6;have q7:=r7;clear r0 r1 r2 r3 r4 r5 r6 r7;go_wp2_with (first|(refine Va (.tmp 1) rfl rfl g rfl (HGB.out _ hb4) HIA.out ?_) |(with_reducible refine Ua (.tmp 1) rfl rfl g rfl (HGB.out _ hb4) HIA.out ?_))
  go_ret;exact⟨Aa (by rw[HZ.out]),by rw[←HGG.out];exact HWB.out.trans (hb4.mono HWS.out)⟩
 by_cases k28:k=28
 ·subst k28
  have HOP:Hid (R=((f==0)&&s0)):=Qd HDEF.out;clear HDEF;cases qf:(f==0)
  ·have HZ:Hid (R=false):=Qd (by rw[HOP.out]<;>simp[qf])
   go_wp2_with (first|(refine Va (.tmp 1) rfl rfl g rfl (HGB.out _ hb2) HIA.out ?_) |(with_reducible refine Ua (.tmp 1) rfl rfl g rfl (HGB.out _ hb2) HIA.out ?_))
   go_ret;exact⟨Aa (by rw[HZ.out]),by rw[←HGG.out];exact HWB.out.trans (hb2.mono HWS.out)⟩
  cases s0
  ·have HZ:Hid (R=false):=Qd (by rw[HOP.out]<;>simp[qf])
   go_wp2_with (first|(refine Va (.tmp 1) rfl rfl g rfl (HGB.out _ hb2) HIA.out ?_) |(with_reducible refine Ua (.tmp 1) rfl rfl g rfl (HGB.out _ hb2) HIA.out ?_))
   refine(S0.out w2 hb2).mono ?_;rintro e w3 ⟨rfl,hb3'⟩;have hb3:=hb2.trans (hb3'.mono hb2.size);have r0:=(H8.out w3 hb3).p0;have r1:=(H8.out w3 hb3).p1;have r2:=(H8.out w3 hb3).p2;have r3:=(H8.out w3 hb3).p3;have r4:=(H8.out w3 hb3).p4;have r5:=(H8.out w3 hb3).p5;have r6:=(H8.out w3 hb3).p6;have r7:=(H8.out w3 hb3).p7;clear q0 q1 q2 q3 q4 q5 q6 q7;have q0:=r0;have q1:=r1;have q2:=r2;have q3:=r3;have q4:=r4;have q5:=r5;have q6:=r6;have q7:=r7;clear r0 r1 r2 r3 r4 r5 r6 r7;go_wp2_with (first|(refine Va (.tmp 1) rfl rfl g rfl (HGB.out _ hb3) HIA.out ?_) |(with_reducible refine Ua (.tmp 1) rfl rfl g rfl (HGB.out _ hb3) HIA.out ?_))
   go_ret;exact⟨Aa (by rw[HZ.out]),by rw[←HGG.out];exact HWB.out.trans (hb3.mono HWS.out)⟩
  have HZ:Hid (R=true):=Qd (by rw[HOP.out]<;>simp[qf]);go_wp2_with (first|(refine Va (.tmp 1) rfl rfl g rfl (HGB.out _ hb2) HIA.out ?_) |(with_reducible refine Ua (.tmp 1) rfl rfl g rfl (HGB.out _ hb2) HIA.out ?_))
  refine(S0.out w2 hb2).mono ?_;rintro e w3 ⟨rfl,hb3'⟩;have hb3:=hb2.trans (hb3'.mono hb2.size);have r0:=(H8.out w3 hb3).p0;have r1:=(H8.out w3 hb3).p1;have r2:=(H8.out w3 hb3).p2;have r3:=(H8.out w3 hb3).p3;have r4:=(H8.out w3 hb3).p4;have r5:=(H8.out w3 hb3).p5;have r6:=(H8.out w3 hb3).p6;have r7:=(H8.out w3 hb3).p7;clear q0 q1 q2 q3 q4 q5 q6 q7;have q0:=r0;have q1:=r1;have q2:=r2;have q3:=r3;have q4:=r4;have q5:=r5;have q6:=r6;have q7:=r7;clear r0 r1 r2 r3 r4 r5 r6 r7;go_wp2_with (first|(refine Va (.tmp 1) rfl rfl g rfl (HGB.out _ hb3) HIA.out ?_) |(with_reducible refine Ua (.tmp 1) rfl rfl g rfl (HGB.out _ hb3) HIA.out ?_))
  go_ret;exact⟨Aa (by rw[HZ.out]),by rw[←HGG.out];exact HWB.out.trans (hb3.mono HWS.out)⟩
 have HZ:Hid (R=lf):=Qd (by rw[HDEF.out];simp[k8,k9,k11,k12,k13,k14,k15,k16,k20,k22,k23,k24,k25,k26,k27,k28]);clear HDEF;have n8:(k==8)=false:=beq_eq_false_iff_ne.2 k8;have n9:(k==9)=false:=beq_eq_false_iff_ne.2 k9;have n11:(k==11)=false:=beq_eq_false_iff_ne.2 k11;have n12:(k==12)=false:=beq_eq_false_iff_ne.2 k12;have n13:(k==13)=false:=beq_eq_false_iff_ne.2 k13;have n14:(k==14)=false:=beq_eq_false_iff_ne.2 k14;have n15:(k==15)=false:=beq_eq_false_iff_ne.2 k15;have n16:(k==16)=false:=beq_eq_false_iff_ne.2 k16;have n20:(k==20)=false:=beq_eq_false_iff_ne.2 k20;have n22:(k==22)=false:=beq_eq_false_iff_ne.2 k22;have n23:(k==23)=false:=beq_eq_false_iff_ne.2 k23;have n24:(k==24)=false:=beq_eq_false_iff_ne.2 k24;have n25:(k==25)=false:=beq_eq_false_iff_ne.2 k25;have n26:(k==26)=false:=beq_eq_false_iff_ne.2 k26;have n27:(k==27)=false:=beq_eq_false_iff_ne.2 k27;have n28:(k==28)=false:=beq_eq_false_iff_ne.2 k28;clear k8 k9 k11 k12 k13 k14 k15 k16 k20 k22 k23 k24 k25 k26 k27 k28;go_wp2_with (first|(refine Va (.tmp 1) rfl rfl g rfl (HGB.out _ hb2) HIA.out ?_) |(with_reducible refine Ua (.tmp 1) rfl rfl g rfl (HGB.out _ hb2) HIA.out ?_))
 refine(LF.out w2 hb2).mono ?_;rintro e w3 ⟨rfl,hb3'⟩;have hb3:=hb2.trans (hb3'.mono hb2.size);have r0:=(H8.out w3 hb3).p0;have r1:=(H8.out w3 hb3).p1;have r2:=(H8.out w3 hb3).p2;have r3:=(H8.out w3 hb3).p3;have r4:=(H8.out w3 hb3).p4;have r5:=(H8.out w3 hb3).p5;have r6:=(H8.out w3 hb3).p6;have r7:=(H8.out w3 hb3).p7;clear q0 q1 q2 q3 q4 q5 q6 q7;have q0:=r0;have q1:=r1;have q2:=r2;have q3:=r3;have q4:=r4;have q5:=r5;have q6:=r6;have q7:=r7;clear r0 r1 r2 r3 r4 r5 r6 r7;go_wp2_with (first|(refine Va (.tmp 1) rfl rfl g rfl (HGB.out _ hb3) HIA.out ?_) |(with_reducible refine Ua (.tmp 1) rfl rfl g rfl (HGB.out _ hb3) HIA.out ?_))
 go_ret;exact⟨Aa (by rw[HZ.out]),by rw[←HGG.out];exact HWB.out.trans (hb3.mono HWS.out)⟩
end
section
open Go.RowKit Tr
theorem Dt:∀{l:List Da} {i:Nat} (h:i<l.length),all l[i]=false→Tf l=false
 | [],_,h,_=>by simp at h
 |t::r,0,_,h=>by unfold Tf;rw[show all t=false from h];rfl
 |t::r,i+1,h,ha=>by unfold Tf;rw[Dt (l:=r) (i:=i) (by simpa using h) ha,Bool.and_false]
theorem Np:∀{l:List Da},(∀i (h:i<l.length),all l[i]=true)→Tf l=true
 | [],_=>rfl
 |t::r,h=>by unfold Tf;rw[show all t=true from h 0 (by simp),Np (l:=r) (λi hi=>h (i+1) (by simpa using hi))];rfl
theorem Tx (a:Da)(vs:List Value)(w:World)(B:Nat)(h:IsTree w B a vs)(hB:B≤w.heap.size):Calls Tryz.prog 56 #[.agg vs.toArray] w (Oa w (one a)):=by
 have:=L0 a vs w B h hB;obtain⟨k,o,m,nm,t,l⟩:=a;rwa[show Bm (kind (.mk k o m nm t l)) (op (.mk k o m nm t l)) (Zb (.mk k o m nm t l)) (Ii (.mk k o m nm t l)) (text (.mk k o m nm t l)) ((Be (.mk k o m nm t l)).map kind)=one (.mk k o m nm t l) from by rw[A9];rfl] at this
theorem N0 (n:Nat):∀(a:Da) (vs:List Value) (w:World) (B:Nat),SizeOf.sizeOf a<n→IsTree w B a vs→B≤w.heap.size→
 Calls Tryz.prog 29 #[.agg vs.toArray] w (Oa w (all a)):=by
 induction n with
 |zero=>intro a vs w B h;omega
 |succ n ih=>
  intro a vs w B hn h hB;have O1:=λwx hx hy=>Tx a vs wx B hx hy;have hIA:=Zc h;have h':=h;obtain⟨k,o,m,nm,t,l⟩:=a;obtain⟨W,hW⟩:∃W,W=w.alloc (.cells vs.toArray 28):=⟨_,rfl⟩;obtain⟨A1,A2,A3,A4,c1,c2,c3,c4,us,HO,HL,HC,hW8,HG,hWl,hWb⟩:=Tb h hW;have hf4:=HO.out.f4.le (by omega);have HSZ:∀(i:Nat) (hi:i<l.length),SizeOf.sizeOf l[i]<n:=λi hi=>by have:=Ch (k:=k) (o:=o) (m:=m) (n:=nm) (t:=t) hi;omega
  replace HSZ:=Qd HSZ;have HR:Hid (all (.mk k o m nm t l)=(one (.mk k o m nm t l)&&Tf l)):=Qd (by rw[all]);have AB:Hid (∀i (hi:i<l.length),all l[i]=false→Tf l=false):=Qd (λi hi h=>Dt hi h);have AG:=Qd (@Np l);have O2:=Qd (O1 W (h'.below (hWb.mono hB)) (by omega));generalize one (.mk k o m nm t l)=x at*;generalize all (.mk k o m nm t l)=R at*;generalize Tf l=Y at*;have HQ:Hid (∀wx,Below W.heap.size W wx→wx.cell? ⟨w.heap.size,7,none⟩=some (.slice A4 l.length c4)):=Qd (λwx hx=>(hx.cell (p:=⟨w.heap.size,7,none⟩) hWl).trans hW8.p7);have HKB:Hid (∀wx,Below W.heap.size W wx→∀p:Addr,p.block<B→wx.cell? p=w.cell? p):=Qd (λwx hx p hp=>by rw[hx.cell (by omega),hWb.cell (by omega)]);have HWB:=Qd hWb;have HWS:Hid (w.heap.size≤W.heap.size):=Qd (by omega);have HW:=Qd hW;have HIA:=Qd hIA;clear hW8 HO hWb hW h hn h' O1 hIA;go_enter Tryz.func29,Tryz.ntmps29
  go_upto_region 1 with fail
  rw[←HW.out];go_wp2_with (with_reducible refine Ua (.tmp 1) rfl rfl w.heap.size rfl HG.out HIA.out ?_)
  refine O2.out.mono ?_;rintro e w2 ⟨rfl,hb2⟩;cases x
  ·have HZ:Hid (R=false):=Qd (by rw[HR.out];rfl)
   go_wp2_with fail
   go_ret;exact⟨Aa (by rw[HZ.out]),HWB.out.trans (hb2.mono HWS.out)⟩
  have HRY:Hid (R=Y):=Qd (by rw[HR.out];rfl);clear HR;have q7:=HQ.out w2 hb2;go_wp2_with fail
  go_loopw [3] (λi wr=>∃(j:Nat),j≤l.length∧i= .int .i64 j∧Hid (∀i (hi:i<l.length),i<j→all l[i]=true)∧Below W.heap.size W wr) (λi _=>l.length-(intOf i).toNat)
  case atStart=>exact⟨0,Nat.zero_le _,rfl,Qd (λi hi h=>by omega),hb2⟩
  case round=>
   clear q7;obtain⟨j,hj,rfl,HI,hbel⟩:=hrel;have q7:=HQ.out wr hbel;by_cases hlt:j<l.length
   ·obtain⟨b,off,tv,rfl,hb,HT,HR2⟩:=Nd HC.out HL.out (HKB.out wr hbel) hlt
    have IH:=Qd (ih l[j] _ wr B (HSZ.out j hlt) (HT.out.keep (HKB.out wr hbel) (Nat.le_refl _)) (by have:=hbel.size;omega));have HI2:=Qd (Ld HT.out);have HS:Hid (all l[j]=true→∀i (hi:i<l.length),i<j+1→all l[i]=true):=Qd (λh i hi hij=>by
     by_cases e:i=j
     ·subst e;exact h
     exact HI.out i hi (by omega))
    have HF:=Qd (AB.out j hlt);generalize all l[j]=z at*;clear HT;cases z
    ·have HZ:Hid (R=false):=Qd (by rw[HRY.out];exact HF.out rfl)
     go_wp2_with (with_reducible refine wpList_load_mid rfl 28 (.tmp 17) rfl b (off+j*8) rfl tv _ HR2.out Tryz.underlying28 rfl HI2.out ?_)
     refine IH.out.mono ?_;rintro e w3 ⟨rfl,hb3⟩;go_wp2_with fail
     go_ret;exact⟨Aa (by rw[HZ.out]),HWB.out.trans ((hbel.trans (hb3.mono hbel.size)).mono HWS.out)⟩
    have HN:=Qd (HS.out rfl);go_wp2_with (with_reducible refine wpList_load_mid rfl 28 (.tmp 17) rfl b (off+j*8) rfl tv _ HR2.out Tryz.underlying28 rfl HI2.out ?_)
    refine IH.out.mono ?_;rintro e w3 ⟨rfl,hb3⟩;go_wp2_with fail
    go_roundw
    case rel=>exact⟨j+1,by omega,by go_num,HN,hbel.trans (hb3.mono hbel.size)⟩
    case measure=>simp[intOf];omega
   have HZ:Hid (R=true):=Qd (by rw[HRY.out];exact AG.out (λi hi=>HI.out i hi (by omega)));go_wp2_with fail
   go_ret;exact⟨Aa (by rw[HZ.out]),HWB.out.trans (hbel.mono HWS.out)⟩
theorem Ku (a:Da)(vs:List Value)(w:World)(B:Nat)(h:IsTree w B a vs)(hB:B≤w.heap.size)(hc:count a≤1000000):
 Calls Tryz.prog 13 #[.agg vs.toArray] w (Oa w (right a)):=by
 obtain⟨W,hW⟩:∃W,W=w.alloc (.cells vs.toArray 28):=⟨_,rfl⟩;have hWb:Below w.heap.size w W:=by rw[hW];exact(Below.refl _ _).alloc (Nat.le_refl _) _
 have hWl:w.heap.size<W.heap.size:=by rw[hW];simp
 have HG:Hid (∀wx,Below W.heap.size W wx→wx.heap[w.heap.size]? =some (.cells vs.toArray 28 (0,0))):=Qd (λwx hx=>(hx.block _ hWl).trans (by rw[hW];exact heap_alloc_new w _));have hk:∀wx,Below W.heap.size W wx→IsTree wx B a vs∧B≤wx.heap.size:=λwx hx=>⟨h.below ((hWb.trans (hx.mono (by omega))).mono hB),by have:=hx.size;omega⟩;have D1:=Qd (Wt _ a vs W B (Nat.lt_succ_self _) (hk W (Below.refl _ _)).1 (hk W (Below.refl _ _)).2 hc);have C1:=Qd (λwx hx=>Yt _ a vs wx B (Nat.lt_succ_self _) (hk wx hx).1 (hk wx hx).2 hc);have L1:=Qd (λwx hx=>N0 _ a vs wx B (Nat.lt_succ_self _) (hk wx hx).1 (hk wx hx).2);have HR:Hid (right a=(decide (Gd a≤40)&&decide (count a≤2048)&&all a)):=Qd rfl;have HIA:=Qd (Zc h);have hdc:=Yh a;generalize Gd a=d at*;generalize count a=c at*;generalize all a=x at*;generalize right a=R at*;have HWB:=Qd hWb;have HWS:Hid (w.heap.size≤W.heap.size):=Qd (by omega);have HW:=Qd hW;clear h hk hW hWb;have hbl:Below W.heap.size W W:=Below.refl _ _;have HBL:=Qd hbl;go_enter Tryz.func13,Tryz.ntmps13
 go_upto_region 1 with fail
 rw[←HW.out];go_wp2_with (with_reducible refine Ua (.tmp 1) rfl rfl w.heap.size rfl (HG.out _ hbl) HIA.out ?_)
 refine D1.out.mono ?_;rintro e w2 ⟨rfl,hb2⟩;by_cases h1:d≤40
 ·have q1:(d:Int)≤40:=by omega
  go_wp2_with (refine Va (.tmp 1) rfl rfl w.heap.size rfl (HG.out _ hb2) HIA.out ?_)
  refine(C1.out w2 hb2).mono ?_;rintro e w3 ⟨rfl,hb3'⟩;have hb3:=hb2.trans (hb3'.mono hb2.size);by_cases h2:c≤2048
  ·have q2:(c:Int)≤2048:=by omega
   have HZ:Hid (R=x):=Qd (by rw[HR.out,decide_eq_true h1,decide_eq_true h2];rfl);go_wp2_with (refine Va (.tmp 1) rfl rfl w.heap.size rfl (HG.out _ hb3) HIA.out ?_)
   refine(L1.out w3 hb3).mono ?_;rintro e w4 ⟨rfl,hb4⟩;go_wp2_with fail
   go_ret;exact⟨Aa (by rw[HZ.out]),HWB.out.trans ((hb3.trans (hb4.mono hb3.size)).mono HWS.out)⟩
  have q2:¬(c:Int)≤2048:=by omega
  have HZ:Hid (R=false):=Qd (by rw[HR.out,decide_eq_false h2];simp);go_wp2_with fail
  go_ret;exact⟨Aa (by rw[HZ.out]),HWB.out.trans (hb3.mono HWS.out)⟩
 have q1:¬(d:Int)≤40:=by omega
 have HZ:Hid (R=false):=Qd (by rw[HR.out,decide_eq_false h1];simp);go_wp2_with fail
 go_ret;exact⟨Aa (by rw[HZ.out]),HWB.out.trans (hb2.mono HWS.out)⟩
end
section
open Go.RowKit Tr
theorem Mv {s:ByteArray}{t:Da}(h:Bc s=some t):right t=true∧kind t=28:=by
 unfold Bc at h
 split at h
 ·split at h
  ·rename_i t' ht
   split at h
   ·rename_i hr
    injection h with h
    subst h;refine⟨hr,?_⟩;unfold Pr.lineT at ht
    split at ht
    ·injection ht with ht
     subst ht;rfl
    cases ht
   cases h
  cases h
 cases h
theorem Lu {t:Da}(h:right t=true):count t≤1000000:=by
 unfold right at h;simp only[Bool.and_eq_true,decide_eq_true_eq] at h;have:=h.1.2;omega
theorem Kaa:(Bc ⟨#[120,43,226,134,144,49]⟩).map (λt=>(kind t,(Be t).map (λk=>(kind k,Zb k))))=some (28,[(15,[120])]):=by kernel_rfl
theorem Vl (w:World):Calls Tryz.prog 12 #[] w (Oa w true):=by
 have LN:=Qd (Jm ⟨#[120,43,226,134,144,49]⟩ (by decide) w);have hg:=Kaa;obtain⟨HI⟩:Nonempty Vb:=⟨⟨0⟩⟩;go_enter Tryz.func12,Tryz.ntmps12
 go_wp2_with fail
 refine LN.out.mono ?_;rintro e w1 ⟨hb1,h⟩;rcases h with⟨t,x,ht,rfl,hT⟩ |⟨hn,_⟩
 ·rw[ht] at hg
  obtain⟨k,o,m,nm,tx,l⟩:=t;have hg2:(k,l.map (λk=>(kind k,Zb k)))=(28,[(15,[120])]):=Option.some.inj hg;injection hg2 with hk hl
  have hlen:l.length=1:=by have:=congrArg List.length hl;simpa using this
  obtain⟨c,rfl⟩:∃c,l=[c]:=by
   clear hl ht hT;cases l with
   |nil=>cases hlen
   |cons c r=>
    cases r with
    |nil=>exact⟨c,rfl⟩
    |cons _ _=>simp at hlen
  have hc:(kind c,Zb c)=(15,[120]):=by
   have:=congrArg (λl=>l[0]?) hl;exact Option.some.inj this
  injection hc with hck hcn
  obtain⟨A1,A2,A3,A4,c1,c2,c3,c4,us,hvs,HO,HL,HC⟩:=hT.open_;have hvs2:=C8.all hvs;obtain⟨xk,xo,xm,xg,xA1,xn1,xc1,xA2,xn2,xc2,xA3,xn3,xc3,xA4,xn4,xc4⟩:=x;obtain⟨h1,h2,h3,h4,h5,h6⟩:=hvs2;dsimp only at h1 h2 h3 h4 h5 h6;subst h4 h5 h6;obtain⟨b,off,B1,B2,B3,B4,d1,d2,d3,d4,rfl,hb,-,hat⟩:=Wg (i:=0) HC.out HL.out (λ_ _=>rfl) (by simp);have p0:=hat.p0;have p2:=hat.p2;rw[Nat.zero_mul,Nat.add_zero] at p0 p2;have e0:kind [c][0]=15:=hck;have e2:Zb [c][0]=[120]:=hcn;rw[e0] at p0;rw[e2] at p2;obtain⟨w2,hw2⟩:∃w2,w2=w1.alloc (.cells #[.int .i64 xk,.int .i64 xo,.string ⟨xm.toArray⟩,.bool xg,.slice xA1 xn1 xc1,.slice xA2 xn2 xc2,.slice xA3 xn3 xc3,.slice (some ⟨b,off,none⟩) 1 xc4] 28):=⟨_,rfl⟩;have hb2:Below w1.heap.size w1 w2:=by rw[hw2];exact(Below.refl _ _).alloc (Nat.le_refl _) _
  have q7:w2.cell? ⟨w1.heap.size,7,none⟩=some (.slice (some ⟨b,off,none⟩) 1 xc4):=(cell_of_row w2 w1.heap.size 7 _ _ _ (by rw[hw2];exact heap_alloc_new w1 _)).trans rfl;have q0:w2.cell? ⟨b,off,none⟩=some (.int .i64 15):=(hb2.cell (p:=⟨b,off,none⟩) hb).trans p0;have q2:w2.cell? ⟨b,off+2,none⟩=some (.string ⟨#[120]⟩):=(hb2.cell (p:=⟨b,off+2,none⟩) hb).trans p2;have HB2:Hid (Below w.heap.size w w2):=Qd (hb1.trans (hb2.mono hb1.size));have HW2:=Qd hw2;clear hlen hg ht hT hk hl hck hcn hvs HO HL HC hat p0 p2 e0 e2 hw2 hb2 hb1 h1 h2 h3 hb;go_upto_region 2 with fail
  rw[←HW2.out];go_wp2_with fail
  go_ret;exact⟨rfl,HB2.out⟩
 rw[hn] at hg;cases hg
theorem Un (s:ByteArray)(w:World)(hs:s.size≤maxLen)(_:True):
 Calls Tryz.prog 4 #[.string s] w λe w'=>e= .returned (.bool true)∧Below w.heap.size w w':=by
 have AW:=Qd (λwx=>Vl wx);have LNE:=Qd (λ(t:ByteArray) (h:t.size≤10000)=>Jm t h w);have hmax:(maxLen:Nat)=9223372036854775807:=rfl;go_enter Tryz.func4,Tryz.ntmps4
 go_upto_if 8 with fail
 go_cut [0] from 9 (λx0 wx=>wx=w∧∃t:ByteArray,x0= .string t∧t.size≤1200)
 case first=>
  by_cases hbig:1200<s.size
  ·go_wp2_with fail
   go_meet
   refine⟨rfl,_,rfl,?_⟩;rw[ByteArray.size_extract];omega
  go_wp2_with fail
  go_meet
  exact⟨rfl,s,rfl,by omega⟩
 case rest=>
  obtain⟨hwx,t,rfl,ht⟩:=hcut;rw[hwx];clear hwx hs;have LN:=Qd (LNE.out t (by omega));clear LNE;obtain⟨HI⟩:Nonempty Vb:=⟨⟨0⟩⟩;go_wp2_with fail
  refine LN.out.mono ?_;rintro e w1 ⟨hb1,h⟩;rcases h with⟨a,x,hga,rfl,hT⟩ |⟨hn,at_,f,hat,hf,rfl⟩
  ·have hra:right a=true∧kind a=28:=Mv hga
   obtain⟨hra,hka⟩:=hra;have hk:=(C8.eqs hT).1;obtain⟨w2,hw2⟩:∃w2,w2=w1.alloc (.cells #[.int .i64 x.k,.int .i64 x.o,.string ⟨x.m.toArray⟩,.bool x.g,.slice x.A1 x.n1 x.c1,.slice x.A2 x.n2 x.c2,.slice x.A3 x.n3 x.c3,.slice x.A4 x.n4 x.c4] 28):=⟨_,rfl⟩;have hb2:Below w1.heap.size w1 w2:=by rw[hw2];exact(Below.refl _ _).alloc (Nat.le_refl _) _
   have B2:Hid (w2.heap[w1.heap.size]? =some (.cells #[.int .i64 x.k,.int .i64 x.o,.string ⟨x.m.toArray⟩,.bool x.g,.slice x.A1 x.n1 x.c1,.slice x.A2 x.n2 x.c2,.slice x.A3 x.n3 x.c3,.slice x.A4 x.n4 x.c4] 28 (0,0))):=Qd (by rw[hw2];exact heap_alloc_new w1 _);have q0:w2.cell? ⟨w1.heap.size,0,none⟩=some (.int .i64 x.k):=(cell_of_row w2 w1.heap.size 0 _ _ _ B2.out).trans rfl;have q1:w2.cell? ⟨w1.heap.size,1,none⟩=some (.int .i64 x.o):=(cell_of_row w2 w1.heap.size 1 _ _ _ B2.out).trans rfl;have q2:w2.cell? ⟨w1.heap.size,2,none⟩=some (.string ⟨x.m.toArray⟩):=(cell_of_row w2 w1.heap.size 2 _ _ _ B2.out).trans rfl;have q3:w2.cell? ⟨w1.heap.size,3,none⟩=some (.bool x.g):=(cell_of_row w2 w1.heap.size 3 _ _ _ B2.out).trans rfl;have q4:w2.cell? ⟨w1.heap.size,4,none⟩=some (.slice x.A1 x.n1 x.c1):=(cell_of_row w2 w1.heap.size 4 _ _ _ B2.out).trans rfl;have q5:w2.cell? ⟨w1.heap.size,5,none⟩=some (.slice x.A2 x.n2 x.c2):=(cell_of_row w2 w1.heap.size 5 _ _ _ B2.out).trans rfl;have q6:w2.cell? ⟨w1.heap.size,6,none⟩=some (.slice x.A3 x.n3 x.c3):=(cell_of_row w2 w1.heap.size 6 _ _ _ B2.out).trans rfl;have q7:w2.cell? ⟨w1.heap.size,7,none⟩=some (.slice x.A4 x.n4 x.c4):=(cell_of_row w2 w1.heap.size 7 _ _ _ B2.out).trans rfl;have e28:(x.k==28)=true:=by rw[hk,hka];rfl
   have HB2:Hid (Below w.heap.size w w2):=Qd (hb1.trans (hb2.mono hb1.size));have RE:Hid (Calls Tryz.prog 13 #[.agg #[.int .i64 x.k,.int .i64 x.o,.string ⟨x.m.toArray⟩,.bool x.g,.slice x.A1 x.n1 x.c1,.slice x.A2 x.n2 x.c2,.slice x.A3 x.n3 x.c3,.slice x.A4 x.n4 x.c4]] w2 (Oa w2 (right a))):=Qd (Ku a x.l w2 w1.heap.size (hT.below hb2) hb2.size (Lu hra));rw[hra] at RE;have HW2:=Qd hw2;have hbs:w.heap.size≤w2.heap.size:=HB2.out.size;clear hga hT hra hka hk hw2 hb2 hb1;go_upto_region 4 with fail
   rw[←HW2.out];go_wp2_with fail
   refine RE.out.mono ?_;rintro e w3 ⟨rfl,hb3⟩;have HB3:Hid (Below w.heap.size w w3):=Qd (HB2.out.trans (hb3.mono hbs));have hbs3:w.heap.size≤w3.heap.size:=HB3.out.size;clear hb3;go_wp2_with fail
   refine(AW.out _).mono ?_;rintro e w4 ⟨rfl,hb4⟩;go_wp2_with fail
   go_ret;exact⟨rfl,HB3.out.trans (hb4.mono hbs3)⟩
  obtain⟨w2,hw2⟩:∃w2,w2=w1.alloc (.cells #[.int .i64 0,.int .i64 0,.string ⟨#[]⟩,.bool false,.slice none 0 0,.slice none 0 0,.slice none 0 0,.slice none 0 0] 28):=⟨_,rfl⟩;have hb2:Below w1.heap.size w1 w2:=by rw[hw2];exact(Below.refl _ _).alloc (Nat.le_refl _) _
  have B2:Hid (w2.heap[w1.heap.size]? =some (.cells #[.int .i64 0,.int .i64 0,.string ⟨#[]⟩,.bool false,.slice none 0 0,.slice none 0 0,.slice none 0 0,.slice none 0 0] 28 (0,0))):=Qd (by rw[hw2];exact heap_alloc_new w1 _);have q0:w2.cell? ⟨w1.heap.size,0,none⟩=some (.int .i64 0):=(cell_of_row w2 w1.heap.size 0 _ _ _ B2.out).trans rfl;have q7:w2.cell? ⟨w1.heap.size,7,none⟩=some (.slice none 0 0):=(cell_of_row w2 w1.heap.size 7 _ _ _ B2.out).trans rfl;have ef:(f !=0)=true:=by simpa using hf
  have HB2:Hid (Below w.heap.size w w2):=Qd (hb1.trans (hb2.mono hb1.size));have hbs:w.heap.size≤w2.heap.size:=HB2.out.size;have ha0:(0:Int)≤(at_:Int):=by omega
  have ha1:(at_:Int)≤(t.size:Int):=by omega
  have HW2:=Qd hw2;clear hn hf hw2 hb2 hb1;go_upto_region 4 with fail
  rw[←HW2.out];go_wp2_with fail
  refine(AW.out _).mono ?_;rintro e w4 ⟨rfl,hb4⟩;go_wp2_with fail
  go_ret;exact⟨rfl,HB2.out.trans (hb4.mono hbs)⟩
end
section
open Go.RowKit
theorem Et (s:ByteArray)(i:Nat)(h:i<s.size):s.get! i=s[i]:=by
 show s.data[i]! =s.data[i];exact getElem!_pos s.data i h
def J8 (s:ByteArray)(w:World)(e:Ending)(w':World):Prop:=∃b,e= .returned (.bool b)∧(b=false→Tk.noCom s)∧Below w.heap.size w w'
theorem Mu (s:ByteArray)(hs:s.size≤100000)(w:World):Calls Tryz.prog 14 #[.string s] w (J8 s w):=by
 go_enter Tryz.func14,Tryz.ntmps14
 go_wp2_with fail
 go_loopw [3] (λiv wr=>∃j:Nat,j≤s.size+1∧iv= .int .i64 (j:Int)∧Hid (∀i,i<j→i+2<s.size→¬(Gl.by_ s i=226∧Gl.by_ s (i+1)=141∧Gl.by_ s (i+2)=157))∧Below w.heap.size w wr) (λiv _=>s.size+2-(intOf iv).toNat)
 case atStart=>exact⟨0,Nat.zero_le _,rfl,Qd (λi h=>by omega),Below.refl _ _⟩
 case round=>
  obtain⟨j,hj,rfl,HI,hbel⟩:=hrel;have HB:=Qd hbel;clear hbel;have sw2:IntKind.i64.wrap ((j:Int)+2)=(j:Int)+2:=IntWalk.i64_in _ (by omega);have sw1:IntKind.i64.wrap ((j:Int)+1)=(j:Int)+1:=IntWalk.i64_in _ (by omega);by_cases hlt:j+2<s.size
  ·have hi2:(j:Int)+2<(s.size:Int):=by omega
   have hi1:(j:Int)+1<(s.size:Int):=by omega
   have hi0:(j:Int)<(s.size:Int):=by omega
   have z0:(0:Int)≤(j:Int):=by omega
   have z1:(0:Int)≤(j:Int)+1:=by omega
   have z2:(0:Int)≤(j:Int)+2:=by omega
   have b0:Gl.by_ s j=(s[j]'(by omega)).toNat:=by unfold Gl.by_;rw[Et s j (by omega)]
   have b1:Gl.by_ s (j+1)=(s[j+1]'(by omega)).toNat:=by unfold Gl.by_;rw[Et s (j+1) (by omega)]
   have b2:Gl.by_ s (j+2)=(s[j+2]'(by omega)).toNat:=by unfold Gl.by_;rw[Et s (j+2) (by omega)]
   have HS:Hid (¬(Gl.by_ s j=226∧Gl.by_ s (j+1)=141∧Gl.by_ s (j+2)=157)→Hid (∀i,i<j+1→i+2<s.size→¬(Gl.by_ s i=226∧Gl.by_ s (i+1)=141∧Gl.by_ s (i+2)=157))):=Qd (λh=>Qd (λi hi hi2=>by
    by_cases e:i=j
    ·subst e;exact h
    exact HI.out i (by omega) hi2))
   by_cases c0:(s[j]'(by omega)).toNat=226
   ·have f0:(((s[j]'(by omega)).toNat:Int)==226)=true:=by simp;omega
    by_cases c1:(s[j+1]'(by omega)).toNat=141
    ·have f1:(((s[j+1]'(by omega)).toNat:Int)==141)=true:=by simp;omega
     by_cases c2:(s[j+2]'(by omega)).toNat=157
     ·have f2:(((s[j+2]'(by omega)).toNat:Int)==157)=true:=by simp;omega
      clear b0 b1 b2 HS c0 c1 c2;go_wp2_with fail
      go_ret;exact⟨true,rfl,(λh=>by cases h),HB.out⟩
     have f2:(((s[j+2]'(by omega)).toNat:Int)==157)=false:=by simp;omega
     have HX:=Qd (HS.out (λh=>c2 (by rw[←b2];exact h.2.2)));clear b0 b1 b2 HS c0 c1 c2;go_wp2_with fail
     go_roundw
     case rel=>exact⟨j+1,by omega,by go_num,HX.out,HB.out⟩
     case measure=>simp[intOf];omega
    have f1:(((s[j+1]'(by omega)).toNat:Int)==141)=false:=by simp;omega
    have HX:=Qd (HS.out (λh=>c1 (by rw[←b1];exact h.2.1)));clear b0 b1 b2 HS c0 c1;go_wp2_with fail
    go_roundw
    case rel=>exact⟨j+1,by omega,by go_num,HX.out,HB.out⟩
    case measure=>simp[intOf];omega
   have f0:(((s[j]'(by omega)).toNat:Int)==226)=false:=by simp;omega
   have HX:=Qd (HS.out (λh=>c0 (by rw[←b0];exact h.1)));clear b0 b1 b2 HS c0;go_wp2_with fail
   go_roundw
   case rel=>exact⟨j+1,by omega,by go_num,HX.out,HB.out⟩
   case measure=>simp[intOf];omega
  have hi2:¬(j:Int)+2<(s.size:Int):=by omega
  have HN:Hid (Tk.noCom s):=Qd (λi hi=>HI.out i (by omega) hi);go_wp2_with fail
  go_ret;exact⟨false,rfl,λ_=>HN.out,HB.out⟩
end
end Go.Proofs.YtceplkpjnebnfaaGreatDoor
