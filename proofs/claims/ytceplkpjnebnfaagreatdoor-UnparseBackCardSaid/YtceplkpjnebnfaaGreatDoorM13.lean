/- Texts of this proof, joined. -/
import Derived.Test.YtceplkpjnebnfaaGreatDoorM12
import Derived.Laws.EntriesVeiled
import Derived.Deep.WholeRow
set_option linter.all false
set_option maxHeartbeats 8000000
set_option maxRecDepth 100000
namespace Go.Proofs.YtceplkpjnebnfaaGreatDoor
section
open Go.RowKit
end
section
open Go.RowKit Tr
def Mj (b:Bool)(k:Int):Bool:=array k||(k==27)||(b&&((k==25)||(k==26)))
theorem Vv {l:List Tree}{b:Bool}{i:Nat}(hi:i<l.length)(h:Mj b (kind l[i])=false):Cd (l.map kind) b=false:=by
 unfold Cd;rw[show(l.map kind).all (λx=>array x||(x==27)||(b&&((x==25)||(x==26))))=false from List.all_eq_false.2 ⟨kind l[i],List.mem_map_of_mem (List.getElem_mem hi),by rw[show(array (kind l[i])||(kind l[i]==27)||(b&&((kind l[i]==25)||(kind l[i]==26))))=false from h];simp⟩];rfl
theorem Vu {l:List Tree}{b:Bool}(h:∀i (hi:i<l.length),Mj b (kind l[i])=true):Cd (l.map kind) b=decide (0<l.length):=by
 unfold Cd;rw[show(l.map kind).all (λx=>array x||(x==27)||(b&&((x==25)||(x==26))))=true from List.all_eq_true.2 (λx hx=>by
  obtain⟨a,ha,rfl⟩:=List.mem_map.1 hx;obtain⟨i,hi,rfl⟩:=List.mem_iff_getElem.1 ha;exact h i hi)]
 cases l<;>simp
theorem Us (a:Tree)(vs:List Value)(br:Bool)(w:World)(B:Nat)(h:IsTree w B a vs)(hB:B<=w.heap.size):
 Calls Tryz.prog 94 #[.agg vs.toArray,.bool br] w (La w (Cd ((kids a).map kind) br)):=by
 obtain⟨k,o,m,nm,t,l⟩:=a;show Calls _ _ _ _ (La w (Cd (l.map kind) br));obtain⟨W,hW⟩:∃W,W=w.alloc (.cells vs.toArray 28):=⟨_,rfl⟩;obtain⟨A1,A2,A3,A4,c1,c2,c3,c4,us,HO,HL,HC,hW8,HG,hWl,hWb⟩:=Vb h hW;have hf4:=HO.out.f4.le (by omega);have q7:W.cell? ⟨w.heap.size,7,none⟩=some (.slice A4 l.length c4):=hW8.p7;have HQ:=Qd q7;have HKB:Hid (∀wx,Below W.heap.size W wx->∀p:Addr,p.block<B->wx.cell? p=w.cell? p):=Qd (λwx hx p hp=>by rw[hx.cell (by omega),hWb.cell (by omega)]);have HWB:=Qd hWb;have HWS:Hid (w.heap.size<=W.heap.size):=Qd (by omega);have HW:=Qd hW;have KB:Hid (∀i (hi:i<l.length),Mj br (kind l[i])=false->Cd (l.map kind) br=false):=Qd (λi hi h=>Vv hi h);have KG:=Qd (@Vu l br);have AR:=Qd (λ(k:Int) (wx:World)=>Vl k wx);generalize Cd (l.map kind) br=R at*;clear h hW hW8 HO HG hWb;go_enter Tryz.func94,Tryz.ntmps94
 go_upto_region 1 with fail
 rw[<-HW.out];go_wp2_with fail
 go_loopw [5] (λi wr=>∃(j:Nat),j<=l.length/\i= .int .i64 j/\Hid (∀i (hi:i<l.length),i<j->Mj br (kind l[i])=true)/\Below W.heap.size W wr) (λi _=>l.length-(intOf i).toNat)
 case atStart=>exact⟨0,Nat.zero_le _,rfl,Qd (λi hi h=>by omega),Br⟩
 case round=>
  obtain⟨j,hj,rfl,HI,hbel⟩:=hrel;have hbox:wr.cell? ⟨w.heap.size,7,none⟩=some (.slice A4 l.length c4):=(hbel.cell (p:=⟨w.heap.size,7,none⟩) hWl).trans HQ.out;by_cases hlt:j<l.length
  ·obtain⟨b,off,B1,B2,B3,B4,e1,e2,e3,e4,rfl,hb,HT,h8⟩:=Fq HC.out HL.out (HKB.out wr hbel) hlt
   have g0:wr.cell? ⟨b,off+j*8,none⟩=some (.int .i64 (kind l[j])):=h8.p0;have K1:=Qd (AR.out (kind l[j]) wr);have HS:Hid (Mj br (kind l[j])=true->∀i (hi:i<l.length),i<j+1->Mj br (kind l[i])=true):=Qd (λh i hi hij=>by
    by_cases e:i=j
    ·subst e;exact h
    exact HI.out i hi (by omega))
   have HF:=Qd (KB.out j hlt);have HE:Hid (Mj br (kind l[j])=(array (kind l[j])||(kind l[j]==27)||(br&&((kind l[j]==25)||(kind l[j]==26))))):=Qd rfl;clear h8 HT;generalize Mj br (kind l[j])=r at*;generalize array (kind l[j])=x at*;generalize kind l[j]=kj at*;have hcase:r=true\/r=false:=by cases r<;>simp
   have q27:(kj !=27)= !(kj==27):=rfl;cases x
   ·by_cases h27:kj=27
    ·have HN:=Qd (HS.out (by rw[HE.out,show(kj==27)=true by simpa using h27];simp))
     rw[show(kj==27)=true by simpa using h27,Bool.not_true] at q27;clear h27;go_wp2_with fail
     refine K1.out.mono ?_;rintro e w2 ⟨rfl,rfl⟩;go_wp2_with fail
     go_roundw
     case rel=>exact⟨j+1,by omega,by go_num,HN,hbel⟩
     case measure=>simp[intOf];omega
    have p27:(kj==27)=false:=by simpa using h27
    rw[p27] at HE;rw[p27,Bool.not_false] at q27;cases br
    ·have HZ:=Qd (HF.out (by rw[HE.out];rfl))
     go_wp2_with fail
     refine K1.out.mono ?_;rintro e w2 ⟨rfl,rfl⟩;go_wp2_with fail
     go_ret;exact⟨Aa (by rw[HZ.out]),HWB.out.trans (hbel.mono HWS.out)⟩
    cases h25:(kj==25)
    ·cases h26:(kj==26)
     ·have HZ:=Qd (HF.out (by rw[HE.out,h25,h26];rfl))
      go_wp2_with fail
      refine K1.out.mono ?_;rintro e w2 ⟨rfl,rfl⟩;go_wp2_with fail
      go_ret;exact⟨Aa (by rw[HZ.out]),HWB.out.trans (hbel.mono HWS.out)⟩
     have HN:=Qd (HS.out (by rw[HE.out,h25,h26];rfl));go_wp2_with fail
     refine K1.out.mono ?_;rintro e w2 ⟨rfl,rfl⟩;go_wp2_with fail
     go_roundw
     case rel=>exact⟨j+1,by omega,by go_num,HN,hbel⟩
     case measure=>simp[intOf];omega
    have HN:=Qd (HS.out (by rw[HE.out,h25];rfl));go_wp2_with fail
    refine K1.out.mono ?_;rintro e w2 ⟨rfl,rfl⟩;go_wp2_with fail
    go_roundw
    case rel=>exact⟨j+1,by omega,by go_num,HN,hbel⟩
    case measure=>simp[intOf];omega
   have HN:=Qd (HS.out (by rw[HE.out];simp));go_wp2_with fail
   refine K1.out.mono ?_;rintro e w2 ⟨rfl,rfl⟩;go_wp2_with fail
   go_roundw
   case rel=>exact⟨j+1,by omega,by go_num,HN,hbel⟩
   case measure=>simp[intOf];omega
  have HZ:=Qd (KG.out (λi hi=>HI.out i hi (by omega)));by_cases hl0:0<l.length
  ·have ql:(0:Int)<(l.length:Int):=by omega
   go_wp2_with fail
   go_ret;exact⟨Aa (by rw[HZ.out,decide_eq_true hl0]),HWB.out.trans (hbel.mono HWS.out)⟩
  have ql:¬(0:Int)<(l.length:Int):=by omega
  go_wp2_with fail
  go_ret;exact⟨Aa (by rw[HZ.out,decide_eq_false hl0]),HWB.out.trans (hbel.mono HWS.out)⟩
theorem D7 (A:Option Addr)(c:Nat)(l:List Int)(w:World)(B:Nat)(hl:Lies w B A (Sa l))(hn:l.length<=17592186044416):
 Calls Tryz.prog 149 #[.slice A l.length c] w (Qh w (l.all Gl.may)):=by
 have HL:=Qd hl;have MY:=Qd (λ(x:Int) (wx:World)=>Qu x wx);have KB:Hid (∀i (hi:i<l.length),Gl.may l[i]=false->l.all Gl.may=false):=Qd (λi hi h=>List.all_eq_false.2 ⟨l[i],List.getElem_mem hi,by rw[h];simp⟩);have KG:Hid ((∀i (hi:i<l.length),Gl.may l[i]=true)->l.all Gl.may=true):=Qd (λh=>List.all_eq_true.2 (λx hx=>by obtain⟨i,hi,rfl⟩:=List.mem_iff_getElem.1 hx;exact h i hi));generalize l.all Gl.may=R at*;clear hl;go_enter Tryz.func149,Tryz.ntmps149
 go_wp2_with fail
 go_loopw [3] (λi wr=>∃(j:Nat),j<=l.length/\i= .int .i64 j/\Hid (∀i (hi:i<l.length),i<j->Gl.may l[i]=true)/\w=wr) (λi _=>l.length-(intOf i).toNat)
 case atStart=>exact⟨0,Nat.zero_le _,rfl,Qd (λi hi h=>by omega),rfl⟩
 case round=>
  obtain⟨j,hj,rfl,HI,rfl⟩:=hrel;by_cases hlt:j<l.length
  ·obtain⟨b,off,rfl,hb,g0⟩:=Hb HL.out hlt
   have M1:=Qd (MY.out l[j] w);have HS:Hid (Gl.may l[j]=true->∀i (hi:i<l.length),i<j+1->Gl.may l[i]=true):=Qd (λh i hi hij=>by
    by_cases e:i=j
    ·subst e;exact h
    exact HI.out i hi (by omega))
   have HF:=Qd (KB.out j hlt);generalize Gl.may l[j]=r at*;generalize l[j]=x at*;cases r
   ·have HZ:=Qd (HF.out rfl)
    go_wp2_with fail
    refine M1.out.mono ?_;rintro e w2 ⟨rfl,rfl⟩;go_wp2_with fail
    go_ret;exact⟨Aa (by rw[HZ.out]),rfl⟩
   have HN:=Qd (HS.out rfl);go_wp2_with fail
   refine M1.out.mono ?_;rintro e w2 ⟨rfl,rfl⟩;go_wp2_with fail
   go_roundw
   case rel=>exact⟨j+1,by omega,by go_num,HN,by first|rfl |trivial⟩
   case measure=>simp[intOf];omega
  have HZ:=Qd (KG.out (λi hi=>HI.out i hi (by omega)));go_wp2_with fail
  go_ret;exact⟨Aa (by rw[HZ.out]),rfl⟩
def U9 (w:World)(l:List Int)(n:Nat)(e:Ending)(w':World):Prop:=∃A,e= .returned (.slice A l.length n)/\Lies w' w'.heap.size A (Sa l)/\Below w.heap.size w w'
theorem Oy (w:World):Calls Tryz.prog 144 #[] w (U9 w monops 6):=by
 go_enter Tryz.func144,Tryz.ntmps144
 go_wp2_with fail
 go_ret;refine⟨_,rfl,.inr ⟨w.heap.size,0,rfl,by simp,λj v hv=>?_⟩,Br.alloc Lr _⟩;rw[Nat.zero_add];rw[cell_of_row _ w.heap.size j _ _ _ (heap_alloc_new w _)];rw[List.getElem?_toArray];exact hv
theorem V4 (w:World):Calls Tryz.prog 145 #[] w (U9 w dyops 4):=by
 go_enter Tryz.func145,Tryz.ntmps145
 go_wp2_with fail
 go_ret;refine⟨_,rfl,.inr ⟨w.heap.size,0,rfl,by simp,λj v hv=>?_⟩,Br.alloc Lr _⟩;rw[Nat.zero_add];rw[cell_of_row _ w.heap.size j _ _ _ (heap_alloc_new w _)];rw[List.getElem?_toArray];exact hv
end
section
open Go.RowKit Tr
theorem Poa (l:List Int)(x:Int):decide (x∈l)=l.contains x:=by rw[Bool.eq_iff_iff,decide_eq_true_eq,List.contains_iff_mem]
theorem Wu {w w':World}{A:Option Addr}{vs:List Value}(h:Lies w w.heap.size A vs)(hb:Below w.heap.size w w'):Lies w' w'.heap.size A vs:=(h.keep (λ_ hp=>hb.cell hp)).more hb.size
theorem Ck (A:Option Addr)(n:Nat)(l:List Int)(x:Int)(w:World)(hl:Lies w w.heap.size A (Sa l))(hn:l.length<=1000000):
 Calls Tryz.prog 132 #[.slice A l.length n,.int .i64 x] w (Qh w (l.contains x)):=by
 rw[<-Poa];exact Hx A n l x w hl hn
theorem Xu (a:Tree)(vs:List Value)(w:World)(B:Nat)(h:IsTree w B a vs)(hB:B<=w.heap.size):
 Calls Tryz.prog 95 #[.agg vs.toArray] w (La w (Ue (kind a) (op a) (Va (op a) (Bc a) (num a) (text a)) ((kids a).map kind))):=by
 have F0:=Yk a vs;have K0:=Uu a vs [102] false;obtain⟨k,o,m,nm,t,l⟩:=a;obtain⟨A1,A2,A3,A4,c1,c2,c3,c4,us,W,rfl,HW,HO,HL,HC,H8,HT,HSB,END,HKB⟩:=Gs h hB 28;simp only[kind,op,Bc,num,text,kids] at F0 K0⊢;have hf4:=HO.out.f4.le (by omega);have FD:=Qd (F0 W B (HT.out W Br) (HSB.out W Br));have KK:=Qd (λwx hx=>K0 wx B (HT.out wx hx) (HSB.out wx hx) (by decide) (by decide) (by decide));generalize Va o m nm t=f at*;obtain⟨R,hR⟩:∃R,R=Ue k o f (l.map kind):=⟨_,rfl⟩;rw[<-hR];have HR:=Qd hR;clear h hB F0 K0 hR HT HO;go_enter Tryz.func95,Tryz.ntmps95
 go_upto_region 1 with fail
 rw[<-HW.out];obtain⟨q0,q1,q2,q3,q4,q5,q6,q7⟩:=H8.out W Br;go_wp2_with fail
 clear q0 q1 q2 q3 q4 q5 q6 q7;refine FD.out.mono ?_;rintro e w2 ⟨rfl,hb2⟩;obtain⟨q0,q1,-,-,-,-,-,q7⟩:=H8.out w2 hb2;by_cases hf1:f=1
 ·subst hf1
  by_cases hk:k=22
  ·subst hk
   have HC1:Hid (∀w1,Below w2.heap.size w2 w1->w1.cell? ⟨w.heap.size,1,none⟩=some (.int .i64 o)):=Qd (λw1 hb=>(H8.out w1 (El hb2 hb)).p1);have H8b:Hid (∀w1,Below w2.heap.size w2 w1->At8 w1 w.heap.size 0 22 o m nm t l.length A1 A2 A3 A4 c1 c2 c3 c4):=Qd (λw1 hb=>H8.out w1 (El hb2 hb));go_upto_region 4 with fail
   generalize hK:Gb (l.map kind) [102] false=K at*;obtain⟨T,hT⟩:∃T,T=monops.contains o:=⟨_,rfl⟩;have IN:=Qd (λA w1 (h:Lies w1 w1.heap.size A (Sa monops))=>Ck A 6 monops o w1 h (by decide));rw[<-hT] at IN;have HT:=Qd hT;clear hT;refine Sk (λxs=>{tmps:= #[_,_,xs 8,_,_,_,_,_,_,_,xs 0,xs 1,xs 2,xs 3,xs 4,xs 5,xs 6,xs 7,_,_,_,_,_,_,_,_,_,_,_,_,_,_,_,_,_,_,_,_,_,_,_,_,_,_,_,_,_,_,_,_,_,_,_,_,_,_,_,_,_],defers:=[]}) w2
    [pq (λw v=>∃A,v= .slice A monops.length 6/\Lies w w.heap.size A (Sa monops)) (λw w' v h hb=>by obtain⟨A,e,h⟩:=h;exact⟨A,e,Wu h hb⟩),pv (.pointer (some ⟨w.heap.size,1,none⟩)),pv (.int .i64 o),pv (.bool T),pv (.bool T),pv (cond T (.agg #[.int .i64 22,.int .i64 o,.string ⟨m.toArray⟩,.bool nm.neg,.slice A1 nm.top.length c1,.slice A2 nm.bot.length c2,.slice A3 t.length c3,.slice A4 l.length c4]) undef),pv (cond T (.bool K) undef),pv (.bool (T&&K)),pv (.bool (T&&K))] 9
    (by kernel_rfl) (by kernel_rfl) (by kernel_rfl) (Xaa [_,_,_,_,_,_,_,_,_]) rfl Br ?_ ?_
   ·cases T
    all_goals
     simp only[Mv]
     and_intros
    all_goals try trivial
    all_goals
     intro xs w1 hb hd hv;simp[Ii,Ob,Region.binds,pv,pq] at hv
     first
      |(refine Ca rfl rfl ?_;unfold Oper.wp;go_simp;(with_reducible refine(Oy w1).mono ?_);rintro e w3 ⟨A,rfl,hA,hb3⟩;refine⟨_,?_,⟨A,rfl,hA⟩,hb3⟩;simp only[Ja];simp;done)
      |(obtain⟨A,h0,hA⟩:=hd 0 (by rfl);refine Ca rfl rfl ?_;unfold Oper.wp;simp only[hv,h0];go_simp;(with_reducible refine(IN.out A w1 hA).mono ?_);rintro e w3 ⟨rfl,rfl⟩;refine⟨_,?_,rfl,Br⟩;simp only[Ja];simp[hv,h0];done)
      |(refine Ca rfl rfl ?_;have q:=HC1.out w1 hb;unfold Oper.wp;(try simp only[hv]);go_simp;refine⟨_,?_,rfl,Br⟩;simp only[Ja];first|(simp[hv];done) |(simp;done))
      |(refine Rk rfl ?_ ?_;(focus (simp[Region.wanted,yielded,hv];done));refine⟨_,?_,rfl,Br⟩;simp only[Ja];simp[Act.put];done)
      |(refine Uh rfl ?_ ?_;(focus (simp[Region.wanted,yielded,hv];done));obtain⟨q0,q1,q2,q3,q4,q5,q6,q7⟩:=H8b.out w1 hb;unfold Oper.wp;simp only[hv];go_simp;first|(refine⟨_,?_,rfl,Br⟩;simp only[Ja];simp[hv];done) |((with_reducible refine(KK.out w1 (El hb2 hb)).mono ?_);rintro e w3 ⟨rfl,hb3⟩;refine⟨_,?_,rfl,hb3⟩;simp only[Ja];simp[hv];done))
      |fail
   intro xs w1 hb hx hv;simp[Ii,pv,pq] at hv;simp only[hv];go_wp2_with fail
   go_ret;exact⟨Aa (by rw[HR.out,Ue,if_pos rfl,if_pos rfl,<-HT.out,hK]),END.out _ (El hb2 hb)⟩
  have hk2:(k==22)=false:=beq_eq_false_iff_ne.2 hk;have HRR:Hid (R=if dyops.contains o=false\/l.length≠2\/func ((l.map kind).getD 0 0)=false then false else if(o==0x2364)=true then array ((l.map kind).getD 1 0) else plain ((l.map kind).getD 1 0)||((o==0x2363)&&array ((l.map kind).getD 1 0))):=Qd (by rw[HR.out,Ue,if_pos rfl,if_neg hk,List.length_map];simp only[beq_iff_eq]);have IN:=Qd (λA w1 (h:Lies w1 w1.heap.size A (Sa dyops))=>Ck A 4 dyops o w1 h (by decide));generalize dyops.contains o=T at*;obtain⟨b4,off4,H2⟩:∃b4 off4,l.length=2->A4=some ⟨b4,off4,none⟩/\∀w1,Below w2.heap.size w2 w1->w1.cell? ⟨b4,off4,none⟩=some (.int .i64 ((l.map kind).getD 0 0))/\w1.cell? ⟨b4,off4+8,none⟩=some (.int .i64 ((l.map kind).getD 1 0)):=by
   by_cases h2:l.length=2
   ·have hrow:∀(i:Nat) (hi:i<l.length) (w1:World),Below w2.heap.size w2 w1->∃b off,A4=some ⟨b,off,none⟩/\w1.cell? ⟨b,off+i*8,none⟩=some (.int .i64 ((l.map kind).getD i 0)):=λi hi w1 hb=>by
     obtain⟨b',off',B1,B2,B3,B4,e1,e2,e3,e4,e,hb',HT,h8⟩:=Fq HC.out HL.out (HKB.out w1 (El hb2 hb)) hi;exact⟨b',off',e,by rw[List.getD_eq_getElem?_getD,List.getElem?_map,List.getElem?_eq_getElem hi];exact h8.p0⟩
    obtain⟨b,off,e,-⟩:=hrow 0 (by omega) w2 Br;refine⟨b,off,λ_=>⟨e,λw1 hb=>⟨?_,?_⟩⟩⟩
    ·obtain⟨b',off',e',h⟩:=hrow 0 (by omega) w1 hb
     rw[e] at e';injection e' with e'
     injection e' with e1 e2
     subst e1 e2
     simpa using h
    obtain⟨b',off',e',h⟩:=hrow 1 (by omega) w1 hb;rw[e] at e';injection e' with e'
    injection e' with e1 e2
    subst e1 e2
    simpa using h
   exact⟨0,0,λh=>absurd h h2⟩
  have H2b:=Qd H2;obtain⟨n2,hn2⟩:∃n2,n2=((l.length:Int)!=2):=⟨_,rfl⟩;have HN2:Hid (n2=false->l.length=2):=Qd (λh=>by rw[h] at hn2;have:=hn2.symm;simp at this;omega);have HN4:Hid (n2=true->l.length≠2):=Qd (λh e=>by rw[h,e] at hn2;simp at hn2);have HN3:Hid (((l.length:Int)!=2)=n2):=Qd hn2.symm;generalize(l.map kind).getD 0 0=k0 at*;generalize(l.map kind).getD 1 0=k1 at*;have FN:=Qd (λwx=>Ou k0 wx);have AR:=Qd (λwx=>Vl k1 wx);have PL:=Qd (λwx=>Nr k1 wx);generalize func k0=F at*;have H8b:Hid (∀w1,Below w2.heap.size w2 w1->At8 w1 w.heap.size 0 k o m nm t l.length A1 A2 A3 A4 c1 c2 c3 c4):=Qd (λw1 hb=>H8.out w1 (El hb2 hb));clear H2 hn2 HL HC HKB hk HR;go_upto_region 5 with fail
  refine Sk (λxs=>{tmps:= #[_,_,_,_,_,_,_,_,_,_,_,_,_,_,_,_,_,_,xs 0,xs 1,xs 2,xs 3,xs 4,xs 5,xs 6,xs 7,xs 8,xs 9,xs 10,xs 11,xs 12,xs 13,xs 14,xs 15,xs 16,xs 17,xs 18,xs 19,_,_,_,_,_,_,_,_,_,_,_,_,_,_,_,_,_,_,_,_,_],defers:=[]}) w2
   [pq (λw v=>∃A,v= .slice A dyops.length 4/\Lies w w.heap.size A (Sa dyops)) (λw w' v h hb=>by obtain⟨A,e,h⟩:=h;exact⟨A,e,Wu h hb⟩),pv (.pointer (some ⟨w.heap.size,1,none⟩)),pv (.int .i64 o),pv (.bool T),pv (.bool !T),pv (.bool !T),pv (cond T (.pointer (some ⟨w.heap.size,7,none⟩)) undef),pv (cond T (.slice A4 l.length c4) undef),pv (cond T (.int .i64 l.length) undef),pv (cond T (.bool n2) undef),pv (.bool (!T||n2)),pv (.bool (!T||n2)),
    pv (cond (T&& !n2) (.pointer (some ⟨w.heap.size,7,none⟩)) undef),pv (cond (T&& !n2) (.slice A4 l.length c4) undef),pv (cond (T&& !n2) (.pointer (some ⟨b4,off4,none⟩)) undef),pv (cond (T&& !n2) (.pointer (some ⟨b4,off4,none⟩)) undef),pv (cond (T&& !n2) (.int .i64 k0) undef),pv (cond (T&& !n2) (.bool F) undef),pv (cond (T&& !n2) (.bool !F) undef),pv (.bool (!T||n2|| !F))] 20
   (by kernel_rfl) (by kernel_rfl) (by kernel_rfl) (Xaa [_,_,_,_,_,_,_,_,_,_,_,_,_,_,_,_,_,_,_,_]) rfl Br ?_ ?_
  ·cases T<;>cases n2
   all_goals
    simp only[Mv]
    and_intros
   all_goals try trivial
   all_goals
    intro xs w1 hb hd hv;simp[Ii,Ob,Region.binds,pv,pq] at hv;obtain⟨q0,q1,q2,q3,q4,q5,q6,q7⟩:=H8b.out w1 hb;have q8:=HN3.out
    try (obtain⟨rfl,hcc⟩:=H2b.out (HN2.out rfl);obtain⟨r0,-⟩:=hcc w1 hb;have hnp:(0:Int)<(l.length:Int):=(by have:=HN2.out rfl;omega);have hn5:0<l.length:=(by have:=HN2.out rfl;omega))
    first
     |(refine Ca rfl rfl ?_;unfold Oper.wp;go_simp;(with_reducible refine(V4 w1).mono ?_);rintro e w3 ⟨A,rfl,hA,hb3⟩;refine⟨_,?_,⟨A,rfl,hA⟩,hb3⟩;simp only[Ja];simp;done)
     |(obtain⟨A,h0,hA⟩:=hd 0 (by rfl);refine Ca rfl rfl ?_;unfold Oper.wp;simp only[hv,h0];go_simp;(with_reducible refine(IN.out A w1 hA).mono ?_);rintro e w3 ⟨rfl,rfl⟩;refine⟨_,?_,rfl,Br⟩;simp only[Ja];simp[hv,h0];done)
     |(refine Ca rfl rfl ?_;unfold Oper.wp;(try simp only[hv]);go_simp;refine⟨_,?_,rfl,Br⟩;simp only[Ja];first|(simp[hv];done) |(simp;done))
     |(refine Rk rfl ?_ ?_;(focus (simp[Region.wanted,yielded,hv];done));refine⟨_,?_,rfl,Br⟩;simp only[Ja];simp[Act.put];done)
     |(refine Uh rfl ?_ ?_;(focus (simp[Region.wanted,yielded,hv];done));unfold Oper.wp;simp only[hv];go_simp;first|(refine⟨_,?_,rfl,Br⟩;simp only[Ja];simp[hv];done) |((with_reducible refine(FN.out w1).mono ?_);rintro e w3 ⟨rfl,rfl⟩;refine⟨_,?_,rfl,Br⟩;simp only[Ja];simp[hv];done))
     |fail
  intro xs w1 hb hx hv;obtain⟨q0,q1,q2,q3,q4,q5,q6,q7⟩:=H8b.out w1 hb;simp[Ii,pv,pq] at hv;simp only[hv];cases T<;>cases n2<;>cases F
  all_goals try (obtain⟨rfl,hcc⟩:=H2b.out (HN2.out rfl);obtain⟨-,r1⟩:=hcc w1 hb;clear hcc;have hnp:(1:Int)<(l.length:Int):=(by have:=HN2.out rfl;omega);have hn5:1<l.length:=(by have:=HN2.out rfl;omega))
  all_goals go_wp2_with fail
  all_goals try ((first|(with_reducible refine(AR.out _).mono ?_) |(with_reducible refine(PL.out _).mono ?_));rintro e w3 ⟨rfl,rfl⟩;go_wp2_with fail)
  all_goals try ((with_reducible refine(AR.out _).mono ?_);rintro e w3 ⟨rfl,rfl⟩;go_wp2_with fail)
  all_goals
   go_ret;refine⟨Aa ?_,END.out _ (El hb2 hb)⟩;rw[HRR.out]
   first|(simp;done) |(have e2:l.length=2:=(by apply HN2.out;first|rfl |trivial |fail);rw[if_neg (by simp[e2])];first|rw[if_pos ‹(o==9060)=true›] |(rw[if_neg (by simp[‹(o==9060)=false›])];first|(simp[‹plain k1=true›];done) |(simp[‹¬plain k1=true›,‹o=9059›];done) |(simp[‹¬plain k1=true›,‹¬o=9059›];done))) |(have e2:l.length≠2:=(by apply HN4.out;first|rfl |trivial |fail);simp[e2];done) |(simp;done)
 go_wp2_with fail
 go_ret;exact⟨Aa (by rw[HR.out,Ue,if_neg hf1]),END.out _ hb2⟩
end
section
open Go.RowKit Tr
structure FunK (w:World) (B:Nat) (F:FuncId) (caps:Array Value) (p:Int->Bool):Prop where
 enter:∀args w,(callFunc F args).run Tryz.prog w= .ok (.enter F args) w
 run:∀(a:Tree) (vs:List Value) (wx:World),Below w.heap.size w wx->IsTree wx B a vs->Calls Tryz.prog F (#[.agg vs.toArray]++caps) wx (La wx (p (kind a)))
theorem FunK.later {w w':World}{B:Nat}{F:FuncId}{caps:Array Value}{p:Int->Bool}(h:FunK w B F caps p)(hb:Below w.heap.size w w'):FunK w' B F caps p:=
 ⟨h.enter,λa vs wx hx ht=>h.run a vs wx (hb.trans (hx.mono hb.size)) ht⟩
theorem Sr (a:Tree)(vs:List Value)(w:World)(B:Nat)(h:IsTree w B a vs):Calls Tryz.prog 112 #[.agg vs.toArray] w (La w (array (kind a))):=by
 obtain⟨k,o,m,nm,t,l⟩:=a;show Calls _ _ _ _ (La w (array k));obtain⟨W,hW⟩:∃W,W=w.alloc (.cells vs.toArray 28):=⟨_,rfl⟩;obtain⟨A1,A2,A3,A4,c1,c2,c3,c4,us,HO,HL,HC,hW8,HG,hWl,hWb⟩:=Vb h hW;have q0:W.cell? ⟨w.heap.size,0,none⟩=some (.int .i64 k):=hW8.p0;have HWB:=Qd hWb;have HW:=Qd hW;have AR:=Qd (λwx=>Lj k wx);generalize array k=x at*;clear h hW hW8 HO HL HC HG hWb;go_enter Tryz.func112,Tryz.ntmps112
 go_upto_region 1 with fail
 rw[<-HW.out];go_wp2_with fail
 refine(AR.out _).mono ?_;rintro e w1 ⟨rfl,rfl⟩;go_wp2_with fail
 go_ret;exact⟨rfl,HWB.out⟩
theorem Py (a:Tree)(vs:List Value)(w:World)(B:Nat)(h:IsTree w B a vs):Calls Tryz.prog 114 #[.agg vs.toArray] w (La w (func (kind a))):=by
 obtain⟨k,o,m,nm,t,l⟩:=a;show Calls _ _ _ _ (La w (func k));obtain⟨W,hW⟩:∃W,W=w.alloc (.cells vs.toArray 28):=⟨_,rfl⟩;obtain⟨A1,A2,A3,A4,c1,c2,c3,c4,us,HO,HL,HC,hW8,HG,hWl,hWb⟩:=Vb h hW;have q0:W.cell? ⟨w.heap.size,0,none⟩=some (.int .i64 k):=hW8.p0;have HWB:=Qd hWb;have HW:=Qd hW;have AR:=Qd (λwx=>Pja k wx);generalize func k=x at*;clear h hW hW8 HO HL HC HG hWb;go_enter Tryz.func114,Tryz.ntmps114
 go_upto_region 1 with fail
 rw[<-HW.out];go_wp2_with fail
 refine(AR.out _).mono ?_;rintro e w1 ⟨rfl,rfl⟩;go_wp2_with fail
 go_ret;exact⟨rfl,HWB.out⟩
theorem Bca (a:Tree)(vs:List Value)(w:World)(B:Nat)(h:IsTree w B a vs):Calls Tryz.prog 117 #[.agg vs.toArray] w (La w (plain (kind a))):=by
 obtain⟨k,o,m,nm,t,l⟩:=a;show Calls _ _ _ _ (La w (plain k));obtain⟨W,hW⟩:∃W,W=w.alloc (.cells vs.toArray 28):=⟨_,rfl⟩;obtain⟨A1,A2,A3,A4,c1,c2,c3,c4,us,HO,HL,HC,hW8,HG,hWl,hWb⟩:=Vb h hW;have q0:W.cell? ⟨w.heap.size,0,none⟩=some (.int .i64 k):=hW8.p0;have HWB:=Qd hWb;have HW:=Qd hW;have AR:=Qd (λwx=>Gx k wx);generalize plain k=x at*;clear h hW hW8 HO HL HC HG hWb;go_enter Tryz.func117,Tryz.ntmps117
 go_upto_region 1 with fail
 rw[<-HW.out];go_wp2_with fail
 refine(AR.out _).mono ?_;rintro e w1 ⟨rfl,rfl⟩;go_wp2_with fail
 go_ret;exact⟨rfl,HWB.out⟩
theorem Cca (a:Tree)(vs:List Value)(w:World)(B:Nat)(h:IsTree w B a vs):Calls Tryz.prog 113 #[.agg vs.toArray] w (La w (Ke (kind a))):=by
 obtain⟨k,o,m,nm,t,l⟩:=a;show Calls _ _ _ _ (La w (Ke k));obtain⟨W,hW⟩:∃W,W=w.alloc (.cells vs.toArray 28):=⟨_,rfl⟩;obtain⟨A1,A2,A3,A4,c1,c2,c3,c4,us,HO,HL,HC,hW8,HG,hWl,hWb⟩:=Vb h hW;have q0:W.cell? ⟨w.heap.size,0,none⟩=some (.int .i64 k):=hW8.p0;have HWB:=Qd hWb;have HW:=Qd hW;have AR:=Qd (λwx=>Lj k wx);have HE:Hid (Ke k=(array k||(k==10))):=Qd rfl;generalize Ke k=R at*;generalize array k=x at*;clear h hW hW8 HO HL HC HG hWb;cases x;all_goals
  cases q:(k==10);all_goals
   rw[q] at HE;go_enter Tryz.func113,Tryz.ntmps113
   go_upto_region 1 with fail
   rw[<-HW.out];go_wp2_with fail
   refine(AR.out _).mono ?_;rintro e w1 ⟨rfl,rfl⟩;go_wp2_with fail
   go_ret;exact⟨Aa (by rw[HE.out];rfl),HWB.out⟩
theorem X4 (w:World)(B:Nat):FunK w B 112 #[] array:=⟨enters_of Tryz.func112 (by kernel_rfl) rfl,λa vs wx _ h=>Sr a vs wx B h⟩
theorem Tja (w:World)(B:Nat):FunK w B 113 #[] Ke:=⟨enters_of Tryz.func113 (by kernel_rfl) rfl,λa vs wx _ h=>Cca a vs wx B h⟩
theorem Nma (w:World)(B:Nat):FunK w B 114 #[] func:=⟨enters_of Tryz.func114 (by kernel_rfl) rfl,λa vs wx _ h=>Py a vs wx B h⟩
theorem Uja (w:World)(B:Nat):FunK w B 117 #[] plain:=⟨enters_of Tryz.func117 (by kernel_rfl) rfl,λa vs wx _ h=>Bca a vs wx B h⟩
def Iga (r:Bool)(w:World)(e:Ending)(w':World):Prop:=∃i:Int,e= .returned (.int .i64 i)/\decide (0<=i)=r/\Below w.heap.size w w'
theorem Vja {l:List Tree}{p:Int->Bool}{j:Nat}(h:j<l.length):(l.take (j+1)).any (λa=>p (kind a))=((l.take j).any (λa=>p (kind a))||p (kind l[j])):=by
 rw[List.take_succ_eq_append_getElem h,List.any_append];simp
theorem Oma {l:List Tree}{p:Int->Bool}{j:Nat}(h:j<l.length)(hp:p (kind l[j])=true):l.any (λa=>p (kind a))=true:=List.any_eq_true.2 ⟨l[j],List.getElem_mem h,hp⟩
theorem Wv (F:FuncId)(caps:Array Value)(p:Int->Bool)(A:Option Addr)(c:Nat)(l:List Tree)(us:List Value)(w:World)(B:Nat)(hl:Lies w B A us)(hc:IsTrees w B l us)(hB:B<=w.heap.size)(hn:l.length<=1100000000000)(hF:FunK w B F caps p):
 Calls Tryz.prog 183 #[.slice A l.length c,.func (.func F) #[] caps] w (Iga (l.any (λa=>p (kind a))) w):=by
 have HA:=Qd hl;have HC:=Qd hc;have HF:=Qd hF;have HE:=hF.enter;have HBS:=Qd hB;clear hl hF hc;go_enter Tryz.func183,Tryz.ntmps183
 go_wp2_with fail
 go_loopw [8] (λiv wr=>∃i:Nat,i<=l.length/\iv= .int .i64 (i:Int)/\Hid ((l.take i).any (λa=>p (kind a))=false)/\Below w.heap.size w wr) (λiv _=>l.length-(intOf iv).toNat)
 case atStart=>exact⟨0,Nat.zero_le _,rfl,Qd rfl,Br⟩
 case round=>
  obtain⟨k,hk,rfl,HT,hbel⟩:=hrel;by_cases hlt:k<l.length
  ·obtain⟨b,off,tv,rfl,hb,HTR,HR⟩:=Dd HC.out HA.out (wr:=wr) (λq hq=>hbel.cell (by omega)) hlt
   have H1:=Qd (Vja (p:=p) hlt);have H2:=Qd (Oma (p:=p) hlt);have FX:=Qd (HF.out.run l[k] tv wr hbel (HTR.out.below (hbel.mono hB)));have HI:=Qd (Fc HTR.out);clear HTR;generalize p (kind l[k])=r at*;have hk0:(0:Int)<=(k:Int):=by omega
   have hk1:(k:Int)<(l.length:Int):=by omega
   cases r
   ·have H3:Hid ((l.take (k+1)).any (λa=>p (kind a))=false):=Qd (by rw[H1.out,HT.out];rfl)
    go_wp2_with (with_reducible refine Gc rfl (.tmp 14) rfl b (off+k*8) rfl tv HR.out HI.out ?_)
    refine FX.out.mono ?_;rintro e w' ⟨rfl,hb2⟩;go_wp2_with fail
    go_roundw
    case rel=>exact⟨k+1,by omega,by go_num,H3,hbel.trans (hb2.mono hbel.size)⟩
    case measure=>simp[intOf];omega
   have H3:=Qd (H2.out rfl);go_wp2_with (with_reducible refine Gc rfl (.tmp 14) rfl b (off+k*8) rfl tv HR.out HI.out ?_)
   refine FX.out.mono ?_;rintro e w' ⟨rfl,hb2⟩;go_wp2_with fail
   go_ret;exact⟨_,rfl,by rw[H3.out];exact decide_eq_true (by omega),hbel.trans (hb2.mono hbel.size)⟩
  have H3:Hid (l.any (λa=>p (kind a))=false):=Qd (by have:=HT.out;rwa[List.take_of_length_le (by omega)] at this);go_wp2_with fail
  go_ret;exact⟨_,rfl,by rw[H3.out];rfl,hbel⟩
theorem Qy (F:FuncId)(caps:Array Value)(p:Int->Bool)(A:Option Addr)(c:Nat)(l:List Tree)(us:List Value)(w:World)(B:Nat)(hl:Lies w B A us)(hc:IsTrees w B l us)(hB:B<=w.heap.size)(hn:l.length<=1100000000000)(hF:FunK w B F caps p):
 Calls Tryz.prog 156 #[.slice A l.length c,.func (.func F) #[] caps] w (La w (l.any (λa=>p (kind a)))):=by
 have IX:=Qd (Wv F caps p A c l us w B hl hc hB hn hF);clear hl hF hc;generalize l.any (λa=>p (kind a))=r at*;generalize l.length=n at*;go_enter Tryz.func156,Tryz.ntmps156
 go_wp2_with fail
 refine IX.out.mono ?_;rintro e w' ⟨i,rfl,hr,hb⟩;go_wp2_with fail
 go_ret;exact⟨Aa (by first|exact hr |rfl),hb⟩
end
section
open Go.RowKit Tr
theorem Zk {w:World}{B:Nat}{a:Tree}{vs:List Value}(h:IsTree w B a vs):vs.toArray.all (·.oneCell')=true:=by
 obtain⟨A1,A2,A3,A4,c1,c2,c3,c4,rfl⟩:=h.form;simp[Qa,Value.oneCell']
theorem Jga (F:FuncId)(caps:Array Value)(p:Int->Bool)(g:Nat)(a:Tree)(vs:List Value)(w:World)(B:Nat)(h:IsTree w B a vs)(hB:B<=w.heap.size)(hg:w.cell? ⟨g,0,none⟩=some (.func (.func F) #[] caps))(hgl:g<w.heap.size)(hF:FunK w B F caps p):
 Calls Tryz.prog 157 #[.agg vs.toArray,.pointer (some ⟨g,0,none⟩)] w (La w (!p (kind a))):=by
 obtain⟨W,hW⟩:∃W,W=w.alloc (.cells vs.toArray 28):=⟨_,rfl⟩;have hWb:Below w.heap.size w W:=by rw[hW];exact Br.alloc Lr _
 have HG:Hid (W.heap[w.heap.size]? =some (.cells vs.toArray 28 (0,0))):=Qd (by rw[hW];exact heap_alloc_new w _);have HIA:=Qd (Cb h);have FX:=Qd (hF.run a vs W hWb (h.below (hWb.mono hB)));have q0:W.cell? ⟨g,0,none⟩=some (.func (.func F) #[] caps):=(hWb.cell (p:=⟨g,0,none⟩) hgl).trans hg;have HE:=hF.enter;have HWB:=Qd hWb;have HWS:Hid (w.heap.size<=W.heap.size):=Qd (by rw[hW];simp);have HW:=Qd hW;generalize p (kind a)=r at*;clear h hW hWb hF hg;go_enter Tryz.func157,Tryz.ntmps157
 go_upto_region 1 with fail
 rw[<-HW.out];go_wp2_with (with_reducible refine Wh (.tmp 2) rfl rfl w.heap.size rfl HG.out HIA.out ?_)
 refine FX.out.mono ?_;rintro e w2 ⟨rfl,hb2⟩;go_wp2_with fail
 go_ret;exact⟨rfl,HWB.out.trans (hb2.mono HWS.out)⟩
theorem Vs (F:FuncId)(caps:Array Value)(p:Int->Bool)(A:Option Addr)(c:Nat)(l:List Tree)(us:List Value)(w:World)(B:Nat)(hl:Lies w B A us)(hc:IsTrees w B l us)(hB:B<=w.heap.size)(hn:l.length<=1100000000000)(hF:FunK w B F caps p):
 Calls Tryz.prog 111 #[.slice A l.length c,.func (.func F) #[] caps] w (La w ((l.map kind).all p)):=by
 obtain⟨W,hW⟩:∃W,W=w.alloc (.cells #[.func (.func F) #[] caps] 29):=⟨_,rfl⟩;have hWb:Below w.heap.size w W:=by rw[hW];exact Br.alloc Lr _
 have hWl:w.heap.size<W.heap.size:=by rw[hW];simp
 have hg:W.cell? ⟨w.heap.size,0,none⟩=some (.func (.func F) #[] caps):=by rw[hW];go_simp
 have FK:FunK W B 157 #[.pointer (some ⟨w.heap.size,0,none⟩)] (λk=> !p k):=⟨enters_of Tryz.func157 (by kernel_rfl) rfl,λa vs wx hx ht=>
  Jga F caps p w.heap.size a vs wx B ht (by have:=hx.size;omega) ((hx.cell (p:=⟨w.heap.size,0,none⟩) hWl).trans hg) (by have:=hx.size;omega) ((hF.later hWb).later hx)⟩
 have CF:=Qd (Qy _ _ _ A c l us W B (hl.below (hWb.mono hB)) (hc.below (hWb.mono hB)) (by omega) hn FK);have HE:Hid ((l.map kind).all p= !l.any (λa=> !p (kind a))):=Qd (by
  rw[List.all_map,List.any_eq_not_all_not];simp only[Bool.not_not];rfl)
 have HWB:=Qd hWb;have HWS:Hid (w.heap.size<=W.heap.size):=Qd (by omega);have HW:=Qd hW;generalize l.any (λa=> !p (kind a))=r at*;generalize(l.map kind).all p=R at*;generalize l.length=n at*;clear hl hc hF FK hW hWb hg;go_enter Tryz.func111,Tryz.ntmps111
 go_upto_region 1 with fail
 rw[<-HW.out];go_wp2_with fail
 refine CF.out.mono ?_;rintro e w2 ⟨rfl,hb2⟩;go_wp2_with fail
 go_ret;exact⟨Aa (by rw[HE.out]),HWB.out.trans (hb2.mono HWS.out)⟩
structure FnP where
 F:FuncId
 caps:Array Value
 p:Int->Bool
def FnP.val (f:FnP):Value:= .func (.func f.F) #[] f.caps
theorem Kga {l:List Tree}:∀{fs:List FnP} {i:Nat} (h:l.length=fs.length) (hi:i<l.length) (hp:(fs[i]'(by omega)).p (kind l[i])=false),Oa (l.map kind) (fs.map FnP.p)=false:=by
 induction l with
 |nil=>intro fs i _ hi;simp at hi
 |cons a r ih=>
  intro fs i h hi hp;cases fs with
  |nil=>simp at h
  |cons f fs=>
   rw[List.map_cons,List.map_cons,Oa];cases i with
   |zero=>rw[show f.p (kind a)=false from hp];rfl
   |succ i=>rw[ih (fs:=fs) (i:=i) (by simpa using h) (by simpa using hi) hp,Bool.and_false]
theorem Dca {l:List Tree}:∀{fs:List FnP} (h:l.length=fs.length) (hp:∀i (hi:i<l.length),(fs[i]'(by omega)).p (kind l[i])=true),Oa (l.map kind) (fs.map FnP.p)=true:=by
 induction l with
 |nil=>
  intro fs h _;cases fs with
  |nil=>rfl
  |cons _ _=>simp at h
 |cons a r ih=>
  intro fs h hp;cases fs with
  |nil=>simp at h
  |cons f fs=>
   rw[List.map_cons,List.map_cons,Oa,show f.p (kind a)=true from hp 0 (by simp),ih (fs:=fs) (by simpa using h) (λi hi=>hp (i+1) (by simpa using hi))];rfl
theorem Lga {l:List Tree}:∀{fs:List FnP} (h:l.length≠fs.length),Oa (l.map kind) (fs.map FnP.p)=false:=by
 induction l with
 |nil=>
  intro fs h;cases fs with
  |nil=>simp at h
  |cons _ _=>rfl
 |cons a r ih=>
  intro fs h;cases fs with
  |nil=>rfl
  |cons f fs=>rw[List.map_cons,List.map_cons,Oa,ih (fs:=fs) (by simpa using h),Bool.and_false]
namespace T13
def slotsL:List Value->Nat->Value
 | [],_=>undef
 |v::_,0=>v
 |_::l,n+1=>slotsL l n
end T13
open T13
def Tc (s0 s1 s2 s3 s4 s5 s6 s7 s8 s9 s10 s11 s12 s13 s14 s15 s16 s17 s18 s26:Value)(xs:Nat->Value):Act:={tmps:= #[s0,s1,s2,s3,s4,s5,s6,s7,s8,s9,s10,s11,s12,s13,s14,s15,s16,s17,s18,xs 0,xs 1,xs 2,xs 3,xs 4,xs 5,xs 6,s26],defers:=[]}
def Pma (n2 c2 j b2 off2:Nat)(F:FuncId)(caps:Array Value)(gb:Nat)(tv:List Value)(r:Bool):Nat->World->Value->Prop
 | 0,w,v=>v= .slice (some ⟨b2,off2,none⟩) n2 c2
 | 1,w,v=>v= .int .i64 (j:Int)
 | 2,w,v=>v= .pointer (some ⟨b2,off2+j,none⟩)
 | 3,w,v=>v= .func (.func F) #[] caps
 | 4,w,v=>v= .agg tv.toArray
 | 5,w,v=>v= .bool r
 |_,w,v=>v= .bool (!r)
theorem Jx (fs:List FnP)(A':Option Addr)(c':Nat)(A:Option Addr)(c:Nat)(l:List Tree)(us:List Value)(w:World)(B:Nat)(hl:Lies w B A us)(hc:IsTrees w B l us)(hB:B<=w.heap.size)(hn:l.length<=1100000000000)(hn':fs.length<=1000)
 (hfl:Lies w w.heap.size A' (fs.map FnP.val)) (hF:∀f∈fs,FunK w B f.F f.caps f.p):
 Calls Tryz.prog 110 #[.slice A l.length c,.slice A' fs.length c'] w (La w (Oa (l.map kind) (fs.map FnP.p))):=by
 by_cases hlen:l.length=fs.length
 ·have HA:=Qd hl
  have HC:=Qd hc;have HFL:=Qd hfl;have HF:Hid (∀i (hi:i<fs.length),FunK w B fs[i].F fs[i].caps fs[i].p):=Qd (λi hi=>hF _ (List.getElem_mem hi));have PB:Hid (∀i (hi:i<l.length),(fs[i]'(by omega)).p (kind l[i])=false->Oa (l.map kind) (fs.map FnP.p)=false):=Qd (λi hi h=>Kga hlen hi h);have PG:=Qd (@Dca l fs hlen);have ql:((l.length:Int)!=(fs.length:Int))=false:=by rw[hlen];simp
  have hli:(fs.length:Int)=(l.length:Int):=by rw[hlen]
  have HL:=Qd hlen;generalize Oa (l.map kind) (fs.map FnP.p)=R at*;clear hl hc hfl hF;go_enter Tryz.func110,Tryz.ntmps110
  go_wp2_with fail
  go_loopw [14] (λi wr=>∃(j:Nat),j<=l.length/\i= .int .i64 j/\Hid (∀i (hi:i<l.length),i<j->(fs[i]'(by omega)).p (kind l[i])=true)/\Below w.heap.size w wr) (λi _=>l.length-(intOf i).toNat)
  case atStart=>exact⟨0,Nat.zero_le _,rfl,Qd (λi hi h=>by omega),Br⟩
  case round=>
   obtain⟨j,hj,rfl,HI,hbel⟩:=hrel;by_cases hlt:j<l.length
   ·have hj2:j<fs.length:=by omega
    obtain⟨b,off,tv,rfl,hb,HTR,HR⟩:=Dd HC.out HA.out (wr:=wr) (λq hq=>hbel.cell (by omega)) hlt;obtain⟨b2,off2,rfl,hb2,g2⟩:=HFL.out.at_ (k:=j) (by simpa using hj2);obtain⟨WB,hWB⟩:∃W,W=wr.alloc (.cells tv.toArray 28):=⟨_,rfl⟩;have hwb:Below wr.heap.size wr WB:=by rw[hWB];exact Br.alloc Lr _
    have hwl:wr.heap.size<WB.heap.size:=by rw[hWB];simp
    have HBE:Hid (Below w.heap.size w WB):=Qd (hbel.trans (hwb.mono hbel.size));have HBS:Hid (w.heap.size<=WB.heap.size):=Qd (Nat.le_trans hbel.size (Nat.le_of_lt hwl));have HFC:Hid (∀w1,Below WB.heap.size WB w1->w1.cell? ⟨b2,off2+j,none⟩=some (.func (.func (fs[j]'hj2).F) #[] (fs[j]'hj2).caps)):=Qd (λw1 hx=>by
     rw[hx.cell (p:=⟨b2,off2+j,none⟩) (Nat.lt_of_lt_of_le hb2 HBS.out),HBE.out.cell (p:=⟨b2,off2+j,none⟩) hb2,g2];simp[FnP.val])
    have HGB:Hid (∀w1,Below WB.heap.size WB w1->w1.heap[wr.heap.size]? =some (.cells tv.toArray 28 (0,0))):=Qd (λw1 hx=>(hx.block _ hwl).trans (by rw[hWB];exact heap_alloc_new wr _));have HIA:=Qd (Cb HTR.out);have HIL:=Qd (Fc HTR.out);have HSZ:Hid (tv.toArray.size=8):=Qd (by rw[List.size_toArray,HTR.out.len]);have HON:=Qd (Zk HTR.out);have HEN:=Qd (HF.out j hj2).enter;have FX:Hid (∀w1,Below WB.heap.size WB w1->Calls Tryz.prog (fs[j]'hj2).F (#[.agg tv.toArray]++(fs[j]'hj2).caps) w1 (La w1 ((fs[j]'hj2).p (kind l[j])))):=Qd (λw1 hx=>(HF.out j hj2).run l[j] tv w1 (HBE.out.trans (hx.mono HBS.out)) (HTR.out.below ((HBE.out.trans (hx.mono HBS.out)).mono hB)));have HS1:Hid ((fs[j]'hj2).p (kind l[j])=true->∀i (hi:i<l.length),i<j+1->(fs[i]'(by omega)).p (kind l[i])=true):=Qd (λh i hi hij=>by
     by_cases e:i=j
     ·subst e;exact h
     exact HI.out i hi (by omega))
    have HF1:=Qd (PB.out j hlt);have HJ0:Hid ((0:Int)<=(j:Int)):=Qd (by omega);have HJ1:Hid ((j:Int)<(fs.length:Int)):=Qd (by omega);generalize(fs[j]'hj2).p (kind l[j])=r at*;have HWB:=Qd hWB;clear HTR PB PG g2 hwb hWB;go_upto_region 6 with(first
     |(with_reducible refine Gc rfl (.tmp 17) rfl b (off+j*8) rfl tv HR.out HIL.out ?_)
     |(refine wpList_store_row rfl 28 (.tmp 6) (.tmp 18) rfl wr.heap.size tv.toArray rfl rfl 28 _ (heap_alloc_new wr _) HIA.out HSZ.out.symm HON.out ?_;rw[World.setRow_alloc_new]))
    rw[<-HWB.out];refine Xf (Tc _ _ _ _ _ _ _ _ _ _ _ _ _ _ _ _ _ _ _ _) WB (Pma fs.length c' j b2 off2 (fs[j]'hj2).F (fs[j]'hj2).caps wr.heap.size tv r) (by kernel_rfl) ?_ (by kernel_rfl) (slotsL [_,_,_,_,_,_,_]) rfl Br ?_ ?_
    ·intro i w1 w2 v hv hb
     match i with
     | 0=>exact hv
     | 1=>exact hv
     | 2=>exact hv
     | 3=>exact hv
     | 4=>exact hv
     | 5=>exact hv
     |i+6=>exact hv
    ·intro i xs w1 hi hb hdep
     have hi6:i<7:=hi;clear hi;rcases(show i=0\/i=1\/i=2\/i=3\/i=4\/i=5\/i=6 by omega) with rfl |rfl |rfl |rfl |rfl |rfl |rfl
     ·refine Ca rfl rfl ?_
      unfold Tc Oper.wp;go_simp
      exact⟨_,by simp only[Tc,Ja];simp[Act.put],rfl,Br⟩
     ·refine Ca rfl rfl ?_
      unfold Tc Oper.wp;go_simp
      exact⟨_,by simp only[Tc,Ja];simp[Act.put],rfl,Br⟩
     ·have h0:xs 0= .slice (some ⟨b2,off2,none⟩) fs.length c':=hdep 0 (by kernel_rfl)
      have h1:xs 1= .int .i64 (j:Int):=hdep 1 (by kernel_rfl);refine Ca rfl rfl ?_;have i0:(0:Int)<=(j:Int):=HJ0.out;have i1:(j:Int)<(fs.length:Int):=HJ1.out;have i2:((j:Int)).toNat=j:=rfl;unfold Tc Oper.wp;simp only[h0,h1];go_simp
      exact⟨_,by simp only[Tc,Ja];simp[Act.put,h0,h1],rfl,Br⟩
     ·have h2:xs 2= .pointer (some ⟨b2,off2+j,none⟩):=hdep 2 (by kernel_rfl)
      refine Ca rfl rfl ?_;have c3:w1.cell? ⟨b2,off2+j,none⟩=some (.func (.func (fs[j]'hj2).F) #[] (fs[j]'hj2).caps):=HFC.out w1 hb;unfold Tc Oper.wp;simp only[h2];go_simp
      exact⟨_,by simp only[Tc,Ja];simp[Act.put,h2],rfl,Br⟩
     ·refine Ca rfl rfl ?_
      refine wp_load_row 28 (.tmp 6) rfl wr.heap.size rfl 28 tv.toArray (0,0) _ (HGB.out w1 hb) Tryz.underlying28 rfl HIA.out ?_;exact⟨_,by simp only[Tc,Ja];simp[Act.put],rfl,Br⟩
     ·have h3:xs 3= .func (.func (fs[j]'hj2).F) #[] (fs[j]'hj2).caps:=hdep 3 (by kernel_rfl)
      have h4:xs 4= .agg tv.toArray:=hdep 4 (by kernel_rfl);refine Ca rfl rfl ?_;have HE:=HEN.out;unfold Tc Oper.wp;simp only[h3,h4];go_simp
      refine(FX.out w1 hb).mono ?_;rintro e w2 ⟨rfl,hb2⟩;exact⟨_,by simp only[Tc,Ja];simp[Act.put,h3,h4],rfl,hb2⟩
     have h5:xs 5= .bool r:=hdep 5 (by kernel_rfl);refine Ca rfl rfl ?_;unfold Tc Oper.wp;simp only[h5];go_simp
     exact⟨_,by simp only[Tc,Ja];simp[Act.put,h5],rfl,Br⟩
    intro xs w1 hb hx;have h6:xs 6= .bool (!r):=hx 6 (by decide);clear hx;have HBX:=Qd hb;unfold Tc;simp only[h6];clear h6 hb;cases r
    ·have HZ:=Qd (HF1.out rfl)
     go_wp2_with fail
     go_ret;exact⟨Aa (by rw[HZ.out]),HBE.out.trans (HBX.out.mono HBS.out)⟩
    have HN:=Qd (HS1.out rfl);go_wp2_with fail
    go_roundw
    case rel=>exact⟨_,_,_,_,⟨j+1,by omega,rfl,Qd (λi hi hij=>HN.out i (by have:=HL.out;omega) hij),HBE.out.trans (HBX.out.mono HBS.out)⟩,rfl,rfl,rfl,by go_num⟩
    case measure=>simp[intOf];omega
   have HZ:=Qd (PG.out (λi hi=>HI.out i hi (by omega)));go_wp2_with fail
   go_ret;exact⟨Aa (by rw[HZ.out]),hbel⟩
 have HZ:=Qd (Lga hlen);generalize Oa (l.map kind) (fs.map FnP.p)=R at*;have ql:((l.length:Int)!=(fs.length:Int))=true:=bne_iff_ne.2 (by omega);clear hl hc hfl hF;go_enter Tryz.func110,Tryz.ntmps110
 go_wp2_with fail
 go_ret;exact⟨Aa (by rw[HZ.out]),Br⟩
end
section
open Go.RowKit Tr
set_option maxHeartbeats 80000000
def Y4 (o:Int)(x:Int):Bool:=(plain x&& !(o==0x2364))||(array x&&((o==0x2364)||(o==0x2363)))
theorem Mga (g:Nat)(o:Int)(a:Tree)(vs:List Value)(w:World)(B:Nat)(h:IsTree w B a vs)(hg:w.cell? ⟨g,1,none⟩=some (.int .i64 o))(hgl:g<w.heap.size):
 Calls Tryz.prog 115 #[.agg vs.toArray,.pointer (some ⟨g,0,none⟩)] w (La w (Y4 o (kind a))):=by
 obtain⟨k,o',m,nm,t,l⟩:=a;show Calls _ _ _ _ (La w (Y4 o k));obtain⟨W,hW⟩:∃W,W=w.alloc (.cells vs.toArray 28):=⟨_,rfl⟩;obtain⟨A1,A2,A3,A4,c1,c2,c3,c4,us,HO,HL,HC,hW8,HG,hWl,hWb⟩:=Vb h hW;have q0:W.cell? ⟨w.heap.size,0,none⟩=some (.int .i64 k):=hW8.p0;have q1:W.cell? ⟨g,1,none⟩=some (.int .i64 o):=(hWb.cell (p:=⟨g,1,none⟩) hgl).trans hg;have HWB:=Qd hWb;have HW:=Qd hW;have AR:=Qd (λwx=>Lj k wx);have PL:=Qd (λwx=>Gx k wx);have HE:Hid (Y4 o k=((plain k&& !(o==0x2364))||(array k&&((o==0x2364)||(o==0x2363))))):=Qd rfl;generalize Y4 o k=R at*;generalize array k=x at*;generalize plain k=y at*;clear h hW hW8 HO HL HC HG hWb hg;have n1:(o !=9060)= !(o==9060):=rfl;cases e1:(o==9060)
 ·rw[e1] at n1 HE
  rw[Bool.not_false] at n1;cases y
  ·cases x
   ·have HE2:Hid (R=false):=Qd (by rw[HE.out];rfl)
    clear HE;have HE:=HE2;clear HE2;go_enter Tryz.func115,Tryz.ntmps115
    go_upto_region 1 with fail
    rw[<-HW.out];go_wp2_with fail
    refine(PL.out _).mono ?_;rintro e w1 ⟨rfl,rfl⟩;go_wp2_with fail
    refine(AR.out _).mono ?_;rintro e w1 ⟨rfl,rfl⟩;go_wp2_with fail
    go_ret;exact⟨Aa (by rw[HE.out]<;>rfl),HWB.out⟩
   cases e2:(o==9059);all_goals
    rw[e2] at HE;go_enter Tryz.func115,Tryz.ntmps115
    go_upto_region 1 with fail
    rw[<-HW.out];go_wp2_with fail
    refine(PL.out _).mono ?_;rintro e w1 ⟨rfl,rfl⟩;go_wp2_with fail
    refine(AR.out _).mono ?_;rintro e w1 ⟨rfl,rfl⟩;go_wp2_with fail
    go_ret;exact⟨Aa (by rw[HE.out]<;>rfl),HWB.out⟩
  have HE2:Hid (R=true):=Qd (by rw[HE.out];rfl);clear HE;have HE:=HE2;clear HE2;go_enter Tryz.func115,Tryz.ntmps115
  go_upto_region 1 with fail
  rw[<-HW.out];go_wp2_with fail
  refine(PL.out _).mono ?_;rintro e w1 ⟨rfl,rfl⟩;go_wp2_with fail
  go_ret;exact⟨Aa (by rw[HE.out]<;>rfl),HWB.out⟩
 rw[e1] at n1 HE;rw[Bool.not_true] at n1;cases y;all_goals
  cases x;all_goals
   have HE2:=HE.out;simp only[Bool.not_true,Bool.and_false,Bool.false_or,Bool.true_or,Bool.and_true,Bool.true_and,Bool.false_and] at HE2;have HE3:=Qd HE2;clear HE HE2;have HE:=HE3;clear HE3;go_enter Tryz.func115,Tryz.ntmps115
   go_upto_region 1 with fail
   rw[<-HW.out];go_wp2_with fail
   refine(PL.out _).mono ?_;rintro e w1 ⟨rfl,rfl⟩;go_wp2_with fail
   refine(AR.out _).mono ?_;rintro e w1 ⟨rfl,rfl⟩;go_wp2_with fail
   go_ret;exact⟨Aa (by rw[HE.out]<;>rfl),HWB.out⟩
def Ni (k:Int)(x:Int):Bool:=if x=27 then true else if x=25\/x=26 then k==20 else array x
theorem Nga (g:Nat)(k:Int)(a:Tree)(vs:List Value)(w:World)(B:Nat)(h:IsTree w B a vs)(hg:w.cell? ⟨g,0,none⟩=some (.int .i64 k))(hgl:g<w.heap.size):
 Calls Tryz.prog 118 #[.agg vs.toArray,.pointer (some ⟨g,0,none⟩)] w (La w (Ni k (kind a))):=by
 obtain⟨x,o',m,nm,t,l⟩:=a;show Calls _ _ _ _ (La w (Ni k x));obtain⟨W,hW⟩:∃W,W=w.alloc (.cells vs.toArray 28):=⟨_,rfl⟩;obtain⟨A1,A2,A3,A4,c1,c2,c3,c4,us,HO,HL,HC,hW8,HG,hWl,hWb⟩:=Vb h hW;have q0:W.cell? ⟨w.heap.size,0,none⟩=some (.int .i64 x):=hW8.p0;have q1:W.cell? ⟨g,0,none⟩=some (.int .i64 k):=(hWb.cell (p:=⟨g,0,none⟩) hgl).trans hg;have HWB:=Qd hWb;have HW:=Qd hW;have AR:=Qd (λwx=>Lj x wx);have HE:Hid (Ni k x=if x=27 then true else if x=25\/x=26 then k==20 else array x):=Qd rfl;generalize Ni k x=R at*;clear h hW hW8 HO HL HC HG hWb hg;by_cases h27:x=27
 ·have HZ:Hid (R=true):=Qd (by rw[HE.out,if_pos h27])
  subst h27;go_enter Tryz.func118,Tryz.ntmps118
  go_upto_region 1 with fail
  rw[<-HW.out];go_wp2_with fail
  go_ret;exact⟨Aa (by rw[HZ.out]),HWB.out⟩
 by_cases h25:x=25
 ·have HZ:Hid (R=(k==20)):=Qd (by rw[HE.out,if_neg h27,if_pos (.inl h25)])
  subst h25;generalize hk:(k==20)=b at*;clear h27 HE;cases b;all_goals
   go_enter Tryz.func118,Tryz.ntmps118
   go_upto_region 1 with fail
   rw[<-HW.out];go_wp2_with fail
   go_ret;exact⟨Aa (by rw[HZ.out]),HWB.out⟩
 by_cases h26:x=26
 ·have HZ:Hid (R=(k==20)):=Qd (by rw[HE.out,if_neg h27,if_pos (.inr h26)])
  subst h26;generalize hk:(k==20)=b at*;clear h27 HE h25;cases b;all_goals
   go_enter Tryz.func118,Tryz.ntmps118
   go_upto_region 1 with fail
   rw[<-HW.out];go_wp2_with fail
   go_ret;exact⟨Aa (by rw[HZ.out]),HWB.out⟩
 have HZ:Hid (R=array x):=Qd (by rw[HE.out,if_neg h27,if_neg (by rintro(h |h);exact h25 h;exact h26 h)]);have n27:(x==27)=false:=beq_eq_false_iff_ne.2 h27;have n25:(x==25)=false:=beq_eq_false_iff_ne.2 h25;have n26:(x==26)=false:=beq_eq_false_iff_ne.2 h26;clear h27 h25 h26 HE;generalize array x=r at*;go_enter Tryz.func118,Tryz.ntmps118
 go_upto_region 1 with fail
 rw[<-HW.out];go_wp2_with fail
 refine(AR.out _).mono ?_;rintro e w1 ⟨rfl,rfl⟩;go_wp2_with fail
 go_ret;exact⟨Aa (by rw[HZ.out]),HWB.out⟩
def fA:FnP:=⟨112,#[],array⟩
def fF:FnP:=⟨114,#[],func⟩
def fL:FnP:=⟨117,#[],plain⟩
def fD (g:Nat)(o:Int):FnP:=⟨115,#[.pointer (some ⟨g,0,none⟩)],Y4 o⟩
theorem Oga (fs:List FnP)(A:Option Addr)(c:Nat)(l:List Tree)(us:List Value)(w:World)(B:Nat)(hl:Lies w B A us)(hc:IsTrees w B l us)(hB:B<=w.heap.size)(hn:l.length<=1100000000000)(hn':fs.length<=1000)
 (hF:∀wx,Below w.heap.size w wx->∀f∈fs,FunK wx B f.F f.caps f.p) (n:Nat) (T:TypeId) (cs:Array Value) (hcs:cs=(fs.map FnP.val).toArray) (hnn:n=fs.length):
 Calls Tryz.prog 110 #[.slice A l.length c,.slice (some ⟨w.heap.size,0,none⟩) n n] (w.alloc (.cells cs T)) (La w (Oa (l.map kind) (fs.map FnP.p))):=by
 subst hcs hnn;have hb:Below w.heap.size w (w.alloc (.cells (fs.map FnP.val).toArray T)):=Br.alloc Lr _;refine(Jx fs (some ⟨w.heap.size,0,none⟩) fs.length A c l us _ B (hl.below (hb.mono hB)) (hc.below (hb.mono hB)) (by simp;omega) hn hn' (.inr ⟨w.heap.size,0,rfl,by simp,λj v hv=>?_⟩) (hF _ hb)).mono ?_
 ·rw[Nat.zero_add,cell_of_row _ w.heap.size j _ _ _ (heap_alloc_new w _),List.getElem?_toArray];exact hv
 rintro e w' ⟨rfl,hb2⟩;exact⟨rfl,hb.trans (hb2.mono (by simp))⟩
theorem Kn {w:World}{B:Nat}{l:List Tree}{us:List Value}{b off:Nat}(hc:IsTrees w B l us)(hl:Lies w B (some ⟨b,off,none⟩) us)(h0:0<l.length):∃us2,Hid (Lies w B (some ⟨b,off+8,none⟩) us2)/\Hid (IsTrees w B (l.drop 1) us2):=by
 cases l with
 |nil=>simp at h0
 |cons a r=>
  rw[IsTrees] at hc;obtain⟨u,t,rfl,h1,h2⟩:=hc;refine⟨t,Qd ?_,Qd h2⟩;cases ht:t with
  |nil=>exact .inl rfl
  |cons x y=>
   rcases hl with h |⟨b',off',e,hb,hcell⟩
   ·rw[ht] at h;simp at h
   injection e with e
   injection e with e1 e2
   subst e1 e2;refine .inr ⟨b,off+8,rfl,hb,λj v hv=>?_⟩;have:=hcell (8+j) v (by rw[List.getElem?_append_right (by rw[h1.len];omega),h1.len,Nat.add_sub_cancel_left,ht];exact hv);rwa[<-Nat.add_assoc] at this
theorem Eca {P:Program}{ops:Array Oper}{rest:List Oper}{o:Oper}{a:Act}{w:World}{Q:Exit->Act->World->Prop}(hw:Region.wanted o (yielded ops a.tmps)=true)(ty:TypeId)(x:Operand)(ho:o.op= .load ty x)
 (b off:Nat) (hx:a.eval x= .pointer (some ⟨b,off,none⟩)) (cs:List Value) (d:TypeDesc) (hc:w.rangeAt b off cs)
 (hu:P.underlying ty=some d) (hd:d.isRow=true) (hi:(P.info? ty).map (·.size)=some cs.length)
 (h:wpList P ops Q rest (a.put o.dst (.agg cs.toArray)) w):wpList P ops Q (o::rest) a w:=
 BigFrame.wpList_want hw λ_ hK=>wp_load_mid ty x ho b off hx cs d hc hu hd hi (hK _ _ h)
theorem Qma {α:Type}{p q:Prop}[Decidable p][Decidable q](a b:α):(if p\/q then a else b)=if p then a else if q then a else b:=by
 by_cases hp:p<;>by_cases hq:q<;>simp[hp,hq]
theorem Qoa:(λx=>array x||(x==27)||(x==25)||(x==26))=Ni 20:=by
 funext x
 unfold Ni;by_cases h27:x=27
 ·simp[h27]
 by_cases h25:x=25
 ·simp[h25]
 by_cases h26:x=26
 ·simp[h26]
 simp[h27,h25,h26,beq_eq_false_iff_ne.2 h27,beq_eq_false_iff_ne.2 h25,beq_eq_false_iff_ne.2 h26]
theorem Roa:(λx=>array x||(x==27))=Ni 28:=by
 funext x
 unfold Ni;by_cases h27:x=27
 ·simp[h27]
 by_cases h25:x=25
 ·subst h25;rfl
 by_cases h26:x=26
 ·subst h26;rfl
 simp_all
theorem V9 {k:Int}(h1:(k==1)=false)(h2:(k==2)=false)(h3:(k==3)=false)(h4:(k==4)=false)(h5:(k==5)=false)(h6:(k==6)=false)(h7:(k==7)=false)(h8:(k==8)=false)(h9:(k==9)=false)(h10:(k==10)=false)(h11:(k==11)=false)(h12:(k==12)=false)(h13:(k==13)=false)(h14:(k==14)=false)(h15:(k==15)=false)(h16:(k==16)=false)(h17:(k==17)=false)(h18:(k==18)=false)(h19:(k==19)=false)(h20:(k==20)=false)(h21:(k==21)=false):¬(1<=k/\k<=21):=by
 simp only[beq_eq_false_iff_ne] at*;omega
theorem Pga (l:List Int):Oa l []=l.isEmpty:=by cases l<;>rfl
theorem Soa (k o:Int)(g:Nat)(l:List Tree):Pb k o (l.map kind)=(if(k==8)=true then decide (2<=l.length)&&(l.map kind).all array
 else if(k==9)=true then decide (2<=l.length)&&array ((l.map kind).getD 0 0)&&((l.drop 1).map kind).all Ke
 else if(k==14)=true then decide (2<=l.length)&&array ((l.map kind).getD 0 0)&&((l.drop 1).map kind).all Ke
 else if(k==11)=true then Oa (l.map kind) ([fF,fA].map FnP.p)
 else if(k==15)=true then Oa (l.map kind) ([fF,fA].map FnP.p)
 else if(k==12)=true then Oa (l.map kind) ([fA,fF,fA].map FnP.p)
 else if(k==13)=true then Oa (l.map kind) ([fA].map FnP.p)
 else if(k==16)=true then Oa (l.map kind) ([fA].map FnP.p)
 else if(k==22)=true then Oa (l.map kind) ([fF].map FnP.p)
 else if(k==27)=true then Oa (l.map kind) ([fF].map FnP.p)
 else if(k==23)=true then Oa (l.map kind) ([fF,fD g o].map FnP.p)
 else if(k==24)=true then Oa (l.map kind) ([fL].map FnP.p)
 else if(k==25)=true then Oa (l.map kind) ([fA,fA].map FnP.p)
 else if(k==26)=true then Oa (l.map kind) ([fA,fA].map FnP.p)
 else if(k==20)=true then decide (0<l.length)&&(l.map kind).all (Ni k)
 else if(k==28)=true then decide (0<l.length)&&(l.map kind).all (Ni k)
 else if 1<=k/\k<=21 then Oa (l.map kind) []
 else false):=by
 have he:(!(l.map kind).isEmpty)=decide (0<l.length):=by cases l<;>simp
 simp only[Pb,beq_iff_eq,Qma,List.length_map,List.map_drop,Pga,he];by_cases h20:k=20
 ·subst h20;rw[Qoa];rfl
 by_cases h28:k=28
 ·subst h28;rw[Roa];rfl
 simp only[h20,h28,if_false];rfl
theorem Wja (a:Tree)(vs:List Value)(w:World)(B:Nat)(h:IsTree w B a vs)(hB:B<=w.heap.size):
 Calls Tryz.prog 64 #[.agg vs.toArray] w (La w (Pb (kind a) (op a) ((kids a).map kind))):=by
 obtain⟨k,o,m,nm,t,l⟩:=a;obtain⟨A1,A2,A3,A4,c1,c2,c3,c4,us,W,rfl,HW,HO,HL,HC,H8,HT0,HSB,END,HKB⟩:=Gs h hB 28;show Calls _ _ _ _ (La w (Pb k o (l.map kind)));have hf4:=HO.out.f4.le (by omega);have hln:l.length<=1100000000000:=by have:=HO.out.f4.2.1;omega
 have hc4:l.length<=c4:=hf4.1;have HLW:Hid (∀wx,Below W.heap.size W wx->Lies wx B A4 us):=Qd (λwx hx=>HL.out.keep (HKB.out wx hx));have HCW:Hid (∀wx,Below W.heap.size W wx->IsTrees wx B l us):=Qd (λwx hx=>HC.out.keep (HKB.out wx hx) Lr);have hbW:Below W.heap.size W W:=Br;have HBW:Hid (B<=W.heap.size):=Qd (HSB.out W hbW);have HGW:Hid (w.heap.size<W.heap.size):=Qd (by have:=(HW.out▸by simp:w.heap.size<W.heap.size);exact this);have PN:=Qd (λ(fs:List FnP) (hn':fs.length<=1000) (hF:∀f∈fs,f=fA\/f=fF\/f=fL\/f=fD w.heap.size o) n T cs hcs hnn=>Oga fs A4 c4 l us W B (HLW.out W hbW) (HCW.out W hbW) HBW.out hln hn' (λwx hx f hf=>by
  rcases hF f hf with rfl |rfl |rfl |rfl
  ·exact X4 wx B
  ·exact Nma wx B
  ·exact Uja wx B
  exact⟨enters_of Tryz.func115 (by kernel_rfl) rfl,λa vs wy hy ht=>Mga w.heap.size o a vs wy B ht ((H8.out wy (hx.trans (hy.mono hx.size))).p1) (by have:=hx.size;have:=hy.size;have:=HGW.out;omega)⟩) n T cs hcs hnn)
 have P0:Hid (Calls Tryz.prog 110 #[.slice A4 l.length c4,.slice none 0 0] W (La W (Oa (l.map kind) []))):=Qd (Jx [] none 0 A4 c4 l us W B (HLW.out W hbW) (HCW.out W hbW) HBW.out hln (by decide) (.inl rfl) (λf hf=>by cases hf));have EA:=Qd (Vs _ _ _ A4 c4 l us W B (HLW.out W hbW) (HCW.out W hbW) HBW.out hln (X4 W B));have ES:=Qd (Vs _ _ _ A4 c4 l us W B (HLW.out W hbW) (HCW.out W hbW) HBW.out hln (show FunK W B 118 #[.pointer (some ⟨w.heap.size,0,none⟩)] (Ni k) from⟨enters_of Tryz.func118 (by kernel_rfl) rfl,λa vs wy hy ht=>Nga w.heap.size k a vs wy B ht (H8.out wy hy).p0 (by have:=hy.size;have:=HGW.out;omega)⟩));have HR:=Qd (Soa k o w.heap.size l);generalize Pb k o (l.map kind)=R at*;obtain⟨q0,q1,-,-,-,-,-,q7⟩:=H8.out W hbW;clear h hB HT0 HO HL HC;by_cases h2:2<=l.length
 ·have hl0:0<l.length:=by omega
  obtain⟨b,off,tv,rfl,hb,HT,HRR⟩:=Dd (HCW.out W hbW) (HLW.out W hbW) (λ_ _=>rfl) hl0;have K1:=Qd (Sr l[0] tv W B HT.out);have HI:=Qd (Fc HT.out);have e0:(l.map kind).getD 0 0=kind l[0]:=by rw[List.getD_eq_getElem?_getD,List.getElem?_map,List.getElem?_eq_getElem hl0];rfl
  rw[e0] at HR;have EP:Hid (∀wx,Below W.heap.size W wx->Calls Tryz.prog 111 #[.slice (some ⟨b,off+8,none⟩) (l.length-1) (c4-1),.func (.func 113) #[] #[]] wx (La wx (((l.drop 1).map kind).all Ke))):=Qd (λwx hx=>by
   obtain⟨us2,HL2,HC2⟩:=Kn (HCW.out wx hx) (HLW.out wx hx) hl0;have:=Vs _ _ _ (some ⟨b,off+8,none⟩) (c4-1) (l.drop 1) us2 wx B HL2.out HC2.out (HSB.out wx hx) (by simp;omega) (Tja wx B);rwa[show(l.drop 1).length=l.length-1 by simp] at this)
  generalize((l.drop 1).map kind).all Ke=r2 at*;generalize array (kind l[0])=r1 at*;have hc41:1<=c4:=by omega
  have q2:(2:Int)<=(l.length:Int):=by omega
  have q3:(0:Int)<(l.length:Int):=by omega
  clear e0 HT HLW HCW;go_enter Tryz.func64,Tryz.ntmps64
  go_upto_region 1 with fail
  rw[<-HW.out];go_wp2_with (refine Eca rfl 28 (.tmp 42) rfl b off rfl tv _ (by have:=HRR.out;simpa using this) Tryz.underlying28 rfl HI.out ?_)
  all_goals try ((first|(with_reducible refine P0.out.mono ?_) |(with_reducible refine(PN.out [fF,fA] (by simp) (by simp) 2 29 _ (by with_unfolding_all rfl) rfl).mono ?_) |(with_reducible refine(PN.out [fA,fF,fA] (by simp) (by simp) 3 29 _ (by with_unfolding_all rfl) rfl).mono ?_) |(with_reducible refine(PN.out [fA] (by simp) (by simp) 1 29 _ (by with_unfolding_all rfl) rfl).mono ?_) |(with_reducible refine(PN.out [fF] (by simp) (by simp) 1 29 _ (by with_unfolding_all rfl) rfl).mono ?_) |(with_reducible refine(PN.out [fF,fD w.heap.size o] (by simp) (by simp) 2 29 _ (by with_unfolding_all rfl) rfl).mono ?_) |(with_reducible refine(PN.out [fL] (by simp) (by simp) 1 29 _ (by with_unfolding_all rfl) rfl).mono ?_) |(with_reducible refine(PN.out [fA,fA] (by simp) (by simp) 2 29 _ (by with_unfolding_all rfl) rfl).mono ?_) |(with_reducible refine EA.out.mono ?_) |(with_reducible refine ES.out.mono ?_));rintro e w3 ⟨rfl,hb3⟩;replace hbW:=hb3;clear hb3;go_wp2_with fail)
  all_goals try ((with_reducible refine K1.out.mono ?_);rintro e w3 ⟨rfl,hb3⟩;replace hbW:=hb3;clear hb3 q0 q1 q7;obtain⟨q0,q1,-,-,-,-,-,q7⟩:=H8.out _ hbW;go_wp2_with fail)
  all_goals try ((with_reducible refine(EP.out _ hbW).mono ?_);rintro e w4 ⟨rfl,hb4⟩;replace hbW:=El hbW hb4;clear hb4;go_wp2_with fail)
  all_goals
   go_ret;refine⟨Aa ?_,END.out _ hbW⟩;rw[HR.out]
   first|(simp[*];done) |(have hk:=eq_of_beq ‹(k==_)=true›;simp[*];done) |(simp[*,V9 ‹_› ‹_› ‹_› ‹_› ‹_› ‹_› ‹_› ‹_› ‹_› ‹_› ‹_› ‹_› ‹_› ‹_› ‹_› ‹_› ‹_› ‹_› ‹_› ‹_› ‹_›];done)
 have q2:¬(2:Int)<=(l.length:Int):=by omega
 go_enter Tryz.func64,Tryz.ntmps64
 go_upto_region 1 with fail
 rw[<-HW.out];go_wp2_with fail
 all_goals try ((first|(with_reducible refine P0.out.mono ?_) |(with_reducible refine(PN.out [fF,fA] (by simp) (by simp) 2 29 _ (by with_unfolding_all rfl) rfl).mono ?_) |(with_reducible refine(PN.out [fA,fF,fA] (by simp) (by simp) 3 29 _ (by with_unfolding_all rfl) rfl).mono ?_) |(with_reducible refine(PN.out [fA] (by simp) (by simp) 1 29 _ (by with_unfolding_all rfl) rfl).mono ?_) |(with_reducible refine(PN.out [fF] (by simp) (by simp) 1 29 _ (by with_unfolding_all rfl) rfl).mono ?_) |(with_reducible refine(PN.out [fF,fD w.heap.size o] (by simp) (by simp) 2 29 _ (by with_unfolding_all rfl) rfl).mono ?_) |(with_reducible refine(PN.out [fL] (by simp) (by simp) 1 29 _ (by with_unfolding_all rfl) rfl).mono ?_) |(with_reducible refine(PN.out [fA,fA] (by simp) (by simp) 2 29 _ (by with_unfolding_all rfl) rfl).mono ?_) |(with_reducible refine EA.out.mono ?_) |(with_reducible refine ES.out.mono ?_));rintro e w3 ⟨rfl,hb3⟩;replace hbW:=hb3;clear hb3;go_wp2_with fail)
 all_goals
  go_ret;refine⟨Aa ?_,END.out _ hbW⟩;rw[HR.out]
  first|(simp[*];done) |(have hk:=eq_of_beq ‹(k==_)=true›;simp[*];done) |(simp[*,V9 ‹_› ‹_› ‹_› ‹_› ‹_› ‹_› ‹_› ‹_› ‹_› ‹_› ‹_› ‹_› ‹_› ‹_› ‹_› ‹_› ‹_› ‹_› ‹_› ‹_› ‹_›];done)
end
open Go.RowKit
theorem E7 {l:List Nat}(h:¬l.length<=32):Tr.trimmed l=false:=by unfold Tr.trimmed;rw[decide_eq_false h];rfl
theorem F7:Tr.trimmed []=true:=rfl
theorem Z4 {l:List Nat}(h:l.length<=32)(h0:l.length≠0):Tr.trimmed l= !(l[l.length-1]'(by omega)==0):=by
 unfold Tr.trimmed;rw[decide_eq_true h];have h1:l≠[]:=by rintro rfl;exact h0 rfl
 rw[List.getLastD_eq_getLast?,List.getLast?_eq_some_getLast h1,List.getLast_eq_getElem];cases l with
 |nil=>exact absurd rfl h1
 |cons a r=>rfl
theorem Ur (v:Value)(l:List Nat)(w:World)(h:IsRes w v l):
 Calls Tryz.prog 152 #[v] w λe w'=>e= .returned (.bool (Tr.trimmed l))/\w=w':=by
 obtain⟨A,c,rfl,h1,h2,h3,h4⟩:=h;by_cases hl:l.length<=32
 ·have q1:decide ((l.length:Int)<=32)=true:=decide_eq_true (by omega)
  by_cases h0:l.length=0
  ·have q2:((l.length:Int)==0)=true:=beq_iff_eq.2 (by omega)
   obtain rfl:=List.eq_nil_of_length_eq_zero h0;have HR:=Qd F7;clear h4 hl h0 h1 h2 h3;go_enter Tryz.func152,Tryz.ntmps152
   go_wp2_with fail
   go_ret;exact⟨Aa (by rw[HR.out]),rfl⟩
  have q2:((l.length:Int)==0)=false:=beq_eq_false_iff_ne.2 (by omega);have HR:=Qd (Z4 hl h0);obtain⟨b,off,rfl,hb,g0⟩:=h4.at_ (k:=l.length-1) (by simp[U];omega);have g1:w.cell? ⟨b,off+(l.length-1),none⟩=some (.int .u32 ((l[l.length-1]'(by omega):Nat):Int)):=by simpa [U] using g0
  have i0:(0:Int)<=(l.length:Int)-1:=by omega
  have i1:(l.length:Int)-1<(l.length:Int):=by omega
  have i2:((l.length:Int)-1).toNat=l.length-1:=by omega
  clear g0 h4 h3;generalize l[l.length-1]'(by omega)=x at*;generalize Tr.trimmed l=R at*;have q3:((x:Int)!=0)= !(x==0):=by
   by_cases e:x=0
   ·subst e;rfl
   have e1:((x:Int)!=0)=true:=bne_iff_ne.2 (by omega);have e2:(x==0)=false:=beq_eq_false_iff_ne.2 e;rw[e1,e2];rfl
  rw[<-q3] at HR;clear q3;generalize l.length=n at*;cases q4:((x:Int)!=0);all_goals
   rw[q4] at HR;go_enter Tryz.func152,Tryz.ntmps152
   go_wp2_with fail
   go_ret;exact⟨Aa (by rw[HR.out]),rfl⟩
 have q1:decide ((l.length:Int)<=32)=false:=decide_eq_false (by omega);have HR:=Qd (E7 hl);clear hl h4 h3;generalize l.length=n at*;go_enter Tryz.func152,Tryz.ntmps152
 go_wp2_with fail
 go_ret;exact⟨Aa (by rw[HR.out]),rfl⟩
theorem H7 (n:Bool)(t b:List Nat)(d:List Nat)(hd:d=Nt.digs (Nat.gcd (Nt.val t) (Nt.val b))):Tr.ratio ⟨n,t,b⟩=(Tr.trimmed t&&(Tr.trimmed b&&(!b.isEmpty&&(!(t.isEmpty&&n)&&((b==[1])||(d==[1])))))):=by
 subst hd;unfold Tr.ratio Tr.isOne;cases Tr.trimmed t<;>cases Tr.trimmed b<;>cases b.isEmpty<;>cases t.isEmpty<;>cases n<;>simp
theorem Xv (n:Bool)(A1:Option Addr)(t:List Nat)(c1:Nat)(A2:Option Addr)(b:List Nat)(c2:Nat)(w:World)(h1:IsRes w (.slice A1 t.length c1) t)(h2:IsRes w (.slice A2 b.length c2) b)(o1:Nt.Ok t)(o2:Nt.Ok b):
 Calls Tryz.prog 101 #[.agg #[.bool n,.slice A1 t.length c1,.slice A2 b.length c2]] w λe w'=>e= .returned (.bool (Rt.right ⟨n,t,b⟩))/\Below w.heap.size w w':=by
 have hrr:=Tr.ratio_right (n:=⟨n,t,b⟩) o1 o2;obtain⟨d,hd⟩:∃d,d=Nt.digs (Nat.gcd (Nt.val t) (Nt.val b)):=⟨_,rfl⟩;rw[H7 n t b d hd] at hrr;have HR:=Qd hrr;obtain⟨W,hW⟩:∃W,W=w.alloc (.cells #[.bool n,.slice A1 t.length c1,.slice A2 b.length c2] 24):=⟨_,rfl⟩;have hWs:W.heap.size=w.heap.size+1:=by rw[hW];simp
 have hWb:Below w.heap.size w W:=by rw[hW];exact Br.alloc Lr _
 have HQ:Hid (W.cell? ⟨w.heap.size,0,none⟩=some (.bool n)/\W.cell? ⟨w.heap.size,1,none⟩=some (.slice A1 t.length c1)/\W.cell? ⟨w.heap.size,2,none⟩=some (.slice A2 b.length c2)):=Qd (by rw[hW];exact⟨by go_simp,by go_simp,by go_simp⟩);have HW:=Qd hW;have hWl:w.heap.size<W.heap.size:=by omega
 have r1:=h1.below hWb;have r2:=h2.below hWb;have T1:=Qd (Ur _ _ W r1);have T2:=Qd (Ur _ _ W r2);have I2:=Qd (Vh _ _ W r2);have GC:=λ(s1:t.length<=1000000) (s2:b.length<=1000000)=>N9 A1 A2 c1 c2 t b W r1 r2 o1 o2 s1 s2;rw[<-hd] at GC;replace GC:=Qd GC;have ON:=Qd (λv (wx:World) (h:IsRes wx v d)=>Vh v d wx h);have TB:Hid (Tr.trimmed t=true->t.length<=1000000):=Qd (λh=>by have:=((Tr.trimmed_iff t).1 h).1;omega);have TB2:Hid (Tr.trimmed b=true->b.length<=1000000):=Qd (λh=>by have:=((Tr.trimmed_iff b).1 h).1;omega);have HE:Hid (b.isEmpty=decide (b.length=0)):=Qd (by cases b<;>simp);have HE':Hid (t.isEmpty=decide (t.length=0)):=Qd (by cases t<;>simp);clear hrr hd h1 h2 o1 o2 r1 r2;generalize Rt.right ⟨n,t,b⟩=R at*;generalize Tr.trimmed t=X at*;generalize Tr.trimmed b=Y at*;generalize b.isEmpty=BE at*;generalize t.isEmpty=TE at*;generalize(b==[1])=BO at*;generalize(d==[1])=DO at*;obtain⟨p0,p1,p2⟩:=HQ.out;clear hW;cases X
 ·go_enter Tryz.func101,Tryz.ntmps101
  go_wp2_with fail
  rw[<-HW.out];refine T1.out.mono ?_;rintro e w' ⟨rfl,rfl⟩;go_wp2_with fail
  go_ret;exact⟨Aa (by rw[<-HR.out];rfl),hWb⟩
 cases Y
 ·go_enter Tryz.func101,Tryz.ntmps101
  go_wp2_with fail
  rw[<-HW.out];refine T1.out.mono ?_;rintro e w' ⟨rfl,rfl⟩;go_wp2_with fail
  refine T2.out.mono ?_;rintro e w' ⟨rfl,rfl⟩;go_wp2_with fail
  go_ret;exact⟨Aa (by rw[<-HR.out];rfl),hWb⟩
 have s1:=TB.out rfl;have s2:=TB2.out rfl;have GC2:=Qd (GC.out s1 s2);clear GC TB TB2;generalize t.length=l1 at*;generalize b.length=l2 at*;by_cases z:l2=0
 ·subst z
  have HE2:Hid (BE=true):=Qd (by rw[HE.out];rfl);clear HE;go_enter Tryz.func101,Tryz.ntmps101
  go_wp2_with fail
  rw[<-HW.out];refine T1.out.mono ?_;rintro e w' ⟨rfl,rfl⟩;go_wp2_with fail
  refine T2.out.mono ?_;rintro e w' ⟨rfl,rfl⟩;go_wp2_with fail
  go_ret;exact⟨Aa (by rw[<-HR.out,HE2.out];simp),hWb⟩
 have qb:((l2:Int)==0)=false:=beq_eq_false_iff_ne.2 (by omega);have HE2:Hid (BE=false):=Qd (by rw[HE.out];exact decide_eq_false z);clear HE z;have key:(TE&&n)=true\/(TE&&n)=false:=by cases (TE&&n)<;>simp
 by_cases z1:l1=0
 ·subst z1
  have HT2:Hid (TE=true):=Qd (by rw[HE'.out];rfl);clear HE';cases n
  ·cases BO
   ·go_enter Tryz.func101,Tryz.ntmps101
    go_wp2_with fail
    rw[<-HW.out];refine T1.out.mono ?_;rintro e w' ⟨rfl,rfl⟩;go_wp2_with fail
    refine T2.out.mono ?_;rintro e w' ⟨rfl,rfl⟩;go_wp2_with fail
    refine I2.out.mono ?_;rintro e w' ⟨rfl,rfl⟩;go_wp2_with fail
    refine GC2.out.mono ?_;rintro e w2 ⟨v,rfl,hv,hb2⟩;have O2:=Qd (ON.out _ _ hv);clear hv p0 p1 p2;go_wp2_with fail
    refine O2.out.mono ?_;rintro e w3 ⟨rfl,rfl⟩;go_wp2_with fail
    go_ret;exact⟨Aa (by rw[<-HR.out,HE2.out,HT2.out];simp),hWb.trans (hb2.mono (by omega))⟩
   go_enter Tryz.func101,Tryz.ntmps101
   go_wp2_with fail
   rw[<-HW.out];refine T1.out.mono ?_;rintro e w' ⟨rfl,rfl⟩;go_wp2_with fail
   refine T2.out.mono ?_;rintro e w' ⟨rfl,rfl⟩;go_wp2_with fail
   refine I2.out.mono ?_;rintro e w' ⟨rfl,rfl⟩;go_wp2_with fail
   go_ret;exact⟨Aa (by rw[<-HR.out,HE2.out,HT2.out];simp),hWb⟩
  go_enter Tryz.func101,Tryz.ntmps101
  go_wp2_with fail
  rw[<-HW.out];refine T1.out.mono ?_;rintro e w' ⟨rfl,rfl⟩;go_wp2_with fail
  refine T2.out.mono ?_;rintro e w' ⟨rfl,rfl⟩;go_wp2_with fail
  go_ret;exact⟨Aa (by rw[<-HR.out,HT2.out];simp),hWb⟩
 have qt:((l1:Int)==0)=false:=beq_eq_false_iff_ne.2 (by omega);have HT2:Hid (TE=false):=Qd (by rw[HE'.out];exact decide_eq_false z1);clear HE' z1;cases BO
 ·go_enter Tryz.func101,Tryz.ntmps101
  go_wp2_with fail
  rw[<-HW.out];refine T1.out.mono ?_;rintro e w' ⟨rfl,rfl⟩;go_wp2_with fail
  refine T2.out.mono ?_;rintro e w' ⟨rfl,rfl⟩;go_wp2_with fail
  refine I2.out.mono ?_;rintro e w' ⟨rfl,rfl⟩;go_wp2_with fail
  refine GC2.out.mono ?_;rintro e w2 ⟨v,rfl,hv,hb2⟩;have O2:=Qd (ON.out _ _ hv);clear hv p0 p1 p2;go_wp2_with fail
  refine O2.out.mono ?_;rintro e w3 ⟨rfl,rfl⟩;go_wp2_with fail
  go_ret;exact⟨Aa (by rw[<-HR.out,HE2.out,HT2.out];simp),hWb.trans (hb2.mono (by omega))⟩
 go_enter Tryz.func101,Tryz.ntmps101
 go_wp2_with fail
 rw[<-HW.out];refine T1.out.mono ?_;rintro e w' ⟨rfl,rfl⟩;go_wp2_with fail
 refine T2.out.mono ?_;rintro e w' ⟨rfl,rfl⟩;go_wp2_with fail
 refine I2.out.mono ?_;rintro e w' ⟨rfl,rfl⟩;go_wp2_with fail
 go_ret;exact⟨Aa (by rw[<-HR.out,HE2.out,HT2.out];simp),hWb⟩
section
open Go.RowKit Tr
set_option maxHeartbeats 80000000
theorem C5 {w:World}{k o:Int}{m:List UInt8}{n:Rt.Nm}{t:List Int}{len:Nat}{A1 A2 A3 A4:Option Addr}{c1 c2 c3 c4:Nat}(h:Own w w.heap.size k o m n t len A1 A2 A3 A4 c1 c2 c3 c4):IsRes w (.slice A1 n.top.length c1) n.top:=
 ⟨A1,c1,rfl,h.f1.1,h.f1.2.2,h.n1,h.l1⟩
theorem D5 {w:World}{k o:Int}{m:List UInt8}{n:Rt.Nm}{t:List Int}{len:Nat}{A1 A2 A3 A4:Option Addr}{c1 c2 c3 c4:Nat}(h:Own w w.heap.size k o m n t len A1 A2 A3 A4 c1 c2 c3 c4):IsRes w (.slice A2 n.bot.length c2) n.bot:=
 ⟨A2,c2,rfl,h.f2.1,h.f2.2.2,h.n2,h.l2⟩
theorem Fca {P:Program}{ops:Array Oper}{rest:List Oper}{o:Oper}{a:Act}{w:World}{Q:Exit->Act->World->Prop}(hw:Region.wanted o (yielded ops a.tmps)=true)(ty:TypeId)(x:Operand)(ho:o.op= .load ty x)
 (g:Nat) (hx:a.eval x= .pointer (some ⟨g,0,none⟩)) (t:TypeId) (cs:Array Value) (fr:Nat×Nat) (d:TypeDesc) (hg:w.heap[g]? =some (.cells cs t fr))
 (hu:P.underlying ty=some d) (hd:(match d with | .struct _ | .array _ _=>true |_=>false)=true) (hi:(P.info? ty).map (·.size)=some cs.size)
 (h:wpList P ops Q rest (a.put o.dst (.agg cs)) w):wpList P ops Q (o::rest) a w:=
 BigFrame.wpList_want hw λ_ hK=>wp_load_row ty x ho g hx t cs fr d hg hu hd hi (hK _ _ h)
theorem Kx {ops:Array Oper}{rest:List Oper}{o:Oper}{a:Act}{w:World}{Q:Exit->Act->World->Prop}{cs:Array Value}(x:Operand)(hw:Region.wanted o (yielded ops a.tmps)=true)(ho:o.op= .load 28 x)
 (g:Nat) (hx:a.eval x= .pointer (some ⟨g,0,none⟩)) (hg:w.heap[g]? =some (.cells cs 28 (0,0))) (hi:(Tryz.prog.info? 28).map (·.size)=some cs.size)
 (h:wpList Tryz.prog ops Q rest (a.put o.dst (.agg cs)) w):wpList Tryz.prog ops Q (o::rest) a w:=
 Fca hw _ x ho g hx _ cs _ _ hg Tryz.underlying28 rfl hi h
theorem Xja (c:Int):Tk.funs.contains c=(Tk.cls c==4):=by
 rw[Bool.eq_iff_iff,List.contains_iff_mem,beq_iff_eq]
 constructor
 ·intro h;exact(show∀x∈Tk.funs,Tk.cls x=4 by decide) c h
 intro h;unfold Tk.cls at h
 split at h
 ·cases h
 split at h
 ·cases h
 split at h
 ·cases h
 split at h
 ·assumption
 split at h
 ·cases h
 split at h<;>cases h
theorem I7 (c:Int)(w:World):Calls Tryz.prog 150 #[.int .i64 c] w (La w (glyph c)):=by
 have HE:Hid (glyph c=(Tk.funs.contains c||Uf.contains c)):=Qd (by rw[Xja];rfl);have FU:=Qd (Xk w);generalize glyph c=R at*;have I1:=Qd (λ(A:Option Addr) (w1:World) (h:Lies w1 w1.heap.size A (Sa Tk.funs))=>Ck A 39 Tk.funs c w1 h (by decide));have I2:=Qd (λ(w1:World)=>Ck (some ⟨w1.heap.size,0,none⟩) 4 Uf c (w1.alloc (.cells #[.int .i64 47,.int .i64 9023,.int .i64 92,.int .i64 9024] 3)) (.inr ⟨w1.heap.size,0,rfl,by simp,λj v hv=>by
  rw[Nat.zero_add,cell_of_row _ w1.heap.size j _ _ _ (heap_alloc_new w1 _),List.getElem?_toArray];exact hv⟩) (by decide))
 generalize Tk.funs.contains c=x at*;generalize Uf.contains c=y at*;cases x
 ·go_enter Tryz.func150,Tryz.ntmps150
  go_wp2_with fail
  refine FU.out.mono ?_;rintro e w1 ⟨A,rfl,hA,hb1⟩;have J1:=Qd (I1.out A w1 hA);go_wp2_with fail
  refine J1.out.mono ?_;rintro e w2 ⟨rfl,rfl⟩;go_wp2_with fail
  refine(I2.out w1).mono ?_;rintro e w2 ⟨rfl,rfl⟩;go_wp2_with fail
  go_ret;exact⟨Aa (by rw[HE.out];rfl),hb1.alloc hb1.size _⟩
 go_enter Tryz.func150,Tryz.ntmps150
 go_wp2_with fail
 refine FU.out.mono ?_;rintro e w1 ⟨A,rfl,hA,hb1⟩;have J1:=Qd (I1.out A w1 hA);go_wp2_with fail
 refine J1.out.mono ?_;rintro e w2 ⟨rfl,rfl⟩;go_wp2_with fail
 go_ret;exact⟨Aa (by rw[HE.out];rfl),hb1⟩
theorem Rma {α:Type}{p q:Prop}[Decidable p][Decidable q](a b:α):(if p\/q then a else b)=if p then a else if q then a else b:=by
 by_cases hp:p<;>by_cases hq:q<;>simp[hp,hq]
theorem Sma (k o:Int)(m:List UInt8)(n:Rt.Nm)(t l:List Int):Vm k o m n t l=(if l=[] then
 if(k==1)=true then((Va o m n t==4)||(Va o m n t==0))&&Rt.right n
 else if(k==2)=true then((Va o m n t==8)||(Va o m n t==0))&&decide (t.length<=2048)&&t.all Gl.may
 else if(k==3)=true then(Va o m n t==2)&&Ua m false
 else if(k==4)=true then Va o m n t==0
 else if(k==5)=true then Va o m n t==0
 else if(k==10)=true then Va o m n t==0
 else if(k==19)=true then Va o m n t==0
 else if(k==6)=true then((Va o m n t==0)||(Va o m n t==1))&&port o
 else if(k==7)=true then((Va o m n t==0)||(Va o m n t==1))&&port o
 else if(k==17)=true then(Va o m n t==1)&&glyph o
 else if(k==18)=true then(Va o m n t==2)&&Ua m true
 else if(k==21)=true then((Va o m n t==0)||(Va o m n t==1))&&((o==0)||(o==1))
 else false
 else false):=by
 simp only[Vm,beq_iff_eq,Rma]
theorem Gca (a:Tree)(vs:List Value)(w:World)(B:Nat)(h:IsTree w B a vs)(hB:B<=w.heap.size):
 Calls Tryz.prog 96 #[.agg vs.toArray] w (La w (Vm (kind a) (op a) (Bc a) (num a) (text a) ((kids a).map kind))):=by
 have F0:=Yk a vs;obtain⟨k,o,m,nm,t,l⟩:=a;obtain⟨A1,A2,A3,A4,c1,c2,c3,c4,us,W,rfl,HW,HO,HL,HC,H8,HT,HSB,END,HKB⟩:=Gs h hB 28;simp only[kind,op,Bc,num,text,kids] at F0⊢;have hf3:=HO.out.f3.le (by omega);have hf4:=HO.out.f4.le (by omega);have hms:=HO.out.ms;have FD:=Qd (F0 W B (HT.out W Br) (HSB.out W Br));have RR:=Qd (λwx hx=>Zaa nm.neg A1 nm.top c1 A2 nm.bot c2 wx (C5 (HO.out.keep (HKB.out wx hx) (HSB.out wx hx))) (D5 (HO.out.keep (HKB.out wx hx) (HSB.out wx hx))) HO.out.o1 HO.out.o2);have NM:=Qd (λb wx=>Tu m b wx hms);have PT:=Qd (λwx=>Pu o wx);have GL:=Qd (λwx=>I7 o wx);have CH:=Qd (λwx hx=>D7 A3 c3 t wx B (HO.out.l3.keep (HKB.out wx hx)) (by have:=HO.out.f3.2.1;omega));have HR:=Qd (Sma k o m nm t (l.map kind));have HN:Hid (l.map kind=[]↔l.length=0):=Qd (by simp);generalize Va o m nm t=f at*;generalize Vm k o m nm t (l.map kind)=R at*;generalize l.map kind=lk at*;clear h hB F0 HL HC HT HKB HO;go_enter Tryz.func96,Tryz.ntmps96
 go_upto_region 1 with fail
 rw[<-HW.out];obtain⟨q0,q1,q2,q3,q4,q5,q6,q7⟩:=H8.out W Br;go_wp2_with fail
 clear q0 q1 q2 q3 q4 q5 q6 q7;refine FD.out.mono ?_;rintro e w2 ⟨rfl,hb2⟩;obtain⟨q0,q1,q2,q3,q4,q5,q6,q7⟩:=H8.out w2 hb2;go_wp2_with fail
 all_goals clear q0 q1 q2 q3 q4 q5 q6 q7
 all_goals try (first
  |((with_reducible refine(RR.out _ hb2).mono ?_);rintro e w3 ⟨rfl,hb3⟩;replace hb2:=El hb2 hb3;clear hb3;go_wp2_with fail)
  |((with_reducible refine(NM.out _ _).mono ?_);rintro e w3 ⟨rfl,hb3⟩;replace hb2:=El hb2 hb3;clear hb3;go_wp2_with fail)
  |((with_reducible refine(GL.out _).mono ?_);rintro e w3 ⟨rfl,hb3⟩;replace hb2:=El hb2 hb3;clear hb3;go_wp2_with fail)
  |((with_reducible refine(PT.out _).mono ?_);rintro e w3 ⟨rfl,rfl⟩;go_wp2_with fail)
  |((with_reducible refine(CH.out _ hb2).mono ?_);rintro e w3 ⟨rfl,rfl⟩;go_wp2_with fail))
 all_goals
  go_ret;refine⟨Aa ?_,END.out _ hb2⟩;rw[HR.out]
  first|(rw[if_neg (by rw[HN.out];omega)];done) |rw[if_pos (by rw[HN.out];omega)]
  first|done |(simp[*];done) |(simp[*,show t.length<=2048 by omega];done) |(simp[*,show¬t.length<=2048 by omega];done)
end
section
open Go.RowKit Tr
set_option maxHeartbeats 80000000
theorem Vi {B:Nat}{w w1:World}(h:Below B w w1):Below B w w1.drew:=⟨h.os,h.tape,h.output,h.size,h.block⟩
theorem E5 (l:List Int)(y:Int):l.any (· ==y)=l.contains y:=by
 rw[Bool.eq_iff_iff,List.any_eq_true,List.contains_iff_mem]
 constructor
 ·rintro⟨x,hx,h⟩;rw[beq_iff_eq] at h;subst h;exact hx
 intro h;exact⟨y,h,beq_self_eq_true y⟩
theorem Cf {w:World}{T:TypeId}{vs:List Value}:Lies (w.alloc (.cells vs.toArray T)) (w.alloc (.cells vs.toArray T)).heap.size (some ⟨w.heap.size,0,none⟩) vs:=
 .inr ⟨w.heap.size,0,rfl,by simp,λj v hv=>by rw[Nat.zero_add,cell_of_row _ w.heap.size j _ _ _ (heap_alloc_new w _),List.getElem?_toArray];exact hv⟩
theorem Aj (w:World):Calls Tryz.prog 108 #[] w λe w'=>e= .returned (.slice (some ⟨w.heap.size,0,none⟩) 6 6)/\w'=w.alloc (.cells (Sa monops).toArray 3):=by
 go_enter Tryz.func108,Tryz.ntmps108
 go_wp2_with fail
 go_ret;exact⟨rfl,rfl⟩
theorem Ln (w:World):Calls Tryz.prog 109 #[] w λe w'=>e= .returned (.slice (some ⟨w.heap.size,0,none⟩) 4 4)/\w'=w.alloc (.cells (Sa dyops).toArray 3):=by
 go_enter Tryz.func109,Tryz.ntmps109
 go_wp2_with fail
 go_ret;exact⟨rfl,rfl⟩
theorem Kf (l:List Int)(n m:Nat)(hm:m=l.length)(y:Int)(w:World)(A:Option Addr)(hl:Lies w w.heap.size A (Sa l))(hn:l.length<=1000):Calls Tryz.prog 107 #[.slice A m n,.int .i64 y] w (Qh w (l.contains y)):=by
 subst hm;rw[<-E5];exact R0 A n l y w w.heap.size hl (by omega)
theorem Yu (c:Int)(w:World):Calls Tryz.prog 106 #[.int .i64 c] w (La w (glyph c)):=by
 have HE:Hid (glyph c=((Tk.cls c==4)||Uf.contains c)):=Qd rfl;have CL:=Qd (Dj c w);have MO:=Qd (Aj w);have IN:=Qd (Kf Uf 6 4 rfl c (w.alloc (.cells (Sa monops).toArray 3)) (some ⟨w.heap.size,0,none⟩) (by
  have:=Cf (w:=w) (T:=3) (vs:=Sa monops);rcases this with h |⟨b,off,e,hb,hc⟩
  ·cases h
  exact .inr ⟨b,off,e,hb,λj v hv=>hc j v (by
   have hj:j<4:=by
    rcases Nat.lt_or_ge j 4 with h |h
    ·exact h
    rw[List.getElem?_eq_none (by simpa [Sa,Uf] using h)] at hv;cases hv
   rw[show Sa Uf=(Sa monops).take 4 from rfl,List.getElem?_take,if_pos hj] at hv;exact hv)⟩) (by decide))
 generalize glyph c=R at*;generalize Uf.contains c=y at*;generalize Tk.cls c=cv at*;cases q:(cv==4);all_goals rw[q] at HE
 ·go_enter Tryz.func106,Tryz.ntmps106
  go_wp2_with fail
  refine CL.out.mono ?_;rintro e w1 ⟨rfl,rfl⟩;go_wp2_with fail
  refine MO.out.mono ?_;rintro e w2 ⟨rfl,rfl⟩;go_wp2_with fail
  refine IN.out.mono ?_;rintro e w2 ⟨rfl,rfl⟩;go_wp2_with fail
  go_ret;exact⟨Aa (by rw[HE.out]<;>rfl),Br.alloc Lr _⟩
 go_enter Tryz.func106,Tryz.ntmps106
 go_wp2_with fail
 refine CL.out.mono ?_;rintro e w1 ⟨rfl,rfl⟩;go_wp2_with fail
 go_ret;exact⟨Aa (by rw[HE.out]<;>rfl),Br⟩
theorem Qga (x:Int)(w:World):Calls Tryz.prog 103 #[.int .i64 x] w λe w'=>e= .returned (.bool (!Gl.may x))/\w=w':=by
 have M:=Qd (F8 x w);generalize Gl.may x=r at*;go_enter Tryz.func103,Tryz.ntmps103
 go_wp2_with fail
 refine M.out.mono ?_;rintro e w1 ⟨rfl,rfl⟩;go_wp2_with fail
 go_ret;exact⟨rfl,rfl⟩
theorem Hca (A:Option Addr)(c:Nat)(l:List Int)(w:World)(B:Nat)(hl:Lies w B A (Sa l))(hn:l.length<=17592186044416):
 Calls Tryz.prog 102 #[.slice A l.length c,.func (.func 103) #[] #[]] w (Qh w (!l.all Gl.may)):=by
 have h:=Q0 103 (enters_of Tryz.func103 (by kernel_rfl) rfl) (λx=> !Gl.may x) A c l w B hl (by omega) (λx=>Qga x w);rwa[show l.any (λx=> !Gl.may x)= !l.all Gl.may from by rw[List.all_eq_not_any_not];simp] at h
theorem Yja (a:Tree)(vs:List Value)(w:World)(B:Nat)(h:IsTree w B a vs)(hB:B<=w.heap.size):
 Calls Tryz.prog 63 #[.agg vs.toArray] w (La w (Ta (kind a) (op a) (Bc a) (num a) (text a))):=by
 obtain⟨k,o,m,nm,t,l⟩:=a;show Calls _ _ _ _ (La w (Ta k o m nm t));obtain⟨W0,hW⟩:∃W,W=w.alloc (.cells vs.toArray 28):=⟨_,rfl⟩;obtain⟨A1,A2,A3,A4,c1,c2,c3,c4,us,HO,HL,HC,hW8,HG,hWl,hWb⟩:=Vb h hW;have hf3:=HO.out.f3.le (by omega);have hms:=HO.out.ms;have hko:∀wx,Below W0.heap.size W0 wx->Own wx wx.heap.size k o m nm t l.length A1 A2 A3 A4 c1 c2 c3 c4:=λwx hx=>HO.out.keep (λp hp=>by rw[hx.cell (by omega),hWb.cell (by omega)]) (Nat.le_trans hB (by have:=hx.size;omega));have H8:Hid (∀wx,Below W0.heap.size W0 wx->At8 wx w.heap.size 0 k o m nm t l.length A1 A2 A3 A4 c1 c2 c3 c4):=Qd (λwx hx=>hW8.keep (λq=>hx.cell (p:=⟨w.heap.size,q,none⟩) hWl));have SM:Hid (Calls Tryz.prog 100 #[.agg #[.bool nm.neg,.slice A1 nm.top.length c1,.slice A2 nm.bot.length c2],.agg #[.bool false,.slice none 0 0,.slice none 0 0]] W0 (La W0 (zero nm))):=Qd (by
  have h1:=hko W0 Br;have:=Ey nm.neg false nm.top [] nm.bot [] A1 A2 none none c1 c2 0 0 W0 W0.heap.size h1.l1 (.inl rfl) h1.l2 (.inl rfl) Lr (by have:=h1.f1.le (by omega);omega) (by decide) (by have:=h1.f2.le (by omega);omega) (by decide);rwa[show Od nm.neg false nm.top [] nm.bot []=zero nm from by unfold Od zero;cases nm.neg<;>cases nm.top<;>cases nm.bot<;>rfl] at this)
 have RR:Hid (∀wx,Below W0.heap.size W0 wx->Calls Tryz.prog 101 #[.agg #[.bool nm.neg,.slice A1 nm.top.length c1,.slice A2 nm.bot.length c2]] wx (La wx (Rt.right nm))):=Qd (λwx hx=>Xv nm.neg A1 nm.top c1 A2 nm.bot c2 wx (C5 (hko wx hx)) (D5 (hko wx hx)) HO.out.o1 HO.out.o2);have CH:Hid (∀wx,Below W0.heap.size W0 wx->Calls Tryz.prog 102 #[.slice A3 t.length c3,.func (.func 103) #[] #[]] wx (Qh wx (!t.all Gl.may))):=Qd (λwx hx=>Hca A3 c3 t wx wx.heap.size (hko wx hx).l3 (by have:=HO.out.f3.2.1;omega));have NMf:=Qd (λwx=>Ix m false wx hms);have NMt:=Qd (λwx=>Ix m true wx hms);have GL:=Qd (λwx=>Yu o wx);have MO:=Qd (λwx=>Aj wx);have DY:=Qd (λwx=>Ln wx);have CM:=Qd (λ(wx:World)=>Kf monops 6 6 rfl o (wx.alloc (.cells (Sa monops).toArray 3)) (some ⟨wx.heap.size,0,none⟩) Cf (by decide));have CM2:=Qd (λ(wx:World)=>Kf monops 6 6 rfl o (wx.alloc (.cells (Sa monops).toArray 3)).drew (some ⟨wx.heap.size,0,none⟩) (show Lies (wx.alloc (.cells (Sa monops).toArray 3)).drew (wx.alloc (.cells (Sa monops).toArray 3)).heap.size _ _ from Cf.keep (λ_ _=>rfl)) (by decide));have CD2:=Qd (λ(wx:World)=>Kf dyops 4 4 rfl o (wx.alloc (.cells (Sa dyops).toArray 3)).drew (some ⟨wx.heap.size,0,none⟩) (show Lies (wx.alloc (.cells (Sa dyops).toArray 3)).drew (wx.alloc (.cells (Sa dyops).toArray 3)).heap.size _ _ from Cf.keep (λ_ _=>rfl)) (by decide));have CD:=Qd (λ(wx:World)=>Kf dyops 4 4 rfl o (wx.alloc (.cells (Sa dyops).toArray 3)) (some ⟨wx.heap.size,0,none⟩) Cf (by decide));have HDEF:Hid (Ta k o m nm t=((if k=1 then Rt.right nm else zero nm)&&(if k=2 then decide (t.length<=2048)&&t.all Gl.may else t.isEmpty)&&
  (if k=3\/k=13\/k=14\/k=15 then Ua m false else if k=18\/k=27 then Ua m true else m.isEmpty)&&
  (if k=6\/k=7\/k=16 then port o else if k=17 then glyph o else if k=21 then(o==0)||(o==1) else if k=22 then monops.contains o else if k=23 then dyops.contains o else o==0))):=Qd rfl
 have HPO:=Qd (R4 o);have HT0:Hid (((t.length:Int)==0)=t.isEmpty):=Qd (by cases t<;>rfl);obtain⟨me,hme⟩:∃b,b=m.isEmpty:=⟨_,rfl⟩;rw[<-hme] at HDEF;have HM0:Hid (m.isEmpty=me):=Qd hme.symm;clear hme;obtain⟨b0,hb0⟩:∃b,(o==0)=b:=⟨_,rfl⟩;rw[hb0] at HDEF;generalize Ta k o m nm t=R at*;generalize Rt.right nm=rr at*;generalize zero nm=zz at*;generalize t.all Gl.may=ch at*;generalize Ua m false=nf at*;generalize Ua m true=nt at*;generalize port o=po at*;generalize glyph o=gl at*;generalize monops.contains o=mo at*;generalize dyops.contains o=dy at*;generalize t.isEmpty=te at*;have HWB:=Qd hWb;have HWS:Hid (w.heap.size<=W0.heap.size):=Qd (by omega);have HW:=Qd hW;obtain⟨q0,q1,q2,q3,q4,q5,q6,q7⟩:=H8.out W0 Br;simp only[Nat.zero_add] at q0 q1 q2 q3 q4 q5 q6 q7;clear h hW hW8 HO HL HC HG hWb hko;go_enter Tryz.func63,Tryz.ntmps63
 go_upto_region 1 with fail
 rw[<-HW.out];go_wp2_with fail
 refine SM.out.mono ?_;rintro e w2 ⟨rfl,hb2⟩;obtain⟨r0,r1,r2,r3,r4,r5,r6,r7⟩:=H8.out w2 hb2;simp only[Nat.zero_add] at r0 r1 r2 r3 r4 r5 r6 r7;have hwl2:w.heap.size<w2.heap.size:=Nat.lt_of_lt_of_le hWl hb2.size;clear q0 q1 q2 q3 q4 q5 q6 q7;go_upto_block 0 with fail
 go_cut [3,4,5,6] from 21 to 92 (λx3 x4 x5 x6 wx=>∃a b c d:Bool,x3= .bool a/\x4= .bool b/\x5= .bool c/\x6= .bool d/\Hid (R=(a&&b&&c&&d))/\Below W0.heap.size W0 wx)
 case rest=>
  obtain⟨a,b,c,d,rfl,rfl,rfl,rfl,HZ,hb⟩:=hcut;clear r0 r1 r2 r3 r4 r5 r6 r7;cases a
  ·go_wp2_with fail
   go_ret;exact⟨Aa (by rw[HZ.out];rfl),HWB.out.trans (hb.mono HWS.out)⟩
  cases b
  ·go_wp2_with fail
   go_ret;exact⟨Aa (by rw[HZ.out];rfl),HWB.out.trans (hb.mono HWS.out)⟩
  cases c
  ·go_wp2_with fail
   go_ret;exact⟨Aa (by rw[HZ.out];rfl),HWB.out.trans (hb.mono HWS.out)⟩
  cases d;all_goals
   go_wp2_with fail
   go_ret;exact⟨Aa (by rw[HZ.out];rfl),HWB.out.trans (hb.mono HWS.out)⟩
 case first=>
  by_cases k1:k=1
  ·subst k1
   go_wp2_with fail
   refine(RR.out w2 hb2).mono ?_;rintro e w3 ⟨rfl,hb3'⟩;have hb3:=hb2.trans (hb3'.mono hb2.size);go_wp2_with fail
   go_meet
   exact⟨_,_,_,_,rfl,rfl,rfl,rfl,Qd (by have e:=HDEF.out;simp(config:={decide:=true}) only[if_true,if_false] at e;rw[e];(try rw[HT0.out]);(try rw[HM0.out])),hb3⟩
  by_cases k2:k=2
  ·subst k2
   by_cases hlen:t.length<=2048
   ·have qlen:(t.length:Int)<=2048:=by omega
    go_wp2_with fail
    refine(CH.out w2 hb2).mono ?_;rintro e w3 ⟨rfl,rfl⟩;go_wp2_with fail
    go_meet
    exact⟨_,_,_,_,rfl,rfl,rfl,rfl,Qd (by have e:=HDEF.out;simp(config:={decide:=true}) only[if_true,if_false] at e;rw[e];(try rw[HT0.out]);(try rw[HM0.out]);rw[decide_eq_true hlen];(try simp)),hb2⟩
   have qlen:¬(t.length:Int)<=2048:=by omega
   go_wp2_with fail
   go_meet
   exact⟨_,_,_,_,rfl,rfl,rfl,rfl,Qd (by have e:=HDEF.out;simp(config:={decide:=true}) only[if_true,if_false] at e;rw[e];(try rw[HT0.out]);(try rw[HM0.out]);rw[decide_eq_false hlen];(try simp)),hb2⟩
  by_cases k3:k=3
  ·subst k3
   go_wp2_with fail
   refine(NMf.out w2).mono ?_;rintro e w3 ⟨rfl,rfl⟩;go_wp2_with fail
   go_meet
   exact⟨_,_,_,_,rfl,rfl,rfl,rfl,Qd (by have e:=HDEF.out;simp(config:={decide:=true}) only[if_true,if_false] at e;rw[e];(try rw[HT0.out]);(try rw[HM0.out])),hb2⟩
  by_cases k13:k=13
  ·subst k13
   go_wp2_with fail
   refine(NMf.out w2).mono ?_;rintro e w3 ⟨rfl,rfl⟩;go_wp2_with fail
   go_meet
   exact⟨_,_,_,_,rfl,rfl,rfl,rfl,Qd (by have e:=HDEF.out;simp(config:={decide:=true}) only[if_true,if_false] at e;rw[e];(try rw[HT0.out]);(try rw[HM0.out])),hb2⟩
  by_cases k14:k=14
  ·subst k14
   go_wp2_with fail
   refine(NMf.out w2).mono ?_;rintro e w3 ⟨rfl,rfl⟩;go_wp2_with fail
   go_meet
   exact⟨_,_,_,_,rfl,rfl,rfl,rfl,Qd (by have e:=HDEF.out;simp(config:={decide:=true}) only[if_true,if_false] at e;rw[e];(try rw[HT0.out]);(try rw[HM0.out])),hb2⟩
  by_cases k15:k=15
  ·subst k15
   go_wp2_with fail
   refine(NMf.out w2).mono ?_;rintro e w3 ⟨rfl,rfl⟩;go_wp2_with fail
   go_meet
   exact⟨_,_,_,_,rfl,rfl,rfl,rfl,Qd (by have e:=HDEF.out;simp(config:={decide:=true}) only[if_true,if_false] at e;rw[e];(try rw[HT0.out]);(try rw[HM0.out])),hb2⟩
  by_cases k18:k=18
  ·subst k18
   go_wp2_with fail
   refine(NMt.out w2).mono ?_;rintro e w3 ⟨rfl,rfl⟩;go_wp2_with fail
   go_meet
   exact⟨_,_,_,_,rfl,rfl,rfl,rfl,Qd (by have e:=HDEF.out;simp(config:={decide:=true}) only[if_true,if_false] at e;rw[e];(try rw[HT0.out]);(try rw[HM0.out])),hb2⟩
  by_cases k27:k=27
  ·subst k27
   go_wp2_with fail
   refine(NMt.out w2).mono ?_;rintro e w3 ⟨rfl,rfl⟩;go_wp2_with fail
   go_meet
   exact⟨_,_,_,_,rfl,rfl,rfl,rfl,Qd (by have e:=HDEF.out;simp(config:={decide:=true}) only[if_true,if_false] at e;rw[e];(try rw[HT0.out]);(try rw[HM0.out])),hb2⟩
  by_cases k6:k=6
  ·subst k6
   by_cases h1:0<=o
   ·by_cases h2:o<8
    ·have HP2:Hid (po=true):=Qd (by rw[HPO.out];exact decide_eq_true ⟨h1,h2⟩)
     go_wp2_with fail
     go_meet
     exact⟨_,_,_,_,rfl,rfl,rfl,rfl,Qd (by have e:=HDEF.out;simp(config:={decide:=true}) only[if_true,if_false] at e;rw[e];(try rw[HT0.out]);(try rw[HM0.out]);rw[HP2.out]),hb2⟩
    have HP2:Hid (po=false):=Qd (by rw[HPO.out];exact decide_eq_false (λh=>h2 h.2));go_wp2_with fail
    go_meet
    exact⟨_,_,_,_,rfl,rfl,rfl,rfl,Qd (by have e:=HDEF.out;simp(config:={decide:=true}) only[if_true,if_false] at e;rw[e];(try rw[HT0.out]);(try rw[HM0.out]);rw[HP2.out]),hb2⟩
   have HP2:Hid (po=false):=Qd (by rw[HPO.out];exact decide_eq_false (λh=>h1 h.1));go_wp2_with fail
   go_meet
   exact⟨_,_,_,_,rfl,rfl,rfl,rfl,Qd (by have e:=HDEF.out;simp(config:={decide:=true}) only[if_true,if_false] at e;rw[e];(try rw[HT0.out]);(try rw[HM0.out]);rw[HP2.out]),hb2⟩
  by_cases k7:k=7
  ·subst k7
   by_cases h1:0<=o
   ·by_cases h2:o<8
    ·have HP2:Hid (po=true):=Qd (by rw[HPO.out];exact decide_eq_true ⟨h1,h2⟩)
     go_wp2_with fail
     go_meet
     exact⟨_,_,_,_,rfl,rfl,rfl,rfl,Qd (by have e:=HDEF.out;simp(config:={decide:=true}) only[if_true,if_false] at e;rw[e];(try rw[HT0.out]);(try rw[HM0.out]);rw[HP2.out]),hb2⟩
    have HP2:Hid (po=false):=Qd (by rw[HPO.out];exact decide_eq_false (λh=>h2 h.2));go_wp2_with fail
    go_meet
    exact⟨_,_,_,_,rfl,rfl,rfl,rfl,Qd (by have e:=HDEF.out;simp(config:={decide:=true}) only[if_true,if_false] at e;rw[e];(try rw[HT0.out]);(try rw[HM0.out]);rw[HP2.out]),hb2⟩
   have HP2:Hid (po=false):=Qd (by rw[HPO.out];exact decide_eq_false (λh=>h1 h.1));go_wp2_with fail
   go_meet
   exact⟨_,_,_,_,rfl,rfl,rfl,rfl,Qd (by have e:=HDEF.out;simp(config:={decide:=true}) only[if_true,if_false] at e;rw[e];(try rw[HT0.out]);(try rw[HM0.out]);rw[HP2.out]),hb2⟩
  by_cases k16:k=16
  ·subst k16
   by_cases h1:0<=o
   ·by_cases h2:o<8
    ·have HP2:Hid (po=true):=Qd (by rw[HPO.out];exact decide_eq_true ⟨h1,h2⟩)
     go_wp2_with fail
     go_meet
     exact⟨_,_,_,_,rfl,rfl,rfl,rfl,Qd (by have e:=HDEF.out;simp(config:={decide:=true}) only[if_true,if_false] at e;rw[e];(try rw[HT0.out]);(try rw[HM0.out]);rw[HP2.out]),hb2⟩
    have HP2:Hid (po=false):=Qd (by rw[HPO.out];exact decide_eq_false (λh=>h2 h.2));go_wp2_with fail
    go_meet
    exact⟨_,_,_,_,rfl,rfl,rfl,rfl,Qd (by have e:=HDEF.out;simp(config:={decide:=true}) only[if_true,if_false] at e;rw[e];(try rw[HT0.out]);(try rw[HM0.out]);rw[HP2.out]),hb2⟩
   have HP2:Hid (po=false):=Qd (by rw[HPO.out];exact decide_eq_false (λh=>h1 h.1));go_wp2_with fail
   go_meet
   exact⟨_,_,_,_,rfl,rfl,rfl,rfl,Qd (by have e:=HDEF.out;simp(config:={decide:=true}) only[if_true,if_false] at e;rw[e];(try rw[HT0.out]);(try rw[HM0.out]);rw[HP2.out]),hb2⟩
  by_cases k17:k=17
  ·subst k17
   go_wp2_with fail
   refine(GL.out w2).mono ?_;rintro e w3 ⟨rfl,hb3'⟩;have hb3:=hb2.trans (hb3'.mono hb2.size);go_wp2_with fail
   go_meet
   exact⟨_,_,_,_,rfl,rfl,rfl,rfl,Qd (by have e:=HDEF.out;simp(config:={decide:=true}) only[if_true,if_false] at e;rw[e];(try rw[HT0.out]);(try rw[HM0.out])),hb3⟩
  by_cases k21:k=21
  ·subst k21
   cases b0
   ·cases e2:(o==1)
    all_goals
     go_wp2_with fail
     go_meet
     exact⟨_,_,_,_,rfl,rfl,rfl,rfl,Qd (by have e:=HDEF.out;simp(config:={decide:=true}) only[if_true,if_false] at e;rw[e];(try rw[HT0.out]);(try rw[HM0.out]);rw[e2];(try simp)),hb2⟩
   go_wp2_with fail
   go_meet
   exact⟨_,_,_,_,rfl,rfl,rfl,rfl,Qd (by have e:=HDEF.out;simp(config:={decide:=true}) only[if_true,if_false] at e;rw[e];(try rw[HT0.out]);(try rw[HM0.out]);(try simp)),hb2⟩
  by_cases k22:k=22
  ·subst k22
   go_wp2_with fail
   go_region_with (first|(go_at_call 108;refine(MO.out _).mono ?_;rintro e w3 ⟨rfl,rfl⟩) |(go_at_call 107;refine(CM.out _).mono ?_;rintro e w4 ⟨rfl,rfl⟩) |(go_at_call 107;refine(CM2.out _).mono ?_;rintro e w4 ⟨rfl,rfl⟩))
   all_goals
    go_wp2_with fail
    go_meet
    exact⟨_,_,_,_,rfl,rfl,rfl,rfl,Qd (by have e:=HDEF.out;simp(config:={decide:=true}) only[if_true,if_false] at e;rw[e];(try rw[HT0.out]);(try rw[HM0.out])),(by first|exact hb2.alloc hb2.size _ |exact Vi (hb2.alloc hb2.size _) |exact Vi (Vi (hb2.alloc hb2.size _)))⟩
  by_cases k23:k=23
  ·subst k23
   go_wp2_with fail
   go_region_with (first|(go_at_call 109;refine(DY.out _).mono ?_;rintro e w3 ⟨rfl,rfl⟩) |(go_at_call 107;refine(CD.out _).mono ?_;rintro e w4 ⟨rfl,rfl⟩) |(go_at_call 107;refine(CD2.out _).mono ?_;rintro e w4 ⟨rfl,rfl⟩))
   all_goals
    go_wp2_with fail
    go_meet
    exact⟨_,_,_,_,rfl,rfl,rfl,rfl,Qd (by have e:=HDEF.out;simp(config:={decide:=true}) only[if_true,if_false] at e;rw[e];(try rw[HT0.out]);(try rw[HM0.out])),(by first|exact hb2.alloc hb2.size _ |exact Vi (hb2.alloc hb2.size _) |exact Vi (Vi (hb2.alloc hb2.size _)))⟩
  have n1:(k==1)=false:=beq_eq_false_iff_ne.2 k1;have n2:(k==2)=false:=beq_eq_false_iff_ne.2 k2;have n3:(k==3)=false:=beq_eq_false_iff_ne.2 k3;have n13:(k==13)=false:=beq_eq_false_iff_ne.2 k13;have n14:(k==14)=false:=beq_eq_false_iff_ne.2 k14;have n15:(k==15)=false:=beq_eq_false_iff_ne.2 k15;have n18:(k==18)=false:=beq_eq_false_iff_ne.2 k18;have n27:(k==27)=false:=beq_eq_false_iff_ne.2 k27;have n6:(k==6)=false:=beq_eq_false_iff_ne.2 k6;have n7:(k==7)=false:=beq_eq_false_iff_ne.2 k7;have n16:(k==16)=false:=beq_eq_false_iff_ne.2 k16;have n17:(k==17)=false:=beq_eq_false_iff_ne.2 k17;have n21:(k==21)=false:=beq_eq_false_iff_ne.2 k21;have n22:(k==22)=false:=beq_eq_false_iff_ne.2 k22;have n23:(k==23)=false:=beq_eq_false_iff_ne.2 k23;have HZ:Hid (R=(zz&&te&&me&&b0)):=Qd (by rw[HDEF.out];simp only[k1,k2,k3,k13,k14,k15,k18,k27,k6,k7,k16,k17,k21,k22,k23,or_self,if_false]);clear k1 k2 k3 k13 k14 k15 k18 k27 k6 k7 k16 k17 k21 k22 k23;go_wp2_with fail
  go_meet
  exact⟨_,_,_,_,rfl,rfl,rfl,rfl,Qd (by rw[HZ.out];(try rw[HT0.out]);(try rw[HM0.out])),hb2⟩
end
section
open Go.RowKit Tr
def IntBox (w:World)(q n:Nat):Prop:=w.heap[q]? =some (.cells #[.int .i64 (n:Int)] 3 (0,0))
theorem IntBox.cell {w:World}{q n:Nat}(h:IntBox w q n):w.cell? ⟨q,0,none⟩=some (.int .i64 (n:Int)):=by unfold IntBox at h;simp[World.cell?,h]
theorem IntBox.frozen {w:World}{q n:Nat}(h:IntBox w q n):w.frozen? ⟨q,0,none⟩=false:=by unfold IntBox at h;simp[World.frozen?,h]
theorem IntBox.set {w:World}{q n:Nat}(h:IntBox w q n)(m:Nat):IntBox (w.setCell ⟨q,0,none⟩ (.int .i64 (m:Int))) q m:=by
 unfold IntBox at*;show(w.heap.modify q _)[q]? =_;rw[Array.getElem?_modify,if_pos rfl,h];rfl
theorem Fa {a b c:World}{r:Nat}(h:a.grownBy b (some r))(k:b.grownBy c (some r)):a.grownBy c (some r):=
 ⟨k.os.trans h.os,k.tape.trans h.tape,k.output.trans h.output,Nat.le_trans h.size k.size,λi hi hr=>(k.block i (Nat.lt_of_lt_of_le hi h.size) hr).trans (h.block i hi hr)⟩
theorem Ea {a b:World}(r:Nat)(h:Below a.heap.size a b):a.grownBy b (some r):=⟨h.os,h.tape,h.output,h.size,λk hk _=>h.block k hk⟩
theorem Toa {a b:World}{r:Nat}(h:a.grownBy b (some r))(v:Value):a.grownBy (b.setCell ⟨r,0,none⟩ v) (some r):=
 ⟨h.os,h.tape,h.output,by simpa using h.size,λk hk hr=>by
  rw[<-h.block k hk hr];show(b.heap.modify r _)[k]? =_;rw[Array.getElem?_modify,if_neg (λe=>hr (by rw[e]))]⟩
theorem Tma {a b:World}{r:Nat}(h:a.grownBy b (some r)){p:Addr}(hp:p.block<a.heap.size)(hr:p.block≠r):b.cell? p=a.cell? p:=by
 unfold World.cell?;rw[h.block _ hp (λe=>hr (by injection e))]
theorem IntBox.below {w w':World}{q n:Nat}(h:IntBox w q n)(hq:q<w.heap.size)(hb:Below w.heap.size w w'):IntBox w' q n:=(hb.block q hq).trans h
theorem Zja {l:List Tree}{j:Nat}(h:j<l.length)(d q:Nat):Qi (l.drop j) d q=if(go l[j] d q).1 then Qi (l.drop (j+1)) d (go l[j] d q).2 else(false,(go l[j] d q).2):=by
 rw[List.drop_eq_getElem_cons h,Qi]
def Aka (w:World)(q:Nat)(r:Bool×Nat)(e:Ending)(w':World):Prop:=e= .returned (.bool r.1)/\IntBox w' q r.2/\w.grownBy w' (some q)
theorem Uma {a:Tree}{d q:Nat}(h:d=0\/q=0):go a d q=(false,q):=by cases a;rw[go,if_pos h]
theorem Uoa {k o:Int}{m:List UInt8}{n:Rt.Nm}{t:List Int}{l:List Tree}{d q:Nat}(h:¬(d=0\/q=0))(h1:one (.mk k o m n t l)=false):go (.mk k o m n t l) d q=(false,q-1):=by rw[go,if_neg h,if_neg (by rw[h1];simp)]
theorem Vma {k o:Int}{m:List UInt8}{n:Rt.Nm}{t:List Int}{l:List Tree}{d q:Nat}(h:¬(d=0\/q=0))(h1:one (.mk k o m n t l)=true):go (.mk k o m n t l) d q=Qi l (d-1) (q-1):=by rw[go,if_neg h,if_pos h1]
mutual
theorem Ws:∀(a:Tree) (d q:Nat),(go a d q).2<=q
 | .mk k o m n t l,d,q=>by
  unfold go
  split
  ·exact Lr
  split
  ·exact Nat.le_trans (Mx l _ _) (Nat.sub_le _ _)
  exact Nat.sub_le _ _
theorem Mx:∀(l:List Tree) (d q:Nat),(Qi l d q).2<=q
 | [],d,q=>by unfold Qi;exact Lr
 |t::r,d,q=>by
  unfold Qi
  split
  ·exact Nat.le_trans (Mx r _ _) (Ws t _ _)
  exact Ws t _ _
end
theorem Ica (n:Nat):∀(a:Tree) (vs:List Value) (d q c:Nat) (w:World) (B:Nat),SizeOf.sizeOf a<n->IsTree w B a vs->B<=q->q<w.heap.size->IntBox w q c->d<=40->c<=2048->
 Calls Tryz.prog 35 #[.agg vs.toArray,.int .i64 (d:Int),.pointer (some ⟨q,0,none⟩)] w (Aka w q (go a d c)):=by
 induction n with
 |zero=>intro a vs d q c w B h;omega
 |succ n ih=>
  intro a vs d q c w B hn h hBq hq hc hd hc2;have HEa:=Yja a vs;have MDa:=Wja a vs;have hIA:=Cb h;have h':=h;obtain⟨k,o,m,nm,t,l⟩:=a;obtain⟨W,hW⟩:∃W,W=w.alloc (.cells vs.toArray 28):=⟨_,rfl⟩;obtain⟨A1,A2,A3,A4,c1,c2,c3,c4,us,HO,HL,HC,hW8,HG,hWl,hWb⟩:=Vb h hW;have hf4:=HO.out.f4.le (by omega);have HWB:=Qd hWb;have hcW:=hc.below hq hWb;have b0:=hcW.cell;have z0:=hcW.frozen;have HW:=Qd hW;by_cases h0:d=0\/c=0
  ·have HZ:Hid (go (.mk k o m nm t l) d c=(false,c)):=Qd (Uma h0)
   have HCW:=Qd hcW;by_cases hd0:d=0
   ·have qd:((d:Int)==0)=true:=beq_iff_eq.2 (by omega)
    clear h hW hWb hn HEa MDa h' hIA hW8 HO h0 hd0;go_enter Tryz.func35,Tryz.ntmps35
    go_upto_region 1 with fail
    rw[<-HW.out];go_wp2_with fail
    go_ret;exact⟨by rw[HZ.out];rfl,by rw[HZ.out];exact HCW.out,Ea q HWB.out⟩
   have qd:((d:Int)==0)=false:=beq_eq_false_iff_ne.2 (by omega);have qc:((c:Int)==0)=true:=beq_iff_eq.2 (by rcases h0 with h |h;exact absurd h hd0;omega);clear h hW hWb hn HEa MDa h' hIA hW8 HO h0 hd0;go_enter Tryz.func35,Tryz.ntmps35
   go_upto_region 1 with fail
   rw[<-HW.out];go_wp2_with fail
   go_ret;exact⟨by rw[HZ.out];rfl,by rw[HZ.out];exact HCW.out,Ea q HWB.out⟩
  have qd:((d:Int)==0)=false:=beq_eq_false_iff_ne.2 (by omega);have qc:((c:Int)==0)=false:=beq_eq_false_iff_ne.2 (by omega);obtain⟨c',rfl⟩:∃c',c=c'+1:=⟨c-1,by omega⟩;obtain⟨W2,hW2⟩:∃W2,W2=W.setCell ⟨q,0,none⟩ (.int .i64 (c':Int)):=⟨_,rfl⟩;have hg2:w.grownBy W2 (some q):=by rw[hW2];exact Toa (Ea q hWb) _
  have hc2':IntBox W2 q c':=by rw[hW2];exact hcW.set c'
  have hs2:w.heap.size<W2.heap.size:=by rw[hW2];simpa using hWl
  have hq2:q<W2.heap.size:=by omega
  have hgb:∀wx,W2.grownBy wx (some q)->(∀p:Addr,p.block<B->wx.cell? p=w.cell? p):=λwx hx p hp=>Tma (Fa hg2 hx) (by omega) (by omega);have HT2:Hid (∀wx,W2.grownBy wx (some q)->IsTree wx B (.mk k o m nm t l) vs):=Qd (λwx hx=>h'.keep (hgb wx hx) Lr);have HGB:Hid (∀wx,W2.grownBy wx (some q)->∀p:Addr,p.block<B->wx.cell? p=w.cell? p):=Qd hgb;have HROW:Hid (∀wx,W2.grownBy wx (some q)->wx.heap[w.heap.size]? =some (.cells vs.toArray 28 (0,0))):=Qd (λwx hx=>by
   rw[hx.block _ hs2 (λe=>by injection e with e;omega)];rw[hW2];show(W.heap.modify q _)[w.heap.size]? =_;rw[Array.getElem?_modify,if_neg (by omega)];exact HG.out)
  have HQ7:Hid (∀wx,W2.grownBy wx (some q)->wx.cell? ⟨w.heap.size,7,none⟩=some (.slice A4 l.length c4)):=Qd (λwx hx=>by
   have e:=HROW.out wx hx;have e2:=hW8.p7;have e1:=HG.out;rw[<-e2];simp only[World.cell?,e,e1])
  have HSZ:Hid (∀(i:Nat) (hi:i<l.length),SizeOf.sizeOf l[i]<n):=Qd (λi hi=>by have:=Vg (k:=k) (o:=o) (m:=m) (n:=nm) (t:=t) hi;omega);have HE1:=Qd (λ(wx:World) (hx:W2.grownBy wx (some q))=>HEa wx B (HT2.out wx hx) (by have:=hx.size;omega));have HM1:=Qd (λ(wx:World) (hx:W2.grownBy wx (some q))=>MDa wx B (HT2.out wx hx) (by have:=hx.size;omega));have HW2:=Qd hW2;have HG2:=Qd hg2;have HC2:=Qd hc2';have HIA:=Qd hIA;clear hW hW2 hg2 hc2' hgb HEa MDa hIA h' h hW8 HO;go_enter Tryz.func35,Tryz.ntmps35
  go_upto_region 1 with fail
  rw[<-HW.out];go_upto_region 4 with fail
  rw[<-HW2.out];have hgr:W2.grownBy W2 (some q):=⟨rfl,rfl,rfl,Lr,λ_ _ _=>rfl⟩;have HGR:=Qd hgr;have HONE:Hid (one (.mk k o m nm t l)=(Ta k o m nm t&&Pb k o (l.map kind))):=Qd rfl;have HGD:=Qd (@Vma k o m nm t l d (c'+1) h0);have HBD:=Qd (@Uoa k o m nm t l d (c'+1) h0);generalize one (.mk k o m nm t l)=on at*;generalize go (.mk k o m nm t l) d (c'+1)=R at*;have H1:Hid (Calls Tryz.prog 63 #[.agg vs.toArray] W2 (La W2 (Ta k o m nm t))):=Qd (HE1.out W2 hgr);have H2:Hid (∀wx,W2.grownBy wx (some q)->Calls Tryz.prog 64 #[.agg vs.toArray] wx (La wx (Pb k o (l.map kind)))):=Qd (λwx hx=>HM1.out wx hx);generalize Ta k o m nm t=he at*;generalize Pb k o (l.map kind)=md at*;clear HE1 HM1 hgr;go_wp2_with (with_reducible refine Wh (.tmp 3) rfl rfl w.heap.size rfl (HROW.out _ HGR.out) HIA.out ?_)
  refine H1.out.mono ?_;rintro e w3 ⟨rfl,hb3⟩;have hg3:=Ea q hb3;cases he
  ·have HZ:Hid (R=(false,c')):=Qd (by rw[HBD.out (by rw[HONE.out];rfl)];rfl)
   have HC3:=Qd (HC2.out.below hq2 hb3);go_wp2_with fail
   go_ret;exact⟨by rw[HZ.out];rfl,by rw[HZ.out];exact HC3.out,Fa HG2.out hg3⟩
  go_wp2_with (refine Kx (.tmp 3) rfl rfl w.heap.size rfl (HROW.out _ hg3) HIA.out ?_)
  refine(H2.out _ hg3).mono ?_;rintro e w4 ⟨rfl,hb4⟩;have hb5:=hb3.trans (hb4.mono hb3.size);have hg4:=Ea q hb5;have HC4:=Qd (HC2.out.below hq2 hb5);cases md
  ·have HZ:Hid (R=(false,c')):=Qd (by rw[HBD.out (by rw[HONE.out];rfl)];rfl)
   go_wp2_with fail
   go_ret;exact⟨by rw[HZ.out];rfl,by rw[HZ.out];exact HC4.out,Fa HG2.out hg4⟩
  have HZ:Hid (R=Qi l (d-1) c'):=Qd (by rw[HGD.out (by rw[HONE.out];rfl)];rfl);have q7:=HQ7.out w4 hg4;have hd1:1<=d:=by omega
  have HGW:=Qd hg4;clear H1 H2 HONE HGD HBD qc z0 b0;go_wp2_with fail
  go_loopw [33] (λi wr=>∃(j cc:Nat),j<=l.length/\i= .int .i64 j/\cc<=2048/\Hid (Qi (l.drop j) (d-1) cc=R)/\Hid (IntBox wr q cc)/\Hid (W2.grownBy wr (some q))) (λi _=>l.length-(intOf i).toNat)
  case atStart=>exact⟨0,c',Nat.zero_le _,rfl,by omega,Qd HZ.out.symm,HC4,HGW⟩
  case round=>
   clear q7 HC4 HGW hg4 hb5 hb4 hb3 hg3;obtain⟨j,cc,hj,rfl,hcc,HI,HCB,HGW⟩:=hrel;by_cases hlt:j<l.length
   ·obtain⟨b,off,tv,rfl,hb,HTR,HR⟩:=Dd HC.out HL.out (wr:=wr) (HGB.out wr HGW.out) hlt
    obtain⟨WB,hWB⟩:∃W,W=wr.alloc (.cells tv.toArray 28):=⟨_,rfl⟩;have hwb:Below wr.heap.size wr WB:=by rw[hWB];exact Br.alloc Lr _
    have hqr:q<wr.heap.size:=Nat.lt_of_lt_of_le hq2 HGW.out.size;have HGB2:Hid (W2.grownBy WB (some q)):=Qd (Fa HGW.out (Ea q hwb));have HROWB:Hid (WB.heap[wr.heap.size]? =some (.cells tv.toArray 28 (0,0))):=Qd (by rw[hWB];exact heap_alloc_new wr _);have HIB:=Qd (Cb HTR.out);have HIL:=Qd (Fc HTR.out);have HS8:Hid (tv.toArray.size=8):=Qd (by rw[List.size_toArray,HTR.out.len]);have HON:=Qd (Zk HTR.out);have q9:IntKind.i64.wrap ((d:Int)-1)=((d-1:Nat):Int):=by rw[show(d:Int)-1=((d-1:Nat):Int) by omega];exact IntWalk.i64_in _ (by omega)
    have IH:=Qd (ih l[j] tv (d-1) q cc WB B (HSZ.out j hlt) (HTR.out.keep (HGB.out WB HGB2.out) Lr) hBq (Nat.lt_of_lt_of_le hqr hwb.size) (HCB.out.below hqr hwb) (by omega) hcc);have HGD:=Qd (Zja hlt (d-1) cc);have HSM:=Qd (Ws l[j] (d-1) cc);have HWBB:=Qd hWB;generalize go l[j] (d-1) cc=r at*;obtain⟨r1,r2⟩:=r;clear hWB hwb HTR;go_upto_region 9 with(first
     |(with_reducible refine Gc rfl (.tmp 35) rfl b (off+j*8) rfl tv HR.out HIL.out ?_)
     |(refine wpList_store_row rfl 28 (.tmp 8) (.tmp 36) rfl wr.heap.size tv.toArray rfl rfl 28 _ (heap_alloc_new wr _) HIB.out HS8.out.symm HON.out ?_;rw[World.setRow_alloc_new]))
    rw[<-HWBB.out];go_wp2_with (with_reducible refine wpList_load_row rfl 28 (.tmp 8) rfl wr.heap.size rfl 28 tv.toArray (0,0) _ HROWB.out Tryz.underlying28 rfl HIB.out ?_)
    refine IH.out.mono ?_;rintro e w6 ⟨rfl,hc6,hg6⟩;have HC6:=Qd hc6;have HG6:=Qd (Fa HGB2.out hg6);have hr2:r2<=2048:=Nat.le_trans HSM.out hcc;clear hc6 hg6;cases r1
    ·have HE:Hid (R=(false,r2)):=Qd (by rw[<-HI.out,HGD.out];rfl)
     go_wp2_with fail
     go_ret;exact⟨by rw[HE.out];rfl,by rw[HE.out];exact HC6.out,Fa HG2.out HG6.out⟩
    have HE:Hid (Qi (l.drop (j+1)) (d-1) r2=R):=Qd (by rw[<-HI.out,HGD.out];rfl);go_wp2_with fail
    go_roundw
    case rel=>first
     |exact⟨j+1,r2,by omega,by go_num,hr2,HE,HC6,HG6⟩
     |exact⟨_,_,⟨j+1,r2,by omega,rfl,hr2,HE,HC6,HG6⟩,rfl,by go_num⟩
    case measure=>simp[intOf];omega
   have HE:Hid (R=(true,cc)):=Qd (by rw[<-HI.out,List.drop_eq_nil_of_le (by omega),Qi]);go_wp2_with fail
   go_ret;exact⟨by rw[HE.out];rfl,by rw[HE.out];exact HCB.out,Fa HG2.out HGW.out⟩
theorem Zu (a:Tree)(vs:List Value)(w:World)(B:Nat)(h:IsTree w B a vs)(hB:B<=w.heap.size):
 Calls Tryz.prog 20 #[.agg vs.toArray] w (La w (right a)):=by
 obtain⟨W,hW⟩:∃W,W=(w.alloc (.cells vs.toArray 28)).alloc (.cells #[.int .i64 2048] 3):=⟨_,rfl⟩;have hWb:Below w.heap.size w W:=by rw[hW];exact(Br.alloc Lr _).alloc (by simp) _
 have hWs:W.heap.size=w.heap.size+1+1:=by rw[hW];simp
 have HG:Hid (W.heap[w.heap.size]? =some (.cells vs.toArray 28 (0,0))):=Qd (by rw[hW];exact heap_alloc2_old _ _ _);have hbx:IntBox W (w.heap.size+1) 2048:=by unfold IntBox;rw[hW];exact heap_alloc2_new _ _ _
 have RT:=Qd (Ica _ a vs 40 (w.heap.size+1) 2048 W B (Nat.lt_succ_self _) (h.below (hWb.mono hB)) (by omega) (by omega) hbx (by omega) (by omega));have HR:=Qd (Eia a);have HIA:=Qd (Cb h);have HWB:=Qd hWb;have HWS:=Qd hWs;generalize go a 40 2048=r at*;obtain⟨r1,r2⟩:=r;have HW:=Qd hW;clear hW hWb hWs hbx h;go_enter Tryz.func20,Tryz.ntmps20
 go_upto_region 2 with fail
 rw[<-HW.out];go_wp2_with (with_reducible refine Wh (.tmp 1) rfl rfl w.heap.size rfl HG.out HIA.out ?_)
 refine RT.out.mono ?_;rintro e w2 ⟨rfl,_,hg⟩;have HGG:=Qd hg;clear hg;go_wp2_with fail
 go_ret;refine⟨Aa HR.out,⟨HGG.out.os.trans HWB.out.os,HGG.out.tape.trans HWB.out.tape,HGG.out.output.trans HWB.out.output,Nat.le_trans HWB.out.size HGG.out.size,λk hk=>?_⟩⟩;rw[HGG.out.block k (by have:=HWS.out;omega) (λe=>by injection e with e;omega)];exact HWB.out.block k hk
end
section
open Go.RowKit Tr
theorem He (b:Nat):Fits 0 0 b:=⟨Lr,by omega,by omega⟩
theorem Hd {k o:Int}(hk: -9223372036854775808<=k/\k<=9223372036854775807)(ho: -9223372036854775808<=o/\o<=9223372036854775807):Jd [k,o]:=by
 intro n hn;rcases List.mem_cons.1 hn with rfl |hn
 ·exact hk
 rw[List.mem_singleton.1 hn];exact ho
theorem Bka {w:World}{B:Nat}{k o:Int}{m:List UInt8}{len c:Nat}{A:Option Addr}(hk:Jd [k,o])(hm:m.length<=140737488355328)(hf:Fits len c 136):Own w B k o m Rt.none_ [] len none none none A 0 0 0 c:=
 ⟨hk,hm,He _,He _,He _,hf,(λ_ h=>by cases h),(λ_ h=>by cases h),(λ_ h=>by cases h),.inl rfl,.inl rfl,.inl rfl,λ_=>rfl,λ_=>rfl⟩
theorem Bj {w:World}{B:Nat}{k o:Int}{m:List UInt8}{l:List Tree}{us:List Value}{c:Nat}{A:Option Addr}(hk:Jd [k,o])(hm:m.length<=140737488355328)(hf:Fits l.length c 136)(hl:Lies w B A us)(hc:IsTrees w B l us):
 IsTree w B (Pr.node k o m l) (Qa k o m Rt.none_ [] l.length none none none A 0 0 0 c):=by
 unfold Pr.node;rw[IsTree];exact⟨none,none,none,A,0,0,0,c,us,rfl,Bka hk hm hf,hl,hc⟩
theorem J7 {w:World}{B:Nat}{k o:Int}{m:List UInt8}(hk:Jd [k,o])(hm:m.length<=140737488355328):IsTree w B (Pr.node k o m []) (Qa k o m Rt.none_ [] 0 none none none none 0 0 0 0):=
 Bj (l:=[]) hk hm (He _) (.inl rfl) (by rw[IsTrees])
theorem Vr {w:World}{B:Nat}{l:List Tree}{us:List Value}{T:TypeId}(h:IsTrees w B l us)(hB:B<=w.heap.size):
 IsTrees (w.alloc (.cells us.toArray T)) (w.alloc (.cells us.toArray T)).heap.size l us/\Lies (w.alloc (.cells us.toArray T)) (w.alloc (.cells us.toArray T)).heap.size (some ⟨w.heap.size,0,none⟩) us:=by
 have hb:Below w.heap.size w (w.alloc (.cells us.toArray T)):=Br.alloc Lr _;exact⟨(h.below (hb.mono hB)).more (Nat.le_trans hB hb.size),Cf⟩
theorem Tp {w:World}{B:Nat}{a:Tree}{vs:List Value}(h:IsTree w B a vs):IsTrees w B [a] vs:=by rw[IsTrees];exact⟨vs,[],by simp,h,by rw[IsTrees]⟩
theorem Dk {w:World}{B:Nat}{a:Tree}{l:List Tree}{vs us:List Value}(h:IsTree w B a vs)(hl:IsTrees w B l us):IsTrees w B (a::l) (vs++us):=by rw[IsTrees];exact⟨vs,us,rfl,h,hl⟩
end
end Go.Proofs.YtceplkpjnebnfaaGreatDoor
