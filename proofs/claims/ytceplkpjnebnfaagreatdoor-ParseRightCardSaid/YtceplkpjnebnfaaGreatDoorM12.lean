/-
  Texts of this proof, joined (by wip/bin/bundle.py): Tree14, RatR, Tree10, Tree16, Tree17, TreeNew, Prs1.
-/
import Derived.Test.YtceplkpjnebnfaaGreatDoorM11
import Derived.Deep.CutBlock
import Derived.Deep.RegionWith
import Derived.Deep.WholeRow
import Derived.Deep.QuietTactic
import Derived.BigQuiet
import Derived.IntWalk
set_option linter.all false
set_option maxHeartbeats 8000000
set_option maxRecDepth 100000
namespace Go.Proofs.YtceplkpjnebnfaaGreatDoor
section
open Go.RowKit Tr
set_option maxHeartbeats 80000000
def Vs (o:Int)(x:Int):Bool:=(plain x&& !(o==0x2364))||(array x&&((o==0x2364)||(o==0x2363)))
theorem Pz (g:Nat)(o:Int)(a:Da)(vs:List Value)(w:World)(B:Nat)(h:IsTree w B a vs)(hg:w.cell? ⟨g,1,none⟩=some (.int .i64 o))(hgl:g<w.heap.size):
 Calls Tryz.prog 115 #[.agg vs.toArray,.pointer (some ⟨g,0,none⟩)] w (Oa w (Vs o (kind a))):=by
 obtain⟨k,o',m,nm,t,l⟩:=a;show Calls _ _ _ _ (Oa w (Vs o k));obtain⟨W,hW⟩:∃W,W=w.alloc (.cells vs.toArray 28):=⟨_,rfl⟩;obtain⟨A1,A2,A3,A4,c1,c2,c3,c4,us,HO,HL,HC,hW8,HG,hWl,hWb⟩:=Tb h hW;have q0:W.cell? ⟨w.heap.size,0,none⟩=some (.int .i64 k):=hW8.p0;have q1:W.cell? ⟨g,1,none⟩=some (.int .i64 o):=(hWb.cell (p:=⟨g,1,none⟩) hgl).trans hg;have HWB:=Qd hWb;have HW:=Qd hW;have AR:=Qd (λwx=>Oh k wx);have PL:=Qd (λwx=>Fp k wx);have HE:Hid (Vs o k=((plain k&& !(o==0x2364))||(array k&&((o==0x2364)||(o==0x2363))))):=Qd rfl;generalize Vs o k=R at*;generalize array k=x at*;generalize plain k=y at*;clear h hW hW8 HO HL HC HG hWb hg;have n1:(o !=9060)= !(o==9060):=rfl;cases e1:(o==9060)
 ·rw[e1] at n1 HE
  rw[Bool.not_false] at n1;cases y
  ·cases x
   ·have HE2:Hid (R=false):=Qd (by rw[HE.out];rfl)
    clear HE;have HE:=HE2;clear HE2;go_enter Tryz.func115,Tryz.ntmps115
    go_upto_region 1 with fail
    rw[←HW.out];go_wp2_with fail
    refine(PL.out _).mono ?_;rintro e w1 ⟨rfl,rfl⟩;go_wp2_with fail
    refine(AR.out _).mono ?_;rintro e w1 ⟨rfl,rfl⟩;go_wp2_with fail
    go_ret;exact⟨Aa (by rw[HE.out]<;>rfl),HWB.out⟩
   cases e2:(o==9059);all_goals
    rw[e2] at HE;go_enter Tryz.func115,Tryz.ntmps115
    go_upto_region 1 with fail
    rw[←HW.out];go_wp2_with fail
    refine(PL.out _).mono ?_;rintro e w1 ⟨rfl,rfl⟩;go_wp2_with fail
    refine(AR.out _).mono ?_;rintro e w1 ⟨rfl,rfl⟩;go_wp2_with fail
    go_ret;exact⟨Aa (by rw[HE.out]<;>rfl),HWB.out⟩
  have HE2:Hid (R=true):=Qd (by rw[HE.out];rfl);clear HE;have HE:=HE2;clear HE2;go_enter Tryz.func115,Tryz.ntmps115
  go_upto_region 1 with fail
  rw[←HW.out];go_wp2_with fail
  refine(PL.out _).mono ?_;rintro e w1 ⟨rfl,rfl⟩;go_wp2_with fail
  go_ret;exact⟨Aa (by rw[HE.out]<;>rfl),HWB.out⟩
 rw[e1] at n1 HE;rw[Bool.not_true] at n1;cases y;all_goals
  cases x;all_goals
   have HE2:=HE.out;simp only[Bool.not_true,Bool.and_false,Bool.false_or,Bool.true_or,Bool.and_true,Bool.true_and,Bool.false_and] at HE2;have HE3:=Qd HE2;clear HE HE2;have HE:=HE3;clear HE3;go_enter Tryz.func115,Tryz.ntmps115
   go_upto_region 1 with fail
   rw[←HW.out];go_wp2_with fail
   refine(PL.out _).mono ?_;rintro e w1 ⟨rfl,rfl⟩;go_wp2_with fail
   refine(AR.out _).mono ?_;rintro e w1 ⟨rfl,rfl⟩;go_wp2_with fail
   go_ret;exact⟨Aa (by rw[HE.out]<;>rfl),HWB.out⟩
def Of (k:Int)(x:Int):Bool:=if x=27 then true else if x=25∨x=26 then k==20 else array x
theorem Qz (g:Nat)(k:Int)(a:Da)(vs:List Value)(w:World)(B:Nat)(h:IsTree w B a vs)(hg:w.cell? ⟨g,0,none⟩=some (.int .i64 k))(hgl:g<w.heap.size):
 Calls Tryz.prog 118 #[.agg vs.toArray,.pointer (some ⟨g,0,none⟩)] w (Oa w (Of k (kind a))):=by
 obtain⟨x,o',m,nm,t,l⟩:=a;show Calls _ _ _ _ (Oa w (Of k x));obtain⟨W,hW⟩:∃W,W=w.alloc (.cells vs.toArray 28):=⟨_,rfl⟩;obtain⟨A1,A2,A3,A4,c1,c2,c3,c4,us,HO,HL,HC,hW8,HG,hWl,hWb⟩:=Tb h hW;have q0:W.cell? ⟨w.heap.size,0,none⟩=some (.int .i64 x):=hW8.p0;have q1:W.cell? ⟨g,0,none⟩=some (.int .i64 k):=(hWb.cell (p:=⟨g,0,none⟩) hgl).trans hg;have HWB:=Qd hWb;have HW:=Qd hW;have AR:=Qd (λwx=>Oh x wx);have HE:Hid (Of k x=if x=27 then true else if x=25∨x=26 then k==20 else array x):=Qd rfl;generalize Of k x=R at*;clear h hW hW8 HO HL HC HG hWb hg;by_cases h27:x=27
 ·have HZ:Hid (R=true):=Qd (by rw[HE.out,if_pos h27])
  subst h27;go_enter Tryz.func118,Tryz.ntmps118
  go_upto_region 1 with fail
  rw[←HW.out];go_wp2_with fail
  go_ret;exact⟨Aa (by rw[HZ.out]),HWB.out⟩
 by_cases h25:x=25
 ·have HZ:Hid (R=(k==20)):=Qd (by rw[HE.out,if_neg h27,if_pos (.inl h25)])
  subst h25;generalize hk:(k==20)=b at*;clear h27 HE;cases b;all_goals
   go_enter Tryz.func118,Tryz.ntmps118
   go_upto_region 1 with fail
   rw[←HW.out];go_wp2_with fail
   go_ret;exact⟨Aa (by rw[HZ.out]),HWB.out⟩
 by_cases h26:x=26
 ·have HZ:Hid (R=(k==20)):=Qd (by rw[HE.out,if_neg h27,if_pos (.inr h26)])
  subst h26;generalize hk:(k==20)=b at*;clear h27 HE h25;cases b;all_goals
   go_enter Tryz.func118,Tryz.ntmps118
   go_upto_region 1 with fail
   rw[←HW.out];go_wp2_with fail
   go_ret;exact⟨Aa (by rw[HZ.out]),HWB.out⟩
 have HZ:Hid (R=array x):=Qd (by rw[HE.out,if_neg h27,if_neg (by rintro(h |h);exact h25 h;exact h26 h)]);have n27:(x==27)=false:=beq_eq_false_iff_ne.2 h27;have n25:(x==25)=false:=beq_eq_false_iff_ne.2 h25;have n26:(x==26)=false:=beq_eq_false_iff_ne.2 h26;clear h27 h25 h26 HE;generalize array x=r at*;go_enter Tryz.func118,Tryz.ntmps118
 go_upto_region 1 with fail
 rw[←HW.out];go_wp2_with fail
 refine(AR.out _).mono ?_;rintro e w1 ⟨rfl,rfl⟩;go_wp2_with fail
 go_ret;exact⟨Aa (by rw[HZ.out]),HWB.out⟩
def fA:FnP:=⟨112,#[],array⟩
def fF:FnP:=⟨114,#[],func⟩
def fL:FnP:=⟨117,#[],plain⟩
def fD (g:Nat)(o:Int):FnP:=⟨115,#[.pointer (some ⟨g,0,none⟩)],Vs o⟩
theorem Rz (fs:List FnP)(A:Option Addr)(c:Nat)(l:List Da)(us:List Value)(w:World)(B:Nat)(hl:Lies w B A us)(hc:IsTrees w B l us)(hB:B≤w.heap.size)(hn:l.length≤1100000000000)(hn':fs.length≤1000)
 (hF:∀wx,Below w.heap.size w wx→∀f∈fs,FunK wx B f.F f.caps f.p) (n:Nat) (T:TypeId) (cs:Array Value) (hcs:cs=(fs.map FnP.val).toArray) (hnn:n=fs.length):
 Calls Tryz.prog 110 #[.slice A l.length c,.slice (some ⟨w.heap.size,0,none⟩) n n] (w.alloc (.cells cs T)) (Oa w (Ra (l.map kind) (fs.map FnP.p))):=by
 subst hcs hnn;have hb:Below w.heap.size w (w.alloc (.cells (fs.map FnP.val).toArray T)):=(Below.refl _ _).alloc (Nat.le_refl _) _;refine(Ip fs (some ⟨w.heap.size,0,none⟩) fs.length A c l us _ B (hl.below (hb.mono hB)) (hc.below (hb.mono hB)) (by simp;omega) hn hn' (.inr ⟨w.heap.size,0,rfl,by simp,λj v hv=>?_⟩) (hF _ hb)).mono ?_
 ·rw[Nat.zero_add,cell_of_row _ w.heap.size j _ _ _ (heap_alloc_new w _),List.getElem?_toArray];exact hv
 rintro e w' ⟨rfl,hb2⟩;exact⟨rfl,hb.trans (hb2.mono (by simp))⟩
theorem Pn {w:World}{B:Nat}{l:List Da}{us:List Value}{b off:Nat}(hc:IsTrees w B l us)(hl:Lies w B (some ⟨b,off,none⟩) us)(h0:0<l.length):∃us2,Hid (Lies w B (some ⟨b,off+8,none⟩) us2)∧Hid (IsTrees w B (l.drop 1) us2):=by
 cases l with
 |nil=>simp at h0
 |cons a r=>
  rw[IsTrees] at hc;obtain⟨u,t,rfl,h1,h2⟩:=hc;refine⟨t,Qd ?_,Qd h2⟩;cases ht:t with
  |nil=>exact .inl rfl
  |cons x y=>
   rcases hl with h |⟨b',off',e,hb,hcell⟩
   ·rw[ht] at h;simp at h
   injection e with e
   injection e with e1 e2
   subst e1 e2;refine .inr ⟨b,off+8,rfl,hb,λj v hv=>?_⟩;have:=hcell (8+j) v (by rw[List.getElem?_append_right (by rw[h1.len];omega),h1.len,Nat.add_sub_cancel_left,ht];exact hv);rwa[←Nat.add_assoc] at this
theorem Sg {P:Program}{ops:Array Oper}{rest:List Oper}{o:Oper}{a:Act}{w:World}{Q:Exit→Act→World→Prop}(hw:Region.wanted o (yielded ops a.tmps)=true)(ty:TypeId)(x:Operand)(ho:o.op= .load ty x)
 (b off:Nat) (hx:a.eval x= .pointer (some ⟨b,off,none⟩)) (cs:List Value) (d:TypeDesc) (hc:w.rangeAt b off cs)
 (hu:P.underlying ty=some d) (hd:d.isRow=true) (hi:(P.info? ty).map (·.size)=some cs.length)
 (h:wpList P ops Q rest (a.put o.dst (.agg cs.toArray)) w):wpList P ops Q (o::rest) a w:=
 BigFrame.wpList_want hw λ_ hK=>wp_load_mid ty x ho b off hx cs d hc hu hd hi (hK _ _ h)
theorem Z4 (a:Da)(vs:List Value)(w:World)(B:Nat)(h:IsTree w B a vs)(hB:B≤w.heap.size):
 Calls Tryz.prog 64 #[.agg vs.toArray] w (Oa w (Dc (kind a) (op a) ((Be a).map kind))):=by
 obtain⟨k,o,m,nm,t,l⟩:=a;show Calls _ _ _ _ (Oa w (Dc k o (l.map kind)));obtain⟨W,hW⟩:∃W,W=w.alloc (.cells vs.toArray 28):=⟨_,rfl⟩;obtain⟨A1,A2,A3,A4,c1,c2,c3,c4,us,HO,HL,HC,hW8,HG,hWl,hWb⟩:=Tb h hW;have hf4:=HO.out.f4.le (by omega);have hf4b:=HO.out.f4.2.1;have q0:W.cell? ⟨w.heap.size,0,none⟩=some (.int .i64 k):=hW8.p0;have q7:W.cell? ⟨w.heap.size,7,none⟩=some (.slice A4 l.length c4):=hW8.p7;have HLW:Hid (Lies W B A4 us):=Qd (HL.out.below (hWb.mono hB));have HCW:Hid (IsTrees W B l us):=Qd (HC.out.below (hWb.mono hB));have HBW:Hid (B≤W.heap.size):=Qd (by omega);have hln:l.length≤1100000000000:=by omega
 have HQ0:Hid (∀wx,Below W.heap.size W wx→wx.cell? ⟨w.heap.size,0,none⟩=some (.int .i64 k)∧wx.cell? ⟨w.heap.size,1,none⟩=some (.int .i64 o)∧w.heap.size<wx.heap.size):=Qd (λwx hx=>⟨(hx.cell (p:=⟨w.heap.size,0,none⟩) hWl).trans hW8.p0,(hx.cell (p:=⟨w.heap.size,1,none⟩) hWl).trans hW8.p1,Nat.lt_of_lt_of_le hWl hx.size⟩);have FA:Hid (∀wx,FunK wx B fA.F fA.caps fA.p):=Qd (λwx=>Ss wx B);have FF:Hid (∀wx,FunK wx B fF.F fF.caps fF.p):=Qd (λwx=>U7 wx B);have FL:Hid (∀wx,FunK wx B fL.F fL.caps fL.p):=Qd (λwx=>X4 wx B);have FD:Hid (∀wx,Below W.heap.size W wx→FunK wx B (fD w.heap.size o).F (fD w.heap.size o).caps (fD w.heap.size o).p):=Qd (λwx hx=>⟨enters_of Tryz.func115 (by kernel_rfl) rfl,λa vs wy hy ht=>Pz w.heap.size o a vs wy B ht (HQ0.out wy (hx.trans (hy.mono hx.size))).2.1 (HQ0.out wy (hx.trans (hy.mono hx.size))).2.2⟩);have FS:Hid (FunK W B 118 #[.pointer (some ⟨w.heap.size,0,none⟩)] (Of k)):=Qd ⟨enters_of Tryz.func118 (by kernel_rfl) rfl,λa vs wy hy ht=>Qz w.heap.size k a vs wy B ht (HQ0.out wy hy).1 (HQ0.out wy hy).2.2⟩;have PN:=λ(fs:List FnP) (hn':fs.length≤1000) (hF:∀wx,Below W.heap.size W wx→∀f∈fs,FunK wx B f.F f.caps f.p) n T cs hcs hnn=>Rz fs A4 c4 l us W B HLW.out HCW.out HBW.out hln hn' hF n T cs hcs hnn;replace PN:=Qd PN;have P0:Hid (Calls Tryz.prog 110 #[.slice A4 l.length c4,.slice none 0 0] W (Oa W (Ra (l.map kind) []))):=Qd (Ip [] none 0 A4 c4 l us W B HLW.out HCW.out HBW.out hln (by decide) (.inl rfl) (λf hf=>by cases hf));have EA:=Qd (Gj _ _ _ A4 c4 l us W B HLW.out HCW.out HBW.out hln (Ss W B));have ES:=Qd (Gj _ _ _ A4 c4 l us W B HLW.out HCW.out HBW.out hln FS.out);have HWB:=Qd hWb;have HWS:Hid (w.heap.size≤W.heap.size):=Qd (by omega);have HW:=Qd hW;obtain⟨R,hR⟩:∃R,R=Dc k o (l.map kind):=⟨_,rfl⟩;rw[←hR];have HDEF:=Qd hR;clear h hW hW8 HO HG hWb hR hf4b;have HKB:Hid (∀wx,Below W.heap.size W wx→∀p:Addr,p.block<B→wx.cell? p=W.cell? p):=Qd (λwx hx p hp=>hx.cell (by have:=HBW.out;omega));go_enter Tryz.func64,Tryz.ntmps64
 go_upto_region 1 with fail
 rw[←HW.out];by_cases k1:k=1
 ·subst k1
  have HZ:Hid (R=Ra (l.map kind) []):=Qd (by rw[HDEF.out];unfold Dc;rw[if_neg (by decide),if_neg (by decide),if_neg (by decide),if_neg (by decide),if_neg (by decide),if_neg (by decide),if_neg (by decide),if_neg (by decide),if_neg (by decide),if_neg (by decide),if_neg (by decide),if_pos (by decide)];cases l<;>rfl);generalize Ra (l.map kind) []=r at*;clear HDEF;go_wp2_with fail
  refine(P0.out).mono ?_;rintro e w2 ⟨rfl,hb2⟩;go_wp2_with fail
  go_ret;exact⟨Aa (by rw[HZ.out]),HWB.out.trans (hb2.mono HWS.out)⟩
 by_cases k2:k=2
 ·subst k2
  have HZ:Hid (R=Ra (l.map kind) []):=Qd (by rw[HDEF.out];unfold Dc;rw[if_neg (by decide),if_neg (by decide),if_neg (by decide),if_neg (by decide),if_neg (by decide),if_neg (by decide),if_neg (by decide),if_neg (by decide),if_neg (by decide),if_neg (by decide),if_neg (by decide),if_pos (by decide)];cases l<;>rfl);generalize Ra (l.map kind) []=r at*;clear HDEF;go_wp2_with fail
  refine(P0.out).mono ?_;rintro e w2 ⟨rfl,hb2⟩;go_wp2_with fail
  go_ret;exact⟨Aa (by rw[HZ.out]),HWB.out.trans (hb2.mono HWS.out)⟩
 by_cases k3:k=3
 ·subst k3
  have HZ:Hid (R=Ra (l.map kind) []):=Qd (by rw[HDEF.out];unfold Dc;rw[if_neg (by decide),if_neg (by decide),if_neg (by decide),if_neg (by decide),if_neg (by decide),if_neg (by decide),if_neg (by decide),if_neg (by decide),if_neg (by decide),if_neg (by decide),if_neg (by decide),if_pos (by decide)];cases l<;>rfl);generalize Ra (l.map kind) []=r at*;clear HDEF;go_wp2_with fail
  refine(P0.out).mono ?_;rintro e w2 ⟨rfl,hb2⟩;go_wp2_with fail
  go_ret;exact⟨Aa (by rw[HZ.out]),HWB.out.trans (hb2.mono HWS.out)⟩
 by_cases k4:k=4
 ·subst k4
  have HZ:Hid (R=Ra (l.map kind) []):=Qd (by rw[HDEF.out];unfold Dc;rw[if_neg (by decide),if_neg (by decide),if_neg (by decide),if_neg (by decide),if_neg (by decide),if_neg (by decide),if_neg (by decide),if_neg (by decide),if_neg (by decide),if_neg (by decide),if_neg (by decide),if_pos (by decide)];cases l<;>rfl);generalize Ra (l.map kind) []=r at*;clear HDEF;go_wp2_with fail
  refine(P0.out).mono ?_;rintro e w2 ⟨rfl,hb2⟩;go_wp2_with fail
  go_ret;exact⟨Aa (by rw[HZ.out]),HWB.out.trans (hb2.mono HWS.out)⟩
 by_cases k5:k=5
 ·subst k5
  have HZ:Hid (R=Ra (l.map kind) []):=Qd (by rw[HDEF.out];unfold Dc;rw[if_neg (by decide),if_neg (by decide),if_neg (by decide),if_neg (by decide),if_neg (by decide),if_neg (by decide),if_neg (by decide),if_neg (by decide),if_neg (by decide),if_neg (by decide),if_neg (by decide),if_pos (by decide)];cases l<;>rfl);generalize Ra (l.map kind) []=r at*;clear HDEF;go_wp2_with fail
  refine(P0.out).mono ?_;rintro e w2 ⟨rfl,hb2⟩;go_wp2_with fail
  go_ret;exact⟨Aa (by rw[HZ.out]),HWB.out.trans (hb2.mono HWS.out)⟩
 by_cases k6:k=6
 ·subst k6
  have HZ:Hid (R=Ra (l.map kind) []):=Qd (by rw[HDEF.out];unfold Dc;rw[if_neg (by decide),if_neg (by decide),if_neg (by decide),if_neg (by decide),if_neg (by decide),if_neg (by decide),if_neg (by decide),if_neg (by decide),if_neg (by decide),if_neg (by decide),if_neg (by decide),if_pos (by decide)];cases l<;>rfl);generalize Ra (l.map kind) []=r at*;clear HDEF;go_wp2_with fail
  refine(P0.out).mono ?_;rintro e w2 ⟨rfl,hb2⟩;go_wp2_with fail
  go_ret;exact⟨Aa (by rw[HZ.out]),HWB.out.trans (hb2.mono HWS.out)⟩
 by_cases k7:k=7
 ·subst k7
  have HZ:Hid (R=Ra (l.map kind) []):=Qd (by rw[HDEF.out];unfold Dc;rw[if_neg (by decide),if_neg (by decide),if_neg (by decide),if_neg (by decide),if_neg (by decide),if_neg (by decide),if_neg (by decide),if_neg (by decide),if_neg (by decide),if_neg (by decide),if_neg (by decide),if_pos (by decide)];cases l<;>rfl);generalize Ra (l.map kind) []=r at*;clear HDEF;go_wp2_with fail
  refine(P0.out).mono ?_;rintro e w2 ⟨rfl,hb2⟩;go_wp2_with fail
  go_ret;exact⟨Aa (by rw[HZ.out]),HWB.out.trans (hb2.mono HWS.out)⟩
 by_cases k10:k=10
 ·subst k10
  have HZ:Hid (R=Ra (l.map kind) []):=Qd (by rw[HDEF.out];unfold Dc;rw[if_neg (by decide),if_neg (by decide),if_neg (by decide),if_neg (by decide),if_neg (by decide),if_neg (by decide),if_neg (by decide),if_neg (by decide),if_neg (by decide),if_neg (by decide),if_neg (by decide),if_pos (by decide)];cases l<;>rfl);generalize Ra (l.map kind) []=r at*;clear HDEF;go_wp2_with fail
  refine(P0.out).mono ?_;rintro e w2 ⟨rfl,hb2⟩;go_wp2_with fail
  go_ret;exact⟨Aa (by rw[HZ.out]),HWB.out.trans (hb2.mono HWS.out)⟩
 by_cases k17:k=17
 ·subst k17
  have HZ:Hid (R=Ra (l.map kind) []):=Qd (by rw[HDEF.out];unfold Dc;rw[if_neg (by decide),if_neg (by decide),if_neg (by decide),if_neg (by decide),if_neg (by decide),if_neg (by decide),if_neg (by decide),if_neg (by decide),if_neg (by decide),if_neg (by decide),if_neg (by decide),if_pos (by decide)];cases l<;>rfl);generalize Ra (l.map kind) []=r at*;clear HDEF;go_wp2_with fail
  refine(P0.out).mono ?_;rintro e w2 ⟨rfl,hb2⟩;go_wp2_with fail
  go_ret;exact⟨Aa (by rw[HZ.out]),HWB.out.trans (hb2.mono HWS.out)⟩
 by_cases k18:k=18
 ·subst k18
  have HZ:Hid (R=Ra (l.map kind) []):=Qd (by rw[HDEF.out];unfold Dc;rw[if_neg (by decide),if_neg (by decide),if_neg (by decide),if_neg (by decide),if_neg (by decide),if_neg (by decide),if_neg (by decide),if_neg (by decide),if_neg (by decide),if_neg (by decide),if_neg (by decide),if_pos (by decide)];cases l<;>rfl);generalize Ra (l.map kind) []=r at*;clear HDEF;go_wp2_with fail
  refine(P0.out).mono ?_;rintro e w2 ⟨rfl,hb2⟩;go_wp2_with fail
  go_ret;exact⟨Aa (by rw[HZ.out]),HWB.out.trans (hb2.mono HWS.out)⟩
 by_cases k19:k=19
 ·subst k19
  have HZ:Hid (R=Ra (l.map kind) []):=Qd (by rw[HDEF.out];unfold Dc;rw[if_neg (by decide),if_neg (by decide),if_neg (by decide),if_neg (by decide),if_neg (by decide),if_neg (by decide),if_neg (by decide),if_neg (by decide),if_neg (by decide),if_neg (by decide),if_neg (by decide),if_pos (by decide)];cases l<;>rfl);generalize Ra (l.map kind) []=r at*;clear HDEF;go_wp2_with fail
  refine(P0.out).mono ?_;rintro e w2 ⟨rfl,hb2⟩;go_wp2_with fail
  go_ret;exact⟨Aa (by rw[HZ.out]),HWB.out.trans (hb2.mono HWS.out)⟩
 by_cases k21:k=21
 ·subst k21
  have HZ:Hid (R=Ra (l.map kind) []):=Qd (by rw[HDEF.out];unfold Dc;rw[if_neg (by decide),if_neg (by decide),if_neg (by decide),if_neg (by decide),if_neg (by decide),if_neg (by decide),if_neg (by decide),if_neg (by decide),if_neg (by decide),if_neg (by decide),if_neg (by decide),if_pos (by decide)];cases l<;>rfl);generalize Ra (l.map kind) []=r at*;clear HDEF;go_wp2_with fail
  refine(P0.out).mono ?_;rintro e w2 ⟨rfl,hb2⟩;go_wp2_with fail
  go_ret;exact⟨Aa (by rw[HZ.out]),HWB.out.trans (hb2.mono HWS.out)⟩
 by_cases k11:k=11
 ·subst k11
  have HZ:Hid (R=Ra (l.map kind) ([fF,fA].map FnP.p)):=Qd (by rw[HDEF.out];unfold Dc;rw[if_neg (by decide),if_neg (by decide),if_pos (by decide)];rfl);have P1:=Qd (PN.out [fF,fA] (by simp) (λwx hx f hf=>by
   simp only[List.mem_cons,List.not_mem_nil,or_false] at hf;rcases hf with rfl |rfl
   ·exact FF.out wx
   exact FA.out wx) 2 29 _ rfl rfl)
  generalize Ra (l.map kind) ([fF,fA].map FnP.p)=r at*;clear HDEF;go_wp2_with fail
  refine(P1.out).mono ?_;rintro e w2 ⟨rfl,hb2⟩;go_wp2_with fail
  go_ret;exact⟨Aa (by rw[HZ.out]),HWB.out.trans (hb2.mono HWS.out)⟩
 by_cases k15:k=15
 ·subst k15
  have HZ:Hid (R=Ra (l.map kind) ([fF,fA].map FnP.p)):=Qd (by rw[HDEF.out];unfold Dc;rw[if_neg (by decide),if_neg (by decide),if_pos (by decide)];rfl);have P1:=Qd (PN.out [fF,fA] (by simp) (λwx hx f hf=>by
   simp only[List.mem_cons,List.not_mem_nil,or_false] at hf;rcases hf with rfl |rfl
   ·exact FF.out wx
   exact FA.out wx) 2 29 _ rfl rfl)
  generalize Ra (l.map kind) ([fF,fA].map FnP.p)=r at*;clear HDEF;go_wp2_with fail
  refine(P1.out).mono ?_;rintro e w2 ⟨rfl,hb2⟩;go_wp2_with fail
  go_ret;exact⟨Aa (by rw[HZ.out]),HWB.out.trans (hb2.mono HWS.out)⟩
 by_cases k12:k=12
 ·subst k12
  have HZ:Hid (R=Ra (l.map kind) ([fA,fF,fA].map FnP.p)):=Qd (by rw[HDEF.out];unfold Dc;rw[if_neg (by decide),if_neg (by decide),if_neg (by decide),if_pos (by decide)];rfl);have P1:=Qd (PN.out [fA,fF,fA] (by simp) (λwx hx f hf=>by
   simp only[List.mem_cons,List.not_mem_nil,or_false] at hf;rcases hf with rfl |rfl |rfl
   ·exact FA.out wx
   ·exact FF.out wx
   exact FA.out wx) 3 29 _ rfl rfl)
  generalize Ra (l.map kind) ([fA,fF,fA].map FnP.p)=r at*;clear HDEF;go_wp2_with fail
  refine(P1.out).mono ?_;rintro e w2 ⟨rfl,hb2⟩;go_wp2_with fail
  go_ret;exact⟨Aa (by rw[HZ.out]),HWB.out.trans (hb2.mono HWS.out)⟩
 by_cases k13:k=13
 ·subst k13
  have HZ:Hid (R=Ra (l.map kind) ([fA].map FnP.p)):=Qd (by rw[HDEF.out];unfold Dc;rw[if_neg (by decide),if_neg (by decide),if_neg (by decide),if_neg (by decide),if_pos (by decide)];rfl);have P1:=Qd (PN.out [fA] (by simp) (λwx hx f hf=>by
   simp only[List.mem_cons,List.not_mem_nil,or_false] at hf;subst hf;exact FA.out wx) 1 29 _ rfl rfl)
  generalize Ra (l.map kind) ([fA].map FnP.p)=r at*;clear HDEF;go_wp2_with fail
  refine(P1.out).mono ?_;rintro e w2 ⟨rfl,hb2⟩;go_wp2_with fail
  go_ret;exact⟨Aa (by rw[HZ.out]),HWB.out.trans (hb2.mono HWS.out)⟩
 by_cases k16:k=16
 ·subst k16
  have HZ:Hid (R=Ra (l.map kind) ([fA].map FnP.p)):=Qd (by rw[HDEF.out];unfold Dc;rw[if_neg (by decide),if_neg (by decide),if_neg (by decide),if_neg (by decide),if_pos (by decide)];rfl);have P1:=Qd (PN.out [fA] (by simp) (λwx hx f hf=>by
   simp only[List.mem_cons,List.not_mem_nil,or_false] at hf;subst hf;exact FA.out wx) 1 29 _ rfl rfl)
  generalize Ra (l.map kind) ([fA].map FnP.p)=r at*;clear HDEF;go_wp2_with fail
  refine(P1.out).mono ?_;rintro e w2 ⟨rfl,hb2⟩;go_wp2_with fail
  go_ret;exact⟨Aa (by rw[HZ.out]),HWB.out.trans (hb2.mono HWS.out)⟩
 by_cases k22:k=22
 ·subst k22
  have HZ:Hid (R=Ra (l.map kind) ([fF].map FnP.p)):=Qd (by rw[HDEF.out];unfold Dc;rw[if_neg (by decide),if_neg (by decide),if_neg (by decide),if_neg (by decide),if_neg (by decide),if_pos (by decide)];rfl);have P1:=Qd (PN.out [fF] (by simp) (λwx hx f hf=>by
   simp only[List.mem_cons,List.not_mem_nil,or_false] at hf;subst hf;exact FF.out wx) 1 29 _ rfl rfl)
  generalize Ra (l.map kind) ([fF].map FnP.p)=r at*;clear HDEF;go_wp2_with fail
  refine(P1.out).mono ?_;rintro e w2 ⟨rfl,hb2⟩;go_wp2_with fail
  go_ret;exact⟨Aa (by rw[HZ.out]),HWB.out.trans (hb2.mono HWS.out)⟩
 by_cases k27:k=27
 ·subst k27
  have HZ:Hid (R=Ra (l.map kind) ([fF].map FnP.p)):=Qd (by rw[HDEF.out];unfold Dc;rw[if_neg (by decide),if_neg (by decide),if_neg (by decide),if_neg (by decide),if_neg (by decide),if_pos (by decide)];rfl);have P1:=Qd (PN.out [fF] (by simp) (λwx hx f hf=>by
   simp only[List.mem_cons,List.not_mem_nil,or_false] at hf;subst hf;exact FF.out wx) 1 29 _ rfl rfl)
  generalize Ra (l.map kind) ([fF].map FnP.p)=r at*;clear HDEF;go_wp2_with fail
  refine(P1.out).mono ?_;rintro e w2 ⟨rfl,hb2⟩;go_wp2_with fail
  go_ret;exact⟨Aa (by rw[HZ.out]),HWB.out.trans (hb2.mono HWS.out)⟩
 by_cases k23:k=23
 ·subst k23
  have HZ:Hid (R=Ra (l.map kind) ([fF,fD w.heap.size o].map FnP.p)):=Qd (by rw[HDEF.out];unfold Dc;rw[if_neg (by decide),if_neg (by decide),if_neg (by decide),if_neg (by decide),if_neg (by decide),if_neg (by decide),if_pos (by decide)];rfl);have P1:=Qd (PN.out [fF,fD w.heap.size o] (by simp) (λwx hx f hf=>by
   simp only[List.mem_cons,List.not_mem_nil,or_false] at hf;rcases hf with rfl |rfl
   ·exact FF.out wx
   exact FD.out wx hx) 2 29 _ rfl rfl)
  generalize Ra (l.map kind) ([fF,fD w.heap.size o].map FnP.p)=r at*;clear HDEF;go_wp2_with fail
  refine(P1.out).mono ?_;rintro e w2 ⟨rfl,hb2⟩;go_wp2_with fail
  go_ret;exact⟨Aa (by rw[HZ.out]),HWB.out.trans (hb2.mono HWS.out)⟩
 by_cases k24:k=24
 ·subst k24
  have HZ:Hid (R=Ra (l.map kind) ([fL].map FnP.p)):=Qd (by rw[HDEF.out];unfold Dc;rw[if_neg (by decide),if_neg (by decide),if_neg (by decide),if_neg (by decide),if_neg (by decide),if_neg (by decide),if_neg (by decide),if_pos (by decide)];rfl);have P1:=Qd (PN.out [fL] (by simp) (λwx hx f hf=>by
   simp only[List.mem_cons,List.not_mem_nil,or_false] at hf;subst hf;exact FL.out wx) 1 29 _ rfl rfl)
  generalize Ra (l.map kind) ([fL].map FnP.p)=r at*;clear HDEF;go_wp2_with fail
  refine(P1.out).mono ?_;rintro e w2 ⟨rfl,hb2⟩;go_wp2_with fail
  go_ret;exact⟨Aa (by rw[HZ.out]),HWB.out.trans (hb2.mono HWS.out)⟩
 by_cases k25:k=25
 ·subst k25
  have HZ:Hid (R=Ra (l.map kind) ([fA,fA].map FnP.p)):=Qd (by rw[HDEF.out];unfold Dc;rw[if_neg (by decide),if_neg (by decide),if_neg (by decide),if_neg (by decide),if_neg (by decide),if_neg (by decide),if_neg (by decide),if_neg (by decide),if_pos (by decide)];rfl);have P1:=Qd (PN.out [fA,fA] (by simp) (λwx hx f hf=>by
   simp only[List.mem_cons,List.not_mem_nil,or_false] at hf;rcases hf with rfl |rfl
   ·exact FA.out wx
   exact FA.out wx) 2 29 _ rfl rfl)
  generalize Ra (l.map kind) ([fA,fA].map FnP.p)=r at*;clear HDEF;go_wp2_with fail
  refine(P1.out).mono ?_;rintro e w2 ⟨rfl,hb2⟩;go_wp2_with fail
  go_ret;exact⟨Aa (by rw[HZ.out]),HWB.out.trans (hb2.mono HWS.out)⟩
 by_cases k26:k=26
 ·subst k26
  have HZ:Hid (R=Ra (l.map kind) ([fA,fA].map FnP.p)):=Qd (by rw[HDEF.out];unfold Dc;rw[if_neg (by decide),if_neg (by decide),if_neg (by decide),if_neg (by decide),if_neg (by decide),if_neg (by decide),if_neg (by decide),if_neg (by decide),if_pos (by decide)];rfl);have P1:=Qd (PN.out [fA,fA] (by simp) (λwx hx f hf=>by
   simp only[List.mem_cons,List.not_mem_nil,or_false] at hf;rcases hf with rfl |rfl
   ·exact FA.out wx
   exact FA.out wx) 2 29 _ rfl rfl)
  generalize Ra (l.map kind) ([fA,fA].map FnP.p)=r at*;clear HDEF;go_wp2_with fail
  refine(P1.out).mono ?_;rintro e w2 ⟨rfl,hb2⟩;go_wp2_with fail
  go_ret;exact⟨Aa (by rw[HZ.out]),HWB.out.trans (hb2.mono HWS.out)⟩
 by_cases k8:k=8
 ·subst k8
  have HZ:Hid (R=(decide (2≤l.length)&&(l.map kind).all array)):=Qd (by rw[HDEF.out];unfold Dc;rw[if_pos rfl,List.length_map]);generalize(l.map kind).all array=r at*;clear HDEF;by_cases h2:2≤l.length
  ·rw[decide_eq_true h2,Bool.true_and] at HZ
   have q2:(2:Int)≤(l.length:Int):=by omega
   go_wp2_with fail
   refine(EA.out).mono ?_;rintro e w2 ⟨rfl,hb2⟩;go_wp2_with fail
   go_ret;exact⟨Aa (by rw[HZ.out]),HWB.out.trans (hb2.mono HWS.out)⟩
  rw[decide_eq_false h2,Bool.false_and] at HZ;have q2:¬(2:Int)≤(l.length:Int):=by omega
  go_wp2_with fail
  go_ret;exact⟨Aa (by rw[HZ.out]),HWB.out⟩
 by_cases k20:k=20
 ·subst k20
  have HZ:Hid (R=(decide (0<l.length)&&(l.map kind).all (Of 20))):=Qd (by
   rw[HDEF.out];unfold Dc;rw[if_neg (by decide),if_neg (by decide),if_neg (by decide),if_neg (by decide),if_neg (by decide),if_neg (by decide),if_neg (by decide),if_neg (by decide),if_neg (by decide),if_pos rfl]
   congr 1
   ·cases l<;>simp
   congr 1
   funext x
   unfold Of;by_cases h27:x=27
   ·subst h27;rfl
   by_cases h25:x=25
   ·subst h25;rfl
   by_cases h26:x=26
   ·subst h26;rfl
   rw[if_neg h27,if_neg (by rintro(h |h);exact h25 h;exact h26 h)];have e27:(x==27)=false:=by simpa using h27
   have e25:(x==25)=false:=by simpa using h25
   have e26:(x==26)=false:=by simpa using h26
   simp[e27,e25,e26])
  generalize(l.map kind).all (Of 20)=r at*;clear HDEF;by_cases h2:0<l.length
  ·rw[decide_eq_true h2,Bool.true_and] at HZ
   have q2:(0:Int)<(l.length:Int):=by omega
   go_wp2_with fail
   refine(ES.out).mono ?_;rintro e w2 ⟨rfl,hb2⟩;go_wp2_with fail
   go_ret;exact⟨Aa (by rw[HZ.out]),HWB.out.trans (hb2.mono HWS.out)⟩
  rw[decide_eq_false h2,Bool.false_and] at HZ;have q2:¬(0:Int)<(l.length:Int):=by omega
  go_wp2_with fail
  go_ret;exact⟨Aa (by rw[HZ.out]),HWB.out⟩
 by_cases k28:k=28
 ·subst k28
  have HZ:Hid (R=(decide (0<l.length)&&(l.map kind).all (Of 28))):=Qd (by
   rw[HDEF.out];unfold Dc;rw[if_neg (by decide),if_neg (by decide),if_neg (by decide),if_neg (by decide),if_neg (by decide),if_neg (by decide),if_neg (by decide),if_neg (by decide),if_neg (by decide),if_neg (by decide),if_pos rfl]
   congr 1
   ·cases l<;>simp
   congr 1
   funext x
   unfold Of;by_cases h27:x=27
   ·subst h27;rfl
   by_cases h25:x=25
   ·subst h25;rfl
   by_cases h26:x=26
   ·subst h26;rfl
   rw[if_neg h27,if_neg (by rintro(h |h);exact h25 h;exact h26 h)];have e27:(x==27)=false:=by simpa using h27
   have e25:(x==25)=false:=by simpa using h25
   have e26:(x==26)=false:=by simpa using h26
   simp[e27,e25,e26])
  generalize(l.map kind).all (Of 28)=r at*;clear HDEF;by_cases h2:0<l.length
  ·rw[decide_eq_true h2,Bool.true_and] at HZ
   have q2:(0:Int)<(l.length:Int):=by omega
   go_wp2_with fail
   refine(ES.out).mono ?_;rintro e w2 ⟨rfl,hb2⟩;go_wp2_with fail
   go_ret;exact⟨Aa (by rw[HZ.out]),HWB.out.trans (hb2.mono HWS.out)⟩
  rw[decide_eq_false h2,Bool.false_and] at HZ;have q2:¬(0:Int)<(l.length:Int):=by omega
  go_wp2_with fail
  go_ret;exact⟨Aa (by rw[HZ.out]),HWB.out⟩
 by_cases k9:k=9
 ·subst k9
  have HZ:Hid (R=(decide (2≤l.length)&&array ((l.map kind).getD 0 0)&&((l.map kind).drop 1).all Ae)):=Qd (by rw[HDEF.out];unfold Dc;rw[if_neg (by decide),if_pos (by decide),List.length_map]);clear HDEF;by_cases h2:2≤l.length
  ·rw[decide_eq_true h2,Bool.true_and] at HZ
   have q2:(2:Int)≤(l.length:Int):=by omega
   have hl0:0<l.length:=by omega
   have e0:(l.map kind).getD 0 0=kind l[0]:=by rw[List.getD_eq_getElem?_getD,List.getElem?_map,List.getElem?_eq_getElem hl0];rfl
   obtain⟨b,off,tv,rfl,hb,HT,HRR⟩:=Nd HCW.out HLW.out (HKB.out W (Below.refl _ _)) hl0;have K1:=Qd (Ai l[0] tv W B HT.out);have HI:=Qd (Ld HT.out);have HDR:Hid ((l.map kind).drop 1=(l.drop 1).map kind):=Qd (by rw[List.map_drop]);rw[e0,HDR.out] at HZ;obtain⟨us2,HL2,HC2⟩:=Pn HCW.out HLW.out hl0;have hlen1:(l.drop 1).length=l.length-1:=by simp
   have EP:Hid (∀wx,Below W.heap.size W wx→Calls Tryz.prog 111 #[.slice (some ⟨b,off+8,none⟩) (l.length-1) (c4-1),.func (.func 113) #[] #[]] wx (Oa wx (((l.drop 1).map kind).all Ae))):=Qd (λwx hx=>by
    have:=Gj _ _ _ (some ⟨b,off+8,none⟩) (c4-1) (l.drop 1) us2 wx B (HL2.out.below (hx.mono HBW.out)) (HC2.out.below (hx.mono HBW.out)) (Nat.le_trans HBW.out hx.size) (by rw[hlen1];omega) (Ts wx B);rwa[hlen1] at this)
   generalize((l.drop 1).map kind).all Ae=r2 at*;generalize array (kind l[0])=r1 at*;clear e0 HT HL2 HC2 hlen1;cases r1
   ·rw[Bool.false_and] at HZ
    go_wp2_with (refine Sg rfl 28 (.tmp 42) rfl b off rfl tv _ (by have:=HRR.out;simpa using this) Tryz.underlying28 rfl HI.out ?_)
    refine K1.out.mono ?_;rintro e w2 ⟨rfl,hb2⟩;go_wp2_with fail
    go_ret;exact⟨Aa (by rw[HZ.out]),HWB.out.trans (hb2.mono HWS.out)⟩
   rw[Bool.true_and] at HZ;go_wp2_with (refine Sg rfl 28 (.tmp 42) rfl b off rfl tv _ (by have:=HRR.out;simpa using this) Tryz.underlying28 rfl HI.out ?_)
   refine K1.out.mono ?_;rintro e w2 ⟨rfl,hb2⟩;have r7:w2.cell? ⟨w.heap.size,7,none⟩=some (.slice (some ⟨b,off,none⟩) l.length c4):=(hb2.cell (p:=⟨w.heap.size,7,none⟩) hWl).trans q7;clear q7;have q7:=r7;clear r7;have hc41:1≤c4:=by omega
   go_wp2_with fail
   refine(EP.out _ hb2).mono ?_;rintro e w3 ⟨rfl,hb3⟩;go_wp2_with fail
   go_ret;exact⟨Aa (by rw[HZ.out]),HWB.out.trans ((hb2.trans (hb3.mono hb2.size)).mono HWS.out)⟩
  rw[decide_eq_false h2,Bool.false_and,Bool.false_and] at HZ;have q2:¬(2:Int)≤(l.length:Int):=by omega
  go_wp2_with fail
  go_ret;exact⟨Aa (by rw[HZ.out]),HWB.out⟩
 by_cases k14:k=14
 ·subst k14
  have HZ:Hid (R=(decide (2≤l.length)&&array ((l.map kind).getD 0 0)&&((l.map kind).drop 1).all Ae)):=Qd (by rw[HDEF.out];unfold Dc;rw[if_neg (by decide),if_pos (by decide),List.length_map]);clear HDEF;by_cases h2:2≤l.length
  ·rw[decide_eq_true h2,Bool.true_and] at HZ
   have q2:(2:Int)≤(l.length:Int):=by omega
   have hl0:0<l.length:=by omega
   have e0:(l.map kind).getD 0 0=kind l[0]:=by rw[List.getD_eq_getElem?_getD,List.getElem?_map,List.getElem?_eq_getElem hl0];rfl
   obtain⟨b,off,tv,rfl,hb,HT,HRR⟩:=Nd HCW.out HLW.out (HKB.out W (Below.refl _ _)) hl0;have K1:=Qd (Ai l[0] tv W B HT.out);have HI:=Qd (Ld HT.out);have HDR:Hid ((l.map kind).drop 1=(l.drop 1).map kind):=Qd (by rw[List.map_drop]);rw[e0,HDR.out] at HZ;obtain⟨us2,HL2,HC2⟩:=Pn HCW.out HLW.out hl0;have hlen1:(l.drop 1).length=l.length-1:=by simp
   have EP:Hid (∀wx,Below W.heap.size W wx→Calls Tryz.prog 111 #[.slice (some ⟨b,off+8,none⟩) (l.length-1) (c4-1),.func (.func 113) #[] #[]] wx (Oa wx (((l.drop 1).map kind).all Ae))):=Qd (λwx hx=>by
    have:=Gj _ _ _ (some ⟨b,off+8,none⟩) (c4-1) (l.drop 1) us2 wx B (HL2.out.below (hx.mono HBW.out)) (HC2.out.below (hx.mono HBW.out)) (Nat.le_trans HBW.out hx.size) (by rw[hlen1];omega) (Ts wx B);rwa[hlen1] at this)
   generalize((l.drop 1).map kind).all Ae=r2 at*;generalize array (kind l[0])=r1 at*;clear e0 HT HL2 HC2 hlen1;cases r1
   ·rw[Bool.false_and] at HZ
    go_wp2_with (refine Sg rfl 28 (.tmp 42) rfl b off rfl tv _ (by have:=HRR.out;simpa using this) Tryz.underlying28 rfl HI.out ?_)
    refine K1.out.mono ?_;rintro e w2 ⟨rfl,hb2⟩;go_wp2_with fail
    go_ret;exact⟨Aa (by rw[HZ.out]),HWB.out.trans (hb2.mono HWS.out)⟩
   rw[Bool.true_and] at HZ;go_wp2_with (refine Sg rfl 28 (.tmp 42) rfl b off rfl tv _ (by have:=HRR.out;simpa using this) Tryz.underlying28 rfl HI.out ?_)
   refine K1.out.mono ?_;rintro e w2 ⟨rfl,hb2⟩;have r7:w2.cell? ⟨w.heap.size,7,none⟩=some (.slice (some ⟨b,off,none⟩) l.length c4):=(hb2.cell (p:=⟨w.heap.size,7,none⟩) hWl).trans q7;clear q7;have q7:=r7;clear r7;have hc41:1≤c4:=by omega
   go_wp2_with fail
   refine(EP.out _ hb2).mono ?_;rintro e w3 ⟨rfl,hb3⟩;go_wp2_with fail
   go_ret;exact⟨Aa (by rw[HZ.out]),HWB.out.trans ((hb2.trans (hb3.mono hb2.size)).mono HWS.out)⟩
  rw[decide_eq_false h2,Bool.false_and,Bool.false_and] at HZ;have q2:¬(2:Int)≤(l.length:Int):=by omega
  go_wp2_with fail
  go_ret;exact⟨Aa (by rw[HZ.out]),HWB.out⟩
 have HZ:Hid (R=false):=Qd (by rw[HDEF.out];unfold Dc;simp only[k1,k2,k3,k4,k5,k6,k7,k10,k17,k18,k19,k21,k11,k15,k12,k13,k16,k22,k27,k23,k24,k25,k26,k8,k20,k28,k9,k14,or_self,if_false];rw[if_neg (by omega)]);clear HDEF;have n1:(k==1)=false:=beq_eq_false_iff_ne.2 k1;have n2:(k==2)=false:=beq_eq_false_iff_ne.2 k2;have n3:(k==3)=false:=beq_eq_false_iff_ne.2 k3;have n4:(k==4)=false:=beq_eq_false_iff_ne.2 k4;have n5:(k==5)=false:=beq_eq_false_iff_ne.2 k5;have n6:(k==6)=false:=beq_eq_false_iff_ne.2 k6;have n7:(k==7)=false:=beq_eq_false_iff_ne.2 k7;have n10:(k==10)=false:=beq_eq_false_iff_ne.2 k10;have n17:(k==17)=false:=beq_eq_false_iff_ne.2 k17;have n18:(k==18)=false:=beq_eq_false_iff_ne.2 k18;have n19:(k==19)=false:=beq_eq_false_iff_ne.2 k19;have n21:(k==21)=false:=beq_eq_false_iff_ne.2 k21;have n11:(k==11)=false:=beq_eq_false_iff_ne.2 k11;have n15:(k==15)=false:=beq_eq_false_iff_ne.2 k15;have n12:(k==12)=false:=beq_eq_false_iff_ne.2 k12;have n13:(k==13)=false:=beq_eq_false_iff_ne.2 k13;have n16:(k==16)=false:=beq_eq_false_iff_ne.2 k16;have n22:(k==22)=false:=beq_eq_false_iff_ne.2 k22;have n27:(k==27)=false:=beq_eq_false_iff_ne.2 k27;have n23:(k==23)=false:=beq_eq_false_iff_ne.2 k23;have n24:(k==24)=false:=beq_eq_false_iff_ne.2 k24;have n25:(k==25)=false:=beq_eq_false_iff_ne.2 k25;have n26:(k==26)=false:=beq_eq_false_iff_ne.2 k26;have n8:(k==8)=false:=beq_eq_false_iff_ne.2 k8;have n20:(k==20)=false:=beq_eq_false_iff_ne.2 k20;have n28:(k==28)=false:=beq_eq_false_iff_ne.2 k28;have n9:(k==9)=false:=beq_eq_false_iff_ne.2 k9;have n14:(k==14)=false:=beq_eq_false_iff_ne.2 k14;clear k1 k2 k3 k4 k5 k6 k7 k10 k17 k18 k19 k21 k11 k15 k12 k13 k16 k22 k27 k23 k24 k25 k26 k8 k20 k28 k9 k14;go_wp2_with fail
 go_ret;exact⟨Aa (by rw[HZ.out]),HWB.out⟩
end
section
open Go.RowKit
theorem Bu {l:List Nat}(h:¬l.length≤32):Tr.trimmed l=false:=by unfold Tr.trimmed;rw[decide_eq_false h];rfl
theorem Cu:Tr.trimmed []=true:=rfl
theorem Ws {l:List Nat}(h:l.length≤32)(h0:l.length≠0):Tr.trimmed l= !(l[l.length-1]'(by omega)==0):=by
 unfold Tr.trimmed;rw[decide_eq_true h];have h1:l≠[]:=by rintro rfl;exact h0 rfl
 rw[List.getLastD_eq_getLast?,List.getLast?_eq_some_getLast h1,List.getLast_eq_getElem];cases l with
 |nil=>exact absurd rfl h1
 |cons a r=>rfl
theorem Sl (v:Value)(l:List Nat)(w:World)(h:IsRes w v l):
 Calls Tryz.prog 152 #[v] w λe w'=>e= .returned (.bool (Tr.trimmed l))∧w=w':=by
 obtain⟨A,c,rfl,h1,h2,h3,h4⟩:=h;by_cases hl:l.length≤32
 ·have q1:decide ((l.length:Int)≤32)=true:=decide_eq_true (by omega)
  by_cases h0:l.length=0
  ·have q2:((l.length:Int)==0)=true:=beq_iff_eq.2 (by omega)
   obtain rfl:=List.eq_nil_of_length_eq_zero h0;have HR:=Qd Cu;clear h4 hl h0 h1 h2 h3;go_enter Tryz.func152,Tryz.ntmps152
   go_wp2_with fail
   go_ret;exact⟨Aa (by rw[HR.out]),rfl⟩
  have q2:((l.length:Int)==0)=false:=beq_eq_false_iff_ne.2 (by omega);have HR:=Qd (Ws hl h0);obtain⟨b,off,rfl,hb,g0⟩:=h4.at_ (k:=l.length-1) (by simp[U];omega);have g1:w.cell? ⟨b,off+(l.length-1),none⟩=some (.int .u32 ((l[l.length-1]'(by omega):Nat):Int)):=by simpa [U] using g0
  have i0:(0:Int)≤(l.length:Int)-1:=by omega
  have i1:(l.length:Int)-1<(l.length:Int):=by omega
  have i2:((l.length:Int)-1).toNat=l.length-1:=by omega
  clear g0 h4 h3;generalize l[l.length-1]'(by omega)=x at*;generalize Tr.trimmed l=R at*;have q3:((x:Int)!=0)= !(x==0):=by
   by_cases e:x=0
   ·subst e;rfl
   have e1:((x:Int)!=0)=true:=bne_iff_ne.2 (by omega);have e2:(x==0)=false:=beq_eq_false_iff_ne.2 e;rw[e1,e2];rfl
  rw[←q3] at HR;clear q3;generalize l.length=n at*;cases q4:((x:Int)!=0);all_goals
   rw[q4] at HR;go_enter Tryz.func152,Tryz.ntmps152
   go_wp2_with fail
   go_ret;exact⟨Aa (by rw[HR.out]),rfl⟩
 have q1:decide ((l.length:Int)≤32)=false:=decide_eq_false (by omega);have HR:=Qd (Bu hl);clear hl h4 h3;generalize l.length=n at*;go_enter Tryz.func152,Tryz.ntmps152
 go_wp2_with fail
 go_ret;exact⟨Aa (by rw[HR.out]),rfl⟩
theorem Du (n:Bool)(t b:List Nat)(d:List Nat)(hd:d=Nt.digs (Nat.gcd (Nt.val t) (Nt.val b))):Tr.ratio ⟨n,t,b⟩=(Tr.trimmed t&&(Tr.trimmed b&&(!b.isEmpty&&(!(t.isEmpty&&n)&&((b==[1])||(d==[1])))))):=by
 subst hd;unfold Tr.ratio Tr.isOne;cases Tr.trimmed t<;>cases Tr.trimmed b<;>cases b.isEmpty<;>cases t.isEmpty<;>cases n<;>simp
theorem Ho (n:Bool)(A1:Option Addr)(t:List Nat)(c1:Nat)(A2:Option Addr)(b:List Nat)(c2:Nat)(w:World)(h1:IsRes w (.slice A1 t.length c1) t)(h2:IsRes w (.slice A2 b.length c2) b)(o1:Nt.Ok t)(o2:Nt.Ok b):
 Calls Tryz.prog 101 #[.agg #[.bool n,.slice A1 t.length c1,.slice A2 b.length c2]] w λe w'=>e= .returned (.bool (Rt.right ⟨n,t,b⟩))∧Below w.heap.size w w':=by
 have hrr:=Tr.ratio_right (n:=⟨n,t,b⟩) o1 o2;obtain⟨d,hd⟩:∃d,d=Nt.digs (Nat.gcd (Nt.val t) (Nt.val b)):=⟨_,rfl⟩;rw[Du n t b d hd] at hrr;have HR:=Qd hrr;obtain⟨W,hW⟩:∃W,W=w.alloc (.cells #[.bool n,.slice A1 t.length c1,.slice A2 b.length c2] 24):=⟨_,rfl⟩;have hWs:W.heap.size=w.heap.size+1:=by rw[hW];simp
 have hWb:Below w.heap.size w W:=by rw[hW];exact(Below.refl _ _).alloc (Nat.le_refl _) _
 have HQ:Hid (W.cell? ⟨w.heap.size,0,none⟩=some (.bool n)∧W.cell? ⟨w.heap.size,1,none⟩=some (.slice A1 t.length c1)∧W.cell? ⟨w.heap.size,2,none⟩=some (.slice A2 b.length c2)):=Qd (by rw[hW];exact⟨by go_simp,by go_simp,by go_simp⟩);have HW:=Qd hW;have hWl:w.heap.size<W.heap.size:=by omega
 have r1:=h1.below hWb;have r2:=h2.below hWb;have T1:=Qd (Sl _ _ W r1);have T2:=Qd (Sl _ _ W r2);have I2:=Qd (Fg _ _ W r2);have GC:=λ(s1:t.length≤1000000) (s2:b.length≤1000000)=>Cv A1 A2 c1 c2 t b W r1 r2 o1 o2 s1 s2;rw[←hd] at GC;replace GC:=Qd GC;have ON:=Qd (λv (wx:World) (h:IsRes wx v d)=>Fg v d wx h);have TB:Hid (Tr.trimmed t=true→t.length≤1000000):=Qd (λh=>by have:=((Tr.trimmed_iff t).1 h).1;omega);have TB2:Hid (Tr.trimmed b=true→b.length≤1000000):=Qd (λh=>by have:=((Tr.trimmed_iff b).1 h).1;omega);have HE:Hid (b.isEmpty=decide (b.length=0)):=Qd (by cases b<;>simp);have HE':Hid (t.isEmpty=decide (t.length=0)):=Qd (by cases t<;>simp);clear hrr hd h1 h2 o1 o2 r1 r2;generalize Rt.right ⟨n,t,b⟩=R at*;generalize Tr.trimmed t=X at*;generalize Tr.trimmed b=Y at*;generalize b.isEmpty=BE at*;generalize t.isEmpty=TE at*;generalize(b==[1])=BO at*;generalize(d==[1])=DO at*;obtain⟨p0,p1,p2⟩:=HQ.out;clear hW;cases X
 ·go_enter Tryz.func101,Tryz.ntmps101
  go_wp2_with fail
  rw[←HW.out];refine T1.out.mono ?_;rintro e w' ⟨rfl,rfl⟩;go_wp2_with fail
  go_ret;exact⟨Aa (by rw[←HR.out];rfl),hWb⟩
 cases Y
 ·go_enter Tryz.func101,Tryz.ntmps101
  go_wp2_with fail
  rw[←HW.out];refine T1.out.mono ?_;rintro e w' ⟨rfl,rfl⟩;go_wp2_with fail
  refine T2.out.mono ?_;rintro e w' ⟨rfl,rfl⟩;go_wp2_with fail
  go_ret;exact⟨Aa (by rw[←HR.out];rfl),hWb⟩
 have s1:=TB.out rfl;have s2:=TB2.out rfl;have GC2:=Qd (GC.out s1 s2);clear GC TB TB2;generalize t.length=l1 at*;generalize b.length=l2 at*;by_cases z:l2=0
 ·subst z
  have HE2:Hid (BE=true):=Qd (by rw[HE.out];rfl);clear HE;go_enter Tryz.func101,Tryz.ntmps101
  go_wp2_with fail
  rw[←HW.out];refine T1.out.mono ?_;rintro e w' ⟨rfl,rfl⟩;go_wp2_with fail
  refine T2.out.mono ?_;rintro e w' ⟨rfl,rfl⟩;go_wp2_with fail
  go_ret;exact⟨Aa (by rw[←HR.out,HE2.out];simp),hWb⟩
 have qb:((l2:Int)==0)=false:=beq_eq_false_iff_ne.2 (by omega);have HE2:Hid (BE=false):=Qd (by rw[HE.out];exact decide_eq_false z);clear HE z;have key:(TE&&n)=true∨(TE&&n)=false:=by cases (TE&&n)<;>simp
 by_cases z1:l1=0
 ·subst z1
  have HT2:Hid (TE=true):=Qd (by rw[HE'.out];rfl);clear HE';cases n
  ·cases BO
   ·go_enter Tryz.func101,Tryz.ntmps101
    go_wp2_with fail
    rw[←HW.out];refine T1.out.mono ?_;rintro e w' ⟨rfl,rfl⟩;go_wp2_with fail
    refine T2.out.mono ?_;rintro e w' ⟨rfl,rfl⟩;go_wp2_with fail
    refine I2.out.mono ?_;rintro e w' ⟨rfl,rfl⟩;go_wp2_with fail
    refine GC2.out.mono ?_;rintro e w2 ⟨v,rfl,hv,hb2⟩;have O2:=Qd (ON.out _ _ hv);clear hv p0 p1 p2;go_wp2_with fail
    refine O2.out.mono ?_;rintro e w3 ⟨rfl,rfl⟩;go_wp2_with fail
    go_ret;exact⟨Aa (by rw[←HR.out,HE2.out,HT2.out];simp),hWb.trans (hb2.mono (by omega))⟩
   go_enter Tryz.func101,Tryz.ntmps101
   go_wp2_with fail
   rw[←HW.out];refine T1.out.mono ?_;rintro e w' ⟨rfl,rfl⟩;go_wp2_with fail
   refine T2.out.mono ?_;rintro e w' ⟨rfl,rfl⟩;go_wp2_with fail
   refine I2.out.mono ?_;rintro e w' ⟨rfl,rfl⟩;go_wp2_with fail
   go_ret;exact⟨Aa (by rw[←HR.out,HE2.out,HT2.out];simp),hWb⟩
  go_enter Tryz.func101,Tryz.ntmps101
  go_wp2_with fail
  rw[←HW.out];refine T1.out.mono ?_;rintro e w' ⟨rfl,rfl⟩;go_wp2_with fail
  refine T2.out.mono ?_;rintro e w' ⟨rfl,rfl⟩;go_wp2_with fail
  go_ret;exact⟨Aa (by rw[←HR.out,HT2.out];simp),hWb⟩
 have qt:((l1:Int)==0)=false:=beq_eq_false_iff_ne.2 (by omega);have HT2:Hid (TE=false):=Qd (by rw[HE'.out];exact decide_eq_false z1);clear HE' z1;cases BO
 ·go_enter Tryz.func101,Tryz.ntmps101
  go_wp2_with fail
  rw[←HW.out];refine T1.out.mono ?_;rintro e w' ⟨rfl,rfl⟩;go_wp2_with fail
  refine T2.out.mono ?_;rintro e w' ⟨rfl,rfl⟩;go_wp2_with fail
  refine I2.out.mono ?_;rintro e w' ⟨rfl,rfl⟩;go_wp2_with fail
  refine GC2.out.mono ?_;rintro e w2 ⟨v,rfl,hv,hb2⟩;have O2:=Qd (ON.out _ _ hv);clear hv p0 p1 p2;go_wp2_with fail
  refine O2.out.mono ?_;rintro e w3 ⟨rfl,rfl⟩;go_wp2_with fail
  go_ret;exact⟨Aa (by rw[←HR.out,HE2.out,HT2.out];simp),hWb.trans (hb2.mono (by omega))⟩
 go_enter Tryz.func101,Tryz.ntmps101
 go_wp2_with fail
 rw[←HW.out];refine T1.out.mono ?_;rintro e w' ⟨rfl,rfl⟩;go_wp2_with fail
 refine T2.out.mono ?_;rintro e w' ⟨rfl,rfl⟩;go_wp2_with fail
 refine I2.out.mono ?_;rintro e w' ⟨rfl,rfl⟩;go_wp2_with fail
 go_ret;exact⟨Aa (by rw[←HR.out,HE2.out,HT2.out];simp),hWb⟩
end
section
open Go.RowKit Tr
set_option maxHeartbeats 80000000
theorem Xs {w:World}{k o:Int}{m:List UInt8}{n:Rt.Nm}{t:List Int}{len:Nat}{A1 A2 A3 A4:Option Addr}{c1 c2 c3 c4:Nat}(h:Own w w.heap.size k o m n t len A1 A2 A3 A4 c1 c2 c3 c4):IsRes w (.slice A1 n.top.length c1) n.top:=
 ⟨A1,c1,rfl,h.f1.1,h.f1.2.2,h.n1,h.l1⟩
theorem Ys {w:World}{k o:Int}{m:List UInt8}{n:Rt.Nm}{t:List Int}{len:Nat}{A1 A2 A3 A4:Option Addr}{c1 c2 c3 c4:Nat}(h:Own w w.heap.size k o m n t len A1 A2 A3 A4 c1 c2 c3 c4):IsRes w (.slice A2 n.bot.length c2) n.bot:=
 ⟨A2,c2,rfl,h.f2.1,h.f2.2.2,h.n2,h.l2⟩
theorem Bx {P:Program}{ops:Array Oper}{rest:List Oper}{o:Oper}{a:Act}{w:World}{Q:Exit→Act→World→Prop}(hw:Region.wanted o (yielded ops a.tmps)=true)(ty:TypeId)(x:Operand)(ho:o.op= .load ty x)
 (g:Nat) (hx:a.eval x= .pointer (some ⟨g,0,none⟩)) (t:TypeId) (cs:Array Value) (fr:Nat×Nat) (d:TypeDesc) (hg:w.heap[g]? =some (.cells cs t fr))
 (hu:P.underlying ty=some d) (hd:(match d with | .struct _ | .array _ _=>true |_=>false)=true) (hi:(P.info? ty).map (·.size)=some cs.size)
 (h:wpList P ops Q rest (a.put o.dst (.agg cs)) w):wpList P ops Q (o::rest) a w:=
 BigFrame.wpList_want hw λ_ hK=>wp_load_row ty x ho g hx t cs fr d hg hu hd hi (hK _ _ h)
theorem Va {ops:Array Oper}{rest:List Oper}{o:Oper}{a:Act}{w:World}{Q:Exit→Act→World→Prop}{cs:Array Value}(x:Operand)(hw:Region.wanted o (yielded ops a.tmps)=true)(ho:o.op= .load 28 x)
 (g:Nat) (hx:a.eval x= .pointer (some ⟨g,0,none⟩)) (hg:w.heap[g]? =some (.cells cs 28 (0,0))) (hi:(Tryz.prog.info? 28).map (·.size)=some cs.size)
 (h:wpList Tryz.prog ops Q rest (a.put o.dst (.agg cs)) w):wpList Tryz.prog ops Q (o::rest) a w:=
 Bx hw _ x ho g hx _ cs _ _ hg Tryz.underlying28 rfl hi h
theorem C5 (c:Int):Tk.funs.contains c=(Tk.cls c==4):=by
 rw[Bool.eq_iff_iff,List.contains_iff_mem,beq_iff_eq]
 constructor
 ·intro h;exact(show∀x∈Tk.funs,Tk.cls x=4 by decide) c h
 intro h;unfold Tk.cls at h
 split at h
 ·cases h
 split at h
 ·cases h
 split at h
 ·cases h
 split at h
 ·assumption
 split at h
 ·cases h
 split at h<;>cases h
theorem Eu (c:Int)(w:World):Calls Tryz.prog 150 #[.int .i64 c] w (Oa w (glyph c)):=by
 have HE:Hid (glyph c=(Tk.funs.contains c||Xf.contains c)):=Qd (by rw[C5];rfl);have FU:=Qd (Hh w);generalize glyph c=R at*;have I1:=Qd (λ(A:Option Addr) (w1:World) (h:Lies w1 w1.heap.size A (Xa Tk.funs))=>Je A 39 Tk.funs c w1 h (by decide));have I2:=Qd (λ(w1:World)=>Je (some ⟨w1.heap.size,0,none⟩) 4 Xf c (w1.alloc (.cells #[.int .i64 47,.int .i64 9023,.int .i64 92,.int .i64 9024] 3)) (.inr ⟨w1.heap.size,0,rfl,by simp,λj v hv=>by
  rw[Nat.zero_add,cell_of_row _ w1.heap.size j _ _ _ (heap_alloc_new w1 _),List.getElem?_toArray];exact hv⟩) (by decide))
 generalize Tk.funs.contains c=x at*;generalize Xf.contains c=y at*;cases x
 ·go_enter Tryz.func150,Tryz.ntmps150
  go_wp2_with fail
  refine FU.out.mono ?_;rintro e w1 ⟨A,rfl,hA,hb1⟩;have J1:=Qd (I1.out A w1 hA);go_wp2_with fail
  refine J1.out.mono ?_;rintro e w2 ⟨rfl,rfl⟩;go_wp2_with fail
  refine(I2.out w1).mono ?_;rintro e w2 ⟨rfl,rfl⟩;go_wp2_with fail
  go_ret;exact⟨Aa (by rw[HE.out];rfl),hb1.alloc hb1.size _⟩
 go_enter Tryz.func150,Tryz.ntmps150
 go_wp2_with fail
 refine FU.out.mono ?_;rintro e w1 ⟨A,rfl,hA,hb1⟩;have J1:=Qd (I1.out A w1 hA);go_wp2_with fail
 refine J1.out.mono ?_;rintro e w2 ⟨rfl,rfl⟩;go_wp2_with fail
 go_ret;exact⟨Aa (by rw[HE.out];rfl),hb1⟩
theorem Cx (a:Da)(vs:List Value)(w:World)(B:Nat)(h:IsTree w B a vs)(hB:B≤w.heap.size):
 Calls Tryz.prog 96 #[.agg vs.toArray] w (Oa w (Kf (kind a) (op a) (Zb a) (Ii a) (text a) ((Be a).map kind))):=by
 have hal:=Zc h;have FD0:=Ih a vs;have h':=h;obtain⟨k,o,m,nm,t,l⟩:=a;show Calls _ _ _ _ (Oa w (Kf k o m nm t (l.map kind)));obtain⟨W0,hW⟩:∃W,W=w.alloc (.cells vs.toArray 28):=⟨_,rfl⟩;obtain⟨A1,A2,A3,A4,c1,c2,c3,c4,us,HO,HL,HC,hW8,HG,hWl,hWb⟩:=Tb h hW;have hf3:=HO.out.f3.le (by omega);have hf4:=HO.out.f4.le (by omega);have hms:=HO.out.ms;have hfi:Eb o m nm t≤15∧0≤Eb o m nm t:=by
  unfold Eb
  constructor<;>split<;>split<;>split<;>split<;>omega
 have HW:=Qd hW;have HIA:=Qd hal;have hkb:∀wx,Below W0.heap.size W0 wx→IsTree wx B (.mk k o m nm t l) vs∧B≤wx.heap.size:=λwx hx=>⟨h'.below ((hWb.trans (hx.mono (by omega))).mono hB),by have:=hx.size;omega⟩;have FD:=Qd (FD0 W0 B (hkb W0 (Below.refl _ _)).1 (hkb W0 (Below.refl _ _)).2);replace FD:Hid (Calls Tryz.prog 90 #[.agg vs.toArray] W0 (Gh W0 (Eb o m nm t))):=FD;have HGB:Hid (∀wx,Below W0.heap.size W0 wx→wx.heap[w.heap.size]? =some (.cells vs.toArray 28 (0,0))):=Qd (λwx hx=>(hx.block _ hWl).trans HG.out);have H8:Hid (∀wx,Below W0.heap.size W0 wx→At8 wx w.heap.size 0 k o m nm t l.length A1 A2 A3 A4 c1 c2 c3 c4):=Qd (λwx hx=>hW8.keep (λq=>hx.cell (p:=⟨w.heap.size,q,none⟩) hWl));have HWB:=Qd hWb;have HWS:Hid (w.heap.size≤W0.heap.size):=Qd (by omega);have RR:Hid (∀wx,Below W0.heap.size W0 wx→Calls Tryz.prog 148 #[.agg #[.bool nm.neg,.slice A1 nm.top.length c1,.slice A2 nm.bot.length c2]] wx (Oa wx (Rt.right nm))):=Qd (λwx hx=>Dw nm.neg A1 nm.top c1 A2 nm.bot c2 wx (Xs (HO.out.keep (λp hp=>by rw[hx.cell (by omega),hWb.cell (by omega)]) (Nat.le_trans hB (by have:=hx.size;omega)))) (Ys (HO.out.keep (λp hp=>by rw[hx.cell (by omega),hWb.cell (by omega)]) (Nat.le_trans hB (by have:=hx.size;omega)))) HO.out.o1 HO.out.o2);have NMf:=Qd (λwx=>Rg m false wx hms);have NMt:=Qd (λwx=>Rg m true wx hms);have PT:=Qd (λwx=>Kn o wx);have GL:=Qd (λwx=>Eu o wx);have CHx:Hid (∀wx,Below W0.heap.size W0 wx→Calls Tryz.prog 149 #[.slice A3 t.length c3] wx (Bf wx (t.all Gl.may))):=Qd (λwx hx=>Au A3 c3 t wx B (HO.out.l3.keep (λp hp=>by rw[hx.cell (by omega),hWb.cell (by omega)])) (by have:=HO.out.f3.2.1;omega));generalize hf:Eb o m nm t=f at*;obtain⟨R,hR⟩:∃R,R=Kf k o m nm t (l.map kind):=⟨_,rfl⟩;rw[←hR];have HRR:Hid (R=Kf k o m nm t (l.map kind)):=Qd hR;have HFF:Hid (Eb o m nm t=f):=Qd hf;clear hR hf hW hW8 HO HG hWb h h' hal FD0 hkb HC HL;obtain⟨g,hg⟩:∃g,g=w.heap.size:=⟨_,rfl⟩;rw[←hg] at HGB H8 HWB HWS hWl;have HGG:=Qd hg;by_cases hl:l.length=0
 ·have hl2:l.map kind=[]:=by rw[List.eq_nil_of_length_eq_zero hl];rfl
  have ql:¬(0:Int)<(l.length:Int):=by omega
  have HRL:Hid (R=Kf k o m nm t []):=Qd (by rw[HRR.out,hl2]);clear HRR hl2 hl;go_enter Tryz.func96,Tryz.ntmps96
  go_upto_region 1 with fail
  rw[←HW.out];rw[←hg];clear hg;go_wp2_with (with_reducible refine Ua (.tmp 1) rfl rfl g rfl (HGB.out _ (Below.refl _ _)) HIA.out ?_)
  refine FD.out.mono ?_;rintro e w2 ⟨rfl,hb2⟩;have q0:=(H8.out w2 hb2).p0;have q1:=(H8.out w2 hb2).p1;have q2:=(H8.out w2 hb2).p2;have q3:=(H8.out w2 hb2).p3;have q4:=(H8.out w2 hb2).p4;have q5:=(H8.out w2 hb2).p5;have q6:=(H8.out w2 hb2).p6;have q7:=(H8.out w2 hb2).p7;go_upto_region 4 with fail
  generalize hrt:Rt.right nm=rt at*;generalize hnf:Ib m false=nf at*;generalize hnt:Ib m true=nt at*;generalize hpt:Bh o=pt at*;generalize hgl:glyph o=gl at*;generalize hch:t.all Gl.may=ch at*;have HDEF:Hid (R=(if k=1 then((f==4)||(f==0))&&rt
   else if k=2 then((f==8)||(f==0))&&decide (t.length≤2048)&&ch
   else if k=3 then(f==2)&&nf
   else if k=4∨k=5∨k=10∨k=19 then f==0
   else if k=6∨k=7 then((f==0)||(f==1))&&pt
   else if k=17 then(f==1)&&gl
   else if k=18 then(f==2)&&nt
   else if k=21 then((f==0)||(f==1))&&((o==0)||(o==1))
   else false)):=Qd (by rw[HRL.out,Kf,if_pos rfl,HFF.out,hrt,hnf,hnt,hpt,hgl,hch])
  clear HRL HFF hrt hnf hnt hpt hgl hch;by_cases k1:k=1
  ·subst k1
   have HOP:Hid (R=(((f==4)||(f==0))&&rt)):=Qd HDEF.out;clear HDEF;cases qf:(f==4)
   ·cases qg:(f==0)
    ·have HZ:Hid (R=false):=Qd (by rw[HOP.out];simp[qf,qg])
     go_wp2_with fail
     go_ret;exact⟨Aa (by rw[HZ.out]),by rw[←HGG.out];exact HWB.out.trans (hb2.mono HWS.out)⟩
    cases rt
    ·have HZ:Hid (R=false):=Qd (by rw[HOP.out];simp[qf,qg])
     go_wp2_with fail
     refine(RR.out w2 hb2).mono ?_;rintro e w3 ⟨rfl,hb3'⟩;have hb3:=hb2.trans (hb3'.mono hb2.size);have r0:=(H8.out w3 hb3).p0;have r1:=(H8.out w3 hb3).p1;have r2:=(H8.out w3 hb3).p2;have r3:=(H8.out w3 hb3).p3;have r4:=(H8.out w3 hb3).p4;have r5:=(H8.out w3 hb3).p5;have r6:=(H8.out w3 hb3).p6;have r7:=(H8.out w3 hb3).p7;clear q0 q1 q2 q3 q4 q5 q6 q7;have q0:=r0;have q1:=r1;have q2:=r2;have q3:=r3;have q4:=r4;have q5:=r5;have q6:=r6;have q7:=r7;clear r0 r1 r2 r3 r4 r5 r6 r7;go_wp2_with fail
     go_ret;exact⟨Aa (by rw[HZ.out]),by rw[←HGG.out];exact HWB.out.trans (hb3.mono HWS.out)⟩
    have HZ:Hid (R=true):=Qd (by rw[HOP.out];simp[qf,qg]);go_wp2_with fail
    refine(RR.out w2 hb2).mono ?_;rintro e w3 ⟨rfl,hb3'⟩;have hb3:=hb2.trans (hb3'.mono hb2.size);have r0:=(H8.out w3 hb3).p0;have r1:=(H8.out w3 hb3).p1;have r2:=(H8.out w3 hb3).p2;have r3:=(H8.out w3 hb3).p3;have r4:=(H8.out w3 hb3).p4;have r5:=(H8.out w3 hb3).p5;have r6:=(H8.out w3 hb3).p6;have r7:=(H8.out w3 hb3).p7;clear q0 q1 q2 q3 q4 q5 q6 q7;have q0:=r0;have q1:=r1;have q2:=r2;have q3:=r3;have q4:=r4;have q5:=r5;have q6:=r6;have q7:=r7;clear r0 r1 r2 r3 r4 r5 r6 r7;go_wp2_with fail
    go_ret;exact⟨Aa (by rw[HZ.out]),by rw[←HGG.out];exact HWB.out.trans (hb3.mono HWS.out)⟩
   cases rt
   ·have HZ:Hid (R=false):=Qd (by rw[HOP.out];simp[qf])
    go_wp2_with fail
    refine(RR.out w2 hb2).mono ?_;rintro e w3 ⟨rfl,hb3'⟩;have hb3:=hb2.trans (hb3'.mono hb2.size);have r0:=(H8.out w3 hb3).p0;have r1:=(H8.out w3 hb3).p1;have r2:=(H8.out w3 hb3).p2;have r3:=(H8.out w3 hb3).p3;have r4:=(H8.out w3 hb3).p4;have r5:=(H8.out w3 hb3).p5;have r6:=(H8.out w3 hb3).p6;have r7:=(H8.out w3 hb3).p7;clear q0 q1 q2 q3 q4 q5 q6 q7;have q0:=r0;have q1:=r1;have q2:=r2;have q3:=r3;have q4:=r4;have q5:=r5;have q6:=r6;have q7:=r7;clear r0 r1 r2 r3 r4 r5 r6 r7;go_wp2_with fail
    go_ret;exact⟨Aa (by rw[HZ.out]),by rw[←HGG.out];exact HWB.out.trans (hb3.mono HWS.out)⟩
   have HZ:Hid (R=true):=Qd (by rw[HOP.out];simp[qf]);go_wp2_with fail
   refine(RR.out w2 hb2).mono ?_;rintro e w3 ⟨rfl,hb3'⟩;have hb3:=hb2.trans (hb3'.mono hb2.size);have r0:=(H8.out w3 hb3).p0;have r1:=(H8.out w3 hb3).p1;have r2:=(H8.out w3 hb3).p2;have r3:=(H8.out w3 hb3).p3;have r4:=(H8.out w3 hb3).p4;have r5:=(H8.out w3 hb3).p5;have r6:=(H8.out w3 hb3).p6;have r7:=(H8.out w3 hb3).p7;clear q0 q1 q2 q3 q4 q5 q6 q7;have q0:=r0;have q1:=r1;have q2:=r2;have q3:=r3;have q4:=r4;have q5:=r5;have q6:=r6;have q7:=r7;clear r0 r1 r2 r3 r4 r5 r6 r7;go_wp2_with fail
   go_ret;exact⟨Aa (by rw[HZ.out]),by rw[←HGG.out];exact HWB.out.trans (hb3.mono HWS.out)⟩
  by_cases k2:k=2
  ·subst k2
   have HOP:Hid (R=(((f==8)||(f==0))&&decide (t.length≤2048)&&ch)):=Qd HDEF.out;clear HDEF;cases qf:(f==8)
   ·cases qg:(f==0)
    ·have HZ:Hid (R=false):=Qd (by rw[HOP.out];simp[qf,qg])
     go_wp2_with fail
     go_ret;exact⟨Aa (by rw[HZ.out]),by rw[←HGG.out];exact HWB.out.trans (hb2.mono HWS.out)⟩
    by_cases hlen:t.length≤2048
    ·have qlen:(t.length:Int)≤2048:=by omega
     cases ch
     ·have HZ:Hid (R=false):=Qd (by rw[HOP.out];simp[qf,qg,hlen])
      go_wp2_with fail
      refine(CHx.out w2 hb2).mono ?_;rintro e w3 ⟨rfl,rfl⟩;go_wp2_with fail
      go_ret;exact⟨Aa (by rw[HZ.out]),by rw[←HGG.out];exact HWB.out.trans (hb2.mono HWS.out)⟩
     have HZ:Hid (R=true):=Qd (by rw[HOP.out];simp[qf,qg,hlen]);go_wp2_with fail
     refine(CHx.out w2 hb2).mono ?_;rintro e w3 ⟨rfl,rfl⟩;go_wp2_with fail
     go_ret;exact⟨Aa (by rw[HZ.out]),by rw[←HGG.out];exact HWB.out.trans (hb2.mono HWS.out)⟩
    have qlen:¬(t.length:Int)≤2048:=by omega
    have HZ:Hid (R=false):=Qd (by rw[HOP.out];simp[qf,qg,hlen]);go_wp2_with fail
    go_ret;exact⟨Aa (by rw[HZ.out]),by rw[←HGG.out];exact HWB.out.trans (hb2.mono HWS.out)⟩
   by_cases hlen:t.length≤2048
   ·have qlen:(t.length:Int)≤2048:=by omega
    cases ch
    ·have HZ:Hid (R=false):=Qd (by rw[HOP.out];simp[qf,hlen])
     go_wp2_with fail
     refine(CHx.out w2 hb2).mono ?_;rintro e w3 ⟨rfl,rfl⟩;go_wp2_with fail
     go_ret;exact⟨Aa (by rw[HZ.out]),by rw[←HGG.out];exact HWB.out.trans (hb2.mono HWS.out)⟩
    have HZ:Hid (R=true):=Qd (by rw[HOP.out];simp[qf,hlen]);go_wp2_with fail
    refine(CHx.out w2 hb2).mono ?_;rintro e w3 ⟨rfl,rfl⟩;go_wp2_with fail
    go_ret;exact⟨Aa (by rw[HZ.out]),by rw[←HGG.out];exact HWB.out.trans (hb2.mono HWS.out)⟩
   have qlen:¬(t.length:Int)≤2048:=by omega
   have HZ:Hid (R=false):=Qd (by rw[HOP.out];simp[qf,hlen]);go_wp2_with fail
   go_ret;exact⟨Aa (by rw[HZ.out]),by rw[←HGG.out];exact HWB.out.trans (hb2.mono HWS.out)⟩
  by_cases k3:k=3
  ·subst k3
   have HOP:Hid (R=((f==2)&&nf)):=Qd HDEF.out;clear HDEF;cases qf:(f==2)
   ·have HZ:Hid (R=false):=Qd (by rw[HOP.out];simp[qf])
    go_wp2_with fail
    go_ret;exact⟨Aa (by rw[HZ.out]),by rw[←HGG.out];exact HWB.out.trans (hb2.mono HWS.out)⟩
   cases nf
   ·have HZ:Hid (R=false):=Qd (by rw[HOP.out];simp[qf])
    go_wp2_with fail
    refine(NMf.out w2).mono ?_;rintro e w3 ⟨rfl,hb3'⟩;have hb3:=hb2.trans (hb3'.mono hb2.size);have r0:=(H8.out w3 hb3).p0;have r1:=(H8.out w3 hb3).p1;have r2:=(H8.out w3 hb3).p2;have r3:=(H8.out w3 hb3).p3;have r4:=(H8.out w3 hb3).p4;have r5:=(H8.out w3 hb3).p5;have r6:=(H8.out w3 hb3).p6;have r7:=(H8.out w3 hb3).p7;clear q0 q1 q2 q3 q4 q5 q6 q7;have q0:=r0;have q1:=r1;have q2:=r2;have q3:=r3;have q4:=r4;have q5:=r5;have q6:=r6;have q7:=r7;clear r0 r1 r2 r3 r4 r5 r6 r7;go_wp2_with fail
    go_ret;exact⟨Aa (by rw[HZ.out]),by rw[←HGG.out];exact HWB.out.trans (hb3.mono HWS.out)⟩
   have HZ:Hid (R=true):=Qd (by rw[HOP.out];simp[qf]);go_wp2_with fail
   refine(NMf.out w2).mono ?_;rintro e w3 ⟨rfl,hb3'⟩;have hb3:=hb2.trans (hb3'.mono hb2.size);have r0:=(H8.out w3 hb3).p0;have r1:=(H8.out w3 hb3).p1;have r2:=(H8.out w3 hb3).p2;have r3:=(H8.out w3 hb3).p3;have r4:=(H8.out w3 hb3).p4;have r5:=(H8.out w3 hb3).p5;have r6:=(H8.out w3 hb3).p6;have r7:=(H8.out w3 hb3).p7;clear q0 q1 q2 q3 q4 q5 q6 q7;have q0:=r0;have q1:=r1;have q2:=r2;have q3:=r3;have q4:=r4;have q5:=r5;have q6:=r6;have q7:=r7;clear r0 r1 r2 r3 r4 r5 r6 r7;go_wp2_with fail
   go_ret;exact⟨Aa (by rw[HZ.out]),by rw[←HGG.out];exact HWB.out.trans (hb3.mono HWS.out)⟩
  by_cases k4:k=4
  ·subst k4
   have HOP:Hid (R=(f==0)):=Qd HDEF.out;clear HDEF;cases qf:(f==0)
   ·have HZ:Hid (R=false):=Qd (by rw[HOP.out];simp[qf])
    go_wp2_with fail
    go_ret;exact⟨Aa (by rw[HZ.out]),by rw[←HGG.out];exact HWB.out.trans (hb2.mono HWS.out)⟩
   have HZ:Hid (R=true):=Qd (by rw[HOP.out];simp[qf]);go_wp2_with fail
   go_ret;exact⟨Aa (by rw[HZ.out]),by rw[←HGG.out];exact HWB.out.trans (hb2.mono HWS.out)⟩
  by_cases k5:k=5
  ·subst k5
   have HOP:Hid (R=(f==0)):=Qd HDEF.out;clear HDEF;cases qf:(f==0)
   ·have HZ:Hid (R=false):=Qd (by rw[HOP.out];simp[qf])
    go_wp2_with fail
    go_ret;exact⟨Aa (by rw[HZ.out]),by rw[←HGG.out];exact HWB.out.trans (hb2.mono HWS.out)⟩
   have HZ:Hid (R=true):=Qd (by rw[HOP.out];simp[qf]);go_wp2_with fail
   go_ret;exact⟨Aa (by rw[HZ.out]),by rw[←HGG.out];exact HWB.out.trans (hb2.mono HWS.out)⟩
  by_cases k10:k=10
  ·subst k10
   have HOP:Hid (R=(f==0)):=Qd HDEF.out;clear HDEF;cases qf:(f==0)
   ·have HZ:Hid (R=false):=Qd (by rw[HOP.out];simp[qf])
    go_wp2_with fail
    go_ret;exact⟨Aa (by rw[HZ.out]),by rw[←HGG.out];exact HWB.out.trans (hb2.mono HWS.out)⟩
   have HZ:Hid (R=true):=Qd (by rw[HOP.out];simp[qf]);go_wp2_with fail
   go_ret;exact⟨Aa (by rw[HZ.out]),by rw[←HGG.out];exact HWB.out.trans (hb2.mono HWS.out)⟩
  by_cases k19:k=19
  ·subst k19
   have HOP:Hid (R=(f==0)):=Qd HDEF.out;clear HDEF;cases qf:(f==0)
   ·have HZ:Hid (R=false):=Qd (by rw[HOP.out];simp[qf])
    go_wp2_with fail
    go_ret;exact⟨Aa (by rw[HZ.out]),by rw[←HGG.out];exact HWB.out.trans (hb2.mono HWS.out)⟩
   have HZ:Hid (R=true):=Qd (by rw[HOP.out];simp[qf]);go_wp2_with fail
   go_ret;exact⟨Aa (by rw[HZ.out]),by rw[←HGG.out];exact HWB.out.trans (hb2.mono HWS.out)⟩
  by_cases k6:k=6
  ·subst k6
   have HOP:Hid (R=(((f==0)||(f==1))&&pt)):=Qd HDEF.out;clear HDEF;cases qf:(f==0)
   ·cases qg:(f==1)
    ·have HZ:Hid (R=false):=Qd (by rw[HOP.out];simp[qf,qg])
     go_wp2_with fail
     go_ret;exact⟨Aa (by rw[HZ.out]),by rw[←HGG.out];exact HWB.out.trans (hb2.mono HWS.out)⟩
    cases pt
    ·have HZ:Hid (R=false):=Qd (by rw[HOP.out];simp[qf,qg])
     go_wp2_with fail
     refine(PT.out w2).mono ?_;rintro e w3 ⟨rfl,rfl⟩;go_wp2_with fail
     go_ret;exact⟨Aa (by rw[HZ.out]),by rw[←HGG.out];exact HWB.out.trans (hb2.mono HWS.out)⟩
    have HZ:Hid (R=true):=Qd (by rw[HOP.out];simp[qf,qg]);go_wp2_with fail
    refine(PT.out w2).mono ?_;rintro e w3 ⟨rfl,rfl⟩;go_wp2_with fail
    go_ret;exact⟨Aa (by rw[HZ.out]),by rw[←HGG.out];exact HWB.out.trans (hb2.mono HWS.out)⟩
   cases pt
   ·have HZ:Hid (R=false):=Qd (by rw[HOP.out];simp[qf])
    go_wp2_with fail
    refine(PT.out w2).mono ?_;rintro e w3 ⟨rfl,rfl⟩;go_wp2_with fail
    go_ret;exact⟨Aa (by rw[HZ.out]),by rw[←HGG.out];exact HWB.out.trans (hb2.mono HWS.out)⟩
   have HZ:Hid (R=true):=Qd (by rw[HOP.out];simp[qf]);go_wp2_with fail
   refine(PT.out w2).mono ?_;rintro e w3 ⟨rfl,rfl⟩;go_wp2_with fail
   go_ret;exact⟨Aa (by rw[HZ.out]),by rw[←HGG.out];exact HWB.out.trans (hb2.mono HWS.out)⟩
  by_cases k7:k=7
  ·subst k7
   have HOP:Hid (R=(((f==0)||(f==1))&&pt)):=Qd HDEF.out;clear HDEF;cases qf:(f==0)
   ·cases qg:(f==1)
    ·have HZ:Hid (R=false):=Qd (by rw[HOP.out];simp[qf,qg])
     go_wp2_with fail
     go_ret;exact⟨Aa (by rw[HZ.out]),by rw[←HGG.out];exact HWB.out.trans (hb2.mono HWS.out)⟩
    cases pt
    ·have HZ:Hid (R=false):=Qd (by rw[HOP.out];simp[qf,qg])
     go_wp2_with fail
     refine(PT.out w2).mono ?_;rintro e w3 ⟨rfl,rfl⟩;go_wp2_with fail
     go_ret;exact⟨Aa (by rw[HZ.out]),by rw[←HGG.out];exact HWB.out.trans (hb2.mono HWS.out)⟩
    have HZ:Hid (R=true):=Qd (by rw[HOP.out];simp[qf,qg]);go_wp2_with fail
    refine(PT.out w2).mono ?_;rintro e w3 ⟨rfl,rfl⟩;go_wp2_with fail
    go_ret;exact⟨Aa (by rw[HZ.out]),by rw[←HGG.out];exact HWB.out.trans (hb2.mono HWS.out)⟩
   cases pt
   ·have HZ:Hid (R=false):=Qd (by rw[HOP.out];simp[qf])
    go_wp2_with fail
    refine(PT.out w2).mono ?_;rintro e w3 ⟨rfl,rfl⟩;go_wp2_with fail
    go_ret;exact⟨Aa (by rw[HZ.out]),by rw[←HGG.out];exact HWB.out.trans (hb2.mono HWS.out)⟩
   have HZ:Hid (R=true):=Qd (by rw[HOP.out];simp[qf]);go_wp2_with fail
   refine(PT.out w2).mono ?_;rintro e w3 ⟨rfl,rfl⟩;go_wp2_with fail
   go_ret;exact⟨Aa (by rw[HZ.out]),by rw[←HGG.out];exact HWB.out.trans (hb2.mono HWS.out)⟩
  by_cases k17:k=17
  ·subst k17
   have HOP:Hid (R=((f==1)&&gl)):=Qd HDEF.out;clear HDEF;cases qf:(f==1)
   ·have HZ:Hid (R=false):=Qd (by rw[HOP.out];simp[qf])
    go_wp2_with fail
    go_ret;exact⟨Aa (by rw[HZ.out]),by rw[←HGG.out];exact HWB.out.trans (hb2.mono HWS.out)⟩
   cases gl
   ·have HZ:Hid (R=false):=Qd (by rw[HOP.out];simp[qf])
    go_wp2_with fail
    refine(GL.out w2).mono ?_;rintro e w3 ⟨rfl,hb3'⟩;have hb3:=hb2.trans (hb3'.mono hb2.size);have r0:=(H8.out w3 hb3).p0;have r1:=(H8.out w3 hb3).p1;have r2:=(H8.out w3 hb3).p2;have r3:=(H8.out w3 hb3).p3;have r4:=(H8.out w3 hb3).p4;have r5:=(H8.out w3 hb3).p5;have r6:=(H8.out w3 hb3).p6;have r7:=(H8.out w3 hb3).p7;clear q0 q1 q2 q3 q4 q5 q6 q7;have q0:=r0;have q1:=r1;have q2:=r2;have q3:=r3;have q4:=r4;have q5:=r5;have q6:=r6;have q7:=r7;clear r0 r1 r2 r3 r4 r5 r6 r7;go_wp2_with fail
    go_ret;exact⟨Aa (by rw[HZ.out]),by rw[←HGG.out];exact HWB.out.trans (hb3.mono HWS.out)⟩
   have HZ:Hid (R=true):=Qd (by rw[HOP.out];simp[qf]);go_wp2_with fail
   refine(GL.out w2).mono ?_;rintro e w3 ⟨rfl,hb3'⟩;have hb3:=hb2.trans (hb3'.mono hb2.size);have r0:=(H8.out w3 hb3).p0;have r1:=(H8.out w3 hb3).p1;have r2:=(H8.out w3 hb3).p2;have r3:=(H8.out w3 hb3).p3;have r4:=(H8.out w3 hb3).p4;have r5:=(H8.out w3 hb3).p5;have r6:=(H8.out w3 hb3).p6;have r7:=(H8.out w3 hb3).p7;clear q0 q1 q2 q3 q4 q5 q6 q7;have q0:=r0;have q1:=r1;have q2:=r2;have q3:=r3;have q4:=r4;have q5:=r5;have q6:=r6;have q7:=r7;clear r0 r1 r2 r3 r4 r5 r6 r7;go_wp2_with fail
   go_ret;exact⟨Aa (by rw[HZ.out]),by rw[←HGG.out];exact HWB.out.trans (hb3.mono HWS.out)⟩
  by_cases k18:k=18
  ·subst k18
   have HOP:Hid (R=((f==2)&&nt)):=Qd HDEF.out;clear HDEF;cases qf:(f==2)
   ·have HZ:Hid (R=false):=Qd (by rw[HOP.out];simp[qf])
    go_wp2_with fail
    go_ret;exact⟨Aa (by rw[HZ.out]),by rw[←HGG.out];exact HWB.out.trans (hb2.mono HWS.out)⟩
   cases nt
   ·have HZ:Hid (R=false):=Qd (by rw[HOP.out];simp[qf])
    go_wp2_with fail
    refine(NMt.out w2).mono ?_;rintro e w3 ⟨rfl,hb3'⟩;have hb3:=hb2.trans (hb3'.mono hb2.size);have r0:=(H8.out w3 hb3).p0;have r1:=(H8.out w3 hb3).p1;have r2:=(H8.out w3 hb3).p2;have r3:=(H8.out w3 hb3).p3;have r4:=(H8.out w3 hb3).p4;have r5:=(H8.out w3 hb3).p5;have r6:=(H8.out w3 hb3).p6;have r7:=(H8.out w3 hb3).p7;clear q0 q1 q2 q3 q4 q5 q6 q7;have q0:=r0;have q1:=r1;have q2:=r2;have q3:=r3;have q4:=r4;have q5:=r5;have q6:=r6;have q7:=r7;clear r0 r1 r2 r3 r4 r5 r6 r7;go_wp2_with fail
    go_ret;exact⟨Aa (by rw[HZ.out]),by rw[←HGG.out];exact HWB.out.trans (hb3.mono HWS.out)⟩
   have HZ:Hid (R=true):=Qd (by rw[HOP.out];simp[qf]);go_wp2_with fail
   refine(NMt.out w2).mono ?_;rintro e w3 ⟨rfl,hb3'⟩;have hb3:=hb2.trans (hb3'.mono hb2.size);have r0:=(H8.out w3 hb3).p0;have r1:=(H8.out w3 hb3).p1;have r2:=(H8.out w3 hb3).p2;have r3:=(H8.out w3 hb3).p3;have r4:=(H8.out w3 hb3).p4;have r5:=(H8.out w3 hb3).p5;have r6:=(H8.out w3 hb3).p6;have r7:=(H8.out w3 hb3).p7;clear q0 q1 q2 q3 q4 q5 q6 q7;have q0:=r0;have q1:=r1;have q2:=r2;have q3:=r3;have q4:=r4;have q5:=r5;have q6:=r6;have q7:=r7;clear r0 r1 r2 r3 r4 r5 r6 r7;go_wp2_with fail
   go_ret;exact⟨Aa (by rw[HZ.out]),by rw[←HGG.out];exact HWB.out.trans (hb3.mono HWS.out)⟩
  by_cases k21:k=21
  ·subst k21
   have HOP:Hid (R=(((f==0)||(f==1))&&((o==0)||(o==1)))):=Qd HDEF.out;clear HDEF;cases qf:(f==0)
   ·cases qg:(f==1)
    ·have HZ:Hid (R=false):=Qd (by rw[HOP.out];simp[qf,qg])
     go_wp2_with fail
     go_ret;exact⟨Aa (by rw[HZ.out]),by rw[←HGG.out];exact HWB.out.trans (hb2.mono HWS.out)⟩
    cases qo:(o==0)
    ·cases qp:(o==1)
     ·have HZ:Hid (R=false):=Qd (by rw[HOP.out];simp[qf,qg,qo,qp])
      go_wp2_with fail
      go_ret;exact⟨Aa (by rw[HZ.out]),by rw[←HGG.out];exact HWB.out.trans (hb2.mono HWS.out)⟩
     have HZ:Hid (R=true):=Qd (by rw[HOP.out];simp[qf,qg,qo,qp]);go_wp2_with fail
     go_ret;exact⟨Aa (by rw[HZ.out]),by rw[←HGG.out];exact HWB.out.trans (hb2.mono HWS.out)⟩
    have HZ:Hid (R=true):=Qd (by rw[HOP.out];simp[qf,qg,qo]);go_wp2_with fail
    go_ret;exact⟨Aa (by rw[HZ.out]),by rw[←HGG.out];exact HWB.out.trans (hb2.mono HWS.out)⟩
   cases qo:(o==0)
   ·cases qp:(o==1)
    ·have HZ:Hid (R=false):=Qd (by rw[HOP.out];simp[qf,qo,qp])
     go_wp2_with fail
     go_ret;exact⟨Aa (by rw[HZ.out]),by rw[←HGG.out];exact HWB.out.trans (hb2.mono HWS.out)⟩
    have HZ:Hid (R=true):=Qd (by rw[HOP.out];simp[qf,qo,qp]);go_wp2_with fail
    go_ret;exact⟨Aa (by rw[HZ.out]),by rw[←HGG.out];exact HWB.out.trans (hb2.mono HWS.out)⟩
   have HZ:Hid (R=true):=Qd (by rw[HOP.out];simp[qf,qo]);go_wp2_with fail
   go_ret;exact⟨Aa (by rw[HZ.out]),by rw[←HGG.out];exact HWB.out.trans (hb2.mono HWS.out)⟩
  have HZ:Hid (R=false):=Qd (by rw[HDEF.out];simp[k1,k2,k3,k4,k5,k10,k19,k6,k7,k17,k18,k21]);clear HDEF;have n1:(k==1)=false:=beq_eq_false_iff_ne.2 k1;have n2:(k==2)=false:=beq_eq_false_iff_ne.2 k2;have n3:(k==3)=false:=beq_eq_false_iff_ne.2 k3;have n4:(k==4)=false:=beq_eq_false_iff_ne.2 k4;have n5:(k==5)=false:=beq_eq_false_iff_ne.2 k5;have n10:(k==10)=false:=beq_eq_false_iff_ne.2 k10;have n19:(k==19)=false:=beq_eq_false_iff_ne.2 k19;have n6:(k==6)=false:=beq_eq_false_iff_ne.2 k6;have n7:(k==7)=false:=beq_eq_false_iff_ne.2 k7;have n17:(k==17)=false:=beq_eq_false_iff_ne.2 k17;have n18:(k==18)=false:=beq_eq_false_iff_ne.2 k18;have n21:(k==21)=false:=beq_eq_false_iff_ne.2 k21;clear k1 k2 k3 k4 k5 k10 k19 k6 k7 k17 k18 k21;go_wp2_with fail
  go_ret;exact⟨Aa (by rw[HZ.out]),by rw[←HGG.out];exact HWB.out.trans (hb2.mono HWS.out)⟩
 have hl2:l.map kind≠[]:=by intro e;exact hl (by have:=congrArg List.length e;simpa using this)
 have ql:(0:Int)<(l.length:Int):=by omega
 have HZ:Hid (R=false):=Qd (by rw[HRR.out,Kf,if_neg hl2]);clear HRR hl2 hl;go_enter Tryz.func96,Tryz.ntmps96
 go_upto_region 1 with fail
 rw[←HW.out];rw[←hg];clear hg;go_wp2_with (with_reducible refine Ua (.tmp 1) rfl rfl g rfl (HGB.out _ (Below.refl _ _)) HIA.out ?_)
 refine FD.out.mono ?_;rintro e w2 ⟨rfl,hb2⟩;have q0:=(H8.out w2 hb2).p0;have q1:=(H8.out w2 hb2).p1;have q2:=(H8.out w2 hb2).p2;have q3:=(H8.out w2 hb2).p3;have q4:=(H8.out w2 hb2).p4;have q5:=(H8.out w2 hb2).p5;have q6:=(H8.out w2 hb2).p6;have q7:=(H8.out w2 hb2).p7;go_wp2_with fail
 go_ret;exact⟨Aa (by rw[HZ.out]),by rw[←HGG.out];exact HWB.out.trans (hb2.mono HWS.out)⟩
end
section
open Go.RowKit Tr
set_option maxHeartbeats 80000000
theorem Uf {B:Nat}{w w1:World}(h:Below B w w1):Below B w w1.drew:=⟨h.os,h.tape,h.output,h.size,h.block⟩
theorem Zs (l:List Int)(y:Int):l.any (· ==y)=l.contains y:=by
 rw[Bool.eq_iff_iff,List.any_eq_true,List.contains_iff_mem]
 constructor
 ·rintro⟨x,hx,h⟩;rw[beq_iff_eq] at h;subst h;exact hx
 intro h;exact⟨y,h,beq_self_eq_true y⟩
theorem Ke {w:World}{T:TypeId}{vs:List Value}:Lies (w.alloc (.cells vs.toArray T)) (w.alloc (.cells vs.toArray T)).heap.size (some ⟨w.heap.size,0,none⟩) vs:=
 .inr ⟨w.heap.size,0,rfl,by simp,λj v hv=>by rw[Nat.zero_add,cell_of_row _ w.heap.size j _ _ _ (heap_alloc_new w _),List.getElem?_toArray];exact hv⟩
theorem Ag (w:World):Calls Tryz.prog 108 #[] w λe w'=>e= .returned (.slice (some ⟨w.heap.size,0,none⟩) 6 6)∧w'=w.alloc (.cells (Xa monops).toArray 3):=by
 go_enter Tryz.func108,Tryz.ntmps108
 go_wp2_with fail
 go_ret;exact⟨rfl,rfl⟩
theorem Hj (w:World):Calls Tryz.prog 109 #[] w λe w'=>e= .returned (.slice (some ⟨w.heap.size,0,none⟩) 4 4)∧w'=w.alloc (.cells (Xa dyops).toArray 3):=by
 go_enter Tryz.func109,Tryz.ntmps109
 go_wp2_with fail
 go_ret;exact⟨rfl,rfl⟩
theorem Ud (l:List Int)(n m:Nat)(hm:m=l.length)(y:Int)(w:World)(A:Option Addr)(hl:Lies w w.heap.size A (Xa l))(hn:l.length≤1000):Calls Tryz.prog 107 #[.slice A m n,.int .i64 y] w (Bf w (l.contains y)):=by
 subst hm;rw[←Zs];exact Jr A n l y w w.heap.size hl (by omega)
theorem Qn (c:Int)(w:World):Calls Tryz.prog 106 #[.int .i64 c] w (Oa w (glyph c)):=by
 have HE:Hid (glyph c=((Tk.cls c==4)||Xf.contains c)):=Qd rfl;have CL:=Qd (Bg c w);have MO:=Qd (Ag w);have IN:=Qd (Ud Xf 6 4 rfl c (w.alloc (.cells (Xa monops).toArray 3)) (some ⟨w.heap.size,0,none⟩) (by
  have:=Ke (w:=w) (T:=3) (vs:=Xa monops);rcases this with h |⟨b,off,e,hb,hc⟩
  ·cases h
  exact .inr ⟨b,off,e,hb,λj v hv=>hc j v (by
   have hj:j<4:=by
    rcases Nat.lt_or_ge j 4 with h |h
    ·exact h
    rw[List.getElem?_eq_none (by simpa [Xa,Xf] using h)] at hv;cases hv
   rw[show Xa Xf=(Xa monops).take 4 from rfl,List.getElem?_take,if_pos hj] at hv;exact hv)⟩) (by decide))
 generalize glyph c=R at*;generalize Xf.contains c=y at*;generalize Tk.cls c=cv at*;cases q:(cv==4);all_goals rw[q] at HE
 ·go_enter Tryz.func106,Tryz.ntmps106
  go_wp2_with fail
  refine CL.out.mono ?_;rintro e w1 ⟨rfl,rfl⟩;go_wp2_with fail
  refine MO.out.mono ?_;rintro e w2 ⟨rfl,rfl⟩;go_wp2_with fail
  refine IN.out.mono ?_;rintro e w2 ⟨rfl,rfl⟩;go_wp2_with fail
  go_ret;exact⟨Aa (by rw[HE.out]<;>rfl),(Below.refl _ _).alloc (Nat.le_refl _) _⟩
 go_enter Tryz.func106,Tryz.ntmps106
 go_wp2_with fail
 refine CL.out.mono ?_;rintro e w1 ⟨rfl,rfl⟩;go_wp2_with fail
 go_ret;exact⟨Aa (by rw[HE.out]<;>rfl),Below.refl _ _⟩
theorem Sz (x:Int)(w:World):Calls Tryz.prog 103 #[.int .i64 x] w λe w'=>e= .returned (.bool (!Gl.may x))∧w=w':=by
 have M:=Qd (Su x w);generalize Gl.may x=r at*;go_enter Tryz.func103,Tryz.ntmps103
 go_wp2_with fail
 refine M.out.mono ?_;rintro e w1 ⟨rfl,rfl⟩;go_wp2_with fail
 go_ret;exact⟨rfl,rfl⟩
theorem Dx (A:Option Addr)(c:Nat)(l:List Int)(w:World)(B:Nat)(hl:Lies w B A (Xa l))(hn:l.length≤17592186044416):
 Calls Tryz.prog 102 #[.slice A l.length c,.func (.func 103) #[] #[]] w (Bf w (!l.all Gl.may)):=by
 have h:=Ir 103 (enters_of Tryz.func103 (by kernel_rfl) rfl) (λx=> !Gl.may x) A c l w B hl (by omega) (λx=>Sz x w);rwa[show l.any (λx=> !Gl.may x)= !l.all Gl.may from by rw[List.all_eq_not_any_not];simp] at h
theorem D5 (a:Da)(vs:List Value)(w:World)(B:Nat)(h:IsTree w B a vs)(hB:B≤w.heap.size):
 Calls Tryz.prog 63 #[.agg vs.toArray] w (Oa w (Vh (kind a) (op a) (Zb a) (Ii a) (text a))):=by
 obtain⟨k,o,m,nm,t,l⟩:=a;show Calls _ _ _ _ (Oa w (Vh k o m nm t));obtain⟨W0,hW⟩:∃W,W=w.alloc (.cells vs.toArray 28):=⟨_,rfl⟩;obtain⟨A1,A2,A3,A4,c1,c2,c3,c4,us,HO,HL,HC,hW8,HG,hWl,hWb⟩:=Tb h hW;have hf3:=HO.out.f3.le (by omega);have hms:=HO.out.ms;have hko:∀wx,Below W0.heap.size W0 wx→Own wx wx.heap.size k o m nm t l.length A1 A2 A3 A4 c1 c2 c3 c4:=λwx hx=>HO.out.keep (λp hp=>by rw[hx.cell (by omega),hWb.cell (by omega)]) (Nat.le_trans hB (by have:=hx.size;omega));have H8:Hid (∀wx,Below W0.heap.size W0 wx→At8 wx w.heap.size 0 k o m nm t l.length A1 A2 A3 A4 c1 c2 c3 c4):=Qd (λwx hx=>hW8.keep (λq=>hx.cell (p:=⟨w.heap.size,q,none⟩) hWl));have SM:Hid (Calls Tryz.prog 100 #[.agg #[.bool nm.neg,.slice A1 nm.top.length c1,.slice A2 nm.bot.length c2],.agg #[.bool false,.slice none 0 0,.slice none 0 0]] W0 (Oa W0 (zero nm))):=Qd (by
  have h1:=hko W0 (Below.refl _ _);have:=Wp nm.neg false nm.top [] nm.bot [] A1 A2 none none c1 c2 0 0 W0 W0.heap.size h1.l1 (.inl rfl) h1.l2 (.inl rfl) (Nat.le_refl _) (by have:=h1.f1.le (by omega);omega) (by decide) (by have:=h1.f2.le (by omega);omega) (by decide);rwa[show Vc nm.neg false nm.top [] nm.bot []=zero nm from by unfold Vc zero;cases nm.neg<;>cases nm.top<;>cases nm.bot<;>rfl] at this)
 have RR:Hid (∀wx,Below W0.heap.size W0 wx→Calls Tryz.prog 101 #[.agg #[.bool nm.neg,.slice A1 nm.top.length c1,.slice A2 nm.bot.length c2]] wx (Oa wx (Rt.right nm))):=Qd (λwx hx=>Ho nm.neg A1 nm.top c1 A2 nm.bot c2 wx (Xs (hko wx hx)) (Ys (hko wx hx)) HO.out.o1 HO.out.o2);have CH:Hid (∀wx,Below W0.heap.size W0 wx→Calls Tryz.prog 102 #[.slice A3 t.length c3,.func (.func 103) #[] #[]] wx (Bf wx (!t.all Gl.may))):=Qd (λwx hx=>Dx A3 c3 t wx wx.heap.size (hko wx hx).l3 (by have:=HO.out.f3.2.1;omega));have NMf:=Qd (λwx=>Hp m false wx hms);have NMt:=Qd (λwx=>Hp m true wx hms);have GL:=Qd (λwx=>Qn o wx);have MO:=Qd (λwx=>Ag wx);have DY:=Qd (λwx=>Hj wx);have CM:=Qd (λ(wx:World)=>Ud monops 6 6 rfl o (wx.alloc (.cells (Xa monops).toArray 3)) (some ⟨wx.heap.size,0,none⟩) Ke (by decide));have CM2:=Qd (λ(wx:World)=>Ud monops 6 6 rfl o (wx.alloc (.cells (Xa monops).toArray 3)).drew (some ⟨wx.heap.size,0,none⟩) (show Lies (wx.alloc (.cells (Xa monops).toArray 3)).drew (wx.alloc (.cells (Xa monops).toArray 3)).heap.size _ _ from Ke.keep (λ_ _=>rfl)) (by decide));have CD2:=Qd (λ(wx:World)=>Ud dyops 4 4 rfl o (wx.alloc (.cells (Xa dyops).toArray 3)).drew (some ⟨wx.heap.size,0,none⟩) (show Lies (wx.alloc (.cells (Xa dyops).toArray 3)).drew (wx.alloc (.cells (Xa dyops).toArray 3)).heap.size _ _ from Ke.keep (λ_ _=>rfl)) (by decide));have CD:=Qd (λ(wx:World)=>Ud dyops 4 4 rfl o (wx.alloc (.cells (Xa dyops).toArray 3)) (some ⟨wx.heap.size,0,none⟩) Ke (by decide));have HDEF:Hid (Vh k o m nm t=((if k=1 then Rt.right nm else zero nm)&&(if k=2 then decide (t.length≤2048)&&t.all Gl.may else t.isEmpty)&&
  (if k=3∨k=13∨k=14∨k=15 then Ib m false else if k=18∨k=27 then Ib m true else m.isEmpty)&&
  (if k=6∨k=7∨k=16 then Bh o else if k=17 then glyph o else if k=21 then(o==0)||(o==1) else if k=22 then monops.contains o else if k=23 then dyops.contains o else o==0))):=Qd rfl
 have HPO:=Qd (Ps o);have HT0:Hid (((t.length:Int)==0)=t.isEmpty):=Qd (by cases t<;>rfl);obtain⟨me,hme⟩:∃b,b=m.isEmpty:=⟨_,rfl⟩;rw[←hme] at HDEF;have HM0:Hid (m.isEmpty=me):=Qd hme.symm;clear hme;obtain⟨b0,hb0⟩:∃b,(o==0)=b:=⟨_,rfl⟩;rw[hb0] at HDEF;generalize Vh k o m nm t=R at*;generalize Rt.right nm=rr at*;generalize zero nm=zz at*;generalize t.all Gl.may=ch at*;generalize Ib m false=nf at*;generalize Ib m true=nt at*;generalize Bh o=po at*;generalize glyph o=gl at*;generalize monops.contains o=mo at*;generalize dyops.contains o=dy at*;generalize t.isEmpty=te at*;have HWB:=Qd hWb;have HWS:Hid (w.heap.size≤W0.heap.size):=Qd (by omega);have HW:=Qd hW;obtain⟨q0,q1,q2,q3,q4,q5,q6,q7⟩:=H8.out W0 (Below.refl _ _);simp only[Nat.zero_add] at q0 q1 q2 q3 q4 q5 q6 q7;clear h hW hW8 HO HL HC HG hWb hko;go_enter Tryz.func63,Tryz.ntmps63
 go_upto_region 1 with fail
 rw[←HW.out];go_wp2_with fail
 refine SM.out.mono ?_;rintro e w2 ⟨rfl,hb2⟩;obtain⟨r0,r1,r2,r3,r4,r5,r6,r7⟩:=H8.out w2 hb2;simp only[Nat.zero_add] at r0 r1 r2 r3 r4 r5 r6 r7;have hwl2:w.heap.size<w2.heap.size:=Nat.lt_of_lt_of_le hWl hb2.size;clear q0 q1 q2 q3 q4 q5 q6 q7;go_upto_block 0 with fail
 go_cut [3,4,5,6] from 21 to 92 (λx3 x4 x5 x6 wx=>∃a b c d:Bool,x3= .bool a∧x4= .bool b∧x5= .bool c∧x6= .bool d∧Hid (R=(a&&b&&c&&d))∧Below W0.heap.size W0 wx)
 case rest=>
  obtain⟨a,b,c,d,rfl,rfl,rfl,rfl,HZ,hb⟩:=hcut;clear r0 r1 r2 r3 r4 r5 r6 r7;cases a
  ·go_wp2_with fail
   go_ret;exact⟨Aa (by rw[HZ.out];rfl),HWB.out.trans (hb.mono HWS.out)⟩
  cases b
  ·go_wp2_with fail
   go_ret;exact⟨Aa (by rw[HZ.out];rfl),HWB.out.trans (hb.mono HWS.out)⟩
  cases c
  ·go_wp2_with fail
   go_ret;exact⟨Aa (by rw[HZ.out];rfl),HWB.out.trans (hb.mono HWS.out)⟩
  cases d;all_goals
   go_wp2_with fail
   go_ret;exact⟨Aa (by rw[HZ.out];rfl),HWB.out.trans (hb.mono HWS.out)⟩
 case first=>
  by_cases k1:k=1
  ·subst k1
   go_wp2_with fail
   refine(RR.out w2 hb2).mono ?_;rintro e w3 ⟨rfl,hb3'⟩;have hb3:=hb2.trans (hb3'.mono hb2.size);go_wp2_with fail
   go_meet
   exact⟨_,_,_,_,rfl,rfl,rfl,rfl,Qd (by have e:=HDEF.out;simp(config:={decide:=true}) only[if_true,if_false] at e;rw[e];(try rw[HT0.out]);(try rw[HM0.out])),hb3⟩
  by_cases k2:k=2
  ·subst k2
   by_cases hlen:t.length≤2048
   ·have qlen:(t.length:Int)≤2048:=by omega
    go_wp2_with fail
    refine(CH.out w2 hb2).mono ?_;rintro e w3 ⟨rfl,rfl⟩;go_wp2_with fail
    go_meet
    exact⟨_,_,_,_,rfl,rfl,rfl,rfl,Qd (by have e:=HDEF.out;simp(config:={decide:=true}) only[if_true,if_false] at e;rw[e];(try rw[HT0.out]);(try rw[HM0.out]);rw[decide_eq_true hlen];(try simp)),hb2⟩
   have qlen:¬(t.length:Int)≤2048:=by omega
   go_wp2_with fail
   go_meet
   exact⟨_,_,_,_,rfl,rfl,rfl,rfl,Qd (by have e:=HDEF.out;simp(config:={decide:=true}) only[if_true,if_false] at e;rw[e];(try rw[HT0.out]);(try rw[HM0.out]);rw[decide_eq_false hlen];(try simp)),hb2⟩
  by_cases k3:k=3
  ·subst k3
   go_wp2_with fail
   refine(NMf.out w2).mono ?_;rintro e w3 ⟨rfl,rfl⟩;go_wp2_with fail
   go_meet
   exact⟨_,_,_,_,rfl,rfl,rfl,rfl,Qd (by have e:=HDEF.out;simp(config:={decide:=true}) only[if_true,if_false] at e;rw[e];(try rw[HT0.out]);(try rw[HM0.out])),hb2⟩
  by_cases k13:k=13
  ·subst k13
   go_wp2_with fail
   refine(NMf.out w2).mono ?_;rintro e w3 ⟨rfl,rfl⟩;go_wp2_with fail
   go_meet
   exact⟨_,_,_,_,rfl,rfl,rfl,rfl,Qd (by have e:=HDEF.out;simp(config:={decide:=true}) only[if_true,if_false] at e;rw[e];(try rw[HT0.out]);(try rw[HM0.out])),hb2⟩
  by_cases k14:k=14
  ·subst k14
   go_wp2_with fail
   refine(NMf.out w2).mono ?_;rintro e w3 ⟨rfl,rfl⟩;go_wp2_with fail
   go_meet
   exact⟨_,_,_,_,rfl,rfl,rfl,rfl,Qd (by have e:=HDEF.out;simp(config:={decide:=true}) only[if_true,if_false] at e;rw[e];(try rw[HT0.out]);(try rw[HM0.out])),hb2⟩
  by_cases k15:k=15
  ·subst k15
   go_wp2_with fail
   refine(NMf.out w2).mono ?_;rintro e w3 ⟨rfl,rfl⟩;go_wp2_with fail
   go_meet
   exact⟨_,_,_,_,rfl,rfl,rfl,rfl,Qd (by have e:=HDEF.out;simp(config:={decide:=true}) only[if_true,if_false] at e;rw[e];(try rw[HT0.out]);(try rw[HM0.out])),hb2⟩
  by_cases k18:k=18
  ·subst k18
   go_wp2_with fail
   refine(NMt.out w2).mono ?_;rintro e w3 ⟨rfl,rfl⟩;go_wp2_with fail
   go_meet
   exact⟨_,_,_,_,rfl,rfl,rfl,rfl,Qd (by have e:=HDEF.out;simp(config:={decide:=true}) only[if_true,if_false] at e;rw[e];(try rw[HT0.out]);(try rw[HM0.out])),hb2⟩
  by_cases k27:k=27
  ·subst k27
   go_wp2_with fail
   refine(NMt.out w2).mono ?_;rintro e w3 ⟨rfl,rfl⟩;go_wp2_with fail
   go_meet
   exact⟨_,_,_,_,rfl,rfl,rfl,rfl,Qd (by have e:=HDEF.out;simp(config:={decide:=true}) only[if_true,if_false] at e;rw[e];(try rw[HT0.out]);(try rw[HM0.out])),hb2⟩
  by_cases k6:k=6
  ·subst k6
   by_cases h1:0≤o
   ·by_cases h2:o<8
    ·have HP2:Hid (po=true):=Qd (by rw[HPO.out];exact decide_eq_true ⟨h1,h2⟩)
     go_wp2_with fail
     go_meet
     exact⟨_,_,_,_,rfl,rfl,rfl,rfl,Qd (by have e:=HDEF.out;simp(config:={decide:=true}) only[if_true,if_false] at e;rw[e];(try rw[HT0.out]);(try rw[HM0.out]);rw[HP2.out]),hb2⟩
    have HP2:Hid (po=false):=Qd (by rw[HPO.out];exact decide_eq_false (λh=>h2 h.2));go_wp2_with fail
    go_meet
    exact⟨_,_,_,_,rfl,rfl,rfl,rfl,Qd (by have e:=HDEF.out;simp(config:={decide:=true}) only[if_true,if_false] at e;rw[e];(try rw[HT0.out]);(try rw[HM0.out]);rw[HP2.out]),hb2⟩
   have HP2:Hid (po=false):=Qd (by rw[HPO.out];exact decide_eq_false (λh=>h1 h.1));go_wp2_with fail
   go_meet
   exact⟨_,_,_,_,rfl,rfl,rfl,rfl,Qd (by have e:=HDEF.out;simp(config:={decide:=true}) only[if_true,if_false] at e;rw[e];(try rw[HT0.out]);(try rw[HM0.out]);rw[HP2.out]),hb2⟩
  by_cases k7:k=7
  ·subst k7
   by_cases h1:0≤o
   ·by_cases h2:o<8
    ·have HP2:Hid (po=true):=Qd (by rw[HPO.out];exact decide_eq_true ⟨h1,h2⟩)
     go_wp2_with fail
     go_meet
     exact⟨_,_,_,_,rfl,rfl,rfl,rfl,Qd (by have e:=HDEF.out;simp(config:={decide:=true}) only[if_true,if_false] at e;rw[e];(try rw[HT0.out]);(try rw[HM0.out]);rw[HP2.out]),hb2⟩
    have HP2:Hid (po=false):=Qd (by rw[HPO.out];exact decide_eq_false (λh=>h2 h.2));go_wp2_with fail
    go_meet
    exact⟨_,_,_,_,rfl,rfl,rfl,rfl,Qd (by have e:=HDEF.out;simp(config:={decide:=true}) only[if_true,if_false] at e;rw[e];(try rw[HT0.out]);(try rw[HM0.out]);rw[HP2.out]),hb2⟩
   have HP2:Hid (po=false):=Qd (by rw[HPO.out];exact decide_eq_false (λh=>h1 h.1));go_wp2_with fail
   go_meet
   exact⟨_,_,_,_,rfl,rfl,rfl,rfl,Qd (by have e:=HDEF.out;simp(config:={decide:=true}) only[if_true,if_false] at e;rw[e];(try rw[HT0.out]);(try rw[HM0.out]);rw[HP2.out]),hb2⟩
  by_cases k16:k=16
  ·subst k16
   by_cases h1:0≤o
   ·by_cases h2:o<8
    ·have HP2:Hid (po=true):=Qd (by rw[HPO.out];exact decide_eq_true ⟨h1,h2⟩)
     go_wp2_with fail
     go_meet
     exact⟨_,_,_,_,rfl,rfl,rfl,rfl,Qd (by have e:=HDEF.out;simp(config:={decide:=true}) only[if_true,if_false] at e;rw[e];(try rw[HT0.out]);(try rw[HM0.out]);rw[HP2.out]),hb2⟩
    have HP2:Hid (po=false):=Qd (by rw[HPO.out];exact decide_eq_false (λh=>h2 h.2));go_wp2_with fail
    go_meet
    exact⟨_,_,_,_,rfl,rfl,rfl,rfl,Qd (by have e:=HDEF.out;simp(config:={decide:=true}) only[if_true,if_false] at e;rw[e];(try rw[HT0.out]);(try rw[HM0.out]);rw[HP2.out]),hb2⟩
   have HP2:Hid (po=false):=Qd (by rw[HPO.out];exact decide_eq_false (λh=>h1 h.1));go_wp2_with fail
   go_meet
   exact⟨_,_,_,_,rfl,rfl,rfl,rfl,Qd (by have e:=HDEF.out;simp(config:={decide:=true}) only[if_true,if_false] at e;rw[e];(try rw[HT0.out]);(try rw[HM0.out]);rw[HP2.out]),hb2⟩
  by_cases k17:k=17
  ·subst k17
   go_wp2_with fail
   refine(GL.out w2).mono ?_;rintro e w3 ⟨rfl,hb3'⟩;have hb3:=hb2.trans (hb3'.mono hb2.size);go_wp2_with fail
   go_meet
   exact⟨_,_,_,_,rfl,rfl,rfl,rfl,Qd (by have e:=HDEF.out;simp(config:={decide:=true}) only[if_true,if_false] at e;rw[e];(try rw[HT0.out]);(try rw[HM0.out])),hb3⟩
  by_cases k21:k=21
  ·subst k21
   cases b0
   ·cases e2:(o==1)
    all_goals
     go_wp2_with fail
     go_meet
     exact⟨_,_,_,_,rfl,rfl,rfl,rfl,Qd (by have e:=HDEF.out;simp(config:={decide:=true}) only[if_true,if_false] at e;rw[e];(try rw[HT0.out]);(try rw[HM0.out]);rw[e2];(try simp)),hb2⟩
   go_wp2_with fail
   go_meet
   exact⟨_,_,_,_,rfl,rfl,rfl,rfl,Qd (by have e:=HDEF.out;simp(config:={decide:=true}) only[if_true,if_false] at e;rw[e];(try rw[HT0.out]);(try rw[HM0.out]);(try simp)),hb2⟩
  by_cases k22:k=22
  ·subst k22
   go_wp2_with fail
   go_region_with (first|(go_at_call 108;refine(MO.out _).mono ?_;rintro e w3 ⟨rfl,rfl⟩) |(go_at_call 107;refine(CM.out _).mono ?_;rintro e w4 ⟨rfl,rfl⟩) |(go_at_call 107;refine(CM2.out _).mono ?_;rintro e w4 ⟨rfl,rfl⟩))
   all_goals
    go_wp2_with fail
    go_meet
    exact⟨_,_,_,_,rfl,rfl,rfl,rfl,Qd (by have e:=HDEF.out;simp(config:={decide:=true}) only[if_true,if_false] at e;rw[e];(try rw[HT0.out]);(try rw[HM0.out])),(by first|exact hb2.alloc hb2.size _ |exact Uf (hb2.alloc hb2.size _) |exact Uf (Uf (hb2.alloc hb2.size _)))⟩
  by_cases k23:k=23
  ·subst k23
   go_wp2_with fail
   go_region_with (first|(go_at_call 109;refine(DY.out _).mono ?_;rintro e w3 ⟨rfl,rfl⟩) |(go_at_call 107;refine(CD.out _).mono ?_;rintro e w4 ⟨rfl,rfl⟩) |(go_at_call 107;refine(CD2.out _).mono ?_;rintro e w4 ⟨rfl,rfl⟩))
   all_goals
    go_wp2_with fail
    go_meet
    exact⟨_,_,_,_,rfl,rfl,rfl,rfl,Qd (by have e:=HDEF.out;simp(config:={decide:=true}) only[if_true,if_false] at e;rw[e];(try rw[HT0.out]);(try rw[HM0.out])),(by first|exact hb2.alloc hb2.size _ |exact Uf (hb2.alloc hb2.size _) |exact Uf (Uf (hb2.alloc hb2.size _)))⟩
  have n1:(k==1)=false:=beq_eq_false_iff_ne.2 k1;have n2:(k==2)=false:=beq_eq_false_iff_ne.2 k2;have n3:(k==3)=false:=beq_eq_false_iff_ne.2 k3;have n13:(k==13)=false:=beq_eq_false_iff_ne.2 k13;have n14:(k==14)=false:=beq_eq_false_iff_ne.2 k14;have n15:(k==15)=false:=beq_eq_false_iff_ne.2 k15;have n18:(k==18)=false:=beq_eq_false_iff_ne.2 k18;have n27:(k==27)=false:=beq_eq_false_iff_ne.2 k27;have n6:(k==6)=false:=beq_eq_false_iff_ne.2 k6;have n7:(k==7)=false:=beq_eq_false_iff_ne.2 k7;have n16:(k==16)=false:=beq_eq_false_iff_ne.2 k16;have n17:(k==17)=false:=beq_eq_false_iff_ne.2 k17;have n21:(k==21)=false:=beq_eq_false_iff_ne.2 k21;have n22:(k==22)=false:=beq_eq_false_iff_ne.2 k22;have n23:(k==23)=false:=beq_eq_false_iff_ne.2 k23;have HZ:Hid (R=(zz&&te&&me&&b0)):=Qd (by rw[HDEF.out];simp only[k1,k2,k3,k13,k14,k15,k18,k27,k6,k7,k16,k17,k21,k22,k23,or_self,if_false]);clear k1 k2 k3 k13 k14 k15 k18 k27 k6 k7 k16 k17 k21 k22 k23;go_wp2_with fail
  go_meet
  exact⟨_,_,_,_,rfl,rfl,rfl,rfl,Qd (by rw[HZ.out];(try rw[HT0.out]);(try rw[HM0.out])),hb2⟩
end
section
open Go.RowKit Tr
def IntBox (w:World)(q n:Nat):Prop:=w.heap[q]? =some (.cells #[.int .i64 (n:Int)] 3 (0,0))
theorem IntBox.cell {w:World}{q n:Nat}(h:IntBox w q n):w.cell? ⟨q,0,none⟩=some (.int .i64 (n:Int)):=by unfold IntBox at h;simp[World.cell?,h]
theorem IntBox.frozen {w:World}{q n:Nat}(h:IntBox w q n):w.frozen? ⟨q,0,none⟩=false:=by unfold IntBox at h;simp[World.frozen?,h]
theorem IntBox.set {w:World}{q n:Nat}(h:IntBox w q n)(m:Nat):IntBox (w.setCell ⟨q,0,none⟩ (.int .i64 (m:Int))) q m:=by
 unfold IntBox at*;show(w.heap.modify q _)[q]? =_;rw[Array.getElem?_modify,if_pos rfl,h];rfl
theorem La {a b c:World}{r:Nat}(h:a.grownBy b (some r))(k:b.grownBy c (some r)):a.grownBy c (some r):=
 ⟨k.os.trans h.os,k.tape.trans h.tape,k.output.trans h.output,Nat.le_trans h.size k.size,λi hi hr=>(k.block i (Nat.lt_of_lt_of_le hi h.size) hr).trans (h.block i hi hr)⟩
theorem Ga {a b:World}(r:Nat)(h:Below a.heap.size a b):a.grownBy b (some r):=⟨h.os,h.tape,h.output,h.size,λk hk _=>h.block k hk⟩
theorem Caa {a b:World}{r:Nat}(h:a.grownBy b (some r))(v:Value):a.grownBy (b.setCell ⟨r,0,none⟩ v) (some r):=
 ⟨h.os,h.tape,h.output,by simpa using h.size,λk hk hr=>by
  rw[←h.block k hk hr];show(b.heap.modify r _)[k]? =_;rw[Array.getElem?_modify,if_neg (λe=>hr (by rw[e]))]⟩
theorem Y7 {a b:World}{r:Nat}(h:a.grownBy b (some r)){p:Addr}(hp:p.block<a.heap.size)(hr:p.block≠r):b.cell? p=a.cell? p:=by
 unfold World.cell?;rw[h.block _ hp (λe=>hr (by injection e))]
theorem IntBox.below {w w':World}{q n:Nat}(h:IntBox w q n)(hq:q<w.heap.size)(hb:Below w.heap.size w w'):IntBox w' q n:=(hb.block q hq).trans h
theorem E5 {l:List Da}{j:Nat}(h:j<l.length)(d q:Nat):Pf (l.drop j) d q=if(go l[j] d q).1 then Pf (l.drop (j+1)) d (go l[j] d q).2 else(false,(go l[j] d q).2):=by
 rw[List.drop_eq_getElem_cons h,Pf]
def F5 (w:World)(q:Nat)(r:Bool×Nat)(e:Ending)(w':World):Prop:=e= .returned (.bool r.1)∧IntBox w' q r.2∧w.grownBy w' (some q)
theorem Z7 {a:Da}{d q:Nat}(h:d=0∨q=0):go a d q=(false,q):=by cases a;rw[go,if_pos h]
theorem Daa {k o:Int}{m:List UInt8}{n:Rt.Nm}{t:List Int}{l:List Da}{d q:Nat}(h:¬(d=0∨q=0))(h1:one (.mk k o m n t l)=false):go (.mk k o m n t l) d q=(false,q-1):=by rw[go,if_neg h,if_neg (by rw[h1];simp)]
theorem A8 {k o:Int}{m:List UInt8}{n:Rt.Nm}{t:List Int}{l:List Da}{d q:Nat}(h:¬(d=0∨q=0))(h1:one (.mk k o m n t l)=true):go (.mk k o m n t l) d q=Pf l (d-1) (q-1):=by rw[go,if_neg h,if_pos h1]
mutual
theorem Hm:∀(a:Da) (d q:Nat),(go a d q).2≤q
 | .mk k o m n t l,d,q=>by
  unfold go
  split
  ·exact Nat.le_refl _
  split
  ·exact Nat.le_trans (Jp l _ _) (Nat.sub_le _ _)
  exact Nat.sub_le _ _
theorem Jp:∀(l:List Da) (d q:Nat),(Pf l d q).2≤q
 | [],d,q=>by unfold Pf;exact Nat.le_refl _
 |t::r,d,q=>by
  unfold Pf
  split
  ·exact Nat.le_trans (Jp r _ _) (Hm t _ _)
  exact Hm t _ _
end
theorem Ex (n:Nat):∀(a:Da) (vs:List Value) (d q c:Nat) (w:World) (B:Nat),SizeOf.sizeOf a<n→IsTree w B a vs→B≤q→q<w.heap.size→IntBox w q c→d≤40→c≤2048→
 Calls Tryz.prog 35 #[.agg vs.toArray,.int .i64 (d:Int),.pointer (some ⟨q,0,none⟩)] w (F5 w q (go a d c)):=by
 induction n with
 |zero=>intro a vs d q c w B h;omega
 |succ n ih=>
  intro a vs d q c w B hn h hBq hq hc hd hc2;have HEa:=D5 a vs;have MDa:=Z4 a vs;have hIA:=Zc h;have h':=h;obtain⟨k,o,m,nm,t,l⟩:=a;obtain⟨W,hW⟩:∃W,W=w.alloc (.cells vs.toArray 28):=⟨_,rfl⟩;obtain⟨A1,A2,A3,A4,c1,c2,c3,c4,us,HO,HL,HC,hW8,HG,hWl,hWb⟩:=Tb h hW;have hf4:=HO.out.f4.le (by omega);have HWB:=Qd hWb;have hcW:=hc.below hq hWb;have b0:=hcW.cell;have z0:=hcW.frozen;have HW:=Qd hW;by_cases h0:d=0∨c=0
  ·have HZ:Hid (go (.mk k o m nm t l) d c=(false,c)):=Qd (Z7 h0)
   have HCW:=Qd hcW;by_cases hd0:d=0
   ·have qd:((d:Int)==0)=true:=beq_iff_eq.2 (by omega)
    clear h hW hWb hn HEa MDa h' hIA hW8 HO h0 hd0;go_enter Tryz.func35,Tryz.ntmps35
    go_upto_region 1 with fail
    rw[←HW.out];go_wp2_with fail
    go_ret;exact⟨by rw[HZ.out];rfl,by rw[HZ.out];exact HCW.out,Ga q HWB.out⟩
   have qd:((d:Int)==0)=false:=beq_eq_false_iff_ne.2 (by omega);have qc:((c:Int)==0)=true:=beq_iff_eq.2 (by rcases h0 with h |h;exact absurd h hd0;omega);clear h hW hWb hn HEa MDa h' hIA hW8 HO h0 hd0;go_enter Tryz.func35,Tryz.ntmps35
   go_upto_region 1 with fail
   rw[←HW.out];go_wp2_with fail
   go_ret;exact⟨by rw[HZ.out];rfl,by rw[HZ.out];exact HCW.out,Ga q HWB.out⟩
  have qd:((d:Int)==0)=false:=beq_eq_false_iff_ne.2 (by omega);have qc:((c:Int)==0)=false:=beq_eq_false_iff_ne.2 (by omega);obtain⟨c',rfl⟩:∃c',c=c'+1:=⟨c-1,by omega⟩;obtain⟨W2,hW2⟩:∃W2,W2=W.setCell ⟨q,0,none⟩ (.int .i64 (c':Int)):=⟨_,rfl⟩;have hg2:w.grownBy W2 (some q):=by rw[hW2];exact Caa (Ga q hWb) _
  have hc2':IntBox W2 q c':=by rw[hW2];exact hcW.set c'
  have hs2:w.heap.size<W2.heap.size:=by rw[hW2];simpa using hWl
  have hq2:q<W2.heap.size:=by omega
  have hgb:∀wx,W2.grownBy wx (some q)→(∀p:Addr,p.block<B→wx.cell? p=w.cell? p):=λwx hx p hp=>Y7 (La hg2 hx) (by omega) (by omega);have HT2:Hid (∀wx,W2.grownBy wx (some q)→IsTree wx B (.mk k o m nm t l) vs):=Qd (λwx hx=>h'.keep (hgb wx hx) (Nat.le_refl _));have HGB:Hid (∀wx,W2.grownBy wx (some q)→∀p:Addr,p.block<B→wx.cell? p=w.cell? p):=Qd hgb;have HROW:Hid (∀wx,W2.grownBy wx (some q)→wx.heap[w.heap.size]? =some (.cells vs.toArray 28 (0,0))):=Qd (λwx hx=>by
   rw[hx.block _ hs2 (λe=>by injection e with e;omega)];rw[hW2];show(W.heap.modify q _)[w.heap.size]? =_;rw[Array.getElem?_modify,if_neg (by omega)];exact HG.out)
  have HQ7:Hid (∀wx,W2.grownBy wx (some q)→wx.cell? ⟨w.heap.size,7,none⟩=some (.slice A4 l.length c4)):=Qd (λwx hx=>by
   have e:=HROW.out wx hx;have e2:=hW8.p7;have e1:=HG.out;rw[←e2];simp only[World.cell?,e,e1])
  have HSZ:Hid (∀(i:Nat) (hi:i<l.length),SizeOf.sizeOf l[i]<n):=Qd (λi hi=>by have:=Ch (k:=k) (o:=o) (m:=m) (n:=nm) (t:=t) hi;omega);have HE1:=Qd (λ(wx:World) (hx:W2.grownBy wx (some q))=>HEa wx B (HT2.out wx hx) (by have:=hx.size;omega));have HM1:=Qd (λ(wx:World) (hx:W2.grownBy wx (some q))=>MDa wx B (HT2.out wx hx) (by have:=hx.size;omega));have HW2:=Qd hW2;have HG2:=Qd hg2;have HC2:=Qd hc2';have HIA:=Qd hIA;clear hW hW2 hg2 hc2' hgb HEa MDa hIA h' h hW8 HO;go_enter Tryz.func35,Tryz.ntmps35
  go_upto_region 1 with fail
  rw[←HW.out];go_upto_region 4 with fail
  rw[←HW2.out];have hgr:W2.grownBy W2 (some q):=⟨rfl,rfl,rfl,Nat.le_refl _,λ_ _ _=>rfl⟩;have HGR:=Qd hgr;have HONE:Hid (one (.mk k o m nm t l)=(Vh k o m nm t&&Dc k o (l.map kind))):=Qd rfl;have HGD:=Qd (@A8 k o m nm t l d (c'+1) h0);have HBD:=Qd (@Daa k o m nm t l d (c'+1) h0);generalize one (.mk k o m nm t l)=on at*;generalize go (.mk k o m nm t l) d (c'+1)=R at*;have H1:Hid (Calls Tryz.prog 63 #[.agg vs.toArray] W2 (Oa W2 (Vh k o m nm t))):=Qd (HE1.out W2 hgr);have H2:Hid (∀wx,W2.grownBy wx (some q)→Calls Tryz.prog 64 #[.agg vs.toArray] wx (Oa wx (Dc k o (l.map kind)))):=Qd (λwx hx=>HM1.out wx hx);generalize Vh k o m nm t=he at*;generalize Dc k o (l.map kind)=md at*;clear HE1 HM1 hgr;go_wp2_with (with_reducible refine Ua (.tmp 3) rfl rfl w.heap.size rfl (HROW.out _ HGR.out) HIA.out ?_)
  refine H1.out.mono ?_;rintro e w3 ⟨rfl,hb3⟩;have hg3:=Ga q hb3;cases he
  ·have HZ:Hid (R=(false,c')):=Qd (by rw[HBD.out (by rw[HONE.out];rfl)];rfl)
   have HC3:=Qd (HC2.out.below hq2 hb3);go_wp2_with fail
   go_ret;exact⟨by rw[HZ.out];rfl,by rw[HZ.out];exact HC3.out,La HG2.out hg3⟩
  go_wp2_with (refine Va (.tmp 3) rfl rfl w.heap.size rfl (HROW.out _ hg3) HIA.out ?_)
  refine(H2.out _ hg3).mono ?_;rintro e w4 ⟨rfl,hb4⟩;have hb5:=hb3.trans (hb4.mono hb3.size);have hg4:=Ga q hb5;have HC4:=Qd (HC2.out.below hq2 hb5);cases md
  ·have HZ:Hid (R=(false,c')):=Qd (by rw[HBD.out (by rw[HONE.out];rfl)];rfl)
   go_wp2_with fail
   go_ret;exact⟨by rw[HZ.out];rfl,by rw[HZ.out];exact HC4.out,La HG2.out hg4⟩
  have HZ:Hid (R=Pf l (d-1) c'):=Qd (by rw[HGD.out (by rw[HONE.out];rfl)];rfl);have q7:=HQ7.out w4 hg4;have hd1:1≤d:=by omega
  have HGW:=Qd hg4;clear H1 H2 HONE HGD HBD qc z0 b0;go_wp2_with fail
  go_loopw [33] (λi wr=>∃(j cc:Nat),j≤l.length∧i= .int .i64 j∧cc≤2048∧Hid (Pf (l.drop j) (d-1) cc=R)∧Hid (IntBox wr q cc)∧Hid (W2.grownBy wr (some q))) (λi _=>l.length-(intOf i).toNat)
  case atStart=>exact⟨0,c',Nat.zero_le _,rfl,by omega,Qd HZ.out.symm,HC4,HGW⟩
  case round=>
   clear q7 HC4 HGW hg4 hb5 hb4 hb3 hg3;obtain⟨j,cc,hj,rfl,hcc,HI,HCB,HGW⟩:=hrel;by_cases hlt:j<l.length
   ·obtain⟨b,off,tv,rfl,hb,HTR,HR⟩:=Nd HC.out HL.out (wr:=wr) (HGB.out wr HGW.out) hlt
    obtain⟨WB,hWB⟩:∃W,W=wr.alloc (.cells tv.toArray 28):=⟨_,rfl⟩;have hwb:Below wr.heap.size wr WB:=by rw[hWB];exact(Below.refl _ _).alloc (Nat.le_refl _) _
    have hqr:q<wr.heap.size:=Nat.lt_of_lt_of_le hq2 HGW.out.size;have HGB2:Hid (W2.grownBy WB (some q)):=Qd (La HGW.out (Ga q hwb));have HROWB:Hid (WB.heap[wr.heap.size]? =some (.cells tv.toArray 28 (0,0))):=Qd (by rw[hWB];exact heap_alloc_new wr _);have HIB:=Qd (Zc HTR.out);have HIL:=Qd (Ld HTR.out);have HS8:Hid (tv.toArray.size=8):=Qd (by rw[List.size_toArray,HTR.out.len]);have HON:=Qd (Us HTR.out);have q9:IntKind.i64.wrap ((d:Int)-1)=((d-1:Nat):Int):=by rw[show(d:Int)-1=((d-1:Nat):Int) by omega];exact IntWalk.i64_in _ (by omega)
    have IH:=Qd (ih l[j] tv (d-1) q cc WB B (HSZ.out j hlt) (HTR.out.keep (HGB.out WB HGB2.out) (Nat.le_refl _)) hBq (Nat.lt_of_lt_of_le hqr hwb.size) (HCB.out.below hqr hwb) (by omega) hcc);have HGD:=Qd (E5 hlt (d-1) cc);have HSM:=Qd (Hm l[j] (d-1) cc);have HWBB:=Qd hWB;generalize go l[j] (d-1) cc=r at*;obtain⟨r1,r2⟩:=r;clear hWB hwb HTR;go_upto_region 9 with(first
     |(with_reducible refine wpList_load_mid rfl 28 (.tmp 35) rfl b (off+j*8) rfl tv _ HR.out Tryz.underlying28 rfl HIL.out ?_)
     |(refine wpList_store_row rfl 28 (.tmp 8) (.tmp 36) rfl wr.heap.size tv.toArray rfl rfl 28 _ (heap_alloc_new wr _) HIB.out HS8.out.symm HON.out ?_;rw[World.setRow_alloc_new]))
    rw[←HWBB.out];go_wp2_with (with_reducible refine wpList_load_row rfl 28 (.tmp 8) rfl wr.heap.size rfl 28 tv.toArray (0,0) _ HROWB.out Tryz.underlying28 rfl HIB.out ?_)
    refine IH.out.mono ?_;rintro e w6 ⟨rfl,hc6,hg6⟩;have HC6:=Qd hc6;have HG6:=Qd (La HGB2.out hg6);have hr2:r2≤2048:=Nat.le_trans HSM.out hcc;clear hc6 hg6;cases r1
    ·have HE:Hid (R=(false,r2)):=Qd (by rw[←HI.out,HGD.out];rfl)
     go_wp2_with fail
     go_ret;exact⟨by rw[HE.out];rfl,by rw[HE.out];exact HC6.out,La HG2.out HG6.out⟩
    have HE:Hid (Pf (l.drop (j+1)) (d-1) r2=R):=Qd (by rw[←HI.out,HGD.out];rfl);go_wp2_with fail
    go_roundw
    case rel=>first
     |exact⟨j+1,r2,by omega,by go_num,hr2,HE,HC6,HG6⟩
     |exact⟨_,_,⟨j+1,r2,by omega,rfl,hr2,HE,HC6,HG6⟩,rfl,by go_num⟩
    case measure=>simp[intOf];omega
   have HE:Hid (R=(true,cc)):=Qd (by rw[←HI.out,List.drop_eq_nil_of_le (by omega),Pf]);go_wp2_with fail
   go_ret;exact⟨by rw[HE.out];rfl,by rw[HE.out];exact HCB.out,La HG2.out HGW.out⟩
theorem Fx (a:Da)(vs:List Value)(w:World)(B:Nat)(h:IsTree w B a vs)(hB:B≤w.heap.size):
 Calls Tryz.prog 20 #[.agg vs.toArray] w (Oa w (right a)):=by
 obtain⟨W,hW⟩:∃W,W=(w.alloc (.cells vs.toArray 28)).alloc (.cells #[.int .i64 2048] 3):=⟨_,rfl⟩;have hWb:Below w.heap.size w W:=by rw[hW];exact((Below.refl _ _).alloc (Nat.le_refl _) _).alloc (by simp) _
 have hWs:W.heap.size=w.heap.size+1+1:=by rw[hW];simp
 have HG:Hid (W.heap[w.heap.size]? =some (.cells vs.toArray 28 (0,0))):=Qd (by rw[hW];exact heap_alloc2_old _ _ _);have hbx:IntBox W (w.heap.size+1) 2048:=by unfold IntBox;rw[hW];exact heap_alloc2_new _ _ _
 have RT:=Qd (Ex _ a vs 40 (w.heap.size+1) 2048 W B (Nat.lt_succ_self _) (h.below (hWb.mono hB)) (by omega) (by omega) hbx (by omega) (by omega));have HR:=Qd (X2 a);have HIA:=Qd (Zc h);have HWB:=Qd hWb;have HWS:=Qd hWs;generalize go a 40 2048=r at*;obtain⟨r1,r2⟩:=r;have HW:=Qd hW;clear hW hWb hWs hbx h;go_enter Tryz.func20,Tryz.ntmps20
 go_upto_region 2 with fail
 rw[←HW.out];go_wp2_with (with_reducible refine Ua (.tmp 1) rfl rfl w.heap.size rfl HG.out HIA.out ?_)
 refine RT.out.mono ?_;rintro e w2 ⟨rfl,_,hg⟩;have HGG:=Qd hg;clear hg;go_wp2_with fail
 go_ret;refine⟨Aa HR.out,⟨HGG.out.os.trans HWB.out.os,HGG.out.tape.trans HWB.out.tape,HGG.out.output.trans HWB.out.output,Nat.le_trans HWB.out.size HGG.out.size,λk hk=>?_⟩⟩;rw[HGG.out.block k (by have:=HWS.out;omega) (λe=>by injection e with e;omega)];exact HWB.out.block k hk
end
section
open Go.RowKit Tr
theorem Me (b:Nat):Fits 0 0 b:=⟨Nat.le_refl _,by omega,by omega⟩
theorem Bd {k o:Int}(hk: -9223372036854775808≤k∧k≤9223372036854775807)(ho: -9223372036854775808≤o∧o≤9223372036854775807):Pd [k,o]:=by
 intro n hn;rcases List.mem_cons.1 hn with rfl |hn
 ·exact hk
 rw[List.mem_singleton.1 hn];exact ho
theorem I5 {w:World}{B:Nat}{k o:Int}{m:List UInt8}{len c:Nat}{A:Option Addr}(hk:Pd [k,o])(hm:m.length≤140737488355328)(hf:Fits len c 136):Own w B k o m Rt.none_ [] len none none none A 0 0 0 c:=
 ⟨hk,hm,Me _,Me _,Me _,hf,(λ_ h=>by cases h),(λ_ h=>by cases h),(λ_ h=>by cases h),.inl rfl,.inl rfl,.inl rfl,λ_=>rfl,λ_=>rfl⟩
theorem Fu {w:World}{B:Nat}{k o:Int}{m:List UInt8}{l:List Da}{us:List Value}{c:Nat}{A:Option Addr}(hk:Pd [k,o])(hm:m.length≤140737488355328)(hf:Fits l.length c 136)(hl:Lies w B A us)(hc:IsTrees w B l us):
 IsTree w B (Pr.node k o m l) (Hb k o m Rt.none_ [] l.length none none none A 0 0 0 c):=by
 unfold Pr.node;rw[IsTree];exact⟨none,none,none,A,0,0,0,c,us,rfl,I5 hk hm hf,hl,hc⟩
theorem Tz {w:World}{B:Nat}{a:Da}{vs:List Value}(h:IsTree w B a vs):IsTrees w B [a] vs:=by rw[IsTrees];exact⟨vs,[],by simp,h,by rw[IsTrees]⟩
end
section
open Go.RowKit Tr
structure RdAt (w0:World) (ts:List Tk.Tok) (A:Option Addr) (c rb:Nat) (i:Nat) (w:World):Prop where
 cells:w.heap[rb]? =some (.cells #[.slice A ts.length c,.int .i64 (i:Int)] 50 (0,0))
 old:Below w0.heap.size w0 w
 lo:w0.heap.size≤rb
 le:i≤ts.length
theorem RdAt.lt {w0:World}{ts:List Tk.Tok}{A:Option Addr}{c rb i:Nat}{w:World}(h:RdAt w0 ts A c rb i w):rb<w.heap.size:=(Array.getElem?_eq_some_iff.1 h.cells).1
theorem RdAt.below {w0:World}{ts:List Tk.Tok}{A:Option Addr}{c rb i:Nat}{w w':World}(h:RdAt w0 ts A c rb i w)(hb:Below w.heap.size w w'):RdAt w0 ts A c rb i w':=
 ⟨(hb.block rb h.lt).trans h.cells,h.old.trans (hb.mono h.old.size),h.lo,h.le⟩
theorem RdAt.c0 {w0:World}{ts:List Tk.Tok}{A:Option Addr}{c rb i:Nat}{w:World}(h:RdAt w0 ts A c rb i w):w.cell? ⟨rb,0,none⟩=some (.slice A ts.length c):=(cell_of_row w rb 0 _ _ _ h.cells).trans rfl
theorem RdAt.c1 {w0:World}{ts:List Tk.Tok}{A:Option Addr}{c rb i:Nat}{w:World}(h:RdAt w0 ts A c rb i w):w.cell? ⟨rb,1,none⟩=some (.int .i64 (i:Int)):=(cell_of_row w rb 1 _ _ _ h.cells).trans rfl
theorem RdAt.fz {w0:World}{ts:List Tk.Tok}{A:Option Addr}{c rb i:Nat}{w:World}(h:RdAt w0 ts A c rb i w)(o:Nat):w.frozen? ⟨rb,o,none⟩=false:=by
 simp[World.frozen?,h.cells]
class Vb where
 q:Nat
def Rn [Vb](v:Value)(n:Nat):Prop:=n=0∨∀a n' c,v= .slice (some a) n' c→a.block≠Vb.q
variable [Vb]
structure TokOk (t:Tk.Tok):Prop where
 s:t.s.length≤100000
 k:0≤t.kind∧t.kind≤7
 c: -9223372036854775808≤t.c∧t.c≤9223372036854775807
 l:Pd t.l
 ll:t.l.length≤100000
 o1:Nt.Ok t.n.top
 o2:Nt.Ok t.n.bot
 t1:t.n.top.length≤100000
 t2:t.n.bot.length≤100000
structure Cd (w0:World) (ts:List Tk.Tok) (A:Option Addr) (c:Nat):Prop where
 few:ts.length≤100000
 cap:ts.length≤c
 ok:∀(j:Nat) (hj:j<ts.length),TokOk ts[j]
 at_:∀(j:Nat) (hj:j<ts.length),∃g n1 n2 lv,A=some ⟨g,0,none⟩∧g<w0.heap.size∧w0.rangeAt g (j*8) (Fd ts[j].kind ts[j].n.neg n1 n2 lv ts[j].s ts[j].c ts[j].at_)∧IsRes w0 n1 ts[j].n.top∧IsRes w0 n2 ts[j].n.bot∧w0.ownsRow 0 3 1 lv ts[j].l.length (Xa ts[j].l)∧Rn n1 ts[j].n.top.length∧Rn n2 ts[j].n.bot.length∧Rn lv ts[j].l.length
theorem Uk {w0:World}{ts:List Tk.Tok}{A:Option Addr}{c rb i:Nat}{w:World}(hT:Cd w0 ts A c)(h:RdAt w0 ts A c rb i w){j:Nat}(hj:j<ts.length):
 ∃g n1 n2 lv,A=some ⟨g,0,none⟩∧g<w0.heap.size∧w.rangeAt g (j*8) (Fd ts[j].kind ts[j].n.neg n1 n2 lv ts[j].s ts[j].c ts[j].at_)∧IsRes w0 n1 ts[j].n.top∧IsRes w0 n2 ts[j].n.bot∧w0.ownsRow 0 3 1 lv ts[j].l.length (Xa ts[j].l):=by
 obtain⟨g,n1,n2,lv,e,hg,hr,k1,k2,k3,-⟩:=hT.at_ j hj;exact⟨g,n1,n2,lv,e,hg,λq v hv=>(h.old.cell (p:=⟨g,j*8+q,none⟩) hg).trans (hr q v hv),k1,k2,k3⟩
theorem Yg {ts:List Tk.Tok}{i n:Nat}:Pr.kd (ts.drop i) n=if h:i+n<ts.length then(ts[i+n]'h).kind else-1:=by
 unfold Pr.kd;rw[List.getElem?_drop];by_cases h:i+n<ts.length
 ·rw[dif_pos h,List.getElem?_eq_getElem h]
 rw[dif_neg h,List.getElem?_eq_none (by omega)]
theorem Hv {ts:List Tk.Tok}{i n:Nat}:Pr.gl (ts.drop i) n=if h:i+n<ts.length then(if(ts[i+n]'h).kind=7 then(ts[i+n]'h).c else 0) else 0:=by
 unfold Pr.gl;rw[Yg];by_cases h:i+n<ts.length
 ·rw[dif_pos h,dif_pos h,List.getD_eq_getElem?_getD,List.getElem?_drop,List.getElem?_eq_getElem h];rfl
 rw[dif_neg h,dif_neg h,if_neg (by decide)]
def Ni (w:World)(r:Int)(e:Ending)(w':World):Prop:=e= .returned (.int .i64 r)∧Below w.heap.size w w'
theorem Jo {a b:Int}(h:a=b):Ending.returned (.int .i64 a)= .returned (.int .i64 b):=by rw[h]
section
variable {w0 : World} {ts : List Tk.Tok} {A : Option Addr} {c rb : Nat}
theorem Bt (hT:Cd w0 ts A c)(i n:Nat)(w:World)(h:RdAt w0 ts A c rb i w)(hn:n≤10):
 Calls Tryz.prog 85 #[.pointer (some ⟨rb,0,none⟩),.int .i64 (n:Int)] w (Ni w (Pr.kd (ts.drop i) n)):=by
 have hle:=h.le;have hfew:=hT.few;have p0:=h.c0;have p1:=h.c1;have s0:(0:Int)≤(i:Int)+(n:Int):=by omega
 have sw:IntKind.i64.wrap ((i:Int)+(n:Int))=(i:Int)+(n:Int):=IntWalk.i64_in _ (by omega);have st:((i:Int)+(n:Int)).toNat=i+n:=by omega
 by_cases hlt:i+n<ts.length
 ·obtain⟨g,n1,n2,lv,rfl,hg,hr,-⟩:=Uk hT h hlt
  have HK:Hid (Pr.kd (ts.drop i) n=ts[i+n].kind):=Qd (by rw[Yg,dif_pos hlt]);have q0:w.cell? ⟨g,(i+n)*8,none⟩=some (.int .i64 ts[i+n].kind):=hr 0 _ rfl;have hge:¬((ts.length:Int)≤(i:Int)+(n:Int)):=by omega
  have hlt2:(i:Int)+(n:Int)<(ts.length:Int):=by omega
  generalize ts[i+n].kind=k at*;generalize Pr.kd (ts.drop i) n=R at*;clear h hr hT hlt;go_enter Tryz.func85,Tryz.ntmps85
  go_wp2_with fail
  go_quiet (fail)
  go_wp2_with fail
  go_quiet (fail)
  go_wp2_with fail
  go_ret;exact⟨Jo HK.out.symm,by simp[World.drewN_drewN]<;>exact Rb (Below.refl _ _) _⟩
 have HK:Hid (Pr.kd (ts.drop i) n= -1):=Qd (by rw[Yg,dif_neg hlt]);have hge:(ts.length:Int)≤(i:Int)+(n:Int):=by omega
 generalize Pr.kd (ts.drop i) n=R at*;clear h hT hlt;go_enter Tryz.func85,Tryz.ntmps85
 go_wp2_with fail
 go_quiet (fail)
 go_wp2_with fail
 go_ret;exact⟨Jo HK.out.symm,Rb (Below.refl _ _) _⟩
end
end
end Go.Proofs.YtceplkpjnebnfaaGreatDoor
