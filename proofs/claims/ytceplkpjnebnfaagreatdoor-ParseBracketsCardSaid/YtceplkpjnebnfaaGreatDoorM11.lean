/-
  Texts of this proof, joined (by wip/bin/bundle.py): RTok1, Tree5, Tree6, Tree7, RTok2, Tree8, Tree9, Tree12, Tree13.
-/
import Derived.Test.YtceplkpjnebnfaaGreatDoorM10
import Derived.Deep.CutRange
import Derived.Laws.EntriesVeiled
import Derived.Deep.WholeRow
set_option linter.all false
set_option maxHeartbeats 8000000
set_option maxRecDepth 100000
namespace Go.Proofs.YtceplkpjnebnfaaGreatDoor
section
open Go.RowKit
theorem Gp (A:Option Addr)(c:Nat)(l:List Int)(x:Int)(w:World)(hl:Lies w w.heap.size A (Xa l))(hn:l.length≤1000000):
 Calls Tryz.prog 132 #[.slice A l.length c,.int .i64 x] w λe w'=>e= .returned (.bool (decide (x∈l)))∧w=w':=by
 have HL:=Qd hl;clear hl;go_enter Tryz.func132,Tryz.ntmps132
 go_wp2_with fail
 go_loop [5] (λiv=>∃j:Nat,iv= .int .i64 (j:Int)∧j≤l.length∧Hid (x∉l.take j)) (λiv=>l.length-(intOf iv).toNat)
 case atStart=>exact⟨0,by go_num,Nat.zero_le _,Qd (by simp)⟩
 case round=>
  obtain⟨j,rfl,hj,HN⟩:=hrel;by_cases hlt:j<l.length
  ·obtain⟨b,off,rfl,hb,g0⟩:=Lb HL.out hlt
   by_cases e:l[j]=x
   ·have E:Hid (decide (x∈l)=true):=Qd (decide_eq_true (by rw[←e];exact List.getElem_mem hlt))
    rw[e] at g0;have q:(x==x)=true:=beq_self_eq_true x;go_wp2_with fail
    go_ret;exact⟨Aa E.out.symm,rfl⟩
   have HN2:Hid (x∉l.take (j+1)):=Qd (by
    rw[List.take_add_one,List.getElem?_eq_getElem hlt];simp only[Option.toList_some,List.mem_append,List.mem_singleton];rintro(h |h)
    ·exact HN.out h
    exact e h.symm)
   generalize l[j]=y at*;have q:(y==x)=false:=beq_eq_false_iff_ne.2 e;clear e;go_wp2_with fail
   go_round
   case rel=>exact⟨j+1,by go_num,hlt,HN2⟩
   case measure=>simp[intOf];omega
  have hme:j=l.length:=by omega
  have E:Hid (decide (x∈l)=false):=Qd (decide_eq_false (by have h:=HN.out;rw[hme,List.take_length] at h;exact h));go_wp2_with fail
  go_ret;exact⟨Aa E.out.symm,rfl⟩
theorem Hh (w:World):
 Calls Tryz.prog 174 #[] w λe w'=>∃A,e= .returned (.slice A (Tk.funs).length 39)∧Lies w' w'.heap.size A (Xa Tk.funs)∧Below w.heap.size w w':=by
 go_enter Tryz.func174,Tryz.ntmps174
 go_wp2_with fail
 go_ret;refine⟨_,rfl,.inr ⟨w.heap.size,0,rfl,by simp,λj v hv=>?_⟩,(Below.refl _ _).alloc (Nat.le_refl _) _⟩;rw[Nat.zero_add];rw[cell_of_row _ w.heap.size j _ _ _ (heap_alloc_new w _)];rw[List.getElem?_toArray];exact hv
theorem Fm (w:World):
 Calls Tryz.prog 175 #[] w λe w'=>∃A,e= .returned (.slice A (Tk.opers).length 10)∧Lies w' w'.heap.size A (Xa Tk.opers)∧Below w.heap.size w w':=by
 go_enter Tryz.func175,Tryz.ntmps175
 go_wp2_with fail
 go_ret;refine⟨_,rfl,.inr ⟨w.heap.size,0,rfl,by simp,λj v hv=>?_⟩,(Below.refl _ _).alloc (Nat.le_refl _) _⟩;rw[Nat.zero_add];rw[cell_of_row _ w.heap.size j _ _ _ (heap_alloc_new w _)];rw[List.getElem?_toArray];exact hv
theorem Qs (w:World):
 Calls Tryz.prog 176 #[] w λe w'=>∃A,e= .returned (.slice A (Tk.marks).length 17)∧Lies w' w'.heap.size A (Xa Tk.marks)∧Below w.heap.size w w':=by
 go_enter Tryz.func176,Tryz.ntmps176
 go_wp2_with fail
 go_ret;refine⟨_,rfl,.inr ⟨w.heap.size,0,rfl,by simp,λj v hv=>?_⟩,(Below.refl _ _).alloc (Nat.le_refl _) _⟩;rw[Nat.zero_add];rw[cell_of_row _ w.heap.size j _ _ _ (heap_alloc_new w _)];rw[List.getElem?_toArray];exact hv
theorem Gm (l:List Int)(x:Int)(A:Option Addr)(cc:Nat)(w w1:World)(hl:Lies w1 w1.heap.size A (Xa l))(hn:l.length≤1000000)(r:Bool)(hr:decide (x∈l)=r):
 Calls Tryz.prog 132 #[.slice A l.length cc,.int .i64 x] w1 λe w'=>e= .returned (.bool r)∧w1=w':=by
 subst hr;exact Gp A cc l x w1 hl hn
theorem Rs (c:Int)(w:World):
 Calls Tryz.prog 143 #[.int .i64 c] w λe w'=>e= .returned (.int .i64 (Tk.cls c))∧Below w.heap.size w w':=by
 have FF:=Qd (λwx=>Hh wx);have FO:=Qd (λwx=>Fm wx);have FM:=Qd (λwx=>Qs wx);by_cases h1:c=32∨c=9
 ·have E:Hid (Tk.cls c=1):=Qd (by unfold Tk.cls;rw[if_pos h1])
  rcases h1 with rfl |rfl
  all_goals
   go_enter Tryz.func143,Tryz.ntmps143
   go_wp2_with fail
   go_ret;exact⟨Wa E.out.symm,Below.refl _ _⟩
 have HN1:Hid (¬(c=32∨c=9)):=Qd h1;have q32:(c==32)=false:=beq_eq_false_iff_ne.2 (by omega);have q9:(c==9)=false:=beq_eq_false_iff_ne.2 (by omega);by_cases h2:97≤c∧c≤122∨65≤c∧c≤90∨c=95
 ·have E:Hid (Tk.cls c=2):=Qd (by unfold Tk.cls;rw[if_neg h1,if_pos h2])
  clear h1;by_cases k1:97≤c∧c≤122
  ·obtain⟨a1,a2⟩:=k1
   clear h2;go_enter Tryz.func143,Tryz.ntmps143
   go_wp2_with fail
   go_ret;exact⟨Wa E.out.symm,Below.refl _ _⟩
  by_cases k2:65≤c∧c≤90
  ·obtain⟨a1,a2⟩:=k2
   have a3:decide (97≤c)=false:=decide_eq_false (by omega);clear h2 k1;go_enter Tryz.func143,Tryz.ntmps143
   go_wp2_with fail
   go_ret;exact⟨Wa E.out.symm,Below.refl _ _⟩
  obtain rfl:c=95:=by omega
  clear h2 k1 k2;go_enter Tryz.func143,Tryz.ntmps143
  go_wp2_with fail
  go_ret;exact⟨Wa E.out.symm,Below.refl _ _⟩
 have HL:Hid (¬(97≤c∧c≤122∨65≤c∧c≤90∨c=95)):=Qd h2;by_cases h3:48≤c∧c≤57∨c=175
 ·have E:Hid (Tk.cls c=3):=Qd (by unfold Tk.cls;rw[if_neg h1,if_neg h2,if_pos h3])
  clear h1;by_cases k1:c=175
  ·subst k1
   clear h2 h3;go_enter Tryz.func143,Tryz.ntmps143
   go_wp2_with fail
   go_ret;exact⟨Wa E.out.symm,Below.refl _ _⟩
  obtain⟨a1,a2⟩:48≤c∧c≤57:=by omega
  have a3:decide (97≤c)=false:=decide_eq_false (by omega);have a4:decide (65≤c)=false:=decide_eq_false (by omega);have a5:(c==95)=false:=beq_eq_false_iff_ne.2 (by omega);clear h2 h3 k1;go_enter Tryz.func143,Tryz.ntmps143
  go_wp2_with fail
  go_ret;exact⟨Wa E.out.symm,Below.refl _ _⟩
 have HN3:Hid (¬(48≤c∧c≤57∨c=175)):=Qd h3;have a5:(c==95)=false:=beq_eq_false_iff_ne.2 (by omega);have a6:(c==175)=false:=beq_eq_false_iff_ne.2 (by omega);obtain⟨b1,b2,b3,b4,b5,b6,H0⟩:∃b1 b2 b3 b4 b5 b6:Bool,decide (97≤c)=b1∧decide (c≤122)=b2∧decide (65≤c)=b3∧decide (c≤90)=b4∧decide (48≤c)=b5∧decide (c≤57)=b6:=⟨_,_,_,_,_,_,rfl,rfl,rfl,rfl,rfl,rfl⟩;have HB:Hid ((b1&&b2)=false∧(b3&&b4)=false∧(b5&&b6)=false):=Qd (by
  obtain⟨e1,e2,e3,e4,e5,e6⟩:=H0;rw[←e1,←e2,←e3,←e4,←e5,←e6];simp only[←Bool.not_eq_true,Bool.and_eq_true,decide_eq_true_eq];omega)
 obtain⟨e1,e2,e3,e4,e5,e6⟩:=H0;clear h1 h2 h3;go_enter Tryz.func143,Tryz.ntmps143
 go_upto_region 3 with fail
 go_cut [26] from 9 (λx26 wx=>wx=w∧x26= .bool false)
 case first=>
  obtain⟨z1,z2,z3⟩:=HB.out;cases b1<;>cases b2<;>(try cases z1)<;>cases b3<;>cases b4<;>(try cases z2)
  all_goals
   go_wp2_with fail
   go_meet
   exact⟨rfl,rfl⟩
 case rest=>
  obtain⟨hwx,rfl⟩:=hcut;rw[hwx];clear hwx;go_upto_region 5 with fail
  go_cut [36] from 27 (λx36 wx=>wx=w∧x36= .bool false)
  case first=>
   obtain⟨z1,z2,z3⟩:=HB.out;cases b5<;>cases b6<;>(try cases z3)
   all_goals
    go_wp2_with fail
    go_meet
    exact⟨rfl,rfl⟩
  case rest=>
   obtain⟨hwx,rfl⟩:=hcut;rw[hwx];clear hwx e1 e2 e3 e4 e5 e6 a5 a6 q32 q9;have K0:Hid (Tk.cls c=if c∈Tk.funs then 4 else if c∈Tk.opers then 5 else if c∈Tk.marks then 6 else 0):=Qd (by unfold Tk.cls;rw[if_neg HN1.out,if_neg HL.out,if_neg HN3.out]);obtain⟨p1,hp1⟩:∃p,decide (c∈Tk.funs)=p:=⟨_,rfl⟩;obtain⟨p2,hp2⟩:∃p,decide (c∈Tk.opers)=p:=⟨_,rfl⟩;obtain⟨p3,hp3⟩:∃p,decide (c∈Tk.marks)=p:=⟨_,rfl⟩;have K1:Hid (Tk.cls c=if p1 then 4 else if p2 then 5 else if p3 then 6 else 0):=Qd (by rw[K0.out,←hp1,←hp2,←hp3];simp only[decide_eq_true_eq]);have P1:=Qd hp1;have P2:=Qd hp2;have P3:=Qd hp3;clear hp1 hp2 hp3;go_wp2_with fail
   refine(FF.out _).mono ?_;rintro e w1 ⟨A1,rfl,l1,hb1⟩;have I1:=Qd (Gm Tk.funs c A1 39 w w1 l1 (by decide) p1 P1.out);have B1:=Qd hb1;clear l1 hb1;go_wp2_with fail
   refine I1.out.mono ?_;rintro e w' ⟨rfl,rfl⟩;cases p1
   ·go_wp2_with fail
    refine(FO.out _).mono ?_;rintro e w2 ⟨A2,rfl,l2,hb2⟩;have I2:=Qd (Gm Tk.opers c A2 10 w w2 l2 (by decide) p2 P2.out);have B2:=Qd (B1.out.trans (hb2.mono B1.out.size));clear l2 hb2;go_wp2_with fail
    refine I2.out.mono ?_;rintro e w' ⟨rfl,rfl⟩;cases p2
    ·go_wp2_with fail
     refine(FM.out _).mono ?_;rintro e w3 ⟨A3,rfl,l3,hb3⟩;have I3:=Qd (Gm Tk.marks c A3 17 w w3 l3 (by decide) p3 P3.out);have B3:=Qd (B2.out.trans (hb3.mono B2.out.size));clear l3 hb3;go_wp2_with fail
     refine I3.out.mono ?_;rintro e w' ⟨rfl,rfl⟩;cases p3
     ·go_wp2_with fail
      go_ret;exact⟨Wa K1.out.symm,B3.out⟩
     go_wp2_with fail
     go_ret;exact⟨Wa K1.out.symm,B3.out⟩
    go_wp2_with fail
    go_ret;exact⟨Wa K1.out.symm,B2.out⟩
   go_wp2_with fail
   go_ret;exact⟨Wa K1.out.symm,B1.out⟩
theorem Rw (x:Int)(w:World):
 Calls Tryz.prog 59 #[.int .i64 x] w λe w'=>e= .returned (.bool (Gl.may x))∧w=w':=by
 obtain⟨b1,hb1⟩:∃b,decide (0≤x)=b:=⟨_,rfl⟩;obtain⟨b2,hb2⟩:∃b,decide (x≤1114111)=b:=⟨_,rfl⟩;obtain⟨b3,hb3⟩:∃b,decide (x<55296)=b:=⟨_,rfl⟩;obtain⟨b4,hb4⟩:∃b,decide (57343<x)=b:=⟨_,rfl⟩;have E:Hid (Gl.may x=(b1&&b2&&(b3||b4))):=Qd (by unfold Gl.may;rw[hb1,hb2,hb3,hb4]);go_enter Tryz.func59,Tryz.ntmps59
 cases b1<;>cases b2<;>cases b3<;>cases b4
 all_goals
  go_wp2_with fail
  go_ret;exact⟨Aa E.out.symm,rfl⟩
end
section
open Go.RowKit Tr
def nameAt (s:List UInt8)(i:Nat):Bool:=Jc (s.getD i 0)||(digit (s.getD i 0)&& !(i==0))
theorem Ln {s:List UInt8}{b:Bool}(h0:0<s.length)(h1:s.length≤16):Ib s b=((List.range s.length).all (nameAt s)&&(Yf s==b)):=by
 have e0:s.isEmpty=false:=by cases s with
  |nil=>simp at h0
  |cons _ _=>rfl
 unfold Ib;rw[e0,decide_eq_true h1,Bool.not_false,Bool.true_and,Bool.true_and]
 congr 1
 rw[Bool.eq_iff_iff,Bool.and_eq_true,List.all_eq_true,List.all_eq_true]
 constructor
 ·rintro⟨h2,h3⟩ i hi
  have hi:i<s.length:=by simpa using hi
  unfold nameAt;have h4:=h3 s[i] (List.getElem_mem hi);rw[List.getD_eq_getElem?_getD,List.getElem?_eq_getElem hi,Option.getD_some];by_cases hz:i=0
  ·subst hz
   rw[List.getD_eq_getElem?_getD,List.getElem?_eq_getElem hi,Option.getD_some] at h2;rw[h2];rfl
  rw[show(i==0)=false by simpa using hz,Bool.not_false,Bool.and_true];exact h4
 intro h2;refine⟨?_,λx hx=>?_⟩
 ·have:=h2 0 (by simpa using h0)
  unfold nameAt at this
  simpa using this
 obtain⟨i,hi,rfl⟩:=List.mem_iff_getElem.1 hx;have:=h2 i (by simpa using hi);unfold nameAt at this;rw[List.getD_eq_getElem?_getD,List.getElem?_eq_getElem hi,Option.getD_some] at this
 revert this
 cases Jc s[i]<;>cases digit s[i]<;>simp
theorem Pl {s:List UInt8}{b:Bool}(h:s.length=0):Ib s b=false:=by
 obtain rfl:=List.eq_nil_of_length_eq_zero h;rfl
theorem Mn {s:List UInt8}{b:Bool}(h:¬s.length≤16):Ib s b=false:=by
 unfold Ib;rw[decide_eq_false h];simp
theorem Hz {s:List UInt8}{b:Bool}(h0:0<s.length)(h1:s.length≤16){i:Nat}(hi:i<s.length)(h:nameAt s i=false):Ib s b=false:=by
 rw[Ln h0 h1,List.all_eq_false.2 ⟨i,by simpa using hi,by rw[h];simp⟩];rfl
theorem Sw {s:List UInt8}{b:Bool}(h0:0<s.length)(h1:s.length≤16)(h:∀i,i<s.length→nameAt s i=true):Ib s b=(Yf s==b):=by
 rw[Ln h0 h1,List.all_eq_true.2 (λi hi=>h i (by simpa using hi))];rfl
theorem Tw {s:List UInt8}{j:Nat}(hj:j<s.length):∃y:Nat,s[j].toNat=y∧y<256∧nameAt s j=((Tk.cls (y:Int)==2)||(decide (48≤y)&&decide (y≤57)&& !(j==0))):=by
 refine⟨s[j].toNat,rfl,UInt8.toNat_lt _,?_⟩;unfold nameAt Jc digit;rw[List.getD_eq_getElem?_getD,List.getElem?_eq_getElem hj,Option.getD_some]
theorem Ql {s:List UInt8}(h:0<s.length):∃y:Nat,(s[0]).toNat=y∧Yf s=(decide (65≤y)&&decide (y≤90)):=by
 refine⟨s[0].toNat,rfl,?_⟩;unfold Yf;rw[List.getD_eq_getElem?_getD,List.getElem?_eq_getElem h,Option.getD_some]
theorem Rg (s:List UInt8)(b:Bool)(w:World)(hs:s.length≤140737488355328):Calls Tryz.prog 92 #[.string ⟨s.toArray⟩,.bool b] w (Oa w (Ib s b)):=by
 have hsz:(⟨s.toArray⟩:ByteArray).size=s.length:=rfl;have CL:=Qd (λ(c:Int) (wx:World)=>Rs c wx);by_cases h0:s.length=0
 ·have HE:=Qd (Pl (b:=b) h0)
  generalize Ib s b=R at*;have q0:((s.length:Int)==0)=true:=beq_iff_eq.2 (by omega);clear h0;go_enter Tryz.func92,Tryz.ntmps92
  go_wp2_with fail
  go_ret;exact⟨Aa (by rw[HE.out]),Below.refl _ _⟩
 have q0:((s.length:Int)==0)=false:=beq_eq_false_iff_ne.2 (by omega);by_cases h1:s.length≤16
 ·have q1:¬(16:Int)<(s.length:Int):=by omega
  have NB:Hid (∀i,i<s.length→nameAt s i=false→Ib s b=false):=Qd (λi hi h=>Hz (by omega) h1 hi h);have NG:Hid ((∀i,i<s.length→nameAt s i=true)→Ib s b=(Yf s==b)):=Qd (λh=>Sw (by omega) h1 h);have NC:Hid (∀j (hj:j<s.length),∃y:Nat,s[j].toNat=y∧y<256∧nameAt s j=((Tk.cls (y:Int)==2)||(decide (48≤y)&&decide (y≤57)&& !(j==0)))):=Qd (λj hj=>Tw hj);have hpos:0<s.length:=by omega
  have NGR:=Qd (Ql hpos);generalize Ib s b=R at*;generalize Yf s=G at*;have HB0:Hid (Below w.heap.size w w):=Qd (Below.refl _ _);go_enter Tryz.func92,Tryz.ntmps92
  go_wp2_with fail
  go_loopw [5] (λi wr=>∃j:Nat,j≤s.length∧i= .int .i64 j∧Hid (∀i,i<j→nameAt s i=true)∧Below w.heap.size w wr) (λi _=>s.length-(intOf i).toNat)
  case atStart=>exact⟨0,Nat.zero_le _,rfl,Qd (λi hi=>by omega),HB0.out⟩
  case round=>
   obtain⟨j,hj,rfl,HI,hbel⟩:=hrel;by_cases hlt:j<s.length
   ·obtain⟨y,hy,hy2,hn⟩:=NC.out j hlt
    have hgy:((⟨s.toArray⟩:ByteArray)[j]'(show j<(⟨s.toArray⟩:ByteArray).size from hlt)).toNat=y:=hy;have C1:=Qd (CL.out (y:Int) wr);have HN:=Qd hn;have HS:Hid (nameAt s j=true→∀i,i<j+1→nameAt s i=true):=Qd (λh i hi=>by
     by_cases e:i=j
     ·subst e;exact h
     exact HI.out i (by omega))
    have HF:Hid (nameAt s j=false→R=false):=Qd (NB.out j hlt);generalize nameAt s j=nj at*;generalize Tk.cls (y:Int)=cv at*;clear hy hn NB NC;by_cases hc:cv=2
    ·have HN2:=Qd (HS.out (by rw[HN.out,show(cv==2)=true by simpa using hc];rfl))
     subst hc;by_cases g1:48≤y
     ·by_cases g2:y≤57
      all_goals
       go_wp2_with fail
       refine C1.out.mono ?_;rintro e w2 ⟨rfl,hb2⟩;go_wp2_with fail
       go_roundw
       case rel=>exact⟨j+1,by omega,by go_num,HN2,hbel.trans (hb2.mono hbel.size)⟩
       case measure=>simp[intOf];omega
     go_wp2_with fail
     refine C1.out.mono ?_;rintro e w2 ⟨rfl,hb2⟩;go_wp2_with fail
     go_roundw
     case rel=>exact⟨j+1,by omega,by go_num,HN2,hbel.trans (hb2.mono hbel.size)⟩
     case measure=>simp[intOf];omega
    have hc2:(cv !=2)=true:=bne_iff_ne.2 hc;have hc3:(cv==2)=false:=beq_eq_false_iff_ne.2 hc;rw[hc3] at HN;by_cases g1:48≤y
    ·by_cases g2:y≤57
     ·by_cases hj0:j=0
      ·have HZ:=Qd (HF.out (by rw[HN.out,hj0];simp))
       have qj:((j:Int)==0)=true:=beq_iff_eq.2 (by omega);clear hj0;go_wp2_with fail
       refine C1.out.mono ?_;rintro e w2 ⟨rfl,hb2⟩;go_wp2_with fail
       go_ret;exact⟨Aa (by rw[HZ.out]),hbel.trans (hb2.mono hbel.size)⟩
      have HN2:=Qd (HS.out (by rw[HN.out,decide_eq_true g1,decide_eq_true g2,show(j==0)=false by simpa using hj0];rfl));have qj:((j:Int)==0)=false:=beq_eq_false_iff_ne.2 (by omega);go_wp2_with fail
      refine C1.out.mono ?_;rintro e w2 ⟨rfl,hb2⟩;go_wp2_with fail
      go_roundw
      case rel=>exact⟨j+1,by omega,by go_num,HN2,hbel.trans (hb2.mono hbel.size)⟩
      case measure=>simp[intOf];omega
     have HZ:=Qd (HF.out (by rw[HN.out,decide_eq_false g2];simp));go_wp2_with fail
     refine C1.out.mono ?_;rintro e w2 ⟨rfl,hb2⟩;go_wp2_with fail
     go_ret;exact⟨Aa (by rw[HZ.out]),hbel.trans (hb2.mono hbel.size)⟩
    have HZ:=Qd (HF.out (by rw[HN.out,decide_eq_false g1];simp));go_wp2_with fail
    refine C1.out.mono ?_;rintro e w2 ⟨rfl,hb2⟩;go_wp2_with fail
    go_ret;exact⟨Aa (by rw[HZ.out]),hbel.trans (hb2.mono hbel.size)⟩
   have HZ:=Qd (NG.out (λi hi=>HI.out i (by omega)));obtain⟨y,hy,hgr⟩:=NGR.out;have hgy:((⟨s.toArray⟩:ByteArray)[0]'(show 0<(⟨s.toArray⟩:ByteArray).size from hpos)).toNat=y:=hy;have HGR:=Qd hgr;clear hy hgr NG NB NC CL HI NGR;by_cases g1:65≤y
   ·by_cases g2:y≤90
    all_goals
     cases b;all_goals
      go_wp2_with fail
      go_ret;exact⟨Aa (by rw[HZ.out,HGR.out];simp[*]<;>omega),hbel⟩
   cases b;all_goals
    go_wp2_with fail
    go_ret;exact⟨Aa (by rw[HZ.out,HGR.out];simp[*]<;>omega),hbel⟩
 have HE:=Qd (Mn (b:=b) h1);generalize Ib s b=R at*;have q1:(16:Int)<(s.length:Int):=by omega
 go_enter Tryz.func92,Tryz.ntmps92
 go_wp2_with fail
 go_ret;exact⟨Aa (by rw[HE.out]),Below.refl _ _⟩
theorem Uw {s:List UInt8}{b:Bool}(h0:0<s.length)(h:Jc (s[0]'h0)=false):Ib s b=false:=by
 unfold Ib;rw[show s.getD 0 0=s[0]'h0 by rw[List.getD_eq_getElem?_getD,List.getElem?_eq_getElem h0,Option.getD_some],h];simp
theorem Vw {s:List UInt8}{b:Bool}{i:Nat}(hi:i<s.length)(h:Jc s[i]=false)(h':digit s[i]=false):Ib s b=false:=by
 unfold Ib;rw[show s.all (λb=>Jc b||digit b)=false from List.all_eq_false.2 ⟨s[i],List.getElem_mem hi,by rw[h,h'];simp⟩];simp
theorem Zt {s:List UInt8}{b:Bool}(h0:0<s.length)(h1:s.length≤16)(h2:Jc (s[0]'h0)=true)(h:∀i (hi:i<s.length),(Jc s[i]||digit s[i])=true):Ib s b=(Yf s==b):=by
 unfold Ib;rw[show s.getD 0 0=s[0]'h0 by rw[List.getD_eq_getElem?_getD,List.getElem?_eq_getElem h0,Option.getD_some],h2,decide_eq_true h1,
  show s.all (λb=>Jc b||digit b)=true from List.all_eq_true.2 (λx hx=>by obtain⟨i,hi,rfl⟩:=List.mem_iff_getElem.1 hx;exact h i hi),
  show s.isEmpty=false by cases s with
   |nil=>simp at h0
   |cons _ _=>rfl]
 rfl
theorem Ww (x:UInt8):∃y:Nat,x.toNat=y∧y<256∧Jc x=(Tk.cls (y:Int)==2)∧digit x=(decide (48≤y)&&decide (y≤57)):=⟨_,rfl,UInt8.toNat_lt _,rfl,rfl⟩
theorem Hp (s:List UInt8)(b:Bool)(w:World)(hs:s.length≤140737488355328):Calls Tryz.prog 105 #[.string ⟨s.toArray⟩,.bool b] w (Bf w (Ib s b)):=by
 have hsz:(⟨s.toArray⟩:ByteArray).size=s.length:=rfl;have CL:=Qd (λ(c:Int) (wx:World)=>Bg c wx);by_cases h0:s.length=0
 ·have HE:=Qd (Pl (b:=b) h0)
  obtain rfl:=List.eq_nil_of_length_eq_zero h0;generalize Ib [] b=R at*;clear h0 hsz hs;go_enter Tryz.func105,Tryz.ntmps105
  go_wp2_with fail
  go_ret;exact⟨Aa (by rw[HE.out]),rfl⟩
 have q0:(s==([]:List UInt8))=false:=by cases s with
  |nil=>exact absurd rfl h0
  |cons _ _=>rfl
 by_cases h1:s.length≤16
 ·have q1:¬(16:Int)<(s.length:Int):=by omega
  have hpos:0<s.length:=by omega
  have NB:Hid (∀i (hi:i<s.length),Jc s[i]=false→digit s[i]=false→Ib s b=false):=Qd (λi hi h h'=>Vw hi h h');have NH:Hid (Jc (s[0]'hpos)=false→Ib s b=false):=Qd (λh=>Uw hpos h);have NG:Hid (Jc (s[0]'hpos)=true→(∀i (hi:i<s.length),(Jc s[i]||digit s[i])=true)→Ib s b=(Yf s==b)):=Qd (λh2 h=>Zt hpos h1 h2 h);have NGR:=Qd (Ql hpos);have NC:Hid (∀j (hj:j<s.length),∃y:Nat,s[j].toNat=y∧y<256∧Jc s[j]=(Tk.cls (y:Int)==2)∧digit s[j]=(decide (48≤y)&&decide (y≤57))):=Qd (λj hj=>Ww s[j]);generalize Ib s b=R at*;generalize Yf s=G at*;obtain⟨y0,hy0,hy02,hl0,_⟩:=NC.out 0 hpos;have hgy0:((⟨s.toArray⟩:ByteArray)[0]'(show 0<(⟨s.toArray⟩:ByteArray).size from hpos)).toNat=y0:=hy0;have C0:=Qd (CL.out (y0:Int) w);have HL0:=Qd hl0;generalize Tk.cls (y0:Int)=cv0 at*;clear hy0 hl0;by_cases hc0:cv0=2
  ·have hc1:(cv0 !=2)=false:=by rw[hc0];rfl
   have NG2:=Qd (NG.out (by rw[HL0.out,show(cv0==2)=true by simpa using hc0]));clear hc0 NG NH;go_enter Tryz.func105,Tryz.ntmps105
   go_wp2_with fail
   refine C0.out.mono ?_;rintro e w2 ⟨rfl,rfl⟩;go_wp2_with fail
   clear hgy0 C0 HL0;go_loopw [23] (λi wr=>∃j:Nat,j≤s.length∧i= .int .i64 j∧Hid (∀i (hi:i<s.length),i<j→(Jc s[i]||digit s[i])=true)∧w=wr) (λi _=>s.length-(intOf i).toNat)
   case atStart=>exact⟨0,Nat.zero_le _,rfl,Qd (λi hi h=>by omega),rfl⟩
   case round=>
    obtain⟨j,hj,rfl,HI,rfl⟩:=hrel;by_cases hlt:j<s.length
    ·obtain⟨y,hy,hy2,hl,hd⟩:=NC.out j hlt
     have hgy:((⟨s.toArray⟩:ByteArray)[j]'(show j<(⟨s.toArray⟩:ByteArray).size from hlt)).toNat=y:=hy;have C1:=Qd (CL.out (y:Int) w);have HS:Hid ((Jc s[j]||digit s[j])=true→∀i (hi:i<s.length),i<j+1→(Jc s[i]||digit s[i])=true):=Qd (λh i hi hij=>by
      by_cases e:i=j
      ·subst e;exact h
      exact HI.out i hi (by omega))
     have HF:Hid (Jc s[j]=false→digit s[j]=false→R=false):=Qd (NB.out j hlt);have HL:=Qd hl;have HD:=Qd hd;generalize Jc s[j]=lj at*;generalize digit s[j]=dj at*;generalize Tk.cls (y:Int)=cv at*;clear hy hl hd NB NC;by_cases hc:cv=2
     ·have HN2:=Qd (HS.out (by rw[HL.out,show(cv==2)=true by simpa using hc];rfl))
      subst hc;go_wp2_with fail
      refine C1.out.mono ?_;rintro e w2 ⟨rfl,rfl⟩;go_wp2_with fail
      go_roundw
      case rel=>exact⟨j+1,by omega,by go_num,HN2,by first|rfl |trivial⟩
      case measure=>simp[intOf];omega
     have hc2:(cv !=2)=true:=bne_iff_ne.2 hc;have hc3:(cv==2)=false:=beq_eq_false_iff_ne.2 hc;rw[hc3] at HL;by_cases g1:y<48
     ·have HZ:=Qd (HF.out HL.out (by rw[HD.out,decide_eq_false (by omega:¬48≤y)];rfl))
      go_wp2_with fail
      refine C1.out.mono ?_;rintro e w2 ⟨rfl,rfl⟩;go_wp2_with fail
      go_ret;exact⟨Aa (by rw[HZ.out]),rfl⟩
     by_cases g2:57<y
     ·have HZ:=Qd (HF.out HL.out (by rw[HD.out,decide_eq_false (by omega:¬y≤57)];simp))
      go_wp2_with fail
      refine C1.out.mono ?_;rintro e w2 ⟨rfl,rfl⟩;go_wp2_with fail
      go_ret;exact⟨Aa (by rw[HZ.out]),rfl⟩
     have HN2:=Qd (HS.out (by rw[HD.out,decide_eq_true (by omega:48≤y),decide_eq_true (by omega:y≤57)];simp));go_wp2_with fail
     refine C1.out.mono ?_;rintro e w2 ⟨rfl,rfl⟩;go_wp2_with fail
     go_roundw
     case rel=>exact⟨j+1,by omega,by go_num,HN2,by first|rfl |trivial⟩
     case measure=>simp[intOf];omega
    have HZ:=Qd (NG2.out (λi hi=>HI.out i hi (by omega)));obtain⟨y,hy,hgr⟩:=NGR.out;have hgy:((⟨s.toArray⟩:ByteArray)[0]'(show 0<(⟨s.toArray⟩:ByteArray).size from hpos)).toNat=y:=hy;have HGR:=Qd hgr;clear hy hgr NG2 NB NC CL HI NGR;by_cases g1:65≤y
    ·by_cases g2:y≤90
     all_goals
      cases b;all_goals
       go_wp2_with fail
       go_ret;exact⟨Aa (by rw[HZ.out,HGR.out];simp[*]<;>omega),rfl⟩
    cases b;all_goals
     go_wp2_with fail
     go_ret;exact⟨Aa (by rw[HZ.out,HGR.out];simp[*]<;>omega),rfl⟩
  have hc1:(cv0 !=2)=true:=bne_iff_ne.2 hc0;have HZ:=Qd (NH.out (by rw[HL0.out];exact beq_eq_false_iff_ne.2 hc0));go_enter Tryz.func105,Tryz.ntmps105
  go_wp2_with fail
  refine C0.out.mono ?_;rintro e w2 ⟨rfl,rfl⟩;go_wp2_with fail
  go_ret;exact⟨Aa (by rw[HZ.out]),rfl⟩
 have HE:=Qd (Mn (b:=b) h1);generalize Ib s b=R at*;have q1:(16:Int)<(s.length:Int):=by omega
 go_enter Tryz.func105,Tryz.ntmps105
 go_wp2_with fail
 go_ret;exact⟨Aa (by rw[HE.out]),rfl⟩
end
section
open Go.RowKit Tr
theorem Iz (o:Int)(m:List UInt8)(n:Rt.Nm)(t:List Int)(a b c d:Bool)(h1:decide (o=0)=a)(h2:decide (m=[])=b)(h3:zero n=c)(h4:decide (t=[])=d):
 Eb o m n t=(if a then 0 else 1)+(if b then 0 else 2)+(if c then 0 else 4)+(if d then 0 else 8):=by
 subst h1 h2 h3 h4;unfold Eb;simp only[decide_eq_true_eq]
theorem S4 (n:Rt.Nm)(h1:n.neg=false)(h2:n.top.length=0)(h3:n.bot.length=0):zero n=true:=by
 unfold zero;rw[h1,List.eq_nil_of_length_eq_zero h2,List.eq_nil_of_length_eq_zero h3];rfl
theorem U4 (n:Rt.Nm)(h1:n.neg=true):zero n=false:=by unfold zero;rw[h1];rfl
theorem V4 (n:Rt.Nm)(h:0<n.top.length+n.bot.length):zero n=false:=by
 unfold zero;cases ht:n.top with
 |nil=>
  cases hb:n.bot with
  |nil=>rw[ht,hb] at h;simp at h
  |cons _ _=>simp
 |cons _ _=>simp
theorem Ih (a:Da)(vs:List Value)(w:World)(B:Nat)(h:IsTree w B a vs)(hB:B≤w.heap.size):
 Calls Tryz.prog 90 #[.agg vs.toArray] w (Gh w (Eb (op a) (Zb a) (Ii a) (text a))):=by
 obtain⟨k,o,m,nm,t,l⟩:=a;obtain⟨W,hW⟩:∃W,W=w.alloc (.cells vs.toArray 28):=⟨_,rfl⟩;obtain⟨A1,A2,A3,A4,c1,c2,c3,c4,us,HO,HL,HC,hW8,HG,hWl,hWb⟩:=Tb h hW;have hf1:=HO.out.f1.le (by omega);have hf2:=HO.out.f2.le (by omega);have hf3:=HO.out.f3.le (by omega);have hms:=HO.out.ms;have q1:W.cell? ⟨w.heap.size,1,none⟩=some (.int .i64 o):=hW8.p1;have q2:W.cell? ⟨w.heap.size,2,none⟩=some (.string ⟨m.toArray⟩):=hW8.p2;have q3:W.cell? ⟨w.heap.size,3,none⟩=some (.bool nm.neg):=hW8.p3;have q4:W.cell? ⟨w.heap.size,4,none⟩=some (.slice A1 nm.top.length c1):=hW8.p4;have q5:W.cell? ⟨w.heap.size,5,none⟩=some (.slice A2 nm.bot.length c2):=hW8.p5;have q6:W.cell? ⟨w.heap.size,6,none⟩=some (.slice A3 t.length c3):=hW8.p6;have HWB:=Qd hWb;have HW:=Qd hW;have HF:=Qd (Iz o m nm t);have Z1:=Qd (S4 nm);have Z2:=Qd (U4 nm);have Z3:=Qd (V4 nm);show Calls _ _ _ _ (Gh w (Eb o m nm t));obtain⟨ng,tp,bt⟩:=nm;dsimp only at*;generalize Eb o m ⟨ng,tp,bt⟩ t=R at*;clear h hW hW8 HO HL HC HG hWb;have e1:∀b:Bool,decide (o=0)=b→(o !=0)= !b:=λb hb=>by subst hb;by_cases h:o=0<;>simp[h]
 have e4:∀b:Bool,decide (t=[])=b→decide ((0:Int)<(t.length:Int))= !b:=λb hb=>by subst hb;cases t<;>simp
 cases ha:decide (o=0);all_goals
  have p1:=e1 _ ha;cases hd:decide (t=[]);all_goals
   have p4:=e4 _ hd;cases hb:decide (m=[]);all_goals
    have p2:(m==([]:List UInt8))=decide (m=[]):=by cases m<;>rfl
    rw[hb] at p2;have p3:(m !=([]:List UInt8))= !decide (m=[]):=by cases m<;>rfl
    rw[hb] at p3;simp only[Bool.not_true,Bool.not_false,decide_eq_true_eq,decide_eq_false_iff_not] at p1 p4;cases ng
    ·by_cases hz:0<tp.length+bt.length
     ·have HR:=Qd (HF.out _ _ _ _ ha hb (Z3.out hz) hd)
      have hz2:(0:Int)<(tp.length:Int)+(bt.length:Int):=by omega
      clear e1 e4;go_enter Tryz.func90,Tryz.ntmps90
      go_upto_region 1 with fail
      rw[←HW.out];go_wp2_with fail
      go_ret;exact⟨Wa (by rw[HR.out];rfl),HWB.out⟩
     have HR:=Qd (HF.out _ _ _ _ ha hb (Z1.out rfl (by omega) (by omega)) hd);have hz2:¬(0:Int)<(tp.length:Int)+(bt.length:Int):=by omega
     clear e1 e4;go_enter Tryz.func90,Tryz.ntmps90
     go_upto_region 1 with fail
     rw[←HW.out];go_wp2_with fail
     go_ret;exact⟨Wa (by rw[HR.out];rfl),HWB.out⟩
    have HR:=Qd (HF.out _ _ _ _ ha hb (Z2.out rfl) hd);clear e1 e4;go_enter Tryz.func90,Tryz.ntmps90
    go_upto_region 1 with fail
    rw[←HW.out];go_wp2_with fail
    go_ret;exact⟨Wa (by rw[HR.out];rfl),HWB.out⟩
end
section
open Go.RowKit Tr
theorem Jz {l:List Da}{s:List UInt8}{more:Bool}{i:Nat}(hi:i<l.length)(h:Yb (at_ s i) (kind l[i])=false):Ya (l.map kind) s more=false:=by
 unfold Ya
 split
 ·rfl
 refine List.all_eq_false.2 ⟨i,by simpa using hi,?_⟩;rw[List.getD_eq_getElem?_getD,List.getElem?_map,List.getElem?_eq_getElem hi];show¬Yb (at_ s i) (kind l[i])=true;rw[h];simp
theorem Xw {l:List Da}{s:List UInt8}{more:Bool}(hl:¬(l.length<s.length∨(s.length<l.length∧more=false)))(h:∀i (hi:i<l.length),Yb (at_ s i) (kind l[i])=true):Ya (l.map kind) s more=true:=by
 unfold Ya;rw[List.length_map,if_neg hl];refine List.all_eq_true.2 λi hi=>?_;have hi:i<l.length:=by simpa using hi
 rw[List.getD_eq_getElem?_getD,List.getElem?_map,List.getElem?_eq_getElem hi];exact h i hi
theorem Kz {l:List Da}{s:List UInt8}{more:Bool}(hl:l.length<s.length∨(s.length<l.length∧more=false)):Ya (l.map kind) s more=false:=by
 unfold Ya;rw[List.length_map,if_pos hl]
theorem Aaa {s:List UInt8}(hs:0<s.length)(i:Nat):at_ s i∈s:=by
 unfold at_
 split
 ·next h=>rw[List.getD_eq_getElem?_getD,List.getElem?_eq_getElem h];exact List.getElem_mem h
 rw[List.getD_eq_getElem?_getD,List.getElem?_eq_getElem (by omega)];exact List.getElem_mem _
theorem Hd (a:Da)(vs:List Value)(s:List UInt8)(more:Bool)(w:World)(B:Nat)(h:IsTree w B a vs)(hB:B≤w.heap.size)(h0:0<s.length)(h3:s.length≤3)(hm:∀c∈s,c=97∨c=102∨c=112∨c=120):
 Calls Tryz.prog 91 #[.agg vs.toArray,.string ⟨s.toArray⟩,.bool more] w (Oa w (Ya ((Be a).map kind) s more)):=by
 obtain⟨k,o,m,nm,t,l⟩:=a;show Calls _ _ _ _ (Oa w (Ya (l.map kind) s more));obtain⟨W,hW⟩:∃W,W=w.alloc (.cells vs.toArray 28):=⟨_,rfl⟩;obtain⟨A1,A2,A3,A4,c1,c2,c3,c4,us,HO,HL,HC,hW8,HG,hWl,hWb⟩:=Tb h hW;have hf4:=HO.out.f4.le (by omega);have q7:W.cell? ⟨w.heap.size,7,none⟩=some (.slice A4 l.length c4):=hW8.p7;have HQ:=Qd q7;have HKB:Hid (∀wx,Below W.heap.size W wx→∀p:Addr,p.block<B→wx.cell? p=w.cell? p):=Qd (λwx hx p hp=>by rw[hx.cell (by omega),hWb.cell (by omega)]);have HWB:=Qd hWb;have HWS:Hid (w.heap.size≤W.heap.size):=Qd (by omega);have HW:=Qd hW;have hsz:(⟨s.toArray⟩:ByteArray).size=s.length:=rfl;have KL:=Qd (@Kz l s more);have KB:Hid (∀i (hi:i<l.length),Yb (at_ s i) (kind l[i])=false→Ya (l.map kind) s more=false):=Qd (λi hi h=>Jz hi h);have KG:=Qd (@Xw l s more);have HAM:Hid (∀i,at_ s i=97∨at_ s i=102∨at_ s i=112∨at_ s i=120):=Qd (λi=>hm _ (Aaa h0 i));have HA1:Hid (∀i (hi:i<s.length),(s[i]).toNat=(at_ s i).toNat):=Qd (λi hi=>by unfold at_;rw[if_pos hi,List.getD_eq_getElem?_getD,List.getElem?_eq_getElem hi];rfl);have HA2:Hid (∀i,¬i<s.length→(s[s.length-1]'(by omega)).toNat=(at_ s i).toNat):=Qd (λi hi=>by unfold at_;rw[if_neg hi,List.getD_eq_getElem?_getD,List.getElem?_eq_getElem (by omega)];rfl);have KID:=Qd (λ(k:Int) (c:UInt8) (wx:World) hc=>Gz k c wx hc);generalize Ya (l.map kind) s more=R at*;clear h hW hW8 HO HG hWb hm;by_cases hb:l.length<s.length
 ·have HZ:=Qd (KL.out (.inl hb))
  clear HQ HKB HAM HA1 HA2 KID KB KG KL;go_enter Tryz.func91,Tryz.ntmps91
  go_upto_region 1 with fail
  rw[←HW.out];go_wp2_with fail
  go_ret;exact⟨Aa (by rw[HZ.out]),HWB.out⟩
 by_cases hb2:s.length<l.length∧more=false
 ·have HZ:=Qd (KL.out (.inr hb2))
  obtain⟨hb3,rfl⟩:=hb2;clear HQ HKB HAM HA1 HA2 KID KB KG KL;go_enter Tryz.func91,Tryz.ntmps91
  go_upto_region 1 with fail
  rw[←HW.out];go_wp2_with fail
  go_ret;exact⟨Aa (by rw[HZ.out]),HWB.out⟩
 have KG2:=Qd (KG.out (λh=>h.elim hb hb2));clear KG KL;have hp1:(0:Int)≤(s.length:Int)-1:=by omega
 have hp2:(s.length:Int)-1<(s.length:Int):=by omega
 have hp3:((s.length:Int)-1).toNat=s.length-1:=by omega
 have hx:(s.length<l.length∧more=true)∨¬s.length<l.length:=by
  cases more
  ·exact .inr (λh=>hb2 ⟨h,rfl⟩)
  by_cases h:s.length<l.length
  ·exact .inl ⟨h,rfl⟩
  exact .inr h
 have go:∀(mo:Bool),(s.length<l.length∧mo=true)∨¬s.length<l.length→Calls Tryz.prog 91 #[.agg vs.toArray,.string ⟨s.toArray⟩,.bool mo] w (Oa w R):=by
  intro mo hmo;rcases hmo with⟨h1,rfl⟩ |h1
  all_goals
   go_enter Tryz.func91,Tryz.ntmps91
   go_upto_region 1 with fail
   rw[←HW.out];go_wp2_with fail
   go_loopw [7] (λi wr=>∃(j:Nat),j≤l.length∧i= .int .i64 j∧Hid (∀i (hi:i<l.length),i<j→Yb (at_ s i) (kind l[i])=true)∧Below W.heap.size W wr) (λi _=>l.length-(intOf i).toNat)
   case atStart=>exact⟨0,Nat.zero_le _,rfl,Qd (λi hi h=>by omega),Below.refl _ _⟩
   case round=>
    obtain⟨j,hj,rfl,HI,hbel⟩:=hrel;have hbox:wr.cell? ⟨w.heap.size,7,none⟩=some (.slice A4 l.length c4):=(hbel.cell (p:=⟨w.heap.size,7,none⟩) hWl).trans HQ.out;by_cases hlt:j<l.length
    ·obtain⟨b,off,B1,B2,B3,B4,e1,e2,e3,e4,rfl,hb,HT,h8⟩:=Wg HC.out HL.out (HKB.out wr hbel) hlt
     have g0:wr.cell? ⟨b,off+j*8,none⟩=some (.int .i64 (kind l[j])):=h8.p0;have K1:=Qd (KID.out (kind l[j]) (at_ s j) wr (HAM.out j));have HS:Hid (Yb (at_ s j) (kind l[j])=true→∀i (hi:i<l.length),i<j+1→Yb (at_ s i) (kind l[i])=true):=Qd (λh i hi hij=>by
      by_cases e:i=j
      ·subst e;exact h
      exact HI.out i hi (by omega))
     have HF:=Qd (KB.out j hlt);have hlast:((⟨s.toArray⟩:ByteArray)[s.length-1]'(show s.length-1<(⟨s.toArray⟩:ByteArray).size from(by omega:s.length-1<s.length))).toNat=(s[s.length-1]'(by omega)).toNat:=rfl;clear h8 HT;generalize Yb (at_ s j) (kind l[j])=r at*;generalize kind l[j]=kj at*;by_cases hjs:j<s.length
     ·have hgy:((⟨s.toArray⟩:ByteArray)[j]'(show j<(⟨s.toArray⟩:ByteArray).size from hjs)).toNat=(at_ s j).toNat:=HA1.out j hjs
      generalize(s[s.length-1]'(by omega)).toNat=z at*;generalize(at_ s j).toNat=y2 at*;cases r
      ·have HZ:=Qd (HF.out rfl)
       go_wp2_with fail
       refine K1.out.mono ?_;rintro e w2 ⟨rfl,rfl⟩;go_wp2_with fail
       go_ret;exact⟨Aa (by rw[HZ.out]),HWB.out.trans (hbel.mono HWS.out)⟩
      have HN:=Qd (HS.out rfl);go_wp2_with fail
      refine K1.out.mono ?_;rintro e w2 ⟨rfl,rfl⟩;go_wp2_with fail
      go_roundw
      case rel=>exact⟨j+1,by omega,by go_num,HN,hbel⟩
      case measure=>simp[intOf];omega
     have hcon:s.length<l.length:=by omega
     first
      |exact absurd hcon h1
      |(
       have hgz:(s[s.length-1]'(by omega)).toNat=(at_ s j).toNat:=HA2.out j hjs;rw[hgz] at hlast;clear hgz;generalize(at_ s j).toNat=y2 at*;cases r
       ·have HZ:=Qd (HF.out rfl)
        go_wp2_with fail
        refine K1.out.mono ?_;rintro e w2 ⟨rfl,rfl⟩;go_wp2_with fail
        go_ret;exact⟨Aa (by rw[HZ.out]),HWB.out.trans (hbel.mono HWS.out)⟩
       have HN:=Qd (HS.out rfl);go_wp2_with fail
       refine K1.out.mono ?_;rintro e w2 ⟨rfl,rfl⟩;go_wp2_with fail
       go_roundw
       case rel=>exact⟨j+1,by omega,by go_num,HN,hbel⟩
       case measure=>simp[intOf];omega)
    have HZ:=Qd (KG2.out (λi hi=>HI.out i hi (by omega)));go_wp2_with fail
    go_ret;exact⟨Aa (by rw[HZ.out]),HWB.out.trans (hbel.mono HWS.out)⟩
 exact go more hx
end
section
open Go.RowKit
end
section
open Go.RowKit Tr
def Ig (b:Bool)(k:Int):Bool:=array k||(k==27)||(b&&((k==25)||(k==26)))
theorem Eo {l:List Da}{b:Bool}{i:Nat}(hi:i<l.length)(h:Ig b (kind l[i])=false):Ac (l.map kind) b=false:=by
 unfold Ac;rw[show(l.map kind).all (λx=>array x||(x==27)||(b&&((x==25)||(x==26))))=false from List.all_eq_false.2 ⟨kind l[i],List.mem_map_of_mem (List.getElem_mem hi),by rw[show(array (kind l[i])||(kind l[i]==27)||(b&&((kind l[i]==25)||(kind l[i]==26))))=false from h];simp⟩];rfl
theorem Nn {l:List Da}{b:Bool}(h:∀i (hi:i<l.length),Ig b (kind l[i])=true):Ac (l.map kind) b=decide (0<l.length):=by
 unfold Ac;rw[show(l.map kind).all (λx=>array x||(x==27)||(b&&((x==25)||(x==26))))=true from List.all_eq_true.2 (λx hx=>by
  obtain⟨a,ha,rfl⟩:=List.mem_map.1 hx;obtain⟨i,hi,rfl⟩:=List.mem_iff_getElem.1 ha;exact h i hi)]
 cases l<;>simp
theorem Jh (a:Da)(vs:List Value)(br:Bool)(w:World)(B:Nat)(h:IsTree w B a vs)(hB:B≤w.heap.size):
 Calls Tryz.prog 94 #[.agg vs.toArray,.bool br] w (Oa w (Ac ((Be a).map kind) br)):=by
 obtain⟨k,o,m,nm,t,l⟩:=a;show Calls _ _ _ _ (Oa w (Ac (l.map kind) br));obtain⟨W,hW⟩:∃W,W=w.alloc (.cells vs.toArray 28):=⟨_,rfl⟩;obtain⟨A1,A2,A3,A4,c1,c2,c3,c4,us,HO,HL,HC,hW8,HG,hWl,hWb⟩:=Tb h hW;have hf4:=HO.out.f4.le (by omega);have q7:W.cell? ⟨w.heap.size,7,none⟩=some (.slice A4 l.length c4):=hW8.p7;have HQ:=Qd q7;have HKB:Hid (∀wx,Below W.heap.size W wx→∀p:Addr,p.block<B→wx.cell? p=w.cell? p):=Qd (λwx hx p hp=>by rw[hx.cell (by omega),hWb.cell (by omega)]);have HWB:=Qd hWb;have HWS:Hid (w.heap.size≤W.heap.size):=Qd (by omega);have HW:=Qd hW;have KB:Hid (∀i (hi:i<l.length),Ig br (kind l[i])=false→Ac (l.map kind) br=false):=Qd (λi hi h=>Eo hi h);have KG:=Qd (@Nn l br);have AR:=Qd (λ(k:Int) (wx:World)=>Zh k wx);generalize Ac (l.map kind) br=R at*;clear h hW hW8 HO HG hWb;go_enter Tryz.func94,Tryz.ntmps94
 go_upto_region 1 with fail
 rw[←HW.out];go_wp2_with fail
 go_loopw [5] (λi wr=>∃(j:Nat),j≤l.length∧i= .int .i64 j∧Hid (∀i (hi:i<l.length),i<j→Ig br (kind l[i])=true)∧Below W.heap.size W wr) (λi _=>l.length-(intOf i).toNat)
 case atStart=>exact⟨0,Nat.zero_le _,rfl,Qd (λi hi h=>by omega),Below.refl _ _⟩
 case round=>
  obtain⟨j,hj,rfl,HI,hbel⟩:=hrel;have hbox:wr.cell? ⟨w.heap.size,7,none⟩=some (.slice A4 l.length c4):=(hbel.cell (p:=⟨w.heap.size,7,none⟩) hWl).trans HQ.out;by_cases hlt:j<l.length
  ·obtain⟨b,off,B1,B2,B3,B4,e1,e2,e3,e4,rfl,hb,HT,h8⟩:=Wg HC.out HL.out (HKB.out wr hbel) hlt
   have g0:wr.cell? ⟨b,off+j*8,none⟩=some (.int .i64 (kind l[j])):=h8.p0;have K1:=Qd (AR.out (kind l[j]) wr);have HS:Hid (Ig br (kind l[j])=true→∀i (hi:i<l.length),i<j+1→Ig br (kind l[i])=true):=Qd (λh i hi hij=>by
    by_cases e:i=j
    ·subst e;exact h
    exact HI.out i hi (by omega))
   have HF:=Qd (KB.out j hlt);have HE:Hid (Ig br (kind l[j])=(array (kind l[j])||(kind l[j]==27)||(br&&((kind l[j]==25)||(kind l[j]==26))))):=Qd rfl;clear h8 HT;generalize Ig br (kind l[j])=r at*;generalize array (kind l[j])=x at*;generalize kind l[j]=kj at*;have hcase:r=true∨r=false:=by cases r<;>simp
   have q27:(kj !=27)= !(kj==27):=rfl;cases x
   ·by_cases h27:kj=27
    ·have HN:=Qd (HS.out (by rw[HE.out,show(kj==27)=true by simpa using h27];simp))
     rw[show(kj==27)=true by simpa using h27,Bool.not_true] at q27;clear h27;go_wp2_with fail
     refine K1.out.mono ?_;rintro e w2 ⟨rfl,rfl⟩;go_wp2_with fail
     go_roundw
     case rel=>exact⟨j+1,by omega,by go_num,HN,hbel⟩
     case measure=>simp[intOf];omega
    have p27:(kj==27)=false:=by simpa using h27
    rw[p27] at HE;rw[p27,Bool.not_false] at q27;cases br
    ·have HZ:=Qd (HF.out (by rw[HE.out];rfl))
     go_wp2_with fail
     refine K1.out.mono ?_;rintro e w2 ⟨rfl,rfl⟩;go_wp2_with fail
     go_ret;exact⟨Aa (by rw[HZ.out]),HWB.out.trans (hbel.mono HWS.out)⟩
    cases h25:(kj==25)
    ·cases h26:(kj==26)
     ·have HZ:=Qd (HF.out (by rw[HE.out,h25,h26];rfl))
      go_wp2_with fail
      refine K1.out.mono ?_;rintro e w2 ⟨rfl,rfl⟩;go_wp2_with fail
      go_ret;exact⟨Aa (by rw[HZ.out]),HWB.out.trans (hbel.mono HWS.out)⟩
     have HN:=Qd (HS.out (by rw[HE.out,h25,h26];rfl));go_wp2_with fail
     refine K1.out.mono ?_;rintro e w2 ⟨rfl,rfl⟩;go_wp2_with fail
     go_roundw
     case rel=>exact⟨j+1,by omega,by go_num,HN,hbel⟩
     case measure=>simp[intOf];omega
    have HN:=Qd (HS.out (by rw[HE.out,h25];rfl));go_wp2_with fail
    refine K1.out.mono ?_;rintro e w2 ⟨rfl,rfl⟩;go_wp2_with fail
    go_roundw
    case rel=>exact⟨j+1,by omega,by go_num,HN,hbel⟩
    case measure=>simp[intOf];omega
   have HN:=Qd (HS.out (by rw[HE.out];simp));go_wp2_with fail
   refine K1.out.mono ?_;rintro e w2 ⟨rfl,rfl⟩;go_wp2_with fail
   go_roundw
   case rel=>exact⟨j+1,by omega,by go_num,HN,hbel⟩
   case measure=>simp[intOf];omega
  have HZ:=Qd (KG.out (λi hi=>HI.out i hi (by omega)));by_cases hl0:0<l.length
  ·have ql:(0:Int)<(l.length:Int):=by omega
   go_wp2_with fail
   go_ret;exact⟨Aa (by rw[HZ.out,decide_eq_true hl0]),HWB.out.trans (hbel.mono HWS.out)⟩
  have ql:¬(0:Int)<(l.length:Int):=by omega
  go_wp2_with fail
  go_ret;exact⟨Aa (by rw[HZ.out,decide_eq_false hl0]),HWB.out.trans (hbel.mono HWS.out)⟩
theorem Au (A:Option Addr)(c:Nat)(l:List Int)(w:World)(B:Nat)(hl:Lies w B A (Xa l))(hn:l.length≤17592186044416):
 Calls Tryz.prog 149 #[.slice A l.length c] w (Bf w (l.all Gl.may)):=by
 have HL:=Qd hl;have MY:=Qd (λ(x:Int) (wx:World)=>Rw x wx);have KB:Hid (∀i (hi:i<l.length),Gl.may l[i]=false→l.all Gl.may=false):=Qd (λi hi h=>List.all_eq_false.2 ⟨l[i],List.getElem_mem hi,by rw[h];simp⟩);have KG:Hid ((∀i (hi:i<l.length),Gl.may l[i]=true)→l.all Gl.may=true):=Qd (λh=>List.all_eq_true.2 (λx hx=>by obtain⟨i,hi,rfl⟩:=List.mem_iff_getElem.1 hx;exact h i hi));generalize l.all Gl.may=R at*;clear hl;go_enter Tryz.func149,Tryz.ntmps149
 go_wp2_with fail
 go_loopw [3] (λi wr=>∃(j:Nat),j≤l.length∧i= .int .i64 j∧Hid (∀i (hi:i<l.length),i<j→Gl.may l[i]=true)∧w=wr) (λi _=>l.length-(intOf i).toNat)
 case atStart=>exact⟨0,Nat.zero_le _,rfl,Qd (λi hi h=>by omega),rfl⟩
 case round=>
  obtain⟨j,hj,rfl,HI,rfl⟩:=hrel;by_cases hlt:j<l.length
  ·obtain⟨b,off,rfl,hb,g0⟩:=Lb HL.out hlt
   have M1:=Qd (MY.out l[j] w);have HS:Hid (Gl.may l[j]=true→∀i (hi:i<l.length),i<j+1→Gl.may l[i]=true):=Qd (λh i hi hij=>by
    by_cases e:i=j
    ·subst e;exact h
    exact HI.out i hi (by omega))
   have HF:=Qd (KB.out j hlt);generalize Gl.may l[j]=r at*;generalize l[j]=x at*;cases r
   ·have HZ:=Qd (HF.out rfl)
    go_wp2_with fail
    refine M1.out.mono ?_;rintro e w2 ⟨rfl,rfl⟩;go_wp2_with fail
    go_ret;exact⟨Aa (by rw[HZ.out]),rfl⟩
   have HN:=Qd (HS.out rfl);go_wp2_with fail
   refine M1.out.mono ?_;rintro e w2 ⟨rfl,rfl⟩;go_wp2_with fail
   go_roundw
   case rel=>exact⟨j+1,by omega,by go_num,HN,by first|rfl |trivial⟩
   case measure=>simp[intOf];omega
  have HZ:=Qd (KG.out (λi hi=>HI.out i hi (by omega)));go_wp2_with fail
  go_ret;exact⟨Aa (by rw[HZ.out]),rfl⟩
def Gv (w:World)(l:List Int)(n:Nat)(e:Ending)(w':World):Prop:=∃A,e= .returned (.slice A l.length n)∧Lies w' w'.heap.size A (Xa l)∧Below w.heap.size w w'
theorem Sj (w:World):Calls Tryz.prog 144 #[] w (Gv w monops 6):=by
 go_enter Tryz.func144,Tryz.ntmps144
 go_wp2_with fail
 go_ret;refine⟨_,rfl,.inr ⟨w.heap.size,0,rfl,by simp,λj v hv=>?_⟩,(Below.refl _ _).alloc (Nat.le_refl _) _⟩;rw[Nat.zero_add];rw[cell_of_row _ w.heap.size j _ _ _ (heap_alloc_new w _)];rw[List.getElem?_toArray];exact hv
theorem Kh (w:World):Calls Tryz.prog 145 #[] w (Gv w dyops 4):=by
 go_enter Tryz.func145,Tryz.ntmps145
 go_wp2_with fail
 go_ret;refine⟨_,rfl,.inr ⟨w.heap.size,0,rfl,by simp,λj v hv=>?_⟩,(Below.refl _ _).alloc (Nat.le_refl _) _⟩;rw[Nat.zero_add];rw[cell_of_row _ w.heap.size j _ _ _ (heap_alloc_new w _)];rw[List.getElem?_toArray];exact hv
end
section
open Go.RowKit Tr
namespace T9
def slotsL:List Value→Nat→Value
 | [],_=>undef
 |v::_,0=>v
 |_::l,n+1=>slotsL l n
end T9
open T9
theorem Baa (l:List Int)(x:Int):decide (x∈l)=l.contains x:=by rw[Bool.eq_iff_iff,decide_eq_true_eq,List.contains_iff_mem]
theorem Nf {w w':World}{A:Option Addr}{vs:List Value}(h:Lies w w.heap.size A vs)(hb:Below w.heap.size w w'):Lies w' w'.heap.size A vs:=(h.keep (λ_ hp=>hb.cell hp)).more hb.size
theorem Je (A:Option Addr)(n:Nat)(l:List Int)(x:Int)(w:World)(hl:Lies w w.heap.size A (Xa l))(hn:l.length≤1000000):
 Calls Tryz.prog 132 #[.slice A l.length n,.int .i64 x] w (Bf w (l.contains x)):=by
 rw[←Baa];exact Gp A n l x w hl hn
def Xc (s0 s1 s3 s4 s5 s6 s7 s8 s9 s18 s19 s20 s21 s22 s23 s24 s25 s26 s27 s28 s29 s30 s31 s32 s33 s34 s35 s36 s37 s38 s39 s40 s41 s42 s43 s44 s45 s46 s47 s48 s49 s50 s51 s52 s53 s54 s55 s56 s57 s58:Value)(xs:Nat→Value):Act:={tmps:= #[s0,s1,xs 8,s3,s4,s5,s6,s7,s8,s9,xs 0,xs 1,xs 2,xs 3,xs 4,xs 5,xs 6,xs 7,s18,s19,s20,s21,s22,s23,s24,s25,s26,s27,s28,s29,s30,s31,s32,s33,s34,s35,s36,s37,s38,s39,s40,s41,s42,s43,s44,s45,s46,s47,s48,s49,s50,s51,s52,s53,s54,s55,s56,s57,s58],defers:=[]}
def N7 (g:Nat)(k o:Int)(vs:List Value)(A4:Option Addr)(n4 c4:Nat)(K:Bool)(k0:Int)(F:Bool):Nat→World→Value→Prop
 | 0,w,v=>∃A,v= .slice A monops.length 6∧Lies w w.heap.size A (Xa monops)
 | 1,w,v=>v= .pointer (some ⟨g,1,none⟩)
 | 2,w,v=>v= .int .i64 o
 | 3,w,v=>v= .bool true
 | 4,w,v=>v= .bool true
 | 5,w,v=>v= .agg vs.toArray
 | 6,w,v=>v= .bool K
 | 7,w,v=>v= .bool K
 |_,w,v=>v= .bool K
def Yc (s0 s1 s3 s4 s5 s6 s7 s8 s9 s18 s19 s20 s21 s22 s23 s24 s25 s26 s27 s28 s29 s30 s31 s32 s33 s34 s35 s36 s37 s38 s39 s40 s41 s42 s43 s44 s45 s46 s47 s48 s49 s50 s51 s52 s53 s54 s55 s56 s57 s58:Value)(xs:Nat→Value):Act:={tmps:= #[s0,s1,xs 8,s3,s4,s5,s6,s7,s8,s9,xs 0,xs 1,xs 2,xs 3,xs 4,xs 5,xs 6,xs 7,s18,s19,s20,s21,s22,s23,s24,s25,s26,s27,s28,s29,s30,s31,s32,s33,s34,s35,s36,s37,s38,s39,s40,s41,s42,s43,s44,s45,s46,s47,s48,s49,s50,s51,s52,s53,s54,s55,s56,s57,s58],defers:=[]}
def O7 (g:Nat)(k o:Int)(vs:List Value)(A4:Option Addr)(n4 c4:Nat)(K:Bool)(k0:Int)(F:Bool):Nat→World→Value→Prop
 | 0,w,v=>∃A,v= .slice A monops.length 6∧Lies w w.heap.size A (Xa monops)
 | 1,w,v=>v= .pointer (some ⟨g,1,none⟩)
 | 2,w,v=>v= .int .i64 o
 | 3,w,v=>v= .bool false
 | 4,w,v=>v= .bool false
 | 5,w,v=>v=undef
 | 6,w,v=>v=undef
 | 7,w,v=>v= .bool false
 |_,w,v=>v= .bool false
def Bb (s0 s1 s2 s3 s4 s5 s6 s7 s8 s9 s10 s11 s12 s13 s14 s15 s16 s17 s38 s39 s40 s41 s42 s43 s44 s45 s46 s47 s48 s49 s50 s51 s52 s53 s54 s55 s56 s57 s58:Value)(xs:Nat→Value):Act:={tmps:= #[s0,s1,s2,s3,s4,s5,s6,s7,s8,s9,s10,s11,s12,s13,s14,s15,s16,s17,xs 0,xs 1,xs 2,xs 3,xs 4,xs 5,xs 6,xs 7,xs 8,xs 9,xs 10,xs 11,xs 12,xs 13,xs 14,xs 15,xs 16,xs 17,xs 18,xs 19,s38,s39,s40,s41,s42,s43,s44,s45,s46,s47,s48,s49,s50,s51,s52,s53,s54,s55,s56,s57,s58],defers:=[]}
def Q7 (g:Nat)(k o:Int)(vs:List Value)(A4:Option Addr)(n4 c4:Nat)(K:Bool)(k0:Int)(F:Bool):Nat→World→Value→Prop
 | 0,w,v=>∃A,v= .slice A dyops.length 4∧Lies w w.heap.size A (Xa dyops)
 | 1,w,v=>v= .pointer (some ⟨g,1,none⟩)
 | 2,w,v=>v= .int .i64 o
 | 3,w,v=>v= .bool false
 | 4,w,v=>v= .bool true
 | 5,w,v=>v= .bool true
 | 6,w,v=>v=undef
 | 7,w,v=>v=undef
 | 8,w,v=>v=undef
 | 9,w,v=>v=undef
 | 10,w,v=>v= .bool true
 | 11,w,v=>v= .bool true
 | 12,w,v=>v=undef
 | 13,w,v=>v=undef
 | 14,w,v=>v=undef
 | 15,w,v=>v=undef
 | 16,w,v=>v=undef
 | 17,w,v=>v=undef
 | 18,w,v=>v=undef
 |_,w,v=>v= .bool true
def Cb (s0 s1 s2 s3 s4 s5 s6 s7 s8 s9 s10 s11 s12 s13 s14 s15 s16 s17 s38 s39 s40 s41 s42 s43 s44 s45 s46 s47 s48 s49 s50 s51 s52 s53 s54 s55 s56 s57 s58:Value)(xs:Nat→Value):Act:={tmps:= #[s0,s1,s2,s3,s4,s5,s6,s7,s8,s9,s10,s11,s12,s13,s14,s15,s16,s17,xs 0,xs 1,xs 2,xs 3,xs 4,xs 5,xs 6,xs 7,xs 8,xs 9,xs 10,xs 11,xs 12,xs 13,xs 14,xs 15,xs 16,xs 17,xs 18,xs 19,s38,s39,s40,s41,s42,s43,s44,s45,s46,s47,s48,s49,s50,s51,s52,s53,s54,s55,s56,s57,s58],defers:=[]}
def R7 (g:Nat)(k o:Int)(vs:List Value)(A4:Option Addr)(n4 c4:Nat)(K:Bool)(k0:Int)(F:Bool):Nat→World→Value→Prop
 | 0,w,v=>∃A,v= .slice A dyops.length 4∧Lies w w.heap.size A (Xa dyops)
 | 1,w,v=>v= .pointer (some ⟨g,1,none⟩)
 | 2,w,v=>v= .int .i64 o
 | 3,w,v=>v= .bool true
 | 4,w,v=>v= .bool false
 | 5,w,v=>v= .bool false
 | 6,w,v=>v= .pointer (some ⟨g,7,none⟩)
 | 7,w,v=>v= .slice A4 n4 c4
 | 8,w,v=>v= .int .i64 (n4:Int)
 | 9,w,v=>v= .bool true
 | 10,w,v=>v= .bool true
 | 11,w,v=>v= .bool true
 | 12,w,v=>v=undef
 | 13,w,v=>v=undef
 | 14,w,v=>v=undef
 | 15,w,v=>v=undef
 | 16,w,v=>v=undef
 | 17,w,v=>v=undef
 | 18,w,v=>v=undef
 |_,w,v=>v= .bool true
def Db (s0 s1 s2 s3 s4 s5 s6 s7 s8 s9 s10 s11 s12 s13 s14 s15 s16 s17 s38 s39 s40 s41 s42 s43 s44 s45 s46 s47 s48 s49 s50 s51 s52 s53 s54 s55 s56 s57 s58:Value)(xs:Nat→Value):Act:={tmps:= #[s0,s1,s2,s3,s4,s5,s6,s7,s8,s9,s10,s11,s12,s13,s14,s15,s16,s17,xs 0,xs 1,xs 2,xs 3,xs 4,xs 5,xs 6,xs 7,xs 8,xs 9,xs 10,xs 11,xs 12,xs 13,xs 14,xs 15,xs 16,xs 17,xs 18,xs 19,s38,s39,s40,s41,s42,s43,s44,s45,s46,s47,s48,s49,s50,s51,s52,s53,s54,s55,s56,s57,s58],defers:=[]}
def S7 (g:Nat)(k o:Int)(vs:List Value)(A4:Option Addr)(n4 c4:Nat)(K:Bool)(k0:Int)(F:Bool):Nat→World→Value→Prop
 | 0,w,v=>∃A,v= .slice A dyops.length 4∧Lies w w.heap.size A (Xa dyops)
 | 1,w,v=>v= .pointer (some ⟨g,1,none⟩)
 | 2,w,v=>v= .int .i64 o
 | 3,w,v=>v= .bool true
 | 4,w,v=>v= .bool false
 | 5,w,v=>v= .bool false
 | 6,w,v=>v= .pointer (some ⟨g,7,none⟩)
 | 7,w,v=>v= .slice A4 n4 c4
 | 8,w,v=>v= .int .i64 (n4:Int)
 | 9,w,v=>v= .bool false
 | 10,w,v=>v= .bool false
 | 11,w,v=>v= .bool false
 | 12,w,v=>v= .pointer (some ⟨g,7,none⟩)
 | 13,w,v=>v= .slice A4 n4 c4
 | 14,w,v=>∃b off,v= .pointer (some ⟨b,off,none⟩)∧A4=some ⟨b,off,none⟩
 | 15,w,v=>∃b off,v= .pointer (some ⟨b,off,none⟩)∧A4=some ⟨b,off,none⟩
 | 16,w,v=>v= .int .i64 k0
 | 17,w,v=>v= .bool F
 | 18,w,v=>v= .bool (!F)
 |_,w,v=>v= .bool (!F)
theorem On (a:Da)(vs:List Value)(w:World)(B:Nat)(h:IsTree w B a vs)(hB:B≤w.heap.size):
 Calls Tryz.prog 95 #[.agg vs.toArray] w (Oa w (Gc (kind a) (op a) (Eb (op a) (Zb a) (Ii a) (text a)) ((Be a).map kind))):=by
 have FDa:=Ih a vs;have KDa:=Hd a vs [102] false;have hal:=Zc h;have h':=h;obtain⟨k,o,m,nm,t,l⟩:=a;show Calls _ _ _ _ (Oa w (Gc k o (Eb o m nm t) (l.map kind)));obtain⟨W0,hW⟩:∃W,W=w.alloc (.cells vs.toArray 28):=⟨_,rfl⟩;obtain⟨A1,A2,A3,A4,c1,c2,c3,c4,us,HO,HL,HC,hW8,HG,hWl,hWb⟩:=Tb h hW;have hf4:=HO.out.f4.le (by omega);have hfi:Eb o m nm t≤15∧0≤Eb o m nm t:=by
  unfold Eb
  constructor<;>split<;>split<;>split<;>split<;>omega
 have q0:W0.cell? ⟨w.heap.size,0,none⟩=some (.int .i64 k):=hW8.p0;have HW:=Qd hW;have HIA:=Qd hal;have hkb:∀wx,Below W0.heap.size W0 wx→IsTree wx B (.mk k o m nm t l) vs∧B≤wx.heap.size:=λwx hx=>⟨h'.below ((hWb.trans (hx.mono (by omega))).mono hB),by have:=hx.size;omega⟩;have FD:=Qd (FDa W0 B (hkb W0 (Below.refl _ _)).1 (hkb W0 (Below.refl _ _)).2);replace FD:Hid (Calls Tryz.prog 90 #[.agg vs.toArray] W0 (Gh W0 (Eb o m nm t))):=FD;have KDx:Hid (∀wx,Below W0.heap.size W0 wx→Calls Tryz.prog 91 #[.agg vs.toArray,.string ⟨#[102]⟩,.bool false] wx (Oa wx (Ya (l.map kind) [102] false))):=Qd (λwx hx=>KDa wx B (hkb wx hx).1 (hkb wx hx).2 (by decide) (by decide) (by decide));have HGB0:Hid (∀wx,Below W0.heap.size W0 wx→wx.heap[w.heap.size]? =some (.cells vs.toArray 28 (0,0))):=Qd (λwx hx=>(hx.block _ hWl).trans HG.out);have HCC:∀wx,Below W0.heap.size W0 wx→At8 wx w.heap.size 0 k o m nm t l.length A1 A2 A3 A4 c1 c2 c3 c4:=λwx hx=>hW8.keep (λq=>hx.cell (p:=⟨w.heap.size,q,none⟩) hWl);have HC1x:Hid (∀wx,Below W0.heap.size W0 wx→wx.cell? ⟨w.heap.size,1,none⟩=some (.int .i64 o)):=Qd (λwx hx=>(HCC wx hx).p1);have HC7x:Hid (∀wx,Below W0.heap.size W0 wx→wx.cell? ⟨w.heap.size,7,none⟩=some (.slice A4 l.length c4)):=Qd (λwx hx=>(HCC wx hx).p7);have HC0x:Hid (∀wx,Below W0.heap.size W0 wx→wx.cell? ⟨w.heap.size,0,none⟩=some (.int .i64 k)):=Qd (λwx hx=>(HCC wx hx).p0);have HWB0:=Qd hWb;have HWS0:Hid (w.heap.size≤W0.heap.size):=Qd (by omega);have HKB:Hid (∀wx,Below W0.heap.size W0 wx→∀p:Addr,p.block<B→wx.cell? p=w.cell? p):=Qd (λwx hx p hp=>by rw[hx.cell (by omega),hWb.cell (by omega)]);have HR:Hid (Gc k o (Eb o m nm t) (l.map kind)=Gc k o (Eb o m nm t) (l.map kind)):=Qd rfl;generalize hf:Eb o m nm t=f at*;clear hW hW8 HO HG hWb h h' hal FDa KDa HCC hkb hf;have HQ0:=Qd q0;clear q0;obtain⟨R,hR⟩:∃R,R=Gc k o f (l.map kind):=⟨_,rfl⟩;rw[←hR];have HRR:=Qd hR;clear HR hR;obtain⟨g,hg⟩:∃g,g=w.heap.size:=⟨_,rfl⟩;rw[←hg] at HGB0 HC1x HC7x HC0x HWB0 HWS0 hWl HQ0;have HGG:=Qd hg;by_cases hf1:f=1
 ·by_cases hk:k=22
  ·have HOP:Hid (R=(monops.contains o&&Ya (l.map kind) [102] false)):=Qd (by rw[HRR.out,Gc,if_pos hf1,if_pos hk])
   subst hf1 hk;clear HRR;generalize Ya (l.map kind) [102] false=K at*;obtain⟨T,hT⟩:∃T,T=monops.contains o:=⟨_,rfl⟩;rw[←hT] at HOP;have HIN:=Qd hT.symm;clear hT;go_enter Tryz.func95,Tryz.ntmps95
   go_upto_region 1 with fail
   rw[←HW.out];rw[←hg];clear hg;go_wp2_with (with_reducible refine Ua (.tmp 1) rfl rfl g rfl (HGB0.out _ (Below.refl _ _)) HIA.out ?_)
   refine FD.out.mono ?_;rintro e w2 ⟨rfl,hb2⟩;have HB2:=Qd hb2;have q0:=HC0x.out w2 hb2;have HC1:Hid (∀w1,Below w2.heap.size w2 w1→w1.cell? ⟨g,1,none⟩=some (.int .i64 o)):=Qd (λw1 hb=>HC1x.out w1 (hb2.trans (hb.mono hb2.size)));have HGB:Hid (∀w1,Below w2.heap.size w2 w1→w1.heap[g]? =some (.cells vs.toArray 28 (0,0))):=Qd (λw1 hb=>HGB0.out w1 (hb2.trans (hb.mono hb2.size)));have KD:Hid (∀wx,Below w2.heap.size w2 wx→Calls Tryz.prog 91 #[.agg vs.toArray,.string ⟨#[102]⟩,.bool false] wx (Oa wx K)):=Qd (λw1 hb=>KDx.out w1 (hb2.trans (hb.mono hb2.size)));have HWB:Hid (Below g w w2):=Qd (HWB0.out.trans (hb2.mono HWS0.out));have HWS:Hid (g≤w2.heap.size):=Qd (Nat.le_trans HWS0.out hb2.size);clear hb2 HC1x HC7x HC0x HGB0 KDx FD HWB0 HWS0 HQ0;go_upto_region 4 with fail
   cases T
   ·have HZ:Hid (R=false):=Qd (by rw[HOP.out];rfl)
    refine Ic (Yc _ _ _ _ _ _ _ _ _ _ _ _ _ _ _ _ _ _ _ _ _ _ _ _ _ _ _ _ _ _ _ _ _ _ _ _ _ _ _ _ _ _ _ _ _ _ _ _ _ _) w2 (O7 g 22 o vs A4 l.length c4 true 0 true) (by kernel_rfl) ?_ (by kernel_rfl) (slotsL [_,_,_,_,_,_,_,_,_]) rfl (Below.refl _ _) ?_ ?_
    ·intro i w1 w2 v hv hb
     match i with
     | 0=>exact(by obtain⟨A,e,h⟩:=hv;exact⟨A,e,Nf h hb⟩)
     | 1=>exact hv
     | 2=>exact hv
     | 3=>exact hv
     | 4=>exact hv
     | 5=>exact hv
     | 6=>exact hv
     | 7=>exact hv
     |i+8=>exact hv
    ·intro i xs w1 hi hb hdep
     have hi6:i<9:=hi;clear hi;rcases(show i=0∨i=1∨i=2∨i=3∨i=4∨i=5∨i=6∨i=7∨i=8 by omega) with rfl |rfl |rfl |rfl |rfl |rfl |rfl |rfl |rfl
     ·refine Ba rfl rfl ?_
      unfold Yc Oper.wp;go_simp
      refine(Sj w1).mono ?_;rintro e w2 ⟨A,rfl,hA,hb2⟩;exact⟨_,by simp only[Ja];simp,⟨A,rfl,hA⟩,hb2⟩
     ·refine Ba rfl rfl ?_
      unfold Yc Oper.wp;go_simp
      exact⟨_,by simp only[Ja];simp,rfl,Below.refl _ _⟩
     ·have h1:xs 1= .pointer (some ⟨g,1,none⟩):=hdep 1 (by kernel_rfl)
      refine Ba rfl rfl ?_;have c1:w1.cell? ⟨g,1,none⟩=some (.int .i64 o):=HC1.out w1 hb;unfold Yc Oper.wp;simp only[h1];go_simp
      exact⟨_,by simp only[Ja];simp[h1],rfl,Below.refl _ _⟩
     ·have r0:∃A,(xs 0)= .slice A monops.length 6∧Lies w1 w1.heap.size A (Xa monops):=hdep 0 (by kernel_rfl)
      have h2:xs 2= .int .i64 o:=hdep 2 (by kernel_rfl);refine Ba rfl rfl ?_;obtain⟨A,h0,hA⟩:=r0;have IN:=Je A 6 monops o w1 hA (by decide);rw[HIN.out] at IN;unfold Yc Oper.wp;simp only[h0,h2];go_simp
      refine IN.mono ?_;rintro e w2 ⟨rfl,rfl⟩;exact⟨_,by simp only[Ja];simp[h0,h2],rfl,Below.refl _ _⟩
     ·have h3:xs 3= .bool false:=hdep 3 (by kernel_rfl)
      refine Ba rfl rfl ?_;unfold Yc Oper.wp;simp only[h3];go_simp
      exact⟨_,by simp only[Ja];simp[h3],rfl,Below.refl _ _⟩
     ·have h4:xs 4= .bool false:=hdep 4 (by kernel_rfl)
      refine Qb rfl (by unfold Yc;simp[Region.wanted,yielded,h4]) ?_;exact⟨_,by simp only[Yc,Ja];simp[Act.put],rfl,Below.refl _ _⟩
     ·have h4:xs 4= .bool false:=hdep 4 (by kernel_rfl)
      refine Qb rfl (by unfold Yc;simp[Region.wanted,yielded,h4]) ?_;exact⟨_,by simp only[Yc,Ja];simp[Act.put],rfl,Below.refl _ _⟩
     ·have h4:xs 4= .bool false:=hdep 4 (by kernel_rfl)
      have h6:xs 6=undef:=hdep 6 (by kernel_rfl);refine Ba rfl rfl ?_;unfold Yc Oper.wp;simp only[h4,h6];go_simp
      exact⟨_,by simp only[Ja];simp[h4,h6],rfl,Below.refl _ _⟩
     have h7:xs 7= .bool false:=hdep 7 (by kernel_rfl);refine Ba rfl rfl ?_;unfold Yc Oper.wp;simp only[h7];go_simp
     exact⟨_,by simp only[Ja];simp[h7],rfl,Below.refl _ _⟩
    intro xs w1 hb hx;have h8:xs 8= .bool false:=hx 8 (by decide);clear hx;unfold Yc;simp only[h8];go_wp2_with fail
    go_ret;exact⟨Aa (by rw[HZ.out]),by rw[←HGG.out];exact HWB.out.trans (hb.mono HWS.out)⟩
   have HZ:Hid (R=K):=Qd (by rw[HOP.out];rfl);refine Ic (Xc _ _ _ _ _ _ _ _ _ _ _ _ _ _ _ _ _ _ _ _ _ _ _ _ _ _ _ _ _ _ _ _ _ _ _ _ _ _ _ _ _ _ _ _ _ _ _ _ _ _) w2 (N7 g 22 o vs A4 l.length c4 K 0 true) (by kernel_rfl) ?_ (by kernel_rfl) (slotsL [_,_,_,_,_,_,_,_,_]) rfl (Below.refl _ _) ?_ ?_
   ·intro i w1 w2 v hv hb
    match i with
    | 0=>exact(by obtain⟨A,e,h⟩:=hv;exact⟨A,e,Nf h hb⟩)
    | 1=>exact hv
    | 2=>exact hv
    | 3=>exact hv
    | 4=>exact hv
    | 5=>exact hv
    | 6=>exact hv
    | 7=>exact hv
    |i+8=>exact hv
   ·intro i xs w1 hi hb hdep
    have hi6:i<9:=hi;clear hi;rcases(show i=0∨i=1∨i=2∨i=3∨i=4∨i=5∨i=6∨i=7∨i=8 by omega) with rfl |rfl |rfl |rfl |rfl |rfl |rfl |rfl |rfl
    ·refine Ba rfl rfl ?_
     unfold Xc Oper.wp;go_simp
     refine(Sj w1).mono ?_;rintro e w2 ⟨A,rfl,hA,hb2⟩;exact⟨_,by simp only[Ja];simp,⟨A,rfl,hA⟩,hb2⟩
    ·refine Ba rfl rfl ?_
     unfold Xc Oper.wp;go_simp
     exact⟨_,by simp only[Ja];simp,rfl,Below.refl _ _⟩
    ·have h1:xs 1= .pointer (some ⟨g,1,none⟩):=hdep 1 (by kernel_rfl)
     refine Ba rfl rfl ?_;have c1:w1.cell? ⟨g,1,none⟩=some (.int .i64 o):=HC1.out w1 hb;unfold Xc Oper.wp;simp only[h1];go_simp
     exact⟨_,by simp only[Ja];simp[h1],rfl,Below.refl _ _⟩
    ·have r0:∃A,(xs 0)= .slice A monops.length 6∧Lies w1 w1.heap.size A (Xa monops):=hdep 0 (by kernel_rfl)
     have h2:xs 2= .int .i64 o:=hdep 2 (by kernel_rfl);refine Ba rfl rfl ?_;obtain⟨A,h0,hA⟩:=r0;have IN:=Je A 6 monops o w1 hA (by decide);rw[HIN.out] at IN;unfold Xc Oper.wp;simp only[h0,h2];go_simp
     refine IN.mono ?_;rintro e w2 ⟨rfl,rfl⟩;exact⟨_,by simp only[Ja];simp[h0,h2],rfl,Below.refl _ _⟩
    ·have h3:xs 3= .bool true:=hdep 3 (by kernel_rfl)
     refine Ba rfl rfl ?_;unfold Xc Oper.wp;simp only[h3];go_simp
     exact⟨_,by simp only[Ja];simp[h3],rfl,Below.refl _ _⟩
    ·have h4:xs 4= .bool true:=hdep 4 (by kernel_rfl)
     refine Ec rfl (by unfold Xc;simp[Region.wanted,yielded,h4]) ?_;refine wp_load_row 28 (.tmp 1) rfl g rfl 28 vs.toArray (0,0) _ (HGB.out w1 hb) Tryz.underlying28 rfl HIA.out ?_;exact⟨_,by simp only[Xc,Ja];simp[Act.put,h4],rfl,Below.refl _ _⟩
    ·have h5:xs 5= .agg vs.toArray:=hdep 5 (by kernel_rfl)
     have h4:xs 4= .bool true:=hdep 4 (by kernel_rfl);refine Ec rfl (by unfold Xc;simp[Region.wanted,yielded,h4]) ?_;unfold Xc Oper.wp;simp only[h5,h4];go_simp
     refine(KD.out w1 hb).mono ?_;rintro e w2 ⟨rfl,hb2⟩;exact⟨_,by simp only[Ja];simp[h5,h4],rfl,hb2⟩
    ·have h4:xs 4= .bool true:=hdep 4 (by kernel_rfl)
     have h6:xs 6= .bool K:=hdep 6 (by kernel_rfl);refine Ba rfl rfl ?_;unfold Xc Oper.wp;simp only[h4,h6];go_simp
     exact⟨_,by simp only[Ja];simp[h4,h6],rfl,Below.refl _ _⟩
    have h7:xs 7= .bool K:=hdep 7 (by kernel_rfl);refine Ba rfl rfl ?_;unfold Xc Oper.wp;simp only[h7];go_simp
    exact⟨_,by simp only[Ja];simp[h7],rfl,Below.refl _ _⟩
   intro xs w1 hb hx;have h8:xs 8= .bool K:=hx 8 (by decide);clear hx;unfold Xc;simp only[h8];go_wp2_with fail
   go_ret;exact⟨Aa (by rw[HZ.out]),by rw[←HGG.out];exact HWB.out.trans (hb.mono HWS.out)⟩
  have hk2:(k==22)=false:=beq_eq_false_iff_ne.2 hk;have HOP:Hid (R=if dyops.contains o=false∨(l.map kind).length≠2∨func ((l.map kind).getD 0 0)=false then false else if o=0x2364 then array ((l.map kind).getD 1 0) else plain ((l.map kind).getD 1 0)||((o==0x2363)&&array ((l.map kind).getD 1 0))):=Qd (by rw[HRR.out,Gc,if_pos hf1,if_neg hk]);subst hf1;clear HRR hk;obtain⟨T,hT⟩:∃T,T=dyops.contains o:=⟨_,rfl⟩;rw[←hT] at HOP;have HIN:=Qd hT.symm;clear hT;go_enter Tryz.func95,Tryz.ntmps95
  go_upto_region 1 with fail
  rw[←HW.out];rw[←hg];clear hg;go_wp2_with (with_reducible refine Ua (.tmp 1) rfl rfl g rfl (HGB0.out _ (Below.refl _ _)) HIA.out ?_)
  refine FD.out.mono ?_;rintro e w2 ⟨rfl,hb2⟩;have q0:=HC0x.out w2 hb2;have HC1:Hid (∀w1,Below w2.heap.size w2 w1→w1.cell? ⟨g,1,none⟩=some (.int .i64 o)):=Qd (λw1 hb=>HC1x.out w1 (hb2.trans (hb.mono hb2.size)));have HC7:Hid (∀w1,Below w2.heap.size w2 w1→w1.cell? ⟨g,7,none⟩=some (.slice A4 l.length c4)):=Qd (λw1 hb=>HC7x.out w1 (hb2.trans (hb.mono hb2.size)));have HWB:Hid (Below g w w2):=Qd (HWB0.out.trans (hb2.mono HWS0.out));have HWS:Hid (g≤w2.heap.size):=Qd (Nat.le_trans HWS0.out hb2.size);have HKB2:Hid (∀wx,Below w2.heap.size w2 wx→∀p:Addr,p.block<B→wx.cell? p=w.cell? p):=Qd (λw1 hb=>HKB.out w1 (hb2.trans (hb.mono hb2.size)));clear hb2 HC1x HC7x HC0x HGB0 KDx FD HWB0 HWS0 HQ0 HKB;go_upto_region 5 with fail
  cases T
  ·have HZ:Hid (R=false):=Qd (by rw[HOP.out,if_pos (.inl rfl)])
   refine Ic (Bb _ _ _ _ _ _ _ _ _ _ _ _ _ _ _ _ _ _ _ _ _ _ _ _ _ _ _ _ _ _ _ _ _ _ _ _ _ _ _) w2 (Q7 g k o vs A4 l.length c4 true 0 true) (by kernel_rfl) ?_ (by kernel_rfl) (slotsL [_,_,_,_,_,_,_,_,_,_,_,_,_,_,_,_,_,_,_,_]) rfl (Below.refl _ _) ?_ ?_
   ·intro i w1 w2 v hv hb
    match i with
    | 0=>exact(by obtain⟨A,e,h⟩:=hv;exact⟨A,e,Nf h hb⟩)
    | 1=>exact hv
    | 2=>exact hv
    | 3=>exact hv
    | 4=>exact hv
    | 5=>exact hv
    | 6=>exact hv
    | 7=>exact hv
    | 8=>exact hv
    | 9=>exact hv
    | 10=>exact hv
    | 11=>exact hv
    | 12=>exact hv
    | 13=>exact hv
    | 14=>exact hv
    | 15=>exact hv
    | 16=>exact hv
    | 17=>exact hv
    | 18=>exact hv
    |i+19=>exact hv
   ·intro i xs w1 hi hb hdep
    have hi6:i<20:=hi;clear hi;rcases(show i=0∨i=1∨i=2∨i=3∨i=4∨i=5∨i=6∨i=7∨i=8∨i=9∨i=10∨i=11∨i=12∨i=13∨i=14∨i=15∨i=16∨i=17∨i=18∨i=19 by omega) with rfl |rfl |rfl |rfl |rfl |rfl |rfl |rfl |rfl |rfl |rfl |rfl |rfl |rfl |rfl |rfl |rfl |rfl |rfl |rfl
    ·refine Ba rfl rfl ?_
     unfold Bb Oper.wp;go_simp
     refine(Kh w1).mono ?_;rintro e w2 ⟨A,rfl,hA,hb2⟩;exact⟨_,by simp only[Ja];simp,⟨A,rfl,hA⟩,hb2⟩
    ·refine Ba rfl rfl ?_
     unfold Bb Oper.wp;go_simp
     exact⟨_,by simp only[Ja];simp,rfl,Below.refl _ _⟩
    ·have h1:xs 1= .pointer (some ⟨g,1,none⟩):=hdep 1 (by kernel_rfl)
     refine Ba rfl rfl ?_;have c1:w1.cell? ⟨g,1,none⟩=some (.int .i64 o):=HC1.out w1 hb;unfold Bb Oper.wp;simp only[h1];go_simp
     exact⟨_,by simp only[Ja];simp[h1],rfl,Below.refl _ _⟩
    ·have r0:∃A,(xs 0)= .slice A dyops.length 4∧Lies w1 w1.heap.size A (Xa dyops):=hdep 0 (by kernel_rfl)
     have h2:xs 2= .int .i64 o:=hdep 2 (by kernel_rfl);refine Ba rfl rfl ?_;obtain⟨A,h0,hA⟩:=r0;have IN:=Je A 4 dyops o w1 hA (by decide);rw[HIN.out] at IN;unfold Bb Oper.wp;simp only[h0,h2];go_simp
     refine IN.mono ?_;rintro e w2 ⟨rfl,rfl⟩;exact⟨_,by simp only[Ja];simp[h0,h2],rfl,Below.refl _ _⟩
    ·have h3:xs 3= .bool false:=hdep 3 (by kernel_rfl)
     refine Ba rfl rfl ?_;unfold Bb Oper.wp;simp only[h3];go_simp
     exact⟨_,by simp only[Ja];simp[h3],rfl,Below.refl _ _⟩
    ·have h4:xs 4= .bool true:=hdep 4 (by kernel_rfl)
     refine Ba rfl rfl ?_;unfold Bb Oper.wp;simp only[h4];go_simp
     exact⟨_,by simp only[Ja];simp[h4],rfl,Below.refl _ _⟩
    ·have h5:xs 5= .bool true:=hdep 5 (by kernel_rfl)
     refine Qb rfl (by unfold Bb;simp[Region.wanted,yielded,h5]) ?_;exact⟨_,by simp only[Bb,Ja];simp[Act.put],rfl,Below.refl _ _⟩
    ·have h5:xs 5= .bool true:=hdep 5 (by kernel_rfl)
     refine Qb rfl (by unfold Bb;simp[Region.wanted,yielded,h5]) ?_;exact⟨_,by simp only[Bb,Ja];simp[Act.put],rfl,Below.refl _ _⟩
    ·have h5:xs 5= .bool true:=hdep 5 (by kernel_rfl)
     refine Qb rfl (by unfold Bb;simp[Region.wanted,yielded,h5]) ?_;exact⟨_,by simp only[Bb,Ja];simp[Act.put],rfl,Below.refl _ _⟩
    ·have h5:xs 5= .bool true:=hdep 5 (by kernel_rfl)
     refine Qb rfl (by unfold Bb;simp[Region.wanted,yielded,h5]) ?_;exact⟨_,by simp only[Bb,Ja];simp[Act.put],rfl,Below.refl _ _⟩
    ·have h5:xs 5= .bool true:=hdep 5 (by kernel_rfl)
     have h9:xs 9=undef:=hdep 9 (by kernel_rfl);refine Ba rfl rfl ?_;unfold Bb Oper.wp;simp only[h5,h9];go_simp
     exact⟨_,by simp only[Ja];simp[h5,h9],rfl,Below.refl _ _⟩
    ·have h10:xs 10= .bool true:=hdep 10 (by kernel_rfl)
     refine Ba rfl rfl ?_;unfold Bb Oper.wp;simp only[h10];go_simp
     exact⟨_,by simp only[Ja];simp[h10],rfl,Below.refl _ _⟩
    ·have h11:xs 11= .bool true:=hdep 11 (by kernel_rfl)
     refine Qb rfl (by unfold Bb;simp[Region.wanted,yielded,h11]) ?_;exact⟨_,by simp only[Bb,Ja];simp[Act.put],rfl,Below.refl _ _⟩
    ·have h11:xs 11= .bool true:=hdep 11 (by kernel_rfl)
     refine Qb rfl (by unfold Bb;simp[Region.wanted,yielded,h11]) ?_;exact⟨_,by simp only[Bb,Ja];simp[Act.put],rfl,Below.refl _ _⟩
    ·have h11:xs 11= .bool true:=hdep 11 (by kernel_rfl)
     refine Qb rfl (by unfold Bb;simp[Region.wanted,yielded,h11]) ?_;exact⟨_,by simp only[Bb,Ja];simp[Act.put],rfl,Below.refl _ _⟩
    ·have h11:xs 11= .bool true:=hdep 11 (by kernel_rfl)
     refine Qb rfl (by unfold Bb;simp[Region.wanted,yielded,h11]) ?_;exact⟨_,by simp only[Bb,Ja];simp[Act.put],rfl,Below.refl _ _⟩
    ·have h11:xs 11= .bool true:=hdep 11 (by kernel_rfl)
     refine Qb rfl (by unfold Bb;simp[Region.wanted,yielded,h11]) ?_;exact⟨_,by simp only[Bb,Ja];simp[Act.put],rfl,Below.refl _ _⟩
    ·have h11:xs 11= .bool true:=hdep 11 (by kernel_rfl)
     refine Qb rfl (by unfold Bb;simp[Region.wanted,yielded,h11]) ?_;exact⟨_,by simp only[Bb,Ja];simp[Act.put],rfl,Below.refl _ _⟩
    ·have h11:xs 11= .bool true:=hdep 11 (by kernel_rfl)
     refine Qb rfl (by unfold Bb;simp[Region.wanted,yielded,h11]) ?_;exact⟨_,by simp only[Bb,Ja];simp[Act.put],rfl,Below.refl _ _⟩
    have h11:xs 11= .bool true:=hdep 11 (by kernel_rfl);have h18:xs 18=undef:=hdep 18 (by kernel_rfl);refine Ba rfl rfl ?_;unfold Bb Oper.wp;simp only[h11,h18];go_simp
    exact⟨_,by simp only[Ja];simp[h11,h18],rfl,Below.refl _ _⟩
   intro xs w1 hb hx;have h19:xs 19= .bool true:=hx 19 (by decide);clear hx;unfold Bb;simp only[h19];go_wp2_with fail
   go_ret;exact⟨Aa (by rw[HZ.out]),by rw[←HGG.out];exact HWB.out.trans (hb.mono HWS.out)⟩
  by_cases h2:l.length=2
  ·have HN4:Hid (((l.length:Int)!=2)=false):=Qd (by rw[h2];rfl)
   have HNP:Hid ((0:Int)<(l.length:Int)):=Qd (by omega);have FN:=Qd (λwx=>Jn (kind (l[0]'(by omega))) wx);have AR:=Qd (λwx=>Zh (kind (l[1]'(by omega))) wx);have PL:=Qd (λwx=>Ol (kind (l[1]'(by omega))) wx);have HK0:Hid (∃b off,A4=some ⟨b,off,none⟩∧b<B):=Qd (by
    obtain⟨b,off,tv,e,hb,_⟩:=Nd HC.out HL.out (wr:=w2) (HKB2.out w2 (Below.refl _ _)) (i:=0) (by omega);exact⟨b,off,e,hb⟩)
   have hkind:∀(i:Nat) (hi:i<l.length) (w1:World),Below w2.heap.size w2 w1→∀b off,A4=some ⟨b,off,none⟩→w1.cell? ⟨b,off+i*8,none⟩=some (.int .i64 (kind l[i])):=λi hi w1 hb b off eA=>by
    obtain⟨b',off',B1,B2,B3,B4,e1,e2,e3,e4,e,hb',HT,h8⟩:=Wg HC.out HL.out (HKB2.out w1 hb) hi;have e:=eA.symm.trans e;injection e with e
    injection e with e1 e2
    subst e1 e2;exact h8.p0
   have HK1:Hid (∀w1,Below w2.heap.size w2 w1→∀b off,A4=some ⟨b,off,none⟩→w1.cell? ⟨b,off,none⟩=some (.int .i64 (kind (l[0]'(by omega))))):=Qd (λw1 hb b off eA=>by have:=hkind 0 (by omega) w1 hb b off eA;simpa using this);have HK2:Hid (∀w1,Below w2.heap.size w2 w1→∀b off,A4=some ⟨b,off,none⟩→w1.cell? ⟨b,off+8,none⟩=some (.int .i64 (kind (l[1]'(by omega))))):=Qd (λw1 hb b off eA=>by have:=hkind 1 (by omega) w1 hb b off eA;simpa using this);have HOP2:Hid (func (kind (l[0]'(by omega)))=true→R=if o=0x2364 then array (kind (l[1]'(by omega))) else plain (kind (l[1]'(by omega)))||((o==0x2363)&&array (kind (l[1]'(by omega))))):=Qd (λhF=>by
    have e0:(l.map kind).getD 0 0=kind (l[0]'(by omega)):=by rw[List.getD_eq_getElem?_getD,List.getElem?_map,List.getElem?_eq_getElem (by omega)];rfl
    have e1:(l.map kind).getD 1 0=kind (l[1]'(by omega)):=by rw[List.getD_eq_getElem?_getD,List.getElem?_map,List.getElem?_eq_getElem (by omega)];rfl
    rw[HOP.out,e0,e1,hF,if_neg (by simp[h2])])
   have HOP3:Hid (func (kind (l[0]'(by omega)))=false→R=false):=Qd (λhF=>by
    have e0:(l.map kind).getD 0 0=kind (l[0]'(by omega)):=by rw[List.getD_eq_getElem?_getD,List.getElem?_map,List.getElem?_eq_getElem (by omega)];rfl
    rw[HOP.out,e0,if_pos (.inr (.inr hF))])
   clear HOP hkind HKB2 HC HL;have hn42:(1:Int)<(l.length:Int):=by omega
   have hf4':=Qd hf4;clear hf4;generalize array (kind (l[1]'(by omega)))=X1 at*;generalize plain (kind (l[1]'(by omega)))=P1 at*;generalize func (kind (l[0]'(by omega)))=F at*;generalize kind (l[0]'(by omega))=k0 at*;generalize kind (l[1]'(by omega))=k1 at*;clear h2;refine Ic (Db _ _ _ _ _ _ _ _ _ _ _ _ _ _ _ _ _ _ _ _ _ _ _ _ _ _ _ _ _ _ _ _ _ _ _ _ _ _ _) w2 (S7 g k o vs A4 l.length c4 true k0 F) (by kernel_rfl) ?_ (by kernel_rfl) (slotsL [_,_,_,_,_,_,_,_,_,_,_,_,_,_,_,_,_,_,_,_]) rfl (Below.refl _ _) ?_ ?_
   ·intro i w1 w2 v hv hb
    match i with
    | 0=>exact(by obtain⟨A,e,h⟩:=hv;exact⟨A,e,Nf h hb⟩)
    | 1=>exact hv
    | 2=>exact hv
    | 3=>exact hv
    | 4=>exact hv
    | 5=>exact hv
    | 6=>exact hv
    | 7=>exact hv
    | 8=>exact hv
    | 9=>exact hv
    | 10=>exact hv
    | 11=>exact hv
    | 12=>exact hv
    | 13=>exact hv
    | 14=>exact hv
    | 15=>exact hv
    | 16=>exact hv
    | 17=>exact hv
    | 18=>exact hv
    |i+19=>exact hv
   ·intro i xs w1 hi hb hdep
    have hi6:i<20:=hi;clear hi;rcases(show i=0∨i=1∨i=2∨i=3∨i=4∨i=5∨i=6∨i=7∨i=8∨i=9∨i=10∨i=11∨i=12∨i=13∨i=14∨i=15∨i=16∨i=17∨i=18∨i=19 by omega) with rfl |rfl |rfl |rfl |rfl |rfl |rfl |rfl |rfl |rfl |rfl |rfl |rfl |rfl |rfl |rfl |rfl |rfl |rfl |rfl
    ·refine Ba rfl rfl ?_
     unfold Db Oper.wp;go_simp
     refine(Kh w1).mono ?_;rintro e w2 ⟨A,rfl,hA,hb2⟩;exact⟨_,by simp only[Ja];simp,⟨A,rfl,hA⟩,hb2⟩
    ·refine Ba rfl rfl ?_
     unfold Db Oper.wp;go_simp
     exact⟨_,by simp only[Ja];simp,rfl,Below.refl _ _⟩
    ·have h1:xs 1= .pointer (some ⟨g,1,none⟩):=hdep 1 (by kernel_rfl)
     refine Ba rfl rfl ?_;have c1:w1.cell? ⟨g,1,none⟩=some (.int .i64 o):=HC1.out w1 hb;unfold Db Oper.wp;simp only[h1];go_simp
     exact⟨_,by simp only[Ja];simp[h1],rfl,Below.refl _ _⟩
    ·have r0:∃A,(xs 0)= .slice A dyops.length 4∧Lies w1 w1.heap.size A (Xa dyops):=hdep 0 (by kernel_rfl)
     have h2:xs 2= .int .i64 o:=hdep 2 (by kernel_rfl);refine Ba rfl rfl ?_;obtain⟨A,h0,hA⟩:=r0;have IN:=Je A 4 dyops o w1 hA (by decide);rw[HIN.out] at IN;unfold Db Oper.wp;simp only[h0,h2];go_simp
     refine IN.mono ?_;rintro e w2 ⟨rfl,rfl⟩;exact⟨_,by simp only[Ja];simp[h0,h2],rfl,Below.refl _ _⟩
    ·have h3:xs 3= .bool true:=hdep 3 (by kernel_rfl)
     refine Ba rfl rfl ?_;unfold Db Oper.wp;simp only[h3];go_simp
     exact⟨_,by simp only[Ja];simp[h3],rfl,Below.refl _ _⟩
    ·have h4:xs 4= .bool false:=hdep 4 (by kernel_rfl)
     refine Ba rfl rfl ?_;unfold Db Oper.wp;simp only[h4];go_simp
     exact⟨_,by simp only[Ja];simp[h4],rfl,Below.refl _ _⟩
    ·have h5:xs 5= .bool false:=hdep 5 (by kernel_rfl)
     refine Ec rfl (by unfold Db;simp[Region.wanted,yielded,h5]) ?_;unfold Db Oper.wp;simp only[h5];go_simp
     exact⟨_,by simp only[Ja];simp[h5],rfl,Below.refl _ _⟩
    ·have h6:xs 6= .pointer (some ⟨g,7,none⟩):=hdep 6 (by kernel_rfl)
     have h5:xs 5= .bool false:=hdep 5 (by kernel_rfl);refine Ec rfl (by unfold Db;simp[Region.wanted,yielded,h5]) ?_;have c7:w1.cell? ⟨g,7,none⟩=some (.slice A4 l.length c4):=HC7.out w1 hb;unfold Db Oper.wp;simp only[h6,h5];go_simp
     exact⟨_,by simp only[Ja];simp[h6,h5],rfl,Below.refl _ _⟩
    ·have h7:xs 7= .slice A4 l.length c4:=hdep 7 (by kernel_rfl)
     have h5:xs 5= .bool false:=hdep 5 (by kernel_rfl);refine Ec rfl (by unfold Db;simp[Region.wanted,yielded,h5]) ?_;unfold Db Oper.wp;simp only[h7,h5];go_simp
     exact⟨_,by simp only[Ja];simp[h7,h5],rfl,Below.refl _ _⟩
    ·have h8:xs 8= .int .i64 (l.length:Int):=hdep 8 (by kernel_rfl)
     have h5:xs 5= .bool false:=hdep 5 (by kernel_rfl);refine Ec rfl (by unfold Db;simp[Region.wanted,yielded,h5]) ?_;have q8:((l.length:Int)!=2)=false:=HN4.out;unfold Db Oper.wp;simp only[h8,h5];go_simp
     exact⟨_,by simp only[Ja];simp[h8,h5],rfl,Below.refl _ _⟩
    ·have h5:xs 5= .bool false:=hdep 5 (by kernel_rfl)
     have h9:xs 9= .bool false:=hdep 9 (by kernel_rfl);refine Ba rfl rfl ?_;unfold Db Oper.wp;simp only[h5,h9];go_simp
     exact⟨_,by simp only[Ja];simp[h5,h9],rfl,Below.refl _ _⟩
    ·have h10:xs 10= .bool false:=hdep 10 (by kernel_rfl)
     refine Ba rfl rfl ?_;unfold Db Oper.wp;simp only[h10];go_simp
     exact⟨_,by simp only[Ja];simp[h10],rfl,Below.refl _ _⟩
    ·have h11:xs 11= .bool false:=hdep 11 (by kernel_rfl)
     refine Ec rfl (by unfold Db;simp[Region.wanted,yielded,h11]) ?_;unfold Db Oper.wp;simp only[h11];go_simp
     exact⟨_,by simp only[Ja];simp[h11],rfl,Below.refl _ _⟩
    ·have h12:xs 12= .pointer (some ⟨g,7,none⟩):=hdep 12 (by kernel_rfl)
     have h11:xs 11= .bool false:=hdep 11 (by kernel_rfl);refine Ec rfl (by unfold Db;simp[Region.wanted,yielded,h11]) ?_;have c7:w1.cell? ⟨g,7,none⟩=some (.slice A4 l.length c4):=HC7.out w1 hb;unfold Db Oper.wp;simp only[h12,h11];go_simp
     exact⟨_,by simp only[Ja];simp[h12,h11],rfl,Below.refl _ _⟩
    ·have h13:xs 13= .slice A4 l.length c4:=hdep 13 (by kernel_rfl)
     have h11:xs 11= .bool false:=hdep 11 (by kernel_rfl);refine Ec rfl (by unfold Db;simp[Region.wanted,yielded,h11]) ?_;obtain⟨b,off,eA,hk⟩:=HK0.out;subst eA;have hn4:(0:Int)<(l.length:Int):=HNP.out;have hn5:0<l.length:=by have:=HNP.out;omega
     unfold Db Oper.wp;simp only[h13,h11];go_simp
     exact⟨_,by simp only[Ja];simp[h13,h11],⟨b,off,rfl,rfl⟩,Below.refl _ _⟩
    ·have r14:∃b off,(xs 14)= .pointer (some ⟨b,off,none⟩)∧A4=some ⟨b,off,none⟩:=hdep 14 (by kernel_rfl)
     have h11:xs 11= .bool false:=hdep 11 (by kernel_rfl);refine Ec rfl (by unfold Db;simp[Region.wanted,yielded,h11]) ?_;obtain⟨b,off,h14,eA⟩:=r14;unfold Db Oper.wp;simp only[h14,h11];go_simp
     exact⟨_,by simp only[Ja];simp[h14,h11],⟨b,off,rfl,by first|exact eA |rfl⟩,Below.refl _ _⟩
    ·have r15:∃b off,(xs 15)= .pointer (some ⟨b,off,none⟩)∧A4=some ⟨b,off,none⟩:=hdep 15 (by kernel_rfl)
     have h11:xs 11= .bool false:=hdep 11 (by kernel_rfl);refine Ec rfl (by unfold Db;simp[Region.wanted,yielded,h11]) ?_;obtain⟨b,off,h15,eA⟩:=r15;have c0:w1.cell? ⟨b,off,none⟩=some (.int .i64 k0):=HK1.out w1 hb b off eA;unfold Db Oper.wp;simp only[h15,h11];go_simp
     exact⟨_,by simp only[Ja];simp[h15,h11],rfl,Below.refl _ _⟩
    ·have h16:xs 16= .int .i64 k0:=hdep 16 (by kernel_rfl)
     have h11:xs 11= .bool false:=hdep 11 (by kernel_rfl);refine Ec rfl (by unfold Db;simp[Region.wanted,yielded,h11]) ?_;unfold Db Oper.wp;simp only[h16,h11];go_simp
     refine(FN.out w1).mono ?_;rintro e w2 ⟨rfl,rfl⟩;exact⟨_,by simp only[Ja];simp[h16,h11],rfl,(Below.refl _ _)⟩
    ·have h17:xs 17= .bool F:=hdep 17 (by kernel_rfl)
     have h11:xs 11= .bool false:=hdep 11 (by kernel_rfl);refine Ec rfl (by unfold Db;simp[Region.wanted,yielded,h11]) ?_;unfold Db Oper.wp;simp only[h17,h11];go_simp
     exact⟨_,by simp only[Ja];simp[h17,h11],rfl,Below.refl _ _⟩
    have h11:xs 11= .bool false:=hdep 11 (by kernel_rfl);have h18:xs 18= .bool (!F):=hdep 18 (by kernel_rfl);refine Ba rfl rfl ?_;unfold Db Oper.wp;simp only[h11,h18];go_simp
    exact⟨_,by simp only[Ja];simp[h11,h18],rfl,Below.refl _ _⟩
   intro xs w1 hb hx;have h19:xs 19= .bool (!F):=hx 19 (by decide);clear hx;have HBX:=Qd hb;obtain⟨b,off,eA,hk⟩:=HK0.out;have c7:w1.cell? ⟨g,7,none⟩=some (.slice A4 l.length c4):=HC7.out w1 hb;have c1':w1.cell? ⟨g,1,none⟩=some (.int .i64 o):=HC1.out w1 hb;have c8:w1.cell? ⟨b,off+8,none⟩=some (.int .i64 k1):=HK2.out w1 hb b off eA;have hf4:=hf4'.out;subst eA;unfold Db;simp only[h19];clear HC1 HC7 HK0 HK1 HK2 HIN h19;cases F
   ·have HZ:=Qd (HOP3.out rfl)
    go_wp2_with fail
    go_ret;exact⟨Aa (by rw[HZ.out]),by rw[←HGG.out];exact HWB.out.trans (HBX.out.mono HWS.out)⟩
   have HZ:=Qd (HOP2.out rfl);by_cases ho:o=9060
   ·have HZ2:Hid (R=X1):=Qd (by rw[HZ.out,if_pos ho])
    subst ho;go_wp2_with fail
    refine(AR.out _).mono ?_;rintro e w4 ⟨rfl,rfl⟩;go_wp2_with fail
    go_ret;exact⟨Aa (by rw[HZ2.out]),by rw[←HGG.out];exact HWB.out.trans (HBX.out.mono HWS.out)⟩
   have HZ2:Hid (R=(P1||((o==9059)&&X1))):=Qd (by rw[HZ.out,if_neg ho]);have ho2:(o==9060)=false:=beq_eq_false_iff_ne.2 ho;clear ho HZ;cases P1
   ·cases ho3:(o==9059)
    ·rw[ho3] at HZ2
     go_wp2_with fail
     refine(PL.out _).mono ?_;rintro e w4 ⟨rfl,rfl⟩;go_wp2_with fail
     go_ret;exact⟨Aa (by rw[HZ2.out];rfl),by rw[←HGG.out];exact HWB.out.trans (HBX.out.mono HWS.out)⟩
    rw[ho3] at HZ2;go_wp2_with fail
    refine(PL.out _).mono ?_;rintro e w4 ⟨rfl,rfl⟩;go_wp2_with fail
    refine(AR.out _).mono ?_;rintro e w4 ⟨rfl,rfl⟩;go_wp2_with fail
    go_ret;exact⟨Aa (by rw[HZ2.out];rfl),by rw[←HGG.out];exact HWB.out.trans (HBX.out.mono HWS.out)⟩
   go_wp2_with fail
   refine(PL.out _).mono ?_;rintro e w4 ⟨rfl,rfl⟩;go_wp2_with fail
   go_ret;exact⟨Aa (by rw[HZ2.out];rfl),by rw[←HGG.out];exact HWB.out.trans (HBX.out.mono HWS.out)⟩
  have HZ:Hid (R=false):=Qd (by rw[HOP.out,if_pos (.inr (.inl (by rw[List.length_map];exact h2)))]);have HN4:Hid (((l.length:Int)!=2)=true):=Qd (bne_iff_ne.2 (by omega));clear HOP;refine Ic (Cb _ _ _ _ _ _ _ _ _ _ _ _ _ _ _ _ _ _ _ _ _ _ _ _ _ _ _ _ _ _ _ _ _ _ _ _ _ _ _) w2 (R7 g k o vs A4 l.length c4 true 0 true) (by kernel_rfl) ?_ (by kernel_rfl) (slotsL [_,_,_,_,_,_,_,_,_,_,_,_,_,_,_,_,_,_,_,_]) rfl (Below.refl _ _) ?_ ?_
  ·intro i w1 w2 v hv hb
   match i with
   | 0=>exact(by obtain⟨A,e,h⟩:=hv;exact⟨A,e,Nf h hb⟩)
   | 1=>exact hv
   | 2=>exact hv
   | 3=>exact hv
   | 4=>exact hv
   | 5=>exact hv
   | 6=>exact hv
   | 7=>exact hv
   | 8=>exact hv
   | 9=>exact hv
   | 10=>exact hv
   | 11=>exact hv
   | 12=>exact hv
   | 13=>exact hv
   | 14=>exact hv
   | 15=>exact hv
   | 16=>exact hv
   | 17=>exact hv
   | 18=>exact hv
   |i+19=>exact hv
  ·intro i xs w1 hi hb hdep
   have hi6:i<20:=hi;clear hi;rcases(show i=0∨i=1∨i=2∨i=3∨i=4∨i=5∨i=6∨i=7∨i=8∨i=9∨i=10∨i=11∨i=12∨i=13∨i=14∨i=15∨i=16∨i=17∨i=18∨i=19 by omega) with rfl |rfl |rfl |rfl |rfl |rfl |rfl |rfl |rfl |rfl |rfl |rfl |rfl |rfl |rfl |rfl |rfl |rfl |rfl |rfl
   ·refine Ba rfl rfl ?_
    unfold Cb Oper.wp;go_simp
    refine(Kh w1).mono ?_;rintro e w2 ⟨A,rfl,hA,hb2⟩;exact⟨_,by simp only[Ja];simp,⟨A,rfl,hA⟩,hb2⟩
   ·refine Ba rfl rfl ?_
    unfold Cb Oper.wp;go_simp
    exact⟨_,by simp only[Ja];simp,rfl,Below.refl _ _⟩
   ·have h1:xs 1= .pointer (some ⟨g,1,none⟩):=hdep 1 (by kernel_rfl)
    refine Ba rfl rfl ?_;have c1:w1.cell? ⟨g,1,none⟩=some (.int .i64 o):=HC1.out w1 hb;unfold Cb Oper.wp;simp only[h1];go_simp
    exact⟨_,by simp only[Ja];simp[h1],rfl,Below.refl _ _⟩
   ·have r0:∃A,(xs 0)= .slice A dyops.length 4∧Lies w1 w1.heap.size A (Xa dyops):=hdep 0 (by kernel_rfl)
    have h2:xs 2= .int .i64 o:=hdep 2 (by kernel_rfl);refine Ba rfl rfl ?_;obtain⟨A,h0,hA⟩:=r0;have IN:=Je A 4 dyops o w1 hA (by decide);rw[HIN.out] at IN;unfold Cb Oper.wp;simp only[h0,h2];go_simp
    refine IN.mono ?_;rintro e w2 ⟨rfl,rfl⟩;exact⟨_,by simp only[Ja];simp[h0,h2],rfl,Below.refl _ _⟩
   ·have h3:xs 3= .bool true:=hdep 3 (by kernel_rfl)
    refine Ba rfl rfl ?_;unfold Cb Oper.wp;simp only[h3];go_simp
    exact⟨_,by simp only[Ja];simp[h3],rfl,Below.refl _ _⟩
   ·have h4:xs 4= .bool false:=hdep 4 (by kernel_rfl)
    refine Ba rfl rfl ?_;unfold Cb Oper.wp;simp only[h4];go_simp
    exact⟨_,by simp only[Ja];simp[h4],rfl,Below.refl _ _⟩
   ·have h5:xs 5= .bool false:=hdep 5 (by kernel_rfl)
    refine Ec rfl (by unfold Cb;simp[Region.wanted,yielded,h5]) ?_;unfold Cb Oper.wp;simp only[h5];go_simp
    exact⟨_,by simp only[Ja];simp[h5],rfl,Below.refl _ _⟩
   ·have h6:xs 6= .pointer (some ⟨g,7,none⟩):=hdep 6 (by kernel_rfl)
    have h5:xs 5= .bool false:=hdep 5 (by kernel_rfl);refine Ec rfl (by unfold Cb;simp[Region.wanted,yielded,h5]) ?_;have c7:w1.cell? ⟨g,7,none⟩=some (.slice A4 l.length c4):=HC7.out w1 hb;unfold Cb Oper.wp;simp only[h6,h5];go_simp
    exact⟨_,by simp only[Ja];simp[h6,h5],rfl,Below.refl _ _⟩
   ·have h7:xs 7= .slice A4 l.length c4:=hdep 7 (by kernel_rfl)
    have h5:xs 5= .bool false:=hdep 5 (by kernel_rfl);refine Ec rfl (by unfold Cb;simp[Region.wanted,yielded,h5]) ?_;unfold Cb Oper.wp;simp only[h7,h5];go_simp
    exact⟨_,by simp only[Ja];simp[h7,h5],rfl,Below.refl _ _⟩
   ·have h8:xs 8= .int .i64 (l.length:Int):=hdep 8 (by kernel_rfl)
    have h5:xs 5= .bool false:=hdep 5 (by kernel_rfl);refine Ec rfl (by unfold Cb;simp[Region.wanted,yielded,h5]) ?_;have q8:((l.length:Int)!=2)=true:=HN4.out;unfold Cb Oper.wp;simp only[h8,h5];go_simp
    exact⟨_,by simp only[Ja];simp[h8,h5],rfl,Below.refl _ _⟩
   ·have h5:xs 5= .bool false:=hdep 5 (by kernel_rfl)
    have h9:xs 9= .bool true:=hdep 9 (by kernel_rfl);refine Ba rfl rfl ?_;unfold Cb Oper.wp;simp only[h5,h9];go_simp
    exact⟨_,by simp only[Ja];simp[h5,h9],rfl,Below.refl _ _⟩
   ·have h10:xs 10= .bool true:=hdep 10 (by kernel_rfl)
    refine Ba rfl rfl ?_;unfold Cb Oper.wp;simp only[h10];go_simp
    exact⟨_,by simp only[Ja];simp[h10],rfl,Below.refl _ _⟩
   ·have h11:xs 11= .bool true:=hdep 11 (by kernel_rfl)
    refine Qb rfl (by unfold Cb;simp[Region.wanted,yielded,h11]) ?_;exact⟨_,by simp only[Cb,Ja];simp[Act.put],rfl,Below.refl _ _⟩
   ·have h11:xs 11= .bool true:=hdep 11 (by kernel_rfl)
    refine Qb rfl (by unfold Cb;simp[Region.wanted,yielded,h11]) ?_;exact⟨_,by simp only[Cb,Ja];simp[Act.put],rfl,Below.refl _ _⟩
   ·have h11:xs 11= .bool true:=hdep 11 (by kernel_rfl)
    refine Qb rfl (by unfold Cb;simp[Region.wanted,yielded,h11]) ?_;exact⟨_,by simp only[Cb,Ja];simp[Act.put],rfl,Below.refl _ _⟩
   ·have h11:xs 11= .bool true:=hdep 11 (by kernel_rfl)
    refine Qb rfl (by unfold Cb;simp[Region.wanted,yielded,h11]) ?_;exact⟨_,by simp only[Cb,Ja];simp[Act.put],rfl,Below.refl _ _⟩
   ·have h11:xs 11= .bool true:=hdep 11 (by kernel_rfl)
    refine Qb rfl (by unfold Cb;simp[Region.wanted,yielded,h11]) ?_;exact⟨_,by simp only[Cb,Ja];simp[Act.put],rfl,Below.refl _ _⟩
   ·have h11:xs 11= .bool true:=hdep 11 (by kernel_rfl)
    refine Qb rfl (by unfold Cb;simp[Region.wanted,yielded,h11]) ?_;exact⟨_,by simp only[Cb,Ja];simp[Act.put],rfl,Below.refl _ _⟩
   ·have h11:xs 11= .bool true:=hdep 11 (by kernel_rfl)
    refine Qb rfl (by unfold Cb;simp[Region.wanted,yielded,h11]) ?_;exact⟨_,by simp only[Cb,Ja];simp[Act.put],rfl,Below.refl _ _⟩
   have h11:xs 11= .bool true:=hdep 11 (by kernel_rfl);have h18:xs 18=undef:=hdep 18 (by kernel_rfl);refine Ba rfl rfl ?_;unfold Cb Oper.wp;simp only[h11,h18];go_simp
   exact⟨_,by simp only[Ja];simp[h11,h18],rfl,Below.refl _ _⟩
  intro xs w1 hb hx;have h19:xs 19= .bool true:=hx 19 (by decide);clear hx;unfold Cb;simp only[h19];go_wp2_with fail
  go_ret;exact⟨Aa (by rw[HZ.out]),by rw[←HGG.out];exact HWB.out.trans (hb.mono HWS.out)⟩
 have HZ:Hid (R=false):=Qd (by rw[HRR.out,Gc,if_neg hf1]);have q1:(f !=1)=true:=bne_iff_ne.2 hf1;go_enter Tryz.func95,Tryz.ntmps95
 go_upto_region 1 with fail
 rw[←HW.out];rw[←hg];clear hg;go_wp2_with (with_reducible refine Ua (.tmp 1) rfl rfl g rfl (HGB0.out _ (Below.refl _ _)) HIA.out ?_)
 refine FD.out.mono ?_;rintro e w2 ⟨rfl,hb2⟩;go_wp2_with fail
 go_ret;exact⟨Aa (by rw[HZ.out]),by rw[←HGG.out];exact HWB0.out.trans (hb2.mono HWS0.out)⟩
end
section
open Go.RowKit Tr
structure FunK (w:World) (B:Nat) (F:FuncId) (caps:Array Value) (p:Int→Bool):Prop where
 enter:∀args w,(callFunc F args).run Tryz.prog w= .ok (.enter F args) w
 run:∀(a:Da) (vs:List Value) (wx:World),Below w.heap.size w wx→IsTree wx B a vs→Calls Tryz.prog F (#[.agg vs.toArray]++caps) wx (Oa wx (p (kind a)))
theorem FunK.later {w w':World}{B:Nat}{F:FuncId}{caps:Array Value}{p:Int→Bool}(h:FunK w B F caps p)(hb:Below w.heap.size w w'):FunK w' B F caps p:=
 ⟨h.enter,λa vs wx hx ht=>h.run a vs wx (hb.trans (hx.mono hb.size)) ht⟩
theorem Ai (a:Da)(vs:List Value)(w:World)(B:Nat)(h:IsTree w B a vs):Calls Tryz.prog 112 #[.agg vs.toArray] w (Oa w (array (kind a))):=by
 obtain⟨k,o,m,nm,t,l⟩:=a;show Calls _ _ _ _ (Oa w (array k));obtain⟨W,hW⟩:∃W,W=w.alloc (.cells vs.toArray 28):=⟨_,rfl⟩;obtain⟨A1,A2,A3,A4,c1,c2,c3,c4,us,HO,HL,HC,hW8,HG,hWl,hWb⟩:=Tb h hW;have q0:W.cell? ⟨w.heap.size,0,none⟩=some (.int .i64 k):=hW8.p0;have HWB:=Qd hWb;have HW:=Qd hW;have AR:=Qd (λwx=>Oh k wx);generalize array k=x at*;clear h hW hW8 HO HL HC HG hWb;go_enter Tryz.func112,Tryz.ntmps112
 go_upto_region 1 with fail
 rw[←HW.out];go_wp2_with fail
 refine(AR.out _).mono ?_;rintro e w1 ⟨rfl,rfl⟩;go_wp2_with fail
 go_ret;exact⟨rfl,HWB.out⟩
theorem Bq (a:Da)(vs:List Value)(w:World)(B:Nat)(h:IsTree w B a vs):Calls Tryz.prog 114 #[.agg vs.toArray] w (Oa w (func (kind a))):=by
 obtain⟨k,o,m,nm,t,l⟩:=a;show Calls _ _ _ _ (Oa w (func k));obtain⟨W,hW⟩:∃W,W=w.alloc (.cells vs.toArray 28):=⟨_,rfl⟩;obtain⟨A1,A2,A3,A4,c1,c2,c3,c4,us,HO,HL,HC,hW8,HG,hWl,hWb⟩:=Tb h hW;have q0:W.cell? ⟨w.heap.size,0,none⟩=some (.int .i64 k):=hW8.p0;have HWB:=Qd hWb;have HW:=Qd hW;have AR:=Qd (λwx=>R4 k wx);generalize func k=x at*;clear h hW hW8 HO HL HC HG hWb;go_enter Tryz.func114,Tryz.ntmps114
 go_upto_region 1 with fail
 rw[←HW.out];go_wp2_with fail
 refine(AR.out _).mono ?_;rintro e w1 ⟨rfl,rfl⟩;go_wp2_with fail
 go_ret;exact⟨rfl,HWB.out⟩
theorem Yw (a:Da)(vs:List Value)(w:World)(B:Nat)(h:IsTree w B a vs):Calls Tryz.prog 117 #[.agg vs.toArray] w (Oa w (plain (kind a))):=by
 obtain⟨k,o,m,nm,t,l⟩:=a;show Calls _ _ _ _ (Oa w (plain k));obtain⟨W,hW⟩:∃W,W=w.alloc (.cells vs.toArray 28):=⟨_,rfl⟩;obtain⟨A1,A2,A3,A4,c1,c2,c3,c4,us,HO,HL,HC,hW8,HG,hWl,hWb⟩:=Tb h hW;have q0:W.cell? ⟨w.heap.size,0,none⟩=some (.int .i64 k):=hW8.p0;have HWB:=Qd hWb;have HW:=Qd hW;have AR:=Qd (λwx=>Fp k wx);generalize plain k=x at*;clear h hW hW8 HO HL HC HG hWb;go_enter Tryz.func117,Tryz.ntmps117
 go_upto_region 1 with fail
 rw[←HW.out];go_wp2_with fail
 refine(AR.out _).mono ?_;rintro e w1 ⟨rfl,rfl⟩;go_wp2_with fail
 go_ret;exact⟨rfl,HWB.out⟩
theorem Zw (a:Da)(vs:List Value)(w:World)(B:Nat)(h:IsTree w B a vs):Calls Tryz.prog 113 #[.agg vs.toArray] w (Oa w (Ae (kind a))):=by
 obtain⟨k,o,m,nm,t,l⟩:=a;show Calls _ _ _ _ (Oa w (Ae k));obtain⟨W,hW⟩:∃W,W=w.alloc (.cells vs.toArray 28):=⟨_,rfl⟩;obtain⟨A1,A2,A3,A4,c1,c2,c3,c4,us,HO,HL,HC,hW8,HG,hWl,hWb⟩:=Tb h hW;have q0:W.cell? ⟨w.heap.size,0,none⟩=some (.int .i64 k):=hW8.p0;have HWB:=Qd hWb;have HW:=Qd hW;have AR:=Qd (λwx=>Oh k wx);have HE:Hid (Ae k=(array k||(k==10))):=Qd rfl;generalize Ae k=R at*;generalize array k=x at*;clear h hW hW8 HO HL HC HG hWb;cases x;all_goals
  cases q:(k==10);all_goals
   rw[q] at HE;go_enter Tryz.func113,Tryz.ntmps113
   go_upto_region 1 with fail
   rw[←HW.out];go_wp2_with fail
   refine(AR.out _).mono ?_;rintro e w1 ⟨rfl,rfl⟩;go_wp2_with fail
   go_ret;exact⟨Aa (by rw[HE.out];rfl),HWB.out⟩
theorem Ss (w:World)(B:Nat):FunK w B 112 #[] array:=⟨enters_of Tryz.func112 (by kernel_rfl) rfl,λa vs wx _ h=>Ai a vs wx B h⟩
theorem Ts (w:World)(B:Nat):FunK w B 113 #[] Ae:=⟨enters_of Tryz.func113 (by kernel_rfl) rfl,λa vs wx _ h=>Zw a vs wx B h⟩
theorem U7 (w:World)(B:Nat):FunK w B 114 #[] func:=⟨enters_of Tryz.func114 (by kernel_rfl) rfl,λa vs wx _ h=>Bq a vs wx B h⟩
theorem X4 (w:World)(B:Nat):FunK w B 117 #[] plain:=⟨enters_of Tryz.func117 (by kernel_rfl) rfl,λa vs wx _ h=>Yw a vs wx B h⟩
def Lz (r:Bool)(w:World)(e:Ending)(w':World):Prop:=∃i:Int,e= .returned (.int .i64 i)∧decide (0≤i)=r∧Below w.heap.size w w'
theorem Y4 {l:List Da}{p:Int→Bool}{j:Nat}(h:j<l.length):(l.take (j+1)).any (λa=>p (kind a))=((l.take j).any (λa=>p (kind a))||p (kind l[j])):=by
 rw[List.take_succ_eq_append_getElem h,List.any_append];simp
theorem V7 {l:List Da}{p:Int→Bool}{j:Nat}(h:j<l.length)(hp:p (kind l[j])=true):l.any (λa=>p (kind a))=true:=List.any_eq_true.2 ⟨l[j],List.getElem_mem h,hp⟩
theorem Fo (F:FuncId)(caps:Array Value)(p:Int→Bool)(A:Option Addr)(c:Nat)(l:List Da)(us:List Value)(w:World)(B:Nat)(hl:Lies w B A us)(hc:IsTrees w B l us)(hB:B≤w.heap.size)(hn:l.length≤1100000000000)(hF:FunK w B F caps p):
 Calls Tryz.prog 183 #[.slice A l.length c,.func (.func F) #[] caps] w (Lz (l.any (λa=>p (kind a))) w):=by
 have HA:=Qd hl;have HC:=Qd hc;have HF:=Qd hF;have HE:=hF.enter;have HBS:=Qd hB;clear hl hF hc;go_enter Tryz.func183,Tryz.ntmps183
 go_wp2_with fail
 go_loopw [8] (λiv wr=>∃i:Nat,i≤l.length∧iv= .int .i64 (i:Int)∧Hid ((l.take i).any (λa=>p (kind a))=false)∧Below w.heap.size w wr) (λiv _=>l.length-(intOf iv).toNat)
 case atStart=>exact⟨0,Nat.zero_le _,rfl,Qd rfl,Below.refl _ _⟩
 case round=>
  obtain⟨k,hk,rfl,HT,hbel⟩:=hrel;by_cases hlt:k<l.length
  ·obtain⟨b,off,tv,rfl,hb,HTR,HR⟩:=Nd HC.out HA.out (wr:=wr) (λq hq=>hbel.cell (by omega)) hlt
   have H1:=Qd (Y4 (p:=p) hlt);have H2:=Qd (V7 (p:=p) hlt);have FX:=Qd (HF.out.run l[k] tv wr hbel (HTR.out.below (hbel.mono hB)));have HI:=Qd (Ld HTR.out);clear HTR;generalize p (kind l[k])=r at*;have hk0:(0:Int)≤(k:Int):=by omega
   have hk1:(k:Int)<(l.length:Int):=by omega
   cases r
   ·have H3:Hid ((l.take (k+1)).any (λa=>p (kind a))=false):=Qd (by rw[H1.out,HT.out];rfl)
    go_wp2_with (with_reducible refine wpList_load_mid rfl 28 (.tmp 14) rfl b (off+k*8) rfl tv _ HR.out Tryz.underlying28 rfl HI.out ?_)
    refine FX.out.mono ?_;rintro e w' ⟨rfl,hb2⟩;go_wp2_with fail
    go_roundw
    case rel=>exact⟨k+1,by omega,by go_num,H3,hbel.trans (hb2.mono hbel.size)⟩
    case measure=>simp[intOf];omega
   have H3:=Qd (H2.out rfl);go_wp2_with (with_reducible refine wpList_load_mid rfl 28 (.tmp 14) rfl b (off+k*8) rfl tv _ HR.out Tryz.underlying28 rfl HI.out ?_)
   refine FX.out.mono ?_;rintro e w' ⟨rfl,hb2⟩;go_wp2_with fail
   go_ret;exact⟨_,rfl,by rw[H3.out];exact decide_eq_true (by omega),hbel.trans (hb2.mono hbel.size)⟩
  have H3:Hid (l.any (λa=>p (kind a))=false):=Qd (by have:=HT.out;rwa[List.take_of_length_le (by omega)] at this);go_wp2_with fail
  go_ret;exact⟨_,rfl,by rw[H3.out];rfl,hbel⟩
theorem Cq (F:FuncId)(caps:Array Value)(p:Int→Bool)(A:Option Addr)(c:Nat)(l:List Da)(us:List Value)(w:World)(B:Nat)(hl:Lies w B A us)(hc:IsTrees w B l us)(hB:B≤w.heap.size)(hn:l.length≤1100000000000)(hF:FunK w B F caps p):
 Calls Tryz.prog 156 #[.slice A l.length c,.func (.func F) #[] caps] w (Oa w (l.any (λa=>p (kind a)))):=by
 have IX:=Qd (Fo F caps p A c l us w B hl hc hB hn hF);clear hl hF hc;generalize l.any (λa=>p (kind a))=r at*;generalize l.length=n at*;go_enter Tryz.func156,Tryz.ntmps156
 go_wp2_with fail
 refine IX.out.mono ?_;rintro e w' ⟨i,rfl,hr,hb⟩;go_wp2_with fail
 go_ret;exact⟨Aa (by first|exact hr |rfl),hb⟩
end
section
open Go.RowKit Tr
theorem Us {w:World}{B:Nat}{a:Da}{vs:List Value}(h:IsTree w B a vs):vs.toArray.all (·.oneCell')=true:=by
 obtain⟨A1,A2,A3,A4,c1,c2,c3,c4,rfl⟩:=h.form;simp[Hb,Value.oneCell']
theorem Mz (F:FuncId)(caps:Array Value)(p:Int→Bool)(g:Nat)(a:Da)(vs:List Value)(w:World)(B:Nat)(h:IsTree w B a vs)(hB:B≤w.heap.size)(hg:w.cell? ⟨g,0,none⟩=some (.func (.func F) #[] caps))(hgl:g<w.heap.size)(hF:FunK w B F caps p):
 Calls Tryz.prog 157 #[.agg vs.toArray,.pointer (some ⟨g,0,none⟩)] w (Oa w (!p (kind a))):=by
 obtain⟨W,hW⟩:∃W,W=w.alloc (.cells vs.toArray 28):=⟨_,rfl⟩;have hWb:Below w.heap.size w W:=by rw[hW];exact(Below.refl _ _).alloc (Nat.le_refl _) _
 have HG:Hid (W.heap[w.heap.size]? =some (.cells vs.toArray 28 (0,0))):=Qd (by rw[hW];exact heap_alloc_new w _);have HIA:=Qd (Zc h);have FX:=Qd (hF.run a vs W hWb (h.below (hWb.mono hB)));have q0:W.cell? ⟨g,0,none⟩=some (.func (.func F) #[] caps):=(hWb.cell (p:=⟨g,0,none⟩) hgl).trans hg;have HE:=hF.enter;have HWB:=Qd hWb;have HWS:Hid (w.heap.size≤W.heap.size):=Qd (by rw[hW];simp);have HW:=Qd hW;generalize p (kind a)=r at*;clear h hW hWb hF hg;go_enter Tryz.func157,Tryz.ntmps157
 go_upto_region 1 with fail
 rw[←HW.out];go_wp2_with (with_reducible refine Ua (.tmp 2) rfl rfl w.heap.size rfl HG.out HIA.out ?_)
 refine FX.out.mono ?_;rintro e w2 ⟨rfl,hb2⟩;go_wp2_with fail
 go_ret;exact⟨rfl,HWB.out.trans (hb2.mono HWS.out)⟩
theorem Gj (F:FuncId)(caps:Array Value)(p:Int→Bool)(A:Option Addr)(c:Nat)(l:List Da)(us:List Value)(w:World)(B:Nat)(hl:Lies w B A us)(hc:IsTrees w B l us)(hB:B≤w.heap.size)(hn:l.length≤1100000000000)(hF:FunK w B F caps p):
 Calls Tryz.prog 111 #[.slice A l.length c,.func (.func F) #[] caps] w (Oa w ((l.map kind).all p)):=by
 obtain⟨W,hW⟩:∃W,W=w.alloc (.cells #[.func (.func F) #[] caps] 29):=⟨_,rfl⟩;have hWb:Below w.heap.size w W:=by rw[hW];exact(Below.refl _ _).alloc (Nat.le_refl _) _
 have hWl:w.heap.size<W.heap.size:=by rw[hW];simp
 have hg:W.cell? ⟨w.heap.size,0,none⟩=some (.func (.func F) #[] caps):=by rw[hW];go_simp
 have FK:FunK W B 157 #[.pointer (some ⟨w.heap.size,0,none⟩)] (λk=> !p k):=⟨enters_of Tryz.func157 (by kernel_rfl) rfl,λa vs wx hx ht=>
  Mz F caps p w.heap.size a vs wx B ht (by have:=hx.size;omega) ((hx.cell (p:=⟨w.heap.size,0,none⟩) hWl).trans hg) (by have:=hx.size;omega) ((hF.later hWb).later hx)⟩
 have CF:=Qd (Cq _ _ _ A c l us W B (hl.below (hWb.mono hB)) (hc.below (hWb.mono hB)) (by omega) hn FK);have HE:Hid ((l.map kind).all p= !l.any (λa=> !p (kind a))):=Qd (by
  rw[List.all_map,List.any_eq_not_all_not];simp only[Bool.not_not];rfl)
 have HWB:=Qd hWb;have HWS:Hid (w.heap.size≤W.heap.size):=Qd (by omega);have HW:=Qd hW;generalize l.any (λa=> !p (kind a))=r at*;generalize(l.map kind).all p=R at*;generalize l.length=n at*;clear hl hc hF FK hW hWb hg;go_enter Tryz.func111,Tryz.ntmps111
 go_upto_region 1 with fail
 rw[←HW.out];go_wp2_with fail
 refine CF.out.mono ?_;rintro e w2 ⟨rfl,hb2⟩;go_wp2_with fail
 go_ret;exact⟨Aa (by rw[HE.out]),HWB.out.trans (hb2.mono HWS.out)⟩
structure FnP where
 F:FuncId
 caps:Array Value
 p:Int→Bool
def FnP.val (f:FnP):Value:= .func (.func f.F) #[] f.caps
theorem Nz {l:List Da}:∀{fs:List FnP} {i:Nat} (h:l.length=fs.length) (hi:i<l.length) (hp:(fs[i]'(by omega)).p (kind l[i])=false),Ra (l.map kind) (fs.map FnP.p)=false:=by
 induction l with
 |nil=>intro fs i _ hi;simp at hi
 |cons a r ih=>
  intro fs i h hi hp;cases fs with
  |nil=>simp at h
  |cons f fs=>
   rw[List.map_cons,List.map_cons,Ra];cases i with
   |zero=>rw[show f.p (kind a)=false from hp];rfl
   |succ i=>rw[ih (fs:=fs) (i:=i) (by simpa using h) (by simpa using hi) hp,Bool.and_false]
theorem Ax {l:List Da}:∀{fs:List FnP} (h:l.length=fs.length) (hp:∀i (hi:i<l.length),(fs[i]'(by omega)).p (kind l[i])=true),Ra (l.map kind) (fs.map FnP.p)=true:=by
 induction l with
 |nil=>
  intro fs h _;cases fs with
  |nil=>rfl
  |cons _ _=>simp at h
 |cons a r ih=>
  intro fs h hp;cases fs with
  |nil=>simp at h
  |cons f fs=>
   rw[List.map_cons,List.map_cons,Ra,show f.p (kind a)=true from hp 0 (by simp),ih (fs:=fs) (by simpa using h) (λi hi=>hp (i+1) (by simpa using hi))];rfl
theorem Oz {l:List Da}:∀{fs:List FnP} (h:l.length≠fs.length),Ra (l.map kind) (fs.map FnP.p)=false:=by
 induction l with
 |nil=>
  intro fs h;cases fs with
  |nil=>simp at h
  |cons _ _=>rfl
 |cons a r ih=>
  intro fs h;cases fs with
  |nil=>rfl
  |cons f fs=>rw[List.map_cons,List.map_cons,Ra,ih (fs:=fs) (by simpa using h),Bool.and_false]
namespace T13
def slotsL:List Value→Nat→Value
 | [],_=>undef
 |v::_,0=>v
 |_::l,n+1=>slotsL l n
end T13
open T13
def Mc (s0 s1 s2 s3 s4 s5 s6 s7 s8 s9 s10 s11 s12 s13 s14 s15 s16 s17 s18 s26:Value)(xs:Nat→Value):Act:={tmps:= #[s0,s1,s2,s3,s4,s5,s6,s7,s8,s9,s10,s11,s12,s13,s14,s15,s16,s17,s18,xs 0,xs 1,xs 2,xs 3,xs 4,xs 5,xs 6,s26],defers:=[]}
def X7 (n2 c2 j b2 off2:Nat)(F:FuncId)(caps:Array Value)(gb:Nat)(tv:List Value)(r:Bool):Nat→World→Value→Prop
 | 0,w,v=>v= .slice (some ⟨b2,off2,none⟩) n2 c2
 | 1,w,v=>v= .int .i64 (j:Int)
 | 2,w,v=>v= .pointer (some ⟨b2,off2+j,none⟩)
 | 3,w,v=>v= .func (.func F) #[] caps
 | 4,w,v=>v= .agg tv.toArray
 | 5,w,v=>v= .bool r
 |_,w,v=>v= .bool (!r)
theorem Ip (fs:List FnP)(A':Option Addr)(c':Nat)(A:Option Addr)(c:Nat)(l:List Da)(us:List Value)(w:World)(B:Nat)(hl:Lies w B A us)(hc:IsTrees w B l us)(hB:B≤w.heap.size)(hn:l.length≤1100000000000)(hn':fs.length≤1000)
 (hfl:Lies w w.heap.size A' (fs.map FnP.val)) (hF:∀f∈fs,FunK w B f.F f.caps f.p):
 Calls Tryz.prog 110 #[.slice A l.length c,.slice A' fs.length c'] w (Oa w (Ra (l.map kind) (fs.map FnP.p))):=by
 by_cases hlen:l.length=fs.length
 ·have HA:=Qd hl
  have HC:=Qd hc;have HFL:=Qd hfl;have HF:Hid (∀i (hi:i<fs.length),FunK w B fs[i].F fs[i].caps fs[i].p):=Qd (λi hi=>hF _ (List.getElem_mem hi));have PB:Hid (∀i (hi:i<l.length),(fs[i]'(by omega)).p (kind l[i])=false→Ra (l.map kind) (fs.map FnP.p)=false):=Qd (λi hi h=>Nz hlen hi h);have PG:=Qd (@Ax l fs hlen);have ql:((l.length:Int)!=(fs.length:Int))=false:=by rw[hlen];simp
  have hli:(fs.length:Int)=(l.length:Int):=by rw[hlen]
  have HL:=Qd hlen;generalize Ra (l.map kind) (fs.map FnP.p)=R at*;clear hl hc hfl hF;go_enter Tryz.func110,Tryz.ntmps110
  go_wp2_with fail
  go_loopw [14] (λi wr=>∃(j:Nat),j≤l.length∧i= .int .i64 j∧Hid (∀i (hi:i<l.length),i<j→(fs[i]'(by omega)).p (kind l[i])=true)∧Below w.heap.size w wr) (λi _=>l.length-(intOf i).toNat)
  case atStart=>exact⟨0,Nat.zero_le _,rfl,Qd (λi hi h=>by omega),Below.refl _ _⟩
  case round=>
   obtain⟨j,hj,rfl,HI,hbel⟩:=hrel;by_cases hlt:j<l.length
   ·have hj2:j<fs.length:=by omega
    obtain⟨b,off,tv,rfl,hb,HTR,HR⟩:=Nd HC.out HA.out (wr:=wr) (λq hq=>hbel.cell (by omega)) hlt;obtain⟨b2,off2,rfl,hb2,g2⟩:=HFL.out.at_ (k:=j) (by simpa using hj2);obtain⟨WB,hWB⟩:∃W,W=wr.alloc (.cells tv.toArray 28):=⟨_,rfl⟩;have hwb:Below wr.heap.size wr WB:=by rw[hWB];exact(Below.refl _ _).alloc (Nat.le_refl _) _
    have hwl:wr.heap.size<WB.heap.size:=by rw[hWB];simp
    have HBE:Hid (Below w.heap.size w WB):=Qd (hbel.trans (hwb.mono hbel.size));have HBS:Hid (w.heap.size≤WB.heap.size):=Qd (Nat.le_trans hbel.size (Nat.le_of_lt hwl));have HFC:Hid (∀w1,Below WB.heap.size WB w1→w1.cell? ⟨b2,off2+j,none⟩=some (.func (.func (fs[j]'hj2).F) #[] (fs[j]'hj2).caps)):=Qd (λw1 hx=>by
     rw[hx.cell (p:=⟨b2,off2+j,none⟩) (Nat.lt_of_lt_of_le hb2 HBS.out),HBE.out.cell (p:=⟨b2,off2+j,none⟩) hb2,g2];simp[FnP.val])
    have HGB:Hid (∀w1,Below WB.heap.size WB w1→w1.heap[wr.heap.size]? =some (.cells tv.toArray 28 (0,0))):=Qd (λw1 hx=>(hx.block _ hwl).trans (by rw[hWB];exact heap_alloc_new wr _));have HIA:=Qd (Zc HTR.out);have HIL:=Qd (Ld HTR.out);have HSZ:Hid (tv.toArray.size=8):=Qd (by rw[List.size_toArray,HTR.out.len]);have HON:=Qd (Us HTR.out);have HEN:=Qd (HF.out j hj2).enter;have FX:Hid (∀w1,Below WB.heap.size WB w1→Calls Tryz.prog (fs[j]'hj2).F (#[.agg tv.toArray]++(fs[j]'hj2).caps) w1 (Oa w1 ((fs[j]'hj2).p (kind l[j])))):=Qd (λw1 hx=>(HF.out j hj2).run l[j] tv w1 (HBE.out.trans (hx.mono HBS.out)) (HTR.out.below ((HBE.out.trans (hx.mono HBS.out)).mono hB)));have HS1:Hid ((fs[j]'hj2).p (kind l[j])=true→∀i (hi:i<l.length),i<j+1→(fs[i]'(by omega)).p (kind l[i])=true):=Qd (λh i hi hij=>by
     by_cases e:i=j
     ·subst e;exact h
     exact HI.out i hi (by omega))
    have HF1:=Qd (PB.out j hlt);have HJ0:Hid ((0:Int)≤(j:Int)):=Qd (by omega);have HJ1:Hid ((j:Int)<(fs.length:Int)):=Qd (by omega);generalize(fs[j]'hj2).p (kind l[j])=r at*;have HWB:=Qd hWB;clear HTR PB PG g2 hwb hWB;go_upto_region 6 with(first
     |(with_reducible refine wpList_load_mid rfl 28 (.tmp 17) rfl b (off+j*8) rfl tv _ HR.out Tryz.underlying28 rfl HIL.out ?_)
     |(refine wpList_store_row rfl 28 (.tmp 6) (.tmp 18) rfl wr.heap.size tv.toArray rfl rfl 28 _ (heap_alloc_new wr _) HIA.out HSZ.out.symm HON.out ?_;rw[World.setRow_alloc_new]))
    rw[←HWB.out];refine Ic (Mc _ _ _ _ _ _ _ _ _ _ _ _ _ _ _ _ _ _ _ _) WB (X7 fs.length c' j b2 off2 (fs[j]'hj2).F (fs[j]'hj2).caps wr.heap.size tv r) (by kernel_rfl) ?_ (by kernel_rfl) (slotsL [_,_,_,_,_,_,_]) rfl (Below.refl _ _) ?_ ?_
    ·intro i w1 w2 v hv hb
     match i with
     | 0=>exact hv
     | 1=>exact hv
     | 2=>exact hv
     | 3=>exact hv
     | 4=>exact hv
     | 5=>exact hv
     |i+6=>exact hv
    ·intro i xs w1 hi hb hdep
     have hi6:i<7:=hi;clear hi;rcases(show i=0∨i=1∨i=2∨i=3∨i=4∨i=5∨i=6 by omega) with rfl |rfl |rfl |rfl |rfl |rfl |rfl
     ·refine Ba rfl rfl ?_
      unfold Mc Oper.wp;go_simp
      exact⟨_,by simp only[Mc,Ja];simp[Act.put],rfl,Below.refl _ _⟩
     ·refine Ba rfl rfl ?_
      unfold Mc Oper.wp;go_simp
      exact⟨_,by simp only[Mc,Ja];simp[Act.put],rfl,Below.refl _ _⟩
     ·have h0:xs 0= .slice (some ⟨b2,off2,none⟩) fs.length c':=hdep 0 (by kernel_rfl)
      have h1:xs 1= .int .i64 (j:Int):=hdep 1 (by kernel_rfl);refine Ba rfl rfl ?_;have i0:(0:Int)≤(j:Int):=HJ0.out;have i1:(j:Int)<(fs.length:Int):=HJ1.out;have i2:((j:Int)).toNat=j:=rfl;unfold Mc Oper.wp;simp only[h0,h1];go_simp
      exact⟨_,by simp only[Mc,Ja];simp[Act.put,h0,h1],rfl,Below.refl _ _⟩
     ·have h2:xs 2= .pointer (some ⟨b2,off2+j,none⟩):=hdep 2 (by kernel_rfl)
      refine Ba rfl rfl ?_;have c3:w1.cell? ⟨b2,off2+j,none⟩=some (.func (.func (fs[j]'hj2).F) #[] (fs[j]'hj2).caps):=HFC.out w1 hb;unfold Mc Oper.wp;simp only[h2];go_simp
      exact⟨_,by simp only[Mc,Ja];simp[Act.put,h2],rfl,Below.refl _ _⟩
     ·refine Ba rfl rfl ?_
      refine wp_load_row 28 (.tmp 6) rfl wr.heap.size rfl 28 tv.toArray (0,0) _ (HGB.out w1 hb) Tryz.underlying28 rfl HIA.out ?_;exact⟨_,by simp only[Mc,Ja];simp[Act.put],rfl,Below.refl _ _⟩
     ·have h3:xs 3= .func (.func (fs[j]'hj2).F) #[] (fs[j]'hj2).caps:=hdep 3 (by kernel_rfl)
      have h4:xs 4= .agg tv.toArray:=hdep 4 (by kernel_rfl);refine Ba rfl rfl ?_;have HE:=HEN.out;unfold Mc Oper.wp;simp only[h3,h4];go_simp
      refine(FX.out w1 hb).mono ?_;rintro e w2 ⟨rfl,hb2⟩;exact⟨_,by simp only[Mc,Ja];simp[Act.put,h3,h4],rfl,hb2⟩
     have h5:xs 5= .bool r:=hdep 5 (by kernel_rfl);refine Ba rfl rfl ?_;unfold Mc Oper.wp;simp only[h5];go_simp
     exact⟨_,by simp only[Mc,Ja];simp[Act.put,h5],rfl,Below.refl _ _⟩
    intro xs w1 hb hx;have h6:xs 6= .bool (!r):=hx 6 (by decide);clear hx;have HBX:=Qd hb;unfold Mc;simp only[h6];clear h6 hb;cases r
    ·have HZ:=Qd (HF1.out rfl)
     go_wp2_with fail
     go_ret;exact⟨Aa (by rw[HZ.out]),HBE.out.trans (HBX.out.mono HBS.out)⟩
    have HN:=Qd (HS1.out rfl);go_wp2_with fail
    go_roundw
    case rel=>exact⟨_,_,_,_,⟨j+1,by omega,rfl,Qd (λi hi hij=>HN.out i (by have:=HL.out;omega) hij),HBE.out.trans (HBX.out.mono HBS.out)⟩,rfl,rfl,rfl,by go_num⟩
    case measure=>simp[intOf];omega
   have HZ:=Qd (PG.out (λi hi=>HI.out i hi (by omega)));go_wp2_with fail
   go_ret;exact⟨Aa (by rw[HZ.out]),hbel⟩
 have HZ:=Qd (Oz hlen);generalize Ra (l.map kind) (fs.map FnP.p)=R at*;have ql:((l.length:Int)!=(fs.length:Int))=true:=bne_iff_ne.2 (by omega);clear hl hc hfl hF;go_enter Tryz.func110,Tryz.ntmps110
 go_wp2_with fail
 go_ret;exact⟨Aa (by rw[HZ.out]),Below.refl _ _⟩
end
end Go.Proofs.YtceplkpjnebnfaaGreatDoor
