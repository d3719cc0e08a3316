/-
  Texts of this proof, joined (by wip/bin/bundle.py): Tok8, Tok9, Tok10, Toks, Tok11, Tok12, Tree2, Tree3, Tree4.
-/
import Derived.Test.YtceplkpjnebnfaaGreatDoorM9
import Derived.Deep.CutRange
import Derived.Great.BuildSlice
import Derived.Deep.CutBlock
import Derived.Deep.RegionHeld3
import Derived.Laws.Cover4
import Derived.Deep.RegionWith
import Derived.Scope
import Derived.WalkMore
import Derived.Deep.MidRow
import Derived.Deep.QuietTactic
import Derived.BigQuiet
import Derived.Laws.Rows
import Derived.LoopTactic
set_option linter.all false
set_option maxHeartbeats 8000000
set_option maxRecDepth 100000
namespace Go.Proofs.YtceplkpjnebnfaaGreatDoor
section
open Go.RowKit
theorem Co {l:List Int}{i:Nat}(hc:l.getD i (-1)=39)(h:Tk.quote l (l.length+1) (i+1) []=none):Tk.read l i=(Tk.none_,0,1):=by
 unfold Tk.read;simp only;rw[if_neg (by rw[hc];decide),if_neg (by rw[hc];decide),if_pos hc,h]
theorem Mi {l:List Int}{i e:Nat}{t:List Int}(hc:l.getD i (-1)=39)(h:Tk.quote l (l.length+1) (i+1) []=some (t,e)):Tk.read l i=(⟨1,Rt.none_,t,[],0,i⟩,e-i,0):=by
 unfold Tk.read;simp only;rw[if_neg (by rw[hc];decide),if_neg (by rw[hc];decide),if_pos hc,h]
theorem Dz {l:List Int}{f k:Nat}{out:List Int}(h:l.length≤k):Tk.quote l f k out=none:=by
 cases f with
 |zero=>rfl
 |succ f=>unfold Tk.quote;rw[if_pos h]
theorem J4 {l:List Int}{f k:Nat}{out:List Int}(h:k<l.length)(h2:l.getD k (-1)≠39):Tk.quote l (f+1) k out=Tk.quote l f (k+1) (out++[l.getD k (-1)]):=by
 rw[Tk.quote,if_neg (by omega),if_pos h2]
theorem En {l:List Int}{f k:Nat}{out:List Int}(h:k<l.length)(h2:l.getD k (-1)=39)(h3:l.getD (k+1) (-1)≠39):Tk.quote l (f+1) k out=some (out,k+1):=by
 rw[Tk.quote,if_neg (by omega),if_neg (λn=>n h2),if_pos h3]
theorem Ez {l:List Int}{f k:Nat}{out:List Int}(h:k<l.length)(h2:l.getD k (-1)=39)(h3:l.getD (k+1) (-1)=39):Tk.quote l (f+1) k out=Tk.quote l f (k+2) (out++[39]):=by
 rw[Tk.quote,if_neg (by omega),if_neg (λn=>n h2),if_neg (λn=>n h3)]
theorem Gn {w:World}{base:Nat}{e:TypeId}{size n:Nat}{v:Value}{xs:List Value}(h:w.ownsRow base e size v n xs){g':Nat}(hg:g'<base)(cs:Array Value):(w.setRow g' cs).ownsRow base e size v n xs:=by
 obtain⟨h1,h2⟩:=h;refine⟨h1,?_⟩;rcases h2 with h2 |⟨g,cap,cur,hv,hb,hh,r⟩
 ·exact .inl h2
 exact .inr ⟨g,cap,cur,hv,hb,by rw[←hh];simp only[World.setRow,Array.getElem?_modify];rw[if_neg (by omega)],r⟩
theorem Qg {w w':World}{base:Nat}{e:TypeId}{size n:Nat}{v:Value}{xs:List Value}(h:w.ownsRow base e size v n xs)(hb:Below w.heap.size w w'):w'.ownsRow base e size v n xs:=by
 obtain⟨h1,h2⟩:=h;refine⟨h1,?_⟩;rcases h2 with h2 |⟨g,cap,cur,hv,hbs,hh,r⟩
 ·exact .inl h2
 have hg:g<w.heap.size:=by
  rcases Nat.lt_or_ge g w.heap.size with h |h
  ·exact h
  rw[Array.getElem?_eq_none h] at hh;cases hh
 exact .inr ⟨g,cap,cur,hv,hbs,(hb.block g hg).trans hh,r⟩
theorem Qt {w:World}{base:Nat}{e:TypeId}{size n:Nat}{v:Value}{xs:List Value}(h:w.ownsRow base e size v n xs){a:Addr}(hg:a.block<base)(u:Value):(w.setCell a u).ownsRow base e size v n xs:=by
 obtain⟨h1,h2⟩:=h;refine⟨h1,?_⟩;rcases h2 with h2 |⟨g,cap,cur,hv,hb,hh,r⟩
 ·exact .inl h2
 exact .inr ⟨g,cap,cur,hv,hb,(Below.heap_setCell w a u g (by omega)).trans hh,r⟩
structure Fs (l:List Int) (i:Nat) (W wr:World) (m:Nat) (out:List Int) (lv:Value):Prop where
 lo:i+1≤m
 hi:m≤l.length
 blk:wr.heap[W.heap.size]? =some (.cells #[.int .i64 1,.bool false,.slice none 0 0,.slice none 0 0,lv,.string ⟨#[]⟩,.int .i64 0,.int .i64 0] 54 (0,0))
 own:wr.ownsRow (W.heap.size+1) 3 1 lv out.length (Xa out)
 below:Below W.heap.size W wr
 more:W.heap.size+1≤wr.heap.size
 len:out.length+(i+1)≤m
 told:∃f,l.length+1≤f+m∧Tk.quote l (l.length+1) (i+1) []=Tk.quote l f m out
theorem K4 (x:Int):Instr.fill (λi=>some (i*1,1)) ((Array.range (1*1)).map λk=>(Value.int IntKind.i64 0).cells[k%(Value.int IntKind.i64 0).cells.size]!) [(0,Value.int IntKind.i64 x)]=some #[Value.int IntKind.i64 x]:=by kernel_rfl
def Uc (V0 vi p4 p7 v8:Value)(u xs:Nat→Value):Act:={tmps:= #[V0,vi,undef,undef,p4,u 5,u 6,p7,v8,u 9,u 10,u 11,u 12,u 13,u 14,u 15,u 16,u 17,u 18,u 19,u 20,u 21,u 22,u 23,u 24,u 25,u 26,u 27,u 28,u 29,u 30,u 31,u 32,u 33,u 34,u 35,u 36,u 37,u 38,u 39,u 40,xs 0,xs 1,xs 2,xs 3,xs 4,xs 5,xs 6,u 48,u 49,u 50],defers:=[]}
def Z9 (V0:Value)(g1 b o:Nat)(m x:Int)(lv:Value):Nat→World→Value→Prop
 | 0,w,v=>v= .pointer (some ⟨g1,4,none⟩)
 | 1,w,v=>v=lv
 | 2,w,v=>v=V0
 | 3,w,v=>v= .int .i64 m
 | 4,w,v=>v= .pointer (some ⟨b,o,none⟩)
 | 5,w,v=>v= .int .i64 x
 |_,w,v=>∃g,v= .slice (some ⟨g,0,none⟩) 1 1∧w.heap[g]? =some (.cells #[.int .i64 x] 3 (0,0))
theorem St (A:Option Addr)(c:Nat)(l:List Int)(i:Nat)(w:World)(hl:Lies w w.heap.size A (Xa l))(hn:l.length≤25000)(hcap:l.length≤c)(hi:i<l.length)(hc:l.getD i (-1)=39):
 Calls Tryz.prog 83 #[.slice A l.length c,.int .i64 (i:Int)] w (Oc w l i):=by
 have HR:Hid (∀e w',Pe w (Tk.read l i).1 (if(Tk.read l i).2.2=0 then i+(Tk.read l i).2.1 else 0) (Tk.read l i).2.2 e w'→Oc w l i e w'):=Qd (λe w' h=>h);obtain⟨W,hW⟩:∃W,W=w.alloc (.cells #[.int .i64 0,.bool false,.slice none 0 0,.slice none 0 0,.slice none 0 0,.string ⟨#[]⟩,.int .i64 0,.int .i64 0] 54):=⟨_,rfl⟩;have hb0:Below w.heap.size w W:=by rw[hW];exact(Below.refl _ _).alloc (Nat.le_refl _) _
 have HGA:Hid (W.heap[w.heap.size]? =some (.cells #[.int .i64 0,.bool false,.slice none 0 0,.slice none 0 0,.slice none 0 0,.string ⟨#[]⟩,.int .i64 0,.int .i64 0] 54 (0,0))):=Qd (by rw[hW];exact heap_alloc_new w _);have HWS:Hid (W.heap.size=w.heap.size+1):=Qd (by rw[hW];simp);have hlW:Lies W W.heap.size A (Xa l):=(hl.below hb0).more hb0.size;obtain⟨W2,hW2⟩:∃W2,W2=W.alloc (.cells #[.int .i64 1,.bool false,.slice none 0 0,.slice none 0 0,.slice none 0 0,.string ⟨#[]⟩,.int .i64 0,.int .i64 0] 54):=⟨_,rfl⟩;have H0:Hid (Fs l i W W2 (i+1) [] (.slice none 0 0)):=Qd
  { lo:=Nat.le_refl _
    hi:=hi
    blk:=by rw[hW2];exact heap_alloc_new W _
    own:=World.ownsRow_nil _ _ _ _
    below:=by rw[hW2];exact(Below.refl _ _).alloc (Nat.le_refl _) _
    more:=by rw[hW2];simp
    len:=by simp
    told:=⟨l.length+1,by omega,rfl⟩}
 have HL:=Qd hlW;have HC:=Qd hc;have HW:Hid (W=w.alloc (.cells #[.int .i64 0,.bool false,.slice none 0 0,.slice none 0 0,.slice none 0 0,.string ⟨#[]⟩,.int .i64 0,.int .i64 0] 54)):=Qd hW;have HW2:Hid (W2=W.alloc (.cells #[.int .i64 1,.bool false,.slice none 0 0,.slice none 0 0,.slice none 0 0,.string ⟨#[]⟩,.int .i64 0,.int .i64 0] 54)):=Qd hW2;obtain⟨b,off,rfl,hb,g0⟩:=Lb hlW hi;clear hl hlW hc hW hW2 g0;go_enter Tryz.func83,Tryz.ntmps83
 go_upto_region 1 with fail
 rw[←HW.out];go_upto_region 2 with fail
 rw[←HW2.out];go_wp2_with fail
 go_loopw [8] (λiv wr=>∃(m:Nat) (out:List Int) (lv:Value),iv= .int .i64 (m:Int)∧Hid (Fs l i W wr m out lv)) (λiv _=>l.length-(intOf iv).toNat)
 case atStart=>exact⟨i+1,[],_,by go_num,H0⟩
 case round=>
  clear H0 HW HW2;obtain⟨m,out,lv,rfl,HT⟩:=hrel;have hm1:=HT.out.lo;have hm2:=HT.out.hi;have HGR:Hid (wr.heap[w.heap.size]? =some (.cells #[.int .i64 0,.bool false,.slice none 0 0,.slice none 0 0,.slice none 0 0,.string ⟨#[]⟩,.int .i64 0,.int .i64 0] 54 (0,0))):=Qd ((HT.out.below.block w.heap.size (by rw[HWS.out];omega)).trans HGA.out);obtain⟨AL,cL,rfl,hL1,hL2⟩:=Wb HT.out.own;have HBK:=Qd HT.out.blk;by_cases hlt:m<l.length
  ·have hbl:=HT.out.below
   obtain⟨b',off',e1,hb',g1⟩:=Lb (HL.out.below hbl) hlt;injection e1 with e1
   injection e1 with e1 e2
   subst e1 e2;obtain⟨y,hy⟩:∃y,y=l.getD m (-1):=⟨_,rfl⟩;rw[←Tk.getD_in hlt,←hy] at g1;have HY:=Qd hy;clear hy hL1 hL2;go_upto_if 22 with fail
   go_cut [8] from 12 to 49 (λx8 wx=>wx=wr∧∃m':Nat,x8= .int .i64 (m':Int)∧m'<l.length∧m≤m'∧Hid (∃f,l.length+1≤f+(m'+1)∧Tk.quote l (l.length+1) (i+1) []=Tk.quote l f (m'+1) (out++[l.getD m' (-1)])))
   case first=>
    by_cases y1:y=39
    ·have q1:(y==39)=true:=by rw[y1];rfl
     by_cases hend:m+1=l.length
     ·have q2:((m:Int)+1==(l.length:Int))=true:=by rw[beq_iff_eq];omega
      have HRE:Hid (Tk.read l i=(⟨1,Rt.none_,out,[],0,i⟩,m+1-i,0)):=Qd (Mi HC.out (by obtain⟨f,hf,hq⟩:=HT.out.told;obtain⟨f,rfl⟩:∃f',f=f'+1:=⟨f-1,by omega⟩;rw[hq,En hlt (by rw[←HY.out];exact y1) (by rw[List.getD_eq_getElem?_getD,List.getElem?_eq_none (by omega)];simp)]));clear y1 hbl hb' hend;go_wp2_with (first|(with_reducible refine wpList_load_row rfl 54 (.tmp 7) rfl W.heap.size rfl 54 #[.int .i64 1,.bool false,.slice none 0 0,.slice none 0 0,.slice AL out.length cL,.string ⟨#[]⟩,.int .i64 0,.int .i64 0] (0,0) _ HBK.out Tryz.underlying54 rfl (Pa _ _ _ _ _ _ _ _) ?_) |(with_reducible refine wpList_store_row rfl 54 (.tmp 4) (.tmp 36) rfl w.heap.size #[.int .i64 1,.bool false,.slice none 0 0,.slice none 0 0,.slice AL out.length cL,.string ⟨#[]⟩,.int .i64 0,.int .i64 0] rfl rfl 54 #[.int .i64 0,.bool false,.slice none 0 0,.slice none 0 0,.slice none 0 0,.string ⟨#[]⟩,.int .i64 0,.int .i64 0] HGR.out (Pa _ _ _ _ _ _ _ _) rfl (Nb _ _ _ _ _ _ _ _ _ _ _ _ _ _) ?_))
      refine bodyPost_ret (Ka (by rfl) _ _ w.heap.size 54 #[.int .i64 1,.bool false,.slice none 0 0,.slice none 0 0,.slice AL out.length cL,.string ⟨#[]⟩,.int .i64 0,.int .i64 0] (0,0) _ _ _ (by rfl) (by rfl) (by rfl) (Ha HGR.out) Tryz.underlying54 rfl (Pa _ _ _ _ _ _ _ _)) rfl (HR.out _ _ ?_);rw[HRE.out];show Pe w _ (i+(m+1-i)) 0 _ _;rw[show i+(m+1-i)=m+1 by omega];exact⟨_,_,_,rfl,Ma _,Ma _,(Gn HT.out.own (by rw[HWS.out];omega) _).mono_ (Nat.zero_le _),rBelow.setRow (hb0.trans (HT.out.below.mono (by rw[HWS.out];omega))) (Nat.le_refl _) _⟩
     have q2:((m:Int)+1==(l.length:Int))=false:=beq_eq_false_iff_ne.2 (by omega);have hlt2:m+1<l.length:=by omega
     obtain⟨b',off',e1,hb2,g2⟩:=Lb (HL.out.below hbl) hlt2;injection e1 with e1
     injection e1 with e1 e2
     subst e1 e2;obtain⟨z,hz⟩:∃z,z=l.getD (m+1) (-1):=⟨_,rfl⟩;rw[←Tk.getD_in hlt2,←hz] at g2;have HZ:=Qd hz;clear hz;by_cases z1:z=39
     ·have q3:(z==39)=true:=by rw[z1];rfl
      have q4:(z !=39)=false:=by rw[bne,q3];rfl
      have HQ:Hid (∃f,l.length+1≤f+(m+1+1)∧Tk.quote l (l.length+1) (i+1) []=Tk.quote l f (m+1+1) (out++[l.getD (m+1) (-1)])):=Qd (by
       obtain⟨f,hf,hq⟩:=HT.out.told;obtain⟨f,rfl⟩:∃f',f=f'+1:=⟨f-1,by omega⟩;exact⟨f,by omega,by rw[hq,Ez hlt (by rw[←HY.out];exact y1) (by rw[←HZ.out];exact z1),←HZ.out,z1]⟩)
      clear y1 z1 hbl hb' hb2 hend;go_wp2_with fail
      go_meet
      exact⟨rfl,m+1,by go_num,hlt2,by omega,HQ⟩
     have q3:(z==39)=false:=beq_eq_false_iff_ne.2 z1;have q4:(z !=39)=true:=by rw[bne,q3];rfl
     have HRE:Hid (Tk.read l i=(⟨1,Rt.none_,out,[],0,i⟩,m+1-i,0)):=Qd (Mi HC.out (by obtain⟨f,hf,hq⟩:=HT.out.told;obtain⟨f,rfl⟩:∃f',f=f'+1:=⟨f-1,by omega⟩;rw[hq,En hlt (by rw[←HY.out];exact y1) (by rw[←HZ.out];exact z1)]));clear y1 z1 hbl hb' hb2 hend;go_wp2_with (first|(with_reducible refine wpList_load_row rfl 54 (.tmp 7) rfl W.heap.size rfl 54 #[.int .i64 1,.bool false,.slice none 0 0,.slice none 0 0,.slice AL out.length cL,.string ⟨#[]⟩,.int .i64 0,.int .i64 0] (0,0) _ HBK.out Tryz.underlying54 rfl (Pa _ _ _ _ _ _ _ _) ?_) |(with_reducible refine wpList_store_row rfl 54 (.tmp 4) (.tmp 36) rfl w.heap.size #[.int .i64 1,.bool false,.slice none 0 0,.slice none 0 0,.slice AL out.length cL,.string ⟨#[]⟩,.int .i64 0,.int .i64 0] rfl rfl 54 #[.int .i64 0,.bool false,.slice none 0 0,.slice none 0 0,.slice none 0 0,.string ⟨#[]⟩,.int .i64 0,.int .i64 0] HGR.out (Pa _ _ _ _ _ _ _ _) rfl (Nb _ _ _ _ _ _ _ _ _ _ _ _ _ _) ?_))
     refine bodyPost_ret (Ka (by rfl) _ _ w.heap.size 54 #[.int .i64 1,.bool false,.slice none 0 0,.slice none 0 0,.slice AL out.length cL,.string ⟨#[]⟩,.int .i64 0,.int .i64 0] (0,0) _ _ _ (by rfl) (by rfl) (by rfl) (Ha HGR.out) Tryz.underlying54 rfl (Pa _ _ _ _ _ _ _ _)) rfl (HR.out _ _ ?_);rw[HRE.out];show Pe w _ (i+(m+1-i)) 0 _ _;rw[show i+(m+1-i)=m+1 by omega];exact⟨_,_,_,rfl,Ma _,Ma _,(Gn HT.out.own (by rw[HWS.out];omega) _).mono_ (Nat.zero_le _),rBelow.setRow (hb0.trans (HT.out.below.mono (by rw[HWS.out];omega))) (Nat.le_refl _) _⟩
    have q1:(y==39)=false:=beq_eq_false_iff_ne.2 y1;have HQ:Hid (∃f,l.length+1≤f+(m+1)∧Tk.quote l (l.length+1) (i+1) []=Tk.quote l f (m+1) (out++[l.getD m (-1)])):=Qd (by
     obtain⟨f,hf,hq⟩:=HT.out.told;obtain⟨f,rfl⟩:∃f',f=f'+1:=⟨f-1,by omega⟩;exact⟨f,by omega,by rw[hq,J4 hlt (by rw[←HY.out];exact y1)]⟩)
    clear y1 hbl hb';go_wp2_with fail
    go_meet
    exact⟨rfl,m,rfl,hlt,Nat.le_refl _,HQ⟩
   case rest=>
    obtain⟨hwx,m',rfl,hm3,hm4,HQ⟩:=hcut;rw[hwx];clear hwx;obtain⟨b',off',e1,hb2,g2⟩:=Lb (HL.out.below hbl) hm3;injection e1 with e1
    injection e1 with e1 e2
    subst e1 e2;obtain⟨x,hx⟩:∃x,x=l.getD m' (-1):=⟨_,rfl⟩;rw[←Tk.getD_in hm3,←hx] at g2;have HX:=Qd hx;have hgl:W.heap.size<wr.heap.size:=by have:=HT.out.more;omega
    have hc4:wr.cell? ⟨W.heap.size,4,none⟩=some (.slice AL out.length cL):=(cell_of_row wr W.heap.size 4 _ _ _ HT.out.blk).trans rfl;have HQ1:Hid (∀w1,Below wr.heap.size wr w1→w1.cell? ⟨W.heap.size,4,none⟩=some (.slice AL out.length cL)):=Qd (λw1 h=>(h.cell hgl).trans hc4);have hbw:b<wr.heap.size:=by omega
    have HQ2:Hid (∀w1,Below wr.heap.size wr w1→w1.cell? ⟨b,off+m',none⟩=some (.int .i64 x)):=Qd (λw1 h=>(h.cell hbw).trans g2);clear hx hc4 g1 g2 hbl hb' hb2;go_upto_region 9 with fail
    refine Ao (Uc (.slice (some ⟨b,off,none⟩) l.length c) (.int .i64 (i:Int)) (.pointer (some ⟨w.heap.size,0,none⟩)) (.pointer (some ⟨W.heap.size,0,none⟩)) (.int .i64 (m':Int)) (λk=>[undef,undef,undef,undef,undef,u5,u6,undef,undef,.agg #[.int .i64 1,.bool false,.slice none 0 0,.slice none 0 0,.slice none 0 0,.string ⟨#[]⟩,.int .i64 0,.int .i64 0],.int .i64 (i:Int),.int .i64 ((i:Int)+1),u12,u13,u14,u15,u16,u17,u18,u19,u20,u21,u22,u23,u24,u25,u26,u27,u28,u29,u30,u31,u32,u33,u34,u35,u36,u37,u38,u39,u40,u41,u42,u43,u44,u45,u46,u47,u48,u49,undef].getD k undef)) wr (Z9 (.slice (some ⟨b,off,none⟩) l.length c) W.heap.size b (off+m') (m':Int) x (.slice AL out.length cL)) 7 (by kernel_rfl) (by decide) ?_ (by kernel_rfl) 5 (by kernel_rfl) (λk=>[u41,u42,u43,u44,u45,u46,u47].getD k undef) rfl (Below.refl _ _) ?_ ?_
    ·intro i w1 w2 v hv hb
     match i with
     | 0=>exact hv
     | 1=>exact hv
     | 2=>exact hv
     | 3=>exact hv
     | 4=>exact hv
     | 5=>exact hv
     |i+6=>exact(by
      obtain⟨g,e,r⟩:=hv;have hg:g<w1.heap.size:=by
       rcases Nat.lt_or_ge g w1.heap.size with h |h
       ·exact h
       rw[Array.getElem?_eq_none h] at r;cases r
      exact⟨g,e,(hb.block g hg).trans r⟩)
    ·intro k xs w1 hk hb hdep
     rcases(show k=0∨k=1∨k=2∨k=3∨k=4∨k=5∨k=6 by omega) with rfl |rfl |rfl |rfl |rfl |rfl |rfl
     ·refine Ba rfl rfl ?_
      unfold Uc Oper.wp;go_simp
      exact⟨_,by simp only[Uc,Ja];simp[Act.put],rfl,Below.refl _ _⟩
     ·have h0:xs 0= .pointer (some ⟨W.heap.size,4,none⟩):=hdep 0 (by kernel_rfl)
      have hq:=HQ1.out w1 hb;refine Ba rfl rfl ?_;unfold Uc Oper.wp;simp only[h0];go_simp
      exact⟨_,by simp only[Uc,Ja];simp[Act.put,h0],rfl,Below.refl _ _⟩
     ·refine Ba rfl rfl ?_
      unfold Uc Oper.wp;go_simp
      exact⟨_,by simp only[Uc,Ja];simp[Act.put],rfl,Below.refl _ _⟩
     ·refine Ba rfl rfl ?_
      unfold Uc Oper.wp;go_simp
      exact⟨_,by simp only[Uc,Ja];simp[Act.put],rfl,Below.refl _ _⟩
     ·have h2:xs 2=(.slice (some ⟨b,off,none⟩) l.length c):=hdep 2 (by kernel_rfl)
      have h3:xs 3= .int .i64 (m':Int):=hdep 3 (by kernel_rfl);refine Ba rfl rfl ?_;unfold Uc Oper.wp;simp only[h2,h3];go_simp
      exact⟨_,by simp only[Uc,Ja];simp[Act.put,h2,h3],rfl,Below.refl _ _⟩
     ·have h4:xs 4= .pointer (some ⟨b,off+m',none⟩):=hdep 4 (by kernel_rfl)
      have hq:=HQ2.out w1 hb;refine Ba rfl rfl ?_;unfold Uc Oper.wp;simp only[h4];go_simp
      exact⟨_,by simp only[Uc,Ja];simp[Act.put,h4],rfl,Below.refl _ _⟩
     have h5:xs 5= .int .i64 x:=hdep 5 (by kernel_rfl);obtain⟨i0,hi0,hz0,hz1,hz2⟩:=info_parts Em;refine Ba rfl rfl ?_;refine wp_buildSlice 25 3 1 #[(0,.tmp 46)] rfl #[.int .i64 x] i0 (.int .i64 0) Tryz.underlying25 hi0 hz0 (by rw[hz1];decide) (by rw[hz1];decide) (by
      rw[hz1];have h5':(Uc (.slice (some ⟨b,off,none⟩) l.length c) (.int .i64 (i:Int)) (.pointer (some ⟨w.heap.size,0,none⟩)) (.pointer (some ⟨W.heap.size,0,none⟩)) (.int .i64 (m':Int)) (λk=>[undef,undef,undef,undef,undef,u5,u6,undef,undef,.agg #[.int .i64 1,.bool false,.slice none 0 0,.slice none 0 0,.slice none 0 0,.string ⟨#[]⟩,.int .i64 0,.int .i64 0],.int .i64 (i:Int),.int .i64 ((i:Int)+1),u12,u13,u14,u15,u16,u17,u18,u19,u20,u21,u22,u23,u24,u25,u26,u27,u28,u29,u30,u31,u32,u33,u34,u35,u36,u37,u38,u39,u40,u41,u42,u43,u44,u45,u46,u47,u48,u49,undef].getD k undef) xs).eval (.tmp 46)= .int .i64 x:=h5;simp only[List.map_toArray,List.map_cons,List.map_nil,h5'];exact K4 x) ?_
     exact⟨_,by simp only[Uc,Ja];simp[Act.put],⟨w1.heap.size,rfl,heap_alloc_new w1 _⟩,(Below.refl _ _).alloc (Nat.le_refl _) _⟩
    intro xs w1 hb hR;have h0:xs 0= .pointer (some ⟨W.heap.size,4,none⟩):=hR 0 (by decide);have h1:xs 1= .slice AL out.length cL:=hR 1 (by decide);obtain⟨g,h6,hg6⟩:∃g,xs 6= .slice (some ⟨g,0,none⟩) 1 1∧w1.heap[g]? =some (.cells #[.int .i64 x] 3 (0,0)):=hR 6 (by decide);obtain⟨i0,hi0,hz0,hz1,hz2⟩:=info_parts Em;have hown1:=Qg HT.out.own hb;have hlen:=HT.out.len;have hmax:(maxLen:Nat)=9223372036854775807:=rfl;show Hk _ _ _ 3 7 _ w1;refine Ba rfl rfl ?_;refine wp_append_own w1 (.tmp 42) (.tmp 47) 25 rfl (W.heap.size+1) 3 i0 (.int .i64 0) 1 8 Tryz.underlying25 hi0 hz0 hz1 hz2 rfl (by decide) (.slice AL out.length cL) out.length (Xa out) h1 hown1 ⟨g,0,none⟩ 1 1 [.int .i64 x] h6 rfl ?_ ?_ (by omega) (by omega) (by have:=HT.out.more;have:=hb.size;omega) ?_
    ·intro j u hu
     cases j with
     |zero=>
      injection hu with hu
      subst hu;exact(cell_of_row w1 g 0 _ _ _ hg6).trans rfl
     |succ j=>cases hu
    ·intro u hu
     rw[List.mem_singleton] at hu;subst hu;rfl
    intro v' w2 hown2 hgr hiff;have hne:some W.heap.size≠(Value.slice AL out.length cL).ownBlock:=by
     rcases HT.out.own.2 with⟨hv,_⟩ |⟨g',cap,cur,hv,hbs,_⟩
     ·injection hv with e1
      subst e1;simp[Value.ownBlock]
     injection hv with e1
     rw[e1];simp only[Value.ownBlock];intro h;injection h with h
     omega
    have hBK2:=(hgr.block W.heap.size (by have:=hb.size;omega) hne).trans ((hb.block W.heap.size hgl).trans HT.out.blk);have hc4:w2.cell? ⟨W.heap.size,4,none⟩=some (.slice AL out.length cL):=(cell_of_row w2 W.heap.size 4 _ _ _ hBK2).trans rfl;have hf4:w2.frozen? ⟨W.heap.size,4,none⟩=false:=by simp[World.frozen?,hBK2]
    obtain⟨A2,c2,rfl,k1,k2⟩:=Wb hown2;refine Ba rfl rfl ?_;unfold Uc Oper.wp;go_simp
    refine Ba rfl rfl ?_;unfold Oper.wp;go_simp
    have HN:Hid (Fs l i W (w2.setCell ⟨W.heap.size,4,none⟩ (.slice A2 (out.length+1) c2)) (m'+1) (out++[x]) (.slice A2 (out.length+1) c2)):=Qd
     { lo:=by omega
       hi:=by omega
       blk:=Blk.set_ (w:=w2) (g:=W.heap.size) (vs:=[.int .i64 1,.bool false,.slice none 0 0,.slice none 0 0,.slice AL out.length cL,.string ⟨#[]⟩,.int .i64 0,.int .i64 0]) hBK2 4 _
       own:=by
        have h:=Qt hown2 (a:=⟨W.heap.size,4,none⟩) (Nat.lt_succ_self _) (.slice A2 (out.length+1) c2);have e1:Xa (out++[x])=Xa out++[.int .i64 x]:=by simp[Xa]
        have e2:(out++[x]).length=out.length+1:=by simp
        rw[e1,e2];exact h
       below:=by
        have h1:=(HT.out.below.trans (hb.mono (Nat.le_of_lt hgl))).grown hgr (by have:=hb.size;omega) (by
         intro k hk;rcases HT.out.own.2 with⟨hv,_⟩ |⟨g',cap,cur,hv,hbs,_⟩
         ·injection hv with e1
          subst e1;cases hk
         injection hv with e1
         subst e1;injection hk with hk
         have hk:g'=k:=hk;omega)
        exact h1.setCell (Nat.le_refl _) _
       more:=by
        have h1:=hgr.size;have h2:=hb.size;have h3:=HT.out.more;simp only[World.setCell,Array.size_modify];omega
       len:=by simp;omega
       told:=by rw[HX.out];exact HQ.out}
    clear hBK2 hc4 hf4 hown2 hown1 hgr hiff hne hR;unfold Hk;go_wp2_with fail
    go_round
    case rel=>
     exact⟨m'+1,out++[x],.slice A2 (out.length+1) c2,by go_num,HN⟩
    case measure=>simp[intOf];omega
  have hme:m=l.length:=by omega
  have HRE:Hid (Tk.read l i=(Tk.none_,0,1)):=Qd (Co HC.out (by obtain⟨f,_,hq⟩:=HT.out.told;rw[hq,Dz (by omega)]));have HBL:=Qd HT.out.below;clear hL1 hL2;go_wp2_with (with_reducible refine wpList_store_row rfl 54 (.tmp 4) (.tmp 50) rfl w.heap.size #[.int .i64 0,.bool false,.slice none 0 0,.slice none 0 0,.slice none 0 0,.string ⟨#[]⟩,.int .i64 0,.int .i64 0] rfl rfl 54 #[.int .i64 0,.bool false,.slice none 0 0,.slice none 0 0,.slice none 0 0,.string ⟨#[]⟩,.int .i64 0,.int .i64 0] HGR.out (Pa _ _ _ _ _ _ _ _) rfl (Nb _ _ _ _ _ _ _ _ _ _ _ _ _ _) ?_)
  refine bodyPost_ret (Ka (by rfl) _ _ w.heap.size 54 #[.int .i64 0,.bool false,.slice none 0 0,.slice none 0 0,.slice none 0 0,.string ⟨#[]⟩,.int .i64 0,.int .i64 0] (0,0) _ _ _ (by rfl) (by rfl) (by rfl) (Ha HGR.out) Tryz.underlying54 rfl (Pa _ _ _ _ _ _ _ _)) rfl (HR.out _ _ ?_);rw[HRE.out];exact⟨_,_,_,rfl,Ma _,Ma _,World.ownsRow_nil _ _ _ _,rBelow.setRow (hb0.trans (HBL.out.mono (by rw[HWS.out];omega))) (Nat.le_refl _) _⟩
end
section
open Go.RowKit
theorem Qk {d:Int}(h1:0≤d)(h2:d≤122):Utf8.encode d=⟨#[UInt8.ofNat d.toNat]⟩:=by
 have hv:Utf8.valid d=true:=by unfold Utf8.valid;simp;omega
 unfold Utf8.encode;simp only[hv,if_true];rw[if_pos (by omega)]
theorem Cp {d e:Int}(h1:0≤d)(h2:d≤122)(h3:0≤e)(h4:e≤122):runesBytes [d,e]=⟨#[UInt8.ofNat d.toNat,UInt8.ofNat e.toNat]⟩:=by
 unfold runesBytes;simp only[List.foldl_cons,List.foldl_nil];rw[Qk h1 h2,Qk h3 h4];rfl
theorem Gs {d e:Int}{a b:Nat}(h1:0≤d)(h2:d≤122)(h3:0≤e)(h4:e≤122)(ha:a≤122)(hb:b≤122):runesBytes [d,e]=⟨#[UInt8.ofNat a,UInt8.ofNat b]⟩↔d=(a:Int)∧e=(b:Int):=by
 rw[Cp h1 h2 h3 h4]
 constructor
 ·intro h
  injection h with h
  have h5:UInt8.ofNat d.toNat=UInt8.ofNat a:=Option.some.inj (congrArg (λx:Array UInt8=>x[0]?) h);have h6:UInt8.ofNat e.toNat=UInt8.ofNat b:=Option.some.inj (congrArg (λx:Array UInt8=>x[1]?) h);have h5:=congrArg UInt8.toNat h5;have h6:=congrArg UInt8.toNat h6;simp only[UInt8.toNat_ofNat'] at h5 h6;omega
 rintro⟨rfl,rfl⟩;rfl
theorem Hn (x y:UInt8):ByteArray.toList ⟨#[x,y]⟩=[x,y]:=by
 have h2:(ByteArray.mk #[x,y]).size=2:=rfl;unfold ByteArray.toList;rw[ByteArray.toList.loop.eq_1];rw[if_pos (by rw[h2];omega)];rw[ByteArray.toList.loop.eq_1];rw[if_pos (by rw[h2];omega)];rw[ByteArray.toList.loop.eq_1];rw[if_neg (by rw[h2];omega)];rfl
theorem Hs {S:ByteArray}{x y:UInt8}(h:S=⟨#[x,y]⟩):(S.toList==[x,y])=true:=by
 rw[h,Hn];simp
theorem Js {S:ByteArray}{x y u v:UInt8}(hS:S=⟨#[u,v]⟩)(h:¬S=⟨#[x,y]⟩):(S.toList==[x,y])=false:=by
 rw[hS,Hn];refine beq_eq_false_iff_ne.2 (λe=>h ?_);injection e with e1 e
 injection e with e2 _
 rw[hS,e1,e2]
structure Rk (l:List Int) (i:Nat) (W wx:World) (k cc:Int) (en:Nat):Prop where
 lo:i+2≤en
 hi:en≤i+3
 blk:wx.heap[W.heap.size]? =some (.cells #[.int .i64 k,.bool false,.slice none 0 0,.slice none 0 0,.slice none 0 0,.string ⟨#[]⟩,.int .i64 cc,.int .i64 0] 54 (0,0))
 below:Below W.heap.size W wx
 more:W.heap.size+1≤wx.heap.size
 told:Tk.read l i=if Tk.word (l.getD en (-1))=true then(Tk.none_,0,1) else(⟨k,Rt.none_,[],[],cc,i⟩,en-i,0)
theorem M4 (A:Option Addr)(c:Nat)(l:List Int)(i:Nat)(w:World)(hl:Lies w w.heap.size A (Xa l))(hn:l.length≤25000)(hcap:l.length≤c)(hi:i<l.length)(hc:l.getD i (-1)=9109∨l.getD i (-1)=9054):
 Calls Tryz.prog 84 #[.slice A l.length c,.int .i64 (i:Int)] w (Oc w l i):=by
 have HR:Hid (∀e w',Pe w (Tk.read l i).1 (if(Tk.read l i).2.2=0 then i+(Tk.read l i).2.1 else 0) (Tk.read l i).2.2 e w'→Oc w l i e w'):=Qd (λe w' h=>h);obtain⟨W,hW⟩:∃W,W=w.alloc (.cells #[.int .i64 0,.bool false,.slice none 0 0,.slice none 0 0,.slice none 0 0,.string ⟨#[]⟩,.int .i64 0,.int .i64 0] 54):=⟨_,rfl⟩;have hb0:Below w.heap.size w W:=by rw[hW];exact(Below.refl _ _).alloc (Nat.le_refl _) _
 have HGA:Hid (W.heap[w.heap.size]? =some (.cells #[.int .i64 0,.bool false,.slice none 0 0,.slice none 0 0,.slice none 0 0,.string ⟨#[]⟩,.int .i64 0,.int .i64 0] 54 (0,0))):=Qd (by rw[hW];exact heap_alloc_new w _);have HWS:Hid (W.heap.size=w.heap.size+1):=Qd (by rw[hW];simp);have hlW:Lies W W.heap.size A (Xa l):=(hl.below hb0).more hb0.size;obtain⟨W2,hW2⟩:∃W2,W2=W.alloc (.cells #[.int .i64 0,.bool false,.slice none 0 0,.slice none 0 0,.slice none 0 0,.string ⟨#[]⟩,.int .i64 0,.int .i64 0] 54):=⟨_,rfl⟩;have hb2:Below W.heap.size W W2:=by rw[hW2];exact(Below.refl _ _).alloc (Nat.le_refl _) _
 have HB2:=Qd hb2;have HG2:Hid (W2.heap[W.heap.size]? =some (.cells #[.int .i64 0,.bool false,.slice none 0 0,.slice none 0 0,.slice none 0 0,.string ⟨#[]⟩,.int .i64 0,.int .i64 0] 54 (0,0))):=Qd (by rw[hW2];exact heap_alloc_new W _);have HS2:Hid (W2.heap.size=W.heap.size+1):=Qd (by rw[hW2];simp);have HL:=Qd hlW;have LT:=Qd (λ(wx:World) (h:Below W.heap.size W wx) (m:Nat) (hm:m≤1000000)=>Zi A c l m wx ((hlW.below h).more h.size) (by omega) hm);have DG:=Qd (λ(wx:World) (h:Below W.heap.size W wx) (m:Nat) (hm:m≤1000000)=>Ck A c l m wx ((hlW.below h).more h.size) (by omega) hm);have HC:=Qd hc;have HW:Hid (W=w.alloc (.cells #[.int .i64 0,.bool false,.slice none 0 0,.slice none 0 0,.slice none 0 0,.string ⟨#[]⟩,.int .i64 0,.int .i64 0] 54)):=Qd hW;have HW2:Hid (W2=W.alloc (.cells #[.int .i64 0,.bool false,.slice none 0 0,.slice none 0 0,.slice none 0 0,.string ⟨#[]⟩,.int .i64 0,.int .i64 0] 54)):=Qd hW2;obtain⟨q,hq⟩:∃q,q=l.getD i (-1):=⟨_,rfl⟩;obtain⟨d,hd⟩:∃d,d=l.getD (i+1) (-1):=⟨_,rfl⟩;obtain⟨d2,hd2⟩:∃d2,d2=l.getD (i+2) (-1):=⟨_,rfl⟩;obtain⟨b,off,rfl,hb,g0⟩:=Lb hlW hi;have hb':b<W.heap.size:=hb;rw[←Tk.getD_in hi,←hq] at g0;have HQ:=Qd hq;have HD:=Qd hd;have HD2:=Qd hd2;have hq2:q=9109∨q=9054:=by rw[hq];exact hc
 have G0:Hid (∀wx,Below W.heap.size W wx→wx.cell? ⟨b,off+i,none⟩=some (.int .i64 q)):=Qd (λwx h=>(h.cell hb').trans g0);have G1:Hid (i+1<l.length→∀wx,Below W.heap.size W wx→wx.cell? ⟨b,off+(i+1),none⟩=some (.int .i64 d)):=Qd (by
  intro h1 wx h;obtain⟨b1,off1,e1,_,g1⟩:=Lb hlW h1;injection e1 with e1
  injection e1 with e1 e2
  subst e1 e2;rw[h.cell hb',g1,hd,Tk.getD_in h1])
 have G2:Hid (i+2<l.length→∀wx,Below W.heap.size W wx→wx.cell? ⟨b,off+(i+2),none⟩=some (.int .i64 d2)):=Qd (by
  intro h1 wx h;obtain⟨b1,off1,e1,_,g1⟩:=Lb hlW h1;injection e1 with e1
  injection e1 with e1 e2
  subst e1 e2;rw[h.cell hb',g1,hd2,Tk.getD_in h1])
 clear hl hlW hc hW hW2 g0 hq hd hd2 hb2;go_enter Tryz.func84,Tryz.ntmps84
 go_upto_region 1 with fail
 rw[←HW.out];go_upto_region 2 with fail
 rw[←HW2.out];go_upto_block 0 with fail
 go_cut [8] from 9 (λx8 wx=>∃(k cc:Int) (en:Nat),x8= .int .i64 (en:Int)∧Hid (Rk l i W wx k cc en))
 case first=>
  go_upto_region 4 with fail
  obtain⟨B4,hB4⟩:∃B4,B4=(Tk.digit d&&decide (d≤55)):=⟨_,rfl⟩;go_cut [12] from 13 (λx12 wx=>wx=W2∧x12= .bool B4)
  case first=>
   have h:=DG.out W2 HB2.out (i+1) (by omega);rw[←HD.out] at h;have h:=Qd h;by_cases h1:Tk.digit d=true
   ·have hlt:i+1<l.length:=by
     rcases Nat.lt_or_ge (i+1) l.length with h |h
     ·exact h
     rw[HD.out,Tk.getD_out h] at h1;cases h1
    have g1:=G1.out hlt W2 HB2.out;rw[h1] at hB4 h;rw[Bool.true_and] at hB4;go_wp2_with fail
    refine h.out.mono ?_;rintro e w' ⟨rfl,rfl⟩;go_wp2_with fail
    go_meet
    exact⟨rfl,by rw[hB4]⟩
   have h1:Tk.digit d=false:=by simpa using h1
   rw[h1] at hB4 h;rw[Bool.false_and] at hB4;go_wp2_with fail
   refine h.out.mono ?_;rintro e w' ⟨rfl,rfl⟩;go_wp2_with fail
   go_meet
   exact⟨rfl,by rw[hB4]⟩
  case rest=>
   obtain⟨hwx,rfl⟩:=hcut;rw[hwx];clear hwx;have HGR2:Hid (W2.heap[w.heap.size]? =some (.cells #[.int .i64 0,.bool false,.slice none 0 0,.slice none 0 0,.slice none 0 0,.string ⟨#[]⟩,.int .i64 0,.int .i64 0] 54 (0,0))):=Qd ((HB2.out.block w.heap.size (by rw[HWS.out];omega)).trans HGA.out);cases B4
   ·have HP1:Hid (¬(Tk.digit d=true∧d≤55)):=Qd (by
     rintro⟨p1,p2⟩;rw[p1,decide_eq_true p2] at hB4;cases hB4)
    clear hB4;go_upto_region 8 with fail
    obtain⟨B8,hB8⟩:∃B8,B8=(decide (q=9109)&&(Tk.cls d==2)&&(Tk.cls d2==2)):=⟨_,rfl⟩;have g0:=G0.out W2 HB2.out;go_cut [38] from 39 (λx38 wx=>wx=W2∧x38= .bool B8)
    case first=>
     have h:=LT.out W2 HB2.out (i+1) (by omega);rw[←HD.out] at h;have h:=Qd h;have h2:=LT.out W2 HB2.out (i+2) (by omega);rw[←HD2.out] at h2;have h2:=Qd h2;generalize(Tk.cls d==2)=b1 at*;generalize(Tk.cls d2==2)=b2 at*;rcases hq2 with rfl |rfl
     ·rw[decide_eq_true rfl,Bool.true_and] at hB8
      cases b1
      ·rw[Bool.false_and] at hB8
       go_wp2_with fail
       refine h.out.mono ?_;rintro e w' ⟨rfl,rfl⟩;go_wp2_with fail
       go_meet
       exact⟨rfl,by rw[hB8]⟩
      rw[Bool.true_and] at hB8;go_wp2_with fail
      refine h.out.mono ?_;rintro e w' ⟨rfl,rfl⟩;go_wp2_with fail
      refine h2.out.mono ?_;rintro e w' ⟨rfl,rfl⟩;go_wp2_with fail
      go_meet
      exact⟨rfl,by rw[hB8]⟩
     have hB8:B8=false:=by rw[hB8];rfl
     go_wp2_with fail
     go_meet
     exact⟨rfl,by rw[hB8]⟩
    case rest=>
     obtain⟨hwx,rfl⟩:=hcut;rw[hwx];clear hwx;cases B8
     ·have HRE:Hid (Tk.read l i=(Tk.none_,0,1)):=Qd (Tk.port_none HC.out (by rw[←HD.out];exact HP1.out) (by
       rintro⟨p1,p2,p3⟩;rw[←HQ.out] at p1;rw[←HD.out] at p2;rw[←HD2.out] at p3;rw[p1,p2,p3] at hB8;cases hB8))
      clear hB8 g0;go_wp2_with (with_reducible refine wpList_store_row rfl 54 (.tmp 4) (.tmp 11) rfl w.heap.size #[.int .i64 0,.bool false,.slice none 0 0,.slice none 0 0,.slice none 0 0,.string ⟨#[]⟩,.int .i64 0,.int .i64 0] rfl rfl 54 #[.int .i64 0,.bool false,.slice none 0 0,.slice none 0 0,.slice none 0 0,.string ⟨#[]⟩,.int .i64 0,.int .i64 0] HGR2.out (Pa _ _ _ _ _ _ _ _) rfl (Nb _ _ _ _ _ _ _ _ _ _ _ _ _ _) ?_)
      refine bodyPost_ret (Ka (by rfl) _ _ w.heap.size 54 #[.int .i64 0,.bool false,.slice none 0 0,.slice none 0 0,.slice none 0 0,.string ⟨#[]⟩,.int .i64 0,.int .i64 0] (0,0) _ _ _ (by rfl) (by rfl) (by rfl) (Ha HGR2.out) Tryz.underlying54 rfl (Pa _ _ _ _ _ _ _ _)) rfl (HR.out _ _ ?_);rw[HRE.out];exact⟨_,_,_,rfl,Ma _,Ma _,World.ownsRow_nil _ _ _ _,rBelow.setRow (hb0.trans (HB2.out.mono (by rw[HWS.out];omega))) (Nat.le_refl _) _⟩
     have hbb:(q=9109∧(Tk.cls d==2)=true)∧(Tk.cls d2==2)=true:=by
      have h:=hB8.symm;rw[Bool.and_eq_true,Bool.and_eq_true,decide_eq_true_eq] at h;exact h
     have hr1:=Tk.letter_range hbb.1.2;have hr2:=Tk.letter_range hbb.2;have hlt:i+2<l.length:=by
      rcases Nat.lt_or_ge (i+2) l.length with h |h
      ·exact h
      have h1:=hr2.1;rw[HD2.out,Tk.getD_out h] at h1;omega
     have g1:=G1.out (by omega) W2 HB2.out;have g2:=G2.out hlt W2 HB2.out;have HPD:=Qd (Tk.port_two (by rw[←HQ.out];exact hbb.1.1) (by rw[←HD.out];exact hbb.1.2) (by rw[←HD2.out];exact hbb.2));rw[←HD2.out,←HD.out] at HPD;have h65:=hr1.1;have h122:=hr1.2;have k65:=hr2.1;have k122:=hr2.2;clear hbb hr1 hr2 hB8 g0 hq2;obtain⟨S,hS⟩:∃S,S=runesBytes [d,d2]:=⟨_,rfl⟩;have hcv:(convert 126 9 (.slice (some ⟨W2.heap.size,0,none⟩) 2 2)).run Tryz.prog (W2.alloc (.cells #[.int .i32 d,.int .i32 d2] 21)).drew= .ok (.string S) (W2.alloc (.cells #[.int .i32 d,.int .i32 d2] 21)).drew:=by
      rw[hS];exact run_convert_runes _ _ _ 21 ⟨W2.heap.size,0,none⟩ 2 2 [d,d2] (Nat.le_refl _) Tryz.underlying126 Tryz.underlying21 Tryz.underlying9 (by
       intro j hj
       match j with
       | 0=>exact(cell_of_row _ W2.heap.size 0 _ _ _ (heap_alloc_new W2 _)).trans rfl
       | 1=>exact(cell_of_row _ W2.heap.size 1 _ _ _ (heap_alloc_new W2 _)).trans rfl
       |j+2=>exact absurd hj (by simp))
     have HSS:=Qd hS;clear hS;obtain⟨W4,hW4⟩:∃W4,W4=(W2.alloc (.cells #[.int .i32 d,.int .i32 d2] 21)).drew:=⟨_,rfl⟩;have HW4:=Qd hW4;clear hW4;go_upto_region 10 with fail
     go_region
     rw[←HW4.out];have HB4:Hid (Below W.heap.size W W4):=Qd (by rw[HW4.out];exact(HB2.out.alloc (by rw[HS2.out];omega) _).drew);have HG4:Hid (W4.heap[W.heap.size]? =some (.cells #[.int .i64 0,.bool false,.slice none 0 0,.slice none 0 0,.slice none 0 0,.string ⟨#[]⟩,.int .i64 0,.int .i64 0] 54 (0,0))):=Qd (by rw[HW4.out];exact(Below.heap_alloc W2 _ W.heap.size (by rw[HS2.out];omega)).trans HG2.out);have HS4:Hid (W.heap.size+1≤W4.heap.size):=Qd (by rw[HW4.out];show _≤(W2.alloc _).heap.size;simp;rw[HS2.out];omega);have hDC:=Gs (d:=d) (e:=d2) (a:=68) (b:=67) (by omega) (by omega) (by omega) (by omega) (by omega) (by omega);have hUP:=Gs (d:=d) (e:=d2) (a:=85) (b:=80) (by omega) (by omega) (by omega) (by omega) (by omega) (by omega);rw[←HSS.out] at hDC hUP;have hS2:=HSS.out.trans (Cp (d:=d) (e:=d2) (by omega) (by omega) (by omega) (by omega));have hDC:S=⟨#[68,67]⟩↔d=68∧d2=67:=hDC;have hUP:S=⟨#[85,80]⟩↔d=85∧d2=80:=hUP;by_cases e1:d=68∧d2=67
     ·have q1:(S.toList==[68,67])=true:=Hs (hDC.2 e1)
      have HP:Hid (Rk l i W (W4.setRow W.heap.size #[.int .i64 6,.bool false,.slice none 0 0,.slice none 0 0,.slice none 0 0,.string ⟨#[]⟩,.int .i64 0,.int .i64 0]) 6 0 (i+3)):=Qd ⟨by omega,Nat.le_refl _,setRow_heap W4 W.heap.size _ _ _ _ HG4.out,rBelow.setRow HB4.out (Nat.le_refl _) _,by rw[size_setRow];exact HS4.out,by
       rw[HPD.out,if_pos e1,show i+3-i=3 by omega]⟩
      clear hDC hUP e1 hS2;go_wp2_with (with_reducible refine wpList_store_row rfl 54 (.tmp 7) (.tmp 75) rfl W.heap.size #[.int .i64 6,.bool false,.slice none 0 0,.slice none 0 0,.slice none 0 0,.string ⟨#[]⟩,.int .i64 0,.int .i64 0] rfl rfl 54 #[.int .i64 0,.bool false,.slice none 0 0,.slice none 0 0,.slice none 0 0,.string ⟨#[]⟩,.int .i64 0,.int .i64 0] HG4.out (Pa _ _ _ _ _ _ _ _) rfl (Nb _ _ _ _ _ _ _ _ _ _ _ _ _ _) ?_)
      go_meet
      exact⟨6,0,i+3,by go_num,HP⟩
     have q1:(S.toList==[68,67])=false:=Js hS2 (λh=>e1 (hDC.1 h));by_cases e2:d=85∧d2=80
     ·have q2:(S.toList==[85,80])=true:=Hs (hUP.2 e2)
      have HP:Hid (Rk l i W (W4.setRow W.heap.size #[.int .i64 6,.bool false,.slice none 0 0,.slice none 0 0,.slice none 0 0,.string ⟨#[]⟩,.int .i64 1,.int .i64 0]) 6 1 (i+3)):=Qd ⟨by omega,Nat.le_refl _,setRow_heap W4 W.heap.size _ _ _ _ HG4.out,rBelow.setRow HB4.out (Nat.le_refl _) _,by rw[size_setRow];exact HS4.out,by
      rw[HPD.out,if_neg e1,if_pos e2,show i+3-i=3 by omega]⟩
      clear hDC hUP e1 e2 hS2;go_wp2_with (with_reducible refine wpList_store_row rfl 54 (.tmp 7) (.tmp 78) rfl W.heap.size #[.int .i64 6,.bool false,.slice none 0 0,.slice none 0 0,.slice none 0 0,.string ⟨#[]⟩,.int .i64 1,.int .i64 0] rfl rfl 54 #[.int .i64 0,.bool false,.slice none 0 0,.slice none 0 0,.slice none 0 0,.string ⟨#[]⟩,.int .i64 0,.int .i64 0] HG4.out (Pa _ _ _ _ _ _ _ _) rfl (Nb _ _ _ _ _ _ _ _ _ _ _ _ _ _) ?_)
      go_meet
      exact⟨6,1,i+3,by go_num,HP⟩
     have q2:(S.toList==[85,80])=false:=Js hS2 (λh=>e2 (hUP.1 h));clear hDC hUP hS2;have HRE:Hid (Tk.read l i=(Tk.none_,0,1)):=Qd (by rw[HPD.out,if_neg e1,if_neg e2]);have HGR4:Hid (W4.heap[w.heap.size]? =some (.cells #[.int .i64 0,.bool false,.slice none 0 0,.slice none 0 0,.slice none 0 0,.string ⟨#[]⟩,.int .i64 0,.int .i64 0] 54 (0,0))):=Qd ((HB4.out.block w.heap.size (by rw[HWS.out];omega)).trans HGA.out);go_wp2_with (with_reducible refine wpList_store_row rfl 54 (.tmp 4) (.tmp 72) rfl w.heap.size #[.int .i64 0,.bool false,.slice none 0 0,.slice none 0 0,.slice none 0 0,.string ⟨#[]⟩,.int .i64 0,.int .i64 0] rfl rfl 54 #[.int .i64 0,.bool false,.slice none 0 0,.slice none 0 0,.slice none 0 0,.string ⟨#[]⟩,.int .i64 0,.int .i64 0] HGR4.out (Pa _ _ _ _ _ _ _ _) rfl (Nb _ _ _ _ _ _ _ _ _ _ _ _ _ _) ?_)
     refine bodyPost_ret (Ka (by rfl) _ _ w.heap.size 54 #[.int .i64 0,.bool false,.slice none 0 0,.slice none 0 0,.slice none 0 0,.string ⟨#[]⟩,.int .i64 0,.int .i64 0] (0,0) _ _ _ (by rfl) (by rfl) (by rfl) (Ha HGR4.out) Tryz.underlying54 rfl (Pa _ _ _ _ _ _ _ _)) rfl (HR.out _ _ ?_);rw[HRE.out];exact⟨_,_,_,rfl,Ma _,Ma _,World.ownsRow_nil _ _ _ _,rBelow.setRow (hb0.trans (HB4.out.mono (by rw[HWS.out];omega))) (Nat.le_refl _) _⟩
   have hdd:Tk.digit d=true∧d≤55:=by
    have h:=hB4.symm;rw[Bool.and_eq_true,decide_eq_true_eq] at h;exact h
   have h48:48≤d:=by
    have h:=hdd.1;unfold Tk.digit at h;rw[Bool.and_eq_true,decide_eq_true_eq,decide_eq_true_eq] at h;exact h.1
   have h55:=hdd.2;have hlt:i+1<l.length:=by
    rcases Nat.lt_or_ge (i+1) l.length with h |h
    ·exact h
    have h1:=hdd.1;rw[HD.out,Tk.getD_out h] at h1;cases h1
   have g1:=G1.out hlt W2 HB2.out;have HPD:=Qd (Tk.port_digit HC.out (by rw[←HD.out];exact hdd.1) (by rw[←HD.out];exact hdd.2));rw[←HQ.out,←HD.out] at HPD;obtain⟨W3,hW3⟩:∃W3,W3=W2.setRow W.heap.size #[.int .i64 4,.bool false,.slice none 0 0,.slice none 0 0,.slice none 0 0,.string ⟨#[]⟩,.int .i64 (d-48),.int .i64 0]:=⟨_,rfl⟩;have hb3:Below W.heap.size W W3:=by rw[hW3];exact rBelow.setRow HB2.out (Nat.le_refl _) _
   have g0:=G0.out W3 hb3;have hG3:W3.heap[W.heap.size]? =some (.cells #[.int .i64 4,.bool false,.slice none 0 0,.slice none 0 0,.slice none 0 0,.string ⟨#[]⟩,.int .i64 (d-48),.int .i64 0] 54 (0,0)):=by rw[hW3];exact setRow_heap W2 W.heap.size _ _ _ _ HG2.out
   have hS3:W.heap.size+1≤W3.heap.size:=by rw[hW3,size_setRow,HS2.out];exact Nat.le_refl _
   have HW3:=Qd hW3;clear hdd hB4 hW3;rcases hq2 with rfl |rfl
   ·have HP:Hid (Rk l i W W3 4 (d-48) (i+2)):=Qd ⟨Nat.le_refl _,by omega,hG3,hb3,hS3,by
     rw[HPD.out,if_neg (show¬((9109:Int)=9054) by decide),show i+2-i=2 by omega]⟩
    clear hb3 hG3 hS3;go_upto_region 6 with(with_reducible refine wpList_store_row rfl 54 (.tmp 7) (.tmp 31) rfl W.heap.size #[.int .i64 4,.bool false,.slice none 0 0,.slice none 0 0,.slice none 0 0,.string ⟨#[]⟩,.int .i64 (d-48),.int .i64 0] rfl rfl 54 #[.int .i64 0,.bool false,.slice none 0 0,.slice none 0 0,.slice none 0 0,.string ⟨#[]⟩,.int .i64 0,.int .i64 0] HG2.out (Pa _ _ _ _ _ _ _ _) rfl (Nb _ _ _ _ _ _ _ _ _ _ _ _ _ _) ?_)
    rw[←HW3.out];go_wp2_with fail
    go_meet
    exact⟨4,d-48,i+2,by go_num,HP⟩
   have hc0:W3.cell? ⟨W.heap.size,0,none⟩=some (.int .i64 4):=(cell_of_row W3 W.heap.size 0 _ _ _ hG3).trans rfl;have hf0:W3.frozen? ⟨W.heap.size,0,none⟩=false:=by simp[World.frozen?,hG3]
   have HP:Hid (Rk l i W (W3.setCell ⟨W.heap.size,0,none⟩ (.int .i64 5)) 5 (d-48) (i+2)):=Qd ⟨Nat.le_refl _,by omega,Blk.set_ (w:=W3) (g:=W.heap.size) (vs:=[.int .i64 4,.bool false,.slice none 0 0,.slice none 0 0,.slice none 0 0,.string ⟨#[]⟩,.int .i64 (d-48),.int .i64 0]) hG3 0 _,hb3.setCell (Nat.le_refl _) _,by simp only[World.setCell,Array.size_modify];exact hS3,by
    rw[HPD.out,if_pos rfl,show i+2-i=2 by omega]⟩
   clear hb3 hG3 hS3;go_upto_region 6 with(with_reducible refine wpList_store_row rfl 54 (.tmp 7) (.tmp 31) rfl W.heap.size #[.int .i64 4,.bool false,.slice none 0 0,.slice none 0 0,.slice none 0 0,.string ⟨#[]⟩,.int .i64 (d-48),.int .i64 0] rfl rfl 54 #[.int .i64 0,.bool false,.slice none 0 0,.slice none 0 0,.slice none 0 0,.string ⟨#[]⟩,.int .i64 0,.int .i64 0] HG2.out (Pa _ _ _ _ _ _ _ _) rfl (Nb _ _ _ _ _ _ _ _ _ _ _ _ _ _) ?_)
   rw[←HW3.out];go_wp2_with fail
   go_meet
   exact⟨5,d-48,i+2,by go_num,HP⟩
 case rest=>
  obtain⟨k,cc,en,rfl,HP⟩:=hcut;have HGC:Hid (wc.heap[w.heap.size]? =some (.cells #[.int .i64 0,.bool false,.slice none 0 0,.slice none 0 0,.slice none 0 0,.string ⟨#[]⟩,.int .i64 0,.int .i64 0] 54 (0,0))):=Qd ((HP.out.below.block w.heap.size (by rw[HWS.out];omega)).trans HGA.out);have HBK:=Qd HP.out.blk;have hen:=HP.out.hi;have hen2:=HP.out.lo;have h:=LT.out wc HP.out.below en (by omega);have h:=Qd h;have h2:=DG.out wc HP.out.below en (by omega);have h2:=Qd h2;have hwd:Hid (Tk.word (l.getD en (-1))=(Tk.digit (l.getD en (-1))||(Tk.cls (l.getD en (-1))==2))):=Qd rfl;have HTD:=Qd HP.out.told;generalize Tk.word (l.getD en (-1))=bw at*;generalize(Tk.cls (l.getD en (-1))==2)=b1 at*;generalize Tk.digit (l.getD en (-1))=b2 at*;obtain⟨b3,hb3⟩:∃b3,b3=(b1||b2):=⟨_,rfl⟩;have hbw:bw=b3:=by rw[hwd.out,hb3,Bool.or_comm]
  clear hwd LT DG G0 G1 G2;go_upto_region 16 with fail
  go_cut [86] from 87 (λx86 wx=>wx=wc∧x86= .bool b3)
  case first=>
   cases b1
   ·go_wp2_with fail
    refine h.out.mono ?_;rintro e w' ⟨rfl,rfl⟩;go_wp2_with fail
    refine h2.out.mono ?_;rintro e w' ⟨rfl,rfl⟩;go_wp2_with fail
    go_meet
    exact⟨rfl,by rw[hb3];rfl⟩
   go_wp2_with fail
   refine h.out.mono ?_;rintro e w' ⟨rfl,rfl⟩;go_wp2_with fail
   go_meet
   exact⟨rfl,by rw[hb3];rfl⟩
  case rest=>
   obtain⟨hwx,rfl⟩:=hcut;rw[hwx];clear hwx hb3;subst hbw;cases bw
   ·have HRE:Hid (Tk.read l i=(⟨k,Rt.none_,[],[],cc,i⟩,en-i,0)):=Qd (by rw[HTD.out];rfl)
    go_wp2_with (first|(with_reducible refine wpList_load_row rfl 54 (.tmp 7) rfl W.heap.size rfl 54 #[.int .i64 k,.bool false,.slice none 0 0,.slice none 0 0,.slice none 0 0,.string ⟨#[]⟩,.int .i64 cc,.int .i64 0] (0,0) _ HBK.out Tryz.underlying54 rfl (Pa _ _ _ _ _ _ _ _) ?_) |(with_reducible refine wpList_store_row rfl 54 (.tmp 4) (.tmp 88) rfl w.heap.size #[.int .i64 k,.bool false,.slice none 0 0,.slice none 0 0,.slice none 0 0,.string ⟨#[]⟩,.int .i64 cc,.int .i64 0] rfl rfl 54 #[.int .i64 0,.bool false,.slice none 0 0,.slice none 0 0,.slice none 0 0,.string ⟨#[]⟩,.int .i64 0,.int .i64 0] HGC.out (Pa _ _ _ _ _ _ _ _) rfl (Nb _ _ _ _ _ _ _ _ _ _ _ _ _ _) ?_))
    refine bodyPost_ret (Ka (by rfl) _ _ w.heap.size 54 #[.int .i64 k,.bool false,.slice none 0 0,.slice none 0 0,.slice none 0 0,.string ⟨#[]⟩,.int .i64 cc,.int .i64 0] (0,0) _ _ _ (by rfl) (by rfl) (by rfl) (Ha HGC.out) Tryz.underlying54 rfl (Pa _ _ _ _ _ _ _ _)) rfl (HR.out _ _ ?_);rw[HRE.out];show Pe w _ (i+(en-i)) 0 _ _;rw[show i+(en-i)=en by omega];exact⟨_,_,_,rfl,Ma _,Ma _,World.ownsRow_nil _ _ _ _,rBelow.setRow (hb0.trans (HP.out.below.mono (by rw[HWS.out];omega))) (Nat.le_refl _) _⟩
   have HRE:Hid (Tk.read l i=(Tk.none_,0,1)):=Qd (by rw[HTD.out];rfl);go_wp2_with (with_reducible refine wpList_store_row rfl 54 (.tmp 4) (.tmp 87) rfl w.heap.size #[.int .i64 0,.bool false,.slice none 0 0,.slice none 0 0,.slice none 0 0,.string ⟨#[]⟩,.int .i64 0,.int .i64 0] rfl rfl 54 #[.int .i64 0,.bool false,.slice none 0 0,.slice none 0 0,.slice none 0 0,.string ⟨#[]⟩,.int .i64 0,.int .i64 0] HGC.out (Pa _ _ _ _ _ _ _ _) rfl (Nb _ _ _ _ _ _ _ _ _ _ _ _ _ _) ?_)
   refine bodyPost_ret (Ka (by rfl) _ _ w.heap.size 54 #[.int .i64 0,.bool false,.slice none 0 0,.slice none 0 0,.slice none 0 0,.string ⟨#[]⟩,.int .i64 0,.int .i64 0] (0,0) _ _ _ (by rfl) (by rfl) (by rfl) (Ha HGC.out) Tryz.underlying54 rfl (Pa _ _ _ _ _ _ _ _)) rfl (HR.out _ _ ?_);rw[HRE.out];exact⟨_,_,_,rfl,Ma _,Ma _,World.ownsRow_nil _ _ _ _,rBelow.setRow (hb0.trans (HP.out.below.mono (by rw[HWS.out];omega))) (Nat.le_refl _) _⟩
end
section
open Go.RowKit
theorem Ks {w:World}{base:Nat}{e t:TypeId}{size n:Nat}{v:Value}{xs:List Value}(h:w.ownsRow base e size v n xs){g:Nat}{old:Array Value}(hg:w.heap[g]? =some (.cells old t (0,0)))(hne:t≠e)(cs:Array Value):(w.setRow g cs).ownsRow base e size v n xs:=by
 obtain⟨h1,h2⟩:=h;refine⟨h1,?_⟩;rcases h2 with h2 |⟨g',cap,cur,hv,hb,hh,r⟩
 ·exact .inl h2
 have hgg:g≠g':=by
  rintro rfl;rw[hg] at hh;injection hh with hh
  injection hh with _ e2
  exact hne e2
 exact .inr ⟨g',cap,cur,hv,hb,by rw[←hh];simp only[World.setRow,Array.getElem?_modify];rw[if_neg hgg],r⟩
theorem Hg {w w':World}(t:Tk.Tok){en:Nat}{er:Int}{n1 n2 lv:Value}{cs:Array Value}(hg:w'.heap[w.heap.size]? =some (.cells #[.int .i64 0,.bool false,.slice none 0 0,.slice none 0 0,.slice none 0 0,.string ⟨#[]⟩,.int .i64 0,.int .i64 0] 54 (0,0)))
 (h1:IsRes w' n1 t.n.top) (h2:IsRes w' n2 t.n.bot) (h3:w'.ownsRow 0 3 1 lv t.l.length (Xa t.l)) (hb:Below w.heap.size w w'):
 Pe w t en er (.returned (.tuple #[.agg #[.int .i64 t.kind,.bool t.n.neg,n1,n2,lv,.string ⟨t.s.toArray⟩,.int .i64 t.c,.int .i64 0],.int .i64 (en:Int),.int .i64 er])) (w'.setRow w.heap.size cs):=
 ⟨n1,n2,lv,rfl,h1.setRowU hg Cl _,h2.setRowU hg Cl _,Ks h3 hg (by decide) _,rBelow.setRow hb (Nat.le_refl _) _⟩
theorem N4 (A:Option Addr)(c:Nat)(l:List Int)(i:Nat)(w:World)(hl:Lies w w.heap.size A (Xa l))(hn:l.length≤25000)(hcap:l.length≤c)(hm:∀x∈l,Gl.may x=true)(hi:i<l.length)(hb1:Tk.cls (l.getD i (-1))≠1):
 Calls Tryz.prog 52 #[.slice A l.length c,.int .i64 (i:Int)] w (Oc w l i):=by
 obtain⟨r,hr⟩:∃r,r=Tk.read l i:=⟨_,rfl⟩;obtain⟨t,n,er⟩:=r;obtain⟨en,hen⟩:∃en,en=(if er=0 then i+n else 0):=⟨_,rfl⟩;have HR:Hid (∀e w',Pe w t en er e w'→Oc w l i e w'):=Qd (λe w' h=>by unfold Oc;rw[←hr];dsimp only;rw[←hen];exact h);have HRD:=Qd hr;have HEN:=Qd hen;obtain⟨W,hW⟩:∃W,W=w.alloc (.cells #[.int .i64 0,.bool false,.slice none 0 0,.slice none 0 0,.slice none 0 0,.string ⟨#[]⟩,.int .i64 0,.int .i64 0] 54):=⟨_,rfl⟩;have hb0:Below w.heap.size w W:=by rw[hW];exact(Below.refl _ _).alloc (Nat.le_refl _) _
 have HGA:Hid (W.heap[w.heap.size]? =some (.cells #[.int .i64 0,.bool false,.slice none 0 0,.slice none 0 0,.slice none 0 0,.string ⟨#[]⟩,.int .i64 0,.int .i64 0] 54 (0,0))):=Qd (by rw[hW];exact heap_alloc_new w _);have HWS:Hid (W.heap.size=w.heap.size+1):=Qd (by rw[hW];simp);have hlW:Lies W W.heap.size A (Xa l):=(hl.below hb0).more hb0.size;obtain⟨x,hx⟩:∃x,x=l.getD i (-1):=⟨_,rfl⟩;rw[←hx] at hb1;have HX:=Qd hx;have CA:=Qd (λwx=>Bg x wx);have NUM:=Qd (λh=>Aq A c l i W hlW hn hcap hm hi h);have NAM:=Qd (λh=>Y3 A c l i W hlW (by omega) hcap hm hi h);have TXT:=Qd (λh=>St A c l i W hlW hn hcap hi h);have PRT:=Qd (λh=>M4 A c l i W hlW hn hcap hi h);rw[←hx] at NUM NAM TXT PRT;have HW:Hid (W=w.alloc (.cells #[.int .i64 0,.bool false,.slice none 0 0,.slice none 0 0,.slice none 0 0,.string ⟨#[]⟩,.int .i64 0,.int .i64 0] 54)):=Qd hW;obtain⟨b,off,rfl,hb,g0⟩:=Lb hlW hi;rw[←Tk.getD_in hi,←hx] at g0;obtain⟨k,hk⟩:∃k,k=Tk.cls x:=⟨_,rfl⟩;rw[←hk] at CA hb1 NUM NAM;have HK:=Qd hk;clear hl hlW hm hW hr hen hx hk;go_enter Tryz.func52,Tryz.ntmps52
 go_upto_region 1 with fail
 rw[←HW.out];go_upto_region 2 with fail
 go_wp2_with fail
 refine(CA.out _).mono ?_;rintro e w' ⟨rfl,rfl⟩;by_cases k3:k=3
 ·have q3:(k==3)=true:=by rw[k3];rfl
  have HCA:=Qd (NUM.out k3);unfold Oc at HCA;rw[←HRD.out] at HCA;dsimp only at HCA;rw[←HEN.out] at HCA;clear NAM TXT PRT NUM hb1 k3;go_wp2_with fail
  refine HCA.out.mono ?_;intro e w' h;obtain⟨n1,n2,lv,he,h1,h2,h3,h4⟩:=h;have he:e= .returned (.tuple #[.agg #[.int .i64 t.kind,.bool t.n.neg,n1,n2,lv,.string ⟨t.s.toArray⟩,.int .i64 t.c,.int .i64 0],.int .i64 (en:Int),.int .i64 er]):=he;subst he;have h1':=h1;have h2':=h2;obtain⟨A1,c1,rfl,_⟩:=h1';obtain⟨A2,c2,rfl,_⟩:=h2';obtain⟨A3,c3,rfl,_,_⟩:=Wb h3;have HGX:Hid (w'.heap[w.heap.size]? =some (.cells #[.int .i64 0,.bool false,.slice none 0 0,.slice none 0 0,.slice none 0 0,.string ⟨#[]⟩,.int .i64 0,.int .i64 0] 54 (0,0))):=Qd ((h4.block w.heap.size (by rw[HWS.out];omega)).trans HGA.out);have H1:=Qd h1;have H2:=Qd h2;have H3:=Qd h3;have H4:=Qd h4;clear h1 h2 h3 h4;go_wp2_with (with_reducible refine wpList_store_row rfl 54 (.tmp 4) (.tmp 19) rfl w.heap.size #[.int .i64 t.kind,.bool t.n.neg,.slice A1 t.n.top.length c1,.slice A2 t.n.bot.length c2,.slice A3 t.l.length c3,.string ⟨t.s.toArray⟩,.int .i64 t.c,.int .i64 0] rfl rfl 54 #[.int .i64 0,.bool false,.slice none 0 0,.slice none 0 0,.slice none 0 0,.string ⟨#[]⟩,.int .i64 0,.int .i64 0] HGX.out (Pa _ _ _ _ _ _ _ _) rfl (Nb _ _ _ _ _ _ _ _ _ _ _ _ _ _) ?_)
  refine bodyPost_ret (Ka (by rfl) _ _ w.heap.size 54 #[.int .i64 t.kind,.bool t.n.neg,.slice A1 t.n.top.length c1,.slice A2 t.n.bot.length c2,.slice A3 t.l.length c3,.string ⟨t.s.toArray⟩,.int .i64 t.c,.int .i64 0] (0,0) _ _ _ (by rfl) (by rfl) (by rfl) (Ha HGX.out) Tryz.underlying54 rfl (Pa _ _ _ _ _ _ _ _)) rfl (HR.out _ _ ?_);exact Hg t (HGX.out) H1.out H2.out H3.out (hb0.trans (H4.out.mono (by rw[HWS.out];omega)))
 have q3:(k==3)=false:=beq_eq_false_iff_ne.2 k3;by_cases k2:k=2
 ·have q2:(k==2)=true:=by rw[k2];rfl
  have HCA:=Qd (NAM.out k2);unfold Oc at HCA;rw[←HRD.out] at HCA;dsimp only at HCA;rw[←HEN.out] at HCA;clear NAM TXT PRT NUM hb1 k3 k2;go_wp2_with fail
  refine HCA.out.mono ?_;intro e w' h;obtain⟨n1,n2,lv,he,h1,h2,h3,h4⟩:=h;have he:e= .returned (.tuple #[.agg #[.int .i64 t.kind,.bool t.n.neg,n1,n2,lv,.string ⟨t.s.toArray⟩,.int .i64 t.c,.int .i64 0],.int .i64 (en:Int),.int .i64 er]):=he;subst he;have h1':=h1;have h2':=h2;obtain⟨A1,c1,rfl,_⟩:=h1';obtain⟨A2,c2,rfl,_⟩:=h2';obtain⟨A3,c3,rfl,_,_⟩:=Wb h3;have HGX:Hid (w'.heap[w.heap.size]? =some (.cells #[.int .i64 0,.bool false,.slice none 0 0,.slice none 0 0,.slice none 0 0,.string ⟨#[]⟩,.int .i64 0,.int .i64 0] 54 (0,0))):=Qd ((h4.block w.heap.size (by rw[HWS.out];omega)).trans HGA.out);have H1:=Qd h1;have H2:=Qd h2;have H3:=Qd h3;have H4:=Qd h4;clear h1 h2 h3 h4;go_wp2_with (with_reducible refine wpList_store_row rfl 54 (.tmp 4) (.tmp 27) rfl w.heap.size #[.int .i64 t.kind,.bool t.n.neg,.slice A1 t.n.top.length c1,.slice A2 t.n.bot.length c2,.slice A3 t.l.length c3,.string ⟨t.s.toArray⟩,.int .i64 t.c,.int .i64 0] rfl rfl 54 #[.int .i64 0,.bool false,.slice none 0 0,.slice none 0 0,.slice none 0 0,.string ⟨#[]⟩,.int .i64 0,.int .i64 0] HGX.out (Pa _ _ _ _ _ _ _ _) rfl (Nb _ _ _ _ _ _ _ _ _ _ _ _ _ _) ?_)
  refine bodyPost_ret (Ka (by rfl) _ _ w.heap.size 54 #[.int .i64 t.kind,.bool t.n.neg,.slice A1 t.n.top.length c1,.slice A2 t.n.bot.length c2,.slice A3 t.l.length c3,.string ⟨t.s.toArray⟩,.int .i64 t.c,.int .i64 0] (0,0) _ _ _ (by rfl) (by rfl) (by rfl) (Ha HGX.out) Tryz.underlying54 rfl (Pa _ _ _ _ _ _ _ _)) rfl (HR.out _ _ ?_);exact Hg t (HGX.out) H1.out H2.out H3.out (hb0.trans (H4.out.mono (by rw[HWS.out];omega)))
 have q2:(k==2)=false:=beq_eq_false_iff_ne.2 k2;by_cases k0:k=0
 ·have q0:(k==0)=true:=by rw[k0];rfl
  have HRE:Hid (t=Tk.none_∧en=0∧er=1):=Qd (by
   have h:=HRD.out;unfold Tk.read at h;rw[←HX.out] at h;dsimp only at h;rw[←HK.out,if_neg k3,if_neg k2,if_neg (λe=>by have h':=HK.out;rw[e,k0] at h';exact absurd h' (by decide)),if_neg (λe=>by have h':=HK.out;rcases e with e |e<;>(rw[e,k0] at h';exact absurd h' (by decide))),if_pos k0] at h;have e1:=congrArg (λp=>p.1) h;have e2:=congrArg (λp=>p.2.2) h;dsimp only at e1 e2;exact⟨e1,by rw[HEN.out,e2];rfl,e2⟩)
  clear hb1 k0 k2 k3;go_wp2_with (with_reducible refine wpList_store_row rfl 54 (.tmp 4) (.tmp 32) rfl w.heap.size #[.int .i64 0,.bool false,.slice none 0 0,.slice none 0 0,.slice none 0 0,.string ⟨#[]⟩,.int .i64 0,.int .i64 0] rfl rfl 54 #[.int .i64 0,.bool false,.slice none 0 0,.slice none 0 0,.slice none 0 0,.string ⟨#[]⟩,.int .i64 0,.int .i64 0] HGA.out (Pa _ _ _ _ _ _ _ _) rfl (Nb _ _ _ _ _ _ _ _ _ _ _ _ _ _) ?_)
  refine bodyPost_ret (Ka (by rfl) _ _ w.heap.size 54 #[.int .i64 0,.bool false,.slice none 0 0,.slice none 0 0,.slice none 0 0,.string ⟨#[]⟩,.int .i64 0,.int .i64 0] (0,0) _ _ _ (by rfl) (by rfl) (by rfl) (Ha HGA.out) Tryz.underlying54 rfl (Pa _ _ _ _ _ _ _ _)) rfl (HR.out _ _ ?_);obtain⟨r1,r2,r3⟩:=HRE.out;rw[r1,r2,r3];exact⟨_,_,_,rfl,Ma _,Ma _,World.ownsRow_nil _ _ _ _,rBelow.setRow hb0 (Nat.le_refl _) _⟩
 have q0:(k==0)=false:=beq_eq_false_iff_ne.2 k0;by_cases x39:x=39
 ·have y39:(x==39)=true:=by rw[x39];rfl
  have HCA:=Qd (TXT.out x39);unfold Oc at HCA;rw[←HRD.out] at HCA;dsimp only at HCA;rw[←HEN.out] at HCA;clear NAM TXT PRT NUM hb1 k3 k2 k0 x39;go_wp2_with fail
  refine HCA.out.mono ?_;intro e w' h;obtain⟨n1,n2,lv,he,h1,h2,h3,h4⟩:=h;have he:e= .returned (.tuple #[.agg #[.int .i64 t.kind,.bool t.n.neg,n1,n2,lv,.string ⟨t.s.toArray⟩,.int .i64 t.c,.int .i64 0],.int .i64 (en:Int),.int .i64 er]):=he;subst he;have h1':=h1;have h2':=h2;obtain⟨A1,c1,rfl,_⟩:=h1';obtain⟨A2,c2,rfl,_⟩:=h2';obtain⟨A3,c3,rfl,_,_⟩:=Wb h3;have HGX:Hid (w'.heap[w.heap.size]? =some (.cells #[.int .i64 0,.bool false,.slice none 0 0,.slice none 0 0,.slice none 0 0,.string ⟨#[]⟩,.int .i64 0,.int .i64 0] 54 (0,0))):=Qd ((h4.block w.heap.size (by rw[HWS.out];omega)).trans HGA.out);have H1:=Qd h1;have H2:=Qd h2;have H3:=Qd h3;have H4:=Qd h4;clear h1 h2 h3 h4;go_wp2_with (with_reducible refine wpList_store_row rfl 54 (.tmp 4) (.tmp 39) rfl w.heap.size #[.int .i64 t.kind,.bool t.n.neg,.slice A1 t.n.top.length c1,.slice A2 t.n.bot.length c2,.slice A3 t.l.length c3,.string ⟨t.s.toArray⟩,.int .i64 t.c,.int .i64 0] rfl rfl 54 #[.int .i64 0,.bool false,.slice none 0 0,.slice none 0 0,.slice none 0 0,.string ⟨#[]⟩,.int .i64 0,.int .i64 0] HGX.out (Pa _ _ _ _ _ _ _ _) rfl (Nb _ _ _ _ _ _ _ _ _ _ _ _ _ _) ?_)
  refine bodyPost_ret (Ka (by rfl) _ _ w.heap.size 54 #[.int .i64 t.kind,.bool t.n.neg,.slice A1 t.n.top.length c1,.slice A2 t.n.bot.length c2,.slice A3 t.l.length c3,.string ⟨t.s.toArray⟩,.int .i64 t.c,.int .i64 0] (0,0) _ _ _ (by rfl) (by rfl) (by rfl) (Ha HGX.out) Tryz.underlying54 rfl (Pa _ _ _ _ _ _ _ _)) rfl (HR.out _ _ ?_);exact Hg t (HGX.out) H1.out H2.out H3.out (hb0.trans (H4.out.mono (by rw[HWS.out];omega)))
 have y39:(x==39)=false:=beq_eq_false_iff_ne.2 x39;by_cases xp:x=9109∨x=9054
 ·rcases xp with xq |xq
  ·have y1:(x==9109)=true:=by rw[xq];rfl
   have HCA:=Qd (PRT.out (.inl xq));unfold Oc at HCA;rw[←HRD.out] at HCA;dsimp only at HCA;rw[←HEN.out] at HCA;clear NAM TXT PRT NUM hb1 k3 k2 k0 x39 xq;go_wp2_with fail
   refine HCA.out.mono ?_;intro e w' h;obtain⟨n1,n2,lv,he,h1,h2,h3,h4⟩:=h;have he:e= .returned (.tuple #[.agg #[.int .i64 t.kind,.bool t.n.neg,n1,n2,lv,.string ⟨t.s.toArray⟩,.int .i64 t.c,.int .i64 0],.int .i64 (en:Int),.int .i64 er]):=he;subst he;have h1':=h1;have h2':=h2;obtain⟨A1,c1,rfl,_⟩:=h1';obtain⟨A2,c2,rfl,_⟩:=h2';obtain⟨A3,c3,rfl,_,_⟩:=Wb h3;have HGX:Hid (w'.heap[w.heap.size]? =some (.cells #[.int .i64 0,.bool false,.slice none 0 0,.slice none 0 0,.slice none 0 0,.string ⟨#[]⟩,.int .i64 0,.int .i64 0] 54 (0,0))):=Qd ((h4.block w.heap.size (by rw[HWS.out];omega)).trans HGA.out);have H1:=Qd h1;have H2:=Qd h2;have H3:=Qd h3;have H4:=Qd h4;clear h1 h2 h3 h4;go_wp2_with (with_reducible refine wpList_store_row rfl 54 (.tmp 4) (.tmp 48) rfl w.heap.size #[.int .i64 t.kind,.bool t.n.neg,.slice A1 t.n.top.length c1,.slice A2 t.n.bot.length c2,.slice A3 t.l.length c3,.string ⟨t.s.toArray⟩,.int .i64 t.c,.int .i64 0] rfl rfl 54 #[.int .i64 0,.bool false,.slice none 0 0,.slice none 0 0,.slice none 0 0,.string ⟨#[]⟩,.int .i64 0,.int .i64 0] HGX.out (Pa _ _ _ _ _ _ _ _) rfl (Nb _ _ _ _ _ _ _ _ _ _ _ _ _ _) ?_)
   refine bodyPost_ret (Ka (by rfl) _ _ w.heap.size 54 #[.int .i64 t.kind,.bool t.n.neg,.slice A1 t.n.top.length c1,.slice A2 t.n.bot.length c2,.slice A3 t.l.length c3,.string ⟨t.s.toArray⟩,.int .i64 t.c,.int .i64 0] (0,0) _ _ _ (by rfl) (by rfl) (by rfl) (Ha HGX.out) Tryz.underlying54 rfl (Pa _ _ _ _ _ _ _ _)) rfl (HR.out _ _ ?_);exact Hg t (HGX.out) H1.out H2.out H3.out (hb0.trans (H4.out.mono (by rw[HWS.out];omega)))
  have y1:(x==9109)=false:=by rw[xq];rfl
  have y2:(x==9054)=true:=by rw[xq];rfl
  have HCA:=Qd (PRT.out (.inr xq));unfold Oc at HCA;rw[←HRD.out] at HCA;dsimp only at HCA;rw[←HEN.out] at HCA;clear NAM TXT PRT NUM hb1 k3 k2 k0 x39 xq;go_wp2_with fail
  refine HCA.out.mono ?_;intro e w' h;obtain⟨n1,n2,lv,he,h1,h2,h3,h4⟩:=h;have he:e= .returned (.tuple #[.agg #[.int .i64 t.kind,.bool t.n.neg,n1,n2,lv,.string ⟨t.s.toArray⟩,.int .i64 t.c,.int .i64 0],.int .i64 (en:Int),.int .i64 er]):=he;subst he;have h1':=h1;have h2':=h2;obtain⟨A1,c1,rfl,_⟩:=h1';obtain⟨A2,c2,rfl,_⟩:=h2';obtain⟨A3,c3,rfl,_,_⟩:=Wb h3;have HGX:Hid (w'.heap[w.heap.size]? =some (.cells #[.int .i64 0,.bool false,.slice none 0 0,.slice none 0 0,.slice none 0 0,.string ⟨#[]⟩,.int .i64 0,.int .i64 0] 54 (0,0))):=Qd ((h4.block w.heap.size (by rw[HWS.out];omega)).trans HGA.out);have H1:=Qd h1;have H2:=Qd h2;have H3:=Qd h3;have H4:=Qd h4;clear h1 h2 h3 h4;go_wp2_with (with_reducible refine wpList_store_row rfl 54 (.tmp 4) (.tmp 48) rfl w.heap.size #[.int .i64 t.kind,.bool t.n.neg,.slice A1 t.n.top.length c1,.slice A2 t.n.bot.length c2,.slice A3 t.l.length c3,.string ⟨t.s.toArray⟩,.int .i64 t.c,.int .i64 0] rfl rfl 54 #[.int .i64 0,.bool false,.slice none 0 0,.slice none 0 0,.slice none 0 0,.string ⟨#[]⟩,.int .i64 0,.int .i64 0] HGX.out (Pa _ _ _ _ _ _ _ _) rfl (Nb _ _ _ _ _ _ _ _ _ _ _ _ _ _) ?_)
  refine bodyPost_ret (Ka (by rfl) _ _ w.heap.size 54 #[.int .i64 t.kind,.bool t.n.neg,.slice A1 t.n.top.length c1,.slice A2 t.n.bot.length c2,.slice A3 t.l.length c3,.string ⟨t.s.toArray⟩,.int .i64 t.c,.int .i64 0] (0,0) _ _ _ (by rfl) (by rfl) (by rfl) (Ha HGX.out) Tryz.underlying54 rfl (Pa _ _ _ _ _ _ _ _)) rfl (HR.out _ _ ?_);exact Hg t (HGX.out) H1.out H2.out H3.out (hb0.trans (H4.out.mono (by rw[HWS.out];omega)))
 have y1:(x==9109)=false:=beq_eq_false_iff_ne.2 (λh=>xp (.inl h));have y2:(x==9054)=false:=beq_eq_false_iff_ne.2 (λh=>xp (.inr h));have HRE:Hid (t=⟨7,Rt.none_,[],[],x,i⟩∧en=i+1∧er=0):=Qd (by
  have h:=HRD.out;unfold Tk.read at h;rw[←HX.out] at h;dsimp only at h;rw[←HK.out,if_neg k3,if_neg k2,if_neg x39,if_neg xp,if_neg k0] at h;have e1:=congrArg (λp=>p.1) h;have e2:=congrArg (λp=>p.2.2) h;have e3:=congrArg (λp=>p.2.1) h;dsimp only at e1 e2 e3;exact⟨e1,by rw[HEN.out,e2,e3];rfl,e2⟩)
 clear hb1 k0 k2 k3 x39 xp;go_wp2_with (with_reducible refine wpList_store_row rfl 54 (.tmp 4) (.tmp 52) rfl w.heap.size #[.int .i64 7,.bool false,.slice none 0 0,.slice none 0 0,.slice none 0 0,.string ⟨#[]⟩,.int .i64 x,.int .i64 0] rfl rfl 54 #[.int .i64 0,.bool false,.slice none 0 0,.slice none 0 0,.slice none 0 0,.string ⟨#[]⟩,.int .i64 0,.int .i64 0] HGA.out (Pa _ _ _ _ _ _ _ _) rfl (Nb _ _ _ _ _ _ _ _ _ _ _ _ _ _) ?_)
 refine bodyPost_ret (Ka (by rfl) _ _ w.heap.size 54 #[.int .i64 7,.bool false,.slice none 0 0,.slice none 0 0,.slice none 0 0,.string ⟨#[]⟩,.int .i64 x,.int .i64 0] (0,0) _ _ _ (by rfl) (by rfl) (by rfl) (Ha HGA.out) Tryz.underlying54 rfl (Pa _ _ _ _ _ _ _ _)) rfl (HR.out _ _ ?_);obtain⟨r1,r2,r3⟩:=HRE.out;rw[r1,r2,r3];exact⟨_,_,_,rfl,Ma _,Ma _,World.ownsRow_nil _ _ _ _,rBelow.setRow hb0 (Nat.le_refl _) _⟩
end
section
open Go.RowKit
def Qj (u:Value):Prop:=∀n:Int,u≠ .int .u32 n
theorem IsRes.grownQ {w w':World}{v:Value}{ds:List Nat}(h:IsRes w v ds){base:Nat}{e:TypeId}{size n:Nat}{r:Value}{xs:List Value}(ho:w.ownsQ Qj base e size r n xs)(hg:w.grownBy w' r.ownBlock):IsRes w' v ds:=by
 obtain⟨A,c,h1,h2,h3,h4,h5⟩:=h;refine⟨A,c,h1,h2,h3,h4,?_⟩;rcases h5 with h5 |⟨b,off,e,hb,hc⟩
 ·exact .inl h5
 cases ds with
 |nil=>exact .inl rfl
 |cons x l=>
  have hne:r.ownBlock≠some b:=ho.apart (hc 0 _ rfl) (λhq=>hq _ rfl);refine .inr ⟨b,off,e,Nat.lt_of_lt_of_le hb hg.size,λi u hu=>?_⟩;rw[World.cell?_of_block (w:=w) (hg.block b hb (λe=>hne e.symm))];exact hc i u hu
theorem IsRes.below_ {w w':World}{v:Value}{ds:List Nat}(h:IsRes w v ds)(hb:Below w.heap.size w w'):IsRes w' v ds:=by
 obtain⟨A,c,h1,h2,h3,h4,h5⟩:=h;exact⟨A,c,h1,h2,h3,h4,(h5.below hb).more hb.size⟩
theorem Jl {w w':World}{base base':Nat}{e t:TypeId}{q:Value→Prop}{size size' n n':Nat}{v r:Value}{xs xs':List Value}(h:w.ownsRow base e size v n xs)(ho:w.ownsQ q base' t size' r n' xs')(hne:t≠e)(hg:w.grownBy w' r.ownBlock):w'.ownsRow base e size v n xs:=by
 refine h.kept hg ?_;rcases h.2 with⟨rfl,_⟩ |⟨g,cap,cur,rfl,hb,hh,_⟩
 ·exact .inl rfl
 right
 rcases ho.2 with⟨rfl,_⟩ |⟨g',cap',cur',rfl,hb',hh',_⟩
 ·simp[Value.ownBlock]
 intro e1;simp only[Value.ownBlock] at e1;injection e1 with e1
 have e1:g=g':=e1;subst e1;rw[hh] at hh';injection hh' with hh'
 injection hh' with _ e2
 exact hne e2.symm
def TokRows (w:World):List Tk.Tok→List Value→Prop
 | [],xs=>xs=[]
 |t::ts,xs=>∃n1 n2 lv r,xs=Fd t.kind t.n.neg n1 n2 lv t.s t.c t.at_++r∧IsRes w n1 t.n.top∧IsRes w n2 t.n.bot∧w.ownsRow 0 3 1 lv t.l.length (Xa t.l)∧TokRows w ts r
theorem TokRows.len {w:World}:∀{ts:List Tk.Tok} {xs:List Value},TokRows w ts xs→xs.length=ts.length*8
 | [],xs,h=>by have h:xs=[]:=h;subst h;rfl
 |t::ts,xs,h=>by
  obtain⟨n1,n2,lv,r,rfl,_,_,_,hr⟩:=h;rw[List.length_append,hr.len,List.length_cons,Nat.succ_mul];show 8+_=_;omega
theorem TokRows.snoc {w:World}{t:Tk.Tok}{n1 n2 lv:Value}(h1:IsRes w n1 t.n.top)(h2:IsRes w n2 t.n.bot)(h3:w.ownsRow 0 3 1 lv t.l.length (Xa t.l)):∀{ts:List Tk.Tok} {xs:List Value},TokRows w ts xs→TokRows w (ts++[t]) (xs++Fd t.kind t.n.neg n1 n2 lv t.s t.c t.at_)
 | [],xs,h=>by
  have h:xs=[]:=h;subst h;exact⟨n1,n2,lv,[],by simp,h1,h2,h3,rfl⟩
 |u::ts,xs,h=>by
  obtain⟨m1,m2,mv,r,rfl,k1,k2,k3,hr⟩:=h;exact⟨m1,m2,mv,_,by rw[List.append_assoc],k1,k2,k3,TokRows.snoc h1 h2 h3 hr⟩
theorem TokRows.map {w w':World}(h1:∀v ds,IsRes w v ds→IsRes w' v ds)(h2:∀v l,w.ownsRow 0 3 1 v l (Xa [])→True)(h3:∀v (l:List Int),w.ownsRow 0 3 1 v l.length (Xa l)→w'.ownsRow 0 3 1 v l.length (Xa l)):∀{ts:List Tk.Tok} {xs:List Value},TokRows w ts xs→TokRows w' ts xs
 | [],xs,h=>h
 |u::ts,xs,h=>by
  obtain⟨m1,m2,mv,r,e,k1,k2,k3,hr⟩:=h;exact⟨m1,m2,mv,r,e,h1 _ _ k1,h1 _ _ k2,h3 _ _ k3,TokRows.map h1 h2 h3 hr⟩
theorem TokRows.below {w w':World}{ts:List Tk.Tok}{xs:List Value}(h:TokRows w ts xs)(hb:Below w.heap.size w w'):TokRows w' ts xs:=
 TokRows.map (λ_ _ k=>k.below_ hb) (λ_ _ _=>trivial) (λ_ _ k=>Qg k hb) h
theorem TokRows.grown {w w':World}{ts:List Tk.Tok}{xs:List Value}(h:TokRows w ts xs){base:Nat}{t:TypeId}{size n:Nat}{r:Value}{ys:List Value}(ho:w.ownsQ Qj base t size r n ys)(hne:t≠3)(hg:w.grownBy w' r.ownBlock):TokRows w' ts xs:=
 TokRows.map (λ_ _ k=>k.grownQ ho hg) (λ_ _ _=>trivial) (λ_ _ k=>Jl k ho hne hg) h
def IsToks (w:World)(base:Nat)(v:Value)(ts:List Tk.Tok):Prop:=∃xs,w.ownsQ Qj base 54 8 v ts.length xs∧TokRows w ts xs
theorem IsToks.nil (w:World)(base:Nat):IsToks w base (.slice none 0 0) []:=⟨[],World.ownsQ_nil _ _ _ _ _,rfl⟩
theorem Zf {w w':World}{q:Value→Prop}{base:Nat}{e:TypeId}{size n:Nat}{v:Value}{xs:List Value}(h:w.ownsQ q base e size v n xs)(hb:Below w.heap.size w w'):w'.ownsQ q base e size v n xs:=by
 obtain⟨h1,h2⟩:=h;refine⟨h1,?_⟩;rcases h2 with h2 |⟨g,cap,cur,hv,hbs,hh,r⟩
 ·exact .inl h2
 have hg:g<w.heap.size:=by
  rcases Nat.lt_or_ge g w.heap.size with h |h
  ·exact h
  rw[Array.getElem?_eq_none h] at hh;cases hh
 exact .inr ⟨g,cap,cur,hv,hbs,(hb.block g hg).trans hh,r⟩
theorem IsToks.below {w w':World}{base:Nat}{v:Value}{ts:List Tk.Tok}(h:IsToks w base v ts)(hb:Below w.heap.size w w'):IsToks w' base v ts:=by
 obtain⟨xs,h1,h2⟩:=h;exact⟨xs,Zf h1 hb,h2.below hb⟩
theorem Sk (k:Int)(neg:Bool){n1 n2 lv:Value}(h1:Qj n1)(h2:Qj n2)(h3:Qj lv)(s:List UInt8)(c a:Int):∀u∈Fd k neg n1 n2 lv s c a,Qj u:=by
 intro u hu n e;subst e;unfold Fd at hu;simp only[List.mem_cons,List.not_mem_nil,or_false] at hu;rcases hu with hu |hu |hu |hu |hu |hu |hu |hu
 ·injection hu with e1;cases e1
 ·cases hu
 ·exact h1 n hu.symm
 ·exact h2 n hu.symm
 ·exact h3 n hu.symm
 ·cases hu
 ·injection hu with e1;cases e1
 injection hu with e1;cases e1
theorem IsRes.noU {w:World}{v:Value}{ds:List Nat}(h:IsRes w v ds):Qj v:=by
 obtain⟨A,c,rfl,_⟩:=h;intro n e;cases e
theorem K7 {w:World}{base:Nat}{e:TypeId}{size n:Nat}{v:Value}{xs:List Value}(h:w.ownsRow base e size v n xs):Qj v:=by
 obtain⟨A,c,rfl,_,_⟩:=Wb h;intro n e;cases e
theorem Pw:(Tryz.prog.info? 54).map (λi=>(i.zero,i.size,i.bytes))=some (some (.agg #[.int .i64 0,.bool false,.slice none 0 0,.slice none 0 0,.slice none 0 0,.string ⟨#[]⟩,.int .i64 0,.int .i64 0]),8,120):=by kernel_rfl
end
section
open Go.RowKit
theorem Fv {l:List Int}{f i:Nat}{out:List Tk.Tok}(h:l.length≤i∨l.getD i (-1)=9053)(hf:1≤f):Tk.goF l f i out=(out,0,0):=by
 obtain⟨f,rfl⟩:∃g,f=g+1:=⟨f-1,by omega⟩;unfold Tk.goF;rw[if_pos h]
theorem Fz {l:List Int}{f i:Nat}{out:List Tk.Tok}(h:i<l.length)(hx:l.getD i (-1)≠9053)(hb:Tk.cls (l.getD i (-1))=1):Tk.goF l (f+1) i out=Tk.goF l f (i+1) out:=by
 rw[Tk.goF,if_neg (by rintro(h1 |h1);omega;exact hx h1),if_pos hb]
theorem M7 {l:List Int}{f i:Nat}{out:List Tk.Tok}(h:i<l.length)(hx:l.getD i (-1)≠9053)(hb:Tk.cls (l.getD i (-1))≠1)(he:(Tk.read l i).2.2≠0)(hf:1≤f):Tk.goF l f i out=([],i,(Tk.read l i).2.2):=by
 obtain⟨f,rfl⟩:∃g,f=g+1:=⟨f-1,by omega⟩;rw[Tk.goF,if_neg (by rintro(h1 |h1);omega;exact hx h1),if_neg hb,if_pos he]
theorem O4 {l:List Int}{f i:Nat}{out:List Tk.Tok}(h:i<l.length)(hx:l.getD i (-1)≠9053)(hb:Tk.cls (l.getD i (-1))≠1)(he:(Tk.read l i).2.2=0):Tk.goF l (f+1) i out=Tk.goF l f (i+(Tk.read l i).2.1) (out++[(Tk.read l i).1]):=by
 rw[Tk.goF,if_neg (by rintro(h1 |h1);omega;exact hx h1),if_neg hb,if_neg (by rw[he];simp)]
theorem Tt:(Tryz.prog.info? 54).map (λi=>(i.zero,i.size,i.bytes))=some (some (.agg #[.int .i64 0,.bool false,.slice none 0 0,.slice none 0 0,.slice none 0 0,.string ⟨#[]⟩,.int .i64 0,.int .i64 0]),8,120):=Pw
theorem Ff (w:World)(xs:List Value)(t:TypeId):∀j u,xs[j]? =some u→(w.alloc (.cells xs.toArray t)).cell? ((⟨w.heap.size,0,none⟩:Addr).add j)=some u:=by
 intro j u hj;have hadd:(⟨w.heap.size,0,none⟩:Addr).add j=⟨w.heap.size,j,none⟩:=by unfold Addr.add;split<;>simp_all
 rw[hadd,cell_of_row _ w.heap.size j _ _ _ (heap_alloc_new w _)]
 simpa using hj
theorem Q4:∀u∈(Value.agg #[.int .i64 0,.bool false,.slice none 0 0,.slice none 0 0,.slice none 0 0,.string ⟨#[]⟩,.int .i64 0,.int .i64 0]).cells.toList,Qj u:=by
 intro u hu;refine Sk 0 false (n1:= .slice none 0 0) (n2:= .slice none 0 0) (lv:= .slice none 0 0) (λn e=>by cases e) (λn e=>by cases e) (λn e=>by cases e) [] 0 0 u hu
theorem Mf {P:Program}{fn:Func}{p q r:Tmp}(h:fn.results= #[.tmp p,.tmp q,.tmp r])(tmps:Array Value)(w:World)(x u v:Value)
 (hp:tmps.getD p undef=x) (hq:tmps.getD q undef=u) (hr:tmps.getD r undef=v):
 (results fn tmps).run P w= .ok (.tuple #[x,u,v]) w:=by
 have hp':tmps[p]?.getD undef=x:=by simpa using hp
 have hq':tmps[q]?.getD undef=u:=by simpa using hq
 have hr':tmps[r]?.getD undef=v:=by simpa using hr
 simp[results,h,hp',hq',hr']
def Ls (w:World)(r:List Tk.Tok×Nat×Int)(e:Ending)(w':World):Prop:=∃v,e= .returned (.tuple #[v,.int .i64 (r.2.1:Int),.int .i64 r.2.2])∧IsToks w' w.heap.size v r.1∧Below w.heap.size w w'
structure Hq (l:List Int) (w0 wr:World) (i:Nat) (out:List Tk.Tok) (v:Value):Prop where
 hi:i≤l.length
 len:out.length≤i
 toks:IsToks wr w0.heap.size v out
 below:Below w0.heap.size w0 wr
 told:∃f,l.length+1≤f+i∧Tk.goF l (l.length+1) 0 []=Tk.goF l f i out
structure Ms (l:List Int) (w0 wr:World) (out:List Tk.Tok) (v:Value):Prop where
 toks:IsToks wr w0.heap.size v out
 below:Below w0.heap.size w0 wr
 told:Tk.goF l (l.length+1) 0 []=(out,0,0)
theorem Qw (s:ByteArray)(w:World)(hs:s.size≤10000):
 Calls Tryz.prog 24 #[.string s] w (Ls w (Tk.cut s)):=by
 have DEC:=Qd (An s w (by omega));have hmay:∀x∈Gl.ints (Gl.dec s 0).1,Gl.may x=true:=by
  intro x hx;unfold Gl.ints at hx;rw[List.mem_map] at hx;obtain⟨n,hn,rfl⟩:=hx;exact Gl.dec_may (s.size+1) 0 (by omega) n hn
 have hlen:(Gl.ints (Gl.dec s 0).1).length≤10000:=by
  unfold Gl.ints;rw[List.length_map];have:=Gl.dec_len (s:=s) (s.size+1) 0 (by omega);omega
 have HR:Hid (∀e w',Ls w (Tk.cutL (Gl.ints (Gl.dec s 0).1) (Gl.dec s 0).2) e w'→Ls w (Tk.cut s) e w'):=Qd (λe w' h=>h);have hbad:Hid (Gl.badI (Gl.dec s 0).2=match(Gl.dec s 0).2 with |none=> -1 |some i=>(i:Int)):=Qd (by cases (Gl.dec s 0).2<;>rfl);generalize Gl.ints (Gl.dec s 0).1=l at*;obtain⟨ob,hob⟩:∃ob,ob=(Gl.dec s 0).2:=⟨_,rfl⟩;rw[←hob] at DEC HR hbad;obtain⟨bad,hbd⟩:∃bad,bad=Gl.badI ob:=⟨_,rfl⟩;rw[←hbd] at DEC hbad;clear hob hbd;have HM:=Qd hmay;clear hmay;obtain⟨i0,hi0,hz0,hz1,hz2⟩:=info_parts Tt;have CA:=Qd (λx wx=>Bg x wx);go_enter Tryz.func24,Tryz.ntmps24
 go_upto_region 1 with fail
 go_step3
 go_wp2_with fail
 refine DEC.out.mono ?_;rintro e w1 ⟨lv,rfl,⟨A,c,rfl,hc1,hc2,hl⟩,hbw⟩;have HL:=Qd hl;have HBW:=Qd hbw;clear hl hbw;by_cases hbig:2000<l.length
 ·have HRE:Hid (Tk.cutL l ob=([],0,7)):=Qd (by unfold Tk.cutL;rw[if_pos hbig])
  have hbig':(2000:Int)<(l.length:Int):=by omega
  go_wp2_with fail
  rw[Exit.noGoto_ret];refine bodyPost_ret (Mf (by rfl) _ _ _ _ _ (by rfl) (by rfl) (by rfl)) rfl (HR.out _ _ ?_);rw[HRE.out];exact⟨_,rfl,IsToks.nil _ _,HBW.out⟩
 have hbig':¬(2000:Int)<(l.length:Int):=by omega
 have H0:Hid (Hq l w1 w1 0 [] (.slice none 0 0)):=Qd ⟨Nat.zero_le _,Nat.le_refl _,IsToks.nil _ _,Below.refl _ _,l.length+1,by omega,rfl⟩;go_wp2_with fail
 go_step3
 go_upto_block 0 with fail
 go_cut [7,8] from 9 (λx7 x8 wx=>∃out,Hid (Ms l w1 wx out x7))
 case first=>
  go_wp2_with fail
  go_loopw [7,8] (λv iv wr=>∃(i:Nat) (out:List Tk.Tok),iv= .int .i64 (i:Int)∧Hid (Hq l w1 wr i out v)) (λ_ iv _=>l.length-(intOf iv).toNat)
  case atStart=>exact⟨0,[],by go_num,H0⟩
  case round=>
   clear H0;obtain⟨i,out,rfl,HT⟩:=hrel;have hil:=HT.out.hi;by_cases hlt:i<l.length
   ·have hbl:=HT.out.below
    obtain⟨b,off,rfl,hb,g1⟩:=Lb (HL.out.below hbl) hlt;obtain⟨x,hx⟩:∃x,x=l.getD i (-1):=⟨_,rfl⟩;rw[←Tk.getD_in hlt,←hx] at g1;have HX:=Qd hx;obtain⟨k,hk⟩:∃k,k=Tk.cls x:=⟨_,rfl⟩;have C1:=Qd (CA.out x wr);rw[←hk] at C1;have HK:=Qd hk;clear hx hk hb;by_cases k1:k=1
    ·have q1:(k==1)=true:=by rw[k1];rfl
     have HN:Hid (Hq l w1 wr (i+1) out u7):=Qd ⟨hlt,by have:=HT.out.len;omega,HT.out.toks,hbl,by
      obtain⟨f,hf,ht⟩:=HT.out.told;obtain⟨f,rfl⟩:∃g,f=g+1:=⟨f-1,by omega⟩;have hcl:Tk.cls (l.getD i (-1))=1:=by rw[←HX.out,←HK.out];exact k1
      exact⟨f,by omega,by rw[ht,Fz hlt (by intro h;rw[h] at hcl;exact absurd hcl (by decide)) hcl]⟩⟩
     clear k1 hbl;go_wp2_with fail
     refine C1.out.mono ?_;rintro e w' ⟨rfl,rfl⟩;go_wp2_with fail
     go_round
     case rel=>exact⟨i+1,out,by go_num,HN⟩
     case measure=>simp[intOf];omega
    have q1:(k==1)=false:=beq_eq_false_iff_ne.2 k1;by_cases x9:x=9053
    ·have q2:(x==9053)=true:=by rw[x9];rfl
     have HE:Hid (Ms l w1 wr out u7):=Qd ⟨HT.out.toks,hbl,by
      obtain⟨f,hf,ht⟩:=HT.out.told;rw[ht,Fv (.inr (by rw[←HX.out];exact x9)) (by omega)]⟩
     clear k1 hbl x9;go_wp2_with fail
     refine C1.out.mono ?_;rintro e w' ⟨rfl,rfl⟩;go_wp2_with fail
     go_meet
     exact⟨out,HE⟩
    have q2:(x==9053)=false:=beq_eq_false_iff_ne.2 x9;have hcl:Tk.cls (l.getD i (-1))≠1:=by rw[←HX.out,←HK.out];exact k1
    have hx9:l.getD i (-1)≠9053:=by rw[←HX.out];exact x9
    have NX:=Qd (N4 (some ⟨b,off,none⟩) c l i wr ((HL.out.below hbl).more hbl.size) (by omega) hc1 HM.out hlt hcl);have HBL:=Qd hbl;have HCL:=Qd hcl;have HX9:=Qd hx9;clear k1 x9 hbl hcl hx9;go_wp2_with fail
    refine C1.out.mono ?_;rintro e w' ⟨rfl,rfl⟩;go_wp2_with fail
    refine NX.out.mono ?_;intro e w5 h;obtain⟨r,hr⟩:∃r,r=Tk.read l i:=⟨_,rfl⟩;unfold Oc at h;rw[←hr] at h;obtain⟨t,n,er⟩:=r;dsimp only at h;obtain⟨en,hen⟩:∃en,en=(if er=0 then i+n else 0):=⟨_,rfl⟩;rw[←hen] at h;obtain⟨n1,n2,lv,he,h1,h2,h3,h4⟩:=h;have he:e= .returned (.tuple #[.agg #[.int .i64 t.kind,.bool t.n.neg,n1,n2,lv,.string ⟨t.s.toArray⟩,.int .i64 t.c,.int .i64 0],.int .i64 (en:Int),.int .i64 er]):=he;subst he;have h1':=h1;have h2':=h2;obtain⟨A1,c1,rfl,_⟩:=h1';obtain⟨A2,c2,rfl,_⟩:=h2';obtain⟨A3,c3,rfl,_,_⟩:=Wb h3;have HG6:Hid ((w5.alloc (.cells #[.int .i64 0,.bool false,.slice none 0 0,.slice none 0 0,.slice none 0 0,.string ⟨#[]⟩,.int .i64 0,.int .i64 0] 54)).heap[w5.heap.size]? =some (.cells #[.int .i64 0,.bool false,.slice none 0 0,.slice none 0 0,.slice none 0 0,.string ⟨#[]⟩,.int .i64 0,.int .i64 0] 54 (0,0))):=Qd (heap_alloc_new w5 _);obtain⟨W7,hW7⟩:∃W7,W7=(w5.alloc (.cells #[.int .i64 0,.bool false,.slice none 0 0,.slice none 0 0,.slice none 0 0,.string ⟨#[]⟩,.int .i64 0,.int .i64 0] 54)).setRow w5.heap.size #[.int .i64 t.kind,.bool t.n.neg,.slice A1 t.n.top.length c1,.slice A2 t.n.bot.length c2,.slice A3 t.l.length c3,.string ⟨t.s.toArray⟩,.int .i64 t.c,.int .i64 0]:=⟨_,rfl⟩;have hb7:Below w5.heap.size w5 W7:=by rw[hW7];exact rBelow.setRow ((Below.refl _ _).alloc (Nat.le_refl _) _) (Nat.le_refl _) _
    have hG7:W7.heap[w5.heap.size]? =some (.cells #[.int .i64 t.kind,.bool t.n.neg,.slice A1 t.n.top.length c1,.slice A2 t.n.bot.length c2,.slice A3 t.l.length c3,.string ⟨t.s.toArray⟩,.int .i64 t.c,.int .i64 0] 54 (0,0)):=by rw[hW7];exact Ha HG6.out
    have hS7:w5.heap.size+1≤W7.heap.size:=by rw[hW7,size_setRow];simp
    have HB7:=Qd hb7;have HG7:=Qd hG7;have HS7:=Qd hS7;have HW7:=Qd hW7;clear hb7 hG7 hS7 hW7;have HRD:=Qd hr;have HEN:=Qd hen;have H1:=Qd h1;have H2:=Qd h2;have H3:=Qd h3;have H4:=Qd h4;clear hr hen h1 h2 h3 h4;go_upto_region 11 with(with_reducible refine wpList_store_row rfl 54 (.tmp 9) (.tmp 43) rfl w5.heap.size #[.int .i64 t.kind,.bool t.n.neg,.slice A1 t.n.top.length c1,.slice A2 t.n.bot.length c2,.slice A3 t.l.length c3,.string ⟨t.s.toArray⟩,.int .i64 t.c,.int .i64 0] rfl rfl 54 #[.int .i64 0,.bool false,.slice none 0 0,.slice none 0 0,.slice none 0 0,.string ⟨#[]⟩,.int .i64 0,.int .i64 0] HG6.out (Pa _ _ _ _ _ _ _ _) rfl (Nb _ _ _ _ _ _ _ _ _ _ _ _ _ _) ?_)
    rw[←HW7.out];by_cases e0:er=0
    ·subst e0
     have hc7:W7.cell? ⟨w5.heap.size,7,none⟩=some (.int .i64 0):=(cell_of_row W7 w5.heap.size 7 _ _ _ HG7.out).trans rfl;have hf7:W7.frozen? ⟨w5.heap.size,7,none⟩=false:=by simp[World.frozen?,HG7.out]
     obtain⟨W8,hW8⟩:∃W8,W8=W7.setCell ⟨w5.heap.size,7,none⟩ (.int .i64 (i:Int)):=⟨_,rfl⟩;have HG8:Hid (W8.heap[w5.heap.size]? =some (.cells #[.int .i64 t.kind,.bool t.n.neg,.slice A1 t.n.top.length c1,.slice A2 t.n.bot.length c2,.slice A3 t.l.length c3,.string ⟨t.s.toArray⟩,.int .i64 t.c,.int .i64 (i:Int)] 54 (0,0))):=Qd (by rw[hW8];exact Blk.set_ (w:=W7) (g:=w5.heap.size) (vs:=[.int .i64 t.kind,.bool t.n.neg,.slice A1 t.n.top.length c1,.slice A2 t.n.bot.length c2,.slice A3 t.l.length c3,.string ⟨t.s.toArray⟩,.int .i64 t.c,.int .i64 0]) HG7.out 7 _);have HB8:Hid (Below w5.heap.size w5 W8):=Qd (by rw[hW8];exact HB7.out.setCell (Nat.le_refl _) _);have HW8:=Qd hW8;clear hW8;go_upto_region 14 with fail
     rw[←HW8.out];have HAT:Hid (t.at_=i):=Qd (by
      have h:=(Tk.read_ok (l:=l) (i:=i) (by rw[←HRD.out])).2;rw[←HRD.out] at h;exact h)
     have HEN2:Hid (en=i+n∧1≤n∧i+n≤l.length):=Qd (by
      have h:=Tk.read_len (l:=l) (i:=i) hlt (by rw[←HRD.out]);rw[←HRD.out] at h;exact⟨by rw[HEN.out,if_pos rfl],h⟩)
     obtain⟨xs,t1,t2⟩:=HT.out.toks;have hown9:(W8.alloc (.cells #[.int .i64 t.kind,.bool t.n.neg,.slice A1 t.n.top.length c1,.slice A2 t.n.bot.length c2,.slice A3 t.l.length c3,.string ⟨t.s.toArray⟩,.int .i64 t.c,.int .i64 (i:Int)] 54)).ownsQ Qj w1.heap.size 54 8 u7 out.length xs:=Zf (Zf (Zf t1 H4.out) HB8.out) ((Below.refl _ _).alloc (Nat.le_refl _) _);have r9:TokRows (W8.alloc (.cells #[.int .i64 t.kind,.bool t.n.neg,.slice A1 t.n.top.length c1,.slice A2 t.n.bot.length c2,.slice A3 t.l.length c3,.string ⟨t.s.toArray⟩,.int .i64 t.c,.int .i64 (i:Int)] 54)) out xs:=((t2.below H4.out).below HB8.out).below ((Below.refl _ _).alloc (Nat.le_refl _) _);have b9:Below w1.heap.size w1 (W8.alloc (.cells #[.int .i64 t.kind,.bool t.n.neg,.slice A1 t.n.top.length c1,.slice A2 t.n.bot.length c2,.slice A3 t.l.length c3,.string ⟨t.s.toArray⟩,.int .i64 t.c,.int .i64 (i:Int)] 54)):=((HBL.out.trans (H4.out.mono HBL.out.size)).trans (HB8.out.mono (Nat.le_trans HBL.out.size H4.out.size))).alloc (Nat.le_trans HBL.out.size (Nat.le_trans H4.out.size HB8.out.size)) _;have k1:=(H1.out.below_ HB8.out).below_ (w':=W8.alloc (.cells #[.int .i64 t.kind,.bool t.n.neg,.slice A1 t.n.top.length c1,.slice A2 t.n.bot.length c2,.slice A3 t.l.length c3,.string ⟨t.s.toArray⟩,.int .i64 t.c,.int .i64 (i:Int)] 54)) ((Below.refl _ _).alloc (Nat.le_refl _) _);have k2:=(H2.out.below_ HB8.out).below_ (w':=W8.alloc (.cells #[.int .i64 t.kind,.bool t.n.neg,.slice A1 t.n.top.length c1,.slice A2 t.n.bot.length c2,.slice A3 t.l.length c3,.string ⟨t.s.toArray⟩,.int .i64 t.c,.int .i64 (i:Int)] 54)) ((Below.refl _ _).alloc (Nat.le_refl _) _);have k3:=Qg (Qg H3.out HB8.out) (w':=W8.alloc (.cells #[.int .i64 t.kind,.bool t.n.neg,.slice A1 t.n.top.length c1,.slice A2 t.n.bot.length c2,.slice A3 t.l.length c3,.string ⟨t.s.toArray⟩,.int .i64 t.c,.int .i64 (i:Int)] 54)) ((Below.refl _ _).alloc (Nat.le_refl _) _);have OWN9:=Qd hown9;have R9:=Qd r9;have B9:=Qd b9;have K1:=Qd k1;have K2:=Qd k2;have K3:=Qd k3;have hol:=HT.out.len;clear t1 t2 hown9 r9 b9 k1 k2 k3;go_wp2_with (first|(with_reducible refine wpList_load_row rfl 54 (.tmp 9) rfl w5.heap.size rfl 54 #[.int .i64 t.kind,.bool t.n.neg,.slice A1 t.n.top.length c1,.slice A2 t.n.bot.length c2,.slice A3 t.l.length c3,.string ⟨t.s.toArray⟩,.int .i64 t.c,.int .i64 (i:Int)] (0,0) _ HG8.out Tryz.underlying54 rfl (Pa _ _ _ _ _ _ _ _) ?_) |(at_builtin;refine Gk _ rfl _ _ 45 rfl Qj w1.heap.size 54 i0 _ 8 120 Tryz.underlying45 hi0 hz0 hz1 hz2 rfl (by decide) Q4 _ _ xs rfl OWN9.out ⟨_,0,none⟩ 1 1 (Fd t.kind t.n.neg (.slice A1 t.n.top.length c1) (.slice A2 t.n.bot.length c2) (.slice A3 t.l.length c3) t.s t.c (i:Int)) rfl rfl (Ff _ _ _) (by intro u hu;unfold Fd at hu;simp only[List.mem_cons,List.not_mem_nil,or_false] at hu;rcases hu with rfl |rfl |rfl |rfl |rfl |rfl |rfl |rfl<;>rfl) (Sk _ _ K1.out.noU K2.out.noU (K7 K3.out) _ _ _) (by unfold maxLen;omega) (by omega) B9.out.size ?_;intro v' w10 hown' hgr hnil hat))
     have hk1:=K1.out.grownQ OWN9.out hgr;have hk2:=K2.out.grownQ OWN9.out hgr;have hk3:=Jl K3.out OWN9.out (by decide) hgr;have hr1:=R9.out.grown OWN9.out (by decide) hgr;have hb1:=B9.out.grown hgr B9.out.size (λk hk=>(OWN9.out.own.lt k hk).1);have hsn:=TokRows.snoc hk1 hk2 hk3 hr1;have HN:Hid (Hq l w1 w10 en (out++[t]) v'):=Qd
      { hi:=by rw[HEN2.out.1];exact HEN2.out.2.2
        len:=by rw[List.length_append,HEN2.out.1];have:=HEN2.out.2.1;simp only[List.length_cons,List.length_nil];omega
        toks:=⟨_,by
         have h:=hown';rw[List.length_append];exact h,by
         have h:=hsn;rw[HAT.out] at h;exact h⟩
        below:=hb1
        told:=by
         obtain⟨f,hf,ht⟩:=HT.out.told;obtain⟨f,rfl⟩:∃g,f=g+1:=⟨f-1,by omega⟩;refine⟨f,by rw[HEN2.out.1];have:=HEN2.out.2.1;omega,?_⟩;rw[ht,O4 hlt HX9.out HCL.out (by rw[←HRD.out]),←HRD.out,HEN2.out.1]}
     have hme:i<en∧en≤l.length:=by rw[HEN2.out.1];have:=HEN2.out.2;omega
     clear hk1 hk2 hk3 hr1 hb1 hsn hown' hgr hnil hat;go_wp2_with fail
     go_round
     case rel=>exact⟨en,out++[t],rfl,HN⟩
     case measure=>simp[intOf];omega
    have q3:(er !=0)=true:=by rw[bne_iff_ne];exact e0
    have HRE:Hid (Tk.cutL l ob=([],i,er)):=Qd (by
     obtain⟨f,hf,ht⟩:=HT.out.told;rw[M7 hlt HX9.out HCL.out (by rw[←HRD.out];exact e0) (by omega),←HRD.out] at ht;unfold Tk.cutL;rw[if_neg hbig,ht,if_pos e0])
    clear e0;go_wp2_with fail
    rw[Exit.noGoto_ret];refine bodyPost_ret (Mf (by rfl) _ _ _ _ _ (by rfl) (by rfl) (by rfl)) rfl (HR.out _ _ ?_);rw[HRE.out];exact⟨_,rfl,IsToks.nil _ _,((HBW.out.trans (HBL.out.mono HBW.out.size)).trans (H4.out.mono (Nat.le_trans HBW.out.size HBL.out.size))).trans (HB7.out.mono (Nat.le_trans HBW.out.size (Nat.le_trans HBL.out.size H4.out.size)))⟩
   have HE:Hid (Ms l w1 wr out u7):=Qd ⟨HT.out.toks,HT.out.below,by
    obtain⟨f,hf,ht⟩:=HT.out.told;rw[ht,Fv (.inl (by omega)) (by omega)]⟩
   have hme:¬((i:Int)<(l.length:Int)):=by omega
   go_wp2_with fail
   go_meet
   exact⟨out,HE⟩
 case rest=>
  obtain⟨out,HE⟩:=hcut;cases ob with
  |none=>
   have hbad':bad= -1:=hbad.out;subst hbad';have HRE:Hid (Tk.cutL l none=(out,0,0)):=Qd (by
    unfold Tk.cutL;rw[if_neg hbig,HE.out.told];rfl)
   go_wp2_with fail
   refine bodyPost_ret (Mf (by rfl) _ _ _ _ _ (by rfl) (by rfl) (by rfl)) rfl (HR.out _ _ ?_);rw[HRE.out];obtain⟨xs,t1,t2⟩:=HE.out.toks;exact⟨_,rfl,⟨xs,t1.mono HBW.out.size,t2⟩,HBW.out.trans (HE.out.below.mono HBW.out.size)⟩
  |some p=>
   have hbad':bad=(p:Int):=hbad.out;subst hbad';have HRE:Hid (Tk.cutL l (some p)=([],l.length,1)):=Qd (by
    unfold Tk.cutL;rw[if_neg hbig,HE.out.told];rfl)
   have hp:(0:Int)≤(p:Int):=by omega
   go_wp2_with fail
   refine bodyPost_ret (Mf (by rfl) _ _ _ _ _ (by rfl) (by rfl) (by rfl)) rfl (HR.out _ _ ?_);rw[HRE.out];exact⟨_,rfl,IsToks.nil _ _,HBW.out.trans (HE.out.below.mono HBW.out.size)⟩
end
section
open Go.RowKit
theorem TokRows.get {w:World}:∀{ts:List Tk.Tok} {xs:List Value},TokRows w ts xs→∀(j:Nat) (hj:j<ts.length),∃n1 n2 lv pre post,xs=pre++(Fd ts[j].kind ts[j].n.neg n1 n2 lv ts[j].s ts[j].c ts[j].at_++post)∧pre.length=j*8∧IsRes w n1 ts[j].n.top∧IsRes w n2 ts[j].n.bot∧w.ownsRow 0 3 1 lv ts[j].l.length (Xa ts[j].l)
 | [],xs,h,j,hj=>absurd hj (Nat.not_lt_zero _)
 |t::ts,xs,h,0,hj=>by
  obtain⟨n1,n2,lv,r,rfl,h1,h2,h3,hr⟩:=h;exact⟨n1,n2,lv,[],r,rfl,rfl,h1,h2,h3⟩
 |t::ts,xs,h,j+1,hj=>by
  obtain⟨n1,n2,lv,r,rfl,h1,h2,h3,hr⟩:=h;obtain⟨m1,m2,mv,pre,post,rfl,hp,k1,k2,k3⟩:=hr.get j (by simpa using hj);refine⟨m1,m2,mv,Fd t.kind t.n.neg n1 n2 lv t.s t.c t.at_++pre,post,by simp only[List.append_assoc,List.getElem_cons_succ],?_,k1,k2,k3⟩;rw[List.length_append,hp];show 8+_=_;omega
theorem IsToks.open_ {w:World}{base:Nat}{v:Value}{ts:List Tk.Tok}(h:IsToks w base v ts):∃A c,v= .slice A ts.length c∧ts.length≤c∧c≤maxLen∧
 ∀(j:Nat) (hj:j<ts.length),∃g n1 n2 lv,A=some ⟨g,0,none⟩∧g<w.heap.size∧base≤g∧w.rangeAt g (j*8) (Fd ts[j].kind ts[j].n.neg n1 n2 lv ts[j].s ts[j].c ts[j].at_)∧IsRes w n1 ts[j].n.top∧IsRes w n2 ts[j].n.bot∧w.ownsRow 0 3 1 lv ts[j].l.length (Xa ts[j].l):=by
 obtain⟨xs,ho,hr⟩:=h;obtain⟨A,c,hv,hc1,hc2⟩:=Wb ho.own;refine⟨A,c,hv,hc1,hc2,λj hj=>?_⟩;obtain⟨n1,n2,lv,pre,post,hx,hp,k1,k2,k3⟩:=hr.get j hj;rcases ho.own.2 with⟨hv',h0⟩ |⟨g,cap,cur,hv',hb,hg,_⟩
 ·omega
 rw[hv] at hv';injection hv' with e1 _ _
 refine⟨g,n1,n2,lv,e1,(Array.getElem?_eq_some_iff.1 hg).1,hb,λk u hu=>?_,k1,k2,k3⟩;have hc:=ho.own.cells (g:=g) (by rw[hv,e1];rfl) (j*8+k) u (by
  rw[hx,List.getElem?_append_right (by omega),hp,show j*8+k-j*8=k by omega];rw[List.getElem?_append_left (List.getElem?_eq_some_iff.1 hu).1];exact hu)
 rw[Addr.add_mid] at hc;rw[Nat.zero_add] at hc;exact hc
end
section
open Go.RowKit Tr
def Gh (w:World)(r:Int)(e:Ending)(w':World):Prop:=e= .returned (.int .i64 r)∧Below w.heap.size w w'
def Oa (w:World)(r:Bool)(e:Ending)(w':World):Prop:=e= .returned (.bool r)∧Below w.heap.size w w'
end
section
open Go.RowKit Tr
mutual
theorem Yh:∀t:Da,Gd t≤count t
 | .mk k o m n t l=>by unfold Gd count;have:=Rj l;omega
theorem Rj:∀l:List Da,Ub l≤Kb l
 | []=>by unfold Ub Kb;omega
 |t::r=>by unfold Ub Kb;have:=Yh t;have:=Rj r;omega
end
theorem Kl:∀(l:List Da) (k:Nat),Kb (l.take k)≤Kb l
 | [],k=>by simp[Kb]
 |t::r,0=>by simp[Kb]
 |t::r,k+1=>by rw[List.take_succ_cons,Kb,Kb];have:=Kl r k;omega
theorem Ll:∀(l:List Da) (k:Nat),Ub (l.take k)≤Ub l
 | [],k=>by simp[Ub]
 |t::r,0=>by simp[Ub]
 |t::r,k+1=>by rw[List.take_succ_cons,Ub,Ub];have:=Ll r k;omega
theorem Ml:∀(l:List Da) (t:Da),Ub (l++[t])=max (Ub l) (Gd t)
 | [],t=>by simp[Ub]
 |a::r,t=>by rw[List.cons_append,Ub,Ub,Ml r t];omega
theorem Nl:∀(l:List Da) (t:Da),Kb (l++[t])=Kb l+count t
 | [],t=>by simp[Kb]
 |a::r,t=>by rw[List.cons_append,Kb,Kb,Nl r t];omega
theorem Ut {l:List Da}{k:Nat}(h:k<l.length):Ub (l.take (k+1))=max (Ub (l.take k)) (Gd l[k]):=by rw[List.take_succ_eq_append_getElem h,Ml]
theorem Vt {l:List Da}{k:Nat}(h:k<l.length):Kb (l.take (k+1))=Kb (l.take k)+count l[k]:=by rw[List.take_succ_eq_append_getElem h,Nl]
theorem Wt (n:Nat):∀(a:Da) (vs:List Value) (w:World) (B:Nat),SizeOf.sizeOf a<n→IsTree w B a vs→B≤w.heap.size→count a≤1000000→
 Calls Tryz.prog 27 #[.agg vs.toArray] w (Gh w (Gd a:Int)):=by
 induction n with
 |zero=>intro a vs w B h;omega
 |succ n ih=>
  intro a vs w B hn h hB hct;obtain⟨k,o,m,nm,t,l⟩:=a;obtain⟨W,hW⟩:∃W,W=w.alloc (.cells vs.toArray 28):=⟨_,rfl⟩;obtain⟨A1,A2,A3,A4,c1,c2,c3,c4,us,HO,HL,HC,hW8,HG,hWl,hWb⟩:=Tb h hW;have hf4:=HO.out.f4.le (by omega);have HSZ:∀(i:Nat) (hi:i<l.length),SizeOf.sizeOf l[i]<n∧count l[i]≤1000000:=λi hi=>⟨by have:=Ch (k:=k) (o:=o) (m:=m) (n:=nm) (t:=t) hi;omega,by have:=Ap (k:=k) (o:=o) (m:=m) (n:=nm) (t:=t) hi;omega⟩;replace HSZ:=Qd HSZ;have HR:Hid (Gd (.mk k o m nm t l)=Ub l+1):=Qd (by rw[Gd]);have HDB:∀j,Ub (l.take j)≤1000000:=λj=>by have h1:=Ll l j;have h2:=Yh (.mk k o m nm t l);rw[Gd] at h2;omega
  replace HDB:=Qd HDB;generalize Gd (.mk k o m nm t l)=R at*;have q7:W.cell? ⟨w.heap.size,7,none⟩=some (.slice A4 l.length c4):=hW8.p7;have HQ:=Qd q7;have HKB:Hid (∀wx,Below W.heap.size W wx→∀p:Addr,p.block<B→wx.cell? p=w.cell? p):=Qd (λwx hx p hp=>by rw[hx.cell (by omega),hWb.cell (by omega)]);have HWB:=Qd hWb;have HWS:Hid (w.heap.size≤W.heap.size):=Qd (by omega);have HW:=Qd hW;clear hW8 HO hWb hW h hn q7 hct;go_enter Tryz.func27,Tryz.ntmps27
  go_upto_region 1 with fail
  rw[←HW.out];go_wp2_with fail
  go_loopw [4,3] (λi m wr=>∃(j d:Nat),j≤l.length∧i= .int .i64 j∧m= .int .i64 d∧Hid (d=Ub (l.take j))∧Below W.heap.size W wr) (λi _ _=>l.length-(intOf i).toNat)
  case atStart=>exact⟨0,0,Nat.zero_le _,rfl,rfl,Qd (by simp[Ub]),Below.refl _ _⟩
  case round=>
   obtain⟨j,d,hj,rfl,rfl,HD,hbel⟩:=hrel;have hbox:wr.cell? ⟨w.heap.size,7,none⟩=some (.slice A4 l.length c4):=(hbel.cell (p:=⟨w.heap.size,7,none⟩) hWl).trans HQ.out;have hd1:d≤1000000:=by rw[HD.out];exact HDB.out j
   by_cases hlt:j<l.length
   ·obtain⟨b,off,tv,rfl,hb,HT,HR2⟩:=Nd HC.out HL.out (HKB.out wr hbel) hlt
    have HN:Hid (Ub (l.take (j+1))=max d (Gd l[j])):=Qd (by rw[HD.out];exact Ut hlt);have IH:=Qd (ih l[j] _ wr B (HSZ.out j hlt).1 (HT.out.keep (HKB.out wr hbel) (Nat.le_refl _)) (by have:=hbel.size;omega) (HSZ.out j hlt).2);have HI:=Qd (Ld HT.out);generalize Gd l[j]=z at*;clear HT HD;go_wp2_with (with_reducible refine wpList_load_mid rfl 28 (.tmp 16) rfl b (off+j*8) rfl tv _ HR2.out Tryz.underlying28 rfl HI.out ?_)
    refine IH.out.mono ?_;rintro e w2 ⟨rfl,hb2⟩;have hb3:=hbel.trans (hb2.mono hbel.size);by_cases hgt:d<z
    ·go_wp2_with fail
     go_roundw
     case rel=>exact⟨j+1,z,by omega,by go_num,rfl,Qd (by rw[HN.out];omega),hb3⟩
     case measure=>simp[intOf];omega
    go_wp2_with fail
    go_roundw
    case rel=>exact⟨j+1,d,by omega,by go_num,rfl,Qd (by rw[HN.out];omega),hb3⟩
    case measure=>simp[intOf];omega
   have HE:Hid (R=d+1):=Qd (by rw[HR.out,HD.out,List.take_of_length_le (by omega)]);go_wp2_with fail
   go_ret;exact⟨Wa (by rw[HE.out];omega),HWB.out.trans (hbel.mono HWS.out)⟩
theorem Yt (n:Nat):∀(a:Da) (vs:List Value) (w:World) (B:Nat),SizeOf.sizeOf a<n→IsTree w B a vs→B≤w.heap.size→count a≤1000000→
 Calls Tryz.prog 28 #[.agg vs.toArray] w (Gh w (count a:Int)):=by
 induction n with
 |zero=>intro a vs w B h;omega
 |succ n ih=>
  intro a vs w B hn h hB hct;obtain⟨k,o,m,nm,t,l⟩:=a;obtain⟨W,hW⟩:∃W,W=w.alloc (.cells vs.toArray 28):=⟨_,rfl⟩;obtain⟨A1,A2,A3,A4,c1,c2,c3,c4,us,HO,HL,HC,hW8,HG,hWl,hWb⟩:=Tb h hW;have hf4:=HO.out.f4.le (by omega);have HSZ:∀(i:Nat) (hi:i<l.length),SizeOf.sizeOf l[i]<n∧count l[i]≤1000000:=λi hi=>⟨by have:=Ch (k:=k) (o:=o) (m:=m) (n:=nm) (t:=t) hi;omega,by have:=Ap (k:=k) (o:=o) (m:=m) (n:=nm) (t:=t) hi;omega⟩;replace HSZ:=Qd HSZ;have HR:Hid (count (.mk k o m nm t l)=Kb l+1):=Qd (by rw[count]);have hcl:count (.mk k o m nm t l)=Kb l+1:=by rw[count]
  have HDB:∀j,Kb (l.take j)≤1000000:=λj=>by have h1:=Kl l j;omega
  replace HDB:=Qd HDB;clear hcl;generalize count (.mk k o m nm t l)=R at*;have q7:W.cell? ⟨w.heap.size,7,none⟩=some (.slice A4 l.length c4):=hW8.p7;have HQ:=Qd q7;have HKB:Hid (∀wx,Below W.heap.size W wx→∀p:Addr,p.block<B→wx.cell? p=w.cell? p):=Qd (λwx hx p hp=>by rw[hx.cell (by omega),hWb.cell (by omega)]);have HWB:=Qd hWb;have HWS:Hid (w.heap.size≤W.heap.size):=Qd (by omega);have HW:=Qd hW;clear hW8 HO hWb hW h hn q7 hct;go_enter Tryz.func28,Tryz.ntmps28
  go_upto_region 1 with fail
  rw[←HW.out];go_wp2_with fail
  go_loopw [4,3] (λi m wr=>∃(j d:Nat),j≤l.length∧i= .int .i64 j∧m= .int .i64 ((d:Int)+1)∧Hid (d=Kb (l.take j))∧Below W.heap.size W wr) (λi _ _=>l.length-(intOf i).toNat)
  case atStart=>exact⟨0,0,Nat.zero_le _,rfl,rfl,Qd (by simp[Kb]),Below.refl _ _⟩
  case round=>
   obtain⟨j,d,hj,rfl,rfl,HD,hbel⟩:=hrel;have hbox:wr.cell? ⟨w.heap.size,7,none⟩=some (.slice A4 l.length c4):=(hbel.cell (p:=⟨w.heap.size,7,none⟩) hWl).trans HQ.out;have hd1:d≤1000000:=by rw[HD.out];exact HDB.out j
   by_cases hlt:j<l.length
   ·obtain⟨b,off,tv,rfl,hb,HT,HR2⟩:=Nd HC.out HL.out (HKB.out wr hbel) hlt
    have HN:Hid (Kb (l.take (j+1))=d+count l[j]):=Qd (by rw[HD.out];exact Vt hlt);have IH:=Qd (ih l[j] _ wr B (HSZ.out j hlt).1 (HT.out.keep (HKB.out wr hbel) (Nat.le_refl _)) (by have:=hbel.size;omega) (HSZ.out j hlt).2);have hz1:=(HSZ.out j hlt).2;have HI:=Qd (Ld HT.out);generalize count l[j]=z at*;clear HT HD;go_wp2_with (with_reducible refine wpList_load_mid rfl 28 (.tmp 16) rfl b (off+j*8) rfl tv _ HR2.out Tryz.underlying28 rfl HI.out ?_)
    refine IH.out.mono ?_;rintro e w2 ⟨rfl,hb2⟩;have hb3:=hbel.trans (hb2.mono hbel.size);go_wp2_with fail
    go_roundw
    case rel=>exact⟨j+1,d+z,by omega,by go_num,by congr 1;omega,Qd (by rw[HN.out]),hb3⟩
    case measure=>simp[intOf];omega
   have HE:Hid (R=d+1):=Qd (by rw[HR.out,HD.out,List.take_of_length_le (by omega)]);go_wp2_with fail
   go_ret;exact⟨Wa (by rw[HE.out];omega),HWB.out.trans (hbel.mono HWS.out)⟩
end
section
open Go.RowKit Tr
def Bf (w:World)(r:Bool)(e:Ending)(w':World):Prop:=e= .returned (.bool r)∧w=w'
theorem Dp (k:Int):array k=decide (1≤k∧k≤16∧k≠10):=by unfold array;rw[Bool.eq_iff_iff];simp;omega
theorem Ns (k:Int):func k=decide (17≤k∧k≤24):=by unfold func;rw[Bool.eq_iff_iff];simp
theorem Ep (k:Int):plain k=decide (17≤k∧k≤21):=by unfold plain;rw[Bool.eq_iff_iff];simp
theorem Ps (k:Int):Bh k=decide (0≤k∧k<8):=by unfold Bh;rw[Bool.eq_iff_iff];simp
theorem Zh (k:Int)(w:World):Calls Tryz.prog 49 #[.int .i64 k] w (Bf w (array k)):=by
 have HE:=Qd (Dp k);generalize array k=R at*;by_cases h0:1≤k
 ·by_cases h1:k≤16
  ·by_cases h2:k=10
   ·have HF:Hid (R=false):=Qd (by rw[HE.out];exact decide_eq_false (by omega))
    subst h2;go_enter Tryz.func49,Tryz.ntmps49
    go_wp2_with fail
    go_ret;exact⟨Aa (by rw[HF.out]),rfl⟩
   have q2:(k !=10)=true:=bne_iff_ne.2 h2;have HF:Hid (R=true):=Qd (by rw[HE.out];exact decide_eq_true (by omega));go_enter Tryz.func49,Tryz.ntmps49
   go_wp2_with fail
   go_ret;exact⟨Aa (by rw[HF.out]),rfl⟩
  have HF:Hid (R=false):=Qd (by rw[HE.out];exact decide_eq_false (by omega));go_enter Tryz.func49,Tryz.ntmps49
  go_wp2_with fail
  go_ret;exact⟨Aa (by rw[HF.out]),rfl⟩
 have HF:Hid (R=false):=Qd (by rw[HE.out];exact decide_eq_false (by omega));go_enter Tryz.func49,Tryz.ntmps49
 go_wp2_with fail
 go_ret;exact⟨Aa (by rw[HF.out]),rfl⟩
theorem Oh (k:Int)(w:World):Calls Tryz.prog 74 #[.int .i64 k] w (Bf w (array k)):=by
 have HE:=Qd (Dp k);generalize array k=R at*;by_cases h0:1≤k
 ·by_cases h1:k≤16
  ·by_cases h2:k=10
   ·have HF:Hid (R=false):=Qd (by rw[HE.out];exact decide_eq_false (by omega))
    subst h2;go_enter Tryz.func74,Tryz.ntmps74
    go_wp2_with fail
    go_ret;exact⟨Aa (by rw[HF.out]),rfl⟩
   have q2:(k !=10)=true:=bne_iff_ne.2 h2;have HF:Hid (R=true):=Qd (by rw[HE.out];exact decide_eq_true (by omega));go_enter Tryz.func74,Tryz.ntmps74
   go_wp2_with fail
   go_ret;exact⟨Aa (by rw[HF.out]),rfl⟩
  have HF:Hid (R=false):=Qd (by rw[HE.out];exact decide_eq_false (by omega));go_enter Tryz.func74,Tryz.ntmps74
  go_wp2_with fail
  go_ret;exact⟨Aa (by rw[HF.out]),rfl⟩
 have HF:Hid (R=false):=Qd (by rw[HE.out];exact decide_eq_false (by omega));go_enter Tryz.func74,Tryz.ntmps74
 go_wp2_with fail
 go_ret;exact⟨Aa (by rw[HF.out]),rfl⟩
theorem Jn (k:Int)(w:World):Calls Tryz.prog 146 #[.int .i64 k] w (Bf w (func k)):=by
 have HE:=Qd (Ns k);generalize func k=R at*;by_cases h0:17≤k
 ·by_cases h1:k≤24
  ·have HF:Hid (R=true):=Qd (by rw[HE.out];exact decide_eq_true (by omega))
   go_enter Tryz.func146,Tryz.ntmps146
   go_wp2_with fail
   go_ret;exact⟨Aa (by rw[HF.out]),rfl⟩
  have HF:Hid (R=false):=Qd (by rw[HE.out];exact decide_eq_false (by omega));go_enter Tryz.func146,Tryz.ntmps146
  go_wp2_with fail
  go_ret;exact⟨Aa (by rw[HF.out]),rfl⟩
 have HF:Hid (R=false):=Qd (by rw[HE.out];exact decide_eq_false (by omega));go_enter Tryz.func146,Tryz.ntmps146
 go_wp2_with fail
 go_ret;exact⟨Aa (by rw[HF.out]),rfl⟩
theorem R4 (k:Int)(w:World):Calls Tryz.prog 158 #[.int .i64 k] w (Bf w (func k)):=by
 have HE:=Qd (Ns k);generalize func k=R at*;by_cases h0:17≤k
 ·by_cases h1:k≤24
  ·have HF:Hid (R=true):=Qd (by rw[HE.out];exact decide_eq_true (by omega))
   go_enter Tryz.func158,Tryz.ntmps158
   go_wp2_with fail
   go_ret;exact⟨Aa (by rw[HF.out]),rfl⟩
  have HF:Hid (R=false):=Qd (by rw[HE.out];exact decide_eq_false (by omega));go_enter Tryz.func158,Tryz.ntmps158
  go_wp2_with fail
  go_ret;exact⟨Aa (by rw[HF.out]),rfl⟩
 have HF:Hid (R=false):=Qd (by rw[HE.out];exact decide_eq_false (by omega));go_enter Tryz.func158,Tryz.ntmps158
 go_wp2_with fail
 go_ret;exact⟨Aa (by rw[HF.out]),rfl⟩
theorem Ol (k:Int)(w:World):Calls Tryz.prog 147 #[.int .i64 k] w (Bf w (plain k)):=by
 have HE:=Qd (Ep k);generalize plain k=R at*;by_cases h0:17≤k
 ·by_cases h1:k≤21
  ·have HF:Hid (R=true):=Qd (by rw[HE.out];exact decide_eq_true (by omega))
   go_enter Tryz.func147,Tryz.ntmps147
   go_wp2_with fail
   go_ret;exact⟨Aa (by rw[HF.out]),rfl⟩
  have HF:Hid (R=false):=Qd (by rw[HE.out];exact decide_eq_false (by omega));go_enter Tryz.func147,Tryz.ntmps147
  go_wp2_with fail
  go_ret;exact⟨Aa (by rw[HF.out]),rfl⟩
 have HF:Hid (R=false):=Qd (by rw[HE.out];exact decide_eq_false (by omega));go_enter Tryz.func147,Tryz.ntmps147
 go_wp2_with fail
 go_ret;exact⟨Aa (by rw[HF.out]),rfl⟩
theorem Fp (k:Int)(w:World):Calls Tryz.prog 116 #[.int .i64 k] w (Bf w (plain k)):=by
 have HE:=Qd (Ep k);generalize plain k=R at*;by_cases h0:17≤k
 ·by_cases h1:k≤21
  ·have HF:Hid (R=true):=Qd (by rw[HE.out];exact decide_eq_true (by omega))
   go_enter Tryz.func116,Tryz.ntmps116
   go_wp2_with fail
   go_ret;exact⟨Aa (by rw[HF.out]),rfl⟩
  have HF:Hid (R=false):=Qd (by rw[HE.out];exact decide_eq_false (by omega));go_enter Tryz.func116,Tryz.ntmps116
  go_wp2_with fail
  go_ret;exact⟨Aa (by rw[HF.out]),rfl⟩
 have HF:Hid (R=false):=Qd (by rw[HE.out];exact decide_eq_false (by omega));go_enter Tryz.func116,Tryz.ntmps116
 go_wp2_with fail
 go_ret;exact⟨Aa (by rw[HF.out]),rfl⟩
theorem Kn (k:Int)(w:World):Calls Tryz.prog 93 #[.int .i64 k] w (Bf w (Bh k)):=by
 have HE:=Qd (Ps k);generalize Bh k=R at*;by_cases h0:0≤k
 ·by_cases h1:k≤7
  ·have HF:Hid (R=true):=Qd (by rw[HE.out];exact decide_eq_true (by omega))
   go_enter Tryz.func93,Tryz.ntmps93
   go_wp2_with fail
   go_ret;exact⟨Aa (by rw[HF.out]),rfl⟩
  have HF:Hid (R=false):=Qd (by rw[HE.out];exact decide_eq_false (by omega));go_enter Tryz.func93,Tryz.ntmps93
  go_wp2_with fail
  go_ret;exact⟨Aa (by rw[HF.out]),rfl⟩
 have HF:Hid (R=false):=Qd (by rw[HE.out];exact decide_eq_false (by omega));go_enter Tryz.func93,Tryz.ntmps93
 go_wp2_with fail
 go_ret;exact⟨Aa (by rw[HF.out]),rfl⟩
theorem Gz (k:Int)(c:UInt8)(w:World)(hc:c=97∨c=102∨c=112∨c=120):Calls Tryz.prog 142 #[.int .i64 k,.int .u8 (c.toNat:Int)] w (Bf w (Yb c k)):=by
 have AR:=Qd (λwx=>Zh k wx);have FU:=Qd (λwx=>Jn k wx);have PL:=Qd (λwx=>Ol k wx);rcases hc with rfl |rfl |rfl |rfl
 ·rw[Xo]
  have hn:((97:UInt8).toNat:Int)=97:=rfl;rw[hn];go_enter Tryz.func142,Tryz.ntmps142
  go_wp2_with fail
  refine(AR.out _).mono ?_;rintro e w1 ⟨rfl,rfl⟩;go_wp2_with fail
  go_ret;exact⟨rfl,rfl⟩
 ·rw[Jk]
  have hn:((102:UInt8).toNat:Int)=102:=rfl;rw[hn];go_enter Tryz.func142,Tryz.ntmps142
  go_wp2_with fail
  refine(FU.out _).mono ?_;rintro e w1 ⟨rfl,rfl⟩;go_wp2_with fail
  go_ret;exact⟨rfl,rfl⟩
 ·rw[Yo]
  have hn:((112:UInt8).toNat:Int)=112:=rfl;rw[hn];go_enter Tryz.func142,Tryz.ntmps142
  go_wp2_with fail
  refine(PL.out _).mono ?_;rintro e w1 ⟨rfl,rfl⟩;go_wp2_with fail
  go_ret;exact⟨rfl,rfl⟩
 rw[Zo];have HE:Hid (Ae k=(array k||(k==10))):=Qd rfl;have hn:((120:UInt8).toNat:Int)=120:=rfl;rw[hn];generalize Ae k=R at*;generalize array k=x at*;cases x;all_goals
  cases q:(k==10);all_goals
   rw[q] at HE;go_enter Tryz.func142,Tryz.ntmps142
   go_wp2_with fail
   refine(AR.out _).mono ?_;rintro e w1 ⟨rfl,rfl⟩;go_wp2_with fail
   go_ret;exact⟨Aa (by rw[HE.out];rfl),rfl⟩
end
end Go.Proofs.YtceplkpjnebnfaaGreatDoor
