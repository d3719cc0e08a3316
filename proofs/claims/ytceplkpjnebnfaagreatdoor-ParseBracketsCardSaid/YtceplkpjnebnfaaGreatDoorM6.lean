/-
  Texts of this proof, joined (by wip/bin/bundle.py): Tree1, ArrRight, Cfg1, Same2, LabMath, LabRef, ArrTot, ArrFew, Rat3, ParMath, ParMath2, RegMake.
-/
import Derived.Test.YtceplkpjnebnfaaGreatDoorM5
import Derived.Deep.MidRow
import Derived.IntWalk
import Derived.Shelf.Abstract
import Derived.WalkKit
import Derived.WalkSpells
import Derived.WalkLawsBesides
import Derived.Lib.Hide
import Derived.Laws.BitsAllLaws
import Derived.LoopTactic
import Derived.Outline
import Derived.Deep.QuietTactic
import Derived.BigQuiet
set_option linter.all false
set_option maxHeartbeats 8000000
set_option maxRecDepth 100000
namespace Go.Proofs.YtceplkpjnebnfaaGreatDoor
section
open Go.RowKit Tr
def Hb (k o:Int)(m:List UInt8)(n:Rt.Nm)(t:List Int)(len:Nat)(A1 A2 A3 A4:Option Addr)(c1 c2 c3 c4:Nat):List Value:=
 [.int .i64 k,.int .i64 o,.string ⟨m.toArray⟩,.bool n.neg,.slice A1 n.top.length c1,.slice A2 n.bot.length c2,.slice A3 t.length c3,.slice A4 len c4]
structure Own (w:World) (B:Nat) (k o:Int) (m:List UInt8) (n:Rt.Nm) (t:List Int) (len:Nat) (A1 A2 A3 A4:Option Addr) (c1 c2 c3 c4:Nat):Prop where
 wk:Pd [k,o]
 ms:m.length≤140737488355328
 f1:Fits n.top.length c1 4
 f2:Fits n.bot.length c2 4
 f3:Fits t.length c3 8
 f4:Fits len c4 136
 o1:Nt.Ok n.top
 o2:Nt.Ok n.bot
 wt:Pd t
 l1:Lies w B A1 (U n.top)
 l2:Lies w B A2 (U n.bot)
 l3:Lies w B A3 (Xa t)
 n1:A1=none→c1=0
 n2:A2=none→c2=0
theorem Own.keep {w w':World}{B B':Nat}{k o:Int}{m:List UInt8}{n:Rt.Nm}{t:List Int}{len:Nat}{A1 A2 A3 A4:Option Addr}{c1 c2 c3 c4:Nat}(hk:∀p:Addr,p.block<B→w'.cell? p=w.cell? p)(hB:B≤B')(h:Own w B k o m n t len A1 A2 A3 A4 c1 c2 c3 c4):Own w' B' k o m n t len A1 A2 A3 A4 c1 c2 c3 c4:=
 ⟨h.wk,h.ms,h.f1,h.f2,h.f3,h.f4,h.o1,h.o2,h.wt,(h.l1.keep hk).more hB,(h.l2.keep hk).more hB,(h.l3.keep hk).more hB,h.n1,h.n2⟩
mutual
def IsTree (w:World)(B:Nat):Da→List Value→Prop
 | .mk k o m n t l,vs=>∃A1 A2 A3 A4 c1 c2 c3 c4 us,vs=Hb k o m n t l.length A1 A2 A3 A4 c1 c2 c3 c4∧Own w B k o m n t l.length A1 A2 A3 A4 c1 c2 c3 c4∧Lies w B A4 us∧IsTrees w B l us
def IsTrees (w:World)(B:Nat):List Da→List Value→Prop
 | [],vs=>vs=[]
 |c::r,vs=>∃u t,vs=u++t∧IsTree w B c u∧IsTrees w B r t
end
theorem IsTree.len {w:World}{B:Nat}{a:Da}{vs:List Value}(h:IsTree w B a vs):vs.length=8:=by
 cases a;rw[IsTree] at h;obtain⟨A1,A2,A3,A4,c1,c2,c3,c4,us,rfl,_⟩:=h;rfl
mutual
theorem IsTree.keep {w w':World}{B B':Nat}(hk:∀p:Addr,p.block<B→w'.cell? p=w.cell? p)(hB:B≤B'):∀(a:Da) (vs:List Value),IsTree w B a vs→IsTree w' B' a vs
 | .mk k o m n t l,vs,h=>by
  rw[IsTree] at h⊢;obtain⟨A1,A2,A3,A4,c1,c2,c3,c4,us,h1,h2,h3,h4⟩:=h;exact⟨A1,A2,A3,A4,c1,c2,c3,c4,us,h1,h2.keep hk hB,(h3.keep hk).more hB,IsTrees.keep hk hB l us h4⟩
theorem IsTrees.keep {w w':World}{B B':Nat}(hk:∀p:Addr,p.block<B→w'.cell? p=w.cell? p)(hB:B≤B'):∀(a:List Da) (vs:List Value),IsTrees w B a vs→IsTrees w' B' a vs
 | [],vs,h=>by rw[IsTrees] at h⊢;exact h
 |c::r,vs,h=>by
  rw[IsTrees] at h⊢;obtain⟨u,t,h1,h2,h3⟩:=h;exact⟨u,t,h1,IsTree.keep hk hB c u h2,IsTrees.keep hk hB r t h3⟩
end
theorem IsTree.below {w w':World}{B:Nat}{a:Da}{vs:List Value}(h:IsTree w B a vs)(hb:Below B w w'):IsTree w' B a vs:=IsTree.keep (λ_ hp=>hb.cell hp) (Nat.le_refl _) a vs h
theorem IsTree.more {w:World}{B B':Nat}{a:Da}{vs:List Value}(h:IsTree w B a vs)(hB:B≤B'):IsTree w B' a vs:=IsTree.keep (λ_ _=>rfl) hB a vs h
theorem IsTrees.below {w w':World}{B:Nat}{a:List Da}{vs:List Value}(h:IsTrees w B a vs)(hb:Below B w w'):IsTrees w' B a vs:=IsTrees.keep (λ_ hp=>hb.cell hp) (Nat.le_refl _) a vs h
theorem IsTrees.more {w:World}{B B':Nat}{a:List Da}{vs:List Value}(h:IsTrees w B a vs)(hB:B≤B'):IsTrees w B' a vs:=IsTrees.keep (λ_ _=>rfl) hB a vs h
theorem IsTrees.at_ {w:World}{B:Nat}:∀{cs:List Da} {vs:List Value} (h:IsTrees w B cs vs) {k:Nat} (hk:k<cs.length),∃u,IsTree w B cs[k] u∧u=(vs.drop (8*k)).take 8
 | [],_,_,_,hk=>by simp at hk
 |c::r,vs,h,0,_=>by
  rw[IsTrees] at h;obtain⟨u,t,rfl,h2,h3⟩:=h;exact⟨u,h2,by simp[h2.len]⟩
 |c::r,vs,h,k+1,hk=>by
  rw[IsTrees] at h;obtain⟨u,t,rfl,h2,h3⟩:=h;obtain⟨u',h4,h5⟩:=h3.at_ (k:=k) (by simpa using hk);refine⟨u',h4,h5.trans ?_⟩;rw[show 8*(k+1)=u.length+8*k by rw[h2.len];omega,List.drop_append,List.drop_eq_nil_of_le (Nat.le_add_right _ _),Nat.add_sub_cancel_left,List.nil_append]
theorem IsTrees.len {w:World}{B:Nat}:∀{cs:List Da} {vs:List Value} (h:IsTrees w B cs vs),vs.length=8*cs.length
 | [],_,h=>by rw[IsTrees] at h;subst h;rfl
 |c::r,vs,h=>by
  rw[IsTrees] at h;obtain⟨u,t,rfl,h2,h3⟩:=h;rw[List.length_append,h2.len,h3.len,List.length_cons];omega
theorem IsTree.form {w:World}{B:Nat}{a:Da}{vs:List Value}(h:IsTree w B a vs):∃A1 A2 A3 A4 c1 c2 c3 c4,vs=Hb (kind a) (op a) (Zb a) (Ii a) (text a) (Be a).length A1 A2 A3 A4 c1 c2 c3 c4:=by
 cases a;rw[IsTree] at h;obtain⟨A1,A2,A3,A4,c1,c2,c3,c4,us,rfl,_⟩:=h;exact⟨A1,A2,A3,A4,c1,c2,c3,c4,rfl⟩
structure At8 (w:World) (b off:Nat) (k o:Int) (m:List UInt8) (n:Rt.Nm) (t:List Int) (len:Nat) (A1 A2 A3 A4:Option Addr) (c1 c2 c3 c4:Nat):Prop where
 p0:w.cell? ⟨b,off,none⟩=some (.int .i64 k)
 p1:w.cell? ⟨b,off+1,none⟩=some (.int .i64 o)
 p2:w.cell? ⟨b,off+2,none⟩=some (.string ⟨m.toArray⟩)
 p3:w.cell? ⟨b,off+3,none⟩=some (.bool n.neg)
 p4:w.cell? ⟨b,off+4,none⟩=some (.slice A1 n.top.length c1)
 p5:w.cell? ⟨b,off+5,none⟩=some (.slice A2 n.bot.length c2)
 p6:w.cell? ⟨b,off+6,none⟩=some (.slice A3 t.length c3)
 p7:w.cell? ⟨b,off+7,none⟩=some (.slice A4 len c4)
theorem At8.keep {w w':World}{b off:Nat}{k o:Int}{m:List UInt8}{n:Rt.Nm}{t:List Int}{len:Nat}{A1 A2 A3 A4:Option Addr}{c1 c2 c3 c4:Nat}(h:At8 w b off k o m n t len A1 A2 A3 A4 c1 c2 c3 c4)(hk:∀q,w'.cell? ⟨b,q,none⟩=w.cell? ⟨b,q,none⟩):At8 w' b off k o m n t len A1 A2 A3 A4 c1 c2 c3 c4:=
 ⟨(hk _).trans h.p0,(hk _).trans h.p1,(hk _).trans h.p2,(hk _).trans h.p3,(hk _).trans h.p4,(hk _).trans h.p5,(hk _).trans h.p6,(hk _).trans h.p7⟩
theorem Wg {w wr:World}{B:Nat}{A:Option Addr}{l:List Da}{us:List Value}{i:Nat}(hcs:IsTrees w B l us)(hl:Lies w B A us)(hk:∀p:Addr,p.block<B→wr.cell? p=w.cell? p)(hlt:i<l.length):
 ∃b off A1 A2 A3 A4 c1 c2 c3 c4,A=some ⟨b,off,none⟩∧b<B∧Hid (IsTree w B l[i] (Hb (kind l[i]) (op l[i]) (Zb l[i]) (Ii l[i]) (text l[i]) (Be l[i]).length A1 A2 A3 A4 c1 c2 c3 c4))∧
  At8 wr b (off+i*8) (kind l[i]) (op l[i]) (Zb l[i]) (Ii l[i]) (text l[i]) (Be l[i]).length A1 A2 A3 A4 c1 c2 c3 c4:=by
 obtain⟨u,hu,hue⟩:=hcs.at_ hlt;obtain⟨b,off,rfl,hb,hcell⟩:=hl.elem hue (by intro h;have:=hu.len;rw[h] at this;cases this);obtain⟨A1,A2,A3,A4,c1,c2,c3,c4,rfl⟩:=hu.form;have hc:∀j v,(Hb (kind l[i]) (op l[i]) (Zb l[i]) (Ii l[i]) (text l[i]) (Be l[i]).length A1 A2 A3 A4 c1 c2 c3 c4)[j]? =some v→wr.cell? ⟨b,off+i*8+j,none⟩=some v:=λj v hv=>(hk ⟨b,off+i*8+j,none⟩ hb).trans (hcell j v hv);exact⟨b,off,A1,A2,A3,A4,c1,c2,c3,c4,rfl,hb,Qd hu,hc 0 _ rfl,hc 1 _ rfl,hc 2 _ rfl,hc 3 _ rfl,hc 4 _ rfl,hc 5 _ rfl,hc 6 _ rfl,hc 7 _ rfl⟩
theorem IsTree.open_ {w:World}{B:Nat}{k o:Int}{m:List UInt8}{n:Rt.Nm}{t:List Int}{l:List Da}{vs:List Value}(h:IsTree w B (.mk k o m n t l) vs):
 ∃A1 A2 A3 A4 c1 c2 c3 c4 us,vs=Hb k o m n t l.length A1 A2 A3 A4 c1 c2 c3 c4∧Hid (Own w B k o m n t l.length A1 A2 A3 A4 c1 c2 c3 c4)∧Hid (Lies w B A4 us)∧Hid (IsTrees w B l us):=by
 rw[IsTree] at h;obtain⟨A1,A2,A3,A4,c1,c2,c3,c4,us,h1,h2,h3,h4⟩:=h;exact⟨A1,A2,A3,A4,c1,c2,c3,c4,us,h1,Qd h2,Qd h3,Qd h4⟩
theorem Ch {k o:Int}{m:List UInt8}{n:Rt.Nm}{t:List Int}{l:List Da}{i:Nat}(h:i<l.length):SizeOf.sizeOf l[i]<SizeOf.sizeOf (Da.mk k o m n t l):=by
 have:=List.sizeOf_lt_of_mem (List.getElem_mem h);simp only[Da.mk.sizeOf_spec];omega
theorem Ap {k o:Int}{m:List UInt8}{n:Rt.Nm}{t:List Int}{l:List Da}{i:Nat}(h:i<l.length):count l[i]<count (Da.mk k o m n t l):=by
 have:=Fr h;rw[count];omega
theorem Gba {w W:World}{T:TypeId}{k o:Int}{m:List UInt8}{n:Rt.Nm}{t:List Int}{len:Nat}{A1 A2 A3 A4:Option Addr}{c1 c2 c3 c4:Nat}(h:W=w.alloc (.cells (Hb k o m n t len A1 A2 A3 A4 c1 c2 c3 c4).toArray T)):
 w.heap.size<W.heap.size∧Below w.heap.size w W∧At8 W w.heap.size 0 k o m n t len A1 A2 A3 A4 c1 c2 c3 c4∧W.heap[w.heap.size]? =some (.cells (Hb k o m n t len A1 A2 A3 A4 c1 c2 c3 c4).toArray T (0,0)):=by
 subst h;refine⟨by simp,(Below.refl _ _).alloc (Nat.le_refl _) _,?_,heap_alloc_new _ _⟩;have hc:∀j v,(Hb k o m n t len A1 A2 A3 A4 c1 c2 c3 c4)[j]? =some v→(w.alloc (.cells (Hb k o m n t len A1 A2 A3 A4 c1 c2 c3 c4).toArray T)).cell? ⟨w.heap.size,0+j,none⟩=some v:=λj v hv=>by
  rw[Nat.zero_add];refine(cell_of_row _ w.heap.size j _ _ _ (heap_alloc_new w _)).trans ?_;rw[List.getElem?_toArray];exact hv
 exact⟨hc 0 _ rfl,hc 1 _ rfl,hc 2 _ rfl,hc 3 _ rfl,hc 4 _ rfl,hc 5 _ rfl,hc 6 _ rfl,hc 7 _ rfl⟩
theorem Tb {w W:World}{B:Nat}{T:TypeId}{k o:Int}{m:List UInt8}{n:Rt.Nm}{t:List Int}{l:List Da}{vs:List Value}(h:IsTree w B (.mk k o m n t l) vs)(hW:W=w.alloc (.cells vs.toArray T)):
 ∃A1 A2 A3 A4 c1 c2 c3 c4 us,Hid (Own w B k o m n t l.length A1 A2 A3 A4 c1 c2 c3 c4)∧Hid (Lies w B A4 us)∧Hid (IsTrees w B l us)∧At8 W w.heap.size 0 k o m n t l.length A1 A2 A3 A4 c1 c2 c3 c4∧
  Hid (W.heap[w.heap.size]? =some (.cells vs.toArray T (0,0)))∧w.heap.size<W.heap.size∧Below w.heap.size w W:=by
 obtain⟨A1,A2,A3,A4,c1,c2,c3,c4,us,rfl,HO,HL,HC⟩:=h.open_;obtain⟨h1,h2,h3,h4⟩:=Gba hW;exact⟨A1,A2,A3,A4,c1,c2,c3,c4,us,HO,HL,HC,h3,Qd h4,h1,h2⟩
theorem Nd {w wr:World}{B:Nat}{A:Option Addr}{l:List Da}{us:List Value}{i:Nat}(hcs:IsTrees w B l us)(hl:Lies w B A us)(hk:∀p:Addr,p.block<B→wr.cell? p=w.cell? p)(hlt:i<l.length):
 ∃b off tv,A=some ⟨b,off,none⟩∧b<B∧Hid (IsTree w B l[i] tv)∧Hid (wr.rangeAt b (off+i*8) tv):=by
 obtain⟨u,hu,hue⟩:=hcs.at_ hlt;obtain⟨b,off,rfl,hb,hcell⟩:=hl.elem hue (by intro h;have:=hu.len;rw[h] at this;cases this);exact⟨b,off,u,rfl,hb,Qd hu,Qd (λj v hv=>(hk ⟨b,off+i*8+j,none⟩ hb).trans (hcell j v hv))⟩
theorem Ld {w:World}{B:Nat}{a:Da}{vs:List Value}(h:IsTree w B a vs):(Tryz.prog.info? 28).map (·.size)=some vs.length:=by rw[h.len];kernel_rfl
theorem Zc {w:World}{B:Nat}{a:Da}{vs:List Value}(h:IsTree w B a vs):(Tryz.prog.info? 28).map (·.size)=some vs.toArray.size:=by rw[List.size_toArray,h.len];kernel_rfl
theorem Ua {ops:Array Oper}{rest:List Oper}{o:Oper}{a:Act}{w:World}{Q:Exit→Act→World→Prop}{cs:Array Value}(x:Operand)(hgd:o.guard=none)(ho:o.op= .load 28 x)
 (g:Nat) (hx:a.eval x= .pointer (some ⟨g,0,none⟩)) (hg:w.heap[g]? =some (.cells cs 28 (0,0))) (hi:(Tryz.prog.info? 28).map (·.size)=some cs.size)
 (h:wpList Tryz.prog ops Q rest (a.put o.dst (.agg cs)) w):wpList Tryz.prog ops Q (o::rest) a w:=
 wpList_load_row hgd _ x ho g hx _ cs _ _ hg Tryz.underlying28 rfl hi h
end
end Go.Proofs.YtceplkpjnebnfaaGreatDoor
namespace Ar
theorem Oj {p:Int→Bool}{l:List Int}{k:Nat}(h:k<l.length):(l.take (k+1)).any p=((l.take k).any p||p l[k]):=by
 rw[List.take_succ_eq_append_getElem h,List.any_append];simp
theorem Ny {p:Int→Bool}{l:List Int}{k:Nat}(h:k<l.length)(hp:p l[k]=true):l.any p=true:=List.any_eq_true.2 ⟨_,List.getElem_mem h,hp⟩
end Ar
namespace Go.Proofs.YtceplkpjnebnfaaGreatDoor
section
open Go.RowKit Ar
def Gr (r:Bool)(w:World)(e:Ending)(w':World):Prop:=∃i:Int,e= .returned (.int .i64 i)∧decide (0≤i)=r∧w=w'
theorem Hr {p:Int→Bool}{l:List Int}{k:Nat}(hk:k=l.length)(h:(l.take k).any p=false):l.any p=false:=by subst hk;rwa[List.take_length] at h
theorem Vp (F:FuncId)(hE:∀args w,(callFunc F args).run Tryz.prog w= .ok (.enter F args) w)(p:Int→Bool)(A:Option Addr)(c:Nat)(l:List Int)(w:World)(B:Nat)(hl:Lies w B A (Xa l))(hn:l.length≤9223372036854775807)
 (hF:∀x,Calls Tryz.prog F #[.int .i64 x] w λe w'=>e= .returned (.bool (p x))∧w=w'):
 Calls Tryz.prog 154 #[.slice A l.length c,.func (.func F) #[] #[]] w (Gr (l.any p) w):=by
 have HA:=Qd hl;have HF:=Qd hF;clear hl hF;go_enter Tryz.func154,Tryz.ntmps154
 go_wp2_with fail
 go_loop [8] (λiv=>∃i:Nat,iv= .int .i64 (i:Int)∧i≤l.length∧Hid ((l.take i).any p=false)) (λiv=>l.length-(intOf iv).toNat)
 case atStart=>exact⟨0,by go_num,Nat.zero_le _,Qd rfl⟩
 case round=>
  obtain⟨k,rfl,hk,HT⟩:=hrel;by_cases hlt:k<l.length
  ·obtain⟨b,off,rfl,hb,g0⟩:=Lb HA.out hlt
   have H1:=Qd (Oj (p:=p) hlt);have H2:=Qd (Ny (p:=p) hlt);have FX:=Qd (HF.out l[k]);generalize l[k]=x at*;generalize p x=r at*;have hk0:(0:Int)≤(k:Int):=by omega
   have hk1:(k:Int)<(l.length:Int):=by omega
   go_wp2_with fail
   refine FX.out.mono ?_;rintro e w' ⟨rfl,rfl⟩;cases r
   ·have H3:Hid ((l.take (k+1)).any p=false):=Qd (by rw[H1.out,HT.out];rfl)
    go_wp2_with fail
    go_round
    case rel=>exact⟨k+1,by go_num,by omega,H3⟩
    case measure=>simp[intOf];omega
   have H3:=Qd (H2.out rfl);go_wp2_with fail
   go_ret;exact⟨_,rfl,by rw[H3.out];exact decide_eq_true (by omega),rfl⟩
  have H3:=Qd (Hr (by omega) HT.out);go_wp2_with fail
  go_ret;exact⟨_,rfl,by rw[H3.out];rfl,rfl⟩
theorem Ir (F:FuncId)(hE:∀args w,(callFunc F args).run Tryz.prog w= .ok (.enter F args) w)(p:Int→Bool)(A:Option Addr)(c:Nat)(l:List Int)(w:World)(B:Nat)(hl:Lies w B A (Xa l))(hn:l.length≤9223372036854775807)
 (hF:∀x,Calls Tryz.prog F #[.int .i64 x] w λe w'=>e= .returned (.bool (p x))∧w=w'):
 Calls Tryz.prog 102 #[.slice A l.length c,.func (.func F) #[] #[]] w λe w'=>e= .returned (.bool (l.any p))∧w=w':=by
 have IX:=Qd (Vp F hE p A c l w B hl hn hF);clear hE;clear hl hF;generalize l.any p=r at*;generalize l.length=n at*;go_enter Tryz.func102,Tryz.ntmps102
 go_wp2_with fail
 refine IX.out.mono ?_;rintro e w' ⟨i,rfl,hr,rfl⟩;go_wp2_with fail
 go_ret;exact⟨rfl,rfl⟩
theorem Oy (A:Option Addr)(c:Nat)(l:List Int)(y:Int)(w:World)(B:Nat)(hl:Lies w B A (Xa l))(hn:l.length≤9223372036854775807):
 Calls Tryz.prog 155 #[.slice A l.length c,.int .i64 y] w (Gr (l.any (· ==y)) w):=by
 have HA:=Qd hl;clear hl;go_enter Tryz.func155,Tryz.ntmps155
 go_wp2_with fail
 go_loop [8] (λiv=>∃i:Nat,iv= .int .i64 (i:Int)∧i≤l.length∧Hid ((l.take i).any (· ==y)=false)) (λiv=>l.length-(intOf iv).toNat)
 case atStart=>exact⟨0,by go_num,Nat.zero_le _,Qd rfl⟩
 case round=>
  obtain⟨k,rfl,hk,HT⟩:=hrel;by_cases hlt:k<l.length
  ·obtain⟨b,off,rfl,hb,g0⟩:=Lb HA.out hlt
   have H1:=Qd (Oj (p:=(· ==y)) hlt);have H2:=Qd (Ny (p:=(· ==y)) hlt);generalize l[k]=x at*;have hk0:(0:Int)≤(k:Int):=by omega
   have hk1:(k:Int)<(l.length:Int):=by omega
   by_cases hxy:x=y
   ·subst hxy
    have e1:(x==x)=true:=by simp
    have H3:=Qd (H2.out e1);clear H1 H2;go_wp2_with fail
    go_ret;exact⟨_,rfl,by rw[H3.out];exact decide_eq_true (by omega),rfl⟩
   have e1:(y==x)=false:=beq_eq_false_iff_ne.2 (λh=>hxy h.symm);have H3:Hid ((l.take (k+1)).any (· ==y)=false):=Qd (by rw[H1.out,HT.out];simpa using hxy);clear H1 H2 hxy;go_wp2_with fail
   go_round
   case rel=>exact⟨k+1,by go_num,by omega,H3⟩
   case measure=>simp[intOf];omega
  have H3:=Qd (Hr (by omega) HT.out);go_wp2_with fail
  go_ret;exact⟨_,rfl,by rw[H3.out];rfl,rfl⟩
theorem Jr (A:Option Addr)(c:Nat)(l:List Int)(y:Int)(w:World)(B:Nat)(hl:Lies w B A (Xa l))(hn:l.length≤9223372036854775807):
 Calls Tryz.prog 107 #[.slice A l.length c,.int .i64 y] w λe w'=>e= .returned (.bool (l.any (· ==y)))∧w=w':=by
 have IX:=Qd (Oy A c l y w B hl hn);clear hl;generalize l.any (· ==y)=r at*;generalize l.length=n at*;go_enter Tryz.func107,Tryz.ntmps107
 go_wp2_with fail
 refine IX.out.mono ?_;rintro e w' ⟨i,rfl,hr,rfl⟩;go_wp2_with fail
 go_ret;exact⟨rfl,rfl⟩
end
section
open Go.RowKit Ar
def Vc (n n':Bool)(t t' b b':List Nat):Bool:=(n==n')&&(t==t')&&(b==b')
theorem Wp (n n':Bool)(t t' b b':List Nat)(A1 A2 A1' A2':Option Addr)(c1 c2 c1' c2':Nat)(w:World)(B:Nat)(h1:Lies w B A1 (Jf t))(h1':Lies w B A1' (Jf t'))(h2:Lies w B A2 (Jf b))(h2':Lies w B A2' (Jf b'))(hB:B≤w.heap.size)
 (k1:t.length≤9223372036854775807) (k1':t'.length≤9223372036854775807) (k2:b.length≤9223372036854775807) (k2':b'.length≤9223372036854775807):
 Calls Tryz.prog 100 #[.agg #[.bool n,.slice A1 t.length c1,.slice A2 b.length c2],.agg #[.bool n',.slice A1' t'.length c1',.slice A2' b'.length c2']] w λe w'=>e= .returned (.bool (Vc n n' t t' b b'))∧Below w.heap.size w w':=by
 have E1:=Qd (λ(wx:World) (hx:Below w.heap.size w wx)=>So t t' A1 A1' c1 c1' wx B (h1.below (hx.mono hB)) (h1'.below (hx.mono hB)) k1 k1');have E2:=Qd (λ(wx:World) (hx:Below w.heap.size w wx)=>So b b' A2 A2' c2 c2' wx B (h2.below (hx.mono hB)) (h2'.below (hx.mono hB)) k2 k2');have HR:Hid (Vc n n' t t' b b'=((n==n')&&(t==t')&&(b==b'))):=Qd rfl;clear h1 h1' h2 h2';generalize Vc n n' t t' b b'=R at*;generalize(t==t')=x at*;generalize(b==b')=y at*;cases hnn:(n==n')
 ·rw[hnn] at HR
  go_enter Tryz.func100,Tryz.ntmps100
  go_wp2_with fail
  go_ret;exact⟨Aa (by rw[HR.out];simp),((Below.refl _ _).alloc (Nat.le_refl _) _).alloc (by simp) _⟩
 rw[hnn] at HR;go_enter Tryz.func100,Tryz.ntmps100
 go_wp2_with fail
 have hb0:Below w.heap.size w ((w.alloc (.cells #[.bool n,.slice A1 t.length c1,.slice A2 b.length c2] 24)).alloc (.cells #[.bool n',.slice A1' t'.length c1',.slice A2' b'.length c2'] 24)):=((Below.refl _ _).alloc (Nat.le_refl _) _).alloc (by simp) _;refine(E1.out _ hb0).mono ?_;rintro e w2 ⟨rfl,hb2⟩;have hb3:=hb0.trans (hb2.mono hb0.size);obtain⟨hc,hfz⟩:(∀o,w2.cell? ⟨w.heap.size,o,none⟩=_)∧(∀o,w2.cell? ⟨w.heap.size+1,o,none⟩=_):=⟨λo=>hb2.cell (p:=⟨w.heap.size,o,none⟩) (by show w.heap.size<_;simp;omega),λo=>hb2.cell (p:=⟨w.heap.size+1,o,none⟩) (by show w.heap.size+1<_;simp)⟩;cases x
 ·go_wp2_with fail
  go_ret;exact⟨Aa (by rw[HR.out];simp),hb3⟩
 go_wp2_with fail
 refine(E2.out _ hb3).mono ?_;rintro e w3 ⟨rfl,hb4⟩;clear hc hfz;go_wp2_with fail
 go_ret;exact⟨Aa (by rw[HR.out];simp),hb3.trans (hb4.mono hb3.size)⟩
theorem Dh (n n':Bool)(t t' b b':List Nat)(A1 A2 A1' A2':Option Addr)(c1 c2 c1' c2':Nat)(w:World)(B:Nat)(h1:Lies w B A1 (Jf t))(h1':Lies w B A1' (Jf t'))(h2:Lies w B A2 (Jf b))(h2':Lies w B A2' (Jf b'))(hB:B≤w.heap.size)
 (k1:t.length≤9223372036854775807) (k1':t'.length≤9223372036854775807) (k2:b.length≤9223372036854775807) (k2':b'.length≤9223372036854775807):
 Calls Tryz.prog 30 #[.agg #[.bool n,.slice A1 t.length c1,.slice A2 b.length c2],.agg #[.bool n',.slice A1' t'.length c1',.slice A2' b'.length c2']] w λe w'=>e= .returned (.bool (Vc n n' t t' b b'))∧Below w.heap.size w w':=by
 have E1:=Qd (λ(wx:World) (hx:Below w.heap.size w wx)=>Bk t t' A1 A1' c1 c1' wx B (h1.below (hx.mono hB)) (h1'.below (hx.mono hB)) k1 k1');have E2:=Qd (λ(wx:World) (hx:Below w.heap.size w wx)=>Bk b b' A2 A2' c2 c2' wx B (h2.below (hx.mono hB)) (h2'.below (hx.mono hB)) k2 k2');have HR:Hid (Vc n n' t t' b b'=((n==n')&&(t==t')&&(b==b'))):=Qd rfl;clear h1 h1' h2 h2';generalize Vc n n' t t' b b'=R at*;generalize(t==t')=x at*;generalize(b==b')=y at*;cases hnn:(n==n')
 ·rw[hnn] at HR
  go_enter Tryz.func30,Tryz.ntmps30
  go_wp2_with fail
  go_ret;exact⟨Aa (by rw[HR.out];simp),((Below.refl _ _).alloc (Nat.le_refl _) _).alloc (by simp) _⟩
 rw[hnn] at HR;go_enter Tryz.func30,Tryz.ntmps30
 go_wp2_with fail
 have hb0:Below w.heap.size w ((w.alloc (.cells #[.bool n,.slice A1 t.length c1,.slice A2 b.length c2] 24)).alloc (.cells #[.bool n',.slice A1' t'.length c1',.slice A2' b'.length c2'] 24)):=((Below.refl _ _).alloc (Nat.le_refl _) _).alloc (by simp) _;refine(E1.out _ hb0).mono ?_;rintro e w2 ⟨rfl,hb2⟩;have hb3:=hb0.trans (hb2.mono hb0.size);obtain⟨hc,hfz⟩:(∀o,w2.cell? ⟨w.heap.size,o,none⟩=_)∧(∀o,w2.cell? ⟨w.heap.size+1,o,none⟩=_):=⟨λo=>hb2.cell (p:=⟨w.heap.size,o,none⟩) (by show w.heap.size<_;simp;omega),λo=>hb2.cell (p:=⟨w.heap.size+1,o,none⟩) (by show w.heap.size+1<_;simp)⟩;cases x
 ·go_wp2_with fail
  go_ret;exact⟨Aa (by rw[HR.out];simp),hb3⟩
 go_wp2_with fail
 refine(E2.out _ hb3).mono ?_;rintro e w3 ⟨rfl,hb4⟩;clear hc hfz;go_wp2_with fail
 go_ret;exact⟨Aa (by rw[HR.out];simp),hb3.trans (hb4.mono hb3.size)⟩
end
end Go.Proofs.YtceplkpjnebnfaaGreatDoor
namespace Lab
def bit (t:Nat):Nat:=2^t
def join (a b:Nat):Nat:=a|||b
def Tba (l:Nat):List Nat:=(List.range 64).filter λt=>l.testBit t
end Lab
namespace Go.Proofs.YtceplkpjnebnfaaGreatDoor
section
open Go.RowKit
end
section
open Go.RowKit Ar
end
section
open Go.RowKit Ar
end
section
open Go.RowKit Ar
def IntOK (n:Bool)(l:List Nat)(w:World)(x:Value):Prop:=∃v,x= .agg #[.bool n,v]∧ResL w v l
def TupOK (r:Rt.Nm×Int)(w:World)(x:Value):Prop:=∃t u,x= .tuple #[.agg #[.bool r.1.neg,t,u],.int .i64 r.2]∧IsRes w t r.1.top∧IsRes w u r.1.bot
def AggOK (r:Rt.Nm×Int)(w:World)(x:Value):Prop:=∃t u,x= .agg #[.bool r.1.neg,t,u]∧IsRes w t r.1.top∧IsRes w u r.1.bot
def F9 (er:Int)(x:Value):Prop:=x= .int .i64 er
def CellOK (r:Rt.Nm×Int)(lo:Nat)(said:Bool)(w:World)(x:Value):Prop:=∃g b A k c A' k' c',x= .pointer (some ⟨g,0,none⟩)∧lo≤g∧w.heap[g]? =some (.cells #[.bool b,.slice A k c,.slice A' k' c'] 24 (0,0))∧(said=true→b=r.1.neg∧IsRes w (.slice A k c) r.1.top∧IsRes w (.slice A' k' c') r.1.bot)
theorem IntOK.below {n:Bool}{l:List Nat}{w w':World}{x:Value}(h:IntOK n l w x)(hb:Below w.heap.size w w'):IntOK n l w' x:=by
 obtain⟨v,e,r⟩:=h;exact⟨v,e,r.below hb⟩
theorem TupOK.below {r0:Rt.Nm×Int}{w w':World}{x:Value}(h:TupOK r0 w x)(hb:Below w.heap.size w w'):TupOK r0 w' x:=by
 obtain⟨t,u,e,r,r'⟩:=h;exact⟨t,u,e,r.below hb,r'.below hb⟩
theorem AggOK.below {r0:Rt.Nm×Int}{w w':World}{x:Value}(h:AggOK r0 w x)(hb:Below w.heap.size w w'):AggOK r0 w' x:=by
 obtain⟨t,u,e,r,r'⟩:=h;exact⟨t,u,e,r.below hb,r'.below hb⟩
theorem CellOK.below {r0:Rt.Nm×Int}{lo:Nat}{said:Bool}{w w':World}{x:Value}(h:CellOK r0 lo said w x)(hb:Below w.heap.size w w'):CellOK r0 lo said w' x:=by
 obtain⟨g,b,A,k,c,A',k',c',e,h1,h2,h3⟩:=h;exact⟨g,b,A,k,c,A',k',c',e,h1,(hb.block g (Cc h2)).trans h2,λhs=>by obtain⟨e,r,r'⟩:=h3 hs;exact⟨e,r.below hb,r'.below hb⟩⟩
theorem IntOK.setRow {n:Bool}{l:List Nat}{w:World}{x:Value}{g:Nat}{old:Array Value}{t:TypeId}(h:IntOK n l w x)(hg:w.heap[g]? =some (.cells old t (0,0)))(ho:∀(i:Nat) (k:IntKind) (n:Int),old[i]? ≠some (Value.int k n))(cs:Array Value):IntOK n l (w.setRow g cs) x:=by
 obtain⟨v,e,r⟩:=h;exact⟨v,e,r.setRow hg ho cs⟩
theorem TupOK.setRow {r0:Rt.Nm×Int}{w:World}{x:Value}{g:Nat}{old:Array Value}{t:TypeId}(h:TupOK r0 w x)(hg:w.heap[g]? =some (.cells old t (0,0)))(ho:∀(i:Nat) (k:IntKind) (n:Int),old[i]? ≠some (Value.int k n))(cs:Array Value):TupOK r0 (w.setRow g cs) x:=by
 obtain⟨t,u,e,r,r'⟩:=h;exact⟨t,u,e,r.setRow hg ho cs,r'.setRow hg ho cs⟩
theorem AggOK.setRow {r0:Rt.Nm×Int}{w:World}{x:Value}{g:Nat}{old:Array Value}{t:TypeId}(h:AggOK r0 w x)(hg:w.heap[g]? =some (.cells old t (0,0)))(ho:∀(i:Nat) (k:IntKind) (n:Int),old[i]? ≠some (Value.int k n))(cs:Array Value):AggOK r0 (w.setRow g cs) x:=by
 obtain⟨t,u,e,r,r'⟩:=h;exact⟨t,u,e,r.setRow hg ho cs,r'.setRow hg ho cs⟩
structure GI (w:World) (N:Array Value) (N1 N2:Bool) (D1 D2:List Nat) (R:Rt.Nm×Int) (b0 b1 b2 b3 b4 b5 b6 b7 b8 b9 b10:Bool) (x16 x17 x18 x19 x20 x15 x21 x22 x3 x4:Value) (wx:World):Prop where
 below:Below w.heap.size w wx
 v16:b0=true→x16= .agg N
 v17:b1=true→IntOK N1 D1 wx x17
 v18:b2=true→x18= .agg N
 v19:b3=true→IntOK N2 D2 wx x19
 v20:b4=true→TupOK R wx x20
 v15:b5=true→TupOK R wx x15
 v21:b6=true→AggOK R wx x21
 v22:b7=true→F9 R.2 x22
 v3:b8=true→CellOK R w.heap.size b9 wx x3
 v4:b10=true→F9 R.2 x4
 o9:b9=true→b8=true
def Xe (g:Nat)(N:Array Value)(A:Option Addr)(k c:Nat)(A':Option Addr)(k' c':Nat)(x16 x17 x18 x19 x20 x15 x21 x22 x3 x4:Value):Act:={tmps:= #[.agg N,.pointer (some ⟨g,0,none⟩),.bool false,x3,x4,.pointer (some ⟨g,1,none⟩),.slice A k c,.int .i64 (k:Int),.bool false,.bool false,.pointer (some ⟨g,2,none⟩),.slice A' k' c',.int .i64 (k':Int),.bool false,.bool false,x15,x16,x17,x18,x19,x20,x21,x22,undef,undef,undef,undef,undef,undef,undef],defers:=[]}
def Hba (w:World)(g:Nat)(N:Array Value)(A:Option Addr)(k c:Nat)(A':Option Addr)(k' c':Nat)(N1 N2:Bool)(D1 D2:List Nat)(R:Rt.Nm×Int)(l:Array Bool)(a:Act)(wx:World):Prop:=
 ∃b0 b1 b2 b3 b4 b5 b6 b7 b8 b9 b10 x16 x17 x18 x19 x20 x15 x21 x22 x3 x4,l= #[b0,b1,b2,b3,b4,b5,b6,b7,b8,b9,b10]∧a=Xe g N A k c A' k' c' x16 x17 x18 x19 x20 x15 x21 x22 x3 x4∧GI w N N1 N2 D1 D2 R b0 b1 b2 b3 b4 b5 b6 b7 b8 b9 b10 x16 x17 x18 x19 x20 x15 x21 x22 x3 x4 wx
theorem Cw (n:Bool)(t u:List Nat)(h1:t.length≤32)(h2:u.length≤32):Rt.right ⟨n,t,u⟩=(((Rt.mk n false (Nt.val t) (Nt.val u)).2==0)&&Vc n (Rt.mk n false (Nt.val t) (Nt.val u)).1.neg t (Rt.mk n false (Nt.val t) (Nt.val u)).1.top u (Rt.mk n false (Nt.val t) (Nt.val u)).1.bot):=by
 unfold Rt.right;dsimp only;rw[decide_eq_true h1,decide_eq_true h2,Bool.true_and,Bool.true_and]
 congr 1
 obtain⟨⟨b,l,l'⟩,er⟩:=Rt.mk n false (Nt.val t) (Nt.val u);rw[Bool.eq_iff_iff];simp only[decide_eq_true_eq,Vc,Bool.and_eq_true,beq_iff_eq,Rt.Nm.mk.injEq]
 constructor
 ·rintro⟨rfl,rfl,rfl⟩;exact⟨⟨rfl,rfl⟩,rfl⟩
 rintro⟨⟨rfl,rfl⟩,rfl⟩;exact⟨rfl,rfl,rfl⟩
theorem Dw (n:Bool)(A:Option Addr)(t:List Nat)(c:Nat)(A':Option Addr)(u:List Nat)(c':Nat)(w:World)(h1:IsRes w (.slice A t.length c) t)(h2:IsRes w (.slice A' u.length c') u)(o1:Nt.Ok t)(o2:Nt.Ok u):
 Calls Tryz.prog 148 #[.agg #[.bool n,.slice A t.length c,.slice A' u.length c']] w λe w'=>e= .returned (.bool (Rt.right ⟨n,t,u⟩))∧Below w.heap.size w w':=by
 obtain⟨W,hW⟩:∃W,W=w.alloc (.cells #[.bool n,.slice A t.length c,.slice A' u.length c'] 24):=⟨_,rfl⟩;have hWs:W.heap.size=w.heap.size+1:=by rw[hW];simp
 have hWb:Below w.heap.size w W:=by rw[hW];exact(Below.refl _ _).alloc (Nat.le_refl _) _
 have hW0:W.heap[w.heap.size]? =some (.cells #[.bool n,.slice A t.length c,.slice A' u.length c'] 24 (0,0)):=by rw[hW];exact heap_alloc_new _ _
 have HW:=Qd hW;have HW0:=Qd hW0;have HR1:=Qd h1;have HR2:=Qd h2;clear hW hW0;by_cases k1:32<t.length
 ·clear h1 h2
  go_enter Tryz.func148,Tryz.ntmps148
  go_wp2_with fail
  go_ret;exact⟨Aa (by unfold Rt.right;rw[show decide (t.length≤32)=false from decide_eq_false (by omega)];rfl),by rw[HW.out] at hWb;exact hWb⟩
 by_cases k2:32<u.length
 ·clear h1 h2
  go_enter Tryz.func148,Tryz.ntmps148
  go_wp2_with fail
  go_ret;exact⟨Aa (by unfold Rt.right;rw[show decide (u.length≤32)=false from decide_eq_false (by omega)];simp),by rw[HW.out] at hWb;exact hWb⟩
 have q1:ResL w (.slice A t.length c) t:=⟨h1,o1,by omega⟩;have q2:ResL w (.slice A' u.length c') u:=⟨h2,o2,by omega⟩;have TP:=Qd (λ(wx:World) (hx:Below W.heap.size W wx)=>W6 n _ _ _ _ wx ((q1.below hWb).below hx) ((q2.below hWb).below hx));have BT:=Qd (λ(wx:World) (hx:Below W.heap.size W wx)=>X6 n _ _ _ _ wx ((q1.below hWb).below hx) ((q2.below hWb).below hx));have hd1:decide ((32:Int)<(t.length:Int))=false:=decide_eq_false (by omega);have hd2:decide ((32:Int)<(u.length:Int))=false:=decide_eq_false (by omega);have hWl:w.heap.size<W.heap.size:=by omega
 have HRT:Hid (Rt.right ⟨n,t,u⟩=(((Rt.mk n false (Nt.val t) (Nt.val u)).2==0)&&Vc n (Rt.mk n false (Nt.val t) (Nt.val u)).1.neg t (Rt.mk n false (Nt.val t) (Nt.val u)).1.top u (Rt.mk n false (Nt.val t) (Nt.val u)).1.bot)):=Qd (Cw n t u (by omega) (by omega));have hMK:Rt.mk (Rt.nrm n (Nt.val t)) (Rt.nrm false (Nt.val u)) (Nt.val (Nt.digs (Nt.val t))) (Nt.val (Nt.digs (Nt.val u)))=Rt.mk n false (Nt.val t) (Nt.val u):=by rw[Nt.val_digs,Nt.val_digs,Rt.mk_nrm]
 generalize Rt.right ⟨n,t,u⟩=RT at*;generalize Rt.mk n false (Nt.val t) (Nt.val u)=R at*;have HMK:=Qd hMK;clear hMK;clear h1 h2 q1 q2 hWs;go_enter Tryz.func148,Tryz.ntmps148
 go_wp2_with fail
 rw[←HW.out];refine wp_region_any (by kernel_rfl) ?_;refine Ef (Hba W w.heap.size #[.bool n,.slice A t.length c,.slice A' u.length c'] A t.length c A' u.length c' (Rt.nrm n (Nt.val t)) (Rt.nrm false (Nt.val u)) (Nt.digs (Nt.val t)) (Nt.digs (Nt.val u)) R) ?_ ?_ 11 _ _ _ (by decide) ⟨false,false,false,false,false,false,false,false,false,false,false,undef,undef,undef,undef,undef,undef,undef,undef,undef,undef,rfl,rfl,⟨⟨rfl,rfl,rfl,Nat.le_refl _,λ_ _=>rfl⟩,nofun,nofun,nofun,nofun,nofun,nofun,nofun,nofun,nofun,nofun,nofun⟩⟩
 ·rintro _ _ wx ⟨b0,b1,b2,b3,b4,b5,b6,b7,b8,b9,b10,x16,x17,x18,x19,x20,x15,x21,x22,x3,x4,rfl,rfl,hJ⟩ i hi
  obtain⟨h8,hl,ha⟩:=Fe hi;have h8':i<11:=h8;clear h8 hi;have hsz:=hJ.below.size;rcases(show i=0∨i=1∨i=2∨i=3∨i=4∨i=5∨i=6∨i=7∨i=8∨i=9∨i=10 by omega) with rfl |rfl |rfl |rfl |rfl |rfl |rfl |rfl |rfl |rfl |rfl
  ·refine Ba rfl rfl ?_
   refine wp_load_row 24 (.tmp 1) rfl w.heap.size rfl 24 #[.bool n,.slice A t.length c,.slice A' u.length c'] (0,0) _ ((hJ.below.block w.heap.size hWl).trans HW0.out) Tryz.underlying24 rfl Af ?_;exact⟨true,b1,b2,b3,b4,b5,b6,b7,b8,b9,b10,_,x17,x18,x19,x20,x15,x21,x22,x3,x4,rfl,rfl,{hJ with v16:=λ_=>rfl}⟩
  ·have h0:b0=true:=by simpa [Region.binds] using ha
   subst h0;obtain rfl:=hJ.v16 rfl;refine Ba rfl rfl ?_;unfold Xe Oper.wp;go_simp
   refine((TP.out _ hJ.below).mono ?_);rintro e w2 ⟨v3,rfl,hr3,hb2⟩;exact⟨true,true,b2,b3,b4,b5,b6,b7,b8,b9,b10,_,_,x18,x19,x20,x15,x21,x22,x3,x4,rfl,rfl,{hJ with
    below:=hJ.below.trans (hb2.mono hsz)
    v17:=λ_=>⟨v3,rfl,hr3⟩
    v19:=λh=>(hJ.v19 h).below hb2
    v20:=λh=>(hJ.v20 h).below hb2
    v15:=λh=>(hJ.v15 h).below hb2
    v21:=λh=>(hJ.v21 h).below hb2
    v3:=λh=>(hJ.v3 h).below hb2}⟩
  ·refine Ba rfl rfl ?_
   refine wp_load_row 24 (.tmp 1) rfl w.heap.size rfl 24 #[.bool n,.slice A t.length c,.slice A' u.length c'] (0,0) _ ((hJ.below.block w.heap.size hWl).trans HW0.out) Tryz.underlying24 rfl Af ?_;exact⟨b0,b1,true,b3,b4,b5,b6,b7,b8,b9,b10,x16,x17,_,x19,x20,x15,x21,x22,x3,x4,rfl,rfl,{hJ with v18:=λ_=>rfl}⟩
  ·have h0:b2=true∧b1=true:=by simpa [Region.binds] using ha
   obtain⟨rfl,rfl⟩:=h0;obtain rfl:=hJ.v18 rfl;refine Ba rfl rfl ?_;unfold Xe Oper.wp;go_simp
   refine((BT.out _ hJ.below).mono ?_);rintro e w2 ⟨v3,rfl,hr3,hb2⟩;exact⟨b0,true,true,true,b4,b5,b6,b7,b8,b9,b10,x16,x17,_,_,x20,x15,x21,x22,x3,x4,rfl,rfl,{hJ with
    below:=hJ.below.trans (hb2.mono hsz)
    v19:=λ_=>⟨v3,rfl,hr3⟩
    v17:=λh=>(hJ.v17 h).below hb2
    v20:=λh=>(hJ.v20 h).below hb2
    v15:=λh=>(hJ.v15 h).below hb2
    v21:=λh=>(hJ.v21 h).below hb2
    v3:=λh=>(hJ.v3 h).below hb2}⟩
  ·have h0:b1=true∧b3=true:=by simpa [Region.binds] using ha
   obtain⟨rfl,rfl⟩:=h0;obtain⟨v1,rfl,r1⟩:=hJ.v17 rfl;obtain⟨v2,rfl,r2⟩:=hJ.v19 rfl;have MK:=Q1 (Rt.nrm n (Nt.val t)) (Rt.nrm false (Nt.val u)) v1 v2 _ _ wx r1 r2;rw[HMK.out] at MK;refine Ba rfl rfl ?_;unfold Xe Oper.wp;go_simp
   refine(MK.mono ?_);rintro e w2 ⟨t1,u1,rfl,k1,k2,hb2⟩;exact⟨b0,true,b2,true,true,b5,b6,b7,b8,b9,b10,x16,_,x18,_,_,x15,x21,x22,x3,x4,rfl,rfl,{hJ with
    below:=hJ.below.trans (hb2.mono hsz)
    v20:=λ_=>⟨t1,u1,rfl,k1,k2⟩
    v17:=λh=>(hJ.v17 h).below hb2
    v19:=λh=>(hJ.v19 h).below hb2
    v15:=λh=>(hJ.v15 h).below hb2
    v21:=λh=>(hJ.v21 h).below hb2
    v3:=λh=>(hJ.v3 h).below hb2}⟩
  ·have h0:b4=true:=by simpa [Region.binds] using ha
   subst h0;have hv:=hJ.v20 rfl;refine Ba rfl rfl ?_;unfold Xe Oper.wp;go_simp
   exact⟨b0,b1,b2,b3,true,true,b6,b7,b8,b9,b10,x16,x17,x18,x19,x20,_,x21,x22,x3,x4,rfl,rfl,{hJ with v15:=λ_=>hv}⟩
  ·have h0:b5=true:=by simpa [Region.binds] using ha
   subst h0;obtain⟨t1,u1,rfl,k1,k2⟩:=hJ.v15 rfl;refine Ba rfl rfl ?_;unfold Xe Oper.wp;go_simp
   exact⟨b0,b1,b2,b3,b4,true,true,b7,b8,b9,b10,x16,x17,x18,x19,x20,_,_,x22,x3,x4,rfl,rfl,{hJ with v21:=λ_=>⟨t1,u1,rfl,k1,k2⟩}⟩
  ·have h0:b5=true:=by simpa [Region.binds] using ha
   subst h0;obtain⟨t1,u1,rfl,k1,k2⟩:=hJ.v15 rfl;refine Ba rfl rfl ?_;unfold Xe Oper.wp;go_simp
   exact⟨b0,b1,b2,b3,b4,true,b6,true,b8,b9,b10,x16,x17,x18,x19,x20,_,x21,_,x3,x4,rfl,rfl,{hJ with v22:=λ_=>rfl}⟩
  ·have hb8:b8=false:=hl
   subst hb8;have hb9:b9=false:=by
    cases b9
    ·rfl
    exact absurd (hJ.o9 rfl) (by decide)
   subst hb9;refine Ba rfl rfl ?_;unfold Xe Oper.wp;go_simp
   have hba:Below wx.heap.size wx (wx.alloc (.cells #[.bool false,.slice none 0 0,.slice none 0 0] 24)):=(Below.refl _ _).alloc (Nat.le_refl _) _;exact⟨b0,b1,b2,b3,b4,b5,b6,b7,true,false,b10,x16,x17,x18,x19,x20,x15,x21,x22,_,x4,rfl,rfl,{hJ with
    below:=hJ.below.alloc hsz _
    v3:=λ_=>⟨wx.heap.size,false,none,0,0,none,0,0,rfl,hsz,heap_alloc_new _ _,nofun⟩
    v17:=λh=>(hJ.v17 h).below hba
    v19:=λh=>(hJ.v19 h).below hba
    v20:=λh=>(hJ.v20 h).below hba
    v15:=λh=>(hJ.v15 h).below hba
    v21:=λh=>(hJ.v21 h).below hba
    o9:=nofun}⟩
  ·simp[Region.binds] at ha
   obtain⟨rfl,rfl,rfl,rfl,rfl,rfl,rfl,-,rfl,-,-⟩:=ha;have hb9:b9=false:=hl;subst hb9;obtain⟨g,b,A3,k3,c3,A4,k4,c4,rfl,q1,q2,q3⟩:=hJ.v3 rfl;obtain⟨t1,u1,rfl,r1,r2⟩:=hJ.v21 rfl;have s17:=(hJ.v17 rfl).setRow q2 (Ia _ _ _ _ _ _ _) #[.bool R.1.neg,t1,u1];have s19:=(hJ.v19 rfl).setRow q2 (Ia _ _ _ _ _ _ _) #[.bool R.1.neg,t1,u1];have s20:=(hJ.v20 rfl).setRow q2 (Ia _ _ _ _ _ _ _) #[.bool R.1.neg,t1,u1];have s15:=(hJ.v15 rfl).setRow q2 (Ia _ _ _ _ _ _ _) #[.bool R.1.neg,t1,u1];have s21:=(hJ.v21 rfl).setRow q2 (Ia _ _ _ _ _ _ _) #[.bool R.1.neg,t1,u1];have r1':=r1.setRow q2 (Ia _ _ _ _ _ _ _) #[.bool R.1.neg,t1,u1];have r2':=r2.setRow q2 (Ia _ _ _ _ _ _ _) #[.bool R.1.neg,t1,u1];obtain⟨A5,c5,rfl,-⟩:=r1;obtain⟨A6,c6,rfl,-⟩:=r2;refine Ba rfl rfl ?_;refine wp_store_row 24 (.tmp 3) (.tmp 21) rfl g #[.bool R.1.neg,.slice A5 R.1.top.length c5,.slice A6 R.1.bot.length c6] rfl rfl 24 _ q2 Af rfl (Sa _ _ _ _ _ _ _) ?_;exact⟨true,true,true,true,true,true,true,b7,true,true,b10,x16,x17,x18,x19,x20,x15,_,x22,_,x4,rfl,rfl,{hJ with
    below:=rBelow.setRow hJ.below q1 _
    v17:=λ_=>s17
    v19:=λ_=>s19
    v20:=λ_=>s20
    v15:=λ_=>s15
    v21:=λ_=>s21
    v3:=λ_=>⟨g,_,_,_,_,_,_,_,rfl,q1,Ha q2,λ_=>⟨rfl,r1',r2'⟩⟩
    o9:=λ_=>rfl}⟩
  simp[Region.binds] at ha;have h7:b7=true:=ha.1;subst h7;clear ha;have hv:=hJ.v22 rfl;refine Ba rfl rfl ?_;unfold Xe Oper.wp;go_simp
  exact⟨b0,b1,b2,b3,b4,b5,b6,true,b8,b9,true,x16,x17,x18,x19,x20,x15,x21,x22,x3,_,rfl,rfl,{hJ with v4:=λ_=>hv}⟩
 rintro _ _ wx ⟨b0,b1,b2,b3,b4,b5,b6,b7,b8,b9,b10,x16,x17,x18,x19,x20,x15,x21,x22,x3,x4,rfl,rfl,hJ⟩ hr;have e0:b0=true:=Mb hr 0 (by decide) (by simp[Region.binds]);subst e0;have e1:b1=true:=Mb hr 1 (by decide) (by simp[Region.binds]);subst e1;have e2:b2=true:=Mb hr 2 (by decide) (by simp[Region.binds]);subst e2;have e3:b3=true:=Mb hr 3 (by decide) (by simp[Region.binds]);subst e3;have e4:b4=true:=Mb hr 4 (by decide) (by simp[Region.binds]);subst e4;have e5:b5=true:=Mb hr 5 (by decide) (by simp[Region.binds]);subst e5;have e6:b6=true:=Mb hr 6 (by decide) (by simp[Region.binds]);subst e6;have e7:b7=true:=Mb hr 7 (by decide) (by simp[Region.binds]);subst e7;have e8:b8=true:=Mb hr 8 (by decide) (by simp[Region.binds]);subst e8;have e9:b9=true:=Mb hr 9 (by decide) (by simp[Region.binds]);subst e9;have e10:b10=true:=Mb hr 10 (by decide) (by simp[Region.binds]);subst e10;clear hr;obtain⟨g,b,A3,k3,c3,A4,k4,c4,rfl,q1,q2,q3⟩:=hJ.v3 rfl;obtain⟨hbe,r1,r2⟩:=q3 rfl;subst hbe;obtain⟨⟨b,l,l'⟩,er⟩:=R;dsimp only at r1 r2 HRT;obtain rfl:=hJ.v4 rfl;have hxb:=hJ.below;have hxs:=hxb.size;have hxw:=hWb.trans (hxb.mono (by omega));have hw0:=(hxb.block w.heap.size hWl).trans HW0.out;have hgl:=Cc q2;have i1:k3=l.length:=by obtain⟨_,_,e,_⟩:=r1;injection e
 have i2:k4=l'.length:=by obtain⟨_,_,e,_⟩:=r2;injection e
 subst i1 i2;have p0:wx.cell? ⟨g,0,none⟩=some (.bool b):=(cell_of_row wx g 0 _ _ _ q2).trans rfl;have p1:wx.cell? ⟨g,1,none⟩=some (.slice A3 l.length c3):=(cell_of_row wx g 1 _ _ _ q2).trans rfl;have p2:wx.cell? ⟨g,2,none⟩=some (.slice A4 l'.length c4):=(cell_of_row wx g 2 _ _ _ q2).trans rfl;have z0:wx.cell? ⟨w.heap.size,0,none⟩=some (.bool n):=(cell_of_row wx w.heap.size 0 _ _ _ hw0).trans rfl;have z1:wx.cell? ⟨w.heap.size,1,none⟩=some (.slice A t.length c):=(cell_of_row wx w.heap.size 1 _ _ _ hw0).trans rfl;have z2:wx.cell? ⟨w.heap.size,2,none⟩=some (.slice A' u.length c'):=(cell_of_row wx w.heap.size 2 _ _ _ hw0).trans rfl;have SM:Hid (Calls Tryz.prog 30 #[.agg #[.bool n,.slice A t.length c,.slice A' u.length c'],.agg #[.bool b,.slice A3 l.length c3,.slice A4 l'.length c4]] wx λe w'=>e= .returned (.bool (Vc n b t l u l'))∧Below wx.heap.size wx w'):=Qd (by
  obtain⟨_,_,e,y1,y2,y3,y4⟩:=HR1.out;injection e with e1 e2 e3
  subst e1 e3;obtain⟨_,_,e,y5,y6,y7,y8⟩:=HR2.out;injection e with e1 e2 e3
  subst e1 e3;obtain⟨_,_,e,x1,x2,x3,x4⟩:=r1;injection e with e1 e2 e3
  subst e1 e3;obtain⟨_,_,e,x5,x6,x7,x8⟩:=r2;injection e with e1 e2 e3
  subst e1 e3;exact Dh n b t l u l' A A' A3 A4 c c' c3 c4 wx wx.heap.size ((y4.below hxw).more hxw.size) x4 ((y8.below hxw).more hxw.size) x8 (Nat.le_refl _) (by omega) (by omega) (by omega) (by omega))
 generalize Vc n b t l u l'=SN at SM HRT;clear hJ q2 q3 r1 r2 hw0;unfold Xe;cases he:(er==0)
 ·rw[he] at HRT
  go_wp2_with fail
  go_ret;exact⟨Aa (by rw[HRT.out];rfl),hxw⟩
 rw[he] at HRT;go_wp2_with fail
 refine SM.out.mono ?_;rintro e w2 ⟨rfl,hb2⟩;go_wp2_with fail
 go_ret;exact⟨Aa (by rw[HRT.out];rfl),hxw.trans (hb2.mono hxw.size)⟩
end
end Go.Proofs.YtceplkpjnebnfaaGreatDoor
namespace Pr
open Tr Tk
abbrev Res (α:Type):=Option (Option (α×List Tok))
def bnd {α β:Type}(x:Res α)(k:α→List Tok→Res β):Res β:=
 match x with
 |none=>none
 |some none=>some none
 |some (some (a,T))=>k a T
def fail {α:Type}:Res α:=some none
def ret {α:Type}(a:α)(T:List Tok):Res α:=some (some (a,T))
def kd (T:List Tok)(n:Nat):Int:=match T[n]? with
 |none=> -1
 |some t=>t.kind
def gl (T:List Tok)(n:Nat):Int:=if kd T n=7 then(T.getD n Tk.none_).c else 0
def node (k o:Int)(m:List UInt8)(l:List Da):Da:= .mk k o m Rt.none_ [] l
def begA (T:List Tok):Bool:=
 (kd T 0==0)||(kd T 0==1)||(kd T 0==2)||(kd T 0==4)||(kd T 0==5)||(gl T 0==9082)||(gl T 0==9077)||(gl T 0==40)
def begP (T:List Tok):Bool:=(kd T 0==3)||(kd T 0==6)||(gl T 0==8711)||(gl T 0==123)||Tr.glyph (gl T 0)
def begF (T:List Tok):Bool:=begP T||(gl T 0==8728)
def target (a:Da):Bool:=(kind a==3)||(kind a==6)||((kind a==9)&&(((Be a).map kind).getD 0 0==3))
def nameAt (l:List Da):List UInt8:=(l.map Zb).getD 0 []
def set (a e:Da):Da:=
 if kind a=3 then node 13 0 (Zb a) [e] else if kind a=6 then node 16 (op a) [] [e] else node 14 0 (nameAt (Be a)) (e::(Be a).tail)
def strandT:List Da→Da
 | [a]=>a
 |l=>node 8 0 [] l
def leaf (t:Tok):Option Da:=
 if t.kind=0 then some (.mk 1 0 [] t.n [] []) else if t.kind=1 then some (.mk 2 0 [] Rt.none_ t.l []) else if t.kind=2 then some (node 3 0 t.s []) else if t.kind=4 then some (node 6 t.c [] [])
 else if t.kind=5 then some (node 7 t.c [] []) else if t.c=9082 then some (node 4 0 [] []) else if t.c=9077 then some (node 5 0 [] []) else none
def fleaf (t:Tok):Option Da:=
 if t.kind=3 then some (node 18 0 t.s []) else if t.kind=6 then some (node 21 t.c [] []) else if t.c=8711 then some (node 19 0 [] []) else if t.c=123 then none else some (node 17 t.c [] [])
mutual
def stmts:Nat→Bool→List Tok→Res (List Da)
 | 0,_,_=>none
 |f+1,b,T=>bnd (stmt f b T) λe U=>if gl U 0=8900 then bnd (stmts f b U.tail) λl V=>ret (e::l) V else ret [e] U
def stmt:Nat→Bool→List Tok→Res Da
 | 0,_,_=>none
 |f+1,b,T=>
  if kd T 0=3∧gl T 1=8592 then bnd (func f (T.drop 2)) λg U=>ret (node 27 0 (T.getD 0 Tk.none_).s [g]) U
  else bnd (expr f T) λe U=>
   if b=true∧gl U 0=58 then
    if gl U.tail 0=58 then bnd (expr f U.tail.tail) λe2 V=>ret (node 26 0 [] [e,e2]) V
    else bnd (expr f U.tail) λe2 V=>ret (node 25 0 [] [e,e2]) V
   else ret e U
def expr:Nat→List Tok→Res Da
 | 0,_=>none
 |f+1,T=>if begA T=true then behind f T else bnd (func f T) λg U=>bnd (expr f U) λe V=>ret (node 11 0 [] [g,e]) V
def behind:Nat→List Tok→Res Da
 | 0,_=>none
 |f+1,T=>bnd (arrs f T) λl U=>
  if target (strandT l)=true∧gl U 0=8592 then bnd (expr f U.tail) λe V=>ret (set (strandT l) e) V
  else if begF U=true then bnd (func f U) λg V=>
   if kind (strandT l)=3∧gl V 0=8592 then bnd (expr f V.tail) λe X=>ret (node 15 0 (Zb (strandT l)) [g,e]) X
   else bnd (expr f V) λe X=>ret (node 12 0 [] [strandT l,g,e]) X
  else ret (strandT l) U
def arrs:Nat→List Tok→Res (List Da)
 | 0,_=>none
 |f+1,T=>if begA T=true then bnd (arr f T) λa U=>bnd (arrs f U) λl V=>ret (a::l) V else ret [] T
def arr:Nat→List Tok→Res Da
 | 0,_=>none
 |f+1,T=>bnd (alone f T) λa U=>more f a U
def more:Nat→Da→List Tok→Res Da
 | 0,_,_=>none
 |f+1,a,T=>if gl T 0=91 then bnd (places f T.tail) λl U=>if gl U 0=93 then more f (node 9 0 [] (a::l)) U.tail else fail else ret a T
def places:Nat→List Tok→Res (List Da)
 | 0,_=>none
 |f+1,T=>bnd (if gl T 0=59∨gl T 0=93 then ret (node 10 0 [] []) T else expr f T) λp U=>if gl U 0=59 then bnd (places f U.tail) λl V=>ret (p::l) V else ret [p] U
def alone:Nat→List Tok→Res Da
 | 0,_=>none
 |f+1,T=>if begA T=true then
  match leaf (T.getD 0 Tk.none_) with
  |some e=>ret e T.tail
  |none=>bnd (expr f T.tail) λe U=>if gl U 0=41 then ret e U.tail else fail
  else fail
def func:Nat→List Tok→Res Da
 | 0,_=>none
 |f+1,T=>if gl T 0=8728 then if gl T.tail 0=46 then bnd (plain f T.tail.tail) λg U=>ops f (node 24 0 [] [g]) U else fail else bnd (plain f T) λg U=>ops f g U
def ops:Nat→Da→List Tok→Res Da
 | 0,_,_=>none
 |f+1,g,T=>if monops.contains (gl T 0)=true then ops f (node 22 (gl T 0) [] [g]) T.tail
  else if dyops.contains (gl T 0)=true then bnd (if gl T 0=9060∨(gl T 0=9059∧begA T.tail=true) then arr f T.tail else plain f T.tail) λk U=>ops f (node 23 (gl T 0) [] [g,k]) U
  else ret g T
def plain:Nat→List Tok→Res Da
 | 0,_=>none
 |f+1,T=>if begP T=true then
  match fleaf (T.getD 0 Tk.none_) with
  |some e=>ret e T.tail
  |none=>bnd (stmts f true T.tail) λl U=>if gl U 0=125 then ret (node 20 0 [] l) U.tail else fail
  else fail
end
def Le {α:Type}(x y:Res α):Prop:=∀r,x=some r→y=some r
theorem Le.refl {α:Type}(x:Res α):Le x x:=λ_ h=>h
theorem Le.none_ {α:Type}(y:Res α):Le (none:Res α) y:=λ_ h=>by cases h
theorem Le.bnd {α β:Type}{x y:Res α}{k k':α→List Tok→Res β}(h:Le x y)(hk:∀a T,Le (k a T) (k' a T)):Le (bnd x k) (bnd y k'):=by
 intro r hr;cases x with
 |none=>cases hr
 |some x=>
  rw[h x rfl];cases x with
  |none=>exact hr
  |some p=>exact hk _ _ r hr
theorem Le.ite {α:Type}{c:Prop}[Decidable c]{x y x' y':Res α}(h:Le x x')(h':Le y y'):Le (if c then x else y) (if c then x' else y'):=by
 by_cases hc:c
 ·rw[if_pos hc,if_pos hc];exact h
 rw[if_neg hc,if_neg hc];exact h'
structure Iba (f:Nat):Prop where
 stmts:∀b T,Le (stmts f b T) (stmts (f+1) b T)
 stmt:∀b T,Le (stmt f b T) (stmt (f+1) b T)
 expr:∀T,Le (expr f T) (expr (f+1) T)
 behind:∀T,Le (behind f T) (behind (f+1) T)
 arrs:∀T,Le (arrs f T) (arrs (f+1) T)
 arr:∀T,Le (arr f T) (arr (f+1) T)
 more:∀a T,Le (more f a T) (more (f+1) a T)
 places:∀T,Le (places f T) (places (f+1) T)
 alone:∀T,Le (alone f T) (alone (f+1) T)
 func:∀T,Le (func f T) (func (f+1) T)
 ops:∀g T,Le (ops f g T) (ops (f+1) g T)
 plain:∀T,Le (plain f T) (plain (f+1) T)
theorem mono:∀f,Iba f
 | 0=>⟨λ_ _=>Le.none_ _,λ_ _=>Le.none_ _,λ_=>Le.none_ _,λ_=>Le.none_ _,λ_=>Le.none_ _,λ_=>Le.none_ _,λ_ _=>Le.none_ _,λ_=>Le.none_ _,λ_=>Le.none_ _,λ_=>Le.none_ _,λ_ _=>Le.none_ _,λ_=>Le.none_ _⟩
 |f+1=>by
  have h:=mono f
  constructor
  ·intro b T
   rw[Pr.stmts,Pr.stmts.eq_2 b T (f+1)];exact(h.stmt b T).bnd λe U=>Le.ite ((h.stmts b _).bnd λ_ _=>Le.refl _) (Le.refl _)
  ·intro b T
   rw[Pr.stmt,Pr.stmt.eq_2 b T (f+1)];exact Le.ite ((h.func _).bnd λ_ _=>Le.refl _) ((h.expr T).bnd λe U=>Le.ite (Le.ite ((h.expr _).bnd λ_ _=>Le.refl _) ((h.expr _).bnd λ_ _=>Le.refl _)) (Le.refl _))
  ·intro T
   rw[Pr.expr,Pr.expr.eq_2 T (f+1)];exact Le.ite (h.behind T) ((h.func T).bnd λ_ _=>(h.expr _).bnd λ_ _=>Le.refl _)
  ·intro T
   rw[Pr.behind,Pr.behind.eq_2 T (f+1)];exact(h.arrs T).bnd λl U=>Le.ite ((h.expr _).bnd λ_ _=>Le.refl _) (Le.ite ((h.func U).bnd λ_ _=>Le.ite ((h.expr _).bnd λ_ _=>Le.refl _) ((h.expr _).bnd λ_ _=>Le.refl _)) (Le.refl _))
  ·intro T
   rw[Pr.arrs,Pr.arrs.eq_2 T (f+1)];exact Le.ite ((h.arr T).bnd λ_ _=>(h.arrs _).bnd λ_ _=>Le.refl _) (Le.refl _)
  ·intro T
   rw[Pr.arr,Pr.arr.eq_2 T (f+1)];exact(h.alone T).bnd λ_ _=>h.more _ _
  ·intro a T
   rw[Pr.more,Pr.more.eq_2 a T (f+1)];exact Le.ite ((h.places _).bnd λ_ _=>Le.ite (h.more _ _) (Le.refl _)) (Le.refl _)
  ·intro T
   rw[Pr.places,Pr.places.eq_2 T (f+1)];exact(Le.ite (Le.refl _) (h.expr T)).bnd λ_ _=>Le.ite ((h.places _).bnd λ_ _=>Le.refl _) (Le.refl _)
  ·intro T
   rw[Pr.alone,Pr.alone.eq_2 T (f+1)];refine Le.ite ?_ (Le.refl _);cases leaf (T.getD 0 Tk.none_) with
   |some e=>exact Le.refl _
   |none=>exact(h.expr _).bnd λ_ _=>Le.refl _
  ·intro T
   rw[Pr.func,Pr.func.eq_2 T (f+1)];exact Le.ite (Le.ite ((h.plain _).bnd λ_ _=>h.ops _ _) (Le.refl _)) ((h.plain _).bnd λ_ _=>h.ops _ _)
  ·intro g T
   rw[Pr.ops,Pr.ops.eq_2 g T (f+1)];exact Le.ite (h.ops _ _) (Le.ite ((Le.ite (h.arr _) (h.plain _)).bnd λ_ _=>h.ops _ _) (Le.refl _))
  intro T;rw[Pr.plain,Pr.plain.eq_2 T (f+1)];refine Le.ite ?_ (Le.refl _);cases fleaf (T.getD 0 Tk.none_) with
  |some e=>exact Le.refl _
  |none=>exact(h.stmts _ _).bnd λ_ _=>Le.refl _
end Pr
namespace Pr
open Tr Tk
theorem Py {T:List Tok}{n:Nat}(h:T.length≤n):gl T n=0:=by
 unfold gl kd;rw[List.getElem?_eq_none h];rfl
theorem gl_ne {T:List Tok}{n:Nat}(h:gl T n≠0):n<T.length:=by
 rcases Nat.lt_or_ge n T.length with h1 |h1
 ·exact h1
 exact absurd (Py h1) h
theorem begA_ne {T:List Tok}(h:begA T=true):0<T.length:=by
 cases T with
 |nil=>exact absurd h (by decide)
 |cons _ _=>simp
theorem begP_ne {T:List Tok}(h:begP T=true):0<T.length:=by
 cases T with
 |nil=>exact absurd h (by decide)
 |cons _ _=>simp
theorem Qy {T:List Tok}(h:monops.contains (gl T 0)=true):0<T.length:=gl_ne (λe=>by rw[e] at h;exact absurd h (by decide))
theorem I6 {T:List Tok}(h:dyops.contains (gl T 0)=true):0<T.length:=gl_ne (λe=>by rw[e] at h;exact absurd h (by decide))
def Suf {α:Type}(x:Res α)(n:Nat):Prop:=∃o,x=some o∧∀a U,o=some (a,U)→U.length≤n
theorem Suf.ret {α:Type}{a:α}{T:List Tok}{n:Nat}(h:T.length≤n):Suf (ret a T) n:=⟨_,rfl,λ_ _ e=>by injection e with e;injection e with _ e;subst e;exact h⟩
theorem Suf.fail {α:Type}{n:Nat}:Suf (fail:Res α) n:=⟨_,rfl,λ_ _ e=>by cases e⟩
theorem Suf.bnd {α β:Type}{x:Res α}{k:α→List Tok→Res β}{n m:Nat}(h:Suf x n)(hk:∀a U,U.length≤n→Suf (k a U) m):Suf (bnd x k) m:=by
 obtain⟨o,rfl,h⟩:=h;cases o with
 |none=>exact Suf.fail
 |some p=>exact hk p.1 p.2 (h _ _ rfl)
theorem Suf.ite {α:Type}{c:Prop}[Decidable c]{x y:Res α}{n:Nat}(h:c→Suf x n)(h':¬c→Suf y n):Suf (if c then x else y) n:=by
 by_cases hc:c
 ·rw[if_pos hc];exact h hc
 rw[if_neg hc];exact h' hc
theorem Suf.mono {α:Type}{x:Res α}{n m:Nat}(h:Suf x n)(hm:n≤m):Suf x m:=by
 obtain⟨o,e,h⟩:=h;exact⟨o,e,λa U e=>Nat.le_trans (h a U e) hm⟩
structure I9 (f:Nat):Prop where
 stmts:∀b T,16*T.length+7≤f→Suf (stmts f b T) T.length
 stmt:∀b T,16*T.length+6≤f→Suf (stmt f b T) T.length
 expr:∀T,16*T.length+5≤f→Suf (expr f T) T.length
 behind:∀T,16*T.length+4≤f→Suf (behind f T) T.length
 arrs:∀T,16*T.length+3≤f→Suf (arrs f T) T.length
 arr:∀T,16*T.length+2≤f→Suf (arr f T) (T.length-1)
 more:∀a T,16*T.length≤f→1≤f→Suf (more f a T) T.length
 places:∀T,16*T.length+6≤f→Suf (places f T) T.length
 alone:∀T,16*T.length≤f→1≤f→Suf (alone f T) (T.length-1)
 func:∀T,16*T.length+2≤f→Suf (func f T) (T.length-1)
 ops:∀g T,16*T.length≤f→1≤f→Suf (ops f g T) T.length
 plain:∀T,16*T.length≤f→1≤f→Suf (plain f T) (T.length-1)
theorem Ry:∀f,I9 f
 | 0=>⟨λ_ _ h=>by omega,λ_ _ h=>by omega,λ_ h=>by omega,λ_ h=>by omega,λ_ h=>by omega,λ_ h=>by omega,λ_ _ _ h=>by omega,λ_ h=>by omega,λ_ _ h=>by omega,λ_ h=>by omega,λ_ _ _ h=>by omega,λ_ _ h=>by omega⟩
 |f+1=>by
  have h:=Ry f
  constructor
  ·intro b T hf
   rw[Pr.stmts];refine(h.stmt b T (by omega)).bnd λe U hU=>Suf.ite (λhc=>?_) (λ_=>Suf.ret (by omega));have:=gl_ne (T:=U) (n:=0) (by rw[hc];decide);exact(h.stmts b _ (by rw[List.length_tail];omega)).bnd λ_ _ hV=>Suf.ret (by rw[List.length_tail] at hV;omega)
  ·intro b T hf
   rw[Pr.stmt];refine Suf.ite (λhc=>?_) (λ_=>(h.expr T (by omega)).bnd λe U hU=>Suf.ite (λhc=>Suf.ite (λhc2=>?_) (λ_=>?_)) (λ_=>Suf.ret (by omega)))
   ·have:=gl_ne (T:=T) (n:=1) (by rw[hc.2];decide)
    exact(h.func _ (by rw[List.length_drop];omega)).bnd λ_ _ hV=>Suf.ret (by rw[List.length_drop] at hV;omega)
   ·have:=gl_ne (T:=U) (n:=0) (by rw[hc.2];decide)
    exact(h.expr _ (by rw[List.length_tail,List.length_tail];omega)).bnd λ_ _ hV=>Suf.ret (by rw[List.length_tail,List.length_tail] at hV;omega)
   have:=gl_ne (T:=U) (n:=0) (by rw[hc.2];decide);exact(h.expr _ (by rw[List.length_tail];omega)).bnd λ_ _ hV=>Suf.ret (by rw[List.length_tail] at hV;omega)
  ·intro T hf
   rw[Pr.expr];refine Suf.ite (λ_=>h.behind T (by omega)) (λ_=>?_);by_cases hT:0<T.length
   ·exact(h.func T (by omega)).bnd λ_ U hU=>(h.expr _ (by omega)).bnd λ_ _ hV=>Suf.ret (by omega)
   have e:T=[]:=List.eq_nil_of_length_eq_zero (by omega);subst e;refine(h.func [] (by omega)).bnd λ_ U hU=>?_;have e:U=[]:=List.eq_nil_of_length_eq_zero (by simpa using hU);subst e;cases f with
   |zero=>simp at hf
   |succ f=>
    rw[Pr.expr,if_neg (by decide)];refine Suf.bnd (n:=0) ?_ (λ_ _ hV=>Suf.ret (by omega));cases f with
    |zero=>simp at hf
    |succ f=>
     rw[Pr.func,if_neg (by decide)];cases f with
     |zero=>simp at hf
     |succ f=>rw[Pr.plain,if_neg (by decide)];exact Suf.fail
  ·intro T hf
   rw[Pr.behind];refine(h.arrs T (by omega)).bnd λl U hU=>Suf.ite (λhc=>?_) (λ_=>Suf.ite (λhF=>?_) (λ_=>Suf.ret (by omega)))
   ·have:=gl_ne (T:=U) (n:=0) (by rw[hc.2];decide)
    exact(h.expr _ (by rw[List.length_tail];omega)).bnd λ_ _ hV=>Suf.ret (by rw[List.length_tail] at hV;omega)
   have hU0:0<U.length:=by
    unfold begF at hF;simp only[Bool.or_eq_true,beq_iff_eq] at hF;rcases hF with hF |hF
    ·exact begP_ne hF
    exact gl_ne (T:=U) (n:=0) (by rw[hF];decide)
   refine(h.func U (by omega)).bnd λ_ V hV=>Suf.ite (λhc=>?_) (λ_=>(h.expr _ (by omega)).bnd λ_ _ hX=>Suf.ret (by omega));have:=gl_ne (T:=V) (n:=0) (by rw[hc.2];decide);exact(h.expr _ (by rw[List.length_tail];omega)).bnd λ_ _ hX=>Suf.ret (by rw[List.length_tail] at hX;omega)
  ·intro T hf
   rw[Pr.arrs];refine Suf.ite (λhc=>?_) (λ_=>Suf.ret (by omega));have:=begA_ne hc;exact(h.arr T (by omega)).bnd λ_ U hU=>(h.arrs _ (by omega)).bnd λ_ _ hV=>Suf.ret (by omega)
  ·intro T hf
   rw[Pr.arr];by_cases hT:0<T.length
   ·exact(h.alone T (by omega) (by omega)).bnd λ_ U hU=>(h.more _ _ (by omega) (by omega)).mono (by omega)
   have e:T=[]:=List.eq_nil_of_length_eq_zero (by omega);subst e;cases f with
   |zero=>simp at hf
   |succ f=>rw[Pr.alone,if_neg (by decide)];exact Suf.fail
  ·intro a T hf _
   rw[Pr.more];refine Suf.ite (λhc=>?_) (λ_=>Suf.ret (by omega));have:=gl_ne (T:=T) (n:=0) (by rw[hc];decide);refine(h.places _ (by rw[List.length_tail];omega)).bnd λl U hU=>Suf.ite (λhc=>?_) (λ_=>Suf.fail);rw[List.length_tail] at hU;exact(h.more _ _ (by rw[List.length_tail];omega) (by omega)).mono (by rw[List.length_tail];omega)
  ·intro T hf
   rw[Pr.places];refine(Suf.ite (λ_=>Suf.ret (Nat.le_refl _)) (λ_=>h.expr T (by omega))).bnd λp U hU=>Suf.ite (λhc=>?_) (λ_=>Suf.ret (by omega));have:=gl_ne (T:=U) (n:=0) (by rw[hc];decide);exact(h.places _ (by rw[List.length_tail];omega)).bnd λ_ _ hV=>Suf.ret (by rw[List.length_tail] at hV;omega)
  ·intro T hf _
   rw[Pr.alone];refine Suf.ite (λhc=>?_) (λ_=>Suf.fail);have:=begA_ne hc;cases leaf (T.getD 0 Tk.none_) with
   |some e=>exact Suf.ret (by rw[List.length_tail];omega)
   |none=>
    refine(h.expr _ (by rw[List.length_tail];omega)).bnd λe U hU=>Suf.ite (λ_=>Suf.ret (by rw[List.length_tail] at hU⊢;omega)) (λ_=>Suf.fail)
  ·intro T hf
   rw[Pr.func];refine Suf.ite (λhc=>Suf.ite (λhc2=>?_) (λ_=>Suf.fail)) (λ_=>?_)
   ·have:=gl_ne (T:=T) (n:=0) (by rw[hc];decide)
    have h2:=gl_ne (T:=T.tail) (n:=0) (by rw[hc2];decide);rw[List.length_tail] at h2;refine(h.plain _ (by rw[List.length_tail,List.length_tail];omega) (by omega)).bnd λ_ U hU=>?_;rw[List.length_tail,List.length_tail] at hU;exact(h.ops _ _ (by omega) (by omega)).mono (by omega)
   by_cases hT:0<T.length
   ·exact(h.plain T (by omega) (by omega)).bnd λ_ U hU=>(h.ops _ _ (by omega) (by omega)).mono (by omega)
   have e:T=[]:=List.eq_nil_of_length_eq_zero (by omega);subst e;cases f with
   |zero=>simp at hf
   |succ f=>rw[Pr.plain,if_neg (by decide)];exact Suf.fail
  ·intro g T hf _
   rw[Pr.ops];refine Suf.ite (λhc=>?_) (λ_=>Suf.ite (λhc=>?_) (λ_=>Suf.ret (by omega)))
   ·have:=Qy hc
    exact(h.ops _ _ (by rw[List.length_tail];omega) (by omega)).mono (by rw[List.length_tail];omega)
   have:=I6 hc;refine(Suf.ite (n:=T.tail.length) (λ_=>(h.arr _ (by rw[List.length_tail];omega)).mono (by omega)) (λ_=>(h.plain _ (by rw[List.length_tail];omega) (by omega)).mono (by omega))).bnd λk U hU=>?_;rw[List.length_tail] at hU;exact(h.ops _ _ (by omega) (by omega)).mono (by omega)
  intro T hf _;rw[Pr.plain];refine Suf.ite (λhc=>?_) (λ_=>Suf.fail);have:=begP_ne hc;cases fleaf (T.getD 0 Tk.none_) with
  |some e=>exact Suf.ret (by rw[List.length_tail];omega)
  |none=>
   refine(h.stmts _ _ (by rw[List.length_tail];omega)).bnd λl U hU=>Suf.ite (λ_=>Suf.ret (by rw[List.length_tail] at hU⊢;omega)) (λ_=>Suf.fail)
def fuel (T:List Tok):Nat:=16*T.length+7
theorem stmts_some (b:Bool)(T:List Tok):∃o,stmts (fuel T) b T=some o:=by
 obtain⟨o,h,_⟩:=(Ry (fuel T)).stmts b T (Nat.le_refl _);exact⟨o,h⟩
def lineT (T:List Tok):Option Da:=match stmts (fuel T) false T with
 |some (some (l,[]))=>some (node 28 0 [] l)
 |_=>none
end Pr
namespace Go.Proofs.YtceplkpjnebnfaaGreatDoor
section
open Go.RowKit
section
variable {P : Program} {ops : Array Oper} {Q : Exit → Act → World → Prop} {md : Region.Mode}
end
end
end Go.Proofs.YtceplkpjnebnfaaGreatDoor
