/- Texts of this proof, joined. -/
import Derived.Test.YtceplkpjnebnfaaGreatDoorM13
set_option linter.all false
set_option maxHeartbeats 8000000
set_option maxRecDepth 100000
namespace Go.Proofs.YtceplkpjnebnfaaGreatDoor
section
open Go.RowKit Tr
structure RdAt (w0:World) (ts:List Tk.Tok) (A:Option Addr) (c rb:Nat) (i:Nat) (w:World):Prop where
 cells:w.heap[rb]? =some (.cells #[.slice A ts.length c,.int .i64 (i:Int)] 50 (0,0))
 old:Below w0.heap.size w0 w
 lo:w0.heap.size<=rb
 le:i<=ts.length
theorem RdAt.lt {w0:World}{ts:List Tk.Tok}{A:Option Addr}{c rb i:Nat}{w:World}(h:RdAt w0 ts A c rb i w):rb<w.heap.size:=(Array.getElem?_eq_some_iff.1 h.cells).1
theorem RdAt.below {w0:World}{ts:List Tk.Tok}{A:Option Addr}{c rb i:Nat}{w w':World}(h:RdAt w0 ts A c rb i w)(hb:Below w.heap.size w w'):RdAt w0 ts A c rb i w':=
 ⟨(hb.block rb h.lt).trans h.cells,h.old.trans (hb.mono h.old.size),h.lo,h.le⟩
theorem RdAt.c0 {w0:World}{ts:List Tk.Tok}{A:Option Addr}{c rb i:Nat}{w:World}(h:RdAt w0 ts A c rb i w):w.cell? ⟨rb,0,none⟩=some (.slice A ts.length c):=(cell_of_row w rb 0 _ _ _ h.cells).trans rfl
theorem RdAt.c1 {w0:World}{ts:List Tk.Tok}{A:Option Addr}{c rb i:Nat}{w:World}(h:RdAt w0 ts A c rb i w):w.cell? ⟨rb,1,none⟩=some (.int .i64 (i:Int)):=(cell_of_row w rb 1 _ _ _ h.cells).trans rfl
theorem RdAt.fz {w0:World}{ts:List Tk.Tok}{A:Option Addr}{c rb i:Nat}{w:World}(h:RdAt w0 ts A c rb i w)(o:Nat):w.frozen? ⟨rb,o,none⟩=false:=by
 simp[World.frozen?,h.cells]
class Dc where
 q:Nat
def Av [Dc](v:Value)(n:Nat):Prop:=n=0\/∀a n' c,v= .slice (some a) n' c->a.block≠Dc.q
variable [Dc]
structure TokOk (t:Tk.Tok):Prop where
 s:t.s.length<=100000
 k:0<=t.kind/\t.kind<=7
 c: -9223372036854775808<=t.c/\t.c<=9223372036854775807
 l:Jd t.l
 ll:t.l.length<=100000
 o1:Nt.Ok t.n.top
 o2:Nt.Ok t.n.bot
 t1:t.n.top.length<=100000
 t2:t.n.bot.length<=100000
structure Yd (w0:World) (ts:List Tk.Tok) (A:Option Addr) (c:Nat):Prop where
 few:ts.length<=100000
 cap:ts.length<=c
 ok:∀(j:Nat) (hj:j<ts.length),TokOk ts[j]
 at_:∀(j:Nat) (hj:j<ts.length),∃g n1 n2 lv,A=some ⟨g,0,none⟩/\g<w0.heap.size/\w0.rangeAt g (j*8) (Ge ts[j].kind ts[j].n.neg n1 n2 lv ts[j].s ts[j].c ts[j].at_)/\IsRes w0 n1 ts[j].n.top/\IsRes w0 n2 ts[j].n.bot/\w0.ownsRow 0 3 1 lv ts[j].l.length (Sa ts[j].l)/\Av n1 ts[j].n.top.length/\Av n2 ts[j].n.bot.length/\Av lv ts[j].l.length
theorem Vp {w0:World}{ts:List Tk.Tok}{A:Option Addr}{c rb i:Nat}{w:World}(hT:Yd w0 ts A c)(h:RdAt w0 ts A c rb i w){j:Nat}(hj:j<ts.length):
 ∃g n1 n2 lv,A=some ⟨g,0,none⟩/\g<w0.heap.size/\w.rangeAt g (j*8) (Ge ts[j].kind ts[j].n.neg n1 n2 lv ts[j].s ts[j].c ts[j].at_)/\IsRes w0 n1 ts[j].n.top/\IsRes w0 n2 ts[j].n.bot/\w0.ownsRow 0 3 1 lv ts[j].l.length (Sa ts[j].l):=by
 obtain⟨g,n1,n2,lv,e,hg,hr,k1,k2,k3,-⟩:=hT.at_ j hj;exact⟨g,n1,n2,lv,e,hg,λq v hv=>(h.old.cell (p:=⟨g,j*8+q,none⟩) hg).trans (hr q v hv),k1,k2,k3⟩
theorem Lk {ts:List Tk.Tok}{i n:Nat}:Pr.kd (ts.drop i) n=if h:i+n<ts.length then(ts[i+n]'h).kind else-1:=by
 unfold Pr.kd;rw[List.getElem?_drop];by_cases h:i+n<ts.length
 ·rw[dif_pos h,List.getElem?_eq_getElem h]
 rw[dif_neg h,List.getElem?_eq_none (by omega)]
theorem W9 {ts:List Tk.Tok}{i n:Nat}:Pr.gl (ts.drop i) n=if h:i+n<ts.length then(if(ts[i+n]'h).kind=7 then(ts[i+n]'h).c else 0) else 0:=by
 unfold Pr.gl;rw[Lk];by_cases h:i+n<ts.length
 ·rw[dif_pos h,dif_pos h,List.getD_eq_getElem?_getD,List.getElem?_drop,List.getElem?_eq_getElem h];rfl
 rw[dif_neg h,dif_neg h,if_neg (by decide)]
def Im (w:World)(r:Int)(e:Ending)(w':World):Prop:=e= .returned (.int .i64 r)/\Below w.heap.size w w'
theorem Yv {a b:Int}(h:a=b):Ending.returned (.int .i64 a)= .returned (.int .i64 b):=by rw[h]
section
variable {w0 : World} {ts : List Tk.Tok} {A : Option Addr} {c rb : Nat}
theorem F5 (hT:Yd w0 ts A c)(i n:Nat)(w:World)(h:RdAt w0 ts A c rb i w)(hn:n<=10):
 Calls Tryz.prog 85 #[.pointer (some ⟨rb,0,none⟩),.int .i64 (n:Int)] w (Im w (Pr.kd (ts.drop i) n)):=by
 have hle:=h.le;have hfew:=hT.few;have p0:=h.c0;have p1:=h.c1;have s0:(0:Int)<=(i:Int)+(n:Int):=by omega
 have sw:IntKind.i64.wrap ((i:Int)+(n:Int))=(i:Int)+(n:Int):=IntWalk.i64_in _ (by omega);have st:((i:Int)+(n:Int)).toNat=i+n:=by omega
 by_cases hlt:i+n<ts.length
 ·obtain⟨g,n1,n2,lv,rfl,hg,hr,-⟩:=Vp hT h hlt
  have HK:Hid (Pr.kd (ts.drop i) n=ts[i+n].kind):=Qd (by rw[Lk,dif_pos hlt]);have q0:w.cell? ⟨g,(i+n)*8,none⟩=some (.int .i64 ts[i+n].kind):=hr 0 _ rfl;have hge:¬((ts.length:Int)<=(i:Int)+(n:Int)):=by omega
  have hlt2:(i:Int)+(n:Int)<(ts.length:Int):=by omega
  generalize ts[i+n].kind=k at*;generalize Pr.kd (ts.drop i) n=R at*;clear h hr hT hlt;go_enter Tryz.func85,Tryz.ntmps85
  go_wp2_with fail
  go_quiet (fail)
  go_wp2_with fail
  go_quiet (fail)
  go_wp2_with fail
  go_ret;exact⟨Yv HK.out.symm,by simp[World.drewN_drewN]<;>exact Qb Br _⟩
 have HK:Hid (Pr.kd (ts.drop i) n= -1):=Qd (by rw[Lk,dif_neg hlt]);have hge:(ts.length:Int)<=(i:Int)+(n:Int):=by omega
 generalize Pr.kd (ts.drop i) n=R at*;clear h hT hlt;go_enter Tryz.func85,Tryz.ntmps85
 go_wp2_with fail
 go_quiet (fail)
 go_wp2_with fail
 go_ret;exact⟨Yv HK.out.symm,Qb Br _⟩
end
end
section
open Go.RowKit Tr
variable [Dc]
section
variable {w0 : World} {ts : List Tk.Tok} {A : Option Addr} {c rb : Nat}
theorem Nj (hT:Yd w0 ts A c)(i:Nat)(w:World)(h:RdAt w0 ts A c rb i w):
 Calls Tryz.prog 85 #[.pointer (some ⟨rb,0,none⟩),.int .i64 0] w (Im w (Pr.kd (ts.drop i) 0)):=F5 hT i 0 w h (by omega)
theorem Nx (hT:Yd w0 ts A c)(i n:Nat)(w:World)(h:RdAt w0 ts A c rb i w)(hn:n<=10):
 Calls Tryz.prog 86 #[.pointer (some ⟨rb,0,none⟩),.int .i64 (n:Int)] w (Im w (Pr.gl (ts.drop i) n)):=by
 have hle:=h.le;have hfew:=hT.few;have KA:=Qd (F5 hT i n w h hn);have HG:Hid (Pr.gl (ts.drop i) n=if Pr.kd (ts.drop i) n=7 then(if h:i+n<ts.length then(ts[i+n]'h).c else 0) else 0):=Qd (by
  rw[W9,Lk];by_cases h:i+n<ts.length
  ·simp only[dif_pos h]
  simp only[dif_neg h];rfl)
 have HK:Hid (Pr.kd (ts.drop i) n=7->i+n<ts.length):=Qd (λe=>by
  rw[Lk] at e;by_cases h:i+n<ts.length
  ·exact h
  rw[dif_neg h] at e;cases e)
 generalize Pr.kd (ts.drop i) n=k at*;generalize Pr.gl (ts.drop i) n=R at*;by_cases h7:k=7
 ·have hlt:=HK.out h7
  rw[dif_pos hlt,if_pos h7] at HG;have s0:(0:Int)<=(i:Int)+(n:Int):=by omega
  have sw:IntKind.i64.wrap ((i:Int)+(n:Int))=(i:Int)+(n:Int):=IntWalk.i64_in _ (by omega);have st:((i:Int)+(n:Int)).toNat=i+n:=by omega
  have hlt2:(i:Int)+(n:Int)<(ts.length:Int):=by omega
  have HTK:Hid (∀w',Below w.heap.size w w'->∃g,A=some ⟨g,0,none⟩/\w'.cell? ⟨g,(i+n)*8+6,none⟩=some (.int .i64 R)/\w'.cell? ⟨rb,0,none⟩=some (.slice A ts.length c)/\w'.cell? ⟨rb,1,none⟩=some (.int .i64 (i:Int))):=Qd (λw' hb=>by
   obtain⟨g,n1,n2,lv,e,hg,hr,-⟩:=Vp hT (h.below hb) hlt;exact⟨g,e,by rw[HG.out];exact hr 6 _ rfl,(h.below hb).c0,(h.below hb).c1⟩)
  subst h7;clear HG HK h hT hlt;go_enter Tryz.func86,Tryz.ntmps86
  go_wp2_with fail
  refine KA.out.mono ?_;rintro e w1 ⟨rfl,hb1⟩;obtain⟨g,rfl,q6,p0,p1⟩:=HTK.out w1 hb1;have HB1:=Qd hb1;clear hb1;go_wp2_with fail
  go_quiet (fail)
  go_wp2_with fail
  go_ret;exact⟨rfl,Qb HB1.out _⟩
 have n7:(k !=7)=true:=by simpa using h7
 rw[if_neg h7] at HG;clear h7 HK h hT;go_enter Tryz.func86,Tryz.ntmps86
 go_wp2_with fail
 refine KA.out.mono ?_;rintro e w1 ⟨rfl,hb1⟩;have HB1:=Qd hb1;clear hb1;go_wp2_with fail
 go_ret;exact⟨Yv HG.out.symm,HB1.out⟩
theorem Td (hT:Yd w0 ts A c)(i:Nat)(w:World)(h:RdAt w0 ts A c rb i w):
 Calls Tryz.prog 86 #[.pointer (some ⟨rb,0,none⟩),.int .i64 0] w (Im w (Pr.gl (ts.drop i) 0)):=Nx hT i 0 w h (by omega)
theorem Bv (hT:Yd w0 ts A c)(i:Nat)(w:World)(h:RdAt w0 ts A c rb i w):
 Calls Tryz.prog 86 #[.pointer (some ⟨rb,0,none⟩),.int .i64 1] w (Im w (Pr.gl (ts.drop i) 1)):=Nx hT i 1 w h (by omega)
theorem X9 {a b:World}{r:Nat}(h:a.grownBy b (some r))(o:Nat)(v:Value):a.grownBy (b.setCell ⟨r,o,none⟩ v) (some r):=
 ⟨h.os,h.tape,h.output,by simpa using h.size,λk hk hr=>by
  rw[<-h.block k hk hr];show(b.heap.modify r _)[k]? =_;rw[Array.getElem?_modify,if_neg (λe=>hr (by rw[e]))]⟩
theorem Ef (a:World)(r:Nat):a.grownBy a (some r):=Ea r Br
theorem RdAt.move {i j:Nat}{w:World}(h:RdAt w0 ts A c rb i w)(hj:j<=ts.length):RdAt w0 ts A c rb j (w.setCell ⟨rb,1,none⟩ (.int .i64 (j:Int))):=by
 refine⟨?_,h.old.setCell (p:=⟨rb,1,none⟩) h.lo _,h.lo,hj⟩;show(w.heap.modify rb _)[rb]? =_;rw[Array.getElem?_modify,if_pos rfl,h.cells];rfl
theorem RdAt.grown {i j:Nat}{w w':World}(h:RdAt w0 ts A c rb i w)(hg:w.grownBy w' (some rb))(hc:w'.heap[rb]? =some (.cells #[.slice A ts.length c,.int .i64 (j:Int)] 50 (0,0)))(hj:j<=ts.length):RdAt w0 ts A c rb j w':=
 ⟨hc,h.old.trans ⟨hg.os,hg.tape,hg.output,hg.size,λk hk=>by
  have h1:=h.lo;have h2:=h.old.size;exact hg.block k (by omega) (λe=>by injection e with e;omega)⟩,h.lo,hj⟩
def Wma (w0:World)(ts:List Tk.Tok)(A:Option Addr)(c rb i:Nat)(w:World)(r:Bool)(e:Ending)(w':World):Prop:=
 e= .returned (.bool r)/\RdAt w0 ts A c rb (if r then i+1 else i) w'/\w.grownBy w' (some rb)
theorem Y9 {T:List Tk.Tok}{n:Nat}{x:Int}(hx:x≠0)(h:Pr.gl T n=x):n<T.length:=Pr.gl_ne (by rw[h];exact hx)
theorem Fd (hT:Yd w0 ts A c)(x:Int)(hx:x≠0)(i:Nat)(w:World)(h:RdAt w0 ts A c rb i w):
 Calls Tryz.prog 54 #[.pointer (some ⟨rb,0,none⟩),.int .i64 x] w (Wma w0 ts A c rb i w (Pr.gl (ts.drop i) 0==x)):=by
 have GA:=Qd (Td hT i w h);have HL:Hid (Pr.gl (ts.drop i) 0=x->i<ts.length):=Qd (λe=>by
  have:=Y9 hx e;rw[List.length_drop] at this;omega)
 have HR:=Qd h;have hle:=h.le;have hfew:=hT.few;generalize Pr.gl (ts.drop i) 0=y at*;clear h hT;by_cases hy:y=x
 ·have hlt:=HL.out hy
  subst hy;have e1:(y !=y)=false:=by simp
  have HZ:Hid ((y==y)=true):=Qd (by simp);go_enter Tryz.func54,Tryz.ntmps54
  go_wp2_with fail
  refine GA.out.mono ?_;rintro e w1 ⟨rfl,hb1⟩;have HR1:=Qd (HR.out.below hb1);have p1:=HR1.out.c1;have f1:=HR1.out.fz 1;have HB1:=Qd hb1;clear hb1;go_wp2_with fail
  go_ret;have hm:=HR1.out.move (j:=i+1) (by omega);rw[HZ.out];exact⟨rfl,hm,X9 (Ea rb HB1.out) 1 _⟩
 have e1:(y !=x)=true:=by simpa using hy
 have HZ:Hid ((y==x)=false):=Qd (by simpa using hy);clear hy HL;go_enter Tryz.func54,Tryz.ntmps54
 go_wp2_with fail
 refine GA.out.mono ?_;rintro e w1 ⟨rfl,hb1⟩;have HR1:=Qd (HR.out.below hb1);have HB1:=Qd hb1;clear hb1;go_wp2_with fail
 go_ret;rw[HZ.out];exact⟨rfl,HR1.out,Ea rb HB1.out⟩
theorem Rh (hT:Yd w0 ts A c)(i:Nat)(w:World)(h:RdAt w0 ts A c rb i w):
 Calls Tryz.prog 139 #[.pointer (some ⟨rb,0,none⟩)] w (La w (Pr.begA (ts.drop i))):=by
 have KA:=Qd (Nj hT i w h);have GA:=Qd (λw' (hb:Below w.heap.size w w')=>Td hT i w' (h.below hb));have HD:Hid (Pr.begA (ts.drop i)=((Pr.kd (ts.drop i) 0==0)||(Pr.kd (ts.drop i) 0==1)||(Pr.kd (ts.drop i) 0==2)||(Pr.kd (ts.drop i) 0==4)||(Pr.kd (ts.drop i) 0==5)||(Pr.gl (ts.drop i) 0==9082)||(Pr.gl (ts.drop i) 0==9077)||(Pr.gl (ts.drop i) 0==40))):=Qd rfl;generalize Pr.begA (ts.drop i)=R at*;generalize Pr.kd (ts.drop i) 0=k at*;generalize Pr.gl (ts.drop i) 0=y at*;clear h hT;by_cases hk:k=0\/k=1\/k=2\/k=4\/k=5
 ·have HZ:Hid (R=true):=Qd (by rw[HD.out];rcases hk with rfl |rfl |rfl |rfl |rfl<;>simp)
  clear HD GA;rcases hk with rfl |rfl |rfl |rfl |rfl
  all_goals
   go_enter Tryz.func139,Tryz.ntmps139
   go_wp2_with fail
   refine KA.out.mono ?_;rintro e w1 ⟨rfl,hb1⟩;go_wp2_with fail
   go_ret;exact⟨Aa (by rw[HZ.out]),hb1⟩
 have n0:(k==0)=false:=by simp;omega
 have n1:(k==1)=false:=by simp;omega
 have n2:(k==2)=false:=by simp;omega
 have n4:(k==4)=false:=by simp;omega
 have n5:(k==5)=false:=by simp;omega
 rw[n0,n1,n2,n4,n5] at HD;clear hk;cases m1:(y==9082)
 ·cases m2:(y==9077)
  ·cases m3:(y==40)
   all_goals
    rw[m1,m2,m3] at HD;go_enter Tryz.func139,Tryz.ntmps139
    go_wp2_with fail
    refine KA.out.mono ?_;rintro e w1 ⟨rfl,hb1⟩;go_wp2_with fail
    refine(GA.out _ hb1).mono ?_;rintro e w2 ⟨rfl,hb2⟩;go_wp2_with fail
    go_ret;exact⟨Aa (by rw[HD.out];rfl),hb1.trans (hb2.mono hb1.size)⟩
  rw[m1,m2] at HD;go_enter Tryz.func139,Tryz.ntmps139
  go_wp2_with fail
  refine KA.out.mono ?_;rintro e w1 ⟨rfl,hb1⟩;go_wp2_with fail
  refine(GA.out _ hb1).mono ?_;rintro e w2 ⟨rfl,hb2⟩;go_wp2_with fail
  go_ret;exact⟨Aa (by rw[HD.out];rfl),hb1.trans (hb2.mono hb1.size)⟩
 rw[m1] at HD;go_enter Tryz.func139,Tryz.ntmps139
 go_wp2_with fail
 refine KA.out.mono ?_;rintro e w1 ⟨rfl,hb1⟩;go_wp2_with fail
 refine(GA.out _ hb1).mono ?_;rintro e w2 ⟨rfl,hb2⟩;go_wp2_with fail
 go_ret;exact⟨Aa (by rw[HD.out];rfl),hb1.trans (hb2.mono hb1.size)⟩
theorem Xs (hT:Yd w0 ts A c)(i:Nat)(w:World)(h:RdAt w0 ts A c rb i w):
 Calls Tryz.prog 168 #[.pointer (some ⟨rb,0,none⟩)] w (La w (Pr.begP (ts.drop i))):=by
 have KA:=Qd (Nj hT i w h);have GA:=Qd (λw' (hb:Below w.heap.size w w')=>Td hT i w' (h.below hb));have TG:=Qd (λw'=>Yu (Pr.gl (ts.drop i) 0) w');have HD:Hid (Pr.begP (ts.drop i)=((Pr.kd (ts.drop i) 0==3)||(Pr.kd (ts.drop i) 0==6)||(Pr.gl (ts.drop i) 0==8711)||(Pr.gl (ts.drop i) 0==123)||Tr.glyph (Pr.gl (ts.drop i) 0))):=Qd rfl;generalize Pr.begP (ts.drop i)=R at*;generalize Pr.kd (ts.drop i) 0=k at*;generalize Pr.gl (ts.drop i) 0=y at*;generalize Tr.glyph y=gy at*;clear h hT;by_cases hk:k=3\/k=6
 ·have HZ:Hid (R=true):=Qd (by rw[HD.out];rcases hk with rfl |rfl<;>simp)
  clear HD GA;rcases hk with rfl |rfl
  all_goals
   go_enter Tryz.func168,Tryz.ntmps168
   go_wp2_with fail
   refine KA.out.mono ?_;rintro e w1 ⟨rfl,hb1⟩;go_wp2_with fail
   go_ret;exact⟨Aa (by rw[HZ.out]),hb1⟩
 have n3:(k==3)=false:=by simp;omega
 have n6:(k==6)=false:=by simp;omega
 rw[n3,n6] at HD;clear hk;cases m1:(y==8711)
 ·cases m2:(y==123)
  ·rw[m1,m2] at HD
   go_enter Tryz.func168,Tryz.ntmps168
   go_wp2_with fail
   refine KA.out.mono ?_;rintro e w1 ⟨rfl,hb1⟩;go_wp2_with fail
   refine(GA.out _ hb1).mono ?_;rintro e w2 ⟨rfl,hb2⟩;go_wp2_with fail
   refine(TG.out _).mono ?_;rintro e w3 ⟨rfl,hb3⟩;go_wp2_with fail
   go_ret;have hb12:=hb1.trans (hb2.mono hb1.size);exact⟨Aa (by rw[HD.out];simp),hb12.trans (hb3.mono hb12.size)⟩
  rw[m1,m2] at HD;go_enter Tryz.func168,Tryz.ntmps168
  go_wp2_with fail
  refine KA.out.mono ?_;rintro e w1 ⟨rfl,hb1⟩;go_wp2_with fail
  refine(GA.out _ hb1).mono ?_;rintro e w2 ⟨rfl,hb2⟩;go_wp2_with fail
  go_ret;exact⟨Aa (by rw[HD.out];simp),hb1.trans (hb2.mono hb1.size)⟩
 rw[m1] at HD;go_enter Tryz.func168,Tryz.ntmps168
 go_wp2_with fail
 refine KA.out.mono ?_;rintro e w1 ⟨rfl,hb1⟩;go_wp2_with fail
 refine(GA.out _ hb1).mono ?_;rintro e w2 ⟨rfl,hb2⟩;go_wp2_with fail
 go_ret;exact⟨Aa (by rw[HD.out];simp),hb1.trans (hb2.mono hb1.size)⟩
theorem Mn (hT:Yd w0 ts A c)(i:Nat)(w:World)(h:RdAt w0 ts A c rb i w):
 Calls Tryz.prog 173 #[.pointer (some ⟨rb,0,none⟩)] w (La w (Pr.begF (ts.drop i))):=by
 have KA:=Qd (Xs hT i w h);have GA:=Qd (λw' (hb:Below w.heap.size w w')=>Td hT i w' (h.below hb));have HD:Hid (Pr.begF (ts.drop i)=(Pr.begP (ts.drop i)||(Pr.gl (ts.drop i) 0==8728))):=Qd rfl;generalize Pr.begF (ts.drop i)=R at*;generalize Pr.begP (ts.drop i)=k at*;generalize Pr.gl (ts.drop i) 0=y at*;clear h hT;cases k
 ·go_enter Tryz.func173,Tryz.ntmps173
  go_wp2_with fail
  refine KA.out.mono ?_;rintro e w1 ⟨rfl,hb1⟩;go_wp2_with fail
  refine(GA.out _ hb1).mono ?_;rintro e w2 ⟨rfl,hb2⟩;go_wp2_with fail
  go_ret;exact⟨Aa (by rw[HD.out];simp),hb1.trans (hb2.mono hb1.size)⟩
 go_enter Tryz.func173,Tryz.ntmps173
 go_wp2_with fail
 refine KA.out.mono ?_;rintro e w1 ⟨rfl,hb1⟩;go_wp2_with fail
 go_ret;exact⟨Aa (by rw[HD.out];simp),hb1⟩
end
end
section
open Go.RowKit Tr
variable [Dc]
def In (B lo hi b:Nat):Prop:=(b<B/\b≠Dc.q)\/(lo<=b/\b<hi)
theorem In.wide {B lo hi lo' hi' b:Nat}(h:In B lo hi b)(h1:lo'<=lo)(h2:hi<=hi'):In B lo' hi' b:=h.imp id (λh=>⟨by omega,by omega⟩)
structure TreeF (w:World) (P:Nat->Prop) (a:Tree) (vs:List Value):Prop where
 lt:∀b,P b->b<w.heap.size
 is:∀(w':World) (B:Nat),(∀p:Addr,P p.block->w'.cell? p=w.cell? p)->(∀b,P b->b<B)->IsTree w' B a vs
structure TreesF (w:World) (P:Nat->Prop) (l:List Tree) (vs:List Value):Prop where
 lt:∀b,P b->b<w.heap.size
 is:∀(w':World) (B:Nat),(∀p:Addr,P p.block->w'.cell? p=w.cell? p)->(∀b,P b->b<B)->IsTrees w' B l vs
theorem TreeF.keep {w w':World}{P P':Nat->Prop}{a:Tree}{vs:List Value}(h:TreeF w P a vs)(hk:∀p:Addr,P p.block->w'.cell? p=w.cell? p)(hP:∀b,P b->P' b)(hl:∀b,P' b->b<w'.heap.size):TreeF w' P' a vs:=
 ⟨hl,λw2 B h1 h2=>h.is w2 B (λp hp=>(h1 p (hP _ hp)).trans (hk p hp)) (λb hb=>h2 b (hP b hb))⟩
theorem TreesF.keep {w w':World}{P P':Nat->Prop}{a:List Tree}{vs:List Value}(h:TreesF w P a vs)(hk:∀p:Addr,P p.block->w'.cell? p=w.cell? p)(hP:∀b,P b->P' b)(hl:∀b,P' b->b<w'.heap.size):TreesF w' P' a vs:=
 ⟨hl,λw2 B h1 h2=>h.is w2 B (λp hp=>(h1 p (hP _ hp)).trans (hk p hp)) (λb hb=>h2 b (hP b hb))⟩
theorem TreeF.tree {w:World}{P:Nat->Prop}{a:Tree}{vs:List Value}(h:TreeF w P a vs):IsTree w w.heap.size a vs:=h.is w _ (λ_ _=>rfl) h.lt
theorem TreesF.nil {w:World}{P:Nat->Prop}(hl:∀b,P b->b<w.heap.size):TreesF w P [] []:=⟨hl,λ_ _ _ _=>by rw[IsTrees]⟩
theorem TreesF.cons {w:World}{P:Nat->Prop}{a:Tree}{l:List Tree}{vs us:List Value}(h:TreeF w P a vs)(k:TreesF w P l us):TreesF w P (a::l) (vs++us):=
 ⟨h.lt,λw' B h1 h2=>by rw[IsTrees];exact⟨vs,us,rfl,h.is w' B h1 h2,k.is w' B h1 h2⟩⟩
theorem Wp {w:World}{B:Nat}:∀{l:List Tree} {us:List Value} {a:Tree} {vs:List Value},IsTrees w B l us->IsTree w B a vs->IsTrees w B (l++[a]) (us++vs)
 | [],us,a,vs,h,k=>by rw[IsTrees] at h;subst h;exact Tp k
 |c::r,us,a,vs,h,k=>by
  rw[IsTrees] at h;obtain⟨u,t,rfl,h1,h2⟩:=h;rw[List.cons_append,List.append_assoc,IsTrees];exact⟨u,_,rfl,h1,Wp h2 k⟩
theorem TreesF.snoc {w:World}{P:Nat->Prop}{a:Tree}{l:List Tree}{vs us:List Value}(k:TreesF w P l us)(h:TreeF w P a vs):TreesF w P (l++[a]) (us++vs):=
 ⟨h.lt,λw' B h1 h2=>Wp (k.is w' B h1 h2) (h.is w' B h1 h2)⟩
theorem TreesF.one {w:World}{P:Nat->Prop}{a:Tree}{vs:List Value}(h:TreeF w P a vs):TreesF w P [a] vs:=by
 have:=TreesF.cons h (TreesF.nil h.lt)
 simpa using this
theorem TreeF.node {w:World}{P:Nat->Prop}{k o:Int}{m:List UInt8}{l:List Tree}{us:List Value}{c:Nat}{A:Option Addr}(hk:Jd [k,o])(hm:m.length<=140737488355328)(hf:Fits l.length c 136)(hl:TreesF w P l us)
 (hA:us=[]\/∃g off,A=some ⟨g,off,none⟩/\P g/\∀j v,us[j]? =some v->w.cell? ⟨g,off+j,none⟩=some v):TreeF w P (Pr.node k o m l) (Qa k o m Rt.none_ [] l.length none none none A 0 0 0 c):=
 ⟨hl.lt,λw' B h1 h2=>Bj hk hm hf (by
  rcases hA with h |⟨g,off,e,hg,hc⟩
  ·exact .inl h
  exact .inr ⟨g,off,e,h2 g hg,λj v hv=>(h1 ⟨g,off+j,none⟩ hg).trans (hc j v hv)⟩) (hl.is w' B h1 h2)⟩
theorem TreeF.leaf {w:World}{P:Nat->Prop}{k o:Int}{m:List UInt8}(hk:Jd [k,o])(hm:m.length<=140737488355328)(hP:∀b,P b->b<w.heap.size):TreeF w P (Pr.node k o m []) (Qa k o m Rt.none_ [] 0 none none none none 0 0 0 0):=
 TreeF.node (l:=[]) hk hm (He _) (TreesF.nil hP) (.inl rfl)
structure C8 where
 k:Int
 o:Int
 m:List UInt8
 g:Bool
 A1:Option Addr
 n1:Nat
 c1:Nat
 A2:Option Addr
 n2:Nat
 c2:Nat
 A3:Option Addr
 n3:Nat
 c3:Nat
 A4:Option Addr
 n4:Nat
 c4:Nat
def C8.l (x:C8):List Value:=[.int .i64 x.k,.int .i64 x.o,.string ⟨x.m.toArray⟩,.bool x.g,.slice x.A1 x.n1 x.c1,.slice x.A2 x.n2 x.c2,.slice x.A3 x.n3 x.c3,.slice x.A4 x.n4 x.c4]
abbrev C8.a (x:C8):Array Value:= #[.int .i64 x.k,.int .i64 x.o,.string ⟨x.m.toArray⟩,.bool x.g,.slice x.A1 x.n1 x.c1,.slice x.A2 x.n2 x.c2,.slice x.A3 x.n3 x.c3,.slice x.A4 x.n4 x.c4]
theorem C8.of {w:World}{B:Nat}{a:Tree}{vs:List Value}(h:IsTree w B a vs):∃x:C8,vs=x.l/\x.k=kind a/\x.o=op a/\x.m=Bc a/\x.n4=(kids a).length:=by
 obtain⟨A1,A2,A3,A4,c1,c2,c3,c4,rfl⟩:=h.form;exact⟨⟨kind a,op a,Bc a,(num a).neg,A1,(num a).top.length,c1,A2,(num a).bot.length,c2,A3,(text a).length,c3,A4,(kids a).length,c4⟩,rfl,rfl,rfl,rfl,rfl⟩
theorem C8.eqs {w:World}{B:Nat}{a:Tree}{x:C8}(h:IsTree w B a x.l):x.k=kind a/\x.o=op a/\x.m=Bc a/\x.n4=(kids a).length:=by
 obtain⟨A1,A2,A3,A4,c1,c2,c3,c4,e⟩:=h.form;unfold C8.l Qa at e;simp only[List.cons.injEq,Value.int.injEq,Value.string.injEq,Value.slice.injEq,true_and,and_true] at e;obtain⟨h1,h2,h3,h4,h5,h6,h7,h8⟩:=e;refine⟨h1,h2,?_,h8.2.1⟩;have:=congrArg (λb:ByteArray=>b.data.toList) h3
 simpa using this
section
variable (w0 : World) (ts : List Tk.Tok) (A : Option Addr) (c rb : Nat)
def EOut (w:World)(r:Option (Tree×List Tk.Tok))(e:Ending)(w':World):Prop:=
 ∃(x:C8) (j:Nat),RdAt w0 ts A c rb j w'/\w.grownBy w' (some rb)/\
  match r with
  |none=>e= .returned (.tuple #[.agg #[.int .i64 x.k,.int .i64 x.o,.string ⟨x.m.toArray⟩,.bool x.g,.slice x.A1 x.n1 x.c1,.slice x.A2 x.n2 x.c2,.slice x.A3 x.n3 x.c3,.slice x.A4 x.n4 x.c4],.bool false])
  |some (t,U)=>e= .returned (.tuple #[.agg #[.int .i64 x.k,.int .i64 x.o,.string ⟨x.m.toArray⟩,.bool x.g,.slice x.A1 x.n1 x.c1,.slice x.A2 x.n2 x.c2,.slice x.A3 x.n3 x.c3,.slice x.A4 x.n4 x.c4],.bool true])/\
   U=ts.drop j/\TreeF w' (In w0.heap.size w.heap.size w'.heap.size) t x.l
def Tqa (w:World)(r:Option (List Tree×List Tk.Tok))(e:Ending)(w':World):Prop:=
 ∃(j:Nat),RdAt w0 ts A c rb j w'/\w.grownBy w' (some rb)/\
  match r with
  |none=>∃A4 n4 c4,e= .returned (.tuple #[.slice A4 n4 c4,.bool false])
  |some (l,U)=>U=ts.drop j/\∃A4 c4 us,e= .returned (.tuple #[.slice A4 l.length c4,.bool true])/\Fits l.length c4 136/\TreesF w' (In w0.heap.size w.heap.size w'.heap.size) l us/\
   (us=[]\/∃g off,A4=some ⟨g,off,none⟩/\In w0.heap.size w.heap.size w'.heap.size g/\∀j v,us[j]? =some v->w'.cell? ⟨g,off+j,none⟩=some v)
def Tf (Fn:FuncId)(pr:Nat->List Tk.Tok->Pr.Res Tree)(F:Nat):Prop:=
 ∀f,f<=F->∀(i:Nat) (w:World) r,RdAt w0 ts A c rb i w->pr f (ts.drop i)=some r->Calls Tryz.prog Fn #[.pointer (some ⟨rb,0,none⟩)] w (EOut w0 ts A c rb w r)
end
section
variable {w0 : World} {ts : List Tk.Tok} {A : Option Addr} {c rb : Nat}
theorem TreeF.grown {w w':World}{lo hi:Nat}{a:Tree}{vs:List Value}(h:TreeF w (In w0.heap.size lo hi) a vs)(hg:w.grownBy w' (some rb))(h1:w0.heap.size<=rb)(h2:rb<lo):TreeF w' (In w0.heap.size lo hi) a vs:=
 h.keep (λp hp=>World.cell?_of_block (hg.block p.block (h.lt _ hp) (λe=>by injection e with e;unfold In at hp;omega))) (λ_ h=>h) (λb hb=>Nat.lt_of_lt_of_le (h.lt b hb) hg.size)
theorem TreeF.below {w w':World}{P:Nat->Prop}{a:Tree}{vs:List Value}(h:TreeF w P a vs)(hb:Below w.heap.size w w'):TreeF w' P a vs:=
 h.keep (λp hp=>hb.cell (h.lt _ hp)) (λ_ h=>h) (λb hb'=>Nat.lt_of_lt_of_le (h.lt b hb') hb.size)
theorem TreeF.wide {w:World}{lo hi lo' hi':Nat}{a:Tree}{vs:List Value}(h:TreeF w (In w0.heap.size lo hi) a vs)(h1:lo'<=lo)(h2:hi<=hi')(h3:hi'<=w.heap.size)(h4:w0.heap.size<=w.heap.size):TreeF w (In w0.heap.size lo' hi') a vs:=
 h.keep (λ_ _=>rfl) (λb hb=>hb.wide h1 h2) (λb hb=>by unfold In at hb;omega)
theorem TreeF.setRow {w:World}{lo hi q:Nat}{a:Tree}{vs:List Value}{cs:Array Value}(h:TreeF w (In w0.heap.size lo hi) a vs)(h1:w0.heap.size<=q)(h2:q<lo\/hi<=q):TreeF (w.setRow q cs) (In w0.heap.size lo hi) a vs:=
 h.keep (λp hp=>cell_setRow_other _ _ _ _ (by unfold In at hp;omega)) (λ_ h=>h) (λb hb=>by rw[setRow_size];exact h.lt b hb)
theorem Xa {a b:World}{r q:Nat}(h:a.grownBy b (some r))(hq:a.heap.size<=q)(cs:Array Value):a.grownBy (b.setRow q cs) (some r):=
 ⟨h.os,h.tape,h.output,by rw[setRow_size];exact h.size,λk hk hr=>by rw[setRow_other _ _ _ _ (by omega)];exact h.block k hk hr⟩
theorem Uc {a b:World}{r:Nat}(h:a.grownBy b (some r))(o:Obj):a.grownBy (b.alloc o) (some r):=Fa h (Ea r (Br.alloc Lr _))
theorem RdAt.row {i q:Nat}{w:World}(h:RdAt w0 ts A c rb i w)(hq:rb≠q)(h1:w0.heap.size<=q)(cs:Array Value):RdAt w0 ts A c rb i (w.setRow q cs):=
 ⟨by rw[setRow_other _ _ _ _ hq];exact h.cells,below_setRow h.old h1 cs,h.lo,h.le⟩
theorem RdAt.alloc {i:Nat}{w:World}(h:RdAt w0 ts A c rb i w)(o:Obj):RdAt w0 ts A c rb i (w.alloc o):=h.below (Br.alloc Lr _)
end
abbrev z8:Array Value:= #[.int .i64 0,.int .i64 0,.string ⟨#[]⟩,.bool false,.slice none 0 0,.slice none 0 0,.slice none 0 0,.slice none 0 0]
theorem Hc:(Tryz.prog.info? 28).map (·.size)=some 8:=by kernel_rfl
theorem Ba {w w':World}{q rb:Nat}{o:Obj}(h:w.heap[q]? =some o)(hg:w.grownBy w' (some rb))(hq:q≠rb):w'.heap[q]? =some o:=
 (hg.block q (Array.getElem?_eq_some_iff.1 h).1 (λe=>hq (by injection e))).trans h
end
section
open Go.RowKit Tr
variable [Dc]
theorem Ha {ops:Array Oper}{rest:List Oper}{o:Oper}{a:Act}{w:World}{Q:Exit->Act->World->Prop}(hgd:o.guard=none)(x y:Operand)(ho:o.op= .store 28 x y)
 (q:Nat) (hx:a.eval x= .pointer (some ⟨q,0,none⟩)) {k o':Int} {m:ByteArray} {g:Bool} {A1 A2 A3 A4:Option Addr} {n1 n2 n3 n4 c1 c2 c3 c4:Nat}
 (hy:a.eval y= .agg #[.int .i64 k,.int .i64 o',.string m,.bool g,.slice A1 n1 c1,.slice A2 n2 c2,.slice A3 n3 c3,.slice A4 n4 c4]) {u0 u1 u2 u3 u4 u5 u6 u7:Value}
 (hq:w.heap[q]? =some (.cells #[u0,u1,u2,u3,u4,u5,u6,u7] 28 (0,0)))
 (h:wpList Tryz.prog ops Q rest (a.put o.dst undef) (w.setRow q #[.int .i64 k,.int .i64 o',.string m,.bool g,.slice A1 n1 c1,.slice A2 n2 c2,.slice A3 n3 c3,.slice A4 n4 c4])):wpList Tryz.prog ops Q (o::rest) a w:=
 wpList_store_row hgd _ x y ho q _ hx hy _ _ hq Hc rfl (by simp[Value.oneCell']) h
theorem Ka {ops:Array Oper}{rest:List Oper}{o:Oper}{a:Act}{w:World}{Q:Exit->Act->World->Prop}(hgd:o.guard=none)(x:Operand)(ho:o.op= .load 28 x)
 (q:Nat) (hx:a.eval x= .pointer (some ⟨q,0,none⟩)) {u0 u1 u2 u3 u4 u5 u6 u7:Value} (hq:w.heap[q]? =some (.cells #[u0,u1,u2,u3,u4,u5,u6,u7] 28 (0,0)))
 (h:wpList Tryz.prog ops Q rest (a.put o.dst (.agg #[u0,u1,u2,u3,u4,u5,u6,u7])) w):wpList Tryz.prog ops Q (o::rest) a w:=
 wpList_load_row hgd _ x ho q hx _ _ _ _ hq Tryz.underlying28 rfl Hc h
theorem Wl {fn:Func}{p u:Tmp}(h:fn.results= #[.cell p 28,.tmp u])(tmps:Array Value)(w:World)(q:Nat){u0 u1 u2 u3 u4 u5 u6 u7 x:Value}
 (hp:tmps.getD p undef= .pointer (some ⟨q,0,none⟩)) (hx:tmps.getD u undef=x) (hq:w.heap[q]? =some (.cells #[u0,u1,u2,u3,u4,u5,u6,u7] 28 (0,0))):
 (results fn tmps).run Tryz.prog w= .ok (.tuple #[.agg #[u0,u1,u2,u3,u4,u5,u6,u7],x]) w:=
 Ie h tmps w q _ _ _ _ _ hp hx hq Tryz.underlying28 rfl Hc
theorem Rga {w0:World}{q:Nat}{W2:World}{k o:Int}{m:List UInt8}{l:List Tree}{us:List Value}{cs:Array Value}{T:TypeId}(hk:Jd [k,o])(hm:m.length<=140737488355328)(hf:l.length<=1000)(hl:TreesF W2 (In w0.heap.size (q+1) W2.heap.size) l us)
 (h0:w0.heap.size<=q) (hq:q<W2.heap.size):
 TreeF ((W2.alloc (.cells us.toArray T)).setRow q cs) (In w0.heap.size q ((W2.alloc (.cells us.toArray T)).setRow q cs).heap.size) (Pr.node k o m l) (Qa k o m Rt.none_ [] l.length none none none (some ⟨W2.heap.size,0,none⟩) 0 0 0 l.length):=by
 have hsz:((W2.alloc (.cells us.toArray T)).setRow q cs).heap.size=W2.heap.size+1:=by rw[setRow_size];simp
 have hb:Below W2.heap.size W2 (W2.alloc (.cells us.toArray T)):=Br.alloc Lr _;have hk2:∀p:Addr,In w0.heap.size (q+1) W2.heap.size p.block->((W2.alloc (.cells us.toArray T)).setRow q cs).cell? p=W2.cell? p:=λp hp=>by
  rw[cell_setRow_other _ _ _ _ (by unfold In at hp;omega)];exact hb.cell (hl.lt _ hp)
 refine TreeF.node hk hm ⟨Lr,by omega,by omega⟩ (hl.keep hk2 (λb hb=>?_) (λb hb=>?_)) (.inr ⟨W2.heap.size,0,rfl,?_,λj v hv=>?_⟩)
 ·unfold In at*;omega
 ·unfold In at hb;omega
 ·unfold In;omega
 rw[cell_setRow_other _ _ _ _ (by simp;omega),Nat.zero_add];refine(cell_of_row _ W2.heap.size j _ _ _ (heap_alloc_new W2 _)).trans ?_;rw[List.getElem?_toArray];exact hv
theorem Za {k o:Int}(h:0<=k/\k<=1000/\0<=o/\o<=1000):Jd [k,o]:=Hd (by omega) (by omega)
def x0:C8:=⟨0,0,[],false,none,0,0,none,0,0,none,0,0,none,0,0⟩
section
variable {w0 : World} {ts : List Tk.Tok} {A : Option Addr} {c rb j : Nat} {w w' w1 w2 : World}
theorem t0 (w:World)(r:Nat):Hid (w.grownBy w (some r)):=Qd (Ef w r)
theorem tt {a b d:World}{r:Nat}(h:Hid (a.grownBy b (some r)))(k:Hid (b.grownBy d (some r))):Hid (a.grownBy d (some r)):=Qd (Fa h.out k.out)
theorem tA {a b:World}{r:Nat}(h:Hid (a.grownBy b (some r)))(o:Obj):Hid (a.grownBy (b.alloc o) (some r)):=Qd (Uc h.out o)
theorem rA {q:Nat}{o:Obj}(h:Hid (w.heap[q]? =some o)):Hid (∀ob,(w.alloc ob).heap[q]? =some o):=Qd (λob=>(heap_alloc_old w ob (Array.getElem?_eq_some_iff.1 h.out).1).trans h.out)
theorem rg {q:Nat}{o:Obj}(h:Hid (w.heap[q]? =some o))(hg:Hid (w.grownBy w' (some rb)))(hq:q≠rb):Hid (w'.heap[q]? =some o):=Qd (Ba h.out hg.out hq)
theorem Jm (h:Hid (RdAt w0 ts A c rb j w))(o:Obj):Hid (RdAt w0 ts A c rb j (w.alloc o)):=Qd (h.out.alloc o)
theorem Ab (x:C8)(h:Hid (RdAt w0 ts A c rb j w)):∃w',Hid (w'=w.alloc (.cells #[.int .i64 x.k,.int .i64 x.o,.string ⟨x.m.toArray⟩,.bool x.g,.slice x.A1 x.n1 x.c1,.slice x.A2 x.n2 x.c2,.slice x.A3 x.n3 x.c3,.slice x.A4 x.n4 x.c4] 28))/\Hid (w'.heap[w.heap.size]? =some (.cells #[.int .i64 x.k,.int .i64 x.o,.string ⟨x.m.toArray⟩,.bool x.g,.slice x.A1 x.n1 x.c1,.slice x.A2 x.n2 x.c2,.slice x.A3 x.n3 x.c3,.slice x.A4 x.n4 x.c4] 28 (0,0)))/\
 w.heap.size+1<=w'.heap.size/\w'.heap.size<=w.heap.size+1/\Hid (w.grownBy w' (some rb))/\Hid (RdAt w0 ts A c rb j w'):=
 ⟨_,Qd rfl,Qd (heap_alloc_new _ _),by simp,by simp,Qd (Ea rb (Br.alloc Lr _)),Jm h _⟩
theorem Km (hT:Yd w0 ts A c)(n:Nat)(m:Int)(hnm:(n:Int)=m)(h:Hid (RdAt w0 ts A c rb j w))(hn:j+n<=ts.length):∃w',Hid (w'=w.setCell ⟨rb,1,none⟩ (.int .i64 ((j:Int)+m)))/\w.heap.size<=w'.heap.size/\Hid (w.grownBy w' (some rb))/\Hid (RdAt w0 ts A c rb (j+n) w'):=by
 subst hnm;have hm:=h.out.move hn;rw[show((j+n:Nat):Int)=(j:Int)+(n:Int) by omega] at hm;have hg:w.grownBy (w.setCell ⟨rb,1,none⟩ (.int .i64 ((j:Int)+(n:Int)))) (some rb):=X9 (Ef _ _) 1 _;exact⟨_,Qd rfl,hg.size,Qd hg,Qd hm⟩
theorem Mh {Fn:FuncId}{args:Array Value}{r r':Bool}{K:Ending->World->Prop}(P:Calls Tryz.prog Fn args w (La w r))(hr:r=r')(HR:Hid (RdAt w0 ts A c rb j w))
 (k:∀w',Hid (w.grownBy w' (some rb))->Hid (RdAt w0 ts A c rb j w')->w.heap.size<=w'.heap.size->K (.returned (.bool r')) w'):Calls Tryz.prog Fn args w K:=by
 subst hr;exact P.mono (by rintro e w' ⟨rfl,hb⟩;exact k w' (Qd (Ea rb hb)) (Qd (HR.out.below hb)) hb.size)
theorem Al {Fn:FuncId}{args:Array Value}{r r':Int}{K:Ending->World->Prop}(P:Calls Tryz.prog Fn args w (Im w r))(hr:r=r')(HR:Hid (RdAt w0 ts A c rb j w))
 (k:∀w',Hid (w.grownBy w' (some rb))->Hid (RdAt w0 ts A c rb j w')->w.heap.size<=w'.heap.size->K (.returned (.int .i64 r')) w'):Calls Tryz.prog Fn args w K:=by
 subst hr;exact P.mono (by rintro e w' ⟨rfl,hb⟩;exact k w' (Qd (Ea rb hb)) (Qd (HR.out.below hb)) hb.size)
theorem Wr {x:Int}{K:Ending->World->Prop}(hT:Yd w0 ts A c)(hx:x≠0)(hy:(Pr.gl (ts.drop j) 0==x)=true)(HR:Hid (RdAt w0 ts A c rb j w))
 (k:∀w',Hid (w.grownBy w' (some rb))->Hid (RdAt w0 ts A c rb (j+1) w')->w.heap.size<=w'.heap.size->K (.returned (.bool true)) w'):Calls Tryz.prog 54 #[.pointer (some ⟨rb,0,none⟩),.int .i64 x] w K:=by
 have P:=Fd hT x hx j w HR.out;rw[hy] at P;exact P.mono (by rintro e w' ⟨rfl,hR,hG⟩;exact k w' (Qd hG) (Qd hR) hG.size)
theorem Xr {x:Int}{K:Ending->World->Prop}(hT:Yd w0 ts A c)(hx:x≠0)(hy:(Pr.gl (ts.drop j) 0==x)=false)(HR:Hid (RdAt w0 ts A c rb j w))
 (k:∀w',Hid (w.grownBy w' (some rb))->Hid (RdAt w0 ts A c rb j w')->w.heap.size<=w'.heap.size->K (.returned (.bool false)) w'):Calls Tryz.prog 54 #[.pointer (some ⟨rb,0,none⟩),.int .i64 x] w K:=by
 have P:=Fd hT x hx j w HR.out;rw[hy] at P;exact P.mono (by rintro e w' ⟨rfl,hR,hG⟩;exact k w' (Qd hG) (Qd hR) hG.size)
theorem eN {Fn:FuncId}{args:Array Value}{K:Ending->World->Prop}(P:Calls Tryz.prog Fn args w (EOut w0 ts A c rb w none))
 (k:∀(x:C8) j w',Hid (RdAt w0 ts A c rb j w')->Hid (w.grownBy w' (some rb))->w.heap.size<=w'.heap.size->K (.returned (.tuple #[.agg #[.int .i64 x.k,.int .i64 x.o,.string ⟨x.m.toArray⟩,.bool x.g,.slice x.A1 x.n1 x.c1,.slice x.A2 x.n2 x.c2,.slice x.A3 x.n3 x.c3,.slice x.A4 x.n4 x.c4],.bool false])) w'):Calls Tryz.prog Fn args w K:=
 P.mono (by rintro e w' ⟨x,j,hR,hG,rfl⟩;exact k x j w' (Qd hR) (Qd hG) hG.size)
theorem eS {Fn:FuncId}{args:Array Value}{t:Tree}{U:List Tk.Tok}{K:Ending->World->Prop}(P:Calls Tryz.prog Fn args w (EOut w0 ts A c rb w (some (t,U))))
 (k:∀(x:C8) j w',U=ts.drop j->Hid (RdAt w0 ts A c rb j w')->Hid (w.grownBy w' (some rb))->w.heap.size<=w'.heap.size->Hid (TreeF w' (In w0.heap.size w.heap.size w'.heap.size) t x.l)->K (.returned (.tuple #[.agg #[.int .i64 x.k,.int .i64 x.o,.string ⟨x.m.toArray⟩,.bool x.g,.slice x.A1 x.n1 x.c1,.slice x.A2 x.n2 x.c2,.slice x.A3 x.n3 x.c3,.slice x.A4 x.n4 x.c4],.bool true])) w'):Calls Tryz.prog Fn args w K:=
 P.mono (by rintro e w' ⟨x,j,hR,hG,rfl,hU,hT⟩;exact k x j w' hU (Qd hR) (Qd hG) hG.size (Qd hT))
theorem gw {lo hi lo':Nat}{a:Tree}{vs:List Value}(h:Hid (TreeF w1 (In w0.heap.size lo hi) a vs))(hg:Hid (w1.grownBy w2 (some rb)))(HR:Hid (RdAt w0 ts A c rb j w2))(h2:rb<lo)(h3:lo'<=lo)(h4:hi<=w2.heap.size):Hid (TreeF w2 (In w0.heap.size lo' w2.heap.size) a vs):=
 Qd ((h.out.grown hg.out HR.out.lo h2).wide h3 h4 Lr HR.out.old.size)
theorem Rb {fn:Func}{p u:Tmp}{a:Act}{q:Nat}{old:Array Value}{u0 u1 u2 u3 u4 u5 u6 u7 x:Value}{R:Ending->World->Prop}(h:fn.results= #[.cell p 28,.tmp u])
 (hp:a.tmps.getD p undef= .pointer (some ⟨q,0,none⟩)) (hx:a.tmps.getD u undef=x) (hd:a.defers=[]) (hq:w.heap[q]? =some (.cells old 28 (0,0)))
 (hR:R (.returned (.tuple #[.agg #[u0,u1,u2,u3,u4,u5,u6,u7],x])) (w.setRow q #[u0,u1,u2,u3,u4,u5,u6,u7])):bodyPost Tryz.prog fn R .ret a (w.setRow q #[u0,u1,u2,u3,u4,u5,u6,u7]):=
 bodyPost_ret (Wl h _ _ q hp hx (setRow_heap _ _ _ _ _ _ hq)) hd hR
theorem dN {x:C8}{cs:Array Value}(HR:Hid (RdAt w0 ts A c rb j w'))(HG:Hid (w.grownBy w' (some rb)))(h1:rb<w.heap.size)(h2:w0.heap.size<=w.heap.size):
 EOut w0 ts A c rb w none (.returned (.tuple #[.agg #[.int .i64 x.k,.int .i64 x.o,.string ⟨x.m.toArray⟩,.bool x.g,.slice x.A1 x.n1 x.c1,.slice x.A2 x.n2 x.c2,.slice x.A3 x.n3 x.c3,.slice x.A4 x.n4 x.c4],.bool false])) (w'.setRow w.heap.size cs):=
 ⟨x,j,HR.out.row (by omega) h2 _,Xa HG.out Lr _,rfl⟩
theorem dT {x:C8}{cs:Array Value}{t:Tree}{lo hi:Nat}(T:Hid (TreeF w1 (In w0.heap.size lo hi) t x.l))(hg:Hid (w1.grownBy w' (some rb)))(HR:Hid (RdAt w0 ts A c rb j w'))(HG:Hid (w.grownBy w' (some rb)))(h1:rb<w.heap.size)(h2:w0.heap.size<=w.heap.size)(h3:w.heap.size<lo)(h4:hi<=w'.heap.size):
 EOut w0 ts A c rb w (some (t,ts.drop j)) (.returned (.tuple #[.agg #[.int .i64 x.k,.int .i64 x.o,.string ⟨x.m.toArray⟩,.bool x.g,.slice x.A1 x.n1 x.c1,.slice x.A2 x.n2 x.c2,.slice x.A3 x.n3 x.c3,.slice x.A4 x.n4 x.c4],.bool true])) (w'.setRow w.heap.size cs):=by
 have hwo:=HR.out.old.size;have hsz:(w'.setRow w.heap.size cs).heap.size=w'.heap.size:=setRow_size _ _ _;refine⟨x,j,HR.out.row (by omega) h2 _,Xa HG.out Lr _,rfl,rfl,?_⟩;exact((T.out.grown hg.out HR.out.lo (by omega)).setRow (q:=w.heap.size) (cs:=cs) h2 (.inl h3)).wide (by omega) (by omega) Lr (by omega)
theorem Jo {k o:Int}{m:List UInt8}{l:List Tree}{us:List Value}{n:Nat}{cs:Array Value}{T:TypeId}(hk:Jd [k,o])(hm:m.length<=140737488355328)(hn:l.length=n)(hf:n<=1000)(hl:TreesF w' (In w0.heap.size (w.heap.size+1) w'.heap.size) l us)
 (HR:Hid (RdAt w0 ts A c rb j w')) (HG:Hid (w.grownBy w' (some rb))) (h1:rb<w.heap.size) (h2:w0.heap.size<=w.heap.size) (h3:w.heap.size<w'.heap.size):
 EOut w0 ts A c rb w (some (Pr.node k o m l,ts.drop j)) (.returned (.tuple #[.agg #[.int .i64 k,.int .i64 o,.string ⟨m.toArray⟩,.bool false,.slice none 0 0,.slice none 0 0,.slice none 0 0,.slice (some ⟨w'.heap.size,0,none⟩) n n],.bool true])) ((w'.alloc (.cells us.toArray T)).setRow w.heap.size cs):=by
 subst hn;exact⟨⟨k,o,m,false,none,0,0,none,0,0,none,0,0,some ⟨w'.heap.size,0,none⟩,l.length,l.length⟩,j,(HR.out.alloc _).row (by omega) h2 _,Xa (Uc HG.out _) Lr _,rfl,rfl,Rga hk hm hf hl h2 h3⟩
end
end
section
open Go.RowKit Tr
variable [Dc]
section
variable {w0 : World} {ts : List Tk.Tok} {A : Option Addr} {c rb : Nat}
theorem Sga (F:Nat)(hT:Yd w0 ts A c)(hB:Tf w0 ts A c rb 141 Pr.behind F)(hF:Tf w0 ts A c rb 87 Pr.func F)(hE:Tf w0 ts A c rb 88 Pr.expr F):
 Tf w0 ts A c rb 88 Pr.expr (F+1):=by
 intro f hf i w r h hp;cases f with
 |zero=>cases hp
 |succ f=>
  have hfF:f<=F:=by omega
  rw[Pr.expr] at hp;obtain⟨W,hW⟩:∃W,W=w.alloc (.cells z8 28):=⟨_,rfl⟩;have hWb:Below w.heap.size w W:=by rw[hW];exact Br.alloc Lr _
  have hs0:w.heap.size+1<=W.heap.size:=by rw[hW];simp
  have hz0:W.heap.size<=w.heap.size+1:=by rw[hW];simp
  have HQ:Hid (W.heap[w.heap.size]? =some (.cells z8 28 (0,0))):=Qd (by rw[hW];exact heap_alloc_new w _);have HRW:=Qd (h.below hWb);have hlt:=h.lt;have hlo:=h.lo;have hq0:w0.heap.size<=w.heap.size:=h.old.size;have HW:=Qd hW;have HG0:Hid (w.grownBy W (some rb)):=Qd (Ea rb hWb);clear hW hWb h;by_cases hb:Pr.begA (ts.drop i)=true
  ·rw[if_pos hb] at hp
   go_enter Tryz.func88,Tryz.ntmps88
   go_upto_region 1 with fail
   rw[<-HW.out];go_wp2_with fail
   refine Mh (Rh hT i W HRW.out) hb HRW ?_;intro w1 G1 HR1 hs1;cases r with
   |none=>
    go_wp2_with fail
    refine eN (hB f hfF (i) w1 none HR1.out hp) ?_;intro x2 j2 w2 HR2 G2 hs2;have QF0:=rg HQ (tt G1 G2) (by omega);go_wp2_with (with_reducible refine Ha rfl (.tmp 2) (.tmp 11) rfl w.heap.size rfl rfl QF0.out ?_)
    (try simp only[Exit.inBlock,Exit.then])
    refine Rb (by rfl) (by rfl) (by rfl) rfl QF0.out ?_;exact dN HR2 (tt HG0 (tt G1 G2)) hlt hq0
   |some p=>
    obtain⟨t,U⟩:=p;go_wp2_with fail
    refine eS (hB f hfF (i) w1 (some (t,U)) HR1.out hp) ?_;intro x2 j2 w2 hU2 HR2 G2 hs2 T2;subst hU2;have QF0:=rg HQ (tt G1 G2) (by omega);go_wp2_with (with_reducible refine Ha rfl (.tmp 2) (.tmp 11) rfl w.heap.size rfl rfl QF0.out ?_)
    (try simp only[Exit.inBlock,Exit.then])
    refine Rb (by rfl) (by rfl) (by rfl) rfl QF0.out ?_;exact dT T2 (t0 _ rb) HR2 (tt HG0 (tt G1 G2)) hlt hq0 (by omega) (by omega)
  rw[if_neg hb] at hp;replace hb:Pr.begA (ts.drop i)=false:=by simpa using hb
  go_enter Tryz.func88,Tryz.ntmps88
  go_upto_region 1 with fail
  rw[<-HW.out];go_wp2_with fail
  refine Mh (Rh hT i W HRW.out) hb HRW ?_;intro w1 G1 HR1 hs1;cases h1:Pr.func f (ts.drop i) with
  |none=>rw[h1] at hp;cases hp
  |some s1=>
   cases s1 with
   |none=>
    rw[h1] at hp;have hp2:r=none:=(Option.some.inj hp).symm;subst hp2;clear hp;go_wp2_with fail
    refine eN (hF f hfF (i) w1 none HR1.out h1) ?_;intro x2 j2 w2 HR2 G2 hs2;obtain⟨w3,HW3,B3,hs3,hz3,G3,HR3⟩:=Ab x2 HR2;go_upto_region 4 with fail
    rw[<-HW3.out];have QF0:=rg HQ (tt G1 (tt G2 G3)) (by omega);go_wp2_with (with_reducible refine Ha rfl (.tmp 2) (.tmp 20) rfl w.heap.size rfl rfl QF0.out ?_)
    (try simp only[Exit.inBlock,Exit.then])
    refine Rb (by rfl) (by rfl) (by rfl) rfl QF0.out ?_;exact dN (x:=x0) HR3 (tt HG0 (tt G1 (tt G2 G3))) hlt hq0
   |some p1=>
    obtain⟨t1,U1⟩:=p1;have hp2:=hp;rw[h1] at hp2;clear hp;go_wp2_with fail
    refine eS (hF f hfF (i) w1 (some (t1,U1)) HR1.out h1) ?_;intro x2 j2 w2 hU2 HR2 G2 hs2 T2;subst hU2;obtain⟨w3,HW3,B3,hs3,hz3,G3,HR3⟩:=Ab x2 HR2;go_upto_region 4 with fail
    rw[<-HW3.out];have hp:Pr.bnd (Pr.expr f (ts.drop j2)) (λe V=>Pr.ret (Pr.node 11 0 [] [t1,e]) V)=some r:=hp2;clear hp2;cases h2:Pr.expr f (ts.drop j2) with
    |none=>rw[h2] at hp;cases hp
    |some s2=>
     cases s2 with
     |none=>
      rw[h2] at hp;have hp2:r=none:=(Option.some.inj hp).symm;subst hp2;clear hp;go_wp2_with fail
      refine eN (hE f hfF (j2) w3 none HR3.out h2) ?_;intro x4 j4 w4 HR4 G4 hs4;obtain⟨w5,HW5,B5,hs5,hz5,G5,HR5⟩:=Ab x4 HR4;go_upto_region 7 with fail
      rw[<-HW5.out];have L4:=rg B3 (tt G4 G5) (by omega);have L6:=rg B5 (t0 _ rb) (by omega);have QF0:=rg HQ (tt G1 (tt G2 (tt G3 (tt G4 G5)))) (by omega);have QF:=rA QF0;go_wp2_with (first|(with_reducible refine Ka rfl (.tmp 4) rfl (w2.heap.size) rfl L4.out ?_) |(with_reducible refine Ka rfl (.tmp 6) rfl (w4.heap.size) rfl L6.out ?_) |(with_reducible refine Ha rfl (.tmp 2) (.tmp 29) rfl w.heap.size rfl rfl (QF.out _) ?_))
      (try simp only[Exit.inBlock,Exit.then])
      refine Rb (by rfl) (by rfl) (by rfl) rfl (QF.out _) ?_;exact dN (x:=⟨11,0,[],false,none,0,0,none,0,0,none,0,0,some ⟨w5.heap.size,0,none⟩,2,2⟩) (Jm HR5 _) (tA (tt HG0 (tt G1 (tt G2 (tt G3 (tt G4 G5))))) _) hlt hq0
     |some p2=>
      obtain⟨t2,U2⟩:=p2;have hp2:=hp;rw[h2] at hp2;clear hp;have hp3:r=some (Pr.node 11 0 [] [t1,t2],U2):=(Option.some.inj hp2).symm;subst hp3;clear hp2;go_wp2_with fail
      refine eS (hE f hfF (j2) w3 (some (t2,U2)) HR3.out h2) ?_;intro x4 j4 w4 hU4 HR4 G4 hs4 T4;subst hU4;obtain⟨w5,HW5,B5,hs5,hz5,G5,HR5⟩:=Ab x4 HR4;go_upto_region 7 with fail
      rw[<-HW5.out];have L4:=rg B3 (tt G4 G5) (by omega);have L6:=rg B5 (t0 _ rb) (by omega);have QF0:=rg HQ (tt G1 (tt G2 (tt G3 (tt G4 G5)))) (by omega);have QF:=rA QF0;have M0:=gw (lo':=w.heap.size+1) T2 (tt G3 (tt G4 G5)) HR5 (by omega) (by omega) (by omega);have M1:=gw (lo':=w.heap.size+1) T4 G5 HR5 (by omega) (by omega) (by omega);go_wp2_with (first|(with_reducible refine Ka rfl (.tmp 4) rfl (w2.heap.size) rfl L4.out ?_) |(with_reducible refine Ka rfl (.tmp 6) rfl (w4.heap.size) rfl L6.out ?_) |(with_reducible refine Ha rfl (.tmp 2) (.tmp 29) rfl w.heap.size rfl rfl (QF.out _) ?_))
      (try simp only[Exit.inBlock,Exit.then])
      refine Rb (by rfl) (by rfl) (by rfl) rfl (QF.out _) ?_;exact Jo (Za (by omega)) (by simp) rfl (by decide) (TreesF.cons M0.out (TreesF.cons M1.out (TreesF.nil M0.out.lt))) HR5 (tt HG0 (tt G1 (tt G2 (tt G3 (tt G4 G5))))) hlt hq0 (by omega)
end
end
section
open Go.RowKit Tr
variable [Dc]
section
variable {w0 : World} {ts : List Tk.Tok} {A : Option Addr} {c rb : Nat}
theorem drop_tail (T:List Tk.Tok)(i:Nat):(T.drop i).tail=T.drop (i+1):=by simp
def Cka (w0:World)(ts:List Tk.Tok)(A:Option Addr)(c rb:Nat)(Fn:FuncId)(pr:Nat->Bool->List Tk.Tok->Pr.Res Tree)(F:Nat):Prop:=
 ∀f,f<=F->∀(b:Bool) (i:Nat) (w:World) r,RdAt w0 ts A c rb i w->pr f b (ts.drop i)=some r->Calls Tryz.prog Fn #[.pointer (some ⟨rb,0,none⟩),.bool b] w (EOut w0 ts A c rb w r)
theorem Tga (F:Nat)(hT:Yd w0 ts A c)(hF:Tf w0 ts A c rb 87 Pr.func F)(hE:Tf w0 ts A c rb 88 Pr.expr F):
 Cka w0 ts A c rb 53 Pr.stmt (F+1):=by
 intro f hf b i w r h hp;cases f with
 |zero=>cases hp
 |succ f=>
  have hfF:f<=F:=by omega
  rw[Pr.stmt] at hp;obtain⟨W,hW⟩:∃W,W=w.alloc (.cells z8 28):=⟨_,rfl⟩;have hWb:Below w.heap.size w W:=by rw[hW];exact Br.alloc Lr _
  have hs0:w.heap.size+1<=W.heap.size:=by rw[hW];simp
  have hz0:W.heap.size<=w.heap.size+1:=by rw[hW];simp
  have HQ:Hid (W.heap[w.heap.size]? =some (.cells z8 28 (0,0))):=Qd (by rw[hW];exact heap_alloc_new w _);have HRW:=Qd (h.below hWb);have hlt:=h.lt;have hlo:=h.lo;have hq0:w0.heap.size<=w.heap.size:=h.old.size;have HW:=Qd hW;have HG0:Hid (w.grownBy W (some rb)):=Qd (Ea rb hWb);clear hW hWb h;by_cases hk:Pr.kd (ts.drop i) 0=3
  ·by_cases hg:Pr.gl (ts.drop i) 1=8592
   ·have hil2:i+2<=ts.length:=by have h1:=Y9 (by decide) hg;rw[List.length_drop] at h1;omega
    rw[if_pos ⟨hk,hg⟩] at hp;have hil:i<ts.length:=by
     rw[Lk] at hk;by_cases h:i+0<ts.length
     ·omega
     rw[dif_neg h] at hk;cases hk
    have hnm:((ts.drop i).getD 0 Tk.none_).s=(ts[i]'hil).s:=by rw[List.getD_eq_getElem?_getD,List.getElem?_drop,Nat.add_zero,List.getElem?_eq_getElem hil];rfl
    rw[hnm,List.drop_drop] at hp;have hns:=(hT.ok i hil).s;clear hnm;go_enter Tryz.func53,Tryz.ntmps53
    go_upto_region 1 with fail
    rw[<-HW.out];go_wp2_with fail
    refine Al (Nj hT i W HRW.out) hk HRW ?_;intro w1 G1 HR1 hs1;go_wp2_with fail
    refine Al (Bv hT i w1 HR1.out) hg HR1 ?_;intro w2 G2 HR2 hs2;have p0:=HR2.out.c0;have p1:=HR2.out.c1;obtain⟨g,m1,m2,lv,hgA,hg,hr,-⟩:=Vp hT HR2.out hil;rw[hgA] at p0;clear hgA;have qt5:w2.cell? ⟨g,i*8+5,none⟩=some (.string ⟨(ts[i]'hil).s.toArray⟩):=hr 5 _ rfl;have hi0:(0:Int)<=(i:Int):=by omega
    have hi1:(i:Int)<(ts.length:Int):=by omega
    clear hr;go_wp2_with fail
    go_quiet (fail)
    obtain⟨w3,hw3⟩:∃w3,w3=w2.drewN nq:=⟨_,rfl⟩;rw[<-hw3];have hb3:Below w2.heap.size w2 w3:=by rw[hw3];exact Qb Br _
    have G3:=Qd (Ea rb hb3);have HR3:=Qd (HR2.out.below hb3);have hs3:=hb3.size;clear hb3 hw3 p0 p1 hg hi0 hi1 qt5;generalize(ts[i]'hil).s=nm at*;have p1:=HR3.out.c1;have f1:=HR3.out.fz 1;have hle4:=HR3.out.le;have hfw4:=hT.few;obtain⟨w4,HW4,hs4,G4,HR4⟩:=Km hT 2 2 rfl HR3 (by omega);go_upto_region 4 with fail
    rw[<-HW4.out];clear p1 f1;cases h1:Pr.func f (ts.drop (i+2)) with
    |none=>rw[h1] at hp;cases hp
    |some s1=>
     cases s1 with
     |none=>
      rw[h1] at hp;have hp2:r=none:=(Option.some.inj hp).symm;subst hp2;clear hp;go_wp2_with fail
      refine eN (hF f hfF (i+2) w4 none HR4.out h1) ?_;intro x5 j5 w5 HR5 G5 hs5;obtain⟨w6,HW6,B6,hs6,hz6,G6,HR6⟩:=Ab x5 HR5;go_upto_region 5 with fail
      rw[<-HW6.out];have L7:=rg B6 (t0 _ rb) (by omega);have QF0:=rg HQ (tt G1 (tt G2 (tt G3 (tt G4 (tt G5 G6))))) (by omega);have QF:=rA QF0;go_wp2_with (first|(with_reducible refine Ka rfl (.tmp 7) rfl (w5.heap.size) rfl L7.out ?_) |(with_reducible refine Ha rfl (.tmp 4) (.tmp 47) rfl w.heap.size rfl rfl (QF.out _) ?_))
      (try simp only[Exit.inBlock,Exit.then])
      refine Rb (by rfl) (by rfl) (by rfl) rfl (QF.out _) ?_;exact dN (x:=⟨27,0,nm,false,none,0,0,none,0,0,none,0,0,some ⟨w6.heap.size,0,none⟩,1,1⟩) (Jm HR6 _) (tA (tt HG0 (tt G1 (tt G2 (tt G3 (tt G4 (tt G5 G6)))))) _) hlt hq0
     |some p1=>
      obtain⟨t1,U1⟩:=p1;have hp2:=hp;rw[h1] at hp2;clear hp;have hp3:r=some (Pr.node 27 0 nm [t1],U1):=(Option.some.inj hp2).symm;subst hp3;clear hp2;go_wp2_with fail
      refine eS (hF f hfF (i+2) w4 (some (t1,U1)) HR4.out h1) ?_;intro x5 j5 w5 hU5 HR5 G5 hs5 T5;subst hU5;obtain⟨w6,HW6,B6,hs6,hz6,G6,HR6⟩:=Ab x5 HR5;go_upto_region 5 with fail
      rw[<-HW6.out];have L7:=rg B6 (t0 _ rb) (by omega);have QF0:=rg HQ (tt G1 (tt G2 (tt G3 (tt G4 (tt G5 G6))))) (by omega);have QF:=rA QF0;have M0:=gw (lo':=w.heap.size+1) T5 G6 HR6 (by omega) (by omega) (by omega);go_wp2_with (first|(with_reducible refine Ka rfl (.tmp 7) rfl (w5.heap.size) rfl L7.out ?_) |(with_reducible refine Ha rfl (.tmp 4) (.tmp 47) rfl w.heap.size rfl rfl (QF.out _) ?_))
      (try simp only[Exit.inBlock,Exit.then])
      refine Rb (by rfl) (by rfl) (by rfl) rfl (QF.out _) ?_;exact Jo (Za (by omega)) (by omega) rfl (by decide) (TreesF.cons M0.out (TreesF.nil M0.out.lt)) HR6 (tt HG0 (tt G1 (tt G2 (tt G3 (tt G4 (tt G5 G6)))))) hlt hq0 (by omega)
   rw[if_neg (λh=>hg h.2)] at hp;have ng:(Pr.gl (ts.drop i) 1==8592)=false:=by simp[hg]
   go_enter Tryz.func53,Tryz.ntmps53
   go_upto_region 1 with fail
   rw[<-HW.out];go_wp2_with fail
   refine Al (Nj hT i W HRW.out) hk HRW ?_;intro w1 G1 HR1 hs1;go_wp2_with fail
   refine Al (Bv hT i w1 HR1.out) rfl HR1 ?_;intro w2 G2 HR2 hs2;cases h1:Pr.expr f (ts.drop i) with
   |none=>rw[h1] at hp;cases hp
   |some s1=>
    cases s1 with
    |none=>
     rw[h1] at hp;have hp2:r=none:=(Option.some.inj hp).symm;subst hp2;clear hp;go_wp2_with fail
     refine eN (hE f hfF (i) w2 none HR2.out h1) ?_;intro x3 j3 w3 HR3 G3 hs3;obtain⟨w4,HW4,B4,hs4,hz4,G4,HR4⟩:=Ab x3 HR3;go_upto_region 7 with fail
     rw[<-HW4.out];have L9:=rg B4 (t0 _ rb) (by omega);have QF0:=rg HQ (tt G1 (tt G2 (tt G3 G4))) (by omega);go_wp2_with (first|(with_reducible refine Ka rfl (.tmp 9) rfl (w3.heap.size) rfl L9.out ?_) |(with_reducible refine Ha rfl (.tmp 4) (.tmp 65) rfl w.heap.size rfl rfl QF0.out ?_))
     (try simp only[Exit.inBlock,Exit.then])
     refine Rb (by rfl) (by rfl) (by rfl) rfl QF0.out ?_;exact dN HR4 (tt HG0 (tt G1 (tt G2 (tt G3 G4)))) hlt hq0
    |some p1=>
     obtain⟨t1,U1⟩:=p1;have hp2:=hp;rw[h1] at hp2;clear hp;go_wp2_with fail
     refine eS (hE f hfF (i) w2 (some (t1,U1)) HR2.out h1) ?_;intro x3 j3 w3 hU3 HR3 G3 hs3 T3;subst hU3;obtain⟨w4,HW4,B4,hs4,hz4,G4,HR4⟩:=Ab x3 HR3;go_upto_region 7 with fail
     rw[<-HW4.out];cases b
     ·have hp3:r=some (t1,ts.drop j3):=(Option.some.inj hp2).symm
      subst hp3;have L9:=rg B4 (t0 _ rb) (by omega);have QF0:=rg HQ (tt G1 (tt G2 (tt G3 G4))) (by omega);go_wp2_with (first|(with_reducible refine Ka rfl (.tmp 9) rfl (w3.heap.size) rfl L9.out ?_) |(with_reducible refine Ha rfl (.tmp 4) (.tmp 65) rfl w.heap.size rfl rfl QF0.out ?_))
      (try simp only[Exit.inBlock,Exit.then])
      refine Rb (by rfl) (by rfl) (by rfl) rfl QF0.out ?_;exact dT T3 G4 HR4 (tt HG0 (tt G1 (tt G2 (tt G3 G4)))) hlt hq0 (by omega) (by omega)
     by_cases hc:Pr.gl (ts.drop j3) 0=58
     ·have hce:(Pr.gl (ts.drop j3) 0==58)=true:=by simp[hc]
      have hp3:(if Pr.gl (ts.drop j3).tail 0=58 then Pr.bnd (Pr.expr f (ts.drop j3).tail.tail) λe2 V=>Pr.ret (Pr.node 26 0 [] [t1,e2]) V else Pr.bnd (Pr.expr f (ts.drop j3).tail) λe2 V=>Pr.ret (Pr.node 25 0 [] [t1,e2]) V)=some r:=by rw[<-hp2];exact(if_pos ⟨rfl,hc⟩).symm
      rw[drop_tail,drop_tail] at hp3;clear hp2;go_wp2_with fail
      refine Wr hT (by decide) hce HR4 ?_;intro w5 G5 HR5 hs5;clear hce hc;by_cases hd:Pr.gl (ts.drop (j3+1)) 0=58
      ·have hde:(Pr.gl (ts.drop (j3+1)) 0==58)=true:=by simp[hd]
       rw[if_pos hd] at hp3;go_wp2_with fail
       refine Wr hT (by decide) hde HR5 ?_;intro w6 G6 HR6 hs6;clear hde hd;have hp:=hp3;clear hp3;cases h2:Pr.expr f (ts.drop (j3+1+1)) with
       |none=>rw[h2] at hp;cases hp
       |some s2=>
        cases s2 with
        |none=>
         rw[h2] at hp;have hp2:r=none:=(Option.some.inj hp).symm;subst hp2;clear hp;go_wp2_with fail
         refine eN (hE f hfF (j3+1+1) w6 none HR6.out h2) ?_;intro x7 j7 w7 HR7 G7 hs7;obtain⟨w8,HW8,B8,hs8,hz8,G8,HR8⟩:=Ab x7 HR7;go_upto_region 13 with fail
         rw[<-HW8.out];have L9:=rg B4 (tt G5 (tt G6 (tt G7 G8))) (by omega);have L12:=rg B8 (t0 _ rb) (by omega);have QF0:=rg HQ (tt G1 (tt G2 (tt G3 (tt G4 (tt G5 (tt G6 (tt G7 G8))))))) (by omega);have QF:=rA QF0;go_wp2_with (first|(with_reducible refine Ka rfl (.tmp 9) rfl (w3.heap.size) rfl L9.out ?_) |(with_reducible refine Ka rfl (.tmp 12) rfl (w7.heap.size) rfl L12.out ?_) |(with_reducible refine Ha rfl (.tmp 4) (.tmp 78) rfl w.heap.size rfl rfl (QF.out _) ?_))
         (try simp only[Exit.inBlock,Exit.then])
         refine Rb (by rfl) (by rfl) (by rfl) rfl (QF.out _) ?_;exact dN (x:=⟨26,0,[],false,none,0,0,none,0,0,none,0,0,some ⟨w8.heap.size,0,none⟩,2,2⟩) (Jm HR8 _) (tA (tt HG0 (tt G1 (tt G2 (tt G3 (tt G4 (tt G5 (tt G6 (tt G7 G8)))))))) _) hlt hq0
        |some p2=>
         obtain⟨t2,U2⟩:=p2;have hp2:=hp;rw[h2] at hp2;clear hp;have hp3:r=some (Pr.node 26 0 [] [t1,t2],U2):=(Option.some.inj hp2).symm;subst hp3;clear hp2;go_wp2_with fail
         refine eS (hE f hfF (j3+1+1) w6 (some (t2,U2)) HR6.out h2) ?_;intro x7 j7 w7 hU7 HR7 G7 hs7 T7;subst hU7;obtain⟨w8,HW8,B8,hs8,hz8,G8,HR8⟩:=Ab x7 HR7;go_upto_region 13 with fail
         rw[<-HW8.out];have L9:=rg B4 (tt G5 (tt G6 (tt G7 G8))) (by omega);have L12:=rg B8 (t0 _ rb) (by omega);have QF0:=rg HQ (tt G1 (tt G2 (tt G3 (tt G4 (tt G5 (tt G6 (tt G7 G8))))))) (by omega);have QF:=rA QF0;have M0:=gw (lo':=w.heap.size+1) T3 (tt G4 (tt G5 (tt G6 (tt G7 G8)))) HR8 (by omega) (by omega) (by omega);have M1:=gw (lo':=w.heap.size+1) T7 G8 HR8 (by omega) (by omega) (by omega);go_wp2_with (first|(with_reducible refine Ka rfl (.tmp 9) rfl (w3.heap.size) rfl L9.out ?_) |(with_reducible refine Ka rfl (.tmp 12) rfl (w7.heap.size) rfl L12.out ?_) |(with_reducible refine Ha rfl (.tmp 4) (.tmp 78) rfl w.heap.size rfl rfl (QF.out _) ?_))
         (try simp only[Exit.inBlock,Exit.then])
         refine Rb (by rfl) (by rfl) (by rfl) rfl (QF.out _) ?_;exact Jo (Za (by omega)) (by simp) rfl (by decide) (TreesF.cons M0.out (TreesF.cons M1.out (TreesF.nil M0.out.lt))) HR8 (tt HG0 (tt G1 (tt G2 (tt G3 (tt G4 (tt G5 (tt G6 (tt G7 G8)))))))) hlt hq0 (by omega)
      have hde:(Pr.gl (ts.drop (j3+1)) 0==58)=false:=by simp[hd]
      rw[if_neg hd] at hp3;go_wp2_with fail
      refine Xr hT (by decide) hde HR5 ?_;intro w6 G6 HR6 hs6;clear hde hd;have hp:=hp3;clear hp3;cases h2:Pr.expr f (ts.drop (j3+1)) with
      |none=>rw[h2] at hp;cases hp
      |some s2=>
       cases s2 with
       |none=>
        rw[h2] at hp;have hp2:r=none:=(Option.some.inj hp).symm;subst hp2;clear hp;go_wp2_with fail
        refine eN (hE f hfF (j3+1) w6 none HR6.out h2) ?_;intro x7 j7 w7 HR7 G7 hs7;obtain⟨w8,HW8,B8,hs8,hz8,G8,HR8⟩:=Ab x7 HR7;go_upto_region 13 with fail
        rw[<-HW8.out];have L9:=rg B4 (tt G5 (tt G6 (tt G7 G8))) (by omega);have L12:=rg B8 (t0 _ rb) (by omega);have QF0:=rg HQ (tt G1 (tt G2 (tt G3 (tt G4 (tt G5 (tt G6 (tt G7 G8))))))) (by omega);have QF:=rA QF0;go_wp2_with (first|(with_reducible refine Ka rfl (.tmp 9) rfl (w3.heap.size) rfl L9.out ?_) |(with_reducible refine Ka rfl (.tmp 12) rfl (w7.heap.size) rfl L12.out ?_) |(with_reducible refine Ha rfl (.tmp 4) (.tmp 78) rfl w.heap.size rfl rfl (QF.out _) ?_))
        (try simp only[Exit.inBlock,Exit.then])
        refine Rb (by rfl) (by rfl) (by rfl) rfl (QF.out _) ?_;exact dN (x:=⟨25,0,[],false,none,0,0,none,0,0,none,0,0,some ⟨w8.heap.size,0,none⟩,2,2⟩) (Jm HR8 _) (tA (tt HG0 (tt G1 (tt G2 (tt G3 (tt G4 (tt G5 (tt G6 (tt G7 G8)))))))) _) hlt hq0
       |some p2=>
        obtain⟨t2,U2⟩:=p2;have hp2:=hp;rw[h2] at hp2;clear hp;have hp3:r=some (Pr.node 25 0 [] [t1,t2],U2):=(Option.some.inj hp2).symm;subst hp3;clear hp2;go_wp2_with fail
        refine eS (hE f hfF (j3+1) w6 (some (t2,U2)) HR6.out h2) ?_;intro x7 j7 w7 hU7 HR7 G7 hs7 T7;subst hU7;obtain⟨w8,HW8,B8,hs8,hz8,G8,HR8⟩:=Ab x7 HR7;go_upto_region 13 with fail
        rw[<-HW8.out];have L9:=rg B4 (tt G5 (tt G6 (tt G7 G8))) (by omega);have L12:=rg B8 (t0 _ rb) (by omega);have QF0:=rg HQ (tt G1 (tt G2 (tt G3 (tt G4 (tt G5 (tt G6 (tt G7 G8))))))) (by omega);have QF:=rA QF0;have M0:=gw (lo':=w.heap.size+1) T3 (tt G4 (tt G5 (tt G6 (tt G7 G8)))) HR8 (by omega) (by omega) (by omega);have M1:=gw (lo':=w.heap.size+1) T7 G8 HR8 (by omega) (by omega) (by omega);go_wp2_with (first|(with_reducible refine Ka rfl (.tmp 9) rfl (w3.heap.size) rfl L9.out ?_) |(with_reducible refine Ka rfl (.tmp 12) rfl (w7.heap.size) rfl L12.out ?_) |(with_reducible refine Ha rfl (.tmp 4) (.tmp 78) rfl w.heap.size rfl rfl (QF.out _) ?_))
        (try simp only[Exit.inBlock,Exit.then])
        refine Rb (by rfl) (by rfl) (by rfl) rfl (QF.out _) ?_;exact Jo (Za (by omega)) (by simp) rfl (by decide) (TreesF.cons M0.out (TreesF.cons M1.out (TreesF.nil M0.out.lt))) HR8 (tt HG0 (tt G1 (tt G2 (tt G3 (tt G4 (tt G5 (tt G6 (tt G7 G8)))))))) hlt hq0 (by omega)
     have hce:(Pr.gl (ts.drop j3) 0==58)=false:=by simp[hc]
     have hp3:r=some (t1,ts.drop j3):=by
      have h3:=(if_neg (λh=>hc h.2)).symm.trans hp2;exact(Option.some.inj h3).symm
     subst hp3;clear hp2;go_wp2_with fail
     refine Xr hT (by decide) hce HR4 ?_;intro w5 G5 HR5 hs5;have L9:=rg B4 G5 (by omega);have QF0:=rg HQ (tt G1 (tt G2 (tt G3 (tt G4 G5)))) (by omega);go_wp2_with (first|(with_reducible refine Ka rfl (.tmp 9) rfl (w3.heap.size) rfl L9.out ?_) |(with_reducible refine Ha rfl (.tmp 4) (.tmp 65) rfl w.heap.size rfl rfl QF0.out ?_))
     (try simp only[Exit.inBlock,Exit.then])
     refine Rb (by rfl) (by rfl) (by rfl) rfl QF0.out ?_;exact dT T3 (tt G4 G5) HR5 (tt HG0 (tt G1 (tt G2 (tt G3 (tt G4 G5))))) hlt hq0 (by omega) (by omega)
  rw[if_neg (λh=>hk h.1)] at hp;have nk:(Pr.kd (ts.drop i) 0==3)=false:=by simp[hk]
  go_enter Tryz.func53,Tryz.ntmps53
  go_upto_region 1 with fail
  rw[<-HW.out];go_wp2_with fail
  refine Al (Nj hT i W HRW.out) rfl HRW ?_;intro w1 G1 HR1 hs1;cases h1:Pr.expr f (ts.drop i) with
  |none=>rw[h1] at hp;cases hp
  |some s1=>
   cases s1 with
   |none=>
    rw[h1] at hp;have hp2:r=none:=(Option.some.inj hp).symm;subst hp2;clear hp;go_wp2_with fail
    refine eN (hE f hfF (i) w1 none HR1.out h1) ?_;intro x2 j2 w2 HR2 G2 hs2;obtain⟨w3,HW3,B3,hs3,hz3,G3,HR3⟩:=Ab x2 HR2;go_upto_region 7 with fail
    rw[<-HW3.out];have L9:=rg B3 (t0 _ rb) (by omega);have QF0:=rg HQ (tt G1 (tt G2 G3)) (by omega);go_wp2_with (first|(with_reducible refine Ka rfl (.tmp 9) rfl (w2.heap.size) rfl L9.out ?_) |(with_reducible refine Ha rfl (.tmp 4) (.tmp 65) rfl w.heap.size rfl rfl QF0.out ?_))
    (try simp only[Exit.inBlock,Exit.then])
    refine Rb (by rfl) (by rfl) (by rfl) rfl QF0.out ?_;exact dN HR3 (tt HG0 (tt G1 (tt G2 G3))) hlt hq0
   |some p1=>
    obtain⟨t1,U1⟩:=p1;have hp2:=hp;rw[h1] at hp2;clear hp;go_wp2_with fail
    refine eS (hE f hfF (i) w1 (some (t1,U1)) HR1.out h1) ?_;intro x2 j2 w2 hU2 HR2 G2 hs2 T2;subst hU2;obtain⟨w3,HW3,B3,hs3,hz3,G3,HR3⟩:=Ab x2 HR2;go_upto_region 7 with fail
    rw[<-HW3.out];cases b
    ·have hp3:r=some (t1,ts.drop j2):=(Option.some.inj hp2).symm
     subst hp3;have L9:=rg B3 (t0 _ rb) (by omega);have QF0:=rg HQ (tt G1 (tt G2 G3)) (by omega);go_wp2_with (first|(with_reducible refine Ka rfl (.tmp 9) rfl (w2.heap.size) rfl L9.out ?_) |(with_reducible refine Ha rfl (.tmp 4) (.tmp 65) rfl w.heap.size rfl rfl QF0.out ?_))
     (try simp only[Exit.inBlock,Exit.then])
     refine Rb (by rfl) (by rfl) (by rfl) rfl QF0.out ?_;exact dT T2 G3 HR3 (tt HG0 (tt G1 (tt G2 G3))) hlt hq0 (by omega) (by omega)
    by_cases hc:Pr.gl (ts.drop j2) 0=58
    ·have hce:(Pr.gl (ts.drop j2) 0==58)=true:=by simp[hc]
     have hp3:(if Pr.gl (ts.drop j2).tail 0=58 then Pr.bnd (Pr.expr f (ts.drop j2).tail.tail) λe2 V=>Pr.ret (Pr.node 26 0 [] [t1,e2]) V else Pr.bnd (Pr.expr f (ts.drop j2).tail) λe2 V=>Pr.ret (Pr.node 25 0 [] [t1,e2]) V)=some r:=by rw[<-hp2];exact(if_pos ⟨rfl,hc⟩).symm
     rw[drop_tail,drop_tail] at hp3;clear hp2;go_wp2_with fail
     refine Wr hT (by decide) hce HR3 ?_;intro w4 G4 HR4 hs4;clear hce hc;by_cases hd:Pr.gl (ts.drop (j2+1)) 0=58
     ·have hde:(Pr.gl (ts.drop (j2+1)) 0==58)=true:=by simp[hd]
      rw[if_pos hd] at hp3;go_wp2_with fail
      refine Wr hT (by decide) hde HR4 ?_;intro w5 G5 HR5 hs5;clear hde hd;have hp:=hp3;clear hp3;cases h2:Pr.expr f (ts.drop (j2+1+1)) with
      |none=>rw[h2] at hp;cases hp
      |some s2=>
       cases s2 with
       |none=>
        rw[h2] at hp;have hp2:r=none:=(Option.some.inj hp).symm;subst hp2;clear hp;go_wp2_with fail
        refine eN (hE f hfF (j2+1+1) w5 none HR5.out h2) ?_;intro x6 j6 w6 HR6 G6 hs6;obtain⟨w7,HW7,B7,hs7,hz7,G7,HR7⟩:=Ab x6 HR6;go_upto_region 13 with fail
        rw[<-HW7.out];have L9:=rg B3 (tt G4 (tt G5 (tt G6 G7))) (by omega);have L12:=rg B7 (t0 _ rb) (by omega);have QF0:=rg HQ (tt G1 (tt G2 (tt G3 (tt G4 (tt G5 (tt G6 G7)))))) (by omega);have QF:=rA QF0;go_wp2_with (first|(with_reducible refine Ka rfl (.tmp 9) rfl (w2.heap.size) rfl L9.out ?_) |(with_reducible refine Ka rfl (.tmp 12) rfl (w6.heap.size) rfl L12.out ?_) |(with_reducible refine Ha rfl (.tmp 4) (.tmp 78) rfl w.heap.size rfl rfl (QF.out _) ?_))
        (try simp only[Exit.inBlock,Exit.then])
        refine Rb (by rfl) (by rfl) (by rfl) rfl (QF.out _) ?_;exact dN (x:=⟨26,0,[],false,none,0,0,none,0,0,none,0,0,some ⟨w7.heap.size,0,none⟩,2,2⟩) (Jm HR7 _) (tA (tt HG0 (tt G1 (tt G2 (tt G3 (tt G4 (tt G5 (tt G6 G7))))))) _) hlt hq0
       |some p2=>
        obtain⟨t2,U2⟩:=p2;have hp2:=hp;rw[h2] at hp2;clear hp;have hp3:r=some (Pr.node 26 0 [] [t1,t2],U2):=(Option.some.inj hp2).symm;subst hp3;clear hp2;go_wp2_with fail
        refine eS (hE f hfF (j2+1+1) w5 (some (t2,U2)) HR5.out h2) ?_;intro x6 j6 w6 hU6 HR6 G6 hs6 T6;subst hU6;obtain⟨w7,HW7,B7,hs7,hz7,G7,HR7⟩:=Ab x6 HR6;go_upto_region 13 with fail
        rw[<-HW7.out];have L9:=rg B3 (tt G4 (tt G5 (tt G6 G7))) (by omega);have L12:=rg B7 (t0 _ rb) (by omega);have QF0:=rg HQ (tt G1 (tt G2 (tt G3 (tt G4 (tt G5 (tt G6 G7)))))) (by omega);have QF:=rA QF0;have M0:=gw (lo':=w.heap.size+1) T2 (tt G3 (tt G4 (tt G5 (tt G6 G7)))) HR7 (by omega) (by omega) (by omega);have M1:=gw (lo':=w.heap.size+1) T6 G7 HR7 (by omega) (by omega) (by omega);go_wp2_with (first|(with_reducible refine Ka rfl (.tmp 9) rfl (w2.heap.size) rfl L9.out ?_) |(with_reducible refine Ka rfl (.tmp 12) rfl (w6.heap.size) rfl L12.out ?_) |(with_reducible refine Ha rfl (.tmp 4) (.tmp 78) rfl w.heap.size rfl rfl (QF.out _) ?_))
        (try simp only[Exit.inBlock,Exit.then])
        refine Rb (by rfl) (by rfl) (by rfl) rfl (QF.out _) ?_;exact Jo (Za (by omega)) (by simp) rfl (by decide) (TreesF.cons M0.out (TreesF.cons M1.out (TreesF.nil M0.out.lt))) HR7 (tt HG0 (tt G1 (tt G2 (tt G3 (tt G4 (tt G5 (tt G6 G7))))))) hlt hq0 (by omega)
     have hde:(Pr.gl (ts.drop (j2+1)) 0==58)=false:=by simp[hd]
     rw[if_neg hd] at hp3;go_wp2_with fail
     refine Xr hT (by decide) hde HR4 ?_;intro w5 G5 HR5 hs5;clear hde hd;have hp:=hp3;clear hp3;cases h2:Pr.expr f (ts.drop (j2+1)) with
     |none=>rw[h2] at hp;cases hp
     |some s2=>
      cases s2 with
      |none=>
       rw[h2] at hp;have hp2:r=none:=(Option.some.inj hp).symm;subst hp2;clear hp;go_wp2_with fail
       refine eN (hE f hfF (j2+1) w5 none HR5.out h2) ?_;intro x6 j6 w6 HR6 G6 hs6;obtain⟨w7,HW7,B7,hs7,hz7,G7,HR7⟩:=Ab x6 HR6;go_upto_region 13 with fail
       rw[<-HW7.out];have L9:=rg B3 (tt G4 (tt G5 (tt G6 G7))) (by omega);have L12:=rg B7 (t0 _ rb) (by omega);have QF0:=rg HQ (tt G1 (tt G2 (tt G3 (tt G4 (tt G5 (tt G6 G7)))))) (by omega);have QF:=rA QF0;go_wp2_with (first|(with_reducible refine Ka rfl (.tmp 9) rfl (w2.heap.size) rfl L9.out ?_) |(with_reducible refine Ka rfl (.tmp 12) rfl (w6.heap.size) rfl L12.out ?_) |(with_reducible refine Ha rfl (.tmp 4) (.tmp 78) rfl w.heap.size rfl rfl (QF.out _) ?_))
       (try simp only[Exit.inBlock,Exit.then])
       refine Rb (by rfl) (by rfl) (by rfl) rfl (QF.out _) ?_;exact dN (x:=⟨25,0,[],false,none,0,0,none,0,0,none,0,0,some ⟨w7.heap.size,0,none⟩,2,2⟩) (Jm HR7 _) (tA (tt HG0 (tt G1 (tt G2 (tt G3 (tt G4 (tt G5 (tt G6 G7))))))) _) hlt hq0
      |some p2=>
       obtain⟨t2,U2⟩:=p2;have hp2:=hp;rw[h2] at hp2;clear hp;have hp3:r=some (Pr.node 25 0 [] [t1,t2],U2):=(Option.some.inj hp2).symm;subst hp3;clear hp2;go_wp2_with fail
       refine eS (hE f hfF (j2+1) w5 (some (t2,U2)) HR5.out h2) ?_;intro x6 j6 w6 hU6 HR6 G6 hs6 T6;subst hU6;obtain⟨w7,HW7,B7,hs7,hz7,G7,HR7⟩:=Ab x6 HR6;go_upto_region 13 with fail
       rw[<-HW7.out];have L9:=rg B3 (tt G4 (tt G5 (tt G6 G7))) (by omega);have L12:=rg B7 (t0 _ rb) (by omega);have QF0:=rg HQ (tt G1 (tt G2 (tt G3 (tt G4 (tt G5 (tt G6 G7)))))) (by omega);have QF:=rA QF0;have M0:=gw (lo':=w.heap.size+1) T2 (tt G3 (tt G4 (tt G5 (tt G6 G7)))) HR7 (by omega) (by omega) (by omega);have M1:=gw (lo':=w.heap.size+1) T6 G7 HR7 (by omega) (by omega) (by omega);go_wp2_with (first|(with_reducible refine Ka rfl (.tmp 9) rfl (w2.heap.size) rfl L9.out ?_) |(with_reducible refine Ka rfl (.tmp 12) rfl (w6.heap.size) rfl L12.out ?_) |(with_reducible refine Ha rfl (.tmp 4) (.tmp 78) rfl w.heap.size rfl rfl (QF.out _) ?_))
       (try simp only[Exit.inBlock,Exit.then])
       refine Rb (by rfl) (by rfl) (by rfl) rfl (QF.out _) ?_;exact Jo (Za (by omega)) (by simp) rfl (by decide) (TreesF.cons M0.out (TreesF.cons M1.out (TreesF.nil M0.out.lt))) HR7 (tt HG0 (tt G1 (tt G2 (tt G3 (tt G4 (tt G5 (tt G6 G7))))))) hlt hq0 (by omega)
    have hce:(Pr.gl (ts.drop j2) 0==58)=false:=by simp[hc]
    have hp3:r=some (t1,ts.drop j2):=by
     have h3:=(if_neg (λh=>hc h.2)).symm.trans hp2;exact(Option.some.inj h3).symm
    subst hp3;clear hp2;go_wp2_with fail
    refine Xr hT (by decide) hce HR3 ?_;intro w4 G4 HR4 hs4;have L9:=rg B3 G4 (by omega);have QF0:=rg HQ (tt G1 (tt G2 (tt G3 G4))) (by omega);go_wp2_with (first|(with_reducible refine Ka rfl (.tmp 9) rfl (w2.heap.size) rfl L9.out ?_) |(with_reducible refine Ha rfl (.tmp 4) (.tmp 65) rfl w.heap.size rfl rfl QF0.out ?_))
    (try simp only[Exit.inBlock,Exit.then])
    refine Rb (by rfl) (by rfl) (by rfl) rfl QF0.out ?_;exact dT T2 (tt G3 G4) HR4 (tt HG0 (tt G1 (tt G2 (tt G3 G4)))) hlt hq0 (by omega) (by omega)
end
end
section
open Go.RowKit Tr
variable [Dc]
def Oj:List Value->Nat->Value
 | [],_=>undef
 |v::_,0=>v
 |_::l,n+1=>Oj l n
theorem Ll:(Tryz.prog.info? 54).map (·.size)=some 8:=by kernel_rfl
theorem Uga:(Tryz.prog.info? 24).map (·.size)=some 3:=by kernel_rfl
theorem Opa {ops:Array Oper}{rest:List Oper}{o:Oper}{a:Act}{w:World}{Q:Exit->Act->World->Prop}(hgd:o.guard=none)(x:Operand)(ho:o.op= .load 24 x)
 (b off:Nat) (hx:a.eval x= .pointer (some ⟨b,off,none⟩)) {u0 u1 u2:Value} (hc:w.rangeAt b off [u0,u1,u2])
 (h:wpList Tryz.prog ops Q rest (a.put o.dst (.agg #[u0,u1,u2])) w):wpList Tryz.prog ops Q (o::rest) a w:=
 wpList_load_mid hgd _ x ho b off hx _ _ hc Tryz.underlying24 rfl Uga h
theorem Jca {w0 w w':World}{P:Nat->Prop}{A:Option Addr}{vs:List Value}{B:Nat}(h:Lies w0 w0.heap.size A vs)(ha:vs=[]\/∀a,A=some a->a.block≠Dc.q)(hin:∀b,b<w0.heap.size->b≠Dc.q->P b)(hb:Below w0.heap.size w0 w)(h1:∀p:Addr,P p.block->w'.cell? p=w.cell? p)(h2:∀b,P b->b<B):Lies w' B A vs:=by
 rcases h with h |⟨g,off,e,hg,hc⟩
 ·exact .inl h
 rcases ha with h |ha
 ·exact .inl h
 have hgq:g≠Dc.q:=ha _ e;exact .inr ⟨g,off,e,h2 g (hin g hg hgq),λj v hv=>(h1 ⟨g,off+j,none⟩ (hin g hg hgq)).trans ((hb.cell (p:=⟨g,off+j,none⟩) hg).trans (hc j v hv))⟩
theorem TreeF.own {w0 w:World}{P:Nat->Prop}{k o:Int}{m:List UInt8}{n:Rt.Nm}{t:List Int}{A1 A2 A3:Option Addr}{c1 c2 c3:Nat}(hk:Jd [k,o])(hm:m.length<=140737488355328)(f1:Fits n.top.length c1 4)(f2:Fits n.bot.length c2 4)(f3:Fits t.length c3 8)
 (o1:Nt.Ok n.top) (o2:Nt.Ok n.bot) (wt:Jd t) (l1:Lies w0 w0.heap.size A1 (U n.top)) (l2:Lies w0 w0.heap.size A2 (U n.bot)) (l3:Lies w0 w0.heap.size A3 (Sa t)) (n1:A1=none->c1=0) (n2:A2=none->c2=0)
 (a1:U n.top=[]\/∀a,A1=some a->a.block≠Dc.q) (a2:U n.bot=[]\/∀a,A2=some a->a.block≠Dc.q) (a3:Sa t=[]\/∀a,A3=some a->a.block≠Dc.q)
 (hP:∀b,P b->b<w.heap.size) (hin:∀b,b<w0.heap.size->b≠Dc.q->P b) (hb:Below w0.heap.size w0 w):TreeF w P (.mk k o m n t []) (Qa k o m n t 0 A1 A2 A3 none c1 c2 c3 0):=
 ⟨hP,λw' B h1 h2=>by
  rw[IsTree];exact⟨A1,A2,A3,none,c1,c2,c3,0,[],rfl,⟨hk,hm,f1,f2,f3,He _,o1,o2,wt,Jca l1 a1 hin hb h1 h2,Jca l2 a2 hin hb h1 h2,Jca l3 a3 hin hb h1 h2,n1,n2⟩,.inl rfl,by rw[IsTrees]⟩⟩
theorem Dka {T:List Tk.Tok}{t:Tk.Tok}(h:T[0]? =some t)(hb:Pr.begA T=true):t.kind=0\/t.kind=1\/t.kind=2\/t.kind=4\/t.kind=5\/(t.kind=7/\(t.c=9082\/t.c=9077\/t.c=40)):=by
 have hk:Pr.kd T 0=t.kind:=by unfold Pr.kd;rw[h]
 have hg:Pr.gl T 0=if t.kind=7 then t.c else 0:=by unfold Pr.gl;rw[hk,List.getD_eq_getElem?_getD,h];rfl
 unfold Pr.begA at hb;rw[hk,hg] at hb;simp only[Bool.or_eq_true,beq_iff_eq] at hb;by_cases h7:t.kind=7
 ·rw[if_pos h7] at hb;omega
 rw[if_neg h7] at hb;omega
theorem Eka {T:List Tk.Tok}{t:Tk.Tok}(h:T[0]? =some t)(hb:Pr.begP T=true):t.kind=3\/t.kind=6\/(t.kind≠3/\t.kind≠6/\(t.c=8711\/t.c=123\/(t.c≠8711/\t.c≠123))):=by
 by_cases h3:t.kind=3
 ·exact .inl h3
 by_cases h6:t.kind=6
 ·exact .inr (.inl h6)
 refine .inr (.inr ⟨h3,h6,?_⟩);by_cases h8:t.c=8711
 ·exact .inl h8
 by_cases h9:t.c=123
 ·exact .inr (.inl h9)
 exact .inr (.inr ⟨h8,h9⟩)
structure Kca (w0:World) (ts:List Tk.Tok) (c rb g i:Nat) (t:Tk.Tok) (A1 A2 A3:Option Addr) (c1 c2 c3:Nat):Prop where
 r:∀w',RdAt w0 ts (some ⟨g,0,none⟩) c rb i w'->w'.rangeAt g (i*8) [.int .i64 t.kind,.bool t.n.neg,.slice A1 t.n.top.length c1,.slice A2 t.n.bot.length c2,.slice A3 t.l.length c3,.string ⟨t.s.toArray⟩,.int .i64 t.c,.int .i64 (t.at_:Int)]
 f1:Fits t.n.top.length c1 4
 f2:Fits t.n.bot.length c2 4
 f3:Fits t.l.length c3 8
 l1:Lies w0 w0.heap.size A1 (U t.n.top)
 l2:Lies w0 w0.heap.size A2 (U t.n.bot)
 l3:Lies w0 w0.heap.size A3 (Sa t.l)
 n1:A1=none->c1=0
 n2:A2=none->c2=0
 a1:U t.n.top=[]\/∀a,A1=some a->a.block≠Dc.q
 a2:U t.n.bot=[]\/∀a,A2=some a->a.block≠Dc.q
 a3:Sa t.l=[]\/∀a,A3=some a->a.block≠Dc.q
 ok:TokOk t
theorem I5 {w0:World}{ts:List Tk.Tok}{A:Option Addr}{c rb:Nat}(hT:Yd w0 ts A c){i:Nat}(hi:i<ts.length):∃g A1 A2 A3 c1 c2 c3,A=some ⟨g,0,none⟩/\Kca w0 ts c rb g i ts[i] A1 A2 A3 c1 c2 c3:=by
 obtain⟨g,v1,v2,lv,e,hg,hr,⟨A1,c1,rfl,a1,a2,a3,a4⟩,⟨A2,c2,rfl,b1,b2,b3,b4⟩,hl,p1,p2,p3⟩:=hT.at_ i hi;obtain⟨A3,c3,rfl,d1,d2⟩:=Kb hl;have hok:=hT.ok i hi;exact⟨g,A1,A2,A3,c1,c2,c3,e,λw' hR q v hv=>(hR.old.cell (p:=⟨g,i*8+q,none⟩) hg).trans (hr q v hv),⟨a1,by have:=hok.t1;omega,a2⟩,⟨b1,by have:=hok.t2;omega,b2⟩,⟨d1,by have:=hok.ll;omega,d2⟩,a4,b4,(LiesP.of_own hl).lies (λb hb=>hb.2),a3,b3,p1.imp (λh=>by unfold U;rw[List.eq_nil_of_length_eq_zero h];rfl) (λh a e=>h a _ _ (by rw[e])),p2.imp (λh=>by unfold U;rw[List.eq_nil_of_length_eq_zero h];rfl) (λh a e=>h a _ _ (by rw[e])),p3.imp (λh=>by unfold Sa;rw[List.eq_nil_of_length_eq_zero h];rfl) (λh a e=>h a _ _ (by rw[e])),hok⟩
def Mb (s0 s1 s2 s3 s5 s6 s7 s8 s9 s10 s21 s22 s23 s24 s25 s26 s27 s28 s29 s30 s31 s32 s33 s34 s35 s36 s37 s38 s39 s40 s41 s42 s43 s44 s45 s46 s47 s48 s49 s50 s51 s52 s53 s54 s55 s56 s57 s58 s59 s60 s61 s62 s63 s64 s65 s66 s67 s68 s69 s70 s71 s72 s73:Value)(xs:Nat->Value):Act:={tmps:= #[s0,s1,s2,s3,xs 10,s5,s6,s7,s8,s9,s10,xs 0,xs 1,xs 2,xs 3,xs 4,xs 5,xs 6,xs 7,xs 8,xs 9,s21,s22,s23,s24,s25,s26,s27,s28,s29,s30,s31,s32,s33,s34,s35,s36,s37,s38,s39,s40,s41,s42,s43,s44,s45,s46,s47,s48,s49,s50,s51,s52,s53,s54,s55,s56,s57,s58,s59,s60,s61,s62,s63,s64,s65,s66,s67,s68,s69,s70,s71,s72,s73],defers:=[]}
def Voa (B rb g i c:Nat)(ts:List Tk.Tok)(t:Tk.Tok)(A1 A2 A3:Option Addr)(c1 c2 c3:Nat):Nat->World->Value->Prop
 | 0,w,v=>v= .pointer (some ⟨rb,0,none⟩)
 | 1,w,v=>v= .pointer (some ⟨rb,0,none⟩)
 | 2,w,v=>v= .pointer (some ⟨rb,0,none⟩)
 | 3,w,v=>v= .slice (some ⟨g,0,none⟩) ts.length c
 | 4,w,v=>v= .pointer (some ⟨rb,0,none⟩)
 | 5,w,v=>v= .pointer (some ⟨rb,0,none⟩)
 | 6,w,v=>v= .pointer (some ⟨rb,1,none⟩)
 | 7,w,v=>v= .int .i64 (i:Int)
 | 8,w,v=>v= .pointer (some ⟨g,i*8,none⟩)
 | 9,w,v=>v= .agg #[.int .i64 t.kind,.bool t.n.neg,.slice A1 t.n.top.length c1,.slice A2 t.n.bot.length c2,.slice A3 t.l.length c3,.string ⟨t.s.toArray⟩,.int .i64 t.c,.int .i64 (t.at_:Int)]
 |_,w,v=>∃q,v= .pointer (some ⟨q,0,none⟩)/\B<=q/\w.heap[q]? =some (.cells #[.int .i64 0,.bool false,.slice none 0 0,.slice none 0 0,.slice none 0 0,.string ⟨#[]⟩,.int .i64 0,.int .i64 0] 54 (0,0))
theorem Lf (w:World):Below w.heap.size w w.drew:=Qb Br 1
def Lca (wA:World)(P1:World->Prop)(q0:Nat)(cs:Array Value):Nat->World->Prop
 | 0,w=>w=wA
 | 1,w=>P1 w
 |_,w=>∃wz,P1 wz/\w=wz.setRow q0 cs
def Uq (wA:World)(q0:Nat)(cs:Array Value):Nat->World->Prop
 | 0,w=>w=wA
 |_,w=>∃wz,wz=wA/\w=wz.setRow q0 cs
def Xc (s0 s1 s2 s4 s5 s6 s7 s8 s9 s10 s11 s12 s13 s14 s15 s16 s17 s18 s19 s20 s21 s22 s23 s24 s25 s26 s27 s28 s29 s30 s31 s32 s33 s34 s35 s36 s37 s38 s39 s40 s41 s42 s43 s44 s45 s46 s47 s48 s49 s50 s51 s52 s53 s54 s55 s56 s57 s58 s59 s60 s61 s62 s63 s64 s65 s66 s67:Value)(xs:Nat->Value):Act:={tmps:= #[s0,s1,s2,xs 7,s4,s5,s6,s7,s8,s9,s10,s11,s12,s13,s14,s15,s16,s17,s18,s19,s20,s21,s22,s23,s24,s25,s26,s27,s28,s29,s30,s31,s32,s33,s34,s35,s36,s37,s38,s39,s40,s41,s42,s43,s44,s45,s46,s47,s48,s49,s50,s51,s52,s53,s54,s55,s56,s57,s58,s59,s60,s61,s62,s63,s64,s65,s66,s67,xs 0,xs 1,xs 2,xs 3,xs 4,xs 5],defers:=[]}
def Woa (rb:Nat)(x4:C8)(tk:Bool):Nat->Value->Prop
 | 0,v=>v= .agg #[.int .i64 x4.k,.int .i64 x4.o,.string ⟨x4.m.toArray⟩,.bool x4.g,.slice x4.A1 x4.n1 x4.c1,.slice x4.A2 x4.n2 x4.c2,.slice x4.A3 x4.n3 x4.c3,.slice x4.A4 x4.n4 x4.c4]
 | 1,v=>v= .bool false
 | 2,v=>v= .bool false
 | 3,v=>v=undef
 | 4,v=>v=undef
 | 5,v=>v= .bool false
 | 6,v=>True
 |_,v=>v= .bool false
def Ya (s0 s1 s2 s4 s5 s6 s7 s8 s9 s10 s11 s12 s13 s14 s15 s16 s17 s18 s19 s20 s21 s22 s23 s24 s25 s26 s27 s28 s29 s30 s31 s32 s33 s34 s35 s36 s37 s38 s39 s40 s41 s42 s43 s44 s45 s46 s47 s48 s49 s50 s51 s52 s53 s54 s55 s56 s57 s58 s59 s60 s61 s62 s63 s64 s65 s66 s67:Value)(xs:Nat->Value):Act:={tmps:= #[s0,s1,s2,xs 7,s4,s5,s6,s7,s8,s9,s10,s11,s12,s13,s14,s15,s16,s17,s18,s19,s20,s21,s22,s23,s24,s25,s26,s27,s28,s29,s30,s31,s32,s33,s34,s35,s36,s37,s38,s39,s40,s41,s42,s43,s44,s45,s46,s47,s48,s49,s50,s51,s52,s53,s54,s55,s56,s57,s58,s59,s60,s61,s62,s63,s64,s65,s66,s67,xs 0,xs 1,xs 2,xs 3,xs 4,xs 5],defers:=[]}
def Vga (rb:Nat)(x4:C8)(tk:Bool):Nat->Value->Prop
 | 0,v=>v= .agg #[.int .i64 x4.k,.int .i64 x4.o,.string ⟨x4.m.toArray⟩,.bool x4.g,.slice x4.A1 x4.n1 x4.c1,.slice x4.A2 x4.n2 x4.c2,.slice x4.A3 x4.n3 x4.c3,.slice x4.A4 x4.n4 x4.c4]
 | 1,v=>v= .bool true
 | 2,v=>v= .bool true
 | 3,v=>v= .pointer (some ⟨rb,0,none⟩)
 | 4,v=>v= .bool tk
 | 5,v=>v= .bool tk
 | 6,v=>True
 |_,v=>v= .bool tk
section
variable {w0 : World} {ts : List Tk.Tok} {A : Option Addr} {c rb : Nat}
theorem Mca (F:Nat)(hT:Yd w0 ts A c)(hE:Tf w0 ts A c rb 88 Pr.expr F):
 Tf w0 ts A c rb 169 Pr.alone (F+1):=by
 intro f hf i w r h hp;cases f with
 |zero=>cases hp
 |succ f=>
  have hfF:f<=F:=by omega
  rw[Pr.alone] at hp;obtain⟨W,hW⟩:∃W,W=w.alloc (.cells z8 28):=⟨_,rfl⟩;have hWb:Below w.heap.size w W:=by rw[hW];exact Br.alloc Lr _
  have hs0:w.heap.size+1<=W.heap.size:=by rw[hW];simp
  have hz0:W.heap.size<=w.heap.size+1:=by rw[hW];simp
  have HQ:Hid (W.heap[w.heap.size]? =some (.cells z8 28 (0,0))):=Qd (by rw[hW];exact heap_alloc_new w _);have HRW:=Qd (h.below hWb);have hlt:=h.lt;have hlo:=h.lo;have hq0:w0.heap.size<=w.heap.size:=h.old.size;have HW:=Qd hW;have HG0:Hid (w.grownBy W (some rb)):=Qd (Ea rb hWb);clear hW hWb h;by_cases hb:Pr.begA (ts.drop i)=true
  ·rw[if_pos hb] at hp
   have hil:i<ts.length:=by
    have h1:=Pr.begA_ne hb;rw[List.length_drop] at h1;omega
   obtain⟨g,A1,A2,A3,c1,c2,c3,rfl,hTA⟩:=I5 (rb:=rb) hT hil;have hgd:(ts.drop i).getD 0 Tk.none_=ts[i]:=by rw[List.getD_eq_getElem?_getD,List.getElem?_drop,Nat.add_zero,List.getElem?_eq_getElem hil];rfl
   have hz:(ts.drop i)[0]? =some ts[i]:=by rw[List.getElem?_drop,Nat.add_zero,List.getElem?_eq_getElem hil]
   have hcase:=Dka hz hb;rw[hgd,drop_tail] at hp;generalize ts[i]=t at*;have HTR:Hid (Kca w0 ts c rb g i t A1 A2 A3 c1 c2 c3):=Qd hTA;have HCASE:=Qd hcase;clear hgd hz hTA hcase;go_enter Tryz.func169,Tryz.ntmps169
   go_upto_region 1 with fail
   rw[<-HW.out];go_wp2_with fail
   refine Mh (Rh hT i W HRW.out) hb HRW ?_;intro w1 G1 HR1 hs1;clear hb;go_upto_region 3 with fail
   refine Ri (Mb _ _ _ _ _ _ _ _ _ _ _ _ _ _ _ _ _ _ _ _ _ _ _ _ _ _ _ _ _ _ _ _ _ _ _ _ _ _ _ _ _ _ _ _ _ _ _ _ _ _ _ _ _ _ _ _ _ _ _ _ _ _ _) w1 (Voa w1.heap.size rb g i c ts t A1 A2 A3 c1 c2 c3) 11 (by kernel_rfl) (by rfl) ?_ (by kernel_rfl) (by kernel_rfl) (Oj [_,_,_,_,_,_,_,_,_,_,_]) rfl Br ?_ ?_
   ·intro i wz w2 v hv hb
    match i with
    | 0=>exact hv
    | 1=>exact hv
    | 2=>exact hv
    | 3=>exact hv
    | 4=>exact hv
    | 5=>exact hv
    | 6=>exact hv
    | 7=>exact hv
    | 8=>exact hv
    | 9=>exact hv
    |i+10=>exact(by obtain⟨q,e,h1,h2⟩:=hv;exact⟨q,e,h1,(hb.block q (Array.getElem?_eq_some_iff.1 h2).1).trans h2⟩)
   ·intro i xs wz hi hb hdep
    have hi6:i<11:=hi;clear hi;rcases(show i=0\/i=1\/i=2\/i=3\/i=4\/i=5\/i=6\/i=7\/i=8\/i=9\/i=10 by omega) with rfl |rfl |rfl |rfl |rfl |rfl |rfl |rfl |rfl |rfl |rfl
    ·refine Ca rfl rfl ?_
     unfold Mb Oper.wp;go_simp
     exact⟨_,by simp only[Mb,Ja];simp[Act.put],rfl,Br⟩
    ·have h0:xs 0= .pointer (some ⟨rb,0,none⟩):=hdep 0 (by kernel_rfl)
     refine Ca rfl rfl ?_;unfold Mb Oper.wp;simp only[h0];go_simp
     exact⟨_,by simp only[Mb,Ja];simp[Act.put,h0],rfl,Br⟩
    ·have h1:xs 1= .pointer (some ⟨rb,0,none⟩):=hdep 1 (by kernel_rfl)
     refine Ca rfl rfl ?_;unfold Mb Oper.wp;simp only[h1];go_simp
     exact⟨_,by simp only[Mb,Ja];simp[Act.put,h1],rfl,Br⟩
    ·have h2:xs 2= .pointer (some ⟨rb,0,none⟩):=hdep 2 (by kernel_rfl)
     refine Ca rfl rfl ?_;have p0:=(HR1.out.below hb).c0;unfold Mb Oper.wp;simp only[h2];go_simp
     exact⟨_,by simp only[Mb,Ja];simp[Act.put,h2],rfl,Br⟩
    ·refine Ca rfl rfl ?_
     unfold Mb Oper.wp;go_simp
     exact⟨_,by simp only[Mb,Ja];simp[Act.put],rfl,Br⟩
    ·have h4:xs 4= .pointer (some ⟨rb,0,none⟩):=hdep 4 (by kernel_rfl)
     refine Ca rfl rfl ?_;unfold Mb Oper.wp;simp only[h4];go_simp
     exact⟨_,by simp only[Mb,Ja];simp[Act.put,h4],rfl,Br⟩
    ·have h5:xs 5= .pointer (some ⟨rb,0,none⟩):=hdep 5 (by kernel_rfl)
     refine Ca rfl rfl ?_;unfold Mb Oper.wp;simp only[h5];go_simp
     exact⟨_,by simp only[Mb,Ja];simp[Act.put,h5],rfl,Br⟩
    ·have h6:xs 6= .pointer (some ⟨rb,1,none⟩):=hdep 6 (by kernel_rfl)
     refine Ca rfl rfl ?_;have p1:=(HR1.out.below hb).c1;unfold Mb Oper.wp;simp only[h6];go_simp
     exact⟨_,by simp only[Mb,Ja];simp[Act.put,h6],rfl,Br⟩
    ·have h3:xs 3= .slice (some ⟨g,0,none⟩) ts.length c:=hdep 3 (by kernel_rfl)
     have h7:xs 7= .int .i64 (i:Int):=hdep 7 (by kernel_rfl);refine Ca rfl rfl ?_;unfold Mb Oper.wp;simp only[h3,h7];go_simp
     exact⟨_,by simp only[Mb,Ja];simp[Act.put,h3,h7],rfl,Br⟩
    ·have h8:xs 8= .pointer (some ⟨g,i*8,none⟩):=hdep 8 (by kernel_rfl)
     refine Ca rfl rfl ?_;have r9:=HTR.out.r wz (HR1.out.below hb);refine wp_load_mid 54 (.tmp 19) rfl g (i*8) (by unfold Mb;simp only[h8];rfl) [.int .i64 t.kind,.bool t.n.neg,.slice A1 t.n.top.length c1,.slice A2 t.n.bot.length c2,.slice A3 t.l.length c3,.string ⟨t.s.toArray⟩,.int .i64 t.c,.int .i64 (t.at_:Int)] _ r9 Tryz.underlying54 rfl Ll ?_;exact⟨_,by simp only[Mb,Ja];simp[Act.put,h8],rfl,Br⟩
    refine Ca rfl rfl ?_;unfold Mb Oper.wp;go_simp
    exact⟨_,by simp only[Mb,Ja];simp[Act.put],⟨wz.heap.size,rfl,hb.size,heap_alloc_new wz _⟩,Br.alloc Lr _⟩
   intro xs wz hb hx;obtain⟨q,h10,hq1,hq2⟩:∃q,xs 10= .pointer (some ⟨q,0,none⟩)/\w1.heap.size<=q/\wz.heap[q]? =some (.cells #[.int .i64 0,.bool false,.slice none 0 0,.slice none 0 0,.slice none 0 0,.string ⟨#[]⟩,.int .i64 0,.int .i64 0] 54 (0,0)):=hx 10 (by decide);have h9:xs 9= .agg #[.int .i64 t.kind,.bool t.n.neg,.slice A1 t.n.top.length c1,.slice A2 t.n.bot.length c2,.slice A3 t.l.length c3,.string ⟨t.s.toArray⟩,.int .i64 t.c,.int .i64 (t.at_:Int)]:=hx 9 (by decide);clear hx;refine Ca rfl rfl ?_;refine wp_store_row 54 (.tmp 4) (.tmp 20) rfl q #[.int .i64 t.kind,.bool t.n.neg,.slice A1 t.n.top.length c1,.slice A2 t.n.bot.length c2,.slice A3 t.l.length c3,.string ⟨t.s.toArray⟩,.int .i64 t.c,.int .i64 (t.at_:Int)] (by unfold Mb;simp only[h10];rfl) (by unfold Mb;simp only[h9];rfl) 54 #[.int .i64 0,.bool false,.slice none 0 0,.slice none 0 0,.slice none 0 0,.string ⟨#[]⟩,.int .i64 0,.int .i64 0] hq2 Ll rfl (by simp[Value.oneCell']) ?_;obtain⟨w2,hw2⟩:∃w2,w2=wz.setRow q #[.int .i64 t.kind,.bool t.n.neg,.slice A1 t.n.top.length c1,.slice A2 t.n.bot.length c2,.slice A3 t.l.length c3,.string ⟨t.s.toArray⟩,.int .i64 t.c,.int .i64 (t.at_:Int)]:=⟨_,rfl⟩;have hb2:Below w1.heap.size w1 w2:=by rw[hw2];exact below_setRow hb hq1 _
   have BX2:Hid (w2.heap[q]? =some (.cells #[.int .i64 t.kind,.bool t.n.neg,.slice A1 t.n.top.length c1,.slice A2 t.n.bot.length c2,.slice A3 t.l.length c3,.string ⟨t.s.toArray⟩,.int .i64 t.c,.int .i64 (t.at_:Int)] 54 (0,0))):=Qd (by rw[hw2];exact setRow_heap _ _ _ _ _ _ hq2);have G2:=Qd (Ea rb hb2);have HR2:=Qd (HR1.out.below hb2);have hs2:=hb2.size;have hql:q<w2.heap.size:=(Array.getElem?_eq_some_iff.1 BX2.out).1;rw[<-hw2];unfold Mb;simp only[h9,h10];clear hb hq2 hw2 hb2 h9 h10;go_upto_region 4 with fail
   have p1:=HR2.out.c1;have f1:=HR2.out.fz 1;have hle3:=HR2.out.le;have hfw3:=hT.few;obtain⟨w3,HW3,hs3,G3,HR3⟩:=Km hT 1 1 rfl HR2 (by omega);go_upto_region 5 with fail
   rw[<-HW3.out];clear p1 f1;rcases HCASE.out with hk |hk |hk |hk |hk |⟨hk,hc⟩
   ·have e0:(t.kind==0)=true:=by simp[hk]
    have hlf:Pr.leaf t=some (.mk 1 0 [] t.n [] []):=by unfold Pr.leaf;simp[hk]
    rw[hlf] at hp;have hp3:r=some (_,ts.drop (i+1)):=(Option.some.inj hp).symm;subst hp3;clear hp hlf hk;have BXN:=Qd (Ba BX2.out G3.out (by omega:q≠rb));have ct0:w3.cell? ⟨q,0,none⟩=some (.int .i64 t.kind):=(cell_of_row _ q 0 _ _ _ BXN.out).trans rfl;have r1:w3.rangeAt q 1 [.bool t.n.neg,.slice A1 t.n.top.length c1,.slice A2 t.n.bot.length c2]:=λj v hv=>by
     have h3:j<3:=(List.getElem?_eq_some_iff.1 hv).1;refine(cell_of_row _ q (1+j) _ _ _ BXN.out).trans ?_;rcases(show j=0\/j=1\/j=2 by omega) with rfl |rfl |rfl<;>exact hv
    have QF0:=rg HQ (tt G1 (tt G2 G3)) (by omega);have hwo:=HR3.out.old.size;go_wp2_with (first|(with_reducible refine Opa rfl (.tmp 32) rfl q 1 rfl r1 ?_) |(with_reducible refine Ha rfl (.tmp 2) (.tmp 34) rfl w.heap.size rfl rfl QF0.out ?_))
    (try simp only[Exit.inBlock,Exit.then])
    refine Rb (by rfl) (by rfl) (by rfl) rfl QF0.out ?_;exact⟨⟨1,0,[],t.n.neg,A1,t.n.top.length,c1,A2,t.n.bot.length,c2,none,0,0,none,0,0⟩,i+1,(HR3.out.row (by omega) (by omega) _),(Xa (Fa HG0.out (tt G1 (tt G2 G3)).out) Lr _),rfl,rfl,TreeF.own (w0:=w0) (Za (by omega)) (by simp) HTR.out.f1 HTR.out.f2 (He _) HTR.out.ok.o1 HTR.out.ok.o2 (λn hn=>by cases hn) HTR.out.l1 HTR.out.l2 (.inl rfl) HTR.out.n1 HTR.out.n2 HTR.out.a1 HTR.out.a2 (.inl rfl) (λb hb=>by rw[setRow_size];unfold In at hb;rw[setRow_size] at hb;omega) (λb hb hq=> .inl ⟨hb,hq⟩) (HR3.out.row (by omega) (by omega) _).old⟩
   ·have e0:(t.kind==0)=false:=by simp[hk]
    have e1:(t.kind==1)=true:=by simp[hk]
    have hlf:Pr.leaf t=some (.mk 2 0 [] Rt.none_ t.l []):=by unfold Pr.leaf;simp[hk]
    rw[hlf] at hp;have hp3:r=some (_,ts.drop (i+1)):=(Option.some.inj hp).symm;subst hp3;clear hp hlf hk;have BXN:=Qd (Ba BX2.out G3.out (by omega:q≠rb));have ct0:w3.cell? ⟨q,0,none⟩=some (.int .i64 t.kind):=(cell_of_row _ q 0 _ _ _ BXN.out).trans rfl;have ct4:w3.cell? ⟨q,4,none⟩=some (.slice A3 t.l.length c3):=(cell_of_row _ q 4 _ _ _ BXN.out).trans rfl;have QF0:=rg HQ (tt G1 (tt G2 G3)) (by omega);have hwo:=HR3.out.old.size;go_wp2_with (with_reducible refine Ha rfl (.tmp 2) (.tmp 39) rfl w.heap.size rfl rfl QF0.out ?_)
    (try simp only[Exit.inBlock,Exit.then])
    refine Rb (by rfl) (by rfl) (by rfl) rfl QF0.out ?_;exact⟨⟨2,0,[],false,none,0,0,none,0,0,A3,t.l.length,c3,none,0,0⟩,i+1,(HR3.out.row (by omega) (by omega) _),(Xa (Fa HG0.out (tt G1 (tt G2 G3)).out) Lr _),rfl,rfl,TreeF.own (w0:=w0) (n:=Rt.none_) (Za (by omega)) (by simp) (He _) (He _) HTR.out.f3 (λ_ h=>by cases h) (λ_ h=>by cases h) HTR.out.ok.l (.inl rfl) (.inl rfl) HTR.out.l3 (λ_=>rfl) (λ_=>rfl) (.inl rfl) (.inl rfl) HTR.out.a3 (λb hb=>by rw[setRow_size];unfold In at hb;rw[setRow_size] at hb;omega) (λb hb hq=> .inl ⟨hb,hq⟩) (HR3.out.row (by omega) (by omega) _).old⟩
   ·have e0:(t.kind==0)=false:=by simp[hk]
    have e1:(t.kind==1)=false:=by simp[hk]
    have e2:(t.kind==2)=true:=by simp[hk]
    have hlf:Pr.leaf t=some (Pr.node 3 0 t.s []):=by unfold Pr.leaf;simp[hk]
    rw[hlf] at hp;have hp3:r=some (_,ts.drop (i+1)):=(Option.some.inj hp).symm;subst hp3;clear hp hlf hk;have BXN:=Qd (Ba BX2.out G3.out (by omega:q≠rb));have ct0:w3.cell? ⟨q,0,none⟩=some (.int .i64 t.kind):=(cell_of_row _ q 0 _ _ _ BXN.out).trans rfl;have ct5:w3.cell? ⟨q,5,none⟩=some (.string ⟨t.s.toArray⟩):=(cell_of_row _ q 5 _ _ _ BXN.out).trans rfl;have QF0:=rg HQ (tt G1 (tt G2 G3)) (by omega);have hwo:=HR3.out.old.size;go_wp2_with (with_reducible refine Ha rfl (.tmp 2) (.tmp 44) rfl w.heap.size rfl rfl QF0.out ?_)
    (try simp only[Exit.inBlock,Exit.then])
    refine Rb (by rfl) (by rfl) (by rfl) rfl QF0.out ?_;exact⟨⟨3,0,t.s,false,none,0,0,none,0,0,none,0,0,none,0,0⟩,i+1,(HR3.out.row (by omega) (by omega) _),(Xa (Fa HG0.out (tt G1 (tt G2 G3)).out) Lr _),rfl,rfl,TreeF.leaf (Za (by omega)) (by have:=HTR.out.ok.s;omega) (λb hb=>by rw[setRow_size];unfold In at hb;rw[setRow_size] at hb;omega)⟩
   ·have e0:(t.kind==0)=false:=by simp[hk]
    have e1:(t.kind==1)=false:=by simp[hk]
    have e2:(t.kind==2)=false:=by simp[hk]
    have e4:(t.kind==4)=true:=by simp[hk]
    have hlf:Pr.leaf t=some (Pr.node 6 t.c [] []):=by unfold Pr.leaf;simp[hk]
    rw[hlf] at hp;have hp3:r=some (_,ts.drop (i+1)):=(Option.some.inj hp).symm;subst hp3;clear hp hlf hk;have BXN:=Qd (Ba BX2.out G3.out (by omega:q≠rb));have ct0:w3.cell? ⟨q,0,none⟩=some (.int .i64 t.kind):=(cell_of_row _ q 0 _ _ _ BXN.out).trans rfl;have ct6:w3.cell? ⟨q,6,none⟩=some (.int .i64 t.c):=(cell_of_row _ q 6 _ _ _ BXN.out).trans rfl;have QF0:=rg HQ (tt G1 (tt G2 G3)) (by omega);have hwo:=HR3.out.old.size;go_wp2_with (with_reducible refine Ha rfl (.tmp 2) (.tmp 49) rfl w.heap.size rfl rfl QF0.out ?_)
    (try simp only[Exit.inBlock,Exit.then])
    refine Rb (by rfl) (by rfl) (by rfl) rfl QF0.out ?_;exact⟨⟨6,t.c,[],false,none,0,0,none,0,0,none,0,0,none,0,0⟩,i+1,(HR3.out.row (by omega) (by omega) _),(Xa (Fa HG0.out (tt G1 (tt G2 G3)).out) Lr _),rfl,rfl,TreeF.leaf (Hd (by omega) HTR.out.ok.c) (by simp) (λb hb=>by rw[setRow_size];unfold In at hb;rw[setRow_size] at hb;omega)⟩
   ·have e0:(t.kind==0)=false:=by simp[hk]
    have e1:(t.kind==1)=false:=by simp[hk]
    have e2:(t.kind==2)=false:=by simp[hk]
    have e4:(t.kind==4)=false:=by simp[hk]
    have e5:(t.kind==5)=true:=by simp[hk]
    have hlf:Pr.leaf t=some (Pr.node 7 t.c [] []):=by unfold Pr.leaf;simp[hk]
    rw[hlf] at hp;have hp3:r=some (_,ts.drop (i+1)):=(Option.some.inj hp).symm;subst hp3;clear hp hlf hk;have BXN:=Qd (Ba BX2.out G3.out (by omega:q≠rb));have ct0:w3.cell? ⟨q,0,none⟩=some (.int .i64 t.kind):=(cell_of_row _ q 0 _ _ _ BXN.out).trans rfl;have ct6:w3.cell? ⟨q,6,none⟩=some (.int .i64 t.c):=(cell_of_row _ q 6 _ _ _ BXN.out).trans rfl;have QF0:=rg HQ (tt G1 (tt G2 G3)) (by omega);have hwo:=HR3.out.old.size;go_wp2_with (with_reducible refine Ha rfl (.tmp 2) (.tmp 54) rfl w.heap.size rfl rfl QF0.out ?_)
    (try simp only[Exit.inBlock,Exit.then])
    refine Rb (by rfl) (by rfl) (by rfl) rfl QF0.out ?_;exact⟨⟨7,t.c,[],false,none,0,0,none,0,0,none,0,0,none,0,0⟩,i+1,(HR3.out.row (by omega) (by omega) _),(Xa (Fa HG0.out (tt G1 (tt G2 G3)).out) Lr _),rfl,rfl,TreeF.leaf (Hd (by omega) HTR.out.ok.c) (by simp) (λb hb=>by rw[setRow_size];unfold In at hb;rw[setRow_size] at hb;omega)⟩
   have e0:(t.kind==0)=false:=by simp[hk]
   have e1:(t.kind==1)=false:=by simp[hk]
   have e2:(t.kind==2)=false:=by simp[hk]
   have e4:(t.kind==4)=false:=by simp[hk]
   have e5:(t.kind==5)=false:=by simp[hk]
   rcases hc with hc |hc |hc
   ·have f1:(t.c==9082)=true:=by simp[hc]
    have hlf:Pr.leaf t=some (Pr.node 4 0 [] []):=by unfold Pr.leaf;simp[hk,hc]
    rw[hlf] at hp;have hp3:r=some (_,ts.drop (i+1)):=(Option.some.inj hp).symm;subst hp3;clear hp hlf hk hc;have BXN:=Qd (Ba BX2.out G3.out (by omega:q≠rb));have ct0:w3.cell? ⟨q,0,none⟩=some (.int .i64 t.kind):=(cell_of_row _ q 0 _ _ _ BXN.out).trans rfl;have ct6:w3.cell? ⟨q,6,none⟩=some (.int .i64 t.c):=(cell_of_row _ q 6 _ _ _ BXN.out).trans rfl;have QF0:=rg HQ (tt G1 (tt G2 G3)) (by omega);have hwo:=HR3.out.old.size;go_wp2_with (with_reducible refine Ha rfl (.tmp 2) (.tmp 59) rfl w.heap.size rfl rfl QF0.out ?_)
    (try simp only[Exit.inBlock,Exit.then])
    refine Rb (by rfl) (by rfl) (by rfl) rfl QF0.out ?_;exact⟨⟨4,0,[],false,none,0,0,none,0,0,none,0,0,none,0,0⟩,i+1,(HR3.out.row (by omega) (by omega) _),(Xa (Fa HG0.out (tt G1 (tt G2 G3)).out) Lr _),rfl,rfl,TreeF.leaf (Za (by omega)) (by simp) (λb hb=>by rw[setRow_size];unfold In at hb;rw[setRow_size] at hb;omega)⟩
   ·have f1:(t.c==9082)=false:=by simp[hc]
    have f2:(t.c==9077)=true:=by simp[hc]
    have hlf:Pr.leaf t=some (Pr.node 5 0 [] []):=by unfold Pr.leaf;simp[hk,hc]
    rw[hlf] at hp;have hp3:r=some (_,ts.drop (i+1)):=(Option.some.inj hp).symm;subst hp3;clear hp hlf hk hc;have BXN:=Qd (Ba BX2.out G3.out (by omega:q≠rb));have ct0:w3.cell? ⟨q,0,none⟩=some (.int .i64 t.kind):=(cell_of_row _ q 0 _ _ _ BXN.out).trans rfl;have ct6:w3.cell? ⟨q,6,none⟩=some (.int .i64 t.c):=(cell_of_row _ q 6 _ _ _ BXN.out).trans rfl;have QF0:=rg HQ (tt G1 (tt G2 G3)) (by omega);have hwo:=HR3.out.old.size;go_wp2_with (with_reducible refine Ha rfl (.tmp 2) (.tmp 62) rfl w.heap.size rfl rfl QF0.out ?_)
    (try simp only[Exit.inBlock,Exit.then])
    refine Rb (by rfl) (by rfl) (by rfl) rfl QF0.out ?_;exact⟨⟨5,0,[],false,none,0,0,none,0,0,none,0,0,none,0,0⟩,i+1,(HR3.out.row (by omega) (by omega) _),(Xa (Fa HG0.out (tt G1 (tt G2 G3)).out) Lr _),rfl,rfl,TreeF.leaf (Za (by omega)) (by simp) (λb hb=>by rw[setRow_size];unfold In at hb;rw[setRow_size] at hb;omega)⟩
   have f1:(t.c==9082)=false:=by simp[hc]
   have f2:(t.c==9077)=false:=by simp[hc]
   have hlf:Pr.leaf t=none:=by unfold Pr.leaf;simp[hk,hc]
   rw[hlf] at hp;clear hlf hk hc;have BXN:=Qd (Ba BX2.out G3.out (by omega:q≠rb));have ct0:w3.cell? ⟨q,0,none⟩=some (.int .i64 t.kind):=(cell_of_row _ q 0 _ _ _ BXN.out).trans rfl;have ct6:w3.cell? ⟨q,6,none⟩=some (.int .i64 t.c):=(cell_of_row _ q 6 _ _ _ BXN.out).trans rfl;cases h1:Pr.expr f (ts.drop (i+1)) with
   |none=>rw[h1] at hp;cases hp
   |some s1=>
    cases s1 with
    |none=>
     rw[h1] at hp;have hp2:r=none:=(Option.some.inj hp).symm;subst hp2;clear hp;go_wp2_with fail
     refine eN (hE f hfF (i+1) w3 none HR3.out h1) ?_;intro x4 j4 w4 HR4 G4 hs4;obtain⟨w5,HW5,B5,hs5,hz5,G5,HR5⟩:=Ab x4 HR4;go_upto_region 22 with fail
     rw[<-HW5.out];have L5:=Qd (Ba B5.out (Ef _ rb) (by omega:w4.heap.size≠rb));have QF0:=Qd (Ba HQ.out (tt G1 (tt G2 (tt G3 (tt G4 G5)))).out (by omega:w.heap.size≠rb));have hwo:=HR5.out.old.size;have HBX:Hid (∀k w1,Uq (World.drew w5) w.heap.size x4.a k w1->w1.heap[w4.heap.size]? =some (.cells x4.a 28 (0,0))):=Qd (λk w1 hk=>by
      match k,hk with
      | 0,hk=>cases hk;exact L5.out
      |k+1,hk=>obtain⟨wz,rfl,rfl⟩:=hk;rw[setRow_other _ _ _ _ (by omega)];exact L5.out)
     refine Zf [6] (Xc _ _ _ _ _ _ _ _ _ _ _ _ _ _ _ _ _ _ _ _ _ _ _ _ _ _ _ _ _ _ _ _ _ _ _ _ _ _ _ _ _ _ _ _ _ _ _ _ _ _ _ _ _ _ _ _ _ _ _ _ _ _ _ _ _ _ _) (Woa rb x4 false) (Uq (World.drew w5) w.heap.size x4.a) (by kernel_rfl) (by kernel_rfl) (by kernel_rfl) (by kernel_rfl) (by kernel_rfl) (Oj [_,_,_,_,_,_,undef,_]) rfl (rfl) ?_ ?_ ?_
     ·intro i xs w1 k hi hne hS hdep
      have hi6:i<8:=hi;clear hi;have hne2:i≠6/\True:=⟨λe=>hne (by rw[e];decide),trivial⟩;rcases(show i=0\/i=1\/i=2\/i=3\/i=4\/i=5\/i=7 by omega) with rfl |rfl |rfl |rfl |rfl |rfl |rfl
      ·refine Ca rfl rfl ?_
       refine wp_load_row 28 (.tmp 5) rfl w4.heap.size rfl 28 x4.a (0,0) _ (HBX.out _ _ hS) Tryz.underlying28 rfl Hc ?_;exact⟨_,by simp only[Xc,Ja];simp[Act.put],rfl,hS⟩
      ·refine Ca rfl rfl ?_
       unfold Xc Oper.wp;go_simp
       exact⟨_,by simp only[Xc,Ja];simp[Act.put],rfl,hS⟩
      ·have h1:xs 1= .bool false:=hdep 1 (by kernel_rfl)
       refine Ca rfl rfl ?_;unfold Xc Oper.wp;simp only[h1];go_simp
       exact⟨_,by simp only[Xc,Ja];simp[Act.put,h1],rfl,hS⟩
      ·have h2:xs 2= .bool false:=hdep 2 (by kernel_rfl)
       refine Rk rfl (by unfold Xc;simp[Region.wanted,yielded,h2]) ?_;exact⟨_,by simp only[Xc,Ja];simp[Act.put],rfl,hS⟩
      ·have h2:xs 2= .bool false:=hdep 2 (by kernel_rfl)
       refine Rk rfl (by unfold Xc;simp[Region.wanted,yielded,h2]) ?_;exact⟨_,by simp only[Xc,Ja];simp[Act.put],rfl,hS⟩
      ·have h2:xs 2= .bool false:=hdep 2 (by kernel_rfl)
       refine Ca rfl rfl ?_;unfold Xc Oper.wp;simp only[h2];go_simp
       exact⟨_,by simp only[Xc,Ja];simp[Act.put,h2],rfl,hS⟩
      have h5:xs 5= .bool false:=hdep 5 (by kernel_rfl);refine Ca rfl rfl ?_;unfold Xc Oper.wp;simp only[h5];go_simp
      exact⟨_,by simp only[Xc,Ja];simp[Act.put,h5],rfl,hS⟩
     ·intro m i xs w1 hm hS hdep
      match m,hm with
      | 0,hm=>
       obtain rfl:i=6:=(Option.some.inj hm).symm;have h0:xs 0= .agg #[.int .i64 x4.k,.int .i64 x4.o,.string ⟨x4.m.toArray⟩,.bool x4.g,.slice x4.A1 x4.n1 x4.c1,.slice x4.A2 x4.n2 x4.c2,.slice x4.A3 x4.n3 x4.c3,.slice x4.A4 x4.n4 x4.c4]:=hdep 0 (by kernel_rfl);refine Ca rfl rfl ?_;refine wp_store_row 28 (.tmp 2) (.tmp 68) rfl w.heap.size x4.a rfl (by unfold Xc;simp only[h0];rfl) 28 z8 ((by cases hS;exact QF0.out)) Hc rfl (by simp[Value.oneCell']) ?_;exact⟨undef,by simp only[Xc,Ja];simp[Act.put],trivial,⟨w1,hS,rfl⟩⟩
      |m+1,hm=>simp at hm
     intro xs w1 hS hx;have h7:xs 7= .bool false:=hx 7 (by decide);clear hx;obtain⟨wz,hz,rfl⟩:=hS;have HRZ:=Qd (HR5.out.below (Lf w5));have HGZ:Hid (w5.grownBy wz (some rb)):=Qd (by rw[hz];exact Ea rb (Lf _));rw[show World.drew w5=wz from hz.symm] at HRZ;have hsz:=HGZ.out.size;clear hz;have QFZ:=Qd (Ba QF0.out HGZ.out (by omega));unfold Xc;simp only[h7];clear h7;go_wp2_with fail
     (try simp only[Exit.inBlock,Exit.then])
     refine bodyPost_ret (Wl (by rfl) _ _ w.heap.size (by rfl) (by rfl) (setRow_heap _ _ _ _ _ _ QFZ.out)) rfl ?_;exact⟨x4,j4,(HRZ.out.row (by omega) (by omega) _),(Xa (Fa HG0.out (Fa (tt G1 (tt G2 (tt G3 (tt G4 G5)))).out HGZ.out)) Lr _),rfl⟩
    |some p1=>
     obtain⟨t1,U1⟩:=p1;have hp2:=hp;rw[h1] at hp2;clear hp;go_wp2_with fail
     refine eS (hE f hfF (i+1) w3 (some (t1,U1)) HR3.out h1) ?_;intro x4 j4 w4 hU4 HR4 G4 hs4 T4;subst hU4;obtain⟨w5,HW5,B5,hs5,hz5,G5,HR5⟩:=Ab x4 HR4;go_upto_region 22 with fail
     rw[<-HW5.out];by_cases hc:Pr.gl (ts.drop j4) 0=41
     ·have hg41:(Pr.gl (ts.drop j4) 0==41)=true:=by simp[hc]
      have hp3:r=some (t1,(ts.drop j4).tail):=((if_pos hc).symm.trans hp2|>Option.some.inj).symm;rw[drop_tail] at hp3;subst hp3;clear hp2;have L5:=Qd (Ba B5.out (Ef _ rb) (by omega:w4.heap.size≠rb));have QF0:=Qd (Ba HQ.out (tt G1 (tt G2 (tt G3 (tt G4 G5)))).out (by omega:w.heap.size≠rb));have hwo:=HR5.out.old.size;have HTK:=Qd (λw1 (hR:RdAt w0 ts (some ⟨g,0,none⟩) c rb j4 w1)=>Fd hT 41 (by decide) (j4) w1 hR);rw[hg41] at HTK;have HBX:Hid (∀k w1,Lca (World.drew w5) (λw1=>RdAt w0 ts (some ⟨g,0,none⟩) c rb (j4+1) w1/\w5.grownBy w1 (some rb)) w.heap.size x4.a k w1->w1.heap[w4.heap.size]? =some (.cells x4.a 28 (0,0))):=Qd (λk w1 hk=>by
       match k,hk with
       | 0,hk=>cases hk;exact L5.out
       | 1,hk=>have hk:RdAt w0 ts (some ⟨g,0,none⟩) c rb (j4+1) w1/\w5.grownBy w1 (some rb):=hk;exact Ba L5.out hk.2 (by omega)
       |k+2,hk=>obtain⟨wz,hkz,hez⟩:∃wz,(RdAt w0 ts (some ⟨g,0,none⟩) c rb (j4+1) wz/\w5.grownBy wz (some rb))/\w1=wz.setRow w.heap.size #[.int .i64 x4.k,.int .i64 x4.o,.string ⟨x4.m.toArray⟩,.bool x4.g,.slice x4.A1 x4.n1 x4.c1,.slice x4.A2 x4.n2 x4.c2,.slice x4.A3 x4.n3 x4.c3,.slice x4.A4 x4.n4 x4.c4]:=hk;subst hez;have hk2:RdAt w0 ts (some ⟨g,0,none⟩) c rb (j4+1) wz/\w5.grownBy wz (some rb):=hkz;rw[setRow_other _ _ _ _ (by omega)];exact Ba L5.out hk2.2 (by omega))
      refine Zf [4,6] (Ya _ _ _ _ _ _ _ _ _ _ _ _ _ _ _ _ _ _ _ _ _ _ _ _ _ _ _ _ _ _ _ _ _ _ _ _ _ _ _ _ _ _ _ _ _ _ _ _ _ _ _ _ _ _ _ _ _ _ _ _ _ _ _ _ _ _ _) (Vga rb x4 true) (Lca (World.drew w5) (λw1=>RdAt w0 ts (some ⟨g,0,none⟩) c rb (j4+1) w1/\w5.grownBy w1 (some rb)) w.heap.size x4.a) (by kernel_rfl) (by kernel_rfl) (by kernel_rfl) (by kernel_rfl) (by kernel_rfl) (Oj [_,_,_,_,_,_,undef,_]) rfl (rfl) ?_ ?_ ?_
      ·intro i xs w1 k hi hne hS hdep
       have hi6:i<8:=hi;clear hi;have hne2:i≠4/\i≠6:=⟨λe=>hne (by rw[e];decide),λe=>hne (by rw[e];decide)⟩;rcases(show i=0\/i=1\/i=2\/i=3\/i=5\/i=7 by omega) with rfl |rfl |rfl |rfl |rfl |rfl
       ·refine Ca rfl rfl ?_
        refine wp_load_row 28 (.tmp 5) rfl w4.heap.size rfl 28 x4.a (0,0) _ (HBX.out _ _ hS) Tryz.underlying28 rfl Hc ?_;exact⟨_,by simp only[Ya,Ja];simp[Act.put],rfl,hS⟩
       ·refine Ca rfl rfl ?_
        unfold Ya Oper.wp;go_simp
        exact⟨_,by simp only[Ya,Ja];simp[Act.put],rfl,hS⟩
       ·have h1:xs 1= .bool true:=hdep 1 (by kernel_rfl)
        refine Ca rfl rfl ?_;unfold Ya Oper.wp;simp only[h1];go_simp
        exact⟨_,by simp only[Ya,Ja];simp[Act.put,h1],rfl,hS⟩
       ·have h2:xs 2= .bool true:=hdep 2 (by kernel_rfl)
        refine Uh rfl (by unfold Ya;simp[Region.wanted,yielded,h2]) ?_;unfold Ya Oper.wp;simp only[h2];go_simp
        exact⟨_,by simp only[Ya,Ja];simp[Act.put,h2],rfl,hS⟩
       ·have h2:xs 2= .bool true:=hdep 2 (by kernel_rfl)
        have h4:xs 4= .bool true:=hdep 4 (by kernel_rfl);refine Ca rfl rfl ?_;unfold Ya Oper.wp;simp only[h2,h4];go_simp
        exact⟨_,by simp only[Ya,Ja];simp[Act.put,h2,h4],rfl,hS⟩
       have h5:xs 5= .bool true:=hdep 5 (by kernel_rfl);refine Ca rfl rfl ?_;unfold Ya Oper.wp;simp only[h5];go_simp
       exact⟨_,by simp only[Ya,Ja];simp[Act.put,h5],rfl,hS⟩
      ·intro m i xs w1 hm hS hdep
       match m,hm with
       | 0,hm=>
        obtain rfl:i=4:=(Option.some.inj hm).symm;have h3:xs 3= .pointer (some ⟨rb,0,none⟩):=hdep 3 (by kernel_rfl);have h2:xs 2= .bool true:=hdep 2 (by kernel_rfl);refine Uh rfl (by unfold Ya;simp[Region.wanted,yielded,h2]) ?_;unfold Ya Oper.wp;simp only[h3];go_simp
        cases hS;refine(HTK.out _ (HR5.out.below (Lf _))).mono ?_;rintro e wt ⟨rfl,hRt,hGt⟩;exact⟨_,by simp only[Ya,Ja];simp[Act.put,h3,h2],rfl,⟨hRt,Fa (Ea rb (Lf _)) hGt⟩⟩
       | 1,hm=>
        obtain rfl:i=6:=(Option.some.inj hm).symm;have h0:xs 0= .agg #[.int .i64 x4.k,.int .i64 x4.o,.string ⟨x4.m.toArray⟩,.bool x4.g,.slice x4.A1 x4.n1 x4.c1,.slice x4.A2 x4.n2 x4.c2,.slice x4.A3 x4.n3 x4.c3,.slice x4.A4 x4.n4 x4.c4]:=hdep 0 (by kernel_rfl);refine Ca rfl rfl ?_;refine wp_store_row 28 (.tmp 2) (.tmp 68) rfl w.heap.size x4.a rfl (by unfold Ya;simp only[h0];rfl) 28 z8 (Ba QF0.out hS.2 (by omega)) Hc rfl (by simp[Value.oneCell']) ?_;exact⟨undef,by simp only[Ya,Ja];simp[Act.put],trivial,⟨w1,hS,rfl⟩⟩
       |m+2,hm=>simp at hm
      intro xs w1 hS hx;have h7:xs 7= .bool true:=hx 7 (by decide);clear hx;obtain⟨wz,hz,rfl⟩:=hS;obtain⟨hRz,hGz⟩:=hz;have HRZ:=Qd hRz;have HGZ:=Qd hGz;have hsz:=hGz.size;clear hRz hGz;have QFZ:=Qd (Ba QF0.out HGZ.out (by omega));unfold Ya;simp only[h7];clear h7;go_wp2_with fail
      (try simp only[Exit.inBlock,Exit.then])
      refine bodyPost_ret (Wl (by rfl) _ _ w.heap.size (by rfl) (by rfl) (setRow_heap _ _ _ _ _ _ QFZ.out)) rfl ?_;refine⟨x4,j4+1,(HRZ.out.row (by omega) (by omega) _),(Xa (Fa HG0.out (Fa (tt G1 (tt G2 (tt G3 (tt G4 G5)))).out HGZ.out)) Lr _),rfl,rfl,?_⟩;exact(((T4.out.grown (Fa G5.out HGZ.out) hlo (by omega)).setRow (q:=w.heap.size) (cs:=x4.a) (by omega) (.inl (by omega))).wide (by omega) (by rw[setRow_size];omega) Lr (by rw[setRow_size];omega))
     have hg41:(Pr.gl (ts.drop j4) 0==41)=false:=by simp[hc]
     have hp3:r=none:=((if_neg hc).symm.trans hp2|>Option.some.inj).symm;subst hp3;clear hp2;have L5:=Qd (Ba B5.out (Ef _ rb) (by omega:w4.heap.size≠rb));have QF0:=Qd (Ba HQ.out (tt G1 (tt G2 (tt G3 (tt G4 G5)))).out (by omega:w.heap.size≠rb));have hwo:=HR5.out.old.size;have HTK:=Qd (λw1 (hR:RdAt w0 ts (some ⟨g,0,none⟩) c rb j4 w1)=>Fd hT 41 (by decide) (j4) w1 hR);rw[hg41] at HTK;have HBX:Hid (∀k w1,Lca (World.drew w5) (λw1=>RdAt w0 ts (some ⟨g,0,none⟩) c rb (j4) w1/\w5.grownBy w1 (some rb)) w.heap.size x4.a k w1->w1.heap[w4.heap.size]? =some (.cells x4.a 28 (0,0))):=Qd (λk w1 hk=>by
      match k,hk with
      | 0,hk=>cases hk;exact L5.out
      | 1,hk=>have hk:RdAt w0 ts (some ⟨g,0,none⟩) c rb (j4) w1/\w5.grownBy w1 (some rb):=hk;exact Ba L5.out hk.2 (by omega)
      |k+2,hk=>obtain⟨wz,hkz,hez⟩:∃wz,(RdAt w0 ts (some ⟨g,0,none⟩) c rb (j4) wz/\w5.grownBy wz (some rb))/\w1=wz.setRow w.heap.size #[.int .i64 x4.k,.int .i64 x4.o,.string ⟨x4.m.toArray⟩,.bool x4.g,.slice x4.A1 x4.n1 x4.c1,.slice x4.A2 x4.n2 x4.c2,.slice x4.A3 x4.n3 x4.c3,.slice x4.A4 x4.n4 x4.c4]:=hk;subst hez;have hk2:RdAt w0 ts (some ⟨g,0,none⟩) c rb (j4) wz/\w5.grownBy wz (some rb):=hkz;rw[setRow_other _ _ _ _ (by omega)];exact Ba L5.out hk2.2 (by omega))
     refine Zf [4,6] (Ya _ _ _ _ _ _ _ _ _ _ _ _ _ _ _ _ _ _ _ _ _ _ _ _ _ _ _ _ _ _ _ _ _ _ _ _ _ _ _ _ _ _ _ _ _ _ _ _ _ _ _ _ _ _ _ _ _ _ _ _ _ _ _ _ _ _ _) (Vga rb x4 false) (Lca (World.drew w5) (λw1=>RdAt w0 ts (some ⟨g,0,none⟩) c rb (j4) w1/\w5.grownBy w1 (some rb)) w.heap.size x4.a) (by kernel_rfl) (by kernel_rfl) (by kernel_rfl) (by kernel_rfl) (by kernel_rfl) (Oj [_,_,_,_,_,_,undef,_]) rfl (rfl) ?_ ?_ ?_
     ·intro i xs w1 k hi hne hS hdep
      have hi6:i<8:=hi;clear hi;have hne2:i≠4/\i≠6:=⟨λe=>hne (by rw[e];decide),λe=>hne (by rw[e];decide)⟩;rcases(show i=0\/i=1\/i=2\/i=3\/i=5\/i=7 by omega) with rfl |rfl |rfl |rfl |rfl |rfl
      ·refine Ca rfl rfl ?_
       refine wp_load_row 28 (.tmp 5) rfl w4.heap.size rfl 28 x4.a (0,0) _ (HBX.out _ _ hS) Tryz.underlying28 rfl Hc ?_;exact⟨_,by simp only[Ya,Ja];simp[Act.put],rfl,hS⟩
      ·refine Ca rfl rfl ?_
       unfold Ya Oper.wp;go_simp
       exact⟨_,by simp only[Ya,Ja];simp[Act.put],rfl,hS⟩
      ·have h1:xs 1= .bool true:=hdep 1 (by kernel_rfl)
       refine Ca rfl rfl ?_;unfold Ya Oper.wp;simp only[h1];go_simp
       exact⟨_,by simp only[Ya,Ja];simp[Act.put,h1],rfl,hS⟩
      ·have h2:xs 2= .bool true:=hdep 2 (by kernel_rfl)
       refine Uh rfl (by unfold Ya;simp[Region.wanted,yielded,h2]) ?_;unfold Ya Oper.wp;simp only[h2];go_simp
       exact⟨_,by simp only[Ya,Ja];simp[Act.put,h2],rfl,hS⟩
      ·have h2:xs 2= .bool true:=hdep 2 (by kernel_rfl)
       have h4:xs 4= .bool false:=hdep 4 (by kernel_rfl);refine Ca rfl rfl ?_;unfold Ya Oper.wp;simp only[h2,h4];go_simp
       exact⟨_,by simp only[Ya,Ja];simp[Act.put,h2,h4],rfl,hS⟩
      have h5:xs 5= .bool false:=hdep 5 (by kernel_rfl);refine Ca rfl rfl ?_;unfold Ya Oper.wp;simp only[h5];go_simp
      exact⟨_,by simp only[Ya,Ja];simp[Act.put,h5],rfl,hS⟩
     ·intro m i xs w1 hm hS hdep
      match m,hm with
      | 0,hm=>
       obtain rfl:i=4:=(Option.some.inj hm).symm;have h3:xs 3= .pointer (some ⟨rb,0,none⟩):=hdep 3 (by kernel_rfl);have h2:xs 2= .bool true:=hdep 2 (by kernel_rfl);refine Uh rfl (by unfold Ya;simp[Region.wanted,yielded,h2]) ?_;unfold Ya Oper.wp;simp only[h3];go_simp
       cases hS;refine(HTK.out _ (HR5.out.below (Lf _))).mono ?_;rintro e wt ⟨rfl,hRt,hGt⟩;exact⟨_,by simp only[Ya,Ja];simp[Act.put,h3,h2],rfl,⟨hRt,Fa (Ea rb (Lf _)) hGt⟩⟩
      | 1,hm=>
       obtain rfl:i=6:=(Option.some.inj hm).symm;have h0:xs 0= .agg #[.int .i64 x4.k,.int .i64 x4.o,.string ⟨x4.m.toArray⟩,.bool x4.g,.slice x4.A1 x4.n1 x4.c1,.slice x4.A2 x4.n2 x4.c2,.slice x4.A3 x4.n3 x4.c3,.slice x4.A4 x4.n4 x4.c4]:=hdep 0 (by kernel_rfl);refine Ca rfl rfl ?_;refine wp_store_row 28 (.tmp 2) (.tmp 68) rfl w.heap.size x4.a rfl (by unfold Ya;simp only[h0];rfl) 28 z8 (Ba QF0.out hS.2 (by omega)) Hc rfl (by simp[Value.oneCell']) ?_;exact⟨undef,by simp only[Ya,Ja];simp[Act.put],trivial,⟨w1,hS,rfl⟩⟩
      |m+2,hm=>simp at hm
     intro xs w1 hS hx;have h7:xs 7= .bool false:=hx 7 (by decide);clear hx;obtain⟨wz,hz,rfl⟩:=hS;obtain⟨hRz,hGz⟩:=hz;have HRZ:=Qd hRz;have HGZ:=Qd hGz;have hsz:=hGz.size;clear hRz hGz;have QFZ:=Qd (Ba QF0.out HGZ.out (by omega));unfold Ya;simp only[h7];clear h7;go_wp2_with fail
     (try simp only[Exit.inBlock,Exit.then])
     refine bodyPost_ret (Wl (by rfl) _ _ w.heap.size (by rfl) (by rfl) (setRow_heap _ _ _ _ _ _ QFZ.out)) rfl ?_;exact⟨x4,j4,(HRZ.out.row (by omega) (by omega) _),(Xa (Fa HG0.out (Fa (tt G1 (tt G2 (tt G3 (tt G4 G5)))).out HGZ.out)) Lr _),rfl⟩
  rw[if_neg hb] at hp;replace hb:Pr.begA (ts.drop i)=false:=by simpa using hb
  have hp2:r=none:=(Option.some.inj hp).symm;subst hp2;clear hp;go_enter Tryz.func169,Tryz.ntmps169
  go_upto_region 1 with fail
  rw[<-HW.out];go_wp2_with fail
  refine Mh (Rh hT i W HRW.out) hb HRW ?_;intro w1 G1 HR1 hs1;have QF0:=rg HQ G1 (by omega);go_wp2_with (with_reducible refine Ha rfl (.tmp 2) (.tmp 10) rfl w.heap.size rfl rfl QF0.out ?_)
  (try simp only[Exit.inBlock,Exit.then])
  refine Rb (by rfl) (by rfl) (by rfl) rfl QF0.out ?_;exact dN (x:=x0) HR1 (tt HG0 G1) hlt hq0
end
end
end Go.Proofs.YtceplkpjnebnfaaGreatDoor
