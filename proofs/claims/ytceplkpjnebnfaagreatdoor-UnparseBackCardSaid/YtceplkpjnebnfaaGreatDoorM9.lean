/- Texts of this proof, joined. -/
import Derived.Test.YtceplkpjnebnfaaGreatDoorM8
import Derived.SizedLaws
set_option linter.all false
set_option maxHeartbeats 8000000
set_option maxRecDepth 100000
namespace Go.Proofs.YtceplkpjnebnfaaGreatDoor
open Go.RowKit
theorem Uia {w:World}{v1 v2:Value}{l1 l2:List Nat}(h1:IsRes w v1 l1)(h2:IsRes w v2 l2)(o1:Nt.Ok l1)(o2:Nt.Ok l2)(s1:l1.length<=1000000)(s2:l2.length<=1000000):
 Calls Tryz.prog 62 #[v1,v2] w λe w'=>∃v,e= .returned v/\IsRes w' v (Nt.digs (Nt.val l1+Nt.val l2))/\Below w.heap.size w w':=by
 obtain⟨A,c,rfl,a1,a2,a3,a4⟩:=h1;obtain⟨A',c',rfl,b1,b2,b3,b4⟩:=h2;exact Jaa A A' c c' w.heap.size l1 l2 w a4 b4 Lr o1 o2 a1 b1 a2 b2 (by omega) (by omega)
theorem Jl (w:World)(l:List Nat)(h:l.length<=1000):IsRes (w.alloc (.cells (U l).toArray 90)) (.slice (some ⟨w.heap.size,0,none⟩) l.length l.length) l:=
 ⟨_,_,rfl,Lr,by omega,(λh=>by cases h),by
  have:=Lies.new w (U l) 90;exact this.more (by simp)⟩
theorem Kfa {a b:Nat}(h1:a<4294967296)(h2:b<4294967296):Nt.Ok [a,b]:=by
 intro d hd;rcases List.mem_cons.1 hd with rfl |hd
 ·exact h1
 rw[List.mem_singleton] at hd;subst hd;exact h2
theorem C9 (n:Nat):Nt.val [n%4294967296,n/4294967296]=n:=by simp[Nt.val];omega
theorem C3 (n:Int)(w:World)(h1: -9223372036854775808<=n)(h2:n<=9223372036854775807):
 Calls Tryz.prog 34 #[.int .i64 n] w (Dq w (decide (n<0)) (Nt.digs n.natAbs)):=by
 have HI2:Hid (∀(b:Bool) (A:Option Addr) (k c:Nat),(Tryz.prog.info? 62).map (·.size)=some (#[.bool b,.slice A k c]:Array Value).size):=Qd (λ_ _ _ _=>Gf);obtain⟨w1,hw1⟩:∃w1,w1=w.alloc (.cells #[.bool false,.slice none 0 0] 62):=⟨_,rfl⟩;have hb1:Below w.heap.size w w1:=by rw[hw1];exact Br.alloc Lr _
 have HG1:Hid (w1.heap[w.heap.size]? =some (.cells #[.bool false,.slice none 0 0] 62 (0,0))):=Qd (by rw[hw1];exact heap_alloc_new w _);have HW1:=Qd hw1;have HS1:Hid (w1.heap.size=w.heap.size+1):=Qd (by rw[hw1];simp);clear hw1;by_cases hn:0<=n
 ·obtain⟨m,rfl⟩:∃m:Nat,n=(m:Int):=⟨n.toNat,by omega⟩
  have hm1:m%4294967296<4294967296:=by omega
  have hm2:m/4294967296<4294967296:=by omega
  obtain⟨w2,hw2⟩:∃w2,w2=w1.alloc (.cells #[.int .u32 ((m%4294967296:Nat):Int),.int .u32 ((m/4294967296:Nat):Int)] 90):=⟨_,rfl⟩;have hr:IsRes w2 (.slice (some ⟨w1.heap.size,0,none⟩) 2 2) [m%4294967296,m/4294967296]:=by rw[hw2];exact Jl w1 [m%4294967296,m/4294967296] (by simp)
  have NM:=Ug false _ _ w2 ⟨hr,Kfa hm1 hm2,by show 2<=64;decide⟩;rw[C9] at NM;have hnn:Rt.nrm false m=false:=by unfold Rt.nrm;simp
  rw[hnn,HS1.out] at NM;have HP:Hid (decide ((m:Int)<0)=false):=Qd (decide_eq_false (by omega));have HM:Hid ((m:Int).natAbs=m):=Qd (by omega);have hb2:Below w.heap.size w w2:=by rw[hw2];exact hb1.alloc hb1.size _
  have HG2:Hid (w2.heap[w.heap.size]? =some (.cells #[.bool false,.slice none 0 0] 62 (0,0))):=Qd (by rw[hw2];exact(Below.heap_alloc _ _ _ (Ib HG1.out)).trans HG1.out);have HNM:=Qd NM;have HW2:Hid (w2=w1.alloc (.cells #[.int .u32 ((m:Int)%4294967296),.int .u32 ((m:Int)/4294967296)] 90)):=Qd (by rw[hw2];simp);have e1:(m:Int)%4294967296<4294967296:=by omega
  have e2:(m:Int)/4294967296<4294967296:=by omega
  have e3:0<=(m:Int)%4294967296:=by omega
  have e4:0<=(m:Int)/4294967296:=by omega
  clear hw2 NM hnn hr hm1 hm2;go_enter Tryz.func34,Tryz.ntmps34
  go_wp2_with fail
  rw[<-HW1.out,<-HW2.out]
  (with_reducible refine HNM.out.mono ?_)
  rintro e w3 ⟨v3,rfl,hr3,hb3⟩;have HG3:=Qd ((hb3.block w.heap.size (Ib HG2.out)).trans HG2.out);have hbw3:=hb2.trans (hb3.mono hb2.size);have HR3:=Qd (hr3.setRow HG3.out (Lc _ _ _ _) #[.bool false,v3]);obtain⟨⟨A3,c3,rfl,-⟩,-⟩:=hr3;clear hb3 hb1 hb2 HNM;go_wp2_with (with_reducible refine wpList_store_row rfl 62 (.tmp 2) (.tmp 14) rfl w.heap.size #[.bool false,.slice A3 (Nt.digs m).length c3] rfl rfl 62 #[.bool false,.slice none 0 0] HG3.out (HI2.out _ _ _ _) rfl (Ae _ _ _ _) ?_)
  refine bodyPost_ret (results_cell_row (by rfl) _ _ w.heap.size 62 #[.bool false,.slice A3 (Nt.digs m).length c3] (0,0) _ (by rfl) (Eb HG3.out) Tryz.underlying62 rfl (HI2.out _ _ _ _)) rfl ⟨_,by rw[HP.out],by rw[HM.out];exact HR3.out,rBelow.setRow hbw3 Lr _⟩
 obtain⟨m,hm⟩:∃m:Nat,-1-n=(m:Int):=⟨(-1-n).toNat,by omega⟩;have hm63:m<=9223372036854775807:=by omega
 have hm1:m%4294967296<4294967296:=by omega
 have hm2:m/4294967296<4294967296:=by omega
 obtain⟨w2,hw2⟩:∃w2,w2=(w1.alloc (.cells #[.int .u32 ((m%4294967296:Nat):Int),.int .u32 ((m/4294967296:Nat):Int)] 90)).alloc (.cells #[.int .u32 1] 90):=⟨_,rfl⟩;have hr:IsRes w2 (.slice (some ⟨w1.heap.size,0,none⟩) 2 2) [m%4294967296,m/4294967296]:=by
  rw[hw2];exact(Jl w1 [m%4294967296,m/4294967296] (by simp)).below (Br.alloc Lr _)
 have hr':IsRes w2 (.slice (some ⟨w1.heap.size+1,0,none⟩) 1 1) [1]:=by
  have:=Jl (w1.alloc (.cells #[.int .u32 ((m%4294967296:Nat):Int),.int .u32 ((m/4294967296:Nat):Int)] 90)) [1] (by decide);rw[show(w1.alloc (.cells #[.int .u32 ((m%4294967296:Nat):Int),.int .u32 ((m/4294967296:Nat):Int)] 90)).heap.size=w1.heap.size+1 by simp] at this;rw[hw2];exact this
 have AD:=Uia hr hr' (Kfa hm1 hm2) (by intro d hd;rw[List.mem_singleton] at hd;subst hd;decide) (by simp) (by simp);rw[C9,show Nt.val [1]=1 from rfl,HS1.out] at AD;have hnn:Rt.nrm true (m+1)=true:=by unfold Rt.nrm;simp
 have HP:Hid (decide (n<0)=true):=Qd (decide_eq_true (by omega));have HM:Hid (n.natAbs=m+1):=Qd (by omega);have hb2:Below w.heap.size w w2:=by rw[hw2];exact(hb1.alloc hb1.size _).alloc (by have:=hb1.size;simp;omega) _
 have HG2:Hid (w2.heap[w.heap.size]? =some (.cells #[.bool false,.slice none 0 0] 62 (0,0))):=Qd (by
  have hlt:=Ib HG1.out;rw[hw2];exact(Below.heap_alloc _ _ _ (by simp;omega)).trans ((Below.heap_alloc _ _ _ hlt).trans HG1.out))
 have HAD:=Qd AD;have HW2:Hid (w2=(w1.alloc (.cells #[.int .u32 ((m:Int)%4294967296),.int .u32 ((m:Int)/4294967296)] 90)).alloc (.cells #[.int .u32 1] 90)):=Qd (by rw[hw2];simp);have HNN:=Qd hnn;have hdl:(Nt.digs (m+1)).length<=64:=by
  have:=Nt.digs_len_lt (n:=m+1) (k:=2) (by omega);omega
 have e0:IntKind.i64.wrap (-1-n)=(m:Int):=by rw[hm];exact IntWalk.i64_in _ (by omega)
 have e1:(m:Int)%4294967296<4294967296:=by omega
 have e2:(m:Int)/4294967296<4294967296:=by omega
 have e3:0<=(m:Int)%4294967296:=by omega
 have e4:0<=(m:Int)/4294967296:=by omega
 have hneg:decide (0<=n)=false:=decide_eq_false hn;have e5:wrap64 (-1-n)=(m:Int):=IntWalk.wrap64_in _ (by omega)|>.trans hm;clear hw2 AD hnn hr hr' hm1 hm2 hm63 h2 hn h1 hm;go_enter Tryz.func34,Tryz.ntmps34
 go_wp2_with fail
 rw[<-HW1.out,<-HW2.out]
 (with_reducible refine HAD.out.mono ?_)
 rintro e w3 ⟨v3,rfl,hr3,hb3⟩;have HG3:=Qd ((hb3.block w.heap.size (Ib HG2.out)).trans HG2.out);have hbw3:=hb2.trans (hb3.mono hb2.size);have NM:=Ug true v3 _ w3 ⟨hr3,Nt.ok_digs _,hdl⟩;rw[Nt.val_digs,HNN.out] at NM;have HNM:=Qd NM;obtain⟨A3,c3,rfl,-⟩:=hr3;clear hb3 hb1 hb2 HAD NM;go_wp2_with fail
 (with_reducible refine HNM.out.mono ?_)
 rintro e w4 ⟨v4,rfl,hr4,hb4⟩;have HG4:=Qd ((hb4.block w.heap.size (Ib HG3.out)).trans HG3.out);have hbw4:=hbw3.trans (hb4.mono hbw3.size);have HR4:=Qd (hr4.setRow HG4.out (Lc _ _ _ _) #[.bool true,v4]);obtain⟨⟨A4,c4,rfl,-⟩,-⟩:=hr4;clear hb4 HNM;go_wp2_with (with_reducible refine wpList_store_row rfl 62 (.tmp 2) (.tmp 27) rfl w.heap.size #[.bool true,.slice A4 (Nt.digs (m+1)).length c4] rfl rfl 62 #[.bool false,.slice none 0 0] HG4.out (HI2.out _ _ _ _) rfl (Ae _ _ _ _) ?_)
 refine bodyPost_ret (results_cell_row (by rfl) _ _ w.heap.size 62 #[.bool true,.slice A4 (Nt.digs (m+1)).length c4] (0,0) _ (by rfl) (Eb HG4.out) Tryz.underlying62 rfl (HI2.out _ _ _ _)) rfl ⟨_,by rw[HP.out],by rw[HM.out];exact HR4.out,rBelow.setRow hbw4 Lr _⟩
end Go.Proofs.YtceplkpjnebnfaaGreatDoor
namespace Tr
open Go Tk Lx Pr
mutual
def Qe:Tree->Bool
 | .mk _ _ _ n _ l=>decide (n.top.length<=16)&&decide (n.bot.length<=16)&&Cg l
def Cg:List Tree->Bool
 | []=>true
 |t::r=>Qe t&&Cg r
end
theorem Du:∀l:List Tree,Cg l=true↔∀t∈l,Qe t=true
 | []=>by simp[Cg]
 |t::r=>by simp[Cg,Du r]
theorem Zw {l:List Nat}(ho:Nt.Ok l)(hs:l.length<=16):(Lib.decDigits (Nt.val l)).length<=160:=by
 have h1:=Nt.val_lt ho;have h2:(4294967296:Nat)^l.length<=4294967296^16:=Nat.pow_le_pow_right (by omega) hs;have h3:(4294967296:Nat)^16<=10^(159+1):=by decide
 have:=(Ten.dec_len (k:=159) (r:=Nt.val l) (by omega)).2;omega
theorem Lfa {n:Rt.Nm}(h:Rt.right n=true):Bm n:=by
 have h1:=Dg.mk_right h;have h2:=Qt n.neg false (Nt.val n.top) (Nt.val n.bot);rw[h1] at h2;exact h2
theorem N6 {n:Rt.Nm}(h:Rt.right n=true)(h1:n.top.length<=16)(h2:n.bot.length<=16):(Dg.print n).length<=400:=by
 have hf:=Lfa h;have k1:=Zw hf.o1 h1;have k2:=Zw hf.o2 h2;unfold Dg.print;rw[List.length_append,List.length_append];have e1:(if n.neg=true then[(194:UInt8),175] else[]).length<=2:=by split<;>decide
 have e2:(if n.bot=[1] then([]:List UInt8) else 114::Lib.decDigits (Nt.val n.bot)).length<=161:=by
  split
  ·decide
  rw[List.length_cons];omega
 omega
theorem Ax:∀(m:Nat) (t:Tree),SizeOf.sizeOf t<m->all t=true->Qe t=true->NumOk t
 | 0,_,h,_,_=>by omega
 |m+1,.mk k o mm n x l,hm,h,hf=>by
  obtain⟨hh,hl⟩:Ta k o mm n x=true/\∀a∈l,all a=true:=by
   have:=Sb h;exact⟨this.1,λa ha=>alls_mem this.2.2 a ha⟩
  rw[Qe] at hf;simp only[Bool.and_eq_true,decide_eq_true_eq,Du] at hf;rw[NumOk];refine⟨λhk=>?_,λa _=>?_⟩
  ·unfold Ta at hh
   rw[if_pos hk] at hh;simp only[Bool.and_eq_true] at hh;exact N6 hh.1.1.1 hf.1.1 hf.1.2
  have hs:=List.sizeOf_lt_of_mem a.2;simp only[Tree.mk.sizeOf_spec] at hm;exact Ax m a.1 (by omega) (hl a.1 a.2) (hf.2 a.1 a.2)
end Tr
namespace Go.Proofs.YtceplkpjnebnfaaGreatDoor
section
open Go.RowKit Ar
structure Jp where
 kind:Int
 port:Int
 frm:Nat
 to:Nat
 cls:Int
 v:Te
def Rqa (r:Jp)(S':Nat)(X:Option Addr)(n c:Nat)(X':Option Addr)(n' c':Nat):List Value:=
 [.int .i64 r.kind,.int .i64 r.port,.int .u64 (r.frm:Int),.int .u64 (r.to:Int),.int .i64 r.cls,.int .u64 (S':Int),.slice X n c,.slice X' n' c']
def IsRec (w:World)(B:Nat)(r:Jp)(vs:List Value):Prop:=
 ∃S' X n c X' n' c',vs=Rqa r S' X n c X' n' c'/\IsArr w B r.v [.int .u64 (S':Int),.slice X n c,.slice X' n' c']/\r.frm<18446744073709551616/\r.to<18446744073709551616/\Jd [r.kind,r.port,r.cls]
def IsRecs (w:World)(B:Nat):List Jp->List Value->Prop
 | [],vs=>vs=[]
 |c::r,vs=>∃u t,vs=u++t/\IsRec w B c u/\IsRecs w B r t
theorem IsRec.len {w:World}{B:Nat}{r:Jp}{vs:List Value}(h:IsRec w B r vs):vs.length=8:=by
 obtain⟨_,_,_,_,_,_,_,rfl,_⟩:=h;rfl
theorem IsRec.keep {w w':World}{B B':Nat}(hk:∀p:Addr,p.block<B->w'.cell? p=w.cell? p)(hB:B<=B'){r:Jp}{vs:List Value}(h:IsRec w B r vs):IsRec w' B' r vs:=by
 obtain⟨S',X,n,c,X',n',c',h1,h2,h3⟩:=h;exact⟨S',X,n,c,X',n',c',h1,IsArr.keep hk hB _ _ h2,h3⟩
theorem IsRecs.keep {w w':World}{B B':Nat}(hk:∀p:Addr,p.block<B->w'.cell? p=w.cell? p)(hB:B<=B'):∀{rs:List Jp} {vs:List Value},IsRecs w B rs vs->IsRecs w' B' rs vs
 | [],_,h=>h
 |_::_,_,⟨u,t,h1,h2,h3⟩=>⟨u,t,h1,h2.keep hk hB,h3.keep hk hB⟩
theorem IsRecs.below {w w':World}{B:Nat}{rs:List Jp}{vs:List Value}(h:IsRecs w B rs vs)(hb:Below B w w'):IsRecs w' B rs vs:=h.keep (λ_ hp=>hb.cell hp) Lr
theorem IsRecs.len {w:World}{B:Nat}:∀{rs:List Jp} {vs:List Value} (h:IsRecs w B rs vs),vs.length=8*rs.length
 | [],_,h=>by rw[IsRecs] at h;subst h;rfl
 |c::r,vs,h=>by
  rw[IsRecs] at h;obtain⟨u,t,rfl,h2,h3⟩:=h;rw[List.length_append,h2.len,h3.len,List.length_cons];omega
theorem IsRecs.at_ {w:World}{B:Nat}:∀{rs:List Jp} {vs:List Value} (h:IsRecs w B rs vs) {k:Nat} (hk:k<rs.length),∃u,IsRec w B rs[k] u/\u=(vs.drop (8*k)).take 8
 | [],_,_,_,hk=>by simp at hk
 |c::r,vs,h,0,_=>by
  rw[IsRecs] at h;obtain⟨u,t,rfl,h2,h3⟩:=h;exact⟨u,h2,by simp[h2.len]⟩
 |c::r,vs,h,k+1,hk=>by
  rw[IsRecs] at h;obtain⟨u,t,rfl,h2,h3⟩:=h;obtain⟨u',h4,h5⟩:=h3.at_ (k:=k) (by simpa using hk);refine⟨u',h4,h5.trans ?_⟩;rw[show 8*(k+1)=u.length+8*k by rw[h2.len];omega,List.drop_append,List.drop_eq_nil_of_le (Nat.le_add_right _ _),Nat.add_sub_cancel_left,List.nil_append]
theorem IsRecs.snoc {w:World}{B:Nat}:∀{cs:List Jp} {vs:List Value} (h:IsRecs w B cs vs) {c:Jp} {u:List Value} (hc:IsRec w B c u),IsRecs w B (cs++[c]) (vs++u)
 | [],vs,h,c,u,hc=>by
  rw[IsRecs] at h;subst h;exact⟨u,[],by simp,hc,rfl⟩
 |x::r,vs,h,c,u,hc=>by
  rw[IsRecs] at h;obtain⟨u',t,rfl,h2,h3⟩:=h;exact⟨u',t++u,by simp,h2,h3.snoc hc⟩
structure Cfg where
 clear:Nat->Nat
 label:Nat->Nat
 ins:Nat->List Te
 draws:Nat->List Int
 auth:Nat
 fuel:Int
 quota:Int
 depth:Int
structure IsCfg (w:World) (B:Nat) (c:Cfg) (C:Array Value):Prop where
 size:C.size=36
 clear:∀k,k<8->C[k]? =some (.int .u64 (c.clear k:Int))/\c.clear k<18446744073709551616
 ins:∀k,k<8->∃A cp us,C[8+k]? =some (.slice A (c.ins k).length cp)/\Fits (c.ins k).length cp 56/\Lies w B A us/\IsArrs w B (c.ins k) us
 label:∀k,k<8->C[16+k]? =some (.int .u64 (c.label k:Int))/\c.label k<18446744073709551616
 draws:∀k,k<8->∃A cp,C[24+k]? =some (.slice A (c.draws k).length cp)/\Fits (c.draws k).length cp 8/\Jd (c.draws k)/\Lies w B A (Sa (c.draws k))
 auth:C[32]? =some (.int .u64 (c.auth:Int))
 authLt:c.auth<18446744073709551616
 fuel:C[33]? =some (.int .i64 c.fuel)
 quota:C[34]? =some (.int .i64 c.quota)
 depth:C[35]? =some (.int .i64 c.depth)
 wf:Jd [c.fuel,c.quota,c.depth]
theorem IsCfg.keep {w w':World}{B B':Nat}{c:Cfg}{C:Array Value}(h:IsCfg w B c C)(hk:∀p:Addr,p.block<B->w'.cell? p=w.cell? p)(hB:B<=B'):IsCfg w' B' c C:=
 { h with
   ins:=λk hk8=>by
    obtain⟨A,cp,us,h1,h2,h3,h4⟩:=h.ins k hk8;exact⟨A,cp,us,h1,h2,(h3.keep hk).more hB,IsArrs.keep hk hB _ _ h4⟩
   draws:=λk hk8=>by
    obtain⟨A,cp,h1,h2,h3,h4⟩:=h.draws k hk8;exact⟨A,cp,h1,h2,h3,(h4.keep hk).more hB⟩}
theorem IsCfg.below {w w':World}{B:Nat}{c:Cfg}{C:Array Value}(h:IsCfg w B c C)(hb:Below B w w'):IsCfg w' B c C:=h.keep (λ_ hp=>hb.cell hp) Lr
theorem IsCfg.one {w:World}{B:Nat}{c:Cfg}{C:Array Value}(h:IsCfg w B c C):C.all (·.oneCell')=true:=by
 rw[Array.all_eq_true];intro i hi;have hs:=h.size;have hx:C[i]? =some C[i]:=by simp[hi]
 have key:∀v,C[i]? =some v->v.oneCell'=true->C[i].oneCell'=true:=λv hv ho=>by
  rw[hx] at hv;injection hv with hv;rw[hv];exact ho
 by_cases h1:i<8
 ·exact key _ (h.clear i h1).1 rfl
 by_cases h2:i<16
 ·obtain⟨A,cp,us,e,_⟩:=h.ins (i-8) (by omega)
  rw[show 8+(i-8)=i by omega] at e;exact key _ e rfl
 by_cases h3:i<24
 ·have e:=(h.label (i-16) (by omega)).1
  rw[show 16+(i-16)=i by omega] at e;exact key _ e rfl
 by_cases h4:i<32
 ·obtain⟨A,cp,e,_⟩:=h.draws (i-24) (by omega)
  rw[show 24+(i-24)=i by omega] at e;exact key _ e rfl
 rcases(show i=32\/i=33\/i=34\/i=35 by omega) with rfl |rfl |rfl |rfl
 ·exact key _ h.auth rfl
 ·exact key _ h.fuel rfl
 ·exact key _ h.quota rfl
 exact key _ h.depth rfl
end
section
open Go.ChangeShapes Go.WideShapes Go.ChangeAt Go.RowKit Ar
theorem Mfa (a:Addr)(n m:Nat):(a.add n).add m=a.add (n+m):=by
 unfold Addr.add;by_cases hn:n=0
 ·subst hn;simp
 by_cases hm:m=0
 ·subst hm;simp
 simp[hn,hm,Nat.add_assoc]
theorem Lp {w:World}{a:Addr}{n m:Nat}{v:Value}(h:w.cell? ((a.add n).add m)=some v):w.cell? (a.add (n+m))=some v:=by rwa[Mfa] at h
section
variable {H : Type} {enc : TypeId × Value -> H} {P : Program} {w : World} {base : Nat} {Ta : Bool} {fuel : Nat} {t e : TypeId} {cs : List Value} {x : DataW H × List MemPlace}
theorem Eu {sz bytes:Nat}(ht:P.underlying t=some (.slice e))(hz:P.cellsOf e=sz)(hp:0<sz)(hb:P.bytesOf e=bytes)
 (h:DataW.trod enc P w base (λ_=>true) Ta fuel t cs=some x) (hs:∀n∈x.1.weights P t,n<=reachBytes):
 ∃(A:Option Addr) (len cap:Nat) (us:List Value) (m:Nat),fuel=m+1/\cs=[.slice A len cap]/\Fits len cap bytes/\Lies w w.heap.size A us/\us.length=sz*len/\
  ∀i,i<len->∃y,DataW.trod enc P w base (λ_=>true) Ta m e ((us.drop (sz*i)).take sz)=some y/\∀n∈y.1.weights P e,n<=reachBytes:=by
 rcases DataW.trod_slice ht h with⟨rfl,rfl⟩ |⟨a,len,cap,elems,rest,m,rfl,rfl,rfl,_,hl,hc,hle,hel,hsp,_⟩
 ·cases fuel with
  |zero=>simp[DataW.trod] at h
  |succ m=>exact⟨none,0,0,[],m,rfl,rfl,⟨Lr,by omega,by omega⟩,.inl rfl,by simp,λi hi=>by omega⟩
 obtain⟨hr,_⟩:=hsp rfl;rw[hz] at hel;have hw:(elems.length+rest.length)*P.bytesOf e<=reachBytes:=hs _ (by simp[DataW.weights,ht]);have hfit:Fits len cap bytes:=by
  rw[hb,hle,hr,show len+(cap-len)=cap by omega] at hw;have hw2:cap*bytes<=140737488351232:=by simpa [reachBytes] using hw
  exact⟨hl,Nat.le_trans (Nat.mul_le_mul_right _ hl) hw2,by unfold maxLen at hc;omega⟩
 have hcell:∀i,i<len->∃ci y,w.cells? base (a.add (i*sz)) sz=some ci/\DataW.trod enc P w base (λ_=>true) Ta m e ci=some y/\elems[i]? =some y:=λi hi=>by
  have h1:=hel i hi;have h2:elems[i]? =some (elems[i]'(by omega)):=List.getElem?_eq_getElem (by omega);rw[h2] at h1;cases hci:w.cells? base (a.add (i*sz)) sz with
  |none=>rw[hci] at h1;cases h1
  |some ci=>rw[hci] at h1;exact⟨ci,_,rfl,h1,h2⟩
 obtain⟨us,hus⟩:∃us:List Value,us=(List.range (sz*len)).map λj=>(w.cell? (a.add j)).getD default:=⟨_,rfl⟩;have hlen:us.length=sz*len:=by rw[hus];simp
 have hat:∀i q,i<len->q<sz->∃v,w.cell? (a.add (i*sz+q))=some v/\us[sz*i+q]? =some v:=λi q hi hq=>by
  obtain⟨ci,y,h1,_,_⟩:=hcell i hi;obtain⟨_,h2,h3⟩:=World.cells?_some h1;have h4:=h3 q hq;rw[List.getElem?_eq_getElem (by omega)] at h4;have h5:=Lp h4;refine⟨_,h5,?_⟩;have hlt:sz*i+q<sz*len:=by
   have:=Nat.mul_le_mul_left sz (show i+1<=len by omega);rw[Nat.mul_add,Nat.mul_one] at this;omega
  rw[hus,List.getElem?_map,List.getElem?_range hlt,Option.map_some,Nat.mul_comm sz i,h5];rfl
 refine⟨some a,len,cap,us,m,rfl,rfl,hfit,Cy λj v hv=>?_,hlen,λi hi=>?_⟩
 ·have hj:j<sz*len:=by rw[<-hlen];exact(List.getElem?_eq_some_iff.1 hv).1
  obtain⟨v',h1,h2⟩:=hat (j/sz) (j%sz) (Nat.div_lt_of_lt_mul hj) (Nat.mod_lt _ hp);rw[Nat.div_add_mod,hv] at h2;rw[Nat.mul_comm,Nat.div_add_mod] at h1;rw[h1,<-h2]
 obtain⟨ci,y,h1,h2,h3⟩:=hcell i hi;obtain⟨_,h4,h5⟩:=World.cells?_some h1;have hlt:sz*i+sz<=sz*len:=by
  have:=Nat.mul_le_mul_left sz (show i+1<=len by omega);rwa[Nat.mul_add,Nat.mul_one] at this
 have he:(us.drop (sz*i)).take sz=ci:=by
  apply List.ext_getElem?
  intro q;rw[List.getElem?_take];by_cases hq:q<sz
  ·rw[if_pos hq,List.getElem?_drop]
   obtain⟨v,h6,h7⟩:=hat i q hi hq;rw[h7,<-h5 q hq];have h8:=h5 q hq;rw[List.getElem?_eq_getElem (by omega)] at h8;have h9:=Lp h8;rw[h8,<-h9,h6]
  rw[if_neg hq,List.getElem?_eq_none (by omega)]
 rw[he];refine⟨y,h2,λn hn=>hs n ?_⟩;have hy:y.1∈elems.map (·.1):=List.mem_map.2 ⟨y,List.mem_of_getElem? h3,rfl⟩;simp only[DataW.weights,ht,List.mem_cons,List.mem_append];refine .inr (.inl ?_);clear hs;generalize elems.map (·.1)=l at hy
 induction l with
 |nil=>cases hy
 |cons d r ih=>
  rw[DataW.weightsAll,List.mem_append];rcases List.mem_cons.1 hy with rfl |hy
  ·exact .inl hn
  exact .inr (ih hy)
theorem Nfa {A:Option Addr}{len cap:Nat}(ht:P.underlying t=some (.slice e))(h:DataW.trod enc P w base (λ_=>true) Ta fuel t [.slice A len cap]=some x):A=none->cap=0:=by
 intro hA;rcases DataW.trod_slice ht h with⟨h1,_⟩ |⟨a,len',cap',elems,rest,m,_,h1,_⟩
 ·simp at h1;exact h1.2.2
 simp at h1;rw[hA] at h1;cases h1.1
theorem Mp {bytes:Nat}{k:IntKind}(ht:P.underlying t=some (.slice e))(he:P.underlying e=some (.int k))(hz:P.cellsOf e=1)(hb:P.bytesOf e=bytes)
 (h:DataW.trod enc P w base (λ_=>true) Ta fuel t cs=some x) (hs:∀n∈x.1.weights P t,n<=reachBytes):
 ∃(A:Option Addr) (cap:Nat) (zs:List Int),cs=[.slice A zs.length cap]/\Fits zs.length cap bytes/\Lies w w.heap.size A (zs.map (Value.int k))/\(∀n∈zs,(Lit.int k n).wf=true)/\(A=none->cap=0):=by
 obtain⟨A,len,cap,us,m,rfl,rfl,hf,hl,hlen,hel⟩:=Eu ht hz (by omega) hb h hs;have key:∃zs:List Int,us=zs.map (Value.int k)/\∀n∈zs,(Lit.int k n).wf=true:=by
  have h1:∀v∈us,∃n,v=Value.int k n/\(Lit.int k n).wf=true:=λv hv=>by
   obtain⟨i,hi,rfl⟩:=List.mem_iff_getElem.1 hv;obtain⟨y,hy,_⟩:=hel i (by omega);obtain⟨n,h2,_,h3⟩:=DataW.trod_int he hy;rw[Nat.one_mul,List.drop_eq_getElem_cons hi,List.take_succ_cons,List.take_zero] at h2;exact⟨n,(List.cons.inj h2).1,h3⟩
  clear hel hlen hl hs h
  induction us with
  |nil=>exact⟨[],rfl,by simp⟩
  |cons v r ih=>
   obtain⟨zs,rfl,h2⟩:=ih (λv hv=>h1 v (List.mem_cons_of_mem _ hv));obtain⟨n,rfl,h3⟩:=h1 v List.mem_cons_self;exact⟨n::zs,rfl,λq hq=>(List.mem_cons.1 hq).elim (λe=>e▸h3) (h2 q)⟩
 obtain⟨zs,rfl,hwf⟩:=key;have hn:zs.length=len:=by simpa using hlen
 subst hn;exact⟨A,cap,zs,rfl,hf,hl,hwf,Nfa ht h⟩
end
theorem D9 {k:IntKind}{zs:List Int}{top:Nat}(hb:∀n,(Lit.int k n).wf=true->0<=n/\n<top)(h:∀n∈zs,(Lit.int k n).wf=true):∃ns:List Nat,zs=ns.map (λn:Nat=>(n:Int))/\∀n∈ns,n<top:=by
 induction zs with
 |nil=>exact⟨[],rfl,by simp⟩
 |cons z r ih=>
  obtain⟨ns,rfl,h2⟩:=ih (λn hn=>h n (List.mem_cons_of_mem _ hn));have:=hb z (h z List.mem_cons_self);exact⟨z.toNat::ns,by simp;omega,λq hq=>(List.mem_cons.1 hq).elim (λe=>by omega) (h2 q)⟩
end
section
open Go.ChangeShapes Go.WideShapes Go.ChangeAt Go.RowKit Ar
section
variable {H : Type} {enc : TypeId × Value -> H} {P : Program} {w : World} {base : Nat} {Ta : Bool} {fuel : Nat} {t e : TypeId} {cs : List Value} {x : DataW H × List MemPlace}
theorem Fu {fs:Array Field}(ht:P.underlying t=some (.struct fs))(h:DataW.trod enc P w base (λ_=>true) Ta fuel t cs=some x)(hs:∀n∈x.1.weights P t,n<=reachBytes):
 ∃m,fuel=m+1/\cs.length=P.cellsOf t/\∀(i:Nat) (ty:TypeId) (off:Nat),(fs[i]?).map (λf=>(f.type,f.offset))=some (ty,off)->∃y,DataW.trod enc P w base (λ_=>true) Ta m ty ((cs.drop off).take (P.cellsOf ty))=some y/\∀n∈y.1.weights P ty,n<=reachBytes:=by
 obtain⟨xs,m,rfl,rfl,hl,hx,hf⟩:=DataW.trod_struct ht h;refine⟨m,rfl,hl,λi ty off hm=>?_⟩;obtain⟨f,hi,hm'⟩:=Option.map_eq_some_iff.1 hm;obtain⟨rfl,rfl⟩:=Prod.mk.inj hm';have h1:=hf i f hi;have hlt:i<xs.length:=by rw[hx];exact(Array.getElem?_eq_some_iff.1 hi).1
 rw[List.getElem?_eq_getElem hlt] at h1;refine⟨_,h1,λn hn=>hs n ?_⟩;simp only[DataW.weights,ht];exact DataW.weights_mem_each (j:=i) (t:=f.type) (d:=xs[i].1) (by rw[List.getElem?_map,Array.getElem?_toList,hi];rfl) (by rw[List.getElem?_map,List.getElem?_eq_getElem hlt];rfl) n hn
end
end
section
open Go.ChangeShapes Go.WideShapes Go.ChangeAt Go.RowKit Ar
theorem Lpa:Tryz.prog.cellsOf 24=3:=by kernel_rfl
theorem Ila:Tryz.prog.cellsOf 90=1:=by kernel_rfl
theorem Foa:Tryz.prog.cellsOf 22=1:=by kernel_rfl
theorem Goa:Tryz.prog.cellsOf 4=1:=by kernel_rfl
theorem Jla:Tryz.prog.bytesOf 90=4:=by kernel_rfl
theorem E9 (n:Int)(h:(Lit.int .u32 n).wf=true):0<=n/\n<((4294967296:Nat):Int):=by have:=bounds_u32 h;omega
end
section
open Go.ChangeShapes Go.WideShapes Go.ChangeAt Go.RowKit
theorem Gu {w:World}{B:Nat}:∀(len:Nat) (us:List Value),us.length=8*len->(∀i,i<len->∃c,IsTree w B c ((us.drop (8*i)).take 8))->∃cs:List Tr.Tree,cs.length=len/\IsTrees w B cs us
 | 0,us,h,_=>⟨[],rfl,by rw[IsTrees];exact List.eq_nil_of_length_eq_zero (by omega)⟩
 |n+1,us,h,hc=>by
  obtain⟨c,h0⟩:=hc 0 (by omega);obtain⟨cs,h1,h2⟩:=Gu n (us.drop 8) (by simp;omega) (λi hi=>by
   obtain⟨c,h3⟩:=hc (i+1) (by omega);exact⟨c,by rw[List.drop_drop];rwa[Nat.mul_add,Nat.mul_one,Nat.add_comm] at h3⟩)
  exact⟨c::cs,by simp[h1],by rw[IsTrees];exact⟨us.take 8,us.drop 8,(List.take_append_drop 8 us).symm,by simpa using h0,h2⟩⟩
theorem Ofa:Tryz.prog.cellsOf 28=8:=by kernel_rfl
theorem Fma:Tryz.prog.cellsOf 26=1:=by kernel_rfl
theorem Kla:Tryz.prog.cellsOf 3=1:=by kernel_rfl
theorem Hoa:Tryz.prog.cellsOf 25=1:=by kernel_rfl
theorem Mpa:Tryz.prog.cellsOf 9=1:=by kernel_rfl
theorem Ioa:Tryz.prog.bytesOf 28=136:=by kernel_rfl
theorem Npa:Tryz.prog.bytesOf 3=8:=by kernel_rfl
theorem Joa {cs:List Value}(h:cs.length=8):∃a b c d e f g k,cs=[a,b,c,d,e,f,g,k]:=by
 match cs,h with
 | [a,b,c,d,e,f,g,k],_=>exact⟨a,b,c,d,e,f,g,k,rfl⟩
theorem Via:reachBytes=140737488351232:=rfl
theorem Pfa {H:Type}{enc:TypeId×Value->H}{w:World}{base:Nat}{Ta:Bool}(n:Nat):
 ∀cs x,DataW.trod enc Tryz.prog w base (λ_=>true) Ta n 28 cs=some x->(∀n∈x.1.weights Tryz.prog 28,n<=reachBytes)->∃a,IsTree w w.heap.size a cs:=by
 induction n using Nat.strongRecOn with
 |_ n ih=>
  intro cs x h hs;obtain⟨m,rfl,hlen,hf⟩:=Fu Tryz.underlying28 h hs;rw[Ofa] at hlen;obtain⟨v0,v1,v2,v3,v4,v5,v6,v7,rfl⟩:=Joa hlen;obtain⟨y0,h0,_⟩:=hf 0 3 0 rfl;obtain⟨y1,h1,_⟩:=hf 1 3 1 rfl;obtain⟨y2,h2,s2⟩:=hf 2 9 2 rfl;obtain⟨y3,h3,s3⟩:=hf 3 24 3 rfl;obtain⟨y4,h4,s4⟩:=hf 4 25 6 rfl;obtain⟨y5,h5,s5⟩:=hf 5 26 7 rfl;rw[Kla] at h0 h1;rw[Mpa] at h2;rw[Lpa] at h3;rw[Hoa] at h4;rw[Fma] at h5;obtain⟨k,e0,_,w0⟩:=DataW.trod_int Tryz.underlying3 h0;obtain⟨o,e1,_,w1⟩:=DataW.trod_int Tryz.underlying3 h1;obtain⟨s,e2,e2',_⟩:=DataW.trod_string Tryz.underlying9 h2;obtain⟨m2,_,hlen2,hf2⟩:=Fu Tryz.underlying24 h3 s3;obtain⟨z0,b0,_⟩:=hf2 0 4 0 rfl;obtain⟨z1,b1,q1⟩:=hf2 1 22 1 rfl;obtain⟨z2,b2,q2⟩:=hf2 2 22 2 rfl;rw[Goa] at b0;rw[Foa] at b1 b2;obtain⟨neg,d0,_⟩:=DataW.trod_bool Tryz.underlying4 b0;obtain⟨A1,c1,t1,d1,p1,l1,x1,nl1⟩:=Mp Tryz.underlying22 Tryz.underlying90 Ila Jla b1 q1;obtain⟨A2,c2,t2,d2,p2,l2,x2,nl2⟩:=Mp Tryz.underlying22 Tryz.underlying90 Ila Jla b2 q2;obtain⟨top,rfl,o1⟩:=D9 E9 x1;obtain⟨bot,rfl,o2⟩:=D9 E9 x2;obtain⟨A3,c3,zs,e4,f3,l3,w3,_⟩:=Mp Tryz.underlying25 Tryz.underlying3 Kla Npa h4 s4;obtain⟨A4,len,c4,us,m',rfl,e5,f4,l4,hl4,hel⟩:=Eu Tryz.underlying26 Ofa (by omega) Ioa h5 s5;obtain⟨kids,hcl,hcs⟩:=Gu len us hl4 (λi hi=>by
   obtain⟨y,hy,sy⟩:=hel i hi;exact ih m' (by omega) _ _ hy sy)
  subst hcl;have hsl:s.data.toList.length=s.size:=Array.length_toList;have hsz:s.size<=140737488351232:=by
   rw[e2'] at s2;have:=s2 s.data.toList.length (by simp[DataW.weights]);rw[Via] at this;omega
  simp at e0 e1 e2 e4 e5 d0 d1 d2;subst e0 e1 e2 e4 e5 d0 d1 d2;have hwf:Jd [k,o]:=by
   intro n hn;simp at hn;rcases hn with rfl |rfl
   ·exact bounds_i64 w0
   exact bounds_i64 w1
  have hms:s.data.toList.length<=140737488355328:=by omega
  refine⟨.mk k o s.data.toList ⟨neg,top,bot⟩ zs kids,?_⟩;rw[IsTree];exact⟨A1,A2,A3,A4,c1,c2,c3,c4,us,by simp[Qa],⟨hwf,hms,by simpa using p1,by simpa using p2,f3,f4,o1,o2,λn hn=>bounds_i64 (w3 n hn),by simpa [U,Function.comp_def] using l1,by simpa [U,Function.comp_def] using l2,l3,nl1,nl2⟩,l4,hcs⟩
end
end Go.Proofs.YtceplkpjnebnfaaGreatDoor
