/- Texts of this proof, joined. -/
import Derived.Test.YtmiccalfamepdaaGreatDoorM3
import Derived.Laws.BitsAllLaws
import Derived.Laws.CopyOwn
import Derived.Laws.AppendOwnNone
import Derived.Deep.LoopGhost
set_option linter.all false
set_option maxHeartbeats 8000000
set_option maxRecDepth 100000
namespace Go.Proofs.YtmiccalfamepdaaGreatDoor
open Go.RowKit
theorem L6 (w:World)(a b c:Nat):∃n,((w.drewN a).drewN b).drewN c=w.drewN n:=⟨a+b+c,by rw[World.drewN_drewN,World.drewN_drewN,Nat.add_assoc]⟩
theorem Via (A A':Option Addr)(c c' B:Nat)(a b:List Nat)(w:World)(hx:Lies w B A (U a))(hy:Lies w B A' (U b))(ha:Nt.Ok a)(hb:Nt.Ok b)
 (hc:a.length<=c) (hc':b.length<=c') (hm:c<=9223372036854775807) (hm':c'<=9223372036854775807):
 Calls Tryz.prog 201 #[.slice A a.length c,.slice A' b.length c'] w λe w'=>e= .returned (.int .i64 (Nt.cmp (Nt.val a) (Nt.val b)))/\∃n,w'=w.drewN n:=by
 have ha':=Nt.digs_len_le ha;have hb':=Nt.digs_len_le hb;have HTA:Hid (a.take (Nt.digs (Nt.val a)).length=Nt.digs (Nt.val a)):=Qd (Nt.take_digs ha);have HTB:Hid (b.take (Nt.digs (Nt.val b)).length=Nt.digs (Nt.val b)):=Qd (Nt.take_digs hb);have HX:Hid (Lies w B A (U (Nt.digs (Nt.val a)))):=by
  have:=hx.take (Nt.digs (Nt.val a)).length;rw[show(U a).take (Nt.digs (Nt.val a)).length=U (a.take (Nt.digs (Nt.val a)).length) from List.map_take.symm,HTA.out] at this;exact this
 have HY:Hid (Lies w B A' (U (Nt.digs (Nt.val b)))):=by
  have:=hy.take (Nt.digs (Nt.val b)).length;rw[show(U b).take (Nt.digs (Nt.val b)).length=U (b.take (Nt.digs (Nt.val b)).length) from List.map_take.symm,HTB.out] at this;exact this
 have hta:=Ad A c B a w hx ha hc hm;have htb:=Ad A' c' B b w hy hb hc' hm';have TA:=Qd hta;have TB:=Qd htb;have HVA:=Qd (Nt.val_digs (Nt.val a));have HVB:=Qd (Nt.val_digs (Nt.val b));have HOA:=Qd (Nt.ok_digs (Nt.val a));have HOB:=Qd (Nt.ok_digs (Nt.val b));have HLT:=Qd (λh=>Nt.digs_len_mono (x:=Nt.val a) (y:=Nt.val b) h);have HGT:=Qd (λh=>Nt.digs_len_mono (x:=Nt.val b) (y:=Nt.val a) h);clear hx hy hta htb HTA HTB;generalize Nt.val a=x at*;generalize Nt.val b=y at*;generalize Nt.digs x=da at*;generalize Nt.digs y=db at*;by_cases h1:da.length<db.length
 ·have HE:=Qd (Nt.cmp_lt (HLT.out h1))
  go_enter Tryz.func201,Tryz.ntmps201
  go_wp2_with fail
  refine TA.out.mono ?_;rintro e w' ⟨rfl,rfl⟩;go_wp2_with fail
  refine TB.out.mono ?_;rintro e w' ⟨rfl,rfl⟩;go_wp2_with fail
  go_ret;exact⟨by rw[HE.out];rfl,0,rfl⟩
 by_cases h2:db.length<da.length
 ·have HE:=Qd (Nt.cmp_gt (HGT.out h2))
  go_enter Tryz.func201,Tryz.ntmps201
  go_wp2_with fail
  refine TA.out.mono ?_;rintro e w' ⟨rfl,rfl⟩;go_wp2_with fail
  refine TB.out.mono ?_;rintro e w' ⟨rfl,rfl⟩;go_wp2_with fail
  go_ret;exact⟨by rw[HE.out];rfl,0,rfl⟩
 have hlen:da.length<=db.length:=by omega
 have hlen':db.length<=da.length:=by omega
 go_enter Tryz.func201,Tryz.ntmps201
 go_wp2_with fail
 refine TA.out.mono ?_;rintro e w' ⟨rfl,rfl⟩;go_wp2_with fail
 refine TB.out.mono ?_;rintro e w' ⟨rfl,rfl⟩;go_wp2_with fail
 go_loopw [5] (λi wr=>∃k m:Nat,wr=w.drewN m/\k<=da.length/\i= .int .i64 ((k:Int)-1)/\Hid (da.drop k=db.drop k)) (λi _=>(intOf i+1).toNat)
 case atStart=>exact⟨da.length,0,rfl,Lr,by go_num,Qd (by rw[List.drop_length,List.drop_eq_nil_of_le hlen'])⟩
 case round=>
  obtain⟨k,m,rfl,hk,rfl,H⟩:=hrel;rcases k with _ |k
  ·have HE:Hid (Nt.cmp x y=0):=Qd (by
    have h:=H.out;rw[List.drop_zero,List.drop_zero] at h;rw[<-HVA.out,<-HVB.out,h];exact Nt.cmp_eq _)
   go_wp2_with fail
   go_ret;exact⟨by rw[HE.out];rfl,_,rfl⟩
  have hlt:k<da.length:=by omega
  have hlt':k<db.length:=by omega
  obtain⟨b1,off1,rfl,_,hc1⟩:=HX.out.limb hlt;obtain⟨b2,off2,rfl,_,hc2⟩:=HY.out.limb hlt';have P1:Hid (da[k]<db[k]->Nt.cmp x y= -1):=Qd (λh=>by
   have:=Nt.val_lt_of HOA.out hlt hlt' H.out h;rw[HVA.out,HVB.out] at this;exact Nt.cmp_lt this)
  have P2:Hid (db[k]<da[k]->Nt.cmp x y=1):=Qd (λh=>by
   have:=Nt.val_lt_of HOB.out hlt' hlt H.out.symm h;rw[HVA.out,HVB.out] at this;exact Nt.cmp_gt this)
  have P3:Hid (da[k]=db[k]->da.drop k=db.drop k):=Qd (λh=>by
   rw[List.drop_eq_getElem_cons hlt,List.drop_eq_getElem_cons hlt',H.out,h])
  generalize da[k]=d1 at hc1 P1 P2 P3;generalize db[k]=d2 at hc2 P1 P2 P3;have hk1:((k+1:Nat):Int)-1=(k:Int):=by omega
  rw[hk1];clear hk1;rcases Nat.lt_trichotomy d1 d2 with h |h |h
  ·have HE:=Qd (P1.out h)
   go_wp2_with fail
   go_quiet (fail)
   go_wp2_with fail
   go_ret;exact⟨by rw[HE.out];rfl,_,World.drewN_drewN _ _ _⟩
  ·have HE:=Qd (P3.out h)
   subst h;go_wp2_with fail
   go_quiet (fail)
   go_wp2_with fail
   go_quiet (fail)
   go_wp2_with fail
   go_roundw
   case rel=>exact⟨k,_,rfl,by omega,by go_num,Qd HE.out⟩
   case measure=>first|(simp[intOf];done) |(simp[intOf];omega)
  have HE:=Qd (P2.out h);go_wp2_with fail
  go_quiet (fail)
  go_wp2_with fail
  go_quiet (fail)
  go_wp2_with fail
  go_ret;exact⟨by rw[HE.out];rfl,L6 _ _ _ _⟩
theorem Z9 (A A':Option Addr)(c c' B:Nat)(a b:List Nat)(w:World)(hx:Lies w B A (U a))(hy:Lies w B A' (U b))(ha:Nt.Ok a)(hb:Nt.Ok b)
 (hc:a.length<=c) (hc':b.length<=c') (hm:c<=9223372036854775807) (hm':c'<=9223372036854775807):
 Calls Tryz.prog 204 #[.slice A a.length c,.slice A' b.length c'] w λe w'=>e= .returned (.int .i64 (Nt.cmp (Nt.val a) (Nt.val b)))/\w=w':=by
 obtain⟨n,hn⟩:∃n,n=max a.length b.length:=⟨_,rfl⟩;have hna:a.length<=n:=by omega
 have hnb:b.length<=n:=by omega
 have hnm:n<=9223372036854775807:=by omega
 have HN:=Qd hn;have LA:=Qd (λi hi=>Pe A c B a i w hx hc hm hi ha);have LB:=Qd (λi hi=>Pe A' c' B b i w hy hc' hm' hi hb);have PA:=Qd (Nt.pad_len hna);have PB:=Qd (Nt.pad_len hnb);have GA:=Qd (λi (hi:i<(Nt.pad a n).length)=>Nt.pad_get hi);have GB:=Qd (λi (hi:i<(Nt.pad b n).length)=>Nt.pad_get hi);have HVA:=Qd (Nt.val_pad a n);have HVB:=Qd (Nt.val_pad b n);have HOA:=Qd (Nt.ok_pad ha n);have HOB:=Qd (Nt.ok_pad hb n);clear hx hy ha hb hn;generalize Nt.val a=x at*;generalize Nt.val b=y at*;generalize Nt.pad a n=da at*;generalize Nt.pad b n=db at*;go_enter Tryz.func204,Tryz.ntmps204
 go_wp2_with fail
 refine(Wf A A' a.length b.length c c' _ (by omega) (by omega)).mono ?_;rintro e w' ⟨rfl,rfl⟩;rw[<-HN.out];go_wp2_with fail
 go_loop [5] (λi=>∃k:Nat,k<=n/\i= .int .i64 ((k:Int)-1)/\Hid (da.drop k=db.drop k)) (λi=>(intOf i+1).toNat)
 case atStart=>exact⟨n,Lr,by go_num,Qd (by rw[List.drop_eq_nil_of_le (by rw[PA.out];omega),List.drop_eq_nil_of_le (by rw[PB.out];omega)])⟩
 case round=>
  obtain⟨k,hk,rfl,H⟩:=hrel;rcases k with _ |k
  ·have HE:Hid (Nt.cmp x y=0):=Qd (by
    have h:=H.out;rw[List.drop_zero,List.drop_zero] at h;rw[<-HVA.out,<-HVB.out,h];exact Nt.cmp_eq _)
   go_wp2_with fail
   go_ret;exact⟨by rw[HE.out];rfl,rfl⟩
  have hlt:k<da.length:=by rw[PA.out];omega
  have hlt':k<db.length:=by rw[PB.out];omega
  have P1:Hid (a.getD k 0<b.getD k 0->Nt.cmp x y= -1):=Qd (λh=>by
   rw[<-GA.out k hlt,<-GB.out k hlt'] at h;have:=Nt.val_lt_of HOA.out hlt hlt' H.out h;rw[HVA.out,HVB.out] at this;exact Nt.cmp_lt this)
  have P2:Hid (b.getD k 0<a.getD k 0->Nt.cmp x y=1):=Qd (λh=>by
   rw[<-GA.out k hlt,<-GB.out k hlt'] at h;have:=Nt.val_lt_of HOB.out hlt' hlt H.out.symm h;rw[HVA.out,HVB.out] at this;exact Nt.cmp_gt this)
  have P3:Hid (a.getD k 0=b.getD k 0->da.drop k=db.drop k):=Qd (λh=>by
   rw[<-GA.out k hlt,<-GB.out k hlt'] at h;rw[List.drop_eq_getElem_cons hlt,List.drop_eq_getElem_cons hlt',H.out,h])
  have CA:=Qd (LA.out k (by omega));have CB:=Qd (LB.out k (by omega));clear hlt hlt';generalize a.getD k 0=d1 at P1 P2 P3 CA;generalize b.getD k 0=d2 at P1 P2 P3 CB;have hk1:((k+1:Nat):Int)-1=(k:Int):=by omega
  rw[hk1];clear hk1;rcases Nat.lt_trichotomy d1 d2 with h |h |h
  ·have HE:=Qd (P1.out h)
   go_wp2_with fail
   refine CA.out.mono ?_;rintro e w' ⟨rfl,rfl⟩;go_wp2_with fail
   refine CB.out.mono ?_;rintro e w' ⟨rfl,rfl⟩;go_wp2_with fail
   go_ret;exact⟨by rw[HE.out];rfl,rfl⟩
  ·have HE:=Qd (P3.out h)
   subst h;go_wp2_with fail
   refine CA.out.mono ?_;rintro e w' ⟨rfl,rfl⟩;go_wp2_with fail
   refine CB.out.mono ?_;rintro e w' ⟨rfl,rfl⟩;go_wp2_with fail
   refine CA.out.mono ?_;rintro e w' ⟨rfl,rfl⟩;go_wp2_with fail
   refine CB.out.mono ?_;rintro e w' ⟨rfl,rfl⟩;go_wp2_with fail
   go_round
   case rel=>exact⟨k,by omega,by go_num,Qd HE.out⟩
   case measure=>first|(simp[intOf];done) |(simp[intOf];omega)
  have HE:=Qd (P2.out h);go_wp2_with fail
  refine CA.out.mono ?_;rintro e w' ⟨rfl,rfl⟩;go_wp2_with fail
  refine CB.out.mono ?_;rintro e w' ⟨rfl,rfl⟩;go_wp2_with fail
  refine CA.out.mono ?_;rintro e w' ⟨rfl,rfl⟩;go_wp2_with fail
  refine CB.out.mono ?_;rintro e w' ⟨rfl,rfl⟩;go_wp2_with fail
  go_ret;exact⟨by rw[HE.out];rfl,rfl⟩
theorem Tca (x y c:Nat)(w:World)(hx:x<4294967296)(hy:y<4294967296)(hc:c<=1):
 Calls Tryz.prog 231 #[.int .u32 (x:Int),.int .u32 (y:Int),.int .u32 (c:Int)] w λe w'=>∃s d:Nat,e= .returned (.tuple #[.int .u32 (s:Int),.int .u32 (d:Int)])/\s<4294967296/\d<=1/\Hid (x+y+c=s+4294967296*d)/\w=w':=by
 go_enter Tryz.func231,Tryz.ntmps231
 go_wp2_with fail
 go_ret2
 exact⟨(x+y+c)%4294967296,(x+y+c)/4294967296,Y7 (congrArg (Value.int .u32) (by omega)) (congrArg (Value.int .u32) (by omega)),by omega,by omega,Qd (by omega),rfl⟩
theorem top_bit {n:Nat}(h:n<4294967296):n/2147483648=if n.testBit 31 then 1 else 0:=by
 rw[Nat.testBit_eq_decide_div_mod_eq];rw[show(2:Nat)^31=2147483648 from rfl];by_cases e:n/2147483648%2=1
 ·rw[if_pos (by simpa using e)];omega
 rw[if_neg (by simpa using e)];omega
theorem Mz {n:Nat}(h:n<4294967296):n.testBit 31=decide (2147483648<=n):=by
 rw[Nat.testBit_eq_decide_div_mod_eq];rw[show(2:Nat)^31=2147483648 from rfl];by_cases e:2147483648<=n
 ·rw[decide_eq_true e,decide_eq_true (by omega)]
 rw[decide_eq_false e,decide_eq_false (by omega)]
theorem Aaa (x y c:Nat)(hx:x<4294967296)(hy:y<4294967296)(hc:c<=1):
 (bits BinOp.or IntKind.u32 (bits BinOp.and IntKind.u32 (bits BinOp.xor IntKind.u32 IntKind.u32.max ↑x) ↑y) (bits BinOp.and IntKind.u32 (bits BinOp.xor IntKind.u32 IntKind.u32.max (bits BinOp.xor IntKind.u32 ↑x ↑y)) ((↑x- ↑y- ↑c)%4294967296)))/2147483648=((if x<y+c then 1 else 0:Nat):Int):=by
 obtain⟨d,hd⟩:∃d:Nat,(((x:Int)-y-c)%4294967296)=(d:Int):=⟨(((x:Int)-y-c)%4294967296).toNat,by omega⟩;have hdl:d<4294967296:=by omega
 rw[hd];have m:(IntKind.u32.max:Int)=((4294967295:Nat):Int):=by decide
 have l1:4294967295^^^x<4294967296:=Nat.xor_lt_two_pow (n:=32) (by omega) hx;have l2:x^^^y<4294967296:=Nat.xor_lt_two_pow (n:=32) hx hy;have l3:4294967295^^^(x^^^y)<4294967296:=Nat.xor_lt_two_pow (n:=32) (by omega) l2;have l4:(4294967295^^^x)&&&y<4294967296:=Nat.and_lt_two_pow (n:=32) _ hy;have l5:(4294967295^^^(x^^^y))&&&d<4294967296:=Nat.and_lt_two_pow (n:=32) _ hdl;have l6:((4294967295^^^x)&&&y)|||((4294967295^^^(x^^^y))&&&d)<4294967296:=Nat.or_lt_two_pow (n:=32) l4 l5
 rw[m,u32_xor_nat _ _ (by omega) hx,u32_xor_nat _ _ hx hy,u32_xor_nat _ _ (by omega) l2,u32_and_nat _ _ l1 hy,u32_and_nat _ _ l3 hdl,u32_or_nat _ _ l4 l5];have hm:(4294967295:Nat).testBit 31=true:=by decide
 have key:=top_bit l6;rw[Nat.testBit_or,Nat.testBit_and,Nat.testBit_and,Nat.testBit_xor,Nat.testBit_xor,Nat.testBit_xor,hm,Mz hx,Mz hy,Mz hdl] at key;have e:((((4294967295^^^x)&&&y)|||((4294967295^^^(x^^^y))&&&d))/2147483648:Nat)=if x<y+c then 1 else 0:=by
  rw[key];by_cases h1:2147483648<=x<;>by_cases h2:2147483648<=y<;>by_cases h3:2147483648<=d<;>by_cases h4:x<y+c<;>simp[h1,h2,h3,h4]<;>omega
 rw[<-e];generalize((4294967295^^^x)&&&y)|||((4294967295^^^(x^^^y))&&&d)=z
 omega
theorem Bw (x y c:Nat)(w:World)(hx:x<4294967296)(hy:y<4294967296)(hc:c<=1):
 Calls Tryz.prog 230 #[.int .u32 (x:Int),.int .u32 (y:Int),.int .u32 (c:Int)] w λe w'=>∃s d:Nat,e= .returned (.tuple #[.int .u32 (s:Int),.int .u32 (d:Int)])/\s<4294967296/\d<=1/\Hid (x+4294967296*d=s+y+c)/\w=w':=by
 have HB:=Qd (Aaa x y c hx hy hc);go_enter Tryz.func230,Tryz.ntmps230
 go_wp2_with fail
 go_ret2
 refine⟨(((x:Int)-y-c)%4294967296).toNat,if x<y+c then 1 else 0,Y7 (congrArg (Value.int .u32) (by omega)) (congrArg (Value.int .u32) HB.out),by omega,by split<;>omega,Qd ?_,rfl⟩
 split<;>omega
theorem Mc:(Tryz.prog.info? 139).map (λi=>(i.zero,i.size,i.bytes))=some (some (.int .u32 0),1,4):=by kernel_rfl
theorem Yfa:(Tryz.prog.info? 139).map (·.size)=some 1:=by kernel_rfl
theorem Baa (l:List Nat):∀v∈U l,v.oneCell'=true:=by
 intro v hv;obtain⟨n,_,rfl⟩:=List.mem_map.1 hv;rfl
theorem Ik (l:List Nat)(n:Nat):(U l).take n=U (l.take n):=List.map_take.symm
theorem Lies.digs {w:World}{B:Nat}{A:Option Addr}{l:List Nat}(h:Lies w B A (U l))(ho:Nt.Ok l):Lies w B A (U (Nt.digs (Nt.val l))):=by
 have:=h.take (Nt.digs (Nt.val l)).length;rw[Ik,Nt.take_digs ho] at this;exact this
theorem Lies.src {w:World}{B:Nat}{A:Option Addr}{vs:List Value}(h:Lies w B A vs)(hp:0<vs.length):∃ad,A=some ad/\∀(j:Nat) (v:Value),vs[j]? =some v->w.cell? (ad.add j)=some v:=by
 rcases h with h |⟨b,off,hA,_,hc⟩
 ·subst h;simp at hp
 refine⟨⟨b,off,none⟩,hA,λj v hv=>?_⟩;have:=hc j v hv;unfold Addr.add
 split
 ·rename_i e;subst e;simpa using this
 exact this
theorem Caa {w:World}{ops:Array Oper}{rest:List Oper}{o:Oper}{a:Act}{Q:Exit->Act->World->Prop}(hgd:o.guard=none)(d s:Operand)
 (ho:o.op= .call {callee:= .builtin .copy,args:= #[d,s],argTypes:= #[81,81]})
 (A:Option Addr) (dCap sCap g:Nat) (ds:List Nat) (hd:a.eval d= .slice (some ⟨g,0,none⟩) ds.length dCap) (hs:a.eval s= .slice A ds.length sCap)
 (cur:List Value) (hg:Blk w g 139 cur) (hfit:ds.length<=cur.length) (B0:Nat) (hsrc:Lies w B0 A (U ds)) (B:Nat) (w0:World) (hb:Below B w0 w) (hBg:B<=g)
 (h:∀w',Blk w' g 139 (U ds++cur.drop ds.length)->Below B w0 w'->wpList Tryz.prog ops Q rest (a.put o.dst (goInt ds.length)) w'):
 wpList Tryz.prog ops Q (o::rest) a w:=by
 refine wpList_copy_splice hgd d s _ _ ho 139 Tryz.underlying81 Yfa _ _ _ _ _ _ hd hs g 0 cur 139 hg (U ds) (by simp[U]) (λhp=>⟨rfl,hsrc.src hp⟩) (by simp[U];omega) (Baa ds) B w0 hb hBg ?_;intro w' hw' hb';rw[Nd];refine h w' ?_ hb';have:=hw'.out;unfold Blk;rw[this];simp[splice,Nd]
theorem Kf (A:Option Addr)(c B:Nat)(l:List Nat)(w:World)(hl:Lies w B A (U l))(hB:B<=w.heap.size)(ho:Nt.Ok l)(hc:l.length<=c)(hm:c<=9223372036854775807)(hs:l.length<=70368744177664):
 Calls Tryz.prog 145 #[.slice A l.length c] w λe w'=>e= .returned (.slice (some ⟨w.heap.size,0,none⟩) (Nt.digs (Nt.val l)).length (Nt.digs (Nt.val l)).length)/\Blk w' w.heap.size 139 (U (Nt.digs (Nt.val l)))/\Below w.heap.size w w':=by
 obtain⟨i0,hi,hz0,hz1,hz2⟩:=info_parts Mc;have hd:=Nt.digs_len_le ho;have HT:=Qd (Ad A c B l w hl ho hc hm);have HL:=Qd ((hl.digs ho).more hB);clear hl;generalize Nt.digs (Nt.val l)=ds at*;go_enter Tryz.func145,Tryz.ntmps145
 go_wp2_with fail
 refine HT.out.mono ?_;rintro e w' ⟨rfl,rfl⟩;go_wp2_with (first
  |(at_make;refine Sb _ rfl _ _ 81 rfl 139 i0 (.int .u32 0) Tryz.underlying81 hi hz0 hz1 rfl .i64 .i64 _ _ ds.length ds.length rfl rfl rfl rfl Lr (by rw[hz2];omega) (by omega) w.heap.size w Br Lr ?_;intro w1 hblk1 hb1 hb1' hlt1)
  |(refine Caa (by rfl) (.tmp 9) (.tmp 10) (by rfl) A ds.length ds.length w.heap.size ds (by rfl) (by rfl) _ hblk1 (by simp) w.heap.size (HL.out.below hb1) w.heap.size w hb1 Lr ?_;intro w2 hblk2 hb2))
 go_ret;rw[List.drop_eq_nil_of_le (by simp),List.append_nil] at hblk2;exact⟨rfl,hblk2,hb2⟩
def IsRes (w:World)(v:Value)(ds:List Nat):Prop:=∃A c,v= .slice A ds.length c/\ds.length<=c/\c<=9223372036854775807/\(A=none->c=0)/\Lies w w.heap.size A (U ds)
theorem IsRes.of_own {w:World}{base:Nat}{v:Value}{ds:List Nat}(h:w.ownsRow base 139 1 v ds.length (U ds)):IsRes w v ds:=by
 obtain⟨A,c,rfl,h1,h2⟩:=Na h;refine⟨A,c,rfl,h1,h2,?_,Lies.of_own h⟩;rintro rfl;rcases h.2 with⟨hv,_⟩ |⟨g,cap,cur,hv,_⟩
 ·injection hv
 injection hv with e;cases e
theorem IsRes.none_ (w:World):IsRes w (.slice none 0 0) []:=⟨none,0,rfl,Lr,by omega,λ_=>rfl,.inl rfl⟩
theorem IsRes.below {w w':World}{v:Value}{ds:List Nat}(h:IsRes w v ds)(hb:Below w.heap.size w w'):IsRes w' v ds:=by
 obtain⟨A,c,h1,h2,h3,h4,h5⟩:=h;exact⟨A,c,h1,h2,h3,h4,(h5.below hb).more hb.size⟩
theorem Xe (A:Option Addr)(c B:Nat)(l:List Nat)(w:World)(hl:Lies w B A (U l))(hB:B<=w.heap.size)(ho:Nt.Ok l)(hc:l.length<=c)(hm:c<=9223372036854775807)(hA:A=none->c=0)(hs:l.length<=17592186044416):
 Calls Tryz.prog 129 #[.slice A l.length c] w λe w'=>∃v,e= .returned v/\IsRes w' v (Nt.digs (Nt.val l))/\Below w.heap.size w w':=by
 obtain⟨i0,hi,hz0,hz1,hz2⟩:=info_parts Mc;have HL:=Qd hl;have HO:=Qd ho;have HA:=Qd hA;clear hl ho hA;go_enter Tryz.func129,Tryz.ntmps129
 go_wp2_with fail
 go_loop [3] (λi=>∃n:Nat,n<=l.length/\i= .int .i64 (n:Int)/\Hid (∀j (hj:j<l.length),n<=j->l[j]=0)) (λi=>(intOf i).toNat)
 case atStart=>exact⟨l.length,Lr,rfl,Qd (λj hj h=>absurd hj (by omega))⟩
 case round=>
  obtain⟨n,hn,rfl,H⟩:=hrel;by_cases h0:0<n
  ·obtain⟨b,off,rfl,hbb,hcell⟩:=HL.out.limb (k:=n-1) (by omega)
   generalize hx:l[n-1]'(by omega)=x at hcell;have HX:=Qd hx;have hxb:x<4294967296:=by rw[<-hx];exact Nt.ok_get HO.out (by omega)
   clear hx;have hpos:(0:Int)<(n:Int):=by omega
   by_cases hz:x=0
   ·subst hz
    go_wp2_with fail
    go_round
    case rel=>
     refine⟨n-1,by omega,by go_num,Qd (λj hj h=>?_)⟩;by_cases e:j=n-1
     ·subst e;exact HX.out
     exact H.out j hj (by omega)
    case measure=>simp[intOf];omega
   have hne:((x:Int)==0)=false:=by simp;omega
   have HE:Hid (Nt.digs (Nt.val l)=l.take n):=Qd (Nt.take_eq_digs HO.out hn H.out (λ_=>by rw[HX.out];exact hz)).symm;have HLT:Hid ((l.take n).length=n):=Qd (by rw[List.length_take];exact Nat.min_eq_left hn);have HLT2:=Qd (HL.out.take n);clear hz;go_wp2_with (at_builtin;refine wpList_append_own _ rfl _ _ 81 rfl w.heap.size 139 i0 (.int .u32 0) 1 4 Tryz.underlying81 hi hz0 hz1 hz2 rfl (by decide) (.slice none 0 0) 0 [] rfl (World.ownsRow_nil _ _ _ _) ⟨b,off,none⟩ n c (U (l.take n)) rfl (by rw[Nd,HLT.out];omega) (λj v hv=>by rw[<-Ik] at hv;obtain⟨ad,h1,h2⟩:=HLT2.out.src (by rw[Ik,Nd,HLT.out];exact h0);injection h1 with h1;subst h1;exact h2 j v hv) (Baa _) (by unfold maxLen;omega) (by omega) Lr ?_;intro v1 w1 hown1 hgrow1 hnn1)
   go_ret;refine⟨_,rfl,?_,Br.grown hgrow1 Lr (by simp[Value.ownBlock])⟩;rw[HE.out];refine IsRes.of_own (base:=w.heap.size) ?_;rw[HLT.out]
   simpa using hown1
  obtain rfl:n=0:=by omega
  have HE:Hid (Nt.digs (Nt.val l)=[]):=Qd (by
   have:=Nt.take_eq_digs HO.out hn H.out (λh=>absurd h (by omega));rw[<-this];simp)
  rcases A with _ |ad
  ·have hc0:c=0:=HA.out rfl
   subst hc0;go_wp2_with (at_builtin;refine wpList_append_own_none rfl _ _ 81 rfl w.heap.size 139 i0 1 Tryz.underlying81 hi (.slice none 0 0) 0 [] rfl (World.ownsRow_nil _ _ _ _) rfl ?_)
   go_ret;exact⟨_,rfl,by rw[HE.out];exact IsRes.none_ _,Br⟩
  go_wp2_with (at_builtin;refine wpList_append_own _ rfl _ _ 81 rfl w.heap.size 139 i0 (.int .u32 0) 1 4 Tryz.underlying81 hi hz0 hz1 hz2 rfl (by decide) (.slice none 0 0) 0 [] rfl (World.ownsRow_nil _ _ _ _) ad 0 c [] rfl (by rfl) (λj v hv=>by simp at hv) (by intro u hu;cases hu) (by unfold maxLen;omega) (by omega) Lr ?_;intro v1 w1 hown1 hgrow1 hnn1)
  go_ret;refine⟨_,rfl,?_,Br.grown hgrow1 Lr (by simp[Value.ownBlock])⟩;rw[HE.out];exact IsRes.of_own (base:=w.heap.size) hown1
theorem Uq {w0 w:World}{v:Value}{ds:List Nat}(h:w.ownsRow w0.heap.size 139 1 v ds.length (U ds))(ho:Nt.Ok ds)(hs:ds.length<=17592186044416)(hb:Below w0.heap.size w0 w):
 Calls Tryz.prog 129 #[v] w λe w'=>∃v',e= .returned v'/\IsRes w' v' (Nt.digs (Nt.val ds))/\Below w0.heap.size w0 w':=by
 obtain⟨A,c,rfl,h1,h2,h3,h4⟩:=IsRes.of_own h;refine(Xe A c w.heap.size ds w h4 Lr ho h1 h2 h3 hs).mono ?_;rintro e w' ⟨v',rfl,hr,hb'⟩;exact⟨v',rfl,hr,hb.trans (hb'.mono hb.size)⟩
theorem Es (A A':Option Addr)(c c' B:Nat)(a b:List Nat)(w:World)(hx:Lies w B A (U a))(hy:Lies w B A' (U b))(hB:B<=w.heap.size)(ha:Nt.Ok a)(hb:Nt.Ok b)
 (hc:a.length<=c) (hc':b.length<=c') (hm:c<=9223372036854775807) (hm':c'<=9223372036854775807) (hs:a.length<=8796093022208) (hs':b.length<=8796093022208):
 Calls Tryz.prog 200 #[.slice A a.length c,.slice A' b.length c'] w λe w'=>∃v,e= .returned v/\IsRes w' v (Nt.digs (Nt.val a+Nt.val b))/\Below w.heap.size w w':=by
 obtain⟨i0,hi,hz0,hz1,hz2⟩:=info_parts Mc;obtain⟨n,hn⟩:∃n,n=max a.length b.length:=⟨_,rfl⟩;have hna:a.length<=n:=by omega
 have hnb:b.length<=n:=by omega
 have hnm:n<=8796093022208:=by omega
 have HN:=Qd hn;have LA:=Qd (λ(i:Nat) (wr:World) (hi:i<=9223372036854775807) (h:Below w.heap.size w wr)=>Pe A c B a i wr (hx.below (h.mono hB)) hc hm hi ha);have LB:=Qd (λ(i:Nat) (wr:World) (hi:i<=9223372036854775807) (h:Below w.heap.size w wr)=>Pe A' c' B b i wr (hy.below (h.mono hB)) hc' hm' hi hb);have GA:=Qd (λk=>Nt.getD_lt ha k);have GB:=Qd (λk=>Nt.getD_lt hb k);have EN:=Qd (λcur c h=>Nt.addUp_end (cur:=cur) (n:=n) (c:=c) ha hb hna hnb h);clear hx hy ha hb hn;go_enter Tryz.func200,Tryz.ntmps200
 go_wp2_with fail
 go_loopw [5,6,7] (λv cv i wr=>∃(k cy:Nat) (cur:List Nat),k<=n+1/\cy<=1/\i= .int .i64 (k:Int)/\cv= .int .u64 (cy:Int)/\wr.ownsRow w.heap.size 139 1 v k (U cur)/\Below w.heap.size w wr/\Hid (Nt.AddUp a b cur k cy)) (λ_ _ i _=>n+1-(intOf i).toNat)
 case atStart=>exact⟨0,0,[],by omega,by omega,rfl,rfl,World.ownsRow_nil _ _ _ _,Br,Qd (Nt.addUp_start a b)⟩
 case round=>
  obtain⟨k,cy,cur,hk,hcy,rfl,rfl,hown,hbel,H⟩:=hrel;have hsz:=hbel.size;by_cases hlt:k<=n
  ·have CA:=Qd (LA.out k wr (by omega) hbel)
   have CB:=Qd (LB.out k wr (by omega) hbel);have ST:=Qd (Nt.addUp_step H.out);have hga:=GA.out k;have hgb:=GB.out k;generalize a.getD k 0=x at CA ST hga;generalize b.getD k 0=y at CB ST hgb;go_wp2_with fail
   refine(Wf A A' a.length b.length c c' _ (by omega) (by omega)).mono ?_;rintro e w' ⟨rfl,rfl⟩;rw[<-HN.out];go_wp2_with fail
   refine CA.out.mono ?_;rintro e w' ⟨rfl,rfl⟩;go_wp2_with fail
   refine CB.out.mono ?_;rintro e w' ⟨rfl,rfl⟩;go_wp2_with (at_builtin;refine wpList_append_own _ rfl _ _ 81 rfl w.heap.size 139 i0 (.int .u32 0) 1 4 Tryz.underlying81 hi hz0 hz1 hz2 rfl (by decide) _ _ _ rfl (hown.alloc _) ⟨_,0,none⟩ 1 1 [.int .u32 (((x:Int)+(y:Int)+(cy:Int))%4294967296)] rfl rfl (cell_one_new _ _ _) (by intro u hu;simp only[List.mem_singleton] at hu;subst hu;rfl) (by unfold maxLen;omega) (by omega) (by simp;omega) ?_;intro v3 w3 hown3 hgrow3 hnn3)
   have hb3:Below w.heap.size w w3:=(hbel.alloc hsz _).grown hgrow3 (by simp;omega) (λk hk=>(hown.lt k hk).1);go_roundw
   case rel=>
    refine⟨k+1,(x+y+cy)/4294967296,cur++[(x+y+cy)%4294967296],by omega,by omega,by go_num,congrArg (Value.int .u64) (by omega),?_,hb3,Qd ST.out⟩;have e:U (cur++[(x+y+cy)%4294967296])=U cur++[.int .u32 (((x:Int)+(y:Int)+(cy:Int))%4294967296)]:=by
     unfold U;rw[List.map_append];congr 2
    rw[e];exact hown3
   case measure=>simp[intOf];omega
  obtain rfl:k=n+1:=by omega
  have HV:=Qd (EN.out cur cy H.out);have HL:=H.out.1;have hO:=H.out.2.1;have hnorm:=Uq (w0:=w) (v:=u5) (ds:=cur) (by rw[HL];exact hown) hO (by rw[HL];omega) hbel;rw[HV.out] at hnorm;have HNM:=Qd hnorm;clear hnorm HL hO;go_wp2_with fail
  refine(Wf A A' a.length b.length c c' _ (by omega) (by omega)).mono ?_;rintro e w' ⟨rfl,rfl⟩;rw[<-HN.out];go_wp2_with fail
  refine HNM.out.mono ?_;rintro e w' ⟨v',rfl,hr,hb'⟩;go_wp2_with fail
  go_ret;exact⟨_,rfl,hr,hb'⟩
theorem Daa (A A':Option Addr)(c c' B:Nat)(a b:List Nat)(w:World)(hx:Lies w B A (U a))(hy:Lies w B A' (U b))(hB:B<=w.heap.size)(ha:Nt.Ok a)(hb:Nt.Ok b)
 (hc:a.length<=c) (hc':b.length<=c') (hm:c<=9223372036854775807) (hm':c'<=9223372036854775807) (hs:a.length<=8796093022208) (hs':b.length<=8796093022208):
 Calls Tryz.prog 174 #[.slice A a.length c,.slice A' b.length c'] w λe w'=>∃v,e= .returned (.tuple #[v,.bool (decide (Nt.val b<=Nt.val a))])/\IsRes w' v (Nt.digs (Nt.val a-Nt.val b))/\Below w.heap.size w w':=by
 obtain⟨i0,hi,hz0,hz1,hz2⟩:=info_parts Mc;obtain⟨n,hn⟩:∃n,n=max a.length b.length:=⟨_,rfl⟩;have hna:a.length<=n:=by omega
 have hnb:b.length<=n:=by omega
 have hnm:n<=8796093022208:=by omega
 have HN:=Qd hn;have CM:=Qd (Z9 A A' c c' B a b w hx hy ha hb hc hc' hm hm');have LA:=Qd (λ(i:Nat) (wr:World) (hi:i<=9223372036854775807) (h:Below w.heap.size w wr)=>Pe A c B a i wr (hx.below (h.mono hB)) hc hm hi ha);have LB:=Qd (λ(i:Nat) (wr:World) (hi:i<=9223372036854775807) (h:Below w.heap.size w wr)=>Pe A' c' B b i wr (hy.below (h.mono hB)) hc' hm' hi hb);have GA:=Qd (λk=>Nt.getD_lt ha k);have GB:=Qd (λk=>Nt.getD_lt hb k);clear hx hy ha hb hn;by_cases hlt:Nt.val a<Nt.val b
 ·have HE:Hid (Nt.cmp (Nt.val a) (Nt.val b)= -1):=Qd (Nt.cmp_lt hlt)
  have HD:Hid (decide (Nt.val b<=Nt.val a)=false):=Qd (by simp;omega);have HZ:Hid (Nt.digs (Nt.val a-Nt.val b)=[]):=Qd (by rw[show Nt.val a-Nt.val b=0 by omega,Nt.digs_zero]);go_enter Tryz.func174,Tryz.ntmps174
  go_wp2_with fail
  refine CM.out.mono ?_;rintro e w' ⟨rfl,rfl⟩;rw[HE.out];go_wp2_with fail
  go_ret2
  exact⟨_,by rw[HD.out];rfl,by rw[HZ.out];exact IsRes.none_ _,Br⟩
 have hle:Nt.val b<=Nt.val a:=by omega
 have HD:Hid (decide (Nt.val b<=Nt.val a)=true):=Qd (by simp;omega);have hcmp:decide (Nt.cmp (Nt.val a) (Nt.val b)<0)=false:=by rw[decide_eq_false_iff_not,Nt.cmp_neg];omega
 have EN:=Qd (λcur c h=>Nt.subUp_end (cur:=cur) (n:=n) (c:=c) hna hnb hle h);generalize Nt.cmp (Nt.val a) (Nt.val b)=cm at*;generalize Nt.val a=x0 at*;generalize Nt.val b=y0 at*;go_enter Tryz.func174,Tryz.ntmps174
 go_wp2_with fail
 refine CM.out.mono ?_;rintro e w' ⟨rfl,rfl⟩;go_wp2_with fail
 go_loopw [6,7,8] (λv cv i wr=>∃(k cy:Nat) (cur:List Nat),k<=n/\cy<=1/\i= .int .i64 (k:Int)/\cv= .int .u64 (cy:Int)/\wr.ownsRow w.heap.size 139 1 v k (U cur)/\Below w.heap.size w wr/\Hid (Nt.SubUp a b cur k cy)) (λ_ _ i _=>n-(intOf i).toNat)
 case atStart=>exact⟨0,0,[],by omega,by omega,rfl,rfl,World.ownsRow_nil _ _ _ _,Br,Qd (Nt.subUp_start a b)⟩
 case round=>
  obtain⟨k,cy,cur,hk,hcy,rfl,rfl,hown,hbel,H⟩:=hrel;have hsz:=hbel.size;by_cases hlt:k<n
  ·have CA:=Qd (LA.out k wr (by omega) hbel)
   have CB:=Qd (LB.out k wr (by omega) hbel);have ST:=Qd (λs d hs e=>Nt.subUp_step (s:=s) (d:=d) H.out hs e);have hga:=GA.out k;have hgb:=GB.out k;generalize a.getD k 0=x at CA ST hga;generalize b.getD k 0=y at CB ST hgb;go_wp2_with fail
   refine(Wf A A' a.length b.length c c' _ (by omega) (by omega)).mono ?_;rintro e w' ⟨rfl,rfl⟩;rw[<-HN.out];go_wp2_with fail
   refine CA.out.mono ?_;rintro e w' ⟨rfl,rfl⟩;go_wp2_with fail
   refine CB.out.mono ?_;rintro e w' ⟨rfl,rfl⟩;go_wp2_with (at_builtin;refine wpList_append_own _ rfl _ _ 81 rfl w.heap.size 139 i0 (.int .u32 0) 1 4 Tryz.underlying81 hi hz0 hz1 hz2 rfl (by decide) _ _ _ rfl (hown.alloc _) ⟨_,0,none⟩ 1 1 [.int .u32 ((4294967296+(x:Int)-(y:Int)-(cy:Int))%4294967296)] rfl rfl (cell_one_new _ _ _) (by intro u hu;simp only[List.mem_singleton] at hu;subst hu;rfl) (by unfold maxLen;omega) (by omega) (by simp;omega) ?_;intro v3 w3 hown3 hgrow3 hnn3)
   have hb3:Below w.heap.size w w3:=(hbel.alloc hsz _).grown hgrow3 (by simp;omega) (λk hk=>(hown.lt k hk).1);go_roundw
   case rel=>
    refine⟨k+1,1-(4294967296+x-y-cy)/4294967296,cur++[(4294967296+x-y-cy)%4294967296],by omega,by omega,by go_num,congrArg (Value.int .u64) (by omega),?_,hb3,Qd (ST.out _ _ (by omega) (by omega))⟩;have e:U (cur++[(4294967296+x-y-cy)%4294967296])=U cur++[.int .u32 ((4294967296+(x:Int)-(y:Int)-(cy:Int))%4294967296)]:=by
     unfold U;rw[List.map_append];congr 2;simp only[List.map_cons,List.map_nil]
     congr 2
     omega
    rw[e];exact hown3
   case measure=>simp[intOf];omega
  obtain rfl:k=n:=by omega
  have HV:=Qd (EN.out cur cy H.out);have HL:=H.out.1;have hO:=H.out.2.1;have hnorm:=Uq (w0:=w) (v:=u6) (ds:=cur) (by rw[HL];exact hown) hO (by rw[HL];omega) hbel;rw[HV.out] at hnorm;have HNM:=Qd hnorm;clear hnorm HL hO;go_wp2_with fail
  refine(Wf A A' a.length b.length c c' _ (by omega) (by omega)).mono ?_;rintro e w' ⟨rfl,rfl⟩;rw[<-HN.out];go_wp2_with fail
  refine HNM.out.mono ?_;rintro e w' ⟨v',rfl,hr,hb'⟩;go_wp2_with fail
  go_ret2
  exact⟨_,by rw[HD.out];rfl,hr,hb'⟩
theorem Fs (A:Option Addr)(c B:Nat)(a:List Nat)(i:Nat)(w:World)(hx:Lies w B A (U a))(ha:Nt.Ok a)(hc:a.length<=c)(hm:c<=9223372036854775807)(hi:i<=9223372036854775807):
 Calls Tryz.prog 173 #[.slice A a.length c,.int .i64 (i:Int)] w λe w'=>∃b:Nat,e= .returned (.int .u32 (b:Int))/\b<=1/\Hid (b=Nt.val a/2^i%2)/\w=w':=by
 have CA:=Qd (Pe A c B a (i/32) w hx hc hm (by omega) ha);have HB:=Qd (Nt.bit_limb ha i);have hg:=Nt.getD_lt ha (i/32);clear hx ha;generalize a.getD (i/32) 0=x at CA HB hg;go_enter Tryz.func173,Tryz.ntmps173
 go_wp2_with fail
 refine CA.out.mono ?_;rintro e w' ⟨rfl,rfl⟩;go_wp2_with fail
 go_loop [5,6] (λv j=>∃k n:Nat,k<=i%32/\n<4294967296/\j= .int .i64 (k:Int)/\v= .int .u64 (n:Int)/\Hid (n=x/2^k)) (λ_ j=>i%32-(intOf j).toNat)
 case atStart=>exact⟨0,x,Nat.zero_le _,hg,rfl,rfl,Qd (by simp)⟩
 case round=>
  obtain⟨k,n,hk,hn,rfl,rfl,H⟩:=hrel;by_cases hlt:k<i%32
  ·go_wp2_with fail
   go_round
   case rel=>exact⟨k+1,n/2,by omega,by omega,by go_num,by go_num,Qd (by rw[H.out,Nat.pow_succ,<-Nat.div_div_eq_div_mul])⟩
   case measure=>simp[intOf];omega
  obtain rfl:k=i%32:=by omega
  go_wp2_with fail
  go_ret;exact⟨n%2,Gb (by omega),by omega,Qd (by rw[<-HB.out,<-H.out]),rfl⟩
theorem Uca (A:Option Addr)(c B:Nat)(a:List Nat)(bit:Nat)(w:World)(hx:Lies w B A (U a))(hB:B<=w.heap.size)(ha:Nt.Ok a)(hc:a.length<=c)(hm:c<=9223372036854775807)(hs:a.length<=8796093022208)(hbit:bit<=1):
 Calls Tryz.prog 172 #[.slice A a.length c,.int .u32 (bit:Int)] w λe w'=>∃v,e= .returned v/\IsRes w' v (Nt.digs (2*Nt.val a+bit))/\Below w.heap.size w w':=by
 obtain⟨i0,hi,hz0,hz1,hz2⟩:=info_parts Mc;have LA:=Qd (λ(i:Nat) (wr:World) (hi:i<=9223372036854775807) (h:Below w.heap.size w wr)=>Pe A c B a i wr (hx.below (h.mono hB)) hc hm hi ha);have GA:=Qd (λk=>Nt.getD_lt ha k);have EN:=Qd (λcur c h=>Nt.twiceUp_end (cur:=cur) (bit:=bit) (c:=c) ha hbit h);clear hx ha;go_enter Tryz.func172,Tryz.ntmps172
 go_wp2_with fail
 go_loopw [5,6,7] (λv cv i wr=>∃(k cy:Nat) (cur:List Nat),k<=a.length+1/\cy<=1/\i= .int .i64 (k:Int)/\cv= .int .u64 (cy:Int)/\wr.ownsRow w.heap.size 139 1 v k (U cur)/\Below w.heap.size w wr/\Hid (Nt.TwiceUp a bit cur k cy)) (λ_ _ i _=>a.length+1-(intOf i).toNat)
 case atStart=>exact⟨0,bit,[],by omega,hbit,rfl,rfl,World.ownsRow_nil _ _ _ _,Br,Qd (Nt.twiceUp_start a bit)⟩
 case round=>
  obtain⟨k,cy,cur,hk,hcy,rfl,rfl,hown,hbel,H⟩:=hrel;have hsz:=hbel.size;by_cases hlt:k<=a.length
  ·have CA:=Qd (LA.out k wr (by omega) hbel)
   have ST:=Qd (Nt.twiceUp_step H.out);have hga:=GA.out k;generalize a.getD k 0=x at CA ST hga;go_wp2_with fail
   refine CA.out.mono ?_;rintro e w' ⟨rfl,rfl⟩;go_wp2_with (at_builtin;refine wpList_append_own _ rfl _ _ 81 rfl w.heap.size 139 i0 (.int .u32 0) 1 4 Tryz.underlying81 hi hz0 hz1 hz2 rfl (by decide) _ _ _ rfl (hown.alloc _) ⟨_,0,none⟩ 1 1 [.int .u32 ((2*(x:Int)+(cy:Int))%4294967296)] rfl rfl (cell_one_new _ _ _) (by intro u hu;simp only[List.mem_singleton] at hu;subst hu;rfl) (by unfold maxLen;omega) (by omega) (by simp;omega) ?_;intro v3 w3 hown3 hgrow3 hnn3)
   have hb3:Below w.heap.size w w3:=(hbel.alloc hsz _).grown hgrow3 (by simp;omega) (λk hk=>(hown.lt k hk).1);go_roundw
   case rel=>
    refine⟨k+1,(2*x+cy)/4294967296,cur++[(2*x+cy)%4294967296],by omega,by omega,by go_num,congrArg (Value.int .u64) (by omega),?_,hb3,Qd ST.out⟩;have e:U (cur++[(2*x+cy)%4294967296])=U cur++[.int .u32 ((2*(x:Int)+(cy:Int))%4294967296)]:=by
     unfold U;rw[List.map_append];congr 2
    rw[e];exact hown3
   case measure=>simp[intOf];omega
  obtain rfl:k=a.length+1:=by omega
  have HV:=Qd (EN.out cur cy H.out);have HL:=H.out.1;have hO:=H.out.2.1;have hnorm:=Uq (w0:=w) (v:=u5) (ds:=cur) (by rw[HL];exact hown) hO (by rw[HL];omega) hbel;rw[HV.out] at hnorm;have HNM:=Qd hnorm;clear hnorm HL hO;go_wp2_with fail
  refine HNM.out.mono ?_;rintro e w' ⟨v',rfl,hr,hb'⟩;go_wp2_with fail
  go_ret;exact⟨_,rfl,hr,hb'⟩
theorem Fj {w0 w:World}{v:Value}{x:Nat}(h:IsRes w v (Nt.digs x))(hb:Below w0.heap.size w0 w)(hs:(Nt.digs x).length<=8796093022208)(bit:Nat)(hbit:bit<=1):
 Calls Tryz.prog 172 #[v,.int .u32 (bit:Int)] w λe w'=>∃v',e= .returned v'/\IsRes w' v' (Nt.digs (2*x+bit))/\Below w0.heap.size w0 w'/\Below w.heap.size w w':=by
 obtain⟨A,c,rfl,h1,h2,h3,h4⟩:=h;refine(Uca A c w.heap.size (Nt.digs x) bit w h4 Lr (Nt.ok_digs x) h1 h2 hs hbit).mono ?_;rintro e w' ⟨v',rfl,hr,hb'⟩;rw[Nt.val_digs] at hr;exact⟨v',rfl,hr,hb.trans (hb'.mono hb.size),hb'⟩
theorem Eaa (A A':Option Addr)(c c' B:Nat)(a b:List Nat)(w:World)(hx:Lies w B A (U a))(hy:Lies w B A' (U b))(hB:B<=w.heap.size)(ha:Nt.Ok a)(hb:Nt.Ok b)
 (hc:a.length<=c) (hc':b.length<=c') (hm:c<=9223372036854775807) (hm':c'<=9223372036854775807) (hs:a.length<=1000000) (hs':b.length<=1000000):
 Calls Tryz.prog 168 #[.slice A a.length c,.slice A' b.length c'] w λe w'=>∃v,e= .returned v/\IsRes w' v (Nt.digs (Nt.val a*Nt.val b))/\Below w.heap.size w w':=by
 have LN:=Qd (λx h=>Nt.len_mul ha hb (x:=x) h);have BT:=Qd (λ(i:Nat) (wr:World) (hi:i<=9223372036854775807) (h:Below w.heap.size w wr)=>Fs A c B a i wr (hx.below (h.mono hB)) ha hc hm hi);have AD:=Qd (λ(x:Nat) (v:Value) (wr:World) (h:Below w.heap.size w wr) (hr:IsRes wr v (Nt.digs x)) (hl:(Nt.digs x).length<=8796093022208)=>show Calls Tryz.prog 200 #[v,.slice A' b.length c'] wr λe w'=>∃v',e= .returned v'/\IsRes w' v' (Nt.digs (x+Nt.val b))/\Below w.heap.size w w' from by
  obtain⟨A1,c1,rfl,h1,h2,h3,h4⟩:=hr;have hyw:=(hy.below (h.mono hB)).more (Nat.le_trans hB h.size);refine(Es A1 A' c1 c' wr.heap.size (Nt.digs x) b wr h4 hyw Lr (Nt.ok_digs x) hb h1 hc' h2 hm' hl (by omega)).mono ?_;rintro e w' ⟨v',rfl,hr',hb'⟩;rw[Nt.val_digs] at hr';exact⟨v',rfl,hr',h.trans (hb'.mono h.size)⟩)
 have TZ:=Qd (Nt.top_zero ha);clear hx hy ha hb;generalize Nt.val a=va at*;generalize Nt.val b=vb at*;go_enter Tryz.func168,Tryz.ntmps168
 go_wp2_with fail
 go_loopw [5,6] (λv i wr=>∃(k x:Nat),k<=32*a.length/\i= .int .i64 ((k:Int)-1)/\IsRes wr v (Nt.digs x)/\Below w.heap.size w wr/\Hid (x=va/2^k*vb)) (λ_ i _=>(intOf i+1).toNat)
 case atStart=>exact⟨32*a.length,0,Lr,by go_num,by rw[Nt.digs_zero];exact IsRes.none_ _,Br,Qd (by rw[TZ.out,Nat.zero_mul])⟩
 case round=>
  obtain⟨k,x,hk,rfl,hres,hbel,H⟩:=hrel;rcases k with _ |k
  ·have HE:Hid (va*vb=x):=Qd (by have:=H.out;rw[Nat.pow_zero,Nat.div_one] at this;exact this.symm)
   go_wp2_with fail
   go_ret;exact⟨_,rfl,by rw[HE.out];exact hres,hbel⟩
  have hk1:((k+1:Nat):Int)-1=(k:Int):=by omega
  rw[hk1];clear hk1;have h2x:=Nt.mul_le2 H.out;have L0:=LN.out x (by omega);have L1:=LN.out (2*x+0) (by omega);have MS:=Qd (λbit hb=>Nt.mul_step (bit:=bit) H.out hb);have T0:=Qd (Fj hres hbel (by omega) 0 (by omega));clear hres;go_wp2_with fail
  refine T0.out.mono ?_;rintro e w1 ⟨v1,rfl,hr1,hb1,_⟩;go_wp2_with fail
  refine(BT.out k w1 (by omega) hb1).mono ?_;rintro e w' ⟨bit,rfl,hbit,HBIT,rfl⟩;have HMS:=Qd (MS.out bit HBIT.out);by_cases hb0:bit=0
  ·subst hb0
   go_wp2_with fail
   go_roundw
   case rel=>exact⟨k,2*x+0,by omega,by go_num,hr1,hb1,Qd (by have:=HMS.out;rw[Nat.zero_mul] at this;exact this)⟩
   case measure=>first|(simp[intOf];done) |(simp[intOf];omega)
  obtain rfl:bit=1:=by omega
  go_wp2_with fail
  refine(AD.out (2*x+0) v1 _ hb1 hr1 (by omega)).mono ?_;rintro e w2 ⟨v2,rfl,hr2,hb2⟩;go_wp2_with fail
  go_roundw
  case rel=>exact⟨k,2*x+0+vb,by omega,by go_num,hr2,hb2,Qd (by have:=HMS.out;rw[Nat.one_mul] at this;exact this)⟩
  case measure=>first|(simp[intOf];done) |(simp[intOf];omega)
theorem Xx (A A':Option Addr)(c c' B:Nat)(a b:List Nat)(w:World)(hx:Lies w B A (U a))(hy:Lies w B A' (U b))(hB:B<=w.heap.size)(ha:Nt.Ok a)(hb:Nt.Ok b)
 (hc:a.length<=c) (hc':b.length<=c') (hm:c<=9223372036854775807) (hm':c'<=9223372036854775807) (hA':A'=none->c'=0) (hs:a.length<=1000000) (hs':b.length<=1000000):
 Calls Tryz.prog 139 #[.slice A a.length c,.slice A' b.length c'] w λe w'=>∃v1 v2,e= .returned (.tuple #[v1,v2,.bool (decide (Nt.val b≠0))])/\
  IsRes w' v1 (Nt.digs (Nt.quo (Nt.val a) (Nt.val b)))/\IsRes w' v2 (Nt.digs (Nt.rest (Nt.val a) (Nt.val b)))/\Below w.heap.size w w':=by
 have NB:=Qd (Xe A' c' B b w hy hB hb hc' hm' hA' (by omega));have LN:=Qd (λx h=>Nt.len_le ha (x:=x) h);have LB:=Qd (λx h=>Nt.len_le hb (x:=x) h);have L2:=Qd (λ(x:Nat) (h:x<2*Nt.val b)=>show(Nt.digs x).length<=b.length+1 from Nt.digs_len_lt (by
  have:=Nt.val_lt hb;rw[Nat.pow_succ];omega))
 have BT:=Qd (λ(i:Nat) (wr:World) (hi:i<=9223372036854775807) (h:Below w.heap.size w wr)=>Fs A c B a i wr (hx.below (h.mono hB)) ha hc hm hi);have SB:=Qd (λ(x:Nat) (v:Value) (wr:World) (h:Below w.heap.size w wr) (hr:IsRes wr v (Nt.digs x)) (hl:(Nt.digs x).length<=8796093022208)=>show Calls Tryz.prog 174 #[v,.slice A' b.length c'] wr λe w'=>∃v',e= .returned (.tuple #[v',.bool (decide (Nt.val b<=x))])/\IsRes w' v' (Nt.digs (x-Nt.val b))/\Below w.heap.size w w'/\Below wr.heap.size wr w' from by
  obtain⟨A1,c1,rfl,h1,h2,h3,h4⟩:=hr;have hyw:=(hy.below (h.mono hB)).more (Nat.le_trans hB h.size);refine(Daa A1 A' c1 c' wr.heap.size (Nt.digs x) b wr h4 hyw Lr (Nt.ok_digs x) hb h1 hc' h2 hm' hl (by omega)).mono ?_;rintro e w' ⟨v',rfl,hr',hb'⟩;rw[Nt.val_digs] at hr'⊢;exact⟨v',rfl,hr',h.trans (hb'.mono h.size),hb'⟩)
 have TZ:=Qd (Nt.top_zero ha);clear hx hy ha hb;generalize Nt.val a=va at*;generalize Nt.val b=vb at*;by_cases h0:vb=0
 ·subst h0
  have HZ:Hid ((Nt.digs 0).length=0):=Qd (by rw[Nt.digs_zero];rfl);go_enter Tryz.func139,Tryz.ntmps139
  go_wp2_with fail
  refine NB.out.mono ?_;rintro e w1 ⟨v1,rfl,⟨A1,c1,rfl,h1,h2,h3,h4⟩,hb1⟩;rw[HZ.out];go_wp2_with fail
  go_ret3
  refine⟨_,_,rfl,?_,?_,hb1⟩
  ·rw[Nt.quo_zero,Nt.digs_zero];exact IsRes.none_ _
  rw[Nt.rest_zero,Nt.digs_zero];exact IsRes.none_ _
 have hpos:0<vb:=by omega
 have HP:Hid (decide (vb≠0)=true):=Qd (by simp;omega);have hlp:(Nt.digs vb).length≠0:=λh=>h0 (Nt.digs_nil_iff.1 (List.eq_nil_of_length_eq_zero h));have hle:(((Nt.digs vb).length:Int)==0)=false:=by simp;intro h;exact hlp (by rw[h];rfl)
 have HI1:Hid (Nt.quo va vb=va/vb):=Qd rfl;have HI2:Hid (Nt.rest va vb=va%vb):=Qd (Nt.rest_pos h0);rw[HP.out];generalize Nt.quo va vb=Q at*;generalize Nt.rest va vb=R at*;clear h0 hlp;go_enter Tryz.func139,Tryz.ntmps139
 go_wp2_with fail
 refine NB.out.mono ?_;rintro e w1 ⟨v1,rfl,⟨A1,c1,rfl,h1,h2,h3,h4⟩,hb1⟩;clear h3 h4;go_wp2_with fail
 go_loopw [7,8,9] (λvq vr i wr=>∃(k q r:Nat),k<=32*a.length/\i= .int .i64 ((k:Int)-1)/\IsRes wr vq (Nt.digs q)/\IsRes wr vr (Nt.digs r)/\Below w.heap.size w wr/\Hid (q=va/2^k/vb/\r=va/2^k%vb)) (λ_ _ i _=>(intOf i+1).toNat)
 case atStart=>exact⟨32*a.length,0,0,Lr,by go_num,by rw[Nt.digs_zero];exact IsRes.none_ _,by rw[Nt.digs_zero];exact IsRes.none_ _,hb1,Qd (by rw[TZ.out];exact⟨(Nat.zero_div _).symm,(Nat.zero_mod _).symm⟩)⟩
 case round=>
  obtain⟨k,q,r,hk,rfl,hrq,hrr,hbel,H⟩:=hrel;rcases k with _ |k
  ·have HE:Hid (Q=q/\R=r):=Qd (by
    have:=H.out;rw[Nat.pow_zero,Nat.div_one] at this;rw[HI1.out,HI2.out,this.1,this.2];exact⟨rfl,rfl⟩)
   go_wp2_with fail
   go_ret3
   exact⟨_,_,rfl,by rw[HE.out.1];exact hrq,by rw[HE.out.2];exact hrr,hbel⟩
  have hk1:((k+1:Nat):Int)-1=(k:Int):=by omega
  rw[hk1];clear hk1;have hrb:r<vb:=by rw[H.out.2];exact Nat.mod_lt _ hpos
  have hqa:2*q+1<=2*va+1:=by
   have:q<=va:=by rw[H.out.1];exact Nat.le_trans (Nat.div_le_self _ _) (Nat.div_le_self _ _)
   omega
  have Lr:=LB.out r (by omega);have Lq:=LN.out q (by omega);have DS:=Qd (λbit hb=>Nt.div_step (n:=va/2^(k+1)) (b:=vb) (q:=q) (r:=r) (bit:=bit) hpos H.out.1 H.out.2 hb);have HH:=Qd (Nt.half_step va k);go_wp2_with fail
  refine(BT.out k _ (by omega) hbel).mono ?_;rintro e w' ⟨bit,rfl,hbit,HBIT,rfl⟩;go_wp2_with fail
  refine(Fj hrr hbel (by omega) bit hbit).mono ?_;rintro e w2 ⟨v2,rfl,hr2,hb2,hbb2⟩;have L2r:=L2.out (2*r+bit) (by omega);have hrq2:=hrq.below hbb2;go_wp2_with fail
  refine(SB.out (2*r+bit) v2 _ hb2 hr2 (by omega)).mono ?_;rintro e w3 ⟨v3,rfl,hr3,hb3,hbb3⟩;have hrq3:=hrq2.below hbb3;have hr23:=hr2.below hbb3;have HN:Hid (va/2^k=2*(va/2^(k+1))+bit):=Qd (by rw[HBIT.out];exact HH.out);by_cases hge:vb<=2*r+bit
  ·have hD:decide (vb<=2*r+bit)=true:=by simpa using hge
   have HDS:=Qd ((DS.out bit hbit).1 hge);rw[hD];clear hD;go_wp2_with fail
   refine(Fj hrq3 hb3 (by omega) 1 (by omega)).mono ?_;rintro e w4 ⟨v4,rfl,hr4,hb4,hbb4⟩;have hr34:=hr3.below hbb4;go_wp2_with fail
   go_roundw
   case rel=>exact⟨k,2*q+1,2*r+bit-vb,by omega,by go_num,hr4,hr34,hb4,Qd (by rw[HN.out];exact HDS.out)⟩
   case measure=>first|(simp[intOf];done) |(simp[intOf];omega)
  have hD:decide (vb<=2*r+bit)=false:=by simpa using hge
  have HDS:=Qd ((DS.out bit hbit).2 hge);rw[hD];clear hD;go_wp2_with fail
  refine(Fj hrq3 hb3 (by omega) 0 (by omega)).mono ?_;rintro e w4 ⟨v4,rfl,hr4,hb4,hbb4⟩;have hr34:=hr23.below hbb4;go_wp2_with fail
  go_roundw
  case rel=>exact⟨k,2*q+0,2*r+bit,by omega,by go_num,hr4,hr34,hb4,Qd (by rw[HN.out];exact HDS.out)⟩
  case measure=>first|(simp[intOf];done) |(simp[intOf];omega)
section
open Go.RowKit
section
variable {w0 w : World} {v1 v2 : Value} {l1 l2 : List Nat}
theorem Wj (h1:IsRes w v1 l1)(h2:IsRes w v2 l2)(o1:Nt.Ok l1)(o2:Nt.Ok l2)(s1:l1.length<=1000000)(s2:l2.length<=1000000)(hb:Below w0.heap.size w0 w):
 Calls Tryz.prog 139 #[v1,v2] w λe w'=>∃u1 u2,e= .returned (.tuple #[u1,u2,.bool (decide (Nt.val l2≠0))])/\IsRes w' u1 (Nt.digs (Nt.quo (Nt.val l1) (Nt.val l2)))/\IsRes w' u2 (Nt.digs (Nt.rest (Nt.val l1) (Nt.val l2)))/\Below w0.heap.size w0 w'/\Below w.heap.size w w':=by
 obtain⟨A,c,rfl,a1,a2,a3,a4⟩:=h1;obtain⟨A',c',rfl,b1,b2,b3,b4⟩:=h2;refine(Xx A A' c c' w.heap.size l1 l2 w a4 b4 Lr o1 o2 a1 b1 a2 b2 b3 s1 s2).mono ?_;rintro e w' ⟨u1,u2,rfl,r1,r2,hb'⟩;exact⟨u1,u2,rfl,r1,r2,hb.trans (hb'.mono hb.size),hb'⟩
theorem Vm (h1:IsRes w v1 l1)(o1:Nt.Ok l1)(s1:l1.length<=1000000)(hb:Below w0.heap.size w0 w):
 Calls Tryz.prog 129 #[v1] w λe w'=>∃v,e= .returned v/\IsRes w' v (Nt.digs (Nt.val l1))/\Below w0.heap.size w0 w'/\Below w.heap.size w w':=by
 obtain⟨A,c,rfl,a1,a2,a3,a4⟩:=h1;refine(Xe A c w.heap.size l1 w a4 Lr o1 a1 a2 a3 (by omega)).mono ?_;rintro e w' ⟨v,rfl,r,hb'⟩;exact⟨v,rfl,r,hb.trans (hb'.mono hb.size),hb'⟩
end
theorem Nz (va vb:Value)(a b:List Nat)(w:World)(hx:IsRes w va a)(hy:IsRes w vb b)(ha:Nt.Ok a)(hb:Nt.Ok b)(hs:a.length<=64)(hs':b.length<=64):
 Calls Tryz.prog 138 #[va,vb] w λe w'=>∃v,e= .returned v/\IsRes w' v (Nt.digs (Nat.gcd (Nt.val a) (Nt.val b)))/\Below w.heap.size w w':=by
 have hda:=Nt.digs_len_le ha;have hdb:=Nt.digs_len_le hb;have NA:=Qd (Vm hx ha (by omega) Br);have NB:=Qd (λ(wx:World) (h:Below w.heap.size w wx)=>Vm (hy.below h) hb (by omega) h);have EU:=Qd (Nt.euc_start ha hb hs hs');obtain⟨N,hN⟩:∃N,N=32*64+32*64+1:=⟨_,rfl⟩;rw[<-hN] at EU;have HN:Hid (N<100000):=Qd (by omega);clear hN;have hla:(Nt.digs (Nt.val a)).length<=1000000:=by omega
 have hlb:(Nt.digs (Nt.val b)).length<=1000000:=by omega
 clear hx hy ha hb hs hs' hda hdb;obtain⟨x0,hx0⟩:∃x,x=Nt.val a:=⟨_,rfl⟩;obtain⟨y0,hy0⟩:∃y,y=Nt.val b:=⟨_,rfl⟩;rw[<-hx0] at NA EU hla⊢;rw[<-hy0] at NB EU hlb⊢;clear hx0 hy0;go_enter Tryz.func138,Tryz.ntmps138
 go_wp2_with fail
 refine NA.out.mono ?_;rintro e w1 ⟨v1,rfl,hr1,hb1,_⟩;go_wp2_with fail
 refine(NB.out w1 hb1).mono ?_;rintro e w2 ⟨v2,rfl,hr2,hb2,hb12⟩;have hr1':=hr1.below hb12;obtain⟨A,c,rfl,a1,a2,a3,a4⟩:=hr1';obtain⟨A',c',rfl,b1,b2,b3,b4⟩:=hr2;have HR0:Hid (IsRes w2 (.slice A (Nt.digs x0).length c) (Nt.digs x0)/\IsRes w2 (.slice A' (Nt.digs y0).length c') (Nt.digs y0)):=Qd ⟨⟨_,_,rfl,a1,a2,a3,a4⟩,⟨_,_,rfl,b1,b2,b3,b4⟩⟩;clear hr1 hb1 hb12 a1 a2 a3 a4 b1 b2 b3 b4 NA NB;go_wp2_with fail
 go_loopg [5,6,7] 100000 (λgk av bv kv wr=>∃(A A':Option Addr) (c c' x y k:Nat),av= .slice A (Nt.digs x).length c/\bv= .slice A' (Nt.digs y).length c'/\kv= .int .i64 (k:Int)/\Hid (k+gk=100000)/\Hid (Nt.EucAt (2^N) x y k)/\Hid (IsRes wr (.slice A (Nt.digs x).length c) (Nt.digs x)/\IsRes wr (.slice A' (Nt.digs y).length c') (Nt.digs y))/\(Nt.digs x).length<=1000000/\(Nt.digs y).length<=1000000/\Hid (Nat.gcd x y=Nat.gcd x0 y0)/\Below w.heap.size w wr)
 case atStart=>exact⟨_,_,_,_,x0,y0,0,rfl,rfl,rfl,Qd (by omega),EU,HR0,hla,hlb,Qd rfl,hb2⟩
 case round=>
  clear EU HR0 hla hlb hb2;obtain⟨P,P',k1,k2,x,y,k,rfl,rfl,rfl,HK,EU,HR,hlx,hly,HG,hbel⟩:=hrel;by_cases h0:y=0
  ·subst h0
   have HZ:Hid ((Nt.digs 0).length=0):=Qd (by rw[Nt.digs_zero];rfl);have HE:Hid (Nat.gcd x0 y0=x):=Qd (by rw[<-HG.out,Nat.gcd_zero_right]);have HRX:=Qd HR.out.1;rw[HZ.out];clear HG HR;rcases Bool.eq_false_or_eq_true (decide ((k:Int)<100000)) with hk2 |hk2
   all_goals
    go_wp2_with fail
    go_ret;exact⟨_,rfl,by rw[HE.out];exact HRX.out,hbel⟩
  have hlp:0<(Nt.digs y).length:=by
   rcases Nat.eq_zero_or_pos (Nt.digs y).length with h |h
   ·exact absurd (Nt.digs_nil_iff.1 (List.eq_nil_of_length_eq_zero h)) h0
   exact h
  have HK2:Hid (k<100000):=Qd (by
   rcases Nat.lt_or_ge k 100000 with h |h
   ·exact h
   exact absurd (EU.out.done (by have:=HN.out;omega)) h0)
  have hk2:decide ((k:Int)<100000)=true:=by have:=HK2.out;simp;omega
  have hkb:k<1000000000:=by have:=HK2.out;omega
  have DM:=Qd (Wj (w0:=w) HR.out.1 HR.out.2 (Nt.ok_digs x) (Nt.ok_digs y) hlx hly hbel);rw[Nt.val_digs,Nt.val_digs,Nt.rest_pos h0] at DM;have hyp:x%y<y:=Nat.mod_lt _ (by omega);have hlr:(Nt.digs (x%y)).length<=1000000:=by
   have h:=Nt.digs_len_le_of (Nat.le_of_lt hyp);omega
  have HG2:Hid (Nat.gcd y (x%y)=Nat.gcd x0 y0):=Qd (by rw[Nt.gcd_step];exact HG.out);have EU2:=Qd (EU.out.step (by omega));have HRY:=Qd HR.out.2;clear HR HG h0 EU;obtain⟨r,hr⟩:∃r,r=x%y:=⟨_,rfl⟩;rw[<-hr] at DM hyp hlr HG2 EU2;clear hr;go_wp2_with fail
  refine DM.out.mono ?_;rintro e w1 ⟨u1,u2,rfl,hr1,hr2,hb1,hb01⟩;have hry:=HRY.out.below hb01;obtain⟨A2,c2,rfl,q1,q2,q3,q4⟩:=hr2;have hr2':IsRes w1 (.slice A2 (Nt.digs r).length c2) (Nt.digs r):=⟨A2,c2,rfl,q1,q2,q3,q4⟩;clear q1 q2 q3 q4 hr1 hb01 HRY DM;have HRN:=Qd (And.intro hry hr2');clear hry hr2';go_wp2_with fail
  go_roundg (gk-1)
  case measure=>have:=HK2.out;have:=HK.out;omega
  case rel=>exact⟨_,_,_,_,y,r,k+1,rfl,rfl,by go_num,Qd (by have:=HK2.out;have:=HK.out;omega),EU2,HRN,hly,hlr,HG2,hb1⟩
def ResL (w:World)(v:Value)(l:List Nat):Prop:=IsRes w v l/\Nt.Ok l/\l.length<=64
theorem ResL.below {w w':World}{v:Value}{l:List Nat}(h:ResL w v l)(hb:Below w.heap.size w w'):ResL w' v l:=⟨h.1.below hb,h.2⟩
theorem IsRes.setRow {w:World}{v:Value}{l:List Nat}{g:Nat}{old:Array Value}{t:TypeId}(h:IsRes w v l)(hg:w.heap[g]? =some (.cells old t (0,0)))(ho:∀(i:Nat) (k:IntKind) (n:Int),old[i]? ≠some (Value.int k n))(cs:Array Value):IsRes (w.setRow g cs) v l:=by
 obtain⟨A,c,h1,h2,h3,h4,h5⟩:=h;refine⟨A,c,h1,h2,h3,h4,?_⟩;rcases h5 with h5 |⟨b,off,e,hb,hc⟩
 ·exact .inl h5
 cases l with
 |nil=>exact .inl rfl
 |cons x r=>
  have hne:b≠g:=by
   rintro rfl;have h0:=hc 0 _ rfl;rw[cell_of_row w b (off+0) old t (0,0) hg] at h0;exact ho _ _ _ h0
  refine .inr ⟨b,off,e,by rw[size_setRow];exact hb,λi u hu=>?_⟩;rw[World.cell?_of_block (w:=w) (by simp only[World.setRow,Array.getElem?_modify];rw[if_neg (by omega)])];exact hc i u hu
theorem ResL.setRow {w:World}{v:Value}{l:List Nat}{g:Nat}{old:Array Value}{t:TypeId}(h:ResL w v l)(hg:w.heap[g]? =some (.cells old t (0,0)))(ho:∀(i:Nat) (k:IntKind) (n:Int),old[i]? ≠some (Value.int k n))(cs:Array Value):ResL (w.setRow g cs) v l:=⟨h.1.setRow hg ho cs,h.2⟩
theorem Nb (n:Bool)(A:Option Addr)(k c:Nat):∀(i:Nat) (kk:IntKind) (m:Int),(#[.bool n,.slice A k c]:Array Value)[i]? ≠some (Value.int kk m):=by
 intro i kk m h
 match i with
 | 0=>cases h
 | 1=>cases h
 |i+2=>simp at h
theorem Ea (n:Bool)(A:Option Addr)(k c:Nat)(A':Option Addr)(k' c':Nat):∀(i:Nat) (kk:IntKind) (m:Int),(#[.bool n,.slice A k c,.slice A' k' c']:Array Value)[i]? ≠some (Value.int kk m):=by
 intro i kk m h
 match i with
 | 0=>cases h
 | 1=>cases h
 | 2=>cases h
 |i+3=>simp at h
theorem Yd:(Tryz.prog.info? 136).map (·.size)=some 2:=by kernel_rfl
theorem Kg:(Tryz.prog.info? 83).map (·.size)=some 3:=by kernel_rfl
theorem Rc (n:Bool)(A:Option Addr)(k c:Nat):(#[.bool n,.slice A k c]:Array Value).all (·.oneCell')=true:=by simp[Value.oneCell']
theorem Cw (n:Bool)(A:Option Addr)(k c:Nat)(A':Option Addr)(k' c':Nat):(#[.bool n,.slice A k c,.slice A' k' c']:Array Value).all (·.oneCell')=true:=by simp[Value.oneCell']
theorem rBelow.setRow {B:Nat}{a w:World}(h:Below B a w){g:Nat}(hg:B<=g)(cs:Array Value):Below B a (w.setRow g cs):=
 ⟨h.os,h.tape,h.output,by rw[size_setRow];exact h.size,λk hk=>by
  have e:(w.setRow g cs).heap[k]? =w.heap[k]? :=by
   simp only[World.setRow,Array.getElem?_modify];rw[if_neg (by omega)]
  rw[e];exact h.block k hk⟩
theorem Ma {w:World}{g:Nat}{old cs:Array Value}{t:TypeId}(h:w.heap[g]? =some (.cells old t (0,0))):(w.setRow g cs).heap[g]? =some (.cells cs t (0,0)):=by
 simp[World.setRow,Array.getElem?_modify,h]
theorem Gs (x0 x1 x2:Value):(Tryz.prog.info? 83).map (·.size)=some (#[x0,x1,x2]:Array Value).size:=Kg
theorem Xc {ops:Array Oper}{rest:List Oper}{o:Oper}{a:Act}{w:World}{Q:Exit->Act->World->Prop}{b:Bool}{A A':Option Addr}{k c k' c':Nat}{u0 u1 u2:Value}(hgd:o.guard=none)(x y:Operand)(ho:o.op= .store 83 x y)(g:Nat)
 (hx:a.eval x= .pointer (some ⟨g,0,none⟩)) (hy:a.eval y= .agg #[.bool b,.slice A k c,.slice A' k' c']) (hg:w.heap[g]? =some (.cells #[u0,u1,u2] 83 (0,0)))
 (h:wpList Tryz.prog ops Q rest (a.put o.dst undef) (w.setRow g #[.bool b,.slice A k c,.slice A' k' c'])):wpList Tryz.prog ops Q (o::rest) a w:=
 wpList_store_row hgd _ x y ho g _ hx hy _ _ hg (Gs _ _ _) rfl (Cw _ _ _ _ _ _ _) h
def Mo (w:World)(n:Bool)(l:List Nat)(e:Ending)(w':World):Prop:=∃v,e= .returned (.agg #[.bool n,v])/\ResL w' v l/\Below w.heap.size w w'
theorem Of (n:Bool)(v:Value)(l:List Nat)(w:World)(h:ResL w v l):
 Calls Tryz.prog 137 #[.agg #[.bool n,v]] w (Mo w (Rt.nrm n (Nt.val l)) (Nt.digs (Nt.val l))):=by
 obtain⟨hr,ho,hl⟩:=h;have hb0:∀o1 o2,Below w.heap.size w ((w.alloc o1).alloc o2):=λo1 o2=>(Br.alloc Lr _).alloc (by simp) _;have HN:=Qd (λo1 o2=>Vm (hr.below (hb0 o1 o2)) ho (by omega) (hb0 o1 o2));have hd:=Nt.digs_len_le ho;have HO:Hid (Nt.Ok (Nt.digs (Nt.val l))/\(Nt.digs (Nt.val l)).length<=64):=Qd ⟨Nt.ok_digs _,by omega⟩;have HZ:Hid ((Nt.digs (Nt.val l)).length=0->Nt.digs (Nt.val l)=[]/\Rt.nrm n (Nt.val l)=false):=Qd (λe=>by
  have e1:=List.eq_nil_of_length_eq_zero e;have e2:=Nt.digs_nil_iff.1 e1;exact⟨e1,by rw[e2];simp[Rt.nrm]⟩)
 have HY:Hid ((Nt.digs (Nt.val l)).length≠0->Rt.nrm n (Nt.val l)=n):=Qd (λe=>by
  have e2:Nt.val l≠0:=λe3=>e (by rw[e3,Nt.digs_zero];rfl);have e3:(Nt.val l==0)=false:=by simpa using e2
  simp[Rt.nrm,e3])
 have HB:=Qd hb0;obtain⟨A,c,rfl,-,-,-,-⟩:=hr;clear ho hl hd hb0;generalize Nt.digs (Nt.val l)=d at*;generalize Rt.nrm n (Nt.val l)=N at*;generalize l.length=ll at*;have HI2:Hid (∀(b:Bool) (A:Option Addr) (k c:Nat),(Tryz.prog.info? 136).map (·.size)=some (#[.bool b,.slice A k c]:Array Value).size):=Qd (λ_ _ _ _=>Yd);go_enter Tryz.func137,Tryz.ntmps137
 go_wp2_with fail
 refine(HN.out _ _).mono ?_;rintro e w2 ⟨v2,rfl,hr2,hb2,hb3⟩;have hs2:=hb3.size;have HG1:Hid (w2.heap[w.heap.size+1]? =some (.cells #[.bool false,.slice none 0 0] 136 (0,0))):=Qd ((hb3.block (w.heap.size+1) (by simp)).trans (by
  have:=heap_alloc_new (w.alloc (.cells #[.bool n,.slice A ll c] 136)) (.cells #[.bool false,.slice none 0 0] 136);rwa[show(w.alloc (.cells #[.bool n,.slice A ll c] 136)).heap.size=w.heap.size+1 by simp] at this))
 have q0:w2.cell? ⟨w.heap.size,0,none⟩=some (.bool n):=(hb3.cell (p:=⟨w.heap.size,0,none⟩) (by show w.heap.size<_;simp;omega)).trans (by go_simp);obtain⟨A2,c2,rfl,k1,k2,k3,k4⟩:=hr2;have HR2:Hid (IsRes w2 (.slice A2 d.length c2) d):=Qd ⟨A2,c2,rfl,k1,k2,k3,k4⟩;clear k3 k4 hb3;by_cases h0:d.length=0
 ·have hz:((d.length:Int)==0)=true:=by rw[h0];rfl
  have HD:=Qd (HZ.out h0);clear h0;go_wp2_with (first
   |(with_reducible refine wpList_store_row rfl 136 (.tmp 2) (.tmp 10) rfl (w.heap.size+1) #[.bool false,.slice none 0 0] rfl rfl 136 #[.bool false,.slice none 0 0] HG1.out (HI2.out _ _ _ _) rfl (Rc _ _ _ _) ?_))
  refine bodyPost_ret (results_cell_row (by rfl) _ _ (w.heap.size+1) 136 #[.bool false,.slice none 0 0] (0,0) _ (by rfl) (Ma HG1.out) Tryz.underlying136 rfl (HI2.out _ _ _ _)) rfl ⟨.slice none 0 0,by rw[HD.out.2],by rw[HD.out.1];exact⟨⟨none,0,rfl,Lr,by omega,λ_=>rfl,.inl rfl⟩,(λx h=>by cases h),by simp⟩,rBelow.setRow hb2 (by omega) _⟩
 have hz:((d.length:Int)==0)=false:=beq_eq_false_iff_ne.2 (by omega);have HD:=Qd (HY.out h0);clear h0;go_wp2_with (first
  |(with_reducible refine wpList_store_row rfl 136 (.tmp 2) (.tmp 14) rfl (w.heap.size+1) #[.bool n,.slice A2 d.length c2] rfl rfl 136 #[.bool false,.slice none 0 0] HG1.out (HI2.out _ _ _ _) rfl (Rc _ _ _ _) ?_))
 refine bodyPost_ret (results_cell_row (by rfl) _ _ (w.heap.size+1) 136 #[.bool n,.slice A2 d.length c2] (0,0) _ (by rfl) (Ma HG1.out) Tryz.underlying136 rfl (HI2.out _ _ _ _)) rfl ⟨.slice A2 d.length c2,by rw[HD.out],⟨HR2.out.setRow HG1.out (Nb _ _ _ _) _,HO.out⟩,rBelow.setRow hb2 (by omega) _⟩
end
theorem Pf (v:Value)(l:List Nat)(w:World)(h:IsRes w v l):
 Calls Tryz.prog 134 #[v] w λe w'=>e= .returned (.bool (l==[1]))/\w=w':=by
 obtain⟨A,c,rfl,h1,h2,h3,h4⟩:=h;by_cases hl:l.length=1
 ·obtain⟨x,rfl⟩:∃x,l=[x]:=by
   match l,hl with
   | [x],_=>exact⟨x,rfl⟩
  obtain⟨b,off,rfl,hb,g0⟩:=h4.at_ (k:=0) (by simp[U]);have g1:w.cell? ⟨b,off,none⟩=some (.int .u32 (x:Int)):=by simpa [U] using g0
  have HQ:Hid (([x]==[1])=(x==1)):=Qd (by simp[List.cons_beq_cons]);have hlen:([x]:List Nat).length=1:=rfl;clear g0 h4 h3 hl hlen;by_cases hx:x=1
  ·subst hx
   go_enter Tryz.func134,Tryz.ntmps134
   go_wp2_with fail
   go_ret;exact⟨Aa (by rw[HQ.out];rfl),rfl⟩
  have q:((x:Int)==1)=false:=beq_eq_false_iff_ne.2 (by omega);have HQ2:Hid ((x==1)=false):=Qd (beq_eq_false_iff_ne.2 hx);clear hx;go_enter Tryz.func134,Tryz.ntmps134
  go_wp2_with fail
  go_ret;exact⟨Aa (by rw[HQ.out,HQ2.out]),rfl⟩
 have q:((l.length:Int)==1)=false:=beq_eq_false_iff_ne.2 (by omega);have HQ:Hid ((l==[1])=false):=Qd (by
  rw[beq_eq_false_iff_ne];rintro rfl;exact hl rfl)
 clear hl h4;generalize l.length=n at*;go_enter Tryz.func134,Tryz.ntmps134
 go_wp2_with fail
 go_ret;exact⟨Aa (by rw[HQ.out]),rfl⟩
def Bl (w:World)(n:Bool)(l:List Nat)(e:Ending)(w':World):Prop:=∃v,e= .returned (.agg #[.bool n,v])/\IsRes w' v l/\Below w.heap.size w w'
theorem Ye:(Tryz.prog.info? 143).map (·.size)=some 2:=by kernel_rfl
theorem Faa (n:Bool)(v:Value)(l:List Nat)(w:World)(h:IsRes w v l):
 Calls Tryz.prog 184 #[.bool n,v] w (Bl w (n&& !(l==[])) l):=by
 have HR:=Qd h;obtain⟨A,c,rfl,h1,h2,h3,h4⟩:=h;have HI2:Hid (∀(b:Bool) (A:Option Addr) (k c:Nat),(Tryz.prog.info? 143).map (·.size)=some (#[.bool b,.slice A k c]:Array Value).size):=Qd (λ_ _ _ _=>Ye);have HG1:Hid (∀o,(w.alloc o).heap[w.heap.size]? =some o):=Qd (λo=>heap_alloc_new w o);have hb:∀o,Below w.heap.size w (w.alloc o):=λo=>Br.alloc Lr _;have HB:=Qd hb;clear h3 h4 hb;by_cases hl:l.length=0
 ·have q:((l.length:Int)==0)=true:=beq_iff_eq.2 (by omega)
  have HL:Hid (l=[]):=Qd (List.eq_nil_of_length_eq_zero hl);clear hl;go_enter Tryz.func184,Tryz.ntmps184
  go_wp2_with (with_reducible refine wpList_store_row rfl 143 (.tmp 4) (.tmp 8) rfl w.heap.size #[.bool false,.slice none 0 0] rfl rfl 143 #[.bool false,.slice none 0 0] (HG1.out _) (HI2.out _ _ _ _) rfl (Rc _ _ _ _) ?_)
  refine bodyPost_ret (results_cell_row (by rfl) _ _ w.heap.size 143 #[.bool false,.slice none 0 0] (0,0) _ (by rfl) (Ma (HG1.out _)) Tryz.underlying143 rfl (HI2.out _ _ _ _)) rfl ⟨.slice none 0 0,by rw[HL.out];simp,by rw[HL.out];exact IsRes.none_ _,rBelow.setRow (HB.out _) Lr _⟩
 have q:((l.length:Int)==0)=false:=beq_eq_false_iff_ne.2 (by omega);have HL:Hid ((l==[])=false):=Qd (by rw[beq_eq_false_iff_ne];rintro rfl;exact hl rfl);clear hl;go_enter Tryz.func184,Tryz.ntmps184
 go_wp2_with (with_reducible refine wpList_store_row rfl 143 (.tmp 4) (.tmp 11) rfl w.heap.size #[.bool n,.slice A l.length c] rfl rfl 143 #[.bool false,.slice none 0 0] (HG1.out _) (HI2.out _ _ _ _) rfl (Rc _ _ _ _) ?_)
 refine bodyPost_ret (results_cell_row (by rfl) _ _ w.heap.size 143 #[.bool n,.slice A l.length c] (0,0) _ (by rfl) (Ma (HG1.out _)) Tryz.underlying143 rfl (HI2.out _ _ _ _)) rfl ⟨.slice A l.length c,by rw[HL.out];simp,(HR.out.below (HB.out _)).setRow (HG1.out _) (Nb _ _ _ _) _,rBelow.setRow (HB.out _) Lr _⟩
theorem Hs {r x:Nat}(hr:r<4294967296)(hx:x<4294967296):bits BinOp.or IntKind.u64 ((r:Int)*4294967296) (x:Int)=((r*4294967296+x:Nat):Int):=by
 have h:=u64_or_nat (r*4294967296) x (by omega) (by omega);rw[nat_join 32 (r*4294967296) x (by omega) (by omega)] at h;rw[<-h,Int.natCast_mul];rfl
theorem Qp (g c d:Nat)(l:List Nat)(rest:List Value)(w:World)(hblk:Blk w g 139 (U l++rest))(ho:Nt.Ok l)(hd:0<d)(hd2:d<4294967296)(hm:l.length<=9223372036854775807):
 Calls Tryz.prog 146 #[.slice (some ⟨g,0,none⟩) l.length c,.int .u32 (d:Int)] w λe w'=>∃cur:List Nat,e= .returned (.int .u32 ((Nt.val l%d:Nat):Int))/\Blk w' g 139 (U cur++rest)/\Hid (cur.length=l.length/\Nt.Ok cur/\Nt.val cur=Nt.val l/d)/\w.grownBy w' (some g):=by
 have HO:=Qd ho;have hd1:(1:Int)<=(d:Int):=by omega
 clear ho;go_enter Tryz.func146,Tryz.ntmps146
 go_wp2_with fail
 go_loopw [5,6] (λrv i wr=>∃(k r:Nat) (cur:List Nat),k<=l.length/\r<d/\i= .int .i64 ((k:Int)-1)/\rv= .int .u64 (r:Int)/\Blk wr g 139 (U cur++rest)/\w.grownBy wr (some g)/\Hid (Nt.ShortAt l d cur k r)) (λ_ i _=>(intOf i+1).toNat)
 case atStart=>exact⟨l.length,0,l,Lr,hd,by go_num,rfl,hblk,World.grownBy.refl _ _,Qd (Nt.short_start HO.out hd)⟩
 case round=>
  clear hblk;obtain⟨k,r,cur,hk,hr,rfl,rfl,hblk,hgr,H⟩:=hrel;rcases k with _ |k
  ·have HE:=Qd (Nt.short_end H.out)
   have hrd:r<4294967296:=by omega
   go_wp2_with fail
   go_ret;refine⟨cur,Gb (by rw[<-HE.out.2]),hblk,Qd ⟨H.out.1,H.out.2.1,HE.out.1⟩,hgr⟩
  have hk1:((k+1:Nat):Int)-1=(k:Int):=by omega
  rw[hk1];clear hk1;have hkl:k<l.length:=by omega
  have hcl:cur.length=l.length:=H.out.1;have hget:=Nt.short_get H.out hkl;have hcell:wr.cell? ⟨g,k,none⟩=some (.int .u32 ((l[k]:Nat):Int)):=hblk.cell (by
   rw[List.getElem?_append_left (by rw[Nd];omega),U,List.getElem?_map,hget];rfl)
  have hfz:=hblk.frozen k;have hxb:=Nt.ok_get HO.out hkl;have ST:=Qd (Nt.short_step H.out hkl HO.out hd2);have BD:=Nt.short_bounds hr hd2 hxb;have BS:Hid (∀s:Nat,Blk (wr.setCell ⟨g,k,none⟩ (.int .u32 (s:Int))) g 139 (U (cur.set k s)++rest)):=Qd (λs=>by
   have:=hblk.set_ k (.int .u32 (s:Int));rw[List.set_append_left _ _ (by rw[Nd];omega),show(U cur).set k (.int .u32 (s:Int))=U (cur.set k s) from List.map_set.symm] at this;exact this)
  generalize l[k]=x at hcell hxb ST BD;have hj:=Hs (r:=r) (by omega) hxb;generalize ht:r*4294967296+x=t at ST BD hj;have hq:(t:Int)/(d:Int)=((t/d:Nat):Int):=(Int.natCast_ediv t d).symm;have hr2:(t:Int)%(d:Int)=((t%d:Nat):Int):=(Int.natCast_emod t d).symm;obtain⟨hq1,ht1,hr1⟩:=BD;generalize t/d=q at*;generalize t%d=r' at*;clear ht hblk hcl hget;have hrl:r<4294967296:=by omega
  have HR2:=Qd hr2;go_wp2_with fail
  refine⟨⟨k,r',cur.set k q,by omega,hr1,by go_num,congrArg (Value.int .u64) HR2.out,BS.out q,Dh hgr _ _,Qd ST.out⟩,?_⟩
  first|(simp[intOf];done) |(simp[intOf];omega)
end Go.Proofs.YtmiccalfamepdaaGreatDoor
namespace Nt
structure Est (R D p v1 v2 u0 u1 u2:Nat):Prop where
 d:∃r,r<p/\D=(v1*4294967296+v2)*p+r
 r:∃s,s<p/\R=((u0*4294967296+u1)*4294967296+u2)*p+s
 v1lo:2147483648<=v1
 v1hi:v1<4294967296
 v2hi:v2<4294967296
 u1hi:u1<4294967296
 u2hi:u2<4294967296
 lt:R<4294967296*D
theorem Est.ppos {R D p v1 v2 u0 u1 u2:Nat}(h:Est R D p v1 v2 u0 u1 u2):0<p:=by
 obtain⟨r,hr,_⟩:=h.d;omega
theorem Est.dpos {R D p v1 v2 u0 u1 u2:Nat}(h:Est R D p v1 v2 u0 u1 u2):0<D:=by
 have:=h.lt;omega
theorem Ph {a b p:Nat}(h:a*p<b*p):a<b:=Nat.lt_of_mul_lt_mul_right h
theorem Est.u0 {R D p v1 v2 u0 u1 u2:Nat}(h:Est R D p v1 v2 u0 u1 u2):u0*4294967296+u1<=v1*4294967296+4294967295:=by
 obtain⟨r,hr,hD⟩:=h.d;obtain⟨s,hs,hR⟩:=h.r;have h1:=h.lt;have h2:((u0*4294967296+u1)*4294967296+u2)*p<(4294967296*(v1*4294967296+v2)+4294967296)*p:=by
  have:(4294967296*(v1*4294967296+v2)+4294967296)*p=4294967296*((v1*4294967296+v2)*p)+4294967296*p:=by grind
  omega
 have h3:=Ph h2;have:=h.v2hi;omega
theorem Est.q {R D p v1 v2 u0 u1 u2:Nat}(h:Est R D p v1 v2 u0 u1 u2):R/D<4294967296:=by
 rw[Nat.div_lt_iff_lt_mul h.dpos];exact h.lt
theorem Est.first {R D p v1 v2 u0 u1 u2:Nat}(h:Est R D p v1 v2 u0 u1 u2):R/D<=(u0*4294967296+u1)/v1:=by
 obtain⟨r,hr,hD⟩:=h.d;obtain⟨s,hs,hR⟩:=h.r;have hv:=h.v1lo;rw[Nat.le_div_iff_mul_le (by omega)];have h1:R/D*D<=R:=Nat.div_mul_le_self _ _;generalize R/D=q at*;have hu2:=h.u2hi;have h2:q*v1*(4294967296*p)<(u0*4294967296+u1+1)*(4294967296*p):=by
  have e1:q*v1*(4294967296*p)<=q*D:=by
   have:q*D=q*v1*(4294967296*p)+q*(v2*p+r):=by rw[hD];grind
   omega
  have e2:(u0*4294967296+u1+1)*(4294967296*p)=(u0*4294967296+u1)*4294967296*p+4294967296*p:=by grind
  have e3:((u0*4294967296+u1)*4294967296+u2)*p=(u0*4294967296+u1)*4294967296*p+u2*p:=by grind
  have e4:u2*p+p<=4294967296*p:=by
   have:(u2+1)*p<=4294967296*p:=Nat.mul_le_mul_right _ hu2;rw[Nat.succ_mul] at this;exact this
  omega
 have:=Ph h2;omega
theorem Est.less {R D p v1 v2 u0 u1 u2 g t:Nat}(h:Est R D p v1 v2 u0 u1 u2)(hg:g*v1+t=u0*4294967296+u1)(hge:R/D<=g)(htest:4294967296<=g\/t*4294967296+u2<g*v2):R/D+1<=g:=by
 rcases htest with h1 |h1
 ·have:=h.q;omega
 rcases Nat.lt_or_ge (R/D) g with h2 |h2
 ·exact h2
 exfalso
 have e:R/D=g:=by omega
 obtain⟨r,hr,hD⟩:=h.d;obtain⟨s,hs,hR⟩:=h.r;have h3:g*D<=R:=by rw[<-e];exact Nat.div_mul_le_self _ _
 have h4:g*(v1*4294967296+v2)*p<((u0*4294967296+u1)*4294967296+u2+1)*p:=by
  have e1:g*D=g*(v1*4294967296+v2)*p+g*r:=by rw[hD];grind
  have e2:((u0*4294967296+u1)*4294967296+u2+1)*p=((u0*4294967296+u1)*4294967296+u2)*p+p:=Nat.succ_mul _ _;omega
 have h5:=Ph h4;have e3:g*(v1*4294967296+v2)=(g*v1)*4294967296+g*v2:=by grind
 omega
theorem Est.near {R D p v1 v2 u0 u1 u2 g t:Nat}(h:Est R D p v1 v2 u0 u1 u2)(hg:g*v1+t=u0*4294967296+u1)(hlt:g<4294967296)(htest:g*v2<=t*4294967296+u2):g<=R/D+1:=by
 obtain⟨r,hr,hD⟩:=h.d;obtain⟨s,hs,hR⟩:=h.r;have hv:=h.v1lo;have h1:g*(v1*4294967296+v2)*p<=R:=by
  have e3:g*(v1*4294967296+v2)=(g*v1)*4294967296+g*v2:=by grind
  have h2:g*(v1*4294967296+v2)<=(u0*4294967296+u1)*4294967296+u2:=by omega
  have:=Nat.mul_le_mul_right p h2;omega
 have h2:g*r<=4294967295*p:=Nat.mul_le_mul (by omega) (by omega);have h3:4294967295*p<D:=by
  have:4294967296*p<=(v1*4294967296+v2)*p:=Nat.mul_le_mul_right _ (by omega);have hp:=h.ppos;omega
 have e1:g*D=g*(v1*4294967296+v2)*p+g*r:=by rw[hD];grind
 have h4:g*D<R+D:=by omega
 rcases Nat.eq_zero_or_pos g with h0 |h0
 ·rw[h0];exact Nat.zero_le _
 have h5:(g-1)*D<=R:=by
  have:g*D=(g-1)*D+D:=by
   obtain⟨m,rfl⟩:∃m,g=m+1:=⟨g-1,by omega⟩;rw[Nat.add_sub_cancel,Nat.succ_mul]
  omega
 have:=(Nat.le_div_iff_mul_le h.dpos).2 h5;omega
def TakeAt (a d:List Nat)(g:Nat)(cur:List Nat)(k cy b:Nat):Prop:=
 cur.length=a.length/\Ok cur/\val (cur.take k)+g*val (d.take k)=val (a.take k)+(cy+b)*4294967296^k/\cur.drop k=a.drop k
theorem take_start {a d:List Nat}{g:Nat}(h:Ok a):TakeAt a d g a 0 0 0:=⟨rfl,h,by simp[val],rfl⟩
theorem take_get {a d cur:List Nat}{g k cy b:Nat}(h:TakeAt a d g cur k cy b)(hk:k<a.length):cur[k]? =some a[k]:=by
 have:(cur.drop k)[0]? =(a.drop k)[0]? :=by rw[h.2.2.2]
 rw[List.getElem?_drop,List.getElem?_drop,Nat.add_zero,List.getElem?_eq_getElem hk] at this;exact this
theorem take_step {a d cur:List Nat}{g k cy b s cy' b' t:Nat}(h:TakeAt a d g cur k cy b)(hk:k<a.length)(hd:k<d.length)(hs:s<4294967296)(e1:g*d[k]+cy=t+4294967296*cy')(e2:a[k]+4294967296*b'=s+t+b):TakeAt a d g (cur.set k s) (k+1) cy' b':=by
 obtain⟨h1,h2,h3,h4⟩:=h;refine⟨by simpa using h1,Ue h2 hs,?_,?_⟩
 ·rw[Hf (by omega),val_take_succ hk,val_take_succ hd,Nat.pow_succ]
  generalize 4294967296^k=p at*;generalize a[k]=x at*;generalize d[k]=y at*;generalize val (cur.take k)=V at*;generalize val (d.take k)=D at*
  grind
 rw[drop_set];have:=congrArg (List.drop 1) h4;rw[List.drop_drop,List.drop_drop] at this;exact this
theorem take_end {a d cur:List Nat}{g cy b s b':Nat}(h:TakeAt a d g cur d.length cy b)(hl:a.length=d.length+1)(hs:s<4294967296)(e2:a[d.length]+4294967296*b'=s+cy+b):
 (cur.set d.length s).length=a.length/\Ok (cur.set d.length s)/\val (cur.set d.length s)+g*val d=val a+b'*4294967296^(d.length+1):=by
 obtain⟨h1,h2,h3,h4⟩:=h;refine⟨by simpa using h1,Ue h2 hs,?_⟩;have hc:d.length<cur.length:=by omega
 have e:(cur.set d.length s).take (d.length+1)=cur.set d.length s:=List.take_of_length_le (by rw[List.length_set];omega);have f:a.take (d.length+1)=a:=List.take_of_length_le (by omega);have k1:=Hf (x:=s) hc;rw[e] at k1;have k2:=val_take_succ (l:=a) (i:=d.length) (by omega);rw[f] at k2;rw[List.take_length] at h3;rw[k1,k2,Nat.pow_succ];generalize 4294967296^d.length=p at*;generalize a[d.length]=x at*;generalize val (cur.take d.length)=V at*
 grind
end Nt
