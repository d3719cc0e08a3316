/- Texts of this proof, joined. -/
import Derived.Test.YtogjgbmngagimaaGreatDoorM1
import Derived.Laws.MakeOwn
import Derived.OwnWalk
import Derived.Laws.BitsAllLaws
import Derived.Laws.CopyOwn
import Derived.Laws.AppendOwnNone
import Derived.Laws.Tables
set_option linter.all false
set_option maxHeartbeats 8000000
set_option maxRecDepth 100000
namespace Go.Proofs.YtogjgbmngagimaaGreatDoor
open Go.RowKit
def Blk (w:World)(g:Nat)(t:TypeId)(vs:List Value):Prop:=w.heap[g]? =some (.cells vs.toArray t (0,0))
theorem Blk.lt {w:World}{g:Nat}{t:TypeId}{vs:List Value}(h:Blk w g t vs):g<w.heap.size:=by
 rcases Nat.lt_or_ge g w.heap.size with hl |hl
 ·exact hl
 unfold Blk at h;rw[Array.getElem?_eq_none hl] at h;cases h
theorem Blk.cell {w:World}{g:Nat}{t:TypeId}{vs:List Value}(h:Blk w g t vs){i:Nat}{v:Value}(hi:vs[i]? =some v):w.cell? ⟨g,i,none⟩=some v:=by
 rw[cell_of_row w g i vs.toArray t (0,0) h];simpa using hi
theorem Blk.frozen {w:World}{g:Nat}{t:TypeId}{vs:List Value}(h:Blk w g t vs)(i:Nat):w.frozen? ⟨g,i,none⟩=false:=by
 unfold Blk at h;simp[World.frozen?,h]
theorem Blk.set_ {w:World}{g:Nat}{t:TypeId}{vs:List Value}(h:Blk w g t vs)(i:Nat)(v:Value):Blk (w.setCell ⟨g,i,none⟩ v) g t (vs.set i v):=by
 unfold Blk at h⊢;simp[World.setCell,Array.getElem?_modify,h]
theorem Blk.drewN {w:World}{g:Nat}{t:TypeId}{vs:List Value}(h:Blk w g t vs)(n:Nat):Blk (w.drewN n) g t vs:=h
theorem Blk.keep {w w':World}{g B:Nat}{t:TypeId}{vs:List Value}(h:Blk w g t vs)(hb:Below B w w')(hg:g<B):Blk w' g t vs:=(hb.block g hg).trans h
theorem Blk.new (w:World)(t:TypeId)(vs:List Value):Blk (w.alloc (.cells vs.toArray t)) w.heap.size t vs:=heap_alloc_new w _
theorem Blk.alloc {w:World}{g:Nat}{t:TypeId}{vs:List Value}(h:Blk w g t vs)(o:Obj):Blk (w.alloc o) g t vs:=(Below.heap_alloc w o g h.lt).trans h
theorem Blk.far {w:World}{g:Nat}{t:TypeId}{vs:List Value}(h:Blk w g t vs){p:Addr}(hp:g≠p.block)(v:Value):Blk (w.setCell p v) g t vs:=(Below.heap_setCell w p v g hp).trans h
theorem Blk.own {w:World}{g base n:Nat}{t:TypeId}{vs:List Value}(h:Blk w g t vs)(hb:base<=g)(hn:n<=vs.length)(hm:vs.length<=maxLen):w.ownsRow base t 1 (.slice (some ⟨g,0,none⟩) n vs.length) n (vs.take n):=
 ⟨by simp;omega,.inr ⟨g,vs.length,vs.toArray,rfl,hb,h,hn,hm,by simp,by simp⟩⟩
theorem Blk.own_all {w:World}{g base:Nat}{t:TypeId}{vs:List Value}(h:Blk w g t vs)(hb:base<=g)(hm:vs.length<=maxLen):w.ownsRow base t 1 (.slice (some ⟨g,0,none⟩) vs.length vs.length) vs.length vs:=by
 have:=h.own (n:=vs.length) hb Lr hm;rwa[List.take_length] at this
theorem Blk.lies {w:World}{g:Nat}{t:TypeId}{vs:List Value}(h:Blk w g t vs):Lies w w.heap.size (some ⟨g,0,none⟩) vs:=
 .inr ⟨g,0,rfl,h.lt,λi v hv=>by rw[Nat.zero_add];exact h.cell hv⟩
theorem Fy {w:World}{base n:Nat}{t:TypeId}{v:Value}{xs:List Value}(h:w.ownsRow base t 1 v n xs)(hn:0<n):∃g vs,v= .slice (some ⟨g,0,none⟩) n vs.length/\base<=g/\Blk w g t vs/\vs.take n=xs/\n<=vs.length/\vs.length<=maxLen:=by
 rcases h.2 with⟨_,h0⟩ |⟨g,cap,cur,hv,hb,hh,h1,h2,h3,h4⟩
 ·omega
 rw[Nat.mul_one] at h3 h4;have hl:cur.toList.length=cap:=by simpa using h3
 exact⟨g,cur.toList,by rw[hl];exact hv,hb,by unfold Blk;simpa using hh,h4,by omega,by omega⟩
theorem Gr (z:Value)(n:Nat):(madeCells #[z] n).toList=List.replicate n z:=by
 apply List.ext_getElem?
 intro i;simp only[madeCells,Array.toList_map,Array.toList_range,List.getElem?_map,List.getElem?_replicate];by_cases h:i<n
 ·simp[h,Nat.mod_one]
 simp[h]
theorem Hb {P:Program}(w:World){ops:Array Oper}{rest:List Oper}{o:Oper}{a:Act}{Q:Exit->Act->World->Prop}
 (hg:o.guard=none) (l c:Operand) (t:TypeId) (hop:o.op=Op.makeSlice t l c)
 (e:TypeId) (i:TypeInfo) (z:Value) (h1:P.underlying t=some (.slice e)) (h2:P.info? e=some i) (h3:i.zero=some z) (h4:i.size=1) (hz:z.cells= #[z])
 (kl kc:IntKind) (L C:Int) (n m:Nat) (hl:a.eval l= .int kl L) (hc:a.eval c= .int kc C) (hL:L=(n:Int)) (hC:C=(m:Int)) (hnm:n<=m) (b2:i.bytes*m<=281474976710656) (b3:m<=9223372036854775807)
 (B:Nat) (w0:World) (hb:Below B w0 w) (hB:B<=w.heap.size)
 (hK:∀w',Blk w' w.heap.size e (List.replicate m z)->Below B w0 w'->Below w.heap.size w w'->w.heap.size<w'.heap.size->wpList P ops Q rest (a.put o.dst (.slice (some ⟨w.heap.size,0,none⟩) n m)) w'):
 wpList P ops Q (o::rest) a w:=by
 refine wpList_plain hg λK hK'=>?_;subst hL hC;have hrun:=run_make (P:=P) w t e i z h1 h2 h3 kl kc n m (by omega) (by omega) (by rw[<-Int.natCast_mul];omega) (by omega);simp only[Int.toNat_natCast,h4,Nat.mul_one,hz] at hrun;unfold Oper.wp;simp[execOp,hop,hl,hc,hrun,Result.andThen];refine hK' _ _ (hK _ ?_ (hb.alloc hB _) (Br.alloc Lr _) (by simp));rw[show madeCells #[z] m=(List.replicate m z).toArray from Array.toList_inj.1 (by rw[Gr])];exact Blk.new w e (List.replicate m z)
theorem We {a w:World}{g:Nat}(h:a.grownBy w (some g))(i:Nat)(v:Value):a.grownBy (w.setCell ⟨g,i,none⟩ v) (some g):=
 ⟨h.os,h.tape,h.output,by simpa [World.setCell] using h.size,λk hk hne=>(Below.heap_setCell w ⟨g,i,none⟩ v k (λe=>hne (by rw[e]))).trans (h.block k hk hne)⟩
theorem Blk.grown {w w':World}{g:Nat}{t:TypeId}{vs:List Value}{row:Option Nat}(h:Blk w g t vs)(hg:w.grownBy w' row)(hne:some g≠row):Blk w' g t vs:=(hg.block g h.lt hne).trans h
theorem Lies.grown {w w':World}{B:Nat}{A:Option Addr}{vs:List Value}{row:Option Nat}(h:Lies w B A vs)(hB:B<=w.heap.size)(hg:w.grownBy w' row)(hr:∀g,row=some g->B<=g):Lies w' B A vs:=
 h.keep λp hp=>World.cell?_of_block (hg.block p.block (by omega) (λe=>by have:=hr _ e.symm;omega))
theorem G0 (x y c:Nat)(w:World)(hx:x<4294967296)(hy:y<4294967296)(hc:c<=1):
 Calls Tryz.prog 341 #[.int .u32 (x:Int),.int .u32 (y:Int),.int .u32 (c:Int)] w λe w'=>∃s d:Nat,e= .returned (.tuple #[.int .u32 (s:Int),.int .u32 (d:Int)])/\s<4294967296/\d<=1/\Hid (x+y+c=s+4294967296*d)/\w=w':=by
 go_enter Tryz.func341,Tryz.ntmps341
 go_wp2_with fail
 go_ret2
 exact⟨(x+y+c)%4294967296,(x+y+c)/4294967296,Dx (congrArg (Value.int .u32) (by omega)) (congrArg (Value.int .u32) (by omega)),by omega,by omega,Qd (by omega),rfl⟩
theorem top_bit {n:Nat}(h:n<4294967296):n/2147483648=if n.testBit 31 then 1 else 0:=by
 rw[Nat.testBit_eq_decide_div_mod_eq];rw[show(2:Nat)^31=2147483648 from rfl];by_cases e:n/2147483648%2=1
 ·rw[if_pos (by simpa using e)];omega
 rw[if_neg (by simpa using e)];omega
theorem Ms {n:Nat}(h:n<4294967296):n.testBit 31=decide (2147483648<=n):=by
 rw[Nat.testBit_eq_decide_div_mod_eq];rw[show(2:Nat)^31=2147483648 from rfl];by_cases e:2147483648<=n
 ·rw[decide_eq_true e,decide_eq_true (by omega)]
 rw[decide_eq_false e,decide_eq_false (by omega)]
theorem Gy (x y c:Nat)(hx:x<4294967296)(hy:y<4294967296)(hc:c<=1):
 (bits BinOp.or IntKind.u32 (bits BinOp.and IntKind.u32 (bits BinOp.xor IntKind.u32 IntKind.u32.max ↑x) ↑y) (bits BinOp.and IntKind.u32 (bits BinOp.xor IntKind.u32 IntKind.u32.max (bits BinOp.xor IntKind.u32 ↑x ↑y)) ((↑x- ↑y- ↑c)%4294967296)))/2147483648=((if x<y+c then 1 else 0:Nat):Int):=by
 obtain⟨d,hd⟩:∃d:Nat,(((x:Int)-y-c)%4294967296)=(d:Int):=⟨(((x:Int)-y-c)%4294967296).toNat,by omega⟩;have hdl:d<4294967296:=by omega
 rw[hd];have m:(IntKind.u32.max:Int)=((4294967295:Nat):Int):=by decide
 have l1:4294967295^^^x<4294967296:=Nat.xor_lt_two_pow (n:=32) (by omega) hx;have l2:x^^^y<4294967296:=Nat.xor_lt_two_pow (n:=32) hx hy;have l3:4294967295^^^(x^^^y)<4294967296:=Nat.xor_lt_two_pow (n:=32) (by omega) l2;have l4:(4294967295^^^x)&&&y<4294967296:=Nat.and_lt_two_pow (n:=32) _ hy;have l5:(4294967295^^^(x^^^y))&&&d<4294967296:=Nat.and_lt_two_pow (n:=32) _ hdl;have l6:((4294967295^^^x)&&&y)|||((4294967295^^^(x^^^y))&&&d)<4294967296:=Nat.or_lt_two_pow (n:=32) l4 l5
 rw[m,u32_xor_nat _ _ (by omega) hx,u32_xor_nat _ _ hx hy,u32_xor_nat _ _ (by omega) l2,u32_and_nat _ _ l1 hy,u32_and_nat _ _ l3 hdl,u32_or_nat _ _ l4 l5];have hm:(4294967295:Nat).testBit 31=true:=by decide
 have key:=top_bit l6;rw[Nat.testBit_or,Nat.testBit_and,Nat.testBit_and,Nat.testBit_xor,Nat.testBit_xor,Nat.testBit_xor,hm,Ms hx,Ms hy,Ms hdl] at key;have e:((((4294967295^^^x)&&&y)|||((4294967295^^^(x^^^y))&&&d))/2147483648:Nat)=if x<y+c then 1 else 0:=by
  rw[key];by_cases h1:2147483648<=x<;>by_cases h2:2147483648<=y<;>by_cases h3:2147483648<=d<;>by_cases h4:x<y+c<;>simp[h1,h2,h3,h4]<;>omega
 rw[<-e];generalize((4294967295^^^x)&&&y)|||((4294967295^^^(x^^^y))&&&d)=z
 omega
theorem Rp (x y c:Nat)(w:World)(hx:x<4294967296)(hy:y<4294967296)(hc:c<=1):
 Calls Tryz.prog 340 #[.int .u32 (x:Int),.int .u32 (y:Int),.int .u32 (c:Int)] w λe w'=>∃s d:Nat,e= .returned (.tuple #[.int .u32 (s:Int),.int .u32 (d:Int)])/\s<4294967296/\d<=1/\Hid (x+4294967296*d=s+y+c)/\w=w':=by
 have HB:=Qd (Gy x y c hx hy hc);go_enter Tryz.func340,Tryz.ntmps340
 go_wp2_with fail
 go_ret2
 refine⟨(((x:Int)-y-c)%4294967296).toNat,if x<y+c then 1 else 0,Dx (congrArg (Value.int .u32) (by omega)) (congrArg (Value.int .u32) HB.out),by omega,by split<;>omega,Qd ?_,rfl⟩
 split<;>omega
theorem Ob:(Tryz.prog.info? 186).map (λi=>(i.zero,i.size,i.bytes))=some (some (.int .u32 0),1,4):=by kernel_rfl
theorem N5:(Tryz.prog.info? 186).map (·.size)=some 1:=by kernel_rfl
theorem Hy (l:List Nat):∀v∈U l,v.oneCell'=true:=by
 intro v hv;obtain⟨n,_,rfl⟩:=List.mem_map.1 hv;rfl
theorem Hh (l:List Nat)(n:Nat):(U l).take n=U (l.take n):=List.map_take.symm
theorem Lies.digs {w:World}{B:Nat}{A:Option Addr}{l:List Nat}(h:Lies w B A (U l))(ho:Nt.Ok l):Lies w B A (U (Nt.digs (Nt.val l))):=by
 have:=h.take (Nt.digs (Nt.val l)).length;rw[Hh,Nt.take_digs ho] at this;exact this
theorem Lies.src {w:World}{B:Nat}{A:Option Addr}{vs:List Value}(h:Lies w B A vs)(hp:0<vs.length):∃ad,A=some ad/\∀(j:Nat) (v:Value),vs[j]? =some v->w.cell? (ad.add j)=some v:=by
 rcases h with h |⟨b,off,hA,_,hc⟩
 ·subst h;simp at hp
 refine⟨⟨b,off,none⟩,hA,λj v hv=>?_⟩;have:=hc j v hv;unfold Addr.add
 split
 ·rename_i e;subst e;simpa using this
 exact this
theorem Iy {w:World}{ops:Array Oper}{rest:List Oper}{o:Oper}{a:Act}{Q:Exit->Act->World->Prop}(hgd:o.guard=none)(d s:Operand)
 (ho:o.op= .call {callee:= .builtin .copy,args:= #[d,s],argTypes:= #[83,83]})
 (A:Option Addr) (dCap sCap g:Nat) (ds:List Nat) (hd:a.eval d= .slice (some ⟨g,0,none⟩) ds.length dCap) (hs:a.eval s= .slice A ds.length sCap)
 (cur:List Value) (hg:Blk w g 186 cur) (hfit:ds.length<=cur.length) (B0:Nat) (hsrc:Lies w B0 A (U ds)) (B:Nat) (w0:World) (hb:Below B w0 w) (hBg:B<=g)
 (h:∀w',Blk w' g 186 (U ds++cur.drop ds.length)->Below B w0 w'->wpList Tryz.prog ops Q rest (a.put o.dst (goInt ds.length)) w'):
 wpList Tryz.prog ops Q (o::rest) a w:=by
 refine wpList_copy_splice hgd d s _ _ ho 186 Tryz.underlying83 N5 _ _ _ _ _ _ hd hs g 0 cur 186 hg (U ds) (by simp[U]) (λhp=>⟨rfl,hsrc.src hp⟩) (by simp[U];omega) (Hy ds) B w0 hb hBg ?_;intro w' hw' hb';rw[Dc];refine h w' ?_ hb';have:=hw'.out;unfold Blk;rw[this];simp[splice,Dc]
theorem Pd (A:Option Addr)(c B:Nat)(l:List Nat)(w:World)(hl:Lies w B A (U l))(hB:B<=w.heap.size)(ho:Nt.Ok l)(hc:l.length<=c)(hm:c<=9223372036854775807)(hs:l.length<=70368744177664):
 Calls Tryz.prog 163 #[.slice A l.length c] w λe w'=>e= .returned (.slice (some ⟨w.heap.size,0,none⟩) (Nt.digs (Nt.val l)).length (Nt.digs (Nt.val l)).length)/\Blk w' w.heap.size 186 (U (Nt.digs (Nt.val l)))/\Below w.heap.size w w':=by
 obtain⟨i0,hi,hz0,hz1,hz2⟩:=info_parts Ob;have hd:=Nt.digs_len_le ho;have HT:=Qd (Wb A c B l w hl ho hc hm);have HL:=Qd ((hl.digs ho).more hB);clear hl;generalize Nt.digs (Nt.val l)=ds at*;go_enter Tryz.func163,Tryz.ntmps163
 go_wp2_with fail
 refine HT.out.mono ?_;rintro e w' ⟨rfl,rfl⟩;go_wp2_with (first
  |(at_make;refine Hb _ rfl _ _ 83 rfl 186 i0 (.int .u32 0) Tryz.underlying83 hi hz0 hz1 rfl .i64 .i64 _ _ ds.length ds.length rfl rfl rfl rfl Lr (by rw[hz2];omega) (by omega) w.heap.size w Br Lr ?_;intro w1 hblk1 hb1 hb1' hlt1)
  |(refine Iy (by rfl) (.tmp 9) (.tmp 10) (by rfl) A ds.length ds.length w.heap.size ds (by rfl) (by rfl) _ hblk1 (by simp) w.heap.size (HL.out.below hb1) w.heap.size w hb1 Lr ?_;intro w2 hblk2 hb2))
 go_ret;rw[List.drop_eq_nil_of_le (by simp),List.append_nil] at hblk2;exact⟨rfl,hblk2,hb2⟩
theorem Tp {s:List UInt8}{k:Nat}(hl:k<=Dg.lead s)(h:k<s.length)(hd:Dg.dB s[k]=true):k+1<=Dg.lead s:=by
 rcases Nat.lt_or_ge k (Dg.lead s) with h1 |h1
 ·omega
 have e:Dg.lead s=k:=by omega
 have:=Dg.lead_not (s:=s) (by omega);simp only[e] at this;rw[hd] at this;cases this
theorem Up {s:List UInt8}{k:Nat}(hl:k<=Dg.lead s)(h:k<s.length)(hd:Dg.dB s[k]=false):Dg.lead s=k:=by
 rcases Nat.lt_or_ge k (Dg.lead s) with h1 |h1
 ·obtain⟨h2,h3⟩:=Dg.lead_dig h1
  rw[hd] at h3;cases h3
 omega
theorem I0 {b:UInt8}{y:Nat}(h:y=b.toNat):Dg.dB b=decide (48<=y/\y<=57):=by unfold Dg.dB;rw[h]
theorem Uk (s:List UInt8)(w:World)(hs:s.length<=1000000):
 Calls Tryz.prog 179 #[.string ⟨s.toArray⟩] w λe w'=>e= .returned (.int .i64 (Dg.lead s:Int))/\w=w':=by
 have hsz:(⟨s.toArray⟩:ByteArray).size=s.length:=rfl;have HSZ:=Qd hsz;go_enter Tryz.func179,Tryz.ntmps179
 go_wp2
 go_loop [3] (λi=>∃k:Nat,k<=s.length/\i= .int .i64 (k:Int)/\Hid (k<=Dg.lead s)) (λi=>s.length-(intOf i).toNat)
 case atStart=>exact⟨0,Nat.zero_le _,rfl,Qd (Nat.zero_le _)⟩
 case round=>
  obtain⟨k,hk,rfl,H⟩:=hrel;by_cases hlt:k<s.length
  ·obtain⟨y,hy⟩:∃y,y=s[k].toNat:=⟨_,rfl⟩
   have hgy:((⟨s.toArray⟩:ByteArray)[k]'(show k<(⟨s.toArray⟩:ByteArray).size from hlt)).toNat=y:=hy.symm;have HD:=Qd (I0 hy);have H1:=Qd (λh=>Tp H.out hlt h);have H2:=Qd (λh=>Up H.out hlt h);clear hy;by_cases h1:48<=y
   ·by_cases h2:y<=57
    ·go_wp2
     go_round
     case rel=>exact⟨k+1,by omega,by go_num,Qd (H1.out (by rw[HD.out];exact decide_eq_true ⟨h1,h2⟩))⟩
     case measure=>simp[intOf];omega
    go_wp2
    go_ret;exact⟨Wa (by rw[H2.out (by rw[HD.out];exact decide_eq_false (by omega))]),rfl⟩
   go_wp2
   go_ret;exact⟨Wa (by rw[H2.out (by rw[HD.out];exact decide_eq_false (by omega))]),rfl⟩
  have e:k=s.length:=by omega
  have HE:=Qd (show Dg.lead s=k by have:=Dg.lead_le s;have:=H.out;omega);clear e;go_wp2
  go_ret;exact⟨Wa (by rw[HE.out]),rfl⟩
theorem Ns {s:List UInt8}{a k:Nat}(h:a+k<s.length):(s.drop a)[k]'(by rw[List.length_drop];omega)=s[a+k]:=by rw[List.getElem_drop]
theorem Gi (s:List UInt8)(a:Nat)(w:World)(hs:s.length<=1000000)(ha:a<=s.length):
 Calls Tryz.prog 183 #[.string ⟨s.toArray⟩,.int .i64 (a:Int)] w λe w'=>e= .returned (.int .i64 (Dg.lead (s.drop a):Int))/\w=w':=by
 have hsz:(⟨s.toArray⟩:ByteArray).size=s.length:=rfl;have HSZ:=Qd hsz;go_enter Tryz.func183,Tryz.ntmps183
 go_wp2
 go_loop [5] (λi=>∃k:Nat,a+k<=s.length/\i= .int .i64 (k:Int)/\Hid (k<=Dg.lead (s.drop a))) (λi=>s.length-(intOf i).toNat)
 case atStart=>exact⟨0,ha,rfl,Qd (Nat.zero_le _)⟩
 case round=>
  obtain⟨k,hk,rfl,H⟩:=hrel;by_cases hlt:a+k<s.length
  ·obtain⟨y,hy⟩:∃y,y=s[a+k].toNat:=⟨_,rfl⟩
   have hgy:((⟨s.toArray⟩:ByteArray)[a+k]'(show a+k<(⟨s.toArray⟩:ByteArray).size from hlt)).toNat=y:=hy.symm;have hld:k<(s.drop a).length:=by rw[List.length_drop];omega
   have hy2:y=((s.drop a)[k]).toNat:=by rw[Ns hlt];exact hy
   have HD:=Qd (I0 hy2);have H1:=Qd (λh=>Tp H.out hld h);have H2:=Qd (λh=>Up H.out hld h);clear hy hy2;by_cases h1:48<=y
   ·by_cases h2:y<=57
    ·go_wp2
     go_round
     case rel=>exact⟨k+1,by omega,by go_num,Qd (H1.out (by rw[HD.out];exact decide_eq_true ⟨h1,h2⟩))⟩
     case measure=>simp[intOf];omega
    go_wp2
    go_ret;exact⟨Wa (by rw[H2.out (by rw[HD.out];exact decide_eq_false (by omega))]),rfl⟩
   go_wp2
   go_ret;exact⟨Wa (by rw[H2.out (by rw[HD.out];exact decide_eq_false (by omega))]),rfl⟩
  have HE:=Qd (show Dg.lead (s.drop a)=k by have:=Dg.lead_le (s.drop a);have:=H.out;rw[List.length_drop] at*;omega);go_wp2
  go_ret;exact⟨Wa (by rw[HE.out]),rfl⟩
end Go.Proofs.YtogjgbmngagimaaGreatDoor
namespace Nt
def LenAt (l:List Nat)(b m:Nat)(cur:List Nat)(k c:Nat):Prop:=
 cur.length=l.length/\Ok cur/\c<4294967296/\cur.drop k=l.drop k/\val (cur.take k)+c*4294967296^k=val (l.take k)*b+m
theorem len_start {l:List Nat}{b m:Nat}(h:Ok l)(hm:m<4294967296):LenAt l b m l 0 m:=⟨rfl,h,hm,rfl,by simp[val]⟩
theorem len_get {l cur:List Nat}{b m k c:Nat}(h:LenAt l b m cur k c)(hk:k<l.length):cur[k]? =some l[k]:=by
 have:(cur.drop k)[0]? =(l.drop k)[0]? :=by rw[h.2.2.2.1]
 rw[List.getElem?_drop,List.getElem?_drop,Nat.add_zero,List.getElem?_eq_getElem hk] at this;exact this
theorem len_bounds {x b c:Nat}(hx:x<4294967296)(hb:b<4294967296)(hc:c<4294967296):x*b+c<18446744073709551616/\(x*b+c)/4294967296<4294967296/\(x*b+c)%4294967296<4294967296/\x*b<=18446744065119617025:=by
 have:=mul_bound hx hb;omega
theorem len_step {l cur:List Nat}{b m k c:Nat}(h:LenAt l b m cur k c)(hk:k<l.length)(hl:Ok l)(hb:b<4294967296):LenAt l b m (cur.set k ((l[k]*b+c)%4294967296)) (k+1) ((l[k]*b+c)/4294967296):=by
 obtain⟨h1,h2,h3,h4,h5⟩:=h;have hbd:=len_bounds (ok_get hl hk) hb h3;refine⟨by simpa using h1,Ed h2 hbd.2.2.1,hbd.2.1,?_,?_⟩
 ·rw[drop_set]
  have:=congrArg (List.drop 1) h4;rw[List.drop_drop,List.drop_drop] at this;exact this
 rw[Od (by omega),val_take_succ hk,Nat.pow_succ];have e:=Nat.div_add_mod (l[k]*b+c) 4294967296;generalize(l[k]*b+c)/4294967296=q at*;generalize(l[k]*b+c)%4294967296=r at*;generalize 4294967296^k=p at h5⊢;generalize l[k]=x at*
 grind
theorem Hx {x b m c:Nat}{cur:List Nat}(h:LenAt (digs x) b m cur (digs x).length c):val cur+c*4294967296^(digs x).length=x*b+m:=by
 obtain⟨h1,h2,h3,h4,h5⟩:=h;rw[List.take_of_length_le (by omega),List.take_of_length_le (by omega),val_digs] at h5;exact h5
theorem len_done0 {x b m:Nat}{cur:List Nat}(h:LenAt (digs x) b m cur (digs x).length 0)(hb:1<=b):digs (x*b+m)=cur:=by
 have e:=Hx h;rw[Nat.zero_mul,Nat.add_zero] at e;rw[<-e];refine Fx h.2.1 λhne=>?_;rw[h.1,e];have hx:x≠0:=by
  rintro rfl;have:=h.1;rw[digs_zero] at this;exact hne (List.eq_nil_of_length_eq_zero this)
 have h1:=digs_ge hx;have h2:x*1<=x*b:=Nat.mul_le_mul_left _ hb;omega
theorem len_done1 {x b m c:Nat}{cur:List Nat}(h:LenAt (digs x) b m cur (digs x).length c)(hc:c≠0):digs (x*b+m)=cur++[c]:=by
 have e:=Hx h;have hv:val (cur++[c])=x*b+m:=by
  rw[Db,h.1,<-e];simp[val,Nat.mul_comm]
 rw[<-hv];refine Fx (λd hd=>?_) λ_=>?_
 ·rcases List.mem_append.1 hd with h3 |h3
  ·exact h.2.1 d h3
  simp at h3;subst h3;exact h.2.2.1
 rw[hv,List.length_append,List.length_singleton,Nat.add_sub_cancel,h.1,<-e];have:1*4294967296^(digs x).length<=c*4294967296^(digs x).length:=Nat.mul_le_mul_right _ (by omega);omega
end Nt
namespace Go.Proofs.YtogjgbmngagimaaGreatDoor
open Go.RowKit
def IsRes (w:World)(v:Value)(ds:List Nat):Prop:=∃A c,v= .slice A ds.length c/\ds.length<=c/\c<=9223372036854775807/\(A=none->c=0)/\Lies w w.heap.size A (U ds)
theorem IsRes.of_own {w:World}{base:Nat}{v:Value}{ds:List Nat}(h:w.ownsRow base 186 1 v ds.length (U ds)):IsRes w v ds:=by
 obtain⟨A,c,rfl,h1,h2⟩:=Sa h;refine⟨A,c,rfl,h1,h2,?_,Lies.of_own h⟩;rintro rfl;rcases h.2 with⟨hv,_⟩ |⟨g,cap,cur,hv,_⟩
 ·injection hv
 injection hv with e;cases e
theorem IsRes.none_ (w:World):IsRes w (.slice none 0 0) []:=⟨none,0,rfl,Lr,by omega,λ_=>rfl,.inl rfl⟩
theorem IsRes.below {w w':World}{v:Value}{ds:List Nat}(h:IsRes w v ds)(hb:Below w.heap.size w w'):IsRes w' v ds:=by
 obtain⟨A,c,h1,h2,h3,h4,h5⟩:=h;exact⟨A,c,h1,h2,h3,h4,(h5.below hb).more hb.size⟩
theorem Fd (A:Option Addr)(c B:Nat)(l:List Nat)(w:World)(hl:Lies w B A (U l))(hB:B<=w.heap.size)(ho:Nt.Ok l)(hc:l.length<=c)(hm:c<=9223372036854775807)(hA:A=none->c=0)(hs:l.length<=17592186044416):
 Calls Tryz.prog 130 #[.slice A l.length c] w λe w'=>∃v,e= .returned v/\IsRes w' v (Nt.digs (Nt.val l))/\Below w.heap.size w w':=by
 obtain⟨i0,hi,hz0,hz1,hz2⟩:=info_parts Ob;have HL:=Qd hl;have HO:=Qd ho;have HA:=Qd hA;clear hl ho hA;go_enter Tryz.func130,Tryz.ntmps130
 go_wp2_with fail
 go_loop [3] (λi=>∃n:Nat,n<=l.length/\i= .int .i64 (n:Int)/\Hid (∀j (hj:j<l.length),n<=j->l[j]=0)) (λi=>(intOf i).toNat)
 case atStart=>exact⟨l.length,Lr,rfl,Qd (λj hj h=>absurd hj (by omega))⟩
 case round=>
  obtain⟨n,hn,rfl,H⟩:=hrel;by_cases h0:0<n
  ·obtain⟨b,off,rfl,hbb,hcell⟩:=HL.out.limb (k:=n-1) (by omega)
   generalize hx:l[n-1]'(by omega)=x at hcell;have HX:=Qd hx;have hxb:x<4294967296:=by rw[<-hx];exact Nt.ok_get HO.out (by omega)
   clear hx;have hpos:(0:Int)<(n:Int):=by omega
   by_cases hz:x=0
   ·subst hz
    go_wp2_with fail
    go_round
    case rel=>
     refine⟨n-1,by omega,by go_num,Qd (λj hj h=>?_)⟩;by_cases e:j=n-1
     ·subst e;exact HX.out
     exact H.out j hj (by omega)
    case measure=>simp[intOf];omega
   have hne:((x:Int)==0)=false:=by simp;omega
   have HE:Hid (Nt.digs (Nt.val l)=l.take n):=Qd (Nt.take_eq_digs HO.out hn H.out (λ_=>by rw[HX.out];exact hz)).symm;have HLT:Hid ((l.take n).length=n):=Qd (by rw[List.length_take];exact Nat.min_eq_left hn);have HLT2:=Qd (HL.out.take n);clear hz;go_wp2_with (at_builtin;refine wpList_append_own _ rfl _ _ 83 rfl w.heap.size 186 i0 (.int .u32 0) 1 4 Tryz.underlying83 hi hz0 hz1 hz2 rfl (by decide) (.slice none 0 0) 0 [] rfl (World.ownsRow_nil _ _ _ _) ⟨b,off,none⟩ n c (U (l.take n)) rfl (by rw[Dc,HLT.out];omega) (λj v hv=>by rw[<-Hh] at hv;obtain⟨ad,h1,h2⟩:=HLT2.out.src (by rw[Hh,Dc,HLT.out];exact h0);injection h1 with h1;subst h1;exact h2 j v hv) (Hy _) (by unfold maxLen;omega) (by omega) Lr ?_;intro v1 w1 hown1 hgrow1 hnn1)
   go_ret;refine⟨_,rfl,?_,Br.grown hgrow1 Lr (by simp[Value.ownBlock])⟩;rw[HE.out];refine IsRes.of_own (base:=w.heap.size) ?_;rw[HLT.out]
   simpa using hown1
  obtain rfl:n=0:=by omega
  have HE:Hid (Nt.digs (Nt.val l)=[]):=Qd (by
   have:=Nt.take_eq_digs HO.out hn H.out (λh=>absurd h (by omega));rw[<-this];simp)
  rcases A with _ |ad
  ·have hc0:c=0:=HA.out rfl
   subst hc0;go_wp2_with (at_builtin;refine wpList_append_own_none rfl _ _ 83 rfl w.heap.size 186 i0 1 Tryz.underlying83 hi (.slice none 0 0) 0 [] rfl (World.ownsRow_nil _ _ _ _) rfl ?_)
   go_ret;exact⟨_,rfl,by rw[HE.out];exact IsRes.none_ _,Br⟩
  go_wp2_with (at_builtin;refine wpList_append_own _ rfl _ _ 83 rfl w.heap.size 186 i0 (.int .u32 0) 1 4 Tryz.underlying83 hi hz0 hz1 hz2 rfl (by decide) (.slice none 0 0) 0 [] rfl (World.ownsRow_nil _ _ _ _) ad 0 c [] rfl (by rfl) (λj v hv=>by simp at hv) (by intro u hu;cases hu) (by unfold maxLen;omega) (by omega) Lr ?_;intro v1 w1 hown1 hgrow1 hnn1)
  go_ret;refine⟨_,rfl,?_,Br.grown hgrow1 Lr (by simp[Value.ownBlock])⟩;rw[HE.out];exact IsRes.of_own (base:=w.heap.size) hown1
theorem J0 {w:World}{base n C k:Nat}{t:TypeId}{A:Option Addr}{xs:List Value}(h:w.ownsRow base t 1 (.slice A n C) n xs)(hk:k<n):
 ∃g,A=some ⟨g,0,none⟩/\base<=g/\w.cell? ⟨g,k,none⟩=xs[k]? /\w.frozen? ⟨g,k,none⟩=false/\∀x,(w.setCell ⟨g,k,none⟩ x).ownsRow base t 1 (.slice A n C) n (xs.set k x):=by
 obtain⟨g,vs,hv,hb,hblk,ht,h1,h2⟩:=Fy h (by omega);injection hv with e1 _ e2
 subst e1 e2;refine⟨g,rfl,hb,?_,hblk.frozen k,λx=>?_⟩
 ·rw[<-ht,List.getElem?_take,if_pos hk]
  have hk':k<vs.length:=by omega
  rw[List.getElem?_eq_getElem hk'];exact hblk.cell (List.getElem?_eq_getElem hk')
 have:=(hblk.set_ k x).own (base:=base) (n:=n) hb (by rw[List.length_set];exact h1) (by rw[List.length_set];exact h2);rw[List.length_set,List.take_set,ht] at this;exact this
theorem Ps (base:Nat)(v:Value)(x b m:Nat)(w:World)(hown:w.ownsRow base 186 1 v (Nt.digs x).length (U (Nt.digs x)))(hB:base<=w.heap.size)(hl:(Nt.digs x).length<=1000000)(hb1:1<=b)(hb:b<4294967296)(hm:m<4294967296):
 Calls Tryz.prog 289 #[v,.int .u32 (b:Int),.int .u32 (m:Int)] w λe w'=>∃v',e= .returned v'/\w'.ownsRow base 186 1 v' (Nt.digs (x*b+m)).length (U (Nt.digs (x*b+m)))/\Below base w w':=by
 obtain⟨i0,hi,hz0,hz1,hz2⟩:=info_parts Ob;have OX:=Qd (Nt.ok_digs x);have D0:Hid (∀cur,Nt.LenAt (Nt.digs x) b m cur (Nt.digs x).length 0->Nt.digs (x*b+m)=cur):=Qd (λcur h=>Nt.len_done0 h hb1);have D1:Hid (∀cur c,Nt.LenAt (Nt.digs x) b m cur (Nt.digs x).length c->c≠0->Nt.digs (x*b+m)=cur++[c]):=Qd (λcur c h hc=>Nt.len_done1 h hc);generalize Nt.digs (x*b+m)=dz at*;generalize Nt.digs x=dx at*;obtain⟨A,C,rfl,hC1,hC2⟩:=Sa hown;go_enter Tryz.func289,Tryz.ntmps289
 go_wp2_with fail
 go_loopw [7,15] (λcv i wr=>∃(k c:Nat) (cur:List Nat),k<=dx.length/\c<4294967296/\i= .int .i64 (k:Int)/\cv= .int .u64 (c:Int)/\wr.ownsRow base 186 1 (.slice A dx.length C) dx.length (U cur)/\Below base w wr/\Hid (Nt.LenAt dx b m cur k c)) (λ_ i _=>dx.length-(intOf i).toNat)
 case atStart=>exact⟨0,m,dx,Nat.zero_le _,hm,rfl,rfl,hown,Br,Qd (Nt.len_start OX.out hm)⟩
 case round=>
  clear hown;obtain⟨k,c,cur,hk,hc,rfl,rfl,hown,hbel,H⟩:=hrel;have hsz:=hbel.size;by_cases hlt:k<dx.length
  ·obtain⟨g,rfl,hgb,hcell,hfz,hset⟩:=J0 hown hlt
   have hget:=Nt.len_get H.out hlt;rw[U,List.getElem?_map,hget,Option.map_some] at hcell;have hxb:=Nt.ok_get OX.out hlt;have ST:=Qd (Nt.len_step H.out hlt OX.out hb);have BD:=Nt.len_bounds hxb hb hc;have HSET:Hid (∀s:Nat,(wr.setCell ⟨g,k,none⟩ (.int .u32 (s:Int))).ownsRow base 186 1 (.slice (some ⟨g,0,none⟩) dx.length C) dx.length (U (cur.set k s))):=Qd (λs=>by
    have:=hset (.int .u32 (s:Int));rw[show(U cur).set k (.int .u32 (s:Int))=U (cur.set k s) from List.map_set.symm] at this;exact this)
   have HB2:Hid (∀s,Below base w (wr.setCell ⟨g,k,none⟩ s)):=Qd (λs=>hbel.setCell hgb _);clear hset hget hown;generalize dx[k]=y at*;obtain⟨p,hp⟩:∃p,p=y*b:=⟨_,rfl⟩;have hpi:(y:Int)*(b:Int)=(p:Int):=by rw[hp,Int.natCast_mul]
   rw[<-hp] at ST BD;obtain⟨ht1,ht2,ht3,ht4⟩:=BD;clear hp;go_wp2_with fail
   exact⟨⟨k+1,(p+c)/4294967296,cur.set k ((p+c)%4294967296),by omega,ht2,by go_num,congrArg (Value.int .u64) (by omega),HSET.out _,HB2.out _,ST⟩,by simp[intOf];omega⟩
  obtain rfl:k=dx.length:=by omega
  have hcl:Hid (cur.length=dx.length):=Qd H.out.1;by_cases hc0:c=0
  ·subst hc0
   have HE:=Qd (D0.out cur H.out);go_wp2_with fail
   go_ret;refine⟨_,rfl,?_,hbel⟩;rw[HE.out,hcl.out];exact hown
  have HE:=Qd (D1.out cur c H.out hc0);have hc1:((c:Int)!=0)=true:=by simp;omega
  go_wp2_with (at_builtin;refine wpList_append_own _ rfl _ _ 83 rfl base 186 i0 (.int .u32 0) 1 4 Tryz.underlying83 hi hz0 hz1 hz2 rfl (by decide) _ _ _ rfl (hown.alloc _) ⟨_,0,none⟩ 1 1 [.int .u32 (c:Int)] rfl rfl (cell_one_new _ _ _) (by intro u hu;simp only[List.mem_singleton] at hu;subst hu;rfl) (by unfold maxLen;omega) (by omega) (by simp;omega) ?_;intro v3 w3 hown3 hgrow3 hnn3)
  have hb3:Below base w w3:=(hbel.alloc (by omega) _).grown hgrow3 (by simp;omega) (λk hk=>(hown.lt k hk).1);go_ret;refine⟨_,rfl,?_,hb3⟩;rw[HE.out,List.length_append,hcl.out]
  simpa [U] using hown3
structure Later (w0:World) where
 w:World
 b:Below w0.heap.size w0 w
instance Later.nonempty (w0:World):Nonempty (Later w0):=⟨⟨w0,Br⟩⟩
theorem Cg (w0:World){P:Program}{id:Nat}{Q:Exit->Act->World->Prop}{a:Act}{w:World}{l:List Oper}(hm:P.follows .mixedOrders=true)(hB:Region.lexB .any l.toArray=true)(hC:Below w0.heap.size w0 w.drew)
 (h:wpQuiet P l.toArray (λw'=>∃x:Later w0,w'=x.w) (λa'=>∀w',(∃x:Later w0,w'=x.w)->Q .normal a' w') l a):(Code.region id l.toArray true).wp P Q a w:=
 wp_region_quiet (C:=λw'=>∃x:Later w0,w'=x.w) hm hB ⟨⟨_,hC⟩,rfl⟩ (by simpa using h)
theorem Later.call {w0:World}{P:Program}{f:FuncId}{args:Array Value}{x:Later w0}{v:Value}
 (h:Calls P f args x.w λe w'=>e= .returned v/\Below x.w.heap.size x.w w'):Calls P f args x.w λe w''=>e= .returned v/\∃y:Later w0,w''=y.w:=
 h.mono λ_ w' ⟨he,hb⟩=>⟨he,⟨w',x.b.trans (hb.mono x.b.size)⟩,rfl⟩
theorem Below.drew_self (w:World):Below w.heap.size w w.drew:=⟨rfl,rfl,rfl,Lr,λ_ _=>rfl⟩
section
open Go.RowKit
section
variable {P : Program} {ops : Array Oper} {Q : Exit -> Act -> World -> Prop} {md : Region.Mode}
theorem Wc {l:Array Bool}{i:Nat}(h:i∈Region.ready md ops l):i<ops.size/\l.getD i true=false/\((ops[i]?).map (·.after.all λe=> !Region.binds md e||l.getD e.on false)).getD false=true:=by
 simp only[Region.ready,List.mem_filter,List.mem_range,Bool.and_eq_true,Bool.not_eq_true'] at h;exact⟨h.1,h.2.1,h.2.2⟩
theorem Vl {l:Array Bool}(h:l.toList.count false=0)(i:Nat):l.getD i true=true:=by
 rw[List.count_eq_zero] at h;rw[Array.getD_eq_getD_getElem?];cases e:l[i]? with
 |none=>rfl
 |some b=>
  cases b
  ·exact absurd (by have:=Array.mem_of_getElem? e;simpa using this) h
  rfl
theorem Ih:∀(l:List Bool) (i:Nat),l[i]? =some false->(l.set i true).count false+1=l.count false
 | [],i,h=>by simp at h
 |b::r,0,h=>by
  simp at h;subst h;simp
 |b::r,i+1,h=>by
  have:=Ih r i (by simpa using h);cases b<;>simp<;>omega
theorem Xe (I:Array Bool->Act->World->Prop)
 (hI:∀l a w,I l a w->∀i,i∈Region.ready md ops l->wpOp P ops Q i (I (l.setIfInBounds i true)) a w)
 (hd:∀l a w,I l a w->Region.ready md ops l=[]->Q .normal a w):
 ∀n l a w,l.toList.count false<=n->I l a w->wpAny P md ops Q n l a w:=by
 intro n
 induction n with
 |zero=>
  intro l a w hc h;have hr:Region.ready md ops l=[]:=by
   rw[List.eq_nil_iff_forall_not_mem];intro i hi;have:=(Wc hi).2.1;rw[Vl (by omega)] at this;cases this
  exact⟨hr,hd l a w h hr⟩
 |succ n ih=>
  intro l a w hc h;refine⟨hd l a w h,λi hi=>wpOp_mono (λa' w' h'=>ih _ a' w' ?_ h') (hI l a w h i hi)⟩;have h1:=(Wc hi).2.1;rw[Array.getD_eq_getD_getElem?] at h1;have h2:l.toList[i]? =some false:=by
   cases e:l[i]? with
   |none=>rw[e] at h1;cases h1
   |some b=>rw[e] at h1;simp at h1;subst h1;simpa using e
  have h3:=Ih _ _ h2;have h4:(l.setIfInBounds i true).toList=l.toList.set i true:=by simp
  rw[h4];omega
theorem Ca {i:Nat}{o:Oper}{K:Act->World->Prop}{a:Act}{w:World}(h:ops[i]? =some o)(hg:o.guard=none)(hw:o.wp P a w K Q):wpOp P ops Q i K a w:=by
 unfold wpOp;rw[h];have:Region.wanted o (yielded ops a.tmps)=true:=by simp[Region.wanted,hg]
 simp only[this,if_true];exact .inl hw
end
end
section
open Go.RowKit
def La (xs:Nat->Value)(i:Nat)(v:Value):Nat->Value:=λj=>if j=i then v else xs j
section
variable {P : Program} {ops : Array Oper} {Q : Exit -> Act -> World -> Prop} {md : Region.Mode}
def Mb (md:Region.Mode)(ops:Array Oper)(i j:Nat):Bool:=match ops[i]? with
 |some o=>o.after.toList.any λe=>e.on==j&&Region.binds md e
 |none=>false
def Pm (frame:(Nat->Value)->Act)(R:Nat->World->Value->Prop)(xs:Nat->Value)(i:Nat)(w:World)(a':Act)(w':World):Prop:=∃v,a'=frame (La xs i v)/\R i w' v/\Below w.heap.size w w'
theorem Jy (frame:(Nat->Value)->Act)(w0:World)(R:Nat->World->Value->Prop)
 (hR:∀i w w' v,R i w v->Below w.heap.size w w'->R i w' v)
 (step:∀i xs w,i<ops.size->Below w0.heap.size w0 w->(∀j,Mb md ops i j=true->R j w (xs j))->wpOp P ops Q i (Pm frame R xs i w) (frame xs) w)
 (done:∀xs w,Below w0.heap.size w0 w->(∀i,i<ops.size->R i w (xs i))->Q .normal (frame xs) w)
 (hops:∀i,i<ops.size->∀o,ops[i]? =some o->∀e∈o.after,e.on<i)
 (xs0:Nat->Value) (w1:World) (hw1:Below w0.heap.size w0 w1):wpAny P md ops Q ops.size (Array.replicate ops.size false) (frame xs0) w1:=by
 refine Xe (λl a w=>l.size=ops.size/\Below w0.heap.size w0 w/\∃xs,a=frame xs/\∀i,i<ops.size->l[i]? =some true->R i w (xs i)) ?_ ?_ ops.size _ _ _ (by simp) ⟨by simp,hw1,xs0,rfl,λi hi h=>by simp[hi] at h⟩
 ·rintro l a w ⟨hl,hb,xs,rfl,hx⟩ i hi
  obtain⟨h1,h2,h3⟩:=Wc hi;have hli:l[i]? =some false:=by
   rw[Array.getD_eq_getD_getElem?] at h2;rw[Array.getElem?_eq_getElem (by omega)] at h2⊢;simp at h2;rw[h2]
  refine wpOp_mono ?_ (step i xs w h1 hb ?_)
  ·rintro a' w' ⟨v,rfl,hv,hb'⟩
   refine⟨by simpa using hl,hb.trans (hb'.mono hb.size),La xs i v,rfl,λj hj hlj=>?_⟩;by_cases e:j=i
   ·subst e;simp only[La,if_true];exact hv
   simp only[La,if_neg e];rw[Array.getElem?_setIfInBounds_ne (λh=>e h.symm)] at hlj;exact hR j w w' _ (hx j hj hlj) hb'
  intro j hj;obtain⟨o,ho⟩:∃o,ops[i]? =some o:=⟨_,Array.getElem?_eq_getElem h1⟩;unfold Mb at hj;rw[ho] at hj;simp only[List.any_eq_true,Bool.and_eq_true,beq_iff_eq] at hj;obtain⟨e,he',rfl,hbe⟩:=hj;have he:e∈o.after:=by simpa using he'
  have hlt:=hops i h1 o ho e he;rw[ho] at h3;simp only[Option.map_some,Option.getD_some,Array.all_eq_true_iff_forall_mem] at h3;have h4:=h3 e he;rw[hbe] at h4;simp only[Bool.not_true,Bool.false_or] at h4;refine hx e.on (by omega) ?_;rw[Array.getD_eq_getD_getElem?,Array.getElem?_eq_getElem (by omega)] at h4;rw[Array.getElem?_eq_getElem (by omega)];simp at h4;rw[h4]
 rintro l a w ⟨hl,hb,xs,rfl,hx⟩ hr;refine done xs w hb ?_;have hall:∀n i,i<n->i<ops.size->l[i]? =some true:=by
  intro n
  induction n with
  |zero=>intro i h;omega
  |succ n ih=>
   intro i hi his;by_cases e:i<n
   ·exact ih i e his
   have hie:i=n:=by omega
   subst hie;cases h:l[i]? with
   |none=>rw[Array.getElem?_eq_none_iff] at h;omega
   |some b=>
    cases b
    ·exfalso
     have:i∈Region.ready md ops l:=by
      simp only[Region.ready,List.mem_filter,List.mem_range,Bool.and_eq_true,Bool.not_eq_true'];refine⟨his,by rw[Array.getD_eq_getD_getElem?,h];rfl,?_⟩;rw[Array.getElem?_eq_getElem his];simp only[Option.map_some,Option.getD_some,Array.all_eq_true_iff_forall_mem];intro e he;have hlt:=hops i his _ (Array.getElem?_eq_getElem his) e he;rw[Array.getD_eq_getD_getElem?,ih e.on hlt (by omega)];simp
     rw[hr] at this;cases this
    rfl
 intro i hi;exact hx i hi (hall (i+1) i (by omega) hi)
theorem Jh (frame:(Nat->Value)->Act)(w0:World)(R:Nat->World->Value->Prop){id:Nat}{a:Act}{w:World}(hm:P.follows .mixedOrders=true)
 (hR:∀i w w' v,R i w v->Below w.heap.size w w'->R i w' v)
 (hops:ops.toList.zipIdx.all (λp=>p.1.after.all λe=>decide (e.on<p.2))=true)
 (xs0:Nat->Value) (ha:a=frame xs0) (hw:Below w0.heap.size w0 w)
 (step:∀i xs w,i<ops.size->Below w0.heap.size w0 w->(∀j,Mb .any ops i j=true->R j w (xs j))->wpOp P ops Q i (Pm frame R xs i w) (frame xs) w)
 (done:∀xs w,Below w0.heap.size w0 w->(∀i,i<ops.size->R i w (xs i))->Q .normal (frame xs) w):(Code.region id ops true).wp P Q a w:=by
 subst ha;refine wp_region_any hm (Jy frame w0 R hR step done ?_ xs0 _ ?_)
 ·intro i hi o ho e he
  rw[List.all_eq_true] at hops;have h:=hops (o,i) (by
   rw[List.mem_zipIdx_iff_getElem?]
   simpa using ho)
  rw[Array.all_eq_true_iff_forall_mem] at h
  simpa using h e he
 exact⟨hw.os,hw.tape,hw.output,hw.size,hw.block⟩
end
end
section
open Go.RowKit
section
variable {P : Program} {ops : Array Oper} {Q : Exit -> Act -> World -> Prop} {md : Region.Mode}
theorem Vg {l:Array Bool}{i j:Nat}(h:((ops[i]?).map (·.after.all λe=> !Region.binds md e||l.getD e.on false)).getD false=true)(hj:Mb md ops i j=true):l.getD j false=true:=by
 unfold Mb at hj;cases ho:ops[i]? with
 |none=>rw[ho] at hj;cases hj
 |some o=>
  rw[ho] at hj h;simp only[List.any_eq_true,Bool.and_eq_true,beq_iff_eq] at hj;obtain⟨e,he',rfl,hbe⟩:=hj;have he:e∈o.after:=by simpa using he'
  simp only[Option.map_some,Option.getD_some,Array.all_eq_true_iff_forall_mem] at h;have h4:=h e he;rw[hbe] at h4
  simpa using h4
theorem Xi {l:Array Bool}{i:Nat}(h:l.getD i false=true):l[i]? =some true:=by
 rw[Array.getD_eq_getD_getElem?] at h;cases e:l[i]? with
 |none=>rw[e] at h;cases h
 |some b=>rw[e] at h;simp at h;rw[h]
theorem Ky (frame:(Nat->Value)->Act)(w0:World)(R:Nat->World->Value->Prop)(n:Nat)(hn:ops.size=n+1)
 (hR:∀i w w' v,R i w v->Below w.heap.size w w'->R i w' v)
 (step:∀i xs w,i<n->Below w0.heap.size w0 w->(∀j,Mb md ops i j=true->R j w (xs j))->wpOp P ops Q i (Pm frame R xs i w) (frame xs) w)
 (last:∀xs w,Below w0.heap.size w0 w->(∀i,i<n->R i w (xs i))->wpOp P ops Q n (λa' w'=>Q .normal a' w') (frame xs) w)
 (hops:∀i,i<ops.size->∀j,Mb md ops i j=true->j<i) (hlast:∀j,j<n->Mb md ops n j=true)
 (xs0:Nat->Value) (w1:World) (hw1:Below w0.heap.size w0 w1):wpAny P md ops Q ops.size (Array.replicate ops.size false) (frame xs0) w1:=by
 refine Xe (λl a w=>l.size=ops.size/\((l[n]? =some false/\Below w0.heap.size w0 w/\∃xs,a=frame xs/\∀i,i<n->l[i]? =some true->R i w (xs i))\/(l[n]? =some true/\Q .normal a w/\∀i,i<n->l[i]? =some true))) ?_ ?_ ops.size _ _ _ (by simp) ⟨by simp,.inl ⟨by simp[hn],hw1,xs0,rfl,λi hi h=>by simp[show i<ops.size by omega] at h⟩⟩
 ·rintro l a w ⟨hl,hc⟩ i hi
  obtain⟨h1,h2,h3⟩:=Wc hi;have hli:l[i]? =some false:=by
   rw[Array.getD_eq_getD_getElem?] at h2;rw[Array.getElem?_eq_getElem (by omega)] at h2⊢;simp at h2;rw[h2]
  rcases hc with⟨hln,hb,xs,rfl,hx⟩ |⟨hln,hQ,hall⟩
  ·by_cases e:i=n
   ·subst e
    have hall:∀j,j<i->l[j]? =some true:=λj hj=>Xi (Vg h3 (hlast j hj));refine wpOp_mono ?_ (last xs w hb (λj hj=>hx j hj (hall j hj)));intro a' w' hq;refine⟨by simpa using hl,.inr ⟨?_,hq,λj hj=>?_⟩⟩
    ·rw[Array.getElem?_setIfInBounds_self_of_lt (by omega)]
    rw[Array.getElem?_setIfInBounds_ne (by omega)];exact hall j hj
   refine wpOp_mono ?_ (step i xs w (by omega) hb (λj hj=>hx j (by have:=hops i h1 j hj;omega) (Xi (Vg h3 hj))));rintro a' w' ⟨v,rfl,hv,hb'⟩;refine⟨by simpa using hl,.inl ⟨by rw[Array.getElem?_setIfInBounds_ne e];exact hln,hb.trans (hb'.mono hb.size),La xs i v,rfl,λj hj hlj=>?_⟩⟩;by_cases e':j=i
   ·subst e';simp only[La,if_true];exact hv
   simp only[La,if_neg e'];rw[Array.getElem?_setIfInBounds_ne (λh=>e' h.symm)] at hlj;exact hR j w w' _ (hx j hj hlj) hb'
  exfalso
  by_cases e:i=n
  ·subst e;rw[hli] at hln;cases hln
  rw[hall i (by omega)] at hli;cases hli
 rintro l a w ⟨hl,hc⟩ hr;rcases hc with⟨hln,hb,xs,rfl,hx⟩ |⟨_,hQ,_⟩
 ·exfalso
  have hall:∀m i,i<m->i<ops.size->l[i]? =some true:=by
   intro m
   induction m with
   |zero=>intro i h;omega
   |succ m ih=>
    intro i hi his;by_cases e:i<m
    ·exact ih i e his
    have hie:i=m:=by omega
    subst hie;cases h:l[i]? with
    |none=>rw[Array.getElem?_eq_none_iff] at h;omega
    |some b=>
     cases b
     ·exfalso
      have:i∈Region.ready md ops l:=by
       simp only[Region.ready,List.mem_filter,List.mem_range,Bool.and_eq_true,Bool.not_eq_true'];refine⟨his,by rw[Array.getD_eq_getD_getElem?,h];rfl,?_⟩;rw[Array.getElem?_eq_getElem his];simp only[Option.map_some,Option.getD_some,Array.all_eq_true_iff_forall_mem];intro e he;cases hbe:Region.binds md e
       ·rfl
       have hd:Mb md ops i e.on=true:=by
        unfold Mb;rw[Array.getElem?_eq_getElem his];simp only[List.any_eq_true,Bool.and_eq_true,beq_iff_eq];exact⟨e,by simpa using he,rfl,hbe⟩
       have hlt:=hops i his e.on hd;rw[Array.getD_eq_getD_getElem?,ih e.on hlt (by omega)];simp
      rw[hr] at this;cases this
     rfl
  rw[hall (n+1) n (by omega) (by omega)] at hln;cases hln
 exact hQ
theorem Mo (frame:(Nat->Value)->Act)(w0:World)(R:Nat->World->Value->Prop)(n:Nat){id:Nat}{a:Act}{w:World}(hm:P.follows .mixedOrders=true)(hn:ops.size=n+1)
 (hR:∀i w w' v,R i w v->Below w.heap.size w w'->R i w' v)
 (hops:ops.toList.zipIdx.all (λp=>p.1.after.all λe=>decide (e.on<p.2))=true) (hlast:(List.range n).all (λj=>Mb .any ops n j)=true)
 (xs0:Nat->Value) (ha:a=frame xs0) (hw:Below w0.heap.size w0 w)
 (step:∀i xs w,i<n->Below w0.heap.size w0 w->(∀j,Mb .any ops i j=true->R j w (xs j))->wpOp P ops Q i (Pm frame R xs i w) (frame xs) w)
 (last:∀xs w,Below w0.heap.size w0 w->(∀i,i<n->R i w (xs i))->wpOp P ops Q n (λa' w'=>Q .normal a' w') (frame xs) w):(Code.region id ops true).wp P Q a w:=by
 subst ha;refine wp_region_any hm (Ky frame w0 R n hn hR step last ?_ ?_ xs0 _ ?_)
 ·intro i hi j hj
  unfold Mb at hj;rw[Array.getElem?_eq_getElem hi] at hj;simp only[List.any_eq_true,Bool.and_eq_true,beq_iff_eq] at hj;obtain⟨e,he,rfl,_⟩:=hj;rw[List.all_eq_true] at hops;have h:=hops (ops[i],i) (by
   rw[List.mem_zipIdx_iff_getElem?];simp)
  rw[Array.all_eq_true_iff_forall_mem] at h
  simpa using h e (by simpa using he)
 ·intro j hj
  rw[List.all_eq_true] at hlast;exact hlast j (by simpa using hj)
 exact⟨hw.os,hw.tape,hw.output,hw.size,hw.block⟩
end
end
end Go.Proofs.YtogjgbmngagimaaGreatDoor
