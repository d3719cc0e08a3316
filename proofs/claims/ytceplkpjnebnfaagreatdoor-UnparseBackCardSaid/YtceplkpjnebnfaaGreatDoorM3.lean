/- Texts of this proof, joined. -/
import Derived.Test.YtceplkpjnebnfaaGreatDoorM2
import Derived.Shelf.Lay
import Derived.Shelf.Strings.BuilderK
import Derived.Laws.Tables
import Derived.Deep.LoopGhost
set_option linter.all false
set_option maxHeartbeats 8000000
set_option maxRecDepth 100000
namespace Go.Proofs.YtceplkpjnebnfaaGreatDoor
open Go.RowKit
theorem Jna {w:World}{base n C k:Nat}{t:TypeId}{A:Option Addr}{xs:List Value}(h:w.ownsRow base t 1 (.slice A n C) n xs)(hk:k<n):
 ∃g,A=some ⟨g,0,none⟩/\base<=g/\w.cell? ⟨g,k,none⟩=xs[k]? /\w.frozen? ⟨g,k,none⟩=false/\∀x,(w.setCell ⟨g,k,none⟩ x).ownsRow base t 1 (.slice A n C) n (xs.set k x):=by
 obtain⟨g,vs,hv,hb,hblk,ht,h1,h2⟩:=Gaa h (by omega);injection hv with e1 _ e2
 subst e1 e2;refine⟨g,rfl,hb,?_,hblk.frozen k,λx=>?_⟩
 ·rw[<-ht,List.getElem?_take,if_pos hk]
  have hk':k<vs.length:=by omega
  rw[List.getElem?_eq_getElem hk'];exact hblk.cell (List.getElem?_eq_getElem hk')
 have:=(hblk.set_ k x).own (base:=base) (n:=n) hb (by rw[List.length_set];exact h1) (by rw[List.length_set];exact h2);rw[List.length_set,List.take_set,ht] at this;exact this
theorem Mz (base:Nat)(v:Value)(x b m:Nat)(w:World)(hown:w.ownsRow base 90 1 v (Nt.digs x).length (U (Nt.digs x)))(hB:base<=w.heap.size)(hl:(Nt.digs x).length<=1000000)(hb1:1<=b)(hb:b<4294967296)(hm:m<4294967296):
 Calls Tryz.prog 209 #[v,.int .u32 (b:Int),.int .u32 (m:Int)] w λe w'=>∃v',e= .returned v'/\w'.ownsRow base 90 1 v' (Nt.digs (x*b+m)).length (U (Nt.digs (x*b+m)))/\Below base w w':=by
 obtain⟨i0,hi,hz0,hz1,hz2⟩:=info_parts Ye;have OX:=Qd (Nt.ok_digs x);have D0:Hid (∀cur,Nt.LenAt (Nt.digs x) b m cur (Nt.digs x).length 0->Nt.digs (x*b+m)=cur):=Qd (λcur h=>Nt.len_done0 h hb1);have D1:Hid (∀cur c,Nt.LenAt (Nt.digs x) b m cur (Nt.digs x).length c->c≠0->Nt.digs (x*b+m)=cur++[c]):=Qd (λcur c h hc=>Nt.len_done1 h hc);generalize Nt.digs (x*b+m)=dz at*;generalize Nt.digs x=dx at*;obtain⟨A,C,rfl,hC1,hC2⟩:=Kb hown;go_enter Tryz.func209,Tryz.ntmps209
 go_wp2_with fail
 go_loopw [7,15] (λcv i wr=>∃(k c:Nat) (cur:List Nat),k<=dx.length/\c<4294967296/\i= .int .i64 (k:Int)/\cv= .int .u64 (c:Int)/\wr.ownsRow base 90 1 (.slice A dx.length C) dx.length (U cur)/\Below base w wr/\Hid (Nt.LenAt dx b m cur k c)) (λ_ i _=>dx.length-(intOf i).toNat)
 case atStart=>exact⟨0,m,dx,Nat.zero_le _,hm,rfl,rfl,hown,Br,Qd (Nt.len_start OX.out hm)⟩
 case round=>
  clear hown;obtain⟨k,c,cur,hk,hc,rfl,rfl,hown,hbel,H⟩:=hrel;have hsz:=hbel.size;by_cases hlt:k<dx.length
  ·obtain⟨g,rfl,hgb,hcell,hfz,hset⟩:=Jna hown hlt
   have hget:=Nt.len_get H.out hlt;rw[U,List.getElem?_map,hget,Option.map_some] at hcell;have hxb:=Nt.ok_get OX.out hlt;have ST:=Qd (Nt.len_step H.out hlt OX.out hb);have BD:=Nt.len_bounds hxb hb hc;have HSET:Hid (∀s:Nat,(wr.setCell ⟨g,k,none⟩ (.int .u32 (s:Int))).ownsRow base 90 1 (.slice (some ⟨g,0,none⟩) dx.length C) dx.length (U (cur.set k s))):=Qd (λs=>by
    have:=hset (.int .u32 (s:Int));rw[show(U cur).set k (.int .u32 (s:Int))=U (cur.set k s) from List.map_set.symm] at this;exact this)
   have HB2:Hid (∀s,Below base w (wr.setCell ⟨g,k,none⟩ s)):=Qd (λs=>hbel.setCell hgb _);clear hset hget hown;generalize dx[k]=y at*;obtain⟨p,hp⟩:∃p,p=y*b:=⟨_,rfl⟩;have hpi:(y:Int)*(b:Int)=(p:Int):=by rw[hp,Int.natCast_mul]
   rw[<-hp] at ST BD;obtain⟨ht1,ht2,ht3,ht4⟩:=BD;clear hp;go_wp2_with fail
   exact⟨⟨k+1,(p+c)/4294967296,cur.set k ((p+c)%4294967296),by omega,ht2,by go_num,congrArg (Value.int .u64) (by omega),HSET.out _,HB2.out _,ST⟩,by simp[intOf];omega⟩
  obtain rfl:k=dx.length:=by omega
  have hcl:Hid (cur.length=dx.length):=Qd H.out.1;by_cases hc0:c=0
  ·subst hc0
   have HE:=Qd (D0.out cur H.out);go_wp2_with fail
   go_ret;refine⟨_,rfl,?_,hbel⟩;rw[HE.out,hcl.out];exact hown
  have HE:=Qd (D1.out cur c H.out hc0);have hc1:((c:Int)!=0)=true:=by simp;omega
  go_wp2_with (at_builtin;refine wpList_append_own _ rfl _ _ 22 rfl base 90 i0 (.int .u32 0) 1 4 Tryz.underlying22 hi hz0 hz1 hz2 rfl (by decide) _ _ _ rfl (hown.alloc _) ⟨_,0,none⟩ 1 1 [.int .u32 (c:Int)] rfl rfl (cell_one_new _ _ _) (by intro u hu;simp only[List.mem_singleton] at hu;subst hu;rfl) (by unfold maxLen;omega) (by omega) (by simp;omega) ?_;intro v3 w3 hown3 hgrow3 hnn3)
  have hb3:Below base w w3:=(hbel.alloc (by omega) _).grown hgrow3 (by simp;omega) (λk hk=>(hown.lt k hk).1);go_ret;refine⟨_,rfl,?_,hb3⟩;rw[HE.out,List.length_append,hcl.out]
  simpa [U] using hown3
theorem Et {r x:Nat}(hr:r<4294967296)(hx:x<4294967296):bits BinOp.or IntKind.u64 ((r:Int)*4294967296) (x:Int)=((r*4294967296+x:Nat):Int):=by
 have h:=u64_or_nat (r*4294967296) x (by omega) (by omega);rw[nat_join 32 (r*4294967296) x (by omega) (by omega)] at h;rw[<-h,Int.natCast_mul];rfl
theorem Yq (g c d:Nat)(l:List Nat)(rest:List Value)(w:World)(hblk:Blk w g 90 (U l++rest))(ho:Nt.Ok l)(hd:0<d)(hd2:d<4294967296)(hm:l.length<=9223372036854775807):
 Calls Tryz.prog 121 #[.slice (some ⟨g,0,none⟩) l.length c,.int .u32 (d:Int)] w λe w'=>∃cur:List Nat,e= .returned (.int .u32 ((Nt.val l%d:Nat):Int))/\Blk w' g 90 (U cur++rest)/\Hid (cur.length=l.length/\Nt.Ok cur/\Nt.val cur=Nt.val l/d)/\w.grownBy w' (some g):=by
 have HO:=Qd ho;have hd1:(1:Int)<=(d:Int):=by omega
 clear ho;go_enter Tryz.func121,Tryz.ntmps121
 go_wp2_with fail
 go_loopw [5,6] (λrv i wr=>∃(k r:Nat) (cur:List Nat),k<=l.length/\r<d/\i= .int .i64 ((k:Int)-1)/\rv= .int .u64 (r:Int)/\Blk wr g 90 (U cur++rest)/\w.grownBy wr (some g)/\Hid (Nt.ShortAt l d cur k r)) (λ_ i _=>(intOf i+1).toNat)
 case atStart=>exact⟨l.length,0,l,Lr,hd,by go_num,rfl,hblk,World.grownBy.refl _ _,Qd (Nt.short_start HO.out hd)⟩
 case round=>
  clear hblk;obtain⟨k,r,cur,hk,hr,rfl,rfl,hblk,hgr,H⟩:=hrel;rcases k with _ |k
  ·have HE:=Qd (Nt.short_end H.out)
   have hrd:r<4294967296:=by omega
   go_wp2_with fail
   go_ret;refine⟨cur,Ra (by rw[<-HE.out.2]),hblk,Qd ⟨H.out.1,H.out.2.1,HE.out.1⟩,hgr⟩
  have hk1:((k+1:Nat):Int)-1=(k:Int):=by omega
  rw[hk1];clear hk1;have hkl:k<l.length:=by omega
  have hcl:cur.length=l.length:=H.out.1;have hget:=Nt.short_get H.out hkl;have hcell:wr.cell? ⟨g,k,none⟩=some (.int .u32 ((l[k]:Nat):Int)):=hblk.cell (by
   rw[List.getElem?_append_left (by rw[Ig];omega),U,List.getElem?_map,hget];rfl)
  have hfz:=hblk.frozen k;have hxb:=Nt.ok_get HO.out hkl;have ST:=Qd (Nt.short_step H.out hkl HO.out hd2);have BD:=Nt.short_bounds hr hd2 hxb;have BS:Hid (∀s:Nat,Blk (wr.setCell ⟨g,k,none⟩ (.int .u32 (s:Int))) g 90 (U (cur.set k s)++rest)):=Qd (λs=>by
   have:=hblk.set_ k (.int .u32 (s:Int));rw[List.set_append_left _ _ (by rw[Ig];omega),show(U cur).set k (.int .u32 (s:Int))=U (cur.set k s) from List.map_set.symm] at this;exact this)
  generalize l[k]=x at hcell hxb ST BD;have hj:=Et (r:=r) (by omega) hxb;generalize ht:r*4294967296+x=t at ST BD hj;have hq:(t:Int)/(d:Int)=((t/d:Nat):Int):=(Int.natCast_ediv t d).symm;have hr2:(t:Int)%(d:Int)=((t%d:Nat):Int):=(Int.natCast_emod t d).symm;obtain⟨hq1,ht1,hr1⟩:=BD;generalize t/d=q at*;generalize t%d=r' at*;clear ht hblk hcl hget;have hrl:r<4294967296:=by omega
  have HR2:=Qd hr2;go_wp2_with fail
  refine⟨⟨k,r',cur.set k q,by omega,hr1,by go_num,congrArg (Value.int .u64) HR2.out,BS.out q,Ej hgr _ _,Qd ST.out⟩,?_⟩
  first|(simp[intOf];done) |(simp[intOf];omega)
end Go.Proofs.YtceplkpjnebnfaaGreatDoor
namespace Go.Proofs
open Go.Shelf
def Vf:Go.Shelf.Ren:=⟨λ | 166=>36 | 240=>65 | 276=>119 |n=>n,λ | 70=>39 | 3=>3 | 0=>0 | 4=>4 | 9=>9 | 20=>20 | 72=>42 | 37=>40 | 164=>116 | 5=>5 | 75=>67 | 80=>44 |n=>n,λ |n=>n⟩
theorem Qf:Go.Proofs.Lays.n166 Tryz.prog Vf:={
 mixed:=by kernel_rfl
 f166:=Tryz.func36.trans (congrArg some (by kernel_rfl))
 f240:=Tryz.func65.trans (congrArg some (by kernel_rfl))
 f276:=Tryz.func119.trans (congrArg some (by kernel_rfl))
 t0:=Tryz.underlying0
 a0:=Tryz.isAgg0
 z0:=Tryz.sizeOf0
 v0:=Tryz.zeroValue0
 t3:=Tryz.underlying3
 a3:=Tryz.isAgg3
 z3:=Tryz.sizeOf3
 v3:=Tryz.zeroValue3
 t4:=Tryz.underlying4
 a4:=Tryz.isAgg4
 z4:=Tryz.sizeOf4
 v4:=Tryz.zeroValue4
 t9:=Tryz.underlying9
 a9:=Tryz.isAgg9
 z9:=Tryz.sizeOf9
 v9:=Tryz.zeroValue9
 t20:=Tryz.underlying20
 a20:=Tryz.isAgg20
 z20:=Tryz.sizeOf20
 v20:=Tryz.zeroValue20
 t37:=Tryz.underlying40
 a37:=Tryz.isAgg40
 z37:=Tryz.sizeOf40
 v37:=Tryz.zeroValue40
 t70:=Tryz.underlying39
 a70:=Tryz.isAgg39
 z70:=Tryz.sizeOf39
 v70:=Tryz.zeroValue39
 t72:=Tryz.underlying42
 a72:=Tryz.isAgg42
 z72:=Tryz.sizeOf42
 v72:=Tryz.zeroValue42
 t75:=Tryz.underlying67
 a75:=Tryz.isAgg67
 z75:=Tryz.sizeOf67
 v75:=Tryz.zeroValue67
 t164:=Tryz.underlying116
 a164:=Tryz.isAgg116
 z164:=Tryz.sizeOf116
 v164:=Tryz.zeroValue116}
theorem Ff:Builder.Extra Tryz.prog Vf:={
 sizeBuilder:=by kernel_rfl
 liesBuilder:=by kernel_rfl
 t5:=Tryz.underlying5
 a5:=Tryz.isAgg5
 z5:=Tryz.sizeOf5
 v5:=Tryz.zeroValue5
 infoByte:=by kernel_rfl
 cellsByte:=by kernel_rfl
 sizeByte:=by kernel_rfl
 neB5:=by decide}
namespace YtceplkpjnebnfaaGreatDoor
open Go.RowKit
theorem Gi (B b:Nat)(bs:List Value)(s:ByteArray)(w:World)(h:Lib.IsBuilder 42 5 B b bs w)(hlen:bs.length+s.size<=140737488355328)(hBw:B<=w.heap.size):
 Calls Tryz.prog 36 #[.pointer (some ⟨b,0,none⟩),.string s] w λe w'=>e= .returned (.tuple #[.int .i64 s.size,.nilIface])/\(Lib.BuilderAt 42 5 B b (.pointer (some ⟨b,0,none⟩)) (bs++Lib.strCells s) w'/\Below B w w'):=Any.Builder_WriteString Qf Ff B b bs s w h hlen hBw
end YtceplkpjnebnfaaGreatDoor
end Go.Proofs
namespace Go.Proofs.YtceplkpjnebnfaaGreatDoor
open Go.RowKit
theorem Bs {w0 w:World}{v:Value}{ds:List Nat}(h:w.ownsRow w0.heap.size 90 1 v ds.length (U ds))(ho:Nt.Ok ds)(hs:ds.length<=17592186044416)(hb:Below w0.heap.size w0 w):
 Calls Tryz.prog 97 #[v] w λe w'=>∃v',e= .returned v'/\IsRes w' v' (Nt.digs (Nt.val ds))/\Below w0.heap.size w0 w':=by
 obtain⟨A,c,rfl,h1,h2,h3,h4⟩:=IsRes.of_own h;refine(Pl A c w.heap.size ds w h4 Lr ho h1 h2 h3 hs).mono ?_;rintro e w' ⟨v',rfl,hr,hb'⟩;exact⟨v',rfl,hr,hb.trans (hb'.mono hb.size)⟩
theorem Jaa (A A':Option Addr)(c c' B:Nat)(a b:List Nat)(w:World)(hx:Lies w B A (U a))(hy:Lies w B A' (U b))(hB:B<=w.heap.size)(ha:Nt.Ok a)(hb:Nt.Ok b)
 (hc:a.length<=c) (hc':b.length<=c') (hm:c<=9223372036854775807) (hm':c'<=9223372036854775807) (hs:a.length<=8796093022208) (hs':b.length<=8796093022208):
 Calls Tryz.prog 62 #[.slice A a.length c,.slice A' b.length c'] w λe w'=>∃v,e= .returned v/\IsRes w' v (Nt.digs (Nt.val a+Nt.val b))/\Below w.heap.size w w':=by
 obtain⟨i0,hi,hz0,hz1,hz2⟩:=info_parts Ye;obtain⟨n,hn⟩:∃n,n=max a.length b.length:=⟨_,rfl⟩;have hna:a.length<=n:=by omega
 have hnb:b.length<=n:=by omega
 have hnm:n<=8796093022208:=by omega
 have HN:=Qd hn;have LA:=Qd (λ(i:Nat) (wr:World) (hi:i<=9223372036854775807) (h:Below w.heap.size w wr)=>Sg A c B a i wr (hx.below (h.mono hB)) hc hm hi ha);have LB:=Qd (λ(i:Nat) (wr:World) (hi:i<=9223372036854775807) (h:Below w.heap.size w wr)=>Sg A' c' B b i wr (hy.below (h.mono hB)) hc' hm' hi hb);have GA:=Qd (λk=>Nt.getD_lt ha k);have GB:=Qd (λk=>Nt.getD_lt hb k);have EN:=Qd (λcur c h=>Nt.addUp_end (cur:=cur) (n:=n) (c:=c) ha hb hna hnb h);clear hx hy ha hb hn;go_enter Tryz.func62,Tryz.ntmps62
 go_wp2_with fail
 go_loopw [5,6,7] (λv cv i wr=>∃(k cy:Nat) (cur:List Nat),k<=n+1/\cy<=1/\i= .int .i64 (k:Int)/\cv= .int .u64 (cy:Int)/\wr.ownsRow w.heap.size 90 1 v k (U cur)/\Below w.heap.size w wr/\Hid (Nt.AddUp a b cur k cy)) (λ_ _ i _=>n+1-(intOf i).toNat)
 case atStart=>exact⟨0,0,[],by omega,by omega,rfl,rfl,World.ownsRow_nil _ _ _ _,Br,Qd (Nt.addUp_start a b)⟩
 case round=>
  obtain⟨k,cy,cur,hk,hcy,rfl,rfl,hown,hbel,H⟩:=hrel;have hsz:=hbel.size;by_cases hlt:k<=n
  ·have CA:=Qd (LA.out k wr (by omega) hbel)
   have CB:=Qd (LB.out k wr (by omega) hbel);have ST:=Qd (Nt.addUp_step H.out);have hga:=GA.out k;have hgb:=GB.out k;generalize a.getD k 0=x at CA ST hga;generalize b.getD k 0=y at CB ST hgb;go_wp2_with fail
   refine(Fi A A' a.length b.length c c' _ (by omega) (by omega)).mono ?_;rintro e w' ⟨rfl,rfl⟩;rw[<-HN.out];go_wp2_with fail
   refine CA.out.mono ?_;rintro e w' ⟨rfl,rfl⟩;go_wp2_with fail
   refine CB.out.mono ?_;rintro e w' ⟨rfl,rfl⟩;go_wp2_with (at_builtin;refine wpList_append_own _ rfl _ _ 22 rfl w.heap.size 90 i0 (.int .u32 0) 1 4 Tryz.underlying22 hi hz0 hz1 hz2 rfl (by decide) _ _ _ rfl (hown.alloc _) ⟨_,0,none⟩ 1 1 [.int .u32 (((x:Int)+(y:Int)+(cy:Int))%4294967296)] rfl rfl (cell_one_new _ _ _) (by intro u hu;simp only[List.mem_singleton] at hu;subst hu;rfl) (by unfold maxLen;omega) (by omega) (by simp;omega) ?_;intro v3 w3 hown3 hgrow3 hnn3)
   have hb3:Below w.heap.size w w3:=(hbel.alloc hsz _).grown hgrow3 (by simp;omega) (λk hk=>(hown.lt k hk).1);go_roundw
   case rel=>
    refine⟨k+1,(x+y+cy)/4294967296,cur++[(x+y+cy)%4294967296],by omega,by omega,by go_num,congrArg (Value.int .u64) (by omega),?_,hb3,Qd ST.out⟩;have e:U (cur++[(x+y+cy)%4294967296])=U cur++[.int .u32 (((x:Int)+(y:Int)+(cy:Int))%4294967296)]:=by
     unfold U;rw[List.map_append];congr 2
    rw[e];exact hown3
   case measure=>simp[intOf];omega
  obtain rfl:k=n+1:=by omega
  have HV:=Qd (EN.out cur cy H.out);have HL:=H.out.1;have hO:=H.out.2.1;have hnorm:=Bs (w0:=w) (v:=u5) (ds:=cur) (by rw[HL];exact hown) hO (by rw[HL];omega) hbel;rw[HV.out] at hnorm;have HNM:=Qd hnorm;clear hnorm HL hO;go_wp2_with fail
  refine(Fi A A' a.length b.length c c' _ (by omega) (by omega)).mono ?_;rintro e w' ⟨rfl,rfl⟩;rw[<-HN.out];go_wp2_with fail
  refine HNM.out.mono ?_;rintro e w' ⟨v',rfl,hr,hb'⟩;go_wp2_with fail
  go_ret;exact⟨_,rfl,hr,hb'⟩
theorem Kaa (A A':Option Addr)(c c' B:Nat)(a b:List Nat)(w:World)(hx:Lies w B A (U a))(hy:Lies w B A' (U b))(hB:B<=w.heap.size)(ha:Nt.Ok a)(hb:Nt.Ok b)
 (hc:a.length<=c) (hc':b.length<=c') (hm:c<=9223372036854775807) (hm':c'<=9223372036854775807) (hs:a.length<=8796093022208) (hs':b.length<=8796093022208):
 Calls Tryz.prog 213 #[.slice A a.length c,.slice A' b.length c'] w λe w'=>∃v,e= .returned (.tuple #[v,.bool (decide (Nt.val b<=Nt.val a))])/\IsRes w' v (Nt.digs (Nt.val a-Nt.val b))/\Below w.heap.size w w':=by
 obtain⟨i0,hi,hz0,hz1,hz2⟩:=info_parts Ye;obtain⟨n,hn⟩:∃n,n=max a.length b.length:=⟨_,rfl⟩;have hna:a.length<=n:=by omega
 have hnb:b.length<=n:=by omega
 have hnm:n<=8796093022208:=by omega
 have HN:=Qd hn;have CM:=Qd (Faa A A' c c' B a b w hx hy ha hb hc hc' hm hm');have LA:=Qd (λ(i:Nat) (wr:World) (hi:i<=9223372036854775807) (h:Below w.heap.size w wr)=>Sg A c B a i wr (hx.below (h.mono hB)) hc hm hi ha);have LB:=Qd (λ(i:Nat) (wr:World) (hi:i<=9223372036854775807) (h:Below w.heap.size w wr)=>Sg A' c' B b i wr (hy.below (h.mono hB)) hc' hm' hi hb);have GA:=Qd (λk=>Nt.getD_lt ha k);have GB:=Qd (λk=>Nt.getD_lt hb k);clear hx hy ha hb hn;by_cases hlt:Nt.val a<Nt.val b
 ·have HE:Hid (Nt.cmp (Nt.val a) (Nt.val b)= -1):=Qd (Nt.cmp_lt hlt)
  have HD:Hid (decide (Nt.val b<=Nt.val a)=false):=Qd (by simp;omega);have HZ:Hid (Nt.digs (Nt.val a-Nt.val b)=[]):=Qd (by rw[show Nt.val a-Nt.val b=0 by omega,Nt.digs_zero]);go_enter Tryz.func213,Tryz.ntmps213
  go_wp2_with fail
  refine CM.out.mono ?_;rintro e w' ⟨rfl,rfl⟩;rw[HE.out];go_wp2_with fail
  go_ret2
  exact⟨_,by rw[HD.out];rfl,by rw[HZ.out];exact IsRes.none_ _,Br⟩
 have hle:Nt.val b<=Nt.val a:=by omega
 have HD:Hid (decide (Nt.val b<=Nt.val a)=true):=Qd (by simp;omega);have hcmp:decide (Nt.cmp (Nt.val a) (Nt.val b)<0)=false:=by rw[decide_eq_false_iff_not,Nt.cmp_neg];omega
 have EN:=Qd (λcur c h=>Nt.subUp_end (cur:=cur) (n:=n) (c:=c) hna hnb hle h);generalize Nt.cmp (Nt.val a) (Nt.val b)=cm at*;generalize Nt.val a=x0 at*;generalize Nt.val b=y0 at*;go_enter Tryz.func213,Tryz.ntmps213
 go_wp2_with fail
 refine CM.out.mono ?_;rintro e w' ⟨rfl,rfl⟩;go_wp2_with fail
 go_loopw [6,7,8] (λv cv i wr=>∃(k cy:Nat) (cur:List Nat),k<=n/\cy<=1/\i= .int .i64 (k:Int)/\cv= .int .u64 (cy:Int)/\wr.ownsRow w.heap.size 90 1 v k (U cur)/\Below w.heap.size w wr/\Hid (Nt.SubUp a b cur k cy)) (λ_ _ i _=>n-(intOf i).toNat)
 case atStart=>exact⟨0,0,[],by omega,by omega,rfl,rfl,World.ownsRow_nil _ _ _ _,Br,Qd (Nt.subUp_start a b)⟩
 case round=>
  obtain⟨k,cy,cur,hk,hcy,rfl,rfl,hown,hbel,H⟩:=hrel;have hsz:=hbel.size;by_cases hlt:k<n
  ·have CA:=Qd (LA.out k wr (by omega) hbel)
   have CB:=Qd (LB.out k wr (by omega) hbel);have ST:=Qd (λs d hs e=>Nt.subUp_step (s:=s) (d:=d) H.out hs e);have hga:=GA.out k;have hgb:=GB.out k;generalize a.getD k 0=x at CA ST hga;generalize b.getD k 0=y at CB ST hgb;go_wp2_with fail
   refine(Fi A A' a.length b.length c c' _ (by omega) (by omega)).mono ?_;rintro e w' ⟨rfl,rfl⟩;rw[<-HN.out];go_wp2_with fail
   refine CA.out.mono ?_;rintro e w' ⟨rfl,rfl⟩;go_wp2_with fail
   refine CB.out.mono ?_;rintro e w' ⟨rfl,rfl⟩;go_wp2_with (at_builtin;refine wpList_append_own _ rfl _ _ 22 rfl w.heap.size 90 i0 (.int .u32 0) 1 4 Tryz.underlying22 hi hz0 hz1 hz2 rfl (by decide) _ _ _ rfl (hown.alloc _) ⟨_,0,none⟩ 1 1 [.int .u32 ((4294967296+(x:Int)-(y:Int)-(cy:Int))%4294967296)] rfl rfl (cell_one_new _ _ _) (by intro u hu;simp only[List.mem_singleton] at hu;subst hu;rfl) (by unfold maxLen;omega) (by omega) (by simp;omega) ?_;intro v3 w3 hown3 hgrow3 hnn3)
   have hb3:Below w.heap.size w w3:=(hbel.alloc hsz _).grown hgrow3 (by simp;omega) (λk hk=>(hown.lt k hk).1);go_roundw
   case rel=>
    refine⟨k+1,1-(4294967296+x-y-cy)/4294967296,cur++[(4294967296+x-y-cy)%4294967296],by omega,by omega,by go_num,congrArg (Value.int .u64) (by omega),?_,hb3,Qd (ST.out _ _ (by omega) (by omega))⟩;have e:U (cur++[(4294967296+x-y-cy)%4294967296])=U cur++[.int .u32 ((4294967296+(x:Int)-(y:Int)-(cy:Int))%4294967296)]:=by
     unfold U;rw[List.map_append];congr 2;simp only[List.map_cons,List.map_nil]
     congr 2
     omega
    rw[e];exact hown3
   case measure=>simp[intOf];omega
  obtain rfl:k=n:=by omega
  have HV:=Qd (EN.out cur cy H.out);have HL:=H.out.1;have hO:=H.out.2.1;have hnorm:=Bs (w0:=w) (v:=u6) (ds:=cur) (by rw[HL];exact hown) hO (by rw[HL];omega) hbel;rw[HV.out] at hnorm;have HNM:=Qd hnorm;clear hnorm HL hO;go_wp2_with fail
  refine(Fi A A' a.length b.length c c' _ (by omega) (by omega)).mono ?_;rintro e w' ⟨rfl,rfl⟩;rw[<-HN.out];go_wp2_with fail
  refine HNM.out.mono ?_;rintro e w' ⟨v',rfl,hr,hb'⟩;go_wp2_with fail
  go_ret2
  exact⟨_,by rw[HD.out];rfl,hr,hb'⟩
theorem Laa (A:Option Addr)(c B:Nat)(a:List Nat)(i:Nat)(w:World)(hx:Lies w B A (U a))(ha:Nt.Ok a)(hc:a.length<=c)(hm:c<=9223372036854775807)(hi:i<=9223372036854775807):
 Calls Tryz.prog 212 #[.slice A a.length c,.int .i64 (i:Int)] w λe w'=>∃b:Nat,e= .returned (.int .u32 (b:Int))/\b<=1/\Hid (b=Nt.val a/2^i%2)/\w=w':=by
 have CA:=Qd (Sg A c B a (i/32) w hx hc hm (by omega) ha);have HB:=Qd (Nt.bit_limb ha i);have hg:=Nt.getD_lt ha (i/32);clear hx ha;generalize a.getD (i/32) 0=x at CA HB hg;go_enter Tryz.func212,Tryz.ntmps212
 go_wp2_with fail
 refine CA.out.mono ?_;rintro e w' ⟨rfl,rfl⟩;go_wp2_with fail
 go_loop [5,6] (λv j=>∃k n:Nat,k<=i%32/\n<4294967296/\j= .int .i64 (k:Int)/\v= .int .u64 (n:Int)/\Hid (n=x/2^k)) (λ_ j=>i%32-(intOf j).toNat)
 case atStart=>exact⟨0,x,Nat.zero_le _,hg,rfl,rfl,Qd (by simp)⟩
 case round=>
  obtain⟨k,n,hk,hn,rfl,rfl,H⟩:=hrel;by_cases hlt:k<i%32
  ·go_wp2_with fail
   go_round
   case rel=>exact⟨k+1,n/2,by omega,by omega,by go_num,by go_num,Qd (by rw[H.out,Nat.pow_succ,<-Nat.div_div_eq_div_mul])⟩
   case measure=>simp[intOf];omega
  obtain rfl:k=i%32:=by omega
  go_wp2_with fail
  go_ret;exact⟨n%2,Ra (by omega),by omega,Qd (by rw[<-HB.out,<-H.out]),rfl⟩
theorem Sda (A:Option Addr)(c B:Nat)(a:List Nat)(bit:Nat)(w:World)(hx:Lies w B A (U a))(hB:B<=w.heap.size)(ha:Nt.Ok a)(hc:a.length<=c)(hm:c<=9223372036854775807)(hs:a.length<=8796093022208)(hbit:bit<=1):
 Calls Tryz.prog 211 #[.slice A a.length c,.int .u32 (bit:Int)] w λe w'=>∃v,e= .returned v/\IsRes w' v (Nt.digs (2*Nt.val a+bit))/\Below w.heap.size w w':=by
 obtain⟨i0,hi,hz0,hz1,hz2⟩:=info_parts Ye;have LA:=Qd (λ(i:Nat) (wr:World) (hi:i<=9223372036854775807) (h:Below w.heap.size w wr)=>Sg A c B a i wr (hx.below (h.mono hB)) hc hm hi ha);have GA:=Qd (λk=>Nt.getD_lt ha k);have EN:=Qd (λcur c h=>Nt.twiceUp_end (cur:=cur) (bit:=bit) (c:=c) ha hbit h);clear hx ha;go_enter Tryz.func211,Tryz.ntmps211
 go_wp2_with fail
 go_loopw [5,6,7] (λv cv i wr=>∃(k cy:Nat) (cur:List Nat),k<=a.length+1/\cy<=1/\i= .int .i64 (k:Int)/\cv= .int .u64 (cy:Int)/\wr.ownsRow w.heap.size 90 1 v k (U cur)/\Below w.heap.size w wr/\Hid (Nt.TwiceUp a bit cur k cy)) (λ_ _ i _=>a.length+1-(intOf i).toNat)
 case atStart=>exact⟨0,bit,[],by omega,hbit,rfl,rfl,World.ownsRow_nil _ _ _ _,Br,Qd (Nt.twiceUp_start a bit)⟩
 case round=>
  obtain⟨k,cy,cur,hk,hcy,rfl,rfl,hown,hbel,H⟩:=hrel;have hsz:=hbel.size;by_cases hlt:k<=a.length
  ·have CA:=Qd (LA.out k wr (by omega) hbel)
   have ST:=Qd (Nt.twiceUp_step H.out);have hga:=GA.out k;generalize a.getD k 0=x at CA ST hga;go_wp2_with fail
   refine CA.out.mono ?_;rintro e w' ⟨rfl,rfl⟩;go_wp2_with (at_builtin;refine wpList_append_own _ rfl _ _ 22 rfl w.heap.size 90 i0 (.int .u32 0) 1 4 Tryz.underlying22 hi hz0 hz1 hz2 rfl (by decide) _ _ _ rfl (hown.alloc _) ⟨_,0,none⟩ 1 1 [.int .u32 ((2*(x:Int)+(cy:Int))%4294967296)] rfl rfl (cell_one_new _ _ _) (by intro u hu;simp only[List.mem_singleton] at hu;subst hu;rfl) (by unfold maxLen;omega) (by omega) (by simp;omega) ?_;intro v3 w3 hown3 hgrow3 hnn3)
   have hb3:Below w.heap.size w w3:=(hbel.alloc hsz _).grown hgrow3 (by simp;omega) (λk hk=>(hown.lt k hk).1);go_roundw
   case rel=>
    refine⟨k+1,(2*x+cy)/4294967296,cur++[(2*x+cy)%4294967296],by omega,by omega,by go_num,congrArg (Value.int .u64) (by omega),?_,hb3,Qd ST.out⟩;have e:U (cur++[(2*x+cy)%4294967296])=U cur++[.int .u32 ((2*(x:Int)+(cy:Int))%4294967296)]:=by
     unfold U;rw[List.map_append];congr 2
    rw[e];exact hown3
   case measure=>simp[intOf];omega
  obtain rfl:k=a.length+1:=by omega
  have HV:=Qd (EN.out cur cy H.out);have HL:=H.out.1;have hO:=H.out.2.1;have hnorm:=Bs (w0:=w) (v:=u5) (ds:=cur) (by rw[HL];exact hown) hO (by rw[HL];omega) hbel;rw[HV.out] at hnorm;have HNM:=Qd hnorm;clear hnorm HL hO;go_wp2_with fail
  refine HNM.out.mono ?_;rintro e w' ⟨v',rfl,hr,hb'⟩;go_wp2_with fail
  go_ret;exact⟨_,rfl,hr,hb'⟩
theorem Ro {w0 w:World}{v:Value}{x:Nat}(h:IsRes w v (Nt.digs x))(hb:Below w0.heap.size w0 w)(hs:(Nt.digs x).length<=8796093022208)(bit:Nat)(hbit:bit<=1):
 Calls Tryz.prog 211 #[v,.int .u32 (bit:Int)] w λe w'=>∃v',e= .returned v'/\IsRes w' v' (Nt.digs (2*x+bit))/\Below w0.heap.size w0 w'/\Below w.heap.size w w':=by
 obtain⟨A,c,rfl,h1,h2,h3,h4⟩:=h;refine(Sda A c w.heap.size (Nt.digs x) bit w h4 Lr (Nt.ok_digs x) h1 h2 hs hbit).mono ?_;rintro e w' ⟨v',rfl,hr,hb'⟩;rw[Nt.val_digs] at hr;exact⟨v',rfl,hr,hb.trans (hb'.mono hb.size),hb'⟩
theorem Yx (A A':Option Addr)(c c' B:Nat)(a b:List Nat)(w:World)(hx:Lies w B A (U a))(hy:Lies w B A' (U b))(hB:B<=w.heap.size)(ha:Nt.Ok a)(hb:Nt.Ok b)
 (hc:a.length<=c) (hc':b.length<=c') (hm:c<=9223372036854775807) (hm':c'<=9223372036854775807) (hA':A'=none->c'=0) (hs:a.length<=1000000) (hs':b.length<=1000000):
 Calls Tryz.prog 196 #[.slice A a.length c,.slice A' b.length c'] w λe w'=>∃v1 v2,e= .returned (.tuple #[v1,v2,.bool (decide (Nt.val b≠0))])/\
  IsRes w' v1 (Nt.digs (Nt.quo (Nt.val a) (Nt.val b)))/\IsRes w' v2 (Nt.digs (Nt.rest (Nt.val a) (Nt.val b)))/\Below w.heap.size w w':=by
 have NB:=Qd (Pl A' c' B b w hy hB hb hc' hm' hA' (by omega));have LN:=Qd (λx h=>Nt.len_le ha (x:=x) h);have LB:=Qd (λx h=>Nt.len_le hb (x:=x) h);have L2:=Qd (λ(x:Nat) (h:x<2*Nt.val b)=>show(Nt.digs x).length<=b.length+1 from Nt.digs_len_lt (by
  have:=Nt.val_lt hb;rw[Nat.pow_succ];omega))
 have BT:=Qd (λ(i:Nat) (wr:World) (hi:i<=9223372036854775807) (h:Below w.heap.size w wr)=>Laa A c B a i wr (hx.below (h.mono hB)) ha hc hm hi);have SB:=Qd (λ(x:Nat) (v:Value) (wr:World) (h:Below w.heap.size w wr) (hr:IsRes wr v (Nt.digs x)) (hl:(Nt.digs x).length<=8796093022208)=>show Calls Tryz.prog 213 #[v,.slice A' b.length c'] wr λe w'=>∃v',e= .returned (.tuple #[v',.bool (decide (Nt.val b<=x))])/\IsRes w' v' (Nt.digs (x-Nt.val b))/\Below w.heap.size w w'/\Below wr.heap.size wr w' from by
  obtain⟨A1,c1,rfl,h1,h2,h3,h4⟩:=hr;have hyw:=(hy.below (h.mono hB)).more (Nat.le_trans hB h.size);refine(Kaa A1 A' c1 c' wr.heap.size (Nt.digs x) b wr h4 hyw Lr (Nt.ok_digs x) hb h1 hc' h2 hm' hl (by omega)).mono ?_;rintro e w' ⟨v',rfl,hr',hb'⟩;rw[Nt.val_digs] at hr'⊢;exact⟨v',rfl,hr',h.trans (hb'.mono h.size),hb'⟩)
 have TZ:=Qd (Nt.top_zero ha);clear hx hy ha hb;generalize Nt.val a=va at*;generalize Nt.val b=vb at*;by_cases h0:vb=0
 ·subst h0
  have HZ:Hid ((Nt.digs 0).length=0):=Qd (by rw[Nt.digs_zero];rfl);go_enter Tryz.func196,Tryz.ntmps196
  go_wp2_with fail
  refine NB.out.mono ?_;rintro e w1 ⟨v1,rfl,⟨A1,c1,rfl,h1,h2,h3,h4⟩,hb1⟩;rw[HZ.out];go_wp2_with fail
  go_ret3
  refine⟨_,_,rfl,?_,?_,hb1⟩
  ·rw[Nt.quo_zero,Nt.digs_zero];exact IsRes.none_ _
  rw[Nt.rest_zero,Nt.digs_zero];exact IsRes.none_ _
 have hpos:0<vb:=by omega
 have HP:Hid (decide (vb≠0)=true):=Qd (by simp;omega);have hlp:(Nt.digs vb).length≠0:=λh=>h0 (Nt.digs_nil_iff.1 (List.eq_nil_of_length_eq_zero h));have hle:(((Nt.digs vb).length:Int)==0)=false:=by simp;intro h;exact hlp (by rw[h];rfl)
 have HI1:Hid (Nt.quo va vb=va/vb):=Qd rfl;have HI2:Hid (Nt.rest va vb=va%vb):=Qd (Nt.rest_pos h0);rw[HP.out];generalize Nt.quo va vb=Q at*;generalize Nt.rest va vb=R at*;clear h0 hlp;go_enter Tryz.func196,Tryz.ntmps196
 go_wp2_with fail
 refine NB.out.mono ?_;rintro e w1 ⟨v1,rfl,⟨A1,c1,rfl,h1,h2,h3,h4⟩,hb1⟩;clear h3 h4;go_wp2_with fail
 go_loopw [7,8,9] (λvq vr i wr=>∃(k q r:Nat),k<=32*a.length/\i= .int .i64 ((k:Int)-1)/\IsRes wr vq (Nt.digs q)/\IsRes wr vr (Nt.digs r)/\Below w.heap.size w wr/\Hid (q=va/2^k/vb/\r=va/2^k%vb)) (λ_ _ i _=>(intOf i+1).toNat)
 case atStart=>exact⟨32*a.length,0,0,Lr,by go_num,by rw[Nt.digs_zero];exact IsRes.none_ _,by rw[Nt.digs_zero];exact IsRes.none_ _,hb1,Qd (by rw[TZ.out];exact⟨(Nat.zero_div _).symm,(Nat.zero_mod _).symm⟩)⟩
 case round=>
  obtain⟨k,q,r,hk,rfl,hrq,hrr,hbel,H⟩:=hrel;rcases k with _ |k
  ·have HE:Hid (Q=q/\R=r):=Qd (by
    have:=H.out;rw[Nat.pow_zero,Nat.div_one] at this;rw[HI1.out,HI2.out,this.1,this.2];exact⟨rfl,rfl⟩)
   go_wp2_with fail
   go_ret3
   exact⟨_,_,rfl,by rw[HE.out.1];exact hrq,by rw[HE.out.2];exact hrr,hbel⟩
  have hk1:((k+1:Nat):Int)-1=(k:Int):=by omega
  rw[hk1];clear hk1;have hrb:r<vb:=by rw[H.out.2];exact Nat.mod_lt _ hpos
  have hqa:2*q+1<=2*va+1:=by
   have:q<=va:=by rw[H.out.1];exact Nat.le_trans (Nat.div_le_self _ _) (Nat.div_le_self _ _)
   omega
  have Lr:=LB.out r (by omega);have Lq:=LN.out q (by omega);have DS:=Qd (λbit hb=>Nt.div_step (n:=va/2^(k+1)) (b:=vb) (q:=q) (r:=r) (bit:=bit) hpos H.out.1 H.out.2 hb);have HH:=Qd (Nt.half_step va k);go_wp2_with fail
  refine(BT.out k _ (by omega) hbel).mono ?_;rintro e w' ⟨bit,rfl,hbit,HBIT,rfl⟩;go_wp2_with fail
  refine(Ro hrr hbel (by omega) bit hbit).mono ?_;rintro e w2 ⟨v2,rfl,hr2,hb2,hbb2⟩;have L2r:=L2.out (2*r+bit) (by omega);have hrq2:=hrq.below hbb2;go_wp2_with fail
  refine(SB.out (2*r+bit) v2 _ hb2 hr2 (by omega)).mono ?_;rintro e w3 ⟨v3,rfl,hr3,hb3,hbb3⟩;have hrq3:=hrq2.below hbb3;have hr23:=hr2.below hbb3;have HN:Hid (va/2^k=2*(va/2^(k+1))+bit):=Qd (by rw[HBIT.out];exact HH.out);by_cases hge:vb<=2*r+bit
  ·have hD:decide (vb<=2*r+bit)=true:=by simpa using hge
   have HDS:=Qd ((DS.out bit hbit).1 hge);rw[hD];clear hD;go_wp2_with fail
   refine(Ro hrq3 hb3 (by omega) 1 (by omega)).mono ?_;rintro e w4 ⟨v4,rfl,hr4,hb4,hbb4⟩;have hr34:=hr3.below hbb4;go_wp2_with fail
   go_roundw
   case rel=>exact⟨k,2*q+1,2*r+bit-vb,by omega,by go_num,hr4,hr34,hb4,Qd (by rw[HN.out];exact HDS.out)⟩
   case measure=>first|(simp[intOf];done) |(simp[intOf];omega)
  have hD:decide (vb<=2*r+bit)=false:=by simpa using hge
  have HDS:=Qd ((DS.out bit hbit).2 hge);rw[hD];clear hD;go_wp2_with fail
  refine(Ro hrq3 hb3 (by omega) 0 (by omega)).mono ?_;rintro e w4 ⟨v4,rfl,hr4,hb4,hbb4⟩;have hr34:=hr23.below hbb4;go_wp2_with fail
  go_roundw
  case rel=>exact⟨k,2*q+0,2*r+bit,by omega,by go_num,hr4,hr34,hb4,Qd (by rw[HN.out];exact HDS.out)⟩
  case measure=>first|(simp[intOf];done) |(simp[intOf];omega)
section
open Go.RowKit
section
variable {w0 w : World} {v1 v2 : Value} {l1 l2 : List Nat}
theorem Ql (h1:IsRes w v1 l1)(h2:IsRes w v2 l2)(o1:Nt.Ok l1)(o2:Nt.Ok l2)(s1:l1.length<=1000000)(s2:l2.length<=1000000)(hb:Below w0.heap.size w0 w):
 Calls Tryz.prog 196 #[v1,v2] w λe w'=>∃u1 u2,e= .returned (.tuple #[u1,u2,.bool (decide (Nt.val l2≠0))])/\IsRes w' u1 (Nt.digs (Nt.quo (Nt.val l1) (Nt.val l2)))/\IsRes w' u2 (Nt.digs (Nt.rest (Nt.val l1) (Nt.val l2)))/\Below w0.heap.size w0 w'/\Below w.heap.size w w':=by
 obtain⟨A,c,rfl,a1,a2,a3,a4⟩:=h1;obtain⟨A',c',rfl,b1,b2,b3,b4⟩:=h2;refine(Yx A A' c c' w.heap.size l1 l2 w a4 b4 Lr o1 o2 a1 b1 a2 b2 b3 s1 s2).mono ?_;rintro e w' ⟨u1,u2,rfl,r1,r2,hb'⟩;exact⟨u1,u2,rfl,r1,r2,hb.trans (hb'.mono hb.size),hb'⟩
theorem So (h1:IsRes w v1 l1)(o1:Nt.Ok l1)(s1:l1.length<=1000000)(hb:Below w0.heap.size w0 w):
 Calls Tryz.prog 97 #[v1] w λe w'=>∃v,e= .returned v/\IsRes w' v (Nt.digs (Nt.val l1))/\Below w0.heap.size w0 w'/\Below w.heap.size w w':=by
 obtain⟨A,c,rfl,a1,a2,a3,a4⟩:=h1;refine(Pl A c w.heap.size l1 w a4 Lr o1 a1 a2 a3 (by omega)).mono ?_;rintro e w' ⟨v,rfl,r,hb'⟩;exact⟨v,rfl,r,hb.trans (hb'.mono hb.size),hb'⟩
end
theorem Nz (va vb:Value)(a b:List Nat)(w:World)(hx:IsRes w va a)(hy:IsRes w vb b)(ha:Nt.Ok a)(hb:Nt.Ok b)(hs:a.length<=64)(hs':b.length<=64):
 Calls Tryz.prog 195 #[va,vb] w λe w'=>∃v,e= .returned v/\IsRes w' v (Nt.digs (Nat.gcd (Nt.val a) (Nt.val b)))/\Below w.heap.size w w':=by
 have hda:=Nt.digs_len_le ha;have hdb:=Nt.digs_len_le hb;have NA:=Qd (So hx ha (by omega) Br);have NB:=Qd (λ(wx:World) (h:Below w.heap.size w wx)=>So (hy.below h) hb (by omega) h);have EU:=Qd (Nt.euc_start ha hb hs hs');obtain⟨N,hN⟩:∃N,N=32*64+32*64+1:=⟨_,rfl⟩;rw[<-hN] at EU;have HN:Hid (N<100000):=Qd (by omega);clear hN;have hla:(Nt.digs (Nt.val a)).length<=1000000:=by omega
 have hlb:(Nt.digs (Nt.val b)).length<=1000000:=by omega
 clear hx hy ha hb hs hs' hda hdb;obtain⟨x0,hx0⟩:∃x,x=Nt.val a:=⟨_,rfl⟩;obtain⟨y0,hy0⟩:∃y,y=Nt.val b:=⟨_,rfl⟩;rw[<-hx0] at NA EU hla⊢;rw[<-hy0] at NB EU hlb⊢;clear hx0 hy0;go_enter Tryz.func195,Tryz.ntmps195
 go_wp2_with fail
 refine NA.out.mono ?_;rintro e w1 ⟨v1,rfl,hr1,hb1,_⟩;go_wp2_with fail
 refine(NB.out w1 hb1).mono ?_;rintro e w2 ⟨v2,rfl,hr2,hb2,hb12⟩;have hr1':=hr1.below hb12;obtain⟨A,c,rfl,a1,a2,a3,a4⟩:=hr1';obtain⟨A',c',rfl,b1,b2,b3,b4⟩:=hr2;have HR0:Hid (IsRes w2 (.slice A (Nt.digs x0).length c) (Nt.digs x0)/\IsRes w2 (.slice A' (Nt.digs y0).length c') (Nt.digs y0)):=Qd ⟨⟨_,_,rfl,a1,a2,a3,a4⟩,⟨_,_,rfl,b1,b2,b3,b4⟩⟩;clear hr1 hb1 hb12 a1 a2 a3 a4 b1 b2 b3 b4 NA NB;go_wp2_with fail
 go_loopg [5,6,7] 100000 (λgk av bv kv wr=>∃(A A':Option Addr) (c c' x y k:Nat),av= .slice A (Nt.digs x).length c/\bv= .slice A' (Nt.digs y).length c'/\kv= .int .i64 (k:Int)/\Hid (k+gk=100000)/\Hid (Nt.EucAt (2^N) x y k)/\Hid (IsRes wr (.slice A (Nt.digs x).length c) (Nt.digs x)/\IsRes wr (.slice A' (Nt.digs y).length c') (Nt.digs y))/\(Nt.digs x).length<=1000000/\(Nt.digs y).length<=1000000/\Hid (Nat.gcd x y=Nat.gcd x0 y0)/\Below w.heap.size w wr)
 case atStart=>exact⟨_,_,_,_,x0,y0,0,rfl,rfl,rfl,Qd (by omega),EU,HR0,hla,hlb,Qd rfl,hb2⟩
 case round=>
  clear EU HR0 hla hlb hb2;obtain⟨P,P',k1,k2,x,y,k,rfl,rfl,rfl,HK,EU,HR,hlx,hly,HG,hbel⟩:=hrel;by_cases h0:y=0
  ·subst h0
   have HZ:Hid ((Nt.digs 0).length=0):=Qd (by rw[Nt.digs_zero];rfl);have HE:Hid (Nat.gcd x0 y0=x):=Qd (by rw[<-HG.out,Nat.gcd_zero_right]);have HRX:=Qd HR.out.1;rw[HZ.out];clear HG HR;rcases Bool.eq_false_or_eq_true (decide ((k:Int)<100000)) with hk2 |hk2
   all_goals
    go_wp2_with fail
    go_ret;exact⟨_,rfl,by rw[HE.out];exact HRX.out,hbel⟩
  have hlp:0<(Nt.digs y).length:=by
   rcases Nat.eq_zero_or_pos (Nt.digs y).length with h |h
   ·exact absurd (Nt.digs_nil_iff.1 (List.eq_nil_of_length_eq_zero h)) h0
   exact h
  have HK2:Hid (k<100000):=Qd (by
   rcases Nat.lt_or_ge k 100000 with h |h
   ·exact h
   exact absurd (EU.out.done (by have:=HN.out;omega)) h0)
  have hk2:decide ((k:Int)<100000)=true:=by have:=HK2.out;simp;omega
  have hkb:k<1000000000:=by have:=HK2.out;omega
  have DM:=Qd (Ql (w0:=w) HR.out.1 HR.out.2 (Nt.ok_digs x) (Nt.ok_digs y) hlx hly hbel);rw[Nt.val_digs,Nt.val_digs,Nt.rest_pos h0] at DM;have hyp:x%y<y:=Nat.mod_lt _ (by omega);have hlr:(Nt.digs (x%y)).length<=1000000:=by
   have h:=Nt.digs_len_le_of (Nat.le_of_lt hyp);omega
  have HG2:Hid (Nat.gcd y (x%y)=Nat.gcd x0 y0):=Qd (by rw[Nt.gcd_step];exact HG.out);have EU2:=Qd (EU.out.step (by omega));have HRY:=Qd HR.out.2;clear HR HG h0 EU;obtain⟨r,hr⟩:∃r,r=x%y:=⟨_,rfl⟩;rw[<-hr] at DM hyp hlr HG2 EU2;clear hr;go_wp2_with fail
  refine DM.out.mono ?_;rintro e w1 ⟨u1,u2,rfl,hr1,hr2,hb1,hb01⟩;have hry:=HRY.out.below hb01;obtain⟨A2,c2,rfl,q1,q2,q3,q4⟩:=hr2;have hr2':IsRes w1 (.slice A2 (Nt.digs r).length c2) (Nt.digs r):=⟨A2,c2,rfl,q1,q2,q3,q4⟩;clear q1 q2 q3 q4 hr1 hb01 HRY DM;have HRN:=Qd (And.intro hry hr2');clear hry hr2';go_wp2_with fail
  go_roundg (gk-1)
  case measure=>have:=HK2.out;have:=HK.out;omega
  case rel=>exact⟨_,_,_,_,y,r,k+1,rfl,rfl,by go_num,Qd (by have:=HK2.out;have:=HK.out;omega),EU2,HRN,hly,hlr,HG2,hb1⟩
def ResL (w:World)(v:Value)(l:List Nat):Prop:=IsRes w v l/\Nt.Ok l/\l.length<=64
theorem ResL.below {w w':World}{v:Value}{l:List Nat}(h:ResL w v l)(hb:Below w.heap.size w w'):ResL w' v l:=⟨h.1.below hb,h.2⟩
theorem IsRes.setRow {w:World}{v:Value}{l:List Nat}{g:Nat}{old:Array Value}{t:TypeId}(h:IsRes w v l)(hg:w.heap[g]? =some (.cells old t (0,0)))(ho:∀(i:Nat) (k:IntKind) (n:Int),old[i]? ≠some (Value.int k n))(cs:Array Value):IsRes (w.setRow g cs) v l:=by
 obtain⟨A,c,h1,h2,h3,h4,h5⟩:=h;refine⟨A,c,h1,h2,h3,h4,?_⟩;rcases h5 with h5 |⟨b,off,e,hb,hc⟩
 ·exact .inl h5
 cases l with
 |nil=>exact .inl rfl
 |cons x r=>
  have hne:b≠g:=by
   rintro rfl;have h0:=hc 0 _ rfl;rw[cell_of_row w b (off+0) old t (0,0) hg] at h0;exact ho _ _ _ h0
  refine .inr ⟨b,off,e,by rw[size_setRow];exact hb,λi u hu=>?_⟩;rw[World.cell?_of_block (w:=w) (by simp only[World.setRow,Array.getElem?_modify];rw[if_neg (by omega)])];exact hc i u hu
theorem ResL.setRow {w:World}{v:Value}{l:List Nat}{g:Nat}{old:Array Value}{t:TypeId}(h:ResL w v l)(hg:w.heap[g]? =some (.cells old t (0,0)))(ho:∀(i:Nat) (k:IntKind) (n:Int),old[i]? ≠some (Value.int k n))(cs:Array Value):ResL (w.setRow g cs) v l:=⟨h.1.setRow hg ho cs,h.2⟩
theorem Lc (n:Bool)(A:Option Addr)(k c:Nat):∀(i:Nat) (kk:IntKind) (m:Int),(#[.bool n,.slice A k c]:Array Value)[i]? ≠some (Value.int kk m):=by
 intro i kk m h
 match i with
 | 0=>cases h
 | 1=>cases h
 |i+2=>simp at h
theorem Ma (n:Bool)(A:Option Addr)(k c:Nat)(A':Option Addr)(k' c':Nat):∀(i:Nat) (kk:IntKind) (m:Int),(#[.bool n,.slice A k c,.slice A' k' c']:Array Value)[i]? ≠some (Value.int kk m):=by
 intro i kk m h
 match i with
 | 0=>cases h
 | 1=>cases h
 | 2=>cases h
 |i+3=>simp at h
theorem Gf:(Tryz.prog.info? 62).map (·.size)=some 2:=by kernel_rfl
theorem Tg:(Tryz.prog.info? 24).map (·.size)=some 3:=by kernel_rfl
theorem Ae (n:Bool)(A:Option Addr)(k c:Nat):(#[.bool n,.slice A k c]:Array Value).all (·.oneCell')=true:=by simp[Value.oneCell']
theorem Fj (n:Bool)(A:Option Addr)(k c:Nat)(A':Option Addr)(k' c':Nat):(#[.bool n,.slice A k c,.slice A' k' c']:Array Value).all (·.oneCell')=true:=by simp[Value.oneCell']
theorem rBelow.setRow {B:Nat}{a w:World}(h:Below B a w){g:Nat}(hg:B<=g)(cs:Array Value):Below B a (w.setRow g cs):=
 ⟨h.os,h.tape,h.output,by rw[size_setRow];exact h.size,λk hk=>by
  have e:(w.setRow g cs).heap[k]? =w.heap[k]? :=by
   simp only[World.setRow,Array.getElem?_modify];rw[if_neg (by omega)]
  rw[e];exact h.block k hk⟩
theorem Eb {w:World}{g:Nat}{old cs:Array Value}{t:TypeId}(h:w.heap[g]? =some (.cells old t (0,0))):(w.setRow g cs).heap[g]? =some (.cells cs t (0,0)):=by
 simp[World.setRow,Array.getElem?_modify,h]
theorem Ft (x0 x1 x2:Value):(Tryz.prog.info? 24).map (·.size)=some (#[x0,x1,x2]:Array Value).size:=Tg
theorem Wf {ops:Array Oper}{rest:List Oper}{o:Oper}{a:Act}{w:World}{Q:Exit->Act->World->Prop}{b:Bool}{A A':Option Addr}{k c k' c':Nat}{u0 u1 u2:Value}(hgd:o.guard=none)(x y:Operand)(ho:o.op= .store 24 x y)(g:Nat)
 (hx:a.eval x= .pointer (some ⟨g,0,none⟩)) (hy:a.eval y= .agg #[.bool b,.slice A k c,.slice A' k' c']) (hg:w.heap[g]? =some (.cells #[u0,u1,u2] 24 (0,0)))
 (h:wpList Tryz.prog ops Q rest (a.put o.dst undef) (w.setRow g #[.bool b,.slice A k c,.slice A' k' c'])):wpList Tryz.prog ops Q (o::rest) a w:=
 wpList_store_row hgd _ x y ho g _ hx hy _ _ hg (Ft _ _ _) rfl (Fj _ _ _ _ _ _ _) h
def Dq (w:World)(n:Bool)(l:List Nat)(e:Ending)(w':World):Prop:=∃v,e= .returned (.agg #[.bool n,v])/\ResL w' v l/\Below w.heap.size w w'
theorem Ug (n:Bool)(v:Value)(l:List Nat)(w:World)(h:ResL w v l):
 Calls Tryz.prog 61 #[.agg #[.bool n,v]] w (Dq w (Rt.nrm n (Nt.val l)) (Nt.digs (Nt.val l))):=by
 obtain⟨hr,ho,hl⟩:=h;have hb0:∀o1 o2,Below w.heap.size w ((w.alloc o1).alloc o2):=λo1 o2=>(Br.alloc Lr _).alloc (by simp) _;have HN:=Qd (λo1 o2=>So (hr.below (hb0 o1 o2)) ho (by omega) (hb0 o1 o2));have hd:=Nt.digs_len_le ho;have HO:Hid (Nt.Ok (Nt.digs (Nt.val l))/\(Nt.digs (Nt.val l)).length<=64):=Qd ⟨Nt.ok_digs _,by omega⟩;have HZ:Hid ((Nt.digs (Nt.val l)).length=0->Nt.digs (Nt.val l)=[]/\Rt.nrm n (Nt.val l)=false):=Qd (λe=>by
  have e1:=List.eq_nil_of_length_eq_zero e;have e2:=Nt.digs_nil_iff.1 e1;exact⟨e1,by rw[e2];simp[Rt.nrm]⟩)
 have HY:Hid ((Nt.digs (Nt.val l)).length≠0->Rt.nrm n (Nt.val l)=n):=Qd (λe=>by
  have e2:Nt.val l≠0:=λe3=>e (by rw[e3,Nt.digs_zero];rfl);have e3:(Nt.val l==0)=false:=by simpa using e2
  simp[Rt.nrm,e3])
 have HB:=Qd hb0;obtain⟨A,c,rfl,-,-,-,-⟩:=hr;clear ho hl hd hb0;generalize Nt.digs (Nt.val l)=d at*;generalize Rt.nrm n (Nt.val l)=N at*;generalize l.length=ll at*;have HI2:Hid (∀(b:Bool) (A:Option Addr) (k c:Nat),(Tryz.prog.info? 62).map (·.size)=some (#[.bool b,.slice A k c]:Array Value).size):=Qd (λ_ _ _ _=>Gf);go_enter Tryz.func61,Tryz.ntmps61
 go_wp2_with fail
 refine(HN.out _ _).mono ?_;rintro e w2 ⟨v2,rfl,hr2,hb2,hb3⟩;have hs2:=hb3.size;have HG1:Hid (w2.heap[w.heap.size+1]? =some (.cells #[.bool false,.slice none 0 0] 62 (0,0))):=Qd ((hb3.block (w.heap.size+1) (by simp)).trans (by
  have:=heap_alloc_new (w.alloc (.cells #[.bool n,.slice A ll c] 62)) (.cells #[.bool false,.slice none 0 0] 62);rwa[show(w.alloc (.cells #[.bool n,.slice A ll c] 62)).heap.size=w.heap.size+1 by simp] at this))
 have q0:w2.cell? ⟨w.heap.size,0,none⟩=some (.bool n):=(hb3.cell (p:=⟨w.heap.size,0,none⟩) (by show w.heap.size<_;simp;omega)).trans (by go_simp);obtain⟨A2,c2,rfl,k1,k2,k3,k4⟩:=hr2;have HR2:Hid (IsRes w2 (.slice A2 d.length c2) d):=Qd ⟨A2,c2,rfl,k1,k2,k3,k4⟩;clear k3 k4 hb3;by_cases h0:d.length=0
 ·have hz:((d.length:Int)==0)=true:=by rw[h0];rfl
  have HD:=Qd (HZ.out h0);clear h0;go_wp2_with (first
   |(with_reducible refine wpList_store_row rfl 62 (.tmp 2) (.tmp 10) rfl (w.heap.size+1) #[.bool false,.slice none 0 0] rfl rfl 62 #[.bool false,.slice none 0 0] HG1.out (HI2.out _ _ _ _) rfl (Ae _ _ _ _) ?_))
  refine bodyPost_ret (results_cell_row (by rfl) _ _ (w.heap.size+1) 62 #[.bool false,.slice none 0 0] (0,0) _ (by rfl) (Eb HG1.out) Tryz.underlying62 rfl (HI2.out _ _ _ _)) rfl ⟨.slice none 0 0,by rw[HD.out.2],by rw[HD.out.1];exact⟨⟨none,0,rfl,Lr,by omega,λ_=>rfl,.inl rfl⟩,(λx h=>by cases h),by simp⟩,rBelow.setRow hb2 (by omega) _⟩
 have hz:((d.length:Int)==0)=false:=beq_eq_false_iff_ne.2 (by omega);have HD:=Qd (HY.out h0);clear h0;go_wp2_with (first
  |(with_reducible refine wpList_store_row rfl 62 (.tmp 2) (.tmp 14) rfl (w.heap.size+1) #[.bool n,.slice A2 d.length c2] rfl rfl 62 #[.bool false,.slice none 0 0] HG1.out (HI2.out _ _ _ _) rfl (Ae _ _ _ _) ?_))
 refine bodyPost_ret (results_cell_row (by rfl) _ _ (w.heap.size+1) 62 #[.bool n,.slice A2 d.length c2] (0,0) _ (by rfl) (Eb HG1.out) Tryz.underlying62 rfl (HI2.out _ _ _ _)) rfl ⟨.slice A2 d.length c2,by rw[HD.out],⟨HR2.out.setRow HG1.out (Lc _ _ _ _) _,HO.out⟩,rBelow.setRow hb2 (by omega) _⟩
end
structure Later (w0:World) where
 w:World
 b:Below w0.heap.size w0 w
instance Later.nonempty (w0:World):Nonempty (Later w0):=⟨⟨w0,Br⟩⟩
theorem Later.call {w0:World}{P:Program}{f:FuncId}{args:Array Value}{x:Later w0}{v:Value}
 (h:Calls P f args x.w λe w'=>e= .returned v/\Below x.w.heap.size x.w w'):Calls P f args x.w λe w''=>e= .returned v/\∃y:Later w0,w''=y.w:=
 h.mono λ_ w' ⟨he,hb⟩=>⟨he,⟨w',x.b.trans (hb.mono x.b.size)⟩,rfl⟩
section
open Go.RowKit
section
variable {P : Program} {ops : Array Oper} {Q : Exit -> Act -> World -> Prop} {md : Region.Mode}
theorem Gg {l:Array Bool}{i:Nat}(h:i∈Region.ready md ops l):i<ops.size/\l.getD i true=false/\((ops[i]?).map (·.after.all λe=> !Region.binds md e||l.getD e.on false)).getD false=true:=by
 simp only[Region.ready,List.mem_filter,List.mem_range,Bool.and_eq_true,Bool.not_eq_true'] at h;exact⟨h.1,h.2.1,h.2.2⟩
theorem Cs {l:Array Bool}(h:l.toList.count false=0)(i:Nat):l.getD i true=true:=by
 rw[List.count_eq_zero] at h;rw[Array.getD_eq_getD_getElem?];cases e:l[i]? with
 |none=>rfl
 |some b=>
  cases b
  ·exact absurd (by have:=Array.mem_of_getElem? e;simpa using this) h
  rfl
theorem Zl:∀(l:List Bool) (i:Nat),l[i]? =some false->(l.set i true).count false+1=l.count false
 | [],i,h=>by simp at h
 |b::r,0,h=>by
  simp at h;subst h;simp
 |b::r,i+1,h=>by
  have:=Zl r i (by simpa using h);cases b<;>simp<;>omega
theorem Th (I:Array Bool->Act->World->Prop)
 (hI:∀l a w,I l a w->∀i,i∈Region.ready md ops l->wpOp P ops Q i (I (l.setIfInBounds i true)) a w)
 (hd:∀l a w,I l a w->Region.ready md ops l=[]->Q .normal a w):
 ∀n l a w,l.toList.count false<=n->I l a w->wpAny P md ops Q n l a w:=by
 intro n
 induction n with
 |zero=>
  intro l a w hc h;have hr:Region.ready md ops l=[]:=by
   rw[List.eq_nil_iff_forall_not_mem];intro i hi;have:=(Gg hi).2.1;rw[Cs (by omega)] at this;cases this
  exact⟨hr,hd l a w h hr⟩
 |succ n ih=>
  intro l a w hc h;refine⟨hd l a w h,λi hi=>wpOp_mono (λa' w' h'=>ih _ a' w' ?_ h') (hI l a w h i hi)⟩;have h1:=(Gg hi).2.1;rw[Array.getD_eq_getD_getElem?] at h1;have h2:l.toList[i]? =some false:=by
   cases e:l[i]? with
   |none=>rw[e] at h1;cases h1
   |some b=>rw[e] at h1;simp at h1;subst h1;simpa using e
  have h3:=Zl _ _ h2;have h4:(l.setIfInBounds i true).toList=l.toList.set i true:=by simp
  rw[h4];omega
theorem Ca {i:Nat}{o:Oper}{K:Act->World->Prop}{a:Act}{w:World}(h:ops[i]? =some o)(hg:o.guard=none)(hw:o.wp P a w K Q):wpOp P ops Q i K a w:=by
 unfold wpOp;rw[h];have:Region.wanted o (yielded ops a.tmps)=true:=by simp[Region.wanted,hg]
 simp only[this,if_true];exact .inl hw
end
end
theorem Sla (n:Bool)(v1 v2:Value)(l1 l2:List Nat)(w:World)(h1:ResL w v1 l1)(h2:ResL w v2 l2):
 Calls Tryz.prog 178 #[.agg #[.bool n,v1,v2]] w (Dq w (Rt.nrm n (Nt.val l1)) (Nt.digs (Nt.val l1))):=by
 have hb0:∀o1 o2,Below w.heap.size w ((w.alloc o1).alloc o2):=λo1 o2=>(Br.alloc Lr _).alloc (by simp) _;have HN:=Qd (λo1 o2=>Ug n v1 _ _ (h1.below (hb0 o1 o2)));have HB:=Qd hb0;obtain⟨⟨A1,c1,rfl,-⟩,-⟩:=h1;obtain⟨⟨A2,c2,rfl,-⟩,-⟩:=h2;clear hb0;generalize Rt.nrm n (Nt.val l1)=n2 at*;generalize Nt.digs (Nt.val l1)=d2 at*;generalize l1.length=k1 at*;generalize l2.length=k2 at*;have HI2:Hid (∀(b:Bool) (A:Option Addr) (k c:Nat),(Tryz.prog.info? 62).map (·.size)=some (#[.bool b,.slice A k c]:Array Value).size):=Qd (λ_ _ _ _=>Gf);go_enter Tryz.func178,Tryz.ntmps178
 go_wp2_with fail
 refine(HN.out _ _).mono ?_;rintro e w2 ⟨v3,rfl,hr2,hb2⟩;have hb3:=(HB.out _ _).trans (hb2.mono (HB.out _ _).size);have HG1:Hid (w2.heap[w.heap.size+1]? =some (.cells #[.bool false,.slice none 0 0] 62 (0,0))):=Qd ((hb2.block (w.heap.size+1) (by simp)).trans (by
  have:=heap_alloc_new (w.alloc (.cells #[.bool n,.slice A1 k1 c1,.slice A2 k2 c2] 24)) (.cells #[.bool false,.slice none 0 0] 62);rwa[show(w.alloc (.cells #[.bool n,.slice A1 k1 c1,.slice A2 k2 c2] 24)).heap.size=w.heap.size+1 by simp] at this))
 have HR2:=Qd (hr2.setRow HG1.out (Lc _ _ _ _) #[.bool n2,v3]);obtain⟨⟨A3,c3,rfl,-⟩,-⟩:=hr2;clear hb2;generalize d2.length=k3 at*;go_wp2_with (first
  |(with_reducible refine wpList_store_row rfl 62 (.tmp 2) (.tmp 8) rfl (w.heap.size+1) #[.bool n2,.slice A3 k3 c3] rfl rfl 62 #[.bool false,.slice none 0 0] HG1.out (HI2.out _ _ _ _) rfl (Ae _ _ _ _) ?_))
 refine bodyPost_ret (results_cell_row (by rfl) _ _ (w.heap.size+1) 62 #[.bool n2,.slice A3 k3 c3] (0,0) _ (by rfl) (Eb HG1.out) Tryz.underlying62 rfl (HI2.out _ _ _ _)) rfl ⟨.slice A3 k3 c3,rfl,HR2.out,rBelow.setRow hb3 (by omega) _⟩
theorem Tla (n:Bool)(v1 v2:Value)(l1 l2:List Nat)(w:World)(h1:ResL w v1 l1)(h2:ResL w v2 l2):
 Calls Tryz.prog 179 #[.agg #[.bool n,v1,v2]] w (Dq w (Rt.nrm false (Nt.val l2)) (Nt.digs (Nt.val l2))):=by
 have hb0:∀o1 o2,Below w.heap.size w ((w.alloc o1).alloc o2):=λo1 o2=>(Br.alloc Lr _).alloc (by simp) _;have HN:=Qd (λo1 o2=>Ug false v2 _ _ (h2.below (hb0 o1 o2)));have HB:=Qd hb0;obtain⟨⟨A1,c1,rfl,-⟩,-⟩:=h1;obtain⟨⟨A2,c2,rfl,-⟩,-⟩:=h2;clear hb0;generalize Rt.nrm false (Nt.val l2)=n2 at*;generalize Nt.digs (Nt.val l2)=d2 at*;generalize l1.length=k1 at*;generalize l2.length=k2 at*;have HI2:Hid (∀(b:Bool) (A:Option Addr) (k c:Nat),(Tryz.prog.info? 62).map (·.size)=some (#[.bool b,.slice A k c]:Array Value).size):=Qd (λ_ _ _ _=>Gf);go_enter Tryz.func179,Tryz.ntmps179
 go_wp2_with fail
 refine(HN.out _ _).mono ?_;rintro e w2 ⟨v3,rfl,hr2,hb2⟩;have hb3:=(HB.out _ _).trans (hb2.mono (HB.out _ _).size);have HG1:Hid (w2.heap[w.heap.size+1]? =some (.cells #[.bool false,.slice none 0 0] 62 (0,0))):=Qd ((hb2.block (w.heap.size+1) (by simp)).trans (by
  have:=heap_alloc_new (w.alloc (.cells #[.bool n,.slice A1 k1 c1,.slice A2 k2 c2] 24)) (.cells #[.bool false,.slice none 0 0] 62);rwa[show(w.alloc (.cells #[.bool n,.slice A1 k1 c1,.slice A2 k2 c2] 24)).heap.size=w.heap.size+1 by simp] at this))
 have HR2:=Qd (hr2.setRow HG1.out (Lc _ _ _ _) #[.bool n2,v3]);obtain⟨⟨A3,c3,rfl,-⟩,-⟩:=hr2;clear hb2;generalize d2.length=k3 at*;go_wp2_with (first
  |(with_reducible refine wpList_store_row rfl 62 (.tmp 2) (.tmp 6) rfl (w.heap.size+1) #[.bool n2,.slice A3 k3 c3] rfl rfl 62 #[.bool false,.slice none 0 0] HG1.out (HI2.out _ _ _ _) rfl (Ae _ _ _ _) ?_))
 refine bodyPost_ret (results_cell_row (by rfl) _ _ (w.heap.size+1) 62 #[.bool n2,.slice A3 k3 c3] (0,0) _ (by rfl) (Eb HG1.out) Tryz.underlying62 rfl (HI2.out _ _ _ _)) rfl ⟨.slice A3 k3 c3,rfl,HR2.out,rBelow.setRow hb3 (by omega) _⟩
structure MI (w:World) (P Q:Array Value) (N1 N2:Bool) (D1 D2:List Nat) (b0 b1 b2 b3 b4 b5 b6 b7:Bool) (x15 x16 x17 x18 x6 x7:Value) (wx:World):Prop where
 below:Below w.heap.size w wx
 v15:b0=true->x15= .agg P
 v16:b1=true->∃v,x16= .agg #[.bool N1,v]/\ResL wx v D1
 v17:b2=true->x17= .agg Q
 v18:b3=true->∃v,x18= .agg #[.bool N2,v]/\ResL wx v D2
 v6:b4=true->∃g n A k c,x6= .pointer (some ⟨g,0,none⟩)/\w.heap.size<=g/\wx.heap[g]? =some (.cells #[.bool n,.slice A k c] 62 (0,0))/\(b6=true->x16= .agg #[.bool n,.slice A k c])
 v7:b5=true->∃g n A k c,x7= .pointer (some ⟨g,0,none⟩)/\w.heap.size<=g/\wx.heap[g]? =some (.cells #[.bool n,.slice A k c] 62 (0,0))/\(b7=true->x18= .agg #[.bool n,.slice A k c])
 o6:b6=true->b4=true/\b1=true
 o7:b7=true->b5=true/\b3=true
 ne:b4=true->b5=true->x6≠x7
def Am (g:Nat)(P Q:Array Value)(x15 x16 x17 x18 x6 x7:Value):Act:={tmps:= #[.agg P,.agg Q,.pointer (some ⟨g,0,none⟩),.pointer (some ⟨g+1,0,none⟩),.pointer (some ⟨g+1+1,0,none⟩),.int .i64 0,x6,x7,undef,undef,undef,undef,undef,undef,undef,x15,x16,x17,x18,undef,undef,undef,undef,undef,undef,undef,undef,undef,undef,undef,undef,undef,undef,undef,undef,undef,undef,undef,undef,undef,undef,undef,undef,undef,undef,undef,undef,undef,undef,undef,undef,undef,undef,undef,undef,undef,undef,undef,undef,undef,undef,undef,undef,undef,undef,undef,undef],defers:=[]}
def Jqa (w:World)(g:Nat)(P Q:Array Value)(N1 N2:Bool)(D1 D2:List Nat)(l:Array Bool)(a:Act)(wx:World):Prop:=
 ∃b0 b1 b2 b3 b4 b5 b6 b7 x15 x16 x17 x18 x6 x7,l= #[b0,b1,b2,b3,b4,b5,b6,b7]/\a=Am g P Q x15 x16 x17 x18 x6 x7/\MI w P Q N1 N2 D1 D2 b0 b1 b2 b3 b4 b5 b6 b7 x15 x16 x17 x18 x6 x7 wx
theorem Iw {w:World}{g g':Nat}{cs:Array Value}(h:g≠g'):(w.setRow g cs).heap[g']? =w.heap[g']? :=by
 simp only[World.setRow,Array.getElem?_modify];rw[if_neg (by omega)]
theorem Ib {w:World}{g:Nat}{o:Obj}(h:w.heap[g]? =some o):g<w.heap.size:=by
 rcases Nat.lt_or_ge g w.heap.size with hl |hl
 ·exact hl
 rw[Array.getElem?_eq_none hl] at h;cases h
theorem Maa {md:Region.Mode}{ops:Array Oper}{l:Array Bool}{i:Nat}(h:i<ops.size)(h1:l.getD i true=false)(h2:((ops[i]?).map (·.after.all λe=> !Region.binds md e||l.getD e.on false)).getD false=true):i∈Region.ready md ops l:=by
 simp only[Region.ready,List.mem_filter,List.mem_range,Bool.and_eq_true,Bool.not_eq_true'];exact⟨h,h1,h2⟩
theorem Jb {md:Region.Mode}{ops:Array Oper}{l:Array Bool}(hr:Region.ready md ops l=[])(i:Nat)(h:i<ops.size)(h2:((ops[i]?).map (·.after.all λe=> !Region.binds md e||l.getD e.on false)).getD false=true):l.getD i true=true:=by
 cases e:l.getD i true
 ·have:=Maa h e h2
  rw[hr] at this;cases this
 rfl
theorem Ie {P:Program}{fn:Func}{p u:Tmp}{ty:TypeId}(h:fn.results= #[.cell p ty,.tmp u])(tmps:Array Value)(w:World)(g:Nat)(t:TypeId)(cs:Array Value)(fr:Nat×Nat)(d:TypeDesc)(x:Value)
 (hp:tmps.getD p undef= .pointer (some ⟨g,0,none⟩)) (hx:tmps.getD u undef=x) (hg:w.heap[g]? =some (.cells cs t fr))
 (hu:P.underlying ty=some d) (hd:(match d with | .struct _ | .array _ _=>true |_=>false)=true) (hi:(P.info? ty).map (·.size)=some cs.size):
 (results fn tmps).run P w= .ok (.tuple #[.agg cs,x]) w:=by
 have hp':tmps[p]?.getD undef= .pointer (some ⟨g,0,none⟩):=by simpa using hp
 have hx':tmps[u]?.getD undef=x:=by simpa using hx
 simp[results,h,hp',hx',asAddr,run_loadVar_row w g t ty cs fr d hg hu hd hi]
theorem Ud {fn:Func}{p u:Tmp}{a:Act}{g:Nat}{old:Array Value}{b:Bool}{A A':Option Addr}{k c k' c':Nat}{x:Value}{R:Ending->World->Prop}{w:World}(h:fn.results= #[.cell p 24,.tmp u])(hp:a.tmps.getD p undef= .pointer (some ⟨g,0,none⟩))(hx:a.tmps.getD u undef=x)(hd:a.defers=[])
 (hg:w.heap[g]? =some (.cells old 24 (0,0))) (hR:R (.returned (.tuple #[.agg #[.bool b,.slice A k c,.slice A' k' c'],x])) (w.setRow g #[.bool b,.slice A k c,.slice A' k' c'])):bodyPost Tryz.prog fn R .ret a (w.setRow g #[.bool b,.slice A k c,.slice A' k' c']):=
 bodyPost_ret (Ie h _ _ g _ _ (0,0) _ _ hp hx (Eb hg) Tryz.underlying24 rfl (Ft _ _ _)) hd hR
theorem Ga (w:World):IsRes w (.slice none 0 0) []:=⟨none,0,rfl,Lr,by omega,λ_=>rfl,.inl rfl⟩
def MakeOut (w:World)(r:Rt.Nm×Int)(e:Ending)(w':World):Prop:=∃t u,e= .returned (.tuple #[.agg #[.bool r.1.neg,t,u],.int .i64 r.2])/\IsRes w' t r.1.top/\IsRes w' u r.1.bot/\Below w.heap.size w w'
theorem MakeOut.of {w w':World}{r:Rt.Nm×Int}{e:Ending}{b:Bool}{t u:Value}{l l':List Nat}{er:Int}(hr:r=(⟨b,l,l'⟩,er))(he:e= .returned (.tuple #[.agg #[.bool b,t,u],.int .i64 er]))(h1:IsRes w' t l)(h2:IsRes w' u l')(h3:Below w.heap.size w w'):MakeOut w r e w':=by
 subst hr;exact⟨t,u,he,h1,h2,h3⟩
theorem Yha (n1 n2:Bool)(v1 v2:Value)(l1 l2:List Nat)(w:World)(h1:ResL w v1 l1)(h2:ResL w v2 l2):
 Calls Tryz.prog 177 #[.agg #[.bool n1,v1],.agg #[.bool n2,v2]] w (MakeOut w (Rt.mk n1 n2 (Nt.val l1) (Nt.val l2))):=by
 obtain⟨W,hW⟩:∃W,W=((w.alloc (.cells #[.bool n1,v1] 62)).alloc (.cells #[.bool n2,v2] 62)).alloc (.cells #[.bool false,.slice none 0 0,.slice none 0 0] 24):=⟨_,rfl⟩;have hWs:W.heap.size=w.heap.size+1+1+1:=by rw[hW];simp
 have hWb:Below w.heap.size w W:=by rw[hW];exact((Br.alloc Lr _).alloc (by simp) _).alloc (by simp;omega) _
 have hW0:W.heap[w.heap.size]? =some (.cells #[.bool n1,v1] 62 (0,0)):=by rw[hW];exact(Below.heap_alloc _ _ _ (by simp;omega)).trans (heap_alloc2_old _ _ _)
 have hW1:W.heap[w.heap.size+1]? =some (.cells #[.bool n2,v2] 62 (0,0)):=by rw[hW];exact(Below.heap_alloc _ _ _ (by simp)).trans (heap_alloc2_new _ _ _)
 have hW2:W.heap[w.heap.size+1+1]? =some (.cells #[.bool false,.slice none 0 0,.slice none 0 0] 24 (0,0)):=by
  rw[hW];have:=heap_alloc_new ((w.alloc (.cells #[.bool n1,v1] 62)).alloc (.cells #[.bool n2,v2] 62)) (.cells #[.bool false,.slice none 0 0,.slice none 0 0] 24);rwa[show((w.alloc (.cells #[.bool n1,v1] 62)).alloc (.cells #[.bool n2,v2] 62)).heap.size=w.heap.size+1+1 by simp] at this
 have HN1:=Qd (λ(wx:World) (hx:Below W.heap.size W wx)=>Ug n1 v1 _ wx ((h1.below hWb).below hx));have HN2:=Qd (λ(wx:World) (hx:Below W.heap.size W wx)=>Ug n2 v2 _ wx ((h2.below hWb).below hx));have HW:=Qd hW;have HW0:=Qd hW0;have HW1:=Qd hW1;have HW2:=Qd hW2;rw[<-Rt.mk_nrm];obtain⟨⟨A1,c1,rfl,-⟩,-⟩:=h1;obtain⟨⟨A2,c2,rfl,-⟩,-⟩:=h2;generalize Rt.nrm n1 (Nt.val l1)=N1 at*;generalize Rt.nrm n2 (Nt.val l2)=N2 at*;generalize Nt.val l1=X at*;generalize Nt.val l2=Y at*;generalize l1.length=z1 at*;generalize l2.length=z2 at*;clear hW hW0 hW1 hW2;go_enter Tryz.func177,Tryz.ntmps177
 go_wp2_with fail
 rw[<-HW.out];have hWl:w.heap.size+1+1<W.heap.size:=by omega
 have HWS:=Qd hWs;clear hWs;refine wp_region_any (by kernel_rfl) ?_;refine Th (Jqa W w.heap.size #[.bool n1,.slice A1 z1 c1] #[.bool n2,.slice A2 z2 c2] N1 N2 (Nt.digs X) (Nt.digs Y)) ?_ ?_ 8 _ _ _ (by decide) ⟨false,false,false,false,false,false,false,false,undef,undef,undef,undef,undef,undef,rfl,rfl,⟨⟨rfl,rfl,rfl,Lr,λ_ _=>rfl⟩,nofun,nofun,nofun,nofun,nofun,nofun,nofun,nofun,nofun⟩⟩
 ·rintro _ _ wx ⟨b0,b1,b2,b3,b4,b5,b6,b7,x15,x16,x17,x18,x6,x7,rfl,rfl,hJ⟩ i hi
  obtain⟨h8,hl,ha⟩:=Gg hi;have h8':i<8:=h8;clear h8 hi;have hsz:=hJ.below.size;rcases(show i=0\/i=1\/i=2\/i=3\/i=4\/i=5\/i=6\/i=7 by omega) with rfl |rfl |rfl |rfl |rfl |rfl |rfl |rfl
  ·refine Ca rfl rfl ?_
   refine wp_load_row 62 (.tmp 2) rfl w.heap.size rfl 62 #[.bool n1,.slice A1 z1 c1] (0,0) _ ((hJ.below.block w.heap.size (by omega)).trans HW0.out) Tryz.underlying62 rfl Gf ?_;exact⟨true,b1,b2,b3,b4,b5,b6,b7,_,x16,x17,x18,x6,x7,rfl,rfl,{hJ with v15:=λ_=>rfl}⟩
  ·have h0:b0=true:=by simpa [Region.binds] using ha
   subst h0;have hb1:b1=false:=hl;subst hb1;have hb6:b6=false:=by
    cases b6
    ·rfl
    exact absurd (hJ.o6 rfl).2 (by decide)
   subst hb6;obtain rfl:=hJ.v15 rfl;refine Ca rfl rfl ?_;unfold Am Oper.wp;go_simp
   refine((HN1.out _ hJ.below).mono ?_);rintro e w2 ⟨v3,rfl,hr3,hb2⟩;exact⟨true,true,b2,b3,b4,b5,false,b7,_,_,x17,x18,x6,x7,rfl,rfl,{hJ with
    below:=hJ.below.trans (hb2.mono hsz)
    v16:=λ_=>⟨v3,rfl,hr3⟩
    v18:=λh=>by obtain⟨v,e,r⟩:=hJ.v18 h;exact⟨v,e,r.below hb2⟩
    v6:=λh=>by obtain⟨g,n,A,k,c,q1,q2,q3,q4⟩:=hJ.v6 h;exact⟨g,n,A,k,c,q1,q2,(hb2.block g (Ib q3)).trans q3,nofun⟩
    v7:=λh=>by obtain⟨g,n,A,k,c,q1,q2,q3,q4⟩:=hJ.v7 h;exact⟨g,n,A,k,c,q1,q2,(hb2.block g (Ib q3)).trans q3,q4⟩
    o6:=nofun}⟩
  ·refine Ca rfl rfl ?_
   refine wp_load_row 62 (.tmp 3) rfl (w.heap.size+1) rfl 62 #[.bool n2,.slice A2 z2 c2] (0,0) _ ((hJ.below.block (w.heap.size+1) (by omega)).trans HW1.out) Tryz.underlying62 rfl Gf ?_;exact⟨b0,b1,true,b3,b4,b5,b6,b7,x15,x16,_,x18,x6,x7,rfl,rfl,{hJ with v17:=λ_=>rfl}⟩
  ·have h0:b2=true/\b1=true:=by simpa [Region.binds] using ha
   obtain⟨rfl,rfl⟩:=h0;have hb3:b3=false:=hl;subst hb3;have hb7:b7=false:=by
    cases b7
    ·rfl
    exact absurd (hJ.o7 rfl).2 (by decide)
   subst hb7;obtain rfl:=hJ.v17 rfl;refine Ca rfl rfl ?_;unfold Am Oper.wp;go_simp
   refine((HN2.out _ hJ.below).mono ?_);rintro e w2 ⟨v3,rfl,hr3,hb2⟩;exact⟨b0,true,true,true,b4,b5,b6,false,x15,x16,_,_,x6,x7,rfl,rfl,{hJ with
    below:=hJ.below.trans (hb2.mono hsz)
    v18:=λ_=>⟨v3,rfl,hr3⟩
    v16:=λh=>by obtain⟨v,e,r⟩:=hJ.v16 h;exact⟨v,e,r.below hb2⟩
    v6:=λh=>by obtain⟨g,n,A,k,c,q1,q2,q3,q4⟩:=hJ.v6 h;exact⟨g,n,A,k,c,q1,q2,(hb2.block g (Ib q3)).trans q3,q4⟩
    v7:=λh=>by obtain⟨g,n,A,k,c,q1,q2,q3,q4⟩:=hJ.v7 h;exact⟨g,n,A,k,c,q1,q2,(hb2.block g (Ib q3)).trans q3,nofun⟩
    o7:=nofun}⟩
  ·have hb4:b4=false:=hl
   subst hb4;have hb6:b6=false:=by
    cases b6
    ·rfl
    exact absurd (hJ.o6 rfl).1 (by decide)
   subst hb6;refine Ca rfl rfl ?_;unfold Am Oper.wp;go_simp
   have hba:Below wx.heap.size wx (wx.alloc (.cells #[.bool false,.slice none 0 0] 62)):=Br.alloc Lr _;exact⟨b0,b1,b2,b3,true,b5,false,b7,x15,x16,x17,x18,_,x7,rfl,rfl,{hJ with
    below:=hJ.below.alloc hsz _
    v16:=λh=>by obtain⟨v,e,r⟩:=hJ.v16 h;exact⟨v,e,r.below hba⟩
    v18:=λh=>by obtain⟨v,e,r⟩:=hJ.v18 h;exact⟨v,e,r.below hba⟩
    v6:=λ_=>⟨wx.heap.size,false,none,0,0,rfl,hsz,heap_alloc_new _ _,nofun⟩
    v7:=λh=>by obtain⟨g,n,A,k,c,q1,q2,q3,q4⟩:=hJ.v7 h;exact⟨g,n,A,k,c,q1,q2,(hba.block g (Ib q3)).trans q3,q4⟩
    o6:=nofun
    ne:=λ_ h=>by
     obtain⟨g,n,A,k,c,q1,q2,q3,q4⟩:=hJ.v7 h;have:=Ib q3;rw[q1];intro e;injection e with e;injection e with e;injection e with e;omega}⟩
  ·have hb5:b5=false:=hl
   subst hb5;have hb7:b7=false:=by
    cases b7
    ·rfl
    exact absurd (hJ.o7 rfl).1 (by decide)
   subst hb7;refine Ca rfl rfl ?_;unfold Am Oper.wp;go_simp
   have hba:Below wx.heap.size wx (wx.alloc (.cells #[.bool false,.slice none 0 0] 62)):=Br.alloc Lr _;exact⟨b0,b1,b2,b3,b4,true,b6,false,x15,x16,x17,x18,x6,_,rfl,rfl,{hJ with
    below:=hJ.below.alloc hsz _
    v16:=λh=>by obtain⟨v,e,r⟩:=hJ.v16 h;exact⟨v,e,r.below hba⟩
    v18:=λh=>by obtain⟨v,e,r⟩:=hJ.v18 h;exact⟨v,e,r.below hba⟩
    v7:=λ_=>⟨wx.heap.size,false,none,0,0,rfl,hsz,heap_alloc_new _ _,nofun⟩
    v6:=λh=>by obtain⟨g,n,A,k,c,q1,q2,q3,q4⟩:=hJ.v6 h;exact⟨g,n,A,k,c,q1,q2,(hba.block g (Ib q3)).trans q3,q4⟩
    o7:=nofun
    ne:=λh _=>by
     obtain⟨g,n,A,k,c,q1,q2,q3,q4⟩:=hJ.v6 h;have:=Ib q3;rw[q1];intro e;injection e with e;injection e with e;injection e with e;omega}⟩
  ·have h0:b4=true/\b1=true/\b3=true/\b0=true/\b1=true/\b4=true/\b5=true:=by simpa [Region.binds] using ha
   obtain⟨rfl,rfl,rfl,rfl,-,-,rfl⟩:=h0;have hb6:b6=false:=hl;subst hb6;obtain⟨g,n,A,k,c,rfl,q2,q3,q4⟩:=hJ.v6 rfl;obtain⟨g',n',A',k',c',rfl,q2',q3',q4'⟩:=hJ.v7 rfl;have hne:g≠g':=λe=>hJ.ne rfl rfl (by rw[e]);obtain⟨v,rfl,hr⟩:=hJ.v16 rfl;obtain⟨v',rfl,hr'⟩:=hJ.v18 rfl;have hrs:=hr.setRow q3 (Lc _ _ _ _) #[.bool N1,v];have hrs':=hr'.setRow q3 (Lc _ _ _ _) #[.bool N1,v];obtain⟨⟨A3,c3,rfl,-⟩,-⟩:=hr;refine Ca rfl rfl ?_;refine wp_store_row 62 (.tmp 6) (.tmp 16) rfl g #[.bool N1,.slice A3 (Nt.digs X).length c3] rfl rfl 62 _ q3 Gf rfl (Ae _ _ _ _) ?_;exact⟨true,true,b2,true,true,true,true,b7,x15,_,x17,_,_,_,rfl,rfl,{hJ with
    below:=rBelow.setRow hJ.below q2 _
    v16:=λ_=>⟨_,rfl,hrs⟩
    v18:=λ_=>⟨v',rfl,hrs'⟩
    v6:=λ_=>⟨g,_,_,_,_,rfl,q2,Eb q3,λ_=>rfl⟩
    v7:=λ_=>⟨g',n',A',k',c',rfl,q2',(Iw hne).trans q3',q4'⟩
    o6:=λ_=>⟨rfl,rfl⟩}⟩
  have h0:b5=true/\b3=true/\b6=true/\b0=true/\b1=true/\b2=true/\b3=true/\b4=true/\b5=true/\b6=true:=by simpa [Region.binds] using ha
  obtain⟨rfl,rfl,rfl,rfl,rfl,rfl,-,rfl,-,-⟩:=h0;have hb7:b7=false:=hl;subst hb7;obtain⟨g,n,A,k,c,rfl,q2,q3,q4⟩:=hJ.v6 rfl;obtain⟨g',n',A',k',c',rfl,q2',q3',q4'⟩:=hJ.v7 rfl;have hne:g'≠g:=λe=>hJ.ne rfl rfl (by rw[e]);obtain⟨v,rfl,hr⟩:=hJ.v16 rfl;obtain⟨v',rfl,hr'⟩:=hJ.v18 rfl;have hrs:=hr.setRow q3' (Lc _ _ _ _) #[.bool N2,v'];have hrs':=hr'.setRow q3' (Lc _ _ _ _) #[.bool N2,v'];obtain⟨⟨A3,c3,rfl,-⟩,-⟩:=hr';refine Ca rfl rfl ?_;refine wp_store_row 62 (.tmp 7) (.tmp 18) rfl g' #[.bool N2,.slice A3 (Nt.digs Y).length c3] rfl rfl 62 _ q3' Gf rfl (Ae _ _ _ _) ?_;exact⟨true,true,true,true,true,true,true,true,x15,_,x17,_,_,_,rfl,rfl,{hJ with
   below:=rBelow.setRow hJ.below q2' _
   v16:=λ_=>⟨v,rfl,hrs⟩
   v18:=λ_=>⟨_,rfl,hrs'⟩
   v7:=λ_=>⟨g',_,_,_,_,rfl,q2',Eb q3',λ_=>rfl⟩
   v6:=λ_=>⟨g,n,A,k,c,rfl,q2,(Iw hne).trans q3,q4⟩
   o7:=λ_=>⟨rfl,rfl⟩}⟩
 rintro _ _ wx ⟨b0,b1,b2,b3,b4,b5,b6,b7,x15,x16,x17,x18,x6,x7,rfl,rfl,hJ⟩ hr;have e0:b0=true:=Jb hr 0 (by decide) (by simp[Region.binds]);subst e0;have e1:b1=true:=Jb hr 1 (by decide) (by simp[Region.binds]);subst e1;have e2:b2=true:=Jb hr 2 (by decide) (by simp[Region.binds]);subst e2;have e3:b3=true:=Jb hr 3 (by decide) (by simp[Region.binds]);subst e3;have e4:b4=true:=Jb hr 4 (by decide) (by simp[Region.binds]);subst e4;have e5:b5=true:=Jb hr 5 (by decide) (by simp[Region.binds]);subst e5;have e6:b6=true:=Jb hr 6 (by decide) (by simp[Region.binds]);subst e6;have e7:b7=true:=Jb hr 7 (by decide) (by simp[Region.binds]);subst e7;clear hr;obtain⟨g,n,A,k,c,rfl,q2,q3,q4⟩:=hJ.v6 rfl;obtain⟨g',n',A',k',c',rfl,q2',q3',q4'⟩:=hJ.v7 rfl;have hne:g≠g':=λe=>hJ.ne rfl rfl (by rw[e]);obtain⟨v,rfl,hr1⟩:=hJ.v16 rfl;obtain⟨v',rfl,hr2⟩:=hJ.v18 rfl;have e:=q4 rfl;simp at e;obtain⟨e,rfl⟩:=e;subst e;have e:=q4' rfl;simp at e;obtain⟨e,rfl⟩:=e;subst e;have hxb:=hJ.below;have hxs:=hxb.size;have p0:wx.cell? ⟨g,0,none⟩=some (.bool N1):=(cell_of_row wx g 0 _ _ _ q3).trans rfl;have p1:wx.cell? ⟨g,1,none⟩=some (.slice A k c):=(cell_of_row wx g 1 _ _ _ q3).trans rfl;have p0':wx.cell? ⟨g',0,none⟩=some (.bool N2):=(cell_of_row wx g' 0 _ _ _ q3').trans rfl;have p1':wx.cell? ⟨g',1,none⟩=some (.slice A' k' c'):=(cell_of_row wx g' 1 _ _ _ q3').trans rfl;have hgl:=Ib q3;have hgl':=Ib q3';have HR1:=Qd hr1;have HR2:=Qd hr2;clear hJ hr1 hr2 q3 q3' q4 q4' HN1 HN2;obtain⟨hd1,o1,s1⟩:=HR1.out;obtain⟨hd2,o2,s2⟩:=HR2.out;have f1:k=(Nt.digs X).length:=by obtain⟨_,_,e,_⟩:=hd1;injection e
 have f2:k'=(Nt.digs Y).length:=by obtain⟨_,_,e,_⟩:=hd2;injection e
 have s1':k<=64:=by omega
 have s2':k'<=64:=by omega
 have HD1:=Qd hd1;have HD2:=Qd hd2;have HY0:Hid (k'=0↔Y=0):=Qd (by rw[f2,List.length_eq_zero_iff,Nt.digs_nil_iff]);have HF:=Qd (And.intro f1 f2);clear f1 f2 hd1 hd2;unfold Am;have hxw:Below w.heap.size w wx:=hWb.trans (hxb.mono (by omega));have HGA:=Qd ((hxb.block (w.heap.size+1+1) (by omega)).trans HW2.out);by_cases hk0:k'=0
 ·have hz:((k':Int)==0)=true:=by rw[hk0];rfl
  have HK0:=Qd (HY0.out.1 hk0);clear hk0;go_wp2_with (first
   |(with_reducible refine Wf rfl (.tmp 4) (.tmp 23) rfl (w.heap.size+1+1) rfl rfl HGA.out ?_))
  refine Ud (by rfl) (by rfl) (by rfl) rfl HGA.out (MakeOut.of (by unfold Rt.mk;rw[if_pos HK0.out];rfl) rfl (Ga _) (Ga _) (rBelow.setRow hxw (by omega) _))
 have hz:((k':Int)==0)=false:=beq_eq_false_iff_ne.2 (by omega);have HY1:Hid (Y≠0):=Qd (λh=>hk0 (HY0.out.2 h));have hgl64:=Nt.gcd_len o1 o2 s1 s2;have GC:=Qd (Nz (.slice A k c) (.slice A' k' c') (Nt.digs X) (Nt.digs Y) wx HD1.out HD2.out o1 o2 s1 s2);have HOG:=Qd (Nt.ok_digs (Nat.gcd (Nt.val (Nt.digs X)) (Nt.val (Nt.digs Y))));have HGV:Hid (Nt.val (Nt.digs (Nat.gcd (Nt.val (Nt.digs X)) (Nt.val (Nt.digs Y))))=Nat.gcd X Y):=Qd (by rw[Nt.val_digs,Nt.val_digs,Nt.val_digs]);generalize Nt.digs (Nat.gcd (Nt.val (Nt.digs X)) (Nt.val (Nt.digs Y)))=gd at*;clear hk0;go_wp2_with fail
 refine GC.out.mono ?_;rintro e w3 ⟨v3,rfl,hr3,hb3⟩;have r0:w3.cell? ⟨g,0,none⟩=some (.bool N1):=(hb3.cell (p:=⟨g,0,none⟩) hgl).trans p0;have r1:w3.cell? ⟨g,1,none⟩=some (.slice A k c):=(hb3.cell (p:=⟨g,1,none⟩) hgl).trans p1;have r0':w3.cell? ⟨g',0,none⟩=some (.bool N2):=(hb3.cell (p:=⟨g',0,none⟩) hgl').trans p0';have r1':w3.cell? ⟨g',1,none⟩=some (.slice A' k' c'):=(hb3.cell (p:=⟨g',1,none⟩) hgl').trans p1';have DM:=Qd (Ql (w0:=w3) (HD1.out.below hb3) hr3 o1 HOG.out (by omega) (by omega) Br);clear p0 p1 p0' p1' GC;go_wp2_with fail
 refine DM.out.mono ?_;rintro e w4 ⟨u1,u2,rfl,t1,t2,hb4,-⟩;have hs3:=hb3.size;have r0:w4.cell? ⟨g,0,none⟩=some (.bool N1):=(hb4.cell (p:=⟨g,0,none⟩) (show g<_ by omega)).trans r0;have r0':w4.cell? ⟨g',0,none⟩=some (.bool N2):=(hb4.cell (p:=⟨g',0,none⟩) (show g'<_ by omega)).trans r0';have r1':w4.cell? ⟨g',1,none⟩=some (.slice A' k' c'):=(hb4.cell (p:=⟨g',1,none⟩) (show g'<_ by omega)).trans r1';have DN:=Qd (Ql (w0:=w4) ((HD2.out.below hb3).below hb4) (hr3.below hb4) o2 HOG.out (by omega) (by omega) Br);clear DM;go_wp2_with fail
 refine DN.out.mono ?_;rintro e w5 ⟨u3,u4,rfl,t3,t4,hb5,-⟩;have hs4:=hb4.size;have hs5:=hb5.size;have r0:w5.cell? ⟨g,0,none⟩=some (.bool N1):=(hb5.cell (p:=⟨g,0,none⟩) (show g<_ by omega)).trans r0;have r0':w5.cell? ⟨g',0,none⟩=some (.bool N2):=(hb5.cell (p:=⟨g',0,none⟩) (show g'<_ by omega)).trans r0';have HGB:=Qd ((hb5.block (w.heap.size+1+1) (by omega)).trans ((hb4.block (w.heap.size+1+1) (by omega)).trans ((hb3.block (w.heap.size+1+1) (by omega)).trans HGA.out)));have hbw:Below w.heap.size w w5:=((hxw.trans (hb3.mono (by omega))).trans (hb4.mono (by omega))).trans (hb5.mono (by omega));have HT1:=Qd (t1.below hb5);have HT3:=Qd t3;clear t1 t2 t3 t4 hr3 DN;obtain⟨e1,he1⟩:∃e1,e1=Nt.digs (Nt.quo (Nt.val (Nt.digs X)) (Nt.val gd)):=⟨_,rfl⟩;obtain⟨e2,he2⟩:∃e2,e2=Nt.digs (Nt.quo (Nt.val (Nt.digs Y)) (Nt.val gd)):=⟨_,rfl⟩;rw[<-he1] at HT1;rw[<-he2] at HT3;rw[HGV.out,Nt.val_digs] at he1 he2;have HE1:Hid (e1=Nt.digs (X/Nat.gcd X Y)):=Qd he1;have HE2:Hid (e2=Nt.digs (Y/Nat.gcd X Y)):=Qd he2;have HX0:Hid (e1.length=0↔X=0):=Qd (by rw[he1,List.length_eq_zero_iff,Nt.digs_nil_iff];exact Rt.div_gcd_zero HY1.out);clear he1 he2;obtain⟨B1,a1,rfl,y1,y2,-⟩:=HT1.out;obtain⟨B2,a2,rfl,y3,y4,-⟩:=HT3.out;by_cases h32:32<e1.length
 ·have g1:decide ((32:Int)<(e1.length:Int))=true:=by simp;omega
  go_wp2_with (first
   |(with_reducible refine Wf rfl (.tmp 4) (.tmp 53) rfl (w.heap.size+1+1) rfl rfl HGB.out ?_))
  refine Ud (by rfl) (by rfl) (by rfl) rfl HGB.out (MakeOut.of (by unfold Rt.mk;rw[if_neg HY1.out,<-HE1.out,<-HE2.out,if_pos (by omega)];rfl) rfl (Ga _) (Ga _) (rBelow.setRow hbw (by omega) _))
 by_cases h33:32<e2.length
 ·have g1:decide ((32:Int)<(e1.length:Int))=false:=by simp;omega
  have g2:decide ((32:Int)<(e2.length:Int))=true:=by simp;omega
  go_wp2_with (first
   |(with_reducible refine Wf rfl (.tmp 4) (.tmp 53) rfl (w.heap.size+1+1) rfl rfl HGB.out ?_))
  refine Ud (by rfl) (by rfl) (by rfl) rfl HGB.out (MakeOut.of (by unfold Rt.mk;rw[if_neg HY1.out,<-HE1.out,<-HE2.out,if_pos (by omega)];rfl) rfl (Ga _) (Ga _) (rBelow.setRow hbw (by omega) _))
 have g1:decide ((32:Int)<(e1.length:Int))=false:=by simp;omega
 have g2:decide ((32:Int)<(e2.length:Int))=false:=by simp;omega
 by_cases h34:0<e1.length
 ·have g3:decide ((0:Int)<(e1.length:Int))=true:=decide_eq_true (by omega)
  have HXB:Hid ((X==0)=false):=Qd (by have:=HX0.out;simp;omega);cases N1;all_goals
   cases N2;all_goals
    skip
    go_wp2_with (first
     |(with_reducible refine Wf rfl (.tmp 4) (.tmp 66) rfl (w.heap.size+1+1) rfl rfl HGB.out ?_))
    refine Ud (by rfl) (by rfl) (by rfl) rfl HGB.out (MakeOut.of (by unfold Rt.mk;rw[if_neg HY1.out,<-HE1.out,<-HE2.out,if_neg (by omega),HXB.out];rfl) rfl (HT1.out.setRow HGB.out (Ma _ _ _ _ _ _ _) _) (HT3.out.setRow HGB.out (Ma _ _ _ _ _ _ _) _) (rBelow.setRow hbw (by omega) _))
 have g3:decide ((0:Int)<(e1.length:Int))=false:=decide_eq_false (by omega);have HXB:Hid ((X==0)=true):=Qd (by have:=HX0.out;simp;omega);go_wp2_with (first
  |(with_reducible refine Wf rfl (.tmp 4) (.tmp 66) rfl (w.heap.size+1+1) rfl rfl HGB.out ?_))
 refine Ud (by rfl) (by rfl) (by rfl) rfl HGB.out (MakeOut.of (by unfold Rt.mk;rw[if_neg HY1.out,<-HE1.out,<-HE2.out,if_neg (by omega),HXB.out];rfl) rfl (HT1.out.setRow HGB.out (Ma _ _ _ _ _ _ _) _) (HT3.out.setRow HGB.out (Ma _ _ _ _ _ _ _) _) (rBelow.setRow hbw (by omega) _))
section
open Go.RowKit
def Ja (xs:Nat->Value)(i:Nat)(v:Value):Nat->Value:=λj=>if j=i then v else xs j
section
variable {P : Program} {ops : Array Oper} {Q : Exit -> Act -> World -> Prop} {md : Region.Mode}
def Ob (md:Region.Mode)(ops:Array Oper)(i j:Nat):Bool:=match ops[i]? with
 |some o=>o.after.toList.any λe=>e.on==j&&Region.binds md e
 |none=>false
def Qk (frame:(Nat->Value)->Act)(R:Nat->World->Value->Prop)(xs:Nat->Value)(i:Nat)(w:World)(a':Act)(w':World):Prop:=∃v,a'=frame (Ja xs i v)/\R i w' v/\Below w.heap.size w w'
theorem Naa (frame:(Nat->Value)->Act)(w0:World)(R:Nat->World->Value->Prop)
 (hR:∀i w w' v,R i w v->Below w.heap.size w w'->R i w' v)
 (step:∀i xs w,i<ops.size->Below w0.heap.size w0 w->(∀j,Ob md ops i j=true->R j w (xs j))->wpOp P ops Q i (Qk frame R xs i w) (frame xs) w)
 (done:∀xs w,Below w0.heap.size w0 w->(∀i,i<ops.size->R i w (xs i))->Q .normal (frame xs) w)
 (hops:∀i,i<ops.size->∀o,ops[i]? =some o->∀e∈o.after,e.on<i)
 (xs0:Nat->Value) (w1:World) (hw1:Below w0.heap.size w0 w1):wpAny P md ops Q ops.size (Array.replicate ops.size false) (frame xs0) w1:=by
 refine Th (λl a w=>l.size=ops.size/\Below w0.heap.size w0 w/\∃xs,a=frame xs/\∀i,i<ops.size->l[i]? =some true->R i w (xs i)) ?_ ?_ ops.size _ _ _ (by simp) ⟨by simp,hw1,xs0,rfl,λi hi h=>by simp[hi] at h⟩
 ·rintro l a w ⟨hl,hb,xs,rfl,hx⟩ i hi
  obtain⟨h1,h2,h3⟩:=Gg hi;have hli:l[i]? =some false:=by
   rw[Array.getD_eq_getD_getElem?] at h2;rw[Array.getElem?_eq_getElem (by omega)] at h2⊢;simp at h2;rw[h2]
  refine wpOp_mono ?_ (step i xs w h1 hb ?_)
  ·rintro a' w' ⟨v,rfl,hv,hb'⟩
   refine⟨by simpa using hl,hb.trans (hb'.mono hb.size),Ja xs i v,rfl,λj hj hlj=>?_⟩;by_cases e:j=i
   ·subst e;simp only[Ja,if_true];exact hv
   simp only[Ja,if_neg e];rw[Array.getElem?_setIfInBounds_ne (λh=>e h.symm)] at hlj;exact hR j w w' _ (hx j hj hlj) hb'
  intro j hj;obtain⟨o,ho⟩:∃o,ops[i]? =some o:=⟨_,Array.getElem?_eq_getElem h1⟩;unfold Ob at hj;rw[ho] at hj;simp only[List.any_eq_true,Bool.and_eq_true,beq_iff_eq] at hj;obtain⟨e,he',rfl,hbe⟩:=hj;have he:e∈o.after:=by simpa using he'
  have hlt:=hops i h1 o ho e he;rw[ho] at h3;simp only[Option.map_some,Option.getD_some,Array.all_eq_true_iff_forall_mem] at h3;have h4:=h3 e he;rw[hbe] at h4;simp only[Bool.not_true,Bool.false_or] at h4;refine hx e.on (by omega) ?_;rw[Array.getD_eq_getD_getElem?,Array.getElem?_eq_getElem (by omega)] at h4;rw[Array.getElem?_eq_getElem (by omega)];simp at h4;rw[h4]
 rintro l a w ⟨hl,hb,xs,rfl,hx⟩ hr;refine done xs w hb ?_;have hall:∀n i,i<n->i<ops.size->l[i]? =some true:=by
  intro n
  induction n with
  |zero=>intro i h;omega
  |succ n ih=>
   intro i hi his;by_cases e:i<n
   ·exact ih i e his
   have hie:i=n:=by omega
   subst hie;cases h:l[i]? with
   |none=>rw[Array.getElem?_eq_none_iff] at h;omega
   |some b=>
    cases b
    ·exfalso
     have:i∈Region.ready md ops l:=by
      simp only[Region.ready,List.mem_filter,List.mem_range,Bool.and_eq_true,Bool.not_eq_true'];refine⟨his,by rw[Array.getD_eq_getD_getElem?,h];rfl,?_⟩;rw[Array.getElem?_eq_getElem his];simp only[Option.map_some,Option.getD_some,Array.all_eq_true_iff_forall_mem];intro e he;have hlt:=hops i his _ (Array.getElem?_eq_getElem his) e he;rw[Array.getD_eq_getD_getElem?,ih e.on hlt (by omega)];simp
     rw[hr] at this;cases this
    rfl
 intro i hi;exact hx i hi (hall (i+1) i (by omega) hi)
theorem Xf (frame:(Nat->Value)->Act)(w0:World)(R:Nat->World->Value->Prop){id:Nat}{a:Act}{w:World}(hm:P.follows .mixedOrders=true)
 (hR:∀i w w' v,R i w v->Below w.heap.size w w'->R i w' v)
 (hops:ops.toList.zipIdx.all (λp=>p.1.after.all λe=>decide (e.on<p.2))=true)
 (xs0:Nat->Value) (ha:a=frame xs0) (hw:Below w0.heap.size w0 w)
 (step:∀i xs w,i<ops.size->Below w0.heap.size w0 w->(∀j,Ob .any ops i j=true->R j w (xs j))->wpOp P ops Q i (Qk frame R xs i w) (frame xs) w)
 (done:∀xs w,Below w0.heap.size w0 w->(∀i,i<ops.size->R i w (xs i))->Q .normal (frame xs) w):(Code.region id ops true).wp P Q a w:=by
 subst ha;refine wp_region_any hm (Naa frame w0 R hR step done ?_ xs0 _ ?_)
 ·intro i hi o ho e he
  rw[List.all_eq_true] at hops;have h:=hops (o,i) (by
   rw[List.mem_zipIdx_iff_getElem?]
   simpa using ho)
  rw[Array.all_eq_true_iff_forall_mem] at h
  simpa using h e he
 exact⟨hw.os,hw.tape,hw.output,hw.size,hw.block⟩
theorem Uh {i:Nat}{o:Oper}{K:Act->World->Prop}{a:Act}{w:World}(h:ops[i]? =some o)(hg:Region.wanted o (yielded ops a.tmps)=true)(hw:o.wp P a w K Q):wpOp P ops Q i K a w:=by
 unfold wpOp;rw[h];simp only[hg,if_true];exact .inl hw
theorem Rk {i:Nat}{o:Oper}{K:Act->World->Prop}{a:Act}{w:World}(h:ops[i]? =some o)(hg:Region.wanted o (yielded ops a.tmps)=false)(hk:K (a.put o.dst undef) w):wpOp P ops Q i K a w:=by
 unfold wpOp;rw[h];simp only[hg];exact hk
end
end
section
open Go.RowKit
section
variable {P : Program} {ops : Array Oper} {Q : Exit -> Act -> World -> Prop} {md : Region.Mode}
theorem Ih {l:Array Bool}{i j:Nat}(h:((ops[i]?).map (·.after.all λe=> !Region.binds md e||l.getD e.on false)).getD false=true)(hj:Ob md ops i j=true):l.getD j false=true:=by
 unfold Ob at hj;cases ho:ops[i]? with
 |none=>rw[ho] at hj;cases hj
 |some o=>
  rw[ho] at hj h;simp only[List.any_eq_true,Bool.and_eq_true,beq_iff_eq] at hj;obtain⟨e,he',rfl,hbe⟩:=hj;have he:e∈o.after:=by simpa using he'
  simp only[Option.map_some,Option.getD_some,Array.all_eq_true_iff_forall_mem] at h;have h4:=h e he;rw[hbe] at h4
  simpa using h4
theorem Gj {l:Array Bool}{i:Nat}(h:l.getD i false=true):l[i]? =some true:=by
 rw[Array.getD_eq_getD_getElem?] at h;cases e:l[i]? with
 |none=>rw[e] at h;cases h
 |some b=>rw[e] at h;simp at h;rw[h]
theorem Oaa (frame:(Nat->Value)->Act)(w0:World)(R:Nat->World->Value->Prop)(n:Nat)(hn:ops.size=n+1)
 (hR:∀i w w' v,R i w v->Below w.heap.size w w'->R i w' v)
 (step:∀i xs w,i<n->Below w0.heap.size w0 w->(∀j,Ob md ops i j=true->R j w (xs j))->wpOp P ops Q i (Qk frame R xs i w) (frame xs) w)
 (last:∀xs w,Below w0.heap.size w0 w->(∀i,i<n->R i w (xs i))->wpOp P ops Q n (λa' w'=>Q .normal a' w') (frame xs) w)
 (hops:∀i,i<ops.size->∀j,Ob md ops i j=true->j<i) (hlast:∀j,j<n->Ob md ops n j=true)
 (xs0:Nat->Value) (w1:World) (hw1:Below w0.heap.size w0 w1):wpAny P md ops Q ops.size (Array.replicate ops.size false) (frame xs0) w1:=by
 refine Th (λl a w=>l.size=ops.size/\((l[n]? =some false/\Below w0.heap.size w0 w/\∃xs,a=frame xs/\∀i,i<n->l[i]? =some true->R i w (xs i))\/(l[n]? =some true/\Q .normal a w/\∀i,i<n->l[i]? =some true))) ?_ ?_ ops.size _ _ _ (by simp) ⟨by simp,.inl ⟨by simp[hn],hw1,xs0,rfl,λi hi h=>by simp[show i<ops.size by omega] at h⟩⟩
 ·rintro l a w ⟨hl,hc⟩ i hi
  obtain⟨h1,h2,h3⟩:=Gg hi;have hli:l[i]? =some false:=by
   rw[Array.getD_eq_getD_getElem?] at h2;rw[Array.getElem?_eq_getElem (by omega)] at h2⊢;simp at h2;rw[h2]
  rcases hc with⟨hln,hb,xs,rfl,hx⟩ |⟨hln,hQ,hall⟩
  ·by_cases e:i=n
   ·subst e
    have hall:∀j,j<i->l[j]? =some true:=λj hj=>Gj (Ih h3 (hlast j hj));refine wpOp_mono ?_ (last xs w hb (λj hj=>hx j hj (hall j hj)));intro a' w' hq;refine⟨by simpa using hl,.inr ⟨?_,hq,λj hj=>?_⟩⟩
    ·rw[Array.getElem?_setIfInBounds_self_of_lt (by omega)]
    rw[Array.getElem?_setIfInBounds_ne (by omega)];exact hall j hj
   refine wpOp_mono ?_ (step i xs w (by omega) hb (λj hj=>hx j (by have:=hops i h1 j hj;omega) (Gj (Ih h3 hj))));rintro a' w' ⟨v,rfl,hv,hb'⟩;refine⟨by simpa using hl,.inl ⟨by rw[Array.getElem?_setIfInBounds_ne e];exact hln,hb.trans (hb'.mono hb.size),Ja xs i v,rfl,λj hj hlj=>?_⟩⟩;by_cases e':j=i
   ·subst e';simp only[Ja,if_true];exact hv
   simp only[Ja,if_neg e'];rw[Array.getElem?_setIfInBounds_ne (λh=>e' h.symm)] at hlj;exact hR j w w' _ (hx j hj hlj) hb'
  exfalso
  by_cases e:i=n
  ·subst e;rw[hli] at hln;cases hln
  rw[hall i (by omega)] at hli;cases hli
 rintro l a w ⟨hl,hc⟩ hr;rcases hc with⟨hln,hb,xs,rfl,hx⟩ |⟨_,hQ,_⟩
 ·exfalso
  have hall:∀m i,i<m->i<ops.size->l[i]? =some true:=by
   intro m
   induction m with
   |zero=>intro i h;omega
   |succ m ih=>
    intro i hi his;by_cases e:i<m
    ·exact ih i e his
    have hie:i=m:=by omega
    subst hie;cases h:l[i]? with
    |none=>rw[Array.getElem?_eq_none_iff] at h;omega
    |some b=>
     cases b
     ·exfalso
      have:i∈Region.ready md ops l:=by
       simp only[Region.ready,List.mem_filter,List.mem_range,Bool.and_eq_true,Bool.not_eq_true'];refine⟨his,by rw[Array.getD_eq_getD_getElem?,h];rfl,?_⟩;rw[Array.getElem?_eq_getElem his];simp only[Option.map_some,Option.getD_some,Array.all_eq_true_iff_forall_mem];intro e he;cases hbe:Region.binds md e
       ·rfl
       have hd:Ob md ops i e.on=true:=by
        unfold Ob;rw[Array.getElem?_eq_getElem his];simp only[List.any_eq_true,Bool.and_eq_true,beq_iff_eq];exact⟨e,by simpa using he,rfl,hbe⟩
       have hlt:=hops i his e.on hd;rw[Array.getD_eq_getD_getElem?,ih e.on hlt (by omega)];simp
      rw[hr] at this;cases this
     rfl
  rw[hall (n+1) n (by omega) (by omega)] at hln;cases hln
 exact hQ
theorem Ri (frame:(Nat->Value)->Act)(w0:World)(R:Nat->World->Value->Prop)(n:Nat){id:Nat}{a:Act}{w:World}(hm:P.follows .mixedOrders=true)(hn:ops.size=n+1)
 (hR:∀i w w' v,R i w v->Below w.heap.size w w'->R i w' v)
 (hops:ops.toList.zipIdx.all (λp=>p.1.after.all λe=>decide (e.on<p.2))=true) (hlast:(List.range n).all (λj=>Ob .any ops n j)=true)
 (xs0:Nat->Value) (ha:a=frame xs0) (hw:Below w0.heap.size w0 w)
 (step:∀i xs w,i<n->Below w0.heap.size w0 w->(∀j,Ob .any ops i j=true->R j w (xs j))->wpOp P ops Q i (Qk frame R xs i w) (frame xs) w)
 (last:∀xs w,Below w0.heap.size w0 w->(∀i,i<n->R i w (xs i))->wpOp P ops Q n (λa' w'=>Q .normal a' w') (frame xs) w):(Code.region id ops true).wp P Q a w:=by
 subst ha;refine wp_region_any hm (Oaa frame w0 R n hn hR step last ?_ ?_ xs0 _ ?_)
 ·intro i hi j hj
  unfold Ob at hj;rw[Array.getElem?_eq_getElem hi] at hj;simp only[List.any_eq_true,Bool.and_eq_true,beq_iff_eq] at hj;obtain⟨e,he,rfl,_⟩:=hj;rw[List.all_eq_true] at hops;have h:=hops (ops[i],i) (by
   rw[List.mem_zipIdx_iff_getElem?];simp)
  rw[Array.all_eq_true_iff_forall_mem] at h
  simpa using h e (by simpa using he)
 ·intro j hj
  rw[List.all_eq_true] at hlast;exact hlast j (by simpa using hj)
 exact⟨hw.os,hw.tape,hw.output,hw.size,hw.block⟩
end
end
end Go.Proofs.YtceplkpjnebnfaaGreatDoor
