/- Texts of this proof, joined. -/
import Derived.Test.YtmiccalfamepdaaGreatDoorM2
import Derived.Deep.QuietTactic
import Derived.BigQuiet
import Derived.LoopTactic
import Derived.Outline
import Derived.IntWalk
import Derived.Shelf.Abstract
import GoSem.Core.Utf8
import Derived.Laws.Tables
set_option linter.all false
set_option maxHeartbeats 8000000
set_option maxRecDepth 100000
namespace Go.Proofs.YtmiccalfamepdaaGreatDoor
section
open Go.RowKit
section
variable {P : Program} (w : World)
theorem Tx (base:Nat)(t u ty e:TypeId)(i:TypeInfo)(ht:P.underlying t=some (.slice e))(hu:P.underlying u=some .string)(hi:P.info? e=some i)(hz:i.zero=some (.int .u8 0))(hsize:i.size=1)(hby:i.bytes=1)
 (v:Value) (n:Nat) (xs:List Value) (hown:w.ownsRowF base e 1 v n xs) (s:ByteArray) (h63:n+s.size<=maxLen) (hbytes:n+s.size<=140737488355328) {v':Value} {w':World}
 (hr:(Builtin.append_ #[t,u] ty #[v,.string s]).run P w= .ok v' w'):∀g,v'.ownBlock=some g->v.ownBlock=some g\/w.heap.size<=g:=by
 intro g' hg';have hxl:xs.length=n:=by simpa using hown.1
 have h64:n+s.size<=9223372036854775807:=by simpa [maxLen] using h63
 rcases hown.2 with⟨rfl,rfl⟩ |⟨g,cap,cur,fz,rfl,hbg,hg,hfz,hnc,hcm,hcs,htake⟩
 ·obtain⟨v2,w2,hr2,h2,-⟩:=Lib.run_append_own_stringF (P:=P) w w.heap.size t u ty e i ht hu hi hz hsize hby (.slice none 0 0) 0 xs ⟨hown.1,.inl ⟨rfl,rfl⟩⟩ s h63 hbytes Lr
  rw[hr] at hr2;injection hr2 with e1 e2
  subst e1 e2;exact .inr (h2.lt g' hg').1
 by_cases hroom:n+s.size<=cap
 ·have hr2:=Lib.run_append_room_stringF (P:=P) w t u ty e i ht hu hi hsize g n cap cur fz hg (by simpa using hfz) s hroom (by simp at hcs;omega)
  rw[hr] at hr2;injection hr2 with e1 e2
  subst e1;exact .inl hg'
 have holds:∀j u,xs[j]? =some u->w.cell? ((⟨g,0,none⟩:Addr).add j)=some u:=hown.cells (g:=g) rfl;have hr2:=Lib.run_append_grow_string (P:=P) w t u ty e i (.int .u8 0) ht hu hi hz ⟨g,0,none⟩ n cap xs (by rw[hsize];simpa using hxl) holds s (by omega) (by omega) (by rw[hby];exact growslice_fits (by omega) (by omega));rw[hr] at hr2;injection hr2 with e1 e2
 subst e1;simp[Value.ownBlock] at hg';exact .inr (by omega)
theorem Ux {ops:Array Oper}{rest:List Oper}{o:Oper}{a:Act}{Q:Exit->Act->World->Prop}(hgd:o.guard=none)(sl x:Operand)(t u:TypeId)(ho:o.op= .call {callee:= .builtin .append,args:= #[sl,x],argTypes:= #[t,u]})
 (base:Nat) (e:TypeId) (i:TypeInfo) (ht:P.underlying t=some (.slice e)) (hu:P.underlying u=some .string) (hi:P.info? e=some i) (hz:i.zero=some (.int .u8 0)) (hsize:i.size=1) (hby:i.bytes=1)
 (v:Value) (n:Nat) (xs:List Value) (hs:a.eval sl=v) (hown:w.ownsRowF base e 1 v n xs) (s:ByteArray) (hx:a.eval x= .string s) (h63:n+s.size<=maxLen) (hbytes:n+s.size<=140737488355328) (hbase:base<=w.heap.size)
 (h:∀v' w',w'.ownsRowF base e 1 v' (n+s.size) (xs++Lib.strCells s)->w.grownBy w' v.ownBlock->(∀g,v'.ownBlock=some g->v.ownBlock=some g\/w.heap.size<=g)->wpList P ops Q rest (a.put o.dst v') w'):wpList P ops Q (o::rest) a w:=by
 refine wpList_plain hgd λK hK=>?_;obtain⟨v',w',hr,h2,h3,-⟩:=Lib.run_append_own_stringF (P:=P) w base t u o.type e i ht hu hi hz hsize hby v n xs hown s h63 hbytes hbase;have h4:=Tx (P:=P) w base t u o.type e i ht hu hi hz hsize hby v n xs hown s h63 hbytes hr;unfold Oper.wp execOp;simp only[ho,resolve,invoke,builtin,Sem.run_bind,Sem.run_pure,Result.andThen_ok,List.map_toArray,List.map_cons,List.map_nil,hs,hx,hr];exact hK _ _ (h v' w' h2 h3 h4)
end
structure BldLow (B b m:Nat) (l:List UInt8) (w:World):Prop where
 bld:Lib.IsBuilderF 52 5 B b (Lib.byteCells l) w
 lt:b<m
 own:∀p v,w.heap[b]? =some (.cells #[p,v] 52 (0,0))->∀g,v.ownBlock=some g->g<m
theorem BldLow.of {B b:Nat}{l:List UInt8}{w:World}(h:Lib.IsBuilderF 52 5 B b (Lib.byteCells l) w):BldLow B b w.heap.size l w:=by
 refine⟨h,?_,?_⟩
 ·rcases h with⟨-,v,hb,-⟩ |⟨-,v,hb,-⟩<;>exact(Array.getElem?_eq_some_iff.1 hb).1
 intro p v hb g hg;have key:∀q,Lib.BuilderAtF 52 5 B b q (Lib.byteCells l) w->g<w.heap.size:=λq hq=>by
  obtain⟨-,v',hb',hown,-⟩:=hq;rw[hb] at hb';injection hb' with hb'
  injection hb' with e
  injection e with e
  injection e with e1 e2
  injection e2 with e2
  subst e2;exact(hown.lt g hg).2
 exact h.elim (key _) (key _)
theorem BldLow.below {B b m:Nat}{l:List UInt8}{w w':World}(h:BldLow B b m l w)(hb:Below w.heap.size w w'):BldLow B b m l w':=by
 have hlt:b<w.heap.size:=by rcases h.bld with⟨-,v,hb,-⟩ |⟨-,v,hb,-⟩<;>exact(Array.getElem?_eq_some_iff.1 hb).1
 exact⟨Mb h.bld hb,h.lt,λp v e=>h.own p v ((hb.block b hlt).symm.trans e)⟩
theorem Vx (B b:Nat)(bs:List Value)(w:World)(h:Lib.IsBuilderF 52 5 B b bs w):
 Calls Tryz.prog 54 #[.pointer (some ⟨b,0,none⟩)] w λe w'=>e= .returned (.tuple #[])/\Lib.BuilderAtF 52 5 B b (.pointer (some ⟨b,0,none⟩)) bs w'/\(w'=w\/w'=w.setCell ⟨b,0,none⟩ (.pointer (some ⟨b,0,none⟩))):=by
 rcases h with h |h
 ·refine(Any.Builder_copyCheck_fresh {Va with} Ra.toX72 b w h.cell0 h.shape h.frozen0).mono ?_
  rintro e w' ⟨rfl,rfl⟩;exact⟨rfl,h.used _,.inr rfl⟩
 refine(Any.Builder_copyCheck_used {Va with} Ra.toX72 b w h.cell0).mono ?_;rintro e w' ⟨rfl,rfl⟩;exact⟨rfl,h,.inl rfl⟩
theorem Uia:(Tryz.prog.info? 5).map (λi=>(i.zero,i.size,i.bytes))=some (some (.int .u8 0),1,1):=by kernel_rfl
theorem Oca (B b m:Nat)(l s:List UInt8)(w:World)(h:BldLow B b m l w)(hlen:l.length+s.length<=140737488355328)(hBw:B<=w.heap.size):
 Calls Tryz.prog 27 #[.pointer (some ⟨b,0,none⟩),.string ⟨s.toArray⟩] w λe w'=>(∃v,e= .returned v)/\Lib.IsBuilderF 52 5 B b (Lib.byteCells (l++s)) w'/\Below B w w'/\(∀k,m<=k->k<w.heap.size->w'.heap[k]? =w.heap[k]?)/\∀p v,w'.heap[b]? =some (.cells #[p,v] 52 (0,0))->∀g,v.ownBlock=some g->g<m\/w.heap.size<=g:=by
 obtain⟨i0,hi,hz0,hz1,hz2⟩:=info_parts Uia;have hbl:(Lib.byteCells l).length=l.length:=Lib.byteCells_length l;have hsz:(⟨s.toArray⟩:ByteArray).size=s.length:=rfl;have HC:=Qd (Vx B b _ w h.bld);have HL:=Qd h;clear h;go_enter Tryz.func27,Tryz.ntmps27
 go_wp2_with fail
 refine HC.out.mono ?_;rintro e w1 ⟨rfl,h1,hw1⟩;obtain⟨hB,v,hbk,hown,hne⟩:=h1;have hs1:w1.heap.size=w.heap.size:=by rcases hw1 with rfl |rfl<;>simp
 have hb1:Below B w w1:=by
  rcases hw1 with rfl |rfl
  ·exact Br
  exact Br.setCell (p:=⟨b,0,none⟩) hB _
 have HK1:Hid (∀k,k≠b->w1.heap[k]? =w.heap[k]?):=Qd (λk hk=>by
  rcases hw1 with rfl |rfl
  ·rfl
  exact Below.heap_setCell _ _ _ _ hk)
 have HV:Hid (∀g,v.ownBlock=some g->g<m):=Qd (λg hg=>by
  rcases HL.out.bld with⟨-,v',hb',-⟩ |⟨-,v',hb',-⟩
  all_goals
   refine HL.out.own _ v' hb' g ?_;rcases hw1 with rfl |rfl
   ·rw[hb'] at hbk;injection hbk with e;injection e with e;injection e with e;injection e with e1 e2;injection e2 with e2;rw[e2];exact hg
   have hq:=Blk.set_ (vs:=[_,v']) hb' 0 (.pointer (some ⟨b,0,none⟩));have hq2:=hq.symm.trans hbk;injection hq2 with e;injection e with e;injection e with e;injection e with e1 e2;injection e2 with e2;rw[e2];exact hg)
 have c1:w1.cell? ⟨b,1,none⟩=some v:=by rw[Lib.cell_of_heap hbk];rfl
 have HB1:=Qd hb1;have HOWN:=Qd hown;have hlt:b<w1.heap.size:=(Array.getElem?_eq_some_iff.1 hbk).1;have HBK:=Qd hbk;have HNE:=Qd hne;clear hw1 hb1 hown hbk hne;go_wp2_with (at_builtin;refine Ux _ rfl _ _ 50 9 rfl B 5 i0 Tryz.underlying50 Tryz.underlying9 hi hz0 hz1 hz2 _ _ _ rfl HOWN.out ⟨s.toArray⟩ rfl (by unfold maxLen;omega) (by omega) (by omega) ?_;intro v' w2 hown' hgrow hat;have hb2:w2.heap[b]? =some (.cells #[.pointer (some ⟨b,0,none⟩),v] 52 (0,0)):=(hgrow.block b hlt (λe=>HNE.out e.symm)).trans HBK.out;have d1:w2.cell? ⟨b,1,none⟩=some v:=(by rw[Lib.cell_of_heap hb2];rfl);have f1:w2.frozen? ⟨b,1,none⟩=false:=Lib.frozen_of_heap hb2 1;obtain⟨ao,n',cap,rfl⟩:∃ao n' cap,v'= .slice ao n' cap:=(by rcases hown'.2 with⟨hv,_⟩ |⟨g,cap,cur,fz,hv,_⟩<;>exact⟨_,_,_,hv⟩);replace hown':=Qd hown';replace hgrow:=Qd hgrow;replace hb2:=Qd hb2;replace hat:=Qd hat)
 go_ret2
 refine⟨by first|exact⟨_,rfl⟩ |simp,.inr ?_,(HB1.out.grown hgrow.out (by omega) (λk hk=>(HOWN.out.lt k hk).1)).setCell (p:=⟨b,1,none⟩) hB _,λk h1 h2=>?_,λp v' hv g hg=>?_⟩
 ·rw[Lib.byteCells_append]
  exact Lib.BuilderAtF.put (T:=52) (e:=5) hB hb2.out (bs':=_++Lib.strCells ⟨s.toArray⟩) (by simpa [Lib.strCells_length] using hown'.out) (by decide)
 ·have hlb:=HL.out.lt
  rw[Below.heap_setCell _ _ _ _ (show k≠b by omega),hgrow.out.block k (by omega) (λe=>by have:=HV.out k e.symm;omega),HK1.out k (by omega)]
 have hq:=Blk.set_ (vs:=[_,v]) hb2.out 1 (.slice ao n' cap);have hq2:=hq.symm.trans hv;injection hq2 with e;injection e with e;injection e with e;injection e with e1 e2;injection e2 with e2
 subst e2;rcases hat.out g hg with h |h
 ·exact .inl (HV.out g h)
 exact .inr (by omega)
theorem S9 {w:World}{g n k:Nat}(h:k≠g):(w.freeze ⟨g,0,none⟩ n).heap[k]? =w.heap[k]? :=by
 unfold World.freeze
 split
 ·rfl
 show(w.heap.modify g _)[k]? =_;rw[Array.getElem?_modify,if_neg (λe=>h e.symm)]
theorem Pka:Tryz.prog.follows .mixedOrders=true:=by kernel_rfl
theorem Sna:Tryz.prog.underlying 96=some (.pointer 5):=Tryz.underlying96
theorem Tna:Tryz.prog.cellsOf 5=1:=by kernel_rfl
theorem T9 (B b m:Nat)(l:List UInt8)(w:World)(h:BldLow B b m l w)(h0:l≠[]):
 Calls Tryz.prog 32 #[.pointer (some ⟨b,0,none⟩)] w λe w'=>e= .returned (.string ⟨l.toArray⟩)/\Below B w w'/\∀k,m<=k->w'.heap[k]? =w.heap[k]? :=by
 obtain⟨p,hAt⟩:∃p,Lib.BuilderAtF 52 5 B b p (Lib.byteCells l) w:=by
  rcases h.bld with h |h
  ·exact⟨_,h⟩
  exact⟨_,h⟩
 obtain⟨hB,v,hbk,hown,hne⟩:=hAt;have hl0:l.length≠0:=by simpa using h0
 rw[Lib.byteCells_length] at hown;obtain⟨g,cap,cur,fz,rfl,hbg,hg,hfz,hnc,hcm,hcs,htake⟩:∃g cap cur fz,v= .slice (some ⟨g,0,none⟩) l.length cap/\B<=g/\w.heap[g]? =some (.cells cur 5 fz)/\fz.2<=l.length*1/\l.length<=cap/\cap<=maxLen/\cur.size=cap*1/\cur.toList.take (l.length*1)=Lib.byteCells l:=by
  rcases hown.2 with⟨_,hz⟩ |⟨g,cap,cur,fz,hv,r⟩
  ·exact absurd hz hl0
  exact⟨g,cap,cur,fz,hv,r⟩
 have hgm:g<m:=h.own _ _ hbk g (by simp[Value.ownBlock]);have c1:w.drew.cell? ⟨b,1,none⟩=some (.slice (some ⟨g,0,none⟩) l.length cap):=by
  have:w.drew.heap[b]? =some (.cells #[p,.slice (some ⟨g,0,none⟩) l.length cap] 52 (0,0)):=hbk;rw[Lib.cell_of_heap this];rfl
 have hSD:(Builtin.unsafeSliceData_ #[50] 96 #[.slice (some ⟨g,0,none⟩) l.length cap]).run Tryz.prog w.drew= .ok (.pointer (some ⟨g,0,none⟩)) w.drew:=
  Lib.run_unsafeSliceData_row _ _ _ _ _ _ (by omega)
 have hUS:(Builtin.unsafeString_ #[96,3] 9 #[.pointer (some ⟨g,0,none⟩),.int .i64 l.length]).run Tryz.prog w.drew= .ok (.string ⟨l.toArray⟩) (w.drew.freeze ⟨g,0,none⟩ l.length):=by
  refine Lib.run_unsafeString_row w.drew 96 3 9 5 Sna Tna g cur.size (by have hg':w.drew.heap[g]? =some (.cells cur 5 fz):=hg;simp[World.shape?,hg']) l h0 (by omega) (by unfold maxLen at hcm;omega) ?_;intro j x hx;have:=hown.cells (g:=g) rfl j (.int .u8 x.toNat) (by simp[Lib.byteCells,hx]);exact this
 have HEND:Hid (Below B w (w.drew.freeze ⟨g,0,none⟩ l.length)/\∀k,m<=k->(w.drew.freeze ⟨g,0,none⟩ l.length).heap[k]? =w.heap[k]?):=Qd ⟨Lib.below_freeze (Below.drew (Below.refl B w)) (p:=⟨g,0,none⟩) hbg _,λk hk=>S9 (by omega)⟩;clear h hbk hown hne hfz hnc hcm hcs htake hg hgm hbg hB;have mixed:=Pka;go_enter Tryz.func32,Tryz.ntmps32
 go_wp2
 go_region_o
 all_goals
  go_wp2
  go_ret;exact⟨rfl,HEND.out⟩
end
section
open Go.RowKit Ar
theorem Bs {α:Type}[BEq α][LawfulBEq α]{l l':List α}{k:Nat}(h:k<l.length)(h':k<l'.length)(hne:l[k]≠l'[k]):(l==l')=false:=by
 rw[beq_eq_false_iff_ne];rintro rfl;exact hne rfl
theorem Zk {α:Type}[BEq α][LawfulBEq α]{l l':List α}{k:Nat}(hl:l.length=l'.length)(hk:k=l.length)(h:l.take k=l'.take k):(l==l')=true:=by
 rw[beq_iff_eq];rwa[hk,List.take_length,hl,List.take_length] at h
theorem Lo {α:Type}[BEq α][LawfulBEq α]{l l':List α}(h:l.length≠l'.length):(l==l')=false:=by
 rw[beq_eq_false_iff_ne];rintro rfl;exact h rfl
theorem Ej {α:Type}{l l':List α}{k:Nat}(h:k<l.length)(h':k<l'.length)(he:l.take k=l'.take k)(hk:l[k]=l'[k]):l.take (k+1)=l'.take (k+1):=by
 rw[List.take_succ_eq_append_getElem h,List.take_succ_eq_append_getElem h',he,hk]
theorem Ib {B:Nat}{w w':World}(h:Below B w w')(n:Nat):Below B w (w'.drewN n):=⟨h.os,h.tape,h.output,h.size,h.block⟩
theorem Lc {w:World}{B:Nat}{A:Option Addr}{l:List Int}(h:Lies w B A (Ya l)){k:Nat}(hk:k<l.length):∃b off,A=some ⟨b,off,none⟩/\b<B/\w.cell? ⟨b,off+k,none⟩=some (.int .i64 l[k]):=by
 obtain⟨b,off,h1,h2,h3⟩:=h.at_ (k:=k) (by simpa [Ya] using hk);exact⟨b,off,h1,h2,by rw[h3];simp[Ya]⟩
theorem Al {w:World}{B:Nat}{A:Option Addr}{l:List Nat}(h:Lies w B A (Rd l)){k:Nat}(hk:k<l.length):∃b off,A=some ⟨b,off,none⟩/\b<B/\w.cell? ⟨b,off+k,none⟩=some (.int .u32 (l[k]:Int)):=by
 obtain⟨b,off,h1,h2,h3⟩:=h.at_ (k:=k) (by simpa [Rd] using hk);exact⟨b,off,h1,h2,by rw[h3];simp[Rd]⟩
theorem Cs (l l':List Int)(A A':Option Addr)(c c':Nat)(w:World)(B:Nat)(hA:Lies w B A (Ya l))(hA':Lies w B A' (Ya l'))(hn:l.length<=9223372036854775807)(hn':l'.length<=9223372036854775807):
 Calls Tryz.prog 24 #[.slice A l.length c,.slice A' l'.length c'] w λe w'=>e= .returned (.bool (l==l'))/\Below w.heap.size w w':=by
 have HA:=Qd hA;have HA':=Qd hA';clear hA hA';by_cases hne:l.length=l'.length
 ·have hd:(l.length !=l'.length)=false:=by simpa using hne
  have hln:l.length<=l'.length:=by omega
  have HN:=Qd hne;clear hne;go_enter Tryz.func24,Tryz.ntmps24
  go_wp2_with fail
  go_loopw [5,13] (λu i wr=>∃k n:Nat,k<=l.length/\i= .int .i64 k/\wr=w.drewN n/\Hid (l.take k=l'.take k)) (λu i _=>l.length-(intOf i).toNat)
  case atStart=>exact⟨0,0,Nat.zero_le _,rfl,rfl,Qd rfl⟩
  case round=>
   obtain⟨k,n,hk,rfl,rfl,HT⟩:=hrel;by_cases hlt:k<l.length
   ·have hlt':k<l'.length:=by omega
    obtain⟨b,off,rfl,hb,g0⟩:=Lc HA.out hlt;obtain⟨b',off',rfl,hb',g1⟩:=Lc HA'.out hlt';have HM:=Qd (Ej hlt hlt' HT.out);have HZ:=Qd (Bs (l:=l) (l':=l') hlt hlt');generalize l[k]=x at g0 HM HZ;generalize l'[k]=y at g1 HM HZ;have hk0:(0:Int)<=(k:Int):=by omega
    have hk1:(k:Int)<(l.length:Int):=by omega
    have hk2:(k:Int)<(l'.length:Int):=by omega
    by_cases hxy:x=y
    ·subst hxy
     have e1:(x !=x)=false:=by simp
     have HM2:=Qd (HM.out rfl);clear HM HZ;go_wp2_with fail
     go_quiet (fail)
     go_wp2_with fail
     go_roundw
     case rel=>exact⟨k+1,n+nq,by omega,by go_num,rfl,HM2⟩
     case measure=>simp[intOf];omega
    have e1:(x !=y)=true:=by simpa using hxy
    have HZ2:=Qd (HZ.out hxy)
    skip
    clear HM HZ hxy;go_wp2_with fail
    go_quiet (fail)
    go_wp2_with fail
    go_ret;exact⟨Aa (by rw[HZ2.out]),Ib (Ib Br _) _⟩
   have hke:k=l.length:=by omega
   have HZ2:=Qd (Zk HN.out hke HT.out);clear hke HT;go_wp2_with fail
   go_ret;exact⟨Aa (by rw[HZ2.out]),Ib Br _⟩
 have hd:(l.length !=l'.length)=true:=by simpa using hne
 have HZ2:=Qd (Lo hne);clear hne;go_enter Tryz.func24,Tryz.ntmps24
 go_wp2_with fail
 go_ret;exact⟨Aa (by rw[HZ2.out]),Br⟩
theorem Aw (l l':List Nat)(A A':Option Addr)(c c':Nat)(w:World)(B:Nat)(hA:Lies w B A (Rd l))(hA':Lies w B A' (Rd l'))(hn:l.length<=9223372036854775807)(hn':l'.length<=9223372036854775807):
 Calls Tryz.prog 112 #[.slice A l.length c,.slice A' l'.length c'] w λe w'=>e= .returned (.bool (l==l'))/\Below w.heap.size w w':=by
 have HA:=Qd hA;have HA':=Qd hA';clear hA hA';by_cases hne:l.length=l'.length
 ·have hd:(l.length !=l'.length)=false:=by simpa using hne
  have hln:l.length<=l'.length:=by omega
  have HN:=Qd hne;clear hne;go_enter Tryz.func112,Tryz.ntmps112
  go_wp2_with fail
  go_loopw [5,13] (λu i wr=>∃k n:Nat,k<=l.length/\i= .int .i64 k/\wr=w.drewN n/\Hid (l.take k=l'.take k)) (λu i _=>l.length-(intOf i).toNat)
  case atStart=>exact⟨0,0,Nat.zero_le _,rfl,rfl,Qd rfl⟩
  case round=>
   obtain⟨k,n,hk,rfl,rfl,HT⟩:=hrel;by_cases hlt:k<l.length
   ·have hlt':k<l'.length:=by omega
    obtain⟨b,off,rfl,hb,g0⟩:=Al HA.out hlt;obtain⟨b',off',rfl,hb',g1⟩:=Al HA'.out hlt';have HM:=Qd (Ej hlt hlt' HT.out);have HZ:=Qd (Bs (l:=l) (l':=l') hlt hlt');generalize l[k]=x at g0 HM HZ;generalize l'[k]=y at g1 HM HZ;have hk0:(0:Int)<=(k:Int):=by omega
    have hk1:(k:Int)<(l.length:Int):=by omega
    have hk2:(k:Int)<(l'.length:Int):=by omega
    by_cases hxy:x=y
    ·subst hxy
     have e1:(x !=x)=false:=by simp
     have HM2:=Qd (HM.out rfl);clear HM HZ;go_wp2_with fail
     go_quiet (fail)
     go_wp2_with fail
     go_roundw
     case rel=>exact⟨k+1,n+nq,by omega,by go_num,rfl,HM2⟩
     case measure=>simp[intOf];omega
    have e1:(x !=y)=true:=by simpa using hxy
    have HZ2:=Qd (HZ.out hxy);have e2:((x:Int)!=(y:Int))=true:=by simp;omega
    clear HM HZ hxy;go_wp2_with fail
    go_quiet (fail)
    go_wp2_with fail
    go_ret;exact⟨Aa (by rw[HZ2.out]),Ib (Ib Br _) _⟩
   have hke:k=l.length:=by omega
   have HZ2:=Qd (Zk HN.out hke HT.out);clear hke HT;go_wp2_with fail
   go_ret;exact⟨Aa (by rw[HZ2.out]),Ib Br _⟩
 have hd:(l.length !=l'.length)=true:=by simpa using hne
 have HZ2:=Qd (Lo hne);clear hne;go_enter Tryz.func112,Tryz.ntmps112
 go_wp2_with fail
 go_ret;exact⟨Aa (by rw[HZ2.out]),Br⟩
theorem Pp (l l':List Int)(A A':Option Addr)(c c':Nat)(w:World)(B:Nat)(hA:Lies w B A (Ya l))(hA':Lies w B A' (Ya l'))(hn:l.length<=9223372036854775807)(hn':l'.length<=9223372036854775807):
 Calls Tryz.prog 25 #[.slice A l.length c,.slice A' l'.length c'] w λe w'=>e= .returned (.bool (l==l'))/\Below w.heap.size w w':=by
 have HA:=Qd hA;have HA':=Qd hA';clear hA hA';by_cases hne:l.length=l'.length
 ·have hd:(l.length !=l'.length)=false:=by simpa using hne
  have hln:l.length<=l'.length:=by omega
  have HN:=Qd hne;clear hne;go_enter Tryz.func25,Tryz.ntmps25
  go_wp2_with fail
  go_loopw [5] (λi wr=>∃k n:Nat,k<=l.length/\i= .int .i64 k/\wr=w.drewN n/\Hid (l.take k=l'.take k)) (λi _=>l.length-(intOf i).toNat)
  case atStart=>exact⟨0,0,Nat.zero_le _,rfl,rfl,Qd rfl⟩
  case round=>
   obtain⟨k,n,hk,rfl,rfl,HT⟩:=hrel;by_cases hlt:k<l.length
   ·have hlt':k<l'.length:=by omega
    obtain⟨b,off,rfl,hb,g0⟩:=Lc HA.out hlt;obtain⟨b',off',rfl,hb',g1⟩:=Lc HA'.out hlt';have HM:=Qd (Ej hlt hlt' HT.out);have HZ:=Qd (Bs (l:=l) (l':=l') hlt hlt');generalize l[k]=x at g0 HM HZ;generalize l'[k]=y at g1 HM HZ;have hk0:(0:Int)<=(k:Int):=by omega
    have hk1:(k:Int)<(l.length:Int):=by omega
    have hk2:(k:Int)<(l'.length:Int):=by omega
    by_cases hxy:x=y
    ·subst hxy
     have e1:(x !=x)=false:=by simp
     have HM2:=Qd (HM.out rfl);clear HM HZ;go_wp2_with fail
     go_quiet (fail)
     go_wp2_with fail
     go_roundw
     case rel=>exact⟨k+1,n+nq,by omega,by go_num,rfl,HM2⟩
     case measure=>simp[intOf];omega
    have e1:(x !=y)=true:=by simpa using hxy
    have HZ2:=Qd (HZ.out hxy)
    skip
    clear HM HZ hxy;go_wp2_with fail
    go_quiet (fail)
    go_wp2_with fail
    go_ret;exact⟨Aa (by rw[HZ2.out]),Ib (Ib Br _) _⟩
   have hke:k=l.length:=by omega
   have HZ2:=Qd (Zk HN.out hke HT.out);clear hke HT;go_wp2_with fail
   go_ret;exact⟨Aa (by rw[HZ2.out]),Ib Br _⟩
 have hd:(l.length !=l'.length)=true:=by simpa using hne
 have HZ2:=Qd (Lo hne);clear hne;go_enter Tryz.func25,Tryz.ntmps25
 go_wp2_with fail
 go_ret;exact⟨Aa (by rw[HZ2.out]),Br⟩
theorem Sm (l l':List Nat)(A A':Option Addr)(c c':Nat)(w:World)(B:Nat)(hA:Lies w B A (Rd l))(hA':Lies w B A' (Rd l'))(hn:l.length<=9223372036854775807)(hn':l'.length<=9223372036854775807):
 Calls Tryz.prog 113 #[.slice A l.length c,.slice A' l'.length c'] w λe w'=>e= .returned (.bool (l==l'))/\Below w.heap.size w w':=by
 have HA:=Qd hA;have HA':=Qd hA';clear hA hA';by_cases hne:l.length=l'.length
 ·have hd:(l.length !=l'.length)=false:=by simpa using hne
  have hln:l.length<=l'.length:=by omega
  have HN:=Qd hne;clear hne;go_enter Tryz.func113,Tryz.ntmps113
  go_wp2_with fail
  go_loopw [5] (λi wr=>∃k n:Nat,k<=l.length/\i= .int .i64 k/\wr=w.drewN n/\Hid (l.take k=l'.take k)) (λi _=>l.length-(intOf i).toNat)
  case atStart=>exact⟨0,0,Nat.zero_le _,rfl,rfl,Qd rfl⟩
  case round=>
   obtain⟨k,n,hk,rfl,rfl,HT⟩:=hrel;by_cases hlt:k<l.length
   ·have hlt':k<l'.length:=by omega
    obtain⟨b,off,rfl,hb,g0⟩:=Al HA.out hlt;obtain⟨b',off',rfl,hb',g1⟩:=Al HA'.out hlt';have HM:=Qd (Ej hlt hlt' HT.out);have HZ:=Qd (Bs (l:=l) (l':=l') hlt hlt');generalize l[k]=x at g0 HM HZ;generalize l'[k]=y at g1 HM HZ;have hk0:(0:Int)<=(k:Int):=by omega
    have hk1:(k:Int)<(l.length:Int):=by omega
    have hk2:(k:Int)<(l'.length:Int):=by omega
    by_cases hxy:x=y
    ·subst hxy
     have e1:(x !=x)=false:=by simp
     have HM2:=Qd (HM.out rfl);clear HM HZ;go_wp2_with fail
     go_quiet (fail)
     go_wp2_with fail
     go_roundw
     case rel=>exact⟨k+1,n+nq,by omega,by go_num,rfl,HM2⟩
     case measure=>simp[intOf];omega
    have e1:(x !=y)=true:=by simpa using hxy
    have HZ2:=Qd (HZ.out hxy);have e2:((x:Int)!=(y:Int))=true:=by simp;omega
    clear HM HZ hxy;go_wp2_with fail
    go_quiet (fail)
    go_wp2_with fail
    go_ret;exact⟨Aa (by rw[HZ2.out]),Ib (Ib Br _) _⟩
   have hke:k=l.length:=by omega
   have HZ2:=Qd (Zk HN.out hke HT.out);clear hke HT;go_wp2_with fail
   go_ret;exact⟨Aa (by rw[HZ2.out]),Ib Br _⟩
 have hd:(l.length !=l'.length)=true:=by simpa using hne
 have HZ2:=Qd (Lo hne);clear hne;go_enter Tryz.func113,Tryz.ntmps113
 go_wp2_with fail
 go_ret;exact⟨Aa (by rw[HZ2.out]),Br⟩
end
section
open Go.RowKit Ar
theorem Hz (x:Int)(w:World):Calls Tryz.prog 102 #[.int .i64 x] w λe w'=>e= .returned (.bool (decide (x<0)))/\w=w':=by
 cases q:decide (x<0);all_goals
  go_enter Tryz.func102,Tryz.ntmps102
  go_wp2_with fail
  go_ret;exact⟨Aa (by simp),rfl⟩
theorem Iz (x:Int)(w:World):Calls Tryz.prog 103 #[.int .i64 x] w λe w'=>e= .returned (.bool (decide (2048<x)))/\w=w':=by
 cases q:decide (2048<x);all_goals
  go_enter Tryz.func103,Tryz.ntmps103
  go_wp2_with fail
  go_ret;exact⟨Aa (by simp),rfl⟩
def Jz (r:Bool)(w:World)(e:Ending)(w':World):Prop:=∃i:Int,e= .returned (.int .i64 i)/\decide (0<=i)=r/\w=w'
theorem Kz {p:Int->Bool}{l:List Int}{k:Nat}(hk:k=l.length)(h:(l.take k).any p=false):l.any p=false:=by subst hk;rwa[List.take_length] at h
theorem Wx (F:FuncId)(hE:∀args w,(callFunc F args).run Tryz.prog w= .ok (.enter F args) w)(p:Int->Bool)(A:Option Addr)(c:Nat)(l:List Int)(w:World)(B:Nat)(hl:Lies w B A (Ya l))(hn:l.length<=9223372036854775807)
 (hF:∀x,Calls Tryz.prog F #[.int .i64 x] w λe w'=>e= .returned (.bool (p x))/\w=w'):
 Calls Tryz.prog 131 #[.slice A l.length c,.func (.func F) #[] #[]] w (Jz (l.any p) w):=by
 have HA:=Qd hl;have HF:=Qd hF;clear hl hF;go_enter Tryz.func131,Tryz.ntmps131
 go_wp2_with fail
 go_loop [8] (λiv=>∃i:Nat,iv= .int .i64 (i:Int)/\i<=l.length/\Hid ((l.take i).any p=false)) (λiv=>l.length-(intOf iv).toNat)
 case atStart=>exact⟨0,by go_num,Nat.zero_le _,Qd rfl⟩
 case round=>
  obtain⟨k,rfl,hk,HT⟩:=hrel;by_cases hlt:k<l.length
  ·obtain⟨b,off,rfl,hb,g0⟩:=Lc HA.out hlt
   have H1:=Qd (He (p:=p) hlt);have H2:=Qd (Jr (p:=p) hlt);have FX:=Qd (HF.out l[k]);generalize l[k]=x at*;generalize p x=r at*;have hk0:(0:Int)<=(k:Int):=by omega
   have hk1:(k:Int)<(l.length:Int):=by omega
   go_wp2_with fail
   refine FX.out.mono ?_;rintro e w' ⟨rfl,rfl⟩;cases r
   ·have H3:Hid ((l.take (k+1)).any p=false):=Qd (by rw[H1.out,HT.out];rfl)
    go_wp2_with fail
    go_round
    case rel=>exact⟨k+1,by go_num,by omega,H3⟩
    case measure=>simp[intOf];omega
   have H3:=Qd (H2.out rfl);go_wp2_with fail
   go_ret;exact⟨_,rfl,by rw[H3.out];exact decide_eq_true (by omega),rfl⟩
  have H3:=Qd (Kz (by omega) HT.out);go_wp2_with fail
  go_ret;exact⟨_,rfl,by rw[H3.out];rfl,rfl⟩
theorem Tm (F:FuncId)(hE:∀args w,(callFunc F args).run Tryz.prog w= .ok (.enter F args) w)(p:Int->Bool)(A:Option Addr)(c:Nat)(l:List Int)(w:World)(B:Nat)(hl:Lies w B A (Ya l))(hn:l.length<=9223372036854775807)
 (hF:∀x,Calls Tryz.prog F #[.int .i64 x] w λe w'=>e= .returned (.bool (p x))/\w=w'):
 Calls Tryz.prog 101 #[.slice A l.length c,.func (.func F) #[] #[]] w λe w'=>e= .returned (.bool (l.any p))/\w=w':=by
 have IX:=Qd (Wx F hE p A c l w B hl hn hF);clear hE;clear hl hF;generalize l.any p=r at*;generalize l.length=n at*;go_enter Tryz.func101,Tryz.ntmps101
 go_wp2_with fail
 refine IX.out.mono ?_;rintro e w' ⟨i,rfl,hr,rfl⟩;go_wp2_with fail
 go_ret;exact⟨rfl,rfl⟩
theorem Pca (A:Option Addr)(c:Nat)(l:List Int)(y:Int)(w:World)(B:Nat)(hl:Lies w B A (Ya l))(hn:l.length<=9223372036854775807):
 Calls Tryz.prog 132 #[.slice A l.length c,.int .i64 y] w (Jz (l.any (· ==y)) w):=by
 have HA:=Qd hl;clear hl;go_enter Tryz.func132,Tryz.ntmps132
 go_wp2_with fail
 go_loop [8] (λiv=>∃i:Nat,iv= .int .i64 (i:Int)/\i<=l.length/\Hid ((l.take i).any (· ==y)=false)) (λiv=>l.length-(intOf iv).toNat)
 case atStart=>exact⟨0,by go_num,Nat.zero_le _,Qd rfl⟩
 case round=>
  obtain⟨k,rfl,hk,HT⟩:=hrel;by_cases hlt:k<l.length
  ·obtain⟨b,off,rfl,hb,g0⟩:=Lc HA.out hlt
   have H1:=Qd (He (p:=(· ==y)) hlt);have H2:=Qd (Jr (p:=(· ==y)) hlt);generalize l[k]=x at*;have hk0:(0:Int)<=(k:Int):=by omega
   have hk1:(k:Int)<(l.length:Int):=by omega
   by_cases hxy:x=y
   ·subst hxy
    have e1:(x==x)=true:=by simp
    have H3:=Qd (H2.out e1);clear H1 H2;go_wp2_with fail
    go_ret;exact⟨_,rfl,by rw[H3.out];exact decide_eq_true (by omega),rfl⟩
   have e1:(y==x)=false:=beq_eq_false_iff_ne.2 (λh=>hxy h.symm);have H3:Hid ((l.take (k+1)).any (· ==y)=false):=Qd (by rw[H1.out,HT.out];simpa using hxy);clear H1 H2 hxy;go_wp2_with fail
   go_round
   case rel=>exact⟨k+1,by go_num,by omega,H3⟩
   case measure=>simp[intOf];omega
  have H3:=Qd (Kz (by omega) HT.out);go_wp2_with fail
  go_ret;exact⟨_,rfl,by rw[H3.out];rfl,rfl⟩
theorem Lz (A:Option Addr)(c:Nat)(l:List Int)(y:Int)(w:World)(B:Nat)(hl:Lies w B A (Ya l))(hn:l.length<=9223372036854775807):
 Calls Tryz.prog 104 #[.slice A l.length c,.int .i64 y] w λe w'=>e= .returned (.bool (l.any (· ==y)))/\w=w':=by
 have IX:=Qd (Pca A c l y w B hl hn);clear hl;generalize l.any (· ==y)=r at*;generalize l.length=n at*;go_enter Tryz.func104,Tryz.ntmps104
 go_wp2_with fail
 refine IX.out.mono ?_;rintro e w' ⟨i,rfl,hr,rfl⟩;go_wp2_with fail
 go_ret;exact⟨rfl,rfl⟩
theorem U9 {o x:Int}(h1:1<=o)(h2:o<=2048)(h3:1<=x)(h4:x<=2048):1<=o*x/\o*x<=4194304:=by
 have a:o*1<=o*x:=Int.mul_le_mul_of_nonneg_left h3 (by omega);have b:o*x<=o*2048:=Int.mul_le_mul_of_nonneg_left h4 (by omega);omega
theorem J6 (A:Option Addr)(c:Nat)(l:List Int)(w:World)(B:Nat)(hl:Lies w B A (Ya l))(hn:l.length<=9223372036854775807)(hx:∀x∈l,1<=x/\x<=2048):
 Calls Tryz.prog 105 #[.slice A l.length c] w λe w'=>e= .returned (.int .i64 ((Ac 1 l).getD 0))/\w=w':=by
 have HA:=Qd hl;have HX:=Qd hx;clear hl hx;go_enter Tryz.func105,Tryz.ntmps105
 go_wp2_with fail
 go_loop [3,8] (λpv iv=>∃(i:Nat) (o:Int),iv= .int .i64 (i:Int)/\i<=l.length/\pv= .int .i64 o/\1<=o/\o<=2048/\Hid (Ac o (l.drop i)=Ac 1 l)) (λ_ iv=>l.length-(intOf iv).toNat)
 case atStart=>exact⟨0,1,by go_num,Nat.zero_le _,rfl,by omega,by omega,Qd rfl⟩
 case round=>
  obtain⟨k,o,rfl,hk,rfl,ho1,ho2,HT⟩:=hrel;by_cases hlt:k<l.length
  ·obtain⟨b,off,rfl,hb,g0⟩:=Lc HA.out hlt
   have H1:=Qd (Kr (n:=o) hlt);obtain⟨hx1,hx2⟩:=HX.out l[k] (List.getElem_mem hlt);generalize l[k]=x at*;obtain⟨hp1,hp2⟩:=U9 ho1 ho2 hx1 hx2;have hk0:(0:Int)<=(k:Int):=by omega
   have hk1:(k:Int)<(l.length:Int):=by omega
   obtain⟨p,hp⟩:∃p,p=o*x:=⟨_,rfl⟩;rw[<-hp] at H1 hp1 hp2;have hp':o*x=p:=hp.symm;clear hp;by_cases hbig:2048<p
   ·have H3:Hid (Ac 1 l=none):=Qd (by rw[<-HT.out,H1.out,if_pos hbig])
    clear H1 HT;go_wp2_with fail
    go_ret;exact⟨by rw[H3.out];rfl,rfl⟩
   have H3:Hid (Ac p (l.drop (k+1))=Ac 1 l):=Qd (by rw[<-HT.out,H1.out,if_neg hbig]);clear H1 HT;go_wp2_with fail
   go_round
   case rel=>exact⟨k+1,p,by go_num,by omega,by rw[<-hp'],hp1,by omega,H3⟩
   case measure=>simp[intOf];omega
  have H3:Hid (Ac 1 l=some o):=Qd (by rw[<-HT.out];exact Lv (by omega));go_wp2_with fail
  go_ret;exact⟨by rw[H3.out];rfl,rfl⟩
theorem Kma {l:List Int}(h:6<l.length):cnt l=(0,7):=by unfold cnt;rw[if_pos h]
theorem Lma {l:List Int}(h:¬6<l.length)(h2:l.any (λx=>decide (x<0))=true):cnt l=(0,3):=by unfold cnt;rw[if_neg h,if_pos h2]
theorem Mma {l:List Int}(h:¬6<l.length)(h2:l.any (λx=>decide (x<0))=false)(h3:l.any (λx=>decide (2048<x))=true):cnt l=(0,7):=by unfold cnt;rw[if_neg h,h2,if_neg (by decide),if_pos h3]
theorem Nma {l:List Int}(h:¬6<l.length)(h2:l.any (λx=>decide (x<0))=false)(h3:l.any (λx=>decide (2048<x))=false)(h4:l.any (· ==0)=true):cnt l=(0,0):=by unfold cnt;rw[if_neg h,h2,if_neg (by decide),h3,if_neg (by decide),if_pos h4]
theorem Oma {l:List Int}(h:¬6<l.length)(h2:l.any (λx=>decide (x<0))=false)(h3:l.any (λx=>decide (2048<x))=false)(h4:l.any (· ==0)=false):cnt l=match Ac 1 l with |some n=>(n,0) |none=>(0,7):=by unfold cnt;rw[if_neg h,h2,if_neg (by decide),h3,if_neg (by decide),h4,if_neg (by decide)];all_goals rfl
theorem Qka {l:List Int}(h2:l.any (λx=>decide (x<0))=false)(h3:l.any (λx=>decide (2048<x))=false)(h4:l.any (· ==0)=false):∀x∈l,1<=x/\x<=2048:=by
 intro x hx;obtain⟨k,hk,rfl⟩:=List.mem_iff_getElem.1 hx;have a:=Se h2 hk;have b:=Se h3 hk;have c:=Se h4 hk;simp at a b c;omega
def Jd (l:List Int):Ending:= .returned (.tuple #[.int .i64 (cnt l).1,.int .i64 (cnt l).2])
theorem Qu (A:Option Addr)(c:Nat)(l:List Int)(w:World)(B:Nat)(hl:Lies w B A (Ya l))(hn:l.length<=9223372036854775807):
 Calls Tryz.prog 73 #[.slice A l.length c] w λe w'=>e=Jd l/\w=w':=by
 have C1:=Qd (Tm 102 (enters_of Tryz.func102 (by kernel_rfl) rfl) _ A c l w B hl hn (λx=>Hz x w));have C2:=Qd (Tm 103 (enters_of Tryz.func103 (by kernel_rfl) rfl) _ A c l w B hl hn (λx=>Iz x w));have C3:=Qd (Lz A c l 0 w B hl hn);have C4:=Qd (λhx=>J6 A c l w B hl hn hx);have K1:=Qd (Kma (l:=l));have K2:=Qd (Lma (l:=l));have K3:=Qd (Mma (l:=l));have K4:=Qd (Nma (l:=l));have K5:=Qd (Oma (l:=l));have K6:=Qd (Qka (l:=l));have K7:Hid (∀n,Ac 1 l=some n->(∀x∈l,1<=x/\x<=2048)->1<=n):=Qd (λn h hx=>(Jq (λx h=>(hx x h).1) (by omega) (by omega) h).1);clear hl;by_cases h6:6<l.length
 ·have HR:Hid (Jd l= .returned (.tuple #[.int .i64 0,.int .i64 7])):=Qd (by unfold Jd;rw[K1.out h6])
  generalize Jd l=R at*;generalize l.length=n at*;go_enter Tryz.func73,Tryz.ntmps73
  go_wp2_with fail
  go_ret2
  exact⟨HR.out.symm,rfl⟩
 cases h2:l.any (λx=>decide (x<0))
 ·cases h3:l.any (λx=>decide (2048<x))
  ·cases h4:l.any (· ==0)
   ·have hx:=K6.out h2 h3 h4
    have C5:=Qd (C4.out hx);have K8:=K5.out h6 h2 h3 h4;rw[h2] at C1;rw[h3] at C2;rw[h4] at C3;cases hp:Ac 1 l with
    |none=>
     rw[hp] at K8 C5;have HR:Hid (Jd l= .returned (.tuple #[.int .i64 0,.int .i64 7])):=Qd (by unfold Jd;rw[K8]);clear K1 K2 K3 K4 K5 K6 K7 K8 hx C4 hp h2 h3 h4;generalize Jd l=R at*;generalize l.length=n at*;go_enter Tryz.func73,Tryz.ntmps73
     go_wp2_with fail
     refine C1.out.mono ?_;rintro e w' ⟨rfl,rfl⟩;go_wp2_with fail
     refine C2.out.mono ?_;rintro e w' ⟨rfl,rfl⟩;go_wp2_with fail
     refine C3.out.mono ?_;rintro e w' ⟨rfl,rfl⟩;go_wp2_with fail
     refine C5.out.mono ?_;rintro e w' ⟨rfl,rfl⟩;go_wp2_with fail
     go_ret2
     exact⟨HR.out.symm,rfl⟩
    |some m=>
     rw[hp] at K8 C5;have HR:Hid (Jd l= .returned (.tuple #[.int .i64 m,.int .i64 0])):=Qd (by unfold Jd;rw[K8]);have hm:=K7.out m hp hx;have q:(m==0)=false:=beq_eq_false_iff_ne.2 (by omega);clear K1 K2 K3 K4 K5 K6 K7 K8 hx C4 hp h2 h3 h4 hm;simp only[Option.getD_some] at C5;generalize Jd l=R at*;generalize l.length=n at*;go_enter Tryz.func73,Tryz.ntmps73
     go_wp2_with fail
     refine C1.out.mono ?_;rintro e w' ⟨rfl,rfl⟩;go_wp2_with fail
     refine C2.out.mono ?_;rintro e w' ⟨rfl,rfl⟩;go_wp2_with fail
     refine C3.out.mono ?_;rintro e w' ⟨rfl,rfl⟩;go_wp2_with fail
     refine C5.out.mono ?_;rintro e w' ⟨rfl,rfl⟩;go_wp2_with fail
     go_ret2
     exact⟨HR.out.symm,rfl⟩
   have HR:Hid (Jd l= .returned (.tuple #[.int .i64 0,.int .i64 0])):=Qd (by unfold Jd;rw[K4.out h6 h2 h3 h4]);rw[h2] at C1;rw[h3] at C2;rw[h4] at C3;clear K1 K2 K3 K4 K5 K6 K7 C4 h2 h3 h4;generalize Jd l=R at*;generalize l.length=n at*;go_enter Tryz.func73,Tryz.ntmps73
   go_wp2_with fail
   refine C1.out.mono ?_;rintro e w' ⟨rfl,rfl⟩;go_wp2_with fail
   refine C2.out.mono ?_;rintro e w' ⟨rfl,rfl⟩;go_wp2_with fail
   refine C3.out.mono ?_;rintro e w' ⟨rfl,rfl⟩;go_wp2_with fail
   go_ret2
   exact⟨HR.out.symm,rfl⟩
  have HR:Hid (Jd l= .returned (.tuple #[.int .i64 0,.int .i64 7])):=Qd (by unfold Jd;rw[K3.out h6 h2 h3]);rw[h2] at C1;rw[h3] at C2;clear K1 K2 K3 K4 K5 K6 K7 C3 C4 h2 h3;generalize Jd l=R at*;generalize l.length=n at*;go_enter Tryz.func73,Tryz.ntmps73
  go_wp2_with fail
  refine C1.out.mono ?_;rintro e w' ⟨rfl,rfl⟩;go_wp2_with fail
  refine C2.out.mono ?_;rintro e w' ⟨rfl,rfl⟩;go_wp2_with fail
  go_ret2
  exact⟨HR.out.symm,rfl⟩
 have HR:Hid (Jd l= .returned (.tuple #[.int .i64 0,.int .i64 3])):=Qd (by unfold Jd;rw[K2.out h6 h2]);rw[h2] at C1;clear K1 K2 K3 K4 K5 K6 K7 C2 C3 C4 h2;generalize Jd l=R at*;generalize l.length=n at*;go_enter Tryz.func73,Tryz.ntmps73
 go_wp2_with fail
 refine C1.out.mono ?_;rintro e w' ⟨rfl,rfl⟩;go_wp2_with fail
 go_ret2
 exact⟨HR.out.symm,rfl⟩
end
end Go.Proofs.YtmiccalfamepdaaGreatDoor
namespace Gl
open Go
def by_ (s:ByteArray)(i:Nat):Nat:=(s.get! i).toNat
def may (c:Int):Bool:=decide (0<=c)&&decide (c<=1114111)&&(decide (c<55296)||decide (57343<c))
def first (b:Nat):Option (Nat×Nat):=if 240<=b then some (b-240,4) else if 224<=b then some (b-224,3) else if 192<=b then some (b-192,2) else if 128<=b then none else some (b,1)
def more (s:ByteArray)(c:Nat):Nat->Nat->Option Nat
 |_,0=>some c
 |i,k+1=>if by_ s i<128\/191<by_ s i then none else more s (64*c+by_ s i-128) (i+1) k
def Poa (s:ByteArray)(at_:Nat):Option (Nat×Nat):=
 match first (by_ s at_) with
 |none=>none
 |some (c,n)=>if s.size-at_<n then none else(more s c (at_+1) (n-1)).map λc=>(c,n)
def wide (c:Nat):Nat:=if c<128 then 1 else if c<2048 then 2 else if c<65536 then 3 else 4
def one (c:Nat):List Nat:=
 if c<128 then[c] else if c<2048 then[192+c/64,128+c%64] else if c<65536 then[224+c/4096,128+c/64%64,128+c%64] else[240+c/262144,128+c/4096%64,128+c/64%64,128+c%64]
def read (s:ByteArray)(at_:Nat):Option (Nat×Nat):=if Utf8.decode s at_=(Utf8.runeError,1) then none else some (Utf8.decode s at_)
end Gl
namespace Tk
open Go
def Una:List Int:=[0x2B,0x2D,0xD7,0xF7,0x2308,0x230A,0x7C,0x2A,0x21,0x7E,0x3C,0x2264,0x3D,0x2265,0x3E,0x2260,0x2227,0x2228,0x2374,0x2C,0x236A,0x233D,0x2296,0x2349,0x2191,0x2193,0x2282,0x2283,0x2261,0x2262,0x2373,0x220A,0x222A,0x2229,0x2378,0x234B,0x2352,0x22A2,0x22A3]
def Pma:List Int:=[0x2F,0x233F,0x5C,0x2340,0xA8,0x2368,0x2364,0x2363,0x2218,0x2E]
def Qma:List Int:=[0x28,0x29,0x5B,0x5D,0x7B,0x7D,0x3B,0x3A,0x22C4,0x2190,0x237A,0x2375,0x2207,0x2395,0x235E,0x27,0x235D]
def cls (c:Int):Int:=
 if c=32\/c=9 then 1
 else if 97<=c/\c<=122\/65<=c/\c<=90\/c=95 then 2
 else if 48<=c/\c<=57\/c=175 then 3
 else if c∈Una then 4 else if c∈Pma then 5 else if c∈Qma then 6 else 0
structure Tok where
 kind:Int
 n:Rt.Nm
 l:List Int
 s:List UInt8
 c:Int
 at_:Nat
def none_:Tok:=⟨0,Rt.none_,[],[],0,0⟩
def Vna (c:Int):List UInt8:=(Gl.one c.toNat).map UInt8.ofNat
def enc (l:List Int):List UInt8:=l.flatMap Vna
def digit (c:Int):Bool:=decide (48<=c)&&decide (c<=57)
def Rka (c:Int):Bool:=digit c||(cls c==2)
def words (l:List Int)(i:Nat):Nat:=((l.drop i).takeWhile Rka).length
def Ru (l:List Int)(i:Nat):Nat:=((l.drop i).takeWhile digit).length
def Ska (l:List Int)(i:Nat):Option Nat:=
 let n:=if l.getD i (-1)=175 then 1 else 0
 let k:=Ru l (i+n)
 if k=0 then none
 else
  let m:=n+k
  let e:=if(l.getD (i+m) (-1)=114\/l.getD (i+m) (-1)=46)/\0<Ru l (i+m+1) then m+1+Ru l (i+m+1) else m
  if Rka (l.getD (i+e) (-1))=true\/l.getD (i+e) (-1)=175 then none else some e
def V9 (l:List Int):Nat->Nat->List Int->Option (List Int×Nat)
 | 0,_,_=>none
 |f+1,k,out=>
  if l.length<=k then none
  else if l.getD k (-1)≠39 then V9 l f (k+1) (out++[l.getD k (-1)])
  else if l.getD (k+1) (-1)≠39 then some (out,k+1)
  else V9 l f (k+2) (out++[39])
def read (l:List Int)(i:Nat):Tok×Nat×Int:=
 let c:=l.getD i (-1)
 if cls c=3 then
  match Ska l i with
  |none=>(none_,0,1)
  |some n=>
   let r:=Dg.parse (enc ((l.drop i).take n))
   if r.2=0 then(⟨0,r.1,[],[],0,i⟩,n,0) else(none_,0,r.2)
 else if cls c=2 then
  let n:=words l i
  if 16<n then(none_,0,1) else(⟨if c<=90 then 3 else 2,Rt.none_,[],enc ((l.drop i).take n),0,i⟩,n,0)
 else if c=39 then
  match V9 l (l.length+1) (i+1) [] with
  |none=>(none_,0,1)
  |some (t,e)=>(⟨1,Rt.none_,t,[],0,i⟩,e-i,0)
 else if c=9109\/c=9054 then
  let n:=words l (i+1)
  let d:=l.getD (i+1) (-1)
  if n=1/\48<=d/\d<=55 then(⟨if c=9054 then 5 else 4,Rt.none_,[],[],d-48,i⟩,2,0)
  else if c=9109/\n=2/\d=68/\l.getD (i+2) (-1)=67 then(⟨6,Rt.none_,[],[],0,i⟩,3,0)
  else if c=9109/\n=2/\d=85/\l.getD (i+2) (-1)=80 then(⟨6,Rt.none_,[],[],1,i⟩,3,0)
  else(none_,0,1)
 else if cls c=0 then(none_,0,1)
 else(⟨7,Rt.none_,[],[],c,i⟩,1,0)
end Tk
namespace Tr
open Go
inductive Kd where
 |mk (kind op:Int) (Su:List UInt8) (n:Rt.Nm) (text:List Int) (Wna:List Kd)
def kind:Kd->Int
 | .mk k _ _ _ _ _=>k
def op:Kd->Int
 | .mk _ o _ _ _ _=>o
def Su:Kd->List UInt8
 | .mk _ _ m _ _ _=>m
def num:Kd->Rt.Nm
 | .mk _ _ _ n _ _=>n
def text:Kd->List Int
 | .mk _ _ _ _ t _=>t
def Wna:Kd->List Kd
 | .mk _ _ _ _ _ l=>l
mutual
def depth:Kd->Nat
 | .mk _ _ _ _ _ l=>Qca l+1
def Qca:List Kd->Nat
 | []=>0
 |t::r=>max (depth t) (Qca r)
end
mutual
def count:Kd->Nat
 | .mk _ _ _ _ _ l=>Rca l+1
def Rca:List Kd->Nat
 | []=>0
 |t::r=>count t+Rca r
end
mutual
def left:Kd->Nat->Int->Int
 | .mk _ _ _ _ t l,d,n=>if d=0 then-1 else Jia l (d-1) (n-1-((t.length/8:Nat):Int))
def Jia:List Kd->Nat->Int->Int
 | [],_,n=>n
 |t::r,d,n=>if n<0 then n else Jia r d (left t d n)
end
def few (t:Kd):Bool:=decide (0<=left t 60 3000)
def array (k:Int):Bool:=decide (1<=k)&&decide (k<=16)&& !(k==10)
def func (k:Int):Bool:=decide (17<=k)&&decide (k<=24)
def Kia (k:Int):Bool:=decide (17<=k)&&decide (k<=21)
def Tka:List Int:=[0x2F,0x233F,0x5C,0x2340,0xA8,0x2368]
def Rma:List Int:=[0x2E,0x2218,0x2364,0x2363]
def Sma:List Int:=[0x2F,0x233F,0x5C,0x2340]
def Tma (c:Int):Bool:=(Tk.cls c==4)||Sma.contains c
def Sca (b:UInt8):Bool:=Tk.cls (b.toNat:Int)==2
def digit (b:UInt8):Bool:=decide (48<=b.toNat)&&decide (b.toNat<=57)
def Uma (s:List UInt8):Bool:=decide (65<=(s.getD 0 0).toNat)&&decide ((s.getD 0 0).toNat<=90)
def named (s:List UInt8)(function:Bool):Bool:=
 !s.isEmpty&&decide (s.length<=16)&&Sca (s.getD 0 0)&&s.all (λb=>Sca b||digit b)&&(Uma s==function)
def port (n:Int):Bool:=decide (0<=n)&&decide (n<8)
def zero (n:Rt.Nm):Bool:= !n.neg&&n.top.isEmpty&&n.bot.isEmpty
def Ld (k o:Int)(m:List UInt8)(n:Rt.Nm)(t:List Int):Bool:=
 (if k=1 then Rt.right n else zero n)&&(if k=2 then decide (t.length<=2048)&&t.all Gl.may else t.isEmpty)&&
 (if k=3\/k=13\/k=14\/k=15 then named m false else if k=18\/k=27 then named m true else m.isEmpty)&&
 (if k=6\/k=7\/k=16 then port o else if k=17 then Tma o else if k=21 then(o==0)||(o==1) else if k=22 then Tka.contains o else if k=23 then Rma.contains o else o==0)
def parts:List Int->List (Int->Bool)->Bool
 | [],[]=>true
 |k::r,f::s=>f k&&parts r s
 |_,_=>false
def Vma (k:Int):Bool:=array k||(k==10)
def Xna (k o:Int)(l:List Int):Bool:=
 if k=8 then decide (2<=l.length)&&l.all array
 else if k=9\/k=14 then decide (2<=l.length)&&array (l.getD 0 0)&&(l.drop 1).all Vma
 else if k=11\/k=15 then parts l [func,array]
 else if k=12 then parts l [array,func,array]
 else if k=13\/k=16 then parts l [array]
 else if k=22\/k=27 then parts l [func]
 else if k=23 then parts l [func,λx=>(Kia x&& !(o==0x2364))||(array x&&((o==0x2364)||(o==0x2363)))]
 else if k=24 then parts l [Kia]
 else if k=25\/k=26 then parts l [array,array]
 else if k=20 then !l.isEmpty&&l.all (λx=>array x||(x==27)||(x==25)||(x==26))
 else if k=28 then !l.isEmpty&&l.all (λx=>array x||(x==27))
 else if 1<=k/\k<=21 then l.isEmpty
 else false
def one:Kd->Bool
 | .mk k o m n t l=>Ld k o m n t&&Xna k o (l.map kind)
mutual
def all:Kd->Bool
 | .mk k o m n t l=>one (.mk k o m n t l)&&Uka l
def Uka:List Kd->Bool
 | []=>true
 |t::r=>all t&&Uka r
end
def right (t:Kd):Bool:=decide (depth t<=40)&&decide (count t<=2048)&&all t
mutual
def go:Kd->Nat->Nat->Bool×Nat
 | .mk k o m n t l,d,q=>if d=0\/q=0 then(false,q) else if one (.mk k o m n t l) then gos l (d-1) (q-1) else(false,q-1)
def gos:List Kd->Nat->Nat->Bool×Nat
 | [],_,q=>(true,q)
 |t::r,d,q=>if(go t d q).1 then gos r d (go t d q).2 else(false,(go t d q).2)
end
end Tr
namespace Tr
open Go
def trimmed (l:List Nat):Bool:=decide (l.length<=32)&&(l.isEmpty|| !(l.getLastD 0==0))
def isOne (l:List Nat):Bool:=l==[1]
def ratio (n:Rt.Nm):Bool:=
 if trimmed n.top&&trimmed n.bot&& !n.bot.isEmpty&& !(n.top.isEmpty&&n.neg) then isOne n.bot||(Nt.digs (Nat.gcd (Nt.val n.top) (Nt.val n.bot))==[1]) else false
theorem trimmed_iff (l:List Nat):trimmed l=true↔l.length<=32/\Nt.Top l:=by
 unfold trimmed;simp only[Bool.and_eq_true,decide_eq_true_eq,Bool.or_eq_true,Bool.not_eq_true',beq_eq_false_iff_ne,List.isEmpty_iff];refine and_congr_right λ_=>?_
 constructor
 ·rintro(h |h) hne
  ·exact absurd h hne
  rwa[List.getLastD_eq_getLast?,List.getLast?_eq_some_getLast hne] at h
 intro h;by_cases hne:l=[]
 ·exact .inl hne
 refine .inr ?_;have:=h hne;rwa[List.getLastD_eq_getLast?,List.getLast?_eq_some_getLast hne]
theorem digs_one:Nt.digs 1=[1]:=by rw[Nt.digs_pos (by omega)];simp[Nt.digs_zero]
theorem ratio_right {n:Rt.Nm}(o1:Nt.Ok n.top)(o2:Nt.Ok n.bot):ratio n=Rt.right n:=by
 rw[Bool.eq_iff_iff,Rt.right_iff o1 o2];have hd:Nt.digs (Nat.gcd (Nt.val n.top) (Nt.val n.bot))=[1]↔Nat.gcd (Nt.val n.top) (Nt.val n.bot)=1:=by
  constructor
  ·intro h;exact Nt.digs_inj (h.trans digs_one.symm)
  intro h;rw[h,digs_one]
 unfold ratio;have h1:(trimmed n.top&&trimmed n.bot&& !n.bot.isEmpty&& !(n.top.isEmpty&&n.neg))=true↔n.top.length<=32/\n.bot.length<=32/\Nt.Top n.top/\Nt.Top n.bot/\n.bot≠[]/\(n.top=[]->n.neg=false):=by
  simp only[Bool.and_eq_true,trimmed_iff]
  constructor
  ·rintro⟨⟨⟨⟨a,b⟩,c,d⟩,e⟩,f⟩
   refine⟨a,c,b,d,?_,?_⟩
   ·rintro h;rw[h] at e;cases e
   intro h;rw[h] at f;simpa using f
  rintro⟨a,b,c,d,e,f⟩;refine⟨⟨⟨⟨a,c⟩,b,d⟩,?_⟩,?_⟩
  ·cases hb:n.bot with
   |nil=>exact absurd hb e
   |cons _ _=>rfl
  cases ht:n.top with
  |nil=>simpa using f ht
  |cons _ _=>rfl
 by_cases hc:(trimmed n.top&&trimmed n.bot&& !n.bot.isEmpty&& !(n.top.isEmpty&&n.neg))=true
 ·rw[if_pos hc]
  have h2:=h1.1 hc
  constructor
  ·intro h
   refine⟨h2.1,h2.2.1,h2.2.2.1,h2.2.2.2.1,h2.2.2.2.2.1,h2.2.2.2.2.2,?_⟩;simp only[Bool.or_eq_true,isOne,beq_iff_eq] at h;rcases h with h |h
   ·rw[h];simp[Nt.val]
   exact hd.1 h
  rintro⟨_,_,_,_,_,_,h⟩;simp only[Bool.or_eq_true,isOne,beq_iff_eq];exact .inr (hd.2 h)
 rw[if_neg hc]
 constructor
 ·intro h;cases h
 rintro⟨a,b,c,d,e,f,g⟩;exact absurd (h1.2 ⟨a,b,c,d,e,f⟩) hc
def Koa (o:Int)(m:List UInt8)(n:Rt.Nm)(t:List Int):Int:=
 (if o=0 then 0 else 1)+(if m=[] then 0 else 2)+(if zero n then 0 else 4)+(if t=[] then 0 else 8)
def at_ (s:List UInt8)(i:Nat):UInt8:=if i<s.length then s.getD i 0 else s.getD (s.length-1) 0
end Tr
namespace Go.Proofs.YtmiccalfamepdaaGreatDoor
open Go.RowKit
structure Later (w0:World) where
 w:World
 b:Below w0.heap.size w0 w
instance Later.nonempty (w0:World):Nonempty (Later w0):=⟨⟨w0,Br⟩⟩
theorem Bb (w0:World){P:Program}{id:Nat}{Q:Exit->Act->World->Prop}{a:Act}{w:World}{l:List Oper}(hm:P.follows .mixedOrders=true)(hB:Region.lexB .any l.toArray=true)(hC:Below w0.heap.size w0 w.drew)
 (h:wpQuiet P l.toArray (λw'=>∃x:Later w0,w'=x.w) (λa'=>∀w',(∃x:Later w0,w'=x.w)->Q .normal a' w') l a):(Code.region id l.toArray true).wp P Q a w:=
 wp_region_quiet (C:=λw'=>∃x:Later w0,w'=x.w) hm hB ⟨⟨_,hC⟩,rfl⟩ (by simpa using h)
theorem Later.call {w0:World}{P:Program}{f:FuncId}{args:Array Value}{x:Later w0}{v:Value}
 (h:Calls P f args x.w λe w'=>e= .returned v/\Below x.w.heap.size x.w w'):Calls P f args x.w λe w''=>e= .returned v/\∃y:Later w0,w''=y.w:=
 h.mono λ_ w' ⟨he,hb⟩=>⟨he,⟨w',x.b.trans (hb.mono x.b.size)⟩,rfl⟩
theorem Below.drew_self (w:World):Below w.heap.size w w.drew:=⟨rfl,rfl,rfl,Lr,λ_ _=>rfl⟩
section
open Go.RowKit
section
variable {P : Program} {ops : Array Oper} {Q : Exit -> Act -> World -> Prop} {md : Region.Mode}
theorem Xd {l:Array Bool}{i:Nat}(h:i∈Region.ready md ops l):i<ops.size/\l.getD i true=false/\((ops[i]?).map (·.after.all λe=> !Region.binds md e||l.getD e.on false)).getD false=true:=by
 simp only[Region.ready,List.mem_filter,List.mem_range,Bool.and_eq_true,Bool.not_eq_true'] at h;exact⟨h.1,h.2.1,h.2.2⟩
theorem Tq {l:Array Bool}(h:l.toList.count false=0)(i:Nat):l.getD i true=true:=by
 rw[List.count_eq_zero] at h;rw[Array.getD_eq_getD_getElem?];cases e:l[i]? with
 |none=>rfl
 |some b=>
  cases b
  ·exact absurd (by have:=Array.mem_of_getElem? e;simpa using this) h
  rfl
theorem Gk:∀(l:List Bool) (i:Nat),l[i]? =some false->(l.set i true).count false+1=l.count false
 | [],i,h=>by simp at h
 |b::r,0,h=>by
  simp at h;subst h;simp
 |b::r,i+1,h=>by
  have:=Gk r i (by simpa using h);cases b<;>simp<;>omega
theorem Nf (I:Array Bool->Act->World->Prop)
 (hI:∀l a w,I l a w->∀i,i∈Region.ready md ops l->wpOp P ops Q i (I (l.setIfInBounds i true)) a w)
 (hd:∀l a w,I l a w->Region.ready md ops l=[]->Q .normal a w):
 ∀n l a w,l.toList.count false<=n->I l a w->wpAny P md ops Q n l a w:=by
 intro n
 induction n with
 |zero=>
  intro l a w hc h;have hr:Region.ready md ops l=[]:=by
   rw[List.eq_nil_iff_forall_not_mem];intro i hi;have:=(Xd hi).2.1;rw[Tq (by omega)] at this;cases this
  exact⟨hr,hd l a w h hr⟩
 |succ n ih=>
  intro l a w hc h;refine⟨hd l a w h,λi hi=>wpOp_mono (λa' w' h'=>ih _ a' w' ?_ h') (hI l a w h i hi)⟩;have h1:=(Xd hi).2.1;rw[Array.getD_eq_getD_getElem?] at h1;have h2:l.toList[i]? =some false:=by
   cases e:l[i]? with
   |none=>rw[e] at h1;cases h1
   |some b=>rw[e] at h1;simp at h1;subst h1;simpa using e
  have h3:=Gk _ _ h2;have h4:(l.setIfInBounds i true).toList=l.toList.set i true:=by simp
  rw[h4];omega
theorem Da {i:Nat}{o:Oper}{K:Act->World->Prop}{a:Act}{w:World}(h:ops[i]? =some o)(hg:o.guard=none)(hw:o.wp P a w K Q):wpOp P ops Q i K a w:=by
 unfold wpOp;rw[h];have:Region.wanted o (yielded ops a.tmps)=true:=by simp[Region.wanted,hg]
 simp only[this,if_true];exact .inl hw
end
end
section
open Go.RowKit
def Ta (xs:Nat->Value)(i:Nat)(v:Value):Nat->Value:=λj=>if j=i then v else xs j
section
variable {P : Program} {ops : Array Oper} {Q : Exit -> Act -> World -> Prop} {md : Region.Mode}
def Fb (md:Region.Mode)(ops:Array Oper)(i j:Nat):Bool:=match ops[i]? with
 |some o=>o.after.toList.any λe=>e.on==j&&Region.binds md e
 |none=>false
def Ni (frame:(Nat->Value)->Act)(R:Nat->World->Value->Prop)(xs:Nat->Value)(i:Nat)(w:World)(a':Act)(w':World):Prop:=∃v,a'=frame (Ta xs i v)/\R i w' v/\Below w.heap.size w w'
theorem X9 (frame:(Nat->Value)->Act)(w0:World)(R:Nat->World->Value->Prop)
 (hR:∀i w w' v,R i w v->Below w.heap.size w w'->R i w' v)
 (step:∀i xs w,i<ops.size->Below w0.heap.size w0 w->(∀j,Fb md ops i j=true->R j w (xs j))->wpOp P ops Q i (Ni frame R xs i w) (frame xs) w)
 (done:∀xs w,Below w0.heap.size w0 w->(∀i,i<ops.size->R i w (xs i))->Q .normal (frame xs) w)
 (hops:∀i,i<ops.size->∀o,ops[i]? =some o->∀e∈o.after,e.on<i)
 (xs0:Nat->Value) (w1:World) (hw1:Below w0.heap.size w0 w1):wpAny P md ops Q ops.size (Array.replicate ops.size false) (frame xs0) w1:=by
 refine Nf (λl a w=>l.size=ops.size/\Below w0.heap.size w0 w/\∃xs,a=frame xs/\∀i,i<ops.size->l[i]? =some true->R i w (xs i)) ?_ ?_ ops.size _ _ _ (by simp) ⟨by simp,hw1,xs0,rfl,λi hi h=>by simp[hi] at h⟩
 ·rintro l a w ⟨hl,hb,xs,rfl,hx⟩ i hi
  obtain⟨h1,h2,h3⟩:=Xd hi;have hli:l[i]? =some false:=by
   rw[Array.getD_eq_getD_getElem?] at h2;rw[Array.getElem?_eq_getElem (by omega)] at h2⊢;simp at h2;rw[h2]
  refine wpOp_mono ?_ (step i xs w h1 hb ?_)
  ·rintro a' w' ⟨v,rfl,hv,hb'⟩
   refine⟨by simpa using hl,hb.trans (hb'.mono hb.size),Ta xs i v,rfl,λj hj hlj=>?_⟩;by_cases e:j=i
   ·subst e;simp only[Ta,if_true];exact hv
   simp only[Ta,if_neg e];rw[Array.getElem?_setIfInBounds_ne (λh=>e h.symm)] at hlj;exact hR j w w' _ (hx j hj hlj) hb'
  intro j hj;obtain⟨o,ho⟩:∃o,ops[i]? =some o:=⟨_,Array.getElem?_eq_getElem h1⟩;unfold Fb at hj;rw[ho] at hj;simp only[List.any_eq_true,Bool.and_eq_true,beq_iff_eq] at hj;obtain⟨e,he',rfl,hbe⟩:=hj;have he:e∈o.after:=by simpa using he'
  have hlt:=hops i h1 o ho e he;rw[ho] at h3;simp only[Option.map_some,Option.getD_some,Array.all_eq_true_iff_forall_mem] at h3;have h4:=h3 e he;rw[hbe] at h4;simp only[Bool.not_true,Bool.false_or] at h4;refine hx e.on (by omega) ?_;rw[Array.getD_eq_getD_getElem?,Array.getElem?_eq_getElem (by omega)] at h4;rw[Array.getElem?_eq_getElem (by omega)];simp at h4;rw[h4]
 rintro l a w ⟨hl,hb,xs,rfl,hx⟩ hr;refine done xs w hb ?_;have hall:∀n i,i<n->i<ops.size->l[i]? =some true:=by
  intro n
  induction n with
  |zero=>intro i h;omega
  |succ n ih=>
   intro i hi his;by_cases e:i<n
   ·exact ih i e his
   have hie:i=n:=by omega
   subst hie;cases h:l[i]? with
   |none=>rw[Array.getElem?_eq_none_iff] at h;omega
   |some b=>
    cases b
    ·exfalso
     have:i∈Region.ready md ops l:=by
      simp only[Region.ready,List.mem_filter,List.mem_range,Bool.and_eq_true,Bool.not_eq_true'];refine⟨his,by rw[Array.getD_eq_getD_getElem?,h];rfl,?_⟩;rw[Array.getElem?_eq_getElem his];simp only[Option.map_some,Option.getD_some,Array.all_eq_true_iff_forall_mem];intro e he;have hlt:=hops i his _ (Array.getElem?_eq_getElem his) e he;rw[Array.getD_eq_getD_getElem?,ih e.on hlt (by omega)];simp
     rw[hr] at this;cases this
    rfl
 intro i hi;exact hx i hi (hall (i+1) i (by omega) hi)
theorem Hk (frame:(Nat->Value)->Act)(w0:World)(R:Nat->World->Value->Prop){id:Nat}{a:Act}{w:World}(hm:P.follows .mixedOrders=true)
 (hR:∀i w w' v,R i w v->Below w.heap.size w w'->R i w' v)
 (hops:ops.toList.zipIdx.all (λp=>p.1.after.all λe=>decide (e.on<p.2))=true)
 (xs0:Nat->Value) (ha:a=frame xs0) (hw:Below w0.heap.size w0 w)
 (step:∀i xs w,i<ops.size->Below w0.heap.size w0 w->(∀j,Fb .any ops i j=true->R j w (xs j))->wpOp P ops Q i (Ni frame R xs i w) (frame xs) w)
 (done:∀xs w,Below w0.heap.size w0 w->(∀i,i<ops.size->R i w (xs i))->Q .normal (frame xs) w):(Code.region id ops true).wp P Q a w:=by
 subst ha;refine wp_region_any hm (X9 frame w0 R hR step done ?_ xs0 _ ?_)
 ·intro i hi o ho e he
  rw[List.all_eq_true] at hops;have h:=hops (o,i) (by
   rw[List.mem_zipIdx_iff_getElem?]
   simpa using ho)
  rw[Array.all_eq_true_iff_forall_mem] at h
  simpa using h e he
 exact⟨hw.os,hw.tape,hw.output,hw.size,hw.block⟩
end
end
section
open Go.RowKit
section
variable {P : Program} {ops : Array Oper} {Q : Exit -> Act -> World -> Prop} {md : Region.Mode}
theorem Vj {l:Array Bool}{i j:Nat}(h:((ops[i]?).map (·.after.all λe=> !Region.binds md e||l.getD e.on false)).getD false=true)(hj:Fb md ops i j=true):l.getD j false=true:=by
 unfold Fb at hj;cases ho:ops[i]? with
 |none=>rw[ho] at hj;cases hj
 |some o=>
  rw[ho] at hj h;simp only[List.any_eq_true,Bool.and_eq_true,beq_iff_eq] at hj;obtain⟨e,he',rfl,hbe⟩:=hj;have he:e∈o.after:=by simpa using he'
  simp only[Option.map_some,Option.getD_some,Array.all_eq_true_iff_forall_mem] at h;have h4:=h e he;rw[hbe] at h4
  simpa using h4
theorem Um {l:Array Bool}{i:Nat}(h:l.getD i false=true):l[i]? =some true:=by
 rw[Array.getD_eq_getD_getElem?] at h;cases e:l[i]? with
 |none=>rw[e] at h;cases h
 |some b=>rw[e] at h;simp at h;rw[h]
theorem Y9 (frame:(Nat->Value)->Act)(w0:World)(R:Nat->World->Value->Prop)(n:Nat)(hn:ops.size=n+1)
 (hR:∀i w w' v,R i w v->Below w.heap.size w w'->R i w' v)
 (step:∀i xs w,i<n->Below w0.heap.size w0 w->(∀j,Fb md ops i j=true->R j w (xs j))->wpOp P ops Q i (Ni frame R xs i w) (frame xs) w)
 (last:∀xs w,Below w0.heap.size w0 w->(∀i,i<n->R i w (xs i))->wpOp P ops Q n (λa' w'=>Q .normal a' w') (frame xs) w)
 (hops:∀i,i<ops.size->∀j,Fb md ops i j=true->j<i) (hlast:∀j,j<n->Fb md ops n j=true)
 (xs0:Nat->Value) (w1:World) (hw1:Below w0.heap.size w0 w1):wpAny P md ops Q ops.size (Array.replicate ops.size false) (frame xs0) w1:=by
 refine Nf (λl a w=>l.size=ops.size/\((l[n]? =some false/\Below w0.heap.size w0 w/\∃xs,a=frame xs/\∀i,i<n->l[i]? =some true->R i w (xs i))\/(l[n]? =some true/\Q .normal a w/\∀i,i<n->l[i]? =some true))) ?_ ?_ ops.size _ _ _ (by simp) ⟨by simp,.inl ⟨by simp[hn],hw1,xs0,rfl,λi hi h=>by simp[show i<ops.size by omega] at h⟩⟩
 ·rintro l a w ⟨hl,hc⟩ i hi
  obtain⟨h1,h2,h3⟩:=Xd hi;have hli:l[i]? =some false:=by
   rw[Array.getD_eq_getD_getElem?] at h2;rw[Array.getElem?_eq_getElem (by omega)] at h2⊢;simp at h2;rw[h2]
  rcases hc with⟨hln,hb,xs,rfl,hx⟩ |⟨hln,hQ,hall⟩
  ·by_cases e:i=n
   ·subst e
    have hall:∀j,j<i->l[j]? =some true:=λj hj=>Um (Vj h3 (hlast j hj));refine wpOp_mono ?_ (last xs w hb (λj hj=>hx j hj (hall j hj)));intro a' w' hq;refine⟨by simpa using hl,.inr ⟨?_,hq,λj hj=>?_⟩⟩
    ·rw[Array.getElem?_setIfInBounds_self_of_lt (by omega)]
    rw[Array.getElem?_setIfInBounds_ne (by omega)];exact hall j hj
   refine wpOp_mono ?_ (step i xs w (by omega) hb (λj hj=>hx j (by have:=hops i h1 j hj;omega) (Um (Vj h3 hj))));rintro a' w' ⟨v,rfl,hv,hb'⟩;refine⟨by simpa using hl,.inl ⟨by rw[Array.getElem?_setIfInBounds_ne e];exact hln,hb.trans (hb'.mono hb.size),Ta xs i v,rfl,λj hj hlj=>?_⟩⟩;by_cases e':j=i
   ·subst e';simp only[Ta,if_true];exact hv
   simp only[Ta,if_neg e'];rw[Array.getElem?_setIfInBounds_ne (λh=>e' h.symm)] at hlj;exact hR j w w' _ (hx j hj hlj) hb'
  exfalso
  by_cases e:i=n
  ·subst e;rw[hli] at hln;cases hln
  rw[hall i (by omega)] at hli;cases hli
 rintro l a w ⟨hl,hc⟩ hr;rcases hc with⟨hln,hb,xs,rfl,hx⟩ |⟨_,hQ,_⟩
 ·exfalso
  have hall:∀m i,i<m->i<ops.size->l[i]? =some true:=by
   intro m
   induction m with
   |zero=>intro i h;omega
   |succ m ih=>
    intro i hi his;by_cases e:i<m
    ·exact ih i e his
    have hie:i=m:=by omega
    subst hie;cases h:l[i]? with
    |none=>rw[Array.getElem?_eq_none_iff] at h;omega
    |some b=>
     cases b
     ·exfalso
      have:i∈Region.ready md ops l:=by
       simp only[Region.ready,List.mem_filter,List.mem_range,Bool.and_eq_true,Bool.not_eq_true'];refine⟨his,by rw[Array.getD_eq_getD_getElem?,h];rfl,?_⟩;rw[Array.getElem?_eq_getElem his];simp only[Option.map_some,Option.getD_some,Array.all_eq_true_iff_forall_mem];intro e he;cases hbe:Region.binds md e
       ·rfl
       have hd:Fb md ops i e.on=true:=by
        unfold Fb;rw[Array.getElem?_eq_getElem his];simp only[List.any_eq_true,Bool.and_eq_true,beq_iff_eq];exact⟨e,by simpa using he,rfl,hbe⟩
       have hlt:=hops i his e.on hd;rw[Array.getD_eq_getD_getElem?,ih e.on hlt (by omega)];simp
      rw[hr] at this;cases this
     rfl
  rw[hall (n+1) n (by omega) (by omega)] at hln;cases hln
 exact hQ
theorem Tu (frame:(Nat->Value)->Act)(w0:World)(R:Nat->World->Value->Prop)(n:Nat){id:Nat}{a:Act}{w:World}(hm:P.follows .mixedOrders=true)(hn:ops.size=n+1)
 (hR:∀i w w' v,R i w v->Below w.heap.size w w'->R i w' v)
 (hops:ops.toList.zipIdx.all (λp=>p.1.after.all λe=>decide (e.on<p.2))=true) (hlast:(List.range n).all (λj=>Fb .any ops n j)=true)
 (xs0:Nat->Value) (ha:a=frame xs0) (hw:Below w0.heap.size w0 w)
 (step:∀i xs w,i<n->Below w0.heap.size w0 w->(∀j,Fb .any ops i j=true->R j w (xs j))->wpOp P ops Q i (Ni frame R xs i w) (frame xs) w)
 (last:∀xs w,Below w0.heap.size w0 w->(∀i,i<n->R i w (xs i))->wpOp P ops Q n (λa' w'=>Q .normal a' w') (frame xs) w):(Code.region id ops true).wp P Q a w:=by
 subst ha;refine wp_region_any hm (Y9 frame w0 R n hn hR step last ?_ ?_ xs0 _ ?_)
 ·intro i hi j hj
  unfold Fb at hj;rw[Array.getElem?_eq_getElem hi] at hj;simp only[List.any_eq_true,Bool.and_eq_true,beq_iff_eq] at hj;obtain⟨e,he,rfl,_⟩:=hj;rw[List.all_eq_true] at hops;have h:=hops (ops[i],i) (by
   rw[List.mem_zipIdx_iff_getElem?];simp)
  rw[Array.all_eq_true_iff_forall_mem] at h
  simpa using h e (by simpa using he)
 ·intro j hj
  rw[List.all_eq_true] at hlast;exact hlast j (by simpa using hj)
 exact⟨hw.os,hw.tape,hw.output,hw.size,hw.block⟩
end
end
def U (l:List Nat):List Value:=l.map λn:Nat=>Value.int .u32 (n:Int)
theorem Wma {l:List Nat}{i:Nat}(h:i<l.length):(U l)[i]'(by simpa [U] using h)= .int .u32 ((l[i]:Nat):Int):=by simp[U]
theorem Nd (l:List Nat):(U l).length=l.length:=by simp[U]
theorem Lies.limb {w:World}{B:Nat}{A:Option Addr}{l:List Nat}(h:Lies w B A (U l)){k:Nat}(hk:k<l.length):
 ∃b off,A=some ⟨b,off,none⟩/\b<B/\w.cell? ⟨b,off+k,none⟩=some (.int .u32 ((l[k]:Nat):Int)):=by
 obtain⟨b,off,hA,hb,hc⟩:=h.at_ (k:=k) (by rw[Nd];exact hk);rw[Wma hk] at hc;exact⟨b,off,hA,hb,hc⟩
theorem Ad (A:Option Addr)(c B:Nat)(l:List Nat)(w:World)(hl:Lies w B A (U l))(ho:Nt.Ok l)(hc:l.length<=c)(hm:c<=9223372036854775807):
 Calls Tryz.prog 147 #[.slice A l.length c] w λe w'=>e= .returned (.slice A (Nt.digs (Nt.val l)).length (Nt.digs (Nt.val l)).length)/\w=w':=by
 have HL:=Qd hl;have HO:=Qd ho;clear hl ho;go_enter Tryz.func147,Tryz.ntmps147
 go_wp2_with fail
 go_loop [3] (λi=>∃n:Nat,n<=l.length/\i= .int .i64 (n:Int)/\Hid (∀j (hj:j<l.length),n<=j->l[j]=0)) (λi=>(intOf i).toNat)
 case atStart=>exact⟨l.length,Lr,rfl,Qd (λj hj h=>absurd hj (by omega))⟩
 case round=>
  obtain⟨n,hn,rfl,H⟩:=hrel;by_cases h0:0<n
  ·obtain⟨b,off,rfl,_,hcell⟩:=HL.out.limb (k:=n-1) (by omega)
   generalize hx:l[n-1]'(by omega)=x at hcell;have HX:=Qd hx;have hxb:x<4294967296:=by rw[<-hx];exact Nt.ok_get HO.out (by omega)
   clear hx;have hpos:(0:Int)<(n:Int):=by omega
   by_cases hz:x=0
   ·subst hz
    go_wp2_with fail
    go_round
    case rel=>
     refine⟨n-1,by omega,by go_num,Qd (λj hj h=>?_)⟩;by_cases e:j=n-1
     ·subst e;exact HX.out
     exact H.out j hj (by omega)
    case measure=>simp[intOf];omega
   have hne:((x:Int)==0)=false:=by simp;omega
   have HE:Hid ((Nt.digs (Nt.val l)).length=n):=by
    have:=Nt.take_eq_digs HO.out hn H.out (λ_=>by rw[HX.out];exact hz);rw[<-this,List.length_take];exact Nat.min_eq_left hn
   clear hz;go_wp2_with fail
   go_ret;exact⟨by rw[HE.out];rfl,rfl⟩
  obtain rfl:n=0:=by omega
  have HE:Hid ((Nt.digs (Nt.val l)).length=0):=Qd (by
   have:=Nt.take_eq_digs HO.out hn H.out (λh=>absurd h (by omega));rw[<-this];simp)
  go_wp2_with fail
  go_ret;exact⟨by rw[HE.out];rfl,rfl⟩
theorem Pe (A:Option Addr)(c B:Nat)(l:List Nat)(i:Nat)(w:World)(hl:Lies w B A (U l))(hc:l.length<=c)(hm:c<=9223372036854775807)(hi:i<=9223372036854775807)(ho:Nt.Ok l):
 Calls Tryz.prog 203 #[.slice A l.length c,.int .i64 (i:Int)] w λe w'=>e= .returned (.int .u64 ((l.getD i 0:Nat):Int))/\w=w':=by
 by_cases hlt:i<l.length
 ·obtain⟨b,off,rfl,_,hcell⟩:=hl.limb hlt
  have HG:Hid (l.getD i 0=l[i]):=Qd (by simp[List.getD_eq_getElem?_getD,hlt]);have hb:=Nt.ok_get ho hlt;clear hl ho;generalize l[i]=x at hcell HG hb;go_enter Tryz.func203,Tryz.ntmps203
  go_wp2_with fail
  go_ret;exact⟨Gb (by rw[HG.out]),rfl⟩
 have HG:Hid (l.getD i 0=0):=Qd (by rw[List.getD_eq_getElem?_getD,List.getElem?_eq_none (by omega)];rfl);clear hl ho;go_enter Tryz.func203,Tryz.ntmps203
 go_wp2_with fail
 go_ret;exact⟨Gb (by rw[HG.out];rfl),rfl⟩
theorem Wf (A A':Option Addr)(n n' c c':Nat)(w:World)(hc:n<=9223372036854775807)(hc':n'<=9223372036854775807):
 Calls Tryz.prog 205 #[.slice A n c,.slice A' n' c'] w λe w'=>e= .returned (.int .i64 ((max n n':Nat):Int))/\w=w':=by
 by_cases h:n'<n
 ·have HG:Hid (max n n'=n):=Qd (by omega)
  go_enter Tryz.func205,Tryz.ntmps205
  go_wp2_with fail
  go_ret;exact⟨Gb (by rw[HG.out]),rfl⟩
 have HG:Hid (max n n'=n'):=Qd (by omega);go_enter Tryz.func205,Tryz.ntmps205
 go_wp2_with fail
 go_ret;exact⟨Gb (by rw[HG.out]),rfl⟩
end Go.Proofs.YtmiccalfamepdaaGreatDoor
