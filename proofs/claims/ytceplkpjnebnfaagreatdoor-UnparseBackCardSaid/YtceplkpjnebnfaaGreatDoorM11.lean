/- Texts of this proof, joined. -/
import Derived.Test.YtceplkpjnebnfaaGreatDoorM10
import Derived.Deep.CutRange
import Derived.Great.BuildSlice
set_option linter.all false
set_option maxHeartbeats 8000000
set_option maxRecDepth 100000
namespace Go.Proofs.YtceplkpjnebnfaaGreatDoor
open Go.RowKit
theorem Pba {X D n k g b:Nat}{cur quo win:List Nat}(h:Nt.LongAt X D n cur quo (k+1))(hk:k<quo.length)(hD:0<D)
 (hg:Nt.val ((cur.drop k).take (n+1))/D<=g) (hg2:g<=Nt.val ((cur.drop k).take (n+1))/D+1) (hg3:g<4294967296)
 (hwl:win.length=n+1) (hwo:Nt.Ok win) (e:Nt.val win+g*D=Nt.val ((cur.drop k).take (n+1))+b*4294967296^(n+1)) (hb:b<=1):
 (b=0->Nt.LongAt X D n (cur.take k++(win++cur.drop (k+(n+1)))) (quo.set k g) k)/\
 (b=1->1<=g/\∀(win2:List Nat) (e':Nat),win2.length=n+1->Nt.Ok win2->Nt.val win2+e'*4294967296^(n+1)=Nt.val win+D->Nt.LongAt X D n (cur.take k++(win2++cur.drop (k+(n+1)))) (quo.set k (g-1)) k):=by
 obtain⟨w1,w2,w3,w4,w5,w6⟩:=h.window hk;have hR:=Nt.val_lt w2;rw[w1] at hR;have hV:=Nt.val_lt hwo;rw[hwl] at hV;have hDp:D<4294967296^(n+1):=by
  have:=h.hi;rw[Nat.pow_succ];omega
 obtain⟨r0,r1⟩:=Nt.round_ok hg hg2 hD hR hV e hb hDp;refine⟨λh0=>?_,λh1=>?_⟩
 ·obtain⟨_,a2,a3⟩:=r0 h0
  exact h.step hk hwl hwo hg3 a2 a3
 obtain⟨a1,a2⟩:=r1 h1;refine⟨by rw[a1];exact Nat.le_add_left _ _,λwin2 e' l2 o2 e2=>?_⟩;have hW:=Nt.val_lt o2;rw[l2] at hW;obtain⟨c1,c2⟩:=a2 _ e' hW e2;exact h.step hk l2 o2 (by omega) c1 c2
theorem O3:Ds:=by
 intro A A' c c' B x y w hx hy hB hc hc' hm hm' hlx hly hyx;have hy0:y≠0:=by
  intro h;rw[h,Nt.digs_zero] at hly;simp at hly
 obtain⟨n,hnn⟩:∃n,n=(Nt.digs y).length:=⟨_,rfl⟩;obtain⟨m,hmm⟩:∃m,m=(Nt.digs x).length:=⟨_,rfl⟩;have hnm:n<=m:=by rw[hnn,hmm];exact Nt.digs_len_le_of hyx
 rw[<-hnn] at hc' hly⊢;rw[<-hmm] at hc hlx⊢;obtain⟨b2,o2,rfl,hb2,htop⟩:=hy.limb (k:=n-1) (by omega);have htne:(Nt.digs y)[n-1]'(by omega)≠0:=by
  have h:=Nt.top_digs y (by intro h;rw[h] at hnn;simp at hnn;omega);rw[List.getLast_eq_getElem] at h
  simpa [<-hnn] using h
 have htb:=Nt.ok_get (Nt.ok_digs y) (i:=n-1) (by omega);obtain⟨t,htt⟩:∃t,t=(Nt.digs y)[n-1]'(by omega):=⟨_,rfl⟩;rw[<-htt] at htop htne htb;obtain⟨hL,hL1,hlo,hhi⟩:=Nt.shift_of htne htb;obtain⟨s,hss⟩:∃s,s=32-Lib.bitLen t:=⟨_,rfl⟩;rw[<-hss] at hlo hhi;have hs32:s<32:=by omega
 have LZ:Hid (∀w,Calls Tryz.prog 214 #[.int .u32 (t:Int)] w λe w'=>e= .returned (.int .i64 (s:Int))/\w=w'):=Qd (λw=>(Tryz.bits_LeadingZeros32 (t:Int) w (by omega) (by omega)).mono (by
  rintro e w' ⟨rfl,rfl⟩;refine⟨Ra ?_,rfl⟩;rw[Int.toNat_natCast,hss];omega))
 have UB:=Qd (λw' (hw:Below B w w') (hB':B<=w'.heap.size)=>Wda (some ⟨b2,o2,none⟩) c' B s (Nt.digs y) w' (hy.below hw) hB' (Nt.ok_digs y) (by omega) hm' (by omega) hs32);have UA:=Qd (λw' (hw:Below B w w') (hB':B<=w'.heap.size)=>Wda A c B s (Nt.digs x) w' (hx.below hw) hB' (Nt.ok_digs x) (by omega) hm (by omega) hs32);rw[Nt.val_digs,<-hnn] at UB;rw[Nt.val_digs,<-hmm] at UA;have SC:Hid (∀cur:List Nat,Nt.Ok cur->cur.length=n+1->Nt.val cur=y*2^s->y*2^s<4294967296^n/\Nt.val (cur.take n)=y*2^s/\Nt.Ok (cur.take n)/\(cur.take n).length=n/\∀h:n-1<(cur.take n).length,2147483648<=(cur.take n)[n-1]):=Qd (by
  obtain⟨q,rfl⟩:∃q,n=q+1:=⟨n-1,by omega⟩;intro cur ok hl hv;exact Nt.div_scaled (y:=y) (s:=s) (m:=q) (t:=t) hnn.symm (by simpa using htt) (by omega) hlo hhi ok hl hv)
 have hxm:x<4294967296^m:=by have:=Nt.val_lt (Nt.ok_digs x);rwa[Nt.val_digs,<-hmm] at this
 have hyn:4294967296^(n-1)<=y:=by have:=Nt.digs_ge hy0;rwa[<-hnn] at this
 have ST:Hid (∀cur:List Nat,Nt.Ok cur->Nt.val cur=x*2^s->cur.length=m+1->y*2^s<4294967296^n->Nt.LongAt (x*2^s) (y*2^s) n cur (List.replicate (m-n+1) 0) (m-n+1)):=
  Qd (λcur ok hv hl hD=>Nt.LongAt.start ok hv hl hnm (by omega) hxm hyn hD)
 have hD0:Hid (0<y*2^s):=Qd (Nat.mul_pos (by omega) (Nat.two_pow_pos s));have HY0:0<y:=by omega
 obtain⟨i0,hi,hz0,hz1,hz2⟩:=info_parts Ye;clear hx hy hnn hmm htt hss hlo hhi hL hL1 hxm hyn hy0;go_enter Tryz.func198,Tryz.ntmps198
 go_wp2_with fail
 refine(LZ.out _).mono ?_;rintro e w' ⟨rfl,rfl⟩;go_wp2_with fail
 refine(UB.out w Br hB).mono ?_;rintro e w1 ⟨cd,rfl,hblkd,HD,hb1⟩;have hb1B:Below B w w1:=hb1.mono hB;have hsz1:=hb1.size;have hlt1:=hblkd.lt;go_wp2_with fail
 refine(UA.out w1 hb1B (by omega)).mono ?_;rintro e w2 ⟨cr,rfl,hblkr,HR,hb2'⟩;have hsz2:=hb2'.size;have hlt2:=hblkr.lt;have hb02:Below w.heap.size w w2:=hb1.trans (hb2'.mono hsz1);have hblkd2:=hblkd.keep hb2' hlt1;clear hblkd hb2';go_wp2_with (at_make;refine Ad _ rfl _ _ 22 rfl 90 i0 (.int .u32 0) Tryz.underlying22 hi hz0 hz1 rfl .i64 .i64 _ _ (m-n+1) (m-n+1) rfl rfl (by omega) (by omega) Lr (by rw[hz2];omega) (by omega) w.heap.size w hb02 (by omega) ?_;intro w3 hblkq hb03 hb23 hlt3)
 have hblkr3:=hblkr.keep hb23 hlt2;have hblkd3:=hblkd2.keep hb23 (by omega);have hblkq3:Blk w3 w2.heap.size 90 (U (List.replicate (m-n+1) 0)):=by simpa [U] using hblkq
 clear hblkr hblkd2 hblkq hb23;obtain⟨hDn,hvd,hod,hld,h31⟩:=SC.out cd HD.out.1 HD.out.2.1 HD.out.2.2;have hS0:=Qd (ST.out cr HR.out.1 HR.out.2.2 HR.out.2.1 hDn);have HHD:=Qd (And.intro hvd (And.intro hod (And.intro hld h31)));have HCD:=Qd HD.out.2.1;clear HD HR SC ST UA UB LZ hDn hvd hod hld h31;go_loopw [11,12] (λi gv wr=>∃(k:Nat) (cur quo:List Nat),k<=m-n+1/\i= .int .i64 ((k:Int)-1)/\Blk wr w1.heap.size 90 (U cur)/\Blk wr w2.heap.size 90 (U quo)/\Blk wr w.heap.size 90 (U cd)/\Below w.heap.size w wr/\Hid (quo.length=m-n+1/\Nt.LongAt (x*2^s) (y*2^s) n cur quo k)) (λi _ _=>(intOf i+1).toNat)
 case atStart=>exact⟨m-n+1,cr,_,Lr,congrArg (Value.int .i64) (by omega),hblkr3,hblkq3,hblkd3,hb03,Qd ⟨by simp,hS0.out⟩⟩
 case round=>
  clear hblkr3 hblkq3 hblkd3 hb03 hS0;obtain⟨k,cur,quo,hk,rfl,hbr,hbq,hbd,hbel,H⟩:=hrel;rcases k with _ |k
  ·obtain⟨hql,HL⟩:=H.out
   obtain⟨hdq,hdr⟩:=HL.done HY0;have hcl:cur.length=m+1:=by have:=HL.len;rw[hql] at this;omega
   have hltq:=hbq.lt;have TR:Hid (∀wx:World,Blk wx w2.heap.size 90 (U quo)->Calls Tryz.prog 122 #[.slice (some ⟨w2.heap.size,0,none⟩) (m-n+1) (m-n+1)] wx λe w'=>e= .returned (.slice (some ⟨w2.heap.size,0,none⟩) (Nt.digs (x/y)).length (Nt.digs (x/y)).length)/\wx=w'):=Qd (λwx hbx=>by
    have h:=Xe (some ⟨w2.heap.size,0,none⟩) (m-n+1) wx.heap.size quo wx hbx.lies HL.okq (by omega) (by omega);rw[hql,hdq] at h;exact h)
   have hlr:Lies wr wr.heap.size (some ⟨w1.heap.size,0,none⟩) (U (cur.take n)):=by rw[<-Yl];exact hbr.lies.take n
   have DN:=Aia (some ⟨w1.heap.size,0,none⟩) (m+1) wr.heap.size s (cur.take n) wr.drew hlr Lr (Nt.ok_take HL.ok n) (by rw[List.length_take];omega) (by omega) (by rw[List.length_take];omega) hs32;rw[hdr,List.length_take,hcl,Nat.min_eq_left (show n<=m+1 by omega)] at DN;have DNH:=Qd DN;have HQI:Hid (∀wx:World,Blk wx w2.heap.size 90 (U quo)->IsRes wx (.slice (some ⟨w2.heap.size,0,none⟩) (Nt.digs (x/y)).length (Nt.digs (x/y)).length) (Nt.digs (x/y))):=Qd (λwx hbx=>by
    have h:=hbx.lies.digs HL.okq;have h2:=Nt.digs_len_le HL.okq;rw[hdq] at h h2;rw[hql] at h2;exact⟨_,_,rfl,Lr,by omega,(λh=>by cases h),h⟩)
   have HBQ:=Qd hbq;clear hql HL hdq hdr hcl hlr DN H hbr hbd hbq;have hn1:n<=m+1:=by omega
   go_wp2_with fail
   go_region_with (first
    |(go_at_call 122;refine(TR.out _ (by first|exact HBQ.out |exact HBQ5.out)).mono ?_;rintro e w' ⟨rfl,rfl⟩)
    |(go_at_call 219;refine DNH.out.mono ?_;rintro e w5 ⟨vd,rfl,hres5,hb5⟩;have hbel5:Below wr.heap.size wr w5:=⟨hb5.os,hb5.tape,hb5.output,hb5.size,hb5.block⟩;clear hb5;have HBQ5:=Qd (HBQ.out.keep hbel5 hltq)))
   all_goals
    go_wp2_with fail
    go_ret2
    exact⟨_,_,rfl,HQI.out _ HBQ5.out,hres5,hbel.trans (hbel5.mono hbel.size)⟩
  have hk1:((k+1:Nat):Int)-1=(k:Int):=by omega
  rw[hk1];clear hk1;have hkq:k<quo.length:=by rw[H.out.1];omega
  obtain⟨v1,v2,v3,v4,v5,v6⟩:=H.out.2.window hkq;have hcl:cur.length=m+1:=by have:=H.out.2.len;rw[H.out.1] at this;omega
  have hbr':Blk wr w1.heap.size 90 (U (cur.take k++((cur.drop k).take (n+1)++cur.drop (k+(n+1))))):=by rw[<-v5];exact hbr
  have hld:Lies wr w1.heap.size (some ⟨w.heap.size,0,none⟩) (U (cd.take n)):=by
   rw[<-Yl];refine Lies.take ?_ n;refine .inr ⟨w.heap.size,0,rfl,by omega,λi v hv=>?_⟩;rw[Nat.zero_add];exact hbd.cell hv
  have ES:=Qd (Q6 w1.heap.size (m+1-k) (n+1) k n (some ⟨w.heap.size,0,none⟩) (cur.take k) ((cur.drop k).take (n+1)) (cur.drop (k+(n+1))) (cd.take n) wr hbr' v6 hld v2 HHD.out.2.1 v1 HHD.out.2.2.1 hly (by omega) HHD.out.2.2.2 (by rw[HHD.out.1];exact v3) (by omega) (by omega));have TK:=Qd (λ(g j:Nat) (hg:g<4294967296)=>Nba w1.heap.size (m+1-k) (n+1) g k n (some ⟨w.heap.size,0,none⟩) (cur.take k) ((cur.drop k).take (n+1)) (cur.drop (k+(n+1))) (cd.take n) (wr.drewN j) hbr' v6 hld v2 HHD.out.2.1 v1 HHD.out.2.2.1 (by omega) (by omega) (by omega) (by omega) hg (by omega));have LR:=Qd (λg b win=>Pba (g:=g) (b:=b) (win:=win) H.out.2 hkq hD0.out);rw[HHD.out.1] at ES TK;have V6:=Qd v6;have HQL:=Qd H.out.1;have hkm:k+n<m+1:=by omega
  have hkc:k<m+1:=by omega
  clear v1 v2 v3 v4 v5 v6 hcl hbr' hbr H;generalize Nt.val ((cur.drop k).take (n+1))=R at*;have hwl:k+n+1-k=n+1:=by omega
  go_wp2_with fail
  refine ES.out.mono ?_;rintro e w' ⟨g,rfl,HG,hg3,j,rfl⟩;have TKg:=Qd (TK.out g j hg3);clear TK ES;go_wp2_with fail
  refine TKg.out.mono ?_;rintro e w4 ⟨win,b,rfl,hb1,hbr4,HW,hgr4⟩;have hgr:wr.grownBy w4 (some w1.heap.size):=⟨hgr4.os,hgr4.tape,hgr4.output,hgr4.size,hgr4.block⟩;have hbq4:=hbq.grown hgr (by intro h;injection h with h;omega);have hbd4:=hbd.grown hgr (by intro h;injection h with h;omega);have hbel4:Below w.heap.size w w4:=hbel.grown hgr hbel.size (λk hk=>by injection hk with hk;omega);have hR:=LR.out g b win HG.out.1 HG.out.2 hg3 HW.out.1 HW.out.2.1 HW.out.2.2 hb1;have hsz4:=hbel4.size;have hltq:=hbq4.lt;clear hgr hgr4 hbq hbd hbel TKg LR;rcases(show b=0\/b=1 by omega) with rfl |rfl
  ·have HN:=Qd (hR.1 rfl)
   clear hR;have hcell:w4.cell? ⟨w2.heap.size,k,none⟩=some (.int .u32 ((quo[k]:Nat):Int)):=hbq4.cell (by rw[U,List.getElem?_map,List.getElem?_eq_getElem (by omega)];rfl);have hfz:=hbq4.frozen k;generalize quo[k]=o at hcell;have BS:Hid (Blk (w4.setCell ⟨w2.heap.size,k,none⟩ (.int .u32 (g:Int))) w2.heap.size 90 (U (quo.set k g))):=Qd (by
    have:=hbq4.set_ k (.int .u32 (g:Int));rw[show(U quo).set k (.int .u32 (g:Int))=U (quo.set k g) from List.map_set.symm] at this;exact this)
   have BR:=Qd (hbr4.far (p:=⟨w2.heap.size,k,none⟩) (by show w1.heap.size≠w2.heap.size;omega) (.int .u32 (g:Int)));have BD:=Qd (hbd4.far (p:=⟨w2.heap.size,k,none⟩) (by show w.heap.size≠w2.heap.size;omega) (.int .u32 (g:Int)));clear hbr4 hbd4 hbq4;rw[show decide ((0:Nat)=1)=false from rfl];go_wp2_with fail
   refine⟨⟨k,_,_,by omega,by go_num,BR.out,BS.out,BD.out,hbel4.setCell (by show w.heap.size<=w2.heap.size;omega) _,Qd ⟨by rw[List.length_set];exact HQL.out,HN.out⟩⟩,by simp[intOf];try omega⟩
  obtain⟨hg1,hN⟩:=hR.2 rfl;have HN:=Qd hN;clear hR hN;have hld4:Lies w4 w1.heap.size (some ⟨w.heap.size,0,none⟩) (U (cd.take n)):=by
   rw[<-Yl];refine Lies.take ?_ n;refine .inr ⟨w.heap.size,0,rfl,by omega,λi v hv=>?_⟩;rw[Nat.zero_add];exact hbd4.cell hv
  have PB:=Qd (Oba w1.heap.size (m+1-k) (n+1) k n (some ⟨w.heap.size,0,none⟩) (cur.take k) win (cur.drop (k+(n+1))) (cd.take n) w4 hbr4 V6.out hld4 HW.out.2.1 HHD.out.2.1 HW.out.1 HHD.out.2.2.1 (by omega) (by omega) (by omega) (by omega) (by omega));rw[HHD.out.1] at PB;clear hbr4 hld4;rw[show decide ((1:Nat)=1)=true from rfl];go_wp2_with fail
  refine PB.out.mono ?_;rintro e w5 ⟨win2,b',rfl,hbr5,HW2,hgr⟩;have hbq5:=hbq4.grown hgr (by intro h;injection h with h;omega);have hbd5:=hbd4.grown hgr (by intro h;injection h with h;omega);have hbel5:Below w.heap.size w w5:=hbel4.grown hgr hbel4.size (λk hk=>by injection hk with hk;omega);have hsz5:=hbel5.size;have hltq5:=hbq5.lt;clear hgr hbq4 hbd4 hbel4 PB;have HN2:=Qd (HN.out win2 b' HW2.out.1 HW2.out.2.1 HW2.out.2.2);have hcell:w5.cell? ⟨w2.heap.size,k,none⟩=some (.int .u32 ((quo[k]:Nat):Int)):=hbq5.cell (by rw[U,List.getElem?_map,List.getElem?_eq_getElem (by omega)];rfl);have hfz:=hbq5.frozen k;generalize quo[k]=o at hcell;have BS:Hid (Blk (w5.setCell ⟨w2.heap.size,k,none⟩ (.int .u32 ((g-1:Nat):Int))) w2.heap.size 90 (U (quo.set k (g-1)))):=Qd (by
   have:=hbq5.set_ k (.int .u32 ((g-1:Nat):Int));rw[show(U quo).set k (.int .u32 ((g-1:Nat):Int))=U (quo.set k (g-1)) from List.map_set.symm] at this;exact this)
  have BR:=Qd (hbr5.far (p:=⟨w2.heap.size,k,none⟩) (by show w1.heap.size≠w2.heap.size;omega) (.int .u32 ((g-1:Nat):Int)));have BD:=Qd (hbd5.far (p:=⟨w2.heap.size,k,none⟩) (by show w.heap.size≠w2.heap.size;omega) (.int .u32 ((g-1:Nat):Int)));have e1:((g-1:Nat):Int)=(g:Int)-1:=by omega
  rw[e1] at BS BR BD;clear hbr5 hbd5 hbq5 e1;go_wp2_with fail
  refine⟨⟨k,_,_,by omega,by go_num,BR.out,BS.out,BD.out,hbel5.setCell (by show w.heap.size<=w2.heap.size;omega) _,Qd ⟨by rw[List.length_set];exact HQL.out,HN2.out⟩⟩,by simp[intOf];try omega⟩
section
open Go.RowKit
section
variable {w0 w : World} {v1 v2 : Value} {l1 l2 : List Nat}
theorem Qba (h1:IsRes w v1 l1)(h2:IsRes w v2 l2)(o1:Nt.Ok l1)(o2:Nt.Ok l2)(s1:l1.length<=1000000)(s2:l2.length<=1000000)(hb:Below w0.heap.size w0 w):
 Calls Tryz.prog 182 #[v1,v2] w λe w'=>∃u1 u2,e= .returned (.tuple #[u1,u2,.bool (decide (Nt.val l2≠0))])/\IsRes w' u1 (Nt.digs (Nt.quo (Nt.val l1) (Nt.val l2)))/\IsRes w' u2 (Nt.digs (Nt.rest (Nt.val l1) (Nt.val l2)))/\Below w0.heap.size w0 w'/\Below w.heap.size w w':=by
 obtain⟨A,c,rfl,a1,a2,a3,a4⟩:=h1;obtain⟨A',c',rfl,b1,b2,b3,b4⟩:=h2;refine(Ht A A' c c' w.heap.size l1 l2 w a4 b4 Lr o1 o2 a1 b1 a2 b2 s1 s2 (.inr O3)).mono ?_;rintro e w' ⟨u1,u2,rfl,r1,r2,hb'⟩;exact⟨u1,u2,rfl,r1,r2,hb.trans (hb'.mono hb.size),hb'⟩
theorem Eja (h1:IsRes w v1 l1)(o1:Nt.Ok l1)(s1:l1.length<=1000000)(hb:Below w0.heap.size w0 w):
 Calls Tryz.prog 120 #[v1] w λe w'=>∃v,e= .returned v/\IsRes w' v (Nt.digs (Nt.val l1))/\Below w0.heap.size w0 w'/\Below w.heap.size w w':=by
 have hd:=Nt.digs_len_le o1;obtain⟨A,c,rfl,a1,a2,a3,a4⟩:=h1;refine(Oh A c w.heap.size l1 w a4 Lr o1 a1 a2 (by omega)).mono ?_;rintro e w' ⟨rfl,r,hb'⟩;exact⟨_,rfl,⟨_,_,rfl,Lr,by omega,(λh=>by cases h),r.lies⟩,hb.trans (hb'.mono hb.size),hb'⟩
end
end
theorem N9 (A A':Option Addr)(c c':Nat)(a b:List Nat)(w:World)(hx:IsRes w (.slice A a.length c) a)(hy:IsRes w (.slice A' b.length c') b)(ha:Nt.Ok a)(hb:Nt.Ok b)(hs:a.length<=1000000)(hs':b.length<=1000000):
 Calls Tryz.prog 153 #[.slice A a.length c,.slice A' b.length c'] w λe w'=>∃v,e= .returned v/\IsRes w' v (Nt.digs (Nat.gcd (Nt.val a) (Nt.val b)))/\Below w.heap.size w w':=by
 have ha':=Nt.digs_len_le ha;have hb':=Nt.digs_len_le hb;obtain⟨_,_,e1,a1,a2,a3,a4⟩:=hx;obtain⟨_,_,e2,b1,b2,b3,b4⟩:=hy;injection e1 with e1 _ e1';subst e1 e1'
 injection e2 with e2 _ e2';subst e2 e2'
 have TA:=Qd (Xe A c w.heap.size a w a4 ha a1 a2);have TB:=Qd (Xe A' c' w.heap.size b w b4 hb b1 b2);have RA:Hid (∀A',A'=A->IsRes w (.slice A (Nt.digs (Nt.val a)).length (Nt.digs (Nt.val a)).length) (Nt.digs (Nt.val a))):=Qd (λ_ _=>⟨A,_,rfl,Lr,by omega,(λh=>by have:=a3 h;omega),a4.digs ha⟩);have RB:Hid (IsRes w (.slice A' (Nt.digs (Nt.val b)).length (Nt.digs (Nt.val b)).length) (Nt.digs (Nt.val b))):=Qd ⟨A',_,rfl,Lr,by omega,(λh=>by have:=b3 h;omega),b4.digs hb⟩;clear a1 a2 a3 a4 b1 b2 b3 b4 ha hb;have hla:(Nt.digs (Nt.val a)).length<=1000000:=by omega
 have hlb:(Nt.digs (Nt.val b)).length<=1000000:=by omega
 clear ha' hb' hs hs';obtain⟨x0,hx0⟩:∃x,x=Nt.val a:=⟨_,rfl⟩;obtain⟨y0,hy0⟩:∃y,y=Nt.val b:=⟨_,rfl⟩;rw[<-hx0] at TA RA hla⊢;rw[<-hy0] at TB RB hlb⊢;clear hx0 hy0;go_enter Tryz.func153,Tryz.ntmps153
 go_wp2_with fail
 refine TA.out.mono ?_;rintro e w' ⟨rfl,rfl⟩;go_wp2_with fail
 refine TB.out.mono ?_;rintro e w' ⟨rfl,rfl⟩;go_wp2_with fail
 go_loopg [0,1] y0 (λgk av bv wr=>∃(A A':Option Addr) (c c' x y:Nat),av= .slice A (Nt.digs x).length c/\bv= .slice A' (Nt.digs y).length c'/\y<=gk/\Hid (IsRes wr (.slice A (Nt.digs x).length c) (Nt.digs x)/\IsRes wr (.slice A' (Nt.digs y).length c') (Nt.digs y))/\(Nt.digs x).length<=1000000/\(Nt.digs y).length<=1000000/\Hid (Nat.gcd x y=Nat.gcd x0 y0)/\Below w.heap.size w wr)
 case atStart=>exact⟨_,_,_,_,x0,y0,rfl,rfl,Lr,Qd ⟨RA.out _ rfl,RB.out⟩,hla,hlb,Qd rfl,Br⟩
 case round=>
  clear TA TB RA RB hla hlb;obtain⟨P,P',k,k',x,y,rfl,rfl,hyk,HR,hlx,hly,HG,hbel⟩:=hrel;by_cases h0:y=0
  ·subst h0
   have HZ:Hid ((Nt.digs 0).length=0):=Qd (by rw[Nt.digs_zero];rfl);have NA:=Qd (Eja (w0:=w) HR.out.1 (Nt.ok_digs x) hlx hbel);have HE:Hid (Nat.gcd x0 y0=x):=Qd (by rw[<-HG.out,Nat.gcd_zero_right]);rw[Nt.val_digs] at NA;rw[HZ.out];clear HR HG;go_wp2_with fail
   refine NA.out.mono ?_;rintro e w1 ⟨v,rfl,hr,hb1,_⟩;go_wp2_with fail
   go_ret;exact⟨_,rfl,by rw[HE.out];exact hr,hb1⟩
  have hlp:0<(Nt.digs y).length:=by
   rcases Nat.eq_zero_or_pos (Nt.digs y).length with h |h
   ·exact absurd (Nt.digs_nil_iff.1 (List.eq_nil_of_length_eq_zero h)) h0
   exact h
  by_cases h2:(Nt.digs x).length<=2/\(Nt.digs y).length<=2
  ·obtain⟨h2x,h2y⟩:=h2
   obtain⟨⟨_,_,e1,a1,a2,a3,a4⟩,⟨_,_,e2,b1,b2,b3,b4⟩⟩:=HR.out;injection e1 with e1 _ e1';subst e1 e1'
   injection e2 with e2 _ e2';subst e2 e2'
   have WA:=Qd (Pz P k wr.heap.size (Nt.digs x) wr a4 (Nt.ok_digs x) h2x);have WB:=Qd (Pz P' k' wr.heap.size (Nt.digs y) wr b4 (Nt.ok_digs y) h2y);rw[Nt.val_digs] at WA WB;have hxa:x<18446744073709551616:=by
    have h:=Nt.val_lt (Nt.ok_digs x);rw[Nt.val_digs] at h;exact Nat.lt_of_lt_of_le h (Nat.le_trans (Nat.pow_le_pow_right (by omega) h2x) (by decide))
   have hxb:y<18446744073709551616:=by
    have h:=Nt.val_lt (Nt.ok_digs y);rw[Nt.val_digs] at h;exact Nat.lt_of_lt_of_le h (Nat.le_trans (Nat.pow_le_pow_right (by omega) h2y) (by decide))
   clear HR a1 a2 a3 a4 b1 b2 b3 b4;go_wp2_with fail
   refine WA.out.mono ?_;rintro e w' ⟨rfl,rfl⟩;go_wp2_with fail
   refine WB.out.mono ?_;rintro e w' ⟨rfl,rfl⟩;go_wp2_with fail
   refine(Zda x y _ hxa hxb).mono ?_;rintro e w1 ⟨v,rfl,hr,hb1⟩;go_wp2_with fail
   go_ret;exact⟨_,rfl,by rw[<-HG.out];exact hr,hbel.trans (hb1.mono hbel.size)⟩
  have DM:=Qd (Qba (w0:=w) HR.out.1 HR.out.2 (Nt.ok_digs x) (Nt.ok_digs y) hlx hly hbel);rw[Nt.val_digs,Nt.val_digs,Nt.rest_pos h0] at DM;have hyp:x%y<y:=Nat.mod_lt _ (by omega);have hlr:(Nt.digs (x%y)).length<=1000000:=by
   have h:=Nt.digs_len_le_of (Nat.le_of_lt hyp);omega
  have HG2:Hid (Nat.gcd y (x%y)=Nat.gcd x0 y0):=Qd (by rw[Nt.gcd_step];exact HG.out);have HRY:=Qd HR.out.2;clear HR HG h0;obtain⟨r,hr⟩:∃r,r=x%y:=⟨_,rfl⟩;rw[<-hr] at DM hyp hlr HG2;clear hr;by_cases h2x:(Nt.digs x).length<=2
  ·have h2y:¬(Nt.digs y).length<=2:=λh=>h2 ⟨h2x,h⟩
   clear h2;go_wp2_with fail
   refine DM.out.mono ?_;rintro e w1 ⟨u1,u2,rfl,hr1,hr2,hb1,hb01⟩;have hry:=HRY.out.below hb01;obtain⟨A2,c2,rfl,q1,q2,q3,q4⟩:=hr2;have hr2':IsRes w1 (.slice A2 (Nt.digs r).length c2) (Nt.digs r):=⟨A2,c2,rfl,q1,q2,q3,q4⟩;clear q1 q2 q3 q4 hr1 hb01 HRY DM;have HRN:=Qd (And.intro hry hr2');clear hry hr2';go_wp2_with fail
   go_roundg r
   case measure=>omega
   case rel=>exact⟨_,_,_,_,y,r,rfl,rfl,Lr,HRN,hly,hlr,HG2,hb1⟩
  clear h2;go_wp2_with fail
  refine DM.out.mono ?_;rintro e w1 ⟨u1,u2,rfl,hr1,hr2,hb1,hb01⟩;have hry:=HRY.out.below hb01;obtain⟨A2,c2,rfl,q1,q2,q3,q4⟩:=hr2;have hr2':IsRes w1 (.slice A2 (Nt.digs r).length c2) (Nt.digs r):=⟨A2,c2,rfl,q1,q2,q3,q4⟩;clear q1 q2 q3 q4 hr1 hb01 HRY DM;have HRN:=Qd (And.intro hry hr2');clear hry hr2';go_wp2_with fail
  go_roundg r
  case measure=>omega
  case rel=>exact⟨_,_,_,_,y,r,rfl,rfl,Lr,HRN,hly,hlr,HG2,hb1⟩
theorem Gr {w:World}{v1 v2:Value}{l1 l2:List Nat}(h1:IsRes w v1 l1)(h2:IsRes w v2 l2)(o1:Nt.Ok l1)(o2:Nt.Ok l2)(s1:l1.length<=1000000)(s2:l2.length<=1000000):
 Calls Tryz.prog 182 #[v1,v2] w λe w'=>∃u1 u2,e= .returned (.tuple #[u1,u2,.bool (decide (Nt.val l2≠0))])/\IsRes w' u1 (Nt.digs (Nt.quo (Nt.val l1) (Nt.val l2)))/\IsRes w' u2 (Nt.digs (Nt.rest (Nt.val l1) (Nt.val l2)))/\Below w.heap.size w w':=by
 obtain⟨A,c,rfl,a1,a2,a3,a4⟩:=h1;obtain⟨A',c',rfl,b1,b2,b3,b4⟩:=h2;exact(Ht A A' c c' w.heap.size l1 l2 w a4 b4 Lr o1 o2 a1 b1 a2 b2 s1 s2 (.inr O3)).mono (by
  rintro e w' ⟨u1,u2,rfl,r1,r2,hb'⟩;exact⟨u1,u2,rfl,r1,r2,hb'⟩)
theorem Fja {w:World}{v1 v2:Value}{l1 l2:List Nat}(h1:IsRes w v1 l1)(h2:IsRes w v2 l2)(o1:Nt.Ok l1)(o2:Nt.Ok l2)(s1:l1.length<=1000000)(s2:l2.length<=1000000):
 Calls Tryz.prog 153 #[v1,v2] w λe w'=>∃v,e= .returned v/\IsRes w' v (Nt.digs (Nat.gcd (Nt.val l1) (Nt.val l2)))/\Below w.heap.size w w':=by
 have h1':=h1;have h2':=h2;obtain⟨A,c,rfl,-⟩:=h1;obtain⟨A',c',rfl,-⟩:=h2;exact N9 A A' c c' l1 l2 w h1' h2' o1 o2 s1 s2
theorem digs_one:Nt.digs 1=[1]:=by rw[Nt.digs_pos (by decide)];simp[Nt.digs_zero]
theorem Gja (x:Nat):(Nt.digs x==[1])=(x==1):=by
 rw[Bool.eq_iff_iff,beq_iff_eq,beq_iff_eq]
 constructor
 ·intro h
  have:=congrArg Nt.val h;rw[Nt.val_digs] at this;rw[this];rfl
 rintro rfl;exact digs_one
def Oc (g:Nat)(P Q:Array Value)(xs:Nat->Value):Act:={tmps:= #[.agg P,.agg Q,.pointer (some ⟨g,0,none⟩),.pointer (some ⟨g+1,0,none⟩),.pointer (some ⟨g+1+1,0,none⟩),.int .i64 0,xs 6,xs 7,undef,xs 0,xs 1,xs 2,xs 3,xs 4,xs 5,undef,undef,undef,undef,undef,undef,undef,undef,undef,undef,undef,undef,undef,undef,undef,undef,undef,undef,undef,undef,undef,undef,undef,undef,undef,undef,undef,undef,undef,undef,undef,undef,undef,undef,undef,undef,undef,undef,undef,undef,undef,undef,undef,undef,undef,undef,undef,undef,undef],defers:=[]}
def Loa (g:Nat)(V1 V2:Value)(l1 l2:List Nat):Nat->World->Value->Prop
 | 0,w,v=>v= .pointer (some ⟨g,1,none⟩)
 | 1,w,v=>v=V1
 | 2,w,v=>IsRes w v (Nt.digs (Nt.val l1))
 | 3,w,v=>v= .pointer (some ⟨g+1,1,none⟩)
 | 4,w,v=>v=V2
 | 5,w,v=>IsRes w v (Nt.digs (Nt.val l2))
 | 6,w,v=>IsRes w v (Nt.digs (Nt.val l1))
 |_,w,v=>IsRes w v (Nt.digs (Nt.val l2))
theorem My (n1 n2:Bool)(v1 v2:Value)(l1 l2:List Nat)(w:World)(h1:IsRes w v1 l1)(h2:IsRes w v2 l2)(o1:Nt.Ok l1)(o2:Nt.Ok l2)(s1:l1.length<=1000000)(s2:l2.length<=1000000):
 Calls Tryz.prog 166 #[.agg #[.bool n1,v1],.agg #[.bool n2,v2]] w (MakeOut w (Rt.mk n1 n2 (Nt.val l1) (Nt.val l2))):=by
 obtain⟨g,hg⟩:∃g,g=w.heap.size:=⟨_,rfl⟩;obtain⟨W,hW⟩:∃W,W=((w.alloc (.cells #[.bool n1,v1] 93)).alloc (.cells #[.bool n2,v2] 93)).alloc (.cells #[.bool false,.slice none 0 0,.slice none 0 0] 24):=⟨_,rfl⟩;have hWs:W.heap.size=g+1+1+1:=by rw[hW,hg];simp
 have hWb:Below g w W:=by rw[hW,hg];exact((Br.alloc Lr _).alloc (by simp) _).alloc (by simp;omega) _
 have hW0:W.heap[g]? =some (.cells #[.bool n1,v1] 93 (0,0)):=by rw[hW,hg];exact(Below.heap_alloc _ _ _ (by simp;omega)).trans (heap_alloc2_old _ _ _)
 have hW1:W.heap[g+1]? =some (.cells #[.bool n2,v2] 93 (0,0)):=by rw[hW,hg];exact(Below.heap_alloc _ _ _ (by simp)).trans (heap_alloc2_new _ _ _)
 have HW2:Hid (W.heap[g+1+1]? =some (.cells #[.bool false,.slice none 0 0,.slice none 0 0] 24 (0,0))):=Qd (by
  rw[hW,hg];have:=heap_alloc_new ((w.alloc (.cells #[.bool n1,v1] 93)).alloc (.cells #[.bool n2,v2] 93)) (.cells #[.bool false,.slice none 0 0,.slice none 0 0] 24);rwa[show((w.alloc (.cells #[.bool n1,v1] 93)).alloc (.cells #[.bool n2,v2] 93)).heap.size=w.heap.size+1+1 by simp] at this)
 have HQ:Hid (∀wx,Below W.heap.size W wx->wx.cell? ⟨g,1,none⟩=some v1/\wx.cell? ⟨g+1,1,none⟩=some v2):=Qd (λwx hx=>⟨(cell_of_row wx g 1 _ _ _ ((hx.block g (by omega)).trans hW0)).trans rfl,(cell_of_row wx (g+1) 1 _ _ _ ((hx.block (g+1) (by omega)).trans hW1)).trans rfl⟩);have HQ0:Hid (∀wx,Below W.heap.size W wx->wx.cell? ⟨g,0,none⟩=some (.bool n1)/\wx.cell? ⟨g+1,0,none⟩=some (.bool n2)):=Qd (λwx hx=>⟨(cell_of_row wx g 0 _ _ _ ((hx.block g (by omega)).trans hW0)).trans rfl,(cell_of_row wx (g+1) 0 _ _ _ ((hx.block (g+1) (by omega)).trans hW1)).trans rfl⟩);have hr1:∀wx,Below W.heap.size W wx->IsRes wx v1 l1:=λwx hx=>(h1.below (by rw[<-hg];exact hWb)).below hx;have hr2:∀wx,Below W.heap.size W wx->IsRes wx v2 l2:=λwx hx=>(h2.below (by rw[<-hg];exact hWb)).below hx;have N1:=Qd (λ(wx:World) (hx:Below W.heap.size W wx)=>Vo (hr1 wx hx) o1 s1);have N2:=Qd (λ(wx:World) (hx:Below W.heap.size W wx)=>Vo (hr2 wx hx) o2 s2);have d1:=Nt.digs_len_le o1;have d2:=Nt.digs_len_le o2;have HW:=Qd hW;have HG:=Qd hg;have hgl:g+1+1<W.heap.size:=by omega
 obtain⟨A1,c1,rfl,-⟩:=h1;obtain⟨A2,c2,rfl,-⟩:=h2;clear hW hW0 hW1 hr1 hr2 hWs;go_enter Tryz.func166,Tryz.ntmps166
 go_wp2_with fail
 rw[<-HW.out,<-hg];clear hg;refine Xf (Oc g #[.bool n1,(.slice A1 l1.length c1)] #[.bool n2,(.slice A2 l2.length c2)]) W (Loa g (.slice A1 l1.length c1) (.slice A2 l2.length c2) l1 l2) (by kernel_rfl) ?_ (by kernel_rfl) (λi=>undef) rfl Br ?_ ?_
 ·intro i w1 w2 v hv hb
  match i with
  | 0=>exact hv
  | 1=>exact hv
  | 2=>exact hv.below hb
  | 3=>exact hv
  | 4=>exact hv
  | 5=>exact hv.below hb
  | 6=>exact hv.below hb
  |i+7=>exact hv.below hb
 ·intro i xs w1 hi hb hdep
  have hi6:i<8:=hi;clear hi;rcases(show i=0\/i=1\/i=2\/i=3\/i=4\/i=5\/i=6\/i=7 by omega) with rfl |rfl |rfl |rfl |rfl |rfl |rfl |rfl
  ·refine Ca rfl rfl ?_
   unfold Oc Oper.wp;go_simp
   exact⟨_,by simp only[Oc,Ja];simp[Act.put],rfl,Br⟩
  ·have h0:xs 0= .pointer (some ⟨g,1,none⟩):=hdep 0 (by kernel_rfl)
   refine Ca rfl rfl ?_;have q:=(HQ.out w1 hb).1;unfold Oc Oper.wp;simp only[h0];go_simp
   exact⟨_,by simp only[Oc,Ja];simp[Act.put,h0],rfl,Br⟩
  ·have h1:xs 1=(.slice A1 l1.length c1):=hdep 1 (by kernel_rfl)
   refine Ca rfl rfl ?_;unfold Oc Oper.wp;simp only[h1];go_simp
   refine(N1.out w1 hb).mono ?_;rintro e w2 ⟨v',rfl,hr,hb2⟩;exact⟨_,by simp only[Oc,Ja];simp[Act.put,h1],hr,hb2⟩
  ·refine Ca rfl rfl ?_
   unfold Oc Oper.wp;go_simp
   exact⟨_,by simp only[Oc,Ja];simp[Act.put],rfl,Br⟩
  ·have h3:xs 3= .pointer (some ⟨g+1,1,none⟩):=hdep 3 (by kernel_rfl)
   refine Ca rfl rfl ?_;have q:=(HQ.out w1 hb).2;unfold Oc Oper.wp;simp only[h3];go_simp
   exact⟨_,by simp only[Oc,Ja];simp[Act.put,h3],rfl,Br⟩
  ·have h4:xs 4=(.slice A2 l2.length c2):=hdep 4 (by kernel_rfl)
   refine Ca rfl rfl ?_;unfold Oc Oper.wp;simp only[h4];go_simp
   refine(N2.out w1 hb).mono ?_;rintro e w2 ⟨v',rfl,hr,hb2⟩;exact⟨_,by simp only[Oc,Ja];simp[Act.put,h4],hr,hb2⟩
  ·have r2:IsRes w1 (xs 2) (Nt.digs (Nt.val l1)):=hdep 2 (by kernel_rfl)
   refine Ca rfl rfl ?_;unfold Oc Oper.wp;go_simp
   exact⟨_,by simp only[Oc,Ja];simp[Act.put],r2,Br⟩
  have r5:IsRes w1 (xs 5) (Nt.digs (Nt.val l2)):=hdep 5 (by kernel_rfl);refine Ca rfl rfl ?_;unfold Oc Oper.wp;go_simp
  exact⟨_,by simp only[Oc,Ja];simp[Act.put],r5,Br⟩
 intro xs w1 hb hx;have r6:IsRes w1 (xs 6) (Nt.digs (Nt.val l1)):=hx 6 (by decide);have r7:IsRes w1 (xs 7) (Nt.digs (Nt.val l2)):=hx 7 (by decide);clear hx;obtain⟨X,hX⟩:∃X,X=Nt.val l1:=⟨_,rfl⟩;obtain⟨Y,hY⟩:∃Y,Y=Nt.val l2:=⟨_,rfl⟩;rw[<-hX] at r6 d1⊢;rw[<-hY] at r7 d2⊢;have HXv:=Qd hX;have HYv:=Qd hY;clear hX hY;obtain⟨x,hx⟩:∃x,x=Nt.digs X:=⟨_,rfl⟩;obtain⟨y,hy⟩:∃y,y=Nt.digs Y:=⟨_,rfl⟩;have OX:Nt.Ok x:=hx▸Nt.ok_digs X;have OY:Nt.Ok y:=hy▸Nt.ok_digs Y;rw[<-hx] at r6 d1;rw[<-hy] at r7 d2;have HX2:=Qd hx;have HY2:=Qd hy;have HR1:=Qd r6;have HR2:=Qd r7;have HY0:Hid (y.length=0↔Y=0):=Qd (by rw[hy,List.length_eq_zero_iff,Nt.digs_nil_iff]);clear hx hy;obtain⟨C1,k1,f1,-⟩:=r6;obtain⟨C2,k2,f2,-⟩:=r7;rw[f1] at HR1;rw[f2] at HR2;have p0:=(HQ0.out w1 hb).1;have p0':=(HQ0.out w1 hb).2;have HGA:=Qd ((hb.block (g+1+1) hgl).trans HW2.out);have hxw:Below g w w1:=hWb.trans (hb.mono (by omega));unfold Oc;simp only[f1,f2];by_cases hk0:y.length=0
 ·have hz:((y.length:Int)==0)=true:=by rw[hk0];rfl
  have HK0:=Qd (HY0.out.1 hk0);go_wp2_with (first
   |(with_reducible refine Wf rfl (.tmp 4) (.tmp 18) rfl (g+1+1) rfl rfl HGA.out ?_))
  refine Ud (by rfl) (by rfl) (by rfl) rfl HGA.out (MakeOut.of (by unfold Rt.mk;rw[<-HXv.out,<-HYv.out,if_pos HK0.out];rfl) rfl (Ga _) (Ga _) (by rw[<-HG.out];exact rBelow.setRow hxw (by omega) _))
 have hz:((y.length:Int)==0)=false:=beq_eq_false_iff_ne.2 (by omega);have HY1:Hid (Y≠0):=Qd (λh=>hk0 (HY0.out.2 h));by_cases hy1:y=[1]
 ·have q:(y==[1])=true:=by rw[hy1];rfl
  have I1:=Vh _ _ w1 HR2.out;rw[q] at I1;have hYv:Y=1:=by have:=HY2.out;rw[hy1] at this;have:=congrArg Nt.val this;rw[Nt.val_digs] at this;exact this.symm
  have HE1:Hid (x=Nt.digs (X/Nat.gcd X Y)):=Qd (by rw[hYv,Nat.gcd_one_right,Nat.div_one];exact HX2.out);have HE2:Hid (y=Nt.digs (Y/Nat.gcd X Y)):=Qd (by rw[hYv,Nat.gcd_one_right,Nat.div_one,<-hYv];exact HY2.out);have HI1:=Qd I1;have Hy1:=Qd hy1;clear hYv q I1 hy1;go_wp2_with fail
  refine HI1.out.mono ?_;rintro e w2 ⟨rfl,rfl⟩;have HGB:=HGA;have hbw:=hxw;have HT1:=HR1;have HT3:=HR2;clear HGA hxw HI1;have HX0:Hid (x.length=0↔X=0):=Qd (by rw[HE1.out,List.length_eq_zero_iff,Nt.digs_nil_iff];exact Rt.div_gcd_zero HY1.out);by_cases h32:32<x.length
  ·have g1:decide ((32:Int)<(x.length:Int))=true:=by simp;omega
   go_wp2_with (first
    |(with_reducible refine Wf rfl (.tmp 4) (.tmp 50) rfl (g+1+1) rfl rfl HGB.out ?_))
   refine Ud (by rfl) (by rfl) (by rfl) rfl HGB.out (MakeOut.of (by unfold Rt.mk;rw[<-HXv.out,<-HYv.out,if_neg HY1.out,<-HE1.out,<-HE2.out,if_pos (by omega)];rfl) rfl (Ga _) (Ga _) (by rw[<-HG.out];exact rBelow.setRow hbw (by omega) _))
  by_cases h33:32<y.length
  ·have g1:decide ((32:Int)<(x.length:Int))=false:=by simp;omega
   have g2:decide ((32:Int)<(y.length:Int))=true:=by simp;omega
   go_wp2_with (first
    |(with_reducible refine Wf rfl (.tmp 4) (.tmp 50) rfl (g+1+1) rfl rfl HGB.out ?_))
   refine Ud (by rfl) (by rfl) (by rfl) rfl HGB.out (MakeOut.of (by unfold Rt.mk;rw[<-HXv.out,<-HYv.out,if_neg HY1.out,<-HE1.out,<-HE2.out,if_pos (by omega)];rfl) rfl (Ga _) (Ga _) (by rw[<-HG.out];exact rBelow.setRow hbw (by omega) _))
  have g1:decide ((32:Int)<(x.length:Int))=false:=by simp;omega
  have g2:decide ((32:Int)<(y.length:Int))=false:=by simp;omega
  by_cases h34:0<x.length
  ·have g3:decide ((0:Int)<(x.length:Int))=true:=decide_eq_true (by omega)
   have HXB:Hid ((X==0)=false):=Qd (by have:=HX0.out;simp;omega);cases n1<;>cases n2
   all_goals
    go_wp2_with (first
     |(with_reducible refine Wf rfl (.tmp 4) (.tmp 63) rfl (g+1+1) rfl rfl HGB.out ?_))
    refine Ud (by rfl) (by rfl) (by rfl) rfl HGB.out (MakeOut.of (by unfold Rt.mk;rw[<-HXv.out,<-HYv.out,if_neg HY1.out,<-HE1.out,<-HE2.out,if_neg (by omega),HXB.out];rfl) rfl (HT1.out.setRow HGB.out (Ma _ _ _ _ _ _ _) _) (HT3.out.setRow HGB.out (Ma _ _ _ _ _ _ _) _) (by rw[<-HG.out];exact rBelow.setRow hbw (by omega) _))
  have g3:decide ((0:Int)<(x.length:Int))=false:=decide_eq_false (by omega);have HXB:Hid ((X==0)=true):=Qd (by have:=HX0.out;simp;omega);go_wp2_with (first
   |(with_reducible refine Wf rfl (.tmp 4) (.tmp 63) rfl (g+1+1) rfl rfl HGB.out ?_))
  refine Ud (by rfl) (by rfl) (by rfl) rfl HGB.out (MakeOut.of (by unfold Rt.mk;rw[<-HXv.out,<-HYv.out,if_neg HY1.out,<-HE1.out,<-HE2.out,if_neg (by omega),HXB.out];rfl) rfl (HT1.out.setRow HGB.out (Ma _ _ _ _ _ _ _) _) (HT3.out.setRow HGB.out (Ma _ _ _ _ _ _ _) _) (by rw[<-HG.out];exact rBelow.setRow hbw (by omega) _))
 have q:(y==[1])=false:=beq_eq_false_iff_ne.2 hy1;have I1:=Vh _ _ w1 HR2.out;rw[q] at I1;have HI1:=Qd I1;have hvx:Nt.val x=X:=by rw[HX2.out,Nt.val_digs]
 have hvy:Nt.val y=Y:=by rw[HY2.out,Nt.val_digs]
 have HVX:=Qd hvx;have HVY:=Qd hvy;obtain⟨G,hG⟩:∃G,G=Nat.gcd X Y:=⟨_,rfl⟩;have GC:=Fja HR1.out HR2.out OX OY (by omega) (by omega);rw[hvx,hvy,<-hG] at GC;have HGC:=Qd GC;have HGG:=Qd hG;have HG0:Hid (G≠0):=Qd (by rw[hG];have:=Nat.gcd_pos_of_pos_right X (Nat.pos_of_ne_zero HY1.out);omega);have hGl:(Nt.digs G).length<=1000000:=by
  have:=Nt.digs_len_le_of (show G<=Y by rw[hG];exact Nat.le_of_dvd (Nat.pos_of_ne_zero HY1.out) (Nat.gcd_dvd_right X Y));rw[<-HY2.out] at this;omega
 have hgl1:=Ib HGA.out;clear hy1 q I1 hvx hvy GC hG;go_wp2_with fail
 refine HI1.out.mono ?_;rintro e w2 ⟨rfl,rfl⟩;clear HI1;go_wp2_with fail
 refine HGC.out.mono ?_;rintro e w2 ⟨v3,rfl,hr3,hb3⟩;have HR3:=Qd hr3;have HR1b:=Qd (HR1.out.below hb3);have HR2b:=Qd (HR2.out.below hb3);have HGA2:=Qd ((hb3.block (g+1+1) (by omega)).trans HGA.out);have hxw2:Below g w w2:=hxw.trans (hb3.mono (by omega));have P0:=Qd ((hb3.cell (p:=⟨g,0,none⟩) (show g<_ by omega)).trans p0);have P0':=Qd ((hb3.cell (p:=⟨g+1,0,none⟩) (show g+1<_ by omega)).trans p0');have I3:=Vh v3 (Nt.digs G) w2 hr3;rw[Gja] at I3;have HI3':=Qd I3;have hs3:=hb3.size;have hgl2:g+1+1<w2.heap.size:=by omega
 clear hr3 hb3 p0 p0' I3 HGC HGA hxw;by_cases hg1:G=1
 ·have q3:(G==1)=true:=by rw[hg1];rfl
  rw[q3] at HI3';have HE1:Hid (x=Nt.digs (X/Nat.gcd X Y)):=Qd (by rw[<-HGG.out,hg1,Nat.div_one];exact HX2.out);have HE2:Hid (y=Nt.digs (Y/Nat.gcd X Y)):=Qd (by rw[<-HGG.out,hg1,Nat.div_one];exact HY2.out);clear hg1 q3;go_wp2_with fail
  refine HI3'.out.mono ?_;rintro e w3 ⟨rfl,rfl⟩;have HGB:=HGA2;have hbw:=hxw2;have HT1:=HR1b;have HT3:=HR2b;have p0:=P0.out;have p0':=P0'.out;clear HGA2 hxw2 HI3' P0 P0';have HX0:Hid (x.length=0↔X=0):=Qd (by rw[HE1.out,List.length_eq_zero_iff,Nt.digs_nil_iff];exact Rt.div_gcd_zero HY1.out);by_cases h32:32<x.length
  ·have g1:decide ((32:Int)<(x.length:Int))=true:=by simp;omega
   go_wp2_with (first
    |(with_reducible refine Wf rfl (.tmp 4) (.tmp 50) rfl (g+1+1) rfl rfl HGB.out ?_))
   refine Ud (by rfl) (by rfl) (by rfl) rfl HGB.out (MakeOut.of (by unfold Rt.mk;rw[<-HXv.out,<-HYv.out,if_neg HY1.out,<-HE1.out,<-HE2.out,if_pos (by omega)];rfl) rfl (Ga _) (Ga _) (by rw[<-HG.out];exact rBelow.setRow hbw (by omega) _))
  by_cases h33:32<y.length
  ·have g1:decide ((32:Int)<(x.length:Int))=false:=by simp;omega
   have g2:decide ((32:Int)<(y.length:Int))=true:=by simp;omega
   go_wp2_with (first
    |(with_reducible refine Wf rfl (.tmp 4) (.tmp 50) rfl (g+1+1) rfl rfl HGB.out ?_))
   refine Ud (by rfl) (by rfl) (by rfl) rfl HGB.out (MakeOut.of (by unfold Rt.mk;rw[<-HXv.out,<-HYv.out,if_neg HY1.out,<-HE1.out,<-HE2.out,if_pos (by omega)];rfl) rfl (Ga _) (Ga _) (by rw[<-HG.out];exact rBelow.setRow hbw (by omega) _))
  have g1:decide ((32:Int)<(x.length:Int))=false:=by simp;omega
  have g2:decide ((32:Int)<(y.length:Int))=false:=by simp;omega
  by_cases h34:0<x.length
  ·have g3:decide ((0:Int)<(x.length:Int))=true:=decide_eq_true (by omega)
   have HXB:Hid ((X==0)=false):=Qd (by have:=HX0.out;simp;omega);cases n1<;>cases n2
   all_goals
    go_wp2_with (first
     |(with_reducible refine Wf rfl (.tmp 4) (.tmp 63) rfl (g+1+1) rfl rfl HGB.out ?_))
    refine Ud (by rfl) (by rfl) (by rfl) rfl HGB.out (MakeOut.of (by unfold Rt.mk;rw[<-HXv.out,<-HYv.out,if_neg HY1.out,<-HE1.out,<-HE2.out,if_neg (by omega),HXB.out];rfl) rfl (HT1.out.setRow HGB.out (Ma _ _ _ _ _ _ _) _) (HT3.out.setRow HGB.out (Ma _ _ _ _ _ _ _) _) (by rw[<-HG.out];exact rBelow.setRow hbw (by omega) _))
  have g3:decide ((0:Int)<(x.length:Int))=false:=decide_eq_false (by omega);have HXB:Hid ((X==0)=true):=Qd (by have:=HX0.out;simp;omega);go_wp2_with (first
   |(with_reducible refine Wf rfl (.tmp 4) (.tmp 63) rfl (g+1+1) rfl rfl HGB.out ?_))
  refine Ud (by rfl) (by rfl) (by rfl) rfl HGB.out (MakeOut.of (by unfold Rt.mk;rw[<-HXv.out,<-HYv.out,if_neg HY1.out,<-HE1.out,<-HE2.out,if_neg (by omega),HXB.out];rfl) rfl (HT1.out.setRow HGB.out (Ma _ _ _ _ _ _ _) _) (HT3.out.setRow HGB.out (Ma _ _ _ _ _ _ _) _) (by rw[<-HG.out];exact rBelow.setRow hbw (by omega) _))
 have q3:(G==1)=false:=beq_eq_false_iff_ne.2 hg1;rw[q3] at HI3';have DM:=Gr HR1b.out HR3.out OX (Nt.ok_digs G) (by omega) hGl;rw[HVX.out,Nt.val_digs] at DM;have HDM:=Qd DM;clear hg1 q3 DM;go_wp2_with fail
 refine HI3'.out.mono ?_;rintro e w3 ⟨rfl,rfl⟩;clear HI3';go_wp2_with fail
 refine HDM.out.mono ?_;rintro e w4 ⟨u1,u2,rfl,t1,t2,hb4⟩;have HT1a:=Qd t1;have DN:=Gr (HR2b.out.below hb4) (HR3.out.below hb4) OY (Nt.ok_digs G) (by omega) hGl;rw[HVY.out,Nt.val_digs] at DN;have HDN:=Qd DN;have HGA3:=Qd ((hb4.block (g+1+1) (by omega)).trans HGA2.out);have hxw3:Below g w w4:=hxw2.trans (hb4.mono (by omega));have P1:=Qd ((hb4.cell (p:=⟨g,0,none⟩) (show g<_ by omega)).trans P0.out);have P1':=Qd ((hb4.cell (p:=⟨g+1,0,none⟩) (show g+1<_ by omega)).trans P0'.out);have hs4:=hb4.size;clear t1 t2 hb4 DN HDM HGA2 hxw2 P0 P0' HR1b HR2b;go_wp2_with fail
 refine HDN.out.mono ?_;rintro e w5 ⟨u3,u4,rfl,t3,t4,hb5⟩;have HGB:=Qd ((hb5.block (g+1+1) (by omega)).trans HGA3.out);have hbw:Below g w w5:=hxw3.trans (hb5.mono (by omega));have P2:=Qd ((hb5.cell (p:=⟨g,0,none⟩) (show g<_ by omega)).trans P1.out);have P2':=Qd ((hb5.cell (p:=⟨g+1,0,none⟩) (show g+1<_ by omega)).trans P1'.out);have hT1:=HT1a.out.below hb5;obtain⟨e1,he1⟩:∃e1,e1=Nt.digs (Nt.quo X G):=⟨_,rfl⟩;obtain⟨e2,he2⟩:∃e2,e2=Nt.digs (Nt.quo Y G):=⟨_,rfl⟩;rw[<-he1] at hT1;rw[<-he2] at t3;rw[HGG.out] at he1 he2;have HE1:Hid (e1=Nt.digs (X/Nat.gcd X Y)):=Qd he1;have HE2:Hid (e2=Nt.digs (Y/Nat.gcd X Y)):=Qd he2;have HT1:=Qd hT1;have HT3:=Qd t3;clear he1 he2 hT1 t3 t4 hb5 HDN HGA3 hxw3 P1 P1' HT1a;have HX0:Hid (e1.length=0↔X=0):=Qd (by rw[HE1.out,List.length_eq_zero_iff,Nt.digs_nil_iff];exact Rt.div_gcd_zero HY1.out);obtain⟨B1,a1,rfl,-⟩:=HT1.out;obtain⟨B2,a2,rfl,-⟩:=HT3.out;have p0:=P2.out;have p0':=P2'.out;clear P2 P2';by_cases h32:32<e1.length
 ·have g1:decide ((32:Int)<(e1.length:Int))=true:=by simp;omega
  go_wp2_with (first
   |(with_reducible refine Wf rfl (.tmp 4) (.tmp 50) rfl (g+1+1) rfl rfl HGB.out ?_))
  refine Ud (by rfl) (by rfl) (by rfl) rfl HGB.out (MakeOut.of (by unfold Rt.mk;rw[<-HXv.out,<-HYv.out,if_neg HY1.out,<-HE1.out,<-HE2.out,if_pos (by omega)];rfl) rfl (Ga _) (Ga _) (by rw[<-HG.out];exact rBelow.setRow hbw (by omega) _))
 by_cases h33:32<e2.length
 ·have g1:decide ((32:Int)<(e1.length:Int))=false:=by simp;omega
  have g2:decide ((32:Int)<(e2.length:Int))=true:=by simp;omega
  go_wp2_with (first
   |(with_reducible refine Wf rfl (.tmp 4) (.tmp 50) rfl (g+1+1) rfl rfl HGB.out ?_))
  refine Ud (by rfl) (by rfl) (by rfl) rfl HGB.out (MakeOut.of (by unfold Rt.mk;rw[<-HXv.out,<-HYv.out,if_neg HY1.out,<-HE1.out,<-HE2.out,if_pos (by omega)];rfl) rfl (Ga _) (Ga _) (by rw[<-HG.out];exact rBelow.setRow hbw (by omega) _))
 have g1:decide ((32:Int)<(e1.length:Int))=false:=by simp;omega
 have g2:decide ((32:Int)<(e2.length:Int))=false:=by simp;omega
 by_cases h34:0<e1.length
 ·have g3:decide ((0:Int)<(e1.length:Int))=true:=decide_eq_true (by omega)
  have HXB:Hid ((X==0)=false):=Qd (by have:=HX0.out;simp;omega);cases n1<;>cases n2
  all_goals
   go_wp2_with (first
    |(with_reducible refine Wf rfl (.tmp 4) (.tmp 63) rfl (g+1+1) rfl rfl HGB.out ?_))
   refine Ud (by rfl) (by rfl) (by rfl) rfl HGB.out (MakeOut.of (by unfold Rt.mk;rw[<-HXv.out,<-HYv.out,if_neg HY1.out,<-HE1.out,<-HE2.out,if_neg (by omega),HXB.out];rfl) rfl (HT1.out.setRow HGB.out (Ma _ _ _ _ _ _ _) _) (HT3.out.setRow HGB.out (Ma _ _ _ _ _ _ _) _) (by rw[<-HG.out];exact rBelow.setRow hbw (by omega) _))
 have g3:decide ((0:Int)<(e1.length:Int))=false:=decide_eq_false (by omega);have HXB:Hid ((X==0)=true):=Qd (by have:=HX0.out;simp;omega);go_wp2_with (first
  |(with_reducible refine Wf rfl (.tmp 4) (.tmp 63) rfl (g+1+1) rfl rfl HGB.out ?_))
 refine Ud (by rfl) (by rfl) (by rfl) rfl HGB.out (MakeOut.of (by unfold Rt.mk;rw[<-HXv.out,<-HYv.out,if_neg HY1.out,<-HE1.out,<-HE2.out,if_neg (by omega),HXB.out];rfl) rfl (HT1.out.setRow HGB.out (Ma _ _ _ _ _ _ _) _) (HT3.out.setRow HGB.out (Ma _ _ _ _ _ _ _) _) (by rw[<-HG.out];exact rBelow.setRow hbw (by omega) _))
theorem Q3 (n:Bool)(v1 v2:Value)(l1 l2:List Nat)(w:World)(h1:IsRes w v1 l1)(h2:IsRes w v2 l2):
 Calls Tryz.prog 127 #[.agg #[.bool n,v1,v2]] w (Um w n l1):=by
 have HR:=Qd h1;obtain⟨A1,c1,rfl,-⟩:=h1;obtain⟨A2,c2,rfl,-⟩:=h2;have HI2:Hid (∀(b:Bool) (A:Option Addr) (k c:Nat),(Tryz.prog.info? 93).map (·.size)=some (#[.bool b,.slice A k c]:Array Value).size):=Qd (λ_ _ _ _=>Jh);have HG1:Hid (∀o1 o2,((w.alloc o1).alloc o2).heap[w.heap.size+1]? =some o2):=Qd (λo1 o2=>by
  have:=heap_alloc_new (w.alloc o1) o2;rwa[show(w.alloc o1).heap.size=w.heap.size+1 by simp] at this)
 have HB:Hid (∀o1 o2,Below w.heap.size w ((w.alloc o1).alloc o2)):=Qd (λo1 o2=>(Br.alloc Lr _).alloc (by simp) _);generalize l2.length=k2 at*;go_enter Tryz.func127,Tryz.ntmps127
 go_wp2_with (with_reducible refine wpList_store_row rfl 93 (.tmp 2) (.tmp 7) rfl (w.heap.size+1) #[.bool n,.slice A1 l1.length c1] rfl rfl 93 #[.bool false,.slice none 0 0] (HG1.out _ _) (HI2.out _ _ _ _) rfl (Ae _ _ _ _) ?_)
 refine bodyPost_ret (results_cell_row (by rfl) _ _ (w.heap.size+1) 93 #[.bool n,.slice A1 l1.length c1] (0,0) _ (by rfl) (Eb (HG1.out _ _)) Tryz.underlying93 rfl (HI2.out _ _ _ _)) rfl ⟨.slice A1 l1.length c1,rfl,(HR.out.below (HB.out _ _)).setRow (HG1.out _ _) (Lc _ _ _ _) _,rBelow.setRow (HB.out _ _) (by omega) _⟩
def Tv (w:World)(n:Rt.Nm)(e:Ending)(w':World):Prop:=∃u,e= .returned (.tuple #[.agg #[.bool (if n.bot=[1] then Rt.nrm n.neg (Nt.val n.top) else false),u],.bool (n.bot==[1])])/\IsRes w' u (if n.bot=[1] then Nt.digs (Nt.val n.top) else[])/\Below w.heap.size w w'
theorem R3 (n:Bool)(v1 v2:Value)(l1 l2:List Nat)(w:World)(h1:IsRes w v1 l1)(h2:IsRes w v2 l2)(o1:Nt.Ok l1)(s1:l1.length<=1000000):
 Calls Tryz.prog 67 #[.agg #[.bool n,v1,v2]] w (Tv w ⟨n,l1,l2⟩):=by
 have hb0:∀o1 o2,Below w.heap.size w ((w.alloc o1).alloc o2):=λo1 o2=>(Br.alloc Lr _).alloc (by simp) _;have I1:=Qd (λo1 o2=>Vh v2 l2 _ (h2.below (hb0 o1 o2)));have T1:=Qd (λo1 o2=>Q3 n v1 v2 l1 l2 _ (h1.below (hb0 o1 o2)) (h2.below (hb0 o1 o2)));have NW:=Qd (λ(wx:World) (u:Value) (hu:IsRes wx u l1)=>Ay n u l1 wx hu o1 s1);have HI2:Hid (∀(b:Bool) (A:Option Addr) (k c:Nat),(Tryz.prog.info? 93).map (·.size)=some (#[.bool b,.slice A k c]:Array Value).size):=Qd (λ_ _ _ _=>Jh);have HG1:Hid (∀o1 o2,((w.alloc o1).alloc o2).heap[w.heap.size+1]? =some o2):=Qd (λo1 o2=>by
  have:=heap_alloc_new (w.alloc o1) o2;rwa[show(w.alloc o1).heap.size=w.heap.size+1 by simp] at this)
 have HB:=Qd hb0;obtain⟨A1,c1,rfl,-⟩:=h1;obtain⟨A2,c2,rfl,-⟩:=h2;clear hb0 o1;by_cases hone:l2=[1]
 ·have HE:Hid ((l2==[1])=true):=Qd (by rw[hone];rfl)
  have HO:=Qd hone;have HP:Hid (∀u w',IsRes w' u (Nt.digs (Nt.val l1))->Below w.heap.size w w'->Tv w ⟨n,l1,l2⟩ (.returned (.tuple #[.agg #[.bool (Rt.nrm n (Nt.val l1)),u],.bool true])) w'):=Qd (λu w' hu hb=>⟨u,by simp only[HO.out,if_true];rfl,by simp only[HO.out,if_true];exact hu,hb⟩);have I1':=Qd (λo1 o2=>by have:=I1.out o1 o2;rw[HE.out] at this;exact this);clear hone I1;generalize l2.length=k2 at*;go_enter Tryz.func67,Tryz.ntmps67
  go_wp2_with fail
  refine(I1'.out _ _).mono ?_;rintro e w' ⟨rfl,rfl⟩;go_wp2_with fail
  refine(T1.out _ _).mono ?_;rintro e w2 ⟨v3,rfl,hr2,hb2⟩;have NW2:=Qd (NW.out w2 v3 hr2);have HG2:=Qd ((hb2.block (w.heap.size+1) (by simp)).trans (HG1.out _ _));have hbw2:=(HB.out _ _).trans (hb2.mono (HB.out _ _).size);clear hr2 hb2 T1 I1' NW;go_wp2_with fail
  refine NW2.out.mono ?_;rintro e w3 ⟨v4,rfl,hr3,hb3⟩;have hl3:=Ib HG2.out;have HG3:=Qd ((hb3.block (w.heap.size+1) hl3).trans HG2.out);have hbw3:=hbw2.trans (hb3.mono hbw2.size);have HR3:=Qd (hr3.setRow HG3.out (Lc _ _ _ _) #[.bool (Rt.nrm n (Nt.val l1)),v4]);obtain⟨A3,c3,rfl,-⟩:=hr3;clear hb3 NW2 hbw2;go_wp2_with (with_reducible refine wpList_store_row rfl 93 (.tmp 2) (.tmp 11) rfl (w.heap.size+1) #[.bool (Rt.nrm n (Nt.val l1)),.slice A3 (Nt.digs (Nt.val l1)).length c3] rfl rfl 93 #[.bool false,.slice none 0 0] HG3.out (HI2.out _ _ _ _) rfl (Ae _ _ _ _) ?_)
  refine bodyPost_ret (Ie (by rfl) _ _ (w.heap.size+1) 93 #[.bool (Rt.nrm n (Nt.val l1)),.slice A3 (Nt.digs (Nt.val l1)).length c3] (0,0) _ _ (by rfl) (by rfl) (Eb HG3.out) Tryz.underlying93 rfl (HI2.out _ _ _ _)) rfl (HP.out _ _ HR3.out (rBelow.setRow hbw3 (by omega) _))
 have HE:Hid ((l2==[1])=false):=Qd (beq_eq_false_iff_ne.2 hone);have HO:=Qd hone;have HP:Hid (∀w',Below w.heap.size w w'->Tv w ⟨n,l1,l2⟩ (.returned (.tuple #[.agg #[.bool false,.slice none 0 0],.bool false])) w'):=Qd (λw' hb=>⟨.slice none 0 0,by simp only[HO.out,if_false,HE.out],by simp only[HO.out,if_false];exact IsRes.none_ _,hb⟩);have I1':=Qd (λo1 o2=>by have:=I1.out o1 o2;rw[HE.out] at this;exact this);clear hone I1;generalize l2.length=k2 at*;go_enter Tryz.func67,Tryz.ntmps67
 go_wp2_with fail
 refine(I1'.out _ _).mono ?_;rintro e w' ⟨rfl,rfl⟩;clear T1 NW;go_wp2_with (with_reducible refine wpList_store_row rfl 93 (.tmp 2) (.tmp 8) rfl (w.heap.size+1) #[.bool false,.slice none 0 0] rfl rfl 93 #[.bool false,.slice none 0 0] (HG1.out _ _) (HI2.out _ _ _ _) rfl (Ae _ _ _ _) ?_)
 refine bodyPost_ret (Ie (by rfl) _ _ (w.heap.size+1) 93 #[.bool false,.slice none 0 0] (0,0) _ _ (by rfl) (by rfl) (Eb (HG1.out _ _)) Tryz.underlying93 rfl (HI2.out _ _ _ _)) rfl (HP.out _ (rBelow.setRow (HB.out _ _) (by omega) _))
structure Pow10 (w:World):Prop where
 tab:Lib.TabIs Tryz.prog w "internal/strconv.uint64pow10" .u64 Lib.pow10Tab
 lt:∀g,Tryz.prog.globalNamed "internal/strconv.uint64pow10" =some g→g<w.heap.size
theorem Pow10.below {w w':World}(h:Pow10 w)(hb:Below w.heap.size w w'):Pow10 w':=⟨Yi h.tab hb h.lt,λg e=>Nat.lt_of_lt_of_le (h.lt g e) hb.size⟩
def Ju (w:World)(s:List UInt8)(e:Ending)(w':World):Prop:=e= .returned (.string ⟨s.toArray⟩)/\Below w.heap.size w w'
theorem Cx {w:World}{v:Value}{l:List Nat}(h:IsRes w v l)(ho:Nt.Ok l)(hs:l.length<=1000)(hp:Pow10 w):
 Calls Tryz.prog 66 #[v] w (Ju w (Lib.decDigits (Nt.val l))):=by
 obtain⟨A,c,rfl,k1,k2,k3,k4⟩:=h;exact Xia A c w.heap.size l w k4 Lr ho k1 k2 hs hp.tab hp.lt
theorem O9 {a b:ByteArray}(h:a.data.toList=b.data.toList):Ending.returned (.string a)= .returned (.string b):=by
 have:a=b:=ByteArray.ext (Array.toList_inj.1 h);rw[this]
structure NumR (w:World) (n:Rt.Nm) (v1 v2:Value):Prop where
 r1:IsRes w v1 n.top
 r2:IsRes w v2 n.bot
 o1:Nt.Ok n.top
 o2:Nt.Ok n.bot
 s1:n.top.length<=1000
 s2:n.bot.length<=1000
theorem NumR.below {w w':World}{n:Rt.Nm}{v1 v2:Value}(h:NumR w n v1 v2)(hb:Below w.heap.size w w'):NumR w' n v1 v2:=⟨h.r1.below hb,h.r2.below hb,h.o1,h.o2,h.s1,h.s2⟩
theorem S3 (n:Rt.Nm)(v1 v2:Value)(w:World)(h:NumR w n v1 v2)(hp:Pow10 w):
 Calls Tryz.prog 37 #[.agg #[.bool n.neg,v1,v2]] w (Ju w (Dg.print n)):=by
 have TX:=Qd (λ(wx:World) (hb:Below w.heap.size w wx)=>Cx (h.below hb).r1 h.o1 h.s1 (hp.below hb));have TY:=Qd (λ(wx:World) (hb:Below w.heap.size w wx)=>Cx (h.below hb).r2 h.o2 h.s2 (hp.below hb));have IW:=Qd (λ(wx:World) (hb:Below w.heap.size w wx)=>R3 n.neg v1 v2 n.top n.bot wx (h.below hb).r1 (h.below hb).r2 h.o1 (by have:=h.s1;omega));have HB:Hid (∀o1,Below w.heap.size w (w.alloc o1)):=Qd (λo1=>Br.alloc Lr _);have HP:Hid (Dg.print n=(if n.neg then[194,175] else[])++(Lib.decDigits (Nt.val n.top)++if n.bot=[1] then[] else 114::Lib.decDigits (Nt.val n.bot))):=Qd rfl;have HI3:Hid ((Tryz.prog.info? 24).map (·.size)=some (#[.bool n.neg,v1,v2]:Array Value).size):=Qd Tg;have HI2:Hid (∀(b:Bool) (A:Option Addr) (k c:Nat),(Tryz.prog.info? 93).map (·.size)=some (#[.bool b,.slice A k c]:Array Value).size):=Qd (λ_ _ _ _=>Jh);have hTl:=Kl h.o1 h.s1;have hBl:=Kl h.o2 h.s2;clear h hp;obtain⟨neg,top,bot⟩:=n;dsimp only at TX TY IW HP HI3 hTl hBl⊢;generalize Dg.print ⟨neg,top,bot⟩=R at*;generalize Lib.decDigits (Nt.val top)=T at*;generalize Lib.decDigits (Nt.val bot)=B at*;go_enter Tryz.func37,Tryz.ntmps37
 go_wp2_with fail
 refine(TX.out _ (HB.out _)).mono ?_;rintro e w2 ⟨rfl,hb2⟩;have hbw2:=(HB.out (.cells #[.bool neg,v1,v2] 24)).trans (hb2.mono (HB.out _).size);have HG:=Qd ((hb2.block w.heap.size (by simp)).trans (heap_alloc_new w (.cells #[.bool neg,v1,v2] 24)));have hs2:=hb2.size;have hlt:w.heap.size<w2.heap.size:=by simp at hs2;omega
 have p0:w2.cell? ⟨w.heap.size,0,none⟩=some (.bool neg):=(cell_of_row w2 w.heap.size 0 _ _ _ HG.out).trans rfl;clear hb2 hs2 TX;obtain⟨N,hN⟩:∃N:List UInt8,N=if neg then[194,175] else[]:=⟨_,rfl⟩
 rw[<-hN] at HP;have hN2:=Qd hN;clear hN;cases neg;all_goals
  go_wp2_with (with_reducible refine wpList_load_row rfl 24 (.tmp 1) rfl w.heap.size rfl 24 #[.bool _,v1,v2] (0,0) _ HG.out Tryz.underlying24 rfl HI3.out ?_)
  refine(IW.out w2 hbw2).mono ?_;rintro e w3 ⟨u,rfl,hu,hb3⟩;dsimp only at hu;have hbw3:=hbw2.trans (hb3.mono hbw2.size);have HG3:=Qd ((hb3.block w.heap.size hlt).trans HG.out);have hlt3:w.heap.size<w3.heap.size:=Nat.lt_of_lt_of_le hlt hb3.size;obtain⟨A3,c3,rfl,-⟩:=hu;clear hb3 hbw2 hlt p0;have p2:w3.cell? ⟨w.heap.size,2,none⟩=some v2:=(cell_of_row w3 w.heap.size 2 _ _ _ HG3.out).trans rfl;have HG4:Hid (∀o,(w3.alloc o).heap[w3.heap.size]? =some o):=Qd (λo=>heap_alloc_new w3 o);by_cases hone:bot=[1]
  ·have HO:=Qd hone
   have e1:(bot==[1])=true:=by rw[hone];rfl
   simp only[e1,if_pos hone];clear hone TY IW e1;go_wp2_with fail
   go_ret;exact⟨O9 (by rw[HP.out,if_pos HO.out,hN2.out];simp),hbw3.alloc hbw3.size _⟩
  have HO:=Qd hone;have e1:(bot==[1])=false:=beq_eq_false_iff_ne.2 hone;simp only[e1,if_neg hone];clear hone IW e1;have HTY:=Qd (λo=>TY.out (w3.alloc o) (hbw3.alloc hbw3.size _));clear TY;go_wp2_with fail
  refine(HTY.out _).mono ?_;rintro e w4 ⟨rfl,hb4⟩;have hbw4:=(hbw3.alloc hbw3.size (.cells #[.bool false,.slice A3 ([]:List Nat).length c3] 93)).trans (hb4.mono (by simp;omega));clear hb4 HTY hbw3 p2;go_wp2_with fail
  go_ret;exact⟨O9 (by rw[HP.out,if_neg HO.out,hN2.out];simp),hbw4⟩
theorem Moa {B:Nat}{w w':World}(h:Below B w w')(n:Nat):Below B w (w'.drewN n):=⟨h.os,h.tape,h.output,h.size,h.block⟩
theorem Wfa (s:List UInt8):Dg.parse s=Dg.body (Lib.hasPrefix s [194,175]) (Lib.trimPrefix s [194,175]):=by
 unfold Lib.trimPrefix Lib.hasPrefix
 match s with
 | []=>rfl
 | [a]=>
  have h:List.isPrefixOf [194,175] [a]=false:=by simp[List.isPrefixOf]
  rw[h];unfold Dg.parse
  split
  ·next h2=>cases h2
  rfl
 |a::b::t=>
  by_cases h:a=194/\b=175
  ·obtain⟨rfl,rfl⟩:=h
   rfl
  have h2:List.isPrefixOf [194,175] (a::b::t)=false:=by
   simp[List.isPrefixOf];intro e1 e2;exact h ⟨e1.symm,e2.symm⟩
  rw[h2];unfold Dg.parse
  split
  ·next h3=>injection h3 with e1 h3;injection h3 with e2 h3;exact absurd ⟨e1,e2⟩ h
  rfl
theorem Xfa:Ten.numOf [49]=1:=rfl
theorem Kma (s p:List UInt8):(Lib.trimPrefix s p).length<=s.length:=by
 unfold Lib.trimPrefix
 split
 ·rw[List.length_drop];omega
 exact Lr
theorem V3 {t:List UInt8}(hd:∀b∈t,Ten.isDig b)(h:t.length<=1000):(Nt.digs (Ten.numOf t)).length<=1000000:=by
 have:=Dg.limbs_le hd 112 (by omega);omega
theorem Jn (neg:Bool)(v1 v2:Value)(a b:List UInt8)(w:World)(h1:IsRes w v1 (Nt.digs (Ten.numOf a)))(h2:IsRes w v2 (Nt.digs (Ten.numOf b)))(d1:∀x∈a,Ten.isDig x)(d2:∀x∈b,Ten.isDig x)(s1:a.length<=1000)(s2:b.length<=1000):
 Calls Tryz.prog 166 #[.agg #[.bool neg,v1],.agg #[.bool false,v2]] w (MakeOut w (Rt.mk neg false (Ten.numOf a) (Ten.numOf b))):=by
 have:=My neg false v1 v2 _ _ w h1 h2 (Nt.ok_digs _) (Nt.ok_digs _) (V3 d1 s1) (V3 d2 s2);rwa[Nt.val_digs,Nt.val_digs] at this
theorem X3 (s:List UInt8)(w:World)(hs:s.length<=1000000):
 Calls Tryz.prog 137 #[.string ⟨s.toArray⟩] w (MakeOut w (Dg.parse s)):=by
 have CP:=λwx=>Tryz.strings_CutPrefix ⟨s.toArray⟩ ⟨#[194,175]⟩ wx;rw[show(⟨s.toArray⟩:ByteArray).data.toList=s from rfl,show(⟨#[194,175]⟩:ByteArray).data.toList=[194,175] from rfl] at CP;have hcl:=Kma s [194,175];rw[Wfa];have HGA:Hid ((w.alloc (.cells #[.bool false,.slice none 0 0,.slice none 0 0] 24)).heap[w.heap.size]? =some (.cells #[.bool false,.slice none 0 0,.slice none 0 0] 24 (0,0))):=Qd (heap_alloc_new w _);have hb0:Below w.heap.size w (w.alloc (.cells #[.bool false,.slice none 0 0,.slice none 0 0] 24)):=Br.alloc Lr _;generalize Lib.trimPrefix s [194,175]=t at*;generalize Lib.hasPrefix s [194,175]=neg at*;have HCP:=Qd CP;have htl:t.length<=1000000:=by omega
 clear CP hcl;obtain⟨W,hW⟩:∃W,W=w.alloc (.cells #[.bool false,.slice none 0 0,.slice none 0 0] 24):=⟨_,rfl⟩;rw[<-hW] at HGA hb0;have HW:=Qd hW;clear hW;have hsz:(⟨t.toArray⟩:ByteArray).size=t.length:=rfl;have HSZ:=Qd hsz;clear hsz;go_enter Tryz.func137,Tryz.ntmps137
 go_wp2_with fail
 rw[<-HW.out];refine(HCP.out _).mono ?_;rintro e w' ⟨rfl,rfl⟩;clear HCP;by_cases h400:400<t.length
 ·have HE:Hid (400<t.length):=Qd h400
  go_wp2_with (with_reducible refine Wf rfl (.tmp 2) (.tmp 18) rfl w.heap.size rfl rfl HGA.out ?_)
  refine Ud (by rfl) (by rfl) (by rfl) rfl HGA.out (MakeOut.of (by unfold Dg.body;rw[if_pos HE.out];rfl) rfl (Ga _) (Ga _) (rBelow.setRow hb0 (by omega) _))
 have H400:Hid (¬400<t.length):=Qd h400;obtain⟨n,hn⟩:∃n,n=Dg.lead t:=⟨_,rfl⟩;have LD:=λ(wx:World)=>Zq t wx (by omega);have hll:=Dg.lead_le t;rw[<-hn] at LD hll;have LD:=Qd LD;have HN:=Qd hn;clear hn;go_wp2_with fail
 refine(LD.out _).mono ?_;rintro e w' ⟨rfl,rfl⟩;clear LD;by_cases hl0:n=0
 ·have hz:((n:Int)==0)=true:=by rw[hl0];rfl
  have HE:Hid (Dg.lead t=0):=Qd (by rw[<-HN.out];exact hl0);clear hl0;go_wp2_with (with_reducible refine Wf rfl (.tmp 2) (.tmp 23) rfl w.heap.size rfl rfl HGA.out ?_)
  refine Ud (by rfl) (by rfl) (by rfl) rfl HGA.out (MakeOut.of (by unfold Dg.body;rw[if_neg H400.out,if_pos HE.out];rfl) rfl (Ga _) (Ga _) (rBelow.setRow hb0 (by omega) _))
 have hz:((n:Int)==0)=false:=beq_eq_false_iff_ne.2 (by omega);have HL0:Hid (¬Dg.lead t=0):=Qd (by rw[<-HN.out];exact hl0);by_cases hlt:n<t.length
 ·obtain⟨y,hy⟩:∃y,y=t[n].toNat:=⟨_,rfl⟩
  have hgy:((⟨t.toArray⟩:ByteArray)[n]'(show n<(⟨t.toArray⟩:ByteArray).size from hlt)).toNat=y:=hy.symm;have HY:Hid (y=(t.getD n 0).toNat):=Qd (by rw[hy,List.getD_eq_getElem?_getD,List.getElem?_eq_getElem hlt];rfl);clear hy;obtain⟨ov,hov⟩:∃ov,ov=t.take n:=⟨_,rfl⟩;obtain⟨bh,hbh⟩:∃bh,bh=t.drop (n+1):=⟨_,rfl⟩;have hovl:ov.length=n:=by rw[hov,List.length_take];omega
  have hbhl:bh.length=t.length-(n+1):=by rw[hbh,List.length_drop]
  have hovl2:ov.length<=400:=by omega
  have hbhl2:bh.length<=400:=by omega
  have SU:Hid ((⟨t.toArray⟩:ByteArray).extract 0 n=⟨ov.toArray⟩):=Qd (by rw[N3 t n (by omega),hov]);have SF:Hid ((⟨t.toArray⟩:ByteArray).extract (n+1) t.length=⟨bh.toArray⟩):=Qd (by rw[Dja,hbh]);have HOV:Hid (ov=t.take (Dg.lead t)):=Qd (by rw[<-HN.out];exact hov);have HBH:Hid (bh=t.drop (Dg.lead t+1)):=Qd (by rw[<-HN.out];exact hbh);have HBL:Hid (bh.length=t.length-(Dg.lead t+1)):=Qd (by rw[<-HN.out];exact hbhl);have HNE:Hid (¬Dg.lead t=t.length):=Qd (by rw[<-HN.out];omega);have HO:Hid (ov.length<=1000/\∀b∈ov,Ten.isDig b):=Qd ⟨by omega,by rw[HOV.out];exact Dg.lead_take⟩;have HEQ0:Hid (Dg.body neg t=if bh.length=0\/Dg.lead bh<bh.length then(Rt.none_,1) else if t.getD n 0=114 then Rt.mk neg false (Ten.numOf ov) (Ten.numOf bh) else if t.getD n 0=46 then Rt.mk neg false (Ten.numOf (ov++bh)) (10^bh.length) else(Rt.none_,1)):=Qd (by
   unfold Dg.body;rw[if_neg H400.out,if_neg HL0.out,if_neg HNE.out,<-HBL.out,<-HBH.out,<-HOV.out,<-HN.out];have e:(t.length=n+1)=(bh.length=0):=by rw[eq_iff_iff];omega
   simp only[e])
  have hw1:IntKind.i64.wrap ((n:Int)+1)=(n:Int)+1:=IntWalk.i64_in _ (by omega);have hw2:(0:Int)<=(n:Int)+1:=by omega
  have hw3:(n:Int)+1<=(t.length:Int):=by omega
  have hw4:((n:Int)+1).toNat=n+1:=by omega
  have hw5:(0:Int)<=(n:Int):=by omega
  have hw6:(n:Int)<(t.length:Int):=by omega
  clear hov hbh hovl hbhl;go_wp2_with fail
  go_quiet (fail)
  clear hw1 hw2 hw3 hw4 hw5 hw6;simp only[SU.out,SF.out];have hbq:Below w.heap.size w (w'.drewN nq):=Moa hb0 nq;have HGQ:Hid ((w'.drewN nq).heap[w.heap.size]? =some (.cells #[.bool false,.slice none 0 0,.slice none 0 0] 24 (0,0))):=Qd HGA.out;generalize w'.drewN nq=wq at*;by_cases hbe:bh=[]
  ·have hemp:bh.isEmpty=true:=by rw[hbe];rfl
   have HE:Hid (bh.length=0):=Qd (by rw[hbe];rfl);subst hbe;clear SU SF HGA hb0;go_wp2_with (with_reducible refine Wf rfl (.tmp 2) (.tmp 47) rfl w.heap.size rfl rfl HGQ.out ?_)
   refine Ud (by rfl) (by rfl) (by rfl) rfl HGQ.out (MakeOut.of (by rw[HEQ0.out,if_pos (.inl HE.out)];rfl) rfl (Ga _) (Ga _) (rBelow.setRow hbq (by omega) _))
  have hemp:bh.isEmpty=false:=by cases bh with |nil=>exact absurd rfl hbe |cons a r=>rfl
  have HBE:Hid (¬bh.length=0):=Qd (by cases bh with |nil=>exact absurd rfl hbe |cons a r=>simp);have LB:=Qd (λ(wx:World)=>Zq bh wx (by omega));clear SU SF HGA hb0;go_wp2_with fail
  refine(LB.out _).mono ?_;rintro e w'' ⟨rfl,rfl⟩;have hlb:=Dg.lead_le bh;by_cases hm:Dg.lead bh<bh.length
  ·have HM:=Qd hm
   have g1:decide (Dg.lead bh<bh.length)=true:=decide_eq_true hm;go_wp2_with (with_reducible refine Wf rfl (.tmp 2) (.tmp 47) rfl w.heap.size rfl rfl HGQ.out ?_)
   refine Ud (by rfl) (by rfl) (by rfl) rfl HGQ.out (MakeOut.of (by rw[HEQ0.out,if_pos (.inr HM.out)];rfl) rfl (Ga _) (Ga _) (rBelow.setRow hbq (by omega) _))
  have g1:decide (Dg.lead bh<bh.length)=false:=decide_eq_false hm;have HM:Hid (¬(bh.length=0\/Dg.lead bh<bh.length)):=Qd (λh=>h.elim HBE.out hm);have HBD:Hid (∀b∈bh,Ten.isDig b):=Qd (Dg.lead_full (by omega));clear LB hlb;have HY114:Hid (y=114->t.getD n 0=114):=Qd (λh=>UInt8.toNat_inj.1 (by rw[<-HY.out,h];rfl));have HY46:Hid (y=46->t.getD n 0=46):=Qd (λh=>UInt8.toNat_inj.1 (by rw[<-HY.out,h];rfl));have HYN:Hid (∀b:UInt8,t.getD n 0=b->y=b.toNat):=Qd (λb h=>by rw[HY.out,h]);by_cases h114:y=114
  ·have HD:=Qd (HY114.out h114)
   have q114:((y:Int)==114)=true:=by rw[h114];rfl
   have HU:Hid (bh.length<=1000/\∀b∈bh,Ten.isDig b):=Qd ⟨by omega,HBD.out⟩;clear h114;have NO:=Qd (λ(wx:World)=>Fh ov wx HO.out.1 HO.out.2);have NU:=Qd (λ(wx:World)=>Fh bh wx HU.out.1 HU.out.2);go_wp2_with fail
   refine(NO.out _).mono ?_;rintro e w2 ⟨v1,rfl,hr1,hb2⟩;have HR1:=Qd hr1;have HG2:=Qd ((hb2.block w.heap.size (Ib HGQ.out)).trans HGQ.out);have hbw2:=hbq.trans (hb2.mono hbq.size);obtain⟨A1,c1,rfl,-⟩:=hr1;go_wp2_with fail
   refine(NU.out _).mono ?_;rintro e w3 ⟨v2,rfl,hr2,hb3⟩;have MK:=Qd (Jn neg _ _ ov bh w3 (HR1.out.below hb3) hr2 HO.out.2 HU.out.2 HO.out.1 HU.out.1);have HG3:=Qd ((hb3.block w.heap.size (Ib HG2.out)).trans HG2.out);have hbw3:=hbw2.trans (hb3.mono hbw2.size);obtain⟨A2,c2,rfl,-⟩:=hr2;clear hb2 hb3 HG2 hbw2 HR1;go_wp2_with fail
   refine MK.out.mono ?_;rintro e w4 ⟨r1,r2,rfl,hr3,hr4,hb4⟩;have HG4:=Qd ((hb4.block w.heap.size (Ib HG3.out)).trans HG3.out);have hbw4:=hbw3.trans (hb4.mono hbw3.size);have HR3:=Qd (hr3.setRow HG4.out (Ma _ _ _ _ _ _ _) #[.bool (Rt.mk neg false (Ten.numOf ov) (Ten.numOf bh)).1.neg,r1,r2]);have HR4:=Qd (hr4.setRow HG4.out (Ma _ _ _ _ _ _ _) #[.bool (Rt.mk neg false (Ten.numOf ov) (Ten.numOf bh)).1.neg,r1,r2]);have HEQ:=Qd (show Dg.body neg t=Rt.mk neg false (Ten.numOf ov) (Ten.numOf bh) by rw[HEQ0.out,if_neg HM.out,if_pos HD.out]);obtain⟨A3,c3,rfl,-⟩:=hr3;obtain⟨A4,c4,rfl,-⟩:=hr4;clear MK hb4 HG3 hbw3;generalize Rt.mk neg false (Ten.numOf ov) (Ten.numOf bh)=R at*;obtain⟨⟨rn,rt,rb⟩,re⟩:=R;dsimp only at HR3 HR4 HEQ⊢;go_wp2_with (with_reducible refine Wf rfl (.tmp 2) (.tmp 71) rfl w.heap.size rfl rfl HG4.out ?_)
   refine Ud (by rfl) (by rfl) (by rfl) rfl HG4.out (MakeOut.of HEQ.out rfl HR3.out HR4.out (rBelow.setRow hbw4 (by omega) _))
  have q114:((y:Int)==114)=false:=beq_eq_false_iff_ne.2 (by omega);have HD1:Hid (¬t.getD n 0=114):=Qd (λh=>h114 (HYN.out _ h));clear h114;by_cases h46:y=46
  ·have HD:=Qd (HY46.out h46)
   have q46:((y:Int)==46)=true:=by rw[h46];rfl
   have RP:=Tryz.strings_Repeat ⟨#[48]⟩ bh.length wq (by omega) (by show 1*bh.length<=_;omega);rw[show(⟨#[48]⟩:ByteArray).data.toList=[48] from rfl,J3] at RP;obtain⟨ZR,hZR⟩:∃ZR,ZR=List.replicate bh.length (48:UInt8):=⟨_,rfl⟩;obtain⟨o2,ho2⟩:∃o2,o2=ov++bh:=⟨_,rfl⟩;obtain⟨u2,hu2⟩:∃u2,u2=(49:UInt8)::ZR:=⟨_,rfl⟩;rw[<-hZR] at RP;have hZl:ZR.length=bh.length:=by rw[hZR,List.length_replicate]
   have hZl2:ZR.length<=400:=by omega
   have HN2:Hid (Ten.numOf u2=10^bh.length):=Qd (by rw[hu2,hZR];exact Dg.numOf_zeros _);have SO2:Hid ((⟨ov.toArray⟩:ByteArray)++⟨bh.toArray⟩=⟨o2.toArray⟩):=Qd (by apply ByteArray.ext;rw[ho2];simp);have SU2:Hid ((⟨#[49]⟩:ByteArray)++⟨ZR.toArray⟩=⟨u2.toArray⟩):=Qd (by apply ByteArray.ext;rw[hu2];simp);have HO2:Hid (o2.length<=1000/\∀b∈o2,Ten.isDig b):=Qd ⟨by rw[ho2,List.length_append];omega,by
    intro b hb;rw[ho2] at hb;rcases List.mem_append.1 hb with hb |hb
    ·exact HO.out.2 b hb
    exact HBD.out b hb⟩
   have HU:Hid (u2.length<=1000/\∀b∈u2,Ten.isDig b):=Qd ⟨by rw[hu2,List.length_cons];omega,by
    intro b hb;rw[hu2,hZR] at hb;rcases List.mem_cons.1 hb with rfl |hb
    ·exact⟨by decide,by decide⟩
    rw[List.eq_of_mem_replicate hb];exact⟨by decide,by decide⟩⟩
   have HEV:Hid (Dg.body neg t=Rt.mk neg false (Ten.numOf o2) (Ten.numOf u2)):=Qd (by rw[HEQ0.out,if_neg HM.out,if_neg HD1.out,if_pos HD.out,HN2.out,ho2]);have HRP:=Qd RP;clear h46 hZR ho2 hu2 RP hZl HO;have HO:=HO2;clear HO2;go_wp2_with fail
   refine HRP.out.mono ?_;rintro e w7 ⟨rfl,hb7⟩;have HG7:=Qd ((hb7.block w.heap.size (Ib HGQ.out)).trans HGQ.out);have hbw7:=hbq.trans (hb7.mono hbq.size);clear hb7 HRP hbq HGQ;simp only[SO2.out];have NO:=Qd (λ(wx:World)=>Fh o2 wx HO.out.1 HO.out.2);have NU:=Qd (λ(wx:World)=>Fh u2 wx HU.out.1 HU.out.2);go_wp2_with fail
   simp only[SU2.out,SO2.out];refine(NO.out _).mono ?_;rintro e w2 ⟨v1,rfl,hr1,hb2⟩;have HR1:=Qd hr1;have HG2:=Qd ((hb2.block w.heap.size (Ib HG7.out)).trans HG7.out);have hbw2:=hbw7.trans (hb2.mono hbw7.size);obtain⟨A1,c1,rfl,-⟩:=hr1;go_wp2_with fail
   refine(NU.out _).mono ?_;rintro e w3 ⟨v2,rfl,hr2,hb3⟩;have MK:=Qd (Jn neg _ _ o2 u2 w3 (HR1.out.below hb3) hr2 HO.out.2 HU.out.2 HO.out.1 HU.out.1);have HG3:=Qd ((hb3.block w.heap.size (Ib HG2.out)).trans HG2.out);have hbw3:=hbw2.trans (hb3.mono hbw2.size);obtain⟨A2,c2,rfl,-⟩:=hr2;clear hb2 hb3 HG2 hbw2 HR1;go_wp2_with fail
   refine MK.out.mono ?_;rintro e w4 ⟨r1,r2,rfl,hr3,hr4,hb4⟩;have HG4:=Qd ((hb4.block w.heap.size (Ib HG3.out)).trans HG3.out);have hbw4:=hbw3.trans (hb4.mono hbw3.size);have HR3:=Qd (hr3.setRow HG4.out (Ma _ _ _ _ _ _ _) #[.bool (Rt.mk neg false (Ten.numOf o2) (Ten.numOf u2)).1.neg,r1,r2]);have HR4:=Qd (hr4.setRow HG4.out (Ma _ _ _ _ _ _ _) #[.bool (Rt.mk neg false (Ten.numOf o2) (Ten.numOf u2)).1.neg,r1,r2]);have HEQ:=Qd (show Dg.body neg t=Rt.mk neg false (Ten.numOf o2) (Ten.numOf u2) by exact HEV.out);obtain⟨A3,c3,rfl,-⟩:=hr3;obtain⟨A4,c4,rfl,-⟩:=hr4;clear MK hb4 HG3 hbw3;generalize Rt.mk neg false (Ten.numOf o2) (Ten.numOf u2)=R at*;obtain⟨⟨rn,rt,rb⟩,re⟩:=R;dsimp only at HR3 HR4 HEQ⊢;go_wp2_with (with_reducible refine Wf rfl (.tmp 2) (.tmp 71) rfl w.heap.size rfl rfl HG4.out ?_)
   refine Ud (by rfl) (by rfl) (by rfl) rfl HG4.out (MakeOut.of HEQ.out rfl HR3.out HR4.out (rBelow.setRow hbw4 (by omega) _))
  have q46:((y:Int)==46)=false:=beq_eq_false_iff_ne.2 (by omega);have HD2:Hid (¬t.getD n 0=46):=Qd (λh=>h46 (HYN.out _ h));clear h46;go_wp2_with (with_reducible refine Wf rfl (.tmp 2) (.tmp 49) rfl w.heap.size rfl rfl HGQ.out ?_)
  refine Ud (by rfl) (by rfl) (by rfl) rfl HGQ.out (MakeOut.of (by rw[HEQ0.out,if_neg HM.out,if_neg HD1.out,if_neg HD2.out];rfl) rfl (Ga _) (Ga _) (rBelow.setRow hbq (by omega) _))
 have HO:Hid (t.length<=1000/\∀b∈t,Ten.isDig b):=Qd ⟨by omega,Dg.lead_full (by rw[<-HN.out];omega)⟩;have HU:Hid (([49]:List UInt8).length<=1000/\∀b∈([49]:List UInt8),Ten.isDig b):=Qd ⟨by decide,by intro b hb;rw[List.mem_singleton] at hb;subst hb;exact⟨by decide,by decide⟩⟩;have HLE:Hid (n=t.length):=Qd (by omega);have hst:(⟨t.toArray⟩:ByteArray).extract 0 n=⟨t.toArray⟩:=by rw[N3 t n (by omega),HLE.out,List.take_length]
 have HST:=Qd hst;clear hst;go_wp2_with fail
 rw[HST.out];have NO:=Qd (λ(wx:World)=>Fh t wx HO.out.1 HO.out.2);have NU:=Qd (λ(wx:World)=>Fh [49] wx HU.out.1 HU.out.2);go_wp2_with fail
 refine(NO.out _).mono ?_;rintro e w2 ⟨v1,rfl,hr1,hb2⟩;have HR1:=Qd hr1;have HG2:=Qd ((hb2.block w.heap.size (Ib HGA.out)).trans HGA.out);have hbw2:=hb0.trans (hb2.mono hb0.size);obtain⟨A1,c1,rfl,-⟩:=hr1;go_wp2_with fail
 refine(NU.out _).mono ?_;rintro e w3 ⟨v2,rfl,hr2,hb3⟩;have MK:=Qd (Jn neg _ _ t [49] w3 (HR1.out.below hb3) hr2 HO.out.2 HU.out.2 HO.out.1 HU.out.1);have HG3:=Qd ((hb3.block w.heap.size (Ib HG2.out)).trans HG2.out);have hbw3:=hbw2.trans (hb3.mono hbw2.size);obtain⟨A2,c2,rfl,-⟩:=hr2;clear hb2 hb3 HG2 hbw2 HR1;go_wp2_with fail
 refine MK.out.mono ?_;rintro e w4 ⟨r1,r2,rfl,hr3,hr4,hb4⟩;have HG4:=Qd ((hb4.block w.heap.size (Ib HG3.out)).trans HG3.out);have hbw4:=hbw3.trans (hb4.mono hbw3.size);have HR3:=Qd (hr3.setRow HG4.out (Ma _ _ _ _ _ _ _) #[.bool (Rt.mk neg false (Ten.numOf t) (Ten.numOf [49])).1.neg,r1,r2]);have HR4:=Qd (hr4.setRow HG4.out (Ma _ _ _ _ _ _ _) #[.bool (Rt.mk neg false (Ten.numOf t) (Ten.numOf [49])).1.neg,r1,r2]);have HEQ:=Qd (show Dg.body neg t=Rt.mk neg false (Ten.numOf t) (Ten.numOf [49]) by unfold Dg.body;rw[if_neg H400.out,if_neg HL0.out,if_pos (by rw[<-HN.out];exact HLE.out),Xfa]);obtain⟨A3,c3,rfl,-⟩:=hr3;obtain⟨A4,c4,rfl,-⟩:=hr4;clear MK hb4 HG3 hbw3;generalize Rt.mk neg false (Ten.numOf t) (Ten.numOf [49])=R at*;obtain⟨⟨rn,rt,rb⟩,re⟩:=R;dsimp only at HR3 HR4 HEQ⊢;go_wp2_with (with_reducible refine Wf rfl (.tmp 2) (.tmp 71) rfl w.heap.size rfl rfl HG4.out ?_)
 refine Ud (by rfl) (by rfl) (by rfl) rfl HG4.out (MakeOut.of HEQ.out rfl HR3.out HR4.out (rBelow.setRow hbw4 (by omega) _))
theorem Yfa {l:List Int}{i nn k e:Nat}(hn:nn=if l.getD i (-1)=175 then 1 else 0)(hk:k=Tk.figures l (i+nn))
 (he:e=if(l.getD (i+nn+k) (-1)=114\/l.getD (i+nn+k) (-1)=46)/\0<Tk.figures l (i+nn+k+1) then i+nn+k+1+Tk.figures l (i+nn+k+1) else i+nn+k):
 Tk.numLen l i=if k=0 then none else if Tk.word (l.getD e (-1))=true\/l.getD e (-1)=175 then none else some (e-i):=by
 unfold Tk.numLen;simp only;rw[<-hn,<-hk,show i+(nn+k)=i+nn+k by omega];by_cases h0:k=0
 ·rw[if_pos h0,if_pos h0]
 rw[if_neg h0,if_neg h0];by_cases hc:(l.getD (i+nn+k) (-1)=114\/l.getD (i+nn+k) (-1)=46)/\0<Tk.figures l (i+nn+k+1)
 ·rw[if_pos hc] at he⊢
  rw[show i+(nn+k+1+Tk.figures l (i+nn+k+1))=e by omega,show nn+k+1+Tk.figures l (i+nn+k+1)=e-i by omega]
 rw[if_neg hc] at he⊢;rw[show i+(nn+k)=e by omega,show nn+k=e-i by omega]
theorem Eo {l:List Int}{i:Nat}(hc:Tk.cls (l.getD i (-1))=3)(h:Tk.numLen l i=none):Tk.read l i=(Tk.none_,0,1):=by
 unfold Tk.read;simp only;rw[if_pos hc,h]
theorem Y3 {l:List Int}{i n:Nat}(hc:Tk.cls (l.getD i (-1))=3)(h:Tk.numLen l i=some n)(h2:(Dg.parse (Tk.enc ((l.drop i).take n))).2≠0):Tk.read l i=(Tk.none_,0,(Dg.parse (Tk.enc ((l.drop i).take n))).2):=by
 unfold Tk.read;simp only;rw[if_pos hc,h];simp only;rw[if_neg h2]
theorem R6 {l:List Int}{i n:Nat}(hc:Tk.cls (l.getD i (-1))=3)(h:Tk.numLen l i=some n)(h2:(Dg.parse (Tk.enc ((l.drop i).take n))).2=0):Tk.read l i=(⟨0,(Dg.parse (Tk.enc ((l.drop i).take n))).1,[],[],0,i⟩,n,0):=by
 unfold Tk.read;simp only;rw[if_pos hc,h];simp only;rw[if_pos h2]
theorem Rba (c:Nat):(Gl.one c).length<=4:=by
 unfold Gl.one;repeat' split
 all_goals simp
theorem Ku:∀l:List Int,(Tk.enc l).length<=4*l.length
 | []=>by simp[Tk.enc]
 |a::r=>by
  have h1:=Ku r;have h2:=Rba a.toNat;unfold Tk.enc at h1⊢;rw[List.flatMap_cons,List.length_append];have:(Tk.enc1 a).length<=4:=by unfold Tk.enc1;simpa using h2
  simp only[List.length_cons];omega
theorem IsRes.setRowU {w:World}{v:Value}{l:List Nat}{g:Nat}{old:Array Value}{t:TypeId}(h:IsRes w v l)(hg:w.heap[g]? =some (.cells old t (0,0)))(ho:∀(i:Nat) (n:Int),old[i]? ≠some (Value.int .u32 n))(cs:Array Value):IsRes (w.setRow g cs) v l:=by
 obtain⟨A,c,h1,h2,h3,h4,h5⟩:=h;refine⟨A,c,h1,h2,h3,h4,?_⟩;rcases h5 with h5 |⟨b,off,e,hb,hc⟩
 ·exact .inl h5
 cases l with
 |nil=>exact .inl rfl
 |cons x r=>
  have hne:b≠g:=by
   rintro rfl;have h0:=hc 0 _ rfl;rw[cell_of_row w b (off+0) old t (0,0) hg] at h0;exact ho _ _ h0
  refine .inr ⟨b,off,e,by rw[size_setRow];exact hb,λi u hu=>?_⟩;rw[World.cell?_of_block (w:=w) (by simp only[World.setRow,Array.getElem?_modify];rw[if_neg (by omega)])];exact hc i u hu
theorem Tq:∀(i:Nat) (n:Int),(#[.int .i64 0,.bool false,.slice none 0 0,.slice none 0 0,.slice none 0 0,.string ⟨#[]⟩,.int .i64 0,.int .i64 0]:Array Value)[i]? ≠some (Value.int .u32 n):=by
 intro i n h;rcases i with _ |_ |_ |_ |_ |_ |_ |_ |i<;>simp at h
theorem P9:∀(i:Nat) (n:Int),(#[.bool false,.slice none 0 0,.slice none 0 0]:Array Value)[i]? ≠some (Value.int .u32 n):=by
 intro i n h;rcases i with _ |_ |_ |i<;>simp at h
theorem Pp (x0 x1 x2:Value):(Tryz.prog.info? 24).map (·.size)=some (#[x0,x1,x2]:Array Value).size:=Tg
theorem Ny (A:Option Addr)(c:Nat)(l:List Int)(i:Nat)(w:World)(hl:Lies w w.heap.size A (Sa l))(hn:l.length<=25000)(hcap:l.length<=c)(hm:∀x∈l,Gl.may x=true)(hi:i<l.length)(hc:Tk.cls (l.getD i (-1))=3):
 Calls Tryz.prog 81 #[.slice A l.length c,.int .i64 (i:Int)] w (Vc w l i):=by
 have HR:Hid (∀e w',Og w (Tk.read l i).1 (if(Tk.read l i).2.2=0 then i+(Tk.read l i).2.1 else 0) (Tk.read l i).2.2 e w'->Vc w l i e w'):=Qd (λe w' h=>h);obtain⟨W,hW⟩:∃W,W=w.alloc (.cells #[.int .i64 0,.bool false,.slice none 0 0,.slice none 0 0,.slice none 0 0,.string ⟨#[]⟩,.int .i64 0,.int .i64 0] 54):=⟨_,rfl⟩;have hb0:Below w.heap.size w W:=by rw[hW];exact Br.alloc Lr _
 have HGA:Hid (W.heap[w.heap.size]? =some (.cells #[.int .i64 0,.bool false,.slice none 0 0,.slice none 0 0,.slice none 0 0,.string ⟨#[]⟩,.int .i64 0,.int .i64 0] 54 (0,0))):=Qd (by rw[hW];exact heap_alloc_new w _);have HWS:Hid (W.heap.size=w.heap.size+1):=Qd (by rw[hW];simp);have hlW:Lies W W.heap.size A (Sa l):=(hl.below hb0).more hb0.size;have LT:=Qd (λ(m:Nat) (h:m<=1000000)=>Tm A c l m W hlW (by omega) h);have DG:=Qd (λ(m:Nat) (h:m<=1000000)=>Qo A c l m W hlW (by omega) h);obtain⟨nn,hnn⟩:∃nn:Nat,nn=if l.getD i (-1)=175 then 1 else 0:=⟨_,rfl⟩
 obtain⟨k,hk⟩:∃k,k=Tk.figures l (i+nn):=⟨_,rfl⟩;obtain⟨f,hf⟩:∃f,f=Tk.figures l (i+nn+k+1):=⟨_,rfl⟩;obtain⟨j,hj⟩:∃j,j=i+nn+k:=⟨_,rfl⟩;obtain⟨e,he⟩:∃e,e=if(l.getD (i+nn+k) (-1)=114\/l.getD (i+nn+k) (-1)=46)/\0<Tk.figures l (i+nn+k+1) then i+nn+k+1+Tk.figures l (i+nn+k+1) else i+nn+k:=⟨_,rfl⟩
 have HNL:=Qd (Yfa hnn hk he);have F1:=Qd (λ(q:Nat) (h:q<=k)=>(by rw[hk] at h⊢;exact figures_at h:Tk.digit (l.getD (i+nn+q) (-1))=true↔q<k));have F2:=Qd (λ(q:Nat) (h:q<=f)=>(by rw[hf] at h⊢;exact figures_at h:Tk.digit (l.getD (i+nn+k+1+q) (-1))=true↔q<f));have hkl:=Tk.figures_le l (i+nn);have hfl:=Tk.figures_le l (i+nn+k+1);rw[<-hk] at hkl;rw[<-hf] at hfl he;rw[<-hj] at he F2 hfl;have hnn1:nn<=1:=by rw[hnn];split<;>omega
 have hnn0:nn=0\/(nn=1):=by omega
 have hjl:j<=l.length:=by omega
 have HNN:=Qd hnn;have HE:=Qd he;have HJ:=Qd hj;have HL:=Qd hlW;have HM:=Qd hm;have HC:=Qd hc;have HW:Hid (W=w.alloc (.cells #[.int .i64 0,.bool false,.slice none 0 0,.slice none 0 0,.slice none 0 0,.string ⟨#[]⟩,.int .i64 0,.int .i64 0] 54)):=Qd hW;obtain⟨b,off,rfl,hb,g0⟩:=Hb hlW hi;obtain⟨x,hx⟩:∃x,x=l.getD i (-1):=⟨_,rfl⟩;rw[<-Tk.getD_in hi,<-hx] at g0;rw[<-hx] at HNN;clear hl hlW hm hc hW hnn hk hf hj he hx hkl hnn0;go_enter Tryz.func81,Tryz.ntmps81
 go_upto_region 1 with fail
 rw[<-HW.out];go_upto_if 17 with fail
 go_cut [7] from 12 (λx7 wx=>x7= .int .i64 ((i+nn:Nat):Int)/\wx=W)
 case first=>
  by_cases h175:x=175
  ·have q0:(x==175)=true:=by rw[h175];rfl
   have hn1:nn=1:=by rw[HNN.out,if_pos h175]
   clear h175;go_wp2_with fail
   go_meet
   exact⟨by rw[hn1];go_num,rfl⟩
  have q0:(x==175)=false:=beq_eq_false_iff_ne.2 h175;have hn1:nn=0:=by rw[HNN.out,if_neg h175]
  clear h175;go_wp2_with fail
  go_meet
  exact⟨by rw[hn1];rfl,rfl⟩
 case rest=>
  obtain⟨rfl,rfl⟩:=hcut
  rename World=>W
  have DG0:=DG.out (i+nn) (by omega);have FD:=F1.out 0 (by omega);rw[Nat.add_zero] at FD;generalize hd0:Tk.digit (l.getD (i+nn) (-1))=d0 at DG0 FD;have HDG0:=Qd DG0;clear DG0 hd0;by_cases hk0:k=0
  ·have hd:d0=false:=by rw[Bool.eq_false_iff];intro h;have:=FD.1 h;omega
   subst hd;have HRE:Hid (Tk.read l i=(Tk.none_,0,1)):=Qd (Eo HC.out (by rw[HNL.out,if_pos hk0]));clear FD;go_wp2_with fail
   refine HDG0.out.mono ?_;rintro e w' ⟨rfl,rfl⟩;go_wp2_with (with_reducible refine Hg rfl (.tmp 4) (.tmp 24) rfl w.heap.size rfl rfl HGA.out ?_)
   refine Of (by rfl) (by rfl) (by rfl) (by rfl) rfl HGA.out (HR.out _ _ ?_);rw[HRE.out];exact⟨_,_,_,rfl,Ga _,Ga _,World.ownsRow_nil _ _ _ _,rBelow.setRow hb0 Lr _⟩
  have hd:d0=true:=FD.2 (by omega);subst hd;rw[if_neg hk0] at HNL;clear FD;go_wp2_with fail
  refine HDG0.out.mono ?_;rintro e w' ⟨rfl,rfl⟩;go_wp2_with fail
  go_loop [7] (λev=>∃m:Nat,i+nn<=m/\m<=j/\ev= .int .i64 (m:Int)) (λev=>j-(intOf ev).toNat)
  case atStart=>exact⟨i+nn,Lr,by rw[HJ.out];omega,rfl⟩
  case round=>
   obtain⟨m,hm1,hm2,rfl⟩:=hrel;have DG2:=DG.out m (by omega);have FD:=F1.out (m-(i+nn)) (by rw[HJ.out] at hm2;omega);rw[show i+nn+(m-(i+nn))=m by omega] at FD;generalize Tk.digit (l.getD m (-1))=d1 at*;have HDG2:=Qd DG2;clear DG2;have hjj:=HJ.out;by_cases hlt:m<j
   ·have hd:d1=true:=FD.2 (by omega)
    subst hd;clear FD hjj;go_wp2_with fail
    refine HDG2.out.mono ?_;rintro e w' ⟨rfl,rfl⟩;go_wp2_with fail
    go_round
    case rel=>exact⟨m+1,by omega,by omega,by go_num⟩
    case measure=>simp[intOf];omega
   have hd:d1=false:=by rw[Bool.eq_false_iff];intro h;have:=FD.1 h;omega
   subst hd;have hmj:j=m:=by omega
   subst hmj;clear FD hjj hm1 hm2 hlt;go_wp2_with fail
   refine HDG2.out.mono ?_;rintro e w' ⟨rfl,rfl⟩;go_upto_region 8 with fail
   obtain⟨y,hy⟩:∃y,y=l.getD j (-1):=⟨_,rfl⟩;obtain⟨bb,hbb⟩:∃bb:Bool,bb=true↔((y=114\/y=46)/\0<f):=⟨decide ((y=114\/y=46)/\0<f),by simp⟩;have HBB:=Qd hbb;have HY:=Qd hy;clear hbb hy;go_cut [7,53] from 54 (λx7 x53 wx=>x7= .int .i64 (j:Int)/\x53= .bool bb/\wx=W)
   case first=>
    have hj1:((j+1:Nat):Int)=(j:Int)+1:=by omega
    have DG2:=DG.out (j+1) (by omega);have FD:=F2.out 0 (by omega);rw[Nat.add_zero] at FD;generalize Tk.digit (l.getD (j+1) (-1))=d2 at*;rw[hj1] at DG2;have HDG2:=Qd DG2;have HFD:=Qd FD;clear DG2 FD hj1;by_cases hlt:j<l.length
    ·obtain⟨b',off',e1,hb',g1⟩:=Hb HL.out hlt
     injection e1 with e1
     injection e1 with e1 e2
     subst e1 e2;rw[<-Tk.getD_in hlt,<-HY.out] at g1;by_cases y1:y=114
     ·have q1:(y==114)=true:=by rw[y1];rfl
      have hd:bb=d2:=Bool.eq_iff_iff.2 (by rw[HBB.out,HFD.out];exact⟨λh=>h.2,λh=>⟨.inl y1,h⟩⟩);clear y1;go_wp2_with fail
      refine HDG2.out.mono ?_;rintro e w' ⟨rfl,rfl⟩;go_wp2_with fail
      go_meet
      exact⟨rfl,by rw[hd],rfl⟩
     have q1:(y==114)=false:=beq_eq_false_iff_ne.2 y1;by_cases y2:y=46
     ·have q2:(y==46)=true:=by rw[y2];rfl
      have hd:bb=d2:=Bool.eq_iff_iff.2 (by rw[HBB.out,HFD.out];exact⟨λh=>h.2,λh=>⟨.inr y2,h⟩⟩);clear y1 y2;go_wp2_with fail
      refine HDG2.out.mono ?_;rintro e w' ⟨rfl,rfl⟩;go_wp2_with fail
      go_meet
      exact⟨rfl,by rw[hd],rfl⟩
     have q2:(y==46)=false:=beq_eq_false_iff_ne.2 y2;have hd:bb=false:=by rw[Bool.eq_false_iff];intro h;exact(HBB.out.1 h).1.elim y1 y2
     clear y1 y2;go_wp2_with fail
     go_meet
     exact⟨rfl,by rw[hd],rfl⟩
    have hy1:y= -1:=by rw[HY.out,List.getD_eq_getElem?_getD,List.getElem?_eq_none (by omega)];rfl
    have hd:bb=false:=by rw[Bool.eq_false_iff];intro h;rcases(HBB.out.1 h).1 with h |h<;>omega
    clear hy1;go_wp2_with fail
    go_meet
    exact⟨rfl,by rw[hd],rfl⟩
   case rest=>
    obtain⟨rfl,rfl,rfl⟩:=hcut
    rename World=>W
    rw[<-HY.out] at HE;have hel:j<=e/\e<=l.length:=by
     rw[HE.out];split<;>omega
    go_upto_if 53 with fail
    go_cut [7] from 12 (λx7 wx=>x7= .int .i64 (e:Int)/\wx=W)
    case first=>
     cases bb
     ·have hej:e=j:=by rw[HE.out,if_neg (λh=>by cases HBB.out.2 h)]
      go_wp2_with fail
      go_meet
      exact⟨by rw[hej],rfl⟩
     have hej:e=j+1+f:=by rw[HE.out,if_pos (HBB.out.1 rfl)]
     have HEJ:=Qd hej;clear hej;go_wp2_with fail
     go_loop [7] (λev=>∃m:Nat,j+1<=m/\m<=e/\ev= .int .i64 (m:Int)) (λev=>e-(intOf ev).toNat)
     case atStart=>exact⟨j+1,Lr,by rw[HEJ.out];omega,by go_num⟩
     case round=>
      obtain⟨m,hm1,hm2,rfl⟩:=hrel;have DG2:=DG.out m (by omega);have hee:=HEJ.out;have FD:=F2.out (m-(j+1)) (by omega);rw[show j+1+(m-(j+1))=m by omega] at FD;generalize Tk.digit (l.getD m (-1))=d1 at*;have HDG2:=Qd DG2;clear DG2;by_cases hlt:m<e
      ·have hd:d1=true:=FD.2 (by omega)
       subst hd;clear FD hee;go_wp2_with fail
       refine HDG2.out.mono ?_;rintro e w' ⟨rfl,rfl⟩;go_wp2_with fail
       go_round
       case rel=>exact⟨m+1,by omega,by omega,by go_num⟩
       case measure=>simp[intOf];omega
      have hd:d1=false:=by rw[Bool.eq_false_iff];intro h;have:=FD.1 h;omega
      subst hd;have hmj:e=m:=by omega
      clear FD hee hm1 hm2 hlt;go_wp2_with fail
      refine HDG2.out.mono ?_;rintro e' w' ⟨rfl,rfl⟩;go_wp2_with fail
      go_meet
      exact⟨by rw[hmj],rfl⟩
    case rest=>
     obtain⟨rfl,rfl⟩:=hcut
     rename World=>W
     have hdz:Tk.digit (l.getD e (-1))=false:=by
      rw[Bool.eq_false_iff];intro h;cases hbe:bb
      ·have hej:e=j:=by rw[HE.out,if_neg (λh=>by have:=HBB.out.2 h;rw[hbe] at this;cases this)]
       have:=F1.out k Lr;rw[<-HJ.out,<-hej] at this;exact Nat.lt_irrefl _ (this.1 h)
      have hej:e=j+1+f:=by rw[HE.out,if_pos (HBB.out.1 hbe)]
      have:=F2.out f Lr;rw[<-hej] at this;exact Nat.lt_irrefl _ (this.1 h)
     obtain⟨z,hz⟩:∃z,z=l.getD e (-1):=⟨_,rfl⟩;obtain⟨b6,hb6⟩:∃b6:Bool,b6=true↔(Tk.word z=true\/z=175):=⟨decide (Tk.word z=true\/z=175),by simp⟩;rw[<-hz] at HNL hdz;have LT2:=LT.out e (by omega);rw[<-hz] at LT2;have hw:(Tk.word z=true)↔((Tk.cls z==2)=true):=by unfold Tk.word;rw[hdz];simp
     have hie:i<=e:=by have:=HJ.out;omega
     have HZ:=Qd hz;have HB6:=Qd hb6;clear hz hb6 hdz LT DG F1 F2 HBB HY HE;generalize(Tk.cls z==2)=d3 at*;have HWD:=Qd hw;have HLT2:=Qd LT2;clear hw LT2;go_upto_region 12 with fail
     go_cut [7,76] from 77 (λx7 x76 wx=>x7= .int .i64 (e:Int)/\x76= .bool b6/\wx=W)
     case first=>
      cases d3
      ·by_cases hlt:e<l.length
       ·obtain⟨b',off',e1,hb',g1⟩:=Hb HL.out hlt
        injection e1 with e1
        injection e1 with e1 e2
        subst e1 e2;rw[<-Tk.getD_in hlt,<-HZ.out] at g1;by_cases z1:z=175
        ·have q1:(z==175)=true:=by rw[z1];rfl
         have hd:b6=true:=HB6.out.2 (.inr z1);clear z1;go_wp2_with fail
         refine HLT2.out.mono ?_;rintro e' w' ⟨rfl,rfl⟩;go_wp2_with fail
         go_meet
         exact⟨rfl,by rw[hd],rfl⟩
        have q1:(z==175)=false:=beq_eq_false_iff_ne.2 z1;have hd:b6=false:=by rw[Bool.eq_false_iff];intro h;exact(HB6.out.1 h).elim (λh=>by cases HWD.out.1 h) z1
        clear z1;go_wp2_with fail
        refine HLT2.out.mono ?_;rintro e' w' ⟨rfl,rfl⟩;go_wp2_with fail
        go_meet
        exact⟨rfl,by rw[hd],rfl⟩
       have hz1:z= -1:=by rw[HZ.out,List.getD_eq_getElem?_getD,List.getElem?_eq_none (by omega)];rfl
       have hd:b6=false:=by rw[Bool.eq_false_iff];intro h;exact(HB6.out.1 h).elim (λh=>by cases HWD.out.1 h) (λh=>by omega)
       clear hz1;go_wp2_with fail
       refine HLT2.out.mono ?_;rintro e' w' ⟨rfl,rfl⟩;go_wp2_with fail
       go_meet
       exact⟨rfl,by rw[hd],rfl⟩
      have hd:b6=true:=HB6.out.2 (.inl (HWD.out.2 rfl));go_wp2_with fail
      refine HLT2.out.mono ?_;rintro e' w' ⟨rfl,rfl⟩;go_wp2_with fail
      go_meet
      exact⟨rfl,by rw[hd],rfl⟩
     case rest=>
      obtain⟨rfl,rfl,rfl⟩:=hcut
      rename World=>W
      cases b6
      ·rw[if_neg (λh=>by cases HB6.out.2 h)] at HNL
       have HER:=Qd (Y3 HC.out HNL.out);have HOK:=Qd (R6 HC.out HNL.out);have HL2:Hid (Lies W W.heap.size (some ⟨b,off+i,none⟩) (Sa ((l.drop i).take (e-i)))):=Qd (M3 HL.out i (e-i) (by omega) _ (λb' off' e=>by injection e with e;injection e with e1 e2;subst e1 e2;rfl));have EN:=Qd (λ(c':Nat)=>Hn (some ⟨b,off+i,none⟩) c' ((l.drop i).take (e-i)) W HL2.out (by simp;omega) (λy hy=>HM.out y (List.mem_of_mem_drop (List.mem_of_mem_take hy))));have hlen:((l.drop i).take (e-i)).length=e-i:=by simp;omega
       have hsl:=Ku ((l.drop i).take (e-i));rw[hlen] at EN hsl;have PA:=Qd (λwx=>X3 (Tk.enc ((l.drop i).take (e-i))) wx (by omega));have HEN:Hid (e=i+(e-i)):=Qd (by omega);clear hsl hlen HL2 HLT2 HWD HB6 HZ HNL;generalize Dg.parse (Tk.enc ((l.drop i).take (e-i)))=R at*;go_wp2_with fail
       refine(EN.out _).mono ?_;rintro e' w3 ⟨rfl,hb3⟩;go_wp2_with fail
       refine(PA.out w3).mono ?_;rintro e' w4 ⟨t,u,rfl,h1,h2,hb4⟩;obtain⟨⟨rn,rt,rb⟩,re⟩:=R;simp only at h1 h2 HER HOK⊢;have h1':=Qd h1;have h2':=Qd h2;obtain⟨A1,c1,rfl,p1,p2,p3,p4⟩:=h1;obtain⟨A2,c2,rfl,p5,p6,p7,p8⟩:=h2;clear p1 p2 p3 p4 p5 p6 p7 p8;have hb5:Below W.heap.size W w4:=hb3.trans (hb4.mono hb3.size);have HGN:Hid ((w4.alloc (.cells #[.bool false,.slice none 0 0,.slice none 0 0] 24)).heap[w4.heap.size]? =some (.cells #[.bool false,.slice none 0 0,.slice none 0 0] 24 (0,0))):=Qd (heap_alloc_new w4 _);have HGN6:Hid (((w4.alloc (.cells #[.bool false,.slice none 0 0,.slice none 0 0] 24)).setRow w4.heap.size #[.bool rn,.slice A1 rt.length c1,.slice A2 rb.length c2]).heap[w4.heap.size]? =some (.cells #[.bool rn,.slice A1 rt.length c1,.slice A2 rb.length c2] 24 (0,0))):=Qd (Eb HGN.out);have hb6:Below W.heap.size W ((w4.alloc (.cells #[.bool false,.slice none 0 0,.slice none 0 0] 24)).setRow w4.heap.size #[.bool rn,.slice A1 rt.length c1,.slice A2 rb.length c2]):=rBelow.setRow (hb5.alloc hb5.size _) hb5.size _;have HG6:Hid (((w4.alloc (.cells #[.bool false,.slice none 0 0,.slice none 0 0] 24)).setRow w4.heap.size #[.bool rn,.slice A1 rt.length c1,.slice A2 rb.length c2]).heap[w.heap.size]? =some (.cells #[.int .i64 0,.bool false,.slice none 0 0,.slice none 0 0,.slice none 0 0,.string ⟨#[]⟩,.int .i64 0,.int .i64 0] 54 (0,0))):=Qd ((hb6.block w.heap.size (by rw[HWS.out];omega)).trans HGA.out);have R1:Hid (IsRes (((w4.alloc (.cells #[.bool false,.slice none 0 0,.slice none 0 0] 24)).setRow w4.heap.size #[.bool rn,.slice A1 rt.length c1,.slice A2 rb.length c2])) (.slice A1 rt.length c1) rt):=Qd ((h1'.out.below (Br.alloc Lr _)).setRowU HGN.out P9 _);have R2:Hid (IsRes (((w4.alloc (.cells #[.bool false,.slice none 0 0,.slice none 0 0] 24)).setRow w4.heap.size #[.bool rn,.slice A1 rt.length c1,.slice A2 rb.length c2])) (.slice A2 rb.length c2) rb):=Qd ((h2'.out.below (Br.alloc Lr _)).setRowU HGN.out P9 _);have HB6':=Qd hb6;clear hb3 hb4 hb5 hb6 h1' h2' PA EN;by_cases hre:re=0
       ·subst hre
        have HRE:Hid (Tk.read l i=(⟨0,⟨rn,rt,rb⟩,[],[],0,i⟩,e-i,0)):=Qd (HOK.out rfl);go_wp2_with (first|(with_reducible refine wpList_store_row rfl 24 (.tmp 10) (.tmp 89) rfl w4.heap.size #[.bool rn,.slice A1 rt.length c1,.slice A2 rb.length c2] rfl rfl 24 #[.bool false,.slice none 0 0,.slice none 0 0] HGN.out (Pp _ _ _) rfl (Fj _ _ _ _ _ _ _) ?_) |(with_reducible refine wpList_load_row rfl 24 (.tmp 10) rfl w4.heap.size rfl 24 #[.bool rn,.slice A1 rt.length c1,.slice A2 rb.length c2] (0,0) _ HGN6.out Tryz.underlying24 rfl (Pp _ _ _) ?_) |(with_reducible refine Hg rfl (.tmp 4) (.tmp 96) rfl w.heap.size rfl rfl HG6.out ?_))
        refine Of (by rfl) (by rfl) (by rfl) (by rfl) rfl HG6.out (HR.out _ _ ?_);rw[HRE.out];show Og w _ (i+(e-i)) 0 _ _;rw[<-HEN.out];exact⟨_,_,_,rfl,R1.out.setRowU HG6.out Tq _,R2.out.setRowU HG6.out Tq _,World.ownsRow_nil _ _ _ _,rBelow.setRow (hb0.trans (HB6'.out.mono (by rw[HWS.out];omega))) Lr _⟩
       have HRE:Hid (Tk.read l i=(Tk.none_,0,re)):=Qd (HER.out hre);have HRE0:=Qd hre;have q1:(re==0)=false:=beq_eq_false_iff_ne.2 hre;have q2:(re !=0)=true:=by rw[bne,q1];rfl
       clear hre;go_wp2_with (first|(with_reducible refine wpList_store_row rfl 24 (.tmp 10) (.tmp 89) rfl w4.heap.size #[.bool rn,.slice A1 rt.length c1,.slice A2 rb.length c2] rfl rfl 24 #[.bool false,.slice none 0 0,.slice none 0 0] HGN.out (Pp _ _ _) rfl (Fj _ _ _ _ _ _ _) ?_) |(with_reducible refine Hg rfl (.tmp 4) (.tmp 93) rfl w.heap.size rfl rfl HG6.out ?_))
       refine Of (by rfl) (by rfl) (by rfl) (by rfl) rfl HG6.out (HR.out _ _ ?_);rw[HRE.out];show Og w _ (if re=0 then _ else 0) _ _ _;rw[if_neg HRE0.out];exact⟨_,_,_,rfl,Ga _,Ga _,World.ownsRow_nil _ _ _ _,rBelow.setRow (hb0.trans (HB6'.out.mono (by rw[HWS.out];omega))) Lr _⟩
      have HRE:Hid (Tk.read l i=(Tk.none_,0,1)):=Qd (Eo HC.out (by rw[HNL.out,if_pos (HB6.out.1 rfl)]));go_wp2_with (with_reducible refine Hg rfl (.tmp 4) (.tmp 77) rfl w.heap.size rfl rfl HGA.out ?_)
      refine Of (by rfl) (by rfl) (by rfl) (by rfl) rfl HGA.out (HR.out _ _ ?_);rw[HRE.out];exact⟨_,_,_,rfl,Ga _,Ga _,World.ownsRow_nil _ _ _ _,rBelow.setRow hb0 Lr _⟩
theorem Uv {l:List Int}{i:Nat}(hc:l.getD i (-1)=39)(h:Tk.quote l (l.length+1) (i+1) []=none):Tk.read l i=(Tk.none_,0,1):=by
 unfold Tk.read;simp only;rw[if_neg (by rw[hc];decide),if_neg (by rw[hc];decide),if_pos hc,h]
theorem Gm {l:List Int}{i e:Nat}{t:List Int}(hc:l.getD i (-1)=39)(h:Tk.quote l (l.length+1) (i+1) []=some (t,e)):Tk.read l i=(⟨1,Rt.none_,t,[],0,i⟩,e-i,0):=by
 unfold Tk.read;simp only;rw[if_neg (by rw[hc];decide),if_neg (by rw[hc];decide),if_pos hc,h]
theorem Zfa {l:List Int}{f k:Nat}{out:List Int}(h:l.length<=k):Tk.quote l f k out=none:=by
 cases f with
 |zero=>rfl
 |succ f=>unfold Tk.quote;rw[if_pos h]
theorem Hja {l:List Int}{f k:Nat}{out:List Int}(h:k<l.length)(h2:l.getD k (-1)≠39):Tk.quote l (f+1) k out=Tk.quote l f (k+1) (out++[l.getD k (-1)]):=by
 rw[Tk.quote,if_neg (by omega),if_pos h2]
theorem Lu {l:List Int}{f k:Nat}{out:List Int}(h:k<l.length)(h2:l.getD k (-1)=39)(h3:l.getD (k+1) (-1)≠39):Tk.quote l (f+1) k out=some (out,k+1):=by
 rw[Tk.quote,if_neg (by omega),if_neg (λn=>n h2),if_pos h3]
theorem Aga {l:List Int}{f k:Nat}{out:List Int}(h:k<l.length)(h2:l.getD k (-1)=39)(h3:l.getD (k+1) (-1)=39):Tk.quote l (f+1) k out=Tk.quote l f (k+2) (out++[39]):=by
 rw[Tk.quote,if_neg (by omega),if_neg (λn=>n h2),if_neg (λn=>n h3)]
theorem Mu {w:World}{base:Nat}{e:TypeId}{size n:Nat}{v:Value}{xs:List Value}(h:w.ownsRow base e size v n xs){g':Nat}(hg:g'<base)(cs:Array Value):(w.setRow g' cs).ownsRow base e size v n xs:=by
 obtain⟨h1,h2⟩:=h;refine⟨h1,?_⟩;rcases h2 with h2 |⟨g,cap,cur,hv,hb,hh,r⟩
 ·exact .inl h2
 exact .inr ⟨g,cap,cur,hv,hb,by rw[<-hh];simp only[World.setRow,Array.getElem?_modify];rw[if_neg (by omega)],r⟩
theorem Bk {w w':World}{base:Nat}{e:TypeId}{size n:Nat}{v:Value}{xs:List Value}(h:w.ownsRow base e size v n xs)(hb:Below w.heap.size w w'):w'.ownsRow base e size v n xs:=by
 obtain⟨h1,h2⟩:=h;refine⟨h1,?_⟩;rcases h2 with h2 |⟨g,cap,cur,hv,hbs,hh,r⟩
 ·exact .inl h2
 have hg:g<w.heap.size:=by
  rcases Nat.lt_or_ge g w.heap.size with h |h
  ·exact h
  rw[Array.getElem?_eq_none h] at hh;cases hh
 exact .inr ⟨g,cap,cur,hv,hbs,(hb.block g hg).trans hh,r⟩
theorem S6 {w:World}{base:Nat}{e:TypeId}{size n:Nat}{v:Value}{xs:List Value}(h:w.ownsRow base e size v n xs){a:Addr}(hg:a.block<base)(u:Value):(w.setCell a u).ownsRow base e size v n xs:=by
 obtain⟨h1,h2⟩:=h;refine⟨h1,?_⟩;rcases h2 with h2 |⟨g,cap,cur,hv,hb,hh,r⟩
 ·exact .inl h2
 exact .inr ⟨g,cap,cur,hv,hb,(Below.heap_setCell w a u g (by omega)).trans hh,r⟩
structure E4 (l:List Int) (i:Nat) (W wr:World) (m:Nat) (out:List Int) (lv:Value):Prop where
 lo:i+1<=m
 hi:m<=l.length
 blk:wr.heap[W.heap.size]? =some (.cells #[.int .i64 1,.bool false,.slice none 0 0,.slice none 0 0,lv,.string ⟨#[]⟩,.int .i64 0,.int .i64 0] 54 (0,0))
 own:wr.ownsRow (W.heap.size+1) 3 1 lv out.length (Sa out)
 below:Below W.heap.size W wr
 more:W.heap.size+1<=wr.heap.size
 len:out.length+(i+1)<=m
 told:∃f,l.length+1<=f+m/\Tk.quote l (l.length+1) (i+1) []=Tk.quote l f m out
theorem Ija (x:Int):Instr.fill (λi=>some (i*1,1)) ((Array.range (1*1)).map λk=>(Value.int IntKind.i64 0).cells[k%(Value.int IntKind.i64 0).cells.size]!) [(0,Value.int IntKind.i64 x)]=some #[Value.int IntKind.i64 x]:=by kernel_rfl
def Gd (V0 vi p4 p7 v8:Value)(u xs:Nat->Value):Act:={tmps:= #[V0,vi,undef,undef,p4,u 5,u 6,p7,v8,u 9,u 10,u 11,u 12,u 13,u 14,u 15,u 16,u 17,u 18,u 19,u 20,u 21,u 22,u 23,u 24,u 25,u 26,u 27,u 28,u 29,u 30,u 31,u 32,u 33,u 34,u 35,u 36,u 37,u 38,u 39,u 40,xs 0,xs 1,xs 2,xs 3,xs 4,xs 5,xs 6,u 48,u 49,u 50],defers:=[]}
def Noa (V0:Value)(g1 b o:Nat)(m x:Int)(lv:Value):Nat->World->Value->Prop
 | 0,w,v=>v= .pointer (some ⟨g1,4,none⟩)
 | 1,w,v=>v=lv
 | 2,w,v=>v=V0
 | 3,w,v=>v= .int .i64 m
 | 4,w,v=>v= .pointer (some ⟨b,o,none⟩)
 | 5,w,v=>v= .int .i64 x
 |_,w,v=>∃g,v= .slice (some ⟨g,0,none⟩) 1 1/\w.heap[g]? =some (.cells #[.int .i64 x] 3 (0,0))
theorem U6 (A:Option Addr)(c:Nat)(l:List Int)(i:Nat)(w:World)(hl:Lies w w.heap.size A (Sa l))(hn:l.length<=25000)(hcap:l.length<=c)(hi:i<l.length)(hc:l.getD i (-1)=39):
 Calls Tryz.prog 83 #[.slice A l.length c,.int .i64 (i:Int)] w (Vc w l i):=by
 have HR:Hid (∀e w',Og w (Tk.read l i).1 (if(Tk.read l i).2.2=0 then i+(Tk.read l i).2.1 else 0) (Tk.read l i).2.2 e w'->Vc w l i e w'):=Qd (λe w' h=>h);obtain⟨W,hW⟩:∃W,W=w.alloc (.cells #[.int .i64 0,.bool false,.slice none 0 0,.slice none 0 0,.slice none 0 0,.string ⟨#[]⟩,.int .i64 0,.int .i64 0] 54):=⟨_,rfl⟩;have hb0:Below w.heap.size w W:=by rw[hW];exact Br.alloc Lr _
 have HGA:Hid (W.heap[w.heap.size]? =some (.cells #[.int .i64 0,.bool false,.slice none 0 0,.slice none 0 0,.slice none 0 0,.string ⟨#[]⟩,.int .i64 0,.int .i64 0] 54 (0,0))):=Qd (by rw[hW];exact heap_alloc_new w _);have HWS:Hid (W.heap.size=w.heap.size+1):=Qd (by rw[hW];simp);have hlW:Lies W W.heap.size A (Sa l):=(hl.below hb0).more hb0.size;obtain⟨W2,hW2⟩:∃W2,W2=W.alloc (.cells #[.int .i64 1,.bool false,.slice none 0 0,.slice none 0 0,.slice none 0 0,.string ⟨#[]⟩,.int .i64 0,.int .i64 0] 54):=⟨_,rfl⟩;have H0:Hid (E4 l i W W2 (i+1) [] (.slice none 0 0)):=Qd
  { lo:=Lr
    hi:=hi
    blk:=by rw[hW2];exact heap_alloc_new W _
    own:=World.ownsRow_nil _ _ _ _
    below:=by rw[hW2];exact Br.alloc Lr _
    more:=by rw[hW2];simp
    len:=by simp
    told:=⟨l.length+1,by omega,rfl⟩}
 have HL:=Qd hlW;have HC:=Qd hc;have HW:Hid (W=w.alloc (.cells #[.int .i64 0,.bool false,.slice none 0 0,.slice none 0 0,.slice none 0 0,.string ⟨#[]⟩,.int .i64 0,.int .i64 0] 54)):=Qd hW;have HW2:Hid (W2=W.alloc (.cells #[.int .i64 1,.bool false,.slice none 0 0,.slice none 0 0,.slice none 0 0,.string ⟨#[]⟩,.int .i64 0,.int .i64 0] 54)):=Qd hW2;obtain⟨b,off,rfl,hb,g0⟩:=Hb hlW hi;clear hl hlW hc hW hW2 g0;go_enter Tryz.func83,Tryz.ntmps83
 go_upto_region 1 with fail
 rw[<-HW.out];go_upto_region 2 with fail
 rw[<-HW2.out];go_wp2_with fail
 go_loopw [8] (λiv wr=>∃(m:Nat) (out:List Int) (lv:Value),iv= .int .i64 (m:Int)/\Hid (E4 l i W wr m out lv)) (λiv _=>l.length-(intOf iv).toNat)
 case atStart=>exact⟨i+1,[],_,by go_num,H0⟩
 case round=>
  clear H0 HW HW2;obtain⟨m,out,lv,rfl,HT⟩:=hrel;have hm1:=HT.out.lo;have hm2:=HT.out.hi;have HGR:Hid (wr.heap[w.heap.size]? =some (.cells #[.int .i64 0,.bool false,.slice none 0 0,.slice none 0 0,.slice none 0 0,.string ⟨#[]⟩,.int .i64 0,.int .i64 0] 54 (0,0))):=Qd ((HT.out.below.block w.heap.size (by rw[HWS.out];omega)).trans HGA.out);obtain⟨AL,cL,rfl,hL1,hL2⟩:=Kb HT.out.own;have HBK:=Qd HT.out.blk;by_cases hlt:m<l.length
  ·have hbl:=HT.out.below
   obtain⟨b',off',e1,hb',g1⟩:=Hb (HL.out.below hbl) hlt;injection e1 with e1
   injection e1 with e1 e2
   subst e1 e2;obtain⟨y,hy⟩:∃y,y=l.getD m (-1):=⟨_,rfl⟩;rw[<-Tk.getD_in hlt,<-hy] at g1;have HY:=Qd hy;clear hy hL1 hL2;go_upto_if 22 with fail
   go_cut [8] from 12 to 49 (λx8 wx=>wx=wr/\∃m':Nat,x8= .int .i64 (m':Int)/\m'<l.length/\m<=m'/\Hid (∃f,l.length+1<=f+(m'+1)/\Tk.quote l (l.length+1) (i+1) []=Tk.quote l f (m'+1) (out++[l.getD m' (-1)])))
   case first=>
    by_cases y1:y=39
    ·have q1:(y==39)=true:=by rw[y1];rfl
     by_cases hend:m+1=l.length
     ·have q2:((m:Int)+1==(l.length:Int))=true:=by rw[beq_iff_eq];omega
      have HRE:Hid (Tk.read l i=(⟨1,Rt.none_,out,[],0,i⟩,m+1-i,0)):=Qd (Gm HC.out (by obtain⟨f,hf,hq⟩:=HT.out.told;obtain⟨f,rfl⟩:∃f',f=f'+1:=⟨f-1,by omega⟩;rw[hq,Lu hlt (by rw[<-HY.out];exact y1) (by rw[List.getD_eq_getElem?_getD,List.getElem?_eq_none (by omega)];simp)]));clear y1 hbl hb' hend;go_wp2_with (first|(with_reducible refine M9 rfl (.tmp 7) rfl W.heap.size rfl HBK.out ?_) |(with_reducible refine Hg rfl (.tmp 4) (.tmp 36) rfl w.heap.size rfl rfl HGR.out ?_))
      refine Of (by rfl) (by rfl) (by rfl) (by rfl) rfl HGR.out (HR.out _ _ ?_);rw[HRE.out];show Og w _ (i+(m+1-i)) 0 _ _;rw[show i+(m+1-i)=m+1 by omega];exact⟨_,_,_,rfl,Ga _,Ga _,(Mu HT.out.own (by rw[HWS.out];omega) _).mono_ (Nat.zero_le _),rBelow.setRow (hb0.trans (HT.out.below.mono (by rw[HWS.out];omega))) Lr _⟩
     have q2:((m:Int)+1==(l.length:Int))=false:=beq_eq_false_iff_ne.2 (by omega);have hlt2:m+1<l.length:=by omega
     obtain⟨b',off',e1,hb2,g2⟩:=Hb (HL.out.below hbl) hlt2;injection e1 with e1
     injection e1 with e1 e2
     subst e1 e2;obtain⟨z,hz⟩:∃z,z=l.getD (m+1) (-1):=⟨_,rfl⟩;rw[<-Tk.getD_in hlt2,<-hz] at g2;have HZ:=Qd hz;clear hz;by_cases z1:z=39
     ·have q3:(z==39)=true:=by rw[z1];rfl
      have q4:(z !=39)=false:=by rw[bne,q3];rfl
      have HQ:Hid (∃f,l.length+1<=f+(m+1+1)/\Tk.quote l (l.length+1) (i+1) []=Tk.quote l f (m+1+1) (out++[l.getD (m+1) (-1)])):=Qd (by
       obtain⟨f,hf,hq⟩:=HT.out.told;obtain⟨f,rfl⟩:∃f',f=f'+1:=⟨f-1,by omega⟩;exact⟨f,by omega,by rw[hq,Aga hlt (by rw[<-HY.out];exact y1) (by rw[<-HZ.out];exact z1),<-HZ.out,z1]⟩)
      clear y1 z1 hbl hb' hb2 hend;go_wp2_with fail
      go_meet
      exact⟨rfl,m+1,by go_num,hlt2,by omega,HQ⟩
     have q3:(z==39)=false:=beq_eq_false_iff_ne.2 z1;have q4:(z !=39)=true:=by rw[bne,q3];rfl
     have HRE:Hid (Tk.read l i=(⟨1,Rt.none_,out,[],0,i⟩,m+1-i,0)):=Qd (Gm HC.out (by obtain⟨f,hf,hq⟩:=HT.out.told;obtain⟨f,rfl⟩:∃f',f=f'+1:=⟨f-1,by omega⟩;rw[hq,Lu hlt (by rw[<-HY.out];exact y1) (by rw[<-HZ.out];exact z1)]));clear y1 z1 hbl hb' hb2 hend;go_wp2_with (first|(with_reducible refine M9 rfl (.tmp 7) rfl W.heap.size rfl HBK.out ?_) |(with_reducible refine Hg rfl (.tmp 4) (.tmp 36) rfl w.heap.size rfl rfl HGR.out ?_))
     refine Of (by rfl) (by rfl) (by rfl) (by rfl) rfl HGR.out (HR.out _ _ ?_);rw[HRE.out];show Og w _ (i+(m+1-i)) 0 _ _;rw[show i+(m+1-i)=m+1 by omega];exact⟨_,_,_,rfl,Ga _,Ga _,(Mu HT.out.own (by rw[HWS.out];omega) _).mono_ (Nat.zero_le _),rBelow.setRow (hb0.trans (HT.out.below.mono (by rw[HWS.out];omega))) Lr _⟩
    have q1:(y==39)=false:=beq_eq_false_iff_ne.2 y1;have HQ:Hid (∃f,l.length+1<=f+(m+1)/\Tk.quote l (l.length+1) (i+1) []=Tk.quote l f (m+1) (out++[l.getD m (-1)])):=Qd (by
     obtain⟨f,hf,hq⟩:=HT.out.told;obtain⟨f,rfl⟩:∃f',f=f'+1:=⟨f-1,by omega⟩;exact⟨f,by omega,by rw[hq,Hja hlt (by rw[<-HY.out];exact y1)]⟩)
    clear y1 hbl hb';go_wp2_with fail
    go_meet
    exact⟨rfl,m,rfl,hlt,Lr,HQ⟩
   case rest=>
    obtain⟨hwx,m',rfl,hm3,hm4,HQ⟩:=hcut;rw[hwx];clear hwx;obtain⟨b',off',e1,hb2,g2⟩:=Hb (HL.out.below hbl) hm3;injection e1 with e1
    injection e1 with e1 e2
    subst e1 e2;obtain⟨x,hx⟩:∃x,x=l.getD m' (-1):=⟨_,rfl⟩;rw[<-Tk.getD_in hm3,<-hx] at g2;have HX:=Qd hx;have hgl:W.heap.size<wr.heap.size:=by have:=HT.out.more;omega
    have hc4:wr.cell? ⟨W.heap.size,4,none⟩=some (.slice AL out.length cL):=(cell_of_row wr W.heap.size 4 _ _ _ HT.out.blk).trans rfl;have HQ1:Hid (∀w1,Below wr.heap.size wr w1->w1.cell? ⟨W.heap.size,4,none⟩=some (.slice AL out.length cL)):=Qd (λw1 h=>(h.cell hgl).trans hc4);have hbw:b<wr.heap.size:=by omega
    have HQ2:Hid (∀w1,Below wr.heap.size wr w1->w1.cell? ⟨b,off+m',none⟩=some (.int .i64 x)):=Qd (λw1 h=>(h.cell hbw).trans g2);clear hx hc4 g1 g2 hbl hb' hb2;go_upto_region 9 with fail
    refine Lv (Gd (.slice (some ⟨b,off,none⟩) l.length c) (.int .i64 (i:Int)) (.pointer (some ⟨w.heap.size,0,none⟩)) (.pointer (some ⟨W.heap.size,0,none⟩)) (.int .i64 (m':Int)) (λk=>[undef,undef,undef,undef,undef,u5,u6,undef,undef,.agg #[.int .i64 1,.bool false,.slice none 0 0,.slice none 0 0,.slice none 0 0,.string ⟨#[]⟩,.int .i64 0,.int .i64 0],.int .i64 (i:Int),.int .i64 ((i:Int)+1),u12,u13,u14,u15,u16,u17,u18,u19,u20,u21,u22,u23,u24,u25,u26,u27,u28,u29,u30,u31,u32,u33,u34,u35,u36,u37,u38,u39,u40,u41,u42,u43,u44,u45,u46,u47,u48,u49,undef].getD k undef)) wr (Noa (.slice (some ⟨b,off,none⟩) l.length c) W.heap.size b (off+m') (m':Int) x (.slice AL out.length cL)) 7 (by kernel_rfl) (by decide) ?_ (by kernel_rfl) 5 (by kernel_rfl) (λk=>[u41,u42,u43,u44,u45,u46,u47].getD k undef) rfl Br ?_ ?_
    ·intro i w1 w2 v hv hb
     match i with
     | 0=>exact hv
     | 1=>exact hv
     | 2=>exact hv
     | 3=>exact hv
     | 4=>exact hv
     | 5=>exact hv
     |i+6=>exact(by
      obtain⟨g,e,r⟩:=hv;have hg:g<w1.heap.size:=by
       rcases Nat.lt_or_ge g w1.heap.size with h |h
       ·exact h
       rw[Array.getElem?_eq_none h] at r;cases r
      exact⟨g,e,(hb.block g hg).trans r⟩)
    ·intro k xs w1 hk hb hdep
     rcases(show k=0\/k=1\/k=2\/k=3\/k=4\/k=5\/k=6 by omega) with rfl |rfl |rfl |rfl |rfl |rfl |rfl
     ·refine Ca rfl rfl ?_
      unfold Gd Oper.wp;go_simp
      exact⟨_,by simp only[Gd,Ja];simp[Act.put],rfl,Br⟩
     ·have h0:xs 0= .pointer (some ⟨W.heap.size,4,none⟩):=hdep 0 (by kernel_rfl)
      have hq:=HQ1.out w1 hb;refine Ca rfl rfl ?_;unfold Gd Oper.wp;simp only[h0];go_simp
      exact⟨_,by simp only[Gd,Ja];simp[Act.put,h0],rfl,Br⟩
     ·refine Ca rfl rfl ?_
      unfold Gd Oper.wp;go_simp
      exact⟨_,by simp only[Gd,Ja];simp[Act.put],rfl,Br⟩
     ·refine Ca rfl rfl ?_
      unfold Gd Oper.wp;go_simp
      exact⟨_,by simp only[Gd,Ja];simp[Act.put],rfl,Br⟩
     ·have h2:xs 2=(.slice (some ⟨b,off,none⟩) l.length c):=hdep 2 (by kernel_rfl)
      have h3:xs 3= .int .i64 (m':Int):=hdep 3 (by kernel_rfl);refine Ca rfl rfl ?_;unfold Gd Oper.wp;simp only[h2,h3];go_simp
      exact⟨_,by simp only[Gd,Ja];simp[Act.put,h2,h3],rfl,Br⟩
     ·have h4:xs 4= .pointer (some ⟨b,off+m',none⟩):=hdep 4 (by kernel_rfl)
      have hq:=HQ2.out w1 hb;refine Ca rfl rfl ?_;unfold Gd Oper.wp;simp only[h4];go_simp
      exact⟨_,by simp only[Gd,Ja];simp[Act.put,h4],rfl,Br⟩
     have h5:xs 5= .int .i64 x:=hdep 5 (by kernel_rfl);obtain⟨i0,hi0,hz0,hz1,hz2⟩:=info_parts Gn;refine Ca rfl rfl ?_;refine wp_buildSlice 25 3 1 #[(0,.tmp 46)] rfl #[.int .i64 x] i0 (.int .i64 0) Tryz.underlying25 hi0 hz0 (by rw[hz1];decide) (by rw[hz1];decide) (by
      rw[hz1];have h5':(Gd (.slice (some ⟨b,off,none⟩) l.length c) (.int .i64 (i:Int)) (.pointer (some ⟨w.heap.size,0,none⟩)) (.pointer (some ⟨W.heap.size,0,none⟩)) (.int .i64 (m':Int)) (λk=>[undef,undef,undef,undef,undef,u5,u6,undef,undef,.agg #[.int .i64 1,.bool false,.slice none 0 0,.slice none 0 0,.slice none 0 0,.string ⟨#[]⟩,.int .i64 0,.int .i64 0],.int .i64 (i:Int),.int .i64 ((i:Int)+1),u12,u13,u14,u15,u16,u17,u18,u19,u20,u21,u22,u23,u24,u25,u26,u27,u28,u29,u30,u31,u32,u33,u34,u35,u36,u37,u38,u39,u40,u41,u42,u43,u44,u45,u46,u47,u48,u49,undef].getD k undef) xs).eval (.tmp 46)= .int .i64 x:=h5;simp only[List.map_toArray,List.map_cons,List.map_nil,h5'];exact Ija x) ?_
     exact⟨_,by simp only[Gd,Ja];simp[Act.put],⟨w1.heap.size,rfl,heap_alloc_new w1 _⟩,Br.alloc Lr _⟩
    intro xs w1 hb hR;have h0:xs 0= .pointer (some ⟨W.heap.size,4,none⟩):=hR 0 (by decide);have h1:xs 1= .slice AL out.length cL:=hR 1 (by decide);obtain⟨g,h6,hg6⟩:∃g,xs 6= .slice (some ⟨g,0,none⟩) 1 1/\w1.heap[g]? =some (.cells #[.int .i64 x] 3 (0,0)):=hR 6 (by decide);obtain⟨i0,hi0,hz0,hz1,hz2⟩:=info_parts Gn;have hown1:=Bk HT.out.own hb;have hlen:=HT.out.len;have hmax:(maxLen:Nat)=9223372036854775807:=rfl;show Wo _ _ _ 3 7 _ w1;refine Ca rfl rfl ?_;refine wp_append_own w1 (.tmp 42) (.tmp 47) 25 rfl (W.heap.size+1) 3 i0 (.int .i64 0) 1 8 Tryz.underlying25 hi0 hz0 hz1 hz2 rfl (by decide) (.slice AL out.length cL) out.length (Sa out) h1 hown1 ⟨g,0,none⟩ 1 1 [.int .i64 x] h6 rfl ?_ ?_ (by omega) (by omega) (by have:=HT.out.more;have:=hb.size;omega) ?_
    ·intro j u hu
     cases j with
     |zero=>
      injection hu with hu
      subst hu;exact(cell_of_row w1 g 0 _ _ _ hg6).trans rfl
     |succ j=>cases hu
    ·intro u hu
     rw[List.mem_singleton] at hu;subst hu;rfl
    intro v' w2 hown2 hgr hiff;have hne:some W.heap.size≠(Value.slice AL out.length cL).ownBlock:=by
     rcases HT.out.own.2 with⟨hv,_⟩ |⟨g',cap,cur,hv,hbs,_⟩
     ·injection hv with e1
      subst e1;simp[Value.ownBlock]
     injection hv with e1
     rw[e1];simp only[Value.ownBlock];intro h;injection h with h
     omega
    have hBK2:=(hgr.block W.heap.size (by have:=hb.size;omega) hne).trans ((hb.block W.heap.size hgl).trans HT.out.blk);have hc4:w2.cell? ⟨W.heap.size,4,none⟩=some (.slice AL out.length cL):=(cell_of_row w2 W.heap.size 4 _ _ _ hBK2).trans rfl;have hf4:w2.frozen? ⟨W.heap.size,4,none⟩=false:=by simp[World.frozen?,hBK2]
    obtain⟨A2,c2,rfl,k1,k2⟩:=Kb hown2;refine Ca rfl rfl ?_;unfold Gd Oper.wp;go_simp
    refine Ca rfl rfl ?_;unfold Oper.wp;go_simp
    have HN:Hid (E4 l i W (w2.setCell ⟨W.heap.size,4,none⟩ (.slice A2 (out.length+1) c2)) (m'+1) (out++[x]) (.slice A2 (out.length+1) c2)):=Qd
     { lo:=by omega
       hi:=by omega
       blk:=Blk.set_ (w:=w2) (g:=W.heap.size) (vs:=[.int .i64 1,.bool false,.slice none 0 0,.slice none 0 0,.slice AL out.length cL,.string ⟨#[]⟩,.int .i64 0,.int .i64 0]) hBK2 4 _
       own:=by
        have h:=S6 hown2 (a:=⟨W.heap.size,4,none⟩) (Nat.lt_succ_self _) (.slice A2 (out.length+1) c2);have e1:Sa (out++[x])=Sa out++[.int .i64 x]:=by simp[Sa]
        have e2:(out++[x]).length=out.length+1:=by simp
        rw[e1,e2];exact h
       below:=by
        have h1:=(HT.out.below.trans (hb.mono (Nat.le_of_lt hgl))).grown hgr (by have:=hb.size;omega) (by
         intro k hk;rcases HT.out.own.2 with⟨hv,_⟩ |⟨g',cap,cur,hv,hbs,_⟩
         ·injection hv with e1
          subst e1;cases hk
         injection hv with e1
         subst e1;injection hk with hk
         have hk:g'=k:=hk;omega)
        exact h1.setCell Lr _
       more:=by
        have h1:=hgr.size;have h2:=hb.size;have h3:=HT.out.more;simp only[World.setCell,Array.size_modify];omega
       len:=by simp;omega
       told:=by rw[HX.out];exact HQ.out}
    clear hBK2 hc4 hf4 hown2 hown1 hgr hiff hne hR;unfold Wo;go_wp2_with fail
    go_round
    case rel=>
     exact⟨m'+1,out++[x],.slice A2 (out.length+1) c2,by go_num,HN⟩
    case measure=>simp[intOf];omega
  have hme:m=l.length:=by omega
  have HRE:Hid (Tk.read l i=(Tk.none_,0,1)):=Qd (Uv HC.out (by obtain⟨f,_,hq⟩:=HT.out.told;rw[hq,Zfa (by omega)]));have HBL:=Qd HT.out.below;clear hL1 hL2;go_wp2_with (with_reducible refine Hg rfl (.tmp 4) (.tmp 50) rfl w.heap.size rfl rfl HGR.out ?_)
  refine Of (by rfl) (by rfl) (by rfl) (by rfl) rfl HGR.out (HR.out _ _ ?_);rw[HRE.out];exact⟨_,_,_,rfl,Ga _,Ga _,World.ownsRow_nil _ _ _ _,rBelow.setRow (hb0.trans (HBL.out.mono (by rw[HWS.out];omega))) Lr _⟩
end Go.Proofs.YtceplkpjnebnfaaGreatDoor
