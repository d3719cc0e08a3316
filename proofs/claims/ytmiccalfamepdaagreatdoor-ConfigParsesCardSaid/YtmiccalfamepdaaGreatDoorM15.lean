/- Texts of this proof, joined. -/
import Derived.Test.YtmiccalfamepdaaGreatDoorM14
import Derived.TacticsInMore
import Derived.LoopNIn
import Derived.LoopIn
import Derived.BigFrameIn
import Derived.Shelf.RegionOpen
import Derived.Laws.EntriesVeiled
set_option linter.all false
set_option maxHeartbeats 8000000
set_option maxRecDepth 100000
namespace Go.Proofs.YtmiccalfamepdaaGreatDoor
open Go.RowKit
def Gi (w:World)(r:Nat):Nat:=match w.cell? ⟨r,0,none⟩ with
 |some (.string s)=>s.size
 |_=>0
theorem Pk {w:World}{r:Nat}{s:List UInt8}(h:IsReader w r s):Gi w r=s.length:=by unfold Gi;rw[h.cell];rfl
theorem Jea (fn:Fn)(bs cs:Array Value)(w:World):
 Calls Tryz.prog 127 #[.func fn bs cs] w λe w'=>e= .returned (.func (.func 161) #[] #[.pointer (some ⟨w.heap.size,0,none⟩)])/\w'=w.alloc (.cells #[.func fn bs cs] 150):=by
 go_enter Tryz.func127,Tryz.ntmps127
 go_wp2_with fail
 go_ret;exact⟨rfl,rfl⟩
def Ry (p:List UInt8×List UInt8):Array Value:= #[.string ⟨p.1.toArray⟩,.string ⟨p.2.toArray⟩]
theorem Kl (s:List UInt8)(r:Nat)(w:World)(hs:s.length<=1000000)(h:IsReader w r s):
 Calls Tryz.prog 125 #[.pointer (some ⟨r,0,none⟩)] w λe w'=>e= .returned (.tuple #[.string ⟨(Sp.nextP s).1.toArray⟩,.bool (Nw.cut s).isSome])/\IsReader w' r (Sp.nextP s).2/\∃w1,Below w.heap.size w w1/\(w'=w1\/∃v:List UInt8,w'=w1.setCell ⟨r,0,none⟩ (.string ⟨v.toArray⟩)):=by
 unfold Sp.nextP;cases hc:Nw.cut s with
 |none=>
  refine(G4 s r w hs h hc).mono ?_;rintro e w' ⟨rfl,hb⟩;exact⟨rfl,h.below hb,w',hb,.inl rfl⟩
 |some p=>
  refine(I4 s p.1 p.2 r w hs h hc).mono ?_;rintro e w' ⟨rfl,w1,hb,rfl⟩;exact⟨rfl,(h.below hb).set _,w1,hb,.inr ⟨_,rfl⟩⟩
theorem Turns.next {r k:Nat}{J:Nat->World->Prop}(h:Turns r J){w w':World}(hj:J k w)(hn:∃w1,Below w.heap.size w w1/\(w'=w1\/∃v:List UInt8,w'=w1.setCell ⟨r,0,none⟩ (.string ⟨v.toArray⟩))):J k w':=by
 obtain⟨w1,hb,rfl |⟨v,rfl⟩⟩:=hn
 ·exact h.more _ _ _ hj hb
 exact h.set _ _ _ (h.more _ _ _ hj hb)
theorem Cg {r b:Nat}{w w':World}(hb:b≠r)(hl:b<w.heap.size)(hn:∃w1,Below w.heap.size w w1/\(w'=w1\/∃v:List UInt8,w'=w1.setCell ⟨r,0,none⟩ (.string ⟨v.toArray⟩))):w'.heap[b]? =w.heap[b]? :=by
 obtain⟨w1,h1,rfl |⟨v,rfl⟩⟩:=hn
 ·exact h1.block b hl
 exact(Hh hb).trans (h1.block b hl)
theorem Rn {α:Type}{l:List α}{k:Nat}{x:α}{r:List α}(h:l.drop k=x::r):∃hk:k<l.length,l[k]=x/\l.drop (k+1)=r:=by
 have hk:k<l.length:=by
  rcases Nat.lt_or_ge k l.length with h1 |h1
  ·exact h1
  rw[List.drop_eq_nil_of_le h1] at h;cases h
 rw[List.drop_eq_getElem_cons hk] at h;injection h with h1 h2
 exact⟨hk,h1,h2⟩
theorem Kea (n bx r:Nat)(s:List UInt8)(w:World)(hs:s.length<=1000000)(hbx:w.heap[bx]? =some (.cells #[.func (.func 125) #[.pointer (some ⟨r,0,none⟩)] #[]] 150 (0,0)))(hne:bx≠r)(hr:IsReader w r s)(hn:1<=n):
 J0 n Tryz.prog 161 #[.pointer (some ⟨bx,0,none⟩)] Ry (Sp.pairsP s.length s) r [bx,r] w:=by
 intro l J Jx W hW hJ hJx hY h0;have hbx1:W.heap[bx]? =some (.cells #[.func (.func 125) #[.pointer (some ⟨r,0,none⟩)] #[]] 150 (0,0)):=(hW.block bx (Array.getElem?_eq_some_iff.1 hbx).1).trans hbx;have hr1:IsReader W r s:=hr.below hW;clear hbx hr hW;obtain⟨xs,hxs⟩:∃xs,xs=Sp.pairsP s.length s:=⟨_,rfl⟩;rw[<-hxs] at hY⊢;have HY:=Qd hY;have HJ:=Qd (And.intro hJ hJx);have HX:Hid (Sp.pairsP s.length s=xs.drop 0):=Qd (by rw[hxs];rfl);clear hY hJ hJx hxs;refine callsIn_of_wp Tryz.func161 rfl trivial ?_ rfl;simp only[Tryz.ntmps161,List.size_toArray,List.length_cons,List.length_nil,Nat.reduceAdd,Nat.reduceSub,Array.replicate_succ,Array.replicate_zero,List.push_toArray,List.append_toArray,List.nil_append,List.cons_append]
 gi_wp2
 gi_loopw [] (λwr=>∃(k f:Nat) (t:List UInt8),k<=xs.length/\IsReader wr r t/\t.length<=f/\t.length<=1000000/\Hid (Sp.pairsP f t=xs.drop k)/\Hid (J k wr)/\wr.heap[bx]? =some (.cells #[.func (.func 125) #[.pointer (some ⟨r,0,none⟩)] #[]] 150 (0,0))) (λwr=>Gi wr r)
 case atStart=>exact⟨0,s.length,s,Nat.zero_le _,hr1,Lr,hs,HX,Qd h0,hbx1⟩
 case round=>
  clear hr1 hbx1 h0 HX;obtain⟨k,f,t,hk,hr,hf,ht,HP,HK,hbx⟩:=hrel;have hlen:=Pk hr;have hcb:wr.cell? ⟨bx,0,none⟩=some (.func (.func 125) #[.pointer (some ⟨r,0,none⟩)] #[]):=by simp[World.cell?,hbx]
  have hbl:=(Array.getElem?_eq_some_iff.1 hbx).1;have HBX:=Qd hbx;have NX:=Qd (callsIn_wide.2 (Kl t r wr ht hr):CallsIn Fence.wide (n-1) _ _ _ _ _);clear hr hbx
  gi_wp2
  refine⟨trivial,NX.out.mono ?_⟩;rintro e W1 ⟨rfl,hr1,hn1⟩;have HN1:=Qd hn1;have hbx1:=(Cg hne hbl hn1).trans HBX.out;have HJ1:=Qd (HJ.out.1.next HK.out hn1);clear hn1 NX hcb HK HBX;cases hc:Nw.cut t with
  |none=>
   have hend:k=xs.length:=by
    have:=HP.out;cases f with
    |zero=>rw[Sp.pairsP] at this;have:=List.drop_eq_nil_iff.1 this.symm;omega
    |succ f=>rw[Sp.pairsP,hc] at this;have:=List.drop_eq_nil_iff.1 this.symm;omega
   clear hr1 hbx1 HN1 HP
   gi_wp2
   refine bodyPost_ret (results_none rfl _ _ _) rfl ?_;exact⟨⟨_,rfl⟩,.inl (by rw[<-hend];exact HJ1.out)⟩
  |some p=>
   have hl:=Sp.cut_less hc;have hle:=Sp.nextP_le p.2;have hnp:Sp.nextP t=p:=by unfold Sp.nextP;rw[hc];rfl
   rw[hnp] at hr1⊢;obtain⟨f',rfl⟩:∃f',f=f'+1:=⟨f-1,by omega⟩;have hcons:xs.drop k=(p.1,(Sp.nextP p.2).1)::Sp.pairsP f' (Sp.nextP p.2).2:=by rw[<-HP.out,Sp.pairsP,hc]
   obtain⟨hkl,hx,hrest⟩:=Rn hcons;have HREST:=Qd hrest.symm;have NX:=Qd (callsIn_wide.2 (Kl p.2 r W1 (by omega) hr1):CallsIn Fence.wide (n-1) _ _ _ _ _);have hcb:W1.cell? ⟨bx,0,none⟩=some (.func (.func 125) #[.pointer (some ⟨r,0,none⟩)] #[]):=by simp[World.cell?,hbx1]
   have hbl1:=(Array.getElem?_eq_some_iff.1 hbx1).1;have HBX:=Qd hbx1;have HXK:=Qd hx;clear hr1 hbx1 hcons hrest hx HP HN1
   gi_wp2
   refine⟨trivial,NX.out.mono ?_⟩;rintro e W2 ⟨rfl,hr2,hn2⟩;have hbx2:=(Cg hne hbl1 hn2).trans HBX.out;have HJ2:=Qd (HJ.out.1.next HJ1.out hn2);obtain⟨fn,tmps,assign,body,hy,hR⟩:=HY.out k hkl W2 HJ2.out;rw[HXK.out] at hy;have HR:=Qd hR;have HBX2:=Qd hbx2;have HR2:=Qd hr2;clear hn2 NX hcb HBX hR hbx2 hr2 HJ1;unfold Ry at hy
   gi_wp2
   refine HR.out.mono ?_;rintro e W3 (⟨rfl,hj3,hk3⟩ |⟨rfl,hjx⟩)
   ·have hbx3:=(hk3 bx (by simp)).trans HBX2.out
    have hr3:IsReader W3 r (Sp.nextP p.2).2:=(hk3 r (by simp)).trans HR2.out;have hlen3:=Pk hr3;have HJ3:=Qd hj3;clear hy hk3 hj3
    gi_wp2
    go_roundw
    case rel=>exact⟨k+1,f',_,hkl,hr3,by omega,by omega,HREST,HJ3,hbx3⟩
    case measure=>rw[hlen3,hlen];omega
   clear hy
   gi_wp2
   refine bodyPost_ret (results_none rfl _ _ _) rfl ?_;exact⟨⟨_,rfl⟩,.inr ⟨k,hkl,hjx⟩⟩
def Txt (w:World)(b:Nat)(t:List UInt8):Prop:=w.heap[b]? =some (.cells #[.string ⟨t.toArray⟩] 9 (0,0))
theorem Txt.cell {w:World}{b:Nat}{t:List UInt8}(h:Txt w b t):w.cell? ⟨b,0,none⟩=some (.string ⟨t.toArray⟩):=by unfold Txt at h;simp[World.cell?,h]
theorem Txt.frozen {w:World}{b:Nat}{t:List UInt8}(h:Txt w b t):w.frozen? ⟨b,0,none⟩=false:=by unfold Txt at h;simp[World.frozen?,h]
theorem Txt.set {w:World}{b:Nat}{t:List UInt8}(h:Txt w b t)(u:List UInt8):Txt (w.setCell ⟨b,0,none⟩ (.string ⟨u.toArray⟩)) b u:=by
 unfold Txt at*;show(w.heap.modify b _)[b]? =_;rw[Array.getElem?_modify,if_pos rfl,h];rfl
theorem Dq {w:World}{b:Nat}{t:List UInt8}(h:Txt w b t):Gi w b=t.length:=by unfold Gi;rw[h.cell];rfl
theorem J4 (s:List UInt8)(w:World):
 Calls Tryz.prog 126 #[.string ⟨s.toArray⟩,.string ⟨#[32]⟩] w λe w'=>e= .returned (.func (.func 192) #[] #[.pointer (some ⟨w.heap.size+1,0,none⟩),.pointer (some ⟨w.heap.size,0,none⟩),.pointer (some ⟨w.heap.size+2,0,none⟩)])/\
  w'=((w.alloc (.cells #[.string ⟨s.toArray⟩] 9)).alloc (.cells #[.string ⟨#[32]⟩] 9)).alloc (.cells #[.int .i64 0] 3):=by
 have H:Calls Tryz.prog 160 #[.string ⟨s.toArray⟩,.string ⟨#[32]⟩,.int .i64 0] w λe w'=>e= .returned (.func (.func 192) #[] #[.pointer (some ⟨w.heap.size+1,0,none⟩),.pointer (some ⟨w.heap.size,0,none⟩),.pointer (some ⟨w.heap.size+2,0,none⟩)])/\
  w'=((w.alloc (.cells #[.string ⟨s.toArray⟩] 9)).alloc (.cells #[.string ⟨#[32]⟩] 9)).alloc (.cells #[.int .i64 0] 3):=by
  go_enter Tryz.func160,Tryz.ntmps160
  go_wp2_with fail
  go_ret;exact⟨by simp,rfl⟩
 replace H:=Qd H;go_enter Tryz.func126,Tryz.ntmps126
 go_wp2_with fail
 refine H.out.mono ?_;rintro e w' ⟨rfl,rfl⟩;go_wp2_with fail
 go_ret;exact⟨rfl,rfl⟩
def Qt (p:List UInt8):Array Value:= #[.string ⟨p.toArray⟩]
theorem Lea (n b:Nat)(s:List UInt8)(w:World)(hs:s.length<=1000000)(h0:Txt w b s)(h1:Txt w (b+1) [32])(h2:w.heap[b+2]? =some (.cells #[.int .i64 0] 3 (0,0)))(hn:1<=n):
 J0 n Tryz.prog 192 #[.pointer (some ⟨b+1,0,none⟩),.pointer (some ⟨b,0,none⟩),.pointer (some ⟨b+2,0,none⟩)] Qt (Sp.words s) b [b,b+1,b+2] w:=by
 intro l J Jx W hW hJ hJx hY hj0;replace h0:Txt W b s:=(hW.block _ (Array.getElem?_eq_some_iff.1 h0).1).trans h0;replace h1:Txt W (b+1) [32]:=(hW.block _ (Array.getElem?_eq_some_iff.1 h1).1).trans h1;replace h2:=(hW.block _ (Array.getElem?_eq_some_iff.1 h2).1).trans h2;clear hW;obtain⟨xs,hxs⟩:∃xs,xs=Sp.words s:=⟨_,rfl⟩;rw[<-hxs] at hY⊢;have HY:=Qd hY;have HJ:=Qd (And.intro hJ hJx);have HX:Hid (Sp.wordsF s.length s=xs.drop 0):=Qd (by rw[hxs];rfl);clear hY hJ hJx hxs;have c1:=h1.cell;refine callsIn_of_wp Tryz.func192 rfl trivial ?_ rfl;simp only[Tryz.ntmps192,List.size_toArray,List.length_cons,List.length_nil,Nat.reduceAdd,Nat.reduceSub,Array.replicate_succ,Array.replicate_zero,List.push_toArray,List.append_toArray,List.nil_append,List.cons_append]
 gi_wp2
 clear c1
 gi_loopw [7,8] (λ_ _ wr=>∃(k f:Nat) (t:List UInt8),Txt wr b t/\t.length<=f/\t.length<=1000000/\Hid (Sp.wordsF f t=xs.drop k)/\Hid (J k wr)/\Txt wr (b+1) [32]/\wr.heap[b+2]? =some (.cells #[.int .i64 0] 3 (0,0))) (λ_ _ wr=>Gi wr b)
 case atStart=>exact⟨0,s.length,s,h0,Lr,hs,HX,Qd hj0,h1,h2⟩
 case round=>
  clear h0 h1 h2 hj0 HX;obtain⟨k,f,t,h0,hf,ht,HP,HK,h1,h2⟩:=hrel;have hlen:=Dq h0;have c0:=h0.cell;have c1:=h1.cell;have c2:wr.cell? ⟨b+2,0,none⟩=some (.int .i64 0):=by simp[World.cell?,h2]
  have H3:=Qd (And.intro h0 (And.intro h1 h2));clear h0 h1 h2;have IX:CallsIn Fence.wide (n-1) _ _ _ _ _:=callsIn_wide.2 (Tryz.strings_Index_one ⟨t.toArray⟩ 32 wr);rw[show(⟨t.toArray⟩:ByteArray).data.toList=t from rfl] at IX;have hsz:(⟨t.toArray⟩:ByteArray).size=t.length:=rfl;rcases Lab.index_cut 32 t with⟨hi,hc⟩ |⟨m,hi,hm,hc⟩
  ·rw[hi] at IX
   have IX2:=Qd IX;have hcons:xs.drop k=[t]:=by
    rw[<-HP.out];cases f with
    |zero=>rfl
    |succ f=>rw[Sp.wordsF,hc];rfl
   obtain⟨hkl,hx,hrest⟩:=Rn hcons;have hend:xs.length=k+1:=by have:=List.drop_eq_nil_iff.1 hrest;omega
   have HXK:=Qd hx;obtain⟨fn,tmps,assign,body,hy,hR⟩:=HY.out k hkl wr HK.out;rw[HXK.out] at hy;unfold Qt at hy;have HR:=Qd hR;clear IX hi hc hcons hrest hx hR HP
   gi_wp2
   refine⟨trivial,IX2.out.mono ?_⟩;rintro e W1 ⟨rfl,rfl⟩
   gi_wp2
   refine HR.out.mono ?_;rintro e W3 (⟨rfl,hj3,hk3⟩ |⟨rfl,hjx⟩)
   ·clear hy hk3
    gi_wp2
    go_end0
    exact⟨⟨_,rfl⟩,.inl (by rw[hend];exact hj3)⟩
   clear hy
   gi_wp2
   go_end0
   exact⟨⟨_,rfl⟩,.inr ⟨k,hkl,hjx⟩⟩
  rw[hi] at IX;have IX2:=Qd IX;obtain⟨f',rfl⟩:∃f',f=f'+1:=⟨f-1,by omega⟩;have hcons:xs.drop k=t.take m::Sp.wordsF f' (t.drop (m+1)):=by rw[<-HP.out,Sp.wordsF,hc];rfl
  obtain⟨hkl,hx,hrest⟩:=Rn hcons;have HREST:=Qd hrest.symm;have HXK:=Qd hx;obtain⟨fn,tmps,assign,body,hy,hR⟩:=HY.out k hkl wr HK.out;rw[HXK.out] at hy;have e1:=Mk t m (by omega);have e2:=Lg t (m+1);unfold Qt at hy;rw[<-e1] at hy;have HR:=Qd hR;have E2:=Qd e2;have hm0:¬(m:Int)<0:=by omega
  have m1:IntKind.i64.wrap ((m:Int)+1)=(m:Int)+1:=IntWalk.i64_in _ (by omega);have m2:(0:Int)<=(m:Int)+1:=by omega
  have m3:(m:Int)+1<=(t.length:Int):=by omega
  have m4:((m:Int)+1).toNat=m+1:=by omega
  have m5:(m:Int)<=(t.length:Int):=by omega
  have m6:(0:Int)<=(m:Int):=by omega
  have m7:(m:Int).toNat=m:=by omega
  clear IX hi hc hcons hrest hx hR HP e1 e2
  gi_wp2
  refine⟨trivial,IX2.out.mono ?_⟩;rintro e W1 ⟨rfl,rfl⟩
  gi_wp2
  refine HR.out.mono ?_;rintro e W3 (⟨rfl,hj3,hk3⟩ |⟨rfl,hjx⟩)
  ·have h0:Txt W3 b t:=(hk3 b (by simp)).trans H3.out.1
   have h1:Txt W3 (b+1) [32]:=(hk3 (b+1) (by simp)).trans H3.out.2.1;have h2:=(hk3 (b+2) (by simp)).trans H3.out.2.2;have c0':=h0.cell;have f0':=h0.frozen;have c1':=h1.cell;have H4:Hid (Txt (W3.setCell ⟨b,0,none⟩ (.string ⟨(t.drop (m+1)).toArray⟩)) b (t.drop (m+1))/\Txt (W3.setCell ⟨b,0,none⟩ (.string ⟨(t.drop (m+1)).toArray⟩)) (b+1) [32]/\(W3.setCell ⟨b,0,none⟩ (.string ⟨(t.drop (m+1)).toArray⟩)).heap[b+2]? =some (.cells #[.int .i64 0] 3 (0,0))/\J (k+1) (W3.setCell ⟨b,0,none⟩ (.string ⟨(t.drop (m+1)).toArray⟩))):=
    Qd ⟨h0.set _,(Hh (by simp)).trans h1,(Hh (by simp)).trans h2,HJ.out.1.set _ _ _ hj3⟩
   clear hy hk3 h0 h1 h2 hj3 c0 c1 c2
   gi_wp2
   rw[E2.out];have hlen3:=Dq H4.out.1;go_roundw
   case rel=>exact⟨k+1,f',_,H4.out.1,by rw[List.length_drop];omega,by rw[List.length_drop];omega,HREST,Qd H4.out.2.2.2,H4.out.2.1,H4.out.2.2.1⟩
   case measure=>rw[hlen3,hlen,List.length_drop];omega
  clear hy
  gi_wp2
  refine bodyPost_ret (results_none rfl _ _ _) rfl ?_;exact⟨⟨_,rfl⟩,.inr ⟨k,hkl,hjx⟩⟩
section
open Go.RowKit Ar
def Ll (w:World)(b:Nat):Prop:=∃off v,w.cell? ⟨b,off,none⟩=some v
theorem LiesP.keepC {w w':World}{P P':Nat->Prop}{A:Option Addr}{vs:List Value}(h:LiesP w P A vs)(hk:∀(p:Addr) v,P p.block->w.cell? p=some v->w'.cell? p=some v)(hP:∀b,P b->Ll w b->P' b):LiesP w' P' A vs:=by
 rcases h with h |⟨b,off,hA,hb,hc⟩
 ·exact .inl h
 cases vs with
 |nil=>exact .inl rfl
 |cons x r=>exact .inr ⟨b,off,hA,hP _ hb ⟨off+0,x,hc 0 x rfl⟩,λi v hv=>hk ⟨b,off+i,none⟩ v hb (hc i v hv)⟩
mutual
theorem IsArrP.keepC {w w':World}{P P':Nat->Prop}(hk:∀(p:Addr) v,P p.block->w.cell? p=some v->w'.cell? p=some v)(hP:∀b,P b->Ll w b->P' b):∀(a:Ba) (vs:List Value),IsArrP w P a vs->IsArrP w' P' a vs
 | .mk S shape cells,vs,h=>by
  rw[IsArrP] at h⊢;obtain⟨A,c,A',c',us,h1,h2,h3,h4,h5,h6,h7,h8⟩:=h;exact⟨A,c,A',c',us,h1,h2,h3,h4,h5,h6.keepC hk hP,h7.keepC hk hP,IsCelsP.keepC hk hP cells us h8⟩
theorem IsCelsP.keepC {w w':World}{P P':Nat->Prop}(hk:∀(p:Addr) v,P p.block->w.cell? p=some v->w'.cell? p=some v)(hP:∀b,P b->Ll w b->P' b):∀(a:List Ha) (vs:List Value),IsCelsP w P a vs->IsCelsP w' P' a vs
 | [],vs,h=>by rw[IsCelsP] at h⊢;exact h
 |c::r,vs,h=>by
  rw[IsCelsP] at h⊢;obtain⟨u,t,h1,h2,h3⟩:=h;exact⟨u,t,h1,IsCelP.keepC hk hP c u h2,IsCelsP.keepC hk hP r t h3⟩
theorem IsCelP.keepC {w w':World}{P P':Nat->Prop}(hk:∀(p:Addr) v,P p.block->w.cell? p=some v->w'.cell? p=some v)(hP:∀b,P b->Ll w b->P' b):∀(a:Ha) (vs:List Value),IsCelP w P a vs->IsCelP w' P' a vs
 | .mk L kind neg top bot ch ins,vs,h=>by
  rw[IsCelP] at h⊢;obtain⟨A,c,A',c',A2,c2,us,h1,h2,h3,h4,h5,h6,h7,h8,h9,h10,h11,h12⟩:=h;exact⟨A,c,A',c',A2,c2,us,h1,h2,h3,h4,h5,h6,h7,h8,h9.keepC hk hP,h10.keepC hk hP,h11.keepC hk hP,IsArrsP.keepC hk hP ins us h12.1,h12.2⟩
theorem IsArrsP.keepC {w w':World}{P P':Nat->Prop}(hk:∀(p:Addr) v,P p.block->w.cell? p=some v->w'.cell? p=some v)(hP:∀b,P b->Ll w b->P' b):∀(a:List Ba) (vs:List Value),IsArrsP w P a vs->IsArrsP w' P' a vs
 | [],vs,h=>by rw[IsArrsP] at h⊢;exact h
 |c::r,vs,h=>by
  rw[IsArrsP] at h⊢;obtain⟨u,t,h1,h2,h3⟩:=h;exact⟨u,t,h1,IsArrP.keepC hk hP c u h2,IsArrsP.keepC hk hP r t h3⟩
end
theorem Kha {w:World}{b:Nat}{o:Obj}(h:w.heap[b]? =some o)(ho:o.isCells=false):¬Ll w b:=by
 rintro⟨off,v,hc⟩;cases o<;>simp_all [World.cell?,Obj.isCells]
theorem Mea {W W':World}{row:Option Nat}(hg:W.grownBy W' row)(hr:∀r,row=some r->∃o:Obj,W.heap[r]? =some o/\o.isCells=false){b:Nat}(h:Ll W b):W'.heap[b]? =W.heap[b]? :=by
 obtain⟨off,v,hc⟩:=id h;refine hg.block b (World.block_lt_of_cell? W _ hc) (λe=>?_);obtain⟨o,h1,h2⟩:=hr b e.symm;exact Kha h1 h2 h
theorem Rf {W W':World}{row:Option Nat}(hg:W.grownBy W' row)(hr:∀r,row=some r->∃o:Obj,W.heap[r]? =some o/\o.isCells=false){b:Nat}{cs:Array Value}{t:TypeId}{fz:Nat×Nat}(h:W.heap[b]? =some (.cells cs t fz)):W'.heap[b]? =some (.cells cs t fz):=by
 rw[hg.block b (Array.getElem?_eq_some_iff.1 h).1 (λe=>?_)]
 ·exact h
 obtain⟨o,h1,h2⟩:=hr b e.symm;rw[h] at h1;injection h1 with h1
 rw[<-h1] at h2;cases h2
theorem St {n:Nat}{w w':World}{V:Value}{cs:List Ha}{xs:List Value}(hs:w.heap.size<=w'.heap.size)(hk:∀b,PL n w V b->Ll w b->w'.heap[b]? =w.heap[b]?)(h:IsCelsP w (PL n w V) cs xs):IsCelsP w' (PL n w' V) cs xs:=
 IsCelsP.keepC (λp v hp hc=>by
  obtain⟨b,off,s⟩:=p;have hC:Ll w b:=by
   cases s with
   |none=>exact⟨off,v,hc⟩
   |some k=>
    cases ho:w.heap[b]? with
    |none=>simp[World.cell?,ho] at hc
    |some o=>cases o<;>simp[World.cell?,ho] at hc
  exact(World.cell?_of_block (hk b hp hC)).trans hc) (λb h hC=>⟨h.1.same hs (hk b h hC),h.2⟩) _ _ h
end
section
open Go.RowKit Ar
structure RdAt (g n:Nat) (w W:World) (s:List UInt8):Prop where
 bel:Below g w W
 bn:W.heap[g]? =some (.cells #[.int .i64 (n:Int)] 3 (0,0))
 ba:W.heap[g+1]? =some (.cells #[.int .u64 0,.slice none 0 0,.slice none 0 0] 43 (0,0))
 bb:W.heap[g+2]? =some (.cells #[.bool false] 4 (0,0))
 rd:IsReader W (g+3) s
theorem RdAt.lt {g n:Nat}{w W:World}{s:List UInt8}(h:RdAt g n w W s):g+3<W.heap.size:=h.rd.lt
theorem RdAt.below {g n:Nat}{w W W':World}{s:List UInt8}(h:RdAt g n w W s)(hb:Below W.heap.size W W'):RdAt g n w W' s:=by
 have hl:=h.lt;exact⟨h.bel.trans (hb.mono (by omega)),(hb.block _ (by omega)).trans h.bn,(hb.block _ (by omega)).trans h.ba,(hb.block _ (by omega)).trans h.bb,h.rd.below hb⟩
theorem RdAt.next {g n:Nat}{w W W':World}{s s':List UInt8}(h:RdAt g n w W s)(hr:IsReader W' (g+3) s')(hn:∃w1,Below W.heap.size W w1/\(W'=w1\/∃v:List UInt8,W'=w1.setCell ⟨g+3,0,none⟩ (.string ⟨v.toArray⟩))):RdAt g n w W' s':=by
 have hl:=h.lt;have hb:Below g w W':=by
  obtain⟨w1,h1,rfl |⟨v,rfl⟩⟩:=hn
  ·exact h.bel.trans (h1.mono (by omega))
  exact(h.bel.trans (h1.mono (by omega))).setCell (p:=⟨g+3,0,none⟩) (by show g<=g+3;omega) _
 exact⟨hb,(Cg (by omega) (by omega) hn).trans h.bn,(Cg (by omega) (by omega) hn).trans h.ba,(Cg (by omega) (by omega) hn).trans h.bb,hr⟩
theorem Qla (w:World)(n:Nat)(s:List UInt8)(W:World)(h:W=(((w.alloc (.cells #[.int .i64 (n:Int)] 3)).alloc (.cells #[.int .u64 0,.slice none 0 0,.slice none 0 0] 43)).alloc (.cells #[.bool false] 4)).alloc (.cells #[.string ⟨s.toArray⟩] 149)):RdAt w.heap.size n w W s:=by
 subst h;refine⟨?_,?_,?_,?_,?_⟩
 ·exact(((Br.alloc Lr _).alloc (by simp) _).alloc (by simp<;>omega) _).alloc (by simp<;>omega) _
 ·rw[heap_alloc_old _ _ (by simp<;>omega),heap_alloc_old _ _ (by simp<;>omega),heap_alloc_old _ _ (by simp),heap_alloc_new]
 ·rw[heap_alloc_old _ _ (by simp<;>omega),heap_alloc_old _ _ (by simp)]
  have:=heap_alloc_new (w.alloc (.cells #[.int .i64 (n:Int)] 3)) (.cells #[.int .u64 0,.slice none 0 0,.slice none 0 0] 43)
  simpa using this
 ·rw[heap_alloc_old _ _ (by simp)]
  have:=heap_alloc_new ((w.alloc (.cells #[.int .i64 (n:Int)] 3)).alloc (.cells #[.int .u64 0,.slice none 0 0,.slice none 0 0] 43)) (.cells #[.bool false] 4)
  simpa using this
 unfold IsReader;have:=heap_alloc_new (((w.alloc (.cells #[.int .i64 (n:Int)] 3)).alloc (.cells #[.int .u64 0,.slice none 0 0,.slice none 0 0] 43)).alloc (.cells #[.bool false] 4)) (.cells #[.string ⟨s.toArray⟩] 149)
 simpa using this
theorem Nea {n:Nat}{s:List UInt8}(h:Sp.labP (Sp.nextP s).1=none):Sp.readP (n+1) s=none:=by
 show Sp.bodyP _ s=none;unfold Sp.bodyP;rw[h]
theorem Kba {n:Nat}{s:List UInt8}{S:Nat}(h:Sp.labP (Sp.nextP s).1=some S):Sp.readP (n+1) s=match Sp.shapeP (Sp.nextP (Sp.nextP s).2).1 with |none=>none |some sh=>(Sp.cellsP (Sp.readP n) (Sp.pairsP (Sp.nextP (Sp.nextP s).2).2.length (Sp.nextP (Sp.nextP s).2).2)).map λcs=> .mk S sh cs:=by
 show Sp.bodyP _ s=_;unfold Sp.bodyP;rw[h];rfl
structure FinAt (g:Nat) (w:World) (T:Option Ba) (W:World):Prop where
 bel:Below g w W
 lt:g+2<W.heap.size
 r:∃a vs,vs.length=3/\W.heap[g+1]? =some (.cells vs.toArray 43 (0,0))/\W.heap[g+2]? =some (.cells #[.bool T.isSome] 4 (0,0))/\IsArrP W (PR g W) a vs/\∀x,T=some x->x=a
theorem Hv {W:World}{D:Nat}{x:Option (List Deferred)}(h:W.heap[D]? =some (.deferred x))(off:Nat)(s:Option Nat):W.cell? ⟨D,off,s⟩=none:=by
 cases s<;>simp[World.cell?,h]
theorem FinAt.shut {g:Nat}{w:World}{T:Option Ba}{W:World}(h:FinAt g w T W){D:Nat}{x y:Option (List Deferred)}(hD:W.heap[D]? =some (.deferred x))(hg:g+3<=D):FinAt g w T (W.putObj D (.deferred y)):=by
 obtain⟨h1,h2,a,vs,h3,h4,h5,h6,h7⟩:=h;have hl:=(Array.getElem?_eq_some_iff.1 hD).1;have hsm:(W.putObj D (.deferred y)).heap[D]? =some (.deferred y):=World.putObj_heap_same hl;have hno:¬HasU W D:=by rintro⟨off,x,hc⟩;rw[Hv hD] at hc;cases hc
 refine⟨h1.grown (grownBy_putObj' W D _) (by have:=h1.size;omega) (λk e=>by cases e;omega),by simpa using h2,a,vs,h3,(World.putObj_heap_other (by omega)).trans h4,(World.putObj_heap_other (by omega)).trans h5,?_,h7⟩;refine IsArrP.keep (λp hp=>?_) (λb hb=>?_) _ _ h6
 ·by_cases e:p.block=D
  ·obtain⟨b,off,s⟩:=p
   have e:b=D:=e;subst e;rw[Hv hsm,Hv hD]
  exact World.cell?_of_block (World.putObj_heap_other e)
 refine⟨by simpa using hb.1,?_⟩;rcases hb.2 with h |h
 ·exact .inl h
 exact .inr (h.same (World.putObj_heap_other (λe=>hno (e▸h))))
theorem M4 {g:Nat}{w:World}{T:Option Ba}{W:World}{tmps:Array Value}(h:FinAt g w T W)(hg:g=w.heap.size)(h4:tmps.getD 4 undef= .pointer (some ⟨g+1,0,none⟩))(h5:tmps.getD 5 undef= .pointer (some ⟨g+2,0,none⟩)):
 ∃v,(results Tryz.f96 tmps).run Tryz.prog W= .ok v W/\Qg T w (.returned v) W:=by
 obtain⟨h1,h2,a,vs,h3,hh4,hh5,h6,h7⟩:=h;refine⟨.tuple #[.agg vs.toArray,.bool T.isSome],?_,a,vs,rfl,hg▸h6,h7,hg▸h1⟩;have hi:(Tryz.prog.info? 43).map (·.size)=some vs.toArray.size:=by rw[List.size_toArray,h3];kernel_rfl
 have hb:W.cell? ⟨g+2,0,none⟩=some (.bool T.isSome):=by simp[World.cell?,hh5]
 have h4':tmps[4]?.getD undef= .pointer (some ⟨g+1,0,none⟩):=by simpa using h4
 have h5':tmps[5]?.getD undef= .pointer (some ⟨g+2,0,none⟩):=by simpa using h5
 have hL4:=run_loadVar_row W (g+1) _ _ _ _ _ hh4 Tryz.underlying43 rfl hi;have hL5:(loadVar 4 ⟨g+2,0,none⟩).run Tryz.prog W= .ok (.bool T.isSome) W:=by simp[go_sem,hb]
 simp[results,Tryz.f96,h4',h5',asAddr,hL4,hL5]
def Lha (D:Nat):Deferred:={target:= .collected D,args:= #[]}
theorem Df {g:Nat}{w:World}{T:Option Ba}{tmps:Array Value}(hg:g=w.heap.size)(h4:tmps.getD 4 undef= .pointer (some ⟨g+1,0,none⟩))(h5:tmps.getD 5 undef= .pointer (some ⟨g+2,0,none⟩)):
 ∀(Ds:List Nat) (W:World),Ds.Nodup->(∀D∈Ds,W.heap[D]? =some (.deferred (some []))/\g+3<=D)->FinAt g w T W->LeavesInM Fence.wide 9 Tryz.prog Tryz.f96 tmps (Qg T w) (Ds.map Lha) .returning W
 | [],W,_,_,h=>by
  obtain⟨v,hv,hr⟩:=M4 h hg h4 h5;exact⟨v,hv,hr⟩
 |D::Ds,W,hn,hD,h=>by
  have hd:=hD D (List.mem_cons_self ..);rw[List.nodup_cons] at hn;refine⟨by simp,.inl ⟨D,_,rfl,run_takeDeferred hd.1,?_⟩⟩;refine Df hg h4 h5 Ds _ hn.2 (λD' hD'=>?_) (h.shut hd.1 hd.2);have h':=hD D' (List.mem_cons_of_mem _ hD');exact⟨(World.putObj_heap_other (λe=>hn.1 (by rw[<-e];exact hD'))).trans h'.1,h'.2⟩
theorem O4 {g:Nat}{w:World}{T:Option Ba}{W:World}(hT:T=none)(hb:Below g w W)(hl:g+2<W.heap.size)(h4:W.heap[g+1]? =some (.cells #[.int .u64 0,.slice none 0 0,.slice none 0 0] 43 (0,0)))(h5:W.heap[g+2]? =some (.cells #[.bool false] 4 (0,0))):FinAt g w T W:=
 ⟨hb,hl,.mk 0 [] [],[.int .u64 0,.slice none 0 0,.slice none 0 0],rfl,h4,by rw[hT];exact h5,Pt (by omega),by rw[hT];exact nofun⟩
theorem Iv {W:World}{b:Nat}{v:Value}{t:TypeId}(h:W.heap[b]? =some (.cells #[v] t (0,0)))(v':Value):(W.setCell ⟨b,0,none⟩ v').heap[b]? =some (.cells #[v'] t (0,0)):=by
 show(W.heap.modify b _)[b]? =_;rw[Array.getElem?_modify,if_pos rfl,h];rfl
theorem Rla {g n:Nat}{w W:World}{s:List UInt8}{T:Option Ba}(hT:T=none)(h:RdAt g n w W s):FinAt g w T ((W.setRow (g+1) #[.int .u64 0,.slice none 0 0,.slice none 0 0]).setCell ⟨g+1+1,0,none⟩ (.bool false)):=by
 have hl:=h.lt;refine O4 hT ((Tb h.bel (Nat.le_succ _)).setCell (p:=⟨g+1+1,0,none⟩) (by show g<=g+1+1;omega) _) (by simp;omega) ?_ ?_
 ·rw[Below.heap_setCell _ _ _ _ (show g+1≠g+1+1 by omega)];exact Ma h.ba
 exact Iv ((Pb (by omega)).trans h.bb) _
theorem Pj {W:World}{g:Nat}{b:Bool}{u:Array Value}(h:W.heap[g+2]? =some (.cells #[.bool b] 4 (0,0))):(W.setRow (g+1) u).cell? ⟨g+1+1,0,none⟩=some (.bool b)/\(W.setRow (g+1) u).frozen? ⟨g+1+1,0,none⟩=false:=by
 have h':(W.setRow (g+1) u).heap[g+1+1]? =some (.cells #[.bool b] 4 (0,0)):=(Pb (by omega)).trans h;exact⟨by simp[World.cell?,h'],by simp[World.frozen?,h']⟩
end
section
open Go.RowKit Ar
theorem Y8 (W:World)(r:Nat)(v:Value):W.grownBy (W.setCell ⟨r,0,none⟩ v) (some r):=⟨rfl,rfl,rfl,by simp,λb _ hb=>Below.heap_setCell _ _ _ _ (λe=>hb (by rw[e]))⟩
theorem P4 (W:World)(r i:Nat)(v:Value):W.grownBy (W.setCell ⟨r,i,none⟩ v) (some r):=⟨rfl,rfl,rfl,by simp,λb _ hb=>Below.heap_setCell _ _ _ _ (λe=>hb (by rw[e]))⟩
theorem Xja {w w':World}{row:Option Nat}{base:Nat}{e:TypeId}{size:Nat}{v:Value}{k:Nat}{xs:List Value}(h:w.ownsRow base e size v k xs)(hg:w.grownBy w' row)(hr:∀r,row=some r->∃o:Obj,w.heap[r]? =some o/\o.isCells=false):w'.ownsRow base e size v k xs:=by
 refine h.kept hg ?_;rcases h.2 with⟨rfl,_⟩ |⟨g,cap,cur,rfl,_,hgb,_⟩
 ·exact .inl rfl
 refine .inr (λe=>?_);obtain⟨o,h1,h2⟩:=hr g e.symm;rw[hgb] at h1;injection h1 with h1
 rw[<-h1] at h2;cases h2
theorem Mha {w w':World}{q:Value->Prop}{row:Option Nat}{base:Nat}{e:TypeId}{size:Nat}{v:Value}{k:Nat}{xs:List Value}(h:w.ownsQ q base e size v k xs)(hg:w.grownBy w' row)(hr:∀r,row=some r->∃o:Obj,w.heap[r]? =some o/\o.isCells=false):w'.ownsQ q base e size v k xs:=by
 refine h.kept hg ?_;rcases h.2 with⟨rfl,_⟩ |⟨g,cap,cur,rfl,_,hgb,_⟩
 ·exact .inl rfl
 refine .inr (λe=>?_);obtain⟨o,h1,h2⟩:=hr g e.symm;rw[hgb] at h1;injection h1 with h1
 rw[<-h1] at h2;cases h2
theorem Tt {w:World}{base:Nat}{e:TypeId}{size:Nat}{v:Value}{k:Nat}{xs:List Value}(h:w.ownsRow base e size v k xs){r:Nat}(hr:r<base):v.ownBlock=none\/v.ownBlock≠some r:= .inr (λe=>by have:=(h.lt r e).1;omega)
structure RdBox (g n q:Nat) (w:World) (x:Nat) (v1 v2:Value) (Ds:List Nat) (W:World):Prop where
 bel:Below g w W
 bn:W.heap[g]? =some (.cells #[.int .i64 (n:Int)] 3 (0,0))
 ba:W.heap[g+1]? =some (.cells #[.int .u64 0,.slice none 0 0,.slice none 0 0] 43 (0,0))
 bb:W.heap[g+2]? =some (.cells #[.bool false] 4 (0,0))
 rd:∃s,IsReader W (g+3) s
 bx:W.heap[q]? =some (.cells #[.int .u64 (x:Int),v1,v2] 43 (0,0))
 ds:∀D∈Ds,W.heap[D]? =some (.deferred (some []))
section
variable {g n q : Nat} {w W W' : World} {x : Nat} {v1 v2 : Value} {Ds : List Nat} {B : Nat} {row : Option Nat}
theorem RdBox.gby (h:RdBox g n q w x v1 v2 Ds W)(hg:W.grownBy W' row)(hr:∀r,row=some r->B<=r/\∃o:Obj,W.heap[r]? =some o/\o.isCells=false)(hB:g<=B)(hD:∀D∈Ds,D<B):RdBox g n q w x v1 v2 Ds W':=by
 have hr':=λr e=>(hr r e).2;have hl:=(Array.getElem?_eq_some_iff.1 h.bn).1;obtain⟨s,hs⟩:=h.rd;exact⟨h.bel.grown hg (by omega) (λk e=>by have:=(hr k e).1;omega),Rf hg hr' h.bn,Rf hg hr' h.ba,Rf hg hr' h.bb,⟨s,Rf hg hr' hs⟩,Rf hg hr' h.bx,λD hd=>(hg.block D (Array.getElem?_eq_some_iff.1 (h.ds D hd)).1 (λe=>by have:=(hr D e.symm).1;have:=hD D hd;omega)).trans (h.ds D hd)⟩
theorem RdBox.below (h:RdBox g n q w x v1 v2 Ds W)(hb:Below W.heap.size W W'):RdBox g n q w x v1 v2 Ds W':=by
 have hl:=(Array.getElem?_eq_some_iff.1 h.bn).1;obtain⟨s,hs⟩:=h.rd;have hk:∀{b:Nat} {o:Obj},W.heap[b]? =some o->W'.heap[b]? =some o:=λhb'=>(hb.block _ (Array.getElem?_eq_some_iff.1 hb').1).trans hb';exact⟨h.bel.trans (hb.mono (by omega)),hk h.bn,hk h.ba,hk h.bb,⟨s,hk hs⟩,hk h.bx,λD hd=>hk (h.ds D hd)⟩
theorem RdBox.other (h:RdBox g n q w x v1 v2 Ds W){r:Nat}(hr:g+3<r)(hq:r≠q)(hD:∀D∈Ds,D≠r)(v:Value):RdBox g n q w x v1 v2 Ds (W.setCell ⟨r,0,none⟩ v):=by
 obtain⟨s,hs⟩:=h.rd;have hk:∀{b:Nat} {o:Obj},b≠r->W.heap[b]? =some o->(W.setCell ⟨r,0,none⟩ v).heap[b]? =some o:=λhb h=>(Below.heap_setCell _ _ _ _ hb).trans h;exact⟨h.bel.setCell (p:=⟨r,0,none⟩) (by show g<=r;omega) _,hk (by omega) h.bn,hk (by omega) h.ba,hk (by omega) h.bb,⟨s,hk (by omega) hs⟩,hk hq.symm h.bx,λD hd=>hk (hD D hd) (h.ds D hd)⟩
theorem RdBox.read (h:RdBox g n q w x v1 v2 Ds W)(hq:g+3≠q)(hD:∀D∈Ds,D≠g+3)(v:List UInt8):RdBox g n q w x v1 v2 Ds (W.setCell ⟨g+3,0,none⟩ (.string ⟨v.toArray⟩)):=by
 obtain⟨s,hs⟩:=h.rd;have hk:∀{b:Nat} {o:Obj},b≠g+3->W.heap[b]? =some o->(W.setCell ⟨g+3,0,none⟩ (.string ⟨v.toArray⟩)).heap[b]? =some o:=λhb h=>(Below.heap_setCell _ _ _ _ hb).trans h;exact⟨h.bel.setCell (p:=⟨g+3,0,none⟩) (by show g<=g+3;omega) _,hk (by omega) h.bn,hk (by omega) h.ba,hk (by omega) h.bb,⟨v,hs.set v⟩,hk hq.symm h.bx,λD hd=>hk (hD D hd) (h.ds D hd)⟩
theorem RdBox.set1 (h:RdBox g n q w x v1 v2 Ds W)(hq:g+3<q)(hD:∀D∈Ds,D≠q)(v:Value):RdBox g n q w x v v2 Ds (W.setCell ⟨q,1,none⟩ v):=by
 obtain⟨s,hs⟩:=h.rd;have hk:∀{b:Nat} {o:Obj},b≠q->W.heap[b]? =some o->(W.setCell ⟨q,1,none⟩ v).heap[b]? =some o:=λhb h=>(Below.heap_setCell _ _ _ _ hb).trans h;exact⟨h.bel.setCell (p:=⟨q,1,none⟩) (by show g<=q;omega) _,hk (by omega) h.bn,hk (by omega) h.ba,hk (by omega) h.bb,⟨s,hk (by omega) hs⟩,Blk.set_ (vs:=[.int .u64 (x:Int),v1,v2]) h.bx 1 v,λD hd=>hk (hD D hd) (h.ds D hd)⟩
theorem RdBox.set2 (h:RdBox g n q w x v1 v2 Ds W)(hq:g+3<q)(hD:∀D∈Ds,D≠q)(v:Value):RdBox g n q w x v1 v Ds (W.setCell ⟨q,2,none⟩ v):=by
 obtain⟨s,hs⟩:=h.rd;have hk:∀{b:Nat} {o:Obj},b≠q->W.heap[b]? =some o->(W.setCell ⟨q,2,none⟩ v).heap[b]? =some o:=λhb h=>(Below.heap_setCell _ _ _ _ hb).trans h;exact⟨h.bel.setCell (p:=⟨q,2,none⟩) (by show g<=q;omega) _,hk (by omega) h.bn,hk (by omega) h.ba,hk (by omega) h.bb,⟨s,hk (by omega) hs⟩,Blk.set_ (vs:=[.int .u64 (x:Int),v1,v2]) h.bx 2 v,λD hd=>hk (hD D hd) (h.ds D hd)⟩
theorem RdBox.grown (h:RdBox g n q w x v1 v2 Ds W)(hg:W.grownBy W' row)(hr:∀r,row=some r->q<r)(hq:g+3<q)(hD:∀D∈Ds,row≠some D):RdBox g n q w x v1 v2 Ds W':=by
 have hl:=(Array.getElem?_eq_some_iff.1 h.bn).1;obtain⟨s,hs⟩:=h.rd;have hk:∀{b:Nat} {o:Obj},row≠some b->W.heap[b]? =some o->W'.heap[b]? =some o:=λhb' hb=>(hg.block _ (Array.getElem?_eq_some_iff.1 hb).1 (λe=>hb' e.symm)).trans hb;exact⟨h.bel.grown hg (by omega) (λk e=>by have:=hr k e;omega),hk (λe=>by have:=hr _ e;omega) h.bn,hk (λe=>by have:=hr _ e;omega) h.ba,hk (λe=>by have:=hr _ e;omega) h.bb,⟨s,hk (λe=>by have:=hr _ e;omega) hs⟩,hk (λe=>by have:=hr _ e;omega) h.bx,λD hd=>hk (hD D hd) (h.ds D hd)⟩
structure ZeroI (g:Nat) (w:World) (Ds:List Nat) (W:World):Prop where
 bel:Below g w W
 ba:W.heap[g+1]? =some (.cells #[.int .u64 0,.slice none 0 0,.slice none 0 0] 43 (0,0))
 bb:W.heap[g+2]? =some (.cells #[.bool false] 4 (0,0))
 ds:∀D∈Ds,W.heap[D]? =some (.deferred (some []))
theorem ZeroI.gby (h:ZeroI g w Ds W)(hg:W.grownBy W' row)(hr:∀r,row=some r->B<=r/\∃o:Obj,W.heap[r]? =some o/\o.isCells=false)(hB:g<=B)(hD:∀D∈Ds,D<B):ZeroI g w Ds W':=by
 have hr':=λr e=>(hr r e).2;have hl:=(Array.getElem?_eq_some_iff.1 h.ba).1;exact⟨h.bel.grown hg (by omega) (λk e=>by have:=(hr k e).1;omega),Rf hg hr' h.ba,Rf hg hr' h.bb,λD hd=>(hg.block D (Array.getElem?_eq_some_iff.1 (h.ds D hd)).1 (λe=>by have:=(hr D e.symm).1;have:=hD D hd;omega)).trans (h.ds D hd)⟩
theorem ZeroI.other (h:ZeroI g w Ds W){r:Nat}(hr:g+3<=r)(hD:∀D∈Ds,D≠r)(v:Value):ZeroI g w Ds (W.setCell ⟨r,0,none⟩ v):=by
 have hk:∀{b:Nat} {o:Obj},b≠r->W.heap[b]? =some o->(W.setCell ⟨r,0,none⟩ v).heap[b]? =some o:=λhb h=>(Below.heap_setCell _ _ _ _ hb).trans h;exact⟨h.bel.setCell (p:=⟨r,0,none⟩) (by show g<=r;omega) _,hk (by omega) h.ba,hk (by omega) h.bb,λD hd=>hk (hD D hd) (h.ds D hd)⟩
theorem RdBox.zero (h:RdBox g n q w x v1 v2 Ds W)(hD:∀D∈Ds,g+3<D):ZeroI g w Ds ((W.setRow (g+1) #[.int .u64 0,.slice none 0 0,.slice none 0 0]).setCell ⟨g+1+1,0,none⟩ (.bool false)):=
 ⟨(Tb h.bel (Nat.le_succ _)).setCell (p:=⟨g+1+1,0,none⟩) (by show g<=g+1+1;omega) _,(Below.heap_setCell _ _ _ _ (show g+1≠g+1+1 by omega)).trans (Ma h.ba),Iv ((Pb (by omega)).trans h.bb) _,
  λD hd=>(Below.heap_setCell _ _ _ _ (show D≠g+1+1 by have:=hD D hd;omega)).trans ((Pb (by have:=hD D hd;omega)).trans (h.ds D hd))⟩
theorem ZeroI.fin {T:Option Ba}(h:ZeroI g w Ds W)(hT:T=none)(hl:g+2<W.heap.size):FinAt g w T W:=O4 hT h.bel hl h.ba h.bb
theorem Yw {T:Option Ba}{r:Nat}(hr:g+3<=r)(hB:g<=B)(hD:∀D∈Ds,D<B/\D≠r):Vu r B (λ_ W=>T=none/\ZeroI g w Ds W):=
 ⟨λk A A' row hs hg hr'=>⟨hs.1,hs.2.gby hg hr' hB (λD hd=>(hD D hd).1)⟩,λk A v hs=>⟨hs.1,hs.2.other hr (λD hd=>(hD D hd).2) _⟩⟩
end
structure Lba (g n q:Nat) (w:World) (x:Nat) (s:List UInt8) (B:Nat) (ws:List (List UInt8)) (k:Nat) (W:World):Prop where
 r:∃V ys,B<=W.heap.size/\RdBox g n q w x V (.slice none 0 0) [] W/\IsReader W (g+3) s/\W.ownsRow B 3 1 V ys.length (Ya ys)/\Xa ys/\ys.length=k/\Sp.atoiAllP ws=(Sp.atoiAllP (ws.drop k)).map (ys++ ·)
theorem Oea {g n q:Nat}{w:World}{x:Nat}{s:List UInt8}{B:Nat}{ws:List (List UInt8)}{r:Nat}(hq:g+3<q)(hr:q<r)(hB:r<B):Vu r B (Lba g n q w x s B ws):=by
 refine⟨?_,?_⟩
 ·rintro k A A' row ⟨V,ys,h0,h1,h2,h3,h4⟩ hg hr'
  exact⟨V,ys,Nat.le_trans h0 hg.size,h1.gby hg hr' (by omega) nofun,Rf hg (λr e=>(hr' r e).2) h2,Xja h3 hg (λr e=>(hr' r e).2),h4⟩
 rintro k A v ⟨V,ys,h0,h1,h2,h3,h4⟩;exact⟨V,ys,by simpa using h0,h1.other (by omega) (by omega) nofun _,(Below.heap_setCell _ _ _ _ (show g+3≠r by omega)).trans h2,h3.kept (Y8 _ _ _) (Tt h3 hB),h4⟩
structure Mba (g n q:Nat) (w:World) (x:Nat) (sh:List Int) (A:Option Addr) (c:Nat) (Ds:List Nat) (B:Nat) (rd:List UInt8->Option Ba) (ps:List (List UInt8×List UInt8)) (k:Nat) (W:World):Prop where
 r:∃V cs xs,B<=W.heap.size/\RdBox g n q w x (.slice A sh.length c) V Ds W/\LiesP W (λb=>q<b/\b<B) A (Ya sh)/\W.ownsQ Ic B 85 7 V cs.length xs/\IsCelsP W (PL (q+1) W V) cs xs/\cs.length=k/\Sp.cellsP rd ps=(Sp.cellsP rd (ps.drop k)).map (cs++ ·)
theorem Nba {W:World}{r:Nat}{s:List UInt8}(h:IsReader W r s):¬HasU W r:=Fd h (by intro u hu n e;subst e;simp at hu)
theorem Pea {g n q:Nat}{w:World}{x:Nat}{sh:List Int}{A:Option Addr}{c:Nat}{Ds:List Nat}{B:Nat}{rd:List UInt8->Option Ba}{ps:List (List UInt8×List UInt8)}(hq:g+3<q)(hB:q<B)(hD:∀D∈Ds,D<B/\g+3<D):Vu (g+3) B (Mba g n q w x sh A c Ds B rd ps):=by
 refine⟨?_,?_⟩
 ·rintro k A A' row ⟨V,cs,xs,h0,h1,h2,h3,h4,h5⟩ hg hr
  have hr':=λr e=>(hr r e).2;refine⟨V,cs,xs,Nat.le_trans h0 hg.size,h1.gby hg hr (by omega) (λD hd=>(hD D hd).1),h2.keepC (λp v hp hc=>?_) (λb hb _=>hb),Mha h3 hg hr',St hg.size (λb hb hC=>Mea hg hr' hC) h4,h5⟩;obtain⟨b,off,sp⟩:=p;refine(World.cell?_of_block (hg.block b (World.block_lt_of_cell? A _ hc) (λe=>?_))).trans hc;have:=(hr b e.symm).1;have:=hp.2;dsimp only at this;omega
 rintro k A v ⟨V,cs,xs,h0,h1,h2,h3,h4,h5⟩;obtain⟨s,hs⟩:=h1.rd;refine⟨V,cs,xs,by simpa using h0,h1.read (by omega) (λD hd=>by have:=(hD D hd).2;omega) v,h2.keepC (λp u hp hc=>(World.cell?_of_block (Below.heap_setCell _ _ _ _ (show p.block≠g+3 by have:=hp.1;omega))).trans hc) (λb hb _=>hb),h3.kept (Y8 _ _ _) (Tt h3.own (by omega)),St (by simp) (λb hb hC=>Below.heap_setCell _ _ _ _ (λe=>?_)) h4,h5⟩;rw[e] at hb;rcases hb.1.2 with h |h
 ·have h:q+1<=g+3:=h;omega
 exact Nba hs h
theorem Yja {g n:Nat}{w W:World}{s:List UInt8}(h:RdAt g n w W s)(x:Nat){W4:World}(e:W4=(W.alloc (.cells #[.int .u64 0,.slice none 0 0,.slice none 0 0] 43)).setRow W.heap.size #[.int .u64 (x:Int),.slice none 0 0,.slice none 0 0]):
 RdBox g n W.heap.size w x (.slice none 0 0) (.slice none 0 0) [] W4/\IsReader W4 (g+3) s/\W.heap.size<W4.heap.size:=by
 have hl:=h.lt;have ha:=h.below ((Below.refl W.heap.size W).alloc Lr (.cells #[.int .u64 0,.slice none 0 0,.slice none 0 0] 43));have hk:=heap_alloc_new W (.cells #[.int .u64 0,.slice none 0 0,.slice none 0 0] 43);rw[e];exact⟨⟨Tb ha.bel (show g<=W.heap.size by omega),(Pb (by omega)).trans ha.bn,(Pb (by omega)).trans ha.ba,(Pb (by omega)).trans ha.bb,⟨s,(Pb (by omega)).trans ha.rd⟩,Ma hk,nofun⟩,(Pb (by omega)).trans ha.rd,by rw[size_setRow];simp⟩
theorem Nha {g n q:Nat}{w:World}{x:Nat}{v1 v2:Value}{Ds:List Nat}{W:World}{T:Option Ba}{a:Ba}(h:RdBox g n q w x v1 v2 Ds W)(hq:g+3<q)(hA:IsArrP W (PR (q+1) W) a [.int .u64 (x:Int),v1,v2])(hT:T=some a):
 FinAt g w T ((W.setRow (g+1) #[.int .u64 (x:Int),v1,v2]).setCell ⟨g+1+1,0,none⟩ (.bool true)):=by
 have hl:=(Array.getElem?_eq_some_iff.1 h.bx).1;have n1:¬HasU W (g+1):=Fd h.ba (by intro u hu n e;subst e;simp at hu);have n2:¬HasU W (g+2):=Fd h.bb (by intro u hu n e;subst e;simp at hu);have hr:=Oj (vs:= #[.int .u64 (x:Int),v1,v2]) hA (show g+1<q+1 by omega) n1;refine⟨(Tb h.bel (Nat.le_succ _)).setCell (p:=⟨g+1+1,0,none⟩) (by show g<=g+1+1;omega) _,by simp;omega,a,[.int .u64 (x:Int),v1,v2],rfl,(Below.heap_setCell _ _ _ _ (show g+1≠g+1+1 by omega)).trans (Ma h.ba),?_,?_,?_⟩
 ·rw[hT];exact Iv ((Pb (by omega)).trans h.bb) _
 ·have hk:∀b,PR (q+1) (W.setRow (g+1) #[.int .u64 (x:Int),v1,v2]) b->((W.setRow (g+1) #[.int .u64 (x:Int),v1,v2]).setCell ⟨g+1+1,0,none⟩ (.bool true)).heap[b]? =(W.setRow (g+1) #[.int .u64 (x:Int),v1,v2]).heap[b]? :=λb hb=>Below.heap_setCell _ _ _ _ (λe=>by
   have e:b=g+2:=e;subst e;rcases hb.2 with h1 |⟨off,y,hy⟩
   ·omega
   have hcc:(W.setRow (g+1) #[.int .u64 (x:Int),v1,v2]).cell? ⟨g+2,off,none⟩=W.cell? ⟨g+2,off,none⟩:=World.cell?_of_block (Pb (show g+2≠g+1 by omega));exact n2 ⟨off,y,hcc.symm.trans hy⟩)
  exact Bg (n:=g) (IsArrP.keep (λp hp=>World.cell?_of_block (hk _ hp)) (λb hb=>hb.same (by simp) (hk b hb)) _ _ hr) (by omega)
 intro y hy;rw[hT] at hy;exact(Option.some.inj hy).symm
theorem Q4 {W:World}{g D:Nat}{x:Obj}{vs:Array Value}{v:Value}(h:W.heap[D]? =some x)(hD:g+3<=D):((W.setRow (g+1) vs).setCell ⟨g+1+1,0,none⟩ v).heap[D]? =some x:=(Below.heap_setCell _ _ _ _ (show D≠g+1+1 by omega)).trans ((Pb (by omega)).trans h)
theorem Sp.pairsP_len:∀(f:Nat) (s:List UInt8) (p:List UInt8×List UInt8),p∈Sp.pairsP f s->p.1.length<=s.length/\p.2.length<=s.length
 | 0,s,p,h=>by rw[Sp.pairsP] at h;cases h
 |f+1,s,p,h=>by
  rw[Sp.pairsP] at h
  split at h
  ·cases h
  next q hq=>
  have h1:=Sp.cut_less hq;have h2:=Sp.cut_sum hq;have h3:=Sp.nextP_le q.2;have h4:=Sp.nextP_sum q.2;rcases List.mem_cons.1 h with rfl |h
  ·exact⟨by dsimp only;omega,by dsimp only;omega⟩
  have:=Sp.pairsP_len f _ p h;omega
theorem Sp.pairsP_length:∀(f:Nat) (s:List UInt8),(Sp.pairsP f s).length<=f
 | 0,s=>by rw[Sp.pairsP];exact Lr
 |f+1,s=>by
  rw[Sp.pairsP]
  split
  ·exact Nat.zero_le _
  have:=Sp.pairsP_length f;simp[this]
theorem Sp.wordsF_le:∀(f:Nat) (s p:List UInt8),p∈Sp.wordsF f s->p.length<=s.length
 | 0,s,p,h=>by rw[Sp.wordsF,List.mem_singleton] at h;rw[h];exact Lr
 |f+1,s,p,h=>by
  rw[Sp.wordsF] at h;rcases Lab.index_cut 32 s with⟨hi,hc⟩ |⟨m,hi,hm,hc⟩
  ·rw[hc,if_neg (by simp),List.mem_singleton] at h;rw[h];exact Lr
  rw[hc,if_pos rfl] at h;rcases List.mem_cons.1 h with rfl |h
  ·simp
   omega
  have:=Sp.wordsF_le f _ p h;rw[List.length_drop] at this;omega
theorem Sp.wordsF_length:∀(f:Nat) (s:List UInt8),(Sp.wordsF f s).length<=f+1
 | 0,s=>by rw[Sp.wordsF];exact Lr
 |f+1,s=>by
  rw[Sp.wordsF]
  split
  ·have:=Sp.wordsF_length f (Lab.cutAt 32 s).2.1
   simp;omega
  simp
def setL (L:Nat):Ha->Ha
 | .mk _ k n t b c ins=> .mk L k n t b c ins
theorem Qea (ch:List UInt8->Option Int)(rd:List UInt8->Option Ba)(L:Nat)(t:List UInt8):Sp.cellR ch rd L t=(Sp.cellR ch rd 0 t).map (setL L):=by
 cases t with
 |nil=>rfl
 |cons b r=>
  rw[Sp.cellR,Sp.cellR];by_cases h1:b=110
  ·rw[if_pos h1,if_pos h1]
   by_cases h2:(Dg.parse r).2=0
   ·rw[if_pos h2,if_pos h2];rfl
   rw[if_neg h2,if_neg h2];rfl
  rw[if_neg h1,if_neg h1];by_cases h2:b=99
  ·rw[if_pos h2,if_pos h2];cases ch r<;>rfl
  rw[if_neg h2,if_neg h2];by_cases h3:b=98
  ·rw[if_pos h3,if_pos h3];cases rd r<;>rfl
  rw[if_neg h3,if_neg h3];rfl
theorem Fq {ch:List UInt8->Option Int}{rd:List UInt8->Option Ba}{l t:List UInt8}(h:Sp.labP l=none):Sp.pairR ch rd l t=none:=by unfold Sp.pairR;rw[h]
theorem Zw {ch:List UInt8->Option Int}{rd:List UInt8->Option Ba}{l t:List UInt8}{L:Nat}(h:Sp.labP l=some L):Sp.pairR ch rd l t=(Sp.cellR ch rd 0 t).map (setL L):=by unfold Sp.pairR;rw[h];exact Qea _ _ _ _
end
section
open Go.RowKit Ar
theorem Rea {g n q:Nat}{w:World}{x:Nat}{s:List UInt8}{B:Nat}{V V':Value}{ys:List Int}{v:Int}{W w2:World}{o:Obj}(hq:g+3<q)(hB:q<B)(h8:B<=W.heap.size)(hbox:RdBox g n q w x V (.slice none 0 0) [] W)(hrd:IsReader W (g+3) s)(hO:W.ownsRow B 3 1 V ys.length (Ya ys))
 (hown:w2.ownsRow B 3 1 V' (ys.length+1) (Ya ys++[.int .i64 v])) (hg:(W.alloc o).grownBy w2 V.ownBlock):
 B<=(w2.setCell ⟨q,1,none⟩ V').heap.size/\RdBox g n q w x V' (.slice none 0 0) [] (w2.setCell ⟨q,1,none⟩ V')/\IsReader (w2.setCell ⟨q,1,none⟩ V') (g+3) s/\(w2.setCell ⟨q,1,none⟩ V').ownsRow B 3 1 V' (ys++[v]).length (Ya (ys++[v]))/\KeepsOthers W (w2.setCell ⟨q,1,none⟩ V')/\∀b,b≠q->b<B->(w2.setCell ⟨q,1,none⟩ V').heap[b]? =W.heap[b]? :=by
 have hal:Below W.heap.size W (W.alloc o):=Br.alloc Lr _;have hs:=hg.size;rw[World.size_alloc] at hs;have hlt:∀r,V.ownBlock=some r->B<=r/\r<W.heap.size:=λr e=>hO.lt r e;have hk:∀b,b≠q->b<B->(w2.setCell ⟨q,1,none⟩ V').heap[b]? =W.heap[b]? :=λb h1 h2=>by
  rw[Below.heap_setCell _ _ _ _ (show b≠q from h1),hg.block b (by simp;omega) (λe=>by have:=(hlt b e.symm).1;omega),hal.block b (by omega)]
 have hr2:RdBox g n q w x V (.slice none 0 0) [] w2:=(hbox.below hal).grown hg (λr e=>by have:=(hlt r e).1;omega) hq nofun;refine⟨by simp;omega,hr2.set1 hq nofun V',(hk (g+3) (by omega) (by omega)).trans hrd,?_,?_,hk⟩
 ·have h1:=hown.kept (P4 w2 q 1 V') (Tt hown hB)
  rw[List.length_append];unfold Ya at h1⊢
  simpa using h1
 refine(KeepsOthers.alloc W o).trans ((KeepsOthers.of_grownBy hg ?_).trans (KeepsOthers.setCell _ _ _));rintro j o' e ho;rcases hO.2 with⟨rfl,_⟩ |⟨gg,cap,cur,rfl,_,hgb,_⟩
 ·cases e
 injection e with e
 subst e;rw[(hal.block _ (Array.getElem?_eq_some_iff.1 hgb).1).trans hgb] at ho;injection ho with ho
 rw[<-ho];rfl
theorem Sea {g n q:Nat}{w:World}{x:Nat}{sh:List Int}{A:Option Addr}{cc:Nat}{Ds:List Nat}{B m:Nat}{V V':Value}{cs:List Ha}{xs:List Value}{c:Ha}{u:List Value}{W w2:World}{o:Obj}(hq:g+3<q)(hB:q<B)(h8:B<=W.heap.size)(hDs:∀D∈Ds,D<B/\q<D)(hbox:RdBox g n q w x (.slice A sh.length cc) V Ds W)
 (hL:LiesP W (λb=>q<b/\b<B) A (Ya sh)) (hO:W.ownsQ Ic B 85 7 V cs.length xs) (hX:IsCelsP W (PL (q+1) W V) cs xs) (hc:IsCelP W (PR m W) c u) (hm:q+1<=m) (hV:∀y,V.ownBlock=some y->y<m)
 (hown:w2.ownsQ Ic B 85 7 V' (cs.length+1) (xs++u)) (hg:(W.alloc o).grownBy w2 V.ownBlock) (hat:V'.ownBlock=V.ownBlock\/V'.ownBlock=some (W.alloc o).heap.size):
 B<=(w2.setCell ⟨q,2,none⟩ V').heap.size/\RdBox g n q w x (.slice A sh.length cc) V' Ds (w2.setCell ⟨q,2,none⟩ V')/\LiesP (w2.setCell ⟨q,2,none⟩ V') (λb=>q<b/\b<B) A (Ya sh)/\(w2.setCell ⟨q,2,none⟩ V').ownsQ Ic B 85 7 V' (cs++[c]).length (xs++u)/\IsCelsP (w2.setCell ⟨q,2,none⟩ V') (PL (q+1) (w2.setCell ⟨q,2,none⟩ V') V') (cs++[c]) (xs++u)/\KeepsOthers W (w2.setCell ⟨q,2,none⟩ V')/\∀b,b≠q->b<B->(w2.setCell ⟨q,2,none⟩ V').heap[b]? =W.heap[b]? :=by
 have hal:Below W.heap.size W (W.alloc o):=Br.alloc Lr _;have hs:=hg.size;rw[World.size_alloc] at hs;have hlt:∀r,V.ownBlock=some r->B<=r/\r<W.heap.size:=λr e=>hO.own.lt r e;have hk:∀b,b≠q->b<B->(w2.setCell ⟨q,2,none⟩ V').heap[b]? =W.heap[b]? :=λb h1 h2=>by
  rw[Below.heap_setCell _ _ _ _ (show b≠q from h1),hg.block b (by simp;omega) (λe=>by have:=(hlt b e.symm).1;omega),hal.block b (by omega)]
 have hr2:RdBox g n q w x (.slice A sh.length cc) V Ds w2:=(hbox.below hal).grown hg (λr e=>by have:=(hlt r e).1;omega) hq (λD hd e=>by have:=(hlt D e).1;have:=(hDs D hd).1;omega);have hO1:(W.alloc o).ownsQ Ic B 85 7 V cs.length xs:=hO.kept (World.grownBy_alloc _ _ none) (by cases V.ownBlock<;>simp);have hcg:IsCelsP w2 (PL (q+1) w2 V') (cs++[c]) (xs++u):=Uw (m:=m) (Ci hal hX) (T8 hc hal) hm hO1 hV hg hat;have hnu:¬HasU w2 q:=by
  obtain⟨A',c',e,-,-⟩:=Na hO.own;have h:=hr2.bx;rw[e] at h;exact Pn h
 refine⟨by simp;omega,hr2.set2 hq (λD hd=>by have:=(hDs D hd).2;omega) V',hL.keep (λp hp=>World.cell?_of_block (hk _ (by have:=hp.1;omega) hp.2)) (λb hb=>hb),?_,?_,?_,hk⟩
 ·rw[List.length_append]
  exact hown.kept (P4 w2 q 2 V') (Tt hown.own hB)
 ·exact Nj (by simp) (λb hb=>⟨Below.heap_setCell _ _ _ _ (Di (Nat.lt_succ_self _) hnu hb.1),hb.2⟩) hcg
 refine(KeepsOthers.alloc W o).trans ((KeepsOthers.of_grownBy hg ?_).trans (KeepsOthers.setCell _ _ _));rintro j o' e ho;rcases hO.2 with⟨rfl,_⟩ |⟨gg,cap,cur,rfl,_,hgb,_⟩
 ·cases e
 injection e with e
 subst e;rw[(hal.block _ (Array.getElem?_eq_some_iff.1 hgb).1).trans hgb] at ho;injection ho with ho
 rw[<-ho];rfl
end
section
open Go.RowKit Ar
section
variable {l n : Nat} {ops : Array Oper} {rest : List Oper} {o : Oper} {a : Act} {w : World} {Q : Exit -> Act -> World -> Prop} {L k c : Int} {b : Bool} {A1 A2 A3 : Option Addr} {n1 n2 n3 c1 c2 c3 : Nat} {u0 u1 u2 u3 u4 u5 u6 x : Value}
theorem Foa (hgd:o.guard=none)(x y:Operand)(ho:o.op= .store 85 x y)(g:Nat)(hx:a.eval x= .pointer (some ⟨g,0,none⟩))(hy:a.eval y= .agg #[.int .u64 L,.int .i64 k,.bool b,.slice A1 n1 c1,.slice A2 n2 c2,.int .i64 c,.slice A3 n3 c3])(hg:w.heap[g]? =some (.cells #[u0,u1,u2,u3,u4,u5,u6] 85 (0,0)))
 (h:wpListIn (Fence.wide.inRound l) n Tryz.prog ops Q rest (a.put o.dst undef) (w.setRow g #[.int .u64 L,.int .i64 k,.bool b,.slice A1 n1 c1,.slice A2 n2 c2,.int .i64 c,.slice A3 n3 c3])):wpListIn (Fence.wide.inRound l) n Tryz.prog ops Q (o::rest) a w:=
 Bf hgd (by intro c e;rw[ho] at e;cases e) λ_ hK=>wp_store_row _ x y ho g _ hx hy _ _ hg Ag rfl (by simp[Value.oneCell']) (hK _ _ h)
theorem Goa (hgd:o.guard=none)(x:Operand)(ho:o.op= .load 85 x)(g:Nat)(hx:a.eval x= .pointer (some ⟨g,0,none⟩))(hg:w.heap[g]? =some (.cells #[u0,u1,u2,u3,u4,u5,u6] 85 (0,0)))
 (h:wpListIn (Fence.wide.inRound l) n Tryz.prog ops Q rest (a.put o.dst (.agg #[u0,u1,u2,u3,u4,u5,u6])) w):wpListIn (Fence.wide.inRound l) n Tryz.prog ops Q (o::rest) a w:=
 Bf hgd (by intro c e;rw[ho] at e;cases e) λ_ hK=>wp_load_row _ x ho g hx _ _ _ _ hg Tryz.underlying85 rfl Ag (hK _ _ h)
theorem Sla (hgd:o.guard=none)(x y:Operand)(ho:o.op= .store 43 x y)(g:Nat)(hx:a.eval x= .pointer (some ⟨g,0,none⟩))(hy:a.eval y= .agg #[.int .u64 L,.slice A1 n1 c1,.slice A2 n2 c2])(hg:w.heap[g]? =some (.cells #[u0,u1,u2] 43 (0,0)))
 (h:wpListIn (Fence.wide.inRound l) n Tryz.prog ops Q rest (a.put o.dst undef) (w.setRow g #[.int .u64 L,.slice A1 n1 c1,.slice A2 n2 c2])):wpListIn (Fence.wide.inRound l) n Tryz.prog ops Q (o::rest) a w:=
 Bf hgd (by intro c e;rw[ho] at e;cases e) λ_ hK=>wp_store_row _ x y ho g _ hx hy _ _ hg Kt rfl (by simp[Value.oneCell']) (hK _ _ h)
end
theorem Ax {W:World}{g:Nat}{old vs:Array Value}{t:TypeId}{fz:Nat×Nat}(h:W.heap[g]? =some (.cells old t fz)):KeepsOthers W (W.setRow g vs):=by
 refine⟨by rw[size_setRow];exact Lr,λk o hk ho=>?_⟩;refine(Pb (λe=>?_)).trans hk;rw[e,h] at hk;injection hk with hk
 rw[<-hk] at ho;cases ho
theorem Yg {W W':World}(h:Below W.heap.size W W'):KeepsOthers W W':=⟨h.size,λk o hk _=>(h.block k (Array.getElem?_eq_some_iff.1 hk).1).trans hk⟩
end
section
open Go.RowKit Ar
theorem Zja {F:Fence}{n:Nat}{P:Program}{f:FuncId}{args:Array Value}{w:World}{R:Ending->World->Prop}{p:Prop}(h:∀W,W=w->p/\CallsIn F n P f args W R):p/\CallsIn F n P f args w R:=h _ rfl
theorem IsCelP.setL {w:World}{P:Nat->Prop}{c:Ha}{v0:Value}{vs:List Value}{L:Nat}(h:IsCelP w P c (v0::vs))(hL:L<18446744073709551616):IsCelP w P (setL L c) (.int .u64 (L:Int)::vs):=by
 cases c;exact h.lab hL
attribute [local go_sem] Oper.semAt_some
def Sn (s:List UInt8)(n g q x:Nat)(N1 T1:List UInt8)(b1 b2:Bool)(u:Nat->Value)(ds:List Deferred):Act:=
 { tmps:= #[.string ⟨s.toArray⟩,.int .i64 (n:Int),u 2,.pointer (some ⟨g,0,none⟩),.pointer (some ⟨g+1,0,none⟩),.pointer (some ⟨g+1+1,0,none⟩),.pointer (some ⟨g+1+1+1,0,none⟩),.func (.func 125) #[.pointer (some ⟨g+1+1+1,0,none⟩)] #[],
  .string ⟨N1.toArray⟩,.bool b1,.string ⟨T1.toArray⟩,.bool b2,.int .u64 (x:Int),.int .i64 0,.pointer (some ⟨q,0,none⟩),
  u 15,u 16,u 17,u 18,u 19,u 20,u 21,u 22,u 23,u 24,u 25,u 26,u 27,u 28,u 29,u 30,u 31,u 32,u 33,u 34,u 35,u 36,u 37,u 38,u 39,u 40,u 41,u 42,u 43,u 44,u 45,u 46,u 47,u 48,u 49,u 50,u 51,u 52,u 53,u 54,u 55,u 56,u 57,u 58,u 59,u 60,u 61,u 62,u 63,u 64,u 65,u 66,u 67,u 68,u 69,u 70,u 71,u 72,u 73,u 74,u 75,u 76,u 77,u 78,u 79,u 80,u 81,u 82,u 83,u 84,u 85,u 86,u 87,u 88,u 89,u 90,u 91,u 92,u 93,u 94,u 95,u 96,u 97,u 98],defers:=ds}
theorem Aka {n g q x:Nat}{s N1 T1:List UInt8}{b1 b2:Bool}{P:Program}{c:Code}{Q:Exit->Act->World->Prop}{W:World}(h:∀u,c.wp P Q (Sn s n g q x N1 T1 b1 b2 u []) W)(a:Act)(ha:a=Sn s n g q x N1 T1 b1 b2 (λi=>a.tmps.getD i undef) []):c.wp P Q a W:=by rw[ha];exact h _
theorem Oy {ws:List (List UInt8)}{k:Nat}(hk:k<ws.length):Sp.atoiAllP (ws.drop k)=match Sp.atoiP ws[k] with |none=>none |some n=>(Sp.atoiAllP (ws.drop (k+1))).map (n:: ·):=by
 rw[List.drop_eq_getElem_cons hk,Sp.atoiAllP];rfl
theorem Bx {n:Nat}(hn:n<=100)(ih:∀m,n=m+1->Jba m):Jba n:=by
 intro s w hs hw;obtain⟨T,hT⟩:∃T,T=Sp.readP (n+1) s:=⟨_,rfl⟩;rw[<-hT];have HT:=Qd hT;obtain⟨W,hW⟩:∃W,W=(((w.alloc (.cells #[.int .i64 (n:Int)] 3)).alloc (.cells #[.int .u64 0,.slice none 0 0,.slice none 0 0] 43)).alloc (.cells #[.bool false] 4)).alloc (.cells #[.string ⟨s.toArray⟩] 149):=⟨_,rfl⟩;have hat:=Qla w n s W hW;have HW:=Qd hW;have hs4:W.heap.size=w.heap.size+4:=by rw[hW];simp
 obtain⟨g,hg⟩:∃g,g=w.heap.size:=⟨_,rfl⟩;rw[<-hg] at hat hs4;have HG:=Qd hg;have HAT:=Qd hat;have HS4:=Qd hs4;have HF:Hid (∀wx,Below g w wx->RdW wx):=Qd (λwx hb=>hw.below (by rw[<-HG.out];exact hb));have hn1:=Sp.nextP_le s;have hn2:=Sp.nextP_le (Sp.nextP s).2;have RC:=Qd (λ(t:List UInt8) (wx:World) (h:t.length<1000000) (hw:RdW wx)=>F4 hn ih t wx h hw);have NX:=Qd (Kl s (g+3) W (by omega) hat.rd);clear hW hg hat hs4 hw hT ih;refine(callsIn_wide (n:=9)).1 ?_;refine callsIn_of_wp_marks Tryz.func96 rfl trivial ?_ rfl;refine wpIn_wide.2 ?_;simp only[Tryz.ntmps96,List.size_toArray,List.length_cons,List.length_nil,Nat.reduceAdd,Nat.reduceSub,Array.replicate_succ,Array.replicate_zero,List.push_toArray,List.append_toArray,List.nil_append,List.cons_append];go_upto_region 2 with fail
 rw[<-HW.out,<-HG.out];go_upto_region 4 with fail
 refine NX.out.mono ?_;rintro e W1 ⟨rfl,hr1,hn1'⟩;have hat1:=HAT.out.next hr1 hn1';have HAT1:=Qd hat1;have NX1:=Qd (Kl (Sp.nextP s).2 (g+3) W1 (by omega) hr1);clear hr1 hn1' hat1 NX;go_upto_region 5 with fail
 refine NX1.out.mono ?_;rintro e W2 ⟨rfl,hr2,hn2'⟩;have hat2:=HAT1.out.next hr2 hn2';have HAT2:=Qd hat2;have hF2:=HF.out W2 hat2.bel;have LP:=Qd (Vi (Sp.nextP s).1 W2 (by omega) hF2.sp.tab hF2.sp.lt);clear hr2 hn2' hat2 NX1 hF2 HAT HAT1;go_upto_region 6 with(go_at_call 62;refine LP.out.mono ?_;rintro e W3 ⟨hb3,x,ok,rfl,hsp⟩;replace hsp:=Qd hsp;replace hb3:=Qd hb3)
 have hlp:=Qd (Sp.labP_spec hsp.out);have hx:x<18446744073709551616:=by rcases hsp.out with⟨-,h,-⟩ |⟨-,h,-⟩<;>omega
 have HAT3:=Qd (HAT2.out.below hb3.out);clear hsp hb3 LP HAT2;have ka:=Qd HAT3.out.ba;have kb:=Qd HAT3.out.bb;cases ok with
 |false=>
  have HN:Hid (T=none):=Qd (HT.out.trans (Nea (by rw[hlp.out];rfl)));have⟨cb,fb⟩:=Pj (u:= #[.int .u64 0,.slice none 0 0,.slice none 0 0]) kb.out;have hl3:=HAT3.out.lt;have HFIN:=Qd (Rla HN.out HAT3.out);clear RC HF;go_wp2_with (with_reducible refine Vh rfl (.tmp 4) (.tmp 46) rfl (g+1) rfl rfl ka.out ?_)
  exact Df HG.out rfl rfl [] _ List.nodup_nil nofun HFIN.out
 |true=>
  have HTG:=Qd (HT.out.trans (Kba (by rw[hlp.out];rfl)));have k4:=heap_alloc_new W3 (.cells #[.int .u64 0,.slice none 0 0,.slice none 0 0] 43);clear HT hlp;go_upto_region 9 with(with_reducible refine Vh rfl (.tmp 14) (.tmp 48) rfl W3.heap.size rfl rfl k4 ?_)
  refine Gc ?_;intro W4 hW4;obtain⟨q,hq⟩:∃q,q=W3.heap.size:=⟨_,rfl⟩;have hbx:=Yja HAT3.out x hW4;have hq3:g+3<q:=by rw[hq];exact HAT3.out.lt
  rw[<-hq] at hbx⊢;obtain⟨hbox,hrd,hqW⟩:=hbx;have HBOX:=Qd hbox;have HRD:=Qd hrd;clear hW4 hq hbox hrd k4 ka kb HAT3 HW HS4;have hs2l:(Sp.nextP (Sp.nextP s).2).2.length<1000000:=by omega
  have ht1l:(Sp.nextP (Sp.nextP s).2).1.length<1000000:=by omega
  clear hn1 hn2 hs;generalize(Sp.nextP (Sp.nextP s).2).2=s2 at*;generalize(Sp.nextP (Sp.nextP s).2).1=t1 at*;generalize(Nw.cut (Sp.nextP s).2).isSome=b2;generalize(Nw.cut s).isSome=b1;generalize(Sp.nextP s).1=n1 at*;rename_i K1 hK1 K0 hK0;have HREST:Hid (∀(u:Nat->Value) (Ds:List Nat) (Ash:Option Addr) (Csh:Nat) (sh:List Int) (W:World),RdBox g n q w x (.slice Ash sh.length Csh) (.slice none 0 0) Ds W->IsReader W (g+3) s2->LiesP W (λb=>q<b/\b<W.heap.size) Ash (Ya sh)->Xa sh->sh.length<=1000000->sh.length<=Csh->Csh<=maxLen->Ds.Nodup->(∀D∈Ds,q<D)->
   T=(Sp.cellsP (Sp.readP n) (Sp.pairsP s2.length s2)).map (λcs=>Ba.mk x sh cs)->K1 (Sn s n g q x n1 t1 b1 b2 u (Ds.map Lha)) W):=Qd (by
   intro u Ds Ash Csh sh W hbox hrd hL hw64 hsl hC1 hC2 hnd hDs hTe;refine hK1 _ _ ?_;clear hK0 HTG HBOX HRD;have HBOX:=Qd hbox;have HTE:=Qd hTe;have HL:=Qd hL;have HW6:=Qd hw64;have PR:=Qd (Jea (.func 125) #[.pointer (some ⟨g+1+1+1,0,none⟩)] #[] W);have HRD:=Qd hrd;clear hbox hTe hL hw64 hrd;unfold Sn;go_wp2_with (refine PR.out.mono ?_;rintro e W7 ⟨rfl,rfl⟩)
   refine Gc ?_;intro W7 hW7;have hbx7:W7.heap[W.heap.size]? =some (.cells #[.func (.func 125) #[.pointer (some ⟨g+3,0,none⟩)] #[]] 150 (0,0)):=by rw[hW7];exact heap_alloc_new W _
   have hb7:Below W.heap.size W W7:=by rw[hW7];exact Br.alloc Lr _
   have hs7:W7.heap.size=W.heap.size+1:=by rw[hW7];simp
   have hbox7:=HBOX.out.below hb7;have hrd7:=HRD.out.below hb7;have hqs:q<W.heap.size:=(Array.getElem?_eq_some_iff.1 HBOX.out.bx).1;obtain⟨bx,hbx⟩:∃bx,bx=W.heap.size:=⟨_,rfl⟩;rw[<-hbx] at hbx7 hb7 hs7 hqs⊢;have hDq:∀D∈Ds,D<W7.heap.size/\g+3<D:=λD hd=>⟨(Array.getElem?_eq_some_iff.1 (hbox7.ds D hd)).1,by have:=hDs D hd;omega⟩;have hL7:LiesP W7 (λb=>q<b/\b<W7.heap.size) Ash (Ya sh):=HL.out.keep (λp hp=>World.cell?_of_block (hb7.block _ (by rw[hbx];exact hp.2))) (λb hb=>⟨hb.1,by have:=hb.2;omega⟩);obtain⟨ps,hps⟩:∃ps,ps=Sp.pairsP s2.length s2:=⟨_,rfl⟩;have HPL:Hid (∀p∈ps,p.1.length<1000000/\p.2.length<1000000):=Qd (λp hp=>by rw[hps] at hp;have:=Sp.pairsP_len _ _ p hp;omega);have hseq:=Kea 8 bx (g+3) s2 W7 (by omega) hbx7 (by omega) hrd7 (by decide);have hpl:ps.length<=1000000:=by have:=Sp.pairsP_length s2.length s2;rw[<-hps] at this;omega
   rw[<-hps] at hseq HTE;have h0:Mba g n q w x sh Ash Csh Ds W7.heap.size (Sp.readP n) ps 0 W7:=⟨.slice none 0 0,[],[],Lr,hbox7,hL7,World.ownsQ_nil _ _ _ _ _,by rw[IsCelsP],rfl,by simp⟩;have HSEQ:=Qd hseq;have H0:=Qd h0;have HDQ:=Qd hDq;clear hps hbx7 hb7 hbox7 hrd7 hL7 hseq h0 hDq PR HRD HL HBOX hbx hW7;refine(wpIn_wide (n:=9)).1 ?_;refine Zl (gf:=161) (lb:= #[.pointer (some ⟨bx,0,none⟩)]) rfl (enters_of Tryz.func161 (by kernel_rfl) rfl) (encs:=Ry) (xs:=ps) (r:=g+3) (ks:=[bx,g+3]) (by omega) (by intro b hb;simp at hb;omega) (by decide) HSEQ.out (λ_=>rfl)
    (Mba g n q w x sh Ash Csh Ds W7.heap.size (Sp.readP n) ps) (λ_ W=>T=none/\ZeroI g w Ds W) (Pea hq3 (by omega) HDQ.out) (Yw Lr (by omega) (λD hd=>⟨(HDQ.out D hd).1,by have:=(HDQ.out D hd).2;omega⟩)) H0.out
    (λp=>Sn s n g q x n1 t1 b1 b2 (λi=>match i with | 18=> .string ⟨p.1.toArray⟩ | 19=> .string ⟨p.2.toArray⟩ | 68=> .func (.func 125) #[.pointer (some ⟨g+1+1+1,0,none⟩)] #[] | 69=> .func (.func 161) #[] #[.pointer (some ⟨bx,0,none⟩)] | 70=> .string ⟨p.1.toArray⟩ | 71=> .string ⟨p.2.toArray⟩ |_=>u i) []) ?assign ?body ?done ?stop
   case assign=>
    intro l p W K hK;unfold Ry
    gi_wp2
    exact hK
   case body=>
    rintro l k hk W8 ⟨V,cs,xs,h8,hbox,hL,hO,hX,rfl,hcells⟩;obtain⟨p,hp⟩:∃p,p=ps[cs.length]:=⟨_,rfl⟩;have hpl2:p.1.length<1000000/\p.2.length<1000000:=HPL.out p (by rw[hp];exact List.getElem_mem _);rw[List.drop_eq_getElem_cons hk] at hcells;rw[<-hp] at hcells⊢;obtain⟨R,hR⟩:∃R,R=Sp.cellR Sp.atoiP (Sp.readP n) 0 p.2:=⟨_,rfl⟩;have RC1:=CallsIn.inRound l (callsIn_wide (n:=6)|>.2 (RC.out p.2 W8 hpl2.2 (HF.out W8 hbox.bel)));rw[<-hR] at RC1;replace RC1:=Qd RC1;have HR:=Qd hR;have hcn:W8.cell? ⟨g,0,none⟩=some (.int .i64 (n:Int)):=by have:=hbox.bn;simp[World.cell?,this]
    have HBOX:=Qd hbox;have HL:=Qd hL;have HO:=Qd hO;have HX:=Qd hX;have HC:=Qd hcells;clear hp hR hbox hL hO hX hcells H0 HSEQ HPL RC;unfold Sn
    gi_wp2_with (first
     |(refine⟨trivial,?_⟩;gi_at_call 128;refine RC1.out.mono ?_;rintro e w5 ⟨c,vs,rfl,hc5,hce5,hb5⟩;obtain⟨L,kd,neg,A1,n1',c1,A2,n2,c2,ch,A3,n3,c3,rfl,hL'⟩:=hc5.form;have hz5:=heap_alloc_new w5 (.cells #[.int .u64 0,.int .i64 0,.bool false,.slice none 0 0,.slice none 0 0,.int .i64 0,.slice none 0 0] 85);replace hc5:=Qd hc5;replace hce5:=Qd hce5;replace hb5:=Qd hb5)
     |(with_reducible refine Foa rfl (.tmp 20) (.tmp 76) rfl w5.heap.size rfl rfl hz5 ?_))
    refine Zja ?_;intro W6 hW6;have hs5:=hb5.out.size;have hb56:Below w5.heap.size w5 W6:=by rw[hW6];exact Tb (Br.alloc Lr _) Lr
    have k6:W6.heap[w5.heap.size]? =some (.cells #[.int .u64 (L:Int),.int .i64 kd,.bool neg,.slice A1 n1' c1,.slice A2 n2 c2,.int .i64 ch,.slice A3 n3 c3] 85 (0,0)):=by rw[hW6];exact Ma hz5
    have hb6:Below W8.heap.size W8 W6:=hb5.out.trans (hb56.mono hs5);have hc6:IsCelP W6 (λb=>PR W8.heap.size W6 b/\b<w5.heap.size) c [.int .u64 (L:Int),.int .i64 kd,.bool neg,.slice A1 n1' c1,.slice A2 n2 c2,.int .i64 ch,.slice A3 n3 c3]:=IsCelP.keep (λp hp=>World.cell?_of_block (hb56.block _ hp.1)) (λb hb=>⟨hb.below hb56,hb.1⟩) _ _ hc5.out;obtain⟨b20,hb20⟩:∃b,b=w5.heap.size:=⟨_,rfl⟩;rw[<-hb20] at k6 hc6⊢;have h20:W8.heap.size<=b20:=by omega
    have hF6:=HF.out W6 (HBOX.out.bel.trans (hb6.mono (by have:=HBOX.out.bel.size;have:=HG.out;omega)));refine⟨trivial,(CallsIn.inRound l (callsIn_wide.2 (Vi p.1 W6 (by omega) hF6.sp.tab hF6.sp.lt))).mono ?_⟩;rintro e w7 ⟨hb7,x',ok,rfl,hsp⟩;have HLP:=Qd (Sp.labP_spec hsp);have hx':x'<18446744073709551616:=by rcases hsp with⟨-,h,-⟩ |⟨-,h,-⟩<;>omega
    have hb8:Below W8.heap.size W8 w7:=hb6.trans (hb7.mono hb6.size);have HC7:Hid (IsCelP w7 (λb=>PR W8.heap.size w7 b/\b<b20) c [.int .u64 (L:Int),.int .i64 kd,.bool neg,.slice A1 n1' c1,.slice A2 n2 c2,.int .i64 ch,.slice A3 n3 c3]):=Qd (IsCelP.keep (λp hp=>World.cell?_of_block (hb7.block _ hp.1.1)) (λb hb=>⟨hb.1.below hb7,hb.2⟩) _ _ hc6);have k7:w7.heap[b20]? =some (.cells #[.int .u64 (L:Int),.int .i64 kd,.bool neg,.slice A1 n1' c1,.slice A2 n2 c2,.int .i64 ch,.slice A3 n3 c3] 85 (0,0)):=(hb7.block _ (Array.getElem?_eq_some_iff.1 k6).1).trans k6;have HB8:=Qd hb8;have hbox7:=HBOX.out.below hb8;clear hsp hW6 hb56 hb6 hc6 hb20 hF6 hb7 hb8 k6 hz5 hc5 hb5 hs5 RC1 hcn;obtain⟨fr,hfr⟩:∃fr,fr=R.isSome:=⟨_,rfl⟩;rw[<-hfr];by_cases hbad:fr=false\/ok=false
    ·have HN:Hid (T=none):=Qd (by
      have hp0:Sp.pairR Sp.atoiP (Sp.readP n) p.1 p.2=none:=by
       rcases hbad with h |h
       ·cases hl:Sp.labP p.1 with
        |none=>exact Fq hl
        |some L0=>
         rw[Zw hl,<-HR.out];rw[h] at hfr;cases hRr:R with
         |none=>rfl
         |some y=>rw[hRr] at hfr;cases hfr
       exact Fq (by rw[HLP.out,h];rfl)
      rw[HTE.out,HC.out,Sp.cellsP,hp0];rfl)
     have kz:=Qd hbox7.ba;have⟨cb,fb⟩:=Pj (u:= #[.int .u64 0,.slice none 0 0,.slice none 0 0]) hbox7.bb;have HZ:=Qd (hbox7.zero (λD hd=>(HDQ.out D hd).2));have HK:=Qd (((Yg HB8.out).trans (Ax (vs:= #[.int .u64 0,.slice none 0 0,.slice none 0 0]) hbox7.ba)).trans (KeepsOthers.setCell _ ⟨g+1+1,0,none⟩ (.bool false)));clear hfr HL HO HX HC HR HLP HC7 k7 hbox7;have hz:fr=false\/(fr=true/\ok=false):=by cases fr<;>simp_all
     clear hbad;rcases hz with rfl |⟨rfl,rfl⟩
     all_goals
      gi_wp2_with (with_reducible refine Sla rfl (.tmp 4) (.tmp 89) rfl (g+1) rfl rfl kz.out ?_)
     all_goals exact⟨HK.out,HN.out,HZ.out⟩
    obtain⟨rfl,rfl⟩:fr=true/\ok=true:=by cases fr<;>cases ok<;>simp_all
    obtain⟨iC,hiC,hz0,hz1,hz2⟩:=info_parts V8;obtain⟨c0,hc0⟩:∃c0,R=some c0:=by cases R with
     |none=>cases hfr
     |some y=>exact⟨y,rfl⟩
    obtain rfl:=hce5.out c0 hc0;have HC2:Hid (Sp.cellsP (Sp.readP n) ps=(Sp.cellsP (Sp.readP n) (ps.drop (cs.length+1))).map ((cs++[setL x' c0])++ ·)):=Qd (by
     rw[HC.out,Sp.cellsP,Zw (L:=x') (by rw[HLP.out];rfl),<-HR.out,hc0];simp[Option.map_map,Function.comp_def])
    obtain⟨A',c',rfl,-,-⟩:=Na HO.out.own;have hb10:Below W8.heap.size W8 (w7.setCell ⟨b20,0,none⟩ (.int .u64 (x':Int))):=HB8.out.setCell (p:=⟨b20,0,none⟩) h20 _;have c20:w7.cell? ⟨b20,0,none⟩=some (.int .u64 (L:Int)):=by simp[World.cell?,k7]
    have f20:w7.frozen? ⟨b20,0,none⟩=false:=by simp[World.frozen?,k7]
    have k10:Hid ((w7.setCell ⟨b20,0,none⟩ (.int .u64 (x':Int))).heap[b20]? =some (.cells #[.int .u64 (x':Int),.int .i64 kd,.bool neg,.slice A1 n1' c1,.slice A2 n2 c2,.int .i64 ch,.slice A3 n3 c3] 85 (0,0))):=Qd (Blk.set_ (vs:=[.int .u64 (L:Int),.int .i64 kd,.bool neg,.slice A1 n1' c1,.slice A2 n2 c2,.int .i64 ch,.slice A3 n3 c3]) k7 0 _);have hc10:IsCelP (w7.setCell ⟨b20,0,none⟩ (.int .u64 (x':Int))) (PR W8.heap.size (w7.setCell ⟨b20,0,none⟩ (.int .u64 (x':Int)))) (setL x' c0) [.int .u64 (x':Int),.int .i64 kd,.bool neg,.slice A1 n1' c1,.slice A2 n2 c2,.int .i64 ch,.slice A3 n3 c3]:=by
     have hk:∀b,PR W8.heap.size w7 b/\b<b20->(w7.setCell ⟨b20,0,none⟩ (.int .u64 (x':Int))).heap[b]? =w7.heap[b]? :=λb hb=>Below.heap_setCell _ _ _ _ (show b≠b20 by have:=hb.2;omega);exact(IsCelP.keep (λp hp=>World.cell?_of_block (hk _ hp)) (λb hb=>hb.1.same (by simp) (hk b hb)) _ _ HC7.out).setL hx'
    have hlw:b20<w7.heap.size:=(Array.getElem?_eq_some_iff.1 k7).1;obtain⟨W10,hW10⟩:∃W10,W10=w7.setCell ⟨b20,0,none⟩ (.int .u64 (x':Int)):=⟨_,rfl⟩;have hs10:W10.heap.size=w7.heap.size:=by rw[hW10];simp
    have HW10:=Qd hW10;rw[<-hW10] at hb10 k10 hc10;have hbox10:=HBOX.out.below hb10;have HO10:Hid (W10.ownsQ Ic W7.heap.size 85 7 (.slice A' cs.length c') cs.length xs):=Qd (HO.out.kept (Xw hb10) (by cases (Value.slice A' cs.length c').ownBlock<;>simp));have HO11:Hid ((W10.alloc (.cells #[.int .u64 (x':Int),.int .i64 kd,.bool neg,.slice A1 n1' c1,.slice A2 n2 c2,.int .i64 ch,.slice A3 n3 c3] 85)).ownsQ Ic W7.heap.size 85 7 (.slice A' cs.length c') cs.length xs):=Qd (HO10.out.kept (World.grownBy_alloc _ _ none) (by cases (Value.slice A' cs.length c').ownBlock<;>simp));have HV:Hid (∀y,(Value.slice A' cs.length c').ownBlock=some y->W7.heap.size<=y/\y<W8.heap.size):=Qd (λy e=>HO.out.own.lt y e);have s2:W10.cell? ⟨q,2,none⟩=some (.slice A' cs.length c'):=Blk.cell hbox10.bx rfl;have hqb:q<W10.heap.size:=(Array.getElem?_eq_some_iff.1 hbox10.bx).1;have h10s:W7.heap.size<=W10.heap.size:=by omega
    have HBOX10:=Qd hbox10;have HB10:=Qd hb10;have HC10:=Qd hc10;clear hs10 hb10 hbox10 hc10 hW10 hbad hfr hc0 HC HR HLP HC7 hbox7 HB8 hce5 k7
    gi_wp2_with (first
     |(rw[<-HW10.out])
     |(with_reducible refine Goa rfl (.tmp 20) rfl b20 rfl k10.out ?_)
     |(gi_at_builtin;refine Bf rfl (by intro c e;cases e) λK hK=>Lk _ _ _ 41 rfl Ic W7.heap.size 85 iC (.agg #[.int .u64 0,.int .i64 0,.bool false,.slice none 0 0,.slice none 0 0,.int .i64 0,.slice none 0 0]) 7 104 Tryz.underlying41 hiC hz0 hz1 hz2 rfl (by decide) Ww (.slice A' cs.length c') cs.length xs rfl HO11.out ⟨_,0,none⟩ 1 1 [.int .u64 (x':Int),.int .i64 kd,.bool neg,.slice A1 n1' c1,.slice A2 n2 c2,.int .i64 ch,.slice A3 n3 c3] rfl rfl (El W10 _ _) (by simp[Value.oneCell']) Q3 (by unfold maxLen;omega) (by omega) (by simp;omega) ?_;intro v9 w9 hown9 hgrow9 hnn9 hat9;refine hK _ _ ?_;clear hK;obtain⟨A9,c9,rfl,-⟩:=Na hown9.own;have k9:=(hgrow9.block q (by simp;omega) (λe=>by have:=(HV.out _ e.symm).1;omega)).trans ((Blk.alloc HBOX10.out.bx _));have s9:w9.cell? ⟨q,2,none⟩=some (.slice A' cs.length c'):=Blk.cell k9 rfl;have f9:=Blk.frozen k9 2;replace hown9:=Qd hown9;replace hgrow9:=Qd hgrow9;replace hat9:=Qd hat9;clear hnn9 k9))
    have hm:=Sea (m:=W8.heap.size) hq3 (by omega) h10s (λD hd=>⟨(HDQ.out D hd).1,hDs D hd⟩) HBOX10.out (HL.out.keep (λp hp=>World.cell?_of_block (HB10.out.block _ (by have:=hp.2;omega))) (λb hb=>hb)) HO10.out (Ci HB10.out HX.out) HC10.out (by omega) (λy e=>(HV.out y e).2) hown9.out hgrow9.out hat9.out;obtain⟨m1,m2,m3,m4,m5,m6,m7⟩:=hm;exact⟨(Yg HB10.out).trans m6,λb hb=>(m7 b (by simp at hb;omega) (by simp at hb;omega)).trans (HB10.out.block b (by simp at hb;omega)),⟨_,_,_,m1,m2,m3,m4,m5,by simp,HC2.out⟩⟩
   case done=>
    rintro D W8 hD ⟨V,cs,xs,h8,hbox,hL,hO,hX,hlen,hcells⟩ hDef;rw[List.drop_length,show Sp.cellsP (Sp.readP n) []=some [] from rfl] at hcells;obtain⟨A',c',rfl,hA⟩:=Bq (n:=q+1) hx hsl hC1 hC2 HW6.out (hL.keep (λ_ _=>rfl) (λb hb=>⟨by have:=hb.2;omega,.inl hb.1⟩)) hO (by omega) hX (by omega);have hfin:=Nha hbox hq3 hA (HTE.out.trans (by rw[hcells];simp));have hmk:∀D'∈D::Ds,((W8.setRow (g+1) #[.int .u64 (x:Int),.slice Ash sh.length Csh,.slice A' cs.length c']).setCell ⟨g+1+1,0,none⟩ (.bool true)).heap[D']? =some (.deferred (some []))/\g+3<=D':=by
     intro D' hd;rcases List.mem_cons.1 hd with rfl |hd
     ·exact⟨Q4 hDef (by omega),by omega⟩
     have h1:=(HDQ.out D' hd).2;exact⟨Q4 (hbox.ds D' hd) (by omega),by omega⟩
    have hno:(D::Ds).Nodup:=List.nodup_cons.2 ⟨λhd=>by have:=(HDQ.out D hd).1;omega,hnd⟩;have HK:=Qd (And.intro hfin (And.intro hmk hno));have HX8:=Qd hbox.bx;have HA8:=Qd hbox.ba;have⟨cb,fb⟩:=Pj (u:= #[.int .u64 (x:Int),.slice Ash sh.length Csh,.slice A' cs.length c']) hbox.bb;clear hfin hmk hno hbox hL hO hX hA hcells hDef H0 HSEQ hlen;go_upto_region 25 with fail
    go_wp2_with (first|(with_reducible refine Dm rfl (.tmp 14) rfl q rfl HX8.out ?_) |(with_reducible refine Vh rfl (.tmp 4) (.tmp 98) rfl (g+1) rfl rfl HA8.out ?_))
    refine Df (g:=g) HG.out ?_ ?_ (D::Ds) _ HK.out.2.2 HK.out.2.1 HK.out.1
    ·rfl
    rfl
   case stop=>
    rintro D k W8 hD hk ⟨hT,hz⟩ hDef;have hl:=(Array.getElem?_eq_some_iff.1 hDef).1;refine wpIn_ret ?_;refine Df (g:=g) HG.out ?_ ?_ (D::Ds) _ (List.nodup_cons.2 ⟨λhd=>by have:=(HDQ.out D hd).1;omega,hnd⟩) (λD' hd=>?_) (hz.fin hT (by omega))
    ·rfl
    ·rfl
    rcases List.mem_cons.1 hd with rfl |hd
    ·exact⟨hDef,by omega⟩
    have h1:=(HDQ.out D' hd).2;exact⟨hz.ds D' hd,by omega⟩)
  have HREST2:Hid (∀(a:Act) (Ds:List Nat) (Ash:Option Addr) (Csh:Nat) (sh:List Int) (W:World),a=Sn s n g q x n1 t1 b1 b2 (λi=>a.tmps.getD i undef) (Ds.map Lha)->RdBox g n q w x (.slice Ash sh.length Csh) (.slice none 0 0) Ds W->IsReader W (g+3) s2->LiesP W (λb=>q<b/\b<W.heap.size) Ash (Ya sh)->Xa sh->sh.length<=1000000->sh.length<=Csh->Csh<=maxLen->Ds.Nodup->(∀D∈Ds,q<D)->
   T=(Sp.cellsP (Sp.readP n) (Sp.pairsP s2.length s2)).map (λcs=>Ba.mk x sh cs)->K1 a W):=Qd (λa Ds Ash Csh sh W ha h1 h2 h3 h4 h5 h6 h7 h8 h9 h10=>by rw[ha];exact HREST.out _ Ds Ash Csh sh W h1 h2 h3 h4 h5 h6 h7 h8 h9 h10)
  clear HREST hK1 RC;refine Aka (n:=n) (g:=g) (q:=q) (x:=x) (s:=s) (N1:=n1) (T1:=t1) (b1:=b1) (b2:=b2) ?_ _ (by rfl);intro u;unfold Sn;by_cases h0:t1=[]
  ·subst h0
   clear HF;go_wp2_with fail
   trace_state
   refine HREST2.out _ [] none 0 [] W4 (by rfl) HBOX.out HRD.out (.inl rfl) nofun (Nat.zero_le _) Lr (Nat.zero_le _) List.nodup_nil nofun ?_;rw[HTG.out];rfl
  have hte:(t1==[])=false:=beq_eq_false_iff_ne.2 h0;have SS:=Qd (J4 t1 W4);go_wp2_with (refine SS.out.mono ?_;rintro e W5 ⟨rfl,rfl⟩)
  refine Gc ?_;intro W7 hW7;obtain⟨b,hb⟩:∃b,b=W4.heap.size:=⟨_,rfl⟩;have hs7:W7.heap.size=b+3:=by rw[hW7,hb];simp
  have hb7:Below W4.heap.size W4 W7:=by rw[hW7];exact((Br.alloc Lr _).alloc (by simp) _).alloc (by simp<;>omega) _
  have t0:Txt W7 b t1:=by
   unfold Txt;rw[hW7,hb,heap_alloc_old _ _ (by simp<;>omega),heap_alloc_old _ _ (by simp),heap_alloc_new]
  have t2:Txt W7 (b+1) [32]:=by
   unfold Txt;rw[hW7,hb,heap_alloc_old _ _ (by simp)];have:=heap_alloc_new (W4.alloc (.cells #[.string ⟨t1.toArray⟩] 9)) (.cells #[.string ⟨#[32]⟩] 9)
   simpa using this
  have t3:W7.heap[b+2]? =some (.cells #[.int .i64 0] 3 (0,0)):=by
   rw[hW7,hb];have:=heap_alloc_new ((W4.alloc (.cells #[.string ⟨t1.toArray⟩] 9)).alloc (.cells #[.string ⟨#[32]⟩] 9)) (.cells #[.int .i64 0] 3)
   simpa using this
  have hbox7:=HBOX.out.below hb7;have hrd7:=HRD.out.below hb7;obtain⟨ws,hws⟩:∃ws,ws=Sp.words t1:=⟨_,rfl⟩;have HTS:Hid (Sp.shapeP t1=Sp.atoiAllP ws):=Qd (by unfold Sp.shapeP;rw[if_neg h0,hws]);have HWL:Hid (∀y∈ws,y.length<=1000000):=Qd (λy hy=>by rw[hws] at hy;have:=Sp.wordsF_le _ _ _ hy;omega);have hwl:ws.length<=1000000:=by have:=Sp.wordsF_length t1.length t1;rw[hws];unfold Sp.words;omega
  have hseq:=Lea 8 b t1 W7 (Nat.le_of_lt ht1l) t0 t2 t3 (by decide);rw[<-hws] at hseq;have HSEQ:=Qd hseq;have hi0:Lba g n q w x s2 W7.heap.size ws 0 W7:=⟨.slice none 0 0,[],Lr,hbox7,hrd7,World.ownsRow_nil _ _ _ _,nofun,rfl,by simp⟩;have H0:=Qd hi0;rw[<-hb] at hqW⊢;clear hW7 t0 t2 t3 hbox7 hrd7 hws hseq hi0 HBOX HRD hb7 hb SS hte;obtain⟨i0,hi,hz0,hz1,hz2⟩:=info_parts Jt;refine(wpIn_wide (n:=9)).1 ?_;refine Zl (gf:=192) (lb:= #[.pointer (some ⟨b+1,0,none⟩),.pointer (some ⟨b,0,none⟩),.pointer (some ⟨b+2,0,none⟩)]) rfl (enters_of Tryz.func192 (by kernel_rfl) rfl) (encs:=Qt) (xs:=ws) (r:=b) (ks:=[b,b+1,b+2]) (by omega) (by intro b hb;simp at hb;omega) (by decide) HSEQ.out (λ_=>rfl)
   (Lba g n q w x s2 W7.heap.size ws) (λ_ W=>T=none/\ZeroI g w [] W) (Oea hq3 hqW (by omega)) (Yw (by omega) (by omega) nofun) H0.out
   (λp=>Sn s n g q x n1 t1 b1 b2 (λi=>match i with | 15=> .string ⟨p.toArray⟩ | 49=> .string ⟨t1.toArray⟩ | 50=> .bool true | 51=> .string ⟨t1.toArray⟩ | 52=> .func (.func 192) #[] #[.pointer (some ⟨b+1,0,none⟩),.pointer (some ⟨b,0,none⟩),.pointer (some ⟨b+2,0,none⟩)] | 53=> .string ⟨p.toArray⟩ |_=>u i) []) ?assign ?body ?done ?stop
  case assign=>
   intro l p W K hK;unfold Qt
   gi_wp2
   exact hK
  case body=>
   rintro l k hk W8 ⟨V,ys,h8,hbox,hrd,hO,hwf,rfl,hcells⟩;obtain⟨p,hp⟩:∃p,p=ws[ys.length]:=⟨_,rfl⟩;rw[Oy hk] at hcells;rw[<-hp] at hcells⊢;have AT:=D4 p W8 (by rw[hp];exact HWL.out _ (List.getElem_mem _)) (HF.out W8 hbox.bel);unfold Gv at AT;cases hR:Sp.atoiP p with
   |none=>
    rw[hR] at AT hcells;have HN:Hid (T=none):=Qd (by rw[HTG.out,HTS.out,hcells];rfl);have AT1:=Qd (CallsIn.inRound l (callsIn_wide (n:=6)|>.2 AT));have HBOX:=Qd hbox;clear hp hbox hrd hO hcells HWL HF H0 HSEQ HTG HREST2 AT hR;unfold Sn
    gi_wp2_with (first
     |(refine⟨trivial,?_⟩;gi_at_call 92;refine AT1.out.mono ?_;rintro e w5 ⟨v,er,rfl,hv1,hv2,⟨ty,pe,rfl⟩,hb5⟩;have hbox7:=HBOX.out.below hb5;have kz:=Qd hbox7.ba;have⟨cb,fb⟩:=Pj (u:= #[.int .u64 0,.slice none 0 0,.slice none 0 0]) hbox7.bb;have HZ:=Qd (hbox7.zero nofun);have HK:=Qd (((Yg hb5).trans (Ax (vs:= #[.int .u64 0,.slice none 0 0,.slice none 0 0]) hbox7.ba)).trans (KeepsOthers.setCell _ ⟨g+1+1,0,none⟩ (.bool false)));clear hbox7 hb5)
     |(with_reducible refine Sla rfl (.tmp 4) (.tmp 61) rfl (g+1) rfl rfl kz.out ?_))
    exact⟨HK.out,HN.out,HZ.out⟩
   |some v0=>
    rw[hR] at AT hcells;have HC2:Hid (Sp.atoiAllP ws=(Sp.atoiAllP (ws.drop (ys.length+1))).map ((ys++[v0])++ ·)):=Qd (by rw[hcells];simp[Option.map_map,Function.comp_def]);have AT1:=Qd (CallsIn.inRound l (callsIn_wide (n:=6)|>.2 AT));obtain⟨A',c',rfl,-,-⟩:=Na hO;have HV:Hid (∀y,(Value.slice A' ys.length c').ownBlock=some y->W7.heap.size<=y/\y<W8.heap.size):=Qd (λy e=>hO.lt y e);have HBOX:=Qd hbox;have HO:=Qd hO;have HR:=Qd hrd;have HWF:=Qd hwf;clear hp hbox hrd hO hwf hcells HWL HF H0 HSEQ HTG HREST2 AT hR;unfold Sn
    gi_wp2_with (first
     |(refine⟨trivial,?_⟩;gi_at_call 92;refine AT1.out.mono ?_;rintro e w5 ⟨v,er,rfl,hv1,hv2,⟨rfl,rfl⟩,hb5⟩;have hs5:=hb5.size;have s1:w5.cell? ⟨q,1,none⟩=some (.slice A' ys.length c'):=Blk.cell (HBOX.out.below hb5).bx rfl;replace hb5:=Qd hb5)
     |(gi_at_builtin;refine Bf rfl (by intro c e;cases e) λK hK=>wp_append_own _ _ _ 26 rfl W7.heap.size 3 i0 (.int .i64 0) 1 8 Tryz.underlying26 hi hz0 hz1 hz2 rfl (by decide) _ _ _ rfl ((An HO.out hb5.out).alloc _) ⟨_,0,none⟩ 1 1 [.int .i64 v] rfl rfl (cell_one_new _ _ _) (by intro u hu;simp only[List.mem_singleton] at hu;subst hu;rfl) (by unfold maxLen;omega) (by omega) (by simp;omega) ?_;intro v9 w9 hown9 hgrow9 hnn9;refine hK _ _ ?_;clear hK hnn9;obtain⟨A9,c9,rfl,-⟩:=Na hown9;have k9:=(hgrow9.block q (by simp;omega) (λe=>by have:=(HV.out _ e.symm).1;omega)).trans ((Blk.alloc (HBOX.out.below hb5.out).bx _));have s9:w9.cell? ⟨q,1,none⟩=some (.slice A' ys.length c'):=Blk.cell k9 rfl;have f9:=Blk.frozen k9 1;replace hown9:=Qd hown9;replace hgrow9:=Qd hgrow9;clear k9))
    obtain⟨m1,m2,m3,m4,m5,m6⟩:=Rea hq3 (by omega) (by omega) (HBOX.out.below hb5.out) (HR.out.below hb5.out) (An HO.out hb5.out) hown9.out hgrow9.out;exact⟨(Yg hb5.out).trans m5,λb hb=>(m6 b (by simp at hb;omega) (by simp at hb;omega)).trans (hb5.out.block b (by simp at hb;omega)),⟨_,_,m1,m2,m3,m4,λz hz=>by
     rcases List.mem_append.1 hz with h |h
     ·exact HWF.out z h
     rw[List.mem_singleton] at h;subst h;exact⟨hv1,hv2⟩,by simp,HC2.out⟩⟩
  case done=>
   rintro D W8 hD ⟨V,ys,h8,hbox,hrd,hO,hwf,hlen,hcells⟩ hDef;rw[List.drop_length,show Sp.atoiAllP []=some [] from rfl] at hcells;obtain⟨A',c',rfl,hC1,hC2⟩:=Na hO;refine HREST2.out _ [D] A' c' ys W8 (by rfl) ⟨hbox.bel,hbox.bn,hbox.ba,hbox.bb,hbox.rd,hbox.bx,λD' hd=>by rw[List.mem_singleton] at hd;rw[hd];exact hDef⟩ hrd ((LiesP.of_own hO).keep (λ_ _=>rfl) (λb hb=>⟨by have:=hb.1;omega,hb.2⟩)) hwf (by omega) hC1 hC2 (List.nodup_cons.2 ⟨nofun,List.nodup_nil⟩) (λD' hd=>by rw[List.mem_singleton] at hd;omega) ?_;rw[HTG.out,HTS.out,hcells];simp
  case stop=>
   rintro D k W8 hD hk ⟨hT,hz⟩ hDef;have hl:=(Array.getElem?_eq_some_iff.1 hDef).1;refine wpIn_ret ?_;refine Df (g:=g) HG.out ?_ ?_ [D] _ (List.nodup_cons.2 ⟨nofun,List.nodup_nil⟩) (λD' hd=>?_) (hz.fin hT (by omega))
   ·rfl
   ·rfl
   rw[List.mem_singleton] at hd;subst hd;exact⟨hDef,by omega⟩
theorem Em:∀n,n<=100->Jba n
 | 0,h=>Bx h (λm e=>absurd e (Nat.succ_ne_zero m).symm)
 |n+1,h=>Bx h (λm e=>Nat.succ.inj e▸Em n (Nat.le_of_succ_le h))
end
section
open Go.RowKit Ar
structure Re {α:Type} (s:List UInt8) (bad:Bool) (R:Option (α×List UInt8)) (v:α) (s':List UInt8) (bad':Bool):Prop where
 len:s'.length<=s.length
 at_:s'=(Sp.nextP s).2
 r:(bad'=false/\bad=false/\R=some (v,s'))\/(bad'=true/\(bad=true\/R=none))
theorem Kh (s:List UInt8)(bad:Bool)(r:Nat)(w:World)(hs:s.length<=1000000000000)(h:IsRd w r s bad):
 Calls Tryz.prog 33 #[.pointer (some ⟨r,0,none⟩)] w λe w'=>e= .returned (.string ⟨(Sp.nextP s).1.toArray⟩)/\w.grownBy w' (some r)/\IsRd w' r (Sp.nextP s).2 (bad||(Nw.cut s).isNone):=by
 have hr:=h.cell0;have C:=Qd (En s w hs);have HR:=Qd h;unfold Sp.nextP;clear h;cases hc:Nw.cut s with
 |none=>
  rw[hc] at C;clear hc;go_enter Tryz.func33,Tryz.ntmps33
  go_wp2_with fail
  refine C.out.mono ?_;rintro e W1 ⟨rfl,hb1⟩;unfold Nw.cutV;have hr1:=(HR.out.below hb1).cell1;have hf1:=(HR.out.below hb1).frozen 1;have HB1:=Qd hb1;clear hb1;go_wp2_with fail
  go_ret;exact⟨rfl,Xi (Bd r HB1.out) _ _,by simpa using (HR.out.below HB1.out).set1 true⟩
 |some p=>
  obtain⟨a,b⟩:=p;rw[hc] at C;clear hc;go_enter Tryz.func33,Tryz.ntmps33
  go_wp2_with fail
  refine C.out.mono ?_;rintro e W1 ⟨rfl,hb1⟩;unfold Nw.cutV;have hr1:=(HR.out.below hb1).cell0;have hf1:=(HR.out.below hb1).frozen 0;have HB1:=Qd hb1;clear hb1;go_wp2_with fail
  go_ret;exact⟨rfl,Xi (Bd r HB1.out) _ _,by simpa using (HR.out.below HB1.out).set0 b⟩
theorem Tn (s:List UInt8)(bad:Bool)(r:Nat)(w:World)(hs:s.length<=1000000000000)(hn:(Sp.nextP s).1.length<=1000000)(h:IsRd w r s bad)(hw:∀wx,w.grownBy wx (some r)->RdW wx):
 Calls Tryz.prog 35 #[.pointer (some ⟨r,0,none⟩)] w λe w'=>∃(l:Nat) (s':List UInt8) (bad':Bool),e= .returned (.int .u64 (l:Int))/\l<18446744073709551616/\w.grownBy w' (some r)/\IsRd w' r s' bad'/\Re s bad (Co.tagsR s) l s' bad':=by
 have T:=Qd (Kh s bad r w hs h);have PS:=Qd (λ(wx:World) (hx:w.grownBy wx (some r))=>Vi (Sp.nextP s).1 wx hn (hw wx hx).sp.tab (hw wx hx).sp.lt);have hle:=(Sp.nextP_le s).2;have HP:Hid (∀x ok,Lab.Spec (Sp.nextP s).1 x ok->Re s bad (Co.tagsR s) x (Sp.nextP s).2 ((bad||(Nw.cut s).isNone)|| !ok)):=Qd (λx ok hsp=>by
  refine⟨hle,rfl,?_⟩;have h1:=Sp.labP_spec hsp;unfold Co.tagsR;unfold Sp.nextP at h1⊢;cases hc:Nw.cut s with
  |none=>right;simp
  |some p=>
   rw[hc] at h1;simp only[Option.getD_some] at h1⊢;rw[h1];cases bad<;>cases ok<;>simp)
 clear hn hle h hw;generalize(Sp.nextP s).1=t at*;generalize(Sp.nextP s).2=u at*;generalize(bad||(Nw.cut s).isNone)=bb at*;go_enter Tryz.func35,Tryz.ntmps35
 go_wp2_with fail
 refine T.out.mono ?_;rintro e W1 ⟨rfl,hg1,hr1⟩;have P1:=Qd (PS.out _ hg1);have HG1:=Qd hg1;have HR1:=Qd hr1;clear hg1 hr1 PS T;go_wp2_with fail
 refine P1.out.mono ?_;rintro e W2 ⟨hb2,x,ok,rfl,hsp⟩;have hx:x<18446744073709551616:=by rcases hsp with⟨-,h,-⟩ |⟨-,h,-⟩<;>omega
 have HPO:=Qd (HP.out x ok hsp);have c1:=(HR1.out.below hb2).cell1;have f1:=(HR1.out.below hb2).frozen 1;have HB2:=Qd hb2;clear hb2 hsp HP;cases bb<;>cases ok
 all_goals
  go_wp2_with fail
  go_ret;refine⟨x,u,_,rfl,hx,Xi (Wi HG1.out (Bd r HB2.out)) _ _,(HR1.out.below HB2.out).set1 _,?_⟩
  first|exact HPO.out |simpa using HPO.out
end
section
open Go.RowKit Ar
def R4 (n:Nat):Prop:=∀(a:Ba) (vs:List Value) (d:Nat) (w:World) (B:Nat),SizeOf.sizeOf a<n->IsArr w B a vs->B<=w.heap.size->Ka d a=true->Sp.wfA a->(Sp.arrT a).length<1000000->
 Calls Tryz.prog 40 #[.agg vs.toArray] w (Yf w (Sp.arrT a))
theorem Tea {n:Nat}(ih:R4 n):R4 (n+1):=by
 intro a vs d w B hx h hB hr hwf hlen;obtain⟨S,sh,cells⟩:=a;rw[IsArr] at h;obtain⟨A,c,A',c',us,rfl,hS,hf1,hf2,hw,hl,hl',hcs⟩:=h;rw[Ka,Bool.and_eq_true,Bool.and_eq_true] at hr;have hsh:=Sp.sh_of_cnt (beq_iff_eq.1 hr.1.1);have HRC:=Qd hr.2;rw[Sp.wfA] at hwf;have HWF:=Qd hwf.2;have hsz0:∀c∈cells,SizeOf.sizeOf c<n:=λc hc=>by have:=List.sizeOf_lt_of_mem hc;simp at hx;omega
 have HSZ:=Qd hsz0;have hAT:Sp.arrT (.mk S sh cells)=(Nw.net (Lab.text S)++Nw.net (Sp.lens sh))++Sp.celsT cells:=by rw[Sp.arrT,List.append_assoc]
 rw[hAT] at hlen⊢;have hNl:=Ft (Sp.lens sh);rw[List.length_append,List.length_append] at hlen;have HAT:=Qd (And.intro hcs hl');have HLS:=Qd hl;have hfl:=hf2.le (by omega);have hsl:sh.length<=6:=by
  have h0:=beq_iff_eq.1 hr.1.1;unfold cnt at h0
  split at h0
  ·cases h0
  omega
 obtain⟨W,hW⟩:∃W,W=w.alloc (.cells #[.int .u64 (S:Int),.slice A sh.length c,.slice A' cells.length c'] 43):=⟨_,rfl⟩;have hWs:W.heap.size=w.heap.size+1:=by rw[hW];simp
 have hWb:Below w.heap.size w W:=by rw[hW];exact Br.alloc Lr _
 have hbox:W.heap[w.heap.size]? =some (.cells #[.int .u64 (S:Int),.slice A sh.length c,.slice A' cells.length c'] 43 (0,0)):=by rw[hW,heap_alloc_new]
 have HW:=Qd hW;clear hW hr hAT hx;obtain⟨g,hg⟩:∃g,g=w.heap.size:=⟨_,rfl⟩;have HG:=Qd hg;rw[<-hg] at hB hWs hWb hbox;have HQ:Hid (∀wx,Below W.heap.size W wx->wx.cell? ⟨g,0,none⟩=some (.int .u64 (S:Int))/\wx.cell? ⟨g,1,none⟩=some (.slice A sh.length c)/\wx.cell? ⟨g,2,none⟩=some (.slice A' cells.length c')):=Qd (λwx hb=>by
  have h0:=(hb.block g (by omega)).trans hbox;exact⟨(cell_of_row wx g 0 _ _ _ h0).trans rfl,(cell_of_row wx g 1 _ _ _ h0).trans rfl,(cell_of_row wx g 2 _ _ _ h0).trans rfl⟩)
 have HK:Hid (∀wx,Below W.heap.size W wx->∀p:Addr,p.block<B->wx.cell? p=w.cell? p):=Qd (λwx hb p hp=>(hb.cell (show p.block<W.heap.size by omega)).trans (hWb.cell (show p.block<g by omega)));have HS:=Qd (Gt hS);have HSH:=Qd hsh;have HEND:Hid (∀wx,Below W.heap.size W wx->Below w.heap.size w wx):=Qd (λwx hb=>by rw[<-HG.out];exact hWb.trans (hb.mono (by omega)));clear hbox hwf hsh hl hl' hcs hw hWb hsz0 hg;go_enter Tryz.func40,Tryz.ntmps40
 go_wp2_with fail
 rw[<-HW.out,<-HG.out];go_loopw [3,4] (λs i wr=>∃k:Nat,k<=sh.length/\i= .int .i64 k/\s= .string ⟨(Sp.lens (sh.take k)).toArray⟩/\wr=W) (λ_ i _=>sh.length-(intOf i).toNat)
 case atStart=>exact⟨0,Nat.zero_le _,rfl,rfl,rfl⟩
 case round=>
  obtain⟨k,hk,rfl,rfl,hwr⟩:=hrel;subst wr;obtain⟨q0,q1,q2⟩:=HQ.out W Br;by_cases hlt:k<sh.length
  ·obtain⟨b,off,rfl,hb,g0⟩:=Lc HLS.out hlt
   have g1:W.cell? ⟨b,off+k,none⟩=some (.int .i64 sh[k]):=(HK.out W Br ⟨b,off+k,none⟩ (show b<B from hb)).trans g0;have hx:=HSH.out sh[k] (List.getElem_mem hlt);have HSN:=Qd (Sp.lens_snoc hlt);have hll:=Sp.lens_len (sh:=sh.take k) (λx hx=>HSH.out x (List.mem_of_mem_take hx));rw[List.length_take,Nat.min_eq_left hk] at hll;clear g0;obtain⟨m,hm⟩:∃m:Nat,sh[k]=m:=⟨sh[k].toNat,by omega⟩;rw[hm] at g1 hx HSN;rw[Int.toNat_natCast] at HSN;have DE:=Qd (λ(wx:World)=>Gd m wx (by omega));have hml:=(Ten.dec_len (r:=m) (k:=3) (by omega)).2;generalize Lib.decDigits m=D at*;generalize Sp.lens (sh.take k)=X at*;have hk0:(0:Int)<=(k:Int):=by omega
   have hk1:(k:Int)<(sh.length:Int):=by omega
   have p1:¬9223372036854775807<X.length+1:=by omega
   have p2:¬9223372036854775807<X.length+1+D.length:=by omega
   have p3:¬9223372036854775807<X.length+D.length:=by omega
   clear hm hx;have p4:¬9223372036854775807<D.length:=by omega
   by_cases h0:k=0
   ·rw[if_pos h0] at HSN
    have hk2:¬(0:Int)<(k:Int):=by omega
    have hX:X=[]:=List.eq_nil_of_length_eq_zero (by omega);subst hX;replace h0:=Qd h0;go_wp2_with fail
    refine(DE.out _).mono ?_;rintro e w2 ⟨rfl,rfl⟩;go_wp2_with fail
    go_roundw
    case rel=>exact⟨k+1,by omega,by go_num,by rw[HSN.out];simp[Kb],trivial⟩
    case measure=>simp[intOf];omega
   have hk2:(0:Int)<(k:Int):=by omega
   rw[if_neg h0] at HSN;go_wp2_with fail
   refine(DE.out _).mono ?_;rintro e w2 ⟨rfl,rfl⟩;go_wp2_with fail
   go_roundw
   case rel=>exact⟨k+1,by omega,by go_num,by rw[HSN.out];simp[Kb],trivial⟩
   case measure=>simp[intOf];omega
  have hke:k=sh.length:=by omega
  rw[hke,List.take_length];obtain⟨P,hP⟩:∃P,P=Nw.net (Lab.text S)++Nw.net (Sp.lens sh):=⟨_,rfl⟩;have hPl:P.length=(Nw.net (Lab.text S)).length+(Nw.net (Sp.lens sh)).length:=by rw[hP,List.length_append]
  have HP:=Qd hP.symm;rw[<-hP];have p1:¬9223372036854775807<(Nw.net (Lab.text S)).length+(Nw.net (Sp.lens sh)).length:=by omega
  clear hP;go_wp2_with fail
  refine(Yc S W hS).mono ?_;rintro e w2 ⟨rfl,rfl⟩;unfold Za;go_wp2_with fail
  refine(Uf _ W (by have:=HS.out;omega)).mono ?_;rintro e w2 ⟨rfl,rfl⟩;go_wp2_with fail
  refine(Uf _ W (by omega)).mono ?_;rintro e w2 ⟨rfl,rfl⟩;go_wp2_with fail
  clear q0 q1 q2 hke hk hlt p1;go_loopw [5,6,8] (λo i _ wr=>∃k:Nat,k<=cells.length/\i= .int .i64 k/\o= .string ⟨(P++Sp.celsT (cells.take k)).toArray⟩/\Below W.heap.size W wr) (λ_ i _ _=>cells.length-(intOf i).toNat)
  case atStart=>exact⟨0,Nat.zero_le _,rfl,by rw[List.take_zero,Sp.celsT,List.append_nil,<-HP.out];simp[Kb],Br⟩
  case round=>
   obtain⟨k,hk,rfl,rfl,hbel⟩:=hrel;have hws:=hbel.size;obtain⟨q0,q1,q2⟩:=HQ.out wr hbel;by_cases hlt:k<cells.length
   ·obtain⟨b,off,L,kind,neg,top,bot,ch,ins,A1,c1,A2,c2,A3,c3,us3,rfl,hbB,hL,HX,t1,t2,t3,t4,t5,t6,g0,g1,g2,g3,g4,g5,g6⟩:=Sd HAT.out.1 HAT.out.2 (wr:=wr) (HK.out wr hbel) hlt
    have hk0:(0:Int)<=(k:Int):=by omega
    have hk1:(k:Int)<(cells.length:Int):=by omega
    have hTK:=Et hlt;have hle:=Q2 cells (k+1);have hin:=Ft (Sp.inT cells[k]);have hLL:Sp.celL cells[k]=L:=by rw[HX.out.eq];rfl
    rw[hLL] at hTK;rw[hTK,List.length_append,List.length_append] at hle;have HTK:=Qd hTK;have hwc:=Sp.wf_at HWF.out cells[k] (List.getElem_mem hlt);have hrc:=Sp.right_at HRC.out cells[k] (List.getElem_mem hlt);obtain⟨w0,hw0⟩:∃w0,w0=wr.alloc (.cells #[.int .u64 (L:Int),.int .i64 kind,.bool neg,.slice A1 top.length c1,.slice A2 bot.length c2,.int .i64 ch,.slice A3 ins.length c3] 85):=⟨_,rfl⟩;have hbel0:Below wr.heap.size wr w0:=by rw[hw0];exact Br.alloc Lr _
    have h8:w0.heap[wr.heap.size]? =some (.cells #[.int .u64 (L:Int),.int .i64 kind,.bool neg,.slice A1 top.length c1,.slice A2 bot.length c2,.int .i64 ch,.slice A3 ins.length c3] 85 (0,0)):=by rw[hw0];exact heap_alloc_new _ _
    have hs0:w0.heap.size=wr.heap.size+1:=by rw[hw0];simp
    have d0:Below W.heap.size W w0:=hbel.trans (hbel0.mono (by omega));have HB:Hid (∀wx,Below w0.heap.size w0 wx->wx.cell? ⟨wr.heap.size,0,none⟩=some (.int .u64 (L:Int))/\wx.cell? ⟨wr.heap.size,1,none⟩=some (.int .i64 kind)/\wx.cell? ⟨wr.heap.size,5,none⟩=some (.int .i64 ch)/\wx.cell? ⟨wr.heap.size,6,none⟩=some (.slice A3 ins.length c3)):=Qd (λwx hb=>by
     have h0:=(hb.block wr.heap.size (by omega)).trans h8;exact⟨(cell_of_row wx wr.heap.size 0 _ _ _ h0).trans rfl,(cell_of_row wx wr.heap.size 1 _ _ _ h0).trans rfl,(cell_of_row wx wr.heap.size 5 _ _ _ h0).trans rfl,(cell_of_row wx wr.heap.size 6 _ _ _ h0).trans rfl⟩)
    have n2:w0.cell? ⟨wr.heap.size,2,none⟩=some (.bool neg):=(cell_of_row w0 wr.heap.size 2 _ _ _ h8).trans rfl;have n3:w0.cell? ⟨wr.heap.size,3,none⟩=some (.slice A1 top.length c1):=(cell_of_row w0 wr.heap.size 3 _ _ _ h8).trans rfl;have n4:w0.cell? ⟨wr.heap.size,4,none⟩=some (.slice A2 bot.length c2):=(cell_of_row w0 wr.heap.size 4 _ _ _ h8).trans rfl;have hlim:top.length<=1000/\bot.length<=1000:=by
     rw[HX.out.eq,Oa] at hrc
     split at hrc
     ·simp only[Bool.and_eq_true] at hrc
      have:=hrc.2;unfold Rt.right at this;simp only[Bool.and_eq_true,decide_eq_true_eq] at this;omega
     split at hrc
     ·simp only[Bool.and_eq_true,Be,List.isEmpty_iff] at hrc
      rw[hrc.1.1.1.2,hrc.1.1.2];exact⟨Nat.zero_le _,Nat.zero_le _⟩
     simp only[Bool.and_eq_true,Be,List.isEmpty_iff] at hrc;rw[hrc.1.1.1.2.1.2,hrc.1.1.1.2.2];exact⟨Nat.zero_le _,Nat.zero_le _⟩
    have HKB:=HK.out w0 d0;have hpl:=Sp.print_len (n:=⟨neg,top,bot⟩) HX.out.wt HX.out.wb;have PR:=Qd (J2 ⟨neg,top,bot⟩ _ _ w0 (numR_of HX.out.ft HX.out.fb HX.out.wt HX.out.wb (HX.out.lt.keep HKB) (HX.out.lb.keep HKB) HX.out.nt HX.out.nb (by omega) hlim.1 hlim.2));dsimp only at hpl;have p1:¬9223372036854775807<1+(Dg.print ⟨neg,top,bot⟩).length:=by omega
    have HT:Hid (Sp.inT cells[k]=if kind=0 then 110::Dg.print ⟨neg,top,bot⟩ else if kind=1 then 99::Lib.decDigits ch.toNat else 98::Sp.insT ins):=Qd (by rw[HX.out.eq,Sp.inT]);generalize Dg.print ⟨neg,top,bot⟩=R at*;have HW0:=Qd hw0;have HD0:=Qd d0;clear hw0 hbel0 h8 hTK hLL d0 hlim HKB hbel;obtain⟨T,hTT⟩:∃T,T=Sp.inT cells[k]:=⟨_,rfl⟩;rw[<-hTT] at HTK HT hin hle;obtain⟨O,hO⟩:∃O,O=P++Sp.celsT (cells.take k):=⟨_,rfl⟩;have hOl:O.length=P.length+(Sp.celsT (cells.take k)).length:=by rw[hO,List.length_append]
    have HO:=Qd hO.symm;rw[<-hO];have HNT:=Qd (Gt hL);have HC:Hid (kind=2->∃a,ins=[a]/\Ka (d-1) a=true/\Sp.wfA a/\SizeOf.sizeOf a<n):=Qd (λh2=>by
     rw[HX.out.eq] at hrc hwc;rw[Oa,if_neg (by omega),if_neg (by omega),Bool.and_eq_true] at hrc;rw[Sp.wfCel] at hwc;have hsz:=HSZ.out _ (List.getElem_mem hlt);rw[HX.out.eq] at hsz
     match ins,hrc.2,hwc.2,hsz with
     | [a],hri,hwi,hsz=>
      rw[Hb,Bool.and_eq_true] at hri;rw[Sp.wfIns] at hwi;exact⟨a,rfl,hri.2,hwi.1,by simp at hsz;omega⟩
     | [],hri,_,_=>exact absurd (hri.symm.trans (by rw[Hb];intro a e;cases e)) Bool.noConfusion
     |_::_::_,hri,_,_=>exact absurd (hri.symm.trans (by rw[Hb];intro a e;cases e)) Bool.noConfusion)
    have hkd:kind=0\/(kind=1/\0<=ch/\ch<=1114111)\/kind=2:=by
     rw[HX.out.eq,Oa] at hrc;by_cases h0:kind=0
     ·exact .inl h0
     rw[if_neg h0] at hrc;by_cases h1:kind=1
     ·rw[if_pos h1] at hrc
      simp only[Bool.and_eq_true,Ae,decide_eq_true_eq] at hrc;exact .inr (.inl ⟨h1,hrc.2.1.1,hrc.2.1.2⟩)
     rw[if_neg h1] at hrc;simp only[Bool.and_eq_true,beq_iff_eq] at hrc;exact .inr (.inr hrc.1.1.1.1)
    have p5:¬9223372036854775807<O.length+(Nw.net (Lab.text L)).length:=by omega
    have p6:¬9223372036854775807<O.length+(Nw.net (Lab.text L)).length+(Nw.net T).length:=by omega
    have HTL:Hid (T.length<1000000):=Qd (by omega);replace hkd:=Qd hkd;clear hTT hO hrc hwc hin hle;go_upto_region 13 with fail
    rw[<-HW0.out];clear HW0 q0 q1 q2 g0 g1 g2 g3 g4 g5 g6;go_upto_region 14 with(refine PR.out.mono ?_;rintro e w1 ⟨rfl,hb1⟩)
    obtain⟨m0,m1,m5,m6⟩:=HB.out w1 hb1;have d1:=HD0.out.trans (hb1.mono (by omega));have hs1:=hb1.size;clear n2 n3 n4;rcases hkd.out with hk |⟨hk,hc0,hc1⟩ |hk
    case' inl=>
     have HE:Hid ((⟨#[110]⟩:ByteArray)++⟨R.toArray⟩=⟨T.toArray⟩):=Qd (by rw[HT.out,if_pos hk];simp[Kb]);subst hk;clear hb1;go_wp2_with fail
     rw[HE.out];clear HE
    case' inr.inl=>
     obtain⟨m,rfl⟩:∃m:Nat,ch=m:=⟨ch.toNat,by omega⟩;rw[Int.toNat_natCast] at HT;have hml:=(Ten.dec_len (r:=m) (k:=6) (by omega)).2;have DE:=Qd (Gd m w1 (by omega));have HE:Hid ((⟨#[99]⟩:ByteArray)++⟨(Lib.decDigits m).toArray⟩=⟨T.toArray⟩):=Qd (by rw[HT.out,if_neg (by omega),if_pos hk];simp[Kb]);generalize Lib.decDigits m=D at*;have p7:¬9223372036854775807<1+D.length:=by omega
     subst hk;clear hb1 hc0 hc1 hml;go_wp2_with fail
     refine DE.out.mono ?_;rintro e w2 ⟨rfl,rfl⟩;go_wp2_with fail
     rw[HE.out];clear HE p7
    case' inr.inr=>
     obtain⟨a,rfl,ha1,ha2,ha3⟩:=HC.out hk;obtain⟨b',off',S',X,n1,e1,X',n2,e2,rfl,hb',HA,e0',e1',e2'⟩:=Vb HX.out.arrs HX.out.li (wr:=w1) (k:=0) (HK.out w1 d1) (by simp);have HE:Hid ((⟨#[98]⟩:ByteArray)++⟨(Sp.arrT a).toArray⟩=⟨T.toArray⟩/\T.length=1+(Sp.arrT a).length):=Qd (by rw[HT.out,if_neg (by omega),if_neg (by omega),Sp.insT];simp[Kb];omega);have AT:=Qd (ih a _ (d-1) w1 B ha3 (HA.out.keep (HK.out w1 d1) Lr) (by omega) ha1 ha2 (by have h1:=HE.out.2;have h2:=HTL.out;omega));rw[Nat.zero_mul,Nat.add_zero] at e0' e1' e2';have p7:¬9223372036854775807<1+(Sp.arrT a).length:=by have h1:=HE.out.2;have h2:=HTL.out;omega
     generalize Sp.arrT a=D at*;subst hk;clear ha1 ha2 ha3 HA;go_wp2_with fail
     refine AT.out.mono ?_;rintro e w2 ⟨rfl,hb2⟩;have hb12:=hb1.trans (hb2.mono (by omega));clear m0 m1 m5 m6 d1 hs1 hb1;obtain⟨m0,m1,m5,m6⟩:=HB.out w2 hb12;have d1:=HD0.out.trans (hb12.mono (by omega));clear hb12 hb2 e0' e1' e2';go_wp2_with fail
     rw[HE.out.1];clear HE p7
    all_goals
     refine(Yc L _ hL).mono ?_;rintro e w3 ⟨rfl,rfl⟩;unfold Za;go_wp2_with fail
     refine(Uf _ _ (by have:=HNT.out;omega)).mono ?_;rintro e w3 ⟨rfl,rfl⟩;go_wp2_with fail
     refine(Uf _ _ (by have:=HTL.out;omega)).mono ?_;rintro e w3 ⟨rfl,rfl⟩;go_wp2_with fail
     go_roundw
     case rel=>exact⟨k+1,by omega,by go_num,by rw[HTK.out,<-List.append_assoc,<-List.append_assoc,HO.out];simp[Kb],d1⟩
     case measure=>simp[intOf];omega
   have hke:k=cells.length:=by omega
   rw[hke,List.take_length,HP.out];go_wp2_with fail
   go_ret;exact⟨by first|rfl |(rw[HP.out];rfl) |(rw[<-HP.out];rfl),HEND.out _ hbel⟩
theorem Od:∀n,R4 n
 | 0=>λa vs d w B h=>absurd h (Nat.not_lt_zero _)
 |n+1=>Tea (Od n)
end
section
open Go.RowKit Ar
mutual
theorem IsArrP.wf {w:World}{P:Nat->Prop}:∀(a:Ba) (vs:List Value),IsArrP w P a vs->Sp.wfA a
 | .mk S sh cs,vs,h=>by
  rw[IsArrP] at h;rw[Sp.wfA];obtain⟨A,c,A',c',us,_,hS,_,_,_,_,_,hc⟩:=h;exact⟨hS,IsCelsP.wf cs us hc⟩
theorem IsCelsP.wf {w:World}{P:Nat->Prop}:∀(a:List Ha) (vs:List Value),IsCelsP w P a vs->Sp.wfCels a
 | [],vs,h=>by rw[Sp.wfCels];trivial
 |c::r,vs,h=>by
  rw[IsCelsP] at h;rw[Sp.wfCels];obtain⟨u,t,_,h2,h3⟩:=h;exact⟨IsCelP.wf c u h2,IsCelsP.wf r t h3⟩
theorem IsCelP.wf {w:World}{P:Nat->Prop}:∀(a:Ha) (vs:List Value),IsCelP w P a vs->Sp.wfCel a
 | .mk L k n t b ch ins,vs,h=>by
  rw[IsCelP] at h;rw[Sp.wfCel];obtain⟨A,c,A',c',A2,c2,us,_,hL,_,_,_,_,_,_,_,_,_,hi,_⟩:=h;exact⟨hL,IsArrsP.wf ins us hi⟩
theorem IsArrsP.wf {w:World}{P:Nat->Prop}:∀(a:List Ba) (vs:List Value),IsArrsP w P a vs->Sp.wfIns a
 | [],vs,h=>by rw[Sp.wfIns];trivial
 |c::r,vs,h=>by
  rw[IsArrsP] at h;rw[Sp.wfIns];obtain⟨u,t,_,h2,h3⟩:=h;exact⟨IsArrP.wf c u h2,IsArrsP.wf r t h3⟩
end
def Oha (x:Bool->Value)(r:Option Ba)(w:World)(e:Ending)(w':World):Prop:=∃vs,e= .returned (.tuple #[.agg vs.toArray,x r.isSome])/\IsArr w' w'.heap.size (r.getD (.mk 0 [] [])) vs/\Below w.heap.size w w'
def Jc (x:Bool->Value)(r:Option Ba)(w:World)(e:Ending)(w':World):Prop:=∃vs,e= .returned (.tuple #[.agg vs.toArray,x r.isSome])/\IsArrP w' (PR w.heap.size w') (r.getD (.mk 0 [] [])) vs/\Below w.heap.size w w'
theorem Un {n:Nat}{w:World}{a:Ba}{vs:List Value}(h:IsArrP w (PR n w) a vs):IsArr w w.heap.size a vs:=IsArrP.is (λb hb=>hb.1) _ _ h
theorem Gq {s:List UInt8}:Sp.parseX none s=none:=rfl
theorem Ut {s:List UInt8}{a:Ba}(h:Ka 8 a=true)(ht:Sp.arrT a=s):Sp.parseX (some a) s=some a:=by unfold Sp.parseX;dsimp only;rw[if_pos ⟨h,ht⟩]
theorem Qj {s:List UInt8}{a:Ba}(h:Ka 8 a=true->Sp.arrT a≠s):Sp.parseX (some a) s=none:=by unfold Sp.parseX;dsimp only;rw[if_neg (λh'=>h h'.1 h'.2)]
theorem Rj (s:List UInt8)(w:World)(hs:s.length<1000000)(hl:∀a,Sp.readD 9 s=some a->Ka 8 a=true->(Sp.arrT a).length<1000000):
 Calls Tryz.prog 41 #[.string ⟨s.toArray⟩] w (Jc .bool (Sp.parseX (Sp.readD 9 s) s) w):=by
 obtain⟨W,hW⟩:∃W,W=w.alloc (.cells #[.int .u64 0,.slice none 0 0,.slice none 0 0] 43):=⟨_,rfl⟩;have hWs:W.heap.size=w.heap.size+1:=by rw[hW];simp
 have HWb:Hid (Below w.heap.size w W):=Qd (by rw[hW];exact Br.alloc Lr _);have K0:Hid (Blk W w.heap.size 43 [.int .u64 0,.slice none 0 0,.slice none 0 0]):=Qd (by rw[hW];exact Blk.new w _ _);have HW:=Qd hW;clear hW;obtain⟨g,hg⟩:∃g,g=w.heap.size:=⟨_,rfl⟩;rw[<-hg] at hWs HWb K0;have HG:=Qd hg;have HS:=Qd hWs;have RD:=Qd (Cq 9 (by omega) s W hs);clear hg hWs;have HL:=Qd hl;clear hl;obtain⟨r,hr⟩:∃r,r=Sp.readD 9 s:=⟨_,rfl⟩;rw[<-hr] at RD HL⊢;clear hr;have HEND:Hid (∀(wx:World) (vs:List Value) (r':Option Ba),vs.length=3->Below W.heap.size W wx->Sp.parseX r s=r'->
  (∃n,n<=wx.heap.size/\g<n/\IsArrP wx (PR n wx) (r'.getD (.mk 0 [] [])) vs)->Jc .bool (Sp.parseX r s) w (.returned (.tuple #[.agg vs.toArray,.bool r'.isSome])) (wx.setRow g vs.toArray)):=Qd (λwx vs r' hv hb he ⟨n,hn,hgn,hp⟩=>by
  rw[he];have hk:Blk wx g 43 [.int .u64 0,.slice none 0 0,.slice none 0 0]:=(hb.block g (by have:=HS.out;omega)).trans K0.out;refine⟨vs,rfl,?_,?_⟩
  ·rw[<-HG.out];exact Bg (Oj hp hgn (Pn hk)) (Nat.le_of_lt hgn)
  rw[<-HG.out];exact Tb (HWb.out.trans (hb.mono (by have:=HS.out;omega))) Lr)
 go_enter Tryz.func41,Tryz.ntmps41
 go_upto_region 1 with fail
 rw[<-HW.out,<-HG.out];go_upto_region 2 with(go_at_call 68;refine RD.out.mono ?_;rintro e w2 ⟨a,vs,rfl,ha,hra,hb2⟩;obtain⟨S,A1,n1,c1,A2,n2,c2,rfl⟩:=ha.form;replace ha:=Qd ha;replace hra:=Qd hra;replace hb2:=Qd hb2)
 refine Gc ?_;intro W3 hW3;have hs2:=hb2.out.size;have HB3:Hid (Below W.heap.size W W3):=Qd (by rw[hW3];exact hb2.out.alloc hs2 _);have k3:W3.heap[w2.heap.size]? =some (.cells #[.int .u64 (S:Int),.slice A1 n1 c1,.slice A2 n2 c2] 43 (0,0)):=by rw[hW3];exact heap_alloc_new _ _
 have HA3:Hid (IsArrP W3 (PR W.heap.size W3) a [.int .u64 (S:Int),.slice A1 n1 c1,.slice A2 n2 c2]):=Qd (by rw[hW3];exact Sc ha.out (Br.alloc Lr _));have hl3:w2.heap.size<W3.heap.size:=by rw[hW3];simp
 have HQ:Hid (∀wx,Below W3.heap.size W3 wx->wx.heap[w2.heap.size]? =some (.cells #[.int .u64 (S:Int),.slice A1 n1 c1,.slice A2 n2 c2] 43 (0,0))):=Qd (λwx hb=>(hb.block _ hl3).trans k3);have HC:Hid (∀wx,Below W3.heap.size W3 wx->wx.cell? ⟨w2.heap.size,0,none⟩=some (.int .u64 (S:Int))/\wx.cell? ⟨w2.heap.size,1,none⟩=some (.slice A1 n1 c1)/\wx.cell? ⟨w2.heap.size,2,none⟩=some (.slice A2 n2 c2)):=Qd (λwx hb=>by
  have h0:=HQ.out wx hb;exact⟨(cell_of_row wx _ 0 _ _ _ h0).trans rfl,(cell_of_row wx _ 1 _ _ _ h0).trans rfl,(cell_of_row wx _ 2 _ _ _ h0).trans rfl⟩)
 have HK:Hid (∀wx,Below W3.heap.size W3 wx->wx.heap[g]? =some (.cells #[.int .u64 0,.slice none 0 0,.slice none 0 0] 43 (0,0))):=Qd (λwx hb=>by
  have h1:=HS.out;have h2:=HB3.out.size;exact(hb.block g (by omega)).trans ((HB3.out.block g (by omega)).trans K0.out))
 have hsW:=HB3.out.size;have HNO:Hid (∀wx,Below W3.heap.size W3 wx->Sp.parseX r s=none->Jc .bool (Sp.parseX r s) w (.returned (.tuple #[.agg #[.int .u64 0,.slice none 0 0,.slice none 0 0],.bool false])) (wx.setRow g #[.int .u64 0,.slice none 0 0,.slice none 0 0])):=Qd (λwx hb h=>
  HEND.out wx _ none rfl (HB3.out.trans (hb.mono hsW)) h ⟨W.heap.size,by have:=hb.size;omega,by have:=HS.out;omega,Pt (by omega)⟩)
 obtain⟨q0,q1,q2⟩:=HC.out W3 Br;clear hW3 k3 ha hb2 hs2;cases r with
 |none=>
  have HN:=Qd (HNO.out W3 Br Gq);have K:=Qd (HK.out W3 Br);go_wp2_with (with_reducible refine Vh rfl (.tmp 2) (.tmp 24) rfl g rfl rfl K.out ?_)
  refine Sg (by rfl) (by rfl) (by rfl) rfl K.out ?_;exact HN.out
 |some b=>
  obtain rfl:b=a:=hra.out b rfl;have RR:=Qd (Qi _ b _ 8 W3 W3.heap.size (Nat.lt_succ_self _) (Un HA3.out) Lr (by omega));by_cases hR:Ka 8 b=true
  ·have hlen:=HL.out b rfl hR
   rw[hR] at RR;have AT:=Qd (λ(wx:World) (hb:Below W3.heap.size W3 wx)=>Od _ b _ 8 wx wx.heap.size (Nat.lt_succ_self _) (Un (Sc HA3.out hb)) Lr hR (IsArrP.wf _ _ HA3.out) hlen);have HYES:Hid (Sp.arrT b=s->∀wx,Below W3.heap.size W3 wx->Jc .bool (Sp.parseX (some b) s) w (.returned (.tuple #[.agg #[.int .u64 (S:Int),.slice A1 n1 c1,.slice A2 n2 c2],.bool true])) (wx.setRow g #[.int .u64 (S:Int),.slice A1 n1 c1,.slice A2 n2 c2])):=Qd (λh wx hb=>
    HEND.out wx _ (some b) rfl (HB3.out.trans (hb.mono hsW)) (Ut hR h) ⟨W.heap.size,by have:=hb.size;omega,by have:=HS.out;omega,Sc HA3.out hb⟩)
   have HNX:Hid (Sp.arrT b≠s->∀wx,Below W3.heap.size W3 wx->Jc .bool (Sp.parseX (some b) s) w (.returned (.tuple #[.agg #[.int .u64 0,.slice none 0 0,.slice none 0 0],.bool false])) (wx.setRow g #[.int .u64 0,.slice none 0 0,.slice none 0 0])):=Qd (λh wx hb=>HNO.out wx hb (Qj (λ_=>h)));generalize Sp.arrT b=t at*;replace hlen:=Qd hlen;clear hR hra;go_wp2_with fail
   refine RR.out.mono ?_;rintro e w4 ⟨rfl,hb4⟩;clear q0 q1 q2;obtain⟨q0,q1,q2⟩:=HC.out w4 hb4;have HB4:=Qd hb4;have hs4:=hb4.size;clear hb4;go_wp2_with fail
   refine(AT.out w4 HB4.out).mono ?_;rintro e w5 ⟨rfl,hb5⟩;have HB5:Hid (Below W3.heap.size W3 w5):=Qd (HB4.out.trans (hb5.mono hs4));clear hb5 q0 q1 q2;have K:=Qd (HK.out w5 HB5.out);have KA:=Qd (HQ.out w5 HB5.out);by_cases ht:t=s
   ·have HN:=Qd (HYES.out ht w5 HB5.out)
    subst ht;go_wp2_with (first|(with_reducible refine Dm rfl (.tmp 4) rfl w2.heap.size rfl KA.out ?_) |(with_reducible refine Vh rfl (.tmp 2) (.tmp 25) rfl g rfl rfl K.out ?_))
    refine Sg (by rfl) (by rfl) (by rfl) rfl K.out ?_;exact HN.out
   have HN:=Qd (HNX.out ht w5 HB5.out);have hne:(t==s)=false:=beq_eq_false_iff_ne.2 ht;go_wp2_with (with_reducible refine Vh rfl (.tmp 2) (.tmp 24) rfl g rfl rfl K.out ?_)
   refine Sg (by rfl) (by rfl) (by rfl) rfl K.out ?_;exact HN.out
  have hR':Ka 8 b=false:=by simpa using hR
  rw[hR'] at RR;have HN:=Qd (λwx hb=>HNO.out wx hb (Qj (λh=>absurd h hR)));clear hR hR' hra;go_wp2_with fail
  refine RR.out.mono ?_;rintro e w4 ⟨rfl,hb4⟩;have HN4:=Qd (HN.out w4 hb4);have K:=Qd (HK.out w4 hb4);clear q0 q1 q2 hb4;go_wp2_with (with_reducible refine Vh rfl (.tmp 2) (.tmp 24) rfl g rfl rfl K.out ?_)
  refine Sg (by rfl) (by rfl) (by rfl) rfl K.out ?_;exact HN4.out
theorem Jv (s:List UInt8)(w:World)(hs:s.length<1000000)(hl:∀a,Sp.readD 9 s=some a->Ka 8 a=true->(Sp.arrT a).length<1000000):
 Calls Tryz.prog 41 #[.string ⟨s.toArray⟩] w (Oha .bool (Sp.parseX (Sp.readD 9 s) s) w):=
 (Rj s w hs hl).mono λ_ _ ⟨vs,h1,h2,h3⟩=>⟨vs,h1,Un h2,h3⟩
end
end Go.Proofs.YtmiccalfamepdaaGreatDoor
