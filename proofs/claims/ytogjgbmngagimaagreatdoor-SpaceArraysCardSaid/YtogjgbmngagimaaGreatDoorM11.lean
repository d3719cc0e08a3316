/- Texts of this proof, joined. -/
import Derived.Test.YtogjgbmngagimaaGreatDoorM10
import Derived.TacticsInMore
import Derived.LoopNIn
import Derived.LoopIn
import Derived.BigFrameIn
import Derived.Deep.RegionLaw
import Derived.Deep.AppendLies
set_option linter.all false
set_option maxHeartbeats 8000000
set_option maxRecDepth 100000
namespace Go.Proofs.YtogjgbmngagimaaGreatDoor
open Go.RowKit
def Sf (w:World)(r:Nat):Nat:=match w.cell? ⟨r,0,none⟩ with
 |some (.string s)=>s.size
 |_=>0
theorem Mh {w:World}{r:Nat}{s:List UInt8}(h:IsReader w r s):Sf w r=s.length:=by unfold Sf;rw[h.cell];rfl
theorem Q3 (fn:Fn)(bs cs:Array Value)(w:World):
 Calls Tryz.prog 84 #[.func fn bs cs] w λe w'=>e= .returned (.func (.func 125) #[] #[.pointer (some ⟨w.heap.size,0,none⟩)])/\w'=w.alloc (.cells #[.func fn bs cs] 122):=by
 go_enter Tryz.func84,Tryz.ntmps84
 go_wp2_with fail
 go_ret;exact⟨rfl,rfl⟩
def Cs (p:List UInt8×List UInt8):Array Value:= #[.string ⟨p.1.toArray⟩,.string ⟨p.2.toArray⟩]
theorem Bi (s:List UInt8)(r:Nat)(w:World)(hs:s.length<=1000000)(h:IsReader w r s):
 Calls Tryz.prog 81 #[.pointer (some ⟨r,0,none⟩)] w λe w'=>e= .returned (.tuple #[.string ⟨(Sp.nextP s).1.toArray⟩,.bool (Nw.cut s).isSome])/\IsReader w' r (Sp.nextP s).2/\∃w1,Below w.heap.size w w1/\(w'=w1\/∃v:List UInt8,w'=w1.setCell ⟨r,0,none⟩ (.string ⟨v.toArray⟩)):=by
 unfold Sp.nextP;cases hc:Nw.cut s with
 |none=>
  refine(Tj s r w hs h hc).mono ?_;rintro e w' ⟨rfl,hb⟩;exact⟨rfl,h.below hb,w',hb,.inl rfl⟩
 |some p=>
  refine(Uj s p.1 p.2 r w hs h hc).mono ?_;rintro e w' ⟨rfl,w1,hb,rfl⟩;exact⟨rfl,(h.below hb).set _,w1,hb,.inr ⟨_,rfl⟩⟩
theorem Turns.next {r k:Nat}{J:Nat->World->Prop}(h:Turns r J){w w':World}(hj:J k w)(hn:∃w1,Below w.heap.size w w1/\(w'=w1\/∃v:List UInt8,w'=w1.setCell ⟨r,0,none⟩ (.string ⟨v.toArray⟩))):J k w':=by
 obtain⟨w1,hb,rfl |⟨v,rfl⟩⟩:=hn
 ·exact h.more _ _ _ hj hb
 exact h.set _ _ _ (h.more _ _ _ hj hb)
theorem Ae {r b:Nat}{w w':World}(hb:b≠r)(hl:b<w.heap.size)(hn:∃w1,Below w.heap.size w w1/\(w'=w1\/∃v:List UInt8,w'=w1.setCell ⟨r,0,none⟩ (.string ⟨v.toArray⟩))):w'.heap[b]? =w.heap[b]? :=by
 obtain⟨w1,h1,rfl |⟨v,rfl⟩⟩:=hn
 ·exact h1.block b hl
 exact(Ze hb).trans (h1.block b hl)
theorem Vj {α:Type}{l:List α}{k:Nat}{x:α}{r:List α}(h:l.drop k=x::r):∃hk:k<l.length,l[k]=x/\l.drop (k+1)=r:=by
 have hk:k<l.length:=by
  rcases Nat.lt_or_ge k l.length with h1 |h1
  ·exact h1
  rw[List.drop_eq_nil_of_le h1] at h;cases h
 rw[List.drop_eq_getElem_cons hk] at h;injection h with h1 h2
 exact⟨hk,h1,h2⟩
theorem S3 (n bx r:Nat)(s:List UInt8)(w:World)(hs:s.length<=1000000)(hbx:w.heap[bx]? =some (.cells #[.func (.func 81) #[.pointer (some ⟨r,0,none⟩)] #[]] 122 (0,0)))(hne:bx≠r)(hr:IsReader w r s)(hn:1<=n):
 Dt n Tryz.prog 125 #[.pointer (some ⟨bx,0,none⟩)] Cs (Sp.pairsP s.length s) r [bx,r] w:=by
 intro l J Jx W hW hJ hJx hY h0;have hbx1:W.heap[bx]? =some (.cells #[.func (.func 81) #[.pointer (some ⟨r,0,none⟩)] #[]] 122 (0,0)):=(hW.block bx (Array.getElem?_eq_some_iff.1 hbx).1).trans hbx;have hr1:IsReader W r s:=hr.below hW;clear hbx hr hW;obtain⟨xs,hxs⟩:∃xs,xs=Sp.pairsP s.length s:=⟨_,rfl⟩;rw[<-hxs] at hY⊢;have HY:=Qd hY;have HJ:=Qd (And.intro hJ hJx);have HX:Hid (Sp.pairsP s.length s=xs.drop 0):=Qd (by rw[hxs];rfl);clear hY hJ hJx hxs;refine callsIn_of_wp Tryz.func125 rfl trivial ?_ rfl;simp only[Tryz.ntmps125,List.size_toArray,List.length_cons,List.length_nil,Nat.reduceAdd,Nat.reduceSub,Array.replicate_succ,Array.replicate_zero,List.push_toArray,List.append_toArray,List.nil_append,List.cons_append]
 gi_wp2
 gi_loopw [] (λwr=>∃(k f:Nat) (t:List UInt8),k<=xs.length/\IsReader wr r t/\t.length<=f/\t.length<=1000000/\Hid (Sp.pairsP f t=xs.drop k)/\Hid (J k wr)/\wr.heap[bx]? =some (.cells #[.func (.func 81) #[.pointer (some ⟨r,0,none⟩)] #[]] 122 (0,0))) (λwr=>Sf wr r)
 case atStart=>exact⟨0,s.length,s,Nat.zero_le _,hr1,Lr,hs,HX,Qd h0,hbx1⟩
 case round=>
  clear hr1 hbx1 h0 HX;obtain⟨k,f,t,hk,hr,hf,ht,HP,HK,hbx⟩:=hrel;have hlen:=Mh hr;have hcb:wr.cell? ⟨bx,0,none⟩=some (.func (.func 81) #[.pointer (some ⟨r,0,none⟩)] #[]):=by simp[World.cell?,hbx]
  have hbl:=(Array.getElem?_eq_some_iff.1 hbx).1;have HBX:=Qd hbx;have NX:=Qd (callsIn_wide.2 (Bi t r wr ht hr):CallsIn Fence.wide (n-1) _ _ _ _ _);clear hr hbx
  gi_wp2
  refine⟨trivial,NX.out.mono ?_⟩;rintro e W1 ⟨rfl,hr1,hn1⟩;have HN1:=Qd hn1;have hbx1:=(Ae hne hbl hn1).trans HBX.out;have HJ1:=Qd (HJ.out.1.next HK.out hn1);clear hn1 NX hcb HK HBX;cases hc:Nw.cut t with
  |none=>
   have hend:k=xs.length:=by
    have:=HP.out;cases f with
    |zero=>rw[Sp.pairsP] at this;have:=List.drop_eq_nil_iff.1 this.symm;omega
    |succ f=>rw[Sp.pairsP,hc] at this;have:=List.drop_eq_nil_iff.1 this.symm;omega
   clear hr1 hbx1 HN1 HP
   gi_wp2
   refine bodyPost_ret (results_none rfl _ _ _) rfl ?_;exact⟨⟨_,rfl⟩,.inl (by rw[<-hend];exact HJ1.out)⟩
  |some p=>
   have hl:=Sp.cut_less hc;have hle:=Sp.nextP_le p.2;have hnp:Sp.nextP t=p:=by unfold Sp.nextP;rw[hc];rfl
   rw[hnp] at hr1⊢;obtain⟨f',rfl⟩:∃f',f=f'+1:=⟨f-1,by omega⟩;have hcons:xs.drop k=(p.1,(Sp.nextP p.2).1)::Sp.pairsP f' (Sp.nextP p.2).2:=by rw[<-HP.out,Sp.pairsP,hc]
   obtain⟨hkl,hx,hrest⟩:=Vj hcons;have HREST:=Qd hrest.symm;have NX:=Qd (callsIn_wide.2 (Bi p.2 r W1 (by omega) hr1):CallsIn Fence.wide (n-1) _ _ _ _ _);have hcb:W1.cell? ⟨bx,0,none⟩=some (.func (.func 81) #[.pointer (some ⟨r,0,none⟩)] #[]):=by simp[World.cell?,hbx1]
   have hbl1:=(Array.getElem?_eq_some_iff.1 hbx1).1;have HBX:=Qd hbx1;have HXK:=Qd hx;clear hr1 hbx1 hcons hrest hx HP HN1
   gi_wp2
   refine⟨trivial,NX.out.mono ?_⟩;rintro e W2 ⟨rfl,hr2,hn2⟩;have hbx2:=(Ae hne hbl1 hn2).trans HBX.out;have HJ2:=Qd (HJ.out.1.next HJ1.out hn2);obtain⟨fn,tmps,assign,body,hy,hR⟩:=HY.out k hkl W2 HJ2.out;rw[HXK.out] at hy;have HR:=Qd hR;have HBX2:=Qd hbx2;have HR2:=Qd hr2;clear hn2 NX hcb HBX hR hbx2 hr2 HJ1;unfold Cs at hy
   gi_wp2
   refine HR.out.mono ?_;rintro e W3 (⟨rfl,hj3,hk3⟩ |⟨rfl,hjx⟩)
   ·have hbx3:=(hk3 bx (by simp)).trans HBX2.out
    have hr3:IsReader W3 r (Sp.nextP p.2).2:=(hk3 r (by simp)).trans HR2.out;have hlen3:=Mh hr3;have HJ3:=Qd hj3;clear hy hk3 hj3
    gi_wp2
    go_roundw
    case rel=>exact⟨k+1,f',_,hkl,hr3,by omega,by omega,HREST,HJ3,hbx3⟩
    case measure=>rw[hlen3,hlen];omega
   clear hy
   gi_wp2
   refine bodyPost_ret (results_none rfl _ _ _) rfl ?_;exact⟨⟨_,rfl⟩,.inr ⟨k,hkl,hjx⟩⟩
def Txt (w:World)(b:Nat)(t:List UInt8):Prop:=w.heap[b]? =some (.cells #[.string ⟨t.toArray⟩] 9 (0,0))
theorem Txt.cell {w:World}{b:Nat}{t:List UInt8}(h:Txt w b t):w.cell? ⟨b,0,none⟩=some (.string ⟨t.toArray⟩):=by unfold Txt at h;simp[World.cell?,h]
theorem Txt.frozen {w:World}{b:Nat}{t:List UInt8}(h:Txt w b t):w.frozen? ⟨b,0,none⟩=false:=by unfold Txt at h;simp[World.frozen?,h]
theorem Txt.set {w:World}{b:Nat}{t:List UInt8}(h:Txt w b t)(u:List UInt8):Txt (w.setCell ⟨b,0,none⟩ (.string ⟨u.toArray⟩)) b u:=by
 unfold Txt at*;show(w.heap.modify b _)[b]? =_;rw[Array.getElem?_modify,if_pos rfl,h];rfl
theorem Nl {w:World}{b:Nat}{t:List UInt8}(h:Txt w b t):Sf w b=t.length:=by unfold Sf;rw[h.cell];rfl
theorem Lu (s:List UInt8)(w:World):
 Calls Tryz.prog 82 #[.string ⟨s.toArray⟩,.string ⟨#[32]⟩] w λe w'=>e= .returned (.func (.func 171) #[] #[.pointer (some ⟨w.heap.size+1,0,none⟩),.pointer (some ⟨w.heap.size,0,none⟩),.pointer (some ⟨w.heap.size+2,0,none⟩)])/\
  w'=((w.alloc (.cells #[.string ⟨s.toArray⟩] 9)).alloc (.cells #[.string ⟨#[32]⟩] 9)).alloc (.cells #[.int .i64 0] 3):=by
 have H:Calls Tryz.prog 122 #[.string ⟨s.toArray⟩,.string ⟨#[32]⟩,.int .i64 0] w λe w'=>e= .returned (.func (.func 171) #[] #[.pointer (some ⟨w.heap.size+1,0,none⟩),.pointer (some ⟨w.heap.size,0,none⟩),.pointer (some ⟨w.heap.size+2,0,none⟩)])/\
  w'=((w.alloc (.cells #[.string ⟨s.toArray⟩] 9)).alloc (.cells #[.string ⟨#[32]⟩] 9)).alloc (.cells #[.int .i64 0] 3):=by
  go_enter Tryz.func122,Tryz.ntmps122
  go_wp2_with fail
  go_ret;exact⟨by simp,rfl⟩
 replace H:=Qd H;go_enter Tryz.func82,Tryz.ntmps82
 go_wp2_with fail
 refine H.out.mono ?_;rintro e w' ⟨rfl,rfl⟩;go_wp2_with fail
 go_ret;exact⟨rfl,rfl⟩
def Qn (p:List UInt8):Array Value:= #[.string ⟨p.toArray⟩]
theorem T3 (n b:Nat)(s:List UInt8)(w:World)(hs:s.length<=1000000)(h0:Txt w b s)(h1:Txt w (b+1) [32])(h2:w.heap[b+2]? =some (.cells #[.int .i64 0] 3 (0,0)))(hn:1<=n):
 Dt n Tryz.prog 171 #[.pointer (some ⟨b+1,0,none⟩),.pointer (some ⟨b,0,none⟩),.pointer (some ⟨b+2,0,none⟩)] Qn (Sp.words s) b [b,b+1,b+2] w:=by
 intro l J Jx W hW hJ hJx hY hj0;replace h0:Txt W b s:=(hW.block _ (Array.getElem?_eq_some_iff.1 h0).1).trans h0;replace h1:Txt W (b+1) [32]:=(hW.block _ (Array.getElem?_eq_some_iff.1 h1).1).trans h1;replace h2:=(hW.block _ (Array.getElem?_eq_some_iff.1 h2).1).trans h2;clear hW;obtain⟨xs,hxs⟩:∃xs,xs=Sp.words s:=⟨_,rfl⟩;rw[<-hxs] at hY⊢;have HY:=Qd hY;have HJ:=Qd (And.intro hJ hJx);have HX:Hid (Sp.wordsF s.length s=xs.drop 0):=Qd (by rw[hxs];rfl);clear hY hJ hJx hxs;have c1:=h1.cell;refine callsIn_of_wp Tryz.func171 rfl trivial ?_ rfl;simp only[Tryz.ntmps171,List.size_toArray,List.length_cons,List.length_nil,Nat.reduceAdd,Nat.reduceSub,Array.replicate_succ,Array.replicate_zero,List.push_toArray,List.append_toArray,List.nil_append,List.cons_append]
 gi_wp2
 clear c1
 gi_loopw [7,8] (λ_ _ wr=>∃(k f:Nat) (t:List UInt8),Txt wr b t/\t.length<=f/\t.length<=1000000/\Hid (Sp.wordsF f t=xs.drop k)/\Hid (J k wr)/\Txt wr (b+1) [32]/\wr.heap[b+2]? =some (.cells #[.int .i64 0] 3 (0,0))) (λ_ _ wr=>Sf wr b)
 case atStart=>exact⟨0,s.length,s,h0,Lr,hs,HX,Qd hj0,h1,h2⟩
 case round=>
  clear h0 h1 h2 hj0 HX;obtain⟨k,f,t,h0,hf,ht,HP,HK,h1,h2⟩:=hrel;have hlen:=Nl h0;have c0:=h0.cell;have c1:=h1.cell;have c2:wr.cell? ⟨b+2,0,none⟩=some (.int .i64 0):=by simp[World.cell?,h2]
  have H3:=Qd (And.intro h0 (And.intro h1 h2));clear h0 h1 h2;have IX:CallsIn Fence.wide (n-1) _ _ _ _ _:=callsIn_wide.2 (Tryz.strings_Index_one ⟨t.toArray⟩ 32 wr);rw[show(⟨t.toArray⟩:ByteArray).data.toList=t from rfl] at IX;have hsz:(⟨t.toArray⟩:ByteArray).size=t.length:=rfl;rcases Lab.index_cut 32 t with⟨hi,hc⟩ |⟨m,hi,hm,hc⟩
  ·rw[hi] at IX
   have IX2:=Qd IX;have hcons:xs.drop k=[t]:=by
    rw[<-HP.out];cases f with
    |zero=>rfl
    |succ f=>rw[Sp.wordsF,hc];rfl
   obtain⟨hkl,hx,hrest⟩:=Vj hcons;have hend:xs.length=k+1:=by have:=List.drop_eq_nil_iff.1 hrest;omega
   have HXK:=Qd hx;obtain⟨fn,tmps,assign,body,hy,hR⟩:=HY.out k hkl wr HK.out;rw[HXK.out] at hy;unfold Qn at hy;have HR:=Qd hR;clear IX hi hc hcons hrest hx hR HP
   gi_wp2
   refine⟨trivial,IX2.out.mono ?_⟩;rintro e W1 ⟨rfl,rfl⟩
   gi_wp2
   refine HR.out.mono ?_;rintro e W3 (⟨rfl,hj3,hk3⟩ |⟨rfl,hjx⟩)
   ·clear hy hk3
    gi_wp2
    go_end0
    exact⟨⟨_,rfl⟩,.inl (by rw[hend];exact hj3)⟩
   clear hy
   gi_wp2
   go_end0
   exact⟨⟨_,rfl⟩,.inr ⟨k,hkl,hjx⟩⟩
  rw[hi] at IX;have IX2:=Qd IX;obtain⟨f',rfl⟩:∃f',f=f'+1:=⟨f-1,by omega⟩;have hcons:xs.drop k=t.take m::Sp.wordsF f' (t.drop (m+1)):=by rw[<-HP.out,Sp.wordsF,hc];rfl
  obtain⟨hkl,hx,hrest⟩:=Vj hcons;have HREST:=Qd hrest.symm;have HXK:=Qd hx;obtain⟨fn,tmps,assign,body,hy,hR⟩:=HY.out k hkl wr HK.out;rw[HXK.out] at hy;have e1:=Pk t m (by omega);have e2:=Me t (m+1);unfold Qn at hy;rw[<-e1] at hy;have HR:=Qd hR;have E2:=Qd e2;have hm0:¬(m:Int)<0:=by omega
  have m1:IntKind.i64.wrap ((m:Int)+1)=(m:Int)+1:=IntWalk.i64_in _ (by omega);have m2:(0:Int)<=(m:Int)+1:=by omega
  have m3:(m:Int)+1<=(t.length:Int):=by omega
  have m4:((m:Int)+1).toNat=m+1:=by omega
  have m5:(m:Int)<=(t.length:Int):=by omega
  have m6:(0:Int)<=(m:Int):=by omega
  have m7:(m:Int).toNat=m:=by omega
  clear IX hi hc hcons hrest hx hR HP e1 e2
  gi_wp2
  refine⟨trivial,IX2.out.mono ?_⟩;rintro e W1 ⟨rfl,rfl⟩
  gi_wp2
  refine HR.out.mono ?_;rintro e W3 (⟨rfl,hj3,hk3⟩ |⟨rfl,hjx⟩)
  ·have h0:Txt W3 b t:=(hk3 b (by simp)).trans H3.out.1
   have h1:Txt W3 (b+1) [32]:=(hk3 (b+1) (by simp)).trans H3.out.2.1;have h2:=(hk3 (b+2) (by simp)).trans H3.out.2.2;have c0':=h0.cell;have f0':=h0.frozen;have c1':=h1.cell;have H4:Hid (Txt (W3.setCell ⟨b,0,none⟩ (.string ⟨(t.drop (m+1)).toArray⟩)) b (t.drop (m+1))/\Txt (W3.setCell ⟨b,0,none⟩ (.string ⟨(t.drop (m+1)).toArray⟩)) (b+1) [32]/\(W3.setCell ⟨b,0,none⟩ (.string ⟨(t.drop (m+1)).toArray⟩)).heap[b+2]? =some (.cells #[.int .i64 0] 3 (0,0))/\J (k+1) (W3.setCell ⟨b,0,none⟩ (.string ⟨(t.drop (m+1)).toArray⟩))):=
    Qd ⟨h0.set _,(Ze (by simp)).trans h1,(Ze (by simp)).trans h2,HJ.out.1.set _ _ _ hj3⟩
   clear hy hk3 h0 h1 h2 hj3 c0 c1 c2
   gi_wp2
   rw[E2.out];have hlen3:=Nl H4.out.1;go_roundw
   case rel=>exact⟨k+1,f',_,H4.out.1,by rw[List.length_drop];omega,by rw[List.length_drop];omega,HREST,Qd H4.out.2.2.2,H4.out.2.1,H4.out.2.2.1⟩
   case measure=>rw[hlen3,hlen,List.length_drop];omega
  clear hy
  gi_wp2
  refine bodyPost_ret (results_none rfl _ _ _) rfl ?_;exact⟨⟨_,rfl⟩,.inr ⟨k,hkl,hjx⟩⟩
section
open Go.RowKit
namespace Nw
theorem cut_k7 {s:List UInt8}(hs:s.length<1000000):cut s=if Lib.decDigits (Ten.numOf (s.take (k7 s)))=s.take (k7 s) then after s (k7 s) (Ten.numOf (s.take (k7 s))) else none:=by
 by_cases h:Dg.lead s<=7
 ·have e:k7 s=Dg.lead s:=by unfold k7;omega
  rw[e];rfl
 have e:k7 s=7:=by unfold k7;omega
 rw[V0 (by omega) (by omega),e]
 split
 ·unfold after
  have hl:=Dg.lead_le s;rw[if_neg (by omega),if_neg (by omega),if_pos];obtain⟨h1,h2⟩:=Dg.lead_dig (s:=s) (k:=7) (by omega);rw[List.getD_eq_getElem?_getD,List.getElem?_eq_getElem h1,Option.getD_some];intro e';rw[e'] at h2;exact absurd h2 (by decide)
 rfl
end Nw
theorem Hc (s:List UInt8)(w:World)(hs:s.length<1000000):
 Calls Tryz.prog 41 #[.string ⟨s.toArray⟩] w λe w'=>e= .returned (Nw.cutV (Nw.cut s))/\Below w.heap.size w w':=by
 have hsz:(⟨s.toArray⟩:ByteArray).size=s.length:=rfl;have HSZ:=Qd hsz;have HNO:Hid (Nw.cut s=none->Ending.returned (.tuple #[.string ⟨#[]⟩,.string ⟨#[]⟩,.bool false])= .returned (Nw.cutV (Nw.cut s))):=Qd (λh=>by rw[h];rfl);have DE:=Qd (Rd s w (by omega));have HK7:=Qd (Nw.cut_k7 hs);have hat:Nw.DecAt s (Nw.k7 s) (Ten.numOf (s.take (Nw.k7 s))):=⟨by unfold Nw.k7;omega,rfl⟩;have hk7:Nw.k7 s<=7:=by unfold Nw.k7;omega
 have hkl:Nw.k7 s<=s.length:=by have:=Dg.lead_le s;unfold Nw.k7;omega
 have hn:=Vh hat hk7;clear hat;generalize Ten.numOf (s.take (Nw.k7 s))=n at*;generalize Nw.k7 s=k at*;have hdn:=(Ten.dec_len (r:=n) (k:=9) (by omega)).2;have DD:=λ(w:World)=>Nf n w (by omega);obtain⟨D,hD⟩:∃D,D=Lib.decDigits n:=⟨_,rfl⟩;rw[<-hD] at DD hdn HK7;have HDD:=Qd DD;clear DD hD;go_enter Tryz.func41,Tryz.ntmps41
 go_wp2_with fail
 refine DE.out.mono ?_;rintro e w1 ⟨rfl,rfl⟩;clear DE;by_cases hk0:k=0
 ·have HE:=Qd (HNO.out (by rw[HK7.out];split;unfold Nw.after;rw[if_pos hk0];rfl))
  subst hk0;clear HK7;go_wp2_with fail
  go_quiet (fail)
  go_wp2_with fail
  go_ret3
  exact⟨HE.out,⟨rfl,rfl,rfl,Lr,λ_ _=>rfl⟩⟩
 have z1:((k:Int)==0)=false:=beq_eq_false_iff_ne.2 (by omega);by_cases hlt:k<s.length
 ·have z2:decide (s.length<=k)=false:=decide_eq_false (by omega)
  obtain⟨y,hy⟩:∃y,y=s[k].toNat:=⟨_,rfl⟩;have hgy:((⟨s.toArray⟩:ByteArray)[k]'(show k<(⟨s.toArray⟩:ByteArray).size from hlt)).toNat=y:=hy.symm;have HG:Hid (s.getD k 0=58↔y=58):=Qd (by
   rw[hy,List.getD_eq_getElem?_getD,List.getElem?_eq_getElem hlt,Option.getD_some];exact⟨λe=>by rw[e];rfl,λe=>UInt8.toNat_inj.1 e⟩)
  clear hy;by_cases hy58:y=58
  ·have HG':=Qd (HG.out.2 hy58)
   subst hy58;obtain⟨T,hT⟩:∃T,T=s.drop (k+1):=⟨_,rfl⟩;have HQ:Hid (Nw.cut s=if D=s.take k then(if T.length<=n then none else if T.getD n 0≠44 then none else some (T.take n,T.drop (n+1))) else none):=Qd (by rw[HK7.out,Nw.after_T hk0 hlt HG'.out,<-hT]);have hTl:T.length=s.length-(k+1):=by rw[hT,List.length_drop]
   have hw1:IntKind.i64.wrap ((s.length:Int)-(k:Int))=(s.length:Int)-(k:Int):=IntWalk.i64_in _ (by omega);have hw2:IntKind.i64.wrap ((s.length:Int)-(k:Int)-1)=(T.length:Int):=by rw[show(s.length:Int)-(k:Int)-1=(T.length:Int) by omega];exact IntWalk.i64_in _ (by omega)
   have hcol:((58:Int)!=58)=false:=by decide
   replace hTl:=Qd hTl;by_cases hnl:n<T.length
   ·have z4:decide (T.length<=n)=false:=decide_eq_false (by omega)
    have hlt2:k+1+n<s.length:=by have:=hTl.out;omega
    have hw5:(0:Int)<=(k:Int)+1+(n:Int):=by omega
    have hw6:(k:Int)+1+(n:Int)<(s.length:Int):=by omega
    have hw7:((k:Int)+1+(n:Int)).toNat=k+1+n:=by omega
    obtain⟨z,hz⟩:∃z,z=s[k+1+n].toNat:=⟨_,rfl⟩;have hgz:((⟨s.toArray⟩:ByteArray)[k+1+n]'(show k+1+n<(⟨s.toArray⟩:ByteArray).size from hlt2)).toNat=z:=hz.symm;have HZ4:Hid (T.getD n 0=44↔z=44):=Qd (by
     rw[hz,hT,List.getD_eq_getElem?_getD,List.getElem?_drop,List.getElem?_eq_getElem hlt2,Option.getD_some];exact⟨λe=>by rw[e];rfl,λe=>UInt8.toNat_inj.1 e⟩)
    clear hz;by_cases hz44:z=44
    ·subst hz44
     have hcom:((44:Int)!=44)=false:=by decide
     have hk2:(0:Int)<=(k:Int):=by omega
     have hk3:(k:Int)<=(s.length:Int):=by omega
     have hk4:((k:Int)).toNat=k:=by omega
     have SU:=Qd (Pk s k hkl);have HQ2:Hid (Nw.cut s=if D=s.take k then some (T.take n,T.drop (n+1)) else none):=Qd (by rw[HQ.out];split;rw[if_neg (by omega),if_neg (λe=>e (HZ4.out.2 rfl))];rfl);have HDQ:∀j,Calls Tryz.prog 53 #[.int .i64 (n:Int)] (w.drewN j) λe w''=>e= .returned (.string ⟨D.toArray⟩)/\∃i,w''=w.drewN i:=λj=>(HDD.out _).mono (λe w'' h=>⟨h.1,_,h.2.symm⟩);replace HDQ:=Qd HDQ;clear HQ HZ4 HG HG' HK7;obtain⟨U,hU⟩:∃U,U=s.take k:=⟨_,rfl⟩;rw[<-hU] at HQ2 SU;have he:(D==((⟨s.toArray⟩:ByteArray).extract 0 k).toList)=decide (D=U):=by
      rw[SU.out,ByteArray.toList_eq];by_cases h:D=U
      ·rw[decide_eq_true h];exact beq_iff_eq.2 h
      rw[decide_eq_false h];exact beq_eq_false_iff_ne.2 h
     clear hU;replace hT:=Qd hT;have SA:Hid ((⟨s.toArray⟩:ByteArray).extract (k+1) (k+1+n)=⟨(T.take n).toArray⟩):=Qd (by rw[hT.out];apply ByteArray.ext;simp);have SB:Hid ((⟨s.toArray⟩:ByteArray).extract (k+2+n) s.length=⟨(T.drop (n+1)).toArray⟩):=Qd (by rw[Me,hT.out,List.drop_drop,show k+2+n=k+1+(n+1) by omega]);by_cases hDU:D=U
     ·rw[decide_eq_true hDU] at he
      have HE:Hid (Ending.returned (.tuple #[.string ⟨(T.take n).toArray⟩,.string ⟨(T.drop (n+1)).toArray⟩,.bool true])= .returned (Nw.cutV (Nw.cut s))):=Qd (by rw[HQ2.out,if_pos hDU];rfl);replace hDU:=Qd hDU;have q1:(0:Int)<=(k:Int)+1:=by omega
      have q2:(k:Int)+1<=(k:Int)+1+(n:Int):=by omega
      have q3:(k:Int)+1+(n:Int)<=(s.length:Int):=by omega
      have q4:((k:Int)+1).toNat=k+1:=by omega
      have q5:(0:Int)<=(k:Int)+2+(n:Int):=by omega
      have q6:(k:Int)+2+(n:Int)<=(s.length:Int):=by omega
      have q7:((k:Int)+2+(n:Int)).toNat=k+2+n:=by omega
      clear HQ2 HNO;go_wp2_with fail
      refine wp_region_quiet_lit (by kernel_rfl) (by kernel_rfl) ?_;repeat (go_big_quiet_step (exact HDQ.out _))
      refine wpQuiet_nil ?_;rintro _ ⟨nq,rfl⟩;go_wp2_with fail
      go_quiet (fail)
      go_wp2_with fail
      go_ret3
      exact⟨by rw[<-HE.out,<-SA.out,<-SB.out];rfl,⟨rfl,rfl,rfl,Lr,λ_ _=>rfl⟩⟩
     rw[decide_eq_false hDU] at he;have HE:=Qd (HNO.out (by rw[HQ2.out,if_neg hDU]));replace hDU:=Qd hDU;go_wp2_with fail
     refine wp_region_quiet_lit (by kernel_rfl) (by kernel_rfl) ?_;repeat (go_big_quiet_step (exact HDQ.out _))
     refine wpQuiet_nil ?_;rintro _ ⟨nq,rfl⟩;go_wp2_with fail
     go_ret3
     exact⟨HE.out,⟨rfl,rfl,rfl,Lr,λ_ _=>rfl⟩⟩
    have HE:=Qd (HNO.out (by rw[HQ.out];split;rw[if_neg (by omega),if_pos (λe=>hz44 (HZ4.out.1 e))];rfl));have z3:((z:Int)!=44)=true:=by simp;omega
    clear HQ HZ4 HG HG' HK7 hT;go_wp2_with fail
    go_quiet (fail)
    go_wp2_with fail
    go_ret3
    exact⟨HE.out,⟨rfl,rfl,rfl,Lr,λ_ _=>rfl⟩⟩
   have HE:=Qd (HNO.out (by rw[HQ.out];split;rw[if_pos (by omega)];rfl));have z4:decide (T.length<=n)=true:=decide_eq_true (by omega);clear HQ HG HG' HK7 hT;go_wp2_with fail
   go_quiet (fail)
   go_wp2_with fail
   go_ret3
   exact⟨HE.out,⟨rfl,rfl,rfl,Lr,λ_ _=>rfl⟩⟩
  have HE:=Qd (HNO.out (by rw[HK7.out];split;unfold Nw.after;rw[if_neg hk0,if_neg (by omega),if_pos (λe=>hy58 (HG.out.1 e))];rfl));have z3:((y:Int)!=58)=true:=by simp;omega
  clear HK7 HG;go_wp2_with fail
  go_quiet (fail)
  go_wp2_with fail
  go_ret3
  exact⟨HE.out,⟨rfl,rfl,rfl,Lr,λ_ _=>rfl⟩⟩
 have z2:decide (s.length<=k)=true:=decide_eq_true (by omega);have HE:=Qd (HNO.out (by rw[HK7.out];split;unfold Nw.after;rw[if_neg hk0,if_pos (by omega)];rfl));clear HK7;go_wp2_with fail
 go_quiet (fail)
 go_wp2_with fail
 go_ret3
 exact⟨HE.out,⟨rfl,rfl,rfl,Lr,λ_ _=>rfl⟩⟩
end
theorem G7:(Tryz.prog.info? 9).map (λi=>(i.zero,i.size,i.bytes))=some (some (.string ⟨#[]⟩),1,16):=by kernel_rfl
def Ua (s:List UInt8):Value:= .string ⟨s.toArray⟩
theorem L9 (a b:List UInt8):(⟨a.toArray⟩:ByteArray)++(⟨b.toArray⟩:ByteArray)=⟨(a++b).toArray⟩:=by
 apply ByteArray.ext
 simp
theorem Mu (a b:List UInt8):((⟨a.toArray⟩:ByteArray)++(⟨#[45]⟩:ByteArray))++(⟨b.toArray⟩:ByteArray)=⟨(a++45::b).toArray⟩:=by
 apply ByteArray.ext
 simp
theorem Rn (a:List UInt8):((⟨#[123]⟩:ByteArray)++(⟨a.toArray⟩:ByteArray))++(⟨#[125]⟩:ByteArray)=⟨(123::(a++[125])).toArray⟩:=by
 apply ByteArray.ext
 simp
theorem Ah (l:Nat)(w:World)(hl:l<18446744073709551616)(hT:Tab64 w)(hB:0<w.heap.size):
 Calls Tryz.prog 29 #[.int .u64 (l:Int)] w λe w'=>e= .returned (Ua (Lab.text l))/\Below w.heap.size w w':=by
 obtain⟨i0,hi,hz0,hz1,hz2⟩:=info_parts G7;have hlen:=Lab.tags_len l;have HT:=Qd hT;clear hT;go_enter Tryz.func29,Tryz.ntmps29
 go_wp2_with (first
  |(go_at_call 65;refine(J6 _ _ hl HT.out hB).mono ?_;rintro e w1 ⟨v,rfl,hown1,hb1⟩;obtain⟨A,c,rfl,_,_⟩:=Sa hown1;have HL:=Qd (Lies.of_own hown1);clear hown1)
  |(at_make;refine wpList_make_own _ rfl _ _ 73 rfl w1.heap.size 9 i0 (.string ⟨#[]⟩) 1 Tryz.underlying73 hi hz0 hz1 .i64 .i64 _ (Lab.tags l).length rfl rfl rfl (by rw[hz2];omega) (by unfold maxLen;omega) Lr ?_;intro w0 hown0 hgrow0))
 have hbel0:Below w1.heap.size w1 w0:=Br.grown hgrow0 Lr (by simp);clear hgrow0;have hbB:w.heap.size<=w1.heap.size:=hb1.size;go_loopw [4,5] (λv i wr=>∃(k p:Nat) (ps:List (List UInt8)),k<=(Lab.tags l).length/\ps.length<=k/\i= .int .i64 (k:Int)/\Hid ((Lab.tags l).drop k=Lab.tagsFrom l p/\ps++Lab.pieces l p=Lab.pieces l 0)/\
  wr.ownsRow w1.heap.size 9 1 v ps.length (ps.map Ua)/\Below w1.heap.size w1 wr) (λ_ i _=>(Lab.tags l).length-(intOf i).toNat)
 case atStart=>exact⟨0,0,[],Nat.zero_le _,Lr,rfl,Qd ⟨Lab.tags_from l,rfl⟩,hown0,hbel0⟩
 case round=>
  clear hown0 hbel0;obtain⟨i,p,ps,hk,hps,rfl,H,hown,hbel⟩:=hrel;by_cases hlt:i<(Lab.tags l).length
  ·obtain⟨t,r,hcons⟩:∃t r,Lab.tagsFrom l p=t::r:=by
    cases e:Lab.tagsFrom l p with
    |nil=>have:=H.out.1;rw[e] at this;have:=List.drop_eq_nil_iff.1 this;omega
    |cons t r=>exact⟨t,r,rfl⟩
   obtain⟨ht64,htb,htf⟩:=Lab.tagsFrom_head hcons;have HD:Hid ((Lab.tags l).drop i=Lab.tagsFrom l t):=by rw[htf,<-hcons];exact H.out.1
   have HP:Hid (ps++(Lab.piece (t,Lab.last l t)++Lab.pieces l (Lab.last l t+1))=Lab.pieces l 0):=by rw[<-Lab.pieces_cons hcons];exact H.out.2
   have HB:=Qd htb;clear H hcons htf htb;obtain⟨b,off,rfl,hbb,HC⟩:∃b off,A=some ⟨b,off,none⟩/\b<w1.heap.size/\Hid (∀q x:Nat,(Lab.tags l)[q]? =some x->w1.cell? ⟨b,off+q,none⟩=some (.int .i64 (x:Int))):=by
    rcases HL.out with h |⟨b,off,hA,hb,hc⟩
    ·rw[List.map_eq_nil_iff] at h;rw[h] at hlt;simp at hlt
    exact⟨b,off,hA,hb,λq x hx=>hc q _ (by rw[List.getElem?_map,hx];rfl)⟩
   go_wp2_with fail
   obtain⟨wo,rfl⟩:∃wo:World,wo=wr:=⟨_,rfl⟩;go_loopw [6] (λj wq=>∃jn m:Nat,wq=wo.drewN m/\i<=jn/\jn<(Lab.tags l).length/\j= .int .i64 (jn:Int)/\Hid (∃d,jn=i+d/\t+d<=Lab.last l t)) (λj _=>(Lab.tags l).length-(intOf j).toNat)
   case atStart=>exact⟨i,0,rfl,Lr,hlt,rfl,Qd ⟨0,rfl,Lab.last_ge l t⟩⟩
   case round=>
    obtain⟨jn,m,rfl,hij,hjn,rfl,HJ⟩:=hrel;obtain⟨d,hd1,hd2⟩:=HJ.out;obtain⟨_,hget,hdrop,_⟩:=Lab.run_at hl HB.out HD.out d hd2;have HW:Hid (∀q x:Nat,(Lab.tags l)[q]? =some x->wo.cell? ⟨b,off+q,none⟩=some (.int .i64 (x:Int))):=λq x hx=>(hbel.cell (p:=⟨b,off+q,none⟩) hbb).trans (HC.out q x hx);have hcj:=HW.out _ _ hget;have hbt:=Lab.last_lt hl HB.out;rw[<-hd1] at hcj;obtain⟨x,hx⟩:∃x,x=t+d:=⟨_,rfl⟩;rw[<-hx] at hcj;have hx64:x<64:=by omega
    by_cases hin:t+d<Lab.last l t
    ·obtain⟨_,hget2,_,hlt2⟩:=Lab.run_at hl HB.out HD.out (d+1) (by omega)
     have hcn:=HW.out _ _ hget2;rw[show i+(d+1)=jn+1 from by omega,show t+(d+1)=x+1 from by omega] at hcn;rw[show((x+1:Nat):Int)=(x:Int)+1 from by omega] at hcn;have hj1:jn+1<(Lab.tags l).length:=by omega
     have hdec:decide ((jn:Int)+1<((Lab.tags l).length:Int))=true:=by simp;omega
     have HE:=Qd (And.intro hd1 hin);clear hd1 hx hin hget hget2 hdrop hlt2 hd2;go_wp2_with fail
     go_quiet (fail)
     go_wp2_with fail
     go_roundw
     case rel=>exact⟨jn+1,_,rfl,by omega,by omega,by go_num,Qd ⟨d+1,by have:=HE.out.1;omega,HE.out.2⟩⟩
     case measure=>simp[intOf];omega
    have hlast:t+d=Lab.last l t:=by omega
    have hstop:=Lab.run_stop hl HB.out HD.out hlast;rw[<-hd1] at hstop;have HE:=Qd (And.intro hd1 hlast);have HX:=Qd hx;have HDR:=Qd hdrop;clear hd1 hin hget hdrop hd2 hlast;have hci:=HW.out i t (by have:=(Lab.run_at hl HB.out HD.out 0 (Lab.last_ge l t)).2.1;simpa using this);have hsz:=hbel.size;have HF:Hid ((Lab.tags l).drop (jn+1)=Lab.tagsFrom l (Lab.last l t+1)):=by
     have h:=HDR.out;have h1:=HE.out;rw[<-h1.2,h1.1];exact h
    have HW2:Hid (∀wx:World,Below w1.heap.size w1 wx->wx.cell? ⟨b,off+jn,none⟩=some (.int .i64 (x:Int))):=λwx hx=>(hx.cell (p:=⟨b,off+jn,none⟩) hbb).trans ((hbel.cell (p:=⟨b,off+jn,none⟩) hbb).symm.trans hcj);have h3:jn=i\/jn=i+1\/i+2<=jn:=by omega
    rcases hstop with hstop |⟨y,hy,hyne,hylt,hy64⟩
    ·have hdec:decide ((jn:Int)+1<((Lab.tags l).length:Int))=false:=by simp;omega
     clear hx;rcases h3 with h3 |h3 |h3
     ·have HX2:Hid (Lab.piece (t,Lab.last l t)=[Lib.decDigits x]):=Qd (by
       have h1:=HE.out;have h2:=HX.out;have e1:Lab.last l t=t:=by omega
       have e2:x=t:=by omega
       rw[e1,e2];simp[Lab.piece])
      have hs1:((jn:Int)-(i:Int)==1)=false:=by simp;omega
      have hs0:((jn:Int)-(i:Int)==0)=true:=by simp;omega
      have hlj:jn<=i:=by omega
      clear h3;go_wp2_with fail
      go_quiet (fail)
      have hownq:(wo.drewN (m+nq)).ownsRow w1.heap.size 9 1 u4 ps.length (ps.map Ua):=hown;have hbq:Below w1.heap.size w1 (wo.drewN (m+nq)):=⟨hbel.os,hbel.tape,hbel.output,hbel.size,hbel.block⟩;go_wp2_with (first
       |(go_at_call 63;refine(Tryz.strconv_Itoa_small _ (by omega) _).mono ?_;rintro e w' ⟨rfl,rfl⟩)
       |(at_builtin;refine wpList_append_own _ rfl (.tmp 52) (.tmp 58) 73 rfl w1.heap.size 9 i0 (.string ⟨#[]⟩) 1 16 Tryz.underlying73 hi hz0 hz1 hz2 rfl (by decide) _ _ _ rfl (hownq.alloc _) ⟨_,0,none⟩ 1 1 [Ua (Lib.decDigits x)] rfl rfl (cell_one_new _ _ _) (by intro u hu;simp only[List.mem_singleton] at hu;subst hu;rfl) (by unfold maxLen;omega) (by omega) (by simp;omega) ?_;intro v2 w2 hown2 hgrow2 hnn2))
      have hb2:Below w1.heap.size w1 w2:=(hbq.alloc (by simp;omega) _).grown hgrow2 (by simp;omega) (λk hk=>(hown.lt k hk).1);refine⟨⟨jn+1,Lab.last l t+1,ps++[Lib.decDigits x],by omega,by simp;omega,by go_num,Qd ⟨HF.out,?_⟩,by simpa using hown2,hb2⟩,by simp[intOf];omega⟩;rw[List.append_assoc,<-HX2.out];exact HP.out
     ·have HX2:Hid (Lab.piece (t,Lab.last l t)=[Lib.decDigits t,Lib.decDigits x]):=Qd (by
       have h1:=HE.out;have h2:=HX.out;have e1:Lab.last l t=t+1:=by omega
       have e2:x=t+1:=by omega
       rw[e1,e2];simp[Lab.piece])
      have hs1:((jn:Int)-(i:Int)==1)=true:=by simp;omega
      have hlj:i+1<=jn:=by omega
      clear h3;go_wp2_with fail
      go_quiet (fail)
      have hownq:(wo.drewN (m+nq)).ownsRow w1.heap.size 9 1 u4 ps.length (ps.map Ua):=hown;have hbq:Below w1.heap.size w1 (wo.drewN (m+nq)):=⟨hbel.os,hbel.tape,hbel.output,hbel.size,hbel.block⟩;go_wp2_with (first
       |(go_at_call 63;refine(Tryz.strconv_Itoa_small _ (by omega) _).mono ?_;rintro e w' ⟨rfl,rfl⟩)
       |(at_builtin;refine wpList_append_own _ rfl (.tmp 44) (.tmp 50) 73 rfl w1.heap.size 9 i0 (.string ⟨#[]⟩) 1 16 Tryz.underlying73 hi hz0 hz1 hz2 rfl (by decide) _ _ _ rfl (hownq.alloc _) ⟨_,0,none⟩ 1 1 [Ua (Lib.decDigits t)] rfl rfl (cell_one_new _ _ _) (by intro u hu;simp only[List.mem_singleton] at hu;subst hu;rfl) (by unfold maxLen;omega) (by omega) (by simp;omega) ?_;intro v2 w2 hown2 hgrow2 hnn2;have hb2:Below w1.heap.size w1 w2:=(hbq.alloc (by simp;omega) _).grown hgrow2 (by simp;omega) (λk hk=>(hown.lt k hk).1);have hsz2:=hb2.size;have hcj2:=HW2.out w2 hb2;clear hgrow2 hnn2)
       |(at_builtin;refine wpList_append_own _ rfl (.tmp 52) (.tmp 58) 73 rfl w1.heap.size 9 i0 (.string ⟨#[]⟩) 1 16 Tryz.underlying73 hi hz0 hz1 hz2 rfl (by decide) _ _ _ rfl (hown2.alloc _) ⟨_,0,none⟩ 1 1 [Ua (Lib.decDigits x)] rfl rfl (cell_one_new _ _ _) (by intro u hu;simp only[List.mem_singleton] at hu;subst hu;rfl) (by unfold maxLen;omega) (by omega) (by simp;omega) ?_;intro v3 w3 hown3 hgrow3 hnn3))
      have hb3:=(hb2.alloc (by omega) _).grown hgrow3 (by simp;omega) (λk hk=>(hown2.lt k hk).1);refine⟨⟨jn+1,Lab.last l t+1,ps++[Lib.decDigits t,Lib.decDigits x],by omega,by simp;omega,by go_num,Qd ⟨HF.out,?_⟩,by simpa using hown3,hb3⟩,by simp[intOf];omega⟩;rw[List.append_assoc,<-HX2.out];exact HP.out
     have HX2:Hid (Lab.piece (t,Lab.last l t)=[Lib.decDigits t++45::Lib.decDigits x]):=Qd (by
      have h1:=HE.out;have h2:=HX.out;have e2:x=Lab.last l t:=by omega
      rw[e2];unfold Lab.piece;rw[if_neg (by simp;omega),if_neg (by simp;omega)])
     have hs1:((jn:Int)-(i:Int)==1)=false:=by simp;omega
     have hs0:((jn:Int)-(i:Int)==0)=false:=by simp;omega
     have hdt:=(Lab.dec_len ht64).2;have hdx:=(Lab.dec_len hx64).2;have hno1:(9223372036854775807<(Lib.decDigits t).length+1)=False:=by simp;omega
     have hno2:(9223372036854775807<(Lib.decDigits t).length+1+(Lib.decDigits x).length)=False:=by simp;omega
     go_wp2_with fail
     go_quiet (fail)
     have hownq:(wo.drewN (m+nq)).ownsRow w1.heap.size 9 1 u4 ps.length (ps.map Ua):=hown;have hbq:Below w1.heap.size w1 (wo.drewN (m+nq)):=⟨hbel.os,hbel.tape,hbel.output,hbel.size,hbel.block⟩;have hbr:Below w1.heap.size w1 (wo.drewN (m+nq+1)):=⟨hbel.os,hbel.tape,hbel.output,hbel.size,hbel.block⟩;have hownr:(wo.drewN (m+nq+1)).ownsRow w1.heap.size 9 1 u4 ps.length (ps.map Ua):=hown;go_wp2_with fail
     go_region_law (first
      |(refine step_append_lies _ (by rfl) (.tmp 60) (.tmp 73) 73 (by rfl) w1.heap.size 9 i0 (.string ⟨#[]⟩) 1 16 Tryz.underlying73 hi hz0 hz1 hz2 rfl (by omega) u4 ps.length (ps.map Ua) (by rfl) (by exact(hownr.alloc _)) ⟨wo.heap.size,0,none⟩ 1 1 [.string (⟨(Lib.decDigits t).toArray⟩++⟨#[45]⟩++⟨(Lib.decDigits x).toArray⟩)] (by rfl) (by rfl) (by exact cell_one_new _ _ _) (by intro u hu;simp only[List.mem_singleton] at hu;subst hu;rfl) (by omega) (by unfold maxLen;omega) (by omega) (by simp;omega) (wo.heap.size+1) (by simp) ?_;intro g2 c2 w2 hown2 hgrow2 hg2 hg3)
      |(go_simp;(go_at_call 63;refine(Tryz.strconv_Itoa_small _ (by omega) _).mono ?_;rintro e w' ⟨rfl,rfl⟩)))
     all_goals
      have hb2:Below w1.heap.size w1 w2:=(hbr.alloc (by simp;omega) _).grown hgrow2 (by simp;omega) (λk hk=>(hown.lt k hk).1);clear hgrow2;go_wp2_with fail
      refine⟨⟨jn+1,Lab.last l t+1,ps++[Lib.decDigits t++45::Lib.decDigits x],by omega,by simp;omega,by go_num,Qd ⟨HF.out,?_⟩,?_,hb2⟩,by simp[intOf];omega⟩
      ·rw[List.append_assoc,<-HX2.out];exact HP.out
      rw[List.length_append,List.map_append];simpa [Ua,Mu] using hown2
    have hdec:decide ((jn:Int)+1<((Lab.tags l).length:Int))=true:=by simp;omega
    have hcn:=HW.out _ _ hy;have hne:((y:Int)==(x:Int)+1)=false:=by simp;omega
    clear hx hy hyne;rcases h3 with h3 |h3 |h3
    ·have HX2:Hid (Lab.piece (t,Lab.last l t)=[Lib.decDigits x]):=Qd (by
      have h1:=HE.out;have h2:=HX.out;have e1:Lab.last l t=t:=by omega
      have e2:x=t:=by omega
      rw[e1,e2];simp[Lab.piece])
     have hs1:((jn:Int)-(i:Int)==1)=false:=by simp;omega
     have hs0:((jn:Int)-(i:Int)==0)=true:=by simp;omega
     have hlj:jn<=i:=by omega
     clear h3;go_wp2_with fail
     go_quiet (fail)
     have hownq:(wo.drewN (m+nq)).ownsRow w1.heap.size 9 1 u4 ps.length (ps.map Ua):=hown;have hbq:Below w1.heap.size w1 (wo.drewN (m+nq)):=⟨hbel.os,hbel.tape,hbel.output,hbel.size,hbel.block⟩;go_wp2_with (first
      |(go_at_call 63;refine(Tryz.strconv_Itoa_small _ (by omega) _).mono ?_;rintro e w' ⟨rfl,rfl⟩)
      |(at_builtin;refine wpList_append_own _ rfl (.tmp 52) (.tmp 58) 73 rfl w1.heap.size 9 i0 (.string ⟨#[]⟩) 1 16 Tryz.underlying73 hi hz0 hz1 hz2 rfl (by decide) _ _ _ rfl (hownq.alloc _) ⟨_,0,none⟩ 1 1 [Ua (Lib.decDigits x)] rfl rfl (cell_one_new _ _ _) (by intro u hu;simp only[List.mem_singleton] at hu;subst hu;rfl) (by unfold maxLen;omega) (by omega) (by simp;omega) ?_;intro v2 w2 hown2 hgrow2 hnn2))
     have hb2:Below w1.heap.size w1 w2:=(hbq.alloc (by simp;omega) _).grown hgrow2 (by simp;omega) (λk hk=>(hown.lt k hk).1);refine⟨⟨jn+1,Lab.last l t+1,ps++[Lib.decDigits x],by omega,by simp;omega,by go_num,Qd ⟨HF.out,?_⟩,by simpa using hown2,hb2⟩,by simp[intOf];omega⟩;rw[List.append_assoc,<-HX2.out];exact HP.out
    ·have HX2:Hid (Lab.piece (t,Lab.last l t)=[Lib.decDigits t,Lib.decDigits x]):=Qd (by
      have h1:=HE.out;have h2:=HX.out;have e1:Lab.last l t=t+1:=by omega
      have e2:x=t+1:=by omega
      rw[e1,e2];simp[Lab.piece])
     have hs1:((jn:Int)-(i:Int)==1)=true:=by simp;omega
     have hlj:i+1<=jn:=by omega
     clear h3;go_wp2_with fail
     go_quiet (fail)
     have hownq:(wo.drewN (m+nq)).ownsRow w1.heap.size 9 1 u4 ps.length (ps.map Ua):=hown;have hbq:Below w1.heap.size w1 (wo.drewN (m+nq)):=⟨hbel.os,hbel.tape,hbel.output,hbel.size,hbel.block⟩;go_wp2_with (first
      |(go_at_call 63;refine(Tryz.strconv_Itoa_small _ (by omega) _).mono ?_;rintro e w' ⟨rfl,rfl⟩)
      |(at_builtin;refine wpList_append_own _ rfl (.tmp 44) (.tmp 50) 73 rfl w1.heap.size 9 i0 (.string ⟨#[]⟩) 1 16 Tryz.underlying73 hi hz0 hz1 hz2 rfl (by decide) _ _ _ rfl (hownq.alloc _) ⟨_,0,none⟩ 1 1 [Ua (Lib.decDigits t)] rfl rfl (cell_one_new _ _ _) (by intro u hu;simp only[List.mem_singleton] at hu;subst hu;rfl) (by unfold maxLen;omega) (by omega) (by simp;omega) ?_;intro v2 w2 hown2 hgrow2 hnn2;have hb2:Below w1.heap.size w1 w2:=(hbq.alloc (by simp;omega) _).grown hgrow2 (by simp;omega) (λk hk=>(hown.lt k hk).1);have hsz2:=hb2.size;have hcj2:=HW2.out w2 hb2;clear hgrow2 hnn2)
      |(at_builtin;refine wpList_append_own _ rfl (.tmp 52) (.tmp 58) 73 rfl w1.heap.size 9 i0 (.string ⟨#[]⟩) 1 16 Tryz.underlying73 hi hz0 hz1 hz2 rfl (by decide) _ _ _ rfl (hown2.alloc _) ⟨_,0,none⟩ 1 1 [Ua (Lib.decDigits x)] rfl rfl (cell_one_new _ _ _) (by intro u hu;simp only[List.mem_singleton] at hu;subst hu;rfl) (by unfold maxLen;omega) (by omega) (by simp;omega) ?_;intro v3 w3 hown3 hgrow3 hnn3))
     have hb3:=(hb2.alloc (by omega) _).grown hgrow3 (by simp;omega) (λk hk=>(hown2.lt k hk).1);refine⟨⟨jn+1,Lab.last l t+1,ps++[Lib.decDigits t,Lib.decDigits x],by omega,by simp;omega,by go_num,Qd ⟨HF.out,?_⟩,by simpa using hown3,hb3⟩,by simp[intOf];omega⟩;rw[List.append_assoc,<-HX2.out];exact HP.out
    have HX2:Hid (Lab.piece (t,Lab.last l t)=[Lib.decDigits t++45::Lib.decDigits x]):=Qd (by
     have h1:=HE.out;have h2:=HX.out;have e2:x=Lab.last l t:=by omega
     rw[e2];unfold Lab.piece;rw[if_neg (by simp;omega),if_neg (by simp;omega)])
    have hs1:((jn:Int)-(i:Int)==1)=false:=by simp;omega
    have hs0:((jn:Int)-(i:Int)==0)=false:=by simp;omega
    have hdt:=(Lab.dec_len ht64).2;have hdx:=(Lab.dec_len hx64).2;have hno1:(9223372036854775807<(Lib.decDigits t).length+1)=False:=by simp;omega
    have hno2:(9223372036854775807<(Lib.decDigits t).length+1+(Lib.decDigits x).length)=False:=by simp;omega
    go_wp2_with fail
    go_quiet (fail)
    have hownq:(wo.drewN (m+nq)).ownsRow w1.heap.size 9 1 u4 ps.length (ps.map Ua):=hown;have hbq:Below w1.heap.size w1 (wo.drewN (m+nq)):=⟨hbel.os,hbel.tape,hbel.output,hbel.size,hbel.block⟩;have hbr:Below w1.heap.size w1 (wo.drewN (m+nq+1)):=⟨hbel.os,hbel.tape,hbel.output,hbel.size,hbel.block⟩;have hownr:(wo.drewN (m+nq+1)).ownsRow w1.heap.size 9 1 u4 ps.length (ps.map Ua):=hown;go_wp2_with fail
    go_region_law (first
     |(refine step_append_lies _ (by rfl) (.tmp 60) (.tmp 73) 73 (by rfl) w1.heap.size 9 i0 (.string ⟨#[]⟩) 1 16 Tryz.underlying73 hi hz0 hz1 hz2 rfl (by omega) u4 ps.length (ps.map Ua) (by rfl) (by exact(hownr.alloc _)) ⟨wo.heap.size,0,none⟩ 1 1 [.string (⟨(Lib.decDigits t).toArray⟩++⟨#[45]⟩++⟨(Lib.decDigits x).toArray⟩)] (by rfl) (by rfl) (by exact cell_one_new _ _ _) (by intro u hu;simp only[List.mem_singleton] at hu;subst hu;rfl) (by omega) (by unfold maxLen;omega) (by omega) (by simp;omega) (wo.heap.size+1) (by simp) ?_;intro g2 c2 w2 hown2 hgrow2 hg2 hg3)
     |(go_simp;(go_at_call 63;refine(Tryz.strconv_Itoa_small _ (by omega) _).mono ?_;rintro e w' ⟨rfl,rfl⟩)))
    all_goals
     have hb2:Below w1.heap.size w1 w2:=(hbr.alloc (by simp;omega) _).grown hgrow2 (by simp;omega) (λk hk=>(hown.lt k hk).1);clear hgrow2;go_wp2_with fail
     refine⟨⟨jn+1,Lab.last l t+1,ps++[Lib.decDigits t++45::Lib.decDigits x],by omega,by simp;omega,by go_num,Qd ⟨HF.out,?_⟩,?_,hb2⟩,by simp[intOf];omega⟩
     ·rw[List.append_assoc,<-HX2.out];exact HP.out
     rw[List.length_append,List.map_append];simpa [Ua,Mu] using hown2
  have HPS:Hid (ps=Lab.pieces l 0):=by
   have h:=H.out;rw[List.drop_eq_nil_of_le (by omega)] at h;rw[<-h.2,Lab.pieces_nil h.1.symm,List.append_nil];exact rfl
  have HJ:Hid ((Lib.join ps [44]).length<=384/\∀x∈ps,1<=x.length):=by
   have h1:=Lab.pieces_len hl 0;rw[<-HPS.out] at h1;have h2:=Lab.join_len_le ps (λx hx=>(h1 x hx).2);exact⟨by omega,λx hx=>(h1 x hx).1⟩
  have hbw:Below w.heap.size w wr:=hb1.trans (hbel.mono hbB);have HTX:Hid (Lab.text l=123::(Lib.join ps [44]++[125])):=by rw[HPS.out];exact rfl
  clear H HPS;rcases Nat.eq_zero_or_pos ps.length with h0 |h0
  ·obtain rfl:=List.eq_nil_of_length_eq_zero h0
   obtain⟨A',c',rfl,_,_⟩:=Sa hown;go_wp2_with (go_at_call 64;refine(Tryz.strings_Join_none _ _ _ _).mono ?_;rintro e w' ⟨rfl,rfl⟩)
   go_ret;exact⟨by rw[HTX.out];rfl,hbw⟩
  obtain⟨g,cap,rfl,_,hg⟩:=hown.form h0;obtain⟨_,c',hv,hcap,_⟩:=Sa hown;injection hv with hA1 hA2 hcc
  subst hcc;clear hA1 hA2;have hj:=Tryz.strings_Join g 0 cap (ps.map λs=>(⟨s.toArray⟩:ByteArray)) ⟨#[44]⟩ wr (λj x hx=>by
   refine F5 hown j _ ?_;rw[List.getElem?_map] at hx⊢;obtain⟨y,hy,rfl⟩:=Option.map_eq_some_iff.1 hx;rw[hy];rfl) hg (by rw[List.length_map];omega) (by rw[List.length_map];exact hcap) (by
   have:=HJ.out.1;rw[List.map_map,show((λx:ByteArray=>x.data.toList)∘λs:List UInt8=>(⟨s.toArray⟩:ByteArray))=id from rfl,List.map_id];exact Nat.le_trans this (by omega))
  rw[List.length_map,List.map_map,show((λx:ByteArray=>x.data.toList)∘λs:List UInt8=>(⟨s.toArray⟩:ByteArray))=id from rfl,List.map_id] at hj;have HJ2:=Qd hj;clear hj;obtain⟨J,hJ⟩:∃J,J=Lib.join ps [44]:=⟨_,rfl⟩;have hJl:J.length<=384:=by rw[hJ];exact HJ.out.1
  have hno1:(9223372036854775807<1+J.length)=False:=by simp;omega
  have hno2:(9223372036854775807<1+J.length+1)=False:=by simp;omega
  have HJ3:=Qd hJ;clear hJ;go_wp2_with (go_at_call 64;refine HJ2.out.mono ?_;rintro e w' ⟨rfl,hbj⟩;rw[<-HJ3.out])
  go_ret;refine⟨?_,hbw.trans (hbj.mono (Nat.le_trans hbB hbel.size))⟩;rw[HTX.out,<-HJ3.out];exact congrArg (λs=>Ending.returned (.string s)) (Rn J)
theorem Bh (n:Nat)(w:World)(h:n<10):
 Calls Tryz.prog 53 #[.int .i64 (n:Int)] w λe w'=>e= .returned (Ua (Lib.decDigits n))/\w=w':=by
 have HD:=Qd (Lib.decDigits_one h);have h10:n=0\/n=1\/n=2\/n=3\/n=4\/n=5\/n=6\/n=7\/n=8\/n=9:=by omega
 rcases h10 with rfl |rfl |rfl |rfl |rfl |rfl |rfl |rfl |rfl |rfl
 all_goals
  go_enter Tryz.func53,Tryz.ntmps53
  go_wp2_with fail
  go_ret;exact⟨by rw[HD.out];rfl,rfl⟩
theorem Ol (n:Nat)(w:World)(h:n<100):
 Calls Tryz.prog 53 #[.int .i64 (n:Int)] w λe w'=>e= .returned (Ua (Lib.decDigits n))/\w=w':=by
 by_cases h10:n<10
 ·exact Bh n w h10
 have HD:Lib.decDigits n=Lib.decDigits (n/10)++Lib.decDigits (n%10):=by
  rw[Lib.decDigits_two h10 h,Lib.decDigits_one (by omega:n/10<10),Lib.decDigits_one (by omega:n%10<10)];rfl
 replace HD:=Qd HD;have H1:=Qd (Bh (n/10) w (by omega));have H2:=Qd (Bh (n%10) w (by omega));have hp:(Lib.decDigits (n/10)).length=1:=by rw[Lib.decDigits_one (by omega:n/10<10)];rfl
 have hq:(Lib.decDigits (n%10)).length=1:=by rw[Lib.decDigits_one (by omega:n%10<10)];rfl
 generalize Lib.decDigits (n/10)=p at HD H1 hp;generalize Lib.decDigits (n%10)=q at HD H2 hq;have e1:((n/10:Nat):Int)=(n:Int)/10:=by omega
 have e2:((n%10:Nat):Int)=(n:Int)%10:=by omega
 rw[e1] at H1;rw[e2] at H2;clear e1 e2;go_enter Tryz.func53,Tryz.ntmps53
 go_wp2_with fail
 refine H1.out.mono ?_;rintro e w' ⟨rfl,rfl⟩;rw[Ua];go_wp2_with fail
 refine H2.out.mono ?_;rintro e w' ⟨rfl,rfl⟩;rw[Ua];go_wp2_with fail
 go_ret;exact⟨by rw[HD.out];simp only[Ua,L9];rfl,rfl⟩
theorem Pw {l t:Nat}(h:t<64)(hb:l.testBit t=false):Lab.pieces l t=Lab.pieces l (t+1):=by
 rw[Lab.pieces,Lab.runs,dif_pos h,if_neg (by simp[hb])];rfl
theorem Ch {l t:Nat}(h:t<64)(hb:l.testBit t=true):Lab.pieces l t=Lab.piece (t,Lab.last l t)++Lab.pieces l (Lab.last l t+1):=by
 rw[Lab.pieces,Lab.runs,dif_pos h,if_pos hb,List.flatMap_cons];rfl
theorem Kz {l t:Nat}(h:64<=t):Lab.pieces l t=[]:=by
 rw[Lab.pieces,Lab.runs,dif_neg (by omega)];rfl
def TextAt (l t:Nat)(J:List UInt8):Prop:=∃ps:List (List UInt8),J=Lib.join ps [44]/\ps++Lab.pieces l t=Lab.pieces l 0
theorem TextAt.len {l t:Nat}{J:List UInt8}(hl:l<18446744073709551616)(h:TextAt l t J):J.length<=384:=by
 obtain⟨ps,rfl,h⟩:=h;have hp:=Lab.pieces_len hl 0;have hc:=Lab.pieces_count hl 64 0 (by omega);have:=Lab.join_len_le ps (λx hx=>(hp x (by rw[<-h];exact List.mem_append_left _ hx)).2);have h2:ps.length<=(Lab.pieces l 0).length:=by rw[<-h];simp
 omega
def Qa (J x:List UInt8):List UInt8:=if J=[] then x else J++44::x
theorem Qg {ps:List (List UInt8)}(h:∀x∈ps,1<=x.length)(x:List UInt8):Lib.join (ps++[x]) [44]=Qa (Lib.join ps [44]) x:=by
 rw[Lab.join_snoc,Qa];have:=Lab.join_eq_nil h;by_cases e:ps=[]
 ·subst e;simp[Lib.join_nil]
 rw[if_neg e,if_neg (λh=>e (this.1 h))];rfl
theorem TextAt.skip {l t:Nat}{J:List UInt8}(h:TextAt l t J)(ht:t<64)(hb:l.testBit t=false):TextAt l (t+1) J:=by
 obtain⟨ps,e,h⟩:=h;exact⟨ps,e,by rw[<-Pw ht hb];exact h⟩
theorem TextAt.one {l t:Nat}{J:List UInt8}(hl:l<18446744073709551616)(h:TextAt l t J)(ht:t<64)(hb:l.testBit t=true)(hk:Lab.last l t=t):TextAt l (t+1) (Qa J (Lib.decDigits t)):=by
 obtain⟨ps,rfl,h⟩:=h;have hp:=Lab.pieces_len hl 0;refine⟨ps++[Lib.decDigits t],(Qg (λx hx=>(hp x (by rw[<-h];exact List.mem_append_left _ hx)).1) _).symm,?_⟩;rw[Ch ht hb,hk] at h;rw[<-h];simp[Lab.piece]
theorem TextAt.two {l t:Nat}{J:List UInt8}(hl:l<18446744073709551616)(h:TextAt l t J)(ht:t<64)(hb:l.testBit t=true)(hk:Lab.last l t=t+1):TextAt l (t+1+1) (Qa J (Lib.decDigits t)++44::Lib.decDigits (t+1)):=by
 obtain⟨ps,rfl,h⟩:=h;have hp:=Lab.pieces_len hl 0;have h1:∀x∈ps,1<=x.length:=λx hx=>(hp x (by rw[<-h];exact List.mem_append_left _ hx)).1;have h2:∀x∈ps++[Lib.decDigits t],1<=x.length:=λx hx=>by
  rcases List.mem_append.1 hx with hx |hx
  ·exact h1 x hx
  simp at hx;subst hx;exact(Lab.dec_len ht).1
 refine⟨ps++[Lib.decDigits t]++[Lib.decDigits (t+1)],?_,?_⟩
 ·rw[Qg h2,Qg h1]
  have hne:Qa (Lib.join ps [44]) (Lib.decDigits t)≠[]:=by
   unfold Qa
   split
   ·intro e;have:=(Lab.dec_len ht).1;rw[e] at this;simp at this
   simp
  generalize Qa (Lib.join ps [44]) (Lib.decDigits t)=K at hne⊢;rw[Qa,if_neg hne]
 rw[Ch ht hb,hk] at h;rw[<-h];simp[Lab.piece]
theorem TextAt.more {l t:Nat}{J:List UInt8}(hl:l<18446744073709551616)(h:TextAt l t J)(ht:t<64)(hb:l.testBit t=true)(hk:t+1<Lab.last l t):TextAt l (Lab.last l t+1) (Qa J (Lib.decDigits t)++45::Lib.decDigits (Lab.last l t)):=by
 obtain⟨ps,rfl,h⟩:=h;have hp:=Lab.pieces_len hl 0;refine⟨ps++[Lib.decDigits t++45::Lib.decDigits (Lab.last l t)],?_,?_⟩
 ·rw[Qg (λx hx=>(hp x (by rw[<-h];exact List.mem_append_left _ hx)).1),Qa,Qa]
  split<;>simp
 rw[Ch ht hb] at h;rw[<-h];have e:Lab.piece (t,Lab.last l t)=[Lib.decDigits t++45::Lib.decDigits (Lab.last l t)]:=by
  unfold Lab.piece;rw[if_neg (by simp;omega),if_neg (by simp;omega)]
 rw[e];simp
theorem TextAt.done {l:Nat}{J:List UInt8}(h:TextAt l 64 J):123::(J++[125])=Lab.text l:=by
 obtain⟨ps,rfl,h⟩:=h;rw[Kz (by omega),List.append_nil] at h;rw[h];rfl
theorem U3 {l t k:Nat}(hl:l<18446744073709551616)(hb:l.testBit t=true)(h1:t<=k)(h2:k<=Lab.last l t):(l.testBit (k+1)=true↔k<Lab.last l t):=by
 constructor
 ·intro h
  rcases Nat.lt_or_ge k (Lab.last l t) with h3 |h3
  ·exact h3
  have:k=Lab.last l t:=by omega
  subst this;rw[Lab.last_stop hl] at h;cases h
 intro h;exact Lab.last_bits hb (k+1) (by omega) (by omega)
theorem Oe (l:Nat)(w:World)(hl:l<18446744073709551616):
 Calls Tryz.prog 37 #[.int .u64 (l:Int)] w λe w'=>e= .returned (Ua (Lab.text l))/\w=w':=by
 go_enter Tryz.func37,Tryz.ntmps37
 go_wp2_with fail
 go_loop [3,4,5] (λsv tv kv=>∃(t:Nat) (J:List UInt8),t<=64/\tv= .int .i64 (t:Int)/\sv= .string ⟨J.toArray⟩/\J.length<=384/\Hid (TextAt l t J)) (λ_ tv _=>64-(intOf tv).toNat)
 case atStart=>exact⟨0,[],by omega,rfl,rfl,by simp,Qd ⟨[],rfl,rfl⟩⟩
 case round=>
  obtain⟨t,J,ht,rfl,rfl,hJ,H⟩:=hrel;by_cases h64:t<64
  ·cases hb:l.testBit t
   ·have HA:=Qd (Hk l t w hl (by omega))
    have HB:=Qd hb;rw[hb] at HA;clear hb;go_wp2_with (go_at_call 70;refine HA.out.mono ?_;rintro e w' ⟨rfl,rfl⟩)
    exact⟨⟨t+1,J,by omega,by go_num,rfl,hJ,Qd (H.out.skip h64 HB.out)⟩,by simp[intOf];omega⟩
   have HA:=Qd (Hk l t w hl (by omega));have HB:=Qd hb;rw[hb] at HA;have hge:=Lab.last_ge l t;have hlt:=Lab.last_lt hl hb;clear hb;go_wp2_with (go_at_call 70;refine HA.out.mono ?_;rintro e w' ⟨rfl,rfl⟩)
   go_loop [5] (λkv=>∃k:Nat,t<=k/\k<=Lab.last l t/\kv= .int .i64 (k:Int)) (λkv=>64-(intOf kv).toNat)
   case atStart=>exact⟨t,Lr,hge,rfl⟩
   case round=>
    obtain⟨k,hk1,hk2,rfl⟩:=hrel;have HN:=Qd (U3 hl HB.out hk1 hk2);have HK:=Qd (Hk l (k+1) w hl (by omega));rw[show((k+1:Nat):Int)=(k:Int)+1 by omega] at HK;by_cases hk:k<Lab.last l t
    ·rw[HN.out.2 hk] at HK
     have h63:k<63:=by omega
     go_wp2_with (go_at_call 70;refine HK.out.mono ?_;rintro e w' ⟨rfl,rfl⟩)
     go_round
     case rel=>exact⟨k+1,by omega,by omega,by go_num⟩
     case measure=>simp[intOf];omega
    have hke:k=Lab.last l t:=by omega
    have hf:l.testBit (k+1)=false:=by
     cases e:l.testBit (k+1)
     ·rfl
     exact absurd (HN.out.1 e) hk
    rw[hf] at HK;have HKE:=Qd hke;clear hf hke hk HN;have HT1:Hid (k=t->TextAt l (t+1) (Qa J (Lib.decDigits t))):=Qd (λh=>H.out.one hl h64 HB.out (by rw[<-HKE.out,h]));have HT2:Hid (k=t+1->TextAt l (t+1+1) (Qa J (Lib.decDigits t)++44::Lib.decDigits (t+1))):=Qd (λh=>H.out.two hl h64 HB.out (by rw[<-HKE.out,h]));have HT3:Hid (t+1<k->TextAt l (k+1) (Qa J (Lib.decDigits t)++45::Lib.decDigits k)):=Qd (λh=>by have:=H.out.more hl h64 HB.out (by rw[<-HKE.out];exact h);rw[<-HKE.out] at this;exact this);have DT:=Qd (Ol t w (by omega));have DK:=Qd (Ol k w (by omega));rw[Ua] at DT DK;have hdt:=(Lab.dec_len h64).2;have hdk:=(Lab.dec_len (show k<64 by omega)).2;generalize Lib.decDigits t=dt at*;have h3:k=t\/k=t+1\/t+1<k:=by omega
    have hj2:∀b J',J=b::J'->J'.length<=383:=λb J' e=>by subst e;rw[List.length_cons] at hJ;omega
    rcases h3 with h3 |h3 |h3
    ·have HX:Hid (TextAt l (k+1) (Qa J dt)):=Qd (by rw[h3];exact HT1.out h3)
     have hkt:k<=t:=by omega
     have HL:=Qd (HX.out.len hl);clear h3 HT1 HT2 HT3 DK;rcases J with _ |⟨b,J'⟩
     all_goals
      try (have hj3:=hj2 _ _ rfl)
      clear hj2;by_cases h63:k<63
      all_goals
       go_wp2_with (first|(go_at_call 70;refine HK.out.mono ?_;rintro e w' ⟨rfl,rfl⟩) |(go_at_call_of 53 (Value.int .i64 (t:Int));refine DT.out.mono ?_;rintro e w' ⟨rfl,rfl⟩) |(go_at_call_of 53 (Value.int .i64 (k:Int));refine DK.out.mono ?_;rintro e w' ⟨rfl,rfl⟩))
       exact⟨⟨k+1,_,by omega,by go_num,congrArg Value.string (by apply ByteArray.ext;simp[Qa]),HL.out,HX⟩,by simp[intOf];omega⟩
    ·have HX:Hid (TextAt l (k+1) (Qa J dt++44::Lib.decDigits k)):=Qd (by rw[h3];exact HT2.out h3)
     have hkt:k<=t+1:=by omega
     have hkt2:t+1<=k:=by omega
     have HL:=Qd (HX.out.len hl);generalize Lib.decDigits k=dk at*;clear h3 HT1 HT2 HT3;rcases J with _ |⟨b,J'⟩
     all_goals
      try (have hj3:=hj2 _ _ rfl)
      clear hj2;by_cases h63:k<63
      all_goals
       go_wp2_with (first|(go_at_call 70;refine HK.out.mono ?_;rintro e w' ⟨rfl,rfl⟩) |(go_at_call_of 53 (Value.int .i64 (t:Int));refine DT.out.mono ?_;rintro e w' ⟨rfl,rfl⟩) |(go_at_call_of 53 (Value.int .i64 (k:Int));refine DK.out.mono ?_;rintro e w' ⟨rfl,rfl⟩))
       exact⟨⟨k+1,_,by omega,by go_num,congrArg Value.string (by apply ByteArray.ext;simp[Qa]),HL.out,HX⟩,by simp[intOf];omega⟩
    have HX:Hid (TextAt l (k+1) (Qa J dt++45::Lib.decDigits k)):=Qd (HT3.out h3);have hkt2:t+1<k:=h3;have HL:=Qd (HX.out.len hl);generalize Lib.decDigits k=dk at*;clear h3 HT1 HT2 HT3;rcases J with _ |⟨b,J'⟩
    all_goals
     try (have hj3:=hj2 _ _ rfl)
     clear hj2;by_cases h63:k<63
     all_goals
      go_wp2_with (first|(go_at_call 70;refine HK.out.mono ?_;rintro e w' ⟨rfl,rfl⟩) |(go_at_call_of 53 (Value.int .i64 (t:Int));refine DT.out.mono ?_;rintro e w' ⟨rfl,rfl⟩) |(go_at_call_of 53 (Value.int .i64 (k:Int));refine DK.out.mono ?_;rintro e w' ⟨rfl,rfl⟩))
      exact⟨⟨k+1,_,by omega,by go_num,congrArg Value.string (by apply ByteArray.ext;simp[Qa]),HL.out,HX⟩,by simp[intOf];omega⟩
  have ht64:t=64:=by omega
  subst ht64;have HD:=Qd H.out.done;have hno1:(9223372036854775807<1+J.length)=False:=by simp;omega
  have hno2:(9223372036854775807<1+J.length+1)=False:=by simp;omega
  go_wp2_with fail
  go_ret;refine⟨?_,rfl⟩;rw[<-HD.out];exact congrArg (λs=>Ending.returned (.string s)) (Rn J)
theorem H7 (s:List UInt8)(n:Nat)(h:n<=s.length):(⟨s.toArray⟩:ByteArray).extract 0 n=⟨(s.take n).toArray⟩:=by
 apply ByteArray.ext
 simp
theorem I7 (s:List UInt8)(n:Nat):(⟨s.toArray⟩:ByteArray).extract n s.length=⟨(s.drop n).toArray⟩:=by
 apply ByteArray.ext
 simp[List.take_of_length_le]
theorem Qw (s:List UInt8)(c:UInt8)(w:World)(hs:s.length<=100000):
 Calls Tryz.prog 155 #[.string ⟨s.toArray⟩,.string ⟨#[c]⟩] w λe w'=>e= .returned (.tuple #[Ua (Lab.cutAt c s).1,Ua (Lab.cutAt c s).2.1,.bool (Lab.cutAt c s).2.2])/\∃n,w'=w.drewN n:=by
 have IX:=Qd (Tryz.stringslite_Index_one ⟨s.toArray⟩ c w);rw[show(⟨s.toArray⟩:ByteArray).data.toList=s from rfl] at IX;rcases Lab.index_cut c s with⟨h1,h2⟩ |⟨n,h1,h2,h3⟩
 ·have H2:=Qd h2
  rw[h1] at IX;clear h1 h2;go_enter Tryz.func155,Tryz.ntmps155
  go_wp2_with fail
  refine IX.out.mono ?_;rintro e w' ⟨rfl,hw⟩;obtain rfl:w=w':=hw.symm;go_wp2_with fail
  go_ret3
  exact⟨by rw[H2.out];rfl,0,rfl⟩
 have H3:=Qd h3;rw[h1] at IX;clear h1 h3;have ht:=Qd (H7 s n (by omega));have hd:=Qd (I7 s (n+1));have hw1:IntKind.i64.wrap ((n:Int)+1)=(n:Int)+1:=IntWalk.i64_in _ (by omega);have hp1:(0:Int)<=(n:Int)+1:=by omega
 have ht1:((n:Int)+1).toNat=n+1:=by omega
 go_enter Tryz.func155,Tryz.ntmps155
 go_wp2_with fail
 refine IX.out.mono ?_;rintro e w' ⟨rfl,hw⟩;obtain rfl:w=w':=hw.symm;go_wp2_with fail
 go_quiet (fail)
 go_wp2_with fail
 go_ret3
 refine⟨?_,_,rfl⟩;rw[H3.out];show Ending.returned (.tuple #[.string ((⟨s.toArray⟩:ByteArray).extract 0 n),.string ((⟨s.toArray⟩:ByteArray).extract (n+1) s.length),.bool true])=_;rw[ht.out,hd.out];rfl
theorem Xx (s:List UInt8)(c:UInt8)(w:World)(hs:s.length<=100000):
 Calls Tryz.prog 108 #[.string ⟨s.toArray⟩,.string ⟨#[c]⟩] w λe w'=>e= .returned (.tuple #[Ua (Lab.cutAt c s).1,Ua (Lab.cutAt c s).2.1,.bool (Lab.cutAt c s).2.2])/\∃n,w'=w.drewN n:=by
 have LC:=Qd (Qw s c w hs);go_enter Tryz.func108,Tryz.ntmps108
 go_wp2_with fail
 refine LC.out.mono ?_;rintro e w' ⟨rfl,n,rfl⟩;go_wp2_with fail
 go_ret3
 exact⟨rfl,n,rfl⟩
theorem numOf_snoc (s:List UInt8)(b:UInt8):Lab.numOf (s++[b])=10*Lab.numOf s+(b.toNat-48):=by simp[Lab.numOf]
theorem Sn:∀(s:List UInt8) (n:Nat),s.all Lab.digit=true->s.foldl (λn b=>10*n+(b.toNat-48)) n+1<=(n+1)*10^s.length
 | [],n,_=>by simp
 |b::r,n,h=>by
  rw[List.all_cons,Bool.and_eq_true] at h;have h2:=h.1;unfold Lab.digit at h2;rw[Bool.and_eq_true,decide_eq_true_iff,decide_eq_true_iff] at h2;have ih:=Sn r (10*n+(b.toNat-48)) h.2;rw[List.foldl_cons,List.length_cons,Nat.pow_succ];have h3:(10*n+(b.toNat-48)+1)*10^r.length<=(n+1)*10*10^r.length:=Nat.mul_le_mul_right _ (by omega);rw[Nat.mul_comm (10^r.length) 10,<-Nat.mul_assoc];omega
theorem Rw (s:List UInt8)(h:s.all Lab.digit=true):Lab.numOf s<10^s.length:=by
 have:=Sn s 0 h;rw[Nat.zero_add,Nat.one_mul] at this;exact this
def TagTold (s:List UInt8)(w:World)(e:Ending)(w':World):Prop:=w=w'/\∃v:Int,e= .returned (.tuple #[.int .i64 v,.bool (Lab.tagP s).isSome])/\∀n,Lab.tagP s=some n->v=(n:Int)
theorem TagTold.none_ {s:List UInt8}(w:World)(v:Int)(h:Lab.tagP s=none):TagTold s w (.returned (.tuple #[.int .i64 v,.bool false])) w:=⟨rfl,v,by rw[h];rfl,λn hn=>by rw[h] at hn;cases hn⟩
theorem Sw {s:List UInt8}(h1:s≠[])(h2:s.length<=2)(h3:s.all Lab.digit=true):Lab.tagP s=if Lab.numOf s<64 then some (Lab.numOf s) else none:=by
 unfold Lab.tagP;rw[if_neg];rintro(e |e |e)
 ·exact h1 e
 ·omega
 rw[h3] at e;cases e
theorem Lz {S:List UInt8}{k:Nat}(hk:k<S.length)(h1:48<=S[k].toNat)(h2:S[k].toNat<=57)(ha:(S.take k).all Lab.digit=true):Lab.numOf (S.take (k+1))=10*Lab.numOf (S.take k)+(S[k].toNat-48)/\(S.take (k+1)).all Lab.digit=true:=by
 rw[List.take_succ_eq_append_getElem hk,numOf_snoc,List.all_append,ha];exact⟨rfl,by simp[Lab.digit,h1,h2]⟩
theorem Mz {S:List UInt8}{k:Nat}(hk:k<S.length)(h:S[k].toNat<48\/57<S[k].toNat):S.all Lab.digit=false:=by
 cases e:S.all Lab.digit
 ·rfl
 have:=List.all_eq_true.1 e S[k] (List.getElem_mem hk);unfold Lab.digit at this;rw[Bool.and_eq_true,decide_eq_true_iff,decide_eq_true_iff] at this;omega
theorem V3 {S:List UInt8}(h:S.all Lab.digit=false):Lab.tagP S=none:=by unfold Lab.tagP;rw[if_pos (.inr (.inr h))]
theorem Yx (s:List UInt8)(w:World)(hs:s.length<=100000):
 Calls Tryz.prog 158 #[.string ⟨s.toArray⟩] w (TagTold s w):=by
 by_cases h2:2<s.length
 ·have HN:Hid (Lab.tagP s=none):=Qd (by unfold Lab.tagP;rw[if_pos (.inr (.inl h2))])
  have hne:s.isEmpty=false:=by cases s<;>simp at h2⊢
  go_enter Tryz.func158,Tryz.ntmps158
  go_wp2_with fail
  go_ret2
  exact TagTold.none_ w 0 HN.out
 cases s with
 |nil=>
  go_enter Tryz.func158,Tryz.ntmps158
  go_wp2_with fail
  go_ret2
  exact TagTold.none_ w 0 (by simp[Lab.tagP])
 |cons b0 r0=>
  generalize hS:b0::r0=S at*;have hne:S≠[]:=by rw[<-hS];simp
  have hemp:S.isEmpty=false:=by rw[<-hS];rfl
  have hl2:S.length<=2:=by omega
  clear hS h2;have HNE:=Qd hne;clear hne;go_enter Tryz.func158,Tryz.ntmps158
  go_wp2_with fail
  go_loop [4,15] (λov iv=>∃k n:Nat,k<=S.length/\n<100/\iv= .int .i64 (k:Int)/\ov= .int .i64 (n:Int)/\Hid (n=Lab.numOf (S.take k)/\(S.take k).all Lab.digit=true)) (λ_ iv=>S.length-(intOf iv).toNat)
  case atStart=>exact⟨0,0,Nat.zero_le _,by omega,rfl,rfl,Qd ⟨rfl,rfl⟩⟩
  case round=>
   obtain⟨k,n,hk,hn,rfl,rfl,H⟩:=hrel;by_cases hlt:k<S.length
   ·obtain⟨x,hx⟩:∃x,x=S[k].toNat:=⟨_,rfl⟩
    have hg:((⟨S.toArray⟩:ByteArray)[k]'(show k<(⟨S.toArray⟩:ByteArray).size from hlt)).toNat=x:=hx.symm;have HX:=Qd hx;clear hx;by_cases hd:48<=x/\x<=57
    ·obtain⟨hd1,hd2⟩:=hd
     have ST:=Qd (Lz hlt (by rw[<-HX.out];exact hd1) (by rw[<-HX.out];exact hd2) H.out.2);have hnb:10*n+(x-48)<100:=by
      have h1:=Rw _ ST.out.2;rw[ST.out.1,<-H.out.1,<-HX.out] at h1;have h2:(S.take (k+1)).length<=2:=by rw[List.length_take];omega
      exact Nat.lt_of_lt_of_le h1 (Nat.le_trans (Nat.pow_le_pow_right (by omega) h2) (by decide))
     go_wp2_with fail
     refine⟨⟨k+1,10*n+(x-48),by omega,hnb,by go_num,congrArg (Value.int .i64) (by omega),Qd ⟨?_,ST.out.2⟩⟩,by simp[intOf];omega⟩;rw[ST.out.1,<-H.out.1,<-HX.out]
    have HF:=Qd (V3 (Mz hlt (by rw[<-HX.out];omega)));have hd3:x<48\/57<x:=by omega
    clear hd;rcases hd3 with hd3 |hd3
    ·go_wp2_with fail
     go_ret2
     exact TagTold.none_ w 0 HF.out
    have h48:48<=x:=by omega
    go_wp2_with fail
    go_ret2
    exact TagTold.none_ w 0 HF.out
   have hkl:k=S.length:=by omega
   have HT:Hid (n=Lab.numOf S/\S.all Lab.digit=true):=Qd (by
    have h:=H.out;rw[hkl,List.take_length] at h;exact h)
   have HP:=Qd (Sw HNE.out hl2 HT.out.2);rw[<-HT.out.1] at HP;clear hkl;by_cases h64:n<64
   ·have hdec:decide ((n:Int)<64)=true:=by simp;omega
    go_wp2_with fail
    go_ret2
    refine⟨rfl,n,?_,λm hm=>?_⟩
    ·rw[HP.out,if_pos h64];rfl
    rw[HP.out,if_pos h64] at hm;injection hm with hm;rw[hm]
   have hdec:decide ((n:Int)<64)=false:=by simp;omega
   go_wp2_with fail
   go_ret2
   refine⟨rfl,n,?_,λm hm=>?_⟩
   ·rw[HP.out,if_neg h64];rfl
   rw[HP.out,if_neg h64] at hm;cases hm
theorem J7 {s:List UInt8}(h:Lab.tagP (Lab.cutAt 45 s).1=none):Lab.runP s=none:=by unfold Lab.runP;rw[h]
theorem M9 {s:List UInt8}{a:Nat}(h:Lab.tagP (Lab.cutAt 45 s).1=some a)(h2:(Lab.cutAt 45 s).2.2=false):Lab.runP s=some (Lab.bitsFrom a a):=by unfold Lab.runP;rw[h,h2];rfl
theorem N9 {s:List UInt8}{a b:Nat}(h:Lab.tagP (Lab.cutAt 45 s).1=some a)(h2:(Lab.cutAt 45 s).2.2=true)(h3:Lab.tagP (Lab.cutAt 45 s).2.1=some b):Lab.runP s=some (Lab.bitsFrom a b):=by unfold Lab.runP;rw[h,h2,h3];rfl
theorem O9 {s:List UInt8}{a:Nat}(h:Lab.tagP (Lab.cutAt 45 s).1=some a)(h2:(Lab.cutAt 45 s).2.2=true)(h3:Lab.tagP (Lab.cutAt 45 s).2.1=none):Lab.runP s=none:=by unfold Lab.runP;rw[h,h2,h3];rfl
def RunTold (s:List UInt8)(w:World)(e:Ending)(w':World):Prop:=(∃n,w'=w.drewN n)/\e= .returned (.tuple #[.int .u64 (((Lab.runP s).getD 0:Nat):Int),.bool (Lab.runP s).isSome])
theorem RunTold.no {s:List UInt8}(w:World)(n:Nat)(h:Lab.runP s=none):RunTold s w (.returned (.tuple #[.int .u64 0,.bool false])) (w.drewN n):=⟨⟨n,rfl⟩,by rw[h];rfl⟩
theorem RunTold.yes {s:List UInt8}(w:World)(n l:Nat)(h:Lab.runP s=some l):RunTold s w (.returned (.tuple #[.int .u64 (l:Int),.bool true])) (w.drewN n):=⟨⟨n,rfl⟩,by rw[h];rfl⟩
theorem Dh (a d:Nat):Lab.bitsTo a (d+1)=Lab.bitsTo a d||| 2^(a+d):=rfl
theorem P9 (s:List UInt8)(w:World)(hs:s.length<=1000):Calls Tryz.prog 111 #[.string ⟨s.toArray⟩] w (RunTold s w):=by
 have hcl:=Lab.cutAt_len 45 s;have CU:=Qd (Xx s 45 w (by omega));rw[Ua,Ua] at CU;have TH:=Qd (λn=>Yx (Lab.cutAt 45 s).1 (w.drewN n) (by omega));have TT:=Qd (λn=>Yx (Lab.cutAt 45 s).2.1 (w.drewN n) (by omega));clear hcl;cases h1:Lab.tagP (Lab.cutAt 45 s).1 with
 |none=>
  have HN:=Qd (J7 h1);have H1:=Qd h1;clear h1;go_enter Tryz.func111,Tryz.ntmps111
  go_wp2_with fail
  refine CU.out.mono ?_;rintro e w' ⟨rfl,n,rfl⟩;go_wp2_with fail
  refine(TH.out n).mono ?_;rintro e w' ⟨rfl,v,rfl,hv⟩;rw[H1.out,show(none:Option Nat).isSome=false from rfl];clear hv;go_wp2_with fail
  go_ret2
  exact RunTold.no w n HN.out
 |some a=>
  have ha:=Lab.tagP_lt h1;have H1:=Qd h1;cases h2:(Lab.cutAt 45 s).2.2 with
  |false=>
   have HN:=Qd (M9 h1 h2);rw[h2] at CU;clear h1 h2;go_enter Tryz.func111,Tryz.ntmps111
   go_wp2_with fail
   refine CU.out.mono ?_;rintro e w' ⟨rfl,n,rfl⟩;go_wp2_with fail
   refine(TH.out n).mono ?_;rintro e w' ⟨rfl,v,rfl,hv⟩;obtain rfl:=hv a H1.out;rw[H1.out,show(some a).isSome=true from rfl];clear hv;go_wp2_with fail
   go_loop [10,11] (λov tv=>∃t n:Nat,a<=t/\t<=64/\n<18446744073709551616/\tv= .int .i64 (t:Int)/\ov= .int .u64 (n:Int)/\Hid (n=Lab.bitsTo a (t-a)/\(t<=a+1\/t=a))) (λ_ tv=>128-(intOf tv).toNat)
   case atStart=>exact⟨a,0,Lr,by omega,by omega,rfl,rfl,Qd ⟨by rw[Nat.sub_self];rfl,.inr rfl⟩⟩
   case round=>
    obtain⟨t,m,ht1,ht2,hm,rfl,rfl,H⟩:=hrel;by_cases hle:t<=a
    ·have ht3:t<64:=by omega
     have HS:Hid (m||| 2^t=Lab.bitsTo a (t+1-a)):=Qd (by
      rw[H.out.1,show t+1-a=(t-a)+1 by omega,Dh,show a+(t-a)=t by omega])
     have hml:m||| 2^t<18446744073709551616:=Nat.or_lt_two_pow (n:=64) hm (Lab.bit_lt ht3)
     have HO:=Qd (Y1 m (t:Int) hm (by omega));rw[Int.toNat_natCast] at HO;go_wp2_with fail
     refine⟨⟨t+1,m||| 2^t,by omega,by omega,hml,by go_num,congrArg (Value.int .u64) HO.out,Qd ⟨HS.out,.inl (by omega)⟩⟩,by simp[intOf];omega⟩
    have HE:Hid (m=Lab.bitsFrom a a):=Qd (by
     rw[H.out.1,Lab.bitsFrom];rcases H.out.2 with h |h
     ·rw[show t-a=a+1-a by omega]
     rw[show t-a=0 by omega,show a+1-a=0 by omega])
    go_wp2_with fail
    go_ret2
    have:=RunTold.yes w n (Lab.bitsFrom a a) HN.out;rw[<-HE.out] at this;exact this
  |true=>
   rw[h2] at CU;cases h3:Lab.tagP (Lab.cutAt 45 s).2.1 with
   |none=>
    have HN:=Qd (O9 h1 h2 h3);have H3:=Qd h3;clear h1 h2 h3;go_enter Tryz.func111,Tryz.ntmps111
    go_wp2_with fail
    refine CU.out.mono ?_;rintro e w' ⟨rfl,n,rfl⟩;go_wp2_with fail
    refine(TH.out n).mono ?_;rintro e w' ⟨rfl,v,rfl,hv⟩;obtain rfl:=hv a H1.out;rw[H1.out,show(some a).isSome=true from rfl];clear hv;go_wp2_with fail
    refine(TT.out n).mono ?_;rintro e w' ⟨rfl,v,rfl,hv⟩;rw[H3.out,show(none:Option Nat).isSome=false from rfl];clear hv;go_wp2_with fail
    go_ret2
    exact RunTold.no w n HN.out
   |some b=>
    have hb:=Lab.tagP_lt h3;have HN:=Qd (N9 h1 h2 h3);have H3:=Qd h3;clear h1 h2 h3;go_enter Tryz.func111,Tryz.ntmps111
    go_wp2_with fail
    refine CU.out.mono ?_;rintro e w' ⟨rfl,n,rfl⟩;go_wp2_with fail
    refine(TH.out n).mono ?_;rintro e w' ⟨rfl,v,rfl,hv⟩;obtain rfl:=hv a H1.out;rw[H1.out,show(some a).isSome=true from rfl];clear hv;go_wp2_with fail
    refine(TT.out n).mono ?_;rintro e w' ⟨rfl,v,rfl,hv⟩;obtain rfl:=hv b H3.out;rw[H3.out,show(some b).isSome=true from rfl];clear hv;go_wp2_with fail
    go_loop [10,11] (λov tv=>∃t n:Nat,a<=t/\t<=64/\n<18446744073709551616/\tv= .int .i64 (t:Int)/\ov= .int .u64 (n:Int)/\Hid (n=Lab.bitsTo a (t-a)/\(t<=b+1\/t=a))) (λ_ tv=>128-(intOf tv).toNat)
    case atStart=>exact⟨a,0,Lr,by omega,by omega,rfl,rfl,Qd ⟨by rw[Nat.sub_self];rfl,.inr rfl⟩⟩
    case round=>
     obtain⟨t,m,ht1,ht2,hm,rfl,rfl,H⟩:=hrel;by_cases hle:t<=b
     ·have ht3:t<64:=by omega
      have HS:Hid (m||| 2^t=Lab.bitsTo a (t+1-a)):=Qd (by
       rw[H.out.1,show t+1-a=(t-a)+1 by omega,Dh,show a+(t-a)=t by omega])
      have hml:m||| 2^t<18446744073709551616:=Nat.or_lt_two_pow (n:=64) hm (Lab.bit_lt ht3)
      have HO:=Qd (Y1 m (t:Int) hm (by omega));rw[Int.toNat_natCast] at HO;go_wp2_with fail
      refine⟨⟨t+1,m||| 2^t,by omega,by omega,hml,by go_num,congrArg (Value.int .u64) HO.out,Qd ⟨HS.out,.inl (by omega)⟩⟩,by simp[intOf];omega⟩
     have HE:Hid (m=Lab.bitsFrom a b):=Qd (by
      rw[H.out.1,Lab.bitsFrom];rcases H.out.2 with h |h
      ·rw[show t-a=b+1-a by omega]
      rw[show t-a=0 by omega,show b+1-a=0 by omega])
     go_wp2_with fail
     go_ret2
     have:=RunTold.yes w n (Lab.bitsFrom a b) HN.out;rw[<-HE.out] at this;exact this
def ParseTold (s:List UInt8)(w:World)(e:Ending)(w':World):Prop:=Below w.heap.size w w'/\∃(x:Nat) (ok:Bool),e= .returned (.tuple #[.int .u64 (x:Int),.int .i64 (if ok then 0 else 15)])/\Lab.Spec s x ok
theorem Below.drewN_self (w:World)(n:Nat):Below w.heap.size w (w.drewN n):=⟨rfl,rfl,rfl,Lr,λ_ _=>rfl⟩
theorem ParseTold.no {s:List UInt8}{w w':World}(hb:Below w.heap.size w w')(h:Lab.Spec s 0 false):ParseTold s w (.returned (.tuple #[.int .u64 0,.int .i64 15])) w':=⟨hb,0,false,rfl,h⟩
theorem ParseTold.yes {s:List UInt8}{w w':World}{x:Nat}(hb:Below w.heap.size w w')(h:Lab.Spec s x true):ParseTold s w (.returned (.tuple #[.int .u64 (x:Int),.int .i64 0])) w':=⟨hb,x,true,rfl,h⟩
theorem Wj (s:List UInt8)(w:World)(hs:s.length<=1000000)(hT:Tab64 w)(hB:0<w.heap.size):
 Calls Tryz.prog 68 #[.string ⟨s.toArray⟩] w (ParseTold s w):=by
 by_cases hlong:258<s.length
 ·have HS:=Qd (Lab.Spec.long hlong)
  go_enter Tryz.func68,Tryz.ntmps68
  go_wp2_with fail
  go_ret2
  exact ParseTold.no Br HS.out
 have hl:s.length<=258:=by omega
 have CP:=Qd (Tryz.strings_CutPrefix ⟨s.toArray⟩ ⟨#[123]⟩ w);have CS:=Qd (λ(t:List UInt8) (ht:t.length<=1000)=>Tryz.strings_CutSuffix ⟨t.toArray⟩ ⟨#[125]⟩ w (show t.toArray.size<=_ by simp;omega));rw[show(⟨s.toArray⟩:ByteArray).data.toList=s from rfl,show(⟨#[123]⟩:ByteArray).data.toList=[123] from rfl] at CP;have TX:=Qd (λ(x:Nat) (hx:x<18446744073709551616) (n:Nat)=>Ah x (w.drewN n) hx hT hB);clear hT;rcases Lab.open_iff s with⟨h1,h2,h3⟩ |⟨r,h1,h2,h3⟩
 ·have HS:=Qd (Lab.Spec.noOpen h3)
  rw[h1,h2] at CP;have CS1:=Qd (CS.out s (by omega));clear h1 h2 h3 CS;go_enter Tryz.func68,Tryz.ntmps68
  go_wp2_with fail
  refine CP.out.mono ?_;rintro e w' ⟨rfl,hw⟩;obtain rfl:w=w':=hw.symm;go_wp2_with fail
  refine CS1.out.mono ?_;rintro e w' ⟨rfl,hw⟩;obtain rfl:w=w':=hw.symm;go_wp2_with fail
  go_ret2
  exact ParseTold.no Br HS.out
 subst h3;rw[h1,h2] at CP;have hrl:r.length<=257:=by simpa using hl
 have CS1:=Qd (CS.out r (by omega));rw[show(⟨r.toArray⟩:ByteArray).data.toList=r from rfl,show(⟨#[125]⟩:ByteArray).data.toList=[125] from rfl] at CS1;clear h1 h2 CS;rcases Lab.shut_iff r with⟨k1,k2⟩ |⟨t,k1,k2,k3⟩
 ·have HS:=Qd (Lab.Spec.noShut k2)
  rw[k1] at CS1;clear k1 k2;go_enter Tryz.func68,Tryz.ntmps68
  go_wp2_with fail
  refine CP.out.mono ?_;rintro e w' ⟨rfl,hw⟩;obtain rfl:w=w':=hw.symm;go_wp2_with fail
  refine CS1.out.mono ?_;rintro e w' ⟨rfl,hw⟩;obtain rfl:w=w':=hw.symm;go_wp2_with fail
  go_ret2
  exact ParseTold.no Br HS.out
 rw[k1,k2] at CS1;have htl:t.length<=256:=by rw[k3] at hrl;simp at hrl;omega
 have HS1:Hid (∀o,Lab.innerP 300 t 0=some o->Lab.text o≠123::r->Lab.Spec (123::r) 0 false):=Qd (λo h hne=>by rw[k3] at hne⊢;exact Lab.Spec.other (by omega) h hne);have HS2:Hid (Lab.innerP 300 t 0=none->Lab.Spec (123::r) 0 false):=Qd (λh=>by rw[k3];exact Lab.Spec.badInner (by omega) h);clear k1 k2 k3;go_enter Tryz.func68,Tryz.ntmps68
 go_wp2_with fail
 refine CP.out.mono ?_;rintro e w' ⟨rfl,hw⟩;obtain rfl:w=w':=hw.symm;go_wp2_with fail
 refine CS1.out.mono ?_;rintro e w' ⟨rfl,hw⟩;obtain rfl:w=w':=hw.symm;go_wp2_with fail
 go_loopg [4,7] t.length (λgk iv ov wr=>∃(cur:List UInt8) (acc m:Nat),wr=w.drewN m/\cur.length<=gk/\cur.length<=256/\acc<18446744073709551616/\iv= .string ⟨cur.toArray⟩/\ov= .int .u64 (acc:Int)/\Hid (Lab.innerP 300 cur acc=Lab.innerP 300 t 0))
 case atStart=>exact⟨t,0,0,rfl,Lr,htl,by omega,rfl,rfl,Qd rfl⟩
 case round=>
  obtain⟨cur,acc,m,rfl,hgk,hcl,hacc,rfl,rfl,H⟩:=hrel;cases cur with
  |nil=>
   have HI:Hid (Lab.innerP 300 t 0=some acc):=Qd (by rw[<-H.out];rfl);have TXa:=Qd (TX.out acc hacc m);rw[Ua] at TXa;by_cases heq:Lab.text acc=123::r
   ·have HY:Hid (Lab.Spec (123::r) acc true):=Qd (.inl ⟨rfl,hacc,heq.symm⟩)
    rw[heq] at TXa;clear heq;go_wp2_with fail
    refine TXa.out.mono ?_;rintro e w1 ⟨rfl,hb1⟩;have hb:Below w.heap.size w w1:=⟨hb1.os,hb1.tape,hb1.output,hb1.size,hb1.block⟩;go_wp2_with fail
    go_ret2
    exact ParseTold.yes hb HY.out
   have HY:=Qd (HS1.out acc HI.out heq);have hne:(Lab.text acc==123::r)=false:=by simpa using heq
   generalize Lab.text acc=T at*;clear heq;go_wp2_with fail
   refine TXa.out.mono ?_;rintro e w1 ⟨rfl,hb1⟩;have hb:Below w.heap.size w w1:=⟨hb1.os,hb1.tape,hb1.output,hb1.size,hb1.block⟩;go_wp2_with fail
   go_ret2
   exact ParseTold.no hb HY.out
  |cons b0 r0=>
   have hne:b0::r0≠[]:=by simp
   have hcu:=Lab.cutAt_len 44 (b0::r0);have CU:=Qd (Xx (b0::r0) 44 (w.drewN m) (by omega));rw[Ua,Ua] at CU;have RU:=Qd (λn=>P9 (Lab.cutAt 44 (b0::r0)).1 (w.drewN n) (by omega));have hdec:=hcu.2.2 hne;have hd2:(Lab.cutAt 44 (b0::r0)).2.1.length<=256:=by omega
   cases hrun:Lab.runP (Lab.cutAt 44 (b0::r0)).1 with
   |none=>
    have HY:=Qd (HS2.out (by rw[<-H.out];exact Lab.innerP_fail hne (by omega) hrun));have HR:=Qd hrun;clear hrun hcu hne;go_wp2_with fail
    refine CU.out.mono ?_;rintro e w' ⟨rfl,n,rfl⟩;rw[World.drewN_drewN];go_wp2_with fail
    refine(RU.out _).mono ?_;rintro e w' ⟨⟨n2,rfl⟩,rfl⟩;rw[HR.out,show(none:Option Nat).isSome=false from rfl,show((none:Option Nat).getD 0)=0 from rfl];go_wp2_with fail
    go_ret2
    exact ParseTold.no (Below.drewN_self _ _) HY.out
   |some l=>
    have hll:=Lab.runP_lt hrun;have HST:=Qd (Lab.innerP_step (f:=300) (acc:=acc) hne (by omega) hrun);have HR:=Qd hrun;have hjl:Lab.join acc l<18446744073709551616:=Lab.join_lt hacc hll;clear hrun hcu hne;generalize(Lab.cutAt 44 (b0::r0)).2.1=rest at*;go_wp2_with fail
    refine CU.out.mono ?_;rintro e w' ⟨rfl,n,rfl⟩;rw[World.drewN_drewN];go_wp2_with fail
    refine(RU.out _).mono ?_;rintro e w' ⟨⟨n2,rfl⟩,rfl⟩;rw[HR.out,show(some l).isSome=true from rfl,show((some l).getD 0)=l from rfl];go_wp2_with (go_at_call 61;refine(L6 acc l _ hacc hll).mono ?_;rintro e w' ⟨rfl,rfl⟩)
    go_roundg rest.length
    case measure=>omega
    case rel=>exact⟨rest,Lab.join acc l,_,rfl,Lr,hd2,hjl,rfl,rfl,Qd (by rw[<-HST.out];exact H.out)⟩
def Nu:Option Nat->Int
 |none=> -1
 |some n=>(n:Int)
def Cp (s:List UInt8)(at_:Nat)(w:World)(e:Ending)(w':World):Prop:=w=w'/\∃to_:Nat,at_<=to_/\to_<=s.length/\s.drop to_=(Lab.numR (s.drop at_)).2/\e= .returned (.tuple #[.int .i64 (Nu (Lab.numR (s.drop at_)).1),.int .i64 (to_:Int)])
def LNumAt (s:List UInt8)(at_ to_ n:Nat):Prop:=Lab.takeDig (3-(to_-at_)) (s.drop to_) n=Lab.takeDig 3 (s.drop at_) 0
theorem LNumAt.step {s:List UInt8}{at_ to_ n:Nat}(h:LNumAt s at_ to_ n)(h1:at_<=to_)(hlt:to_<s.length)(h3:to_-at_<3)(hd1:48<=s[to_].toNat)(hd2:s[to_].toNat<=57):LNumAt s at_ (to_+1) (10*n+(s[to_].toNat-48)):=by
 unfold LNumAt at*;rw[<-h,List.drop_eq_getElem_cons hlt,show 3-(to_-at_)=(3-(to_+1-at_))+1 by omega,Lab.takeDig,if_pos (by simp[Lab.digit,hd1,hd2])]
theorem LNumAt.stop {s:List UInt8}{at_ to_ n:Nat}(h:LNumAt s at_ to_ n)(h1:at_<=to_)(h2:to_<=s.length)(hs:to_=s.length\/3<=to_-at_\/∃hlt:to_<s.length,s[to_].toNat<48\/57<s[to_].toNat):Lab.takeDig 3 (s.drop at_) 0=(n,s.drop to_):=by
 unfold LNumAt at h;rw[<-h];rcases hs with e |e |⟨hlt,e⟩
 ·rw[e,List.drop_length,Lab.takeDig_nil]
 ·rw[show 3-(to_-at_)=0 by omega];rfl
 rw[List.drop_eq_getElem_cons hlt];exact Lab.takeDig_stop (by unfold Lab.digit;rcases e with e |e<;>simp<;>omega) _ _ _
theorem X3 {s:List UInt8}{at_ to_ n:Nat}(h:Lab.takeDig 3 (s.drop at_) 0=(n,s.drop to_))(hc:to_=at_\/63<n):Lab.numR (s.drop at_)=(none,s.drop to_):=by
 unfold Lab.numR;rw[h,if_pos];rcases hc with e |e
 ·exact .inl (by rw[e])
 exact .inr e
theorem Y3 {s:List UInt8}{at_ to_ n:Nat}(h:Lab.takeDig 3 (s.drop at_) 0=(n,s.drop to_))(h1:at_<to_)(h2:to_<=s.length)(hc:n<=63):Lab.numR (s.drop at_)=(some n,s.drop to_):=by
 unfold Lab.numR;rw[h,if_neg];rintro(e |e)
 ·simp only[List.length_drop] at e;omega
 simp only at e;omega
theorem Jf (s:List UInt8)(at_:Nat)(w:World)(hs:s.length<=1000000)(hat:at_<=s.length):
 Calls Tryz.prog 74 #[.string ⟨s.toArray⟩,.int .i64 (at_:Int)] w (Cp s at_ w):=by
 go_enter Tryz.func74,Tryz.ntmps74
 go_wp2_with fail
 go_loop [6,7] (λnv tv=>∃to_ n:Nat,at_<=to_/\to_<=s.length/\to_<=at_+3/\n<10^(to_-at_)/\nv= .int .i64 (n:Int)/\tv= .int .i64 (to_:Int)/\Hid (LNumAt s at_ to_ n)) (λ_ tv=>s.length-(intOf tv).toNat)
 case atStart=>exact⟨at_,0,Lr,hat,by omega,by rw[Nat.sub_self];decide,rfl,rfl,Qd (by unfold LNumAt;rw[Nat.sub_self])⟩
 case round=>
  obtain⟨to_,n,h1,h2,h3,hn,rfl,rfl,H⟩:=hrel;have hn1:n<1000:=Nat.lt_of_lt_of_le hn (Nat.le_trans (Nat.pow_le_pow_right (by omega) (show to_-at_<=3 by omega)) (by decide));have FIN:Hid (∀hs:(to_=s.length\/3<=to_-at_\/∃hlt:to_<s.length,s[to_].toNat<48\/57<s[to_].toNat),((to_=at_\/63<n)->Cp s at_ w (.returned (.tuple #[.int .i64 (-1),.int .i64 (to_:Int)])) w)/\(at_<to_->n<=63->Cp s at_ w (.returned (.tuple #[.int .i64 (n:Int),.int .i64 (to_:Int)])) w)):=Qd (λhst=>by
   have h:=H.out.stop h1 h2 hst;refine⟨λhc=>?_,λha hb=>?_⟩
   ·have e:=X3 h hc
    exact⟨rfl,to_,h1,h2,by rw[e],by rw[e];rfl⟩
   have e:=Y3 h ha h2 hb;exact⟨rfl,to_,h1,h2,by rw[e],by rw[e];rfl⟩)
  by_cases hlt:to_<s.length
  ·obtain⟨x,hx⟩:∃x,x=s[to_].toNat:=⟨_,rfl⟩
   have hg:((⟨s.toArray⟩:ByteArray)[to_]'(show to_<(⟨s.toArray⟩:ByteArray).size from hlt)).toNat=x:=hx.symm;have HX:=Qd hx;clear hx;by_cases hd:(48<=x/\x<=57)/\to_-at_<3
   ·obtain⟨⟨hd1,hd2⟩,hd3⟩:=hd
    have hd4:to_<at_+3:=by omega
    have ST:=Qd (H.out.step h1 hlt hd3 (by rw[<-HX.out];exact hd1) (by rw[<-HX.out];exact hd2));have HNB:Hid (10*n+(x-48)<10^(to_+1-at_)):=Qd (by
     rw[show to_+1-at_=(to_-at_)+1 by omega,Nat.pow_succ];omega)
    clear hn hd3;go_wp2_with fail
    refine⟨⟨to_+1,10*n+(x-48),by omega,by omega,by omega,HNB.out,congrArg (Value.int .i64) (by omega),by go_num,?_⟩,by simp[intOf];omega⟩;rw[HX.out];exact ST
   have HF:=Qd (FIN.out (by
    rcases(show x<48\/57<x\/3<=to_-at_ by omega) with h |h |h
    ·exact .inr (.inr ⟨hlt,.inl (by rw[<-HX.out];exact h)⟩)
    ·exact .inr (.inr ⟨hlt,.inr (by rw[<-HX.out];exact h)⟩)
    exact .inr (.inl h)))
   have hc:x<48\/(48<=x/\57<x)\/((48<=x/\x<=57)/\at_+3<=to_):=by omega
   clear hd hn FIN;have hb:to_=at_\/(at_<to_/\63<n)\/(at_<to_/\n<=63):=by omega
   rcases hb with hb |⟨hb1,hb2⟩ |⟨hb1,hb2⟩
   ·have HY:=Qd (HF.out.1 (.inl hb))
    subst hb;clear HF;rcases hc with hc |⟨hc,hc2⟩ |⟨⟨hc,hc2⟩,hc3⟩
    ·go_wp2_with fail
     go_ret2
     exact HY.out
    ·go_wp2_with fail
     go_ret2
     exact HY.out
    exfalso;omega
   ·have HY:=Qd (HF.out.1 (.inr hb2))
    have hnz:((to_:Int)==(at_:Int))=false:=by rw[beq_eq_false_iff_ne];omega
    clear HF;rcases hc with hc |⟨hc,hc2⟩ |⟨⟨hc,hc2⟩,hc3⟩
    all_goals
     go_wp2_with fail
     go_ret2
     exact HY.out
   have HY:=Qd (HF.out.2 hb1 hb2);have hnz:((to_:Int)==(at_:Int))=false:=by rw[beq_eq_false_iff_ne];omega
   clear HF;rcases hc with hc |⟨hc,hc2⟩ |⟨⟨hc,hc2⟩,hc3⟩
   all_goals
    go_wp2_with fail
    go_ret2
    exact HY.out
  have HF:=Qd (FIN.out (.inl (by omega)));clear hn FIN;have hb:to_=at_\/(at_<to_/\63<n)\/(at_<to_/\n<=63):=by omega
  rcases hb with hb |⟨hb1,hb2⟩ |⟨hb1,hb2⟩
  ·have HY:=Qd (HF.out.1 (.inl hb))
   subst hb;clear HF;go_wp2_with fail
   go_ret2
   exact HY.out
  ·have HY:=Qd (HF.out.1 (.inr hb2))
   have hnz:((to_:Int)==(at_:Int))=false:=by rw[beq_eq_false_iff_ne];omega
   clear HF;go_wp2_with fail
   go_ret2
   exact HY.out
  have HY:=Qd (HF.out.2 hb1 hb2);have hnz:((to_:Int)==(at_:Int))=false:=by rw[beq_eq_false_iff_ne];omega
  clear HF;go_wp2_with fail
  go_ret2
  exact HY.out
def RefParseTold (s:List UInt8)(w:World)(e:Ending)(w':World):Prop:=w=w'/\∃(x:Nat) (ok:Bool),e= .returned (.tuple #[.int .u64 (x:Int),.bool ok])/\Lab.Spec s x ok
theorem RefParseTold.no {s:List UInt8}{w:World}(h:Lab.Spec s 0 false):RefParseTold s w (.returned (.tuple #[.int .u64 0,.bool false])) w:=⟨rfl,0,false,rfl,h⟩
theorem RefParseTold.yes {s:List UInt8}{w:World}{x:Nat}(h:Lab.Spec s x true):RefParseTold s w (.returned (.tuple #[.int .u64 (x:Int),.bool true])) w:=⟨rfl,x,true,rfl,h⟩
theorem Ni {s:List UInt8}{p:Nat}(hp:p<s.length)(h:s[p]=44):Lab.dropComma (s.drop p)=s.drop (p+1):=by
 rw[List.drop_eq_getElem_cons hp,Lab.dropComma,if_pos h]
theorem Be {s:List UInt8}{p:Nat}(h:∀hp:p<s.length,s[p]≠44):Lab.dropComma (s.drop p)=s.drop p:=by
 rcases Nat.lt_or_ge p s.length with hp |hp
 ·rw[List.drop_eq_getElem_cons hp,Lab.dropComma,if_neg (h hp)]
 rw[List.drop_eq_nil_of_le hp];rfl
theorem L7 {s:List UInt8}{f at_ acc:Nat}(h:f=0\/s.length<=at_\/∃hp:at_<s.length,s[at_]=125):Lab.refP f (s.drop at_) acc=some acc:=by
 cases f with
 |zero=>rfl
 |succ f=>
  rcases h with h |h |⟨hp,h⟩
  ·omega
  ·rw[List.drop_eq_nil_of_le h];rfl
  rw[List.drop_eq_getElem_cons hp,Lab.refP,if_pos h]
theorem Q9 {s:List UInt8}{f at_ acc:Nat}(hp:at_<s.length)(h:s[at_]≠125):Lab.refP (f+1) (s.drop at_) acc=match Lab.refStep (s.drop at_) with |none=>none |some x=>Lab.refP f x.2 (Lab.join acc x.1):=by
 conv=>lhs;rw[List.drop_eq_getElem_cons hp,Lab.refP,if_neg h]
 rw[<-List.drop_eq_getElem_cons hp];cases Lab.refStep (s.drop at_)<;>rfl
theorem Ou {s:List UInt8}{at_ p:Nat}(hp:s.drop p=(Lab.numR (s.drop at_)).2)(h:∀h:p<s.length,s[p]≠45):Lab.refStep (s.drop at_)=(Lab.numR (s.drop at_)).1.map λa=>(Lab.bitsFrom a a,Lab.dropComma (s.drop p)):=by
 unfold Lab.refStep;rw[<-hp];rcases Nat.lt_or_ge p s.length with hl |hl
 ·rw[List.drop_eq_getElem_cons hl]
  simp only[if_neg (h hl)]
 rw[List.drop_eq_nil_of_le hl];rfl
theorem Pu {s:List UInt8}{at_ p:Nat}(hp:s.drop p=(Lab.numR (s.drop at_)).2)(hl:p<s.length)(h:s[p]=45):Lab.refStep (s.drop at_)=match(Lab.numR (s.drop at_)).1,(Lab.numR (s.drop (p+1))).1 with |some a,some c=>some (Lab.bitsFrom a c,Lab.dropComma (Lab.numR (s.drop (p+1))).2) |_,_=>none:=by
 unfold Lab.refStep;rw[<-hp,List.drop_eq_getElem_cons hl];simp only[if_pos h];cases (Lab.numR (s.drop at_)).1<;>cases (Lab.numR (s.drop (p+1))).1<;>rfl
theorem Xj (acc a d:Nat):Lab.join (Lab.join acc (Lab.bitsTo a d)) (Lab.bit (a+d))=Lab.join acc (Lab.bitsTo a (d+1)):=by
 unfold Lab.join Lab.bit;rw[Dh,Nat.or_assoc]
theorem Rg (s:List UInt8)(w:World)(hs:s.length<=1000000):Calls Tryz.prog 43 #[.string ⟨s.toArray⟩] w (RefParseTold s w):=by
 have HBAD:=Qd (Lab.Spec.refBad (s:=s));have HOTH:=Qd (λo=>Lab.Spec.refOther (s:=s) (o:=o));go_enter Tryz.func43,Tryz.ntmps43
 go_wp2_with fail
 go_loop [4,5,6] (λlv av kv=>∃at_ acc k:Nat,k<=64/\at_<=1000001/\acc<18446744073709551616/\lv= .int .u64 (acc:Int)/\av= .int .i64 (at_:Int)/\kv= .int .i64 (k:Int)/\Hid (Lab.refP (64-k) (s.drop at_) acc=Lab.refP 64 (s.drop 1) 0)) (λ_ _ kv=>64-(intOf kv).toNat)
 case atStart=>exact⟨1,0,0,by omega,by omega,by omega,rfl,rfl,rfl,Qd rfl⟩
 case round=>
  obtain⟨at_,acc,k,hk,hat,hacc,rfl,rfl,rfl,H⟩:=hrel;have OUT:Hid (64-k=0\/s.length<=at_\/(∃hp:at_<s.length,s[at_]=125)->Lab.refP 64 (s.drop 1) 0=some acc):=Qd (λh=>by rw[<-H.out];exact L7 h);have END:Hid (Lab.refP 64 (s.drop 1) 0=some acc->(Lab.text acc=s->RefParseTold s w (.returned (.tuple #[.int .u64 (acc:Int),.bool true])) w)/\(Lab.text acc≠s->RefParseTold s w (.returned (.tuple #[.int .u64 0,.bool false])) w)):=Qd (λh=>⟨λe=> .yes (.inl ⟨rfl,hacc,e.symm⟩),λe=> .no (HOTH.out acc h e)⟩);have TX:=Qd (Oe acc w hacc);rw[Ua] at TX;by_cases hk64:k<64
  ·by_cases hlt:at_<s.length
   ·obtain⟨x,hx⟩:∃x,x=s[at_].toNat:=⟨_,rfl⟩
    have hg:((⟨s.toArray⟩:ByteArray)[at_]'(show at_<(⟨s.toArray⟩:ByteArray).size from hlt)).toNat=x:=hx.symm;by_cases h125:x=125
    ·have HE:=Qd (END.out (OUT.out (.inr (.inr ⟨hlt,UInt8.toNat_inj.1 (by rw[<-hx,h125];rfl)⟩))))
     have h125a:((x:Int)!=125)=false:=by simp[h125]
     clear h125 hx END OUT;by_cases heq:Lab.text acc=s
     ·have HY:=Qd (HE.out.1 heq)
      rw[heq] at TX;clear heq HE;go_wp2_with (go_at_call 37;refine TX.out.mono ?_;rintro e w' ⟨rfl,rfl⟩)
      go_ret2
      exact HY.out
     have HY:=Qd (HE.out.2 heq);have hne:(Lab.text acc==s)=false:=by simpa using heq
     generalize Lab.text acc=T at*;clear heq HE;go_wp2_with (go_at_call 37;refine TX.out.mono ?_;rintro e w' ⟨rfl,rfl⟩)
     go_ret2
     exact HY.out
    have h125a:((x:Int)!=125)=true:=by simp;omega
    have GO:=Qd (Q9 (f:=64-(k+1)) (acc:=acc) hlt (λe=>h125 (by rw[hx,e];rfl)));have HST:Hid (Lab.refP (64-(k+1)+1) (s.drop at_) acc=Lab.refP 64 (s.drop 1) 0):=Qd (by rw[show 64-(k+1)+1=64-k by omega];exact H.out);rw[GO.out] at HST;have N1:=Qd (Jf s at_ w hs (by omega));clear h125 hx END OUT TX GO H;go_wp2_with fail
    refine N1.out.mono ?_;rintro e w' ⟨rfl,to_,hto1,hto2,hto3,rfl⟩;have HTO:=Qd hto3;clear hto3;cases ha:(Lab.numR (s.drop at_)).1 with
    |none=>
     rw[show Nu none= -1 from rfl];by_cases hd:∃h:to_<s.length,s[to_]=45
     ·obtain⟨hl,h45⟩:=hd
      have hg2:((⟨s.toArray⟩:ByteArray)[to_]'(show to_<(⟨s.toArray⟩:ByteArray).size from hl)).toNat=45:=congrArg UInt8.toNat h45;have HN:Hid (Lab.refP 64 (s.drop 1) 0=none):=Qd (by rw[<-HST.out,Pu HTO.out hl h45,ha]);have HY:=Qd (RefParseTold.no (w:=w) (HBAD.out HN.out));have N2:=Qd (Jf s (to_+1) w hs (by omega));clear h45 ha HST HTO;go_wp2_with fail
      rw[show((to_:Int)+1)=((to_+1:Nat):Int) from rfl];refine N2.out.mono ?_;rintro e w' ⟨rfl,to2,_,_,_,rfl⟩;go_wp2_with fail
      go_ret2
      exact HY.out
     have h45:∀h:to_<s.length,s[to_]≠45:=λh e=>hd ⟨h,e⟩;have HN:Hid (Lab.refP 64 (s.drop 1) 0=none):=Qd (by rw[<-HST.out,Ou HTO.out h45,ha];rfl);have HY:=Qd (RefParseTold.no (w:=w) (HBAD.out HN.out));by_cases hl:to_<s.length
     ·obtain⟨y,hy⟩:∃y,y=s[to_].toNat:=⟨_,rfl⟩
      have hg2:((⟨s.toArray⟩:ByteArray)[to_]'(show to_<(⟨s.toArray⟩:ByteArray).size from hl)).toNat=y:=hy.symm;have h45a:((y:Int)==45)=false:=by
       rw[beq_eq_false_iff_ne];intro e;exact h45 hl (UInt8.toNat_inj.1 (by rw[<-hy,show y=45 by omega];rfl))
      clear hd h45 ha HST HTO hy;go_wp2_with fail
      go_ret2
      exact HY.out
     clear hd h45 ha HST HTO;go_wp2_with fail
     go_ret2
     exact HY.out
    |some a=>
     have ha64:=Lab.numR_lt ha;rw[show Nu (some a)=(a:Int) from rfl];by_cases hd:∃h:to_<s.length,s[to_]=45
     ·obtain⟨hl,h45⟩:=hd
      have hg2:((⟨s.toArray⟩:ByteArray)[to_]'(show to_<(⟨s.toArray⟩:ByteArray).size from hl)).toNat=45:=congrArg UInt8.toNat h45;have HS2:=Qd (Pu HTO.out hl h45);rw[ha] at HS2;have N2:=Qd (Jf s (to_+1) w hs (by omega));clear h45 ha;go_wp2_with fail
      rw[show((to_:Int)+1)=((to_+1:Nat):Int) from rfl];refine N2.out.mono ?_;rintro e w' ⟨rfl,to2,hb1,hb2,hb3,rfl⟩;have HT2:=Qd hb3;clear hb3 N2;cases hb:(Lab.numR (s.drop (to_+1))).1 with
      |none=>
       rw[show Nu none= -1 from rfl];have HN:Hid (Lab.refP 64 (s.drop 1) 0=none):=Qd (by rw[<-HST.out,HS2.out,hb]);have HY:=Qd (RefParseTold.no (w:=w) (HBAD.out HN.out));clear hb HST HTO HS2;go_wp2_with fail
       go_ret2
       exact HY.out
      |some b=>
       rw[show Nu (some b)=(b:Int) from rfl];have hb64:=Lab.numR_lt hb;have HREF:Hid (Lab.refP (64-(k+1)) (Lab.dropComma (s.drop to2)) (Lab.join acc (Lab.bitsFrom a b))=Lab.refP 64 (s.drop 1) 0):=Qd (by rw[<-HST.out,HS2.out,hb,HT2.out]);clear hb HST HTO HS2 HT2;go_wp2_with fail
       go_loop [4,10] (λlv tv=>∃t m:Nat,a<=t/\t<=64/\m<18446744073709551616/\tv= .int .i64 (t:Int)/\lv= .int .u64 (m:Int)/\Hid (m=Lab.join acc (Lab.bitsTo a (t-a))/\(t<=b+1\/t=a))) (λ_ tv=>128-(intOf tv).toNat)
       case atStart=>exact⟨a,acc,Lr,by omega,hacc,rfl,rfl,Qd ⟨by rw[Nat.sub_self];simp[Lab.join,Lab.bitsTo],.inr rfl⟩⟩
       case round=>
        obtain⟨t,m,ht1,ht2,hm,rfl,rfl,HM⟩:=hrel;by_cases hle:t<=b
        ·have ht3:t<64:=by omega
         have HS:Hid (Lab.join m (Lab.bit t)=Lab.join acc (Lab.bitsTo a (t+1-a))):=Qd (by
          have:=Xj acc a (t-a);rw[show a+(t-a)=t by omega,<-HM.out.1] at this;rw[this,show t+1-a=(t-a)+1 by omega])
         have hbl:Lab.bit t<18446744073709551616:=Lab.bit_lt ht3;have hjl:=Lab.join_lt hm hbl;have BT:=Qd (Ik t w ht3);have JN:=Qd (Xg m (Lab.bit t) w hm hbl);generalize Lab.bit t=bt at*;go_wp2_with (first|(go_at_call 76;refine BT.out.mono ?_;rintro e w' ⟨rfl,rfl⟩) |(go_at_call 75;refine JN.out.mono ?_;rintro e w' ⟨rfl,rfl⟩))
         refine⟨⟨t+1,_,by omega,by omega,hjl,by go_num,rfl,Qd ⟨HS.out,.inl (by omega)⟩⟩,by simp[intOf];omega⟩
        have HE:Hid (m=Lab.join acc (Lab.bitsFrom a b)):=Qd (by
         rw[HM.out.1,Lab.bitsFrom];rcases HM.out.2 with h |h
         ·rw[show t-a=b+1-a by omega]
         rw[show t-a=0 by omega,show b+1-a=0 by omega])
        rw[<-HE.out] at HREF;clear HM;by_cases hpl:to2<s.length
        ·obtain⟨y,hy⟩:∃y,y=s[to2].toNat:=⟨_,rfl⟩
         have hgy:((⟨s.toArray⟩:ByteArray)[to2]'(show to2<(⟨s.toArray⟩:ByteArray).size from hpl)).toNat=y:=hy.symm;by_cases h44:y=44
         ·have HREF2:Hid (Lab.refP (64-(k+1)) (s.drop (to2+1)) m=Lab.refP 64 (s.drop 1) 0):=Qd (by rw[<-HREF.out,Ni hpl (UInt8.toNat_inj.1 (by rw[<-hy,h44];rfl))])
          have h44a:((y:Int)==44)=true:=by simp[h44]
          clear h44 hy;go_wp2_with fail
          exact⟨⟨to2+1,m,k+1,by omega,by omega,hm,rfl,by go_num,by go_num,HREF2⟩,by simp[intOf];omega⟩
         have HREF2:Hid (Lab.refP (64-(k+1)) (s.drop to2) m=Lab.refP 64 (s.drop 1) 0):=Qd (by
          rw[<-HREF.out,Be (λ_ e=>h44 (by rw[hy,e];rfl))])
         have h44a:((y:Int)==44)=false:=by rw[beq_eq_false_iff_ne];omega
         clear h44 hy;go_wp2_with fail
         exact⟨⟨to2,m,k+1,by omega,by omega,hm,rfl,rfl,by go_num,HREF2⟩,by simp[intOf];omega⟩
        have HREF2:Hid (Lab.refP (64-(k+1)) (s.drop to2) m=Lab.refP 64 (s.drop 1) 0):=Qd (by
         rw[<-HREF.out,Be (λh=>absurd h hpl)])
        go_wp2_with fail
        exact⟨⟨to2,m,k+1,by omega,by omega,hm,rfl,rfl,by go_num,HREF2⟩,by simp[intOf];omega⟩
     have h45:∀h:to_<s.length,s[to_]≠45:=λh e=>hd ⟨h,e⟩;have HREF:Hid (Lab.refP (64-(k+1)) (Lab.dropComma (s.drop to_)) (Lab.join acc (Lab.bitsFrom a a))=Lab.refP 64 (s.drop 1) 0):=Qd (by rw[<-HST.out,Ou HTO.out h45,ha];rfl);by_cases hl:to_<s.length
     ·obtain⟨y,hy⟩:∃y,y=s[to_].toNat:=⟨_,rfl⟩
      have hg2:((⟨s.toArray⟩:ByteArray)[to_]'(show to_<(⟨s.toArray⟩:ByteArray).size from hl)).toNat=y:=hy.symm;have h45a:((y:Int)==45)=false:=by
       rw[beq_eq_false_iff_ne];intro e;exact h45 hl (UInt8.toNat_inj.1 (by rw[<-hy,show y=45 by omega];rfl))
      clear hd h45 ha HST HTO hy;go_wp2_with fail
      clear hg2 h45a
      go_loop [4,10] (λlv tv=>∃t m:Nat,a<=t/\t<=64/\m<18446744073709551616/\tv= .int .i64 (t:Int)/\lv= .int .u64 (m:Int)/\Hid (m=Lab.join acc (Lab.bitsTo a (t-a))/\(t<=a+1\/t=a))) (λ_ tv=>128-(intOf tv).toNat)
      case atStart=>exact⟨a,acc,Lr,by omega,hacc,rfl,rfl,Qd ⟨by rw[Nat.sub_self];simp[Lab.join,Lab.bitsTo],.inr rfl⟩⟩
      case round=>
       obtain⟨t,m,ht1,ht2,hm,rfl,rfl,HM⟩:=hrel;by_cases hle:t<=a
       ·have ht3:t<64:=by omega
        have HS:Hid (Lab.join m (Lab.bit t)=Lab.join acc (Lab.bitsTo a (t+1-a))):=Qd (by
         have:=Xj acc a (t-a);rw[show a+(t-a)=t by omega,<-HM.out.1] at this;rw[this,show t+1-a=(t-a)+1 by omega])
        have hbl:Lab.bit t<18446744073709551616:=Lab.bit_lt ht3;have hjl:=Lab.join_lt hm hbl;have BT:=Qd (Ik t w ht3);have JN:=Qd (Xg m (Lab.bit t) w hm hbl);generalize Lab.bit t=bt at*;go_wp2_with (first|(go_at_call 76;refine BT.out.mono ?_;rintro e w' ⟨rfl,rfl⟩) |(go_at_call 75;refine JN.out.mono ?_;rintro e w' ⟨rfl,rfl⟩))
        refine⟨⟨t+1,_,by omega,by omega,hjl,by go_num,rfl,Qd ⟨HS.out,.inl (by omega)⟩⟩,by simp[intOf];omega⟩
       have HE:Hid (m=Lab.join acc (Lab.bitsFrom a a)):=Qd (by
        rw[HM.out.1,Lab.bitsFrom];rcases HM.out.2 with h |h
        ·rw[show t-a=a+1-a by omega]
        rw[show t-a=0 by omega,show a+1-a=0 by omega])
       rw[<-HE.out] at HREF;clear HM;have hpl:=hl;obtain⟨y,hy⟩:∃y,y=s[to_].toNat:=⟨_,rfl⟩;have hgy:((⟨s.toArray⟩:ByteArray)[to_]'(show to_<(⟨s.toArray⟩:ByteArray).size from hpl)).toNat=y:=hy.symm;by_cases h44:y=44
       ·have HREF2:Hid (Lab.refP (64-(k+1)) (s.drop (to_+1)) m=Lab.refP 64 (s.drop 1) 0):=Qd (by rw[<-HREF.out,Ni hpl (UInt8.toNat_inj.1 (by rw[<-hy,h44];rfl))])
        have h44a:((y:Int)==44)=true:=by simp[h44]
        clear h44 hy;go_wp2_with fail
        exact⟨⟨to_+1,m,k+1,by omega,by omega,hm,rfl,by go_num,by go_num,HREF2⟩,by simp[intOf];omega⟩
       have HREF2:Hid (Lab.refP (64-(k+1)) (s.drop to_) m=Lab.refP 64 (s.drop 1) 0):=Qd (by
        rw[<-HREF.out,Be (λ_ e=>h44 (by rw[hy,e];rfl))])
       have h44a:((y:Int)==44)=false:=by rw[beq_eq_false_iff_ne];omega
       clear h44 hy;go_wp2_with fail
       exact⟨⟨to_,m,k+1,by omega,by omega,hm,rfl,rfl,by go_num,HREF2⟩,by simp[intOf];omega⟩
     clear hd h45 ha HST HTO;go_wp2_with fail
     go_loop [4,10] (λlv tv=>∃t m:Nat,a<=t/\t<=64/\m<18446744073709551616/\tv= .int .i64 (t:Int)/\lv= .int .u64 (m:Int)/\Hid (m=Lab.join acc (Lab.bitsTo a (t-a))/\(t<=a+1\/t=a))) (λ_ tv=>128-(intOf tv).toNat)
     case atStart=>exact⟨a,acc,Lr,by omega,hacc,rfl,rfl,Qd ⟨by rw[Nat.sub_self];simp[Lab.join,Lab.bitsTo],.inr rfl⟩⟩
     case round=>
      obtain⟨t,m,ht1,ht2,hm,rfl,rfl,HM⟩:=hrel;by_cases hle:t<=a
      ·have ht3:t<64:=by omega
       have HS:Hid (Lab.join m (Lab.bit t)=Lab.join acc (Lab.bitsTo a (t+1-a))):=Qd (by
        have:=Xj acc a (t-a);rw[show a+(t-a)=t by omega,<-HM.out.1] at this;rw[this,show t+1-a=(t-a)+1 by omega])
       have hbl:Lab.bit t<18446744073709551616:=Lab.bit_lt ht3;have hjl:=Lab.join_lt hm hbl;have BT:=Qd (Ik t w ht3);have JN:=Qd (Xg m (Lab.bit t) w hm hbl);generalize Lab.bit t=bt at*;go_wp2_with (first|(go_at_call 76;refine BT.out.mono ?_;rintro e w' ⟨rfl,rfl⟩) |(go_at_call 75;refine JN.out.mono ?_;rintro e w' ⟨rfl,rfl⟩))
       refine⟨⟨t+1,_,by omega,by omega,hjl,by go_num,rfl,Qd ⟨HS.out,.inl (by omega)⟩⟩,by simp[intOf];omega⟩
      have HE:Hid (m=Lab.join acc (Lab.bitsFrom a a)):=Qd (by
       rw[HM.out.1,Lab.bitsFrom];rcases HM.out.2 with h |h
       ·rw[show t-a=a+1-a by omega]
       rw[show t-a=0 by omega,show a+1-a=0 by omega])
      rw[<-HE.out] at HREF;clear HM;have hpl:=hl;have HREF2:Hid (Lab.refP (64-(k+1)) (s.drop to_) m=Lab.refP 64 (s.drop 1) 0):=Qd (by
       rw[<-HREF.out,Be (λh=>absurd h hpl)])
      go_wp2_with fail
      exact⟨⟨to_,m,k+1,by omega,by omega,hm,rfl,rfl,by go_num,HREF2⟩,by simp[intOf];omega⟩
   have HE:=Qd (END.out (OUT.out (.inr (.inl (by omega)))));clear END OUT;by_cases heq:Lab.text acc=s
   ·have HY:=Qd (HE.out.1 heq)
    rw[heq] at TX;clear heq HE;go_wp2_with (go_at_call 37;refine TX.out.mono ?_;rintro e w' ⟨rfl,rfl⟩)
    go_ret2
    exact HY.out
   have HY:=Qd (HE.out.2 heq);have hne:(Lab.text acc==s)=false:=by simpa using heq
   generalize Lab.text acc=T at*;clear heq HE;go_wp2_with (go_at_call 37;refine TX.out.mono ?_;rintro e w' ⟨rfl,rfl⟩)
   go_ret2
   exact HY.out
  have HE:=Qd (END.out (OUT.out (.inl (by omega))));clear END OUT;by_cases heq:Lab.text acc=s
  ·have HY:=Qd (HE.out.1 heq)
   rw[heq] at TX;clear heq HE;go_wp2_with (go_at_call 37;refine TX.out.mono ?_;rintro e w' ⟨rfl,rfl⟩)
   go_ret2
   exact HY.out
  have HY:=Qd (HE.out.2 heq);have hne:(Lab.text acc==s)=false:=by simpa using heq
  generalize Lab.text acc=T at*;clear heq HE;go_wp2_with (go_at_call 37;refine TX.out.mono ?_;rintro e w' ⟨rfl,rfl⟩)
  go_ret2
  exact HY.out
end Go.Proofs.YtogjgbmngagimaaGreatDoor
