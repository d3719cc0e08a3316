/- Texts of this proof, joined. -/
import Derived.Test.YtogjgbmngagimaaGreatDoorM2
import Derived.Deep.LoopGhost
set_option linter.all false
set_option maxHeartbeats 8000000
set_option maxRecDepth 100000
namespace Go.Proofs.YtogjgbmngagimaaGreatDoor
open Go.RowKit
theorem Wl {w0 w:World}{v:Value}{ds:List Nat}(h:w.ownsRow w0.heap.size 186 1 v ds.length (U ds))(ho:Nt.Ok ds)(hs:ds.length<=17592186044416)(hb:Below w0.heap.size w0 w):
 Calls Tryz.prog 130 #[v] w λe w'=>∃v',e= .returned v'/\IsRes w' v' (Nt.digs (Nt.val ds))/\Below w0.heap.size w0 w':=by
 obtain⟨A,c,rfl,h1,h2,h3,h4⟩:=IsRes.of_own h;refine(Fd A c w.heap.size ds w h4 Lr ho h1 h2 h3 hs).mono ?_;rintro e w' ⟨v',rfl,hr,hb'⟩;exact⟨v',rfl,hr,hb.trans (hb'.mono hb.size)⟩
theorem Qm (A A':Option Addr)(c c' B:Nat)(a b:List Nat)(w:World)(hx:Lies w B A (U a))(hy:Lies w B A' (U b))(hB:B<=w.heap.size)(ha:Nt.Ok a)(hb:Nt.Ok b)
 (hc:a.length<=c) (hc':b.length<=c') (hm:c<=9223372036854775807) (hm':c'<=9223372036854775807) (hs:a.length<=8796093022208) (hs':b.length<=8796093022208):
 Calls Tryz.prog 232 #[.slice A a.length c,.slice A' b.length c'] w λe w'=>∃v,e= .returned v/\IsRes w' v (Nt.digs (Nt.val a+Nt.val b))/\Below w.heap.size w w':=by
 obtain⟨i0,hi,hz0,hz1,hz2⟩:=info_parts Ob;obtain⟨n,hn⟩:∃n,n=max a.length b.length:=⟨_,rfl⟩;have hna:a.length<=n:=by omega
 have hnb:b.length<=n:=by omega
 have hnm:n<=8796093022208:=by omega
 have HN:=Qd hn;have LA:=Qd (λ(i:Nat) (wr:World) (hi:i<=9223372036854775807) (h:Below w.heap.size w wr)=>Vc A c B a i wr (hx.below (h.mono hB)) hc hm hi ha);have LB:=Qd (λ(i:Nat) (wr:World) (hi:i<=9223372036854775807) (h:Below w.heap.size w wr)=>Vc A' c' B b i wr (hy.below (h.mono hB)) hc' hm' hi hb);have GA:=Qd (λk=>Nt.getD_lt ha k);have GB:=Qd (λk=>Nt.getD_lt hb k);have EN:=Qd (λcur c h=>Nt.addUp_end (cur:=cur) (n:=n) (c:=c) ha hb hna hnb h);clear hx hy ha hb hn;go_enter Tryz.func232,Tryz.ntmps232
 go_wp2_with fail
 go_loopw [5,6,7] (λv cv i wr=>∃(k cy:Nat) (cur:List Nat),k<=n+1/\cy<=1/\i= .int .i64 (k:Int)/\cv= .int .u64 (cy:Int)/\wr.ownsRow w.heap.size 186 1 v k (U cur)/\Below w.heap.size w wr/\Hid (Nt.AddUp a b cur k cy)) (λ_ _ i _=>n+1-(intOf i).toNat)
 case atStart=>exact⟨0,0,[],by omega,by omega,rfl,rfl,World.ownsRow_nil _ _ _ _,Br,Qd (Nt.addUp_start a b)⟩
 case round=>
  obtain⟨k,cy,cur,hk,hcy,rfl,rfl,hown,hbel,H⟩:=hrel;have hsz:=hbel.size;by_cases hlt:k<=n
  ·have CA:=Qd (LA.out k wr (by omega) hbel)
   have CB:=Qd (LB.out k wr (by omega) hbel);have ST:=Qd (Nt.addUp_step H.out);have hga:=GA.out k;have hgb:=GB.out k;generalize a.getD k 0=x at CA ST hga;generalize b.getD k 0=y at CB ST hgb;go_wp2_with fail
   refine(Wd A A' a.length b.length c c' _ (by omega) (by omega)).mono ?_;rintro e w' ⟨rfl,rfl⟩;rw[<-HN.out];go_wp2_with fail
   refine CA.out.mono ?_;rintro e w' ⟨rfl,rfl⟩;go_wp2_with fail
   refine CB.out.mono ?_;rintro e w' ⟨rfl,rfl⟩;go_wp2_with (at_builtin;refine wpList_append_own _ rfl _ _ 83 rfl w.heap.size 186 i0 (.int .u32 0) 1 4 Tryz.underlying83 hi hz0 hz1 hz2 rfl (by decide) _ _ _ rfl (hown.alloc _) ⟨_,0,none⟩ 1 1 [.int .u32 (((x:Int)+(y:Int)+(cy:Int))%4294967296)] rfl rfl (cell_one_new _ _ _) (by intro u hu;simp only[List.mem_singleton] at hu;subst hu;rfl) (by unfold maxLen;omega) (by omega) (by simp;omega) ?_;intro v3 w3 hown3 hgrow3 hnn3)
   have hb3:Below w.heap.size w w3:=(hbel.alloc hsz _).grown hgrow3 (by simp;omega) (λk hk=>(hown.lt k hk).1);go_roundw
   case rel=>
    refine⟨k+1,(x+y+cy)/4294967296,cur++[(x+y+cy)%4294967296],by omega,by omega,by go_num,congrArg (Value.int .u64) (by omega),?_,hb3,Qd ST.out⟩;have e:U (cur++[(x+y+cy)%4294967296])=U cur++[.int .u32 (((x:Int)+(y:Int)+(cy:Int))%4294967296)]:=by
     unfold U;rw[List.map_append];congr 2
    rw[e];exact hown3
   case measure=>simp[intOf];omega
  obtain rfl:k=n+1:=by omega
  have HV:=Qd (EN.out cur cy H.out);have HL:=H.out.1;have hO:=H.out.2.1;have hnorm:=Wl (w0:=w) (v:=u5) (ds:=cur) (by rw[HL];exact hown) hO (by rw[HL];omega) hbel;rw[HV.out] at hnorm;have HNM:=Qd hnorm;clear hnorm HL hO;go_wp2_with fail
  refine(Wd A A' a.length b.length c c' _ (by omega) (by omega)).mono ?_;rintro e w' ⟨rfl,rfl⟩;rw[<-HN.out];go_wp2_with fail
  refine HNM.out.mono ?_;rintro e w' ⟨v',rfl,hr,hb'⟩;go_wp2_with fail
  go_ret;exact⟨_,rfl,hr,hb'⟩
theorem Ly (A A':Option Addr)(c c' B:Nat)(a b:List Nat)(w:World)(hx:Lies w B A (U a))(hy:Lies w B A' (U b))(hB:B<=w.heap.size)(ha:Nt.Ok a)(hb:Nt.Ok b)
 (hc:a.length<=c) (hc':b.length<=c') (hm:c<=9223372036854775807) (hm':c'<=9223372036854775807) (hs:a.length<=8796093022208) (hs':b.length<=8796093022208):
 Calls Tryz.prog 278 #[.slice A a.length c,.slice A' b.length c'] w λe w'=>∃v,e= .returned (.tuple #[v,.bool (decide (Nt.val b<=Nt.val a))])/\IsRes w' v (Nt.digs (Nt.val a-Nt.val b))/\Below w.heap.size w w':=by
 obtain⟨i0,hi,hz0,hz1,hz2⟩:=info_parts Ob;obtain⟨n,hn⟩:∃n,n=max a.length b.length:=⟨_,rfl⟩;have hna:a.length<=n:=by omega
 have hnb:b.length<=n:=by omega
 have hnm:n<=8796093022208:=by omega
 have HN:=Qd hn;have CM:=Qd (Ey A A' c c' B a b w hx hy ha hb hc hc' hm hm');have LA:=Qd (λ(i:Nat) (wr:World) (hi:i<=9223372036854775807) (h:Below w.heap.size w wr)=>Vc A c B a i wr (hx.below (h.mono hB)) hc hm hi ha);have LB:=Qd (λ(i:Nat) (wr:World) (hi:i<=9223372036854775807) (h:Below w.heap.size w wr)=>Vc A' c' B b i wr (hy.below (h.mono hB)) hc' hm' hi hb);have GA:=Qd (λk=>Nt.getD_lt ha k);have GB:=Qd (λk=>Nt.getD_lt hb k);clear hx hy ha hb hn;by_cases hlt:Nt.val a<Nt.val b
 ·have HE:Hid (Nt.cmp (Nt.val a) (Nt.val b)= -1):=Qd (Nt.cmp_lt hlt)
  have HD:Hid (decide (Nt.val b<=Nt.val a)=false):=Qd (by simp;omega);have HZ:Hid (Nt.digs (Nt.val a-Nt.val b)=[]):=Qd (by rw[show Nt.val a-Nt.val b=0 by omega,Nt.digs_zero]);go_enter Tryz.func278,Tryz.ntmps278
  go_wp2_with fail
  refine CM.out.mono ?_;rintro e w' ⟨rfl,rfl⟩;rw[HE.out];go_wp2_with fail
  go_ret2
  exact⟨_,by rw[HD.out];rfl,by rw[HZ.out];exact IsRes.none_ _,Br⟩
 have hle:Nt.val b<=Nt.val a:=by omega
 have HD:Hid (decide (Nt.val b<=Nt.val a)=true):=Qd (by simp;omega);have hcmp:decide (Nt.cmp (Nt.val a) (Nt.val b)<0)=false:=by rw[decide_eq_false_iff_not,Nt.cmp_neg];omega
 have EN:=Qd (λcur c h=>Nt.subUp_end (cur:=cur) (n:=n) (c:=c) hna hnb hle h);generalize Nt.cmp (Nt.val a) (Nt.val b)=cm at*;generalize Nt.val a=x0 at*;generalize Nt.val b=y0 at*;go_enter Tryz.func278,Tryz.ntmps278
 go_wp2_with fail
 refine CM.out.mono ?_;rintro e w' ⟨rfl,rfl⟩;go_wp2_with fail
 go_loopw [6,7,8] (λv cv i wr=>∃(k cy:Nat) (cur:List Nat),k<=n/\cy<=1/\i= .int .i64 (k:Int)/\cv= .int .u64 (cy:Int)/\wr.ownsRow w.heap.size 186 1 v k (U cur)/\Below w.heap.size w wr/\Hid (Nt.SubUp a b cur k cy)) (λ_ _ i _=>n-(intOf i).toNat)
 case atStart=>exact⟨0,0,[],by omega,by omega,rfl,rfl,World.ownsRow_nil _ _ _ _,Br,Qd (Nt.subUp_start a b)⟩
 case round=>
  obtain⟨k,cy,cur,hk,hcy,rfl,rfl,hown,hbel,H⟩:=hrel;have hsz:=hbel.size;by_cases hlt:k<n
  ·have CA:=Qd (LA.out k wr (by omega) hbel)
   have CB:=Qd (LB.out k wr (by omega) hbel);have ST:=Qd (λs d hs e=>Nt.subUp_step (s:=s) (d:=d) H.out hs e);have hga:=GA.out k;have hgb:=GB.out k;generalize a.getD k 0=x at CA ST hga;generalize b.getD k 0=y at CB ST hgb;go_wp2_with fail
   refine(Wd A A' a.length b.length c c' _ (by omega) (by omega)).mono ?_;rintro e w' ⟨rfl,rfl⟩;rw[<-HN.out];go_wp2_with fail
   refine CA.out.mono ?_;rintro e w' ⟨rfl,rfl⟩;go_wp2_with fail
   refine CB.out.mono ?_;rintro e w' ⟨rfl,rfl⟩;go_wp2_with (at_builtin;refine wpList_append_own _ rfl _ _ 83 rfl w.heap.size 186 i0 (.int .u32 0) 1 4 Tryz.underlying83 hi hz0 hz1 hz2 rfl (by decide) _ _ _ rfl (hown.alloc _) ⟨_,0,none⟩ 1 1 [.int .u32 ((4294967296+(x:Int)-(y:Int)-(cy:Int))%4294967296)] rfl rfl (cell_one_new _ _ _) (by intro u hu;simp only[List.mem_singleton] at hu;subst hu;rfl) (by unfold maxLen;omega) (by omega) (by simp;omega) ?_;intro v3 w3 hown3 hgrow3 hnn3)
   have hb3:Below w.heap.size w w3:=(hbel.alloc hsz _).grown hgrow3 (by simp;omega) (λk hk=>(hown.lt k hk).1);go_roundw
   case rel=>
    refine⟨k+1,1-(4294967296+x-y-cy)/4294967296,cur++[(4294967296+x-y-cy)%4294967296],by omega,by omega,by go_num,congrArg (Value.int .u64) (by omega),?_,hb3,Qd (ST.out _ _ (by omega) (by omega))⟩;have e:U (cur++[(4294967296+x-y-cy)%4294967296])=U cur++[.int .u32 ((4294967296+(x:Int)-(y:Int)-(cy:Int))%4294967296)]:=by
     unfold U;rw[List.map_append];congr 2;simp only[List.map_cons,List.map_nil]
     congr 2
     omega
    rw[e];exact hown3
   case measure=>simp[intOf];omega
  obtain rfl:k=n:=by omega
  have HV:=Qd (EN.out cur cy H.out);have HL:=H.out.1;have hO:=H.out.2.1;have hnorm:=Wl (w0:=w) (v:=u6) (ds:=cur) (by rw[HL];exact hown) hO (by rw[HL];omega) hbel;rw[HV.out] at hnorm;have HNM:=Qd hnorm;clear hnorm HL hO;go_wp2_with fail
  refine(Wd A A' a.length b.length c c' _ (by omega) (by omega)).mono ?_;rintro e w' ⟨rfl,rfl⟩;rw[<-HN.out];go_wp2_with fail
  refine HNM.out.mono ?_;rintro e w' ⟨v',rfl,hr,hb'⟩;go_wp2_with fail
  go_ret2
  exact⟨_,by rw[HD.out];rfl,hr,hb'⟩
theorem Rm (A:Option Addr)(c B:Nat)(a:List Nat)(i:Nat)(w:World)(hx:Lies w B A (U a))(ha:Nt.Ok a)(hc:a.length<=c)(hm:c<=9223372036854775807)(hi:i<=9223372036854775807):
 Calls Tryz.prog 234 #[.slice A a.length c,.int .i64 (i:Int)] w λe w'=>∃b:Nat,e= .returned (.int .u32 (b:Int))/\b<=1/\Hid (b=Nt.val a/2^i%2)/\w=w':=by
 have CA:=Qd (Vc A c B a (i/32) w hx hc hm (by omega) ha);have HB:=Qd (Nt.bit_limb ha i);have hg:=Nt.getD_lt ha (i/32);clear hx ha;generalize a.getD (i/32) 0=x at CA HB hg;go_enter Tryz.func234,Tryz.ntmps234
 go_wp2_with fail
 refine CA.out.mono ?_;rintro e w' ⟨rfl,rfl⟩;go_wp2_with fail
 go_loop [5,6] (λv j=>∃k n:Nat,k<=i%32/\n<4294967296/\j= .int .i64 (k:Int)/\v= .int .u64 (n:Int)/\Hid (n=x/2^k)) (λ_ j=>i%32-(intOf j).toNat)
 case atStart=>exact⟨0,x,Nat.zero_le _,hg,rfl,rfl,Qd (by simp)⟩
 case round=>
  obtain⟨k,n,hk,hn,rfl,rfl,H⟩:=hrel;by_cases hlt:k<i%32
  ·go_wp2_with fail
   go_round
   case rel=>exact⟨k+1,n/2,by omega,by omega,by go_num,by go_num,Qd (by rw[H.out,Nat.pow_succ,<-Nat.div_div_eq_div_mul])⟩
   case measure=>simp[intOf];omega
  obtain rfl:k=i%32:=by omega
  go_wp2_with fail
  go_ret;exact⟨n%2,Wa (by omega),by omega,Qd (by rw[<-HB.out,<-H.out]),rfl⟩
theorem M0 (A:Option Addr)(c B:Nat)(a:List Nat)(bit:Nat)(w:World)(hx:Lies w B A (U a))(hB:B<=w.heap.size)(ha:Nt.Ok a)(hc:a.length<=c)(hm:c<=9223372036854775807)(hs:a.length<=8796093022208)(hbit:bit<=1):
 Calls Tryz.prog 233 #[.slice A a.length c,.int .u32 (bit:Int)] w λe w'=>∃v,e= .returned v/\IsRes w' v (Nt.digs (2*Nt.val a+bit))/\Below w.heap.size w w':=by
 obtain⟨i0,hi,hz0,hz1,hz2⟩:=info_parts Ob;have LA:=Qd (λ(i:Nat) (wr:World) (hi:i<=9223372036854775807) (h:Below w.heap.size w wr)=>Vc A c B a i wr (hx.below (h.mono hB)) hc hm hi ha);have GA:=Qd (λk=>Nt.getD_lt ha k);have EN:=Qd (λcur c h=>Nt.twiceUp_end (cur:=cur) (bit:=bit) (c:=c) ha hbit h);clear hx ha;go_enter Tryz.func233,Tryz.ntmps233
 go_wp2_with fail
 go_loopw [5,6,7] (λv cv i wr=>∃(k cy:Nat) (cur:List Nat),k<=a.length+1/\cy<=1/\i= .int .i64 (k:Int)/\cv= .int .u64 (cy:Int)/\wr.ownsRow w.heap.size 186 1 v k (U cur)/\Below w.heap.size w wr/\Hid (Nt.TwiceUp a bit cur k cy)) (λ_ _ i _=>a.length+1-(intOf i).toNat)
 case atStart=>exact⟨0,bit,[],by omega,hbit,rfl,rfl,World.ownsRow_nil _ _ _ _,Br,Qd (Nt.twiceUp_start a bit)⟩
 case round=>
  obtain⟨k,cy,cur,hk,hcy,rfl,rfl,hown,hbel,H⟩:=hrel;have hsz:=hbel.size;by_cases hlt:k<=a.length
  ·have CA:=Qd (LA.out k wr (by omega) hbel)
   have ST:=Qd (Nt.twiceUp_step H.out);have hga:=GA.out k;generalize a.getD k 0=x at CA ST hga;go_wp2_with fail
   refine CA.out.mono ?_;rintro e w' ⟨rfl,rfl⟩;go_wp2_with (at_builtin;refine wpList_append_own _ rfl _ _ 83 rfl w.heap.size 186 i0 (.int .u32 0) 1 4 Tryz.underlying83 hi hz0 hz1 hz2 rfl (by decide) _ _ _ rfl (hown.alloc _) ⟨_,0,none⟩ 1 1 [.int .u32 ((2*(x:Int)+(cy:Int))%4294967296)] rfl rfl (cell_one_new _ _ _) (by intro u hu;simp only[List.mem_singleton] at hu;subst hu;rfl) (by unfold maxLen;omega) (by omega) (by simp;omega) ?_;intro v3 w3 hown3 hgrow3 hnn3)
   have hb3:Below w.heap.size w w3:=(hbel.alloc hsz _).grown hgrow3 (by simp;omega) (λk hk=>(hown.lt k hk).1);go_roundw
   case rel=>
    refine⟨k+1,(2*x+cy)/4294967296,cur++[(2*x+cy)%4294967296],by omega,by omega,by go_num,congrArg (Value.int .u64) (by omega),?_,hb3,Qd ST.out⟩;have e:U (cur++[(2*x+cy)%4294967296])=U cur++[.int .u32 ((2*(x:Int)+(cy:Int))%4294967296)]:=by
     unfold U;rw[List.map_append];congr 2
    rw[e];exact hown3
   case measure=>simp[intOf];omega
  obtain rfl:k=a.length+1:=by omega
  have HV:=Qd (EN.out cur cy H.out);have HL:=H.out.1;have hO:=H.out.2.1;have hnorm:=Wl (w0:=w) (v:=u5) (ds:=cur) (by rw[HL];exact hown) hO (by rw[HL];omega) hbel;rw[HV.out] at hnorm;have HNM:=Qd hnorm;clear hnorm HL hO;go_wp2_with fail
  refine HNM.out.mono ?_;rintro e w' ⟨v',rfl,hr,hb'⟩;go_wp2_with fail
  go_ret;exact⟨_,rfl,hr,hb'⟩
theorem Eg {w0 w:World}{v:Value}{x:Nat}(h:IsRes w v (Nt.digs x))(hb:Below w0.heap.size w0 w)(hs:(Nt.digs x).length<=8796093022208)(bit:Nat)(hbit:bit<=1):
 Calls Tryz.prog 233 #[v,.int .u32 (bit:Int)] w λe w'=>∃v',e= .returned v'/\IsRes w' v' (Nt.digs (2*x+bit))/\Below w0.heap.size w0 w'/\Below w.heap.size w w':=by
 obtain⟨A,c,rfl,h1,h2,h3,h4⟩:=h;refine(M0 A c w.heap.size (Nt.digs x) bit w h4 Lr (Nt.ok_digs x) h1 h2 hs hbit).mono ?_;rintro e w' ⟨v',rfl,hr,hb'⟩;rw[Nt.val_digs] at hr;exact⟨v',rfl,hr,hb.trans (hb'.mono hb.size),hb'⟩
theorem My (A A':Option Addr)(c c' B:Nat)(a b:List Nat)(w:World)(hx:Lies w B A (U a))(hy:Lies w B A' (U b))(hB:B<=w.heap.size)(ha:Nt.Ok a)(hb:Nt.Ok b)
 (hc:a.length<=c) (hc':b.length<=c') (hm:c<=9223372036854775807) (hm':c'<=9223372036854775807) (hs:a.length<=1000000) (hs':b.length<=1000000):
 Calls Tryz.prog 186 #[.slice A a.length c,.slice A' b.length c'] w λe w'=>∃v,e= .returned v/\IsRes w' v (Nt.digs (Nt.val a*Nt.val b))/\Below w.heap.size w w':=by
 have LN:=Qd (λx h=>Nt.len_mul ha hb (x:=x) h);have BT:=Qd (λ(i:Nat) (wr:World) (hi:i<=9223372036854775807) (h:Below w.heap.size w wr)=>Rm A c B a i wr (hx.below (h.mono hB)) ha hc hm hi);have AD:=Qd (λ(x:Nat) (v:Value) (wr:World) (h:Below w.heap.size w wr) (hr:IsRes wr v (Nt.digs x)) (hl:(Nt.digs x).length<=8796093022208)=>show Calls Tryz.prog 232 #[v,.slice A' b.length c'] wr λe w'=>∃v',e= .returned v'/\IsRes w' v' (Nt.digs (x+Nt.val b))/\Below w.heap.size w w' from by
  obtain⟨A1,c1,rfl,h1,h2,h3,h4⟩:=hr;have hyw:=(hy.below (h.mono hB)).more (Nat.le_trans hB h.size);refine(Qm A1 A' c1 c' wr.heap.size (Nt.digs x) b wr h4 hyw Lr (Nt.ok_digs x) hb h1 hc' h2 hm' hl (by omega)).mono ?_;rintro e w' ⟨v',rfl,hr',hb'⟩;rw[Nt.val_digs] at hr';exact⟨v',rfl,hr',h.trans (hb'.mono h.size)⟩)
 have TZ:=Qd (Nt.top_zero ha);clear hx hy ha hb;generalize Nt.val a=va at*;generalize Nt.val b=vb at*;go_enter Tryz.func186,Tryz.ntmps186
 go_wp2_with fail
 go_loopw [5,6] (λv i wr=>∃(k x:Nat),k<=32*a.length/\i= .int .i64 ((k:Int)-1)/\IsRes wr v (Nt.digs x)/\Below w.heap.size w wr/\Hid (x=va/2^k*vb)) (λ_ i _=>(intOf i+1).toNat)
 case atStart=>exact⟨32*a.length,0,Lr,by go_num,by rw[Nt.digs_zero];exact IsRes.none_ _,Br,Qd (by rw[TZ.out,Nat.zero_mul])⟩
 case round=>
  obtain⟨k,x,hk,rfl,hres,hbel,H⟩:=hrel;rcases k with _ |k
  ·have HE:Hid (va*vb=x):=Qd (by have:=H.out;rw[Nat.pow_zero,Nat.div_one] at this;exact this.symm)
   go_wp2_with fail
   go_ret;exact⟨_,rfl,by rw[HE.out];exact hres,hbel⟩
  have hk1:((k+1:Nat):Int)-1=(k:Int):=by omega
  rw[hk1];clear hk1;have h2x:=Nt.mul_le2 H.out;have L0:=LN.out x (by omega);have L1:=LN.out (2*x+0) (by omega);have MS:=Qd (λbit hb=>Nt.mul_step (bit:=bit) H.out hb);have T0:=Qd (Eg hres hbel (by omega) 0 (by omega));clear hres;go_wp2_with fail
  refine T0.out.mono ?_;rintro e w1 ⟨v1,rfl,hr1,hb1,_⟩;go_wp2_with fail
  refine(BT.out k w1 (by omega) hb1).mono ?_;rintro e w' ⟨bit,rfl,hbit,HBIT,rfl⟩;have HMS:=Qd (MS.out bit HBIT.out);by_cases hb0:bit=0
  ·subst hb0
   go_wp2_with fail
   go_roundw
   case rel=>exact⟨k,2*x+0,by omega,by go_num,hr1,hb1,Qd (by have:=HMS.out;rw[Nat.zero_mul] at this;exact this)⟩
   case measure=>first|(simp[intOf];done) |(simp[intOf];omega)
  obtain rfl:bit=1:=by omega
  go_wp2_with fail
  refine(AD.out (2*x+0) v1 _ hb1 hr1 (by omega)).mono ?_;rintro e w2 ⟨v2,rfl,hr2,hb2⟩;go_wp2_with fail
  go_roundw
  case rel=>exact⟨k,2*x+0+vb,by omega,by go_num,hr2,hb2,Qd (by have:=HMS.out;rw[Nat.one_mul] at this;exact this)⟩
  case measure=>first|(simp[intOf];done) |(simp[intOf];omega)
theorem Hr (A A':Option Addr)(c c' B:Nat)(a b:List Nat)(w:World)(hx:Lies w B A (U a))(hy:Lies w B A' (U b))(hB:B<=w.heap.size)(ha:Nt.Ok a)(hb:Nt.Ok b)
 (hc:a.length<=c) (hc':b.length<=c') (hm:c<=9223372036854775807) (hm':c'<=9223372036854775807) (hA':A'=none->c'=0) (hs:a.length<=1000000) (hs':b.length<=1000000):
 Calls Tryz.prog 217 #[.slice A a.length c,.slice A' b.length c'] w λe w'=>∃v1 v2,e= .returned (.tuple #[v1,v2,.bool (decide (Nt.val b≠0))])/\
  IsRes w' v1 (Nt.digs (Nt.quo (Nt.val a) (Nt.val b)))/\IsRes w' v2 (Nt.digs (Nt.rest (Nt.val a) (Nt.val b)))/\Below w.heap.size w w':=by
 have NB:=Qd (Fd A' c' B b w hy hB hb hc' hm' hA' (by omega));have LN:=Qd (λx h=>Nt.len_le ha (x:=x) h);have LB:=Qd (λx h=>Nt.len_le hb (x:=x) h);have L2:=Qd (λ(x:Nat) (h:x<2*Nt.val b)=>show(Nt.digs x).length<=b.length+1 from Nt.digs_len_lt (by
  have:=Nt.val_lt hb;rw[Nat.pow_succ];omega))
 have BT:=Qd (λ(i:Nat) (wr:World) (hi:i<=9223372036854775807) (h:Below w.heap.size w wr)=>Rm A c B a i wr (hx.below (h.mono hB)) ha hc hm hi);have SB:=Qd (λ(x:Nat) (v:Value) (wr:World) (h:Below w.heap.size w wr) (hr:IsRes wr v (Nt.digs x)) (hl:(Nt.digs x).length<=8796093022208)=>show Calls Tryz.prog 278 #[v,.slice A' b.length c'] wr λe w'=>∃v',e= .returned (.tuple #[v',.bool (decide (Nt.val b<=x))])/\IsRes w' v' (Nt.digs (x-Nt.val b))/\Below w.heap.size w w'/\Below wr.heap.size wr w' from by
  obtain⟨A1,c1,rfl,h1,h2,h3,h4⟩:=hr;have hyw:=(hy.below (h.mono hB)).more (Nat.le_trans hB h.size);refine(Ly A1 A' c1 c' wr.heap.size (Nt.digs x) b wr h4 hyw Lr (Nt.ok_digs x) hb h1 hc' h2 hm' hl (by omega)).mono ?_;rintro e w' ⟨v',rfl,hr',hb'⟩;rw[Nt.val_digs] at hr'⊢;exact⟨v',rfl,hr',h.trans (hb'.mono h.size),hb'⟩)
 have TZ:=Qd (Nt.top_zero ha);clear hx hy ha hb;generalize Nt.val a=va at*;generalize Nt.val b=vb at*;by_cases h0:vb=0
 ·subst h0
  have HZ:Hid ((Nt.digs 0).length=0):=Qd (by rw[Nt.digs_zero];rfl);go_enter Tryz.func217,Tryz.ntmps217
  go_wp2_with fail
  refine NB.out.mono ?_;rintro e w1 ⟨v1,rfl,⟨A1,c1,rfl,h1,h2,h3,h4⟩,hb1⟩;rw[HZ.out];go_wp2_with fail
  go_ret3
  refine⟨_,_,rfl,?_,?_,hb1⟩
  ·rw[Nt.quo_zero,Nt.digs_zero];exact IsRes.none_ _
  rw[Nt.rest_zero,Nt.digs_zero];exact IsRes.none_ _
 have hpos:0<vb:=by omega
 have HP:Hid (decide (vb≠0)=true):=Qd (by simp;omega);have hlp:(Nt.digs vb).length≠0:=λh=>h0 (Nt.digs_nil_iff.1 (List.eq_nil_of_length_eq_zero h));have hle:(((Nt.digs vb).length:Int)==0)=false:=by simp;intro h;exact hlp (by rw[h];rfl)
 have HI1:Hid (Nt.quo va vb=va/vb):=Qd rfl;have HI2:Hid (Nt.rest va vb=va%vb):=Qd (Nt.rest_pos h0);rw[HP.out];generalize Nt.quo va vb=Q at*;generalize Nt.rest va vb=R at*;clear h0 hlp;go_enter Tryz.func217,Tryz.ntmps217
 go_wp2_with fail
 refine NB.out.mono ?_;rintro e w1 ⟨v1,rfl,⟨A1,c1,rfl,h1,h2,h3,h4⟩,hb1⟩;clear h3 h4;go_wp2_with fail
 go_loopw [7,8,9] (λvq vr i wr=>∃(k q r:Nat),k<=32*a.length/\i= .int .i64 ((k:Int)-1)/\IsRes wr vq (Nt.digs q)/\IsRes wr vr (Nt.digs r)/\Below w.heap.size w wr/\Hid (q=va/2^k/vb/\r=va/2^k%vb)) (λ_ _ i _=>(intOf i+1).toNat)
 case atStart=>exact⟨32*a.length,0,0,Lr,by go_num,by rw[Nt.digs_zero];exact IsRes.none_ _,by rw[Nt.digs_zero];exact IsRes.none_ _,hb1,Qd (by rw[TZ.out];exact⟨(Nat.zero_div _).symm,(Nat.zero_mod _).symm⟩)⟩
 case round=>
  obtain⟨k,q,r,hk,rfl,hrq,hrr,hbel,H⟩:=hrel;rcases k with _ |k
  ·have HE:Hid (Q=q/\R=r):=Qd (by
    have:=H.out;rw[Nat.pow_zero,Nat.div_one] at this;rw[HI1.out,HI2.out,this.1,this.2];exact⟨rfl,rfl⟩)
   go_wp2_with fail
   go_ret3
   exact⟨_,_,rfl,by rw[HE.out.1];exact hrq,by rw[HE.out.2];exact hrr,hbel⟩
  have hk1:((k+1:Nat):Int)-1=(k:Int):=by omega
  rw[hk1];clear hk1;have hrb:r<vb:=by rw[H.out.2];exact Nat.mod_lt _ hpos
  have hqa:2*q+1<=2*va+1:=by
   have:q<=va:=by rw[H.out.1];exact Nat.le_trans (Nat.div_le_self _ _) (Nat.div_le_self _ _)
   omega
  have Lr:=LB.out r (by omega);have Lq:=LN.out q (by omega);have DS:=Qd (λbit hb=>Nt.div_step (n:=va/2^(k+1)) (b:=vb) (q:=q) (r:=r) (bit:=bit) hpos H.out.1 H.out.2 hb);have HH:=Qd (Nt.half_step va k);go_wp2_with fail
  refine(BT.out k _ (by omega) hbel).mono ?_;rintro e w' ⟨bit,rfl,hbit,HBIT,rfl⟩;go_wp2_with fail
  refine(Eg hrr hbel (by omega) bit hbit).mono ?_;rintro e w2 ⟨v2,rfl,hr2,hb2,hbb2⟩;have L2r:=L2.out (2*r+bit) (by omega);have hrq2:=hrq.below hbb2;go_wp2_with fail
  refine(SB.out (2*r+bit) v2 _ hb2 hr2 (by omega)).mono ?_;rintro e w3 ⟨v3,rfl,hr3,hb3,hbb3⟩;have hrq3:=hrq2.below hbb3;have hr23:=hr2.below hbb3;have HN:Hid (va/2^k=2*(va/2^(k+1))+bit):=Qd (by rw[HBIT.out];exact HH.out);by_cases hge:vb<=2*r+bit
  ·have hD:decide (vb<=2*r+bit)=true:=by simpa using hge
   have HDS:=Qd ((DS.out bit hbit).1 hge);rw[hD];clear hD;go_wp2_with fail
   refine(Eg hrq3 hb3 (by omega) 1 (by omega)).mono ?_;rintro e w4 ⟨v4,rfl,hr4,hb4,hbb4⟩;have hr34:=hr3.below hbb4;go_wp2_with fail
   go_roundw
   case rel=>exact⟨k,2*q+1,2*r+bit-vb,by omega,by go_num,hr4,hr34,hb4,Qd (by rw[HN.out];exact HDS.out)⟩
   case measure=>first|(simp[intOf];done) |(simp[intOf];omega)
  have hD:decide (vb<=2*r+bit)=false:=by simpa using hge
  have HDS:=Qd ((DS.out bit hbit).2 hge);rw[hD];clear hD;go_wp2_with fail
  refine(Eg hrq3 hb3 (by omega) 0 (by omega)).mono ?_;rintro e w4 ⟨v4,rfl,hr4,hb4,hbb4⟩;have hr34:=hr23.below hbb4;go_wp2_with fail
  go_roundw
  case rel=>exact⟨k,2*q+0,2*r+bit,by omega,by go_num,hr4,hr34,hb4,Qd (by rw[HN.out];exact HDS.out)⟩
  case measure=>first|(simp[intOf];done) |(simp[intOf];omega)
section
open Go.RowKit
section
variable {w0 w : World} {v1 v2 : Value} {l1 l2 : List Nat}
theorem Wg (h1:IsRes w v1 l1)(h2:IsRes w v2 l2)(o1:Nt.Ok l1)(o2:Nt.Ok l2)(s1:l1.length<=1000000)(s2:l2.length<=1000000)(hb:Below w0.heap.size w0 w):
 Calls Tryz.prog 217 #[v1,v2] w λe w'=>∃u1 u2,e= .returned (.tuple #[u1,u2,.bool (decide (Nt.val l2≠0))])/\IsRes w' u1 (Nt.digs (Nt.quo (Nt.val l1) (Nt.val l2)))/\IsRes w' u2 (Nt.digs (Nt.rest (Nt.val l1) (Nt.val l2)))/\Below w0.heap.size w0 w'/\Below w.heap.size w w':=by
 obtain⟨A,c,rfl,a1,a2,a3,a4⟩:=h1;obtain⟨A',c',rfl,b1,b2,b3,b4⟩:=h2;refine(Hr A A' c c' w.heap.size l1 l2 w a4 b4 Lr o1 o2 a1 b1 a2 b2 b3 s1 s2).mono ?_;rintro e w' ⟨u1,u2,rfl,r1,r2,hb'⟩;exact⟨u1,u2,rfl,r1,r2,hb.trans (hb'.mono hb.size),hb'⟩
theorem Yi (h1:IsRes w v1 l1)(o1:Nt.Ok l1)(s1:l1.length<=1000000)(hb:Below w0.heap.size w0 w):
 Calls Tryz.prog 130 #[v1] w λe w'=>∃v,e= .returned v/\IsRes w' v (Nt.digs (Nt.val l1))/\Below w0.heap.size w0 w'/\Below w.heap.size w w':=by
 obtain⟨A,c,rfl,a1,a2,a3,a4⟩:=h1;refine(Fd A c w.heap.size l1 w a4 Lr o1 a1 a2 a3 (by omega)).mono ?_;rintro e w' ⟨v,rfl,r,hb'⟩;exact⟨v,rfl,r,hb.trans (hb'.mono hb.size),hb'⟩
end
theorem Qs (va vb:Value)(a b:List Nat)(w:World)(hx:IsRes w va a)(hy:IsRes w vb b)(ha:Nt.Ok a)(hb:Nt.Ok b)(hs:a.length<=64)(hs':b.length<=64):
 Calls Tryz.prog 216 #[va,vb] w λe w'=>∃v,e= .returned v/\IsRes w' v (Nt.digs (Nat.gcd (Nt.val a) (Nt.val b)))/\Below w.heap.size w w':=by
 have hda:=Nt.digs_len_le ha;have hdb:=Nt.digs_len_le hb;have NA:=Qd (Yi hx ha (by omega) Br);have NB:=Qd (λ(wx:World) (h:Below w.heap.size w wx)=>Yi (hy.below h) hb (by omega) h);have EU:=Qd (Nt.euc_start ha hb hs hs');obtain⟨N,hN⟩:∃N,N=32*64+32*64+1:=⟨_,rfl⟩;rw[<-hN] at EU;have HN:Hid (N<100000):=Qd (by omega);clear hN;have hla:(Nt.digs (Nt.val a)).length<=1000000:=by omega
 have hlb:(Nt.digs (Nt.val b)).length<=1000000:=by omega
 clear hx hy ha hb hs hs' hda hdb;obtain⟨x0,hx0⟩:∃x,x=Nt.val a:=⟨_,rfl⟩;obtain⟨y0,hy0⟩:∃y,y=Nt.val b:=⟨_,rfl⟩;rw[<-hx0] at NA EU hla⊢;rw[<-hy0] at NB EU hlb⊢;clear hx0 hy0;go_enter Tryz.func216,Tryz.ntmps216
 go_wp2_with fail
 refine NA.out.mono ?_;rintro e w1 ⟨v1,rfl,hr1,hb1,_⟩;go_wp2_with fail
 refine(NB.out w1 hb1).mono ?_;rintro e w2 ⟨v2,rfl,hr2,hb2,hb12⟩;have hr1':=hr1.below hb12;obtain⟨A,c,rfl,a1,a2,a3,a4⟩:=hr1';obtain⟨A',c',rfl,b1,b2,b3,b4⟩:=hr2;have HR0:Hid (IsRes w2 (.slice A (Nt.digs x0).length c) (Nt.digs x0)/\IsRes w2 (.slice A' (Nt.digs y0).length c') (Nt.digs y0)):=Qd ⟨⟨_,_,rfl,a1,a2,a3,a4⟩,⟨_,_,rfl,b1,b2,b3,b4⟩⟩;clear hr1 hb1 hb12 a1 a2 a3 a4 b1 b2 b3 b4 NA NB;go_wp2_with fail
 go_loopg [5,6,7] 100000 (λgk av bv kv wr=>∃(A A':Option Addr) (c c' x y k:Nat),av= .slice A (Nt.digs x).length c/\bv= .slice A' (Nt.digs y).length c'/\kv= .int .i64 (k:Int)/\Hid (k+gk=100000)/\Hid (Nt.EucAt (2^N) x y k)/\Hid (IsRes wr (.slice A (Nt.digs x).length c) (Nt.digs x)/\IsRes wr (.slice A' (Nt.digs y).length c') (Nt.digs y))/\(Nt.digs x).length<=1000000/\(Nt.digs y).length<=1000000/\Hid (Nat.gcd x y=Nat.gcd x0 y0)/\Below w.heap.size w wr)
 case atStart=>exact⟨_,_,_,_,x0,y0,0,rfl,rfl,rfl,Qd (by omega),EU,HR0,hla,hlb,Qd rfl,hb2⟩
 case round=>
  clear EU HR0 hla hlb hb2;obtain⟨P,P',k1,k2,x,y,k,rfl,rfl,rfl,HK,EU,HR,hlx,hly,HG,hbel⟩:=hrel;by_cases h0:y=0
  ·subst h0
   have HZ:Hid ((Nt.digs 0).length=0):=Qd (by rw[Nt.digs_zero];rfl);have HE:Hid (Nat.gcd x0 y0=x):=Qd (by rw[<-HG.out,Nat.gcd_zero_right]);have HRX:=Qd HR.out.1;rw[HZ.out];clear HG HR;rcases Bool.eq_false_or_eq_true (decide ((k:Int)<100000)) with hk2 |hk2
   all_goals
    go_wp2_with fail
    go_ret;exact⟨_,rfl,by rw[HE.out];exact HRX.out,hbel⟩
  have hlp:0<(Nt.digs y).length:=by
   rcases Nat.eq_zero_or_pos (Nt.digs y).length with h |h
   ·exact absurd (Nt.digs_nil_iff.1 (List.eq_nil_of_length_eq_zero h)) h0
   exact h
  have HK2:Hid (k<100000):=Qd (by
   rcases Nat.lt_or_ge k 100000 with h |h
   ·exact h
   exact absurd (EU.out.done (by have:=HN.out;omega)) h0)
  have hk2:decide ((k:Int)<100000)=true:=by have:=HK2.out;simp;omega
  have hkb:k<1000000000:=by have:=HK2.out;omega
  have DM:=Qd (Wg (w0:=w) HR.out.1 HR.out.2 (Nt.ok_digs x) (Nt.ok_digs y) hlx hly hbel);rw[Nt.val_digs,Nt.val_digs,Nt.rest_pos h0] at DM;have hyp:x%y<y:=Nat.mod_lt _ (by omega);have hlr:(Nt.digs (x%y)).length<=1000000:=by
   have h:=Nt.digs_len_le_of (Nat.le_of_lt hyp);omega
  have HG2:Hid (Nat.gcd y (x%y)=Nat.gcd x0 y0):=Qd (by rw[Nt.gcd_step];exact HG.out);have EU2:=Qd (EU.out.step (by omega));have HRY:=Qd HR.out.2;clear HR HG h0 EU;obtain⟨r,hr⟩:∃r,r=x%y:=⟨_,rfl⟩;rw[<-hr] at DM hyp hlr HG2 EU2;clear hr;go_wp2_with fail
  refine DM.out.mono ?_;rintro e w1 ⟨u1,u2,rfl,hr1,hr2,hb1,hb01⟩;have hry:=HRY.out.below hb01;obtain⟨A2,c2,rfl,q1,q2,q3,q4⟩:=hr2;have hr2':IsRes w1 (.slice A2 (Nt.digs r).length c2) (Nt.digs r):=⟨A2,c2,rfl,q1,q2,q3,q4⟩;clear q1 q2 q3 q4 hr1 hb01 HRY DM;have HRN:=Qd (And.intro hry hr2');clear hry hr2';go_wp2_with fail
  go_roundg (gk-1)
  case measure=>have:=HK2.out;have:=HK.out;omega
  case rel=>exact⟨_,_,_,_,y,r,k+1,rfl,rfl,by go_num,Qd (by have:=HK2.out;have:=HK.out;omega),EU2,HRN,hly,hlr,HG2,hb1⟩
def ResL (w:World)(v:Value)(l:List Nat):Prop:=IsRes w v l/\Nt.Ok l/\l.length<=64
theorem ResL.below {w w':World}{v:Value}{l:List Nat}(h:ResL w v l)(hb:Below w.heap.size w w'):ResL w' v l:=⟨h.1.below hb,h.2⟩
theorem IsRes.setRow {w:World}{v:Value}{l:List Nat}{g:Nat}{old:Array Value}{t:TypeId}(h:IsRes w v l)(hg:w.heap[g]? =some (.cells old t (0,0)))(ho:∀(i:Nat) (k:IntKind) (n:Int),old[i]? ≠some (Value.int k n))(cs:Array Value):IsRes (w.setRow g cs) v l:=by
 obtain⟨A,c,h1,h2,h3,h4,h5⟩:=h;refine⟨A,c,h1,h2,h3,h4,?_⟩;rcases h5 with h5 |⟨b,off,e,hb,hc⟩
 ·exact .inl h5
 cases l with
 |nil=>exact .inl rfl
 |cons x r=>
  have hne:b≠g:=by
   rintro rfl;have h0:=hc 0 _ rfl;rw[cell_of_row w b (off+0) old t (0,0) hg] at h0;exact ho _ _ _ h0
  refine .inr ⟨b,off,e,by rw[size_setRow];exact hb,λi u hu=>?_⟩;rw[World.cell?_of_block (w:=w) (by simp only[World.setRow,Array.getElem?_modify];rw[if_neg (by omega)])];exact hc i u hu
theorem ResL.setRow {w:World}{v:Value}{l:List Nat}{g:Nat}{old:Array Value}{t:TypeId}(h:ResL w v l)(hg:w.heap[g]? =some (.cells old t (0,0)))(ho:∀(i:Nat) (k:IntKind) (n:Int),old[i]? ≠some (Value.int k n))(cs:Array Value):ResL (w.setRow g cs) v l:=⟨h.1.setRow hg ho cs,h.2⟩
theorem Ya (n:Bool)(A:Option Addr)(k c:Nat):∀(i:Nat) (kk:IntKind) (m:Int),(#[.bool n,.slice A k c]:Array Value)[i]? ≠some (Value.int kk m):=by
 intro i kk m h
 match i with
 | 0=>cases h
 | 1=>cases h
 |i+2=>simp at h
theorem Da (n:Bool)(A:Option Addr)(k c:Nat)(A':Option Addr)(k' c':Nat):∀(i:Nat) (kk:IntKind) (m:Int),(#[.bool n,.slice A k c,.slice A' k' c']:Array Value)[i]? ≠some (Value.int kk m):=by
 intro i kk m h
 match i with
 | 0=>cases h
 | 1=>cases h
 | 2=>cases h
 |i+3=>simp at h
theorem Ic:(Tryz.prog.info? 218).map (·.size)=some 2:=by kernel_rfl
theorem De:(Tryz.prog.info? 85).map (·.size)=some 3:=by kernel_rfl
theorem Tb (n:Bool)(A:Option Addr)(k c:Nat):(#[.bool n,.slice A k c]:Array Value).all (·.oneCell')=true:=by simp[Value.oneCell']
theorem Vp (n:Bool)(A:Option Addr)(k c:Nat)(A':Option Addr)(k' c':Nat):(#[.bool n,.slice A k c,.slice A' k' c']:Array Value).all (·.oneCell')=true:=by simp[Value.oneCell']
theorem rBelow.setRow {B:Nat}{a w:World}(h:Below B a w){g:Nat}(hg:B<=g)(cs:Array Value):Below B a (w.setRow g cs):=
 ⟨h.os,h.tape,h.output,by rw[size_setRow];exact h.size,λk hk=>by
  have e:(w.setRow g cs).heap[k]? =w.heap[k]? :=by
   simp only[World.setRow,Array.getElem?_modify];rw[if_neg (by omega)]
  rw[e];exact h.block k hk⟩
theorem Ha {w:World}{g:Nat}{old cs:Array Value}{t:TypeId}(h:w.heap[g]? =some (.cells old t (0,0))):(w.setRow g cs).heap[g]? =some (.cells cs t (0,0)):=by
 simp[World.setRow,Array.getElem?_modify,h]
theorem Sm (x0 x1 x2:Value):(Tryz.prog.info? 85).map (·.size)=some (#[x0,x1,x2]:Array Value).size:=De
theorem Vb {ops:Array Oper}{rest:List Oper}{o:Oper}{a:Act}{w:World}{Q:Exit->Act->World->Prop}{b:Bool}{A A':Option Addr}{k c k' c':Nat}{u0 u1 u2:Value}(hgd:o.guard=none)(x y:Operand)(ho:o.op= .store 85 x y)(g:Nat)
 (hx:a.eval x= .pointer (some ⟨g,0,none⟩)) (hy:a.eval y= .agg #[.bool b,.slice A k c,.slice A' k' c']) (hg:w.heap[g]? =some (.cells #[u0,u1,u2] 85 (0,0)))
 (h:wpList Tryz.prog ops Q rest (a.put o.dst undef) (w.setRow g #[.bool b,.slice A k c,.slice A' k' c'])):wpList Tryz.prog ops Q (o::rest) a w:=
 wpList_store_row hgd _ x y ho g _ hx hy _ _ hg (Sm _ _ _) rfl (Vp _ _ _ _ _ _ _) h
def Ek (w:World)(n:Bool)(l:List Nat)(e:Ending)(w':World):Prop:=∃v,e= .returned (.agg #[.bool n,v])/\ResL w' v l/\Below w.heap.size w w'
theorem Sd (n:Bool)(v:Value)(l:List Nat)(w:World)(h:ResL w v l):
 Calls Tryz.prog 215 #[.agg #[.bool n,v]] w (Ek w (Rt.nrm n (Nt.val l)) (Nt.digs (Nt.val l))):=by
 obtain⟨hr,ho,hl⟩:=h;have hb0:∀o1 o2,Below w.heap.size w ((w.alloc o1).alloc o2):=λo1 o2=>(Br.alloc Lr _).alloc (by simp) _;have HN:=Qd (λo1 o2=>Yi (hr.below (hb0 o1 o2)) ho (by omega) (hb0 o1 o2));have hd:=Nt.digs_len_le ho;have HO:Hid (Nt.Ok (Nt.digs (Nt.val l))/\(Nt.digs (Nt.val l)).length<=64):=Qd ⟨Nt.ok_digs _,by omega⟩;have HZ:Hid ((Nt.digs (Nt.val l)).length=0->Nt.digs (Nt.val l)=[]/\Rt.nrm n (Nt.val l)=false):=Qd (λe=>by
  have e1:=List.eq_nil_of_length_eq_zero e;have e2:=Nt.digs_nil_iff.1 e1;exact⟨e1,by rw[e2];simp[Rt.nrm]⟩)
 have HY:Hid ((Nt.digs (Nt.val l)).length≠0->Rt.nrm n (Nt.val l)=n):=Qd (λe=>by
  have e2:Nt.val l≠0:=λe3=>e (by rw[e3,Nt.digs_zero];rfl);have e3:(Nt.val l==0)=false:=by simpa using e2
  simp[Rt.nrm,e3])
 have HB:=Qd hb0;obtain⟨A,c,rfl,-,-,-,-⟩:=hr;clear ho hl hd hb0;generalize Nt.digs (Nt.val l)=d at*;generalize Rt.nrm n (Nt.val l)=N at*;generalize l.length=ll at*;have HI2:Hid (∀(b:Bool) (A:Option Addr) (k c:Nat),(Tryz.prog.info? 218).map (·.size)=some (#[.bool b,.slice A k c]:Array Value).size):=Qd (λ_ _ _ _=>Ic);go_enter Tryz.func215,Tryz.ntmps215
 go_wp2_with fail
 refine(HN.out _ _).mono ?_;rintro e w2 ⟨v2,rfl,hr2,hb2,hb3⟩;have hs2:=hb3.size;have HG1:Hid (w2.heap[w.heap.size+1]? =some (.cells #[.bool false,.slice none 0 0] 218 (0,0))):=Qd ((hb3.block (w.heap.size+1) (by simp)).trans (by
  have:=heap_alloc_new (w.alloc (.cells #[.bool n,.slice A ll c] 218)) (.cells #[.bool false,.slice none 0 0] 218);rwa[show(w.alloc (.cells #[.bool n,.slice A ll c] 218)).heap.size=w.heap.size+1 by simp] at this))
 have q0:w2.cell? ⟨w.heap.size,0,none⟩=some (.bool n):=(hb3.cell (p:=⟨w.heap.size,0,none⟩) (by show w.heap.size<_;simp;omega)).trans (by go_simp);obtain⟨A2,c2,rfl,k1,k2,k3,k4⟩:=hr2;have HR2:Hid (IsRes w2 (.slice A2 d.length c2) d):=Qd ⟨A2,c2,rfl,k1,k2,k3,k4⟩;clear k3 k4 hb3;by_cases h0:d.length=0
 ·have hz:((d.length:Int)==0)=true:=by rw[h0];rfl
  have HD:=Qd (HZ.out h0);clear h0;go_wp2_with (first
   |(with_reducible refine wpList_store_row rfl 218 (.tmp 2) (.tmp 10) rfl (w.heap.size+1) #[.bool false,.slice none 0 0] rfl rfl 218 #[.bool false,.slice none 0 0] HG1.out (HI2.out _ _ _ _) rfl (Tb _ _ _ _) ?_))
  refine bodyPost_ret (results_cell_row (by rfl) _ _ (w.heap.size+1) 218 #[.bool false,.slice none 0 0] (0,0) _ (by rfl) (Ha HG1.out) Tryz.underlying218 rfl (HI2.out _ _ _ _)) rfl ⟨.slice none 0 0,by rw[HD.out.2],by rw[HD.out.1];exact⟨⟨none,0,rfl,Lr,by omega,λ_=>rfl,.inl rfl⟩,(λx h=>by cases h),by simp⟩,rBelow.setRow hb2 (by omega) _⟩
 have hz:((d.length:Int)==0)=false:=beq_eq_false_iff_ne.2 (by omega);have HD:=Qd (HY.out h0);clear h0;go_wp2_with (first
  |(with_reducible refine wpList_store_row rfl 218 (.tmp 2) (.tmp 14) rfl (w.heap.size+1) #[.bool n,.slice A2 d.length c2] rfl rfl 218 #[.bool false,.slice none 0 0] HG1.out (HI2.out _ _ _ _) rfl (Tb _ _ _ _) ?_))
 refine bodyPost_ret (results_cell_row (by rfl) _ _ (w.heap.size+1) 218 #[.bool n,.slice A2 d.length c2] (0,0) _ (by rfl) (Ha HG1.out) Tryz.underlying218 rfl (HI2.out _ _ _ _)) rfl ⟨.slice A2 d.length c2,by rw[HD.out],⟨HR2.out.setRow HG1.out (Ya _ _ _ _) _,HO.out⟩,rBelow.setRow hb2 (by omega) _⟩
end
theorem Td (v:Value)(l:List Nat)(w:World)(h:IsRes w v l):
 Calls Tryz.prog 168 #[v] w λe w'=>e= .returned (.bool (l==[1]))/\w=w':=by
 obtain⟨A,c,rfl,h1,h2,h3,h4⟩:=h;by_cases hl:l.length=1
 ·obtain⟨x,rfl⟩:∃x,l=[x]:=by
   match l,hl with
   | [x],_=>exact⟨x,rfl⟩
  obtain⟨b,off,rfl,hb,g0⟩:=h4.at_ (k:=0) (by simp[U]);have g1:w.cell? ⟨b,off,none⟩=some (.int .u32 (x:Int)):=by simpa [U] using g0
  have HQ:Hid (([x]==[1])=(x==1)):=Qd (by simp[List.cons_beq_cons]);have hlen:([x]:List Nat).length=1:=rfl;clear g0 h4 h3 hl hlen;by_cases hx:x=1
  ·subst hx
   go_enter Tryz.func168,Tryz.ntmps168
   go_wp2_with fail
   go_ret;exact⟨Aa (by rw[HQ.out];rfl),rfl⟩
  have q:((x:Int)==1)=false:=beq_eq_false_iff_ne.2 (by omega);have HQ2:Hid ((x==1)=false):=Qd (beq_eq_false_iff_ne.2 hx);clear hx;go_enter Tryz.func168,Tryz.ntmps168
  go_wp2_with fail
  go_ret;exact⟨Aa (by rw[HQ.out,HQ2.out]),rfl⟩
 have q:((l.length:Int)==1)=false:=beq_eq_false_iff_ne.2 (by omega);have HQ:Hid ((l==[1])=false):=Qd (by
  rw[beq_eq_false_iff_ne];rintro rfl;exact hl rfl)
 clear hl h4;generalize l.length=n at*;go_enter Tryz.func168,Tryz.ntmps168
 go_wp2_with fail
 go_ret;exact⟨Aa (by rw[HQ.out]),rfl⟩
def Ph (w:World)(n:Bool)(l:List Nat)(e:Ending)(w':World):Prop:=∃v,e= .returned (.agg #[.bool n,v])/\IsRes w' v l/\Below w.heap.size w w'
theorem Gd:(Tryz.prog.info? 173).map (·.size)=some 2:=by kernel_rfl
theorem Ny (n:Bool)(v:Value)(l:List Nat)(w:World)(h:IsRes w v l):
 Calls Tryz.prog 221 #[.bool n,v] w (Ph w (n&& !(l==[])) l):=by
 have HR:=Qd h;obtain⟨A,c,rfl,h1,h2,h3,h4⟩:=h;have HI2:Hid (∀(b:Bool) (A:Option Addr) (k c:Nat),(Tryz.prog.info? 173).map (·.size)=some (#[.bool b,.slice A k c]:Array Value).size):=Qd (λ_ _ _ _=>Gd);have HG1:Hid (∀o,(w.alloc o).heap[w.heap.size]? =some o):=Qd (λo=>heap_alloc_new w o);have hb:∀o,Below w.heap.size w (w.alloc o):=λo=>Br.alloc Lr _;have HB:=Qd hb;clear h3 h4 hb;by_cases hl:l.length=0
 ·have q:((l.length:Int)==0)=true:=beq_iff_eq.2 (by omega)
  have HL:Hid (l=[]):=Qd (List.eq_nil_of_length_eq_zero hl);clear hl;go_enter Tryz.func221,Tryz.ntmps221
  go_wp2_with (with_reducible refine wpList_store_row rfl 173 (.tmp 4) (.tmp 8) rfl w.heap.size #[.bool false,.slice none 0 0] rfl rfl 173 #[.bool false,.slice none 0 0] (HG1.out _) (HI2.out _ _ _ _) rfl (Tb _ _ _ _) ?_)
  refine bodyPost_ret (results_cell_row (by rfl) _ _ w.heap.size 173 #[.bool false,.slice none 0 0] (0,0) _ (by rfl) (Ha (HG1.out _)) Tryz.underlying173 rfl (HI2.out _ _ _ _)) rfl ⟨.slice none 0 0,by rw[HL.out];simp,by rw[HL.out];exact IsRes.none_ _,rBelow.setRow (HB.out _) Lr _⟩
 have q:((l.length:Int)==0)=false:=beq_eq_false_iff_ne.2 (by omega);have HL:Hid ((l==[])=false):=Qd (by rw[beq_eq_false_iff_ne];rintro rfl;exact hl rfl);clear hl;go_enter Tryz.func221,Tryz.ntmps221
 go_wp2_with (with_reducible refine wpList_store_row rfl 173 (.tmp 4) (.tmp 11) rfl w.heap.size #[.bool n,.slice A l.length c] rfl rfl 173 #[.bool false,.slice none 0 0] (HG1.out _) (HI2.out _ _ _ _) rfl (Tb _ _ _ _) ?_)
 refine bodyPost_ret (results_cell_row (by rfl) _ _ w.heap.size 173 #[.bool n,.slice A l.length c] (0,0) _ (by rfl) (Ha (HG1.out _)) Tryz.underlying173 rfl (HI2.out _ _ _ _)) rfl ⟨.slice A l.length c,by rw[HL.out];simp,(HR.out.below (HB.out _)).setRow (HG1.out _) (Ya _ _ _ _) _,rBelow.setRow (HB.out _) Lr _⟩
theorem O5 (n:Bool)(x:Nat):(n&& !(Nt.digs x==[]))=Rt.nrm n x:=by
 unfold Rt.nrm
 congr 2
 rw[Bool.eq_iff_iff];simp only[beq_iff_eq];exact Nt.digs_nil_iff
theorem Zi {w:World}{v:Value}{l:List Nat}(h1:IsRes w v l)(o1:Nt.Ok l)(s1:l.length<=1000000):
 Calls Tryz.prog 163 #[v] w λe w'=>∃v,e= .returned v/\IsRes w' v (Nt.digs (Nt.val l))/\Below w.heap.size w w':=by
 obtain⟨A,c,rfl,a1,a2,a3,a4⟩:=h1;have hd:=Nt.digs_len_le o1;refine(Pd A c w.heap.size l w a4 Lr o1 a1 a2 (by omega)).mono ?_;rintro e w' ⟨rfl,r,hb'⟩;exact⟨_,rfl,⟨_,_,rfl,Lr,by omega,(λh=>by cases h),r.lies⟩,hb'⟩
def Pb (g:Nat)(n:Bool)(V:Value)(xs:Nat->Value):Act:={tmps:= #[.agg #[.bool n,V],.pointer (some ⟨g,0,none⟩),.pointer (some ⟨g+1,0,none⟩),xs 0,xs 1,xs 2,xs 3,xs 4,xs 5],defers:=[]}
def Daa (g:Nat)(n:Bool)(V:Value)(l:List Nat):Nat->World->Value->Prop
 | 0,w,v=>v= .pointer (some ⟨g,0,none⟩)
 | 1,w,v=>v= .bool n
 | 2,w,v=>v= .pointer (some ⟨g,1,none⟩)
 | 3,w,v=>v=V
 | 4,w,v=>IsRes w v (Nt.digs (Nt.val l))
 |_,w,v=>∃u,v= .agg #[.bool (Rt.nrm n (Nt.val l)),u]/\IsRes w u (Nt.digs (Nt.val l))
theorem Ir (n:Bool)(v:Value)(l:List Nat)(w:World)(h:IsRes w v l)(ho:Nt.Ok l)(hs:l.length<=1000000):
 Calls Tryz.prog 169 #[.agg #[.bool n,v]] w (Ph w (Rt.nrm n (Nt.val l)) (Nt.digs (Nt.val l))):=by
 obtain⟨g,hg⟩:∃g,g=w.heap.size:=⟨_,rfl⟩;obtain⟨W,hW⟩:∃W,W=(w.alloc (.cells #[.bool n,v] 173)).alloc (.cells #[.bool false,.slice none 0 0] 173):=⟨_,rfl⟩;have hWs:W.heap.size=g+1+1:=by rw[hW,hg];simp
 have hWb:Below g w W:=by rw[hW,hg];exact(Br.alloc Lr _).alloc (by simp) _
 have hW0:W.heap[g]? =some (.cells #[.bool n,v] 173 (0,0)):=by rw[hW,hg];exact heap_alloc2_old _ _ _
 have HW1:Hid (W.heap[g+1]? =some (.cells #[.bool false,.slice none 0 0] 173 (0,0))):=Qd (by rw[hW,hg];exact heap_alloc2_new _ _ _);have HQ:Hid (∀wx,Below W.heap.size W wx->wx.cell? ⟨g,0,none⟩=some (.bool n)/\wx.cell? ⟨g,1,none⟩=some v):=Qd (λwx hx=>by
  have hb:=(hx.block g (by omega)).trans hW0;exact⟨(cell_of_row wx g 0 _ _ _ hb).trans rfl,(cell_of_row wx g 1 _ _ _ hb).trans rfl⟩)
 have hrb:∀wx,Below W.heap.size W wx->IsRes wx v l:=λwx hx=>(h.below (by rw[<-hg];exact hWb)).below hx;have NN:=Qd (λ(wx:World) (hx:Below W.heap.size W wx)=>Zi (hrb wx hx) ho hs);have SG:Hid (∀(wx:World) (u:Value),IsRes wx u (Nt.digs (Nt.val l))->Calls Tryz.prog 221 #[.bool n,u] wx (Ph wx (Rt.nrm n (Nt.val l)) (Nt.digs (Nt.val l)))):=Qd (λwx u hu=>by
  have:=Ny n u _ wx hu;rwa[O5] at this)
 have HI2:Hid (∀(b:Bool) (A:Option Addr) (k c:Nat),(Tryz.prog.info? 173).map (·.size)=some (#[.bool b,.slice A k c]:Array Value).size):=Qd (λ_ _ _ _=>Gd);have HW:=Qd hW;have HG:=Qd hg;have hgl:g+1<W.heap.size:=by omega
 obtain⟨A,c,rfl,-⟩:=h;clear hW hW0 hrb hWs;go_enter Tryz.func169,Tryz.ntmps169
 go_wp2_with fail
 rw[<-HW.out,<-hg];clear hg;refine Mo (Pb g n (.slice A l.length c)) W (Daa g n (.slice A l.length c) l) 6 (by kernel_rfl) (by rfl) ?_ (by kernel_rfl) (by kernel_rfl) (λ_=>undef) rfl Br ?_ ?_
 ·intro i w1 w2 v hv hb
  match i with
  | 0=>exact hv
  | 1=>exact hv
  | 2=>exact hv
  | 3=>exact hv
  | 4=>exact hv.below hb
  |i+5=>exact(by obtain⟨u,e,r⟩:=hv;exact⟨u,e,r.below hb⟩)
 ·intro i xs w1 hi hb hdep
  have hi6:i<6:=hi;clear hi;rcases(show i=0\/i=1\/i=2\/i=3\/i=4\/i=5 by omega) with rfl |rfl |rfl |rfl |rfl |rfl
  ·refine Ca rfl rfl ?_
   unfold Pb Oper.wp;go_simp
   exact⟨_,by simp only[Pb,La];simp[Act.put],rfl,Br⟩
  ·have h0:xs 0= .pointer (some ⟨g,0,none⟩):=hdep 0 (by kernel_rfl)
   refine Ca rfl rfl ?_;have q:=(HQ.out w1 hb).1;unfold Pb Oper.wp;simp only[h0];go_simp
   exact⟨_,by simp only[Pb,La];simp[Act.put,h0],rfl,Br⟩
  ·refine Ca rfl rfl ?_
   unfold Pb Oper.wp;go_simp
   exact⟨_,by simp only[Pb,La];simp[Act.put],rfl,Br⟩
  ·have h2:xs 2= .pointer (some ⟨g,1,none⟩):=hdep 2 (by kernel_rfl)
   refine Ca rfl rfl ?_;have q:=(HQ.out w1 hb).2;unfold Pb Oper.wp;simp only[h2];go_simp
   exact⟨_,by simp only[Pb,La];simp[Act.put,h2],rfl,Br⟩
  ·have h3:xs 3=(.slice A l.length c):=hdep 3 (by kernel_rfl)
   refine Ca rfl rfl ?_;unfold Pb Oper.wp;simp only[h3];go_simp
   refine(NN.out w1 hb).mono ?_;rintro e w2 ⟨v',rfl,hr,hb2⟩;exact⟨_,by simp only[Pb,La];simp[Act.put,h3],hr,hb2⟩
  have h1:xs 1= .bool n:=hdep 1 (by kernel_rfl);have r4:IsRes w1 (xs 4) (Nt.digs (Nt.val l)):=hdep 4 (by kernel_rfl);refine Ca rfl rfl ?_;unfold Pb Oper.wp;simp only[h1];go_simp
  refine(SG.out w1 _ r4).mono ?_;rintro e w2 ⟨u,rfl,hr,hb2⟩;exact⟨_,by simp only[Pb,La];simp[Act.put,h1],⟨u,rfl,hr⟩,hb2⟩
 intro xs w1 hb hx;obtain⟨u,h5,r5⟩:∃u,xs 5= .agg #[.bool (Rt.nrm n (Nt.val l)),u]/\IsRes w1 u (Nt.digs (Nt.val l)):=hx 5 (by decide);clear hx;have HR:=Qd r5;obtain⟨A5,c5,rfl,-⟩:=r5;have HG1:=Qd ((hb.block (g+1) (by omega)).trans HW1.out);refine Ca rfl rfl ?_;refine wp_store_row 173 (.tmp 2) (.tmp 8) rfl (g+1) #[.bool (Rt.nrm n (Nt.val l)),.slice A5 (Nt.digs (Nt.val l)).length c5] rfl (by unfold Pb;simp only[h5];rfl) 173 #[.bool false,.slice none 0 0] HG1.out (HI2.out _ _ _ _) rfl (Tb _ _ _ _) ?_;have hbf:=rBelow.setRow (hWb.trans (hb.mono (by omega))) (show g<=g+1 by omega) #[.bool (Rt.nrm n (Nt.val l)),.slice A5 (Nt.digs (Nt.val l)).length c5];unfold Pb;go_wp2_with fail
 refine bodyPost_ret (results_cell_row (by rfl) _ _ (g+1) 173 #[.bool (Rt.nrm n (Nt.val l)),.slice A5 (Nt.digs (Nt.val l)).length c5] (0,0) _ (by rfl) (Ha HG1.out) Tryz.underlying173 rfl (HI2.out _ _ _ _)) rfl ⟨_,rfl,HR.out.setRow HG1.out (Ya _ _ _ _) _,?_⟩;rw[<-HG.out];exact hbf
theorem T8 (n:Bool)(v1 v2:Value)(l1 l2:List Nat)(w:World)(h1:ResL w v1 l1)(h2:ResL w v2 l2):
 Calls Tryz.prog 161 #[.agg #[.bool n,v1,v2]] w (Ek w (Rt.nrm n (Nt.val l1)) (Nt.digs (Nt.val l1))):=by
 have hb0:∀o1 o2,Below w.heap.size w ((w.alloc o1).alloc o2):=λo1 o2=>(Br.alloc Lr _).alloc (by simp) _;have HN:=Qd (λo1 o2=>Sd n v1 _ _ (h1.below (hb0 o1 o2)));have HB:=Qd hb0;obtain⟨⟨A1,c1,rfl,-⟩,-⟩:=h1;obtain⟨⟨A2,c2,rfl,-⟩,-⟩:=h2;clear hb0;generalize Rt.nrm n (Nt.val l1)=n2 at*;generalize Nt.digs (Nt.val l1)=d2 at*;generalize l1.length=k1 at*;generalize l2.length=k2 at*;have HI2:Hid (∀(b:Bool) (A:Option Addr) (k c:Nat),(Tryz.prog.info? 218).map (·.size)=some (#[.bool b,.slice A k c]:Array Value).size):=Qd (λ_ _ _ _=>Ic);go_enter Tryz.func161,Tryz.ntmps161
 go_wp2_with fail
 refine(HN.out _ _).mono ?_;rintro e w2 ⟨v3,rfl,hr2,hb2⟩;have hb3:=(HB.out _ _).trans (hb2.mono (HB.out _ _).size);have HG1:Hid (w2.heap[w.heap.size+1]? =some (.cells #[.bool false,.slice none 0 0] 218 (0,0))):=Qd ((hb2.block (w.heap.size+1) (by simp)).trans (by
  have:=heap_alloc_new (w.alloc (.cells #[.bool n,.slice A1 k1 c1,.slice A2 k2 c2] 85)) (.cells #[.bool false,.slice none 0 0] 218);rwa[show(w.alloc (.cells #[.bool n,.slice A1 k1 c1,.slice A2 k2 c2] 85)).heap.size=w.heap.size+1 by simp] at this))
 have HR2:=Qd (hr2.setRow HG1.out (Ya _ _ _ _) #[.bool n2,v3]);obtain⟨⟨A3,c3,rfl,-⟩,-⟩:=hr2;clear hb2;generalize d2.length=k3 at*;go_wp2_with (first
  |(with_reducible refine wpList_store_row rfl 218 (.tmp 2) (.tmp 8) rfl (w.heap.size+1) #[.bool n2,.slice A3 k3 c3] rfl rfl 218 #[.bool false,.slice none 0 0] HG1.out (HI2.out _ _ _ _) rfl (Tb _ _ _ _) ?_))
 refine bodyPost_ret (results_cell_row (by rfl) _ _ (w.heap.size+1) 218 #[.bool n2,.slice A3 k3 c3] (0,0) _ (by rfl) (Ha HG1.out) Tryz.underlying218 rfl (HI2.out _ _ _ _)) rfl ⟨.slice A3 k3 c3,rfl,HR2.out,rBelow.setRow hb3 (by omega) _⟩
theorem U8 (n:Bool)(v1 v2:Value)(l1 l2:List Nat)(w:World)(h1:ResL w v1 l1)(h2:ResL w v2 l2):
 Calls Tryz.prog 162 #[.agg #[.bool n,v1,v2]] w (Ek w (Rt.nrm false (Nt.val l2)) (Nt.digs (Nt.val l2))):=by
 have hb0:∀o1 o2,Below w.heap.size w ((w.alloc o1).alloc o2):=λo1 o2=>(Br.alloc Lr _).alloc (by simp) _;have HN:=Qd (λo1 o2=>Sd false v2 _ _ (h2.below (hb0 o1 o2)));have HB:=Qd hb0;obtain⟨⟨A1,c1,rfl,-⟩,-⟩:=h1;obtain⟨⟨A2,c2,rfl,-⟩,-⟩:=h2;clear hb0;generalize Rt.nrm false (Nt.val l2)=n2 at*;generalize Nt.digs (Nt.val l2)=d2 at*;generalize l1.length=k1 at*;generalize l2.length=k2 at*;have HI2:Hid (∀(b:Bool) (A:Option Addr) (k c:Nat),(Tryz.prog.info? 218).map (·.size)=some (#[.bool b,.slice A k c]:Array Value).size):=Qd (λ_ _ _ _=>Ic);go_enter Tryz.func162,Tryz.ntmps162
 go_wp2_with fail
 refine(HN.out _ _).mono ?_;rintro e w2 ⟨v3,rfl,hr2,hb2⟩;have hb3:=(HB.out _ _).trans (hb2.mono (HB.out _ _).size);have HG1:Hid (w2.heap[w.heap.size+1]? =some (.cells #[.bool false,.slice none 0 0] 218 (0,0))):=Qd ((hb2.block (w.heap.size+1) (by simp)).trans (by
  have:=heap_alloc_new (w.alloc (.cells #[.bool n,.slice A1 k1 c1,.slice A2 k2 c2] 85)) (.cells #[.bool false,.slice none 0 0] 218);rwa[show(w.alloc (.cells #[.bool n,.slice A1 k1 c1,.slice A2 k2 c2] 85)).heap.size=w.heap.size+1 by simp] at this))
 have HR2:=Qd (hr2.setRow HG1.out (Ya _ _ _ _) #[.bool n2,v3]);obtain⟨⟨A3,c3,rfl,-⟩,-⟩:=hr2;clear hb2;generalize d2.length=k3 at*;go_wp2_with (first
  |(with_reducible refine wpList_store_row rfl 218 (.tmp 2) (.tmp 6) rfl (w.heap.size+1) #[.bool n2,.slice A3 k3 c3] rfl rfl 218 #[.bool false,.slice none 0 0] HG1.out (HI2.out _ _ _ _) rfl (Tb _ _ _ _) ?_))
 refine bodyPost_ret (results_cell_row (by rfl) _ _ (w.heap.size+1) 218 #[.bool n2,.slice A3 k3 c3] (0,0) _ (by rfl) (Ha HG1.out) Tryz.underlying218 rfl (HI2.out _ _ _ _)) rfl ⟨.slice A3 k3 c3,rfl,HR2.out,rBelow.setRow hb3 (by omega) _⟩
structure MI (w:World) (P Q:Array Value) (N1 N2:Bool) (D1 D2:List Nat) (b0 b1 b2 b3 b4 b5 b6 b7:Bool) (x15 x16 x17 x18 x6 x7:Value) (wx:World):Prop where
 below:Below w.heap.size w wx
 v15:b0=true->x15= .agg P
 v16:b1=true->∃v,x16= .agg #[.bool N1,v]/\ResL wx v D1
 v17:b2=true->x17= .agg Q
 v18:b3=true->∃v,x18= .agg #[.bool N2,v]/\ResL wx v D2
 v6:b4=true->∃g n A k c,x6= .pointer (some ⟨g,0,none⟩)/\w.heap.size<=g/\wx.heap[g]? =some (.cells #[.bool n,.slice A k c] 218 (0,0))/\(b6=true->x16= .agg #[.bool n,.slice A k c])
 v7:b5=true->∃g n A k c,x7= .pointer (some ⟨g,0,none⟩)/\w.heap.size<=g/\wx.heap[g]? =some (.cells #[.bool n,.slice A k c] 218 (0,0))/\(b7=true->x18= .agg #[.bool n,.slice A k c])
 o6:b6=true->b4=true/\b1=true
 o7:b7=true->b5=true/\b3=true
 ne:b4=true->b5=true->x6≠x7
def Kh (g:Nat)(P Q:Array Value)(x15 x16 x17 x18 x6 x7:Value):Act:={tmps:= #[.agg P,.agg Q,.pointer (some ⟨g,0,none⟩),.pointer (some ⟨g+1,0,none⟩),.pointer (some ⟨g+1+1,0,none⟩),.int .i64 0,x6,x7,undef,undef,undef,undef,undef,undef,undef,x15,x16,x17,x18,undef,undef,undef,undef,undef,undef,undef,undef,undef,undef,undef,undef,undef,undef,undef,undef,undef,undef,undef,undef,undef,undef,undef,undef,undef,undef,undef,undef,undef,undef,undef,undef,undef,undef,undef,undef,undef,undef,undef,undef,undef,undef,undef,undef,undef,undef,undef,undef],defers:=[]}
def Xca (w:World)(g:Nat)(P Q:Array Value)(N1 N2:Bool)(D1 D2:List Nat)(l:Array Bool)(a:Act)(wx:World):Prop:=
 ∃b0 b1 b2 b3 b4 b5 b6 b7 x15 x16 x17 x18 x6 x7,l= #[b0,b1,b2,b3,b4,b5,b6,b7]/\a=Kh g P Q x15 x16 x17 x18 x6 x7/\MI w P Q N1 N2 D1 D2 b0 b1 b2 b3 b4 b5 b6 b7 x15 x16 x17 x18 x6 x7 wx
theorem Wp {w:World}{g g':Nat}{cs:Array Value}(h:g≠g'):(w.setRow g cs).heap[g']? =w.heap[g']? :=by
 simp only[World.setRow,Array.getElem?_modify];rw[if_neg (by omega)]
theorem Ja {w:World}{g:Nat}{o:Obj}(h:w.heap[g]? =some o):g<w.heap.size:=by
 rcases Nat.lt_or_ge g w.heap.size with hl |hl
 ·exact hl
 rw[Array.getElem?_eq_none hl] at h;cases h
theorem Oy {md:Region.Mode}{ops:Array Oper}{l:Array Bool}{i:Nat}(h:i<ops.size)(h1:l.getD i true=false)(h2:((ops[i]?).map (·.after.all λe=> !Region.binds md e||l.getD e.on false)).getD false=true):i∈Region.ready md ops l:=by
 simp only[Region.ready,List.mem_filter,List.mem_range,Bool.and_eq_true,Bool.not_eq_true'];exact⟨h,h1,h2⟩
theorem Pa {md:Region.Mode}{ops:Array Oper}{l:Array Bool}(hr:Region.ready md ops l=[])(i:Nat)(h:i<ops.size)(h2:((ops[i]?).map (·.after.all λe=> !Region.binds md e||l.getD e.on false)).getD false=true):l.getD i true=true:=by
 cases e:l.getD i true
 ·have:=Oy h e h2
  rw[hr] at this;cases this
 rfl
theorem Ib {P:Program}{fn:Func}{p u:Tmp}{ty:TypeId}(h:fn.results= #[.cell p ty,.tmp u])(tmps:Array Value)(w:World)(g:Nat)(t:TypeId)(cs:Array Value)(fr:Nat×Nat)(d:TypeDesc)(x:Value)
 (hp:tmps.getD p undef= .pointer (some ⟨g,0,none⟩)) (hx:tmps.getD u undef=x) (hg:w.heap[g]? =some (.cells cs t fr))
 (hu:P.underlying ty=some d) (hd:(match d with | .struct _ | .array _ _=>true |_=>false)=true) (hi:(P.info? ty).map (·.size)=some cs.size):
 (results fn tmps).run P w= .ok (.tuple #[.agg cs,x]) w:=by
 have hp':tmps[p]?.getD undef= .pointer (some ⟨g,0,none⟩):=by simpa using hp
 have hx':tmps[u]?.getD undef=x:=by simpa using hx
 simp[results,h,hp',hx',asAddr,run_loadVar_row w g t ty cs fr d hg hu hd hi]
theorem Za {fn:Func}{p u:Tmp}{a:Act}{g:Nat}{old:Array Value}{b:Bool}{A A':Option Addr}{k c k' c':Nat}{x:Value}{R:Ending->World->Prop}{w:World}(h:fn.results= #[.cell p 85,.tmp u])(hp:a.tmps.getD p undef= .pointer (some ⟨g,0,none⟩))(hx:a.tmps.getD u undef=x)(hd:a.defers=[])
 (hg:w.heap[g]? =some (.cells old 85 (0,0))) (hR:R (.returned (.tuple #[.agg #[.bool b,.slice A k c,.slice A' k' c'],x])) (w.setRow g #[.bool b,.slice A k c,.slice A' k' c'])):bodyPost Tryz.prog fn R .ret a (w.setRow g #[.bool b,.slice A k c,.slice A' k' c']):=
 bodyPost_ret (Ib h _ _ g _ _ (0,0) _ _ hp hx (Ha hg) Tryz.underlying85 rfl (Sm _ _ _)) hd hR
theorem Ea (w:World):IsRes w (.slice none 0 0) []:=⟨none,0,rfl,Lr,by omega,λ_=>rfl,.inl rfl⟩
def MakeOut (w:World)(r:Rt.Nm×Int)(e:Ending)(w':World):Prop:=∃t u,e= .returned (.tuple #[.agg #[.bool r.1.neg,t,u],.int .i64 r.2])/\IsRes w' t r.1.top/\IsRes w' u r.1.bot/\Below w.heap.size w w'
theorem MakeOut.of {w w':World}{r:Rt.Nm×Int}{e:Ending}{b:Bool}{t u:Value}{l l':List Nat}{er:Int}(hr:r=(⟨b,l,l'⟩,er))(he:e= .returned (.tuple #[.agg #[.bool b,t,u],.int .i64 er]))(h1:IsRes w' t l)(h2:IsRes w' u l')(h3:Below w.heap.size w w'):MakeOut w r e w':=by
 subst hr;exact⟨t,u,he,h1,h2,h3⟩
theorem Rs (n1 n2:Bool)(v1 v2:Value)(l1 l2:List Nat)(w:World)(h1:ResL w v1 l1)(h2:ResL w v2 l2):
 Calls Tryz.prog 160 #[.agg #[.bool n1,v1],.agg #[.bool n2,v2]] w (MakeOut w (Rt.mk n1 n2 (Nt.val l1) (Nt.val l2))):=by
 obtain⟨W,hW⟩:∃W,W=((w.alloc (.cells #[.bool n1,v1] 218)).alloc (.cells #[.bool n2,v2] 218)).alloc (.cells #[.bool false,.slice none 0 0,.slice none 0 0] 85):=⟨_,rfl⟩;have hWs:W.heap.size=w.heap.size+1+1+1:=by rw[hW];simp
 have hWb:Below w.heap.size w W:=by rw[hW];exact((Br.alloc Lr _).alloc (by simp) _).alloc (by simp;omega) _
 have hW0:W.heap[w.heap.size]? =some (.cells #[.bool n1,v1] 218 (0,0)):=by rw[hW];exact(Below.heap_alloc _ _ _ (by simp;omega)).trans (heap_alloc2_old _ _ _)
 have hW1:W.heap[w.heap.size+1]? =some (.cells #[.bool n2,v2] 218 (0,0)):=by rw[hW];exact(Below.heap_alloc _ _ _ (by simp)).trans (heap_alloc2_new _ _ _)
 have hW2:W.heap[w.heap.size+1+1]? =some (.cells #[.bool false,.slice none 0 0,.slice none 0 0] 85 (0,0)):=by
  rw[hW];have:=heap_alloc_new ((w.alloc (.cells #[.bool n1,v1] 218)).alloc (.cells #[.bool n2,v2] 218)) (.cells #[.bool false,.slice none 0 0,.slice none 0 0] 85);rwa[show((w.alloc (.cells #[.bool n1,v1] 218)).alloc (.cells #[.bool n2,v2] 218)).heap.size=w.heap.size+1+1 by simp] at this
 have HN1:=Qd (λ(wx:World) (hx:Below W.heap.size W wx)=>Sd n1 v1 _ wx ((h1.below hWb).below hx));have HN2:=Qd (λ(wx:World) (hx:Below W.heap.size W wx)=>Sd n2 v2 _ wx ((h2.below hWb).below hx));have HW:=Qd hW;have HW0:=Qd hW0;have HW1:=Qd hW1;have HW2:=Qd hW2;rw[<-Rt.mk_nrm];obtain⟨⟨A1,c1,rfl,-⟩,-⟩:=h1;obtain⟨⟨A2,c2,rfl,-⟩,-⟩:=h2;generalize Rt.nrm n1 (Nt.val l1)=N1 at*;generalize Rt.nrm n2 (Nt.val l2)=N2 at*;generalize Nt.val l1=X at*;generalize Nt.val l2=Y at*;generalize l1.length=z1 at*;generalize l2.length=z2 at*;clear hW hW0 hW1 hW2;go_enter Tryz.func160,Tryz.ntmps160
 go_wp2_with fail
 rw[<-HW.out];have hWl:w.heap.size+1+1<W.heap.size:=by omega
 have HWS:=Qd hWs;clear hWs;refine wp_region_any (by kernel_rfl) ?_;refine Xe (Xca W w.heap.size #[.bool n1,.slice A1 z1 c1] #[.bool n2,.slice A2 z2 c2] N1 N2 (Nt.digs X) (Nt.digs Y)) ?_ ?_ 8 _ _ _ (by decide) ⟨false,false,false,false,false,false,false,false,undef,undef,undef,undef,undef,undef,rfl,rfl,⟨⟨rfl,rfl,rfl,Lr,λ_ _=>rfl⟩,nofun,nofun,nofun,nofun,nofun,nofun,nofun,nofun,nofun⟩⟩
 ·rintro _ _ wx ⟨b0,b1,b2,b3,b4,b5,b6,b7,x15,x16,x17,x18,x6,x7,rfl,rfl,hJ⟩ i hi
  obtain⟨h8,hl,ha⟩:=Wc hi;have h8':i<8:=h8;clear h8 hi;have hsz:=hJ.below.size;rcases(show i=0\/i=1\/i=2\/i=3\/i=4\/i=5\/i=6\/i=7 by omega) with rfl |rfl |rfl |rfl |rfl |rfl |rfl |rfl
  ·refine Ca rfl rfl ?_
   refine wp_load_row 218 (.tmp 2) rfl w.heap.size rfl 218 #[.bool n1,.slice A1 z1 c1] (0,0) _ ((hJ.below.block w.heap.size (by omega)).trans HW0.out) Tryz.underlying218 rfl Ic ?_;exact⟨true,b1,b2,b3,b4,b5,b6,b7,_,x16,x17,x18,x6,x7,rfl,rfl,{hJ with v15:=λ_=>rfl}⟩
  ·have h0:b0=true:=by simpa [Region.binds] using ha
   subst h0;have hb1:b1=false:=hl;subst hb1;have hb6:b6=false:=by
    cases b6
    ·rfl
    exact absurd (hJ.o6 rfl).2 (by decide)
   subst hb6;obtain rfl:=hJ.v15 rfl;refine Ca rfl rfl ?_;unfold Kh Oper.wp;go_simp
   refine((HN1.out _ hJ.below).mono ?_);rintro e w2 ⟨v3,rfl,hr3,hb2⟩;exact⟨true,true,b2,b3,b4,b5,false,b7,_,_,x17,x18,x6,x7,rfl,rfl,{hJ with
    below:=hJ.below.trans (hb2.mono hsz)
    v16:=λ_=>⟨v3,rfl,hr3⟩
    v18:=λh=>by obtain⟨v,e,r⟩:=hJ.v18 h;exact⟨v,e,r.below hb2⟩
    v6:=λh=>by obtain⟨g,n,A,k,c,q1,q2,q3,q4⟩:=hJ.v6 h;exact⟨g,n,A,k,c,q1,q2,(hb2.block g (Ja q3)).trans q3,nofun⟩
    v7:=λh=>by obtain⟨g,n,A,k,c,q1,q2,q3,q4⟩:=hJ.v7 h;exact⟨g,n,A,k,c,q1,q2,(hb2.block g (Ja q3)).trans q3,q4⟩
    o6:=nofun}⟩
  ·refine Ca rfl rfl ?_
   refine wp_load_row 218 (.tmp 3) rfl (w.heap.size+1) rfl 218 #[.bool n2,.slice A2 z2 c2] (0,0) _ ((hJ.below.block (w.heap.size+1) (by omega)).trans HW1.out) Tryz.underlying218 rfl Ic ?_;exact⟨b0,b1,true,b3,b4,b5,b6,b7,x15,x16,_,x18,x6,x7,rfl,rfl,{hJ with v17:=λ_=>rfl}⟩
  ·have h0:b2=true/\b1=true:=by simpa [Region.binds] using ha
   obtain⟨rfl,rfl⟩:=h0;have hb3:b3=false:=hl;subst hb3;have hb7:b7=false:=by
    cases b7
    ·rfl
    exact absurd (hJ.o7 rfl).2 (by decide)
   subst hb7;obtain rfl:=hJ.v17 rfl;refine Ca rfl rfl ?_;unfold Kh Oper.wp;go_simp
   refine((HN2.out _ hJ.below).mono ?_);rintro e w2 ⟨v3,rfl,hr3,hb2⟩;exact⟨b0,true,true,true,b4,b5,b6,false,x15,x16,_,_,x6,x7,rfl,rfl,{hJ with
    below:=hJ.below.trans (hb2.mono hsz)
    v18:=λ_=>⟨v3,rfl,hr3⟩
    v16:=λh=>by obtain⟨v,e,r⟩:=hJ.v16 h;exact⟨v,e,r.below hb2⟩
    v6:=λh=>by obtain⟨g,n,A,k,c,q1,q2,q3,q4⟩:=hJ.v6 h;exact⟨g,n,A,k,c,q1,q2,(hb2.block g (Ja q3)).trans q3,q4⟩
    v7:=λh=>by obtain⟨g,n,A,k,c,q1,q2,q3,q4⟩:=hJ.v7 h;exact⟨g,n,A,k,c,q1,q2,(hb2.block g (Ja q3)).trans q3,nofun⟩
    o7:=nofun}⟩
  ·have hb4:b4=false:=hl
   subst hb4;have hb6:b6=false:=by
    cases b6
    ·rfl
    exact absurd (hJ.o6 rfl).1 (by decide)
   subst hb6;refine Ca rfl rfl ?_;unfold Kh Oper.wp;go_simp
   have hba:Below wx.heap.size wx (wx.alloc (.cells #[.bool false,.slice none 0 0] 218)):=Br.alloc Lr _;exact⟨b0,b1,b2,b3,true,b5,false,b7,x15,x16,x17,x18,_,x7,rfl,rfl,{hJ with
    below:=hJ.below.alloc hsz _
    v16:=λh=>by obtain⟨v,e,r⟩:=hJ.v16 h;exact⟨v,e,r.below hba⟩
    v18:=λh=>by obtain⟨v,e,r⟩:=hJ.v18 h;exact⟨v,e,r.below hba⟩
    v6:=λ_=>⟨wx.heap.size,false,none,0,0,rfl,hsz,heap_alloc_new _ _,nofun⟩
    v7:=λh=>by obtain⟨g,n,A,k,c,q1,q2,q3,q4⟩:=hJ.v7 h;exact⟨g,n,A,k,c,q1,q2,(hba.block g (Ja q3)).trans q3,q4⟩
    o6:=nofun
    ne:=λ_ h=>by
     obtain⟨g,n,A,k,c,q1,q2,q3,q4⟩:=hJ.v7 h;have:=Ja q3;rw[q1];intro e;injection e with e;injection e with e;injection e with e;omega}⟩
  ·have hb5:b5=false:=hl
   subst hb5;have hb7:b7=false:=by
    cases b7
    ·rfl
    exact absurd (hJ.o7 rfl).1 (by decide)
   subst hb7;refine Ca rfl rfl ?_;unfold Kh Oper.wp;go_simp
   have hba:Below wx.heap.size wx (wx.alloc (.cells #[.bool false,.slice none 0 0] 218)):=Br.alloc Lr _;exact⟨b0,b1,b2,b3,b4,true,b6,false,x15,x16,x17,x18,x6,_,rfl,rfl,{hJ with
    below:=hJ.below.alloc hsz _
    v16:=λh=>by obtain⟨v,e,r⟩:=hJ.v16 h;exact⟨v,e,r.below hba⟩
    v18:=λh=>by obtain⟨v,e,r⟩:=hJ.v18 h;exact⟨v,e,r.below hba⟩
    v7:=λ_=>⟨wx.heap.size,false,none,0,0,rfl,hsz,heap_alloc_new _ _,nofun⟩
    v6:=λh=>by obtain⟨g,n,A,k,c,q1,q2,q3,q4⟩:=hJ.v6 h;exact⟨g,n,A,k,c,q1,q2,(hba.block g (Ja q3)).trans q3,q4⟩
    o7:=nofun
    ne:=λh _=>by
     obtain⟨g,n,A,k,c,q1,q2,q3,q4⟩:=hJ.v6 h;have:=Ja q3;rw[q1];intro e;injection e with e;injection e with e;injection e with e;omega}⟩
  ·have h0:b4=true/\b1=true/\b3=true/\b0=true/\b1=true/\b4=true/\b5=true:=by simpa [Region.binds] using ha
   obtain⟨rfl,rfl,rfl,rfl,-,-,rfl⟩:=h0;have hb6:b6=false:=hl;subst hb6;obtain⟨g,n,A,k,c,rfl,q2,q3,q4⟩:=hJ.v6 rfl;obtain⟨g',n',A',k',c',rfl,q2',q3',q4'⟩:=hJ.v7 rfl;have hne:g≠g':=λe=>hJ.ne rfl rfl (by rw[e]);obtain⟨v,rfl,hr⟩:=hJ.v16 rfl;obtain⟨v',rfl,hr'⟩:=hJ.v18 rfl;have hrs:=hr.setRow q3 (Ya _ _ _ _) #[.bool N1,v];have hrs':=hr'.setRow q3 (Ya _ _ _ _) #[.bool N1,v];obtain⟨⟨A3,c3,rfl,-⟩,-⟩:=hr;refine Ca rfl rfl ?_;refine wp_store_row 218 (.tmp 6) (.tmp 16) rfl g #[.bool N1,.slice A3 (Nt.digs X).length c3] rfl rfl 218 _ q3 Ic rfl (Tb _ _ _ _) ?_;exact⟨true,true,b2,true,true,true,true,b7,x15,_,x17,_,_,_,rfl,rfl,{hJ with
    below:=rBelow.setRow hJ.below q2 _
    v16:=λ_=>⟨_,rfl,hrs⟩
    v18:=λ_=>⟨v',rfl,hrs'⟩
    v6:=λ_=>⟨g,_,_,_,_,rfl,q2,Ha q3,λ_=>rfl⟩
    v7:=λ_=>⟨g',n',A',k',c',rfl,q2',(Wp hne).trans q3',q4'⟩
    o6:=λ_=>⟨rfl,rfl⟩}⟩
  have h0:b5=true/\b3=true/\b6=true/\b0=true/\b1=true/\b2=true/\b3=true/\b4=true/\b5=true/\b6=true:=by simpa [Region.binds] using ha
  obtain⟨rfl,rfl,rfl,rfl,rfl,rfl,-,rfl,-,-⟩:=h0;have hb7:b7=false:=hl;subst hb7;obtain⟨g,n,A,k,c,rfl,q2,q3,q4⟩:=hJ.v6 rfl;obtain⟨g',n',A',k',c',rfl,q2',q3',q4'⟩:=hJ.v7 rfl;have hne:g'≠g:=λe=>hJ.ne rfl rfl (by rw[e]);obtain⟨v,rfl,hr⟩:=hJ.v16 rfl;obtain⟨v',rfl,hr'⟩:=hJ.v18 rfl;have hrs:=hr.setRow q3' (Ya _ _ _ _) #[.bool N2,v'];have hrs':=hr'.setRow q3' (Ya _ _ _ _) #[.bool N2,v'];obtain⟨⟨A3,c3,rfl,-⟩,-⟩:=hr';refine Ca rfl rfl ?_;refine wp_store_row 218 (.tmp 7) (.tmp 18) rfl g' #[.bool N2,.slice A3 (Nt.digs Y).length c3] rfl rfl 218 _ q3' Ic rfl (Tb _ _ _ _) ?_;exact⟨true,true,true,true,true,true,true,true,x15,_,x17,_,_,_,rfl,rfl,{hJ with
   below:=rBelow.setRow hJ.below q2' _
   v16:=λ_=>⟨v,rfl,hrs⟩
   v18:=λ_=>⟨_,rfl,hrs'⟩
   v7:=λ_=>⟨g',_,_,_,_,rfl,q2',Ha q3',λ_=>rfl⟩
   v6:=λ_=>⟨g,n,A,k,c,rfl,q2,(Wp hne).trans q3,q4⟩
   o7:=λ_=>⟨rfl,rfl⟩}⟩
 rintro _ _ wx ⟨b0,b1,b2,b3,b4,b5,b6,b7,x15,x16,x17,x18,x6,x7,rfl,rfl,hJ⟩ hr;have e0:b0=true:=Pa hr 0 (by decide) (by simp[Region.binds]);subst e0;have e1:b1=true:=Pa hr 1 (by decide) (by simp[Region.binds]);subst e1;have e2:b2=true:=Pa hr 2 (by decide) (by simp[Region.binds]);subst e2;have e3:b3=true:=Pa hr 3 (by decide) (by simp[Region.binds]);subst e3;have e4:b4=true:=Pa hr 4 (by decide) (by simp[Region.binds]);subst e4;have e5:b5=true:=Pa hr 5 (by decide) (by simp[Region.binds]);subst e5;have e6:b6=true:=Pa hr 6 (by decide) (by simp[Region.binds]);subst e6;have e7:b7=true:=Pa hr 7 (by decide) (by simp[Region.binds]);subst e7;clear hr;obtain⟨g,n,A,k,c,rfl,q2,q3,q4⟩:=hJ.v6 rfl;obtain⟨g',n',A',k',c',rfl,q2',q3',q4'⟩:=hJ.v7 rfl;have hne:g≠g':=λe=>hJ.ne rfl rfl (by rw[e]);obtain⟨v,rfl,hr1⟩:=hJ.v16 rfl;obtain⟨v',rfl,hr2⟩:=hJ.v18 rfl;have e:=q4 rfl;simp at e;obtain⟨e,rfl⟩:=e;subst e;have e:=q4' rfl;simp at e;obtain⟨e,rfl⟩:=e;subst e;have hxb:=hJ.below;have hxs:=hxb.size;have p0:wx.cell? ⟨g,0,none⟩=some (.bool N1):=(cell_of_row wx g 0 _ _ _ q3).trans rfl;have p1:wx.cell? ⟨g,1,none⟩=some (.slice A k c):=(cell_of_row wx g 1 _ _ _ q3).trans rfl;have p0':wx.cell? ⟨g',0,none⟩=some (.bool N2):=(cell_of_row wx g' 0 _ _ _ q3').trans rfl;have p1':wx.cell? ⟨g',1,none⟩=some (.slice A' k' c'):=(cell_of_row wx g' 1 _ _ _ q3').trans rfl;have hgl:=Ja q3;have hgl':=Ja q3';have HR1:=Qd hr1;have HR2:=Qd hr2;clear hJ hr1 hr2 q3 q3' q4 q4' HN1 HN2;obtain⟨hd1,o1,s1⟩:=HR1.out;obtain⟨hd2,o2,s2⟩:=HR2.out;have f1:k=(Nt.digs X).length:=by obtain⟨_,_,e,_⟩:=hd1;injection e
 have f2:k'=(Nt.digs Y).length:=by obtain⟨_,_,e,_⟩:=hd2;injection e
 have s1':k<=64:=by omega
 have s2':k'<=64:=by omega
 have HD1:=Qd hd1;have HD2:=Qd hd2;have HY0:Hid (k'=0↔Y=0):=Qd (by rw[f2,List.length_eq_zero_iff,Nt.digs_nil_iff]);have HF:=Qd (And.intro f1 f2);clear f1 f2 hd1 hd2;unfold Kh;have hxw:Below w.heap.size w wx:=hWb.trans (hxb.mono (by omega));have HGA:=Qd ((hxb.block (w.heap.size+1+1) (by omega)).trans HW2.out);by_cases hk0:k'=0
 ·have hz:((k':Int)==0)=true:=by rw[hk0];rfl
  have HK0:=Qd (HY0.out.1 hk0);clear hk0;go_wp2_with (first
   |(with_reducible refine Vb rfl (.tmp 4) (.tmp 23) rfl (w.heap.size+1+1) rfl rfl HGA.out ?_))
  refine Za (by rfl) (by rfl) (by rfl) rfl HGA.out (MakeOut.of (by unfold Rt.mk;rw[if_pos HK0.out];rfl) rfl (Ea _) (Ea _) (rBelow.setRow hxw (by omega) _))
 have hz:((k':Int)==0)=false:=beq_eq_false_iff_ne.2 (by omega);have HY1:Hid (Y≠0):=Qd (λh=>hk0 (HY0.out.2 h));have hgl64:=Nt.gcd_len o1 o2 s1 s2;have GC:=Qd (Qs (.slice A k c) (.slice A' k' c') (Nt.digs X) (Nt.digs Y) wx HD1.out HD2.out o1 o2 s1 s2);have HOG:=Qd (Nt.ok_digs (Nat.gcd (Nt.val (Nt.digs X)) (Nt.val (Nt.digs Y))));have HGV:Hid (Nt.val (Nt.digs (Nat.gcd (Nt.val (Nt.digs X)) (Nt.val (Nt.digs Y))))=Nat.gcd X Y):=Qd (by rw[Nt.val_digs,Nt.val_digs,Nt.val_digs]);generalize Nt.digs (Nat.gcd (Nt.val (Nt.digs X)) (Nt.val (Nt.digs Y)))=gd at*;clear hk0;go_wp2_with fail
 refine GC.out.mono ?_;rintro e w3 ⟨v3,rfl,hr3,hb3⟩;have r0:w3.cell? ⟨g,0,none⟩=some (.bool N1):=(hb3.cell (p:=⟨g,0,none⟩) hgl).trans p0;have r1:w3.cell? ⟨g,1,none⟩=some (.slice A k c):=(hb3.cell (p:=⟨g,1,none⟩) hgl).trans p1;have r0':w3.cell? ⟨g',0,none⟩=some (.bool N2):=(hb3.cell (p:=⟨g',0,none⟩) hgl').trans p0';have r1':w3.cell? ⟨g',1,none⟩=some (.slice A' k' c'):=(hb3.cell (p:=⟨g',1,none⟩) hgl').trans p1';have DM:=Qd (Wg (w0:=w3) (HD1.out.below hb3) hr3 o1 HOG.out (by omega) (by omega) Br);clear p0 p1 p0' p1' GC;go_wp2_with fail
 refine DM.out.mono ?_;rintro e w4 ⟨u1,u2,rfl,t1,t2,hb4,-⟩;have hs3:=hb3.size;have r0:w4.cell? ⟨g,0,none⟩=some (.bool N1):=(hb4.cell (p:=⟨g,0,none⟩) (show g<_ by omega)).trans r0;have r0':w4.cell? ⟨g',0,none⟩=some (.bool N2):=(hb4.cell (p:=⟨g',0,none⟩) (show g'<_ by omega)).trans r0';have r1':w4.cell? ⟨g',1,none⟩=some (.slice A' k' c'):=(hb4.cell (p:=⟨g',1,none⟩) (show g'<_ by omega)).trans r1';have DN:=Qd (Wg (w0:=w4) ((HD2.out.below hb3).below hb4) (hr3.below hb4) o2 HOG.out (by omega) (by omega) Br);clear DM;go_wp2_with fail
 refine DN.out.mono ?_;rintro e w5 ⟨u3,u4,rfl,t3,t4,hb5,-⟩;have hs4:=hb4.size;have hs5:=hb5.size;have r0:w5.cell? ⟨g,0,none⟩=some (.bool N1):=(hb5.cell (p:=⟨g,0,none⟩) (show g<_ by omega)).trans r0;have r0':w5.cell? ⟨g',0,none⟩=some (.bool N2):=(hb5.cell (p:=⟨g',0,none⟩) (show g'<_ by omega)).trans r0';have HGB:=Qd ((hb5.block (w.heap.size+1+1) (by omega)).trans ((hb4.block (w.heap.size+1+1) (by omega)).trans ((hb3.block (w.heap.size+1+1) (by omega)).trans HGA.out)));have hbw:Below w.heap.size w w5:=((hxw.trans (hb3.mono (by omega))).trans (hb4.mono (by omega))).trans (hb5.mono (by omega));have HT1:=Qd (t1.below hb5);have HT3:=Qd t3;clear t1 t2 t3 t4 hr3 DN;obtain⟨e1,he1⟩:∃e1,e1=Nt.digs (Nt.quo (Nt.val (Nt.digs X)) (Nt.val gd)):=⟨_,rfl⟩;obtain⟨e2,he2⟩:∃e2,e2=Nt.digs (Nt.quo (Nt.val (Nt.digs Y)) (Nt.val gd)):=⟨_,rfl⟩;rw[<-he1] at HT1;rw[<-he2] at HT3;rw[HGV.out,Nt.val_digs] at he1 he2;have HE1:Hid (e1=Nt.digs (X/Nat.gcd X Y)):=Qd he1;have HE2:Hid (e2=Nt.digs (Y/Nat.gcd X Y)):=Qd he2;have HX0:Hid (e1.length=0↔X=0):=Qd (by rw[he1,List.length_eq_zero_iff,Nt.digs_nil_iff];exact Rt.div_gcd_zero HY1.out);clear he1 he2;obtain⟨B1,a1,rfl,y1,y2,-⟩:=HT1.out;obtain⟨B2,a2,rfl,y3,y4,-⟩:=HT3.out;by_cases h32:32<e1.length
 ·have g1:decide ((32:Int)<(e1.length:Int))=true:=by simp;omega
  go_wp2_with (first
   |(with_reducible refine Vb rfl (.tmp 4) (.tmp 53) rfl (w.heap.size+1+1) rfl rfl HGB.out ?_))
  refine Za (by rfl) (by rfl) (by rfl) rfl HGB.out (MakeOut.of (by unfold Rt.mk;rw[if_neg HY1.out,<-HE1.out,<-HE2.out,if_pos (by omega)];rfl) rfl (Ea _) (Ea _) (rBelow.setRow hbw (by omega) _))
 by_cases h33:32<e2.length
 ·have g1:decide ((32:Int)<(e1.length:Int))=false:=by simp;omega
  have g2:decide ((32:Int)<(e2.length:Int))=true:=by simp;omega
  go_wp2_with (first
   |(with_reducible refine Vb rfl (.tmp 4) (.tmp 53) rfl (w.heap.size+1+1) rfl rfl HGB.out ?_))
  refine Za (by rfl) (by rfl) (by rfl) rfl HGB.out (MakeOut.of (by unfold Rt.mk;rw[if_neg HY1.out,<-HE1.out,<-HE2.out,if_pos (by omega)];rfl) rfl (Ea _) (Ea _) (rBelow.setRow hbw (by omega) _))
 have g1:decide ((32:Int)<(e1.length:Int))=false:=by simp;omega
 have g2:decide ((32:Int)<(e2.length:Int))=false:=by simp;omega
 by_cases h34:0<e1.length
 ·have g3:decide ((0:Int)<(e1.length:Int))=true:=decide_eq_true (by omega)
  have HXB:Hid ((X==0)=false):=Qd (by have:=HX0.out;simp;omega);cases N1;all_goals
   cases N2;all_goals
    skip
    go_wp2_with (first
     |(with_reducible refine Vb rfl (.tmp 4) (.tmp 66) rfl (w.heap.size+1+1) rfl rfl HGB.out ?_))
    refine Za (by rfl) (by rfl) (by rfl) rfl HGB.out (MakeOut.of (by unfold Rt.mk;rw[if_neg HY1.out,<-HE1.out,<-HE2.out,if_neg (by omega),HXB.out];rfl) rfl (HT1.out.setRow HGB.out (Da _ _ _ _ _ _ _) _) (HT3.out.setRow HGB.out (Da _ _ _ _ _ _ _) _) (rBelow.setRow hbw (by omega) _))
 have g3:decide ((0:Int)<(e1.length:Int))=false:=decide_eq_false (by omega);have HXB:Hid ((X==0)=true):=Qd (by have:=HX0.out;simp;omega);go_wp2_with (first
  |(with_reducible refine Vb rfl (.tmp 4) (.tmp 66) rfl (w.heap.size+1+1) rfl rfl HGB.out ?_))
 refine Za (by rfl) (by rfl) (by rfl) rfl HGB.out (MakeOut.of (by unfold Rt.mk;rw[if_neg HY1.out,<-HE1.out,<-HE2.out,if_neg (by omega),HXB.out];rfl) rfl (HT1.out.setRow HGB.out (Da _ _ _ _ _ _ _) _) (HT3.out.setRow HGB.out (Da _ _ _ _ _ _ _) _) (rBelow.setRow hbw (by omega) _))
theorem Tm {r x:Nat}(hr:r<4294967296)(hx:x<4294967296):bits BinOp.or IntKind.u64 ((r:Int)*4294967296) (x:Int)=((r*4294967296+x:Nat):Int):=by
 have h:=u64_or_nat (r*4294967296) x (by omega) (by omega);rw[nat_join 32 (r*4294967296) x (by omega) (by omega)] at h;rw[<-h,Int.natCast_mul];rfl
theorem Vk (g c d:Nat)(l:List Nat)(rest:List Value)(w:World)(hblk:Blk w g 186 (U l++rest))(ho:Nt.Ok l)(hd:0<d)(hd2:d<4294967296)(hm:l.length<=9223372036854775807):
 Calls Tryz.prog 164 #[.slice (some ⟨g,0,none⟩) l.length c,.int .u32 (d:Int)] w λe w'=>∃cur:List Nat,e= .returned (.int .u32 ((Nt.val l%d:Nat):Int))/\Blk w' g 186 (U cur++rest)/\Hid (cur.length=l.length/\Nt.Ok cur/\Nt.val cur=Nt.val l/d)/\w.grownBy w' (some g):=by
 have HO:=Qd ho;have hd1:(1:Int)<=(d:Int):=by omega
 clear ho;go_enter Tryz.func164,Tryz.ntmps164
 go_wp2_with fail
 go_loopw [5,6] (λrv i wr=>∃(k r:Nat) (cur:List Nat),k<=l.length/\r<d/\i= .int .i64 ((k:Int)-1)/\rv= .int .u64 (r:Int)/\Blk wr g 186 (U cur++rest)/\w.grownBy wr (some g)/\Hid (Nt.ShortAt l d cur k r)) (λ_ i _=>(intOf i+1).toNat)
 case atStart=>exact⟨l.length,0,l,Lr,hd,by go_num,rfl,hblk,World.grownBy.refl _ _,Qd (Nt.short_start HO.out hd)⟩
 case round=>
  clear hblk;obtain⟨k,r,cur,hk,hr,rfl,rfl,hblk,hgr,H⟩:=hrel;rcases k with _ |k
  ·have HE:=Qd (Nt.short_end H.out)
   have hrd:r<4294967296:=by omega
   go_wp2_with fail
   go_ret;refine⟨cur,Wa (by rw[<-HE.out.2]),hblk,Qd ⟨H.out.1,H.out.2.1,HE.out.1⟩,hgr⟩
  have hk1:((k+1:Nat):Int)-1=(k:Int):=by omega
  rw[hk1];clear hk1;have hkl:k<l.length:=by omega
  have hcl:cur.length=l.length:=H.out.1;have hget:=Nt.short_get H.out hkl;have hcell:wr.cell? ⟨g,k,none⟩=some (.int .u32 ((l[k]:Nat):Int)):=hblk.cell (by
   rw[List.getElem?_append_left (by rw[Dc];omega),U,List.getElem?_map,hget];rfl)
  have hfz:=hblk.frozen k;have hxb:=Nt.ok_get HO.out hkl;have ST:=Qd (Nt.short_step H.out hkl HO.out hd2);have BD:=Nt.short_bounds hr hd2 hxb;have BS:Hid (∀s:Nat,Blk (wr.setCell ⟨g,k,none⟩ (.int .u32 (s:Int))) g 186 (U (cur.set k s)++rest)):=Qd (λs=>by
   have:=hblk.set_ k (.int .u32 (s:Int));rw[List.set_append_left _ _ (by rw[Dc];omega),show(U cur).set k (.int .u32 (s:Int))=U (cur.set k s) from List.map_set.symm] at this;exact this)
  generalize l[k]=x at hcell hxb ST BD;have hj:=Tm (r:=r) (by omega) hxb;generalize ht:r*4294967296+x=t at ST BD hj;have hq:(t:Int)/(d:Int)=((t/d:Nat):Int):=(Int.natCast_ediv t d).symm;have hr2:(t:Int)%(d:Int)=((t%d:Nat):Int):=(Int.natCast_emod t d).symm;obtain⟨hq1,ht1,hr1⟩:=BD;generalize t/d=q at*;generalize t%d=r' at*;clear ht hblk hcl hget;have hrl:r<4294967296:=by omega
  have HR2:=Qd hr2;go_wp2_with fail
  refine⟨⟨k,r',cur.set k q,by omega,hr1,by go_num,congrArg (Value.int .u64) HR2.out,BS.out q,We hgr _ _,Qd ST.out⟩,?_⟩
  first|(simp[intOf];done) |(simp[intOf];omega)
end Go.Proofs.YtogjgbmngagimaaGreatDoor
namespace Nt
structure Est (R D p v1 v2 u0 u1 u2:Nat):Prop where
 d:∃r,r<p/\D=(v1*4294967296+v2)*p+r
 r:∃s,s<p/\R=((u0*4294967296+u1)*4294967296+u2)*p+s
 v1lo:2147483648<=v1
 v1hi:v1<4294967296
 v2hi:v2<4294967296
 u1hi:u1<4294967296
 u2hi:u2<4294967296
 lt:R<4294967296*D
theorem Est.ppos {R D p v1 v2 u0 u1 u2:Nat}(h:Est R D p v1 v2 u0 u1 u2):0<p:=by
 obtain⟨r,hr,_⟩:=h.d;omega
theorem Est.dpos {R D p v1 v2 u0 u1 u2:Nat}(h:Est R D p v1 v2 u0 u1 u2):0<D:=by
 have:=h.lt;omega
theorem Ff {a b p:Nat}(h:a*p<b*p):a<b:=Nat.lt_of_mul_lt_mul_right h
theorem Est.u0 {R D p v1 v2 u0 u1 u2:Nat}(h:Est R D p v1 v2 u0 u1 u2):u0*4294967296+u1<=v1*4294967296+4294967295:=by
 obtain⟨r,hr,hD⟩:=h.d;obtain⟨s,hs,hR⟩:=h.r;have h1:=h.lt;have h2:((u0*4294967296+u1)*4294967296+u2)*p<(4294967296*(v1*4294967296+v2)+4294967296)*p:=by
  have:(4294967296*(v1*4294967296+v2)+4294967296)*p=4294967296*((v1*4294967296+v2)*p)+4294967296*p:=by grind
  omega
 have h3:=Ff h2;have:=h.v2hi;omega
theorem Est.q {R D p v1 v2 u0 u1 u2:Nat}(h:Est R D p v1 v2 u0 u1 u2):R/D<4294967296:=by
 rw[Nat.div_lt_iff_lt_mul h.dpos];exact h.lt
theorem Est.first {R D p v1 v2 u0 u1 u2:Nat}(h:Est R D p v1 v2 u0 u1 u2):R/D<=(u0*4294967296+u1)/v1:=by
 obtain⟨r,hr,hD⟩:=h.d;obtain⟨s,hs,hR⟩:=h.r;have hv:=h.v1lo;rw[Nat.le_div_iff_mul_le (by omega)];have h1:R/D*D<=R:=Nat.div_mul_le_self _ _;generalize R/D=q at*;have hu2:=h.u2hi;have h2:q*v1*(4294967296*p)<(u0*4294967296+u1+1)*(4294967296*p):=by
  have e1:q*v1*(4294967296*p)<=q*D:=by
   have:q*D=q*v1*(4294967296*p)+q*(v2*p+r):=by rw[hD];grind
   omega
  have e2:(u0*4294967296+u1+1)*(4294967296*p)=(u0*4294967296+u1)*4294967296*p+4294967296*p:=by grind
  have e3:((u0*4294967296+u1)*4294967296+u2)*p=(u0*4294967296+u1)*4294967296*p+u2*p:=by grind
  have e4:u2*p+p<=4294967296*p:=by
   have:(u2+1)*p<=4294967296*p:=Nat.mul_le_mul_right _ hu2;rw[Nat.succ_mul] at this;exact this
  omega
 have:=Ff h2;omega
theorem Est.less {R D p v1 v2 u0 u1 u2 g t:Nat}(h:Est R D p v1 v2 u0 u1 u2)(hg:g*v1+t=u0*4294967296+u1)(hge:R/D<=g)(htest:4294967296<=g\/t*4294967296+u2<g*v2):R/D+1<=g:=by
 rcases htest with h1 |h1
 ·have:=h.q;omega
 rcases Nat.lt_or_ge (R/D) g with h2 |h2
 ·exact h2
 exfalso
 have e:R/D=g:=by omega
 obtain⟨r,hr,hD⟩:=h.d;obtain⟨s,hs,hR⟩:=h.r;have h3:g*D<=R:=by rw[<-e];exact Nat.div_mul_le_self _ _
 have h4:g*(v1*4294967296+v2)*p<((u0*4294967296+u1)*4294967296+u2+1)*p:=by
  have e1:g*D=g*(v1*4294967296+v2)*p+g*r:=by rw[hD];grind
  have e2:((u0*4294967296+u1)*4294967296+u2+1)*p=((u0*4294967296+u1)*4294967296+u2)*p+p:=Nat.succ_mul _ _;omega
 have h5:=Ff h4;have e3:g*(v1*4294967296+v2)=(g*v1)*4294967296+g*v2:=by grind
 omega
theorem Est.near {R D p v1 v2 u0 u1 u2 g t:Nat}(h:Est R D p v1 v2 u0 u1 u2)(hg:g*v1+t=u0*4294967296+u1)(hlt:g<4294967296)(htest:g*v2<=t*4294967296+u2):g<=R/D+1:=by
 obtain⟨r,hr,hD⟩:=h.d;obtain⟨s,hs,hR⟩:=h.r;have hv:=h.v1lo;have h1:g*(v1*4294967296+v2)*p<=R:=by
  have e3:g*(v1*4294967296+v2)=(g*v1)*4294967296+g*v2:=by grind
  have h2:g*(v1*4294967296+v2)<=(u0*4294967296+u1)*4294967296+u2:=by omega
  have:=Nat.mul_le_mul_right p h2;omega
 have h2:g*r<=4294967295*p:=Nat.mul_le_mul (by omega) (by omega);have h3:4294967295*p<D:=by
  have:4294967296*p<=(v1*4294967296+v2)*p:=Nat.mul_le_mul_right _ (by omega);have hp:=h.ppos;omega
 have e1:g*D=g*(v1*4294967296+v2)*p+g*r:=by rw[hD];grind
 have h4:g*D<R+D:=by omega
 rcases Nat.eq_zero_or_pos g with h0 |h0
 ·rw[h0];exact Nat.zero_le _
 have h5:(g-1)*D<=R:=by
  have:g*D=(g-1)*D+D:=by
   obtain⟨m,rfl⟩:∃m,g=m+1:=⟨g-1,by omega⟩;rw[Nat.add_sub_cancel,Nat.succ_mul]
  omega
 have:=(Nat.le_div_iff_mul_le h.dpos).2 h5;omega
def TakeAt (a d:List Nat)(g:Nat)(cur:List Nat)(k cy b:Nat):Prop:=
 cur.length=a.length/\Ok cur/\val (cur.take k)+g*val (d.take k)=val (a.take k)+(cy+b)*4294967296^k/\cur.drop k=a.drop k
theorem take_start {a d:List Nat}{g:Nat}(h:Ok a):TakeAt a d g a 0 0 0:=⟨rfl,h,by simp[val],rfl⟩
theorem take_get {a d cur:List Nat}{g k cy b:Nat}(h:TakeAt a d g cur k cy b)(hk:k<a.length):cur[k]? =some a[k]:=by
 have:(cur.drop k)[0]? =(a.drop k)[0]? :=by rw[h.2.2.2]
 rw[List.getElem?_drop,List.getElem?_drop,Nat.add_zero,List.getElem?_eq_getElem hk] at this;exact this
theorem take_step {a d cur:List Nat}{g k cy b s cy' b' t:Nat}(h:TakeAt a d g cur k cy b)(hk:k<a.length)(hd:k<d.length)(hs:s<4294967296)(e1:g*d[k]+cy=t+4294967296*cy')(e2:a[k]+4294967296*b'=s+t+b):TakeAt a d g (cur.set k s) (k+1) cy' b':=by
 obtain⟨h1,h2,h3,h4⟩:=h;refine⟨by simpa using h1,Ed h2 hs,?_,?_⟩
 ·rw[Od (by omega),val_take_succ hk,val_take_succ hd,Nat.pow_succ]
  generalize 4294967296^k=p at*;generalize a[k]=x at*;generalize d[k]=y at*;generalize val (cur.take k)=V at*;generalize val (d.take k)=D at*
  grind
 rw[drop_set];have:=congrArg (List.drop 1) h4;rw[List.drop_drop,List.drop_drop] at this;exact this
theorem take_end {a d cur:List Nat}{g cy b s b':Nat}(h:TakeAt a d g cur d.length cy b)(hl:a.length=d.length+1)(hs:s<4294967296)(e2:a[d.length]+4294967296*b'=s+cy+b):
 (cur.set d.length s).length=a.length/\Ok (cur.set d.length s)/\val (cur.set d.length s)+g*val d=val a+b'*4294967296^(d.length+1):=by
 obtain⟨h1,h2,h3,h4⟩:=h;refine⟨by simpa using h1,Ed h2 hs,?_⟩;have hc:d.length<cur.length:=by omega
 have e:(cur.set d.length s).take (d.length+1)=cur.set d.length s:=List.take_of_length_le (by rw[List.length_set];omega);have f:a.take (d.length+1)=a:=List.take_of_length_le (by omega);have k1:=Od (x:=s) hc;rw[e] at k1;have k2:=val_take_succ (l:=a) (i:=d.length) (by omega);rw[f] at k2;rw[List.take_length] at h3;rw[k1,k2,Nat.pow_succ];generalize 4294967296^d.length=p at*;generalize a[d.length]=x at*;generalize val (cur.take d.length)=V at*
 grind
end Nt
namespace Nt
def PutAt (a d cur:List Nat)(k c:Nat):Prop:=
 cur.length=a.length/\Ok cur/\val (cur.take k)+c*4294967296^k=val (a.take k)+val (d.take k)/\cur.drop k=a.drop k
theorem put_start {a d:List Nat}(h:Ok a):PutAt a d a 0 0:=⟨rfl,h,by simp[val],rfl⟩
theorem put_get {a d cur:List Nat}{k c:Nat}(h:PutAt a d cur k c)(hk:k<a.length):cur[k]? =some a[k]:=by
 have:(cur.drop k)[0]? =(a.drop k)[0]? :=by rw[h.2.2.2]
 rw[List.getElem?_drop,List.getElem?_drop,Nat.add_zero,List.getElem?_eq_getElem hk] at this;exact this
theorem put_step {a d cur:List Nat}{k c s c':Nat}(h:PutAt a d cur k c)(hk:k<a.length)(hd:k<d.length)(hs:s<4294967296)(e:a[k]+d[k]+c=s+4294967296*c'):PutAt a d (cur.set k s) (k+1) c':=by
 obtain⟨h1,h2,h3,h4⟩:=h;refine⟨by simpa using h1,Ed h2 hs,?_,?_⟩
 ·rw[Od (by omega),val_take_succ hk,val_take_succ hd,Nat.pow_succ]
  generalize 4294967296^k=p at*;generalize a[k]=x at*;generalize d[k]=y at*;generalize val (cur.take k)=V at*;generalize val (d.take k)=D at*
  grind
 rw[drop_set];have:=congrArg (List.drop 1) h4;rw[List.drop_drop,List.drop_drop] at this;exact this
theorem put_end {a d cur:List Nat}{c s c':Nat}(h:PutAt a d cur d.length c)(hl:a.length=d.length+1)(hs:s<4294967296)(e:a[d.length]+c=s+4294967296*c'):
 (cur.set d.length s).length=a.length/\Ok (cur.set d.length s)/\val (cur.set d.length s)+c'*4294967296^(d.length+1)=val a+val d:=by
 obtain⟨h1,h2,h3,h4⟩:=h;refine⟨by simpa using h1,Ed h2 hs,?_⟩;have hc:d.length<cur.length:=by omega
 have e1:(cur.set d.length s).take (d.length+1)=cur.set d.length s:=List.take_of_length_le (by rw[List.length_set];omega);have f:a.take (d.length+1)=a:=List.take_of_length_le (by omega);have k1:=Od (x:=s) hc;rw[e1] at k1;have k2:=val_take_succ (l:=a) (i:=d.length) (by omega);rw[f] at k2;rw[List.take_length] at h3;rw[k1,k2,Nat.pow_succ];generalize 4294967296^d.length=p at*;generalize a[d.length]=x at*;generalize val (cur.take d.length)=V at*
 grind
def UpAt (l:List Nat)(s:Nat)(cur:List Nat)(k c:Nat):Prop:=
 cur.length=l.length+1/\Ok cur/\c<2^s/\val (cur.take k)+c*4294967296^k=val (l.take k)*2^s
theorem up_start (l:List Nat)(s:Nat):UpAt l s (List.replicate (l.length+1) 0) 0 0:=
 ⟨by simp,λd hd=>by rw[List.mem_replicate] at hd;omega,Nat.two_pow_pos s,by simp[val]⟩
theorem up_carry {x s c:Nat}(hx:x<4294967296)(hc:c<2^s):(x*2^s+c)/4294967296<2^s:=by
 rw[Nat.div_lt_iff_lt_mul (by omega)];have:(x+1)*2^s<=4294967296*2^s:=Nat.mul_le_mul_right _ hx;rw[Nat.succ_mul] at this;rw[Nat.mul_comm (2^s)];omega
theorem up_step {l cur:List Nat}{s k c:Nat}(hl:Ok l)(h:UpAt l s cur k c)(hk:k<l.length):UpAt l s (cur.set k ((l[k]*2^s+c)%4294967296)) (k+1) ((l[k]*2^s+c)/4294967296):=by
 obtain⟨h1,h2,h3,h4⟩:=h;have hx:=ok_get hl hk;refine⟨by simpa using h1,Ed h2 (Nat.mod_lt _ (by omega)),up_carry hx h3,?_⟩;rw[Od (by omega),val_take_succ hk,Nat.pow_succ];have e:=Nat.mod_add_div (l[k]*2^s+c) 4294967296;generalize(l[k]*2^s+c)%4294967296=m at*;generalize(l[k]*2^s+c)/4294967296=t at*;generalize 4294967296^k=p at*;generalize l[k]=x at*;generalize val (cur.take k)=V at*;generalize 2^s=q at*
 grind
theorem up_end {l cur:List Nat}{s c:Nat}(hs:s<=32)(h:UpAt l s cur l.length c):Ok (cur.set l.length c)/\(cur.set l.length c).length=l.length+1/\val (cur.set l.length c)=val l*2^s:=by
 obtain⟨h1,h2,h3,h4⟩:=h;have hp:2^s<=2^32:=Nat.pow_le_pow_right (by omega) hs;refine⟨Ed h2 (by omega),by simpa using h1,?_⟩;have e1:(cur.set l.length c).take (l.length+1)=cur.set l.length c:=List.take_of_length_le (by rw[List.length_set];omega);have k1:=Od (x:=c) (show l.length<cur.length by omega);rw[e1] at k1;rw[List.take_length] at h4;rw[k1,<-h4,Nat.mul_comm]
def DownAt (l:List Nat)(s:Nat)(cur:List Nat)(k ab:Nat):Prop:=
 cur.length=l.length/\Ok cur/\ab<4294967296/\ab=val (l.drop k)%4294967296/\val (cur.drop k)=val (l.drop k)/2^s
theorem down_start (l:List Nat)(s:Nat):DownAt l s (List.replicate l.length 0) l.length 0:=
 ⟨by simp,λd hd=>by rw[List.mem_replicate] at hd;omega,by omega,by simp[val],by simp[val]⟩
theorem N0 {x V s p:Nat}(hx:x<4294967296)(hs:4294967296=2^s*p):(x+4294967296*V)/2^s=(V%4294967296*4294967296+x)/2^s%4294967296+4294967296*(V/2^s):=by
 have hq:=Nat.two_pow_pos s;generalize 2^s=q at*;have e1:=Nat.div_add_mod V q;have r1:=Nat.mod_lt V hq;generalize V/q=Q at*;generalize V%q=R at*;have e2:=Nat.div_add_mod V 4294967296;generalize V/4294967296=m at*;generalize V%4294967296=a at*;have hb:(x+4294967296*R)/q<4294967296:=by
  rw[Nat.div_lt_iff_lt_mul hq];have:(R+1)*4294967296<=q*4294967296:=Nat.mul_le_mul_right _ r1;rw[Nat.succ_mul] at this;rw[Nat.mul_comm 4294967296 q];omega
 have h1:(x+4294967296*V)/q=(x+4294967296*R)/q+4294967296*Q:=by
  rw[<-e1,show x+4294967296*(q*Q+R)=x+4294967296*R+q*(4294967296*Q) by grind,Nat.add_mul_div_left _ _ hq]
 have h2:(a*4294967296+x)/q+4294967296*(p*m)=(x+4294967296*R)/q+4294967296*Q:=by
  rw[<-h1,<-e2,show x+4294967296*(4294967296*m+a)=a*4294967296+x+4294967296*4294967296*m by grind];have:4294967296*4294967296*m=q*(4294967296*(p*m)):=by
   rw[Nat.mul_left_comm q,<-Nat.mul_assoc q,<-hs,Nat.mul_assoc]
  rw[this,Nat.add_mul_div_left _ _ hq]
 rw[h1];have h3:(a*4294967296+x)/q%4294967296=(x+4294967296*R)/q:=by
  generalize(a*4294967296+x)/q=u at*;generalize(x+4294967296*R)/q=v at*;generalize p*m=t at*;omega
 rw[h3]
theorem Xa {l:List Nat}{k:Nat}(h:k<l.length):val (l.drop k)=l[k]+4294967296*val (l.drop (k+1)):=by
 rw[List.drop_eq_getElem_cons h,val]
theorem down_step {l cur:List Nat}{s k ab:Nat}(hl:Ok l)(hs:s<=32)(h:DownAt l s cur (k+1) ab)(hk:k<l.length):DownAt l s (cur.set k ((ab*4294967296+l[k])/2^s%4294967296)) k l[k]:=by
 obtain⟨h1,h2,h3,h4,h5⟩:=h;have hx:=ok_get hl hk;refine⟨by simpa using h1,Ed h2 (Nat.mod_lt _ (by omega)),hx,?_,?_⟩
 ·rw[Xa hk];omega
 have hk':k<(cur.set k ((ab*4294967296+l[k])/2^s%4294967296)).length:=by rw[List.length_set];omega
 rw[Xa hk,Xa hk',List.getElem_set_self,drop_set,h5,h4];refine(N0 (p:=2^(32-s)) hx ?_).symm;rw[<-Nat.pow_add,show s+(32-s)=32 by omega]
theorem down_end {l cur:List Nat}{s ab:Nat}(h:DownAt l s cur 0 ab):val cur=val l/2^s:=by
 have:=h.2.2.2.2
 simpa using this
structure LongAt (X D n:Nat) (cur quo:List Nat) (k:Nat):Prop where
 ok:Ok cur
 okq:Ok quo
 len:cur.length=quo.length+n
 sum:val cur+D*val (quo.drop k)*4294967296^k=X
 lt:val (cur.drop k)<D
 hi:D<4294967296^n
theorem LongAt.window {X D n k:Nat}{cur quo:List Nat}(h:LongAt X D n cur quo (k+1))(hk:k<quo.length):
 ((cur.drop k).take (n+1)).length=n+1/\Ok ((cur.drop k).take (n+1))/\val ((cur.drop k).take (n+1))<4294967296*D/\val ((cur.drop k).take (n+1))=val (cur.drop k)/\
 cur=cur.take k++((cur.drop k).take (n+1)++cur.drop (k+(n+1)))/\(cur.take k).length=k:=by
 have hl:=h.len;have h1:val (cur.drop k)<4294967296*D:=by
  have hkc:k<cur.length:=by omega
  rw[Xa hkc];have:=ok_get h.ok hkc;have:=h.lt;omega
 have h2:val (cur.drop k)=val ((cur.drop k).take (n+1))+4294967296^(n+1)*val ((cur.drop k).drop (n+1)):=Ub _ _ (by rw[List.length_drop];omega);have h3:val ((cur.drop k).drop (n+1))=0:=by
  rcases Nat.eq_zero_or_pos (val ((cur.drop k).drop (n+1))) with h0 |h0
  ·exact h0
  exfalso
  have:4294967296^(n+1)*1<=4294967296^(n+1)*val ((cur.drop k).drop (n+1)):=Nat.mul_le_mul_left _ h0;have hh:=h.hi;rw[Nat.pow_succ] at this h2;generalize 4294967296^n=p at*;omega
 rw[h3,Nat.mul_zero,Nat.add_zero] at h2;refine⟨by rw[List.length_take,List.length_drop];omega,ok_take (Ex h.ok _) _,by omega,h2.symm,?_,by rw[List.length_take];omega⟩;rw[<-List.drop_drop,List.take_append_drop,List.take_append_drop]
theorem LongAt.step {X D n k q:Nat}{cur quo win:List Nat}(h:LongAt X D n cur quo (k+1))(hk:k<quo.length)(hwl:win.length=n+1)(hwo:Ok win)
 (hq:q<4294967296) (hlt:val win<D) (hv:val win+q*D=val ((cur.drop k).take (n+1))):LongAt X D n (cur.take k++(win++cur.drop (k+(n+1)))) (quo.set k q) k:=by
 obtain⟨w1,w2,w3,w4,w5,w6⟩:=h.window hk;have hl:=h.len;have hz:val (cur.drop (k+(n+1)))=0:=by
  have h2:val (cur.drop k)=val ((cur.drop k).take (n+1))+4294967296^(n+1)*val ((cur.drop k).drop (n+1)):=Ub _ _ (by rw[List.length_drop];omega);rw[List.drop_drop,w4] at h2;have h0:4294967296^(n+1)*val (cur.drop (k+(n+1)))=0:=by omega
  rcases Nat.mul_eq_zero.1 h0 with h0 |h0
  ·have:=Nat.pow_pos (a:=4294967296) (n:=n+1) (by omega);omega
  exact h0
 have hdrop:(cur.take k++(win++cur.drop (k+(n+1)))).drop k=win++cur.drop (k+(n+1)):=by
  rw[List.drop_append_of_le_length (by omega),List.drop_of_length_le (by omega),List.nil_append]
 refine⟨?_,Ed h.okq hq,?_,?_,?_,h.hi⟩
 ·intro d hd
  rw[List.mem_append,List.mem_append] at hd;rcases hd with hd |hd |hd
  ·exact ok_take h.ok _ d hd
  ·exact hwo d hd
  exact Ex h.ok _ d hd
 ·rw[List.length_append,List.length_append,List.length_set,List.length_drop];omega
 ·have hs:=h.sum
  have e1:val cur=val (cur.take k)+4294967296^k*val (cur.drop k):=Ub _ _ (by omega);rw[Xa (l:=quo.set k q) (by rw[List.length_set];exact hk),List.getElem_set_self,drop_set,Db,Db,hz,w6];rw[e1,<-w4,<-hv,Nat.pow_succ] at hs;generalize 4294967296^k=p at*;generalize val (quo.drop (k+1))=Q at*;generalize val win=W at*;generalize val (cur.take k)=V at*;rw[Nat.mul_zero,Nat.add_zero];clear h w1 w2 w3 w4 w5 hz hdrop e1
  grind
 rw[hdrop,Db,hz];omega
theorem LongAt.start {x y n s:Nat}{cur:List Nat}{m:Nat}(ok:Ok cur)(hv:val cur=x*2^s)(hl:cur.length=m+1)(hn:n<=m)(hn1:1<=n)(hx:x<4294967296^m)(hy:4294967296^(n-1)<=y)(hD:y*2^s<4294967296^n):
 LongAt (x*2^s) (y*2^s) n cur (List.replicate (m-n+1) 0) (m-n+1):=by
 refine⟨ok,λd hd=>by rw[List.mem_replicate] at hd;omega,by simp;omega,?_,?_,hD⟩
 ·rw[List.drop_of_length_le (by simp),val,Nat.mul_zero,Nat.zero_mul,hv];rfl
 have h2:val cur=val (cur.take (m-n+1))+4294967296^(m-n+1)*val (cur.drop (m-n+1)):=Ub _ _ (by omega);have h3:x*2^s<y*2^s*4294967296^(m-n+1):=by
  have e:4294967296^m=4294967296^(n-1)*4294967296^(m-n+1):=by rw[<-Nat.pow_add,show n-1+(m-n+1)=m by omega]
  have k1:4294967296^(n-1)*4294967296^(m-n+1)<=y*4294967296^(m-n+1):=Nat.mul_le_mul_right _ hy;have k2:x<y*4294967296^(m-n+1):=by omega
  have:=Nat.mul_lt_mul_of_pos_right k2 (Nat.two_pow_pos s)
  grind
 have h4:4294967296^(m-n+1)*val (cur.drop (m-n+1))<4294967296^(m-n+1)*(y*2^s):=by
  rw[Nat.mul_comm _ (y*2^s)];omega
 exact Nat.lt_of_mul_lt_mul_left h4
theorem LongAt.done {x y n s:Nat}{cur quo:List Nat}(h:LongAt (x*2^s) (y*2^s) n cur quo 0)(hy:0<y):
 val quo=x/y/\val (cur.take n)/2^s=x%y:=by
 have h1:=h.sum;have h2:=h.lt;rw[List.drop_zero] at h1 h2;rw[Nat.pow_zero,Nat.mul_one] at h1;have hp:=Nat.two_pow_pos s;have hD:0<y*2^s:=Nat.mul_pos hy hp;have hq:val quo=x/y:=by
  rw[<-Nat.mul_div_mul_right x y hp,<-h1,Nat.add_mul_div_left _ _ hD,Nat.div_eq_of_lt h2,Nat.zero_add]
 have hr:val cur=x%y*2^s:=by
  rw[<-Nat.mul_mod_mul_right,<-h1,Nat.add_mul_mod_self_left,Nat.mod_eq_of_lt h2]
 have ht:val (cur.take n)=val cur:=by
  have h3:val cur=val (cur.take n)+4294967296^n*val (cur.drop n):=Ub _ _ (by have:=h.len;omega);rcases Nat.eq_zero_or_pos (val (cur.drop n)) with h0 |h0
  ·rw[h0,Nat.mul_zero,Nat.add_zero] at h3;exact h3.symm
  exfalso
  have:4294967296^n*1<=4294967296^n*val (cur.drop n):=Nat.mul_le_mul_left _ h0;have:=h.hi;omega
 refine⟨hq,?_⟩;rw[ht,hr,Nat.mul_div_cancel _ hp]
theorem round_ok {R D g b V p:Nat}(hg:R/D<=g)(hg2:g<=R/D+1)(hD:0<D)(hR:R<p)(hV:V<p)(e:V+g*D=R+b*p)(hb:b<=1)(hDp:D<p):
 (b=0->g=R/D/\V<D/\V+g*D=R)/\(b=1->g=R/D+1/\∀W e',W<p->W+e'*p=V+D->W<D/\W+(g-1)*D=R):=by
 have h1:=Nat.div_add_mod R D;have h2:=Nat.mod_lt R hD;rw[Nat.mul_comm] at h1;have hcase:g=R/D\/g=R/D+1:=by omega
 generalize R/D=q at*;generalize R%D=r at*;rcases hcase with rfl |rfl
 ·have hb0:b=0:=by
   rcases Nat.eq_zero_or_pos b with h |h
   ·exact h
   have:b=1:=by omega
   subst this;omega
  subst hb0;refine⟨λ_=>⟨rfl,by omega,by omega⟩,λh=>by omega⟩
 rw[Nat.succ_mul] at e;refine⟨λh=>by subst h;omega,λh=>?_⟩;subst h;refine⟨rfl,λW e' hW he=>?_⟩;rw[Nat.add_sub_cancel];have:e'=1:=by
  rcases Nat.lt_or_ge e' 1 with h |h
  ·have:e'=0:=by omega
   subst this;omega
  rcases Nat.lt_or_ge e' 2 with h' |h'
  ·omega
  exfalso
  have:2*p<=e'*p:=Nat.mul_le_mul_right _ h';omega
 subst this;omega
end Nt
namespace Go.Proofs.YtogjgbmngagimaaGreatDoor
open Go.RowKit
theorem Blk.mid {w:World}{g:Nat}{t:TypeId}{pre post:List Value}{l:List Nat}(h:Blk w g t (pre++(U l++post))){k x:Nat}(hk:l[k]? =some x):w.cell? ⟨g,pre.length+k,none⟩=some (.int .u32 (x:Int)):=by
 apply h.cell
 have hkl:k<l.length:=by
  rcases Nat.lt_or_ge k l.length with h |h
  ·exact h
  rw[List.getElem?_eq_none h] at hk;cases hk
 rw[List.getElem?_append_right (by omega),Nat.add_sub_cancel_left,List.getElem?_append_left (by rw[Dc];omega),U,List.getElem?_map,hk];rfl
theorem Blk.mid_set {w:World}{g:Nat}{t:TypeId}{pre post:List Value}{l:List Nat}(h:Blk w g t (pre++(U l++post))){k:Nat}(hk:k<l.length)(x:Nat):Blk (w.setCell ⟨g,pre.length+k,none⟩ (.int .u32 (x:Int))) g t (pre++(U (l.set k x)++post)):=by
 have:=h.set_ (pre.length+k) (.int .u32 (x:Int));rw[List.set_append_right _ _ (by omega),Nat.add_sub_cancel_left,List.set_append_left _ _ (by rw[Dc];omega),show(U l).set k (.int .u32 (x:Int))=U (l.set k x) from List.map_set.symm] at this;exact this
theorem Lv (G c c' T:Nat)(A':Option Addr)(pre post:List Value)(a d:List Nat)(w:World)(hblk:Blk w G 186 (pre++(U a++post)))(hy:Lies w G A' (U d))(ha:Nt.Ok a)(hd:Nt.Ok d)(hl:a.length=d.length+1)(hc:d.length+1<=c)(hc':d.length<=c')(hm:c<=9223372036854775807)(hm':c'<=9223372036854775807)(hT:T<4294967296)(hs:d.length<=1000000):
 Calls Tryz.prog 322 #[.slice (some ⟨G,pre.length,none⟩) (d.length+1) c,.slice A' d.length c',.int .u64 (T:Int)] w λe w'=>∃(cur:List Nat) (b:Nat),e= .returned (.bool (decide (b=1)))/\b<=1/\Blk w' G 186 (pre++(U cur++post))/\Hid (cur.length=a.length/\Nt.Ok cur/\Nt.val cur+T*Nt.val d=Nt.val a+b*4294967296^(d.length+1))/\w.grownBy w' (some G):=by
 have HL:=Qd hl;have OA:=Qd ha;have OD:=Qd hd;have LY:=Qd hy;have HG:=hblk.lt;clear ha hd hy hl;have BM:=Qd (λ(wr:World) (l:List Nat) (h:Blk wr G 186 (pre++(U l++post))) (k x:Nat) (hk:l[k]? =some x)=>h.mid hk);have BS:=Qd (λ(wr:World) (l:List Nat) (h:Blk wr G 186 (pre++(U l++post))) (k:Nat) (hk:k<l.length) (x:Nat)=>h.mid_set hk x);generalize pre.length=j at*;go_enter Tryz.func322,Tryz.ntmps322
 go_wp2_with fail
 go_loopw [7,8,15] (λcv bv i wr=>∃(k cy b:Nat) (cur:List Nat),k<=d.length/\cy<4294967296/\b<=1/\i= .int .i64 (k:Int)/\cv= .int .u64 (cy:Int)/\bv= .int .u32 (b:Int)/\Blk wr G 186 (pre++(U cur++post))/\w.grownBy wr (some G)/\Hid (Nt.TakeAt a d T cur k cy b)) (λ_ _ i _=>d.length-(intOf i).toNat)
 case atStart=>exact⟨0,0,0,a,Nat.zero_le _,by omega,by omega,rfl,rfl,rfl,hblk,World.grownBy.refl _ _,Qd (Nt.take_start OA.out)⟩
 case round=>
  clear hblk;obtain⟨k,cy,b,cur,hk,hcy,hb1,rfl,rfl,rfl,hblk,hgr,H⟩:=hrel;have hsz:=hblk.lt;by_cases hlt:k<d.length
  ·have hka:k<a.length:=by rw[HL.out];omega
   obtain⟨b2,off2,rfl,hb2,hc2⟩:=(LY.out.grown (Nat.le_of_lt HG) hgr (λg e=>by injection e with e;omega)).limb hlt;have hyb:=Nt.ok_get OD.out hlt;have hxb:=Nt.ok_get OA.out hka;have hcell:=BM.out _ _ hblk k _ (Nt.take_get H.out hka);have hfz:=hblk.frozen (j+k);have BSK:=Qd (BS.out _ _ hblk k (by rw[H.out.1];exact hka));have ST:=Qd (λs cy' b' t=>Nt.take_step (s:=s) (cy':=cy') (b':=b') (t:=t) H.out hka hlt);have hmb:=Nt.mul_bound hT hyb;generalize d[k]=y at*;generalize a[k]=x at*;obtain⟨p,hp⟩:∃p:Nat,p=T*y:=⟨_,rfl⟩;have hpi:(T:Int)*(y:Int)=(p:Int):=by rw[hp,Int.natCast_mul]
   have hpl:p<=18446744065119617025:=by rw[hp];exact hmb
   have HPN:=Qd hp;clear hp hmb hblk hka;have em:((p:Int)+(cy:Int))%4294967296=(((p+cy)%4294967296:Nat):Int):=by omega
   have hsub:=Qd (λw=>Rp x ((p+cy)%4294967296) b w hxb (by omega) hb1);rw[<-em] at hsub;clear em;go_wp2_with (go_at_call 340;refine(hsub.out _).mono ?_;rintro e w' ⟨s,b',rfl,hs,hd1,HE,rfl⟩)
   go_roundw
   case rel=>exact⟨k+1,(p+cy)/4294967296,b',cur.set k s,by omega,by omega,hd1,by go_num,congrArg (Value.int .u64) (by omega),rfl,BSK.out s,We hgr _ _,Qd (ST.out s _ b' ((p+cy)%4294967296) hs (by rw[<-HPN.out];omega) (by have:=HE.out;omega))⟩
   case measure=>simp[intOf];omega
  obtain rfl:k=d.length:=by omega
  have hka:d.length<a.length:=by rw[HL.out];omega
  have hxb:=Nt.ok_get OA.out hka;have hcell:=BM.out _ _ hblk _ _ (Nt.take_get H.out hka);have hfz:=hblk.frozen (j+d.length);have BSK:=Qd (BS.out _ _ hblk d.length (by rw[H.out.1];exact hka));have EN:=Qd (λs b'=>Nt.take_end (s:=s) (b':=b') H.out HL.out);generalize hx:a[d.length]=x at hxb hcell;have HX:=Qd hx;clear hblk hx;have hsub:=Qd (λw=>Rp x cy b w hxb hcy hb1);go_wp2_with (go_at_call 340;refine(hsub.out _).mono ?_;rintro e w' ⟨s,b',rfl,hs,hd1,HE,rfl⟩)
  go_ret;refine⟨cur.set d.length s,b',Aa ?_,hd1,BSK.out s,Qd (EN.out s b' hs (by rw[HX.out];exact HE.out)),We hgr _ _⟩;rcases(show b'=0\/b'=1 by omega) with rfl |rfl<;>rfl
theorem Mv (G c c':Nat)(A':Option Addr)(pre post:List Value)(a d:List Nat)(w:World)(hblk:Blk w G 186 (pre++(U a++post)))(hy:Lies w G A' (U d))(ha:Nt.Ok a)(hd:Nt.Ok d)(hl:a.length=d.length+1)(hc:d.length+1<=c)(hc':d.length<=c')(hm:c<=9223372036854775807)(hm':c'<=9223372036854775807)(hs:d.length<=1000000):
 Calls Tryz.prog 323 #[.slice (some ⟨G,pre.length,none⟩) (d.length+1) c,.slice A' d.length c'] w λe w'=>∃(cur:List Nat) (b:Nat),e= .returned (.tuple #[])/\Blk w' G 186 (pre++(U cur++post))/\Hid (cur.length=a.length/\Nt.Ok cur/\Nt.val cur+b*4294967296^(d.length+1)=Nt.val a+Nt.val d)/\w.grownBy w' (some G):=by
 have HL:=Qd hl;have OA:=Qd ha;have OD:=Qd hd;have LY:=Qd hy;have HG:=hblk.lt;clear ha hd hy hl;have BM:=Qd (λ(wr:World) (l:List Nat) (h:Blk wr G 186 (pre++(U l++post))) (k x:Nat) (hk:l[k]? =some x)=>h.mid hk);have BS:=Qd (λ(wr:World) (l:List Nat) (h:Blk wr G 186 (pre++(U l++post))) (k:Nat) (hk:k<l.length) (x:Nat)=>h.mid_set hk x);generalize pre.length=j at*;go_enter Tryz.func323,Tryz.ntmps323
 go_wp2_with fail
 go_loopw [4,9] (λbv i wr=>∃(k b:Nat) (cur:List Nat),k<=d.length/\b<=1/\i= .int .i64 (k:Int)/\bv= .int .u32 (b:Int)/\Blk wr G 186 (pre++(U cur++post))/\w.grownBy wr (some G)/\Hid (Nt.PutAt a d cur k b)) (λ_ i _=>d.length-(intOf i).toNat)
 case atStart=>exact⟨0,0,a,Nat.zero_le _,by omega,rfl,rfl,hblk,World.grownBy.refl _ _,Qd (Nt.put_start OA.out)⟩
 case round=>
  clear hblk;obtain⟨k,b,cur,hk,hb1,rfl,rfl,hblk,hgr,H⟩:=hrel;have hsz:=hblk.lt;by_cases hlt:k<d.length
  ·have hka:k<a.length:=by rw[HL.out];omega
   obtain⟨b2,off2,rfl,hb2,hc2⟩:=(LY.out.grown (Nat.le_of_lt HG) hgr (λg e=>by injection e with e;omega)).limb hlt;have hyb:=Nt.ok_get OD.out hlt;have hxb:=Nt.ok_get OA.out hka;have hcell:=BM.out _ _ hblk k _ (Nt.put_get H.out hka);have hfz:=hblk.frozen (j+k);have BSK:=Qd (BS.out _ _ hblk k (by rw[H.out.1];exact hka));have ST:=Qd (λs c'=>Nt.put_step (s:=s) (c':=c') H.out hka hlt);generalize d[k]=y at*;generalize a[k]=x at*;clear hblk hka;have hadd:=Qd (λw=>G0 x y b w hxb hyb hb1);go_wp2_with (go_at_call 341;refine(hadd.out _).mono ?_;rintro e w' ⟨s,b',rfl,hs,hd1,HE,rfl⟩)
   go_roundw
   case rel=>exact⟨k+1,b',cur.set k s,by omega,hd1,by go_num,rfl,BSK.out s,We hgr _ _,Qd (ST.out s b' hs HE.out)⟩
   case measure=>simp[intOf];omega
  obtain rfl:k=d.length:=by omega
  have hka:d.length<a.length:=by rw[HL.out];omega
  have hxb:=Nt.ok_get OA.out hka;have hcell:=BM.out _ _ hblk _ _ (Nt.put_get H.out hka);have hfz:=hblk.frozen (j+d.length);have BSK:=Qd (BS.out _ _ hblk d.length (by rw[H.out.1];exact hka));have EN:=Qd (λs b'=>Nt.put_end (s:=s) (c':=b') H.out HL.out);generalize hx:a[d.length]=x at hxb hcell;have HX:=Qd hx;clear hblk hx;have em:((x:Int)+(b:Int))%4294967296=(((x+b)%4294967296:Nat):Int):=by omega
  have EM:=Qd em;clear em;go_wp2_with fail
  rw[EM.out];go_end0
  refine⟨cur.set d.length ((x+b)%4294967296),(x+b)/4294967296,rfl,BSK.out _,Qd (EN.out _ _ (by omega) (by rw[HX.out];omega)),We hgr _ _⟩
theorem Eaa {x s c:Nat}(hx:x<4294967296)(hs:s<32)(hc:c<2^s):bits BinOp.or IntKind.u64 (IntKind.u64.wrap ((x:Int)*2^s)) (c:Int)=((x*2^s+c:Nat):Int):=by
 have hp:2^s<=2147483648:=Nat.pow_le_pow_right (n:=2) (by omega) (show s<=31 by omega);have h1:x*2^s<=4294967295*2147483648:=Nat.mul_le_mul (by omega) hp;have e:(x:Int)*2^s=((x*2^s:Nat):Int):=by rw[Int.natCast_mul,Int.natCast_pow];rfl
 rw[e,IntKind.wrap_u64,Int.emod_eq_of_lt (by omega) (by omega),u64_or_nat _ _ (by omega) (by omega),nat_join s _ _ (Nat.mul_mod_left _ _) hc]
theorem O0 (A:Option Addr)(c B s:Nat)(l:List Nat)(w:World)(hx:Lies w B A (U l))(hB:B<=w.heap.size)(ho:Nt.Ok l)(hc:l.length<=c)(hm:c<=9223372036854775807)(hs:l.length<=1000000)(hs32:s<32):
 Calls Tryz.prog 320 #[.slice A l.length c,.int .i64 (s:Int)] w λe w'=>∃cur:List Nat,e= .returned (.slice (some ⟨w.heap.size,0,none⟩) (l.length+1) (l.length+1))/\Blk w' w.heap.size 186 (U cur)/\Hid (Nt.Ok cur/\cur.length=l.length+1/\Nt.val cur=Nt.val l*2^s)/\Below w.heap.size w w':=by
 obtain⟨i0,hi,hz0,hz1,hz2⟩:=info_parts Ob;have OL:=Qd ho;have LX:=Qd (hx.more hB);clear ho hx hB;go_enter Tryz.func320,Tryz.ntmps320
 go_wp2_with (at_make;refine Hb _ rfl _ _ 83 rfl 186 i0 (.int .u32 0) Tryz.underlying83 hi hz0 hz1 rfl .i64 .i64 _ _ (l.length+1) (l.length+1) rfl rfl (by go_num) (by go_num) Lr (by rw[hz2];omega) (by omega) w.heap.size w Br Lr ?_;intro w1 hblk1 hb1 hb1' hlt1)
 have hblk0:Blk w1 w.heap.size 186 (U (List.replicate (l.length+1) 0)):=by simpa [U] using hblk1
 clear hblk1 hb1' hlt1;go_loopw [6,16] (λcv i wr=>∃(k cy:Nat) (cur:List Nat),k<=l.length/\cy<2^s/\i= .int .i64 (k:Int)/\cv= .int .u64 (cy:Int)/\Blk wr w.heap.size 186 (U cur)/\Below w.heap.size w wr/\Hid (Nt.UpAt l s cur k cy)) (λ_ i _=>l.length-(intOf i).toNat)
 case atStart=>exact⟨0,0,_,Nat.zero_le _,Nat.two_pow_pos s,rfl,rfl,hblk0,hb1,Qd (Nt.up_start l s)⟩
 case round=>
  clear hblk0 hb1;obtain⟨k,cy,cur,hk,hcy,rfl,rfl,hblk,hbel,H⟩:=hrel;have hsz:=hblk.lt;have hcl:cur.length=l.length+1:=H.out.1;by_cases hlt:k<l.length
  ·obtain⟨b2,off2,rfl,hb2,hc2⟩:=(LX.out.below hbel).limb hlt
   have hxb:=Nt.ok_get OL.out hlt;have hcell:wr.cell? ⟨w.heap.size,k,none⟩=some (.int .u32 ((cur[k]:Nat):Int)):=hblk.cell (by rw[U,List.getElem?_map,List.getElem?_eq_getElem (by omega)];rfl);have hfz:=hblk.frozen k;have ST:=Qd (Nt.up_step OL.out H.out hlt);have UC:=Qd (Nt.up_carry hxb hcy);have BS:Hid (∀s:Nat,Blk (wr.setCell ⟨w.heap.size,k,none⟩ (.int .u32 (s:Int))) w.heap.size 186 (U (cur.set k s))):=Qd (λs=>by
    have:=hblk.set_ k (.int .u32 (s:Int));rw[show(U cur).set k (.int .u32 (s:Int))=U (cur.set k s) from List.map_set.symm] at this;exact this)
   generalize cur[k]=o at hcell;generalize l[k]=x at*;clear hblk;have HSO:=Qd (Eaa hxb hs32 hcy);have hp:2^s<=2147483648:=Nat.pow_le_pow_right (n:=2) (by omega) (show s<=31 by omega);have hmul:x*2^s<=4294967295*2147483648:=Nat.mul_le_mul (by omega) hp;have HP:=Qd (And.intro hp hmul);clear hp hmul hcl;go_wp2_with fail
   rw[HSO.out];have h1:=HP.out;have hcy2:=UC.out;generalize x*2^s+cy=t at*;have e1:((t:Nat):Int)/4294967296=((t/4294967296:Nat):Int):=by omega
   have e2:((t:Nat):Int)%4294967296=((t%4294967296:Nat):Int):=by omega
   rw[e1,e2];refine⟨⟨k+1,t/4294967296,cur.set k (t%4294967296),by omega,hcy2,by go_num,rfl,BS.out _,hbel.setCell Lr _,ST⟩,by simp[intOf];omega⟩
  obtain rfl:k=l.length:=by omega
  have hcell:wr.cell? ⟨w.heap.size,l.length,none⟩=some (.int .u32 ((cur[l.length]:Nat):Int)):=hblk.cell (by rw[U,List.getElem?_map,List.getElem?_eq_getElem (by omega)];rfl);have hfz:=hblk.frozen l.length;have EN:=Qd (Nt.up_end (by omega) H.out);have BS:Hid (∀s:Nat,Blk (wr.setCell ⟨w.heap.size,l.length,none⟩ (.int .u32 (s:Int))) w.heap.size 186 (U (cur.set l.length s))):=Qd (λs=>by
   have:=hblk.set_ l.length (.int .u32 (s:Int));rw[show(U cur).set l.length (.int .u32 (s:Int))=U (cur.set l.length s) from List.map_set.symm] at this;exact this)
  have hcy32:cy<4294967296:=by
   have:2^s<=2^32:=Nat.pow_le_pow_right (by omega) (by omega);omega
  generalize cur[l.length]=o at hcell;clear hblk hcl hcy;go_wp2_with fail
  go_ret;refine⟨cur.set l.length cy,rfl,BS.out cy,Qd EN.out,hbel.setCell Lr _⟩
theorem P5 (A:Option Addr)(c B s:Nat)(l:List Nat)(w:World)(hx:Lies w B A (U l))(hB:B<=w.heap.size)(ho:Nt.Ok l)(hc:l.length<=c)(hm:c<=9223372036854775807)(hs:l.length<=1000000)(hs32:s<32):
 Calls Tryz.prog 324 #[.slice A l.length c,.int .i64 (s:Int)] w λe w'=>∃v,e= .returned v/\IsRes w' v (Nt.digs (Nt.val l/2^s))/\Below w.heap.size w w':=by
 obtain⟨i0,hi,hz0,hz1,hz2⟩:=info_parts Ob;have OL:=Qd ho;have LX:=Qd (hx.more hB);clear ho hx hB;go_enter Tryz.func324,Tryz.ntmps324
 go_wp2_with (at_make;refine Hb _ rfl _ _ 83 rfl 186 i0 (.int .u32 0) Tryz.underlying83 hi hz0 hz1 rfl .i64 .i64 _ _ l.length l.length rfl rfl (by go_num) (by go_num) Lr (by rw[hz2];omega) (by omega) w.heap.size w Br Lr ?_;intro w1 hblk1 hb1 hb1' hlt1)
 have hblk0:Blk w1 w.heap.size 186 (U (List.replicate l.length 0)):=by simpa [U] using hblk1
 clear hblk1 hb1' hlt1;go_loopw [6,7] (λav i wr=>∃(k ab:Nat) (cur:List Nat),k<=l.length/\ab<4294967296/\i= .int .i64 ((k:Int)-1)/\av= .int .u64 (ab:Int)/\Blk wr w.heap.size 186 (U cur)/\Below w.heap.size w wr/\Hid (Nt.DownAt l s cur k ab)) (λ_ i _=>(intOf i+1).toNat)
 case atStart=>exact⟨l.length,0,_,Lr,by omega,by go_num,rfl,hblk0,hb1,Qd (Nt.down_start l s)⟩
 case round=>
  clear hblk0 hb1;obtain⟨k,ab,cur,hk,hab,rfl,rfl,hblk,hbel,H⟩:=hrel;have hsz:=hblk.lt;rcases k with _ |k
  ·have HE:=Qd (Nt.down_end H.out)
   have HTR:=Wb (some ⟨w.heap.size,0,none⟩) l.length wr.heap.size cur wr hblk.lies H.out.2.1 (by rw[H.out.1];exact Lr) (by omega);rw[H.out.1,HE.out] at HTR;have HT:=Qd HTR;have HQ:=hblk.lies.digs H.out.2.1;have HQL:=Nt.digs_len_le H.out.2.1;rw[HE.out] at HQ HQL;rw[H.out.1] at HQL;have HQ2:=Qd HQ;clear HTR HQ hblk HE;obtain⟨v,hv⟩:∃v,v=Nt.val l/2^s:=⟨_,rfl⟩;rw[<-hv] at HT HQ2 HQL;have HV:=Qd hv;clear hv;go_wp2_with fail
   refine HT.out.mono ?_;rintro e w' ⟨rfl,rfl⟩;go_wp2_with fail
   go_ret;rw[<-HV.out];exact⟨_,rfl,⟨_,_,rfl,Lr,by omega,(λh=>by cases h),HQ2.out⟩,hbel⟩
  have hk1:((k+1:Nat):Int)-1=(k:Int):=by omega
  rw[hk1];clear hk1;have hkl:k<l.length:=by omega
  have hcl:cur.length=l.length:=H.out.1;obtain⟨b2,off2,rfl,hb2,hc2⟩:=(LX.out.below hbel).limb hkl;have hxb:=Nt.ok_get OL.out hkl;have hcell:wr.cell? ⟨w.heap.size,k,none⟩=some (.int .u32 ((cur[k]:Nat):Int)):=hblk.cell (by rw[U,List.getElem?_map,List.getElem?_eq_getElem (by omega)];rfl);have hfz:=hblk.frozen k;have ST:=Qd (Nt.down_step OL.out (by omega) H.out hkl);have BS:Hid (∀s:Nat,Blk (wr.setCell ⟨w.heap.size,k,none⟩ (.int .u32 (s:Int))) w.heap.size 186 (U (cur.set k s))):=Qd (λs=>by
   have:=hblk.set_ k (.int .u32 (s:Int));rw[show(U cur).set k (.int .u32 (s:Int))=U (cur.set k s) from List.map_set.symm] at this;exact this)
  generalize cur[k]=o at hcell;generalize l[k]=x at*;clear hblk hcl;have hj:=Tm (r:=ab) (by omega) hxb;have HE:Hid ((((ab:Int)*4294967296+(x:Int))/2^s%4294967296)=(((ab*4294967296+x)/2^s%4294967296:Nat):Int)):=Qd (by
   rw[Int.natCast_emod,Int.natCast_ediv,Int.natCast_add,Int.natCast_mul,Int.natCast_pow];rfl)
  go_wp2_with fail
  rw[HE.out];refine⟨⟨k,x,_,by omega,hxb,rfl,rfl,BS.out _,hbel.setCell Lr _,ST⟩,by simp[intOf];try omega⟩
end Go.Proofs.YtogjgbmngagimaaGreatDoor
