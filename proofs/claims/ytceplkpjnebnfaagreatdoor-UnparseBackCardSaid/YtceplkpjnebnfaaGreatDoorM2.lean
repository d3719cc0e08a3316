/- Texts of this proof, joined. -/
import Derived.Test.YtceplkpjnebnfaaGreatDoorM1
import Derived.Deep.QuietTactic
import Derived.BigQuiet
import Derived.LoopTactic
import Derived.Outline
import Derived.Lib.Strings
import Derived.Laws.MakeOwn
import Derived.OwnWalk
import Derived.Laws.BitsAllLaws
import Derived.Laws.CopyOwn
import Derived.Laws.AppendOwnNone
set_option linter.all false
set_option maxHeartbeats 8000000
set_option maxRecDepth 100000
namespace Go.Proofs.YtceplkpjnebnfaaGreatDoor
section
open Go.RowKit Ar
def Fits (n c bytes:Nat):Prop:=n<=c/\n*bytes<=140737488351232/\c<=9223372036854775807
theorem Fits.le {n c bytes:Nat}(h:Fits n c bytes)(hb:1<=bytes):n<=c/\n<=140737488351232:=by
 refine⟨h.1,?_⟩;have h1:=Nat.mul_le_mul_left n hb;have h2:=h.2.1;omega
def Jd (l:List Int):Prop:=∀n∈l,-9223372036854775808<=n/\n<=9223372036854775807
def Eaa (l:List Nat):Prop:=∀n∈l,n<4294967296
def Sa (l:List Int):List Value:=l.map (Value.int .i64)
def Ei (l:List Nat):List Value:=l.map λn:Nat=>Value.int .u32 (n:Int)
mutual
def IsArr (w:World)(B:Nat):Te->List Value->Prop
 | .mk S shape cells,vs=>∃A c A' c' us,vs=[.int .u64 (S:Int),.slice A shape.length c,.slice A' cells.length c']/\S<18446744073709551616/\Fits shape.length c 8/\Fits cells.length c' 104/\Jd shape/\
  Lies w B A (Sa shape)/\Lies w B A' us/\IsCels w B cells us
def IsCels (w:World)(B:Nat):List Fg->List Value->Prop
 | [],vs=>vs=[]
 |c::r,vs=>∃u t,vs=u++t/\IsCel w B c u/\IsCels w B r t
def IsCel (w:World)(B:Nat):Fg->List Value->Prop
 | .mk L kind neg top bot ch ins,vs=>∃A c A' c' A'' c'' us,vs=[.int .u64 (L:Int),.int .i64 kind,.bool neg,.slice A top.length c,.slice A' bot.length c',.int .i64 ch,.slice A'' ins.length c'']/\
  L<18446744073709551616/\Fits top.length c 4/\Fits bot.length c' 4/\Fits ins.length c'' 56/\Jd [kind,ch]/\Eaa top/\Eaa bot/\Lies w B A (Ei top)/\Lies w B A' (Ei bot)/\Lies w B A'' us/\IsArrs w B ins us/\(A=none->c=0)/\(A'=none->c'=0)
def IsArrs (w:World)(B:Nat):List Te->List Value->Prop
 | [],vs=>vs=[]
 |a::r,vs=>∃u t,vs=u++t/\IsArr w B a u/\IsArrs w B r t
end
theorem IsArr.len {w:World}{B:Nat}{a:Te}{vs:List Value}(h:IsArr w B a vs):vs.length=3:=by
 cases a;rw[IsArr] at h;obtain⟨A,c,A',c',us,rfl,_⟩:=h;rfl
theorem IsCel.len {w:World}{B:Nat}{a:Fg}{vs:List Value}(h:IsCel w B a vs):vs.length=7:=by
 cases a;rw[IsCel] at h;obtain⟨A,c,A',c',A2,c2,us,rfl,_⟩:=h;rfl
mutual
theorem IsArr.keep {w w':World}{B B':Nat}(hk:∀p:Addr,p.block<B->w'.cell? p=w.cell? p)(hB:B<=B'):∀(a:Te) (vs:List Value),IsArr w B a vs->IsArr w' B' a vs
 | .mk S shape cells,vs,h=>by
  rw[IsArr] at h⊢;obtain⟨A,c,A',c',us,h1,h2,h3,h4,h5,h6,h7,h8⟩:=h;exact⟨A,c,A',c',us,h1,h2,h3,h4,h5,(h6.keep hk).more hB,(h7.keep hk).more hB,IsCels.keep hk hB cells us h8⟩
theorem IsCels.keep {w w':World}{B B':Nat}(hk:∀p:Addr,p.block<B->w'.cell? p=w.cell? p)(hB:B<=B'):∀(a:List Fg) (vs:List Value),IsCels w B a vs->IsCels w' B' a vs
 | [],vs,h=>by rw[IsCels] at h⊢;exact h
 |c::r,vs,h=>by
  rw[IsCels] at h⊢;obtain⟨u,t,h1,h2,h3⟩:=h;exact⟨u,t,h1,IsCel.keep hk hB c u h2,IsCels.keep hk hB r t h3⟩
theorem IsCel.keep {w w':World}{B B':Nat}(hk:∀p:Addr,p.block<B->w'.cell? p=w.cell? p)(hB:B<=B'):∀(a:Fg) (vs:List Value),IsCel w B a vs->IsCel w' B' a vs
 | .mk L kind neg top bot ch ins,vs,h=>by
  rw[IsCel] at h⊢;obtain⟨A,c,A',c',A2,c2,us,h1,h2,h3,h4,h5,h6,h7,h8,h9,h10,h11,h12⟩:=h;exact⟨A,c,A',c',A2,c2,us,h1,h2,h3,h4,h5,h6,h7,h8,(h9.keep hk).more hB,(h10.keep hk).more hB,(h11.keep hk).more hB,IsArrs.keep hk hB ins us h12.1,h12.2⟩
theorem IsArrs.keep {w w':World}{B B':Nat}(hk:∀p:Addr,p.block<B->w'.cell? p=w.cell? p)(hB:B<=B'):∀(a:List Te) (vs:List Value),IsArrs w B a vs->IsArrs w' B' a vs
 | [],vs,h=>by rw[IsArrs] at h⊢;exact h
 |c::r,vs,h=>by
  rw[IsArrs] at h⊢;obtain⟨u,t,h1,h2,h3⟩:=h;exact⟨u,t,h1,IsArr.keep hk hB c u h2,IsArrs.keep hk hB r t h3⟩
end
theorem IsArr.below {w w':World}{B:Nat}{a:Te}{vs:List Value}(h:IsArr w B a vs)(hb:Below B w w'):IsArr w' B a vs:=IsArr.keep (λ_ hp=>hb.cell hp) Lr a vs h
theorem IsArr.more {w:World}{B B':Nat}{a:Te}{vs:List Value}(h:IsArr w B a vs)(hB:B<=B'):IsArr w B' a vs:=IsArr.keep (λ_ _=>rfl) hB a vs h
theorem IsCel.below {w w':World}{B:Nat}{a:Fg}{vs:List Value}(h:IsCel w B a vs)(hb:Below B w w'):IsCel w' B a vs:=IsCel.keep (λ_ hp=>hb.cell hp) Lr a vs h
theorem IsArrs.below {w w':World}{B:Nat}{a:List Te}{vs:List Value}(h:IsArrs w B a vs)(hb:Below B w w'):IsArrs w' B a vs:=IsArrs.keep (λ_ hp=>hb.cell hp) Lr a vs h
theorem IsCels.below {w w':World}{B:Nat}{a:List Fg}{vs:List Value}(h:IsCels w B a vs)(hb:Below B w w'):IsCels w' B a vs:=IsCels.keep (λ_ hp=>hb.cell hp) Lr a vs h
theorem IsCels.at_ {w:World}{B:Nat}:∀{cs:List Fg} {vs:List Value} (h:IsCels w B cs vs) {k:Nat} (hk:k<cs.length),∃u,IsCel w B cs[k] u/\u=(vs.drop (7*k)).take 7
 | [],_,_,_,hk=>by simp at hk
 |c::r,vs,h,0,_=>by
  rw[IsCels] at h;obtain⟨u,t,rfl,h2,h3⟩:=h;exact⟨u,h2,by simp[h2.len]⟩
 |c::r,vs,h,k+1,hk=>by
  rw[IsCels] at h;obtain⟨u,t,rfl,h2,h3⟩:=h;obtain⟨u',h4,h5⟩:=h3.at_ (k:=k) (by simpa using hk);refine⟨u',h4,h5.trans ?_⟩;rw[show 7*(k+1)=u.length+7*k by rw[h2.len];omega,List.drop_append,List.drop_eq_nil_of_le (Nat.le_add_right _ _),Nat.add_sub_cancel_left,List.nil_append]
theorem IsArrs.at_ {w:World}{B:Nat}:∀{cs:List Te} {vs:List Value} (h:IsArrs w B cs vs) {k:Nat} (hk:k<cs.length),∃u,IsArr w B cs[k] u/\u=(vs.drop (3*k)).take 3
 | [],_,_,_,hk=>by simp at hk
 |c::r,vs,h,0,_=>by
  rw[IsArrs] at h;obtain⟨u,t,rfl,h2,h3⟩:=h;exact⟨u,h2,by simp[h2.len]⟩
 |c::r,vs,h,k+1,hk=>by
  rw[IsArrs] at h;obtain⟨u,t,rfl,h2,h3⟩:=h;obtain⟨u',h4,h5⟩:=h3.at_ (k:=k) (by simpa using hk);refine⟨u',h4,h5.trans ?_⟩;rw[show 3*(k+1)=u.length+3*k by rw[h2.len];omega,List.drop_append,List.drop_eq_nil_of_le (Nat.le_add_right _ _),Nat.add_sub_cancel_left,List.nil_append]
theorem IsCels.len {w:World}{B:Nat}:∀{cs:List Fg} {vs:List Value} (h:IsCels w B cs vs),vs.length=7*cs.length
 | [],_,h=>by rw[IsCels] at h;subst h;rfl
 |c::r,vs,h=>by
  rw[IsCels] at h;obtain⟨u,t,rfl,h2,h3⟩:=h;rw[List.length_append,h2.len,h3.len,List.length_cons];omega
theorem IsArrs.len {w:World}{B:Nat}:∀{cs:List Te} {vs:List Value} (h:IsArrs w B cs vs),vs.length=3*cs.length
 | [],_,h=>by rw[IsArrs] at h;subst h;rfl
 |c::r,vs,h=>by
  rw[IsArrs] at h;obtain⟨u,t,rfl,h2,h3⟩:=h;rw[List.length_append,h2.len,h3.len,List.length_cons];omega
theorem IsCels.snoc {w:World}{B:Nat}:∀{cs:List Fg} {vs:List Value} (h:IsCels w B cs vs) {c:Fg} {u:List Value} (hc:IsCel w B c u),IsCels w B (cs++[c]) (vs++u)
 | [],vs,h,c,u,hc=>by
  rw[IsCels] at h;subst h;show IsCels w B [c] _;rw[IsCels];exact⟨u,[],by simp,hc,by rw[IsCels]⟩
 |x::r,vs,h,c,u,hc=>by
  rw[IsCels] at h;obtain⟨u',t,rfl,h2,h3⟩:=h;show IsCels w B (x::(r++[c])) _;rw[IsCels];exact⟨u',t++u,by simp,h2,h3.snoc hc⟩
theorem IsArrs.snoc {w:World}{B:Nat}:∀{cs:List Te} {vs:List Value} (h:IsArrs w B cs vs) {c:Te} {u:List Value} (hc:IsArr w B c u),IsArrs w B (cs++[c]) (vs++u)
 | [],vs,h,c,u,hc=>by
  rw[IsArrs] at h;subst h;show IsArrs w B [c] _;rw[IsArrs];exact⟨u,[],by simp,hc,by rw[IsArrs]⟩
 |x::r,vs,h,c,u,hc=>by
  rw[IsArrs] at h;obtain⟨u',t,rfl,h2,h3⟩:=h;show IsArrs w B (x::(r++[c])) _;rw[IsArrs];exact⟨u',t++u,by simp,h2,h3.snoc hc⟩
theorem Lies.elem {w:World}{B:Nat}{A:Option Addr}{vs:List Value}(h:Lies w B A vs){m k:Nat}{u:List Value}(hu:u=(vs.drop (m*k)).take m)(hn:u≠[]):
 ∃b off,A=some ⟨b,off,none⟩/\b<B/\∀j v,u[j]? =some v->w.cell? ⟨b,off+k*m+j,none⟩=some v:=by
 rcases h with h |⟨b,off,hA,hb,hc⟩
 ·subst h;simp at hu;exact absurd hu hn
 refine⟨b,off,hA,hb,λj v hv=>?_⟩;have:=hc (k*m+j) v (by
  rw[hu,List.getElem?_take] at hv
  split at hv
  ·rw[List.getElem?_drop] at hv;rw[<-hv,Nat.mul_comm]
  cases hv)
 rw[<-this,Nat.add_assoc]
theorem IsArr.form {w:World}{B:Nat}{a:Te}{vs:List Value}(h:IsArr w B a vs):∃(S:Nat) (A:Option Addr) (n c:Nat) (A':Option Addr) (n' c':Nat),vs=[.int .u64 (S:Int),.slice A n c,.slice A' n' c']:=by
 cases a;rw[IsArr] at h;obtain⟨A,c,A',c',us,rfl,_⟩:=h;exact⟨_,_,_,_,_,_,_,rfl⟩
end
section
open Go.RowKit Ar
theorem Jz {α:Type}[BEq α][LawfulBEq α]{l l':List α}{k:Nat}(h:k<l.length)(h':k<l'.length)(hne:l[k]≠l'[k]):(l==l')=false:=by
 rw[beq_eq_false_iff_ne];rintro rfl;exact hne rfl
theorem Zr {α:Type}[BEq α][LawfulBEq α]{l l':List α}{k:Nat}(hl:l.length=l'.length)(hk:k=l.length)(h:l.take k=l'.take k):(l==l')=true:=by
 rw[beq_iff_eq];rwa[hk,List.take_length,hl,List.take_length] at h
theorem Jv {α:Type}[BEq α][LawfulBEq α]{l l':List α}(h:l.length≠l'.length):(l==l')=false:=by
 rw[beq_eq_false_iff_ne];rintro rfl;exact h rfl
theorem Oo {α:Type}{l l':List α}{k:Nat}(h:k<l.length)(h':k<l'.length)(he:l.take k=l'.take k)(hk:l[k]=l'[k]):l.take (k+1)=l'.take (k+1):=by
 rw[List.take_succ_eq_append_getElem h,List.take_succ_eq_append_getElem h',he,hk]
theorem Qb {B:Nat}{w w':World}(h:Below B w w')(n:Nat):Below B w (w'.drewN n):=⟨h.os,h.tape,h.output,h.size,h.block⟩
theorem Hb {w:World}{B:Nat}{A:Option Addr}{l:List Int}(h:Lies w B A (Sa l)){k:Nat}(hk:k<l.length):∃b off,A=some ⟨b,off,none⟩/\b<B/\w.cell? ⟨b,off+k,none⟩=some (.int .i64 l[k]):=by
 obtain⟨b,off,h1,h2,h3⟩:=h.at_ (k:=k) (by simpa [Sa] using hk);exact⟨b,off,h1,h2,by rw[h3];simp[Sa]⟩
theorem Rm {w:World}{B:Nat}{A:Option Addr}{l:List Nat}(h:Lies w B A (Ei l)){k:Nat}(hk:k<l.length):∃b off,A=some ⟨b,off,none⟩/\b<B/\w.cell? ⟨b,off+k,none⟩=some (.int .u32 (l[k]:Int)):=by
 obtain⟨b,off,h1,h2,h3⟩:=h.at_ (k:=k) (by simpa [Ei] using hk);exact⟨b,off,h1,h2,by rw[h3];simp[Ei]⟩
theorem Gw (l l':List Nat)(A A':Option Addr)(c c':Nat)(w:World)(B:Nat)(hA:Lies w B A (Ei l))(hA':Lies w B A' (Ei l'))(hn:l.length<=9223372036854775807)(hn':l'.length<=9223372036854775807):
 Calls Tryz.prog 151 #[.slice A l.length c,.slice A' l'.length c'] w λe w'=>e= .returned (.bool (l==l'))/\Below w.heap.size w w':=by
 have HA:=Qd hA;have HA':=Qd hA';clear hA hA';by_cases hne:l.length=l'.length
 ·have hd:(l.length !=l'.length)=false:=by simpa using hne
  have hln:l.length<=l'.length:=by omega
  have HN:=Qd hne;clear hne;go_enter Tryz.func151,Tryz.ntmps151
  go_wp2_with fail
  go_loopw [5,13] (λu i wr=>∃k n:Nat,k<=l.length/\i= .int .i64 k/\wr=w.drewN n/\Hid (l.take k=l'.take k)) (λu i _=>l.length-(intOf i).toNat)
  case atStart=>exact⟨0,0,Nat.zero_le _,rfl,rfl,Qd rfl⟩
  case round=>
   obtain⟨k,n,hk,rfl,rfl,HT⟩:=hrel;by_cases hlt:k<l.length
   ·have hlt':k<l'.length:=by omega
    obtain⟨b,off,rfl,hb,g0⟩:=Rm HA.out hlt;obtain⟨b',off',rfl,hb',g1⟩:=Rm HA'.out hlt';have HM:=Qd (Oo hlt hlt' HT.out);have HZ:=Qd (Jz (l:=l) (l':=l') hlt hlt');generalize l[k]=x at g0 HM HZ;generalize l'[k]=y at g1 HM HZ;have hk0:(0:Int)<=(k:Int):=by omega
    have hk1:(k:Int)<(l.length:Int):=by omega
    have hk2:(k:Int)<(l'.length:Int):=by omega
    by_cases hxy:x=y
    ·subst hxy
     have e1:(x !=x)=false:=by simp
     have HM2:=Qd (HM.out rfl);clear HM HZ;go_wp2_with fail
     go_quiet (fail)
     go_wp2_with fail
     go_roundw
     case rel=>exact⟨k+1,n+nq,by omega,by go_num,rfl,HM2⟩
     case measure=>simp[intOf];omega
    have e1:(x !=y)=true:=by simpa using hxy
    have HZ2:=Qd (HZ.out hxy);have e2:((x:Int)!=(y:Int))=true:=by simp;omega
    clear HM HZ hxy;go_wp2_with fail
    go_quiet (fail)
    go_wp2_with fail
    go_ret;exact⟨Aa (by rw[HZ2.out]),Qb (Qb Br _) _⟩
   have hke:k=l.length:=by omega
   have HZ2:=Qd (Zr HN.out hke HT.out);clear hke HT;go_wp2_with fail
   go_ret;exact⟨Aa (by rw[HZ2.out]),Qb Br _⟩
 have hd:(l.length !=l'.length)=true:=by simpa using hne
 have HZ2:=Qd (Jv hne);clear hne;go_enter Tryz.func151,Tryz.ntmps151
 go_wp2_with fail
 go_ret;exact⟨Aa (by rw[HZ2.out]),Br⟩
theorem Kz (l l':List Int)(A A':Option Addr)(c c':Nat)(w:World)(B:Nat)(hA:Lies w B A (Sa l))(hA':Lies w B A' (Sa l'))(hn:l.length<=9223372036854775807)(hn':l'.length<=9223372036854775807):
 Calls Tryz.prog 31 #[.slice A l.length c,.slice A' l'.length c'] w λe w'=>e= .returned (.bool (l==l'))/\Below w.heap.size w w':=by
 have HA:=Qd hA;have HA':=Qd hA';clear hA hA';by_cases hne:l.length=l'.length
 ·have hd:(l.length !=l'.length)=false:=by simpa using hne
  have hln:l.length<=l'.length:=by omega
  have HN:=Qd hne;clear hne;go_enter Tryz.func31,Tryz.ntmps31
  go_wp2_with fail
  go_loopw [5] (λi wr=>∃k n:Nat,k<=l.length/\i= .int .i64 k/\wr=w.drewN n/\Hid (l.take k=l'.take k)) (λi _=>l.length-(intOf i).toNat)
  case atStart=>exact⟨0,0,Nat.zero_le _,rfl,rfl,Qd rfl⟩
  case round=>
   obtain⟨k,n,hk,rfl,rfl,HT⟩:=hrel;by_cases hlt:k<l.length
   ·have hlt':k<l'.length:=by omega
    obtain⟨b,off,rfl,hb,g0⟩:=Hb HA.out hlt;obtain⟨b',off',rfl,hb',g1⟩:=Hb HA'.out hlt';have HM:=Qd (Oo hlt hlt' HT.out);have HZ:=Qd (Jz (l:=l) (l':=l') hlt hlt');generalize l[k]=x at g0 HM HZ;generalize l'[k]=y at g1 HM HZ;have hk0:(0:Int)<=(k:Int):=by omega
    have hk1:(k:Int)<(l.length:Int):=by omega
    have hk2:(k:Int)<(l'.length:Int):=by omega
    by_cases hxy:x=y
    ·subst hxy
     have e1:(x !=x)=false:=by simp
     have HM2:=Qd (HM.out rfl);clear HM HZ;go_wp2_with fail
     go_quiet (fail)
     go_wp2_with fail
     go_roundw
     case rel=>exact⟨k+1,n+nq,by omega,by go_num,rfl,HM2⟩
     case measure=>simp[intOf];omega
    have e1:(x !=y)=true:=by simpa using hxy
    have HZ2:=Qd (HZ.out hxy)
    skip
    clear HM HZ hxy;go_wp2_with fail
    go_quiet (fail)
    go_wp2_with fail
    go_ret;exact⟨Aa (by rw[HZ2.out]),Qb (Qb Br _) _⟩
   have hke:k=l.length:=by omega
   have HZ2:=Qd (Zr HN.out hke HT.out);clear hke HT;go_wp2_with fail
   go_ret;exact⟨Aa (by rw[HZ2.out]),Qb Br _⟩
 have hd:(l.length !=l'.length)=true:=by simpa using hne
 have HZ2:=Qd (Jv hne);clear hne;go_enter Tryz.func31,Tryz.ntmps31
 go_wp2_with fail
 go_ret;exact⟨Aa (by rw[HZ2.out]),Br⟩
theorem Po (l l':List Nat)(A A':Option Addr)(c c':Nat)(w:World)(B:Nat)(hA:Lies w B A (Ei l))(hA':Lies w B A' (Ei l'))(hn:l.length<=9223372036854775807)(hn':l'.length<=9223372036854775807):
 Calls Tryz.prog 57 #[.slice A l.length c,.slice A' l'.length c'] w λe w'=>e= .returned (.bool (l==l'))/\Below w.heap.size w w':=by
 have HA:=Qd hA;have HA':=Qd hA';clear hA hA';by_cases hne:l.length=l'.length
 ·have hd:(l.length !=l'.length)=false:=by simpa using hne
  have hln:l.length<=l'.length:=by omega
  have HN:=Qd hne;clear hne;go_enter Tryz.func57,Tryz.ntmps57
  go_wp2_with fail
  go_loopw [5] (λi wr=>∃k n:Nat,k<=l.length/\i= .int .i64 k/\wr=w.drewN n/\Hid (l.take k=l'.take k)) (λi _=>l.length-(intOf i).toNat)
  case atStart=>exact⟨0,0,Nat.zero_le _,rfl,rfl,Qd rfl⟩
  case round=>
   obtain⟨k,n,hk,rfl,rfl,HT⟩:=hrel;by_cases hlt:k<l.length
   ·have hlt':k<l'.length:=by omega
    obtain⟨b,off,rfl,hb,g0⟩:=Rm HA.out hlt;obtain⟨b',off',rfl,hb',g1⟩:=Rm HA'.out hlt';have HM:=Qd (Oo hlt hlt' HT.out);have HZ:=Qd (Jz (l:=l) (l':=l') hlt hlt');generalize l[k]=x at g0 HM HZ;generalize l'[k]=y at g1 HM HZ;have hk0:(0:Int)<=(k:Int):=by omega
    have hk1:(k:Int)<(l.length:Int):=by omega
    have hk2:(k:Int)<(l'.length:Int):=by omega
    by_cases hxy:x=y
    ·subst hxy
     have e1:(x !=x)=false:=by simp
     have HM2:=Qd (HM.out rfl);clear HM HZ;go_wp2_with fail
     go_quiet (fail)
     go_wp2_with fail
     go_roundw
     case rel=>exact⟨k+1,n+nq,by omega,by go_num,rfl,HM2⟩
     case measure=>simp[intOf];omega
    have e1:(x !=y)=true:=by simpa using hxy
    have HZ2:=Qd (HZ.out hxy);have e2:((x:Int)!=(y:Int))=true:=by simp;omega
    clear HM HZ hxy;go_wp2_with fail
    go_quiet (fail)
    go_wp2_with fail
    go_ret;exact⟨Aa (by rw[HZ2.out]),Qb (Qb Br _) _⟩
   have hke:k=l.length:=by omega
   have HZ2:=Qd (Zr HN.out hke HT.out);clear hke HT;go_wp2_with fail
   go_ret;exact⟨Aa (by rw[HZ2.out]),Qb Br _⟩
 have hd:(l.length !=l'.length)=true:=by simpa using hne
 have HZ2:=Qd (Jv hne);clear hne;go_enter Tryz.func57,Tryz.ntmps57
 go_wp2_with fail
 go_ret;exact⟨Aa (by rw[HZ2.out]),Br⟩
end
open Go.RowKit
theorem Qo (A:Option Addr)(c:Nat)(l:List Int)(i:Nat)(w:World)(hl:Lies w w.heap.size A (Sa l))(hn:l.length<=1000000)(hi:i<=1000000):
 Calls Tryz.prog 135 #[.slice A l.length c,.int .i64 (i:Int)] w λe w'=>e= .returned (.bool (Tk.digit (l.getD i (-1))))/\w=w':=by
 by_cases hlt:i<l.length
 ·obtain⟨b,off,rfl,hb,g0⟩:=Hb hl hlt
  rw[Tk.getD_in hlt];generalize l[i]=x at*;clear hl;by_cases h1:48<=x
  ·by_cases h2:x<=57
   ·have E:Hid (Tk.digit x=true):=Qd (by unfold Tk.digit;simp;omega)
    go_enter Tryz.func135,Tryz.ntmps135
    go_wp2_with fail
    go_ret;exact⟨Aa E.out.symm,rfl⟩
   have E:Hid (Tk.digit x=false):=Qd (by unfold Tk.digit;simp;omega);have q:decide (x<=57)=false:=decide_eq_false h2;go_enter Tryz.func135,Tryz.ntmps135
   go_wp2_with fail
   go_ret;exact⟨Aa E.out.symm,rfl⟩
  have E:Hid (Tk.digit x=false):=Qd (by unfold Tk.digit;simp;omega);have q:decide (48<=x)=false:=decide_eq_false h1;go_enter Tryz.func135,Tryz.ntmps135
  go_wp2_with fail
  go_ret;exact⟨Aa E.out.symm,rfl⟩
 have E:Hid (Tk.digit (l.getD i (-1))=false):=Qd (by rw[Tk.getD_out (by omega)];rfl);clear hl;generalize Tk.digit (l.getD i (-1))=R at*;generalize l.length=n at*;go_enter Tryz.func135,Tryz.ntmps135
 go_wp2_with fail
 go_ret;exact⟨Aa E.out.symm,rfl⟩
theorem Tm (A:Option Addr)(c:Nat)(l:List Int)(i:Nat)(w:World)(hl:Lies w w.heap.size A (Sa l))(hn:l.length<=1000000)(hi:i<=1000000):
 Calls Tryz.prog 136 #[.slice A l.length c,.int .i64 (i:Int)] w λe w'=>e= .returned (.bool (Tk.cls (l.getD i (-1))==2))/\w=w':=by
 by_cases hlt:i<l.length
 ·obtain⟨b,off,rfl,hb,g0⟩:=Hb hl hlt
  rw[Tk.getD_in hlt];generalize l[i]=x at*;have CL:=Qd (λwx=>Dj x wx);generalize Tk.cls x=k at*;clear hl;go_enter Tryz.func136,Tryz.ntmps136
  go_wp2_with fail
  refine(CL.out _).mono ?_;rintro e w' ⟨rfl,rfl⟩;go_wp2_with fail
  go_ret;exact⟨rfl,rfl⟩
 have E:Hid ((Tk.cls (l.getD i (-1))==2)=false):=Qd (by rw[Tk.getD_out (by omega)];decide);clear hl;generalize(Tk.cls (l.getD i (-1))==2)=R at*;generalize l.length=n at*;go_enter Tryz.func136,Tryz.ntmps136
 go_wp2_with fail
 go_ret;exact⟨Aa E.out.symm,rfl⟩
theorem F8 (x:Int)(w:World):
 Calls Tryz.prog 104 #[.int .i64 x] w λe w'=>e= .returned (.bool (Gl.may x))/\w=w':=by
 have HE:Hid (Gl.may x=(decide (0<=x)&&decide (x<=1114111)&&(decide (x<55296)||decide (57343<x)))):=Qd rfl;by_cases h0:0<=x
 ·by_cases h1:x<=1114111
  ·by_cases h2:x<55296
   ·have E:Hid (Gl.may x=true):=Qd (by rw[HE.out];simp;omega)
    go_enter Tryz.func104,Tryz.ntmps104
    go_wp2_with fail
    go_ret;exact⟨Aa E.out.symm,rfl⟩
   have q2:decide (x<55296)=false:=decide_eq_false h2;by_cases h3:57343<x
   ·have E:Hid (Gl.may x=true):=Qd (by rw[HE.out];simp;omega)
    go_enter Tryz.func104,Tryz.ntmps104
    go_wp2_with fail
    go_ret;exact⟨Aa E.out.symm,rfl⟩
   have q3:decide (57343<x)=false:=decide_eq_false h3;have E:Hid (Gl.may x=false):=Qd (by rw[HE.out];simp;omega);go_enter Tryz.func104,Tryz.ntmps104
   go_wp2_with fail
   go_ret;exact⟨Aa E.out.symm,rfl⟩
  have q1:decide (x<=1114111)=false:=decide_eq_false h1;have E:Hid (Gl.may x=false):=Qd (by rw[HE.out,q1];simp);go_enter Tryz.func104,Tryz.ntmps104
  go_wp2_with fail
  go_ret;exact⟨Aa E.out.symm,rfl⟩
 have q0:decide (0<=x)=false:=decide_eq_false h0;have E:Hid (Gl.may x=false):=Qd (by rw[HE.out,q0];simp);go_enter Tryz.func104,Tryz.ntmps104
 go_wp2_with fail
 go_ret;exact⟨Aa E.out.symm,rfl⟩
end Go.Proofs.YtceplkpjnebnfaaGreatDoor
namespace Gl
open Go
theorem by_list (s:ByteArray){i:Nat}(h:i<s.data.toList.length):by_ s i=(s.data.toList[i]).toNat:=by
 unfold by_;rw[get_at (show i<s.size from h)];rfl
theorem Iqa {x y z:UInt8}:∀{l:List UInt8},List.isPrefixOf [x,y,z] l=true↔∃r,l=x::y::z::r
 | []=>by simp[List.isPrefixOf]
 | [a]=>by simp[List.isPrefixOf]
 | [a,b]=>by simp[List.isPrefixOf]
 |a::b::c::r=>by
  simp only[List.isPrefixOf,Bool.and_true,Bool.and_eq_true,beq_iff_eq,List.cons.injEq]
  constructor
  ·rintro⟨h1,h2,h3⟩;exact⟨r,h1.symm,h2.symm,h3.symm,rfl⟩
  rintro⟨r',h1,h2,h3,_⟩;exact⟨h1.symm,h2.symm,h3.symm⟩
theorem I8 (s:ByteArray)(i:Nat):Lib.hasPrefix (s.data.toList.drop i) [239,191,189]=true↔i+2<s.size/\by_ s i=239/\by_ s (i+1)=191/\by_ s (i+2)=189:=by
 have hsz:s.data.toList.length=s.size:=rfl;unfold Lib.hasPrefix;rw[Iqa]
 constructor
 ·rintro⟨r,hr⟩
  have hl:=congrArg List.length hr;rw[List.length_drop] at hl;simp only[List.length_cons] at hl;have g:∀k (h:i+k<s.data.toList.length),by_ s (i+k)=((s.data.toList.drop i)[k]'(by rw[List.length_drop];omega)).toNat:=λk h=>by
   rw[by_list s h,List.getElem_drop]
  refine⟨by omega,?_,?_,?_⟩
  ·have:=g 0 (by omega);simp only[hr] at this;exact this
  ·have:=g 1 (by omega);simp only[hr] at this;exact this
  have:=g 2 (by omega);simp only[hr] at this;exact this
 rintro⟨h1,h2,h3,h4⟩;have k1:i+1<s.data.toList.length:=by omega
 have k2:i+2<s.data.toList.length:=by omega
 have k0:i<s.data.toList.length:=by omega
 rw[by_list s k0] at h2;rw[by_list s k1] at h3;rw[by_list s k2] at h4;refine⟨s.data.toList.drop (i+3),?_⟩;rw[List.drop_eq_getElem_cons k0,List.drop_eq_getElem_cons k1,List.drop_eq_getElem_cons k2];rw[show s.data.toList[i]=239 from UInt8.toNat_inj.1 h2,show s.data.toList[i+1]=191 from UInt8.toNat_inj.1 h3,show s.data.toList[i+2]=189 from UInt8.toNat_inj.1 h4]
theorem sub_no {s:ByteArray}{i:Nat}(hi:i<s.size)(h:read s i=none):Utf8.decode s i=(65533,1)/\Lib.hasPrefix (s.data.toList.drop i) [239,191,189]=false:=by
 unfold read at h
 split at h
 ·next hd=>
  have hd':Utf8.decode s i=(65533,1):=hd;refine⟨hd',?_⟩;rw[Bool.eq_false_iff];intro hp;obtain⟨h1,h2,h3,h4⟩:=(I8 s i).1 hp;rw[decode_eq,h2,h3,h4] at hd';rw[if_neg (by omega),if_neg (by omega),if_pos ⟨by omega,⟨by omega,by omega⟩,by omega,by omega⟩] at hd';rw[if_pos ⟨by omega,by decide⟩] at hd';cases hd'
 cases h
theorem sub_yes {s:ByteArray}{i c n:Nat}(hi:i<s.size)(h:read s i=some (c,n)):Utf8.decode s i=(c,n)/\(c=65533->Lib.hasPrefix (s.data.toList.drop i) [239,191,189]=true):=by
 have hd:=(Cl h).1;have hne:=(Cl h).2;refine⟨hd,λhc=>?_⟩;have hr:=refRead_eq s i hi;rw[h] at hr;unfold refRead at hr
 split at hr
 ·cases hr
 next c' n' hg=>
 split at hr
 ·next hm=>
  injection hr with hr
  injection hr with e1 e2
  subst e1 e2;subst hc;obtain⟨-,ho⟩:=hm;have hl:=congrArg List.length ho;rw[show one 65533=[239,191,189] from by decide] at ho hl;simp only[List.length_cons,List.length_nil,List.length_map,List.length_range] at hl;have hle:=read_le hi h;rw[<-hl,Pda] at ho;simp only[List.cons.injEq,and_true] at ho;exact(I8 s i).2 ⟨by omega,ho.1.symm,ho.2.1.symm,ho.2.2.symm⟩
 cases hr
def DecAt (s:ByteArray)(pos:Nat)(done:List Nat):Prop:=pos<=s.size/\dec s 0=(done++(dec s pos).1,(dec s pos).2)
theorem DecAt.start (s:ByteArray):DecAt s 0 []:=⟨Nat.zero_le _,by simp⟩
theorem DecAt.step {s:ByteArray}{pos c n:Nat}{done:List Nat}(h:DecAt s pos done)(hp:pos<s.size)(hr:read s pos=some (c,n)):DecAt s (pos+n) (done++[c]):=by
 refine⟨read_le hp hr,?_⟩;rw[h.2,dec_step hp hr];simp
theorem DecAt.bad {s:ByteArray}{pos:Nat}{done:List Nat}(h:DecAt s pos done)(hp:pos<s.size)(hr:read s pos=none):dec s 0=(done,some pos):=by
 rw[h.2,Xl hp hr];simp
theorem DecAt.done {s:ByteArray}{pos:Nat}{done:List Nat}(h:DecAt s pos done)(hp:¬pos<s.size):dec s 0=(done,none):=by
 rw[h.2,dec_end (by omega)];simp
theorem DecAt.len {s:ByteArray}{pos:Nat}{done:List Nat}(h:DecAt s pos done):done.length<=s.size:=by
 have h1:=dec_len (s:=s) (s.size+1) 0 (by omega);rw[h.2] at h1;simp at h1;omega
theorem DecAt.may {s:ByteArray}{pos:Nat}{done:List Nat}(h:DecAt s pos done):∀c∈done,Gl.may (c:Int)=true:=λc hc=>
 dec_may (s:=s) (s.size+1) 0 (by omega) c (by rw[h.2];exact List.mem_append_left _ hc)
end Gl
namespace Nt
def LenAt (l:List Nat)(b m:Nat)(cur:List Nat)(k c:Nat):Prop:=
 cur.length=l.length/\Ok cur/\c<4294967296/\cur.drop k=l.drop k/\val (cur.take k)+c*4294967296^k=val (l.take k)*b+m
theorem len_start {l:List Nat}{b m:Nat}(h:Ok l)(hm:m<4294967296):LenAt l b m l 0 m:=⟨rfl,h,hm,rfl,by simp[val]⟩
theorem len_get {l cur:List Nat}{b m k c:Nat}(h:LenAt l b m cur k c)(hk:k<l.length):cur[k]? =some l[k]:=by
 have:(cur.drop k)[0]? =(l.drop k)[0]? :=by rw[h.2.2.2.1]
 rw[List.getElem?_drop,List.getElem?_drop,Nat.add_zero,List.getElem?_eq_getElem hk] at this;exact this
theorem len_bounds {x b c:Nat}(hx:x<4294967296)(hb:b<4294967296)(hc:c<4294967296):x*b+c<18446744073709551616/\(x*b+c)/4294967296<4294967296/\(x*b+c)%4294967296<4294967296/\x*b<=18446744065119617025:=by
 have:=mul_bound hx hb;omega
theorem len_step {l cur:List Nat}{b m k c:Nat}(h:LenAt l b m cur k c)(hk:k<l.length)(hl:Ok l)(hb:b<4294967296):LenAt l b m (cur.set k ((l[k]*b+c)%4294967296)) (k+1) ((l[k]*b+c)/4294967296):=by
 obtain⟨h1,h2,h3,h4,h5⟩:=h;have hbd:=len_bounds (ok_get hl hk) hb h3;refine⟨by simpa using h1,Hh h2 hbd.2.2.1,hbd.2.1,?_,?_⟩
 ·rw[drop_set]
  have:=congrArg (List.drop 1) h4;rw[List.drop_drop,List.drop_drop] at this;exact this
 rw[Nh (by omega),val_take_succ hk,Nat.pow_succ];have e:=Nat.div_add_mod (l[k]*b+c) 4294967296;generalize(l[k]*b+c)/4294967296=q at*;generalize(l[k]*b+c)%4294967296=r at*;generalize 4294967296^k=p at h5⊢;generalize l[k]=x at*
 grind
theorem J8 {x b m c:Nat}{cur:List Nat}(h:LenAt (digs x) b m cur (digs x).length c):val cur+c*4294967296^(digs x).length=x*b+m:=by
 obtain⟨h1,h2,h3,h4,h5⟩:=h;rw[List.take_of_length_le (by omega),List.take_of_length_le (by omega),val_digs] at h5;exact h5
theorem len_done0 {x b m:Nat}{cur:List Nat}(h:LenAt (digs x) b m cur (digs x).length 0)(hb:1<=b):digs (x*b+m)=cur:=by
 have e:=J8 h;rw[Nat.zero_mul,Nat.add_zero] at e;rw[<-e];refine Y7 h.2.1 λhne=>?_;rw[h.1,e];have hx:x≠0:=by
  rintro rfl;have:=h.1;rw[digs_zero] at this;exact hne (List.eq_nil_of_length_eq_zero this)
 have h1:=digs_ge hx;have h2:x*1<=x*b:=Nat.mul_le_mul_left _ hb;omega
theorem len_done1 {x b m c:Nat}{cur:List Nat}(h:LenAt (digs x) b m cur (digs x).length c)(hc:c≠0):digs (x*b+m)=cur++[c]:=by
 have e:=J8 h;have hv:val (cur++[c])=x*b+m:=by
  rw[Sc,h.1,<-e];simp[val,Nat.mul_comm]
 rw[<-hv];refine Y7 (λd hd=>?_) λ_=>?_
 ·rcases List.mem_append.1 hd with h3 |h3
  ·exact h.2.1 d h3
  simp at h3;subst h3;exact h.2.2.1
 rw[hv,List.length_append,List.length_singleton,Nat.add_sub_cancel,h.1,<-e];have:1*4294967296^(digs x).length<=c*4294967296^(digs x).length:=Nat.mul_le_mul_right _ (by omega);omega
end Nt
namespace Go.Proofs.YtceplkpjnebnfaaGreatDoor
open Go.RowKit
def U (l:List Nat):List Value:=l.map λn:Nat=>Value.int .u32 (n:Int)
theorem Dpa {l:List Nat}{i:Nat}(h:i<l.length):(U l)[i]'(by simpa [U] using h)= .int .u32 ((l[i]:Nat):Int):=by simp[U]
theorem Ig (l:List Nat):(U l).length=l.length:=by simp[U]
theorem Lies.limb {w:World}{B:Nat}{A:Option Addr}{l:List Nat}(h:Lies w B A (U l)){k:Nat}(hk:k<l.length):
 ∃b off,A=some ⟨b,off,none⟩/\b<B/\w.cell? ⟨b,off+k,none⟩=some (.int .u32 ((l[k]:Nat):Int)):=by
 obtain⟨b,off,hA,hb,hc⟩:=h.at_ (k:=k) (by rw[Ig];exact hk);rw[Dpa hk] at hc;exact⟨b,off,hA,hb,hc⟩
theorem Xe (A:Option Addr)(c B:Nat)(l:List Nat)(w:World)(hl:Lies w B A (U l))(ho:Nt.Ok l)(hc:l.length<=c)(hm:c<=9223372036854775807):
 Calls Tryz.prog 122 #[.slice A l.length c] w λe w'=>e= .returned (.slice A (Nt.digs (Nt.val l)).length (Nt.digs (Nt.val l)).length)/\w=w':=by
 have HL:=Qd hl;have HO:=Qd ho;clear hl ho;go_enter Tryz.func122,Tryz.ntmps122
 go_wp2_with fail
 go_loop [3] (λi=>∃n:Nat,n<=l.length/\i= .int .i64 (n:Int)/\Hid (∀j (hj:j<l.length),n<=j->l[j]=0)) (λi=>(intOf i).toNat)
 case atStart=>exact⟨l.length,Lr,rfl,Qd (λj hj h=>absurd hj (by omega))⟩
 case round=>
  obtain⟨n,hn,rfl,H⟩:=hrel;by_cases h0:0<n
  ·obtain⟨b,off,rfl,_,hcell⟩:=HL.out.limb (k:=n-1) (by omega)
   generalize hx:l[n-1]'(by omega)=x at hcell;have HX:=Qd hx;have hxb:x<4294967296:=by rw[<-hx];exact Nt.ok_get HO.out (by omega)
   clear hx;have hpos:(0:Int)<(n:Int):=by omega
   by_cases hz:x=0
   ·subst hz
    go_wp2_with fail
    go_round
    case rel=>
     refine⟨n-1,by omega,by go_num,Qd (λj hj h=>?_)⟩;by_cases e:j=n-1
     ·subst e;exact HX.out
     exact H.out j hj (by omega)
    case measure=>simp[intOf];omega
   have hne:((x:Int)==0)=false:=by simp;omega
   have HE:Hid ((Nt.digs (Nt.val l)).length=n):=by
    have:=Nt.take_eq_digs HO.out hn H.out (λ_=>by rw[HX.out];exact hz);rw[<-this,List.length_take];exact Nat.min_eq_left hn
   clear hz;go_wp2_with fail
   go_ret;exact⟨by rw[HE.out];rfl,rfl⟩
  obtain rfl:n=0:=by omega
  have HE:Hid ((Nt.digs (Nt.val l)).length=0):=Qd (by
   have:=Nt.take_eq_digs HO.out hn H.out (λh=>absurd h (by omega));rw[<-this];simp)
  go_wp2_with fail
  go_ret;exact⟨by rw[HE.out];rfl,rfl⟩
theorem Sg (A:Option Addr)(c B:Nat)(l:List Nat)(i:Nat)(w:World)(hl:Lies w B A (U l))(hc:l.length<=c)(hm:c<=9223372036854775807)(hi:i<=9223372036854775807)(ho:Nt.Ok l):
 Calls Tryz.prog 99 #[.slice A l.length c,.int .i64 (i:Int)] w λe w'=>e= .returned (.int .u64 ((l.getD i 0:Nat):Int))/\w=w':=by
 by_cases hlt:i<l.length
 ·obtain⟨b,off,rfl,_,hcell⟩:=hl.limb hlt
  have HG:Hid (l.getD i 0=l[i]):=Qd (by simp[List.getD_eq_getElem?_getD,hlt]);have hb:=Nt.ok_get ho hlt;clear hl ho;generalize l[i]=x at hcell HG hb;go_enter Tryz.func99,Tryz.ntmps99
  go_wp2_with fail
  go_ret;exact⟨Ra (by rw[HG.out]),rfl⟩
 have HG:Hid (l.getD i 0=0):=Qd (by rw[List.getD_eq_getElem?_getD,List.getElem?_eq_none (by omega)];rfl);clear hl ho;go_enter Tryz.func99,Tryz.ntmps99
 go_wp2_with fail
 go_ret;exact⟨Ra (by rw[HG.out];rfl),rfl⟩
theorem Fi (A A':Option Addr)(n n' c c':Nat)(w:World)(hc:n<=9223372036854775807)(hc':n'<=9223372036854775807):
 Calls Tryz.prog 98 #[.slice A n c,.slice A' n' c'] w λe w'=>e= .returned (.int .i64 ((max n n':Nat):Int))/\w=w':=by
 by_cases h:n'<n
 ·have HG:Hid (max n n'=n):=Qd (by omega)
  go_enter Tryz.func98,Tryz.ntmps98
  go_wp2_with fail
  go_ret;exact⟨Ra (by rw[HG.out]),rfl⟩
 have HG:Hid (max n n'=n'):=Qd (by omega);go_enter Tryz.func98,Tryz.ntmps98
 go_wp2_with fail
 go_ret;exact⟨Ra (by rw[HG.out]),rfl⟩
theorem C6 (w:World)(a b c:Nat):∃n,((w.drewN a).drewN b).drewN c=w.drewN n:=⟨a+b+c,by rw[World.drewN_drewN,World.drewN_drewN,Nat.add_assoc]⟩
theorem Rla (A A':Option Addr)(c c' B:Nat)(a b:List Nat)(w:World)(hx:Lies w B A (U a))(hy:Lies w B A' (U b))(ha:Nt.Ok a)(hb:Nt.Ok b)
 (hc:a.length<=c) (hc':b.length<=c') (hm:c<=9223372036854775807) (hm':c'<=9223372036854775807):
 Calls Tryz.prog 197 #[.slice A a.length c,.slice A' b.length c'] w λe w'=>e= .returned (.int .i64 (Nt.cmp (Nt.val a) (Nt.val b)))/\∃n,w'=w.drewN n:=by
 have ha':=Nt.digs_len_le ha;have hb':=Nt.digs_len_le hb;have HTA:Hid (a.take (Nt.digs (Nt.val a)).length=Nt.digs (Nt.val a)):=Qd (Nt.take_digs ha);have HTB:Hid (b.take (Nt.digs (Nt.val b)).length=Nt.digs (Nt.val b)):=Qd (Nt.take_digs hb);have HX:Hid (Lies w B A (U (Nt.digs (Nt.val a)))):=by
  have:=hx.take (Nt.digs (Nt.val a)).length;rw[show(U a).take (Nt.digs (Nt.val a)).length=U (a.take (Nt.digs (Nt.val a)).length) from List.map_take.symm,HTA.out] at this;exact this
 have HY:Hid (Lies w B A' (U (Nt.digs (Nt.val b)))):=by
  have:=hy.take (Nt.digs (Nt.val b)).length;rw[show(U b).take (Nt.digs (Nt.val b)).length=U (b.take (Nt.digs (Nt.val b)).length) from List.map_take.symm,HTB.out] at this;exact this
 have hta:=Xe A c B a w hx ha hc hm;have htb:=Xe A' c' B b w hy hb hc' hm';have TA:=Qd hta;have TB:=Qd htb;have HVA:=Qd (Nt.val_digs (Nt.val a));have HVB:=Qd (Nt.val_digs (Nt.val b));have HOA:=Qd (Nt.ok_digs (Nt.val a));have HOB:=Qd (Nt.ok_digs (Nt.val b));have HLT:=Qd (λh=>Nt.digs_len_mono (x:=Nt.val a) (y:=Nt.val b) h);have HGT:=Qd (λh=>Nt.digs_len_mono (x:=Nt.val b) (y:=Nt.val a) h);clear hx hy hta htb HTA HTB;generalize Nt.val a=x at*;generalize Nt.val b=y at*;generalize Nt.digs x=da at*;generalize Nt.digs y=db at*;by_cases h1:da.length<db.length
 ·have HE:=Qd (Nt.cmp_lt (HLT.out h1))
  go_enter Tryz.func197,Tryz.ntmps197
  go_wp2_with fail
  refine TA.out.mono ?_;rintro e w' ⟨rfl,rfl⟩;go_wp2_with fail
  refine TB.out.mono ?_;rintro e w' ⟨rfl,rfl⟩;go_wp2_with fail
  go_ret;exact⟨by rw[HE.out];rfl,0,rfl⟩
 by_cases h2:db.length<da.length
 ·have HE:=Qd (Nt.cmp_gt (HGT.out h2))
  go_enter Tryz.func197,Tryz.ntmps197
  go_wp2_with fail
  refine TA.out.mono ?_;rintro e w' ⟨rfl,rfl⟩;go_wp2_with fail
  refine TB.out.mono ?_;rintro e w' ⟨rfl,rfl⟩;go_wp2_with fail
  go_ret;exact⟨by rw[HE.out];rfl,0,rfl⟩
 have hlen:da.length<=db.length:=by omega
 have hlen':db.length<=da.length:=by omega
 go_enter Tryz.func197,Tryz.ntmps197
 go_wp2_with fail
 refine TA.out.mono ?_;rintro e w' ⟨rfl,rfl⟩;go_wp2_with fail
 refine TB.out.mono ?_;rintro e w' ⟨rfl,rfl⟩;go_wp2_with fail
 go_loopw [5] (λi wr=>∃k m:Nat,wr=w.drewN m/\k<=da.length/\i= .int .i64 ((k:Int)-1)/\Hid (da.drop k=db.drop k)) (λi _=>(intOf i+1).toNat)
 case atStart=>exact⟨da.length,0,rfl,Lr,by go_num,Qd (by rw[List.drop_length,List.drop_eq_nil_of_le hlen'])⟩
 case round=>
  obtain⟨k,m,rfl,hk,rfl,H⟩:=hrel;rcases k with _ |k
  ·have HE:Hid (Nt.cmp x y=0):=Qd (by
    have h:=H.out;rw[List.drop_zero,List.drop_zero] at h;rw[<-HVA.out,<-HVB.out,h];exact Nt.cmp_eq _)
   go_wp2_with fail
   go_ret;exact⟨by rw[HE.out];rfl,_,rfl⟩
  have hlt:k<da.length:=by omega
  have hlt':k<db.length:=by omega
  obtain⟨b1,off1,rfl,_,hc1⟩:=HX.out.limb hlt;obtain⟨b2,off2,rfl,_,hc2⟩:=HY.out.limb hlt';have P1:Hid (da[k]<db[k]->Nt.cmp x y= -1):=Qd (λh=>by
   have:=Nt.val_lt_of HOA.out hlt hlt' H.out h;rw[HVA.out,HVB.out] at this;exact Nt.cmp_lt this)
  have P2:Hid (db[k]<da[k]->Nt.cmp x y=1):=Qd (λh=>by
   have:=Nt.val_lt_of HOB.out hlt' hlt H.out.symm h;rw[HVA.out,HVB.out] at this;exact Nt.cmp_gt this)
  have P3:Hid (da[k]=db[k]->da.drop k=db.drop k):=Qd (λh=>by
   rw[List.drop_eq_getElem_cons hlt,List.drop_eq_getElem_cons hlt',H.out,h])
  generalize da[k]=d1 at hc1 P1 P2 P3;generalize db[k]=d2 at hc2 P1 P2 P3;have hk1:((k+1:Nat):Int)-1=(k:Int):=by omega
  rw[hk1];clear hk1;rcases Nat.lt_trichotomy d1 d2 with h |h |h
  ·have HE:=Qd (P1.out h)
   go_wp2_with fail
   go_quiet (fail)
   go_wp2_with fail
   go_ret;exact⟨by rw[HE.out];rfl,_,World.drewN_drewN _ _ _⟩
  ·have HE:=Qd (P3.out h)
   subst h;go_wp2_with fail
   go_quiet (fail)
   go_wp2_with fail
   go_quiet (fail)
   go_wp2_with fail
   go_roundw
   case rel=>exact⟨k,_,rfl,by omega,by go_num,Qd HE.out⟩
   case measure=>first|(simp[intOf];done) |(simp[intOf];omega)
  have HE:=Qd (P2.out h);go_wp2_with fail
  go_quiet (fail)
  go_wp2_with fail
  go_quiet (fail)
  go_wp2_with fail
  go_ret;exact⟨by rw[HE.out];rfl,C6 _ _ _ _⟩
theorem Faa (A A':Option Addr)(c c' B:Nat)(a b:List Nat)(w:World)(hx:Lies w B A (U a))(hy:Lies w B A' (U b))(ha:Nt.Ok a)(hb:Nt.Ok b)
 (hc:a.length<=c) (hc':b.length<=c') (hm:c<=9223372036854775807) (hm':c'<=9223372036854775807):
 Calls Tryz.prog 225 #[.slice A a.length c,.slice A' b.length c'] w λe w'=>e= .returned (.int .i64 (Nt.cmp (Nt.val a) (Nt.val b)))/\w=w':=by
 obtain⟨n,hn⟩:∃n,n=max a.length b.length:=⟨_,rfl⟩;have hna:a.length<=n:=by omega
 have hnb:b.length<=n:=by omega
 have hnm:n<=9223372036854775807:=by omega
 have HN:=Qd hn;have LA:=Qd (λi hi=>Sg A c B a i w hx hc hm hi ha);have LB:=Qd (λi hi=>Sg A' c' B b i w hy hc' hm' hi hb);have PA:=Qd (Nt.pad_len hna);have PB:=Qd (Nt.pad_len hnb);have GA:=Qd (λi (hi:i<(Nt.pad a n).length)=>Nt.pad_get hi);have GB:=Qd (λi (hi:i<(Nt.pad b n).length)=>Nt.pad_get hi);have HVA:=Qd (Nt.val_pad a n);have HVB:=Qd (Nt.val_pad b n);have HOA:=Qd (Nt.ok_pad ha n);have HOB:=Qd (Nt.ok_pad hb n);clear hx hy ha hb hn;generalize Nt.val a=x at*;generalize Nt.val b=y at*;generalize Nt.pad a n=da at*;generalize Nt.pad b n=db at*;go_enter Tryz.func225,Tryz.ntmps225
 go_wp2_with fail
 refine(Fi A A' a.length b.length c c' _ (by omega) (by omega)).mono ?_;rintro e w' ⟨rfl,rfl⟩;rw[<-HN.out];go_wp2_with fail
 go_loop [5] (λi=>∃k:Nat,k<=n/\i= .int .i64 ((k:Int)-1)/\Hid (da.drop k=db.drop k)) (λi=>(intOf i+1).toNat)
 case atStart=>exact⟨n,Lr,by go_num,Qd (by rw[List.drop_eq_nil_of_le (by rw[PA.out];omega),List.drop_eq_nil_of_le (by rw[PB.out];omega)])⟩
 case round=>
  obtain⟨k,hk,rfl,H⟩:=hrel;rcases k with _ |k
  ·have HE:Hid (Nt.cmp x y=0):=Qd (by
    have h:=H.out;rw[List.drop_zero,List.drop_zero] at h;rw[<-HVA.out,<-HVB.out,h];exact Nt.cmp_eq _)
   go_wp2_with fail
   go_ret;exact⟨by rw[HE.out];rfl,rfl⟩
  have hlt:k<da.length:=by rw[PA.out];omega
  have hlt':k<db.length:=by rw[PB.out];omega
  have P1:Hid (a.getD k 0<b.getD k 0->Nt.cmp x y= -1):=Qd (λh=>by
   rw[<-GA.out k hlt,<-GB.out k hlt'] at h;have:=Nt.val_lt_of HOA.out hlt hlt' H.out h;rw[HVA.out,HVB.out] at this;exact Nt.cmp_lt this)
  have P2:Hid (b.getD k 0<a.getD k 0->Nt.cmp x y=1):=Qd (λh=>by
   rw[<-GA.out k hlt,<-GB.out k hlt'] at h;have:=Nt.val_lt_of HOB.out hlt' hlt H.out.symm h;rw[HVA.out,HVB.out] at this;exact Nt.cmp_gt this)
  have P3:Hid (a.getD k 0=b.getD k 0->da.drop k=db.drop k):=Qd (λh=>by
   rw[<-GA.out k hlt,<-GB.out k hlt'] at h;rw[List.drop_eq_getElem_cons hlt,List.drop_eq_getElem_cons hlt',H.out,h])
  have CA:=Qd (LA.out k (by omega));have CB:=Qd (LB.out k (by omega));clear hlt hlt';generalize a.getD k 0=d1 at P1 P2 P3 CA;generalize b.getD k 0=d2 at P1 P2 P3 CB;have hk1:((k+1:Nat):Int)-1=(k:Int):=by omega
  rw[hk1];clear hk1;rcases Nat.lt_trichotomy d1 d2 with h |h |h
  ·have HE:=Qd (P1.out h)
   go_wp2_with fail
   refine CA.out.mono ?_;rintro e w' ⟨rfl,rfl⟩;go_wp2_with fail
   refine CB.out.mono ?_;rintro e w' ⟨rfl,rfl⟩;go_wp2_with fail
   go_ret;exact⟨by rw[HE.out];rfl,rfl⟩
  ·have HE:=Qd (P3.out h)
   subst h;go_wp2_with fail
   refine CA.out.mono ?_;rintro e w' ⟨rfl,rfl⟩;go_wp2_with fail
   refine CB.out.mono ?_;rintro e w' ⟨rfl,rfl⟩;go_wp2_with fail
   refine CA.out.mono ?_;rintro e w' ⟨rfl,rfl⟩;go_wp2_with fail
   refine CB.out.mono ?_;rintro e w' ⟨rfl,rfl⟩;go_wp2_with fail
   go_round
   case rel=>exact⟨k,by omega,by go_num,Qd HE.out⟩
   case measure=>first|(simp[intOf];done) |(simp[intOf];omega)
  have HE:=Qd (P2.out h);go_wp2_with fail
  refine CA.out.mono ?_;rintro e w' ⟨rfl,rfl⟩;go_wp2_with fail
  refine CB.out.mono ?_;rintro e w' ⟨rfl,rfl⟩;go_wp2_with fail
  refine CA.out.mono ?_;rintro e w' ⟨rfl,rfl⟩;go_wp2_with fail
  refine CB.out.mono ?_;rintro e w' ⟨rfl,rfl⟩;go_wp2_with fail
  go_ret;exact⟨by rw[HE.out];rfl,rfl⟩
def Blk (w:World)(g:Nat)(t:TypeId)(vs:List Value):Prop:=w.heap[g]? =some (.cells vs.toArray t (0,0))
theorem Blk.lt {w:World}{g:Nat}{t:TypeId}{vs:List Value}(h:Blk w g t vs):g<w.heap.size:=by
 rcases Nat.lt_or_ge g w.heap.size with hl |hl
 ·exact hl
 unfold Blk at h;rw[Array.getElem?_eq_none hl] at h;cases h
theorem Blk.cell {w:World}{g:Nat}{t:TypeId}{vs:List Value}(h:Blk w g t vs){i:Nat}{v:Value}(hi:vs[i]? =some v):w.cell? ⟨g,i,none⟩=some v:=by
 rw[cell_of_row w g i vs.toArray t (0,0) h];simpa using hi
theorem Blk.frozen {w:World}{g:Nat}{t:TypeId}{vs:List Value}(h:Blk w g t vs)(i:Nat):w.frozen? ⟨g,i,none⟩=false:=by
 unfold Blk at h;simp[World.frozen?,h]
theorem Blk.set_ {w:World}{g:Nat}{t:TypeId}{vs:List Value}(h:Blk w g t vs)(i:Nat)(v:Value):Blk (w.setCell ⟨g,i,none⟩ v) g t (vs.set i v):=by
 unfold Blk at h⊢;simp[World.setCell,Array.getElem?_modify,h]
theorem Blk.drewN {w:World}{g:Nat}{t:TypeId}{vs:List Value}(h:Blk w g t vs)(n:Nat):Blk (w.drewN n) g t vs:=h
theorem Blk.keep {w w':World}{g B:Nat}{t:TypeId}{vs:List Value}(h:Blk w g t vs)(hb:Below B w w')(hg:g<B):Blk w' g t vs:=(hb.block g hg).trans h
theorem Blk.new (w:World)(t:TypeId)(vs:List Value):Blk (w.alloc (.cells vs.toArray t)) w.heap.size t vs:=heap_alloc_new w _
theorem Blk.alloc {w:World}{g:Nat}{t:TypeId}{vs:List Value}(h:Blk w g t vs)(o:Obj):Blk (w.alloc o) g t vs:=(Below.heap_alloc w o g h.lt).trans h
theorem Blk.far {w:World}{g:Nat}{t:TypeId}{vs:List Value}(h:Blk w g t vs){p:Addr}(hp:g≠p.block)(v:Value):Blk (w.setCell p v) g t vs:=(Below.heap_setCell w p v g hp).trans h
theorem Blk.own {w:World}{g base n:Nat}{t:TypeId}{vs:List Value}(h:Blk w g t vs)(hb:base<=g)(hn:n<=vs.length)(hm:vs.length<=maxLen):w.ownsRow base t 1 (.slice (some ⟨g,0,none⟩) n vs.length) n (vs.take n):=
 ⟨by simp;omega,.inr ⟨g,vs.length,vs.toArray,rfl,hb,h,hn,hm,by simp,by simp⟩⟩
theorem Blk.lies {w:World}{g:Nat}{t:TypeId}{vs:List Value}(h:Blk w g t vs):Lies w w.heap.size (some ⟨g,0,none⟩) vs:=
 .inr ⟨g,0,rfl,h.lt,λi v hv=>by rw[Nat.zero_add];exact h.cell hv⟩
theorem Gaa {w:World}{base n:Nat}{t:TypeId}{v:Value}{xs:List Value}(h:w.ownsRow base t 1 v n xs)(hn:0<n):∃g vs,v= .slice (some ⟨g,0,none⟩) n vs.length/\base<=g/\Blk w g t vs/\vs.take n=xs/\n<=vs.length/\vs.length<=maxLen:=by
 rcases h.2 with⟨_,h0⟩ |⟨g,cap,cur,hv,hb,hh,h1,h2,h3,h4⟩
 ·omega
 rw[Nat.mul_one] at h3 h4;have hl:cur.toList.length=cap:=by simpa using h3
 exact⟨g,cur.toList,by rw[hl];exact hv,hb,by unfold Blk;simpa using hh,h4,by omega,by omega⟩
theorem Xx (z:Value)(n:Nat):(madeCells #[z] n).toList=List.replicate n z:=by
 apply List.ext_getElem?
 intro i;simp only[madeCells,Array.toList_map,Array.toList_range,List.getElem?_map,List.getElem?_replicate];by_cases h:i<n
 ·simp[h,Nat.mod_one]
 simp[h]
theorem Ad {P:Program}(w:World){ops:Array Oper}{rest:List Oper}{o:Oper}{a:Act}{Q:Exit->Act->World->Prop}
 (hg:o.guard=none) (l c:Operand) (t:TypeId) (hop:o.op=Op.makeSlice t l c)
 (e:TypeId) (i:TypeInfo) (z:Value) (h1:P.underlying t=some (.slice e)) (h2:P.info? e=some i) (h3:i.zero=some z) (h4:i.size=1) (hz:z.cells= #[z])
 (kl kc:IntKind) (L C:Int) (n m:Nat) (hl:a.eval l= .int kl L) (hc:a.eval c= .int kc C) (hL:L=(n:Int)) (hC:C=(m:Int)) (hnm:n<=m) (b2:i.bytes*m<=281474976710656) (b3:m<=9223372036854775807)
 (B:Nat) (w0:World) (hb:Below B w0 w) (hB:B<=w.heap.size)
 (hK:∀w',Blk w' w.heap.size e (List.replicate m z)->Below B w0 w'->Below w.heap.size w w'->w.heap.size<w'.heap.size->wpList P ops Q rest (a.put o.dst (.slice (some ⟨w.heap.size,0,none⟩) n m)) w'):
 wpList P ops Q (o::rest) a w:=by
 refine wpList_plain hg λK hK'=>?_;subst hL hC;have hrun:=run_make (P:=P) w t e i z h1 h2 h3 kl kc n m (by omega) (by omega) (by rw[<-Int.natCast_mul];omega) (by omega);simp only[Int.toNat_natCast,h4,Nat.mul_one,hz] at hrun;unfold Oper.wp;simp[execOp,hop,hl,hc,hrun,Result.andThen];refine hK' _ _ (hK _ ?_ (hb.alloc hB _) (Br.alloc Lr _) (by simp));rw[show madeCells #[z] m=(List.replicate m z).toArray from Array.toList_inj.1 (by rw[Xx])];exact Blk.new w e (List.replicate m z)
theorem Ej {a w:World}{g:Nat}(h:a.grownBy w (some g))(i:Nat)(v:Value):a.grownBy (w.setCell ⟨g,i,none⟩ v) (some g):=
 ⟨h.os,h.tape,h.output,by simpa [World.setCell] using h.size,λk hk hne=>(Below.heap_setCell w ⟨g,i,none⟩ v k (λe=>hne (by rw[e]))).trans (h.block k hk hne)⟩
theorem Blk.grown {w w':World}{g:Nat}{t:TypeId}{vs:List Value}{row:Option Nat}(h:Blk w g t vs)(hg:w.grownBy w' row)(hne:some g≠row):Blk w' g t vs:=(hg.block g h.lt hne).trans h
theorem Lies.grown {w w':World}{B:Nat}{A:Option Addr}{vs:List Value}{row:Option Nat}(h:Lies w B A vs)(hB:B<=w.heap.size)(hg:w.grownBy w' row)(hr:∀g,row=some g->B<=g):Lies w' B A vs:=
 h.keep λp hp=>World.cell?_of_block (hg.block p.block (by omega) (λe=>by have:=hr _ e.symm;omega))
theorem Rda (x y c:Nat)(w:World)(hx:x<4294967296)(hy:y<4294967296)(hc:c<=1):
 Calls Tryz.prog 228 #[.int .u32 (x:Int),.int .u32 (y:Int),.int .u32 (c:Int)] w λe w'=>∃s d:Nat,e= .returned (.tuple #[.int .u32 (s:Int),.int .u32 (d:Int)])/\s<4294967296/\d<=1/\Hid (x+y+c=s+4294967296*d)/\w=w':=by
 go_enter Tryz.func228,Tryz.ntmps228
 go_wp2_with fail
 go_ret2
 exact⟨(x+y+c)%4294967296,(x+y+c)/4294967296,D8 (congrArg (Value.int .u32) (by omega)) (congrArg (Value.int .u32) (by omega)),by omega,by omega,Qd (by omega),rfl⟩
theorem top_bit {n:Nat}(h:n<4294967296):n/2147483648=if n.testBit 31 then 1 else 0:=by
 rw[Nat.testBit_eq_decide_div_mod_eq];rw[show(2:Nat)^31=2147483648 from rfl];by_cases e:n/2147483648%2=1
 ·rw[if_pos (by simpa using e)];omega
 rw[if_neg (by simpa using e)];omega
theorem Lz {n:Nat}(h:n<4294967296):n.testBit 31=decide (2147483648<=n):=by
 rw[Nat.testBit_eq_decide_div_mod_eq];rw[show(2:Nat)^31=2147483648 from rfl];by_cases e:2147483648<=n
 ·rw[decide_eq_true e,decide_eq_true (by omega)]
 rw[decide_eq_false e,decide_eq_false (by omega)]
theorem Haa (x y c:Nat)(hx:x<4294967296)(hy:y<4294967296)(hc:c<=1):
 (bits BinOp.or IntKind.u32 (bits BinOp.and IntKind.u32 (bits BinOp.xor IntKind.u32 IntKind.u32.max ↑x) ↑y) (bits BinOp.and IntKind.u32 (bits BinOp.xor IntKind.u32 IntKind.u32.max (bits BinOp.xor IntKind.u32 ↑x ↑y)) ((↑x- ↑y- ↑c)%4294967296)))/2147483648=((if x<y+c then 1 else 0:Nat):Int):=by
 obtain⟨d,hd⟩:∃d:Nat,(((x:Int)-y-c)%4294967296)=(d:Int):=⟨(((x:Int)-y-c)%4294967296).toNat,by omega⟩;have hdl:d<4294967296:=by omega
 rw[hd];have m:(IntKind.u32.max:Int)=((4294967295:Nat):Int):=by decide
 have l1:4294967295^^^x<4294967296:=Nat.xor_lt_two_pow (n:=32) (by omega) hx;have l2:x^^^y<4294967296:=Nat.xor_lt_two_pow (n:=32) hx hy;have l3:4294967295^^^(x^^^y)<4294967296:=Nat.xor_lt_two_pow (n:=32) (by omega) l2;have l4:(4294967295^^^x)&&&y<4294967296:=Nat.and_lt_two_pow (n:=32) _ hy;have l5:(4294967295^^^(x^^^y))&&&d<4294967296:=Nat.and_lt_two_pow (n:=32) _ hdl;have l6:((4294967295^^^x)&&&y)|||((4294967295^^^(x^^^y))&&&d)<4294967296:=Nat.or_lt_two_pow (n:=32) l4 l5
 rw[m,u32_xor_nat _ _ (by omega) hx,u32_xor_nat _ _ hx hy,u32_xor_nat _ _ (by omega) l2,u32_and_nat _ _ l1 hy,u32_and_nat _ _ l3 hdl,u32_or_nat _ _ l4 l5];have hm:(4294967295:Nat).testBit 31=true:=by decide
 have key:=top_bit l6;rw[Nat.testBit_or,Nat.testBit_and,Nat.testBit_and,Nat.testBit_xor,Nat.testBit_xor,Nat.testBit_xor,hm,Lz hx,Lz hy,Lz hdl] at key;have e:((((4294967295^^^x)&&&y)|||((4294967295^^^(x^^^y))&&&d))/2147483648:Nat)=if x<y+c then 1 else 0:=by
  rw[key];by_cases h1:2147483648<=x<;>by_cases h2:2147483648<=y<;>by_cases h3:2147483648<=d<;>by_cases h4:x<y+c<;>simp[h1,h2,h3,h4]<;>omega
 rw[<-e];generalize((4294967295^^^x)&&&y)|||((4294967295^^^(x^^^y))&&&d)=z
 omega
theorem Hw (x y c:Nat)(w:World)(hx:x<4294967296)(hy:y<4294967296)(hc:c<=1):
 Calls Tryz.prog 227 #[.int .u32 (x:Int),.int .u32 (y:Int),.int .u32 (c:Int)] w λe w'=>∃s d:Nat,e= .returned (.tuple #[.int .u32 (s:Int),.int .u32 (d:Int)])/\s<4294967296/\d<=1/\Hid (x+4294967296*d=s+y+c)/\w=w':=by
 have HB:=Qd (Haa x y c hx hy hc);go_enter Tryz.func227,Tryz.ntmps227
 go_wp2_with fail
 go_ret2
 refine⟨(((x:Int)-y-c)%4294967296).toNat,if x<y+c then 1 else 0,D8 (congrArg (Value.int .u32) (by omega)) (congrArg (Value.int .u32) HB.out),by omega,by split<;>omega,Qd ?_,rfl⟩
 split<;>omega
theorem Ye:(Tryz.prog.info? 90).map (λi=>(i.zero,i.size,i.bytes))=some (some (.int .u32 0),1,4):=by kernel_rfl
theorem Xha:(Tryz.prog.info? 90).map (·.size)=some 1:=by kernel_rfl
theorem Zka (l:List Nat):∀v∈U l,v.oneCell'=true:=by
 intro v hv;obtain⟨n,_,rfl⟩:=List.mem_map.1 hv;rfl
theorem Yl (l:List Nat)(n:Nat):(U l).take n=U (l.take n):=List.map_take.symm
theorem Lies.digs {w:World}{B:Nat}{A:Option Addr}{l:List Nat}(h:Lies w B A (U l))(ho:Nt.Ok l):Lies w B A (U (Nt.digs (Nt.val l))):=by
 have:=h.take (Nt.digs (Nt.val l)).length;rw[Yl,Nt.take_digs ho] at this;exact this
theorem Lies.src {w:World}{B:Nat}{A:Option Addr}{vs:List Value}(h:Lies w B A vs)(hp:0<vs.length):∃ad,A=some ad/\∀(j:Nat) (v:Value),vs[j]? =some v->w.cell? (ad.add j)=some v:=by
 rcases h with h |⟨b,off,hA,_,hc⟩
 ·subst h;simp at hp
 refine⟨⟨b,off,none⟩,hA,λj v hv=>?_⟩;have:=hc j v hv;unfold Addr.add
 split
 ·rename_i e;subst e;simpa using this
 exact this
theorem Iaa {w:World}{ops:Array Oper}{rest:List Oper}{o:Oper}{a:Act}{Q:Exit->Act->World->Prop}(hgd:o.guard=none)(d s:Operand)
 (ho:o.op= .call {callee:= .builtin .copy,args:= #[d,s],argTypes:= #[22,22]})
 (A:Option Addr) (dCap sCap g:Nat) (ds:List Nat) (hd:a.eval d= .slice (some ⟨g,0,none⟩) ds.length dCap) (hs:a.eval s= .slice A ds.length sCap)
 (cur:List Value) (hg:Blk w g 90 cur) (hfit:ds.length<=cur.length) (B0:Nat) (hsrc:Lies w B0 A (U ds)) (B:Nat) (w0:World) (hb:Below B w0 w) (hBg:B<=g)
 (h:∀w',Blk w' g 90 (U ds++cur.drop ds.length)->Below B w0 w'->wpList Tryz.prog ops Q rest (a.put o.dst (goInt ds.length)) w'):
 wpList Tryz.prog ops Q (o::rest) a w:=by
 refine wpList_copy_splice hgd d s _ _ ho 90 Tryz.underlying22 Xha _ _ _ _ _ _ hd hs g 0 cur 90 hg (U ds) (by simp[U]) (λhp=>⟨rfl,hsrc.src hp⟩) (by simp[U];omega) (Zka ds) B w0 hb hBg ?_;intro w' hw' hb';rw[Ig];refine h w' ?_ hb';have:=hw'.out;unfold Blk;rw[this];simp[splice,Ig]
theorem Oh (A:Option Addr)(c B:Nat)(l:List Nat)(w:World)(hl:Lies w B A (U l))(hB:B<=w.heap.size)(ho:Nt.Ok l)(hc:l.length<=c)(hm:c<=9223372036854775807)(hs:l.length<=70368744177664):
 Calls Tryz.prog 120 #[.slice A l.length c] w λe w'=>e= .returned (.slice (some ⟨w.heap.size,0,none⟩) (Nt.digs (Nt.val l)).length (Nt.digs (Nt.val l)).length)/\Blk w' w.heap.size 90 (U (Nt.digs (Nt.val l)))/\Below w.heap.size w w':=by
 obtain⟨i0,hi,hz0,hz1,hz2⟩:=info_parts Ye;have hd:=Nt.digs_len_le ho;have HT:=Qd (Xe A c B l w hl ho hc hm);have HL:=Qd ((hl.digs ho).more hB);clear hl;generalize Nt.digs (Nt.val l)=ds at*;go_enter Tryz.func120,Tryz.ntmps120
 go_wp2_with fail
 refine HT.out.mono ?_;rintro e w' ⟨rfl,rfl⟩;go_wp2_with (first
  |(at_make;refine Ad _ rfl _ _ 22 rfl 90 i0 (.int .u32 0) Tryz.underlying22 hi hz0 hz1 rfl .i64 .i64 _ _ ds.length ds.length rfl rfl rfl rfl Lr (by rw[hz2];omega) (by omega) w.heap.size w Br Lr ?_;intro w1 hblk1 hb1 hb1' hlt1)
  |(refine Iaa (by rfl) (.tmp 9) (.tmp 10) (by rfl) A ds.length ds.length w.heap.size ds (by rfl) (by rfl) _ hblk1 (by simp) w.heap.size (HL.out.below hb1) w.heap.size w hb1 Lr ?_;intro w2 hblk2 hb2))
 go_ret;rw[List.drop_eq_nil_of_le (by simp),List.append_nil] at hblk2;exact⟨rfl,hblk2,hb2⟩
def IsRes (w:World)(v:Value)(ds:List Nat):Prop:=∃A c,v= .slice A ds.length c/\ds.length<=c/\c<=9223372036854775807/\(A=none->c=0)/\Lies w w.heap.size A (U ds)
theorem IsRes.of_own {w:World}{base:Nat}{v:Value}{ds:List Nat}(h:w.ownsRow base 90 1 v ds.length (U ds)):IsRes w v ds:=by
 obtain⟨A,c,rfl,h1,h2⟩:=Kb h;refine⟨A,c,rfl,h1,h2,?_,Lies.of_own h⟩;rintro rfl;rcases h.2 with⟨hv,_⟩ |⟨g,cap,cur,hv,_⟩
 ·injection hv
 injection hv with e;cases e
theorem IsRes.none_ (w:World):IsRes w (.slice none 0 0) []:=⟨none,0,rfl,Lr,by omega,λ_=>rfl,.inl rfl⟩
theorem IsRes.below {w w':World}{v:Value}{ds:List Nat}(h:IsRes w v ds)(hb:Below w.heap.size w w'):IsRes w' v ds:=by
 obtain⟨A,c,h1,h2,h3,h4,h5⟩:=h;exact⟨A,c,h1,h2,h3,h4,(h5.below hb).more hb.size⟩
theorem Pl (A:Option Addr)(c B:Nat)(l:List Nat)(w:World)(hl:Lies w B A (U l))(hB:B<=w.heap.size)(ho:Nt.Ok l)(hc:l.length<=c)(hm:c<=9223372036854775807)(hA:A=none->c=0)(hs:l.length<=17592186044416):
 Calls Tryz.prog 97 #[.slice A l.length c] w λe w'=>∃v,e= .returned v/\IsRes w' v (Nt.digs (Nt.val l))/\Below w.heap.size w w':=by
 obtain⟨i0,hi,hz0,hz1,hz2⟩:=info_parts Ye;have HL:=Qd hl;have HO:=Qd ho;have HA:=Qd hA;clear hl ho hA;go_enter Tryz.func97,Tryz.ntmps97
 go_wp2_with fail
 go_loop [3] (λi=>∃n:Nat,n<=l.length/\i= .int .i64 (n:Int)/\Hid (∀j (hj:j<l.length),n<=j->l[j]=0)) (λi=>(intOf i).toNat)
 case atStart=>exact⟨l.length,Lr,rfl,Qd (λj hj h=>absurd hj (by omega))⟩
 case round=>
  obtain⟨n,hn,rfl,H⟩:=hrel;by_cases h0:0<n
  ·obtain⟨b,off,rfl,hbb,hcell⟩:=HL.out.limb (k:=n-1) (by omega)
   generalize hx:l[n-1]'(by omega)=x at hcell;have HX:=Qd hx;have hxb:x<4294967296:=by rw[<-hx];exact Nt.ok_get HO.out (by omega)
   clear hx;have hpos:(0:Int)<(n:Int):=by omega
   by_cases hz:x=0
   ·subst hz
    go_wp2_with fail
    go_round
    case rel=>
     refine⟨n-1,by omega,by go_num,Qd (λj hj h=>?_)⟩;by_cases e:j=n-1
     ·subst e;exact HX.out
     exact H.out j hj (by omega)
    case measure=>simp[intOf];omega
   have hne:((x:Int)==0)=false:=by simp;omega
   have HE:Hid (Nt.digs (Nt.val l)=l.take n):=Qd (Nt.take_eq_digs HO.out hn H.out (λ_=>by rw[HX.out];exact hz)).symm;have HLT:Hid ((l.take n).length=n):=Qd (by rw[List.length_take];exact Nat.min_eq_left hn);have HLT2:=Qd (HL.out.take n);clear hz;go_wp2_with (at_builtin;refine wpList_append_own _ rfl _ _ 22 rfl w.heap.size 90 i0 (.int .u32 0) 1 4 Tryz.underlying22 hi hz0 hz1 hz2 rfl (by decide) (.slice none 0 0) 0 [] rfl (World.ownsRow_nil _ _ _ _) ⟨b,off,none⟩ n c (U (l.take n)) rfl (by rw[Ig,HLT.out];omega) (λj v hv=>by rw[<-Yl] at hv;obtain⟨ad,h1,h2⟩:=HLT2.out.src (by rw[Yl,Ig,HLT.out];exact h0);injection h1 with h1;subst h1;exact h2 j v hv) (Zka _) (by unfold maxLen;omega) (by omega) Lr ?_;intro v1 w1 hown1 hgrow1 hnn1)
   go_ret;refine⟨_,rfl,?_,Br.grown hgrow1 Lr (by simp[Value.ownBlock])⟩;rw[HE.out];refine IsRes.of_own (base:=w.heap.size) ?_;rw[HLT.out]
   simpa using hown1
  obtain rfl:n=0:=by omega
  have HE:Hid (Nt.digs (Nt.val l)=[]):=Qd (by
   have:=Nt.take_eq_digs HO.out hn H.out (λh=>absurd h (by omega));rw[<-this];simp)
  rcases A with _ |ad
  ·have hc0:c=0:=HA.out rfl
   subst hc0;go_wp2_with (at_builtin;refine wpList_append_own_none rfl _ _ 22 rfl w.heap.size 90 i0 1 Tryz.underlying22 hi (.slice none 0 0) 0 [] rfl (World.ownsRow_nil _ _ _ _) rfl ?_)
   go_ret;exact⟨_,rfl,by rw[HE.out];exact IsRes.none_ _,Br⟩
  go_wp2_with (at_builtin;refine wpList_append_own _ rfl _ _ 22 rfl w.heap.size 90 i0 (.int .u32 0) 1 4 Tryz.underlying22 hi hz0 hz1 hz2 rfl (by decide) (.slice none 0 0) 0 [] rfl (World.ownsRow_nil _ _ _ _) ad 0 c [] rfl (by rfl) (λj v hv=>by simp at hv) (by intro u hu;cases hu) (by unfold maxLen;omega) (by omega) Lr ?_;intro v1 w1 hown1 hgrow1 hnn1)
  go_ret;refine⟨_,rfl,?_,Br.grown hgrow1 Lr (by simp[Value.ownBlock])⟩;rw[HE.out];exact IsRes.of_own (base:=w.heap.size) hown1
end Go.Proofs.YtceplkpjnebnfaaGreatDoor
