/- Texts of this proof, joined. -/
import Derived.Test.YtceplkpjnebnfaaGreatDoorM4
import Derived.ProofKit
import Derived.OpenShut
import Derived.ChangeOld
set_option linter.all false
set_option maxHeartbeats 8000000
set_option maxRecDepth 100000
namespace Go.Proofs.YtceplkpjnebnfaaGreatDoor
open Go.RowKit
def Ds:Prop:=∀(A A':Option Addr) (c c' B x y:Nat) (w:World),Lies w B A (U (Nt.digs x))->Lies w B A' (U (Nt.digs y))->B<=w.heap.size->(Nt.digs x).length<=c->(Nt.digs y).length<=c'->c<=9223372036854775807->c'<=9223372036854775807->
 (Nt.digs x).length<=1000000->2<=(Nt.digs y).length->y<=x->
 Calls Tryz.prog 198 #[.slice A (Nt.digs x).length c,.slice A' (Nt.digs y).length c'] w λe w'=>∃v1 v2,e= .returned (.tuple #[v1,v2])/\IsRes w' v1 (Nt.digs (x/y))/\IsRes w' v2 (Nt.digs (x%y))/\Below w.heap.size w w'
theorem Ht (A A':Option Addr)(c c' B:Nat)(a b:List Nat)(w:World)(hx:Lies w B A (U a))(hy:Lies w B A' (U b))(hB:B<=w.heap.size)(ha:Nt.Ok a)(hb:Nt.Ok b)
 (hc:a.length<=c) (hc':b.length<=c') (hm:c<=9223372036854775807) (hm':c'<=9223372036854775807) (hs:a.length<=1000000) (hs':b.length<=1000000) (HLG:(Nt.digs (Nt.val b)).length<=1\/Ds):
 Calls Tryz.prog 182 #[.slice A a.length c,.slice A' b.length c'] w λe w'=>∃v1 v2,e= .returned (.tuple #[v1,v2,.bool (decide (Nt.val b≠0))])/\
  IsRes w' v1 (Nt.digs (Nt.quo (Nt.val a) (Nt.val b)))/\IsRes w' v2 (Nt.digs (Nt.rest (Nt.val a) (Nt.val b)))/\Below w.heap.size w w':=by
 have ha':=Nt.digs_len_le ha;have hb':=Nt.digs_len_le hb;have TA:=Qd (Xe A c B a w hx ha hc hm);have TB:=Qd (Xe A' c' B b w hy hb hc' hm');have LA:=Qd ((hx.digs ha).more hB);have LB:=Qd ((hy.digs hb).more hB);have OA:=Qd (Nt.ok_digs (Nt.val a));have OB:=Qd (Nt.ok_digs (Nt.val b));have VA:=Qd (Nt.val_digs (Nt.val a));have VB:=Qd (Nt.val_digs (Nt.val b));have ZB:Hid ((Nt.digs (Nt.val b)).length=0->Nt.val b=0):=Qd (λh=>Nt.digs_nil_iff.1 (List.eq_nil_of_length_eq_zero h));have hla:(Nt.digs (Nt.val a)).length<=1000000:=by omega
 have hlb:(Nt.digs (Nt.val b)).length<=1000000:=by omega
 clear hx hy ha hb;generalize Nt.val a=x at*;generalize Nt.val b=y at*;by_cases h0:y=0
 ·subst h0
  have HZ:Hid ((Nt.digs 0).length=0):=Qd (by rw[Nt.digs_zero];rfl);go_enter Tryz.func182,Tryz.ntmps182
  go_wp2_with fail
  refine TA.out.mono ?_;rintro e w' ⟨rfl,rfl⟩;go_wp2_with fail
  refine TB.out.mono ?_;rintro e w' ⟨rfl,rfl⟩;rw[HZ.out];go_wp2_with fail
  go_ret3
  refine⟨_,_,rfl,?_,?_,Br⟩
  ·rw[Nt.quo_zero,Nt.digs_zero];exact IsRes.none_ _
  rw[Nt.rest_zero,Nt.digs_zero];exact IsRes.none_ _
 have HP:Hid (decide (y≠0)=true):=Qd (by simp;omega);have hlp:(Nt.digs y).length≠0:=λh=>h0 (ZB.out h);have hle:(((Nt.digs y).length:Int)==0)=false:=by simp;intro h;exact hlp (by rw[h];rfl)
 have HI1:Hid (Nt.quo x y=x/y):=Qd rfl;have HI2:Hid (Nt.rest x y=x%y):=Qd (Nt.rest_pos h0);have CM:=Qd (Rla A A' (Nt.digs x).length (Nt.digs y).length w.heap.size (Nt.digs x) (Nt.digs y) w LA.out LB.out OA.out OB.out Lr Lr (by omega) (by omega));rw[VA.out,VB.out] at CM;rw[HP.out,HI1.out,HI2.out];have hylp:0<y:=by omega
 clear HI1 HI2;by_cases hlt:x<y
 ·have HE:Hid (Nt.cmp x y= -1):=Qd (Nt.cmp_lt hlt)
  have HQ:Hid (x/y=0):=Qd (Nat.div_eq_of_lt hlt);have HR:Hid (x%y=x):=Qd (Nat.mod_eq_of_lt hlt);have NA:=Qd (λn=>Oh A (Nt.digs x).length w.heap.size (Nt.digs x) (w.drewN n) LA.out Lr OA.out Lr (by omega) (by omega));rw[VA.out] at NA;rw[HQ.out,HR.out,Nt.digs_zero];go_enter Tryz.func182,Tryz.ntmps182
  go_wp2_with fail
  refine TA.out.mono ?_;rintro e w' ⟨rfl,rfl⟩;go_wp2_with fail
  refine TB.out.mono ?_;rintro e w' ⟨rfl,rfl⟩;go_wp2_with fail
  refine CM.out.mono ?_;rintro e w' ⟨rfl,n1,rfl⟩;rw[HE.out];go_wp2_with fail
  refine(NA.out n1).mono ?_;rintro e w1 ⟨rfl,hblk1,hb1⟩;go_wp2_with fail
  go_ret3
  refine⟨_,_,rfl,IsRes.none_ _,⟨_,_,rfl,Lr,by omega,(λh=>by cases h),hblk1.lies⟩,?_⟩;exact⟨hb1.os,hb1.tape,hb1.output,hb1.size,hb1.block⟩
 have hcmp:decide (Nt.cmp x y<0)=false:=by rw[decide_eq_false_iff_not,Nt.cmp_neg];omega
 by_cases h1:(Nt.digs y).length=1
 ·have hl1:(((Nt.digs y).length:Int)==1)=true:=by simp[h1]
  have NA:=Qd (λn=>Oh A (Nt.digs x).length w.heap.size (Nt.digs x) (w.drewN n) LA.out Lr OA.out Lr (by omega) (by omega));rw[VA.out] at NA;have hy32:y<4294967296:=by
   have:=Nt.val_lt OB.out;rw[VB.out,h1] at this
   simpa using this
  have HY:Hid (Nt.digs y=[y]):=Qd (by
   rw[Nt.digs_pos h0,Nat.mod_eq_of_lt hy32,Nat.div_eq_of_lt hy32,Nt.digs_zero])
  obtain⟨bb,offb,rfl,hbb,HCB⟩:∃b off,A'=some ⟨b,off,none⟩/\b<w.heap.size/\Hid (∀wx:World,Below w.heap.size w wx->wx.cell? ⟨b,off,none⟩=some (.int .u32 (y:Int))):=by
   have:=LB.out;rw[HY.out] at this;obtain⟨b,off,h1,h2,h3⟩:=this.limb (k:=0) (by simp);exact⟨b,off,h1,h2,Qd (λwx hwx=>(hwx.cell (p:=⟨b,off,none⟩) h2).trans (by simpa using h3))⟩
  have hone:1<=(Nt.digs y).length:=by omega
  clear h1;go_enter Tryz.func182,Tryz.ntmps182
  go_wp2_with fail
  refine TA.out.mono ?_;rintro e w' ⟨rfl,rfl⟩;go_wp2_with fail
  refine TB.out.mono ?_;rintro e w' ⟨rfl,rfl⟩;go_wp2_with fail
  refine CM.out.mono ?_;rintro e w' ⟨rfl,n1,rfl⟩;go_wp2_with fail
  refine(NA.out n1).mono ?_;rintro e w1 ⟨rfl,hblk1,hb1⟩;have hb0:Below w.heap.size w w1:=⟨hb1.os,hb1.tape,hb1.output,hb1.size,hb1.block⟩;have hblk0:Blk w1 w.heap.size 90 (U (Nt.digs x)++[]):=by rw[List.append_nil];exact hblk1
  clear hb1 hblk1;have hcell:=HCB.out w1 hb0;go_wp2_with fail
  refine(Yq w.heap.size (Nt.digs x).length y (Nt.digs x) [] w1 hblk0 OA.out hylp hy32 (by omega)).mono ?_;rintro e w2 ⟨cur,rfl,hblk2,HC,hgr2⟩;have hb2:Below w.heap.size w w2:=hb0.grown hgr2 hb0.size (λk hk=>by injection hk with hk;omega);rw[List.append_nil] at hblk2;have HTR:=Xe (some ⟨w.heap.size,0,none⟩) (Nt.digs x).length w2.heap.size cur w2 hblk2.lies HC.out.2.1 (by rw[HC.out.1];exact Lr) (by omega);rw[HC.out.1,HC.out.2.2,VA.out] at HTR;have HTR2:=Qd HTR;have HQL:(Nt.digs (x/y)).length<=(Nt.digs x).length:=by have:=Nt.digs_len_le HC.out.2.1;rw[HC.out.1,HC.out.2.2,VA.out] at this;exact this
  have HQ:Hid (Lies w2 w2.heap.size (some ⟨w.heap.size,0,none⟩) (U (Nt.digs (x/y)))):=Qd (by have:=hblk2.lies.digs HC.out.2.1;rw[HC.out.2.2,VA.out] at this;exact this);have hrl:x%y<4294967296:=by have:=Nat.mod_lt x hylp;omega
  rw[VA.out];generalize hrr:x%y=rr at*;have HRR:=Qd hrr;clear hrr HTR hblk2;go_wp2_with fail
  refine HTR2.out.mono ?_;rintro e w' ⟨rfl,rfl⟩;have hsz2:=hb2.size;have NR:=Qd (Oh (some ⟨w2.heap.size,0,none⟩) 1 (w2.heap.size+1) [rr] (w2.alloc (.cells #[.int .u32 (rr:Int)] 90)) (Lies.new w2 [.int .u32 (rr:Int)] 90) (by simp) (λd hd=>by simp at hd;omega) (by simp) (by omega) (by simp));have HV1:Hid (Nt.val [rr]=rr):=Qd (by simp[Nt.val]);rw[HV1.out] at NR;go_wp2_with fail
  refine NR.out.mono ?_;rintro e w3 ⟨rfl,hblk3,hb3⟩;have hb23:Below w2.heap.size w2 w3:=(Br.alloc Lr _).trans (hb3.mono (by simp));have hrl2:(Nt.digs rr).length<=1:=Nt.digs_len_lt (by simpa using hrl);go_wp2_with fail
  go_ret3
  refine⟨_,_,rfl,⟨_,_,rfl,Lr,by omega,(λh=>by cases h),(HQ.out.below hb23).more hb23.size⟩,?_,hb2.trans (hb23.mono hsz2)⟩;rw[HRR.out];have hli:=hblk3.lies;rw[show(w2.alloc (.cells #[.int .u32 (rr:Int)] 90)).heap.size=w2.heap.size+1 from by simp] at hli;exact⟨_,_,rfl,Lr,by omega,(λh=>by cases h),hli⟩
 have hl1:(((Nt.digs y).length:Int)==1)=false:=by simp;intro h;exact h1 (by omega)
 have hlong:Ds:=by
  rcases HLG with h |h
  ·exfalso;omega
  exact h
 have LG:=Qd (λn=>hlong A A' (Nt.digs x).length (Nt.digs y).length w.heap.size x y (w.drewN n) LA.out LB.out Lr Lr Lr (by omega) (by omega) hla (by omega) (by omega));clear hlong h1 HLG;go_enter Tryz.func182,Tryz.ntmps182
 go_wp2_with fail
 refine TA.out.mono ?_;rintro e w' ⟨rfl,rfl⟩;go_wp2_with fail
 refine TB.out.mono ?_;rintro e w' ⟨rfl,rfl⟩;go_wp2_with fail
 refine CM.out.mono ?_;rintro e w' ⟨rfl,n1,rfl⟩;go_wp2_with fail
 refine(LG.out n1).mono ?_;rintro e w1 ⟨v1,v2,rfl,hr1,hr2,hb1⟩;go_wp2_with fail
 go_ret3
 exact⟨_,_,rfl,hr1,hr2,⟨hb1.os,hb1.tape,hb1.output,hb1.size,hb1.block⟩⟩
section
open Go.RowKit
end
theorem Pz (A:Option Addr)(c B:Nat)(l:List Nat)(w:World)(hl:Lies w B A (U l))(ho:Nt.Ok l)(h2:l.length<=2):
 Calls Tryz.prog 181 #[.slice A l.length c] w λe w'=>e= .returned (.int .u64 (Nt.val l:Int))/\w=w':=by
 have HL:=Qd hl;have HO:=Qd ho;clear hl ho;go_enter Tryz.func181,Tryz.ntmps181
 go_wp2_with fail
 go_loop [3,8] (λv i=>∃k n:Nat,k<=l.length/\n<18446744073709551616/\i= .int .i64 (k:Int)/\v= .int .u64 (n:Int)/\Hid (n=Nt.val (l.take k))) (λ_ i=>l.length-(intOf i).toNat)
 case atStart=>exact⟨0,0,Nat.zero_le _,by omega,rfl,rfl,Qd (by simp[Nt.val])⟩
 case round=>
  obtain⟨k,n,hk,hn,rfl,rfl,H⟩:=hrel;by_cases hlt:k<l.length
  ·obtain⟨b,off,rfl,_,hcell⟩:=HL.out.limb hlt
   have hxb:=Nt.ok_get HO.out hlt;have ST:=Qd (Nt.val_take_succ hlt);have VL:=Nt.val_lt (Nt.ok_take HO.out k);rw[<-H.out,List.length_take,Nat.min_eq_left hk] at VL;generalize l[k]=x at hcell hxb ST;have hk2:k=0\/k=1:=by omega
   rcases hk2 with rfl |rfl
   ·have hn0:n=0:=by simpa using VL
    subst hn0;rw[Nat.add_zero] at hcell;have hor:bits BinOp.or IntKind.u64 0 (x:Int)=(x:Int):=by
     have:=u64_or_nat 0 x (by omega) (by omega);rw[Nat.zero_or] at this;exact this
    go_wp2_with fail
    refine⟨⟨1,x,by omega,by omega,rfl,?_,Qd (by rw[ST.out];simp[Nt.val])⟩,by simp[intOf];omega⟩;rfl
   have hn1:n<4294967296:=by simpa using VL
   have hor:bits BinOp.or IntKind.u64 (n:Int) ((x:Int)*4294967296)=((x*4294967296+n:Nat):Int):=by
    have:=u64_or_nat n (x*4294967296) (by omega) (by omega);rw[Nat.or_comm,nat_join 32 (x*4294967296) n (by omega) (by omega)] at this;rw[<-this,Int.natCast_mul];rfl
   go_wp2_with fail
   refine⟨⟨2,x*4294967296+n,by omega,by omega,rfl,?_,Qd (by rw[ST.out,<-H.out];omega)⟩,by simp[intOf];omega⟩;exact congrArg (Value.int .u64) (by omega)
  go_wp2_with fail
  go_ret;exact⟨Ra (by rw[H.out,List.take_of_length_le (by omega)]),rfl⟩
theorem Yda {x:Nat}(hx:x<18446744073709551616):Nt.val [x%4294967296,x/4294967296]=x:=by simp[Nt.val];omega
theorem Zda (a b:Nat)(w:World)(ha:a<18446744073709551616)(hb:b<18446744073709551616):
 Calls Tryz.prog 180 #[.int .u64 (a:Int),.int .u64 (b:Int)] w λe w'=>∃v,e= .returned v/\IsRes w' v (Nt.digs (Nat.gcd a b))/\Below w.heap.size w w':=by
 go_enter Tryz.func180,Tryz.ntmps180
 go_wp2_with fail
 go_loopw [0,1] (λxv yv wr=>∃x y m:Nat,wr=w.drewN m/\x<18446744073709551616/\y<18446744073709551616/\xv= .int .u64 (x:Int)/\yv= .int .u64 (y:Int)/\Hid (Nat.gcd x y=Nat.gcd a b)) (λ_ yv _=>(intOf yv).toNat)
 case atStart=>exact⟨a,b,0,rfl,ha,hb,rfl,rfl,Qd rfl⟩
 case round=>
  obtain⟨x,y,m,rfl,hx,hy,rfl,rfl,H⟩:=hrel;by_cases h0:y=0
  ·subst h0
   have HE:Hid (Nat.gcd a b=x):=Qd (by rw[<-H.out,Nat.gcd_zero_right]);have NR:=Qd (Oh (some ⟨w.heap.size,0,none⟩) 2 (w.heap.size+1) [x%4294967296,x/4294967296] ((w.drewN m).alloc (.cells #[.int .u32 ((x%4294967296:Nat):Int),.int .u32 ((x/4294967296:Nat):Int)] 90)) (Lies.new (w.drewN m) [.int .u32 ((x%4294967296:Nat):Int),.int .u32 ((x/4294967296:Nat):Int)] 90) (by simp) (λd hd=>by simp at hd;omega) (by simp) (by omega) (by simp));rw[Yda hx] at NR;have e1:((x%4294967296:Nat):Int)=(x:Int)%4294967296:=by omega
   have e2:((x/4294967296:Nat):Int)=(x:Int)/4294967296:=by omega
   rw[e1,e2] at NR;clear e1 e2;go_wp2_with fail
   refine NR.out.mono ?_;rintro e w1 ⟨rfl,hblk1,hb1⟩;have hb0:Below w.heap.size w w1:=by
    have h1:Below w.heap.size w (w.drewN m):=⟨rfl,rfl,rfl,Lr,λ_ _=>rfl⟩;exact(h1.alloc Lr _).trans (hb1.mono (by simp))
   have hli:=hblk1.lies;have hl2:(Nt.digs x).length<=2:=Nt.digs_len_lt (by simpa using hx);go_wp2_with fail
   go_ret;refine⟨_,rfl,?_,hb0⟩;rw[HE.out];exact⟨_,_,rfl,Lr,by omega,(λh=>by cases h),by simpa using hli⟩
  have hne:((y:Int)!=0)=true:=by simp;omega
  have hy1:(1:Int)<=(y:Int):=by omega
  have hr2:(x:Int)%(y:Int)=((x%y:Nat):Int):=(Int.natCast_emod x y).symm;have hrl:x%y<y:=Nat.mod_lt _ (by omega);have HG:Hid (Nat.gcd y (x%y)=Nat.gcd x y):=Qd (by rw[Nat.gcd_comm x y,Nat.gcd_rec y x,Nat.gcd_comm]);have HR2:=Qd hr2;generalize x%y=r at*;have hdz:((y:Int)==0)=false:=by simp;omega
  go_wp2_with fail
  go_quiet (fail)
  go_wp2_with fail
  refine⟨⟨y,r,m+nq,World.drewN_drewN _ _ _,hy,by omega,rfl,congrArg (Value.int .u64) HR2.out,Qd (by rw[HG.out];exact H.out)⟩,?_⟩;rw[HR2.out];simp[intOf];omega
theorem Lies.alloc {w:World}{B:Nat}{A:Option Addr}{vs:List Value}(h:Lies w B A vs)(hB:B<=w.heap.size)(o:Obj):Lies (w.alloc o) B A vs:=h.below (Br.alloc hB o)
section
open Go.ChangeShapes Go.WideShapes Go.ChangeAt Go.RowKit
theorem Cy {w:World}{a:Addr}{vs:List Value}(h:∀i v,vs[i]? =some v->w.cell? (a.add i)=some v):Lies w w.heap.size (some a) vs:=by
 cases vs with
 |nil=>exact .inl rfl
 |cons v r=>
  have h0:=h 0 v rfl;obtain⟨b,off,spot⟩:=a;have hs:spot=none:=by simpa [Addr.add] using World.cell?_spot h0
  subst hs;refine .inr ⟨b,off,rfl,World.block_lt_of_cell? w _ (by simpa [Addr.add] using h0),λi u hu=>?_⟩;have:=h i u hu;unfold Addr.add at this
  split at this
  ·rename_i e;subst e;simpa using this
  simpa using this
end
section
open Go.ChangeShapes Go.WideShapes Go.ChangeAt Go.RowKit
end
section
open Go.RowKit
end
section
open Go.RowKit
section
variable {P : Program} {ops : Array Oper} {Q : Exit -> Act -> World -> Prop} {md : Region.Mode}
def Wo (P:Program)(ops:Array Oper)(Q:Exit->Act->World->Prop):Nat->Nat->Act->World->Prop
 | 0,_,a,w=>Q .normal a w
 |n+1,k,a,w=>wpOp P ops Q k (λa' w'=>Wo P ops Q n (k+1) a' w') a w
def Qz (md:Region.Mode)(ops:Array Oper):Nat->Nat->Nat->Bool
 | 0,i,j=>Ob md ops i j
 |n+1,i,j=>Ob md ops i j||(List.range ops.size).any λm=>Ob md ops i m&&Qz md ops n m j
theorem Sl {l:Array Bool}(hcl:∀i j,l[i]? =some true->Ob md ops i j=true->l[j]? =some true):∀n i j,(∀m,Ob md ops i m=true->l[m]? =some true)->Qz md ops n i j=true->l[j]? =some true
 | 0,i,j,hi,h=>hi j h
 |n+1,i,j,hi,h=>by
  unfold Qz at h;rw[Bool.or_eq_true] at h;rcases h with h |h
  ·exact hi j h
  rw[List.any_eq_true] at h;obtain⟨m,_,hm⟩:=h;rw[Bool.and_eq_true] at hm;exact Sl hcl n m j (λm' h'=>hcl m m' (hi m hm.1) h') hm.2
theorem It {l:Array Bool}{i:Nat}(hcl:∀i j,l[i]? =some true->Ob md ops i j=true->l[j]? =some true)(hi:∀m,Ob md ops i m=true->l[m]? =some true):∀i' j,(l.setIfInBounds i true)[i']? =some true->Ob md ops i' j=true->(l.setIfInBounds i true)[j]? =some true:=by
 intro i' j h hd;have hj:l[j]? =some true:=by
  by_cases e:i=i'
  ·subst e;exact hi j hd
  rw[Array.getElem?_setIfInBounds_ne e] at h;exact hcl i' j h hd
 by_cases e:i=j
 ·subst e
  rw[Array.getElem?_setIfInBounds_self_of_lt (by
   rcases Nat.lt_or_ge i l.size with h |h
   ·exact h
   rw[Array.getElem?_eq_none h] at hj;cases hj)]
 rw[Array.getElem?_setIfInBounds_ne e];exact hj
theorem Qaa {l:Array Bool}(hl:l.size=ops.size)(hr:Region.ready md ops l=[])(hops:∀i,i<ops.size->∀j,Ob md ops i j=true->j<i):∀m i,i<m->i<ops.size->l[i]? =some true:=by
 intro m
 induction m with
 |zero=>intro i h;omega
 |succ m ih=>
  intro i hi his;by_cases e:i<m
  ·exact ih i e his
  have hie:i=m:=by omega
  subst hie;cases h:l[i]? with
  |none=>rw[Array.getElem?_eq_none_iff] at h;omega
  |some b=>
   cases b
   ·exfalso
    have:i∈Region.ready md ops l:=by
     simp only[Region.ready,List.mem_filter,List.mem_range,Bool.and_eq_true,Bool.not_eq_true'];refine⟨his,by rw[Array.getD_eq_getD_getElem?,h];rfl,?_⟩;rw[Array.getElem?_eq_getElem his];simp only[Option.map_some,Option.getD_some,Array.all_eq_true_iff_forall_mem];intro e he;cases hbe:Region.binds md e
     ·rfl
     have hd:Ob md ops i e.on=true:=by
      unfold Ob;rw[Array.getElem?_eq_getElem his];simp only[List.any_eq_true,Bool.and_eq_true,beq_iff_eq];exact⟨e,by simpa using he,rfl,hbe⟩
     have hlt:=hops i his e.on hd;rw[Array.getD_eq_getD_getElem?,ih e.on hlt (by omega)];simp
    rw[hr] at this;cases this
   rfl
theorem Raa (frame:(Nat->Value)->Act)(w0:World)(R:Nat->World->Value->Prop)(s:Nat)(hs:s<ops.size)
 (hR:∀i w w' v,R i w v->Below w.heap.size w w'->R i w' v)
 (step:∀i xs w,i<s->Below w0.heap.size w0 w->(∀j,Ob md ops i j=true->R j w (xs j))->wpOp P ops Q i (Qk frame R xs i w) (frame xs) w)
 (tail:∀xs w,Below w0.heap.size w0 w->(∀i,i<s->R i w (xs i))->Wo P ops Q (ops.size-s) s (frame xs) w)
 (hops:∀i,i<ops.size->∀j,Ob md ops i j=true->j<i) (N:Nat) (hrow:∀i,s<=i->i<ops.size->∀j,j<i->Qz md ops N i j=true)
 (xs0:Nat->Value) (w1:World) (hw1:Below w0.heap.size w0 w1):wpAny P md ops Q ops.size (Array.replicate ops.size false) (frame xs0) w1:=by
 refine Th (λl a w=>l.size=ops.size/\(∀i j,l[i]? =some true->Ob md ops i j=true->l[j]? =some true)/\(((∀i,s<=i->i<ops.size->l[i]? =some false)/\Below w0.heap.size w0 w/\∃xs,a=frame xs/\∀i,i<s->l[i]? =some true->R i w (xs i))\/(∃k,s<k/\k<=ops.size/\(∀i,i<k->l[i]? =some true)/\(∀i,k<=i->i<ops.size->l[i]? =some false)/\Wo P ops Q (ops.size-k) k a w))) ?_ ?_ ops.size _ _ _ (by simp)
  ⟨by simp,(λi j h=>by
   rw[Array.getElem?_replicate] at h
   split at h<;>simp at h),.inl ⟨λi _ hi=>by simp[hi],hw1,xs0,rfl,λi hi h=>by simp[show i<ops.size by omega] at h⟩⟩
 ·rintro l a w ⟨hl,hcl,hc⟩ i hi
  obtain⟨h1,h2,h3⟩:=Gg hi;have hli:l[i]? =some false:=by
   rw[Array.getD_eq_getD_getElem?] at h2;rw[Array.getElem?_eq_getElem (by omega)] at h2⊢;simp at h2;rw[h2]
  have hdi:∀m,Ob md ops i m=true->l[m]? =some true:=λm hm=>Gj (Ih h3 hm);have go:∀k,i=k->s<=k->(∀j,j<k->l[j]? =some true)->(∀j,k<=j->j<ops.size->l[j]? =some false)->Wo P ops Q (ops.size-k) k a w->
   wpOp P ops Q i (λa' w'=>(l.setIfInBounds i true).size=ops.size/\(∀i' j,(l.setIfInBounds i true)[i']? =some true->Ob md ops i' j=true->(l.setIfInBounds i true)[j]? =some true)/\(((∀j,s<=j->j<ops.size->(l.setIfInBounds i true)[j]? =some false)/\Below w0.heap.size w0 w'/\∃xs,a'=frame xs/\∀j,j<s->(l.setIfInBounds i true)[j]? =some true->R j w' (xs j))\/(∃k,s<k/\k<=ops.size/\(∀j,j<k->(l.setIfInBounds i true)[j]? =some true)/\(∀j,k<=j->j<ops.size->(l.setIfInBounds i true)[j]? =some false)/\Wo P ops Q (ops.size-k) k a' w'))) a w:=by
   rintro k rfl hk ht hf hT;obtain⟨n,hn⟩:∃n,ops.size-i=n+1:=⟨ops.size-i-1,by omega⟩;rw[hn] at hT;refine wpOp_mono ?_ hT;intro a' w' hq;refine⟨by simpa using hl,It hcl hdi,.inr ⟨i+1,by omega,by omega,λj hj=>?_,λj hj hjs=>?_,by rw[show ops.size-(i+1)=n by omega];exact hq⟩⟩
   ·by_cases e:i=j
    ·subst e;rw[Array.getElem?_setIfInBounds_self_of_lt (by omega)]
    rw[Array.getElem?_setIfInBounds_ne e];exact ht j (by omega)
   rw[Array.getElem?_setIfInBounds_ne (by omega)];exact hf j (by omega) hjs
  rcases hc with⟨hlate,hb,xs,rfl,hx⟩ |⟨k,hk,hks,ht,hf,hT⟩
  ·by_cases e:i<s
   ·refine wpOp_mono ?_ (step i xs w e hb (λj hj=>hx j (by have:=hops i h1 j hj;omega) (Gj (Ih h3 hj))))
    rintro a' w' ⟨v,rfl,hv,hb'⟩;refine⟨by simpa using hl,It hcl hdi,.inl ⟨λj hj hjs=>by rw[Array.getElem?_setIfInBounds_ne (by omega)];exact hlate j hj hjs,hb.trans (hb'.mono hb.size),Ja xs i v,rfl,λj hj hlj=>?_⟩⟩;by_cases e':j=i
    ·subst e';simp only[Ja,if_true];exact hv
    simp only[Ja,if_neg e'];rw[Array.getElem?_setIfInBounds_ne (λh=>e' h.symm)] at hlj;exact hR j w w' _ (hx j hj hlj) hb'
   have hall:∀j,j<i->l[j]? =some true:=λj hj=>Sl hcl N i j hdi (hrow i (by omega) h1 j hj);have his:i=s:=by
    rcases Nat.lt_or_ge s i with h |h
    ·have h4:=hall s h
     rw[hlate s Lr hs] at h4;cases h4
    omega
   exact go s his Lr (by rw[<-his];exact hall) hlate (tail xs w hb (λj hj=>hx j hj (hall j (by omega))))
  have hik:k<=i:=by
   rcases Nat.lt_or_ge i k with h |h
   ·rw[ht i h] at hli;cases hli
   exact h
  have his:i=k:=by
   rcases Nat.lt_or_ge k i with h |h
   ·have h4:=Sl hcl N i k hdi (hrow i (by omega) h1 k h)
    rw[hf k Lr (by omega)] at h4;cases h4
   omega
  exact go k his (by omega) ht hf hT
 rintro l a w ⟨hl,hcl,hc⟩ hr;have hall:=Qaa hl hr hops;rcases hc with⟨hlate,_⟩ |⟨k,hk,hks,ht,hf,hT⟩
 ·have h4:=hall (s+1) s (by omega) hs
  rw[hlate s Lr hs] at h4;cases h4
 rcases Nat.lt_or_ge k ops.size with h |h
 ·have h4:=hall (k+1) k (by omega) h
  rw[hf k Lr h] at h4;cases h4
 rw[show ops.size-k=0 by omega] at hT;exact hT
theorem Lv (frame:(Nat->Value)->Act)(w0:World)(R:Nat->World->Value->Prop)(s:Nat){id:Nat}{a:Act}{w:World}(hm:P.follows .mixedOrders=true)(hs:s<ops.size)
 (hR:∀i w w' v,R i w v->Below w.heap.size w w'->R i w' v)
 (hops:ops.toList.zipIdx.all (λp=>p.1.after.all λe=>decide (e.on<p.2))=true)
 (N:Nat) (hrow:(List.range ops.size).all (λi=>decide (i<s)||(List.range i).all (λj=>Qz .any ops N i j))=true)
 (xs0:Nat->Value) (ha:a=frame xs0) (hw:Below w0.heap.size w0 w)
 (step:∀i xs w,i<s->Below w0.heap.size w0 w->(∀j,Ob .any ops i j=true->R j w (xs j))->wpOp P ops Q i (Qk frame R xs i w) (frame xs) w)
 (tail:∀xs w,Below w0.heap.size w0 w->(∀i,i<s->R i w (xs i))->Wo P ops Q (ops.size-s) s (frame xs) w):(Code.region id ops true).wp P Q a w:=by
 subst ha;refine wp_region_any hm (Raa frame w0 R s hs hR step tail ?_ N ?_ xs0 _ ?_)
 ·intro i hi j hj
  unfold Ob at hj;rw[Array.getElem?_eq_getElem hi] at hj;simp only[List.any_eq_true,Bool.and_eq_true,beq_iff_eq] at hj;obtain⟨e,he,rfl,_⟩:=hj;rw[List.all_eq_true] at hops;have h:=hops (ops[i],i) (by
   rw[List.mem_zipIdx_iff_getElem?];simp)
  rw[Array.all_eq_true_iff_forall_mem] at h
  simpa using h e (by simpa using he)
 ·intro i hsi hi j hj
  rw[List.all_eq_true] at hrow;have h:=hrow i (by simpa using hi);rw[Bool.or_eq_true,decide_eq_true_iff] at h;rcases h with h |h
  ·omega
  rw[List.all_eq_true] at h;exact h j (by simpa using hj)
 exact⟨hw.os,hw.tape,hw.output,hw.size,hw.block⟩
end
end
end Go.Proofs.YtceplkpjnebnfaaGreatDoor
namespace Tk
open Go
theorem Rz {l:List Int}{i:Nat}(h:word (l.getD i (-1))=false):words l i=0:=by
 unfold words;rcases Nat.lt_or_ge i l.length with hi |hi
 ·rw[getD_in hi] at h
  rw[List.drop_eq_getElem_cons hi,List.takeWhile_cons,h];rfl
 rw[List.drop_of_length_le hi];rfl
theorem Hj {l:List Int}{i:Nat}(h:word (l.getD i (-1))=true):words l i=1+words l (i+1):=by
 unfold words;rcases Nat.lt_or_ge i l.length with hi |hi
 ·rw[getD_in hi] at h
  rw[List.drop_eq_getElem_cons hi,List.takeWhile_cons,h];simp;omega
 rw[getD_out hi] at h;cases h
theorem word_digit {c:Int}(h:digit c=true):word c=true:=by unfold word;rw[h];rfl
theorem Cr {c:Int}(h:(cls c==2)=true):word c=true:=by unfold word;rw[h];simp
theorem Xo {l:List Int}{i:Nat}(hc:l.getD i (-1)=9109\/l.getD i (-1)=9054):read l i=
 (let n:=words l (i+1)
  let d:=l.getD (i+1) (-1)
  if n=1/\48<=d/\d<=55 then(⟨if l.getD i (-1)=9054 then 5 else 4,Rt.none_,[],[],d-48,i⟩,2,0)
  else if l.getD i (-1)=9109/\n=2/\d=68/\l.getD (i+2) (-1)=67 then(⟨6,Rt.none_,[],[],0,i⟩,3,0)
  else if l.getD i (-1)=9109/\n=2/\d=85/\l.getD (i+2) (-1)=80 then(⟨6,Rt.none_,[],[],1,i⟩,3,0)
  else(none_,0,1)):=by
 unfold read;generalize l.getD i (-1)=c at*;simp only;have h3:¬cls c=3:=by rcases hc with rfl |rfl<;>decide
 have h2:¬cls c=2:=by rcases hc with rfl |rfl<;>decide
 have h39:¬c=39:=by omega
 rw[if_neg h3,if_neg h2,if_neg h39,if_pos hc]
theorem port_digit {l:List Int}{i:Nat}(hc:l.getD i (-1)=9109\/l.getD i (-1)=9054)(hd:digit (l.getD (i+1) (-1))=true)(h7:l.getD (i+1) (-1)<=55):read l i=
 if word (l.getD (i+2) (-1))=true then(none_,0,1) else(⟨if l.getD i (-1)=9054 then 5 else 4,Rt.none_,[],[],l.getD (i+1) (-1)-48,i⟩,2,0):=by
 rw[Xo hc];simp only;rw[Hj (word_digit hd)];have h48:48<=l.getD (i+1) (-1):=by unfold digit at hd;rw[Bool.and_eq_true,decide_eq_true_eq,decide_eq_true_eq] at hd;exact hd.1
 by_cases hw:word (l.getD (i+2) (-1))=true
 ·rw[if_pos hw,Hj (i:=i+1+1) hw]
  rw[if_neg (by omega),if_neg (by omega),if_neg (by omega)]
 rw[if_neg hw,Rz (i:=i+1+1) (by simpa using hw)];rw[if_pos ⟨rfl,h48,h7⟩]
theorem letter_range {x:Int}(h:(cls x==2)=true):65<=x/\x<=122:=by
 have h:cls x=2:=by simpa using h
 unfold cls at h
 split at h
 ·cases h
 split at h
 ·omega
 exfalso
 repeat' split at h
 all_goals (first|cases h |omega)
theorem port_two {l:List Int}{i:Nat}(hc:l.getD i (-1)=9109)(hd:(cls (l.getD (i+1) (-1))==2)=true)(hd2:(cls (l.getD (i+2) (-1))==2)=true):read l i=
 if l.getD (i+1) (-1)=68/\l.getD (i+2) (-1)=67 then(if word (l.getD (i+3) (-1))=true then(none_,0,1) else(⟨6,Rt.none_,[],[],0,i⟩,3,0))
 else if l.getD (i+1) (-1)=85/\l.getD (i+2) (-1)=80 then(if word (l.getD (i+3) (-1))=true then(none_,0,1) else(⟨6,Rt.none_,[],[],1,i⟩,3,0))
 else(none_,0,1):=by
 rw[Xo (.inl hc)];simp only;have hr:=letter_range hd;rw[Hj (Cr hd),Hj (i:=i+1+1) (Cr hd2),if_neg (by omega)];by_cases hw:word (l.getD (i+3) (-1))=true
 ·rw[Hj (i:=i+1+1+1) hw,if_neg (by omega),if_neg (by omega),if_pos hw]
  split<;>(try split)<;>rfl
 rw[Rz (i:=i+1+1+1) (by simpa using hw),if_neg hw];by_cases h1:l.getD (i+1) (-1)=68/\l.getD (i+2) (-1)=67
 ·rw[if_pos ⟨hc,rfl,h1⟩,if_pos h1]
 rw[if_neg (λh=>h1 h.2.2),if_neg h1];by_cases h2:l.getD (i+1) (-1)=85/\l.getD (i+2) (-1)=80
 ·rw[if_pos ⟨hc,rfl,h2⟩,if_pos h2]
  rw[if_neg hw]
 rw[if_neg (λh=>h2 h.2.2),if_neg h2]
theorem port_none {l:List Int}{i:Nat}(hc:l.getD i (-1)=9109\/l.getD i (-1)=9054)(h1:¬(digit (l.getD (i+1) (-1))=true/\l.getD (i+1) (-1)<=55))(h2:¬(l.getD i (-1)=9109/\(cls (l.getD (i+1) (-1))==2)=true/\(cls (l.getD (i+2) (-1))==2)=true)):read l i=(none_,0,1):=by
 rw[Xo hc];simp only;rw[if_neg (by
  rintro⟨_,h48,h55⟩;exact h1 ⟨by unfold digit;rw[Bool.and_eq_true,decide_eq_true_eq,decide_eq_true_eq];omega,h55⟩)]
 rw[if_neg (by
  rintro⟨hq,_,h68,h67⟩;exact h2 ⟨hq,by rw[h68];decide,by rw[h67];decide⟩)]
 rw[if_neg (by
  rintro⟨hq,_,h68,h67⟩;exact h2 ⟨hq,by rw[h68];decide,by rw[h67];decide⟩)]
end Tk
namespace Tr
open Go
inductive Tree where
 |mk (kind op:Int) (Bc:List UInt8) (n:Rt.Nm) (text:List Int) (kids:List Tree)
def kind:Tree->Int
 | .mk k _ _ _ _ _=>k
def op:Tree->Int
 | .mk _ o _ _ _ _=>o
def Bc:Tree->List UInt8
 | .mk _ _ m _ _ _=>m
def num:Tree->Rt.Nm
 | .mk _ _ _ n _ _=>n
def text:Tree->List Int
 | .mk _ _ _ _ t _=>t
def kids:Tree->List Tree
 | .mk _ _ _ _ _ l=>l
mutual
def depth:Tree->Nat
 | .mk _ _ _ _ _ l=>Lb l+1
def Lb:List Tree->Nat
 | []=>0
 |t::r=>max (depth t) (Lb r)
end
mutual
def count:Tree->Nat
 | .mk _ _ _ _ _ l=>Bb l+1
def Bb:List Tree->Nat
 | []=>0
 |t::r=>count t+Bb r
end
mutual
def Jg:Tree->Nat->Int->Int
 | .mk _ _ _ _ t l,d,n=>if d=0 then-1 else Je l (d-1) (n-1-((t.length/8:Nat):Int))
def Je:List Tree->Nat->Int->Int
 | [],_,n=>n
 |t::r,d,n=>if n<0 then n else Je r d (Jg t d n)
end
mutual
theorem K8:∀(t:Tree) (d:Nat) (n:Int),0<=Jg t d n->depth t<=d/\(count t:Int)+Jg t d n<=n
 | .mk _ _ _ _ t l,d,n=>by
  intro h;unfold Jg at h⊢;unfold depth count;by_cases hd:d=0
  ·rw[if_pos hd] at h
   omega
  rw[if_neg hd] at h⊢;have:=Sz l (d-1) _ h;omega
theorem Sz:∀(l:List Tree) (d:Nat) (n:Int),0<=Je l d n->Lb l<=d/\(Bb l:Int)+Je l d n<=n
 | [],d,n=>by
  intro h;unfold Je at h⊢;unfold Lb Bb;omega
 |t::r,d,n=>by
  intro h;unfold Je at h⊢;unfold Lb Bb;by_cases hn:n<0
  ·rw[if_pos hn] at h
   omega
  rw[if_neg hn] at h⊢;have h2:=Sz r d _ h;have h1:=K8 t d n (by have:=h2.2;omega);exact⟨Nat.max_le.2 ⟨h1.1,h2.1⟩,by have:=h1.2;have:=h2.2;omega⟩
end
theorem Aea:∀(l:List Tree) (d:Nat) (n:Int),n<0->Je l d n=n
 | [],_,_,_=>by unfold Je;rfl
 |t::r,d,n,h=>by unfold Je;rw[if_pos h]
theorem Saa {l:List Tree}{k:Nat}(h:k<l.length)(d:Nat)(n:Int)(hn:0<=n):Je (l.drop k) d n=Je (l.drop (k+1)) d (Jg l[k] d n):=by
 rw[List.drop_eq_getElem_cons h,Je,if_neg (by omega)]
def few (t:Tree):Bool:=decide (0<=Jg t 60 3000)
theorem Jw {t:Tree}(h:few t=true):depth t<=60/\count t<=3000:=by
 have:=K8 t 60 3000 (of_decide_eq_true h);have h2:=of_decide_eq_true h;omega
def array (k:Int):Bool:=decide (1<=k)&&decide (k<=16)&& !(k==10)
def item (k:Int):Bool:=decide (1<=k)&&decide (k<=9)&& !(k==8)
def func (k:Int):Bool:=decide (17<=k)&&decide (k<=24)
def plain (k:Int):Bool:=decide (17<=k)&&decide (k<=21)
def monops:List Int:=[0x2F,0x233F,0x5C,0x2340,0xA8,0x2368]
def dyops:List Int:=[0x2E,0x2218,0x2364,0x2363]
def Uf:List Int:=[0x2F,0x233F,0x5C,0x2340]
def glyph (c:Int):Bool:=(Tk.cls c==4)||Uf.contains c
def Ec (b:UInt8):Bool:=Tk.cls (b.toNat:Int)==2
def digit (b:UInt8):Bool:=decide (48<=b.toNat)&&decide (b.toNat<=57)
def Hi (s:List UInt8):Bool:=decide (65<=(s.getD 0 0).toNat)&&decide ((s.getD 0 0).toNat<=90)
def Ua (s:List UInt8)(function:Bool):Bool:=
 !s.isEmpty&&decide (s.length<=16)&&Ec (s.getD 0 0)&&s.all (λb=>Ec b||digit b)&&(Hi s==function)
def port (n:Int):Bool:=decide (0<=n)&&decide (n<8)
def zero (n:Rt.Nm):Bool:= !n.neg&&n.top.isEmpty&&n.bot.isEmpty
def Ta (k o:Int)(m:List UInt8)(n:Rt.Nm)(t:List Int):Bool:=
 (if k=1 then Rt.right n else zero n)&&(if k=2 then decide (t.length<=2048)&&t.all Gl.may else t.isEmpty)&&
 (if k=3\/k=13\/k=14\/k=15 then Ua m false else if k=18\/k=27 then Ua m true else m.isEmpty)&&
 (if k=6\/k=7\/k=16 then port o else if k=17 then glyph o else if k=21 then(o==0)||(o==1) else if k=22 then monops.contains o else if k=23 then dyops.contains o else o==0)
def Oa:List Int->List (Int->Bool)->Bool
 | [],[]=>true
 |k::r,f::s=>f k&&Oa r s
 |_,_=>false
def Ke (k:Int):Bool:=array k||(k==10)
def Pb (k o:Int)(l:List Int):Bool:=
 if k=8 then decide (2<=l.length)&&l.all array
 else if k=9\/k=14 then decide (2<=l.length)&&array (l.getD 0 0)&&(l.drop 1).all Ke
 else if k=11\/k=15 then Oa l [func,array]
 else if k=12 then Oa l [array,func,array]
 else if k=13\/k=16 then Oa l [array]
 else if k=22\/k=27 then Oa l [func]
 else if k=23 then Oa l [func,λx=>(plain x&& !(o==0x2364))||(array x&&((o==0x2364)||(o==0x2363)))]
 else if k=24 then Oa l [plain]
 else if k=25\/k=26 then Oa l [array,array]
 else if k=20 then !l.isEmpty&&l.all (λx=>array x||(x==27)||(x==25)||(x==26))
 else if k=28 then !l.isEmpty&&l.all (λx=>array x||(x==27))
 else if 1<=k/\k<=21 then l.isEmpty
 else false
def one:Tree->Bool
 | .mk k o m n t l=>Ta k o m n t&&Pb k o (l.map kind)
mutual
def all:Tree->Bool
 | .mk k o m n t l=>one (.mk k o m n t l)&&Bd l
def Bd:List Tree->Bool
 | []=>true
 |t::r=>all t&&Bd r
end
def right (t:Tree):Bool:=decide (depth t<=40)&&decide (count t<=2048)&&all t
mutual
def go:Tree->Nat->Nat->Bool×Nat
 | .mk k o m n t l,d,q=>if d=0\/q=0 then(false,q) else if one (.mk k o m n t l) then Qi l (d-1) (q-1) else(false,q-1)
def Qi:List Tree->Nat->Nat->Bool×Nat
 | [],_,q=>(true,q)
 |t::r,d,q=>if(go t d q).1 then Qi r d (go t d q).2 else(false,(go t d q).2)
end
mutual
theorem Ala:∀(t:Tree) (d q:Nat),(go t d q).1=(decide (depth t<=d)&&decide (count t<=q)&&all t)/\((go t d q).1=true->(go t d q).2+count t=q)
 | .mk k o m n t l,d,q=>by
  unfold go depth count all;by_cases h0:d=0\/q=0
  ·rw[if_pos h0]
   refine⟨?_,λh=>by cases h⟩;rcases h0 with h0 |h0
   ·rw[decide_eq_false (by omega:¬Lb l+1<=d)];rfl
   rw[decide_eq_false (by omega:¬Bb l+1<=q),Bool.and_false];rfl
  rw[if_neg h0];cases h1:one (.mk k o m n t l) with
  |false=>
   rw[if_neg (by simp),Bool.false_and,Bool.and_false];exact⟨rfl,λh=>by cases h⟩
  |true=>
   rw[if_pos rfl,Bool.true_and];have ih:=Bea l (d-1) (q-1);refine⟨?_,λh=>by have:=ih.2 h;omega⟩;rw[ih.1]
   congr 2
   all_goals
    exact decide_eq_decide.2 (by omega)
theorem Bea:∀(l:List Tree) (d q:Nat),(Qi l d q).1=(decide (Lb l<=d)&&decide (Bb l<=q)&&Bd l)/\((Qi l d q).1=true->(Qi l d q).2+Bb l=q)
 | [],d,q=>by
  unfold Qi Lb Bb Bd;simp
 |t::r,d,q=>by
  unfold Qi Lb Bb Bd;have i1:=Ala t d q;have i2:=Bea r d (go t d q).2;cases hg:(go t d q).1 with
  |false=>
   rw[if_neg (by simp)];refine⟨?_,λh=>by cases h⟩;rw[hg] at i1;by_cases hd:depth t<=d
   ·by_cases hc:count t<=q
    ·rw[decide_eq_true hd,decide_eq_true hc] at i1
     have:all t=false:=by simpa using i1.1.symm
     rw[this,Bool.false_and,Bool.and_false]
    rw[decide_eq_false (by omega:¬count t+Bb r<=q),Bool.and_false];rfl
   rw[decide_eq_false (by omega:¬max (depth t) (Lb r)<=d)];rfl
  |true=>
   rw[if_pos rfl];have e:=i1.2 hg;rw[hg] at i1;have h3:=i1.1.symm;simp only[Bool.and_eq_true,decide_eq_true_eq] at h3;refine⟨?_,λh=>by have:=i2.2 h;omega⟩;rw[i2.1,h3.2,Bool.true_and]
   congr 2
   all_goals
    exact decide_eq_decide.2 (by omega)
end
theorem Eia (t:Tree):(go t 40 2048).1=right t:=(Ala t 40 2048).1
end Tr
namespace Tr
open Go
def trimmed (l:List Nat):Bool:=decide (l.length<=32)&&(l.isEmpty|| !(l.getLastD 0==0))
def isOne (l:List Nat):Bool:=l==[1]
def ratio (n:Rt.Nm):Bool:=
 if trimmed n.top&&trimmed n.bot&& !n.bot.isEmpty&& !(n.top.isEmpty&&n.neg) then isOne n.bot||(Nt.digs (Nat.gcd (Nt.val n.top) (Nt.val n.bot))==[1]) else false
theorem trimmed_iff (l:List Nat):trimmed l=true↔l.length<=32/\Nt.Top l:=by
 unfold trimmed;simp only[Bool.and_eq_true,decide_eq_true_eq,Bool.or_eq_true,Bool.not_eq_true',beq_eq_false_iff_ne,List.isEmpty_iff];refine and_congr_right λ_=>?_
 constructor
 ·rintro(h |h) hne
  ·exact absurd h hne
  rwa[List.getLastD_eq_getLast?,List.getLast?_eq_some_getLast hne] at h
 intro h;by_cases hne:l=[]
 ·exact .inl hne
 refine .inr ?_;have:=h hne;rwa[List.getLastD_eq_getLast?,List.getLast?_eq_some_getLast hne]
theorem digs_one:Nt.digs 1=[1]:=by rw[Nt.digs_pos (by omega)];simp[Nt.digs_zero]
theorem ratio_right {n:Rt.Nm}(o1:Nt.Ok n.top)(o2:Nt.Ok n.bot):ratio n=Rt.right n:=by
 rw[Bool.eq_iff_iff,Rt.right_iff o1 o2];have hd:Nt.digs (Nat.gcd (Nt.val n.top) (Nt.val n.bot))=[1]↔Nat.gcd (Nt.val n.top) (Nt.val n.bot)=1:=by
  constructor
  ·intro h;exact Nt.digs_inj (h.trans digs_one.symm)
  intro h;rw[h,digs_one]
 unfold ratio;have h1:(trimmed n.top&&trimmed n.bot&& !n.bot.isEmpty&& !(n.top.isEmpty&&n.neg))=true↔n.top.length<=32/\n.bot.length<=32/\Nt.Top n.top/\Nt.Top n.bot/\n.bot≠[]/\(n.top=[]->n.neg=false):=by
  simp only[Bool.and_eq_true,trimmed_iff]
  constructor
  ·rintro⟨⟨⟨⟨a,b⟩,c,d⟩,e⟩,f⟩
   refine⟨a,c,b,d,?_,?_⟩
   ·rintro h;rw[h] at e;cases e
   intro h;rw[h] at f;simpa using f
  rintro⟨a,b,c,d,e,f⟩;refine⟨⟨⟨⟨a,c⟩,b,d⟩,?_⟩,?_⟩
  ·cases hb:n.bot with
   |nil=>exact absurd hb e
   |cons _ _=>rfl
  cases ht:n.top with
  |nil=>simpa using f ht
  |cons _ _=>rfl
 by_cases hc:(trimmed n.top&&trimmed n.bot&& !n.bot.isEmpty&& !(n.top.isEmpty&&n.neg))=true
 ·rw[if_pos hc]
  have h2:=h1.1 hc
  constructor
  ·intro h
   refine⟨h2.1,h2.2.1,h2.2.2.1,h2.2.2.2.1,h2.2.2.2.2.1,h2.2.2.2.2.2,?_⟩;simp only[Bool.or_eq_true,isOne,beq_iff_eq] at h;rcases h with h |h
   ·rw[h];simp[Nt.val]
   exact hd.1 h
  rintro⟨_,_,_,_,_,_,h⟩;simp only[Bool.or_eq_true,isOne,beq_iff_eq];exact .inr (hd.2 h)
 rw[if_neg hc]
 constructor
 ·intro h;cases h
 rintro⟨a,b,c,d,e,f,g⟩;exact absurd (h1.2 ⟨a,b,c,d,e,f⟩) hc
def Va (o:Int)(m:List UInt8)(n:Rt.Nm)(t:List Int):Int:=
 (if o=0 then 0 else 1)+(if m=[] then 0 else 2)+(if zero n then 0 else 4)+(if t=[] then 0 else 8)
def Ub (c:UInt8)(k:Int):Bool:=if c=97 then array k else if c=102 then func k else if c=112 then plain k else if c=120 then Ke k else false
def at_ (s:List UInt8)(i:Nat):UInt8:=if i<s.length then s.getD i 0 else s.getD (s.length-1) 0
def Gb (l:List Int)(s:List UInt8)(more:Bool):Bool:=
 if l.length<s.length\/(s.length<l.length/\more=false) then false else(List.range l.length).all λi=>Ub (at_ s i) (l.getD i 0)
def Cd (l:List Int)(braces:Bool):Bool:=l.all (λx=>array x||(x==27)||(braces&&((x==25)||(x==26))))&& !l.isEmpty
def Ue (k o:Int)(f:Int)(l:List Int):Bool:=
 if f=1 then
  if k=22 then monops.contains o&&Gb l [102] false
  else if dyops.contains o=false\/l.length≠2\/func (l.getD 0 0)=false then false
  else if o=0x2364 then array (l.getD 1 0)
  else plain (l.getD 1 0)||((o==0x2363)&&array (l.getD 1 0))
 else false
def Vm (k o:Int)(m:List UInt8)(n:Rt.Nm)(t:List Int)(l:List Int):Bool:=
 let f:=Va o m n t
 if l=[] then
  if k=1 then((f==4)||(f==0))&&Rt.right n
  else if k=2 then((f==8)||(f==0))&&decide (t.length<=2048)&&t.all Gl.may
  else if k=3 then(f==2)&&Ua m false
  else if k=4\/k=5\/k=10\/k=19 then f==0
  else if k=6\/k=7 then((f==0)||(f==1))&&port o
  else if k=17 then(f==1)&&glyph o
  else if k=18 then(f==2)&&Ua m true
  else if k=21 then((f==0)||(f==1))&&((o==0)||(o==1))
  else false
 else false
def Yo (k o:Int)(m:List UInt8)(n:Rt.Nm)(t:List Int)(l:List Int):Bool:=
 let f:=Va o m n t
 if k=8 then(f==0)&&Gb l [97,97] true
 else if k=9 then(f==0)&&Gb l [97,120] true
 else if k=11 then(f==0)&&Gb l [102,97] false
 else if k=12 then(f==0)&&Gb l [97,102,97] false
 else if k=13 then(f==2)&&Ua m false&&Gb l [97] false
 else if k=14 then(f==2)&&Ua m false&&Gb l [97,120] true
 else if k=15 then(f==2)&&Ua m false&&Gb l [102,97] false
 else if k=16 then((f==0)||(f==1))&&port o&&Gb l [97] false
 else if k=20 then(f==0)&&Cd l true
 else if k=22\/k=23 then Ue k o f l
 else if k=24 then(f==0)&&Gb l [112] false
 else if k=25\/k=26 then(f==0)&&Gb l [97,97] false
 else if k=27 then(f==2)&&Ua m true&&Gb l [102] false
 else if k=28 then(f==0)&&Cd l false
 else Vm k o m n t l
theorem Fia {m:List UInt8}{b:Bool}(h:Ua m b=true):m≠[]:=by rintro rfl;simp[Ua] at h
theorem Cea (l:List Int)(p:Nat->Int->Bool):(List.range l.length).all (λi=>p i (l.getD i 0))=(l.zipIdx.all λx=>p x.2 x.1):=by
 rw[Bool.eq_iff_iff];simp only[List.all_eq_true,List.mem_range]
 constructor
 ·rintro h ⟨x,i⟩ hx
  obtain⟨h1,h2⟩:=List.mem_zipIdx' hx;have:=h i h1;rwa[List.getD_eq_getElem?_getD,List.getElem?_eq_getElem h1,Option.getD_some,<-h2] at this
 intro h i hi;have:=h (l[i],i) (List.mem_zipIdx_iff_getElem?.2 (by simp[hi]));rwa[List.getD_eq_getElem?_getD,List.getElem?_eq_getElem hi]
theorem Dea (l:List Int)(c:UInt8):Gb l [c] false=Oa l [Ub c]:=by
 match l with
 | []=>simp[Gb,Oa]
 | [a]=>simp[Gb,Oa,at_]
 |a::b::r=>simp[Gb,Oa]
theorem Nna (l:List Int)(c d:UInt8):Gb l [c,d] false=Oa l [Ub c,Ub d]:=by
 match l with
 | []=>simp[Gb,Oa]
 | [a]=>simp[Gb,Oa]
 | [a,b]=>simp[Gb,Oa,at_,List.range_succ]
 |a::b::x::r=>simp[Gb,Oa]
theorem Ona (l:List Int)(c d e:UInt8):Gb l [c,d,e] false=Oa l [Ub c,Ub d,Ub e]:=by
 match l with
 | []=>simp[Gb,Oa]
 | [a]=>simp[Gb,Oa]
 | [a,b]=>simp[Gb,Oa]
 | [a,b,x]=>simp[Gb,Oa,at_,List.range_succ]
 |a::b::x::y::r=>simp[Gb,Oa]
theorem Eea (l:List Int)(c d:UInt8):Gb l [c,d] true=(decide (2<=l.length)&&Ub c (l.getD 0 0)&&(l.drop 1).all (Ub d)):=by
 match l with
 | []=>simp[Gb]
 | [a]=>simp[Gb]
 |a::b::r=>
  rw[Gb,if_neg (by simp)];rw[Cea (a::b::r) (λi x=>Ub (at_ [c,d] i) x)];rw[Bool.eq_iff_iff];simp only[List.all_eq_true,Bool.and_eq_true,List.zipIdx_cons,List.mem_cons,List.drop_succ_cons,List.drop_zero]
  constructor
  ·intro h
   refine⟨⟨by simp,?_⟩,?_⟩
   ·have:=h (a,0) (.inl rfl)
    simpa [at_] using this
   intro x hx;rcases hx with rfl |hx
   ·have:=h (x,1) (.inr (.inl rfl))
    simpa [at_] using this
   obtain⟨i,hi,rfl⟩:=List.mem_iff_getElem.1 hx;have:=h (r[i],2+i) (.inr (.inr (by rw[List.mem_zipIdx_iff_le_and_getElem?_sub];simp[hi])));have h3:at_ [c,d] (2+i)=d:=by
    unfold at_;rw[if_neg (by simp)];rfl
   dsimp only at this;rwa[h3] at this
  rintro⟨⟨_,h1⟩,h2⟩ ⟨x,i⟩ hx;rcases hx with hx |hx |hx
  ·injection hx with e1 e2;subst e1 e2;simpa [at_] using h1
  ·injection hx with e1 e2;subst e1 e2;have:=h2 x (.inl rfl);simpa [at_] using this
  rw[List.mem_zipIdx_iff_le_and_getElem?_sub] at hx;dsimp only at hx⊢;have:=h2 x (.inr (List.mem_of_getElem? hx.2));have h3:at_ [c,d] i=d:=by
   unfold at_;rw[if_neg (by simp;omega)];rfl
  rw[h3];exact this
theorem Kw:Ub 97=array:=by funext k;rfl
theorem Zo:Ub 102=func:=by funext k;rfl
theorem Lw:Ub 112=plain:=by funext k;rfl
theorem Mw:Ub 120=Ke:=by funext k;rfl
theorem Tz (o:Int)(m:List UInt8)(n:Rt.Nm)(t:List Int):
 ((Va o m n t==0)=((o==0)&&m.isEmpty&&zero n&&t.isEmpty))/\((Va o m n t==1)=(!(o==0)&&m.isEmpty&&zero n&&t.isEmpty))/\
 ((Va o m n t==2)=((o==0)&& !m.isEmpty&&zero n&&t.isEmpty))/\((Va o m n t==4)=((o==0)&&m.isEmpty&& !zero n&&t.isEmpty))/\
 ((Va o m n t==8)=((o==0)&&m.isEmpty&&zero n&& !t.isEmpty)):=by
 unfold Va;by_cases h1:o=0<;>cases m<;>cases h3:zero n<;>cases t<;>simp[h1]
theorem Ula:glyph 0=false:=by decide
theorem Epa:monops.contains 0=false:=by decide
theorem Kqa:dyops.contains 0=false:=by decide
theorem Taa (k:Int):(k<1\/28<k)\/k=1\/k=2\/k=3\/k=4\/k=5\/k=6\/k=7\/k=8\/k=9\/k=10\/k=11\/k=12\/k=13\/k=14\/k=15\/k=16\/k=17\/k=18\/k=19\/k=20\/k=21\/k=22\/k=23\/k=24\/k=25\/k=26\/k=27\/k=28:=by omega
theorem M8 {m:List UInt8}{b:Bool}:Ua m b=(Ua m b&& !m.isEmpty):=by
 cases h:Ua m b with
 |false=>rfl
 |true=>
  have:=Fia h;cases m with
  |nil=>exact absurd rfl this
  |cons _ _=>rfl
theorem Vla (o:Int):glyph o=(glyph o&& !(o==0)):=by
 by_cases h:o=0
 ·subst h;rw[Ula];rfl
 rw[show(o==0)=false by simpa using h];simp
theorem Bla (o:Int):monops.contains o=(monops.contains o&& !(o==0)):=by
 by_cases h:o=0
 ·subst h;rw[Epa];rfl
 rw[show(o==0)=false by simpa using h];simp
theorem Pna (o:Int):dyops.contains o=(dyops.contains o&& !(o==0)):=by
 by_cases h:o=0
 ·subst h;rw[Kqa];rfl
 rw[show(o==0)=false by simpa using h];simp
theorem Lqa (o:Int)(m:List UInt8)(n:Rt.Nm)(t l:List Int)(f1:(Va o m n t==1)=(!(o==0)&&m.isEmpty&&zero n&&t.isEmpty)):Ue 23 o (Va o m n t) l=(zero n&&t.isEmpty&&m.isEmpty&&dyops.contains o&&Oa l [func,λx=>(plain x&& !(o==0x2364))||(array x&&((o==0x2364)||(o==0x2363)))]):=by
 unfold Ue;by_cases hf:Va o m n t=1
 ·rw[if_pos hf,if_neg (by decide)]
  have hf':(Va o m n t==1)=true:=by simpa using hf
  rw[f1] at hf';simp only[Bool.and_eq_true] at hf';rw[hf'.1.1.2,hf'.1.2,hf'.2];cases hd:dyops.contains o with
  |false=>simp
  |true=>
   match l with
   | []=>simp[Oa]
   | [a]=>simp[Oa]
   | [a,b]=>
    cases hfa:func a with
    |false=>simp[Oa,hfa]
    |true=>
     by_cases ho:o=9060
     ·subst ho;simp[Oa,hfa]
     have ho':(o==9060)=false:=by simpa using ho
     simp[Oa,hfa,ho,ho',Bool.and_comm]
   |a::b::c::r=>simp[Oa]
 rw[if_neg hf];have hf':(Va o m n t==1)=false:=by simpa using hf
 rw[f1] at hf';rw[Pna]
 revert hf'
 cases (o==0)<;>cases m.isEmpty<;>cases zero n<;>cases t.isEmpty<;>simp
theorem Mqa (o:Int)(m:List UInt8)(n:Rt.Nm)(t l:List Int)(f1:(Va o m n t==1)=(!(o==0)&&m.isEmpty&&zero n&&t.isEmpty)):Ue 22 o (Va o m n t) l=(zero n&&t.isEmpty&&m.isEmpty&&monops.contains o&&Oa l [func]):=by
 unfold Ue;rw[Dea,Zo];by_cases hf:Va o m n t=1
 ·rw[if_pos hf,if_pos rfl]
  have hf':(Va o m n t==1)=true:=by simpa using hf
  rw[f1] at hf';simp only[Bool.and_eq_true] at hf';rw[hf'.1.1.2,hf'.1.2,hf'.2];simp
 rw[if_neg hf];have hf':(Va o m n t==1)=false:=by simpa using hf
 rw[f1] at hf';rw[Bla]
 revert hf'
 cases (o==0)<;>cases m.isEmpty<;>cases zero n<;>cases t.isEmpty<;>simp
theorem Qna (k o:Int)(m:List UInt8)(n:Rt.Nm)(t:List Int)(l:List Int):Yo k o m n t l=(Ta k o m n t&&Pb k o l):=by
 obtain⟨f0,f1,f2,f4,f8⟩:=Tz o m n t;unfold Yo Vm Ta Pb;have e1:= @M8 m false;have e2:= @M8 m true;have e3:=Vla o;have e4:=Bla o;have e5:=Pna o;have hl:∀X:Bool,(if l=[] then X else false)=(X&&l.isEmpty):=λX=>by cases l<;>simp
 simp only[f0,f2,f4,f8,Dea,Nna,Ona,Eea,Kw,Zo,Lw,Mw];rcases Taa k with h |h |h |h |h |h |h |h |h |h |h |h |h |h |h |h |h |h |h |h |h |h |h |h |h |h |h |h |h
 ·simp only[show¬k=1 by omega,show¬k=2 by omega,show¬k=3 by omega,show¬k=8 by omega,show¬k=9 by omega,show¬k=11 by omega,show¬k=12 by omega,show¬k=13 by omega,show¬k=14 by omega,show¬k=15 by omega,show¬k=16 by omega,show¬k=20 by omega,show¬k=22 by omega,show¬k=23 by omega,show¬k=24 by omega,show¬k=25 by omega,show¬k=26 by omega,show¬k=27 by omega,show¬k=28 by omega,show¬k=4 by omega,show¬k=5 by omega,show¬k=10 by omega,show¬k=19 by omega,show¬k=6 by omega,show¬k=7 by omega,show¬k=17 by omega,show¬k=18 by omega,show¬k=21 by omega,show¬(1<=k/\k<=21) by omega,or_self,if_false,ite_self,Bool.and_false]
 all_goals (subst h;simp(config:={decide:=true}) only[if_true,if_false])
 case inr.inr.inr.inr.inr.inr.inr.inr.inr.inr.inr.inr.inr.inr.inr.inr.inr.inr.inr.inr.inr.inr.inr.inl=>exact Lqa o m n t l f1
 case inr.inr.inr.inr.inr.inr.inr.inr.inr.inr.inr.inr.inr.inr.inr.inr.inr.inr.inr.inr.inr.inr.inl=>exact Mqa o m n t l f1
 case inr.inr.inr.inr.inr.inr.inr.inr.inl=>
  have h8:(decide (2<=l.length)&&array (l.getD 0 0)&&(l.drop 1).all array)=(decide (2<=l.length)&&l.all array):=by
   match l with
   | []=>rfl
   | [a]=>rfl
   |a::b::r=>simp
  rw[h8];cases (o==0)<;>cases m.isEmpty<;>cases zero n<;>cases t.isEmpty<;>simp
 all_goals try simp only[hl]
 all_goals try simp only[Cd,f1]
 all_goals (try rw[e1]);(try rw[e2]);(try rw[e3]);(try rw[e4])
 all_goals clear e1 e2 e3 e4 e5 f0 f1 f2 f4 f8 hl
 all_goals (cases (o==0)<;>cases m.isEmpty<;>cases zero n<;>cases t.isEmpty<;>simp[Bool.and_comm,Bool.or_assoc])
end Tr
namespace Tr
open Go
structure Kd where
 kind:Int
 first:Bool
 wrap:Bool
 text:List UInt8
def none_:Kd:=⟨0,false,false,[]⟩
def nth (l:List Kd)(i:Nat):Kd:=l.getD i none_
def Me (s:List UInt8):List UInt8:=40::(s++[41])
def Mc (a:Kd):List UInt8:=if item a.kind then a.text else Me a.text
def behind (a:Kd):List UInt8:=if a.wrap then Me a.text else a.text
def join (b:List UInt8):List (List UInt8)->List UInt8
 | []=>[]
 |s::r=>r.foldl (λx y=>x++b++y) s
theorem Fea (b:List UInt8)(l:List (List UInt8))(x:List UInt8)(h:l≠[]):join b (l++[x])=join b l++b++x:=by
 cases l with
 |nil=>exact absurd rfl h
 |cons s r=>simp[join]
theorem Uz (b:List UInt8)(l:List (List UInt8)):(join b l).length<=(l.map λx=>x.length+b.length).sum:=by
 cases l with
 |nil=>simp[join]
 |cons s r=>
  have key:∀(r:List (List UInt8)) (s:List UInt8),(r.foldl (λx y=>x++b++y) s).length=s.length+(r.map λx=>x.length+b.length).sum:=by
   intro r
   induction r with
   |nil=>intro s;simp
   |cons y r ih=>intro s;rw[List.foldl_cons,ih];simp;omega
  rw[join,key];simp
def Lh:List UInt8:=[226,134,144]
def Wm:List UInt8:=[226,142,149]
def Jt:List UInt8:=[226,141,158]
def N8:List UInt8:=[226,139,132]
def Uaa:List UInt8:=[226,141,186]
def Vz:List UInt8:=[226,141,181]
def del:List UInt8:=[226,136,135]
def jot:List UInt8:=[226,136,152]
theorem Gea:Tk.enc1 0x2190=Lh:=by decide
theorem Wz:Tk.enc1 0x2395=Wm:=by decide
theorem Hea:Tk.enc1 0x235E=Jt:=by decide
theorem Wla:Tk.enc1 0x22C4=N8:=by decide
theorem Iea:Tk.enc1 0x237A=Uaa:=by decide
theorem Jea:Tk.enc1 0x2375=Vz:=by decide
theorem Xla:Tk.enc1 0x2207=del:=by decide
theorem Yla:Tk.enc1 0x2218=jot:=by decide
theorem Ap {o:Int}(h:port o=true):Tk.enc1 (48+o)=[UInt8.ofNat (48+o).toNat]:=by
 unfold port at h;simp only[Bool.and_eq_true,decide_eq_true_eq] at h;unfold Tk.enc1 Gl.one;rw[if_pos (by omega)];rfl
def quoted (t:List Int):List UInt8:=39::((t.flatMap λc=>if c=39 then 39::Tk.enc1 c else Tk.enc1 c)++[39])
def places (l:List Kd):List UInt8:=91::(join [59] (l.map Kd.text)++[93])
def Yf (o:Int):List UInt8:=[UInt8.ofNat (48+o).toNat]
def Xm (k o:Int)(m:List UInt8)(n:Rt.Nm)(t:List Int):List UInt8:=
 if k=1 then Dg.print n else if k=2 then quoted t else if k=4 then Uaa else if k=5 then Vz else if k=6 then Wm++Yf o else if k=7 then Jt++Yf o
 else if k=17 then Tk.enc1 o else if k=19 then del else if k=21 then Wm++(if o=1 then[85,80] else[68,67]) else m
def Cc (k o:Int)(m:List UInt8)(n:Rt.Nm)(t:List Int)(l:List Kd):List UInt8:=
 if k=8 then join [32] (l.map Mc)
 else if k=9 then Mc (nth l 0)++places (l.drop 1)
 else if k=11 then(nth l 0).text++[32]++behind (nth l 1)
 else if k=12 then(if(nth l 0).kind=8 then(nth l 0).text else Mc (nth l 0))++[32]++(nth l 1).text++[32]++behind (nth l 2)
 else if k=13\/k=27 then m++Lh++(nth l 0).text
 else if k=14 then m++places (l.drop 1)++Lh++(nth l 0).text
 else if k=15 then m++[32]++(nth l 0).text++Lh++(nth l 1).text
 else if k=16 then Wm++Yf o++Lh++(nth l 0).text
 else if k=20 then 123::(join N8 (l.map Kd.text)++[125])
 else if k=22 then(nth l 0).text++Tk.enc1 o
 else if k=23 then(nth l 0).text++Tk.enc1 o++(if array (nth l 1).kind then Mc (nth l 1) else(nth l 1).text)
 else if k=24 then jot++[46]++(nth l 0).text
 else if k=25 then join [58] (l.map Kd.text)
 else if k=26 then join [58,58] (l.map Kd.text)
 else if k=28 then join N8 (l.map Kd.text)
 else Xm k o m n t
def Mt (k o:Int)(m:List UInt8)(n:Rt.Nm)(t:List Int)(l:List Kd):Kd:=
 ⟨k,if k=22\/k=23 then(nth l 0).first else(k==24)||((k==17)&&Uf.contains o),(k==11)&&(nth l 0).first,Cc k o m n t l⟩
mutual
def kd:Tree->Kd
 | .mk k o m n t l=>Mt k o m n t (Ve l)
def Ve:List Tree->List Kd
 | []=>[]
 |t::r=>kd t::Ve r
end
theorem Pg:∀l:List Tree,Ve l=l.map kd
 | []=>rfl
 |t::r=>by rw[Ve,Pg r];rfl
theorem Ik (t:Tree):(kd t).kind=kind t:=by cases t;rfl
theorem Nc {l:List Tree}{i:Nat}(h:i<l.length):nth (Ve l) i=kd l[i]:=by
 unfold nth;rw[Pg,List.getD_eq_getElem?_getD,List.getElem?_map,List.getElem?_eq_getElem h];rfl
def Ia (t:Tree):List UInt8:=(kd t).text
def Es (t:Tree):List UInt8:=if right t then Ia t else[]
theorem Ah:∀{l:List Tree},Bd l=true->∀{i:Nat} (h:i<l.length),all l[i]=true
 | [],_,_,h=>by simp at h
 |t::r,ha,0,_=>by unfold Bd at ha;simp only[Bool.and_eq_true] at ha;exact ha.1
 |t::r,ha,i+1,h=>by unfold Bd at ha;simp only[Bool.and_eq_true] at ha;exact Ah ha.2 (by simpa using h)
theorem Xz:∀{l:List Tree} {i:Nat} (h:i<l.length),count l[i]<=Bb l
 | [],_,h=>by simp at h
 |t::r,0,_=>by unfold Bb;simp
 |t::r,i+1,h=>by unfold Bb;have:=Xz (l:=r) (i:=i) (by simpa using h);simp;omega
def Yz:Nat:=30000
theorem Zz (t:List Int):(t.flatMap λc=>if c=39 then 39::Tk.enc1 c else Tk.enc1 c).length<=5*t.length:=by
 induction t with
 |nil=>simp
 |cons c r ih=>
  have h1:(if c=39 then 39::Tk.enc1 c else Tk.enc1 c).length<=5:=by
   have:(Tk.enc1 c).length<=4:=by unfold Tk.enc1;rw[List.length_map,Gl.one_len];unfold Gl.wide;split<;>(try omega);split<;>(try omega);split<;>omega
   split
   ·simp;omega
   omega
  rw[List.flatMap_cons,List.length_append,List.length_cons];omega
theorem Nw (s:List UInt8):(Me s).length=s.length+2:=by simp[Me]
theorem Bp (a:Kd):(Mc a).length<=a.text.length+2:=by unfold Mc;split<;>simp[Me]
theorem Ot (a:Kd):(behind a).length<=a.text.length+2:=by unfold behind;split<;>simp[Me]
def Kg (l:List Kd):Nat:=(l.map λx=>x.text.length+8).sum
theorem Sna (l:List Kd):(nth l 0).text.length+(nth l 1).text.length+(nth l 2).text.length<=Kg l:=by
 match l with
 | []=>simp[nth,none_,Kg]
 | [a]=>simp[nth,none_,Kg]<;>omega
 | [a,b]=>simp[nth,none_,Kg]<;>omega
 |a::b::c::r=>simp[nth,Kg]<;>omega
theorem Kea (l:List Kd):(nth l 0).text.length+Kg (l.drop 1)<=Kg l:=by
 match l with
 | []=>simp[nth,none_,Kg]
 |a::r=>simp[nth,Kg]
theorem Xj (b:List UInt8)(l:List Kd)(h:b.length<=8):(join b (l.map Kd.text)).length<=Kg l:=by
 refine Nat.le_trans (Uz _ _) ?_;rw[List.map_map];unfold Kg
 induction l with
 |nil=>simp
 |cons a r ih=>simp only[List.map_cons,List.sum_cons,Function.comp] at ih⊢;omega
theorem Vaa (b:List UInt8)(l:List Kd)(h:b.length<=6):(join b (l.map Mc)).length<=Kg l:=by
 refine Nat.le_trans (Uz _ _) ?_;rw[List.map_map];unfold Kg
 induction l with
 |nil=>simp
 |cons a r ih=>
  have:=Bp a;simp only[List.map_cons,List.sum_cons,Function.comp] at ih⊢;omega
theorem Waa (l:List Kd):(places l).length<=Kg l+2:=by
 have:=Xj [59] l (by simp);unfold places;simp;omega
theorem enc1_len (x:Int):(Tk.enc1 x).length<=4:=by unfold Tk.enc1;rw[List.length_map,Gl.one_len];unfold Gl.wide;split<;>(try omega);split<;>(try omega);split<;>omega
theorem Zla (k o:Int)(m:List UInt8)(n:Rt.Nm)(t:List Int)(l:List Kd)(hm:m.length<=16)(hl:(Xm k o m n t).length<=29000):(Cc k o m n t l).length+8<=Yz+Kg l:=by
 have h3:=Sna l;have hd:=Kea l;have i0:=Bp (nth l 0);have i1:=Bp (nth l 1);have b1:=Ot (nth l 1);have b2:=Ot (nth l 2);have p1:=Waa (l.drop 1);have j1:=Vaa [32] l (by simp);have j2:=Xj [58] l (by simp);have j3:=Xj [58,58] l (by simp);have j4:=Xj N8 l (by simp[N8]);have he:=enc1_len o;have key:∀{c:Prop} [Decidable c] {a b:List UInt8} {N:Nat},(c->a.length+8<=N)->(¬c->b.length+8<=N)->(if c then a else b).length+8<=N:=by
  intro c _ a b N h1 h2;by_cases h:c
  ·rw[if_pos h];exact h1 h
  rw[if_neg h];exact h2 h
 have key2:∀{c:Prop} [Decidable c] {a b:List UInt8} {N:Nat},a.length<=N->b.length<=N->(if c then a else b).length<=N:=by
  intro c _ a b N h1 h2;by_cases h:c
  ·rw[if_pos h];exact h1
  rw[if_neg h];exact h2
 have w1:=key2 (c:=(nth l 0).kind=8) (Nat.le_add_right (nth l 0).text.length 2) i0;have w2:=key2 (c:=array (nth l 1).kind=true) i1 (Nat.le_add_right (nth l 1).text.length 2);have q1:Lh.length=3:=rfl;have q2:Wm.length=3:=rfl;have q3:(Yf o).length=1:=rfl;have q4:jot.length=3:=rfl;unfold Cc Yz;refine key (λ_=>?_) (λ_=>key (λ_=>?_) (λ_=>key (λ_=>?_) (λ_=>key (λ_=>?_) (λ_=>key (λ_=>?_) (λ_=>key (λ_=>?_) (λ_=>key (λ_=>?_) (λ_=>key (λ_=>?_) (λ_=>key (λ_=>?_) (λ_=>key (λ_=>?_) (λ_=>key (λ_=>?_) (λ_=>key (λ_=>?_) (λ_=>key (λ_=>?_) (λ_=>key (λ_=>?_) (λ_=>key (λ_=>?_) (λ_=>?_)))))))))))))));all_goals try simp only[List.length_append,List.length_cons,List.length_nil]
 all_goals omega
theorem Ow {m:List UInt8}{b:Bool}(h:Ua m b=true):m.length<=16:=by
 unfold Ua at h;simp only[Bool.and_eq_true,decide_eq_true_eq] at h;exact h.1.1.1.2
theorem Dl {k o:Int}{m:List UInt8}{n:Rt.Nm}{t:List Int}(h:Ta k o m n t=true):m.length<=16:=by
 unfold Ta at h;simp only[Bool.and_eq_true] at h;have h1:=h.1.2;by_cases a:k=3\/k=13\/k=14\/k=15
 ·rw[if_pos a] at h1;exact Ow h1
 rw[if_neg a] at h1;by_cases b:k=18\/k=27
 ·rw[if_pos b] at h1;exact Ow h1
 rw[if_neg b] at h1;cases m with
 |nil=>simp
 |cons _ _=>cases h1
theorem Fs {o:Int}{m:List UInt8}{n:Rt.Nm}{t:List Int}(h:Ta 1 o m n t=true):Rt.right n=true:=by
 unfold Ta at h;simp only[Bool.and_eq_true] at h
 simpa using h.1.1.1
theorem Cp {o:Int}{m:List UInt8}{n:Rt.Nm}{t:List Int}(h:Ta 2 o m n t=true):t.length<=2048/\∀c∈t,Gl.may c=true:=by
 unfold Ta at h;simp only[Bool.and_eq_true] at h
 simpa using h.1.1.2
theorem A0 {n:Rt.Nm}(h:Rt.right n=true):Nt.Ok n.top/\Nt.Ok n.bot:=by
 obtain⟨g,t,u⟩:=n;unfold Rt.right at h;simp only[Bool.and_eq_true,decide_eq_true_eq,beq_iff_eq] at h;obtain⟨⟨_,h3⟩,h4⟩:=h;unfold Rt.mk at h3 h4;dsimp only at h3 h4⊢;by_cases hy:Nt.val u=0
 ·rw[if_pos hy] at h3;cases h3
 rw[if_neg hy] at h3 h4;by_cases hl:32<(Nt.digs (Nt.val t/Nat.gcd (Nt.val t) (Nt.val u))).length\/32<(Nt.digs (Nt.val u/Nat.gcd (Nt.val t) (Nt.val u))).length
 ·rw[if_pos hl] at h3;cases h3
 rw[if_neg hl] at h4;injection h4 with e1 e2 e3
 exact⟨by rw[<-e2];exact Nt.ok_digs _,by rw[<-e3];exact Nt.ok_digs _⟩
def Dec:Prop:=∀l:List Nat,Nt.Ok l->l.length<=32->(Lib.decDigits (Nt.val l)).length<=10000
theorem Mea (hd:Dec){n:Rt.Nm}(h:Rt.right n=true):(Dg.print n).length<=20003:=by
 have ho:=A0 h;have hr:=(Rt.right_iff ho.1 ho.2).1 h;have h1:=hd _ ho.1 hr.1;have h2:=hd _ ho.2 hr.2.1;unfold Dg.print;by_cases a:n.neg=true
 ·by_cases b:n.bot=[1]
  ·rw[if_pos a,if_pos b];simp;omega
  rw[if_pos a,if_neg b];simp;omega
 by_cases b:n.bot=[1]
 ·rw[if_neg a,if_pos b];simp;omega
 rw[if_neg a,if_neg b];simp;omega
theorem Gia (hd:Dec){k o:Int}{m:List UInt8}{n:Rt.Nm}{t:List Int}(h:Ta k o m n t=true):(Xm k o m n t).length<=29000:=by
 have hm:=Dl h;have he:=enc1_len o;have q1:Uaa.length=3:=rfl;have q2:Wm.length=3:=rfl;have q3:(Yf o).length=1:=rfl;have q4:Jt.length=3:=rfl;have q5:Vz.length=3:=rfl;have q6:del.length=3:=rfl;have key:∀{c:Prop} [Decidable c] {a b:List UInt8} {N:Nat},(c->a.length<=N)->(¬c->b.length<=N)->(if c then a else b).length<=N:=by
  intro c _ a b N h1 h2;by_cases h:c
  ·rw[if_pos h];exact h1 h
  rw[if_neg h];exact h2 h
 have q7:(if o=1 then[85,80] else[68,67]:List UInt8).length<=2:=key (λ_=>by simp) (λ_=>by simp);unfold Xm;refine key (λe=>?_) (λ_=>key (λe=>?_) (λ_=>key (λ_=>?_) (λ_=>key (λ_=>?_) (λ_=>key (λ_=>?_) (λ_=>key (λ_=>?_) (λ_=>key (λ_=>?_) (λ_=>key (λ_=>?_) (λ_=>key (λ_=>?_) (λ_=>?_)))))))))
 ·subst e;have:=Mea hd (Fs h);omega
 ·subst e
  have:=(Cp h).1;have:=Zz t;unfold quoted;simp only[List.length_cons,List.length_append,List.length_nil];omega
 all_goals try simp only[List.length_append]
 all_goals omega
theorem Sb {k o:Int}{m:List UInt8}{n:Rt.Nm}{t:List Int}{l:List Tree}(h:all (.mk k o m n t l)=true):Ta k o m n t=true/\Pb k o (l.map kind)=true/\Bd l=true:=by
 unfold all one at h;simp only[Bool.and_eq_true] at h;exact⟨h.1.1,h.1.2,h.2⟩
mutual
theorem O8 (hd:Dec):∀t:Tree,all t=true->(Ia t).length+8<=Yz*count t
 | .mk k o m n t l,h=>by
  obtain⟨h1,h2,h3⟩:=Sb h;have:=Zla k o m n t (Ve l) (Dl h1) (Gia hd h1);have ih:=I0 hd l h3;unfold Ia kd Mt count;rw[Nat.mul_add,Nat.mul_one];dsimp only;omega
theorem I0 (hd:Dec):∀l:List Tree,Bd l=true->Kg (Ve l)<=Yz*Bb l
 | [],_=>by unfold Ve Bb;simp[Kg]
 |t::r,h=>by
  unfold Bd at h;simp only[Bool.and_eq_true] at h;have h1:=O8 hd t h.1;have h2:=I0 hd r h.2;unfold Ia at h1;unfold Kg at h2;unfold Ve Bb Kg;rw[Nat.mul_add,List.map_cons,List.sum_cons];omega
end
end Tr
