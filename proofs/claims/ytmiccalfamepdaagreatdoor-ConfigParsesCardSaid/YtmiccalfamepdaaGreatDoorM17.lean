/- Texts of this proof, joined. -/
import Derived.Test.YtmiccalfamepdaaGreatDoorM16
set_option linter.all false
set_option maxHeartbeats 8000000
set_option maxRecDepth 100000
namespace Go.Proofs.YtmiccalfamepdaaGreatDoor
section
open Go.RowKit Ar
structure Dr (s:List UInt8) (neg:Bool) (k:Nat) (n:Int):Prop where
 v:Co.foldN neg (s.drop k) n=Co.foldN neg (Co.restN s) 0
 wf: -9223372036854775808<=n/\n<=9223372036854775807
theorem Fka {s:List UInt8}{neg:Bool}{k:Nat}{n:Int}(h:Dr s neg k n)(hk:k<s.length):Dr s neg (k+1) (Co.stepN neg n s[k]):=
 ⟨by rw[<-h.v,<-List.getElem_cons_drop hk,Co.foldN_cons],Co.stepN_wf _ _ _⟩
theorem Xla {s:List UInt8}{f k:Nat}(hf:Co.restN s=s.drop f)(hk:k<s.length)(h:f<=k)(hd:¬Ten.isDig s[k]):Co.numR s=none:=by
 refine Co.numR_dig (b:=s[k]) ?_ hd;rw[hf,List.mem_iff_getElem];exact⟨k-f,by simp;omega,by simp;congr 1;omega⟩
def Tg (s:List UInt8)(w:World)(e:Ending)(w':World):Prop:=∃(n:Int) (ok:Bool),e= .returned (.tuple #[.int .i64 n,.bool ok])/\w=w'/\(ok=true->Co.numR s=some n)/\(ok=false->Co.numR s=none)/\ -9223372036854775808<=n/\n<=9223372036854775807
theorem Cfa (s:List UInt8)(w:World)(hs:s.length<=1000000):Calls Tryz.prog 70 #[.string ⟨s.toArray⟩] w (Tg s w):=by
 have hsz:(⟨s.toArray⟩:ByteArray).size=s.length:=rfl;have HSZ:=Qd hsz;have HNO:Hid (Co.numR s=none->Tg s w (.returned (.tuple #[.int .i64 0,.bool false])) w):=Qd (λh=>⟨0,false,rfl,rfl,nofun,λ_=>h,by omega,by omega⟩);have HEND:Hid (∀n,n=Co.foldN (Co.negB s) (Co.restN s) 0-> -9223372036854775808<=n->n<=9223372036854775807->Tg s w (.returned (.tuple #[.int .i64 n,.bool (Lib.itoa n==s)])) w):=Qd (λn hn h1 h2=>by
  refine⟨n,_,rfl,rfl,?_,?_,h1,h2⟩
  ·intro h;rw[Co.numR_of,<-hn,if_pos (beq_iff_eq.1 h)]
  intro h;rw[Co.numR_of,<-hn,if_neg (beq_eq_false_iff_ne.1 h)])
 have HLONG:=Qd (@Co.numR_long s);have hneg:∃(neg:Bool) (f:Nat),Co.negB s=neg/\Co.restN s=s.drop f/\f<=s.length/\((neg=true/\f=1/\∃h:0<s.length,s[0].toNat=45)\/(neg=false/\f=0/\(s.length=0\/∃h:0<s.length,s[0].toNat≠45))):=by
  cases hb:Co.negB s with
  |true=>
   refine⟨true,1,rfl,by unfold Co.restN;rw[hb];rfl,?_⟩;cases s with
   |nil=>cases hb
   |cons b r=>
    unfold Co.negB at hb;simp at hb;exact⟨by simp,.inl ⟨rfl,rfl,by simp,by rw[List.getElem_cons_zero,hb];rfl⟩⟩
  |false=>
   refine⟨false,0,rfl,by unfold Co.restN;rw[hb];rfl,Nat.zero_le _,.inr ⟨rfl,rfl,?_⟩⟩;cases s with
   |nil=>exact .inl rfl
   |cons b r=>
    unfold Co.negB at hb;simp at hb;exact .inr ⟨by simp,λh=>hb (UInt8.toNat_inj.1 h)⟩
 obtain⟨neg,f,hn,hf,hfl,hcase⟩:=hneg;rw[hn] at HEND;have HF:=Qd hf;have hrl:(Co.restN s).length=s.length-f:=by rw[hf,List.length_drop]
 rw[hrl] at HLONG;have H0:Hid (Dr s neg f 0):=Qd ⟨by rw[hf],by omega,by omega⟩;clear hn hf hrl;have HC:Hid (neg=true/\f=1\/neg=false/\f=0):=Qd (by rcases hcase with⟨a,b,-⟩ |⟨a,b,-⟩<;>simp[a,b]);obtain⟨V,hV⟩:∃V:Value,V= .bool neg:=⟨_,rfl⟩;have HDIG:Hid (∀k (h:k<s.length),f<=k->¬(48<=s[k].toNat/\s[k].toNat<=57)->Tg s w (.returned (.tuple #[.int .i64 0,.bool false])) w):=Qd (λk h hk hd=>HNO.out (Xla HF.out h hk hd));have HSTEP:Hid (∀k n (h:k<s.length),Dr s neg k n->Dr s neg (k+1) (Co.stepN neg n s[k])):=Qd (λk n h h1=>Fka h1 h);have HFIN:Hid (∀n,Dr s neg s.length n->Tg s w (.returned (.tuple #[.int .i64 n,.bool (Lib.itoa n==s)])) w):=Qd (λn h=>HEND.out n (by rw[<-h.v,List.drop_length];rfl) h.wf.1 h.wf.2);have HL:Hid (19<s.length-f->Tg s w (.returned (.tuple #[.int .i64 0,.bool false])) w):=Qd (λh=>HNO.out (HLONG.out h));clear HNO HEND HLONG HF;rcases hcase with⟨hn,hf,h0,h45⟩ |⟨hn,hf,hl0 |⟨h0,h45⟩⟩
 case' inl=>
  have hgy:((⟨s.toArray⟩:ByteArray)[0]'(show 0<(⟨s.toArray⟩:ByteArray).size from h0)).toNat=45:=h45;have hi0:(0:Int)<(s.length:Int):=by omega
 case' inr.inl=>
  have hi0:¬(0:Int)<(s.length:Int):=by omega
 case' inr.inr=>
  obtain⟨y0,hy0⟩:∃y0,y0=s[0].toNat:=⟨_,rfl⟩;have hgy:((⟨s.toArray⟩:ByteArray)[0]'(show 0<(⟨s.toArray⟩:ByteArray).size from h0)).toNat=y0:=hy0.symm;have hi0:(0:Int)<(s.length:Int):=by omega
  have hb0:((y0:Int)==45)=false:=beq_eq_false_iff_ne.2 (by rw[<-hy0] at h45;omega);clear hy0 h45
 all_goals
  have HN:=Qd hn;have HF:=Qd hf;clear hn hf;go_enter Tryz.func70,Tryz.ntmps70
  go_wp2_with fail
 any_goals (go_ret2;exact HL.out (by rw[HF.out];omega))
 any_goals clear hl0
 all_goals
  clear hi0
  go_loop [6,7] (λa i=>∃(k:Nat) (n:Int),f<=k/\k<=s.length/\a= .int .i64 n/\i= .int .i64 k/\Hid (Dr s neg k n)) (λ_ i=>s.length-(intOf i).toNat)
  case atStart=>exact⟨f,0,Lr,hfl,rfl,by rw[HF.out];rfl,H0⟩
  case round=>
   obtain⟨k,n,hfk,hk,rfl,rfl,H⟩:=hrel;obtain⟨hn1,hn2⟩:=H.out.wf;by_cases hlt:k<s.length
   ·obtain⟨y,hy⟩:∃y,y=s[k].toNat:=⟨_,rfl⟩
    have hgy:((⟨s.toArray⟩:ByteArray)[k]'(show k<(⟨s.toArray⟩:ByteArray).size from hlt)).toNat=y:=hy.symm;have HS:=Qd (HSTEP.out k n hlt H.out);have HD:Hid (¬(48<=y/\y<=57)->_):=Qd (λh=>HDIG.out k hlt hfk (by rw[<-hy];exact h));have HV:Hid (48<=y->Co.stepN neg n s[k]=if neg then wrap64 (wrap64 (10*n)-((y-48:Nat):Int)) else wrap64 (wrap64 (10*n)+((y-48:Nat):Int))):=Qd (λh=>by unfold Co.stepN;rw[<-hy,show((y:Int)-48)=((y-48:Nat):Int) by omega]);have hy2:y<256:=by rw[hy];exact s[k].toNat_lt
    clear hy;by_cases h1:48<=y
    ·by_cases h2:y<=57
     ·have hw1:IntKind.u8.wrap ((y:Int)-48)=((y-48:Nat):Int):=by rw[show(y:Int)-48=((y-48:Nat):Int) by omega];exact IntWalk.u8_in _ (by omega)
      go_wp2_with fail
      go_round
      case rel=>exact⟨k+1,_,by omega,by omega,by rw[HV.out h1,HN.out];rfl,by go_num,HS⟩
      case measure=>simp[intOf];omega
     have HE:=Qd (HD.out (by omega));go_wp2_with fail
     go_ret2
     exact HE.out
    have HE:=Qd (HD.out (by omega));go_wp2_with fail
    go_ret2
    exact HE.out
   obtain rfl:k=s.length:=by omega
   have HE:=Qd (HFIN.out n H.out);have DG:=Qd (Kx n w hn1 hn2);have hil:=Xq hn1 hn2;generalize Lib.itoa n=t at*;by_cases hts:t=s
   ·have hb:(t==s)=true:=beq_iff_eq.2 hts
    go_wp2_with fail
    refine DG.out.mono ?_;rintro e w' ⟨rfl,rfl⟩;go_wp2_with fail
    go_ret2
    rw[hb] at HE;exact HE.out
   have hb:(t==s)=false:=beq_eq_false_iff_ne.2 hts;go_wp2_with fail
   refine DG.out.mono ?_;rintro e w' ⟨rfl,rfl⟩;go_wp2_with fail
   go_ret2
   rw[hb] at HE;exact HE.out
end
section
open Go.RowKit Ar
namespace Co
noncomputable def Zn:List UInt8->List UInt8->Option (List Int)
 |p,[]=>(numR p).map ([·])
 |p,c::r=>if c=32 then(numR p).bind λn=>(Zn [] r).map (n:: ·) else Zn (p++[c]) r
theorem Ao:∀(r p:List UInt8) (f:Nat),(32:UInt8)∉p->(p++r).length<=f->Zn p r=Gg (Sp.wordsF f (p++r))
 | [],p,f,hp,_=>by
  have e:Sp.wordsF f (p++[])=[p]:=by
   rw[List.append_nil];cases f with
   |zero=>rfl
   |succ f=>rw[Sp.wordsF,Lab.cutAt_none hp];rfl
  rw[e,Zn,Gg,Gg];cases numR p<;>rfl
 |c::r,p,f,hp,hf=>by
  rw[Zn]
  split
  ·next h=>
   subst h;cases f with
   |zero=>simp at hf
   |succ f=>
    rw[Sp.wordsF,Lab.cutAt_some hp,if_pos rfl,Gg,Ao r [] f (by simp) (by simp at hf⊢;omega)];rfl
  next h=>
  rw[Ao r (p++[c]) f (by simp[hp];exact λe=>h e.symm) (by simpa using hf)];simp
structure LsAt (s:List UInt8) (fr i:Nat) (done:List Int):Prop where
 le:fr<=i
 il:i<=s.length+1
 v:i<=s.length->listR s=(Zn ((s.take i).drop fr) (s.drop i)).map (done++ ·)
 e:i=s.length+1->listR s=some done
 wf:Xa done
 dl:done.length<=i
theorem ls_start {s:List UInt8}(h:s≠[]):LsAt s 0 0 []:=
 ⟨Lr,by omega,λ_=>by
  unfold listR Sp.words;rw[if_neg h];have:=Ao s [] s.length (by simp) Lr;rw[List.nil_append] at this;rw[<-this];simp,by omega,nofun,Lr⟩
theorem ls_go {s:List UInt8}{fr i:Nat}{done:List Int}(h:LsAt s fr i done)(hi:i<s.length)(hc:s[i]≠32):LsAt s fr (i+1) done:=by
 have hle:=h.le;refine⟨by omega,by omega,λ_=>?_,by omega,h.wf,by have:=h.dl;omega⟩;rw[h.v (by omega),<-List.getElem_cons_drop hi,Zn,if_neg hc,List.take_succ_eq_append_getElem hi,List.drop_append_of_le_length (by rw[List.length_take,Nat.min_eq_left (by omega)];exact hle)]
theorem ls_bad {s:List UInt8}{fr i:Nat}{done:List Int}(h:LsAt s fr i done)(hi:i<=s.length)(hc:∀(h:i<s.length),s[i]=32)(hn:numR ((s.take i).drop fr)=none):listR s=none:=by
 rw[h.v hi];by_cases hl:i<s.length
 ·rw[<-List.getElem_cons_drop hl,Zn,if_pos (hc hl),hn];rfl
 rw[List.drop_eq_nil_of_le (by omega:s.length<=i),Zn,hn];rfl
theorem ls_num {s:List UInt8}{fr i:Nat}{done:List Int}(h:LsAt s fr i done)(hi:i<=s.length)(hc:∀(h:i<s.length),s[i]=32){n:Int}(hn:numR ((s.take i).drop fr)=some n):LsAt s (i+1) (i+1) (done++[n]):=by
 have hw:Xa (done++[n]):=λx hx=>by
  rcases List.mem_append.1 hx with h1 |h1
  ·exact h.wf x h1
  rw[List.mem_singleton] at h1;subst h1;exact(numR_some hn).2
 have hd:(done++[n]).length<=i+1:=by have:=h.dl;simp;omega
 refine⟨Lr,by omega,λh1=>?_,λh1=>?_,hw,hd⟩
 ·rw[h.v hi,<-List.getElem_cons_drop (by omega:i<s.length),Zn,if_pos (hc (by omega)),hn,Option.bind_some,List.drop_eq_nil_of_le (by rw[List.length_take];omega:(s.take (i+1)).length<=i+1),Option.map_map]
  congr 1
  funext x
  simp
 rw[h.v hi,List.drop_eq_nil_of_le (by omega:s.length<=i),Zn,hn];simp
end Co
theorem Gka (s:List UInt8)(a b:Nat)(h:b<=s.length):(⟨s.toArray⟩:ByteArray).extract a b=⟨((s.take b).drop a).toArray⟩:=by
 apply ByteArray.ext
 simp[List.extract_toArray,List.drop_take]
def Mh (s:List UInt8)(w:World)(e:Ending)(w':World):Prop:=∃v,e= .returned (.tuple #[v,.bool (Co.listR s).isSome])/\w'.ownsRow w.heap.size 3 1 v ((Co.listR s).getD []).length (Ya ((Co.listR s).getD []))/\((Co.listR s).getD []).length<=s.length+1/\Below w.heap.size w w'
theorem D9 (s:List UInt8)(w:World)(hs:s.length<=1000000):Calls Tryz.prog 43 #[.string ⟨s.toArray⟩] w (Mh s w):=by
 obtain⟨i0,hi,hz0,hz1,hz2⟩:=info_parts Jt;have hsz:(⟨s.toArray⟩:ByteArray).size=s.length:=rfl;have HSZ:=Qd hsz;have HNO:Hid (Co.listR s=none->∀wx,Below w.heap.size w wx->Mh s w (.returned (.tuple #[.slice none 0 0,.bool false])) wx):=Qd (λh wx hb=>by
  unfold Mh;rw[h];exact⟨_,rfl,World.ownsRow_nil _ _ _ _,by simp,hb⟩)
 have HYES:Hid (∀l v wx,Co.listR s=some l->wx.ownsRow w.heap.size 3 1 v l.length (Ya l)->l.length<=s.length+1->Below w.heap.size w wx->Mh s w (.returned (.tuple #[v,.bool true])) wx):=Qd (λl v wx h ho hl hb=>by
  unfold Mh;rw[h];exact⟨_,rfl,ho,hl,hb⟩)
 by_cases hs0:s=[]
 ·have HE:=Qd (HYES.out [] (.slice none 0 0) w (by rw[hs0];rfl) (World.ownsRow_nil _ _ _ _) (by simp) Br)
  have h0:s.length=0:=by rw[hs0];rfl
  have h1:¬(0:Int)<(s.length:Int):=by omega
  clear hs0;go_enter Tryz.func43,Tryz.ntmps43
  go_wp2_with fail
  go_loop [4,6] (λo i=>o= .slice none 0 0/\i= .int .i64 0) (λ_ _=>0)
  case atStart=>exact⟨rfl,rfl⟩
  case round=>
   obtain⟨rfl,rfl⟩:=hrel;go_wp2_with fail
   go_ret2
   exact HE.out
 have H0:=Qd (Co.ls_start hs0);have hp:(0:Int)<(s.length:Int):=by have:=List.length_pos_iff.2 hs0;omega
 clear hs0;go_enter Tryz.func43,Tryz.ntmps43
 go_wp2_with fail
 go_loopw [4,5,6,7,8] (λo a b _ _ wr=>∃(fr i:Nat) (done:List Int),a= .int .i64 fr/\b= .int .i64 i/\i<=s.length+1/\Hid (Co.LsAt s fr i done)/\Hid (wr.ownsRow w.heap.size 3 1 o done.length (Ya done))/\Hid (Below w.heap.size w wr)) (λ_ _ b _ _ _=>s.length+1-(intOf b).toNat)
 case atStart=>exact⟨0,0,[],rfl,rfl,by omega,H0,Qd (World.ownsRow_nil _ _ _ _),Qd Br⟩
 case round=>
  obtain⟨fr,i,done,rfl,rfl,hil,HL,HO,HB⟩:=hrel;by_cases hle:i<=s.length
  ·have hfi:=HL.out.le
   have hdl:=HL.out.dl;obtain⟨A2,C2,rfl,hC1,hC2⟩:=Na HO.out;have hsl:w.heap.size<=wr.heap.size:=HB.out.size;have HM:=Qd (Gka s fr i hle);have HN:=Qd (Cfa ((s.take i).drop fr) wr (by rw[List.length_drop,List.length_take];omega));have hfi':(fr:Int)<=(i:Int):=by omega
   have hle':(i:Int)<=(s.length:Int):=by omega
   have m1:IntKind.i64.wrap ((i:Int)+1)=(i:Int)+1:=IntWalk.i64_in _ (by omega);obtain⟨cc,hcc,hcase⟩:∃cc:Bool,(cc=true->∀h:i<s.length,s[i]=32)/\((cc=false/\∃(h:i<s.length) (y:Nat),s[i].toNat=y/\((y:Int)!=32)=true)\/(cc=true/\∃(h:i<s.length),s[i].toNat=32)\/(cc=true/\¬i<s.length)):=by
    by_cases hl:i<s.length
    ·by_cases h32:s[i]=32
     ·exact⟨true,λ_ _=>h32,.inr (.inl ⟨rfl,hl,by rw[h32];rfl⟩)⟩
     refine⟨false,nofun,.inl ⟨rfl,hl,_,rfl,?_⟩⟩;simp only[bne_iff_ne,ne_eq];intro e;exact h32 (UInt8.toNat_inj.1 (by show _=32;omega))
    exact⟨true,λ_ h=>absurd h hl,.inr (.inr ⟨rfl,hl⟩)⟩
   have HCC:=Qd hcc;clear hcc;rcases hcase with⟨-,hl,y,hy,hy2⟩ |⟨hc,hl,hy⟩ |⟨hc,hl⟩
   case' inl=>
    have hgy:((⟨s.toArray⟩:ByteArray)[i]'(show i<(⟨s.toArray⟩:ByteArray).size from hl)).toNat=y:=hy;have HG:=Qd (Co.ls_go HL.out hl (λe=>by rw[e] at hy;subst hy;exact absurd hy2 (by decide)));clear hy;go_wp2_with fail
    go_roundw
    case rel=>exact⟨fr,i+1,done,rfl,by go_num,by omega,HG,HO,HB⟩
    case measure=>simp[intOf];omega
   case' inr.inl=>
    have hgy:((⟨s.toArray⟩:ByteArray)[i]'(show i<(⟨s.toArray⟩:ByteArray).size from hl)).toNat=32:=hy;clear hy
   all_goals
    have H1:Hid (Co.numR ((s.take i).drop fr)=none->_):=Qd (λh=>HNO.out (Co.ls_bad HL.out hle (HCC.out hc) h));have H2:Hid (∀n,Co.numR ((s.take i).drop fr)=some n->Co.LsAt s (i+1) (i+1) (done++[n])):=Qd (λn h=>Co.ls_num HL.out hle (HCC.out hc) h);clear hc HCC;go_wp2_with fail
    rw[HM.out];refine HN.out.mono ?_;rintro e w2 ⟨n,ok,rfl,rfl,hn1,hn2,hn3,hn4⟩;have H3:=Qd hn1;have H4:=Qd hn2;clear hn1 hn2 HN HM;cases ok with
    |false=>
     have HE:=Qd (H1.out (H4.out (by first|rfl |trivial)) _ HB.out);go_wp2_with fail
     go_ret2
     exact HE.out
    |true=>
     have HL2:=Qd (H2.out n (H3.out (by first|rfl |trivial)));have HAP:Hid (Ya (done++[n])=Ya done++[.int .i64 n]):=Qd (by unfold Ya;rw[List.map_append,List.map_singleton]);clear H1 H2 H3 H4;go_wp2_with (at_builtin;refine wpList_append_own _ rfl _ _ 26 rfl w.heap.size 3 i0 (.int .i64 0) 1 8 Tryz.underlying26 hi hz0 hz1 hz2 rfl (by decide) _ _ _ rfl (HO.out.alloc _) ⟨_,0,none⟩ 1 1 [.int .i64 n] rfl rfl (cell_one_new _ _ _) (by intro u hu;simp only[List.mem_singleton] at hu;subst hu;rfl) (by unfold maxLen;omega) (by omega) (by simp;omega) ?_;intro v3 w3 hown3 hgrow3 hnn3)
     have HB3:Hid (Below w.heap.size w w3):=Qd ((HB.out.alloc hsl _).grown hgrow3 (by simp;omega) (λk hk=>(HO.out.lt k hk).1));go_roundw
     case rel=>exact⟨i+1,i+1,done++[n],by go_num,by go_num,by omega,HL2,Qd (by rw[HAP.out];simpa using hown3),HB3⟩
     case measure=>simp[intOf];omega
  have HE:=Qd (HYES.out done _ _ (HL.out.e (by omega)) HO.out (by have:=HL.out.dl;omega) HB.out);go_wp2_with fail
  go_ret2
  exact HE.out
end
section
open Go.RowKit Ar
theorem Wha (R:Option Ba):∃(b:Bool) (x:Ba),((b=true/\R=some x)\/(b=false/\R=none))/\∀w e w',Jc .bool R w e w'->∃vs,e= .returned (.tuple #[.agg vs.toArray,.bool b])/\IsArrP w' (PR w.heap.size w') x vs/\Below w.heap.size w w':=by
 cases R with
 |none=>exact⟨false,_,.inr ⟨rfl,rfl⟩,λw e w' h=>h⟩
 |some x=>exact⟨true,x,.inl ⟨rfl,rfl⟩,λw e w' h=>h⟩
structure E9 (w:World) (s:List UInt8) (v:Value) (W:World) (ars:List Ba) (xs:List Value) (t:List UInt8) (f:Nat):Prop where
 bel:Below w.heap.size w W
 own:W.ownsQ Ic w.heap.size 43 3 v ars.length xs
 arrs:IsArrsP W (PL w.heap.size W v) ars xs
 len:ars.length+t.length<=s.length
 lf:t.length<=f
 good:Co.arrsR s.length s=(Co.arrsR f t).map (ars++ ·)
theorem Hka {w W W6 w9:World}{f m:Nat}{s t t':List UInt8}{v v':Value}{ars:List Ba}{xs vs:List Value}{x:Ba}{o:Obj}(h:E9 w s v W ars xs t (f+1))(hb:Below W.heap.size W W6)(hx:IsArrP W6 (PR m W6) x vs)(hm:W.heap.size<=m)
 (hown:w9.ownsQ Ic w.heap.size 43 3 v' (ars.length+1) (xs++vs)) (hg9:(W6.alloc o).grownBy w9 v.ownBlock) (hat:v'.ownBlock=v.ownBlock\/v'.ownBlock=some (W6.alloc o).heap.size)
 (hlt:t'.length<t.length) (hR:Co.arrsR (f+1) t=(Co.arrsR f t').map (x:: ·)):E9 w s v' w9 (ars++[x]) (xs++vs) t' f:=by
 have hal:Below W6.heap.size W6 (W6.alloc o):=Br.alloc Lr _;have hvl:∀y,v.ownBlock=some y->w.heap.size<=y/\y<W.heap.size:=λy e=>h.own.own.lt y e;have hs:=hb.size;have hsw:=h.bel.size;have hO6:W6.ownsQ Ic w.heap.size 43 3 v ars.length xs:=h.own.kept (Bd W6.heap.size hb) (.inr (λe=>by have:=(hvl _ e).2;omega));have hO7:(W6.alloc o).ownsQ Ic w.heap.size 43 3 v ars.length xs:=hO6.kept (World.grownBy_alloc _ _ none) (by cases v.ownBlock<;>simp);refine⟨((h.bel.trans (hb.mono hsw)).alloc (by omega) o).grown hg9 (by simp;omega) (λy e=>(hvl y e).1),by rw[List.length_append];exact hown,Cx (m:=m) (Ml hal (Ml hb h.arrs)) (Sc hx hal) (by omega) hO7 (λy e=>by have:=(hvl y e).2;omega) hg9 hat,by have:=h.len;simp;omega,by have:=h.lf;omega,?_⟩;rw[h.good,hR];simp[Option.map_map,Function.comp_def]
def Yo (s:List UInt8)(w:World)(e:Ending)(w':World):Prop:=∃(ok:Bool) (l:List Ba) (A:Option Addr) (c:Nat) (us:List Value),e= .returned (.tuple #[.slice A l.length c,.bool ok])/\((ok=true/\Co.arrsR s.length s=some l)\/(ok=false/\Co.arrsR s.length s=none))/\Fits l.length c 56/\LiesP w' (PR w.heap.size w') A us/\IsArrsP w' (PR w.heap.size w') l us/\Below w.heap.size w w'
theorem Mna (s:List UInt8)(w:World)(hs:s.length<=4000):Calls Tryz.prog 45 #[.string ⟨s.toArray⟩] w (Yo s w):=by
 obtain⟨iA,hiA,hz0,hz1,hz2⟩:=info_parts Gea;have HNO:Hid (Co.arrsR s.length s=none->∀wx,Below w.heap.size w wx->Yo s w (.returned (.tuple #[.slice none 0 0,.bool false])) wx):=Qd (λh wx hb=>⟨false,[],none,0,[],rfl,.inr ⟨rfl,h⟩,⟨Lr,by simp,by omega⟩,.inl rfl,by rw[IsArrsP],hb⟩);have HYES:Hid (∀l A c us wx,E9 w s (.slice A l.length c) wx l us [] 0->Yo s w (.returned (.tuple #[.slice A l.length c,.bool true])) wx):=Qd (λl A c us wx h=>by
  obtain⟨A',c',e,hc1,hc2⟩:=Na h.own.own;injection e with e1 e2 e3
  subst e3;have hl:=h.len;refine⟨true,l,A,c,us,rfl,.inl ⟨rfl,by rw[h.good,Co.arrsR];simp⟩,⟨hc1,by simp at hl;omega,by unfold maxLen at hc2;exact hc2⟩,(LiesP.of_own h.own.own).keep (λp hp=>rfl) (λb hb=>⟨hb.2,.inl hb.1⟩),IsArrsP.keep (λp hp=>rfl) (λb hb=>hb.1) _ _ h.arrs,h.bel⟩)
 have H0:Hid (E9 w s (.slice none 0 0) w [] [] s s.length):=Qd ⟨Br,World.ownsQ_nil _ _ _ _ _,by rw[IsArrsP],by simp,Lr,by simp⟩;go_enter Tryz.func45,Tryz.ntmps45
 go_wp2_with fail
 go_loopw [0,4,5,6,7,8,9] (λa v _ _ _ _ _ wr=>∃(t:List UInt8) (ars:List Ba) (xs:List Value) (f:Nat),a= .string ⟨t.toArray⟩/\Hid (E9 w s v wr ars xs t f)) (λa _ _ _ _ _ _ _=>match a with | .string t=>t.size |_=>0)
 case atStart=>exact⟨s,[],[],_,rfl,H0⟩
 case round=>
  clear H0;obtain⟨wq,rfl⟩:∃y,y=wr:=⟨_,rfl⟩;obtain⟨t,ars,xs,f,rfl,HI⟩:=hrel;obtain⟨A,c,rfl,hc1,hc2⟩:=Na HI.out.own.own;have hsz:(⟨t.toArray⟩:ByteArray).size=t.length:=rfl;have hlen:=HI.out.len;by_cases h0:t=[]
  ·subst h0
   have HE:=Qd (HYES.out ars A c xs wq ⟨HI.out.bel,HI.out.own,HI.out.arrs,HI.out.len,Lr,by rw[HI.out.good];cases f<;>simp[Co.arrsR]⟩);go_wp2_with fail
   go_ret2
   exact HE.out
  have hpos:=List.length_pos_iff.2 h0;have hp:(0:Int)<(t.length:Int):=by omega
  have hlf:=HI.out.lf;obtain⟨f',rfl⟩:∃f',f=f'+1:=⟨f-1,by omega⟩;obtain⟨t1,t2,cb,hV,ht1,ht2,hcb⟩:∃(t1 t2:List UInt8) (cb:Bool),Nw.cutV (Nw.cut t)= .tuple #[.string ⟨t1.toArray⟩,.string ⟨t2.toArray⟩,.bool cb]/\t1.length<=4000/\(cb=true->t2.length<t.length)/\((cb=true/\Nw.cut t=some (t1,t2))\/(cb=false/\Nw.cut t=none)):=by
   cases hc:Nw.cut t with
   |none=>exact⟨[],[],false,rfl,by simp,nofun,.inr ⟨rfl,rfl⟩⟩
   |some p=>exact⟨p.1,p.2,true,rfl,by have:=Sp.cut_less hc;omega,λ_=>(Sp.cut_less hc).2,.inl ⟨rfl,rfl⟩⟩
  have CU:=Qc t wq (by omega);rw[hV] at CU;replace CU:=Qd CU;obtain⟨b,x,hb,hPV⟩:=Wha (Sp.parseX (Sp.readD 9 t1) t1);have PA:=Qd (λ(wx:World)=>(Rj t1 wx (by omega) (λa ha hr=>Sp.readD_len ht1 ha hr)).mono (hPV wx));have HS:Hid (((cb&&b)=true->t2.length<t.length/\Co.arrsR (f'+1) t=(Co.arrsR f' t2).map (x:: ·))/\((cb&&b)=false->Co.arrsR s.length s=none)):=Qd (by
   rw[HI.out.good,Co.arrsR,if_neg h0];rcases hcb with⟨rfl,e⟩ |⟨rfl,e⟩
   ·rw[e]
    dsimp only;rw[Sp.parse_both];rcases hb with⟨rfl,e2⟩ |⟨rfl,e2⟩
    ·rw[e2];exact⟨λ_=>⟨ht2 rfl,rfl⟩,nofun⟩
    rw[e2];exact⟨nofun,λ_=>rfl⟩
   rw[e];exact⟨nofun,λ_=>rfl⟩)
  clear hV hb hcb ht1 ht2 h0 hPV;go_wp2_with fail
  refine CU.out.mono ?_;rintro e W3 ⟨rfl,hb3⟩;have HB3:=Qd hb3;have P1:=Qd (PA.out W3);clear hb3 CU PA;go_upto_region 5 with(go_at_call 41;refine P1.out.mono ?_;rintro e W4 ⟨vs,rfl,hA4,hb4⟩;obtain⟨S1,A1,m1,d1,A1',m1',d1',rfl⟩:=hA4.form;replace hA4:=Qd hA4;replace hb4:=Qd hb4)
  refine Gc ?_;intro W5 hW5;have hb45:Below W4.heap.size W4 W5:=by rw[hW5];exact Br.alloc Lr _
  have hs3:=HB3.out.size;have HB5:Hid (Below wq.heap.size wq W5):=Qd (HB3.out.trans ((hb4.out.trans (hb45.mono hb4.out.size)).mono hs3));have k5:W5.heap[W4.heap.size]? =some (.cells #[.int .u64 (S1:Int),.slice A1 m1 d1,.slice A1' m1' d1'] 43 (0,0)):=by rw[hW5];exact heap_alloc_new _ _
  have HA5:=Qd (Sc hA4.out hb45);have K5:=Qd k5;obtain⟨g5,hg5⟩:∃g5,g5=W4.heap.size:=⟨_,rfl⟩;rw[<-hg5] at K5⊢;have HWB:Hid (Below w.heap.size w W5):=Qd (HI.out.bel.trans (HB5.out.mono HI.out.bel.size));have HO7:Hid ((W5.alloc (.cells #[.int .u64 (S1:Int),.slice A1 m1 d1,.slice A1' m1' d1'] 43)).ownsQ Ic w.heap.size 43 3 (.slice A ars.length c) ars.length xs):=Qd ((HI.out.own.kept (Bd W5.heap.size HB5.out) (.inr (λe=>by have:=(HI.out.own.own.lt _ e).2;have:=HB5.out.size;omega))).kept (World.grownBy_alloc _ _ none) (by cases (Value.slice A ars.length c).ownBlock<;>simp));have hqs:w.heap.size<=W5.heap.size:=HWB.out.size;have HFIN:Hid ((cb&&b)=true->∀(w9:World) (v':Value),w9.ownsQ Ic w.heap.size 43 3 v' (ars.length+1) (xs++[.int .u64 (S1:Int),.slice A1 m1 d1,.slice A1' m1' d1'])->(W5.alloc (.cells #[.int .u64 (S1:Int),.slice A1 m1 d1,.slice A1' m1' d1'] 43)).grownBy w9 (Value.slice A ars.length c).ownBlock->(v'.ownBlock=(Value.slice A ars.length c).ownBlock\/v'.ownBlock=some (W5.alloc (.cells #[.int .u64 (S1:Int),.slice A1 m1 d1,.slice A1' m1' d1'] 43)).heap.size)->E9 w s v' w9 (ars++[x]) (xs++[.int .u64 (S1:Int),.slice A1 m1 d1,.slice A1' m1' d1']) t2 f'/\t2.length<t.length):=Qd (λhcb w9 v' h1 h2 h3=>
   ⟨Hka HI.out HB5.out HA5.out hs3 h1 h2 h3 (HS.out.1 hcb).1 (HS.out.1 hcb).2,(HS.out.1 hcb).1⟩)
  have HN:Hid ((cb&&b)=false->Yo s w (.returned (.tuple #[.slice none 0 0,.bool false])) W5):=Qd (λh=>HNO.out (HS.out.2 h) _ HWB.out);clear hW5 hb45 k5 hg5 HA5 HB5 HWB HI HNO HYES HS hb4 hA4 P1 HB3;cases cb<;>cases b
  all_goals try (go_wp2_with fail;go_ret2;exact HN.out rfl)
  have HF0:=Qd (HFIN.out rfl);clear HFIN HN;go_wp2_with (first
   |(with_reducible refine Dm rfl (.tmp 8) rfl g5 rfl K5.out ?_)
   |(at_builtin;refine Qe _ rfl _ _ 24 rfl Ic w.heap.size 43 iA (.agg #[.int .u64 0,.slice none 0 0,.slice none 0 0]) 3 56 Tryz.underlying24 hiA hz0 hz1 hz2 rfl (by decide) Fx (.slice A ars.length c) ars.length xs rfl HO7.out ⟨_,0,none⟩ 1 1 [.int .u64 (S1:Int),.slice A1 m1 d1,.slice A1' m1' d1'] rfl rfl (El W5 _ _) (by simp[Value.oneCell']) S4 (by unfold maxLen;omega) (by omega) (by simp;omega) ?_;intro v9 w9 hown9 hgrow9 hnn9 hat9;have HF:=Qd (HF0.out _ _ hown9 hgrow9 hat9);clear hown9 hgrow9 hnn9 hat9))
  go_roundw
  case rel=>exact⟨t2,ars++[x],_,f',rfl,Qd HF.out.1⟩
  case measure=>show t2.toArray.size<t.toArray.size;rw[List.size_toArray,List.size_toArray];exact HF.out.2
end
section
open Go.RowKit Ar
structure TxR (w:World) (C:Array Value) (W:World):Prop where
 bel:Below w.heap.size w W
 sz:w.heap.size<W.heap.size
 box:W.heap[w.heap.size]? =some (.cells C 29 (0,0))
theorem TxR.below {w W W':World}{C:Array Value}(h:TxR w C W)(hb:Below W.heap.size W W'):TxR w C W':=
 ⟨h.bel.trans (hb.mono h.bel.size),Nat.lt_of_lt_of_le h.sz hb.size,(hb.block _ h.sz).trans h.box⟩
theorem TxR.cell {w W:World}{C:Array Value}(h:TxR w C W)(i:Nat):W.cell? ⟨w.heap.size,i,none⟩=C[i]? :=cell_of_row W _ i _ _ _ h.box
theorem Xha {w w':World}{A:Option Addr}{vs:List Value}(h:Lies w w.heap.size A vs)(hb:Below w.heap.size w w'):Lies w' w'.heap.size A vs:=(h.keep (λ_ hp=>hb.cell hp)).more hb.size
theorem Rb (l:List UInt8):∃S:ByteArray,S=⟨l.toArray⟩/\S.size=l.length:=⟨_,rfl,rfl⟩
theorem Dfa (w:World)(a b c:Int):Lies (w.alloc (.cells #[.int .i64 a,.int .i64 b,.int .i64 c] 3)) (w.alloc (.cells #[.int .i64 a,.int .i64 b,.int .i64 c] 3)).heap.size (some ⟨w.heap.size,0,none⟩) (Ya [a,b,c]):=by
 have h:=Pia w a b c;rwa[show w.heap.size+1=(w.alloc (.cells #[.int .i64 a,.int .i64 b,.int .i64 c] 3)).heap.size by simp] at h
theorem Fm (x:Co.Con)(C:Array Value)(w:World)(B:Nat)(hC:IsCfg w B (Fa x) C)(hB:B<=w.heap.size)(hx:Yj x):
 Calls Tryz.prog 14 #[.agg C] w (Yf w (Co.conT x)):=by
 have NT:=Qd (λ(s:List UInt8) (hs:s.length<1000000000) (wx:World)=>Uf s wx hs);obtain⟨W1,hW1⟩:∃W1,W1=w.alloc (.cells C 29):=⟨_,rfl⟩;have hx0:TxR w C W1:=by rw[hW1];exact⟨Br.alloc Lr _,by simp,heap_alloc_new _ _⟩
 have HX0:=Qd hx0;have HW1:=Qd hW1;have HC:=Qd hC;have HX:=Qd hx;have hw3:(Ga [x.fuel,x.quota,x.depth]).length<=66:=Fc hx.wf.nums;have h14:(Nw.net Co.head14).length<=26:=Qb (s:=Co.head14) (by decide);have h15:=Qb (s:=Ga [x.fuel,x.quota,x.depth]) (by omega);have h16:=Tc hx.wf.auth;have N0:=Qd (λwx=>NT.out Co.head14 (by decide) wx);have N1:=Qd (λwx=>NT.out (Ga [x.fuel,x.quota,x.depth]) (by omega) wx);have N2:=Qd (λwx=>NT.out (Lab.text x.auth) (by have:=Lab.text_len hx.wf.auth;omega) wx);have X1:=Qd (λwx=>Yc x.auth wx hx.wf.auth);have RW:Hid (∀(A:Option Addr) (wx:World) (h:Lies wx wx.heap.size A (Ya [x.fuel,x.quota,x.depth])),Calls Tryz.prog 38 #[.slice A 3 3] wx λe w'=>e= .returned (.string ⟨(Ga [x.fuel,x.quota,x.depth]).toArray⟩)/\wx=w'):=Qd (λA wx h=>Wea [x.fuel,x.quota,x.depth] A 3 wx _ h (by simp) hx.wf.nums);have hs:(Nw.net Co.head14++Nw.net (Ga [x.fuel,x.quota,x.depth]))++Nw.net (Lab.text x.auth)=Co.conH x:=by unfold Co.conH;simp
 have HS:=Qd hs;have CF:Hid (∀wx,Below W1.heap.size W1 wx->wx.cell? ⟨w.heap.size,33,none⟩=some (.int .i64 x.fuel)/\wx.cell? ⟨w.heap.size,34,none⟩=some (.int .i64 x.quota)/\wx.cell? ⟨w.heap.size,35,none⟩=some (.int .i64 x.depth)/\wx.cell? ⟨w.heap.size,32,none⟩=some (.int .u64 (x.auth:Int))):=Qd (λ(wx:World) (h:Below W1.heap.size W1 wx)=>(And.intro (((hx0.below h).cell 33).trans hC.fuel) (And.intro (((hx0.below h).cell 34).trans hC.quota) (And.intro (((hx0.below h).cell 35).trans hC.depth) (((hx0.below h).cell 32).trans hC.auth)))));unfold Za at X1;clear hx0 hW1 hx hs;generalize Nw.net Co.head14=sa at*;generalize Nw.net (Ga [x.fuel,x.quota,x.depth])=sb at*;generalize Nw.net (Lab.text x.auth)=sc at*;obtain⟨SA,hSA,zA⟩:=Rb sa;obtain⟨SB,hSB,zB⟩:=Rb sb;obtain⟨SC,hSC,zC⟩:=Rb sc;obtain⟨SW,hSW,-⟩:=Rb (Ga [x.fuel,x.quota,x.depth]);obtain⟨SX,hSX,-⟩:=Rb (Lab.text x.auth);rw[<-hSA] at N0;rw[<-hSB,<-hSW] at N1;rw[<-hSC,<-hSX] at N2;rw[<-hSX] at X1;rw[<-hSW] at RW;have HST:Hid (SA++SB++SC=⟨(Co.conH x).toArray⟩):=Qd (by rw[<-HS.out,hSA,hSB,hSC,Kb,Kb]);have q1:¬9223372036854775807<SA.size+SB.size:=by omega
 have q2:¬9223372036854775807<SA.size+SB.size+SC.size:=by omega
 clear hSA hSB hSC hSW hSX zA zB zC hw3 h14 h15 h16 HS;unfold Co.head14 at N0;obtain⟨g,hg⟩:∃g,g=w.heap.size:=⟨_,rfl⟩;go_enter Tryz.func14,Tryz.ntmps14
 go_upto_region 1 with fail
 rw[<-HW1.out];rw[<-hg] at CF⊢;have HG:=Qd hg;clear hg;refine M0 (λxs=>{tmps:= #[_,_,_,xs 16,_,_,_,xs 0,xs 1,xs 2,xs 3,xs 4,xs 5,xs 6,xs 7,xs 8,xs 9,xs 10,xs 11,xs 12,xs 13,xs 14,xs 15,_,_,_,_,_,_,_,_,_,_,_,_,_,_,_,_,_,_,_,_,_,_,_,_,_,_,_,_,_,_,_,_,_,_,_,_,_,_,_,_,_,_,_,_,_,_,_,_,_,_],defers:=[]}) W1
  [pv (.string SA),pv (.pointer (some ⟨g,33,none⟩)),pv (.int .i64 x.fuel),pv (.pointer (some ⟨g,34,none⟩)),pv (.int .i64 x.quota),pv (.pointer (some ⟨g,35,none⟩)),pv (.int .i64 x.depth),
   pq (λw v=>∃A,v= .slice A 3 3/\Lies w w.heap.size A (Ya [x.fuel,x.quota,x.depth])) (λw w' v h hb=>by obtain⟨A,e,h⟩:=h;exact⟨A,e,Xha h hb⟩),
   pv (.string SW),pv (.string SB),pv (.string (SA++SB)),pv (.pointer (some ⟨g,32,none⟩)),pv (.int .u64 (x.auth:Int)),pv (.string SX),pv (.string SC),pv (.string (SA++SB++SC)),pv (.string (SA++SB++SC))] 17
  (by kernel_rfl) (by kernel_rfl) (by kernel_rfl) (Oaa [_,_,_,_,_,_,_,_,_,_,_,_,_,_,_,_,_]) rfl Br ?_ ?_
 ·simp only[Wu]
  and_intros
  all_goals try trivial
  all_goals
   intro xs w1 hb hd hv;simp[Cf,Fb,Region.binds,pv,pq] at hv;obtain⟨p33,p34,p35,p32⟩:=CF.out w1 hb
   first
    |(obtain⟨A,h0,hA⟩:=hd 7 (by rfl);refine Da rfl rfl ?_;unfold Oper.wp;simp only[hv,h0];go_simp;(with_reducible refine(RW.out A w1 hA).mono ?_);rintro e w3 ⟨rfl,rfl⟩;refine⟨_,?_,rfl,Br⟩;simp only[Ta];simp[hv,h0];done)
    |(refine Da rfl rfl ?_;unfold Oper.wp;(try simp only[hv]);go_simp;(first|(with_reducible refine(N0.out w1).mono ?_) |(with_reducible refine(N1.out w1).mono ?_) |(with_reducible refine(N2.out w1).mono ?_) |(with_reducible refine(X1.out w1).mono ?_));rintro e w3 ⟨rfl,rfl⟩;refine⟨_,?_,rfl,Br⟩;simp only[Ta];first|(simp[hv];done) |(simp;done))
    |(refine Da rfl rfl ?_;unfold Oper.wp;(try simp only[hv]);go_simp;refine⟨_,?_,rfl,Br⟩;simp only[Ta];first|(simp[hv];done) |(simp;done))
    |(refine Da rfl rfl ?_;unfold Oper.wp;simp only[hv];go_simp;refine⟨_,?_,⟨_,rfl,Dfa ..⟩,Br.alloc Lr _⟩;simp only[Ta];first|(simp[hv];done) |(simp;done))
    |fail
 intro xs w1 hb hx hv;simp[Cf,pv,pq] at hv;simp only[hv];rw[HST.out];have HX1:=Qd (HX0.out.below hb);have hL0:=Ui HX.out.wf;clear hb hx hv CF N0 N1 N2 X1 RW HST q1 q2 HX0 HW1 hC;go_wp2_with fail
 go_loopw [3,4,5,6] (λs i _ _ wr=>∃k:Nat,k<=8/\i= .int .i64 k/\s= .string ⟨(Co.conH x++Co.chsT (x.ch.take k)).toArray⟩/\Hid (TxR w C wr)) (λ_ i _ _ _=>8-(intOf i).toNat)
 case atStart=>exact⟨0,Nat.zero_le _,rfl,by rw[show Co.conH x++Co.chsT (x.ch.take 0)=Co.conH x by simp[Co.chsT]],HX1⟩
 case round=>
  clear HX1;obtain⟨wq,rfl⟩:∃x,x=wr:=⟨_,rfl⟩;obtain⟨k,hk,rfl,rfl,HT⟩:=hrel;by_cases hlt:k<8
  ·have hkl:k<x.ch.length:=by rw[HX.out.wf.len];exact hlt
   have hk0:(0:Int)<=(k:Int):=by omega
   have hk8:(k:Int)<8:=by omega
   obtain⟨c,hc⟩:∃c,c=x.ch[k]:=⟨_,rfl⟩;have hfc:Vo c:=HX.out.ch c (by rw[hc];exact List.getElem_mem hkl);obtain⟨e1,e2,e3,e4⟩:=Nk hkl;obtain⟨A,cp,us,i1,i2,i3,i4⟩:=HC.out.ins k hlt;obtain⟨A3,c3,d1,d2,d3,d4⟩:=HC.out.draws k hlt;have z0:=(HC.out.clear k hlt).1;have z2:=(HC.out.label k hlt).1;rw[e1,<-hc] at z0;rw[e2,<-hc] at z2;rw[e3,<-hc] at i1 i2 i4;rw[e4,<-hc] at d1 d2 d3 d4;have HSTEP:Hid ((((Co.conH x++Co.chsT (x.ch.take k))++Nw.net (Lab.text c.clear))++Nw.net (Co.arrsT c.ins))++Nw.net (Lab.text c.label)++Nw.net (Ga c.draws)=Co.conH x++Co.chsT (x.ch.take (k+1))):=Qd (by rw[Sw hkl,<-hc];unfold Co.chT;simp[List.append_assoc]);have hL:(Co.conH x++Co.chsT (x.ch.take k)).length<=2000000000:=by
    have h2:=Pg (l:=x.ch.take k) (λy hy=>HX.out.ch y (List.mem_of_mem_take hy));rw[List.length_take] at h2;rw[List.length_append];omega
   have HCELL:Hid (∀wx,Below wq.heap.size wq wx->wx.cell? ⟨g,k,none⟩=some (.int .u64 (c.clear:Int))/\wx.cell? ⟨g,8+k,none⟩=some (.slice A c.ins.length cp)/\wx.cell? ⟨g,16+k,none⟩=some (.int .u64 (c.label:Int))/\wx.cell? ⟨g,24+k,none⟩=some (.slice A3 c.draws.length c3)):=Qd (λwx h=>by
    have h:=HT.out.below h;rw[HG.out];exact⟨(h.cell k).trans z0,(h.cell _).trans i1,(h.cell _).trans z2,(h.cell _).trans d1⟩)
   have RW:=Qd (λ(wx:World) (h:Below wq.heap.size wq wx)=>Wea c.draws A3 c3 wx B (d4.keep λp hp=>(HT.out.below h).bel.cell (by omega)) (by have:=hfc.draws;omega) d3);have HFC:=Qd hfc;have HI:=Qd (And.intro i3 i4);have hn1:=i2.le (by omega);have hsw:w.heap.size<=wq.heap.size:=HT.out.bel.size;clear hc hfc e1 e2 e3 e4 i1 i2 i3 i4 d1 d2 d3 d4 z0 z2 hkl;generalize Co.conH x++Co.chsT (x.ch.take k)=L at*;go_wp2_with fail
   go_loopw [5,6] (λv i wx=>∃j:Nat,j<=c.ins.length/\i= .int .i64 j/\v= .string ⟨(Co.arrsT (c.ins.take j)).toArray⟩/\Hid (Below wq.heap.size wq wx)) (λ_ i _=>c.ins.length-(intOf i).toNat)
   case atStart=>exact⟨0,Nat.zero_le _,rfl,rfl,Qd Br⟩
   case round=>
    obtain⟨wy,rfl⟩:∃y,y=wr:=⟨_,rfl⟩;obtain⟨j,hj,rfl,rfl,HJ⟩:=hrel;have hxy:=HT.out.below HJ.out;have hsy:=hxy.bel.size;obtain⟨p0,p8,p16,p24⟩:=HCELL.out wy HJ.out;have hle:=U2 c.ins j;have hfi:=HFC.out.ins;by_cases hlt':j<c.ins.length
    ·obtain⟨b',off',S',X,xn,xc,X',xn',xc',rfl,hb',HA,e0,e1,e2⟩:=Vb HI.out.2 HI.out.1 (wr:=wy) (λp hp=>hxy.bel.cell (by omega)) hlt'
     have hin:=List.getElem_mem hlt';have hal:=HFC.out.arr _ hin;have AR1:=Qd (Od _ c.ins[j] _ 8 wy B (Nat.lt_succ_self _) (HA.out.below (hxy.bel.mono hB)) (by omega) (List.all_eq_true.1 HFC.out.right _ hin) (HFC.out.wf.ins _ hin) hal);have hi0:(0:Int)<=(j:Int):=by omega
     have hi1:(j:Int)<(c.ins.length:Int):=by omega
     have HTK:=Qd (Ht hlt');have N:=Qd (λwx=>NT.out (Sp.arrT c.ins[j]) (by omega) wx);have hnl:=Qb (s:=Sp.arrT c.ins[j]) (by omega);clear HA hin hxy;generalize Sp.arrT c.ins[j]=t at*;generalize Co.arrsT (c.ins.take j)=ta at*;obtain⟨SN,hSN,zN⟩:=Rb (Nw.net t);obtain⟨STA,hTA,zTA⟩:=Rb ta;rw[<-hSN] at N;rw[<-hTA];have HAPP:Hid (STA++SN=⟨(ta++Nw.net t).toArray⟩):=Qd (by rw[hTA,hSN,Kb]);have q1:¬9223372036854775807<STA.size+SN.size:=by omega
     clear hSN hTA;go_wp2_with fail
     refine AR1.out.mono ?_;rintro e w2 ⟨rfl,hb2⟩;have HB2:=Qd (HJ.out.trans (hb2.mono HJ.out.size));clear p0 p8 p16 p24 e0 e1 e2 hb2;go_wp2_with fail
     refine(N.out _).mono ?_;rintro e w3 ⟨rfl,rfl⟩;go_wp2_with fail
     go_roundw
     case rel=>exact⟨j+1,by omega,by go_num,by rw[HTK.out,HAPP.out],HB2⟩
     case measure=>simp[intOf];omega
    obtain rfl:j=c.ins.length:=by omega
    have hfc:=HFC.out;have hw4:=Fc hfc.wf.draws;have hdl:=hfc.draws;have hz1:=Tc hfc.wf.clear;have hz2:=Qb (s:=Co.arrsT c.ins) (by omega);have hz3:=Tc hfc.wf.label;have hz4:=Qb (s:=Ga c.draws) (by omega);have N1:=Qd (λwx=>NT.out (Lab.text c.clear) (by have:=Lab.text_len hfc.wf.clear;omega) wx);have N2:=Qd (λwx=>NT.out (Co.arrsT c.ins) (by omega) wx);have N3:=Qd (λwx=>NT.out (Lab.text c.label) (by have:=Lab.text_len hfc.wf.label;omega) wx);have N4:=Qd (λwx=>NT.out (Ga c.draws) (by omega) wx);have X1:=Qd (λwx=>Yc c.clear wx hfc.wf.clear);have X3:=Qd (λwx=>Yc c.label wx hfc.wf.label);have RW1:=Qd (λ(wx:World) (h:Below wy.heap.size wy wx)=>RW.out wx (HJ.out.trans (h.mono HJ.out.size)));have CL1:=Qd (λ(wx:World) (h:Below wy.heap.size wy wx)=>HCELL.out wx (HJ.out.trans (h.mono HJ.out.size)));unfold Za at X1 X3;rw[List.take_length];generalize Co.arrsT c.ins=ta at*;generalize Nw.net (Lab.text c.clear)=sa at*;generalize Nw.net ta=sb at*;generalize Nw.net (Lab.text c.label)=sc at*;generalize Nw.net (Ga c.draws)=sd at*;obtain⟨SL,hSL,zL⟩:=Rb L;obtain⟨SA,hSA,zA⟩:=Rb sa;obtain⟨SB,hSB,zB⟩:=Rb sb;obtain⟨SC,hSC,zC⟩:=Rb sc;obtain⟨SD,hSD,zD⟩:=Rb sd;obtain⟨SX,hSX,-⟩:=Rb (Lab.text c.clear);obtain⟨SY,hSY,-⟩:=Rb (Lab.text c.label);obtain⟨SW,hSW,-⟩:=Rb (Ga c.draws);obtain⟨ST,hST,-⟩:=Rb ta;rw[<-hSA,<-hSX] at N1;rw[<-hSB,<-hST] at N2;rw[<-hSC,<-hSY] at N3;rw[<-hSD,<-hSW] at N4;rw[<-hSX] at X1;rw[<-hSY] at X3;rw[<-hSW] at RW1;rw[<-hSL,<-hST];have HST:Hid (SL++SA++SB++SC++SD=⟨(Co.conH x++Co.chsT (x.ch.take (k+1))).toArray⟩):=Qd (by rw[<-HSTEP.out,hSL,hSA,hSB,hSC,hSD,Kb,Kb,Kb,Kb]);have q1:¬9223372036854775807<SL.size+SA.size:=by omega
    have q2:¬9223372036854775807<SL.size+SA.size+SB.size:=by omega
    have q3:¬9223372036854775807<SL.size+SA.size+SB.size+SC.size:=by omega
    have q4:¬9223372036854775807<SL.size+SA.size+SB.size+SC.size+SD.size:=by omega
    have HTY:=Qd hxy;clear hSL hSA hSB hSC hSD hSX hSY hSW hST zL zA zB zC zD hfc hw4 hdl hz1 hz2 hz3 hz4 hxy HSTEP hL hle hfi;go_upto_region 10 with fail
    clear p0 p8 p16 p24;refine Iy [[25,24,17,10,7,0]] (λxs=>{tmps:= #[_,_,_,xs 25,_,_,_,_,_,_,_,_,_,_,_,_,_,_,_,_,_,_,_,_,_,_,_,_,_,_,_,_,_,_,_,_,_,_,_,_,_,_,_,_,_,_,_,xs 0,xs 1,xs 2,xs 3,xs 4,xs 5,xs 6,xs 7,xs 8,xs 9,xs 10,xs 11,xs 12,xs 13,xs 14,xs 15,xs 16,xs 17,xs 18,xs 19,xs 20,xs 21,xs 22,xs 23,xs 24,_],defers:=[]}) wy
     [pv (.string SL),pv (.int .i64 k),pv (.pointer (some ⟨g,0,none⟩)),pv (.pointer (some ⟨g,k,none⟩)),pv (.int .u64 (c.clear:Int)),pv (.string SX),pv (.string SA),pv (.string (SL++SA)),pv (.string ST),pv (.string SB),pv (.string (SL++SA++SB)),
      pv (.int .i64 k),pv (.pointer (some ⟨g,16,none⟩)),pv (.pointer (some ⟨g,16+k,none⟩)),pv (.int .u64 (c.label:Int)),pv (.string SY),pv (.string SC),pv (.string (SL++SA++SB++SC)),
      pv (.int .i64 k),pv (.pointer (some ⟨g,24,none⟩)),pv (.pointer (some ⟨g,24+k,none⟩)),pv (.slice A3 c.draws.length c3),pv (.string SW),pv (.string SD),pv (.string (SL++SA++SB++SC++SD)),pv (.string (SL++SA++SB++SC++SD))] 26
     (by kernel_rfl) (by kernel_rfl) (by kernel_rfl) (by kernel_rfl) (Oaa [_,_,_,_,_,_,_,_,_,_,_,_,_,_,_,_,_,_,_,_,_,_,_,_,_,_]) rfl Br ?_ ?_
    ·simp only[Wu]
     and_intros
     all_goals try trivial
     all_goals
      intro xs w1 hb hd hv ho;simp[Cf,Fb,Region.binds,pv,pq] at hv;simp[Us,Oaa] at ho;obtain⟨p0,p8,p16,p24⟩:=CL1.out w1 hb
      first
       |(refine Da rfl rfl ?_;unfold Oper.wp;(try simp only[hv]);go_simp;(first|(with_reducible refine(N1.out w1).mono ?_) |(with_reducible refine(N2.out w1).mono ?_) |(with_reducible refine(N3.out w1).mono ?_) |(with_reducible refine(N4.out w1).mono ?_) |(with_reducible refine(X1.out w1).mono ?_) |(with_reducible refine(X3.out w1).mono ?_) |(with_reducible refine(RW1.out w1 hb).mono ?_));rintro e w3 ⟨rfl,rfl⟩;refine⟨_,?_,rfl,Br⟩;simp only[Ta];first|(simp[hv];done) |(simp[ho];done) |(simp;done))
       |(refine Da rfl rfl ?_;unfold Oper.wp;(try simp only[hv,ho]);go_simp;refine⟨_,?_,rfl,Br⟩;simp only[Ta];first|(simp[hv];done) |(simp[ho];done) |(simp;done))
       |fail
    intro xs w1 hb hx hv;simp[Cf,pv,pq] at hv;simp only[hv];rw[HST.out];have HX1:=Qd (HTY.out.below hb);clear hb hx hv;go_wp2_with fail
    go_roundw
    case rel=>exact⟨k+1,by omega,by go_num,rfl,HX1⟩
    case measure=>simp[intOf];omega
  obtain rfl:k=8:=by omega
  rw[show x.ch.take 8=x.ch from List.take_of_length_le (by rw[HX.out.wf.len];exact Lr)];go_wp2_with fail
  go_ret;exact⟨rfl,HT.out.bel⟩
end
section
open Ar Sp
namespace Co
noncomputable def partsD:Nat->List UInt8->Option (List (List UInt8))
 | 0,_=>some []
 |f+1,s=>if s=[] then some [] else match Nw.cut s with
  |none=>none
  |some p=>(partsD f p.2).map (p.1:: ·)
def part (ps:List (List UInt8))(i:Nat):List UInt8:=ps.getD i []
noncomputable def chD (ps:List (List UInt8))(k:Nat):Option Ch:=(labP (part ps (3+4*k))).bind λa=>(arrsR (part ps (4+4*k)).length (part ps (4+4*k))).bind λb=>(labP (part ps (5+4*k))).bind λc=>(listR (part ps (6+4*k))).map λd=>⟨a,b,c,d⟩
noncomputable def chsD (ps:List (List UInt8)):Nat->Nat->Option (List Ch)
 | 0,_=>some []
 |n+1,k=>(chD ps k).bind λc=>(chsD ps n (k+1)).map (c:: ·)
noncomputable def conDp (ps:List (List UInt8)):Option Con:=match listR (part ps 1) with
 |some [f,q,d]=>(labP (part ps 2)).bind λa=>(chsD ps 8 0).map λL=>⟨f,q,d,a,L⟩
 |_=>none
noncomputable def conD (s:List UInt8):Option Con:=match partsD s.length s with
 |none=>none
 |some ps=>if ps.length=35 then conDp ps else none
def Sj (ps:List (List UInt8)):List UInt8:=(ps.map Nw.net).flatten
theorem Mx (p:List UInt8)(ps:List (List UInt8)):Sj (p::ps)=Nw.net p++Sj ps:=rfl
theorem F5:∀ps:List (List UInt8),ps.length<=(Sj ps).length
 | []=>Nat.zero_le _
 |p::r=>by
  have h1:=F5 r;have h2:=net_pos p;rw[Mx];simp;omega
theorem Fu:∀{ps:List (List UInt8)} {f:Nat},ps.length<=f->partsD f (Sj ps)=some ps
 | [],f,_=>by cases f<;>rfl
 |p::r,f+1,h=>by
  have hp:=net_pos p;rw[partsD,Mx,if_neg (by intro e;rw[List.append_eq_nil_iff] at e;rw[e.1] at hp;simp at hp),Nw.cut_net];dsimp only;rw[Fu (f:=f) (by simpa using h)];rfl
def Vd (c:Ch):List (List UInt8):=[Lab.text c.clear,arrsT c.ins,Lab.text c.label,Ga c.draws]
def Mf (x:Con):List (List UInt8):=[head14,Ga [x.fuel,x.quota,x.depth],Lab.text x.auth]++(x.ch.map Vd).flatten
theorem Nx:∀l:List Ch,Sj (l.map Vd).flatten=chsT l/\(l.map Vd).flatten.length=4*l.length
 | []=>⟨rfl,rfl⟩
 |c::r=>by
  obtain⟨h1,h2⟩:=Nx r;refine⟨?_,by simp[Vd] at h2⊢;omega⟩;have e:chsT (c::r)=chT c++chsT r:=rfl;rw[e,<-h1];simp[Sj,Vd,chT]
theorem Efa {x:Con}(h:x.ch.length=8):Sj (Mf x)=conT x/\(Mf x).length=35:=by
 obtain⟨h1,h2⟩:=Nx x.ch;refine⟨?_,by unfold Mf;rw[List.length_append,h2,h];rfl⟩;unfold conT conH Mf;rw[<-h1];simp[Sj]
theorem Ika {pre r:List (List UInt8)}{n j:Nat}(h:pre.length=n):part (pre++r) (n+j)=r.getD j []:=by
 unfold part;rw[List.getD_eq_getElem?_getD,List.getElem?_append_right (by omega),List.getD_eq_getElem?_getD]
 congr 2
 omega
theorem Yla {pre r:List (List UInt8)}{c:Ch}{k:Nat}(h:pre.length=3+4*k)(hw:ChWf c)(hr:rightCh c=true):chD (pre++(Vd c++r)) k=if okCh c then some c else none:=by
 have e:∀j,part (pre++(Vd c++r)) (3+4*k+j)=(Vd c++r).getD j []:=λj=>Ika h;have e0:=e 0;have e1:=e 1;have e2:=e 2;have e3:=e 3;rw[show 3+4*k+1=4+4*k by omega] at e1;rw[show 3+4*k+2=5+4*k by omega] at e2;rw[show 3+4*k+3=6+4*k by omega] at e3;rw[Nat.add_zero] at e0;unfold chD;rw[e0,e1,e2,e3];show(labP (Lab.text c.clear)).bind (λa=>(arrsR (arrsT c.ins).length (arrsT c.ins)).bind λb=>(labP (Lab.text c.label)).bind λl=>(listR (Ga c.draws)).map λd=>(⟨a,b,l,d⟩:Ch))=_;rw[Wc hw.clear,Option.bind_some,Hn (Y0 _) hw.ins hr];unfold okCh
 split
 ·rw[Option.bind_some,Wc hw.label,Option.bind_some,Eu hw.draws];rfl
 rfl
theorem F9:∀{l:List Ch} {pre:List (List UInt8)} {k:Nat},pre.length=3+4*k->(∀c∈l,ChWf c)->l.all rightCh=true->chsD (pre++(l.map Vd).flatten) l.length k=if l.all okCh then some l else none
 | [],_,_,_,_,_=>rfl
 |c::r,pre,k,h,hw,hr=>by
  rw[List.all_cons,Bool.and_eq_true] at hr;have ih:=F9 (l:=r) (pre:=pre++Vd c) (k:=k+1) (by rw[List.length_append,h];simp[Vd];omega) (λx hx=>hw x (by simp[hx])) hr.2;rw[List.append_assoc] at ih;rw[List.map_cons,List.flatten_cons,List.length_cons,chsD,Yla h (hw c (by simp)) hr.1,List.all_cons];cases okCh c with
  |false=>rfl
  |true=>
   rw[if_pos rfl,Option.bind_some,ih,Bool.true_and]
   split<;>rfl
theorem conD_text {x:Con}(hw:ConWf x)(hr:x.ch.all rightCh=true):conD (conT x)=if okCon x then some x else none:=by
 obtain⟨h1,h2⟩:=Efa hw.len;have h8:=F9 (l:=x.ch) (pre:=[head14,Ga [x.fuel,x.quota,x.depth],Lab.text x.auth]) (k:=0) rfl hw.ch hr;rw[hw.len] at h8;unfold conD;rw[<-h1,Fu (F5 _)];dsimp only;rw[if_pos h2];unfold conDp;rw[show part (Mf x) 1=Ga [x.fuel,x.quota,x.depth] from rfl,Eu hw.nums];dsimp only;rw[show part (Mf x) 2=Lab.text x.auth from rfl,Wc hw.auth,Option.bind_some];unfold Mf;rw[h8];unfold okCon
 split<;>rfl
theorem Zla {ps:List (List UInt8)}{k:Nat}{c:Ch}(h:chD ps k=some c):ChWf c/\okCh c=true:=by
 unfold chD at h;obtain⟨a,ha,h⟩:=Option.bind_eq_some_iff.1 h;obtain⟨b,hb,h⟩:=Option.bind_eq_some_iff.1 h;obtain⟨d,hd,h⟩:=Option.bind_eq_some_iff.1 h;obtain⟨e,he,rfl⟩:=Option.map_eq_some_iff.1 h;exact⟨⟨Jg ha,Jg hd,(Si hb).1,listR_wf he⟩,(Si hb).2.1⟩
theorem G9 {ps:List (List UInt8)}:∀{n k:Nat} {L:List Ch},chsD ps n k=some L->(∀c∈L,ChWf c)/\L.all okCh=true/\L.length=n
 | 0,k,L,h=>by rw[chsD] at h;injection h with h;subst h;exact⟨nofun,rfl,rfl⟩
 |n+1,k,L,h=>by
  rw[chsD] at h;obtain⟨c,hc,h⟩:=Option.bind_eq_some_iff.1 h;obtain⟨L',h',rfl⟩:=Option.map_eq_some_iff.1 h;have h1:=Zla hc;have h2:=G9 h';refine⟨λx hx=>?_,by rw[List.all_cons,h1.2,h2.2.1];rfl,by rw[List.length_cons,h2.2.2]⟩;rcases List.mem_cons.1 hx with rfl |hx
  ·exact h1.1
  exact h2.1 x hx
theorem conD_ok {s:List UInt8}{x:Con}(h:conD s=some x):ConWf x/\okCon x=true:=by
 unfold conD at h
 split at h
 ·cases h
 split at h
 ·unfold conDp at h
  split at h
  ·next f q d e=>
   obtain⟨a,ha,h⟩:=Option.bind_eq_some_iff.1 h;obtain⟨L,hL,rfl⟩:=Option.map_eq_some_iff.1 h;have h1:=G9 hL;exact⟨⟨Jg ha,listR_wf e,h1.1,h1.2.2⟩,h1.2.1⟩
  cases h
 cases h
end Co
theorem Bo {x:Co.Con}(hl:x.ch.length=8)(h:Jb (Fa x)=true):x.ch.all Co.rightCh=true/\∀c∈x.ch,c.ins.length<=200/\c.draws.length<=200:=by
 unfold Jb Ec at h;rw[Bool.and_eq_true,List.drop_zero,List.all_eq_true] at h;have key:∀c∈x.ch,c.ins.length<=200/\c.draws.length<=200/\c.ins.all Cd=true:=λc hc=>by
  obtain⟨i,hi,rfl⟩:=List.getElem_of_mem hc;obtain⟨-,-,e3,e4⟩:=Nk hi;have h1:=h.2 i (List.mem_range.2 (by omega));unfold Cl at h1;rw[e3,e4] at h1
  simpa [and_assoc] using h1
 refine⟨List.all_eq_true.2 λc hc=>List.all_eq_true.2 λa ha=>?_,λc hc=>⟨(key c hc).1,(key c hc).2.1⟩⟩;have h2:=List.all_eq_true.1 (key c hc).2.2 a ha;unfold Cd at h2;exact(Bool.and_eq_true_iff.1 h2).1
theorem Ox {R:List UInt8->Option Co.Con}(h1:∀s x,R s=some x->Co.ConWf x/\Co.okCon x=true)(h2:∀x,Co.ConWf x->x.ch.all Co.rightCh=true->R (Co.conT x)=if Co.okCon x then some x else none)(s:List UInt8)(x:Co.Con):
 Uc (R s) s=some x↔Co.ConWf x/\Co.okCon x=true/\Jb (Fa x)=true/\Co.conT x=s:=by
 unfold Uc
 constructor
 ·intro h
  split at h
  ·cases h
  next y hy=>
  split at h
  ·next hc=>injection h with h;subst h;exact⟨(h1 _ _ hy).1,(h1 _ _ hy).2,hc.1,hc.2⟩
  cases h
 rintro⟨hw,ho,hr,rfl⟩;rw[h2 x hw (Bo hw.len hr).1,if_pos ho];dsimp only;rw[if_pos ⟨hr,rfl⟩]
theorem Ffa (s:List UInt8):Uc (Co.conD s) s=Uc (Co.conR s) s:=by
 ext x
 rw[Ox (R:=Co.conD) (λs x h=>Co.conD_ok h) (λx h h'=>Co.conD_text h h') s x,Ox (R:=Co.conR) (λs x h=>Co.conR_ok h) (λx h h'=>Co.con_text h h') s x]
end
section
open Go.RowKit Ar
theorem Er:∀{f:Nat} {s:List UInt8} {ps:List (List UInt8)},Co.partsD f s=some ps->∀p∈ps,p.length<=s.length
 | 0,s,ps,h=>by rw[Co.partsD] at h;injection h with h;subst h;exact nofun
 |f+1,s,ps,h=>by
  rw[Co.partsD] at h
  split at h
  ·injection h with h;subst h;exact nofun
  split at h
  ·cases h
  next q hq=>
  obtain⟨l,hl,rfl⟩:=Option.map_eq_some_iff.1 h;have hc:=Sp.cut_less hq;intro p hp;rcases List.mem_cons.1 hp with rfl |hp
  ·omega
  have:=Er hl p hp;omega
theorem H9 {s:List UInt8}{ps:List (List UInt8)}(h:∀p∈ps,p.length<=s.length)(i:Nat):(Co.part ps i).length<=s.length:=by
 unfold Co.part;rw[List.getD_eq_getElem?_getD];cases hx:ps[i]? with
 |none=>exact Nat.zero_le _
 |some p=>exact h p (List.mem_of_getElem? hx)
def Qk (r:Option Co.Con)(w:World)(e:Ending)(w':World):Prop:=∃(C:Array Value) (ok:Bool) (x:Co.Con),((ok=true/\r=some x)\/(ok=false/\r=none/\x=Ck))/\e= .returned (.tuple #[.agg C,.bool ok])/\IsCfg w' w'.heap.size (Fa x) C/\Below w.heap.size w w'
theorem Ama:(Tryz.prog.info? 9).map (λi=>(i.zero,i.size,i.bytes))=some (some (.string ⟨#[]⟩),1,16):=by kernel_rfl
structure PtI (w:World) (s:List UInt8) (v:Value) (W:World) (ps:List (List UInt8)) (t:List UInt8) (f:Nat):Prop where
 bel:Below (w.heap.size+1) (w.alloc (.cells zC 29)) W
 own:W.ownsRow (w.heap.size+1) 9 1 v ps.length (ps.map sv)
 len:ps.length+t.length<=s.length
 lf:t.length<=f
 good:Co.partsD s.length s=(Co.partsD f t).map (ps++ ·)
theorem PtI.res {w:World}{s:List UInt8}{v:Value}{W:World}{ps:List (List UInt8)}{t:List UInt8}{f:Nat}(h:PtI w s v W ps t f):W.heap[w.heap.size]? =some (.cells zC 29 (0,0))/\Below w.heap.size w W/\w.heap.size+1<=W.heap.size:=by
 have hb:Below w.heap.size w (w.alloc (.cells zC 29)):=Br.alloc Lr _;have hs:=h.bel.size;exact⟨(h.bel.block _ (Nat.lt_succ_self _)).trans (heap_alloc_new _ _),hb.trans (h.bel.mono (Nat.le_succ _)),by simpa using hs⟩
structure PsR (w:World) (ps:List (List UInt8)) (bp b:Nat) (C:Array Value) (W:World):Prop where
 bel:Below w.heap.size w W
 res:W.heap[w.heap.size]? =some (.cells zC 29 (0,0))
 cfg:W.heap[b]? =some (.cells C 29 (0,0))
 row:∀i,i<ps.length->W.cell? ⟨bp,i,none⟩=some (sv (Co.part ps i))
 lt:w.heap.size<bp/\bp<b/\b<W.heap.size
section
variable {w W W' : World} {ps : List (List UInt8)} {bp b n : Nat} {C C0 : Array Value} {c : Wb}
theorem PsR.below (h:PsR w ps bp b C W)(hb:Below W.heap.size W W'):PsR w ps bp b C W':=by
 obtain⟨h1,h2,h3⟩:=h.lt;exact⟨h.bel.trans (hb.mono h.bel.size),(hb.block _ (by omega)).trans h.res,(hb.block _ (by omega)).trans h.cfg,λi hi=>(World.cell?_of_block (hb.block _ (by show bp<_;omega))).trans (h.row i hi),h1,h2,Nat.lt_of_lt_of_le h3 hb.size⟩
theorem PsR.set (h:PsR w ps bp b C W)(i:Nat)(v:Value):PsR w ps bp b (C.setIfInBounds i v) (W.setCell ⟨b,i,none⟩ v):=by
 obtain⟨h1,h2,h3⟩:=h.lt;have hk:∀x,x≠b->(W.setCell ⟨b,i,none⟩ v).heap[x]? =W.heap[x]? :=λx hx=>Below.heap_setCell _ _ _ _ hx;refine⟨h.bel.setCell (p:=⟨b,i,none⟩) (by show w.heap.size<=b;omega) _,(hk _ (by omega)).trans h.res,?_,λj hj=>(World.cell?_of_block (hk _ (by show bp≠b;omega))).trans (h.row j hj),h1,h2,by simpa using h3⟩;show(W.heap.modify b _)[b]? =_;rw[Array.getElem?_modify,if_pos rfl,h.cfg];rfl
theorem PsR.cell (h:PsR w ps bp b C W){i:Nat}{v:Value}(hv:C[i]? =some v):W.cell? ⟨b,i,none⟩=some v:=(cell_of_row W _ i _ _ _ h.cfg).trans hv
theorem PsR.frozen (h:PsR w ps bp b C W)(i:Nat):W.frozen? ⟨b,i,none⟩=false:=by have:=h.cfg;simp[World.frozen?,this]
theorem CfP.bel (h:CfP W n c C0)(hb:Below W.heap.size W W'):CfP W' n c C0:=h.step hb.size (λx hx=>hb.block x hx.1)
theorem CfP.setR (h:CfP W (b+1) c C0)(hp:PsR w ps bp b C W)(h0:∀u∈C,Ic u)(i:Nat)(v:Value):CfP (W.setCell ⟨b,i,none⟩ v) (b+1) c C0:=by
 have hnu:¬HasU W b:=Fd hp.cfg h0;refine h.step (by simp) λx hx=>Below.heap_setCell _ _ _ _ (show x≠b from λe=>?_);subst e;rcases hx.2 with h1 |h1
 ·omega
 exact hnu h1
theorem CfP.resR (h:CfP W (b+1) c C)(hp:PsR w ps bp b C0 W)(cs:Array Value):CfP (W.setRow w.heap.size cs) (b+1) c C:=by
 obtain⟨h1,h2,h3⟩:=hp.lt;have hnu:¬HasU W w.heap.size:=Fd hp.res (Ge W 0).noL;refine h.step (by rw[size_setRow];exact Lr) λx hx=>?_;have hne:w.heap.size≠x:=λe=>by
  subst e;rcases hx.2 with h1 |h1
  ·omega
  exact hnu h1
 simp only[World.setRow,Array.getElem?_modify];rw[if_neg hne]
theorem PsR.done (h:PsR w ps bp b C W)(cs:Array Value):(W.setRow w.heap.size cs).heap[w.heap.size]? =some (.cells cs 29 (0,0)):=by
 simp only[World.setRow,Array.getElem?_modify,if_true];rw[h.res];rfl
end
structure Nna (w:World) (ps:List (List UInt8)) (bp b:Nat) (T:Option Co.Con) (f q d:Int) (a k:Nat) (wr:World) (good:Bool) (L:List Co.Ch) (C:Array Value):Prop where
 len:L.length=k
 st:PsR w ps bp b C wr
 cf:CfP wr (b+1) (Fa ⟨f,q,d,a,L⟩) C
 yes:good=true->T=(Co.chsD ps (8-k) k).map λL'=>⟨f,q,d,a,L++L'⟩
 no:good=false->T=none
def G5 (w:World)(ps:List (List UInt8))(bp b:Nat)(T:Option Co.Con)(f q d:Int)(a k:Nat)(wr:World)(good:Bool):Prop:=∃L C,Nna w ps bp b T f q d a k wr good L C
theorem Vba {w:World}{ps:List (List UInt8)}{bp b k:Nat}{T:Option Co.Con}{f q d:Int}{a x z:Nat}{good o1 o2 o3 o4:Bool}{L:List Co.Ch}{l:List Ba}{W:World}{C:Array Value}(hk:k<8)(hL:L.length=k)
 (hr:(good=true->T=(Co.chsD ps (8-k) k).map λL'=>⟨f,q,d,a,L++L'⟩)/\(good=false->T=none))
 (h1:Sp.labP (Co.part ps (3+4*k))=if o1=true then some x else none) (h2:(o2=true/\Co.arrsR (Co.part ps (4+4*k)).length (Co.part ps (4+4*k))=some l)\/(o2=false/\Co.arrsR (Co.part ps (4+4*k)).length (Co.part ps (4+4*k))=none))
 (h3:Sp.labP (Co.part ps (5+4*k))=if o3=true then some z else none) (h4:(Co.listR (Co.part ps (6+4*k))).isSome=o4)
 (hp:PsR w ps bp b C W) (hc:CfP W (b+1) (Fa ⟨f,q,d,a,L++[⟨x,l,z,(Co.listR (Co.part ps (6+4*k))).getD []⟩]⟩) C):G5 w ps bp b T f q d a (k+1) W (good&&o1&&o2&&o3&&o4):=by
 have e8:8-k=(8-(k+1))+1:=by omega
 have hch:Co.chD ps k=if(o1&&o2&&o3&&o4)=true then some ⟨x,l,z,(Co.listR (Co.part ps (6+4*k))).getD []⟩ else none:=by
  unfold Co.chD;rw[h1,h3];cases hq:Co.listR (Co.part ps (6+4*k)) with
  |none=>
   rw[hq] at h4;subst h4;cases o1<;>cases o3<;>rcases h2 with⟨rfl,e⟩ |⟨rfl,e⟩<;>simp[e]
  |some r=>
   rw[hq] at h4;subst h4;cases o1<;>cases o3<;>rcases h2 with⟨rfl,e⟩ |⟨rfl,e⟩<;>simp[e]
 rw[e8,Co.chsD,hch] at hr;refine⟨_,C,by rw[List.length_append,hL];rfl,hp,hc,λh=>?_,λh=>?_⟩
 ·cases good<;>cases hq:(o1&&o2&&o3&&o4)<;>simp[Bool.and_assoc,hq] at h
  ·simp[Bool.and_assoc] at hq h;simp_all
  rw[hr.1 rfl,if_pos hq,Option.bind_some,Option.map_map]
  congr 1
  funext L'
  simp
 cases good with
 |false=>exact hr.2 rfl
 |true=>
  rw[hr.1 rfl,if_neg (by rw[Bool.and_assoc,Bool.and_assoc,Bool.and_assoc,Bool.true_and] at h;simp[Bool.and_assoc,h])];rfl
theorem Yha (s:List UInt8)(w:World)(hs:s.length<=4000)(hfit:∀x,Co.conD s=some x->Jb (Fa x)=true->Yj x):
 Calls Tryz.prog 16 #[.string ⟨s.toArray⟩] w (Qk (Uc (Co.conD s) s) w):=by
 obtain⟨iS,hiS,hz0,hz1,hz2⟩:=info_parts Ama;obtain⟨T,hT⟩:∃T,T=Co.conD s:=⟨_,rfl⟩;rw[<-hT] at hfit⊢;have HFIT:=Qd hfit;have HT:Hid (T=match Co.partsD s.length s with |none=>none |some ps=>if ps.length=35 then Co.conDp ps else none):=Qd hT;clear hfit hT;have HBAD:Hid (T=none->∀W,Below w.heap.size w W->Qk (Uc T s) w (.returned (.tuple #[.agg zC,.bool false])) W):=Qd (λh W hb=>⟨zC,false,Ck,.inr ⟨rfl,by rw[h];rfl,rfl⟩,rfl,(Ge W W.heap.size).is,hb⟩);have H0:Hid (PtI w s (.slice none 0 0) (w.alloc (.cells zC 29)) [] s s.length):=Qd ⟨Br,World.ownsRow_nil _ _ _ _,by simp,Lr,by simp⟩;obtain⟨W0,hW0⟩:∃W0,W0=w.alloc (.cells zC 29):=⟨_,rfl⟩;rw[<-hW0] at H0;unfold zC at hW0;have HW0:=Qd hW0;clear hW0;obtain⟨g,hg⟩:∃g,g=w.heap.size:=⟨_,rfl⟩;have HG:=Qd hg;go_enter Tryz.func16,Tryz.ntmps16
 go_upto_region 3 with fail
 rw[<-HW0.out,<-HG.out];clear hg HW0;go_loopw [4,5,6,7,8] (λv a _ _ _ wr=>∃(t:List UInt8) (ps:List (List UInt8)) (f:Nat),a= .string ⟨t.toArray⟩/\Hid (PtI w s v wr ps t f)) (λ_ a _ _ _ _=>match a with | .string t=>t.size |_=>0)
 case atStart=>exact⟨s,[],_,rfl,H0⟩
 case round=>
  clear H0;obtain⟨wq,rfl⟩:∃y,y=wr:=⟨_,rfl⟩;obtain⟨t,ps,f,rfl,HI⟩:=hrel;obtain⟨A,c,rfl,hc1,hc2⟩:=Na HI.out.own;have hlen:=HI.out.len;have hsw:=HI.out.res.2.2;rw[<-HG.out] at hsw;have K:=Qd HI.out.res.1;rw[<-HG.out] at K;by_cases h0:t=[]
  ·subst h0
   have hP:Co.partsD s.length s=some ps:=by rw[HI.out.good];cases f<;>simp[Co.partsD]
   have HT2:Hid (T=if ps.length=35 then Co.conDp ps else none):=Qd (by rw[HT.out,hP]);have HPL:=Qd (λi=>H9 (Er hP) i);clear hP HT;by_cases h35:ps.length=35
   ·have hT3:T=Co.conDp ps:=by rw[HT2.out,if_pos h35]
    have HT3:=Qd hT3;obtain⟨bp,cp,hv,hbp,hbl⟩:=HI.out.own.form (by omega);injection hv with hA hn hcp
    subst hA;have hrow:∀i,i<ps.length->wq.cell? ⟨bp,i,none⟩=some (sv (Co.part ps i)):=λi hi=>by
     have:=Oe HI.out.own i (sv (Co.part ps i)) (by rw[List.getElem?_map,List.getElem?_eq_getElem hi];simp[Co.part,hi]);rwa[Nat.zero_add] at this
    have h1:((ps.length:Int)!=35)=false:=by simp only[bne_eq_false_iff_eq];omega
    obtain⟨b,hbn⟩:∃b,b=wq.heap.size:=⟨_,rfl⟩;obtain⟨W2,hW2⟩:∃W2,W2=wq.alloc (.cells zC 29):=⟨_,rfl⟩;have hP2:PsR w ps bp b zC W2:=by
     rw[hW2,hbn];have hal:Below wq.heap.size wq (wq.alloc (.cells zC 29)):=Br.alloc Lr _;obtain⟨r1,r2,r3⟩:=HI.out.res;exact⟨r2.trans (hal.mono r2.size),(hal.block _ (by omega)).trans r1,heap_alloc_new _ _,λi hi=>(World.cell?_of_block (hal.block _ hbl)).trans (hrow i hi),by omega,hbl,by simp⟩
    have HP2:=Qd hP2;have HBN:=Qd hbn;have HW2:=Qd hW2;have p1:=hP2.row 1 (by omega);have hlt:=hP2.lt;have hbW:b<W2.heap.size:=hlt.2.2;have hps:(35:Int)<=(ps.length:Int):=by omega
    unfold sv at p1;clear hP2 hW2 hrow HT2 hT3 hbn hn hcp HI h35 hc1 hc2 hbl hsw;go_upto_region 12 with(refine wpList_store_row rfl 29 (.tmp 9) (.tmp 40) rfl wq.heap.size zC rfl rfl 29 _ (heap_alloc_new wq _) (Ua rfl) rfl Ud ?_;rw[World.setRow_alloc_new])
    rw[<-HW2.out,<-HBN.out];have LS:=Qd (D9 (Co.part ps 1) W2 (by have:=HPL.out 1;omega));go_wp2_with fail
    refine LS.out.mono ?_;rintro e W3 ⟨v,rfl,ho,hl,hb3⟩;have hp3:=HP2.out.below hb3;have HP3:=Qd hp3;have K3:=Qd hp3.res;rw[<-HG.out] at K3;have hl1:=HPL.out 1;obtain⟨A3,c3,rfl,hd1,hd2⟩:=Na ho;have HO3:=Qd ho;clear p1 hb3 LS HP2 HBN hp3 ho;have hcase:(∃okb,(Co.listR (Co.part ps 1)).isSome=okb/\(okb=true->((((Co.listR (Co.part ps 1)).getD []).length:Int)!=3)=true)/\T=none)\/∃f q d,Co.listR (Co.part ps 1)=some [f,q,d]:=by
     rw[HT3.out];unfold Co.conDp;cases hL:Co.listR (Co.part ps 1) with
     |none=>exact .inl ⟨false,rfl,nofun,rfl⟩
     |some l=>
      match l with
      | [f,q,d]=>exact .inr ⟨f,q,d,rfl⟩
      | []=>exact .inl ⟨true,rfl,λ_=>rfl,rfl⟩
      | [_]=>exact .inl ⟨true,rfl,λ_=>rfl,rfl⟩
      | [_,_]=>exact .inl ⟨true,rfl,λ_=>rfl,rfl⟩
      |_::_::_::_::_=>exact .inl ⟨true,rfl,λ_=>by simp;omega,rfl⟩
    rcases hcase with⟨okb,h3,h4,hTn⟩ |⟨f,q,d,hL⟩
    ·have HN:=Qd (HBAD.out hTn W3 HP3.out.bel)
     clear hTn HT3 HBAD HFIT HO3 HP3 hl HPL;rw[h3];clear h3;generalize((Co.listR (Co.part ps 1)).getD []).length=ll at*;cases okb;all_goals
      try replace h4:=h4 rfl
      go_wp2_with (with_reducible refine wpList_store_row rfl 29 (.tmp 2) (.tmp 55) rfl g zC rfl rfl 29 zC K3.out (Ua rfl) rfl Ud ?_)
      rw[Yb K3.out];exact bodyPost_ret (Ja (by rfl) _ _ g 29 zC (0,0) _ (.bool false) (by rfl) (by rfl) K3.out Tryz.underlying29 rfl (Ua rfl)) rfl HN.out
    have hT4:T=(Sp.labP (Co.part ps 2)).bind λa=>(Co.chsD ps 8 0).map λL=>⟨f,q,d,a,L⟩:=by rw[HT3.out];unfold Co.conDp;rw[hL]
    have hwf:Xa [f,q,d]:=Co.listR_wf hL;have hown:=HO3.out;rw[hL] at hown⊢;simp only[Option.getD_some] at hown⊢;obtain⟨gg,cp4,hv,hgg,hgl⟩:=hown.form (by simp);injection hv with hA hn hcp
    subst hA;have b0:=Oe hown 0 (.int .i64 f) rfl;have b1:=Oe hown 1 (.int .i64 q) rfl;have b2:=Oe hown 2 (.int .i64 d) rfl;simp only[Nat.zero_add] at b0 b1 b2;have hlt3:=HP3.out.lt;have hgb:gg≠b:=by omega
    have q33:=HP3.out.cell (i:=33) (v:= .int .i64 0) rfl;have q34:=HP3.out.cell (i:=34) (v:= .int .i64 0) rfl;have q35:=HP3.out.cell (i:=35) (v:= .int .i64 0) rfl;have f33:=HP3.out.frozen 33;have f34:=HP3.out.frozen 34;have f35:=HP3.out.frozen 35;have HT4:=Qd hT4;have HWF:=Qd hwf;clear hT4 hwf hown hn hcp HO3 HT3 hL hl;go_upto_region 18 with fail
    obtain⟨W4,hW4⟩:∃W4,W4=((W3.setCell ⟨b,33,none⟩ (.int .i64 f)).setCell ⟨b,34,none⟩ (.int .i64 q)).setCell ⟨b,35,none⟩ (.int .i64 d):=⟨_,rfl⟩;have p4:PsR w ps bp b (((zC.setIfInBounds 33 (.int .i64 f)).setIfInBounds 34 (.int .i64 q)).setIfInBounds 35 (.int .i64 d)) W4:=by rw[hW4];exact((HP3.out.set 33 (.int .i64 f)).set 34 (.int .i64 q)).set 35 (.int .i64 d)
    have c4:CfP W4 (b+1) (Fa ⟨f,q,d,0,[]⟩) _:=(Ge W4 (b+1)).setNums HWF.out;rw[<-hW4];generalize((zC.setIfInBounds 33 (.int .i64 f)).setIfInBounds 34 (.int .i64 q)).setIfInBounds 35 (.int .i64 d)=C4 at p4 c4;have p2:=p4.row 2 (by omega);have k4:=p4.cell c4.auth;have f4:=p4.frozen 32;unfold sv at p2;have HP4:=Qd p4;have HC4:=Qd c4;have L2:=Qd (Hd (Co.part ps 2) W4 (by have:=HPL.out 2;omega));clear hW4 q33 q34 q35 f33 f34 f35 b0 b1 b2 HP3 p4 c4 HWF K3 K;go_wp2_with fail
    refine L2.out.mono ?_;rintro e W5 ⟨rfl,a,ok,rfl,hsp⟩;have hal:a<18446744073709551616:=by rcases hsp with⟨-,h,-⟩ |⟨-,h,-⟩<;>omega
    have hp5:=HP4.out.set 32 (.int .u64 (a:Int));have hc5:CfP _ (b+1) (Fa ⟨f,q,d,a,[]⟩) _:=(HC4.out.setAuth hal).setR HP4.out HC4.out.noL 32 (.int .u64 (a:Int));have hlb:=Sp.labP_spec hsp;have H5:Hid (G5 w ps bp b T f q d a 0 (W4.setCell ⟨b,32,none⟩ (.int .u64 (a:Int))) ok):=Qd ⟨[],_,rfl,hp5,hc5,λh=>by rw[HT4.out,hlb,if_pos h];rfl,λh=>by rw[HT4.out,hlb,h];rfl⟩;clear hp5 hc5 hlb hsp HT4 HP4 HC4 L2;go_wp2_with fail
    clear p2 k4 f4;go_loopw [12,13,14,15,16,17] (λgv i _ _ _ _ wr=>∃(k:Nat) (good:Bool),k<=8/\i= .int .i64 k/\gv= .bool good/\Hid (G5 w ps bp b T f q d a k wr good)) (λ_ i _ _ _ _ _=>8-(intOf i).toNat)
    case atStart=>exact⟨0,ok,Nat.zero_le _,rfl,rfl,H5⟩
    case round=>
     clear H5;obtain⟨wz,rfl⟩:∃x,x=wr:=⟨_,rfl⟩;obtain⟨k,good,hk,rfl,rfl,HX⟩:=hrel;by_cases hlt8:k<8
     ·have hk0:(0:Int)<=(k:Int):=by omega
      have hk8:(k:Int)<8:=by omega
      obtain⟨L,C,hL,hp,hc,hyes,hno⟩:=HX.out;have HR:=Qd (And.intro hyes hno);have HLN:=Qd hL;have r3:=hp.row (3+4*k) (by omega);have LA:=Qd (Hd (Co.part ps (3+4*k)) wz (by have:=HPL.out (3+4*k);omega));have k1:=hp.cell (hc.clear k hlt8).1;have f1:=hp.frozen k;unfold sv at r3;have HP:=Qd hp;have HC:=Qd hc;have m1:(0:Int)<=3+4*(k:Int):=by omega
      have m2:3+4*(k:Int)<(ps.length:Int):=by omega
      have m3:(3+4*(k:Int)).toNat=3+4*k:=by omega
      clear hp hc hyes hno hL HX;go_wp2_with fail
      refine LA.out.mono ?_;rintro e W5 ⟨rfl,x,o1,rfl,hsp⟩;have hx:x<18446744073709551616:=by rcases hsp with⟨-,h,-⟩ |⟨-,h,-⟩<;>omega
      have HS1:=Qd (Sp.labP_spec hsp);have hp5:=HP.out.set k (.int .u64 (x:Int));have hc5:=(HC.out.setClear hlt8 hx).setR HP.out HC.out.noL k (.int .u64 (x:Int));clear hsp LA;go_upto_region 25 with fail
      clear k1 f1 r3 m1 m2 m3;obtain⟨W6,hW6⟩:∃W6,W6=wz.setCell ⟨b,k,none⟩ (.int .u64 (x:Int)):=⟨_,rfl⟩;rw[<-hW6] at hp5 hc5⊢;have HP5:=Qd hp5;have HC5:=Qd hc5;have r4:=hp5.row (4+4*k) (by omega);have LI:=Qd (Mna (Co.part ps (4+4*k)) W6 (by have:=HPL.out (4+4*k);omega));obtain⟨A0,cp0,us0,k2',-⟩:=hc5.ins k hlt8;unfold sv at r4;have m1:(0:Int)<=4+4*(k:Int):=by omega
      have m2:4+4*(k:Int)<(ps.length:Int):=by omega
      have m3:(4+4*(k:Int)).toNat=4+4*k:=by omega
      clear hp5 hc5 hW6 HP HC hx;go_wp2_with fail
      refine LI.out.mono ?_;rintro e W7 ⟨o2,l,A2,cp2,us2,rfl,hal2,hfit2,hli2,hia2,hb7⟩;have hp7:=HP5.out.below hb7;have hc7:=HC5.out.bel hb7;have hbw:=HP5.out.lt.2.2;have k2:=hp7.cell k2';have f2:=hp7.frozen (8+k);have hp8:=hp7.set (8+k) (.slice A2 l.length cp2);have hc8:=(hc7.setIns hlt8 hfit2 (hli2.keep (λ_ _=>rfl) (λy hy=>hy.mono (by omega))) (hia2.keep (λ_ _=>rfl) (λy hy=>hy.mono (by omega)))).setR hp7 hc7.noL (8+k) (.slice A2 l.length cp2);have HS2:=Qd hal2;clear hal2 hfit2 hli2 hia2 hb7 hp7 hc7 LI k2' HP5 HC5 r4 m1 m2 m3;go_upto_region 26 with fail
      clear k2 f2;obtain⟨W8,hW8⟩:∃W8,W8=W7.setCell ⟨b,8+k,none⟩ (.slice A2 l.length cp2):=⟨_,rfl⟩;rw[<-hW8] at hp8 hc8⊢;have HP8:=Qd hp8;have HC8:=Qd hc8;have r5:=hp8.row (5+4*k) (by omega);have LC:=Qd (Hd (Co.part ps (5+4*k)) W8 (by have:=HPL.out (5+4*k);omega));have k3:=hp8.cell (hc8.label k hlt8).1;have f3:=hp8.frozen (16+k);unfold sv at r5;have m1:(0:Int)<=5+4*(k:Int):=by omega
      have m2:5+4*(k:Int)<(ps.length:Int):=by omega
      have m3:(5+4*(k:Int)).toNat=5+4*k:=by omega
      clear hp8 hc8 hW8;go_wp2_with fail
      refine LC.out.mono ?_;rintro e W9 ⟨rfl,z,o3,rfl,hsp⟩;have hx:z<18446744073709551616:=by rcases hsp with⟨-,h,-⟩ |⟨-,h,-⟩<;>omega
      have HS3:=Qd (Sp.labP_spec hsp);have hp9:=HP8.out.set (16+k) (.int .u64 (z:Int));have hc9:=(HC8.out.setLabel hlt8 hx).setR HP8.out HC8.out.noL (16+k) (.int .u64 (z:Int));clear hsp LC hx;go_upto_region 27 with fail
      clear k3 f3 r5 m1 m2 m3;obtain⟨W10,hW10⟩:∃W10,W10=W8.setCell ⟨b,16+k,none⟩ (.int .u64 (z:Int)):=⟨_,rfl⟩;rw[<-hW10] at hp9 hc9⊢;have HP9:=Qd hp9;have HC9:=Qd hc9;have r6:=hp9.row (6+4*k) (by omega);have LD:=Qd (D9 (Co.part ps (6+4*k)) W10 (by have:=HPL.out (6+4*k);omega));obtain⟨A1,cp1,k4',-⟩:=hc9.draws k hlt8;unfold sv at r6;have m1:(0:Int)<=6+4*(k:Int):=by omega
      have m2:6+4*(k:Int)<(ps.length:Int):=by omega
      have m3:(6+4*(k:Int)).toNat=6+4*k:=by omega
      have HLD:=Qd (HPL.out (6+4*k));clear hp9 hc9 hW10 HP8 HC8;go_wp2_with fail
      refine LD.out.mono ?_;rintro e W11 ⟨v,rfl,ho,hl4,hb11⟩;obtain⟨A4,cp4,rfl,hd3,hd4⟩:=Na ho;obtain⟨o4,ho4⟩:∃o4,o4=(Co.listR (Co.part ps (6+4*k))).isSome:=⟨_,rfl⟩;have hp11:=HP9.out.below hb11;have hc11:=HC9.out.bel hb11;have hbw9:=HP9.out.lt.2.2;have k4:=hp11.cell k4';have f4:=hp11.frozen (24+k);have hwf4:Xa ((Co.listR (Co.part ps (6+4*k))).getD []):=by
       cases hq:Co.listR (Co.part ps (6+4*k)) with
       |none=>exact nofun
       |some r=>exact Co.listR_wf hq
      have hp12:=hp11.set (24+k) (.slice A4 ((Co.listR (Co.part ps (6+4*k))).getD []).length cp4);have hc12:=CfP.more HLN.out ((hc11.setDraws hlt8 ⟨hd3,by have:=HLD.out;omega,by unfold maxLen at hd4;omega⟩ hwf4 ((LiesP.of_own ho).keep (P':=PR (b+1) W11) (λ_ _=>rfl) (λy hy=>⟨hy.2,.inl (by have:=hy.1;omega)⟩))).setR hp11 hc11.noL (24+k) (.slice A4 ((Co.listR (Co.part ps (6+4*k))).getD []).length cp4));have HF:=Qd (Vba hlt8 HLN.out HR.out HS1.out HS2.out HS3.out ho4.symm hp12 hc12);rw[<-ho4];clear ho hl4 hb11 hp11 hc11 hp12 hc12 hwf4 LD k4' HP9 HC9 r6 m1 m2 m3 HS1 HS2 HS3 HR HLN hd3 hd4 ho4 HLD;go_upto_region 28 with fail
      clear k4 f4;obtain⟨W12,hW12⟩:∃W12,W12=W11.setCell ⟨b,24+k,none⟩ (.slice A4 ((Co.listR (Co.part ps (6+4*k))).getD []).length cp4):=⟨_,rfl⟩;rw[<-hW12] at HF⊢;clear hW12;generalize((Co.listR (Co.part ps (6+4*k))).getD []).length=n4 at*;have hcs:good=false\/(good=true/\o1=false)\/(good=true/\o1=true/\o2=false)\/(good=true/\o1=true/\o2=true/\o3=false)\/(good=true/\o1=true/\o2=true/\o3=true):=by cases good<;>cases o1<;>cases o2<;>cases o3<;>simp
      rcases hcs with rfl |⟨rfl,rfl⟩ |⟨rfl,rfl,rfl⟩ |⟨rfl,rfl,rfl,rfl⟩ |⟨rfl,rfl,rfl,rfl⟩
      all_goals
       go_wp2_with fail
       go_roundw
       case rel=>exact⟨k+1,_,by omega,by go_num,rfl,HF⟩
       case measure=>simp[intOf];omega
     obtain rfl:k=8:=by omega
     obtain⟨L,C,hL,hp,hc,hyes,hno⟩:=HX.out;obtain⟨x,hx⟩:∃x:Co.Con,x=⟨f,q,d,a,L⟩:=⟨_,rfl⟩;rw[<-hx] at hc;have hC36:=hc.size;have K:=Qd hp.res;rw[<-HG.out] at K;have HE:Hid (∀W,T=none->Below w.heap.size w W->W.heap[g]? =some (.cells zC 29 (0,0))->Qk (Uc T s) w (.returned (.tuple #[.agg zC,.bool false])) W):=Qd (λW h hb _=>HBAD.out h W hb);cases good with
     |false=>
      have HN:=Qd (HBAD.out (hno rfl) wz hp.bel);clear hp hc hyes hno HX HE HBAD HFIT;go_wp2_with (with_reducible refine wpList_store_row rfl 29 (.tmp 2) (.tmp 158) rfl g zC rfl rfl 29 zC K.out (Ua rfl) rfl Ud ?_)
      rw[Yb K.out];exact bodyPost_ret (Ja (by rfl) _ _ g 29 zC (0,0) _ (.bool false) (by rfl) (by rfl) K.out Tryz.underlying29 rfl (Ua rfl)) rfl HN.out
     |true=>
      have hT':T=some x:=by rw[hyes rfl,hx];simp[Co.chsD]
      have HB1:=Qd hp.cfg;have RG:=Qd (Jy (Fa x) C wz wz.heap.size hc.is Lr);have HNO:Hid (Jb (Fa x)=false\/Co.conT x≠s->∀W C,PsR w ps bp b C W->Qk (Uc T s) w (.returned (.tuple #[.agg zC,.bool false])) W):=Qd (λh W C hp=>by
       refine⟨zC,false,Ck,.inr ⟨rfl,?_,rfl⟩,rfl,(Ge W W.heap.size).is,hp.bel⟩;rw[hT'];unfold Uc;dsimp only;rw[if_neg];rintro⟨h1,h2⟩;rcases h with h |h
       ·rw[h1] at h;cases h
       exact h h2)
      have HYES:Hid (Jb (Fa x)=true->Co.conT x=s->∀W,PsR w ps bp b C W->CfP W (b+1) (Fa x) C->Qk (Uc T s) w (.returned (.tuple #[.agg C,.bool true])) (W.setRow g C)):=Qd (λh1 h2 W hp hc=>by
       rw[HG.out];refine⟨C,true,x,.inl ⟨rfl,?_⟩,rfl,(hc.resR hp C).is,Vea hp.bel Lr C⟩;rw[hT'];unfold Uc;dsimp only;rw[if_pos ⟨h1,h2⟩])
      have HFX:=Qd (HFIT.out x hT');have HP:=Qd hp;have HC:=Qd hc;clear hp hc HX hT' hx hL HFIT HBAD hyes hno HE;go_wp2_with (refine Eb rfl 29 (.tmp 9) rfl b rfl 29 C (0,0) _ HB1.out Tryz.underlying29 rfl (Ua hC36) ?_)
      refine RG.out.mono ?_;rintro e W5 ⟨rfl,hb5⟩;have hp5:=HP.out.below hb5;have hc5:CfP W5 (b+1) (Fa x) C:=HC.out.bel hb5;clear hb5 RG HP HC K;have K:=Qd hp5.res;rw[<-HG.out] at K;cases hR:Jb (Fa x) with
      |false=>
       have HN:=Qd (HNO.out (.inl hR) _ _ hp5);clear hp5 hc5 HNO HYES HFX hR;go_wp2_with (with_reducible refine wpList_store_row rfl 29 (.tmp 2) (.tmp 158) rfl g zC rfl rfl 29 zC K.out (Ua rfl) rfl Ud ?_)
       rw[Yb K.out];exact bodyPost_ret (Ja (by rfl) _ _ g 29 zC (0,0) _ (.bool false) (by rfl) (by rfl) K.out Tryz.underlying29 rfl (Ua rfl)) rfl HN.out
      |true=>
       have HB5:=Qd hp5.cfg;have TT:=Qd (Fm x C W5 W5.heap.size hc5.is Lr (HFX.out hR));have HP5:=Qd hp5;have HC5:=Qd hc5;have HR1:=Qd hR;clear hp5 hc5 hR HFX;go_wp2_with (refine Eb rfl 29 (.tmp 9) rfl b rfl 29 C (0,0) _ HB5.out Tryz.underlying29 rfl (Ua hC36) ?_)
       refine TT.out.mono ?_;rintro e W6 ⟨rfl,hb6⟩;have hp6:=HP5.out.below hb6;have hc6:CfP W6 (b+1) (Fa x) C:=HC5.out.bel hb6;clear K;have K:=Qd hp6.res;have HB6:=Qd hp6.cfg;have hone:=Qd hc6.one;have hzC:Hid (zC.size=C.size):=Qd (by rw[hC36];rfl);have HDN:=Qd (hp6.done C);rw[<-HG.out] at K HDN;have HY6:=Qd (λh=>HYES.out HR1.out h _ hp6 hc6);have HN6:=Qd (λh=>HNO.out (.inr h) _ _ hp6);clear hb6 hp6 hc6 TT HP5 HC5 HYES HNO HB5 HB1;generalize Co.conT x=y at*;by_cases ht:y=s
       ·have HN:=Qd (HY6.out ht)
        subst ht;clear HY6 HN6;go_wp2_with (first
         |(with_reducible refine wpList_load_row rfl 29 (.tmp 9) rfl b rfl 29 C (0,0) _ HB6.out Tryz.underlying29 rfl (Ua hC36) ?_)
         |(with_reducible refine wpList_store_row rfl 29 (.tmp 2) (.tmp 159) rfl g C rfl rfl 29 zC K.out (Ua hC36) hzC.out hone.out ?_))
        exact bodyPost_ret (Ja (by rfl) _ _ g 29 C (0,0) _ (.bool true) (by rfl) (by rfl) HDN.out Tryz.underlying29 rfl (Ua hC36)) rfl HN.out
       have HN:=Qd (HN6.out ht);have hne:(y==s)=false:=beq_eq_false_iff_ne.2 ht;clear HY6 HN6;go_wp2_with (with_reducible refine wpList_store_row rfl 29 (.tmp 2) (.tmp 158) rfl g zC rfl rfl 29 zC K.out (Ua rfl) rfl Ud ?_)
       rw[Yb K.out];exact bodyPost_ret (Ja (by rfl) _ _ g 29 zC (0,0) _ (.bool false) (by rfl) (by rfl) K.out Tryz.underlying29 rfl (Ua rfl)) rfl HN.out
   have HN:=Qd (HBAD.out (by rw[HT2.out,if_neg h35]) wq HI.out.res.2.1);have h1:((ps.length:Int)!=35)=true:=by simp;omega
   clear HT2 HPL h35 HI HBAD HFIT;go_wp2_with (with_reducible refine wpList_store_row rfl 29 (.tmp 2) (.tmp 39) rfl g zC rfl rfl 29 zC K.out (Ua rfl) rfl Ud ?_)
   rw[Yb K.out];exact bodyPost_ret (Ja (by rfl) _ _ g 29 zC (0,0) _ (.bool false) (by rfl) (by rfl) K.out Tryz.underlying29 rfl (Ua rfl)) rfl HN.out
  have hpos:=List.length_pos_iff.2 h0;have hp:(0:Int)<(t.length:Int):=by omega
  have hlf:=HI.out.lf;obtain⟨f',rfl⟩:∃f',f=f'+1:=⟨f-1,by omega⟩;obtain⟨t1,t2,cb,hV,hcb⟩:∃(t1 t2:List UInt8) (cb:Bool),Nw.cutV (Nw.cut t)= .tuple #[.string ⟨t1.toArray⟩,.string ⟨t2.toArray⟩,.bool cb]/\((cb=true/\Nw.cut t=some (t1,t2))\/(cb=false/\Nw.cut t=none)):=by
   cases hc:Nw.cut t with
   |none=>exact⟨[],[],false,rfl,.inr ⟨rfl,rfl⟩⟩
   |some p=>exact⟨p.1,p.2,true,rfl,.inl ⟨rfl,rfl⟩⟩
  have CU:=Qc t wq (by omega);rw[hV] at CU;replace CU:=Qd CU;have hgood:=HI.out.good;rw[Co.partsD,if_neg h0] at hgood;clear hV h0;rcases hcb with⟨rfl,e⟩ |⟨rfl,e⟩
  ·have hless:=(Sp.cut_less e).2
   rw[e] at hgood;have HGD:Hid (Co.partsD s.length s=(Co.partsD f' t2).map ((ps++[t1])++ ·)):=Qd (by rw[hgood];simp[Option.map_map,Function.comp_def]);have HO2:=Qd HI.out.own;have HB2:=Qd HI.out.bel;clear e hgood;go_wp2_with fail
   refine CU.out.mono ?_;rintro e W3 ⟨rfl,hb3⟩;have HB3:Hid (Below (w.heap.size+1) (w.alloc (.cells zC 29)) W3):=Qd (HB2.out.trans (hb3.mono (by rw[<-HG.out];exact hsw)));have HO3:Hid ((W3.alloc (.cells #[sv t1] 9)).ownsRow (w.heap.size+1) 9 1 (.slice A ps.length c) ps.length (ps.map sv)):=Qd ((An HO2.out hb3).alloc _);have hs3:=hb3.size;unfold sv at HO3;clear hb3 CU;go_wp2_with (at_builtin;refine wpList_append_own _ rfl _ _ 71 rfl (w.heap.size+1) 9 iS (.string ⟨#[]⟩) 1 16 Tryz.underlying71 hiS hz0 hz1 hz2 rfl (by decide) _ _ _ rfl HO3.out ⟨_,0,none⟩ 1 1 [.string ⟨t1.toArray⟩] rfl rfl (cell_one_new _ _ _) (by intro u hu;simp only[List.mem_singleton] at hu;subst hu;rfl) (by unfold maxLen;omega) (by omega) (by simp;rw[<-HG.out];omega) ?_;intro v3 w3 hown3 hgrow3 hnn3)
   have HN3:Hid (PtI w s v3 w3 (ps++[t1]) t2 f'):=Qd ⟨(HB3.out.alloc (by rw[<-HG.out];omega) _).grown hgrow3 (by simp;rw[<-HG.out];omega) (λk hk=>(HO2.out.lt k hk).1),by rw[List.map_append,List.length_append];exact hown3,by simp;omega,by omega,HGD.out⟩;go_roundw
   case rel=>exact⟨t2,_,_,rfl,HN3⟩
   case measure=>show t2.toArray.size<t.toArray.size;rw[List.size_toArray,List.size_toArray];exact hless
  have HN:=Qd (HBAD.out (by rw[HT.out,hgood,e];rfl));have HB0:=Qd HI.out.res.2.1;clear e hgood HT HI HBAD HFIT;go_wp2_with fail
  refine CU.out.mono ?_;rintro e W3 ⟨rfl,hb3⟩;have HN3:=Qd (HN.out W3 (HB0.out.trans (hb3.mono (by rw[<-HG.out];omega))));have K3:Hid (W3.heap[g]? =some (.cells zC 29 (0,0))):=Qd ((hb3.block g (by omega)).trans K.out);clear hb3 CU;go_wp2_with (with_reducible refine wpList_store_row rfl 29 (.tmp 2) (.tmp 30) rfl g zC rfl rfl 29 zC K3.out (Ua rfl) rfl Ud ?_)
  rw[Yb K3.out];exact bodyPost_ret (Ja (by rfl) _ _ g 29 zC (0,0) _ (.bool false) (by rfl) (by rfl) K3.out Tryz.underlying29 rfl (Ua rfl)) rfl HN3.out
end
section
open Go.RowKit Ar
theorem Kv (l l':List Ba)(us us':List Value)(A A':Option Addr)(c c':Nat)(lab:Bool)(w:World)(B:Nat)(h:IsArrs w B l us)(h':IsArrs w B l' us')(hl:Lies w B A us)(hl':Lies w B A' us')(hB:B<=w.heap.size)
 (k1:l.length<=35184372088832) (k2:l'.length<=35184372088832)
 (hf:∀(k:Nat) (hk:k<l.length) (hk':k<l'.length) (u u':List Value) (wx:World),Below w.heap.size w wx->IsArr wx B l[k] u->IsArr wx B l'[k] u'->
  Calls Tryz.prog 23 #[.agg u.toArray,.agg u'.toArray] wx λe w'=>e= .returned (.bool (same lab l[k] l'[k]))/\Below wx.heap.size wx w'):
 Calls Tryz.prog 22 #[.slice A l.length c,.slice A' l'.length c',.func (.func 23) #[] #[]] w λe w'=>e= .returned (.bool (Ca lab l l'))/\Below w.heap.size w w':=by
 have HS:=Qd h;have HS':=Qd h';have HL:=Qd hl;have HL':=Qd hl';have HF:=Qd hf;clear h h' hl hl' hf;by_cases hne:l.length=l'.length
 ·have hd:((l.length:Int)!=(l'.length:Int))=false:=by simp;omega
  have hln:l.length<=l'.length:=by omega
  have HN:=Qd hne;clear hne;go_enter Tryz.func22,Tryz.ntmps22
  go_wp2_with fail
  go_loopw [7,17] (λu i wr=>∃k:Nat,k<=l.length/\i= .int .i64 k/\Hid (Ca lab (l.drop k) (l'.drop k)=Ca lab l l')/\Below w.heap.size w wr) (λ_ i _=>l.length-(intOf i).toNat)
  case atStart=>exact⟨0,Nat.zero_le _,rfl,Qd rfl,Br⟩
  case round=>
   obtain⟨k,hk,rfl,HT,hbel⟩:=hrel;have hsz:=hbel.size;by_cases hlt:k<l.length
   ·have hlt':k<l'.length:=by omega
    obtain⟨b,off,S,X,xn,xc,Y,yn,yc,rfl,hb,HA,g0,g1,g2⟩:=Vb HS.out HL.out (wr:=wr) (λp hp=>hbel.cell (by omega)) hlt;obtain⟨b',off',S',X',xn',xc',Y',yn',yc',rfl,hb',HA',g0',g1',g2'⟩:=Vb HS'.out HL'.out (wr:=wr) (λp hp=>hbel.cell (by omega)) hlt';have hbw:b<wr.heap.size:=by omega
    have hbw':b'<wr.heap.size:=by omega
    have hST:Hid (Ca lab (l.drop k) (l'.drop k)=(same lab l[k] l'[k]&&Ca lab (l.drop (k+1)) (l'.drop (k+1)))):=Qd (Ef lab hlt hlt');have hb1:=(hbel.alloc (by omega) (Obj.cells #[.int .u64 (S:Int),.slice X xn xc,.slice Y yn yc] 43)).alloc (by simp;omega) (Obj.cells #[.int .u64 (S':Int),.slice X' xn' xc',.slice Y' yn' yc'] 43);have FC:=Qd (HF.out k hlt hlt' [.int .u64 (S:Int),.slice X xn xc,.slice Y yn yc] [.int .u64 (S':Int),.slice X' xn' xc',.slice Y' yn' yc'] _ hb1 (HA.out.below (hb1.mono hB)) (HA'.out.below (hb1.mono hB)));generalize same lab l[k] l'[k]=R at FC hST;go_wp2_with fail
    refine FC.out.mono ?_;rintro e w2 ⟨rfl,hb2⟩;have hb3:=hb1.trans (hb2.mono hb1.size);cases R
    ·have HZ:Hid (Ca lab l l'=false):=Qd (by rw[<-HT.out,hST.out];rfl)
     go_wp2_with fail
     go_ret;exact⟨Aa (by rw[HZ.out]),hb3⟩
    have HZ:Hid (Ca lab (l.drop (k+1)) (l'.drop (k+1))=Ca lab l l'):=Qd (by rw[<-HT.out,hST.out];rfl);go_wp2_with fail
    go_roundw
    case rel=>exact⟨k+1,by omega,by go_num,HZ,hb3⟩
    case measure=>simp[intOf];omega
   have hke:k=l.length:=by omega
   have HZ2:Hid (Ca lab l l'=true):=Qd (by rw[<-HT.out,hke,List.drop_length,HN.out,List.drop_length,Ca]);clear hke HT;go_wp2_with fail
   go_ret;exact⟨Aa (by rw[HZ2.out]),hbel⟩
 have hd:(l.length !=l'.length)=true:=by simpa using hne
 have HZ2:Hid (Ca lab l l'=false):=Qd (by
  cases e:Ca lab l l'
  ·rfl
  exact absurd (Me lab e) hne)
 clear hne;go_enter Tryz.func22,Tryz.ntmps22
 go_wp2_with fail
 go_ret;exact⟨Aa (by rw[HZ2.out]),Br⟩
theorem Px (cf df:Wb)(C D:Array Value)(w:World)(B:Nat)(hC:IsCfg w B cf C)(hD:IsCfg w B df D)(hB:B<=w.heap.size):
 Calls Tryz.prog 10 #[.agg C,.agg D] w λe w'=>e= .returned (.bool (Xh cf df))/\Below w.heap.size w w':=by
 obtain⟨W,hW⟩:∃W,W=(w.alloc (.cells C 29)).alloc (.cells D 29):=⟨_,rfl⟩;have hWs:W.heap.size=w.heap.size+1+1:=by rw[hW];simp
 have hWb:Below w.heap.size w W:=by rw[hW];exact(Br.alloc Lr _).alloc (by simp) _
 have hW0:W.heap[w.heap.size]? =some (.cells C 29 (0,0)):=by rw[hW];exact heap_alloc2_old _ _ _
 have hW1:W.heap[w.heap.size+1]? =some (.cells D 29 (0,0)):=by rw[hW];exact heap_alloc2_new _ _ _
 have CH:=Qd (λ(k:Nat) (hk:k<8)=>C8 hC hD hW0 hW1 (by omega) hk);have p0:=(hC.clear 0 (by omega)).1;have r0:=(hD.clear 0 (by omega)).1;have s0:=(hC.label 0 (by omega)).1;have t0:=(hD.label 0 (by omega)).1;have p1:=(hC.clear 1 (by omega)).1;have r1:=(hD.clear 1 (by omega)).1;have s1:=(hC.label 1 (by omega)).1;have t1:=(hD.label 1 (by omega)).1;have p2:=(hC.clear 2 (by omega)).1;have r2:=(hD.clear 2 (by omega)).1;have s2:=(hC.label 2 (by omega)).1;have t2:=(hD.label 2 (by omega)).1;have p3:=(hC.clear 3 (by omega)).1;have r3:=(hD.clear 3 (by omega)).1;have s3:=(hC.label 3 (by omega)).1;have t3:=(hD.label 3 (by omega)).1;have p4:=(hC.clear 4 (by omega)).1;have r4:=(hD.clear 4 (by omega)).1;have s4:=(hC.label 4 (by omega)).1;have t4:=(hD.label 4 (by omega)).1;have p5:=(hC.clear 5 (by omega)).1;have r5:=(hD.clear 5 (by omega)).1;have s5:=(hC.label 5 (by omega)).1;have t5:=(hD.label 5 (by omega)).1;have p6:=(hC.clear 6 (by omega)).1;have r6:=(hD.clear 6 (by omega)).1;have s6:=(hC.label 6 (by omega)).1;have t6:=(hD.label 6 (by omega)).1;have p7:=(hC.clear 7 (by omega)).1;have r7:=(hD.clear 7 (by omega)).1;have s7:=(hC.label 7 (by omega)).1;have t7:=(hD.label 7 (by omega)).1;simp only[Nat.reduceAdd] at s0 s1 s2 s3 s4 s5 s6 s7 t0 t1 t2 t3 t4 t5 t6 t7;have p32:=hC.auth;have r32:=hD.auth;have p33:=hC.fuel;have r33:=hD.fuel;have p34:=hC.quota;have r34:=hD.quota;have p35:=hC.depth;have r35:=hD.depth;have n1:=λwx=>Gj (P:=Tryz.prog) wx 9998 23 22 8 Tryz.underlying23 Tryz.underlying22 (λ_=>by kernel_rfl) (l8 cf.clear) (l8 df.clear) rfl rfl;have n2:=λwx=>Gj (P:=Tryz.prog) wx 9998 23 22 8 Tryz.underlying23 Tryz.underlying22 (λ_=>by kernel_rfl) (l8 cf.label) (l8 df.label) rfl rfl;have HR:Hid (Xh cf df=((l8 cf.clear==l8 df.clear)&&(l8 cf.label==l8 df.label)&&(cf.auth==df.auth)&&((cf.fuel==df.fuel)&&(cf.quota==df.quota)&&(cf.depth==df.depth))&&Bc cf df 0)):=Qd rfl;have HW:=Qd hW;have HKB:=Qd (λ(wx:World) (hx:Below W.heap.size W wx) (p:Addr) (hp:p.block<B)=>show wx.cell? p=w.cell? p by rw[hx.cell (by omega),hWb.cell (by omega)]);have HKW:=Qd (λ(wx:World) (hx:Below W.heap.size W wx)=>(show Below B w wx from(hWb.mono hB).trans (hx.mono (by omega))));have hgl:w.heap.size+1<W.heap.size:=by omega
 clear hC hD hW hW0 hW1;generalize Xh cf df=R at*;generalize(l8 cf.clear==l8 df.clear)=e1 at*;generalize(l8 cf.label==l8 df.label)=e2 at*;simp only[Tz,l8,List.map_cons,List.map_nil] at n1 n2;simp only[Nat.reduceAdd] at n1 n2;have HBAD:Hid ((e1=false\/e2=false\/cf.auth≠df.auth\/cf.fuel≠df.fuel\/cf.quota≠df.quota\/cf.depth≠df.depth)->R=false):=Qd (by
  intro h;rw[HR.out];rcases h with h |h |h |h |h |h<;>simp[h])
 have HGOOD:Hid (e1=true->e2=true->cf.auth=df.auth->cf.fuel=df.fuel->cf.quota=df.quota->cf.depth=df.depth->R=Bc cf df 0):=Qd (by
  intro h1 h2 h3 h4 h5 h6;rw[HR.out,h1,h2,h3,h4,h5,h6];simp)
 clear HR;cases e1
 ·have HZ:=Qd (HBAD.out (.inl rfl))
  clear HBAD HGOOD;go_enter Tryz.func10,Tryz.ntmps10
  go_wp2_with fail
  go_ret;exact⟨Aa (by rw[HZ.out]),by rw[HW.out] at hWb;exact hWb⟩
 cases e2
 ·have HZ:=Qd (HBAD.out (.inr (.inl rfl)))
  clear HBAD HGOOD;go_enter Tryz.func10,Tryz.ntmps10
  go_wp2_with fail
  go_ret;exact⟨Aa (by rw[HZ.out]),by rw[HW.out] at hWb;exact hWb⟩
 by_cases ha:cf.auth=df.auth
 ·have q3:((cf.auth:Int)!=(df.auth:Int))=false:=by simp;omega
  by_cases hf:cf.fuel=df.fuel
  ·have q4:(cf.fuel !=df.fuel)=false:=by simpa using hf
   by_cases hq:cf.quota=df.quota
   ·have q5:(cf.quota !=df.quota)=false:=by simpa using hq
    by_cases hd:cf.depth=df.depth
    ·have q6:(cf.depth !=df.depth)=false:=by simpa using hd
     have HR2:=Qd (HGOOD.out rfl rfl ha hf hq hd);clear HBAD HGOOD ha hf hq hd;go_enter Tryz.func10,Tryz.ntmps10
     go_wp2_with fail
     rw[<-HW.out];clear p0 p1 p2 p3 p4 p5 p6 p7 r0 r1 r2 r3 r4 r5 r6 r7 s0 s1 s2 s3 s4 s5 s6 s7 t0 t1 t2 t3 t4 t5 t6 t7 p32 r32 p33 r33 p34 r34 p35 r35 n1 n2;obtain⟨g,hg⟩:∃g,g=w.heap.size:=⟨_,rfl⟩;rw[<-hg] at hgl hB hWb CH⊢;have HG:=Qd hg;clear hg;go_loopw [5,44] (λ_ i wr=>∃k:Nat,k<=8/\i= .int .i64 k/\Hid (Bc cf df k=Bc cf df 0)/\Below W.heap.size W wr) (λ_ i _=>8-(intOf i).toNat)
     case atStart=>exact⟨0,Nat.zero_le _,rfl,Qd rfl,Br⟩
     case round=>
      obtain⟨k,hk,rfl,HT,hbel⟩:=hrel;have hsz:=hbel.size;by_cases hlt:k<8
      ·obtain⟨A1,A2,A3,A4,c1,c2,c3,c4,us1,us2,hch⟩:=CH.out k hlt
       obtain⟨x1,x2⟩:=hch.i wr hbel;obtain⟨y1,y2⟩:=hch.d wr hbel;have f1:=hch.f1;have f2:=hch.f2;have E1:=Qd (λ(x:Later wr)=>Kv (cf.ins k) (df.ins k) us1 us2 A1 A2 c1 c2 true x.w B (hch.li.2.below (HKW.out x.w (hbel.trans (x.b.mono hsz)))) (hch.li'.2.below (HKW.out x.w (hbel.trans (x.b.mono hsz)))) (hch.li.1.below (HKW.out x.w (hbel.trans (x.b.mono hsz)))) (hch.li'.1.below (HKW.out x.w (hbel.trans (x.b.mono hsz)))) (by have:=x.b.size;omega) f1.1 f1.2 (λk' _ _ u u' wy hy hu hu'=>X6 _ _ u u' wy B hu hu' (by have:=x.b.size;have:=hy.size;omega)));have E2:=Qd (λ(x:Later wr)=>Cs (cf.draws k) (df.draws k) A3 A4 c3 c4 x.w B (hch.ld.below (HKW.out x.w (hbel.trans (x.b.mono hsz)))) (hch.ld'.below (HKW.out x.w (hbel.trans (x.b.mono hsz)))) (by omega) (by omega));have HST:Hid (Bc cf df 0=(Kk cf df k&&Bc cf df (k+1))):=Qd (by rw[<-HT.out,Ey hlt]);have HRB:Hid (Kk cf df k=(Ca true (cf.ins k) (df.ins k)&&(cf.draws k==df.draws k))):=Qd rfl;clear hch;generalize Ca true (cf.ins k) (df.ins k)=m1 at*;generalize(cf.draws k==df.draws k)=m2 at*;generalize(cf.ins k).length=z1 at*;generalize(df.ins k).length=z2 at*;generalize(cf.draws k).length=z3 at*;generalize(df.draws k).length=z4 at*;have HK:∀(x:Later wr) (o:Nat),x.w.cell? ⟨g,o,none⟩=wr.cell? ⟨g,o,none⟩:=λx o=>x.b.cell (p:=⟨g,o,none⟩) (show g<wr.heap.size by omega);have HK':∀(x:Later wr) (o:Nat),x.w.cell? ⟨g+1,o,none⟩=wr.cell? ⟨g+1,o,none⟩:=λx o=>x.b.cell (p:=⟨g+1,o,none⟩) (show g+1<wr.heap.size by omega);have hk0:(0:Int)<=(k:Int):=by omega
       have hk8:(k:Int)<8:=by omega
       cases m1
       ·have HZ:Hid (R=false):=Qd (by rw[HR2.out,HST.out,HRB.out];rfl)
        go_wp2_with fail
        refine Bb wr (by kernel_rfl) (by kernel_rfl) (Below.drew_self wr) ?_;repeat (go_big_quiet_step ((go_at_call 22;exact Later.call (E1.out _))))
        refine wpQuiet_nil ?_;rintro _ ⟨⟨w4,hb4⟩,rfl⟩;clear HK HK' x1 x2 y1 y2;go_wp2_with fail
        go_ret;exact⟨Aa (by rw[HZ.out]),by rw[<-HG.out];exact(hWb.trans (hbel.mono (by omega))).trans (hb4.mono (by omega))⟩
       cases m2
       ·have HZ:Hid (R=false):=Qd (by rw[HR2.out,HST.out,HRB.out];rfl)
        go_wp2_with fail
        refine Bb wr (by kernel_rfl) (by kernel_rfl) (Below.drew_self wr) ?_;repeat (go_big_quiet_step (first|(go_at_call 22;exact Later.call (E1.out _)) |(go_at_call 24;exact Later.call (E2.out _))))
        refine wpQuiet_nil ?_;rintro _ ⟨⟨w4,hb4⟩,rfl⟩;clear HK HK' x1 x2 y1 y2;go_wp2_with fail
        go_ret;exact⟨Aa (by rw[HZ.out]),by rw[<-HG.out];exact(hWb.trans (hbel.mono (by omega))).trans (hb4.mono (by omega))⟩
       have HZ:Hid (Bc cf df (k+1)=Bc cf df 0):=Qd (by rw[HST.out,HRB.out];rfl);go_wp2_with fail
       refine Bb wr (by kernel_rfl) (by kernel_rfl) (Below.drew_self wr) ?_;repeat (go_big_quiet_step (first|(go_at_call 22;exact Later.call (E1.out _)) |(go_at_call 24;exact Later.call (E2.out _))))
       refine wpQuiet_nil ?_;rintro _ ⟨⟨w4,hb4⟩,rfl⟩;clear HK HK' x1 x2 y1 y2;go_wp2_with fail
       go_roundw
       case rel=>exact⟨k+1,by omega,by go_num,HZ,hbel.trans (hb4.mono hsz)⟩
       case measure=>simp[intOf];omega
      obtain rfl:k=8:=by omega
      have HZ:Hid (R=true):=Qd (by rw[HR2.out,<-HT.out,Vz]);go_wp2_with fail
      go_ret;exact⟨Aa (by rw[HZ.out]),by rw[<-HG.out];exact hWb.trans (hbel.mono (by omega))⟩
    have q6:(cf.depth !=df.depth)=true:=by simpa using hd
    have HZ:=Qd (HBAD.out (.inr (.inr (.inr (.inr (.inr hd))))));clear HBAD HGOOD hd;go_enter Tryz.func10,Tryz.ntmps10
    go_wp2_with fail
    go_ret;exact⟨Aa (by rw[HZ.out]),by rw[HW.out] at hWb;exact hWb⟩
   have q5:(cf.quota !=df.quota)=true:=by simpa using hq
   have HZ:=Qd (HBAD.out (.inr (.inr (.inr (.inr (.inl hq))))));clear HBAD HGOOD hq;go_enter Tryz.func10,Tryz.ntmps10
   go_wp2_with fail
   go_ret;exact⟨Aa (by rw[HZ.out]),by rw[HW.out] at hWb;exact hWb⟩
  have q4:(cf.fuel !=df.fuel)=true:=by simpa using hf
  have HZ:=Qd (HBAD.out (.inr (.inr (.inr (.inl hf)))));clear HBAD HGOOD hf;go_enter Tryz.func10,Tryz.ntmps10
  go_wp2_with fail
  go_ret;exact⟨Aa (by rw[HZ.out]),by rw[HW.out] at hWb;exact hWb⟩
 have q3:((cf.auth:Int)!=(df.auth:Int))=true:=by simp;omega
 have HZ:=Qd (HBAD.out (.inr (.inr (.inl ha))));clear HBAD HGOOD ha;go_enter Tryz.func10,Tryz.ntmps10
 go_wp2_with fail
 go_ret;exact⟨Aa (by rw[HZ.out]),by rw[HW.out] at hWb;exact hWb⟩
theorem I5 (cf df:Wb)(C D:Array Value)(w:World)(B:Nat)(hC:IsCfg w B cf C)(hD:IsCfg w B df D)(hB:B<=w.heap.size):
 Calls Tryz.prog 11 #[.agg C,.agg D] w λe w'=>e= .returned (.bool (Xh cf df))/\Below w.heap.size w w':=by
 obtain⟨W,hW⟩:∃W,W=(w.alloc (.cells C 29)).alloc (.cells D 29):=⟨_,rfl⟩;have hWs:W.heap.size=w.heap.size+1+1:=by rw[hW];simp
 have hWb:Below w.heap.size w W:=by rw[hW];exact(Br.alloc Lr _).alloc (by simp) _
 have hW0:W.heap[w.heap.size]? =some (.cells C 29 (0,0)):=by rw[hW];exact heap_alloc2_old _ _ _
 have hW1:W.heap[w.heap.size+1]? =some (.cells D 29 (0,0)):=by rw[hW];exact heap_alloc2_new _ _ _
 have CH:=Qd (λ(k:Nat) (hk:k<8)=>C8 hC hD hW0 hW1 (by omega) hk);have p32:W.cell? ⟨w.heap.size,32,none⟩=some (.int .u64 (cf.auth:Int)):=(cell_of_row W _ 32 _ _ _ hW0).trans hC.auth;have r32:W.cell? ⟨w.heap.size+1,32,none⟩=some (.int .u64 (df.auth:Int)):=(cell_of_row W _ 32 _ _ _ hW1).trans hD.auth;have p33:W.cell? ⟨w.heap.size,33,none⟩=some (.int .i64 cf.fuel):=(cell_of_row W _ 33 _ _ _ hW0).trans hC.fuel;have r33:W.cell? ⟨w.heap.size+1,33,none⟩=some (.int .i64 df.fuel):=(cell_of_row W _ 33 _ _ _ hW1).trans hD.fuel;have p34:W.cell? ⟨w.heap.size,34,none⟩=some (.int .i64 cf.quota):=(cell_of_row W _ 34 _ _ _ hW0).trans hC.quota;have r34:W.cell? ⟨w.heap.size+1,34,none⟩=some (.int .i64 df.quota):=(cell_of_row W _ 34 _ _ _ hW1).trans hD.quota;have p35:W.cell? ⟨w.heap.size,35,none⟩=some (.int .i64 cf.depth):=(cell_of_row W _ 35 _ _ _ hW0).trans hC.depth;have r35:W.cell? ⟨w.heap.size+1,35,none⟩=some (.int .i64 df.depth):=(cell_of_row W _ 35 _ _ _ hW1).trans hD.depth;rw[hW] at p32 r32 p33 r33 p34 r34 p35 r35;have HR:Hid (Xh cf df=((cf.auth==df.auth)&&(cf.fuel==df.fuel)&&(cf.quota==df.quota)&&(cf.depth==df.depth)&&Cb cf df 0)):=Qd (Rp cf df);have HW:=Qd hW;have HKB:=Qd (λ(wx:World) (hx:Below W.heap.size W wx) (p:Addr) (hp:p.block<B)=>show wx.cell? p=w.cell? p by rw[hx.cell (by omega),hWb.cell (by omega)]);have HKW:=Qd (λ(wx:World) (hx:Below W.heap.size W wx)=>(show Below B w wx from(hWb.mono hB).trans (hx.mono (by omega))));have hgl:w.heap.size+1<W.heap.size:=by omega
 clear hC hD hW hW0 hW1;generalize Xh cf df=R at*;have HBAD:Hid ((cf.auth≠df.auth\/cf.fuel≠df.fuel\/cf.quota≠df.quota\/cf.depth≠df.depth)->R=false):=Qd (by
  intro h;rw[HR.out];rcases h with h |h |h |h<;>simp[h])
 have HGOOD:Hid (cf.auth=df.auth->cf.fuel=df.fuel->cf.quota=df.quota->cf.depth=df.depth->R=Cb cf df 0):=Qd (by
  intro h3 h4 h5 h6;rw[HR.out,h3,h4,h5,h6];simp)
 clear HR;by_cases ha:cf.auth=df.auth
 ·have q3:((cf.auth:Int)!=(df.auth:Int))=false:=by simp;omega
  by_cases hf:cf.fuel=df.fuel
  ·have q4:(cf.fuel !=df.fuel)=false:=by simpa using hf
   by_cases hq:cf.quota=df.quota
   ·have q5:(cf.quota !=df.quota)=false:=by simpa using hq
    by_cases hd:cf.depth=df.depth
    ·have q6:(cf.depth !=df.depth)=false:=by simpa using hd
     have HR2:=Qd (HGOOD.out ha hf hq hd);clear HBAD HGOOD ha hf hq hd;go_enter Tryz.func11,Tryz.ntmps11
     go_wp2_with fail
     rw[<-HW.out];clear p32 r32 p33 r33 p34 r34 p35 r35;obtain⟨g,hg⟩:∃g,g=w.heap.size:=⟨_,rfl⟩;rw[<-hg] at hgl hB hWb CH⊢;have HG:=Qd hg;clear hg;go_loopw [5] (λi wr=>∃k:Nat,k<=8/\i= .int .i64 k/\Hid (Cb cf df k=Cb cf df 0)/\Below W.heap.size W wr) (λi _=>8-(intOf i).toNat)
     case atStart=>exact⟨0,Nat.zero_le _,rfl,Qd rfl,Br⟩
     case round=>
      obtain⟨k,hk,rfl,HT,hbel⟩:=hrel;have hsz:=hbel.size;by_cases hlt:k<8
      ·obtain⟨A1,A2,A3,A4,c1,c2,c3,c4,us1,us2,hch⟩:=CH.out k hlt
       have HCH:=Qd hch;have HST:Hid (Cb cf df 0=(Ee cf df k&&Cb cf df (k+1))):=Qd (by rw[<-HT.out,Uu hlt]);have HCB:Hid (Ee cf df k=((cf.clear k==df.clear k)&&(cf.label k==df.label k)&&(cf.draws k==df.draws k)&&Ca true (cf.ins k) (df.ins k))):=Qd rfl;have HSL:=Qd (λ(h:Ca true (cf.ins k) (df.ins k)=true)=>Me true h);obtain⟨e0,e0'⟩:=hch.c wr hbel;obtain⟨e1,e1'⟩:=hch.l wr hbel;obtain⟨e2,e2'⟩:=hch.i wr hbel;obtain⟨e3,e3'⟩:=hch.d wr hbel;have f1:=hch.f1;have f2:=hch.f2;have E2:=Qd (λ(x:Later wr)=>Pp (cf.draws k) (df.draws k) A3 A4 c3 c4 x.w B (hch.ld.below (HKW.out x.w (hbel.trans (x.b.mono hsz)))) (hch.ld'.below (HKW.out x.w (hbel.trans (x.b.mono hsz)))) (by omega) (by omega));clear hch;have hk0:(0:Int)<=(k:Int):=by omega
       have hk8:(k:Int)<8:=by omega
       have HK:∀(x:Later wr) (o:Nat),x.w.cell? ⟨g,o,none⟩=wr.cell? ⟨g,o,none⟩:=λx o=>x.b.cell (p:=⟨g,o,none⟩) (show g<wr.heap.size by omega);have HK':∀(x:Later wr) (o:Nat),x.w.cell? ⟨g+1,o,none⟩=wr.cell? ⟨g+1,o,none⟩:=λx o=>x.b.cell (p:=⟨g+1,o,none⟩) (show g+1<wr.heap.size by omega);have HZZ:Hid (Ee cf df k=false->R=false):=Qd (λh=>by rw[HR2.out,HST.out,h];rfl);by_cases hcc:cf.clear k=df.clear k
       ·have q5:((cf.clear k:Int)!=(df.clear k:Int))=false:=by rw[hcc];simp
        by_cases hll:cf.label k=df.label k
        ·have q6:((cf.label k:Int)!=(df.label k:Int))=false:=by rw[hll];simp
         by_cases hn:(cf.ins k).length=(df.ins k).length
         ·have q7:(((cf.ins k).length:Int)!=((df.ins k).length:Int))=false:=by rw[hn];simp
          have hnl:(cf.ins k).length<=(df.ins k).length:=by omega
          have HN:=Qd hn;have HCB2:Hid (Ee cf df k=((cf.draws k==df.draws k)&&Ca true (cf.ins k) (df.ins k))):=Qd (by rw[HCB.out,hcc,hll];simp);clear HCB hcc hll hn;generalize(cf.draws k==df.draws k)=m2 at*;cases m2
          ·have HZ:=Qd (HZZ.out (by rw[HCB2.out];rfl))
           go_wp2_with fail
           refine Bb wr (by kernel_rfl) (by kernel_rfl) (Below.drew_self wr) ?_;repeat (go_big_quiet_step ((go_at_call 25;exact Later.call (E2.out _))))
           refine wpQuiet_nil ?_;rintro _ ⟨⟨w4,hb4⟩,rfl⟩;clear HK HK' e0 e0' e1 e1' e2 e2' e3 e3';go_wp2_with fail
           go_ret;exact⟨Aa (by rw[HZ.out]),by rw[<-HG.out];exact(hWb.trans (hbel.mono (by omega))).trans (hb4.mono (by omega))⟩
          have HCB3:Hid (Cb cf df 0=(Ca true (cf.ins k) (df.ins k)&&Cb cf df (k+1))):=Qd (by rw[HST.out,HCB2.out];rfl);go_wp2_with fail
          refine Bb wr (by kernel_rfl) (by kernel_rfl) (Below.drew_self wr) ?_;repeat (go_big_quiet_step ((go_at_call 25;exact Later.call (E2.out _))))
          refine wpQuiet_nil ?_;rintro _ ⟨⟨w4,hb4⟩,rfl⟩;clear HK HK' e0 e0' e1 e1' e2 e2' e3 e3' q5 q6 q7;have hb5:=hbel.trans (hb4.mono hsz);clear hb4;go_wp2_with fail
          go_loopw [6] (λj wr=>∃i:Nat,i<=(cf.ins k).length/\j= .int .i64 i/\Hid (Ca true ((cf.ins k).drop i) ((df.ins k).drop i)=Ca true (cf.ins k) (df.ins k))/\Below W.heap.size W wr) (λj _=>(cf.ins k).length-(intOf j).toNat)
          case atStart=>exact⟨0,Nat.zero_le _,rfl,Qd rfl,hb5⟩
          case round=>
           clear hb5 hbel hsz E2;obtain⟨w5,rfl⟩:∃x,x=wr:=⟨_,rfl⟩;obtain⟨i,hi,rfl,HTI,hb5⟩:=hrel;have hs5:=hb5.size;obtain⟨e4,e4'⟩:=HCH.out.i w5 hb5;by_cases hlt':i<(cf.ins k).length
           ·have hlt2:i<(df.ins k).length:=by omega
            obtain⟨b,off,S1,X1,xn,xc,Y1,yn,yc,rfl,hb,HA,g0,g1,g2⟩:=Vb HCH.out.li.2 HCH.out.li.1 (wr:=w5) (HKB.out w5 hb5) hlt';obtain⟨b',off',S2,X2,xn',xc',Y2,yn',yc',rfl,hb',HA',g0',g1',g2'⟩:=Vb HCH.out.li'.2 HCH.out.li'.1 (wr:=w5) (HKB.out w5 hb5) hlt2;have HSD:=Qd (Ef true hlt' hlt2);have E3:=Qd (λ(x:Later w5)=>Up _ (cf.ins k)[i] (df.ins k)[i] _ _ x.w B (Nat.lt_succ_self _) (HA.out.below (HKW.out x.w (hb5.trans (x.b.mono hs5)))) (HA'.out.below (HKW.out x.w (hb5.trans (x.b.mono hs5)))) (by have:=x.b.size;omega));have HK:∀(x:Later w5) (o:Nat),x.w.cell? ⟨g,o,none⟩=w5.cell? ⟨g,o,none⟩:=λx o=>x.b.cell (p:=⟨g,o,none⟩) (show g<w5.heap.size by omega);have HK':∀(x:Later w5) (o:Nat),x.w.cell? ⟨g+1,o,none⟩=w5.cell? ⟨g+1,o,none⟩:=λx o=>x.b.cell (p:=⟨g+1,o,none⟩) (show g+1<w5.heap.size by omega);have HKa:∀(x:Later w5) (o:Nat),x.w.cell? ⟨b,o,none⟩=w5.cell? ⟨b,o,none⟩:=λx o=>x.b.cell (p:=⟨b,o,none⟩) (show b<w5.heap.size by omega);have HKb:∀(x:Later w5) (o:Nat),x.w.cell? ⟨b',o,none⟩=w5.cell? ⟨b',o,none⟩:=λx o=>x.b.cell (p:=⟨b',o,none⟩) (show b'<w5.heap.size by omega);generalize same true (cf.ins k)[i] (df.ins k)[i]=SS at*;have hi0:(0:Int)<=(i:Int):=by omega
            have hi1:(i:Int)<((cf.ins k).length:Int):=by omega
            have hi2:(i:Int)<((df.ins k).length:Int):=by omega
            go_wp2_with fail
            refine Bb w5 (by kernel_rfl) (by kernel_rfl) (Below.drew_self w5) ?_;repeat (go_big_quiet_step ((go_at_call 26;exact Later.call (E3.out _))))
            refine wpQuiet_nil ?_;rintro _ ⟨⟨w6,hb6⟩,rfl⟩;clear HK HK' HKa HKb e4 e4' g0 g1 g2 g0' g1' g2';have hb7:=hb5.trans (hb6.mono hs5);cases SS
            ·have HZ:Hid (R=false):=Qd (by rw[HR2.out,HCB3.out,<-HTI.out,HSD.out];rfl)
             go_wp2_with fail
             go_ret;exact⟨Aa (by rw[HZ.out]),by rw[<-HG.out];exact hWb.trans (hb7.mono (by omega))⟩
            have HZ:Hid (Ca true ((cf.ins k).drop (i+1)) ((df.ins k).drop (i+1))=Ca true (cf.ins k) (df.ins k)):=Qd (by rw[<-HTI.out,HSD.out];rfl);go_wp2_with fail
            go_roundw
            case rel=>exact⟨i+1,by omega,by go_num,HZ,hb7⟩
            case measure=>simp[intOf];omega
           have HZ:Hid (Cb cf df (k+1)=Cb cf df 0):=Qd (by
            have e:i=(cf.ins k).length:=by omega
            have h:Ca true (cf.ins k) (df.ins k)=true:=by rw[<-HTI.out,e,List.drop_length,HN.out,List.drop_length,Ca]
            rw[HCB3.out,h];rfl)
           go_wp2_with fail
           go_roundw
           case rel=>exact⟨k+1,by omega,by go_num,HZ,hb5⟩
           case measure=>simp[intOf];omega
         have q7:(((cf.ins k).length:Int)!=((df.ins k).length:Int))=true:=by simp;omega
         have HZ:=Qd (HZZ.out (by
          rw[HCB.out];cases e:Ca true (cf.ins k) (df.ins k)
          ·simp
          exact absurd (HSL.out e) hn))
         clear hn;go_wp2_with fail
         refine Bb wr (by kernel_rfl) (by kernel_rfl) (Below.drew_self wr) ?_;repeat (go_big_quiet_step ((go_at_call 25;exact Later.call (E2.out _))))
         refine wpQuiet_nil ?_;rintro _ ⟨⟨w4,hb4⟩,rfl⟩;clear HK HK' e0 e0' e1 e1' e2 e2' e3 e3';go_wp2_with fail
         go_ret;exact⟨Aa (by rw[HZ.out]),by rw[<-HG.out];exact(hWb.trans (hbel.mono (by omega))).trans (hb4.mono (by omega))⟩
        have q6:((cf.label k:Int)!=(df.label k:Int))=true:=by simp;omega
        have HZ:=Qd (HZZ.out (by rw[HCB.out];simp[hll]));clear hll;go_wp2_with fail
        refine Bb wr (by kernel_rfl) (by kernel_rfl) (Below.drew_self wr) ?_;repeat (go_big_quiet_step ((go_at_call 25;exact Later.call (E2.out _))))
        refine wpQuiet_nil ?_;rintro _ ⟨⟨w4,hb4⟩,rfl⟩;clear HK HK' e0 e0' e1 e1' e2 e2' e3 e3';go_wp2_with fail
        go_ret;exact⟨Aa (by rw[HZ.out]),by rw[<-HG.out];exact(hWb.trans (hbel.mono (by omega))).trans (hb4.mono (by omega))⟩
       have q5:((cf.clear k:Int)!=(df.clear k:Int))=true:=by simp;omega
       have HZ:=Qd (HZZ.out (by rw[HCB.out];simp[hcc]));clear hcc;go_wp2_with fail
       refine Bb wr (by kernel_rfl) (by kernel_rfl) (Below.drew_self wr) ?_;repeat (go_big_quiet_step ((go_at_call 25;exact Later.call (E2.out _))))
       refine wpQuiet_nil ?_;rintro _ ⟨⟨w4,hb4⟩,rfl⟩;clear HK HK' e0 e0' e1 e1' e2 e2' e3 e3';go_wp2_with fail
       go_ret;exact⟨Aa (by rw[HZ.out]),by rw[<-HG.out];exact(hWb.trans (hbel.mono (by omega))).trans (hb4.mono (by omega))⟩
      obtain rfl:k=8:=by omega
      have HZ:Hid (R=true):=Qd (by rw[HR2.out,<-HT.out,Fy]);go_wp2_with fail
      go_ret;exact⟨Aa (by rw[HZ.out]),by rw[<-HG.out];exact hWb.trans (hbel.mono (by omega))⟩
    have q6:(cf.depth !=df.depth)=true:=by simpa using hd
    have HZ:=Qd (HBAD.out (.inr (.inr (.inr hd))));clear HBAD HGOOD hd;go_enter Tryz.func11,Tryz.ntmps11
    go_wp2_with fail
    go_ret;exact⟨Aa (by rw[HZ.out]),by rw[HW.out] at hWb;exact hWb⟩
   have q5:(cf.quota !=df.quota)=true:=by simpa using hq
   have HZ:=Qd (HBAD.out (.inr (.inr (.inl hq))));clear HBAD HGOOD hq;go_enter Tryz.func11,Tryz.ntmps11
   go_wp2_with fail
   go_ret;exact⟨Aa (by rw[HZ.out]),by rw[HW.out] at hWb;exact hWb⟩
  have q4:(cf.fuel !=df.fuel)=true:=by simpa using hf
  have HZ:=Qd (HBAD.out (.inr (.inl hf)));clear HBAD HGOOD hf;go_enter Tryz.func11,Tryz.ntmps11
  go_wp2_with fail
  go_ret;exact⟨Aa (by rw[HZ.out]),by rw[HW.out] at hWb;exact hWb⟩
 have q3:((cf.auth:Int)!=(df.auth:Int))=true:=by simp;omega
 have HZ:=Qd (HBAD.out (.inl ha));clear HBAD HGOOD ha;go_enter Tryz.func11,Tryz.ntmps11
 go_wp2_with fail
 go_ret;exact⟨Aa (by rw[HZ.out]),by rw[HW.out] at hWb;exact hWb⟩
end
section
open Go.RowKit Ar
structure Bma (x:Co.Con):Prop where
 len:x.ch.length=8
 wf:∀c∈x.ch,Co.ChWf c
 right:x.ch.all Co.rightCh=true
 parts:∀c∈x.ch,∀a∈c.ins,Dc a<=4000
theorem Zha {x:Co.Con}{c:Co.Ch}{a:Ba}(hc:c∈x.ch)(ha:a∈c.ins)(h:Sp.okA a=false):Co.okCon x=false:=by
 cases hk:Co.okCon x with
 |false=>rfl
 |true=>
  have h1:=List.all_eq_true.1 (List.all_eq_true.1 hk c hc) a ha;rw[h] at h1;cases h1
theorem Gfa (x:Co.Con)(C:Array Value)(w:World)(B:Nat)(hC:IsCfg w B (Fa x) C)(hB:B<=w.heap.size)(hx:Bma x):
 Calls Tryz.prog 15 #[.agg C] w λe w'=>e= .returned (.bool (Co.okCon x))/\Below w.heap.size w w':=by
 obtain⟨W,hW⟩:∃W,W=w.alloc (.cells C 29):=⟨_,rfl⟩;have hx0:TxR w C W:=by rw[hW];exact⟨Br.alloc Lr _,by simp,heap_alloc_new _ _⟩
 have HX:=Qd hx0;have HW:=Qd hW;have HC:=Qd hC;have HF:=Qd hx;clear hW hC hx hx0;obtain⟨g,hg⟩:∃g,g=w.heap.size:=⟨_,rfl⟩;have HG:=Qd hg;go_enter Tryz.func15,Tryz.ntmps15
 go_wp2_with fail
 rw[<-HW.out,<-HG.out];clear hg HW;go_loopw [3,4,5,6] (λi _ _ _ wr=>∃k:Nat,k<=8/\i= .int .i64 k/\Hid ((x.ch.take k).all Co.okCh=true)/\Hid (TxR w C wr)) (λi _ _ _ _=>8-(intOf i).toNat)
 case atStart=>exact⟨0,Nat.zero_le _,rfl,Qd rfl,HX⟩
 case round=>
  clear HX;obtain⟨wq,rfl⟩:∃x,x=wr:=⟨_,rfl⟩;obtain⟨k,hk,rfl,HK,HT⟩:=hrel;by_cases hlt:k<8
  ·have hkl:k<x.ch.length:=by rw[HF.out.len];exact hlt
   have hk0:(0:Int)<=(k:Int):=by omega
   have hk8:(k:Int)<8:=by omega
   obtain⟨c,hc⟩:∃c,c=x.ch[k]:=⟨_,rfl⟩;have HM:Hid (c∈x.ch):=Qd (by rw[hc];exact List.getElem_mem hkl);obtain⟨-,-,e3,-⟩:=Nk hkl;obtain⟨A,cp,us,i1,i2,i3,i4⟩:=HC.out.ins k hlt;rw[e3,<-hc] at i1 i2 i4;have HCELL:Hid (∀wx,Below wq.heap.size wq wx->wx.cell? ⟨g,8+k,none⟩=some (.slice A c.ins.length cp)):=Qd (λwx h=>by
    rw[HG.out];exact((HT.out.below h).cell _).trans i1)
   have HI:=Qd (And.intro i3 i4);have hn1:=i2.le (by omega);have hsw:w.heap.size<=wq.heap.size:=HT.out.bel.size;have HNX:Hid (c.ins.all Sp.okA=true->(x.ch.take (k+1)).all Co.okCh=true):=Qd (λh=>by
    rw[List.take_succ_eq_append_getElem hkl,List.all_append,HK.out,<-hc];simp[Co.okCh,h])
   clear hc e3 i1 i2 i3 i4;go_wp2_with fail
   go_loopw [4,5,6] (λi _ _ wx=>∃j:Nat,j<=c.ins.length/\i= .int .i64 j/\Hid ((c.ins.take j).all Sp.okA=true)/\Hid (Below wq.heap.size wq wx)) (λi _ _ _=>c.ins.length-(intOf i).toNat)
   case atStart=>exact⟨0,Nat.zero_le _,rfl,Qd rfl,Qd Br⟩
   case round=>
    obtain⟨wy,rfl⟩:∃y,y=wr:=⟨_,rfl⟩;obtain⟨j,hj,rfl,HJK,HJ⟩:=hrel;have hxy:=HT.out.below HJ.out;have hsy:=hxy.bel.size;have p8:=HCELL.out wy HJ.out;by_cases hlt':j<c.ins.length
    ·obtain⟨b',off',S',X,xn,xc,X',xn',xc',rfl,hb',HA,e0,e1,e2⟩:=Vb HI.out.2 HI.out.1 (wr:=wy) (λp hp=>hxy.bel.cell (by omega)) hlt'
     have hin:=List.getElem_mem hlt';have hra:Ka 8 c.ins[j]=true:=List.all_eq_true.1 (List.all_eq_true.1 HF.out.right c HM.out) _ hin;have hwa:=(HF.out.wf c HM.out).ins _ hin;have hpa:=HF.out.parts c HM.out _ hin;have hal:=Sp.text_len hra hwa hpa;have AR1:=Qd (Od _ c.ins[j] _ 8 wy B (Nat.lt_succ_self _) (HA.out.below (hxy.bel.mono hB)) (by omega) hra hwa hal);have PA:=Qd (λwx=>Jv (Sp.arrT c.ins[j]) wx hal (λb hb _=>Sp.readD_len' hra hwa hpa hb));have hpt:=Sp.parse_bothT hra hwa;have HNO:Hid (Sp.okA c.ins[j]=false->Co.okCon x=false):=Qd (λh=>Zha HM.out hin h);have HYE:Hid (Sp.okA c.ins[j]=true->(c.ins.take (j+1)).all Sp.okA=true):=Qd (λh=>by
      rw[List.take_succ_eq_append_getElem hlt',List.all_append,HJK.out];simp[h])
     rw[hpt] at PA;have hi0:(0:Int)<=(j:Int):=by omega
     have hi1:(j:Int)<(c.ins.length:Int):=by omega
     have HXY:=Qd hxy.bel;clear HA hin hxy hra hwa hpa hpt hal;generalize Sp.arrT c.ins[j]=t at*;generalize Sp.okA c.ins[j]=ok at*;go_wp2_with fail
     refine AR1.out.mono ?_;rintro e w2 ⟨rfl,hb2⟩;have P1:=Qd (PA.out w2);have HB2:=Qd (HJ.out.trans (hb2.mono HJ.out.size));have HBX:=Qd (HXY.out.trans (hb2.mono HXY.out.size));have HS2:=Qd hb2.size;clear p8 e0 e1 e2 hb2 AR1 PA;cases ok;all_goals
      simp only[if_true,Bool.false_eq_true,if_false] at P1;go_upto_region 8 with(go_at_call 41;refine P1.out.mono ?_;rintro e W4 ⟨vs,rfl,hA4,hb4⟩;obtain⟨S1,A1,m1,d1,A1',m1',d1',rfl⟩:=hA4.form;replace hA4:=Qd hA4;replace hb4:=Qd hb4)
      refine Gc ?_;intro W5 hW5;have hb45:Below W4.heap.size W4 W5:=by rw[hW5];exact Br.alloc Lr _
      have hb25:=hb4.out.trans (hb45.mono hb4.out.size);have HB5:=Qd (HB2.out.trans (hb25.mono HB2.out.size));have HBX5:=Qd (HBX.out.trans (hb25.mono HBX.out.size));clear hW5 hb45 hb25 hb4 hA4 P1;go_wp2_with fail
     ·go_ret
      exact⟨by rw[HNO.out (by first|rfl |trivial)];rfl,HBX5.out⟩
     go_roundw
     case rel=>exact⟨j+1,by omega,by go_num,Qd (HYE.out (by first|rfl |trivial)),HB5⟩
     case measure=>simp[intOf];omega
    obtain rfl:j=c.ins.length:=by omega
    have hJK:=HJK.out;rw[List.take_length] at hJK;have HN:=Qd (HNX.out hJK);have HTN:=Qd hxy;clear hJK hxy;go_wp2_with fail
    go_roundw
    case rel=>exact⟨k+1,by omega,by go_num,HN,HTN⟩
    case measure=>simp[intOf];omega
  obtain rfl:k=8:=by omega
  have hKO:Co.okCon x=true:=by
   have:=HK.out;rwa[List.take_of_length_le (by rw[HF.out.len];exact Lr)] at this
  have HKO:=Qd hKO;clear hKO;go_wp2_with fail
  go_ret;exact⟨by rw[HKO.out];rfl,HT.out.bel⟩
end
end Go.Proofs.YtmiccalfamepdaaGreatDoor
