/- Texts of this proof, joined. -/
import Derived.Test.YtmiccalfamepdaaGreatDoorM12
set_option linter.all false
set_option maxHeartbeats 8000000
set_option maxRecDepth 100000
namespace Go.Proofs.YtmiccalfamepdaaGreatDoor
open Go.RowKit
theorem J7 {l t:Nat}(h:t<64)(hb:l.testBit t=false):Lab.pieces l t=Lab.pieces l (t+1):=by
 rw[Lab.pieces,Lab.runs,dif_pos h,if_neg (by simp[hb])];rfl
theorem Ak {l t:Nat}(h:t<64)(hb:l.testBit t=true):Lab.pieces l t=Lab.piece (t,Lab.last l t)++Lab.pieces l (Lab.last l t+1):=by
 rw[Lab.pieces,Lab.runs,dif_pos h,if_pos hb,List.flatMap_cons];rfl
theorem Bba {l t:Nat}(h:64<=t):Lab.pieces l t=[]:=by
 rw[Lab.pieces,Lab.runs,dif_neg (by omega)];rfl
def TextAt (l t:Nat)(J:List UInt8):Prop:=∃ps:List (List UInt8),J=Lib.join ps [44]/\ps++Lab.pieces l t=Lab.pieces l 0
theorem TextAt.len {l t:Nat}{J:List UInt8}(hl:l<18446744073709551616)(h:TextAt l t J):J.length<=384:=by
 obtain⟨ps,rfl,h⟩:=h;have hp:=Lab.pieces_len hl 0;have hc:=Lab.pieces_count hl 64 0 (by omega);have:=Lab.join_len_le ps (λx hx=>(hp x (by rw[<-h];exact List.mem_append_left _ hx)).2);have h2:ps.length<=(Lab.pieces l 0).length:=by rw[<-h];simp
 omega
def Ab (J x:List UInt8):List UInt8:=if J=[] then x else J++44::x
theorem Mj {ps:List (List UInt8)}(h:∀x∈ps,1<=x.length)(x:List UInt8):Lib.join (ps++[x]) [44]=Ab (Lib.join ps [44]) x:=by
 rw[Lab.join_snoc,Ab];have:=Lab.join_eq_nil h;by_cases e:ps=[]
 ·subst e;simp[Lib.join_nil]
 rw[if_neg e,if_neg (λh=>e (this.1 h))];rfl
theorem TextAt.skip {l t:Nat}{J:List UInt8}(h:TextAt l t J)(ht:t<64)(hb:l.testBit t=false):TextAt l (t+1) J:=by
 obtain⟨ps,e,h⟩:=h;exact⟨ps,e,by rw[<-J7 ht hb];exact h⟩
theorem TextAt.one {l t:Nat}{J:List UInt8}(hl:l<18446744073709551616)(h:TextAt l t J)(ht:t<64)(hb:l.testBit t=true)(hk:Lab.last l t=t):TextAt l (t+1) (Ab J (Lib.decDigits t)):=by
 obtain⟨ps,rfl,h⟩:=h;have hp:=Lab.pieces_len hl 0;refine⟨ps++[Lib.decDigits t],(Mj (λx hx=>(hp x (by rw[<-h];exact List.mem_append_left _ hx)).1) _).symm,?_⟩;rw[Ak ht hb,hk] at h;rw[<-h];simp[Lab.piece]
theorem TextAt.two {l t:Nat}{J:List UInt8}(hl:l<18446744073709551616)(h:TextAt l t J)(ht:t<64)(hb:l.testBit t=true)(hk:Lab.last l t=t+1):TextAt l (t+1+1) (Ab J (Lib.decDigits t)++44::Lib.decDigits (t+1)):=by
 obtain⟨ps,rfl,h⟩:=h;have hp:=Lab.pieces_len hl 0;have h1:∀x∈ps,1<=x.length:=λx hx=>(hp x (by rw[<-h];exact List.mem_append_left _ hx)).1;have h2:∀x∈ps++[Lib.decDigits t],1<=x.length:=λx hx=>by
  rcases List.mem_append.1 hx with hx |hx
  ·exact h1 x hx
  simp at hx;subst hx;exact(Lab.dec_len ht).1
 refine⟨ps++[Lib.decDigits t]++[Lib.decDigits (t+1)],?_,?_⟩
 ·rw[Mj h2,Mj h1]
  have hne:Ab (Lib.join ps [44]) (Lib.decDigits t)≠[]:=by
   unfold Ab
   split
   ·intro e;have:=(Lab.dec_len ht).1;rw[e] at this;simp at this
   simp
  generalize Ab (Lib.join ps [44]) (Lib.decDigits t)=K at hne⊢;rw[Ab,if_neg hne]
 rw[Ak ht hb,hk] at h;rw[<-h];simp[Lab.piece]
theorem TextAt.more {l t:Nat}{J:List UInt8}(hl:l<18446744073709551616)(h:TextAt l t J)(ht:t<64)(hb:l.testBit t=true)(hk:t+1<Lab.last l t):TextAt l (Lab.last l t+1) (Ab J (Lib.decDigits t)++45::Lib.decDigits (Lab.last l t)):=by
 obtain⟨ps,rfl,h⟩:=h;have hp:=Lab.pieces_len hl 0;refine⟨ps++[Lib.decDigits t++45::Lib.decDigits (Lab.last l t)],?_,?_⟩
 ·rw[Mj (λx hx=>(hp x (by rw[<-h];exact List.mem_append_left _ hx)).1),Ab,Ab]
  split<;>simp
 rw[Ak ht hb] at h;rw[<-h];have e:Lab.piece (t,Lab.last l t)=[Lib.decDigits t++45::Lib.decDigits (Lab.last l t)]:=by
  unfold Lab.piece;rw[if_neg (by simp;omega),if_neg (by simp;omega)]
 rw[e];simp
theorem TextAt.done {l:Nat}{J:List UInt8}(h:TextAt l 64 J):123::(J++[125])=Lab.text l:=by
 obtain⟨ps,rfl,h⟩:=h;rw[Bba (by omega),List.append_nil] at h;rw[h];rfl
theorem Dea {l t k:Nat}(hl:l<18446744073709551616)(hb:l.testBit t=true)(h1:t<=k)(h2:k<=Lab.last l t):(l.testBit (k+1)=true↔k<Lab.last l t):=by
 constructor
 ·intro h
  rcases Nat.lt_or_ge k (Lab.last l t) with h3 |h3
  ·exact h3
  have:k=Lab.last l t:=by omega
  subst this;rw[Lab.last_stop hl] at h;cases h
 intro h;exact Lab.last_bits hb (k+1) (by omega) (by omega)
theorem Yc (l:Nat)(w:World)(hl:l<18446744073709551616):
 Calls Tryz.prog 39 #[.int .u64 (l:Int)] w λe w'=>e= .returned (Za (Lab.text l))/\w=w':=by
 go_enter Tryz.func39,Tryz.ntmps39
 go_wp2_with fail
 go_loop [3,4,5] (λsv tv kv=>∃(t:Nat) (J:List UInt8),t<=64/\tv= .int .i64 (t:Int)/\sv= .string ⟨J.toArray⟩/\J.length<=384/\Hid (TextAt l t J)) (λ_ tv _=>64-(intOf tv).toNat)
 case atStart=>exact⟨0,[],by omega,rfl,rfl,by simp,Qd ⟨[],rfl,rfl⟩⟩
 case round=>
  obtain⟨t,J,ht,rfl,rfl,hJ,H⟩:=hrel;by_cases h64:t<64
  ·cases hb:l.testBit t
   ·have HA:=Qd (Oo l t w hl (by omega))
    have HB:=Qd hb;rw[hb] at HA;clear hb;go_wp2_with (go_at_call 66;refine HA.out.mono ?_;rintro e w' ⟨rfl,rfl⟩)
    exact⟨⟨t+1,J,by omega,by go_num,rfl,hJ,Qd (H.out.skip h64 HB.out)⟩,by simp[intOf];omega⟩
   have HA:=Qd (Oo l t w hl (by omega));have HB:=Qd hb;rw[hb] at HA;have hge:=Lab.last_ge l t;have hlt:=Lab.last_lt hl hb;clear hb;go_wp2_with (go_at_call 66;refine HA.out.mono ?_;rintro e w' ⟨rfl,rfl⟩)
   go_loop [5] (λkv=>∃k:Nat,t<=k/\k<=Lab.last l t/\kv= .int .i64 (k:Int)) (λkv=>64-(intOf kv).toNat)
   case atStart=>exact⟨t,Lr,hge,rfl⟩
   case round=>
    obtain⟨k,hk1,hk2,rfl⟩:=hrel;have HN:=Qd (Dea hl HB.out hk1 hk2);have HK:=Qd (Oo l (k+1) w hl (by omega));rw[show((k+1:Nat):Int)=(k:Int)+1 by omega] at HK;by_cases hk:k<Lab.last l t
    ·rw[HN.out.2 hk] at HK
     have h63:k<63:=by omega
     go_wp2_with (go_at_call 66;refine HK.out.mono ?_;rintro e w' ⟨rfl,rfl⟩)
     go_round
     case rel=>exact⟨k+1,by omega,by omega,by go_num⟩
     case measure=>simp[intOf];omega
    have hke:k=Lab.last l t:=by omega
    have hf:l.testBit (k+1)=false:=by
     cases e:l.testBit (k+1)
     ·rfl
     exact absurd (HN.out.1 e) hk
    rw[hf] at HK;have HKE:=Qd hke;clear hf hke hk HN;have HT1:Hid (k=t->TextAt l (t+1) (Ab J (Lib.decDigits t))):=Qd (λh=>H.out.one hl h64 HB.out (by rw[<-HKE.out,h]));have HT2:Hid (k=t+1->TextAt l (t+1+1) (Ab J (Lib.decDigits t)++44::Lib.decDigits (t+1))):=Qd (λh=>H.out.two hl h64 HB.out (by rw[<-HKE.out,h]));have HT3:Hid (t+1<k->TextAt l (k+1) (Ab J (Lib.decDigits t)++45::Lib.decDigits k)):=Qd (λh=>by have:=H.out.more hl h64 HB.out (by rw[<-HKE.out];exact h);rw[<-HKE.out] at this;exact this);have DT:=Qd (Aq t w (by omega));have DK:=Qd (Aq k w (by omega));rw[Za] at DT DK;have hdt:=(Lab.dec_len h64).2;have hdk:=(Lab.dec_len (show k<64 by omega)).2;generalize Lib.decDigits t=dt at*;have h3:k=t\/k=t+1\/t+1<k:=by omega
    have hj2:∀b J',J=b::J'->J'.length<=383:=λb J' e=>by subst e;rw[List.length_cons] at hJ;omega
    rcases h3 with h3 |h3 |h3
    ·have HX:Hid (TextAt l (k+1) (Ab J dt)):=Qd (by rw[h3];exact HT1.out h3)
     have hkt:k<=t:=by omega
     have HL:=Qd (HX.out.len hl);clear h3 HT1 HT2 HT3 DK;rcases J with _ |⟨b,J'⟩
     all_goals
      try (have hj3:=hj2 _ _ rfl)
      clear hj2;by_cases h63:k<63
      all_goals
       go_wp2_with (first|(go_at_call 66;refine HK.out.mono ?_;rintro e w' ⟨rfl,rfl⟩) |(go_at_call_of 64 (Value.int .i64 (t:Int));refine DT.out.mono ?_;rintro e w' ⟨rfl,rfl⟩) |(go_at_call_of 64 (Value.int .i64 (k:Int));refine DK.out.mono ?_;rintro e w' ⟨rfl,rfl⟩))
       exact⟨⟨k+1,_,by omega,by go_num,congrArg Value.string (by apply ByteArray.ext;simp[Ab]),HL.out,HX⟩,by simp[intOf];omega⟩
    ·have HX:Hid (TextAt l (k+1) (Ab J dt++44::Lib.decDigits k)):=Qd (by rw[h3];exact HT2.out h3)
     have hkt:k<=t+1:=by omega
     have hkt2:t+1<=k:=by omega
     have HL:=Qd (HX.out.len hl);generalize Lib.decDigits k=dk at*;clear h3 HT1 HT2 HT3;rcases J with _ |⟨b,J'⟩
     all_goals
      try (have hj3:=hj2 _ _ rfl)
      clear hj2;by_cases h63:k<63
      all_goals
       go_wp2_with (first|(go_at_call 66;refine HK.out.mono ?_;rintro e w' ⟨rfl,rfl⟩) |(go_at_call_of 64 (Value.int .i64 (t:Int));refine DT.out.mono ?_;rintro e w' ⟨rfl,rfl⟩) |(go_at_call_of 64 (Value.int .i64 (k:Int));refine DK.out.mono ?_;rintro e w' ⟨rfl,rfl⟩))
       exact⟨⟨k+1,_,by omega,by go_num,congrArg Value.string (by apply ByteArray.ext;simp[Ab]),HL.out,HX⟩,by simp[intOf];omega⟩
    have HX:Hid (TextAt l (k+1) (Ab J dt++45::Lib.decDigits k)):=Qd (HT3.out h3);have hkt2:t+1<k:=h3;have HL:=Qd (HX.out.len hl);generalize Lib.decDigits k=dk at*;clear h3 HT1 HT2 HT3;rcases J with _ |⟨b,J'⟩
    all_goals
     try (have hj3:=hj2 _ _ rfl)
     clear hj2;by_cases h63:k<63
     all_goals
      go_wp2_with (first|(go_at_call 66;refine HK.out.mono ?_;rintro e w' ⟨rfl,rfl⟩) |(go_at_call_of 64 (Value.int .i64 (t:Int));refine DT.out.mono ?_;rintro e w' ⟨rfl,rfl⟩) |(go_at_call_of 64 (Value.int .i64 (k:Int));refine DK.out.mono ?_;rintro e w' ⟨rfl,rfl⟩))
      exact⟨⟨k+1,_,by omega,by go_num,congrArg Value.string (by apply ByteArray.ext;simp[Ab]),HL.out,HX⟩,by simp[intOf];omega⟩
  have ht64:t=64:=by omega
  subst ht64;have HD:=Qd H.out.done;have hno1:(9223372036854775807<1+J.length)=False:=by simp;omega
  have hno2:(9223372036854775807<1+J.length+1)=False:=by simp;omega
  go_wp2_with fail
  go_ret;refine⟨?_,rfl⟩;rw[<-HD.out];exact congrArg (λs=>Ending.returned (.string s)) (Ct J)
theorem Fha (s:List UInt8)(n:Nat)(h:n<=s.length):(⟨s.toArray⟩:ByteArray).extract 0 n=⟨(s.take n).toArray⟩:=by
 apply ByteArray.ext
 simp
theorem Gha (s:List UInt8)(n:Nat):(⟨s.toArray⟩:ByteArray).extract n s.length=⟨(s.drop n).toArray⟩:=by
 apply ByteArray.ext
 simp[List.take_of_length_le]
theorem L7 (s:List UInt8)(c:UInt8)(w:World)(hs:s.length<=100000):
 Calls Tryz.prog 119 #[.string ⟨s.toArray⟩,.string ⟨#[c]⟩] w λe w'=>e= .returned (.tuple #[Za (Lab.cutAt c s).1,Za (Lab.cutAt c s).2.1,.bool (Lab.cutAt c s).2.2])/\∃n,w'=w.drewN n:=by
 have IX:=Qd (Tryz.stringslite_Index_one ⟨s.toArray⟩ c w);rw[show(⟨s.toArray⟩:ByteArray).data.toList=s from rfl] at IX;rcases Lab.index_cut c s with⟨h1,h2⟩ |⟨n,h1,h2,h3⟩
 ·have H2:=Qd h2
  rw[h1] at IX;clear h1 h2;go_enter Tryz.func119,Tryz.ntmps119
  go_wp2_with fail
  refine IX.out.mono ?_;rintro e w' ⟨rfl,hw⟩;obtain rfl:w=w':=hw.symm;go_wp2_with fail
  go_ret3
  exact⟨by rw[H2.out];rfl,0,rfl⟩
 have H3:=Qd h3;rw[h1] at IX;clear h1 h3;have ht:=Qd (Fha s n (by omega));have hd:=Qd (Gha s (n+1));have hw1:IntKind.i64.wrap ((n:Int)+1)=(n:Int)+1:=IntWalk.i64_in _ (by omega);have hp1:(0:Int)<=(n:Int)+1:=by omega
 have ht1:((n:Int)+1).toNat=n+1:=by omega
 go_enter Tryz.func119,Tryz.ntmps119
 go_wp2_with fail
 refine IX.out.mono ?_;rintro e w' ⟨rfl,hw⟩;obtain rfl:w=w':=hw.symm;go_wp2_with fail
 go_quiet (fail)
 go_wp2_with fail
 go_ret3
 refine⟨?_,_,rfl⟩;rw[H3.out];show Ending.returned (.tuple #[.string ((⟨s.toArray⟩:ByteArray).extract 0 n),.string ((⟨s.toArray⟩:ByteArray).extract (n+1) s.length),.bool true])=_;rw[ht.out,hd.out];rfl
theorem Ev (s:List UInt8)(c:UInt8)(w:World)(hs:s.length<=100000):
 Calls Tryz.prog 91 #[.string ⟨s.toArray⟩,.string ⟨#[c]⟩] w λe w'=>e= .returned (.tuple #[Za (Lab.cutAt c s).1,Za (Lab.cutAt c s).2.1,.bool (Lab.cutAt c s).2.2])/\∃n,w'=w.drewN n:=by
 have LC:=Qd (L7 s c w hs);go_enter Tryz.func91,Tryz.ntmps91
 go_wp2_with fail
 refine LC.out.mono ?_;rintro e w' ⟨rfl,n,rfl⟩;go_wp2_with fail
 go_ret3
 exact⟨rfl,n,rfl⟩
theorem numOf_snoc (s:List UInt8)(b:UInt8):Lab.numOf (s++[b])=10*Lab.numOf s+(b.toNat-48):=by simp[Lab.numOf]
theorem It:∀(s:List UInt8) (n:Nat),s.all Lab.digit=true->s.foldl (λn b=>10*n+(b.toNat-48)) n+1<=(n+1)*10^s.length
 | [],n,_=>by simp
 |b::r,n,h=>by
  rw[List.all_cons,Bool.and_eq_true] at h;have h2:=h.1;unfold Lab.digit at h2;rw[Bool.and_eq_true,decide_eq_true_iff,decide_eq_true_iff] at h2;have ih:=It r (10*n+(b.toNat-48)) h.2;rw[List.foldl_cons,List.length_cons,Nat.pow_succ];have h3:(10*n+(b.toNat-48)+1)*10^r.length<=(n+1)*10*10^r.length:=Nat.mul_le_mul_right _ (by omega);rw[Nat.mul_comm (10^r.length) 10,<-Nat.mul_assoc];omega
theorem M7 (s:List UInt8)(h:s.all Lab.digit=true):Lab.numOf s<10^s.length:=by
 have:=It s 0 h;rw[Nat.zero_add,Nat.one_mul] at this;exact this
def TagTold (s:List UInt8)(w:World)(e:Ending)(w':World):Prop:=w=w'/\∃v:Int,e= .returned (.tuple #[.int .i64 v,.bool (Lab.tagP s).isSome])/\∀n,Lab.tagP s=some n->v=(n:Int)
theorem TagTold.none_ {s:List UInt8}(w:World)(v:Int)(h:Lab.tagP s=none):TagTold s w (.returned (.tuple #[.int .i64 v,.bool false])) w:=⟨rfl,v,by rw[h];rfl,λn hn=>by rw[h] at hn;cases hn⟩
theorem N7 {s:List UInt8}(h1:s≠[])(h2:s.length<=2)(h3:s.all Lab.digit=true):Lab.tagP s=if Lab.numOf s<64 then some (Lab.numOf s) else none:=by
 unfold Lab.tagP;rw[if_neg];rintro(e |e |e)
 ·exact h1 e
 ·omega
 rw[h3] at e;cases e
theorem Cba {S:List UInt8}{k:Nat}(hk:k<S.length)(h1:48<=S[k].toNat)(h2:S[k].toNat<=57)(ha:(S.take k).all Lab.digit=true):Lab.numOf (S.take (k+1))=10*Lab.numOf (S.take k)+(S[k].toNat-48)/\(S.take (k+1)).all Lab.digit=true:=by
 rw[List.take_succ_eq_append_getElem hk,numOf_snoc,List.all_append,ha];exact⟨rfl,by simp[Lab.digit,h1,h2]⟩
theorem Dba {S:List UInt8}{k:Nat}(hk:k<S.length)(h:S[k].toNat<48\/57<S[k].toNat):S.all Lab.digit=false:=by
 cases e:S.all Lab.digit
 ·rfl
 have:=List.all_eq_true.1 e S[k] (List.getElem_mem hk);unfold Lab.digit at this;rw[Bool.and_eq_true,decide_eq_true_iff,decide_eq_true_iff] at this;omega
theorem Eea {S:List UInt8}(h:S.all Lab.digit=false):Lab.tagP S=none:=by unfold Lab.tagP;rw[if_pos (.inr (.inr h))]
theorem R8 (s:List UInt8)(w:World)(hs:s.length<=100000):
 Calls Tryz.prog 124 #[.string ⟨s.toArray⟩] w (TagTold s w):=by
 by_cases h2:2<s.length
 ·have HN:Hid (Lab.tagP s=none):=Qd (by unfold Lab.tagP;rw[if_pos (.inr (.inl h2))])
  have hne:s.isEmpty=false:=by cases s<;>simp at h2⊢
  go_enter Tryz.func124,Tryz.ntmps124
  go_wp2_with fail
  go_ret2
  exact TagTold.none_ w 0 HN.out
 cases s with
 |nil=>
  go_enter Tryz.func124,Tryz.ntmps124
  go_wp2_with fail
  go_ret2
  exact TagTold.none_ w 0 (by simp[Lab.tagP])
 |cons b0 r0=>
  generalize hS:b0::r0=S at*;have hne:S≠[]:=by rw[<-hS];simp
  have hemp:S.isEmpty=false:=by rw[<-hS];rfl
  have hl2:S.length<=2:=by omega
  clear hS h2;have HNE:=Qd hne;clear hne;go_enter Tryz.func124,Tryz.ntmps124
  go_wp2_with fail
  go_loop [4,15] (λov iv=>∃k n:Nat,k<=S.length/\n<100/\iv= .int .i64 (k:Int)/\ov= .int .i64 (n:Int)/\Hid (n=Lab.numOf (S.take k)/\(S.take k).all Lab.digit=true)) (λ_ iv=>S.length-(intOf iv).toNat)
  case atStart=>exact⟨0,0,Nat.zero_le _,by omega,rfl,rfl,Qd ⟨rfl,rfl⟩⟩
  case round=>
   obtain⟨k,n,hk,hn,rfl,rfl,H⟩:=hrel;by_cases hlt:k<S.length
   ·obtain⟨x,hx⟩:∃x,x=S[k].toNat:=⟨_,rfl⟩
    have hg:((⟨S.toArray⟩:ByteArray)[k]'(show k<(⟨S.toArray⟩:ByteArray).size from hlt)).toNat=x:=hx.symm;have HX:=Qd hx;clear hx;by_cases hd:48<=x/\x<=57
    ·obtain⟨hd1,hd2⟩:=hd
     have ST:=Qd (Cba hlt (by rw[<-HX.out];exact hd1) (by rw[<-HX.out];exact hd2) H.out.2);have hnb:10*n+(x-48)<100:=by
      have h1:=M7 _ ST.out.2;rw[ST.out.1,<-H.out.1,<-HX.out] at h1;have h2:(S.take (k+1)).length<=2:=by rw[List.length_take];omega
      exact Nat.lt_of_lt_of_le h1 (Nat.le_trans (Nat.pow_le_pow_right (by omega) h2) (by decide))
     go_wp2_with fail
     refine⟨⟨k+1,10*n+(x-48),by omega,hnb,by go_num,congrArg (Value.int .i64) (by omega),Qd ⟨?_,ST.out.2⟩⟩,by simp[intOf];omega⟩;rw[ST.out.1,<-H.out.1,<-HX.out]
    have HF:=Qd (Eea (Dba hlt (by rw[<-HX.out];omega)));have hd3:x<48\/57<x:=by omega
    clear hd;rcases hd3 with hd3 |hd3
    ·go_wp2_with fail
     go_ret2
     exact TagTold.none_ w 0 HF.out
    have h48:48<=x:=by omega
    go_wp2_with fail
    go_ret2
    exact TagTold.none_ w 0 HF.out
   have hkl:k=S.length:=by omega
   have HT:Hid (n=Lab.numOf S/\S.all Lab.digit=true):=Qd (by
    have h:=H.out;rw[hkl,List.take_length] at h;exact h)
   have HP:=Qd (N7 HNE.out hl2 HT.out.2);rw[<-HT.out.1] at HP;clear hkl;by_cases h64:n<64
   ·have hdec:decide ((n:Int)<64)=true:=by simp;omega
    go_wp2_with fail
    go_ret2
    refine⟨rfl,n,?_,λm hm=>?_⟩
    ·rw[HP.out,if_pos h64];rfl
    rw[HP.out,if_pos h64] at hm;injection hm with hm;rw[hm]
   have hdec:decide ((n:Int)<64)=false:=by simp;omega
   go_wp2_with fail
   go_ret2
   refine⟨rfl,n,?_,λm hm=>?_⟩
   ·rw[HP.out,if_neg h64];rfl
   rw[HP.out,if_neg h64] at hm;cases hm
theorem Hha {s:List UInt8}(h:Lab.tagP (Lab.cutAt 45 s).1=none):Lab.runP s=none:=by unfold Lab.runP;rw[h]
theorem Oja {s:List UInt8}{a:Nat}(h:Lab.tagP (Lab.cutAt 45 s).1=some a)(h2:(Lab.cutAt 45 s).2.2=false):Lab.runP s=some (Lab.bitsFrom a a):=by unfold Lab.runP;rw[h,h2];rfl
theorem Pja {s:List UInt8}{a b:Nat}(h:Lab.tagP (Lab.cutAt 45 s).1=some a)(h2:(Lab.cutAt 45 s).2.2=true)(h3:Lab.tagP (Lab.cutAt 45 s).2.1=some b):Lab.runP s=some (Lab.bitsFrom a b):=by unfold Lab.runP;rw[h,h2,h3];rfl
theorem Qja {s:List UInt8}{a:Nat}(h:Lab.tagP (Lab.cutAt 45 s).1=some a)(h2:(Lab.cutAt 45 s).2.2=true)(h3:Lab.tagP (Lab.cutAt 45 s).2.1=none):Lab.runP s=none:=by unfold Lab.runP;rw[h,h2,h3];rfl
def RunTold (s:List UInt8)(w:World)(e:Ending)(w':World):Prop:=(∃n,w'=w.drewN n)/\e= .returned (.tuple #[.int .u64 (((Lab.runP s).getD 0:Nat):Int),.bool (Lab.runP s).isSome])
theorem RunTold.no {s:List UInt8}(w:World)(n:Nat)(h:Lab.runP s=none):RunTold s w (.returned (.tuple #[.int .u64 0,.bool false])) (w.drewN n):=⟨⟨n,rfl⟩,by rw[h];rfl⟩
theorem RunTold.yes {s:List UInt8}(w:World)(n l:Nat)(h:Lab.runP s=some l):RunTold s w (.returned (.tuple #[.int .u64 (l:Int),.bool true])) (w.drewN n):=⟨⟨n,rfl⟩,by rw[h];rfl⟩
theorem Bk (a d:Nat):Lab.bitsTo a (d+1)=Lab.bitsTo a d||| 2^(a+d):=rfl
theorem Rja (s:List UInt8)(w:World)(hs:s.length<=1000):Calls Tryz.prog 95 #[.string ⟨s.toArray⟩] w (RunTold s w):=by
 have hcl:=Lab.cutAt_len 45 s;have CU:=Qd (Ev s 45 w (by omega));rw[Za,Za] at CU;have TH:=Qd (λn=>R8 (Lab.cutAt 45 s).1 (w.drewN n) (by omega));have TT:=Qd (λn=>R8 (Lab.cutAt 45 s).2.1 (w.drewN n) (by omega));clear hcl;cases h1:Lab.tagP (Lab.cutAt 45 s).1 with
 |none=>
  have HN:=Qd (Hha h1);have H1:=Qd h1;clear h1;go_enter Tryz.func95,Tryz.ntmps95
  go_wp2_with fail
  refine CU.out.mono ?_;rintro e w' ⟨rfl,n,rfl⟩;go_wp2_with fail
  refine(TH.out n).mono ?_;rintro e w' ⟨rfl,v,rfl,hv⟩;rw[H1.out,show(none:Option Nat).isSome=false from rfl];clear hv;go_wp2_with fail
  go_ret2
  exact RunTold.no w n HN.out
 |some a=>
  have ha:=Lab.tagP_lt h1;have H1:=Qd h1;cases h2:(Lab.cutAt 45 s).2.2 with
  |false=>
   have HN:=Qd (Oja h1 h2);rw[h2] at CU;clear h1 h2;go_enter Tryz.func95,Tryz.ntmps95
   go_wp2_with fail
   refine CU.out.mono ?_;rintro e w' ⟨rfl,n,rfl⟩;go_wp2_with fail
   refine(TH.out n).mono ?_;rintro e w' ⟨rfl,v,rfl,hv⟩;obtain rfl:=hv a H1.out;rw[H1.out,show(some a).isSome=true from rfl];clear hv;go_wp2_with fail
   go_loop [10,11] (λov tv=>∃t n:Nat,a<=t/\t<=64/\n<18446744073709551616/\tv= .int .i64 (t:Int)/\ov= .int .u64 (n:Int)/\Hid (n=Lab.bitsTo a (t-a)/\(t<=a+1\/t=a))) (λ_ tv=>128-(intOf tv).toNat)
   case atStart=>exact⟨a,0,Lr,by omega,by omega,rfl,rfl,Qd ⟨by rw[Nat.sub_self];rfl,.inr rfl⟩⟩
   case round=>
    obtain⟨t,m,ht1,ht2,hm,rfl,rfl,H⟩:=hrel;by_cases hle:t<=a
    ·have ht3:t<64:=by omega
     have HS:Hid (m||| 2^t=Lab.bitsTo a (t+1-a)):=Qd (by
      rw[H.out.1,show t+1-a=(t-a)+1 by omega,Bk,show a+(t-a)=t by omega])
     have hml:m||| 2^t<18446744073709551616:=Nat.or_lt_two_pow (n:=64) hm (Lab.bit_lt ht3)
     have HO:=Qd (Gda m (t:Int) hm (by omega));rw[Int.toNat_natCast] at HO;go_wp2_with fail
     refine⟨⟨t+1,m||| 2^t,by omega,by omega,hml,by go_num,congrArg (Value.int .u64) HO.out,Qd ⟨HS.out,.inl (by omega)⟩⟩,by simp[intOf];omega⟩
    have HE:Hid (m=Lab.bitsFrom a a):=Qd (by
     rw[H.out.1,Lab.bitsFrom];rcases H.out.2 with h |h
     ·rw[show t-a=a+1-a by omega]
     rw[show t-a=0 by omega,show a+1-a=0 by omega])
    go_wp2_with fail
    go_ret2
    have:=RunTold.yes w n (Lab.bitsFrom a a) HN.out;rw[<-HE.out] at this;exact this
  |true=>
   rw[h2] at CU;cases h3:Lab.tagP (Lab.cutAt 45 s).2.1 with
   |none=>
    have HN:=Qd (Qja h1 h2 h3);have H3:=Qd h3;clear h1 h2 h3;go_enter Tryz.func95,Tryz.ntmps95
    go_wp2_with fail
    refine CU.out.mono ?_;rintro e w' ⟨rfl,n,rfl⟩;go_wp2_with fail
    refine(TH.out n).mono ?_;rintro e w' ⟨rfl,v,rfl,hv⟩;obtain rfl:=hv a H1.out;rw[H1.out,show(some a).isSome=true from rfl];clear hv;go_wp2_with fail
    refine(TT.out n).mono ?_;rintro e w' ⟨rfl,v,rfl,hv⟩;rw[H3.out,show(none:Option Nat).isSome=false from rfl];clear hv;go_wp2_with fail
    go_ret2
    exact RunTold.no w n HN.out
   |some b=>
    have hb:=Lab.tagP_lt h3;have HN:=Qd (Pja h1 h2 h3);have H3:=Qd h3;clear h1 h2 h3;go_enter Tryz.func95,Tryz.ntmps95
    go_wp2_with fail
    refine CU.out.mono ?_;rintro e w' ⟨rfl,n,rfl⟩;go_wp2_with fail
    refine(TH.out n).mono ?_;rintro e w' ⟨rfl,v,rfl,hv⟩;obtain rfl:=hv a H1.out;rw[H1.out,show(some a).isSome=true from rfl];clear hv;go_wp2_with fail
    refine(TT.out n).mono ?_;rintro e w' ⟨rfl,v,rfl,hv⟩;obtain rfl:=hv b H3.out;rw[H3.out,show(some b).isSome=true from rfl];clear hv;go_wp2_with fail
    go_loop [10,11] (λov tv=>∃t n:Nat,a<=t/\t<=64/\n<18446744073709551616/\tv= .int .i64 (t:Int)/\ov= .int .u64 (n:Int)/\Hid (n=Lab.bitsTo a (t-a)/\(t<=b+1\/t=a))) (λ_ tv=>128-(intOf tv).toNat)
    case atStart=>exact⟨a,0,Lr,by omega,by omega,rfl,rfl,Qd ⟨by rw[Nat.sub_self];rfl,.inr rfl⟩⟩
    case round=>
     obtain⟨t,m,ht1,ht2,hm,rfl,rfl,H⟩:=hrel;by_cases hle:t<=b
     ·have ht3:t<64:=by omega
      have HS:Hid (m||| 2^t=Lab.bitsTo a (t+1-a)):=Qd (by
       rw[H.out.1,show t+1-a=(t-a)+1 by omega,Bk,show a+(t-a)=t by omega])
      have hml:m||| 2^t<18446744073709551616:=Nat.or_lt_two_pow (n:=64) hm (Lab.bit_lt ht3)
      have HO:=Qd (Gda m (t:Int) hm (by omega));rw[Int.toNat_natCast] at HO;go_wp2_with fail
      refine⟨⟨t+1,m||| 2^t,by omega,by omega,hml,by go_num,congrArg (Value.int .u64) HO.out,Qd ⟨HS.out,.inl (by omega)⟩⟩,by simp[intOf];omega⟩
     have HE:Hid (m=Lab.bitsFrom a b):=Qd (by
      rw[H.out.1,Lab.bitsFrom];rcases H.out.2 with h |h
      ·rw[show t-a=b+1-a by omega]
      rw[show t-a=0 by omega,show b+1-a=0 by omega])
     go_wp2_with fail
     go_ret2
     have:=RunTold.yes w n (Lab.bitsFrom a b) HN.out;rw[<-HE.out] at this;exact this
def ParseTold (s:List UInt8)(w:World)(e:Ending)(w':World):Prop:=Below w.heap.size w w'/\∃(x:Nat) (ok:Bool),e= .returned (.tuple #[.int .u64 (x:Int),.int .i64 (if ok then 0 else 15)])/\Lab.Spec s x ok
theorem Below.drewN_self (w:World)(n:Nat):Below w.heap.size w (w.drewN n):=⟨rfl,rfl,rfl,Lr,λ_ _=>rfl⟩
theorem ParseTold.no {s:List UInt8}{w w':World}(hb:Below w.heap.size w w')(h:Lab.Spec s 0 false):ParseTold s w (.returned (.tuple #[.int .u64 0,.int .i64 15])) w':=⟨hb,0,false,rfl,h⟩
theorem ParseTold.yes {s:List UInt8}{w w':World}{x:Nat}(hb:Below w.heap.size w w')(h:Lab.Spec s x true):ParseTold s w (.returned (.tuple #[.int .u64 (x:Int),.int .i64 0])) w':=⟨hb,x,true,rfl,h⟩
theorem Vi (s:List UInt8)(w:World)(hs:s.length<=1000000)(hT:Tab64 w)(hB:0<w.heap.size):
 Calls Tryz.prog 62 #[.string ⟨s.toArray⟩] w (ParseTold s w):=by
 by_cases hlong:258<s.length
 ·have HS:=Qd (Lab.Spec.long hlong)
  go_enter Tryz.func62,Tryz.ntmps62
  go_wp2_with fail
  go_ret2
  exact ParseTold.no Br HS.out
 have hl:s.length<=258:=by omega
 have CP:=Qd (Tryz.strings_CutPrefix ⟨s.toArray⟩ ⟨#[123]⟩ w);have CS:=Qd (λ(t:List UInt8) (ht:t.length<=1000)=>Tryz.strings_CutSuffix ⟨t.toArray⟩ ⟨#[125]⟩ w (show t.toArray.size<=_ by simp;omega));rw[show(⟨s.toArray⟩:ByteArray).data.toList=s from rfl,show(⟨#[123]⟩:ByteArray).data.toList=[123] from rfl] at CP;have TX:=Qd (λ(x:Nat) (hx:x<18446744073709551616) (n:Nat)=>Wg x (w.drewN n) hx hT hB);clear hT;rcases Lab.open_iff s with⟨h1,h2,h3⟩ |⟨r,h1,h2,h3⟩
 ·have HS:=Qd (Lab.Spec.noOpen h3)
  rw[h1,h2] at CP;have CS1:=Qd (CS.out s (by omega));clear h1 h2 h3 CS;go_enter Tryz.func62,Tryz.ntmps62
  go_wp2_with fail
  refine CP.out.mono ?_;rintro e w' ⟨rfl,hw⟩;obtain rfl:w=w':=hw.symm;go_wp2_with fail
  refine CS1.out.mono ?_;rintro e w' ⟨rfl,hw⟩;obtain rfl:w=w':=hw.symm;go_wp2_with fail
  go_ret2
  exact ParseTold.no Br HS.out
 subst h3;rw[h1,h2] at CP;have hrl:r.length<=257:=by simpa using hl
 have CS1:=Qd (CS.out r (by omega));rw[show(⟨r.toArray⟩:ByteArray).data.toList=r from rfl,show(⟨#[125]⟩:ByteArray).data.toList=[125] from rfl] at CS1;clear h1 h2 CS;rcases Lab.shut_iff r with⟨k1,k2⟩ |⟨t,k1,k2,k3⟩
 ·have HS:=Qd (Lab.Spec.noShut k2)
  rw[k1] at CS1;clear k1 k2;go_enter Tryz.func62,Tryz.ntmps62
  go_wp2_with fail
  refine CP.out.mono ?_;rintro e w' ⟨rfl,hw⟩;obtain rfl:w=w':=hw.symm;go_wp2_with fail
  refine CS1.out.mono ?_;rintro e w' ⟨rfl,hw⟩;obtain rfl:w=w':=hw.symm;go_wp2_with fail
  go_ret2
  exact ParseTold.no Br HS.out
 rw[k1,k2] at CS1;have htl:t.length<=256:=by rw[k3] at hrl;simp at hrl;omega
 have HS1:Hid (∀o,Lab.innerP 300 t 0=some o->Lab.text o≠123::r->Lab.Spec (123::r) 0 false):=Qd (λo h hne=>by rw[k3] at hne⊢;exact Lab.Spec.other (by omega) h hne);have HS2:Hid (Lab.innerP 300 t 0=none->Lab.Spec (123::r) 0 false):=Qd (λh=>by rw[k3];exact Lab.Spec.badInner (by omega) h);clear k1 k2 k3;go_enter Tryz.func62,Tryz.ntmps62
 go_wp2_with fail
 refine CP.out.mono ?_;rintro e w' ⟨rfl,hw⟩;obtain rfl:w=w':=hw.symm;go_wp2_with fail
 refine CS1.out.mono ?_;rintro e w' ⟨rfl,hw⟩;obtain rfl:w=w':=hw.symm;go_wp2_with fail
 go_loopg [4,7] t.length (λgk iv ov wr=>∃(cur:List UInt8) (acc m:Nat),wr=w.drewN m/\cur.length<=gk/\cur.length<=256/\acc<18446744073709551616/\iv= .string ⟨cur.toArray⟩/\ov= .int .u64 (acc:Int)/\Hid (Lab.innerP 300 cur acc=Lab.innerP 300 t 0))
 case atStart=>exact⟨t,0,0,rfl,Lr,htl,by omega,rfl,rfl,Qd rfl⟩
 case round=>
  obtain⟨cur,acc,m,rfl,hgk,hcl,hacc,rfl,rfl,H⟩:=hrel;cases cur with
  |nil=>
   have HI:Hid (Lab.innerP 300 t 0=some acc):=Qd (by rw[<-H.out];rfl);have TXa:=Qd (TX.out acc hacc m);rw[Za] at TXa;by_cases heq:Lab.text acc=123::r
   ·have HY:Hid (Lab.Spec (123::r) acc true):=Qd (.inl ⟨rfl,hacc,heq.symm⟩)
    rw[heq] at TXa;clear heq;go_wp2_with fail
    refine TXa.out.mono ?_;rintro e w1 ⟨rfl,hb1⟩;have hb:Below w.heap.size w w1:=⟨hb1.os,hb1.tape,hb1.output,hb1.size,hb1.block⟩;go_wp2_with fail
    go_ret2
    exact ParseTold.yes hb HY.out
   have HY:=Qd (HS1.out acc HI.out heq);have hne:(Lab.text acc==123::r)=false:=by simpa using heq
   generalize Lab.text acc=T at*;clear heq;go_wp2_with fail
   refine TXa.out.mono ?_;rintro e w1 ⟨rfl,hb1⟩;have hb:Below w.heap.size w w1:=⟨hb1.os,hb1.tape,hb1.output,hb1.size,hb1.block⟩;go_wp2_with fail
   go_ret2
   exact ParseTold.no hb HY.out
  |cons b0 r0=>
   have hne:b0::r0≠[]:=by simp
   have hcu:=Lab.cutAt_len 44 (b0::r0);have CU:=Qd (Ev (b0::r0) 44 (w.drewN m) (by omega));rw[Za,Za] at CU;have RU:=Qd (λn=>Rja (Lab.cutAt 44 (b0::r0)).1 (w.drewN n) (by omega));have hdec:=hcu.2.2 hne;have hd2:(Lab.cutAt 44 (b0::r0)).2.1.length<=256:=by omega
   cases hrun:Lab.runP (Lab.cutAt 44 (b0::r0)).1 with
   |none=>
    have HY:=Qd (HS2.out (by rw[<-H.out];exact Lab.innerP_fail hne (by omega) hrun));have HR:=Qd hrun;clear hrun hcu hne;go_wp2_with fail
    refine CU.out.mono ?_;rintro e w' ⟨rfl,n,rfl⟩;rw[World.drewN_drewN];go_wp2_with fail
    refine(RU.out _).mono ?_;rintro e w' ⟨⟨n2,rfl⟩,rfl⟩;rw[HR.out,show(none:Option Nat).isSome=false from rfl,show((none:Option Nat).getD 0)=0 from rfl];go_wp2_with fail
    go_ret2
    exact ParseTold.no (Below.drewN_self _ _) HY.out
   |some l=>
    have hll:=Lab.runP_lt hrun;have HST:=Qd (Lab.innerP_step (f:=300) (acc:=acc) hne (by omega) hrun);have HR:=Qd hrun;have hjl:Lab.join acc l<18446744073709551616:=Lab.join_lt hacc hll;clear hrun hcu hne;generalize(Lab.cutAt 44 (b0::r0)).2.1=rest at*;go_wp2_with fail
    refine CU.out.mono ?_;rintro e w' ⟨rfl,n,rfl⟩;rw[World.drewN_drewN];go_wp2_with fail
    refine(RU.out _).mono ?_;rintro e w' ⟨⟨n2,rfl⟩,rfl⟩;rw[HR.out,show(some l).isSome=true from rfl,show((some l).getD 0)=l from rfl];go_wp2_with (go_at_call 48;refine(Wq acc l _ hacc hll).mono ?_;rintro e w' ⟨rfl,rfl⟩)
    go_roundg rest.length
    case measure=>omega
    case rel=>exact⟨rest,Lab.join acc l,_,rfl,Lr,hd2,hjl,rfl,rfl,Qd (by rw[<-HST.out];exact H.out)⟩
section
open Go.RowKit Ar
def IsRd (w:World)(r:Nat)(s:List UInt8)(bad:Bool):Prop:=w.heap[r]? =some (.cells #[sv s,.bool bad] 64 (0,0))
theorem IsRd.lt {w:World}{r:Nat}{s:List UInt8}{b:Bool}(h:IsRd w r s b):r<w.heap.size:=(Array.getElem?_eq_some_iff.1 h).1
theorem IsRd.below {w w':World}{r:Nat}{s:List UInt8}{b:Bool}(h:IsRd w r s b)(hb:Below w.heap.size w w'):IsRd w' r s b:=(hb.block r h.lt).trans h
theorem IsRd.cell0 {w:World}{r:Nat}{s:List UInt8}{b:Bool}(h:IsRd w r s b):w.cell? ⟨r,0,none⟩=some (.string ⟨s.toArray⟩):=by unfold IsRd at h;simp[World.cell?,h,sv]
theorem IsRd.cell1 {w:World}{r:Nat}{s:List UInt8}{b:Bool}(h:IsRd w r s b):w.cell? ⟨r,1,none⟩=some (.bool b):=by unfold IsRd at h;simp[World.cell?,h]
theorem IsRd.frozen {w:World}{r:Nat}{s:List UInt8}{b:Bool}(h:IsRd w r s b)(i:Nat):w.frozen? ⟨r,i,none⟩=false:=by unfold IsRd at h;simp[World.frozen?,h]
theorem IsRd.set0 {w:World}{r:Nat}{s:List UInt8}{b:Bool}(h:IsRd w r s b)(t:List UInt8):IsRd (w.setCell ⟨r,0,none⟩ (.string ⟨t.toArray⟩)) r t b:=by
 unfold IsRd at*;show(w.heap.modify r _)[r]? =_;rw[Array.getElem?_modify,if_pos rfl,h];rfl
theorem IsRd.set1 {w:World}{r:Nat}{s:List UInt8}{b:Bool}(h:IsRd w r s b)(c:Bool):IsRd (w.setCell ⟨r,1,none⟩ (.bool c)) r s c:=by
 unfold IsRd at*;show(w.heap.modify r _)[r]? =_;rw[Array.getElem?_modify,if_pos rfl,h];rfl
theorem Wi {a b c:World}{r:Nat}(h:a.grownBy b (some r))(k:b.grownBy c (some r)):a.grownBy c (some r):=
 ⟨k.os.trans h.os,k.tape.trans h.tape,k.output.trans h.output,Nat.le_trans h.size k.size,λi hi hr=>(k.block i (Nat.lt_of_lt_of_le hi h.size) hr).trans (h.block i hi hr)⟩
theorem Bd {a b:World}(r:Nat)(h:Below a.heap.size a b):a.grownBy b (some r):=⟨h.os,h.tape,h.output,h.size,λk hk _=>h.block k hk⟩
theorem Xi {a b:World}{r:Nat}(h:a.grownBy b (some r))(i:Nat)(v:Value):a.grownBy (b.setCell ⟨r,i,none⟩ v) (some r):=
 ⟨h.os,h.tape,h.output,by simpa using h.size,λk hk hr=>by
  rw[<-h.block k hk hr];show(b.heap.modify r _)[k]? =_;rw[Array.getElem?_modify,if_neg (λe=>hr (by rw[e]))]⟩
structure RdOk (w:World) (r:Nat):Prop where
 tabs:TabsC w
 n1:∀g,Tryz.prog.globalNamed "internal/strconv.uint64pow10" =some g→g≠r
 n2:0≠r
theorem TabsC.gb {w w':World}{r:Nat}(h:RdOk w r)(hg:w.grownBy w' (some r)):TabsC w':=by
 obtain⟨⟨ht,hl⟩,h2,h3⟩:=h.tabs;refine⟨⟨?_,λg e=>Nat.lt_of_lt_of_le (hl g e) hg.size⟩,λj hj=>?_,Nat.lt_of_lt_of_le h3 hg.size⟩
 ·unfold Lib.TabIs World.var? at*
  cases he:Tryz.prog.globalNamed "internal/strconv.uint64pow10" with
  |none=>simp[he] at ht
  |some g=>
   simp only[he,Option.bind_some] at ht⊢;rw[hg.block g (hl g he) (λe=>h.n1 g he (by injection e))];exact ht
 have hb:=hg.block _ h3 (λe=>h.n2 (by injection e));have:=h2 j hj;unfold World.cell? at*;rw[hb];exact this
theorem RdOk.gb {w w':World}{r:Nat}(h:RdOk w r)(hg:w.grownBy w' (some r)):RdOk w' r:=⟨TabsC.gb h hg,h.n1,h.n2⟩
end
theorem Lla {B:Nat}{w w':World}(h:Below B w w')(n:Nat):Below B w (w'.drewN n):=⟨h.os,h.tape,h.output,h.size,h.block⟩
theorem Tw (s:List UInt8):Dg.parse s=Dg.body (Lib.hasPrefix s [194,175]) (Lib.trimPrefix s [194,175]):=by
 unfold Lib.trimPrefix Lib.hasPrefix
 match s with
 | []=>rfl
 | [a]=>
  have h:List.isPrefixOf [194,175] [a]=false:=by simp[List.isPrefixOf]
  rw[h];unfold Dg.parse
  split
  ·next h2=>cases h2
  rfl
 |a::b::t=>
  by_cases h:a=194/\b=175
  ·obtain⟨rfl,rfl⟩:=h
   rfl
  have h2:List.isPrefixOf [194,175] (a::b::t)=false:=by
   simp[List.isPrefixOf];intro e1 e2;exact h ⟨e1.symm,e2.symm⟩
  rw[h2];unfold Dg.parse
  split
  ·next h3=>injection h3 with e1 h3;injection h3 with e2 h3;exact absurd ⟨e1,e2⟩ h
  rfl
theorem Fea:Ten.numOf [49]=1:=rfl
theorem S8 (s p:List UInt8):(Lib.trimPrefix s p).length<=s.length:=by
 unfold Lib.trimPrefix
 split
 ·rw[List.length_drop];omega
 exact Lr
theorem F3 {t:List UInt8}(hd:∀b∈t,Ten.isDig b)(h:t.length<=1000):(Nt.digs (Ten.numOf t)).length<=1000000:=by
 have:=Dg.limbs_le hd 112 (by omega);omega
theorem Il (neg:Bool)(v1 v2:Value)(a b:List UInt8)(w:World)(h1:IsRes w v1 (Nt.digs (Ten.numOf a)))(h2:IsRes w v2 (Nt.digs (Ten.numOf b)))(d1:∀x∈a,Ten.isDig x)(d2:∀x∈b,Ten.isDig x)(s1:a.length<=1000)(s2:b.length<=1000):
 Calls Tryz.prog 196 #[.agg #[.bool neg,v1],.agg #[.bool false,v2]] w (MakeOut w (Rt.mk neg false (Ten.numOf a) (Ten.numOf b))):=by
 have:=Ky neg false v1 v2 _ _ w h1 h2 (Nt.ok_digs _) (Nt.ok_digs _) (F3 d1 s1) (F3 d2 s2);rwa[Nt.val_digs,Nt.val_digs] at this
theorem G3 (s:List UInt8)(w:World)(hs:s.length<=1000000):
 Calls Tryz.prog 162 #[.string ⟨s.toArray⟩] w (MakeOut w (Dg.parse s)):=by
 have CP:=λwx=>Tryz.strings_CutPrefix ⟨s.toArray⟩ ⟨#[194,175]⟩ wx;rw[show(⟨s.toArray⟩:ByteArray).data.toList=s from rfl,show(⟨#[194,175]⟩:ByteArray).data.toList=[194,175] from rfl] at CP;have hcl:=S8 s [194,175];rw[Tw];have HGA:Hid ((w.alloc (.cells #[.bool false,.slice none 0 0,.slice none 0 0] 83)).heap[w.heap.size]? =some (.cells #[.bool false,.slice none 0 0,.slice none 0 0] 83 (0,0))):=Qd (heap_alloc_new w _);have hb0:Below w.heap.size w (w.alloc (.cells #[.bool false,.slice none 0 0,.slice none 0 0] 83)):=Br.alloc Lr _;generalize Lib.trimPrefix s [194,175]=t at*;generalize Lib.hasPrefix s [194,175]=neg at*;have HCP:=Qd CP;have htl:t.length<=1000000:=by omega
 clear CP hcl;obtain⟨W,hW⟩:∃W,W=w.alloc (.cells #[.bool false,.slice none 0 0,.slice none 0 0] 83):=⟨_,rfl⟩;rw[<-hW] at HGA hb0;have HW:=Qd hW;clear hW;have hsz:(⟨t.toArray⟩:ByteArray).size=t.length:=rfl;have HSZ:=Qd hsz;clear hsz;go_enter Tryz.func162,Tryz.ntmps162
 go_wp2_with fail
 rw[<-HW.out];refine(HCP.out _).mono ?_;rintro e w' ⟨rfl,rfl⟩;clear HCP;by_cases h400:400<t.length
 ·have HE:Hid (400<t.length):=Qd h400
  go_wp2_with (with_reducible refine Xc rfl (.tmp 2) (.tmp 18) rfl w.heap.size rfl rfl HGA.out ?_)
  refine Ob (by rfl) (by rfl) (by rfl) rfl HGA.out (MakeOut.of (by unfold Dg.body;rw[if_pos HE.out];rfl) rfl (Ia _) (Ia _) (rBelow.setRow hb0 (by omega) _))
 have H400:Hid (¬400<t.length):=Qd h400;obtain⟨n,hn⟩:∃n,n=Dg.lead t:=⟨_,rfl⟩;have LD:=λ(wx:World)=>Tp t wx (by omega);have hll:=Dg.lead_le t;rw[<-hn] at LD hll;have LD:=Qd LD;have HN:=Qd hn;clear hn;go_wp2_with fail
 refine(LD.out _).mono ?_;rintro e w' ⟨rfl,rfl⟩;clear LD;by_cases hl0:n=0
 ·have hz:((n:Int)==0)=true:=by rw[hl0];rfl
  have HE:Hid (Dg.lead t=0):=Qd (by rw[<-HN.out];exact hl0);clear hl0;go_wp2_with (with_reducible refine Xc rfl (.tmp 2) (.tmp 23) rfl w.heap.size rfl rfl HGA.out ?_)
  refine Ob (by rfl) (by rfl) (by rfl) rfl HGA.out (MakeOut.of (by unfold Dg.body;rw[if_neg H400.out,if_pos HE.out];rfl) rfl (Ia _) (Ia _) (rBelow.setRow hb0 (by omega) _))
 have hz:((n:Int)==0)=false:=beq_eq_false_iff_ne.2 (by omega);have HL0:Hid (¬Dg.lead t=0):=Qd (by rw[<-HN.out];exact hl0);by_cases hlt:n<t.length
 ·obtain⟨y,hy⟩:∃y,y=t[n].toNat:=⟨_,rfl⟩
  have hgy:((⟨t.toArray⟩:ByteArray)[n]'(show n<(⟨t.toArray⟩:ByteArray).size from hlt)).toNat=y:=hy.symm;have HY:Hid (y=(t.getD n 0).toNat):=Qd (by rw[hy,List.getD_eq_getElem?_getD,List.getElem?_eq_getElem hlt];rfl);clear hy;obtain⟨ov,hov⟩:∃ov,ov=t.take n:=⟨_,rfl⟩;obtain⟨bh,hbh⟩:∃bh,bh=t.drop (n+1):=⟨_,rfl⟩;have hovl:ov.length=n:=by rw[hov,List.length_take];omega
  have hbhl:bh.length=t.length-(n+1):=by rw[hbh,List.length_drop]
  have hovl2:ov.length<=400:=by omega
  have hbhl2:bh.length<=400:=by omega
  have SU:Hid ((⟨t.toArray⟩:ByteArray).extract 0 n=⟨ov.toArray⟩):=Qd (by rw[Zq t n (by omega),hov]);have SF:Hid ((⟨t.toArray⟩:ByteArray).extract (n+1) t.length=⟨bh.toArray⟩):=Qd (by rw[Hl,hbh]);have HOV:Hid (ov=t.take (Dg.lead t)):=Qd (by rw[<-HN.out];exact hov);have HBH:Hid (bh=t.drop (Dg.lead t+1)):=Qd (by rw[<-HN.out];exact hbh);have HBL:Hid (bh.length=t.length-(Dg.lead t+1)):=Qd (by rw[<-HN.out];exact hbhl);have HNE:Hid (¬Dg.lead t=t.length):=Qd (by rw[<-HN.out];omega);have HO:Hid (ov.length<=1000/\∀b∈ov,Ten.isDig b):=Qd ⟨by omega,by rw[HOV.out];exact Dg.lead_take⟩;have HEQ0:Hid (Dg.body neg t=if bh.length=0\/Dg.lead bh<bh.length then(Rt.none_,1) else if t.getD n 0=114 then Rt.mk neg false (Ten.numOf ov) (Ten.numOf bh) else if t.getD n 0=46 then Rt.mk neg false (Ten.numOf (ov++bh)) (10^bh.length) else(Rt.none_,1)):=Qd (by
   unfold Dg.body;rw[if_neg H400.out,if_neg HL0.out,if_neg HNE.out,<-HBL.out,<-HBH.out,<-HOV.out,<-HN.out];have e:(t.length=n+1)=(bh.length=0):=by rw[eq_iff_iff];omega
   simp only[e])
  have hw1:IntKind.i64.wrap ((n:Int)+1)=(n:Int)+1:=IntWalk.i64_in _ (by omega);have hw2:(0:Int)<=(n:Int)+1:=by omega
  have hw3:(n:Int)+1<=(t.length:Int):=by omega
  have hw4:((n:Int)+1).toNat=n+1:=by omega
  have hw5:(0:Int)<=(n:Int):=by omega
  have hw6:(n:Int)<(t.length:Int):=by omega
  clear hov hbh hovl hbhl;go_wp2_with fail
  go_quiet (fail)
  clear hw1 hw2 hw3 hw4 hw5 hw6;simp only[SU.out,SF.out];have hbq:Below w.heap.size w (w'.drewN nq):=Lla hb0 nq;have HGQ:Hid ((w'.drewN nq).heap[w.heap.size]? =some (.cells #[.bool false,.slice none 0 0,.slice none 0 0] 83 (0,0))):=Qd HGA.out;generalize w'.drewN nq=wq at*;by_cases hbe:bh=[]
  ·have hemp:bh.isEmpty=true:=by rw[hbe];rfl
   have HE:Hid (bh.length=0):=Qd (by rw[hbe];rfl);subst hbe;clear SU SF HGA hb0;go_wp2_with (with_reducible refine Xc rfl (.tmp 2) (.tmp 47) rfl w.heap.size rfl rfl HGQ.out ?_)
   refine Ob (by rfl) (by rfl) (by rfl) rfl HGQ.out (MakeOut.of (by rw[HEQ0.out,if_pos (.inl HE.out)];rfl) rfl (Ia _) (Ia _) (rBelow.setRow hbq (by omega) _))
  have hemp:bh.isEmpty=false:=by cases bh with |nil=>exact absurd rfl hbe |cons a r=>rfl
  have HBE:Hid (¬bh.length=0):=Qd (by cases bh with |nil=>exact absurd rfl hbe |cons a r=>simp);have LB:=Qd (λ(wx:World)=>Tp bh wx (by omega));clear SU SF HGA hb0;go_wp2_with fail
  refine(LB.out _).mono ?_;rintro e w'' ⟨rfl,rfl⟩;have hlb:=Dg.lead_le bh;by_cases hm:Dg.lead bh<bh.length
  ·have HM:=Qd hm
   have g1:decide (Dg.lead bh<bh.length)=true:=decide_eq_true hm;go_wp2_with (with_reducible refine Xc rfl (.tmp 2) (.tmp 47) rfl w.heap.size rfl rfl HGQ.out ?_)
   refine Ob (by rfl) (by rfl) (by rfl) rfl HGQ.out (MakeOut.of (by rw[HEQ0.out,if_pos (.inr HM.out)];rfl) rfl (Ia _) (Ia _) (rBelow.setRow hbq (by omega) _))
  have g1:decide (Dg.lead bh<bh.length)=false:=decide_eq_false hm;have HM:Hid (¬(bh.length=0\/Dg.lead bh<bh.length)):=Qd (λh=>h.elim HBE.out hm);have HBD:Hid (∀b∈bh,Ten.isDig b):=Qd (Dg.lead_full (by omega));clear LB hlb;have HY114:Hid (y=114->t.getD n 0=114):=Qd (λh=>UInt8.toNat_inj.1 (by rw[<-HY.out,h];rfl));have HY46:Hid (y=46->t.getD n 0=46):=Qd (λh=>UInt8.toNat_inj.1 (by rw[<-HY.out,h];rfl));have HYN:Hid (∀b:UInt8,t.getD n 0=b->y=b.toNat):=Qd (λb h=>by rw[HY.out,h]);by_cases h114:y=114
  ·have HD:=Qd (HY114.out h114)
   have q114:((y:Int)==114)=true:=by rw[h114];rfl
   have HU:Hid (bh.length<=1000/\∀b∈bh,Ten.isDig b):=Qd ⟨by omega,HBD.out⟩;clear h114;have NO:=Qd (λ(wx:World)=>Te ov wx HO.out.1 HO.out.2);have NU:=Qd (λ(wx:World)=>Te bh wx HU.out.1 HU.out.2);go_wp2_with fail
   refine(NO.out _).mono ?_;rintro e w2 ⟨v1,rfl,hr1,hb2⟩;have HR1:=Qd hr1;have HG2:=Qd ((hb2.block w.heap.size (Pa HGQ.out)).trans HGQ.out);have hbw2:=hbq.trans (hb2.mono hbq.size);obtain⟨A1,c1,rfl,-⟩:=hr1;go_wp2_with fail
   refine(NU.out _).mono ?_;rintro e w3 ⟨v2,rfl,hr2,hb3⟩;have MK:=Qd (Il neg _ _ ov bh w3 (HR1.out.below hb3) hr2 HO.out.2 HU.out.2 HO.out.1 HU.out.1);have HG3:=Qd ((hb3.block w.heap.size (Pa HG2.out)).trans HG2.out);have hbw3:=hbw2.trans (hb3.mono hbw2.size);obtain⟨A2,c2,rfl,-⟩:=hr2;clear hb2 hb3 HG2 hbw2 HR1;go_wp2_with fail
   refine MK.out.mono ?_;rintro e w4 ⟨r1,r2,rfl,hr3,hr4,hb4⟩;have HG4:=Qd ((hb4.block w.heap.size (Pa HG3.out)).trans HG3.out);have hbw4:=hbw3.trans (hb4.mono hbw3.size);have HR3:=Qd (hr3.setRow HG4.out (Ea _ _ _ _ _ _ _) #[.bool (Rt.mk neg false (Ten.numOf ov) (Ten.numOf bh)).1.neg,r1,r2]);have HR4:=Qd (hr4.setRow HG4.out (Ea _ _ _ _ _ _ _) #[.bool (Rt.mk neg false (Ten.numOf ov) (Ten.numOf bh)).1.neg,r1,r2]);have HEQ:=Qd (show Dg.body neg t=Rt.mk neg false (Ten.numOf ov) (Ten.numOf bh) by rw[HEQ0.out,if_neg HM.out,if_pos HD.out]);obtain⟨A3,c3,rfl,-⟩:=hr3;obtain⟨A4,c4,rfl,-⟩:=hr4;clear MK hb4 HG3 hbw3;generalize Rt.mk neg false (Ten.numOf ov) (Ten.numOf bh)=R at*;obtain⟨⟨rn,rt,rb⟩,re⟩:=R;dsimp only at HR3 HR4 HEQ⊢;go_wp2_with (with_reducible refine Xc rfl (.tmp 2) (.tmp 71) rfl w.heap.size rfl rfl HG4.out ?_)
   refine Ob (by rfl) (by rfl) (by rfl) rfl HG4.out (MakeOut.of HEQ.out rfl HR3.out HR4.out (rBelow.setRow hbw4 (by omega) _))
  have q114:((y:Int)==114)=false:=beq_eq_false_iff_ne.2 (by omega);have HD1:Hid (¬t.getD n 0=114):=Qd (λh=>h114 (HYN.out _ h));clear h114;by_cases h46:y=46
  ·have HD:=Qd (HY46.out h46)
   have q46:((y:Int)==46)=true:=by rw[h46];rfl
   have RP:=Tryz.strings_Repeat ⟨#[48]⟩ bh.length wq (by omega) (by show 1*bh.length<=_;omega);rw[show(⟨#[48]⟩:ByteArray).data.toList=[48] from rfl,Z1] at RP;obtain⟨ZR,hZR⟩:∃ZR,ZR=List.replicate bh.length (48:UInt8):=⟨_,rfl⟩;obtain⟨o2,ho2⟩:∃o2,o2=ov++bh:=⟨_,rfl⟩;obtain⟨u2,hu2⟩:∃u2,u2=(49:UInt8)::ZR:=⟨_,rfl⟩;rw[<-hZR] at RP;have hZl:ZR.length=bh.length:=by rw[hZR,List.length_replicate]
   have hZl2:ZR.length<=400:=by omega
   have HN2:Hid (Ten.numOf u2=10^bh.length):=Qd (by rw[hu2,hZR];exact Dg.numOf_zeros _);have SO2:Hid ((⟨ov.toArray⟩:ByteArray)++⟨bh.toArray⟩=⟨o2.toArray⟩):=Qd (by apply ByteArray.ext;rw[ho2];simp);have SU2:Hid ((⟨#[49]⟩:ByteArray)++⟨ZR.toArray⟩=⟨u2.toArray⟩):=Qd (by apply ByteArray.ext;rw[hu2];simp);have HO2:Hid (o2.length<=1000/\∀b∈o2,Ten.isDig b):=Qd ⟨by rw[ho2,List.length_append];omega,by
    intro b hb;rw[ho2] at hb;rcases List.mem_append.1 hb with hb |hb
    ·exact HO.out.2 b hb
    exact HBD.out b hb⟩
   have HU:Hid (u2.length<=1000/\∀b∈u2,Ten.isDig b):=Qd ⟨by rw[hu2,List.length_cons];omega,by
    intro b hb;rw[hu2,hZR] at hb;rcases List.mem_cons.1 hb with rfl |hb
    ·exact⟨by decide,by decide⟩
    rw[List.eq_of_mem_replicate hb];exact⟨by decide,by decide⟩⟩
   have HEV:Hid (Dg.body neg t=Rt.mk neg false (Ten.numOf o2) (Ten.numOf u2)):=Qd (by rw[HEQ0.out,if_neg HM.out,if_neg HD1.out,if_pos HD.out,HN2.out,ho2]);have HRP:=Qd RP;clear h46 hZR ho2 hu2 RP hZl HO;have HO:=HO2;clear HO2;go_wp2_with fail
   refine HRP.out.mono ?_;rintro e w7 ⟨rfl,hb7⟩;have HG7:=Qd ((hb7.block w.heap.size (Pa HGQ.out)).trans HGQ.out);have hbw7:=hbq.trans (hb7.mono hbq.size);clear hb7 HRP hbq HGQ;simp only[SO2.out];have NO:=Qd (λ(wx:World)=>Te o2 wx HO.out.1 HO.out.2);have NU:=Qd (λ(wx:World)=>Te u2 wx HU.out.1 HU.out.2);go_wp2_with fail
   simp only[SU2.out,SO2.out];refine(NO.out _).mono ?_;rintro e w2 ⟨v1,rfl,hr1,hb2⟩;have HR1:=Qd hr1;have HG2:=Qd ((hb2.block w.heap.size (Pa HG7.out)).trans HG7.out);have hbw2:=hbw7.trans (hb2.mono hbw7.size);obtain⟨A1,c1,rfl,-⟩:=hr1;go_wp2_with fail
   refine(NU.out _).mono ?_;rintro e w3 ⟨v2,rfl,hr2,hb3⟩;have MK:=Qd (Il neg _ _ o2 u2 w3 (HR1.out.below hb3) hr2 HO.out.2 HU.out.2 HO.out.1 HU.out.1);have HG3:=Qd ((hb3.block w.heap.size (Pa HG2.out)).trans HG2.out);have hbw3:=hbw2.trans (hb3.mono hbw2.size);obtain⟨A2,c2,rfl,-⟩:=hr2;clear hb2 hb3 HG2 hbw2 HR1;go_wp2_with fail
   refine MK.out.mono ?_;rintro e w4 ⟨r1,r2,rfl,hr3,hr4,hb4⟩;have HG4:=Qd ((hb4.block w.heap.size (Pa HG3.out)).trans HG3.out);have hbw4:=hbw3.trans (hb4.mono hbw3.size);have HR3:=Qd (hr3.setRow HG4.out (Ea _ _ _ _ _ _ _) #[.bool (Rt.mk neg false (Ten.numOf o2) (Ten.numOf u2)).1.neg,r1,r2]);have HR4:=Qd (hr4.setRow HG4.out (Ea _ _ _ _ _ _ _) #[.bool (Rt.mk neg false (Ten.numOf o2) (Ten.numOf u2)).1.neg,r1,r2]);have HEQ:=Qd (show Dg.body neg t=Rt.mk neg false (Ten.numOf o2) (Ten.numOf u2) by exact HEV.out);obtain⟨A3,c3,rfl,-⟩:=hr3;obtain⟨A4,c4,rfl,-⟩:=hr4;clear MK hb4 HG3 hbw3;generalize Rt.mk neg false (Ten.numOf o2) (Ten.numOf u2)=R at*;obtain⟨⟨rn,rt,rb⟩,re⟩:=R;dsimp only at HR3 HR4 HEQ⊢;go_wp2_with (with_reducible refine Xc rfl (.tmp 2) (.tmp 71) rfl w.heap.size rfl rfl HG4.out ?_)
   refine Ob (by rfl) (by rfl) (by rfl) rfl HG4.out (MakeOut.of HEQ.out rfl HR3.out HR4.out (rBelow.setRow hbw4 (by omega) _))
  have q46:((y:Int)==46)=false:=beq_eq_false_iff_ne.2 (by omega);have HD2:Hid (¬t.getD n 0=46):=Qd (λh=>h46 (HYN.out _ h));clear h46;go_wp2_with (with_reducible refine Xc rfl (.tmp 2) (.tmp 49) rfl w.heap.size rfl rfl HGQ.out ?_)
  refine Ob (by rfl) (by rfl) (by rfl) rfl HGQ.out (MakeOut.of (by rw[HEQ0.out,if_neg HM.out,if_neg HD1.out,if_neg HD2.out];rfl) rfl (Ia _) (Ia _) (rBelow.setRow hbq (by omega) _))
 have HO:Hid (t.length<=1000/\∀b∈t,Ten.isDig b):=Qd ⟨by omega,Dg.lead_full (by rw[<-HN.out];omega)⟩;have HU:Hid (([49]:List UInt8).length<=1000/\∀b∈([49]:List UInt8),Ten.isDig b):=Qd ⟨by decide,by intro b hb;rw[List.mem_singleton] at hb;subst hb;exact⟨by decide,by decide⟩⟩;have HLE:Hid (n=t.length):=Qd (by omega);have hst:(⟨t.toArray⟩:ByteArray).extract 0 n=⟨t.toArray⟩:=by rw[Zq t n (by omega),HLE.out,List.take_length]
 have HST:=Qd hst;clear hst;go_wp2_with fail
 rw[HST.out];have NO:=Qd (λ(wx:World)=>Te t wx HO.out.1 HO.out.2);have NU:=Qd (λ(wx:World)=>Te [49] wx HU.out.1 HU.out.2);go_wp2_with fail
 refine(NO.out _).mono ?_;rintro e w2 ⟨v1,rfl,hr1,hb2⟩;have HR1:=Qd hr1;have HG2:=Qd ((hb2.block w.heap.size (Pa HGA.out)).trans HGA.out);have hbw2:=hb0.trans (hb2.mono hb0.size);obtain⟨A1,c1,rfl,-⟩:=hr1;go_wp2_with fail
 refine(NU.out _).mono ?_;rintro e w3 ⟨v2,rfl,hr2,hb3⟩;have MK:=Qd (Il neg _ _ t [49] w3 (HR1.out.below hb3) hr2 HO.out.2 HU.out.2 HO.out.1 HU.out.1);have HG3:=Qd ((hb3.block w.heap.size (Pa HG2.out)).trans HG2.out);have hbw3:=hbw2.trans (hb3.mono hbw2.size);obtain⟨A2,c2,rfl,-⟩:=hr2;clear hb2 hb3 HG2 hbw2 HR1;go_wp2_with fail
 refine MK.out.mono ?_;rintro e w4 ⟨r1,r2,rfl,hr3,hr4,hb4⟩;have HG4:=Qd ((hb4.block w.heap.size (Pa HG3.out)).trans HG3.out);have hbw4:=hbw3.trans (hb4.mono hbw3.size);have HR3:=Qd (hr3.setRow HG4.out (Ea _ _ _ _ _ _ _) #[.bool (Rt.mk neg false (Ten.numOf t) (Ten.numOf [49])).1.neg,r1,r2]);have HR4:=Qd (hr4.setRow HG4.out (Ea _ _ _ _ _ _ _) #[.bool (Rt.mk neg false (Ten.numOf t) (Ten.numOf [49])).1.neg,r1,r2]);have HEQ:=Qd (show Dg.body neg t=Rt.mk neg false (Ten.numOf t) (Ten.numOf [49]) by unfold Dg.body;rw[if_neg H400.out,if_neg HL0.out,if_pos (by rw[<-HN.out];exact HLE.out),Fea]);obtain⟨A3,c3,rfl,-⟩:=hr3;obtain⟨A4,c4,rfl,-⟩:=hr4;clear MK hb4 HG3 hbw3;generalize Rt.mk neg false (Ten.numOf t) (Ten.numOf [49])=R at*;obtain⟨⟨rn,rt,rb⟩,re⟩:=R;dsimp only at HR3 HR4 HEQ⊢;go_wp2_with (with_reducible refine Xc rfl (.tmp 2) (.tmp 71) rfl w.heap.size rfl rfl HG4.out ?_)
 refine Ob (by rfl) (by rfl) (by rfl) rfl HG4.out (MakeOut.of HEQ.out rfl HR3.out HR4.out (rBelow.setRow hbw4 (by omega) _))
section
open Go.RowKit Ar
def Ic (u:Value):Prop:=∀n:Int,u≠ .int .u32 n
def HasU (w:World)(b:Nat):Prop:=∃off x,w.cell? ⟨b,off,none⟩=some (.int .u32 x)
def PR (n:Nat)(w:World)(b:Nat):Prop:=b<w.heap.size/\(n<=b\/HasU w b)
def PL (n:Nat)(w:World)(V:Value)(b:Nat):Prop:=PR n w b/\V.ownBlock≠some b
theorem HasU.same {w w':World}{b:Nat}(h:HasU w b)(e:w'.heap[b]? =w.heap[b]?):HasU w' b:=by
 obtain⟨off,x,hc⟩:=h;exact⟨off,x,(World.cell?_of_block e).trans hc⟩
theorem PR.same {n:Nat}{w w':World}{b:Nat}(h:PR n w b)(hs:w.heap.size<=w'.heap.size)(e:w'.heap[b]? =w.heap[b]?):PR n w' b:=⟨Nat.lt_of_lt_of_le h.1 hs,h.2.imp id (·.same e)⟩
theorem PR.below {n:Nat}{w w':World}{b:Nat}(h:PR n w b)(hb:Below w.heap.size w w'):PR n w' b:=h.same hb.size (hb.block b h.1)
theorem PR.mono {n m:Nat}{w:World}{b:Nat}(h:PR m w b)(hn:n<=m):PR n w b:=⟨h.1,h.2.imp (Nat.le_trans hn) id⟩
theorem Fd {w:World}{b:Nat}{cs:Array Value}{t:TypeId}{fz:Nat×Nat}(h:w.heap[b]? =some (.cells cs t fz))(hq:∀u∈cs,Ic u):¬HasU w b:=by
 rintro⟨off,x,hc⟩;rw[cell_of_row w b off cs t fz h] at hc;exact hq _ (Array.mem_of_getElem? hc) x rfl
theorem Sc {n:Nat}{w w':World}{a:Ba}{vs:List Value}(h:IsArrP w (PR n w) a vs)(hb:Below w.heap.size w w'):IsArrP w' (PR n w') a vs:=IsArrP.keep (λp hp=>World.cell?_of_block (hb.block _ hp.1)) (λb h=>h.below hb) _ _ h
theorem T8 {n:Nat}{w w':World}{a:Ha}{vs:List Value}(h:IsCelP w (PR n w) a vs)(hb:Below w.heap.size w w'):IsCelP w' (PR n w') a vs:=IsCelP.keep (λp hp=>World.cell?_of_block (hb.block _ hp.1)) (λb h=>h.below hb) _ _ h
theorem U8 {n:Nat}{w:World}{A:Option Addr}{l:List Nat}(h:Lies w w.heap.size A (Rd l)):LiesP w (PR n w) A (Rd l):=by
 rcases h with h |⟨b,off,hA,hb,hc⟩
 ·exact .inl h
 cases l with
 |nil=>exact .inl rfl
 |cons x r=>exact .inr ⟨b,off,hA,⟨hb,.inr ⟨off+0,x,hc 0 _ rfl⟩⟩,hc⟩
theorem Nj {n:Nat}{w w':World}{V V':Value}{cs:List Ha}{xs:List Value}(hs:w.heap.size<=w'.heap.size)(hk:∀b,PL n w V b->w'.heap[b]? =w.heap[b]? /\V'.ownBlock≠some b)(h:IsCelsP w (PL n w V) cs xs):IsCelsP w' (PL n w' V') cs xs:=
 IsCelsP.keep (λp hp=>World.cell?_of_block (hk _ hp).1) (λb h=>⟨h.1.same hs (hk b h).1,(hk b h).2⟩) _ _ h
theorem Ci {n:Nat}{w w':World}{V:Value}{cs:List Ha}{xs:List Value}(hb:Below w.heap.size w w')(h:IsCelsP w (PL n w V) cs xs):IsCelsP w' (PL n w' V) cs xs:=Nj hb.size (λb h=>⟨hb.block b h.1.1,h.2⟩) h
theorem Uw {n m:Nat}{w w':World}{V V':Value}{cs:List Ha}{c:Ha}{xs u:List Value}{base k:Nat}{ys:List Value}(h:IsCelsP w (PL n w V) cs xs)(hc:IsCelP w (PR m w) c u)(hn:n<=m)(ho:w.ownsQ Ic base 85 7 V k ys)(hm:∀x,V.ownBlock=some x->x<m)
 (hg:w.grownBy w' V.ownBlock) (hV:V'.ownBlock=V.ownBlock\/V'.ownBlock=some w.heap.size):IsCelsP w' (PL n w' V') (cs++[c]) (xs++u):=by
 have hc1:IsCelP w (PL n w V) c u:=IsCelP.keep (λ_ _=>rfl) (λb hb=>⟨hb.mono hn,λe=>by
  rcases hb.2 with h1 |⟨off,x,hx⟩
  ·have:=hm b e;omega
  exact absurd e (ho.apart hx (λhq=>hq x rfl))⟩) _ _ hc
 refine Nj hg.size (λb hb=>⟨hg.block b hb.1.1 (λe=>hb.2 e.symm),?_⟩) (h.snoc hc1);rcases hV with e |e
 ·rw[e];exact hb.2
 rw[e];intro e';injection e' with e';have:=hb.1.1;omega
def Ln (r:Option Ha)(w:World)(e:Ending)(w':World):Prop:=∃c vs,e= .returned (.tuple #[.agg vs.toArray,.bool r.isSome])/\IsCelP w' (PR w.heap.size w') c vs/\(∀x,r=some x->x=c)/\Below w.heap.size w w'
def Qg (r:Option Ba)(w:World)(e:Ending)(w':World):Prop:=∃a vs,e= .returned (.tuple #[.agg vs.toArray,.bool r.isSome])/\IsArrP w' (PR w.heap.size w') a vs/\(∀x,r=some x->x=a)/\Below w.heap.size w w'
theorem V8:(Tryz.prog.info? 85).map (λi=>(i.zero,i.size,i.bytes))=some (some (.agg #[.int .u64 0,.int .i64 0,.bool false,.slice none 0 0,.slice none 0 0,.int .i64 0,.slice none 0 0]),7,104):=by kernel_rfl
theorem Gea:(Tryz.prog.info? 43).map (λi=>(i.zero,i.size,i.bytes))=some (some (.agg #[.int .u64 0,.slice none 0 0,.slice none 0 0]),3,56):=by kernel_rfl
theorem Eba (n1 n2:Bool)(x y:Nat):((Rt.mk n1 n2 x y).1.top.length<=32/\(Rt.mk n1 n2 x y).1.bot.length<=32)/\Nt.Ok (Rt.mk n1 n2 x y).1.top/\Nt.Ok (Rt.mk n1 n2 x y).1.bot:=by
 have h0:∀e:Int,(((Rt.none_,e):Rt.Nm×Int).1.top.length<=32/\((Rt.none_,e):Rt.Nm×Int).1.bot.length<=32)/\Nt.Ok ((Rt.none_,e):Rt.Nm×Int).1.top/\Nt.Ok ((Rt.none_,e):Rt.Nm×Int).1.bot:=λe=>⟨⟨Nat.zero_le _,Nat.zero_le _⟩,λx hx=>absurd hx List.not_mem_nil,λx hx=>absurd hx List.not_mem_nil⟩;unfold Rt.mk
 split
 ·exact h0 _
 split
 ·exact h0 _
 next h=>exact⟨⟨by dsimp only;omega,by dsimp only;omega⟩,Nt.ok_digs _,Nt.ok_digs _⟩
theorem J3 (t:List UInt8):((Dg.parse t).1.top.length<=32/\(Dg.parse t).1.bot.length<=32)/\Nt.Ok (Dg.parse t).1.top/\Nt.Ok (Dg.parse t).1.bot:=by
 have h0:∀e:Int,(((Rt.none_,e):Rt.Nm×Int).1.top.length<=32/\((Rt.none_,e):Rt.Nm×Int).1.bot.length<=32)/\Nt.Ok ((Rt.none_,e):Rt.Nm×Int).1.top/\Nt.Ok ((Rt.none_,e):Rt.Nm×Int).1.bot:=λe=>⟨⟨Nat.zero_le _,Nat.zero_le _⟩,λx hx=>absurd hx List.not_mem_nil,λx hx=>absurd hx List.not_mem_nil⟩;have hb:∀neg t,((Dg.body neg t).1.top.length<=32/\(Dg.body neg t).1.bot.length<=32)/\Nt.Ok (Dg.body neg t).1.top/\Nt.Ok (Dg.body neg t).1.bot:=by
  intro neg t;unfold Dg.body
  split
  ·exact h0 _
  split
  ·exact h0 _
  split
  ·exact Eba _ _ _ _
  split
  ·exact h0 _
  split
  ·exact Eba _ _ _ _
  split
  ·exact Eba _ _ _ _
  exact h0 _
 unfold Dg.parse
 split<;>exact hb _ _
theorem M3 {n:Nat}{w:World}{L:Nat}{neg:Bool}{top bot:List Nat}{t u:Value}(hL:L<18446744073709551616)(h1:IsRes w t top)(h2:IsRes w u bot)(l:(top.length<=32/\bot.length<=32)/\Nt.Ok top/\Nt.Ok bot):IsCelP w (PR n w) (.mk L 0 neg top bot 0 []) [.int .u64 (L:Int),.int .i64 0,.bool neg,t,u,.int .i64 0,.slice none 0 0]:=by
 obtain⟨A1,c1,rfl,a1,a2,a3,a4⟩:=h1;obtain⟨A2,c2,rfl,b1,b2,b3,b4⟩:=h2;rw[IsCelP];exact⟨A1,c1,A2,c2,none,0,[],rfl,hL,⟨a1,by omega,a2⟩,⟨b1,by omega,b2⟩,⟨by simp,by simp,by simp⟩,by intro x hx;simp at hx;omega,l.2.1,l.2.2,U8 a4,U8 b4,.inl rfl,by rw[IsArrsP],a3,b3⟩
theorem Yi {n:Nat}{w:World}{L:Nat}{k c:Int}(hL:L<18446744073709551616)(hk: -9223372036854775808<=k/\k<=9223372036854775807)(hc: -9223372036854775808<=c/\c<=9223372036854775807):IsCelP w (PR n w) (.mk L k false [] [] c []) [.int .u64 (L:Int),.int .i64 k,.bool false,.slice none 0 0,.slice none 0 0,.int .i64 c,.slice none 0 0]:=by
 have h0:Uj []:=λx hx=>absurd hx List.not_mem_nil;have hf:∀b,Fits 0 0 b:=λb=>⟨Lr,by omega,by omega⟩;rw[IsCelP];exact⟨none,0,none,0,none,0,[],rfl,hL,hf 4,hf 4,hf 56,by intro x hx;simp at hx;rcases hx with rfl |rfl<;>assumption,h0,h0,.inl rfl,.inl rfl,.inl rfl,by rw[IsArrsP],λ_=>rfl,λ_=>rfl⟩
theorem O3 {n:Nat}{w w':World}{L:Nat}{a:Ba}{vs:List Value}{b:Nat}(hL:L<18446744073709551616)(h:IsArrP w (PR n w) a vs)(hb:Below w.heap.size w w')(hr:w'.heap[b]? =some (.cells vs.toArray 43 (0,0)))(hn:n<=b):IsCelP w' (PR n w') (.mk L 2 false [] [] 0 [a]) [.int .u64 (L:Int),.int .i64 2,.bool false,.slice none 0 0,.slice none 0 0,.int .i64 0,.slice (some ⟨b,0,none⟩) 1 1]:=by
 have h0:Uj []:=λx hx=>absurd hx List.not_mem_nil;have hf:∀b,Fits 0 0 b:=λb=>⟨Lr,by omega,by omega⟩;rw[IsCelP];refine⟨none,0,none,0,some ⟨b,0,none⟩,1,vs,rfl,hL,hf 4,hf 4,⟨by simp,by simp,by simp⟩,by intro x hx;simp at hx;omega,h0,h0,.inl rfl,.inl rfl,.inr ⟨b,0,rfl,⟨(Array.getElem?_eq_some_iff.1 hr).1,.inl hn⟩,λi v hv=>?_⟩,?_,λ_=>rfl,λ_=>rfl⟩
 ·rw[Nat.zero_add,cell_of_row w' b i _ _ _ hr];simpa using hv
 rw[IsArrsP];exact⟨vs,[],by simp,Sc h hb,by rw[IsArrsP]⟩
theorem IsCelP.form {w:World}{P:Nat->Prop}{c:Ha}{vs:List Value}(h:IsCelP w P c vs):∃(L:Nat) (k:Int) (neg:Bool) (A1:Option Addr) (n1 c1:Nat) (A2:Option Addr) (n2 c2:Nat) (ch:Int) (A3:Option Addr) (n3 c3:Nat),vs=[.int .u64 (L:Int),.int .i64 k,.bool neg,.slice A1 n1 c1,.slice A2 n2 c2,.int .i64 ch,.slice A3 n3 c3]/\L<18446744073709551616:=by
 cases c;rw[IsCelP] at h;obtain⟨A,c,A',c',A2,c2,us,rfl,hL,_⟩:=h;exact⟨_,_,_,_,_,_,_,_,_,_,_,_,_,rfl,hL⟩
theorem IsCelP.lab {w:World}{P:Nat->Prop}{L L':Nat}{k:Int}{neg:Bool}{t b:List Nat}{ch:Int}{ins:List Ba}{v0:Value}{vs:List Value}(h:IsCelP w P (.mk L k neg t b ch ins) (v0::vs))(hL:L'<18446744073709551616):IsCelP w P (.mk L' k neg t b ch ins) (.int .u64 (L':Int)::vs):=by
 rw[IsCelP] at h⊢;obtain⟨A,c,A',c',A2,c2,us,h1,h2,h3⟩:=h;injection h1 with e1 e2
 subst e2;exact⟨A,c,A',c',A2,c2,us,rfl,hL,h3⟩
theorem Q3 {L:Nat}{k:Int}{neg:Bool}{A1:Option Addr}{n1 c1:Nat}{A2:Option Addr}{n2 c2:Nat}{ch:Int}{A3:Option Addr}{n3 c3:Nat}:∀u∈[Value.int .u64 (L:Int),.int .i64 k,.bool neg,.slice A1 n1 c1,.slice A2 n2 c2,.int .i64 ch,.slice A3 n3 c3],Ic u:=by
 intro u hu n e;subst e;simp at hu
end
section
open Go.RowKit
namespace Nw
theorem cut_k7 {s:List UInt8}(hs:s.length<1000000):cut s=if Lib.decDigits (Ten.numOf (s.take (k7 s)))=s.take (k7 s) then after s (k7 s) (Ten.numOf (s.take (k7 s))) else none:=by
 by_cases h:Dg.lead s<=7
 ·have e:k7 s=Dg.lead s:=by unfold k7;omega
  rw[e];rfl
 have e:k7 s=7:=by unfold k7;omega
 rw[Dca (by omega) (by omega),e]
 split
 ·unfold after
  have hl:=Dg.lead_le s;rw[if_neg (by omega),if_neg (by omega),if_pos];obtain⟨h1,h2⟩:=Dg.lead_dig (s:=s) (k:=7) (by omega);rw[List.getD_eq_getElem?_getD,List.getElem?_eq_getElem h1,Option.getD_some];intro e';rw[e'] at h2;exact absurd h2 (by decide)
 rfl
end Nw
theorem Qc (s:List UInt8)(w:World)(hs:s.length<1000000):
 Calls Tryz.prog 42 #[.string ⟨s.toArray⟩] w λe w'=>e= .returned (Nw.cutV (Nw.cut s))/\Below w.heap.size w w':=by
 have hsz:(⟨s.toArray⟩:ByteArray).size=s.length:=rfl;have HSZ:=Qd hsz;have HNO:Hid (Nw.cut s=none->Ending.returned (.tuple #[.string ⟨#[]⟩,.string ⟨#[]⟩,.bool false])= .returned (Nw.cutV (Nw.cut s))):=Qd (λh=>by rw[h];rfl);have DE:=Qd (Jf s w (by omega));have HK7:=Qd (Nw.cut_k7 hs);have hat:Nw.DecAt s (Nw.k7 s) (Ten.numOf (s.take (Nw.k7 s))):=⟨by unfold Nw.k7;omega,rfl⟩;have hk7:Nw.k7 s<=7:=by unfold Nw.k7;omega
 have hkl:Nw.k7 s<=s.length:=by have:=Dg.lead_le s;unfold Nw.k7;omega
 have hn:=Yk hat hk7;clear hat;generalize Ten.numOf (s.take (Nw.k7 s))=n at*;generalize Nw.k7 s=k at*;have hdn:=(Ten.dec_len (r:=n) (k:=9) (by omega)).2;have DD:=λ(w:World)=>Gd n w (by omega);obtain⟨D,hD⟩:∃D,D=Lib.decDigits n:=⟨_,rfl⟩;rw[<-hD] at DD hdn HK7;have HDD:=Qd DD;clear DD hD;go_enter Tryz.func42,Tryz.ntmps42
 go_wp2_with fail
 refine DE.out.mono ?_;rintro e w1 ⟨rfl,rfl⟩;clear DE;by_cases hk0:k=0
 ·have HE:=Qd (HNO.out (by rw[HK7.out];split;unfold Nw.after;rw[if_pos hk0];rfl))
  subst hk0;clear HK7;go_wp2_with fail
  go_quiet (fail)
  go_wp2_with fail
  go_ret3
  exact⟨HE.out,⟨rfl,rfl,rfl,Lr,λ_ _=>rfl⟩⟩
 have z1:((k:Int)==0)=false:=beq_eq_false_iff_ne.2 (by omega);by_cases hlt:k<s.length
 ·have z2:decide (s.length<=k)=false:=decide_eq_false (by omega)
  obtain⟨y,hy⟩:∃y,y=s[k].toNat:=⟨_,rfl⟩;have hgy:((⟨s.toArray⟩:ByteArray)[k]'(show k<(⟨s.toArray⟩:ByteArray).size from hlt)).toNat=y:=hy.symm;have HG:Hid (s.getD k 0=58↔y=58):=Qd (by
   rw[hy,List.getD_eq_getElem?_getD,List.getElem?_eq_getElem hlt,Option.getD_some];exact⟨λe=>by rw[e];rfl,λe=>UInt8.toNat_inj.1 e⟩)
  clear hy;by_cases hy58:y=58
  ·have HG':=Qd (HG.out.2 hy58)
   subst hy58;obtain⟨T,hT⟩:∃T,T=s.drop (k+1):=⟨_,rfl⟩;have HQ:Hid (Nw.cut s=if D=s.take k then(if T.length<=n then none else if T.getD n 0≠44 then none else some (T.take n,T.drop (n+1))) else none):=Qd (by rw[HK7.out,Nw.after_T hk0 hlt HG'.out,<-hT]);have hTl:T.length=s.length-(k+1):=by rw[hT,List.length_drop]
   have hw1:IntKind.i64.wrap ((s.length:Int)-(k:Int))=(s.length:Int)-(k:Int):=IntWalk.i64_in _ (by omega);have hw2:IntKind.i64.wrap ((s.length:Int)-(k:Int)-1)=(T.length:Int):=by rw[show(s.length:Int)-(k:Int)-1=(T.length:Int) by omega];exact IntWalk.i64_in _ (by omega)
   have hcol:((58:Int)!=58)=false:=by decide
   replace hTl:=Qd hTl;by_cases hnl:n<T.length
   ·have z4:decide (T.length<=n)=false:=decide_eq_false (by omega)
    have hlt2:k+1+n<s.length:=by have:=hTl.out;omega
    have hw5:(0:Int)<=(k:Int)+1+(n:Int):=by omega
    have hw6:(k:Int)+1+(n:Int)<(s.length:Int):=by omega
    have hw7:((k:Int)+1+(n:Int)).toNat=k+1+n:=by omega
    obtain⟨z,hz⟩:∃z,z=s[k+1+n].toNat:=⟨_,rfl⟩;have hgz:((⟨s.toArray⟩:ByteArray)[k+1+n]'(show k+1+n<(⟨s.toArray⟩:ByteArray).size from hlt2)).toNat=z:=hz.symm;have HZ4:Hid (T.getD n 0=44↔z=44):=Qd (by
     rw[hz,hT,List.getD_eq_getElem?_getD,List.getElem?_drop,List.getElem?_eq_getElem hlt2,Option.getD_some];exact⟨λe=>by rw[e];rfl,λe=>UInt8.toNat_inj.1 e⟩)
    clear hz;by_cases hz44:z=44
    ·subst hz44
     have hcom:((44:Int)!=44)=false:=by decide
     have hk2:(0:Int)<=(k:Int):=by omega
     have hk3:(k:Int)<=(s.length:Int):=by omega
     have hk4:((k:Int)).toNat=k:=by omega
     have SU:=Qd (Mk s k hkl);have HQ2:Hid (Nw.cut s=if D=s.take k then some (T.take n,T.drop (n+1)) else none):=Qd (by rw[HQ.out];split;rw[if_neg (by omega),if_neg (λe=>e (HZ4.out.2 rfl))];rfl);have HDQ:∀j,Calls Tryz.prog 64 #[.int .i64 (n:Int)] (w.drewN j) λe w''=>e= .returned (.string ⟨D.toArray⟩)/\∃i,w''=w.drewN i:=λj=>(HDD.out _).mono (λe w'' h=>⟨h.1,_,h.2.symm⟩);replace HDQ:=Qd HDQ;clear HQ HZ4 HG HG' HK7;obtain⟨U,hU⟩:∃U,U=s.take k:=⟨_,rfl⟩;rw[<-hU] at HQ2 SU;have he:(D==((⟨s.toArray⟩:ByteArray).extract 0 k).toList)=decide (D=U):=by
      rw[SU.out,ByteArray.toList_eq];by_cases h:D=U
      ·rw[decide_eq_true h];exact beq_iff_eq.2 h
      rw[decide_eq_false h];exact beq_eq_false_iff_ne.2 h
     clear hU;replace hT:=Qd hT;have SA:Hid ((⟨s.toArray⟩:ByteArray).extract (k+1) (k+1+n)=⟨(T.take n).toArray⟩):=Qd (by rw[hT.out];apply ByteArray.ext;simp);have SB:Hid ((⟨s.toArray⟩:ByteArray).extract (k+2+n) s.length=⟨(T.drop (n+1)).toArray⟩):=Qd (by rw[Lg,hT.out,List.drop_drop,show k+2+n=k+1+(n+1) by omega]);by_cases hDU:D=U
     ·rw[decide_eq_true hDU] at he
      have HE:Hid (Ending.returned (.tuple #[.string ⟨(T.take n).toArray⟩,.string ⟨(T.drop (n+1)).toArray⟩,.bool true])= .returned (Nw.cutV (Nw.cut s))):=Qd (by rw[HQ2.out,if_pos hDU];rfl);replace hDU:=Qd hDU;have q1:(0:Int)<=(k:Int)+1:=by omega
      have q2:(k:Int)+1<=(k:Int)+1+(n:Int):=by omega
      have q3:(k:Int)+1+(n:Int)<=(s.length:Int):=by omega
      have q4:((k:Int)+1).toNat=k+1:=by omega
      have q5:(0:Int)<=(k:Int)+2+(n:Int):=by omega
      have q6:(k:Int)+2+(n:Int)<=(s.length:Int):=by omega
      have q7:((k:Int)+2+(n:Int)).toNat=k+2+n:=by omega
      clear HQ2 HNO;go_wp2_with fail
      refine wp_region_quiet_lit (by kernel_rfl) (by kernel_rfl) ?_;repeat (go_big_quiet_step (exact HDQ.out _))
      refine wpQuiet_nil ?_;rintro _ ⟨nq,rfl⟩;go_wp2_with fail
      go_quiet (fail)
      go_wp2_with fail
      go_ret3
      exact⟨by rw[<-HE.out,<-SA.out,<-SB.out];rfl,⟨rfl,rfl,rfl,Lr,λ_ _=>rfl⟩⟩
     rw[decide_eq_false hDU] at he;have HE:=Qd (HNO.out (by rw[HQ2.out,if_neg hDU]));replace hDU:=Qd hDU;go_wp2_with fail
     refine wp_region_quiet_lit (by kernel_rfl) (by kernel_rfl) ?_;repeat (go_big_quiet_step (exact HDQ.out _))
     refine wpQuiet_nil ?_;rintro _ ⟨nq,rfl⟩;go_wp2_with fail
     go_ret3
     exact⟨HE.out,⟨rfl,rfl,rfl,Lr,λ_ _=>rfl⟩⟩
    have HE:=Qd (HNO.out (by rw[HQ.out];split;rw[if_neg (by omega),if_pos (λe=>hz44 (HZ4.out.1 e))];rfl));have z3:((z:Int)!=44)=true:=by simp;omega
    clear HQ HZ4 HG HG' HK7 hT;go_wp2_with fail
    go_quiet (fail)
    go_wp2_with fail
    go_ret3
    exact⟨HE.out,⟨rfl,rfl,rfl,Lr,λ_ _=>rfl⟩⟩
   have HE:=Qd (HNO.out (by rw[HQ.out];split;rw[if_pos (by omega)];rfl));have z4:decide (T.length<=n)=true:=decide_eq_true (by omega);clear HQ HG HG' HK7 hT;go_wp2_with fail
   go_quiet (fail)
   go_wp2_with fail
   go_ret3
   exact⟨HE.out,⟨rfl,rfl,rfl,Lr,λ_ _=>rfl⟩⟩
  have HE:=Qd (HNO.out (by rw[HK7.out];split;unfold Nw.after;rw[if_neg hk0,if_neg (by omega),if_pos (λe=>hy58 (HG.out.1 e))];rfl));have z3:((y:Int)!=58)=true:=by simp;omega
  clear HK7 HG;go_wp2_with fail
  go_quiet (fail)
  go_wp2_with fail
  go_ret3
  exact⟨HE.out,⟨rfl,rfl,rfl,Lr,λ_ _=>rfl⟩⟩
 have z2:decide (s.length<=k)=true:=decide_eq_true (by omega);have HE:=Qd (HNO.out (by rw[HK7.out];split;unfold Nw.after;rw[if_neg hk0,if_pos (by omega)];rfl));clear HK7;go_wp2_with fail
 go_quiet (fail)
 go_wp2_with fail
 go_ret3
 exact⟨HE.out,⟨rfl,rfl,rfl,Lr,λ_ _=>rfl⟩⟩
end
def S3:Option Nat->Int
 |none=> -1
 |some n=>(n:Int)
def Fv (s:List UInt8)(at_:Nat)(w:World)(e:Ending)(w':World):Prop:=w=w'/\∃to_:Nat,at_<=to_/\to_<=s.length/\s.drop to_=(Lab.numR (s.drop at_)).2/\e= .returned (.tuple #[.int .i64 (S3 (Lab.numR (s.drop at_)).1),.int .i64 (to_:Int)])
def LNumAt (s:List UInt8)(at_ to_ n:Nat):Prop:=Lab.takeDig (3-(to_-at_)) (s.drop to_) n=Lab.takeDig 3 (s.drop at_) 0
theorem LNumAt.step {s:List UInt8}{at_ to_ n:Nat}(h:LNumAt s at_ to_ n)(h1:at_<=to_)(hlt:to_<s.length)(h3:to_-at_<3)(hd1:48<=s[to_].toNat)(hd2:s[to_].toNat<=57):LNumAt s at_ (to_+1) (10*n+(s[to_].toNat-48)):=by
 unfold LNumAt at*;rw[<-h,List.drop_eq_getElem_cons hlt,show 3-(to_-at_)=(3-(to_+1-at_))+1 by omega,Lab.takeDig,if_pos (by simp[Lab.digit,hd1,hd2])]
theorem LNumAt.stop {s:List UInt8}{at_ to_ n:Nat}(h:LNumAt s at_ to_ n)(h1:at_<=to_)(h2:to_<=s.length)(hs:to_=s.length\/3<=to_-at_\/∃hlt:to_<s.length,s[to_].toNat<48\/57<s[to_].toNat):Lab.takeDig 3 (s.drop at_) 0=(n,s.drop to_):=by
 unfold LNumAt at h;rw[<-h];rcases hs with e |e |⟨hlt,e⟩
 ·rw[e,List.drop_length,Lab.takeDig_nil]
 ·rw[show 3-(to_-at_)=0 by omega];rfl
 rw[List.drop_eq_getElem_cons hlt];exact Lab.takeDig_stop (by unfold Lab.digit;rcases e with e |e<;>simp<;>omega) _ _ _
theorem Hea {s:List UInt8}{at_ to_ n:Nat}(h:Lab.takeDig 3 (s.drop at_) 0=(n,s.drop to_))(hc:to_=at_\/63<n):Lab.numR (s.drop at_)=(none,s.drop to_):=by
 unfold Lab.numR;rw[h,if_pos];rcases hc with e |e
 ·exact .inl (by rw[e])
 exact .inr e
theorem numR_some {s:List UInt8}{at_ to_ n:Nat}(h:Lab.takeDig 3 (s.drop at_) 0=(n,s.drop to_))(h1:at_<to_)(h2:to_<=s.length)(hc:n<=63):Lab.numR (s.drop at_)=(some n,s.drop to_):=by
 unfold Lab.numR;rw[h,if_neg];rintro(e |e)
 ·simp only[List.length_drop] at e;omega
 simp only at e;omega
theorem Rh (s:List UInt8)(at_:Nat)(w:World)(hs:s.length<=1000000)(hat:at_<=s.length):
 Calls Tryz.prog 71 #[.string ⟨s.toArray⟩,.int .i64 (at_:Int)] w (Fv s at_ w):=by
 go_enter Tryz.func71,Tryz.ntmps71
 go_wp2_with fail
 go_loop [6,7] (λnv tv=>∃to_ n:Nat,at_<=to_/\to_<=s.length/\to_<=at_+3/\n<10^(to_-at_)/\nv= .int .i64 (n:Int)/\tv= .int .i64 (to_:Int)/\Hid (LNumAt s at_ to_ n)) (λ_ tv=>s.length-(intOf tv).toNat)
 case atStart=>exact⟨at_,0,Lr,hat,by omega,by rw[Nat.sub_self];decide,rfl,rfl,Qd (by unfold LNumAt;rw[Nat.sub_self])⟩
 case round=>
  obtain⟨to_,n,h1,h2,h3,hn,rfl,rfl,H⟩:=hrel;have hn1:n<1000:=Nat.lt_of_lt_of_le hn (Nat.le_trans (Nat.pow_le_pow_right (by omega) (show to_-at_<=3 by omega)) (by decide));have FIN:Hid (∀hs:(to_=s.length\/3<=to_-at_\/∃hlt:to_<s.length,s[to_].toNat<48\/57<s[to_].toNat),((to_=at_\/63<n)->Fv s at_ w (.returned (.tuple #[.int .i64 (-1),.int .i64 (to_:Int)])) w)/\(at_<to_->n<=63->Fv s at_ w (.returned (.tuple #[.int .i64 (n:Int),.int .i64 (to_:Int)])) w)):=Qd (λhst=>by
   have h:=H.out.stop h1 h2 hst;refine⟨λhc=>?_,λha hb=>?_⟩
   ·have e:=Hea h hc
    exact⟨rfl,to_,h1,h2,by rw[e],by rw[e];rfl⟩
   have e:=numR_some h ha h2 hb;exact⟨rfl,to_,h1,h2,by rw[e],by rw[e];rfl⟩)
  by_cases hlt:to_<s.length
  ·obtain⟨x,hx⟩:∃x,x=s[to_].toNat:=⟨_,rfl⟩
   have hg:((⟨s.toArray⟩:ByteArray)[to_]'(show to_<(⟨s.toArray⟩:ByteArray).size from hlt)).toNat=x:=hx.symm;have HX:=Qd hx;clear hx;by_cases hd:(48<=x/\x<=57)/\to_-at_<3
   ·obtain⟨⟨hd1,hd2⟩,hd3⟩:=hd
    have hd4:to_<at_+3:=by omega
    have ST:=Qd (H.out.step h1 hlt hd3 (by rw[<-HX.out];exact hd1) (by rw[<-HX.out];exact hd2));have HNB:Hid (10*n+(x-48)<10^(to_+1-at_)):=Qd (by
     rw[show to_+1-at_=(to_-at_)+1 by omega,Nat.pow_succ];omega)
    clear hn hd3;go_wp2_with fail
    refine⟨⟨to_+1,10*n+(x-48),by omega,by omega,by omega,HNB.out,congrArg (Value.int .i64) (by omega),by go_num,?_⟩,by simp[intOf];omega⟩;rw[HX.out];exact ST
   have HF:=Qd (FIN.out (by
    rcases(show x<48\/57<x\/3<=to_-at_ by omega) with h |h |h
    ·exact .inr (.inr ⟨hlt,.inl (by rw[<-HX.out];exact h)⟩)
    ·exact .inr (.inr ⟨hlt,.inr (by rw[<-HX.out];exact h)⟩)
    exact .inr (.inl h)))
   have hc:x<48\/(48<=x/\57<x)\/((48<=x/\x<=57)/\at_+3<=to_):=by omega
   clear hd hn FIN;have hb:to_=at_\/(at_<to_/\63<n)\/(at_<to_/\n<=63):=by omega
   rcases hb with hb |⟨hb1,hb2⟩ |⟨hb1,hb2⟩
   ·have HY:=Qd (HF.out.1 (.inl hb))
    subst hb;clear HF;rcases hc with hc |⟨hc,hc2⟩ |⟨⟨hc,hc2⟩,hc3⟩
    ·go_wp2_with fail
     go_ret2
     exact HY.out
    ·go_wp2_with fail
     go_ret2
     exact HY.out
    exfalso;omega
   ·have HY:=Qd (HF.out.1 (.inr hb2))
    have hnz:((to_:Int)==(at_:Int))=false:=by rw[beq_eq_false_iff_ne];omega
    clear HF;rcases hc with hc |⟨hc,hc2⟩ |⟨⟨hc,hc2⟩,hc3⟩
    all_goals
     go_wp2_with fail
     go_ret2
     exact HY.out
   have HY:=Qd (HF.out.2 hb1 hb2);have hnz:((to_:Int)==(at_:Int))=false:=by rw[beq_eq_false_iff_ne];omega
   clear HF;rcases hc with hc |⟨hc,hc2⟩ |⟨⟨hc,hc2⟩,hc3⟩
   all_goals
    go_wp2_with fail
    go_ret2
    exact HY.out
  have HF:=Qd (FIN.out (.inl (by omega)));clear hn FIN;have hb:to_=at_\/(at_<to_/\63<n)\/(at_<to_/\n<=63):=by omega
  rcases hb with hb |⟨hb1,hb2⟩ |⟨hb1,hb2⟩
  ·have HY:=Qd (HF.out.1 (.inl hb))
   subst hb;clear HF;go_wp2_with fail
   go_ret2
   exact HY.out
  ·have HY:=Qd (HF.out.1 (.inr hb2))
   have hnz:((to_:Int)==(at_:Int))=false:=by rw[beq_eq_false_iff_ne];omega
   clear HF;go_wp2_with fail
   go_ret2
   exact HY.out
  have HY:=Qd (HF.out.2 hb1 hb2);have hnz:((to_:Int)==(at_:Int))=false:=by rw[beq_eq_false_iff_ne];omega
  clear HF;go_wp2_with fail
  go_ret2
  exact HY.out
def RefParseTold (s:List UInt8)(w:World)(e:Ending)(w':World):Prop:=w=w'/\∃(x:Nat) (ok:Bool),e= .returned (.tuple #[.int .u64 (x:Int),.bool ok])/\Lab.Spec s x ok
theorem RefParseTold.no {s:List UInt8}{w:World}(h:Lab.Spec s 0 false):RefParseTold s w (.returned (.tuple #[.int .u64 0,.bool false])) w:=⟨rfl,0,false,rfl,h⟩
theorem RefParseTold.yes {s:List UInt8}{w:World}{x:Nat}(h:Lab.Spec s x true):RefParseTold s w (.returned (.tuple #[.int .u64 (x:Int),.bool true])) w:=⟨rfl,x,true,rfl,h⟩
theorem Cm {s:List UInt8}{p:Nat}(hp:p<s.length)(h:s[p]=44):Lab.dropComma (s.drop p)=s.drop (p+1):=by
 rw[List.drop_eq_getElem_cons hp,Lab.dropComma,if_pos h]
theorem Zf {s:List UInt8}{p:Nat}(h:∀hp:p<s.length,s[p]≠44):Lab.dropComma (s.drop p)=s.drop p:=by
 rcases Nat.lt_or_ge p s.length with hp |hp
 ·rw[List.drop_eq_getElem_cons hp,Lab.dropComma,if_neg (h hp)]
 rw[List.drop_eq_nil_of_le hp];rfl
theorem Iha {s:List UInt8}{f at_ acc:Nat}(h:f=0\/s.length<=at_\/∃hp:at_<s.length,s[at_]=125):Lab.refP f (s.drop at_) acc=some acc:=by
 cases f with
 |zero=>rfl
 |succ f=>
  rcases h with h |h |⟨hp,h⟩
  ·omega
  ·rw[List.drop_eq_nil_of_le h];rfl
  rw[List.drop_eq_getElem_cons hp,Lab.refP,if_pos h]
theorem Sja {s:List UInt8}{f at_ acc:Nat}(hp:at_<s.length)(h:s[at_]≠125):Lab.refP (f+1) (s.drop at_) acc=match Lab.refStep (s.drop at_) with |none=>none |some x=>Lab.refP f x.2 (Lab.join acc x.1):=by
 conv=>lhs;rw[List.drop_eq_getElem_cons hp,Lab.refP,if_neg h]
 rw[<-List.drop_eq_getElem_cons hp];cases Lab.refStep (s.drop at_)<;>rfl
theorem U3 {s:List UInt8}{at_ p:Nat}(hp:s.drop p=(Lab.numR (s.drop at_)).2)(h:∀h:p<s.length,s[p]≠45):Lab.refStep (s.drop at_)=(Lab.numR (s.drop at_)).1.map λa=>(Lab.bitsFrom a a,Lab.dropComma (s.drop p)):=by
 unfold Lab.refStep;rw[<-hp];rcases Nat.lt_or_ge p s.length with hl |hl
 ·rw[List.drop_eq_getElem_cons hl]
  simp only[if_neg (h hl)]
 rw[List.drop_eq_nil_of_le hl];rfl
theorem V3 {s:List UInt8}{at_ p:Nat}(hp:s.drop p=(Lab.numR (s.drop at_)).2)(hl:p<s.length)(h:s[p]=45):Lab.refStep (s.drop at_)=match(Lab.numR (s.drop at_)).1,(Lab.numR (s.drop (p+1))).1 with |some a,some c=>some (Lab.bitsFrom a c,Lab.dropComma (Lab.numR (s.drop (p+1))).2) |_,_=>none:=by
 unfold Lab.refStep;rw[<-hp,List.drop_eq_getElem_cons hl];simp only[if_pos h];cases (Lab.numR (s.drop at_)).1<;>cases (Lab.numR (s.drop (p+1))).1<;>rfl
theorem Mn (acc a d:Nat):Lab.join (Lab.join acc (Lab.bitsTo a d)) (Lab.bit (a+d))=Lab.join acc (Lab.bitsTo a (d+1)):=by
 unfold Lab.join Lab.bit;rw[Bk,Nat.or_assoc]
theorem Hd (s:List UInt8)(w:World)(hs:s.length<=1000000):Calls Tryz.prog 44 #[.string ⟨s.toArray⟩] w (RefParseTold s w):=by
 have HBAD:=Qd (Lab.Spec.refBad (s:=s));have HOTH:=Qd (λo=>Lab.Spec.refOther (s:=s) (o:=o));go_enter Tryz.func44,Tryz.ntmps44
 go_wp2_with fail
 go_loop [4,5,6] (λlv av kv=>∃at_ acc k:Nat,k<=64/\at_<=1000001/\acc<18446744073709551616/\lv= .int .u64 (acc:Int)/\av= .int .i64 (at_:Int)/\kv= .int .i64 (k:Int)/\Hid (Lab.refP (64-k) (s.drop at_) acc=Lab.refP 64 (s.drop 1) 0)) (λ_ _ kv=>64-(intOf kv).toNat)
 case atStart=>exact⟨1,0,0,by omega,by omega,by omega,rfl,rfl,rfl,Qd rfl⟩
 case round=>
  obtain⟨at_,acc,k,hk,hat,hacc,rfl,rfl,rfl,H⟩:=hrel;have OUT:Hid (64-k=0\/s.length<=at_\/(∃hp:at_<s.length,s[at_]=125)->Lab.refP 64 (s.drop 1) 0=some acc):=Qd (λh=>by rw[<-H.out];exact Iha h);have END:Hid (Lab.refP 64 (s.drop 1) 0=some acc->(Lab.text acc=s->RefParseTold s w (.returned (.tuple #[.int .u64 (acc:Int),.bool true])) w)/\(Lab.text acc≠s->RefParseTold s w (.returned (.tuple #[.int .u64 0,.bool false])) w)):=Qd (λh=>⟨λe=> .yes (.inl ⟨rfl,hacc,e.symm⟩),λe=> .no (HOTH.out acc h e)⟩);have TX:=Qd (Yc acc w hacc);rw[Za] at TX;by_cases hk64:k<64
  ·by_cases hlt:at_<s.length
   ·obtain⟨x,hx⟩:∃x,x=s[at_].toNat:=⟨_,rfl⟩
    have hg:((⟨s.toArray⟩:ByteArray)[at_]'(show at_<(⟨s.toArray⟩:ByteArray).size from hlt)).toNat=x:=hx.symm;by_cases h125:x=125
    ·have HE:=Qd (END.out (OUT.out (.inr (.inr ⟨hlt,UInt8.toNat_inj.1 (by rw[<-hx,h125];rfl)⟩))))
     have h125a:((x:Int)!=125)=false:=by simp[h125]
     clear h125 hx END OUT;by_cases heq:Lab.text acc=s
     ·have HY:=Qd (HE.out.1 heq)
      rw[heq] at TX;clear heq HE;go_wp2_with (go_at_call 39;refine TX.out.mono ?_;rintro e w' ⟨rfl,rfl⟩)
      go_ret2
      exact HY.out
     have HY:=Qd (HE.out.2 heq);have hne:(Lab.text acc==s)=false:=by simpa using heq
     generalize Lab.text acc=T at*;clear heq HE;go_wp2_with (go_at_call 39;refine TX.out.mono ?_;rintro e w' ⟨rfl,rfl⟩)
     go_ret2
     exact HY.out
    have h125a:((x:Int)!=125)=true:=by simp;omega
    have GO:=Qd (Sja (f:=64-(k+1)) (acc:=acc) hlt (λe=>h125 (by rw[hx,e];rfl)));have HST:Hid (Lab.refP (64-(k+1)+1) (s.drop at_) acc=Lab.refP 64 (s.drop 1) 0):=Qd (by rw[show 64-(k+1)+1=64-k by omega];exact H.out);rw[GO.out] at HST;have N1:=Qd (Rh s at_ w hs (by omega));clear h125 hx END OUT TX GO H;go_wp2_with fail
    refine N1.out.mono ?_;rintro e w' ⟨rfl,to_,hto1,hto2,hto3,rfl⟩;have HTO:=Qd hto3;clear hto3;cases ha:(Lab.numR (s.drop at_)).1 with
    |none=>
     rw[show S3 none= -1 from rfl];by_cases hd:∃h:to_<s.length,s[to_]=45
     ·obtain⟨hl,h45⟩:=hd
      have hg2:((⟨s.toArray⟩:ByteArray)[to_]'(show to_<(⟨s.toArray⟩:ByteArray).size from hl)).toNat=45:=congrArg UInt8.toNat h45;have HN:Hid (Lab.refP 64 (s.drop 1) 0=none):=Qd (by rw[<-HST.out,V3 HTO.out hl h45,ha]);have HY:=Qd (RefParseTold.no (w:=w) (HBAD.out HN.out));have N2:=Qd (Rh s (to_+1) w hs (by omega));clear h45 ha HST HTO;go_wp2_with fail
      rw[show((to_:Int)+1)=((to_+1:Nat):Int) from rfl];refine N2.out.mono ?_;rintro e w' ⟨rfl,to2,_,_,_,rfl⟩;go_wp2_with fail
      go_ret2
      exact HY.out
     have h45:∀h:to_<s.length,s[to_]≠45:=λh e=>hd ⟨h,e⟩;have HN:Hid (Lab.refP 64 (s.drop 1) 0=none):=Qd (by rw[<-HST.out,U3 HTO.out h45,ha];rfl);have HY:=Qd (RefParseTold.no (w:=w) (HBAD.out HN.out));by_cases hl:to_<s.length
     ·obtain⟨y,hy⟩:∃y,y=s[to_].toNat:=⟨_,rfl⟩
      have hg2:((⟨s.toArray⟩:ByteArray)[to_]'(show to_<(⟨s.toArray⟩:ByteArray).size from hl)).toNat=y:=hy.symm;have h45a:((y:Int)==45)=false:=by
       rw[beq_eq_false_iff_ne];intro e;exact h45 hl (UInt8.toNat_inj.1 (by rw[<-hy,show y=45 by omega];rfl))
      clear hd h45 ha HST HTO hy;go_wp2_with fail
      go_ret2
      exact HY.out
     clear hd h45 ha HST HTO;go_wp2_with fail
     go_ret2
     exact HY.out
    |some a=>
     have ha64:=Lab.numR_lt ha;rw[show S3 (some a)=(a:Int) from rfl];by_cases hd:∃h:to_<s.length,s[to_]=45
     ·obtain⟨hl,h45⟩:=hd
      have hg2:((⟨s.toArray⟩:ByteArray)[to_]'(show to_<(⟨s.toArray⟩:ByteArray).size from hl)).toNat=45:=congrArg UInt8.toNat h45;have HS2:=Qd (V3 HTO.out hl h45);rw[ha] at HS2;have N2:=Qd (Rh s (to_+1) w hs (by omega));clear h45 ha;go_wp2_with fail
      rw[show((to_:Int)+1)=((to_+1:Nat):Int) from rfl];refine N2.out.mono ?_;rintro e w' ⟨rfl,to2,hb1,hb2,hb3,rfl⟩;have HT2:=Qd hb3;clear hb3 N2;cases hb:(Lab.numR (s.drop (to_+1))).1 with
      |none=>
       rw[show S3 none= -1 from rfl];have HN:Hid (Lab.refP 64 (s.drop 1) 0=none):=Qd (by rw[<-HST.out,HS2.out,hb]);have HY:=Qd (RefParseTold.no (w:=w) (HBAD.out HN.out));clear hb HST HTO HS2;go_wp2_with fail
       go_ret2
       exact HY.out
      |some b=>
       rw[show S3 (some b)=(b:Int) from rfl];have hb64:=Lab.numR_lt hb;have HREF:Hid (Lab.refP (64-(k+1)) (Lab.dropComma (s.drop to2)) (Lab.join acc (Lab.bitsFrom a b))=Lab.refP 64 (s.drop 1) 0):=Qd (by rw[<-HST.out,HS2.out,hb,HT2.out]);clear hb HST HTO HS2 HT2;go_wp2_with fail
       go_loop [4,10] (λlv tv=>∃t m:Nat,a<=t/\t<=64/\m<18446744073709551616/\tv= .int .i64 (t:Int)/\lv= .int .u64 (m:Int)/\Hid (m=Lab.join acc (Lab.bitsTo a (t-a))/\(t<=b+1\/t=a))) (λ_ tv=>128-(intOf tv).toNat)
       case atStart=>exact⟨a,acc,Lr,by omega,hacc,rfl,rfl,Qd ⟨by rw[Nat.sub_self];simp[Lab.join,Lab.bitsTo],.inr rfl⟩⟩
       case round=>
        obtain⟨t,m,ht1,ht2,hm,rfl,rfl,HM⟩:=hrel;by_cases hle:t<=b
        ·have ht3:t<64:=by omega
         have HS:Hid (Lab.join m (Lab.bit t)=Lab.join acc (Lab.bitsTo a (t+1-a))):=Qd (by
          have:=Mn acc a (t-a);rw[show a+(t-a)=t by omega,<-HM.out.1] at this;rw[this,show t+1-a=(t-a)+1 by omega])
         have hbl:Lab.bit t<18446744073709551616:=Lab.bit_lt ht3;have hjl:=Lab.join_lt hm hbl;have BT:=Qd (Po t w ht3);have JN:=Qd (Ze m (Lab.bit t) w hm hbl);generalize Lab.bit t=bt at*;go_wp2_with (first|(go_at_call 72;refine BT.out.mono ?_;rintro e w' ⟨rfl,rfl⟩) |(go_at_call 51;refine JN.out.mono ?_;rintro e w' ⟨rfl,rfl⟩))
         refine⟨⟨t+1,_,by omega,by omega,hjl,by go_num,rfl,Qd ⟨HS.out,.inl (by omega)⟩⟩,by simp[intOf];omega⟩
        have HE:Hid (m=Lab.join acc (Lab.bitsFrom a b)):=Qd (by
         rw[HM.out.1,Lab.bitsFrom];rcases HM.out.2 with h |h
         ·rw[show t-a=b+1-a by omega]
         rw[show t-a=0 by omega,show b+1-a=0 by omega])
        rw[<-HE.out] at HREF;clear HM;by_cases hpl:to2<s.length
        ·obtain⟨y,hy⟩:∃y,y=s[to2].toNat:=⟨_,rfl⟩
         have hgy:((⟨s.toArray⟩:ByteArray)[to2]'(show to2<(⟨s.toArray⟩:ByteArray).size from hpl)).toNat=y:=hy.symm;by_cases h44:y=44
         ·have HREF2:Hid (Lab.refP (64-(k+1)) (s.drop (to2+1)) m=Lab.refP 64 (s.drop 1) 0):=Qd (by rw[<-HREF.out,Cm hpl (UInt8.toNat_inj.1 (by rw[<-hy,h44];rfl))])
          have h44a:((y:Int)==44)=true:=by simp[h44]
          clear h44 hy;go_wp2_with fail
          exact⟨⟨to2+1,m,k+1,by omega,by omega,hm,rfl,by go_num,by go_num,HREF2⟩,by simp[intOf];omega⟩
         have HREF2:Hid (Lab.refP (64-(k+1)) (s.drop to2) m=Lab.refP 64 (s.drop 1) 0):=Qd (by
          rw[<-HREF.out,Zf (λ_ e=>h44 (by rw[hy,e];rfl))])
         have h44a:((y:Int)==44)=false:=by rw[beq_eq_false_iff_ne];omega
         clear h44 hy;go_wp2_with fail
         exact⟨⟨to2,m,k+1,by omega,by omega,hm,rfl,rfl,by go_num,HREF2⟩,by simp[intOf];omega⟩
        have HREF2:Hid (Lab.refP (64-(k+1)) (s.drop to2) m=Lab.refP 64 (s.drop 1) 0):=Qd (by
         rw[<-HREF.out,Zf (λh=>absurd h hpl)])
        go_wp2_with fail
        exact⟨⟨to2,m,k+1,by omega,by omega,hm,rfl,rfl,by go_num,HREF2⟩,by simp[intOf];omega⟩
     have h45:∀h:to_<s.length,s[to_]≠45:=λh e=>hd ⟨h,e⟩;have HREF:Hid (Lab.refP (64-(k+1)) (Lab.dropComma (s.drop to_)) (Lab.join acc (Lab.bitsFrom a a))=Lab.refP 64 (s.drop 1) 0):=Qd (by rw[<-HST.out,U3 HTO.out h45,ha];rfl);by_cases hl:to_<s.length
     ·obtain⟨y,hy⟩:∃y,y=s[to_].toNat:=⟨_,rfl⟩
      have hg2:((⟨s.toArray⟩:ByteArray)[to_]'(show to_<(⟨s.toArray⟩:ByteArray).size from hl)).toNat=y:=hy.symm;have h45a:((y:Int)==45)=false:=by
       rw[beq_eq_false_iff_ne];intro e;exact h45 hl (UInt8.toNat_inj.1 (by rw[<-hy,show y=45 by omega];rfl))
      clear hd h45 ha HST HTO hy;go_wp2_with fail
      clear hg2 h45a
      go_loop [4,10] (λlv tv=>∃t m:Nat,a<=t/\t<=64/\m<18446744073709551616/\tv= .int .i64 (t:Int)/\lv= .int .u64 (m:Int)/\Hid (m=Lab.join acc (Lab.bitsTo a (t-a))/\(t<=a+1\/t=a))) (λ_ tv=>128-(intOf tv).toNat)
      case atStart=>exact⟨a,acc,Lr,by omega,hacc,rfl,rfl,Qd ⟨by rw[Nat.sub_self];simp[Lab.join,Lab.bitsTo],.inr rfl⟩⟩
      case round=>
       obtain⟨t,m,ht1,ht2,hm,rfl,rfl,HM⟩:=hrel;by_cases hle:t<=a
       ·have ht3:t<64:=by omega
        have HS:Hid (Lab.join m (Lab.bit t)=Lab.join acc (Lab.bitsTo a (t+1-a))):=Qd (by
         have:=Mn acc a (t-a);rw[show a+(t-a)=t by omega,<-HM.out.1] at this;rw[this,show t+1-a=(t-a)+1 by omega])
        have hbl:Lab.bit t<18446744073709551616:=Lab.bit_lt ht3;have hjl:=Lab.join_lt hm hbl;have BT:=Qd (Po t w ht3);have JN:=Qd (Ze m (Lab.bit t) w hm hbl);generalize Lab.bit t=bt at*;go_wp2_with (first|(go_at_call 72;refine BT.out.mono ?_;rintro e w' ⟨rfl,rfl⟩) |(go_at_call 51;refine JN.out.mono ?_;rintro e w' ⟨rfl,rfl⟩))
        refine⟨⟨t+1,_,by omega,by omega,hjl,by go_num,rfl,Qd ⟨HS.out,.inl (by omega)⟩⟩,by simp[intOf];omega⟩
       have HE:Hid (m=Lab.join acc (Lab.bitsFrom a a)):=Qd (by
        rw[HM.out.1,Lab.bitsFrom];rcases HM.out.2 with h |h
        ·rw[show t-a=a+1-a by omega]
        rw[show t-a=0 by omega,show a+1-a=0 by omega])
       rw[<-HE.out] at HREF;clear HM;have hpl:=hl;obtain⟨y,hy⟩:∃y,y=s[to_].toNat:=⟨_,rfl⟩;have hgy:((⟨s.toArray⟩:ByteArray)[to_]'(show to_<(⟨s.toArray⟩:ByteArray).size from hpl)).toNat=y:=hy.symm;by_cases h44:y=44
       ·have HREF2:Hid (Lab.refP (64-(k+1)) (s.drop (to_+1)) m=Lab.refP 64 (s.drop 1) 0):=Qd (by rw[<-HREF.out,Cm hpl (UInt8.toNat_inj.1 (by rw[<-hy,h44];rfl))])
        have h44a:((y:Int)==44)=true:=by simp[h44]
        clear h44 hy;go_wp2_with fail
        exact⟨⟨to_+1,m,k+1,by omega,by omega,hm,rfl,by go_num,by go_num,HREF2⟩,by simp[intOf];omega⟩
       have HREF2:Hid (Lab.refP (64-(k+1)) (s.drop to_) m=Lab.refP 64 (s.drop 1) 0):=Qd (by
        rw[<-HREF.out,Zf (λ_ e=>h44 (by rw[hy,e];rfl))])
       have h44a:((y:Int)==44)=false:=by rw[beq_eq_false_iff_ne];omega
       clear h44 hy;go_wp2_with fail
       exact⟨⟨to_,m,k+1,by omega,by omega,hm,rfl,rfl,by go_num,HREF2⟩,by simp[intOf];omega⟩
     clear hd h45 ha HST HTO;go_wp2_with fail
     go_loop [4,10] (λlv tv=>∃t m:Nat,a<=t/\t<=64/\m<18446744073709551616/\tv= .int .i64 (t:Int)/\lv= .int .u64 (m:Int)/\Hid (m=Lab.join acc (Lab.bitsTo a (t-a))/\(t<=a+1\/t=a))) (λ_ tv=>128-(intOf tv).toNat)
     case atStart=>exact⟨a,acc,Lr,by omega,hacc,rfl,rfl,Qd ⟨by rw[Nat.sub_self];simp[Lab.join,Lab.bitsTo],.inr rfl⟩⟩
     case round=>
      obtain⟨t,m,ht1,ht2,hm,rfl,rfl,HM⟩:=hrel;by_cases hle:t<=a
      ·have ht3:t<64:=by omega
       have HS:Hid (Lab.join m (Lab.bit t)=Lab.join acc (Lab.bitsTo a (t+1-a))):=Qd (by
        have:=Mn acc a (t-a);rw[show a+(t-a)=t by omega,<-HM.out.1] at this;rw[this,show t+1-a=(t-a)+1 by omega])
       have hbl:Lab.bit t<18446744073709551616:=Lab.bit_lt ht3;have hjl:=Lab.join_lt hm hbl;have BT:=Qd (Po t w ht3);have JN:=Qd (Ze m (Lab.bit t) w hm hbl);generalize Lab.bit t=bt at*;go_wp2_with (first|(go_at_call 72;refine BT.out.mono ?_;rintro e w' ⟨rfl,rfl⟩) |(go_at_call 51;refine JN.out.mono ?_;rintro e w' ⟨rfl,rfl⟩))
       refine⟨⟨t+1,_,by omega,by omega,hjl,by go_num,rfl,Qd ⟨HS.out,.inl (by omega)⟩⟩,by simp[intOf];omega⟩
      have HE:Hid (m=Lab.join acc (Lab.bitsFrom a a)):=Qd (by
       rw[HM.out.1,Lab.bitsFrom];rcases HM.out.2 with h |h
       ·rw[show t-a=a+1-a by omega]
       rw[show t-a=0 by omega,show a+1-a=0 by omega])
      rw[<-HE.out] at HREF;clear HM;have hpl:=hl;have HREF2:Hid (Lab.refP (64-(k+1)) (s.drop to_) m=Lab.refP 64 (s.drop 1) 0):=Qd (by
       rw[<-HREF.out,Zf (λh=>absurd h hpl)])
      go_wp2_with fail
      exact⟨⟨to_,m,k+1,by omega,by omega,hm,rfl,rfl,by go_num,HREF2⟩,by simp[intOf];omega⟩
   have HE:=Qd (END.out (OUT.out (.inr (.inl (by omega)))));clear END OUT;by_cases heq:Lab.text acc=s
   ·have HY:=Qd (HE.out.1 heq)
    rw[heq] at TX;clear heq HE;go_wp2_with (go_at_call 39;refine TX.out.mono ?_;rintro e w' ⟨rfl,rfl⟩)
    go_ret2
    exact HY.out
   have HY:=Qd (HE.out.2 heq);have hne:(Lab.text acc==s)=false:=by simpa using heq
   generalize Lab.text acc=T at*;clear heq HE;go_wp2_with (go_at_call 39;refine TX.out.mono ?_;rintro e w' ⟨rfl,rfl⟩)
   go_ret2
   exact HY.out
  have HE:=Qd (END.out (OUT.out (.inl (by omega))));clear END OUT;by_cases heq:Lab.text acc=s
  ·have HY:=Qd (HE.out.1 heq)
   rw[heq] at TX;clear heq HE;go_wp2_with (go_at_call 39;refine TX.out.mono ?_;rintro e w' ⟨rfl,rfl⟩)
   go_ret2
   exact HY.out
  have HY:=Qd (HE.out.2 heq);have hne:(Lab.text acc==s)=false:=by simpa using heq
  generalize Lab.text acc=T at*;clear heq HE;go_wp2_with (go_at_call 39;refine TX.out.mono ?_;rintro e w' ⟨rfl,rfl⟩)
  go_ret2
  exact HY.out
end Go.Proofs.YtmiccalfamepdaaGreatDoor
