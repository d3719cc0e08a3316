/- Texts of this proof, joined. -/
import Derived.Test.YtogjgbmngagimaaGreatDoorM5
import Derived.Shelf.Spec.TrailingZeros
import Derived.LoopTactic
import Derived.Outline
set_option linter.all false
set_option maxHeartbeats 8000000
set_option maxRecDepth 100000
namespace Ones
def cnt:Nat->Nat->Nat
 | 0,_=>0
 |n+1,x=>x%2+cnt n (x/2)
theorem C6 (x:Nat):cnt 0 x=0:=rfl
theorem cnt_le (n:Nat):∀x,cnt n x<=n:=by
 induction n with
 |zero=>intro x;simp[cnt]
 |succ n ih=>intro x;have:=ih (x/2);rw[cnt];omega
theorem D6 (n x:Nat):cnt (n+8) x=cnt 8 (x%256)+cnt n (x/256):=by
 have e:x/2/2/2/2/2/2/2/2=x/256:=by omega
 simp only[cnt,e];omega
def Qc (c:Nat):Nat->Nat
 | 0=>0
 |n+1=>c+256*Qc c n
def bytes (f:Nat->Nat):Nat->Nat->Nat
 | 0,_=>0
 |n+1,x=>f (x%256)+256*bytes f n (x/256)
theorem Af (h l r c:Nat)(hl:l<256)(hc:c<256):(256*h+l)&&&(256*r+c)=256*(h&&&r)+(l&&&c):=by
 have hlc:l&&&c<2^8:=Nat.lt_of_le_of_lt Nat.and_le_left hl;apply Nat.eq_of_testBit_eq
 intro i;rw[Nat.testBit_and,show(256:Nat)=2^8 from rfl,Nat.testBit_two_pow_mul_add _ (show l<2^8 from hl),Nat.testBit_two_pow_mul_add _ (show c<2^8 from hc),Nat.testBit_two_pow_mul_add _ hlc]
 split<;>simp[Nat.testBit_and]
def f1 (b:Nat):Nat:=(b/2&&&0x55)+(b&&&0x55)
def f2 (b:Nat):Nat:=(b/4&&&0x33)+(b&&&0x33)
def f3 (b:Nat):Nat:=(b/16+b)%16
theorem b1:∀q,q<2->∀b,b<256->(128*q+b/2)&&&0x55=b/2&&&0x55:=by decide+kernel
theorem b2:∀q,q<4->∀b,b<256->(64*q+b/4)&&&0x33=b/4&&&0x33:=by decide+kernel
theorem lt1:∀b,b<256->f1 b<256:=by decide+kernel
theorem b3:∀b,b<256->f2 (f1 b)<69/\f2 (f1 b)%16<5/\f3 (f2 (f1 b))=cnt 8 b:=by decide+kernel
theorem Pba (n:Nat):∀x,(x/2&&&Qc 0x55 n)+(x&&&Qc 0x55 n)=bytes f1 n x:=by
 induction n with
 |zero=>intro x;simp[Qc,bytes]
 |succ n ih=>
  intro x;have ex:x=256*(x/256)+x%256:=by omega
  have ex2:x/2=256*(x/256/2)+(128*(x/256%2)+x%256/2):=by omega
  have er:Qc 0x55 (n+1)=256*Qc 0x55 n+0x55:=by rw[Qc];omega
  have h1:=Af (x/256) (x%256) (Qc 0x55 n) 0x55 (by omega) (by omega);have h2:=Af (x/256/2) (128*(x/256%2)+x%256/2) (Qc 0x55 n) 0x55 (by omega) (by omega);rw[<-ex2,<-er,b1 _ (by omega) _ (by omega)] at h2;rw[<-ex,<-er] at h1;rw[h1,h2,bytes,<-ih,f1];omega
theorem Qba (n:Nat):∀x,(x/4&&&Qc 0x33 n)+(x&&&Qc 0x33 n)=bytes f2 n x:=by
 induction n with
 |zero=>intro x;simp[Qc,bytes]
 |succ n ih=>
  intro x;have ex:x=256*(x/256)+x%256:=by omega
  have ex2:x/4=256*(x/256/4)+(64*(x/256%4)+x%256/4):=by omega
  have er:Qc 0x33 (n+1)=256*Qc 0x33 n+0x33:=by rw[Qc];omega
  have h1:=Af (x/256) (x%256) (Qc 0x33 n) 0x33 (by omega) (by omega);have h2:=Af (x/256/4) (64*(x/256%4)+x%256/4) (Qc 0x33 n) 0x33 (by omega) (by omega);rw[<-ex2,<-er,b2 _ (by omega) _ (by omega)] at h2;rw[<-ex,<-er] at h1;rw[h1,h2,bytes,<-ih,f2];omega
theorem Cw (f g:Nat->Nat)(hf:∀b,b<256->f b<256)(n:Nat):∀x,bytes g n (bytes f n x)=bytes (λb=>g (f b)) n x:=by
 induction n with
 |zero=>intro x;rfl
 |succ n ih=>
  intro x;have h:=hf (x%256) (by omega);rw[bytes,show bytes f (n+1) x%256=f (x%256) by rw[bytes];omega,show bytes f (n+1) x/256=bytes f n (x/256) by rw[bytes];omega,ih,bytes]
theorem Rba (n:Nat):∀x,(bytes (λb=>f2 (f1 b)) n x/16+bytes (λb=>f2 (f1 b)) n x)&&&Qc 0x0f n=bytes (cnt 8) n x:=by
 induction n with
 |zero=>intro x;simp[Qc,bytes]
 |succ n ih=>
  intro x;have hb:=b3 (x%256) (by omega);have hn:bytes (λb=>f2 (f1 b)) n (x/256)%16<5:=by
   cases n with
   |zero=>simp[bytes]
   |succ n=>
    have hb:=b3 (x/256%256) (by omega);rw[bytes];omega
  rw[bytes];have ih':=ih (x/256);generalize bytes (λb=>f2 (f1 b)) n (x/256)=Y at hn ih'⊢;generalize eg:f2 (f1 (x%256))=g at hb⊢;have er:Qc 0x0f (n+1)=256*Qc 0x0f n+0x0f:=by rw[Qc];omega
  have ey:(g+256*Y)/16+(g+256*Y)=256*(Y/16+Y)+(16*(Y%16)+(g/16+g)):=by omega
  rw[er,ey,Af _ _ _ _ (by omega) (by omega),ih',bytes,<-hb.2.2,f3];rw[show(16*(Y%16)+(g/16+g))&&&0x0f=(16*(Y%16)+(g/16+g))%16 from Nat.and_two_pow_sub_one_eq_mod _ 4];omega
def swar (x:Nat):Nat:=
 let x1:=(x/2&&&6148914691236517205)+(x&&&6148914691236517205)
 let x2:=(x1/4&&&3689348814741910323)+(x1&&&3689348814741910323)
 (x2/16+x2)&&&1085102592571150095
theorem B9 (x:Nat):swar x=bytes (cnt 8) 8 x:=by
 have r1:Qc 0x55 8=6148914691236517205:=by decide
 have r2:Qc 0x33 8=3689348814741910323:=by decide
 have r3:Qc 0x0f 8=1085102592571150095:=by decide
 unfold swar;rw[<-r1,<-r2,<-r3];simp only[Pba,Qba,Cw f1 f2 lt1,Rba]
theorem Jc {m n:Nat}(h:m=n+8)(x:Nat):cnt m x=cnt 8 (x%256)+cnt n (x/256):=by subst h;exact D6 n x
attribute [local irreducible] cnt
theorem Sba (x:Nat):cnt 64 x=cnt 8 (x%256)+(cnt 8 (x/256%256)+(cnt 8 (x/256/256%256)+(cnt 8 (x/256/256/256%256)+(cnt 8 (x/256/256/256/256%256)+(cnt 8 (x/256/256/256/256/256%256)+(cnt 8 (x/256/256/256/256/256/256%256)+(cnt 8 (x/256/256/256/256/256/256/256%256)+0))))))):=by
 rw[Jc (m:=64) (n:=56) rfl,Jc (m:=56) (n:=48) rfl,Jc (m:=48) (n:=40) rfl,Jc (m:=40) (n:=32) rfl,Jc (m:=32) (n:=24) rfl,Jc (m:=24) (n:=16) rfl,Jc (m:=16) (n:=8) rfl];have h:=Jc (m:=8) (n:=0) rfl (x/256/256/256/256/256/256/256);rw[C6] at h;rw[<-h]
theorem Et {n a b m:Nat}(h:n=a+m*b)(ha:a<m):n/m=b:=by
 rw[h,Nat.add_mul_div_left _ _ (by omega),Nat.div_eq_of_lt ha,Nat.zero_add]
theorem Tba (c0 c1 c2 c3 c4 c5 c6 c7:Nat)(l0:c0<=8)(l1:c1<=8)(l2:c2<=8)(l3:c3<=8)(l4:c4<=8)(l5:c5<=8)(l6:c6<=8)(l7:c7<=8)(z:Nat)(hz:z=c0+256*c1+65536*c2+16777216*c3+4294967296*c4+1099511627776*c5+281474976710656*c6+72057594037927936*c7):
 z<18446744073709551616/\z+z/256=(c0+c1)+256*(c1+c2)+65536*(c2+c3)+16777216*(c3+c4)+4294967296*(c4+c5)+1099511627776*(c5+c6)+281474976710656*(c6+c7)+72057594037927936*c7:=by
 have k:z/256=c1+256*c2+65536*c3+16777216*c4+4294967296*c5+1099511627776*c6+281474976710656*c7:=Et (a:=c0) (by clear l0 l1 l2 l3 l4 l5 l6 l7;omega) (by clear hz;omega);refine⟨by clear k;omega,?_⟩;rw[k,hz];clear k hz l0 l1 l2 l3 l4 l5 l6 l7;omega
theorem Uba (c0 c1 c2 c3 c4 c5 c6 c7:Nat)(l0:c0<=16)(l1:c1<=16)(l2:c2<=16)(l3:c3<=16)(l4:c4<=16)(l5:c5<=16)(l6:c6<=16)(l7:c7<=16)(z:Nat)(hz:z=c0+256*c1+65536*c2+16777216*c3+4294967296*c4+1099511627776*c5+281474976710656*c6+72057594037927936*c7):
 z<18446744073709551616/\z+z/65536=(c0+c2)+256*(c1+c3)+65536*(c2+c4)+16777216*(c3+c5)+4294967296*(c4+c6)+1099511627776*(c5+c7)+281474976710656*c6+72057594037927936*c7:=by
 have k:z/65536=c2+256*c3+65536*c4+16777216*c5+4294967296*c6+1099511627776*c7:=Et (a:=c0+256*c1) (by clear l0 l1 l2 l3 l4 l5 l6 l7;omega) (by clear hz;omega);refine⟨by clear k;omega,?_⟩;rw[k,hz];clear k hz l0 l1 l2 l3 l4 l5 l6 l7;omega
theorem Vba (c0 c1 c2 c3 c4 c5 c6 c7:Nat)(l0:c0<=32)(l1:c1<=32)(l2:c2<=32)(l3:c3<=32)(l4:c4<=32)(l5:c5<=32)(l6:c6<=32)(l7:c7<=32)(z:Nat)(hz:z=c0+256*c1+65536*c2+16777216*c3+4294967296*c4+1099511627776*c5+281474976710656*c6+72057594037927936*c7):
 z<18446744073709551616/\z+z/4294967296=(c0+c4)+256*(c1+c5)+65536*(c2+c6)+16777216*(c3+c7)+4294967296*c4+1099511627776*c5+281474976710656*c6+72057594037927936*c7:=by
 have k:z/4294967296=c4+256*c5+65536*c6+16777216*c7:=Et (a:=c0+256*c1+65536*c2+16777216*c3) (by clear l0 l1 l2 l3 l4 l5 l6 l7;omega) (by clear hz;omega);refine⟨by clear k;omega,?_⟩;rw[k,hz];clear k hz l0 l1 l2 l3 l4 l5 l6 l7;omega
theorem Wba (c0 c1 c2 c3 c4 c5 c6 c7:Nat)(l0:c0<=64)(l1:c1<=64)(l2:c2<=64)(l3:c3<=64)(l4:c4<=64)(l5:c5<=64)(l6:c6<=64)(l7:c7<=64)(z:Nat)(hz:z=c0+256*c1+65536*c2+16777216*c3+4294967296*c4+1099511627776*c5+281474976710656*c6+72057594037927936*c7):z<9223372036854775808/\z%128=c0:=by
 refine⟨by omega,?_⟩;have:z=c0+128*(2*c1+512*c2+131072*c3+33554432*c4+8589934592*c5+2199023255552*c6+562949953421312*c7):=by clear l0 l1 l2 l3 l4 l5 l6 l7;omega
 rw[this,Nat.add_mul_mod_self_left,Nat.mod_eq_of_lt (by clear hz this;omega)]
theorem Xba (c0 c1 c2 c3 c4 c5 c6 c7:Nat)(l0:c0<=8)(l1:c1<=8)(l2:c2<=8)(l3:c3<=8)(l4:c4<=8)(l5:c5<=8)(l6:c6<=8)(l7:c7<=8)(z:Nat)(hz:z=c0+256*c1+65536*c2+16777216*c3+4294967296*c4+1099511627776*c5+281474976710656*c6+72057594037927936*c7):
 z<18446744073709551616/\z+z/256<18446744073709551616/\(z+z/256)+(z+z/256)/65536<18446744073709551616/\
  ((z+z/256)+(z+z/256)/65536)+((z+z/256)+(z+z/256)/65536)/4294967296<9223372036854775808/\
  (((z+z/256)+(z+z/256)/65536)+((z+z/256)+(z+z/256)/65536)/4294967296)%128=c0+c1+c2+c3+c4+c5+c6+c7:=by
 obtain⟨a1,a2⟩:=Tba _ _ _ _ _ _ _ _ l0 l1 l2 l3 l4 l5 l6 l7 z hz;clear hz;refine⟨a1,?_⟩;generalize z+z/256=z1 at a2⊢;clear a1;obtain⟨b1,b2⟩:=Uba (c0+c1) (c1+c2) (c2+c3) (c3+c4) (c4+c5) (c5+c6) (c6+c7) c7 (by omega) (by omega) (by omega) (by omega) (by omega) (by omega) (by omega) (by omega) z1 a2;clear a2;refine⟨b1,?_⟩;generalize z1+z1/65536=z2 at b2⊢;clear b1;obtain⟨d1,d2⟩:=Vba ((c0+c1)+(c2+c3)) ((c1+c2)+(c3+c4)) ((c2+c3)+(c4+c5)) ((c3+c4)+(c5+c6)) ((c4+c5)+(c6+c7)) ((c5+c6)+c7) (c6+c7) c7 (by omega) (by omega) (by omega) (by omega) (by omega) (by omega) (by omega) (by omega) z2 b2;clear b2;refine⟨d1,?_⟩;generalize z2+z2/4294967296=z3 at d2⊢;clear d1;obtain⟨f1,f2⟩:=Wba (((c0+c1)+(c2+c3))+((c4+c5)+(c6+c7))) (((c1+c2)+(c3+c4))+((c5+c6)+c7)) (((c2+c3)+(c4+c5))+(c6+c7)) (((c3+c4)+(c5+c6))+c7) ((c4+c5)+(c6+c7)) ((c5+c6)+c7) (c6+c7) c7 (by omega) (by omega) (by omega) (by omega) (by omega) (by omega) (by omega) (by omega) z3 d2;clear d2;refine⟨f1,?_⟩;rw[f2];clear f1 f2;omega
theorem fold (x z:Nat)(hz:z=swar x):
 z<18446744073709551616/\z+z/256<18446744073709551616/\(z+z/256)+(z+z/256)/65536<18446744073709551616/\
  ((z+z/256)+(z+z/256)/65536)+((z+z/256)+(z+z/256)/65536)/4294967296<9223372036854775808/\
  (((z+z/256)+(z+z/256)/65536)+((z+z/256)+(z+z/256)/65536)/4294967296)%128=cnt 64 x:=by
 have:=Xba _ _ _ _ _ _ _ _ (cnt_le 8 (x%256)) (cnt_le 8 (x/256%256)) (cnt_le 8 (x/256/256%256)) (cnt_le 8 (x/256/256/256%256)) (cnt_le 8 (x/256/256/256/256%256)) (cnt_le 8 (x/256/256/256/256/256%256)) (cnt_le 8 (x/256/256/256/256/256/256%256)) (cnt_le 8 (x/256/256/256/256/256/256/256%256)) z
  (by
   rw[hz,B9];simp only[bytes];generalize cnt 8 (x%256)=c0;generalize cnt 8 (x/256%256)=c1;generalize cnt 8 (x/256/256%256)=c2;generalize cnt 8 (x/256/256/256%256)=c3;generalize cnt 8 (x/256/256/256/256%256)=c4;generalize cnt 8 (x/256/256/256/256/256%256)=c5;generalize cnt 8 (x/256/256/256/256/256/256%256)=c6;generalize cnt 8 (x/256/256/256/256/256/256/256%256)=c7;omega)
 rw[Sba];refine⟨this.1,this.2.1,this.2.2.1,this.2.2.2.1,?_⟩;rw[this.2.2.2.2];simp only[Nat.add_assoc,Nat.add_zero]
end Ones
namespace Go.Proofs.YtogjgbmngagimaaGreatDoor
open Go.RowKit
def Ft (x:Int):Int:=IntKind.u64.wrap (bits .and .u64 (x/2) 6148914691236517205+bits .and .u64 x 6148914691236517205)
def Gt (x:Int):Int:=IntKind.u64.wrap (bits .and .u64 (x/4) 3689348814741910323+bits .and .u64 x 3689348814741910323)
def Ht (x:Int):Int:=bits .and .u64 (IntKind.u64.wrap (x/16+x)) 1085102592571150095
def Q1 (x:Int):Int:=IntKind.u64.wrap (x+x/256)
def U1 (x:Int):Int:=IntKind.u64.wrap (x+x/65536)
def X1 (x:Int):Int:=IntKind.u64.wrap (x+x/4294967296)
theorem and_le_right (a m:Nat):a&&&m<=m:=Nat.and_le_right
theorem Uy (x:Nat)(hx:x<18446744073709551616):Ft (x:Int)=(((x/2&&&6148914691236517205)+(x&&&6148914691236517205):Nat):Int):=by
 unfold Ft;have h1:=u64_and_nat (x/2) 6148914691236517205 (by omega) (by omega);have h2:=u64_and_nat x 6148914691236517205 (by omega) (by omega);have l1:=and_le_right (x/2) 6148914691236517205;have l2:=and_le_right x 6148914691236517205;rw[show((x:Int)/2)=((x/2:Nat):Int) from by omega,show(6148914691236517205:Int)=((6148914691236517205:Nat):Int) from rfl,h1,h2];generalize x/2&&&6148914691236517205=a at l1⊢;generalize x&&&6148914691236517205=b at l2⊢;rw[IntWalk.u64_in _ (by omega)];omega
theorem Vy (x:Nat)(hx:x<18446744073709551616):Gt (x:Int)=(((x/4&&&3689348814741910323)+(x&&&3689348814741910323):Nat):Int):=by
 unfold Gt;have h1:=u64_and_nat (x/4) 3689348814741910323 (by omega) (by omega);have h2:=u64_and_nat x 3689348814741910323 (by omega) (by omega);have l1:=and_le_right (x/4) 3689348814741910323;have l2:=and_le_right x 3689348814741910323;rw[show((x:Int)/4)=((x/4:Nat):Int) from by omega,show(3689348814741910323:Int)=((3689348814741910323:Nat):Int) from rfl,h1,h2];generalize x/4&&&3689348814741910323=a at l1⊢;generalize x&&&3689348814741910323=b at l2⊢;rw[IntWalk.u64_in _ (by omega)];omega
theorem Wy (x:Nat)(hx:x<9223372036854775808):Ht (x:Int)=((x/16+x&&&1085102592571150095:Nat):Int):=by
 unfold Ht;rw[IntWalk.u64_in _ (by omega),show((x:Int)/16+x)=((x/16+x:Nat):Int) from by omega];exact u64_and_nat _ 1085102592571150095 (by omega) (by omega)
theorem E6 (x:Nat)(hx:x<18446744073709551616):bits .and .i64 (wrap64 (X1 (U1 (Q1 (Ht (Gt (Ft (x:Int)))))))) 127=(Ones.cnt 64 x:Int):=by
 have hl1:(x/2&&&6148914691236517205)+(x&&&6148914691236517205)<18446744073709551616:=by
  have l1:=and_le_right (x/2) 6148914691236517205;have l2:=and_le_right x 6148914691236517205;omega
 rw[Uy x hx];have e:(let x1:=(x/2&&&6148914691236517205)+(x&&&6148914691236517205)
  let x2:=(x1/4&&&3689348814741910323)+(x1&&&3689348814741910323)
  (x2/16+x2)&&&1085102592571150095)=Ones.swar x:=rfl
 revert e
 generalize(x/2&&&6148914691236517205)+(x&&&6148914691236517205)=y at hl1⊢;intro e;have hl2:(y/4&&&3689348814741910323)+(y&&&3689348814741910323)<9223372036854775808:=by
  have l1:=and_le_right (y/4) 3689348814741910323;have l2:=and_le_right y 3689348814741910323;omega
 rw[Vy y hl1]
 revert e
 simp only;generalize(y/4&&&3689348814741910323)+(y&&&3689348814741910323)=z at hl2⊢;intro e;rw[Wy z hl2];obtain⟨h1,h2,h3,h4,h5⟩:=Ones.fold x _ e;clear e;generalize(z/16+z)&&&1085102592571150095=t at h1 h2 h3 h4 h5⊢;unfold Q1 U1 X1;rw[IntWalk.u64_in ((t:Int)+t/256) (by omega),show((t:Int)+t/256)=((t+t/256:Nat):Int) from by omega];generalize t+t/256=a at h2 h3 h4 h5⊢;rw[IntWalk.u64_in ((a:Int)+a/65536) (by omega),show((a:Int)+a/65536)=((a+a/65536:Nat):Int) from by omega];generalize a+a/65536=b at h3 h4 h5⊢;rw[IntWalk.u64_in ((b:Int)+b/4294967296) (by omega),show((b:Int)+b/4294967296)=((b+b/4294967296:Nat):Int) from by omega];rw[<-h5];generalize b+b/4294967296=c at h4⊢;rw[IntWalk.wrap64_in _ ⟨by omega,by omega⟩];have hm:c%128<128:=Nat.mod_lt _ (by decide);show IntKind.i64.wrap ((BitVec.ofInt 64 (c:Int)&&&BitVec.ofInt 64 (127:Int)).toNat:Int)=_;rw[BitVec.toNat_and,BitVec.ofInt_natCast,BitVec.toNat_ofNat,Nat.mod_eq_of_lt (show c<2^64 by omega),show(BitVec.ofInt 64 (127:Int)).toNat=2^7-1 from by decide,Nat.and_two_pow_sub_one_eq_mod];generalize c%2^7=d at hm⊢;exact IntWalk.i64_in _ (by omega)
theorem F6 (x:Nat)(w:World)(hx:x<18446744073709551616):
 Calls Tryz.prog 154 #[.int .u64 (x:Int)] w λe w'=>e= .returned (.int .i64 (Ones.cnt 64 x:Int))/\w=w':=by
 have HL:=Qd (E6 x hx);go_enter Tryz.func154,Tryz.ntmps154
 go_wp2_with fail
 go_ret;exact⟨Wa HL.out,rfl⟩
theorem G6 (x:Nat)(w:World)(hx:x<18446744073709551616):
 Calls Tryz.prog 105 #[.int .u64 (x:Int)] w λe w'=>e= .returned (.int .i64 (Ones.cnt 64 x:Int))/\w=w':=by
 go_enter Tryz.func105,Tryz.ntmps105
 go_wp2_with (go_at_call 154;refine(F6 _ _ hx).mono ?_;rintro e w' ⟨rfl,rfl⟩)
 go_ret;exact⟨rfl,rfl⟩
def Tab64 (w:World):Prop:=TabAt 0 Lib.deBruijn64tab w
theorem Tab64.below {w w':World}{B:Nat}(h:Tab64 w)(hB:0<B)(hb:Below B w w'):Tab64 w':=λj hj=>(hb.cell (p:=⟨0,j,none⟩) hB).trans (h j hj)
theorem C9 (x k idx:Nat)(w:World)(hx0:((x:Int)==0)=false)
 (key:IntKind.u64.wrap (bits BinOp.and IntKind.u64 (x:Int) (IntKind.u64.wrap (-(x:Int)))*285870213051353865)/288230376151711744=(idx:Int))
 (hi:idx<64) (hk:k<64) (hcell:w.cell? ⟨0,idx,none⟩=some (.int .u8 k)):
 Calls Tryz.prog 106 #[.int .u64 x] w λe w'=>e= .returned (.int .i64 k)/\w=w':=by
 go_enter Tryz.func106,Tryz.ntmps106
 go_wp2_with (simp only[key])
 go_ret;exact⟨rfl,rfl⟩
theorem Haa (x:Nat)(hx:x<18446744073709551616)(h0:x≠0)(w:World)(hT:Tab64 w):
 Calls Tryz.prog 106 #[.int .u64 x] w λe w'=>e= .returned (.int .i64 (Lib.ctz 64 x))/\w=w':=by
 obtain⟨hlow,hk⟩:=Lib.lowest_bit 64 x h0 hx;obtain⟨hi,htab⟩:=Lib.deBruijn64_at _ hk;have hcell:=hT _ hi;rw[htab] at hcell;exact C9 x _ _ w (by simp;omega) (tz64_key x _ hx h0 hlow) hi hk hcell
theorem H6 {l:Nat}(hl:l<18446744073709551616)(h0:l≠0):Lab.tags l=Lib.ctz 64 l::Lab.tags (l&&&(l-1)):=by
 obtain⟨m,hm,hk⟩:=Lib.ctzFrom_spec 64 l (by omega) hl;have e:Lib.ctz 64 l=Lib.ctzFrom 64 l:=by simp[Lib.ctz,h0]
 rw[e];exact Lab.tags_step hm hk
theorem I6:(Tryz.prog.info? 3).map (λi=>(i.zero,i.size,i.bytes))=some (some (.int .i64 0),1,8):=by kernel_rfl
theorem J6 (l:Nat)(w:World)(hl:l<18446744073709551616)(hT:Tab64 w)(hB:0<w.heap.size):
 Calls Tryz.prog 65 #[.int .u64 (l:Int)] w λe w'=>∃v,e= .returned v/\w'.ownsRow w.heap.size 3 1 v (Lab.tags l).length ((Lab.tags l).map λt:Nat=>Value.int .i64 (t:Int))/\Below w.heap.size w w':=by
 obtain⟨i0,hi,hz0,hz1,hz2⟩:=info_parts I6;have hc:=Ones.cnt_le 64 l;have HT:=Qd hT;clear hT;go_enter Tryz.func65,Tryz.ntmps65
 go_wp2_with (first
  |(go_at_call 105;refine(G6 _ _ hl).mono ?_;rintro e w' ⟨rfl,rfl⟩)
  |(at_make;refine wpList_make_own _ rfl _ _ 26 rfl w.heap.size 3 i0 (.int .i64 0) 1 Tryz.underlying26 hi hz0 hz1 .i64 .i64 _ (Ones.cnt 64 l) rfl rfl rfl (by rw[hz2];omega) (by unfold maxLen;omega) Lr ?_;intro w0 hown0 hgrow0))
 have hbel0:Below w.heap.size w w0:=Br.grown hgrow0 Lr (by simp);clear hgrow0;go_loopw [0,3] (λx v wr=>∃(n:Nat) (done:List Nat),n<18446744073709551616/\x= .int .u64 (n:Int)/\Hid (done++Lab.tags n=Lab.tags l)/\
  wr.ownsRow w.heap.size 3 1 v done.length (done.map λt:Nat=>Value.int .i64 (t:Int))/\Below w.heap.size w wr) (λx _ _=>(intOf x).toNat)
 case atStart=>exact⟨l,[],hl,rfl,Qd rfl,hown0,hbel0⟩
 case round=>
  clear hown0 hbel0;obtain⟨n,done,hn,rfl,H,hown,hbel⟩:=hrel;by_cases h0:n=0
  ·subst h0
   go_wp2_with fail
   go_ret;refine⟨_,rfl,?_,hbel⟩;have:=H.out;rw[Lab.tags_zero,List.append_nil] at this;rw[<-this];exact hown
  have hne:(((n:Nat):Int)!=0)=true:=by simp;omega
  have hpos:1<=n:=by omega
  have HC:=Qd (H6 hn h0);have HD:Hid (done.length+1<=64):=by
   have h1:=Lab.tags_len l;rw[<-H.out,HC.out,List.length_append,List.length_cons] at h1;exact Nat.le_trans (by omega) h1
  have hd:=HD.out;have hsz:=hbel.size;have hTr:Tab64 w:=HT.out;have HTr:=Qd (hTr.below hB hbel);clear hTr;go_wp2_with (first
   |(go_at_call 106;refine(Haa _ hn h0 _ HTr.out).mono ?_;rintro e w' ⟨rfl,rfl⟩)
   |(at_builtin;refine wpList_append_own _ rfl _ _ 26 rfl w.heap.size 3 i0 (.int .i64 0) 1 8 Tryz.underlying26 hi hz0 hz1 hz2 rfl (by decide) _ _ _ rfl (hown.alloc _) ⟨wr.heap.size,0,none⟩ 1 1 [.int .i64 (Lib.ctz 64 n:Int)] rfl rfl (cell_one_new _ _ _) (by intro u hu;simp only[List.mem_singleton] at hu;subst hu;rfl) (by unfold maxLen;omega) (by omega) (by simp;omega) ?_;intro v1 w1 hown1 hgrow1 hnn1))
  have hbel1:Below w.heap.size w w1:=(hbel.alloc hsz _).grown hgrow1 (by simp;omega) (λk hk=>(hown.lt k hk).1);clear hown hgrow1 hnn1;have hand:bits BinOp.and IntKind.u64 (↑n) (↑n-1)=((n&&&(n-1):Nat):Int):=by
   rw[show((n:Int)-1)=((n-1:Nat):Int) from by omega];exact u64_and_nat n (n-1) hn (by omega)
  have hlt:=Lab.and_pred_lt h0;go_roundw
  case rel=>
   refine⟨n&&&(n-1),done++[Lib.ctz 64 n],by omega,congrArg (Value.int .u64) hand,Qd ?_,?_,hbel1⟩
   ·rw[List.append_assoc,List.singleton_append,<-HC.out];exact H.out
   simpa using hown1
  case measure=>
   rw[hand];simp only[intOf,Int.toNat_natCast];exact hlt
theorem Hk (l t:Nat)(w:World)(hl:l<18446744073709551616)(ht:t<=64):
 Calls Tryz.prog 70 #[.int .u64 (l:Int),.int .i64 (t:Int)] w λe w'=>e= .returned (.bool (l.testBit t))/\w=w':=by
 go_enter Tryz.func70,Tryz.ntmps70
 go_wp2
 go_loop [0,5] (λx i=>∃k n:Nat,k<=t/\n<18446744073709551616/\i= .int .i64 k/\x= .int .u64 (n:Int)/\Hid (n=l/2^k)) (λ_ i=>t-(intOf i).toNat)
 case atStart=>exact⟨0,l,Nat.zero_le _,hl,rfl,rfl,Qd (by simp)⟩
 case round=>
  obtain⟨k,n,hk,hn,rfl,rfl,H⟩:=hrel;by_cases hlt:k<t
  ·go_wp2
   go_round
   case rel=>exact⟨k+1,n/2,by omega,by omega,by go_num,by go_num,Qd (by rw[H.out,Nat.pow_succ,<-Nat.div_div_eq_div_mul])⟩
   case measure=>simp[intOf];omega
  go_wp2
  go_ret;have:k=t:=by omega
  subst this;refine⟨Aa ?_,rfl⟩;rw[Nat.testBit_eq_decide_div_mod_eq,<-H.out,Bool.eq_iff_iff];simp;omega
theorem Ik (t:Nat)(w:World)(ht:t<64):
 Calls Tryz.prog 76 #[.int .i64 (t:Int)] w λe w'=>e= .returned (.int .u64 (Lab.bit t:Int))/\w=w':=by
 go_enter Tryz.func76,Tryz.ntmps76
 go_wp2
 go_loop [3,4] (λx i=>∃k n:Nat,k<=t/\n<18446744073709551616/\i= .int .i64 k/\x= .int .u64 (n:Int)/\Hid (n=2^k)) (λ_ i=>t-(intOf i).toNat)
 case atStart=>exact⟨0,1,Nat.zero_le _,by omega,rfl,rfl,Qd (by simp)⟩
 case round=>
  obtain⟨k,n,hk,hn,rfl,rfl,H⟩:=hrel;by_cases hlt:k<t
  ·have hn2:n<9223372036854775808:=by
    rw[H.out];exact Nat.lt_of_le_of_lt (Nat.pow_le_pow_right (by decide) (by omega:k<=62)) (by decide)
   go_wp2
   go_round
   case rel=>exact⟨k+1,n*2,by omega,by omega,by go_num,by go_num,Qd (by rw[H.out,Nat.pow_succ])⟩
   case measure=>simp[intOf];omega
  go_wp2
  go_ret;have:k=t:=by omega
  subst this;exact⟨Wa (by rw[H.out];rfl),rfl⟩
theorem L6 (a b:Nat)(w:World)(ha:a<18446744073709551616)(hb:b<18446744073709551616):
 Calls Tryz.prog 61 #[.int .u64 (a:Int),.int .u64 (b:Int)] w λe w'=>e= .returned (.int .u64 (Lab.join a b:Int))/\w=w':=by
 go_enter Tryz.func61,Tryz.ntmps61
 go_wp2
 go_ret;exact⟨Wa (u64_or_nat a b ha hb),rfl⟩
theorem Xg (a b:Nat)(w:World)(ha:a<18446744073709551616)(hb:b<18446744073709551616):
 Calls Tryz.prog 75 #[.int .u64 (a:Int),.int .u64 (b:Int)] w λe w'=>e= .returned (.int .u64 (Lab.join a b:Int))/\w=w':=by
 go_enter Tryz.func75,Tryz.ntmps75
 go_wp2_with fail
 go_loop [5,6] (λx i=>∃k n:Nat,k<=64/\i= .int .i64 k/\x= .int .u64 (n:Int)/\Hid (n=Lab.sumBits (λt=>a.testBit t||b.testBit t) k)) (λ_ i=>64-(intOf i).toNat)
 case atStart=>exact⟨0,0,Nat.zero_le _,rfl,rfl,Qd rfl⟩
 case round=>
  obtain⟨k,n,hk,rfl,rfl,H⟩:=hrel;by_cases hlt:k<64
  ·have hn:n<Lab.bit k:=by rw[H.out];exact Lab.sumBits_lt _ _
   have hb2:Lab.bit k<=9223372036854775808:=Nat.pow_le_pow_right (n:=2) (by decide) (show k<=63 by omega);cases ea:a.testBit k<;>cases eb:b.testBit k
   all_goals
    go_wp2_with (first|(go_at_call 70;refine(Hk _ _ _ (by assumption) (by omega)).mono ?_;rintro e w' ⟨rfl,rfl⟩) |(go_at_call 76;refine(Ik _ _ (by omega)).mono ?_;rintro e w' ⟨rfl,rfl⟩))
    go_round
    case rel=>first|exact⟨k+1,n,by omega,by go_num,rfl,Qd (by rw[H.out,Lab.sumBits];simp[ea,eb])⟩ |exact⟨k+1,n+Lab.bit k,by omega,by go_num,by go_num,Qd (by rw[H.out,Lab.sumBits];simp[ea,eb,Lab.bit])⟩
    case measure=>simp[intOf];omega
  go_wp2_with fail
  go_ret;obtain rfl:k=64:=by omega
  exact⟨Wa (by rw[H.out,Lab.sum_join ha hb]),rfl⟩
theorem Y1 (n:Nat)(z:Int)(hn:n<18446744073709551616)(h1:z<64):bits BinOp.or IntKind.u64 (↑n) (IntKind.u64.wrap (2^z.toNat))=((n||| 2^z.toNat:Nat):Int):=by
 have hb:=Lab.bit_lt (t:=z.toNat) (by omega);have e:((2:Int)^z.toNat)=((2^z.toNat:Nat):Int):=by simp
 rw[e];generalize 2^z.toNat=m at hb⊢;rw[IntWalk.u64_in _ (by omega)];exact u64_or_nat _ _ hn hb
theorem M6 {w:World}{v1 v2:Value}{l1 l2:List Nat}(h1:IsRes w v1 l1)(h2:IsRes w v2 l2)(o1:Nt.Ok l1)(o2:Nt.Ok l2)(s1:l1.length<=1000000)(s2:l2.length<=1000000):
 Calls Tryz.prog 186 #[v1,v2] w λe w'=>∃v,e= .returned v/\IsRes w' v (Nt.digs (Nt.val l1*Nt.val l2))/\Below w.heap.size w w':=by
 obtain⟨A,c,rfl,a1,a2,a3,a4⟩:=h1;obtain⟨A',c',rfl,b1,b2,b3,b4⟩:=h2;exact My A A' c c' w.heap.size l1 l2 w a4 b4 Lr o1 o2 a1 b1 a2 b2 s1 s2
theorem N6 {w:World}{v1 v2:Value}{l1 l2:List Nat}(h1:IsRes w v1 l1)(h2:IsRes w v2 l2)(o1:Nt.Ok l1)(o2:Nt.Ok l2)(s1:l1.length<=1000000)(s2:l2.length<=1000000):
 Calls Tryz.prog 232 #[v1,v2] w λe w'=>∃v,e= .returned v/\IsRes w' v (Nt.digs (Nt.val l1+Nt.val l2))/\Below w.heap.size w w':=by
 obtain⟨A,c,rfl,a1,a2,a3,a4⟩:=h1;obtain⟨A',c',rfl,b1,b2,b3,b4⟩:=h2;exact Qm A A' c c' w.heap.size l1 l2 w a4 b4 Lr o1 o2 a1 b1 a2 b2 (by omega) (by omega)
theorem Bf (w:World)(l:List Nat)(h:l.length<=1000):IsRes (w.alloc (.cells (U l).toArray 186)) (.slice (some ⟨w.heap.size,0,none⟩) l.length l.length) l:=
 ⟨_,_,rfl,Lr,by omega,(λh=>by cases h),by
  have:=Lies.new w (U l) 186;exact this.more (by simp)⟩
theorem Z1 {a b:Nat}(h1:a<4294967296)(h2:b<4294967296):Nt.Ok [a,b]:=by
 intro d hd;rcases List.mem_cons.1 hd with rfl |hd
 ·exact h1
 rw[List.mem_singleton] at hd;subst hd;exact h2
theorem Nx (n:Nat):Nt.val [n%4294967296,n/4294967296]=n:=by simp[Nt.val];omega
theorem It (n:Int)(w:World)(h1: -9223372036854775808<=n)(h2:n<=9223372036854775807):
 Calls Tryz.prog 185 #[.int .i64 n] w (Ek w (decide (n<0)) (Nt.digs n.natAbs)):=by
 have HI2:Hid (∀(b:Bool) (A:Option Addr) (k c:Nat),(Tryz.prog.info? 218).map (·.size)=some (#[.bool b,.slice A k c]:Array Value).size):=Qd (λ_ _ _ _=>Ic);obtain⟨w1,hw1⟩:∃w1,w1=w.alloc (.cells #[.bool false,.slice none 0 0] 218):=⟨_,rfl⟩;have hb1:Below w.heap.size w w1:=by rw[hw1];exact Br.alloc Lr _
 have HG1:Hid (w1.heap[w.heap.size]? =some (.cells #[.bool false,.slice none 0 0] 218 (0,0))):=Qd (by rw[hw1];exact heap_alloc_new w _);have HW1:=Qd hw1;have HS1:Hid (w1.heap.size=w.heap.size+1):=Qd (by rw[hw1];simp);clear hw1;by_cases hn:0<=n
 ·obtain⟨m,rfl⟩:∃m:Nat,n=(m:Int):=⟨n.toNat,by omega⟩
  have hm1:m%4294967296<4294967296:=by omega
  have hm2:m/4294967296<4294967296:=by omega
  obtain⟨w2,hw2⟩:∃w2,w2=w1.alloc (.cells #[.int .u32 ((m%4294967296:Nat):Int),.int .u32 ((m/4294967296:Nat):Int)] 186):=⟨_,rfl⟩;have hr:IsRes w2 (.slice (some ⟨w1.heap.size,0,none⟩) 2 2) [m%4294967296,m/4294967296]:=by rw[hw2];exact Bf w1 [m%4294967296,m/4294967296] (by simp)
  have NM:=Sd false _ _ w2 ⟨hr,Z1 hm1 hm2,by show 2<=64;decide⟩;rw[Nx] at NM;have hnn:Rt.nrm false m=false:=by unfold Rt.nrm;simp
  rw[hnn,HS1.out] at NM;have HP:Hid (decide ((m:Int)<0)=false):=Qd (decide_eq_false (by omega));have HM:Hid ((m:Int).natAbs=m):=Qd (by omega);have hb2:Below w.heap.size w w2:=by rw[hw2];exact hb1.alloc hb1.size _
  have HG2:Hid (w2.heap[w.heap.size]? =some (.cells #[.bool false,.slice none 0 0] 218 (0,0))):=Qd (by rw[hw2];exact(Below.heap_alloc _ _ _ (Ja HG1.out)).trans HG1.out);have HNM:=Qd NM;have HW2:Hid (w2=w1.alloc (.cells #[.int .u32 ((m:Int)%4294967296),.int .u32 ((m:Int)/4294967296)] 186)):=Qd (by rw[hw2];simp);have e1:(m:Int)%4294967296<4294967296:=by omega
  have e2:(m:Int)/4294967296<4294967296:=by omega
  have e3:0<=(m:Int)%4294967296:=by omega
  have e4:0<=(m:Int)/4294967296:=by omega
  clear hw2 NM hnn hr hm1 hm2;go_enter Tryz.func185,Tryz.ntmps185
  go_wp2_with fail
  rw[<-HW1.out,<-HW2.out]
  (with_reducible refine HNM.out.mono ?_)
  rintro e w3 ⟨v3,rfl,hr3,hb3⟩;have HG3:=Qd ((hb3.block w.heap.size (Ja HG2.out)).trans HG2.out);have hbw3:=hb2.trans (hb3.mono hb2.size);have HR3:=Qd (hr3.setRow HG3.out (Ya _ _ _ _) #[.bool false,v3]);obtain⟨⟨A3,c3,rfl,-⟩,-⟩:=hr3;clear hb3 hb1 hb2 HNM;go_wp2_with (with_reducible refine wpList_store_row rfl 218 (.tmp 2) (.tmp 14) rfl w.heap.size #[.bool false,.slice A3 (Nt.digs m).length c3] rfl rfl 218 #[.bool false,.slice none 0 0] HG3.out (HI2.out _ _ _ _) rfl (Tb _ _ _ _) ?_)
  refine bodyPost_ret (results_cell_row (by rfl) _ _ w.heap.size 218 #[.bool false,.slice A3 (Nt.digs m).length c3] (0,0) _ (by rfl) (Ha HG3.out) Tryz.underlying218 rfl (HI2.out _ _ _ _)) rfl ⟨_,by rw[HP.out],by rw[HM.out];exact HR3.out,rBelow.setRow hbw3 Lr _⟩
 obtain⟨m,hm⟩:∃m:Nat,-1-n=(m:Int):=⟨(-1-n).toNat,by omega⟩;have hm63:m<=9223372036854775807:=by omega
 have hm1:m%4294967296<4294967296:=by omega
 have hm2:m/4294967296<4294967296:=by omega
 obtain⟨w2,hw2⟩:∃w2,w2=(w1.alloc (.cells #[.int .u32 ((m%4294967296:Nat):Int),.int .u32 ((m/4294967296:Nat):Int)] 186)).alloc (.cells #[.int .u32 1] 186):=⟨_,rfl⟩;have hr:IsRes w2 (.slice (some ⟨w1.heap.size,0,none⟩) 2 2) [m%4294967296,m/4294967296]:=by
  rw[hw2];exact(Bf w1 [m%4294967296,m/4294967296] (by simp)).below (Br.alloc Lr _)
 have hr':IsRes w2 (.slice (some ⟨w1.heap.size+1,0,none⟩) 1 1) [1]:=by
  have:=Bf (w1.alloc (.cells #[.int .u32 ((m%4294967296:Nat):Int),.int .u32 ((m/4294967296:Nat):Int)] 186)) [1] (by decide);rw[show(w1.alloc (.cells #[.int .u32 ((m%4294967296:Nat):Int),.int .u32 ((m/4294967296:Nat):Int)] 186)).heap.size=w1.heap.size+1 by simp] at this;rw[hw2];exact this
 have AD:=N6 hr hr' (Z1 hm1 hm2) (by intro d hd;rw[List.mem_singleton] at hd;subst hd;decide) (by simp) (by simp);rw[Nx,show Nt.val [1]=1 from rfl,HS1.out] at AD;have hnn:Rt.nrm true (m+1)=true:=by unfold Rt.nrm;simp
 have HP:Hid (decide (n<0)=true):=Qd (decide_eq_true (by omega));have HM:Hid (n.natAbs=m+1):=Qd (by omega);have hb2:Below w.heap.size w w2:=by rw[hw2];exact(hb1.alloc hb1.size _).alloc (by have:=hb1.size;simp;omega) _
 have HG2:Hid (w2.heap[w.heap.size]? =some (.cells #[.bool false,.slice none 0 0] 218 (0,0))):=Qd (by
  have hlt:=Ja HG1.out;rw[hw2];exact(Below.heap_alloc _ _ _ (by simp;omega)).trans ((Below.heap_alloc _ _ _ hlt).trans HG1.out))
 have HAD:=Qd AD;have HW2:Hid (w2=(w1.alloc (.cells #[.int .u32 ((m:Int)%4294967296),.int .u32 ((m:Int)/4294967296)] 186)).alloc (.cells #[.int .u32 1] 186)):=Qd (by rw[hw2];simp);have HNN:=Qd hnn;have hdl:(Nt.digs (m+1)).length<=64:=by
  have:=Nt.digs_len_lt (n:=m+1) (k:=2) (by omega);omega
 have e0:IntKind.i64.wrap (-1-n)=(m:Int):=by rw[hm];exact IntWalk.i64_in _ (by omega)
 have e1:(m:Int)%4294967296<4294967296:=by omega
 have e2:(m:Int)/4294967296<4294967296:=by omega
 have e3:0<=(m:Int)%4294967296:=by omega
 have e4:0<=(m:Int)/4294967296:=by omega
 have hneg:decide (0<=n)=false:=decide_eq_false hn;have e5:wrap64 (-1-n)=(m:Int):=IntWalk.wrap64_in _ (by omega)|>.trans hm;clear hw2 AD hnn hr hr' hm1 hm2 hm63 h2 hn h1 hm;go_enter Tryz.func185,Tryz.ntmps185
 go_wp2_with fail
 rw[<-HW1.out,<-HW2.out]
 (with_reducible refine HAD.out.mono ?_)
 rintro e w3 ⟨v3,rfl,hr3,hb3⟩;have HG3:=Qd ((hb3.block w.heap.size (Ja HG2.out)).trans HG2.out);have hbw3:=hb2.trans (hb3.mono hb2.size);have NM:=Sd true v3 _ w3 ⟨hr3,Nt.ok_digs _,hdl⟩;rw[Nt.val_digs,HNN.out] at NM;have HNM:=Qd NM;obtain⟨A3,c3,rfl,-⟩:=hr3;clear hb3 hb1 hb2 HAD NM;go_wp2_with fail
 (with_reducible refine HNM.out.mono ?_)
 rintro e w4 ⟨v4,rfl,hr4,hb4⟩;have HG4:=Qd ((hb4.block w.heap.size (Ja HG3.out)).trans HG3.out);have hbw4:=hbw3.trans (hb4.mono hbw3.size);have HR4:=Qd (hr4.setRow HG4.out (Ya _ _ _ _) #[.bool true,v4]);obtain⟨⟨A4,c4,rfl,-⟩,-⟩:=hr4;clear hb4 HNM;go_wp2_with (with_reducible refine wpList_store_row rfl 218 (.tmp 2) (.tmp 27) rfl w.heap.size #[.bool true,.slice A4 (Nt.digs (m+1)).length c4] rfl rfl 218 #[.bool false,.slice none 0 0] HG4.out (HI2.out _ _ _ _) rfl (Tb _ _ _ _) ?_)
 refine bodyPost_ret (results_cell_row (by rfl) _ _ w.heap.size 218 #[.bool true,.slice A4 (Nt.digs (m+1)).length c4] (0,0) _ (by rfl) (Ha HG4.out) Tryz.underlying218 rfl (HI2.out _ _ _ _)) rfl ⟨_,by rw[HP.out],by rw[HM.out];exact HR4.out,rBelow.setRow hbw4 Lr _⟩
section
open Go.RowKit Ar
theorem Jt {α:Type}[BEq α][LawfulBEq α]{l l':List α}{k:Nat}(h:k<l.length)(h':k<l'.length)(hne:l[k]≠l'[k]):(l==l')=false:=by
 rw[beq_eq_false_iff_ne];rintro rfl;exact hne rfl
theorem Em {α:Type}[BEq α][LawfulBEq α]{l l':List α}{k:Nat}(hl:l.length=l'.length)(hk:k=l.length)(h:l.take k=l'.take k):(l==l')=true:=by
 rw[beq_iff_eq];rwa[hk,List.take_length,hl,List.take_length] at h
theorem Vo {α:Type}[BEq α][LawfulBEq α]{l l':List α}(h:l.length≠l'.length):(l==l')=false:=by
 rw[beq_eq_false_iff_ne];rintro rfl;exact h rfl
theorem Ij {α:Type}{l l':List α}{k:Nat}(h:k<l.length)(h':k<l'.length)(he:l.take k=l'.take k)(hk:l[k]=l'[k]):l.take (k+1)=l'.take (k+1):=by
 rw[List.take_succ_eq_append_getElem h,List.take_succ_eq_append_getElem h',he,hk]
theorem Kb {B:Nat}{w w':World}(h:Below B w w')(n:Nat):Below B w (w'.drewN n):=⟨h.os,h.tape,h.output,h.size,h.block⟩
theorem Zb {w:World}{B:Nat}{A:Option Addr}{l:List Int}(h:Lies w B A (Sb l)){k:Nat}(hk:k<l.length):∃b off,A=some ⟨b,off,none⟩/\b<B/\w.cell? ⟨b,off+k,none⟩=some (.int .i64 l[k]):=by
 obtain⟨b,off,h1,h2,h3⟩:=h.at_ (k:=k) (by simpa [Sb] using hk);exact⟨b,off,h1,h2,by rw[h3];simp[Sb]⟩
theorem Wh {w:World}{B:Nat}{A:Option Addr}{l:List Nat}(h:Lies w B A (Ec l)){k:Nat}(hk:k<l.length):∃b off,A=some ⟨b,off,none⟩/\b<B/\w.cell? ⟨b,off+k,none⟩=some (.int .u32 (l[k]:Int)):=by
 obtain⟨b,off,h1,h2,h3⟩:=h.at_ (k:=k) (by simpa [Ec] using hk);exact⟨b,off,h1,h2,by rw[h3];simp[Ec]⟩
theorem Hq (l l':List Nat)(A A':Option Addr)(c c':Nat)(w:World)(B:Nat)(hA:Lies w B A (Ec l))(hA':Lies w B A' (Ec l'))(hn:l.length<=9223372036854775807)(hn':l'.length<=9223372036854775807):
 Calls Tryz.prog 159 #[.slice A l.length c,.slice A' l'.length c'] w λe w'=>e= .returned (.bool (l==l'))/\Below w.heap.size w w':=by
 have HA:=Qd hA;have HA':=Qd hA';clear hA hA';by_cases hne:l.length=l'.length
 ·have hd:(l.length !=l'.length)=false:=by simpa using hne
  have hln:l.length<=l'.length:=by omega
  have HN:=Qd hne;clear hne;go_enter Tryz.func159,Tryz.ntmps159
  go_wp2_with fail
  go_loopw [5,13] (λu i wr=>∃k n:Nat,k<=l.length/\i= .int .i64 k/\wr=w.drewN n/\Hid (l.take k=l'.take k)) (λu i _=>l.length-(intOf i).toNat)
  case atStart=>exact⟨0,0,Nat.zero_le _,rfl,rfl,Qd rfl⟩
  case round=>
   obtain⟨k,n,hk,rfl,rfl,HT⟩:=hrel;by_cases hlt:k<l.length
   ·have hlt':k<l'.length:=by omega
    obtain⟨b,off,rfl,hb,g0⟩:=Wh HA.out hlt;obtain⟨b',off',rfl,hb',g1⟩:=Wh HA'.out hlt';have HM:=Qd (Ij hlt hlt' HT.out);have HZ:=Qd (Jt (l:=l) (l':=l') hlt hlt');generalize l[k]=x at g0 HM HZ;generalize l'[k]=y at g1 HM HZ;have hk0:(0:Int)<=(k:Int):=by omega
    have hk1:(k:Int)<(l.length:Int):=by omega
    have hk2:(k:Int)<(l'.length:Int):=by omega
    by_cases hxy:x=y
    ·subst hxy
     have e1:(x !=x)=false:=by simp
     have HM2:=Qd (HM.out rfl);clear HM HZ;go_wp2_with fail
     go_quiet (fail)
     go_wp2_with fail
     go_roundw
     case rel=>exact⟨k+1,n+nq,by omega,by go_num,rfl,HM2⟩
     case measure=>simp[intOf];omega
    have e1:(x !=y)=true:=by simpa using hxy
    have HZ2:=Qd (HZ.out hxy);have e2:((x:Int)!=(y:Int))=true:=by simp;omega
    clear HM HZ hxy;go_wp2_with fail
    go_quiet (fail)
    go_wp2_with fail
    go_ret;exact⟨Aa (by rw[HZ2.out]),Kb (Kb Br _) _⟩
   have hke:k=l.length:=by omega
   have HZ2:=Qd (Em HN.out hke HT.out);clear hke HT;go_wp2_with fail
   go_ret;exact⟨Aa (by rw[HZ2.out]),Kb Br _⟩
 have hd:(l.length !=l'.length)=true:=by simpa using hne
 have HZ2:=Qd (Vo hne);clear hne;go_enter Tryz.func159,Tryz.ntmps159
 go_wp2_with fail
 go_ret;exact⟨Aa (by rw[HZ2.out]),Br⟩
theorem Dw (l l':List Int)(A A':Option Addr)(c c':Nat)(w:World)(B:Nat)(hA:Lies w B A (Sb l))(hA':Lies w B A' (Sb l'))(hn:l.length<=9223372036854775807)(hn':l'.length<=9223372036854775807):
 Calls Tryz.prog 46 #[.slice A l.length c,.slice A' l'.length c'] w λe w'=>e= .returned (.bool (l==l'))/\Below w.heap.size w w':=by
 have HA:=Qd hA;have HA':=Qd hA';clear hA hA';by_cases hne:l.length=l'.length
 ·have hd:(l.length !=l'.length)=false:=by simpa using hne
  have hln:l.length<=l'.length:=by omega
  have HN:=Qd hne;clear hne;go_enter Tryz.func46,Tryz.ntmps46
  go_wp2_with fail
  go_loopw [5] (λi wr=>∃k n:Nat,k<=l.length/\i= .int .i64 k/\wr=w.drewN n/\Hid (l.take k=l'.take k)) (λi _=>l.length-(intOf i).toNat)
  case atStart=>exact⟨0,0,Nat.zero_le _,rfl,rfl,Qd rfl⟩
  case round=>
   obtain⟨k,n,hk,rfl,rfl,HT⟩:=hrel;by_cases hlt:k<l.length
   ·have hlt':k<l'.length:=by omega
    obtain⟨b,off,rfl,hb,g0⟩:=Zb HA.out hlt;obtain⟨b',off',rfl,hb',g1⟩:=Zb HA'.out hlt';have HM:=Qd (Ij hlt hlt' HT.out);have HZ:=Qd (Jt (l:=l) (l':=l') hlt hlt');generalize l[k]=x at g0 HM HZ;generalize l'[k]=y at g1 HM HZ;have hk0:(0:Int)<=(k:Int):=by omega
    have hk1:(k:Int)<(l.length:Int):=by omega
    have hk2:(k:Int)<(l'.length:Int):=by omega
    by_cases hxy:x=y
    ·subst hxy
     have e1:(x !=x)=false:=by simp
     have HM2:=Qd (HM.out rfl);clear HM HZ;go_wp2_with fail
     go_quiet (fail)
     go_wp2_with fail
     go_roundw
     case rel=>exact⟨k+1,n+nq,by omega,by go_num,rfl,HM2⟩
     case measure=>simp[intOf];omega
    have e1:(x !=y)=true:=by simpa using hxy
    have HZ2:=Qd (HZ.out hxy)
    skip
    clear HM HZ hxy;go_wp2_with fail
    go_quiet (fail)
    go_wp2_with fail
    go_ret;exact⟨Aa (by rw[HZ2.out]),Kb (Kb Br _) _⟩
   have hke:k=l.length:=by omega
   have HZ2:=Qd (Em HN.out hke HT.out);clear hke HT;go_wp2_with fail
   go_ret;exact⟨Aa (by rw[HZ2.out]),Kb Br _⟩
 have hd:(l.length !=l'.length)=true:=by simpa using hne
 have HZ2:=Qd (Vo hne);clear hne;go_enter Tryz.func46,Tryz.ntmps46
 go_wp2_with fail
 go_ret;exact⟨Aa (by rw[HZ2.out]),Br⟩
theorem Jj (l l':List Nat)(A A':Option Addr)(c c':Nat)(w:World)(B:Nat)(hA:Lies w B A (Ec l))(hA':Lies w B A' (Ec l'))(hn:l.length<=9223372036854775807)(hn':l'.length<=9223372036854775807):
 Calls Tryz.prog 131 #[.slice A l.length c,.slice A' l'.length c'] w λe w'=>e= .returned (.bool (l==l'))/\Below w.heap.size w w':=by
 have HA:=Qd hA;have HA':=Qd hA';clear hA hA';by_cases hne:l.length=l'.length
 ·have hd:(l.length !=l'.length)=false:=by simpa using hne
  have hln:l.length<=l'.length:=by omega
  have HN:=Qd hne;clear hne;go_enter Tryz.func131,Tryz.ntmps131
  go_wp2_with fail
  go_loopw [5] (λi wr=>∃k n:Nat,k<=l.length/\i= .int .i64 k/\wr=w.drewN n/\Hid (l.take k=l'.take k)) (λi _=>l.length-(intOf i).toNat)
  case atStart=>exact⟨0,0,Nat.zero_le _,rfl,rfl,Qd rfl⟩
  case round=>
   obtain⟨k,n,hk,rfl,rfl,HT⟩:=hrel;by_cases hlt:k<l.length
   ·have hlt':k<l'.length:=by omega
    obtain⟨b,off,rfl,hb,g0⟩:=Wh HA.out hlt;obtain⟨b',off',rfl,hb',g1⟩:=Wh HA'.out hlt';have HM:=Qd (Ij hlt hlt' HT.out);have HZ:=Qd (Jt (l:=l) (l':=l') hlt hlt');generalize l[k]=x at g0 HM HZ;generalize l'[k]=y at g1 HM HZ;have hk0:(0:Int)<=(k:Int):=by omega
    have hk1:(k:Int)<(l.length:Int):=by omega
    have hk2:(k:Int)<(l'.length:Int):=by omega
    by_cases hxy:x=y
    ·subst hxy
     have e1:(x !=x)=false:=by simp
     have HM2:=Qd (HM.out rfl);clear HM HZ;go_wp2_with fail
     go_quiet (fail)
     go_wp2_with fail
     go_roundw
     case rel=>exact⟨k+1,n+nq,by omega,by go_num,rfl,HM2⟩
     case measure=>simp[intOf];omega
    have e1:(x !=y)=true:=by simpa using hxy
    have HZ2:=Qd (HZ.out hxy);have e2:((x:Int)!=(y:Int))=true:=by simp;omega
    clear HM HZ hxy;go_wp2_with fail
    go_quiet (fail)
    go_wp2_with fail
    go_ret;exact⟨Aa (by rw[HZ2.out]),Kb (Kb Br _) _⟩
   have hke:k=l.length:=by omega
   have HZ2:=Qd (Em HN.out hke HT.out);clear hke HT;go_wp2_with fail
   go_ret;exact⟨Aa (by rw[HZ2.out]),Kb Br _⟩
 have hd:(l.length !=l'.length)=true:=by simpa using hne
 have HZ2:=Qd (Vo hne);clear hne;go_enter Tryz.func131,Tryz.ntmps131
 go_wp2_with fail
 go_ret;exact⟨Aa (by rw[HZ2.out]),Br⟩
end
section
open Go.RowKit
section
variable {P : Program} {ops : Array Oper} {Q : Exit -> Act -> World -> Prop} {md : Region.Mode}
end
end
section
open Go.RowKit
section
variable {P : Program} {ops : Array Oper} {Q : Exit -> Act -> World -> Prop} {md : Region.Mode}
end
end
section
open Go.RowKit
section
variable {P : Program} {ops : Array Oper} {Q : Exit -> Act -> World -> Prop} {md : Region.Mode}
end
end
section
open Go.RowKit
section
variable {P : Program} {ops : Array Oper} {Q : Exit -> Act -> World -> Prop} {md : Region.Mode}
def Jk (frame:(Nat->Value)->Act)(R:Nat->Value->Prop)(S:(Nat->Value)->World->Prop)(xs:Nat->Value)(i:Nat)(a':Act)(w':World):Prop:=∃v,a'=frame (La xs i v)/\R i v/\S (La xs i v) w'
theorem Ew (acts:List Nat)(frame:(Nat->Value)->Act)(R:Nat->Value->Prop)(S:Nat->(Nat->Value)->World->Prop)
 (step:∀i xs w k,i<ops.size->i∉acts->S k xs w->(∀j,Mb md ops i j=true->R j (xs j))->(∀m j,acts[m]? =some j->m<k->Mb md ops j i=false)->wpOp P ops Q i (Jk frame R (S k) xs i) (frame xs) w)
 (act:∀m i xs w,acts[m]? =some i->S m xs w->(∀j,Mb md ops i j=true->R j (xs j))->wpOp P ops Q i (Jk frame R (S (m+1)) xs i) (frame xs) w)
 (done:∀xs w,S acts.length xs w->(∀i,i<ops.size->R i (xs i))->Q .normal (frame xs) w)
 (hchain:∀m i j,acts[m]? =some j->acts[m+1]? =some i->Mb md ops i j=true) (hnd:acts.Nodup) (hacts:∀i∈acts,i<ops.size)
 (hops:∀i,i<ops.size->∀o,ops[i]? =some o->∀e∈o.after,Region.binds md e=true->e.on<i)
 (xs0:Nat->Value) (w1:World) (hw1:S 0 xs0 w1):wpAny P md ops Q ops.size (Array.replicate ops.size false) (frame xs0) w1:=by
 refine Xe (λl a w=>l.size=ops.size/\∃k xs,k<=acts.length/\a=frame xs/\S k xs w/\(∀m i,acts[m]? =some i->(l[i]? =some true↔m<k))/\(∀i,i<ops.size->l[i]? =some true->R i (xs i))/\∀i j,l[j]? =some true->Mb md ops j i=true->l[i]? =some true) ?_ ?_ ops.size _ _ _ (by simp)
  ⟨by simp,0,xs0,Nat.zero_le _,rfl,hw1,λm i hm=>⟨λh=>by
   have:=hacts i (List.mem_of_getElem? hm);simp[this] at h,λh=>by omega⟩,λi hi h=>by simp[hi] at h,λi j h=>by simp[Array.getElem?_replicate] at h⟩
 ·rintro l a w ⟨hl,k,xs,hk,rfl,hS,hm,hx,hd⟩ i hi
  obtain⟨h1,h2,h3⟩:=Wc hi;have hli:l[i]? =some false:=by
   rw[Array.getD_eq_getD_getElem?] at h2;rw[Array.getElem?_eq_getElem (by omega)] at h2⊢;simp at h2;rw[h2]
  have hlt:∀j,Mb md ops i j=true->j<i:=by
   intro j hj;unfold Mb at hj;rw[Array.getElem?_eq_getElem h1] at hj;simp only[List.any_eq_true,Bool.and_eq_true,beq_iff_eq] at hj;obtain⟨e,he',rfl,hbi⟩:=hj;exact hops i h1 _ (Array.getElem?_eq_getElem h1) e (by simpa using he') hbi
  have hlj:∀j,Mb md ops i j=true->l[j]? =some true:=λj hj=>Xi (Vg h3 hj);have hdep:∀j,Mb md ops i j=true->R j (xs j):=λj hj=>hx j (by have:=hlt j hj;omega) (hlj j hj);have hR:∀v,R i v->∀j,j<ops.size->(l.setIfInBounds i true)[j]? =some true->R j (La xs i v j):=by
   intro v hv j hj hlj';by_cases e':j=i
   ·subst e';simp only[La,if_true];exact hv
   simp only[La,if_neg e'];rw[Array.getElem?_setIfInBounds_ne (λh=>e' h.symm)] at hlj';exact hx j hj hlj'
  have hD:∀i' j',(l.setIfInBounds i true)[j']? =some true->Mb md ops j' i'=true->(l.setIfInBounds i true)[i']? =some true:=by
   intro i' j' hj' hdd;have h4:l[i']? =some true:=by
    by_cases e:j'=i
    ·subst e;exact hlj i' hdd
    rw[Array.getElem?_setIfInBounds_ne (λh=>e h.symm)] at hj';exact hd i' j' hj' hdd
   by_cases e:i'=i
   ·subst e;rw[hli] at h4;cases h4
   rw[Array.getElem?_setIfInBounds_ne (λh=>e h.symm)];exact h4
  by_cases hia:i∈acts
  ·obtain⟨m,hmi⟩:=List.getElem?_of_mem hia
   have hmk:¬m<k:=λh=>by rw[(hm m i hmi).2 h] at hli;cases hli
   have hkm:m=k:=by
    cases m with
    |zero=>omega
    |succ m=>
     obtain⟨j,hj⟩:∃j,acts[m]? =some j:=by
      have:m+1<acts.length:=(List.getElem?_eq_some_iff.1 hmi).1;exact⟨_,List.getElem?_eq_getElem (by omega)⟩
     have:=(hm m j hj).1 (hlj j (hchain m i j hj hmi));omega
   subst hkm;have hml:m<acts.length:=(List.getElem?_eq_some_iff.1 hmi).1;refine wpOp_mono ?_ (act m i xs w hmi hS hdep);rintro a' w' ⟨v,rfl,hv,hS'⟩;refine⟨by simpa using hl,m+1,La xs i v,hml,rfl,hS',λm' i' hmi'=>?_,hR v hv,hD⟩;by_cases e:m'=m
   ·subst e
    have e2:i'=i:=by rw[hmi] at hmi';exact(Option.some.inj hmi').symm
    subst e2;rw[Array.getElem?_setIfInBounds_self_of_lt (by omega)];exact⟨λ_=>by omega,λ_=>rfl⟩
   have hne:i≠i':=λe3=>by
    subst e3;exact e ((List.getElem?_inj (List.getElem?_eq_some_iff.1 hmi').1 hnd).1 (hmi'.trans hmi.symm))
   rw[Array.getElem?_setIfInBounds_ne hne,hm m' i' hmi'];omega
  refine wpOp_mono ?_ (step i xs w k h1 hia hS hdep (λm j hjm hmk=>by exact(Bool.not_eq_true _).mp (λhdd=>by have:=hd i j ((hm m j hjm).2 hmk) hdd;rw[hli] at this;cases this)));rintro a' w' ⟨v,rfl,hv,hS'⟩;refine⟨by simpa using hl,k,La xs i v,hk,rfl,hS',λm' i' hmi'=>?_,hR v hv,hD⟩;have hne:i≠i':=λe3=>by subst e3;exact hia (List.mem_of_getElem? hmi')
  rw[Array.getElem?_setIfInBounds_ne hne];exact hm m' i' hmi'
 rintro l a w ⟨hl,k,xs,hk,rfl,hS,hm,hx,hd⟩ hr;have hall:∀n i,i<n->i<ops.size->l[i]? =some true:=by
  intro n
  induction n with
  |zero=>intro i h;omega
  |succ n ih=>
   intro i hi his;by_cases e:i<n
   ·exact ih i e his
   have hie:i=n:=by omega
   subst hie;cases h:l[i]? with
   |none=>rw[Array.getElem?_eq_none_iff] at h;omega
   |some b=>
    cases b
    ·exfalso
     have:i∈Region.ready md ops l:=by
      simp only[Region.ready,List.mem_filter,List.mem_range,Bool.and_eq_true,Bool.not_eq_true'];refine⟨his,by rw[Array.getD_eq_getD_getElem?,h];rfl,?_⟩;rw[Array.getElem?_eq_getElem his];simp only[Option.map_some,Option.getD_some,Array.all_eq_true_iff_forall_mem];intro e he;cases hbi:Region.binds md e
      ·simp
      have hlt:=hops i his _ (Array.getElem?_eq_getElem his) e he hbi;rw[Array.getD_eq_getD_getElem?,ih e.on hlt (by omega)];simp
     rw[hr] at this;cases this
    rfl
 have hkl:k=acts.length:=by
  rcases Nat.lt_or_ge k acts.length with h |h
  ·have h1:=hacts _ (List.getElem_mem h)
   have h2:=(hm k _ (List.getElem?_eq_getElem h)).1 (hall (acts[k]+1) _ (by omega) h1);omega
  omega
 subst hkl;exact done xs w hS (λi hi=>hx i hi (hall (i+1) i (by omega) hi))
theorem Kg (acts:List Nat)(frame:(Nat->Value)->Act)(R:Nat->Value->Prop)(S:Nat->(Nat->Value)->World->Prop){id:Nat}{a:Act}{w:World}(hm:P.follows .mixedOrders=true)
 (hchain:(List.range acts.length).all (λm=>match acts[m]?,acts[m+1]? with
  |some j,some i=>Mb .any ops i j
  |_,_=>true)=true) (hnd:decide acts.Nodup=true) (hacts:acts.all (λi=>decide (i<ops.size))=true)
 (hops:ops.toList.zipIdx.all (λp=>p.1.after.all λe=> !Region.binds .any e||decide (e.on<p.2))=true)
 (xs0:Nat->Value) (ha:a=frame xs0) (hw:S 0 xs0 w.drew)
 (step:∀i xs w k,i<ops.size->i∉acts->S k xs w->(∀j,Mb .any ops i j=true->R j (xs j))->(∀m j,acts[m]? =some j->m<k->Mb .any ops j i=false)->wpOp P ops Q i (Jk frame R (S k) xs i) (frame xs) w)
 (act:∀m i xs w,acts[m]? =some i->S m xs w->(∀j,Mb .any ops i j=true->R j (xs j))->wpOp P ops Q i (Jk frame R (S (m+1)) xs i) (frame xs) w)
 (done:∀xs w,S acts.length xs w->(∀i,i<ops.size->R i (xs i))->Q .normal (frame xs) w):(Code.region id ops true).wp P Q a w:=by
 subst ha;refine wp_region_any hm (Ew acts frame R S step act done ?_ (of_decide_eq_true hnd) ?_ ?_ xs0 _ hw)
 ·intro m i j hj hi
  rw[List.all_eq_true] at hchain;have h:=hchain m (by
   rw[List.mem_range];exact(List.getElem?_eq_some_iff.1 hj).1)
  rw[hj,hi] at h;exact h
 ·intro i hi
  rw[List.all_eq_true] at hacts
  simpa using hacts i hi
 intro i hi o ho e he hbi;rw[List.all_eq_true] at hops;have h:=hops (o,i) (by
  rw[List.mem_zipIdx_iff_getElem?]
  simpa using ho)
 rw[Array.all_eq_true_iff_forall_mem] at h;have h':=h e he;rw[hbi] at h'
 simpa using h'
end
end
theorem Kk (B b:Nat)(l s:List UInt8)(w:World)(h:Lib.IsBuilderF 55 5 B b (Lib.byteCells l) w)(hlen:l.length+s.length<=140737488355328)(hBw:B<=w.heap.size):
 Calls Tryz.prog 26 #[.pointer (some ⟨b,0,none⟩),.string ⟨s.toArray⟩] w λe w'=>(∃v,e= .returned v)/\Lib.IsBuilderF 55 5 B b (Lib.byteCells (l++s)) w'/\Below B w w':=by
 refine(Any.Builder_WriteString_k Nb Jb B b _ ⟨s.toArray⟩ w h (by rw[Lib.byteCells_length];exact hlen) hBw).mono ?_;rintro e w' ⟨he,hbd,hb,-⟩;exact⟨⟨_,he⟩,.inr (by rw[Lib.byteCells_append];exact hbd),hb⟩
theorem Lb {w w':World}{T e:TypeId}{B b:Nat}{bs:List Value}(h:Lib.IsBuilderF T e B b bs w)(hb:Below w.heap.size w w'):Lib.IsBuilderF T e B b bs w':=by
 have one:∀{p:Value},Lib.BuilderAtF T e B b p bs w->Lib.BuilderAtF T e B b p bs w':=λ{p} k=>by
  obtain⟨h1,v,h2,h3,h4⟩:=k;refine⟨h1,v,(hb.block b (Array.getElem?_eq_some_iff.1 h2).1).trans h2,⟨h3.1,?_⟩,h4⟩;rcases h3.2 with h0 |⟨g,cap,cur,fz,e1,e2,e3,r⟩
  ·exact .inl h0
  exact .inr ⟨g,cap,cur,fz,e1,e2,(hb.block g (Array.getElem?_eq_some_iff.1 e3).1).trans e3,r⟩
 exact h.imp one one
theorem Kt (w:World):Lib.IsBuilderF 55 5 w.heap.size w.heap.size (Lib.byteCells []) (w.alloc (.cells #[.pointer none,.slice none 0 0] 55)):=
 Lib.IsBuilderF.of (.inl ⟨Lr,.slice none 0 0,heap_alloc_new w _,World.ownsRow_nil _ _ _ _,by simp[Value.ownBlock]⟩)
end Go.Proofs.YtogjgbmngagimaaGreatDoor
