/-
  Texts of this proof, joined (by wip/bin/bundle.py): Shelf, Fmt, NatPar, NatPar2, NatTxt, NatTxt2, Tok3, Tok4, Tok5, Tok6, Dig5, Long4.
-/
import Derived.Test.YtceplkpjnebnfaaGreatDoorM7
import Derived.Shelf.Strings.Builder1
import Derived.Shelf.Strings.Builder2
import Derived.Shelf.Strings.Trim
import Derived.Shelf.Small.Utf8
import Derived.Shelf.Small.Bits
import Derived.Shelf.Small.Strs
import Derived.Shelf.Small.Wraps
import Derived.Shelf.Strings.BuilderF
import Derived.Shelf.Strings.BuilderK
import Derived.Shelf.Utf8.AppendRune
import Derived.Shelf.Utf8.AppendRunePlain
import Derived.Shelf.Strconv.Itoa0
import Derived.Shelf.Strconv.Itoa1
import Derived.Shelf.LaysM
import Derived.Shelf.Strconv.Itoa2
import Derived.Shelf.Strings.Search1
import Derived.Shelf.Strings.Prefix
import Derived.Shelf.Strings.Runes
import Derived.Shelf.Strings.AsciiSet
import Derived.Shelf.Bits.Mul64
import Derived.Shelf.Strings.Repeat
import Derived.Shelf.Unicode.DecodeSlow
import Derived.Test.YtceplkpjnebnfaaGreatDoorProg
import Derived.Lib.ItoaMem
import Derived.Lib.Walk
import Derived.Lib.Hide
import Derived.WalkKit
import Derived.BigCall
import Derived.BigGuard
import Derived.ProofKit
import Derived.Below
import Derived.Lib.OthersKept
import Derived.Lib.RuneBytes
import Derived.Laws.BytesString
import Derived.Laws.IdiomStrings
import Derived.Deep.Cut
import Derived.Deep.RegionWith
set_option linter.all false
set_option maxHeartbeats 8000000
set_option maxRecDepth 100000
namespace Go.Proofs
open Go.Shelf
def Tryz.lays161_ren:Go.Shelf.Ren:=⟨λ | 161=>192 | 231=>205 | 227=>206 | 233=>207 | 235=>208 | 228=>222 | 197=>223 | 151=>224 | 260=>229 | 152=>230 | 137=>231 | 119=>232 | 224=>233 | 225=>234 | 217=>235 | 266=>236 |n=>n,λ | 9=>9 | 4=>4 | 3=>3 | 5=>5 | 117=>173 | 116=>172 | 0=>0 | 124=>176 | 105=>189 | 21=>21 | 119=>196 | 46=>132 | 139=>199 | 138=>198 |n=>n,λ | 3=>4 | 4=>5 |n=>n⟩
theorem Tryz.lays161:Go.Proofs.Lays.n161 Tryz.prog Tryz.lays161_ren:={
 mixed:=by kernel_rfl
 f119:=Tryz.func232.trans (congrArg some (by kernel_rfl))
 f137:=Tryz.func231.trans (congrArg some (by kernel_rfl))
 f151:=Tryz.func224.trans (congrArg some (by kernel_rfl))
 f152:=Tryz.func230.trans (congrArg some (by kernel_rfl))
 f161:=Tryz.func192.trans (congrArg some (by kernel_rfl))
 f197:=Tryz.func223.trans (congrArg some (by kernel_rfl))
 f217:=Tryz.func235.trans (congrArg some (by kernel_rfl))
 f224:=Tryz.func233.trans (congrArg some (by kernel_rfl))
 f225:=Tryz.func234.trans (congrArg some (by kernel_rfl))
 f227:=Tryz.func206.trans (congrArg some (by kernel_rfl))
 f228:=Tryz.func222.trans (congrArg some (by kernel_rfl))
 f231:=Tryz.func205.trans (congrArg some (by kernel_rfl))
 f233:=Tryz.func207.trans (congrArg some (by kernel_rfl))
 f235:=Tryz.func208.trans (congrArg some (by kernel_rfl))
 f260:=Tryz.func229.trans (congrArg some (by kernel_rfl))
 f266:=Tryz.func236.trans (congrArg some (by kernel_rfl))
 t0:=Tryz.underlying0
 a0:=Tryz.isAgg0
 z0:=Tryz.sizeOf0
 v0:=Tryz.zeroValue0
 t3:=Tryz.underlying3
 a3:=Tryz.isAgg3
 z3:=Tryz.sizeOf3
 v3:=Tryz.zeroValue3
 t4:=Tryz.underlying4
 a4:=Tryz.isAgg4
 z4:=Tryz.sizeOf4
 v4:=Tryz.zeroValue4
 t5:=Tryz.underlying5
 a5:=Tryz.isAgg5
 z5:=Tryz.sizeOf5
 v5:=Tryz.zeroValue5
 t9:=Tryz.underlying9
 a9:=Tryz.isAgg9
 z9:=Tryz.sizeOf9
 v9:=Tryz.zeroValue9
 t21:=Tryz.underlying21
 a21:=Tryz.isAgg21
 z21:=Tryz.sizeOf21
 v21:=Tryz.zeroValue21
 t46:=Tryz.underlying132
 a46:=Tryz.isAgg132
 z46:=Tryz.sizeOf132
 v46:=Tryz.zeroValue132
 t105:=Tryz.underlying189
 a105:=Tryz.isAgg189
 z105:=Tryz.sizeOf189
 v105:=Tryz.zeroValue189
 t116:=Tryz.underlying172
 a116:=Tryz.isAgg172
 z116:=Tryz.sizeOf172
 t117:=Tryz.underlying173
 a117:=Tryz.isAgg173
 z117:=Tryz.sizeOf173
 v117:=Tryz.zeroValue173
 t119:=Tryz.underlying196
 a119:=Tryz.isAgg196
 z119:=Tryz.sizeOf196
 t124:=Tryz.underlying176
 a124:=Tryz.isAgg176
 z124:=Tryz.sizeOf176
 v124:=Tryz.zeroValue176
 t138:=Tryz.underlying198
 a138:=Tryz.isAgg198
 z138:=Tryz.sizeOf198
 v138:=Tryz.zeroValue198
 t139:=Tryz.underlying199
 a139:=Tryz.isAgg199
 z139:=Tryz.sizeOf199
 v139:=Tryz.zeroValue199
 g3:=by kernel_rfl
 g4:=by kernel_rfl}
open Go.RowKit in
theorem Tryz.strings_TrimLeft_one (s:ByteArray)(c:UInt8)(hc:c.toNat<128)(w:World):
 Calls Tryz.prog 192 #[.string s,.string ⟨#[c]⟩] w λe w'=>e= .returned (.string ⟨(Lib.trimLeftB s.data.toList c).toArray⟩)∧w'=w:=Any.strings_TrimLeft_one Tryz.lays161 s c hc w
def Tryz.lays133_ren:Go.Shelf.Ren:=⟨λ | 133=>214 | 128=>226 |n=>n,λ | 51=>90 | 3=>3 | 4=>4 | 46=>132 | 5=>5 | 9=>9 |n=>n,λ |n=>n⟩
theorem Tryz.lays133:Go.Proofs.Lays.n133 Tryz.prog Tryz.lays133_ren:={
 mixed:=by kernel_rfl
 f128:=Tryz.func226.trans (congrArg some (by kernel_rfl))
 f133:=Tryz.func214.trans (congrArg some (by kernel_rfl))
 t3:=Tryz.underlying3
 a3:=Tryz.isAgg3
 z3:=Tryz.sizeOf3
 v3:=Tryz.zeroValue3
 t4:=Tryz.underlying4
 a4:=Tryz.isAgg4
 z4:=Tryz.sizeOf4
 v4:=Tryz.zeroValue4
 t5:=Tryz.underlying5
 a5:=Tryz.isAgg5
 z5:=Tryz.sizeOf5
 v5:=Tryz.zeroValue5
 t9:=Tryz.underlying9
 a9:=Tryz.isAgg9
 z9:=Tryz.sizeOf9
 v9:=Tryz.zeroValue9
 t46:=Tryz.underlying132
 a46:=Tryz.isAgg132
 z46:=Tryz.sizeOf132
 v46:=Tryz.zeroValue132
 t51:=Tryz.underlying90
 a51:=Tryz.isAgg90
 z51:=Tryz.sizeOf90
 v51:=Tryz.zeroValue90}
theorem Tryz.bits_LeadingZeros32 (x:Int)(w:World)(h0:0≤x)(h1:x≤4294967295):
 Calls Tryz.prog 214 #[.int .u32 x] w λe w'=>e= .returned (.int .i64 (32-(Lib.bitLen x.toNat:Int)))∧w'=w:=Any.bits_LeadingZeros32 Tryz.lays133 x w h0 h1
def Tryz.lays103_ren:Go.Shelf.Ren:=⟨λ | 103=>164 | 210=>191 | 206=>89 |n=>n,λ | 9=>9 | 4=>4 | 24=>96 | 3=>3 |n=>n,λ |n=>n⟩
theorem Tryz.lays103:Go.Proofs.Lays.n103 Tryz.prog Tryz.lays103_ren:={
 mixed:=by kernel_rfl
 f103:=Tryz.func164.trans (congrArg some (by kernel_rfl))
 f206:=Tryz.func89.trans (congrArg some (by kernel_rfl))
 f210:=Tryz.func191.trans (congrArg some (by kernel_rfl))
 t3:=Tryz.underlying3
 a3:=Tryz.isAgg3
 z3:=Tryz.sizeOf3
 v3:=Tryz.zeroValue3
 t4:=Tryz.underlying4
 a4:=Tryz.isAgg4
 z4:=Tryz.sizeOf4
 v4:=Tryz.zeroValue4
 t9:=Tryz.underlying9
 a9:=Tryz.isAgg9
 z9:=Tryz.sizeOf9
 v9:=Tryz.zeroValue9
 t24:=Tryz.underlying96
 a24:=Tryz.isAgg96
 z24:=Tryz.sizeOf96
 v24:=Tryz.zeroValue96}
open Go.RowKit in
theorem Tryz.strings_CutPrefix (s p:ByteArray)(w:World):
 Calls Tryz.prog 164 #[.string s,.string p] w λe w'=>e= .returned (.tuple #[.string ⟨(Lib.trimPrefix s.data.toList p.data.toList).toArray⟩,.bool (Lib.hasPrefix s.data.toList p.data.toList)])∧w'=w:=Any.strings_CutPrefix Tryz.lays103 s p w
def Tryz.lays242_ren:Go.Shelf.Ren:=⟨λ | 242=>70 | 278=>128 |n=>n,λ | 37=>40 | 21=>21 | 51=>90 | 4=>4 | 5=>5 | 46=>132 |n=>n,λ |n=>n⟩
theorem Tryz.lays242:Go.Proofs.Lays.n242 Tryz.prog Tryz.lays242_ren:={
 mixed:=by kernel_rfl
 f242:=Tryz.func70.trans (congrArg some (by kernel_rfl))
 f278:=Tryz.func128.trans (congrArg some (by kernel_rfl))
 t4:=Tryz.underlying4
 a4:=Tryz.isAgg4
 z4:=Tryz.sizeOf4
 v4:=Tryz.zeroValue4
 t5:=Tryz.underlying5
 a5:=Tryz.isAgg5
 z5:=Tryz.sizeOf5
 v5:=Tryz.zeroValue5
 t21:=Tryz.underlying21
 a21:=Tryz.isAgg21
 z21:=Tryz.sizeOf21
 v21:=Tryz.zeroValue21
 t37:=Tryz.underlying40
 a37:=Tryz.isAgg40
 z37:=Tryz.sizeOf40
 v37:=Tryz.zeroValue40
 t46:=Tryz.underlying132
 a46:=Tryz.isAgg132
 z46:=Tryz.sizeOf132
 v46:=Tryz.zeroValue132
 t51:=Tryz.underlying90
 a51:=Tryz.isAgg90
 z51:=Tryz.sizeOf90
 v51:=Tryz.zeroValue90}
open Go.RowKit in
theorem Tryz.utf8_AppendRune_plain (B:Nat)(v:Value)(n:Nat)(xs:List Value)(r:Int)(hr0: -2147483648≤r)(hr1:r≤2147483647)(w:World)(hown:w.ownsRow B 5 1 v n xs)(hlen:n+4≤140737488355328)(hBw:B≤w.heap.size):
 Calls Tryz.prog 70 #[v,.int .i32 r] w λe w'=>∃v',e= .returned v'∧w'.ownsRow B 5 1 v' (n+(Lib.runeCells r).length) (xs++Lib.runeCells r)∧∃o,(w.alloc o).grownBy w' v.ownBlock:=Any.utf8_AppendRune_plain Tryz.lays242 (by kernel_rfl) B v n xs r hr0 hr1 w hown hlen hBw
def Tryz.lays99_ren:Go.Shelf.Ren:=⟨λ | 99=>55 | 206=>89 |n=>n,λ | 9=>9 | 4=>4 | 3=>3 |n=>n,λ |n=>n⟩
theorem Tryz.lays99:Go.Proofs.Lays.n99 Tryz.prog Tryz.lays99_ren:={
 mixed:=by kernel_rfl
 f99:=Tryz.func55.trans (congrArg some (by kernel_rfl))
 f206:=Tryz.func89.trans (congrArg some (by kernel_rfl))
 t3:=Tryz.underlying3
 a3:=Tryz.isAgg3
 z3:=Tryz.sizeOf3
 v3:=Tryz.zeroValue3
 t4:=Tryz.underlying4
 a4:=Tryz.isAgg4
 z4:=Tryz.sizeOf4
 v4:=Tryz.zeroValue4
 t9:=Tryz.underlying9
 a9:=Tryz.isAgg9
 z9:=Tryz.sizeOf9
 v9:=Tryz.zeroValue9}
open Go.RowKit Go.Lib in
theorem Tryz.strings_HasPrefix (s p:ByteArray)(w:World):
 Calls Tryz.prog 55 #[.string s,.string p] w λe w'=>e= .returned (.bool (Lib.hasPrefix s.data.toList p.data.toList))∧w'=w:=Any.strings_HasPrefix Tryz.lays99 s p w
def Tryz.lays105_ren:Go.Shelf.Ren:=⟨λ | 105=>124 | 212=>160 | 99=>55 | 165=>161 | 166=>36 | 170=>162 | 169=>22 | 263=>188 | 264=>189 | 206=>89 | 240=>65 | 241=>190 | 276=>119 | 277=>204 |n=>n,λ | 9=>9 | 3=>3 | 4=>4 | 20=>20 | 0=>0 | 46=>132 | 109=>133 | 5=>5 | 72=>42 | 76=>68 | 51=>90 | 146=>156 | 53=>107 | 148=>158 | 70=>39 | 37=>40 | 75=>67 | 127=>75 | 164=>116 | 80=>44 |n=>n,λ |n=>n⟩
theorem Tryz.lays105:Go.Proofs.Lays.n105 Tryz.prog Tryz.lays105_ren:={
 mixed:=by kernel_rfl
 f99:=Tryz.func55.trans (congrArg some (by kernel_rfl))
 f105:=Tryz.func124.trans (congrArg some (by kernel_rfl))
 f165:=Tryz.func161.trans (congrArg some (by kernel_rfl))
 f166:=Tryz.func36.trans (congrArg some (by kernel_rfl))
 f169:=Tryz.func22.trans (congrArg some (by kernel_rfl))
 f170:=Tryz.func162.trans (congrArg some (by kernel_rfl))
 f206:=Tryz.func89.trans (congrArg some (by kernel_rfl))
 f212:=Tryz.func160.trans (congrArg some (by kernel_rfl))
 f240:=Tryz.func65.trans (congrArg some (by kernel_rfl))
 f241:=Tryz.func190.trans (congrArg some (by kernel_rfl))
 f263:=Tryz.func188.trans (congrArg some (by kernel_rfl))
 f264:=Tryz.func189.trans (congrArg some (by kernel_rfl))
 f276:=Tryz.func119.trans (congrArg some (by kernel_rfl))
 f277:=Tryz.func204.trans (congrArg some (by kernel_rfl))
 t0:=Tryz.underlying0
 a0:=Tryz.isAgg0
 z0:=Tryz.sizeOf0
 v0:=Tryz.zeroValue0
 t3:=Tryz.underlying3
 a3:=Tryz.isAgg3
 z3:=Tryz.sizeOf3
 v3:=Tryz.zeroValue3
 t4:=Tryz.underlying4
 a4:=Tryz.isAgg4
 z4:=Tryz.sizeOf4
 v4:=Tryz.zeroValue4
 t5:=Tryz.underlying5
 a5:=Tryz.isAgg5
 z5:=Tryz.sizeOf5
 v5:=Tryz.zeroValue5
 t9:=Tryz.underlying9
 a9:=Tryz.isAgg9
 z9:=Tryz.sizeOf9
 v9:=Tryz.zeroValue9
 t20:=Tryz.underlying20
 a20:=Tryz.isAgg20
 z20:=Tryz.sizeOf20
 v20:=Tryz.zeroValue20
 t37:=Tryz.underlying40
 a37:=Tryz.isAgg40
 z37:=Tryz.sizeOf40
 v37:=Tryz.zeroValue40
 t46:=Tryz.underlying132
 a46:=Tryz.isAgg132
 z46:=Tryz.sizeOf132
 v46:=Tryz.zeroValue132
 t51:=Tryz.underlying90
 a51:=Tryz.isAgg90
 z51:=Tryz.sizeOf90
 v51:=Tryz.zeroValue90
 t53:=Tryz.underlying107
 a53:=Tryz.isAgg107
 z53:=Tryz.sizeOf107
 v53:=Tryz.zeroValue107
 t70:=Tryz.underlying39
 a70:=Tryz.isAgg39
 z70:=Tryz.sizeOf39
 v70:=Tryz.zeroValue39
 t72:=Tryz.underlying42
 a72:=Tryz.isAgg42
 z72:=Tryz.sizeOf42
 v72:=Tryz.zeroValue42
 t75:=Tryz.underlying67
 a75:=Tryz.isAgg67
 z75:=Tryz.sizeOf67
 v75:=Tryz.zeroValue67
 t76:=Tryz.underlying68
 a76:=Tryz.isAgg68
 z76:=Tryz.sizeOf68
 v76:=Tryz.zeroValue68
 t109:=Tryz.underlying133
 a109:=Tryz.isAgg133
 z109:=Tryz.sizeOf133
 v109:=Tryz.zeroValue133
 t127:=Tryz.underlying75
 a127:=Tryz.isAgg75
 z127:=Tryz.sizeOf75
 v127:=Tryz.zeroValue75
 t146:=Tryz.underlying156
 a146:=Tryz.isAgg156
 z146:=Tryz.sizeOf156
 v146:=Tryz.zeroValue156
 t148:=Tryz.underlying158
 a148:=Tryz.isAgg158
 z148:=Tryz.sizeOf158
 v148:=Tryz.zeroValue158
 t164:=Tryz.underlying116
 a164:=Tryz.isAgg116
 z164:=Tryz.sizeOf116
 v164:=Tryz.zeroValue116}
theorem Tryz.Builder_Extra_105:Builder.Extra Tryz.prog Tryz.lays105_ren:={
 sizeBuilder:=by kernel_rfl
 liesBuilder:=by kernel_rfl
 t5:=Tryz.underlying5
 a5:=Tryz.isAgg5
 z5:=Tryz.sizeOf5
 v5:=Tryz.zeroValue5
 infoByte:=by kernel_rfl
 cellsByte:=by kernel_rfl
 sizeByte:=by kernel_rfl
 neB5:=by decide}
open Go.RowKit Go.Lib in
theorem Tryz.strings_Repeat (s:ByteArray)(c:Nat)(w:World)(hc:c≤9223372036854775807)(hlen:s.size*c≤140737488355328):
 Calls Tryz.prog 124 #[.string s,.int .i64 c] w λe w'=>e= .returned (.string ⟨(Lib.repeatL s.data.toList c).toArray⟩)∧Below w.heap.size w w':=Any.strings_Repeat Tryz.lays105 Tryz.Builder_Extra_105 s c w hc hlen
end Go.Proofs
namespace Go.Proofs.YtceplkpjnebnfaaGreatDoor
section
open Go.RowKit Go.Sort Go.Lib Go.Shelf
end
section
open Go.RowKit
def NatTold (s:List UInt8)(w:World)(e:Ending)(w':World):Prop:=Below w.heap.size w w'∧∃(v:Value) (ok:Bool) (n:Nat),e= .returned (.tuple #[v,.bool ok])∧IsRes w' v (Nt.digs n)∧((ok=true∧Ten.Valid s∧n=Ten.numOf s)∨(ok=false∧¬Ten.Valid s∧n=0))
theorem NatTold.no {s:List UInt8}{w w':World}(hb:Below w.heap.size w w')(h:¬Ten.Valid s):NatTold s w (.returned (.tuple #[.slice none 0 0,.bool false])) w':=⟨hb,_,false,0,rfl,by rw[Nt.digs_zero];exact IsRes.none_ _,.inr ⟨rfl,h,rfl⟩⟩
theorem NatTold.yes {s:List UInt8}{w w':World}{v:Value}(hb:Below w.heap.size w w')(h:Ten.Valid s)(hv:IsRes w' v (Nt.digs (Ten.numOf s))):NatTold s w (.returned (.tuple #[v,.bool true])) w':=⟨hb,_,true,_,rfl,hv,.inl ⟨rfl,h,rfl⟩⟩
def NumAt (s:List UInt8)(k n:Nat):Prop:=n=Ten.numOf (s.take k)∧∀j (hj:j<s.length),j<k→Ten.isDig s[j]
theorem NumAt.start (s:List UInt8):NumAt s 0 0:=⟨rfl,λj _ h=>absurd h (by omega)⟩
theorem NumAt.step {s:List UInt8}{k n:Nat}(h:NumAt s k n)(hk:k<s.length)(hd:Ten.isDig s[k]):NumAt s (k+1) (n*10+(s[k].toNat-48)):=by
 refine⟨?_,λj hj hjk=>?_⟩
 ·rw[List.take_succ_eq_append_getElem hk,Ten.numOf_snoc,←h.1];omega
 by_cases e:j=k
 ·subst e;exact hd
 exact h.2 j hj (by omega)
theorem NumAt.done {s:List UInt8}{n:Nat}(h:NumAt s s.length n)(h0:s≠[])(h1:1<s.length→s.head?≠some 48):Ten.Valid s∧n=Ten.numOf s:=by
 refine⟨⟨h0,h1,λb hb=>?_⟩,by rw[h.1,List.take_length]⟩;obtain⟨j,hj,rfl⟩:=List.mem_iff_getElem.1 hb;exact h.2 j hj hj
theorem Nk {s:List UInt8}{k:Nat}(hk:k<s.length)(h:s[k].toNat<48∨57<s[k].toNat):¬Ten.Valid s:=λhv=>by
 have:=hv.2.2 s[k] (List.getElem_mem hk);unfold Ten.isDig at this;omega
theorem Av {s:List UInt8}(h:0<s.length):s.head?=some s[0]:=by
 cases s with
 |nil=>simp at h
 |cons b r=>rfl
end
section
open Go.RowKit
def PartAt (s:List UInt8)(n at0 k p sc:Nat):Prop:=sc=10^(k-at0)∧p<sc∧Ten.numOf (s.take k)=n*sc+p
theorem PartAt.start {s:List UInt8}{n at0:Nat}(h:n=Ten.numOf (s.take at0)):PartAt s n at0 at0 0 1:=⟨by rw[Nat.sub_self],by omega,by rw[←h,Nat.mul_one,Nat.add_zero]⟩
theorem PartAt.step {s:List UInt8}{n at0 k p sc:Nat}(h:PartAt s n at0 k p sc)(h1:at0≤k)(hk:k<s.length)(hd:Ten.isDig s[k]):PartAt s n at0 (k+1) (10*p+(s[k].toNat-48)) (sc*10):=by
 obtain⟨e1,e2,e3⟩:=h;have:=hd.2;refine⟨by rw[e1,show k+1-at0=(k-at0)+1 by omega,Nat.pow_succ],by omega,?_⟩;rw[List.take_succ_eq_append_getElem hk,Ten.numOf_snoc,e3];rw[show n*(sc*10)=n*sc*10 from(Nat.mul_assoc _ _ _).symm];generalize n*sc=q;omega
theorem PartAt.bound {s:List UInt8}{n at0 k p sc:Nat}(h:PartAt s n at0 k p sc)(m:Nat)(hk:k-at0≤m):1≤sc∧sc≤10^m∧p<10^m:=by
 obtain⟨e1,e2,e3⟩:=h;have h1:10^(k-at0)≤10^m:=Nat.pow_le_pow_right (by omega) hk;have h2:1≤10^(k-at0):=Nat.pow_pos (by omega);omega
theorem W9:∀(t:List UInt8),(∀b∈t,Ten.isDig b)→Ten.numOf t<10^t.length:=by
 intro t
 induction h:t.length generalizing t with
 |zero=>intro _;rw[List.eq_nil_of_length_eq_zero h];decide
 |succ n ih=>
  intro hd;have hne:t≠[]:=by intro e;rw[e] at h;simp at h
  obtain⟨r,b,rfl⟩:∃r b,t=r++[b]:=⟨t.dropLast,t.getLast hne,(List.dropLast_concat_getLast hne).symm⟩;have:=ih r (by simpa using h) (λc hc=>hd c (List.mem_append_left _ hc));have hb:=hd b (by simp);have:=hb.2;rw[Ten.numOf_snoc,Nat.pow_succ];omega
theorem Bv {s:List UInt8}(h:Ten.Valid s){k:Nat}(hk:k≤s.length):(Nt.digs (Ten.numOf (s.take k))).length≤k:=by
 have:=W9 (s.take k) (λb hb=>h.2.2 b (List.mem_of_mem_take hb));rw[List.length_take,Nat.min_eq_left hk] at this;exact Nt.digs_len_lt (Nat.lt_of_lt_of_le this (Nat.pow_le_pow_left (by omega) k))
theorem Xy (s:List UInt8)(w:World)(hs:s.length≤1000):Calls Tryz.prog 193 #[.string ⟨s.toArray⟩] w (NatTold s w):=by
 obtain⟨i0,hi,hz0,hz1,hz2⟩:=info_parts He;by_cases h0:s=[]
 ·have HN:=Qd (NatTold.no (w:=w) (w':=w) (s:=s) (Below.refl _ _) (λh=>h.1 h0))
  subst h0;go_enter Tryz.func193,Tryz.ntmps193
  go_wp2_with fail
  go_ret2
  exact HN.out
 have hpos:0<s.length:=List.length_pos_iff.2 h0;have h0a:s.isEmpty=false:=by simpa using h0
 obtain⟨z,hz⟩:∃z,z=s[0].toNat:=⟨_,rfl⟩;have hg0:((⟨s.toArray⟩:ByteArray)[0]'(show 0<(⟨s.toArray⟩:ByteArray).size from hpos)).toNat=z:=hz.symm;by_cases hlead:1<s.length∧z=48
 ·obtain⟨h1,hz48⟩:=hlead
  have HN:=Qd (NatTold.no (w:=w) (w':=w) (s:=s) (Below.refl _ _) (λh=>h.2.1 h1 (by rw[Av hpos,UInt8.toNat_inj.1 (show s[0].toNat=(48:UInt8).toNat by rw[←hz,hz48];rfl)])));have hza:((z:Int)==48)=true:=by simp[hz48]
  clear h0 hz hz48;go_enter Tryz.func193,Tryz.ntmps193
  go_wp2_with fail
  go_ret2
  exact HN.out
 have HV:Hid (s≠[]∧(1<s.length→s.head?≠some 48)):=Qd ⟨h0,λh1 e=>hlead ⟨h1,by
  rw[Av hpos] at e;injection e with e;rw[hz,e];rfl⟩⟩
 have hgo:s.length≤1∨(1<s.length∧((z:Int)==48)=false):=by
  rcases Nat.lt_or_ge 1 s.length with h |h
  ·exact .inr ⟨h,by rw[beq_eq_false_iff_ne];intro e;exact hlead ⟨h,by omega⟩⟩
  exact .inl h
 clear hlead hz h0;go_enter Tryz.func193,Tryz.ntmps193
 rcases hgo with hl1 |⟨hl1,hza⟩
 ·go_wp2_with fail
  go_loop [24] (λi=>∃k:Nat,k≤s.length∧i= .int .i64 (k:Int)∧Hid (∀j (hj:j<s.length),j<k→Ten.isDig s[j])) (λi=>s.length-(intOf i).toNat)
  case atStart=>exact⟨0,by omega,rfl,Qd (λj _ h=>absurd h (by omega))⟩
  case round=>
   obtain⟨k,hk,rfl,H⟩:=hrel;by_cases hlt:k<s.length
   ·obtain⟨y,hy⟩:∃y,y=s[k].toNat:=⟨_,rfl⟩
    have hgy:((⟨s.toArray⟩:ByteArray)[k]'(show k<(⟨s.toArray⟩:ByteArray).size from hlt)).toNat=y:=hy.symm;have hy8:y<256:=by rw[hy];exact UInt8.toNat_lt _
    by_cases hd:48≤y∧y≤57
    ·obtain⟨hd1,hd2⟩:=hd
     have HD:Hid (∀j (hj:j<s.length),j<k+1→Ten.isDig s[j]):=Qd (λj hj hjk=>by
      by_cases e:j=k
      ·subst e;exact⟨by rw[←hy];exact hd1,by rw[←hy];exact hd2⟩
      exact H.out j hj (by omega))
     clear hy;go_wp2_with fail
     exact⟨⟨k+1,by omega,by go_num,HD⟩,by simp[intOf];omega⟩
    have HN:=Qd (NatTold.no (w:=w) (w':=w) (s:=s) (Below.refl _ _) (Nk hlt (by rw[←hy];omega)));have hc:y<48∨(48≤y∧57<y):=by omega
    clear hy hd;rcases hc with hc |⟨hc,hc2⟩
    ·go_wp2_with fail
     go_ret2
     exact HN.out
    go_wp2_with fail
    go_ret2
    exact HN.out
   obtain rfl:k=s.length:=by omega
   have HVAL:Hid (Ten.Valid s):=Qd ⟨HV.out.1,HV.out.2,λb hb=>by
    obtain⟨j,hj,rfl⟩:=List.mem_iff_getElem.1 hb;exact H.out j hj hj⟩
   clear hlt;go_wp2_with (at_make;refine Sc _ rfl _ _ 22 rfl 90 i0 (.int .u32 0) Tryz.underlying22 hi hz0 hz1 rfl .i64 .i64 _ _ 0 (s.length/9+1) rfl rfl rfl (by go_num) (by omega) (by rw[hz2];omega) (by omega) w.heap.size w (Below.refl _ _) (Nat.le_refl _) ?_;intro w1 hblk1 hb1 hb1' hlt1)
   have hown1:w1.ownsRow w.heap.size 90 1 (.slice (some ⟨w.heap.size,0,none⟩) 0 (s.length/9+1)) 0 []:=by
    have:=hblk1.own (base:=w.heap.size) (n:=0) (Nat.le_refl _) (by omega) (by simp[maxLen];omega)
    simpa using this
   clear hblk1 hb1' hlt1;go_loopw [5,6] (λov i wr=>∃(k n:Nat),k≤s.length∧i= .int .i64 (k:Int)∧wr.ownsRow w.heap.size 90 1 ov (Nt.digs n).length (U (Nt.digs n))∧Below w.heap.size w wr∧Hid (n=Ten.numOf (s.take k))) (λ_ i _=>s.length-(intOf i).toNat)
   case atStart=>exact⟨0,0,by omega,rfl,by rw[Nt.digs_zero];exact hown1,hb1,Qd rfl⟩
   case round=>
    clear hown1 hb1;obtain⟨k,n,hk,rfl,hown,hbel,H2⟩:=hrel;have hsz:=hbel.size;by_cases hlt:k<s.length
    ·have hdl:(Nt.digs n).length≤1000000:=by
      have:=Bv HVAL.out hk;rw[H2.out];omega
     obtain⟨E,hE⟩:∃E:Nat,E=min (k+9) s.length:=⟨_,rfl⟩;have hE1:k<E:=by omega
     have hE2:E≤s.length:=by omega
     have hE3:E≤k+9:=by omega
     have hEi:min ((k:Int)+9) (s.length:Int)=(E:Int):=by omega
     clear hE;go_wp2_with fail
     go_loop [6,7,8] (λav pv sv=>∃(j p sc:Nat),k≤j∧j≤E∧p<1000000000∧1≤sc∧sc≤1000000000∧av= .int .i64 (j:Int)∧pv= .int .u32 (p:Int)∧sv= .int .u32 (sc:Int)∧Hid (PartAt s n k j p sc)) (λav _ _=>E-(intOf av).toNat)
     case atStart=>exact⟨k,0,1,Nat.le_refl _,by omega,by omega,by omega,by omega,rfl,rfl,rfl,Qd (PartAt.start H2.out)⟩
     case round=>
      obtain⟨j,p,sc,hj1,hj2,hp,hsc1,hsc2,rfl,rfl,rfl,HP⟩:=hrel;by_cases hjE:j<E
      ·have hjs:j<s.length:=by omega
       obtain⟨y,hy⟩:∃y,y=s[j].toNat:=⟨_,rfl⟩;have hgy:((⟨s.toArray⟩:ByteArray)[j]'(show j<(⟨s.toArray⟩:ByteArray).size from hjs)).toNat=y:=hy.symm;have hdg:=HVAL.out.2.2 s[j] (List.getElem_mem hjs);have ST:=Qd (HP.out.step hj1 hjs hdg);have BD:=HP.out.bound 8 (by omega);simp only[Nat.reducePow] at BD;obtain⟨_,hb1,hb2⟩:=BD;unfold Ten.isDig at hdg;rw[←hy] at ST hdg;obtain⟨hd1,hd2⟩:=hdg;clear hy;go_wp2_with fail
       exact⟨⟨j+1,10*p+(y-48),sc*10,by omega,by omega,by omega,by omega,by omega,by go_num,congrArg (Value.int .u32) (by omega),congrArg (Value.int .u32) (by omega),ST⟩,by simp[intOf];omega⟩
      obtain rfl:j=E:=by omega
      have LEN:=Qd (Dk w.heap.size _ n sc p wr hown hsz hdl hsc1 (by omega) (by omega));clear hown;go_wp2_with (go_at_call 209;refine LEN.out.mono ?_;rintro e w2 ⟨v2,rfl,hown2,hb2⟩)
      exact⟨⟨j,n*sc+p,by omega,rfl,hown2,hbel.trans hb2,Qd HP.out.2.2.symm⟩,by simp[intOf];omega⟩
    obtain rfl:k=s.length:=by omega
    have HY:=Qd (NatTold.yes hbel HVAL.out (by have:=H2.out;rw[List.take_length] at this;rw[←this];exact IsRes.of_own hown));go_wp2_with fail
    go_ret2
    exact HY.out
 go_wp2_with fail
 go_loop [24] (λi=>∃k:Nat,k≤s.length∧i= .int .i64 (k:Int)∧Hid (∀j (hj:j<s.length),j<k→Ten.isDig s[j])) (λi=>s.length-(intOf i).toNat)
 case atStart=>exact⟨0,by omega,rfl,Qd (λj _ h=>absurd h (by omega))⟩
 case round=>
  obtain⟨k,hk,rfl,H⟩:=hrel;by_cases hlt:k<s.length
  ·obtain⟨y,hy⟩:∃y,y=s[k].toNat:=⟨_,rfl⟩
   have hgy:((⟨s.toArray⟩:ByteArray)[k]'(show k<(⟨s.toArray⟩:ByteArray).size from hlt)).toNat=y:=hy.symm;have hy8:y<256:=by rw[hy];exact UInt8.toNat_lt _
   by_cases hd:48≤y∧y≤57
   ·obtain⟨hd1,hd2⟩:=hd
    have HD:Hid (∀j (hj:j<s.length),j<k+1→Ten.isDig s[j]):=Qd (λj hj hjk=>by
     by_cases e:j=k
     ·subst e;exact⟨by rw[←hy];exact hd1,by rw[←hy];exact hd2⟩
     exact H.out j hj (by omega))
    clear hy;go_wp2_with fail
    exact⟨⟨k+1,by omega,by go_num,HD⟩,by simp[intOf];omega⟩
   have HN:=Qd (NatTold.no (w:=w) (w':=w) (s:=s) (Below.refl _ _) (Nk hlt (by rw[←hy];omega)));have hc:y<48∨(48≤y∧57<y):=by omega
   clear hy hd;rcases hc with hc |⟨hc,hc2⟩
   ·go_wp2_with fail
    go_ret2
    exact HN.out
   go_wp2_with fail
   go_ret2
   exact HN.out
  obtain rfl:k=s.length:=by omega
  have HVAL:Hid (Ten.Valid s):=Qd ⟨HV.out.1,HV.out.2,λb hb=>by
   obtain⟨j,hj,rfl⟩:=List.mem_iff_getElem.1 hb;exact H.out j hj hj⟩
  clear hlt;go_wp2_with (at_make;refine Sc _ rfl _ _ 22 rfl 90 i0 (.int .u32 0) Tryz.underlying22 hi hz0 hz1 rfl .i64 .i64 _ _ 0 (s.length/9+1) rfl rfl rfl (by go_num) (by omega) (by rw[hz2];omega) (by omega) w.heap.size w (Below.refl _ _) (Nat.le_refl _) ?_;intro w1 hblk1 hb1 hb1' hlt1)
  have hown1:w1.ownsRow w.heap.size 90 1 (.slice (some ⟨w.heap.size,0,none⟩) 0 (s.length/9+1)) 0 []:=by
   have:=hblk1.own (base:=w.heap.size) (n:=0) (Nat.le_refl _) (by omega) (by simp[maxLen];omega)
   simpa using this
  clear hblk1 hb1' hlt1;go_loopw [5,6] (λov i wr=>∃(k n:Nat),k≤s.length∧i= .int .i64 (k:Int)∧wr.ownsRow w.heap.size 90 1 ov (Nt.digs n).length (U (Nt.digs n))∧Below w.heap.size w wr∧Hid (n=Ten.numOf (s.take k))) (λ_ i _=>s.length-(intOf i).toNat)
  case atStart=>exact⟨0,0,by omega,rfl,by rw[Nt.digs_zero];exact hown1,hb1,Qd rfl⟩
  case round=>
   clear hown1 hb1;obtain⟨k,n,hk,rfl,hown,hbel,H2⟩:=hrel;have hsz:=hbel.size;by_cases hlt:k<s.length
   ·have hdl:(Nt.digs n).length≤1000000:=by
     have:=Bv HVAL.out hk;rw[H2.out];omega
    obtain⟨E,hE⟩:∃E:Nat,E=min (k+9) s.length:=⟨_,rfl⟩;have hE1:k<E:=by omega
    have hE2:E≤s.length:=by omega
    have hE3:E≤k+9:=by omega
    have hEi:min ((k:Int)+9) (s.length:Int)=(E:Int):=by omega
    clear hE;go_wp2_with fail
    go_loop [6,7,8] (λav pv sv=>∃(j p sc:Nat),k≤j∧j≤E∧p<1000000000∧1≤sc∧sc≤1000000000∧av= .int .i64 (j:Int)∧pv= .int .u32 (p:Int)∧sv= .int .u32 (sc:Int)∧Hid (PartAt s n k j p sc)) (λav _ _=>E-(intOf av).toNat)
    case atStart=>exact⟨k,0,1,Nat.le_refl _,by omega,by omega,by omega,by omega,rfl,rfl,rfl,Qd (PartAt.start H2.out)⟩
    case round=>
     obtain⟨j,p,sc,hj1,hj2,hp,hsc1,hsc2,rfl,rfl,rfl,HP⟩:=hrel;by_cases hjE:j<E
     ·have hjs:j<s.length:=by omega
      obtain⟨y,hy⟩:∃y,y=s[j].toNat:=⟨_,rfl⟩;have hgy:((⟨s.toArray⟩:ByteArray)[j]'(show j<(⟨s.toArray⟩:ByteArray).size from hjs)).toNat=y:=hy.symm;have hdg:=HVAL.out.2.2 s[j] (List.getElem_mem hjs);have ST:=Qd (HP.out.step hj1 hjs hdg);have BD:=HP.out.bound 8 (by omega);simp only[Nat.reducePow] at BD;obtain⟨_,hb1,hb2⟩:=BD;unfold Ten.isDig at hdg;rw[←hy] at ST hdg;obtain⟨hd1,hd2⟩:=hdg;clear hy;go_wp2_with fail
      exact⟨⟨j+1,10*p+(y-48),sc*10,by omega,by omega,by omega,by omega,by omega,by go_num,congrArg (Value.int .u32) (by omega),congrArg (Value.int .u32) (by omega),ST⟩,by simp[intOf];omega⟩
     obtain rfl:j=E:=by omega
     have LEN:=Qd (Dk w.heap.size _ n sc p wr hown hsz hdl hsc1 (by omega) (by omega));clear hown;go_wp2_with (go_at_call 209;refine LEN.out.mono ?_;rintro e w2 ⟨v2,rfl,hown2,hb2⟩)
     exact⟨⟨j,n*sc+p,by omega,rfl,hown2,hbel.trans hb2,Qd HP.out.2.2.symm⟩,by simp[intOf];omega⟩
   obtain rfl:k=s.length:=by omega
   have HY:=Qd (NatTold.yes hbel HVAL.out (by have:=H2.out;rw[List.take_length] at this;rw[←this];exact IsRes.of_own hown));go_wp2_with fail
   go_ret2
   exact HY.out
end
end Go.Proofs.YtceplkpjnebnfaaGreatDoor
namespace Nt
end Nt
namespace Go.Proofs.YtceplkpjnebnfaaGreatDoor
open Go.RowKit
end Go.Proofs.YtceplkpjnebnfaaGreatDoor
namespace Go.Proofs.YtceplkpjnebnfaaGreatDoor
section
open Go.RowKit
theorem Xr {w w':World}{base n:Nat}{t:TypeId}{v:Value}{xs:List Value}(h:w.ownsRow base t 1 v n xs)(hk:∀g,base≤g→g<w.heap.size→w'.heap[g]? =w.heap[g]?):w'.ownsRow base t 1 v n xs:=by
 refine⟨h.1,?_⟩;rcases h.2 with h2 |⟨g,cap,cur,hv,hb,hg,hr⟩
 ·exact .inl h2
 refine .inr ⟨g,cap,cur,hv,hb,?_,hr⟩;rw[hk g hb (by
  rcases Nat.lt_or_ge g w.heap.size with h' |h'
  ·exact h'
  rw[Array.getElem?_eq_none h'] at hg;cases hg)]
 exact hg
theorem Mt {P:Program}{w w':World}{Zb:String}{k:IntKind}{zs:List Int}{B:Nat}(h:Lib.TabIs P w Zb k zs)(hb:Below B w w')(hg:∀g,P.globalNamed Zb=some g→g<B):Lib.TabIs P w' Zb k zs:=by
 unfold Lib.TabIs World.var? at*;cases he:P.globalNamed Zb with
 |none=>simp[he] at h
 |some g=>
  simp only[he,Option.bind_some] at h⊢;rw[hb.block g (hg g he)];exact h
theorem Yy:∀c,Lib.repeatL [48] c=List.replicate c 48
 | 0=>rfl
 |c+1=>by rw[Lib.repeatL,Yy c,List.replicate_succ];rfl
end
section
open Go.RowKit
theorem Em:(Tryz.prog.info? 3).map (λi=>(i.zero,i.size,i.bytes))=some (some (.int .i64 0),1,8):=by kernel_rfl
def IsCh (w:World)(v:Value)(l:List Int):Prop:=∃A c,v= .slice A l.length c∧l.length≤c∧c≤9223372036854775807∧Lies w w.heap.size A (Xa l)
theorem IsCh.below {w w':World}{v:Value}{l:List Int}(h:IsCh w v l)(hb:Below w.heap.size w w'):IsCh w' v l:=by
 obtain⟨A,c,h1,h2,h3,h5⟩:=h;exact⟨A,c,h1,h2,h3,(h5.below hb).more hb.size⟩
theorem IsCh.of_own {w:World}{base:Nat}{v:Value}{l:List Int}(h:w.ownsRow base 3 1 v l.length (Xa l)):IsCh w v l:=by
 obtain⟨A,c,rfl,h1,h2⟩:=Wb h;exact⟨A,c,rfl,h1,h2,Lies.of_own h⟩
def Raa (w:World)(l:List Int)(bad:Int)(e:Ending)(w':World):Prop:=∃v,e= .returned (.tuple #[v,.int .i64 bad])∧IsCh w' v l∧Below w.heap.size w w'
theorem Iw (a:List Int)(x:Int):Xa (a++[x])=Xa a++[.int .i64 x]:=by unfold Xa;simp
theorem Q3 (s:ByteArray)(i:Nat):(s.extract i s.size).data.toList=s.data.toList.drop i:=by
 simp;exact List.take_of_length_le (by simp)
theorem An (s:ByteArray)(w:World)(hs:s.size≤1000000):
 Calls Tryz.prog 26 #[.string s] w (Raa w (Gl.ints (Gl.dec s 0).1) (Gl.badI (Gl.dec s 0).2)):=by
 obtain⟨i0,hi,hz0,hz1,hz2⟩:=info_parts Em;have HPX:=Qd (λ(t:ByteArray) (wx:World)=>Tryz.strings_HasPrefix t ⟨#[239,191,189]⟩ wx);have hit0:(w.iter s 0).heap[w.heap.size]? =some (.stringIter s 0):=by simp[World.iter_heap]
 have hbi0:Below w.heap.size w (w.iter s 0):=(Below.refl _ _).alloc (Nat.le_refl _) _;have hszi:(w.iter s 0).heap.size=w.heap.size+1:=by simp[World.iter]
 have HI0:=Qd hit0;have HSI:=Qd hszi;clear hit0 hszi;go_enter Tryz.func26,Tryz.ntmps26
 go_wp2_with fail
 go_loopw [4] (λov wr=>∃(pos:Nat) (done:List Nat),Hid (wr.heap[w.heap.size]? =some (.stringIter s pos))∧wr.ownsRow (w.heap.size+1) 3 1 ov done.length (Xa (Gl.ints done))∧Below w.heap.size w wr∧w.heap.size+1≤wr.heap.size∧Hid (Gl.DecAt s pos done)) (λ_ wr=>s.size-wr.iterPos w.heap.size)
 case atStart=>exact⟨0,[],HI0,World.ownsRow_nil _ _ _ _,hbi0,by rw[HSI.out];exact Nat.le_refl _,Qd (Gl.DecAt.start s)⟩
 case round=>
  clear hbi0;obtain⟨pos,done,HIT,hown,hbel,hsz,H⟩:=hrel;have hdl:=H.out.len;have hIP:wr.iterPos w.heap.size=pos:=by unfold World.iterPos;rw[HIT.out]
  have HIP:=Qd hIP;clear hIP;by_cases hp:pos<s.size
  ·have hnx:∀ty,(Instr.next (.pointer (some ⟨w.heap.size,0,none⟩)) true ty).run Tryz.prog wr=_:=λty=>Lib.run_next_any_at wr w.heap.size s pos ty HIT.out hp
   have HPX2:=Qd (by have:=HPX.out (s.extract pos s.size);rw[Q3] at this;exact this);cases hr:Gl.read s pos with
   |none=>
    obtain⟨hd,hpre⟩:=Gl.sub_no hp hr;have HB:=Qd (H.out.bad hp hr);have HPX3:=Qd (λwx=>by have:=HPX2.out wx;rw[hpre] at this;exact this);rw[hd] at hnx;obtain⟨W2,hW2⟩:∃W2,W2=wr.iterAt w.heap.size s (pos+1):=⟨_,rfl⟩;have hown2:W2.ownsRow (w.heap.size+1) 3 1 u4 done.length (Xa (Gl.ints done)):=by
     rw[hW2];exact Xr hown (λg hg _=>Lib.iterAt_other _ _ _ _ _ (by omega))
    have hbel2:Below w.heap.size w W2:=by rw[hW2];exact Lib.below_iterAt hbel (Nat.le_refl _) _ _
    have HL:=Qd (IsCh.of_own (by rw[show(Gl.ints done).length=done.length by simp[Gl.ints]];exact hown2));simp only[←hW2] at hnx;have HNE:Hid (Gl.ints (Gl.dec s 0).1=Gl.ints done∧Gl.badI (Gl.dec s 0).2=(pos:Int)):=Qd (by rw[HB.out];exact⟨rfl,rfl⟩);have hps:pos≤s.size:=by omega
    clear hd hpre hr HPX2 hown hbel hW2 H hown2;go_wp2_with fail
    refine(HPX3.out _).mono ?_;rintro e w' ⟨rfl,rfl⟩;go_wp2_with fail
    go_ret2
    exact⟨_,by rw[HNE.out.2];rfl,by rw[HNE.out.1];exact HL.out,hbel2⟩
   |some p=>
    obtain⟨c,n⟩:=p;obtain⟨hd,hpre⟩:=Gl.sub_yes hp hr;have hpos:=Gl.read_pos hr;have HST:=Qd (H.out.step hp hr);have hmay:=Gl.read_may hp hr;have hc:c≤1114111:=by unfold Gl.may at hmay;simp at hmay;omega
    have HPX3:=Qd (λwx=>by have:=HPX2.out wx;exact this);rw[hd] at hnx;obtain⟨W2,hW2⟩:∃W2,W2=wr.iterAt w.heap.size s (pos+n):=⟨_,rfl⟩;have hown2:W2.ownsRow (w.heap.size+1) 3 1 u4 done.length (Xa (Gl.ints done)):=by
     rw[hW2];exact Xr hown (λg hg _=>Lib.iterAt_other _ _ _ _ _ (by omega))
    have hbel2:Below w.heap.size w W2:=by rw[hW2];exact Lib.below_iterAt hbel (Nat.le_refl _) _ _
    have HIT2:Hid (W2.heap[w.heap.size]? =some (.stringIter s (pos+n))):=Qd (by rw[hW2];exact Lib.iterAt_heap _ _ _ _ _ HIT.out);have hsz2:w.heap.size+1≤W2.heap.size:=by rw[hW2,Lib.iterAt_size];exact hsz
    simp only[←hW2] at hnx;have hps:pos≤s.size:=by omega
    obtain⟨A2,C2,rfl,hC1,hC2⟩:=Wb hown2;have hlen:(Xa (Gl.ints done)).length=done.length:=by simp[Xa,Gl.ints]
    have HAP:Hid (Xa (Gl.ints (done++[c]))=Xa (Gl.ints done)++[.int .i64 (c:Int)]):=Qd (by unfold Gl.ints;rw[List.map_append,List.map_singleton,Iw]);clear hd hr HPX2 hown hbel hW2 H hmay HIT;by_cases hce:c=65533
    ·have hp2:=hpre hce
     have q:((c:Int)==65533)=true:=by rw[hce];rfl
     have HPX4:=Qd (λwx=>by have:=HPX3.out wx;rw[hp2] at this;exact this);clear hce hpre hp2 HPX3;go_wp2_with fail
     refine(HPX4.out _).mono ?_;rintro e w' ⟨rfl,rfl⟩;go_wp2_with (at_builtin;refine wpList_append_own _ rfl _ _ 25 rfl (w.heap.size+1) 3 i0 (.int .i64 0) 1 8 Tryz.underlying25 hi hz0 hz1 hz2 rfl (by decide) _ _ _ rfl (hown2.alloc _) ⟨_,0,none⟩ 1 1 [.int .i64 (c:Int)] rfl rfl (cell_one_new _ _ _) (by intro u hu;simp only[List.mem_singleton] at hu;subst hu;rfl) (by unfold maxLen;omega) (by omega) (by simp;omega) ?_;intro v3 w3 hown3 hgrow3 hnn3)
     have hbel3:Below w.heap.size w w3:=(hbel2.alloc hbel2.size _).grown hgrow3 (by simp;omega) (λk hk=>by have:=(hown2.lt k hk).1;omega);have HIT3:Hid (w3.heap[w.heap.size]? =some (.stringIter s (pos+n))):=Qd (by
      have hlt:=Cc HIT2.out;rw[hgrow3.block w.heap.size (by simp;omega) (λe=>by have:=(hown2.lt _ e.symm).1;omega)];exact(Below.heap_alloc _ _ _ hlt).trans HIT2.out)
     have hsz3:w.heap.size+1≤w3.heap.size:=by have:=hgrow3.size;simp at this;omega
     go_roundw
     case rel=>exact⟨pos+n,done++[c],HIT3,by rw[HAP.out];simpa using hown3,hbel3,hsz3,HST⟩
     case measure=>
      have h1:w3.iterPos w.heap.size=pos+n:=by unfold World.iterPos;rw[HIT3.out]
      have h2:=HIP.out;simp only[h1,h2];omega
    have q:((c:Int)==65533)=false:=beq_eq_false_iff_ne.2 (by omega);clear hce hpre HPX3;go_wp2_with (at_builtin;refine wpList_append_own _ rfl _ _ 25 rfl (w.heap.size+1) 3 i0 (.int .i64 0) 1 8 Tryz.underlying25 hi hz0 hz1 hz2 rfl (by decide) _ _ _ rfl (hown2.alloc _) ⟨_,0,none⟩ 1 1 [.int .i64 (c:Int)] rfl rfl (cell_one_new _ _ _) (by intro u hu;simp only[List.mem_singleton] at hu;subst hu;rfl) (by unfold maxLen;omega) (by omega) (by simp;omega) ?_;intro v3 w3 hown3 hgrow3 hnn3)
    have hbel3:Below w.heap.size w w3:=(hbel2.alloc hbel2.size _).grown hgrow3 (by simp;omega) (λk hk=>by have:=(hown2.lt k hk).1;omega);have HIT3:Hid (w3.heap[w.heap.size]? =some (.stringIter s (pos+n))):=Qd (by
     have hlt:=Cc HIT2.out;rw[hgrow3.block w.heap.size (by simp;omega) (λe=>by have:=(hown2.lt _ e.symm).1;omega)];exact(Below.heap_alloc _ _ _ hlt).trans HIT2.out)
    have hsz3:w.heap.size+1≤w3.heap.size:=by have:=hgrow3.size;simp at this;omega
    go_roundw
    case rel=>exact⟨pos+n,done++[c],HIT3,by rw[HAP.out];simpa using hown3,hbel3,hsz3,HST⟩
    case measure=>
     have h1:w3.iterPos w.heap.size=pos+n:=by unfold World.iterPos;rw[HIT3.out]
     have h2:=HIP.out;simp only[h1,h2];omega
  have hnx:∀ty,(Instr.next (.pointer (some ⟨w.heap.size,0,none⟩)) true ty).run Tryz.prog wr=_:=λty=>Lib.run_next_end_at wr w.heap.size s pos ty HIT.out hp;have HB:=Qd (H.out.done hp);have HNE:Hid (Gl.ints (Gl.dec s 0).1=Gl.ints done∧Gl.badI (Gl.dec s 0).2= -1):=Qd (by rw[HB.out];exact⟨rfl,rfl⟩);have HL:=Qd (IsCh.of_own (by rw[show(Gl.ints done).length=done.length by simp[Gl.ints]];exact hown));clear hown H;go_wp2_with fail
  go_ret2
  exact⟨_,by rw[HNE.out.2];rfl,by rw[HNE.out.1];exact HL.out,hbel⟩
end
section
open Go.RowKit
theorem Xp {x:Int}(h:Gl.may x=true):Lib.runeCells x=Lib.byteCells (Tk.enc1 x):=by
 unfold Gl.may at h;simp only[Bool.and_eq_true,Bool.or_eq_true,decide_eq_true_eq] at h;obtain⟨⟨h0,h1⟩,h2⟩:=h;obtain⟨n,rfl⟩:∃n:Nat,x=(n:Int):=⟨x.toNat,by omega⟩;unfold Lib.runeCells Lib.byteCells Tk.enc1 Gl.one;rw[Int.toNat_natCast];by_cases a:n<128
 ·rw[if_pos a,Lib.encodeRuneZ_one (by omega) (by omega)]
  simp;omega
 rw[if_neg a];by_cases b:n<2048
 ·rw[if_pos b,Lib.encodeRuneZ_two (by omega) (by omega)]
  simp;omega
 rw[if_neg b];by_cases c:n<65536
 ·rw[if_pos c,Lib.encodeRuneZ_three (by omega)]
  simp;omega
 rw[if_neg c,Lib.encodeRuneZ_four (by omega) (by omega)];simp;omega
theorem R3 (l:List Int)(x:Int):Tk.enc (l++[x])=Tk.enc l++Tk.enc1 x:=by unfold Tk.enc;simp
theorem enc1_len (x:Int):(Tk.enc1 x).length≤4:=by unfold Tk.enc1;rw[List.length_map,Gl.one_len];unfold Gl.wide;split<;>(try omega);split<;>(try omega);split<;>omega
theorem enc_len:∀l:List Int,(Tk.enc l).length≤4*l.length
 | []=>by simp[Tk.enc]
 |a::r=>by
  have h1:=enc1_len a;have h2:=enc_len r;unfold Tk.enc at h2⊢;rw[List.flatMap_cons,List.length_append,List.length_cons];omega
theorem H7:(Tryz.prog.info? 5).map (λi=>(i.zero,i.size,i.bytes))=some (some (.int .u8 0),1,1):=by kernel_rfl
theorem S3 {w:World}{base:Nat}{v:Value}{t:List UInt8}(h:w.ownsRow base 5 1 v t.length (Lib.byteCells t)):(convert 40 9 v).run Tryz.prog w= .ok (.string ⟨t.toArray⟩) w:=by
 obtain⟨A,C,rfl,hC1,hC2⟩:=Wb h;have hl:=Lies.of_own h;by_cases h0:t=[]
 ·subst h0
  cases A with
  |none=>rw[run_convert_bytes_string w 40 9 5 none _ _ Tryz.underlying40 Tryz.underlying5 Tryz.underlying9];rfl
  |some a=>exact run_convert_bytes_back w 40 9 5 a C [] Tryz.underlying40 Tryz.underlying5 Tryz.underlying9 (λj hj=>by cases hj)
 have hp:0<t.length:=List.length_pos_iff.2 h0;obtain⟨b,off,hA,hb,g0⟩:=hl.at_ (k:=0) (by rw[Lib.byteCells_length];exact hp);subst hA;refine run_convert_bytes_back w 40 9 5 _ C t Tryz.underlying40 Tryz.underlying5 Tryz.underlying9 (λj hj=>?_);obtain⟨b',off',hA',hb',g'⟩:=hl.at_ (k:=j) (by rw[Lib.byteCells_length];exact hj);injection hA' with hA'
 injection hA' with e1 e2
 subst e1 e2;rw[Addr.add_lit,g'];simp[Lib.byteCells]
theorem Bn (A:Option Addr)(c:Nat)(l:List Int)(w:World)(hl:Lies w w.heap.size A (Xa l))(hn:l.length≤1000000)(hm:∀x∈l,Gl.may x=true):
 Calls Tryz.prog 68 #[.slice A l.length c] w λe w'=>e= .returned (.tuple #[.string ⟨(Tk.enc l).toArray⟩,.bool true])∧Below w.heap.size w w':=by
 obtain⟨i0,hi,hz0,hz1,hz2⟩:=info_parts H7;have HL:=Qd hl;have HM:=Qd hm;clear hl hm;go_enter Tryz.func68,Tryz.ntmps68
 go_wp2_with (at_make;refine Sc _ rfl _ _ 40 rfl 5 i0 (.int .u8 0) Tryz.underlying40 hi hz0 hz1 rfl .i64 .i64 _ _ 0 l.length rfl rfl rfl rfl (by omega) (by rw[hz2];omega) (by omega) w.heap.size w (Below.refl _ _) (Nat.le_refl _) ?_;intro w2 hblk2 hb2 hb2' hlt2)
 have hown2:w2.ownsRow w.heap.size 5 1 (.slice (some ⟨w.heap.size,0,none⟩) 0 l.length) 0 []:=by
  have:=hblk2.own (base:=w.heap.size) (n:=0) (Nat.le_refl _) (by omega) (by simp[maxLen];omega)
  simpa using this
 clear hblk2 hb2' hlt2;go_loopw [4,12] (λov iv wr=>∃i:Nat,i≤l.length∧iv= .int .i64 (i:Int)∧wr.ownsRow w.heap.size 5 1 ov (Tk.enc (l.take i)).length (Lib.byteCells (Tk.enc (l.take i)))∧Below w.heap.size w wr) (λ_ iv _=>l.length-(intOf iv).toNat)
 case atStart=>exact⟨0,Nat.zero_le _,rfl,hown2,hb2⟩
 case round=>
  clear hown2 hb2;obtain⟨i,hil,rfl,hown,hbel⟩:=hrel;have hsz:=hbel.size;by_cases hlt:i<l.length
  ·obtain⟨b,off,rfl,hb,g0⟩:=Lb (HL.out.below hbel) hlt
   have hmx:=HM.out l[i] (List.getElem_mem hlt);have HT:Hid (Tk.enc (l.take (i+1))=Tk.enc (l.take i)++Tk.enc1 l[i]):=Qd (by rw[List.take_succ_eq_append_getElem hlt,R3]);have HRC:=Qd (Xp hmx);have hel:=enc_len (l.take i);have htl:(l.take i).length≤i:=List.length_take_le _ _;obtain⟨x,hx⟩:∃x,x=l[i]:=⟨_,rfl⟩;rw[←hx] at g0 hmx HT HRC;have MY:=Su x;rw[hmx] at MY;have HMY:=Qd MY;have hx0:0≤x:=by unfold Gl.may at hmx;simp at hmx;omega
   have hx1:x≤1114111:=by unfold Gl.may at hmx;simp at hmx;omega
   obtain⟨T,hT⟩:∃T,T=Tk.enc (l.take i):=⟨_,rfl⟩;rw[←hT] at hown HT hel;have AR:=Qd (λ(h:wr.ownsRow w.heap.size 5 1 u4 T.length (Lib.byteCells T))=>Tryz.utf8_AppendRune_plain w.heap.size u4 T.length (Lib.byteCells T) x (by omega) (by omega) wr h (by omega) hsz);have AR2:=Qd (AR.out hown);have HOW:=Qd hown;obtain⟨A2,C2,rfl,hC1,hC2⟩:=Wb hown;clear hx MY hmx hT AR hown;go_wp2_with fail
   refine(HMY.out _).mono ?_;rintro e w' ⟨rfl,rfl⟩;go_wp2_with fail
   refine AR2.out.mono ?_;rintro e w3 ⟨v3,rfl,hown3,o,hgr⟩;have hbel3:Below w.heap.size w w3:=(hbel.alloc hsz o).grown hgr (by simp;omega) (λk hk=>(HOW.out.lt k hk).1);have hown4:w3.ownsRow w.heap.size 5 1 v3 (Tk.enc (l.take (i+1))).length (Lib.byteCells (Tk.enc (l.take (i+1)))):=by
    rw[HT.out,List.length_append,Lib.byteCells_append,←HRC.out,←Lib.byteCells_length (Tk.enc1 x),←HRC.out];exact hown3
   clear hown3 hgr AR2;go_wp2_with fail
   go_roundw
   case rel=>exact⟨i+1,by omega,by go_num,hown4,hbel3⟩
   case measure=>simp[intOf];omega
  have e:l.take i=l:=List.take_of_length_le (by omega);rw[e] at hown;have hcv:=S3 hown;obtain⟨A2,C2,rfl,hC1,hC2⟩:=Wb hown;clear hown e;go_wp2_with fail
  go_ret2
  exact⟨rfl,hbel⟩
end
section
open Go.RowKit
theorem V3:(Tryz.prog.info? 54).map (·.size)=some 8:=by kernel_rfl
def Fd (k:Int)(neg:Bool)(n1 n2 lv:Value)(s:List UInt8)(c a:Int):List Value:=[.int .i64 k,.bool neg,n1,n2,lv,.string ⟨s.toArray⟩,.int .i64 c,.int .i64 a]
def Pe (w:World)(t:Tk.Tok)(en:Nat)(er:Int)(e:Ending)(w':World):Prop:=
 ∃n1 n2 lv,e= .returned (.tuple #[.agg (Fd t.kind t.n.neg n1 n2 lv t.s t.c 0).toArray,.int .i64 (en:Int),.int .i64 er])∧IsRes w' n1 t.n.top∧IsRes w' n2 t.n.bot∧w'.ownsRow 0 3 1 lv t.l.length (Xa t.l)∧Below w.heap.size w w'
theorem Fh (p:Int→Bool):∀(l:List Int) (j:Nat),p (-1)=false→j≤(l.takeWhile p).length→(p (l.getD j (-1))=true↔j<(l.takeWhile p).length)
 | [],j,hp,h=>by
  have:j=0:=by simpa using h
  subst this;simp[hp]
 |a::r,0,hp,h=>by
  rw[List.takeWhile_cons];cases ha:p a<;>simp[ha]
 |a::r,j+1,hp,h=>by
  rw[List.takeWhile_cons] at h⊢;cases ha:p a
  ·rw[ha] at h;simp at h
  rw[ha] at h;simp only[if_true,List.length_cons] at h⊢;have:=Fh p r j hp (by omega);rw[show(a::r).getD (j+1) (-1)=r.getD j (-1) from rfl,this];omega
theorem Bp (l:List Int)(i j:Nat):(l.drop i).getD j (-1)=l.getD (i+j) (-1):=by
 rw[List.getD_eq_getElem?_getD,List.getD_eq_getElem?_getD,List.getElem?_drop]
theorem X3 {l:List Int}{i j:Nat}(h:j≤Tk.words l i):Tk.word (l.getD (i+j) (-1))=true↔j<Tk.words l i:=by
 unfold Tk.words at h⊢;rw[←Bp];exact Fh _ _ _ (by decide) h
theorem Cn {l:List Int}{i j:Nat}(h:j≤Tk.figures l i):Tk.digit (l.getD (i+j) (-1))=true↔j<Tk.figures l i:=by
 unfold Tk.figures at h⊢;rw[←Bp];exact Fh _ _ _ (by decide) h
theorem Yr {w:World}{B:Nat}{A:Option Addr}{l:List Int}(h:Lies w B A (Xa l))(i n:Nat)(hin:i+n≤l.length):∀A',(∀b off,A=some ⟨b,off,none⟩→A'=some ⟨b,off+i,none⟩)→Lies w B A' (Xa ((l.drop i).take n)):=by
 intro A' hA';by_cases h0:n=0
 ·subst h0
  simp only[List.take_zero];exact .inl rfl
 obtain⟨b,off,e,hb,g0⟩:=Lb h (k:=i) (by omega);refine .inr ⟨b,off+i,hA' b off e,hb,λk v hv=>?_⟩;have hk:k<n:=by
  rcases Nat.lt_or_ge k n with h' |h'
  ·exact h'
  rw[List.getElem?_eq_none (by simp[Xa];omega)] at hv;cases hv
 obtain⟨b',off',e',hb',g'⟩:=Lb h (k:=i+k) (by omega);rw[e] at e';injection e' with e'
 injection e' with e1 e2
 subst e1 e2;rw[show off+i+k=off+(i+k) by omega,g'];rw[←hv];unfold Xa;rw[List.getElem?_map,List.getElem?_take,if_pos hk,List.getElem?_drop,List.getElem?_eq_getElem (by omega)];rfl
end
section
open Go.RowKit
def Oc (w:World)(l:List Int)(i:Nat):Ending→World→Prop:=Pe w (Tk.read l i).1 (if(Tk.read l i).2.2=0 then i+(Tk.read l i).2.1 else 0) (Tk.read l i).2.2
theorem Nb (k c a:Int)(neg:Bool)(a1 a2 a3:Option Addr)(m1 c1 m2 c2 m3 c3:Nat)(s:ByteArray):(#[.int .i64 k,.bool neg,.slice a1 m1 c1,.slice a2 m2 c2,.slice a3 m3 c3,.string s,.int .i64 c,.int .i64 a]:Array Value).all (·.oneCell')=true:=by
 simp[Value.oneCell']
theorem Pa (x0 x1 x2 x3 x4 x5 x6 x7:Value):(Tryz.prog.info? 54).map (·.size)=some (#[x0,x1,x2,x3,x4,x5,x6,x7]:Array Value).size:=V3
theorem Ka {P:Program}{fn:Func}{p q r:Tmp}{ty:TypeId}(h:fn.results= #[.cell p ty,.tmp q,.tmp r])(tmps:Array Value)(w:World)(g:Nat)(t:TypeId)(cs:Array Value)(fr:Nat×Nat)(d:TypeDesc)(u v:Value)
 (hp:tmps.getD p undef= .pointer (some ⟨g,0,none⟩)) (hq:tmps.getD q undef=u) (hr:tmps.getD r undef=v) (hg:w.heap[g]? =some (.cells cs t fr))
 (hu:P.underlying ty=some d) (hd:(match d with | .struct _ | .array _ _=>true |_=>false)=true) (hi:(P.info? ty).map (·.size)=some cs.size):
 (results fn tmps).run P w= .ok (.tuple #[.agg cs,u,v]) w:=by
 have hp':tmps[p]?.getD undef= .pointer (some ⟨g,0,none⟩):=by simpa using hp
 have hq':tmps[q]?.getD undef=u:=by simpa using hq
 have hr':tmps[r]?.getD undef=v:=by simpa using hr
 simp[results,h,hp',hq',hr',asAddr,run_loadVar_row w g t ty cs fr d hg hu hd hi]
theorem Zy {l:List Int}{i:Nat}(hc:Tk.cls (l.getD i (-1))=2):Tk.read l i=if 16<Tk.words l i then(Tk.none_,0,1) else(⟨if l.getD i (-1)≤90 then 3 else 2,Rt.none_,[],Tk.enc ((l.drop i).take (Tk.words l i)),0,i⟩,Tk.words l i,0):=by
 unfold Tk.read;simp only;rw[if_neg (by rw[hc];decide),if_pos hc]
theorem Jw {x:Int}(h:Tk.cls x=2):65≤x∧(x≤90∨90<x):=by
 unfold Tk.cls at h
 split at h
 ·cases h
 split at h
 ·omega
 exfalso
 repeat' split at h
 all_goals (first|cases h |omega)
theorem Y3 (A:Option Addr)(c:Nat)(l:List Int)(i:Nat)(w:World)(hl:Lies w w.heap.size A (Xa l))(hn:l.length≤100000)(hcap:l.length≤c)(hm:∀x∈l,Gl.may x=true)(hi:i<l.length)(hc:Tk.cls (l.getD i (-1))=2):
 Calls Tryz.prog 82 #[.slice A l.length c,.int .i64 (i:Int)] w (Oc w l i):=by
 have HRD:=Qd (Zy hc);have HR:Hid (∀e w',Pe w (Tk.read l i).1 (if(Tk.read l i).2.2=0 then i+(Tk.read l i).2.1 else 0) (Tk.read l i).2.2 e w'→Oc w l i e w'):=Qd (λe w' h=>h);obtain⟨W,hW⟩:∃W,W=w.alloc (.cells #[.int .i64 0,.bool false,.slice none 0 0,.slice none 0 0,.slice none 0 0,.string ⟨#[]⟩,.int .i64 0,.int .i64 0] 54):=⟨_,rfl⟩;have hb0:Below w.heap.size w W:=by rw[hW];exact(Below.refl _ _).alloc (Nat.le_refl _) _
 have HGA:Hid (W.heap[w.heap.size]? =some (.cells #[.int .i64 0,.bool false,.slice none 0 0,.slice none 0 0,.slice none 0 0,.string ⟨#[]⟩,.int .i64 0,.int .i64 0] 54 (0,0))):=Qd (by rw[hW];exact heap_alloc_new w _);have HWS:Hid (W.heap.size=w.heap.size+1):=Qd (by rw[hW];simp);have hlW:Lies W W.heap.size A (Xa l):=(hl.below hb0).more hb0.size;have LT:=Qd (λ(m:Nat) (h:m≤1000000)=>Zi A c l m W hlW (by omega) h);have DG:=Qd (λ(m:Nat) (h:m≤1000000)=>Ck A c l m W hlW (by omega) h);have hwl:=Tk.words_le l i;have HWA:=Qd (λ(j:Nat) (h:j≤Tk.words l i)=>X3 (l:=l) (i:=i) h);have HWP:Hid (0<Tk.words l i):=Qd (Tk.words_pos hi (by unfold Tk.word;rw[hc];simp));have HL:=Qd hlW;have HM:=Qd hm;have HC:=Qd hc;have HW:Hid (W=w.alloc (.cells #[.int .i64 0,.bool false,.slice none 0 0,.slice none 0 0,.slice none 0 0,.string ⟨#[]⟩,.int .i64 0,.int .i64 0] 54)):=Qd hW;obtain⟨n,hnw⟩:∃n,n=Tk.words l i:=⟨_,rfl⟩;rw[←hnw] at HRD hwl HWA HWP;have HNW:=Qd hnw;clear hl hlW hm hc hW hnw;go_enter Tryz.func82,Tryz.ntmps82
 go_upto_region 1 with fail
 rw[←HW.out];go_wp2_with fail
 go_loop [7] (λev=>∃m:Nat,i≤m∧m≤i+n∧ev= .int .i64 (m:Int)) (λev=>i+n-(intOf ev).toNat)
 case atStart=>exact⟨i,Nat.le_refl _,by omega,rfl⟩
 case round=>
  obtain⟨m,hm1,hm2,rfl⟩:=hrel;have hwat:=HWA.out (m-i) (by omega);rw[show i+(m-i)=m by omega] at hwat;have LT2:=LT.out m (by omega);have DG2:=DG.out m (by omega);unfold Tk.word at hwat;generalize(Tk.cls (l.getD m (-1))==2)=b1 at*;generalize Tk.digit (l.getD m (-1))=b2 at*;have HLT2:=Qd LT2;have HDG2:=Qd DG2;clear LT2 DG2;by_cases hlt:m<i+n
  ·have hb:(b2||b1)=true:=hwat.2 (by omega)
   clear hwat;cases b1
   ·have hb2:b2=true:=by simpa using hb
    subst hb2;clear hb;go_wp2_with fail
    refine HLT2.out.mono ?_;rintro e w' ⟨rfl,rfl⟩;go_wp2_with fail
    refine HDG2.out.mono ?_;rintro e w' ⟨rfl,rfl⟩;go_wp2_with fail
    go_round
    case rel=>exact⟨m+1,by omega,by omega,by go_num⟩
    case measure=>simp[intOf];omega
   clear hb;go_wp2_with fail
   refine HLT2.out.mono ?_;rintro e w' ⟨rfl,rfl⟩;go_wp2_with fail
   go_round
   case rel=>exact⟨m+1,by omega,by omega,by go_num⟩
   case measure=>simp[intOf];omega
  have hb:(b2||b1)=false:=by
   rw[Bool.eq_false_iff];intro h;exact hlt (by have:=hwat.1 h;omega)
  obtain⟨hb2,hb1⟩:b2=false∧b1=false:=by cases b2<;>cases b1<;>simp at hb⊢
  subst hb1 hb2;obtain rfl:m=i+n:=by omega
  clear hb hwat hlt hm1 hm2;have hmi:((i+n:Nat):Int)-(i:Int)=(n:Int):=by omega
  go_wp2_with fail
  refine HLT2.out.mono ?_;rintro e w' ⟨rfl,rfl⟩;go_wp2_with fail
  refine HDG2.out.mono ?_;rintro e w' ⟨rfl,rfl⟩;clear HLT2 HDG2 LT DG;by_cases h16:16<n
  ·have q16:decide (16<(n:Int))=true:=decide_eq_true (by omega)
   have HRE:Hid (Tk.read l i=(Tk.none_,0,1)):=Qd (by rw[HRD.out,if_pos h16]);go_wp2_with (with_reducible refine wpList_store_row rfl 54 (.tmp 4) (.tmp 24) rfl w.heap.size #[.int .i64 0,.bool false,.slice none 0 0,.slice none 0 0,.slice none 0 0,.string ⟨#[]⟩,.int .i64 0,.int .i64 0] rfl rfl 54 #[.int .i64 0,.bool false,.slice none 0 0,.slice none 0 0,.slice none 0 0,.string ⟨#[]⟩,.int .i64 0,.int .i64 0] HGA.out (Pa _ _ _ _ _ _ _ _) rfl (Nb _ _ _ _ _ _ _ _ _ _ _ _ _ _) ?_)
   refine bodyPost_ret (Ka (by rfl) _ _ w.heap.size 54 #[.int .i64 0,.bool false,.slice none 0 0,.slice none 0 0,.slice none 0 0,.string ⟨#[]⟩,.int .i64 0,.int .i64 0] (0,0) _ _ _ (by rfl) (by rfl) (by rfl) (Ha HGA.out) Tryz.underlying54 rfl (Pa _ _ _ _ _ _ _ _)) rfl (HR.out _ _ ?_);rw[HRE.out];exact⟨_,_,_,rfl,Ma _,Ma _,World.ownsRow_nil _ _ _ _,rBelow.setRow hb0 (Nat.le_refl _) _⟩
  have q16:decide (16<(n:Int))=false:=decide_eq_false (by omega);obtain⟨x,hx⟩:∃x,x=l.getD i (-1):=⟨_,rfl⟩;have HRE:Hid (Tk.read l i=(⟨if x≤90 then 3 else 2,Rt.none_,[],Tk.enc ((l.drop i).take n),0,i⟩,n,0)):=Qd (by rw[HRD.out,if_neg h16,hx]);obtain⟨W2,hW2⟩:∃W2,W2=W.alloc (.cells #[.int .i64 2,.bool false,.slice none 0 0,.slice none 0 0,.slice none 0 0,.string ⟨#[]⟩,.int .i64 0,.int .i64 0] 54):=⟨_,rfl⟩;have hbW:Below W.heap.size W W2:=by rw[hW2];exact(Below.refl _ _).alloc (Nat.le_refl _) _
  have HB2:Hid (Blk W2 W.heap.size 54 [.int .i64 2,.bool false,.slice none 0 0,.slice none 0 0,.slice none 0 0,.string ⟨#[]⟩,.int .i64 0,.int .i64 0]):=Qd (by rw[hW2];exact Blk.new W _ _);have HW2:=Qd hW2;have hcr:=Jw (show Tk.cls x=2 by rw[hx];exact HC.out);obtain⟨b,off,rfl,hb,g0⟩:=Lb (HL.out.below hbW) hi;rw[←Tk.getD_in hi,←hx] at g0;have HXV:=Qd hx;clear hx hW2;go_upto_region 7 with fail
  rw[←HW2.out];have hx65:65≤x:=hcr.1;have HL2:Hid (Lies W W.heap.size (some ⟨b,off+i,none⟩) (Xa ((l.drop i).take n))):=Qd (Yr HL.out i n (by omega) _ (λb' off' e=>by injection e with e;injection e with e1 e2;subst e1 e2;rfl));have EN:=Qd (λ(wx:World) (h:Below W.heap.size W wx) (c':Nat)=>Bn (some ⟨b,off+i,none⟩) c' ((l.drop i).take n) wx ((HL2.out.below h).more h.size) (by simp;omega) (λy hy=>HM.out y (List.mem_of_mem_drop (List.mem_of_mem_take hy))));have hlen:((l.drop i).take n).length=n:=by simp;omega
  rw[hlen] at EN;have HBW:=Qd hbW;by_cases h90:x≤90
  ·rw[if_pos h90] at HRE
   have hcell:W2.cell? ⟨W.heap.size,0,none⟩=some (.int .i64 2):=HB2.out.cell rfl;have hfroz:W2.frozen? ⟨W.heap.size,0,none⟩=false:=HB2.out.frozen 0;have HB3:Hid (Blk (W2.setCell ⟨W.heap.size,0,none⟩ (.int .i64 3)) W.heap.size 54 [.int .i64 3,.bool false,.slice none 0 0,.slice none 0 0,.slice none 0 0,.string ⟨#[]⟩,.int .i64 0,.int .i64 0]):=Qd (HB2.out.set_ 0 _);have HBW3:Hid (Below W.heap.size W (W2.setCell ⟨W.heap.size,0,none⟩ (.int .i64 3))):=Qd (HBW.out.setCell (Nat.le_refl _) _);go_wp2_with fail
   refine(EN.out _ HBW3.out _).mono ?_;rintro e w3 ⟨rfl,hb3⟩;have HBW4:Hid (Below W.heap.size W w3):=Qd (HBW3.out.trans (hb3.mono (Nat.le_of_lt HB3.out.lt)));have HB4:Hid (Blk w3 W.heap.size 54 [.int .i64 3,.bool false,.slice none 0 0,.slice none 0 0,.slice none 0 0,.string ⟨#[]⟩,.int .i64 0,.int .i64 0]):=Qd (HB3.out.keep hb3 HB3.out.lt);have hcell5:w3.cell? ⟨W.heap.size,5,none⟩=some (.string ⟨#[]⟩):=HB4.out.cell rfl;have hfroz5:w3.frozen? ⟨W.heap.size,5,none⟩=false:=HB4.out.frozen 5;have HB5:Hid (Blk (w3.setCell ⟨W.heap.size,5,none⟩ (.string ⟨(Tk.enc ((l.drop i).take n)).toArray⟩)) W.heap.size 54 [.int .i64 3,.bool false,.slice none 0 0,.slice none 0 0,.slice none 0 0,.string ⟨(Tk.enc ((l.drop i).take n)).toArray⟩,.int .i64 0,.int .i64 0]):=Qd (HB4.out.set_ 5 _);have HBW5:Hid (Below W.heap.size W (w3.setCell ⟨W.heap.size,5,none⟩ (.string ⟨(Tk.enc ((l.drop i).take n)).toArray⟩))):=Qd (HBW4.out.setCell (Nat.le_refl _) _);have HG5:Hid ((w3.setCell ⟨W.heap.size,5,none⟩ (.string ⟨(Tk.enc ((l.drop i).take n)).toArray⟩)).heap[w.heap.size]? =some (.cells #[.int .i64 0,.bool false,.slice none 0 0,.slice none 0 0,.slice none 0 0,.string ⟨#[]⟩,.int .i64 0,.int .i64 0] 54 (0,0))):=Qd ((HBW5.out.block w.heap.size (by rw[HWS.out];omega)).trans HGA.out);have HG6:Hid ((w3.setCell ⟨W.heap.size,5,none⟩ (.string ⟨(Tk.enc ((l.drop i).take n)).toArray⟩)).heap[W.heap.size]? =some (.cells #[.int .i64 3,.bool false,.slice none 0 0,.slice none 0 0,.slice none 0 0,.string ⟨(Tk.enc ((l.drop i).take n)).toArray⟩,.int .i64 0,.int .i64 0] 54 (0,0))):=HB5;clear hb3 EN;go_wp2_with (first|(with_reducible refine wpList_load_row rfl 54 (.tmp 8) rfl W.heap.size rfl 54 #[.int .i64 3,.bool false,.slice none 0 0,.slice none 0 0,.slice none 0 0,.string ⟨(Tk.enc ((l.drop i).take n)).toArray⟩,.int .i64 0,.int .i64 0] (0,0) _ HG6.out Tryz.underlying54 rfl (Pa _ _ _ _ _ _ _ _) ?_) |(with_reducible refine wpList_store_row rfl 54 (.tmp 4) (.tmp 48) rfl w.heap.size #[.int .i64 3,.bool false,.slice none 0 0,.slice none 0 0,.slice none 0 0,.string ⟨(Tk.enc ((l.drop i).take n)).toArray⟩,.int .i64 0,.int .i64 0] rfl rfl 54 #[.int .i64 0,.bool false,.slice none 0 0,.slice none 0 0,.slice none 0 0,.string ⟨#[]⟩,.int .i64 0,.int .i64 0] HG5.out (Pa _ _ _ _ _ _ _ _) rfl (Nb _ _ _ _ _ _ _ _ _ _ _ _ _ _) ?_))
   refine bodyPost_ret (Ka (by rfl) _ _ w.heap.size 54 #[.int .i64 3,.bool false,.slice none 0 0,.slice none 0 0,.slice none 0 0,.string ⟨(Tk.enc ((l.drop i).take n)).toArray⟩,.int .i64 0,.int .i64 0] (0,0) _ _ _ (by rfl) (by rfl) (by rfl) (Ha HG5.out) Tryz.underlying54 rfl (Pa _ _ _ _ _ _ _ _)) rfl (HR.out _ _ ?_);rw[HRE.out];exact⟨_,_,_,rfl,Ma _,Ma _,World.ownsRow_nil _ _ _ _,rBelow.setRow (hb0.trans (HBW5.out.mono (by rw[HWS.out];omega))) (Nat.le_refl _) _⟩
  have q90:decide (x≤90)=false:=decide_eq_false h90;rw[if_neg h90] at HRE;have HB3:=HB2;have HBW3:=HBW;go_wp2_with fail
  refine(EN.out _ HBW3.out _).mono ?_;rintro e w3 ⟨rfl,hb3⟩;have HBW4:Hid (Below W.heap.size W w3):=Qd (HBW3.out.trans (hb3.mono (Nat.le_of_lt HB3.out.lt)));have HB4:Hid (Blk w3 W.heap.size 54 [.int .i64 2,.bool false,.slice none 0 0,.slice none 0 0,.slice none 0 0,.string ⟨#[]⟩,.int .i64 0,.int .i64 0]):=Qd (HB3.out.keep hb3 HB3.out.lt);have hcell5:w3.cell? ⟨W.heap.size,5,none⟩=some (.string ⟨#[]⟩):=HB4.out.cell rfl;have hfroz5:w3.frozen? ⟨W.heap.size,5,none⟩=false:=HB4.out.frozen 5;have HB5:Hid (Blk (w3.setCell ⟨W.heap.size,5,none⟩ (.string ⟨(Tk.enc ((l.drop i).take n)).toArray⟩)) W.heap.size 54 [.int .i64 2,.bool false,.slice none 0 0,.slice none 0 0,.slice none 0 0,.string ⟨(Tk.enc ((l.drop i).take n)).toArray⟩,.int .i64 0,.int .i64 0]):=Qd (HB4.out.set_ 5 _);have HBW5:Hid (Below W.heap.size W (w3.setCell ⟨W.heap.size,5,none⟩ (.string ⟨(Tk.enc ((l.drop i).take n)).toArray⟩))):=Qd (HBW4.out.setCell (Nat.le_refl _) _);have HG5:Hid ((w3.setCell ⟨W.heap.size,5,none⟩ (.string ⟨(Tk.enc ((l.drop i).take n)).toArray⟩)).heap[w.heap.size]? =some (.cells #[.int .i64 0,.bool false,.slice none 0 0,.slice none 0 0,.slice none 0 0,.string ⟨#[]⟩,.int .i64 0,.int .i64 0] 54 (0,0))):=Qd ((HBW5.out.block w.heap.size (by rw[HWS.out];omega)).trans HGA.out);have HG6:Hid ((w3.setCell ⟨W.heap.size,5,none⟩ (.string ⟨(Tk.enc ((l.drop i).take n)).toArray⟩)).heap[W.heap.size]? =some (.cells #[.int .i64 2,.bool false,.slice none 0 0,.slice none 0 0,.slice none 0 0,.string ⟨(Tk.enc ((l.drop i).take n)).toArray⟩,.int .i64 0,.int .i64 0] 54 (0,0))):=HB5;clear hb3 EN;go_wp2_with (first|(with_reducible refine wpList_load_row rfl 54 (.tmp 8) rfl W.heap.size rfl 54 #[.int .i64 2,.bool false,.slice none 0 0,.slice none 0 0,.slice none 0 0,.string ⟨(Tk.enc ((l.drop i).take n)).toArray⟩,.int .i64 0,.int .i64 0] (0,0) _ HG6.out Tryz.underlying54 rfl (Pa _ _ _ _ _ _ _ _) ?_) |(with_reducible refine wpList_store_row rfl 54 (.tmp 4) (.tmp 48) rfl w.heap.size #[.int .i64 2,.bool false,.slice none 0 0,.slice none 0 0,.slice none 0 0,.string ⟨(Tk.enc ((l.drop i).take n)).toArray⟩,.int .i64 0,.int .i64 0] rfl rfl 54 #[.int .i64 0,.bool false,.slice none 0 0,.slice none 0 0,.slice none 0 0,.string ⟨#[]⟩,.int .i64 0,.int .i64 0] HG5.out (Pa _ _ _ _ _ _ _ _) rfl (Nb _ _ _ _ _ _ _ _ _ _ _ _ _ _) ?_))
  refine bodyPost_ret (Ka (by rfl) _ _ w.heap.size 54 #[.int .i64 2,.bool false,.slice none 0 0,.slice none 0 0,.slice none 0 0,.string ⟨(Tk.enc ((l.drop i).take n)).toArray⟩,.int .i64 0,.int .i64 0] (0,0) _ _ _ (by rfl) (by rfl) (by rfl) (Ha HG5.out) Tryz.underlying54 rfl (Pa _ _ _ _ _ _ _ _)) rfl (HR.out _ _ ?_);rw[HRE.out];exact⟨_,_,_,rfl,Ma _,Ma _,World.ownsRow_nil _ _ _ _,rBelow.setRow (hb0.trans (HBW5.out.mono (by rw[HWS.out];omega))) (Nat.le_refl _) _⟩
end
section
open Go.RowKit
def I7 (w:World)(n:Nat)(e:Ending)(w':World):Prop:=∃v,e= .returned v∧IsRes w' v (Nt.digs n)∧Below w.heap.size w w'
theorem Yp {s:List UInt8}{w w':World}{e:Ending}(h:NatTold s w e w')(hv:Ten.Valid s):∃v,e= .returned (.tuple #[v,.bool true])∧IsRes w' v (Nt.digs (Ten.numOf s))∧Below w.heap.size w w':=by
 obtain⟨hb,v,ok,n,rfl,hr,hc⟩:=h;rcases hc with⟨rfl,_,rfl⟩ |⟨_,h2,_⟩
 ·exact⟨v,rfl,hr,hb⟩
 exact absurd hv h2
theorem Te (s:List UInt8)(w:World)(hs:s.length≤1000)(hd:∀b∈s,Ten.isDig b):
 Calls Tryz.prog 167 #[.string ⟨s.toArray⟩] w (I7 w (Ten.numOf s)):=by
 have TL:=Tryz.strings_TrimLeft_one ⟨s.toArray⟩ 48 (by decide) w;rw[show(⟨s.toArray⟩:ByteArray).data.toList=s from rfl,show Lib.trimLeftB s 48=Dg.strip s from rfl] at TL;have hl:=Dg.strip_len s;have HV:=Qd (λh=>Dg.strip_valid hd h);have HN:=Qd (Dg.numOf_strip s);have HZ:=Qd (λh=>Dg.strip_nil (s:=s) h);generalize Dg.strip s=t at*;have HTL:=Qd TL;clear TL hd;by_cases h0:t=[]
 ·have hz:=HZ.out h0
  have hemp:t.isEmpty=true:=by rw[h0];rfl
  have HZ2:=Qd hz;subst h0;clear hz HV HN HZ;go_enter Tryz.func167,Tryz.ntmps167
  go_wp2_with fail
  refine HTL.out.mono ?_;rintro e w' ⟨rfl,rfl⟩;go_wp2_with fail
  go_ret;exact⟨_,rfl,by rw[HZ2.out,Nt.digs_zero];exact IsRes.none_ _,Below.refl _ _⟩
 have hemp:t.isEmpty=false:=by cases t with |nil=>exact absurd rfl h0 |cons a r=>rfl
 have h1:¬t=[]:=h0;have PA:=Qd (λ(wx:World)=>Xy t wx (by omega));have HV2:=Qd (HV.out h0);clear HZ HV;go_enter Tryz.func167,Tryz.ntmps167
 go_wp2_with fail
 refine HTL.out.mono ?_;rintro e w' ⟨rfl,rfl⟩;go_wp2_with fail
 refine(PA.out _).mono ?_;rintro e w2 hnt;obtain⟨v,rfl,hr,hb⟩:=Yp hnt HV2.out;have HR:=Qd hr;clear hnt hr;go_wp2_with fail
 go_ret;exact⟨_,rfl,by rw[←HN.out];exact HR.out,hb⟩
theorem C4 (s:List UInt8)(n:Nat):(⟨s.toArray⟩:ByteArray).extract n s.length=⟨(s.drop n).toArray⟩:=by
 apply ByteArray.ext
 simp;exact List.take_of_length_le (by simp)
theorem Zr (s:List UInt8)(n:Nat)(h:n≤s.length):(⟨s.toArray⟩:ByteArray).extract 0 n=⟨(s.take n).toArray⟩:=by
 apply ByteArray.ext
 simp
def SkipAt (s:List UInt8)(k:Nat):Prop:=∀i (hi:i<s.length),i<k→s[i]=48
theorem SkipAt.step {s:List UInt8}{k:Nat}(h:SkipAt s k)(hk:k<s.length)(he:s[k]=48):SkipAt s (k+1):=λi hi hik=>by
 by_cases e:i=k
 ·subst e;exact he
 exact h i hi (by omega)
theorem SkipAt.done {s:List UInt8}{k:Nat}(h:SkipAt s k)(hd:∀b∈s,Ten.isDig b)(hk:k<s.length)(hn:k+1<s.length→s[k]≠48):Ten.Valid (s.drop k)∧Ten.numOf (s.drop k)=Ten.numOf s:=⟨Dg.valid_drop hd hk hn,Dg.numOf_drop h (by omega)⟩
end
section
open Go.RowKit
theorem Yd (a b:List Nat):U (a++b)=U a++U b:=by simp[U]
theorem Kw (G c c' T j n:Nat)(A':Option Addr)(P a Q d:List Nat)(w:World)(hblk:Blk w G 90 (U (P++(a++Q))))(hP:P.length=j)(hy:Lies w G A' (U d))(ha:Nt.Ok a)(hd:Nt.Ok d)(hla:a.length=n+1)(hld:d.length=n)(hc:n+1≤c)(hc':n≤c')(hm:c≤9223372036854775807)(hm':c'≤9223372036854775807)(hT:T<4294967296)(hs:n≤1000000):
 Calls Tryz.prog 217 #[.slice (some ⟨G,j,none⟩) (n+1) c,.slice A' n c',.int .u64 (T:Int)] w λe w'=>∃(win:List Nat) (b:Nat),e= .returned (.bool (decide (b=1)))∧b≤1∧Blk w' G 90 (U (P++(win++Q)))∧Hid (win.length=n+1∧Nt.Ok win∧Nt.val win+T*Nt.val d=Nt.val a+b*4294967296^(n+1))∧w.grownBy w' (some G):=by
 subst hld;subst hP;rw[Yd,Yd] at hblk;have h:=It G c c' T A' (U P) (U Q) a d w hblk hy ha hd hla hc hc' hm hm' hT hs;rw[Se] at h;refine h.mono ?_;rintro e w' ⟨win,b,he,hb,hblk',H,hg⟩;refine⟨win,b,he,hb,by rw[Yd,Yd];exact hblk',Qd ⟨by rw[H.out.1,hla],H.out.2.1,H.out.2.2⟩,hg⟩
theorem Lw (G c c' j n:Nat)(A':Option Addr)(P a Q d:List Nat)(w:World)(hblk:Blk w G 90 (U (P++(a++Q))))(hP:P.length=j)(hy:Lies w G A' (U d))(ha:Nt.Ok a)(hd:Nt.Ok d)(hla:a.length=n+1)(hld:d.length=n)(hc:n+1≤c)(hc':n≤c')(hm:c≤9223372036854775807)(hm':c'≤9223372036854775807)(hs:n≤1000000):
 Calls Tryz.prog 218 #[.slice (some ⟨G,j,none⟩) (n+1) c,.slice A' n c'] w λe w'=>∃(win:List Nat) (b:Nat),e= .returned (.tuple #[])∧Blk w' G 90 (U (P++(win++Q)))∧Hid (win.length=n+1∧Nt.Ok win∧Nt.val win+b*4294967296^(n+1)=Nt.val a+Nt.val d)∧w.grownBy w' (some G):=by
 subst hld;subst hP;rw[Yd,Yd] at hblk;have h:=Jt G c c' A' (U P) (U Q) a d w hblk hy ha hd hla hc hc' hm hm' hs;rw[Se] at h;refine h.mono ?_;rintro e w' ⟨win,b,he,hblk',H,hg⟩;refine⟨win,b,he,by rw[Yd,Yd];exact hblk',Qd ⟨by rw[H.out.1,hla],H.out.2.1,H.out.2.2⟩,hg⟩
theorem Ot (G c c' j n:Nat)(A':Option Addr)(P a Q d:List Nat)(w:World)(hblk:Blk w G 90 (U (P++(a++Q))))(hP:P.length=j)(hy:Lies w G A' (U d))(ha:Nt.Ok a)(hd:Nt.Ok d)(hla:a.length=n+1)(hld:d.length=n)(hn:2≤n)(hs:n≤1000000)
 (h31:∀h:n-1<d.length,2147483648≤d[n-1]) (hlt:Nt.val a<4294967296*Nt.val d) (hc:n+1≤c) (hc':n≤c'):
 Calls Tryz.prog 216 #[.slice (some ⟨G,j,none⟩) (n+1) c,.slice A' n c'] w λe w'=>∃g:Nat,e= .returned (.int .u64 (g:Int))∧Hid (Nt.val a/Nt.val d≤g∧g≤Nt.val a/Nt.val d+1)∧g<4294967296∧∃k,w'=w.drewN k:=by
 have hg:=hblk.lt;refine Yq (some ⟨G,j,none⟩) A' c c' w.heap.size n a d w ?_ (hy.more (by omega)) ha hd hla hld hn hs h31 hlt hc hc';refine .inr ⟨G,j,rfl,hg,λi v hv=>?_⟩;rw[Yd,Yd] at hblk;refine hblk.cell ?_;rw[List.getElem?_append_right (by rw[Se];omega),Se,hP,Nat.add_sub_cancel_left,List.getElem?_append_left]
 ·exact hv
 rcases Nat.lt_or_ge i (U a).length with h |h
 ·exact h
 rw[List.getElem?_eq_none h] at hv;cases hv
end
end Go.Proofs.YtceplkpjnebnfaaGreatDoor
