/- Texts of this proof, joined. -/
import Derived.Test.YtmiccalfamepdaaGreatDoorM9
import Derived.Shelf.Strings.Builder1
import Derived.Shelf.Strings.Builder2
import Derived.Shelf.Strings.OnBuilder
import Derived.Shelf.Strings.Trim
import Derived.Shelf.Small.Utf8
import Derived.Shelf.Small.Bits
import Derived.Shelf.Small.Strs
import Derived.Shelf.Small.Wraps
import Derived.Shelf.Strings.BuilderF
import Derived.Shelf.Strconv.Atoi
import Derived.Shelf.Strconv.Itoa0
import Derived.Shelf.Strconv.Itoa1
import Derived.Shelf.LaysM
import Derived.Shelf.Strconv.Itoa2
import Derived.Shelf.Strconv.Itoa3
import Derived.Shelf.Strconv.AtoiErrFast
import Derived.Shelf.Strconv.ParseIntEmpty
import Derived.Shelf.Strconv.AtoiFail
import Derived.Shelf.Strconv.Clone
import Derived.Shelf.Strconv.SyntaxError
import Derived.Shelf.LaysC
import Derived.Shelf.Strconv.ToError
import Derived.Shelf.Strconv.Lower
import Derived.Shelf.Strconv.ParseUint10
import Derived.Shelf.Strconv.ParseUint10Empty
import Derived.Shelf.Strconv.ParseUint10Any
import Derived.Shelf.Strconv.ParseInt10
import Derived.Shelf.Strconv.AtoiLong
import Derived.Shelf.Strconv.AtoiInnerAll
import Derived.Shelf.Strconv.RangeError
import Derived.Shelf.Strconv.ToErrorRange
import Derived.Shelf.Strconv.AtoiAll
import Derived.Shelf.Strings.Search1
import Derived.Shelf.Strings.Search2
import Derived.Shelf.Strings.Search3
import Derived.Shelf.Strings.Cut
import Derived.Shelf.Strings.Shaped
import Derived.Shelf.Strings.Prefix
import Derived.Shelf.Strings.Runes
import Derived.Shelf.Strings.AsciiSet
import Derived.Shelf.Bits.Mul64
import Derived.Shelf.Strings.Repeat
import Derived.Shelf.Unicode.DecodeSlow
import Derived.Shelf.Unicode.DecodeAny
import Derived.Ground.SlgnProg
import Derived.Shelf.SlicesE.Clone
import Derived.Lib.AppendIntMem
import Derived.Deep.CutRange
import Derived.Deep.RegionWith
set_option linter.all false
set_option maxHeartbeats 8000000
set_option maxRecDepth 100000
namespace Go.Proofs
open Go.Shelf
def Tryz.lays169_ren:Go.Shelf.Ren:=⟨λ | 169=>32 |n=>n,λ | 70=>49 | 9=>9 | 0=>0 | 72=>52 | 37=>50 | 127=>96 | 3=>3 | 5=>5 |n=>n,λ |n=>n⟩
theorem Tryz.lays169:Go.Proofs.Lays.n169 Tryz.prog Tryz.lays169_ren:={
 mixed:=by kernel_rfl
 f169:=Tryz.func32.trans (congrArg some (by kernel_rfl))
 t0:=Tryz.underlying0
 a0:=Tryz.isAgg0
 z0:=Tryz.sizeOf0
 v0:=Tryz.zeroValue0
 t3:=Tryz.underlying3
 a3:=Tryz.isAgg3
 z3:=Tryz.sizeOf3
 v3:=Tryz.zeroValue3
 t9:=Tryz.underlying9
 a9:=Tryz.isAgg9
 z9:=Tryz.sizeOf9
 v9:=Tryz.zeroValue9
 t37:=Tryz.underlying50
 a37:=Tryz.isAgg50
 z37:=Tryz.sizeOf50
 v37:=Tryz.zeroValue50
 t70:=Tryz.underlying49
 a70:=Tryz.isAgg49
 z70:=Tryz.sizeOf49
 v70:=Tryz.zeroValue49
 t72:=Tryz.underlying52
 a72:=Tryz.isAgg52
 z72:=Tryz.sizeOf52
 v72:=Tryz.zeroValue52
 t127:=Tryz.underlying96
 a127:=Tryz.isAgg96
 z127:=Tryz.sizeOf96
 v127:=Tryz.zeroValue96}
theorem Tryz.Builder_Extra_169:Builder.Extra Tryz.prog Tryz.lays169_ren:={
 sizeBuilder:=by kernel_rfl
 liesBuilder:=by kernel_rfl
 t5:=Tryz.underlying5
 a5:=Tryz.isAgg5
 z5:=Tryz.sizeOf5
 v5:=Tryz.zeroValue5
 infoByte:=by kernel_rfl
 cellsByte:=by kernel_rfl
 sizeByte:=by kernel_rfl
 neB5:=by decide}
open Go.RowKit in
theorem Tryz.Builder_String_any (B b:Nat)(l:List UInt8)(w:World)(h:Lib.IsBuilder 52 5 B b (Lib.byteCells l) w)(hBw:B<=w.heap.size):
 Calls Tryz.prog 32 #[.pointer (some ⟨b,0,none⟩)] w λe w'=>e= .returned (.string ⟨l.toArray⟩)/\Below B w w':=Any.Builder_String_any Tryz.lays169 Tryz.Builder_Extra_169 B b l w h hBw
def Tryz.lays156_ren:Go.Shelf.Ren:=⟨λ | 156=>56 | 165=>86 | 166=>27 | 169=>32 | 240=>54 | 241=>115 | 276=>84 | 277=>144 |n=>n,λ | 31=>71 | 9=>9 | 3=>3 | 4=>4 | 0=>0 | 20=>20 | 72=>52 | 76=>55 | 70=>49 | 37=>50 | 75=>54 | 127=>96 | 164=>118 | 5=>5 | 80=>61 |n=>n,λ |n=>n⟩
theorem Tryz.lays156:Go.Proofs.Lays.n156 Tryz.prog Tryz.lays156_ren:={
 mixed:=by kernel_rfl
 f156:=Tryz.func56.trans (congrArg some (by kernel_rfl))
 f165:=Tryz.func86.trans (congrArg some (by kernel_rfl))
 f166:=Tryz.func27.trans (congrArg some (by kernel_rfl))
 f169:=Tryz.func32.trans (congrArg some (by kernel_rfl))
 f240:=Tryz.func54.trans (congrArg some (by kernel_rfl))
 f241:=Tryz.func115.trans (congrArg some (by kernel_rfl))
 f276:=Tryz.func84.trans (congrArg some (by kernel_rfl))
 f277:=Tryz.func144.trans (congrArg some (by kernel_rfl))
 t0:=Tryz.underlying0
 a0:=Tryz.isAgg0
 z0:=Tryz.sizeOf0
 v0:=Tryz.zeroValue0
 t3:=Tryz.underlying3
 a3:=Tryz.isAgg3
 z3:=Tryz.sizeOf3
 v3:=Tryz.zeroValue3
 t4:=Tryz.underlying4
 a4:=Tryz.isAgg4
 z4:=Tryz.sizeOf4
 v4:=Tryz.zeroValue4
 t9:=Tryz.underlying9
 a9:=Tryz.isAgg9
 z9:=Tryz.sizeOf9
 v9:=Tryz.zeroValue9
 t20:=Tryz.underlying20
 a20:=Tryz.isAgg20
 z20:=Tryz.sizeOf20
 v20:=Tryz.zeroValue20
 t31:=Tryz.underlying71
 a31:=Tryz.isAgg71
 z31:=Tryz.sizeOf71
 v31:=Tryz.zeroValue71
 t37:=Tryz.underlying50
 a37:=Tryz.isAgg50
 z37:=Tryz.sizeOf50
 v37:=Tryz.zeroValue50
 t70:=Tryz.underlying49
 a70:=Tryz.isAgg49
 z70:=Tryz.sizeOf49
 v70:=Tryz.zeroValue49
 t72:=Tryz.underlying52
 a72:=Tryz.isAgg52
 z72:=Tryz.sizeOf52
 v72:=Tryz.zeroValue52
 t75:=Tryz.underlying54
 a75:=Tryz.isAgg54
 z75:=Tryz.sizeOf54
 v75:=Tryz.zeroValue54
 t76:=Tryz.underlying55
 a76:=Tryz.isAgg55
 z76:=Tryz.sizeOf55
 v76:=Tryz.zeroValue55
 t127:=Tryz.underlying96
 a127:=Tryz.isAgg96
 z127:=Tryz.sizeOf96
 v127:=Tryz.zeroValue96
 t164:=Tryz.underlying118
 a164:=Tryz.isAgg118
 z164:=Tryz.sizeOf118
 v164:=Tryz.zeroValue118}
theorem Tryz.Builder_Extra_156:Builder.Extra Tryz.prog Tryz.lays156_ren:={
 sizeBuilder:=by kernel_rfl
 liesBuilder:=by kernel_rfl
 t5:=Tryz.underlying5
 a5:=Tryz.isAgg5
 z5:=Tryz.sizeOf5
 v5:=Tryz.zeroValue5
 infoByte:=by kernel_rfl
 cellsByte:=by kernel_rfl
 sizeByte:=by kernel_rfl
 neB5:=by decide}
open Go.RowKit in
theorem Tryz.strings_Join_none (a:Option Addr)(c:Nat)(sep:ByteArray)(w:World):
 Calls Tryz.prog 56 #[.slice a 0 c,.string sep] w λe w'=>e= .returned (.string ⟨#[]⟩)/\w'=w:=Any.strings_Join_none Tryz.lays156 Tryz.Builder_Extra_156 a c sep w
open Go.RowKit in
theorem Tryz.strings_Join (bk o c:Nat)(xs:List ByteArray)(sep:ByteArray)(w:World)(hcells:∀(j:Nat) x,xs[j]? =some x->w.cell? ⟨bk,o+j,none⟩=some (.string x))(hbk:bk<w.heap.size)(hN:xs.length<=140737488355328)(hcap:xs.length<=c)(hlen:(Lib.join (xs.map (·.data.toList)) sep.data.toList).length<=140737488355328):
 Calls Tryz.prog 56 #[.slice (some ⟨bk,o,none⟩) xs.length c,.string sep] w λe w'=>e= .returned (.string ⟨(Lib.join (xs.map (·.data.toList)) sep.data.toList).toArray⟩)/\Below w.heap.size w w':=Any.strings_Join Tryz.lays156 Tryz.Builder_Extra_156 bk o c xs sep w hcells hbk hN hcap hlen
def Tryz.lays161_ren:Go.Shelf.Ren:=⟨λ | 161=>214 | 231=>224 | 227=>225 | 233=>226 | 235=>227 | 228=>232 | 197=>193 | 151=>233 | 260=>213 | 152=>234 | 137=>235 | 119=>236 | 224=>187 | 225=>186 | 217=>185 | 266=>209 |n=>n,λ | 9=>9 | 4=>4 | 3=>3 | 5=>5 | 117=>248 | 116=>247 | 0=>0 | 124=>251 | 105=>214 | 21=>21 | 119=>241 | 46=>142 | 139=>244 | 138=>243 |n=>n,λ | 3=>6 | 4=>7 |n=>n⟩
theorem Tryz.lays161:Go.Proofs.Lays.n161 Tryz.prog Tryz.lays161_ren:={
 mixed:=by kernel_rfl
 f119:=Tryz.func236.trans (congrArg some (by kernel_rfl))
 f137:=Tryz.func235.trans (congrArg some (by kernel_rfl))
 f151:=Tryz.func233.trans (congrArg some (by kernel_rfl))
 f152:=Tryz.func234.trans (congrArg some (by kernel_rfl))
 f161:=Tryz.func214.trans (congrArg some (by kernel_rfl))
 f197:=Tryz.func193.trans (congrArg some (by kernel_rfl))
 f217:=Tryz.func185.trans (congrArg some (by kernel_rfl))
 f224:=Tryz.func187.trans (congrArg some (by kernel_rfl))
 f225:=Tryz.func186.trans (congrArg some (by kernel_rfl))
 f227:=Tryz.func225.trans (congrArg some (by kernel_rfl))
 f228:=Tryz.func232.trans (congrArg some (by kernel_rfl))
 f231:=Tryz.func224.trans (congrArg some (by kernel_rfl))
 f233:=Tryz.func226.trans (congrArg some (by kernel_rfl))
 f235:=Tryz.func227.trans (congrArg some (by kernel_rfl))
 f260:=Tryz.func213.trans (congrArg some (by kernel_rfl))
 f266:=Tryz.func209.trans (congrArg some (by kernel_rfl))
 t0:=Tryz.underlying0
 a0:=Tryz.isAgg0
 z0:=Tryz.sizeOf0
 v0:=Tryz.zeroValue0
 t3:=Tryz.underlying3
 a3:=Tryz.isAgg3
 z3:=Tryz.sizeOf3
 v3:=Tryz.zeroValue3
 t4:=Tryz.underlying4
 a4:=Tryz.isAgg4
 z4:=Tryz.sizeOf4
 v4:=Tryz.zeroValue4
 t5:=Tryz.underlying5
 a5:=Tryz.isAgg5
 z5:=Tryz.sizeOf5
 v5:=Tryz.zeroValue5
 t9:=Tryz.underlying9
 a9:=Tryz.isAgg9
 z9:=Tryz.sizeOf9
 v9:=Tryz.zeroValue9
 t21:=Tryz.underlying21
 a21:=Tryz.isAgg21
 z21:=Tryz.sizeOf21
 v21:=Tryz.zeroValue21
 t46:=Tryz.underlying142
 a46:=Tryz.isAgg142
 z46:=Tryz.sizeOf142
 v46:=Tryz.zeroValue142
 t105:=Tryz.underlying214
 a105:=Tryz.isAgg214
 z105:=Tryz.sizeOf214
 v105:=Tryz.zeroValue214
 t116:=Tryz.underlying247
 a116:=Tryz.isAgg247
 z116:=Tryz.sizeOf247
 t117:=Tryz.underlying248
 a117:=Tryz.isAgg248
 z117:=Tryz.sizeOf248
 v117:=Tryz.zeroValue248
 t119:=Tryz.underlying241
 a119:=Tryz.isAgg241
 z119:=Tryz.sizeOf241
 t124:=Tryz.underlying251
 a124:=Tryz.isAgg251
 z124:=Tryz.sizeOf251
 v124:=Tryz.zeroValue251
 t138:=Tryz.underlying243
 a138:=Tryz.isAgg243
 z138:=Tryz.sizeOf243
 v138:=Tryz.zeroValue243
 t139:=Tryz.underlying244
 a139:=Tryz.isAgg244
 z139:=Tryz.sizeOf244
 v139:=Tryz.zeroValue244
 g3:=by kernel_rfl
 g4:=by kernel_rfl}
open Go.RowKit in
theorem Tryz.strings_TrimLeft_one (s:ByteArray)(c:UInt8)(hc:c.toNat<128)(w:World):
 Calls Tryz.prog 214 #[.string s,.string ⟨#[c]⟩] w λe w'=>e= .returned (.string ⟨(Lib.trimLeftB s.data.toList c).toArray⟩)/\w'=w:=Any.strings_TrimLeft_one Tryz.lays161 s c hc w
def Tryz.lays133_ren:Go.Shelf.Ren:=⟨λ | 133=>218 | 128=>229 |n=>n,λ | 51=>139 | 3=>3 | 4=>4 | 46=>142 | 5=>5 | 9=>9 |n=>n,λ |n=>n⟩
theorem Tryz.lays133:Go.Proofs.Lays.n133 Tryz.prog Tryz.lays133_ren:={
 mixed:=by kernel_rfl
 f128:=Tryz.func229.trans (congrArg some (by kernel_rfl))
 f133:=Tryz.func218.trans (congrArg some (by kernel_rfl))
 t3:=Tryz.underlying3
 a3:=Tryz.isAgg3
 z3:=Tryz.sizeOf3
 v3:=Tryz.zeroValue3
 t4:=Tryz.underlying4
 a4:=Tryz.isAgg4
 z4:=Tryz.sizeOf4
 v4:=Tryz.zeroValue4
 t5:=Tryz.underlying5
 a5:=Tryz.isAgg5
 z5:=Tryz.sizeOf5
 v5:=Tryz.zeroValue5
 t9:=Tryz.underlying9
 a9:=Tryz.isAgg9
 z9:=Tryz.sizeOf9
 v9:=Tryz.zeroValue9
 t46:=Tryz.underlying142
 a46:=Tryz.isAgg142
 z46:=Tryz.sizeOf142
 v46:=Tryz.zeroValue142
 t51:=Tryz.underlying139
 a51:=Tryz.isAgg139
 z51:=Tryz.sizeOf139
 v51:=Tryz.zeroValue139}
theorem Tryz.bits_LeadingZeros32 (x:Int)(w:World)(h0:0<=x)(h1:x<=4294967295):
 Calls Tryz.prog 218 #[.int .u32 x] w λe w'=>e= .returned (.int .i64 (32-(Lib.bitLen x.toNat:Int)))/\w'=w:=Any.bits_LeadingZeros32 Tryz.lays133 x w h0 h1
def Tryz.lays103_ren:Go.Shelf.Ren:=⟨λ | 103=>93 | 210=>122 | 206=>158 |n=>n,λ | 9=>9 | 4=>4 | 24=>124 | 3=>3 |n=>n,λ |n=>n⟩
theorem Tryz.lays103:Go.Proofs.Lays.n103 Tryz.prog Tryz.lays103_ren:={
 mixed:=by kernel_rfl
 f103:=Tryz.func93.trans (congrArg some (by kernel_rfl))
 f206:=Tryz.func158.trans (congrArg some (by kernel_rfl))
 f210:=Tryz.func122.trans (congrArg some (by kernel_rfl))
 t3:=Tryz.underlying3
 a3:=Tryz.isAgg3
 z3:=Tryz.sizeOf3
 v3:=Tryz.zeroValue3
 t4:=Tryz.underlying4
 a4:=Tryz.isAgg4
 z4:=Tryz.sizeOf4
 v4:=Tryz.zeroValue4
 t9:=Tryz.underlying9
 a9:=Tryz.isAgg9
 z9:=Tryz.sizeOf9
 v9:=Tryz.zeroValue9
 t24:=Tryz.underlying124
 a24:=Tryz.isAgg124
 z24:=Tryz.sizeOf124
 v24:=Tryz.zeroValue124}
open Go.RowKit in
theorem Tryz.strings_CutPrefix (s p:ByteArray)(w:World):
 Calls Tryz.prog 93 #[.string s,.string p] w λe w'=>e= .returned (.tuple #[.string ⟨(Lib.trimPrefix s.data.toList p.data.toList).toArray⟩,.bool (Lib.hasPrefix s.data.toList p.data.toList)])/\w'=w:=Any.strings_CutPrefix Tryz.lays103 s p w
def Tryz.lays104_ren:Go.Shelf.Ren:=⟨λ | 104=>94 | 211=>123 | 207=>159 |n=>n,λ | 9=>9 | 4=>4 | 24=>124 | 3=>3 |n=>n,λ |n=>n⟩
theorem Tryz.lays104:Go.Proofs.Lays.n104 Tryz.prog Tryz.lays104_ren:={
 mixed:=by kernel_rfl
 f104:=Tryz.func94.trans (congrArg some (by kernel_rfl))
 f207:=Tryz.func159.trans (congrArg some (by kernel_rfl))
 f211:=Tryz.func123.trans (congrArg some (by kernel_rfl))
 t3:=Tryz.underlying3
 a3:=Tryz.isAgg3
 z3:=Tryz.sizeOf3
 v3:=Tryz.zeroValue3
 t4:=Tryz.underlying4
 a4:=Tryz.isAgg4
 z4:=Tryz.sizeOf4
 v4:=Tryz.zeroValue4
 t9:=Tryz.underlying9
 a9:=Tryz.isAgg9
 z9:=Tryz.sizeOf9
 v9:=Tryz.zeroValue9
 t24:=Tryz.underlying124
 a24:=Tryz.isAgg124
 z24:=Tryz.sizeOf124
 v24:=Tryz.zeroValue124}
open Go.RowKit in
theorem Tryz.strings_CutSuffix (s p:ByteArray)(w:World)(hs:s.size<=9223372036854775807):
 Calls Tryz.prog 94 #[.string s,.string p] w λe w'=>e= .returned (.tuple #[.string ⟨(Lib.trimSuffix s.data.toList p.data.toList).toArray⟩,.bool (Lib.hasSuffix s.data.toList p.data.toList)])/\w'=w:=Any.strings_CutSuffix Tryz.lays104 s p w hs
open Go.RowKit in
theorem Tryz.Builder_String_any_k (B b:Nat)(l:List UInt8)(w:World)(h:Lib.IsBuilderF 52 5 B b (Lib.byteCells l) w)(hBw:B<=w.heap.size):
 Calls Tryz.prog 32 #[.pointer (some ⟨b,0,none⟩)] w λe w'=>e= .returned (.string ⟨l.toArray⟩)/\(Lib.IsBuilderF 52 5 B b (Lib.byteCells l) w'/\Below B w w'/\Lib.OthersKept 5 (some b) w w'):=Any.Builder_String_any_k Tryz.lays169 Tryz.Builder_Extra_169 B b l w h hBw
def Tryz.lays283_ren:Go.Shelf.Ren:=⟨λ | 283=>140 |n=>n,λ | 3=>3 | 9=>9 | 4=>4 |n=>n,λ |n=>n⟩
theorem Tryz.lays283:Go.Proofs.Lays.n283 Tryz.prog Tryz.lays283_ren:={
 mixed:=by kernel_rfl
 f283:=Tryz.func140.trans (congrArg some (by kernel_rfl))
 t3:=Tryz.underlying3
 a3:=Tryz.isAgg3
 z3:=Tryz.sizeOf3
 v3:=Tryz.zeroValue3
 t4:=Tryz.underlying4
 a4:=Tryz.isAgg4
 z4:=Tryz.sizeOf4
 v4:=Tryz.zeroValue4
 t9:=Tryz.underlying9
 a9:=Tryz.isAgg9
 z9:=Tryz.sizeOf9
 v9:=Tryz.zeroValue9}
open Go.Lib in
theorem Tryz.internal_strconv_small (i:Nat)(h:i<100)(w:World):
 Calls Tryz.prog 140 #[.int .i64 i] w λe w'=>e= .returned (.string ⟨(Lib.decDigits i).toArray⟩)/\w'=w:=Any.internal_strconv_small Tryz.lays283 i h w
def Tryz.laysM284_ren:Go.Shelf.Ren:=⟨λ | 284=>141 | 129=>176 | 317=>175 | 318=>177 |n=>n,λ | 53=>22 | 3=>3 | 212=>201 | 0=>0 | 4=>4 | 46=>142 | 5=>5 | 9=>9 |n=>n,λ | 17=>1 |n=>n⟩
theorem Tryz.laysM284:Go.Proofs.LaysM.n284 Tryz.prog Tryz.laysM284_ren:={
 mixed:=by kernel_rfl
 f129:=Tryz.func176.trans (congrArg some (by kernel_rfl))
 f284:=Tryz.func141.trans (congrArg some (by kernel_rfl))
 f317:=Tryz.func175.trans (congrArg some (by kernel_rfl))
 f318:=Tryz.func177.trans (congrArg some (by kernel_rfl))
 t0:=Tryz.underlying0
 a0:=Tryz.isAgg0
 z0:=Tryz.sizeOf0
 v0:=Tryz.zeroValue0
 t3:=Tryz.underlying3
 a3:=Tryz.isAgg3
 z3:=Tryz.sizeOf3
 v3:=Tryz.zeroValue3
 t4:=Tryz.underlying4
 a4:=Tryz.isAgg4
 z4:=Tryz.sizeOf4
 v4:=Tryz.zeroValue4
 t5:=Tryz.underlying5
 a5:=Tryz.isAgg5
 z5:=Tryz.sizeOf5
 v5:=Tryz.zeroValue5
 t9:=Tryz.underlying9
 a9:=Tryz.isAgg9
 z9:=Tryz.sizeOf9
 v9:=Tryz.zeroValue9
 t46:=Tryz.underlying142
 a46:=Tryz.isAgg142
 z46:=Tryz.sizeOf142
 v46:=Tryz.zeroValue142
 t53:=Tryz.underlying22
 a53:=Tryz.isAgg22
 z53:=Tryz.sizeOf22
 v53:=Tryz.zeroValue22
 t212:=Tryz.underlying201
 a212:=Tryz.isAgg201
 z212:=Tryz.sizeOf201
 v212:=Tryz.zeroValue201
 g17:=by kernel_rfl
 i0:=by kernel_rfl
 i3:=by kernel_rfl
 i4:=by kernel_rfl
 i5:=by kernel_rfl
 i9:=by kernel_rfl
 i46:=by kernel_rfl
 i53:=by kernel_rfl
 i212:=by kernel_rfl
 m17:=by kernel_rfl}
open Go.Lib in
theorem Tryz.internal_strconv_numDigits (u:Nat)(h1:1≤u)(h2:u<18446744073709551616)(w:World)(htab:Lib.TabIs Tryz.prog w "internal/strconv.uint64pow10" .u64 Lib.pow10Tab):
 Calls Tryz.prog 141 #[.int .u64 u] w λe w'=>e= .returned (.int .i64 (Lib.nDigits u))/\w'=w:=Any.internal_strconv_numDigits Tryz.laysM284 u h1 h2 w htab
def Tryz.lays285_ren:Go.Shelf.Ren:=⟨λ | 285=>142 |n=>n,λ | 37=>50 | 53=>22 | 3=>3 | 4=>4 | 51=>139 | 9=>9 | 5=>5 | 0=>0 |n=>n,λ |n=>n⟩
theorem Tryz.lays285:Go.Proofs.Lays.n285 Tryz.prog Tryz.lays285_ren:={
 mixed:=by kernel_rfl
 f285:=Tryz.func142.trans (congrArg some (by kernel_rfl))
 t0:=Tryz.underlying0
 a0:=Tryz.isAgg0
 z0:=Tryz.sizeOf0
 v0:=Tryz.zeroValue0
 t3:=Tryz.underlying3
 a3:=Tryz.isAgg3
 z3:=Tryz.sizeOf3
 v3:=Tryz.zeroValue3
 t4:=Tryz.underlying4
 a4:=Tryz.isAgg4
 z4:=Tryz.sizeOf4
 v4:=Tryz.zeroValue4
 t5:=Tryz.underlying5
 a5:=Tryz.isAgg5
 z5:=Tryz.sizeOf5
 v5:=Tryz.zeroValue5
 t9:=Tryz.underlying9
 a9:=Tryz.isAgg9
 z9:=Tryz.sizeOf9
 v9:=Tryz.zeroValue9
 t37:=Tryz.underlying50
 a37:=Tryz.isAgg50
 z37:=Tryz.sizeOf50
 v37:=Tryz.zeroValue50
 t51:=Tryz.underlying139
 a51:=Tryz.isAgg139
 z51:=Tryz.sizeOf139
 v51:=Tryz.zeroValue139
 t53:=Tryz.underlying22
 a53:=Tryz.isAgg22
 z53:=Tryz.sizeOf22
 v53:=Tryz.zeroValue22}
open Go.RowKit Go.Sort Go.Lib in
theorem Tryz.internal_strconv_formatBase10 (blk off cap:Nat)(u:Nat)(d:Array UInt8)(w:World)(hH:Holds (λ(b:UInt8)=>Value.int .u8 (b.toNat:Int)) w blk off d)(hu:u<10^d.size)(hu64:u<18446744073709551616)(hsz:d.size<4611686018427387904):
 Calls Tryz.prog 142 #[.slice (some ⟨blk,off,none⟩) d.size cap,.int .u64 u] w λe w'=>
  e= .returned (.tuple #[])/\∃(n v':Nat) (dk:Array UInt8),w'=(putRow (λ(b:UInt8)=>Value.int .u8 (b.toNat:Int)) w blk off dk).drewN n/\FmtInv d.size u 0 v' dk:=Any.internal_strconv_formatBase10 Tryz.lays285 blk off cap u d w hH hu hu64 hsz
def Tryz.laysM171_ren:Go.Shelf.Ren:=⟨λ | 171=>55 | 243=>85 | 246=>114 | 283=>140 | 284=>141 | 285=>142 | 286=>143 | 129=>176 | 317=>175 | 318=>177 | 319=>178 | 320=>179 | 337=>206 | 338=>88 |n=>n,λ | 3=>3 | 9=>9 | 2=>2 | 4=>4 | 171=>167 | 0=>0 | 53=>22 | 37=>50 | 5=>5 | 173=>169 | 212=>201 | 51=>139 | 20=>20 | 213=>202 | 46=>142 | 232=>240 | 233=>141 |n=>n,λ | 17=>1 | 18=>5 | 19=>0 |n=>n⟩
theorem Tryz.laysM171:Go.Proofs.LaysM.n171 Tryz.prog Tryz.laysM171_ren:={
 mixed:=by kernel_rfl
 f129:=Tryz.func176.trans (congrArg some (by kernel_rfl))
 f171:=Tryz.func55.trans (congrArg some (by kernel_rfl))
 f243:=Tryz.func85.trans (congrArg some (by kernel_rfl))
 f246:=Tryz.func114.trans (congrArg some (by kernel_rfl))
 f283:=Tryz.func140.trans (congrArg some (by kernel_rfl))
 f284:=Tryz.func141.trans (congrArg some (by kernel_rfl))
 f285:=Tryz.func142.trans (congrArg some (by kernel_rfl))
 f286:=Tryz.func143.trans (congrArg some (by kernel_rfl))
 f317:=Tryz.func175.trans (congrArg some (by kernel_rfl))
 f318:=Tryz.func177.trans (congrArg some (by kernel_rfl))
 f319:=Tryz.func178.trans (congrArg some (by kernel_rfl))
 f320:=Tryz.func179.trans (congrArg some (by kernel_rfl))
 f337:=Tryz.func206.trans (congrArg some (by kernel_rfl))
 f338:=Tryz.func88.trans (congrArg some (by kernel_rfl))
 t0:=Tryz.underlying0
 a0:=Tryz.isAgg0
 z0:=Tryz.sizeOf0
 v0:=Tryz.zeroValue0
 t2:=Tryz.underlying2
 a2:=Tryz.isAgg2
 z2:=Tryz.sizeOf2
 v2:=Tryz.zeroValue2
 t3:=Tryz.underlying3
 a3:=Tryz.isAgg3
 z3:=Tryz.sizeOf3
 v3:=Tryz.zeroValue3
 t4:=Tryz.underlying4
 a4:=Tryz.isAgg4
 z4:=Tryz.sizeOf4
 v4:=Tryz.zeroValue4
 t5:=Tryz.underlying5
 a5:=Tryz.isAgg5
 z5:=Tryz.sizeOf5
 v5:=Tryz.zeroValue5
 t9:=Tryz.underlying9
 a9:=Tryz.isAgg9
 z9:=Tryz.sizeOf9
 v9:=Tryz.zeroValue9
 t20:=Tryz.underlying20
 a20:=Tryz.isAgg20
 z20:=Tryz.sizeOf20
 v20:=Tryz.zeroValue20
 t37:=Tryz.underlying50
 a37:=Tryz.isAgg50
 z37:=Tryz.sizeOf50
 v37:=Tryz.zeroValue50
 t46:=Tryz.underlying142
 a46:=Tryz.isAgg142
 z46:=Tryz.sizeOf142
 v46:=Tryz.zeroValue142
 t51:=Tryz.underlying139
 a51:=Tryz.isAgg139
 z51:=Tryz.sizeOf139
 v51:=Tryz.zeroValue139
 t53:=Tryz.underlying22
 a53:=Tryz.isAgg22
 z53:=Tryz.sizeOf22
 v53:=Tryz.zeroValue22
 t171:=Tryz.underlying167
 a171:=Tryz.isAgg167
 z171:=Tryz.sizeOf167
 v171:=Tryz.zeroValue167
 t173:=Tryz.underlying169
 a173:=Tryz.isAgg169
 z173:=Tryz.sizeOf169
 v173:=Tryz.zeroValue169
 t212:=Tryz.underlying201
 a212:=Tryz.isAgg201
 z212:=Tryz.sizeOf201
 v212:=Tryz.zeroValue201
 t213:=Tryz.underlying202
 a213:=Tryz.isAgg202
 z213:=Tryz.sizeOf202
 t232:=Tryz.underlying240
 a232:=Tryz.isAgg240
 z232:=Tryz.sizeOf240
 v232:=Tryz.zeroValue240
 t233:=Tryz.underlying141
 a233:=Tryz.isAgg141
 z233:=Tryz.sizeOf141
 v233:=Tryz.zeroValue141
 g17:=by kernel_rfl
 g18:=by kernel_rfl
 g19:=by kernel_rfl
 i0:=by kernel_rfl
 i2:=by kernel_rfl
 i3:=by kernel_rfl
 i4:=by kernel_rfl
 i5:=by kernel_rfl
 i9:=by kernel_rfl
 i20:=by kernel_rfl
 i37:=by kernel_rfl
 i46:=by kernel_rfl
 i51:=by kernel_rfl
 i53:=by kernel_rfl
 i171:=by kernel_rfl
 i173:=by kernel_rfl
 i212:=by kernel_rfl
 i232:=by kernel_rfl
 i233:=by kernel_rfl
 m17:=by kernel_rfl
 m18:=by kernel_rfl
 m19:=by kernel_rfl}
open Go.RowKit Go.Sort Go.Lib in
theorem Tryz.strconv_Itoa (n:Int)(h0: -9223372036854775808≤n)(h1:n≤9223372036854775807)(w:World)(htab:Lib.TabIs Tryz.prog w "internal/strconv.uint64pow10" .u64 Lib.pow10Tab):
 Calls Tryz.prog 55 #[.int .i64 n] w λe w'=>e= .returned (.string ⟨(Lib.itoa n).toArray⟩)/\∃k os,w'=grow (w.drewN k) os:=Any.strconv_Itoa Tryz.laysM171 n h0 h1 w htab
def Tryz.lays171_ren:Go.Shelf.Ren:=⟨λ | 171=>55 | 243=>85 | 246=>114 | 283=>140 | 284=>141 | 285=>142 | 286=>143 | 129=>176 | 317=>175 | 318=>177 | 319=>178 | 320=>179 | 337=>206 | 338=>88 |n=>n,λ | 3=>3 | 9=>9 | 2=>2 | 4=>4 | 171=>167 | 0=>0 | 53=>22 | 37=>50 | 5=>5 | 173=>169 | 212=>201 | 51=>139 | 20=>20 | 213=>202 | 46=>142 | 232=>240 | 233=>141 |n=>n,λ | 17=>1 | 18=>5 | 19=>0 |n=>n⟩
theorem Tryz.lays171:Go.Proofs.Lays.n171 Tryz.prog Tryz.lays171_ren:={
 mixed:=by kernel_rfl
 f129:=Tryz.func176.trans (congrArg some (by kernel_rfl))
 f171:=Tryz.func55.trans (congrArg some (by kernel_rfl))
 f243:=Tryz.func85.trans (congrArg some (by kernel_rfl))
 f246:=Tryz.func114.trans (congrArg some (by kernel_rfl))
 f283:=Tryz.func140.trans (congrArg some (by kernel_rfl))
 f284:=Tryz.func141.trans (congrArg some (by kernel_rfl))
 f285:=Tryz.func142.trans (congrArg some (by kernel_rfl))
 f286:=Tryz.func143.trans (congrArg some (by kernel_rfl))
 f317:=Tryz.func175.trans (congrArg some (by kernel_rfl))
 f318:=Tryz.func177.trans (congrArg some (by kernel_rfl))
 f319:=Tryz.func178.trans (congrArg some (by kernel_rfl))
 f320:=Tryz.func179.trans (congrArg some (by kernel_rfl))
 f337:=Tryz.func206.trans (congrArg some (by kernel_rfl))
 f338:=Tryz.func88.trans (congrArg some (by kernel_rfl))
 t0:=Tryz.underlying0
 a0:=Tryz.isAgg0
 z0:=Tryz.sizeOf0
 v0:=Tryz.zeroValue0
 t2:=Tryz.underlying2
 a2:=Tryz.isAgg2
 z2:=Tryz.sizeOf2
 v2:=Tryz.zeroValue2
 t3:=Tryz.underlying3
 a3:=Tryz.isAgg3
 z3:=Tryz.sizeOf3
 v3:=Tryz.zeroValue3
 t4:=Tryz.underlying4
 a4:=Tryz.isAgg4
 z4:=Tryz.sizeOf4
 v4:=Tryz.zeroValue4
 t5:=Tryz.underlying5
 a5:=Tryz.isAgg5
 z5:=Tryz.sizeOf5
 v5:=Tryz.zeroValue5
 t9:=Tryz.underlying9
 a9:=Tryz.isAgg9
 z9:=Tryz.sizeOf9
 v9:=Tryz.zeroValue9
 t20:=Tryz.underlying20
 a20:=Tryz.isAgg20
 z20:=Tryz.sizeOf20
 v20:=Tryz.zeroValue20
 t37:=Tryz.underlying50
 a37:=Tryz.isAgg50
 z37:=Tryz.sizeOf50
 v37:=Tryz.zeroValue50
 t46:=Tryz.underlying142
 a46:=Tryz.isAgg142
 z46:=Tryz.sizeOf142
 v46:=Tryz.zeroValue142
 t51:=Tryz.underlying139
 a51:=Tryz.isAgg139
 z51:=Tryz.sizeOf139
 v51:=Tryz.zeroValue139
 t53:=Tryz.underlying22
 a53:=Tryz.isAgg22
 z53:=Tryz.sizeOf22
 v53:=Tryz.zeroValue22
 t171:=Tryz.underlying167
 a171:=Tryz.isAgg167
 z171:=Tryz.sizeOf167
 v171:=Tryz.zeroValue167
 t173:=Tryz.underlying169
 a173:=Tryz.isAgg169
 z173:=Tryz.sizeOf169
 v173:=Tryz.zeroValue169
 t212:=Tryz.underlying201
 a212:=Tryz.isAgg201
 z212:=Tryz.sizeOf201
 v212:=Tryz.zeroValue201
 t213:=Tryz.underlying202
 a213:=Tryz.isAgg202
 z213:=Tryz.sizeOf202
 t232:=Tryz.underlying240
 a232:=Tryz.isAgg240
 z232:=Tryz.sizeOf240
 v232:=Tryz.zeroValue240
 t233:=Tryz.underlying141
 a233:=Tryz.isAgg141
 z233:=Tryz.sizeOf141
 v233:=Tryz.zeroValue141
 g17:=by kernel_rfl
 g18:=by kernel_rfl
 g19:=by kernel_rfl}
open Go.RowKit Go.Sort Go.Lib in
theorem Tryz.strconv_Itoa_small (i:Nat)(hi:i<100)(w:World):
 Calls Tryz.prog 55 #[.int .i64 i] w λe w'=>e= .returned (.string ⟨(Lib.decDigits i).toArray⟩)/\w'=w:=Any.strconv_Itoa_small Tryz.lays171 i hi w
def Tryz.laysC172_ren:Go.Shelf.Ren:=⟨λ | 172=>92 | 244=>120 | 245=>121 | 247=>153 | 279=>154 | 280=>155 | 281=>156 | 282=>157 | 287=>189 | 316=>190 | 171=>55 | 205=>191 | 321=>211 | 322=>212 | 243=>85 | 246=>114 | 283=>140 | 284=>141 | 285=>142 | 286=>143 | 129=>176 | 317=>175 | 318=>177 | 319=>178 | 320=>179 | 337=>206 | 338=>88 |n=>n,λ | 9=>9 | 3=>3 | 75=>54 | 76=>55 | 4=>4 | 5=>5 | 167=>178 | 37=>50 | 0=>0 | 85=>179 | 2=>2 | 168=>181 | 53=>22 | 175=>209 | 46=>142 | 210=>212 | 127=>96 | 145=>233 | 143=>231 | 21=>21 | 171=>167 | 173=>169 | 212=>201 | 51=>139 | 20=>20 | 213=>202 | 232=>240 | 233=>141 | 80=>61 |n=>n,λ | 15=>3 | 16=>4 | 17=>1 | 18=>5 | 19=>0 |n=>n⟩
theorem Tryz.laysC172:Go.Proofs.LaysC.n172 Tryz.prog Tryz.laysC172_ren:={
 mixed:=by kernel_rfl
 f129:=Tryz.func176.trans (congrArg some (by kernel_rfl))
 f171:=Tryz.func55.trans (congrArg some (by kernel_rfl))
 f172:=Tryz.func92.trans (congrArg some (by kernel_rfl))
 f205:=Tryz.func191.trans (congrArg some (by kernel_rfl))
 f243:=Tryz.func85.trans (congrArg some (by kernel_rfl))
 f244:=Tryz.func120.trans (congrArg some (by kernel_rfl))
 f245:=Tryz.func121.trans (congrArg some (by kernel_rfl))
 f246:=Tryz.func114.trans (congrArg some (by kernel_rfl))
 f247:=Tryz.func153.trans (congrArg some (by kernel_rfl))
 f279:=Tryz.func154.trans (congrArg some (by kernel_rfl))
 f280:=Tryz.func155.trans (congrArg some (by kernel_rfl))
 f281:=Tryz.func156.trans (congrArg some (by kernel_rfl))
 f282:=Tryz.func157.trans (congrArg some (by kernel_rfl))
 f283:=Tryz.func140.trans (congrArg some (by kernel_rfl))
 f284:=Tryz.func141.trans (congrArg some (by kernel_rfl))
 f285:=Tryz.func142.trans (congrArg some (by kernel_rfl))
 f286:=Tryz.func143.trans (congrArg some (by kernel_rfl))
 f287:=Tryz.func189.trans (congrArg some (by kernel_rfl))
 f316:=Tryz.func190.trans (congrArg some (by kernel_rfl))
 f317:=Tryz.func175.trans (congrArg some (by kernel_rfl))
 f318:=Tryz.func177.trans (congrArg some (by kernel_rfl))
 f319:=Tryz.func178.trans (congrArg some (by kernel_rfl))
 f320:=Tryz.func179.trans (congrArg some (by kernel_rfl))
 f321:=Tryz.func211.trans (congrArg some (by kernel_rfl))
 f322:=Tryz.func212.trans (congrArg some (by kernel_rfl))
 f337:=Tryz.func206.trans (congrArg some (by kernel_rfl))
 f338:=Tryz.func88.trans (congrArg some (by kernel_rfl))
 t0:=Tryz.underlying0
 a0:=Tryz.isAgg0
 z0:=Tryz.sizeOf0
 v0:=Tryz.zeroValue0
 t2:=Tryz.underlying2
 a2:=Tryz.isAgg2
 z2:=Tryz.sizeOf2
 v2:=Tryz.zeroValue2
 t3:=Tryz.underlying3
 a3:=Tryz.isAgg3
 z3:=Tryz.sizeOf3
 v3:=Tryz.zeroValue3
 t4:=Tryz.underlying4
 a4:=Tryz.isAgg4
 z4:=Tryz.sizeOf4
 v4:=Tryz.zeroValue4
 t5:=Tryz.underlying5
 a5:=Tryz.isAgg5
 z5:=Tryz.sizeOf5
 v5:=Tryz.zeroValue5
 t9:=Tryz.underlying9
 a9:=Tryz.isAgg9
 z9:=Tryz.sizeOf9
 v9:=Tryz.zeroValue9
 t20:=Tryz.underlying20
 a20:=Tryz.isAgg20
 z20:=Tryz.sizeOf20
 v20:=Tryz.zeroValue20
 t21:=Tryz.underlying21
 a21:=Tryz.isAgg21
 z21:=Tryz.sizeOf21
 v21:=Tryz.zeroValue21
 t37:=Tryz.underlying50
 a37:=Tryz.isAgg50
 z37:=Tryz.sizeOf50
 v37:=Tryz.zeroValue50
 t46:=Tryz.underlying142
 a46:=Tryz.isAgg142
 z46:=Tryz.sizeOf142
 v46:=Tryz.zeroValue142
 t51:=Tryz.underlying139
 a51:=Tryz.isAgg139
 z51:=Tryz.sizeOf139
 v51:=Tryz.zeroValue139
 t53:=Tryz.underlying22
 a53:=Tryz.isAgg22
 z53:=Tryz.sizeOf22
 v53:=Tryz.zeroValue22
 t75:=Tryz.underlying54
 a75:=Tryz.isAgg54
 z75:=Tryz.sizeOf54
 v75:=Tryz.zeroValue54
 t76:=Tryz.underlying55
 a76:=Tryz.isAgg55
 z76:=Tryz.sizeOf55
 v76:=Tryz.zeroValue55
 t85:=Tryz.underlying179
 a85:=Tryz.isAgg179
 z85:=Tryz.sizeOf179
 v85:=Tryz.zeroValue179
 t127:=Tryz.underlying96
 a127:=Tryz.isAgg96
 z127:=Tryz.sizeOf96
 v127:=Tryz.zeroValue96
 t143:=Tryz.underlying231
 a143:=Tryz.isAgg231
 z143:=Tryz.sizeOf231
 v143:=Tryz.zeroValue231
 t145:=Tryz.underlying233
 a145:=Tryz.isAgg233
 z145:=Tryz.sizeOf233
 v145:=Tryz.zeroValue233
 t167:=Tryz.underlying178
 a167:=Tryz.isAgg178
 z167:=Tryz.sizeOf178
 v167:=Tryz.zeroValue178
 t168:=Tryz.underlying181
 a168:=Tryz.isAgg181
 z168:=Tryz.sizeOf181
 v168:=Tryz.zeroValue181
 t171:=Tryz.underlying167
 a171:=Tryz.isAgg167
 z171:=Tryz.sizeOf167
 v171:=Tryz.zeroValue167
 t173:=Tryz.underlying169
 a173:=Tryz.isAgg169
 z173:=Tryz.sizeOf169
 v173:=Tryz.zeroValue169
 t175:=Tryz.underlying209
 a175:=Tryz.isAgg209
 z175:=Tryz.sizeOf209
 v175:=Tryz.zeroValue209
 t210:=Tryz.underlying212
 a210:=Tryz.isAgg212
 z210:=Tryz.sizeOf212
 v210:=Tryz.zeroValue212
 t212:=Tryz.underlying201
 a212:=Tryz.isAgg201
 z212:=Tryz.sizeOf201
 v212:=Tryz.zeroValue201
 t213:=Tryz.underlying202
 a213:=Tryz.isAgg202
 z213:=Tryz.sizeOf202
 t232:=Tryz.underlying240
 a232:=Tryz.isAgg240
 z232:=Tryz.sizeOf240
 v232:=Tryz.zeroValue240
 t233:=Tryz.underlying141
 a233:=Tryz.isAgg141
 z233:=Tryz.sizeOf141
 v233:=Tryz.zeroValue141
 g15:=by kernel_rfl
 g16:=by kernel_rfl
 g17:=by kernel_rfl
 g18:=by kernel_rfl
 g19:=by kernel_rfl
 t80:=Tryz.underlying61
 a80:=Tryz.isAgg61
 z80:=Tryz.sizeOf61
 v80:=Tryz.zeroValue61
 i0:=by kernel_rfl
 i2:=by kernel_rfl
 i3:=by kernel_rfl
 i4:=by kernel_rfl
 i5:=by kernel_rfl
 i9:=by kernel_rfl
 i20:=by kernel_rfl
 i21:=by kernel_rfl
 i37:=by kernel_rfl
 i46:=by kernel_rfl
 i51:=by kernel_rfl
 i53:=by kernel_rfl
 i75:=by kernel_rfl
 i76:=by kernel_rfl
 i80:=by kernel_rfl
 i85:=by kernel_rfl
 i127:=by kernel_rfl
 i143:=by kernel_rfl
 i145:=by kernel_rfl
 i167:=by kernel_rfl
 i168:=by kernel_rfl
 i171:=by kernel_rfl
 i173:=by kernel_rfl
 i175:=by kernel_rfl
 i210:=by kernel_rfl
 i212:=by kernel_rfl
 i232:=by kernel_rfl
 i233:=by kernel_rfl
 m15:=by kernel_rfl
 m16:=by kernel_rfl
 m17:=by kernel_rfl
 m18:=by kernel_rfl
 m19:=by kernel_rfl
 c0:=by kernel_rfl
 c2:=by kernel_rfl
 c3:=by kernel_rfl
 c4:=by kernel_rfl
 c5:=by kernel_rfl
 c9:=by kernel_rfl
 c20:=by kernel_rfl
 c21:=by kernel_rfl
 c37:=by kernel_rfl
 c46:=by kernel_rfl
 c51:=by kernel_rfl
 c53:=by kernel_rfl
 c75:=by kernel_rfl
 c76:=by kernel_rfl
 c80:=by kernel_rfl
 c85:=by kernel_rfl
 c127:=by kernel_rfl
 c143:=by kernel_rfl
 c145:=by kernel_rfl
 c167:=by kernel_rfl
 c168:=by kernel_rfl
 c171:=by kernel_rfl
 c173:=by kernel_rfl
 c175:=by kernel_rfl
 c210:=by kernel_rfl
 c212:=by kernel_rfl
 c213:=by kernel_rfl
 c232:=by kernel_rfl
 c233:=by kernel_rfl}
open Go.RowKit in
theorem Tryz.strconv_Atoi_ok (s:ByteArray)(hmax:s.size<=9223372036854775806)(v:Int)(h:Lib.atoiAll s.data.toList= .ok v)(w:World):
 Calls Tryz.prog 92 #[.string s] w λe w'=>e= .returned (.tuple #[.int .i64 v,.nilIface])/\(w'=w\/∃t,w'=Lib.bytesWorld w 5 t):=Any.strconv_Atoi_ok Tryz.laysC172 s hmax v h w
open Go.RowKit in
theorem Tryz.strconv_Atoi_syntax (s:ByteArray)(hlim:s.size<=281474976710656)(h:Lib.atoiAll s.data.toList=Lib.atoiAll [])(ev:Value)(w:World)(hv:w.cell? ⟨3,0,none⟩=some ev)(hev:ev= .nilIface\/∃te pe,ev= .iface te pe):
 Calls Tryz.prog 92 #[.string s] w λe w'=>∃N,e= .returned (.tuple #[.int .i64 (0),.iface 181 (.pointer (some ⟨N,0,none⟩))])/\w.heap.size<=N/\w'.heap[N]? =some (.cells #[.string ⟨#[65,116,111,105]⟩,.string s,ev] 212 (0,0))/\Below w.heap.size w w':=Any.strconv_Atoi_syntax Tryz.laysC172 s hlim h ev w hv hev
open Go.RowKit in
theorem Tryz.strconv_Atoi_range (s:ByteArray)(hlim:s.size<=281474976710656)(h:Lib.atoiAll s.data.toList= .range)(ev:Value)(w:World)(hv:w.cell? ⟨4,0,none⟩=some ev)(hev:ev= .nilIface\/∃te pe,ev= .iface te pe):
 Calls Tryz.prog 92 #[.string s] w λe w'=>∃N,e= .returned (.tuple #[.int .i64 (Lib.atoiSat s.data.toList),.iface 181 (.pointer (some ⟨N,0,none⟩))])/\w.heap.size<=N/\w'.heap[N]? =some (.cells #[.string ⟨#[65,116,111,105]⟩,.string s,ev] 212 (0,0))/\Below w.heap.size w w':=Any.strconv_Atoi_range Tryz.laysC172 s hlim h ev w hv hev
def Tryz.lays219_ren:Go.Shelf.Ren:=⟨λ | 219=>152 | 217=>185 | 225=>186 | 224=>187 | 267=>188 | 266=>209 | 314=>210 |n=>n,λ | 9=>9 | 3=>3 | 4=>4 | 5=>5 | 46=>142 | 146=>225 | 51=>139 |n=>n,λ | 1=>2 |n=>n⟩
theorem Tryz.lays219:Go.Proofs.Lays.n219 Tryz.prog Tryz.lays219_ren:={
 mixed:=by kernel_rfl
 f217:=Tryz.func185.trans (congrArg some (by kernel_rfl))
 f219:=Tryz.func152.trans (congrArg some (by kernel_rfl))
 f224:=Tryz.func187.trans (congrArg some (by kernel_rfl))
 f225:=Tryz.func186.trans (congrArg some (by kernel_rfl))
 f266:=Tryz.func209.trans (congrArg some (by kernel_rfl))
 f267:=Tryz.func188.trans (congrArg some (by kernel_rfl))
 f314:=Tryz.func210.trans (congrArg some (by kernel_rfl))
 t3:=Tryz.underlying3
 a3:=Tryz.isAgg3
 z3:=Tryz.sizeOf3
 v3:=Tryz.zeroValue3
 t4:=Tryz.underlying4
 a4:=Tryz.isAgg4
 z4:=Tryz.sizeOf4
 v4:=Tryz.zeroValue4
 t5:=Tryz.underlying5
 a5:=Tryz.isAgg5
 z5:=Tryz.sizeOf5
 v5:=Tryz.zeroValue5
 t9:=Tryz.underlying9
 a9:=Tryz.isAgg9
 z9:=Tryz.sizeOf9
 v9:=Tryz.zeroValue9
 t46:=Tryz.underlying142
 a46:=Tryz.isAgg142
 z46:=Tryz.sizeOf142
 v46:=Tryz.zeroValue142
 t51:=Tryz.underlying139
 a51:=Tryz.isAgg139
 z51:=Tryz.sizeOf139
 v51:=Tryz.zeroValue139
 t146:=Tryz.underlying225
 a146:=Tryz.isAgg225
 z146:=Tryz.sizeOf225
 v146:=Tryz.zeroValue225
 g1:=by kernel_rfl}
open Go.RowKit Go.Lib in
theorem Tryz.stringslite_Index_one (s:ByteArray)(c:UInt8)(w:World):
 Calls Tryz.prog 152 #[.string s,.string ⟨#[c]⟩] w λe w'=>e= .returned (.int .i64 (Lib.indexByte s.data.toList c))/\w'=w:=Any.stringslite_Index_one Tryz.lays219 s c w
def Tryz.lays143_ren:Go.Shelf.Ren:=⟨λ | 143=>194 | 219=>152 | 217=>185 | 225=>186 | 224=>187 | 267=>188 | 266=>209 | 314=>210 |n=>n,λ | 9=>9 | 3=>3 | 4=>4 | 5=>5 | 46=>142 | 146=>225 | 51=>139 |n=>n,λ | 1=>2 |n=>n⟩
theorem Tryz.lays143:Go.Proofs.Lays.n143 Tryz.prog Tryz.lays143_ren:={
 mixed:=by kernel_rfl
 f143:=Tryz.func194.trans (congrArg some (by kernel_rfl))
 f217:=Tryz.func185.trans (congrArg some (by kernel_rfl))
 f219:=Tryz.func152.trans (congrArg some (by kernel_rfl))
 f224:=Tryz.func187.trans (congrArg some (by kernel_rfl))
 f225:=Tryz.func186.trans (congrArg some (by kernel_rfl))
 f266:=Tryz.func209.trans (congrArg some (by kernel_rfl))
 f267:=Tryz.func188.trans (congrArg some (by kernel_rfl))
 f314:=Tryz.func210.trans (congrArg some (by kernel_rfl))
 t3:=Tryz.underlying3
 a3:=Tryz.isAgg3
 z3:=Tryz.sizeOf3
 v3:=Tryz.zeroValue3
 t4:=Tryz.underlying4
 a4:=Tryz.isAgg4
 z4:=Tryz.sizeOf4
 v4:=Tryz.zeroValue4
 t5:=Tryz.underlying5
 a5:=Tryz.isAgg5
 z5:=Tryz.sizeOf5
 v5:=Tryz.zeroValue5
 t9:=Tryz.underlying9
 a9:=Tryz.isAgg9
 z9:=Tryz.sizeOf9
 v9:=Tryz.zeroValue9
 t46:=Tryz.underlying142
 a46:=Tryz.isAgg142
 z46:=Tryz.sizeOf142
 v46:=Tryz.zeroValue142
 t51:=Tryz.underlying139
 a51:=Tryz.isAgg139
 z51:=Tryz.sizeOf139
 v51:=Tryz.zeroValue139
 t146:=Tryz.underlying225
 a146:=Tryz.isAgg225
 z146:=Tryz.sizeOf225
 v146:=Tryz.zeroValue225
 g1:=by kernel_rfl}
open Go.RowKit Go.Lib in
theorem Tryz.strings_Index_one (s:ByteArray)(c:UInt8)(w:World):
 Calls Tryz.prog 194 #[.string s,.string ⟨#[c]⟩] w λe w'=>e= .returned (.int .i64 (Lib.indexByte s.data.toList c))/\w'=w:=Any.strings_Index_one Tryz.lays143 s c w
def Tryz.lays105_ren:Go.Shelf.Ren:=⟨λ | 105=>149 | 212=>181 | 99=>182 | 165=>86 | 166=>27 | 170=>183 | 169=>32 | 263=>207 | 264=>208 | 206=>158 | 240=>54 | 241=>115 | 276=>84 | 277=>144 |n=>n,λ | 9=>9 | 3=>3 | 4=>4 | 20=>20 | 0=>0 | 46=>142 | 109=>204 | 5=>5 | 72=>52 | 76=>55 | 51=>139 | 146=>225 | 53=>22 | 148=>227 | 70=>49 | 37=>50 | 75=>54 | 127=>96 | 164=>118 | 80=>61 |n=>n,λ |n=>n⟩
theorem Tryz.lays105:Go.Proofs.Lays.n105 Tryz.prog Tryz.lays105_ren:={
 mixed:=by kernel_rfl
 f99:=Tryz.func182.trans (congrArg some (by kernel_rfl))
 f105:=Tryz.func149.trans (congrArg some (by kernel_rfl))
 f165:=Tryz.func86.trans (congrArg some (by kernel_rfl))
 f166:=Tryz.func27.trans (congrArg some (by kernel_rfl))
 f169:=Tryz.func32.trans (congrArg some (by kernel_rfl))
 f170:=Tryz.func183.trans (congrArg some (by kernel_rfl))
 f206:=Tryz.func158.trans (congrArg some (by kernel_rfl))
 f212:=Tryz.func181.trans (congrArg some (by kernel_rfl))
 f240:=Tryz.func54.trans (congrArg some (by kernel_rfl))
 f241:=Tryz.func115.trans (congrArg some (by kernel_rfl))
 f263:=Tryz.func207.trans (congrArg some (by kernel_rfl))
 f264:=Tryz.func208.trans (congrArg some (by kernel_rfl))
 f276:=Tryz.func84.trans (congrArg some (by kernel_rfl))
 f277:=Tryz.func144.trans (congrArg some (by kernel_rfl))
 t0:=Tryz.underlying0
 a0:=Tryz.isAgg0
 z0:=Tryz.sizeOf0
 v0:=Tryz.zeroValue0
 t3:=Tryz.underlying3
 a3:=Tryz.isAgg3
 z3:=Tryz.sizeOf3
 v3:=Tryz.zeroValue3
 t4:=Tryz.underlying4
 a4:=Tryz.isAgg4
 z4:=Tryz.sizeOf4
 v4:=Tryz.zeroValue4
 t5:=Tryz.underlying5
 a5:=Tryz.isAgg5
 z5:=Tryz.sizeOf5
 v5:=Tryz.zeroValue5
 t9:=Tryz.underlying9
 a9:=Tryz.isAgg9
 z9:=Tryz.sizeOf9
 v9:=Tryz.zeroValue9
 t20:=Tryz.underlying20
 a20:=Tryz.isAgg20
 z20:=Tryz.sizeOf20
 v20:=Tryz.zeroValue20
 t37:=Tryz.underlying50
 a37:=Tryz.isAgg50
 z37:=Tryz.sizeOf50
 v37:=Tryz.zeroValue50
 t46:=Tryz.underlying142
 a46:=Tryz.isAgg142
 z46:=Tryz.sizeOf142
 v46:=Tryz.zeroValue142
 t51:=Tryz.underlying139
 a51:=Tryz.isAgg139
 z51:=Tryz.sizeOf139
 v51:=Tryz.zeroValue139
 t53:=Tryz.underlying22
 a53:=Tryz.isAgg22
 z53:=Tryz.sizeOf22
 v53:=Tryz.zeroValue22
 t70:=Tryz.underlying49
 a70:=Tryz.isAgg49
 z70:=Tryz.sizeOf49
 v70:=Tryz.zeroValue49
 t72:=Tryz.underlying52
 a72:=Tryz.isAgg52
 z72:=Tryz.sizeOf52
 v72:=Tryz.zeroValue52
 t75:=Tryz.underlying54
 a75:=Tryz.isAgg54
 z75:=Tryz.sizeOf54
 v75:=Tryz.zeroValue54
 t76:=Tryz.underlying55
 a76:=Tryz.isAgg55
 z76:=Tryz.sizeOf55
 v76:=Tryz.zeroValue55
 t109:=Tryz.underlying204
 a109:=Tryz.isAgg204
 z109:=Tryz.sizeOf204
 v109:=Tryz.zeroValue204
 t127:=Tryz.underlying96
 a127:=Tryz.isAgg96
 z127:=Tryz.sizeOf96
 v127:=Tryz.zeroValue96
 t146:=Tryz.underlying225
 a146:=Tryz.isAgg225
 z146:=Tryz.sizeOf225
 v146:=Tryz.zeroValue225
 t148:=Tryz.underlying227
 a148:=Tryz.isAgg227
 z148:=Tryz.sizeOf227
 v148:=Tryz.zeroValue227
 t164:=Tryz.underlying118
 a164:=Tryz.isAgg118
 z164:=Tryz.sizeOf118
 v164:=Tryz.zeroValue118}
theorem Tryz.Builder_Extra_105:Builder.Extra Tryz.prog Tryz.lays105_ren:={
 sizeBuilder:=by kernel_rfl
 liesBuilder:=by kernel_rfl
 t5:=Tryz.underlying5
 a5:=Tryz.isAgg5
 z5:=Tryz.sizeOf5
 v5:=Tryz.zeroValue5
 infoByte:=by kernel_rfl
 cellsByte:=by kernel_rfl
 sizeByte:=by kernel_rfl
 neB5:=by decide}
open Go.RowKit Go.Lib in
theorem Tryz.strings_Repeat (s:ByteArray)(c:Nat)(w:World)(hc:c<=9223372036854775807)(hlen:s.size*c<=140737488355328):
 Calls Tryz.prog 149 #[.string s,.int .i64 c] w λe w'=>e= .returned (.string ⟨(Lib.repeatL s.data.toList c).toArray⟩)/\Below w.heap.size w w':=Any.strings_Repeat Tryz.lays105 Tryz.Builder_Extra_105 s c w hc hlen
end Go.Proofs
namespace Go.Proofs.YtmiccalfamepdaaGreatDoor
open Go.RowKit
structure Ten20 (w:World):Prop where
 tab:Lib.TabIs Tryz.prog w "internal/strconv.uint64pow10" .u64 Lib.pow10Tab
 lt:∀g,Tryz.prog.globalNamed "internal/strconv.uint64pow10" =some g→g<w.heap.size
theorem Ten20.below {w w':World}(h:Ten20 w)(hb:Below w.heap.size w w'):Ten20 w':=⟨by
 have ht:=h.tab;unfold Lib.TabIs World.var? at*;cases he:Tryz.prog.globalNamed "internal/strconv.uint64pow10" with
 |none=>simp[he] at ht
 |some g=>
  simp only[he,Option.bind_some] at ht⊢;rw[hb.block g (h.lt g he)];exact ht,λg e=>Nat.lt_of_lt_of_le (h.lt g e) hb.size⟩
theorem Jh (s:List UInt8)(w:World)(hs:s.length<1000000000)(hT:Ten20 w):
 Calls Tryz.prog 28 #[.string ⟨s.toArray⟩] w λe w'=>e= .returned (.string ⟨(Nw.net s).toArray⟩)/\Below w.heap.size w w':=by
 have hsz:(⟨s.toArray⟩:ByteArray).size=s.length:=rfl;have HSZ:=Qd hsz;have DE:=Tryz.strconv_Itoa (s.length:Int) (by omega) (by omega) w hT.tab;rw[Lib.itoa_nonneg] at DE;replace DE:=Qd DE;have hp:=(Ten.dec_len (r:=s.length) (k:=9) (by omega)).2;have HN:=Qd (Nca s);generalize Lib.decDigits s.length=D at*;have q1:¬9223372036854775807<D.length+1:=by omega
 have q2:¬9223372036854775807<D.length+1+s.length:=by omega
 have q3:¬9223372036854775807<D.length+1+s.length+1:=by omega
 clear hT;go_enter Tryz.func28,Tryz.ntmps28
 go_wp2_with fail
 refine DE.out.mono ?_;rintro e w1 ⟨rfl,kk,os,hw1⟩;have hb1:Below w.heap.size w w1:=by rw[hw1];exact Lib.below_grow _ _ Lr _ _
 clear hw1;go_wp2_with fail
 go_ret;exact⟨by rw[<-HN.out];rfl,hb1⟩
def Nw.cutV:Option (List UInt8×List UInt8)->Value
 |some (a,b)=> .tuple #[.string ⟨a.toArray⟩,.string ⟨b.toArray⟩,.bool true]
 |none=> .tuple #[.string ⟨#[]⟩,.string ⟨#[]⟩,.bool false]
theorem Lg (s:List UInt8)(n:Nat):(⟨s.toArray⟩:ByteArray).extract n s.length=⟨(s.drop n).toArray⟩:=by
 apply ByteArray.ext
 simp;exact List.take_of_length_le (by simp)
theorem Mk (s:List UInt8)(n:Nat)(h:n<=s.length):(⟨s.toArray⟩:ByteArray).extract 0 n=⟨(s.take n).toArray⟩:=by
 apply ByteArray.ext
 simp
theorem En (s:List UInt8)(w:World)(hs:s.length<=1000000000000):
 Calls Tryz.prog 60 #[.string ⟨s.toArray⟩] w λe w'=>e= .returned (Nw.cutV (Nw.cut s))/\Below w.heap.size w w':=by
 have hsz:(⟨s.toArray⟩:ByteArray).size=s.length:=rfl;have HSZ:=Qd hsz;have HNO:Hid (Nw.cut s=none->Ending.returned (.tuple #[.string ⟨#[]⟩,.string ⟨#[]⟩,.bool false])= .returned (Nw.cutV (Nw.cut s))):=Qd (λh=>by rw[h];rfl);go_enter Tryz.func60,Tryz.ntmps60
 go_wp2
 go_loop [5,6] (λa i=>∃k n:Nat,k<=s.length/\n<=s.length/\a= .int .i64 (n:Int)/\i= .int .i64 (k:Int)/\Hid (Nw.DecAt s k n)/\Hid (1<k->10<=Ten.numOf (s.take 2))) (λ_ i=>s.length-(intOf i).toNat)
 case atStart=>exact⟨0,0,Nat.zero_le _,Nat.zero_le _,rfl,rfl,Qd ⟨Nat.zero_le _,by simp[Ten.numOf]⟩,Qd (λh=>by omega)⟩
 case round=>
  obtain⟨k,n,hk,hn,rfl,rfl,H,HZ⟩:=hrel;by_cases hdig:∃hlt:k<s.length,48<=s[k].toNat/\s[k].toNat<=57
  ·obtain⟨hlt,h1',h2'⟩:=hdig
   obtain⟨y,hy⟩:∃y,y=s[k].toNat:=⟨_,rfl⟩;have hgy:((⟨s.toArray⟩:ByteArray)[k]'(show k<(⟨s.toArray⟩:ByteArray).size from hlt)).toNat=y:=hy.symm;rw[<-hy] at h1' h2';have h3:Nw.DecAt s (k+1) (10*n+(y-48)):=⟨Z7 H.out.le hlt (by rw[Q9 hy];exact decide_eq_true ⟨h1',h2'⟩),by rw[Nw.take_succ_num hlt,<-H.out.num,<-hy]⟩;have HB:Hid (s.length<10*n+(y-48)->Nw.cut s=none):=Qd (λh=>Nw.cut_big h3.le (by rw[<-h3.num];exact h));have HC:Hid (10*n+(y-48)<10->1<k+1->Nw.cut s=none):=Qd (λh h'=>Nw.cut_zero h3.le h' (by rw[<-h3.num];exact h));have HD:Hid (¬(10*n+(y-48)<10/\1<k+1)->1<k+1->10<=Ten.numOf (s.take 2)):=Qd (λh h'=>by
    by_cases e:k=1
    ·have h5:=h3.num
     rw[e] at h5;have h6:Ten.numOf (s.take (1+1))=Ten.numOf (s.take 2):=rfl;omega
    exact HZ.out (by omega))
   have H3:=Qd h3;have hw1:IntKind.u8.wrap ((y:Int)-48)=((y-48:Nat):Int):=by rw[show(y:Int)-48=((y-48:Nat):Int) by omega];exact IntWalk.u8_in _ (by omega)
   obtain⟨n',hn'⟩:∃n',n'=10*n+(y-48):=⟨_,rfl⟩;rw[<-hn'] at HB HC HD H3;have HN':=Qd hn';clear h3 hy hn';go_upto_region 3 with fail
   go_cut [5] from 8 to 45 (λx wx=>x= .int .i64 (n':Int)/\wx=w)
   case first=>
    go_wp2
    go_meet
    exact⟨congrArg (Value.int .i64) (by have:=HN'.out;omega),rfl⟩
   obtain⟨rfl,rfl⟩:=hcut
   rename World=>w
   clear hw1;by_cases c1:s.length<n'
   ·have HE:=Qd (HNO.out (HB.out c1))
    go_wp2
    go_ret3
    exact⟨HE.out,Br⟩
   by_cases c2:n'<10
   ·by_cases c3:k=0
    ·have HE:Hid (1<k+1->10<=Ten.numOf (s.take 2)):=Qd (by omega)
     have c4:¬(1:Int)<(k:Int)+1:=by omega
     have c5:k<s.length:=hlt;replace c3:=Qd c3;go_wp2
     go_round
     case rel=>exact⟨k+1,n',by omega,by omega,rfl,by go_num,H3,HE⟩
     case measure=>simp[intOf];omega
    have HE:=Qd (HNO.out (HC.out c2 (by omega)));have c4:(1:Int)<(k:Int)+1:=by omega
    go_wp2
    go_ret3
    exact⟨HE.out,Br⟩
   have HE:=Qd (HD.out (by omega));go_wp2
   go_round
   case rel=>exact⟨k+1,n',by omega,by omega,rfl,by go_num,H3,HE⟩
   case measure=>simp[intOf];omega
  have hlead:Dg.lead s=k:=by
   by_cases hlt:k<s.length
   ·refine A8 H.out.le hlt ?_
    rw[Q9 rfl];exact decide_eq_false (λh=>hdig ⟨hlt,h⟩)
   have:=Dg.lead_le s;have:=H.out.le;omega
  have hcut:Nw.cut s=Nw.after s k n:=by rw[Nw.cut_read (λh=>HZ.out (by omega)),hlead,<-H.out.num]
  have HA:=Qd hcut;clear hcut hlead H HZ;by_cases hlt:k<s.length
  ·obtain⟨y,hy⟩:∃y,y=s[k].toNat:=⟨_,rfl⟩
   have hgy:((⟨s.toArray⟩:ByteArray)[k]'(show k<(⟨s.toArray⟩:ByteArray).size from hlt)).toNat=y:=hy.symm;have hnd:¬(48<=y/\y<=57):=λh=>hdig ⟨hlt,by rw[<-hy];exact h⟩;have HG:Hid (s.getD k 0=58↔y=58):=Qd (by
    rw[hy,List.getD_eq_getElem?_getD,List.getElem?_eq_getElem hlt,Option.getD_some];exact⟨λe=>by rw[e];rfl,λe=>UInt8.toNat_inj.1 e⟩)
   clear hdig hy;have HF:Hid (¬(k≠0/\y=58)->Nw.cut s=none):=Qd (λh=>by
    rw[HA.out];unfold Nw.after
    split
    ·rfl
    rw[if_neg (by omega),if_pos (λe=>h ⟨by assumption,HG.out.1 e⟩)])
   by_cases hk0:k=0
   ·have HE:=Qd (HNO.out (HF.out (λh=>h.1 hk0)))
    clear HA HG HF;subst hk0;by_cases h1:48<=y
    ·have h2:¬y<=57:=λh=>hnd ⟨h1,h⟩
     go_wp2
     go_ret3
     exact⟨HE.out,Br⟩
    go_wp2
    go_ret3
    exact⟨HE.out,Br⟩
   by_cases hy58:y=58
   ·have HG':=Qd (HG.out.2 hy58)
    subst hy58;have z1:((k:Int)==0)=false:=beq_eq_false_iff_ne.2 (by omega);have z2:((k:Int)==(s.length:Int))=false:=beq_eq_false_iff_ne.2 (by omega);obtain⟨T,hT⟩:∃T,T=s.drop (k+1):=⟨_,rfl⟩;have hTl:T.length=s.length-(k+1):=by rw[hT,List.length_drop]
    have HT:Hid ((⟨s.toArray⟩:ByteArray).extract (k+1) s.length=⟨T.toArray⟩):=Qd (by rw[Lg,hT]);have HTT:=Qd hT;have HTL:=Qd hTl;have hw1:IntKind.i64.wrap ((k:Int)+1)=(k:Int)+1:=IntWalk.i64_in _ (by omega);have hw2:(0:Int)<=(k:Int)+1:=by omega
    have hw3:(k:Int)+1<=(s.length:Int):=by omega
    have hw4:((k:Int)+1).toNat=k+1:=by omega
    have hTm:T.length<=1000000000000:=by omega
    clear hT hTl hnd HF HG;go_upto_region 9 with fail
    go_cut [7] from 8 (λx wx=>x= .string ⟨T.toArray⟩/\wx=w)
    case first=>
     go_wp2
     go_meet
     exact⟨congrArg Value.string HT.out,rfl⟩
    obtain⟨rfl,rfl⟩:=hcut
    rename World=>w
    clear hw1 hw2 hw3 hw4 hgy z1 z2 HT;have HQ:Hid (Nw.cut s=if T.length<=n then none else if T.getD n 0≠44 then none else some (T.take n,T.drop (n+1))):=Qd (by rw[HA.out,Nw.after_T hk0 hlt HG'.out,<-HTT.out]);clear HA HG' HTT HTL;have htz:(⟨T.toArray⟩:ByteArray).size=T.length:=rfl;have HTZ:=Qd htz;by_cases hnl:n<T.length
    ·obtain⟨z,hz⟩:∃z,z=T[n].toNat:=⟨_,rfl⟩
     have hgz:((⟨T.toArray⟩:ByteArray)[n]'(show n<(⟨T.toArray⟩:ByteArray).size from hnl)).toNat=z:=hz.symm;have HZ4:Hid (T.getD n 0=44↔z=44):=Qd (by
      rw[hz,List.getD_eq_getElem?_getD,List.getElem?_eq_getElem hnl,Option.getD_some];exact⟨λe=>by rw[e];rfl,λe=>UInt8.toNat_inj.1 e⟩)
     clear hz;by_cases hz44:z=44
     ·have HE:Hid (Ending.returned (.tuple #[.string ⟨(T.take n).toArray⟩,.string ⟨(T.drop (n+1)).toArray⟩,.bool true])= .returned (Nw.cutV (Nw.cut s))):=Qd (by rw[HQ.out,if_neg (by omega),if_neg (λe=>e (HZ4.out.2 hz44))];rfl)
      have SU:=Qd (Mk T n (by omega));have SF:=Qd (Lg T (n+1));have hw1:IntKind.i64.wrap ((n:Int)+1)=(n:Int)+1:=IntWalk.i64_in _ (by omega);have hw2:(0:Int)<=(n:Int)+1:=by omega
      have hw3:(n:Int)+1<=(T.length:Int):=by omega
      have hw4:((n:Int)+1).toNat=n+1:=by omega
      have hw5:(0:Int)<=(n:Int):=by omega
      have hw6:(n:Int)<(T.length:Int):=by omega
      subst hz44;clear HQ HZ4;go_wp2_with fail
      go_quiet (fail)
      go_wp2_with fail
      go_ret3
      exact⟨by rw[<-HE.out,<-SU.out,<-SF.out];rfl,⟨rfl,rfl,rfl,Lr,λ_ _=>rfl⟩⟩
     have HE:=Qd (HNO.out (by rw[HQ.out];split;rfl;rw[if_pos (λe=>hz44 (HZ4.out.1 e))]));have z3:((z:Int)!=44)=true:=by simp;omega
     clear HQ HZ4;go_wp2
     go_ret3
     exact⟨HE.out,Br⟩
    have HE:=Qd (HNO.out (by rw[HQ.out,if_pos (by omega)]));clear HQ;have hnl':(T.length:Int)<=(n:Int):=by omega
    go_wp2
    go_ret3
    exact⟨HE.out,Br⟩
   have HE:=Qd (HNO.out (HF.out (λh=>hy58 h.2)));have z1:((k:Int)==0)=false:=beq_eq_false_iff_ne.2 (by omega);have z2:((k:Int)==(s.length:Int))=false:=beq_eq_false_iff_ne.2 (by omega);have z3:((y:Int)!=58)=true:=by simp;omega
   clear HA HG HF;by_cases h1:48<=y
   ·have h2:¬y<=57:=λh=>hnd ⟨h1,h⟩
    go_wp2
    go_ret3
    exact⟨HE.out,Br⟩
   go_wp2
   go_ret3
   exact⟨HE.out,Br⟩
  have HE:=Qd (HNO.out (by rw[HA.out];unfold Nw.after;split;rfl;rw[if_pos (by omega)]));have e:¬(k:Int)<(s.length:Int):=by omega
  clear hdig HA;by_cases hk0:k=0
  ·subst hk0
   go_wp2
   go_ret3
   exact⟨HE.out,Br⟩
  have e2:(k:Int)=(s.length:Int):=by omega
  replace e2:=Qd e2;go_wp2
  all_goals first|(go_ret3;exact⟨HE.out,Br⟩) |skip
section
open Go.RowKit Ar
def sv (s:List UInt8):Value:= .string ⟨s.toArray⟩
def Ga (l:List Int):List UInt8:=Lib.join (l.map Lib.itoa) [32]
theorem Lw (x y:List UInt8)(r:List (List UInt8))(s:List UInt8):Lib.join (x::y::r) s=x++(s++Lib.join (y::r) s):=by
 simp[Lib.join,List.intercalate,List.intersperse]
theorem Mw (m:Nat):∀xs:List (List UInt8),(∀x∈xs,x.length<=m)->(Lib.join xs [32]).length<=(m+1)*xs.length
 | [],_=>by simp[Lib.join_nil]
 | [x],h=>by rw[Lib.join_one];have:=h x List.mem_cons_self;simp;omega
 |x::y::r,h=>by
  rw[Lw];have h1:=h x List.mem_cons_self;have h2:=Mw m (y::r) (λz hz=>h z (List.mem_cons_of_mem _ hz));have e:(m+1)*(x::y::r).length=(m+1)+(m+1)*(y::r).length:=by rw[List.length_cons,Nat.mul_succ];omega
  rw[e];simp only[List.length_append,List.length_singleton];omega
theorem Xq {n:Int}(h1: -9223372036854775808<=n)(h2:n<=9223372036854775807):(Lib.itoa n).length<=21:=by
 unfold Lib.itoa
 split
 ·have:=(Ten.dec_len (k:=19) (r:=n.natAbs) (by omega)).2
  simp only[List.length_cons];omega
 have:=(Ten.dec_len (k:=19) (r:=n.toNat) (by omega)).2;omega
theorem Fc {l:List Int}(hw:Xa l):(Ga l).length<=22*l.length:=by
 have:=Mw 21 (l.map Lib.itoa) (λx hx=>by
  obtain⟨n,hn,rfl⟩:=List.mem_map.1 hx;exact Xq (hw n hn).1 (hw n hn).2)
 rwa[List.length_map] at this
def Mg (l:List Int)(k:Nat):List Value:=(l.take k).map (λn=>sv (Lib.itoa n))++List.replicate (l.length-k) (sv [])
theorem S0 {l:List Int}{k:Nat}(hk:k<l.length):(Mg l k).set k (sv (Lib.itoa l[k]))=Mg l (k+1):=by
 unfold Mg;have e1:((l.take k).map (λn=>sv (Lib.itoa n))).length=k:=by simp;omega
 rw[List.set_append_right _ _ (by omega),e1,Nat.sub_self,show l.length-k=(l.length-(k+1))+1 by omega,List.replicate_succ,List.set_cons_zero,List.take_succ_eq_append_getElem hk,List.map_append,List.append_assoc];rfl
theorem U0 {l:List Int}{k:Nat}(hk:k<l.length):(Mg l k)[k]? =some (sv []):=by
 unfold Mg;have e1:((l.take k).map (λn=>sv (Lib.itoa n))).length=k:=by simp;omega
 rw[List.getElem?_append_right (by omega),e1,Nat.sub_self,show l.length-k=(l.length-(k+1))+1 by omega,List.replicate_succ];rfl
theorem V0 {l:List Int}{k:Nat}(hk:k=l.length):Mg l k=l.map (λn=>sv (Lib.itoa n)):=by
 unfold Mg;rw[hk,List.take_length,Nat.sub_self];simp
theorem Ow:(Tryz.prog.info? 9).map (λi=>(i.zero,i.size,i.bytes))=some (some (.string ⟨#[]⟩),1,16):=by kernel_rfl
end
section
namespace Co
open Ar Sp
theorem Am:∀(s:List UInt8) (acc:Nat),(∀b∈s,Ten.isDig b)->s.foldl (λn b=>10*n+(b.toNat-48)) acc<18446744073709551616->Lib.parseUint10 acc s= .ok (s.foldl (λn b=>10*n+(b.toNat-48)) acc)
 | [],acc,_,_=>rfl
 |c::r,acc,hd,h=>by
  have hc:=hd c (by simp);unfold Ten.isDig at hc;rw[List.foldl_cons] at h⊢;have hge:∀(l:List UInt8) (a:Nat),a<=l.foldl (λn b=>10*n+(b.toNat-48)) a:=λl=>by
   induction l with
   |nil=>intro a;exact Lr
   |cons x y ih=>intro a;rw[List.foldl_cons];exact Nat.le_trans (by omega) (ih _)
  have h1:=hge r (10*acc+(c.toNat-48));rw[Lib.parseUint10,if_pos hc,if_neg (by omega),if_neg (by omega),Nat.mul_comm acc 10];exact Am r _ (λb hb=>hd b (by simp[hb])) h
theorem J8 {n:Nat}(h:n<18446744073709551616):Lib.parseMag (Lib.decDigits n)= .ok n:=by
 have hv:=Ten.dec_valid n;unfold Lib.parseMag;rw[if_neg hv.1.1,Am _ _ hv.1.2.2 (by have:=hv.2;unfold Ten.numOf at this;omega)];exact congrArg Lib.NumEnd.ok hv.2
theorem Pw {n:Int}(h1: -9223372036854775808<=n)(h2:n<=9223372036854775807):atoiP (Lib.itoa n)=some n:=by
 unfold atoiP Lib.itoa;by_cases hn:n<0
 ·rw[if_pos hn,Lib.atoiAll_minus,J8 (by omega)]
  unfold Lib.signed;dsimp only;rw[if_neg (by omega)];exact congrArg some (by omega)
 rw[if_neg hn];have hv:=Ten.dec_valid n.toNat;obtain⟨b,r,hbr⟩:=List.exists_cons_of_ne_nil hv.1.1;have hb:=hv.1.2.2 b (by rw[hbr];simp);unfold Ten.isDig at hb;rw[hbr,Lib.atoiAll_plain _ _ (by omega) (by omega),<-hbr,J8 (by omega)];unfold Lib.signless;dsimp only;rw[if_neg (by omega)];exact congrArg some (by omega)
theorem Gja (n:Int):(32:UInt8)∉Lib.itoa n:=by
 unfold Lib.itoa
 split
 ·intro h
  rcases List.mem_cons.1 h with h |h
  ·exact absurd h (by decide)
  exact dec_no32 _ h
 exact dec_no32 _
theorem Pda (n:Int):Lib.itoa n≠[]:=by
 unfold Lib.itoa
 split
 ·simp
 exact Ten.dec_ne _
theorem Gn:∀{l:List Int},Xa l->atoiAllP (l.map Lib.itoa)=some l
 | [],_=>rfl
 |x::r,h=>by
  have hx:=h x (by simp);rw[List.map_cons,atoiAllP,Pw hx.1 hx.2,Gn (λy hy=>h y (by simp[hy]))];rfl
theorem X0 {x:Int}{r:List Int}:words (Ga (x::r))=(x::r).map Lib.itoa:=by
 unfold words Ga;rw[List.map_cons,Vk _ _ _ (by have:=Li (r.map Lib.itoa) (Lib.itoa x);exact this)];intro y hy;rw[<-List.map_cons (f:=Lib.itoa)] at hy;obtain⟨z,-,rfl⟩:=List.mem_map.1 hy;exact Gja _
theorem Vp {x:Int}{r:List Int}:Ga (x::r)≠[]:=by
 unfold Ga;rw[List.map_cons,Lib.join_cons];intro e;exact Pda _ (List.append_eq_nil_iff.1 e).1
theorem Wp {l:List Int}(h:Xa l):shapeP (Ga l)=some l:=by
 match l,h with
 | [],_=>rfl
 |x::r,h=>
  unfold shapeP;rw[if_neg Vp,X0];exact Gn h
theorem atoi_wf {s:List UInt8}{n:Int}(h:atoiP s=some n): -9223372036854775808<=n/\n<=9223372036854775807:=by
 unfold atoiP at h
 split at h
 ·next v hv=>injection h with h;rw[<-h];exact Lib.atoiAll_bounds hv
 cases h
theorem Ys:∀{ws:List (List UInt8)} {l:List Int},atoiAllP ws=some l->Xa l
 | [],l,h=>by rw[atoiAllP] at h;injection h with h;subst h;exact nofun
 |x::r,l,h=>by
  rw[atoiAllP] at h
  split at h
  ·cases h
  next n hn=>
  obtain⟨l',h',rfl⟩:=Option.map_eq_some_iff.1 h;intro y hy;rcases List.mem_cons.1 hy with rfl |hy
  ·exact atoi_wf hn
  exact Ys h' y hy
theorem Wga {t:List UInt8}{l:List Int}(h:shapeP t=some l):Xa l:=by
 unfold shapeP at h
 split at h
 ·injection h with h;subst h;exact nofun
 exact Ys h
structure Ch where
 clear:Nat
 ins:List Ba
 label:Nat
 draws:List Int
structure Con where
 fuel:Int
 quota:Int
 depth:Int
 auth:Nat
 ch:List Ch
def head14:List UInt8:=[115,99,114,105,109,32,99,111,110,102,105,103,32,49]
def arrsT (l:List Ba):List UInt8:=(l.map λa=>Nw.net (arrT a)).flatten
def chT (c:Ch):List UInt8:=Nw.net (Lab.text c.clear)++(Nw.net (arrsT c.ins)++(Nw.net (Lab.text c.label)++Nw.net (Ga c.draws)))
def chsT (l:List Ch):List UInt8:=(l.map chT).flatten
def conH (x:Con):List UInt8:=Nw.net head14++(Nw.net (Ga [x.fuel,x.quota,x.depth])++Nw.net (Lab.text x.auth))
def conT (x:Con):List UInt8:=conH x++chsT x.ch
structure ChWf (c:Ch):Prop where
 clear:c.clear<18446744073709551616
 label:c.label<18446744073709551616
 ins:∀a∈c.ins,wfA a
 draws:Xa c.draws
structure ConWf (x:Con):Prop where
 auth:x.auth<18446744073709551616
 nums:Xa [x.fuel,x.quota,x.depth]
 ch:∀c∈x.ch,ChWf c
 len:x.ch.length=8
def okCh (c:Ch):Bool:=c.ins.all okA
def okCon (x:Con):Bool:=x.ch.all okCh
def rightCh (c:Ch):Bool:=c.ins.all (Ka 8)
noncomputable def arrsR:Nat->List UInt8->Option (List Ba)
 | 0,_=>some []
 |f+1,s=>if s=[] then some [] else match Nw.cut s with
  |none=>none
  |some p=>match parseX (readP 9 p.1) p.1 with
   |none=>none
   |some a=>(arrsR f p.2).map (a:: ·)
noncomputable def tagsR (s:List UInt8):Option (Nat×List UInt8):=match Nw.cut s with |none=>none |some p=>(labP p.1).map λl=>(l,p.2)
noncomputable def intsR (s:List UInt8):Option (List Int×List UInt8):=match Nw.cut s with |none=>none |some p=>(shapeP p.1).map λl=>(l,p.2)
noncomputable def insR (s:List UInt8):Option (List Ba×List UInt8):=match Nw.cut s with |none=>none |some p=>(arrsR p.1.length p.1).map λl=>(l,p.2)
noncomputable def chR (s:List UInt8):Option (Ch×List UInt8):=(tagsR s).bind λa=>(insR a.2).bind λb=>(tagsR b.2).bind λc=>(intsR c.2).map λd=>(⟨a.1,b.1,c.1,d.1⟩,d.2)
noncomputable def chsR:Nat->List UInt8->Option (List Ch)
 | 0,_=>some []
 |n+1,s=>(chR s).bind λc=>(chsR n c.2).map (c.1:: ·)
noncomputable def conB (b:List Int×List UInt8):Option Con:=match b.1 with
 | [f,q,d]=>(tagsR b.2).bind λa=>(chsR 8 a.2).map λL=>⟨f,q,d,a.1,L⟩
 |_=>none
noncomputable def conR (s:List UInt8):Option Con:=match Nw.cut s with
 |none=>none
 |some h=>if h.1=head14 then(intsR h.2).bind conB else none
theorem Hn:∀{l:List Ba} {f:Nat},l.length<=f->(∀a∈l,wfA a)->l.all (Ka 8)=true->arrsR f (arrsT l)=if l.all okA then some l else none
 | [],f,_,_,_=>by cases f<;>rfl
 |a::r,f+1,hf,hw,hr=>by
  rw[List.all_cons,Bool.and_eq_true] at hr;have e:arrsT (a::r)=Nw.net (arrT a)++arrsT r:=rfl;have hp:=net_pos (arrT a);rw[arrsR,e,if_neg (by intro e;rw[List.append_eq_nil_iff] at e;rw[e.1] at hp;simp at hp),Nw.cut_net];dsimp only;rw[parse_text hr.1 (hw a (by simp)),List.all_cons];cases okA a with
  |false=>rfl
  |true=>
   rw[if_pos rfl];dsimp only;rw[Hn (f:=f) (by simpa using hf) (λx hx=>hw x (by simp[hx])) hr.2,Bool.true_and]
   split<;>rfl
theorem Y0 (l:List Ba):l.length<=(arrsT l).length:=by
 induction l with
 |nil=>exact Nat.zero_le _
 |cons a r ih=>
  have e:arrsT (a::r)=Nw.net (arrT a)++arrsT r:=rfl;have hp:=net_pos (arrT a);rw[e];simp;omega
theorem Hja {c:Ch}(hw:ChWf c)(hr:rightCh c=true)(t:List UInt8):chR (chT c++t)=if okCh c then some (c,t) else none:=by
 unfold chR tagsR insR intsR chT;simp only[List.append_assoc,Nw.cut_net,Wc hw.clear,Option.map_some,Option.bind_some];rw[Hn (Y0 _) hw.ins hr];unfold okCh
 split
 ·simp only[Option.map_some,Option.bind_some,Nw.cut_net,Wc hw.label,Wp hw.draws]
 rfl
theorem Z0:∀{l:List Ch},(∀c∈l,ChWf c)->l.all rightCh=true->chsR l.length (chsT l)=if l.all okCh then some l else none
 | [],_,_=>rfl
 |c::r,hw,hr=>by
  rw[List.all_cons,Bool.and_eq_true] at hr;have e:chsT (c::r)=chT c++chsT r:=rfl;rw[List.length_cons,chsR,e,Hja (hw c (by simp)) hr.1,List.all_cons];cases okCh c with
  |false=>rfl
  |true=>
   rw[if_pos rfl,Option.bind_some,Z0 (λx hx=>hw x (by simp[hx])) hr.2,Bool.true_and]
   split<;>rfl
theorem con_text {x:Con}(hw:ConWf x)(hr:x.ch.all rightCh=true):conR (conT x)=if okCon x then some x else none:=by
 have h8:=Z0 hw.ch hr;rw[hw.len] at h8;unfold conR conT conH;simp only[List.append_assoc,Nw.cut_net,if_true];unfold intsR;rw[Nw.cut_net];dsimp only;rw[Wp hw.nums];simp only[Option.map_some,Option.bind_some,conB];unfold tagsR;rw[Nw.cut_net];dsimp only;rw[Wc hw.auth];simp only[Option.map_some,Option.bind_some];rw[h8];unfold okCon
 split<;>rfl
theorem Qda {s:List UInt8}{a:Ba}(h:parseX (readP 9 s) s=some a):wfA a/\Ka 8 a=true/\okA a=true:=by
 unfold parseX at h
 split at h
 ·cases h
 next b hb=>
 split at h
 ·next hr=>
  injection h with h
  subst h;have hw:=Xk 9 s b hb;refine⟨hw,hr.1,?_⟩;have h1:=(read_text _ b 8 (Nat.lt_succ_self _) hr.1 hw).1;rw[hr.2,hb] at h1
  split at h1
  ·assumption
  cases h1
 cases h
theorem Si:∀{f:Nat} {s:List UInt8} {l:List Ba},arrsR f s=some l->(∀a∈l,wfA a)/\l.all okA=true/\l.all (Ka 8)=true
 | 0,s,l,h=>by rw[arrsR] at h;injection h with h;subst h;exact⟨nofun,rfl,rfl⟩
 |f+1,s,l,h=>by
  rw[arrsR] at h
  split at h
  ·injection h with h;subst h;exact⟨nofun,rfl,rfl⟩
  split at h
  ·cases h
  split at h
  ·cases h
  next a ha=>
  obtain⟨l',h',rfl⟩:=Option.map_eq_some_iff.1 h;have h1:=Qda ha;have h2:=Si h';refine⟨λb hb=>?_,by rw[List.all_cons,h1.2.2,h2.2.1];rfl,by rw[List.all_cons,h1.2.1,h2.2.2];rfl⟩;rcases List.mem_cons.1 hb with rfl |hb
  ·exact h1.1
  exact h2.1 b hb
theorem Yq {s:List UInt8}{x:Nat×List UInt8}(h:tagsR s=some x):x.1<18446744073709551616:=by
 unfold tagsR at h
 split at h
 ·cases h
 obtain⟨l,hl,rfl⟩:=Option.map_eq_some_iff.1 h;exact Jg hl
theorem F1 {s:List UInt8}{x:List Int×List UInt8}(h:intsR s=some x):Xa x.1:=by
 unfold intsR at h
 split at h
 ·cases h
 obtain⟨l,hl,rfl⟩:=Option.map_eq_some_iff.1 h;exact Wga hl
theorem L8 {s:List UInt8}{x:List Ba×List UInt8}(h:insR s=some x):(∀a∈x.1,wfA a)/\x.1.all okA=true:=by
 unfold insR at h
 split at h
 ·cases h
 obtain⟨l,hl,rfl⟩:=Option.map_eq_some_iff.1 h;exact⟨(Si hl).1,(Si hl).2.1⟩
theorem Fla {s:List UInt8}{c:Ch×List UInt8}(h:chR s=some c):ChWf c.1/\okCh c.1=true:=by
 unfold chR at h;obtain⟨a,ha,h⟩:=Option.bind_eq_some_iff.1 h;obtain⟨b,hb,h⟩:=Option.bind_eq_some_iff.1 h;obtain⟨d,hd,h⟩:=Option.bind_eq_some_iff.1 h;obtain⟨e,he,rfl⟩:=Option.map_eq_some_iff.1 h;exact⟨⟨Yq ha,Yq hd,(L8 hb).1,F1 he⟩,(L8 hb).2⟩
theorem M8:∀{n:Nat} {s:List UInt8} {L:List Ch},chsR n s=some L->(∀c∈L,ChWf c)/\L.all okCh=true/\L.length=n
 | 0,s,L,h=>by rw[chsR] at h;injection h with h;subst h;exact⟨nofun,rfl,rfl⟩
 |n+1,s,L,h=>by
  rw[chsR] at h;obtain⟨c,hc,h⟩:=Option.bind_eq_some_iff.1 h;obtain⟨L',h',rfl⟩:=Option.map_eq_some_iff.1 h;have h1:=Fla hc;have h2:=M8 h';refine⟨λx hx=>?_,by rw[List.all_cons,h1.2,h2.2.1];rfl,by rw[List.length_cons,h2.2.2]⟩;rcases List.mem_cons.1 hx with rfl |hx
  ·exact h1.1
  exact h2.1 x hx
theorem conR_ok {s:List UInt8}{x:Con}(h:conR s=some x):ConWf x/\okCon x=true:=by
 unfold conR at h
 split at h
 ·cases h
 split at h
 ·obtain⟨b,hb,h⟩:=Option.bind_eq_some_iff.1 h
  unfold conB at h
  split at h
  ·next f q d e=>
   obtain⟨a,ha,h⟩:=Option.bind_eq_some_iff.1 h;obtain⟨L,hL,rfl⟩:=Option.map_eq_some_iff.1 h;have h1:=M8 hL;exact⟨⟨Yq ha,e▸F1 hb,h1.1,h1.2.2⟩,h1.2.1⟩
  cases h
 cases h
end Co
end
theorem Md (a b:List Nat):U (a++b)=U a++U b:=by simp[U]
theorem Saa (G c c' T j n:Nat)(A':Option Addr)(P a Q d:List Nat)(w:World)(hblk:Blk w G 139 (U (P++(a++Q))))(hP:P.length=j)(hy:Lies w G A' (U d))(ha:Nt.Ok a)(hd:Nt.Ok d)(hla:a.length=n+1)(hld:d.length=n)(hc:n+1<=c)(hc':n<=c')(hm:c<=9223372036854775807)(hm':c'<=9223372036854775807)(hT:T<4294967296)(hs:n<=1000000):
 Calls Tryz.prog 221 #[.slice (some ⟨G,j,none⟩) (n+1) c,.slice A' n c',.int .u64 (T:Int)] w λe w'=>∃(win:List Nat) (b:Nat),e= .returned (.bool (decide (b=1)))/\b<=1/\Blk w' G 139 (U (P++(win++Q)))/\Hid (win.length=n+1/\Nt.Ok win/\Nt.val win+T*Nt.val d=Nt.val a+b*4294967296^(n+1))/\w.grownBy w' (some G):=by
 subst hld;subst hP;rw[Md,Md] at hblk;have h:=M6 G c c' T A' (U P) (U Q) a d w hblk hy ha hd hla hc hc' hm hm' hT hs;rw[Nd] at h;refine h.mono ?_;rintro e w' ⟨win,b,he,hb,hblk',H,hg⟩;refine⟨win,b,he,hb,by rw[Md,Md];exact hblk',Qd ⟨by rw[H.out.1,hla],H.out.2.1,H.out.2.2⟩,hg⟩
theorem Taa (G c c' j n:Nat)(A':Option Addr)(P a Q d:List Nat)(w:World)(hblk:Blk w G 139 (U (P++(a++Q))))(hP:P.length=j)(hy:Lies w G A' (U d))(ha:Nt.Ok a)(hd:Nt.Ok d)(hla:a.length=n+1)(hld:d.length=n)(hc:n+1<=c)(hc':n<=c')(hm:c<=9223372036854775807)(hm':c'<=9223372036854775807)(hs:n<=1000000):
 Calls Tryz.prog 222 #[.slice (some ⟨G,j,none⟩) (n+1) c,.slice A' n c'] w λe w'=>∃(win:List Nat) (b:Nat),e= .returned (.tuple #[])/\Blk w' G 139 (U (P++(win++Q)))/\Hid (win.length=n+1/\Nt.Ok win/\Nt.val win+b*4294967296^(n+1)=Nt.val a+Nt.val d)/\w.grownBy w' (some G):=by
 subst hld;subst hP;rw[Md,Md] at hblk;have h:=N6 G c c' A' (U P) (U Q) a d w hblk hy ha hd hla hc hc' hm hm' hs;rw[Nd] at h;refine h.mono ?_;rintro e w' ⟨win,b,he,hblk',H,hg⟩;refine⟨win,b,he,by rw[Md,Md];exact hblk',Qd ⟨by rw[H.out.1,hla],H.out.2.1,H.out.2.2⟩,hg⟩
theorem Z6 (G c c' j n:Nat)(A':Option Addr)(P a Q d:List Nat)(w:World)(hblk:Blk w G 139 (U (P++(a++Q))))(hP:P.length=j)(hy:Lies w G A' (U d))(ha:Nt.Ok a)(hd:Nt.Ok d)(hla:a.length=n+1)(hld:d.length=n)(hn:2<=n)(hs:n<=1000000)
 (h31:∀h:n-1<d.length,2147483648<=d[n-1]) (hlt:Nt.val a<4294967296*Nt.val d) (hc:n+1<=c) (hc':n<=c'):
 Calls Tryz.prog 220 #[.slice (some ⟨G,j,none⟩) (n+1) c,.slice A' n c'] w λe w'=>∃g:Nat,e= .returned (.int .u64 (g:Int))/\Hid (Nt.val a/Nt.val d<=g/\g<=Nt.val a/Nt.val d+1)/\g<4294967296/\∃k,w'=w.drewN k:=by
 have hg:=hblk.lt;refine Oz (some ⟨G,j,none⟩) A' c c' w.heap.size n a d w ?_ (hy.more (by omega)) ha hd hla hld hn hs h31 hlt hc hc';refine .inr ⟨G,j,rfl,hg,λi v hv=>?_⟩;rw[Md,Md] at hblk;refine hblk.cell ?_;rw[List.getElem?_append_right (by rw[Nd];omega),Nd,hP,Nat.add_sub_cancel_left,List.getElem?_append_left]
 ·exact hv
 rcases Nat.lt_or_ge i (U a).length with h |h
 ·exact h
 rw[List.getElem?_eq_none h] at hv;cases hv
theorem Uaa {X D n k g b:Nat}{cur quo win:List Nat}(h:Nt.LongAt X D n cur quo (k+1))(hk:k<quo.length)(hD:0<D)
 (hg:Nt.val ((cur.drop k).take (n+1))/D<=g) (hg2:g<=Nt.val ((cur.drop k).take (n+1))/D+1) (hg3:g<4294967296)
 (hwl:win.length=n+1) (hwo:Nt.Ok win) (e:Nt.val win+g*D=Nt.val ((cur.drop k).take (n+1))+b*4294967296^(n+1)) (hb:b<=1):
 (b=0->Nt.LongAt X D n (cur.take k++(win++cur.drop (k+(n+1)))) (quo.set k g) k)/\
 (b=1->1<=g/\∀(win2:List Nat) (e':Nat),win2.length=n+1->Nt.Ok win2->Nt.val win2+e'*4294967296^(n+1)=Nt.val win+D->Nt.LongAt X D n (cur.take k++(win2++cur.drop (k+(n+1)))) (quo.set k (g-1)) k):=by
 obtain⟨w1,w2,w3,w4,w5,w6⟩:=h.window hk;have hR:=Nt.val_lt w2;rw[w1] at hR;have hV:=Nt.val_lt hwo;rw[hwl] at hV;have hDp:D<4294967296^(n+1):=by
  have:=h.hi;rw[Nat.pow_succ];omega
 obtain⟨r0,r1⟩:=Nt.round_ok hg hg2 hD hR hV e hb hDp;refine⟨λh0=>?_,λh1=>?_⟩
 ·obtain⟨_,a2,a3⟩:=r0 h0
  exact h.step hk hwl hwo hg3 a2 a3
 obtain⟨a1,a2⟩:=r1 h1;refine⟨by rw[a1];exact Nat.le_add_left _ _,λwin2 e' l2 o2 e2=>?_⟩;have hW:=Nt.val_lt o2;rw[l2] at hW;obtain⟨c1,c2⟩:=a2 _ e' hW e2;exact h.step hk l2 o2 (by omega) c1 c2
theorem G1:Vq:=by
 intro A A' c c' B x y w hx hy hB hc hc' hm hm' hlx hly hyx;have hy0:y≠0:=by
  intro h;rw[h,Nt.digs_zero] at hly;simp at hly
 obtain⟨n,hnn⟩:∃n,n=(Nt.digs y).length:=⟨_,rfl⟩;obtain⟨m,hmm⟩:∃m,m=(Nt.digs x).length:=⟨_,rfl⟩;have hnm:n<=m:=by rw[hnn,hmm];exact Nt.digs_len_le_of hyx
 rw[<-hnn] at hc' hly⊢;rw[<-hmm] at hc hlx⊢;obtain⟨b2,o2,rfl,hb2,htop⟩:=hy.limb (k:=n-1) (by omega);have htne:(Nt.digs y)[n-1]'(by omega)≠0:=by
  have h:=Nt.top_digs y (by intro h;rw[h] at hnn;simp at hnn;omega);rw[List.getLast_eq_getElem] at h
  simpa [<-hnn] using h
 have htb:=Nt.ok_get (Nt.ok_digs y) (i:=n-1) (by omega);obtain⟨t,htt⟩:∃t,t=(Nt.digs y)[n-1]'(by omega):=⟨_,rfl⟩;rw[<-htt] at htop htne htb;obtain⟨hL,hL1,hlo,hhi⟩:=Nt.shift_of htne htb;obtain⟨s,hss⟩:∃s,s=32-Lib.bitLen t:=⟨_,rfl⟩;rw[<-hss] at hlo hhi;have hs32:s<32:=by omega
 have LZ:Hid (∀w,Calls Tryz.prog 218 #[.int .u32 (t:Int)] w λe w'=>e= .returned (.int .i64 (s:Int))/\w=w'):=Qd (λw=>(Tryz.bits_LeadingZeros32 (t:Int) w (by omega) (by omega)).mono (by
  rintro e w' ⟨rfl,rfl⟩;refine⟨Gb ?_,rfl⟩;rw[Int.toNat_natCast,hss];omega))
 have UB:=Qd (λw' (hw:Below B w w') (hB':B<=w'.heap.size)=>Wca (some ⟨b2,o2,none⟩) c' B s (Nt.digs y) w' (hy.below hw) hB' (Nt.ok_digs y) (by omega) hm' (by omega) hs32);have UA:=Qd (λw' (hw:Below B w w') (hB':B<=w'.heap.size)=>Wca A c B s (Nt.digs x) w' (hx.below hw) hB' (Nt.ok_digs x) (by omega) hm (by omega) hs32);rw[Nt.val_digs,<-hnn] at UB;rw[Nt.val_digs,<-hmm] at UA;have SC:Hid (∀cur:List Nat,Nt.Ok cur->cur.length=n+1->Nt.val cur=y*2^s->y*2^s<4294967296^n/\Nt.val (cur.take n)=y*2^s/\Nt.Ok (cur.take n)/\(cur.take n).length=n/\∀h:n-1<(cur.take n).length,2147483648<=(cur.take n)[n-1]):=Qd (by
  obtain⟨q,rfl⟩:∃q,n=q+1:=⟨n-1,by omega⟩;intro cur ok hl hv;exact Nt.div_scaled (y:=y) (s:=s) (m:=q) (t:=t) hnn.symm (by simpa using htt) (by omega) hlo hhi ok hl hv)
 have hxm:x<4294967296^m:=by have:=Nt.val_lt (Nt.ok_digs x);rwa[Nt.val_digs,<-hmm] at this
 have hyn:4294967296^(n-1)<=y:=by have:=Nt.digs_ge hy0;rwa[<-hnn] at this
 have ST:Hid (∀cur:List Nat,Nt.Ok cur->Nt.val cur=x*2^s->cur.length=m+1->y*2^s<4294967296^n->Nt.LongAt (x*2^s) (y*2^s) n cur (List.replicate (m-n+1) 0) (m-n+1)):=
  Qd (λcur ok hv hl hD=>Nt.LongAt.start ok hv hl hnm (by omega) hxm hyn hD)
 have hD0:Hid (0<y*2^s):=Qd (Nat.mul_pos (by omega) (Nat.two_pow_pos s));have HY0:0<y:=by omega
 obtain⟨i0,hi,hz0,hz1,hz2⟩:=info_parts Mc;clear hx hy hnn hmm htt hss hlo hhi hL hL1 hxm hyn hy0;go_enter Tryz.func202,Tryz.ntmps202
 go_wp2_with fail
 refine(LZ.out _).mono ?_;rintro e w' ⟨rfl,rfl⟩;go_wp2_with fail
 refine(UB.out w Br hB).mono ?_;rintro e w1 ⟨cd,rfl,hblkd,HD,hb1⟩;have hb1B:Below B w w1:=hb1.mono hB;have hsz1:=hb1.size;have hlt1:=hblkd.lt;go_wp2_with fail
 refine(UA.out w1 hb1B (by omega)).mono ?_;rintro e w2 ⟨cr,rfl,hblkr,HR,hb2'⟩;have hsz2:=hb2'.size;have hlt2:=hblkr.lt;have hb02:Below w.heap.size w w2:=hb1.trans (hb2'.mono hsz1);have hblkd2:=hblkd.keep hb2' hlt1;clear hblkd hb2';go_wp2_with (at_make;refine Sb _ rfl _ _ 81 rfl 139 i0 (.int .u32 0) Tryz.underlying81 hi hz0 hz1 rfl .i64 .i64 _ _ (m-n+1) (m-n+1) rfl rfl (by omega) (by omega) Lr (by rw[hz2];omega) (by omega) w.heap.size w hb02 (by omega) ?_;intro w3 hblkq hb03 hb23 hlt3)
 have hblkr3:=hblkr.keep hb23 hlt2;have hblkd3:=hblkd2.keep hb23 (by omega);have hblkq3:Blk w3 w2.heap.size 139 (U (List.replicate (m-n+1) 0)):=by simpa [U] using hblkq
 clear hblkr hblkd2 hblkq hb23;obtain⟨hDn,hvd,hod,hld,h31⟩:=SC.out cd HD.out.1 HD.out.2.1 HD.out.2.2;have hS0:=Qd (ST.out cr HR.out.1 HR.out.2.2 HR.out.2.1 hDn);have HHD:=Qd (And.intro hvd (And.intro hod (And.intro hld h31)));have HCD:=Qd HD.out.2.1;clear HD HR SC ST UA UB LZ hDn hvd hod hld h31;go_loopw [11,12] (λi gv wr=>∃(k:Nat) (cur quo:List Nat),k<=m-n+1/\i= .int .i64 ((k:Int)-1)/\Blk wr w1.heap.size 139 (U cur)/\Blk wr w2.heap.size 139 (U quo)/\Blk wr w.heap.size 139 (U cd)/\Below w.heap.size w wr/\Hid (quo.length=m-n+1/\Nt.LongAt (x*2^s) (y*2^s) n cur quo k)) (λi _ _=>(intOf i+1).toNat)
 case atStart=>exact⟨m-n+1,cr,_,Lr,congrArg (Value.int .i64) (by omega),hblkr3,hblkq3,hblkd3,hb03,Qd ⟨by simp,hS0.out⟩⟩
 case round=>
  clear hblkr3 hblkq3 hblkd3 hb03 hS0;obtain⟨k,cur,quo,hk,rfl,hbr,hbq,hbd,hbel,H⟩:=hrel;rcases k with _ |k
  ·obtain⟨hql,HL⟩:=H.out
   obtain⟨hdq,hdr⟩:=HL.done HY0;have hcl:cur.length=m+1:=by have:=HL.len;rw[hql] at this;omega
   have hltq:=hbq.lt;have TR:Hid (∀wx:World,Blk wx w2.heap.size 139 (U quo)->Calls Tryz.prog 147 #[.slice (some ⟨w2.heap.size,0,none⟩) (m-n+1) (m-n+1)] wx λe w'=>e= .returned (.slice (some ⟨w2.heap.size,0,none⟩) (Nt.digs (x/y)).length (Nt.digs (x/y)).length)/\wx=w'):=Qd (λwx hbx=>by
    have h:=Ad (some ⟨w2.heap.size,0,none⟩) (m-n+1) wx.heap.size quo wx hbx.lies HL.okq (by omega) (by omega);rw[hql,hdq] at h;exact h)
   have hlr:Lies wr wr.heap.size (some ⟨w1.heap.size,0,none⟩) (U (cur.take n)):=by rw[<-Ik];exact hbr.lies.take n
   have DN:=Zfa (some ⟨w1.heap.size,0,none⟩) (m+1) wr.heap.size s (cur.take n) wr.drew hlr Lr (Nt.ok_take HL.ok n) (by rw[List.length_take];omega) (by omega) (by rw[List.length_take];omega) hs32;rw[hdr,List.length_take,hcl,Nat.min_eq_left (show n<=m+1 by omega)] at DN;have DNH:=Qd DN;have HQI:Hid (∀wx:World,Blk wx w2.heap.size 139 (U quo)->IsRes wx (.slice (some ⟨w2.heap.size,0,none⟩) (Nt.digs (x/y)).length (Nt.digs (x/y)).length) (Nt.digs (x/y))):=Qd (λwx hbx=>by
    have h:=hbx.lies.digs HL.okq;have h2:=Nt.digs_len_le HL.okq;rw[hdq] at h h2;rw[hql] at h2;exact⟨_,_,rfl,Lr,by omega,(λh=>by cases h),h⟩)
   have HBQ:=Qd hbq;clear hql HL hdq hdr hcl hlr DN H hbr hbd hbq;have hn1:n<=m+1:=by omega
   go_wp2_with fail
   go_region_with (first
    |(go_at_call 147;refine(TR.out _ (by first|exact HBQ.out |exact HBQ5.out)).mono ?_;rintro e w' ⟨rfl,rfl⟩)
    |(go_at_call 223;refine DNH.out.mono ?_;rintro e w5 ⟨vd,rfl,hres5,hb5⟩;have hbel5:Below wr.heap.size wr w5:=⟨hb5.os,hb5.tape,hb5.output,hb5.size,hb5.block⟩;clear hb5;have HBQ5:=Qd (HBQ.out.keep hbel5 hltq)))
   all_goals
    go_wp2_with fail
    go_ret2
    exact⟨_,_,rfl,HQI.out _ HBQ5.out,hres5,hbel.trans (hbel5.mono hbel.size)⟩
  have hk1:((k+1:Nat):Int)-1=(k:Int):=by omega
  rw[hk1];clear hk1;have hkq:k<quo.length:=by rw[H.out.1];omega
  obtain⟨v1,v2,v3,v4,v5,v6⟩:=H.out.2.window hkq;have hcl:cur.length=m+1:=by have:=H.out.2.len;rw[H.out.1] at this;omega
  have hbr':Blk wr w1.heap.size 139 (U (cur.take k++((cur.drop k).take (n+1)++cur.drop (k+(n+1))))):=by rw[<-v5];exact hbr
  have hld:Lies wr w1.heap.size (some ⟨w.heap.size,0,none⟩) (U (cd.take n)):=by
   rw[<-Ik];refine Lies.take ?_ n;refine .inr ⟨w.heap.size,0,rfl,by omega,λi v hv=>?_⟩;rw[Nat.zero_add];exact hbd.cell hv
  have ES:=Qd (Z6 w1.heap.size (m+1-k) (n+1) k n (some ⟨w.heap.size,0,none⟩) (cur.take k) ((cur.drop k).take (n+1)) (cur.drop (k+(n+1))) (cd.take n) wr hbr' v6 hld v2 HHD.out.2.1 v1 HHD.out.2.2.1 hly (by omega) HHD.out.2.2.2 (by rw[HHD.out.1];exact v3) (by omega) (by omega));have TK:=Qd (λ(g j:Nat) (hg:g<4294967296)=>Saa w1.heap.size (m+1-k) (n+1) g k n (some ⟨w.heap.size,0,none⟩) (cur.take k) ((cur.drop k).take (n+1)) (cur.drop (k+(n+1))) (cd.take n) (wr.drewN j) hbr' v6 hld v2 HHD.out.2.1 v1 HHD.out.2.2.1 (by omega) (by omega) (by omega) (by omega) hg (by omega));have LR:=Qd (λg b win=>Uaa (g:=g) (b:=b) (win:=win) H.out.2 hkq hD0.out);rw[HHD.out.1] at ES TK;have V6:=Qd v6;have HQL:=Qd H.out.1;have hkm:k+n<m+1:=by omega
  have hkc:k<m+1:=by omega
  clear v1 v2 v3 v4 v5 v6 hcl hbr' hbr H;generalize Nt.val ((cur.drop k).take (n+1))=R at*;have hwl:k+n+1-k=n+1:=by omega
  go_wp2_with fail
  refine ES.out.mono ?_;rintro e w' ⟨g,rfl,HG,hg3,j,rfl⟩;have TKg:=Qd (TK.out g j hg3);clear TK ES;go_wp2_with fail
  refine TKg.out.mono ?_;rintro e w4 ⟨win,b,rfl,hb1,hbr4,HW,hgr4⟩;have hgr:wr.grownBy w4 (some w1.heap.size):=⟨hgr4.os,hgr4.tape,hgr4.output,hgr4.size,hgr4.block⟩;have hbq4:=hbq.grown hgr (by intro h;injection h with h;omega);have hbd4:=hbd.grown hgr (by intro h;injection h with h;omega);have hbel4:Below w.heap.size w w4:=hbel.grown hgr hbel.size (λk hk=>by injection hk with hk;omega);have hR:=LR.out g b win HG.out.1 HG.out.2 hg3 HW.out.1 HW.out.2.1 HW.out.2.2 hb1;have hsz4:=hbel4.size;have hltq:=hbq4.lt;clear hgr hgr4 hbq hbd hbel TKg LR;rcases(show b=0\/b=1 by omega) with rfl |rfl
  ·have HN:=Qd (hR.1 rfl)
   clear hR;have hcell:w4.cell? ⟨w2.heap.size,k,none⟩=some (.int .u32 ((quo[k]:Nat):Int)):=hbq4.cell (by rw[U,List.getElem?_map,List.getElem?_eq_getElem (by omega)];rfl);have hfz:=hbq4.frozen k;generalize quo[k]=o at hcell;have BS:Hid (Blk (w4.setCell ⟨w2.heap.size,k,none⟩ (.int .u32 (g:Int))) w2.heap.size 139 (U (quo.set k g))):=Qd (by
    have:=hbq4.set_ k (.int .u32 (g:Int));rw[show(U quo).set k (.int .u32 (g:Int))=U (quo.set k g) from List.map_set.symm] at this;exact this)
   have BR:=Qd (hbr4.far (p:=⟨w2.heap.size,k,none⟩) (by show w1.heap.size≠w2.heap.size;omega) (.int .u32 (g:Int)));have BD:=Qd (hbd4.far (p:=⟨w2.heap.size,k,none⟩) (by show w.heap.size≠w2.heap.size;omega) (.int .u32 (g:Int)));clear hbr4 hbd4 hbq4;rw[show decide ((0:Nat)=1)=false from rfl];go_wp2_with fail
   refine⟨⟨k,_,_,by omega,by go_num,BR.out,BS.out,BD.out,hbel4.setCell (by show w.heap.size<=w2.heap.size;omega) _,Qd ⟨by rw[List.length_set];exact HQL.out,HN.out⟩⟩,by simp[intOf];try omega⟩
  obtain⟨hg1,hN⟩:=hR.2 rfl;have HN:=Qd hN;clear hR hN;have hld4:Lies w4 w1.heap.size (some ⟨w.heap.size,0,none⟩) (U (cd.take n)):=by
   rw[<-Ik];refine Lies.take ?_ n;refine .inr ⟨w.heap.size,0,rfl,by omega,λi v hv=>?_⟩;rw[Nat.zero_add];exact hbd4.cell hv
  have PB:=Qd (Taa w1.heap.size (m+1-k) (n+1) k n (some ⟨w.heap.size,0,none⟩) (cur.take k) win (cur.drop (k+(n+1))) (cd.take n) w4 hbr4 V6.out hld4 HW.out.2.1 HHD.out.2.1 HW.out.1 HHD.out.2.2.1 (by omega) (by omega) (by omega) (by omega) (by omega));rw[HHD.out.1] at PB;clear hbr4 hld4;rw[show decide ((1:Nat)=1)=true from rfl];go_wp2_with fail
  refine PB.out.mono ?_;rintro e w5 ⟨win2,b',rfl,hbr5,HW2,hgr⟩;have hbq5:=hbq4.grown hgr (by intro h;injection h with h;omega);have hbd5:=hbd4.grown hgr (by intro h;injection h with h;omega);have hbel5:Below w.heap.size w w5:=hbel4.grown hgr hbel4.size (λk hk=>by injection hk with hk;omega);have hsz5:=hbel5.size;have hltq5:=hbq5.lt;clear hgr hbq4 hbd4 hbel4 PB;have HN2:=Qd (HN.out win2 b' HW2.out.1 HW2.out.2.1 HW2.out.2.2);have hcell:w5.cell? ⟨w2.heap.size,k,none⟩=some (.int .u32 ((quo[k]:Nat):Int)):=hbq5.cell (by rw[U,List.getElem?_map,List.getElem?_eq_getElem (by omega)];rfl);have hfz:=hbq5.frozen k;generalize quo[k]=o at hcell;have BS:Hid (Blk (w5.setCell ⟨w2.heap.size,k,none⟩ (.int .u32 ((g-1:Nat):Int))) w2.heap.size 139 (U (quo.set k (g-1)))):=Qd (by
   have:=hbq5.set_ k (.int .u32 ((g-1:Nat):Int));rw[show(U quo).set k (.int .u32 ((g-1:Nat):Int))=U (quo.set k (g-1)) from List.map_set.symm] at this;exact this)
  have BR:=Qd (hbr5.far (p:=⟨w2.heap.size,k,none⟩) (by show w1.heap.size≠w2.heap.size;omega) (.int .u32 ((g-1:Nat):Int)));have BD:=Qd (hbd5.far (p:=⟨w2.heap.size,k,none⟩) (by show w.heap.size≠w2.heap.size;omega) (.int .u32 ((g-1:Nat):Int)));have e1:((g-1:Nat):Int)=(g:Int)-1:=by omega
  rw[e1] at BS BR BD;clear hbr5 hbd5 hbq5 e1;go_wp2_with fail
  refine⟨⟨k,_,_,by omega,by go_num,BR.out,BS.out,BD.out,hbel5.setCell (by show w.heap.size<=w2.heap.size;omega) _,Qd ⟨by rw[List.length_set];exact HQL.out,HN2.out⟩⟩,by simp[intOf];try omega⟩
section
open Go.RowKit
section
variable {w0 w : World} {v1 v2 : Value} {l1 l2 : List Nat}
theorem Vaa (h1:IsRes w v1 l1)(h2:IsRes w v2 l2)(o1:Nt.Ok l1)(o2:Nt.Ok l2)(s1:l1.length<=1000000)(s2:l2.length<=1000000)(hb:Below w0.heap.size w0 w):
 Calls Tryz.prog 171 #[v1,v2] w λe w'=>∃u1 u2,e= .returned (.tuple #[u1,u2,.bool (decide (Nt.val l2≠0))])/\IsRes w' u1 (Nt.digs (Nt.quo (Nt.val l1) (Nt.val l2)))/\IsRes w' u2 (Nt.digs (Nt.rest (Nt.val l1) (Nt.val l2)))/\Below w0.heap.size w0 w'/\Below w.heap.size w w':=by
 obtain⟨A,c,rfl,a1,a2,a3,a4⟩:=h1;obtain⟨A',c',rfl,b1,b2,b3,b4⟩:=h2;refine(Js A A' c c' w.heap.size l1 l2 w a4 b4 Lr o1 o2 a1 b1 a2 b2 s1 s2 (.inr G1)).mono ?_;rintro e w' ⟨u1,u2,rfl,r1,r2,hb'⟩;exact⟨u1,u2,rfl,r1,r2,hb.trans (hb'.mono hb.size),hb'⟩
theorem Xga (h1:IsRes w v1 l1)(o1:Nt.Ok l1)(s1:l1.length<=1000000)(hb:Below w0.heap.size w0 w):
 Calls Tryz.prog 145 #[v1] w λe w'=>∃v,e= .returned v/\IsRes w' v (Nt.digs (Nt.val l1))/\Below w0.heap.size w0 w'/\Below w.heap.size w w':=by
 have hd:=Nt.digs_len_le o1;obtain⟨A,c,rfl,a1,a2,a3,a4⟩:=h1;refine(Kf A c w.heap.size l1 w a4 Lr o1 a1 a2 (by omega)).mono ?_;rintro e w' ⟨rfl,r,hb'⟩;exact⟨_,rfl,⟨_,_,rfl,Lr,by omega,(λh=>by cases h),r.lies⟩,hb.trans (hb'.mono hb.size),hb'⟩
end
end
theorem N8 (A A':Option Addr)(c c':Nat)(a b:List Nat)(w:World)(hx:IsRes w (.slice A a.length c) a)(hy:IsRes w (.slice A' b.length c') b)(ha:Nt.Ok a)(hb:Nt.Ok b)(hs:a.length<=1000000)(hs':b.length<=1000000):
 Calls Tryz.prog 135 #[.slice A a.length c,.slice A' b.length c'] w λe w'=>∃v,e= .returned v/\IsRes w' v (Nt.digs (Nat.gcd (Nt.val a) (Nt.val b)))/\Below w.heap.size w w':=by
 have ha':=Nt.digs_len_le ha;have hb':=Nt.digs_len_le hb;obtain⟨_,_,e1,a1,a2,a3,a4⟩:=hx;obtain⟨_,_,e2,b1,b2,b3,b4⟩:=hy;injection e1 with e1 _ e1';subst e1 e1'
 injection e2 with e2 _ e2';subst e2 e2'
 have TA:=Qd (Ad A c w.heap.size a w a4 ha a1 a2);have TB:=Qd (Ad A' c' w.heap.size b w b4 hb b1 b2);have RA:Hid (∀A',A'=A->IsRes w (.slice A (Nt.digs (Nt.val a)).length (Nt.digs (Nt.val a)).length) (Nt.digs (Nt.val a))):=Qd (λ_ _=>⟨A,_,rfl,Lr,by omega,(λh=>by have:=a3 h;omega),a4.digs ha⟩);have RB:Hid (IsRes w (.slice A' (Nt.digs (Nt.val b)).length (Nt.digs (Nt.val b)).length) (Nt.digs (Nt.val b))):=Qd ⟨A',_,rfl,Lr,by omega,(λh=>by have:=b3 h;omega),b4.digs hb⟩;clear a1 a2 a3 a4 b1 b2 b3 b4 ha hb;have hla:(Nt.digs (Nt.val a)).length<=1000000:=by omega
 have hlb:(Nt.digs (Nt.val b)).length<=1000000:=by omega
 clear ha' hb' hs hs';obtain⟨x0,hx0⟩:∃x,x=Nt.val a:=⟨_,rfl⟩;obtain⟨y0,hy0⟩:∃y,y=Nt.val b:=⟨_,rfl⟩;rw[<-hx0] at TA RA hla⊢;rw[<-hy0] at TB RB hlb⊢;clear hx0 hy0;go_enter Tryz.func135,Tryz.ntmps135
 go_wp2_with fail
 refine TA.out.mono ?_;rintro e w' ⟨rfl,rfl⟩;go_wp2_with fail
 refine TB.out.mono ?_;rintro e w' ⟨rfl,rfl⟩;go_wp2_with fail
 go_loopg [0,1] y0 (λgk av bv wr=>∃(A A':Option Addr) (c c' x y:Nat),av= .slice A (Nt.digs x).length c/\bv= .slice A' (Nt.digs y).length c'/\y<=gk/\Hid (IsRes wr (.slice A (Nt.digs x).length c) (Nt.digs x)/\IsRes wr (.slice A' (Nt.digs y).length c') (Nt.digs y))/\(Nt.digs x).length<=1000000/\(Nt.digs y).length<=1000000/\Hid (Nat.gcd x y=Nat.gcd x0 y0)/\Below w.heap.size w wr)
 case atStart=>exact⟨_,_,_,_,x0,y0,rfl,rfl,Lr,Qd ⟨RA.out _ rfl,RB.out⟩,hla,hlb,Qd rfl,Br⟩
 case round=>
  clear TA TB RA RB hla hlb;obtain⟨P,P',k,k',x,y,rfl,rfl,hyk,HR,hlx,hly,HG,hbel⟩:=hrel;by_cases h0:y=0
  ·subst h0
   have HZ:Hid ((Nt.digs 0).length=0):=Qd (by rw[Nt.digs_zero];rfl);have NA:=Qd (Xga (w0:=w) HR.out.1 (Nt.ok_digs x) hlx hbel);have HE:Hid (Nat.gcd x0 y0=x):=Qd (by rw[<-HG.out,Nat.gcd_zero_right]);rw[Nt.val_digs] at NA;rw[HZ.out];clear HR HG;go_wp2_with fail
   refine NA.out.mono ?_;rintro e w1 ⟨v,rfl,hr,hb1,_⟩;go_wp2_with fail
   go_ret;exact⟨_,rfl,by rw[HE.out];exact hr,hb1⟩
  have hlp:0<(Nt.digs y).length:=by
   rcases Nat.eq_zero_or_pos (Nt.digs y).length with h |h
   ·exact absurd (Nt.digs_nil_iff.1 (List.eq_nil_of_length_eq_zero h)) h0
   exact h
  by_cases h2:(Nt.digs x).length<=2/\(Nt.digs y).length<=2
  ·obtain⟨h2x,h2y⟩:=h2
   obtain⟨⟨_,_,e1,a1,a2,a3,a4⟩,⟨_,_,e2,b1,b2,b3,b4⟩⟩:=HR.out;injection e1 with e1 _ e1';subst e1 e1'
   injection e2 with e2 _ e2';subst e2 e2'
   have WA:=Qd (Pz P k wr.heap.size (Nt.digs x) wr a4 (Nt.ok_digs x) h2x);have WB:=Qd (Pz P' k' wr.heap.size (Nt.digs y) wr b4 (Nt.ok_digs y) h2y);rw[Nt.val_digs] at WA WB;have hxa:x<18446744073709551616:=by
    have h:=Nt.val_lt (Nt.ok_digs x);rw[Nt.val_digs] at h;exact Nat.lt_of_lt_of_le h (Nat.le_trans (Nat.pow_le_pow_right (by omega) h2x) (by decide))
   have hxb:y<18446744073709551616:=by
    have h:=Nt.val_lt (Nt.ok_digs y);rw[Nt.val_digs] at h;exact Nat.lt_of_lt_of_le h (Nat.le_trans (Nat.pow_le_pow_right (by omega) h2y) (by decide))
   clear HR a1 a2 a3 a4 b1 b2 b3 b4;go_wp2_with fail
   refine WA.out.mono ?_;rintro e w' ⟨rfl,rfl⟩;go_wp2_with fail
   refine WB.out.mono ?_;rintro e w' ⟨rfl,rfl⟩;go_wp2_with fail
   refine(Zca x y _ hxa hxb).mono ?_;rintro e w1 ⟨v,rfl,hr,hb1⟩;go_wp2_with fail
   go_ret;exact⟨_,rfl,by rw[<-HG.out];exact hr,hbel.trans (hb1.mono hbel.size)⟩
  have DM:=Qd (Vaa (w0:=w) HR.out.1 HR.out.2 (Nt.ok_digs x) (Nt.ok_digs y) hlx hly hbel);rw[Nt.val_digs,Nt.val_digs,Nt.rest_pos h0] at DM;have hyp:x%y<y:=Nat.mod_lt _ (by omega);have hlr:(Nt.digs (x%y)).length<=1000000:=by
   have h:=Nt.digs_len_le_of (Nat.le_of_lt hyp);omega
  have HG2:Hid (Nat.gcd y (x%y)=Nat.gcd x0 y0):=Qd (by rw[Nt.gcd_step];exact HG.out);have HRY:=Qd HR.out.2;clear HR HG h0;obtain⟨r,hr⟩:∃r,r=x%y:=⟨_,rfl⟩;rw[<-hr] at DM hyp hlr HG2;clear hr;by_cases h2x:(Nt.digs x).length<=2
  ·have h2y:¬(Nt.digs y).length<=2:=λh=>h2 ⟨h2x,h⟩
   clear h2;go_wp2_with fail
   refine DM.out.mono ?_;rintro e w1 ⟨u1,u2,rfl,hr1,hr2,hb1,hb01⟩;have hry:=HRY.out.below hb01;obtain⟨A2,c2,rfl,q1,q2,q3,q4⟩:=hr2;have hr2':IsRes w1 (.slice A2 (Nt.digs r).length c2) (Nt.digs r):=⟨A2,c2,rfl,q1,q2,q3,q4⟩;clear q1 q2 q3 q4 hr1 hb01 HRY DM;have HRN:=Qd (And.intro hry hr2');clear hry hr2';go_wp2_with fail
   go_roundg r
   case measure=>omega
   case rel=>exact⟨_,_,_,_,y,r,rfl,rfl,Lr,HRN,hly,hlr,HG2,hb1⟩
  clear h2;go_wp2_with fail
  refine DM.out.mono ?_;rintro e w1 ⟨u1,u2,rfl,hr1,hr2,hb1,hb01⟩;have hry:=HRY.out.below hb01;obtain⟨A2,c2,rfl,q1,q2,q3,q4⟩:=hr2;have hr2':IsRes w1 (.slice A2 (Nt.digs r).length c2) (Nt.digs r):=⟨A2,c2,rfl,q1,q2,q3,q4⟩;clear q1 q2 q3 q4 hr1 hb01 HRY DM;have HRN:=Qd (And.intro hry hr2');clear hry hr2';go_wp2_with fail
  go_roundg r
  case measure=>omega
  case rel=>exact⟨_,_,_,_,y,r,rfl,rfl,Lr,HRN,hly,hlr,HG2,hb1⟩
theorem A7 {l:List Nat}(h:¬l.length<=32):Tr.trimmed l=false:=by unfold Tr.trimmed;rw[decide_eq_false h];rfl
theorem B7:Tr.trimmed []=true:=rfl
theorem J1 {l:List Nat}(h:l.length<=32)(h0:l.length≠0):Tr.trimmed l= !(l[l.length-1]'(by omega)==0):=by
 unfold Tr.trimmed;rw[decide_eq_true h];have h1:l≠[]:=by rintro rfl;exact h0 rfl
 rw[List.getLastD_eq_getLast?,List.getLast?_eq_some_getLast h1,List.getLast_eq_getElem];cases l with
 |nil=>exact absurd rfl h1
 |cons a r=>rfl
theorem Xp (v:Value)(l:List Nat)(w:World)(h:IsRes w v l):
 Calls Tryz.prog 133 #[v] w λe w'=>e= .returned (.bool (Tr.trimmed l))/\w=w':=by
 obtain⟨A,c,rfl,h1,h2,h3,h4⟩:=h;by_cases hl:l.length<=32
 ·have q1:decide ((l.length:Int)<=32)=true:=decide_eq_true (by omega)
  by_cases h0:l.length=0
  ·have q2:((l.length:Int)==0)=true:=beq_iff_eq.2 (by omega)
   obtain rfl:=List.eq_nil_of_length_eq_zero h0;have HR:=Qd B7;clear h4 hl h0 h1 h2 h3;go_enter Tryz.func133,Tryz.ntmps133
   go_wp2_with fail
   go_ret;exact⟨Aa (by rw[HR.out]),rfl⟩
  have q2:((l.length:Int)==0)=false:=beq_eq_false_iff_ne.2 (by omega);have HR:=Qd (J1 hl h0);obtain⟨b,off,rfl,hb,g0⟩:=h4.at_ (k:=l.length-1) (by simp[U];omega);have g1:w.cell? ⟨b,off+(l.length-1),none⟩=some (.int .u32 ((l[l.length-1]'(by omega):Nat):Int)):=by simpa [U] using g0
  have i0:(0:Int)<=(l.length:Int)-1:=by omega
  have i1:(l.length:Int)-1<(l.length:Int):=by omega
  have i2:((l.length:Int)-1).toNat=l.length-1:=by omega
  clear g0 h4 h3;generalize l[l.length-1]'(by omega)=x at*;generalize Tr.trimmed l=R at*;have q3:((x:Int)!=0)= !(x==0):=by
   by_cases e:x=0
   ·subst e;rfl
   have e1:((x:Int)!=0)=true:=bne_iff_ne.2 (by omega);have e2:(x==0)=false:=beq_eq_false_iff_ne.2 e;rw[e1,e2];rfl
  rw[<-q3] at HR;clear q3;generalize l.length=n at*;cases q4:((x:Int)!=0);all_goals
   rw[q4] at HR;go_enter Tryz.func133,Tryz.ntmps133
   go_wp2_with fail
   go_ret;exact⟨Aa (by rw[HR.out]),rfl⟩
 have q1:decide ((l.length:Int)<=32)=false:=decide_eq_false (by omega);have HR:=Qd (A7 hl);clear hl h4 h3;generalize l.length=n at*;go_enter Tryz.func133,Tryz.ntmps133
 go_wp2_with fail
 go_ret;exact⟨Aa (by rw[HR.out]),rfl⟩
theorem C7 (n:Bool)(t b:List Nat)(d:List Nat)(hd:d=Nt.digs (Nat.gcd (Nt.val t) (Nt.val b))):Tr.ratio ⟨n,t,b⟩=(Tr.trimmed t&&(Tr.trimmed b&&(!b.isEmpty&&(!(t.isEmpty&&n)&&((b==[1])||(d==[1])))))):=by
 subst hd;unfold Tr.ratio Tr.isOne;cases Tr.trimmed t<;>cases Tr.trimmed b<;>cases b.isEmpty<;>cases t.isEmpty<;>cases n<;>simp
theorem Yu (n:Bool)(A1:Option Addr)(t:List Nat)(c1:Nat)(A2:Option Addr)(b:List Nat)(c2:Nat)(w:World)(h1:IsRes w (.slice A1 t.length c1) t)(h2:IsRes w (.slice A2 b.length c2) b)(o1:Nt.Ok t)(o2:Nt.Ok b):
 Calls Tryz.prog 106 #[.agg #[.bool n,.slice A1 t.length c1,.slice A2 b.length c2]] w λe w'=>e= .returned (.bool (Rt.right ⟨n,t,b⟩))/\Below w.heap.size w w':=by
 have hrr:=Tr.ratio_right (n:=⟨n,t,b⟩) o1 o2;obtain⟨d,hd⟩:∃d,d=Nt.digs (Nat.gcd (Nt.val t) (Nt.val b)):=⟨_,rfl⟩;rw[C7 n t b d hd] at hrr;have HR:=Qd hrr;obtain⟨W,hW⟩:∃W,W=w.alloc (.cells #[.bool n,.slice A1 t.length c1,.slice A2 b.length c2] 83):=⟨_,rfl⟩;have hWs:W.heap.size=w.heap.size+1:=by rw[hW];simp
 have hWb:Below w.heap.size w W:=by rw[hW];exact Br.alloc Lr _
 have HQ:Hid (W.cell? ⟨w.heap.size,0,none⟩=some (.bool n)/\W.cell? ⟨w.heap.size,1,none⟩=some (.slice A1 t.length c1)/\W.cell? ⟨w.heap.size,2,none⟩=some (.slice A2 b.length c2)):=Qd (by rw[hW];exact⟨by go_simp,by go_simp,by go_simp⟩);have HW:=Qd hW;have hWl:w.heap.size<W.heap.size:=by omega
 have r1:=h1.below hWb;have r2:=h2.below hWb;have T1:=Qd (Xp _ _ W r1);have T2:=Qd (Xp _ _ W r2);have I2:=Qd (Pf _ _ W r2);have GC:=λ(s1:t.length<=1000000) (s2:b.length<=1000000)=>N8 A1 A2 c1 c2 t b W r1 r2 o1 o2 s1 s2;rw[<-hd] at GC;replace GC:=Qd GC;have ON:=Qd (λv (wx:World) (h:IsRes wx v d)=>Pf v d wx h);have TB:Hid (Tr.trimmed t=true->t.length<=1000000):=Qd (λh=>by have:=((Tr.trimmed_iff t).1 h).1;omega);have TB2:Hid (Tr.trimmed b=true->b.length<=1000000):=Qd (λh=>by have:=((Tr.trimmed_iff b).1 h).1;omega);have HE:Hid (b.isEmpty=decide (b.length=0)):=Qd (by cases b<;>simp);have HE':Hid (t.isEmpty=decide (t.length=0)):=Qd (by cases t<;>simp);clear hrr hd h1 h2 o1 o2 r1 r2;generalize Rt.right ⟨n,t,b⟩=R at*;generalize Tr.trimmed t=X at*;generalize Tr.trimmed b=Y at*;generalize b.isEmpty=BE at*;generalize t.isEmpty=TE at*;generalize(b==[1])=BO at*;generalize(d==[1])=DO at*;obtain⟨p0,p1,p2⟩:=HQ.out;clear hW;cases X
 ·go_enter Tryz.func106,Tryz.ntmps106
  go_wp2_with fail
  rw[<-HW.out];refine T1.out.mono ?_;rintro e w' ⟨rfl,rfl⟩;go_wp2_with fail
  go_ret;exact⟨Aa (by rw[<-HR.out];rfl),hWb⟩
 cases Y
 ·go_enter Tryz.func106,Tryz.ntmps106
  go_wp2_with fail
  rw[<-HW.out];refine T1.out.mono ?_;rintro e w' ⟨rfl,rfl⟩;go_wp2_with fail
  refine T2.out.mono ?_;rintro e w' ⟨rfl,rfl⟩;go_wp2_with fail
  go_ret;exact⟨Aa (by rw[<-HR.out];rfl),hWb⟩
 have s1:=TB.out rfl;have s2:=TB2.out rfl;have GC2:=Qd (GC.out s1 s2);clear GC TB TB2;generalize t.length=l1 at*;generalize b.length=l2 at*;by_cases z:l2=0
 ·subst z
  have HE2:Hid (BE=true):=Qd (by rw[HE.out];rfl);clear HE;go_enter Tryz.func106,Tryz.ntmps106
  go_wp2_with fail
  rw[<-HW.out];refine T1.out.mono ?_;rintro e w' ⟨rfl,rfl⟩;go_wp2_with fail
  refine T2.out.mono ?_;rintro e w' ⟨rfl,rfl⟩;go_wp2_with fail
  go_ret;exact⟨Aa (by rw[<-HR.out,HE2.out];simp),hWb⟩
 have qb:((l2:Int)==0)=false:=beq_eq_false_iff_ne.2 (by omega);have HE2:Hid (BE=false):=Qd (by rw[HE.out];exact decide_eq_false z);clear HE z;have key:(TE&&n)=true\/(TE&&n)=false:=by cases (TE&&n)<;>simp
 by_cases z1:l1=0
 ·subst z1
  have HT2:Hid (TE=true):=Qd (by rw[HE'.out];rfl);clear HE';cases n
  ·cases BO
   ·go_enter Tryz.func106,Tryz.ntmps106
    go_wp2_with fail
    rw[<-HW.out];refine T1.out.mono ?_;rintro e w' ⟨rfl,rfl⟩;go_wp2_with fail
    refine T2.out.mono ?_;rintro e w' ⟨rfl,rfl⟩;go_wp2_with fail
    refine I2.out.mono ?_;rintro e w' ⟨rfl,rfl⟩;go_wp2_with fail
    refine GC2.out.mono ?_;rintro e w2 ⟨v,rfl,hv,hb2⟩;have O2:=Qd (ON.out _ _ hv);clear hv p0 p1 p2;go_wp2_with fail
    refine O2.out.mono ?_;rintro e w3 ⟨rfl,rfl⟩;go_wp2_with fail
    go_ret;exact⟨Aa (by rw[<-HR.out,HE2.out,HT2.out];simp),hWb.trans (hb2.mono (by omega))⟩
   go_enter Tryz.func106,Tryz.ntmps106
   go_wp2_with fail
   rw[<-HW.out];refine T1.out.mono ?_;rintro e w' ⟨rfl,rfl⟩;go_wp2_with fail
   refine T2.out.mono ?_;rintro e w' ⟨rfl,rfl⟩;go_wp2_with fail
   refine I2.out.mono ?_;rintro e w' ⟨rfl,rfl⟩;go_wp2_with fail
   go_ret;exact⟨Aa (by rw[<-HR.out,HE2.out,HT2.out];simp),hWb⟩
  go_enter Tryz.func106,Tryz.ntmps106
  go_wp2_with fail
  rw[<-HW.out];refine T1.out.mono ?_;rintro e w' ⟨rfl,rfl⟩;go_wp2_with fail
  refine T2.out.mono ?_;rintro e w' ⟨rfl,rfl⟩;go_wp2_with fail
  go_ret;exact⟨Aa (by rw[<-HR.out,HT2.out];simp),hWb⟩
 have qt:((l1:Int)==0)=false:=beq_eq_false_iff_ne.2 (by omega);have HT2:Hid (TE=false):=Qd (by rw[HE'.out];exact decide_eq_false z1);clear HE' z1;cases BO
 ·go_enter Tryz.func106,Tryz.ntmps106
  go_wp2_with fail
  rw[<-HW.out];refine T1.out.mono ?_;rintro e w' ⟨rfl,rfl⟩;go_wp2_with fail
  refine T2.out.mono ?_;rintro e w' ⟨rfl,rfl⟩;go_wp2_with fail
  refine I2.out.mono ?_;rintro e w' ⟨rfl,rfl⟩;go_wp2_with fail
  refine GC2.out.mono ?_;rintro e w2 ⟨v,rfl,hv,hb2⟩;have O2:=Qd (ON.out _ _ hv);clear hv p0 p1 p2;go_wp2_with fail
  refine O2.out.mono ?_;rintro e w3 ⟨rfl,rfl⟩;go_wp2_with fail
  go_ret;exact⟨Aa (by rw[<-HR.out,HE2.out,HT2.out];simp),hWb.trans (hb2.mono (by omega))⟩
 go_enter Tryz.func106,Tryz.ntmps106
 go_wp2_with fail
 rw[<-HW.out];refine T1.out.mono ?_;rintro e w' ⟨rfl,rfl⟩;go_wp2_with fail
 refine T2.out.mono ?_;rintro e w' ⟨rfl,rfl⟩;go_wp2_with fail
 refine I2.out.mono ?_;rintro e w' ⟨rfl,rfl⟩;go_wp2_with fail
 go_ret;exact⟨Aa (by rw[<-HR.out,HE2.out,HT2.out];simp),hWb⟩
end Go.Proofs.YtmiccalfamepdaaGreatDoor
